/- What was done (Did); walks of script.Equal. -/
import Derived.Test.YtnjhpgmbfblgaaaGreatE4
import Derived.Test.YtnjhpgmbfblgaaaGreatE2
import Derived.Deep.DeepCutAuto
namespace Go.Proofs.YtnjhpgmbfblgaaaGreat.Ord
open Go.RowKit
set_option linter.unusedVariables false
structure DidR where
 step : StepR
 err : Int
 n : Int
 data : List Int
 micro : Int
 cmd : CmdR
 resp : RespR
 when : Int
structure DidV where
 vs : Value
 vd : Value
 vk : Value
 vv : Value
 vt : Value
 vi : Value
 vn : Value
def didL (sk sc sn : Int) (vs : Value) (err n : Int) (vd : Value) (micro op : Int) (key : ByteArray) (vk vv vt : Value) (life ver : Int) (tag pre chi : ByteArray) (rop rerr : Int) (vi : Value) (rver rcount : Int) (vn : Value) (at_ : Int) : List Value :=
 [.int .i64 sk, .int .i64 sc, .int .i64 sn, vs, .int .i64 err, .int .i64 n, vd, .int .i64 micro, .int .i64 op, .string key, vk, vv, vt, .int .u64 life, .int .u64 ver, .string tag, .string pre, .string chi, .int .i64 rop, .int .i64 rerr, vi, .int .u64 rver, .int .i64 rcount, vn, .int .u64 at_]
def didC (d : DidR) (p : DidV) : List Value := didL d.step.k d.step.c d.step.n p.vs d.err d.n p.vd d.micro d.cmd.op d.cmd.key p.vk p.vv p.vt d.cmd.life d.cmd.ver d.cmd.tag d.cmd.pre d.cmd.chi d.resp.op d.resp.err p.vi d.resp.ver d.resp.count p.vn d.when
def DidOk (w : World) (B : Nat) (d : DidR) (p : DidV) : Prop := DatG w B p.vs d.step.d /\ DatG w B p.vd d.data /\ CmdOk w B d.cmd p.vk p.vv p.vt /\ RespOk w B d.resp p.vi p.vn
theorem DidOk.below {B B' : Nat} {w w' : World} {d : DidR} {p : DidV} (h : DidOk w B d p) (hb : Below B' w w') (hB : B <= B') : DidOk w' B d p := ⟨h.1.below hb hB, h.2.1.below hb hB, h.2.2.1.below hb hB, h.2.2.2.below hb hB⟩
theorem DidOk.mono {B B' : Nat} {w : World} {d : DidR} {p : DidV} (h : DidOk w B d p) (hB : B <= B') : DidOk w B' d p := ⟨h.1.mono hB, h.2.1.mono hB, h.2.2.1.mono hB, h.2.2.2.mono hB⟩
theorem CellsAt.slice {w : World} {b : Nat} {cs : List Value} (h : CellsAt w ⟨b, 0, none⟩ cs) (k m : Nat) : CellsAt w ⟨b, k, none⟩ ((cs.drop k).take m) := by
 intro j v hj
 have hjm : j < m := by
  have := (List.getElem?_eq_some_iff.1 hj).1
  simp at this; omega
 rw [List.getElem?_take_of_lt hjm, List.getElem?_drop] at hj
 rw [Addr.add_mid]
 exact h.cell0 hj
theorem wpList_load_agg_w {ops : Array Oper} {rest : List Oper} {o : Oper} {a : Act} {w : World} {Q : Exit -> Act -> World -> Prop} (hw : Region.wanted o (yielded ops a.tmps) = true) (ty : TypeId) (x : Operand) (ho : o.op = .load ty x)
  (ad : Addr) (hx : a.eval x = .pointer (some ad)) (cs : List Value) (fs : Array Field) (hc : CellsAt w ad cs)
  (hu : Tryz.prog.underlying ty = some (.struct fs)) (hi : (Tryz.prog.info? ty).map (·.size) = some cs.length)
  (h : wpList Tryz.prog ops Q rest (a.put o.dst (.agg cs.toArray)) w) : wpList Tryz.prog ops Q (o :: rest) a w :=
 wpList_step fun K hK => by
  rw [if_pos hw]
  exact wp_load_agg ty x ho ad hx cs _ hc hu rfl hi (hK _ _ h)
theorem cmd_sizeL (a b c d e f g h i j : Value) : (Tryz.prog.info? 36).map (·.size) = some [a, b, c, d, e, f, g, h, i, j].length := by
 show _ = some 10
 kernel_rfl
theorem resp_sizeL (a b c d e f : Value) : (Tryz.prog.info? 40).map (·.size) = some [a, b, c, d, e, f].length := by
 show _ = some 6
 kernel_rfl
end Go.Proofs.YtnjhpgmbfblgaaaGreat.Ord
