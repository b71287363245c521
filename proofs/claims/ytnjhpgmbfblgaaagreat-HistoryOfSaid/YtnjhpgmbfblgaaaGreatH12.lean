/- Walk of the reader's micro: a request decoded, committed, written. -/
import Derived.Test.YtnjhpgmbfblgaaaGreatMH13
import Derived.Deep.RegionHeld
namespace Go.Proofs.YtnjhpgmbfblgaaaGreat.Ord
set_option maxRecDepth 100000
set_option maxHeartbeats 16000000
open Go.RowKit
set_option linter.unusedVariables false
set_option linter.unusedSimpArgs false
structure MicH (W : World) (lim rb cb b0 pn n : Nat) (v : Value) (ps lr lc ld lp : List Value) : Prop where
 r : RowL W rb 111 lr
 c : RowL W cb 196 lc
 d : RowL W b0 42 ld
 p : RowL W pn 52 lp
 o : W.ownsRow lim 113 1 v n ps
section
variable {W W' : World} {lim rb cb b0 pn n : Nat} {v : Value} {ps lr lc ld lp : List Value}
theorem MicH.new (hr : RowL W rb 111 lr) (hc : RowL W cb 196 lc) (hd : RowL W b0 42 ld) (ho : W.ownsRow lim 113 1 v n ps) (lp : List Value) : MicH (W.alloc (.cells lp.toArray 52)) lim rb cb b0 W.heap.size n v ps lr lc ld lp :=
 ⟨hr.alloc _, hc.alloc _, hd.alloc _, RowL.new W 52 lp, (Kept.of_below (L := []) (below1 W _)).own2 ho (by simp)⟩
theorem MicH.drew (h : MicH W lim rb cb b0 pn n v ps lr lc ld lp) : MicH W.drew lim rb cb b0 pn n v ps lr lc ld lp := ⟨h.r, h.c, h.d, h.p, h.o⟩
theorem MicH.alloc (h : MicH W lim rb cb b0 pn n v ps lr lc ld lp) (o : Obj) : MicH (W.alloc o) lim rb cb b0 pn n v ps lr lc ld lp :=
 ⟨h.r.alloc _, h.c.alloc _, h.d.alloc _, h.p.alloc _, (Kept.of_below (L := []) (below1 W _)).own2 h.o (by simp)⟩
theorem own_set {b : Nat} (ho : W.ownsRow lim 113 1 v n ps) (hb : v.ownBlock ≠ some b) (j : Nat) (u : Value) : (W.setCell ⟨b, j, none⟩ u).ownsRow lim 113 1 v n ps :=
 ((Kept.refl [b] W).setCell (p := ⟨b, j, none⟩) (by simp) u).own2 ho fun k hk => by simp at hk; subst hk; exact hb
theorem MicH.setC (h : MicH W lim rb cb b0 pn n v ps lr lc ld lp) (j : Nat) (u : Value) : MicH (W.setCell ⟨cb, j, none⟩ u) lim rb cb b0 pn n v ps lr (lc.set j u) ld lp :=
 ⟨h.r.setOther (h.r.ne h.c (by decide)) _, h.c.set j u, h.d.setOther (h.d.ne h.c (by decide)) _, h.p.setOther (h.p.ne h.c (by decide)) _, own_set h.o (h.c.ne_own h.o (by decide)) j u⟩
theorem MicH.setR (h : MicH W lim rb cb b0 pn n v ps lr lc ld lp) (j : Nat) (u : Value) : MicH (W.setCell ⟨rb, j, none⟩ u) lim rb cb b0 pn n v ps (lr.set j u) lc ld lp :=
 ⟨h.r.set j u, h.c.setOther (h.c.ne h.r (by decide)) _, h.d.setOther (h.d.ne h.r (by decide)) _, h.p.setOther (h.p.ne h.r (by decide)) _, own_set h.o (h.r.ne_own h.o (by decide)) j u⟩
theorem MicH.setP (h : MicH W lim rb cb b0 pn n v ps lr lc ld lp) (j : Nat) (u : Value) : MicH (W.setCell ⟨pn, j, none⟩ u) lim rb cb b0 pn n v ps lr lc ld (lp.set j u) :=
 ⟨h.r.setOther (h.r.ne h.p (by decide)) _, h.c.setOther (h.c.ne h.p (by decide)) _, h.d.setOther (h.d.ne h.p (by decide)) _, h.p.set j u, own_set h.o (h.p.ne_own h.o (by decide)) j u⟩
theorem MicH.putP : ∀ (vs : List Value) {W : World} {lp : List Value} (o : Nat), MicH W lim rb cb b0 pn n v ps lr lc ld lp -> MicH (W.setCells pn o vs) lim rb cb b0 pn n v ps lr lc ld (putL lp o vs)
 | [], _, _, _, h => h
 | u :: vs, _, _, o, h => MicH.putP vs (o + 1) (h.setP o u)
theorem MicH.grow {v' : Value} {n' : Nat} {ps' : List Value} (h : MicH W lim rb cb b0 pn n v ps lr lc ld lp) (hg : W.grownBy W' v.ownBlock) (ho : W'.ownsRow lim 113 1 v' n' ps') : MicH W' lim rb cb b0 pn n' v' ps' lr lc ld lp := by
 have hk := kept_of_grown hg
 exact ⟨h.r.kept hk (not_own (h.r.ne_own h.o (by decide))), h.c.kept hk (not_own (h.c.ne_own h.o (by decide))), h.d.kept hk (not_own (h.d.ne_own h.o (by decide))), h.p.kept hk (not_own (h.p.ne_own h.o (by decide))), ho⟩
end
theorem yields_aggL {ops : Array Oper} {S : World -> Prop} {op : Oper} {a : Act} (hw : Region.wanted op (yielded ops a.tmps) = true) (ty : TypeId) (x : Operand) (ho : op.op = .load ty x)
  (ad : Addr) (hx : a.eval x = .pointer (some ad)) (cs : List Value) (fs : Array Field) (hS : ∀ w, S w -> CellsAt w ad cs)
  (hu : Tryz.prog.underlying ty = some (.struct fs)) (hi : (Tryz.prog.info? ty).map (·.size) = some cs.length) : YieldsIf Tryz.prog ops S op (.agg cs.toArray) a :=
 .inl ⟨hw, fun w hw' => by
  unfold execOp
  simp only [ho, hx, Instr.loadAt, Instr.sureAddr, Sem.run_bind, Sem.run_pure, Result.andThen_ok, run_loadVar_at w ad ty cs _ (hS w hw') hu rfl hi]⟩
theorem own_slice {w : World} {base : Nat} {e : TypeId} {size n : Nat} {v : Value} {xs : List Value} (h : w.ownsRow base e size v n xs) : ∃ A c, v = .slice A n c := by
 rcases h.2 with ⟨rfl, rfl⟩ | ⟨g, cap, cur, rfl, _⟩
 ·exact ⟨_, _, rfl⟩
 ·exact ⟨_, _, rfl⟩
theorem newCall_dec {c : ConnS} {i : Nat} {d : DidR} (h : d.micro = 1) : newCall c i d = ⟨c.ses, c.num, false, d.cmd, resp0, i, -1, -1, 0⟩ := by
 unfold newCall
 rw [if_neg (by omega)]
theorem newCall_bad {c : ConnS} {i : Nat} {d : DidR} (h : d.micro = 2) : newCall c i d = ⟨c.ses, c.num, true, cmd0, d.resp, i, -1, -1, 0⟩ := by
 unfold newCall
 rw [if_pos h]
theorem newV_dec {d : DidR} {p : DidV} (h : d.micro = 1) : newV d p = ⟨p.vk, p.vv, p.vt, .slice none 0 0, .slice none 0 0⟩ := by
 unfold newV
 rw [if_neg (by omega)]
theorem newV_bad {d : DidR} {p : DidV} (h : d.micro = 2) : newV d p = ⟨.slice none 0 0, .slice none 0 0, .slice none 0 0, p.vi, p.vn⟩ := by
 unfold newV
 rw [if_pos h]
theorem q_info72 : (Tryz.prog.info? 113).map (fun i => (i.zero, i.size, i.bytes)) = some (some (.pointer none), 1, 8) := by kernel_rfl
theorem cmd_sizeA (a b c d e f g h i j : Value) : (Tryz.prog.info? 36).map (·.size) = some #[a, b, c, d, e, f, g, h, i, j].size := by
 show _ = some 10
 kernel_rfl
theorem cmd_oneH (op : Int) (key : ByteArray) (A : Option Addr) (n c : Nat) (A1 : Option Addr) (n1 c1 : Nat) (A2 : Option Addr) (n2 c2 : Nat) (life ver : Int) (t1 t2 t3 : ByteArray) : #[Value.int .i64 op, .string key, .slice A n c, .slice A1 n1 c1, .slice A2 n2 c2, .int .u64 life, .int .u64 ver, .string t1, .string t2, .string t3].all (·.oneCell') = true := all_oneCell_toArray (cs := [Value.int .i64 op, .string key, .slice A n c, .slice A1 n1 c1, .slice A2 n2 c2, .int .u64 life, .int .u64 ver, .string t1, .string t2, .string t3]) fun v hv => by
 simp only [List.mem_cons, List.not_mem_nil, or_false] at hv
 rcases hv with rfl | rfl | rfl | rfl | rfl | rfl | rfl | rfl | rfl | rfl <;> rfl
theorem Kept.drop {L L' : List Nat} {w w' : World} (h : Kept L w w') (hL : ∀ k ∈ L, k < w.heap.size -> k ∈ L') : Kept L' w w' := ⟨h.os, h.tape, h.output, h.size, fun k hk hn => h.block k hk fun hm => hn (hL k hm hk)⟩

theorem micro36_dec (lim rb mb cb n : Nat) (v : Value) (nses ses num : Int) (ps : List Value) (f : Int -> Option Value) (i : Nat) (d : DidR) (p : DidV) (w : World) (hr : RowL w rb 111 [.map (some mb), v, .int .i64 nses]) (hm : MapAt w mb f) (hf : f d.step.c = some (.pointer (some ⟨cb, 0, none⟩))) (hc : RowL w cb 196 [.int .i64 ses, .int .i64 num, .pointer none]) (hk : d.micro = 1)
  (ho : w.ownsRow lim 113 1 v n ps) (hlim : lim <= w.heap.size) (hn : n <= 100000) (hnum : 0 <= num /\ num <= 100000) (hcm : CmdOk w lim d.cmd p.vk p.vv p.vt) (hrs : RespOk w lim d.resp p.vi p.vn) :
  Calls Tryz.prog 104 #[.pointer (some ⟨rb, 0, none⟩), .int .i64 i, .agg (didC d p).toArray] w fun e w' => e = .returned (.bool true) /\ ∃ pn v', RowL w' rb 111 [.map (some mb), v', .int .i64 nses] /\ RowL w' cb 196 [.int .i64 ses, .int .i64 (num + 1), ptrV pn] /\ RowL w' pn 52 (callC (newCall ⟨ses, num, none⟩ i d) (newV d p)) /\ w'.ownsRow lim 113 1 v' (n + 1) (ps ++ [ptrV pn]) /\ w.heap.size <= pn /\ Kept (rb :: cb :: v.ownBlock.toList) w w' := by
 obtain ⟨pvs, pvd, pvk, pvv, pvt, pvi, pvn⟩ := p
 obtain ⟨⟨_, Ak, ck, rfl, _⟩, ⟨_, _, Av, cv, rfl, _⟩, ⟨_, At, ct, rfl, _⟩⟩ := hcm
 obtain ⟨⟨_, Ai, ci, rfl, _⟩, _, An, cn, rfl, _⟩ := hrs
 have hb := below1 w (.cells (didC d ⟨pvs, pvd, .slice Ak d.cmd.keys.length ck, .slice Av d.cmd.val.length cv, .slice At d.cmd.tags.length ct, .slice Ai d.resp.items.length ci, .slice An d.resp.nums.length cn⟩).toArray 42)
 have hr1 := hr.alloc (.cells (didC d ⟨pvs, pvd, .slice Ak d.cmd.keys.length ck, .slice Av d.cmd.val.length cv, .slice At d.cmd.tags.length ct, .slice Ai d.resp.items.length ci, .slice An d.resp.nums.length cn⟩).toArray 42)
 have hc1 := hc.alloc (.cells (didC d ⟨pvs, pvd, .slice Ak d.cmd.keys.length ck, .slice Av d.cmd.val.length cv, .slice At d.cmd.tags.length ct, .slice Ai d.resp.items.length ci, .slice An d.resp.nums.length cn⟩).toArray 42)
 have hm1 := hm.of_block (hb.block _ hm.lt)
 have ho1 := (Kept.of_below (L := []) hb).own2 ho (by simp)
 have hd := RowL.new w 42 (didC d ⟨pvs, pvd, .slice Ak d.cmd.keys.length ck, .slice Av d.cmd.val.length cv, .slice At d.cmd.tags.length ct, .slice Ai d.resp.items.length ci, .slice An d.resp.nums.length cn⟩)
 obtain ⟨W1, hW1⟩ : ∃ W1, w.alloc (.cells (didC d ⟨pvs, pvd, .slice Ak d.cmd.keys.length ck, .slice Av d.cmd.val.length cv, .slice At d.cmd.tags.length ct, .slice Ai d.resp.items.length ci, .slice An d.resp.nums.length cn⟩).toArray 42) = W1 := ⟨_, rfl⟩
 rw [hW1] at hb hr1 hm1 hd hc1 ho1
 have c1 : W1.drew.cell? ⟨w.heap.size, 1, none⟩ = some (.int .i64 d.step.c) := hd.cell (j := 1) rfl
 have c7 : W1.drew.cell? ⟨w.heap.size, 7, none⟩ = some (.int .i64 d.micro) := hd.cell (j := 7) rfl
 have r0 : W1.drew.cell? ⟨rb, 0, none⟩ = some (.map (some mb)) := hr1.cell (j := 0) rfl
 have k0 : W1.drew.cell? ⟨cb, 0, none⟩ = some (.int .i64 ses) := hc1.cell (j := 0) rfl
 have k1 : W1.drew.cell? ⟨cb, 1, none⟩ = some (.int .i64 num) := hc1.cell (j := 1) rfl
 have k2 : W1.drew.cell? ⟨cb, 2, none⟩ = some (.pointer none) := hc1.cell (j := 2) rfl
 have hlk := lk_micro (w := W1.drew) (k := d.step.c) (u := .pointer (some ⟨cb, 0, none⟩)) (hm1.of_block rfl) (by rw [hf]; rfl)
 have HB := kp hb
 have HW := kp hW1
 have HR1 := kp hr1
 have HC1 := kp hc1
 have HM1 := kp hm1
 have hd' := hd
 rw [show didC d ⟨pvs, pvd, .slice Ak d.cmd.keys.length ck, .slice Av d.cmd.val.length cv, .slice At d.cmd.tags.length ct, .slice Ai d.resp.items.length ci, .slice An d.resp.nums.length cn⟩ = [.int .i64 d.step.k, .int .i64 d.step.c, .int .i64 d.step.n, pvs, .int .i64 d.err, .int .i64 d.n, pvd, .int .i64 1, .int .i64 d.cmd.op, .string d.cmd.key, .slice Ak d.cmd.keys.length ck, .slice Av d.cmd.val.length cv, .slice At d.cmd.tags.length ct, .int .u64 d.cmd.life, .int .u64 d.cmd.ver, .string d.cmd.tag, .string d.cmd.pre, .string d.cmd.chi, .int .i64 d.resp.op, .int .i64 d.resp.err, .slice Ai d.resp.items.length ci, .int .u64 d.resp.ver, .int .i64 d.resp.count, .slice An d.resp.nums.length cn, .int .u64 d.when] by unfold didC didL; rw [hk]] at hd'
 have HD := kp hd'
 clear hd'
 have HO1 := kp ho1
 have HK0 := kp hk
 clear hb hr1 hm1 hd hW1 hr hm hc hc1 ho1 ho
 rw [hk] at c7
 simp only [didC_A] at *
 simp only [didA] at *
 rw [hk]
 go_enter Tryz.func104, Tryz.ntmps104
 go_upto_region 1 with (fail)
 rw [HK0.out] at HW
 rw [HW.out]
 go_cut [7] from 8 (fun s7 W' => s7 = .pointer (some ⟨cb, 0, none⟩) /\ W' = W1.drew)
 case first =>
  go_region_law (fail)
  all_goals
   go_wp2_with fail
   go_meet
   case rel => exact ⟨rfl, rfl⟩
 case rest =>
  obtain ⟨rfl, rfl⟩ := hcut
  clear hlk c1 r0
  have e2 : (W1.alloc (.cells [.int .i64 ses, .int .i64 num, .bool false, .int .i64 0, .string ⟨#[]⟩, .slice none 0 0, .slice none 0 0, .slice none 0 0, .int .u64 0, .int .u64 0, .string ⟨#[]⟩, .string ⟨#[]⟩, .string ⟨#[]⟩, .int .i64 0, .int .i64 0, .slice none 0 0, .int .u64 0, .int .i64 0, .slice none 0 0, .int .i64 i, .int .i64 (-1), .int .i64 (-1), .int .u64 0].toArray 52)).drew.drew.cell? ⟨cb, 2, none⟩ = some (.pointer none) := (HC1.out.alloc _).cell (j := 2) rfl
  have f2 : (W1.alloc (.cells [.int .i64 ses, .int .i64 num, .bool false, .int .i64 0, .string ⟨#[]⟩, .slice none 0 0, .slice none 0 0, .slice none 0 0, .int .u64 0, .int .u64 0, .string ⟨#[]⟩, .string ⟨#[]⟩, .string ⟨#[]⟩, .int .i64 0, .int .i64 0, .slice none 0 0, .int .u64 0, .int .i64 0, .slice none 0 0, .int .i64 i, .int .i64 (-1), .int .i64 (-1), .int .u64 0].toArray 52)).drew.drew.frozen? ⟨cb, 2, none⟩ = false := (HC1.out.alloc _).frozen 2
  go_upto_region 9 with (fail)
  go_cut [] from 16 (fun W' => MicH W' lim rb cb w.heap.size W1.heap.size n v ps [.map (some mb), v, .int .i64 nses] [.int .i64 ses, .int .i64 num, .pointer (some ⟨W1.heap.size, 0, none⟩)] [.int .i64 d.step.k, .int .i64 d.step.c, .int .i64 d.step.n, pvs, .int .i64 d.err, .int .i64 d.n, pvd, .int .i64 1, .int .i64 d.cmd.op, .string d.cmd.key, .slice Ak d.cmd.keys.length ck, .slice Av d.cmd.val.length cv, .slice At d.cmd.tags.length ct, .int .u64 d.cmd.life, .int .u64 d.cmd.ver, .string d.cmd.tag, .string d.cmd.pre, .string d.cmd.chi, .int .i64 d.resp.op, .int .i64 d.resp.err, .slice Ai d.resp.items.length ci, .int .u64 d.resp.ver, .int .i64 d.resp.count, .slice An d.resp.nums.length cn, .int .u64 d.when] [.int .i64 ses, .int .i64 num, .bool false, .int .i64 0, .string ⟨#[]⟩, .slice none 0 0, .slice none 0 0, .slice none 0 0, .int .u64 0, .int .u64 0, .string ⟨#[]⟩, .string ⟨#[]⟩, .string ⟨#[]⟩, .int .i64 0, .int .i64 0, .slice none 0 0, .int .u64 0, .int .i64 0, .slice none 0 0, .int .i64 i, .int .i64 (-1), .int .i64 (-1), .int .u64 0] /\ Kept [cb] W1 W')
  case first =>
   go_region_law (fail)
   all_goals
    go_wp2_with fail
    go_meet
    case rel => exact ⟨((MicH.new HR1.out HC1.out HD.out HO1.out [.int .i64 ses, .int .i64 num, .bool false, .int .i64 0, .string ⟨#[]⟩, .slice none 0 0, .slice none 0 0, .slice none 0 0, .int .u64 0, .int .u64 0, .string ⟨#[]⟩, .string ⟨#[]⟩, .string ⟨#[]⟩, .int .i64 0, .int .i64 0, .slice none 0 0, .int .u64 0, .int .i64 0, .slice none 0 0, .int .i64 i, .int .i64 (-1), .int .i64 (-1), .int .u64 0]).setC 2 (.pointer (some ⟨W1.heap.size, 0, none⟩))).drew.drew, (((Kept.refl [cb] W1).alloc _).setCell (p := ⟨cb, 2, none⟩) (by simp) _).drew.drew⟩
  case rest =>
   obtain ⟨hx, hkx⟩ := hcut
   have HX := kp hx
   have HKX := kp hkx
   clear hx hkx e2 f2 k0 k1 k2 c7
   obtain ⟨pn, hpn⟩ : ∃ pn, W1.heap.size = pn := ⟨_, rfl⟩
   rw [hpn] at HX
   have HPN := kp hpn
   clear hpn
   have k2 : wc.cell? ⟨cb, 2, none⟩ = some (.pointer (some ⟨pn, 0, none⟩)) := HX.out.c.cell (j := 2) rfl
   have k2d : wc.drew.cell? ⟨cb, 2, none⟩ = some (.pointer (some ⟨pn, 0, none⟩)) := HX.out.c.cell (j := 2) rfl
   have p2 : wc.cell? ⟨pn, 2, none⟩ = some (.bool false) := HX.out.p.cell (j := 2) rfl
   go_upto_region 12 with (fail)
   go_cut [] from 16 (fun W' => MicH W' lim rb cb w.heap.size pn n v ps [.map (some mb), v, .int .i64 nses] [.int .i64 ses, .int .i64 num, .pointer (some ⟨pn, 0, none⟩)] [.int .i64 d.step.k, .int .i64 d.step.c, .int .i64 d.step.n, pvs, .int .i64 d.err, .int .i64 d.n, pvd, .int .i64 1, .int .i64 d.cmd.op, .string d.cmd.key, .slice Ak d.cmd.keys.length ck, .slice Av d.cmd.val.length cv, .slice At d.cmd.tags.length ct, .int .u64 d.cmd.life, .int .u64 d.cmd.ver, .string d.cmd.tag, .string d.cmd.pre, .string d.cmd.chi, .int .i64 d.resp.op, .int .i64 d.resp.err, .slice Ai d.resp.items.length ci, .int .u64 d.resp.ver, .int .i64 d.resp.count, .slice An d.resp.nums.length cn, .int .u64 d.when] [.int .i64 ses, .int .i64 num, .bool false, .int .i64 d.cmd.op, .string d.cmd.key, .slice Ak d.cmd.keys.length ck, .slice Av d.cmd.val.length cv, .slice At d.cmd.tags.length ct, .int .u64 d.cmd.life, .int .u64 d.cmd.ver, .string d.cmd.tag, .string d.cmd.pre, .string d.cmd.chi, .int .i64 0, .int .i64 0, .slice none 0 0, .int .u64 0, .int .i64 0, .slice none 0 0, .int .i64 i, .int .i64 (-1), .int .i64 (-1), .int .u64 0] /\ Kept [cb, pn] W1 W')
   case first =>
    refine wp_region_held_drew (S := fun W => RowL W cb 196 [.int .i64 ses, .int .i64 num, .pointer (some ⟨pn, 0, none⟩)] /\ RowL W w.heap.size 42 [.int .i64 d.step.k, .int .i64 d.step.c, .int .i64 d.step.n, pvs, .int .i64 d.err, .int .i64 d.n, pvd, .int .i64 1, .int .i64 d.cmd.op, .string d.cmd.key, .slice Ak d.cmd.keys.length ck, .slice Av d.cmd.val.length cv, .slice At d.cmd.tags.length ct, .int .u64 d.cmd.life, .int .u64 d.cmd.ver, .string d.cmd.tag, .string d.cmd.pre, .string d.cmd.chi, .int .i64 d.resp.op, .int .i64 d.resp.err, .slice Ai d.resp.items.length ci, .int .u64 d.resp.ver, .int .i64 d.resp.count, .slice An d.resp.nums.length cn, .int .u64 d.when]) (by kernel_rfl) ⟨HX.out.c, HX.out.d⟩ (fun hS => ?_)
    have HS := kp hS
    clear hS
    refine wpAnyH_take (i := 0) (oi := ⟨some 60, .move (.tmp 7), 194, "history.go:42", #[], none⟩) (v := ?_) rfl (by kernel_rfl) (by kernel_rfl) (by kernel_rfl) (fun _ _ _ h => h) (Or.inl ⟨by rfl, ?_⟩) HS.out ?_
    rotate_left 1
    ·intro w hw; go_simp; try with_reducible rfl
    simp only [Act.put, z1, z2, z3]
    refine wpAnyH_take (i := 1) (oi := ⟨some 61, .nilCheck (.tmp 60), 0, "history.go:42", #[⟨0, .data⟩], none⟩) (v := ?_) rfl (by kernel_rfl) (by kernel_rfl) (by kernel_rfl) (fun _ _ _ h => h) (Or.inl ⟨by rfl, ?_⟩) HS.out ?_
    rotate_left 1
    ·intro w hw; go_simp; try with_reducible rfl
    simp only [Act.put, z1, z2, z3]
    refine wpAnyH_take (i := 2) (oi := ⟨some 62, .fieldAddr 196 (.tmp 61) 2, 0, "history.go:42", #[⟨1, .data⟩], none⟩) (v := ?_) rfl (by kernel_rfl) (by kernel_rfl) (by kernel_rfl) (fun _ _ _ h => h) (Or.inl ⟨by rfl, ?_⟩) HS.out ?_
    rotate_left 1
    ·intro w hw; go_simp; try with_reducible rfl
    simp only [Act.put, z1, z2, z3]
    refine wpAnyH_take (i := 3) (oi := ⟨some 63, .load 113 (.tmp 62), 113, "history.go:42", #[⟨2, .data⟩], none⟩) (v := ?_) rfl (by kernel_rfl) (by kernel_rfl) (by kernel_rfl) (fun _ _ _ h => h) (Or.inl ⟨by rfl, ?_⟩) HS.out ?_
    rotate_left 1
    ·intro w hw; have hw3 := hw.1.cell (j := 2) rfl; go_simp; try with_reducible rfl
    simp only [Act.put, z1, z2, z3]
    refine wpAnyH_take (i := 4) (oi := ⟨some 64, .fieldAddr 42 (.tmp 5) 5, 0, "history.go:42", #[], none⟩) (v := ?_) rfl (by kernel_rfl) (by kernel_rfl) (by kernel_rfl) (fun _ _ _ h => h) (Or.inl ⟨by rfl, ?_⟩) HS.out ?_
    rotate_left 1
    ·intro w hw; go_simp; try with_reducible rfl
    simp only [Act.put, z1, z2, z3]
    refine wpAnyH_take (i := 5) (oi := ⟨some 65, .load 36 (.tmp 64), 36, "history.go:42", #[⟨4, .data⟩], none⟩) (v := .agg #[.int .i64 d.cmd.op, .string d.cmd.key, .slice Ak d.cmd.keys.length ck, .slice Av d.cmd.val.length cv, .slice At d.cmd.tags.length ct, .int .u64 d.cmd.life, .int .u64 d.cmd.ver, .string d.cmd.tag, .string d.cmd.pre, .string d.cmd.chi]) rfl (by kernel_rfl) (by kernel_rfl) (by kernel_rfl) (fun _ _ _ h => h) (yields_aggL rfl 36 _ rfl ⟨w.heap.size, 8, none⟩ rfl [.int .i64 d.cmd.op, .string d.cmd.key, .slice Ak d.cmd.keys.length ck, .slice Av d.cmd.val.length cv, .slice At d.cmd.tags.length ct, .int .u64 d.cmd.life, .int .u64 d.cmd.ver, .string d.cmd.tag, .string d.cmd.pre, .string d.cmd.chi] _ (fun W hW => CellsAt.slice hW.2.cells 8 10) Tryz.underlying36 (cmd_sizeL _ _ _ _ _ _ _ _ _ _)) HS.out ?_
    simp only [Act.put, z1, z2, z3]
    refine wpAnyH_take (i := 6) (oi := ⟨some 66, .nilCheck (.tmp 63), 0, "history.go:42", #[⟨3, .data⟩, ⟨0, .phase⟩, ⟨1, .phase⟩, ⟨2, .phase⟩, ⟨3, .phase⟩, ⟨4, .phase⟩, ⟨5, .phase⟩], none⟩) (v := ?_) rfl (by kernel_rfl) (by kernel_rfl) (by kernel_rfl) (fun _ _ _ h => h) (Or.inl ⟨by rfl, ?_⟩) HS.out ?_
    rotate_left 1
    ·intro w hw; go_simp; try with_reducible rfl
    simp only [Act.put, z1, z2, z3]
    refine wpAnyH_take (i := 7) (oi := ⟨some 67, .fieldAddr 52 (.tmp 66) 3, 0, "history.go:42", #[⟨6, .data⟩, ⟨0, .phase⟩, ⟨1, .phase⟩, ⟨2, .phase⟩, ⟨3, .phase⟩, ⟨4, .phase⟩, ⟨5, .phase⟩], none⟩) (v := ?_) rfl (by kernel_rfl) (by kernel_rfl) (by kernel_rfl) (fun _ _ _ h => h) (Or.inl ⟨by rfl, ?_⟩) HS.out ?_
    rotate_left 1
    ·intro w hw; go_simp; try with_reducible rfl
    simp only [Act.put, z1, z2, z3]
    refine wpAnyH_ready (rs := [8]) (by kernel_rfl) (by simp) ?_
    refine AllReadyH.cons (o := ⟨none, .store 36 (.tmp 67) (.tmp 65), 0, "history.go:42", #[⟨7, .data⟩, ⟨5, .data⟩, ⟨0, .phase⟩, ⟨1, .phase⟩, ⟨2, .phase⟩, ⟨3, .phase⟩, ⟨4, .phase⟩, ⟨5, .phase⟩], none⟩) rfl (fun K hK => ?_) (AllReadyH.nil)
    with_reducible refine step_store_agg rfl 36 _ _ rfl pn 3 #[.int .i64 d.cmd.op, .string d.cmd.key, .slice Ak d.cmd.keys.length ck, .slice Av d.cmd.val.length cv, .slice At d.cmd.tags.length ct, .int .u64 d.cmd.life, .int .u64 d.cmd.ver, .string d.cmd.tag, .string d.cmd.pre, .string d.cmd.chi] ?_ ?_ ?_ (cmd_sizeA _ _ _ _ _ _ _ _ _ _) ?_ ?_
    ·rfl
    ·rfl
    ·exact HX.out.p.there (o := 3) (n := 10) (by simp)
    ·exact cmd_oneH _ _ _ _ _ _ _ _ _ _ _ _ _ _ _ _
    have hy := HX.out.drew.putP [.int .i64 d.cmd.op, .string d.cmd.key, .slice Ak d.cmd.keys.length ck, .slice Av d.cmd.val.length cv, .slice At d.cmd.tags.length ct, .int .u64 d.cmd.life, .int .u64 d.cmd.ver, .string d.cmd.tag, .string d.cmd.pre, .string d.cmd.chi] 3
    have hS := And.intro hy.c hy.d
    refine hK.out _ _ hS (fun _ => ?_)
    clear hK K HS
    have HS := kp hS
    clear hS
    simp only [Act.put, z1, z2, z3]
    refine wpAnyH_done (by kernel_rfl) ?_ _
    go_wp2_with fail
    go_meet
    case rel =>
     simp only [putL, List.set_cons_succ, List.set_cons_zero] at hy
     exact ⟨hy, kept_setCells (by simp) _ _ _ (HKX.out.mono (by simp)).drew⟩
   case rest =>
    obtain ⟨hx2, hkx2⟩ := hcut
    have HX2 := kp hx2
    have HKX2 := kp hkx2
    clear hx2 hkx2 k2 k2d p2
    have k1 : wc.cell? ⟨cb, 1, none⟩ = some (.int .i64 num) := HX2.out.c.cell (j := 1) rfl
    have z1 : wc.frozen? ⟨cb, 1, none⟩ = false := HX2.out.c.frozen 1
    obtain ⟨hn1, hn2⟩ := hnum
    have hn3 : num + 1 <= 9223372036854775807 := by omega
    have hn4 : -9223372036854775808 <= num + 1 := by omega
    go_upto_region 14 with (fail)
    have hxv := HX2.out.setC 1 (.int .i64 (num + 1))
    have hkv := HKX2.out.setCell (p := ⟨cb, 1, none⟩) (by simp) (.int .i64 (num + 1))
    simp only [List.set_cons_succ, List.set_cons_zero] at hxv
    obtain ⟨V, hV⟩ : ∃ V, wc.setCell ⟨cb, 1, none⟩ (.int .i64 (num + 1)) = V := ⟨_, rfl⟩
    rw [hV] at hxv hkv ⊢
    have HXV := kp hxv
    have HKV := kp hkv
    clear hV hxv hkv k1 z1 hn1 hn2 hn3 hn4
    have r1 : V.cell? ⟨rb, 1, none⟩ = some v := HXV.out.r.cell (j := 1) rfl
    have r1a : (V.alloc (.cells #[.pointer (some ⟨pn, 0, none⟩)] 113)).cell? ⟨rb, 1, none⟩ = some v := (HXV.out.r.alloc _).cell (j := 1) rfl
    have k2 : V.cell? ⟨cb, 2, none⟩ = some (.pointer (some ⟨pn, 0, none⟩)) := HXV.out.c.cell (j := 2) rfl
    have HSRC := kp (RowL.new V 113 [.pointer (some ⟨pn, 0, none⟩)])
    go_region_law ((with_reducible refine step_append_g (o := ⟨some 85, _, _, _, _, _⟩) rfl _ _ 109 rfl lim 113 (.pointer none) 1 8 ?_ ?_ ?_ ?_ v n ps ?_ ?_ ⟨V.heap.size, 0, none⟩ 1 1 [.pointer (some ⟨pn, 0, none⟩)] ?_ ?_ ?_ ?_ ?_ ?_ ?_ ?_); (· exact Tryz.underlying109); (· exact q_info72); (· rfl); (· decide); (· rfl); (· exact (HXV.out.alloc _).drew.o); (· rfl); (· rfl); (· intro j u hj; rw [Addr.add_mid, Nat.zero_add]; exact HSRC.out.cell hj); (· intro u hu; simp at hu; subst hu; rfl); (· unfold maxLen; omega); (· omega); (· simp; have := HB.out.size; have := HKV.out.size; omega); intro v' w5 ho5 hg5 hb5; obtain ⟨A5, c5, rfl⟩ := own_slice ho5; have hx5 := (HXV.out.alloc _).drew.grow hg5 ho5; have e5 := hx5.r.cell (j := 1) rfl; have f5 := hx5.r.frozen 1; have HX5 := kp hx5; have HG5 := kp (kept_of_grown hg5); clear hx5 ho5 hg5 hb5)
    all_goals
     have hx6 := HX5.out.setR 1 (.slice A5 (n + 1) c5)
     have hk6 := ((((HKV.out.mono (L' := rb :: cb :: pn :: v.ownBlock.toList) (by simp)).alloc (.cells #[.pointer (some ⟨pn, 0, none⟩)] 113)).drew).trans (HG5.out.mono (fun k hk => by simp at hk; simp [hk]))).setCell (p := ⟨rb, 1, none⟩) (by simp) (.slice A5 (n + 1) c5)
     have HX6 := kp hx6
     have HK6 := kp hk6
     clear hx6 hk6
     go_wp2_with fail
     go_ret
     refine ⟨rfl, pn, _, HX6.out.r, HX6.out.c, ?_, HX6.out.o, ?_, ?_⟩
     ·rw [newCall_dec HK0.out, newV_dec HK0.out]; exact HX6.out.p
     ·rw [<- HPN.out]; exact HB.out.size
     ·exact ((Kept.of_below HB.out).trans HK6.out).drop (fun k hk hl => by simp at hk; have := HPN.out; have := HB.out.size; rcases hk with h | h | h | h <;> first | omega | simp [h])
theorem micro36_bad (lim rb mb cb n : Nat) (v : Value) (nses ses num : Int) (ps : List Value) (f : Int -> Option Value) (i : Nat) (d : DidR) (p : DidV) (w : World) (hr : RowL w rb 111 [.map (some mb), v, .int .i64 nses]) (hm : MapAt w mb f) (hf : f d.step.c = some (.pointer (some ⟨cb, 0, none⟩))) (hc : RowL w cb 196 [.int .i64 ses, .int .i64 num, .pointer none]) (hk : d.micro = 2)
  (ho : w.ownsRow lim 113 1 v n ps) (hlim : lim <= w.heap.size) (hn : n <= 100000) (hnum : 0 <= num /\ num <= 100000) (hcm : CmdOk w lim d.cmd p.vk p.vv p.vt) (hrs : RespOk w lim d.resp p.vi p.vn) :
  Calls Tryz.prog 104 #[.pointer (some ⟨rb, 0, none⟩), .int .i64 i, .agg (didC d p).toArray] w fun e w' => e = .returned (.bool true) /\ ∃ pn v', RowL w' rb 111 [.map (some mb), v', .int .i64 nses] /\ RowL w' cb 196 [.int .i64 ses, .int .i64 (num + 1), ptrV pn] /\ RowL w' pn 52 (callC (newCall ⟨ses, num, none⟩ i d) (newV d p)) /\ w'.ownsRow lim 113 1 v' (n + 1) (ps ++ [ptrV pn]) /\ w.heap.size <= pn /\ Kept (rb :: cb :: v.ownBlock.toList) w w' := by
 obtain ⟨pvs, pvd, pvk, pvv, pvt, pvi, pvn⟩ := p
 obtain ⟨⟨_, Ak, ck, rfl, _⟩, ⟨_, _, Av, cv, rfl, _⟩, ⟨_, At, ct, rfl, _⟩⟩ := hcm
 obtain ⟨⟨_, Ai, ci, rfl, _⟩, _, An, cn, rfl, _⟩ := hrs
 have hb := below1 w (.cells (didC d ⟨pvs, pvd, .slice Ak d.cmd.keys.length ck, .slice Av d.cmd.val.length cv, .slice At d.cmd.tags.length ct, .slice Ai d.resp.items.length ci, .slice An d.resp.nums.length cn⟩).toArray 42)
 have hr1 := hr.alloc (.cells (didC d ⟨pvs, pvd, .slice Ak d.cmd.keys.length ck, .slice Av d.cmd.val.length cv, .slice At d.cmd.tags.length ct, .slice Ai d.resp.items.length ci, .slice An d.resp.nums.length cn⟩).toArray 42)
 have hc1 := hc.alloc (.cells (didC d ⟨pvs, pvd, .slice Ak d.cmd.keys.length ck, .slice Av d.cmd.val.length cv, .slice At d.cmd.tags.length ct, .slice Ai d.resp.items.length ci, .slice An d.resp.nums.length cn⟩).toArray 42)
 have hm1 := hm.of_block (hb.block _ hm.lt)
 have ho1 := (Kept.of_below (L := []) hb).own2 ho (by simp)
 have hd := RowL.new w 42 (didC d ⟨pvs, pvd, .slice Ak d.cmd.keys.length ck, .slice Av d.cmd.val.length cv, .slice At d.cmd.tags.length ct, .slice Ai d.resp.items.length ci, .slice An d.resp.nums.length cn⟩)
 obtain ⟨W1, hW1⟩ : ∃ W1, w.alloc (.cells (didC d ⟨pvs, pvd, .slice Ak d.cmd.keys.length ck, .slice Av d.cmd.val.length cv, .slice At d.cmd.tags.length ct, .slice Ai d.resp.items.length ci, .slice An d.resp.nums.length cn⟩).toArray 42) = W1 := ⟨_, rfl⟩
 rw [hW1] at hb hr1 hm1 hd hc1 ho1
 have c1 : W1.drew.cell? ⟨w.heap.size, 1, none⟩ = some (.int .i64 d.step.c) := hd.cell (j := 1) rfl
 have c7 : W1.drew.cell? ⟨w.heap.size, 7, none⟩ = some (.int .i64 d.micro) := hd.cell (j := 7) rfl
 have r0 : W1.drew.cell? ⟨rb, 0, none⟩ = some (.map (some mb)) := hr1.cell (j := 0) rfl
 have k0 : W1.drew.cell? ⟨cb, 0, none⟩ = some (.int .i64 ses) := hc1.cell (j := 0) rfl
 have k1 : W1.drew.cell? ⟨cb, 1, none⟩ = some (.int .i64 num) := hc1.cell (j := 1) rfl
 have k2 : W1.drew.cell? ⟨cb, 2, none⟩ = some (.pointer none) := hc1.cell (j := 2) rfl
 have hlk := lk_micro (w := W1.drew) (k := d.step.c) (u := .pointer (some ⟨cb, 0, none⟩)) (hm1.of_block rfl) (by rw [hf]; rfl)
 have HB := kp hb
 have HW := kp hW1
 have HR1 := kp hr1
 have HC1 := kp hc1
 have HM1 := kp hm1
 have hd' := hd
 rw [show didC d ⟨pvs, pvd, .slice Ak d.cmd.keys.length ck, .slice Av d.cmd.val.length cv, .slice At d.cmd.tags.length ct, .slice Ai d.resp.items.length ci, .slice An d.resp.nums.length cn⟩ = [.int .i64 d.step.k, .int .i64 d.step.c, .int .i64 d.step.n, pvs, .int .i64 d.err, .int .i64 d.n, pvd, .int .i64 2, .int .i64 d.cmd.op, .string d.cmd.key, .slice Ak d.cmd.keys.length ck, .slice Av d.cmd.val.length cv, .slice At d.cmd.tags.length ct, .int .u64 d.cmd.life, .int .u64 d.cmd.ver, .string d.cmd.tag, .string d.cmd.pre, .string d.cmd.chi, .int .i64 d.resp.op, .int .i64 d.resp.err, .slice Ai d.resp.items.length ci, .int .u64 d.resp.ver, .int .i64 d.resp.count, .slice An d.resp.nums.length cn, .int .u64 d.when] by unfold didC didL; rw [hk]] at hd'
 have HD := kp hd'
 clear hd'
 have HO1 := kp ho1
 have HK0 := kp hk
 clear hb hr1 hm1 hd hW1 hr hm hc hc1 ho1 ho
 rw [hk] at c7
 simp only [didC_A] at *
 simp only [didA] at *
 rw [hk]
 go_enter Tryz.func104, Tryz.ntmps104
 go_upto_region 1 with (fail)
 rw [HK0.out] at HW
 rw [HW.out]
 go_cut [7] from 8 (fun s7 W' => s7 = .pointer (some ⟨cb, 0, none⟩) /\ W' = W1.drew)
 case first =>
  go_region_law (fail)
  all_goals
   go_wp2_with fail
   go_meet
   case rel => exact ⟨rfl, rfl⟩
 case rest =>
  obtain ⟨rfl, rfl⟩ := hcut
  clear hlk c1 r0
  have e2 : (W1.alloc (.cells [.int .i64 ses, .int .i64 num, .bool true, .int .i64 0, .string ⟨#[]⟩, .slice none 0 0, .slice none 0 0, .slice none 0 0, .int .u64 0, .int .u64 0, .string ⟨#[]⟩, .string ⟨#[]⟩, .string ⟨#[]⟩, .int .i64 0, .int .i64 0, .slice none 0 0, .int .u64 0, .int .i64 0, .slice none 0 0, .int .i64 i, .int .i64 (-1), .int .i64 (-1), .int .u64 0].toArray 52)).drew.drew.cell? ⟨cb, 2, none⟩ = some (.pointer none) := (HC1.out.alloc _).cell (j := 2) rfl
  have f2 : (W1.alloc (.cells [.int .i64 ses, .int .i64 num, .bool true, .int .i64 0, .string ⟨#[]⟩, .slice none 0 0, .slice none 0 0, .slice none 0 0, .int .u64 0, .int .u64 0, .string ⟨#[]⟩, .string ⟨#[]⟩, .string ⟨#[]⟩, .int .i64 0, .int .i64 0, .slice none 0 0, .int .u64 0, .int .i64 0, .slice none 0 0, .int .i64 i, .int .i64 (-1), .int .i64 (-1), .int .u64 0].toArray 52)).drew.drew.frozen? ⟨cb, 2, none⟩ = false := (HC1.out.alloc _).frozen 2
  go_upto_region 9 with (fail)
  go_cut [] from 16 (fun W' => MicH W' lim rb cb w.heap.size W1.heap.size n v ps [.map (some mb), v, .int .i64 nses] [.int .i64 ses, .int .i64 num, .pointer (some ⟨W1.heap.size, 0, none⟩)] [.int .i64 d.step.k, .int .i64 d.step.c, .int .i64 d.step.n, pvs, .int .i64 d.err, .int .i64 d.n, pvd, .int .i64 2, .int .i64 d.cmd.op, .string d.cmd.key, .slice Ak d.cmd.keys.length ck, .slice Av d.cmd.val.length cv, .slice At d.cmd.tags.length ct, .int .u64 d.cmd.life, .int .u64 d.cmd.ver, .string d.cmd.tag, .string d.cmd.pre, .string d.cmd.chi, .int .i64 d.resp.op, .int .i64 d.resp.err, .slice Ai d.resp.items.length ci, .int .u64 d.resp.ver, .int .i64 d.resp.count, .slice An d.resp.nums.length cn, .int .u64 d.when] [.int .i64 ses, .int .i64 num, .bool true, .int .i64 0, .string ⟨#[]⟩, .slice none 0 0, .slice none 0 0, .slice none 0 0, .int .u64 0, .int .u64 0, .string ⟨#[]⟩, .string ⟨#[]⟩, .string ⟨#[]⟩, .int .i64 0, .int .i64 0, .slice none 0 0, .int .u64 0, .int .i64 0, .slice none 0 0, .int .i64 i, .int .i64 (-1), .int .i64 (-1), .int .u64 0] /\ Kept [cb] W1 W')
  case first =>
   go_region_law (fail)
   all_goals
    go_wp2_with fail
    go_meet
    case rel => exact ⟨((MicH.new HR1.out HC1.out HD.out HO1.out [.int .i64 ses, .int .i64 num, .bool true, .int .i64 0, .string ⟨#[]⟩, .slice none 0 0, .slice none 0 0, .slice none 0 0, .int .u64 0, .int .u64 0, .string ⟨#[]⟩, .string ⟨#[]⟩, .string ⟨#[]⟩, .int .i64 0, .int .i64 0, .slice none 0 0, .int .u64 0, .int .i64 0, .slice none 0 0, .int .i64 i, .int .i64 (-1), .int .i64 (-1), .int .u64 0]).setC 2 (.pointer (some ⟨W1.heap.size, 0, none⟩))).drew.drew, (((Kept.refl [cb] W1).alloc _).setCell (p := ⟨cb, 2, none⟩) (by simp) _).drew.drew⟩
  case rest =>
   obtain ⟨hx, hkx⟩ := hcut
   have HX := kp hx
   have HKX := kp hkx
   clear hx hkx e2 f2 k0 k1 k2 c7
   obtain ⟨pn, hpn⟩ : ∃ pn, W1.heap.size = pn := ⟨_, rfl⟩
   rw [hpn] at HX
   have HPN := kp hpn
   clear hpn
   have k2 : wc.cell? ⟨cb, 2, none⟩ = some (.pointer (some ⟨pn, 0, none⟩)) := HX.out.c.cell (j := 2) rfl
   have k2d : wc.drew.cell? ⟨cb, 2, none⟩ = some (.pointer (some ⟨pn, 0, none⟩)) := HX.out.c.cell (j := 2) rfl
   have p2 : wc.cell? ⟨pn, 2, none⟩ = some (.bool true) := HX.out.p.cell (j := 2) rfl
   go_upto_region 11 with (fail)
   go_cut [] from 16 (fun W' => MicH W' lim rb cb w.heap.size pn n v ps [.map (some mb), v, .int .i64 nses] [.int .i64 ses, .int .i64 num, .pointer (some ⟨pn, 0, none⟩)] [.int .i64 d.step.k, .int .i64 d.step.c, .int .i64 d.step.n, pvs, .int .i64 d.err, .int .i64 d.n, pvd, .int .i64 2, .int .i64 d.cmd.op, .string d.cmd.key, .slice Ak d.cmd.keys.length ck, .slice Av d.cmd.val.length cv, .slice At d.cmd.tags.length ct, .int .u64 d.cmd.life, .int .u64 d.cmd.ver, .string d.cmd.tag, .string d.cmd.pre, .string d.cmd.chi, .int .i64 d.resp.op, .int .i64 d.resp.err, .slice Ai d.resp.items.length ci, .int .u64 d.resp.ver, .int .i64 d.resp.count, .slice An d.resp.nums.length cn, .int .u64 d.when] [.int .i64 ses, .int .i64 num, .bool true, .int .i64 0, .string ⟨#[]⟩, .slice none 0 0, .slice none 0 0, .slice none 0 0, .int .u64 0, .int .u64 0, .string ⟨#[]⟩, .string ⟨#[]⟩, .string ⟨#[]⟩, .int .i64 d.resp.op, .int .i64 d.resp.err, .slice Ai d.resp.items.length ci, .int .u64 d.resp.ver, .int .i64 d.resp.count, .slice An d.resp.nums.length cn, .int .i64 i, .int .i64 (-1), .int .i64 (-1), .int .u64 0] /\ Kept [cb, pn] W1 W')
   case first =>
    refine wp_region_held_drew (S := fun W => RowL W cb 196 [.int .i64 ses, .int .i64 num, .pointer (some ⟨pn, 0, none⟩)] /\ RowL W w.heap.size 42 [.int .i64 d.step.k, .int .i64 d.step.c, .int .i64 d.step.n, pvs, .int .i64 d.err, .int .i64 d.n, pvd, .int .i64 2, .int .i64 d.cmd.op, .string d.cmd.key, .slice Ak d.cmd.keys.length ck, .slice Av d.cmd.val.length cv, .slice At d.cmd.tags.length ct, .int .u64 d.cmd.life, .int .u64 d.cmd.ver, .string d.cmd.tag, .string d.cmd.pre, .string d.cmd.chi, .int .i64 d.resp.op, .int .i64 d.resp.err, .slice Ai d.resp.items.length ci, .int .u64 d.resp.ver, .int .i64 d.resp.count, .slice An d.resp.nums.length cn, .int .u64 d.when]) (by kernel_rfl) ⟨HX.out.c, HX.out.d⟩ (fun hS => ?_)
    have HS := kp hS
    clear hS
    refine wpAnyH_take (i := 0) (oi := ⟨some 52, .move (.tmp 7), 194, "history.go:40", #[], none⟩) (v := ?_) rfl (by kernel_rfl) (by kernel_rfl) (by kernel_rfl) (fun _ _ _ h => h) (Or.inl ⟨by rfl, ?_⟩) HS.out ?_
    rotate_left 1
    ·intro w hw; go_simp; try with_reducible rfl
    simp only [Act.put, z1, z2, z3]
    refine wpAnyH_take (i := 1) (oi := ⟨some 53, .nilCheck (.tmp 52), 0, "history.go:40", #[⟨0, .data⟩], none⟩) (v := ?_) rfl (by kernel_rfl) (by kernel_rfl) (by kernel_rfl) (fun _ _ _ h => h) (Or.inl ⟨by rfl, ?_⟩) HS.out ?_
    rotate_left 1
    ·intro w hw; go_simp; try with_reducible rfl
    simp only [Act.put, z1, z2, z3]
    refine wpAnyH_take (i := 2) (oi := ⟨some 54, .fieldAddr 196 (.tmp 53) 2, 0, "history.go:40", #[⟨1, .data⟩], none⟩) (v := ?_) rfl (by kernel_rfl) (by kernel_rfl) (by kernel_rfl) (fun _ _ _ h => h) (Or.inl ⟨by rfl, ?_⟩) HS.out ?_
    rotate_left 1
    ·intro w hw; go_simp; try with_reducible rfl
    simp only [Act.put, z1, z2, z3]
    refine wpAnyH_take (i := 3) (oi := ⟨some 55, .load 113 (.tmp 54), 113, "history.go:40", #[⟨2, .data⟩], none⟩) (v := ?_) rfl (by kernel_rfl) (by kernel_rfl) (by kernel_rfl) (fun _ _ _ h => h) (Or.inl ⟨by rfl, ?_⟩) HS.out ?_
    rotate_left 1
    ·intro w hw; have hw3 := hw.1.cell (j := 2) rfl; go_simp; try with_reducible rfl
    simp only [Act.put, z1, z2, z3]
    refine wpAnyH_take (i := 4) (oi := ⟨some 56, .fieldAddr 42 (.tmp 5) 6, 0, "history.go:40", #[], none⟩) (v := ?_) rfl (by kernel_rfl) (by kernel_rfl) (by kernel_rfl) (fun _ _ _ h => h) (Or.inl ⟨by rfl, ?_⟩) HS.out ?_
    rotate_left 1
    ·intro w hw; go_simp; try with_reducible rfl
    simp only [Act.put, z1, z2, z3]
    refine wpAnyH_take (i := 5) (oi := ⟨some 57, .load 40 (.tmp 56), 40, "history.go:40", #[⟨4, .data⟩], none⟩) (v := .agg #[.int .i64 d.resp.op, .int .i64 d.resp.err, .slice Ai d.resp.items.length ci, .int .u64 d.resp.ver, .int .i64 d.resp.count, .slice An d.resp.nums.length cn]) rfl (by kernel_rfl) (by kernel_rfl) (by kernel_rfl) (fun _ _ _ h => h) (yields_aggL rfl 40 _ rfl ⟨w.heap.size, 18, none⟩ rfl [.int .i64 d.resp.op, .int .i64 d.resp.err, .slice Ai d.resp.items.length ci, .int .u64 d.resp.ver, .int .i64 d.resp.count, .slice An d.resp.nums.length cn] _ (fun W hW => CellsAt.slice hW.2.cells 18 6) Tryz.underlying40 (resp_sizeL _ _ _ _ _ _)) HS.out ?_
    simp only [Act.put, z1, z2, z3]
    refine wpAnyH_take (i := 6) (oi := ⟨some 58, .nilCheck (.tmp 55), 0, "history.go:40", #[⟨3, .data⟩, ⟨0, .phase⟩, ⟨1, .phase⟩, ⟨2, .phase⟩, ⟨3, .phase⟩, ⟨4, .phase⟩, ⟨5, .phase⟩], none⟩) (v := ?_) rfl (by kernel_rfl) (by kernel_rfl) (by kernel_rfl) (fun _ _ _ h => h) (Or.inl ⟨by rfl, ?_⟩) HS.out ?_
    rotate_left 1
    ·intro w hw; go_simp; try with_reducible rfl
    simp only [Act.put, z1, z2, z3]
    refine wpAnyH_take (i := 7) (oi := ⟨some 59, .fieldAddr 52 (.tmp 58) 4, 0, "history.go:40", #[⟨6, .data⟩, ⟨0, .phase⟩, ⟨1, .phase⟩, ⟨2, .phase⟩, ⟨3, .phase⟩, ⟨4, .phase⟩, ⟨5, .phase⟩], none⟩) (v := ?_) rfl (by kernel_rfl) (by kernel_rfl) (by kernel_rfl) (fun _ _ _ h => h) (Or.inl ⟨by rfl, ?_⟩) HS.out ?_
    rotate_left 1
    ·intro w hw; go_simp; try with_reducible rfl
    simp only [Act.put, z1, z2, z3]
    refine wpAnyH_ready (rs := [8]) (by kernel_rfl) (by simp) ?_
    refine AllReadyH.cons (o := ⟨none, .store 40 (.tmp 59) (.tmp 57), 0, "history.go:40", #[⟨7, .data⟩, ⟨5, .data⟩, ⟨0, .phase⟩, ⟨1, .phase⟩, ⟨2, .phase⟩, ⟨3, .phase⟩, ⟨4, .phase⟩, ⟨5, .phase⟩], none⟩) rfl (fun K hK => ?_) (AllReadyH.nil)
    with_reducible refine step_store_agg rfl 40 _ _ rfl pn 13 #[.int .i64 d.resp.op, .int .i64 d.resp.err, .slice Ai d.resp.items.length ci, .int .u64 d.resp.ver, .int .i64 d.resp.count, .slice An d.resp.nums.length cn] ?_ ?_ ?_ (resp_sizeA _ _ _ _ _ _) ?_ ?_
    ·rfl
    ·rfl
    ·exact HX.out.p.there (o := 13) (n := 6) (by simp)
    ·exact resp_oneL _ _ _ _ _ _ _ _ _ _
    have hy := HX.out.drew.putP [.int .i64 d.resp.op, .int .i64 d.resp.err, .slice Ai d.resp.items.length ci, .int .u64 d.resp.ver, .int .i64 d.resp.count, .slice An d.resp.nums.length cn] 13
    have hS := And.intro hy.c hy.d
    refine hK.out _ _ hS (fun _ => ?_)
    clear hK K HS
    have HS := kp hS
    clear hS
    simp only [Act.put, z1, z2, z3]
    refine wpAnyH_done (by kernel_rfl) ?_ _
    go_wp2_with fail
    go_meet
    case rel =>
     simp only [putL, List.set_cons_succ, List.set_cons_zero] at hy
     exact ⟨hy, kept_setCells (by simp) _ _ _ (HKX.out.mono (by simp)).drew⟩
   case rest =>
    obtain ⟨hx2, hkx2⟩ := hcut
    have HX2 := kp hx2
    have HKX2 := kp hkx2
    clear hx2 hkx2 k2 k2d p2
    have k1 : wc.cell? ⟨cb, 1, none⟩ = some (.int .i64 num) := HX2.out.c.cell (j := 1) rfl
    have z1 : wc.frozen? ⟨cb, 1, none⟩ = false := HX2.out.c.frozen 1
    obtain ⟨hn1, hn2⟩ := hnum
    have hn3 : num + 1 <= 9223372036854775807 := by omega
    have hn4 : -9223372036854775808 <= num + 1 := by omega
    go_upto_region 14 with (fail)
    have hxv := HX2.out.setC 1 (.int .i64 (num + 1))
    have hkv := HKX2.out.setCell (p := ⟨cb, 1, none⟩) (by simp) (.int .i64 (num + 1))
    simp only [List.set_cons_succ, List.set_cons_zero] at hxv
    obtain ⟨V, hV⟩ : ∃ V, wc.setCell ⟨cb, 1, none⟩ (.int .i64 (num + 1)) = V := ⟨_, rfl⟩
    rw [hV] at hxv hkv ⊢
    have HXV := kp hxv
    have HKV := kp hkv
    clear hV hxv hkv k1 z1 hn1 hn2 hn3 hn4
    have r1 : V.cell? ⟨rb, 1, none⟩ = some v := HXV.out.r.cell (j := 1) rfl
    have r1a : (V.alloc (.cells #[.pointer (some ⟨pn, 0, none⟩)] 113)).cell? ⟨rb, 1, none⟩ = some v := (HXV.out.r.alloc _).cell (j := 1) rfl
    have k2 : V.cell? ⟨cb, 2, none⟩ = some (.pointer (some ⟨pn, 0, none⟩)) := HXV.out.c.cell (j := 2) rfl
    have HSRC := kp (RowL.new V 113 [.pointer (some ⟨pn, 0, none⟩)])
    go_region_law ((with_reducible refine step_append_g (o := ⟨some 85, _, _, _, _, _⟩) rfl _ _ 109 rfl lim 113 (.pointer none) 1 8 ?_ ?_ ?_ ?_ v n ps ?_ ?_ ⟨V.heap.size, 0, none⟩ 1 1 [.pointer (some ⟨pn, 0, none⟩)] ?_ ?_ ?_ ?_ ?_ ?_ ?_ ?_); (· exact Tryz.underlying109); (· exact q_info72); (· rfl); (· decide); (· rfl); (· exact (HXV.out.alloc _).drew.o); (· rfl); (· rfl); (· intro j u hj; rw [Addr.add_mid, Nat.zero_add]; exact HSRC.out.cell hj); (· intro u hu; simp at hu; subst hu; rfl); (· unfold maxLen; omega); (· omega); (· simp; have := HB.out.size; have := HKV.out.size; omega); intro v' w5 ho5 hg5 hb5; obtain ⟨A5, c5, rfl⟩ := own_slice ho5; have hx5 := (HXV.out.alloc _).drew.grow hg5 ho5; have e5 := hx5.r.cell (j := 1) rfl; have f5 := hx5.r.frozen 1; have HX5 := kp hx5; have HG5 := kp (kept_of_grown hg5); clear hx5 ho5 hg5 hb5)
    all_goals
     have hx6 := HX5.out.setR 1 (.slice A5 (n + 1) c5)
     have hk6 := ((((HKV.out.mono (L' := rb :: cb :: pn :: v.ownBlock.toList) (by simp)).alloc (.cells #[.pointer (some ⟨pn, 0, none⟩)] 113)).drew).trans (HG5.out.mono (fun k hk => by simp at hk; simp [hk]))).setCell (p := ⟨rb, 1, none⟩) (by simp) (.slice A5 (n + 1) c5)
     have HX6 := kp hx6
     have HK6 := kp hk6
     clear hx6 hk6
     go_wp2_with fail
     go_ret
     refine ⟨rfl, pn, _, HX6.out.r, HX6.out.c, ?_, HX6.out.o, ?_, ?_⟩
     ·rw [newCall_bad HK0.out, newV_bad HK0.out]; exact HX6.out.p
     ·rw [<- HPN.out]; exact HB.out.size
     ·exact ((Kept.of_below HB.out).trans HK6.out).drop (fun k hk hl => by simp at hk; have := HPN.out; have := HB.out.size; rcases hk with h | h | h | h <;> first | omega | simp [h])
end Go.Proofs.YtnjhpgmbfblgaaaGreat.Ord
