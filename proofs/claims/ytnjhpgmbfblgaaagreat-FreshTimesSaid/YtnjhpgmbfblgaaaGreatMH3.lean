/- What was done (Did); walks of script.Equal; An argument of the type Did, opened; the row. -/
import Derived.Test.YtnjhpgmbfblgaaaGreatE4
import Derived.Test.YtnjhpgmbfblgaaaGreatE2
import Derived.Deep.DeepCutAuto
import Derived.Test.YtnjhpgmbfblgaaaGreatMR25
import Derived.SliceStrings
import Derived.SizedLaws
import Derived.Test.YtnjhpgmbfblgaaaGreatMR10
import Derived.MapKept
set_option linter.unusedVariables false
set_option linter.unusedSimpArgs false
namespace Go.Proofs.YtnjhpgmbfblgaaaGreat.Ord
open Go.RowKit
theorem CellsAt.slice {w : World} {b : Nat} {cs : List Value} (h : CellsAt w ⟨b, 0, none⟩ cs) (k m : Nat) : CellsAt w ⟨b, k, none⟩ ((cs.drop k).take m) := by
 intro j v hj
 have hjm : j < m := by
  have := (gS.1 hj).1
  simp at this; omega
 rw [List.getElem?_take_of_lt hjm, List.getElem?_drop] at hj
 rw [Addr.add_mid]
 exact h.cell0 hj
theorem eV_ (a b c d e f g h i j : Value) : (Tryz.prog.info? 36).map (·.size) = some [a, b, c, d, e, f, g, h, i, j].length := by
 show _ = some 10
 kernel_rfl
theorem fw_ (a b c d e f : Value) : (Tryz.prog.info? 40).map (·.size) = some [a, b, c, d, e, f].length := by
 show _ = some 6
 kernel_rfl
end Go.Proofs.YtnjhpgmbfblgaaaGreat.Ord
namespace Go.Proofs.YtnjhpgmbfblgaaaGreat.Ord
open Go.ChangeShapes Go.WideShapes Go.ChangeAt Go.RowKit Go.Deep
section
variable {H : Type} {enc : TypeId × Value -> H} {w : World} {base : Nat} {spare : Nat -> Bool} {held : Bool}
theorem leaves87 : leaves Tryz.prog 5 78 = some [76, 26, 33, 34] := by kernel_rfl
end
theorem okWide_agg {P : Program} {w : World} {r : Reach} {base : Nat} {t : TypeId} {v : Value} {fs : Array Field} (ht : P.underlying t = some (.struct fs)) (h : Value.okWide P w r base t v) : ∃ cs, v = .agg cs := by
 simp only [Value.okWide, ht] at h
 obtain ⟨cs, h1, _⟩ := h
 exact ⟨cs, h1⟩
end Go.Proofs.YtnjhpgmbfblgaaaGreat.Ord
namespace Go.Proofs.YtnjhpgmbfblgaaaGreat.Ord
open Go.RowKit
structure CallR where
 ses : Int
 num : Int
 bad : Bool
 cmd : CmdR
 resp : RespR
 asked : Int
 done : Int
 told : Int
 tim : Int
structure CallV where
 vk : Value
 vv : Value
 vt : Value
 vi : Value
 vn : Value
def fd_ (ses num : Int) (bad : Bool) (op : Int) (key : ByteArray) (vk vv vt : Value) (life ver : Int) (tag pre chi : ByteArray) (rop rerr : Int) (vi : Value) (rver rcount : Int) (vn : Value) (asked done told tim : Int) : List Value :=
 [.int .i64 ses, .int .i64 num, .bool bad, .int .i64 op, .string key, vk, vv, vt, .int .u64 life, .int .u64 ver, .string tag, .string pre, .string chi, .int .i64 rop, .int .i64 rerr, vi, .int .u64 rver, .int .i64 rcount, vn, .int .i64 asked, .int .i64 done, .int .i64 told, .int .u64 tim]
def callC (c : CallR) (p : CallV) : List Value := fd_ c.ses c.num c.bad c.cmd.op c.cmd.key p.vk p.vv p.vt c.cmd.life c.cmd.ver c.cmd.tag c.cmd.pre c.cmd.chi c.resp.op c.resp.err p.vi c.resp.ver c.resp.count p.vn c.asked c.done c.told c.tim
def CallOk (w : World) (B : Nat) (c : CallR) (p : CallV) : Prop := CmdOk w B c.cmd p.vk p.vv p.vt /\ RespOk w B c.resp p.vi p.vn
theorem CallOk.below {B B' : Nat} {w w' : World} {c : CallR} {p : CallV} (h : CallOk w B c p) (hb : Below B' w w') (hB : B <= B') : CallOk w' B c p := ⟨h.1.below hb hB, h.2.below hb hB⟩
theorem CallOk.mono {B B' : Nat} {w : World} {c : CallR} {p : CallV} (h : CallOk w B c p) (hB : B <= B') : CallOk w B' c p := ⟨h.1.mono hB, h.2.mono hB⟩
end Go.Proofs.YtnjhpgmbfblgaaaGreat.Ord
namespace Go.Proofs.YtnjhpgmbfblgaaaGreat.Ord
open Go.ChangeShapes Go.WideShapes Go.ChangeAt Go.RowKit Go.Deep
section
variable {H : Type} {enc : TypeId × Value -> H} {w : World} {base : Nat} {spare : Nat -> Bool} {held : Bool}
theorem kS_ {cs : List Value} {j : Nat} {t : TypeId} (hu : Tryz.prog.underlying t = some .bool) (h : Leaf enc Tryz.prog w base spare held cs j t) : ∃ b, cs[j]? = some (.bool b) := by
 obtain ⟨v, fu, y, hv, _, ht⟩ := h
 obtain ⟨s, hs, _⟩ := DataW.trod_bool hu ht
 simp at hs
 subst hs
 exact ⟨s, hv⟩
theorem leaves52 : leaves Tryz.prog 6 52 = some [3, 3, 4, 31, 9, 32, 26, 32, 34, 33, 9, 9, 9, 31, 29, 37, 33, 3, 38, 3, 3, 3, 34] := by kernel_rfl
end
end Go.Proofs.YtnjhpgmbfblgaaaGreat.Ord
namespace Go.Proofs.YtnjhpgmbfblgaaaGreat.Ord
open Go.ChangeShapes Go.WideShapes Go.RowKit Go.Deep
section
variable {H : Type} {enc : TypeId × Value -> H} {P : Program} {w : World} {base : Nat} {spare : Nat -> Bool} {held : Bool}
def LeafS (K : Nat) (enc : TypeId × Value -> H) (P : Program) (w : World) (base : Nat) (spare : Nat -> Bool) (held : Bool) (cs : List Value) (j : Nat) (t : TypeId) : Prop :=
 ∃ v fuel y, cs[j]? = some v /\ v.oneCell' = true /\ DataW.trod enc P w base spare held fuel t [v] = some y /\ ∀ n ∈ y.1.weights P t, n <= K
theorem dm_ {K : Nat} {F : TypeId -> Option (List TypeId)} (cs : List Value)
  (hF : ∀ t ts, F t = some ts -> ∀ fuel cs x, DataW.trod enc P w base spare held fuel t cs = some x -> (∀ n ∈ x.1.weights P t, n <= K) -> cs.length = ts.length /\ ∀ j tj, ts[j]? = some tj -> LeafS K enc P w base spare held cs j tj) :
  ∀ (fs : List Field) (acc ts : List TypeId), cx_ P F fs acc = some ts ->
   (∀ f ∈ fs, ∃ fuel y, DataW.trod enc P w base spare held fuel f.type ((cs.drop f.offset).take (P.cellsOf f.type)) = some y /\ ∀ n ∈ y.1.weights P f.type, n <= K) ->
   (∀ j tj, acc[j]? = some tj -> LeafS K enc P w base spare held cs j tj) -> ∀ j tj, ts[j]? = some tj -> LeafS K enc P w base spare held cs j tj
 | [], acc, ts, h, _, hacc => by
  simp only [cx_, Option.some.injEq] at h
  subst h
  exact hacc
 | f :: fs, acc, ts, h, hfs, hacc => by
  simp only [cx_] at h
  obtain ⟨l2, h2, h3⟩ := Option.bind_eq_some_iff.1 h
  split at h3
  ·rename_i hc
   refine dm_ cs hF fs (acc ++ l2) ts h3 (fun g hg => hfs g (mM _ hg)) fun j tj hj => ?_
   rcases Nat.lt_or_ge j acc.length with hlt | hge
   ·rw [aL hlt] at hj
    exact hacc j tj hj
   rw [aR hge] at hj
   obtain ⟨fuel, y, hy, hyw⟩ := hfs f List.mem_cons_self
   obtain ⟨hl, hall⟩ := hF _ _ h2 _ _ _ hy hyw
   obtain ⟨v, fu, y2, hv, h1, ht⟩ := hall _ _ hj
   refine ⟨v, fu, y2, ?_, h1, ht⟩
   have hjl : j - acc.length < P.cellsOf f.type := by
    have := (gS.1 hj).1
    omega
   rw [List.getElem?_take_of_lt hjl, List.getElem?_drop, hc.1] at hv
   rw [<- hv]
   congr 1
   omega
  cases h3
theorem leaves_specS {K : Nat} : ∀ (n : Nat) (t : TypeId) (ts : List TypeId), leaves P n t = some ts -> ∀ fuel cs x, DataW.trod enc P w base spare held fuel t cs = some x -> (∀ n ∈ x.1.weights P t, n <= K) ->
  cs.length = ts.length /\ ∀ j tj, ts[j]? = some tj -> LeafS K enc P w base spare held cs j tj
 | 0, t, ts, h => by simp [leaves] at h
 | n + 1, t, ts, h => by
  intro fuel cs x hx hxw
  unfold leaves at h
  split at h
  ·rename_i fs hu
   obtain ⟨l, hl, h3⟩ := Option.bind_eq_some_iff.1 h
   split at h3
   ·rename_i hc
    simp only [Option.some.injEq] at h3
    subst h3
    obtain ⟨xs, n', hA, hB, hlen, hxl, hf⟩ := DataW.trod_struct hu hx
    refine ⟨hlen.trans hc.symm, dm_ cs (leaves_specS n) fs.toList [] _ hl (fun f hf' => ?_) (by simp)⟩
    obtain ⟨i, hi, rfl⟩ := List.getElem_of_mem hf'
    have hi' : i < fs.size := by simpa using hi
    have := hf i (fs.toList[i]) (by simp [hi'])
    rw [gE (by omega)] at this
    refine ⟨_, _, this, fun m hm => hxw m ?_⟩
    rw [hB]
    simp only [DataW.weights, hu]
    exact DataW.weights_mem_each (j := i) (by simp [hi']) (by simp [show i < xs.length by omega]) m hm
   cases h3
  ·cases h
  ·cases h
  rename_i d hns hna hu
  simp only [Option.some.injEq] at h
  subst h
  obtain ⟨v, rfl, h1⟩ := gv_ hu (by cases d <;> simp_all [iS_]) hx
  refine ⟨rfl, fun j tj hj => ?_⟩
  match j with
  | 0 =>
   simp at hj
   subst hj
   exact ⟨v, fuel, x, rfl, h1, hx, hxw⟩
  | j + 1 => simp at hj
end
end Go.Proofs.YtnjhpgmbfblgaaaGreat.Ord
namespace Go.Proofs.YtnjhpgmbfblgaaaGreat.Ord
open Go.ChangeShapes Go.WideShapes Go.ChangeAt Go.RowKit Go.Deep
section
variable {H : Type} {enc : TypeId × Value -> H} {w : World} {base : Nat} {spare : Nat -> Bool} {held : Bool}
theorem dn_ {K : Nat} {cs : List Value} {j : Nat} {t : TypeId} (hu : Tryz.prog.underlying t = some .string) (h : LeafS K enc Tryz.prog w base spare held cs j t) : ∃ s : ByteArray, cs[j]? = some (.string s) /\ s.size <= K := by
 obtain ⟨v, fu, y, hv, _, ht, hw⟩ := h
 obtain ⟨s, hs, hy, _⟩ := DataW.trod_string hu ht
 simp at hs
 subst hs
 refine ⟨s, hv, hw _ ?_⟩
 rw [hy]
 simp [DataW.weights]
theorem LeafS.leaf {K : Nat} {cs : List Value} {j : Nat} {t : TypeId} (h : LeafS K enc Tryz.prog w base spare held cs j t) : Leaf enc Tryz.prog w base spare held cs j t := by
 obtain ⟨v, fu, y, hv, h1, ht, _⟩ := h
 exact ⟨v, fu, y, hv, h1, ht⟩
theorem gT_ {K fuel : Nat} {v : Value} {y : DataW H × List MemPlace} (h : DataW.trod enc Tryz.prog w base spare held fuel 26 [v] = some y) (hK : ∀ n ∈ y.1.weights Tryz.prog 26, n <= K) : ∃ xs, DatG w w.heap.size v xs /\ xs.length <= K := by
 rcases open_ints Tryz.underlying26 Tryz.underlying5 (by kernel_rfl) h with ⟨hcs, _⟩ | ⟨x, l, c, zs, hcs, _, hl, hm, hz, hxe, hcell, hwz⟩
 ·simp at hcs
  subst hcs
  exact ⟨[], ⟨fun y hy => by simp at hy, by simp, none, 0, rfl, Byt.nil _ _⟩, by simp⟩
 simp at hcs
 subst hcs
 have hzl : l <= zs.length := by rw [hz]; split <;> omega
 have htl : (zs.take l).length = l := by simp; omega
 refine ⟨zs.take l, ⟨fun y hy => ?_, by omega, some x, c, by rw [htl], (fun h => by cases h), by omega, fun i hi => ?_⟩, ?_⟩
 ·have := hwz y (List.mem_of_mem_take hy)
  simp [Lit.wf, IntKind.min, IntKind.max, IntKind.bits, IntKind.signed] at this
  omega
 ·have h0 := hcell 0 (by omega)
  obtain ⟨b, off, sp⟩ := x
  have hsp : sp = none := by simpa [Addr.add] using World.cell?_spot h0
  subst hsp
  have hc := hcell i (by omega)
  have hlt : b < w.heap.size := by simpa [Addr.add] using cell_lt h0
  have e : (⟨b, off, none⟩ : Addr).add i = ⟨b, off + i, none⟩ := by unfold Addr.add; split <;> simp_all
  rw [e] at hc
  refine ⟨b, off, rfl, hlt, fun u hu => ?_⟩
  rw [hc]
  rw [List.getElem?_take_of_lt (by omega)] at hu
  simp [List.getD, hu]
 rw [htl]
 have h5 : Tryz.prog.bytesOf 5 = 1 := by kernel_rfl
 have := hK ((zs.take l).length + (zs.drop l).length) (by
  rw [hxe]
  simp [DataW.weights, Tryz.underlying26, h5, lits])
 omega
theorem weightsAll_memK {P : Program} {e : TypeId} {l : List (DataW H)} {d : DataW H} (hd : d ∈ l) : ∀ n ∈ d.weights P e, n ∈ DataW.weightsAll P e l := by
 induction l with
 | nil => simp at hd
 | cons a l ih =>
  intro n hn
  simp only [DataW.weightsAll, List.mem_append]
  rcases List.mem_cons.1 hd with rfl | h
  ·exact .inl hn
  exact .inr (ih h n hn)
theorem et_ {K fuel : Nat} {v : Value} {y : DataW H × List MemPlace} (h : DataW.trod enc Tryz.prog w base spare held fuel 32 [v] = some y) (hK : ∀ n ∈ y.1.weights Tryz.prog 32, n <= K) : ∃ xs : List ByteArray, SlV Value.string w w.heap.size v xs /\ ∀ s ∈ xs, s.size <= K := by
 rcases open_strings Tryz.underlying32 Tryz.underlying9 (by kernel_rfl) h with ⟨hcs, _⟩ | ⟨x, l, c, ss, hcs, _, hl, hm, hz, hxe, hcell, _⟩
 ·simp at hcs
  subst hcs
  exact ⟨[], ⟨by simp, none, 0, rfl, fun i x hi => by simp at hi⟩, by simp⟩
 simp at hcs
 subst hcs
 have hzl : l <= ss.length := by rw [hz]; split <;> omega
 have htl : (ss.take l).length = l := by simp; omega
 refine ⟨ss.take l, ⟨by omega, some x, c, by rw [htl], fun i s hi => ?_⟩, fun s hs => hK _ (by
  rw [hxe]
  simp only [DataW.weights, Tryz.underlying32, List.mem_cons, List.mem_append]
  exact .inr (.inl (weightsAll_memK (d := .lit (.string s.data.toList)) (by simp only [strs]; exact List.mem_map.2 ⟨s, hs, rfl⟩) _ (by simp [DataW.weights]))))⟩
 have hil : i < l := by have := (gS.1 hi).1; omega
 have h0 := hcell 0 (by omega)
 obtain ⟨b, off, sp⟩ := x
 have hsp : sp = none := by simpa [Addr.add] using World.cell?_spot h0
 subst hsp
 have hc := hcell i (by omega)
 have hlt : b < w.heap.size := by simpa [Addr.add] using cell_lt h0
 have e : (⟨b, off, none⟩ : Addr).add i = ⟨b, off + i, none⟩ := by unfold Addr.add; split <;> simp_all
 rw [e] at hc
 refine ⟨b, off, rfl, hlt, ?_⟩
 rw [hc]
 rw [List.getElem?_take_of_lt hil] at hi
 simp [List.getD, hi]
theorem wf_u64 {n : Int} (h : (Lit.int .u64 n).wf = true) : 0 <= n /\ n < 18446744073709551616 := by
 simp [Lit.wf, IntKind.min, IntKind.max, IntKind.bits, IntKind.signed] at h
 omega
theorem it_ {n : Int} (h : (Lit.int .i64 n).wf = true) : -9223372036854775808 <= n /\ n < 9223372036854775808 := by
 simp [Lit.wf, IntKind.min, IntKind.max, IntKind.bits, IntKind.signed] at h
 omega
def gq_ (K : Nat) (r : ItemR) : Prop := (∀ z ∈ r.val, 0 <= z /\ z < 256) /\ r.val.length <= K /\ (0 <= r.ver /\ r.ver < 18446744073709551616) /\ (0 <= r.dead /\ r.dead < 18446744073709551616) /\ (-9223372036854775808 <= r.mark /\ r.mark < 9223372036854775808)
theorem h2_ {fuel : Nat} {v : Value} {y : DataW H × List MemPlace} (h : DataW.trod enc Tryz.prog w base spare held fuel 38 [v] = some y) : ∃ xs : List Int, SlV (Value.int .u64) w w.heap.size v xs /\ ∀ s ∈ xs, 0 <= s /\ s < 18446744073709551616 := by
 rcases open_ints Tryz.underlying38 Tryz.underlying33 (by kernel_rfl) h with ⟨hcs, _⟩ | ⟨x, l, c, ss, hcs, _, hl, hm, hz, _, hcell, hwz⟩
 ·simp at hcs
  subst hcs
  exact ⟨[], ⟨by simp, none, 0, rfl, fun i x hi => by simp at hi⟩, by simp⟩
 simp at hcs
 subst hcs
 have hzl : l <= ss.length := by rw [hz]; split <;> omega
 have htl : (ss.take l).length = l := by simp; omega
 refine ⟨ss.take l, ⟨by omega, some x, c, by rw [htl], fun i s hi => ?_⟩, fun s hs => wf_u64 (hwz s (List.mem_of_mem_take hs))⟩
 have hil : i < l := by have := (gS.1 hi).1; omega
 have h0 := hcell 0 (by omega)
 obtain ⟨b, off, sp⟩ := x
 have hsp : sp = none := by simpa [Addr.add] using World.cell?_spot h0
 subst hsp
 have hc := hcell i (by omega)
 have hlt : b < w.heap.size := by simpa [Addr.add] using cell_lt h0
 have e : (⟨b, off, none⟩ : Addr).add i = ⟨b, off + i, none⟩ := by unfold Addr.add; split <;> simp_all
 rw [e] at hc
 refine ⟨b, off, rfl, hlt, ?_⟩
 rw [hc]
 rw [List.getElem?_take_of_lt hil] at hi
 simp [List.getD, hi]
theorem jw_ {K fuel : Nat} {cs : List Value} {x : DataW H × List MemPlace} (h : DataW.trod enc Tryz.prog w base spare held fuel 78 cs = some x) (hK : ∀ n ∈ x.1.weights Tryz.prog 78, n <= K) : ∃ (r : ItemR) (v : Value), cs = aD_ r.mark v r.ver r.dead /\ DatG w w.heap.size v r.val /\ gq_ K r := by
 obtain ⟨hll, hall⟩ := leaves_specS (K := K) 5 78 _ leaves87 _ _ _ h hK
 have hll : cs.length = 4 := hll
 obtain ⟨n0, h0, g0⟩ := leaf_int Tryz.underlying76 (hall 0 76 rfl).leaf
 obtain ⟨v, fu, y, h1, _, ht, hw1⟩ := hall 1 26 rfl
 obtain ⟨n2, h2, g2⟩ := leaf_int Tryz.underlying33 (hall 2 33 rfl).leaf
 obtain ⟨n3, h3, g3⟩ := leaf_int Tryz.underlying34 (hall 3 34 rfl).leaf
 obtain ⟨xs, hxs, hxl⟩ := gT_ ht hw1
 match cs, hll, h0, h1, h2, h3 with
 | [a, b, c, d], _, h0, h1, h2, h3 =>
  simp at h0 h1 h2 h3
  subst h0 h1 h2 h3
  exact ⟨⟨n0, xs, n2, n3⟩, _, rfl, hxs, hxs.1, hxl, wf_u64 g2, wf_u64 g3, it_ g0⟩
theorem gS_ {K fuel : Nat} {v : Value} {y : DataW H × List MemPlace} (hf : DataW.trod enc Tryz.prog w base spare held fuel 37 [v] = some y) (hK : ∀ n ∈ y.1.weights Tryz.prog 37, n <= K) : ∃ xs : List ItemR, lE_ w w.heap.size v xs /\ ∀ r ∈ xs, gq_ K r := by
 rcases open_slice Tryz.underlying37 hf with ⟨hcs, _⟩ | ⟨a, len, cap, m, n, D, Pl, hcs, _, hl, hm, hmm, hx, hi⟩
 ·simp at hcs
  subst hcs
  exact ⟨[], ⟨by simp, none, 0, rfl, fun i r hi => by simp at hi⟩, by simp⟩
 simp at hcs
 subst hcs
 have hC : Tryz.prog.cellsOf 78 = 4 := by kernel_rfl
 rw [hC] at hi hx
 have hlm : len <= m := by rw [hmm]; split <;> omega
 have key : ∀ i, ∃ r : ItemR, i < len -> ∃ v, CellsAt w (a.add (i * 4)) (aD_ r.mark v r.ver r.dead) /\ DatG w w.heap.size v r.val /\ gq_ K r := fun i => by
  by_cases hlt : i < len
  ·obtain ⟨cs', hc, ht⟩ := hi i (by omega)
   obtain ⟨_, hcl, hat⟩ := World.cells?_some hc
   obtain ⟨r, v, e1, e2⟩ := jw_ ht (fun q hq => hK q (by
    have hx1 := congrArg Prod.fst hx
    simp only at hx1
    rw [hx1]
    simp only [DataW.weights, Tryz.underlying37, List.mem_cons, List.mem_append]
    exact .inr (.inl (weightsAll_memK (List.mem_map.2 ⟨i, List.mem_range.2 hlt, rfl⟩) q hq))))
   refine ⟨r, fun _ => ⟨v, fun j u hj => ?_, e2⟩⟩
   have hj' : j < 4 := (gS.1 hj).1
   rw [hat j hj', e1, hj]
  exact ⟨⟨0, [], 0, 0⟩, fun h => absurd h hlt⟩
 obtain ⟨f, hf'⟩ := Classical.axiomOfChoice key
 have hlen : ((List.range len).map f).length = len := by simp
 refine ⟨(List.range len).map f, ⟨by omega, some a, cap, by rw [hlen], fun i r hi2 => ?_⟩, fun r hr => by
  obtain ⟨i, hi3, rfl⟩ := List.mem_map.1 hr
  obtain ⟨_, _, _, h⟩ := hf' i (List.mem_range.1 hi3)
  exact h⟩
 have hil : i < len := by
  have := (gS.1 hi2).1
  simpa using this
 obtain ⟨v, hca, hda, _⟩ := hf' i hil
 obtain ⟨v0, hca0, hda0, _⟩ := hf' 0 (by omega)
 have h0 : w.cell? a = some (.int .i64 (f 0).mark) := by
  have := hca0 0 (.int .i64 (f 0).mark) rfl
  simpa [Addr.add] using this
 have hspot := World.cell?_spot h0
 have hblk := cell_lt h0
 obtain ⟨b, off, sp⟩ := a
 obtain rfl : sp = none := hspot
 have hr : r = f i := by
  rw [gM, List.getElem?_range hil] at hi2
  simpa using hi2.symm
 subst hr
 refine ⟨b, off, v, rfl, hblk, ?_, hda⟩
 have e : (⟨b, off, none⟩ : Addr).add (i * 4) = ⟨b, off + i * 4, none⟩ := by
  unfold Addr.add
  split <;> simp_all
 rw [e] at hca
 exact hca
end
end Go.Proofs.YtnjhpgmbfblgaaaGreat.Ord
namespace Go.Proofs.YtnjhpgmbfblgaaaGreat.Ord
open Go.RowKit
theorem q32 (w : World) (a : Option Addr) (n c n' c' : Nat) : (binOp .eql 32 (.slice a n c) (.slice none n' c')).run Tryz.prog w = .ok (.bool a.isNone) w := Lib.run_eql_slice_nil w _ _ a n c n' c' Tryz.underlying32
theorem Tryz.info9 : (Tryz.prog.info? 9).map (fun i => (i.zero, i.size, i.bytes)) = some (some (.string ⟨#[]⟩), 1, 16) := by kernel_rfl
theorem Tryz.info33 : (Tryz.prog.info? 33).map (fun i => (i.zero, i.size, i.bytes)) = some (some (.int .u64 0), 1, 8) := by kernel_rfl
theorem ig_ {α : Type} {enc : α -> Value} (h1 : ∀ x, (enc x).oneCell' = true) (xs : List α) : ∀ u ∈ xs.map enc, u.oneCell' = true := fun u hu => by
 obtain ⟨x, _, rfl⟩ := List.mem_map.1 hu
 exact h1 x
theorem go_ {w w' : World} {L : List Nat} (hk : Kept L w w') {A : Option Addr} {c : Nat} {xs : List Int} (h : Byt w w.heap.size A c xs) (hn : ∀ b off, A = some ⟨b, off, none⟩ -> b ∉ L) : Byt w' w'.heap.size A c xs := hk.byt h hn
theorem dC_ {α : Type} {enc : α -> Value} {w : World} {base : Nat} {e : TypeId} {v : Value} {xs : List α} (h : w.ownsRow base e 1 v xs.length (xs.map enc)) : ∃ A c, v = .slice A xs.length c /\ ElV enc w w.heap.size A xs /\ ∀ b off, A = some ⟨b, off, none⟩ -> base <= b := by
 rcases bc_ h (by decide) with ⟨e1, e2, e3⟩ | ⟨g, cap, e1, e2, e3, e4, e5⟩
 ·subst e1
  have : xs = [] := eN e2
  subst this
  exact ⟨none, 0, rfl, fun i x hi => by simp at hi, fun b off e => by cases e⟩
 subst e1
 refine ⟨_, cap, rfl, fun i x hi => ⟨g, 0, rfl, e3, ?_⟩, fun b off e => by cases e; exact e2⟩
 have hil := (gS.1 hi).1
 rw [h.cellAt (0 + i) (by omega), Nat.zero_add, gM, hi]
 rfl
theorem bF_ (w : World) (o : Obj) : (w.alloc o).heap.size = w.heap.size + 1 := by simp
theorem jV_ (ses num : Int) (bad : Bool) (op : Int) (key : ByteArray) (vk vv vt : Value) (life ver : Int) (tag pre chi : ByteArray) (rop rerr : Int) (vi : Value) (rver rcount : Int) (vn : Value) (asked done told tim : Int) : (Tryz.prog.info? 52).map (·.size) = some (fd_ ses num bad op key vk vv vt life ver tag pre chi rop rerr vi rver rcount vn asked done told tim).length := by
 show _ = some 23
 kernel_rfl
theorem cL_ (ses num : Int) (bad : Bool) (op : Int) (key : ByteArray) (vk vv vt : Value) (life ver : Int) (tag pre chi : ByteArray) (rop rerr : Int) (vi : Value) (rver rcount : Int) (vn : Value) (asked done told tim : Int) : (Tryz.prog.info? 52).map (·.size) = some (fd_ ses num bad op key vk vv vt life ver tag pre chi rop rerr vi rver rcount vn asked done told tim).toArray.size := by
 show _ = some 23
 kernel_rfl

def isK : Value -> Int -> Bool
 | .int .i64 a, k => a == k
 | _, _ => false
theorem kW_ {v : Value} {k : Int} (h : v = .int .i64 k) : isK v k = true := by subst h; simp [isK]
theorem eE_ {v : Value} {k : Int} (h : v ≠ .int .i64 k) : isK v k = false := by
 unfold isK
 split
 ·simp at h ⊢
  exact h
 rfl
def lkE : List MapEntry -> Int -> Option Value
 | [], _ => none
 | e :: es, k => if isK e.key k = true then some e.val else lkE es k
def KeysI (es : List MapEntry) : Prop := (∀ x ∈ es, ∃ k, x.key = .int .i64 k) /\ es.Pairwise fun x y => x.key ≠ y.key
def MapAt (w : World) (b : Nat) (f : Int -> Option Value) : Prop := ∃ es clock, w.heap[b]? = some (.map es clock) /\ KeysI es.toList /\ ∀ k, lkE es.toList k = f k
theorem MapAt.congr {w : World} {b : Nat} {f g : Int -> Option Value} (h : MapAt w b f) (e : ∀ k, f k = g k) : MapAt w b g := by
 obtain ⟨es, c, h1, h2, h3⟩ := h
 exact ⟨es, c, h1, h2, fun k => (h3 k).trans (e k)⟩
theorem MapAt.of_block {w w' : World} {b : Nat} {f : Int -> Option Value} (h : MapAt w b f) (e : w'.heap[b]? = w.heap[b]?) : MapAt w' b f := by
 obtain ⟨es, c, h1, h2⟩ := h
 exact ⟨es, c, e.trans h1, h2⟩
theorem MapAt.lt {w : World} {b : Nat} {f : Int -> Option Value} (h : MapAt w b f) : b < w.heap.size := by
 obtain ⟨es, c, h1, _⟩ := h
 exact (Array.getElem?_eq_some_iff.1 h1).1
theorem MapAt.new (w : World) : MapAt (w.alloc (.map #[] 0)) w.heap.size fun _ => none := ⟨#[], 0, heap_alloc_new w _, ⟨by simp, by simp⟩, fun k => rfl⟩
theorem cJ_ (k : Int) : ∀ (l : List MapEntry) (i : Nat), (∀ x ∈ l, ∃ k, x.key = .int .i64 k) ->
  (lkE l k = none /\ (∀ x ∈ l, x.key ≠ .int .i64 k) /\ Instr.findNow (.int .i64) (.int .i64 k) l i = some none) ∨
  ∃ j e, l[j]? = some e /\ e.key = .int .i64 k /\ lkE l k = some e.val /\ Instr.findNow (.int .i64) (.int .i64 k) l i = some (some (i + j, e.val))
 | [], i, _ => .inl ⟨rfl, by simp, rfl⟩
 | e :: l, i, h => by
  obtain ⟨a, ha⟩ := h e (by simp)
  by_cases hk : a = k
  ·subst hk
   refine .inr ⟨0, e, rfl, ha, by simp [lkE, kW_ ha], ?_⟩
   simp [Instr.findNow, Instr.sameNow, ha]
  have hne : (k == a) = false := by simp; omega
  have hik : isK e.key k = false := eE_ (by rw [ha]; simp [hk])
  rcases cJ_ k l (i + 1) (fun x hx => h x (by simp [hx])) with ⟨h1, h2, h3⟩ | ⟨j, e', h1, h2, h3, h4⟩
  ·refine .inl ⟨by simp [lkE, hik, h1], fun x hx => ?_, by simp [Instr.findNow, Instr.sameNow, ha, hne, h3]⟩
   rcases List.mem_cons.1 hx with rfl | hx
   ·rw [ha]; simp [hk]
   exact h2 x hx
  refine .inr ⟨j + 1, e', by simpa using h1, h2, by simp [lkE, hik, h3], ?_⟩
  simp only [Instr.findNow, Instr.sameNow, ha, if_true, hne, h4]
  congr 3
  omega
theorem lkE_push (l : List MapEntry) (e : MapEntry) (k k' : Int) (hk : e.key = .int .i64 k) (h : ∀ x ∈ l, x.key ≠ .int .i64 k) : lkE (l ++ [e]) k' = if k' = k then some e.val else lkE l k' := by
 induction l with
 | nil =>
  simp only [List.nil_append, lkE]
  by_cases h1 : k' = k
  ·subst h1; simp [kW_ hk]
  simp [h1, eE_ (v := e.key) (k := k') (by rw [hk]; simp; exact fun e => h1 e.symm)]
 | cons a l ih =>
  have ih := ih fun x hx => h x (by simp [hx])
  have ha := h a (by simp)
  simp only [List.cons_append, lkE, ih]
  by_cases h1 : k' = k
  ·subst h1
   rw [eE_ ha]
   rfl
  rw [if_neg h1, if_neg h1]
theorem jC_ (l : List MapEntry) (j : Nat) (e : MapEntry) (v : Value) (k k' : Int) (hp : l.Pairwise fun x y => x.key ≠ y.key) (hj : l[j]? = some e) (hk : e.key = .int .i64 k) : lkE (l.modify j fun e => { e with key := .int .i64 k, val := v }) k' = if k' = k then some v else lkE l k' := by
 induction l generalizing j with
 | nil => simp at hj
 | cons a l ih =>
  cases j with
  | zero =>
   simp at hj
   subst hj
   simp only [List.modify_zero_cons, lkE]
   by_cases h1 : k' = k
   ·subst h1; simp [isK]
   have hn : ∀ v : Value, v = .int .i64 k -> isK v k' = false := fun v hv => eE_ (by rw [hv]; simp; exact fun e => h1 e.symm)
   simp [h1, hn _ rfl, hn _ hk]
  | succ j =>
   have hj' : l[j]? = some e := by simpa using hj
   have ih := ih j (List.pairwise_cons.1 hp).2 hj'
   have hne : a.key ≠ .int .i64 k := by
    have := (List.pairwise_cons.1 hp).1 e (mI.2 ⟨j, hj'⟩)
    rwa [hk] at this
   simp only [List.modify_succ_cons, lkE, ih]
   by_cases h1 : k' = k
   ·subst h1
    rw [eE_ hne]
    simp
   simp [h1]
theorem g1_ (l : List MapEntry) (j : Nat) (e : MapEntry) (v : Value) (k : Int) (hj : l[j]? = some e) (hk : e.key = .int .i64 k) : (l.modify j fun e => { e with key := .int .i64 k, val := v }).map (·.key) = l.map (·.key) := by
 induction l generalizing j with
 | nil => simp at hj
 | cons a l ih =>
  cases j with
  | zero =>
   simp at hj
   subst hj
   simp [hk]
  | succ j => simp [ih j (by simpa using hj)]
theorem kU_ {l l' : List MapEntry} (h : l'.map (·.key) = l.map (·.key)) (hk : KeysI l) : KeysI l' := by
 have hp : ∀ l : List MapEntry, (l.Pairwise fun x y => x.key ≠ y.key) ↔ (l.map (·.key)).Pairwise (· ≠ ·) := fun l => by rw [List.pairwise_map]
 refine ⟨fun x hx => ?_, (hp l').2 (h ▸ (hp l).1 hk.2)⟩
 have hm : x.key ∈ l.map (·.key) := by rw [<- h]; exact List.mem_map_of_mem hx
 obtain ⟨y, hy, e⟩ := List.mem_map.1 hm
 obtain ⟨k, hk⟩ := hk.1 y hy
 exact ⟨k, by rw [<- e, hk]⟩
section
variable {P : Program} {w : World} {T K E : TypeId} {b : Nat} {f : Int -> Option Value}
theorem MapAt.run_lookup (h : MapAt w b f) (hT : P.underlying T = some (.map K E)) (hK : P.underlying K = some (.int .i64)) (z : Value) (hz : (zeroValue E).run P w = .ok z w) (k : Int) :
  (Instr.lookup T (.map (some b)) (.int .i64 k) false).run P w = .ok ((f k).getD z) w := by
 obtain ⟨es, c, hb, hk, hf⟩ := h
 have h1 := Go.MapKept.run_getObj_map (P := P) hb
 have h2 : ∀ e, (Instr.checkKey e 10000 K (.int .i64 k)).run P w = .ok () w := fun e => Go.MapKept.run_checkKey hK (by simp [Go.MapKept.IsKey]) e 9999
 rcases cJ_ k es.toList 0 hk.1 with ⟨g1, g2, g3⟩ | ⟨j, e, g1, g2, g3, g4⟩
 ·have h3 := Go.MapKept.run_findKey (P := P) (w := w) hK g3
  rw [<- hf k, g1]
  unfold Instr.lookup
  rw [Sem.run_bind, run_underlying hT]
  simp [Sem.run_bind, h1, h2, h3, hz]
 have h3 := Go.MapKept.run_findKey (P := P) (w := w) hK g4
 rw [<- hf k, g3]
 unfold Instr.lookup
 rw [Sem.run_bind, run_underlying hT]
 simp [Sem.run_bind, h1, h2, h3]
def World.withMap (w : World) (b : Nat) (es : Array MapEntry) (c : Nat) : World := { w with heap := w.heap.setIfInBounds b (.map es c) }
theorem a6_ (w : World) (b : Nat) (es : Array MapEntry) (c : Nat) : Kept [b] w (World.withMap w b es c) :=
 ⟨rfl, rfl, rfl, by simp [World.withMap], fun k hk hn => by
  simp at hn
  simp only [World.withMap]
  rw [Array.getElem?_setIfInBounds_ne (by omega)]⟩
theorem a3_ {w : World} {b : Nat} (hb : b < w.heap.size) (es : Array MapEntry) (c : Nat) : (World.withMap w b es c).heap[b]? = some (.map es c) := by
 simp [World.withMap, hb]
theorem MapAt.run_update (h : MapAt w b f) (hT : P.underlying T = some (.map K E)) (hK : P.underlying K = some (.int .i64)) (k : Int) (v : Value) :
  ∃ w', (Instr.mapUpdate T (.map (some b)) (.int .i64 k) v).run P w = .ok () w' /\ Kept [b] w w' /\ MapAt w' b fun k' => if k' = k then some v else f k' := by
 have hlt := h.lt
 obtain ⟨es, c, hb, hk, hf⟩ := h
 have h1 := Go.MapKept.run_getObj_map (P := P) hb
 have h2 : (Instr.checkKey false 10000 K (.int .i64 k)).run P w = .ok () w := Go.MapKept.run_checkKey hK (by simp [Go.MapKept.IsKey]) false 9999
 rcases cJ_ k es.toList 0 hk.1 with ⟨g1, g2, g3⟩ | ⟨j, e, g1, g2, g3, g4⟩
 ·have h3 := Go.MapKept.run_findKey (P := P) (w := w) hK g3
  have h4 := Go.MapKept.run_setObj_map (P := P) (.map (es.push { key := .int .i64 k, val := v, born := c }) (c + 1)) hb
  refine ⟨World.withMap w b (es.push { key := .int .i64 k, val := v, born := c }) (c + 1), ?_, a6_ _ _ _ _, _, _, a3_ hlt _ _, ⟨?_, ?_⟩, fun k' => ?_⟩
  ·unfold Instr.mapUpdate
   rw [Sem.run_bind, run_underlying hT]
   simp [Sem.run_bind, h1, h2, h3, h4, World.withMap]
  ·intro x hx
   rw [Array.toList_push] at hx
   rcases List.mem_append.1 hx with hx | hx
   ·exact hk.1 x hx
   simp at hx; subst hx; exact ⟨k, rfl⟩
  ·rw [Array.toList_push, List.pairwise_append]
   exact ⟨hk.2, by simp, fun x hx y hy => by simp at hy; subst hy; exact g2 x hx⟩
  rw [Array.toList_push, lkE_push es.toList _ k k' rfl g2, hf k']
 have h3 := Go.MapKept.run_findKey (P := P) (w := w) hK g4
 have h4 := Go.MapKept.run_setObj_map (P := P) (.map (es.modify j fun e => { e with key := .int .i64 k, val := v }) c) hb
 have h5 : (es[j]?.map (·.key)).getD (.int .i64 k) = .int .i64 k := by
  have : es[j]? = some e := by simpa using g1
  rw [this]
  simp [g2]
 have h6 := Go.MapKept.run_keyThatStays (P := P) (w := w) (d := .int .i64) (k := .int .i64 k) (by simp [Go.MapKept.IsKey])
 have e1 : (es.modify j fun e => { e with key := .int .i64 k, val := v }).toList = es.toList.modify j fun e => { e with key := .int .i64 k, val := v } := by simp
 refine ⟨World.withMap w b (es.modify j fun e => { e with key := .int .i64 k, val := v }) c, ?_, a6_ _ _ _ _, _, _, a3_ hlt _ _, ?_, fun k' => ?_⟩
 ·unfold Instr.mapUpdate
  rw [Sem.run_bind, run_underlying hT]
  simp only [Result.andThen_ok, Sem.run_bind, h1, h2, h3, Nat.zero_add, h5, h6, h4]
  rfl
 ·rw [e1]
  exact kU_ (g1_ _ _ _ _ _ g1 g2) hk
 rw [e1, jC_ es.toList j e v k k' hk.2 g1 g2, hf k']
end
end Go.Proofs.YtnjhpgmbfblgaaaGreat.Ord
