/- An argument of the type Call, opened with sizes and ranges; A slice of calls, opened with ranges and sizes. -/
import Derived.Test.YtnjhpgmbfblgaaaGreatMH4
import Derived.Test.YtnjhpgmbfblgaaaGreatQ0
namespace Go.Proofs.YtnjhpgmbfblgaaaGreat.Ord
open Go.ChangeShapes Go.WideShapes Go.ChangeAt Go.RowKit Go.Deep
set_option linter.unusedVariables false
set_option linter.unusedSimpArgs false
section
variable {H : Type} {enc : TypeId × Value -> H} {w : World} {base : Nat} {spare : Nat -> Bool} {held : Bool}
theorem open_callS {fuel : Nat} {cs : List Value} {x : DataW H × List MemPlace} (h : DataW.trod enc Tryz.prog w base spare held fuel 52 cs = some x) (hK : ∀ n ∈ x.1.weights Tryz.prog 52, n <= big) : ∃ (d : CallR) (p : CallV), cs = callC d p /\ CallOk w w.heap.size d p /\ Rng d /\ CmdSz d.cmd /\ RespSz d.resp := by
 obtain ⟨hll, hall⟩ := leaves_specS (K := big) 6 52 _ leaves52 _ _ _ h hK
 have hll : cs.length = 23 := hll
 obtain ⟨n0, h0, g0⟩ := leaf_int Tryz.underlying3 (hall 0 3 rfl).leaf
 obtain ⟨n1, h1, g1⟩ := leaf_int Tryz.underlying3 (hall 1 3 rfl).leaf
 obtain ⟨n2, h2⟩ := leaf_bool Tryz.underlying4 (hall 2 4 rfl).leaf
 obtain ⟨n3, h3, g3⟩ := leaf_int Tryz.underlying31 (hall 3 31 rfl).leaf
 obtain ⟨n4, h4, g4⟩ := leafS_str Tryz.underlying9 (hall 4 9 rfl)
 obtain ⟨n5, fu5, y5, h5, _, ht5, hw5⟩ := hall 5 32 rfl
 obtain ⟨xs5, k5, g5⟩ := open_strsVS ht5 hw5
 obtain ⟨n6, fu6, y6, h6, _, ht6, hw6⟩ := hall 6 26 rfl
 obtain ⟨xs6, k6, g6⟩ := open_datS ht6 hw6
 obtain ⟨n7, fu7, y7, h7, _, ht7, hw7⟩ := hall 7 32 rfl
 obtain ⟨xs7, k7, g7⟩ := open_strsVS ht7 hw7
 obtain ⟨n8, h8, g8⟩ := leaf_int Tryz.underlying34 (hall 8 34 rfl).leaf
 obtain ⟨n9, h9, g9⟩ := leaf_int Tryz.underlying33 (hall 9 33 rfl).leaf
 obtain ⟨n10, h10, g10⟩ := leafS_str Tryz.underlying9 (hall 10 9 rfl)
 obtain ⟨n11, h11, g11⟩ := leafS_str Tryz.underlying9 (hall 11 9 rfl)
 obtain ⟨n12, h12, g12⟩ := leafS_str Tryz.underlying9 (hall 12 9 rfl)
 obtain ⟨n13, h13, g13⟩ := leaf_int Tryz.underlying31 (hall 13 31 rfl).leaf
 obtain ⟨n14, h14, g14⟩ := leaf_int Tryz.underlying29 (hall 14 29 rfl).leaf
 obtain ⟨n15, fu15, y15, h15, _, ht15, hw15⟩ := hall 15 37 rfl
 obtain ⟨xs15, k15, g15⟩ := open_itemsVS ht15 hw15
 obtain ⟨n16, h16, g16⟩ := leaf_int Tryz.underlying33 (hall 16 33 rfl).leaf
 obtain ⟨n17, h17, g17⟩ := leaf_int Tryz.underlying3 (hall 17 3 rfl).leaf
 obtain ⟨n18, fu18, y18, h18, _, ht18, hw18⟩ := hall 18 38 rfl
 obtain ⟨xs18, k18, g18⟩ := open_numsVS ht18
 obtain ⟨n19, h19, g19⟩ := leaf_int Tryz.underlying3 (hall 19 3 rfl).leaf
 obtain ⟨n20, h20, g20⟩ := leaf_int Tryz.underlying3 (hall 20 3 rfl).leaf
 obtain ⟨n21, h21, g21⟩ := leaf_int Tryz.underlying3 (hall 21 3 rfl).leaf
 obtain ⟨n22, h22, g22⟩ := leaf_int Tryz.underlying34 (hall 22 34 rfl).leaf
 match cs, hll, h0, h1, h2, h3, h4, h5, h6, h7, h8, h9, h10, h11, h12, h13, h14, h15, h16, h17, h18, h19, h20, h21, h22 with
 | [a0, a1, a2, a3, a4, a5, a6, a7, a8, a9, a10, a11, a12, a13, a14, a15, a16, a17, a18, a19, a20, a21, a22], _, h0, h1, h2, h3, h4, h5, h6, h7, h8, h9, h10, h11, h12, h13, h14, h15, h16, h17, h18, h19, h20, h21, h22 =>
  simp at h0 h1 h2 h3 h4 h5 h6 h7 h8 h9 h10 h11 h12 h13 h14 h15 h16 h17 h18 h19 h20 h21 h22
  subst h0 h1 h2 h3 h4 h5 h6 h7 h8 h9 h10 h11 h12 h13 h14 h15 h16 h17 h18 h19 h20 h21 h22
  exact ⟨⟨n0, n1, n2, ⟨n3, n4, xs5, xs6, xs7, n8, n9, n10, n11, n12⟩, ⟨n13, n14, xs15, n16, n17, xs18⟩, n19, n20, n21, n22⟩, ⟨_, _, _, _, _⟩, rfl, ⟨⟨k5, k6, k7⟩, k15, k18⟩, ⟨k6.1, wf_u64 g8, wf_u64 g9, fun y hy => (g15 y hy).1, wf_u64 g16, g18, fun y hy => (g15 y hy).2.2.1, fun y hy => (g15 y hy).2.2.2.1, wf_i64 g17, fun y hy => (g15 y hy).2.2.2.2, wf_i64 g14, wf_i64 g13⟩, ⟨g4, g5, g6, g7, g10, g11, g12⟩, fun y hy => (g15 y hy).2.1⟩
end
section
variable {H : Type} {enc : TypeId × Value -> H} {w : World} {base : Nat} {spare : Nat -> Bool} {held : Bool}
def CallGood (x : CallR) : Prop := Rng x /\ CmdSz x.cmd /\ RespSz x.resp
theorem open_callsS {fuel : Nat} {A : Option Addr} {len cap : Nat} {y : DataW H × List MemPlace} (hf : DataW.trod enc Tryz.prog w base spare held fuel 43 [.slice A len cap] = some y) (hK : ∀ n ∈ y.1.weights Tryz.prog 43, n <= big) : ∃ L : List (CallR × CallV), L.length = len /\ len <= maxLen /\ RowCO w w.heap.size A L /\ ∀ x ∈ L, CallGood x.1 := by
 rcases open_slice Tryz.underlying43 hf with ⟨hcs, _⟩ | ⟨a, l, c, m, n, D, Pl, hcs, _, hl, hm, hmm, hx, hi⟩
 ·simp at hcs
  obtain ⟨rfl, rfl, rfl⟩ := hcs
  exact ⟨[], rfl, by unfold maxLen; omega, fun i r hi => by simp at hi, by simp⟩
 ·simp at hcs
  obtain ⟨rfl, rfl, rfl⟩ := hcs
  have hC : Tryz.prog.cellsOf 52 = 23 := by kernel_rfl
  rw [hC] at hi hx
  have hlm : len <= m := by rw [hmm]; split <;> omega
  have key : ∀ i, ∃ r : CallR × CallV, i < len -> CellsAt w (a.add (i * 23)) (callC r.1 r.2) /\ CallOk w w.heap.size r.1 r.2 /\ CallGood r.1 := fun i => by
   by_cases hlt : i < len
   ·obtain ⟨cs', hc, ht⟩ := hi i (by omega)
    obtain ⟨_, hcl, hat⟩ := World.cells?_some hc
    obtain ⟨r, v, e1, e2, e3⟩ := open_callS ht (fun q hq => hK q (by
     have hx1 := congrArg Prod.fst hx
     simp only at hx1
     rw [hx1]
     simp only [DataW.weights, Tryz.underlying43, List.mem_cons, List.mem_append]
     exact .inr (.inl (weightsAll_memK (List.mem_map.2 ⟨i, List.mem_range.2 hlt, rfl⟩) q hq))))
    refine ⟨(r, v), fun _ => ⟨fun j u hj => ?_, e2, e3⟩⟩
    have hj' : j < 23 := (List.getElem?_eq_some_iff.1 hj).1
    rw [hat j hj', e1, hj]
   ·exact ⟨(want0, ⟨nilV, nilV, nilV, nilV, nilV⟩), fun h => absurd h hlt⟩
  obtain ⟨f, hf'⟩ := Classical.axiomOfChoice key
  refine ⟨(List.range len).map f, by simp, by omega, fun i r hi2 => ?_, fun r hr => by
   obtain ⟨i, hi3, rfl⟩ := List.mem_map.1 hr
   exact (hf' i (List.mem_range.1 hi3)).2.2⟩
  have hil : i < len := by
   have := (List.getElem?_eq_some_iff.1 hi2).1
   simpa using this
  obtain ⟨hca, hda, _⟩ := hf' i hil
  obtain ⟨hca0, _, _⟩ := hf' 0 (by omega)
  have h0 : w.cell? a = some (.int .i64 (f 0).1.ses) := by
   have := hca0 0 (.int .i64 (f 0).1.ses) rfl
   simpa [Addr.add] using this
  have hspot := World.cell?_spot h0
  have hblk := cell_lt h0
  obtain ⟨b, off, sp⟩ := a
  obtain rfl : sp = none := hspot
  have hr : r = f i := by
   rw [List.getElem?_map, List.getElem?_range hil] at hi2
   simpa using hi2.symm
  subst hr
  refine ⟨b, off, rfl, hblk, ?_, hda⟩
  have e : (⟨b, off, none⟩ : Addr).add (i * 23) = ⟨b, off + i * 23, none⟩ := by
   unfold Addr.add
   split <;> simp_all
  rw [e] at hca
  exact hca
end
end Go.Proofs.YtnjhpgmbfblgaaaGreat.Ord
