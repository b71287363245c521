/- An argument of the type Call, and a slice of them, opened with all that FreshChecks. -/
import Derived.Test.YtnjhpgmbfblgaaaGreatMU59
import Derived.Test.YtnjhpgmbfblgaaaGreatU75
set_option linter.unusedVariables false
set_option linter.unusedSimpArgs false
namespace Go.Proofs.YtnjhpgmbfblgaaaGreat.Ord
open Go.ChangeShapes Go.WideShapes Go.ChangeAt Go.RowKit Go.Deep
section
variable {H : Type} {enc : TypeId × Value -> H} {w : World} {base : Nat} {spare : Nat -> Bool} {held : Bool}
theorem cap37 {fuel : Nat} {A : Option Addr} {n c : Nat} {y : DataW H × List MemPlace} (hf : DataW.trod enc Tryz.prog w base spare held fuel 37 [.slice A n c] = some y) : n <= c := by
 rcases open_slice Tryz.underlying37 hf with ⟨hcs, _⟩ | ⟨a, l, c', m, n', D, Pl, hcs, _, hl, hm, hmm, hx, hi⟩
 ·simp at hcs
  omega
 simp at hcs
 omega
def CallF (d : CallR) (p : CallV) : Prop := (Rng d /\ CmdSz d.cmd /\ RespSz d.resp) /\ IsT d.tim /\ CapI d p
theorem open_callF {fuel : Nat} {cs : List Value} {x : DataW H × List MemPlace} (h : DataW.trod enc Tryz.prog w base spare held fuel 52 cs = some x) (hK : ∀ n ∈ x.1.weights Tryz.prog 52, n <= big) : ∃ (d : CallR) (p : CallV), cs = callC d p /\ CallOk w w.heap.size d p /\ CallF d p := by
 obtain ⟨d, p, rfl, h1, h2⟩ := open_callS h hK
 obtain ⟨hll, hall⟩ := leaves_specS (K := big) 6 52 _ leaves52 _ _ _ h hK
 obtain ⟨n22, h22, g22⟩ := leaf_int Tryz.underlying34 (hall 22 34 rfl).leaf
 obtain ⟨n15, fu15, y15, h15, _, ht15, hw15⟩ := hall 15 37 rfl
 have e22 : d.tim = n22 := by cases h22; rfl
 have e15 : n15 = p.vi := by cases h15; rfl
 refine ⟨d, p, rfl, h1, h2, e22 ▸ wf_u64 g22, ?_⟩
 obtain ⟨_, A, c, hA, _⟩ := h1.2.1
 rw [e15, hA] at ht15
 exact ⟨A, c, hA, cap37 ht15⟩
theorem leaves62 : leaves Tryz.prog 6 62 = some [3, 3, 3, 3, 3, 34, 33] := by kernel_rfl
theorem open_cfg {fuel : Nat} {cs : List Value} {x : DataW H × List MemPlace} (h : DataW.trod enc Tryz.prog w base spare held fuel 62 cs = some x) : cs.length = 7 /\ ∃ g, cs[5]? = some (.int .u64 g) /\ IsT g := by
 obtain ⟨hll, hall⟩ := leaves_spec 6 62 _ leaves62 _ _ _ h
 obtain ⟨n, h5, g5⟩ := leaf_int Tryz.underlying34 (hall 5 34 rfl)
 exact ⟨hll, n, h5, wf_u64 g5⟩
theorem cfg_size {cs : List Value} (h : cs.length = 7) : (Tryz.prog.info? 62).map (·.size) = some cs.length := by
 rw [h]
 kernel_rfl
theorem open_callsF {fuel : Nat} {A : Option Addr} {len cap : Nat} {y : DataW H × List MemPlace} (hf : DataW.trod enc Tryz.prog w base spare held fuel 43 [.slice A len cap] = some y) (hK : ∀ n ∈ y.1.weights Tryz.prog 43, n <= big) : ∃ L : List (CallR × CallV), L.length = len /\ len <= maxLen /\ RowCO w w.heap.size A L /\ CalsG L := by
 rcases open_slice Tryz.underlying43 hf with ⟨hcs, _⟩ | ⟨a, l, c, m, n, D, Pl, hcs, _, hl, hm, hmm, hx, hi⟩
 ·simp at hcs
  obtain ⟨rfl, rfl, rfl⟩ := hcs
  exact ⟨[], rfl, by unfold maxLen; omega, fun i r hi => by simp at hi, by simp [CalsG]⟩
 simp at hcs
 obtain ⟨rfl, rfl, rfl⟩ := hcs
 have hC : Tryz.prog.cellsOf 52 = 23 := by kernel_rfl
 rw [hC] at hi hx
 have hlm : len <= m := by rw [hmm]; split <;> omega
 have key : ∀ i, ∃ r : CallR × CallV, i < len -> CellsAt w (a.add (i * 23)) (callC r.1 r.2) /\ CallOk w w.heap.size r.1 r.2 /\ CallF r.1 r.2 := fun i => by
  by_cases hlt : i < len
  ·obtain ⟨cs', hc, ht⟩ := hi i (by omega)
   obtain ⟨_, hcl, hat⟩ := World.cells?_some hc
   obtain ⟨r, v, e1, e2, e3⟩ := open_callF ht (fun q hq => hK q (by
    have hx1 := congrArg Prod.fst hx
    simp only at hx1
    rw [hx1]
    simp only [DataW.weights, Tryz.underlying43, List.mem_cons, List.mem_append]
    exact .inr (.inl (weightsAll_memK (List.mem_map.2 ⟨i, List.mem_range.2 hlt, rfl⟩) q hq))))
   refine ⟨(r, v), fun _ => ⟨fun j u hj => ?_, e2, e3⟩⟩
   have hj' : j < 23 := (gS.1 hj).1
   rw [hat j hj', e1, hj]
  exact ⟨(want0, ⟨nilV, nilV, nilV, nilV, nilV⟩), fun h => absurd h hlt⟩
 obtain ⟨f, hf'⟩ := Classical.axiomOfChoice key
 refine ⟨(List.range len).map f, by simp, by omega, fun i r hi2 => ?_, fun r hr => by
  obtain ⟨i, hi3, rfl⟩ := List.mem_map.1 hr
  exact (hf' i (List.mem_range.1 hi3)).2.2⟩
 have hil : i < len := by
  have := (gS.1 hi2).1
  simpa using this
 obtain ⟨hca, hda, _⟩ := hf' i hil
 obtain ⟨hca0, _, _⟩ := hf' 0 (by omega)
 have h0 : w.cell? a = some (.int .i64 (f 0).1.ses) := by
  have := hca0 0 (.int .i64 (f 0).1.ses) rfl
  simpa [Addr.add] using this
 have hspot := World.cell?_spot h0
 have hblk := cell_lt h0
 obtain ⟨b, off, sp⟩ := a
 obtain rfl : sp = none := hspot
 have hr : r = f i := by
  rw [gM, List.getElem?_range hil] at hi2
  simpa using hi2.symm
 subst hr
 refine ⟨b, off, rfl, hblk, ?_, hda⟩
 have e : (⟨b, off, none⟩ : Addr).add (i * 23) = ⟨b, off + i * 23, none⟩ := by
  unfold Addr.add
  split <;> simp_all
 rw [e] at hca
 exact hca
end
end Go.Proofs.YtnjhpgmbfblgaaaGreat.Ord
