/- An argument that is a slice of steps, opened; the row of ScriptWrites from its walk. -/
import Derived.Test.YtnmhmabifeapkaaW0
import Derived.Test.YtnmhmabifeapkaaM4
namespace Go.Proofs.Ytnmhmabifeapkaa.Ord
open Go.ChangeShapes Go.WideShapes Go.ChangeAt Go.RowKit Go.Deep
set_option linter.unusedVariables false

section
variable {H : Type} {enc : TypeId × Value → H} {w : World} {base : Nat} {spare : Nat → Bool} {held : Bool}
/-- a slice of bytes, opened -/
theorem open_dat {fuel : Nat} {v : Value} {y : DataW H × List MemPlace} (h : DataW.trod enc Try.prog w base spare held fuel 22 [v] = some y) : ∃ xs, DatG w w.heap.size v xs := by
  rcases open_ints Try.underlying22 Try.underlying5 (by kernel_rfl) h with ⟨hcs, _⟩ | ⟨x, l, c, zs, hcs, _, hl, hm, hz, _, hcell, hwz⟩
  · simp at hcs
    subst hcs
    exact ⟨[], fun y hy => by simp at hy, by simp, none, 0, rfl, Byt.nil _ _⟩
  · simp at hcs
    subst hcs
    have hzl : l ≤ zs.length := by rw [hz]; split <;> omega
    have htl : (zs.take l).length = l := by simp; omega
    refine ⟨zs.take l, fun y hy => ?_, by omega, some x, c, by rw [htl], (fun h => by cases h), by omega, fun i hi => ?_⟩
    · have := hwz y (List.mem_of_mem_take hy)
      simp [Lit.wf, IntKind.min, IntKind.max, IntKind.bits, IntKind.signed] at this
      omega
    · have h0 := hcell 0 (by omega)
      obtain ⟨b, off, sp⟩ := x
      have hsp : sp = none := by simpa [Addr.add] using World.cell?_spot h0
      subst hsp
      have hc := hcell i (by omega)
      have hlt : b < w.heap.size := by simpa [Addr.add] using cell_lt h0
      have e : (⟨b, off, none⟩ : Addr).add i = ⟨b, off + i, none⟩ := by unfold Addr.add; split <;> simp_all
      rw [e] at hc
      refine ⟨b, off, rfl, hlt, fun u hu => ?_⟩
      rw [hc]
      rw [List.getElem?_take_of_lt (by omega)] at hu
      simp [List.getD, hu]

theorem leaves35 : leaves Try.prog 5 35 = some [33, 3, 3, 22] := by kernel_rfl

theorem open_step {fuel : Nat} {cs : List Value} {x : DataW H × List MemPlace} (h : DataW.trod enc Try.prog w base spare held fuel 35 cs = some x) : ∃ (r : StepR) (v : Value), cs = stepL r.k r.c r.n v ∧ DatG w w.heap.size v r.d := by
  obtain ⟨hll, hall⟩ := leaves_spec 5 35 _ leaves35 _ _ _ h
  have hll : cs.length = 4 := hll
  obtain ⟨n0, h0, _⟩ := leaf_int Try.underlying33 (hall 0 33 rfl)
  obtain ⟨n1, h1, _⟩ := leaf_int Try.underlying3 (hall 1 3 rfl)
  obtain ⟨n2, h2, _⟩ := leaf_int Try.underlying3 (hall 2 3 rfl)
  obtain ⟨v, fu, y, h3, _, ht⟩ := hall 3 22 rfl
  obtain ⟨xs, hxs⟩ := open_dat ht
  match cs, hll, h0, h1, h2, h3 with
  | [a, b, c, d], _, h0, h1, h2, h3 =>
    simp at h0 h1 h2 h3
    subst h0 h1 h2 h3
    exact ⟨⟨n0, n1, n2, xs⟩, _, rfl, hxs⟩

theorem open_steps {A : Option Addr} {len cap : Nat} {d : DataW H} {p : List MemPlace}
    (h : DataW.Trod enc Try.prog w base spare held 24 (.slice A len cap) d p) : ∃ rs : List StepR, rs.length = len ∧ len ≤ cap ∧ cap ≤ maxLen ∧ StepsG w w.heap.size A rs := by
  obtain ⟨fuel, hf⟩ := h
  rcases open_slice Try.underlying24 hf with ⟨hcs, _⟩ | ⟨a, l, c, m, n, D, Pl, hcs, _, hl, hm, hmm, hx, hi⟩
  · simp [Value.cells] at hcs
    obtain ⟨rfl, rfl, rfl⟩ := hcs
    exact ⟨[], rfl, Nat.le_refl _, by unfold maxLen; omega, fun i r hi => by simp at hi⟩
  · simp [Value.cells] at hcs
    obtain ⟨rfl, rfl, rfl⟩ := hcs
    have hC : Try.prog.cellsOf 35 = 4 := by kernel_rfl
    rw [hC] at hi hx
    have hlm : len ≤ m := by rw [hmm]; split <;> omega
    have key : ∀ i, ∃ r : StepR, i < len → ∃ v, CellsAt w (a.add (i * 4)) (stepL r.k r.c r.n v) ∧ DatG w w.heap.size v r.d := fun i => by
      by_cases hlt : i < len
      · obtain ⟨cs', hc, ht⟩ := hi i (by omega)
        obtain ⟨_, hcl, hat⟩ := World.cells?_some hc
        obtain ⟨r, v, e1, e2⟩ := open_step ht
        refine ⟨r, fun _ => ⟨v, fun j u hj => ?_, e2⟩⟩
        have hj' : j < 4 := (List.getElem?_eq_some_iff.1 hj).1
        rw [hat j hj', e1, hj]
      · exact ⟨⟨0, 0, 0, []⟩, fun h => absurd h hlt⟩
    obtain ⟨f, hf'⟩ := Classical.axiomOfChoice key
    refine ⟨(List.range len).map f, by simp, hl, hm, fun i r hi2 => ?_⟩
    have hil : i < len := by
      have := (List.getElem?_eq_some_iff.1 hi2).1
      simpa using this
    obtain ⟨v, hca, hda⟩ := hf' i hil
    obtain ⟨v0, hca0, hda0⟩ := hf' 0 (by omega)
    have h0 : w.cell? a = some (.int .i64 (f 0).k) := by
      have := hca0 0 (.int .i64 (f 0).k) rfl
      simpa [Addr.add] using this
    have hspot := World.cell?_spot h0
    have hblk := cell_lt h0
    obtain ⟨b, off, sp⟩ := a
    obtain rfl : sp = none := hspot
    have hr : r = f i := by
      rw [List.getElem?_map, List.getElem?_range hil] at hi2
      simpa using hi2.symm
    subst hr
    refine ⟨b, off, v, rfl, hblk, ?_, hda⟩
    have e : (⟨b, off, none⟩ : Addr).add (i * 4) = ⟨b, off + i * 4, none⟩ := by
      unfold Addr.add
      split <;> simp_all
    rw [e] at hca
    exact hca
end

/-- what the walk of 'ScriptWrites' gives -/
def scriptWritesWalk : Prop := ∀ (A0 : Option Addr) (rs : List StepR) (cap0 : Nat) (w : World), rs.length ≤ cap0 → cap0 ≤ maxLen → StepsG w w.heap.size A0 rs → Law 4 #[.slice A0 rs.length cap0] w

set_option maxRecDepth 100000 in
theorem scriptWrites_lifted (walk : scriptWritesWalk) (os : Os) (started : os.Started) (H : Type) (enc : TypeId × Value → H) :
    ReturnsInHanded {} Try.checked os 4 .any (Rows.scriptWritesSpec.pre6 enc Try.prog Try.f4 Rows.scriptWritesRow.domain false) (Rows.scriptWritesSpec.post enc Try.prog Try.f4 false true false false) := by
  refine returnsInHanded_of_change (C := Try.checked) own started (by kernel_rfl) Try.func4
    (ChangeSpec.witness6 (enc := enc) (C := Try.checked) false ⟨#[], #[.slice none 0 0], []⟩ 8 (by kernel_rfl) (by kernel_rfl) (by kernel_rfl) (by kernel_rfl)) ?_
  intro W base args ds gs before hval0 hW hcnd _
  have hval : ∀ (j : Nat) t v, Try.f4.params[j]? = some t → args[j]? = some v → Value.okWide Try.prog W .any base t v := hval0
  have hW' := hW
  obtain ⟨p, q, hA0, hV, rfl, hfz, hnd⟩ := hW
  have hTA : DataW.TrodAll enc Try.prog W 0 (fun _ => true) true Try.f4.params.toList args.toList ds p := hA0
  rw [Try.params4] at hTA hval
  obtain ⟨v0, vs0, d0, ds0, p0, q0, hargs, rfl, rfl, h0, r0⟩ := trodAll_cons hTA
  obtain ⟨rfl, rfl, rfl⟩ := trodAll_nil r0
  obtain rfl : args = #[v0] := by cases args; simp_all
  obtain ⟨rfl, rfl⟩ := trodVars_none hV
  obtain ⟨a0, len0, cap0, rfl⟩ := okWide_slice Try.underlying24 (hval 0 24 v0 rfl rfl)
  have k0 := h0
  have lt0 : ∀ x ∈ p0, x.block < W.heap.size := by obtain ⟨m, hm⟩ := k0; exact DataW.trod_lt m _ _ _ hm
  obtain ⟨l0, rfl, hc0, hm0, H0⟩ := open_steps h0
  clear hA0 hval0
  refine (walk a0 l0 cap0 W hc0 hm0 H0).mono fun e W' ⟨he, bel⟩ => ?_
  subst he
  exact ⟨_, rfl, _, _, _, [], _, [], hW', trodAll_mk1 (shut_bool Try.underlying4 _), (trodAll_cons_mk (Below.trod laidOut (by kernel_rfl) (of_decide_eq_true (by kernel_rfl)) k0 bel lt0) trodAll_mk0), rfl, bel.frame _, fun h => by cases h⟩

theorem scriptWrites_of (walk : scriptWritesWalk) : Rows.ScriptWritesSaid :=
  OpenClaim.holds_of_wide 4 Try.f4 rfl rfl rfl rfl rfl rfl rfl ⟨rfl, rfl, rfl, rfl, rfl⟩ rfl rfl rfl rfl rfl (by kernel_rfl) Try.func4 (by kernel_rfl)
    (of_decide_eq_true (by kernel_rfl)) (by unfold Func.isWrapper; first | (rw [if_pos (by decide +kernel)]; kernel_rfl) | (rw [if_neg (by decide +kernel)]; exact ⟨rfl, rfl⟩))
    (fun os started H enc _ => scriptWrites_lifted walk os started H enc)
end Go.Proofs.Ytnmhmabifeapkaa.Ord
