/- An argument that is a slice of calls, opened: the leaves of a type in the order of its cells. -/
import Derived.Test.YtnmhmabifeapkaaM1
import Derived.Deep.Slices
import Derived.Deep.Fields
import Derived.ChangeSame
import Derived.OpenShut
namespace Go.Proofs.Ytnmhmabifeapkaa.Ord
open Go.ChangeShapes Go.WideShapes Go.RowKit Go.Deep
set_option linter.unusedVariables false

def leavesF (P : Program) (F : TypeId → Option (List TypeId)) : List Field → List TypeId → Option (List TypeId)
  | [], acc => some acc
  | f :: fs, acc => (F f.type).bind fun l2 => if f.offset = acc.length ∧ l2.length = P.cellsOf f.type then leavesF P F fs (acc ++ l2) else none
/-- the leaves of a type, in the order of its cells -/
def leaves (P : Program) : Nat → TypeId → Option (List TypeId)
  | 0, _ => none
  | n + 1, t =>
    match P.underlying t with
    | some (.struct fs) => (leavesF P (leaves P n) fs.toList []).bind fun l => if l.length = P.cellsOf t then some l else none
    | some (.array _ _) => none
    | none => none
    | some _ => some [t]

def isAggT : TypeDesc → Bool
  | .struct _ | .array _ _ => true
  | _ => false

section
variable {H : Type} {enc : TypeId × Value → H} {P : Program} {w : World} {base : Nat} {spare : Nat → Bool} {held : Bool}
theorem trod_leaf {t : TypeId} {fuel : Nat} {cs : List Value} {x : DataW H × List MemPlace} {d : TypeDesc} (hu : P.underlying t = some d) (hd : isAggT d = false)
    (h : DataW.trod enc P w base spare held fuel t cs = some x) : ∃ v, cs = [v] ∧ v.oneCell' = true := by
  cases fuel with
  | zero => simp [DataW.trod] at h
  | succ n =>
    unfold DataW.trod at h
    rw [hu] at h
    split at h <;> first | exact ⟨_, rfl, rfl⟩ | (simp at h; done) | (simp_all [isAggT]; done)

def Leaf (enc : TypeId × Value → H) (P : Program) (w : World) (base : Nat) (spare : Nat → Bool) (held : Bool) (cs : List Value) (j : Nat) (t : TypeId) : Prop :=
  ∃ v fuel y, cs[j]? = some v ∧ v.oneCell' = true ∧ DataW.trod enc P w base spare held fuel t [v] = some y

theorem leavesF_spec {F : TypeId → Option (List TypeId)} (cs : List Value)
    (hF : ∀ t ts, F t = some ts → ∀ fuel cs x, DataW.trod enc P w base spare held fuel t cs = some x → cs.length = ts.length ∧ ∀ j tj, ts[j]? = some tj → Leaf enc P w base spare held cs j tj) :
    ∀ (fs : List Field) (acc ts : List TypeId), leavesF P F fs acc = some ts →
      (∀ f ∈ fs, ∃ fuel y, DataW.trod enc P w base spare held fuel f.type ((cs.drop f.offset).take (P.cellsOf f.type)) = some y) →
      (∀ j tj, acc[j]? = some tj → Leaf enc P w base spare held cs j tj) → ∀ j tj, ts[j]? = some tj → Leaf enc P w base spare held cs j tj
  | [], acc, ts, h, _, hacc => by
    simp only [leavesF, Option.some.injEq] at h
    subst h
    exact hacc
  | f :: fs, acc, ts, h, hfs, hacc => by
    simp only [leavesF] at h
    obtain ⟨l2, h2, h3⟩ := Option.bind_eq_some_iff.1 h
    split at h3
    · rename_i hc
      refine leavesF_spec cs hF fs (acc ++ l2) ts h3 (fun g hg => hfs g (List.mem_cons_of_mem _ hg)) fun j tj hj => ?_
      rcases Nat.lt_or_ge j acc.length with hlt | hge
      · rw [List.getElem?_append_left hlt] at hj
        exact hacc j tj hj
      · rw [List.getElem?_append_right hge] at hj
        obtain ⟨fuel, y, hy⟩ := hfs f List.mem_cons_self
        obtain ⟨hl, hall⟩ := hF _ _ h2 _ _ _ hy
        obtain ⟨v, fu, y2, hv, h1, ht⟩ := hall _ _ hj
        refine ⟨v, fu, y2, ?_, h1, ht⟩
        have hjl : j - acc.length < P.cellsOf f.type := by
          have := (List.getElem?_eq_some_iff.1 hj).1
          omega
        rw [List.getElem?_take_of_lt hjl, List.getElem?_drop, hc.1] at hv
        rw [← hv]
        congr 1
        omega
    · cases h3

theorem leaves_spec : ∀ (n : Nat) (t : TypeId) (ts : List TypeId), leaves P n t = some ts → ∀ fuel cs x, DataW.trod enc P w base spare held fuel t cs = some x →
    cs.length = ts.length ∧ ∀ j tj, ts[j]? = some tj → Leaf enc P w base spare held cs j tj
  | 0, t, ts, h => by simp [leaves] at h
  | n + 1, t, ts, h => by
    intro fuel cs x hx
    unfold leaves at h
    split at h
    · rename_i fs hu
      obtain ⟨l, hl, h3⟩ := Option.bind_eq_some_iff.1 h
      split at h3
      · rename_i hc
        simp only [Option.some.injEq] at h3
        subst h3
        obtain ⟨xs, n', _, _, hlen, hxl, hf⟩ := DataW.trod_struct hu hx
        refine ⟨hlen.trans hc.symm, leavesF_spec cs (leaves_spec n) fs.toList [] _ hl (fun f hf' => ?_) (by simp)⟩
        obtain ⟨i, hi, rfl⟩ := List.getElem_of_mem hf'
        have hi' : i < fs.size := by simpa using hi
        have := hf i (fs.toList[i]) (by simp [hi'])
        rw [List.getElem?_eq_getElem (by omega)] at this
        exact ⟨_, _, this⟩
      · cases h3
    · cases h
    · cases h
    · rename_i d hns hna hu
      simp only [Option.some.injEq] at h
      subst h
      obtain ⟨v, rfl, h1⟩ := trod_leaf hu (by cases d <;> simp_all [isAggT]) hx
      refine ⟨rfl, fun j tj hj => ?_⟩
      match j with
      | 0 =>
        simp at hj
        subst hj
        exact ⟨v, fuel, x, rfl, h1, hx⟩
      | j + 1 => simp at hj

theorem leaf_int {cs : List Value} {j : Nat} {t : TypeId} {k : IntKind} (hu : P.underlying t = some (.int k)) (h : Leaf enc P w base spare held cs j t) : ∃ n, cs[j]? = some (.int k n) ∧ (Lit.int k n).wf = true := by
  obtain ⟨v, fu, y, hv, _, ht⟩ := h
  obtain ⟨n, hn, _, hw⟩ := DataW.trod_int hu ht
  simp at hn
  subst hn
  exact ⟨n, hv, hw⟩
theorem leaf_one {cs : List Value} {j : Nat} {t : TypeId} (h : Leaf enc P w base spare held cs j t) : (cs.getD j undef).oneCell' = true := by
  obtain ⟨v, fu, y, hv, h1, _⟩ := h
  simp [List.getD, hv, h1]
end

/-- a call out of its cells -/
def oneOr (v : Value) : Value := if v.oneCell' then v else .bool false
theorem oneOr_one (v : Value) : (oneOr v).oneCell' = true := by unfold oneOr; split <;> simp_all [Value.oneCell']
theorem oneOr_eq {v : Value} (h : v.oneCell' = true) : oneOr v = v := by simp [oneOr, h]
def callOf (cs : List Value) : CallC :=
  { s := intOf (cs.getD 0 undef), n := intOf (cs.getD 1 undef), m := fun i => oneOr (cs.getD (i.val + 2) undef), a := intOf (cs.getD 19 undef), d := intOf (cs.getD 20 undef), t := intOf (cs.getD 21 undef), x := oneOr (cs.getD 22 undef), one := fun _ => oneOr_one _, onex := oneOr_one _ }
theorem callOf_cells {cs : List Value} (hl : cs.length = 23) (h1 : ∀ j, j < 23 → (cs.getD j undef).oneCell' = true) (hi : ∀ j, j = 0 ∨ j = 1 ∨ j = 19 ∨ j = 20 ∨ j = 21 → ∃ n, cs[j]? = some (.int .i64 n)) : (callOf cs).cells = cs := by
  apply List.ext_getElem?
  intro j
  by_cases hj : j < 23
  · have hh : cs[j]? = some (cs.getD j undef) := by simp [List.getD, hl, hj]
    rw [hh]
    obtain ⟨n0, h0⟩ := hi 0 (by omega)
    obtain ⟨n1, h1'⟩ := hi 1 (by omega)
    obtain ⟨n19, h19⟩ := hi 19 (by omega)
    obtain ⟨n20, h20⟩ := hi 20 (by omega)
    obtain ⟨n21, h21⟩ := hi 21 (by omega)
    have o := h1 j hj
    have g0 : cs.getD 0 undef = .int .i64 n0 := by simp [List.getD, h0]
    have g1 : cs.getD 1 undef = .int .i64 n1 := by simp [List.getD, h1']
    have g19 : cs.getD 19 undef = .int .i64 n19 := by simp [List.getD, h19]
    have g20 : cs.getD 20 undef = .int .i64 n20 := by simp [List.getD, h20]
    have g21 : cs.getD 21 undef = .int .i64 n21 := by simp [List.getD, h21]
    have key : ∀ v : Value, v = cs.getD j undef → some v = some (cs.getD j undef) := fun v h => by rw [h]
    match j, hj, o with
    | 0, _, _ => exact key _ (by show Value.int .i64 (intOf (cs.getD 0 undef)) = _; rw [g0]; rfl)
    | 1, _, _ => exact key _ (by show Value.int .i64 (intOf (cs.getD 1 undef)) = _; rw [g1]; rfl)
    | 19, _, _ => exact key _ (by show Value.int .i64 (intOf (cs.getD 19 undef)) = _; rw [g19]; rfl)
    | 20, _, _ => exact key _ (by show Value.int .i64 (intOf (cs.getD 20 undef)) = _; rw [g20]; rfl)
    | 21, _, _ => exact key _ (by show Value.int .i64 (intOf (cs.getD 21 undef)) = _; rw [g21]; rfl)
    | 2, _, o => exact key _ (oneOr_eq o)
    | 3, _, o => exact key _ (oneOr_eq o)
    | 4, _, o => exact key _ (oneOr_eq o)
    | 5, _, o => exact key _ (oneOr_eq o)
    | 6, _, o => exact key _ (oneOr_eq o)
    | 7, _, o => exact key _ (oneOr_eq o)
    | 8, _, o => exact key _ (oneOr_eq o)
    | 9, _, o => exact key _ (oneOr_eq o)
    | 10, _, o => exact key _ (oneOr_eq o)
    | 11, _, o => exact key _ (oneOr_eq o)
    | 12, _, o => exact key _ (oneOr_eq o)
    | 13, _, o => exact key _ (oneOr_eq o)
    | 14, _, o => exact key _ (oneOr_eq o)
    | 15, _, o => exact key _ (oneOr_eq o)
    | 16, _, o => exact key _ (oneOr_eq o)
    | 17, _, o => exact key _ (oneOr_eq o)
    | 18, _, o => exact key _ (oneOr_eq o)
    | 22, _, o => exact key _ (oneOr_eq o)
    | k + 23, h, _ => exact absurd h (by omega)
  · rw [List.getElem?_eq_none (l := (callOf cs).cells) (by simp [CallC.cells]; omega), List.getElem?_eq_none (l := cs) (by omega)]

theorem leaves64 : leaves Try.prog 5 64 = some ((leaves Try.prog 5 64).getD []) := by kernel_rfl
theorem leaves64_len : ((leaves Try.prog 5 64).getD []).length = 23 := by kernel_rfl
theorem leaves64_ints : [0, 1, 19, 20, 21].all (fun j => ((leaves Try.prog 5 64).getD [])[j]? == some 3) = true := by kernel_rfl

theorem cell_lt {w : World} {a : Addr} {v : Value} (h : w.cell? a = some v) : a.block < w.heap.size := by
  rcases Nat.lt_or_ge a.block w.heap.size with h' | h'
  · exact h'
  · simp [World.cell?, Array.getElem?_eq_none h'] at h

theorem open_calls {H : Type} {enc : TypeId × Value → H} {w : World} {base : Nat} {spare : Nat → Bool} {held : Bool} {A : Option Addr} {len cap : Nat} {d : DataW H} {p : List MemPlace}
    (h : DataW.Trod enc Try.prog w base spare held 55 (.slice A len cap) d p) : ∃ l : List CallC, l.length = len ∧ len ≤ cap ∧ cap ≤ maxLen ∧ CallsAt w w.heap.size A l := by
  obtain ⟨fuel, hf⟩ := h
  rcases open_slice Try.underlying55 hf with ⟨hcs, _⟩ | ⟨a, l, c, m, n, D, Pl, hcs, _, hl, hm, hmm, hx, hi⟩
  · simp [Value.cells] at hcs
    obtain ⟨rfl, rfl, rfl⟩ := hcs
    exact ⟨[], rfl, Nat.le_refl _, by unfold maxLen; omega, fun i hi => by simp at hi⟩
  · simp [Value.cells] at hcs
    obtain ⟨rfl, rfl, rfl⟩ := hcs
    have hC : Try.prog.cellsOf 64 = 23 := by kernel_rfl
    rw [hC] at hi hx
    have hlm : len ≤ m := by rw [hmm]; split <;> omega
    have key : ∀ i, i < len → ∃ cs', CellsAt w (a.add (i * 23)) cs' ∧ (callOf cs').cells = cs' := by
      intro i hlt
      obtain ⟨cs', hc, ht⟩ := hi i (by omega)
      obtain ⟨_, hcl, hat⟩ := World.cells?_some hc
      obtain ⟨hll, hall⟩ := leaves_spec 5 64 _ leaves64 _ _ _ ht
      rw [leaves64_len] at hll
      refine ⟨cs', fun j v hj => ?_, callOf_cells hll (fun j hj => ?_) fun j hj => ?_⟩
      · have hj' : j < 23 := by have := (List.getElem?_eq_some_iff.1 hj).1; omega
        rw [hat j hj', hj]
      · exact leaf_one (hall j _ (List.getElem?_eq_getElem (by rw [leaves64_len]; exact hj)))
      · have h3 : ((leaves Try.prog 5 64).getD [])[j]? = some 3 := by
          have := List.all_eq_true.1 leaves64_ints j (by simp; omega)
          simpa using this
        obtain ⟨n, hn, _⟩ := leaf_int Try.underlying3 (hall j 3 h3)
        exact ⟨n, hn⟩
    have hne : ∀ i, ∃ cs' : List Value, i < len → CellsAt w (a.add (i * 23)) cs' ∧ (callOf cs').cells = cs' := fun i => by
      by_cases hi : i < len
      · obtain ⟨cs', h⟩ := key i hi
        exact ⟨cs', fun _ => h⟩
      · exact ⟨[], fun h => absurd h hi⟩
    obtain ⟨f, hf'⟩ := Classical.axiomOfChoice hne
    refine ⟨(List.range len).map fun i => callOf (f i), by simp, hl, hm, fun i hi2 => ?_⟩
    simp only [List.length_map, List.length_range] at hi2
    obtain ⟨hca, hce⟩ := hf' i hi2
    obtain ⟨hca0, hce0⟩ := hf' 0 (by omega)
    have h0 : w.cell? a = some (.int .i64 (callOf (f 0)).s) := by
      have := hca0 0 (.int .i64 (callOf (f 0)).s) (by rw [← hce0]; rfl)
      simpa [Addr.add] using this
    have hspot := World.cell?_spot h0
    have hblk := cell_lt h0
    obtain ⟨b, off, sp⟩ := a
    obtain rfl : sp = none := hspot
    refine ⟨b, off, rfl, hblk, fun c hc => ?_⟩
    · have hc2 : c = callOf (f i) := by
        rw [List.getElem?_map, List.getElem?_range hi2] at hc
        simpa using hc.symm
      subst hc2
      rw [hce]
      have e : (⟨b, off, none⟩ : Addr).add (i * 23) = ⟨b, off + i * 23, none⟩ := by
        unfold Addr.add
        split <;> simp_all
      rw [e] at hca
      exact hca
end Go.Proofs.Ytnmhmabifeapkaa.Ord
