/- Walk of the reference's Consistent. -/
import Derived.Test.YtnmhmabifeapkaaB3
import Derived.Test.YtnmhmabifeapkaaA1
import Derived.Test.YtnmhmabifeapkaaA2
namespace Go.Proofs.Ytnmhmabifeapkaa.Ord
open Go.RowKit Go.Sort
set_option linter.unusedVariables false

instance : Inhabited CallC := ⟨⟨0, 0, fun _ => .bool false, 0, 0, 0, .bool false, fun _ => rfl, rfl⟩⟩

/-- the call with an index -/
def at_ (l : List CallC) (x : Int) : CallC := l.getD x.toNat default

def isOrd (l : List CallC) (xs : List Int) : Bool := decide (xs.Perm (doneL l))
/-- no call comes after one that it must come before -/
def consB (l : List CallC) (xs : List Int) : Bool := decide (∀ j, j < xs.length → ∀ i, i < j → before (at_ l (xs.getD j 0)) (at_ l (xs.getD i 0)) = false)

theorem mem_doneL {l : List CallC} {x : Int} (h : x ∈ doneL l) : 0 ≤ x ∧ x.toNat < l.length := by
  unfold doneL doneK at h
  simp only [List.mem_map, List.mem_filter, List.mem_range] at h
  obtain ⟨i, ⟨h1, _⟩, rfl⟩ := h
  exact ⟨Int.natCast_nonneg _, by simpa using h1⟩

theorem isOrd_at {l : List CallC} {xs : List Int} (h : isOrd l xs = true) {j : Nat} (hj : j < xs.length) : ∃ n : Nat, xs[j]? = some (n : Int) ∧ n < l.length ∧ xs.getD j 0 = (n : Int) := by
  have hp : xs.Perm (doneL l) := by simpa [isOrd] using h
  obtain ⟨h0, h1⟩ := mem_doneL (hp.mem_iff.1 (List.getElem_mem hj))
  refine ⟨xs[j].toNat, ?_, h1, ?_⟩
  · rw [List.getElem?_eq_getElem hj]; congr 1; omega
  · simp only [List.getD, List.getElem?_eq_getElem hj, Option.getD_some]; omega

def consK (l : List CallC) (xs : List Int) (k : Nat) : Prop := ∀ j, j < k → ∀ i, i < j → before (at_ l (xs.getD j 0)) (at_ l (xs.getD i 0)) = false
def consI (l : List CallC) (xs : List Int) (k m : Nat) : Prop := ∀ i, i < m → before (at_ l (xs.getD k 0)) (at_ l (xs.getD i 0)) = false
theorem consK_zero (l : List CallC) (xs : List Int) : consK l xs 0 := fun _ h => absurd h (by omega)
theorem consI_zero (l : List CallC) (xs : List Int) (k : Nat) : consI l xs k 0 := fun _ h => absurd h (by omega)
theorem consK_succ {l : List CallC} {xs : List Int} {k : Nat} (h : consK l xs k) (hi : consI l xs k k) : consK l xs (k + 1) := fun j hj i hi' => by
  by_cases e : j = k
  · subst e; exact hi i hi'
  · exact h j (by omega) i hi'
theorem consI_succ {l : List CallC} {xs : List Int} {k m : Nat} (h : consI l xs k m) (hi : before (at_ l (xs.getD k 0)) (at_ l (xs.getD m 0)) = false) : consI l xs k (m + 1) := fun i hi' => by
  by_cases e : i = m
  · subst e; exact hi
  · exact h i (by omega)
theorem consB_yes {l : List CallC} {xs : List Int} (h : consK l xs xs.length) : consB l xs = true := by unfold consB; exact decide_eq_true h
theorem consB_no {l : List CallC} {xs : List Int} {k m : Nat} (hk : k < xs.length) (hm : m < k) (h : before (at_ l (xs.getD k 0)) (at_ l (xs.getD m 0)) = true) : consB l xs = false := by
  unfold consB
  rw [decide_eq_false_iff_not]
  intro hh
  rw [hh k hk m hm] at h
  cases h

theorem callsAt_at {w : World} {B : Nat} {A : Option Addr} {l : List CallC} (h : CallsAt w B A l) {n : Nat} (hn : n < l.length) : ∃ b off, A = some ⟨b, off, none⟩ ∧ b < B ∧ CellsAt w ⟨b, off + n * 23, none⟩ (at_ l n).cells := by
  obtain ⟨b, off, h1, h2, h3⟩ := h n hn
  refine ⟨b, off, h1, h2, ?_⟩
  have : at_ l n = l[n] := by simp [at_, List.getD, hn]
  rw [this]
  exact h3 _ (List.getElem?_eq_getElem hn)

set_option maxRecDepth 100000 in
set_option maxHeartbeats 1000000 in
theorem refCons_yes (A X : Option Addr) (l : List CallC) (xs : List Int) (cap capx : Nat) (w : World) (hl : l.length ≤ 4096) (hx : xs.length ≤ 5000) (hA : CallsAt w w.heap.size A l) (hX : IntsAt w w.heap.size X xs) (hord : isOrd l xs = true)
    (hord1 : ∀ W, Below w.heap.size w W → Calls Try.prog 51 #[.slice A l.length cap, .slice X xs.length capx] W fun e w' => e = .returned (.bool true) ∧ Below W.heap.size W w') :
    Calls Try.prog 30 #[.slice A l.length cap, .slice X xs.length capx] w fun e w' => e = .returned (.tuple #[.bool (consB l xs), .int .i64 0]) ∧ Below w.heap.size w w' := by
  have H1 := Lib.hid hord1
  clear hord1
  generalize hN : l.length = N at *
  have HN := Lib.hid hN
  generalize hM : xs.length = M at *
  have HM := Lib.hid hM
  have HO := Lib.hid hord
  clear hN hM hord
  have hg : decide ((4096 : Int) < (N : Int)) = false := by simp; omega
  go_enter Try.func30, Try.ntmps30
  go_wp2_with (go_at_call 51; refine (H1.out _ (Below.refl _ _)).mono ?_; rintro e w1 ⟨rfl, hb1⟩)
  go_loopw [6] (fun j wr => ∃ k : Nat, k ≤ M ∧ j = .int .i64 k ∧ consK l xs k ∧ Below w.heap.size w wr) (fun j _ => M - (intOf j).toNat)
  case atStart => exact ⟨0, Nat.zero_le _, rfl, consK_zero _ _, hb1⟩
  case round =>
    obtain ⟨k, hk, rfl, hcK, hb⟩ := hrel
    have HC := Lib.hid hcK
    clear hcK
    by_cases hlt : k < M
    · go_wp2_with fail
      go_loopw [7] (fun j wr2 => ∃ m : Nat, m ≤ k ∧ j = .int .i64 m ∧ consI l xs k m ∧ Below w.heap.size w wr2) (fun j _ => k - (intOf j).toNat)
      case atStart => exact ⟨0, Nat.zero_le _, rfl, consI_zero _ _ _, hb⟩
      case round =>
        obtain ⟨m, hm, rfl, hcI, hb'⟩ := hrel
        have HI := Lib.hid hcI
        clear hcI
        by_cases hlt2 : m < k
        · obtain ⟨nk, hnk, hnk1, hnk2⟩ := isOrd_at HO.out (j := k) (by rw [HM.out]; omega)
          obtain ⟨nm, hnm, hnm1, hnm2⟩ := isOrd_at HO.out (j := m) (by rw [HM.out]; omega)
          obtain ⟨b, off, rfl, hbB, hck⟩ := callsAt_at (hA.below hb' (Nat.le_refl _)) hnk1
          obtain ⟨_, _, e1, _, hcm⟩ := callsAt_at (hA.below hb' (Nat.le_refl _)) hnm1
          cases e1
          obtain ⟨bx, ox, rfl, hbX, hxk⟩ := (hX.below hb' (Nat.le_refl _)) k (by rw [HM.out]; omega)
          obtain ⟨_, _, e2, _, hxm⟩ := (hX.below hb' (Nat.le_refl _)) m (by rw [HM.out]; omega)
          cases e2
          have q1 := cell_regrown (hxk _ hnk)
          have q2 := cell_regrown (hxm _ hnm)
          have Hk := Lib.hid hck.regrown
          have Hm := Lib.hid hcm.regrown
          have K1 := Lib.hid hnk2
          have K2 := Lib.hid hnm2
          rw [HN.out] at hnk1 hnm1
          clear hck hcm hxk hxm hnk hnm hnk2 hnm2
          go_wp2_with fail
          refine wp_region_quiet_below (by kernel_rfl) (by kernel_rfl) ?_
          repeat (first
            | ((with_reducible refine qk_load_agg (o := ⟨some 32, _, _, _, _, _⟩) rfl 64 _ rfl ⟨b, off + nk * 23, none⟩ ?_ (at_ l nk).cells _ Hk.out Try.underlying64 rfl (callSize _) ?_); (· rfl); simp only [Act.put, List.setIfInBounds_toArray, List.set_cons_succ, List.set_cons_zero])
            | ((with_reducible refine qk_load_agg (o := ⟨some 39, _, _, _, _, _⟩) rfl 64 _ rfl ⟨b, off + nm * 23, none⟩ ?_ (at_ l nm).cells _ Hm.out Try.underlying64 rfl (callSize _) ?_); (· rfl); simp only [Act.put, List.setIfInBounds_toArray, List.set_cons_succ, List.set_cons_zero])
            | go_big_quiet_step ((go_at_call 29; exact Calls.regrown_of (refBefore_any (at_ l nk) (at_ l nm) _))))
          refine wpQuiet_nil ?_
          intro W3 hW3
          have hb3 := hb'.trans ((regrown_below hW3).mono hb'.size)
          obtain ⟨bv, hbv⟩ : ∃ bv, before (at_ l nk) (at_ l nm) = bv := ⟨_, rfl⟩
          rw [hbv]
          rw [← K1.out, ← K2.out] at hbv
          have HV := Lib.hid hbv
          clear hbv hW3 q1 q2
          cases bv
          · go_wp2
            go_roundw
            case rel => exact ⟨m + 1, by omega, by go_num, consI_succ HI.out HV.out, hb3⟩
            case measure => simp [intOf]; omega
          · go_wp2
            go_ret2
            exact ⟨by rw [consB_no (by rw [HM.out]; exact hlt) hlt2 HV.out]; rfl, hb3⟩
        · obtain rfl : m = k := by omega
          go_wp2
          go_roundw
          case rel => exact ⟨m + 1, by omega, by go_num, consK_succ HC.out HI.out, hb'⟩
          case measure => simp [intOf]; omega
    · obtain rfl : k = M := by omega
      go_wp2
      go_ret2
      exact ⟨by rw [consB_yes (by rw [HM.out]; exact HC.out)]; rfl, hb⟩
end Go.Proofs.Ytnmhmabifeapkaa.Ord
