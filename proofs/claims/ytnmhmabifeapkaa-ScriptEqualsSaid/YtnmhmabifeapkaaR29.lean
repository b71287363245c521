/- Lists of steps of whatever size; walks of the law's few and the reference's at. -/
import Derived.Test.YtnmhmabifeapkaaR19
namespace Go.Proofs.Ytnmhmabifeapkaa.Ord
open Go.RowKit
set_option linter.unusedVariables false

def DatG (w : World) (B : Nat) (d : Value) (xs : List Int) : Prop := (∀ y ∈ xs, 0 ≤ y ∧ y < 256) ∧ xs.length ≤ maxLen ∧ ∃ A c, d = .slice A xs.length c ∧ Byt w B A c xs
def StepsG (w : World) (B : Nat) (A : Option Addr) (rs : List StepR) : Prop :=
  ∀ i r, rs[i]? = some r → ∃ b off d, A = some ⟨b, off, none⟩ ∧ b < B ∧ CellsAt w ⟨b, off + i * 4, none⟩ (stepL r.k r.c r.n d) ∧ DatG w B d r.d
theorem StepsG.small {w : World} {B : Nat} {A : Option Addr} {rs : List StepR} (h : StepsG w B A rs) (hs : ∀ r ∈ rs, r.d.length ≤ 10000) : Steps w B A rs := by
  intro i r hi
  obtain ⟨b, off, d, h1, h2, h3, h4, _, h5⟩ := h i r hi
  exact ⟨b, off, d, h1, h2, h3, h4, hs r (List.mem_iff_getElem?.2 ⟨i, hi⟩), h5⟩
theorem StepsG.at {w : World} {B : Nat} {A : Option Addr} {rs : List StepR} (h : StepsG w B A rs) {n : Nat} (hn : n < rs.length) : ∃ b off d, A = some ⟨b, off, none⟩ ∧ b < B ∧ CellsAt w ⟨b, off + n * 4, none⟩ (stepL (sAt rs n).k (sAt rs n).c (sAt rs n).n d) ∧ DatG w B d (sAt rs n).d := by
  have : sAt rs n = rs[n] := by simp [sAt, List.getD, hn]
  rw [this]
  exact h n _ (List.getElem?_eq_getElem hn)

def fewOk (rs : List StepR) : Bool := decide (rs.length ≤ 60) && rs.all fun r => decide (r.d.length ≤ 300)
theorem fewOk_long {rs : List StepR} (h : 60 < rs.length) : fewOk rs = false := by
  simp [fewOk]; intro h2; omega
theorem fewOk_big {rs : List StepR} {k : Nat} (hk : k < rs.length) (h : 300 < (sAt rs k).d.length) : fewOk rs = false := by
  have : sAt rs k = rs[k] := by simp [sAt, List.getD, hk]
  rw [this] at h
  simp [fewOk]
  intro _
  exact ⟨_, List.getElem_mem hk, h⟩
theorem fewOk_yes {rs : List StepR} (hn : rs.length ≤ 60) (h : ∀ i, i < rs.length → (sAt rs i).d.length ≤ 300) : fewOk rs = true := by
  simp only [fewOk, Bool.and_eq_true, decide_eq_true_eq, List.all_eq_true]
  refine ⟨hn, fun r hr => ?_⟩
  obtain ⟨i, hi, rfl⟩ := List.getElem_of_mem hr
  have := h i hi
  rwa [show sAt rs i = rs[i] by simp [sAt, List.getD, hi]] at this
theorem fewOk.out {rs : List StepR} (h : fewOk rs = true) : rs.length ≤ 60 ∧ ∀ r ∈ rs, r.d.length ≤ 300 := by
  simp only [fewOk, Bool.and_eq_true, decide_eq_true_eq, List.all_eq_true] at h
  exact h

set_option maxRecDepth 100000 in
set_option maxHeartbeats 2000000 in
theorem few14_any (A : Option Addr) (n c : Nat) (rs : List StepR) (w : World) (hn : rs.length = n) (hl : n ≤ maxLen) (hA : StepsG w w.heap.size A rs) :
    Calls Try.prog 14 #[.slice A n c] w fun e w' => e = .returned (.bool (fewOk rs)) ∧ w' = w := by
  have HA := Lib.hid hA
  have HN := Lib.hid hn
  have hl2 : n ≤ 9223372036854775807 := by unfold maxLen at hl; omega
  clear hA hn hl
  obtain ⟨res, hres⟩ : ∃ res, fewOk rs = res := ⟨_, rfl⟩
  rw [hres]
  have HR := Lib.hid hres
  clear hres
  go_enter Try.func14, Try.ntmps14
  go_wp2_with fail
  go_loopw [3] (fun j wr => ∃ k : Nat, k ≤ n ∧ k ≤ 61 ∧ j = .int .i64 k ∧ (∀ i, i < k → (sAt rs i).d.length ≤ 300) ∧ wr = w) (fun j _ => 61 - (intOf j).toNat)
  case atStart => exact ⟨0, Nat.zero_le _, by omega, rfl, fun i hi => absurd hi (by omega), rfl⟩
  case round =>
    obtain ⟨k, hk, hk61, rfl, hall, rfl⟩ := hrel
    have HALL := Lib.hid hall
    clear hall
    by_cases hlt : k < n
    · by_cases h61 : k < 61
      · obtain ⟨b, off, d, rfl, hbB, hck, hdk⟩ := HA.out.at (n := k) (by rw [HN.out]; exact hlt)
        obtain ⟨hd1, hd2, A2, c2, rfl, hby⟩ := hdk
        have h3 : wr.cell? ⟨b, off + k * 4 + 3, none⟩ = some (.slice A2 (sAt rs k).d.length c2) := by
          have := hck 3 _ rfl
          rwa [Addr.add_mid] at this
        obtain ⟨L, hL⟩ : ∃ L, (sAt rs k).d.length = L := ⟨_, rfl⟩
        rw [hL] at h3 hd2
        have HL := Lib.hid hL
        have hd3 : L ≤ 9223372036854775807 := by unfold maxLen at hd2; omega
        clear hL hd1 hd2 hby hck
        have hg1 : decide ((k : Int) < (n : Int)) = true := by simp; omega
        have hg2 : decide ((k : Int) < 61) = true := by simp; omega
        by_cases h300 : 300 < L
        · have hg3 : decide ((300 : Int) < (L : Int)) = true := by simp; omega
          go_wp2_with fail
          go_ret
          exact ⟨ret_bool (by rw [← HR.out]; exact (fewOk_big (by rw [HN.out]; exact hlt) (by rw [HL.out]; exact h300)).symm), rfl⟩
        · have hg3 : decide ((300 : Int) < (L : Int)) = false := by simp; omega
          go_wp2_with fail
          go_roundw
          case rel => exact ⟨k + 1, by omega, by omega, by go_num, fun i hi => by (by_cases e : i = k; (rw [e, HL.out]; omega); exact HALL.out i (by omega)), trivial⟩
          case measure => simp [intOf]; omega
      · have hg1 : decide ((k : Int) < (n : Int)) = true := by simp; omega
        have hg2 : decide ((k : Int) < 61) = false := by simp; omega
        have hg3 : decide ((n : Int) ≤ 60) = false := by simp; omega
        go_wp2_with fail
        go_ret
        exact ⟨ret_bool (by rw [← HR.out]; exact (fewOk_long (by rw [HN.out]; omega)).symm), rfl⟩
    · obtain rfl : k = n := by omega
      have hg1 : decide ((k : Int) < (k : Int)) = false := by simp
      by_cases h60 : k ≤ 60
      · have hg3 : decide ((k : Int) ≤ 60) = true := by simp; omega
        go_wp2_with fail
        go_ret
        exact ⟨ret_bool (by rw [← HR.out]; exact (fewOk_yes (by rw [HN.out]; exact h60) (by rw [HN.out]; exact HALL.out)).symm), rfl⟩
      · have hg3 : decide ((k : Int) ≤ 60) = false := by simp; omega
        go_wp2_with fail
        go_ret
        exact ⟨ret_bool (by rw [← HR.out]; exact (fewOk_long (by rw [HN.out]; omega)).symm), rfl⟩

set_option maxRecDepth 100000 in
theorem at_any (A : Option Addr) (k c i : Nat) (xs : List Int) (w : World) (hk : xs.length = k) (hl : k ≤ 1000000) (hi : i ≤ 1000000) (hx : ∀ y ∈ xs, 0 ≤ y ∧ y < 256) (hA : Byt w w.heap.size A c xs) :
    Calls Try.prog 60 #[.slice A k c, .int .i64 i] w fun e w' => e = .returned (.int .i64 (xs.getD i 0)) ∧ w' = w := by
  obtain ⟨r, hr⟩ : ∃ r, xs.getD i 0 = r := ⟨_, rfl⟩
  rw [hr]
  by_cases hlt : i < k
  · obtain ⟨b, off, rfl, hb, hc⟩ := hA.2.2 i (by omega)
    have hi2 : xs[i]? = some r := by rw [← hr]; simp [List.getD, show i < xs.length by omega]
    have hcell := hc r hi2
    have hr2 := hx r (List.mem_iff_getElem?.2 ⟨i, hi2⟩)
    have hg : decide ((k : Int) ≤ (i : Int)) = false := by simp; omega
    clear hc hA hi2 hr hx
    go_enter Try.func60, Try.ntmps60
    go_wp2_with fail
    go_ret
    exact ⟨rfl, rfl⟩
  · have hr0 : r = 0 := by rw [← hr]; simp [List.getD, show xs[i]? = none from List.getElem?_eq_none (by omega)]
    subst hr0
    have hg : decide ((k : Int) ≤ (i : Int)) = true := by simp; omega
    clear hA hr hx
    go_enter Try.func60, Try.ntmps60
    go_wp2_with fail
    go_ret
    exact ⟨rfl, rfl⟩
end Go.Proofs.Ytnmhmabifeapkaa.Ord
