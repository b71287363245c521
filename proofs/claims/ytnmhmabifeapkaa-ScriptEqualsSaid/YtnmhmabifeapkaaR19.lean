/- Lists of steps; walks of SameStep and Same. -/
import Derived.Test.YtnmhmabifeapkaaR18
import Derived.Lib.Bytes
namespace Go.Proofs.Ytnmhmabifeapkaa.Ord
open Go.RowKit
set_option linter.unusedVariables false

/-- a slice of bytes, below a block -/
def DatB (w : World) (B : Nat) (d : Value) (xs : List Int) : Prop := (∀ y ∈ xs, 0 ≤ y ∧ y < 256) ∧ xs.length ≤ 10000 ∧ ∃ A c, d = .slice A xs.length c ∧ Byt w B A c xs
theorem DatB.below {B B' : Nat} {w w' : World} {d : Value} {xs : List Int} (h : DatB w B d xs) (hb : Below B' w w') (hB : B ≤ B') : DatB w' B d xs := by
  obtain ⟨h1, h2, A, c, h3, h4⟩ := h
  exact ⟨h1, h2, A, c, h3, h4.below hb hB⟩
theorem DatB.mono {B B' : Nat} {w : World} {d : Value} {xs : List Int} (h : DatB w B d xs) (hB : B ≤ B') : DatB w B' d xs := by
  obtain ⟨h1, h2, A, c, h3, h4⟩ := h
  exact ⟨h1, h2, A, c, h3, h4.mono hB⟩
def Steps (w : World) (B : Nat) (A : Option Addr) (rs : List StepR) : Prop :=
  ∀ i r, rs[i]? = some r → ∃ b off d, A = some ⟨b, off, none⟩ ∧ b < B ∧ CellsAt w ⟨b, off + i * 4, none⟩ (stepL r.k r.c r.n d) ∧ DatB w B d r.d
theorem Steps.below {B B' : Nat} {w w' : World} {A : Option Addr} {rs : List StepR} (h : Steps w B A rs) (hb : Below B' w w') (hB : B ≤ B') : Steps w' B A rs := by
  intro i r hi
  obtain ⟨b, off, d, h1, h2, h3, h4⟩ := h i r hi
  exact ⟨b, off, d, h1, h2, h3.below hb (by show b < B'; omega), h4.below hb hB⟩
theorem Steps.mono {B B' : Nat} {w : World} {A : Option Addr} {rs : List StepR} (h : Steps w B A rs) (hB : B ≤ B') : Steps w B' A rs := by
  intro i r hi
  obtain ⟨b, off, d, h1, h2, h3, h4⟩ := h i r hi
  exact ⟨b, off, d, h1, by omega, h3, h4.mono hB⟩

theorem flat4 : ∀ (ps : List (StepR × Value)) (i : Nat) (p : StepR × Value) (j : Nat) (v : Value), ps[i]? = some p → (stepC p)[j]? = some v → (ps.flatMap stepC)[i * 4 + j]? = some v
  | [], _, _, _, _, h, _ => by simp at h
  | q :: ps, 0, p, j, v, h, hj => by
    simp at h; subst h
    rw [List.flatMap_cons, Nat.zero_mul, Nat.zero_add, List.getElem?_append_left (List.getElem?_eq_some_iff.1 hj).1]
    exact hj
  | q :: ps, i + 1, p, j, v, h, hj => by
    have e : (stepC q).length = 4 := rfl
    rw [List.flatMap_cons, List.getElem?_append_right (by rw [e]; omega), e, show (i + 1) * 4 + j - 4 = i * 4 + j by omega]
    exact flat4 ps i p j v (by simpa using h) hj

theorem Steps.of_own {w : World} {base : Nat} {v : Value} {ps : List (StepR × Value)} (h : OwnSteps w base v ps) (hd : ∀ p ∈ ps, (∀ y ∈ p.1.d, 0 ≤ y ∧ y < 256) ∧ p.1.d.length ≤ 10000) :
    ∃ A c, v = .slice A ps.length c ∧ ps.length ≤ c ∧ Steps w w.heap.size A (ps.map (·.1)) := by
  rcases owns_shape h.1 (by decide) with ⟨h1, h2, _⟩ | ⟨g, cap, h1, _, hlt, h2, _⟩
  · refine ⟨none, 0, by rw [h1, h2], by omega, fun i r hi => ?_⟩
    obtain rfl : ps = [] := List.eq_nil_of_length_eq_zero h2
    simp at hi
  · refine ⟨_, cap, h1, h2, fun i r hi => ?_⟩
    rw [List.getElem?_map] at hi
    obtain ⟨p, hp, rfl⟩ := Option.map_eq_some_iff.1 hi
    have hm : p ∈ ps := List.mem_iff_getElem?.2 ⟨i, hp⟩
    obtain ⟨A, c, hv, hb⟩ := (h.2 p hm).val
    refine ⟨g, 0, p.2, rfl, hlt, fun j u hj => ?_, (hd p hm).1, (hd p hm).2, A, c, hv, hb⟩
    have hc := h.1.cells (g := g) (by rw [h1]; rfl) (i * 4 + j) u (flat4 ps i p j u hp hj)
    rw [Addr.add_mid] at hc ⊢
    rw [Nat.add_assoc]
    exact hc

def stepEq (a b : StepR) : Bool := a.k == b.k && a.c == b.c && a.n == b.n && decide (a.d = b.d)
theorem str_beq {xs ys : List Int} (hx : ∀ y ∈ xs, 0 ≤ y ∧ y < 256) (hy : ∀ y ∈ ys, 0 ≤ y ∧ y < 256) : ((strOfNums xs).toList == (strOfNums ys).toList) = decide (xs = ys) := by
  rw [Lib.strOfNums_toList, Lib.strOfNums_toList]
  have back : ∀ l : List Int, (∀ y ∈ l, 0 ≤ y ∧ y < 256) → (Lib.bytesOf l).map (fun b => (b.toNat : Int)) = l := by
    intro l hl
    unfold Lib.bytesOf
    rw [List.map_map]
    conv => rhs; rw [← List.map_id l]
    refine List.map_congr_left fun y hy => ?_
    have := hl y hy
    simp only [Function.comp_apply, UInt8.toNat_ofNat', id]
    omega
  rw [Bool.eq_iff_iff, beq_iff_eq, decide_eq_true_iff]
  exact ⟨fun h => by rw [← back xs hx, ← back ys hy, h], fun h => by rw [h]⟩

set_option maxRecDepth 100000 in
set_option maxHeartbeats 2000000 in
theorem sameStep_any (r s : StepR) (d e : Value) (w : World) (hr : DatB w w.heap.size d r.d) (hs : DatB w w.heap.size e s.d) :
    Calls Try.prog 21 #[.agg (stepL r.k r.c r.n d).toArray, .agg (stepL s.k s.c s.n e).toArray] w fun e w' => e = .returned (.bool (stepEq r s)) ∧ Below w.heap.size w w' := by
  have hb := below2 w (.cells (stepL r.k r.c r.n d).toArray 35) (.cells (stepL s.k s.c s.n e).toArray 35)
  have hr2 := hr.below hb (Nat.le_refl _)
  have hs2 := hs.below hb (Nat.le_refl _)
  obtain ⟨hr1, _, A, c, rfl, hA⟩ := hr2
  obtain ⟨hs1, _, A', c', rfl, hA'⟩ := hs2
  have q1 := hA.convert rfl
  have q2 := hA'.convert rfl
  have hse := str_beq hr1 hs1
  have hv : stepEq r s = (r.k == s.k && r.c == s.c && r.n == s.n && ((strOfNums r.d).toList == (strOfNums s.d).toList)) := by rw [hse]; rfl
  rw [hv]
  clear hv hse hr hs hr1 hs1 hA hA'
  obtain ⟨rk, rc, rn, rd⟩ := r
  obtain ⟨sk, sc, sn, sd⟩ := s
  simp only [stepL] at *
  generalize strOfNums rd = x at *
  generalize strOfNums sd = y at *
  generalize rd.length = lr at *
  generalize sd.length = ls at *
  clear rd sd
  have HB := Lib.hid hb
  clear hb
  go_enter Try.func21, Try.ntmps21
  cases g1 : (rk == sk)
  · go_wp2_with fail
    go_ret
    exact ⟨rfl, HB.out⟩
  cases g2 : (rc == sc)
  · go_wp2_with fail
    go_ret
    exact ⟨rfl, HB.out⟩
  cases g3 : (rn == sn)
  · go_wp2_with fail
    go_ret
    exact ⟨rfl, HB.out⟩
  go_wp2_with fail
  go_ret
  exact ⟨rfl, HB.out⟩

instance : Inhabited StepR := ⟨⟨0, 0, 0, []⟩⟩
def sAt (rs : List StepR) (k : Nat) : StepR := rs.getD k default
def stepsEq (rs ss : List StepR) : Bool := decide (rs.length = ss.length ∧ ∀ i, i < rs.length → stepEq (sAt rs i) (sAt ss i) = true)
theorem stepsEq_yes {rs ss : List StepR} (h : rs.length = ss.length) (h1 : ∀ i, i < rs.length → stepEq (sAt rs i) (sAt ss i) = true) : stepsEq rs ss = true := decide_eq_true ⟨h, h1⟩
theorem stepsEq_no {rs ss : List StepR} {k : Nat} (hk : k < rs.length) (h : stepEq (sAt rs k) (sAt ss k) = false) : stepsEq rs ss = false :=
  decide_eq_false fun h2 => by rw [h2.2 k hk] at h; cases h
theorem stepsEq_len {rs ss : List StepR} (h : ¬ rs.length = ss.length) : stepsEq rs ss = false := decide_eq_false fun h2 => h h2.1
theorem Steps.at {w : World} {B : Nat} {A : Option Addr} {rs : List StepR} (h : Steps w B A rs) {n : Nat} (hn : n < rs.length) : ∃ b off d, A = some ⟨b, off, none⟩ ∧ b < B ∧ CellsAt w ⟨b, off + n * 4, none⟩ (stepL (sAt rs n).k (sAt rs n).c (sAt rs n).n d) ∧ DatB w B d (sAt rs n).d := by
  have : sAt rs n = rs[n] := by simp [sAt, List.getD, hn]
  rw [this]
  exact h n _ (List.getElem?_eq_getElem hn)

set_option maxRecDepth 100000 in
set_option maxHeartbeats 2000000 in
theorem same_any (A A' : Option Addr) (n m c c' : Nat) (rs ss : List StepR) (w : World) (hn : rs.length = n) (hm : ss.length = m) (hl : n ≤ 5000) (hl' : m ≤ 5000) (hc : n ≤ c) (hc' : m ≤ c') (hA : Steps w w.heap.size A rs) (hA' : Steps w w.heap.size A' ss) :
    Calls Try.prog 12 #[.slice A n c, .slice A' m c'] w fun e w' => e = .returned (.bool (stepsEq rs ss)) ∧ Below w.heap.size w w' := by
  have HA := Lib.hid hA
  have HA' := Lib.hid hA'
  have HN := Lib.hid hn
  have HM := Lib.hid hm
  clear hA hA' hn hm
  by_cases hnm : n = m
  · subst hnm
    go_enter Try.func12, Try.ntmps12
    go_wp2_with fail
    go_loopw [5] (fun j wr => ∃ k : Nat, k ≤ n ∧ j = .int .i64 k ∧ (∀ i, i < k → stepEq (sAt rs i) (sAt ss i) = true) ∧ Below w.heap.size w wr) (fun j _ => n - (intOf j).toNat)
    case atStart => exact ⟨0, Nat.zero_le _, rfl, fun i hi => absurd hi (by omega), Below.refl _ _⟩
    case round =>
      obtain ⟨k, hk, rfl, hall, hb⟩ := hrel
      have HALL := Lib.hid hall
      clear hall
      by_cases hlt : k < n
      · obtain ⟨b, off, d, rfl, hbB, hck, hdk⟩ := (HA.out.below hb (Nat.le_refl _)).at (n := k) (by rw [HN.out]; exact hlt)
        obtain ⟨b', off', d', rfl, hbB', hck', hdk'⟩ := (HA'.out.below hb (Nat.le_refl _)).at (n := k) (by rw [HM.out]; exact hlt)
        have HS := Lib.hid (show ∀ W, Below wr.heap.size wr W → Calls Try.prog 21 #[.agg (stepL (sAt rs k).k (sAt rs k).c (sAt rs k).n d).toArray, .agg (stepL (sAt ss k).k (sAt ss k).c (sAt ss k).n d').toArray] W fun e w' => e = .returned (.bool (stepEq (sAt rs k) (sAt ss k))) ∧ Below W.heap.size W w' from
          fun W hW => sameStep_any _ _ _ _ W ((hdk.below hW hb.size).mono (Nat.le_trans hb.size hW.size)) ((hdk'.below hW hb.size).mono (Nat.le_trans hb.size hW.size)))
        have Hk := Lib.hid hck.regrown
        have Hk' := Lib.hid hck'.regrown
        clear hck hck' hdk hdk'
        go_wp2_with fail
        refine wp_region_quiet_below (by kernel_rfl) (by kernel_rfl) ?_
        repeat (first
          | ((with_reducible refine qk_load_agg (o := ⟨some 20, _, _, _, _, _⟩) rfl 35 _ rfl ⟨b, off + k * 4, none⟩ ?_ (stepL (sAt rs k).k (sAt rs k).c (sAt rs k).n d) _ Hk.out Try.underlying35 rfl (stepL_size _ _ _ _) ?_); (· rfl); simp only [Act.put, List.setIfInBounds_toArray, List.set_cons_succ, List.set_cons_zero])
          | ((with_reducible refine qk_load_agg (o := ⟨some 24, _, _, _, _, _⟩) rfl 35 _ rfl ⟨b', off' + k * 4, none⟩ ?_ (stepL (sAt ss k).k (sAt ss k).c (sAt ss k).n d') _ Hk'.out Try.underlying35 rfl (stepL_size _ _ _ _) ?_); (· rfl); simp only [Act.put, List.setIfInBounds_toArray, List.set_cons_succ, List.set_cons_zero])
          | go_big_quiet_step ((go_at_call 21; exact Calls.regrown_of (HS.out _ (below_regrown _ _ _)))))
        refine wpQuiet_nil ?_
        intro W3 hW3
        have hb3 := hb.trans ((regrown_below hW3).mono hb.size)
        obtain ⟨bv, hbv⟩ : ∃ bv, stepEq (sAt rs k) (sAt ss k) = bv := ⟨_, rfl⟩
        rw [hbv]
        have HV := Lib.hid hbv
        clear hbv hW3
        cases bv
        · go_wp2_with fail
          go_ret
          exact ⟨ret_bool (stepsEq_no (by rw [HN.out]; exact hlt) HV.out).symm, hb3⟩
        · go_wp2_with fail
          go_roundw
          case rel => exact ⟨k + 1, by omega, by go_num, fun i hi => by (by_cases e : i = k; subst e; exact HV.out; exact HALL.out i (by omega)), hb3⟩
          case measure => simp [intOf]; omega
      · obtain rfl : k = n := by omega
        go_wp2_with fail
        go_ret
        exact ⟨ret_bool (stepsEq_yes (by rw [HN.out, HM.out]) (by rw [HN.out]; exact HALL.out)).symm, hb⟩
  · go_enter Try.func12, Try.ntmps12
    go_wp2_with fail
    go_ret
    exact ⟨ret_bool (stepsEq_len (by rw [HN.out, HM.out]; exact hnm)).symm, Below.refl _ _⟩
end Go.Proofs.Ytnmhmabifeapkaa.Ord
