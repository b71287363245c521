/- The codec that writes: numbers and values. -/
import Derived.Test.YtnmhmabifeapkaaM3
import Derived.Test.YtnmhmabifeapkaaM2
import Derived.Lib.Bytes
/- Walks of the codec's number and life, written. -/
namespace Go.Proofs.Ytnmhmabifeapkaa.Ord
open Go.RowKit
set_option linter.unusedVariables false

theorem f109c_name : (Try.f109.name == "runtime.NumGoroutine") = false := by kernel_rfl
theorem f109c_body : Try.f109.body.isSome = true := by kernel_rfl

set_option maxRecDepth 100000 in
set_option maxHeartbeats 4000000 in
theorem number_write (X G k : Nat) (t : TypeId) (n : Nat) (f : Nat → Value) (m : Nat) (c : Value) (A : Option Addr) (ca : Nat) (out : List Int) (bad : Bool) (w : World)
    (hG : w.rowIs G t n f) (hk : k < n) (hf : f k = .int .u64 m) (hm : m < 18446744073709551616) (hXG : X ≠ G) (hX : w.rowIs X 149 4 (codF c (.pointer none) (.slice A out.length ca) bad)) (hA : Byt w w.heap.size A ca out) (hAX : ∀ b off, A = some ⟨b, off, none⟩ → b ≠ X) (hol : out.length ≤ 500000) :
    Calls Try.prog 132 #[.pointer (some ⟨X, 0, none⟩), .pointer (some ⟨G, k, none⟩)] w fun e w' =>
      e = .returned (.tuple #[]) ∧ ∃ v, w'.rowIs X 149 4 (codF c (.pointer none) v bad) ∧ SlB w' w.heap.size v (out ++ putV m) ∧ Kept [X] w w' := by
  have hc1 : w.cell? ⟨X, 1, none⟩ = some (.pointer none) := World.rowIs.cell hX (i := 1) (by decide)
  have hc2 : w.cell? ⟨X, 2, none⟩ = some (.slice A out.length ca) := World.rowIs.cell hX (i := 2) (by decide)
  have hcs : w.cell? ⟨G, k, none⟩ = some (.int .u64 m) := by rw [← hf]; exact World.rowIs.cell hG hk
  have HX := Lib.hid hX
  have HG := Lib.hid hG
  have HA := Lib.hid hA
  clear hX hG hA
  obtain ⟨L, hL⟩ : ∃ L, (out ++ putV m).length = L := ⟨_, rfl⟩
  have HL := Lib.hid hL
  clear hL
  have HC := Lib.hid (put_any A out.length ca out m w.drew rfl hm (by omega) (HA.out : Byt w.drew w.drew.heap.size A ca out))
  go_enter Try.func132, Try.ntmps132
  go_wp2_with fail
  go_region_law ((with_reducible refine step_call_any (o := ⟨some 19, _, _, _, _, _⟩) rfl 109 _ _ rfl #[.slice A out.length ca, .int .u64 m] ?_ Try.f109 Try.func109 f109c_name f109c_body (fun u w6 => Own8 w6 w.drew.heap.size u (out ++ putV m) ∧ Below w.drew.heap.size w.drew w6) ?_ ?_); (· simp only [List.map_toArray, List.map_cons, List.map_nil]; rfl); (· exact HC.out.mono fun e w' ⟨v, h1, h2, h3⟩ => ⟨v, h1, h2, h3⟩); rintro u6 w6 ⟨hown6, hb6⟩; obtain ⟨A6, c6, rfl, hby6⟩ := hown6.val; rw [HL.out]; rw [HL.out] at hown6; have hX6 := Lib.hid (World.rowIs.of_block HX.out (hb6.block X (World.rowIs.lt HX.out))); have h62 : w6.cell? ⟨X, 2, none⟩ = some (.slice A out.length ca) := World.rowIs.cell hX6.out (i := 2) (by decide); have hf62 : w6.frozen? ⟨X, 2, none⟩ = false := World.rowIs.frozen hX6.out 2)
  all_goals
    have hbw6 : Below w.heap.size w w6 := ⟨hb6.os, hb6.tape, hb6.output, hb6.size, hb6.block⟩
    obtain ⟨w7, hw7, hX7, hG7, hK7, hS7⟩ := part_mid HL.out HG.out hXG HX.out hbw6 hown6 (Nat.le_refl _)
    rw [← hw7]
    have HX7 := Lib.hid hX7
    have HK7 := Lib.hid hK7
    have HS7 := Lib.hid hS7
    clear hw7 h62 hf62 hX6 hown6 hby6 hb6 hbw6 hX7 hG7 hK7 hS7
    go_wp2_with fail
    refine bodyPost_ret (results_none rfl _ _ _) rfl ?_
    exact ⟨rfl, _, HX7.out, HS7.out, HK7.out⟩
end Go.Proofs.Ytnmhmabifeapkaa.Ord
/- Walk of varint.Get at any number. -/
namespace Go.Proofs.Ytnmhmabifeapkaa.Ord
open Go.RowKit
set_option linter.unusedVariables false

theorem putV_pos {m : Nat} : 1 ≤ (putV m).length := by
  by_cases h : m ≤ 127
  · rw [putV_small h]; simp
  · rw [putV_more h]; simp
theorem and127_all : (List.range 128).all (fun r => bits .and .u8 ((128 + r : Nat) : Int) 127 == (r : Int)) = true := by decide +kernel
theorem and127 {r : Nat} (h : r < 128) : bits .and .u8 ((128 + r : Nat) : Int) 127 = (r : Int) := eq_of_beq (List.all_eq_true.1 and127_all r (List.mem_range.2 h))

theorem pow128 (j : Nat) : 2 ^ (7 * j) = 128 ^ j := by rw [Nat.pow_mul]
theorem or_shift {a m j : Nat} (ha : a < 128 ^ j) (h : a + m * 128 ^ j < 18446744073709551616) : bits .or .u64 (a : Int) (IntKind.u64.wrap ((m : Int) * 2 ^ (7 * j))) = ((a + m * 128 ^ j : Nat) : Int) := by
  have e0 : ((m : Int) * 2 ^ (7 * j)) = ((m * 128 ^ j : Nat) : Int) := by rw [← pow128]; push_cast; rfl
  have e1 : IntKind.u64.wrap ((m * 128 ^ j : Nat) : Int) = ((m * 128 ^ j : Nat) : Int) := by
    rw [IntKind.wrap_u64]; omega
  rw [e0, e1]
  have e2 : BitVec.ofInt IntKind.u64.bits (a : Int) = BitVec.ofNat 64 a := BitVec.ofInt_natCast (w := 64) a
  have e3 : BitVec.ofInt IntKind.u64.bits ((m * 128 ^ j : Nat) : Int) = BitVec.ofNat 64 (m * 128 ^ j) := BitVec.ofInt_natCast (w := 64) _
  unfold bits
  simp only [e2, e3]
  show IntKind.u64.wrap (((BitVec.ofNat 64 a ||| BitVec.ofNat 64 (m * 128 ^ j)).toNat : Nat) : Int) = _
  rw [BitVec.toNat_or, BitVec.toNat_ofNat, BitVec.toNat_ofNat, Nat.mod_eq_of_lt (show a < 2 ^ 64 by omega), Nat.mod_eq_of_lt (show m * 128 ^ j < 2 ^ 64 by omega)]
  have e4 : a ||| m * 128 ^ j = a + m * 128 ^ j := by
    rw [← pow128, ← Nat.shiftLeft_eq, Nat.or_comm, ← Nat.shiftLeft_add_eq_or_of_lt (by rw [pow128]; exact ha), Nat.add_comm]
  rw [e4, IntKind.wrap_u64]
  omega

set_option maxRecDepth 100000 in
set_option maxHeartbeats 1000000 in
theorem get_any {n : Nat} (hn : n < 18446744073709551616) : GetOk n := by
  intro A k c rest w hk hl hA
  obtain ⟨L, hL⟩ : ∃ L, (putV n).length = L := ⟨_, rfl⟩
  rw [hL]
  have hL10 : L ≤ 10 := by rw [← hL]; exact putV_len10 hn
  have hk1 : L ≤ k := by rw [← hk, List.length_append, hL]; omega
  have HA := Lib.hid hA
  have HL := Lib.hid hL
  have HN := Lib.hid hn
  clear hA hL hk
  go_enter Try.func153, Try.ntmps153
  go_wp2_with fail
  go_loopw [2, 9] (fun a i wr => ∃ (j ac m : Nat) (pre : List Int), i = .int .i64 j ∧ a = .int .u64 (ac : Int) ∧ ac = n % 128 ^ j ∧ m = n / 128 ^ j ∧ putV n = pre ++ putV m ∧ pre.length = j ∧ (0 < j → 0 < m) ∧ j < L ∧ wr = w) (fun _ i _ => L - (intOf i).toNat)
  case atStart => exact ⟨0, 0, n, [], rfl, rfl, by simp [Nat.mod_one], by simp, rfl, rfl, fun h => absurd h (by omega), by have := HL.out; have := putV_pos (m := n); omega, rfl⟩
  case round =>
    obtain ⟨j, ac, m, pre, rfl, rfl, hac, hm, hp, hpl, hpos, hjL, rfl⟩ := hrel
    have hj9 : j ≤ 9 := by omega
    have hx : (putV n ++ rest)[j]? = (putV m)[0]? := by
      rw [hp, List.append_assoc, List.getElem?_append_right (by omega), hpl, Nat.sub_self, List.getElem?_append_left putV_pos]
    have hlt : j < (putV n ++ rest).length := by rw [List.length_append, HL.out]; omega
    obtain ⟨b, off, rfl, hb, hc⟩ := HA.out.at (i := j) hlt
    have hget : (putV n ++ rest).getD j 0 = (putV m).headD 0 := by
      rw [List.getD, hx]
      cases hpm : putV m with
      | nil => have := putV_pos (m := m); rw [hpm] at this; simp at this
      | cons a l => rfl
    rw [hget] at hc
    have hg0 : decide ((j : Int) < (k : Int)) = true := by simp; omega
    have hpow : 0 < 128 ^ j := Nat.pow_pos (by decide)
    have hsum : ac + m * 128 ^ j = n := by rw [hac, hm]; have := Nat.mod_add_div n (128 ^ j); rw [Nat.mul_comm] at this; exact this
    have haclt : ac < 128 ^ j := by rw [hac]; exact Nat.mod_lt _ hpow
    have hcase : j < 9 ∨ (j = 9 ∧ m ≤ 1) := by
      by_cases h9 : j = 9
      · right; refine ⟨h9, ?_⟩
        rw [hm, h9]
        omega
      · left; omega
    have HM := Lib.hid hm
    have HP := Lib.hid hp
    have HPL := Lib.hid hpl
    have HS := Lib.hid hsum
    have HAC := Lib.hid haclt
    clear hx hget hlt hm hp hpl hac hsum haclt hpow
    by_cases h127 : m ≤ 127
    · rw [putV_small h127] at hc
      simp only [List.headD_cons] at hc
      have hor := or_shift HAC.out (by rw [HS.out]; exact HN.out)
      rw [HS.out] at hor
      have hlen : j + 1 = L := by
        rw [← HL.out, HP.out, List.length_append, HPL.out, putV_small h127]; rfl
      have HLEN := Lib.hid hlen
      have HOR := Lib.hid hor
      clear hlen hor
      have g3 : decide ((m : Int) < 128) = true := by simp; omega
      by_cases h0 : j = 0
      · subst h0
        simp only [Nat.add_zero] at hc
        have HOR0 : bits BinOp.or IntKind.u64 (ac : Int) (IntKind.u64.wrap (m : Int)) = (n : Int) := by simpa using HOR.out
        rw [show IntKind.u64.wrap (m : Int) = (m : Int) by rw [IntKind.wrap_u64]; omega] at HOR0
        have HOR1 := Lib.hid HOR0
        clear hcase hpos HOR0
        go_wp2_with fail
        rw [HOR1.out]
        go_ret3
        exact ⟨by rw [← HLEN.out]; rfl, Below.refl _ _⟩
      · have g2' : ((m : Int) == 0) = false := by have := hpos (by omega); simp; omega
        by_cases h9 : j = 9
        · subst h9
          have g1' : decide ((1 : Int) < (m : Int)) = false := by simp; omega
          have HOR' := Lib.hid HOR.out
          clear hcase hpos h0
          go_wp2_with fail
          rw [show bits BinOp.or IntKind.u64 (ac : Int) (IntKind.u64.wrap ((m : Int) * 9223372036854775808)) = (n : Int) by simpa using HOR.out]
          go_ret3
          exact ⟨by rw [← HLEN.out]; rfl, Below.refl _ _⟩
        · have g1 : ((j : Int) == 9) = false := by simp; omega
          have g2 : decide ((0 : Int) < (j : Int)) = true := by simp; omega
          clear hcase
          go_wp2_with fail
          rw [HOR.out]
          go_ret3
          exact ⟨by rw [← HLEN.out]; rfl, Below.refl _ _⟩
    · obtain ⟨r, hr⟩ : ∃ r, m % 128 = r := ⟨_, rfl⟩
      rw [putV_more h127, hr] at hc
      simp only [List.headD_cons] at hc
      have hr128 : r < 128 := by rw [← hr]; exact Nat.mod_lt _ (by decide)
      have hand := and127 hr128
      obtain ⟨cc, hcc⟩ : ∃ cc, 128 + r = cc := ⟨_, rfl⟩
      rw [hcc] at hc hand
      have hdm : m = r + m / 128 * 128 := by rw [← hr]; omega
      have hor := or_shift (a := ac) (m := r) (j := j) HAC.out (by
        have := HS.out
        have h2 : r * 128 ^ j ≤ m * 128 ^ j := Nat.mul_le_mul_right _ (by omega)
        have := HN.out
        omega)
      obtain ⟨ac', hac'⟩ : ∃ x, ac + r * 128 ^ j = x := ⟨_, rfl⟩
      rw [hac'] at hor
      have g1 : ((j : Int) == 9) = false := by simp; omega
      have g2' : ((cc : Int) == 0) = false := by simp; omega
      have g3 : decide ((cc : Int) < 128) = false := by simp; omega
      have HD := Lib.hid hdm
      have HAC' := Lib.hid hac'
      have HR := Lib.hid hr
      have HOR := Lib.hid hor
      clear hdm hac' hr hcc hor
      have hrel2 : ac' = n % 128 ^ (j + 1) ∧ m / 128 = n / 128 ^ (j + 1) := by
        have e := HS.out
        have e2 : n / 128 ^ (j + 1) = m / 128 := by rw [Nat.pow_succ, ← Nat.div_div_eq_div_mul, ← HM.out]
        refine ⟨?_, e2.symm⟩
        rw [Nat.pow_succ, Nat.mod_mul, ← HM.out, HR.out, ← HAC'.out]
        have hpow : 0 < 128 ^ j := Nat.pow_pos (by decide)
        have : n % 128 ^ j = ac := by
          rw [← e, Nat.mul_comm, Nat.add_mul_mod_self_left]
          exact Nat.mod_eq_of_lt HAC.out
        rw [this, Nat.mul_comm]
      have HREL := Lib.hid hrel2
      clear hrel2
      have hjL' : j + 1 < L := by
        have := HL.out
        rw [HP.out, List.length_append, HPL.out, putV_more h127, List.length_cons] at this
        have := putV_pos (m := m / 128)
        omega
      by_cases h0 : j = 0
      · subst h0
        simp only [Nat.add_zero] at hc
        have HOR0 : bits BinOp.or IntKind.u64 (ac : Int) (IntKind.u64.wrap (r : Int)) = (ac' : Int) := by simpa using HOR.out
        rw [show IntKind.u64.wrap (r : Int) = (r : Int) by rw [IntKind.wrap_u64]; omega] at HOR0
        have HOR1 := Lib.hid HOR0
        clear hcase hpos HOR0 g1
        go_wp2_with fail
        rw [HOR1.out]
        go_roundw
        case rel => exact ⟨1, ac', m / 128, pre ++ [((128 + m % 128 : Nat) : Int)], rfl, rfl, HREL.out.1, HREL.out.2, by rw [HP.out, putV_more h127, List.append_assoc]; rfl, by simp [HPL.out], fun _ => by omega, hjL', by first | trivial | rfl⟩
        case measure => simp [intOf]; omega
      · have g2 : decide ((0 : Int) < (j : Int)) = true := by simp; omega
        clear hcase
        go_wp2_with fail
        rw [HOR.out]
        go_roundw
        case rel => exact ⟨j + 1, ac', m / 128, pre ++ [((128 + m % 128 : Nat) : Int)], by go_num, rfl, HREL.out.1, HREL.out.2, by rw [HP.out, putV_more h127, List.append_assoc]; rfl, by simp [HPL.out], fun _ => by omega, hjL', by first | trivial | rfl⟩
        case measure => simp [intOf]; omega
end Go.Proofs.Ytnmhmabifeapkaa.Ord
/- Walks of the reader's Number and of the codec's number, read. -/
namespace Go.Proofs.Ytnmhmabifeapkaa.Ord
open Go.RowKit
set_option linter.unusedVariables false

set_option maxRecDepth 100000 in
set_option maxHeartbeats 1000000 in
theorem number145 (NL : List Nat) (R n : Nat) (hRN : R ∈ NL) (v : Value) (rest : List Int) (w : World) (hget : GetOk n) (hl : (putV n ++ rest).length ≤ 1000000)
    (hR : w.rowIs R 196 2 (rdF v)) (hv : SlX w NL v (putV n ++ rest)) :
    Calls Try.prog 145 #[.pointer (some ⟨R, 0, none⟩)] w fun e w' => ∃ v', e = .returned (.tuple #[.int .u64 n, .int .i64 0]) ∧ w'.rowIs R 196 2 (rdF v') ∧ SlX w' NL v' rest ∧ Kept [R] w w' := by
  obtain ⟨A, c, rfl, hA, hAR⟩ := hv
  have h0 : w.cell? ⟨R, 0, none⟩ = some (.bool true) := World.rowIs.cell hR (i := 0) (by decide)
  have h1 : w.cell? ⟨R, 1, none⟩ = some (.slice A (putV n ++ rest).length c) := World.rowIs.cell hR (i := 1) (by decide)
  obtain ⟨k, hk⟩ : ∃ k, (putV n ++ rest).length = k := ⟨_, rfl⟩
  have HR := Lib.hid hR
  have HG := Lib.hid (hget A k c rest w hk (by omega) hA)
  have hc : k ≤ c := by have := hA.2.1; rw [hk] at this; exact this
  rw [hk] at h1 hl HR
  have HA := Lib.hid hA
  have hRlt := World.rowIs.lt HR.out
  clear hR hA
  obtain ⟨T, hT⟩ : ∃ T, (putV n).length = T := ⟨_, rfl⟩
  have hTk : T ≤ k := by rw [← hT, ← hk]; simp [List.length_append]
  have hT0 : 0 < T := by rw [← hT]; exact putV_pos
  have hkr : rest.length = k - T := by rw [← hT, ← hk]; simp [List.length_append]
  obtain ⟨b, off, hAe, _, _⟩ := HA.out.at (i := 0) (by rw [hk]; omega)
  subst hAe
  rw [hT] at HG
  have HT := Lib.hid hT
  have HK := Lib.hid hk
  have HKR := Lib.hid hkr
  clear hT hk hget hkr
  go_enter Try.func145, Try.ntmps145
  go_wp2_with fail
  go_enter Try.func152, Try.ntmps152
  go_wp2_with fail
  refine HG.out.mono ?_
  rintro e w1 ⟨rfl, hb1⟩
  have hR1 := World.rowIs.of_block HR.out (hb1.block R (World.rowIs.lt HR.out))
  have h11 : w1.cell? ⟨R, 1, none⟩ = some (.slice (some ⟨b, off, none⟩) k c) := World.rowIs.cell hR1 (i := 1) (by decide)
  have hf11 : w1.frozen? ⟨R, 1, none⟩ = false := World.rowIs.frozen hR1 1
  have HR1 := Lib.hid hR1
  clear hR1
  go_wp2_with fail
  all_goals
    go_ret2
    have hby := (HA.out.below hb1 (Nat.le_refl _)).mono hb1.size
    have hbt : b ∉ NL := hAR b off rfl
    have h9 : Byt w1 w1.heap.size (some ⟨b, off, none⟩) c (putV n ++ rest ++ []) := by simpa using hby
    refine ⟨rfl, _, take_end hRN HR1.out hb1 HKR.out (h9.part (m := T) HT.out (by rw [HKR.out]; omega) (by simp) (fun h => ?_)) (fun x o hA => ?_)⟩
    · first | rfl | exact absurd h (by omega)
    · cases hA; exact hbt

set_option maxRecDepth 100000 in
set_option maxHeartbeats 2000000 in
theorem number_read (X G R k : Nat) (t : TypeId) (n : Nat) (f : Nat → Value) (m : Nat) (u0 : Int) (c outv v : Value) (rest : List Int) (bad : Bool) (w : World)
    (hG : w.rowIs G t n f) (hk : k < n) (hf : f k = .int .u64 u0) (hXG : X ≠ G) (hXR : X ≠ R) (hGR : G ≠ R) (hX : w.rowIs X 149 4 (codF c (.pointer (some ⟨R, 0, none⟩)) outv bad))
    (hR : w.rowIs R 196 2 (rdF v)) (hv : SlX w [X, G, R] v (putV m ++ rest)) (hget : GetOk m) (hl : (putV m ++ rest).length ≤ 1000000) :
    Calls Try.prog 132 #[.pointer (some ⟨X, 0, none⟩), .pointer (some ⟨G, k, none⟩)] w fun e w' =>
      e = .returned (.tuple #[]) ∧ ∃ v', w'.rowIs X 149 4 (codF c (.pointer (some ⟨R, 0, none⟩)) outv bad) ∧ w'.rowIs G t n (updF f k (.int .u64 m)) ∧ w'.rowIs R 196 2 (rdF v') ∧ SlX w' [X, G, R] v' rest ∧ Kept [X, G, R] w w' := by
  have hc1 : w.cell? ⟨X, 1, none⟩ = some (.pointer (some ⟨R, 0, none⟩)) := World.rowIs.cell hX (i := 1) (by decide)
  have HB := Lib.hid (number145 [X, G, R] R m (by simp) v rest w hget hl hR hv)
  have HX := Lib.hid hX
  have HG := Lib.hid hG
  clear hX hG hget hR hv
  go_enter Try.func132, Try.ntmps132
  go_wp2_with fail
  refine HB.out.mono ?_
  rintro e w1 ⟨v', rfl, hR1, hv1, hk1⟩
  have hX1 := hk1.row (G := X) (by simp [hXR]) HX.out
  have hG1 := hk1.row (G := G) (by simp [hGR]) HG.out
  have h13 : w1.cell? ⟨X, 3, none⟩ = some (.bool bad) := World.rowIs.cell hX1 (i := 3) (by decide)
  have hf13 : w1.frozen? ⟨X, 3, none⟩ = false := World.rowIs.frozen hX1 3
  have h1g : w1.cell? ⟨G, k, none⟩ = some (.int .u64 u0) := by rw [← hf]; exact World.rowIs.cell hG1 hk
  have hf1g : w1.frozen? ⟨G, k, none⟩ = false := World.rowIs.frozen hG1 k
  obtain ⟨w2, hw2, hX2, hG2, hR2, hv2, hk2⟩ := read_mid (k := k) (u := .int .u64 m) hXG hX1 hG1 hk1 hXR hGR hR1 hv1
  cases bad with
  | true =>
    go_wp2_with fail
    go_end0
    rw [← hw2]
    exact ⟨rfl, v', hX2, hG2, hR2, hv2, hk2⟩
  | false =>
    go_wp2_with fail
    go_end0
    rw [← hw2]
    exact ⟨rfl, v', hX2, hG2, hR2, hv2, hk2⟩
end Go.Proofs.Ytnmhmabifeapkaa.Ord
/- The codec that writes, as a state; its parts, numbers and lifetimes. -/
namespace Go.Proofs.Ytnmhmabifeapkaa.Ord
open Go.RowKit
set_option linter.unusedVariables false

/-- the codec X writes the command C -/
def WS (w : World) (X C : Nat) (f : Nat → Value) (out : List Int) (bad : Bool) : Prop :=
  X ≠ C ∧ w.rowIs C 45 10 f ∧ ∃ v, w.rowIs X 149 4 (codF (.pointer (some ⟨C, 0, none⟩)) (.pointer none) v bad) ∧ SlX w [X, C] v out
theorem WS.next {w w' : World} {X C : Nat} {f : Nat → Value} {out out' : List Int} {bad bad' : Bool} {v : Value} (h : WS w X C f out bad) (hX : w'.rowIs X 149 4 (codF (.pointer (some ⟨C, 0, none⟩)) (.pointer none) v bad')) (hS : SlB w' w.heap.size v out') (hk : Kept [X] w w') : WS w' X C f out' bad' := by
  obtain ⟨h1, h2, v0, h3, h4⟩ := h
  exact ⟨h1, hk.row (by simp; exact fun e => h1 e.symm) h2, v, hX, SlX.of_slb hS (fun k hk => by
    simp at hk
    rcases hk with rfl | rfl
    · exact World.rowIs.lt h3
    · exact World.rowIs.lt h2)⟩

/-- a string of the command, written -/
theorem ws_part {w : World} {X C : Nat} {f : Nat → Value} {out : List Int} {bad al : Bool} (k : Nat) (s : ByteArray) (N : Nat) (h : WS w X C f out bad) (hk : k < 10) (hf : f k = .string s)
    (eg : ∀ args w, (callFunc N args).run Try.prog w = .ok (.enter N args) w) (hN : ∀ w, Calls Try.prog N #[.string s] w fun e w' => e = .returned (.bool al) ∧ Below w.heap.size w w') (hs : s.size ≤ 100000) (hol : out.length ≤ 500000) :
    Calls Try.prog 126 #[.pointer (some ⟨X, 0, none⟩), .pointer (some ⟨C, k, none⟩), .func (.func N) #[] #[]] w fun e w' =>
      e = .returned (.tuple #[]) ∧ WS w' X C f (out ++ putV s.size ++ sBytes s) (bad || !al) ∧ Kept [X] w w' := by
  obtain ⟨h1, h2, v, h3, A, ca, rfl, h4, h5⟩ := id h
  exact (part_write X C k 45 10 f s _ A ca out bad al N w h2 hk hf h1 h3 h4 (fun b off e hb => h5 b off e (by simp [hb])) eg hN hs hol).mono fun e w' ⟨e1, v', e2, e3, e4⟩ => ⟨e1, h.next e2 e3 e4, e4⟩
/-- a number of the command, written -/
theorem ws_number {w : World} {X C : Nat} {f : Nat → Value} {out : List Int} {bad : Bool} (k m : Nat) (h : WS w X C f out bad) (hk : k < 10) (hf : f k = .int .u64 m) (hm : m < 18446744073709551616) (hol : out.length ≤ 500000) :
    Calls Try.prog 132 #[.pointer (some ⟨X, 0, none⟩), .pointer (some ⟨C, k, none⟩)] w fun e w' =>
      e = .returned (.tuple #[]) ∧ WS w' X C f (out ++ putV m) bad ∧ Kept [X] w w' := by
  obtain ⟨h1, h2, v, h3, A, ca, rfl, h4, h5⟩ := id h
  exact (number_write X C k 45 10 f m _ A ca out bad w h2 hk hf hm h1 h3 h4 (fun b off e hb => h5 b off e (by simp [hb])) hol).mono fun e w' ⟨e1, v', e2, e3, e4⟩ => ⟨e1, h.next e2 e3 e4, e4⟩

/-- the lifetime, stored again -/
theorem life_store {w w2 : World} {X C T : Nat} {f : Nat → Value} {v c : Value} {m : Nat} {bad : Bool} {xs : List Int} (h1 : X ≠ C) (hXT : X ≠ T) (hCT : C ≠ T) (hX : w2.rowIs X 149 4 (codF c (.pointer none) v bad)) (hC : w2.rowIs C 45 10 f) (hf : f 5 = .int .u64 m) (hT : w2.rowIs T 42 1 (listF [.int .u64 m])) (hS : SlX w2 [X, C] v xs) (hk : Kept [X] w w2) :
    ∃ W, (w2.setCell ⟨C, 5, none⟩ (.int .u64 m)).drew = W ∧ W.rowIs X 149 4 (codF c (.pointer none) v bad) ∧ W.rowIs C 45 10 f ∧ W.rowIs T 42 1 (listF [.int .u64 m]) ∧ SlX W [X, C] v xs ∧ Kept [X, C] w W := by
  have hk2 : Kept [C] w2 (w2.setCell ⟨C, 5, none⟩ (.int .u64 m)).drew := ((Kept.refl [C] w2).setCell (p := ⟨C, 5, none⟩) (by simp) _).drew
  refine ⟨_, rfl, World.rowIs.of_block (World.rowIs.setOther hX (by exact h1) _) rfl, ?_, World.rowIs.of_block (World.rowIs.setOther hT (by exact fun e => hCT e.symm) _) rfl, hS.kept hk2 (fun k h => by simp at h; simp [h]), (hk.mono (by simp)).trans (hk2.mono (by simp))⟩
  refine World.rowIs.of_block (World.rowIs.congr (World.rowIs.set hC 5 (.int .u64 m)) fun i hi => ?_) rfl
  by_cases e : i = 5
  · subst e; simp [hf]
  · simp [e]
theorem bad_store {w W : World} {X C : Nat} {f : Nat → Value} {v : Value} {bad b : Bool} {xs : List Int} (h1 : X ≠ C) (hX : W.rowIs X 149 4 (codF (.pointer (some ⟨C, 0, none⟩)) (.pointer none) v bad)) (hC : W.rowIs C 45 10 f) (hS : SlX W [X, C] v xs) (hk : Kept [X, C] w W) :
    WS (W.setCell ⟨X, 3, none⟩ (.bool b)) X C f xs b ∧ Kept [X, C] w (W.setCell ⟨X, 3, none⟩ (.bool b)) := by
  have hk2 : Kept [X] W (W.setCell ⟨X, 3, none⟩ (.bool b)) := (Kept.refl [X] W).setCell (p := ⟨X, 3, none⟩) (by simp) _
  refine ⟨⟨h1, World.rowIs.setOther hC (by exact fun e => h1 e.symm) _, v, World.rowIs.congr (World.rowIs.set hX 3 (.bool b)) fun i hi => ?_, hS.kept hk2 (fun k h => by simp at h; simp [h])⟩, hk.trans (hk2.mono (by simp))⟩
  match i, hi with
  | 0, _ => rfl
  | 1, _ => rfl
  | 2, _ => rfl
  | 3, _ => rfl

set_option maxRecDepth 100000 in
set_option maxHeartbeats 2000000 in
theorem ws_life {w : World} {X C : Nat} {f : Nat → Value} {out : List Int} {bad : Bool} (m : Nat) (h : WS w X C f out bad) (hf : f 5 = .int .u64 m) (hm : m < 18446744073709551616) (hol : out.length ≤ 500000) :
    Calls Try.prog 131 #[.pointer (some ⟨X, 0, none⟩)] w fun e w' =>
      e = .returned (.tuple #[]) ∧ WS w' X C f (out ++ putV m) (bad || (m == 0)) ∧ Kept [X, C] w w' := by
  have HW := Lib.hid h
  obtain ⟨h1, h2, v, h3, A, ca, rfl, h4, h5⟩ := h
  have c0 : w.cell? ⟨X, 0, none⟩ = some (.pointer (some ⟨C, 0, none⟩)) := World.rowIs.cell h3 (i := 0) (by decide)
  have c5 : w.cell? ⟨C, 5, none⟩ = some (.int .u64 m) := by rw [← hf]; exact World.rowIs.cell h2 (i := 5) (by decide)
  have hXl := World.rowIs.lt h3
  have hCl := World.rowIs.lt h2
  have hb1 := below1 w (.cells #[.int .u64 m] 42)
  have hT : (w.alloc (.cells #[.int .u64 m] 42)).rowIs w.heap.size 42 1 (listF [.int .u64 m]) := row_list w [.int .u64 m] 42
  have hN := number_write X w.heap.size 0 42 1 (listF [.int .u64 m]) m _ A ca out bad (w.alloc (.cells #[.int .u64 m] 42)) hT (by decide) rfl hm (by omega) (World.rowIs.alloc h3 _) ((h4.below hb1 (Nat.le_refl _)).mono hb1.size) (fun b off e hb => h5 b off e (by simp [hb])) hol
  have HN := Lib.hid hN
  have HT := Lib.hid hT
  have H2 := Lib.hid h2
  have HB1 := Lib.hid hb1
  clear hN hT h2 h3 h4 h5 hb1
  go_enter Try.func131, Try.ntmps131
  go_wp2_with fail
  refine HN.out.mono ?_
  rintro e w2 ⟨rfl, v2, hX2, hS2, hk2⟩
  have hT2 : w2.rowIs w.heap.size 42 1 (listF [.int .u64 m]) := hk2.row (by simp; omega) HT.out
  have hC2 : w2.rowIs C 45 10 f := hk2.row (by simp; exact fun e => h1 e.symm) (World.rowIs.alloc H2.out _)
  have c20 : w2.cell? ⟨X, 0, none⟩ = some (.pointer (some ⟨C, 0, none⟩)) := World.rowIs.cell hX2 (i := 0) (by decide)
  have c25 : w2.cell? ⟨C, 5, none⟩ = some (.int .u64 m) := by rw [← hf]; exact World.rowIs.cell hC2 (i := 5) (by decide)
  have f25 : w2.frozen? ⟨C, 5, none⟩ = false := World.rowIs.frozen hC2 5
  have t20 : w2.cell? ⟨w.heap.size, 0, none⟩ = some (.int .u64 m) := World.rowIs.cell hT2 (i := 0) (by decide)
  have HX2 := Lib.hid hX2
  have HC2 := Lib.hid hC2
  have HT2 := Lib.hid hT2
  have HS2 := Lib.hid hS2
  have HK2 := Lib.hid hk2
  clear hX2 hC2 hT2 hS2 hk2
  go_wp2_with fail
  go_region_law (fail)
  all_goals
    obtain ⟨W3, hW3, hX3, hC3, hT3, hS3, hk3⟩ := life_store (w := w.alloc (.cells #[.int .u64 m] 42)) h1 (by omega) (by omega) HX2.out HC2.out hf HT2.out (SlX.of_slb (N := [X, C]) HS2.out (fun k hk => by simp at hk ⊢; omega)) HK2.out
    rw [hW3]
    have x33 : W3.cell? ⟨X, 3, none⟩ = some (.bool bad) := World.rowIs.cell hX3 (i := 3) (by decide)
    have fx33 : W3.frozen? ⟨X, 3, none⟩ = false := World.rowIs.frozen hX3 3
    have t30 : W3.cell? ⟨w.heap.size, 0, none⟩ = some (.int .u64 m) := World.rowIs.cell hT3 (i := 0) (by decide)
    have hk4 : Kept [X, C] w W3 := (Kept.of_below HB1.out).trans hk3
    have HX3 := Lib.hid hX3
    have HC3 := Lib.hid hC3
    have HS3 := Lib.hid hS3
    have HK4 := Lib.hid hk4
    clear hW3 hX3 hC3 hT3 hS3 hk3 hk4 c20 c25 f25 t20
    cases bad with
    | true =>
      go_wp2_with fail
      go_end0
      have hb := bad_store (b := true) h1 HX3.out HC3.out HS3.out HK4.out
      exact ⟨rfl, hb.1, hb.2⟩
    | false =>
      cases hm0 : ((m : Int) == 0)
      · go_wp2_with fail
        go_end0
        have hb := bad_store (b := false) h1 HX3.out HC3.out HS3.out HK4.out
        have e : (m == 0) = false := by simp at hm0 ⊢; omega
        exact ⟨rfl, by rw [e]; exact hb.1, hb.2⟩
      · go_wp2_with fail
        go_end0
        have hb := bad_store (b := true) h1 HX3.out HC3.out HS3.out HK4.out
        have e : (m == 0) = true := by simp at hm0 ⊢; omega
        exact ⟨rfl, by rw [e]; exact hb.1, hb.2⟩
end Go.Proofs.Ytnmhmabifeapkaa.Ord
/- The codec that writes: its value. -/
namespace Go.Proofs.Ytnmhmabifeapkaa.Ord
open Go.RowKit
set_option linter.unusedVariables false

theorem nums_size (xs : List Int) : (strOfNums xs).size = xs.length := by
  rw [← sBytes_len]
  unfold sBytes
  rw [List.length_map, ← ByteArray.toList_eq, Lib.strOfNums_toList]
  simp [Lib.bytesOf]
theorem nums_bytes {xs : List Int} (hx : ∀ y ∈ xs, 0 ≤ y ∧ y < 256) : sBytes (strOfNums xs) = xs := by
  unfold sBytes
  rw [← ByteArray.toList_eq, Lib.strOfNums_toList]
  unfold Lib.bytesOf
  rw [List.map_map]
  conv => rhs; rw [← List.map_id xs]
  refine List.map_congr_left fun y hy => ?_
  have := hx y hy
  simp only [Function.comp_apply, UInt8.toNat_ofNat', id]
  omega
set_option maxRecDepth 100000 in
theorem small144 (s : ByteArray) (h : s.size ≤ 65536) (w : World) : Calls Try.prog 144 #[.string s] w fun e w' => e = .returned (.bool true) ∧ Below w.heap.size w w' := by
  have hg : decide ((s.size : Int) ≤ 65536) = true := by simp; omega
  go_enter Try.func144, Try.ntmps144
  go_wp2_with fail
  go_ret
  exact ⟨rfl, Below.refl _ _⟩
theorem enter144 : ∀ args w, (callFunc 144 args).run Try.prog w = .ok (.enter 144 args) w := by
  intro args w
  simp [callFunc, Try.func144, Try.f144]

set_option maxRecDepth 100000 in
set_option maxHeartbeats 2000000 in
theorem ws_value {w : World} {X C : Nat} {f : Nat → Value} {out : List Int} {bad : Bool} (Av : Option Addr) (cv : Nat) (val : List Int) (h : WS w X C f out bad) (hf : f 3 = .slice Av val.length cv) (hv : Byt w w.heap.size Av cv val) (hx : ∀ y ∈ val, 0 ≤ y ∧ y < 256) (hl : val.length ≤ 65536) (hol : out.length ≤ 400000) :
    Calls Try.prog 128 #[.pointer (some ⟨X, 0, none⟩)] w fun e w' =>
      e = .returned (.tuple #[]) ∧ WS w' X C f (out ++ putV val.length ++ val) bad ∧ Kept [X] w w' := by
  have HW := Lib.hid h
  obtain ⟨h1, h2, v, h3, A, ca, rfl, h4, h5⟩ := h
  have c0 : w.cell? ⟨X, 0, none⟩ = some (.pointer (some ⟨C, 0, none⟩)) := World.rowIs.cell h3 (i := 0) (by decide)
  have c3 : w.cell? ⟨C, 3, none⟩ = some (.slice Av val.length cv) := by rw [← hf]; exact World.rowIs.cell h2 (i := 3) (by decide)
  have hcv := hv.convert rfl
  have hsz := nums_size val
  have hsb := nums_bytes hx
  obtain ⟨s, hs⟩ : ∃ s, strOfNums val = s := ⟨_, rfl⟩
  rw [hs] at hcv hsz hsb
  have hXl := World.rowIs.lt h3
  have hb1 := below1 w (.cells #[.string s] 9)
  have hT : (w.alloc (.cells #[.string s] 9)).rowIs w.heap.size 9 1 (listF [.string s]) := row_list w [.string s] 9
  have hN := part_write X w.heap.size 0 9 1 (listF [.string s]) s _ A ca out bad true 144 (w.alloc (.cells #[.string s] 9)) hT (by decide) rfl (by omega) (World.rowIs.alloc h3 _) ((h4.below hb1 (Nat.le_refl _)).mono hb1.size) (fun b off e hb => h5 b off e (by simp [hb])) enter144 (fun w => small144 s (by omega) w) (by omega) (by omega)
  rw [hsz, hsb] at hN
  have HN := Lib.hid hN
  have HB1 := Lib.hid hb1
  have HS := Lib.hid hs
  have HSZ := Lib.hid hsz
  clear hN hT h2 h3 h4 h5 hb1 hv hx hs hsz hsb
  go_enter Try.func128, Try.ntmps128
  go_wp2_with fail
  refine HN.out.mono ?_
  rintro e w2 ⟨rfl, v2, hX2, hS2, hk2⟩
  have c21 : w2.cell? ⟨X, 1, none⟩ = some (.pointer none) := World.rowIs.cell hX2 (i := 1) (by decide)
  have HX2 := Lib.hid hX2
  have HS2 := Lib.hid hS2
  have HK2 := Lib.hid hk2
  clear hX2 hS2 hk2
  go_wp2_with fail
  go_end0
  have hk : Kept [X] w w2 := (Kept.of_below HB1.out).trans HK2.out
  have hbe : (bad || !true) = bad := by simp
  have hX := HX2.out
  rw [hbe] at hX
  refine ⟨rfl, HW.out.next hX ?_ hk, hk⟩
  obtain ⟨A', c', e1, e2, e3⟩ := HS2.out
  exact ⟨A', c', e1, e2, fun b off e => Nat.le_trans (by simp) (e3 b off e)⟩
end Go.Proofs.Ytnmhmabifeapkaa.Ord
