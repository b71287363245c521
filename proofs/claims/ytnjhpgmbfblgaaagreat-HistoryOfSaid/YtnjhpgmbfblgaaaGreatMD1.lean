/- Walks of the codec's number and life, written; Walk of varint.Get at any number; Walks of the reader's Number and of the codec's number, read; The codec that writes, as a state; its parts, numbers and lifetimes; The codec that writes: its value; The codec's part at any cell, and its list, written; The codec that reads, as a state; its parts and numbers. -/
import Derived.Test.YtnjhpgmbfblgaaaGreatMR25
import Derived.Test.YtnjhpgmbfblgaaaGreatMR5
import Derived.Lib.Bytes
namespace Go.Proofs.YtnjhpgmbfblgaaaGreat.Ord
set_option maxRecDepth 100000
set_option maxHeartbeats 16000000
open Go.RowKit
set_option linter.unusedVariables false
set_option linter.unusedSimpArgs false
theorem f109c_name : (Tryz.f233.name == "runtime.NumGoroutine") = false := by kernel_rfl
theorem f109c_body : Tryz.f233.body.isSome = true := by kernel_rfl

theorem number_write (X G k : Nat) (t : TypeId) (n : Nat) (f : Nat -> Value) (m : Nat) (c : Value) (A : Option Addr) (ca : Nat) (out : List Int) (bad : Bool) (w : World)
  (hG : w.rowIs G t n f) (hk : k < n) (hf : f k = .int .u64 m) (hm : m < 18446744073709551616) (hXG : X ≠ G) (hX : w.rowIs X 339 4 (codF c (.pointer none) (.slice A out.length ca) bad)) (hA : Byt w w.heap.size A ca out) (hAX : ∀ b off, A = some ⟨b, off, none⟩ -> b ≠ X) (hol : out.length <= 500000) :
  Calls Tryz.prog 311 #[.pointer (some ⟨X, 0, none⟩), .pointer (some ⟨G, k, none⟩)] w fun e w' =>
   e = .returned (.tuple #[]) /\ ∃ v, w'.rowIs X 339 4 (codF c (.pointer none) v bad) /\ SlB w' w.heap.size v (out ++ putV m) /\ Kept [X] w w' := by
 have hc1 : w.cell? ⟨X, 1, none⟩ = some (.pointer none) := World.rowIs.cell hX (i := 1) (by decide)
 have hc2 : w.cell? ⟨X, 2, none⟩ = some (.slice A out.length ca) := World.rowIs.cell hX (i := 2) (by decide)
 have hcs : w.cell? ⟨G, k, none⟩ = some (.int .u64 m) := by rw [<- hf]; exact World.rowIs.cell hG hk
 have HX := kp hX
 have HG := kp hG
 have HA := kp hA
 clear hX hG hA
 obtain ⟨L, hL⟩ : ∃ L, (out ++ putV m).length = L := ⟨_, rfl⟩
 have HL := kp hL
 clear hL
 have HC := kp (put_any A out.length ca out m w.drew rfl hm (by omega) (HA.out : Byt w.drew w.drew.heap.size A ca out))
 go_enter Tryz.func311, Tryz.ntmps311
 go_wp2_with fail
 go_region_law ((with_reducible refine step_call_any (o := ⟨some 19, _, _, _, _, _⟩) rfl 233 _ _ rfl #[.slice A out.length ca, .int .u64 m] ?_ Tryz.f233 Tryz.func233 f109c_name f109c_body (fun u w6 => Own8 w6 w.drew.heap.size u (out ++ putV m) /\ Below w.drew.heap.size w.drew w6) ?_ ?_); (· simp only [y1, y2, y3]; rfl); (· exact HC.out.mono fun e w' ⟨v, h1, h2, h3⟩ => ⟨v, h1, h2, h3⟩); rintro u6 w6 ⟨hown6, hb6⟩; obtain ⟨A6, c6, rfl, hby6⟩ := hown6.val; rw [HL.out]; rw [HL.out] at hown6; have hX6 := kp (World.rowIs.of_block HX.out (hb6.block X (World.rowIs.lt HX.out))); have h62 : w6.cell? ⟨X, 2, none⟩ = some (.slice A out.length ca) := World.rowIs.cell hX6.out (i := 2) (by decide); have hf62 : w6.frozen? ⟨X, 2, none⟩ = false := World.rowIs.frozen hX6.out 2)
 all_goals
  have hbw6 : Below w.heap.size w w6 := ⟨hb6.os, hb6.tape, hb6.output, hb6.size, hb6.block⟩
  obtain ⟨w7, hw7, hX7, hG7, hK7, hS7⟩ := part_mid HL.out HG.out hXG HX.out hbw6 hown6 (Nat.le_refl _)
  rw [<- hw7]
  have HX7 := kp hX7
  have HK7 := kp hK7
  have HS7 := kp hS7
  clear hw7 h62 hf62 hX6 hown6 hby6 hb6 hbw6 hX7 hG7 hK7 hS7
  go_wp2_with fail
  refine bodyPost_ret (results_none rfl _ _ _) rfl ?_
  exact ⟨rfl, _, HX7.out, HS7.out, HK7.out⟩
theorem putV_pos {m : Nat} : 1 <= (putV m).length := by
 by_cases h : m <= 127
 ·rw [putV_small h]; simp
 ·rw [putV_more h]; simp
theorem and127_all : (List.range 128).all (fun r => bits .and .u8 ((128 + r : Nat) : Int) 127 == (r : Int)) = true := by decide +kernel
theorem and127 {r : Nat} (h : r < 128) : bits .and .u8 ((128 + r : Nat) : Int) 127 = (r : Int) := eq_of_beq (List.all_eq_true.1 and127_all r (List.mem_range.2 h))

theorem pow128 (j : Nat) : 2 ^ (7 * j) = 128 ^ j := by rw [Nat.pow_mul]
theorem or_shift {a m j : Nat} (ha : a < 128 ^ j) (h : a + m * 128 ^ j < 18446744073709551616) : bits .or .u64 (a : Int) (IntKind.u64.wrap ((m : Int) * 2 ^ (7 * j))) = ((a + m * 128 ^ j : Nat) : Int) := by
 have e0 : ((m : Int) * 2 ^ (7 * j)) = ((m * 128 ^ j : Nat) : Int) := by rw [<- pow128]; push_cast; rfl
 have e1 : IntKind.u64.wrap ((m * 128 ^ j : Nat) : Int) = ((m * 128 ^ j : Nat) : Int) := by
  rw [IntKind.wrap_u64]; omega
 rw [e0, e1]
 have e2 : BitVec.ofInt IntKind.u64.bits (a : Int) = BitVec.ofNat 64 a := BitVec.ofInt_natCast (w := 64) a
 have e3 : BitVec.ofInt IntKind.u64.bits ((m * 128 ^ j : Nat) : Int) = BitVec.ofNat 64 (m * 128 ^ j) := BitVec.ofInt_natCast (w := 64) _
 unfold bits
 simp only [e2, e3]
 show IntKind.u64.wrap (((BitVec.ofNat 64 a ||| BitVec.ofNat 64 (m * 128 ^ j)).toNat : Nat) : Int) = _
 rw [BitVec.toNat_or, BitVec.toNat_ofNat, BitVec.toNat_ofNat, Nat.mod_eq_of_lt (show a < 2 ^ 64 by omega), Nat.mod_eq_of_lt (show m * 128 ^ j < 2 ^ 64 by omega)]
 have e4 : a ||| m * 128 ^ j = a + m * 128 ^ j := by
  rw [<- pow128, <- Nat.shiftLeft_eq, Nat.or_comm, <- Nat.shiftLeft_add_eq_or_of_lt (by rw [pow128]; exact ha), Nat.add_comm]
 rw [e4, IntKind.wrap_u64]
 omega

theorem get_any {n : Nat} (hn : n < 18446744073709551616) : GetOk n := by
 intro A k c rest w hk hl hA
 obtain ⟨L, hL⟩ : ∃ L, (putV n).length = L := ⟨_, rfl⟩
 rw [hL]
 have hL10 : L <= 10 := by rw [<- hL]; exact putV_len10 hn
 have hk1 : L <= k := by rw [<- hk, List.length_append, hL]; omega
 have HA := kp hA
 have HL := kp hL
 have HN := kp hn
 clear hA hL hk
 go_enter Tryz.func390, Tryz.ntmps390
 go_wp2_with fail
 go_loopw [2, 9] (fun a i wr => ∃ (j ac m : Nat) (pre : List Int), i = .int .i64 j /\ a = .int .u64 (ac : Int) /\ ac = n % 128 ^ j /\ m = n / 128 ^ j /\ putV n = pre ++ putV m /\ pre.length = j /\ (0 < j -> 0 < m) /\ j < L /\ wr = w) (fun _ i _ => L - (intOf i).toNat)
 case atStart => exact ⟨0, 0, n, [], rfl, rfl, by simp [Nat.mod_one], by simp, rfl, rfl, fun h => absurd h (by omega), by have := HL.out; have := putV_pos (m := n); omega, rfl⟩
 case round =>
  obtain ⟨j, ac, m, pre, rfl, rfl, hac, hm, hp, hpl, hpos, hjL, rfl⟩ := hrel
  have hj9 : j <= 9 := by omega
  have hx : (putV n ++ rest)[j]? = (putV m)[0]? := by
   rw [hp, List.append_assoc, List.getElem?_append_right (by omega), hpl, Nat.sub_self, List.getElem?_append_left putV_pos]
  have hlt : j < (putV n ++ rest).length := by rw [List.length_append, HL.out]; omega
  obtain ⟨b, off, rfl, hb, hc⟩ := HA.out.at (i := j) hlt
  have hget : (putV n ++ rest).getD j 0 = (putV m).headD 0 := by
   rw [List.getD, hx]
   cases hpm : putV m with
   | nil => have := putV_pos (m := m); rw [hpm] at this; simp at this
   | cons a l => rfl
  rw [hget] at hc
  have hg0 : decide ((j : Int) < (k : Int)) = true := by simp; omega
  have hpow : 0 < 128 ^ j := Nat.pow_pos (by decide)
  have hsum : ac + m * 128 ^ j = n := by rw [hac, hm]; have := Nat.mod_add_div n (128 ^ j); rw [Nat.mul_comm] at this; exact this
  have haclt : ac < 128 ^ j := by rw [hac]; exact Nat.mod_lt _ hpow
  have hcase : j < 9 ∨ (j = 9 /\ m <= 1) := by
   by_cases h9 : j = 9
   ·right; refine ⟨h9, ?_⟩
    rw [hm, h9]
    omega
   ·left; omega
  have HM := kp hm
  have HP := kp hp
  have HPL := kp hpl
  have HS := kp hsum
  have HAC := kp haclt
  clear hx hget hlt hm hp hpl hac hsum haclt hpow
  by_cases h127 : m <= 127
  ·rw [putV_small h127] at hc
   simp only [List.headD_cons] at hc
   have hor := or_shift HAC.out (by rw [HS.out]; exact HN.out)
   rw [HS.out] at hor
   have hlen : j + 1 = L := by
    rw [<- HL.out, HP.out, List.length_append, HPL.out, putV_small h127]; rfl
   have HLEN := kp hlen
   have HOR := kp hor
   clear hlen hor
   have g3 : decide ((m : Int) < 128) = true := by simp; omega
   by_cases h0 : j = 0
   ·subst h0
    simp only [Nat.add_zero] at hc
    have HOR0 : bits BinOp.or IntKind.u64 (ac : Int) (IntKind.u64.wrap (m : Int)) = (n : Int) := by simpa using HOR.out
    rw [show IntKind.u64.wrap (m : Int) = (m : Int) by rw [IntKind.wrap_u64]; omega] at HOR0
    have HOR1 := kp HOR0
    clear hcase hpos HOR0
    go_wp2_with fail
    rw [HOR1.out]
    go_ret3
    exact ⟨by rw [<- HLEN.out]; rfl, Below.refl _ _⟩
   ·have g2' : ((m : Int) == 0) = false := by have := hpos (by omega); simp; omega
    by_cases h9 : j = 9
    ·subst h9
     have g1' : decide ((1 : Int) < (m : Int)) = false := by simp; omega
     have HOR' := kp HOR.out
     clear hcase hpos h0
     go_wp2_with fail
     rw [show bits BinOp.or IntKind.u64 (ac : Int) (IntKind.u64.wrap ((m : Int) * 9223372036854775808)) = (n : Int) by simpa using HOR.out]
     go_ret3
     exact ⟨by rw [<- HLEN.out]; rfl, Below.refl _ _⟩
    ·have g1 : ((j : Int) == 9) = false := by simp; omega
     have g2 : decide ((0 : Int) < (j : Int)) = true := by simp; omega
     clear hcase
     go_wp2_with fail
     rw [HOR.out]
     go_ret3
     exact ⟨by rw [<- HLEN.out]; rfl, Below.refl _ _⟩
  ·obtain ⟨r, hr⟩ : ∃ r, m % 128 = r := ⟨_, rfl⟩
   rw [putV_more h127, hr] at hc
   simp only [List.headD_cons] at hc
   have hr128 : r < 128 := by rw [<- hr]; exact Nat.mod_lt _ (by decide)
   have hand := and127 hr128
   obtain ⟨cc, hcc⟩ : ∃ cc, 128 + r = cc := ⟨_, rfl⟩
   rw [hcc] at hc hand
   have hdm : m = r + m / 128 * 128 := by rw [<- hr]; omega
   have hor := or_shift (a := ac) (m := r) (j := j) HAC.out (by
    have := HS.out
    have h2 : r * 128 ^ j <= m * 128 ^ j := Nat.mul_le_mul_right _ (by omega)
    have := HN.out
    omega)
   obtain ⟨ac', hac'⟩ : ∃ x, ac + r * 128 ^ j = x := ⟨_, rfl⟩
   rw [hac'] at hor
   have g1 : ((j : Int) == 9) = false := by simp; omega
   have g2' : ((cc : Int) == 0) = false := by simp; omega
   have g3 : decide ((cc : Int) < 128) = false := by simp; omega
   have HD := kp hdm
   have HAC' := kp hac'
   have HR := kp hr
   have HOR := kp hor
   clear hdm hac' hr hcc hor
   have hrel2 : ac' = n % 128 ^ (j + 1) /\ m / 128 = n / 128 ^ (j + 1) := by
    have e := HS.out
    have e2 : n / 128 ^ (j + 1) = m / 128 := by rw [Nat.pow_succ, <- Nat.div_div_eq_div_mul, <- HM.out]
    refine ⟨?_, e2.symm⟩
    rw [Nat.pow_succ, Nat.mod_mul, <- HM.out, HR.out, <- HAC'.out]
    have hpow : 0 < 128 ^ j := Nat.pow_pos (by decide)
    have : n % 128 ^ j = ac := by
     rw [<- e, Nat.mul_comm, Nat.add_mul_mod_self_left]
     exact Nat.mod_eq_of_lt HAC.out
    rw [this, Nat.mul_comm]
   have HREL := kp hrel2
   clear hrel2
   have hjL' : j + 1 < L := by
    have := HL.out
    rw [HP.out, List.length_append, HPL.out, putV_more h127, List.length_cons] at this
    have := putV_pos (m := m / 128)
    omega
   by_cases h0 : j = 0
   ·subst h0
    simp only [Nat.add_zero] at hc
    have HOR0 : bits BinOp.or IntKind.u64 (ac : Int) (IntKind.u64.wrap (r : Int)) = (ac' : Int) := by simpa using HOR.out
    rw [show IntKind.u64.wrap (r : Int) = (r : Int) by rw [IntKind.wrap_u64]; omega] at HOR0
    have HOR1 := kp HOR0
    clear hcase hpos HOR0 g1
    go_wp2_with fail
    rw [HOR1.out]
    go_roundw
    case rel => exact ⟨1, ac', m / 128, pre ++ [((128 + m % 128 : Nat) : Int)], rfl, rfl, HREL.out.1, HREL.out.2, by rw [HP.out, putV_more h127, List.append_assoc]; rfl, by simp [HPL.out], fun _ => by omega, hjL', by first | trivial | rfl⟩
    case measure => simp [intOf]; omega
   ·have g2 : decide ((0 : Int) < (j : Int)) = true := by simp; omega
    clear hcase
    go_wp2_with fail
    rw [HOR.out]
    go_roundw
    case rel => exact ⟨j + 1, ac', m / 128, pre ++ [((128 + m % 128 : Nat) : Int)], by go_num, rfl, HREL.out.1, HREL.out.2, by rw [HP.out, putV_more h127, List.append_assoc]; rfl, by simp [HPL.out], fun _ => by omega, hjL', by first | trivial | rfl⟩
    case measure => simp [intOf]; omega
theorem number145 (NL : List Nat) (R n : Nat) (hRN : R ∈ NL) (v : Value) (rest : List Int) (w : World) (hget : GetOk n) (hl : (putV n ++ rest).length <= 1000000)
  (hR : w.rowIs R 440 2 (rdF v)) (hv : SlX w NL v (putV n ++ rest)) :
  Calls Tryz.prog 363 #[.pointer (some ⟨R, 0, none⟩)] w fun e w' => ∃ v', e = .returned (.tuple #[.int .u64 n, .int .i64 0]) /\ w'.rowIs R 440 2 (rdF v') /\ SlX w' NL v' rest /\ Kept [R] w w' := by
 obtain ⟨A, c, rfl, hA, hAR⟩ := hv
 have h0 : w.cell? ⟨R, 0, none⟩ = some (.bool true) := World.rowIs.cell hR (i := 0) (by decide)
 have h1 : w.cell? ⟨R, 1, none⟩ = some (.slice A (putV n ++ rest).length c) := World.rowIs.cell hR (i := 1) (by decide)
 obtain ⟨k, hk⟩ : ∃ k, (putV n ++ rest).length = k := ⟨_, rfl⟩
 have HR := kp hR
 have HG := kp (hget A k c rest w hk (by omega) hA)
 have hc : k <= c := by have := hA.2.1; rw [hk] at this; exact this
 rw [hk] at h1 hl HR
 have HA := kp hA
 have hRlt := World.rowIs.lt HR.out
 clear hR hA
 obtain ⟨T, hT⟩ : ∃ T, (putV n).length = T := ⟨_, rfl⟩
 have hTk : T <= k := by rw [<- hT, <- hk]; simp [List.length_append]
 have hT0 : 0 < T := by rw [<- hT]; exact putV_pos
 have hkr : rest.length = k - T := by rw [<- hT, <- hk]; simp [List.length_append]
 obtain ⟨b, off, hAe, _, _⟩ := HA.out.at (i := 0) (by rw [hk]; omega)
 subst hAe
 rw [hT] at HG
 have HT := kp hT
 have HK := kp hk
 have HKR := kp hkr
 clear hT hk hget hkr
 go_enter Tryz.func363, Tryz.ntmps363
 go_wp2_with fail
 go_enter Tryz.func389, Tryz.ntmps389
 go_wp2_with fail
 refine HG.out.mono ?_
 rintro e w1 ⟨rfl, hb1⟩
 have hR1 := World.rowIs.of_block HR.out (hb1.block R (World.rowIs.lt HR.out))
 have h11 : w1.cell? ⟨R, 1, none⟩ = some (.slice (some ⟨b, off, none⟩) k c) := World.rowIs.cell hR1 (i := 1) (by decide)
 have hf11 : w1.frozen? ⟨R, 1, none⟩ = false := World.rowIs.frozen hR1 1
 have HR1 := kp hR1
 clear hR1
 go_wp2_with fail
 all_goals
  go_ret2
  have hby := (HA.out.below hb1 (Nat.le_refl _)).mono hb1.size
  have hbt : b ∉ NL := hAR b off rfl
  have h9 : Byt w1 w1.heap.size (some ⟨b, off, none⟩) c (putV n ++ rest ++ []) := by simpa using hby
  refine ⟨rfl, _, take_end hRN HR1.out hb1 HKR.out (h9.part (m := T) HT.out (by rw [HKR.out]; omega) (by simp) (fun h => ?_)) (fun x o hA => ?_)⟩
  ·first | rfl | exact absurd h (by omega)
  ·cases hA; exact hbt
/-- the codec X writes the command C -/
def WS (w : World) (X C : Nat) (f : Nat -> Value) (out : List Int) (bad : Bool) : Prop :=
 X ≠ C /\ w.rowIs C 36 10 f /\ ∃ v, w.rowIs X 339 4 (codF (.pointer (some ⟨C, 0, none⟩)) (.pointer none) v bad) /\ SlX w [X, C] v out
theorem WS.next {w w' : World} {X C : Nat} {f : Nat -> Value} {out out' : List Int} {bad bad' : Bool} {v : Value} (h : WS w X C f out bad) (hX : w'.rowIs X 339 4 (codF (.pointer (some ⟨C, 0, none⟩)) (.pointer none) v bad')) (hS : SlB w' w.heap.size v out') (hk : Kept [X] w w') : WS w' X C f out' bad' := by
 obtain ⟨h1, h2, v0, h3, h4⟩ := h
 exact ⟨h1, hk.row (by simp; exact fun e => h1 e.symm) h2, v, hX, SlX.of_slb hS (fun k hk => by
  simp at hk
  rcases hk with rfl | rfl
  ·exact World.rowIs.lt h3
  ·exact World.rowIs.lt h2)⟩

/-- a string of the command, written -/
theorem ws_part {w : World} {X C : Nat} {f : Nat -> Value} {out : List Int} {bad al : Bool} (k : Nat) (s : ByteArray) (N : Nat) (h : WS w X C f out bad) (hk : k < 10) (hf : f k = .string s)
  (eg : ∀ args w, (callFunc N args).run Tryz.prog w = .ok (.enter N args) w) (hN : ∀ w, Calls Tryz.prog N #[.string s] w fun e w' => e = .returned (.bool al) /\ Below w.heap.size w w') (hs : s.size <= 100000) (hol : out.length <= 500000) :
  Calls Tryz.prog 307 #[.pointer (some ⟨X, 0, none⟩), .pointer (some ⟨C, k, none⟩), .func (.func N) #[] #[]] w fun e w' =>
   e = .returned (.tuple #[]) /\ WS w' X C f (out ++ putV s.size ++ sBytes s) (bad || !al) /\ Kept [X] w w' := by
 obtain ⟨h1, h2, v, h3, A, ca, rfl, h4, h5⟩ := id h
 exact (part_write X C k 36 10 f s _ A ca out bad al N w h2 hk hf h1 h3 h4 (fun b off e hb => h5 b off e (by simp [hb])) eg hN hs hol).mono fun e w' ⟨e1, v', e2, e3, e4⟩ => ⟨e1, h.next e2 e3 e4, e4⟩
/-- a number of the command, written -/
theorem ws_number {w : World} {X C : Nat} {f : Nat -> Value} {out : List Int} {bad : Bool} (k m : Nat) (h : WS w X C f out bad) (hk : k < 10) (hf : f k = .int .u64 m) (hm : m < 18446744073709551616) (hol : out.length <= 500000) :
  Calls Tryz.prog 311 #[.pointer (some ⟨X, 0, none⟩), .pointer (some ⟨C, k, none⟩)] w fun e w' =>
   e = .returned (.tuple #[]) /\ WS w' X C f (out ++ putV m) bad /\ Kept [X] w w' := by
 obtain ⟨h1, h2, v, h3, A, ca, rfl, h4, h5⟩ := id h
 exact (number_write X C k 36 10 f m _ A ca out bad w h2 hk hf hm h1 h3 h4 (fun b off e hb => h5 b off e (by simp [hb])) hol).mono fun e w' ⟨e1, v', e2, e3, e4⟩ => ⟨e1, h.next e2 e3 e4, e4⟩

/-- the lifetime, stored again -/
theorem life_store {w w2 : World} {X C T : Nat} {f : Nat -> Value} {v c : Value} {m : Nat} {bad : Bool} {xs : List Int} (h1 : X ≠ C) (hXT : X ≠ T) (hCT : C ≠ T) (hX : w2.rowIs X 339 4 (codF c (.pointer none) v bad)) (hC : w2.rowIs C 36 10 f) (hf : f 5 = .int .u64 m) (hT : w2.rowIs T 33 1 (listF [.int .u64 m])) (hS : SlX w2 [X, C] v xs) (hk : Kept [X] w w2) :
  ∃ W, (w2.setCell ⟨C, 5, none⟩ (.int .u64 m)).drew = W /\ W.rowIs X 339 4 (codF c (.pointer none) v bad) /\ W.rowIs C 36 10 f /\ W.rowIs T 33 1 (listF [.int .u64 m]) /\ SlX W [X, C] v xs /\ Kept [X, C] w W := by
 have hk2 : Kept [C] w2 (w2.setCell ⟨C, 5, none⟩ (.int .u64 m)).drew := ((Kept.refl [C] w2).setCell (p := ⟨C, 5, none⟩) (by simp) _).drew
 refine ⟨_, rfl, World.rowIs.of_block (World.rowIs.setOther hX (by exact h1) _) rfl, ?_, World.rowIs.of_block (World.rowIs.setOther hT (by exact fun e => hCT e.symm) _) rfl, hS.kept hk2 (fun k h => by simp at h; simp [h]), (hk.mono (by simp)).trans (hk2.mono (by simp))⟩
 refine World.rowIs.of_block (World.rowIs.congr (World.rowIs.set hC 5 (.int .u64 m)) fun i hi => ?_) rfl
 by_cases e : i = 5
 ·subst e; simp [hf]
 ·simp [e]
theorem bad_store {w W : World} {X C : Nat} {f : Nat -> Value} {v : Value} {bad b : Bool} {xs : List Int} (h1 : X ≠ C) (hX : W.rowIs X 339 4 (codF (.pointer (some ⟨C, 0, none⟩)) (.pointer none) v bad)) (hC : W.rowIs C 36 10 f) (hS : SlX W [X, C] v xs) (hk : Kept [X, C] w W) :
  WS (W.setCell ⟨X, 3, none⟩ (.bool b)) X C f xs b /\ Kept [X, C] w (W.setCell ⟨X, 3, none⟩ (.bool b)) := by
 have hk2 : Kept [X] W (W.setCell ⟨X, 3, none⟩ (.bool b)) := (Kept.refl [X] W).setCell (p := ⟨X, 3, none⟩) (by simp) _
 refine ⟨⟨h1, World.rowIs.setOther hC (by exact fun e => h1 e.symm) _, v, World.rowIs.congr (World.rowIs.set hX 3 (.bool b)) fun i hi => ?_, hS.kept hk2 (fun k h => by simp at h; simp [h])⟩, hk.trans (hk2.mono (by simp))⟩
 match i, hi with
 | 0, _ => rfl
 | 1, _ => rfl
 | 2, _ => rfl
 | 3, _ => rfl

theorem ws_life {w : World} {X C : Nat} {f : Nat -> Value} {out : List Int} {bad : Bool} (m : Nat) (h : WS w X C f out bad) (hf : f 5 = .int .u64 m) (hm : m < 18446744073709551616) (hol : out.length <= 500000) :
  Calls Tryz.prog 310 #[.pointer (some ⟨X, 0, none⟩)] w fun e w' =>
   e = .returned (.tuple #[]) /\ WS w' X C f (out ++ putV m) (bad || (m == 0)) /\ Kept [X, C] w w' := by
 have HW := kp h
 obtain ⟨h1, h2, v, h3, A, ca, rfl, h4, h5⟩ := h
 have c0 : w.cell? ⟨X, 0, none⟩ = some (.pointer (some ⟨C, 0, none⟩)) := World.rowIs.cell h3 (i := 0) (by decide)
 have c5 : w.cell? ⟨C, 5, none⟩ = some (.int .u64 m) := by rw [<- hf]; exact World.rowIs.cell h2 (i := 5) (by decide)
 have hXl := World.rowIs.lt h3
 have hCl := World.rowIs.lt h2
 have hb1 := below1 w (.cells #[.int .u64 m] 33)
 have hT : (w.alloc (.cells #[.int .u64 m] 33)).rowIs w.heap.size 33 1 (listF [.int .u64 m]) := row_list w [.int .u64 m] 33
 have hN := number_write X w.heap.size 0 33 1 (listF [.int .u64 m]) m _ A ca out bad (w.alloc (.cells #[.int .u64 m] 33)) hT (by decide) rfl hm (by omega) (World.rowIs.alloc h3 _) ((h4.below hb1 (Nat.le_refl _)).mono hb1.size) (fun b off e hb => h5 b off e (by simp [hb])) hol
 have HN := kp hN
 have HT := kp hT
 have H2 := kp h2
 have HB1 := kp hb1
 clear hN hT h2 h3 h4 h5 hb1
 go_enter Tryz.func310, Tryz.ntmps310
 go_wp2_with fail
 refine HN.out.mono ?_
 rintro e w2 ⟨rfl, v2, hX2, hS2, hk2⟩
 have hT2 : w2.rowIs w.heap.size 33 1 (listF [.int .u64 m]) := hk2.row (by simp; omega) HT.out
 have hC2 : w2.rowIs C 36 10 f := hk2.row (by simp; exact fun e => h1 e.symm) (World.rowIs.alloc H2.out _)
 have c20 : w2.cell? ⟨X, 0, none⟩ = some (.pointer (some ⟨C, 0, none⟩)) := World.rowIs.cell hX2 (i := 0) (by decide)
 have c25 : w2.cell? ⟨C, 5, none⟩ = some (.int .u64 m) := by rw [<- hf]; exact World.rowIs.cell hC2 (i := 5) (by decide)
 have f25 : w2.frozen? ⟨C, 5, none⟩ = false := World.rowIs.frozen hC2 5
 have t20 : w2.cell? ⟨w.heap.size, 0, none⟩ = some (.int .u64 m) := World.rowIs.cell hT2 (i := 0) (by decide)
 have HX2 := kp hX2
 have HC2 := kp hC2
 have HT2 := kp hT2
 have HS2 := kp hS2
 have HK2 := kp hk2
 clear hX2 hC2 hT2 hS2 hk2
 go_wp2_with fail
 go_region_law (fail)
 all_goals
  obtain ⟨W3, hW3, hX3, hC3, hT3, hS3, hk3⟩ := life_store (w := w.alloc (.cells #[.int .u64 m] 33)) h1 (by omega) (by omega) HX2.out HC2.out hf HT2.out (SlX.of_slb (N := [X, C]) HS2.out (fun k hk => by simp at hk ⊢; omega)) HK2.out
  rw [hW3]
  have x33 : W3.cell? ⟨X, 3, none⟩ = some (.bool bad) := World.rowIs.cell hX3 (i := 3) (by decide)
  have fx33 : W3.frozen? ⟨X, 3, none⟩ = false := World.rowIs.frozen hX3 3
  have t30 : W3.cell? ⟨w.heap.size, 0, none⟩ = some (.int .u64 m) := World.rowIs.cell hT3 (i := 0) (by decide)
  have hk4 : Kept [X, C] w W3 := (Kept.of_below HB1.out).trans hk3
  have HX3 := kp hX3
  have HC3 := kp hC3
  have HS3 := kp hS3
  have HK4 := kp hk4
  clear hW3 hX3 hC3 hT3 hS3 hk3 hk4 c20 c25 f25 t20
  cases bad with
  | true =>
   go_wp2_with fail
   go_end0
   have hb := bad_store (b := true) h1 HX3.out HC3.out HS3.out HK4.out
   exact ⟨rfl, hb.1, hb.2⟩
  | false =>
   cases hm0 : ((m : Int) == 0)
   ·go_wp2_with fail
    go_end0
    have hb := bad_store (b := false) h1 HX3.out HC3.out HS3.out HK4.out
    have e : (m == 0) = false := by simp at hm0 ⊢; omega
    exact ⟨rfl, by rw [e]; exact hb.1, hb.2⟩
   ·go_wp2_with fail
    go_end0
    have hb := bad_store (b := true) h1 HX3.out HC3.out HS3.out HK4.out
    have e : (m == 0) = true := by simp at hm0 ⊢; omega
    exact ⟨rfl, by rw [e]; exact hb.1, hb.2⟩
theorem nums_size (xs : List Int) : (strOfNums xs).size = xs.length := by
 rw [<- sBytes_len]
 unfold sBytes
 rw [List.length_map, <- ByteArray.toList_eq, Lib.strOfNums_toList]
 simp [Lib.bytesOf]
theorem nums_bytes {xs : List Int} (hx : ∀ y ∈ xs, 0 <= y /\ y < 256) : sBytes (strOfNums xs) = xs := by
 unfold sBytes
 rw [<- ByteArray.toList_eq, Lib.strOfNums_toList]
 unfold Lib.bytesOf
 rw [List.map_map]
 conv => rhs; rw [<- List.map_id xs]
 refine List.map_congr_left fun y hy => ?_
 have := hx y hy
 simp only [Function.comp_apply, UInt8.toNat_ofNat', id]
 omega
theorem small144 (s : ByteArray) (h : s.size <= 65536) (w : World) : Calls Tryz.prog 369 #[.string s] w fun e w' => e = .returned (.bool true) /\ Below w.heap.size w w' := by
 have hg : decide ((s.size : Int) <= 65536) = true := by simp; omega
 go_enter Tryz.func369, Tryz.ntmps369
 go_wp2_with fail
 go_ret
 exact ⟨rfl, Below.refl _ _⟩
theorem enter144 : ∀ args w, (callFunc 369 args).run Tryz.prog w = .ok (.enter 369 args) w := by
 intro args w
 simp [callFunc, Tryz.func369, Tryz.f369]

theorem ws_value {w : World} {X C : Nat} {f : Nat -> Value} {out : List Int} {bad : Bool} (Av : Option Addr) (cv : Nat) (val : List Int) (h : WS w X C f out bad) (hf : f 3 = .slice Av val.length cv) (hv : Byt w w.heap.size Av cv val) (hx : ∀ y ∈ val, 0 <= y /\ y < 256) (hl : val.length <= 65536) (hol : out.length <= 400000) :
  Calls Tryz.prog 308 #[.pointer (some ⟨X, 0, none⟩)] w fun e w' =>
   e = .returned (.tuple #[]) /\ WS w' X C f (out ++ putV val.length ++ val) bad /\ Kept [X] w w' := by
 have HW := kp h
 obtain ⟨h1, h2, v, h3, A, ca, rfl, h4, h5⟩ := h
 have c0 : w.cell? ⟨X, 0, none⟩ = some (.pointer (some ⟨C, 0, none⟩)) := World.rowIs.cell h3 (i := 0) (by decide)
 have c3 : w.cell? ⟨C, 3, none⟩ = some (.slice Av val.length cv) := by rw [<- hf]; exact World.rowIs.cell h2 (i := 3) (by decide)
 have hcv := hv.convert rfl
 have hsz := nums_size val
 have hsb := nums_bytes hx
 obtain ⟨s, hs⟩ : ∃ s, strOfNums val = s := ⟨_, rfl⟩
 rw [hs] at hcv hsz hsb
 have hXl := World.rowIs.lt h3
 have hb1 := below1 w (.cells #[.string s] 9)
 have hT : (w.alloc (.cells #[.string s] 9)).rowIs w.heap.size 9 1 (listF [.string s]) := row_list w [.string s] 9
 have hN := part_write X w.heap.size 0 9 1 (listF [.string s]) s _ A ca out bad true 369 (w.alloc (.cells #[.string s] 9)) hT (by decide) rfl (by omega) (World.rowIs.alloc h3 _) ((h4.below hb1 (Nat.le_refl _)).mono hb1.size) (fun b off e hb => h5 b off e (by simp [hb])) enter144 (fun w => small144 s (by omega) w) (by omega) (by omega)
 rw [hsz, hsb] at hN
 have HN := kp hN
 have HB1 := kp hb1
 have HS := kp hs
 have HSZ := kp hsz
 clear hN hT h2 h3 h4 h5 hb1 hv hx hs hsz hsb
 go_enter Tryz.func308, Tryz.ntmps308
 go_wp2_with fail
 refine HN.out.mono ?_
 rintro e w2 ⟨rfl, v2, hX2, hS2, hk2⟩
 have c21 : w2.cell? ⟨X, 1, none⟩ = some (.pointer none) := World.rowIs.cell hX2 (i := 1) (by decide)
 have HX2 := kp hX2
 have HS2 := kp hS2
 have HK2 := kp hk2
 clear hX2 hS2 hk2
 go_wp2_with fail
 go_end0
 have hk : Kept [X] w w2 := (Kept.of_below HB1.out).trans HK2.out
 have hbe : (bad || !true) = bad := by simp
 have hX := HX2.out
 rw [hbe] at hX
 refine ⟨rfl, HW.out.next hX ?_ hk, hk⟩
 obtain ⟨A', c', e1, e2, e3⟩ := HS2.out
 exact ⟨A', c', e1, e2, fun b off e => Nat.le_trans (by simp) (e3 b off e)⟩
theorem cell_in {w : World} {a : Addr} {v : Value} (h : w.cell? a = some v) : a.block < w.heap.size := by
 rcases Nat.lt_or_ge a.block w.heap.size with h' | h'
 ·exact h'
 ·simp [World.cell?, Array.getElem?_eq_none h'] at h
theorem Kept.cell {L : List Nat} {a b : World} (h : Kept L a b) {p : Addr} {v : Value} (hp : p.block ∉ L) (hc : a.cell? p = some v) : b.cell? p = some v := by
 obtain ⟨x, off, sp⟩ := p
 have hlt := cell_in hc
 have hsp := World.cell?_spot hc
 simp only at hsp
 subst hsp
 rw [World.cell?_of_block (w := a) (h.block x hlt hp)]
 exact hc
theorem part_mid_c {X : Nat} {c : Value} {A A6 : Option Addr} {ca c6 L : Nat} {o : Nat} {xs : List Int} {bad : Bool} {w w6 : World} {base : Nat} (hL : xs.length = L)
  (hX : w.rowIs X 339 4 (codF c (.pointer none) (.slice A o ca) bad)) (hb6 : Below w.heap.size w w6) (hown : Own8 w6 base (.slice A6 L c6) xs) (hbase : w.heap.size <= base) :
  ∃ w7, w7 = w6.setCell ⟨X, 2, none⟩ (.slice A6 L c6) /\ w7.rowIs X 339 4 (codF c (.pointer none) (.slice A6 L c6) bad) /\ Kept [X] w w7 /\ SlB w7 w.heap.size (.slice A6 L c6) xs := by
 have hXlt := World.rowIs.lt hX
 have hX6 : w6.rowIs X 339 4 (codF c (.pointer none) (.slice A o ca) bad) := World.rowIs.of_block hX (hb6.block X hXlt)
 have hK : Kept [X] w (w6.setCell ⟨X, 2, none⟩ (.slice A6 L c6)) := (Kept.of_below hb6).setCell (by simp) _
 refine ⟨_, rfl, World.rowIs.congr (World.rowIs.set hX6 2 (.slice A6 L c6)) fun i hi => ?_, hK, ?_⟩
 ·match i, hi with
  | 0, _ => rfl
  | 1, _ => rfl
  | 2, _ => rfl
  | 3, _ => rfl
 ·obtain ⟨A', c', he, hby, hlo⟩ := SlB.of_own hown
  refine ⟨A', c', he, ?_, fun b off hA => Nat.le_trans hbase (hlo b off hA)⟩
  have hk2 : Kept [X] w6 (w6.setCell ⟨X, 2, none⟩ (.slice A6 L c6)) := (Kept.refl _ _).setCell (by simp) _
  exact hk2.byt hby fun x off hA hm => by
   have h1 := hlo x off hA
   simp at hm
   omega

theorem part_write_c (X G k : Nat) (s : ByteArray) (c : Value) (A : Option Addr) (ca : Nat) (out : List Int) (bad al : Bool) (N : Nat) (w : World)
  (hcs : w.cell? ⟨G, k, none⟩ = some (.string s)) (hXG : X ≠ G) (hX : w.rowIs X 339 4 (codF c (.pointer none) (.slice A out.length ca) bad)) (hA : Byt w w.heap.size A ca out) (hAX : ∀ b off, A = some ⟨b, off, none⟩ -> b ≠ X)
  (eg : ∀ args w, (callFunc N args).run Tryz.prog w = .ok (.enter N args) w) (hN : ∀ w, Calls Tryz.prog N #[.string s] w fun e w' => e = .returned (.bool al) /\ Below w.heap.size w w') (hs : s.size <= 100000) (hol : out.length <= 500000) :
  Calls Tryz.prog 307 #[.pointer (some ⟨X, 0, none⟩), .pointer (some ⟨G, k, none⟩), .func (.func N) #[] #[]] w fun e w' =>
   e = .returned (.tuple #[]) /\ ∃ v, w'.rowIs X 339 4 (codF c (.pointer none) v (bad || !al)) /\ SlB w' w.heap.size v (out ++ putV s.size ++ sBytes s) /\ Kept [X] w w' := by
 have hc1 : w.cell? ⟨X, 1, none⟩ = some (.pointer none) := World.rowIs.cell hX (i := 1) (by decide)
 have hc2 : w.cell? ⟨X, 2, none⟩ = some (.slice A out.length ca) := World.rowIs.cell hX (i := 2) (by decide)
 have hc3 : w.cell? ⟨X, 3, none⟩ = some (.bool bad) := World.rowIs.cell hX (i := 3) (by decide)
 have HCS := kp hcs
 have HX := kp hX
 have HA := kp hA
 clear hX hA
 obtain ⟨L, hL⟩ : ∃ L, (out ++ putV s.size ++ sBytes s).length = L := ⟨_, rfl⟩
 have HL := kp hL
 clear hL
 have HN := kp hN
 clear hN
 go_enter Tryz.func307, Tryz.ntmps307
 go_wp2_with fail
 obtain ⟨c2, W5, hconv, hby5, hb5⟩ := conv_str w.drew s
 have hXlt : X < w.drew.heap.size := World.rowIs.lt HX.out
 have hX5 : W5.rowIs X 339 4 (codF c (.pointer none) (.slice A out.length ca) bad) := World.rowIs.of_block HX.out (hb5.block X hXlt)
 have h52 : W5.cell? ⟨X, 2, none⟩ = some (.slice A out.length ca) := World.rowIs.cell hX5 (i := 2) (by decide)
 have hA5 := kp (HA.out.below (B := w.heap.size) (w' := W5) (B' := w.heap.size) ⟨hb5.os, hb5.tape, hb5.output, hb5.size, hb5.block⟩ (Nat.le_refl _) |>.mono hb5.size)
 have HX5 := kp hX5
 have HB5 := kp hby5
 have hsl := sBytes_len s
 have HC := kp (putBytes_any A (some ⟨w.drew.heap.size, 0, none⟩) out.length ca s.size c2 out (sBytes s) W5 rfl hsl (by omega) (by omega) hA5.out HB5.out)
 clear hX5 hby5
 go_region_law ((with_reducible refine step_call_any (o := ⟨some 22, _, _, _, _, _⟩) rfl 361 _ _ rfl #[.slice A out.length ca, .slice (some ⟨w.drew.heap.size, 0, none⟩) s.size c2] ?_ Tryz.f361 Tryz.func361 f142_name f142_body (fun u w6 => Own8 w6 W5.heap.size u (out ++ putV s.size ++ sBytes s) /\ Below W5.heap.size W5 w6) ?_ ?_); (· simp only [y1, y2, y3]; rfl); (· exact HC.out.mono fun e w' ⟨v, h1, h2, h3⟩ => ⟨v, h1, h2, h3⟩); rintro u6 w6 ⟨hown6, hb6⟩; obtain ⟨A6, c6, rfl, hby6⟩ := hown6.val; rw [HL.out]; rw [HL.out] at hown6; have hX6 := kp (World.rowIs.of_block HX5.out (hb6.block X (World.rowIs.lt HX5.out))); have h62 : w6.cell? ⟨X, 2, none⟩ = some (.slice A out.length ca) := World.rowIs.cell hX6.out (i := 2) (by decide); have hf62 : w6.frozen? ⟨X, 2, none⟩ = false := World.rowIs.frozen hX6.out 2)
 all_goals
  have hbw6 : Below w.heap.size w w6 := by
   have h1 : Below w.heap.size w W5 := ⟨hb5.os, hb5.tape, hb5.output, hb5.size, hb5.block⟩
   exact h1.trans (hb6.mono h1.size)
  obtain ⟨w7, hw7, hX7, hK7, hS7⟩ := part_mid_c HL.out HX.out hbw6 hown6 (by have := hb5.size; exact this)
  rw [<- hw7]
  clear hw7 h62 hf62 hX6 hown6 hby6 hb6 hbw6
  have h73 : w7.cell? ⟨X, 3, none⟩ = some (.bool bad) := World.rowIs.cell hX7 (i := 3) (by decide)
  have hf73 : w7.frozen? ⟨X, 3, none⟩ = false := World.rowIs.frozen hX7 3
  have h7s : w7.cell? ⟨G, k, none⟩ = some (.string s) := hK7.cell (by simp; exact fun e => hXG e.symm) HCS.out
  have HX7 := kp hX7
  have HK7 := kp hK7
  have HS7 := kp hS7
  clear hX7 hK7 hS7
  have hXw := World.rowIs.lt HX.out
  cases bad with
  | true =>
   go_wp2_with fail
   go_end0
   obtain ⟨h1, h2, h3⟩ := part_end (b := true) HX7.out hXw HK7.out HS7.out (Below.refl _ _)
   exact ⟨rfl, _, h1, h2, h3⟩
  | false =>
   go_wp2_with fail
   refine (HN.out w7).mono ?_
   rintro e w8 ⟨rfl, hb8⟩
   have hX8 := World.rowIs.of_block HX7.out (hb8.block X (World.rowIs.lt HX7.out))
   have h83 : w8.cell? ⟨X, 3, none⟩ = some (.bool false) := World.rowIs.cell hX8 (i := 3) (by decide)
   have hf83 : w8.frozen? ⟨X, 3, none⟩ = false := World.rowIs.frozen hX8 3
   clear hX8
   go_wp2_with fail
   go_end0
   obtain ⟨h1, h2, h3⟩ := part_end (b := !al) HX7.out hXw HK7.out HS7.out hb8
   exact ⟨rfl, _, h1, h2, h3⟩

/-- strings, one after the other, each with its length -/
def putStrs : List ByteArray -> List Int
 | [] => []
 | s :: l => putV s.size ++ sBytes s ++ putStrs l
theorem putStrs_snoc (l : List ByteArray) (s : ByteArray) : putStrs (l ++ [s]) = putStrs l ++ (putV s.size ++ sBytes s) := by
 induction l with
 | nil => simp [putStrs]
 | cons a l ih => simp [putStrs, ih, List.append_assoc]

theorem WS.out_bad {w : World} {X C : Nat} {f : Nat -> Value} {out out' : List Int} {bad bad' : Bool} (h : WS w X C f out bad) (e1 : out = out') (e2 : bad = bad') : WS w X C f out' bad' := by subst e1; subst e2; exact h
theorem putStrs_len3 {l : List ByteArray} (h : ∀ s ∈ l, s.size <= 3000) : (putStrs l).length <= 3100 * l.length := by
 induction l with
 | nil => simp [putStrs]
 | cons a l ih =>
  have h1 := ih fun s hs => h s (List.mem_cons_of_mem _ hs)
  have h2 := h a List.mem_cons_self
  have h3 := putV_len10 (n := a.size) (by omega)
  have h4 := sBytes_len a
  simp only [putStrs, List.length_append, List.length_cons]
  omega

theorem ws_list {w : World} {X C : Nat} {f : Nat -> Value} {out : List Int} {bad : Bool} (k n least most N : Nat) (strs : List ByteArray) (Al : Option Addr) (cl : Nat) (alw : ByteArray -> Bool) (h : WS w X C f out bad) (hk : k < 10) (hf : f k = .slice Al n cl) (hn : strs.length = n) (hel : ElV Value.string w w.heap.size Al strs) (hne : ∀ b off, Al = some ⟨b, off, none⟩ -> strs ≠ [] -> b ≠ X)
  (eg : ∀ args w, (callFunc N args).run Tryz.prog w = .ok (.enter N args) w) (hN : ∀ s ∈ strs, ∀ w, Calls Tryz.prog N #[.string s] w fun e w' => e = .returned (.bool (alw s)) /\ Below w.heap.size w w') (hs : ∀ s ∈ strs, s.size <= 3000) (h1 : least <= n) (h2 : n <= most) (h3 : most <= 32) (hol : out.length <= 200000) :
  Calls Tryz.prog 309 #[.pointer (some ⟨X, 0, none⟩), .pointer (some ⟨C, k, none⟩), .int .i64 least, .int .i64 most, .func (.func N) #[] #[]] w fun e w' =>
   e = .returned (.tuple #[]) /\ WS w' X C f (out ++ putV n ++ putStrs strs) (bad || !(strs.all alw)) /\ Kept [X] w w' := by
 have HW := kp h
 obtain ⟨hXC, hC, v, hX, A, ca, rfl, hA, hAN⟩ := h
 have ck : w.cell? ⟨C, k, none⟩ = some (.slice Al n cl) := by rw [<- hf]; exact World.rowIs.cell hC hk
 have hXl := World.rowIs.lt hX
 have hb1 := below1 w (.cells #[.int .u64 n] 33)
 have hT : (w.alloc (.cells #[.int .u64 n] 33)).rowIs w.heap.size 33 1 (listF [.int .u64 n]) := row_list w [.int .u64 n] 33
 have hNW := number_write X w.heap.size 0 33 1 (listF [.int .u64 n]) n _ A ca out bad (w.alloc (.cells #[.int .u64 n] 33)) hT (by decide) rfl (by omega) (by omega) (World.rowIs.alloc hX _) ((hA.below hb1 (Nat.le_refl _)).mono hb1.size) (fun b off e hb => hAN b off e (by simp [hb])) (by omega)
 have HNW := kp hNW
 have HB1 := kp hb1
 have HT := kp hT
 have HEL := kp hel
 have HNE := kp hne
 have HN := kp hN
 have HS := kp hs
 have HL := kp hn
 have HEG := kp eg
 clear hNW hT hC hX hA hAN hb1 hel hne hN hs hn eg
 have g1 : ¬ n < least := by omega
 have g2 : ¬ most < n := by omega
 have H1 := kp h1
 have H2 := kp h2
 have H3 := kp h3
 have hn100 : n <= 32 := Nat.le_trans h2 h3
 have hl100 : least <= 32 := Nat.le_trans h1 hn100
 have hm100 : most <= 32 := h3
 clear h1 h2 h3
 go_enter Tryz.func309, Tryz.ntmps309
 go_wp2_with fail
 refine HNW.out.mono ?_
 rintro e w2 ⟨rfl, v2, hX2, hS2, hk2⟩
 have hT2 : w2.rowIs w.heap.size 33 1 (listF [.int .u64 n]) := hk2.row (by simp; omega) HT.out
 have t20 : w2.cell? ⟨w.heap.size, 0, none⟩ = some (.int .u64 n) := World.rowIs.cell hT2 (i := 0) (by decide)
 have c21 : w2.cell? ⟨X, 1, none⟩ = some (.pointer none) := World.rowIs.cell hX2 (i := 1) (by decide)
 have hkw : Kept [X] w w2 := (Kept.of_below HB1.out).trans hk2
 have c2k : w2.cell? ⟨C, k, none⟩ = some (.slice Al n cl) := hkw.cell (by simp; exact fun e => hXC e.symm) ck
 have hW2 : WS w2 X C f (out ++ putV n) bad := HW.out.next hX2 (by obtain ⟨A', c', e1, e2, e3⟩ := hS2; exact ⟨A', c', e1, e2, fun b off e => Nat.le_trans (by simp) (e3 b off e)⟩) hkw
 have HW2 := kp hW2
 have HKW := kp hkw
 clear hX2 hS2 hk2 hT2 hW2 hkw
 go_wp2_with fail
 clear c2k t20 c21 g1 g2
 go_loopw [49] (fun j wr => ∃ i : Nat, i <= n /\ j = .int .i64 i /\ WS wr X C f (out ++ putV n ++ putStrs (strs.take i)) (bad || !((strs.take i).all alw)) /\ Kept [X] w wr) (fun j _ => n - (intOf j).toNat)
 case atStart => exact ⟨0, Nat.zero_le _, rfl, HW2.out.out_bad (by simp [putStrs]) (by simp), HKW.out⟩
 case round =>
  obtain ⟨i, hi, rfl, hW, hK⟩ := hrel
  have ckr : wr.cell? ⟨C, k, none⟩ = some (.slice Al n cl) := hK.cell (by simp; exact fun e => hXC e.symm) ck
  by_cases hlt : i < n
  ·have hg : decide ((i : Int) < (n : Int)) = true := by simp; omega
   obtain ⟨s, hs⟩ : ∃ s, strs[i]? = some s := ⟨strs[i]'(by rw [HL.out]; exact hlt), List.getElem?_eq_getElem _⟩
   obtain ⟨b, off, rfl, hbB, hc⟩ := HEL.out i s hs
   have hmem : s ∈ strs := List.mem_iff_getElem?.2 ⟨i, hs⟩
   have hcr : wr.cell? ⟨b, off + i, none⟩ = some (.string s) := hK.cell (by simp; exact HNE.out b off rfl (List.ne_nil_of_mem (List.mem_iff_getElem?.2 ⟨i, hs⟩))) hc
   have htk : strs.take (i + 1) = strs.take i ++ [s] := by rw [List.take_add_one, hs]; rfl
   have hol2 : (out ++ putV n ++ putStrs (strs.take i)).length <= 500000 := by
    have h4 := putStrs_len3 (l := strs.take i) fun s hs => HS.out s (List.mem_of_mem_take hs)
    have h5 := putV_len10 (n := n) (by omega)
    have h6 : (strs.take i).length <= i := List.length_take_le _ _
    simp only [List.length_append]
    omega
   have hsz := HS.out s hmem
   have HWi := kp hW
   obtain ⟨_, hC, v, hX, A2, ca2, rfl, hA2, hAN2⟩ := hW
   have hP := part_write_c X b (off + i) s _ A2 ca2 _ _ (alw s) N wr hcr (fun e => HNE.out b off rfl (List.ne_nil_of_mem (List.mem_iff_getElem?.2 ⟨i, hs⟩)) e.symm) hX hA2 (fun b off e hb => hAN2 b off e (by simp [hb])) HEG.out (HN.out s hmem) (by omega) hol2
   have HP := kp hP
   have HTK := kp htk
   have HK := kp hK
   clear hP hX hA2 hAN2 hC hs hc hmem htk hol2 hK hcr
   go_wp2_with fail
   refine HP.out.mono ?_
   rintro e w5 ⟨rfl, v5, hX5, hS5, hk5⟩
   have hW5 := HWi.out.next hX5 hS5 hk5
   have HW5 := kp (hW5.out_bad (out' := out ++ putV n ++ putStrs (strs.take (i + 1))) (bad' := bad || !((strs.take (i + 1)).all alw)) (by rw [HTK.out, putStrs_snoc]; simp only [List.append_assoc]) (by rw [HTK.out, List.all_append]; cases bad <;> cases (strs.take i).all alw <;> cases h : alw s <;> simp [h]))
   have HK5 := kp (HK.out.trans hk5)
   clear hX5 hS5 hk5 hW5
   go_wp2_with fail
   go_roundw
   case rel => exact ⟨i + 1, by omega, by go_num, HW5.out, HK5.out⟩
   case measure => simp [intOf]; omega
  ·obtain rfl : i = n := by omega
   have hg : decide ((i : Int) < (i : Int)) = false := by simp
   have HW3 := kp hW
   have HK3 := kp hK
   clear hW hK
   go_wp2_with fail
   go_end0
   exact ⟨rfl, HW3.out.out_bad (by rw [List.take_of_length_le (by rw [HL.out]; exact Nat.le_refl _)]) (by rw [List.take_of_length_le (by rw [HL.out]; exact Nat.le_refl _)]), HK3.out⟩
theorem read_midN {X G R k n : Nat} {NL : List Nat} (hNL : ∀ k ∈ [X, G, R], k ∈ NL) {t : TypeId} {f : Nat -> Value} {c outv r : Value} {bad : Bool} {w w1 : World} {u : Value} (hXG : X ≠ G) (hX1 : w1.rowIs X 339 4 (codF c r outv bad)) (hG1 : w1.rowIs G t n f) (hk1 : Kept [R] w w1) (hXR : X ≠ R) (hGR : G ≠ R) {v' : Value} {rest : List Int} (hR1 : w1.rowIs R 440 2 (rdF v')) (hv1 : SlX w1 NL v' rest) :
  ∃ w2, w2 = (w1.setCell ⟨X, 3, none⟩ (.bool bad)).setCell ⟨G, k, none⟩ u /\ w2.rowIs X 339 4 (codF c r outv bad) /\ w2.rowIs G t n (updF f k u) /\ w2.rowIs R 440 2 (rdF v') /\ SlX w2 NL v' rest /\ Kept [X, G, R] w w2 := by
 have hk3 : Kept [X, G, R] w1 ((w1.setCell ⟨X, 3, none⟩ (.bool bad)).setCell ⟨G, k, none⟩ u) := ((Kept.refl _ _).setCell (by simp) _).setCell (by simp) _
 refine ⟨_, rfl, World.rowIs.setOther (World.rowIs.congr (World.rowIs.set hX1 3 _) fun i hi => ?_) (by exact hXG) _, World.rowIs.set (World.rowIs.setOther hG1 (by exact fun e => hXG e.symm) _) k _, World.rowIs.setOther (World.rowIs.setOther hR1 (by exact fun e => hXR e.symm) _) (by exact fun e => hGR e.symm) _, hv1.kept hk3 hNL, (hk1.mono (by simp)).trans hk3⟩
 match i, hi with
 | 0, _ => rfl
 | 1, _ => rfl
 | 2, _ => rfl
 | 3, _ => rfl

theorem read_endN {X G R n : Nat} {NL : List Nat} (hNL : ∀ k ∈ [X, G, R], k ∈ NL) {t : TypeId} {f : Nat -> Value} {c outv r : Value} {bad b : Bool} {w w2 w3 : World} (hXG : X ≠ G) (hXR : X ≠ R) {v' : Value} {rest : List Int}
  (hX2 : w2.rowIs X 339 4 (codF c r outv bad)) (hG2 : w2.rowIs G t n f) (hR2 : w2.rowIs R 440 2 (rdF v')) (hv2 : SlX w2 NL v' rest) (hk2 : Kept [X, G, R] w w2) (hb : Below w2.heap.size w2 w3) :
  ∃ v', (w3.setCell ⟨X, 3, none⟩ (.bool b)).rowIs X 339 4 (codF c r outv b) /\ (w3.setCell ⟨X, 3, none⟩ (.bool b)).rowIs G t n f /\ (w3.setCell ⟨X, 3, none⟩ (.bool b)).rowIs R 440 2 (rdF v') /\ SlX (w3.setCell ⟨X, 3, none⟩ (.bool b)) NL v' rest /\ Kept [X, G, R] w (w3.setCell ⟨X, 3, none⟩ (.bool b)) := by
 have hk : Kept [X, G, R] w2 (w3.setCell ⟨X, 3, none⟩ (.bool b)) := (Kept.of_below hb).setCell (by simp) _
 have hX3 := World.rowIs.of_block hX2 (hb.block X (World.rowIs.lt hX2))
 have hG3 := World.rowIs.of_block hG2 (hb.block G (World.rowIs.lt hG2))
 have hR3 := World.rowIs.of_block hR2 (hb.block R (World.rowIs.lt hR2))
 refine ⟨v', World.rowIs.congr (World.rowIs.set hX3 3 _) fun i hi => ?_, World.rowIs.setOther hG3 (by exact fun e => hXG e.symm) _, World.rowIs.setOther hR3 (by exact fun e => hXR e.symm) _, hv2.kept hk hNL, hk2.trans hk⟩
 match i, hi with
 | 0, _ => rfl
 | 1, _ => rfl
 | 2, _ => rfl
 | 3, _ => rfl

theorem part_readN (X G R k : Nat) (NL : List Nat) (hNL : ∀ k ∈ [X, G, R], k ∈ NL) (t : TypeId) (n : Nat) (f : Nat -> Value) (s : ByteArray) (u0 : ByteArray) (c outv v : Value) (rest : List Int) (bad al : Bool) (N : Nat) (w : World)
  (hG : w.rowIs G t n f) (hk : k < n) (hf : f k = .string u0) (hXG : X ≠ G) (hXR : X ≠ R) (hGR : G ≠ R) (hX : w.rowIs X 339 4 (codF c (.pointer (some ⟨R, 0, none⟩)) outv bad))
  (hR : w.rowIs R 440 2 (rdF v)) (hv : SlX w NL v (putV s.size ++ (sBytes s ++ rest))) (hget : GetOk s.size) (hs : s.size <= 65536) (hrl : rest.length <= 500000)
  (eg : ∀ args w, (callFunc N args).run Tryz.prog w = .ok (.enter N args) w) (hN : ∀ w, Calls Tryz.prog N #[.string s] w fun e w' => e = .returned (.bool al) /\ Below w.heap.size w w') :
  Calls Tryz.prog 307 #[.pointer (some ⟨X, 0, none⟩), .pointer (some ⟨G, k, none⟩), .func (.func N) #[] #[]] w fun e w' =>
   e = .returned (.tuple #[]) /\ ∃ v', w'.rowIs X 339 4 (codF c (.pointer (some ⟨R, 0, none⟩)) outv (bad || !al)) /\ w'.rowIs G t n (updF f k (.string s)) /\ w'.rowIs R 440 2 (rdF v') /\ SlX w' NL v' rest /\ Kept [X, G, R] w w' := by
 have hc1 : w.cell? ⟨X, 1, none⟩ = some (.pointer (some ⟨R, 0, none⟩)) := World.rowIs.cell hX (i := 1) (by decide)
 have hsl := sBytes_len s
 have hpl : (putV s.size).length <= 10 := putV_len10 (by omega)
 have HB := kp (bytes_any NL R 65536 (hNL R (by simp)) v (sBytes s) rest w (by rw [hsl]; exact hget) (by simp only [List.length_append]; rw [hsl]; omega) (by rw [hsl]; exact hs) (by omega) hR (by rw [hsl]; exact hv))
 have HX := kp hX
 have HG := kp hG
 have HN := kp hN
 clear hX hG hN hget hR hv
 go_enter Tryz.func307, Tryz.ntmps307
 go_wp2_with fail
 refine HB.out.mono ?_
 rintro e w1 ⟨vp, v', rfl, hown1, hR1, hv1, hk1⟩
 obtain ⟨Ap, cp, rfl, hbyp⟩ := hown1.val
 rw [hsl]
 have hX1 := hk1.row (G := X) (by simp [hXR]) HX.out
 have hG1 := hk1.row (G := G) (by simp [hGR]) HG.out
 have h13 : w1.cell? ⟨X, 3, none⟩ = some (.bool bad) := World.rowIs.cell hX1 (i := 3) (by decide)
 have hf13 : w1.frozen? ⟨X, 3, none⟩ = false := World.rowIs.frozen hX1 3
 have h1g : w1.cell? ⟨G, k, none⟩ = some (.string u0) := by rw [<- hf]; exact World.rowIs.cell hG1 hk
 have hf1g : w1.frozen? ⟨G, k, none⟩ = false := World.rowIs.frozen hG1 k
 have hconv : ∀ W, Byt W W.heap.size Ap cp (sBytes s) -> (convert 26 9 (.slice Ap s.size cp)).run Tryz.prog W = .ok (.string s) W := fun W h => by
  have := h.convert hsl
  rwa [str_nums] at this
 have hcv : (convert 26 9 (.slice Ap s.size cp)).run Tryz.prog (w1.setCell ⟨X, 3, none⟩ (.bool bad)) = .ok (.string s) (w1.setCell ⟨X, 3, none⟩ (.bool bad)) := by
  refine hconv _ (((Kept.refl [X] w1).setCell (p := ⟨X, 3, none⟩) (by simp) _).byt hbyp fun x off hA hm => ?_)
  obtain ⟨A', c', e, _, hlo⟩ := SlB.of_own hown1
  cases e
  have h1 := hlo x off hA
  have h2 := World.rowIs.lt HX.out
  simp at hm
  omega
 obtain ⟨w2, hw2, hX2, hG2, hR2, hv2, hk2⟩ := read_midN hNL (k := k) (u := .string s) hXG hX1 hG1 hk1 hXR hGR hR1 hv1
 clear hconv
 cases bad with
 | true =>
  go_wp2_with fail
  go_end0
  rw [<- hw2]
  exact ⟨rfl, read_endN hNL (b := true) hXG hXR hX2 hG2 hR2 hv2 hk2 (Below.refl _ _)⟩
 | false =>
  go_wp2_with fail
  rw [<- hw2]
  refine (HN.out w2).mono ?_
  rintro e w3 ⟨rfl, hb3⟩
  have hX3 := World.rowIs.of_block hX2 (hb3.block X (World.rowIs.lt hX2))
  have h33 : w3.cell? ⟨X, 3, none⟩ = some (.bool false) := World.rowIs.cell hX3 (i := 3) (by decide)
  have hf33 : w3.frozen? ⟨X, 3, none⟩ = false := World.rowIs.frozen hX3 3
  clear hX3 hw2
  go_wp2_with fail
  go_end0
  exact ⟨rfl, read_endN hNL (b := !al) hXG hXR hX2 hG2 hR2 hv2 hk2 hb3⟩

/-- the codec X reads the command C from the reader R -/
def RS (w : World) (N : List Nat) (X C R : Nat) (f : Nat -> Value) (rest : List Int) (bad : Bool) : Prop :=
 X ≠ C /\ X ≠ R /\ C ≠ R /\ w.rowIs C 36 10 f /\ w.rowIs X 339 4 (codF (.pointer (some ⟨C, 0, none⟩)) (.pointer (some ⟨R, 0, none⟩)) (.slice none 0 0) bad) /\ (∀ k ∈ [X, C, R], k ∈ N) /\ ∃ v, w.rowIs R 440 2 (rdF v) /\ SlX w N v rest
theorem RS.bad {w : World} {N : List Nat} {X C R : Nat} {f : Nat -> Value} {rest rest' : List Int} {bad bad' : Bool} (h : RS w N X C R f rest bad) (e' : rest = rest') (e : bad = bad') : RS w N X C R f rest' bad' := by subst e; subst e'; exact h
theorem RS.row {w : World} {N : List Nat} {X C R : Nat} {f g : Nat -> Value} {rest : List Int} {bad : Bool} (h : RS w N X C R f rest bad) (e : ∀ i, i < 10 -> f i = g i) : RS w N X C R g rest bad := ⟨h.1, h.2.1, h.2.2.1, World.rowIs.congr h.2.2.2.1 e, h.2.2.2.2⟩
theorem RS.lt {w : World} {N : List Nat} {X C R : Nat} {f : Nat -> Value} {rest : List Int} {bad : Bool} (h : RS w N X C R f rest bad) : X < w.heap.size /\ C < w.heap.size /\ R < w.heap.size := ⟨World.rowIs.lt h.2.2.2.2.1, World.rowIs.lt h.2.2.2.1, by obtain ⟨v, h1, _⟩ := h.2.2.2.2.2.2; exact World.rowIs.lt h1⟩
theorem RS.kept {w w' : World} {N L : List Nat} {X C R : Nat} {f : Nat -> Value} {rest : List Int} {bad : Bool} (h : RS w N X C R f rest bad) (hk : Kept L w w') (hL : ∀ k ∈ L, k ∈ N /\ k ≠ X /\ k ≠ C /\ k ≠ R) : RS w' N X C R f rest bad := by
 obtain ⟨h1, h2, h3, h4, h5, h0, v, h6, h7⟩ := h
 exact ⟨h1, h2, h3, hk.row (fun hm => (hL _ hm).2.2.1 rfl) h4, hk.row (fun hm => (hL _ hm).2.1 rfl) h5, h0, v, hk.row (fun hm => (hL _ hm).2.2.2 rfl) h6, h7.kept hk (fun k hm => (hL k hm).1)⟩
theorem RS.below {w w' : World} {N : List Nat} {X C R : Nat} {f : Nat -> Value} {rest : List Int} {bad : Bool} (h : RS w N X C R f rest bad) (hb : Below w.heap.size w w') : RS w' N X C R f rest bad := h.kept (Kept.of_below (L := []) hb) (by simp)
/-- a block that came later need not be watched, but may be -/
theorem RS.more {w : World} {N : List Nat} {X C R G : Nat} {f : Nat -> Value} {rest : List Int} {bad : Bool} (h : RS w N X C R f rest bad) (w0 : World) (hG : w0.heap.size <= G) (h0 : RS w0 N X C R f rest bad) (hr : 0 < rest.length) (hb : Below w0.heap.size w0 w) : RS w (G :: N) X C R f rest bad := by
 obtain ⟨_, _, _, _, _, _, v0, h6, h7⟩ := h0
 obtain ⟨h1, h2, h3, h4, h5, hN, _, _, _⟩ := h
 have h8 := h7.kept (Kept.of_below (L := []) hb) (by simp)
 obtain ⟨A, c, e, hby, hn⟩ := h7
 obtain ⟨b, off, rfl, hlt, _⟩ := hby.at (i := 0) hr
 obtain ⟨A', c', e', hby', hn'⟩ := h8
 rw [e] at e'
 cases e'
 refine ⟨h1, h2, h3, h4, h5, fun k hk => List.mem_cons_of_mem _ (hN k hk), v0, World.rowIs.of_block h6 (hb.block _ (World.rowIs.lt h6)), _, _, e, hby', fun b' off' e1 hm => ?_⟩
 cases e1
 rcases List.mem_cons.1 hm with rfl | hm
 ·omega
 ·exact hn' _ _ rfl hm
theorem RS.less {w : World} {N N' : List Nat} {X C R : Nat} {f : Nat -> Value} {rest : List Int} {bad : Bool} (h : RS w N X C R f rest bad) (hN : ∀ k ∈ N', k ∈ N) (h0 : ∀ k ∈ [X, C, R], k ∈ N') : RS w N' X C R f rest bad := by
 obtain ⟨h1, h2, h3, h4, h5, _, v, h6, A, c, e, hby, hn⟩ := h
 exact ⟨h1, h2, h3, h4, h5, h0, v, h6, A, c, e, hby, fun b off e1 hm => hn b off e1 (hN b hm)⟩

/-- a string of the command, read -/
theorem rs_part {w : World} {NL : List Nat} {X C R : Nat} {f : Nat -> Value} {rest : List Int} {bad al : Bool} (k : Nat) (s u0 : ByteArray) (N : Nat) (h : RS w NL X C R f (putV s.size ++ (sBytes s ++ rest)) bad) (hk : k < 10) (hf : f k = .string u0)
  (eg : ∀ args w, (callFunc N args).run Tryz.prog w = .ok (.enter N args) w) (hN : ∀ w, Calls Tryz.prog N #[.string s] w fun e w' => e = .returned (.bool al) /\ Below w.heap.size w w') (hs : s.size <= 65536) (hrl : rest.length <= 500000) :
  Calls Tryz.prog 307 #[.pointer (some ⟨X, 0, none⟩), .pointer (some ⟨C, k, none⟩), .func (.func N) #[] #[]] w fun e w' =>
   e = .returned (.tuple #[]) /\ RS w' NL X C R (updF f k (.string s)) rest (bad || !al) /\ Kept [X, C, R] w w' := by
 obtain ⟨h1, h2, h3, h4, h5, h0, v, h6, h7⟩ := h
 exact (part_readN X C R k NL h0 36 10 f s u0 _ _ v rest bad al N w h4 hk hf h1 h2 h3 h5 h6 h7 (get_any (by omega)) hs hrl eg hN).mono fun e w' ⟨e1, v', e2, e3, e4, e5, e6⟩ => ⟨e1, ⟨h1, h2, h3, e3, e2, h0, v', e4, e5⟩, e6⟩
/-- a string read to a cell of a block of its own -/
theorem rs_part_at {w : World} {NL : List Nat} {X C R G k n : Nat} {t : TypeId} {f g : Nat -> Value} {rest : List Int} {bad al : Bool} (s u0 : ByteArray) (N : Nat) (h : RS w NL X C R f (putV s.size ++ (sBytes s ++ rest)) bad) (hG : w.rowIs G t n g) (hGX : X ≠ G) (hGR : G ≠ R) (hGC : C ≠ G) (hGN : G ∈ NL) (hk : k < n) (hg : g k = .string u0)
  (eg : ∀ args w, (callFunc N args).run Tryz.prog w = .ok (.enter N args) w) (hN : ∀ w, Calls Tryz.prog N #[.string s] w fun e w' => e = .returned (.bool al) /\ Below w.heap.size w w') (hs : s.size <= 65536) (hrl : rest.length <= 500000) :
  Calls Tryz.prog 307 #[.pointer (some ⟨X, 0, none⟩), .pointer (some ⟨G, k, none⟩), .func (.func N) #[] #[]] w fun e w' =>
   e = .returned (.tuple #[]) /\ RS w' NL X C R f rest (bad || !al) /\ w'.rowIs G t n (updF g k (.string s)) /\ Kept [X, G, R] w w' := by
 obtain ⟨h1, h2, h3, h4, h5, h0, v, h6, h7⟩ := h
 have hNL : ∀ k ∈ [X, G, R], k ∈ NL := fun k hk => by
  simp only [List.mem_cons, List.not_mem_nil, or_false] at hk
  rcases hk with rfl | rfl | rfl
  ·exact h0 _ (by simp)
  ·exact hGN
  ·exact h0 _ (by simp)
 exact (part_readN X G R k NL hNL t n g s u0 _ _ v rest bad al N w hG hk hg hGX h2 hGR h5 h6 h7 (get_any (by omega)) hs hrl eg hN).mono fun e w' ⟨e1, v', e2, e3, e4, e5, e6⟩ => ⟨e1, ⟨h1, h2, h3, e6.row (by simp; exact ⟨fun e => h1 e.symm, hGC, h3⟩) h4, e2, h0, v', e4, e5⟩, e3, e6⟩
end Go.Proofs.YtnjhpgmbfblgaaaGreat.Ord
