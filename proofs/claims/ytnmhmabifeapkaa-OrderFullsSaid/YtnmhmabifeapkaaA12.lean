/- Walk of order.Count's inner function: may call k come next. Bits of u64 as bits of naturals. -/
import Derived.Test.YtnmhmabifeapkaaA9
import Derived.Lib.EndianBits
namespace Go.Proofs.Ytnmhmabifeapkaa.Ord
open Go.RowKit
set_option linter.unusedVariables false

theorem u64_nat {n : Nat} (h : n < 2 ^ 64) : IntKind.u64.wrap (n : Int) = n := by
  rw [IntKind.wrap_u64]; omega
theorem ofInt_nat (n : Nat) : BitVec.ofInt IntKind.u64.bits (n : Int) = BitVec.ofNat 64 n := BitVec.ofInt_natCast (w := 64) n
theorem and_nat {a b : Nat} (ha : a < 2 ^ 64) (hb : b < 2 ^ 64) : bits .and .u64 (a : Int) (b : Int) = ((a &&& b : Nat) : Int) := by
  unfold bits
  simp only [ofInt_nat]
  show IntKind.u64.wrap (((BitVec.ofNat 64 a &&& BitVec.ofNat 64 b).toNat : Nat) : Int) = _
  rw [BitVec.toNat_and, BitVec.toNat_ofNat, BitVec.toNat_ofNat, Nat.mod_eq_of_lt ha, Nat.mod_eq_of_lt hb, u64_nat (Nat.and_lt_two_pow _ hb)]
theorem or_nat {a b : Nat} (ha : a < 2 ^ 64) (hb : b < 2 ^ 64) : bits .or .u64 (a : Int) (b : Int) = ((a ||| b : Nat) : Int) := by
  unfold bits
  simp only [ofInt_nat]
  show IntKind.u64.wrap (((BitVec.ofNat 64 a ||| BitVec.ofNat 64 b).toNat : Nat) : Int) = _
  rw [BitVec.toNat_or, BitVec.toNat_ofNat, BitVec.toNat_ofNat, Nat.mod_eq_of_lt ha, Nat.mod_eq_of_lt hb, u64_nat (Nat.or_lt_two_pow ha hb)]
theorem andNot_zero {a b : Nat} (ha : a < 2 ^ 64) (hb : b < 2 ^ 64) : (bits .andNot .u64 (a : Int) (b : Int) == 0) = decide (a &&& b = a) := by
  unfold bits
  simp only [ofInt_nat]
  show (IntKind.u64.wrap (((BitVec.ofNat 64 a &&& ~~~ (BitVec.ofNat 64 b)).toNat : Nat) : Int) == 0) = _
  rw [u64_nat (BitVec.isLt _)]
  rw [Bool.eq_iff_iff, decide_eq_true_iff, beq_iff_eq]
  have e : (((BitVec.ofNat 64 a &&& ~~~ (BitVec.ofNat 64 b)).toNat : Nat) : Int) = 0 ↔ BitVec.ofNat 64 a &&& ~~~ (BitVec.ofNat 64 b) = 0#64 := by
    rw [← BitVec.toNat_inj]; simp
  rw [e]
  constructor
  · intro h
    apply Nat.eq_of_testBit_eq
    intro i
    rw [Nat.testBit_and]
    by_cases hi : i < 64
    · have h2 := congrArg (fun x => BitVec.getLsbD x i) h
      simp only [BitVec.getLsbD_and, BitVec.getLsbD_not, BitVec.getLsbD_ofNat, hi, decide_true, Bool.true_and] at h2
      cases h3 : a.testBit i with
      | false => rfl
      | true => rw [h3] at h2; simpa using h2
    · have : a.testBit i = false := Nat.testBit_lt_two_pow (Nat.lt_of_lt_of_le ha (Nat.pow_le_pow_right (by decide) (by omega)))
      simp [this]
  · intro h
    apply BitVec.eq_of_getLsbD_eq
    intro i hi
    have h2 := congrArg (fun x => Nat.testBit x i) h
    simp [Nat.testBit_and] at h2
    simp only [BitVec.getLsbD_and, BitVec.getLsbD_not, BitVec.getLsbD_ofNat, hi, decide_true, Bool.true_and]
    cases h3 : a.testBit i with
    | false => simp
    | true => simpa using h2 h3

theorem bit_nat (m k : Nat) : ((m / 2 ^ k) &&& 1 = 0) ↔ m.testBit k = false := by
  rw [Nat.and_one_is_mod, Nat.testBit_eq_decide_div_mod_eq, decide_eq_false_iff_not]
  omega

def mayB (m k p : Nat) : Bool := !(m.testBit k) && decide (p &&& m = p)

set_option maxRecDepth 100000 in
set_option maxHeartbeats 1000000 in
theorem may_any (m k p g : Nat) (w : World) (hm : m < 4096) (hk : k < 12) (hp : p < 4096) (hc : w.cell? ⟨g, k, none⟩ = some (.int .u64 p)) :
    Calls Try.prog 52 #[.int .u64 m, .int .i64 k, .pointer (some ⟨g, 0, none⟩)] w fun e w' => e = .returned (.bool (mayB m k p)) ∧ Below w.heap.size w w' := by
  have hx := andNot_zero (a := p) (b := m) (by omega) (by omega)
  have hd : m / 2 ^ k < 2 ^ 64 := Nat.lt_of_le_of_lt (Nat.div_le_self _ _) (by omega)
  have hy := and_nat hd (show 1 < 2 ^ 64 by decide)
  have hz := bit_nat m k
  have e1 : bits .and .u64 ((m : Int) / 2 ^ k) 1 = ((m / 2 ^ k &&& 1 : Nat) : Int) := by rw [← hy]; norm_cast
  have HX := Lib.hid hx
  have HZ := Lib.hid hz
  have HE := Lib.hid e1
  clear hx hy hz e1
  go_enter Try.func52, Try.ntmps52
  go_wp2_with fail
  · rename_i h0
    have : m.testBit k = false := HZ.out.1 (by have := HE.out.symm.trans h0; omega)
    go_ret
    refine ⟨ret_bool ?_, Below.refl _ _⟩
    rw [HX.out, mayB, this]
    rfl
  · rename_i h0
    have : m.testBit k = true := by
      cases hb : m.testBit k with
      | true => rfl
      | false =>
        have := HZ.out.2 hb
        exact absurd (by rw [HE.out, this]; rfl) h0
    go_ret
    refine ⟨ret_bool ?_, Below.refl _ _⟩
    rw [mayB, this]
    rfl
end Go.Proofs.Ytnmhmabifeapkaa.Ord
