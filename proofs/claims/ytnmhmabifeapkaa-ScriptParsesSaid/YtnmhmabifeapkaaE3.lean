/- Items and responses; walks of bytes.Equal and of the two functions that compare items. (Printed by wip/tools/genE3.py.) -/
import Derived.Test.YtnmhmabifeapkaaE1
namespace Go.Proofs.Ytnmhmabifeapkaa.Ord
open Go.RowKit
set_option linter.unusedVariables false

set_option maxRecDepth 100000 in
theorem bytes41 (A A' : Option Addr) (n m c c' : Nat) (xs ys : List Int) (w : World) (hn : xs.length = n) (hm : ys.length = m) (hx : ∀ y ∈ xs, 0 ≤ y ∧ y < 256) (hy : ∀ y ∈ ys, 0 ≤ y ∧ y < 256) (hA : Byt w w.heap.size A c xs) (hA' : Byt w w.heap.size A' c' ys) :
    Calls Try.prog 41 #[.slice A n c, .slice A' m c'] w fun e w' => e = .returned (.bool (decide (xs = ys))) ∧ ∃ q, w' = w.drewN q := by
  have q1 := hA.convert hn
  have q2 := hA'.convert hm
  have hse := str_beq hx hy
  rw [← hse]
  clear hse hx hy hA hA' hn hm
  generalize strOfNums xs = x at *
  generalize strOfNums ys = y at *
  go_enter Try.func41, Try.ntmps41
  go_wp2_with fail
  go_ret
  exact ⟨rfl, 0, rfl⟩

structure ItemR where
  mark : Int
  val : List Int
  ver : Int
  dead : Int
def itemL (m : Int) (v : Value) (r d : Int) : List Value := [.int .i64 m, v, .int .u64 r, .int .u64 d]
def itemEq (a b : ItemR) : Bool := a.mark == b.mark && decide (a.val = b.val) && a.ver == b.ver && a.dead == b.dead

set_option maxRecDepth 100000 in
set_option maxHeartbeats 4000000 in
theorem item66 (a b : ItemR) (v v' : Value) (w : World) (ha : DatG w w.heap.size v a.val) (hb : DatG w w.heap.size v' b.val) :
    Calls Try.prog 66 #[.agg (itemL a.mark v a.ver a.dead).toArray, .agg (itemL b.mark v' b.ver b.dead).toArray] w fun e w' => e = .returned (.bool (itemEq a b)) ∧ Below w.heap.size w w' := by
  have h2 := below2 w (.cells (itemL a.mark v a.ver a.dead).toArray 87) (.cells (itemL b.mark v' b.ver b.dead).toArray 87)
  obtain ⟨av1, av2, A, c, rfl, av3⟩ := (ha.below h2 (Nat.le_refl _)).mono h2.size
  obtain ⟨bv1, bv2, A', c', rfl, bv3⟩ := (hb.below h2 (Nat.le_refl _)).mono h2.size
  clear ha hb
  obtain ⟨am, av, ar, ad⟩ := a
  obtain ⟨bm, bv, br, bd⟩ := b
  simp only [itemL] at *
  have H41 := Lib.hid (bytes41 A A' _ _ c c' av bv _ rfl rfl av1 bv1 av3 bv3)
  obtain ⟨res, hres⟩ : ∃ res, itemEq ⟨am, av, ar, ad⟩ ⟨bm, bv, br, bd⟩ = res := ⟨_, rfl⟩
  rw [hres]
  simp only [itemEq] at hres
  obtain ⟨g1, hg1⟩ : ∃ g1, decide (av = bv) = g1 := ⟨_, rfl⟩
  rw [hg1] at hres H41
  clear hg1 av3 bv3 av1 bv1 av2 bv2
  generalize av.length = n1 at *
  generalize bv.length = n2 at *
  clear av bv
  have HR := Lib.hid hres
  have HB := Lib.hid h2
  clear hres h2
  go_enter Try.func66, Try.ntmps66
  cases t0 : (am == bm)
  · go_wp2_with fail
    go_ret
    exact ⟨ret_bool (by rw [← HR.out]; simp [t0]), HB.out⟩
  · go_wp2_with fail
    refine H41.out.mono ?_
    rintro e w1 ⟨rfl, q1, rfl⟩
    cases g1
    · go_wp2_with fail
      go_ret
      exact ⟨ret_bool (by rw [← HR.out]; simp [t0]), ⟨HB.out.os, HB.out.tape, HB.out.output, HB.out.size, HB.out.block⟩⟩
    · cases t2 : (ar == br)
      · go_wp2_with fail
        go_ret
        exact ⟨ret_bool (by rw [← HR.out]; simp [t0, t2]), ⟨HB.out.os, HB.out.tape, HB.out.output, HB.out.size, HB.out.block⟩⟩
      · cases t3 : (ad == bd)
        · go_wp2_with fail
          go_ret
          exact ⟨ret_bool (by rw [← HR.out]; simp [t0, t2, t3]), ⟨HB.out.os, HB.out.tape, HB.out.output, HB.out.size, HB.out.block⟩⟩
        · go_wp2_with fail
          go_ret
          exact ⟨ret_bool (by rw [← HR.out]; simp [t0, t2, t3]), ⟨HB.out.os, HB.out.tape, HB.out.output, HB.out.size, HB.out.block⟩⟩

set_option maxRecDepth 100000 in
set_option maxHeartbeats 4000000 in
theorem item69 (a b : ItemR) (v v' : Value) (w : World) (ha : DatG w w.heap.size v a.val) (hb : DatG w w.heap.size v' b.val) :
    Calls Try.prog 69 #[.agg (itemL a.mark v a.ver a.dead).toArray, .agg (itemL b.mark v' b.ver b.dead).toArray] w fun e w' => e = .returned (.bool (itemEq a b)) ∧ Below w.heap.size w w' := by
  have h2 := below2 w (.cells (itemL a.mark v a.ver a.dead).toArray 87) (.cells (itemL b.mark v' b.ver b.dead).toArray 87)
  obtain ⟨av1, av2, A, c, rfl, av3⟩ := (ha.below h2 (Nat.le_refl _)).mono h2.size
  obtain ⟨bv1, bv2, A', c', rfl, bv3⟩ := (hb.below h2 (Nat.le_refl _)).mono h2.size
  clear ha hb
  obtain ⟨am, av, ar, ad⟩ := a
  obtain ⟨bm, bv, br, bd⟩ := b
  simp only [itemL] at *
  have q1 := av3.convert rfl
  have q2 := bv3.convert rfl
  have hse := str_beq av1 bv1
  obtain ⟨res, hres⟩ : ∃ res, itemEq ⟨am, av, ar, ad⟩ ⟨bm, bv, br, bd⟩ = res := ⟨_, rfl⟩
  rw [hres]
  simp only [itemEq] at hres
  rw [← hse] at hres
  clear hse av3 bv3 av1 bv1 av2 bv2
  generalize strOfNums av = sa at *
  generalize strOfNums bv = sb at *
  generalize av.length = n1 at *
  generalize bv.length = n2 at *
  clear av bv
  have HR := Lib.hid hres
  have HB := Lib.hid h2
  clear hres h2
  go_enter Try.func69, Try.ntmps69
  cases t0 : (am == bm)
  · go_wp2_with fail
    go_ret
    exact ⟨ret_bool (by rw [← HR.out]; simp [t0]), HB.out⟩
  · cases t1 : (sa.toList == sb.toList)
    · go_wp2_with fail
      go_ret
      exact ⟨ret_bool (by rw [← HR.out]; simp [t0, t1]), HB.out⟩
    · cases t2 : (ar == br)
      · go_wp2_with fail
        go_ret
        exact ⟨ret_bool (by rw [← HR.out]; simp [t0, t1, t2]), HB.out⟩
      · cases t3 : (ad == bd)
        · go_wp2_with fail
          go_ret
          exact ⟨ret_bool (by rw [← HR.out]; simp [t0, t1, t2, t3]), HB.out⟩
        · go_wp2_with fail
          go_ret
          exact ⟨ret_bool (by rw [← HR.out]; simp [t0, t1, t2, t3]), HB.out⟩
end Go.Proofs.Ytnmhmabifeapkaa.Ord
