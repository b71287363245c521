/- Walks of varint.PutBytes, varint.New; frames by a list of blocks. -/
import Derived.Test.YtnmhmabifeapkaaR1
namespace Go.Proofs.Ytnmhmabifeapkaa.Ord
open Go.RowKit
set_option linter.unusedVariables false

set_option maxRecDepth 100000 in
theorem putBytes_any (A A2 : Option Addr) (k c k2 c2 : Nat) (xs ys : List Int) (w : World) (hk : xs.length = k) (hk2 : ys.length = k2) (hl : k ≤ 1000000) (hl2 : k2 ≤ 1000000) (hA : Byt w w.heap.size A c xs) (hA2 : Byt w w.heap.size A2 c2 ys) :
    Calls Try.prog 142 #[.slice A k c, .slice A2 k2 c2] w fun e w' => ∃ v, e = .returned v ∧ Own8 w' w.heap.size v (xs ++ putV k2 ++ ys) ∧ Below w.heap.size w w' := by
  have HP := Lib.hid (put_any A k c xs k2 w hk (by omega) (by omega) hA)
  have hpl := putV_len10 (n := k2) (by omega)
  have hxl : (xs ++ putV k2).length ≤ 1000010 := by rw [List.length_append]; omega
  have HK2 := Lib.hid hk2
  clear hk2
  have HA2 := Lib.hid hA2
  clear hA2
  go_enter Try.func142, Try.ntmps142
  go_wp2_with fail
  refine HP.out.mono ?_
  rintro e w1 ⟨v1, rfl, hown1, hb1⟩
  have hown := Lib.hid hown1.raw
  have hsrc := Lib.hid (HA2.out.below hb1 (Nat.le_refl _)).src
  go_wp2_with ((with_reducible refine wpList_append_src (o := ⟨some 11, _, _, _, _, _⟩) rfl _ _ 22 rfl w.heap.size 5 (.int .u8 0) 1 1 Try.underlying22 Try.info5 rfl (by decide) _ (xs ++ putV k2).length _ ?_ hown.out A2 k2 c2 (ys.map (Value.int .u8)) ?_ ?_ ?_ (bytes_one _) ?_ ?_ hb1.size ?_); (· rfl); (· rfl); (· simp [HK2.out]); (· have := hsrc.out; rw [HK2.out] at this; exact this); (· unfold maxLen; omega); (· omega); intro v2 w2 hown2 _ hb2)
  go_ret
  exact ⟨_, rfl, Own8.app HK2.out.symm hown2, hb1.trans hb2⟩
end Go.Proofs.Ytnmhmabifeapkaa.Ord
