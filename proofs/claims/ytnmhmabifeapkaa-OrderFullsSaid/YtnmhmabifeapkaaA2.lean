/- Walk of order.done. -/
import Derived.Test.YtnmhmabifeapkaaB2
namespace Go.Proofs.Ytnmhmabifeapkaa.Ord
open Go.RowKit



def doneK (l : List CallC) (k : Nat) : List Int := ((List.range k).filter fun i => match l[i]? with | some c => decide (0 ≤ c.d) | none => false).map Int.ofNat

/-- the indices of the calls that are done -/
def doneL (l : List CallC) : List Int := doneK l l.length
theorem doneK_all (l : List CallC) : doneK l l.length = doneL l := rfl
theorem doneK_le (l : List CallC) (k : Nat) : (doneK l k).length ≤ k := by
  unfold doneK; rw [List.length_map]; exact Nat.le_trans (List.length_filter_le _ _) (by simp)
theorem doneK_yes (l : List CallC) (k : Nat) (c : CallC) (h : l[k]? = some c) (hd : 0 ≤ c.d) : doneK l (k + 1) = doneK l k ++ [(k : Int)] := by
  simp [doneK, List.range_succ, List.filter_append, h, hd]
theorem doneK_no (l : List CallC) (k : Nat) (c : CallC) (h : l[k]? = some c) (hd : c.d < 0) : doneK l (k + 1) = doneK l k := by
  have : ¬ 0 ≤ c.d := by omega
  simp [doneK, List.range_succ, List.filter_append, h, this]

set_option maxRecDepth 100000 in
set_option maxHeartbeats 400000 in
theorem done_any (A : Option Addr) (l : List CallC) (cap : Nat) (w : World) (hl : l.length ≤ 5000) (hA : CallsAt w w.heap.size A l) :
    Calls Try.prog 47 #[.slice A l.length cap] w fun e w' => ∃ v, e = .returned v ∧ w'.ownsRow w.heap.size 3 1 v (doneL l).length ((doneL l).map (Value.int .i64)) ∧ Below w.heap.size w w' := by
  have hn : l.length = l.length := rfl
  generalize hN : l.length = N at hl hn
  have HN := Lib.hid hN
  clear hN hn
  go_enter Try.func47, Try.ntmps47
  go_wp2
  go_loopw [3, 8] (fun v i wr => ∃ k : Nat, k ≤ N ∧ i = .int .i64 k ∧ wr.ownsRow w.heap.size 3 1 v (doneK l k).length ((doneK l k).map (Value.int .i64)) ∧ Below w.heap.size w wr)
    (fun _ i _ => N - (intOf i).toNat)
  case atStart => exact ⟨0, Nat.zero_le _, rfl, World.ownsRow_nil _ _ _ _, Below.refl _ _⟩
  case round =>
    obtain ⟨k, hk, rfl, hown, hnx⟩ := hrel
    by_cases hlt : k < N
    · obtain ⟨b, off, hAe, hbB, hcs⟩ := (hA.below hnx (Nat.le_refl _)) k (by rw [HN.out]; exact hlt)
      have hkl : k < l.length := by rw [HN.out]; exact hlt
      obtain ⟨c, hc⟩ : ∃ c, l[k]? = some c := ⟨l[k], List.getElem?_eq_getElem hkl⟩
      have hcc := Lib.hid (hcs c hc)
      have HC := Lib.hid hc
      clear hcs hc
      subst hAe
      have hdl := doneK_le l k
      have hsz := hnx.size
      go_wp2_with (first
        | ((with_reducible refine wpList_load_agg (o := ⟨some 12, _, _, _, _, _⟩) rfl 64 _ rfl ⟨b, off + k * 23, none⟩ ?_ c.cells _ hcc.out Try.underlying64 rfl (callSize c) ?_); (· rfl))
        | ((with_reducible refine wpList_store_new (o := ⟨none, _, _, _, _, _⟩) rfl 64 (.tmp 5) (.tmp 12) rfl _ c.cells.toArray 64 wr.heap.size ?_ ?_ ?_ (callSizeA c) ?_ c.allOne ?_); (· rfl); (· rfl); (· rfl); (· rfl); unfold CallC.cells)
        | ((with_reducible refine wpList_append_one (o := ⟨some 19, _, _, _, _, _⟩) rfl _ _ 56 rfl w.heap.size 3 (.int .i64 0) 8 Try.underlying56 Try.info3 rfl u3 _ _ ?_ (hown.alloc _) _ (wr.heap.size + 1) ?_ ?_ ?_ ?_ ?_ ?_ ?_); (· rfl); (· rfl); (· simp); (· rfl); (· unfold maxLen; omega); (· omega); (· simp; omega); intro v1 w1 hown1 hb1))
      · have hd : 0 ≤ c.d := by assumption
        go_roundw
        case rel => exact ⟨k + 1, by omega, by go_num, by rw [doneK_yes l k c HC.out hd]; simpa using hown1, (hnx.alloc hsz _).trans hb1⟩
        case measure => simp [intOf]; omega
      · have hd : c.d < 0 := by assumption
        go_roundw
        case rel => exact ⟨k + 1, by omega, by go_num, by rw [doneK_no l k c HC.out hd]; exact hown.alloc _, hnx.alloc hsz _⟩
        case measure => simp [intOf]; omega
    · obtain rfl : k = N := by omega
      go_wp2
      go_ret
      refine ⟨_, rfl, ?_, hnx⟩
      rw [← doneK_all l, HN.out]; exact hown
end Go.Proofs.Ytnmhmabifeapkaa.Ord
