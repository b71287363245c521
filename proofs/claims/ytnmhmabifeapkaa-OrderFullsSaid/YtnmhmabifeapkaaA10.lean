/- Walk of the reference's Done: the calls that are done. -/
import Derived.Test.YtnmhmabifeapkaaA8
import Derived.Test.YtnmhmabifeapkaaB6
namespace Go.Proofs.Ytnmhmabifeapkaa.Ord
open Go.RowKit
set_option linter.unusedVariables false

noncomputable def zero64 : Value := ((Try.prog.info? 64).bind (·.zero)).getD undef
theorem Try.info64 : (Try.prog.info? 64).map (fun i => (i.zero, i.size, i.bytes)) = some (some zero64, 23, 296) := by kernel_rfl
theorem zero64_size : zero64.cells.size = 23 := by kernel_rfl

/-- the calls that are done -/
def dcalls (l : List CallC) : List CallC := l.filter fun c => decide (0 ≤ c.d)
def allCells (l : List CallC) : List Value := l.flatMap CallC.cells

theorem allCells_append (l l' : List CallC) : allCells (l ++ l') = allCells l ++ allCells l' := by simp [allCells]
theorem allCells_length (l : List CallC) : (allCells l).length = l.length * 23 := by
  induction l with
  | nil => rfl
  | cons c l ih =>
    have e : allCells (c :: l) = c.cells ++ allCells l := by simp [allCells]
    rw [e, List.length_append, ih]
    simp [CallC.cells]; omega
theorem allCells_one (l : List CallC) : ∀ u ∈ allCells l, u.oneCell' = true := by
  intro u hu
  simp only [allCells, List.mem_flatMap] at hu
  obtain ⟨c, _, hc⟩ := hu
  exact c.oneCell u hc
theorem cells_len (c : CallC) : c.cells.length = 23 := rfl
theorem allCells_at : ∀ {l : List CallC} {i : Nat} {c : CallC}, l[i]? = some c → ∀ j v, c.cells[j]? = some v → (allCells l)[i * 23 + j]? = some v
  | [], i, c, h, _, _, _ => by simp at h
  | c' :: l, 0, c, h, j, v, hj => by
    simp at h; subst h
    have e : allCells (c' :: l) = c'.cells ++ allCells l := by simp [allCells]
    have hlt : j < c'.cells.length := (List.getElem?_eq_some_iff.1 hj).1
    rw [e, Nat.zero_mul, Nat.zero_add, List.getElem?_append_left hlt]
    exact hj
  | c' :: l, i + 1, c, h, j, v, hj => by
    have e : allCells (c' :: l) = c'.cells ++ allCells l := by simp [allCells]
    rw [e, List.getElem?_append_right (by rw [cells_len]; omega)]
    have := allCells_at (l := l) (i := i) (c := c) (by simpa using h) j v hj
    rw [cells_len]
    rw [show (i + 1) * 23 + j - 23 = i * 23 + j by omega]
    exact this

theorem CallsAt.of_owns {w : World} {base : Nat} {A : Option Addr} {n cap : Nat} {l : List CallC} (h : w.ownsRow base 64 23 (.slice A n cap) n (allCells l)) : CallsAt w w.heap.size A l := by
  intro i hi
  rcases h.2 with ⟨he, hn⟩ | ⟨g, cap', cur, he, hg, hh, r⟩
  · have := h.1; rw [allCells_length] at this; omega
  · cases he
    refine ⟨g, 0, rfl, (Array.getElem?_eq_some_iff.1 hh).1, fun c hc => ?_⟩
    intro j v hj
    have := h.cells (g := g) rfl (i * 23 + j) v (allCells_at hc j v hj)
    have e1 : ((⟨g, 0, none⟩ : Addr).add (i * 23 + j)) = (⟨g, 0 + i * 23, none⟩ : Addr).add j := by unfold Addr.add; split <;> split <;> simp_all
    rwa [e1] at this

theorem dcalls_take_succ {l : List CallC} {k : Nat} (hk : k < l.length) : dcalls (l.take (k + 1)) = dcalls (l.take k) ++ (if 0 ≤ (at_ l k).d then [at_ l k] else []) := by
  rw [List.take_add_one, List.getElem?_eq_getElem hk]
  have : at_ l k = l[k] := by simp [at_, List.getD, hk]
  rw [this]
  unfold dcalls
  rw [List.filter_append]
  congr 1
  simp [List.filter_cons]
theorem dcalls_len (l : List CallC) : (dcalls l).length ≤ l.length := List.length_filter_le _ _

def DonePost (l : List CallC) (w : World) (e : Ending) (w' : World) : Prop :=
  ∃ v, e = .returned v ∧ w'.ownsRow w.heap.size 64 23 v (dcalls l).length (allCells (dcalls l)) ∧ Below w.heap.size w w'

theorem done_next {l : List CallC} {k N : Nat} {w wr w2 : World} {v : Value} (hN : l.length = N) (hk : k < l.length) (hd : 0 ≤ (at_ l k).d) (h : w2.ownsRow w.heap.size 64 23 v ((dcalls (l.take k)).length + 1) (allCells (dcalls (l.take k)) ++ (at_ l k).cells.toArray.toList))
    (hb : Below w.heap.size w wr) (hb2 : Below w.heap.size wr w2) : w2.ownsRow w.heap.size 64 23 v (dcalls (l.take (k + 1))).length (allCells (dcalls (l.take (k + 1)))) := by
  rw [dcalls_take_succ hk, if_pos hd, allCells_append, List.length_append]
  simpa [allCells] using h

set_option maxRecDepth 100000 in
set_option maxHeartbeats 2000000 in
theorem refDone_any (A : Option Addr) (l : List CallC) (cap : Nat) (w : World) (hl : l.length ≤ 5000) (hA : CallsAt w w.heap.size A l) :
    Calls Try.prog 32 #[.slice A l.length cap] w fun e w' => DonePost l w e w' := by
  generalize hN : l.length = N at *
  have HN := Lib.hid hN
  clear hN
  go_enter Try.func32, Try.ntmps32
  go_wp2
  go_loopw [3, 4] (fun v j wr => ∃ k : Nat, k ≤ N ∧ j = .int .i64 k ∧ wr.ownsRow w.heap.size 64 23 v (dcalls (l.take k)).length (allCells (dcalls (l.take k))) ∧ Below w.heap.size w wr) (fun _ j _ => N - (intOf j).toNat)
  case atStart => exact ⟨0, Nat.zero_le _, rfl, World.ownsRow_nil _ _ _ _, Below.refl _ _⟩
  case round =>
    obtain ⟨k, hk, rfl, hown, hb⟩ := hrel
    by_cases hlt : k < N
    · have hkl : k < l.length := by rw [HN.out]; exact hlt
      have hdl : (dcalls (l.take k)).length ≤ k := Nat.le_trans (dcalls_len _) (List.length_take_le _ _)
      obtain ⟨b, off, rfl, hbB, hck⟩ := callsAt_at (hA.below hb (Nat.le_refl _)) hkl
      have c0 := hck.d
      have HCK := Lib.hid hck
      clear hck
      by_cases hd : (at_ l k).d < 0
      · go_wp2
        go_roundw
        case rel =>
          refine ⟨k + 1, by omega, by go_num, ?_, hb⟩
          rw [dcalls_take_succ hkl, if_neg (by omega), List.append_nil]
          exact hown
        case measure => simp [intOf]; omega
      · go_wp2_with (first
          | ((with_reducible refine wpList_load_agg (o := ⟨some 21, _, _, _, _, _⟩) rfl 64 _ rfl ⟨b, off + k * 23, none⟩ ?_ (at_ l k).cells _ HCK.out Try.underlying64 rfl (callSize _) ?_); (· rfl))
          | ((with_reducible refine wpList_slice_one (o := ⟨some 22, _, _, _, _, _⟩) rfl 55 _ rfl 64 zero64 23 296 (at_ l k).val (at_ l k).cells.toArray Try.underlying55 Try.info64 (by decide) (by decide) ?_ rfl rfl ?_); (· rfl))
          | ((with_reducible refine wpList_append_agg (o := ⟨some 23, _, _, _, _, _⟩) rfl _ _ 55 rfl w.heap.size 64 zero64 23 296 Try.underlying55 Try.info64 zero64_size (by decide) _ _ _ ?_ hown (at_ l k).cells.toArray wr.heap.size ?_ rfl rfl (CallC.allOne _) ?_ ?_ hb.size ?_); (· rfl); (· rfl); (· unfold maxLen; omega); (· omega); intro v1 w1 hown1 hb1))
        go_roundw
        case rel => exact ⟨k + 1, by omega, by go_num, done_next HN.out hkl (by omega) hown1 hb hb1, hb.trans hb1⟩
        case measure => simp [intOf]; omega
    · obtain rfl : k = N := by omega
      rw [List.take_of_length_le (by rw [HN.out]; exact Nat.le_refl _)] at hown
      go_wp2
      go_ret
      exact ⟨_, rfl, hown, hb⟩
end Go.Proofs.Ytnmhmabifeapkaa.Ord
