/- Walk of the script reader's data. -/
import Derived.Test.YtnmhmabifeapkaaR13
namespace Go.Proofs.Ytnmhmabifeapkaa.Ord
open Go.RowKit
set_option linter.unusedVariables false

theorem Kept.own {Q : Nat} {a b : World} (h : Kept [Q] a b) {base : Nat} {e : TypeId} {size : Nat} {v : Value} {n : Nat} {xs : List Value} (hown : a.ownsRow base e size v n xs) (hQ : Q < base) : b.ownsRow base e size v n xs := by
  refine World.ownsRow.kept hown (row := some Q) ⟨h.os, h.tape, h.output, h.size, fun k hk hne => h.block k hk fun hm => hne (by simp at hm; rw [hm])⟩ ?_
  cases hv : v.ownBlock with
  | none => exact .inl rfl
  | some k =>
    right
    intro e2
    cases e2
    have := (hown.lt Q hv).1
    omega

theorem Kept.then_below {L : List Nat} {a b c : World} (h : Kept L a b) (hb : Below a.heap.size b c) : Kept L a c :=
  ⟨hb.os.trans h.os, hb.tape.trans h.tape, hb.output.trans h.output, Nat.le_trans h.size hb.size, fun k hk hn => (hb.block k hk).trans (h.block k hk hn)⟩

/-- the first n bytes, missing ones 0 -/
def takeZ (n : Nat) (xs : List Int) : List Int := (List.range n).map fun i => xs.getD i 0
theorem takeZ_succ (n : Nat) (xs : List Int) : takeZ (n + 1) xs = takeZ n xs ++ [xs.getD n 0] := by simp [takeZ, List.range_succ]
theorem takeZ_len (n : Nat) (xs : List Int) : (takeZ n xs).length = n := by simp [takeZ]
def dataL (xs : List Int) : List Int := takeZ (xs.headD 0).toNat xs.tail
theorem drop_head (ys : List Int) (i : Nat) : (ys.drop i).headD 0 = ys.getD i 0 := by
  simp [List.getD, List.headD_eq_head?_getD, List.head?_drop]
theorem drop_tail (ys : List Int) (i : Nat) : (ys.drop i).tail = ys.drop (i + 1) := by simp [List.tail_drop]

set_option maxRecDepth 100000 in
set_option maxHeartbeats 1000000 in
theorem data_any (B : Nat) (N : List Nat) (Q : Nat) (xs : List Int) (w : World) (hB : B ≤ w.heap.size) (h : ReadAt w B N Q xs) :
    Calls Try.prog 58 #[.pointer (some ⟨Q, 0, none⟩)] w fun e w' => ∃ v, e = .returned v ∧ Own8 w' w.heap.size v (dataL xs) ∧ ReadAt w' B N Q (xs.tail.drop (xs.headD 0).toNat) ∧ Kept [Q] w w' := by
  have hr := h.2.2.1
  have hQl : Q < w.heap.size := Nat.lt_of_lt_of_le h.2.1 hB
  have HN := Lib.hid (next_any B N Q xs w h)
  have hx0 : 0 ≤ xs.headD 0 ∧ xs.headD 0 < 256 := by
    cases xs with
    | nil => simp
    | cons x ys => exact hr x (by simp)
  obtain ⟨n, hn⟩ : ∃ n : Nat, xs.headD 0 = (n : Int) := ⟨(xs.headD 0).toNat, by omega⟩
  have hn256 : n < 256 := by omega
  unfold dataL
  rw [hn] at HN ⊢
  simp only [Int.toNat_natCast]
  clear h hr hx0 hn
  generalize xs.tail = ys at *
  go_enter Try.func58, Try.ntmps58
  go_wp2_with fail
  refine HN.out.mono ?_
  rintro e w1 ⟨rfl, hR1, hk1⟩
  have HR1 := Lib.hid hR1
  clear hR1
  go_wp2_with fail
  go_loopw [3, 6] (fun v j wr => ∃ i : Nat, i ≤ n ∧ j = .int .i64 i ∧ Own8 wr w.heap.size v (takeZ i ys) ∧ ReadAt wr B N Q (ys.drop i) ∧ Kept [Q] w wr) (fun _ j _ => n - (intOf j).toNat)
  case atStart => exact ⟨0, Nat.zero_le _, rfl, Own8.nil _ _, by simpa using HR1.out, hk1⟩
  case round =>
    obtain ⟨i, hi, rfl, hown, hR, hk⟩ := hrel
    by_cases hlt : i < n
    · have HX := Lib.hid (next_any B N Q (ys.drop i) wr hR)
      have hyb : 0 ≤ ys.getD i 0 ∧ ys.getD i 0 < 256 := by
        by_cases hil : i < ys.length
        · have := hR.2.2.1 (ys.getD i 0) (by rw [List.mem_iff_getElem?]; exact ⟨0, by simp [List.getD, hil]⟩)
          exact this
        · simp [List.getD, List.getElem?_eq_none (Nat.le_of_not_lt hil)]
      rw [drop_head, drop_tail] at HX
      obtain ⟨y, hy⟩ : ∃ y, ys.getD i 0 = y := ⟨_, rfl⟩
      have HY := Lib.hid hy
      rw [hy] at HX hyb
      clear hy
      go_wp2_with fail
      refine HX.out.mono ?_
      rintro e w2 ⟨rfl, hR2, hk2⟩
      have hown2 := Lib.hid (hk2.own hown.raw hQl)
      have hb2 : w.heap.size ≤ w2.heap.size := Nat.le_trans hk.size hk2.size
      have hl2 := takeZ_len i ys
      go_wp2_with ((with_reducible refine wpList_append_one (o := ⟨some 13, _, _, _, _, _⟩) rfl _ _ 22 rfl w.heap.size 5 (.int .u8 0) 1 Try.underlying22 Try.info5 rfl _ (takeZ i ys).length _ ?_ hown2.out _ w2.heap.size ?_ ?_ ?_ ?_ ?_ hb2 ?_); (· rfl); (· rfl); (· rfl); (· rfl); (· unfold maxLen; omega); (· omega); intro v3 w3 hown3 hb3)
      refine ⟨⟨i + 1, by omega, by simp, ?_, hR2.below hb3 hB, (hk.trans hk2).then_below hb3⟩, by simp [intOf]; omega⟩
      rw [takeZ_succ, HY.out]
      exact Own8.snoc hown3
    · obtain rfl : i = n := by omega
      go_wp2_with fail
      go_ret
      exact ⟨_, rfl, hown, hR, hk⟩
end Go.Proofs.Ytnmhmabifeapkaa.Ord
