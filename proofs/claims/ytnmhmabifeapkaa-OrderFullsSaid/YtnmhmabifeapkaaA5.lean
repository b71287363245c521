/- Walk of the reference's Order: is a list an order of calls. -/
import Derived.Test.YtnmhmabifeapkaaA4
namespace Go.Proofs.Ytnmhmabifeapkaa.Ord
open Go.RowKit Go.Sort
set_option linter.unusedVariables false

theorem mem_doneL_iff {l : List CallC} {n : Nat} : (n : Int) ∈ doneL l ↔ n < l.length ∧ 0 ≤ (at_ l n).d := by
  unfold doneL doneK
  simp only [List.mem_map, List.mem_filter, List.mem_range]
  constructor
  · rintro ⟨i, ⟨h1, h2⟩, h3⟩
    have e : i = n := Int.ofNat.inj h3
    subst e
    refine ⟨h1, ?_⟩
    simp only [List.getElem?_eq_getElem h1, decide_eq_true_eq] at h2
    simpa [at_, List.getD, h1] using h2
  · rintro ⟨h1, h2⟩
    refine ⟨n, ⟨h1, ?_⟩, rfl⟩
    simp only [List.getElem?_eq_getElem h1, decide_eq_true_eq]
    simpa [at_, List.getD, h1] using h2

theorem doneL_nodup (l : List CallC) : (doneL l).Nodup := by
  unfold doneL doneK
  exact List.Pairwise.map _ (fun a b h e => h (Int.ofNat.inj e)) ((List.nodup_range).filter _)

/-- the first ones are different indices of calls that are done -/
def okK (l : List CallC) (xs : List Int) (k : Nat) : Prop := (xs.take k).Nodup ∧ ∀ x ∈ xs.take k, x ∈ doneL l
/-- the first calls that are done are in the list -/
def inK (l : List CallC) (xs : List Int) (k : Nat) : Prop := ∀ j : Nat, j < k → 0 ≤ (at_ l j).d → (j : Int) ∈ xs
def seenL (xs : List Int) (N k : Nat) : List Bool := (List.range N).map fun (j : Nat) => decide ((j : Int) ∈ xs.take k)

theorem take_succ_of {xs : List Int} {k : Nat} {x : Int} (h : xs[k]? = some x) : xs.take (k + 1) = xs.take k ++ [x] := by
  rw [List.take_add_one, h]; rfl
theorem okK_zero (l : List CallC) (xs : List Int) : okK l xs 0 := by simp [okK]
theorem okK_succ {l : List CallC} {xs : List Int} {k : Nat} {x : Int} (h : okK l xs k) (hx : xs[k]? = some x) (h1 : x ∉ xs.take k) (h2 : x ∈ doneL l) : okK l xs (k + 1) := by
  unfold okK at h ⊢
  rw [take_succ_of hx]
  refine ⟨?_, ?_⟩
  · rw [List.nodup_append]
    refine ⟨h.1, by simp, ?_⟩
    intro a ha b hb
    simp only [List.mem_singleton] at hb
    subst hb
    rintro rfl
    exact h1 ha
  · intro y hy
    rcases List.mem_append.1 hy with hy | hy
    · exact h.2 y hy
    · simp only [List.mem_singleton] at hy; subst hy; exact h2
theorem isOrd_false_of {l : List CallC} {xs : List Int} (h : ∀ p : xs.Perm (doneL l), False) : isOrd l xs = false := by
  unfold isOrd; rw [decide_eq_false_iff_not]; exact h
theorem isOrd_bad {l : List CallC} {xs : List Int} {k : Nat} {x : Int} (hx : xs[k]? = some x) (h : x ∉ doneL l) : isOrd l xs = false :=
  isOrd_false_of fun p => h (p.mem_iff.1 (List.mem_of_getElem? hx))
theorem isOrd_dup {l : List CallC} {xs : List Int} {k : Nat} {x : Int} (hx : xs[k]? = some x) (h : x ∈ xs.take k) : isOrd l xs = false :=
  isOrd_false_of fun p => by
    have hn : (xs.take (k + 1)).Nodup := (p.nodup_iff.2 (doneL_nodup l)).sublist (List.take_sublist _ _)
    rw [take_succ_of hx, List.nodup_append] at hn
    exact hn.2.2 x h x (by simp) rfl
theorem isOrd_miss {l : List CallC} {xs : List Int} {k : Nat} (hk : k < l.length) (hd : 0 ≤ (at_ l k).d) (h : (k : Int) ∉ xs) : isOrd l xs = false :=
  isOrd_false_of fun p => h (p.mem_iff.2 (mem_doneL_iff.2 ⟨hk, hd⟩))
theorem isOrd_good {l : List CallC} {xs : List Int} (h : okK l xs xs.length) (h2 : inK l xs l.length) : isOrd l xs = true := by
  unfold isOrd
  rw [decide_eq_true_iff]
  unfold okK at h
  rw [List.take_length] at h
  refine (List.perm_ext_iff_of_nodup h.1 (doneL_nodup l)).2 fun a => ⟨h.2 a, fun ha => ?_⟩
  obtain ⟨h0, h1⟩ := mem_doneL ha
  obtain ⟨n, rfl⟩ := Int.eq_ofNat_of_zero_le h0
  exact h2 n (mem_doneL_iff.1 ha).1 (mem_doneL_iff.1 ha).2
theorem seenL_length (xs : List Int) (N k : Nat) : (seenL xs N k).length = N := by simp [seenL]
theorem seenL_at (xs : List Int) {N k n : Nat} (hn : n < N) : (seenL xs N k)[n]? = some (decide ((n : Int) ∈ xs.take k)) := by simp [seenL, hn]
theorem seenL_zero (xs : List Int) (N : Nat) : seenL xs N 0 = List.replicate N false := by
  apply List.ext_getElem?
  intro i
  by_cases h : i < N
  · simp [seenL, h]
  · rw [List.getElem?_eq_none (by rw [seenL_length]; omega), List.getElem?_eq_none (by simp; omega)]
theorem seenL_succ {xs : List Int} {N k n : Nat} (hx : xs[k]? = some (n : Int)) (hn : n < N) : seenL xs N (k + 1) = (seenL xs N k).set n true := by
  apply List.ext_getElem?
  intro i
  rw [List.getElem?_set]
  by_cases h : i < N
  · rw [seenL_at _ h, seenL_at _ h, take_succ_of hx]
    by_cases e : n = i
    · subst e; simp [seenL_length, hn]
    · have : ¬ (i : Int) = n := by omega
      simp [e, this]
  · rw [List.getElem?_eq_none (by rw [seenL_length]; omega), List.getElem?_eq_none (by rw [seenL_length]; omega)]
    by_cases e : n = i
    · omega
    · simp [e]
theorem inK_succ {l : List CallC} {xs : List Int} {k : Nat} (h : inK l xs k) (h1 : 0 ≤ (at_ l k).d → (k : Int) ∈ xs) : inK l xs (k + 1) := fun j hj hd => by
  by_cases e : j = k
  · subst e; exact h1 hd
  · exact h j (by omega) hd

theorem CellsAt.d {w : World} {b o : Nat} {c : CallC} (h : CellsAt w ⟨b, o, none⟩ c.cells) : w.cell? ⟨b, o + 20, none⟩ = some (.int .i64 c.d) := h 20 _ rfl

theorem Try.info4 : (Try.prog.info? 4).map (fun i => (i.zero, i.size, i.bytes)) = some (some (.bool false), 1, 1) := by kernel_rfl

set_option maxRecDepth 100000 in
set_option maxHeartbeats 2000000 in
theorem refOrder_any (A X : Option Addr) (l : List CallC) (xs : List Int) (cap capx : Nat) (w : World) (hl : l.length ≤ 5000) (hx : xs.length ≤ 5000) (hA : CallsAt w w.heap.size A l) (hX : IntsAt w w.heap.size X xs) :
    Calls Try.prog 51 #[.slice A l.length cap, .slice X xs.length capx] w fun e w' => e = .returned (.bool (isOrd l xs)) ∧ Below w.heap.size w w' := by
  obtain ⟨i0, hi, hz0, hz1, hz2⟩ := info_parts Try.info4
  generalize hN : l.length = N at *
  have HN := Lib.hid hN
  generalize hM : xs.length = M at *
  have HM := Lib.hid hM
  clear hN hM
  go_enter Try.func51, Try.ntmps51
  go_wp2_with (first
    | (at_make; refine wpList_make_full _ rfl _ _ 121 rfl w.heap.size 4 i0 (.bool false) 1 Try.underlying121 hi hz0 hz1 _ _ _ _ N rfl rfl rfl rfl ?c1 ?c2 ?c3 ?c4))
  case c1 => rw [hz2]; omega
  case c2 => unfold maxLen; omega
  case c3 => exact Nat.le_refl _
  case c4 =>
    intro w1 hown1 hg1
    have hb1 : Below w.heap.size w w1 := (Below.refl _ _).grown hg1 (Nat.le_refl _) (by simp)
    rw [toList_madeCells_one, show List.replicate N (Value.bool false) = (seenL xs N 0).map Value.bool by rw [seenL_zero]; simp] at hown1
    clear hg1
    have hgw : w.heap.size < w1.heap.size := (hown1.lt _ rfl).2
    go_wp2
    go_loopw [6] (fun j wr => ∃ k : Nat, k ≤ M ∧ j = .int .i64 k ∧ okK l xs k ∧ wr.ownsRow w.heap.size 4 1 (.slice (some ⟨w.heap.size, 0, none⟩) N N) N ((seenL xs N k).map Value.bool) ∧ Below w.heap.size w wr) (fun j _ => M - (intOf j).toNat)
    case atStart => exact ⟨0, Nat.zero_le _, rfl, okK_zero _ _, hown1, hb1⟩
    case round =>
      obtain ⟨k, hk, rfl, hok, hown, hb⟩ := hrel
      have HK := Lib.hid hok
      clear hok
      by_cases hlt : k < M
      · obtain ⟨x, hxk⟩ : ∃ x, xs[k]? = some x := ⟨xs[k]'(by rw [HM.out]; exact hlt), List.getElem?_eq_getElem _⟩
        obtain ⟨bx, ox, rfl, hbX, hxc⟩ := (hX.below hb (Nat.le_refl _)) k (by rw [HM.out]; omega)
        have c1 := hxc _ hxk
        have KX := Lib.hid hxk
        clear hxc hxk
        by_cases h0 : x < 0
        · go_wp2
          go_ret
          refine ⟨ret_bool (isOrd_bad KX.out fun hm => ?_).symm, hb⟩
          have := (mem_doneL hm).1
          omega
        · obtain ⟨n, rfl⟩ := Int.eq_ofNat_of_zero_le (show 0 ≤ x by omega)
          clear h0
          by_cases h1 : (N : Int) ≤ (n : Int)
          · go_wp2
            go_ret
            refine ⟨ret_bool (isOrd_bad KX.out fun hm => ?_).symm, hb⟩
            have := (mem_doneL hm).2
            rw [HN.out] at this
            omega
          · have hn : n < N := by omega
            have c2 : wr.cell? ⟨w.heap.size, n, none⟩ = some (.bool (decide ((n : Int) ∈ xs.take k))) := by
              rw [hown.cellAt n (by omega), List.getElem?_map, seenL_at xs hn]; rfl
            have f2 := hown.frozenAt n
            obtain ⟨b, off, rfl, hbB, hck⟩ := callsAt_at (hA.below hb (Nat.le_refl _)) (n := n) (by rw [HN.out]; exact hn)
            have c3 := hck.d
            clear hck
            by_cases h2 : (n : Int) ∈ xs.take k
            · have h2' : decide ((n : Int) ∈ xs.take k) = true := decide_eq_true h2
              rw [h2'] at c2
              have H2 := Lib.hid h2
              clear h2 h2'
              go_wp2
              go_ret
              exact ⟨ret_bool (isOrd_dup KX.out H2.out).symm, hb⟩
            · have h2' : decide ((n : Int) ∈ xs.take k) = false := decide_eq_false h2
              rw [h2'] at c2
              have H2 := Lib.hid h2
              clear h2 h2'
              by_cases h3 : (at_ l n).d < 0
              · go_wp2
                go_ret
                refine ⟨ret_bool (isOrd_bad KX.out fun hm => ?_).symm, hb⟩
                have := (mem_doneL_iff.1 hm).2
                omega
              · have hst := (hown.stored n (.bool true)).1
                have hb2 := hb.setCell (p := ⟨w.heap.size, n, none⟩) (Nat.le_refl _) (.bool true)
                rw [show ((seenL xs N k).map Value.bool).set n (.bool true) = (seenL xs N (k + 1)).map Value.bool by rw [seenL_succ KX.out hn, List.map_set]] at hst
                have HS := Lib.hid hst
                have HB2 := Lib.hid hb2
                clear hst hb2
                go_wp2
                go_roundw
                case rel => exact ⟨k + 1, by omega, by go_num, okK_succ HK.out KX.out H2.out (mem_doneL_iff.2 ⟨by rw [HN.out]; exact hn, by omega⟩), HS.out, HB2.out⟩
                case measure => simp [intOf]; omega
      · obtain rfl : k = M := by omega
        go_wp2
        obtain ⟨wo, rfl⟩ : ∃ wo : World, wo = wr := ⟨_, rfl⟩
        go_loop [8] (fun j => ∃ m : Nat, m ≤ N ∧ j = .int .i64 m ∧ inK l xs m) (fun j => N - (intOf j).toNat)
        case atStart => exact ⟨0, Nat.zero_le _, rfl, fun j h => absurd h (by omega)⟩
        case round =>
          obtain ⟨m, hm, rfl, hin⟩ := hrel
          have HI := Lib.hid hin
          clear hin
          by_cases hlt2 : m < N
          · have c2 : wo.cell? ⟨w.heap.size, m, none⟩ = some (.bool (decide ((m : Int) ∈ xs))) := by
              rw [hown.cellAt m (by omega), List.getElem?_map, seenL_at xs hlt2, ← HM.out, List.take_length]; rfl
            obtain ⟨b, off, rfl, hbB, hck⟩ := callsAt_at (hA.below hb (Nat.le_refl _)) (n := m) (by rw [HN.out]; exact hlt2)
            have c3 := hck.d
            clear hck
            by_cases h3 : (at_ l m).d < 0
            · go_wp2
              go_round
              case rel => exact ⟨m + 1, by omega, by go_num, inK_succ HI.out (fun h => absurd h (by omega))⟩
              case measure => simp [intOf]; omega
            · by_cases h2 : (m : Int) ∈ xs
              · have h2' : decide ((m : Int) ∈ xs) = true := decide_eq_true h2
                rw [h2'] at c2
                have H2 := Lib.hid h2
                clear h2 h2'
                go_wp2
                go_round
                case rel => exact ⟨m + 1, by omega, by go_num, inK_succ HI.out (fun _ => H2.out)⟩
                case measure => simp [intOf]; omega
              · have h2' : decide ((m : Int) ∈ xs) = false := decide_eq_false h2
                rw [h2'] at c2
                have H2 := Lib.hid h2
                clear h2 h2'
                go_wp2
                go_ret
                exact ⟨ret_bool (isOrd_miss (by rw [HN.out]; exact hlt2) (by omega) H2.out).symm, hb⟩
          · obtain rfl : m = N := by omega
            go_wp2
            go_ret
            exact ⟨ret_bool (isOrd_good (by rw [HM.out]; exact HK.out) (by rw [HN.out]; exact HI.out)).symm, hb⟩
end Go.Proofs.Ytnmhmabifeapkaa.Ord
