/- The order of the commits, as a law of lists; walk of order.Commits. -/
import Derived.Test.YtnmhmabifeapkaaA6
namespace Go.Proofs.Ytnmhmabifeapkaa.Ord
open Go.RowKit Go.Sort Go.Lib
set_option linter.unusedVariables false

/-- the indices of the calls that are done, as numbers -/
def doneN (l : List CallC) : List Nat := (List.range l.length).filter fun i => match l[i]? with | some c => decide (0 ≤ c.d) | none => false
theorem doneL_eq (l : List CallC) : doneL l = (doneN l).map fun (n : Nat) => (n : Int) := rfl
theorem doneN_lt {l : List CallC} {x : Nat} (h : x ∈ doneN l) : x < l.length := by
  unfold doneN at h
  simp only [List.mem_filter, List.mem_range] at h
  exact h.1
theorem mem_doneN {l : List CallC} {n : Nat} : n ∈ doneN l ↔ n < l.length ∧ 0 ≤ (at_ l n).d := by
  rw [← mem_doneL_iff, doneL_eq, List.mem_map]
  constructor
  · exact fun h => ⟨n, h, rfl⟩
  · rintro ⟨a, h1, h2⟩
    obtain rfl : a = n := by omega
    exact h1
theorem doneN_len (l : List CallC) : (doneN l).length ≤ l.length := by
  have := List.length_filter_le (fun i => match l[i]? with | some c => decide (0 ≤ c.d) | none => false) (List.range l.length)
  rwa [List.length_range] at this

/-- the order of the commits -/
def IsCommits (l : List CallC) (ys : List Nat) : Prop := ys.Perm (doneN l) ∧ ys.Pairwise fun (x y : Nat) => (at_ l x).d < (at_ l y).d
open Classical in
noncomputable def commitsOf (l : List CallC) : Option (List Nat) := if h : ∃ ys, IsCommits l ys then some (Classical.choose h) else none

theorem sorted_unique {l : List CallC} : ∀ {xs ys : List Nat}, xs.Perm ys → xs.Pairwise (fun (x y : Nat) => (at_ l x).d ≤ (at_ l y).d) → ys.Pairwise (fun (x y : Nat) => (at_ l x).d < (at_ l y).d) → xs = ys
  | [], ys, hp, _, _ => by simpa using hp
  | x :: xs, [], hp, _, _ => by simp at hp
  | x :: xs, y :: ys, hp, h1, h2 => by
    rw [List.pairwise_cons] at h1 h2
    have e : x = y := by
      rcases List.mem_cons.1 (hp.mem_iff.1 (List.mem_cons_self (a := x))) with e | hm
      · exact e
      · have h3 := h2.1 x hm
        rcases List.mem_cons.1 (hp.mem_iff.2 (List.mem_cons_self (a := y))) with e | hm2
        · exact e.symm
        · have := h1.1 y hm2
          omega
    subst e
    rw [sorted_unique (List.Perm.cons_inv hp) h1.2 h2.2]

theorem commitsOf_eq {l : List CallC} {ys : List Nat} (h : IsCommits l ys) : commitsOf l = some ys := by
  unfold commitsOf
  rw [dif_pos ⟨ys, h⟩]
  have hc := Classical.choose_spec (⟨ys, h⟩ : ∃ ys, IsCommits l ys)
  exact congrArg some (sorted_unique (hc.1.trans h.1.symm) (hc.2.imp fun h => by omega) h.2)
theorem commitsOf_some {l : List CallC} {ys : List Nat} (h : commitsOf l = some ys) : IsCommits l ys := by
  unfold commitsOf at h
  split at h
  · rename_i h1
    cases h
    exact Classical.choose_spec h1
  · cases h
theorem commitsOf_none {l : List CallC} (h : commitsOf l = none) (ys : List Nat) : ¬ IsCommits l ys := fun h1 => by
  rw [commitsOf_eq h1] at h; cases h

/-- no two neighbours among the first ones are equal -/
def diffK (l : List CallC) (ys : List Nat) (k : Nat) : Prop := ∀ j, j + 1 < k → (at_ l (ys.getD j 0 : Nat)).d ≠ (at_ l (ys.getD (j + 1) 0 : Nat)).d
theorem diffK_succ {l : List CallC} {ys : List Nat} {k : Nat} (h : diffK l ys (k + 1)) (h1 : (at_ l (ys.getD (k + 1) 0 : Nat)).d ≠ (at_ l (ys.getD k 0 : Nat)).d) : diffK l ys (k + 2) := fun j hj => by
  by_cases e : j = k
  · subst e; exact fun h => h1 h.symm
  · exact h j (by omega)
theorem strict_of_diff {l : List CallC} {ys : List Nat} (h : ys.Pairwise fun (x y : Nat) => (at_ l x).d ≤ (at_ l y).d) (hd : diffK l ys ys.length) : ys.Pairwise fun (x y : Nat) => (at_ l x).d < (at_ l y).d := by
  rw [List.pairwise_iff_getElem] at h ⊢
  intro i j hi hj hij
  have hi1 : i + 1 < ys.length := by omega
  have h1 := h i (i + 1) hi hi1 (by omega)
  have h2 := hd i hi1
  simp only [List.getD, List.getElem?_eq_getElem hi, List.getElem?_eq_getElem hi1, Option.getD_some] at h2
  by_cases e : j = i + 1
  · subst e; omega
  · have h3 := h (i + 1) j hi1 hj (by omega)
    omega
theorem diff_of_strict {l : List CallC} {ys : List Nat} (h : ys.Pairwise fun (x y : Nat) => (at_ l x).d < (at_ l y).d) {j : Nat} (hj : j + 1 < ys.length) : (at_ l (ys.getD (j + 1) 0 : Nat)).d ≠ (at_ l (ys.getD j 0 : Nat)).d := by
  rw [List.pairwise_iff_getElem] at h
  have h1 := h j (j + 1) (by omega) hj (by omega)
  simp only [List.getD, List.getElem?_eq_getElem hj, List.getElem?_eq_getElem (show j < ys.length by omega), Option.getD_some]
  omega

theorem commits_dup {l : List CallC} {ys : List Nat} (hp : ys.Perm (doneN l)) (hs : ys.Pairwise fun (x y : Nat) => (at_ l x).d ≤ (at_ l y).d) {j : Nat} (hj : j + 1 < ys.length)
    (h : (at_ l (ys.getD (j + 1) 0 : Nat)).d = (at_ l (ys.getD j 0 : Nat)).d) : commitsOf l = none := by
  cases hc : commitsOf l with
  | none => rfl
  | some zs =>
    have hz := commitsOf_some hc
    have e := sorted_unique (hp.trans hz.1.symm) hs hz.2
    subst e
    exact absurd h (diff_of_strict hz.2 hj)
theorem commits_of_diff {l : List CallC} {ys : List Nat} (hp : ys.Perm (doneN l)) (hs : ys.Pairwise fun (x y : Nat) => (at_ l x).d ≤ (at_ l y).d) {k : Nat} (hk : ys.length ≤ k) (h : diffK l ys k) : commitsOf l = some ys :=
  commitsOf_eq ⟨hp, strict_of_diff hs fun j hj => h j (by omega)⟩

def CommitsPost (l : List CallC) (w : World) (e : Ending) (w' : World) : Prop :=
  (∀ ys, commitsOf l = some ys → ∃ v, e = .returned (.tuple #[v, .int .i64 0]) ∧ w'.ownsRow w.heap.size 3 1 v ys.length (ys.map fun (x : Nat) => Value.int .i64 (x : Int))) ∧
  (commitsOf l = none → e = .returned (.tuple #[.slice none 0 0, .int .i64 2])) ∧ RowKit.Below w.heap.size w w'

theorem ret2 {a b a' b' : Value} (h : a = a') (h2 : b = b') : Ending.returned (.tuple #[a, b]) = .returned (.tuple #[a', b']) := by rw [h, h2]

theorem sort_any (A : Option Addr) (N capA B base : Nat) (l : List CallC) (xs : List Nat) (v : Value) (w : World) (hN : l.length = N) (hN2 : N ≤ 5000) (hx : ∀ x ∈ xs, x < N)
    (hB : w.cell? ⟨B, 0, none⟩ = some (.slice A N capA)) (hBb : B < base) (hA : CallsAt w base A l) (hown : w.ownsRow base 3 1 v xs.length (xs.map fun (x : Nat) => Value.int .i64 (x : Int))) (hlen : xs.length ≤ 5000) :
    Calls Try.prog 48 #[v, .func (.func 49) #[] #[.pointer (some ⟨B, 0, none⟩)]] w fun e w' => e = .returned (.tuple #[]) ∧ ∃ ys : List Nat, ys.Perm xs ∧ ys.Pairwise (fun (x y : Nat) => (at_ l x).d ≤ (at_ l y).d) ∧
      w'.ownsRow base 3 1 v ys.length (ys.map fun (x : Nat) => Value.int .i64 (x : Int)) ∧ RowKit.Below base w w' := by
  rcases Nat.eq_zero_or_pos xs.length with h0 | h0
  · obtain ⟨p, c, hv⟩ := owns_len hown
    obtain rfl : xs = [] := List.eq_nil_of_length_eq_zero h0
    subst hv
    refine (Try.slices_SortFunc_none (α := Nat) p c _ w).mono ?_
    rintro e w' ⟨he, rfl⟩
    exact ⟨he, [], List.Perm.refl _, List.Pairwise.nil, hown, RowKit.Below.refl _ _⟩
  · obtain ⟨n, hn, _⟩ : ∃ n, n < l.length ∧ True := ⟨xs[0], by rw [hN]; exact hx _ (List.getElem_mem h0), trivial⟩
    obtain ⟨b, off, rfl, hbB, _⟩ := callsAt_at hA hn
    rcases hown.2 with ⟨h, h1⟩ | ⟨g, cap, cur, hv, hbase, hh, _⟩
    · omega
    · subst hv
      refine (sort_done b off N capA B g cap base l xs w hN hN2 hx h0 hB (by omega) (by omega) (fun n hn => ?_) hown hlen).mono ?_
      · obtain ⟨_, _, e1, _, h2⟩ := callsAt_at hA (n := n) (by omega)
        cases e1
        exact h2.d
      · rintro e w' ⟨he, ys, hp, hs, ho, hg⟩
        refine ⟨he, ys, hp, hs, ?_, (RowKit.Below.refl _ _).grown hg (Nat.le_trans hbase (Nat.le_of_lt (Array.getElem?_eq_some_iff.1 hh).1)) (fun k hk => by cases hk; exact hbase)⟩
        rw [hp.length_eq] at ho ⊢
        exact ho

theorem nd_cast (a b : Int) (h : a = b) : (a == b) = true := by simp [h]

set_option maxRecDepth 100000 in
set_option maxHeartbeats 1000000 in
theorem commits_any (A : Option Addr) (l : List CallC) (cap : Nat) (w : World) (hl : l.length ≤ 4096) (hA : CallsAt w w.heap.size A l) :
    Calls Try.prog 25 #[.slice A l.length cap] w fun e w' => CommitsPost l w e w' := by
  have hmf : ∀ (fn : Fn) (first cap : Array Value) (w : World), (Instr.makeFunc fn first cap).run Try.prog w = .ok (.func fn first cap) w := fun _ _ _ _ => rfl
  have hd1 := Lib.hid (done_any A l cap (w.alloc (.cells #[.slice A l.length cap] 55)) (by omega) ((hA.below (below1 w _) (Nat.le_refl _)).mono (by simp)))
  have hboxlt : (w.alloc (.cells #[.slice A l.length cap] 55)).cell? ⟨w.heap.size, 0, none⟩ = some (.slice A l.length cap) := World.cell?_alloc_new w _ _ _
  have hbw := below1 w (.cells #[.slice A l.length cap] 55)
  have hsz : (w.alloc (.cells #[.slice A l.length cap] 55)).heap.size = w.heap.size + 1 := by simp
  generalize hN : l.length = N at *
  have HN := Lib.hid hN
  have HB := Lib.hid hboxlt
  have HS := Lib.hid hsz
  have HBW := Lib.hid hbw
  clear hN hboxlt hsz hbw
  have hg : decide ((4096 : Int) < (N : Int)) = false := by simp; omega
  go_enter Try.func25, Try.ntmps25
  go_wp2_with (go_at_call 47; refine hd1.out.mono ?_; rintro e w1 ⟨v, rfl, hown, hb1⟩)
  have hbox1 : w1.cell? ⟨w.heap.size, 0, none⟩ = some (.slice A N cap) := (hb1.cell (p := ⟨w.heap.size, 0, none⟩) (by rw [HS.out]; exact Nat.lt_succ_self _)).trans HB.out
  have hA1 : CallsAt w1 (w.heap.size + 1) A l := (hA.below (HBW.out.trans (hb1.mono (by rw [HS.out]; omega))) (Nat.le_refl _)).mono (by omega)
  have hb01 : RowKit.Below w.heap.size w w1 := HBW.out.trans (hb1.mono (by rw [HS.out]; omega))
  rw [doneL_eq, List.map_map, List.length_map, HS.out] at hown
  have hlen : (doneN l).length ≤ 5000 := by
    have := doneN_len l
    rw [HN.out] at this
    omega
  refine (sort_any A N cap w.heap.size (w.heap.size + 1) l (doneN l) v w1 HN.out (by omega) (fun x hx => by rw [← HN.out]; exact doneN_lt hx) hbox1 (by omega) hA1 hown hlen).mono ?_
  rintro e w2 ⟨rfl, ys, hp, hs, hown2, hb2⟩
  clear hown
  obtain ⟨p, c, rfl⟩ := owns_len hown2
  have hbox2 : w2.cell? ⟨w.heap.size, 0, none⟩ = some (.slice A N cap) := (hb2.cell (p := ⟨w.heap.size, 0, none⟩) (by show w.heap.size < w.heap.size + 1; omega)).trans hbox1
  have hA2 := hA1.below hb2 (Nat.le_refl _)
  have hb02 : RowKit.Below w.heap.size w w2 := hb01.trans (hb2.mono (by omega))
  have hyl : ys.length ≤ 5000 := by rw [hp.length_eq]; exact hlen
  have hylt : ∀ y ∈ ys, y < N := fun y hy => by rw [← HN.out]; exact doneN_lt (hp.mem_iff.1 hy)
  have HP := Lib.hid hp
  have HSo := Lib.hid hs
  have HY := Lib.hid hylt
  clear hbox1 hA1 hp hs hylt hb1 hb2 hb01
  generalize hM : ys.length = M at *
  have HM := Lib.hid hM
  clear hM
  go_wp2
  go_loopw [5] (fun j wr => ∃ k : Nat, (k = 0 ∨ k + 1 ≤ M) ∧ j = .int .i64 (k + 1 : Nat) ∧ diffK l ys (k + 1) ∧ RowKit.Below w2.heap.size w2 wr) (fun j _ => M + 1 - (intOf j).toNat)
  case atStart => exact ⟨0, .inl rfl, rfl, fun j h => absurd h (by omega), RowKit.Below.refl _ _⟩
  case round =>
    obtain ⟨k, hk, rfl, hdk, hb⟩ := hrel
    have HD := Lib.hid hdk
    have HK := Lib.hid hk
    clear hdk hk
    have hcast : ((k + 1 : Nat) : Int) = (k : Int) + 1 := by omega
    rw [hcast]
    by_cases hlt : k + 1 < M
    · have hkl : k + 1 < ys.length := by rw [HM.out]; exact hlt
      rcases hown2.2 with ⟨h, h1⟩ | ⟨g, cap', cur, hv, hbase, hh, _⟩
      · omega
      cases hv
      have hgl : g < w2.heap.size := (Array.getElem?_eq_some_iff.1 hh).1
      have c0 : wr.cell? ⟨g, k, none⟩ = some (.int .i64 (ys[k] : Nat)) := by
        rw [hb.cell (p := ⟨g, k, none⟩) hgl, hown2.cellAt k (by omega)]; simp [show k < ys.length by omega]
      have c1 : wr.cell? ⟨g, k + 1, none⟩ = some (.int .i64 (ys[k + 1] : Nat)) := by
        rw [hb.cell (p := ⟨g, k + 1, none⟩) hgl, hown2.cellAt (k + 1) (by omega)]; simp [hkl]
      have n0 := HY.out _ (List.getElem_mem (show k < ys.length by omega))
      have n1 := HY.out _ (List.getElem_mem hkl)
      have g0 : ys.getD k 0 = ys[k] := by simp [List.getD, show k < ys.length by omega]
      have g1 : ys.getD (k + 1) 0 = ys[k + 1] := by simp [List.getD, hkl]
      generalize ys[k] = x0 at *
      generalize ys[k + 1] = x1 at *
      obtain ⟨b, off, rfl, hbB, hck0⟩ := callsAt_at (hA2.below hb (by omega)) (n := x0) (by rw [HN.out]; exact n0)
      obtain ⟨_, _, e1, _, hck1⟩ := callsAt_at (hA2.below hb (by omega)) (n := x1) (by rw [HN.out]; exact n1)
      cases e1
      have d0 := hck0.d
      have d1 := hck1.d
      have hbx : wr.cell? ⟨w.heap.size, 0, none⟩ = some (.slice (some ⟨b, off, none⟩) N cap) := (hb.cell (p := ⟨w.heap.size, 0, none⟩) (by show w.heap.size < _; omega)).trans hbox2
      have G0 := Lib.hid g0
      have G1 := Lib.hid g1
      clear hck0 hck1 g0 g1 hh
      by_cases hde : (at_ l x1).d = (at_ l x0).d
      · have he : ((at_ l x1).d == (at_ l x0).d) = true := by simp [hde]
        have HE := Lib.hid hde
        clear hde
        go_wp2_with fail
        go_quiet (fail)
        go_wp2
        go_ret2
        have hno := commits_dup HP.out HSo.out (j := k) (by rw [HM.out]; exact hlt) (by rw [G0.out, G1.out]; exact HE.out)
        exact ⟨fun ys' h => (by rw [hno] at h; cases h), fun _ => rfl, hb02.trans ((RowKit.Below.mono ⟨hb.os, hb.tape, hb.output, hb.size, hb.block⟩ hb02.size))⟩
      · have he : ((at_ l x1).d == (at_ l x0).d) = false := by simp [hde]
        have HE := Lib.hid hde
        clear hde
        go_wp2_with fail
        go_quiet (fail)
        go_wp2
        go_roundw
        case rel => exact ⟨k + 1, .inr (by omega), by go_num, diffK_succ HD.out (by rw [G0.out, G1.out]; exact HE.out), ⟨hb.os, hb.tape, hb.output, hb.size, hb.block⟩⟩
        case measure => simp [intOf]; omega
    · go_wp2
      go_ret2
      have hyes := commits_of_diff HP.out HSo.out (k := k + 1) (by rw [HM.out]; omega) HD.out
      refine ⟨fun ys' h => ?_, fun h => (by rw [hyes] at h; cases h), hb02.trans (hb.mono hb02.size)⟩
      rw [hyes] at h
      cases h
      refine ⟨_, rfl, ?_⟩
      rw [HM.out]
      exact owns_mono (owns_below hown2 hb) (by omega)
end Go.Proofs.Ytnmhmabifeapkaa.Ord
