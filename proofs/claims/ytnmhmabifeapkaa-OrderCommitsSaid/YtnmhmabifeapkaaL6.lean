/- The walk of the law OrderCommits. -/
import Derived.Test.YtnmhmabifeapkaaA17
import Derived.Test.YtnmhmabifeapkaaW2
namespace Go.Proofs.Ytnmhmabifeapkaa.Ord
open Go.RowKit
set_option linter.unusedVariables false

noncomputable def comL (l : List CallC) : List Int := match commitsOf l with | some ys => ys.map fun (x : Nat) => (x : Int) | none => []
noncomputable def comE (l : List CallC) : Int := match commitsOf l with | some _ => 0 | none => 2
theorem comL_len (l : List CallC) : (comL l).length ≤ l.length := by
  unfold comL
  cases h : commitsOf l with
  | none => simp
  | some ys =>
    have := (commitsOf_some h).1.length_eq
    have h2 := doneN_len l
    simp only [List.length_map]
    omega
def ComR (l : List CallC) (w : World) (e : Ending) (w' : World) : Prop :=
  ∃ A c, e = .returned (.tuple #[.slice A (comL l).length c, .int .i64 (comE l)]) ∧ IntsAt w' w'.heap.size A (comL l) ∧ Below w.heap.size w w'
theorem comR {l : List CallC} {w w' : World} {e : Ending} (h : CommitsPost l w e w') : ComR l w e w' := by
  unfold ComR comL comE
  cases hc : commitsOf l with
  | none => exact ⟨none, 0, h.2.1 hc, fun i hi => absurd hi (by simp), h.2.2⟩
  | some ys =>
    obtain ⟨v, he, hown⟩ := h.1 ys hc
    obtain ⟨A, c, rfl⟩ := owns_len hown
    refine ⟨A, c, by rw [he]; simp, ?_, h.2.2⟩
    refine IntsAt.of_owns (base := w.heap.size) (e := 3) (n := ys.length) (cap := c) ?_
    simpa [List.map_map, Function.comp_def] using hown

theorem ints_self (X Y : Option Addr) (zs : List Int) (cx cy : Nat) (w : World) (hl : zs.length ≤ 5000) (hX : IntsAt w w.heap.size X zs) (hY : IntsAt w w.heap.size Y zs) :
    Calls Try.prog 27 #[.slice X zs.length cx, .slice Y zs.length cy] w fun e w' => e = .returned (.bool true) ∧ Below w.heap.size w w' :=
  (ints_any X Y zs zs cx cy w hl hl hX hY).mono fun e w' h => ⟨by simpa using h.1, h.2⟩
set_option maxRecDepth 100000 in
theorem law6_many (A : Option Addr) (n cap : Nat) (w : World) (h : 100 < n) : Law 6 #[.slice A n cap] w := by
  unfold Law
  have hg : decide ((100 : Int) < (n : Int)) = true := by simp; omega
  go_enter Try.func6, Try.ntmps6
  go_wp2_with fail
  refine (known_any _).mono ?_
  rintro e w1 ⟨rfl, hb1⟩
  go_wp2_with fail
  go_ret
  exact ⟨rfl, hb1⟩

set_option maxRecDepth 100000 in
set_option maxHeartbeats 1000000 in
theorem law6_few (A : Option Addr) (l : List CallC) (cap : Nat) (w : World) (hn : l.length ≤ 100) (hA : CallsAt w w.heap.size A l) : Law 6 #[.slice A l.length cap] w := by
  unfold Law
  have HC := Lib.hid ((commits_any A l cap w (by omega) hA).mono fun e w' h => comR h)
  have HR := Lib.hid fun w1 (hb : Below w.heap.size w w1) => (refCommits_any A l cap w1 (by omega) ((hA.below hb (Nat.le_refl _)).mono hb.size)).mono fun e w' h => comR h
  have hcl := comL_len l
  generalize hL : l.length = n at *
  have HL := Lib.hid hL
  clear hL
  unfold ComR at HC HR
  generalize comL l = zs at *
  generalize comE l = E at *
  have HI := Lib.hid fun (X Y : Option Addr) (cx cy : Nat) (w : World) (hX : IntsAt w w.heap.size X zs) (hY : IntsAt w w.heap.size Y zs) => ints_self X Y zs cx cy w (by omega) hX hY
  generalize zs.length = m at *
  have hg : decide ((100 : Int) < (n : Int)) = false := by simp; omega
  go_enter Try.func6, Try.ntmps6
  go_wp2_with fail
  refine HC.out.mono ?_
  rintro e w1 ⟨X, cx, rfl, hX, hb1⟩
  go_wp2_with fail
  refine (HR.out w1 hb1).mono ?_
  rintro e w2 ⟨Y, cy, rfl, hY, hb2⟩
  have hb12 := hb1.trans (hb2.mono hb1.size)
  go_wp2_with fail
  refine (HI.out X Y cx cy w2 ((hX.below hb2 (Nat.le_refl _)).mono hb2.size) hY).mono ?_
  rintro e w3 ⟨rfl, hb3⟩
  have hb13 := hb12.trans (hb3.mono hb12.size)
  clear hX hY hb1 hb2 hb3 hb12
  have hE : (E == E) = true := by simp
  go_wp2_with fail
  go_loopw [7, 8] (fun j _ wr => ∃ k : Nat, k ≤ n ∧ j = .int .i64 k ∧ Below w.heap.size w wr) (fun j _ _ => n - (intOf j).toNat)
  case atStart => exact ⟨0, Nat.zero_le _, rfl, hb13⟩
  case round =>
    obtain ⟨i, hi, rfl, hb⟩ := hrel
    by_cases hlt : i < n
    · obtain ⟨k, hk, hkn⟩ : ∃ k : Nat, (7 * (i : Int) + 1) % (n : Int) = (k : Int) ∧ k < n := ⟨(7 * i + 1) % n, by simp, Nat.mod_lt _ (by omega)⟩
      obtain ⟨b, off, rfl, _, hci⟩ := callsAt_at (hA.below hb (Nat.le_refl _)) (n := i) (by rw [HL.out]; exact hlt)
      obtain ⟨_, _, e1, _, hck⟩ := callsAt_at (hA.below hb (Nat.le_refl _)) (n := k) (by rw [HL.out]; exact hkn)
      cases e1
      have Hi := Lib.hid hci.regrown
      have Hk := Lib.hid hck.regrown
      clear hci hck
      go_wp2_with fail
      simp only [hk]
      refine wp_region_quiet_below (by kernel_rfl) (by kernel_rfl) ?_
      repeat (first
        | ((with_reducible refine qk_load_agg_want (o := ⟨some 47, _, _, _, _, _⟩) 64 _ rfl ⟨b, off + i * 23, none⟩ ?_ (at_ l i).cells _ Hi.out Try.underlying64 rfl (callSize _) ?_ ?_); (· rfl); (· rfl); simp only [Act.put, List.setIfInBounds_toArray, List.set_cons_succ, List.set_cons_zero])
        | ((with_reducible refine qk_load_agg_want (o := ⟨some 51, _, _, _, _, _⟩) 64 _ rfl ⟨b, off + k * 23, none⟩ ?_ (at_ l k).cells _ Hk.out Try.underlying64 rfl (callSize _) ?_ ?_); (· rfl); (· rfl); simp only [Act.put, List.setIfInBounds_toArray, List.set_cons_succ, List.set_cons_zero])
        | ((with_reducible refine qk_load_agg_want (o := ⟨some 56, _, _, _, _, _⟩) 64 _ rfl ⟨b, off + i * 23, none⟩ ?_ (at_ l i).cells _ Hi.out Try.underlying64 rfl (callSize _) ?_ ?_); (· rfl); (· rfl); simp only [Act.put, List.setIfInBounds_toArray, List.set_cons_succ, List.set_cons_zero])
        | ((with_reducible refine qk_load_agg_want (o := ⟨some 60, _, _, _, _, _⟩) 64 _ rfl ⟨b, off + k * 23, none⟩ ?_ (at_ l k).cells _ Hk.out Try.underlying64 rfl (callSize _) ?_ ?_); (· rfl); (· rfl); simp only [Act.put, List.setIfInBounds_toArray, List.set_cons_succ, List.set_cons_zero])
        | go_big_quiet_step (first | (go_at_call 28; exact Calls.regrown_of (before_any (at_ l i) (at_ l k) _)) | (go_at_call 29; exact Calls.regrown_of (refBefore_any (at_ l i) (at_ l k) _))))
      refine wpQuiet_nil ?_
      intro W3 hW3
      have hb3 := hb.trans ((regrown_below hW3).mono hb.size)
      clear hW3
      generalize before (at_ l i) (at_ l k) = B at *
      have hB : (B == B) = true := by simp
      go_wp2_with fail
      go_roundw
      case rel => exact ⟨i + 1, by omega, by go_num, hb3⟩
      case measure => simp [intOf]; omega
    · obtain rfl : i = n := by omega
      go_wp2_with fail
      refine (known_any _).mono ?_
      rintro e w4 ⟨rfl, hb4⟩
      go_wp2_with fail
      go_ret
      exact ⟨rfl, hb.trans (hb4.mono hb.size)⟩

theorem orderCommits_walk : orderCommitsWalk := fun A l cap w hc hm hA => by
  by_cases h : l.length ≤ 100
  · exact law6_few A l cap w h hA
  · exact law6_many A _ cap w (by omega)

/-- the commits of any calls are ordered as the reference orders them -/
theorem orderCommits_proved : Rows.OrderCommitsSaid := orderCommits_of orderCommits_walk
#print axioms orderCommits_proved
end Go.Proofs.Ytnmhmabifeapkaa.Ord
