/- Walk of the reference's count: the orders that hold, by taking out one call that none must come before. -/
import Derived.Test.YtnmhmabifeapkaaB7
import Derived.Test.YtnmhmabifeapkaaB8
import Derived.Test.YtnmhmabifeapkaaA14
namespace Go.Proofs.Ytnmhmabifeapkaa.Ord
open Go.RowKit Go.Sort
set_option linter.unusedVariables false


theorem eraseIdx_parts (l : List CallC) (i : Nat) : allCells (l.take i) ++ allCells ((l.drop (i + 1)).take (l.length - (i + 1))) = allCells (l.eraseIdx i) := by
  have h : (l.drop (i + 1)).take (l.length - (i + 1)) = l.drop (i + 1) := List.take_of_length_le (by simp)
  rw [h, ← allCells_append, List.eraseIdx_eq_take_drop_succ]

theorem src_take {w : World} {B : Nat} {b off : Nat} {l : List CallC} (h : CallsAt w B (some ⟨b, off, none⟩) l) {i : Nat} (c : Nat) (hi : i ≤ l.length) : Src w (some ⟨b, off, none⟩) i c (allCells (l.take i)) := by
  have := src_calls h 0 i c (by omega) (some ⟨b, off, none⟩) (fun _ => by simp) (by simp)
  simpa using this

theorem count_end {n k : Nat} {l : List CallC} {w w' : World} (h : n + 1 = k) (hb : Below w.heap.size w w') : CountR k l w (.int .i64 (sumK n l k)) w' := by
  subst h
  exact ⟨by rw [countF_sum], hb⟩
theorem take_len {l : List CallC} {k N : Nat} (hl : l.length = N) (hk : k ≤ N) : (allCells (l.take k)).length = k * 23 := by
  rw [allCells_length, List.length_take, hl, Nat.min_eq_left hk]
theorem drop_len {l : List CallC} {k N : Nat} (hl : l.length = N) : (allCells ((l.drop (k + 1)).take (N - (k + 1)))).length = (N - (k + 1)) * 23 := by
  rw [allCells_length, List.length_take, List.length_drop, hl, Nat.min_self]
theorem wrap_small {x : Int} (h0 : 0 ≤ x) (h1 : x < 9223372036854775808) : IntKind.i64.wrap x = x := IntWalk.i64_in x (by omega)
theorem f53_name : (Try.f53.name == "runtime.NumGoroutine") = false := by kernel_rfl
theorem f53_body : Try.f53.body.isSome = true := by kernel_rfl
theorem sum_wrap {n k : Nat} {l : List CallC} (hn : n ≤ 11) (hk : k < n + 1) (hf : freeK l k (n + 1) = true) : IntKind.i64.wrap ((sumK n l k : Int) + (countF n (l.eraseIdx k) : Int)) = (sumK n l (k + 1) : Int) := by
  have h1 := sumK_le (l := l) hn (show k + 1 ≤ 12 by omega)
  have h2 : sumK n l (k + 1) = sumK n l k + countF n (l.eraseIdx k) := by rw [sumK_succ, if_pos hf]
  rw [h2] at h1 ⊢
  rw [wrap_small (by omega) (by omega)]
  omega
theorem src_drop {w : World} {B : Nat} {b off : Nat} {l : List CallC} (h : CallsAt w B (some ⟨b, off, none⟩) l) {k k1 N c : Nat} (hk : k1 = k + 1) (hN : l.length = N) (hk1 : k < N) {A : Option Addr} (hA : 0 < N - k1 → A = some ⟨b, off + k1 * 23, none⟩) (hA0 : A ≠ none) :
    Src w A (N - k1) c (allCells ((l.drop (k + 1)).take (N - (k + 1)))) := by
  subst hk
  exact src_calls h (k + 1) (N - (k + 1)) c (by omega) A hA hA0
theorem own_erase {w : World} {base n N k k1 : Nat} {v : Value} {l : List CallC} (h : w.ownsRow base 64 23 v (0 + k + (N - k1)) ([] ++ allCells (l.take k) ++ allCells ((l.drop (k + 1)).take (N - (k + 1))))) (hN : l.length = N) (hk1 : k1 = k + 1) (hk : k < N) (hn : n + 1 = N) :
    ∃ A cap, v = .slice A n cap ∧ n ≤ cap ∧ CallsAt w w.heap.size A (l.eraseIdx k) := by
  subst hk1
  have e : 0 + k + (N - (k + 1)) = n := by omega
  rw [e, List.nil_append, ← hN, eraseIdx_parts] at h
  exact own_calls h (by rw [List.length_eraseIdx_of_lt (by omega)]; omega)

set_option maxRecDepth 100000 in
set_option maxHeartbeats 40000000 in
theorem refcount_any : ∀ (n : Nat) (A : Option Addr) (l : List CallC) (cap : Nat) (w : World), l.length = n → n ≤ 12 → n ≤ cap → CallsAt w w.heap.size A l →
    Calls Try.prog 53 #[.slice A n cap] w fun e w' => ∃ u, e = .returned u ∧ CountR n l w u w'
  | 0, A, l, cap, w, hl, _, _, hA => by
    go_enter Try.func53, Try.ntmps53
    go_wp2
    go_ret
    exact ⟨_, rfl, rfl, Below.refl _ _⟩
  | n + 1, A, l, cap, w, hl, hn, hcap, hA => by
    have IH := Lib.hid (fun A l cap w => refcount_any n A l cap w)
    generalize hNe : n + 1 = N at *
    have HL := Lib.hid hl
    have HE := Lib.hid hNe
    clear hl
    have hz : ((N : Int) == 0) = false := by simp; omega
    clear hNe
    go_enter Try.func53, Try.ntmps53
    go_wp2_with fail
    go_loopw [3, 4] (fun v j wr => ∃ k : Nat, k ≤ N ∧ j = .int .i64 k ∧ v = .int .i64 (sumK n l k) ∧ Below w.heap.size w wr) (fun _ j _ => N - (intOf j).toNat)
    case atStart => exact ⟨0, Nat.zero_le _, rfl, rfl, Below.refl _ _⟩
    case round =>
      obtain ⟨k, hk, rfl, rfl, hb⟩ := hrel
      by_cases hlt : k < N
      · obtain ⟨b, off, rfl, hbB, hck⟩ := callsAt_at (hA.below hb (Nat.le_refl _)) (n := k) (by rw [HL.out]; exact hlt)
        clear hck
        go_wp2_with fail
        go_loopw [5, 6] (fun f j wr2 => ∃ m : Nat, m ≤ N ∧ j = .int .i64 m ∧ f = .bool (freeK l k m) ∧ Below w.heap.size w wr2) (fun _ j _ => N - (intOf j).toNat)
        case atStart => exact ⟨0, Nat.zero_le _, rfl, rfl, hb⟩
        case round =>
          obtain ⟨m, hm, rfl, rfl, hb'⟩ := hrel
          obtain ⟨fv, hfv⟩ : ∃ fv, freeK l k m = fv := ⟨_, rfl⟩
          rw [hfv]
          have HF := Lib.hid hfv
          clear hfv
          by_cases hlt2 : m < N
          · cases fv with
            | false =>
              go_wp2_with fail
              go_quiet (fail)
              go_wp2_with fail
              go_roundw
              case rel => exact ⟨m + 1, by omega, by go_num, by rw [freeK_succ, HF.out]; rfl, ⟨hb'.os, hb'.tape, hb'.output, hb'.size, hb'.block⟩⟩
              case measure => simp [intOf]; omega
            | true =>
              by_cases hmk : m = k
              · subst hmk
                have hq : ((m : Int) == (m : Int)) = true := by simp
                go_wp2_with fail
                go_quiet (fail)
                go_wp2_with fail
                go_roundw
                case rel => exact ⟨m + 1, by omega, by go_num, by rw [freeK_succ, HF.out]; simp, ⟨hb'.os, hb'.tape, hb'.output, hb'.size, hb'.block⟩⟩
                case measure => simp [intOf]; omega
              · have hq : ((m : Int) == (k : Int)) = false := by simp; omega
                obtain ⟨_, _, e1, _, hcm⟩ := callsAt_at (hA.below hb' (Nat.le_refl _)) (n := m) (by rw [HL.out]; exact hlt2)
                cases e1
                obtain ⟨_, _, e1, _, hck⟩ := callsAt_at (hA.below hb' (Nat.le_refl _)) (n := k) (by rw [HL.out]; exact hlt)
                cases e1
                have Hm := Lib.hid hcm.regrown
                have Hk := Lib.hid hck.regrown
                clear hcm hck
                go_wp2_with fail
                refine wp_region_quiet_below (by kernel_rfl) (by kernel_rfl) ?_
                repeat (first
                  | ((with_reducible refine qk_load_agg_want (o := ⟨some 31, _, _, _, _, _⟩) 64 _ rfl ⟨b, off + m * 23, none⟩ ?_ (at_ l m).cells _ Hm.out Try.underlying64 rfl (callSize _) ?_ ?_); (· rfl); (· rfl); simp only [Act.put, List.setIfInBounds_toArray, List.set_cons_succ, List.set_cons_zero])
                  | ((with_reducible refine qk_load_agg_want (o := ⟨some 35, _, _, _, _, _⟩) 64 _ rfl ⟨b, off + k * 23, none⟩ ?_ (at_ l k).cells _ Hk.out Try.underlying64 rfl (callSize _) ?_ ?_); (· rfl); (· rfl); simp only [Act.put, List.setIfInBounds_toArray, List.set_cons_succ, List.set_cons_zero])
                  | go_big_quiet_step ((go_at_call 29; exact Calls.regrown_of (refBefore_any (at_ l m) (at_ l k) _))))
                refine wpQuiet_nil ?_
                intro W3 hW3
                have hb3 := hb'.trans ((regrown_below hW3).mono hb'.size)
                clear hW3
                go_wp2_with fail
                go_roundw
                case rel => exact ⟨m + 1, by omega, by go_num, by rw [freeK_succ, HF.out]; simp [hmk], hb3⟩
                case measure => simp [intOf]; omega
          · obtain rfl : m = N := by omega
            cases fv with
            | false =>
              go_wp2_with fail
              go_roundw
              case rel => exact ⟨k + 1, by omega, by go_num, by rw [sumK_succ, HE.out, HF.out]; simp, hb'⟩
              case measure => simp [intOf]; omega
            | true =>
              obtain ⟨k1, hk1⟩ : ∃ k1, k1 = k + 1 := ⟨_, rfl⟩
              have hwr : IntKind.i64.wrap ((k : Int) + 1) = ((k1 : Nat) : Int) := by rw [wrap_small (by omega) (by omega)]; omega
              have hk1m : k1 ≤ m := by omega
              obtain ⟨A2, hA2, hA2n, hA2s⟩ : ∃ A2, (if cap = k1 then some ⟨b, off, none⟩ else some ⟨b, off + k1 * 23, none⟩ : Option Addr) = A2 ∧ A2 ≠ none ∧ (0 < m - k1 → A2 = some ⟨b, off + k1 * 23, none⟩) := by
                refine ⟨_, rfl, by split <;> simp, fun h => by rw [if_neg (by omega)]⟩
              have HA2n := Lib.hid hA2n
              have HA2s := Lib.hid hA2s
              have HK1 := Lib.hid hk1
              have hl1 := Lib.hid (take_len HL.out hk)
              have hl2 := Lib.hid (show (allCells ((l.drop (k + 1)).take (m - (k + 1)))).length = (m - k1) * 23 by rw [hk1]; exact drop_len HL.out)
              have hsum := sum_wrap (n := n) (k := k) (l := l) (by have := HE.out; omega) (by have := HE.out; omega) (by rw [HE.out]; exact HF.out)
              rw [← hk1] at hsum
              have hwb : Below w.heap.size w wr.drew := ⟨hb'.os, hb'.tape, hb'.output, hb'.size, hb'.block⟩
              have hAd := Lib.hid (hA.below hwb (Nat.le_refl _))
              have hAw := Lib.hid hA
              have hsw : w.heap.size ≤ wr.drew.heap.size := hwb.size
              have hc1 : (k : Int) ≤ (cap : Int) := by omega
              clear hk1 hA2n hA2s
              go_wp2_with fail
              go_region_law (first
                | ((with_reducible refine step_append_src (o := ⟨some 45, _, _, _, _, _⟩) rfl _ _ 55 rfl w.heap.size 64 zero64 23 296 Try.underlying55 Try.info64 zero64_size (by decide) (.slice none 0 0) 0 [] ?_ (World.ownsRow_nil _ _ _ _) (some ⟨b, off, none⟩) k cap _ ?_ hl1.out (src_take hAd.out cap (by rw [HL.out]; exact hk)) (allCells_one _) ?_ ?_ hsw ?_); (· rfl); (· rfl); (· unfold maxLen; omega); (· omega); intro v1 w1 hown1 hb1)
                | ((with_reducible refine step_append_src (o := ⟨some 50, _, _, _, _, _⟩) rfl _ _ 55 rfl w.heap.size 64 zero64 23 296 Try.underlying55 Try.info64 zero64_size (by decide) v1 _ _ ?_ hown1 A2 (m - k1) (cap - k1) _ ?_ (hl2.out) (src_drop (hAw.out.below (hwb.trans hb1) (Nat.le_refl _)) HK1.out HL.out hlt HA2s.out HA2n.out) (allCells_one _) ?_ ?_ (Nat.le_trans hsw hb1.size) ?_); (· rfl); (· rfl); (· unfold maxLen; omega); (· omega); intro v2 w2 hown2 hb2; obtain ⟨A3, cap3, rfl, hcap3, hA3⟩ := own_erase hown2 HL.out HK1.out hlt HE.out)
                | ((with_reducible refine step_call_fn (o := ⟨some 51, _, _, _, _, _⟩) rfl 53 _ 55 rfl (.slice A3 n cap3) ?_ Try.f53 Try.func53 f53_name f53_body (CountR n (l.eraseIdx k) w2) (IH.out A3 (l.eraseIdx k) cap3 w2 ?_ ?_ hcap3 hA3) ?_); (· rfl); (· rw [List.length_eraseIdx_of_lt (by rw [HL.out]; exact hlt), HL.out, ← HE.out]; rfl); (· have := HE.out; omega); rintro u4 w4 ⟨rfl, hb4⟩)
                | fail)
              have hb12 := hwb.trans (hb1.trans hb2)
              have hbe := hb12.trans (hb4.mono hb12.size)
              have hk1e := HK1.out
              simp only [Exit.inBlock, Exit.then]
              go_wp2_with fail
              go_roundw
              case rel =>
                first
                | exact ⟨k1, hk1m, rfl, rfl, hbe⟩
                | exact ⟨k1, hk1m, by rw [hk1e]; go_num, by rw [hk1e], hbe⟩
                | exact ⟨k + 1, by rw [← hk1e]; exact hk1m, by go_num, by rfl, hbe⟩
              case measure =>
                first
                | (simp [intOf]; omega)
                | (simp only [intOf]; omega)
      · obtain rfl : k = N := by omega
        go_wp2_with fail
        go_ret
        exact ⟨_, rfl, count_end HE.out hb⟩
end Go.Proofs.Ytnmhmabifeapkaa.Ord
