/- Walk of script.put. -/
import Derived.Test.YtnmhmabifeapkaaM4
import Derived.Laws.OwnMore
namespace Go.Proofs.Ytnmhmabifeapkaa.Ord
open Go.RowKit
set_option linter.unusedVariables false

def putL (r : StepR) : List Int :=
  if r.k = 3 then [16 * r.c]
  else if r.k = 1 then [2]
  else if r.k = 2 then [16 * r.c + 3, (r.d.length : Int)] ++ r.d
  else if r.k = 4 then [4, r.n]
  else if r.k = 5 then [5, r.n]
  else if r.k = 6 then [16 * r.c + 6, r.n]
  else [16 * r.c + 7]

theorem own8_lit (w : World) (xs : List Int) (base : Nat) (hb : base ≤ w.heap.size) (hm : xs.length ≤ maxLen) : Own8 (w.alloc (.cells (xs.map (Value.int .u8)).toArray 5)) base (.slice (some ⟨w.heap.size, 0, none⟩) xs.length xs.length) xs := by
  have h := World.ownsRow_lit (base := base) (e := 5) (size := 1) w (xs.map (Value.int .u8)).toArray xs.length hb hm (by simp)
  unfold Own8
  simpa using h

theorem own8_lit1 (w : World) (x : Int) (base g : Nat) (hb : base ≤ w.heap.size) (hg : w.heap.size = g) : Own8 (w.alloc (.cells #[.int .u8 x] 5)) base (.slice (some ⟨g, 0, none⟩) 1 1) [x] := by
  subst hg
  exact own8_lit w [x] base hb (by simp [maxLen])
theorem own8_lit2 (w : World) (x y : Int) (base g : Nat) (hb : base ≤ w.heap.size) (hg : w.heap.size = g) : Own8 (w.alloc (.cells #[.int .u8 x, .int .u8 y] 5)) base (.slice (some ⟨g, 0, none⟩) 2 2) [x, y] := by
  subst hg
  exact own8_lit w [x, y] base hb (by simp [maxLen])
theorem below1g {w : World} {o : Obj} {B : Nat} (h : B ≤ w.heap.size) : Below B w (w.alloc o) := (below1 w o).mono h

set_option maxRecDepth 100000 in
set_option maxHeartbeats 2000000 in
theorem put40_any (k c n : Int) (d : List Int) (A : Option Addr) (L cap : Nat) (w : World) (hL : d.length = L) (h0 : 0 ≤ c) (h1 : c < 16) (h2 : 0 ≤ n) (h3 : n < 256) (h4 : L < 256) (hA : Byt w w.heap.size A cap d) :
    Calls Try.prog 40 #[.agg (stepL k c n (.slice A L cap)).toArray] w fun e w' => ∃ v, e = .returned v ∧ Own8 w' w.heap.size v (putL ⟨k, c, n, d⟩) ∧ Below w.heap.size w w' := by
  have hb := below1 w (.cells (stepL k c n (.slice A L cap)).toArray 35)
  have HB := Lib.hid hb
  clear hb
  simp only [stepL] at *
  obtain ⟨C16, hC⟩ : ∃ C16, 16 * c = C16 := ⟨_, rfl⟩
  have hw : IntKind.i64.wrap (16 * c) = C16 := by rw [IntKind.wrap_i64] <;> omega
  go_enter Try.func40, Try.ntmps40
  have hput : putL ⟨k, c, n, d⟩ = if k == 3 then [C16] else if k == 1 then [2] else if k == 2 then [C16 + 3, (L : Int)] ++ d else if k == 4 then [4, n] else if k == 5 then [5, n] else if k == 6 then [C16 + 6, n] else [C16 + 7] := by
    simp [putL, hC, hL]
  rw [hput]
  clear hput
  have hs : w.heap.size ≤ (w.alloc (.cells #[.int .i64 k, .int .i64 c, .int .i64 n, .slice A L cap] 35)).heap.size := by simp
  have HS := Lib.hid hs
  clear hs
  cases k3 : (k == 3)
  · cases k1 : (k == 1)
    · cases k2 : (k == 2)
      · cases k4 : (k == 4)
        · cases k5 : (k == 5)
          · cases k6 : (k == 6)
            · go_wp2_with fail
              go_ret
              exact ⟨.slice (some ⟨w.heap.size + 1, 0, none⟩) 1 1, rfl, own8_lit1 _ (C16 + 7) _ _ HS.out (by simp), HB.out.trans (below1g HS.out)⟩
            · go_wp2_with fail
              go_ret
              exact ⟨.slice (some ⟨w.heap.size + 1, 0, none⟩) 2 2, rfl, own8_lit2 _ (C16 + 6) (n) _ _ HS.out (by simp), HB.out.trans (below1g HS.out)⟩
          · go_wp2_with fail
            go_ret
            exact ⟨.slice (some ⟨w.heap.size + 1, 0, none⟩) 2 2, rfl, own8_lit2 _ (5) (n) _ _ HS.out (by simp), HB.out.trans (below1g HS.out)⟩
        · go_wp2_with fail
          go_ret
          exact ⟨.slice (some ⟨w.heap.size + 1, 0, none⟩) 2 2, rfl, own8_lit2 _ (4) (n) _ _ HS.out (by simp), HB.out.trans (below1g HS.out)⟩
      · have hown := Lib.hid (own8_lit2 (w.alloc (.cells #[.int .i64 k, .int .i64 c, .int .i64 n, .slice A L cap] 35)) (C16 + 3) (L : Int) w.heap.size (w.heap.size + 1) HS.out (by simp)).raw
        have hb2 := HB.out.trans (below1g (o := .cells #[.int .u8 (C16 + 3), .int .u8 (L : Int)] 5) HS.out)
        have hsrc := Lib.hid (hA.below hb2 (Nat.le_refl _)).src
        have HB2 := Lib.hid hb2
        have hs2 := Lib.hid hb2.size
        have HL := Lib.hid hL
        clear hL hb2 hA
        go_wp2_with ((with_reducible refine wpList_append_src (o := ⟨some 28, _, _, _, _, _⟩) rfl _ _ 22 rfl w.heap.size 5 (.int .u8 0) 1 1 Try.underlying22 Try.info5 rfl (by decide) _ 2 _ ?_ hown.out A L cap (d.map (Value.int .u8)) ?_ ?_ ?_ (bytes_one _) ?_ ?_ hs2.out ?_); (· rfl); (· rfl); (· simp [HL.out]); (· have := hsrc.out; rw [HL.out] at this; exact this); (· unfold maxLen; omega); (· omega); intro v2 w2 hown2 _ hb2)
        go_ret
        exact ⟨v2, rfl, Own8.app HL.out.symm (xs := [C16 + 3, (L : Int)]) hown2, HB2.out.trans hb2⟩
    · go_wp2_with fail
      go_ret
      exact ⟨.slice (some ⟨w.heap.size + 1, 0, none⟩) 1 1, rfl, own8_lit1 _ (2) _ _ HS.out (by simp), HB.out.trans (below1g HS.out)⟩
  · go_wp2_with fail
    go_ret
    exact ⟨.slice (some ⟨w.heap.size + 1, 0, none⟩) 1 1, rfl, own8_lit1 _ (C16) _ _ HS.out (by simp), HB.out.trans (below1g HS.out)⟩
end Go.Proofs.Ytnmhmabifeapkaa.Ord
