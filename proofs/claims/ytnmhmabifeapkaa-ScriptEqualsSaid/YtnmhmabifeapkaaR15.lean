/- Walk of a short request of a script. -/
import Derived.Test.YtnmhmabifeapkaaR14
import Derived.Test.YtnmhmabifeapkaaR12
import Derived.Test.YtnmhmabifeapkaaR11
namespace Go.Proofs.Ytnmhmabifeapkaa.Ord
open Go.RowKit
set_option linter.unusedVariables false

/-- a short request gives some bytes -/
def ReqOk (y z u : Int) (bs : List Int) : Prop := ∃ (cmd : Value) (code : Int) (pay : List Int),
  (∀ w, Calls Try.prog 77 #[.int .i64 y, .int .i64 z, .int .i64 u] w fun e w' => e = .returned cmd ∧ Below w.heap.size w w') ∧
  (∀ w, Calls Try.prog 76 #[cmd] w fun e w' => ∃ A k c, e = .returned (.tuple #[.agg #[.int .u8 code, .slice A k c], .int .i64 0]) ∧ pay.length = k ∧ Byt w' w'.heap.size A c pay ∧ Below w.heap.size w w') ∧
  pay.length ≤ 1000 ∧ bs = putV (pay.length + 1) ++ [code] ++ pay
theorem reqok_get (z u : Int) : ReqOk 3 z u [3, 4, 1, 97] := by
  refine ⟨.agg (cmdL 4 ⟨#[97]⟩).toArray, 4, [1, 97], short_get z u, fun w => (write_get ⟨#[97]⟩ (by decide) (by decide) w).mono fun e w' ⟨v, h1, ⟨A, c, h2, h3, _⟩, h4⟩ => ?_, by simp, ?_⟩
  · subst h2
    have e1 : putV (ByteArray.size ⟨#[97]⟩) ++ sBytes ⟨#[97]⟩ = [1, 97] := by
      rw [show ByteArray.size ⟨#[97]⟩ = 1 from rfl, putV_small (by decide)]; rfl
    rw [e1] at h1 h3
    exact ⟨A, 2, c, h1, rfl, h3, h4⟩
  · rw [show ([1, 97] : List Int).length + 1 = 3 from rfl, putV_small (by decide)]; rfl
theorem reqok_flush (z u : Int) : ReqOk 13 z u [1, 14] := by
  refine ⟨.agg (cmdL 14 ⟨#[]⟩).toArray, 14, [], short_flush z u, fun w => (write_flush w).mono fun e w' ⟨h1, h4⟩ => ⟨none, 0, 0, h1, rfl, Byt.nil _ _, h4⟩, by simp, ?_⟩
  rw [show ([] : List Int).length + 1 = 1 from rfl, putV_small (by decide)]; rfl

set_option maxRecDepth 100000 in
set_option maxHeartbeats 2000000 in
theorem request_any (B : Nat) (N : List Nat) (Q : Nat) (xs bs : List Int) (w : World) (hB : B ≤ w.heap.size) (h : ReadAt w B N Q xs) (hq : ReqOk (xs.headD 0) (xs.tail.headD 0) (xs.tail.tail.headD 0) bs) :
    Calls Try.prog 59 #[.pointer (some ⟨Q, 0, none⟩)] w fun e w' => ∃ v, e = .returned v ∧ Own8 w' w.heap.size v bs ∧ ReadAt w' B N Q xs.tail.tail.tail ∧ Kept [Q] w w' := by
  obtain ⟨cmd, code, pay, hs, hw, hp, rfl⟩ := hq
  have H1 := Lib.hid (next_any B N Q xs w h)
  obtain ⟨y, hy⟩ : ∃ y, xs.headD 0 = y := ⟨_, rfl⟩
  obtain ⟨z, hz⟩ : ∃ z, xs.tail.headD 0 = z := ⟨_, rfl⟩
  obtain ⟨u, hu⟩ : ∃ u, xs.tail.tail.headD 0 = u := ⟨_, rfl⟩
  rw [hy] at H1
  rw [hy, hz, hu] at hs
  have HZ := Lib.hid hz
  have HU := Lib.hid hu
  have HS := Lib.hid hs
  have HW := Lib.hid hw
  clear hs hw hy hz hu
  obtain ⟨x1, hx1⟩ : ∃ x1, xs.tail = x1 := ⟨_, rfl⟩
  obtain ⟨x2, hx2⟩ : ∃ x2, x1.tail = x2 := ⟨_, rfl⟩
  obtain ⟨x3, hx3⟩ : ∃ x3, x2.tail = x3 := ⟨_, rfl⟩
  rw [hx1] at H1 HZ HU ⊢
  rw [hx2] at HU ⊢
  rw [hx3]
  have HX2 := Lib.hid hx2
  have HX3 := Lib.hid hx3
  clear hx1 hx2 hx3 h
  go_enter Try.func59, Try.ntmps59
  go_wp2_with fail
  refine H1.out.mono ?_
  rintro e w1 ⟨rfl, hR1, hk1⟩
  have H2 := Lib.hid (next_any B N Q x1 w1 hR1)
  rw [HZ.out, HX2.out] at H2
  go_wp2_with fail
  refine H2.out.mono ?_
  rintro e w2 ⟨rfl, hR2, hk2⟩
  have H3 := Lib.hid (next_any B N Q x2 w2 hR2)
  rw [HU.out, HX3.out] at H3
  go_wp2_with fail
  refine H3.out.mono ?_
  rintro e w3 ⟨rfl, hR3, hk3⟩
  clear hR1 hR2
  have hk03 := (hk1.trans hk2).trans hk3
  clear hk1 hk2 hk3
  go_wp2_with fail
  refine (HS.out w3).mono ?_
  rintro e w4 ⟨rfl, hb4⟩
  have hb34 := hb4
  go_wp2_with fail
  refine (HW.out w4).mono ?_
  rintro e w5 ⟨A, k, c, rfl, hk, hby5, hb5⟩
  have hb35 : Below w3.heap.size w3 w5 := hb34.trans (hb5.mono hb34.size)
  go_wp2_with fail
  have hb5a := below1 w5 (.cells #[.int .u8 code, .slice A k c] 111)
  refine (frame_any code A k c pay _ hk (by omega) ((hby5.below hb5a (Nat.le_refl _)).mono (by simp))).mono ?_
  rintro e w6 ⟨v6, rfl, hown6, hb6⟩
  have hb36 : Below w3.heap.size w3 w6 := (hb35.trans (hb5a.mono hb35.size)).trans (hb6.mono (by have := hb35.size; simp; omega))
  have hw3 := hk03.size
  go_wp2_with fail
  go_ret
  refine ⟨v6, rfl, ?_, hR3.below hb36 (by omega), hk03.then_below (hb36.mono hw3)⟩
  subst hk
  exact owns_mono hown6.raw (by have := hb35.size; simp; omega)
end Go.Proofs.Ytnmhmabifeapkaa.Ord
