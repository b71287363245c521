/- The codec's parts, written: every valid command. -/
import Derived.Test.YtnmhmabifeapkaaD5
namespace Go.Proofs.Ytnmhmabifeapkaa.Ord
open Go.RowKit
set_option linter.unusedVariables false

/-- what a walk of the parts, written, begins with -/
structure PW (w : World) (X C : Nat) (c : CmdR) (vk vv vt : Value) : Prop where
  st : WS w X C (listF (cmdC c vk vv vt)) [] false
  keys : SlN w [X, C] vk c.keys
  val : SlY w [X, C] vv c.val
  tags : SlN w [X, C] vt c.tags
/-- what it ends with -/
def PE (w w' : World) (X C : Nat) (c : CmdR) (vk vv vt : Value) (out : List Int) : Prop := WS w' X C (listF (cmdC c vk vv vt)) out false ∧ Kept [X, C] w w'
theorem PW.op {w : World} {X C : Nat} {c : CmdR} {vk vv vt : Value} (h : PW w X C c vk vv vt) : w.cell? ⟨X, 0, none⟩ = some (.pointer (some ⟨C, 0, none⟩)) ∧ w.cell? ⟨C, 0, none⟩ = some (.int .i64 c.op) := by
  obtain ⟨h1, h2, v, h3, h4⟩ := h.st
  exact ⟨World.rowIs.cell h3 (i := 0) (by decide), World.rowIs.cell h2 (i := 0) (by decide)⟩

set_option maxRecDepth 100000 in
set_option maxHeartbeats 2000000 in
theorem parts_w_key (X C : Nat) (c : CmdR) (vk vv vt : Value) (w : World) (ho : c.op = 4 ∨ c.op = 7 ∨ c.op = 13) (hk : keyOk c.key = true) (h : PW w X C c vk vv vt) :
    Calls Try.prog 97 #[.pointer (some ⟨X, 0, none⟩)] w fun e w' => e = .returned (.tuple #[]) ∧ PE w w' X C c vk vv vt (putS c.key) := by
  have c0 := h.op.1
  have d0 := h.op.2
  have HP := Lib.hid (ws_key 1 c.key h.st (by decide) rfl hk (by simp))
  clear h
  rcases ho with ho | ho | ho
  all_goals
    rw [ho] at d0
    go_enter Try.func97, Try.ntmps97
    go_wp2_with fail
    refine HP.out.mono ?_
    rintro e w1 ⟨rfl, h1, hk1⟩
    have H1 := Lib.hid h1
    clear h1
    go_wp2_with fail
    go_end0
    exact ⟨rfl, H1.out.out_bad (by simp) rfl, hk1⟩
set_option maxRecDepth 100000 in
set_option maxHeartbeats 2000000 in
theorem parts_w_mget (X C : Nat) (c : CmdR) (vk vv vt : Value) (w : World) (ho : c.op = 5) (hx : ∀ s ∈ c.keys, keyOk s = true) (hn1 : 1 ≤ c.keys.length) (hn2 : c.keys.length ≤ 16) (h : PW w X C c vk vv vt) :
    Calls Try.prog 97 #[.pointer (some ⟨X, 0, none⟩)] w fun e w' => e = .returned (.tuple #[]) ∧ PE w w' X C c vk vv vt (putLs c.keys) := by
  have c0 := h.op.1
  have d0 := h.op.2
  have HP := Lib.hid (ws_keys 2 1 vk c.keys h.st (by decide) rfl h.keys hx hn1 hn2 (by simp))
  clear h
  rw [ho] at d0
  go_enter Try.func97, Try.ntmps97
  go_wp2_with fail
  refine HP.out.mono ?_
  rintro e w1 ⟨rfl, h1, hk1⟩
  have H1 := Lib.hid h1
  clear h1
  go_wp2_with fail
  go_end0
  exact ⟨rfl, H1.out.out_bad (by simp) rfl, hk1⟩
set_option maxRecDepth 100000 in
set_option maxHeartbeats 2000000 in
theorem parts_w_touch (X C : Nat) (c : CmdR) (vk vv vt : Value) (w : World) (life : Nat) (ho : c.op = 6) (hk : keyOk c.key = true) (hl : c.life = life) (h0 : 0 < life) (h1 : life < 18446744073709551616) (h : PW w X C c vk vv vt) :
    Calls Try.prog 97 #[.pointer (some ⟨X, 0, none⟩)] w fun e w' => e = .returned (.tuple #[]) ∧ PE w w' X C c vk vv vt (putS c.key ++ putV life) := by
  have c0 := h.op.1
  have d0 := h.op.2
  have hsl := putS_len (s := c.key) (by have := keyOk_size hk; omega)
  have HP := Lib.hid (ws_key 1 c.key h.st (by decide) rfl hk (by simp))
  clear h
  rw [ho] at d0
  go_enter Try.func97, Try.ntmps97
  go_wp2_with fail
  refine HP.out.mono ?_
  rintro e w1 ⟨rfl, h1, hk1⟩
  have HL := Lib.hid (ws_lifetime life h1 (by simp [listF, cmdC, hl]) h0 (by omega) (by simp; omega))
  clear h1
  go_wp2_with fail
  refine HL.out.mono ?_
  rintro e w2 ⟨rfl, h2, hk2⟩
  have H2 := Lib.hid h2
  clear h2
  go_wp2_with fail
  go_end0
  exact ⟨rfl, H2.out.out_bad (by simp) rfl, hk1.trans hk2⟩
set_option maxRecDepth 100000 in
set_option maxHeartbeats 2000000 in
theorem parts_w_tag (X C : Nat) (c : CmdR) (vk vv vt : Value) (w : World) (ho : c.op = 8 ∨ c.op = 9) (hk : tagOk c.tag = true) (h : PW w X C c vk vv vt) :
    Calls Try.prog 97 #[.pointer (some ⟨X, 0, none⟩)] w fun e w' => e = .returned (.tuple #[]) ∧ PE w w' X C c vk vv vt (putS c.tag) := by
  have c0 := h.op.1
  have d0 := h.op.2
  have HP := Lib.hid (ws_tag 7 c.tag h.st (by decide) rfl hk (by simp))
  clear h
  rcases ho with ho | ho
  all_goals
    rw [ho] at d0
    go_enter Try.func97, Try.ntmps97
    go_wp2_with fail
    refine HP.out.mono ?_
    rintro e w1 ⟨rfl, h1, hk1⟩
    have H1 := Lib.hid h1
    clear h1
    go_wp2_with fail
    go_end0
    exact ⟨rfl, H1.out.out_bad (by simp) rfl, hk1⟩
set_option maxRecDepth 100000 in
set_option maxHeartbeats 2000000 in
theorem parts_w_pre (X C : Nat) (c : CmdR) (vk vv vt : Value) (w : World) (ho : c.op = 10) (hk : preOk c.pre = true) (h : PW w X C c vk vv vt) :
    Calls Try.prog 97 #[.pointer (some ⟨X, 0, none⟩)] w fun e w' => e = .returned (.tuple #[]) ∧ PE w w' X C c vk vv vt (putS c.pre) := by
  have c0 := h.op.1
  have d0 := h.op.2
  have HP := Lib.hid (ws_pre 8 c.pre h.st (by decide) rfl hk (by simp))
  clear h
  rw [ho] at d0
  go_enter Try.func97, Try.ntmps97
  go_wp2_with fail
  refine HP.out.mono ?_
  rintro e w1 ⟨rfl, h1, hk1⟩
  have H1 := Lib.hid h1
  clear h1
  go_wp2_with fail
  go_end0
  exact ⟨rfl, H1.out.out_bad (by simp) rfl, hk1⟩
set_option maxRecDepth 100000 in
set_option maxHeartbeats 2000000 in
theorem parts_w_dep (X C : Nat) (c : CmdR) (vk vv vt : Value) (w : World) (ho : c.op = 11 ∨ c.op = 12) (hk : keyOk c.key = true) (hc : keyOk c.chi = true) (h : PW w X C c vk vv vt) :
    Calls Try.prog 97 #[.pointer (some ⟨X, 0, none⟩)] w fun e w' => e = .returned (.tuple #[]) ∧ PE w w' X C c vk vv vt (putS c.key ++ putS c.chi) := by
  have c0 := h.op.1
  have d0 := h.op.2
  have hsl := putS_len (s := c.key) (by have := keyOk_size hk; omega)
  have HP := Lib.hid (ws_key 1 c.key h.st (by decide) rfl hk (by simp))
  clear h
  rcases ho with ho | ho
  all_goals
    rw [ho] at d0
    go_enter Try.func97, Try.ntmps97
    go_wp2_with fail
    refine HP.out.mono ?_
    rintro e w1 ⟨rfl, h1, hk1⟩
    have HL := Lib.hid (ws_key 9 c.chi h1 (by decide) rfl hc (by simp; omega))
    clear h1
    go_wp2_with fail
    refine HL.out.mono ?_
    rintro e w2 ⟨rfl, h2, hk2⟩
    have H2 := Lib.hid h2
    clear h2
    go_wp2_with fail
    go_end0
    exact ⟨rfl, H2.out.out_bad (by simp) rfl, hk1.trans hk2⟩
set_option maxRecDepth 100000 in
set_option maxHeartbeats 2000000 in
theorem parts_w_none (X C : Nat) (c : CmdR) (vk vv vt : Value) (w : World) (ho : c.op = 14 ∨ c.op = 15) (h : PW w X C c vk vv vt) :
    Calls Try.prog 97 #[.pointer (some ⟨X, 0, none⟩)] w fun e w' => e = .returned (.tuple #[]) ∧ PE w w' X C c vk vv vt [] := by
  have c0 := h.op.1
  have d0 := h.op.2
  have H := Lib.hid h
  clear h
  rcases ho with ho | ho
  all_goals
    rw [ho] at d0
    go_enter Try.func97, Try.ntmps97
    go_wp2_with fail
    go_end0
    exact ⟨rfl, H.out.st, Kept.refl _ _⟩
set_option maxRecDepth 100000 in
set_option maxHeartbeats 2000000 in
theorem parts_w_set (X C : Nat) (c : CmdR) (vk vv vt : Value) (w : World) (life ver : Nat) (ho : c.op = 1 ∨ c.op = 2 ∨ c.op = 3) (hk : keyOk c.key = true) (hv : ∀ y ∈ c.val, 0 ≤ y ∧ y < 256) (hvl : c.val.length ≤ 65536) (ht : ∀ s ∈ c.tags, tagOk s = true) (htn : c.tags.length ≤ 16) (hl : c.life = life) (h0 : 0 < life) (h1 : life < 18446744073709551616) (hr : c.ver = ver) (h2 : ver < 18446744073709551616) (h : PW w X C c vk vv vt) :
    Calls Try.prog 97 #[.pointer (some ⟨X, 0, none⟩)] w fun e w' => e = .returned (.tuple #[]) ∧ PE w w' X C c vk vv vt (putS c.key ++ (putV c.val.length ++ c.val) ++ putLs c.tags ++ putV life ++ (if c.op = 3 then putV ver else [])) := by
  have c0 := h.op.1
  have d0 := h.op.2
  have hsl := putS_len (s := c.key) (by have := keyOk_size hk; omega)
  have hvv := putV_len10 (n := c.val.length) (by omega)
  have htt := putLs_len (l := c.tags) (fun s hs => by have := tagOk_size (ht s hs); omega) htn
  have hll := putV_len10 h1
  have HP := Lib.hid (ws_key 1 c.key h.st (by decide) rfl hk (by simp))
  have HV := Lib.hid h.val
  have HT := Lib.hid h.tags
  clear h
  obtain ⟨tl, htl⟩ : ∃ tl, (if c.op = 3 then putV ver else []) = tl := ⟨_, rfl⟩
  rw [htl]
  have HTL := Lib.hid htl
  clear htl
  rcases ho with ho | ho | ho
  all_goals
    rw [ho] at d0
    go_enter Try.func97, Try.ntmps97
    go_wp2_with fail
    refine HP.out.mono ?_
    rintro e w1 ⟨rfl, s1, k1⟩
    have H1 := Lib.hid (ws_val vv c.val s1 rfl (HV.out.kept k1 fun _ h => h) hv hvl (by simp; omega))
    have K1 := Lib.hid k1
    clear s1 k1
    go_wp2_with fail
    refine H1.out.mono ?_
    rintro e w2 ⟨rfl, s2, k2⟩
    have K2 := Lib.hid (K1.out.trans k2)
    have H2 := Lib.hid (ws_tags 4 0 vt c.tags s2 (by decide) rfl (HT.out.kept K2.out fun _ h => h) ht (Nat.zero_le _) htn (by simp; omega))
    clear s2 k2
    go_wp2_with fail
    refine H2.out.mono ?_
    rintro e w3 ⟨rfl, s3, k3⟩
    have K3 := Lib.hid (K2.out.trans k3)
    have H3 := Lib.hid (ws_lifetime life s3 (by simp [listF, cmdC, hl]) h0 (by omega) (by simp; omega))
    clear s3 k3
    go_wp2_with fail
    refine H3.out.mono ?_
    rintro e w4 ⟨rfl, s4, k4⟩
    have K4 := Lib.hid (K3.out.trans k4)
    have d4 : w4.cell? ⟨C, 0, none⟩ = some (.int .i64 c.op) := World.rowIs.cell s4.2.1 (i := 0) (by decide)
    rw [ho] at d4
    have S4 := Lib.hid s4
    have HO := Lib.hid ho
    clear s4 k4 ho
    go_wp2_with fail
    first
      | (go_end0
         exact ⟨rfl, S4.out.out_bad (by rw [← HTL.out, HO.out]; simp) rfl, K4.out⟩)
      | (refine (ws_number 6 ver S4.out (by decide) (by simp [listF, cmdC, hr]) h2 (by simp; omega)).mono ?_
         rintro e w5 ⟨rfl, s5, k5⟩
         have K5 := Lib.hid (K4.out.trans (k5.mono (L' := [X, C]) (by simp)))
         have S5 := Lib.hid s5
         clear s5 k5
         go_wp2_with fail
         go_end0
         exact ⟨rfl, S5.out.out_bad (by rw [← HTL.out, HO.out]; simp) rfl, K5.out⟩)
end Go.Proofs.Ytnmhmabifeapkaa.Ord
