/- Walk of request.Read at the bytes of any valid command. -/
import Derived.Test.YtnmhmabifeapkaaD7
namespace Go.Proofs.Ytnmhmabifeapkaa.Ord
open Go.RowKit
set_option linter.unusedVariables false

theorem pay_set {c : CmdR} (h : c.op = 1 ∨ c.op = 2) : pay c = putS c.key ++ (putV c.val.length ++ c.val) ++ putLs c.tags ++ putV c.life.toNat := by
  unfold pay
  rw [if_pos h]
theorem pay_cas {c : CmdR} (h : c.op = 3) : pay c = putS c.key ++ (putV c.val.length ++ c.val) ++ putLs c.tags ++ putV c.life.toNat ++ putV c.ver.toNat := by
  unfold pay
  rw [if_neg (by omega), if_pos h]
theorem pay_key {c : CmdR} (h : c.op = 4 ∨ c.op = 7 ∨ c.op = 13) : pay c = putS c.key := by
  unfold pay
  rw [if_neg (by omega), if_neg (by omega), if_pos h]
theorem pay_mget {c : CmdR} (h : c.op = 5) : pay c = putLs c.keys := by
  unfold pay
  rw [if_neg (by omega), if_neg (by omega), if_neg (by omega), if_pos h]
theorem pay_touch {c : CmdR} (h : c.op = 6) : pay c = putS c.key ++ putV c.life.toNat := by
  unfold pay
  rw [if_neg (by omega), if_neg (by omega), if_neg (by omega), if_neg (by omega), if_pos h]
theorem pay_tag {c : CmdR} (h : c.op = 8 ∨ c.op = 9) : pay c = putS c.tag := by
  unfold pay
  rw [if_neg (by omega), if_neg (by omega), if_neg (by omega), if_neg (by omega), if_neg (by omega), if_pos h]
theorem pay_pre {c : CmdR} (h : c.op = 10) : pay c = putS c.pre := by
  unfold pay
  rw [if_neg (by omega), if_neg (by omega), if_neg (by omega), if_neg (by omega), if_neg (by omega), if_neg (by omega), if_pos h]
theorem pay_dep {c : CmdR} (h : c.op = 11 ∨ c.op = 12) : pay c = putS c.key ++ putS c.chi := by
  unfold pay
  rw [if_neg (by omega), if_neg (by omega), if_neg (by omega), if_neg (by omega), if_neg (by omega), if_neg (by omega), if_neg (by omega), if_pos h]
theorem pay_none {c : CmdR} (h : c.op = 14 ∨ c.op = 15) : pay c = [] := by
  unfold pay
  rw [if_neg (by omega), if_neg (by omega), if_neg (by omega), if_neg (by omega), if_neg (by omega), if_neg (by omega), if_neg (by omega), if_neg (by omega)]
theorem CmdV.op_range {c : CmdR} (h : CmdV c) : 0 < c.op ∧ c.op < 16 := by
  cases h <;> first | (rename_i ho; simp; omega) | (rename_i ho _; simp; omega) | simp | (simp; omega)
theorem pay_len {c : CmdR} (h : CmdV c) : (pay c).length ≤ 100000 := by
  cases h with
  | set op k val tags life ho hk hv hl ht hn h0 h1 =>
    have a1 := putS_len (s := k) (by have := keyOk_size hk; omega)
    have a2 := putV_len10 (n := val.length) (by omega)
    have a3 := putLs_len (l := tags) (fun s hs => by have := tagOk_size (ht s hs); omega) hn
    have a4 := putV_len10 h1
    rw [pay_set ho]
    simp only [List.length_append, Int.toNat_natCast]
    omega
  | cas k val tags life ver hk hv hl ht hn h0 h1 h2 =>
    have a1 := putS_len (s := k) (by have := keyOk_size hk; omega)
    have a2 := putV_len10 (n := val.length) (by omega)
    have a3 := putLs_len (l := tags) (fun s hs => by have := tagOk_size (ht s hs); omega) hn
    have a4 := putV_len10 h1
    have a5 := putV_len10 h2
    rw [pay_cas rfl]
    simp only [List.length_append, Int.toNat_natCast]
    omega
  | key op k ho hk =>
    have a1 := putS_len (s := k) (by have := keyOk_size hk; omega)
    rw [pay_key ho]
    simp only
    omega
  | mget keys hk h1 hn =>
    have a3 := putLs_len (l := keys) (fun s hs => by have := keyOk_size (hk s hs); omega) hn
    rw [pay_mget rfl]
    simp only
    omega
  | touch k life hk h0 h1 =>
    have a1 := putS_len (s := k) (by have := keyOk_size hk; omega)
    have a4 := putV_len10 h1
    rw [pay_touch rfl]
    simp only [List.length_append, Int.toNat_natCast]
    omega
  | tag op t ho ht =>
    have a1 := putS_len (s := t) (by have := tagOk_size ht; omega)
    rw [pay_tag ho]
    simp only
    omega
  | pre p hp =>
    have a1 := putS_len (s := p) (by simp [preOk] at hp; omega)
    rw [pay_pre rfl]
    simp only
    omega
  | dep op k ch ho hk hc =>
    have a1 := putS_len (s := k) (by have := keyOk_size hk; omega)
    have a2 := putS_len (s := ch) (by have := keyOk_size hc; omega)
    rw [pay_dep ho]
    simp only [List.length_append]
    omega
  | none op ho =>
    rw [pay_none ho]
    simp

theorem parts_w_any {X C : Nat} {c : CmdR} {vk vv vt : Value} {w : World} (hc : CmdV c) (h : PW w X C c vk vv vt) :
    Calls Try.prog 97 #[.pointer (some ⟨X, 0, none⟩)] w fun e w' => e = .returned (.tuple #[]) ∧ PE w w' X C c vk vv vt (pay c) := by
  cases hc with
  | set op k val tags life ho hk hv hl ht hn h0 h1 =>
    have := parts_w_set X C _ vk vv vt w life 0 (by simp only; omega) hk hv hl ht hn rfl h0 h1 rfl (by decide) h
    rw [if_neg (by simp only; omega)] at this
    rw [pay_set ho]
    simpa using this
  | cas k val tags life ver hk hv hl ht hn h0 h1 h2 =>
    have := parts_w_set X C _ vk vv vt w life ver (by simp) hk hv hl ht hn rfl h0 h1 rfl h2 h
    rw [if_pos rfl] at this
    rw [pay_cas rfl]
    simpa using this
  | key op k ho hk =>
    rw [pay_key ho]
    exact parts_w_key X C _ vk vv vt w ho hk h
  | mget keys hk h1 hn =>
    rw [pay_mget rfl]
    exact parts_w_mget X C _ vk vv vt w rfl hk h1 hn h
  | touch k life hk h0 h1 =>
    rw [pay_touch rfl]
    exact parts_w_touch X C _ vk vv vt w life rfl hk rfl h0 h1 h
  | tag op t ho ht =>
    rw [pay_tag ho]
    exact parts_w_tag X C _ vk vv vt w ho ht h
  | pre p hp =>
    rw [pay_pre rfl]
    exact parts_w_pre X C _ vk vv vt w rfl hp h
  | dep op k ch ho hk hc =>
    rw [pay_dep ho]
    exact parts_w_dep X C _ vk vv vt w ho hk hc h
  | none op ho =>
    rw [pay_none ho]
    exact parts_w_none X C _ vk vv vt w ho h
theorem parts_r_any {NL : List Nat} {X C R : Nat} {c : CmdR} {w : World} (hc : CmdV c) (h : RS w NL X C R (listF (cmdL c.op ⟨#[]⟩)) (pay c) false) :
    Calls Try.prog 97 #[.pointer (some ⟨X, 0, none⟩)] w fun e w' => e = .returned (.tuple #[]) ∧ RE w w' NL X C R c := by
  cases hc with
  | set op k val tags life ho hk hv hl ht hn h0 h1 =>
    rw [pay_set ho] at h
    exact parts_r_set NL X C R op k val tags life ho hk hv hl ht hn h0 h1 w (h.bad (by simp) rfl)
  | cas k val tags life ver hk hv hl ht hn h0 h1 h2 =>
    rw [pay_cas rfl] at h
    exact parts_r_cas NL X C R 3 ver k val tags life rfl hk hv hl ht hn h0 h1 h2 w (h.bad (by simp) rfl)
  | key op k ho hk =>
    rw [pay_key ho] at h
    exact parts_r_key NL X C R op k ho hk w h
  | mget keys hk h1 hn =>
    rw [pay_mget rfl] at h
    exact parts_r_mget NL X C R 5 keys rfl hk h1 hn w h
  | touch k life hk h0 h1 =>
    rw [pay_touch rfl] at h
    exact parts_r_touch NL X C R 6 k life rfl hk h0 h1 w h
  | tag op t ho ht =>
    rw [pay_tag ho] at h
    exact parts_r_tag NL X C R op t ho ht w h
  | pre p hp =>
    rw [pay_pre rfl] at h
    exact parts_r_pre NL X C R 10 p rfl hp w h
  | dep op k ch ho hk hc =>
    rw [pay_dep ho] at h
    exact parts_r_dep NL X C R op k ch ho hk hc w h
  | none op ho =>
    rw [pay_none ho] at h
    exact parts_r_none NL X C R op ho w h
end Go.Proofs.Ytnmhmabifeapkaa.Ord
