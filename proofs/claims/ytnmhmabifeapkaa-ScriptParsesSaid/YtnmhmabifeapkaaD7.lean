/- The codec's parts, read: every valid command. (Printed by wip/tools/genD7.py.) -/
import Derived.Test.YtnmhmabifeapkaaD6
namespace Go.Proofs.Ytnmhmabifeapkaa.Ord
open Go.RowKit
set_option linter.unusedVariables false

section
variable {w : World} {NL : List Nat} {X C R : Nat} {f : Nat → Value} {rest : List Int}
theorem rs_key (k : Nat) (s u0 : ByteArray) (h : RS w NL X C R f (putS s ++ rest) false) (hk : k < 10) (hf : f k = .string u0) (hs : keyOk s = true) (hrl : rest.length ≤ 300000) :
    Calls Try.prog 126 #[.pointer (some ⟨X, 0, none⟩), .pointer (some ⟨C, k, none⟩), .func (.func 127) #[] #[]] w fun e w' => e = .returned (.tuple #[]) ∧ RS w' NL X C R (updF f k (.string s)) rest false ∧ Kept [X, C, R] w w' :=
  (rs_part k s u0 127 (h.bad (by simp [putS, List.append_assoc]) rfl) hk hf key_enter (key127 s) (by have := keyOk_size hs; omega) (by omega)).mono fun e w' ⟨e1, e2, e3⟩ => ⟨e1, e2.bad rfl (by simp [hs]), e3⟩
theorem rs_tag (k : Nat) (s u0 : ByteArray) (h : RS w NL X C R f (putS s ++ rest) false) (hk : k < 10) (hf : f k = .string u0) (hs : tagOk s = true) (hrl : rest.length ≤ 300000) :
    Calls Try.prog 126 #[.pointer (some ⟨X, 0, none⟩), .pointer (some ⟨C, k, none⟩), .func (.func 130) #[] #[]] w fun e w' => e = .returned (.tuple #[]) ∧ RS w' NL X C R (updF f k (.string s)) rest false ∧ Kept [X, C, R] w w' :=
  (rs_part k s u0 130 (h.bad (by simp [putS, List.append_assoc]) rfl) hk hf enter130 (tag130 s) (by have := tagOk_size hs; omega) (by omega)).mono fun e w' ⟨e1, e2, e3⟩ => ⟨e1, e2.bad rfl (by simp [hs]), e3⟩
theorem rs_pre (k : Nat) (s u0 : ByteArray) (h : RS w NL X C R f (putS s ++ rest) false) (hk : k < 10) (hf : f k = .string u0) (hs : preOk s = true) (hrl : rest.length ≤ 300000) :
    Calls Try.prog 126 #[.pointer (some ⟨X, 0, none⟩), .pointer (some ⟨C, k, none⟩), .func (.func 133) #[] #[]] w fun e w' => e = .returned (.tuple #[]) ∧ RS w' NL X C R (updF f k (.string s)) rest false ∧ Kept [X, C, R] w w' :=
  (rs_part k s u0 133 (h.bad (by simp [putS, List.append_assoc]) rfl) hk hf enter133 (pre133 s) (by simp [preOk] at hs; omega) (by omega)).mono fun e w' ⟨e1, e2, e3⟩ => ⟨e1, e2.bad rfl (by simp [hs]), e3⟩
theorem rs_val (val : List Int) (h : RS w NL X C R f (putV val.length ++ val ++ rest) false) (hf : f 3 = .slice none 0 0) (hx : ∀ y ∈ val, 0 ≤ y ∧ y < 256) (hl : val.length ≤ 65536) (hrl : rest.length ≤ 300000) :
    Calls Try.prog 128 #[.pointer (some ⟨X, 0, none⟩)] w fun e w' => e = .returned (.tuple #[]) ∧ ∃ vv, RS w' NL X C R (updF f 3 vv) rest false ∧ SlX w' [X, C, R] vv val ∧ Kept [X, C, R] w w' := by
  have h1 := nums_size val
  have h2 := nums_bytes hx
  have := rs_value (strOfNums val) (w := w) (rest := rest) (h.bad (by rw [h1, h2]; simp [List.append_assoc]) rfl) hf (by omega) (by omega)
  rwa [h2] at this
theorem rs_keys (k least : Nat) (strs : List ByteArray) (h : RS w NL X C R f (putLs strs ++ rest) false) (hk : k < 10) (hf : f k = .slice none 0 0) (hx : ∀ s ∈ strs, keyOk s = true) (h1 : least ≤ strs.length) (h2 : strs.length ≤ 16) (hrl : rest.length ≤ 100000) :
    Calls Try.prog 129 #[.pointer (some ⟨X, 0, none⟩), .pointer (some ⟨C, k, none⟩), .int .i64 least, .int .i64 (16 : Nat), .func (.func 127) #[] #[]] w fun e w' => e = .returned (.tuple #[]) ∧ ∃ vt, RS w' NL X C R (updF f k vt) rest false ∧ SlN w' [X, C, R] vt strs ∧ Kept [X, C, R] w w' :=
  (rs_list k strs.length least 16 127 strs keyOk (h.bad (by simp [putLs, List.append_assoc]) rfl) hk hf rfl key_enter (fun s _ => key127 s) (fun s hs => by have := keyOk_size (hx s hs); omega) h1 h2 (by omega) (by omega)).mono fun e w' ⟨e1, vt, e2, e3⟩ => ⟨e1, vt, e2.bad rfl (by simp [all_of hx]), e3⟩
theorem rs_tags (k least : Nat) (strs : List ByteArray) (h : RS w NL X C R f (putLs strs ++ rest) false) (hk : k < 10) (hf : f k = .slice none 0 0) (hx : ∀ s ∈ strs, tagOk s = true) (h1 : least ≤ strs.length) (h2 : strs.length ≤ 16) (hrl : rest.length ≤ 100000) :
    Calls Try.prog 129 #[.pointer (some ⟨X, 0, none⟩), .pointer (some ⟨C, k, none⟩), .int .i64 least, .int .i64 (16 : Nat), .func (.func 130) #[] #[]] w fun e w' => e = .returned (.tuple #[]) ∧ ∃ vt, RS w' NL X C R (updF f k vt) rest false ∧ SlN w' [X, C, R] vt strs ∧ Kept [X, C, R] w w' :=
  (rs_list k strs.length least 16 130 strs tagOk (h.bad (by simp [putLs, List.append_assoc]) rfl) hk hf rfl enter130 (fun s _ => tag130 s) (fun s hs => by have := tagOk_size (hx s hs); omega) h1 h2 (by omega) (by omega)).mono fun e w' ⟨e1, vt, e2, e3⟩ => ⟨e1, vt, e2.bad rfl (by simp [all_of hx]), e3⟩
theorem rs_lifetime (m : Nat) (h : RS w NL X C R f (putV m ++ rest) false) (hf : f 5 = .int .u64 0) (h0 : 0 < m) (hm : m < 18446744073709551616) (hrl : rest.length ≤ 300000) :
    Calls Try.prog 131 #[.pointer (some ⟨X, 0, none⟩)] w fun e w' => e = .returned (.tuple #[]) ∧ RS w' NL X C R (updF f 5 (.int .u64 m)) rest false ∧ Kept [X, C, R] w w' :=
  (rs_life m 0 h hf (by omega) hm (by omega)).mono fun e w' ⟨e1, e2, e3⟩ => ⟨e1, e2.bad rfl (by simp; omega), e3⟩
end

/-- what a walk of the parts, read, ends with -/
def RE (w w' : World) (NL : List Nat) (X C R : Nat) (c : CmdR) : Prop := ∃ vk vv vt, RS w' NL X C R (listF (cmdC c vk vv vt)) [] false ∧ SlN w' [X, C, R] vk c.keys ∧ SlX w' [X, C, R] vv c.val ∧ SlN w' [X, C, R] vt c.tags ∧ Kept [X, C, R] w w'
theorem SlX.nil (w : World) (N : List Nat) : SlX w N (.slice none 0 0) [] := ⟨none, 0, rfl, Byt.nil _ _, by simp⟩
theorem RS.op {w : World} {NL : List Nat} {X C R : Nat} {f : Nat → Value} {rest : List Int} {bad : Bool} {op : Int} (h : RS w NL X C R f rest bad) (hf : f 0 = .int .i64 op) : w.cell? ⟨X, 0, none⟩ = some (.pointer (some ⟨C, 0, none⟩)) ∧ w.cell? ⟨C, 0, none⟩ = some (.int .i64 op) :=
  ⟨World.rowIs.cell h.2.2.2.2.1 (i := 0) (by decide), by rw [← hf]; exact World.rowIs.cell h.2.2.2.1 (i := 0) (by decide)⟩
set_option maxRecDepth 100000 in
set_option maxHeartbeats 2000000 in
theorem parts_r_key (NL : List Nat) (X C R : Nat) (op : Int) (k : ByteArray) (ho : op = 4 ∨ op = 7 ∨ op = 13) (hk : keyOk k = true) (w : World) (h : RS w NL X C R (listF (cmdL op ⟨#[]⟩)) (putS k) false) :
    Calls Try.prog 97 #[.pointer (some ⟨X, 0, none⟩)] w fun e w' => e = .returned (.tuple #[]) ∧ RE w w' NL X C R ⟨op, k, [], [], [], 0, 0, eB, eB, eB⟩ := by
  obtain ⟨c0, d0⟩ := h.op rfl
  have H := Lib.hid h
  clear h
  rcases ho with rfl | rfl | rfl
  all_goals
    go_enter Try.func97, Try.ntmps97
    go_wp2_with fail
    refine (rs_key (rest := []) 1 k ⟨#[]⟩ (H.out.bad (by simp) rfl) (by decide) rfl hk (by simp)).mono ?_
    rintro e w1 ⟨rfl, h1, k1⟩
    have H1 := Lib.hid h1
    have K1 := Lib.hid k1
    clear h1 k1
    go_wp2_with fail
    go_end0
    refine ⟨rfl, .slice none 0 0, .slice none 0 0, .slice none 0 0, H1.out.row fun i hi => ?_, SlN.nil _ _, SlX.nil _ _, SlN.nil _ _, K1.out⟩
    match i, hi with
    | 0, _ => rfl
    | 1, _ => rfl
    | 2, _ => rfl
    | 3, _ => rfl
    | 4, _ => rfl
    | 5, _ => rfl
    | 6, _ => rfl
    | 7, _ => rfl
    | 8, _ => rfl
    | 9, _ => rfl
set_option maxRecDepth 100000 in
set_option maxHeartbeats 2000000 in
theorem parts_r_mget (NL : List Nat) (X C R : Nat) (op : Int) (keys : List ByteArray) (ho : op = 5) (hk : ∀ s ∈ keys, keyOk s = true) (hn1 : 1 ≤ keys.length) (hn : keys.length ≤ 16) (w : World) (h : RS w NL X C R (listF (cmdL op ⟨#[]⟩)) (putLs keys) false) :
    Calls Try.prog 97 #[.pointer (some ⟨X, 0, none⟩)] w fun e w' => e = .returned (.tuple #[]) ∧ RE w w' NL X C R ⟨op, eB, keys, [], [], 0, 0, eB, eB, eB⟩ := by
  obtain ⟨c0, d0⟩ := h.op rfl
  have H := Lib.hid h
  clear h
  rcases ho with rfl
  all_goals
    go_enter Try.func97, Try.ntmps97
    go_wp2_with fail
    refine (rs_keys (rest := []) 2 1 keys (H.out.bad (by simp) rfl) (by decide) rfl hk hn1 hn (by simp)).mono ?_
    rintro e w1 ⟨rfl, v1, h1, x1, k1⟩
    have H1 := Lib.hid h1
    have K1 := Lib.hid k1
    have X1 := Lib.hid x1
    clear x1
    clear h1 k1
    go_wp2_with fail
    go_end0
    refine ⟨rfl, v1, .slice none 0 0, .slice none 0 0, H1.out.row fun i hi => ?_, X1.out, SlX.nil _ _, SlN.nil _ _, K1.out⟩
    match i, hi with
    | 0, _ => rfl
    | 1, _ => rfl
    | 2, _ => rfl
    | 3, _ => rfl
    | 4, _ => rfl
    | 5, _ => rfl
    | 6, _ => rfl
    | 7, _ => rfl
    | 8, _ => rfl
    | 9, _ => rfl
set_option maxRecDepth 100000 in
set_option maxHeartbeats 2000000 in
theorem parts_r_touch (NL : List Nat) (X C R : Nat) (op : Int) (k : ByteArray) (life : Nat) (ho : op = 6) (hk : keyOk k = true) (h0 : 0 < life) (h1 : life < 18446744073709551616) (w : World) (h : RS w NL X C R (listF (cmdL op ⟨#[]⟩)) (putS k ++ putV life) false) :
    Calls Try.prog 97 #[.pointer (some ⟨X, 0, none⟩)] w fun e w' => e = .returned (.tuple #[]) ∧ RE w w' NL X C R ⟨op, k, [], [], [], life, 0, eB, eB, eB⟩ := by
  obtain ⟨c0, d0⟩ := h.op rfl
  have hll := putV_len10 h1
  have H := Lib.hid h
  clear h
  rcases ho with rfl
  all_goals
    go_enter Try.func97, Try.ntmps97
    go_wp2_with fail
    refine (rs_key (rest := putV life) 1 k ⟨#[]⟩ H.out (by decide) rfl hk (by omega)).mono ?_
    rintro e w1 ⟨rfl, h1, k1⟩
    have H1 := Lib.hid h1
    have K1 := Lib.hid k1
    clear h1 k1
    go_wp2_with fail
    refine (rs_lifetime (rest := []) life (H1.out.bad (by simp) rfl) rfl h0 (by omega) (by simp)).mono ?_
    rintro e w2 ⟨rfl, h2, k2⟩
    have H2 := Lib.hid h2
    have K2 := Lib.hid (K1.out.trans k2)
    clear h2 k2
    go_wp2_with fail
    go_end0
    refine ⟨rfl, .slice none 0 0, .slice none 0 0, .slice none 0 0, H2.out.row fun i hi => ?_, SlN.nil _ _, SlX.nil _ _, SlN.nil _ _, K2.out⟩
    match i, hi with
    | 0, _ => rfl
    | 1, _ => rfl
    | 2, _ => rfl
    | 3, _ => rfl
    | 4, _ => rfl
    | 5, _ => rfl
    | 6, _ => rfl
    | 7, _ => rfl
    | 8, _ => rfl
    | 9, _ => rfl
set_option maxRecDepth 100000 in
set_option maxHeartbeats 2000000 in
theorem parts_r_tag (NL : List Nat) (X C R : Nat) (op : Int) (t : ByteArray) (ho : op = 8 ∨ op = 9) (hk : tagOk t = true) (w : World) (h : RS w NL X C R (listF (cmdL op ⟨#[]⟩)) (putS t) false) :
    Calls Try.prog 97 #[.pointer (some ⟨X, 0, none⟩)] w fun e w' => e = .returned (.tuple #[]) ∧ RE w w' NL X C R ⟨op, eB, [], [], [], 0, 0, t, eB, eB⟩ := by
  obtain ⟨c0, d0⟩ := h.op rfl
  have H := Lib.hid h
  clear h
  rcases ho with rfl | rfl
  all_goals
    go_enter Try.func97, Try.ntmps97
    go_wp2_with fail
    refine (rs_tag (rest := []) 7 t ⟨#[]⟩ (H.out.bad (by simp) rfl) (by decide) rfl hk (by simp)).mono ?_
    rintro e w1 ⟨rfl, h1, k1⟩
    have H1 := Lib.hid h1
    have K1 := Lib.hid k1
    clear h1 k1
    go_wp2_with fail
    go_end0
    refine ⟨rfl, .slice none 0 0, .slice none 0 0, .slice none 0 0, H1.out.row fun i hi => ?_, SlN.nil _ _, SlX.nil _ _, SlN.nil _ _, K1.out⟩
    match i, hi with
    | 0, _ => rfl
    | 1, _ => rfl
    | 2, _ => rfl
    | 3, _ => rfl
    | 4, _ => rfl
    | 5, _ => rfl
    | 6, _ => rfl
    | 7, _ => rfl
    | 8, _ => rfl
    | 9, _ => rfl
set_option maxRecDepth 100000 in
set_option maxHeartbeats 2000000 in
theorem parts_r_pre (NL : List Nat) (X C R : Nat) (op : Int) (p : ByteArray) (ho : op = 10) (hk : preOk p = true) (w : World) (h : RS w NL X C R (listF (cmdL op ⟨#[]⟩)) (putS p) false) :
    Calls Try.prog 97 #[.pointer (some ⟨X, 0, none⟩)] w fun e w' => e = .returned (.tuple #[]) ∧ RE w w' NL X C R ⟨op, eB, [], [], [], 0, 0, eB, p, eB⟩ := by
  obtain ⟨c0, d0⟩ := h.op rfl
  have H := Lib.hid h
  clear h
  rcases ho with rfl
  all_goals
    go_enter Try.func97, Try.ntmps97
    go_wp2_with fail
    refine (rs_pre (rest := []) 8 p ⟨#[]⟩ (H.out.bad (by simp) rfl) (by decide) rfl hk (by simp)).mono ?_
    rintro e w1 ⟨rfl, h1, k1⟩
    have H1 := Lib.hid h1
    have K1 := Lib.hid k1
    clear h1 k1
    go_wp2_with fail
    go_end0
    refine ⟨rfl, .slice none 0 0, .slice none 0 0, .slice none 0 0, H1.out.row fun i hi => ?_, SlN.nil _ _, SlX.nil _ _, SlN.nil _ _, K1.out⟩
    match i, hi with
    | 0, _ => rfl
    | 1, _ => rfl
    | 2, _ => rfl
    | 3, _ => rfl
    | 4, _ => rfl
    | 5, _ => rfl
    | 6, _ => rfl
    | 7, _ => rfl
    | 8, _ => rfl
    | 9, _ => rfl
set_option maxRecDepth 100000 in
set_option maxHeartbeats 2000000 in
theorem parts_r_dep (NL : List Nat) (X C R : Nat) (op : Int) (k ch : ByteArray) (ho : op = 11 ∨ op = 12) (hk : keyOk k = true) (hc : keyOk ch = true) (w : World) (h : RS w NL X C R (listF (cmdL op ⟨#[]⟩)) (putS k ++ putS ch) false) :
    Calls Try.prog 97 #[.pointer (some ⟨X, 0, none⟩)] w fun e w' => e = .returned (.tuple #[]) ∧ RE w w' NL X C R ⟨op, k, [], [], [], 0, 0, eB, eB, ch⟩ := by
  obtain ⟨c0, d0⟩ := h.op rfl
  have hcl := putS_len (s := ch) (by have := keyOk_size hc; omega)
  have H := Lib.hid h
  clear h
  rcases ho with rfl | rfl
  all_goals
    go_enter Try.func97, Try.ntmps97
    go_wp2_with fail
    refine (rs_key (rest := putS ch) 1 k ⟨#[]⟩ H.out (by decide) rfl hk (by omega)).mono ?_
    rintro e w1 ⟨rfl, h1, k1⟩
    have H1 := Lib.hid h1
    have K1 := Lib.hid k1
    clear h1 k1
    go_wp2_with fail
    refine (rs_key (rest := []) 9 ch ⟨#[]⟩ (H1.out.bad (by simp) rfl) (by decide) rfl hc (by simp)).mono ?_
    rintro e w2 ⟨rfl, h2, k2⟩
    have H2 := Lib.hid h2
    have K2 := Lib.hid (K1.out.trans k2)
    clear h2 k2
    go_wp2_with fail
    go_end0
    refine ⟨rfl, .slice none 0 0, .slice none 0 0, .slice none 0 0, H2.out.row fun i hi => ?_, SlN.nil _ _, SlX.nil _ _, SlN.nil _ _, K2.out⟩
    match i, hi with
    | 0, _ => rfl
    | 1, _ => rfl
    | 2, _ => rfl
    | 3, _ => rfl
    | 4, _ => rfl
    | 5, _ => rfl
    | 6, _ => rfl
    | 7, _ => rfl
    | 8, _ => rfl
    | 9, _ => rfl
set_option maxRecDepth 100000 in
set_option maxHeartbeats 2000000 in
theorem parts_r_none (NL : List Nat) (X C R : Nat) (op : Int) (ho : op = 14 ∨ op = 15) (w : World) (h : RS w NL X C R (listF (cmdL op ⟨#[]⟩)) ([]) false) :
    Calls Try.prog 97 #[.pointer (some ⟨X, 0, none⟩)] w fun e w' => e = .returned (.tuple #[]) ∧ RE w w' NL X C R ⟨op, eB, [], [], [], 0, 0, eB, eB, eB⟩ := by
  obtain ⟨c0, d0⟩ := h.op rfl
  have H := Lib.hid h
  clear h
  rcases ho with rfl | rfl
  all_goals
    go_enter Try.func97, Try.ntmps97
    go_wp2_with fail
    go_end0
    refine ⟨rfl, .slice none 0 0, .slice none 0 0, .slice none 0 0, H.out.row fun i hi => ?_, SlN.nil _ _, SlX.nil _ _, SlN.nil _ _, Kept.refl _ _⟩
    match i, hi with
    | 0, _ => rfl
    | 1, _ => rfl
    | 2, _ => rfl
    | 3, _ => rfl
    | 4, _ => rfl
    | 5, _ => rfl
    | 6, _ => rfl
    | 7, _ => rfl
    | 8, _ => rfl
    | 9, _ => rfl
set_option maxRecDepth 100000 in
set_option maxHeartbeats 2000000 in
theorem parts_r_set (NL : List Nat) (X C R : Nat) (op : Int) (k : ByteArray) (val : List Int) (tags : List ByteArray) (life : Nat) (ho : op = 1 ∨ op = 2) (hk : keyOk k = true) (hv : ∀ y ∈ val, 0 ≤ y ∧ y < 256) (hvl : val.length ≤ 65536) (ht : ∀ s ∈ tags, tagOk s = true) (htn : tags.length ≤ 16) (h0 : 0 < life) (h1 : life < 18446744073709551616) (w : World) (h : RS w NL X C R (listF (cmdL op ⟨#[]⟩)) (putS k ++ (putV val.length ++ val ++ (putLs tags ++ putV life))) false) :
    Calls Try.prog 97 #[.pointer (some ⟨X, 0, none⟩)] w fun e w' => e = .returned (.tuple #[]) ∧ RE w w' NL X C R ⟨op, k, [], val, tags, life, 0, eB, eB, eB⟩ := by
  obtain ⟨c0, d0⟩ := h.op rfl
  have hll := putV_len10 h1
  have hvv := putV_len10 (n := val.length) (by omega)
  have htt := putLs_len (l := tags) (fun s hs => by have := tagOk_size (ht s hs); omega) htn
  have H := Lib.hid h
  clear h
  rcases ho with rfl | rfl
  all_goals
    go_enter Try.func97, Try.ntmps97
    go_wp2_with fail
    refine (rs_key (rest := putV val.length ++ val ++ (putLs tags ++ (putV life))) 1 k ⟨#[]⟩ H.out (by decide) rfl hk (by simp only [List.length_append]; omega)).mono ?_
    rintro e w1 ⟨rfl, h1, k1⟩
    have H1 := Lib.hid h1
    have K1 := Lib.hid k1
    clear h1 k1
    go_wp2_with fail
    refine (rs_val (rest := putLs tags ++ (putV life)) val H1.out rfl hv hvl (by simp only [List.length_append]; omega)).mono ?_
    rintro e w2 ⟨rfl, v2, h2, x2, k2⟩
    have H2 := Lib.hid h2
    have K2 := Lib.hid (K1.out.trans k2)
    have X2 := Lib.hid x2
    clear x2
    clear h2 k2
    go_wp2_with fail
    refine (rs_tags (rest := putV life) 4 0 tags H2.out (by decide) rfl ht (Nat.zero_le _) htn (by first | omega | (simp only [List.length_append]; omega))).mono ?_
    rintro e w3 ⟨rfl, v3, h3, x3, k3⟩
    have H3 := Lib.hid h3
    have K3 := Lib.hid (K2.out.trans k3)
    have X2 := Lib.hid (X2.out.kept k3 fun _ h => h)
    have X3 := Lib.hid x3
    clear x3
    clear h3 k3
    go_wp2_with fail
    refine (rs_lifetime (rest := []) life (H3.out.bad (by try simp) rfl) rfl h0 (by omega) (by first | omega | simp)).mono ?_
    rintro e w4 ⟨rfl, h4, k4⟩
    have H4 := Lib.hid h4
    have K4 := Lib.hid (K3.out.trans k4)
    have X2 := Lib.hid (X2.out.kept k4 fun _ h => h)
    have X3 := Lib.hid (X3.out.kept k4 fun _ h => h)
    clear h4 k4
    have d4 := (H4.out.op rfl).2
    go_wp2_with fail
    go_end0
    refine ⟨rfl, .slice none 0 0, v2, v3, H4.out.row fun i hi => ?_, SlN.nil _ _, X2.out, X3.out, K4.out⟩
    match i, hi with
    | 0, _ => rfl
    | 1, _ => rfl
    | 2, _ => rfl
    | 3, _ => rfl
    | 4, _ => rfl
    | 5, _ => rfl
    | 6, _ => rfl
    | 7, _ => rfl
    | 8, _ => rfl
    | 9, _ => rfl
set_option maxRecDepth 100000 in
set_option maxHeartbeats 2000000 in
theorem parts_r_cas (NL : List Nat) (X C R : Nat) (op : Int) (ver : Nat) (k : ByteArray) (val : List Int) (tags : List ByteArray) (life : Nat) (ho : op = 3) (hk : keyOk k = true) (hv : ∀ y ∈ val, 0 ≤ y ∧ y < 256) (hvl : val.length ≤ 65536) (ht : ∀ s ∈ tags, tagOk s = true) (htn : tags.length ≤ 16) (h0 : 0 < life) (h1 : life < 18446744073709551616) (h2 : ver < 18446744073709551616) (w : World) (h : RS w NL X C R (listF (cmdL op ⟨#[]⟩)) (putS k ++ (putV val.length ++ val ++ (putLs tags ++ (putV life ++ putV ver)))) false) :
    Calls Try.prog 97 #[.pointer (some ⟨X, 0, none⟩)] w fun e w' => e = .returned (.tuple #[]) ∧ RE w w' NL X C R ⟨op, k, [], val, tags, life, ver, eB, eB, eB⟩ := by
  obtain ⟨c0, d0⟩ := h.op rfl
  have hll := putV_len10 h1
  have hvv := putV_len10 (n := val.length) (by omega)
  have htt := putLs_len (l := tags) (fun s hs => by have := tagOk_size (ht s hs); omega) htn
  have hrr := putV_len10 h2
  have H := Lib.hid h
  clear h
  rcases ho with rfl
  all_goals
    go_enter Try.func97, Try.ntmps97
    go_wp2_with fail
    refine (rs_key (rest := putV val.length ++ val ++ (putLs tags ++ (putV life ++ putV ver))) 1 k ⟨#[]⟩ H.out (by decide) rfl hk (by simp only [List.length_append]; omega)).mono ?_
    rintro e w1 ⟨rfl, h1, k1⟩
    have H1 := Lib.hid h1
    have K1 := Lib.hid k1
    clear h1 k1
    go_wp2_with fail
    refine (rs_val (rest := putLs tags ++ (putV life ++ putV ver)) val H1.out rfl hv hvl (by simp only [List.length_append]; omega)).mono ?_
    rintro e w2 ⟨rfl, v2, h2, x2, k2⟩
    have H2 := Lib.hid h2
    have K2 := Lib.hid (K1.out.trans k2)
    have X2 := Lib.hid x2
    clear x2
    clear h2 k2
    go_wp2_with fail
    refine (rs_tags (rest := putV life ++ putV ver) 4 0 tags H2.out (by decide) rfl ht (Nat.zero_le _) htn (by first | omega | (simp only [List.length_append]; omega))).mono ?_
    rintro e w3 ⟨rfl, v3, h3, x3, k3⟩
    have H3 := Lib.hid h3
    have K3 := Lib.hid (K2.out.trans k3)
    have X2 := Lib.hid (X2.out.kept k3 fun _ h => h)
    have X3 := Lib.hid x3
    clear x3
    clear h3 k3
    go_wp2_with fail
    refine (rs_lifetime (rest := putV ver) life (H3.out.bad (by try simp) rfl) rfl h0 (by omega) (by first | omega | simp)).mono ?_
    rintro e w4 ⟨rfl, h4, k4⟩
    have H4 := Lib.hid h4
    have K4 := Lib.hid (K3.out.trans k4)
    have X2 := Lib.hid (X2.out.kept k4 fun _ h => h)
    have X3 := Lib.hid (X3.out.kept k4 fun _ h => h)
    clear h4 k4
    have d4 := (H4.out.op rfl).2
    go_wp2_with fail
    refine (rs_number (rest := []) 6 ver 0 (H4.out.bad (by simp) rfl) (by decide) rfl h2 (by simp)).mono ?_
    rintro e w5 ⟨rfl, h5, k5⟩
    have H5 := Lib.hid h5
    have K5 := Lib.hid (K4.out.trans k5)
    have X2 := Lib.hid (X2.out.kept k5 fun _ h => h)
    have X3 := Lib.hid (X3.out.kept k5 fun _ h => h)
    clear h5 k5
    go_wp2_with fail
    go_end0
    refine ⟨rfl, .slice none 0 0, v2, v3, H5.out.row fun i hi => ?_, SlN.nil _ _, X2.out, X3.out, K5.out⟩
    match i, hi with
    | 0, _ => rfl
    | 1, _ => rfl
    | 2, _ => rfl
    | 3, _ => rfl
    | 4, _ => rfl
    | 5, _ => rfl
    | 6, _ => rfl
    | 7, _ => rfl
    | 8, _ => rfl
    | 9, _ => rfl
end Go.Proofs.Ytnmhmabifeapkaa.Ord
