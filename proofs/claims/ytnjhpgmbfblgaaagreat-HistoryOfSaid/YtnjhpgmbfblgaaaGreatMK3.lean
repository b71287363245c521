/- Commands that need not be valid: what the codec writes of them, and whether they are allowed; The codec's parts, written: any command, valid or not; The codec's parts, read: the bytes of any command, valid or not. -/
import Derived.Test.YtnjhpgmbfblgaaaGreatMD5
namespace Go.Proofs.YtnjhpgmbfblgaaaGreat.Ord
set_option maxRecDepth 100000
set_option maxHeartbeats 16000000
open Go.RowKit
set_option linter.unusedVariables false
set_option linter.unusedSimpArgs false
theorem putS_len3 {s : ByteArray} (h : s.size <= 3000) : (putS s).length <= 3010 := by
 have h1 := putV_len10 (n := s.size) (by omega)
 have h2 := sBytes_len s
 simp only [putS, List.length_append]
 omega
def inR (least n : Nat) : Bool := decide (least <= n) && decide (n <= 16)
/-- strings as a list; of too many, or too few, the number alone -/
def putG (least : Nat) (l : List ByteArray) : List Int := if inR least l.length = true then putLs l else putV l.length
def okG (least : Nat) (alw : ByteArray -> Bool) (l : List ByteArray) : Bool := inR least l.length && l.all alw
theorem putG_len {least : Nat} {l : List ByteArray} (h : ∀ s ∈ l, s.size <= 3000) (hn : l.length <= 100) : (putG least l).length <= 49620 := by
 have h1 := putV_len10 (n := l.length) (by omega)
 have h2 := putStrs_len3 h
 unfold putG
 split
 ·rename_i hr
  simp [inR] at hr
  simp only [putLs, List.length_append]
  omega
 ·omega
theorem inR_iff {least n : Nat} : inR least n = true ↔ least <= n /\ n <= 16 := by simp [inR]
theorem putG_yes {least : Nat} {l : List ByteArray} (h : least <= l.length /\ l.length <= 16) : putG least l = putLs l := by unfold putG; rw [if_pos (inR_iff.2 h)]
theorem putG_no {least : Nat} {l : List ByteArray} (h : ¬ (least <= l.length /\ l.length <= 16)) : putG least l = putV l.length := by unfold putG; rw [if_neg (fun e => h (inR_iff.1 e))]
theorem okG_yes {least : Nat} {alw : ByteArray -> Bool} {l : List ByteArray} (h : least <= l.length /\ l.length <= 16) : okG least alw l = l.all alw := by unfold okG; rw [inR_iff.2 h]; rfl
theorem okG_no {least : Nat} {alw : ByteArray -> Bool} {l : List ByteArray} (h : ¬ (least <= l.length /\ l.length <= 16)) : okG least alw l = false := by
 unfold okG
 cases e : inR least l.length
 ·rfl
 ·exact absurd (inR_iff.1 e) h

/-- as small as commands that are not heavy are -/
structure CmdS (c : CmdR) : Prop where
 nkeys : c.keys.length <= 100
 ntags : c.tags.length <= 100
 key : c.key.size <= 3000
 val : c.val.length <= 3000
 tag : c.tag.size <= 3000
 pre : c.pre.size <= 3000
 chi : c.chi.size <= 3000
 keys : ∀ x ∈ c.keys, x.size <= 3000
 tags : ∀ x ∈ c.tags, x.size <= 3000
 bytes : ∀ y ∈ c.val, 0 <= y /\ y < 256
 life : 0 <= c.life /\ c.life < 18446744073709551616
 ver : 0 <= c.ver /\ c.ver < 18446744073709551616
/-- the bytes of a command -/
def payG (c : CmdR) : List Int :=
 if c.op = 1 ∨ c.op = 2 then putS c.key ++ (putV c.val.length ++ c.val) ++ putG 0 c.tags ++ putV c.life.toNat
 else if c.op = 3 then putS c.key ++ (putV c.val.length ++ c.val) ++ putG 0 c.tags ++ putV c.life.toNat ++ putV c.ver.toNat
 else if c.op = 4 ∨ c.op = 7 ∨ c.op = 13 then putS c.key
 else if c.op = 5 then putG 1 c.keys
 else if c.op = 6 then putS c.key ++ putV c.life.toNat
 else if c.op = 8 ∨ c.op = 9 then putS c.tag
 else if c.op = 10 then putS c.pre
 else if c.op = 11 ∨ c.op = 12 then putS c.key ++ putS c.chi
 else []
/-- whether all parts that it needs are allowed -/
def okC (c : CmdR) : Bool :=
 if c.op = 1 ∨ c.op = 2 ∨ c.op = 3 then keyOk c.key && okG 0 tagOk c.tags && !(c.life == 0)
 else if c.op = 4 ∨ c.op = 7 ∨ c.op = 13 then keyOk c.key
 else if c.op = 5 then okG 1 keyOk c.keys
 else if c.op = 6 then keyOk c.key && !(c.life == 0)
 else if c.op = 8 ∨ c.op = 9 then tagOk c.tag
 else if c.op = 10 then preOk c.pre
 else if c.op = 11 ∨ c.op = 12 then keyOk c.key && keyOk c.chi
 else true
/-- the command with just those parts -/
def onlyC (c : CmdR) : CmdR :=
 if c.op = 1 ∨ c.op = 2 then ⟨c.op, c.key, [], c.val, c.tags, c.life, 0, eB, eB, eB⟩
 else if c.op = 3 then ⟨c.op, c.key, [], c.val, c.tags, c.life, c.ver, eB, eB, eB⟩
 else if c.op = 4 ∨ c.op = 7 ∨ c.op = 13 then ⟨c.op, c.key, [], [], [], 0, 0, eB, eB, eB⟩
 else if c.op = 5 then ⟨c.op, eB, c.keys, [], [], 0, 0, eB, eB, eB⟩
 else if c.op = 6 then ⟨c.op, c.key, [], [], [], c.life, 0, eB, eB, eB⟩
 else if c.op = 8 ∨ c.op = 9 then ⟨c.op, eB, [], [], [], 0, 0, c.tag, eB, eB⟩
 else if c.op = 10 then ⟨c.op, eB, [], [], [], 0, 0, eB, c.pre, eB⟩
 else if c.op = 11 ∨ c.op = 12 then ⟨c.op, c.key, [], [], [], 0, 0, eB, eB, c.chi⟩
 else ⟨c.op, eB, [], [], [], 0, 0, eB, eB, eB⟩

section
variable {w : World} {X C : Nat} {f : Nat -> Value} {out : List Int} {bad : Bool}
theorem WS.setbad (h : WS w X C f out bad) (b : Bool) : WS (w.setCell ⟨X, 3, none⟩ (.bool b)) X C f out b /\ Kept [X] w (w.setCell ⟨X, 3, none⟩ (.bool b)) := by
 have hk : Kept [X] w (w.setCell ⟨X, 3, none⟩ (.bool b)) := (Kept.refl _ _).setCell (by simp) _
 obtain ⟨h1, h2, v, h3, h4⟩ := h
 refine ⟨⟨h1, hk.row (by simp; exact fun e => h1 e.symm) h2, v, World.rowIs.congr (World.rowIs.set h3 3 _) fun i hi => ?_, h4.kept hk fun k hk => by simp at hk; simp [hk]⟩, hk⟩
 match i, hi with
 | 0, _ => rfl
 | 1, _ => rfl
 | 2, _ => rfl
 | 3, _ => rfl
theorem wg_key (k : Nat) (s : ByteArray) (h : WS w X C f out bad) (hk : k < 10) (hf : f k = .string s) (hs : s.size <= 3000) (hol : out.length <= 300000) :
  Calls Tryz.prog 307 #[.pointer (some ⟨X, 0, none⟩), .pointer (some ⟨C, k, none⟩), .func (.func 255) #[] #[]] w fun e w' => e = .returned (.tuple #[]) /\ WS w' X C f (out ++ putS s) (bad || !keyOk s) /\ Kept [X, C] w w' :=
 (ws_part k s 255 h hk hf key_enter (key127 s) (by omega) (by omega)).mono fun e w' ⟨e1, e2, e3⟩ => ⟨e1, e2.out_bad (by simp [putS, List.append_assoc]) rfl, e3.mono (by simp)⟩
theorem wg_tag (k : Nat) (s : ByteArray) (h : WS w X C f out bad) (hk : k < 10) (hf : f k = .string s) (hs : s.size <= 3000) (hol : out.length <= 300000) :
  Calls Tryz.prog 307 #[.pointer (some ⟨X, 0, none⟩), .pointer (some ⟨C, k, none⟩), .func (.func 193) #[] #[]] w fun e w' => e = .returned (.tuple #[]) /\ WS w' X C f (out ++ putS s) (bad || !tagOk s) /\ Kept [X, C] w w' :=
 (ws_part k s 193 h hk hf enter130 (tag130 s) (by omega) (by omega)).mono fun e w' ⟨e1, e2, e3⟩ => ⟨e1, e2.out_bad (by simp [putS, List.append_assoc]) rfl, e3.mono (by simp)⟩
theorem wg_pre (k : Nat) (s : ByteArray) (h : WS w X C f out bad) (hk : k < 10) (hf : f k = .string s) (hs : s.size <= 3000) (hol : out.length <= 300000) :
  Calls Tryz.prog 307 #[.pointer (some ⟨X, 0, none⟩), .pointer (some ⟨C, k, none⟩), .func (.func 312) #[] #[]] w fun e w' => e = .returned (.tuple #[]) /\ WS w' X C f (out ++ putS s) (bad || !preOk s) /\ Kept [X, C] w w' :=
 (ws_part k s 312 h hk hf enter133 (pre133 s) (by omega) (by omega)).mono fun e w' ⟨e1, e2, e3⟩ => ⟨e1, e2.out_bad (by simp [putS, List.append_assoc]) rfl, e3.mono (by simp)⟩
theorem wg_val (v : Value) (val : List Int) (h : WS w X C f out bad) (hf : f 3 = v) (hv : SlY w [X, C] v val) (hx : ∀ y ∈ val, 0 <= y /\ y < 256) (hl : val.length <= 65536) (hol : out.length <= 300000) :
  Calls Tryz.prog 308 #[.pointer (some ⟨X, 0, none⟩)] w fun e w' => e = .returned (.tuple #[]) /\ WS w' X C f (out ++ (putV val.length ++ val)) bad /\ Kept [X, C] w w' := by
 obtain ⟨A, c, rfl, hby, _⟩ := hv
 exact (ws_value A c val h hf hby hx hl (by omega)).mono fun e w' ⟨e1, e2, e3⟩ => ⟨e1, e2.out_bad (by simp [List.append_assoc]) rfl, e3.mono (by simp)⟩
theorem wg_life (m : Nat) (h : WS w X C f out bad) (hf : f 5 = .int .u64 m) (hm : m < 18446744073709551616) (hol : out.length <= 300000) :
  Calls Tryz.prog 310 #[.pointer (some ⟨X, 0, none⟩)] w fun e w' => e = .returned (.tuple #[]) /\ WS w' X C f (out ++ putV m) (bad || (m == 0)) /\ Kept [X, C] w w' :=
 ws_life m h hf hm (by omega)

theorem ws_list_no (k n least most N : Nat) (Al : Option Addr) (cl : Nat) (h : WS w X C f out bad) (hk : k < 10) (hf : f k = .slice Al n cl) (hno : n < least ∨ most < n) (hn : n <= 100) (hl : least <= 16) (hm : most <= 16) (hol : out.length <= 200000) :
  Calls Tryz.prog 309 #[.pointer (some ⟨X, 0, none⟩), .pointer (some ⟨C, k, none⟩), .int .i64 least, .int .i64 most, .func (.func N) #[] #[]] w fun e w' =>
   e = .returned (.tuple #[]) /\ WS w' X C f (out ++ putV n) true /\ Kept [X] w w' := by
 have HW := kp h
 obtain ⟨hXC, hC, v, hX, A, ca, rfl, hA, hAN⟩ := h
 have ck : w.cell? ⟨C, k, none⟩ = some (.slice Al n cl) := by rw [<- hf]; exact World.rowIs.cell hC hk
 have hXl := World.rowIs.lt hX
 have hb1 := below1 w (.cells #[.int .u64 n] 33)
 have hT : (w.alloc (.cells #[.int .u64 n] 33)).rowIs w.heap.size 33 1 (listF [.int .u64 n]) := row_list w [.int .u64 n] 33
 have hNW := number_write X w.heap.size 0 33 1 (listF [.int .u64 n]) n _ A ca out bad (w.alloc (.cells #[.int .u64 n] 33)) hT (by decide) rfl (by omega) (by omega) (World.rowIs.alloc hX _) ((hA.below hb1 (Nat.le_refl _)).mono hb1.size) (fun b off e hb => hAN b off e (by simp [hb])) (by omega)
 have HNW := kp hNW
 have HB1 := kp hb1
 have HT := kp hT
 have HNO := kp hno
 have HLB := kp hl
 have HMB := kp hm
 clear hNW hT hC hX hA hAN hb1 hno
 go_enter Tryz.func309, Tryz.ntmps309
 go_wp2_with fail
 refine HNW.out.mono ?_
 rintro e w2 ⟨rfl, v2, hX2, hS2, hk2⟩
 have hT2 : w2.rowIs w.heap.size 33 1 (listF [.int .u64 n]) := hk2.row (by simp; omega) HT.out
 have t20 : w2.cell? ⟨w.heap.size, 0, none⟩ = some (.int .u64 n) := World.rowIs.cell hT2 (i := 0) (by decide)
 have hkw : Kept [X] w w2 := (Kept.of_below HB1.out).trans hk2
 have hW2 : WS w2 X C f (out ++ putV n) bad := HW.out.next hX2 (by obtain ⟨A', c', e1, e2, e3⟩ := hS2; exact ⟨A', c', e1, e2, fun b off e => Nat.le_trans (by simp) (e3 b off e)⟩) hkw
 have x23 : w2.cell? ⟨X, 3, none⟩ = some (.bool bad) := World.rowIs.cell hX2 (i := 3) (by decide)
 have fx23 : w2.frozen? ⟨X, 3, none⟩ = false := World.rowIs.frozen hX2 3
 have HEND := kp (hW2.setbad true)
 have HKW := kp hkw
 clear hX2 hS2 hk2 hT2 hW2 hkw
 by_cases g1 : n < least
 ·go_wp2_with fail
  refine bodyPost_ret (results_none rfl _ _ _) rfl ?_
  exact ⟨rfl, HEND.out.1, HKW.out.trans HEND.out.2⟩
 ·have g2 : most < n := by have := HNO.out; omega
  go_wp2_with fail
  refine bodyPost_ret (results_none rfl _ _ _) rfl ?_
  exact ⟨rfl, HEND.out.1, HKW.out.trans HEND.out.2⟩
theorem wg_keys (k least : Nat) (v : Value) (strs : List ByteArray) (h : WS w X C f out bad) (hk : k < 10) (hf : f k = v) (hv : SlN w [X, C] v strs) (hs : ∀ s ∈ strs, s.size <= 3000) (hn : strs.length <= 100) (h1 : least <= 16) (hol : out.length <= 200000) :
  Calls Tryz.prog 309 #[.pointer (some ⟨X, 0, none⟩), .pointer (some ⟨C, k, none⟩), .int .i64 least, .int .i64 (16 : Nat), .func (.func 255) #[] #[]] w fun e w' => e = .returned (.tuple #[]) /\ WS w' X C f (out ++ putG least strs) (bad || !okG least keyOk strs) /\ Kept [X, C] w w' := by
 obtain ⟨A, c, rfl, hel, hne⟩ := hv
 by_cases hr : least <= strs.length /\ strs.length <= 16
 ·exact (ws_list k strs.length least 16 255 strs A c keyOk h hk hf rfl hel (fun b off e h => by have := hne b off e h; simp at this; exact this.1) key_enter (fun s _ => key127 s) hs hr.1 hr.2 (by omega) hol).mono fun e w' ⟨e1, e2, e3⟩ => ⟨e1, e2.out_bad (by rw [putG_yes hr]; simp [putLs, List.append_assoc]) (by rw [okG_yes hr]), e3.mono (by simp)⟩
 ·exact (ws_list_no k strs.length least 16 255 A c h hk hf (by omega) hn h1 (by omega) hol).mono fun e w' ⟨e1, e2, e3⟩ => ⟨e1, e2.out_bad (by rw [putG_no hr]) (by rw [okG_no hr]; simp), e3.mono (by simp)⟩
theorem wg_tags (k least : Nat) (v : Value) (strs : List ByteArray) (h : WS w X C f out bad) (hk : k < 10) (hf : f k = v) (hv : SlN w [X, C] v strs) (hs : ∀ s ∈ strs, s.size <= 3000) (hn : strs.length <= 100) (h1 : least <= 16) (hol : out.length <= 200000) :
  Calls Tryz.prog 309 #[.pointer (some ⟨X, 0, none⟩), .pointer (some ⟨C, k, none⟩), .int .i64 least, .int .i64 (16 : Nat), .func (.func 193) #[] #[]] w fun e w' => e = .returned (.tuple #[]) /\ WS w' X C f (out ++ putG least strs) (bad || !okG least tagOk strs) /\ Kept [X, C] w w' := by
 obtain ⟨A, c, rfl, hel, hne⟩ := hv
 by_cases hr : least <= strs.length /\ strs.length <= 16
 ·exact (ws_list k strs.length least 16 193 strs A c tagOk h hk hf rfl hel (fun b off e h => by have := hne b off e h; simp at this; exact this.1) enter130 (fun s _ => tag130 s) hs hr.1 hr.2 (by omega) hol).mono fun e w' ⟨e1, e2, e3⟩ => ⟨e1, e2.out_bad (by rw [putG_yes hr]; simp [putLs, List.append_assoc]) (by rw [okG_yes hr]), e3.mono (by simp)⟩
 ·exact (ws_list_no k strs.length least 16 193 A c h hk hf (by omega) hn h1 (by omega) hol).mono fun e w' ⟨e1, e2, e3⟩ => ⟨e1, e2.out_bad (by rw [putG_no hr]) (by rw [okG_no hr]; simp), e3.mono (by simp)⟩
end
/-- what a walk of the parts, written, begins with -/
structure PW (w : World) (X C : Nat) (c : CmdR) (vk vv vt : Value) : Prop where
 st : WS w X C (listF (cmdC c vk vv vt)) [] false
 keys : SlN w [X, C] vk c.keys
 val : SlY w [X, C] vv c.val
 tags : SlN w [X, C] vt c.tags
theorem PW.op {w : World} {X C : Nat} {c : CmdR} {vk vv vt : Value} (h : PW w X C c vk vv vt) : w.cell? ⟨X, 0, none⟩ = some (.pointer (some ⟨C, 0, none⟩)) /\ w.cell? ⟨C, 0, none⟩ = some (.int .i64 c.op) := by
 obtain ⟨h1, h2, v, h3, h4⟩ := h.st
 exact ⟨World.rowIs.cell h3 (i := 0) (by decide), World.rowIs.cell h2 (i := 0) (by decide)⟩
/-- what the walk ends with -/
def PG (w w' : World) (X C : Nat) (c : CmdR) (vk vv vt : Value) (out : List Int) (bad : Bool) : Prop := WS w' X C (listF (cmdC c vk vv vt)) out bad /\ Kept [X, C] w w'
theorem life_nat {c : CmdR} (h : CmdS c) : c.life = (c.life.toNat : Int) /\ c.life.toNat < 18446744073709551616 := by have := h.life; omega
theorem ver_nat {c : CmdR} (h : CmdS c) : c.ver = (c.ver.toNat : Int) /\ c.ver.toNat < 18446744073709551616 := by have := h.ver; omega
theorem life_zero {c : CmdR} (h : CmdS c) : (c.life.toNat == 0) = (c.life == 0) := by
 have := h.life
 rw [Bool.eq_iff_iff]
 simp
 omega
theorem parts_g_key (X C : Nat) (c : CmdR) (vk vv vt : Value) (w : World) (hs : CmdS c) (ho : c.op = 4 ∨ c.op = 7 ∨ c.op = 13) (h : PW w X C c vk vv vt) :
  Calls Tryz.prog 236 #[.pointer (some ⟨X, 0, none⟩)] w fun e w' => e = .returned (.tuple #[]) /\ PG w w' X C c vk vv vt (putS c.key) (!keyOk c.key) := by
 have c0 := h.op.1
 have d0 := h.op.2
 have H0 := kp h.st
 have HV := kp h.val
 have HT := kp h.tags
 have HKY := kp h.keys
 have HSZ := kp hs
 clear h hs
 rcases ho with ho | ho | ho
 all_goals
  rw [ho] at d0
  go_enter Tryz.func236, Tryz.ntmps236
  go_wp2_with fail
  refine (wg_key 1 c.key H0.out (by decide) rfl HSZ.out.key (by simp)).mono ?_
  rintro e w1 ⟨rfl, s1, k1⟩
  have K1 := kp ((Kept.refl _ _).trans (k1.mono (L' := [X, C]) (by simp)))
  have H1 := kp s1
  clear s1 k1
  go_wp2_with fail
  go_end0
  exact ⟨rfl, H1.out.out_bad (by simp) (by cases keyOk c.key <;> simp), K1.out⟩
theorem parts_g_mget (X C : Nat) (c : CmdR) (vk vv vt : Value) (w : World) (hs : CmdS c) (ho : c.op = 5) (h : PW w X C c vk vv vt) :
  Calls Tryz.prog 236 #[.pointer (some ⟨X, 0, none⟩)] w fun e w' => e = .returned (.tuple #[]) /\ PG w w' X C c vk vv vt (putG 1 c.keys) (!okG 1 keyOk c.keys) := by
 have c0 := h.op.1
 have d0 := h.op.2
 have H0 := kp h.st
 have HV := kp h.val
 have HT := kp h.tags
 have HKY := kp h.keys
 have HSZ := kp hs
 clear h hs
 rcases ho with ho
 all_goals
  rw [ho] at d0
  go_enter Tryz.func236, Tryz.ntmps236
  go_wp2_with fail
  refine (wg_keys 2 1 vk c.keys H0.out (by decide) rfl HKY.out HSZ.out.keys HSZ.out.nkeys (by decide) (by simp)).mono ?_
  rintro e w1 ⟨rfl, s1, k1⟩
  have K1 := kp ((Kept.refl _ _).trans (k1.mono (L' := [X, C]) (by simp)))
  have H1 := kp s1
  clear s1 k1
  go_wp2_with fail
  go_end0
  exact ⟨rfl, H1.out.out_bad (by simp) (by cases keyOk c.key <;> simp), K1.out⟩
theorem parts_g_touch (X C : Nat) (c : CmdR) (vk vv vt : Value) (w : World) (hs : CmdS c) (ho : c.op = 6) (h : PW w X C c vk vv vt) :
  Calls Tryz.prog 236 #[.pointer (some ⟨X, 0, none⟩)] w fun e w' => e = .returned (.tuple #[]) /\ PG w w' X C c vk vv vt (putS c.key ++ putV c.life.toNat) (!keyOk c.key || (c.life.toNat == 0)) := by
 have c0 := h.op.1
 have d0 := h.op.2
 have hsl := putS_len3 hs.key
 have H0 := kp h.st
 have HV := kp h.val
 have HT := kp h.tags
 have HKY := kp h.keys
 have HSZ := kp hs
 clear h hs
 rcases ho with ho
 all_goals
  rw [ho] at d0
  go_enter Tryz.func236, Tryz.ntmps236
  go_wp2_with fail
  refine (wg_key 1 c.key H0.out (by decide) rfl HSZ.out.key (by simp)).mono ?_
  rintro e w1 ⟨rfl, s1, k1⟩
  have K1 := kp ((Kept.refl _ _).trans (k1.mono (L' := [X, C]) (by simp)))
  have H1 := kp s1
  clear s1 k1
  go_wp2_with fail
  refine (wg_life c.life.toNat H1.out (congrArg (Value.int .u64) (life_nat HSZ.out).1) (life_nat HSZ.out).2 (by simp; omega)).mono ?_
  rintro e w2 ⟨rfl, s2, k2⟩
  have K2 := kp (K1.out.trans (k2.mono (L' := [X, C]) (by simp)))
  have H2 := kp s2
  clear s2 k2
  go_wp2_with fail
  go_end0
  exact ⟨rfl, H2.out.out_bad (by simp) (by cases keyOk c.key <;> simp), K2.out⟩
theorem parts_g_tag (X C : Nat) (c : CmdR) (vk vv vt : Value) (w : World) (hs : CmdS c) (ho : c.op = 8 ∨ c.op = 9) (h : PW w X C c vk vv vt) :
  Calls Tryz.prog 236 #[.pointer (some ⟨X, 0, none⟩)] w fun e w' => e = .returned (.tuple #[]) /\ PG w w' X C c vk vv vt (putS c.tag) (!tagOk c.tag) := by
 have c0 := h.op.1
 have d0 := h.op.2
 have H0 := kp h.st
 have HV := kp h.val
 have HT := kp h.tags
 have HKY := kp h.keys
 have HSZ := kp hs
 clear h hs
 rcases ho with ho | ho
 all_goals
  rw [ho] at d0
  go_enter Tryz.func236, Tryz.ntmps236
  go_wp2_with fail
  refine (wg_tag 7 c.tag H0.out (by decide) rfl HSZ.out.tag (by simp)).mono ?_
  rintro e w1 ⟨rfl, s1, k1⟩
  have K1 := kp ((Kept.refl _ _).trans (k1.mono (L' := [X, C]) (by simp)))
  have H1 := kp s1
  clear s1 k1
  go_wp2_with fail
  go_end0
  exact ⟨rfl, H1.out.out_bad (by simp) (by cases keyOk c.key <;> simp), K1.out⟩
theorem parts_g_pre (X C : Nat) (c : CmdR) (vk vv vt : Value) (w : World) (hs : CmdS c) (ho : c.op = 10) (h : PW w X C c vk vv vt) :
  Calls Tryz.prog 236 #[.pointer (some ⟨X, 0, none⟩)] w fun e w' => e = .returned (.tuple #[]) /\ PG w w' X C c vk vv vt (putS c.pre) (!preOk c.pre) := by
 have c0 := h.op.1
 have d0 := h.op.2
 have H0 := kp h.st
 have HV := kp h.val
 have HT := kp h.tags
 have HKY := kp h.keys
 have HSZ := kp hs
 clear h hs
 rcases ho with ho
 all_goals
  rw [ho] at d0
  go_enter Tryz.func236, Tryz.ntmps236
  go_wp2_with fail
  refine (wg_pre 8 c.pre H0.out (by decide) rfl HSZ.out.pre (by simp)).mono ?_
  rintro e w1 ⟨rfl, s1, k1⟩
  have K1 := kp ((Kept.refl _ _).trans (k1.mono (L' := [X, C]) (by simp)))
  have H1 := kp s1
  clear s1 k1
  go_wp2_with fail
  go_end0
  exact ⟨rfl, H1.out.out_bad (by simp) (by cases keyOk c.key <;> simp), K1.out⟩
theorem parts_g_dep (X C : Nat) (c : CmdR) (vk vv vt : Value) (w : World) (hs : CmdS c) (ho : c.op = 11 ∨ c.op = 12) (h : PW w X C c vk vv vt) :
  Calls Tryz.prog 236 #[.pointer (some ⟨X, 0, none⟩)] w fun e w' => e = .returned (.tuple #[]) /\ PG w w' X C c vk vv vt (putS c.key ++ putS c.chi) (!keyOk c.key || !keyOk c.chi) := by
 have c0 := h.op.1
 have d0 := h.op.2
 have hsl := putS_len3 hs.key
 have H0 := kp h.st
 have HV := kp h.val
 have HT := kp h.tags
 have HKY := kp h.keys
 have HSZ := kp hs
 clear h hs
 rcases ho with ho | ho
 all_goals
  rw [ho] at d0
  go_enter Tryz.func236, Tryz.ntmps236
  go_wp2_with fail
  refine (wg_key 1 c.key H0.out (by decide) rfl HSZ.out.key (by simp)).mono ?_
  rintro e w1 ⟨rfl, s1, k1⟩
  have K1 := kp ((Kept.refl _ _).trans (k1.mono (L' := [X, C]) (by simp)))
  have H1 := kp s1
  clear s1 k1
  go_wp2_with fail
  refine (wg_key 9 c.chi H1.out (by decide) rfl HSZ.out.chi (by simp; omega)).mono ?_
  rintro e w2 ⟨rfl, s2, k2⟩
  have K2 := kp (K1.out.trans (k2.mono (L' := [X, C]) (by simp)))
  have H2 := kp s2
  clear s2 k2
  go_wp2_with fail
  go_end0
  exact ⟨rfl, H2.out.out_bad (by simp) (by cases keyOk c.key <;> simp), K2.out⟩
theorem parts_g_none (X C : Nat) (c : CmdR) (vk vv vt : Value) (w : World) (ho : c.op = 14 ∨ c.op = 15) (h : PW w X C c vk vv vt) :
  Calls Tryz.prog 236 #[.pointer (some ⟨X, 0, none⟩)] w fun e w' => e = .returned (.tuple #[]) /\ PG w w' X C c vk vv vt [] false := by
 have c0 := h.op.1
 have d0 := h.op.2
 have H := kp h
 clear h
 rcases ho with ho | ho
 all_goals
  rw [ho] at d0
  go_enter Tryz.func236, Tryz.ntmps236
  go_wp2_with fail
  go_end0
  exact ⟨rfl, H.out.st, Kept.refl _ _⟩
theorem parts_g_set (X C : Nat) (c : CmdR) (vk vv vt : Value) (w : World) (hs : CmdS c) (ho : c.op = 1 ∨ c.op = 2) (h : PW w X C c vk vv vt) :
  Calls Tryz.prog 236 #[.pointer (some ⟨X, 0, none⟩)] w fun e w' => e = .returned (.tuple #[]) /\ PG w w' X C c vk vv vt (putS c.key ++ (putV c.val.length ++ c.val) ++ putG 0 c.tags ++ putV c.life.toNat) (!keyOk c.key || !okG 0 tagOk c.tags || (c.life.toNat == 0)) := by
 have c0 := h.op.1
 have d0 := h.op.2
 have hsl := putS_len3 hs.key
 have hvv := putV_len10 (n := c.val.length) (by have := hs.val; omega)
 have hvl := hs.val
 have htt := putG_len (least := 0) hs.tags hs.ntags
 have hll := putV_len10 (life_nat hs).2
 have H0 := kp h.st
 have HV := kp h.val
 have HT := kp h.tags
 have HKY := kp h.keys
 have HSZ := kp hs
 clear h hs
 rcases ho with ho | ho
 all_goals
  rw [ho] at d0
  go_enter Tryz.func236, Tryz.ntmps236
  go_wp2_with fail
  refine (wg_key 1 c.key H0.out (by decide) rfl HSZ.out.key (by simp)).mono ?_
  rintro e w1 ⟨rfl, s1, k1⟩
  have K1 := kp ((Kept.refl _ _).trans (k1.mono (L' := [X, C]) (by simp)))
  have H1 := kp s1
  clear s1 k1
  go_wp2_with fail
  refine (wg_val vv c.val H1.out rfl (HV.out.kept K1.out fun _ h => h) HSZ.out.bytes (by omega) (by simp; omega)).mono ?_
  rintro e w2 ⟨rfl, s2, k2⟩
  have K2 := kp (K1.out.trans (k2.mono (L' := [X, C]) (by simp)))
  have H2 := kp s2
  clear s2 k2
  go_wp2_with fail
  refine (wg_tags 4 0 vt c.tags H2.out (by decide) rfl (HT.out.kept K2.out fun _ h => h) HSZ.out.tags HSZ.out.ntags (by decide) (by simp; omega)).mono ?_
  rintro e w3 ⟨rfl, s3, k3⟩
  have K3 := kp (K2.out.trans (k3.mono (L' := [X, C]) (by simp)))
  have H3 := kp s3
  clear s3 k3
  go_wp2_with fail
  refine (wg_life c.life.toNat H3.out (congrArg (Value.int .u64) (life_nat HSZ.out).1) (life_nat HSZ.out).2 (by simp; omega)).mono ?_
  rintro e w4 ⟨rfl, s4, k4⟩
  have d4 : w4.cell? ⟨C, 0, none⟩ = some (.int .i64 c.op) := World.rowIs.cell s4.2.1 (i := 0) (by decide)
  rw [ho] at d4
  have K4 := kp (K3.out.trans (k4.mono (L' := [X, C]) (by simp)))
  have H4 := kp s4
  clear s4 k4
  go_wp2_with fail
  go_end0
  exact ⟨rfl, H4.out.out_bad (by simp) (by cases keyOk c.key <;> simp), K4.out⟩
theorem parts_g_cas (X C : Nat) (c : CmdR) (vk vv vt : Value) (w : World) (hs : CmdS c) (ho : c.op = 3) (h : PW w X C c vk vv vt) :
  Calls Tryz.prog 236 #[.pointer (some ⟨X, 0, none⟩)] w fun e w' => e = .returned (.tuple #[]) /\ PG w w' X C c vk vv vt (putS c.key ++ (putV c.val.length ++ c.val) ++ putG 0 c.tags ++ putV c.life.toNat ++ putV c.ver.toNat) (!keyOk c.key || !okG 0 tagOk c.tags || (c.life.toNat == 0)) := by
 have c0 := h.op.1
 have d0 := h.op.2
 have hsl := putS_len3 hs.key
 have hvv := putV_len10 (n := c.val.length) (by have := hs.val; omega)
 have hvl := hs.val
 have htt := putG_len (least := 0) hs.tags hs.ntags
 have hll := putV_len10 (life_nat hs).2
 have H0 := kp h.st
 have HV := kp h.val
 have HT := kp h.tags
 have HKY := kp h.keys
 have HSZ := kp hs
 clear h hs
 rcases ho with ho
 all_goals
  rw [ho] at d0
  go_enter Tryz.func236, Tryz.ntmps236
  go_wp2_with fail
  refine (wg_key 1 c.key H0.out (by decide) rfl HSZ.out.key (by simp)).mono ?_
  rintro e w1 ⟨rfl, s1, k1⟩
  have K1 := kp ((Kept.refl _ _).trans (k1.mono (L' := [X, C]) (by simp)))
  have H1 := kp s1
  clear s1 k1
  go_wp2_with fail
  refine (wg_val vv c.val H1.out rfl (HV.out.kept K1.out fun _ h => h) HSZ.out.bytes (by omega) (by simp; omega)).mono ?_
  rintro e w2 ⟨rfl, s2, k2⟩
  have K2 := kp (K1.out.trans (k2.mono (L' := [X, C]) (by simp)))
  have H2 := kp s2
  clear s2 k2
  go_wp2_with fail
  refine (wg_tags 4 0 vt c.tags H2.out (by decide) rfl (HT.out.kept K2.out fun _ h => h) HSZ.out.tags HSZ.out.ntags (by decide) (by simp; omega)).mono ?_
  rintro e w3 ⟨rfl, s3, k3⟩
  have K3 := kp (K2.out.trans (k3.mono (L' := [X, C]) (by simp)))
  have H3 := kp s3
  clear s3 k3
  go_wp2_with fail
  refine (wg_life c.life.toNat H3.out (congrArg (Value.int .u64) (life_nat HSZ.out).1) (life_nat HSZ.out).2 (by simp; omega)).mono ?_
  rintro e w4 ⟨rfl, s4, k4⟩
  have d4 : w4.cell? ⟨C, 0, none⟩ = some (.int .i64 c.op) := World.rowIs.cell s4.2.1 (i := 0) (by decide)
  rw [ho] at d4
  have K4 := kp (K3.out.trans (k4.mono (L' := [X, C]) (by simp)))
  have H4 := kp s4
  clear s4 k4
  go_wp2_with fail
  refine (ws_number 6 c.ver.toNat H4.out (by decide) (congrArg (Value.int .u64) (ver_nat HSZ.out).1) (ver_nat HSZ.out).2 (by simp; omega)).mono ?_
  rintro e w5 ⟨rfl, s5, k5⟩
  have K5 := kp (K4.out.trans (k5.mono (L' := [X, C]) (by simp)))
  have H5 := kp s5
  clear s5 k5
  go_wp2_with fail
  go_end0
  exact ⟨rfl, H5.out.out_bad (by simp) (by cases keyOk c.key <;> simp), K5.out⟩
theorem parts_g_any {X C : Nat} {c : CmdR} {vk vv vt : Value} {w : World} (hs : CmdS c) (ho : 1 <= c.op /\ c.op <= 15) (h : PW w X C c vk vv vt) :
  Calls Tryz.prog 236 #[.pointer (some ⟨X, 0, none⟩)] w fun e w' => e = .returned (.tuple #[]) /\ PG w w' X C c vk vv vt (payG c) (!okC c) := by
 have hz := life_zero hs
 obtain ⟨op, key, keys, val, tags, life, ver, tag, pre, chi⟩ := c
 simp only at ho
 have hop : op = 1 ∨ op = 2 ∨ op = 3 ∨ op = 4 ∨ op = 5 ∨ op = 6 ∨ op = 7 ∨ op = 8 ∨ op = 9 ∨ op = 10 ∨ op = 11 ∨ op = 12 ∨ op = 13 ∨ op = 14 ∨ op = 15 := by omega
 rcases hop with rfl | rfl | rfl | rfl | rfl | rfl | rfl | rfl | rfl | rfl | rfl | rfl | rfl | rfl | rfl
 iterate 2
  ·exact (parts_g_set X C _ vk vv vt w hs (by simp) h).mono fun e w' ⟨e1, e2, e3⟩ => ⟨e1, e2.out_bad (by simp [payG]) (by simp only [hz]; simp [okC, Bool.not_and]), e3⟩
 ·exact (parts_g_cas X C _ vk vv vt w hs (by simp) h).mono fun e w' ⟨e1, e2, e3⟩ => ⟨e1, e2.out_bad (by simp [payG]) (by simp only [hz]; simp [okC, Bool.not_and]), e3⟩
 ·exact (parts_g_key X C _ vk vv vt w hs (by simp) h).mono fun e w' ⟨e1, e2, e3⟩ => ⟨e1, e2.out_bad (by simp [payG]) (by simp [okC]), e3⟩
 ·exact (parts_g_mget X C _ vk vv vt w hs (by simp) h).mono fun e w' ⟨e1, e2, e3⟩ => ⟨e1, e2.out_bad (by simp [payG]) (by simp [okC]), e3⟩
 ·exact (parts_g_touch X C _ vk vv vt w hs (by simp) h).mono fun e w' ⟨e1, e2, e3⟩ => ⟨e1, e2.out_bad (by simp [payG]) (by simp only [hz]; simp [okC, Bool.not_and]), e3⟩
 ·exact (parts_g_key X C _ vk vv vt w hs (by simp) h).mono fun e w' ⟨e1, e2, e3⟩ => ⟨e1, e2.out_bad (by simp [payG]) (by simp [okC]), e3⟩
 ·exact (parts_g_tag X C _ vk vv vt w hs (by simp) h).mono fun e w' ⟨e1, e2, e3⟩ => ⟨e1, e2.out_bad (by simp [payG]) (by simp [okC]), e3⟩
 ·exact (parts_g_tag X C _ vk vv vt w hs (by simp) h).mono fun e w' ⟨e1, e2, e3⟩ => ⟨e1, e2.out_bad (by simp [payG]) (by simp [okC]), e3⟩
 ·exact (parts_g_pre X C _ vk vv vt w hs (by simp) h).mono fun e w' ⟨e1, e2, e3⟩ => ⟨e1, e2.out_bad (by simp [payG]) (by simp [okC]), e3⟩
 ·exact (parts_g_dep X C _ vk vv vt w hs (by simp) h).mono fun e w' ⟨e1, e2, e3⟩ => ⟨e1, e2.out_bad (by simp [payG]) (by simp [okC, Bool.not_and]), e3⟩
 ·exact (parts_g_dep X C _ vk vv vt w hs (by simp) h).mono fun e w' ⟨e1, e2, e3⟩ => ⟨e1, e2.out_bad (by simp [payG]) (by simp [okC, Bool.not_and]), e3⟩
 ·exact (parts_g_key X C _ vk vv vt w hs (by simp) h).mono fun e w' ⟨e1, e2, e3⟩ => ⟨e1, e2.out_bad (by simp [payG]) (by simp [okC]), e3⟩
 ·exact (parts_g_none X C _ vk vv vt w (by simp) h).mono fun e w' ⟨e1, e2, e3⟩ => ⟨e1, e2.out_bad (by simp [payG]) (by simp [okC]), e3⟩
 ·exact (parts_g_none X C _ vk vv vt w (by simp) h).mono fun e w' ⟨e1, e2, e3⟩ => ⟨e1, e2.out_bad (by simp [payG]) (by simp [okC]), e3⟩
section
variable {w : World} {NL : List Nat} {X C R : Nat} {f : Nat -> Value} {rest : List Int} {bad : Bool}
theorem rg_key (k : Nat) (s u0 : ByteArray) (h : RS w NL X C R f (putS s ++ rest) bad) (hk : k < 10) (hf : f k = .string u0) (hs : s.size <= 3000) (hrl : rest.length <= 300000) :
  Calls Tryz.prog 307 #[.pointer (some ⟨X, 0, none⟩), .pointer (some ⟨C, k, none⟩), .func (.func 255) #[] #[]] w fun e w' => e = .returned (.tuple #[]) /\ RS w' NL X C R (updF f k (.string s)) rest (bad || !keyOk s) /\ Kept [X, C, R] w w' :=
 rs_part k s u0 255 (h.bad (by simp [putS, List.append_assoc]) rfl) hk hf key_enter (key127 s) (by omega) (by omega)
theorem rg_tag (k : Nat) (s u0 : ByteArray) (h : RS w NL X C R f (putS s ++ rest) bad) (hk : k < 10) (hf : f k = .string u0) (hs : s.size <= 3000) (hrl : rest.length <= 300000) :
  Calls Tryz.prog 307 #[.pointer (some ⟨X, 0, none⟩), .pointer (some ⟨C, k, none⟩), .func (.func 193) #[] #[]] w fun e w' => e = .returned (.tuple #[]) /\ RS w' NL X C R (updF f k (.string s)) rest (bad || !tagOk s) /\ Kept [X, C, R] w w' :=
 rs_part k s u0 193 (h.bad (by simp [putS, List.append_assoc]) rfl) hk hf enter130 (tag130 s) (by omega) (by omega)
theorem rg_pre (k : Nat) (s u0 : ByteArray) (h : RS w NL X C R f (putS s ++ rest) bad) (hk : k < 10) (hf : f k = .string u0) (hs : s.size <= 3000) (hrl : rest.length <= 300000) :
  Calls Tryz.prog 307 #[.pointer (some ⟨X, 0, none⟩), .pointer (some ⟨C, k, none⟩), .func (.func 312) #[] #[]] w fun e w' => e = .returned (.tuple #[]) /\ RS w' NL X C R (updF f k (.string s)) rest (bad || !preOk s) /\ Kept [X, C, R] w w' :=
 rs_part k s u0 312 (h.bad (by simp [putS, List.append_assoc]) rfl) hk hf enter133 (pre133 s) (by omega) (by omega)
theorem rg_val (val : List Int) (h : RS w NL X C R f (putV val.length ++ val ++ rest) bad) (hf : f 3 = .slice none 0 0) (hx : ∀ y ∈ val, 0 <= y /\ y < 256) (hl : val.length <= 65536) (hrl : rest.length <= 300000) :
  Calls Tryz.prog 308 #[.pointer (some ⟨X, 0, none⟩)] w fun e w' => e = .returned (.tuple #[]) /\ ∃ vv, RS w' NL X C R (updF f 3 vv) rest bad /\ SlX w' [X, C, R] vv val /\ Kept [X, C, R] w w' := by
 have h1 := nums_size val
 have h2 := nums_bytes hx
 have := rs_value (strOfNums val) (w := w) (rest := rest) (h.bad (by rw [h1, h2]; simp [List.append_assoc]) rfl) hf (by omega) (by omega)
 rwa [h2] at this
theorem rg_life (m : Nat) (h : RS w NL X C R f (putV m ++ rest) bad) (hf : f 5 = .int .u64 0) (hm : m < 18446744073709551616) (hrl : rest.length <= 300000) :
  Calls Tryz.prog 310 #[.pointer (some ⟨X, 0, none⟩)] w fun e w' => e = .returned (.tuple #[]) /\ RS w' NL X C R (updF f 5 (.int .u64 m)) rest (bad || (m == 0)) /\ Kept [X, C, R] w w' :=
 rs_life m 0 h hf (by omega) hm (by omega)
theorem rs_list_no (k n least most N : Nat) (h : RS w NL X C R f (putV n ++ rest) bad) (hk : k < 10) (hf : f k = .slice none 0 0) (hno : n < least ∨ most < n) (hn : n <= 100) (hl : least <= 16) (hm : most <= 16) (hrl : rest.length <= 200000) :
  Calls Tryz.prog 309 #[.pointer (some ⟨X, 0, none⟩), .pointer (some ⟨C, k, none⟩), .int .i64 least, .int .i64 most, .func (.func N) #[] #[]] w fun e w' =>
   e = .returned (.tuple #[]) /\ RS w' NL X C R f rest true /\ Kept [X, C, R] w w' := by
 obtain ⟨hXl, hCl, hRl⟩ := h.lt
 have ck : w.cell? ⟨C, k, none⟩ = some (.slice none 0 0) := by rw [<- hf]; exact World.rowIs.cell h.2.2.2.1 hk
 have hb1 := below1 w (.cells #[.int .u64 0] 33)
 have hT : (w.alloc (.cells #[.int .u64 0] 33)).rowIs w.heap.size 33 1 (listF [.int .u64 0]) := row_list w [.int .u64 0] 33
 have hp := putV_pos (m := n)
 have hNW := rs_number_at (k := 0) n 0 ((h.below hb1).more w (Nat.le_refl _) h (by rw [List.length_append]; omega) hb1) hT (by omega) (by omega) (by omega) List.mem_cons_self (by decide) rfl (by omega) (by omega)
 have HNW := kp hNW
 have HB1 := kp hb1
 have HNL := kp h.2.2.2.2.2.1
 have HNO := kp hno
 have HLB := kp hl
 have HMB := kp hm
 clear hNW hT hb1 hno h
 go_enter Tryz.func309, Tryz.ntmps309
 go_wp2_with fail
 refine HNW.out.mono ?_
 rintro e w2 ⟨rfl, hR2, hT2, hk2⟩
 have hR2 := hR2.less (fun k hk => List.mem_cons_of_mem _ hk) HNL.out
 have t20 : w2.cell? ⟨w.heap.size, 0, none⟩ = some (.int .u64 n) := World.rowIs.cell hT2 (i := 0) (by decide)
 have hkw : Kept [X, C, R] w w2 := ((Kept.of_below HB1.out).trans (hk2.mono (by simp))).cut3
 have x23 : w2.cell? ⟨X, 3, none⟩ = some (.bool bad) := World.rowIs.cell hR2.2.2.2.2.1 (i := 3) (by decide)
 have fx23 : w2.frozen? ⟨X, 3, none⟩ = false := World.rowIs.frozen hR2.2.2.2.2.1 3
 have HEND := kp (hR2.setbad true)
 have HKW := kp hkw
 clear hT2 hk2 hR2 hkw
 by_cases g1 : n < least
 ·go_wp2_with fail
  refine bodyPost_ret (results_none rfl _ _ _) rfl ?_
  exact ⟨rfl, HEND.out.1, HKW.out.trans (HEND.out.2.mono (by simp))⟩
 ·have g2 : most < n := by have := HNO.out; omega
  go_wp2_with fail
  refine bodyPost_ret (results_none rfl _ _ _) rfl ?_
  exact ⟨rfl, HEND.out.1, HKW.out.trans (HEND.out.2.mono (by simp))⟩
theorem rg_keys (k least : Nat) (strs : List ByteArray) (h : RS w NL X C R f (putG least strs ++ rest) bad) (hk : k < 10) (hf : f k = .slice none 0 0) (hs : ∀ s ∈ strs, s.size <= 3000) (hn : strs.length <= 100) (h1 : least <= 16) (hrl : rest.length <= 100000) :
  Calls Tryz.prog 309 #[.pointer (some ⟨X, 0, none⟩), .pointer (some ⟨C, k, none⟩), .int .i64 least, .int .i64 (16 : Nat), .func (.func 255) #[] #[]] w fun e w' => e = .returned (.tuple #[]) /\ ∃ vt, RS w' NL X C R (updF f k vt) rest (bad || !okG least keyOk strs) /\ (okG least keyOk strs = true -> SlN w' [X, C, R] vt strs) /\ Kept [X, C, R] w w' := by
 by_cases hr : least <= strs.length /\ strs.length <= 16
 ·rw [putG_yes hr] at h
  rw [okG_yes hr]
  exact (rs_list k strs.length least 16 255 strs keyOk (h.bad (by simp [putLs, List.append_assoc]) rfl) hk hf rfl key_enter (fun s _ => key127 s) hs hr.1 hr.2 (by omega) (by omega)).mono fun e w' ⟨e1, vt, e2, e3, e4⟩ => ⟨e1, vt, e2, fun _ => e3, e4⟩
 ·rw [putG_no hr] at h
  rw [okG_no hr]
  refine (rs_list_no k strs.length least 16 255 h hk hf (by omega) hn h1 (by omega) (by omega)).mono fun e w' ⟨e1, e2, e3⟩ => ⟨e1, .slice none 0 0, (e2.bad rfl (by simp)).row fun i hi => ?_, by simp, e3⟩
  by_cases e : i = k
  ·subst e; simp [updF, hf]
  ·simp [updF, e]
theorem rg_tags (k least : Nat) (strs : List ByteArray) (h : RS w NL X C R f (putG least strs ++ rest) bad) (hk : k < 10) (hf : f k = .slice none 0 0) (hs : ∀ s ∈ strs, s.size <= 3000) (hn : strs.length <= 100) (h1 : least <= 16) (hrl : rest.length <= 100000) :
  Calls Tryz.prog 309 #[.pointer (some ⟨X, 0, none⟩), .pointer (some ⟨C, k, none⟩), .int .i64 least, .int .i64 (16 : Nat), .func (.func 193) #[] #[]] w fun e w' => e = .returned (.tuple #[]) /\ ∃ vt, RS w' NL X C R (updF f k vt) rest (bad || !okG least tagOk strs) /\ (okG least tagOk strs = true -> SlN w' [X, C, R] vt strs) /\ Kept [X, C, R] w w' := by
 by_cases hr : least <= strs.length /\ strs.length <= 16
 ·rw [putG_yes hr] at h
  rw [okG_yes hr]
  exact (rs_list k strs.length least 16 193 strs tagOk (h.bad (by simp [putLs, List.append_assoc]) rfl) hk hf rfl enter130 (fun s _ => tag130 s) hs hr.1 hr.2 (by omega) (by omega)).mono fun e w' ⟨e1, vt, e2, e3, e4⟩ => ⟨e1, vt, e2, fun _ => e3, e4⟩
 ·rw [putG_no hr] at h
  rw [okG_no hr]
  refine (rs_list_no k strs.length least 16 193 h hk hf (by omega) hn h1 (by omega) (by omega)).mono fun e w' ⟨e1, e2, e3⟩ => ⟨e1, .slice none 0 0, (e2.bad rfl (by simp)).row fun i hi => ?_, by simp, e3⟩
  by_cases e : i = k
  ·subst e; simp [updF, hf]
  ·simp [updF, e]
end

/-- what a walk of the parts, read, ends with -/
def RG (w w' : World) (NL : List Nat) (X C R : Nat) (c : CmdR) (bad : Bool) : Prop := ∃ vk vv vt, RS w' NL X C R (listF (cmdC c vk vv vt)) [] bad /\ (bad = false -> SlN w' [X, C, R] vk c.keys /\ SlX w' [X, C, R] vv c.val /\ SlN w' [X, C, R] vt c.tags) /\ Kept [X, C, R] w w'
theorem SlX.nil (w : World) (N : List Nat) : SlX w N (.slice none 0 0) [] := ⟨none, 0, rfl, Byt.nil _ _, by simp⟩
theorem RS.op {w : World} {NL : List Nat} {X C R : Nat} {f : Nat -> Value} {rest : List Int} {bad : Bool} {op : Int} (h : RS w NL X C R f rest bad) (hf : f 0 = .int .i64 op) : w.cell? ⟨X, 0, none⟩ = some (.pointer (some ⟨C, 0, none⟩)) /\ w.cell? ⟨C, 0, none⟩ = some (.int .i64 op) :=
 ⟨World.rowIs.cell h.2.2.2.2.1 (i := 0) (by decide), by rw [<- hf]; exact World.rowIs.cell h.2.2.2.1 (i := 0) (by decide)⟩
theorem parts_s_key (NL : List Nat) (X C R : Nat) (op : Int) (k : ByteArray) (ho : op = 4 ∨ op = 7 ∨ op = 13) (hk : k.size <= 3000) (w : World) (h : RS w NL X C R (listF (cmdL op ⟨#[]⟩)) (putS k) false) :
  Calls Tryz.prog 236 #[.pointer (some ⟨X, 0, none⟩)] w fun e w' => e = .returned (.tuple #[]) /\ RG w w' NL X C R ⟨op, k, [], [], [], 0, 0, eB, eB, eB⟩ (!keyOk k) := by
 obtain ⟨c0, d0⟩ := h.op rfl
 have H := kp h
 clear h
 rcases ho with rfl | rfl | rfl
 all_goals
  go_enter Tryz.func236, Tryz.ntmps236
  go_wp2_with fail
  refine (rg_key (rest := []) 1 k ⟨#[]⟩ (H.out.bad (by simp) rfl) (by decide) rfl hk (by simp)).mono ?_
  rintro e w1 ⟨rfl, h1, k1⟩
  have H1 := kp h1
  have K1 := kp k1
  clear h1 k1
  go_wp2_with fail
  go_end0
  refine ⟨rfl, .slice none 0 0, .slice none 0 0, .slice none 0 0, (H1.out.bad rfl (by simp)).row fun i hi => ?_, fun hb => ⟨SlN.nil _ _, SlX.nil _ _, SlN.nil _ _⟩, K1.out⟩
  match i, hi with
  | 0, _ => rfl
  | 1, _ => rfl
  | 2, _ => rfl
  | 3, _ => rfl
  | 4, _ => rfl
  | 5, _ => rfl
  | 6, _ => rfl
  | 7, _ => rfl
  | 8, _ => rfl
  | 9, _ => rfl
theorem parts_s_mget (NL : List Nat) (X C R : Nat) (op : Int) (keys : List ByteArray) (ho : op = 5) (hk : ∀ s ∈ keys, s.size <= 3000) (hn : keys.length <= 100) (w : World) (h : RS w NL X C R (listF (cmdL op ⟨#[]⟩)) (putG 1 keys) false) :
  Calls Tryz.prog 236 #[.pointer (some ⟨X, 0, none⟩)] w fun e w' => e = .returned (.tuple #[]) /\ RG w w' NL X C R ⟨op, eB, keys, [], [], 0, 0, eB, eB, eB⟩ (!okG 1 keyOk keys) := by
 obtain ⟨c0, d0⟩ := h.op rfl
 have H := kp h
 clear h
 rcases ho with rfl
 all_goals
  go_enter Tryz.func236, Tryz.ntmps236
  go_wp2_with fail
  refine (rg_keys (rest := []) 2 1 keys (H.out.bad (by simp) rfl) (by decide) rfl hk hn (by decide) (by simp)).mono ?_
  rintro e w1 ⟨rfl, v1, h1, x1, k1⟩
  have H1 := kp h1
  have K1 := kp k1
  have X1 := kp x1
  clear x1
  clear h1 k1
  go_wp2_with fail
  go_end0
  refine ⟨rfl, v1, .slice none 0 0, .slice none 0 0, (H1.out.bad rfl (by simp)).row fun i hi => ?_, fun hb => ⟨X1.out (by simpa using hb), SlX.nil _ _, SlN.nil _ _⟩, K1.out⟩
  match i, hi with
  | 0, _ => rfl
  | 1, _ => rfl
  | 2, _ => rfl
  | 3, _ => rfl
  | 4, _ => rfl
  | 5, _ => rfl
  | 6, _ => rfl
  | 7, _ => rfl
  | 8, _ => rfl
  | 9, _ => rfl
theorem parts_s_touch (NL : List Nat) (X C R : Nat) (op : Int) (k : ByteArray) (life : Nat) (ho : op = 6) (hk : k.size <= 3000) (h1 : life < 18446744073709551616) (w : World) (h : RS w NL X C R (listF (cmdL op ⟨#[]⟩)) (putS k ++ putV life) false) :
  Calls Tryz.prog 236 #[.pointer (some ⟨X, 0, none⟩)] w fun e w' => e = .returned (.tuple #[]) /\ RG w w' NL X C R ⟨op, k, [], [], [], life, 0, eB, eB, eB⟩ (!keyOk k || (life == 0)) := by
 obtain ⟨c0, d0⟩ := h.op rfl
 have hll := putV_len10 h1
 have H := kp h
 clear h
 rcases ho with rfl
 all_goals
  go_enter Tryz.func236, Tryz.ntmps236
  go_wp2_with fail
  refine (rg_key (rest := putV life) 1 k ⟨#[]⟩ H.out (by decide) rfl hk (by omega)).mono ?_
  rintro e w1 ⟨rfl, h1, k1⟩
  have H1 := kp h1
  have K1 := kp k1
  clear h1 k1
  go_wp2_with fail
  refine (rg_life (rest := []) life (H1.out.bad (by simp) rfl) rfl (by omega) (by simp)).mono ?_
  rintro e w2 ⟨rfl, h2, k2⟩
  have H2 := kp h2
  have K2 := kp (K1.out.trans k2)
  clear h2 k2
  go_wp2_with fail
  go_end0
  refine ⟨rfl, .slice none 0 0, .slice none 0 0, .slice none 0 0, (H2.out.bad rfl (by simp)).row fun i hi => ?_, fun hb => ⟨SlN.nil _ _, SlX.nil _ _, SlN.nil _ _⟩, K2.out⟩
  match i, hi with
  | 0, _ => rfl
  | 1, _ => rfl
  | 2, _ => rfl
  | 3, _ => rfl
  | 4, _ => rfl
  | 5, _ => rfl
  | 6, _ => rfl
  | 7, _ => rfl
  | 8, _ => rfl
  | 9, _ => rfl
theorem parts_s_tag (NL : List Nat) (X C R : Nat) (op : Int) (t : ByteArray) (ho : op = 8 ∨ op = 9) (hk : t.size <= 3000) (w : World) (h : RS w NL X C R (listF (cmdL op ⟨#[]⟩)) (putS t) false) :
  Calls Tryz.prog 236 #[.pointer (some ⟨X, 0, none⟩)] w fun e w' => e = .returned (.tuple #[]) /\ RG w w' NL X C R ⟨op, eB, [], [], [], 0, 0, t, eB, eB⟩ (!tagOk t) := by
 obtain ⟨c0, d0⟩ := h.op rfl
 have H := kp h
 clear h
 rcases ho with rfl | rfl
 all_goals
  go_enter Tryz.func236, Tryz.ntmps236
  go_wp2_with fail
  refine (rg_tag (rest := []) 7 t ⟨#[]⟩ (H.out.bad (by simp) rfl) (by decide) rfl hk (by simp)).mono ?_
  rintro e w1 ⟨rfl, h1, k1⟩
  have H1 := kp h1
  have K1 := kp k1
  clear h1 k1
  go_wp2_with fail
  go_end0
  refine ⟨rfl, .slice none 0 0, .slice none 0 0, .slice none 0 0, (H1.out.bad rfl (by simp)).row fun i hi => ?_, fun hb => ⟨SlN.nil _ _, SlX.nil _ _, SlN.nil _ _⟩, K1.out⟩
  match i, hi with
  | 0, _ => rfl
  | 1, _ => rfl
  | 2, _ => rfl
  | 3, _ => rfl
  | 4, _ => rfl
  | 5, _ => rfl
  | 6, _ => rfl
  | 7, _ => rfl
  | 8, _ => rfl
  | 9, _ => rfl
theorem parts_s_pre (NL : List Nat) (X C R : Nat) (op : Int) (p : ByteArray) (ho : op = 10) (hk : p.size <= 3000) (w : World) (h : RS w NL X C R (listF (cmdL op ⟨#[]⟩)) (putS p) false) :
  Calls Tryz.prog 236 #[.pointer (some ⟨X, 0, none⟩)] w fun e w' => e = .returned (.tuple #[]) /\ RG w w' NL X C R ⟨op, eB, [], [], [], 0, 0, eB, p, eB⟩ (!preOk p) := by
 obtain ⟨c0, d0⟩ := h.op rfl
 have H := kp h
 clear h
 rcases ho with rfl
 all_goals
  go_enter Tryz.func236, Tryz.ntmps236
  go_wp2_with fail
  refine (rg_pre (rest := []) 8 p ⟨#[]⟩ (H.out.bad (by simp) rfl) (by decide) rfl hk (by simp)).mono ?_
  rintro e w1 ⟨rfl, h1, k1⟩
  have H1 := kp h1
  have K1 := kp k1
  clear h1 k1
  go_wp2_with fail
  go_end0
  refine ⟨rfl, .slice none 0 0, .slice none 0 0, .slice none 0 0, (H1.out.bad rfl (by simp)).row fun i hi => ?_, fun hb => ⟨SlN.nil _ _, SlX.nil _ _, SlN.nil _ _⟩, K1.out⟩
  match i, hi with
  | 0, _ => rfl
  | 1, _ => rfl
  | 2, _ => rfl
  | 3, _ => rfl
  | 4, _ => rfl
  | 5, _ => rfl
  | 6, _ => rfl
  | 7, _ => rfl
  | 8, _ => rfl
  | 9, _ => rfl
theorem parts_s_dep (NL : List Nat) (X C R : Nat) (op : Int) (k ch : ByteArray) (ho : op = 11 ∨ op = 12) (hk : k.size <= 3000) (hc : ch.size <= 3000) (w : World) (h : RS w NL X C R (listF (cmdL op ⟨#[]⟩)) (putS k ++ putS ch) false) :
  Calls Tryz.prog 236 #[.pointer (some ⟨X, 0, none⟩)] w fun e w' => e = .returned (.tuple #[]) /\ RG w w' NL X C R ⟨op, k, [], [], [], 0, 0, eB, eB, ch⟩ (!keyOk k || !keyOk ch) := by
 obtain ⟨c0, d0⟩ := h.op rfl
 have hcl := putS_len3 hc
 have H := kp h
 clear h
 rcases ho with rfl | rfl
 all_goals
  go_enter Tryz.func236, Tryz.ntmps236
  go_wp2_with fail
  refine (rg_key (rest := putS ch) 1 k ⟨#[]⟩ H.out (by decide) rfl hk (by omega)).mono ?_
  rintro e w1 ⟨rfl, h1, k1⟩
  have H1 := kp h1
  have K1 := kp k1
  clear h1 k1
  go_wp2_with fail
  refine (rg_key (rest := []) 9 ch ⟨#[]⟩ (H1.out.bad (by simp) rfl) (by decide) rfl hc (by simp)).mono ?_
  rintro e w2 ⟨rfl, h2, k2⟩
  have H2 := kp h2
  have K2 := kp (K1.out.trans k2)
  clear h2 k2
  go_wp2_with fail
  go_end0
  refine ⟨rfl, .slice none 0 0, .slice none 0 0, .slice none 0 0, (H2.out.bad rfl (by simp)).row fun i hi => ?_, fun hb => ⟨SlN.nil _ _, SlX.nil _ _, SlN.nil _ _⟩, K2.out⟩
  match i, hi with
  | 0, _ => rfl
  | 1, _ => rfl
  | 2, _ => rfl
  | 3, _ => rfl
  | 4, _ => rfl
  | 5, _ => rfl
  | 6, _ => rfl
  | 7, _ => rfl
  | 8, _ => rfl
  | 9, _ => rfl
theorem parts_s_none (NL : List Nat) (X C R : Nat) (op : Int) (ho : op = 14 ∨ op = 15) (w : World) (h : RS w NL X C R (listF (cmdL op ⟨#[]⟩)) ([]) false) :
  Calls Tryz.prog 236 #[.pointer (some ⟨X, 0, none⟩)] w fun e w' => e = .returned (.tuple #[]) /\ RG w w' NL X C R ⟨op, eB, [], [], [], 0, 0, eB, eB, eB⟩ (false) := by
 obtain ⟨c0, d0⟩ := h.op rfl
 have H := kp h
 clear h
 rcases ho with rfl | rfl
 all_goals
  go_enter Tryz.func236, Tryz.ntmps236
  go_wp2_with fail
  go_end0
  refine ⟨rfl, .slice none 0 0, .slice none 0 0, .slice none 0 0, (H.out.bad rfl (by simp)).row fun i hi => ?_, fun hb => ⟨SlN.nil _ _, SlX.nil _ _, SlN.nil _ _⟩, Kept.refl _ _⟩
  match i, hi with
  | 0, _ => rfl
  | 1, _ => rfl
  | 2, _ => rfl
  | 3, _ => rfl
  | 4, _ => rfl
  | 5, _ => rfl
  | 6, _ => rfl
  | 7, _ => rfl
  | 8, _ => rfl
  | 9, _ => rfl
theorem parts_s_set (NL : List Nat) (X C R : Nat) (op : Int) (k : ByteArray) (val : List Int) (tags : List ByteArray) (life : Nat) (ho : op = 1 ∨ op = 2) (hk : k.size <= 3000) (hv : ∀ y ∈ val, 0 <= y /\ y < 256) (hvl : val.length <= 3000) (ht : ∀ s ∈ tags, s.size <= 3000) (htn : tags.length <= 100) (h1 : life < 18446744073709551616) (w : World) (h : RS w NL X C R (listF (cmdL op ⟨#[]⟩)) (putS k ++ (putV val.length ++ val ++ (putG 0 tags ++ putV life))) false) :
  Calls Tryz.prog 236 #[.pointer (some ⟨X, 0, none⟩)] w fun e w' => e = .returned (.tuple #[]) /\ RG w w' NL X C R ⟨op, k, [], val, tags, life, 0, eB, eB, eB⟩ (!keyOk k || !okG 0 tagOk tags || (life == 0)) := by
 obtain ⟨c0, d0⟩ := h.op rfl
 have hll := putV_len10 h1
 have hvv := putV_len10 (n := val.length) (by omega)
 have htt := putG_len (least := 0) ht htn
 have H := kp h
 clear h
 rcases ho with rfl | rfl
 all_goals
  go_enter Tryz.func236, Tryz.ntmps236
  go_wp2_with fail
  refine (rg_key (rest := putV val.length ++ val ++ (putG 0 tags ++ (putV life))) 1 k ⟨#[]⟩ H.out (by decide) rfl hk (by simp only [List.length_append]; omega)).mono ?_
  rintro e w1 ⟨rfl, h1, k1⟩
  have H1 := kp h1
  have K1 := kp k1
  clear h1 k1
  go_wp2_with fail
  refine (rg_val (rest := putG 0 tags ++ (putV life)) val H1.out rfl hv (by omega) (by simp only [List.length_append]; omega)).mono ?_
  rintro e w2 ⟨rfl, v2, h2, x2, k2⟩
  have H2 := kp h2
  have K2 := kp (K1.out.trans k2)
  have X2 := kp x2
  clear x2
  clear h2 k2
  go_wp2_with fail
  refine (rg_tags (rest := putV life) 4 0 tags H2.out (by decide) rfl ht htn (by decide) (by first | omega | (simp only [List.length_append]; omega))).mono ?_
  rintro e w3 ⟨rfl, v3, h3, x3, k3⟩
  have H3 := kp h3
  have K3 := kp (K2.out.trans k3)
  have X2 := kp (X2.out.kept k3 fun _ h => h)
  have X3 := kp x3
  clear x3
  clear h3 k3
  go_wp2_with fail
  refine (rg_life (rest := []) life (H3.out.bad (by try simp) rfl) rfl (by omega) (by first | omega | simp)).mono ?_
  rintro e w4 ⟨rfl, h4, k4⟩
  have H4 := kp h4
  have K4 := kp (K3.out.trans k4)
  have X2 := kp (X2.out.kept k4 fun _ h => h)
  have X3 := kp (fun ok => (X3.out ok).kept k4 fun _ h => h)
  clear h4 k4
  have d4 := (H4.out.op rfl).2
  go_wp2_with fail
  go_end0
  refine ⟨rfl, .slice none 0 0, v2, v3, (H4.out.bad rfl (by simp)).row fun i hi => ?_, fun hb => ⟨SlN.nil _ _, X2.out, X3.out (by simp at hb; exact hb.1.2)⟩, K4.out⟩
  match i, hi with
  | 0, _ => rfl
  | 1, _ => rfl
  | 2, _ => rfl
  | 3, _ => rfl
  | 4, _ => rfl
  | 5, _ => rfl
  | 6, _ => rfl
  | 7, _ => rfl
  | 8, _ => rfl
  | 9, _ => rfl
theorem parts_s_cas (NL : List Nat) (X C R : Nat) (op : Int) (ver : Nat) (k : ByteArray) (val : List Int) (tags : List ByteArray) (life : Nat) (ho : op = 3) (hk : k.size <= 3000) (hv : ∀ y ∈ val, 0 <= y /\ y < 256) (hvl : val.length <= 3000) (ht : ∀ s ∈ tags, s.size <= 3000) (htn : tags.length <= 100) (h1 : life < 18446744073709551616) (h2 : ver < 18446744073709551616) (w : World) (h : RS w NL X C R (listF (cmdL op ⟨#[]⟩)) (putS k ++ (putV val.length ++ val ++ (putG 0 tags ++ (putV life ++ putV ver)))) false) :
  Calls Tryz.prog 236 #[.pointer (some ⟨X, 0, none⟩)] w fun e w' => e = .returned (.tuple #[]) /\ RG w w' NL X C R ⟨op, k, [], val, tags, life, ver, eB, eB, eB⟩ (!keyOk k || !okG 0 tagOk tags || (life == 0)) := by
 obtain ⟨c0, d0⟩ := h.op rfl
 have hll := putV_len10 h1
 have hvv := putV_len10 (n := val.length) (by omega)
 have htt := putG_len (least := 0) ht htn
 have hrr := putV_len10 h2
 have H := kp h
 clear h
 rcases ho with rfl
 all_goals
  go_enter Tryz.func236, Tryz.ntmps236
  go_wp2_with fail
  refine (rg_key (rest := putV val.length ++ val ++ (putG 0 tags ++ (putV life ++ putV ver))) 1 k ⟨#[]⟩ H.out (by decide) rfl hk (by simp only [List.length_append]; omega)).mono ?_
  rintro e w1 ⟨rfl, h1, k1⟩
  have H1 := kp h1
  have K1 := kp k1
  clear h1 k1
  go_wp2_with fail
  refine (rg_val (rest := putG 0 tags ++ (putV life ++ putV ver)) val H1.out rfl hv (by omega) (by simp only [List.length_append]; omega)).mono ?_
  rintro e w2 ⟨rfl, v2, h2, x2, k2⟩
  have H2 := kp h2
  have K2 := kp (K1.out.trans k2)
  have X2 := kp x2
  clear x2
  clear h2 k2
  go_wp2_with fail
  refine (rg_tags (rest := putV life ++ putV ver) 4 0 tags H2.out (by decide) rfl ht htn (by decide) (by first | omega | (simp only [List.length_append]; omega))).mono ?_
  rintro e w3 ⟨rfl, v3, h3, x3, k3⟩
  have H3 := kp h3
  have K3 := kp (K2.out.trans k3)
  have X2 := kp (X2.out.kept k3 fun _ h => h)
  have X3 := kp x3
  clear x3
  clear h3 k3
  go_wp2_with fail
  refine (rg_life (rest := putV ver) life (H3.out.bad (by try simp) rfl) rfl (by omega) (by first | omega | simp)).mono ?_
  rintro e w4 ⟨rfl, h4, k4⟩
  have H4 := kp h4
  have K4 := kp (K3.out.trans k4)
  have X2 := kp (X2.out.kept k4 fun _ h => h)
  have X3 := kp (fun ok => (X3.out ok).kept k4 fun _ h => h)
  clear h4 k4
  have d4 := (H4.out.op rfl).2
  go_wp2_with fail
  refine (rs_number (rest := []) 6 ver 0 (H4.out.bad (by simp) rfl) (by decide) rfl h2 (by simp)).mono ?_
  rintro e w5 ⟨rfl, h5, k5⟩
  have H5 := kp h5
  have K5 := kp (K4.out.trans k5)
  have X2 := kp (X2.out.kept k5 fun _ h => h)
  have X3 := kp (fun ok => (X3.out ok).kept k5 fun _ h => h)
  clear h5 k5
  go_wp2_with fail
  go_end0
  refine ⟨rfl, .slice none 0 0, v2, v3, (H5.out.bad rfl (by simp)).row fun i hi => ?_, fun hb => ⟨SlN.nil _ _, X2.out, X3.out (by simp at hb; exact hb.1.2)⟩, K5.out⟩
  match i, hi with
  | 0, _ => rfl
  | 1, _ => rfl
  | 2, _ => rfl
  | 3, _ => rfl
  | 4, _ => rfl
  | 5, _ => rfl
  | 6, _ => rfl
  | 7, _ => rfl
  | 8, _ => rfl
  | 9, _ => rfl
theorem RG.cong {w w' : World} {NL : List Nat} {X C R : Nat} {c c' : CmdR} {bad bad' : Bool} (h : RG w w' NL X C R c bad) (e : c = c') (e' : bad = bad') : RG w w' NL X C R c' bad' := by subst e; subst e'; exact h
theorem parts_s_any {NL : List Nat} {X C R : Nat} {c : CmdR} {w : World} (hs : CmdS c) (ho : 1 <= c.op /\ c.op <= 15) (h : RS w NL X C R (listF (cmdL c.op ⟨#[]⟩)) (payG c) false) :
  Calls Tryz.prog 236 #[.pointer (some ⟨X, 0, none⟩)] w fun e w' => e = .returned (.tuple #[]) /\ RG w w' NL X C R (onlyC c) (!okC c) := by
 have hz := life_zero hs
 have hl := life_nat hs
 have hv := ver_nat hs
 obtain ⟨op, key, keys, val, tags, life, ver, tag, pre, chi⟩ := c
 simp only at ho hl hv hz
 have hop : op = 1 ∨ op = 2 ∨ op = 3 ∨ op = 4 ∨ op = 5 ∨ op = 6 ∨ op = 7 ∨ op = 8 ∨ op = 9 ∨ op = 10 ∨ op = 11 ∨ op = 12 ∨ op = 13 ∨ op = 14 ∨ op = 15 := by omega
 rcases hop with rfl | rfl | rfl | rfl | rfl | rfl | rfl | rfl | rfl | rfl | rfl | rfl | rfl | rfl | rfl
 iterate 2
  ·exact (parts_s_set NL X C R _ key val tags life.toNat (by simp) hs.key hs.bytes hs.val hs.tags hs.ntags hl.2 w (h.bad (by simp [payG]) rfl)).mono fun e w' ⟨e1, e2⟩ => ⟨e1, e2.cong (by simp [onlyC]; omega) (by simp only [hz]; simp [okC, Bool.not_and])⟩
 ·exact (parts_s_cas NL X C R _ ver.toNat key val tags life.toNat (by simp) hs.key hs.bytes hs.val hs.tags hs.ntags hl.2 hv.2 w (h.bad (by simp [payG]) rfl)).mono fun e w' ⟨e1, e2⟩ => ⟨e1, e2.cong (by simp [onlyC]; omega) (by simp only [hz]; simp [okC, Bool.not_and])⟩
 ·exact (parts_s_key NL X C R _ key (by simp) hs.key w (h.bad (by simp [payG]) rfl)).mono fun e w' ⟨e1, e2⟩ => ⟨e1, e2.cong (by simp [onlyC]) (by simp [okC])⟩
 ·exact (parts_s_mget NL X C R _ keys (by simp) hs.keys hs.nkeys w (h.bad (by simp [payG]) rfl)).mono fun e w' ⟨e1, e2⟩ => ⟨e1, e2.cong (by simp [onlyC]) (by simp [okC])⟩
 ·exact (parts_s_touch NL X C R _ key life.toNat (by simp) hs.key hl.2 w (h.bad (by simp [payG]) rfl)).mono fun e w' ⟨e1, e2⟩ => ⟨e1, e2.cong (by simp [onlyC]; omega) (by simp only [hz]; simp [okC, Bool.not_and])⟩
 ·exact (parts_s_key NL X C R _ key (by simp) hs.key w (h.bad (by simp [payG]) rfl)).mono fun e w' ⟨e1, e2⟩ => ⟨e1, e2.cong (by simp [onlyC]) (by simp [okC])⟩
 ·exact (parts_s_tag NL X C R _ tag (by simp) hs.tag w (h.bad (by simp [payG]) rfl)).mono fun e w' ⟨e1, e2⟩ => ⟨e1, e2.cong (by simp [onlyC]) (by simp [okC])⟩
 ·exact (parts_s_tag NL X C R _ tag (by simp) hs.tag w (h.bad (by simp [payG]) rfl)).mono fun e w' ⟨e1, e2⟩ => ⟨e1, e2.cong (by simp [onlyC]) (by simp [okC])⟩
 ·exact (parts_s_pre NL X C R _ pre (by simp) hs.pre w (h.bad (by simp [payG]) rfl)).mono fun e w' ⟨e1, e2⟩ => ⟨e1, e2.cong (by simp [onlyC]) (by simp [okC])⟩
 iterate 2
  ·exact (parts_s_dep NL X C R _ key chi (by simp) hs.key hs.chi w (h.bad (by simp [payG]) rfl)).mono fun e w' ⟨e1, e2⟩ => ⟨e1, e2.cong (by simp [onlyC]) (by simp [okC, Bool.not_and])⟩
 ·exact (parts_s_key NL X C R _ key (by simp) hs.key w (h.bad (by simp [payG]) rfl)).mono fun e w' ⟨e1, e2⟩ => ⟨e1, e2.cong (by simp [onlyC]) (by simp [okC])⟩
 ·exact (parts_s_none NL X C R _ (by simp) w (h.bad (by simp [payG]) rfl)).mono fun e w' ⟨e1, e2⟩ => ⟨e1, e2.cong (by simp [onlyC]) (by simp [okC])⟩
 ·exact (parts_s_none NL X C R _ (by simp) w (h.bad (by simp [payG]) rfl)).mono fun e w' ⟨e1, e2⟩ => ⟨e1, e2.cong (by simp [onlyC]) (by simp [okC])⟩
end Go.Proofs.YtnjhpgmbfblgaaaGreat.Ord
