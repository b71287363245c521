/- Valid commands and their bytes; the codec's parts, written. -/
import Derived.Test.YtnmhmabifeapkaaM6
import Derived.Test.YtnmhmabifeapkaaE2
namespace Go.Proofs.Ytnmhmabifeapkaa.Ord
open Go.RowKit
set_option linter.unusedVariables false

def keyOk (s : ByteArray) : Bool := decide (0 < s.size) && decide (s.size ≤ 250)
def tagOk (s : ByteArray) : Bool := decide (0 < s.size) && decide (s.size ≤ 64)
def preOk (s : ByteArray) : Bool := decide (s.size ≤ 250)
theorem key127 (s : ByteArray) (w : World) : Calls Try.prog 127 #[.string s] w fun e w' => e = .returned (.bool (keyOk s)) ∧ Below w.heap.size w w' := by
  unfold keyOk
  cases g1 : decide (0 < s.size)
  · have g : decide ((0 : Int) < (s.size : Int)) = false := by simp at g1 ⊢; omega
    go_enter Try.func127, Try.ntmps127
    go_wp2_with fail
    go_ret
    exact ⟨rfl, Below.refl _ _⟩
  · have g : decide ((0 : Int) < (s.size : Int)) = true := by simp at g1 ⊢; omega
    cases g2 : decide (s.size ≤ 250)
    · have g' : decide ((s.size : Int) ≤ 250) = false := by simp at g2 ⊢; omega
      go_enter Try.func127, Try.ntmps127
      go_wp2_with fail
      go_ret
      exact ⟨rfl, Below.refl _ _⟩
    · have g' : decide ((s.size : Int) ≤ 250) = true := by simp at g2 ⊢; omega
      go_enter Try.func127, Try.ntmps127
      go_wp2_with fail
      go_ret
      exact ⟨rfl, Below.refl _ _⟩
theorem tag130 (s : ByteArray) (w : World) : Calls Try.prog 130 #[.string s] w fun e w' => e = .returned (.bool (tagOk s)) ∧ Below w.heap.size w w' := by
  unfold tagOk
  cases g1 : decide (0 < s.size)
  · have g : decide ((0 : Int) < (s.size : Int)) = false := by simp at g1 ⊢; omega
    go_enter Try.func130, Try.ntmps130
    go_wp2_with fail
    go_ret
    exact ⟨rfl, Below.refl _ _⟩
  · have g : decide ((0 : Int) < (s.size : Int)) = true := by simp at g1 ⊢; omega
    cases g2 : decide (s.size ≤ 64)
    · have g' : decide ((s.size : Int) ≤ 64) = false := by simp at g2 ⊢; omega
      go_enter Try.func130, Try.ntmps130
      go_wp2_with fail
      go_ret
      exact ⟨rfl, Below.refl _ _⟩
    · have g' : decide ((s.size : Int) ≤ 64) = true := by simp at g2 ⊢; omega
      go_enter Try.func130, Try.ntmps130
      go_wp2_with fail
      go_ret
      exact ⟨rfl, Below.refl _ _⟩
theorem pre133 (s : ByteArray) (w : World) : Calls Try.prog 133 #[.string s] w fun e w' => e = .returned (.bool (preOk s)) ∧ Below w.heap.size w w' := by
  unfold preOk
  cases g2 : decide (s.size ≤ 250)
  · have g' : decide ((s.size : Int) ≤ 250) = false := by simp at g2 ⊢; omega
    go_enter Try.func133, Try.ntmps133
    go_wp2_with fail
    go_ret
    exact ⟨rfl, Below.refl _ _⟩
  · have g' : decide ((s.size : Int) ≤ 250) = true := by simp at g2 ⊢; omega
    go_enter Try.func133, Try.ntmps133
    go_wp2_with fail
    go_ret
    exact ⟨rfl, Below.refl _ _⟩
theorem enter130 : ∀ args w, (callFunc 130 args).run Try.prog w = .ok (.enter 130 args) w := by
  intro args w
  simp [callFunc, Try.func130, Try.f130]
theorem enter133 : ∀ args w, (callFunc 133 args).run Try.prog w = .ok (.enter 133 args) w := by
  intro args w
  simp [callFunc, Try.func133, Try.f133]

/-- a string with its length -/
def putS (s : ByteArray) : List Int := putV s.size ++ sBytes s
def putLs (l : List ByteArray) : List Int := putV l.length ++ putStrs l
/-- the bytes of a command -/
def pay (c : CmdR) : List Int :=
  if c.op = 1 ∨ c.op = 2 then putS c.key ++ (putV c.val.length ++ c.val) ++ putLs c.tags ++ putV c.life.toNat
  else if c.op = 3 then putS c.key ++ (putV c.val.length ++ c.val) ++ putLs c.tags ++ putV c.life.toNat ++ putV c.ver.toNat
  else if c.op = 4 ∨ c.op = 7 ∨ c.op = 13 then putS c.key
  else if c.op = 5 then putLs c.keys
  else if c.op = 6 then putS c.key ++ putV c.life.toNat
  else if c.op = 8 ∨ c.op = 9 then putS c.tag
  else if c.op = 10 then putS c.pre
  else if c.op = 11 ∨ c.op = 12 then putS c.key ++ putS c.chi
  else []
def eB : ByteArray := ⟨#[]⟩
/-- the valid commands -/
inductive CmdV : CmdR → Prop
  | set (op : Int) (k : ByteArray) (val : List Int) (tags : List ByteArray) (life : Nat) (ho : op = 1 ∨ op = 2) (hk : keyOk k = true) (hv : ∀ y ∈ val, 0 ≤ y ∧ y < 256) (hl : val.length ≤ 65536) (ht : ∀ s ∈ tags, tagOk s = true) (hn : tags.length ≤ 16) (h0 : 0 < life) (h1 : life < 18446744073709551616) : CmdV ⟨op, k, [], val, tags, life, 0, eB, eB, eB⟩
  | cas (k : ByteArray) (val : List Int) (tags : List ByteArray) (life ver : Nat) (hk : keyOk k = true) (hv : ∀ y ∈ val, 0 ≤ y ∧ y < 256) (hl : val.length ≤ 65536) (ht : ∀ s ∈ tags, tagOk s = true) (hn : tags.length ≤ 16) (h0 : 0 < life) (h1 : life < 18446744073709551616) (h2 : ver < 18446744073709551616) : CmdV ⟨3, k, [], val, tags, life, ver, eB, eB, eB⟩
  | key (op : Int) (k : ByteArray) (ho : op = 4 ∨ op = 7 ∨ op = 13) (hk : keyOk k = true) : CmdV ⟨op, k, [], [], [], 0, 0, eB, eB, eB⟩
  | mget (keys : List ByteArray) (hk : ∀ s ∈ keys, keyOk s = true) (h1 : 1 ≤ keys.length) (hn : keys.length ≤ 16) : CmdV ⟨5, eB, keys, [], [], 0, 0, eB, eB, eB⟩
  | touch (k : ByteArray) (life : Nat) (hk : keyOk k = true) (h0 : 0 < life) (h1 : life < 18446744073709551616) : CmdV ⟨6, k, [], [], [], life, 0, eB, eB, eB⟩
  | tag (op : Int) (t : ByteArray) (ho : op = 8 ∨ op = 9) (ht : tagOk t = true) : CmdV ⟨op, eB, [], [], [], 0, 0, t, eB, eB⟩
  | pre (p : ByteArray) (hp : preOk p = true) : CmdV ⟨10, eB, [], [], [], 0, 0, eB, p, eB⟩
  | dep (op : Int) (k ch : ByteArray) (ho : op = 11 ∨ op = 12) (hk : keyOk k = true) (hc : keyOk ch = true) : CmdV ⟨op, k, [], [], [], 0, 0, eB, eB, ch⟩
  | none (op : Int) (ho : op = 14 ∨ op = 15) : CmdV ⟨op, eB, [], [], [], 0, 0, eB, eB, eB⟩

theorem keyOk_size {s : ByteArray} (h : keyOk s = true) : s.size ≤ 250 := by simp [keyOk] at h; exact h.2
theorem tagOk_size {s : ByteArray} (h : tagOk s = true) : s.size ≤ 64 := by simp [tagOk] at h; exact h.2
theorem all_of {alw : ByteArray → Bool} {l : List ByteArray} (h : ∀ s ∈ l, alw s = true) : l.all alw = true := List.all_eq_true.2 h
theorem putS_len {s : ByteArray} (h : s.size ≤ 1000) : (putS s).length ≤ 1010 := by
  have h1 := putV_len10 (n := s.size) (by omega)
  have h2 := sBytes_len s
  simp only [putS, List.length_append]
  omega
theorem putLs_len {l : List ByteArray} (h : ∀ s ∈ l, s.size ≤ 1000) (hn : l.length ≤ 16) : (putLs l).length ≤ 17700 := by
  have h1 := putV_len10 (n := l.length) (by omega)
  have h2 := putStrs_len h
  simp only [putLs, List.length_append]
  omega

/-- a slice of bytes in a value; if there are some, in none of some blocks -/
def SlY (w : World) (N : List Nat) (v : Value) (xs : List Int) : Prop := ∃ A c, v = .slice A xs.length c ∧ Byt w w.heap.size A c xs ∧ ∀ b off, A = some ⟨b, off, none⟩ → xs ≠ [] → b ∉ N
theorem SlY.kept {w w' : World} {N L : List Nat} {v : Value} {xs : List Int} (h : SlY w N v xs) (hk : Kept L w w') (hL : ∀ k ∈ L, k ∈ N) : SlY w' N v xs := by
  obtain ⟨A, c, h1, h2, h3⟩ := h
  refine ⟨A, c, h1, ⟨h2.1, h2.2.1, fun i hi => ?_⟩, h3⟩
  obtain ⟨b, off, e, hlt, hc⟩ := h2.2.2 i hi
  exact ⟨b, off, e, Nat.lt_of_lt_of_le hlt hk.size, fun x hx => hk.cell (fun hm => h3 b off e (by intro h; rw [h] at hi; simp at hi) (hL _ hm)) (hc x hx)⟩

section
variable {w : World} {X C : Nat} {f : Nat → Value} {out : List Int}
theorem ws_key (k : Nat) (s : ByteArray) (h : WS w X C f out false) (hk : k < 10) (hf : f k = .string s) (hs : keyOk s = true) (hol : out.length ≤ 300000) :
    Calls Try.prog 126 #[.pointer (some ⟨X, 0, none⟩), .pointer (some ⟨C, k, none⟩), .func (.func 127) #[] #[]] w fun e w' => e = .returned (.tuple #[]) ∧ WS w' X C f (out ++ putS s) false ∧ Kept [X, C] w w' :=
  (ws_part k s 127 h hk hf key_enter (key127 s) (by have := keyOk_size hs; omega) (by omega)).mono fun e w' ⟨e1, e2, e3⟩ => ⟨e1, e2.out_bad (by simp [putS, List.append_assoc]) (by simp [hs]), e3.mono (by simp)⟩
theorem ws_tag (k : Nat) (s : ByteArray) (h : WS w X C f out false) (hk : k < 10) (hf : f k = .string s) (hs : tagOk s = true) (hol : out.length ≤ 300000) :
    Calls Try.prog 126 #[.pointer (some ⟨X, 0, none⟩), .pointer (some ⟨C, k, none⟩), .func (.func 130) #[] #[]] w fun e w' => e = .returned (.tuple #[]) ∧ WS w' X C f (out ++ putS s) false ∧ Kept [X, C] w w' :=
  (ws_part k s 130 h hk hf enter130 (tag130 s) (by have := tagOk_size hs; omega) (by omega)).mono fun e w' ⟨e1, e2, e3⟩ => ⟨e1, e2.out_bad (by simp [putS, List.append_assoc]) (by simp [hs]), e3.mono (by simp)⟩
theorem ws_pre (k : Nat) (s : ByteArray) (h : WS w X C f out false) (hk : k < 10) (hf : f k = .string s) (hs : preOk s = true) (hol : out.length ≤ 300000) :
    Calls Try.prog 126 #[.pointer (some ⟨X, 0, none⟩), .pointer (some ⟨C, k, none⟩), .func (.func 133) #[] #[]] w fun e w' => e = .returned (.tuple #[]) ∧ WS w' X C f (out ++ putS s) false ∧ Kept [X, C] w w' :=
  (ws_part k s 133 h hk hf enter133 (pre133 s) (by simp [preOk] at hs; omega) (by omega)).mono fun e w' ⟨e1, e2, e3⟩ => ⟨e1, e2.out_bad (by simp [putS, List.append_assoc]) (by simp [hs]), e3.mono (by simp)⟩
theorem ws_val (v : Value) (val : List Int) (h : WS w X C f out false) (hf : f 3 = v) (hv : SlY w [X, C] v val) (hx : ∀ y ∈ val, 0 ≤ y ∧ y < 256) (hl : val.length ≤ 65536) (hol : out.length ≤ 300000) :
    Calls Try.prog 128 #[.pointer (some ⟨X, 0, none⟩)] w fun e w' => e = .returned (.tuple #[]) ∧ WS w' X C f (out ++ (putV val.length ++ val)) false ∧ Kept [X, C] w w' := by
  obtain ⟨A, c, rfl, hby, _⟩ := hv
  exact (ws_value A c val h hf hby hx hl (by omega)).mono fun e w' ⟨e1, e2, e3⟩ => ⟨e1, e2.out_bad (by simp [List.append_assoc]) rfl, e3.mono (by simp)⟩
theorem ws_keys (k least : Nat) (v : Value) (strs : List ByteArray) (h : WS w X C f out false) (hk : k < 10) (hf : f k = v) (hv : SlN w [X, C] v strs) (hx : ∀ s ∈ strs, keyOk s = true) (h1 : least ≤ strs.length) (h2 : strs.length ≤ 16) (hol : out.length ≤ 200000) :
    Calls Try.prog 129 #[.pointer (some ⟨X, 0, none⟩), .pointer (some ⟨C, k, none⟩), .int .i64 least, .int .i64 (16 : Nat), .func (.func 127) #[] #[]] w fun e w' => e = .returned (.tuple #[]) ∧ WS w' X C f (out ++ putLs strs) false ∧ Kept [X, C] w w' := by
  obtain ⟨A, c, rfl, hel, hne⟩ := hv
  exact (ws_list k strs.length least 16 127 strs A c keyOk h hk hf rfl hel (fun b off e h => by have := hne b off e h; simp at this; exact this.1) key_enter (fun s _ => key127 s) (fun s hs => by have := keyOk_size (hx s hs); omega) h1 h2 (by omega) hol).mono fun e w' ⟨e1, e2, e3⟩ => ⟨e1, e2.out_bad (by simp [putLs, List.append_assoc]) (by simp [all_of hx]), e3.mono (by simp)⟩
theorem ws_tags (k least : Nat) (v : Value) (strs : List ByteArray) (h : WS w X C f out false) (hk : k < 10) (hf : f k = v) (hv : SlN w [X, C] v strs) (hx : ∀ s ∈ strs, tagOk s = true) (h1 : least ≤ strs.length) (h2 : strs.length ≤ 16) (hol : out.length ≤ 200000) :
    Calls Try.prog 129 #[.pointer (some ⟨X, 0, none⟩), .pointer (some ⟨C, k, none⟩), .int .i64 least, .int .i64 (16 : Nat), .func (.func 130) #[] #[]] w fun e w' => e = .returned (.tuple #[]) ∧ WS w' X C f (out ++ putLs strs) false ∧ Kept [X, C] w w' := by
  obtain ⟨A, c, rfl, hel, hne⟩ := hv
  exact (ws_list k strs.length least 16 130 strs A c tagOk h hk hf rfl hel (fun b off e h => by have := hne b off e h; simp at this; exact this.1) enter130 (fun s _ => tag130 s) (fun s hs => by have := tagOk_size (hx s hs); omega) h1 h2 (by omega) hol).mono fun e w' ⟨e1, e2, e3⟩ => ⟨e1, e2.out_bad (by simp [putLs, List.append_assoc]) (by simp [all_of hx]), e3.mono (by simp)⟩
theorem ws_lifetime (m : Nat) (h : WS w X C f out false) (hf : f 5 = .int .u64 m) (h0 : 0 < m) (hm : m < 18446744073709551616) (hol : out.length ≤ 300000) :
    Calls Try.prog 131 #[.pointer (some ⟨X, 0, none⟩)] w fun e w' => e = .returned (.tuple #[]) ∧ WS w' X C f (out ++ putV m) false ∧ Kept [X, C] w w' :=
  (ws_life m h hf hm (by omega)).mono fun e w' ⟨e1, e2, e3⟩ => ⟨e1, e2.out_bad rfl (by simp; omega), e3⟩
end
end Go.Proofs.Ytnmhmabifeapkaa.Ord
