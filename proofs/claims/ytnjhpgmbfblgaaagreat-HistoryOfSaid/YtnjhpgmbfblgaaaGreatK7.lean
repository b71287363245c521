/- Walk of the reference's only (commands). -/
import Derived.Test.YtnjhpgmbfblgaaaGreatMK6
import Derived.Test.YtnjhpgmbfblgaaaGreatMS0
namespace Go.Proofs.YtnjhpgmbfblgaaaGreat.Ord
set_option maxRecDepth 100000
set_option maxHeartbeats 16000000
open Go.RowKit
set_option linter.unusedVariables false
set_option linter.unusedSimpArgs false
def OnlyPost (c : CmdR) (w : World) (e : Ending) (w' : World) : Prop := ∃ vk vv vt, e = .returned (.agg (cmdC (onlyC c) vk vv vt).toArray) /\ CmdOk w' w'.heap.size (onlyC c) vk vv vt /\ Below w.heap.size w w'
theorem slv_nil (w : World) (B : Nat) : SlV Value.string w B (.slice none 0 0) [] := ⟨by simp, none, 0, rfl, fun i x h => by simp at h⟩
theorem datg_nil (w : World) (B : Nat) : DatG w B (.slice none 0 0) [] := ⟨by simp, by simp, none, 0, rfl, Byt.nil _ _⟩
/-- the letters of a command's parts -/
def lettersC : List Int := [107, 118, 116, 108, 110, 109, 103, 112, 99]
/-- a string whose bytes are these letters -/
structure SpellsC (s : ByteArray) (l : List Int) : Prop where
 size : s.size = l.length
 few : l.length <= 100
 all : ∀ k (h : k < s.size), ((s[k]'h).toNat : Int) = l.getD k 0
 letters : ∀ k, k < l.length -> l.getD k 0 ∈ lettersC
theorem spells_set : SpellsC ⟨#[107, 118, 116, 108]⟩ [107, 118, 116, 108] := ⟨rfl, by decide, by decide, by decide⟩
theorem spells_cas : SpellsC ⟨#[107, 118, 116, 108, 110]⟩ [107, 118, 116, 108, 110] := ⟨rfl, by decide, by decide, by decide⟩
theorem spells_key : SpellsC ⟨#[107]⟩ [107] := ⟨rfl, by decide, by decide, by decide⟩
theorem spells_mget : SpellsC ⟨#[109]⟩ [109] := ⟨rfl, by decide, by decide, by decide⟩
theorem spells_touch : SpellsC ⟨#[107, 108]⟩ [107, 108] := ⟨rfl, by decide, by decide, by decide⟩
theorem spells_tag : SpellsC ⟨#[103]⟩ [103] := ⟨rfl, by decide, by decide, by decide⟩
theorem spells_pre : SpellsC ⟨#[112]⟩ [112] := ⟨rfl, by decide, by decide, by decide⟩
theorem spells_dep : SpellsC ⟨#[107, 99]⟩ [107, 99] := ⟨rfl, by decide, by decide, by decide⟩
theorem spells_none : SpellsC ⟨#[]⟩ [] := ⟨rfl, by decide, by decide, by decide⟩
/-- the cells of a command with the parts that some letters name -/
def partL (op : Int) (key : ByteArray) (vk vv vt : Value) (life ver : Int) (tag pre chi : ByteArray) (m : List Int) : List Value :=
 [.int .i64 op, .string (if 107 ∈ m then key else ⟨#[]⟩), if 109 ∈ m then vk else .slice none 0 0, if 118 ∈ m then vv else .slice none 0 0, if 116 ∈ m then vt else .slice none 0 0, .int .u64 (if 108 ∈ m then life else 0), .int .u64 (if 110 ∈ m then ver else 0), .string (if 103 ∈ m then tag else ⟨#[]⟩), .string (if 112 ∈ m then pre else ⟨#[]⟩), .string (if 99 ∈ m then chi else ⟨#[]⟩)]
theorem take_snocC (l : List Int) {k : Nat} (h : k < l.length) : l.take (k + 1) = l.take k ++ [l.getD k 0] := by
 rw [List.take_add_one, List.getElem?_eq_getElem h]
 simp [List.getD, h]
theorem one_if {p : Prop} [Decidable p] {v : Value} (h : v.oneCell' = true) : (if p then v else .slice none 0 0).oneCell' = true := by
 split
 ·exact h
 ·rfl
theorem part_len (op : Int) (key : ByteArray) (vk vv vt : Value) (life ver : Int) (tag pre chi : ByteArray) (m : List Int) : (partL op key vk vv vt life ver tag pre chi m).length = 10 := rfl
def OnlyGen (op : Int) (key : ByteArray) (vk vv vt : Value) (life ver : Int) (tag pre chi : ByteArray) (l : List Int) (w : World) (e : Ending) (w' : World) : Prop := e = .returned (.agg (partL op key vk vv vt life ver tag pre chi l).toArray) /\ Below w.heap.size w w'
theorem only_gen (op : Int) (s : ByteArray) (l : List Int) (hsp : SpellsC s l) (HN : Hid (∀ W, Calls Tryz.prog 175 #[.int .i64 op] W fun e w' => e = .returned (.string s) /\ w' = W))
  (key tag pre chi : ByteArray) (life ver : Int) (Ak : Option Addr) (nk ck : Nat) (Av : Option Addr) (nv cv : Nat) (At : Option Addr) (nt ct : Nat) (w : World) :
  Calls Tryz.prog 174 #[.agg #[.int .i64 op, .string key, .slice Ak nk ck, .slice Av nv cv, .slice At nt ct, .int .u64 life, .int .u64 ver, .string tag, .string pre, .string chi]] w (OnlyGen op key (.slice Ak nk ck) (.slice Av nv cv) (.slice At nt ct) life ver tag pre chi l w) := by
 obtain ⟨n, hn⟩ : ∃ n, l.length = n := ⟨_, rfl⟩
 have hsz : s.size = n := hsp.size.trans hn
 have hn100 : n <= 100 := by rw [<- hn]; exact hsp.few
 obtain ⟨L, hL⟩ : ∃ L : List Value, L = [.int .i64 op, .string key, .slice Ak nk ck, .slice Av nv cv, .slice At nt ct, .int .u64 life, .int .u64 ver, .string tag, .string pre, .string chi] := ⟨_, rfl⟩
 have hS0 := RowL.new w 36 L
 have hD0 := RowL.new (w.alloc (.cells L.toArray 36)) 36 (cmdL 0 ⟨#[]⟩)
 have hO0 := RowL.new ((w.alloc (.cells L.toArray 36)).alloc (.cells (cmdL 0 ⟨#[]⟩).toArray 36)) 36 (cmdL op ⟨#[]⟩)
 have hb0 := below3 w (.cells L.toArray 36) (.cells (cmdL 0 ⟨#[]⟩).toArray 36) (.cells (cmdL op ⟨#[]⟩).toArray 36)
 have hS1 := (hS0.alloc (.cells (cmdL 0 ⟨#[]⟩).toArray 36)).alloc (.cells (cmdL op ⟨#[]⟩).toArray 36)
 have hD1 := hD0.alloc (.cells (cmdL op ⟨#[]⟩).toArray 36)
 simp only [alloc_size1] at hD1 hO0
 obtain ⟨W1, hW1⟩ : ∃ W1, W1 = ((w.alloc (.cells L.toArray 36)).alloc (.cells (cmdL 0 ⟨#[]⟩).toArray 36)).alloc (.cells (cmdL op ⟨#[]⟩).toArray 36) := ⟨_, rfl⟩
 rw [<- hW1] at hO0 hb0 hS1 hD1
 have hP0 : RowL W1 (w.heap.size + 1 + 1) 36 (partL op key (.slice Ak nk ck) (.slice Av nv cv) (.slice At nt ct) life ver tag pre chi (l.take 0)) := by simpa [partL, cmdL] using hO0
 have HS1 := kp hS1
 have HD1 := kp hD1
 have HP0 := kp hP0
 have HB0 := kp hb0
 have HSP := kp hsp
 have HLN := kp hn
 simp only [cmdL, hL] at hW1
 obtain ⟨pl, hpl⟩ : ∃ pl, partL op key (.slice Ak nk ck) (.slice Av nv cv) (.slice At nt ct) life ver tag pre chi = pl := ⟨_, rfl⟩
 have HPL := kp hpl
 rw [hpl] at HP0
 have HL := kp hL
 clear hS0 hD0 hO0 hb0 hS1 hD1 hP0 hsp hn hpl hL
 go_enter Tryz.func174, Tryz.ntmps174
 go_wp2_with fail
 rw [<- hW1]
 clear hW1
 refine (HN.out _).mono ?_
 rintro e w2 ⟨rfl, rfl⟩
 obtain ⟨W1, rfl⟩ : ∃ W, W = w2 := ⟨_, rfl⟩
 go_wp2_with fail
 go_loopw [5] (fun j wr => ∃ k : Nat, k <= n /\ j = .int .i64 k /\ RowL wr (w.heap.size + 1 + 1) 36 (pl (l.take k)) /\ Kept [w.heap.size + 1 + 1] W1 wr) (fun j _ => n - (intOf j).toNat)
 case atStart => exact ⟨0, Nat.zero_le _, by go_num, HP0.out, Kept.refl _ _⟩
 case round =>
  obtain ⟨k, hk, rfl, hO, hK⟩ := hrel
  have HK := kp hK
  have hs := HS1.out.kept hK (by simp; omega)
  clear hK
  rw [<- HPL.out] at hO
  by_cases hlt : k < n
  ·have hg : decide ((k : Int) < (n : Int)) = true := decide_eq_true (by omega)
   have hi : 0 <= (k : Int) /\ (k : Int) < (s.size : Int) := by omega
   have hks : k < s.size := by omega
   have hch := HSP.out.all k hks
   have hlet := HSP.out.letters k (by rw [HLN.out]; exact hlt)
   have HTK := kp (take_snocC l (k := k) (by rw [HLN.out]; exact hlt))
   obtain ⟨ch, hce⟩ : ∃ ch, l.getD k 0 = ch := ⟨_, rfl⟩
   rw [hce] at hch hlet HTK
   clear hce
   have hidx : ∀ W, (Instr.index 9 (.string s) (.int .i64 (k : Int))).run Tryz.prog W = .ok (.int .u8 ch) W := fun W => by
    rw [run_index_string _ _ _ _ _ Tryz.underlying9, dif_pos hi, <- hch]
    simp
   clear hi hch hks
   rw [HL.out] at hs
   simp only [lettersC, List.mem_cons, List.not_mem_nil, or_false] at hlet
   rcases hlet with rfl | rfl | rfl | rfl | rfl | rfl | rfl | rfl | rfl
   focus
    obtain ⟨v0, o0⟩ : ∃ v, wr.cell? ⟨w.heap.size + 1 + 1, 1, none⟩ = some v := ⟨_, hO.cell (j := 1) rfl⟩
    have f1 := hO.frozen 1
    have s1 := hs.cell (j := 1) rfl
    have HOS := kp (show RowL (wr.setCell ⟨w.heap.size + 1 + 1, 1, none⟩ (.string key)) (w.heap.size + 1 + 1) 36 (pl (l.take (k + 1))) by
     have e : ∀ m, (partL op key (.slice Ak nk ck) (.slice Av nv cv) (.slice At nt ct) life ver tag pre chi m).set 1 (.string key) = partL op key (.slice Ak nk ck) (.slice Av nv cv) (.slice At nt ct) life ver tag pre chi (m ++ [107]) := fun m => by simp [partL]
     rw [HTK.out, <- HPL.out, <- e]
     exact hO.set 1 _)
    have HKS : Hid (Kept [w.heap.size + 1 + 1] W1 (wr.setCell ⟨w.heap.size + 1 + 1, 1, none⟩ (.string key))) := kp (HK.out.setCell (by simp) _)
   rotate_left 1
   focus
    obtain ⟨v0, o0⟩ : ∃ v, wr.cell? ⟨w.heap.size + 1 + 1, 3, none⟩ = some v := ⟨_, hO.cell (j := 3) rfl⟩
    have f1 := hO.frozen 3
    have s1 := hs.cell (j := 3) rfl
    have HOS := kp (show RowL (wr.setCell ⟨w.heap.size + 1 + 1, 3, none⟩ (.slice Av nv cv)) (w.heap.size + 1 + 1) 36 (pl (l.take (k + 1))) by
     have e : ∀ m, (partL op key (.slice Ak nk ck) (.slice Av nv cv) (.slice At nt ct) life ver tag pre chi m).set 3 (.slice Av nv cv) = partL op key (.slice Ak nk ck) (.slice Av nv cv) (.slice At nt ct) life ver tag pre chi (m ++ [118]) := fun m => by simp [partL]
     rw [HTK.out, <- HPL.out, <- e]
     exact hO.set 3 _)
    have HKS : Hid (Kept [w.heap.size + 1 + 1] W1 (wr.setCell ⟨w.heap.size + 1 + 1, 3, none⟩ (.slice Av nv cv))) := kp (HK.out.setCell (by simp) _)
   rotate_left 1
   focus
    obtain ⟨v0, o0⟩ : ∃ v, wr.cell? ⟨w.heap.size + 1 + 1, 4, none⟩ = some v := ⟨_, hO.cell (j := 4) rfl⟩
    have f1 := hO.frozen 4
    have s1 := hs.cell (j := 4) rfl
    have HOS := kp (show RowL (wr.setCell ⟨w.heap.size + 1 + 1, 4, none⟩ (.slice At nt ct)) (w.heap.size + 1 + 1) 36 (pl (l.take (k + 1))) by
     have e : ∀ m, (partL op key (.slice Ak nk ck) (.slice Av nv cv) (.slice At nt ct) life ver tag pre chi m).set 4 (.slice At nt ct) = partL op key (.slice Ak nk ck) (.slice Av nv cv) (.slice At nt ct) life ver tag pre chi (m ++ [116]) := fun m => by simp [partL]
     rw [HTK.out, <- HPL.out, <- e]
     exact hO.set 4 _)
    have HKS : Hid (Kept [w.heap.size + 1 + 1] W1 (wr.setCell ⟨w.heap.size + 1 + 1, 4, none⟩ (.slice At nt ct))) := kp (HK.out.setCell (by simp) _)
   rotate_left 1
   focus
    obtain ⟨v0, o0⟩ : ∃ v, wr.cell? ⟨w.heap.size + 1 + 1, 5, none⟩ = some v := ⟨_, hO.cell (j := 5) rfl⟩
    have f1 := hO.frozen 5
    have s1 := hs.cell (j := 5) rfl
    have HOS := kp (show RowL (wr.setCell ⟨w.heap.size + 1 + 1, 5, none⟩ (.int .u64 life)) (w.heap.size + 1 + 1) 36 (pl (l.take (k + 1))) by
     have e : ∀ m, (partL op key (.slice Ak nk ck) (.slice Av nv cv) (.slice At nt ct) life ver tag pre chi m).set 5 (.int .u64 life) = partL op key (.slice Ak nk ck) (.slice Av nv cv) (.slice At nt ct) life ver tag pre chi (m ++ [108]) := fun m => by simp [partL]
     rw [HTK.out, <- HPL.out, <- e]
     exact hO.set 5 _)
    have HKS : Hid (Kept [w.heap.size + 1 + 1] W1 (wr.setCell ⟨w.heap.size + 1 + 1, 5, none⟩ (.int .u64 life))) := kp (HK.out.setCell (by simp) _)
   rotate_left 1
   focus
    obtain ⟨v0, o0⟩ : ∃ v, wr.cell? ⟨w.heap.size + 1 + 1, 6, none⟩ = some v := ⟨_, hO.cell (j := 6) rfl⟩
    have f1 := hO.frozen 6
    have s1 := hs.cell (j := 6) rfl
    have HOS := kp (show RowL (wr.setCell ⟨w.heap.size + 1 + 1, 6, none⟩ (.int .u64 ver)) (w.heap.size + 1 + 1) 36 (pl (l.take (k + 1))) by
     have e : ∀ m, (partL op key (.slice Ak nk ck) (.slice Av nv cv) (.slice At nt ct) life ver tag pre chi m).set 6 (.int .u64 ver) = partL op key (.slice Ak nk ck) (.slice Av nv cv) (.slice At nt ct) life ver tag pre chi (m ++ [110]) := fun m => by simp [partL]
     rw [HTK.out, <- HPL.out, <- e]
     exact hO.set 6 _)
    have HKS : Hid (Kept [w.heap.size + 1 + 1] W1 (wr.setCell ⟨w.heap.size + 1 + 1, 6, none⟩ (.int .u64 ver))) := kp (HK.out.setCell (by simp) _)
   rotate_left 1
   focus
    obtain ⟨v0, o0⟩ : ∃ v, wr.cell? ⟨w.heap.size + 1 + 1, 2, none⟩ = some v := ⟨_, hO.cell (j := 2) rfl⟩
    have f1 := hO.frozen 2
    have s1 := hs.cell (j := 2) rfl
    have HOS := kp (show RowL (wr.setCell ⟨w.heap.size + 1 + 1, 2, none⟩ (.slice Ak nk ck)) (w.heap.size + 1 + 1) 36 (pl (l.take (k + 1))) by
     have e : ∀ m, (partL op key (.slice Ak nk ck) (.slice Av nv cv) (.slice At nt ct) life ver tag pre chi m).set 2 (.slice Ak nk ck) = partL op key (.slice Ak nk ck) (.slice Av nv cv) (.slice At nt ct) life ver tag pre chi (m ++ [109]) := fun m => by simp [partL]
     rw [HTK.out, <- HPL.out, <- e]
     exact hO.set 2 _)
    have HKS : Hid (Kept [w.heap.size + 1 + 1] W1 (wr.setCell ⟨w.heap.size + 1 + 1, 2, none⟩ (.slice Ak nk ck))) := kp (HK.out.setCell (by simp) _)
   rotate_left 1
   focus
    obtain ⟨v0, o0⟩ : ∃ v, wr.cell? ⟨w.heap.size + 1 + 1, 7, none⟩ = some v := ⟨_, hO.cell (j := 7) rfl⟩
    have f1 := hO.frozen 7
    have s1 := hs.cell (j := 7) rfl
    have HOS := kp (show RowL (wr.setCell ⟨w.heap.size + 1 + 1, 7, none⟩ (.string tag)) (w.heap.size + 1 + 1) 36 (pl (l.take (k + 1))) by
     have e : ∀ m, (partL op key (.slice Ak nk ck) (.slice Av nv cv) (.slice At nt ct) life ver tag pre chi m).set 7 (.string tag) = partL op key (.slice Ak nk ck) (.slice Av nv cv) (.slice At nt ct) life ver tag pre chi (m ++ [103]) := fun m => by simp [partL]
     rw [HTK.out, <- HPL.out, <- e]
     exact hO.set 7 _)
    have HKS : Hid (Kept [w.heap.size + 1 + 1] W1 (wr.setCell ⟨w.heap.size + 1 + 1, 7, none⟩ (.string tag))) := kp (HK.out.setCell (by simp) _)
   rotate_left 1
   focus
    obtain ⟨v0, o0⟩ : ∃ v, wr.cell? ⟨w.heap.size + 1 + 1, 8, none⟩ = some v := ⟨_, hO.cell (j := 8) rfl⟩
    have f1 := hO.frozen 8
    have s1 := hs.cell (j := 8) rfl
    have HOS := kp (show RowL (wr.setCell ⟨w.heap.size + 1 + 1, 8, none⟩ (.string pre)) (w.heap.size + 1 + 1) 36 (pl (l.take (k + 1))) by
     have e : ∀ m, (partL op key (.slice Ak nk ck) (.slice Av nv cv) (.slice At nt ct) life ver tag pre chi m).set 8 (.string pre) = partL op key (.slice Ak nk ck) (.slice Av nv cv) (.slice At nt ct) life ver tag pre chi (m ++ [112]) := fun m => by simp [partL]
     rw [HTK.out, <- HPL.out, <- e]
     exact hO.set 8 _)
    have HKS : Hid (Kept [w.heap.size + 1 + 1] W1 (wr.setCell ⟨w.heap.size + 1 + 1, 8, none⟩ (.string pre))) := kp (HK.out.setCell (by simp) _)
   rotate_left 1
   focus
    obtain ⟨v0, o0⟩ : ∃ v, wr.cell? ⟨w.heap.size + 1 + 1, 9, none⟩ = some v := ⟨_, hO.cell (j := 9) rfl⟩
    have f1 := hO.frozen 9
    have s1 := hs.cell (j := 9) rfl
    have HOS := kp (show RowL (wr.setCell ⟨w.heap.size + 1 + 1, 9, none⟩ (.string chi)) (w.heap.size + 1 + 1) 36 (pl (l.take (k + 1))) by
     have e : ∀ m, (partL op key (.slice Ak nk ck) (.slice Av nv cv) (.slice At nt ct) life ver tag pre chi m).set 9 (.string chi) = partL op key (.slice Ak nk ck) (.slice Av nv cv) (.slice At nt ct) life ver tag pre chi (m ++ [99]) := fun m => by simp [partL]
     rw [HTK.out, <- HPL.out, <- e]
     exact hO.set 9 _)
    have HKS : Hid (Kept [w.heap.size + 1 + 1] W1 (wr.setCell ⟨w.heap.size + 1 + 1, 9, none⟩ (.string chi))) := kp (HK.out.setCell (by simp) _)
   rotate_left 1
   rotate_right 9
   iterate 9
    ·clear hO hs
     go_wp2_with fail
     go_roundw
     case rel => exact ⟨k + 1, by omega, by go_num, HOS.out, HKS.out⟩
     case measure => simp [intOf]; omega
  ·obtain rfl : k = n := by omega
   have hg : decide ((k : Int) < (k : Int)) = false := by simp
   have hlt2 : l.take k = l := by rw [<- HLN.out]; exact List.take_length
   rw [hlt2] at hO
   have HBP := kp (show ∀ W : World, Below w.heap.size w W -> OnlyGen op key (.slice Ak nk ck) (.slice Av nv cv) (.slice At nt ct) life ver tag pre chi l w (.returned (.agg (partL op key (.slice Ak nk ck) (.slice Av nv cv) (.slice At nt ct) life ver tag pre chi l).toArray)) W from fun W hW => ⟨rfl, hW⟩)
   have h1 : (partL op key (.slice Ak nk ck) (.slice Av nv cv) (.slice At nt ct) life ver tag pre chi l).toArray.all (·.oneCell') = true := all_oneCell_toArray fun v hv => by
    simp only [partL, List.mem_cons, List.not_mem_nil, or_false] at hv
    rcases hv with rfl | rfl | rfl | rfl | rfl | rfl | rfl | rfl | rfl | rfl <;> first | rfl | exact one_if rfl
   have h2 := part_len op key (.slice Ak nk ck) (.slice Av nv cv) (.slice At nt ct) life ver tag pre chi l
   obtain ⟨q, hq⟩ : ∃ q, partL op key (.slice Ak nk ck) (.slice Av nv cv) (.slice At nt ct) life ver tag pre chi l = q := ⟨_, rfl⟩
   rw [hq] at hO HBP h1 h2
   have HO := kp hO.cells
   have HDR := kp (HD1.out.kept HK.out (by simp))
   have HT := kp (show wr.there (w.heap.size + 1) 0 q.toArray.size by (have h : q.toArray.size = 10 := h2; rw [h]; exact HDR.out.there (o := 0) (n := 10) (by simp [cmdL])))
   have H1 := kp h1
   have H2 := kp h2
   have HSZ := kp (show (Tryz.prog.info? 36).map (·.size) = some q.length by rw [h2]; kernel_rfl)
   have HSZA := kp (show (Tryz.prog.info? 36).map (·.size) = some q.toArray.size by rw [List.size_toArray, h2]; kernel_rfl)
   clear hO hs h1 h2 hq hlt2
   go_wp2_with (first
    | ((with_reducible refine wpList_load_agg (o := ⟨some 66, _, _, _, _, _⟩) rfl 36 _ rfl ⟨w.heap.size + 1 + 1, 0, none⟩ ?_ q _ HO.out Tryz.underlying36 rfl HSZ.out ?_); (· rfl))
    | ((with_reducible refine wpList_store_at2 (op := ⟨none, _, _, _, _, _⟩) rfl 36 _ _ rfl (w.heap.size + 1) 0 q.toArray ?_ ?_ ?_ HSZA.out H1.out ?_); (· rfl); (· rfl); (· exact HT.out); intro w9 hw9))
   have hD9 := store_all HDR.out q (by rw [H2.out]; rfl)
   have hc9 := row_cells hD9 q (by rw [H2.out]; rfl) fun i hi => rfl
   have hk9 : Kept [w.heap.size + 1] wr (wr.setCells (w.heap.size + 1) 0 q) := kept_setCells (by simp) _ _ _ (Kept.refl _ _)
   have hbel : Below w.heap.size w (wr.setCells (w.heap.size + 1) 0 q) := HB0.out.trans ((HK.out.below HB0.out.size (by simp; omega)).trans (hk9.below (Nat.le_trans HB0.out.size HK.out.size) (by simp)))
   refine bodyPost_ret (results_cell1 (p := 2) (ty := 36) rfl _ _ ⟨w.heap.size + 1, 0, none⟩ _ rfl (run_loadVar_at _ _ _ _ _ hc9 Tryz.underlying36 rfl HSZ.out)) rfl ?_
   exact HBP.out _ hbel
theorem cmd_oneL {w : World} {B : Nat} {c : CmdR} {vk vv vt : Value} (h : CmdOk w B c vk vv vt) : ∃ Ak ck Av cv At ct, vk = .slice Ak c.keys.length ck /\ vv = .slice Av c.val.length cv /\ vt = .slice At c.tags.length ct := by
 obtain ⟨⟨b1, Ak, ck, rfl, b2⟩, ⟨b3, b4, Av, cv, rfl, b5⟩, ⟨b6, At, ct, rfl, b7⟩⟩ := h
 exact ⟨_, _, _, _, _, _, rfl, rfl, rfl⟩
theorem only174 (c : CmdR) (hc : 1 <= c.op /\ c.op <= 15) (vk vv vt : Value) (w : World) (h : CmdOk w w.heap.size c vk vv vt) : Calls Tryz.prog 174 #[.agg (cmdC c vk vv vt).toArray] w (OnlyPost c w) := by
 obtain ⟨Ak, ck, Av, cv, At, ct, rfl, rfl, rfl⟩ := cmd_oneL h
 obtain ⟨op, key, keys, val, tags, life, ver, tag, pre, chi⟩ := c
 simp only at hc
 rcases (by omega : (op = 1 ∨ op = 2) ∨ op = 3 ∨ (op = 4 ∨ op = 7 ∨ op = 13) ∨ op = 5 ∨ op = 6 ∨ (op = 8 ∨ op = 9) ∨ op = 10 ∨ (op = 11 ∨ op = 12) ∨ (op = 14 ∨ op = 15)) with ho | ho | ho | ho | ho | ho | ho | ho | ho
 ·refine (only_gen op _ _ spells_set (kp fun W => needs_set op ho W) key tag pre chi life ver _ _ _ _ _ _ _ _ _ w).mono ?_
  rintro e w' ⟨rfl, hb⟩
  have hq := (h.below hb (Nat.le_refl _)).mono hb.size
  have ho2 : onlyC ⟨op, key, keys, val, tags, life, ver, tag, pre, chi⟩ = ⟨op, key, [], val, tags, life, 0, eB, eB, eB⟩ := by rcases ho with rfl | rfl <;> simp [onlyC]
  exact ⟨.slice none 0 0, .slice Av val.length cv, .slice At tags.length ct, by rw [ho2]; simp [partL, cmdC, eB], by rw [ho2]; exact ⟨slv_nil _ _, hq.2.1, hq.2.2⟩, hb⟩
 ·refine (only_gen op _ _ spells_cas (kp fun W => needs_cas op ho W) key tag pre chi life ver _ _ _ _ _ _ _ _ _ w).mono ?_
  rintro e w' ⟨rfl, hb⟩
  have hq := (h.below hb (Nat.le_refl _)).mono hb.size
  have ho2 : onlyC ⟨op, key, keys, val, tags, life, ver, tag, pre, chi⟩ = ⟨op, key, [], val, tags, life, ver, eB, eB, eB⟩ := by rcases ho with rfl <;> simp [onlyC]
  exact ⟨.slice none 0 0, .slice Av val.length cv, .slice At tags.length ct, by rw [ho2]; simp [partL, cmdC, eB], by rw [ho2]; exact ⟨slv_nil _ _, hq.2.1, hq.2.2⟩, hb⟩
 ·refine (only_gen op _ _ spells_key (kp fun W => needs_key op ho W) key tag pre chi life ver _ _ _ _ _ _ _ _ _ w).mono ?_
  rintro e w' ⟨rfl, hb⟩
  have hq := (h.below hb (Nat.le_refl _)).mono hb.size
  have ho2 : onlyC ⟨op, key, keys, val, tags, life, ver, tag, pre, chi⟩ = ⟨op, key, [], [], [], 0, 0, eB, eB, eB⟩ := by rcases ho with rfl | rfl | rfl <;> simp [onlyC]
  exact ⟨.slice none 0 0, .slice none 0 0, .slice none 0 0, by rw [ho2]; simp [partL, cmdC, eB], by rw [ho2]; exact ⟨slv_nil _ _, datg_nil _ _, slv_nil _ _⟩, hb⟩
 ·refine (only_gen op _ _ spells_mget (kp fun W => needs_mget op ho W) key tag pre chi life ver _ _ _ _ _ _ _ _ _ w).mono ?_
  rintro e w' ⟨rfl, hb⟩
  have hq := (h.below hb (Nat.le_refl _)).mono hb.size
  have ho2 : onlyC ⟨op, key, keys, val, tags, life, ver, tag, pre, chi⟩ = ⟨op, eB, keys, [], [], 0, 0, eB, eB, eB⟩ := by rcases ho with rfl <;> simp [onlyC]
  exact ⟨.slice Ak keys.length ck, .slice none 0 0, .slice none 0 0, by rw [ho2]; simp [partL, cmdC, eB], by rw [ho2]; exact ⟨hq.1, datg_nil _ _, slv_nil _ _⟩, hb⟩
 focus
  refine (only_gen op _ _ spells_touch (kp fun W => needs_touch op ho W) key tag pre chi life ver _ _ _ _ _ _ _ _ _ w).mono ?_
  rintro e w' ⟨rfl, hb⟩
  have hq := (h.below hb (Nat.le_refl _)).mono hb.size
  have ho2 : onlyC ⟨op, key, keys, val, tags, life, ver, tag, pre, chi⟩ = ⟨op, key, [], [], [], life, 0, eB, eB, eB⟩ := by rcases ho with rfl <;> simp [onlyC]
 rotate_left 1
 focus
  refine (only_gen op _ _ spells_tag (kp fun W => needs_tag op ho W) key tag pre chi life ver _ _ _ _ _ _ _ _ _ w).mono ?_
  rintro e w' ⟨rfl, hb⟩
  have hq := (h.below hb (Nat.le_refl _)).mono hb.size
  have ho2 : onlyC ⟨op, key, keys, val, tags, life, ver, tag, pre, chi⟩ = ⟨op, eB, [], [], [], 0, 0, tag, eB, eB⟩ := by rcases ho with rfl | rfl <;> simp [onlyC]
 rotate_left 1
 focus
  refine (only_gen op _ _ spells_pre (kp fun W => needs_pre op ho W) key tag pre chi life ver _ _ _ _ _ _ _ _ _ w).mono ?_
  rintro e w' ⟨rfl, hb⟩
  have hq := (h.below hb (Nat.le_refl _)).mono hb.size
  have ho2 : onlyC ⟨op, key, keys, val, tags, life, ver, tag, pre, chi⟩ = ⟨op, eB, [], [], [], 0, 0, eB, pre, eB⟩ := by rcases ho with rfl <;> simp [onlyC]
 rotate_left 1
 focus
  refine (only_gen op _ _ spells_dep (kp fun W => needs_dep op ho W) key tag pre chi life ver _ _ _ _ _ _ _ _ _ w).mono ?_
  rintro e w' ⟨rfl, hb⟩
  have hq := (h.below hb (Nat.le_refl _)).mono hb.size
  have ho2 : onlyC ⟨op, key, keys, val, tags, life, ver, tag, pre, chi⟩ = ⟨op, key, [], [], [], 0, 0, eB, eB, chi⟩ := by rcases ho with rfl | rfl <;> simp [onlyC]
 rotate_left 1
 focus
  refine (only_gen op _ _ spells_none (kp fun W => needs_none op ho W) key tag pre chi life ver _ _ _ _ _ _ _ _ _ w).mono ?_
  rintro e w' ⟨rfl, hb⟩
  have hq := (h.below hb (Nat.le_refl _)).mono hb.size
  have ho2 : onlyC ⟨op, key, keys, val, tags, life, ver, tag, pre, chi⟩ = ⟨op, eB, [], [], [], 0, 0, eB, eB, eB⟩ := by rcases ho with rfl | rfl <;> simp [onlyC]
 rotate_left 1
 rotate_right 5
 iterate 5
  ·exact ⟨.slice none 0 0, .slice none 0 0, .slice none 0 0, by rw [ho2]; simp [partL, cmdC, eB], by rw [ho2]; exact ⟨slv_nil _ _, datg_nil _ _, slv_nil _ _⟩, hb⟩
end Go.Proofs.YtnjhpgmbfblgaaaGreat.Ord
