/- Walk of request.Read at the bytes of any command, valid or not; Walks of request.Write and request.Valid at any command, valid or not; Walks of the reference's Needs and allowed (commands), and of its keys. -/
import Derived.Test.YtnjhpgmbfblgaaaGreatMK3
import Derived.Test.YtnjhpgmbfblgaaaGreatMR25
import Derived.Test.YtnjhpgmbfblgaaaGreatE5
namespace Go.Proofs.YtnjhpgmbfblgaaaGreat.Ord
set_option maxRecDepth 100000
set_option maxHeartbeats 16000000
open Go.RowKit
set_option linter.unusedVariables false
set_option linter.unusedSimpArgs false
theorem cmdC_size (c : CmdR) (vk vv vt : Value) : (Tryz.prog.info? 36).map (·.size) = some (cmdC c vk vv vt).length := by
 obtain ⟨_, _, _, _, _, _, _, _, _, _⟩ := c
 kernel_rfl
theorem cmdC_sizeA (c : CmdR) (vk vv vt : Value) : (Tryz.prog.info? 36).map (·.size) = some (cmdC c vk vv vt).toArray.size := by
 obtain ⟨_, _, _, _, _, _, _, _, _, _⟩ := c
 kernel_rfl
theorem cmdC_one (c : CmdR) {vk vv vt : Value} (h1 : vk.oneCell' = true) (h2 : vv.oneCell' = true) (h3 : vt.oneCell' = true) : (cmdC c vk vv vt).toArray.all (·.oneCell') = true := all_oneCell_toArray fun v hv => by
 simp only [cmdC, List.mem_cons, List.not_mem_nil, or_false] at hv
 rcases hv with rfl | rfl | rfl | rfl | rfl | rfl | rfl | rfl | rfl | rfl <;> first | rfl | assumption
theorem SlN.one {w : World} {N : List Nat} {v : Value} {xs : List ByteArray} (h : SlN w N v xs) : v.oneCell' = true := by
 obtain ⟨A, c, rfl, _⟩ := h; rfl
theorem SlX.one {w : World} {N : List Nat} {v : Value} {xs : List Int} (h : SlX w N v xs) : v.oneCell' = true := by
 obtain ⟨A, c, rfl, _⟩ := h; rfl
theorem CmdV.sizes {c : CmdR} (h : CmdV c) : c.keys.length <= 16 /\ (∀ y ∈ c.val, 0 <= y /\ y < 256) /\ c.val.length <= 65536 /\ c.tags.length <= 16 := by
 cases h <;> simp_all
theorem cmdOk_of {w : World} {N : List Nat} {c : CmdR} {vk vv vt : Value} (h : CmdV c) (h1 : SlN w N vk c.keys) (h2 : SlX w N vv c.val) (h3 : SlN w N vt c.tags) : CmdOk w w.heap.size c vk vv vt := by
 obtain ⟨s1, s2, s3, s4⟩ := h.sizes
 obtain ⟨A1, c1, rfl, e1, _⟩ := h1
 obtain ⟨A2, c2, rfl, e2, _⟩ := h2
 obtain ⟨A3, c3, rfl, e3, _⟩ := h3
 exact ⟨⟨by unfold maxLen; omega, A1, c1, rfl, e1⟩, ⟨s2, by unfold maxLen; omega, A2, c2, rfl, e2⟩, ⟨by unfold maxLen; omega, A3, c3, rfl, e3⟩⟩

/-- what a fresh command's row does not hold -/
theorem fresh_cell {w : World} {D : Nat} (h : w.rowIs D 36 10 (listF (cmdL 0 ⟨#[]⟩))) (o : Nat) (v : Value) (hv : w.cell? ⟨D, o, none⟩ = some v) : (∀ x, v ≠ .int .u8 x) /\ ∀ s, v = .string s -> s.size = 0 := by
 have ho : o < 10 := by
  rcases Nat.lt_or_ge o 10 with h1 | h1
  ·exact h1
  ·obtain ⟨c, hb, hn, _⟩ := h
   have : c[o]? = none := Array.getElem?_eq_none (by omega)
   simp [World.cell?, hb, this] at hv
 rw [World.rowIs.cell h ho] at hv
 have hv := Option.some.inj hv
 subst hv
 match o, ho with
 | 0, _ => exact ⟨fun x h => by simp [listF, cmdL] at h, fun s h => by simp [listF, cmdL] at h⟩
 | 1, _ => exact ⟨fun x h => by simp [listF, cmdL] at h, fun s h => by simp [listF, cmdL] at h; subst h; rfl⟩
 | 2, _ => exact ⟨fun x h => by simp [listF, cmdL] at h, fun s h => by simp [listF, cmdL] at h⟩
 | 3, _ => exact ⟨fun x h => by simp [listF, cmdL] at h, fun s h => by simp [listF, cmdL] at h⟩
 | 4, _ => exact ⟨fun x h => by simp [listF, cmdL] at h, fun s h => by simp [listF, cmdL] at h⟩
 | 5, _ => exact ⟨fun x h => by simp [listF, cmdL] at h, fun s h => by simp [listF, cmdL] at h⟩
 | 6, _ => exact ⟨fun x h => by simp [listF, cmdL] at h, fun s h => by simp [listF, cmdL] at h⟩
 | 7, _ => exact ⟨fun x h => by simp [listF, cmdL] at h, fun s h => by simp [listF, cmdL] at h; subst h; rfl⟩
 | 8, _ => exact ⟨fun x h => by simp [listF, cmdL] at h, fun s h => by simp [listF, cmdL] at h; subst h; rfl⟩
 | 9, _ => exact ⟨fun x h => by simp [listF, cmdL] at h, fun s h => by simp [listF, cmdL] at h; subst h; rfl⟩
theorem CmdV.parts {c : CmdR} (h : CmdV c) : (∀ s ∈ c.keys, 0 < s.size) /\ ∀ s ∈ c.tags, 0 < s.size := by
 have hk : ∀ s, keyOk s = true -> 0 < s.size := fun s h => by simp [keyOk] at h; exact h.1
 have ht : ∀ s, tagOk s = true -> 0 < s.size := fun s h => by simp [tagOk] at h; exact h.1
 cases h <;> simp_all
theorem fresh_cmd {w w' : World} {D : Nat} {c : CmdR} {vk vv vt : Value} (hc : CmdV c) (hD : w.rowIs D 36 10 (listF (cmdL 0 ⟨#[]⟩))) (hk : Kept [D] w w') (h : CmdOk w w.heap.size c vk vv vt) : CmdOk w' w'.heap.size c vk vv vt := by
 obtain ⟨p1, p2⟩ := hc.parts
 obtain ⟨⟨s1, A1, c1, rfl, e1⟩, ⟨s2, s3, A2, c2, rfl, e2⟩, ⟨s4, A3, c3, rfl, e3⟩⟩ := h
 have he : ∀ (A : Option Addr) (xs : List ByteArray), (∀ s ∈ xs, 0 < s.size) -> ElV Value.string w w.heap.size A xs -> ElV Value.string w' w'.heap.size A xs := fun A xs hp hel i x hx => by
  obtain ⟨b, off, rfl, hlt, hce⟩ := hel i x hx
  refine ⟨b, off, rfl, Nat.lt_of_lt_of_le hlt hk.size, hk.cell (fun hm => ?_) hce⟩
  simp at hm
  subst hm
  have h1 := (fresh_cell hD _ _ hce).2 x rfl
  have h2 := hp x (List.mem_iff_getElem?.2 ⟨i, hx⟩)
  omega
 refine ⟨⟨s1, A1, c1, rfl, he _ _ p1 e1⟩, ⟨s2, s3, A2, c2, rfl, e2.1, e2.2.1, fun i hi => ?_⟩, ⟨s4, A3, c3, rfl, he _ _ p2 e3⟩⟩
 obtain ⟨b, off, rfl, hlt, hce⟩ := e2.2.2 i hi
 refine ⟨b, off, rfl, Nat.lt_of_lt_of_le hlt hk.size, fun x hx => hk.cell (fun hm => ?_) (hce x hx)⟩
 simp at hm
 subst hm
 exact (fresh_cell hD _ _ (hce x hx)).1 x rfl

theorem okG_all {least : Nat} {alw : ByteArray -> Bool} {l : List ByteArray} (h : okG least alw l = true) : least <= l.length /\ l.length <= 16 /\ ∀ s ∈ l, alw s = true := by
 unfold okG at h
 simp only [Bool.and_eq_true] at h
 exact ⟨(inR_iff.1 h.1).1, (inR_iff.1 h.1).2, List.all_eq_true.1 h.2⟩
/-- a command that is allowed, with the parts that it needs, is valid -/
theorem cmdV_only {c : CmdR} (hs : CmdS c) (ho : 1 <= c.op /\ c.op <= 15) (hk : okC c = true) : CmdV (onlyC c) := by
 have hl := life_nat hs
 have hv := ver_nat hs
 have hvl := hs.val
 have hby := hs.bytes
 have h0 : c.life ≠ 0 -> 0 < c.life.toNat := fun h => by have := hs.life; omega
 obtain ⟨op, key, keys, val, tags, life, ver, tag, pre, chi⟩ := c
 simp only at ho hl hv hvl hby h0
 have hop : op = 1 ∨ op = 2 ∨ op = 3 ∨ op = 4 ∨ op = 5 ∨ op = 6 ∨ op = 7 ∨ op = 8 ∨ op = 9 ∨ op = 10 ∨ op = 11 ∨ op = 12 ∨ op = 13 ∨ op = 14 ∨ op = 15 := by omega
 rcases hop with rfl | rfl | rfl | rfl | rfl | rfl | rfl | rfl | rfl | rfl | rfl | rfl | rfl | rfl | rfl
 ·show CmdV _
  simp [okC] at hk
  have h1 := okG_all hk.1.2
  have := CmdV.set 1 key val tags life.toNat (by simp) hk.1.1 hby (by omega) h1.2.2 h1.2.1 (h0 hk.2) hl.2
  rw [<- hl.1] at this
  exact this
 ·show CmdV _
  simp [okC] at hk
  have h1 := okG_all hk.1.2
  have := CmdV.set 2 key val tags life.toNat (by simp) hk.1.1 hby (by omega) h1.2.2 h1.2.1 (h0 hk.2) hl.2
  rw [<- hl.1] at this
  exact this
 ·show CmdV _
  simp [okC] at hk
  have h1 := okG_all hk.1.2
  have := CmdV.cas key val tags life.toNat ver.toNat hk.1.1 hby (by omega) h1.2.2 h1.2.1 (h0 hk.2) hl.2 hv.2
  rw [<- hl.1, <- hv.1] at this
  exact this
 ·show CmdV _
  simp [okC] at hk
  exact CmdV.key 4 key (by simp) hk
 ·show CmdV _
  simp [okC] at hk
  have h1 := okG_all hk
  exact CmdV.mget keys h1.2.2 h1.1 h1.2.1
 ·show CmdV _
  simp [okC] at hk
  have := CmdV.touch key life.toNat hk.1 (h0 hk.2) hl.2
  rw [<- hl.1] at this
  exact this
 ·show CmdV _
  simp [okC] at hk
  exact CmdV.key 7 key (by simp) hk
 ·show CmdV _
  simp [okC] at hk
  exact CmdV.tag 8 tag (by simp) hk
 ·show CmdV _
  simp [okC] at hk
  exact CmdV.tag 9 tag (by simp) hk
 ·show CmdV _
  simp [okC] at hk
  exact CmdV.pre pre hk
 ·show CmdV _
  simp [okC] at hk
  exact CmdV.dep 11 key chi (by simp) hk.1 hk.2
 ·show CmdV _
  simp [okC] at hk
  exact CmdV.dep 12 key chi (by simp) hk.1 hk.2
 ·show CmdV _
  simp [okC] at hk
  exact CmdV.key 13 key (by simp) hk
 ·show CmdV _
  exact CmdV.none 14 (by simp)
 ·show CmdV _
  exact CmdV.none 15 (by simp)
theorem onlyC_op (c : CmdR) : (onlyC c).op = c.op := by
 unfold onlyC
 split
 ·rfl
 split
 ·rfl
 split
 ·rfl
 split
 ·rfl
 split
 ·rfl
 split
 ·rfl
 split
 ·rfl
 split <;> rfl
theorem payG_len {c : CmdR} (h : CmdS c) : (payG c).length <= 100000 := by
 have a1 := putS_len3 h.key
 have a2 := putS_len3 h.chi
 have a3 := putS_len3 h.tag
 have a4 := putS_len3 h.pre
 have a5 := putV_len10 (n := c.val.length) (by have := h.val; omega)
 have a6 := h.val
 have a7 := putG_len (least := 0) h.tags h.ntags
 have a8 := putG_len (least := 1) h.keys h.nkeys
 have a9 := putV_len10 (life_nat h).2
 have b1 := putV_len10 (ver_nat h).2
 unfold payG
 repeat' split
 all_goals first
  | omega
  | (simp only [List.length_append, List.length_nil]; omega)
def RdPost (cm : CmdR) (w : World) (e : Ending) (w' : World) : Prop := Below w.heap.size w w' /\ (okC cm = true -> ∃ vk vv vt, e = .returned (.tuple #[.agg (cmdC (onlyC cm) vk vv vt).toArray, .int .i64 0]) /\ CmdOk w' w'.heap.size (onlyC cm) vk vv vt) /\ (okC cm = false -> e = .returned (.tuple #[.agg (cmdL 0 ⟨#[]⟩).toArray, .int .i64 6]))
theorem read_g (cm : CmdR) (op : Int) (hop : cm.op = op) (hs : CmdS cm) (hr : 1 <= op /\ op <= 15) (A : Option Addr) (k c : Nat) (w : World) (hk : (payG cm).length = k) (hA : Byt w w.heap.size A c (payG cm)) :
  Calls Tryz.prog 237 #[.agg #[.int .u8 op, .slice A k c]] w (RdPost cm w) := by
 have hr1 : 0 < op := by omega
 have hr2 : op < 16 := by omega
 have hkl : k <= 100000 := by have := payG_len hs; omega
 go_enter Tryz.func237, Tryz.ntmps237
 go_wp2_with fail
 obtain ⟨W1, hW1, hC1, hD1, hb1, hs1⟩ := read_start w (.int .u8 op) (.slice A k c) op
 rw [<- hW1]
 clear hW1
 refine (new_any A k c _ W1 hk (by omega) ((hA.below hb1 (Nat.le_refl _)).mono (by omega))).mono ?_
 rintro e w2 ⟨R, v2, rfl, hRs, hR2, hv2, hb2⟩
 have hC2 := World.rowIs.of_block hC1 (hb2.block _ (by omega))
 have hD2 := World.rowIs.of_block hD1 (hb2.block _ (by omega))
 clear hC1 hD1
 have hRC : w.heap.size + 1 + 1 ≠ R := by omega
 have hRw := World.rowIs.lt hR2
 have hb2s := hb2.size
 go_wp2_with fail
 have hX3 := row_list w2 [.pointer (some ⟨w.heap.size + 1 + 1, 0, none⟩), .pointer (some ⟨R, 0, none⟩), .slice none 0 0, .bool false] 339
 have hX3 : (w2.alloc (.cells #[.pointer (some ⟨w.heap.size + 1 + 1, 0, none⟩), .pointer (some ⟨R, 0, none⟩), .slice none 0 0, .bool false] 339)).rowIs w2.heap.size 339 4 (codF (.pointer (some ⟨w.heap.size + 1 + 1, 0, none⟩)) (.pointer (some ⟨R, 0, none⟩)) (.slice none 0 0) false) := World.rowIs.congr (by simpa using hX3) fun i hi => by
  match i, hi with
  | 0, _ => rfl
  | 1, _ => rfl
  | 2, _ => rfl
  | 3, _ => rfl
 have hC3 := World.rowIs.alloc hC2 (.cells #[.pointer (some ⟨w.heap.size + 1 + 1, 0, none⟩), .pointer (some ⟨R, 0, none⟩), .slice none 0 0, .bool false] 339)
 have hD3 := World.rowIs.alloc hD2 (.cells #[.pointer (some ⟨w.heap.size + 1 + 1, 0, none⟩), .pointer (some ⟨R, 0, none⟩), .slice none 0 0, .bool false] 339)
 have hR3 := World.rowIs.alloc hR2 (.cells #[.pointer (some ⟨w.heap.size + 1 + 1, 0, none⟩), .pointer (some ⟨R, 0, none⟩), .slice none 0 0, .bool false] 339)
 have hv3 := (hv2 [w2.heap.size, w.heap.size + 1 + 1, R, w.heap.size + 1] (fun k hk => by simp at hk; omega)).kept (Kept.of_below (L := []) (below1 w2 (.cells #[.pointer (some ⟨w.heap.size + 1 + 1, 0, none⟩), .pointer (some ⟨R, 0, none⟩), .slice none 0 0, .bool false] 339))) (by simp)
 have hb3 := below1 w2 (.cells #[.pointer (some ⟨w.heap.size + 1 + 1, 0, none⟩), .pointer (some ⟨R, 0, none⟩), .slice none 0 0, .bool false] 339)
 have hs3 : (w2.alloc (.cells #[.pointer (some ⟨w.heap.size + 1 + 1, 0, none⟩), .pointer (some ⟨R, 0, none⟩), .slice none 0 0, .bool false] 339)).heap.size = w2.heap.size + 1 := by simp
 generalize w2.alloc (.cells #[.pointer (some ⟨w.heap.size + 1 + 1, 0, none⟩), .pointer (some ⟨R, 0, none⟩), .slice none 0 0, .bool false] 339) = w3 at *
 have hRS : RS w3 [w2.heap.size, w.heap.size + 1 + 1, R, w.heap.size + 1] w2.heap.size (w.heap.size + 1 + 1) R (listF (cmdL cm.op ⟨#[]⟩)) (payG cm) false :=
  ⟨by omega, by omega, hRC, by rw [hop]; exact hC3, hX3, by simp, v2, hR3, hv3⟩
 refine (parts_s_any hs (by rw [hop]; exact hr) hRS).mono ?_
 rintro e w4 ⟨rfl, vk, vv, vt, hS4, hsl4, hk4⟩
 have hD4 := hk4.row (by simp; omega) hD3
 obtain ⟨_, _, _, hC4, hX4, _, v4, hR4, hv4⟩ := hS4
 obtain ⟨A4, c4, rfl, hby4, _⟩ := hv4
 have hbb : Below w.heap.size w w3 := by
  have h5 := hb1.trans (hb2.mono (by omega))
  exact h5.trans (hb3.mono (by omega))
 cases hb : okC cm
 ·have hx43 : w4.cell? ⟨w2.heap.size, 3, none⟩ = some (.bool true) := by
   have := World.rowIs.cell hX4 (i := 3) (by decide)
   rw [hb] at this
   exact this
  have HD4 := kp hD4
  have HT4 := kp (row_there HD4.out)
  clear hC4 hD4 hX4 hR4 hX3 hC3 hD3 hR3 hv3 hv2 hC2 hD2 hR2 hRS hsl4
  go_wp2_with ((with_reducible refine wpList_store_at2 (op := ⟨none, _, _, _, _, _⟩) rfl 36 _ _ rfl (w.heap.size + 1) 0 (cmdL 0 ⟨#[]⟩).toArray ?_ ?_ ?_ (cmdL_sizeA 0 _) ?_ ?_); (· rfl); (· rfl); (· exact HT4.out); (· exact cmdL_one 0 _); intro w5 hw5)
  have hD5 := store_all HD4.out (cmdL 0 ⟨#[]⟩) rfl
  have hc5 := row_cells hD5 (cmdL 0 ⟨#[]⟩) rfl fun i hi => rfl
  have hk45 : Kept [w.heap.size + 1] w4 (w4.setCells (w.heap.size + 1) 0 (cmdL 0 ⟨#[]⟩)) := kept_setCells (by simp) _ _ _ (Kept.refl _ _)
  have hk5 : Kept [w2.heap.size, w.heap.size + 1 + 1, R, w.heap.size + 1] w3 (w4.setCells (w.heap.size + 1) 0 (cmdL 0 ⟨#[]⟩)) := (hk4.mono (by simp)).trans (hk45.mono (by simp))
  exact bodyPost_ret (results_cell2 rfl _ _ ⟨w.heap.size + 1, 0, none⟩ (cmdL 0 ⟨#[]⟩).toArray rfl (run_loadVar_at _ _ _ _ _ hc5 Tryz.underlying36 rfl (cmdL_size 0 _))) rfl ⟨hbb.trans (hk5.below (by omega) (by simp; omega)), fun h => by rw [hb] at h; simp at h, fun _ => rfl⟩
 ·have hx43 : w4.cell? ⟨w2.heap.size, 3, none⟩ = some (.bool false) := by
   have := World.rowIs.cell hX4 (i := 3) (by decide)
   rw [hb] at this
   exact this
  have hc := cmdV_only hs (by rw [hop]; exact hr) hb
  obtain ⟨hk4s, hv4s, ht4s⟩ := hsl4 (by rw [hb]; rfl)
  clear hsl4
  have hx41 : w4.cell? ⟨w2.heap.size, 1, none⟩ = some (.pointer (some ⟨R, 0, none⟩)) := World.rowIs.cell hX4 (i := 1) (by decide)
  have hr41 : w4.cell? ⟨R, 1, none⟩ = some (.slice A4 0 c4) := World.rowIs.cell hR4 (i := 1) (by decide)
  have HC4 := kp hC4
  have HD4 := kp hD4
  clear hC4 hD4 hX4 hR4 hX3 hC3 hD3 hR3 hv3 hv2 hC2 hD2 hR2 hRS
  have HCC := kp (row_cells HC4.out (cmdC (onlyC cm) vk vv vt) rfl fun i hi => rfl)
  have HT4 := kp (row_there HD4.out)
  go_wp2_with fail
  go_enter Tryz.func306, Tryz.ntmps306
  go_wp2_with (first
   | ((with_reducible refine wpList_load_agg (o := ⟨some 24, _, _, _, _, _⟩) rfl 36 _ rfl ⟨w.heap.size + 1 + 1, 0, none⟩ ?_ (cmdC (onlyC cm) vk vv vt) _ HCC.out Tryz.underlying36 rfl (cmdC_size _ _ _ _) ?_); (· rfl))
   | ((with_reducible refine wpList_store_at2 (op := ⟨none, _, _, _, _, _⟩) rfl 36 _ _ rfl (w.heap.size + 1) 0 (cmdC (onlyC cm) vk vv vt).toArray ?_ ?_ ?_ (cmdC_sizeA _ _ _ _) ?_ ?_); (· rfl); (· rfl); (· exact HT4.out); (· exact cmdC_one _ hk4s.one hv4s.one ht4s.one); intro w5 hw5))
  have hD5 := store_all HD4.out (cmdC (onlyC cm) vk vv vt) rfl
  have hc5 := row_cells hD5 (cmdC (onlyC cm) vk vv vt) rfl fun i hi => rfl
  have hk45 : Kept [w.heap.size + 1] w4 (w4.setCells (w.heap.size + 1) 0 (cmdC (onlyC cm) vk vv vt)) := kept_setCells (by simp) _ _ _ (Kept.refl _ _)
  have hk5 : Kept [w2.heap.size, w.heap.size + 1 + 1, R, w.heap.size + 1] w3 (w4.setCells (w.heap.size + 1) 0 (cmdC (onlyC cm) vk vv vt)) := (hk4.mono (by simp)).trans (hk45.mono (by simp))
  refine bodyPost_ret (results_cell2 rfl _ _ ⟨w.heap.size + 1, 0, none⟩ (cmdC (onlyC cm) vk vv vt).toArray rfl (run_loadVar_at _ _ _ _ _ hc5 Tryz.underlying36 rfl (cmdC_size _ _ _ _))) rfl ⟨?_, fun _ => ⟨vk, vv, vt, rfl, ?_⟩, fun h => by rw [hb] at h; simp at h⟩
  ·exact hbb.trans (hk5.below (by omega) (by simp; omega))
  ·exact fresh_cmd hc HD4.out hk45 (cmdOk_of hc hk4s hv4s ht4s)
/-- whether a command is valid -/
def validC (c : CmdR) : Bool := decide (1 <= c.op /\ c.op <= 15) && okC c && cmdEq (onlyC c) c
theorem validC_no {c : CmdR} (h : ¬ (1 <= c.op /\ c.op <= 15)) : validC c = false := by unfold validC; rw [decide_eq_false h]; rfl
theorem validC_bad {c : CmdR} (h : okC c = false) : validC c = false := by unfold validC; rw [h]; simp
theorem validC_eq {c : CmdR} (h : 1 <= c.op /\ c.op <= 15) (h1 : okC c = true) : validC c = cmdEq (onlyC c) c := by unfold validC; rw [decide_eq_true h, h1]; rfl
theorem valid_no (op : Int) (h : ¬ (1 <= op /\ op <= 15)) (w : World) : Calls Tryz.prog 235 #[.int .i64 op] w fun e w' => e = .returned (.bool false) /\ w' = w := by
 by_cases h1 : 1 <= op
 ·have g1 : decide ((0 : Int) < op) = true := by simp; omega
  have g2 : decide (op < 16) = false := by simp; omega
  go_enter Tryz.func235, Tryz.ntmps235
  go_wp2_with fail
  go_ret
  exact ⟨rfl, rfl⟩
 ·have g1 : decide ((0 : Int) < op) = false := by simp; omega
  go_enter Tryz.func235, Tryz.ntmps235
  go_wp2_with fail
  go_ret
  exact ⟨rfl, rfl⟩
theorem pw_start {w W : World} {cm : CmdR} {vk vv vt : Value} (hok : CmdOk w w.heap.size cm vk vv vt) (hb : Below w.heap.size w W) (hC : W.rowIs w.heap.size 36 10 (listF (cmdC cm vk vv vt)))
  (hX : W.rowIs (w.heap.size + 1 + 1) 339 4 (codF (.pointer (some ⟨w.heap.size, 0, none⟩)) (.pointer none) (.slice none 0 0) false)) : PW W (w.heap.size + 1 + 1) w.heap.size cm vk vv vt := by
 obtain ⟨⟨s1, A1, c1, rfl, e1⟩, ⟨s2, s3, A2, c2, rfl, e2⟩, ⟨s4, A3, c3, rfl, e3⟩⟩ := hok
 have hs := hb.size
 have hn : ∀ (A : Option Addr) (xs : List ByteArray), ElV Value.string w w.heap.size A xs -> ∀ b off, A = some ⟨b, off, none⟩ -> xs ≠ [] -> b ∉ [w.heap.size + 1 + 1, w.heap.size] := fun A xs hel b off hA hx hm => by
  cases xs with
  | nil => exact hx rfl
  | cons x r =>
   obtain ⟨b2, off2, h1, h2, _⟩ := hel 0 x rfl
   rw [hA] at h1
   cases h1
   simp at hm
   omega
 refine ⟨⟨by omega, hC, _, hX, none, 0, rfl, Byt.nil _ _, by simp⟩, ⟨A1, c1, rfl, (e1.below hb (Nat.le_refl _)).mono hs, hn _ _ e1⟩, ⟨A2, c2, rfl, (e2.below hb (Nat.le_refl _)).mono hs, fun b off hA hx hm => ?_⟩, ⟨A3, c3, rfl, (e3.below hb (Nat.le_refl _)).mono hs, hn _ _ e3⟩⟩
 obtain ⟨b2, off2, h1, h2, _⟩ := e2.2.2 0 (by cases hv : cm.val with | nil => exact absurd hv hx | cons _ _ => simp)
 rw [hA] at h1
 cases h1
 simp at hm
 omega

def errC (c : CmdR) : Int := if validC c = true then 0 else 2
theorem write_g (cm : CmdR) (op : Int) (hop : cm.op = op) (hs : CmdS cm) (vk vv vt : Value) (w : World) (hok : CmdOk w w.heap.size cm vk vv vt) :
  Calls Tryz.prog 178 #[.agg (cmdC cm vk vv vt).toArray] w fun e w' => (∃ p A n c, e = .returned (.tuple #[.agg #[.int .u8 p, .slice A n c], .int .i64 (errC cm)])) /\ Below w.heap.size w w' := by
 have hpl := payG_len hs
 obtain ⟨W1, hW1, hC1, hF1, hX1, hb1, hs1⟩ := write_start w (cmdC cm vk vv vt) rfl
 have hPW := pw_start hok hb1 hC1 hX1
 have HOK := kp hok
 obtain ⟨A5, c5, rfl⟩ : ∃ A c, vv = .slice A cm.val.length c := by obtain ⟨_, ⟨_, _, A, c, h, _⟩, _⟩ := hok; exact ⟨A, c, h⟩
 have hvl : decide ((65536 : Int) < (cm.val.length : Int)) = false := by have := hs.val; simp; omega
 clear hok
 have HCM := kp hop
 have hF0 := row_list (w.alloc (.cells (cmdC cm vk (.slice A5 cm.val.length c5) vt).toArray 36)) [.int .u8 0, .slice none 0 0] 270
 have hT0 := row_there hF0
 have HF0 := kp hF0
 have HT0 := kp hT0
 have HB0 := kp (below2 w (.cells (cmdC cm vk (.slice A5 cm.val.length c5) vt).toArray 36) (.cells #[.int .u8 0, .slice none 0 0] 270))
 clear hF0 hT0
 simp only [cmdC, hop] at hW1 HF0 HT0 HB0 ⊢
 clear hop
 go_enter Tryz.func178, Tryz.ntmps178
 go_wp2_with fail
 by_cases hr : 1 <= op /\ op <= 15
 rotate_left
 ·refine (valid_no op (by omega) _).mono ?_
  rintro e w1 ⟨rfl, rfl⟩
  clear hC1 hX1 hPW hF1
  go_wp2_with ((with_reducible refine wpList_store_at2 (op := ⟨none, _, _, _, _, _⟩) rfl 270 _ _ rfl (w.heap.size + 1) 0 #[.int .u8 0, .slice none 0 0] ?_ ?_ ?_ ?_ ?_ ?_); (· rfl); (· rfl); (· simpa using HT0.out); (· rfl); (· simp [Value.oneCell']); intro w7 hw7)
  have hD7 := store_all HF0.out [.int .u8 0, .slice none 0 0] rfl
  have hc7 := row_cells hD7 [.int .u8 0, .slice none 0 0] rfl fun i hi => rfl
  refine bodyPost_ret (results_cell2 rfl _ _ ⟨w.heap.size + 1, 0, none⟩ #[.int .u8 0, .slice none 0 0] rfl (run_loadVar_at _ _ _ _ _ (by simpa using hc7) Tryz.underlying270 rfl (by kernel_rfl))) rfl ⟨⟨_, _, _, _, by unfold errC; rw [validC_no (by rw [HCM.out]; exact hr)]; rfl⟩, ?_⟩
  exact (kept_setCells (L := [w.heap.size + 1]) (by simp) _ _ _ (Kept.of_below HB0.out)).below (Nat.le_refl _) (by simp)
 have hr1 : 0 < op := by omega
 have hr2 : op < 16 := by omega
 refine (valid_any op hr1 hr2 _).mono ?_
 rintro e w1 ⟨rfl, rfl⟩
 clear HF0 HT0 HB0
 go_wp2_with fail
 rw [<- hW1]
 clear hW1
 refine (parts_g_any hs (by rw [HCM.out]; exact hr) hPW).mono ?_
 rintro e w2 ⟨rfl, hS2, hk2⟩
 obtain ⟨_, hC2, v2, hX2, A2, c2, rfl, hby2, hlo2⟩ := hS2
 have hF2 := hk2.row (by simp) hF1
 have hx22 : w2.cell? ⟨w.heap.size + 1 + 1, 2, none⟩ = some (.slice A2 (payG cm).length c2) := World.rowIs.cell hX2 (i := 2) (by decide)
 have hc20 : w2.cell? ⟨w.heap.size, 0, none⟩ = some (.int .i64 op) := by rw [<- HCM.out]; exact World.rowIs.cell hC2 (i := 0) (by decide)
 obtain ⟨k, hk⟩ : ∃ k, (payG cm).length = k := ⟨_, rfl⟩
 rw [hk] at hx22 hpl
 have hs2 := hk2.size
 have hb02 : Below w.heap.size w w2 := hb1.trans (hk2.below (by omega) (by simp; omega))
 have HX2 := kp hX2
 have HC2 := kp hC2
 have HF2 := kp hF2
 clear hX2 hC2 hF2 hC1 hF1 hX1 hPW
 go_wp2_with fail
 have hbA := below1 w2 (.cells #[.int .u8 op, .slice A2 k c2] 270)
 refine (read_g cm op HCM.out hs hr A2 k c2 _ hk ((hby2.below hbA (Nat.le_refl _)).mono (by simp))).mono ?_
 rintro e w4 ⟨hb4, hyes, hno⟩
 have hb24 : Below w2.heap.size w2 w4 := hbA.trans (hb4.mono hbA.size)
 have hs4 := hb24.size
 have hX4 := World.rowIs.of_block HX2.out (hb24.block _ (by omega))
 have HX0 := kp (World.rowIs.cell hX4 (i := 3) (by decide))
 have hC4 := World.rowIs.of_block HC2.out (hb24.block _ (by omega))
 have hF4 := World.rowIs.of_block HF2.out (hb24.block _ (by omega))
 have hl0 : w.heap.size < w4.heap.size := by omega
 have hl1 : w.heap.size + 1 < w4.heap.size := by omega
 have hl2 : w.heap.size + 1 + 1 < w4.heap.size := by omega
 cases hb : okC cm
 ·obtain rfl := hno hb
  have hx43 : w4.cell? ⟨w.heap.size + 1 + 1, 3, none⟩ = some (.bool true) := by have := HX0.out; rw [hb] at this; exact this
  have hT4 := row_there (World.rowIs.alloc hF4 (.cells (cmdL 0 ⟨#[]⟩).toArray 36))
  have HT4 := kp hT4
  have HF4 := kp (World.rowIs.alloc hF4 (.cells (cmdL 0 ⟨#[]⟩).toArray 36))
  have HB4 := kp (below1 w4 (.cells (cmdL 0 ⟨#[]⟩).toArray 36))
  clear hX4 hC4 hF4 hT4 hno hyes
  simp only [cmdL] at HT4 HF4 HB4 ⊢
  go_wp2_with ((with_reducible refine wpList_store_at2 (op := ⟨none, _, _, _, _, _⟩) rfl 270 _ _ rfl (w.heap.size + 1) 0 #[.int .u8 0, .slice none 0 0] ?_ ?_ ?_ ?_ ?_ ?_); (· rfl); (· rfl); (· exact HT4.out); (· rfl); (· simp [Value.oneCell']); intro w7 hw7)
  have hD7 := store_all HF4.out [.int .u8 0, .slice none 0 0] rfl
  have hc7 := row_cells hD7 [.int .u8 0, .slice none 0 0] rfl fun i hi => rfl
  refine bodyPost_ret (results_cell2 rfl _ _ ⟨w.heap.size + 1, 0, none⟩ #[.int .u8 0, .slice none 0 0] rfl (run_loadVar_at _ _ _ _ _ hc7 Tryz.underlying270 rfl (by kernel_rfl))) rfl ⟨⟨_, _, _, _, by unfold errC; rw [validC_bad hb]; rfl⟩, ?_⟩
  exact hb02.trans ((kept_setCells (L := [w.heap.size + 1]) (by simp) _ _ _ ((Kept.of_below hb24).trans (Kept.of_below HB4.out))).below (by omega) (by simp))
 obtain ⟨vk4, vv4, vt4, rfl, hok4⟩ := hyes hb
 have hx43 : w4.cell? ⟨w.heap.size + 1 + 1, 3, none⟩ = some (.bool false) := by have := HX0.out; rw [hb] at this; exact this
 have hcm : (onlyC cm).op = op := by rw [onlyC_op, HCM.out]
 have HCN := kp hcm
 obtain ⟨cx, hcx⟩ : ∃ cx, onlyC cm = cx := ⟨_, rfl⟩
 rw [hcx] at hok4 hcm HCN
 rw [hcx]
 obtain ⟨A6, c6, rfl⟩ : ∃ A c, vk4 = .slice A cx.keys.length c := by obtain ⟨⟨_, A, c, h, _⟩, _⟩ := hok4; exact ⟨A, c, h⟩
 obtain ⟨A7, c7, rfl⟩ : ∃ A c, vv4 = .slice A cx.val.length c := by obtain ⟨_, ⟨_, _, A, c, h, _⟩, _⟩ := hok4; exact ⟨A, c, h⟩
 obtain ⟨A8, c8, rfl⟩ : ∃ A c, vt4 = .slice A cx.tags.length c := by obtain ⟨_, _, _, A, c, h, _⟩ := hok4; exact ⟨A, c, h⟩
 have hA3 := row_list w2 [.int .u8 op, .slice A2 k c2] 270
 have hA4 : w4.rowIs w2.heap.size 270 2 (listF [.int .u8 op, .slice A2 k c2]) := World.rowIs.of_block (by simpa using hA3) (hb4.block _ (by simp))
 have hl3 : w2.heap.size < w4.heap.size := World.rowIs.lt hA4
 have hT6 := row_list w4 (cmdC cx (.slice A6 cx.keys.length c6) (.slice A7 cx.val.length c7) (.slice A8 cx.tags.length c8)) 36
 have hb5 := below1 w4 (.cells (cmdC cx (.slice A6 cx.keys.length c6) (.slice A7 cx.val.length c7) (.slice A8 cx.tags.length c8)).toArray 36)
 have hC5 := World.rowIs.alloc hC4 (.cells (cmdC cx (.slice A6 cx.keys.length c6) (.slice A7 cx.val.length c7) (.slice A8 cx.tags.length c8)).toArray 36)
 have hF5 := World.rowIs.alloc hF4 (.cells (cmdC cx (.slice A6 cx.keys.length c6) (.slice A7 cx.val.length c7) (.slice A8 cx.tags.length c8)).toArray 36)
 have hA5 := World.rowIs.alloc hA4 (.cells (cmdC cx (.slice A6 cx.keys.length c6) (.slice A7 cx.val.length c7) (.slice A8 cx.tags.length c8)).toArray 36)
 have hok2 : CmdOk w2 w2.heap.size cm vk (.slice A5 cm.val.length c5) vt := (HOK.out.below hb02 (Nat.le_refl _)).mono hb02.size
 have hokA : CmdOk (w4.alloc (.cells (cmdC cx (.slice A6 cx.keys.length c6) (.slice A7 cx.val.length c7) (.slice A8 cx.tags.length c8)).toArray 36)) (w4.alloc (.cells (cmdC cx (.slice A6 cx.keys.length c6) (.slice A7 cx.val.length c7) (.slice A8 cx.tags.length c8)).toArray 36)).heap.size cm vk (.slice A5 cm.val.length c5) vt :=
  ((hok2.below hb24 (Nat.le_refl _)).mono hs4 |>.below hb5 (Nat.le_refl _)).mono hb5.size
 have hokB : CmdOk (w4.alloc (.cells (cmdC cx (.slice A6 cx.keys.length c6) (.slice A7 cx.val.length c7) (.slice A8 cx.tags.length c8)).toArray 36)) (w4.alloc (.cells (cmdC cx (.slice A6 cx.keys.length c6) (.slice A7 cx.val.length c7) (.slice A8 cx.tags.length c8)).toArray 36)).heap.size cx (.slice A6 cx.keys.length c6) (.slice A7 cx.val.length c7) (.slice A8 cx.tags.length c8) :=
  (hok4.below hb5 (Nat.le_refl _)).mono hb5.size
 have HE := kp (cmd42 cx cm (.slice A6 cx.keys.length c6) (.slice A7 cx.val.length c7) (.slice A8 cx.tags.length c8) vk (.slice A5 cm.val.length c5) vt _ hokB hokA)
 have HcT := kp (row_cells hT6 (cmdC cx (.slice A6 cx.keys.length c6) (.slice A7 cx.val.length c7) (.slice A8 cx.tags.length c8)) rfl fun i hi => rfl)
 have HcC := kp (row_cells hC5 (cmdC cm vk (.slice A5 cm.val.length c5) vt) rfl fun i hi => rfl)
 have HF5 := kp hF5
 have HA5 := kp hA5
 have HB5 := kp hb5
 clear hX4 hC4 hF4 hA3 hA4 hT6 hC5 hF5 hA5 hb5 hok2 hokA hokB hok4 hcm
 simp only [cmdC, HCM.out, HCN.out] at HE HcT HcC HF5 HA5 HB5 ⊢
 go_wp2_with (first
  | ((with_reducible refine wpList_load_want (o := ⟨some 39, _, _, _, _, _⟩) 36 _ rfl ⟨w4.heap.size, 0, none⟩ ?_ _ _ HcT.out Tryz.underlying36 rfl ?_ ?_ ?_); (· rfl); (· exact cmdC_size cx _ _ _); (· rfl))
  | ((with_reducible refine wpList_load_want (o := ⟨some 40, _, _, _, _, _⟩) 36 _ rfl ⟨w.heap.size, 0, none⟩ ?_ _ _ HcC.out Tryz.underlying36 rfl ?_ ?_ ?_); (· rfl); (· exact cmdC_size cm _ _ _); (· rfl)))
 refine HE.out.mono ?_
 rintro e w6 ⟨rfl, hb6⟩
 have hA6 := World.rowIs.of_block HA5.out (hb6.block _ (World.rowIs.lt HA5.out))
 have hF6 := World.rowIs.of_block HF5.out (hb6.block _ (World.rowIs.lt HF5.out))
 have ha60 : w6.cell? ⟨w2.heap.size, 0, none⟩ = some (.int .u8 op) := World.rowIs.cell hA6 (i := 0) (by decide)
 have ha61 : w6.cell? ⟨w2.heap.size, 1, none⟩ = some (.slice A2 k c2) := World.rowIs.cell hA6 (i := 1) (by decide)
 have HT6 := kp (row_there hF6)
 have HF6 := kp hF6
 have HVC := kp (validC_eq (c := cm) (by rw [HCM.out]; exact hr) hb)
 rw [hcx] at HVC
 clear hA6 hF6
 cases hq : cmdEq cx cm
 ·go_wp2_with ((with_reducible refine wpList_store_at2 (op := ⟨none, _, _, _, _, _⟩) rfl 270 _ _ rfl (w.heap.size + 1) 0 #[.int .u8 0, .slice none 0 0] ?_ ?_ ?_ ?_ ?_ ?_); (· rfl); (· rfl); (· exact HT6.out); (· rfl); (· simp [Value.oneCell']); intro w7 hw7)
  have hD7 := store_all HF6.out [.int .u8 0, .slice none 0 0] rfl
  have hc7 := row_cells hD7 [.int .u8 0, .slice none 0 0] rfl fun i hi => rfl
  have hk7 : Kept [w.heap.size + 1] w2 (w6.setCells (w.heap.size + 1) 0 [.int .u8 0, .slice none 0 0]) :=
   kept_setCells (by simp) _ _ _ ((Kept.of_below hb24).trans ((Kept.of_below HB5.out).trans (Kept.of_below hb6)))
  exact bodyPost_ret (results_cell2 rfl _ _ ⟨w.heap.size + 1, 0, none⟩ #[.int .u8 0, .slice none 0 0] rfl (run_loadVar_at _ _ _ _ _ hc7 Tryz.underlying270 rfl (by kernel_rfl))) rfl ⟨⟨_, _, _, _, by unfold errC; rw [HVC.out, hq]; rfl⟩, hb02.trans (hk7.below (by omega) (by simp))⟩
 ·go_wp2_with ((with_reducible refine wpList_store_at2 (op := ⟨none, _, _, _, _, _⟩) rfl 270 _ _ rfl (w.heap.size + 1) 0 #[.int .u8 op, .slice A2 k c2] ?_ ?_ ?_ ?_ ?_ ?_); (· rfl); (· rfl); (· exact HT6.out); (· rfl); (· simp [Value.oneCell']); intro w7 hw7)
  have hD7 := store_all HF6.out [.int .u8 op, .slice A2 k c2] rfl
  have hc7 := row_cells hD7 [.int .u8 op, .slice A2 k c2] rfl fun i hi => rfl
  have hk7 : Kept [w.heap.size + 1] w2 (w6.setCells (w.heap.size + 1) 0 [.int .u8 op, .slice A2 k c2]) :=
   kept_setCells (by simp) _ _ _ ((Kept.of_below hb24).trans ((Kept.of_below HB5.out).trans (Kept.of_below hb6)))
  exact bodyPost_ret (results_cell2 rfl _ _ ⟨w.heap.size + 1, 0, none⟩ #[.int .u8 op, .slice A2 k c2] rfl (run_loadVar_at _ _ _ _ _ hc7 Tryz.underlying270 rfl (by kernel_rfl))) rfl ⟨⟨_, _, _, _, by unfold errC; rw [HVC.out, hq]; rfl⟩, hb02.trans (hk7.below (by omega) (by simp))⟩

theorem valid113 (cm : CmdR) (hs : CmdS cm) (vk vv vt : Value) (w : World) (hok : CmdOk w w.heap.size cm vk vv vt) :
  Calls Tryz.prog 113 #[.agg (cmdC cm vk vv vt).toArray] w fun e w' => e = .returned (.bool (validC cm)) /\ Below w.heap.size w w' := by
 have hb1 := below1 w (.cells (cmdC cm vk vv vt).toArray 36)
 have HW := kp (write_g cm _ rfl hs vk vv vt _ ((hok.below hb1 (Nat.le_refl _)).mono hb1.size))
 have HC := kp (cells_lit w (cmdC cm vk vv vt) _ 36 rfl)
 have HZ := kp (cmdC_size cm vk vv vt)
 have HB1 := kp hb1
 have HV := kp (show errC cm = if validC cm = true then 0 else 2 from rfl)
 clear hok hb1
 generalize cmdC cm vk vv vt = l at *
 go_enter Tryz.func113, Tryz.ntmps113
 go_wp2_with ((with_reducible refine wpList_load_agg (o := ⟨some 6, _, _, _, _, _⟩) rfl 36 _ rfl ⟨w.heap.size, 0, none⟩ ?_ l _ HC.out Tryz.underlying36 rfl HZ.out ?_); (· rfl))
 refine HW.out.mono ?_
 rintro e w2 ⟨⟨p, A, n, c, rfl⟩, hb2⟩
 have HB2 := kp hb2
 have HE := HV.out
 cases hv : validC cm
 ·rw [hv] at HE
  have he : errC cm = 2 := HE
  clear HE
  rw [he]
  go_wp2_with fail
  go_ret
  exact rb hv (HB1.out.trans ((HB2.out.alloc HB2.out.size _).mono HB1.out.size))
 ·rw [hv] at HE
  have he : errC cm = 0 := HE
  clear HE
  rw [he]
  go_wp2_with fail
  go_ret
  exact rb hv (HB1.out.trans ((HB2.out.alloc HB2.out.size _).mono HB1.out.size))
theorem needs_set (op : Int) (ho : op = 1 ∨ op = 2) (w : World) : Calls Tryz.prog 175 #[.int .i64 op] w fun e w' => e = .returned (.string ⟨#[107, 118, 116, 108]⟩) /\ w' = w := by
 rcases ho with rfl | rfl
 all_goals
  go_enter Tryz.func175, Tryz.ntmps175
  go_wp2_with fail
  go_ret
  exact ⟨rfl, rfl⟩
theorem needs_cas (op : Int) (ho : op = 3) (w : World) : Calls Tryz.prog 175 #[.int .i64 op] w fun e w' => e = .returned (.string ⟨#[107, 118, 116, 108, 110]⟩) /\ w' = w := by
 rcases ho with rfl
 all_goals
  go_enter Tryz.func175, Tryz.ntmps175
  go_wp2_with fail
  go_ret
  exact ⟨rfl, rfl⟩
theorem needs_key (op : Int) (ho : op = 4 ∨ op = 7 ∨ op = 13) (w : World) : Calls Tryz.prog 175 #[.int .i64 op] w fun e w' => e = .returned (.string ⟨#[107]⟩) /\ w' = w := by
 rcases ho with rfl | rfl | rfl
 all_goals
  go_enter Tryz.func175, Tryz.ntmps175
  go_wp2_with fail
  go_ret
  exact ⟨rfl, rfl⟩
theorem needs_mget (op : Int) (ho : op = 5) (w : World) : Calls Tryz.prog 175 #[.int .i64 op] w fun e w' => e = .returned (.string ⟨#[109]⟩) /\ w' = w := by
 rcases ho with rfl
 all_goals
  go_enter Tryz.func175, Tryz.ntmps175
  go_wp2_with fail
  go_ret
  exact ⟨rfl, rfl⟩
theorem needs_touch (op : Int) (ho : op = 6) (w : World) : Calls Tryz.prog 175 #[.int .i64 op] w fun e w' => e = .returned (.string ⟨#[107, 108]⟩) /\ w' = w := by
 rcases ho with rfl
 all_goals
  go_enter Tryz.func175, Tryz.ntmps175
  go_wp2_with fail
  go_ret
  exact ⟨rfl, rfl⟩
theorem needs_tag (op : Int) (ho : op = 8 ∨ op = 9) (w : World) : Calls Tryz.prog 175 #[.int .i64 op] w fun e w' => e = .returned (.string ⟨#[103]⟩) /\ w' = w := by
 rcases ho with rfl | rfl
 all_goals
  go_enter Tryz.func175, Tryz.ntmps175
  go_wp2_with fail
  go_ret
  exact ⟨rfl, rfl⟩
theorem needs_pre (op : Int) (ho : op = 10) (w : World) : Calls Tryz.prog 175 #[.int .i64 op] w fun e w' => e = .returned (.string ⟨#[112]⟩) /\ w' = w := by
 rcases ho with rfl
 all_goals
  go_enter Tryz.func175, Tryz.ntmps175
  go_wp2_with fail
  go_ret
  exact ⟨rfl, rfl⟩
theorem needs_dep (op : Int) (ho : op = 11 ∨ op = 12) (w : World) : Calls Tryz.prog 175 #[.int .i64 op] w fun e w' => e = .returned (.string ⟨#[107, 99]⟩) /\ w' = w := by
 rcases ho with rfl | rfl
 all_goals
  go_enter Tryz.func175, Tryz.ntmps175
  go_wp2_with fail
  go_ret
  exact ⟨rfl, rfl⟩
theorem needs_none (op : Int) (ho : op = 14 ∨ op = 15) (w : World) : Calls Tryz.prog 175 #[.int .i64 op] w fun e w' => e = .returned (.string ⟨#[]⟩) /\ w' = w := by
 rcases ho with rfl | rfl
 all_goals
  go_enter Tryz.func175, Tryz.ntmps175
  go_wp2_with fail
  go_ret
  exact ⟨rfl, rfl⟩
theorem ref_key (s : ByteArray) (w : World) : Calls Tryz.prog 230 #[.string s] w fun e w' => e = .returned (.bool (keyOk s)) /\ w' = w := by
 unfold keyOk
 cases g1 : decide (0 < s.size)
 ·have g : decide ((1 : Int) <= (s.size : Int)) = false := decide_eq_false (by have := of_decide_eq_false g1; omega)
  go_enter Tryz.func230, Tryz.ntmps230
  go_wp2_with fail
  go_ret
  exact ⟨rfl, rfl⟩
 ·have g : decide ((1 : Int) <= (s.size : Int)) = true := decide_eq_true (by have := of_decide_eq_true g1; omega)
  cases g2 : decide (s.size <= 250)
  ·have g' : decide ((s.size : Int) <= 250) = false := by simp at g2 ⊢; omega
   go_enter Tryz.func230, Tryz.ntmps230
   go_wp2_with fail
   go_ret
   exact ⟨rfl, rfl⟩
  ·have g' : decide ((s.size : Int) <= 250) = true := by simp at g2 ⊢; omega
   go_enter Tryz.func230, Tryz.ntmps230
   go_wp2_with fail
   go_ret
   exact ⟨rfl, rfl⟩
theorem ref_tag (s : ByteArray) (w : World) : Calls Tryz.prog 199 #[.string s] w fun e w' => e = .returned (.bool (tagOk s)) /\ w' = w := by
 unfold tagOk
 cases g1 : decide (0 < s.size)
 ·have g : decide ((1 : Int) <= (s.size : Int)) = false := decide_eq_false (by have := of_decide_eq_false g1; omega)
  go_enter Tryz.func199, Tryz.ntmps199
  go_wp2_with fail
  go_ret
  exact ⟨rfl, rfl⟩
 ·have g : decide ((1 : Int) <= (s.size : Int)) = true := decide_eq_true (by have := of_decide_eq_true g1; omega)
  cases g2 : decide (s.size <= 64)
  ·have g' : decide ((s.size : Int) <= 64) = false := by simp at g2 ⊢; omega
   go_enter Tryz.func199, Tryz.ntmps199
   go_wp2_with fail
   go_ret
   exact ⟨rfl, rfl⟩
  ·have g' : decide ((s.size : Int) <= 64) = true := by simp at g2 ⊢; omega
   go_enter Tryz.func199, Tryz.ntmps199
   go_wp2_with fail
   go_ret
   exact ⟨rfl, rfl⟩
theorem ref_pre (s : ByteArray) (w : World) : Calls Tryz.prog 231 #[.string s] w fun e w' => e = .returned (.bool (preOk s)) /\ w' = w := by
 unfold preOk
 cases g2 : decide (s.size <= 250)
 ·have g' : decide ((s.size : Int) <= 250) = false := by simp at g2 ⊢; omega
  go_enter Tryz.func231, Tryz.ntmps231
  go_wp2_with fail
  go_ret
  exact ⟨rfl, rfl⟩
 ·have g' : decide ((s.size : Int) <= 250) = true := by simp at g2 ⊢; omega
  go_enter Tryz.func231, Tryz.ntmps231
  go_wp2_with fail
  go_ret
  exact ⟨rfl, rfl⟩
/-- whether a part, told by its letter, is allowed -/
def alw (c : CmdR) (ch : Int) : Bool :=
 if ch = 107 then keyOk c.key
 else if ch = 116 then decide (c.tags.length <= 16) && c.tags.all tagOk
 else if ch = 108 then !(c.life == 0)
 else if ch = 109 then okG 1 keyOk c.keys
 else if ch = 103 then tagOk c.tag
 else if ch = 112 then preOk c.pre
 else if ch = 99 then keyOk c.chi
 else true
structure AlwPre (w : World) (c : CmdR) (vk vv vt : Value) : Prop where
 ok : CmdOk w w.heap.size c vk vv vt
 hs : CmdS c
def AlwPost (c : CmdR) (ch : Int) (w : World) (e : Ending) (w' : World) : Prop := e = .returned (.bool (alw c ch)) /\ Below w.heap.size w w'
theorem alw_k (c : CmdR) (vk vv vt : Value) (w : World) (h : AlwPre w c vk vv vt) : Calls Tryz.prog 176 #[.agg (cmdC c vk vv vt).toArray, .int .u8 107] w (AlwPost c 107 w) := by
 have hb1 := below1 w (.cells (cmdC c vk vv vt).toArray 36)
 have hr := row_list w (cmdC c vk vv vt) 36
 have HB1 := kp hb1
 have c1 : (w.alloc (.cells (cmdC c vk vv vt).toArray 36)).cell? ⟨w.heap.size, 1, none⟩ = some (.string c.key) := World.rowIs.cell hr (i := 1) (by show _ < 10; decide)
 have HE := kp (show alw c 107 = keyOk c.key from rfl)
 clear h hr hb1
 generalize cmdC c vk vv vt = l at *
 go_enter Tryz.func176, Tryz.ntmps176
 go_wp2_with fail
 refine (ref_key c.key _).mono ?_
 rintro e w2 ⟨rfl, rfl⟩
 go_wp2_with fail
 go_ret
 exact rb HE.out HB1.out
theorem alw_g (c : CmdR) (vk vv vt : Value) (w : World) (h : AlwPre w c vk vv vt) : Calls Tryz.prog 176 #[.agg (cmdC c vk vv vt).toArray, .int .u8 103] w (AlwPost c 103 w) := by
 have hb1 := below1 w (.cells (cmdC c vk vv vt).toArray 36)
 have hr := row_list w (cmdC c vk vv vt) 36
 have HB1 := kp hb1
 have c1 : (w.alloc (.cells (cmdC c vk vv vt).toArray 36)).cell? ⟨w.heap.size, 7, none⟩ = some (.string c.tag) := World.rowIs.cell hr (i := 7) (by show _ < 10; decide)
 have HE := kp (show alw c 103 = tagOk c.tag from rfl)
 clear h hr hb1
 generalize cmdC c vk vv vt = l at *
 go_enter Tryz.func176, Tryz.ntmps176
 go_wp2_with fail
 refine (ref_tag c.tag _).mono ?_
 rintro e w2 ⟨rfl, rfl⟩
 go_wp2_with fail
 go_ret
 exact rb HE.out HB1.out
theorem alw_p (c : CmdR) (vk vv vt : Value) (w : World) (h : AlwPre w c vk vv vt) : Calls Tryz.prog 176 #[.agg (cmdC c vk vv vt).toArray, .int .u8 112] w (AlwPost c 112 w) := by
 have hb1 := below1 w (.cells (cmdC c vk vv vt).toArray 36)
 have hr := row_list w (cmdC c vk vv vt) 36
 have HB1 := kp hb1
 have c1 : (w.alloc (.cells (cmdC c vk vv vt).toArray 36)).cell? ⟨w.heap.size, 8, none⟩ = some (.string c.pre) := World.rowIs.cell hr (i := 8) (by show _ < 10; decide)
 have HE := kp (show alw c 112 = preOk c.pre from rfl)
 clear h hr hb1
 generalize cmdC c vk vv vt = l at *
 go_enter Tryz.func176, Tryz.ntmps176
 go_wp2_with fail
 refine (ref_pre c.pre _).mono ?_
 rintro e w2 ⟨rfl, rfl⟩
 go_wp2_with fail
 go_ret
 exact rb HE.out HB1.out
theorem alw_c (c : CmdR) (vk vv vt : Value) (w : World) (h : AlwPre w c vk vv vt) : Calls Tryz.prog 176 #[.agg (cmdC c vk vv vt).toArray, .int .u8 99] w (AlwPost c 99 w) := by
 have hb1 := below1 w (.cells (cmdC c vk vv vt).toArray 36)
 have hr := row_list w (cmdC c vk vv vt) 36
 have HB1 := kp hb1
 have c1 : (w.alloc (.cells (cmdC c vk vv vt).toArray 36)).cell? ⟨w.heap.size, 9, none⟩ = some (.string c.chi) := World.rowIs.cell hr (i := 9) (by show _ < 10; decide)
 have HE := kp (show alw c 99 = keyOk c.chi from rfl)
 clear h hr hb1
 generalize cmdC c vk vv vt = l at *
 go_enter Tryz.func176, Tryz.ntmps176
 go_wp2_with fail
 refine (ref_key c.chi _).mono ?_
 rintro e w2 ⟨rfl, rfl⟩
 go_wp2_with fail
 go_ret
 exact rb HE.out HB1.out
theorem alw_v (c : CmdR) (vk vv vt : Value) (w : World) (h : AlwPre w c vk vv vt) : Calls Tryz.prog 176 #[.agg (cmdC c vk vv vt).toArray, .int .u8 118] w (AlwPost c 118 w) := by
 have hb1 := below1 w (.cells (cmdC c vk vv vt).toArray 36)
 have hr := row_list w (cmdC c vk vv vt) 36
 have HB1 := kp hb1
 obtain ⟨_, ⟨_, _, A, cp, hvv, _⟩, _⟩ := h.ok
 have c1 : (w.alloc (.cells (cmdC c vk vv vt).toArray 36)).cell? ⟨w.heap.size, 3, none⟩ = some (.slice A c.val.length cp) := by rw [<- hvv]; exact World.rowIs.cell hr (i := 3) (by show _ < 10; decide)
 have g : decide ((c.val.length : Int) <= 65536) = true := by have := h.hs.val; simp; omega
 have HE := kp (show alw c 118 = true from rfl)
 clear h hr hb1 hvv
 generalize cmdC c vk vv vt = l at *
 go_enter Tryz.func176, Tryz.ntmps176
 go_wp2_with fail
 go_ret
 exact rb HE.out HB1.out
theorem alw_n (c : CmdR) (vk vv vt : Value) (w : World) (h : AlwPre w c vk vv vt) : Calls Tryz.prog 176 #[.agg (cmdC c vk vv vt).toArray, .int .u8 110] w (AlwPost c 110 w) := by
 have hb1 := below1 w (.cells (cmdC c vk vv vt).toArray 36)
 have hr := row_list w (cmdC c vk vv vt) 36
 have HB1 := kp hb1
 have HE := kp (show alw c 110 = true from rfl)
 clear h hr hb1
 generalize cmdC c vk vv vt = l at *
 go_enter Tryz.func176, Tryz.ntmps176
 go_wp2_with fail
 go_ret
 exact rb HE.out HB1.out
theorem alw_l (c : CmdR) (vk vv vt : Value) (w : World) (h : AlwPre w c vk vv vt) : Calls Tryz.prog 176 #[.agg (cmdC c vk vv vt).toArray, .int .u8 108] w (AlwPost c 108 w) := by
 have hb1 := below1 w (.cells (cmdC c vk vv vt).toArray 36)
 have hr := row_list w (cmdC c vk vv vt) 36
 have HB1 := kp hb1
 have c1 : (w.alloc (.cells (cmdC c vk vv vt).toArray 36)).cell? ⟨w.heap.size, 5, none⟩ = some (.int .u64 c.life) := World.rowIs.cell hr (i := 5) (by show _ < 10; decide)
 have HE := kp (show alw c 108 = !(c.life == 0) from rfl)
 clear h hr hb1
 generalize cmdC c vk vv vt = l at *
 obtain ⟨lf, hlf⟩ : ∃ lf, c.life = lf := ⟨_, rfl⟩
 rw [hlf] at c1 HE
 clear hlf
 by_cases h0 : lf = 0
 ·subst h0
  go_enter Tryz.func176, Tryz.ntmps176
  go_wp2_with fail
  go_ret
  exact rb HE.out HB1.out
 ·have g : (lf != 0) = true := by simpa using h0
  have HE2 := kp (HE.out.trans (show (!(lf == 0)) = true by simpa using h0))
  clear h0
  go_enter Tryz.func176, Tryz.ntmps176
  go_wp2_with fail
  go_ret
  exact rb HE2.out HB1.out
theorem alw_t (c : CmdR) (vk vv vt : Value) (w : World) (h : AlwPre w c vk vv vt) : Calls Tryz.prog 176 #[.agg (cmdC c vk vv vt).toArray, .int .u8 116] w (AlwPost c 116 w) := by
 have hb1 := below1 w (.cells (cmdC c vk vv vt).toArray 36)
 have hr := row_list w (cmdC c vk vv vt) 36
 have HB1 := kp hb1
 obtain ⟨⟨_, A1, cp1, hvk, el1⟩, _, ⟨_, A2, cp2, hvt, el2⟩⟩ := h.ok
 obtain ⟨A, cp, hv, hel⟩ : ∃ A cp, vt = .slice A c.tags.length cp /\ ElV Value.string w w.heap.size A c.tags := ⟨_, _, hvt, el2⟩
 have c1 : (w.alloc (.cells (cmdC c vk vv vt).toArray 36)).cell? ⟨w.heap.size, 4, none⟩ = some (.slice A c.tags.length cp) := by rw [<- hv]; exact World.rowIs.cell hr (i := 4) (by show _ < 10; decide)
 have hw := World.rowIs.lt hr
 have HE := kp (show alw c 116 = (decide (c.tags.length <= 16) && c.tags.all tagOk) from rfl)
 have hnn : c.tags.length <= 100 := h.hs.ntags
 have HEL := kp ((hel.below hb1 (Nat.le_refl _)).mono hb1.size)
 have hrow := kp hr
 clear h hr hb1 hvk hvt el1 el2 hv hel
 have HCL := kp (show (cmdC c vk vv vt).length = 10 from rfl)
 generalize cmdC c vk vv vt = l at *
 obtain ⟨xs, hxs⟩ : ∃ xs, c.tags = xs := ⟨_, rfl⟩
 rw [hxs] at c1 HE HEL hnn
 obtain ⟨n, hn⟩ : ∃ n, xs.length = n := ⟨_, rfl⟩
 rw [hn] at c1 hnn
 have HN := kp hn
 clear hxs hn
 go_enter Tryz.func176, Tryz.ntmps176
 go_wp2_with fail
 obtain ⟨W1, hW1⟩ : ∃ W1, w.alloc (.cells l.toArray 36) = W1 := ⟨_, rfl⟩
 rw [hW1] at HB1 HEL c1 hw ⊢
 clear hW1 hrow HCL
 go_loopw [5] (fun j wr => ∃ k : Nat, k <= n /\ j = .int .i64 k /\ (xs.take k).all tagOk = true /\ wr = W1) (fun j _ => n - (intOf j).toNat)
 case atStart => exact ⟨0, Nat.zero_le _, by go_num, by simp, rfl⟩
 case round =>
  obtain ⟨k, hk, rfl, hall, rfl⟩ := hrel
  have HALL := kp hall
  clear hall
  by_cases hlt : k < n
  ·have hg : decide ((k : Int) < (n : Int)) = true := by simp; omega
   have hkx : k < xs.length := by rw [HN.out]; exact hlt
   have hx := List.getElem?_eq_getElem hkx
   obtain ⟨y, hye⟩ : ∃ y, xs[k] = y := ⟨_, rfl⟩
   rw [hye] at hx
   obtain ⟨b, off, rfl, hbB, hc⟩ := HEL.out k y hx
   have HXK := kp hx
   clear hx hye hkx
   go_wp2_with fail
   refine (ref_tag y _).mono ?_
   rintro e w3 ⟨rfl, rfl⟩
   cases hy : tagOk y
   ·have hfa : alw c 116 = false := by
     rw [HE.out]
     have : xs.all tagOk = false := by
      cases e : xs.all tagOk
      ·rfl
      ·rw [List.all_eq_true.1 e y (List.mem_of_getElem? HXK.out)] at hy; simp at hy
     simp [this]
    have HFA := kp hfa
    clear hfa
    go_wp2_with fail
    go_ret
    exact rb HFA.out HB1.out
   ·go_wp2_with fail
    go_roundw
    case rel => exact ⟨k + 1, by omega, by go_num, by rw [List.take_add_one, HXK.out, Option.toList_some, List.all_append, HALL.out]; simp [hy], trivial⟩
    case measure => simp [intOf]; omega
  ·obtain rfl : k = n := by omega
   have hg : decide ((k : Int) < (k : Int)) = false := by simp
   have htk := HALL.out
   rw [List.take_of_length_le (by rw [HN.out]; exact Nat.le_refl _)] at htk
   have HTK := kp htk
   clear htk
   by_cases h16 : k <= 16
   ·have hg2 : decide ((k : Int) <= 16) = true := by simp; omega
    have hfin : alw c 116 = true := by rw [HE.out, HTK.out, HN.out]; simp; exact h16
    have HFIN := kp hfin
    clear hfin h16
    go_wp2_with fail
    go_ret
    exact rb HFIN.out HB1.out
   ·have hg2 : decide ((k : Int) <= 16) = false := by simp; omega
    have hfin : alw c 116 = false := by rw [HE.out, HTK.out, HN.out]; simp; omega
    have HFIN := kp hfin
    clear hfin h16
    go_wp2_with fail
    go_ret
    exact rb HFIN.out HB1.out
theorem alw_m (c : CmdR) (vk vv vt : Value) (w : World) (h : AlwPre w c vk vv vt) : Calls Tryz.prog 176 #[.agg (cmdC c vk vv vt).toArray, .int .u8 109] w (AlwPost c 109 w) := by
 have hb1 := below1 w (.cells (cmdC c vk vv vt).toArray 36)
 have hr := row_list w (cmdC c vk vv vt) 36
 have HB1 := kp hb1
 obtain ⟨⟨_, A1, cp1, hvk, el1⟩, _, ⟨_, A2, cp2, hvt, el2⟩⟩ := h.ok
 obtain ⟨A, cp, hv, hel⟩ : ∃ A cp, vk = .slice A c.keys.length cp /\ ElV Value.string w w.heap.size A c.keys := ⟨_, _, hvk, el1⟩
 have c1 : (w.alloc (.cells (cmdC c vk vv vt).toArray 36)).cell? ⟨w.heap.size, 2, none⟩ = some (.slice A c.keys.length cp) := by rw [<- hv]; exact World.rowIs.cell hr (i := 2) (by show _ < 10; decide)
 have hw := World.rowIs.lt hr
 have HE := kp (show alw c 109 = okG 1 keyOk c.keys from rfl)
 have hnn : c.keys.length <= 100 := h.hs.nkeys
 have HEL := kp ((hel.below hb1 (Nat.le_refl _)).mono hb1.size)
 have hrow := kp hr
 clear h hr hb1 hvk hvt el1 el2 hv hel
 have HCL := kp (show (cmdC c vk vv vt).length = 10 from rfl)
 generalize cmdC c vk vv vt = l at *
 obtain ⟨xs, hxs⟩ : ∃ xs, c.keys = xs := ⟨_, rfl⟩
 rw [hxs] at c1 HE HEL hnn
 obtain ⟨n, hn⟩ : ∃ n, xs.length = n := ⟨_, rfl⟩
 rw [hn] at c1 hnn
 have HN := kp hn
 clear hxs hn
 go_enter Tryz.func176, Tryz.ntmps176
 go_wp2_with fail
 obtain ⟨W1, hW1⟩ : ∃ W1, w.alloc (.cells l.toArray 36) = W1 := ⟨_, rfl⟩
 rw [hW1] at HB1 HEL c1 hw ⊢
 clear hW1 hrow HCL
 go_loopw [6] (fun j wr => ∃ k : Nat, k <= n /\ j = .int .i64 k /\ (xs.take k).all keyOk = true /\ wr = W1) (fun j _ => n - (intOf j).toNat)
 case atStart => exact ⟨0, Nat.zero_le _, by go_num, by simp, rfl⟩
 case round =>
  obtain ⟨k, hk, rfl, hall, rfl⟩ := hrel
  have HALL := kp hall
  clear hall
  by_cases hlt : k < n
  ·have hg : decide ((k : Int) < (n : Int)) = true := by simp; omega
   have hkx : k < xs.length := by rw [HN.out]; exact hlt
   have hx := List.getElem?_eq_getElem hkx
   obtain ⟨y, hye⟩ : ∃ y, xs[k] = y := ⟨_, rfl⟩
   rw [hye] at hx
   obtain ⟨b, off, rfl, hbB, hc⟩ := HEL.out k y hx
   have HXK := kp hx
   clear hx hye hkx
   go_wp2_with fail
   refine (ref_key y _).mono ?_
   rintro e w3 ⟨rfl, rfl⟩
   cases hy : keyOk y
   ·have hfa : alw c 109 = false := by
     rw [HE.out]
     have : xs.all keyOk = false := by
      cases e : xs.all keyOk
      ·rfl
      ·rw [List.all_eq_true.1 e y (List.mem_of_getElem? HXK.out)] at hy; simp at hy
     unfold okG
     simp [this]
    have HFA := kp hfa
    clear hfa
    go_wp2_with fail
    go_ret
    exact rb HFA.out HB1.out
   ·go_wp2_with fail
    go_roundw
    case rel => exact ⟨k + 1, by omega, by go_num, by rw [List.take_add_one, HXK.out, Option.toList_some, List.all_append, HALL.out]; simp [hy], trivial⟩
    case measure => simp [intOf]; omega
  ·obtain rfl : k = n := by omega
   have hg : decide ((k : Int) < (k : Int)) = false := by simp
   have htk := HALL.out
   rw [List.take_of_length_le (by rw [HN.out]; exact Nat.le_refl _)] at htk
   have HTK := kp htk
   clear htk
   have hfin : alw c 109 = inR 1 k := by rw [HE.out]; unfold okG; rw [HTK.out, HN.out]; simp
   by_cases h1 : 1 <= k
   ·by_cases h16 : k <= 16
    ·have hg3 : decide ((1 : Int) <= (k : Int)) = true := by simp; omega
     have hg2 : decide ((k : Int) <= 16) = true := by simp; omega
     have HFIN := kp (hfin.trans (inR_iff.2 ⟨h1, h16⟩))
     clear hfin h16
     go_wp2_with fail
     go_ret
     exact rb HFIN.out HB1.out
    ·have hg3 : decide ((1 : Int) <= (k : Int)) = true := by simp; omega
     have hg2 : decide ((k : Int) <= 16) = false := by simp; omega
     have HFIN := kp (hfin.trans (show inR 1 k = false by simp [inR]; omega))
     clear hfin h16
     go_wp2_with fail
     go_ret
     exact rb HFIN.out HB1.out
   ·obtain rfl : k = 0 := by omega
    have HFIN := kp (hfin.trans (show inR 1 0 = false from rfl))
    clear hfin h1
    go_wp2_with fail
    go_ret
    exact rb HFIN.out HB1.out
end Go.Proofs.YtnjhpgmbfblgaaaGreat.Ord
