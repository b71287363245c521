/- Walk of request.Read at the bytes of any command, valid or not; Walks of request.Write. -/
import Derived.Test.YtnjhpgmbfblgaaaGreatMK3
import Derived.Test.YtnjhpgmbfblgaaaGreatMR10
import Derived.Test.YtnjhpgmbfblgaaaGreatMH3
set_option linter.unusedVariables false
set_option linter.unusedSimpArgs false
namespace Go.Proofs.YtnjhpgmbfblgaaaGreat.Ord
set_option maxRecDepth 100000
set_option maxHeartbeats 16000000
open Go.RowKit
theorem cC_ (c : CmdR) (vk vv vt : Value) : (Tryz.prog.info? 36).map (·.size) = some (cmdC c vk vv vt).length := by
 obtain ⟨_, _, _, _, _, _, _, _, _, _⟩ := c
 kernel_rfl
theorem jU_ (c : CmdR) (vk vv vt : Value) : (Tryz.prog.info? 36).map (·.size) = some (cmdC c vk vv vt).toArray.size := by
 obtain ⟨_, _, _, _, _, _, _, _, _, _⟩ := c
 kernel_rfl
theorem cmdC_one (c : CmdR) {vk vv vt : Value} (h1 : vk.oneCell' = true) (h2 : vv.oneCell' = true) (h3 : vt.oneCell' = true) : (cmdC c vk vv vt).toArray.all (·.oneCell') = true := all_oneCell_toArray fun v hv => by
 simp only [cmdC, List.mem_cons, List.not_mem_nil, or_false] at hv
 rcases hv with rfl | rfl | rfl | rfl | rfl | rfl | rfl | rfl | rfl | rfl <;> first | rfl | assumption
theorem SlN.one {w : World} {N : List Nat} {v : Value} {xs : List ByteArray} (h : SlN w N v xs) : v.oneCell' = true := by
 obtain ⟨A, c, rfl, _⟩ := h; rfl
theorem SlX.one {w : World} {N : List Nat} {v : Value} {xs : List Int} (h : SlX w N v xs) : v.oneCell' = true := by
 obtain ⟨A, c, rfl, _⟩ := h; rfl
theorem CmdV.sizes {c : CmdR} (h : CmdV c) : c.keys.length <= 16 /\ (∀ y ∈ c.val, 0 <= y /\ y < 256) /\ c.val.length <= 65536 /\ c.tags.length <= 16 := by
 cases h <;> simp_all
theorem cmdOk_of {w : World} {N : List Nat} {c : CmdR} {vk vv vt : Value} (h : CmdV c) (h1 : SlN w N vk c.keys) (h2 : SlX w N vv c.val) (h3 : SlN w N vt c.tags) : CmdOk w w.heap.size c vk vv vt := by
 obtain ⟨s1, s2, s3, s4⟩ := h.sizes
 obtain ⟨A1, c1, rfl, e1, _⟩ := h1
 obtain ⟨A2, c2, rfl, e2, _⟩ := h2
 obtain ⟨A3, c3, rfl, e3, _⟩ := h3
 exact ⟨⟨by unfold maxLen; omega, A1, c1, rfl, e1⟩, ⟨s2, by unfold maxLen; omega, A2, c2, rfl, e2⟩, ⟨by unfold maxLen; omega, A3, c3, rfl, e3⟩⟩
theorem fM_ {w : World} {D : Nat} (h : w.rowIs D 36 10 (au_ (cmdL 0 ⟨#[]⟩))) (o : Nat) (v : Value) (hv : w.cell? ⟨D, o, none⟩ = some v) : (∀ x, v ≠ .int .u8 x) /\ ∀ s, v = .string s -> s.size = 0 := by
 have ho : o < 10 := by
  rcases Nat.lt_or_ge o 10 with h1 | h1
  ·exact h1
  obtain ⟨c, hb, hn, _⟩ := h
  have : c[o]? = none := Array.getElem?_eq_none (by omega)
  simp [World.cell?, hb, this] at hv
 rw [World.rowIs.cell h ho] at hv
 have hv := Option.some.inj hv
 subst hv
 match o, ho with
 | 0, _ => exact ⟨fun x h => by simp [au_, cmdL] at h, fun s h => by simp [au_, cmdL] at h⟩
 | 1, _ => exact ⟨fun x h => by simp [au_, cmdL] at h, fun s h => by simp [au_, cmdL] at h; subst h; rfl⟩
 | 2, _ => exact ⟨fun x h => by simp [au_, cmdL] at h, fun s h => by simp [au_, cmdL] at h⟩
 | 3, _ => exact ⟨fun x h => by simp [au_, cmdL] at h, fun s h => by simp [au_, cmdL] at h⟩
 | 4, _ => exact ⟨fun x h => by simp [au_, cmdL] at h, fun s h => by simp [au_, cmdL] at h⟩
 | 5, _ => exact ⟨fun x h => by simp [au_, cmdL] at h, fun s h => by simp [au_, cmdL] at h⟩
 | 6, _ => exact ⟨fun x h => by simp [au_, cmdL] at h, fun s h => by simp [au_, cmdL] at h⟩
 | 7, _ => exact ⟨fun x h => by simp [au_, cmdL] at h, fun s h => by simp [au_, cmdL] at h; subst h; rfl⟩
 | 8, _ => exact ⟨fun x h => by simp [au_, cmdL] at h, fun s h => by simp [au_, cmdL] at h; subst h; rfl⟩
 | 9, _ => exact ⟨fun x h => by simp [au_, cmdL] at h, fun s h => by simp [au_, cmdL] at h; subst h; rfl⟩
theorem CmdV.parts {c : CmdR} (h : CmdV c) : (∀ s ∈ c.keys, 0 < s.size) /\ ∀ s ∈ c.tags, 0 < s.size := by
 have hk : ∀ s, aB_ s = true -> 0 < s.size := fun s h => by simp [aB_] at h; exact h.1
 have ht : ∀ s, a7_ s = true -> 0 < s.size := fun s h => by simp [a7_] at h; exact h.1
 cases h <;> simp_all
theorem k0_ {w w' : World} {D : Nat} {c : CmdR} {vk vv vt : Value} (hc : CmdV c) (hD : w.rowIs D 36 10 (au_ (cmdL 0 ⟨#[]⟩))) (hk : Kept [D] w w') (h : CmdOk w w.heap.size c vk vv vt) : CmdOk w' w'.heap.size c vk vv vt := by
 obtain ⟨p1, p2⟩ := hc.parts
 obtain ⟨⟨s1, A1, c1, rfl, e1⟩, ⟨s2, s3, A2, c2, rfl, e2⟩, ⟨s4, A3, c3, rfl, e3⟩⟩ := h
 have he : ∀ (A : Option Addr) (xs : List ByteArray), (∀ s ∈ xs, 0 < s.size) -> ElV Value.string w w.heap.size A xs -> ElV Value.string w' w'.heap.size A xs := fun A xs hp hel i x hx => by
  obtain ⟨b, off, rfl, hlt, hce⟩ := hel i x hx
  refine ⟨b, off, rfl, lL hlt hk.size, hk.cell (fun hm => ?_) hce⟩
  simp at hm
  subst hm
  have h1 := (fM_ hD _ _ hce).2 x rfl
  have h2 := hp x (mI.2 ⟨i, hx⟩)
  omega
 refine ⟨⟨s1, A1, c1, rfl, he _ _ p1 e1⟩, ⟨s2, s3, A2, c2, rfl, e2.1, e2.2.1, fun i hi => ?_⟩, ⟨s4, A3, c3, rfl, he _ _ p2 e3⟩⟩
 obtain ⟨b, off, rfl, hlt, hce⟩ := e2.2.2 i hi
 refine ⟨b, off, rfl, lL hlt hk.size, fun x hx => hk.cell (fun hm => ?_) (hce x hx)⟩
 simp at hm
 subst hm
 exact (fM_ hD _ _ (hce x hx)).1 x rfl
theorem gh_ {least : Nat} {alw : ByteArray -> Bool} {l : List ByteArray} (h : okG least alw l = true) : least <= l.length /\ l.length <= 16 /\ ∀ s ∈ l, alw s = true := by
 unfold okG at h
 simp only [Bool.and_eq_true] at h
 exact ⟨(inR_iff.1 h.1).1, (inR_iff.1 h.1).2, List.all_eq_true.1 h.2⟩
theorem lr_ {c : CmdR} (hs : CmdS c) (ho : 1 <= c.op /\ c.op <= 15) (hk : okC c = true) : CmdV (az_ c) := by
 have hl := bw_ hs
 have hv := eb_ hs
 have hvl := hs.val
 have hby := hs.bytes
 have h0 : c.life ≠ 0 -> 0 < c.life.toNat := fun h => by have := hs.life; omega
 obtain ⟨op, key, keys, val, tags, life, ver, tag, pre, chi⟩ := c
 simp only at ho hl hv hvl hby h0
 have hop : op = 1 ∨ op = 2 ∨ op = 3 ∨ op = 4 ∨ op = 5 ∨ op = 6 ∨ op = 7 ∨ op = 8 ∨ op = 9 ∨ op = 10 ∨ op = 11 ∨ op = 12 ∨ op = 13 ∨ op = 14 ∨ op = 15 := by omega
 rcases hop with rfl | rfl | rfl | rfl | rfl | rfl | rfl | rfl | rfl | rfl | rfl | rfl | rfl | rfl | rfl
 ·show CmdV _
  simp [okC] at hk
  have h1 := gh_ hk.1.2
  have := CmdV.set 1 key val tags life.toNat (by simp) hk.1.1 hby (by omega) h1.2.2 h1.2.1 (h0 hk.2) hl.2
  rw [<- hl.1] at this
  exact this
 ·show CmdV _
  simp [okC] at hk
  have h1 := gh_ hk.1.2
  have := CmdV.set 2 key val tags life.toNat (by simp) hk.1.1 hby (by omega) h1.2.2 h1.2.1 (h0 hk.2) hl.2
  rw [<- hl.1] at this
  exact this
 ·show CmdV _
  simp [okC] at hk
  have h1 := gh_ hk.1.2
  have := CmdV.cas key val tags life.toNat ver.toNat hk.1.1 hby (by omega) h1.2.2 h1.2.1 (h0 hk.2) hl.2 hv.2
  rw [<- hl.1, <- hv.1] at this
  exact this
 ·show CmdV _
  simp [okC] at hk
  exact CmdV.key 4 key (by simp) hk
 ·show CmdV _
  simp [okC] at hk
  have h1 := gh_ hk
  exact CmdV.mget keys h1.2.2 h1.1 h1.2.1
 ·show CmdV _
  simp [okC] at hk
  have := CmdV.touch key life.toNat hk.1 (h0 hk.2) hl.2
  rw [<- hl.1] at this
  exact this
 ·show CmdV _
  simp [okC] at hk
  exact CmdV.key 7 key (by simp) hk
 ·show CmdV _
  simp [okC] at hk
  exact CmdV.tag 8 tag (by simp) hk
 ·show CmdV _
  simp [okC] at hk
  exact CmdV.tag 9 tag (by simp) hk
 ·show CmdV _
  simp [okC] at hk
  exact CmdV.pre pre hk
 ·show CmdV _
  simp [okC] at hk
  exact CmdV.dep 11 key chi (by simp) hk.1 hk.2
 ·show CmdV _
  simp [okC] at hk
  exact CmdV.dep 12 key chi (by simp) hk.1 hk.2
 ·show CmdV _
  simp [okC] at hk
  exact CmdV.key 13 key (by simp) hk
 ·show CmdV _
  exact CmdV.none 14 (by simp)
 show CmdV _
 exact CmdV.none 15 (by simp)
theorem onlyC_op (c : CmdR) : (az_ c).op = c.op := by
 unfold az_
 split
 ·rfl
 split
 ·rfl
 split
 ·rfl
 split
 ·rfl
 split
 ·rfl
 split
 ·rfl
 split
 ·rfl
 split <;> rfl
theorem iH_ {c : CmdR} (h : CmdS c) : (payG c).length <= 100000 := by
 have a1 := bu_ h.key
 have a2 := bu_ h.chi
 have a3 := bu_ h.tag
 have a4 := bu_ h.pre
 have a5 := ad_ (n := c.val.length) (by have := h.val; omega)
 have a6 := h.val
 have a7 := cG_ (least := 0) h.tags h.ntags
 have a8 := cG_ (least := 1) h.keys h.nkeys
 have a9 := ad_ (bw_ h).2
 have b1 := ad_ (eb_ h).2
 unfold payG
 repeat' split
 all_goals first
  | omega
  | (simp only [lA, List.length_nil]; omega)
def RdPost (cm : CmdR) (w : World) (e : Ending) (w' : World) : Prop := Bw w w' /\ (okC cm = true -> ∃ vk vv vt, e = .returned (.tuple #[.agg (cmdC (az_ cm) vk vv vt).toArray, .int .i64 0]) /\ CmdOk w' w'.heap.size (az_ cm) vk vv vt) /\ (okC cm = false -> e = .returned (.tuple #[.agg (cmdL 0 ⟨#[]⟩).toArray, .int .i64 6]))
theorem read_g (cm : CmdR) (op : Int) (hop : cm.op = op) (hs : CmdS cm) (hr : 1 <= op /\ op <= 15) (A : Option Addr) (k c : Nat) (w : World) (hk : (payG cm).length = k) (hA : Byt w w.heap.size A c (payG cm)) :
  Calls Tryz.prog 237 #[.agg #[.int .u8 op, .slice A k c]] w (RdPost cm w) := by
 have hr1 : 0 < op := by omega
 have hr2 : op < 16 := by omega
 have hkl : k <= 100000 := by have := iH_ hs; omega
 go_enter Tryz.func237, Tryz.ntmps237
 go_wp2_with fail
 obtain ⟨W1, hW1, hC1, hD1, hb1, hs1⟩ := jp_ w (.int .u8 op) (.slice A k c) op
 rw [<- hW1]
 clear hW1
 refine (kI_ A k c _ W1 hk (by omega) ((hA.below hb1 (lR _)).mono (by omega))).mono ?_
 rintro e w2 ⟨R, v2, rfl, hRs, hR2, hv2, hb2⟩
 have hC2 := World.rowIs.of_block hC1 (hb2.block _ (by omega))
 have hD2 := World.rowIs.of_block hD1 (hb2.block _ (by omega))
 clear hC1 hD1
 have hRC : w.heap.size + 1 + 1 ≠ R := by omega
 have hRw := World.rowIs.lt hR2
 have hb2s := hb2.size
 go_wp2_with fail
 have hX3 := ar_ w2 [.pointer (some ⟨w.heap.size + 1 + 1, 0, none⟩), .pointer (some ⟨R, 0, none⟩), .slice none 0 0, .bool false] 339
 have hX3 : (w2.alloc (.cells #[.pointer (some ⟨w.heap.size + 1 + 1, 0, none⟩), .pointer (some ⟨R, 0, none⟩), .slice none 0 0, .bool false] 339)).rowIs w2.heap.size 339 4 (codF (.pointer (some ⟨w.heap.size + 1 + 1, 0, none⟩)) (.pointer (some ⟨R, 0, none⟩)) (.slice none 0 0) false) := World.rowIs.congr (by simpa using hX3) fun i hi => by
  match i, hi with
  | 0, _ => rfl
  | 1, _ => rfl
  | 2, _ => rfl
  | 3, _ => rfl
 have hC3 := World.rowIs.alloc hC2 (.cells #[.pointer (some ⟨w.heap.size + 1 + 1, 0, none⟩), .pointer (some ⟨R, 0, none⟩), .slice none 0 0, .bool false] 339)
 have hD3 := World.rowIs.alloc hD2 (.cells #[.pointer (some ⟨w.heap.size + 1 + 1, 0, none⟩), .pointer (some ⟨R, 0, none⟩), .slice none 0 0, .bool false] 339)
 have hR3 := World.rowIs.alloc hR2 (.cells #[.pointer (some ⟨w.heap.size + 1 + 1, 0, none⟩), .pointer (some ⟨R, 0, none⟩), .slice none 0 0, .bool false] 339)
 have hv3 := (hv2 [w2.heap.size, w.heap.size + 1 + 1, R, w.heap.size + 1] (fun k hk => by simp at hk; omega)).kept (Kept.of_below (L := []) (below1 w2 (.cells #[.pointer (some ⟨w.heap.size + 1 + 1, 0, none⟩), .pointer (some ⟨R, 0, none⟩), .slice none 0 0, .bool false] 339))) (by simp)
 have hb3 := below1 w2 (.cells #[.pointer (some ⟨w.heap.size + 1 + 1, 0, none⟩), .pointer (some ⟨R, 0, none⟩), .slice none 0 0, .bool false] 339)
 have hs3 : (w2.alloc (.cells #[.pointer (some ⟨w.heap.size + 1 + 1, 0, none⟩), .pointer (some ⟨R, 0, none⟩), .slice none 0 0, .bool false] 339)).heap.size = w2.heap.size + 1 := by simp
 generalize w2.alloc (.cells #[.pointer (some ⟨w.heap.size + 1 + 1, 0, none⟩), .pointer (some ⟨R, 0, none⟩), .slice none 0 0, .bool false] 339) = w3 at *
 have hRS : RS w3 [w2.heap.size, w.heap.size + 1 + 1, R, w.heap.size + 1] w2.heap.size (w.heap.size + 1 + 1) R (au_ (cmdL cm.op ⟨#[]⟩)) (payG cm) false :=
  ⟨by omega, by omega, hRC, by rw [hop]; exact hC3, hX3, by simp, v2, hR3, hv3⟩
 refine (hV_ hs (by rw [hop]; exact hr) hRS).mono ?_
 rintro e w4 ⟨rfl, vk, vv, vt, hS4, hsl4, hk4⟩
 have hD4 := hk4.row (by simp; omega) hD3
 obtain ⟨_, _, _, hC4, hX4, _, v4, hR4, hv4⟩ := hS4
 obtain ⟨A4, c4, rfl, hby4, _⟩ := hv4
 have hbb : Bw w w3 := by
  have h5 := hb1.trans (hb2.mono (by omega))
  exact h5.trans (hb3.mono (by omega))
 cases hb : okC cm
 ·have hx43 : w4.cell? ⟨w2.heap.size, 3, none⟩ = some (.bool true) := by
   have := World.rowIs.cell hX4 (i := 3) (by decide)
   rw [hb] at this
   exact this
  have Aa := kp hD4
  have Ab := kp (cq_ Aa.o)
  clear hC4 hD4 hX4 hR4 hX3 hC3 hD3 hR3 hv3 hv2 hC2 hD2 hR2 hRS hsl4
  go_wp2_with ((with_reducible refine ab_ (op := ⟨none, _, _, _, _, _⟩) rfl 36 _ _ rfl (w.heap.size + 1) 0 (cmdL 0 ⟨#[]⟩).toArray ?_ ?_ ?_ (jT_ 0 _) ?_ ?_); (· rfl); (· rfl); (· exact Ab.o); (· exact cmdL_one 0 _); intro w5 hw5)
  have hD5 := aC_ Aa.o (cmdL 0 ⟨#[]⟩) rfl
  have hc5 := av_ hD5 (cmdL 0 ⟨#[]⟩) rfl fun i hi => rfl
  have hk45 : Kept [w.heap.size + 1] w4 (w4.setCells (w.heap.size + 1) 0 (cmdL 0 ⟨#[]⟩)) := am_ (by simp) _ _ _ (Kept.refl _ _)
  have hk5 : Kept [w2.heap.size, w.heap.size + 1 + 1, R, w.heap.size + 1] w3 (w4.setCells (w.heap.size + 1) 0 (cmdL 0 ⟨#[]⟩)) := (hk4.mono (by simp)).trans (hk45.mono (by simp))
  exact bodyPost_ret (as_ rfl _ _ ⟨w.heap.size + 1, 0, none⟩ (cmdL 0 ⟨#[]⟩).toArray rfl (af_ _ _ _ _ _ hc5 Tryz.underlying36 rfl (ls_ 0 _))) rfl ⟨hbb.trans (hk5.below (by omega) (by simp; omega)), fun h => by rw [hb] at h; simp at h, fun _ => rfl⟩
 have hx43 : w4.cell? ⟨w2.heap.size, 3, none⟩ = some (.bool false) := by
  have := World.rowIs.cell hX4 (i := 3) (by decide)
  rw [hb] at this
  exact this
 have hc := lr_ hs (by rw [hop]; exact hr) hb
 obtain ⟨hk4s, hv4s, ht4s⟩ := hsl4 (by rw [hb]; rfl)
 clear hsl4
 have hx41 : w4.cell? ⟨w2.heap.size, 1, none⟩ = some (.pointer (some ⟨R, 0, none⟩)) := World.rowIs.cell hX4 (i := 1) (by decide)
 have hr41 : w4.cell? ⟨R, 1, none⟩ = some (.slice A4 0 c4) := World.rowIs.cell hR4 (i := 1) (by decide)
 obtain ⟨Ad, Aa⟩ := kq2 hC4 hD4
 clear hC4 hD4 hX4 hR4 hX3 hC3 hD3 hR3 hv3 hv2 hC2 hD2 hR2 hRS
 obtain ⟨Ac, Ab⟩ := kq2 (av_ Ad.o (cmdC (az_ cm) vk vv vt) rfl fun i hi => rfl) (cq_ Aa.o)
 go_wp2_with fail
 go_enter Tryz.func306, Tryz.ntmps306
 go_wp2_with (first
  | ((with_reducible refine wpList_load_agg (o := ⟨some 24, _, _, _, _, _⟩) rfl 36 _ rfl ⟨w.heap.size + 1 + 1, 0, none⟩ ?_ (cmdC (az_ cm) vk vv vt) _ Ac.o Tryz.underlying36 rfl (cC_ _ _ _ _) ?_); (· rfl))
  | ((with_reducible refine ab_ (op := ⟨none, _, _, _, _, _⟩) rfl 36 _ _ rfl (w.heap.size + 1) 0 (cmdC (az_ cm) vk vv vt).toArray ?_ ?_ ?_ (jU_ _ _ _ _) ?_ ?_); (· rfl); (· rfl); (· exact Ab.o); (· exact cmdC_one _ hk4s.one hv4s.one ht4s.one); intro w5 hw5))
 have hD5 := aC_ Aa.o (cmdC (az_ cm) vk vv vt) rfl
 have hc5 := av_ hD5 (cmdC (az_ cm) vk vv vt) rfl fun i hi => rfl
 have hk45 : Kept [w.heap.size + 1] w4 (w4.setCells (w.heap.size + 1) 0 (cmdC (az_ cm) vk vv vt)) := am_ (by simp) _ _ _ (Kept.refl _ _)
 have hk5 : Kept [w2.heap.size, w.heap.size + 1 + 1, R, w.heap.size + 1] w3 (w4.setCells (w.heap.size + 1) 0 (cmdC (az_ cm) vk vv vt)) := (hk4.mono (by simp)).trans (hk45.mono (by simp))
 refine bodyPost_ret (as_ rfl _ _ ⟨w.heap.size + 1, 0, none⟩ (cmdC (az_ cm) vk vv vt).toArray rfl (af_ _ _ _ _ _ hc5 Tryz.underlying36 rfl (cC_ _ _ _ _))) rfl ⟨?_, fun _ => ⟨vk, vv, vt, rfl, ?_⟩, fun h => by rw [hb] at h; simp at h⟩
 ·exact hbb.trans (hk5.below (by omega) (by simp; omega))
 exact k0_ hc Aa.o hk45 (cmdOk_of hc hk4s hv4s ht4s)
def aJ_ (c : CmdR) : Bool := decide (1 <= c.op /\ c.op <= 15) && okC c && cl_ (az_ c) c
theorem gs_ {c : CmdR} (h : ¬ (1 <= c.op /\ c.op <= 15)) : aJ_ c = false := by unfold aJ_; rw [eF h]; rfl
theorem fh_ {c : CmdR} (h : okC c = false) : aJ_ c = false := by unfold aJ_; rw [h]; simp
theorem gt_ {c : CmdR} (h : 1 <= c.op /\ c.op <= 15) (h1 : okC c = true) : aJ_ c = cl_ (az_ c) c := by unfold aJ_; rw [eT_ h, h1]; rfl
theorem valid_no (op : Int) (h : ¬ (1 <= op /\ op <= 15)) (w : World) : Calls Tryz.prog 235 #[.int .i64 op] w fun e w' => e = .returned (.bool false) /\ w' = w := by
 by_cases h1 : 1 <= op
 ·have g1 : decide ((0 : Int) < op) = true := by simp; omega
  have g2 : decide (op < 16) = false := by simp; omega
  go_enter Tryz.func235, Tryz.ntmps235
  go_wp2_with fail
  go_ret
  exact ⟨rfl, rfl⟩
 have g1 : decide ((0 : Int) < op) = false := by simp; omega
 go_enter Tryz.func235, Tryz.ntmps235
 go_wp2_with fail
 go_ret
 exact ⟨rfl, rfl⟩
theorem pw_start {w W : World} {cm : CmdR} {vk vv vt : Value} (hok : CmdOk w w.heap.size cm vk vv vt) (hb : Bw w W) (hC : W.rowIs w.heap.size 36 10 (au_ (cmdC cm vk vv vt)))
  (hX : W.rowIs (w.heap.size + 1 + 1) 339 4 (codF (.pointer (some ⟨w.heap.size, 0, none⟩)) (.pointer none) (.slice none 0 0) false)) : PW W (w.heap.size + 1 + 1) w.heap.size cm vk vv vt := by
 obtain ⟨⟨s1, A1, c1, rfl, e1⟩, ⟨s2, s3, A2, c2, rfl, e2⟩, ⟨s4, A3, c3, rfl, e3⟩⟩ := hok
 have hs := hb.size
 have hn : ∀ (A : Option Addr) (xs : List ByteArray), ElV Value.string w w.heap.size A xs -> ∀ b off, A = some ⟨b, off, none⟩ -> xs ≠ [] -> b ∉ [w.heap.size + 1 + 1, w.heap.size] := fun A xs hel b off hA hx hm => by
  cases xs with
  | nil => exact hx rfl
  | cons x r =>
   obtain ⟨b2, off2, h1, h2, _⟩ := hel 0 x rfl
   rw [hA] at h1
   cases h1
   simp at hm
   omega
 refine ⟨⟨by omega, hC, _, hX, none, 0, rfl, Byt.nil _ _, by simp⟩, ⟨A1, c1, rfl, (e1.below hb (lR _)).mono hs, hn _ _ e1⟩, ⟨A2, c2, rfl, (e2.below hb (lR _)).mono hs, fun b off hA hx hm => ?_⟩, ⟨A3, c3, rfl, (e3.below hb (lR _)).mono hs, hn _ _ e3⟩⟩
 obtain ⟨b2, off2, h1, h2, _⟩ := e2.2.2 0 (by cases hv : cm.val with | nil => exact absurd hv hx | cons _ _ => simp)
 rw [hA] at h1
 cases h1
 simp at hm
 omega
def errC (c : CmdR) : Int := if aJ_ c = true then 0 else 2
theorem write_g (cm : CmdR) (op : Int) (hop : cm.op = op) (hs : CmdS cm) (vk vv vt : Value) (w : World) (hok : CmdOk w w.heap.size cm vk vv vt) :
  Calls Tryz.prog 178 #[.agg (cmdC cm vk vv vt).toArray] w fun e w' => (∃ p A n c, e = .returned (.tuple #[.agg #[.int .u8 p, .slice A n c], .int .i64 (errC cm)])) /\ Bw w w' := by
 have hpl := iH_ hs
 obtain ⟨W1, hW1, hC1, hF1, hX1, hb1, hs1⟩ := hw_ w (cmdC cm vk vv vt) rfl
 have hPW := pw_start hok hb1 hC1 hX1
 have Aq := kp hok
 obtain ⟨A5, c5, rfl⟩ : ∃ A c, vv = .slice A cm.val.length c := by obtain ⟨_, ⟨_, _, A, c, h, _⟩, _⟩ := hok; exact ⟨A, c, h⟩
 have hvl : decide ((65536 : Int) < (cm.val.length : Int)) = false := by have := hs.val; simp; omega
 clear hok
 have Aa := kp hop
 have hF0 := ar_ (w.alloc (.cells (cmdC cm vk (.slice A5 cm.val.length c5) vt).toArray 36)) [.int .u8 0, .slice none 0 0] 270
 have hT0 := cq_ hF0
 obtain ⟨Ae, Ac, Ag⟩ := kq3 hF0 hT0 (dT_ w (.cells (cmdC cm vk (.slice A5 cm.val.length c5) vt).toArray 36) (.cells #[.int .u8 0, .slice none 0 0] 270))
 clear hF0 hT0
 simp only [cmdC, hop] at hW1 Ae Ac Ag ⊢
 clear hop
 go_enter Tryz.func178, Tryz.ntmps178
 go_wp2_with fail
 by_cases hr : 1 <= op /\ op <= 15
 rotate_left
 ·refine (valid_no op (by omega) _).mono ?_
  rintro e w1 ⟨rfl, rfl⟩
  clear hC1 hX1 hPW hF1
  go_wp2_with ((with_reducible refine ab_ (op := ⟨none, _, _, _, _, _⟩) rfl 270 _ _ rfl (w.heap.size + 1) 0 #[.int .u8 0, .slice none 0 0] ?_ ?_ ?_ ?_ ?_ ?_); (· rfl); (· rfl); (· simpa using Ac.o); (· rfl); (· simp [Value.oneCell']); intro w7 hw7)
  have hD7 := aC_ Ae.o [.int .u8 0, .slice none 0 0] rfl
  have hc7 := av_ hD7 [.int .u8 0, .slice none 0 0] rfl fun i hi => rfl
  refine bodyPost_ret (as_ rfl _ _ ⟨w.heap.size + 1, 0, none⟩ #[.int .u8 0, .slice none 0 0] rfl (af_ _ _ _ _ _ (by simpa using hc7) Tryz.underlying270 rfl (by kernel_rfl))) rfl ⟨⟨_, _, _, _, by unfold errC; rw [gs_ (by rw [Aa.o]; exact hr)]; rfl⟩, ?_⟩
  exact (am_ (L := [w.heap.size + 1]) (by simp) _ _ _ (Kept.of_below Ag.o)).below (lR _) (by simp)
 have hr1 : 0 < op := by omega
 have hr2 : op < 16 := by omega
 refine (j6_ op hr1 hr2 _).mono ?_
 rintro e w1 ⟨rfl, rfl⟩
 clear Ae Ac Ag
 go_wp2_with fail
 rw [<- hW1]
 clear hW1
 refine (hZ_ hs (by rw [Aa.o]; exact hr) hPW).mono ?_
 rintro e w2 ⟨rfl, hS2, hk2⟩
 obtain ⟨_, hC2, v2, hX2, A2, c2, rfl, hby2, hlo2⟩ := hS2
 have hF2 := hk2.row (by simp) hF1
 have hx22 : w2.cell? ⟨w.heap.size + 1 + 1, 2, none⟩ = some (.slice A2 (payG cm).length c2) := World.rowIs.cell hX2 (i := 2) (by decide)
 have hc20 : w2.cell? ⟨w.heap.size, 0, none⟩ = some (.int .i64 op) := by rw [<- Aa.o]; exact World.rowIs.cell hC2 (i := 0) (by decide)
 obtain ⟨k, hk⟩ := eY ((payG cm).length)
 rw [hk] at hx22 hpl
 have hs2 := hk2.size
 have hb02 : Bw w w2 := hb1.trans (hk2.below (by omega) (by simp; omega))
 obtain ⟨Ap, As, Ar⟩ := kq3 hX2 hC2 hF2
 clear hX2 hC2 hF2 hC1 hF1 hX1 hPW
 go_wp2_with fail
 have hbA := below1 w2 (.cells #[.int .u8 op, .slice A2 k c2] 270)
 refine (read_g cm op Aa.o hs hr A2 k c2 _ hk ((hby2.below hbA (lR _)).mono (by simp))).mono ?_
 rintro e w4 ⟨hb4, hyes, hno⟩
 have hb24 : Bw w2 w4 := hbA.trans (hb4.mono hbA.size)
 have hs4 := hb24.size
 have hX4 := World.rowIs.of_block Ap.o (hb24.block _ (by omega))
 have Ai := kp (World.rowIs.cell hX4 (i := 3) (by decide))
 have hC4 := World.rowIs.of_block As.o (hb24.block _ (by omega))
 have hF4 := World.rowIs.of_block Ar.o (hb24.block _ (by omega))
 have hl0 : w.heap.size < w4.heap.size := by omega
 have hl1 : w.heap.size + 1 < w4.heap.size := by omega
 have hl2 : w.heap.size + 1 + 1 < w4.heap.size := by omega
 cases hb : okC cm
 ·obtain rfl := hno hb
  have hx43 : w4.cell? ⟨w.heap.size + 1 + 1, 3, none⟩ = some (.bool true) := by have := Ai.o; rw [hb] at this; exact this
  have hT4 := cq_ (World.rowIs.alloc hF4 (.cells (cmdL 0 ⟨#[]⟩).toArray 36))
  obtain ⟨Ak, Am, Ao⟩ := kq3 hT4 (World.rowIs.alloc hF4 (.cells (cmdL 0 ⟨#[]⟩).toArray 36)) (below1 w4 (.cells (cmdL 0 ⟨#[]⟩).toArray 36))
  clear hX4 hC4 hF4 hT4 hno hyes
  simp only [cmdL] at Ak Am Ao ⊢
  go_wp2_with ((with_reducible refine ab_ (op := ⟨none, _, _, _, _, _⟩) rfl 270 _ _ rfl (w.heap.size + 1) 0 #[.int .u8 0, .slice none 0 0] ?_ ?_ ?_ ?_ ?_ ?_); (· rfl); (· rfl); (· exact Ak.o); (· rfl); (· simp [Value.oneCell']); intro w7 hw7)
  have hD7 := aC_ Am.o [.int .u8 0, .slice none 0 0] rfl
  have hc7 := av_ hD7 [.int .u8 0, .slice none 0 0] rfl fun i hi => rfl
  refine bodyPost_ret (as_ rfl _ _ ⟨w.heap.size + 1, 0, none⟩ #[.int .u8 0, .slice none 0 0] rfl (af_ _ _ _ _ _ hc7 Tryz.underlying270 rfl (by kernel_rfl))) rfl ⟨⟨_, _, _, _, by unfold errC; rw [fh_ hb]; rfl⟩, ?_⟩
  exact hb02.trans ((am_ (L := [w.heap.size + 1]) (by simp) _ _ _ ((Kept.of_below hb24).trans (Kept.of_below Ao.o))).below (by omega) (by simp))
 obtain ⟨vk4, vv4, vt4, rfl, hok4⟩ := hyes hb
 have hx43 : w4.cell? ⟨w.heap.size + 1 + 1, 3, none⟩ = some (.bool false) := by have := Ai.o; rw [hb] at this; exact this
 have hcm : (az_ cm).op = op := by rw [onlyC_op, Aa.o]
 have An := kp hcm
 obtain ⟨cx, hcx⟩ := eY (az_ cm)
 rw [hcx] at hok4 hcm An
 rw [hcx]
 obtain ⟨A6, c6, rfl⟩ : ∃ A c, vk4 = .slice A cx.keys.length c := by obtain ⟨⟨_, A, c, h, _⟩, _⟩ := hok4; exact ⟨A, c, h⟩
 obtain ⟨A7, c7, rfl⟩ : ∃ A c, vv4 = .slice A cx.val.length c := by obtain ⟨_, ⟨_, _, A, c, h, _⟩, _⟩ := hok4; exact ⟨A, c, h⟩
 obtain ⟨A8, c8, rfl⟩ : ∃ A c, vt4 = .slice A cx.tags.length c := by obtain ⟨_, _, _, A, c, h, _⟩ := hok4; exact ⟨A, c, h⟩
 have hA3 := ar_ w2 [.int .u8 op, .slice A2 k c2] 270
 have hA4 : w4.rowIs w2.heap.size 270 2 (au_ [.int .u8 op, .slice A2 k c2]) := World.rowIs.of_block (by simpa using hA3) (hb4.block _ (by simp))
 have hl3 : w2.heap.size < w4.heap.size := World.rowIs.lt hA4
 have hT6 := ar_ w4 (cmdC cx (.slice A6 cx.keys.length c6) (.slice A7 cx.val.length c7) (.slice A8 cx.tags.length c8)) 36
 have hb5 := below1 w4 (.cells (cmdC cx (.slice A6 cx.keys.length c6) (.slice A7 cx.val.length c7) (.slice A8 cx.tags.length c8)).toArray 36)
 have hC5 := World.rowIs.alloc hC4 (.cells (cmdC cx (.slice A6 cx.keys.length c6) (.slice A7 cx.val.length c7) (.slice A8 cx.tags.length c8)).toArray 36)
 have hF5 := World.rowIs.alloc hF4 (.cells (cmdC cx (.slice A6 cx.keys.length c6) (.slice A7 cx.val.length c7) (.slice A8 cx.tags.length c8)).toArray 36)
 have hA5 := World.rowIs.alloc hA4 (.cells (cmdC cx (.slice A6 cx.keys.length c6) (.slice A7 cx.val.length c7) (.slice A8 cx.tags.length c8)).toArray 36)
 have hok2 : CmdOk w2 w2.heap.size cm vk (.slice A5 cm.val.length c5) vt := (Aq.o.below hb02 (lR _)).mono hb02.size
 have hokA : CmdOk (w4.alloc (.cells (cmdC cx (.slice A6 cx.keys.length c6) (.slice A7 cx.val.length c7) (.slice A8 cx.tags.length c8)).toArray 36)) (w4.alloc (.cells (cmdC cx (.slice A6 cx.keys.length c6) (.slice A7 cx.val.length c7) (.slice A8 cx.tags.length c8)).toArray 36)).heap.size cm vk (.slice A5 cm.val.length c5) vt :=
  ((hok2.below hb24 (lR _)).mono hs4 |>.below hb5 (lR _)).mono hb5.size
 have hokB : CmdOk (w4.alloc (.cells (cmdC cx (.slice A6 cx.keys.length c6) (.slice A7 cx.val.length c7) (.slice A8 cx.tags.length c8)).toArray 36)) (w4.alloc (.cells (cmdC cx (.slice A6 cx.keys.length c6) (.slice A7 cx.val.length c7) (.slice A8 cx.tags.length c8)).toArray 36)).heap.size cx (.slice A6 cx.keys.length c6) (.slice A7 cx.val.length c7) (.slice A8 cx.tags.length c8) :=
  (hok4.below hb5 (lR _)).mono hb5.size
 obtain ⟨HE, HcT, HcC, Ad, Ah, Af⟩ := kq6 (cmd42 cx cm (.slice A6 cx.keys.length c6) (.slice A7 cx.val.length c7) (.slice A8 cx.tags.length c8) vk (.slice A5 cm.val.length c5) vt _ hokB hokA) (av_ hT6 (cmdC cx (.slice A6 cx.keys.length c6) (.slice A7 cx.val.length c7) (.slice A8 cx.tags.length c8)) rfl fun i hi => rfl) (av_ hC5 (cmdC cm vk (.slice A5 cm.val.length c5) vt) rfl fun i hi => rfl) hF5 hA5 hb5
 clear hX4 hC4 hF4 hA3 hA4 hT6 hC5 hF5 hA5 hb5 hok2 hokA hokB hok4 hcm
 simp only [cmdC, Aa.o, An.o] at HE HcT HcC Ad Ah Af ⊢
 go_wp2_with (first
  | ((with_reducible refine ac_ (o := ⟨some 39, _, _, _, _, _⟩) 36 _ rfl ⟨w4.heap.size, 0, none⟩ ?_ _ _ HcT.o Tryz.underlying36 rfl ?_ ?_ ?_); (· rfl); (· exact cC_ cx _ _ _); (· rfl))
  | ((with_reducible refine ac_ (o := ⟨some 40, _, _, _, _, _⟩) 36 _ rfl ⟨w.heap.size, 0, none⟩ ?_ _ _ HcC.o Tryz.underlying36 rfl ?_ ?_ ?_); (· rfl); (· exact cC_ cm _ _ _); (· rfl)))
 refine HE.o.mono ?_
 rintro e w6 ⟨rfl, hb6⟩
 have hA6 := World.rowIs.of_block Ah.o (hb6.block _ (World.rowIs.lt Ah.o))
 have hF6 := World.rowIs.of_block Ad.o (hb6.block _ (World.rowIs.lt Ad.o))
 have ha60 : w6.cell? ⟨w2.heap.size, 0, none⟩ = some (.int .u8 op) := World.rowIs.cell hA6 (i := 0) (by decide)
 have ha61 : w6.cell? ⟨w2.heap.size, 1, none⟩ = some (.slice A2 k c2) := World.rowIs.cell hA6 (i := 1) (by decide)
 obtain ⟨Aj, Al, Ab⟩ := kq3 (cq_ hF6) hF6 (gt_ (c := cm) (by rw [Aa.o]; exact hr) hb)
 rw [hcx] at Ab
 clear hA6 hF6
 cases hq : cl_ cx cm
 ·go_wp2_with ((with_reducible refine ab_ (op := ⟨none, _, _, _, _, _⟩) rfl 270 _ _ rfl (w.heap.size + 1) 0 #[.int .u8 0, .slice none 0 0] ?_ ?_ ?_ ?_ ?_ ?_); (· rfl); (· rfl); (· exact Aj.o); (· rfl); (· simp [Value.oneCell']); intro w7 hw7)
  have hD7 := aC_ Al.o [.int .u8 0, .slice none 0 0] rfl
  have hc7 := av_ hD7 [.int .u8 0, .slice none 0 0] rfl fun i hi => rfl
  have hk7 : Kept [w.heap.size + 1] w2 (w6.setCells (w.heap.size + 1) 0 [.int .u8 0, .slice none 0 0]) :=
   am_ (by simp) _ _ _ ((Kept.of_below hb24).trans ((Kept.of_below Af.o).trans (Kept.of_below hb6)))
  exact bodyPost_ret (as_ rfl _ _ ⟨w.heap.size + 1, 0, none⟩ #[.int .u8 0, .slice none 0 0] rfl (af_ _ _ _ _ _ hc7 Tryz.underlying270 rfl (by kernel_rfl))) rfl ⟨⟨_, _, _, _, by unfold errC; rw [Ab.o, hq]; rfl⟩, hb02.trans (hk7.below (by omega) (by simp))⟩
 go_wp2_with ((with_reducible refine ab_ (op := ⟨none, _, _, _, _, _⟩) rfl 270 _ _ rfl (w.heap.size + 1) 0 #[.int .u8 op, .slice A2 k c2] ?_ ?_ ?_ ?_ ?_ ?_); (· rfl); (· rfl); (· exact Aj.o); (· rfl); (· simp [Value.oneCell']); intro w7 hw7)
 have hD7 := aC_ Al.o [.int .u8 op, .slice A2 k c2] rfl
 have hc7 := av_ hD7 [.int .u8 op, .slice A2 k c2] rfl fun i hi => rfl
 have hk7 : Kept [w.heap.size + 1] w2 (w6.setCells (w.heap.size + 1) 0 [.int .u8 op, .slice A2 k c2]) :=
  am_ (by simp) _ _ _ ((Kept.of_below hb24).trans ((Kept.of_below Af.o).trans (Kept.of_below hb6)))
 exact bodyPost_ret (as_ rfl _ _ ⟨w.heap.size + 1, 0, none⟩ #[.int .u8 op, .slice A2 k c2] rfl (af_ _ _ _ _ _ hc7 Tryz.underlying270 rfl (by kernel_rfl))) rfl ⟨⟨_, _, _, _, by unfold errC; rw [Ab.o, hq]; rfl⟩, hb02.trans (hk7.below (by omega) (by simp))⟩
theorem iu_ (cm : CmdR) (hs : CmdS cm) (vk vv vt : Value) (w : World) (hok : CmdOk w w.heap.size cm vk vv vt) :
  Calls Tryz.prog 113 #[.agg (cmdC cm vk vv vt).toArray] w fun e w' => e = .returned (.bool (aJ_ cm)) /\ Bw w w' := by
 have hb1 := below1 w (.cells (cmdC cm vk vv vt).toArray 36)
 obtain ⟨HW, HC, HZ, Ab, HV⟩ := kq5 (write_g cm _ rfl hs vk vv vt _ ((hok.below hb1 (lR _)).mono hb1.size)) (dr_ w (cmdC cm vk vv vt) _ 36 rfl) (cC_ cm vk vv vt) hb1 (show errC cm = if aJ_ cm = true then 0 else 2 from rfl)
 clear hok hb1
 generalize cmdC cm vk vv vt = l at *
 go_enter Tryz.func113, Tryz.ntmps113
 go_wp2_with ((with_reducible refine wpList_load_agg (o := ⟨some 6, _, _, _, _, _⟩) rfl 36 _ rfl ⟨w.heap.size, 0, none⟩ ?_ l _ HC.o Tryz.underlying36 rfl HZ.o ?_); (· rfl))
 refine HW.o.mono ?_
 rintro e w2 ⟨⟨p, A, n, c, rfl⟩, hb2⟩
 have Aa := kp hb2
 have HE := HV.o
 cases hv : aJ_ cm
 ·rw [hv] at HE
  have he : errC cm = 2 := HE
  clear HE
  rw [he]
  go_wp2_with fail
  go_ret
  exact rb hv (Ab.o.trans ((Aa.o.alloc Aa.o.size _).mono Ab.o.size))
 rw [hv] at HE
 have he : errC cm = 0 := HE
 clear HE
 rw [he]
 go_wp2_with fail
 go_ret
 exact rb hv (Ab.o.trans ((Aa.o.alloc Aa.o.size _).mono Ab.o.size))
end Go.Proofs.YtnjhpgmbfblgaaaGreat.Ord
