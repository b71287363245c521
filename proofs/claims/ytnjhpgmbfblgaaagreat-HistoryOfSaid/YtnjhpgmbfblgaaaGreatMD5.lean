/- The codec that reads: its numbers, lifetimes and values; The codec that reads: its value; The codec that reads: its lists; Valid commands and their bytes; the codec's parts, written. -/
import Derived.Test.YtnjhpgmbfblgaaaGreatMD1
import Derived.Test.YtnjhpgmbfblgaaaGreatE2
namespace Go.Proofs.YtnjhpgmbfblgaaaGreat.Ord
set_option maxRecDepth 100000
set_option maxHeartbeats 16000000
open Go.RowKit
set_option linter.unusedVariables false
set_option linter.unusedSimpArgs false
theorem number_readN (X G R k : Nat) (NL : List Nat) (hNL : ∀ k ∈ [X, G, R], k ∈ NL) (t : TypeId) (n : Nat) (f : Nat -> Value) (m : Nat) (u0 : Int) (c outv v : Value) (rest : List Int) (bad : Bool) (w : World)
  (hG : w.rowIs G t n f) (hk : k < n) (hf : f k = .int .u64 u0) (hXG : X ≠ G) (hXR : X ≠ R) (hGR : G ≠ R) (hX : w.rowIs X 339 4 (codF c (.pointer (some ⟨R, 0, none⟩)) outv bad))
  (hR : w.rowIs R 440 2 (rdF v)) (hv : SlX w NL v (putV m ++ rest)) (hget : GetOk m) (hl : (putV m ++ rest).length <= 1000000) :
  Calls Tryz.prog 311 #[.pointer (some ⟨X, 0, none⟩), .pointer (some ⟨G, k, none⟩)] w fun e w' =>
   e = .returned (.tuple #[]) /\ ∃ v', w'.rowIs X 339 4 (codF c (.pointer (some ⟨R, 0, none⟩)) outv bad) /\ w'.rowIs G t n (updF f k (.int .u64 m)) /\ w'.rowIs R 440 2 (rdF v') /\ SlX w' NL v' rest /\ Kept [X, G, R] w w' := by
 have hc1 : w.cell? ⟨X, 1, none⟩ = some (.pointer (some ⟨R, 0, none⟩)) := World.rowIs.cell hX (i := 1) (by decide)
 have HB := kp (number145 NL R m (hNL R (by simp)) v rest w hget hl hR hv)
 have HX := kp hX
 have HG := kp hG
 clear hX hG hget hR hv
 go_enter Tryz.func311, Tryz.ntmps311
 go_wp2_with fail
 refine HB.out.mono ?_
 rintro e w1 ⟨v', rfl, hR1, hv1, hk1⟩
 have hX1 := hk1.row (G := X) (by simp [hXR]) HX.out
 have hG1 := hk1.row (G := G) (by simp [hGR]) HG.out
 have h13 : w1.cell? ⟨X, 3, none⟩ = some (.bool bad) := World.rowIs.cell hX1 (i := 3) (by decide)
 have hf13 : w1.frozen? ⟨X, 3, none⟩ = false := World.rowIs.frozen hX1 3
 have h1g : w1.cell? ⟨G, k, none⟩ = some (.int .u64 u0) := by rw [<- hf]; exact World.rowIs.cell hG1 hk
 have hf1g : w1.frozen? ⟨G, k, none⟩ = false := World.rowIs.frozen hG1 k
 obtain ⟨w2, hw2, hX2, hG2, hR2, hv2, hk2⟩ := read_midN hNL (k := k) (u := .int .u64 m) hXG hX1 hG1 hk1 hXR hGR hR1 hv1
 cases bad with
 | true =>
  go_wp2_with fail
  go_end0
  rw [<- hw2]
  exact ⟨rfl, v', hX2, hG2, hR2, hv2, hk2⟩
 | false =>
  go_wp2_with fail
  go_end0
  rw [<- hw2]
  exact ⟨rfl, v', hX2, hG2, hR2, hv2, hk2⟩

/-- a number of the command, read -/
theorem rs_number {w : World} {NL : List Nat} {X C R : Nat} {f : Nat -> Value} {rest : List Int} {bad : Bool} (k m : Nat) (u0 : Int) (h : RS w NL X C R f (putV m ++ rest) bad) (hk : k < 10) (hf : f k = .int .u64 u0) (hm : m < 18446744073709551616) (hrl : rest.length <= 500000) :
  Calls Tryz.prog 311 #[.pointer (some ⟨X, 0, none⟩), .pointer (some ⟨C, k, none⟩)] w fun e w' =>
   e = .returned (.tuple #[]) /\ RS w' NL X C R (updF f k (.int .u64 m)) rest bad /\ Kept [X, C, R] w w' := by
 obtain ⟨h1, h2, h3, h4, h5, h0, v, h6, h7⟩ := h
 have hl := putV_len10 hm
 exact (number_readN X C R k NL h0 36 10 f m u0 _ _ v rest bad w h4 hk hf h1 h2 h3 h5 h6 h7 (get_any hm) (by simp only [List.length_append]; omega)).mono fun e w' ⟨e1, v', e2, e3, e4, e5, e6⟩ => ⟨e1, ⟨h1, h2, h3, e3, e2, h0, v', e4, e5⟩, e6⟩
/-- a number read to a cell of a block of its own -/
theorem rs_number_at {w : World} {NL : List Nat} {X C R G k n : Nat} {t : TypeId} {f g : Nat -> Value} {rest : List Int} {bad : Bool} (m : Nat) (u0 : Int) (h : RS w NL X C R f (putV m ++ rest) bad) (hG : w.rowIs G t n g) (hGX : X ≠ G) (hGR : G ≠ R) (hGC : C ≠ G) (hGN : G ∈ NL) (hk : k < n) (hg : g k = .int .u64 u0) (hm : m < 18446744073709551616) (hrl : rest.length <= 500000) :
  Calls Tryz.prog 311 #[.pointer (some ⟨X, 0, none⟩), .pointer (some ⟨G, k, none⟩)] w fun e w' =>
   e = .returned (.tuple #[]) /\ RS w' NL X C R f rest bad /\ w'.rowIs G t n (updF g k (.int .u64 m)) /\ Kept [X, G, R] w w' := by
 obtain ⟨h1, h2, h3, h4, h5, h0, v, h6, h7⟩ := h
 have hl := putV_len10 hm
 have hNL : ∀ k ∈ [X, G, R], k ∈ NL := fun k hk => by
  simp only [List.mem_cons, List.not_mem_nil, or_false] at hk
  rcases hk with rfl | rfl | rfl
  ·exact h0 _ (by simp)
  ·exact hGN
  ·exact h0 _ (by simp)
 exact (number_readN X G R k NL hNL t n g m u0 _ _ v rest bad w hG hk hg hGX h2 hGR h5 h6 h7 (get_any hm) (by simp only [List.length_append]; omega)).mono fun e w' ⟨e1, v', e2, e3, e4, e5, e6⟩ => ⟨e1, ⟨h1, h2, h3, e6.row (by simp; exact ⟨fun e => h1 e.symm, hGC, h3⟩) h4, e2, h0, v', e4, e5⟩, e3, e6⟩

/-- the store of one cell of the command -/
theorem RS.store {w : World} {N : List Nat} {X C R : Nat} {f : Nat -> Value} {rest : List Int} {bad : Bool} (h : RS w N X C R f rest bad) (k : Nat) (u : Value) : RS (w.setCell ⟨C, k, none⟩ u) N X C R (updF f k u) rest bad /\ Kept [C] w (w.setCell ⟨C, k, none⟩ u) := by
 have hk : Kept [C] w (w.setCell ⟨C, k, none⟩ u) := (Kept.refl _ _).setCell (by simp) _
 obtain ⟨h1, h2, h3, h4, h5, h0, v, h6, h7⟩ := h
 exact ⟨⟨h1, h2, h3, World.rowIs.set h4 k u, hk.row (by simp; exact h1) h5, h0, v, hk.row (by simp; exact fun e => h3 e.symm) h6, h7.kept hk fun k hk => by simp at hk; exact h0 k (by simp [hk])⟩, hk⟩
/-- the store of the codec's mark -/
theorem RS.setbad {w : World} {N : List Nat} {X C R : Nat} {f : Nat -> Value} {rest : List Int} {bad : Bool} (h : RS w N X C R f rest bad) (b : Bool) : RS (w.setCell ⟨X, 3, none⟩ (.bool b)) N X C R f rest b /\ Kept [X] w (w.setCell ⟨X, 3, none⟩ (.bool b)) := by
 have hk : Kept [X] w (w.setCell ⟨X, 3, none⟩ (.bool b)) := (Kept.refl _ _).setCell (by simp) _
 obtain ⟨h1, h2, h3, h4, h5, h0, v, h6, h7⟩ := h
 refine ⟨⟨h1, h2, h3, hk.row (by simp; exact fun e => h1 e.symm) h4, World.rowIs.congr (World.rowIs.set h5 3 _) fun i hi => ?_, h0, v, hk.row (by simp; exact fun e => h2 e.symm) h6, h7.kept hk fun k hk => by simp at hk; exact h0 k (by simp [hk])⟩, hk⟩
 match i, hi with
 | 0, _ => rfl
 | 1, _ => rfl
 | 2, _ => rfl
 | 3, _ => rfl
theorem RS.drew {w : World} {N : List Nat} {X C R : Nat} {f : Nat -> Value} {rest : List Int} {bad : Bool} (h : RS w N X C R f rest bad) : RS w.drew N X C R f rest bad := h

theorem rs_life {w : World} {NL : List Nat} {X C R : Nat} {f : Nat -> Value} {rest : List Int} {bad : Bool} (m : Nat) (u0 : Int) (h : RS w NL X C R f (putV m ++ rest) bad) (hf : f 5 = .int .u64 u0) (hu : 0 <= u0 /\ u0 < 18446744073709551616) (hm : m < 18446744073709551616) (hrl : rest.length <= 500000) :
  Calls Tryz.prog 310 #[.pointer (some ⟨X, 0, none⟩)] w fun e w' =>
   e = .returned (.tuple #[]) /\ RS w' NL X C R (updF f 5 (.int .u64 m)) rest (bad || (m == 0)) /\ Kept [X, C, R] w w' := by
 obtain ⟨hXl, hCl, hRl⟩ := h.lt
 have h1 := h.1
 have c0 : w.cell? ⟨X, 0, none⟩ = some (.pointer (some ⟨C, 0, none⟩)) := World.rowIs.cell h.2.2.2.2.1 (i := 0) (by decide)
 have c5 : w.cell? ⟨C, 5, none⟩ = some (.int .u64 u0) := by rw [<- hf]; exact World.rowIs.cell h.2.2.2.1 (i := 5) (by decide)
 have hb1 := below1 w (.cells #[.int .u64 u0] 33)
 have hT : (w.alloc (.cells #[.int .u64 u0] 33)).rowIs w.heap.size 33 1 (listF [.int .u64 u0]) := row_list w [.int .u64 u0] 33
 have hp := putV_pos (m := m)
 have hN := rs_number_at (k := 0) m u0 ((h.below hb1).more w (Nat.le_refl _) h (by rw [List.length_append]; omega) hb1) hT (by omega) (by omega) (by omega) List.mem_cons_self (by decide) rfl hm hrl
 have HN := kp hN
 have HB1 := kp hb1
 have HNL := kp (h.2.2.2.2.2.1)
 clear hN hT hb1 h
 go_enter Tryz.func310, Tryz.ntmps310
 go_wp2_with fail
 refine HN.out.mono ?_
 rintro e w2 ⟨rfl, hR2, hT2, hk2⟩
 have c20 : w2.cell? ⟨X, 0, none⟩ = some (.pointer (some ⟨C, 0, none⟩)) := World.rowIs.cell hR2.2.2.2.2.1 (i := 0) (by decide)
 have c25 : w2.cell? ⟨C, 5, none⟩ = some (.int .u64 u0) := by rw [<- hf]; exact World.rowIs.cell hR2.2.2.2.1 (i := 5) (by decide)
 have f25 : w2.frozen? ⟨C, 5, none⟩ = false := World.rowIs.frozen hR2.2.2.2.1 5
 have t20 : w2.cell? ⟨w.heap.size, 0, none⟩ = some (.int .u64 m) := World.rowIs.cell hT2 (i := 0) (by decide)
 have HR2 := kp hR2
 have HT2 := kp hT2
 have HK2 := kp hk2
 clear hR2 hT2 hk2
 go_wp2_with fail
 go_region_law (fail)
 all_goals
  obtain ⟨hR3, hk3⟩ := HR2.out.store 5 (.int .u64 m)
  have hT3 := hk3.row (by simp; omega) HT2.out
  have HR3 := kp hR3.drew
  have hk4 : Kept [X, C, R, w.heap.size] w (w2.setCell ⟨C, 5, none⟩ (.int .u64 m)).drew := (((Kept.of_below HB1.out).trans (HK2.out.mono (by simp))).trans (hk3.mono (by simp))).drew
  have hT4 : (w2.setCell ⟨C, 5, none⟩ (.int .u64 m)).drew.rowIs w.heap.size 33 1 (updF (listF [.int .u64 u0]) 0 (.int .u64 m)) := World.rowIs.drew hT3
  generalize (w2.setCell ⟨C, 5, none⟩ (.int .u64 m)).drew = W3 at *
  have x33 : W3.cell? ⟨X, 3, none⟩ = some (.bool bad) := World.rowIs.cell HR3.out.2.2.2.2.1 (i := 3) (by decide)
  have fx33 : W3.frozen? ⟨X, 3, none⟩ = false := World.rowIs.frozen HR3.out.2.2.2.2.1 3
  have t30 : W3.cell? ⟨w.heap.size, 0, none⟩ = some (.int .u64 m) := World.rowIs.cell hT4 (i := 0) (by decide)
  have HK4 := kp hk4
  clear hR3 hk3 hT3 hk4 hT4 c20 c25 f25 t20
  have hend : ∀ b, RS (W3.setCell ⟨X, 3, none⟩ (.bool b)) NL X C R (updF f 5 (.int .u64 m)) rest b /\ Kept [X, C, R] w (W3.setCell ⟨X, 3, none⟩ (.bool b)) := fun b => by
   obtain ⟨h1, h2⟩ := HR3.out.setbad b
   refine ⟨h1.less (fun k hk => List.mem_cons_of_mem _ hk) HNL.out, ?_⟩
   have h3 := HK4.out.trans (h2.mono (L' := [X, C, R, w.heap.size]) (by simp))
   exact ⟨h3.os, h3.tape, h3.output, h3.size, fun k hk hn => h3.block k hk (by simp at hn ⊢; exact ⟨hn.1, hn.2.1, hn.2.2, by omega⟩)⟩
  cases bad with
  | true =>
   go_wp2_with fail
   go_end0
   exact ⟨rfl, (hend true).1, (hend true).2⟩
  | false =>
   cases hm0 : ((m : Int) == 0)
   ·go_wp2_with fail
    go_end0
    have e : (m == 0) = false := by simp at hm0 ⊢; omega
    exact ⟨rfl, by rw [e]; exact (hend false).1, (hend false).2⟩
   ·go_wp2_with fail
    go_end0
    have e : (m == 0) = true := by simp at hm0 ⊢; omega
    exact ⟨rfl, by rw [e]; exact (hend true).1, (hend true).2⟩
theorem Kept.cut3 {X C R : Nat} {w w' : World} (h3 : Kept [X, C, R, w.heap.size] w w') : Kept [X, C, R] w w' := ⟨h3.os, h3.tape, h3.output, h3.size, fun k hk hn => h3.block k hk (by simp at hn ⊢; exact ⟨hn.1, hn.2.1, hn.2.2, by omega⟩)⟩

theorem rs_value {w : World} {NL : List Nat} {X C R : Nat} {f : Nat -> Value} {rest : List Int} {bad : Bool} (s : ByteArray) (h : RS w NL X C R f (putV s.size ++ (sBytes s ++ rest)) bad) (hf : f 3 = .slice none 0 0) (hs : s.size <= 65536) (hrl : rest.length <= 500000) :
  Calls Tryz.prog 308 #[.pointer (some ⟨X, 0, none⟩)] w fun e w' =>
   e = .returned (.tuple #[]) /\ ∃ vv, RS w' NL X C R (updF f 3 vv) rest bad /\ SlX w' [X, C, R] vv (sBytes s) /\ Kept [X, C, R] w w' := by
 obtain ⟨hXl, hCl, hRl⟩ := h.lt
 have h1 := h.1
 have c0 : w.cell? ⟨X, 0, none⟩ = some (.pointer (some ⟨C, 0, none⟩)) := World.rowIs.cell h.2.2.2.2.1 (i := 0) (by decide)
 have c3 : w.cell? ⟨C, 3, none⟩ = some (.slice none 0 0) := by rw [<- hf]; exact World.rowIs.cell h.2.2.2.1 (i := 3) (by decide)
 have hcv : (convert 26 9 (.slice none 0 0)).run Tryz.prog w = .ok (.string ⟨#[]⟩) w := (Byt.nil w 0).convert rfl
 have hb1 := below1 w (.cells #[.string ⟨#[]⟩] 9)
 have hT : (w.alloc (.cells #[.string ⟨#[]⟩] 9)).rowIs w.heap.size 9 1 (listF [.string ⟨#[]⟩]) := row_list w [.string ⟨#[]⟩] 9
 have hp := putV_pos (m := s.size)
 have hN := rs_part_at (k := 0) s ⟨#[]⟩ 369 ((h.below hb1).more w (Nat.le_refl _) h (by rw [List.length_append]; omega) hb1) hT (by omega) (by omega) (by omega) List.mem_cons_self (by decide) rfl enter144 (fun w => small144 s (by omega) w) hs hrl
 have HN := kp hN
 have HB1 := kp hb1
 have HNL := kp (h.2.2.2.2.2.1)
 have hsl := sBytes_len s
 clear hN hT hb1 h
 go_enter Tryz.func308, Tryz.ntmps308
 go_wp2_with fail
 refine HN.out.mono ?_
 rintro e w2 ⟨rfl, hR2, hT2, hk2⟩
 have hR2 := (hR2.bad rfl (show (bad || !true) = bad by simp)).less (fun k hk => List.mem_cons_of_mem _ hk) HNL.out
 have c21 : w2.cell? ⟨X, 1, none⟩ = some (.pointer (some ⟨R, 0, none⟩)) := World.rowIs.cell hR2.2.2.2.2.1 (i := 1) (by decide)
 have c20 : w2.cell? ⟨X, 0, none⟩ = some (.pointer (some ⟨C, 0, none⟩)) := World.rowIs.cell hR2.2.2.2.2.1 (i := 0) (by decide)
 have c23 : w2.cell? ⟨C, 3, none⟩ = some (.slice none 0 0) := by rw [<- hf]; exact World.rowIs.cell hR2.2.2.2.1 (i := 3) (by decide)
 have f23 : w2.frozen? ⟨C, 3, none⟩ = false := World.rowIs.frozen hR2.2.2.2.1 3
 have t20 : w2.cell? ⟨w.heap.size, 0, none⟩ = some (.string s) := World.rowIs.cell hT2 (i := 0) (by decide)
 have hkw : Kept [X, C, R, w.heap.size] w w2 := (Kept.of_below HB1.out).trans (hk2.mono (by simp))
 have HR2 := kp hR2
 have HK2 := kp hkw
 clear hR2 hT2 hk2 hkw
 by_cases h0 : s.size = 0
 ·have hg : decide ((0 : Int) < (s.size : Int)) = false := by rw [h0]; rfl
  go_wp2_with fail
  go_end0
  have hse : sBytes s = [] := List.eq_nil_of_length_eq_zero (by omega)
  refine ⟨rfl, .slice none 0 0, HR2.out.row fun i hi => ?_, ⟨none, 0, by rw [hse]; rfl, by rw [hse]; exact Byt.nil _ _, by simp⟩, HK2.out.cut3⟩
  by_cases e : i = 3
  ·subst e; simp [updF, hf]
  ·simp [updF, e]
 ·have hg : decide ((0 : Int) < (s.size : Int)) = true := by simp; omega
  go_wp2_with fail
  obtain ⟨c2, W5, hconv, hby5, hb5⟩ := conv_str w2.drew s
  have hb25 : Below w2.heap.size w2 W5 := ⟨hb5.os, hb5.tape, hb5.output, hb5.size, hb5.block⟩
  have hR5 := HR2.out.below hb25
  have c50 : W5.cell? ⟨X, 0, none⟩ = some (.pointer (some ⟨C, 0, none⟩)) := World.rowIs.cell hR5.2.2.2.2.1 (i := 0) (by decide)
  have c53 : W5.cell? ⟨C, 3, none⟩ = some (.slice none 0 0) := by rw [<- hf]; exact World.rowIs.cell hR5.2.2.2.1 (i := 3) (by decide)
  have f53 : W5.frozen? ⟨C, 3, none⟩ = false := World.rowIs.frozen hR5.2.2.2.1 3
  have hR5 := kp hR5
  have hby5 := kp hby5
  go_region_law (fail)
  all_goals
   go_end0
   obtain ⟨hR6, hk6⟩ := hR5.out.store 3 (.slice (some ⟨w2.heap.size, 0, none⟩) s.size c2)
   have hs2 := HR2.out.lt
   refine ⟨rfl, .slice (some ⟨w2.heap.size, 0, none⟩) s.size c2, hR6, ⟨some ⟨w2.heap.size, 0, none⟩, c2, by rw [hsl], hk6.byt hby5.out fun x off hA hm => ?_, fun b off hA hm => ?_⟩, ((HK2.out.trans (Kept.of_below hb25)).trans (hk6.mono (by simp))).cut3⟩
   ·cases hA
    simp at hm
    omega
   ·cases hA
    simp at hm
    omega
/-- a slice of strings in a value, in none of some blocks -/
def SlN (w : World) (N : List Nat) (v : Value) (xs : List ByteArray) : Prop := ∃ A c, v = .slice A xs.length c /\ ElV Value.string w w.heap.size A xs /\ ∀ b off, A = some ⟨b, off, none⟩ -> xs ≠ [] -> b ∉ N
theorem SlN.nil (w : World) (N : List Nat) : SlN w N (.slice none 0 0) [] := ⟨none, 0, rfl, (fun i x h => by simp at h), by simp⟩
theorem SlN.kept {w w' : World} {N L : List Nat} {v : Value} {xs : List ByteArray} (h : SlN w N v xs) (hk : Kept L w w') (hL : ∀ k ∈ L, k ∈ N) : SlN w' N v xs := by
 obtain ⟨A, c, h1, h2, h3⟩ := h
 refine ⟨A, c, h1, fun i x hx => ?_, h3⟩
 obtain ⟨b, off, e, hlt, hc⟩ := h2 i x hx
 exact ⟨b, off, e, Nat.lt_of_lt_of_le hlt hk.size, hk.cell (fun hm => h3 b off e (List.ne_nil_of_mem (List.mem_iff_getElem?.2 ⟨i, hx⟩)) (hL _ hm)) hc⟩
theorem Tryz.info9 : (Tryz.prog.info? 9).map (fun i => (i.zero, i.size, i.bytes)) = some (some (.string ⟨#[]⟩), 1, 16) := by kernel_rfl
/-- a row of strings of which the first ones are there -/
def strF (strs : List ByteArray) (i : Nat) : Nat -> Value := fun j => .string (if j < i then strs.getD j ⟨#[]⟩ else ⟨#[]⟩)
theorem strF_upd {strs : List ByteArray} {i : Nat} {s : ByteArray} (hs : strs[i]? = some s) (j : Nat) : updF (strF strs i) i (.string s) j = strF strs (i + 1) j := by
 unfold updF strF
 by_cases e : j = i
 ·subst e
  rw [if_pos rfl, if_pos (by omega)]
  simp [List.getD, hs]
 ·rw [if_neg e]
  by_cases h : j < i
  ·rw [if_pos h, if_pos (by omega)]
  ·rw [if_neg h, if_neg (by omega)]
theorem strF_all {w : World} {strs : List ByteArray} {G n : Nat} (hn : strs.length = n) (h : w.rowIs G 9 n (strF strs n)) : ElV Value.string w w.heap.size (some ⟨G, 0, none⟩) strs := fun i x hx => by
 have hi : i < n := by have := (List.getElem?_eq_some_iff.1 hx).1; omega
 refine ⟨G, 0, rfl, World.rowIs.lt h, ?_⟩
 rw [Nat.zero_add, World.rowIs.cell h hi]
 simp [strF, hi, List.getD, hx]

theorem list_made {w w2 : World} {NL : List Nat} {X C R : Nat} {f : Nat -> Value} {rest : List Int} {bad : Bool} {k n : Nat} {strs : List ByteArray} (hk : Kept [X, C, R] w w2) (h : RS w2 NL X C R f (putStrs strs ++ rest) bad) (hn : strs.length = n) (h0 : 0 < n) :
  ∃ W, W = (w2.alloc (.cells (madeCells #[.string ⟨#[]⟩] n) 9)).setCell ⟨C, k, none⟩ (.slice (some ⟨w2.heap.size, 0, none⟩) n n) /\ RS W (w2.heap.size :: NL) X C R (updF f k (.slice (some ⟨w2.heap.size, 0, none⟩) n n)) (putStrs strs ++ rest) bad /\ W.rowIs w2.heap.size 9 n (strF strs 0) /\ Kept [X, C, R] w W := by
 have hb := below1 w2 (.cells (madeCells #[.string ⟨#[]⟩] n) 9)
 have hG := World.rowIs_made w2 (.string ⟨#[]⟩) n 9
 obtain ⟨l1, l2, l3⟩ := h.lt
 have hr : 0 < (putStrs strs ++ rest).length := by
  cases strs with
  | nil => simp at hn; omega
  | cons a l =>
   have := putV_pos (m := a.size)
   simp only [putStrs, List.length_append]
   omega
 have hS := (h.below hb).more w2 (Nat.le_refl _) h hr hb
 obtain ⟨h1, h2⟩ := hS.store k (.slice (some ⟨w2.heap.size, 0, none⟩) n n)
 exact ⟨_, rfl, h1, World.rowIs.congr (h2.row (by simp; omega) hG) (fun i hi => by simp [strF]), (hk.trans (Kept.of_below hb)).trans (h2.mono (by simp))⟩

theorem rs_list {w : World} {NL : List Nat} {X C R : Nat} {f : Nat -> Value} {rest : List Int} {bad : Bool} (k n least most N : Nat) (strs : List ByteArray) (alw : ByteArray -> Bool) (h : RS w NL X C R f (putV n ++ (putStrs strs ++ rest)) bad) (hk : k < 10) (hf : f k = .slice none 0 0) (hn : strs.length = n)
  (eg : ∀ args w, (callFunc N args).run Tryz.prog w = .ok (.enter N args) w) (hN : ∀ s ∈ strs, ∀ w, Calls Tryz.prog N #[.string s] w fun e w' => e = .returned (.bool (alw s)) /\ Below w.heap.size w w') (hs : ∀ s ∈ strs, s.size <= 3000) (h1 : least <= n) (h2 : n <= most) (h3 : most <= 32) (hrl : rest.length <= 200000) :
  Calls Tryz.prog 309 #[.pointer (some ⟨X, 0, none⟩), .pointer (some ⟨C, k, none⟩), .int .i64 least, .int .i64 most, .func (.func N) #[] #[]] w fun e w' =>
   e = .returned (.tuple #[]) /\ ∃ vt, RS w' NL X C R (updF f k vt) rest (bad || !(strs.all alw)) /\ SlN w' [X, C, R] vt strs /\ Kept [X, C, R] w w' := by
 obtain ⟨hXl, hCl, hRl⟩ := h.lt
 have ck : w.cell? ⟨C, k, none⟩ = some (.slice none 0 0) := by rw [<- hf]; exact World.rowIs.cell h.2.2.2.1 hk
 have hb1 := below1 w (.cells #[.int .u64 0] 33)
 have hT : (w.alloc (.cells #[.int .u64 0] 33)).rowIs w.heap.size 33 1 (listF [.int .u64 0]) := row_list w [.int .u64 0] 33
 have hp := putV_pos (m := n)
 have hsl := putStrs_len3 hs
 have hNW := rs_number_at (k := 0) n 0 ((h.below hb1).more w (Nat.le_refl _) h (by rw [List.length_append]; omega) hb1) hT (by omega) (by omega) (by omega) List.mem_cons_self (by decide) rfl (by omega) (by rw [List.length_append]; omega)
 have HNW := kp hNW
 have HB1 := kp hb1
 have HNL := kp h.2.2.2.2.2.1
 have HN := kp hN
 have HS := kp hs
 have HL := kp hn
 have HEG := kp eg
 have HNE := kp (show X ≠ C /\ X ≠ R /\ C ≠ R from ⟨h.1, h.2.1, h.2.2.1⟩)
 have g1 : ¬ n < least := by omega
 have g2 : ¬ most < n := by omega
 have H1 := kp h1
 have H2 := kp h2
 have H3 := kp h3
 have hn100 : n <= 32 := Nat.le_trans h2 h3
 have hl100 : least <= 32 := Nat.le_trans h1 hn100
 have hm100 : most <= 32 := h3
 clear hNW hT hb1 hN hs hn eg h1 h2 h3 h
 go_enter Tryz.func309, Tryz.ntmps309
 go_wp2_with fail
 refine HNW.out.mono ?_
 rintro e w2 ⟨rfl, hR2, hT2, hk2⟩
 have hR2 := hR2.less (fun k hk => List.mem_cons_of_mem _ hk) HNL.out
 have t20 : w2.cell? ⟨w.heap.size, 0, none⟩ = some (.int .u64 n) := World.rowIs.cell hT2 (i := 0) (by decide)
 have c21 : w2.cell? ⟨X, 1, none⟩ = some (.pointer (some ⟨R, 0, none⟩)) := World.rowIs.cell hR2.2.2.2.2.1 (i := 1) (by decide)
 have hkw : Kept [X, C, R] w w2 := ((Kept.of_below HB1.out).trans (hk2.mono (by simp))).cut3
 have c2k : w2.cell? ⟨C, k, none⟩ = some (.slice none 0 0) := by rw [<- hf]; exact World.rowIs.cell hR2.2.2.2.1 hk
 have f2k : w2.frozen? ⟨C, k, none⟩ = false := World.rowIs.frozen hR2.2.2.2.1 k
 have HR2 := kp hR2
 have HKW := kp hkw
 clear hT2 hk2 hR2 hkw
 by_cases hn0 : n = 0
 ·subst hn0
  have hse : strs = [] := List.eq_nil_of_length_eq_zero HL.out
  subst hse
  go_wp2_with fail
  clear c2k t20 c21 g1 g2
  go_loopw [49] (fun j wr => j = .int .i64 0 /\ wr = w2) (fun j _ => 0)
  case atStart => exact ⟨rfl, rfl⟩
  case round =>
   obtain ⟨rfl, rfl⟩ := hrel
   go_wp2_with fail
   go_end0
   refine ⟨rfl, .slice none 0 0, (HR2.out.bad rfl (by simp)).row fun i hi => ?_, SlN.nil _ _, HKW.out⟩
   by_cases e : i = k
   ·subst e; simp [updF, hf]
   ·simp [updF, e]
 ·have g3 : 0 < n := by omega
  have hmk : (Instr.makeSlice 32 (.int .u64 (n : Int)) (.int .u64 (n : Int))).run Tryz.prog w2 = .ok (.slice (some ⟨w2.heap.size, 0, none⟩) n n) (w2.alloc (.cells (madeCells #[.string ⟨#[]⟩] n) 9)) := run_make_row' 32 9 (.string ⟨#[]⟩) 16 Tryz.underlying32 Tryz.info9 rfl .u64 .u64 n (by omega) (by omega) w2
  obtain ⟨W3, hW3, hR3, hG3, hK3⟩ := list_made (k := k) HKW.out HR2.out HL.out (by omega)
  have c3k : W3.cell? ⟨C, k, none⟩ = some (.slice (some ⟨w2.heap.size, 0, none⟩) n n) := by
   have := World.rowIs.cell hR3.2.2.2.1 hk
   simpa [updF] using this
  rw [hW3] at c3k
  have hb2 := below1 w2 (.cells (madeCells #[.string ⟨#[]⟩] n) 9)
  have hRA := HR2.out.below hb2
  have f2a : (w2.alloc (.cells (madeCells #[.string ⟨#[]⟩] n) 9)).frozen? ⟨C, k, none⟩ = false := World.rowIs.frozen hRA.2.2.2.1 k
  have c2a : (w2.alloc (.cells (madeCells #[.string ⟨#[]⟩] n) 9)).cell? ⟨C, k, none⟩ = some (.slice none 0 0) := by rw [<- hf]; exact World.rowIs.cell hRA.2.2.2.1 hk
  have HR3 := kp hR3
  have HG3 := kp hG3
  have HK3 := kp hK3
  clear hR3 hG3 hK3 hRA
  go_wp2_with fail
  rw [<- hW3]
  clear hW3 c3k f2a c2a c2k t20 c21 g1 g2 g3 f2k hmk
  go_loopw [49] (fun j wr => ∃ i : Nat, i <= n /\ j = .int .i64 i /\ RS wr (w2.heap.size :: NL) X C R (updF f k (.slice (some ⟨w2.heap.size, 0, none⟩) n n)) (putStrs (strs.drop i) ++ rest) (bad || !((strs.take i).all alw)) /\ wr.rowIs w2.heap.size 9 n (strF strs i) /\ Kept [X, C, R] w wr) (fun j _ => n - (intOf j).toNat)
  case atStart => exact ⟨0, Nat.zero_le _, rfl, HR3.out.bad (by simp) (by simp), HG3.out, HK3.out⟩
  case round =>
   obtain ⟨i, hi, rfl, hW, hGi, hK⟩ := hrel
   have ckr : wr.cell? ⟨C, k, none⟩ = some (.slice (some ⟨w2.heap.size, 0, none⟩) n n) := by
    have := World.rowIs.cell hW.2.2.2.1 hk
    simpa [updF] using this
   by_cases hlt : i < n
   ·have hg : decide ((i : Int) < (n : Int)) = true := by simp; omega
    obtain ⟨s, hs⟩ : ∃ s, strs[i]? = some s := ⟨strs[i]'(by rw [HL.out]; exact hlt), List.getElem?_eq_getElem _⟩
    have hmem : s ∈ strs := List.mem_iff_getElem?.2 ⟨i, hs⟩
    have htk : strs.take (i + 1) = strs.take i ++ [s] := by rw [List.take_add_one, hs]; rfl
    have hdr : strs.drop i = s :: strs.drop (i + 1) := by
     rw [List.drop_eq_getElem_cons (by rw [HL.out]; exact hlt)]
     congr 1
     exact (List.getElem?_eq_some_iff.1 hs).2
    have hlen : (putStrs (strs.drop (i + 1))).length <= 110000 := by
     have h4 := putStrs_len3 (l := strs.drop (i + 1)) fun s hs => HS.out s (List.mem_of_mem_drop hs)
     have h6 : (strs.drop (i + 1)).length <= n := by rw [List.length_drop, HL.out]; omega
     omega
    have hsz := HS.out s hmem
    have hP := rs_part_at (k := i) (n := n) (t := 9) (rest := putStrs (strs.drop (i + 1)) ++ rest) s ⟨#[]⟩ N (hW.bad (by rw [hdr]; simp only [putStrs, List.append_assoc]) rfl) hGi (by have := HR2.out.lt; omega) (by have := HR2.out.lt; omega) (by have := HR2.out.lt; omega) List.mem_cons_self hlt (by simp [strF]) HEG.out (HN.out s hmem) (by omega) (by rw [List.length_append]; omega)
    have HP := kp hP
    have HTK := kp htk
    have HK := kp hK
    have HSI := kp hs
    clear hP hW hGi hs hmem htk hdr hlen hK
    go_wp2_with fail
    refine HP.out.mono ?_
    rintro e w5 ⟨rfl, hR5, hG5, hk5⟩
    have HR5 := kp (hR5.bad (bad' := bad || !((strs.take (i + 1)).all alw)) rfl (by rw [HTK.out, List.all_append]; cases bad <;> cases (strs.take i).all alw <;> cases h : alw s <;> simp [h]))
    have HG5 := kp (World.rowIs.congr hG5 fun j _ => strF_upd HSI.out j)
    have HK5 : Hid (Kept [X, C, R] w w5) := kp (by
     have h3 := (HK.out.mono (L' := [X, C, R, w2.heap.size]) (by simp)).trans (hk5.mono (by simp))
     have h4 := HKW.out.size
     exact ⟨h3.os, h3.tape, h3.output, h3.size, fun q hq hn => h3.block q hq (by simp at hn ⊢; exact ⟨hn.1, hn.2.1, hn.2.2, by omega⟩)⟩)
    clear hR5 hG5 hk5
    go_wp2_with fail
    go_roundw
    case rel => exact ⟨i + 1, by omega, by go_num, HR5.out, HG5.out, HK5.out⟩
    case measure => simp [intOf]; omega
   ·obtain rfl : i = n := by omega
    have hg : decide ((i : Int) < (i : Int)) = false := by simp
    have HW3 := kp hW
    have HG3 := kp hGi
    have HK3 := kp hK
    clear hW hK hGi
    go_wp2_with fail
    go_end0
    have h2s := HR2.out.lt
    refine ⟨rfl, _, (HW3.out.less (fun k hk => List.mem_cons_of_mem _ hk) HNL.out).bad (by rw [List.drop_of_length_le (by rw [HL.out]; exact Nat.le_refl _)]; simp [putStrs]) (by rw [List.take_of_length_le (by rw [HL.out]; exact Nat.le_refl _)]), ⟨_, i, by rw [HL.out], strF_all HL.out HG3.out, fun b off e _ hm => ?_⟩, HK3.out⟩
    cases e
    simp at hm
    omega
def keyOk (s : ByteArray) : Bool := decide (0 < s.size) && decide (s.size <= 250)
def tagOk (s : ByteArray) : Bool := decide (0 < s.size) && decide (s.size <= 64)
def preOk (s : ByteArray) : Bool := decide (s.size <= 250)
theorem key127 (s : ByteArray) (w : World) : Calls Tryz.prog 255 #[.string s] w fun e w' => e = .returned (.bool (keyOk s)) /\ Below w.heap.size w w' := by
 unfold keyOk
 cases g1 : decide (0 < s.size)
 ·have g : decide ((0 : Int) < (s.size : Int)) = false := by simp at g1 ⊢; omega
  go_enter Tryz.func255, Tryz.ntmps255
  go_wp2_with fail
  go_ret
  exact ⟨rfl, Below.refl _ _⟩
 ·have g : decide ((0 : Int) < (s.size : Int)) = true := by simp at g1 ⊢; omega
  cases g2 : decide (s.size <= 250)
  ·have g' : decide ((s.size : Int) <= 250) = false := by simp at g2 ⊢; omega
   go_enter Tryz.func255, Tryz.ntmps255
   go_wp2_with fail
   go_ret
   exact ⟨rfl, Below.refl _ _⟩
  ·have g' : decide ((s.size : Int) <= 250) = true := by simp at g2 ⊢; omega
   go_enter Tryz.func255, Tryz.ntmps255
   go_wp2_with fail
   go_ret
   exact ⟨rfl, Below.refl _ _⟩
theorem tag130 (s : ByteArray) (w : World) : Calls Tryz.prog 193 #[.string s] w fun e w' => e = .returned (.bool (tagOk s)) /\ Below w.heap.size w w' := by
 unfold tagOk
 cases g1 : decide (0 < s.size)
 ·have g : decide ((0 : Int) < (s.size : Int)) = false := by simp at g1 ⊢; omega
  go_enter Tryz.func193, Tryz.ntmps193
  go_wp2_with fail
  go_ret
  exact ⟨rfl, Below.refl _ _⟩
 ·have g : decide ((0 : Int) < (s.size : Int)) = true := by simp at g1 ⊢; omega
  cases g2 : decide (s.size <= 64)
  ·have g' : decide ((s.size : Int) <= 64) = false := by simp at g2 ⊢; omega
   go_enter Tryz.func193, Tryz.ntmps193
   go_wp2_with fail
   go_ret
   exact ⟨rfl, Below.refl _ _⟩
  ·have g' : decide ((s.size : Int) <= 64) = true := by simp at g2 ⊢; omega
   go_enter Tryz.func193, Tryz.ntmps193
   go_wp2_with fail
   go_ret
   exact ⟨rfl, Below.refl _ _⟩
theorem pre133 (s : ByteArray) (w : World) : Calls Tryz.prog 312 #[.string s] w fun e w' => e = .returned (.bool (preOk s)) /\ Below w.heap.size w w' := by
 unfold preOk
 cases g2 : decide (s.size <= 250)
 ·have g' : decide ((s.size : Int) <= 250) = false := by simp at g2 ⊢; omega
  go_enter Tryz.func312, Tryz.ntmps312
  go_wp2_with fail
  go_ret
  exact ⟨rfl, Below.refl _ _⟩
 ·have g' : decide ((s.size : Int) <= 250) = true := by simp at g2 ⊢; omega
  go_enter Tryz.func312, Tryz.ntmps312
  go_wp2_with fail
  go_ret
  exact ⟨rfl, Below.refl _ _⟩
theorem enter130 : ∀ args w, (callFunc 193 args).run Tryz.prog w = .ok (.enter 193 args) w := by
 intro args w
 simp [callFunc, Tryz.func193, Tryz.f193]
theorem enter133 : ∀ args w, (callFunc 312 args).run Tryz.prog w = .ok (.enter 312 args) w := by
 intro args w
 simp [callFunc, Tryz.func312, Tryz.f312]

/-- a string with its length -/
def putS (s : ByteArray) : List Int := putV s.size ++ sBytes s
def putLs (l : List ByteArray) : List Int := putV l.length ++ putStrs l
def eB : ByteArray := ⟨#[]⟩
/-- the valid commands -/
inductive CmdV : CmdR -> Prop
 | set (op : Int) (k : ByteArray) (val : List Int) (tags : List ByteArray) (life : Nat) (ho : op = 1 ∨ op = 2) (hk : keyOk k = true) (hv : ∀ y ∈ val, 0 <= y /\ y < 256) (hl : val.length <= 65536) (ht : ∀ s ∈ tags, tagOk s = true) (hn : tags.length <= 16) (h0 : 0 < life) (h1 : life < 18446744073709551616) : CmdV ⟨op, k, [], val, tags, life, 0, eB, eB, eB⟩
 | cas (k : ByteArray) (val : List Int) (tags : List ByteArray) (life ver : Nat) (hk : keyOk k = true) (hv : ∀ y ∈ val, 0 <= y /\ y < 256) (hl : val.length <= 65536) (ht : ∀ s ∈ tags, tagOk s = true) (hn : tags.length <= 16) (h0 : 0 < life) (h1 : life < 18446744073709551616) (h2 : ver < 18446744073709551616) : CmdV ⟨3, k, [], val, tags, life, ver, eB, eB, eB⟩
 | key (op : Int) (k : ByteArray) (ho : op = 4 ∨ op = 7 ∨ op = 13) (hk : keyOk k = true) : CmdV ⟨op, k, [], [], [], 0, 0, eB, eB, eB⟩
 | mget (keys : List ByteArray) (hk : ∀ s ∈ keys, keyOk s = true) (h1 : 1 <= keys.length) (hn : keys.length <= 16) : CmdV ⟨5, eB, keys, [], [], 0, 0, eB, eB, eB⟩
 | touch (k : ByteArray) (life : Nat) (hk : keyOk k = true) (h0 : 0 < life) (h1 : life < 18446744073709551616) : CmdV ⟨6, k, [], [], [], life, 0, eB, eB, eB⟩
 | tag (op : Int) (t : ByteArray) (ho : op = 8 ∨ op = 9) (ht : tagOk t = true) : CmdV ⟨op, eB, [], [], [], 0, 0, t, eB, eB⟩
 | pre (p : ByteArray) (hp : preOk p = true) : CmdV ⟨10, eB, [], [], [], 0, 0, eB, p, eB⟩
 | dep (op : Int) (k ch : ByteArray) (ho : op = 11 ∨ op = 12) (hk : keyOk k = true) (hc : keyOk ch = true) : CmdV ⟨op, k, [], [], [], 0, 0, eB, eB, ch⟩
 | none (op : Int) (ho : op = 14 ∨ op = 15) : CmdV ⟨op, eB, [], [], [], 0, 0, eB, eB, eB⟩

/-- a slice of bytes in a value; if there are some, in none of some blocks -/
def SlY (w : World) (N : List Nat) (v : Value) (xs : List Int) : Prop := ∃ A c, v = .slice A xs.length c /\ Byt w w.heap.size A c xs /\ ∀ b off, A = some ⟨b, off, none⟩ -> xs ≠ [] -> b ∉ N
theorem SlY.kept {w w' : World} {N L : List Nat} {v : Value} {xs : List Int} (h : SlY w N v xs) (hk : Kept L w w') (hL : ∀ k ∈ L, k ∈ N) : SlY w' N v xs := by
 obtain ⟨A, c, h1, h2, h3⟩ := h
 refine ⟨A, c, h1, ⟨h2.1, h2.2.1, fun i hi => ?_⟩, h3⟩
 obtain ⟨b, off, e, hlt, hc⟩ := h2.2.2 i hi
 exact ⟨b, off, e, Nat.lt_of_lt_of_le hlt hk.size, fun x hx => hk.cell (fun hm => h3 b off e (by intro h; rw [h] at hi; simp at hi) (hL _ hm)) (hc x hx)⟩

section
variable {w : World} {X C : Nat} {f : Nat -> Value} {out : List Int}
end
end Go.Proofs.YtnjhpgmbfblgaaaGreat.Ord
