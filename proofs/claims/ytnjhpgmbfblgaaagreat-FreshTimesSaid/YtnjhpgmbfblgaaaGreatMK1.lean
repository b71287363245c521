/- The codec that reads: its numbers, lifetimes and values; The codec that reads: its value. -/
import Derived.Test.YtnjhpgmbfblgaaaGreatMD1
import Derived.Test.YtnjhpgmbfblgaaaGreatMH3
import Derived.Test.YtnjhpgmbfblgaaaGreatE2
set_option linter.unusedVariables false
set_option linter.unusedSimpArgs false
namespace Go.Proofs.YtnjhpgmbfblgaaaGreat.Ord
set_option maxRecDepth 100000
set_option maxHeartbeats 16000000
open Go.RowKit
theorem dN_ (X G R k : Nat) (NL : List Nat) (hNL : ∀ k ∈ [X, G, R], k ∈ NL) (t : TypeId) (n : Nat) (f : Nat -> Value) (m : Nat) (u0 : Int) (c outv v : Value) (rest : List Int) (bad : Bool) (w : World)
  (hG : w.rowIs G t n f) (hk : k < n) (hf : f k = .int .u64 u0) (hXG : X ≠ G) (hXR : X ≠ R) (hGR : G ≠ R) (hX : w.rowIs X 339 4 (codF c (.pointer (some ⟨R, 0, none⟩)) outv bad))
  (hR : w.rowIs R 440 2 (rdF v)) (hv : SlX w NL v (putV m ++ rest)) (hget : jZ_ m) (hl : (putV m ++ rest).length <= 1000000) :
  Calls Tryz.prog 311 #[.pointer (some ⟨X, 0, none⟩), .pointer (some ⟨G, k, none⟩)] w fun e w' =>
   e = .returned (.tuple #[]) /\ ∃ v', w'.rowIs X 339 4 (codF c (.pointer (some ⟨R, 0, none⟩)) outv bad) /\ w'.rowIs G t n (updF f k (.int .u64 m)) /\ w'.rowIs R 440 2 (rdF v') /\ SlX w' NL v' rest /\ Kept [X, G, R] w w' := by
 have hc1 : w.cell? ⟨X, 1, none⟩ = some (.pointer (some ⟨R, 0, none⟩)) := World.rowIs.cell hX (i := 1) (by decide)
 obtain ⟨HB, HX, HG⟩ := kq3 (cv_ NL R m (hNL R (by simp)) v rest w hget hl hR hv) hX hG
 clear hX hG hget hR hv
 go_enter Tryz.func311, Tryz.ntmps311
 go_wp2_with fail
 refine HB.o.mono ?_
 rintro e w1 ⟨v', rfl, hR1, hv1, hk1⟩
 have hX1 := hk1.row (G := X) (by simp [hXR]) HX.o
 have hG1 := hk1.row (G := G) (by simp [hGR]) HG.o
 have h13 : w1.cell? ⟨X, 3, none⟩ = some (.bool bad) := World.rowIs.cell hX1 (i := 3) (by decide)
 have hf13 : w1.frozen? ⟨X, 3, none⟩ = false := World.rowIs.frozen hX1 3
 have h1g : w1.cell? ⟨G, k, none⟩ = some (.int .u64 u0) := by rw [<- hf]; exact World.rowIs.cell hG1 hk
 have hf1g : w1.frozen? ⟨G, k, none⟩ = false := World.rowIs.frozen hG1 k
 obtain ⟨w2, hw2, hX2, hG2, hR2, hv2, hk2⟩ := gJ_ hNL (k := k) (u := .int .u64 m) hXG hX1 hG1 hk1 hXR hGR hR1 hv1
 cases bad with
 | true =>
  go_wp2_with fail
  go_end0
  rw [<- hw2]
  exact ⟨rfl, v', hX2, hG2, hR2, hv2, hk2⟩
 | false =>
  go_wp2_with fail
  go_end0
  rw [<- hw2]
  exact ⟨rfl, v', hX2, hG2, hR2, hv2, hk2⟩
theorem kh_ {w : World} {NL : List Nat} {X C R : Nat} {f : Nat -> Value} {rest : List Int} {bad : Bool} (k m : Nat) (u0 : Int) (h : RS w NL X C R f (putV m ++ rest) bad) (hk : k < 10) (hf : f k = .int .u64 u0) (hm : m < 18446744073709551616) (hrl : rest.length <= 500000) :
  Calls Tryz.prog 311 #[.pointer (some ⟨X, 0, none⟩), .pointer (some ⟨C, k, none⟩)] w fun e w' =>
   e = .returned (.tuple #[]) /\ RS w' NL X C R (updF f k (.int .u64 m)) rest bad /\ Kept [X, C, R] w w' := by
 obtain ⟨h1, h2, h3, h4, h5, h0, v, h6, h7⟩ := h
 have hl := ad_ hm
 exact (dN_ X C R k NL h0 36 10 f m u0 _ _ v rest bad w h4 hk hf h1 h2 h3 h5 h6 h7 (cj_ hm) (by simp only [lA]; omega)).mono fun e w' ⟨e1, v', e2, e3, e4, e5, e6⟩ => ⟨e1, ⟨h1, h2, h3, e3, e2, h0, v', e4, e5⟩, e6⟩
theorem cp_ {w : World} {NL : List Nat} {X C R G k n : Nat} {t : TypeId} {f g : Nat -> Value} {rest : List Int} {bad : Bool} (m : Nat) (u0 : Int) (h : RS w NL X C R f (putV m ++ rest) bad) (hG : w.rowIs G t n g) (hGX : X ≠ G) (hGR : G ≠ R) (hGC : C ≠ G) (hGN : G ∈ NL) (hk : k < n) (hg : g k = .int .u64 u0) (hm : m < 18446744073709551616) (hrl : rest.length <= 500000) :
  Calls Tryz.prog 311 #[.pointer (some ⟨X, 0, none⟩), .pointer (some ⟨G, k, none⟩)] w fun e w' =>
   e = .returned (.tuple #[]) /\ RS w' NL X C R f rest bad /\ w'.rowIs G t n (updF g k (.int .u64 m)) /\ Kept [X, G, R] w w' := by
 obtain ⟨h1, h2, h3, h4, h5, h0, v, h6, h7⟩ := h
 have hl := ad_ hm
 have hNL : ∀ k ∈ [X, G, R], k ∈ NL := fun k hk => by
  simp only [List.mem_cons, List.not_mem_nil, or_false] at hk
  rcases hk with rfl | rfl | rfl
  ·exact h0 _ (by simp)
  ·exact hGN
  exact h0 _ (by simp)
 exact (dN_ X G R k NL hNL t n g m u0 _ _ v rest bad w hG hk hg hGX h2 hGR h5 h6 h7 (cj_ hm) (by simp only [lA]; omega)).mono fun e w' ⟨e1, v', e2, e3, e4, e5, e6⟩ => ⟨e1, ⟨h1, h2, h3, e6.row (by simp; exact ⟨fun e => h1 e.symm, hGC, h3⟩) h4, e2, h0, v', e4, e5⟩, e3, e6⟩
theorem RS.store {w : World} {N : List Nat} {X C R : Nat} {f : Nat -> Value} {rest : List Int} {bad : Bool} (h : RS w N X C R f rest bad) (k : Nat) (u : Value) : RS (w.setCell ⟨C, k, none⟩ u) N X C R (updF f k u) rest bad /\ Kept [C] w (w.setCell ⟨C, k, none⟩ u) := by
 have hk : Kept [C] w (w.setCell ⟨C, k, none⟩ u) := (Kept.refl _ _).setCell (by simp) _
 obtain ⟨h1, h2, h3, h4, h5, h0, v, h6, h7⟩ := h
 exact ⟨⟨h1, h2, h3, World.rowIs.set h4 k u, hk.row (by simp; exact h1) h5, h0, v, hk.row (by simp; exact fun e => h3 e.symm) h6, h7.kept hk fun k hk => by simp at hk; exact h0 k (by simp [hk])⟩, hk⟩
theorem RS.setbad {w : World} {N : List Nat} {X C R : Nat} {f : Nat -> Value} {rest : List Int} {bad : Bool} (h : RS w N X C R f rest bad) (b : Bool) : RS (w.setCell ⟨X, 3, none⟩ (.bool b)) N X C R f rest b /\ Kept [X] w (w.setCell ⟨X, 3, none⟩ (.bool b)) := by
 have hk : Kept [X] w (w.setCell ⟨X, 3, none⟩ (.bool b)) := (Kept.refl _ _).setCell (by simp) _
 obtain ⟨h1, h2, h3, h4, h5, h0, v, h6, h7⟩ := h
 refine ⟨⟨h1, h2, h3, hk.row (by simp; exact fun e => h1 e.symm) h4, World.rowIs.congr (World.rowIs.set h5 3 _) fun i hi => ?_, h0, v, hk.row (by simp; exact fun e => h2 e.symm) h6, h7.kept hk fun k hk => by simp at hk; exact h0 k (by simp [hk])⟩, hk⟩
 match i, hi with
 | 0, _ => rfl
 | 1, _ => rfl
 | 2, _ => rfl
 | 3, _ => rfl
theorem RS.drew {w : World} {N : List Nat} {X C R : Nat} {f : Nat -> Value} {rest : List Int} {bad : Bool} (h : RS w N X C R f rest bad) : RS w.drew N X C R f rest bad := h
theorem rs_life {w : World} {NL : List Nat} {X C R : Nat} {f : Nat -> Value} {rest : List Int} {bad : Bool} (m : Nat) (u0 : Int) (h : RS w NL X C R f (putV m ++ rest) bad) (hf : f 5 = .int .u64 u0) (hu : 0 <= u0 /\ u0 < 18446744073709551616) (hm : m < 18446744073709551616) (hrl : rest.length <= 500000) :
  Calls Tryz.prog 310 #[.pointer (some ⟨X, 0, none⟩)] w fun e w' =>
   e = .returned (.tuple #[]) /\ RS w' NL X C R (updF f 5 (.int .u64 m)) rest (bad || (m == 0)) /\ Kept [X, C, R] w w' := by
 obtain ⟨hXl, hCl, hRl⟩ := h.lt
 have h1 := h.1
 have c0 : w.cell? ⟨X, 0, none⟩ = some (.pointer (some ⟨C, 0, none⟩)) := World.rowIs.cell h.2.2.2.2.1 (i := 0) (by decide)
 have c5 : w.cell? ⟨C, 5, none⟩ = some (.int .u64 u0) := by rw [<- hf]; exact World.rowIs.cell h.2.2.2.1 (i := 5) (by decide)
 have hb1 := below1 w (.cells #[.int .u64 u0] 33)
 have hT : (w.alloc (.cells #[.int .u64 u0] 33)).rowIs w.heap.size 33 1 (au_ [.int .u64 u0]) := ar_ w [.int .u64 u0] 33
 have hp := bs_ (m := m)
 have hN := cp_ (k := 0) m u0 ((h.below hb1).more w (lR _) h (by rw [lA]; omega) hb1) hT (by omega) (by omega) (by omega) List.mem_cons_self (by decide) rfl hm hrl
 obtain ⟨HN, Ag, Ad⟩ := kq3 hN hb1 (h.2.2.2.2.2.1)
 clear hN hT hb1 h
 go_enter Tryz.func310, Tryz.ntmps310
 go_wp2_with fail
 refine HN.o.mono ?_
 rintro e w2 ⟨rfl, hR2, hT2, hk2⟩
 have c20 : w2.cell? ⟨X, 0, none⟩ = some (.pointer (some ⟨C, 0, none⟩)) := World.rowIs.cell hR2.2.2.2.2.1 (i := 0) (by decide)
 have c25 : w2.cell? ⟨C, 5, none⟩ = some (.int .u64 u0) := by rw [<- hf]; exact World.rowIs.cell hR2.2.2.2.1 (i := 5) (by decide)
 have f25 : w2.frozen? ⟨C, 5, none⟩ = false := World.rowIs.frozen hR2.2.2.2.1 5
 have t20 : w2.cell? ⟨w.heap.size, 0, none⟩ = some (.int .u64 m) := World.rowIs.cell hT2 (i := 0) (by decide)
 obtain ⟨Ac, Ab, Af⟩ := kq3 hR2 hT2 hk2
 clear hR2 hT2 hk2
 go_wp2_with fail
 go_region_law (fail)
 all_goals
  obtain ⟨hR3, hk3⟩ := Ac.o.store 5 (.int .u64 m)
  have hT3 := hk3.row (by simp; omega) Ab.o
  have Aa := kp hR3.drew
  have hk4 : Kept [X, C, R, w.heap.size] w (w2.setCell ⟨C, 5, none⟩ (.int .u64 m)).drew := (((Kept.of_below Ag.o).trans (Af.o.mono (by simp))).trans (hk3.mono (by simp))).drew
  have hT4 : (w2.setCell ⟨C, 5, none⟩ (.int .u64 m)).drew.rowIs w.heap.size 33 1 (updF (au_ [.int .u64 u0]) 0 (.int .u64 m)) := World.rowIs.drew hT3
  generalize (w2.setCell ⟨C, 5, none⟩ (.int .u64 m)).drew = W3 at *
  have x33 : W3.cell? ⟨X, 3, none⟩ = some (.bool bad) := World.rowIs.cell Aa.o.2.2.2.2.1 (i := 3) (by decide)
  have fx33 : W3.frozen? ⟨X, 3, none⟩ = false := World.rowIs.frozen Aa.o.2.2.2.2.1 3
  have t30 : W3.cell? ⟨w.heap.size, 0, none⟩ = some (.int .u64 m) := World.rowIs.cell hT4 (i := 0) (by decide)
  have Ae := kp hk4
  clear hR3 hk3 hT3 hk4 hT4 c20 c25 f25 t20
  have hend : ∀ b, RS (W3.setCell ⟨X, 3, none⟩ (.bool b)) NL X C R (updF f 5 (.int .u64 m)) rest b /\ Kept [X, C, R] w (W3.setCell ⟨X, 3, none⟩ (.bool b)) := fun b => by
   obtain ⟨h1, h2⟩ := Aa.o.setbad b
   refine ⟨h1.less (fun k hk => mM _ hk) Ad.o, ?_⟩
   have h3 := Ae.o.trans (h2.mono (L' := [X, C, R, w.heap.size]) (by simp))
   exact ⟨h3.os, h3.tape, h3.output, h3.size, fun k hk hn => h3.block k hk (by simp at hn ⊢; exact ⟨hn.1, hn.2.1, hn.2.2, by omega⟩)⟩
  cases bad with
  | true =>
   go_wp2_with fail
   go_end0
   exact ⟨rfl, (hend true).1, (hend true).2⟩
  | false =>
   cases hm0 : ((m : Int) == 0)
   ·go_wp2_with fail
    go_end0
    have e : (m == 0) = false := by simp at hm0 ⊢; omega
    exact ⟨rfl, by rw [e]; exact (hend false).1, (hend false).2⟩
   go_wp2_with fail
   go_end0
   have e : (m == 0) = true := by simp at hm0 ⊢; omega
   exact ⟨rfl, by rw [e]; exact (hend true).1, (hend true).2⟩
theorem Kept.cut3 {X C R : Nat} {w w' : World} (h3 : Kept [X, C, R, w.heap.size] w w') : Kept [X, C, R] w w' := ⟨h3.os, h3.tape, h3.output, h3.size, fun k hk hn => h3.block k hk (by simp at hn ⊢; exact ⟨hn.1, hn.2.1, hn.2.2, by omega⟩)⟩
theorem rs_value {w : World} {NL : List Nat} {X C R : Nat} {f : Nat -> Value} {rest : List Int} {bad : Bool} (s : ByteArray) (h : RS w NL X C R f (putV s.size ++ (aF_ s ++ rest)) bad) (hf : f 3 = .slice none 0 0) (hs : s.size <= 65536) (hrl : rest.length <= 500000) :
  Calls Tryz.prog 308 #[.pointer (some ⟨X, 0, none⟩)] w fun e w' =>
   e = .returned (.tuple #[]) /\ ∃ vv, RS w' NL X C R (updF f 3 vv) rest bad /\ SlX w' [X, C, R] vv (aF_ s) /\ Kept [X, C, R] w w' := by
 obtain ⟨hXl, hCl, hRl⟩ := h.lt
 have h1 := h.1
 have c0 : w.cell? ⟨X, 0, none⟩ = some (.pointer (some ⟨C, 0, none⟩)) := World.rowIs.cell h.2.2.2.2.1 (i := 0) (by decide)
 have c3 : w.cell? ⟨C, 3, none⟩ = some (.slice none 0 0) := by rw [<- hf]; exact World.rowIs.cell h.2.2.2.1 (i := 3) (by decide)
 have hcv : (convert 26 9 (.slice none 0 0)).run Tryz.prog w = .ok (.string ⟨#[]⟩) w := (Byt.nil w 0).convert rfl
 have hb1 := below1 w (.cells #[.string ⟨#[]⟩] 9)
 have hT : (w.alloc (.cells #[.string ⟨#[]⟩] 9)).rowIs w.heap.size 9 1 (au_ [.string ⟨#[]⟩]) := ar_ w [.string ⟨#[]⟩] 9
 have hp := bs_ (m := s.size)
 have hN := ft_ (k := 0) s ⟨#[]⟩ 369 ((h.below hb1).more w (lR _) h (by rw [lA]; omega) hb1) hT (by omega) (by omega) (by omega) List.mem_cons_self (by decide) rfl iW_ (fun w => iy_ s (by omega) w) hs hrl
 obtain ⟨HN, Ad, Ac⟩ := kq3 hN hb1 (h.2.2.2.2.2.1)
 have hsl := aG_ s
 clear hN hT hb1 h
 go_enter Tryz.func308, Tryz.ntmps308
 go_wp2_with fail
 refine HN.o.mono ?_
 rintro e w2 ⟨rfl, hR2, hT2, hk2⟩
 have hR2 := (hR2.bad rfl (show (bad || !true) = bad by simp)).less (fun k hk => mM _ hk) Ac.o
 have c21 : w2.cell? ⟨X, 1, none⟩ = some (.pointer (some ⟨R, 0, none⟩)) := World.rowIs.cell hR2.2.2.2.2.1 (i := 1) (by decide)
 have c20 : w2.cell? ⟨X, 0, none⟩ = some (.pointer (some ⟨C, 0, none⟩)) := World.rowIs.cell hR2.2.2.2.2.1 (i := 0) (by decide)
 have c23 : w2.cell? ⟨C, 3, none⟩ = some (.slice none 0 0) := by rw [<- hf]; exact World.rowIs.cell hR2.2.2.2.1 (i := 3) (by decide)
 have f23 : w2.frozen? ⟨C, 3, none⟩ = false := World.rowIs.frozen hR2.2.2.2.1 3
 have t20 : w2.cell? ⟨w.heap.size, 0, none⟩ = some (.string s) := World.rowIs.cell hT2 (i := 0) (by decide)
 have hkw : Kept [X, C, R, w.heap.size] w w2 := (Kept.of_below Ad.o).trans (hk2.mono (by simp))
 obtain ⟨Aa, Ab⟩ := kq2 hR2 hkw
 clear hR2 hT2 hk2 hkw
 by_cases h0 : s.size = 0
 ·have hg : decide ((0 : Int) < (s.size : Int)) = false := by rw [h0]; rfl
  go_wp2_with fail
  go_end0
  have hse : aF_ s = [] := eN (by omega)
  refine ⟨rfl, .slice none 0 0, Aa.o.row fun i hi => ?_, ⟨none, 0, by rw [hse]; rfl, by rw [hse]; exact Byt.nil _ _, by simp⟩, Ab.o.cut3⟩
  by_cases e : i = 3
  ·subst e; simp [updF, hf]
  simp [updF, e]
 have hg : decide ((0 : Int) < (s.size : Int)) = true := by simp; omega
 go_wp2_with fail
 obtain ⟨c2, W5, hconv, hby5, hb5⟩ := dp_ w2.drew s
 have hb25 : Bw w2 W5 := ⟨hb5.os, hb5.tape, hb5.output, hb5.size, hb5.block⟩
 have hR5 := Aa.o.below hb25
 have c50 : W5.cell? ⟨X, 0, none⟩ = some (.pointer (some ⟨C, 0, none⟩)) := World.rowIs.cell hR5.2.2.2.2.1 (i := 0) (by decide)
 have c53 : W5.cell? ⟨C, 3, none⟩ = some (.slice none 0 0) := by rw [<- hf]; exact World.rowIs.cell hR5.2.2.2.1 (i := 3) (by decide)
 have f53 : W5.frozen? ⟨C, 3, none⟩ = false := World.rowIs.frozen hR5.2.2.2.1 3
 obtain ⟨hR5, hby5⟩ := kq2 hR5 hby5
 go_region_law (fail)
 all_goals
  go_end0
  obtain ⟨hR6, hk6⟩ := hR5.o.store 3 (.slice (some ⟨w2.heap.size, 0, none⟩) s.size c2)
  have hs2 := Aa.o.lt
  refine ⟨rfl, .slice (some ⟨w2.heap.size, 0, none⟩) s.size c2, hR6, ⟨some ⟨w2.heap.size, 0, none⟩, c2, by rw [hsl], hk6.byt hby5.o fun x off hA hm => ?_, fun b off hA hm => ?_⟩, ((Ab.o.trans (Kept.of_below hb25)).trans (hk6.mono (by simp))).cut3⟩
  ·cases hA
   simp at hm
   omega
  cases hA
  simp at hm
  omega
def SlN (w : World) (N : List Nat) (v : Value) (xs : List ByteArray) : Prop := ∃ A c, v = .slice A xs.length c /\ ElV Value.string w w.heap.size A xs /\ ∀ b off, A = some ⟨b, off, none⟩ -> xs ≠ [] -> b ∉ N
theorem SlN.nil (w : World) (N : List Nat) : SlN w N (.slice none 0 0) [] := ⟨none, 0, rfl, (fun i x h => by simp at h), by simp⟩
theorem SlN.kept {w w' : World} {N L : List Nat} {v : Value} {xs : List ByteArray} (h : SlN w N v xs) (hk : Kept L w w') (hL : ∀ k ∈ L, k ∈ N) : SlN w' N v xs := by
 obtain ⟨A, c, h1, h2, h3⟩ := h
 refine ⟨A, c, h1, fun i x hx => ?_, h3⟩
 obtain ⟨b, off, e, hlt, hc⟩ := h2 i x hx
 exact ⟨b, off, e, lL hlt hk.size, hk.cell (fun hm => h3 b off e (List.ne_nil_of_mem (mI.2 ⟨i, hx⟩)) (hL _ hm)) hc⟩
def strF (strs : List ByteArray) (i : Nat) : Nat -> Value := fun j => .string (if j < i then strs.getD j ⟨#[]⟩ else ⟨#[]⟩)
theorem strF_upd {strs : List ByteArray} {i : Nat} {s : ByteArray} (hs : strs[i]? = some s) (j : Nat) : updF (strF strs i) i (.string s) j = strF strs (i + 1) j := by
 unfold updF strF
 by_cases e : j = i
 ·subst e
  rw [if_pos rfl, if_pos (by omega)]
  simp [List.getD, hs]
 rw [if_neg e]
 by_cases h : j < i
 ·rw [if_pos h, if_pos (by omega)]
 rw [if_neg h, if_neg (by omega)]
theorem strF_all {w : World} {strs : List ByteArray} {G n : Nat} (hn : strs.length = n) (h : w.rowIs G 9 n (strF strs n)) : ElV Value.string w w.heap.size (some ⟨G, 0, none⟩) strs := fun i x hx => by
 have hi : i < n := by have := (gS.1 hx).1; omega
 refine ⟨G, 0, rfl, World.rowIs.lt h, ?_⟩
 rw [Nat.zero_add, World.rowIs.cell h hi]
 simp [strF, hi, List.getD, hx]
theorem kQ_ {w w2 : World} {NL : List Nat} {X C R : Nat} {f : Nat -> Value} {rest : List Int} {bad : Bool} {k n : Nat} {strs : List ByteArray} (hk : Kept [X, C, R] w w2) (h : RS w2 NL X C R f (aI_ strs ++ rest) bad) (hn : strs.length = n) (h0 : 0 < n) :
  ∃ W, W = (w2.alloc (.cells (madeCells #[.string ⟨#[]⟩] n) 9)).setCell ⟨C, k, none⟩ (.slice (some ⟨w2.heap.size, 0, none⟩) n n) /\ RS W (w2.heap.size :: NL) X C R (updF f k (.slice (some ⟨w2.heap.size, 0, none⟩) n n)) (aI_ strs ++ rest) bad /\ W.rowIs w2.heap.size 9 n (strF strs 0) /\ Kept [X, C, R] w W := by
 have hb := below1 w2 (.cells (madeCells #[.string ⟨#[]⟩] n) 9)
 have hG := World.rowIs_made w2 (.string ⟨#[]⟩) n 9
 obtain ⟨l1, l2, l3⟩ := h.lt
 have hr : 0 < (aI_ strs ++ rest).length := by
  cases strs with
  | nil => simp at hn; omega
  | cons a l =>
   have := bs_ (m := a.size)
   simp only [aI_, lA]
   omega
 have hS := (h.below hb).more w2 (lR _) h hr hb
 obtain ⟨h1, h2⟩ := hS.store k (.slice (some ⟨w2.heap.size, 0, none⟩) n n)
 exact ⟨_, rfl, h1, World.rowIs.congr (h2.row (by simp; omega) hG) (fun i hi => by simp [strF]), (hk.trans (Kept.of_below hb)).trans (h2.mono (by simp))⟩
theorem ki_ {w : World} {NL : List Nat} {X C R : Nat} {f : Nat -> Value} {rest : List Int} {bad : Bool} (k n least most N : Nat) (strs : List ByteArray) (alw : ByteArray -> Bool) (h : RS w NL X C R f (putV n ++ (aI_ strs ++ rest)) bad) (hk : k < 10) (hf : f k = .slice none 0 0) (hn : strs.length = n)
  (eg : ∀ args w, (callFunc N args).run Tryz.prog w = .ok (.enter N args) w) (hN : ∀ s ∈ strs, ∀ w, Calls Tryz.prog N #[.string s] w fun e w' => e = .returned (.bool (alw s)) /\ Bw w w') (hs : ∀ s ∈ strs, s.size <= 3000) (h1 : least <= n) (h2 : n <= most) (h3 : most <= 32) (hrl : rest.length <= 200000) :
  Calls Tryz.prog 309 #[.pointer (some ⟨X, 0, none⟩), .pointer (some ⟨C, k, none⟩), .int .i64 least, .int .i64 most, .func (.func N) #[] #[]] w fun e w' =>
   e = .returned (.tuple #[]) /\ ∃ vt, RS w' NL X C R (updF f k vt) rest (bad || !(strs.all alw)) /\ SlN w' [X, C, R] vt strs /\ Kept [X, C, R] w w' := by
 obtain ⟨hXl, hCl, hRl⟩ := h.lt
 have ck : w.cell? ⟨C, k, none⟩ = some (.slice none 0 0) := by rw [<- hf]; exact World.rowIs.cell h.2.2.2.1 hk
 have hb1 := below1 w (.cells #[.int .u64 0] 33)
 have hT : (w.alloc (.cells #[.int .u64 0] 33)).rowIs w.heap.size 33 1 (au_ [.int .u64 0]) := ar_ w [.int .u64 0] 33
 have hp := bs_ (m := n)
 have hsl := b2_ hs
 have hNW := cp_ (k := 0) n 0 ((h.below hb1).more w (lR _) h (by rw [lA]; omega) hb1) hT (by omega) (by omega) (by omega) List.mem_cons_self (by decide) rfl (by omega) (by rw [lA]; omega)
 obtain ⟨Ak, Ao, Ae, HN, HS, HL, An, Ap⟩ := kq8 hNW hb1 h.2.2.2.2.2.1 hN hs hn eg (show X ≠ C /\ X ≠ R /\ C ≠ R from ⟨h.1, h.2.1, h.2.2.1⟩)
 have g1 : ¬ n < least := by omega
 have g2 : ¬ most < n := by omega
 obtain ⟨H1, H2, H3⟩ := kq3 h1 h2 h3
 have hn100 : n <= 32 := lT h2 h3
 have hl100 : least <= 32 := lT h1 hn100
 have hm100 : most <= 32 := h3
 clear hNW hT hb1 hN hs hn eg h1 h2 h3 h
 go_enter Tryz.func309, Tryz.ntmps309
 go_wp2_with fail
 refine Ak.o.mono ?_
 rintro e w2 ⟨rfl, hR2, hT2, hk2⟩
 have hR2 := hR2.less (fun k hk => mM _ hk) Ae.o
 have t20 : w2.cell? ⟨w.heap.size, 0, none⟩ = some (.int .u64 n) := World.rowIs.cell hT2 (i := 0) (by decide)
 have c21 : w2.cell? ⟨X, 1, none⟩ = some (.pointer (some ⟨R, 0, none⟩)) := World.rowIs.cell hR2.2.2.2.2.1 (i := 1) (by decide)
 have hkw : Kept [X, C, R] w w2 := ((Kept.of_below Ao.o).trans (hk2.mono (by simp))).cut3
 have c2k : w2.cell? ⟨C, k, none⟩ = some (.slice none 0 0) := by rw [<- hf]; exact World.rowIs.cell hR2.2.2.2.1 hk
 have f2k : w2.frozen? ⟨C, k, none⟩ = false := World.rowIs.frozen hR2.2.2.2.1 k
 obtain ⟨Aa, Ab⟩ := kq2 hR2 hkw
 clear hT2 hk2 hR2 hkw
 by_cases hn0 : n = 0
 ·subst hn0
  have hse : strs = [] := eN HL.o
  subst hse
  go_wp2_with fail
  clear c2k t20 c21 g1 g2
  go_loopw [49] (fun j wr => j = .int .i64 0 /\ wr = w2) (fun j _ => 0)
  case atStart => exact ⟨rfl, rfl⟩
  obtain ⟨rfl, rfl⟩ := hrel
  go_wp2_with fail
  go_end0
  refine ⟨rfl, .slice none 0 0, (Aa.o.bad rfl (by simp)).row fun i hi => ?_, SlN.nil _ _, Ab.o⟩
  by_cases e : i = k
  ·subst e; simp [updF, hf]
  simp [updF, e]
 have g3 : 0 < n := by omega
 have hmk : (Instr.makeSlice 32 (.int .u64 (n : Int)) (.int .u64 (n : Int))).run Tryz.prog w2 = .ok (.slice (some ⟨w2.heap.size, 0, none⟩) n n) (w2.alloc (.cells (madeCells #[.string ⟨#[]⟩] n) 9)) := run_make_row' 32 9 (.string ⟨#[]⟩) 16 Tryz.underlying32 Tryz.info9 rfl .u64 .u64 n (by omega) (by omega) w2
 obtain ⟨W3, hW3, hR3, hG3, hK3⟩ := kQ_ (k := k) Ab.o Aa.o HL.o (by omega)
 have c3k : W3.cell? ⟨C, k, none⟩ = some (.slice (some ⟨w2.heap.size, 0, none⟩) n n) := by
  have := World.rowIs.cell hR3.2.2.2.1 hk
  simpa [updF] using this
 rw [hW3] at c3k
 have hb2 := below1 w2 (.cells (madeCells #[.string ⟨#[]⟩] n) 9)
 have hRA := Aa.o.below hb2
 have f2a : (w2.alloc (.cells (madeCells #[.string ⟨#[]⟩] n) 9)).frozen? ⟨C, k, none⟩ = false := World.rowIs.frozen hRA.2.2.2.1 k
 have c2a : (w2.alloc (.cells (madeCells #[.string ⟨#[]⟩] n) 9)).cell? ⟨C, k, none⟩ = some (.slice none 0 0) := by rw [<- hf]; exact World.rowIs.cell hRA.2.2.2.1 hk
 obtain ⟨Aj, Ad, Ac⟩ := kq3 hR3 hG3 hK3
 clear hR3 hG3 hK3 hRA
 go_wp2_with fail
 rw [<- hW3]
 clear hW3 c3k f2a c2a c2k t20 c21 g1 g2 g3 f2k hmk
 go_loopw [49] (fun j wr => ∃ i : Nat, i <= n /\ j = .int .i64 i /\ RS wr (w2.heap.size :: NL) X C R (updF f k (.slice (some ⟨w2.heap.size, 0, none⟩) n n)) (aI_ (strs.drop i) ++ rest) (bad || !((strs.take i).all alw)) /\ wr.rowIs w2.heap.size 9 n (strF strs i) /\ Kept [X, C, R] w wr) (fun j _ => n - (intOf j).toNat)
 case atStart => exact ⟨0, Nat.zero_le _, rfl, Aj.o.bad (by simp) (by simp), Ad.o, Ac.o⟩
 obtain ⟨i, hi, rfl, hW, hGi, hK⟩ := hrel
 have ckr : wr.cell? ⟨C, k, none⟩ = some (.slice (some ⟨w2.heap.size, 0, none⟩) n n) := by
  have := World.rowIs.cell hW.2.2.2.1 hk
  simpa [updF] using this
 by_cases hlt : i < n
 ·have hg : decide ((i : Int) < (n : Int)) = true := by simp; omega
  obtain ⟨s, hs⟩ : ∃ s, strs[i]? = some s := ⟨strs[i]'(by rw [HL.o]; exact hlt), gE _⟩
  have hmem : s ∈ strs := mI.2 ⟨i, hs⟩
  have htk : strs.take (i + 1) = strs.take i ++ [s] := by rw [tA, hs]; rfl
  have hdr : strs.drop i = s :: strs.drop (i + 1) := by
   rw [List.drop_eq_getElem_cons (by rw [HL.o]; exact hlt)]
   congr 1
   exact (gS.1 hs).2
  have hlen : (aI_ (strs.drop (i + 1))).length <= 110000 := by
   have h4 := b2_ (l := strs.drop (i + 1)) fun s hs => HS.o s (List.mem_of_mem_drop hs)
   have h6 : (strs.drop (i + 1)).length <= n := by rw [List.length_drop, HL.o]; omega
   omega
  have hsz := HS.o s hmem
  have hP := ft_ (k := i) (n := n) (t := 9) (rest := aI_ (strs.drop (i + 1)) ++ rest) s ⟨#[]⟩ N (hW.bad (by rw [hdr]; simp only [aI_, aA]) rfl) hGi (by have := Aa.o.lt; omega) (by have := Aa.o.lt; omega) (by have := Aa.o.lt; omega) List.mem_cons_self hlt (by simp [strF]) An.o (HN.o s hmem) (by omega) (by rw [lA]; omega)
  obtain ⟨HP, Ag, HK, Ah⟩ := kq4 hP htk hK hs
  clear hP hW hGi hs hmem htk hdr hlen hK
  go_wp2_with fail
  refine HP.o.mono ?_
  rintro e w5 ⟨rfl, hR5, hG5, hk5⟩
  obtain ⟨Ai, Am⟩ := kq2 (hR5.bad (bad' := bad || !((strs.take (i + 1)).all alw)) rfl (by rw [Ag.o, List.all_append]; cases bad <;> cases (strs.take i).all alw <;> cases h : alw s <;> simp [h])) (World.rowIs.congr hG5 fun j _ => strF_upd Ah.o j)
  have Al : Hid (Kept [X, C, R] w w5) := kp (by
   have h3 := (HK.o.mono (L' := [X, C, R, w2.heap.size]) (by simp)).trans (hk5.mono (by simp))
   have h4 := Ab.o.size
   exact ⟨h3.os, h3.tape, h3.output, h3.size, fun q hq hn => h3.block q hq (by simp at hn ⊢; exact ⟨hn.1, hn.2.1, hn.2.2, by omega⟩)⟩)
  clear hR5 hG5 hk5
  go_wp2_with fail
  go_roundw
  case rel => exact ⟨i + 1, by omega, by go_num, Ai.o, Am.o, Al.o⟩
  simp [intOf]; omega
 obtain rfl : i = n := by omega
 have hg : decide ((i : Int) < (i : Int)) = false := by simp
 obtain ⟨Af, Ad, Ac⟩ := kq3 hW hGi hK
 clear hW hK hGi
 go_wp2_with fail
 go_end0
 have h2s := Aa.o.lt
 refine ⟨rfl, _, (Af.o.less (fun k hk => mM _ hk) Ae.o).bad (by rw [List.drop_of_length_le (by rw [HL.o]; exact lR _)]; simp [aI_]) (by rw [tL (by rw [HL.o]; exact lR _)]), ⟨_, i, by rw [HL.o], strF_all HL.o Ad.o, fun b off e _ hm => ?_⟩, Ac.o⟩
 cases e
 simp at hm
 omega
def aB_ (s : ByteArray) : Bool := decide (0 < s.size) && decide (s.size <= 250)
def a7_ (s : ByteArray) : Bool := decide (0 < s.size) && decide (s.size <= 64)
def dX_ (s : ByteArray) : Bool := decide (s.size <= 250)
theorem iQ_ (s : ByteArray) (w : World) : Calls Tryz.prog 255 #[.string s] w fun e w' => e = .returned (.bool (aB_ s)) /\ Bw w w' := by
 unfold aB_
 cases g1 : decide (0 < s.size)
 ·have g : decide ((0 : Int) < (s.size : Int)) = false := by simp at g1 ⊢; omega
  go_enter Tryz.func255, Tryz.ntmps255
  go_wp2_with fail
  go_ret
  exact ⟨rfl, BR _ _⟩
 have g : decide ((0 : Int) < (s.size : Int)) = true := by simp at g1 ⊢; omega
 cases g2 : decide (s.size <= 250)
 ·have g' : decide ((s.size : Int) <= 250) = false := by simp at g2 ⊢; omega
  go_enter Tryz.func255, Tryz.ntmps255
  go_wp2_with fail
  go_ret
  exact ⟨rfl, BR _ _⟩
 have g' : decide ((s.size : Int) <= 250) = true := by simp at g2 ⊢; omega
 go_enter Tryz.func255, Tryz.ntmps255
 go_wp2_with fail
 go_ret
 exact ⟨rfl, BR _ _⟩
theorem gA_ (s : ByteArray) (w : World) : Calls Tryz.prog 193 #[.string s] w fun e w' => e = .returned (.bool (a7_ s)) /\ Bw w w' := by
 unfold a7_
 cases g1 : decide (0 < s.size)
 ·have g : decide ((0 : Int) < (s.size : Int)) = false := by simp at g1 ⊢; omega
  go_enter Tryz.func193, Tryz.ntmps193
  go_wp2_with fail
  go_ret
  exact ⟨rfl, BR _ _⟩
 have g : decide ((0 : Int) < (s.size : Int)) = true := by simp at g1 ⊢; omega
 cases g2 : decide (s.size <= 64)
 ·have g' : decide ((s.size : Int) <= 64) = false := by simp at g2 ⊢; omega
  go_enter Tryz.func193, Tryz.ntmps193
  go_wp2_with fail
  go_ret
  exact ⟨rfl, BR _ _⟩
 have g' : decide ((s.size : Int) <= 64) = true := by simp at g2 ⊢; omega
 go_enter Tryz.func193, Tryz.ntmps193
 go_wp2_with fail
 go_ret
 exact ⟨rfl, BR _ _⟩
theorem pre133 (s : ByteArray) (w : World) : Calls Tryz.prog 312 #[.string s] w fun e w' => e = .returned (.bool (dX_ s)) /\ Bw w w' := by
 unfold dX_
 cases g2 : decide (s.size <= 250)
 ·have g' : decide ((s.size : Int) <= 250) = false := by simp at g2 ⊢; omega
  go_enter Tryz.func312, Tryz.ntmps312
  go_wp2_with fail
  go_ret
  exact ⟨rfl, BR _ _⟩
 have g' : decide ((s.size : Int) <= 250) = true := by simp at g2 ⊢; omega
 go_enter Tryz.func312, Tryz.ntmps312
 go_wp2_with fail
 go_ret
 exact ⟨rfl, BR _ _⟩
theorem d6_ : ∀ args w, (callFunc 193 args).run Tryz.prog w = .ok (.enter 193 args) w := by
 intro args w
 simp [callFunc, Tryz.func193, Tryz.f193]
theorem iX_ : ∀ args w, (callFunc 312 args).run Tryz.prog w = .ok (.enter 312 args) w := by
 intro args w
 simp [callFunc, Tryz.func312, Tryz.f312]
def putS (s : ByteArray) : List Int := putV s.size ++ aF_ s
def hQ_ (l : List ByteArray) : List Int := putV l.length ++ aI_ l
def eB : ByteArray := ⟨#[]⟩
inductive CmdV : CmdR -> Prop
 | set (op : Int) (k : ByteArray) (val : List Int) (tags : List ByteArray) (life : Nat) (ho : op = 1 ∨ op = 2) (hk : aB_ k = true) (hv : ∀ y ∈ val, 0 <= y /\ y < 256) (hl : val.length <= 65536) (ht : ∀ s ∈ tags, a7_ s = true) (hn : tags.length <= 16) (h0 : 0 < life) (h1 : life < 18446744073709551616) : CmdV ⟨op, k, [], val, tags, life, 0, eB, eB, eB⟩
 | cas (k : ByteArray) (val : List Int) (tags : List ByteArray) (life ver : Nat) (hk : aB_ k = true) (hv : ∀ y ∈ val, 0 <= y /\ y < 256) (hl : val.length <= 65536) (ht : ∀ s ∈ tags, a7_ s = true) (hn : tags.length <= 16) (h0 : 0 < life) (h1 : life < 18446744073709551616) (h2 : ver < 18446744073709551616) : CmdV ⟨3, k, [], val, tags, life, ver, eB, eB, eB⟩
 | key (op : Int) (k : ByteArray) (ho : op = 4 ∨ op = 7 ∨ op = 13) (hk : aB_ k = true) : CmdV ⟨op, k, [], [], [], 0, 0, eB, eB, eB⟩
 | mget (keys : List ByteArray) (hk : ∀ s ∈ keys, aB_ s = true) (h1 : 1 <= keys.length) (hn : keys.length <= 16) : CmdV ⟨5, eB, keys, [], [], 0, 0, eB, eB, eB⟩
 | touch (k : ByteArray) (life : Nat) (hk : aB_ k = true) (h0 : 0 < life) (h1 : life < 18446744073709551616) : CmdV ⟨6, k, [], [], [], life, 0, eB, eB, eB⟩
 | tag (op : Int) (t : ByteArray) (ho : op = 8 ∨ op = 9) (ht : a7_ t = true) : CmdV ⟨op, eB, [], [], [], 0, 0, t, eB, eB⟩
 | pre (p : ByteArray) (hp : dX_ p = true) : CmdV ⟨10, eB, [], [], [], 0, 0, eB, p, eB⟩
 | dep (op : Int) (k ch : ByteArray) (ho : op = 11 ∨ op = 12) (hk : aB_ k = true) (hc : aB_ ch = true) : CmdV ⟨op, k, [], [], [], 0, 0, eB, eB, ch⟩
 | none (op : Int) (ho : op = 14 ∨ op = 15) : CmdV ⟨op, eB, [], [], [], 0, 0, eB, eB, eB⟩
def SlY (w : World) (N : List Nat) (v : Value) (xs : List Int) : Prop := ∃ A c, v = .slice A xs.length c /\ Byt w w.heap.size A c xs /\ ∀ b off, A = some ⟨b, off, none⟩ -> xs ≠ [] -> b ∉ N
theorem SlY.kept {w w' : World} {N L : List Nat} {v : Value} {xs : List Int} (h : SlY w N v xs) (hk : Kept L w w') (hL : ∀ k ∈ L, k ∈ N) : SlY w' N v xs := by
 obtain ⟨A, c, h1, h2, h3⟩ := h
 refine ⟨A, c, h1, ⟨h2.1, h2.2.1, fun i hi => ?_⟩, h3⟩
 obtain ⟨b, off, e, hlt, hc⟩ := h2.2.2 i hi
 exact ⟨b, off, e, lL hlt hk.size, fun x hx => hk.cell (fun hm => h3 b off e (by intro h; rw [h] at hi; simp at hi) (hL _ hm)) (hc x hx)⟩
section
variable {w : World} {X C : Nat} {f : Nat -> Value} {out : List Int}
end
theorem bu_ {s : ByteArray} (h : s.size <= 3000) : (putS s).length <= 3010 := by
 have h1 := ad_ (n := s.size) (by omega)
 have h2 := aG_ s
 simp only [putS, lA]
 omega
def inR (least n : Nat) : Bool := decide (least <= n) && decide (n <= 16)
def putG (least : Nat) (l : List ByteArray) : List Int := if inR least l.length = true then hQ_ l else putV l.length
def okG (least : Nat) (alw : ByteArray -> Bool) (l : List ByteArray) : Bool := inR least l.length && l.all alw
theorem cG_ {least : Nat} {l : List ByteArray} (h : ∀ s ∈ l, s.size <= 3000) (hn : l.length <= 100) : (putG least l).length <= 49620 := by
 have h1 := ad_ (n := l.length) (by omega)
 have h2 := b2_ h
 unfold putG
 split
 ·rename_i hr
  simp [inR] at hr
  simp only [hQ_, lA]
  omega
 omega
theorem inR_iff {least n : Nat} : inR least n = true ↔ least <= n /\ n <= 16 := by simp [inR]
theorem d1_ {least : Nat} {l : List ByteArray} (h : least <= l.length /\ l.length <= 16) : putG least l = hQ_ l := by unfold putG; rw [if_pos (inR_iff.2 h)]
theorem f9_ {least : Nat} {l : List ByteArray} (h : ¬ (least <= l.length /\ l.length <= 16)) : putG least l = putV l.length := by unfold putG; rw [if_neg (fun e => h (inR_iff.1 e))]
theorem gg_ {least : Nat} {alw : ByteArray -> Bool} {l : List ByteArray} (h : least <= l.length /\ l.length <= 16) : okG least alw l = l.all alw := by unfold okG; rw [inR_iff.2 h]; rfl
theorem iM_ {least : Nat} {alw : ByteArray -> Bool} {l : List ByteArray} (h : ¬ (least <= l.length /\ l.length <= 16)) : okG least alw l = false := by
 unfold okG
 cases e : inR least l.length
 ·rfl
 exact absurd (inR_iff.1 e) h
structure CmdS (c : CmdR) : Prop where
 nkeys : c.keys.length <= 100
 ntags : c.tags.length <= 100
 key : c.key.size <= 3000
 val : c.val.length <= 3000
 tag : c.tag.size <= 3000
 pre : c.pre.size <= 3000
 chi : c.chi.size <= 3000
 keys : ∀ x ∈ c.keys, x.size <= 3000
 tags : ∀ x ∈ c.tags, x.size <= 3000
 bytes : ∀ y ∈ c.val, 0 <= y /\ y < 256
 life : 0 <= c.life /\ c.life < 18446744073709551616
 ver : 0 <= c.ver /\ c.ver < 18446744073709551616
def payG (c : CmdR) : List Int :=
 if c.op = 1 ∨ c.op = 2 then putS c.key ++ (putV c.val.length ++ c.val) ++ putG 0 c.tags ++ putV c.life.toNat
 else if c.op = 3 then putS c.key ++ (putV c.val.length ++ c.val) ++ putG 0 c.tags ++ putV c.life.toNat ++ putV c.ver.toNat
 else if c.op = 4 ∨ c.op = 7 ∨ c.op = 13 then putS c.key
 else if c.op = 5 then putG 1 c.keys
 else if c.op = 6 then putS c.key ++ putV c.life.toNat
 else if c.op = 8 ∨ c.op = 9 then putS c.tag
 else if c.op = 10 then putS c.pre
 else if c.op = 11 ∨ c.op = 12 then putS c.key ++ putS c.chi
 else []
def okC (c : CmdR) : Bool :=
 if c.op = 1 ∨ c.op = 2 ∨ c.op = 3 then aB_ c.key && okG 0 a7_ c.tags && !(c.life == 0)
 else if c.op = 4 ∨ c.op = 7 ∨ c.op = 13 then aB_ c.key
 else if c.op = 5 then okG 1 aB_ c.keys
 else if c.op = 6 then aB_ c.key && !(c.life == 0)
 else if c.op = 8 ∨ c.op = 9 then a7_ c.tag
 else if c.op = 10 then dX_ c.pre
 else if c.op = 11 ∨ c.op = 12 then aB_ c.key && aB_ c.chi
 else true
def az_ (c : CmdR) : CmdR :=
 if c.op = 1 ∨ c.op = 2 then ⟨c.op, c.key, [], c.val, c.tags, c.life, 0, eB, eB, eB⟩
 else if c.op = 3 then ⟨c.op, c.key, [], c.val, c.tags, c.life, c.ver, eB, eB, eB⟩
 else if c.op = 4 ∨ c.op = 7 ∨ c.op = 13 then ⟨c.op, c.key, [], [], [], 0, 0, eB, eB, eB⟩
 else if c.op = 5 then ⟨c.op, eB, c.keys, [], [], 0, 0, eB, eB, eB⟩
 else if c.op = 6 then ⟨c.op, c.key, [], [], [], c.life, 0, eB, eB, eB⟩
 else if c.op = 8 ∨ c.op = 9 then ⟨c.op, eB, [], [], [], 0, 0, c.tag, eB, eB⟩
 else if c.op = 10 then ⟨c.op, eB, [], [], [], 0, 0, eB, c.pre, eB⟩
 else if c.op = 11 ∨ c.op = 12 then ⟨c.op, c.key, [], [], [], 0, 0, eB, eB, c.chi⟩
 else ⟨c.op, eB, [], [], [], 0, 0, eB, eB, eB⟩
section
variable {w : World} {X C : Nat} {f : Nat -> Value} {out : List Int} {bad : Bool}
theorem WS.setbad (h : WS w X C f out bad) (b : Bool) : WS (w.setCell ⟨X, 3, none⟩ (.bool b)) X C f out b /\ Kept [X] w (w.setCell ⟨X, 3, none⟩ (.bool b)) := by
 have hk : Kept [X] w (w.setCell ⟨X, 3, none⟩ (.bool b)) := (Kept.refl _ _).setCell (by simp) _
 obtain ⟨h1, h2, v, h3, h4⟩ := h
 refine ⟨⟨h1, hk.row (by simp; exact fun e => h1 e.symm) h2, v, World.rowIs.congr (World.rowIs.set h3 3 _) fun i hi => ?_, h4.kept hk fun k hk => by simp at hk; simp [hk]⟩, hk⟩
 match i, hi with
 | 0, _ => rfl
 | 1, _ => rfl
 | 2, _ => rfl
 | 3, _ => rfl
theorem ff_ (k : Nat) (s : ByteArray) (h : WS w X C f out bad) (hk : k < 10) (hf : f k = .string s) (hs : s.size <= 3000) (hol : out.length <= 300000) :
  Calls Tryz.prog 307 #[.pointer (some ⟨X, 0, none⟩), .pointer (some ⟨C, k, none⟩), .func (.func 255) #[] #[]] w fun e w' => e = .returned (.tuple #[]) /\ WS w' X C f (out ++ putS s) (bad || !aB_ s) /\ Kept [X, C] w w' :=
 (hv_ k s 255 h hk hf do_ (iQ_ s) (by omega) (by omega)).mono fun e w' ⟨e1, e2, e3⟩ => ⟨e1, e2.out_bad (by simp [putS, aA]) rfl, e3.mono (by simp)⟩
theorem wg_tag (k : Nat) (s : ByteArray) (h : WS w X C f out bad) (hk : k < 10) (hf : f k = .string s) (hs : s.size <= 3000) (hol : out.length <= 300000) :
  Calls Tryz.prog 307 #[.pointer (some ⟨X, 0, none⟩), .pointer (some ⟨C, k, none⟩), .func (.func 193) #[] #[]] w fun e w' => e = .returned (.tuple #[]) /\ WS w' X C f (out ++ putS s) (bad || !a7_ s) /\ Kept [X, C] w w' :=
 (hv_ k s 193 h hk hf d6_ (gA_ s) (by omega) (by omega)).mono fun e w' ⟨e1, e2, e3⟩ => ⟨e1, e2.out_bad (by simp [putS, aA]) rfl, e3.mono (by simp)⟩
theorem wg_pre (k : Nat) (s : ByteArray) (h : WS w X C f out bad) (hk : k < 10) (hf : f k = .string s) (hs : s.size <= 3000) (hol : out.length <= 300000) :
  Calls Tryz.prog 307 #[.pointer (some ⟨X, 0, none⟩), .pointer (some ⟨C, k, none⟩), .func (.func 312) #[] #[]] w fun e w' => e = .returned (.tuple #[]) /\ WS w' X C f (out ++ putS s) (bad || !dX_ s) /\ Kept [X, C] w w' :=
 (hv_ k s 312 h hk hf iX_ (pre133 s) (by omega) (by omega)).mono fun e w' ⟨e1, e2, e3⟩ => ⟨e1, e2.out_bad (by simp [putS, aA]) rfl, e3.mono (by simp)⟩
theorem wg_val (v : Value) (val : List Int) (h : WS w X C f out bad) (hf : f 3 = v) (hv : SlY w [X, C] v val) (hx : ∀ y ∈ val, 0 <= y /\ y < 256) (hl : val.length <= 65536) (hol : out.length <= 300000) :
  Calls Tryz.prog 308 #[.pointer (some ⟨X, 0, none⟩)] w fun e w' => e = .returned (.tuple #[]) /\ WS w' X C f (out ++ (putV val.length ++ val)) bad /\ Kept [X, C] w w' := by
 obtain ⟨A, c, rfl, hby, _⟩ := hv
 exact (ws_value A c val h hf hby hx hl (by omega)).mono fun e w' ⟨e1, e2, e3⟩ => ⟨e1, e2.out_bad (by simp [aA]) rfl, e3.mono (by simp)⟩
theorem hx_ (m : Nat) (h : WS w X C f out bad) (hf : f 5 = .int .u64 m) (hm : m < 18446744073709551616) (hol : out.length <= 300000) :
  Calls Tryz.prog 310 #[.pointer (some ⟨X, 0, none⟩)] w fun e w' => e = .returned (.tuple #[]) /\ WS w' X C f (out ++ putV m) (bad || (m == 0)) /\ Kept [X, C] w w' :=
 ws_life m h hf hm (by omega)
theorem fe_ (k n least most N : Nat) (Al : Option Addr) (cl : Nat) (h : WS w X C f out bad) (hk : k < 10) (hf : f k = .slice Al n cl) (hno : n < least ∨ most < n) (hn : n <= 100) (hl : least <= 16) (hm : most <= 16) (hol : out.length <= 200000) :
  Calls Tryz.prog 309 #[.pointer (some ⟨X, 0, none⟩), .pointer (some ⟨C, k, none⟩), .int .i64 least, .int .i64 most, .func (.func N) #[] #[]] w fun e w' =>
   e = .returned (.tuple #[]) /\ WS w' X C f (out ++ putV n) true /\ Kept [X] w w' := by
 have HW := kp h
 obtain ⟨hXC, hC, v, hX, A, ca, rfl, hA, hAN⟩ := h
 have ck : w.cell? ⟨C, k, none⟩ = some (.slice Al n cl) := by rw [<- hf]; exact World.rowIs.cell hC hk
 have hXl := World.rowIs.lt hX
 have hb1 := below1 w (.cells #[.int .u64 n] 33)
 have hT : (w.alloc (.cells #[.int .u64 n] 33)).rowIs w.heap.size 33 1 (au_ [.int .u64 n]) := ar_ w [.int .u64 n] 33
 have hNW := b5_ X w.heap.size 0 33 1 (au_ [.int .u64 n]) n _ A ca out bad (w.alloc (.cells #[.int .u64 n] 33)) hT (by decide) rfl (by omega) (by omega) (World.rowIs.alloc hX _) ((hA.below hb1 (lR _)).mono hb1.size) (fun b off e hb => hAN b off e (by simp [hb])) (by omega)
 obtain ⟨Ac, Ae, HT, Ad, Ag, Af⟩ := kq6 hNW hb1 hT hno hl hm
 clear hNW hT hC hX hA hAN hb1 hno
 go_enter Tryz.func309, Tryz.ntmps309
 go_wp2_with fail
 refine Ac.o.mono ?_
 rintro e w2 ⟨rfl, v2, hX2, hS2, hk2⟩
 have hT2 : w2.rowIs w.heap.size 33 1 (au_ [.int .u64 n]) := hk2.row (by simp; omega) HT.o
 have t20 : w2.cell? ⟨w.heap.size, 0, none⟩ = some (.int .u64 n) := World.rowIs.cell hT2 (i := 0) (by decide)
 have hkw : Kept [X] w w2 := (Kept.of_below Ae.o).trans hk2
 have hW2 : WS w2 X C f (out ++ putV n) bad := HW.o.next hX2 (by obtain ⟨A', c', e1, e2, e3⟩ := hS2; exact ⟨A', c', e1, e2, fun b off e => lT (by simp) (e3 b off e)⟩) hkw
 have x23 : w2.cell? ⟨X, 3, none⟩ = some (.bool bad) := World.rowIs.cell hX2 (i := 3) (by decide)
 have fx23 : w2.frozen? ⟨X, 3, none⟩ = false := World.rowIs.frozen hX2 3
 obtain ⟨Aa, Ab⟩ := kq2 (hW2.setbad true) hkw
 clear hX2 hS2 hk2 hT2 hW2 hkw
 by_cases g1 : n < least
 ·go_wp2_with fail
  refine bodyPost_ret (results_none rfl _ _ _) rfl ?_
  exact ⟨rfl, Aa.o.1, Ab.o.trans Aa.o.2⟩
 have g2 : most < n := by have := Ad.o; omega
 go_wp2_with fail
 refine bodyPost_ret (results_none rfl _ _ _) rfl ?_
 exact ⟨rfl, Aa.o.1, Ab.o.trans Aa.o.2⟩
theorem wg_keys (k least : Nat) (v : Value) (strs : List ByteArray) (h : WS w X C f out bad) (hk : k < 10) (hf : f k = v) (hv : SlN w [X, C] v strs) (hs : ∀ s ∈ strs, s.size <= 3000) (hn : strs.length <= 100) (h1 : least <= 16) (hol : out.length <= 200000) :
  Calls Tryz.prog 309 #[.pointer (some ⟨X, 0, none⟩), .pointer (some ⟨C, k, none⟩), .int .i64 least, .int .i64 (16 : Nat), .func (.func 255) #[] #[]] w fun e w' => e = .returned (.tuple #[]) /\ WS w' X C f (out ++ putG least strs) (bad || !okG least aB_ strs) /\ Kept [X, C] w w' := by
 obtain ⟨A, c, rfl, hel, hne⟩ := hv
 by_cases hr : least <= strs.length /\ strs.length <= 16
 ·exact (j1_ k strs.length least 16 255 strs A c aB_ h hk hf rfl hel (fun b off e h => by have := hne b off e h; simp at this; exact this.1) do_ (fun s _ => iQ_ s) hs hr.1 hr.2 (by omega) hol).mono fun e w' ⟨e1, e2, e3⟩ => ⟨e1, e2.out_bad (by rw [d1_ hr]; simp [hQ_, aA]) (by rw [gg_ hr]), e3.mono (by simp)⟩
 exact (fe_ k strs.length least 16 255 A c h hk hf (by omega) hn h1 (by omega) hol).mono fun e w' ⟨e1, e2, e3⟩ => ⟨e1, e2.out_bad (by rw [f9_ hr]) (by rw [iM_ hr]; simp), e3.mono (by simp)⟩
theorem j2_ (k least : Nat) (v : Value) (strs : List ByteArray) (h : WS w X C f out bad) (hk : k < 10) (hf : f k = v) (hv : SlN w [X, C] v strs) (hs : ∀ s ∈ strs, s.size <= 3000) (hn : strs.length <= 100) (h1 : least <= 16) (hol : out.length <= 200000) :
  Calls Tryz.prog 309 #[.pointer (some ⟨X, 0, none⟩), .pointer (some ⟨C, k, none⟩), .int .i64 least, .int .i64 (16 : Nat), .func (.func 193) #[] #[]] w fun e w' => e = .returned (.tuple #[]) /\ WS w' X C f (out ++ putG least strs) (bad || !okG least a7_ strs) /\ Kept [X, C] w w' := by
 obtain ⟨A, c, rfl, hel, hne⟩ := hv
 by_cases hr : least <= strs.length /\ strs.length <= 16
 ·exact (j1_ k strs.length least 16 193 strs A c a7_ h hk hf rfl hel (fun b off e h => by have := hne b off e h; simp at this; exact this.1) d6_ (fun s _ => gA_ s) hs hr.1 hr.2 (by omega) hol).mono fun e w' ⟨e1, e2, e3⟩ => ⟨e1, e2.out_bad (by rw [d1_ hr]; simp [hQ_, aA]) (by rw [gg_ hr]), e3.mono (by simp)⟩
 exact (fe_ k strs.length least 16 193 A c h hk hf (by omega) hn h1 (by omega) hol).mono fun e w' ⟨e1, e2, e3⟩ => ⟨e1, e2.out_bad (by rw [f9_ hr]) (by rw [iM_ hr]; simp), e3.mono (by simp)⟩
end
end Go.Proofs.YtnjhpgmbfblgaaaGreat.Ord
