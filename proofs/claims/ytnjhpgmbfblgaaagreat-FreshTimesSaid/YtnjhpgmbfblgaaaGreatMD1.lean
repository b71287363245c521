/- The codec that writes, as a state; its parts, numbers and lifetimes; The codec that. -/
import Derived.Test.YtnjhpgmbfblgaaaGreatMC3
import Derived.Test.YtnjhpgmbfblgaaaGreatMR10
import Derived.Lib.Bytes
import Derived.Test.YtnjhpgmbfblgaaaGreatMR25
set_option linter.unusedVariables false
set_option linter.unusedSimpArgs false
namespace Go.Proofs.YtnjhpgmbfblgaaaGreat.Ord
set_option maxRecDepth 100000
set_option maxHeartbeats 16000000
open Go.RowKit
def WS (w : World) (X C : Nat) (f : Nat -> Value) (out : List Int) (bad : Bool) : Prop :=
 X ≠ C /\ w.rowIs C 36 10 f /\ ∃ v, w.rowIs X 339 4 (codF (.pointer (some ⟨C, 0, none⟩)) (.pointer none) v bad) /\ SlX w [X, C] v out
theorem WS.next {w w' : World} {X C : Nat} {f : Nat -> Value} {out out' : List Int} {bad bad' : Bool} {v : Value} (h : WS w X C f out bad) (hX : w'.rowIs X 339 4 (codF (.pointer (some ⟨C, 0, none⟩)) (.pointer none) v bad')) (hS : SlB w' w.heap.size v out') (hk : Kept [X] w w') : WS w' X C f out' bad' := by
 obtain ⟨h1, h2, v0, h3, h4⟩ := h
 exact ⟨h1, hk.row (by simp; exact fun e => h1 e.symm) h2, v, hX, SlX.of_slb hS (fun k hk => by
  simp at hk
  rcases hk with rfl | rfl
  ·exact World.rowIs.lt h3
  exact World.rowIs.lt h2)⟩
theorem hv_ {w : World} {X C : Nat} {f : Nat -> Value} {out : List Int} {bad al : Bool} (k : Nat) (s : ByteArray) (N : Nat) (h : WS w X C f out bad) (hk : k < 10) (hf : f k = .string s)
  (eg : ∀ args w, (callFunc N args).run Tryz.prog w = .ok (.enter N args) w) (hN : ∀ w, Calls Tryz.prog N #[.string s] w fun e w' => e = .returned (.bool al) /\ Bw w w') (hs : s.size <= 100000) (hol : out.length <= 500000) :
  Calls Tryz.prog 307 #[.pointer (some ⟨X, 0, none⟩), .pointer (some ⟨C, k, none⟩), .func (.func N) #[] #[]] w fun e w' =>
   e = .returned (.tuple #[]) /\ WS w' X C f (out ++ putV s.size ++ aF_ s) (bad || !al) /\ Kept [X] w w' := by
 obtain ⟨h1, h2, v, h3, A, ca, rfl, h4, h5⟩ := id h
 exact (fz_ X C k 36 10 f s _ A ca out bad al N w h2 hk hf h1 h3 h4 (fun b off e hb => h5 b off e (by simp [hb])) eg hN hs hol).mono fun e w' ⟨e1, v', e2, e3, e4⟩ => ⟨e1, h.next e2 e3 e4, e4⟩
theorem j0_ {w : World} {X C : Nat} {f : Nat -> Value} {out : List Int} {bad : Bool} (k m : Nat) (h : WS w X C f out bad) (hk : k < 10) (hf : f k = .int .u64 m) (hm : m < 18446744073709551616) (hol : out.length <= 500000) :
  Calls Tryz.prog 311 #[.pointer (some ⟨X, 0, none⟩), .pointer (some ⟨C, k, none⟩)] w fun e w' =>
   e = .returned (.tuple #[]) /\ WS w' X C f (out ++ putV m) bad /\ Kept [X] w w' := by
 obtain ⟨h1, h2, v, h3, A, ca, rfl, h4, h5⟩ := id h
 exact (b5_ X C k 36 10 f m _ A ca out bad w h2 hk hf hm h1 h3 h4 (fun b off e hb => h5 b off e (by simp [hb])) hol).mono fun e w' ⟨e1, v', e2, e3, e4⟩ => ⟨e1, h.next e2 e3 e4, e4⟩
theorem jD_ {w w2 : World} {X C T : Nat} {f : Nat -> Value} {v c : Value} {m : Nat} {bad : Bool} {xs : List Int} (h1 : X ≠ C) (hXT : X ≠ T) (hCT : C ≠ T) (hX : w2.rowIs X 339 4 (codF c (.pointer none) v bad)) (hC : w2.rowIs C 36 10 f) (hf : f 5 = .int .u64 m) (hT : w2.rowIs T 33 1 (au_ [.int .u64 m])) (hS : SlX w2 [X, C] v xs) (hk : Kept [X] w w2) :
  ∃ W, (w2.setCell ⟨C, 5, none⟩ (.int .u64 m)).drew = W /\ W.rowIs X 339 4 (codF c (.pointer none) v bad) /\ W.rowIs C 36 10 f /\ W.rowIs T 33 1 (au_ [.int .u64 m]) /\ SlX W [X, C] v xs /\ Kept [X, C] w W := by
 have hk2 : Kept [C] w2 (w2.setCell ⟨C, 5, none⟩ (.int .u64 m)).drew := ((Kept.refl [C] w2).setCell (p := ⟨C, 5, none⟩) (by simp) _).drew
 refine ⟨_, rfl, World.rowIs.of_block (World.rowIs.setOther hX (by exact h1) _) rfl, ?_, World.rowIs.of_block (World.rowIs.setOther hT (by exact fun e => hCT e.symm) _) rfl, hS.kept hk2 (fun k h => by simp at h; simp [h]), (hk.mono (by simp)).trans (hk2.mono (by simp))⟩
 refine World.rowIs.of_block (World.rowIs.congr (World.rowIs.set hC 5 (.int .u64 m)) fun i hi => ?_) rfl
 by_cases e : i = 5
 ·subst e; simp [hf]
 simp [e]
theorem eZ_ {w W : World} {X C : Nat} {f : Nat -> Value} {v : Value} {bad b : Bool} {xs : List Int} (h1 : X ≠ C) (hX : W.rowIs X 339 4 (codF (.pointer (some ⟨C, 0, none⟩)) (.pointer none) v bad)) (hC : W.rowIs C 36 10 f) (hS : SlX W [X, C] v xs) (hk : Kept [X, C] w W) :
  WS (W.setCell ⟨X, 3, none⟩ (.bool b)) X C f xs b /\ Kept [X, C] w (W.setCell ⟨X, 3, none⟩ (.bool b)) := by
 have hk2 : Kept [X] W (W.setCell ⟨X, 3, none⟩ (.bool b)) := (Kept.refl [X] W).setCell (p := ⟨X, 3, none⟩) (by simp) _
 refine ⟨⟨h1, World.rowIs.setOther hC (by exact fun e => h1 e.symm) _, v, World.rowIs.congr (World.rowIs.set hX 3 (.bool b)) fun i hi => ?_, hS.kept hk2 (fun k h => by simp at h; simp [h])⟩, hk.trans (hk2.mono (by simp))⟩
 match i, hi with
 | 0, _ => rfl
 | 1, _ => rfl
 | 2, _ => rfl
 | 3, _ => rfl
theorem ws_life {w : World} {X C : Nat} {f : Nat -> Value} {out : List Int} {bad : Bool} (m : Nat) (h : WS w X C f out bad) (hf : f 5 = .int .u64 m) (hm : m < 18446744073709551616) (hol : out.length <= 500000) :
  Calls Tryz.prog 310 #[.pointer (some ⟨X, 0, none⟩)] w fun e w' =>
   e = .returned (.tuple #[]) /\ WS w' X C f (out ++ putV m) (bad || (m == 0)) /\ Kept [X, C] w w' := by
 have HW := kp h
 obtain ⟨h1, h2, v, h3, A, ca, rfl, h4, h5⟩ := h
 have c0 : w.cell? ⟨X, 0, none⟩ = some (.pointer (some ⟨C, 0, none⟩)) := World.rowIs.cell h3 (i := 0) (by decide)
 have c5 : w.cell? ⟨C, 5, none⟩ = some (.int .u64 m) := by rw [<- hf]; exact World.rowIs.cell h2 (i := 5) (by decide)
 have hXl := World.rowIs.lt h3
 have hCl := World.rowIs.lt h2
 have hb1 := below1 w (.cells #[.int .u64 m] 33)
 have hT : (w.alloc (.cells #[.int .u64 m] 33)).rowIs w.heap.size 33 1 (au_ [.int .u64 m]) := ar_ w [.int .u64 m] 33
 have hN := b5_ X w.heap.size 0 33 1 (au_ [.int .u64 m]) m _ A ca out bad (w.alloc (.cells #[.int .u64 m] 33)) hT (by decide) rfl hm (by omega) (World.rowIs.alloc h3 _) ((h4.below hb1 (lR _)).mono hb1.size) (fun b off e hb => h5 b off e (by simp [hb])) hol
 obtain ⟨HN, HT, H2, Aj⟩ := kq4 hN hT h2 hb1
 clear hN hT h2 h3 h4 h5 hb1
 go_enter Tryz.func310, Tryz.ntmps310
 go_wp2_with fail
 refine HN.o.mono ?_
 rintro e w2 ⟨rfl, v2, hX2, hS2, hk2⟩
 have hT2 : w2.rowIs w.heap.size 33 1 (au_ [.int .u64 m]) := hk2.row (by simp; omega) HT.o
 have hC2 : w2.rowIs C 36 10 f := hk2.row (by simp; exact fun e => h1 e.symm) (World.rowIs.alloc H2.o _)
 have c20 : w2.cell? ⟨X, 0, none⟩ = some (.pointer (some ⟨C, 0, none⟩)) := World.rowIs.cell hX2 (i := 0) (by decide)
 have c25 : w2.cell? ⟨C, 5, none⟩ = some (.int .u64 m) := by rw [<- hf]; exact World.rowIs.cell hC2 (i := 5) (by decide)
 have f25 : w2.frozen? ⟨C, 5, none⟩ = false := World.rowIs.frozen hC2 5
 have t20 : w2.cell? ⟨w.heap.size, 0, none⟩ = some (.int .u64 m) := World.rowIs.cell hT2 (i := 0) (by decide)
 obtain ⟨Ae, Ai, Af, Ag, Ah⟩ := kq5 hX2 hC2 hT2 hS2 hk2
 clear hX2 hC2 hT2 hS2 hk2
 go_wp2_with fail
 go_region_law (fail)
 all_goals
  obtain ⟨W3, hW3, hX3, hC3, hT3, hS3, hk3⟩ := jD_ (w := w.alloc (.cells #[.int .u64 m] 33)) h1 (by omega) (by omega) Ae.o Ai.o hf Af.o (SlX.of_slb (N := [X, C]) Ag.o (fun k hk => by simp at hk ⊢; omega)) Ah.o
  rw [hW3]
  have x33 : W3.cell? ⟨X, 3, none⟩ = some (.bool bad) := World.rowIs.cell hX3 (i := 3) (by decide)
  have fx33 : W3.frozen? ⟨X, 3, none⟩ = false := World.rowIs.frozen hX3 3
  have t30 : W3.cell? ⟨w.heap.size, 0, none⟩ = some (.int .u64 m) := World.rowIs.cell hT3 (i := 0) (by decide)
  have hk4 : Kept [X, C] w W3 := (Kept.of_below Aj.o).trans hk3
  obtain ⟨Aa, Ad, Ab, Ac⟩ := kq4 hX3 hC3 hS3 hk4
  clear hW3 hX3 hC3 hT3 hS3 hk3 hk4 c20 c25 f25 t20
  cases bad with
  | true =>
   go_wp2_with fail
   go_end0
   have hb := eZ_ (b := true) h1 Aa.o Ad.o Ab.o Ac.o
   exact ⟨rfl, hb.1, hb.2⟩
  | false =>
   cases hm0 : ((m : Int) == 0)
   ·go_wp2_with fail
    go_end0
    have hb := eZ_ (b := false) h1 Aa.o Ad.o Ab.o Ac.o
    have e : (m == 0) = false := by simp at hm0 ⊢; omega
    exact ⟨rfl, by rw [e]; exact hb.1, hb.2⟩
   go_wp2_with fail
   go_end0
   have hb := eZ_ (b := true) h1 Aa.o Ad.o Ab.o Ac.o
   have e : (m == 0) = true := by simp at hm0 ⊢; omega
   exact ⟨rfl, by rw [e]; exact hb.1, hb.2⟩
theorem gU_ (xs : List Int) : (strOfNums xs).size = xs.length := by
 rw [<- aG_]
 unfold aF_
 rw [lM_, <- ByteArray.toList_eq, Lib.strOfNums_toList]
 simp [Lib.bytesOf]
theorem fB_ {xs : List Int} (hx : ∀ y ∈ xs, 0 <= y /\ y < 256) : aF_ (strOfNums xs) = xs := by
 unfold aF_
 rw [<- ByteArray.toList_eq, Lib.strOfNums_toList]
 unfold Lib.bytesOf
 rw [List.map_map]
 conv => rhs; rw [<- List.map_id xs]
 refine List.map_congr_left fun y hy => ?_
 have := hx y hy
 simp only [Function.comp_apply, UInt8.toNat_ofNat', id]
 omega
theorem iy_ (s : ByteArray) (h : s.size <= 65536) (w : World) : Calls Tryz.prog 369 #[.string s] w fun e w' => e = .returned (.bool true) /\ Bw w w' := by
 have hg : decide ((s.size : Int) <= 65536) = true := by simp; omega
 go_enter Tryz.func369, Tryz.ntmps369
 go_wp2_with fail
 go_ret
 exact ⟨rfl, BR _ _⟩
theorem iW_ : ∀ args w, (callFunc 369 args).run Tryz.prog w = .ok (.enter 369 args) w := by
 intro args w
 simp [callFunc, Tryz.func369, Tryz.f369]
theorem ws_value {w : World} {X C : Nat} {f : Nat -> Value} {out : List Int} {bad : Bool} (Av : Option Addr) (cv : Nat) (val : List Int) (h : WS w X C f out bad) (hf : f 3 = .slice Av val.length cv) (hv : Byt w w.heap.size Av cv val) (hx : ∀ y ∈ val, 0 <= y /\ y < 256) (hl : val.length <= 65536) (hol : out.length <= 400000) :
  Calls Tryz.prog 308 #[.pointer (some ⟨X, 0, none⟩)] w fun e w' =>
   e = .returned (.tuple #[]) /\ WS w' X C f (out ++ putV val.length ++ val) bad /\ Kept [X] w w' := by
 have HW := kp h
 obtain ⟨h1, h2, v, h3, A, ca, rfl, h4, h5⟩ := h
 have c0 : w.cell? ⟨X, 0, none⟩ = some (.pointer (some ⟨C, 0, none⟩)) := World.rowIs.cell h3 (i := 0) (by decide)
 have c3 : w.cell? ⟨C, 3, none⟩ = some (.slice Av val.length cv) := by rw [<- hf]; exact World.rowIs.cell h2 (i := 3) (by decide)
 have hcv := hv.convert rfl
 have hsz := gU_ val
 have hsb := fB_ hx
 obtain ⟨s, hs⟩ := eY (strOfNums val)
 rw [hs] at hcv hsz hsb
 have hXl := World.rowIs.lt h3
 have hb1 := below1 w (.cells #[.string s] 9)
 have hT : (w.alloc (.cells #[.string s] 9)).rowIs w.heap.size 9 1 (au_ [.string s]) := ar_ w [.string s] 9
 have hN := fz_ X w.heap.size 0 9 1 (au_ [.string s]) s _ A ca out bad true 369 (w.alloc (.cells #[.string s] 9)) hT (by decide) rfl (by omega) (World.rowIs.alloc h3 _) ((h4.below hb1 (lR _)).mono hb1.size) (fun b off e hb => h5 b off e (by simp [hb])) iW_ (fun w => iy_ s (by omega) w) (by omega) (by omega)
 rw [hsz, hsb] at hN
 obtain ⟨HN, Ad, HS, Ae⟩ := kq4 hN hb1 hs hsz
 clear hN hT h2 h3 h4 h5 hb1 hv hx hs hsz hsb
 go_enter Tryz.func308, Tryz.ntmps308
 go_wp2_with fail
 refine HN.o.mono ?_
 rintro e w2 ⟨rfl, v2, hX2, hS2, hk2⟩
 have c21 : w2.cell? ⟨X, 1, none⟩ = some (.pointer none) := World.rowIs.cell hX2 (i := 1) (by decide)
 obtain ⟨Aa, Ab, Ac⟩ := kq3 hX2 hS2 hk2
 clear hX2 hS2 hk2
 go_wp2_with fail
 go_end0
 have hk : Kept [X] w w2 := (Kept.of_below Ad.o).trans Ac.o
 have hbe : (bad || !true) = bad := by simp
 have hX := Aa.o
 rw [hbe] at hX
 refine ⟨rfl, HW.o.next hX ?_ hk, hk⟩
 obtain ⟨A', c', e1, e2, e3⟩ := Ab.o
 exact ⟨A', c', e1, e2, fun b off e => lT (by simp) (e3 b off e)⟩
theorem eW_ {w : World} {a : Addr} {v : Value} (h : w.cell? a = some v) : a.block < w.heap.size := by
 rcases Nat.lt_or_ge a.block w.heap.size with h' | h'
 ·exact h'
 simp [World.cell?, Array.getElem?_eq_none h'] at h
theorem Kept.cell {L : List Nat} {a b : World} (h : Kept L a b) {p : Addr} {v : Value} (hp : p.block ∉ L) (hc : a.cell? p = some v) : b.cell? p = some v := by
 obtain ⟨x, off, sp⟩ := p
 have hlt := eW_ hc
 have hsp := World.cell?_spot hc
 simp only at hsp
 subst hsp
 rw [World.cell?_of_block (w := a) (h.block x hlt hp)]
 exact hc
theorem js_ {X : Nat} {c : Value} {A A6 : Option Addr} {ca c6 L : Nat} {o : Nat} {xs : List Int} {bad : Bool} {w w6 : World} {base : Nat} (hL : xs.length = L)
  (hX : w.rowIs X 339 4 (codF c (.pointer none) (.slice A o ca) bad)) (hb6 : Bw w w6) (hown : Own8 w6 base (.slice A6 L c6) xs) (hbase : w.heap.size <= base) :
  ∃ w7, w7 = w6.setCell ⟨X, 2, none⟩ (.slice A6 L c6) /\ w7.rowIs X 339 4 (codF c (.pointer none) (.slice A6 L c6) bad) /\ Kept [X] w w7 /\ SlB w7 w.heap.size (.slice A6 L c6) xs := by
 have hXlt := World.rowIs.lt hX
 have hX6 : w6.rowIs X 339 4 (codF c (.pointer none) (.slice A o ca) bad) := World.rowIs.of_block hX (hb6.block X hXlt)
 have hK : Kept [X] w (w6.setCell ⟨X, 2, none⟩ (.slice A6 L c6)) := (Kept.of_below hb6).setCell (by simp) _
 refine ⟨_, rfl, World.rowIs.congr (World.rowIs.set hX6 2 (.slice A6 L c6)) fun i hi => ?_, hK, ?_⟩
 ·match i, hi with
  | 0, _ => rfl
  | 1, _ => rfl
  | 2, _ => rfl
  | 3, _ => rfl
 obtain ⟨A', c', he, hby, hlo⟩ := SlB.of_own hown
 refine ⟨A', c', he, ?_, fun b off hA => lT hbase (hlo b off hA)⟩
 have hk2 : Kept [X] w6 (w6.setCell ⟨X, 2, none⟩ (.slice A6 L c6)) := (Kept.refl _ _).setCell (by simp) _
 exact hk2.byt hby fun x off hA hm => by
  have h1 := hlo x off hA
  simp at hm
  omega
theorem gR_ (X G k : Nat) (s : ByteArray) (c : Value) (A : Option Addr) (ca : Nat) (out : List Int) (bad al : Bool) (N : Nat) (w : World)
  (hcs : w.cell? ⟨G, k, none⟩ = some (.string s)) (hXG : X ≠ G) (hX : w.rowIs X 339 4 (codF c (.pointer none) (.slice A out.length ca) bad)) (hA : Byt w w.heap.size A ca out) (hAX : ∀ b off, A = some ⟨b, off, none⟩ -> b ≠ X)
  (eg : ∀ args w, (callFunc N args).run Tryz.prog w = .ok (.enter N args) w) (hN : ∀ w, Calls Tryz.prog N #[.string s] w fun e w' => e = .returned (.bool al) /\ Bw w w') (hs : s.size <= 100000) (hol : out.length <= 500000) :
  Calls Tryz.prog 307 #[.pointer (some ⟨X, 0, none⟩), .pointer (some ⟨G, k, none⟩), .func (.func N) #[] #[]] w fun e w' =>
   e = .returned (.tuple #[]) /\ ∃ v, w'.rowIs X 339 4 (codF c (.pointer none) v (bad || !al)) /\ SlB w' w.heap.size v (out ++ putV s.size ++ aF_ s) /\ Kept [X] w w' := by
 have hc1 : w.cell? ⟨X, 1, none⟩ = some (.pointer none) := World.rowIs.cell hX (i := 1) (by decide)
 have hc2 : w.cell? ⟨X, 2, none⟩ = some (.slice A out.length ca) := World.rowIs.cell hX (i := 2) (by decide)
 have hc3 : w.cell? ⟨X, 3, none⟩ = some (.bool bad) := World.rowIs.cell hX (i := 3) (by decide)
 obtain ⟨Ae, HX, HA⟩ := kq3 hcs hX hA
 clear hX hA
 obtain ⟨L, hL⟩ := eY ((out ++ putV s.size ++ aF_ s).length)
 have HL := kp hL
 clear hL
 have HN := kp hN
 clear hN
 go_enter Tryz.func307, Tryz.ntmps307
 go_wp2_with fail
 obtain ⟨c2, W5, hconv, hby5, hb5⟩ := dp_ w.drew s
 have hXlt : X < w.drew.heap.size := World.rowIs.lt HX.o
 have hX5 : W5.rowIs X 339 4 (codF c (.pointer none) (.slice A out.length ca) bad) := World.rowIs.of_block HX.o (hb5.block X hXlt)
 have h52 : W5.cell? ⟨X, 2, none⟩ = some (.slice A out.length ca) := World.rowIs.cell hX5 (i := 2) (by decide)
 obtain ⟨hA5, Ab, Af⟩ := kq3 (HA.o.below (B := w.heap.size) (w' := W5) (B' := w.heap.size) ⟨hb5.os, hb5.tape, hb5.output, hb5.size, hb5.block⟩ (lR _) |>.mono hb5.size) hX5 hby5
 have hsl := aG_ s
 have HC := kp (cu_ A (some ⟨w.drew.heap.size, 0, none⟩) out.length ca s.size c2 out (aF_ s) W5 rfl hsl (by omega) (by omega) hA5.o Af.o)
 clear hX5 hby5
 go_region_law ((with_reducible refine ao_ (o := ⟨some 22, _, _, _, _, _⟩) rfl 361 _ _ rfl #[.slice A out.length ca, .slice (some ⟨w.drew.heap.size, 0, none⟩) s.size c2] ?_ Tryz.f361 Tryz.func361 hk_ hl_ (fun u w6 => Own8 w6 W5.heap.size u (out ++ putV s.size ++ aF_ s) /\ Bw W5 w6) ?_ ?_); (· simp only [y1, y2, y3]; rfl); (· exact HC.o.mono fun e w' ⟨v, h1, h2, h3⟩ => ⟨v, h1, h2, h3⟩); rintro u6 w6 ⟨hown6, hb6⟩; obtain ⟨A6, c6, rfl, hby6⟩ := hown6.val; rw [HL.o]; rw [HL.o] at hown6; have hX6 := kp (World.rowIs.of_block Ab.o (hb6.block X (World.rowIs.lt Ab.o))); have h62 : w6.cell? ⟨X, 2, none⟩ = some (.slice A out.length ca) := World.rowIs.cell hX6.o (i := 2) (by decide); have hf62 : w6.frozen? ⟨X, 2, none⟩ = false := World.rowIs.frozen hX6.o 2)
 all_goals
  have hbw6 : Bw w w6 := by
   have h1 : Bw w W5 := ⟨hb5.os, hb5.tape, hb5.output, hb5.size, hb5.block⟩
   exact h1.trans (hb6.mono h1.size)
  obtain ⟨w7, hw7, hX7, hK7, hS7⟩ := js_ HL.o HX.o hbw6 hown6 (by have := hb5.size; exact this)
  rw [<- hw7]
  clear hw7 h62 hf62 hX6 hown6 hby6 hb6 hbw6
  have h73 : w7.cell? ⟨X, 3, none⟩ = some (.bool bad) := World.rowIs.cell hX7 (i := 3) (by decide)
  have hf73 : w7.frozen? ⟨X, 3, none⟩ = false := World.rowIs.frozen hX7 3
  have h7s : w7.cell? ⟨G, k, none⟩ = some (.string s) := hK7.cell (by simp; exact fun e => hXG e.symm) Ae.o
  obtain ⟨Aa, Ad, Ac⟩ := kq3 hX7 hK7 hS7
  clear hX7 hK7 hS7
  have hXw := World.rowIs.lt HX.o
  cases bad with
  | true =>
   go_wp2_with fail
   go_end0
   obtain ⟨h1, h2, h3⟩ := d2_ (b := true) Aa.o hXw Ad.o Ac.o (BR _ _)
   exact ⟨rfl, _, h1, h2, h3⟩
  | false =>
   go_wp2_with fail
   refine (HN.o w7).mono ?_
   rintro e w8 ⟨rfl, hb8⟩
   have hX8 := World.rowIs.of_block Aa.o (hb8.block X (World.rowIs.lt Aa.o))
   have h83 : w8.cell? ⟨X, 3, none⟩ = some (.bool false) := World.rowIs.cell hX8 (i := 3) (by decide)
   have hf83 : w8.frozen? ⟨X, 3, none⟩ = false := World.rowIs.frozen hX8 3
   clear hX8
   go_wp2_with fail
   go_end0
   obtain ⟨h1, h2, h3⟩ := d2_ (b := !al) Aa.o hXw Ad.o Ac.o hb8
   exact ⟨rfl, _, h1, h2, h3⟩
def aI_ : List ByteArray -> List Int
 | [] => []
 | s :: l => putV s.size ++ aF_ s ++ aI_ l
theorem gM_ (l : List ByteArray) (s : ByteArray) : aI_ (l ++ [s]) = aI_ l ++ (putV s.size ++ aF_ s) := by
 induction l with
 | nil => simp [aI_]
 | cons a l ih => simp [aI_, ih, aA]
theorem WS.out_bad {w : World} {X C : Nat} {f : Nat -> Value} {out out' : List Int} {bad bad' : Bool} (h : WS w X C f out bad) (e1 : out = out') (e2 : bad = bad') : WS w X C f out' bad' := by subst e1; subst e2; exact h
theorem b2_ {l : List ByteArray} (h : ∀ s ∈ l, s.size <= 3000) : (aI_ l).length <= 3100 * l.length := by
 induction l with
 | nil => simp [aI_]
 | cons a l ih =>
  have h1 := ih fun s hs => h s (mM _ hs)
  have h2 := h a List.mem_cons_self
  have h3 := ad_ (n := a.size) (by omega)
  have h4 := aG_ a
  simp only [aI_, lA, List.length_cons]
  omega
theorem j1_ {w : World} {X C : Nat} {f : Nat -> Value} {out : List Int} {bad : Bool} (k n least most N : Nat) (strs : List ByteArray) (Al : Option Addr) (cl : Nat) (alw : ByteArray -> Bool) (h : WS w X C f out bad) (hk : k < 10) (hf : f k = .slice Al n cl) (hn : strs.length = n) (hel : ElV Value.string w w.heap.size Al strs) (hne : ∀ b off, Al = some ⟨b, off, none⟩ -> strs ≠ [] -> b ≠ X)
  (eg : ∀ args w, (callFunc N args).run Tryz.prog w = .ok (.enter N args) w) (hN : ∀ s ∈ strs, ∀ w, Calls Tryz.prog N #[.string s] w fun e w' => e = .returned (.bool (alw s)) /\ Bw w w') (hs : ∀ s ∈ strs, s.size <= 3000) (h1 : least <= n) (h2 : n <= most) (h3 : most <= 32) (hol : out.length <= 200000) :
  Calls Tryz.prog 309 #[.pointer (some ⟨X, 0, none⟩), .pointer (some ⟨C, k, none⟩), .int .i64 least, .int .i64 most, .func (.func N) #[] #[]] w fun e w' =>
   e = .returned (.tuple #[]) /\ WS w' X C f (out ++ putV n ++ aI_ strs) (bad || !(strs.all alw)) /\ Kept [X] w w' := by
 have HW := kp h
 obtain ⟨hXC, hC, v, hX, A, ca, rfl, hA, hAN⟩ := h
 have ck : w.cell? ⟨C, k, none⟩ = some (.slice Al n cl) := by rw [<- hf]; exact World.rowIs.cell hC hk
 have hXl := World.rowIs.lt hX
 have hb1 := below1 w (.cells #[.int .u64 n] 33)
 have hT : (w.alloc (.cells #[.int .u64 n] 33)).rowIs w.heap.size 33 1 (au_ [.int .u64 n]) := ar_ w [.int .u64 n] 33
 have hNW := b5_ X w.heap.size 0 33 1 (au_ [.int .u64 n]) n _ A ca out bad (w.alloc (.cells #[.int .u64 n] 33)) hT (by decide) rfl (by omega) (by omega) (World.rowIs.alloc hX _) ((hA.below hb1 (lR _)).mono hb1.size) (fun b off e hb => hAN b off e (by simp [hb])) (by omega)
 obtain ⟨Af, Am, HT, Aj, Ab, HN, HS, HL, Ak⟩ := kq9 hNW hb1 hT hel hne hN hs hn eg
 clear hNW hT hC hX hA hAN hb1 hel hne hN hs hn eg
 have g1 : ¬ n < least := by omega
 have g2 : ¬ most < n := by omega
 obtain ⟨H1, H2, H3⟩ := kq3 h1 h2 h3
 have hn100 : n <= 32 := lT h2 h3
 have hl100 : least <= 32 := lT h1 hn100
 have hm100 : most <= 32 := h3
 clear h1 h2 h3
 go_enter Tryz.func309, Tryz.ntmps309
 go_wp2_with fail
 refine Af.o.mono ?_
 rintro e w2 ⟨rfl, v2, hX2, hS2, hk2⟩
 have hT2 : w2.rowIs w.heap.size 33 1 (au_ [.int .u64 n]) := hk2.row (by simp; omega) HT.o
 have t20 : w2.cell? ⟨w.heap.size, 0, none⟩ = some (.int .u64 n) := World.rowIs.cell hT2 (i := 0) (by decide)
 have c21 : w2.cell? ⟨X, 1, none⟩ = some (.pointer none) := World.rowIs.cell hX2 (i := 1) (by decide)
 have hkw : Kept [X] w w2 := (Kept.of_below Am.o).trans hk2
 have c2k : w2.cell? ⟨C, k, none⟩ = some (.slice Al n cl) := hkw.cell (by simp; exact fun e => hXC e.symm) ck
 have hW2 : WS w2 X C f (out ++ putV n) bad := HW.o.next hX2 (by obtain ⟨A', c', e1, e2, e3⟩ := hS2; exact ⟨A', c', e1, e2, fun b off e => lT (by simp) (e3 b off e)⟩) hkw
 obtain ⟨Ae, Ag⟩ := kq2 hW2 hkw
 clear hX2 hS2 hk2 hT2 hW2 hkw
 go_wp2_with fail
 clear c2k t20 c21 g1 g2
 go_loopw [49] (fun j wr => ∃ i : Nat, i <= n /\ j = .int .i64 i /\ WS wr X C f (out ++ putV n ++ aI_ (strs.take i)) (bad || !((strs.take i).all alw)) /\ Kept [X] w wr) (fun j _ => n - (intOf j).toNat)
 case atStart => exact ⟨0, Nat.zero_le _, rfl, Ae.o.out_bad (by simp [aI_]) (by simp), Ag.o⟩
 obtain ⟨i, hi, rfl, hW, hK⟩ := hrel
 have ckr : wr.cell? ⟨C, k, none⟩ = some (.slice Al n cl) := hK.cell (by simp; exact fun e => hXC e.symm) ck
 by_cases hlt : i < n
 ·have hg : decide ((i : Int) < (n : Int)) = true := by simp; omega
  obtain ⟨s, hs⟩ : ∃ s, strs[i]? = some s := ⟨strs[i]'(by rw [HL.o]; exact hlt), gE _⟩
  obtain ⟨b, off, rfl, hbB, hc⟩ := Aj.o i s hs
  have hmem : s ∈ strs := mI.2 ⟨i, hs⟩
  have hcr : wr.cell? ⟨b, off + i, none⟩ = some (.string s) := hK.cell (by simp; exact Ab.o b off rfl (List.ne_nil_of_mem (mI.2 ⟨i, hs⟩))) hc
  have htk : strs.take (i + 1) = strs.take i ++ [s] := by rw [tA, hs]; rfl
  have hol2 : (out ++ putV n ++ aI_ (strs.take i)).length <= 500000 := by
   have h4 := b2_ (l := strs.take i) fun s hs => HS.o s (List.mem_of_mem_take hs)
   have h5 := ad_ (n := n) (by omega)
   have h6 : (strs.take i).length <= i := List.length_take_le _ _
   simp only [lA]
   omega
  have hsz := HS.o s hmem
  have HWi := kp hW
  obtain ⟨_, hC, v, hX, A2, ca2, rfl, hA2, hAN2⟩ := hW
  have hP := gR_ X b (off + i) s _ A2 ca2 _ _ (alw s) N wr hcr (fun e => Ab.o b off rfl (List.ne_nil_of_mem (mI.2 ⟨i, hs⟩)) e.symm) hX hA2 (fun b off e hb => hAN2 b off e (by simp [hb])) Ak.o (HN.o s hmem) (by omega) hol2
  obtain ⟨HP, Aa, HK⟩ := kq3 hP htk hK
  clear hP hX hA2 hAN2 hC hs hc hmem htk hol2 hK hcr
  go_wp2_with fail
  refine HP.o.mono ?_
  rintro e w5 ⟨rfl, v5, hX5, hS5, hk5⟩
  have hW5 := HWi.o.next hX5 hS5 hk5
  obtain ⟨Ac, Ah⟩ := kq2 (hW5.out_bad (out' := out ++ putV n ++ aI_ (strs.take (i + 1))) (bad' := bad || !((strs.take (i + 1)).all alw)) (by rw [Aa.o, gM_]; simp only [aA]) (by rw [Aa.o, List.all_append]; cases bad <;> cases (strs.take i).all alw <;> cases h : alw s <;> simp [h])) (HK.o.trans hk5)
  clear hX5 hS5 hk5 hW5
  go_wp2_with fail
  go_roundw
  case rel => exact ⟨i + 1, by omega, by go_num, Ac.o, Ah.o⟩
  simp [intOf]; omega
 obtain rfl : i = n := by omega
 have hg : decide ((i : Int) < (i : Int)) = false := by simp
 obtain ⟨Ad, Ai⟩ := kq2 hW hK
 clear hW hK
 go_wp2_with fail
 go_end0
 exact ⟨rfl, Ad.o.out_bad (by rw [tL (by rw [HL.o]; exact lR _)]) (by rw [tL (by rw [HL.o]; exact lR _)]), Ai.o⟩
theorem gJ_ {X G R k n : Nat} {NL : List Nat} (hNL : ∀ k ∈ [X, G, R], k ∈ NL) {t : TypeId} {f : Nat -> Value} {c outv r : Value} {bad : Bool} {w w1 : World} {u : Value} (hXG : X ≠ G) (hX1 : w1.rowIs X 339 4 (codF c r outv bad)) (hG1 : w1.rowIs G t n f) (hk1 : Kept [R] w w1) (hXR : X ≠ R) (hGR : G ≠ R) {v' : Value} {rest : List Int} (hR1 : w1.rowIs R 440 2 (rdF v')) (hv1 : SlX w1 NL v' rest) :
  ∃ w2, w2 = (w1.setCell ⟨X, 3, none⟩ (.bool bad)).setCell ⟨G, k, none⟩ u /\ w2.rowIs X 339 4 (codF c r outv bad) /\ w2.rowIs G t n (updF f k u) /\ w2.rowIs R 440 2 (rdF v') /\ SlX w2 NL v' rest /\ Kept [X, G, R] w w2 := by
 have hk3 : Kept [X, G, R] w1 ((w1.setCell ⟨X, 3, none⟩ (.bool bad)).setCell ⟨G, k, none⟩ u) := ((Kept.refl _ _).setCell (by simp) _).setCell (by simp) _
 refine ⟨_, rfl, World.rowIs.setOther (World.rowIs.congr (World.rowIs.set hX1 3 _) fun i hi => ?_) (by exact hXG) _, World.rowIs.set (World.rowIs.setOther hG1 (by exact fun e => hXG e.symm) _) k _, World.rowIs.setOther (World.rowIs.setOther hR1 (by exact fun e => hXR e.symm) _) (by exact fun e => hGR e.symm) _, hv1.kept hk3 hNL, (hk1.mono (by simp)).trans hk3⟩
 match i, hi with
 | 0, _ => rfl
 | 1, _ => rfl
 | 2, _ => rfl
 | 3, _ => rfl
theorem gK_ {X G R n : Nat} {NL : List Nat} (hNL : ∀ k ∈ [X, G, R], k ∈ NL) {t : TypeId} {f : Nat -> Value} {c outv r : Value} {bad b : Bool} {w w2 w3 : World} (hXG : X ≠ G) (hXR : X ≠ R) {v' : Value} {rest : List Int}
  (hX2 : w2.rowIs X 339 4 (codF c r outv bad)) (hG2 : w2.rowIs G t n f) (hR2 : w2.rowIs R 440 2 (rdF v')) (hv2 : SlX w2 NL v' rest) (hk2 : Kept [X, G, R] w w2) (hb : Bw w2 w3) :
  ∃ v', (w3.setCell ⟨X, 3, none⟩ (.bool b)).rowIs X 339 4 (codF c r outv b) /\ (w3.setCell ⟨X, 3, none⟩ (.bool b)).rowIs G t n f /\ (w3.setCell ⟨X, 3, none⟩ (.bool b)).rowIs R 440 2 (rdF v') /\ SlX (w3.setCell ⟨X, 3, none⟩ (.bool b)) NL v' rest /\ Kept [X, G, R] w (w3.setCell ⟨X, 3, none⟩ (.bool b)) := by
 have hk : Kept [X, G, R] w2 (w3.setCell ⟨X, 3, none⟩ (.bool b)) := (Kept.of_below hb).setCell (by simp) _
 have hX3 := World.rowIs.of_block hX2 (hb.block X (World.rowIs.lt hX2))
 have hG3 := World.rowIs.of_block hG2 (hb.block G (World.rowIs.lt hG2))
 have hR3 := World.rowIs.of_block hR2 (hb.block R (World.rowIs.lt hR2))
 refine ⟨v', World.rowIs.congr (World.rowIs.set hX3 3 _) fun i hi => ?_, World.rowIs.setOther hG3 (by exact fun e => hXG e.symm) _, World.rowIs.setOther hR3 (by exact fun e => hXR e.symm) _, hv2.kept hk hNL, hk2.trans hk⟩
 match i, hi with
 | 0, _ => rfl
 | 1, _ => rfl
 | 2, _ => rfl
 | 3, _ => rfl
theorem fA_ (X G R k : Nat) (NL : List Nat) (hNL : ∀ k ∈ [X, G, R], k ∈ NL) (t : TypeId) (n : Nat) (f : Nat -> Value) (s : ByteArray) (u0 : ByteArray) (c outv v : Value) (rest : List Int) (bad al : Bool) (N : Nat) (w : World)
  (hG : w.rowIs G t n f) (hk : k < n) (hf : f k = .string u0) (hXG : X ≠ G) (hXR : X ≠ R) (hGR : G ≠ R) (hX : w.rowIs X 339 4 (codF c (.pointer (some ⟨R, 0, none⟩)) outv bad))
  (hR : w.rowIs R 440 2 (rdF v)) (hv : SlX w NL v (putV s.size ++ (aF_ s ++ rest))) (hget : jZ_ s.size) (hs : s.size <= 65536) (hrl : rest.length <= 500000)
  (eg : ∀ args w, (callFunc N args).run Tryz.prog w = .ok (.enter N args) w) (hN : ∀ w, Calls Tryz.prog N #[.string s] w fun e w' => e = .returned (.bool al) /\ Bw w w') :
  Calls Tryz.prog 307 #[.pointer (some ⟨X, 0, none⟩), .pointer (some ⟨G, k, none⟩), .func (.func N) #[] #[]] w fun e w' =>
   e = .returned (.tuple #[]) /\ ∃ v', w'.rowIs X 339 4 (codF c (.pointer (some ⟨R, 0, none⟩)) outv (bad || !al)) /\ w'.rowIs G t n (updF f k (.string s)) /\ w'.rowIs R 440 2 (rdF v') /\ SlX w' NL v' rest /\ Kept [X, G, R] w w' := by
 have hc1 : w.cell? ⟨X, 1, none⟩ = some (.pointer (some ⟨R, 0, none⟩)) := World.rowIs.cell hX (i := 1) (by decide)
 have hsl := aG_ s
 have hpl : (putV s.size).length <= 10 := ad_ (by omega)
 obtain ⟨HB, HX, HG, HN⟩ := kq4 (hs_ NL R 65536 (hNL R (by simp)) v (aF_ s) rest w (by rw [hsl]; exact hget) (by simp only [lA]; rw [hsl]; omega) (by rw [hsl]; exact hs) (by omega) hR (by rw [hsl]; exact hv)) hX hG hN
 clear hX hG hN hget hR hv
 go_enter Tryz.func307, Tryz.ntmps307
 go_wp2_with fail
 refine HB.o.mono ?_
 rintro e w1 ⟨vp, v', rfl, hown1, hR1, hv1, hk1⟩
 obtain ⟨Ap, cp, rfl, hbyp⟩ := hown1.val
 rw [hsl]
 have hX1 := hk1.row (G := X) (by simp [hXR]) HX.o
 have hG1 := hk1.row (G := G) (by simp [hGR]) HG.o
 have h13 : w1.cell? ⟨X, 3, none⟩ = some (.bool bad) := World.rowIs.cell hX1 (i := 3) (by decide)
 have hf13 : w1.frozen? ⟨X, 3, none⟩ = false := World.rowIs.frozen hX1 3
 have h1g : w1.cell? ⟨G, k, none⟩ = some (.string u0) := by rw [<- hf]; exact World.rowIs.cell hG1 hk
 have hf1g : w1.frozen? ⟨G, k, none⟩ = false := World.rowIs.frozen hG1 k
 have hconv : ∀ W, Byt W W.heap.size Ap cp (aF_ s) -> (convert 26 9 (.slice Ap s.size cp)).run Tryz.prog W = .ok (.string s) W := fun W h => by
  have := h.convert hsl
  rwa [str_nums] at this
 have hcv : (convert 26 9 (.slice Ap s.size cp)).run Tryz.prog (w1.setCell ⟨X, 3, none⟩ (.bool bad)) = .ok (.string s) (w1.setCell ⟨X, 3, none⟩ (.bool bad)) := by
  refine hconv _ (((Kept.refl [X] w1).setCell (p := ⟨X, 3, none⟩) (by simp) _).byt hbyp fun x off hA hm => ?_)
  obtain ⟨A', c', e, _, hlo⟩ := SlB.of_own hown1
  cases e
  have h1 := hlo x off hA
  have h2 := World.rowIs.lt HX.o
  simp at hm
  omega
 obtain ⟨w2, hw2, hX2, hG2, hR2, hv2, hk2⟩ := gJ_ hNL (k := k) (u := .string s) hXG hX1 hG1 hk1 hXR hGR hR1 hv1
 clear hconv
 cases bad with
 | true =>
  go_wp2_with fail
  go_end0
  rw [<- hw2]
  exact ⟨rfl, gK_ hNL (b := true) hXG hXR hX2 hG2 hR2 hv2 hk2 (BR _ _)⟩
 | false =>
  go_wp2_with fail
  rw [<- hw2]
  refine (HN.o w2).mono ?_
  rintro e w3 ⟨rfl, hb3⟩
  have hX3 := World.rowIs.of_block hX2 (hb3.block X (World.rowIs.lt hX2))
  have h33 : w3.cell? ⟨X, 3, none⟩ = some (.bool false) := World.rowIs.cell hX3 (i := 3) (by decide)
  have hf33 : w3.frozen? ⟨X, 3, none⟩ = false := World.rowIs.frozen hX3 3
  clear hX3 hw2
  go_wp2_with fail
  go_end0
  exact ⟨rfl, gK_ hNL (b := !al) hXG hXR hX2 hG2 hR2 hv2 hk2 hb3⟩
def RS (w : World) (N : List Nat) (X C R : Nat) (f : Nat -> Value) (rest : List Int) (bad : Bool) : Prop :=
 X ≠ C /\ X ≠ R /\ C ≠ R /\ w.rowIs C 36 10 f /\ w.rowIs X 339 4 (codF (.pointer (some ⟨C, 0, none⟩)) (.pointer (some ⟨R, 0, none⟩)) (.slice none 0 0) bad) /\ (∀ k ∈ [X, C, R], k ∈ N) /\ ∃ v, w.rowIs R 440 2 (rdF v) /\ SlX w N v rest
theorem RS.bad {w : World} {N : List Nat} {X C R : Nat} {f : Nat -> Value} {rest rest' : List Int} {bad bad' : Bool} (h : RS w N X C R f rest bad) (e' : rest = rest') (e : bad = bad') : RS w N X C R f rest' bad' := by subst e; subst e'; exact h
theorem RS.row {w : World} {N : List Nat} {X C R : Nat} {f g : Nat -> Value} {rest : List Int} {bad : Bool} (h : RS w N X C R f rest bad) (e : ∀ i, i < 10 -> f i = g i) : RS w N X C R g rest bad := ⟨h.1, h.2.1, h.2.2.1, World.rowIs.congr h.2.2.2.1 e, h.2.2.2.2⟩
theorem RS.lt {w : World} {N : List Nat} {X C R : Nat} {f : Nat -> Value} {rest : List Int} {bad : Bool} (h : RS w N X C R f rest bad) : X < w.heap.size /\ C < w.heap.size /\ R < w.heap.size := ⟨World.rowIs.lt h.2.2.2.2.1, World.rowIs.lt h.2.2.2.1, by obtain ⟨v, h1, _⟩ := h.2.2.2.2.2.2; exact World.rowIs.lt h1⟩
theorem RS.kept {w w' : World} {N L : List Nat} {X C R : Nat} {f : Nat -> Value} {rest : List Int} {bad : Bool} (h : RS w N X C R f rest bad) (hk : Kept L w w') (hL : ∀ k ∈ L, k ∈ N /\ k ≠ X /\ k ≠ C /\ k ≠ R) : RS w' N X C R f rest bad := by
 obtain ⟨h1, h2, h3, h4, h5, h0, v, h6, h7⟩ := h
 exact ⟨h1, h2, h3, hk.row (fun hm => (hL _ hm).2.2.1 rfl) h4, hk.row (fun hm => (hL _ hm).2.1 rfl) h5, h0, v, hk.row (fun hm => (hL _ hm).2.2.2 rfl) h6, h7.kept hk (fun k hm => (hL k hm).1)⟩
theorem RS.below {w w' : World} {N : List Nat} {X C R : Nat} {f : Nat -> Value} {rest : List Int} {bad : Bool} (h : RS w N X C R f rest bad) (hb : Bw w w') : RS w' N X C R f rest bad := h.kept (Kept.of_below (L := []) hb) (by simp)
theorem RS.more {w : World} {N : List Nat} {X C R G : Nat} {f : Nat -> Value} {rest : List Int} {bad : Bool} (h : RS w N X C R f rest bad) (w0 : World) (hG : w0.heap.size <= G) (h0 : RS w0 N X C R f rest bad) (hr : 0 < rest.length) (hb : Bw w0 w) : RS w (G :: N) X C R f rest bad := by
 obtain ⟨_, _, _, _, _, _, v0, h6, h7⟩ := h0
 obtain ⟨h1, h2, h3, h4, h5, hN, _, _, _⟩ := h
 have h8 := h7.kept (Kept.of_below (L := []) hb) (by simp)
 obtain ⟨A, c, e, hby, hn⟩ := h7
 obtain ⟨b, off, rfl, hlt, _⟩ := hby.at (i := 0) hr
 obtain ⟨A', c', e', hby', hn'⟩ := h8
 rw [e] at e'
 cases e'
 refine ⟨h1, h2, h3, h4, h5, fun k hk => mM _ (hN k hk), v0, World.rowIs.of_block h6 (hb.block _ (World.rowIs.lt h6)), _, _, e, hby', fun b' off' e1 hm => ?_⟩
 cases e1
 rcases List.mem_cons.1 hm with rfl | hm
 ·omega
 exact hn' _ _ rfl hm
theorem RS.less {w : World} {N N' : List Nat} {X C R : Nat} {f : Nat -> Value} {rest : List Int} {bad : Bool} (h : RS w N X C R f rest bad) (hN : ∀ k ∈ N', k ∈ N) (h0 : ∀ k ∈ [X, C, R], k ∈ N') : RS w N' X C R f rest bad := by
 obtain ⟨h1, h2, h3, h4, h5, _, v, h6, A, c, e, hby, hn⟩ := h
 exact ⟨h1, h2, h3, h4, h5, h0, v, h6, A, c, e, hby, fun b off e1 hm => hn b off e1 (hN b hm)⟩
theorem hJ_ {w : World} {NL : List Nat} {X C R : Nat} {f : Nat -> Value} {rest : List Int} {bad al : Bool} (k : Nat) (s u0 : ByteArray) (N : Nat) (h : RS w NL X C R f (putV s.size ++ (aF_ s ++ rest)) bad) (hk : k < 10) (hf : f k = .string u0)
  (eg : ∀ args w, (callFunc N args).run Tryz.prog w = .ok (.enter N args) w) (hN : ∀ w, Calls Tryz.prog N #[.string s] w fun e w' => e = .returned (.bool al) /\ Bw w w') (hs : s.size <= 65536) (hrl : rest.length <= 500000) :
  Calls Tryz.prog 307 #[.pointer (some ⟨X, 0, none⟩), .pointer (some ⟨C, k, none⟩), .func (.func N) #[] #[]] w fun e w' =>
   e = .returned (.tuple #[]) /\ RS w' NL X C R (updF f k (.string s)) rest (bad || !al) /\ Kept [X, C, R] w w' := by
 obtain ⟨h1, h2, h3, h4, h5, h0, v, h6, h7⟩ := h
 exact (fA_ X C R k NL h0 36 10 f s u0 _ _ v rest bad al N w h4 hk hf h1 h2 h3 h5 h6 h7 (cj_ (by omega)) hs hrl eg hN).mono fun e w' ⟨e1, v', e2, e3, e4, e5, e6⟩ => ⟨e1, ⟨h1, h2, h3, e3, e2, h0, v', e4, e5⟩, e6⟩
theorem ft_ {w : World} {NL : List Nat} {X C R G k n : Nat} {t : TypeId} {f g : Nat -> Value} {rest : List Int} {bad al : Bool} (s u0 : ByteArray) (N : Nat) (h : RS w NL X C R f (putV s.size ++ (aF_ s ++ rest)) bad) (hG : w.rowIs G t n g) (hGX : X ≠ G) (hGR : G ≠ R) (hGC : C ≠ G) (hGN : G ∈ NL) (hk : k < n) (hg : g k = .string u0)
  (eg : ∀ args w, (callFunc N args).run Tryz.prog w = .ok (.enter N args) w) (hN : ∀ w, Calls Tryz.prog N #[.string s] w fun e w' => e = .returned (.bool al) /\ Bw w w') (hs : s.size <= 65536) (hrl : rest.length <= 500000) :
  Calls Tryz.prog 307 #[.pointer (some ⟨X, 0, none⟩), .pointer (some ⟨G, k, none⟩), .func (.func N) #[] #[]] w fun e w' =>
   e = .returned (.tuple #[]) /\ RS w' NL X C R f rest (bad || !al) /\ w'.rowIs G t n (updF g k (.string s)) /\ Kept [X, G, R] w w' := by
 obtain ⟨h1, h2, h3, h4, h5, h0, v, h6, h7⟩ := h
 have hNL : ∀ k ∈ [X, G, R], k ∈ NL := fun k hk => by
  simp only [List.mem_cons, List.not_mem_nil, or_false] at hk
  rcases hk with rfl | rfl | rfl
  ·exact h0 _ (by simp)
  ·exact hGN
  exact h0 _ (by simp)
 exact (fA_ X G R k NL hNL t n g s u0 _ _ v rest bad al N w hG hk hg hGX h2 hGR h5 h6 h7 (cj_ (by omega)) hs hrl eg hN).mono fun e w' ⟨e1, v', e2, e3, e4, e5, e6⟩ => ⟨e1, ⟨h1, h2, h3, e6.row (by simp; exact ⟨fun e => h1 e.symm, hGC, h3⟩) h4, e2, h0, v', e4, e5⟩, e3, e6⟩
end Go.Proofs.YtnjhpgmbfblgaaaGreat.Ord
