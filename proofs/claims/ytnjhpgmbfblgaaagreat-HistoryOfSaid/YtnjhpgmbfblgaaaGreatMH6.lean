/- Walk of history.answer; Walk of history.own. -/
import Derived.Test.YtnjhpgmbfblgaaaGreatMH4
import Derived.Test.YtnjhpgmbfblgaaaGreatMR25
namespace Go.Proofs.YtnjhpgmbfblgaaaGreat.Ord
set_option maxRecDepth 100000
set_option maxHeartbeats 16000000
open Go.RowKit
set_option linter.unusedVariables false
theorem f39_name : (Tryz.f107.name == "runtime.NumGoroutine") = false := by decide
theorem f39_body : Tryz.f107.body.isSome = true := rfl
theorem f40_name : (Tryz.f108.name == "runtime.NumGoroutine") = false := by decide
theorem f40_body : Tryz.f108.body.isSome = true := rfl
theorem f38_name : (Tryz.f106.name == "runtime.NumGoroutine") = false := by decide
theorem f38_body : Tryz.f106.body.isSome = true := rfl

theorem elv_of_own {α : Type} {enc : α -> Value} {w : World} {base : Nat} {e : TypeId} {v : Value} {xs : List α} (h : w.ownsRow base e 1 v xs.length (xs.map enc)) : ∃ A c, v = .slice A xs.length c /\ ElV enc w w.heap.size A xs /\ ∀ b off, A = some ⟨b, off, none⟩ -> base <= b := by
 rcases owns_shape h (by decide) with ⟨e1, e2, e3⟩ | ⟨g, cap, e1, e2, e3, e4, e5⟩
 ·subst e1
  have : xs = [] := List.eq_nil_of_length_eq_zero e2
  subst this
  exact ⟨none, 0, rfl, fun i x hi => by simp at hi, fun b off e => by cases e⟩
 ·subst e1
  refine ⟨_, cap, rfl, fun i x hi => ⟨g, 0, rfl, e3, ?_⟩, fun b off e => by cases e; exact e2⟩
  have hil := (List.getElem?_eq_some_iff.1 hi).1
  rw [h.cellAt (0 + i) (by omega), Nat.zero_add, List.getElem?_map, hi]
  rfl
theorem ElV.kept {α : Type} {enc : α -> Value} {w w' : World} {L : List Nat} {A : Option Addr} {xs : List α} (h : ElV enc w w.heap.size A xs) (hk : Kept L w w') (hL : ∀ b off, A = some ⟨b, off, none⟩ -> b ∉ L) : ElV enc w' w'.heap.size A xs := by
 intro i x hi
 obtain ⟨b, off, h1, h2, h3⟩ := h i x hi
 refine ⟨b, off, h1, Nat.lt_of_lt_of_le h2 hk.size, ?_⟩
 rw [World.cell?_of_block (w := w) (hk.block b h2 (hL b off h1))]
 exact h3

def respF (op err : Int) (vi : Value) (ver count : Int) (vn : Value) : Nat -> Value := listF [.int .i64 op, .int .i64 err, vi, .int .u64 ver, .int .i64 count, vn]
theorem respF_set2 (op err : Int) (vi vi' : Value) (ver count : Int) (vn : Value) : ∀ j, j < 6 -> (if j = 2 then vi' else respF op err vi ver count vn j) = respF op err vi' ver count vn j := by
 intro j hj
 match j, hj with
 | 0, _ => rfl
 | 1, _ => rfl
 | 2, _ => rfl
 | 3, _ => rfl
 | 4, _ => rfl
 | 5, _ => rfl
theorem respF_set5 (op err : Int) (vi : Value) (ver count : Int) (vn vn' : Value) : ∀ j, j < 6 -> (if j = 5 then vn' else respF op err vi ver count vn j) = respF op err vi ver count vn' j := by
 intro j hj
 match j, hj with
 | 0, _ => rfl
 | 1, _ => rfl
 | 2, _ => rfl
 | 3, _ => rfl
 | 4, _ => rfl
 | 5, _ => rfl

/-- what holds of a world, and of all later ones in which only blocks of N and new ones are written -/
def Stab (N : Nat -> Prop) (w : World) (P : World -> Prop) : Prop := ∀ L W, Kept L w W -> (∀ k ∈ L, N k ∨ w.heap.size <= k) -> P W
theorem Stab.now {N : Nat -> Prop} {w : World} {P : World -> Prop} (h : Stab N w P) : P w := h [] w (Kept.refl _ _) (by simp)
theorem Stab.step {N N' : Nat -> Prop} {L : List Nat} {w w' : World} {P : World -> Prop} (h : Stab N w P) (hk : Kept L w w') (hL : ∀ k ∈ L, N k ∨ w.heap.size <= k) (hN : ∀ k, N' k -> N k ∨ w.heap.size <= k) : Stab N' w' P := by
 intro L' W hk' hL'
 refine h (L ++ L') W ((hk.mono (by simp_all)).trans (hk'.mono (by simp_all))) fun k hm => ?_
 rcases List.mem_append.1 hm with hm | hm
 ·exact hL k hm
 ·rcases hL' k hm with h1 | h1
  ·exact hN k h1
  ·exact .inr (Nat.le_trans hk.size h1)
theorem Stab.imp {N : Nat -> Prop} {w : World} {P Q : World -> Prop} (h : Stab N w P) (hi : ∀ W, P W -> Q W) : Stab N w Q := fun L W h1 h2 => hi W (h L W h1 h2)
theorem Stab.and {N : Nat -> Prop} {w : World} {P Q : World -> Prop} (h : Stab N w P) (h' : Stab N w Q) : Stab N w fun W => P W /\ Q W := fun L W h1 h2 => ⟨h L W h1 h2, h' L W h1 h2⟩
/-- what a lim bounds is stable against blocks from lim on -/
theorem Stab.of_lim {N : Nat -> Prop} {w : World} {lim : Nat} {P : Nat -> World -> Prop} (hP : ∀ {B B' W W'}, P B W -> Below B' W W' -> B <= B' -> P B W') (hM : ∀ {B B' W}, P B W -> B <= B' -> P B' W) (h : P lim w) (hl : lim <= w.heap.size) (hN : ∀ k, N k -> lim <= k) : Stab N w fun W => P W.heap.size W := by
 intro L W hk hL
 have hb : Below lim w W := hk.below hl fun k hk => by rcases hL k hk with h1 | h1; exact hN k h1; omega
 exact hM (hP h hb (Nat.le_refl _)) (Nat.le_trans hl hk.size)
/-- blocks that are not there yet need not be listed -/
theorem kept_old {L : List Nat} {w w' : World} (h : Kept L w w') : Kept (L.filter fun k => decide (k < w.heap.size)) w w' := ⟨h.os, h.tape, h.output, h.size, fun k hk hn => h.block k hk fun hm => hn (List.mem_filter.2 ⟨hm, by simpa using hk⟩)⟩
theorem kept_old_mem {L : List Nat} {w : World} {k : Nat} (h : k ∈ L.filter fun k => decide (k < w.heap.size)) : k ∈ L /\ k < w.heap.size := by
 have := List.mem_filter.1 h
 exact ⟨this.1, by simpa using this.2⟩
theorem resp_oneL (a b d e : Int) (A A' : Option Addr) (n c n' c' : Nat) : #[Value.int .i64 a, .int .i64 b, .slice A n c, .int .u64 d, .int .i64 e, .slice A' n' c'].all (·.oneCell') = true := all_oneCell_toArray (cs := [Value.int .i64 a, .int .i64 b, .slice A n c, .int .u64 d, .int .i64 e, .slice A' n' c']) fun v hv => by
 simp only [List.mem_cons, List.not_mem_nil, or_false] at hv
 rcases hv with rfl | rfl | rfl | rfl | rfl | rfl <;> rfl
theorem resp_sizeA (a b c d e f : Value) : (Tryz.prog.info? 40).map (·.size) = some #[a, b, c, d, e, f].size := by
 show _ = some 6
 kernel_rfl
theorem ans_end {W0 W wr w : World} {b0 b1 n : Nat} {G A9 : Option Addr} {nums : List Int} {f0 f1 : Nat -> Value} (hw : Below w.heap.size w W0) (h0 : w.heap.size = b0) (h1 : b1 = b0 + 1) (h2 : W0.heap.size = b0 + 2) (hkp : wr = W ∨ ∃ g, G = some ⟨g, 0, none⟩ /\ Kept [g] W wr) (hk : Kept [b0] W0 W)
  (hg : ∀ g, G = some ⟨g, 0, none⟩ -> W0.heap.size <= g /\ g < n /\ ∀ b off, A9 = some ⟨b, off, none⟩ -> b ≠ g) (hr0 : W.rowIs b0 40 6 f0) (hr1 : W0.rowIs b1 40 6 f1) (hn : ElV (Value.int .u64) W W.heap.size A9 nums) :
  wr.rowIs b0 40 6 f0 /\ wr.rowIs b1 40 6 f1 /\ ElV (Value.int .u64) wr wr.heap.size A9 nums /\ Below w.heap.size w wr /\ W0.heap.size <= wr.heap.size := by
 have hk2 : ∃ L, Kept L W wr /\ ∀ g ∈ L, W0.heap.size <= g /\ ∀ b off, A9 = some ⟨b, off, none⟩ -> b ≠ g := by
  rcases hkp with rfl | ⟨g, e, h⟩
  ·exact ⟨[], Kept.refl _ _, by simp⟩
  ·exact ⟨[g], h, fun k hk => by simp at hk; subst hk; have := hg _ e; exact ⟨this.1, this.2.2⟩⟩
 obtain ⟨L, hkL, hL⟩ := hk2
 refine ⟨hkL.row (fun h => by have := (hL _ h).1; omega) hr0, hkL.row (fun h => by have := (hL _ h).1; omega) (hk.row (by simp; omega) hr1), hn.kept hkL fun b off e hm => (hL _ hm).2 b off e rfl, hw.trans ((hk.below (B := w.heap.size) hw.size (by simp; omega)).trans (hkL.below (Nat.le_trans hw.size hk.size) fun k hk => by have := (hL k hk).1; omega)), Nat.le_trans hk.size hkL.size⟩
theorem ans_mid {W0 w6 w9 : World} {b0 lim cap : Nat} {G : Option Addr} {items : List ItemR} {nums : List Int} {A9 : Option Addr} {c9 : Nat} (u2 u5 : Value) (hb0 : b0 < W0.heap.size) (hlim : lim <= b0) (hx : ItemX w6 lim W0.heap.size G cap items) (hb6 : Below W0.heap.size W0 w6) (hb9 : Below w6.heap.size w6 w9) (hn : ElV (Value.int .u64) w9 w9.heap.size A9 nums) (ha : ∀ b off, A9 = some ⟨b, off, none⟩ -> w6.heap.size <= b) :
  ItemX ((w9.setCell ⟨b0, 2, none⟩ u2).setCell ⟨b0, 5, none⟩ u5) lim W0.heap.size G cap items /\ Kept [b0] W0 ((w9.setCell ⟨b0, 2, none⟩ u2).setCell ⟨b0, 5, none⟩ u5) /\
  ElV (Value.int .u64) ((w9.setCell ⟨b0, 2, none⟩ u2).setCell ⟨b0, 5, none⟩ u5) ((w9.setCell ⟨b0, 2, none⟩ u2).setCell ⟨b0, 5, none⟩ u5).heap.size A9 nums /\ ∀ g, G = some ⟨g, 0, none⟩ -> W0.heap.size <= g /\ g < w6.heap.size /\ ∀ b off, A9 = some ⟨b, off, none⟩ -> b ≠ g := by
 have hk : Kept [b0] w9 ((w9.setCell ⟨b0, 2, none⟩ u2).setCell ⟨b0, 5, none⟩ u5) := ((Kept.refl [b0] w9).setCell (p := ⟨b0, 2, none⟩) (by simp) u2).setCell (p := ⟨b0, 5, none⟩) (by simp) u5
 have hk9 : Kept [b0] w6 w9 := Kept.of_below hb9
 refine ⟨hx.keepL (hk9.trans hk) (fun k h => by simp at h; omega), ((Kept.of_below hb6).trans hk9).trans hk, hn.kept hk fun b off e => ?_, fun g e => ?_⟩
 ·have := ha b off e
  have := hb6.size
  simp
  omega
 ·rcases hx with ⟨_, h, _⟩ | ⟨g', xs, e', ho, _⟩
  ·rw [e] at h; cases h
  ·rw [e] at e'
   cases e'
   have := owns_blk_lt ho
   exact ⟨this.1, this.2, fun b off eb => by have := ha b off eb; omega⟩

theorem answer22 (lim : Nat) (r : RespR) (vi vn : Value) (w : World) (h : RespOk w lim r vi vn) (hlim : lim <= w.heap.size) (hi : r.items.length <= 1000000) (hnm : r.nums.length <= 1000000) (hv : ∀ x ∈ r.items, x.val.length <= 100000000) :
  Calls Tryz.prog 57 #[.agg (respC r vi vn).toArray] w fun e w' => ∃ vi' vn', e = .returned (.agg (respC r vi' vn').toArray) /\ ((∃ A c, vi' = .slice A r.items.length c) /\ ∃ A' c', vn' = .slice A' r.nums.length c') /\ Stab (fun k => lim <= k /\ k < w.heap.size) w' (fun W => RespOk W W.heap.size r vi' vn') /\ Below w.heap.size w w' := by
 obtain ⟨op, err, items, ver, count, nums⟩ := r
 obtain ⟨⟨h1, A, c, rfl, h2⟩, h3, A', c', rfl, h4⟩ := h
 simp only [respC] at *
 have hbe := below2 w (.cells #[.int .i64 op, .int .i64 err, .slice A items.length c, .int .u64 ver, .int .i64 count, .slice A' nums.length c'] 40) (.cells #[.int .i64 0, .int .i64 0, .slice none 0 0, .int .u64 0, .int .i64 0, .slice none 0 0] 40)
 have hr0 : ((w.alloc (.cells #[.int .i64 op, .int .i64 err, .slice A items.length c, .int .u64 ver, .int .i64 count, .slice A' nums.length c'] 40)).alloc (.cells #[.int .i64 0, .int .i64 0, .slice none 0 0, .int .u64 0, .int .i64 0, .slice none 0 0] 40)).rowIs w.heap.size 40 6 (respF op err (.slice A items.length c) ver count (.slice A' nums.length c')) := World.rowIs.alloc (row_list w [.int .i64 op, .int .i64 err, .slice A items.length c, .int .u64 ver, .int .i64 count, .slice A' nums.length c'] 40) _
 have hr1 : ((w.alloc (.cells #[.int .i64 op, .int .i64 err, .slice A items.length c, .int .u64 ver, .int .i64 count, .slice A' nums.length c'] 40)).alloc (.cells #[.int .i64 0, .int .i64 0, .slice none 0 0, .int .u64 0, .int .i64 0, .slice none 0 0] 40)).rowIs (w.heap.size + 1) 40 6 (respF 0 0 (.slice none 0 0) 0 0 (.slice none 0 0)) := by
  have := row_list (w.alloc (.cells #[.int .i64 op, .int .i64 err, .slice A items.length c, .int .u64 ver, .int .i64 count, .slice A' nums.length c'] 40)) [.int .i64 0, .int .i64 0, .slice none 0 0, .int .u64 0, .int .i64 0, .slice none 0 0] 40
  simpa [respF] using this
 have hsz : ((w.alloc (.cells #[.int .i64 op, .int .i64 err, .slice A items.length c, .int .u64 ver, .int .i64 count, .slice A' nums.length c'] 40)).alloc (.cells #[.int .i64 0, .int .i64 0, .slice none 0 0, .int .u64 0, .int .i64 0, .slice none 0 0] 40)).heap.size = w.heap.size + 2 := by simp
 obtain ⟨W0, hW0⟩ : ∃ W0, (w.alloc (.cells #[.int .i64 op, .int .i64 err, .slice A items.length c, .int .u64 ver, .int .i64 count, .slice A' nums.length c'] 40)).alloc (.cells #[.int .i64 0, .int .i64 0, .slice none 0 0, .int .u64 0, .int .i64 0, .slice none 0 0] 40) = W0 := ⟨_, rfl⟩
 rw [hW0] at hbe hr0 hr1 hsz
 have HB := kp hbe
 have HW0 := kp hW0
 have HI := kp (h2.below hbe hlim)
 have HN := kp ((h4.below hbe hlim).mono (Nat.le_trans hlim hbe.size))
 have HR0 := kp hr0
 have HR1 := kp hr1
 have HSZ := kp hsz
 clear h2 h4 hW0 hbe hr0 hr1 hsz
 go_enter Tryz.func57, Tryz.ntmps57
 go_upto_region 1 with (fail)
 rw [HW0.out]
 have c02 : W0.drew.cell? ⟨w.heap.size, 2, none⟩ = some (.slice A items.length c) := HR0.out.cell (i := 2) (by decide)
 have c05 : W0.drew.cell? ⟨w.heap.size, 5, none⟩ = some (.slice A' nums.length c') := HR0.out.cell (i := 5) (by decide)
 go_region_law (first
  | ((with_reducible refine step_call_any (o := ⟨some 6, _, _, _, _, _⟩) rfl 107 _ _ rfl #[.slice A items.length c] ?_ Tryz.f107 Tryz.func107 f39_name f39_body (fun u w6 => ∃ G cap, u = .slice G items.length cap /\ ItemX w6 lim W0.heap.size G cap items /\ Below W0.heap.size W0 w6) ?_ ?_); (· simp only [y1, y2, y3]; rfl); (· exact (clone39 lim A items.length c items W0.drew rfl hi HI.out (Nat.le_trans hlim HB.out.size)).mono fun e w' ⟨G, cap, h1, h2, h3⟩ => ⟨_, h1, G, cap, rfl, h2, h3.os, h3.tape, h3.output, h3.size, h3.block⟩); rintro u6 w6 ⟨G6, cap6, rfl, hx6, hb6⟩; have HX6 := kp hx6; have HB6 := kp hb6; clear hx6 hb6; have c65 : w6.cell? ⟨w.heap.size, 5, none⟩ = some (.slice A' nums.length c') := World.rowIs.cell (World.rowIs.of_block HR0.out (HB6.out.block w.heap.size (by rw [HSZ.out]; omega))) (i := 5) (by decide))
  | ((with_reducible refine step_call_any (o := ⟨some 9, _, _, _, _, _⟩) rfl 108 _ _ rfl #[.slice A' nums.length c'] ?_ Tryz.f108 Tryz.func108 f40_name f40_body (fun u w9 => ∃ A9 c9, u = .slice A9 nums.length c9 /\ ElV (Value.int .u64) w9 w9.heap.size A9 nums /\ (∀ b off, A9 = some ⟨b, off, none⟩ -> w6.heap.size <= b) /\ Below w6.heap.size w6 w9) ?_ ?_); (· simp only [y1, y2, y3]; rfl); (· exact (clone40 A' nums.length c' nums w6 rfl hnm ((HN.out.below HB6.out (Nat.le_refl _)).mono HB6.out.size)).mono fun e w' ⟨v, h1, h2, h3⟩ => (by obtain ⟨A9, c9, rfl, h4, h5⟩ := elv_of_own h2; exact ⟨_, h1, A9, c9, rfl, h4, h5, h3⟩)); rintro u9 w9 ⟨A9, c9, rfl, hn9, ha9, hb9⟩; have HA9 := kp ha9; clear ha9; have HN9 := kp hn9; have HB9 := kp hb9; clear hn9 hb9; have hr9 := World.rowIs.of_block HR0.out ((HB6.out.trans (HB9.out.mono HB6.out.size)).block w.heap.size (by rw [HSZ.out]; omega)); have fz2 : w9.frozen? ⟨w.heap.size, 2, none⟩ = false := World.rowIs.frozen hr9 2; have fz5 : w9.frozen? ⟨w.heap.size, 5, none⟩ = false := World.rowIs.frozen hr9 5; have cc2 := World.rowIs.cell hr9 (i := 2) (by decide); have hr9s := World.rowIs.set hr9 2 (.slice G6 items.length cap6); have cc5 := World.rowIs.cell hr9s (i := 5) (by decide); have fz5s := World.rowIs.frozen hr9s 5; have HR9 := kp (World.rowIs.congr (World.rowIs.set (World.rowIs.congr hr9s (respF_set2 _ _ _ _ _ _ _)) 5 (.slice A9 nums.length c9)) (respF_set5 _ _ _ _ _ _ _)); clear hr9 hr9s fz5))
 all_goals
  have hx := ans_mid (b0 := w.heap.size) (c9 := c9) (.slice G6 items.length cap6) (.slice A9 nums.length c9) (by rw [HSZ.out]; omega) hlim HX6.out HB6.out HB9.out HN9.out HA9.out
  obtain ⟨W, hW⟩ : ∃ W, ((w9.setCell ⟨w.heap.size, 2, none⟩ (.slice G6 items.length cap6)).setCell ⟨w.heap.size, 5, none⟩ (.slice A9 nums.length c9)) = W := ⟨_, rfl⟩
  rw [hW] at hx ⊢
  rw [hW] at HR9
  obtain ⟨hx1, hx2, hx3, hx4⟩ := hx
  have HX := kp hx1
  have HK := kp hx2
  have HNN := kp hx3
  have HG := kp hx4
  have HA9b := kp (fun b off (e : A9 = some ⟨b, off, none⟩) => Nat.le_trans HB6.out.size (HA9.out b off e))
  clear hW hx1 hx2 hx3 hx4 cc2 cc5 fz2 fz5s c65 HB9 HB6 HX6 HN9 HA9 c02 c05
  have d2 : W.cell? ⟨w.heap.size, 2, none⟩ = some (.slice G6 items.length cap6) := HR9.out.cell (i := 2) (by decide)
  obtain ⟨n, hn⟩ : ∃ n, items.length = n := ⟨_, rfl⟩
  rw [hn] at hi h1 d2 HR9 ⊢
  have HNL := kp hn
  clear hn
  have hn' : n <= 9223372036854775807 := by unfold maxLen at h1; omega
  go_wp2_with fail
  go_loopw [15] (fun j wr => ∃ k : Nat, j = .int .i64 k /\ k <= n /\ ItemX wr lim W0.heap.size G6 cap6 items /\ (wr = W ∨ ∃ g, G6 = some ⟨g, 0, none⟩ /\ Kept [g] W wr)) (fun j _ => n - (intOf j).toNat)
  case atStart => exact ⟨0, by go_num, by omega, HX.out, .inl rfl⟩
  case round =>
   obtain ⟨k, rfl, hk, hx, hkp⟩ := hrel
   by_cases hlt : k < n
   ·have hg : decide ((k : Int) < (n : Int)) = true := by simp; omega
    have HX' := kp hx
    have HKP := kp hkp
    rcases hx with ⟨hx1, _, _⟩ | ⟨g, xs, rfl, ho, hc⟩
    ·have := HNL.out; rw [hx1] at this; simp at this; omega
    have hkl : k < items.length := by rw [HNL.out]; exact hlt
    obtain ⟨v, hcl, hdx⟩ := hc k _ (List.getElem?_eq_getElem hkl)
    have hvl := hv _ (List.getElem_mem hkl)
    have hri := kp (List.getElem?_eq_getElem hkl)
    obtain ⟨rr, hrr⟩ : ∃ rr, items[k] = rr := ⟨_, rfl⟩
    rw [hrr] at hcl hdx hvl
    have hri2 := kp (hri.out.trans (by rw [hrr]))
    clear hrr hc hri
    obtain ⟨q1, q2, A2, c2, rfl, hby, hbx⟩ := hdx
    have hglt := (owns_blk_lt ho).2
    have HGE := kp (owns_blk_lt ho).1
    have hkp2 : Kept [g] W wr := by
     rcases hkp with rfl | ⟨g', e, h⟩
     ·exact Kept.refl _ _
     ·cases e; exact h
    have HKP2 := kp hkp2
    have HCL := kp (clone_any A2 rr.val.length c2 rr.val wr.drew rfl hvl hby)
    have hrow : wr.rowIs w.heap.size 40 6 (respF op err (.slice (some ⟨g, 0, none⟩) n cap6) ver count (.slice A9 nums.length c9)) := hkp2.row (by simp; have := HGE.out; have := HSZ.out; omega) HR9.out
    have e1 : wr.drew.cell? ⟨w.heap.size, 2, none⟩ = some (.slice (some ⟨g, 0, none⟩) n cap6) := hrow.cell (i := 2) (by decide)
    have e2 : wr.drew.cell? ⟨g, k * 4 + 1, none⟩ = some (.slice A2 rr.val.length c2) := hcl 1 _ rfl
    have HROW := kp hrow
    have HWR := kp (World.rowIs.lt hrow)
    have hzl : 0 <= rr.val.length := Nat.zero_le _
    have HRV := kp hvl
    clear hkp hkp2 hcl ho hrow hby hbx hvl d2
    go_wp2_with fail
    go_region_law ((with_reducible refine step_call_any (o := ⟨some 27, _, _, _, _, _⟩) rfl 106 _ _ rfl #[.slice A2 rr.val.length c2] ?_ Tryz.f106 Tryz.func106 f38_name f38_body (fun u w6 => Own8 w6 wr.heap.size u rr.val /\ Below wr.heap.size wr w6) ?_ ?_); (· simp only [y1, y2, y3]; rfl); (· exact HCL.out.mono fun e w' ⟨u, h1, h2, h3⟩ => ⟨u, h1, h2, h3.os, h3.tape, h3.output, h3.size, h3.block⟩); rintro u6 w6 ⟨ho6, hb6⟩; obtain ⟨A6, c6, rfl, hby6, hlo6⟩ := SlB.of_own ho6; have HBY6 := kp hby6; have HLO6 := kp hlo6; have HB6 := kp hb6; clear ho6 hb6 hby6 hlo6; have hx6 := ItemX.keep (HX'.out) HB6.out; obtain ⟨⟨v4, e4⟩, e5⟩ := hx6.cell_at hri2.out; have HX6 := kp hx6; clear hx6; have e3 : w6.cell? ⟨w.heap.size, 2, none⟩ = some (.slice (some ⟨g, 0, none⟩) n cap6) := (World.rowIs.of_block HROW.out (HB6.out.block _ HWR.out)).cell (i := 2) (by decide))
    all_goals
     have hnew := ItemX.store HX6.out hri2.out (v := .slice A6 rr.val.length c6) ⟨q1, q2, A6, c6, rfl, HBY6.out, fun b off _ e => .inr (Nat.lt_of_lt_of_le hglt (HLO6.out b off e))⟩ (Nat.le_trans hlim HB.out.size)
     have hkn : Kept [g] W (w6.setCell ⟨g, k * 4 + 1, none⟩ (.slice A6 rr.val.length c6)) := (HKP2.out.trans (Kept.of_below HB6.out)).setCell (p := ⟨g, k * 4 + 1, none⟩) (by simp) _
     have HNEW := kp hnew
     have HKN := kp hkn
     clear hnew hkn
     go_wp2_with fail
     go_roundw
     case rel => exact ⟨k + 1, by go_num, by omega, HNEW.out, .inr ⟨g, rfl, HKN.out⟩⟩
     case measure => simp [intOf]; omega
   ·obtain rfl : k = n := by omega
    have hg : decide ((k : Int) < (k : Int)) = false := by simp
    have HX' := kp hx
    obtain ⟨f1, f2, f3, f4, f5⟩ := ans_end HB.out rfl rfl HSZ.out hkp HK.out HG.out HR9.out HR1.out HNN.out
    have g0 := f1.cell (i := 0) (by decide)
    have g1 := f1.cell (i := 1) (by decide)
    have g2 := f1.cell (i := 2) (by decide)
    have g3 := f1.cell (i := 3) (by decide)
    have g4 := f1.cell (i := 4) (by decide)
    have g5 := f1.cell (i := 5) (by decide)
    simp only [respF, listF, List.getD, List.getElem?_cons_zero, List.getElem?_cons_succ, Option.getD_some] at g0 g1 g2 g3 g4 g5
    have HT := kp (row_there f2)
    have HF2 := kp f2
    have HF3 := kp f3
    have HF4 := kp f4
    have HF5 := kp f5
    clear f1 f2 f3 f4 f5 hx hkp d2
    go_wp2_with ((with_reducible refine wpList_store_at2 (op := ⟨none, _, _, _, _, _⟩) rfl 40 _ _ rfl (w.heap.size + 1) 0 #[.int .i64 op, .int .i64 err, .slice G6 k cap6, .int .u64 ver, .int .i64 count, .slice A9 nums.length c9] ?_ ?_ ?_ (resp_sizeA _ _ _ _ _ _) ?_ ?_); (· rfl); (· rfl); (· exact HT.out); (· exact resp_oneL _ _ _ _ _ _ _ _ _ _); intro w7 hw7)
    have hD7 := store_all HF2.out [.int .i64 op, .int .i64 err, .slice G6 k cap6, .int .u64 ver, .int .i64 count, .slice A9 nums.length c9] rfl
    have hk7 : Kept [w.heap.size + 1] wr (wr.setCells (w.heap.size + 1) 0 [.int .i64 op, .int .i64 err, .slice G6 k cap6, .int .u64 ver, .int .i64 count, .slice A9 nums.length c9]) := kept_setCells (by simp) _ _ _ (Kept.refl _ _)
    have hc7 := row_cells hD7 [.int .i64 op, .int .i64 err, .slice G6 k cap6, .int .u64 ver, .int .i64 count, .slice A9 nums.length c9] rfl fun i hi => rfl
    obtain ⟨W7, hW7⟩ : ∃ W7, wr.setCells (w.heap.size + 1) 0 [.int .i64 op, .int .i64 err, .slice G6 k cap6, .int .u64 ver, .int .i64 count, .slice A9 nums.length c9] = W7 := ⟨_, rfl⟩
    rw [hW7] at hk7 hc7 ⊢
    have hload := run_loadVar_at W7 ⟨w.heap.size + 1, 0, none⟩ 40 _ _ hc7 Tryz.underlying40 rfl (resp_sizeA _ _ _ _ _ _)
    clear hD7 hW7 hc7
    refine bodyPost_ret (v := .agg #[.int .i64 op, .int .i64 err, .slice G6 k cap6, .int .u64 ver, .int .i64 count, .slice A9 nums.length c9]) ?_ rfl ?_
    ·exact results_cell1 (p := 2) (ty := 40) rfl _ _ ⟨w.heap.size + 1, 0, none⟩ _ rfl hload
    ·refine ⟨_, _, rfl, ⟨⟨_, _, by show _ = Value.slice _ items.length _; rw [HNL.out]⟩, _, _, rfl⟩, fun L W'' hkL hL => ⟨⟨?_, G6, cap6, ?_, ?_⟩, ?_, A9, c9, rfl, ?_⟩, ?_⟩
     ·show items.length <= maxLen
      rw [HNL.out]; exact h1
     ·show _ = Value.slice G6 items.length cap6
      rw [HNL.out]
     ·have hkF := kept_old hkL
      exact (((HX'.out).keepL hk7 (fun k hk => by simp at hk; have := HSZ.out; omega)).keepL hkF (fun k hk => by
       obtain ⟨hk1, hk2⟩ := kept_old_mem hk
       rcases hL k hk1 with h5 | h5
       ·have := HSZ.out; omega
       ·omega)).items
     ·exact h3
     ·refine (HF3.out.kept hk7 (fun b off e hm => by have := HA9b.out b off e; have := HSZ.out; simp at hm; omega)).kept (kept_old hkL) fun b off e hm => ?_
      obtain ⟨hk1, hk2⟩ := kept_old_mem hm
      have := HA9b.out b off e
      rcases hL b hk1 with h5 | h5
      ·have := HSZ.out; omega
      ·omega
     ·exact HF4.out.trans (hk7.below HF4.out.size (by simp))
theorem f37_name : (Tryz.f105.name == "runtime.NumGoroutine") = false := by decide
theorem f37_body : Tryz.f105.body.isSome = true := rfl
theorem callF_vk (ses num : Int) (bad : Bool) (op : Int) (key : ByteArray) (vk vv vt : Value) (life ver : Int) (tag pre chi : ByteArray) (rop rerr : Int) (vi : Value) (rver rcount : Int) (vn : Value) (asked done told tim : Int) (vk' : Value) : ∀ j, j < 23 -> (if j = 5 then vk' else listF (callL ses num bad op key vk vv vt life ver tag pre chi rop rerr vi rver rcount vn asked done told tim) j) = listF (callL ses num bad op key vk' vv vt life ver tag pre chi rop rerr vi rver rcount vn asked done told tim) j := by
 intro j hj
 match j, hj with
 | 0, _ => rfl
 | 1, _ => rfl
 | 2, _ => rfl
 | 3, _ => rfl
 | 4, _ => rfl
 | 5, _ => rfl
 | 6, _ => rfl
 | 7, _ => rfl
 | 8, _ => rfl
 | 9, _ => rfl
 | 10, _ => rfl
 | 11, _ => rfl
 | 12, _ => rfl
 | 13, _ => rfl
 | 14, _ => rfl
 | 15, _ => rfl
 | 16, _ => rfl
 | 17, _ => rfl
 | 18, _ => rfl
 | 19, _ => rfl
 | 20, _ => rfl
 | 21, _ => rfl
 | 22, _ => rfl
 | n + 23, h => exact absurd h (by omega)
theorem callF_vv (ses num : Int) (bad : Bool) (op : Int) (key : ByteArray) (vk vv vt : Value) (life ver : Int) (tag pre chi : ByteArray) (rop rerr : Int) (vi : Value) (rver rcount : Int) (vn : Value) (asked done told tim : Int) (vv' : Value) : ∀ j, j < 23 -> (if j = 6 then vv' else listF (callL ses num bad op key vk vv vt life ver tag pre chi rop rerr vi rver rcount vn asked done told tim) j) = listF (callL ses num bad op key vk vv' vt life ver tag pre chi rop rerr vi rver rcount vn asked done told tim) j := by
 intro j hj
 match j, hj with
 | 0, _ => rfl
 | 1, _ => rfl
 | 2, _ => rfl
 | 3, _ => rfl
 | 4, _ => rfl
 | 5, _ => rfl
 | 6, _ => rfl
 | 7, _ => rfl
 | 8, _ => rfl
 | 9, _ => rfl
 | 10, _ => rfl
 | 11, _ => rfl
 | 12, _ => rfl
 | 13, _ => rfl
 | 14, _ => rfl
 | 15, _ => rfl
 | 16, _ => rfl
 | 17, _ => rfl
 | 18, _ => rfl
 | 19, _ => rfl
 | 20, _ => rfl
 | 21, _ => rfl
 | 22, _ => rfl
 | n + 23, h => exact absurd h (by omega)
theorem callF_vt (ses num : Int) (bad : Bool) (op : Int) (key : ByteArray) (vk vv vt : Value) (life ver : Int) (tag pre chi : ByteArray) (rop rerr : Int) (vi : Value) (rver rcount : Int) (vn : Value) (asked done told tim : Int) (vt' : Value) : ∀ j, j < 23 -> (if j = 7 then vt' else listF (callL ses num bad op key vk vv vt life ver tag pre chi rop rerr vi rver rcount vn asked done told tim) j) = listF (callL ses num bad op key vk vv vt' life ver tag pre chi rop rerr vi rver rcount vn asked done told tim) j := by
 intro j hj
 match j, hj with
 | 0, _ => rfl
 | 1, _ => rfl
 | 2, _ => rfl
 | 3, _ => rfl
 | 4, _ => rfl
 | 5, _ => rfl
 | 6, _ => rfl
 | 7, _ => rfl
 | 8, _ => rfl
 | 9, _ => rfl
 | 10, _ => rfl
 | 11, _ => rfl
 | 12, _ => rfl
 | 13, _ => rfl
 | 14, _ => rfl
 | 15, _ => rfl
 | 16, _ => rfl
 | 17, _ => rfl
 | 18, _ => rfl
 | 19, _ => rfl
 | 20, _ => rfl
 | 21, _ => rfl
 | 22, _ => rfl
 | n + 23, h => exact absurd h (by omega)
theorem callF_resp (ses num : Int) (bad : Bool) (op : Int) (key : ByteArray) (vk vv vt : Value) (life ver : Int) (tag pre chi : ByteArray) (rop rerr : Int) (vi : Value) (rver rcount : Int) (vn : Value) (asked done told tim : Int) (rop' rerr' : Int) (vi' : Value) (rver' rcount' : Int) (vn' : Value) : ∀ j, j < 23 -> (if 13 <= j /\ j < 13 + [Value.int .i64 rop', .int .i64 rerr', vi', .int .u64 rver', .int .i64 rcount', vn'].length then [Value.int .i64 rop', .int .i64 rerr', vi', .int .u64 rver', .int .i64 rcount', vn'][j - 13]?.getD default else listF (callL ses num bad op key vk vv vt life ver tag pre chi rop rerr vi rver rcount vn asked done told tim) j) = listF (callL ses num bad op key vk vv vt life ver tag pre chi rop' rerr' vi' rver' rcount' vn' asked done told tim) j := by
 intro j hj
 match j, hj with
 | 0, _ => rfl
 | 1, _ => rfl
 | 2, _ => rfl
 | 3, _ => rfl
 | 4, _ => rfl
 | 5, _ => rfl
 | 6, _ => rfl
 | 7, _ => rfl
 | 8, _ => rfl
 | 9, _ => rfl
 | 10, _ => rfl
 | 11, _ => rfl
 | 12, _ => rfl
 | 13, _ => rfl
 | 14, _ => rfl
 | 15, _ => rfl
 | 16, _ => rfl
 | 17, _ => rfl
 | 18, _ => rfl
 | 19, _ => rfl
 | 20, _ => rfl
 | 21, _ => rfl
 | 22, _ => rfl
 | n + 23, h => exact absurd h (by omega)
theorem alloc_size1 (w : World) (o : Obj) : (w.alloc o).heap.size = w.heap.size + 1 := by simp
theorem call_sizeL (ses num : Int) (bad : Bool) (op : Int) (key : ByteArray) (vk vv vt : Value) (life ver : Int) (tag pre chi : ByteArray) (rop rerr : Int) (vi : Value) (rver rcount : Int) (vn : Value) (asked done told tim : Int) : (Tryz.prog.info? 52).map (·.size) = some (callL ses num bad op key vk vv vt life ver tag pre chi rop rerr vi rver rcount vn asked done told tim).length := by
 show _ = some 23
 kernel_rfl
theorem call_sizeA (ses num : Int) (bad : Bool) (op : Int) (key : ByteArray) (vk vv vt : Value) (life ver : Int) (tag pre chi : ByteArray) (rop rerr : Int) (vi : Value) (rver rcount : Int) (vn : Value) (asked done told tim : Int) : (Tryz.prog.info? 52).map (·.size) = some (callL ses num bad op key vk vv vt life ver tag pre chi rop rerr vi rver rcount vn asked done told tim).toArray.size := by
 show _ = some 23
 kernel_rfl
theorem call_one (ses num : Int) (bad : Bool) (op : Int) (key : ByteArray) (vk vv vt : Value) (life ver : Int) (tag pre chi : ByteArray) (rop rerr : Int) (vi : Value) (rver rcount : Int) (vn : Value) (asked done told tim : Int) (h1 : vk.oneCell' = true) (h2 : vv.oneCell' = true) (h3 : vt.oneCell' = true) (h4 : vi.oneCell' = true) (h5 : vn.oneCell' = true) : (callL ses num bad op key vk vv vt life ver tag pre chi rop rerr vi rver rcount vn asked done told tim).toArray.all (·.oneCell') = true := all_oneCell_toArray fun v hv => by
 simp only [callL, List.mem_cons, List.not_mem_nil, or_false] at hv
 rcases hv with rfl | rfl | rfl | rfl | rfl | rfl | rfl | rfl | rfl | rfl | rfl | rfl | rfl | rfl | rfl | rfl | rfl | rfl | rfl | rfl | rfl | rfl | rfl <;> first | rfl | assumption
/-- elements in blocks from base on -/
def FEl {α : Type} (enc : α -> Value) (base : Nat) (w : World) (A : Option Addr) (xs : List α) : Prop := ElV enc w w.heap.size A xs /\ ∀ b off, A = some ⟨b, off, none⟩ -> base <= b
theorem FEl.kept {α : Type} {enc : α -> Value} {base : Nat} {w w' : World} {L : List Nat} {A : Option Addr} {xs : List α} (h : FEl enc base w A xs) (hk : Kept L w w') (hL : ∀ k ∈ L, k < base ∨ w.heap.size <= k) : FEl enc base w' A xs := by
 refine ⟨h.1.kept (kept_old hk) fun b off e hm => ?_, h.2⟩
 have h1 := h.2 b off e
 obtain ⟨h2, h3⟩ := kept_old_mem hm
 have := hL b h2
 omega
/-- bytes in blocks from base on -/
def DatF (base : Nat) (w : World) (A : Option Addr) (c : Nat) (xs : List Int) : Prop := Byt w w.heap.size A c xs /\ ∀ b off, A = some ⟨b, off, none⟩ -> base <= b
theorem DatF.kept {base : Nat} {w w' : World} {L : List Nat} {A : Option Addr} {c : Nat} {xs : List Int} (h : DatF base w A c xs) (hk : Kept L w w') (hL : ∀ k ∈ L, k < base ∨ w.heap.size <= k) : DatF base w' A c xs := by
 refine ⟨?_, h.2⟩
 by_cases hx : xs = []
 ·subst hx
  exact ⟨h.1.1, h.1.2.1, fun i hi => absurd hi (by simp)⟩
 ·refine (kept_old hk).byt h.1 fun b off e hm => ?_
  have h1 := h.2 b off e
  obtain ⟨h2, h3⟩ := kept_old_mem hm
  have := hL b h2
  omega
theorem own_mid {W0 w6 w9 : World} {b0 lim : Nat} {keys tags : List ByteArray} {A6 A9 : Option Addr} {c6 : Nat} (u5 u7 : Value) (hb0 : b0 < W0.heap.size) (hlim : lim <= b0) (hb6 : Below W0.heap.size W0 w6) (hb9 : Below w6.heap.size w6 w9) (h6 : ElV Value.string w6 w6.heap.size A6 keys) (l6 : ∀ b off, A6 = some ⟨b, off, none⟩ -> W0.heap.size <= b) (h9 : ElV Value.string w9 w9.heap.size A9 tags) (l9 : ∀ b off, A9 = some ⟨b, off, none⟩ -> w6.heap.size <= b) :
  Kept [b0] W0 ((w9.setCell ⟨b0, 5, none⟩ u5).setCell ⟨b0, 7, none⟩ u7) /\ FEl Value.string W0.heap.size ((w9.setCell ⟨b0, 5, none⟩ u5).setCell ⟨b0, 7, none⟩ u7) A6 keys /\ FEl Value.string W0.heap.size ((w9.setCell ⟨b0, 5, none⟩ u5).setCell ⟨b0, 7, none⟩ u7) A9 tags := by
 have hk : Kept [b0] w9 ((w9.setCell ⟨b0, 5, none⟩ u5).setCell ⟨b0, 7, none⟩ u7) := ((Kept.refl [b0] w9).setCell (p := ⟨b0, 5, none⟩) (by simp) u5).setCell (p := ⟨b0, 7, none⟩) (by simp) u7
 have hk9 : Kept [b0] w6 w9 := Kept.of_below hb9
 have hL : ∀ {n}, ∀ k ∈ [b0], k < W0.heap.size ∨ n <= k := fun k hk => by simp at hk; omega
 exact ⟨((Kept.of_below hb6).trans hk9).trans hk, ((show FEl Value.string W0.heap.size w6 A6 keys from ⟨h6, l6⟩).kept hk9 hL).kept hk hL, (show FEl Value.string W0.heap.size w9 A9 tags from ⟨h9, fun b off e => Nat.le_trans hb6.size (l9 b off e)⟩).kept hk hL⟩


theorem own21 (lim : Nat) (c : CallR) (p : CallV) (w : World) (h : CallOk w lim c p) (hlim : lim <= w.heap.size) (hk : c.cmd.keys.length <= 1000000) (ht : c.cmd.tags.length <= 1000000) (hvl : c.cmd.val.length <= 100000000) (hi : c.resp.items.length <= 1000000) (hnm : c.resp.nums.length <= 1000000) (hv : ∀ x ∈ c.resp.items, x.val.length <= 100000000) :
  Calls Tryz.prog 56 #[.agg (callC c p).toArray] w fun e w' => ∃ p', e = .returned (.agg (callC c p').toArray) /\ Stab (fun k => lim <= k /\ k < w.heap.size) w' (fun W => CallOk W W.heap.size c p') /\ Below w.heap.size w w' := by
 obtain ⟨vk, vv, vt, vi, vn⟩ := p
 obtain ⟨ses, num, bad, cm, rs, asked, done, told, tim⟩ := c
 obtain ⟨hcm, hrs⟩ := h
 simp only [callC] at *
 obtain ⟨⟨a1, Ak, ck, rfl, a2⟩, ⟨a3, a4, Av, cv, rfl, a5⟩, ⟨a6, At, ct, rfl, a7⟩⟩ := hcm
 obtain ⟨op, key, keys, val, tags, life, ver, tag, pre, chi⟩ := cm
 simp only at *
 have HANS := kp (fun W hW hl => answer22 lim rs vi vn W hW hl hi hnm hv)
 obtain ⟨⟨h1, Ai, ci, rfl, h2⟩, h3, An, cn, rfl, h4⟩ := hrs
 have hrs0 : RespOk w lim rs (.slice Ai rs.items.length ci) (.slice An rs.nums.length cn) := ⟨⟨h1, Ai, ci, rfl, h2⟩, h3, An, cn, rfl, h4⟩
 clear h1 h2 h3 h4
 obtain ⟨rop, rerr, items, rver, rcount, nums⟩ := rs
 simp only [respC] at *
 have hbe := below2 w (.cells (callL ses num bad op key (.slice Ak keys.length ck) (.slice Av val.length cv) (.slice At tags.length ct) life ver tag pre chi rop rerr (.slice Ai items.length ci) rver rcount (.slice An nums.length cn) asked done told tim).toArray 52) (.cells (callL 0 0 false 0 ⟨#[]⟩ (.slice none 0 0) (.slice none 0 0) (.slice none 0 0) 0 0 ⟨#[]⟩ ⟨#[]⟩ ⟨#[]⟩ 0 0 (.slice none 0 0) 0 0 (.slice none 0 0) 0 0 0 0).toArray 52)
 have hr0 := World.rowIs.alloc (row_list w (callL ses num bad op key (.slice Ak keys.length ck) (.slice Av val.length cv) (.slice At tags.length ct) life ver tag pre chi rop rerr (.slice Ai items.length ci) rver rcount (.slice An nums.length cn) asked done told tim) 52) (.cells (callL 0 0 false 0 ⟨#[]⟩ (.slice none 0 0) (.slice none 0 0) (.slice none 0 0) 0 0 ⟨#[]⟩ ⟨#[]⟩ ⟨#[]⟩ 0 0 (.slice none 0 0) 0 0 (.slice none 0 0) 0 0 0 0).toArray 52)
 have hr0 : World.rowIs _ w.heap.size 52 23 _ := hr0
 have hr1 : World.rowIs _ _ 52 23 _ := row_list (w.alloc (.cells (callL ses num bad op key (.slice Ak keys.length ck) (.slice Av val.length cv) (.slice At tags.length ct) life ver tag pre chi rop rerr (.slice Ai items.length ci) rver rcount (.slice An nums.length cn) asked done told tim).toArray 52)) (callL 0 0 false 0 ⟨#[]⟩ (.slice none 0 0) (.slice none 0 0) (.slice none 0 0) 0 0 ⟨#[]⟩ ⟨#[]⟩ ⟨#[]⟩ 0 0 (.slice none 0 0) 0 0 (.slice none 0 0) 0 0 0 0) 52
 rw [alloc_size1 w] at hr1
 have hsz : ((w.alloc (.cells (callL ses num bad op key (.slice Ak keys.length ck) (.slice Av val.length cv) (.slice At tags.length ct) life ver tag pre chi rop rerr (.slice Ai items.length ci) rver rcount (.slice An nums.length cn) asked done told tim).toArray 52)).alloc (.cells (callL 0 0 false 0 ⟨#[]⟩ (.slice none 0 0) (.slice none 0 0) (.slice none 0 0) 0 0 ⟨#[]⟩ ⟨#[]⟩ ⟨#[]⟩ 0 0 (.slice none 0 0) 0 0 (.slice none 0 0) 0 0 0 0).toArray 52)).heap.size = w.heap.size + 2 := by simp
 obtain ⟨W0, hW0⟩ : ∃ W0, (w.alloc (.cells (callL ses num bad op key (.slice Ak keys.length ck) (.slice Av val.length cv) (.slice At tags.length ct) life ver tag pre chi rop rerr (.slice Ai items.length ci) rver rcount (.slice An nums.length cn) asked done told tim).toArray 52)).alloc (.cells (callL 0 0 false 0 ⟨#[]⟩ (.slice none 0 0) (.slice none 0 0) (.slice none 0 0) 0 0 ⟨#[]⟩ ⟨#[]⟩ ⟨#[]⟩ 0 0 (.slice none 0 0) 0 0 (.slice none 0 0) 0 0 0 0).toArray 52) = W0 := ⟨_, rfl⟩
 rw [hW0] at hbe hr0 hr1 hsz
 have HB := kp hbe
 have hW0' := hW0
 simp only [callL] at hW0'
 have HW0 := kp hW0'
 have HR0 := kp hr0
 have HR1 := kp hr1
 have HSZ := kp hsz
 have HAK := kp a2
 have HAV := kp a5
 have HAT := kp a7
 have HRS := kp hrs0
 clear hbe hr0 hr1 hsz hW0 hW0' a2 a5 a7 hrs0
 have hul := clone37 Ak keys.length ck keys
 simp only [callL]
 go_enter Tryz.func56, Tryz.ntmps56
 go_upto_region 1 with (fail)
 rw [HW0.out]
 have c05 : W0.drew.cell? ⟨w.heap.size, 5, none⟩ = some (.slice Ak keys.length ck) := HR0.out.cell (i := 5) (by decide)
 have c07 : W0.drew.cell? ⟨w.heap.size, 7, none⟩ = some (.slice At tags.length ct) := HR0.out.cell (i := 7) (by decide)
 go_region_law (first
  | ((with_reducible refine step_call_any (o := ⟨some 6, _, _, _, _, _⟩) rfl 105 _ _ rfl #[.slice Ak keys.length ck] ?_ Tryz.f105 Tryz.func105 f37_name f37_body (fun u w6 => ∃ A c, u = .slice A keys.length c /\ ElV Value.string w6 w6.heap.size A keys /\ (∀ b off, A = some ⟨b, off, none⟩ -> W0.heap.size <= b) /\ Below W0.heap.size W0 w6) ?_ ?_); (· simp only [y1, y2, y3]; rfl); (· exact (clone37 Ak keys.length ck keys W0.drew rfl hk ((HAK.out.below HB.out hlim).mono (Nat.le_trans hlim HB.out.size))).mono fun e w' ⟨v, h1, h2, h3⟩ => (by obtain ⟨A, c, rfl, h4, h5⟩ := elv_of_own h2; exact ⟨_, h1, A, c, rfl, h4, h5, h3.os, h3.tape, h3.output, h3.size, h3.block⟩)); rintro u6 w6 ⟨A6, c6, rfl, hx6, hl6, hb6⟩; have HX6 := kp hx6; have HB6 := kp hb6; have HL6 := kp hl6; clear hx6 hb6 hl6; have c67 : w6.cell? ⟨w.heap.size, 7, none⟩ = some (.slice At tags.length ct) := World.rowIs.cell (World.rowIs.of_block HR0.out (HB6.out.block w.heap.size (by rw [HSZ.out]; omega))) (i := 7) (by decide))
  | ((with_reducible refine step_call_any (o := ⟨some 10, _, _, _, _, _⟩) rfl 105 _ _ rfl #[.slice At tags.length ct] ?_ Tryz.f105 Tryz.func105 f37_name f37_body (fun u w9 => ∃ A c, u = .slice A tags.length c /\ ElV Value.string w9 w9.heap.size A tags /\ (∀ b off, A = some ⟨b, off, none⟩ -> w6.heap.size <= b) /\ Below w6.heap.size w6 w9) ?_ ?_); (· simp only [y1, y2, y3]; rfl); (· exact (clone37 At tags.length ct tags w6 rfl ht ((HAT.out.below (HB.out.trans (HB6.out.mono HB.out.size)) hlim).mono (Nat.le_trans hlim (Nat.le_trans HB.out.size HB6.out.size)))).mono fun e w' ⟨v, h1, h2, h3⟩ => (by obtain ⟨A, c, rfl, h4, h5⟩ := elv_of_own h2; exact ⟨_, h1, A, c, rfl, h4, h5, h3⟩)); rintro u9 w9 ⟨A9, c9, rfl, hx9, hl9, hb9⟩; have HX9 := kp hx9; have HB9 := kp hb9; have HL9 := kp hl9; clear hx9 hb9 hl9; have hr9 := World.rowIs.of_block HR0.out ((HB6.out.trans (HB9.out.mono HB6.out.size)).block w.heap.size (by rw [HSZ.out]; omega)); have fz5 : w9.frozen? ⟨w.heap.size, 5, none⟩ = false := World.rowIs.frozen hr9 5; have cc5 := World.rowIs.cell hr9 (i := 5) (by decide); have hr9s := World.rowIs.set hr9 5 (.slice A6 keys.length c6); have cc7 := World.rowIs.cell hr9s (i := 7) (by decide); have fz7 := World.rowIs.frozen hr9s 7; have HR9 := kp (World.rowIs.congr (World.rowIs.set (World.rowIs.congr hr9s (callF_vk _ _ _ _ _ _ _ _ _ _ _ _ _ _ _ _ _ _ _ _ _ _ _ _)) 7 (.slice A9 tags.length c9)) (callF_vt _ _ _ _ _ _ _ _ _ _ _ _ _ _ _ _ _ _ _ _ _ _ _ _)); clear hr9 hr9s))
 all_goals
  have hup := own_mid (b0 := w.heap.size) (c6 := c6) (.slice A6 keys.length c6) (.slice A9 tags.length c9) (by rw [HSZ.out]; omega) hlim HB6.out HB9.out HX6.out HL6.out HX9.out HL9.out
  obtain ⟨W, hW⟩ : ∃ W, ((w9.setCell ⟨w.heap.size, 5, none⟩ (.slice A6 keys.length c6)).setCell ⟨w.heap.size, 7, none⟩ (.slice A9 tags.length c9)) = W := ⟨_, rfl⟩
  rw [hW] at hup ⊢
  rw [hW] at HR9
  obtain ⟨hk1, hx1, hx2⟩ := hup
  have HK := kp hk1
  have HX1 := kp hx1
  have HX2 := kp hx2
  clear hW hk1 hx1 hx2 c05 c07 c67 fz5 cc5 cc7 fz7 HX6 HB6 HL6 HX9 HB9 HL9 hul
  have d6 : W.cell? ⟨w.heap.size, 6, none⟩ = some (.slice Av val.length cv) := HR9.out.cell (i := 6) (by decide)
  have HCL := kp (clone_any Av val.length cv val W rfl hvl ((HAV.out.below (HB.out.trans (HK.out.below HB.out.size (by simp))) hlim).mono (Nat.le_trans hlim (Nat.le_trans HB.out.size HK.out.size))))
  go_wp2_with fail
  refine HCL.out.mono ?_
  rintro e w10 ⟨v10, rfl, ho10, hb10⟩
  obtain ⟨A10, c10, rfl, hby10, hlo10⟩ := SlB.of_own ho10
  have hr10 := World.rowIs.of_block HR9.out (hb10.block w.heap.size (World.rowIs.lt HR9.out))
  have e6 := hr10.cell (i := 6) (by decide)
  have f6 := World.rowIs.frozen hr10 6
  have hr11 := World.rowIs.congr (hr10.set 6 (.slice A10 val.length c10)) (callF_vv _ _ _ _ _ _ _ _ _ _ _ _ _ _ _ _ _ _ _ _ _ _ _ _)
  have HB10 := kp hb10
  have HBY10 := kp hby10
  have HLO10 := kp hlo10
  clear ho10 hb10 hby10 hlo10 hr10
  have hx10 := ((HX1.out.kept (Kept.of_below (L := []) HB10.out) (by simp)).kept ((Kept.refl [w.heap.size] w10).setCell (p := ⟨w.heap.size, 6, none⟩) (by simp) (.slice A10 val.length c10)) (fun k hk => by have := HSZ.out; simp at hk; omega))
  have hx11 := ((HX2.out.kept (Kept.of_below (L := []) HB10.out) (by simp)).kept ((Kept.refl [w.heap.size] w10).setCell (p := ⟨w.heap.size, 6, none⟩) (by simp) (.slice A10 val.length c10)) (fun k hk => by have := HSZ.out; simp at hk; omega))
  have hk11 : Kept [w.heap.size] W0 (w10.setCell ⟨w.heap.size, 6, none⟩ (.slice A10 val.length c10)) := (HK.out.trans (Kept.of_below HB10.out)).setCell (p := ⟨w.heap.size, 6, none⟩) (by simp) _
  have hv11 : DatF W0.heap.size (w10.setCell ⟨w.heap.size, 6, none⟩ (.slice A10 val.length c10)) A10 c10 val := DatF.kept ⟨HBY10.out, fun b off e => Nat.le_trans HK.out.size (HLO10.out b off e)⟩ ((Kept.refl [w.heap.size] w10).setCell (p := ⟨w.heap.size, 6, none⟩) (by simp) _) (fun k hk => by have := HSZ.out; simp at hk; omega)
  have HX10 := kp hx10
  have HX11 := kp hx11
  have HK11 := kp hk11
  have HV11 := kp hv11
  have HR11 := kp hr11
  clear hx10 hx11 hk11 hv11 hr11 HB10 HBY10 HLO10 HK HX1 HX2 HR9 d6 HCL
  go_upto_region 3 with (fail)
  obtain ⟨w11, hw11⟩ : ∃ w11, w10.setCell ⟨w.heap.size, 6, none⟩ (.slice A10 val.length c10) = w11 := ⟨_, rfl⟩
  rw [hw11]
  rw [hw11] at HX10 HX11 HK11 HV11 HR11
  clear hw11 e6 f6
  have g0 : w11.cell? ⟨w.heap.size, 13, none⟩ = some (.int .i64 rop) := HR11.out.cell (i := 13) (by decide)
  have g1 : w11.cell? ⟨w.heap.size, 14, none⟩ = some (.int .i64 rerr) := HR11.out.cell (i := 14) (by decide)
  have g2 : w11.cell? ⟨w.heap.size, 15, none⟩ = some (.slice Ai items.length ci) := HR11.out.cell (i := 15) (by decide)
  have g3 : w11.cell? ⟨w.heap.size, 16, none⟩ = some (.int .u64 rver) := HR11.out.cell (i := 16) (by decide)
  have g4 : w11.cell? ⟨w.heap.size, 17, none⟩ = some (.int .i64 rcount) := HR11.out.cell (i := 17) (by decide)
  have g5 : w11.cell? ⟨w.heap.size, 18, none⟩ = some (.slice An nums.length cn) := HR11.out.cell (i := 18) (by decide)
  have HAN2 := kp (HANS.out w11 (HRS.out.below (HB.out.trans (HK11.out.below HB.out.size (by simp))) hlim) (Nat.le_trans hlim (Nat.le_trans HB.out.size HK11.out.size)))
  go_wp2_with fail
  refine HAN2.out.mono ?_
  rintro e w12 ⟨vi', vn', rfl, ⟨⟨A13, c13, rfl⟩, A14, c14, rfl⟩, hst, hb12⟩
  have hr12 := World.rowIs.of_block HR11.out (hb12.block w.heap.size (World.rowIs.lt HR11.out))
  have ht12 : w12.there w.heap.size 13 6 := fun j hj => ⟨by rw [hr12.cell (i := 13 + j) (by omega)]; rfl, World.rowIs.frozen hr12 _⟩
  have HT12 := kp ht12
  have HR12 := kp hr12
  have HST := kp hst
  have HB12 := kp hb12
  clear hr12 ht12 hst hb12 g0 g1 g2 g3 g4 g5 HAN2
  go_upto_region 4 with ((with_reducible refine wpList_store_at2 (op := ⟨none, _, _, _, _, _⟩) rfl 40 _ _ rfl w.heap.size 13 #[.int .i64 rop, .int .i64 rerr, .slice A13 items.length c13, .int .u64 rver, .int .i64 rcount, .slice A14 nums.length c14] ?_ ?_ ?_ (resp_sizeA _ _ _ _ _ _) ?_ ?_); (· rfl); (· rfl); (· exact HT12.out); (· exact resp_oneL _ _ _ _ _ _ _ _ _ _); intro w13 hw13)
  replace hw13 : w12.setCells w.heap.size 13 [.int .i64 rop, .int .i64 rerr, .slice A13 items.length c13, .int .u64 rver, .int .i64 rcount, .slice A14 nums.length c14] = w13 := hw13.symm
  have hr13 := World.rowIs.congr (rowIs_setCells [.int .i64 rop, .int .i64 rerr, .slice A13 items.length c13, .int .u64 rver, .int .i64 rcount, .slice A14 nums.length c14] 13 w12 _ HR12.out) (callF_resp _ _ _ _ _ _ _ _ _ _ _ _ _ _ _ _ _ _ _ _ _ _ _ rop rerr _ rver rcount _)
  have hk13 : Kept [w.heap.size] w12 (w12.setCells w.heap.size 13 [.int .i64 rop, .int .i64 rerr, .slice A13 items.length c13, .int .u64 rver, .int .i64 rcount, .slice A14 nums.length c14]) := kept_setCells (by simp) _ _ _ (Kept.refl _ _)
  rw [hw13] at hr13 hk13
  have hc13 := row_cells hr13 (callL ses num bad op key (.slice A6 keys.length c6) (.slice A10 val.length c10) (.slice A9 tags.length c9) life ver tag pre chi rop rerr (.slice A13 items.length c13) rver rcount (.slice A14 nums.length c14) asked done told tim) rfl fun i hi => rfl
  have hkk : Kept [w.heap.size] W0 w13 := (HK11.out.trans (Kept.of_below HB12.out)).trans hk13
  have hr1 : w13.rowIs (w.heap.size + 1) 52 23 _ := hkk.row (by simp) HR1.out
  have hS : Stab (fun k => lim <= k /\ k <= w.heap.size + 1) w13 fun W => CallOk W W.heap.size ⟨ses, num, bad, ⟨op, key, keys, val, tags, life, ver, tag, pre, chi⟩, ⟨rop, rerr, items, rver, rcount, nums⟩, asked, done, told, tim⟩ ⟨.slice A6 keys.length c6, .slice A10 val.length c10, .slice A9 tags.length c9, .slice A13 items.length c13, .slice A14 nums.length c14⟩ := by
   refine Stab.imp (Stab.and ?_ ?_) (fun W h => ⟨h.1, h.2⟩)
   ·intro L W hk hL
    have hL1 : ∀ {W' : World}, ∀ k ∈ L, k < W0.heap.size ∨ w13.heap.size <= k := fun k hk => by have := hL k hk; have := HSZ.out; omega
    have hL2 : ∀ {n}, ∀ k ∈ [w.heap.size], k < W0.heap.size ∨ n <= k := fun k hk => by have := HSZ.out; simp at hk; omega
    have h1 := ((HX10.out.kept (Kept.of_below (L := []) HB12.out) (by simp)).kept hk13 hL2).kept hk (hL1 (W' := W))
    have h2 := ((HX11.out.kept (Kept.of_below (L := []) HB12.out) (by simp)).kept hk13 hL2).kept hk (hL1 (W' := W))
    have h3 := ((HV11.out.kept (Kept.of_below (L := []) HB12.out) (by simp)).kept hk13 hL2).kept hk (hL1 (W' := W))
    exact ⟨⟨a1, _, _, rfl, h1.1⟩, ⟨a3, a4, _, _, rfl, h3.1⟩, ⟨a6, _, _, rfl, h2.1⟩⟩
   ·refine HST.out.step hk13 (fun k hk => ?_) (fun k hk => ?_)
    ·have := HSZ.out; have := HK11.out.size; simp at hk; omega
    ·have := HSZ.out; have := HK11.out.size; omega
  have HC13 := kp hc13
  have HT13 := kp (row_there hr1)
  have HF1 := kp hr1
  have HKK := kp hkk
  have HS := kp hS
  clear hw13 hr13 hk13 hc13 hkk hr1 hS
  simp only [callL] at HC13
  go_wp2_with (first
   | ((with_reducible refine wpList_load_agg_w (o := ⟨some 25, _, _, _, _, _⟩) ?_ 52 _ rfl ⟨w.heap.size, 0, none⟩ ?_ [.int .i64 ses, .int .i64 num, .bool bad, .int .i64 op, .string key, .slice A6 keys.length c6, .slice A10 val.length c10, .slice A9 tags.length c9, .int .u64 life, .int .u64 ver, .string tag, .string pre, .string chi, .int .i64 rop, .int .i64 rerr, .slice A13 items.length c13, .int .u64 rver, .int .i64 rcount, .slice A14 nums.length c14, .int .i64 asked, .int .i64 done, .int .i64 told, .int .u64 tim] _ HC13.out Tryz.underlying52 ?_ ?_); (· rfl); (· rfl); (· exact call_sizeL _ _ _ _ _ _ _ _ _ _ _ _ _ _ _ _ _ _ _ _ _ _ _))
   | ((with_reducible refine wpList_store_at2 (op := ⟨none, _, _, _, _, _⟩) rfl 52 _ _ rfl (w.heap.size + 1) 0 #[.int .i64 ses, .int .i64 num, .bool bad, .int .i64 op, .string key, .slice A6 keys.length c6, .slice A10 val.length c10, .slice A9 tags.length c9, .int .u64 life, .int .u64 ver, .string tag, .string pre, .string chi, .int .i64 rop, .int .i64 rerr, .slice A13 items.length c13, .int .u64 rver, .int .i64 rcount, .slice A14 nums.length c14, .int .i64 asked, .int .i64 done, .int .i64 told, .int .u64 tim] ?_ ?_ ?_ ?_ ?_ ?_); (· rfl); (· rfl); (· exact HT13.out); (· exact call_sizeA _ _ _ _ _ _ _ _ _ _ _ _ _ _ _ _ _ _ _ _ _ _ _); (· exact call_one _ _ _ _ _ _ _ _ _ _ _ _ _ _ _ _ _ _ _ _ _ _ _ rfl rfl rfl rfl rfl); intro w14 hw14))
  replace hw14 : w13.setCells (w.heap.size + 1) 0 (callL ses num bad op key (.slice A6 keys.length c6) (.slice A10 val.length c10) (.slice A9 tags.length c9) life ver tag pre chi rop rerr (.slice A13 items.length c13) rver rcount (.slice A14 nums.length c14) asked done told tim) = w14 := hw14.symm
  have hlit := hw14
  simp only [callL] at hlit
  rw [hlit]
  clear hlit
  have hD7 := store_all HF1.out (callL ses num bad op key (.slice A6 keys.length c6) (.slice A10 val.length c10) (.slice A9 tags.length c9) life ver tag pre chi rop rerr (.slice A13 items.length c13) rver rcount (.slice A14 nums.length c14) asked done told tim) rfl
  have hk7 : Kept [w.heap.size + 1] w13 (w13.setCells (w.heap.size + 1) 0 (callL ses num bad op key (.slice A6 keys.length c6) (.slice A10 val.length c10) (.slice A9 tags.length c9) life ver tag pre chi rop rerr (.slice A13 items.length c13) rver rcount (.slice A14 nums.length c14) asked done told tim)) := kept_setCells (by simp) _ _ _ (Kept.refl _ _)
  rw [hw14] at hD7 hk7
  have hc7 := row_cells hD7 (callL ses num bad op key (.slice A6 keys.length c6) (.slice A10 val.length c10) (.slice A9 tags.length c9) life ver tag pre chi rop rerr (.slice A13 items.length c13) rver rcount (.slice A14 nums.length c14) asked done told tim) rfl fun i hi => rfl
  have hload := run_loadVar_at w14 ⟨w.heap.size + 1, 0, none⟩ 52 _ _ hc7 Tryz.underlying52 rfl (call_sizeL _ _ _ _ _ _ _ _ _ _ _ _ _ _ _ _ _ _ _ _ _ _ _)
  clear hD7 hw14 hc7
  simp only [callL] at hload
  refine bodyPost_ret (v := .agg (callL ses num bad op key (.slice A6 keys.length c6) (.slice A10 val.length c10) (.slice A9 tags.length c9) life ver tag pre chi rop rerr (.slice A13 items.length c13) rver rcount (.slice A14 nums.length c14) asked done told tim).toArray) ?_ rfl ?_
  ·exact results_cell1 (p := 2) (ty := 52) rfl _ _ ⟨w.heap.size + 1, 0, none⟩ _ rfl hload
  ·refine ⟨⟨_, _, _, _, _⟩, rfl, HS.out.step hk7 (fun k hk => ?_) (fun k hk => ?_), ?_⟩
   ·simp at hk; omega
   ·omega
   ·exact (HB.out.trans (HKK.out.below HB.out.size (by simp))).trans (hk7.below (Nat.le_trans HB.out.size HKK.out.size) (by simp))
end Go.Proofs.YtnjhpgmbfblgaaaGreat.Ord
