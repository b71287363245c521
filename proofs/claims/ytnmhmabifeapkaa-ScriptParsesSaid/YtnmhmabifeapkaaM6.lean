/- The codec that writes and reads: lists. -/
import Derived.Test.YtnmhmabifeapkaaM5
import Derived.Test.YtnmhmabifeapkaaE1
/- The codec's part at any cell, and its list, written. -/
namespace Go.Proofs.Ytnmhmabifeapkaa.Ord
open Go.RowKit
set_option linter.unusedVariables false

theorem cell_in {w : World} {a : Addr} {v : Value} (h : w.cell? a = some v) : a.block < w.heap.size := by
  rcases Nat.lt_or_ge a.block w.heap.size with h' | h'
  · exact h'
  · simp [World.cell?, Array.getElem?_eq_none h'] at h
theorem Kept.cell {L : List Nat} {a b : World} (h : Kept L a b) {p : Addr} {v : Value} (hp : p.block ∉ L) (hc : a.cell? p = some v) : b.cell? p = some v := by
  obtain ⟨x, off, sp⟩ := p
  have hlt := cell_in hc
  have hsp := World.cell?_spot hc
  simp only at hsp
  subst hsp
  rw [World.cell?_of_block (w := a) (h.block x hlt hp)]
  exact hc
theorem part_mid_c {X : Nat} {c : Value} {A A6 : Option Addr} {ca c6 L : Nat} {o : Nat} {xs : List Int} {bad : Bool} {w w6 : World} {base : Nat} (hL : xs.length = L)
    (hX : w.rowIs X 149 4 (codF c (.pointer none) (.slice A o ca) bad)) (hb6 : Below w.heap.size w w6) (hown : Own8 w6 base (.slice A6 L c6) xs) (hbase : w.heap.size ≤ base) :
    ∃ w7, w7 = w6.setCell ⟨X, 2, none⟩ (.slice A6 L c6) ∧ w7.rowIs X 149 4 (codF c (.pointer none) (.slice A6 L c6) bad) ∧ Kept [X] w w7 ∧ SlB w7 w.heap.size (.slice A6 L c6) xs := by
  have hXlt := World.rowIs.lt hX
  have hX6 : w6.rowIs X 149 4 (codF c (.pointer none) (.slice A o ca) bad) := World.rowIs.of_block hX (hb6.block X hXlt)
  have hK : Kept [X] w (w6.setCell ⟨X, 2, none⟩ (.slice A6 L c6)) := (Kept.of_below hb6).setCell (by simp) _
  refine ⟨_, rfl, World.rowIs.congr (World.rowIs.set hX6 2 (.slice A6 L c6)) fun i hi => ?_, hK, ?_⟩
  · match i, hi with
    | 0, _ => rfl
    | 1, _ => rfl
    | 2, _ => rfl
    | 3, _ => rfl
  · obtain ⟨A', c', he, hby, hlo⟩ := SlB.of_own hown
    refine ⟨A', c', he, ?_, fun b off hA => Nat.le_trans hbase (hlo b off hA)⟩
    have hk2 : Kept [X] w6 (w6.setCell ⟨X, 2, none⟩ (.slice A6 L c6)) := (Kept.refl _ _).setCell (by simp) _
    exact hk2.byt hby fun x off hA hm => by
      have h1 := hlo x off hA
      simp at hm
      omega

set_option maxRecDepth 100000 in
set_option maxHeartbeats 4000000 in
theorem part_write_c (X G k : Nat) (s : ByteArray) (c : Value) (A : Option Addr) (ca : Nat) (out : List Int) (bad al : Bool) (N : Nat) (w : World)
    (hcs : w.cell? ⟨G, k, none⟩ = some (.string s)) (hXG : X ≠ G) (hX : w.rowIs X 149 4 (codF c (.pointer none) (.slice A out.length ca) bad)) (hA : Byt w w.heap.size A ca out) (hAX : ∀ b off, A = some ⟨b, off, none⟩ → b ≠ X)
    (eg : ∀ args w, (callFunc N args).run Try.prog w = .ok (.enter N args) w) (hN : ∀ w, Calls Try.prog N #[.string s] w fun e w' => e = .returned (.bool al) ∧ Below w.heap.size w w') (hs : s.size ≤ 100000) (hol : out.length ≤ 500000) :
    Calls Try.prog 126 #[.pointer (some ⟨X, 0, none⟩), .pointer (some ⟨G, k, none⟩), .func (.func N) #[] #[]] w fun e w' =>
      e = .returned (.tuple #[]) ∧ ∃ v, w'.rowIs X 149 4 (codF c (.pointer none) v (bad || !al)) ∧ SlB w' w.heap.size v (out ++ putV s.size ++ sBytes s) ∧ Kept [X] w w' := by
  have hc1 : w.cell? ⟨X, 1, none⟩ = some (.pointer none) := World.rowIs.cell hX (i := 1) (by decide)
  have hc2 : w.cell? ⟨X, 2, none⟩ = some (.slice A out.length ca) := World.rowIs.cell hX (i := 2) (by decide)
  have hc3 : w.cell? ⟨X, 3, none⟩ = some (.bool bad) := World.rowIs.cell hX (i := 3) (by decide)
  have HCS := Lib.hid hcs
  have HX := Lib.hid hX
  have HA := Lib.hid hA
  clear hX hA
  obtain ⟨L, hL⟩ : ∃ L, (out ++ putV s.size ++ sBytes s).length = L := ⟨_, rfl⟩
  have HL := Lib.hid hL
  clear hL
  have HN := Lib.hid hN
  clear hN
  go_enter Try.func126, Try.ntmps126
  go_wp2_with fail
  obtain ⟨c2, W5, hconv, hby5, hb5⟩ := conv_str w.drew s
  have hXlt : X < w.drew.heap.size := World.rowIs.lt HX.out
  have hX5 : W5.rowIs X 149 4 (codF c (.pointer none) (.slice A out.length ca) bad) := World.rowIs.of_block HX.out (hb5.block X hXlt)
  have h52 : W5.cell? ⟨X, 2, none⟩ = some (.slice A out.length ca) := World.rowIs.cell hX5 (i := 2) (by decide)
  have hA5 := Lib.hid (HA.out.below (B := w.heap.size) (w' := W5) (B' := w.heap.size) ⟨hb5.os, hb5.tape, hb5.output, hb5.size, hb5.block⟩ (Nat.le_refl _) |>.mono hb5.size)
  have HX5 := Lib.hid hX5
  have HB5 := Lib.hid hby5
  have hsl := sBytes_len s
  have HC := Lib.hid (putBytes_any A (some ⟨w.drew.heap.size, 0, none⟩) out.length ca s.size c2 out (sBytes s) W5 rfl hsl (by omega) (by omega) hA5.out HB5.out)
  clear hX5 hby5
  go_region_law ((with_reducible refine step_call_any (o := ⟨some 22, _, _, _, _, _⟩) rfl 142 _ _ rfl #[.slice A out.length ca, .slice (some ⟨w.drew.heap.size, 0, none⟩) s.size c2] ?_ Try.f142 Try.func142 f142_name f142_body (fun u w6 => Own8 w6 W5.heap.size u (out ++ putV s.size ++ sBytes s) ∧ Below W5.heap.size W5 w6) ?_ ?_); (· simp only [List.map_toArray, List.map_cons, List.map_nil]; rfl); (· exact HC.out.mono fun e w' ⟨v, h1, h2, h3⟩ => ⟨v, h1, h2, h3⟩); rintro u6 w6 ⟨hown6, hb6⟩; obtain ⟨A6, c6, rfl, hby6⟩ := hown6.val; rw [HL.out]; rw [HL.out] at hown6; have hX6 := Lib.hid (World.rowIs.of_block HX5.out (hb6.block X (World.rowIs.lt HX5.out))); have h62 : w6.cell? ⟨X, 2, none⟩ = some (.slice A out.length ca) := World.rowIs.cell hX6.out (i := 2) (by decide); have hf62 : w6.frozen? ⟨X, 2, none⟩ = false := World.rowIs.frozen hX6.out 2)
  all_goals
    have hbw6 : Below w.heap.size w w6 := by
      have h1 : Below w.heap.size w W5 := ⟨hb5.os, hb5.tape, hb5.output, hb5.size, hb5.block⟩
      exact h1.trans (hb6.mono h1.size)
    obtain ⟨w7, hw7, hX7, hK7, hS7⟩ := part_mid_c HL.out HX.out hbw6 hown6 (by have := hb5.size; exact this)
    rw [← hw7]
    clear hw7 h62 hf62 hX6 hown6 hby6 hb6 hbw6
    have h73 : w7.cell? ⟨X, 3, none⟩ = some (.bool bad) := World.rowIs.cell hX7 (i := 3) (by decide)
    have hf73 : w7.frozen? ⟨X, 3, none⟩ = false := World.rowIs.frozen hX7 3
    have h7s : w7.cell? ⟨G, k, none⟩ = some (.string s) := hK7.cell (by simp; exact fun e => hXG e.symm) HCS.out
    have HX7 := Lib.hid hX7
    have HK7 := Lib.hid hK7
    have HS7 := Lib.hid hS7
    clear hX7 hK7 hS7
    have hXw := World.rowIs.lt HX.out
    cases bad with
    | true =>
      go_wp2_with fail
      go_end0
      obtain ⟨h1, h2, h3⟩ := part_end (b := true) HX7.out hXw HK7.out HS7.out (Below.refl _ _)
      exact ⟨rfl, _, h1, h2, h3⟩
    | false =>
      go_wp2_with fail
      refine (HN.out w7).mono ?_
      rintro e w8 ⟨rfl, hb8⟩
      have hX8 := World.rowIs.of_block HX7.out (hb8.block X (World.rowIs.lt HX7.out))
      have h83 : w8.cell? ⟨X, 3, none⟩ = some (.bool false) := World.rowIs.cell hX8 (i := 3) (by decide)
      have hf83 : w8.frozen? ⟨X, 3, none⟩ = false := World.rowIs.frozen hX8 3
      clear hX8
      go_wp2_with fail
      go_end0
      obtain ⟨h1, h2, h3⟩ := part_end (b := !al) HX7.out hXw HK7.out HS7.out hb8
      exact ⟨rfl, _, h1, h2, h3⟩

/-- strings, one after the other, each with its length -/
def putStrs : List ByteArray → List Int
  | [] => []
  | s :: l => putV s.size ++ sBytes s ++ putStrs l
theorem putStrs_snoc (l : List ByteArray) (s : ByteArray) : putStrs (l ++ [s]) = putStrs l ++ (putV s.size ++ sBytes s) := by
  induction l with
  | nil => simp [putStrs]
  | cons a l ih => simp [putStrs, ih, List.append_assoc]

theorem WS.out_bad {w : World} {X C : Nat} {f : Nat → Value} {out out' : List Int} {bad bad' : Bool} (h : WS w X C f out bad) (e1 : out = out') (e2 : bad = bad') : WS w X C f out' bad' := by subst e1; subst e2; exact h
theorem putStrs_len {l : List ByteArray} (h : ∀ s ∈ l, s.size ≤ 1000) : (putStrs l).length ≤ 1100 * l.length := by
  induction l with
  | nil => simp [putStrs]
  | cons a l ih =>
    have h1 := ih fun s hs => h s (List.mem_cons_of_mem _ hs)
    have h2 := h a List.mem_cons_self
    have h3 := putV_len10 (n := a.size) (by omega)
    have h4 := sBytes_len a
    simp only [putStrs, List.length_append, List.length_cons]
    omega

set_option maxRecDepth 100000 in
set_option maxHeartbeats 4000000 in
theorem ws_list {w : World} {X C : Nat} {f : Nat → Value} {out : List Int} {bad : Bool} (k n least most N : Nat) (strs : List ByteArray) (Al : Option Addr) (cl : Nat) (alw : ByteArray → Bool) (h : WS w X C f out bad) (hk : k < 10) (hf : f k = .slice Al n cl) (hn : strs.length = n) (hel : ElV Value.string w w.heap.size Al strs) (hne : ∀ b off, Al = some ⟨b, off, none⟩ → strs ≠ [] → b ≠ X)
    (eg : ∀ args w, (callFunc N args).run Try.prog w = .ok (.enter N args) w) (hN : ∀ s ∈ strs, ∀ w, Calls Try.prog N #[.string s] w fun e w' => e = .returned (.bool (alw s)) ∧ Below w.heap.size w w') (hs : ∀ s ∈ strs, s.size ≤ 1000) (h1 : least ≤ n) (h2 : n ≤ most) (h3 : most ≤ 100) (hol : out.length ≤ 200000) :
    Calls Try.prog 129 #[.pointer (some ⟨X, 0, none⟩), .pointer (some ⟨C, k, none⟩), .int .i64 least, .int .i64 most, .func (.func N) #[] #[]] w fun e w' =>
      e = .returned (.tuple #[]) ∧ WS w' X C f (out ++ putV n ++ putStrs strs) (bad || !(strs.all alw)) ∧ Kept [X] w w' := by
  have HW := Lib.hid h
  obtain ⟨hXC, hC, v, hX, A, ca, rfl, hA, hAN⟩ := h
  have ck : w.cell? ⟨C, k, none⟩ = some (.slice Al n cl) := by rw [← hf]; exact World.rowIs.cell hC hk
  have hXl := World.rowIs.lt hX
  have hb1 := below1 w (.cells #[.int .u64 n] 42)
  have hT : (w.alloc (.cells #[.int .u64 n] 42)).rowIs w.heap.size 42 1 (listF [.int .u64 n]) := row_list w [.int .u64 n] 42
  have hNW := number_write X w.heap.size 0 42 1 (listF [.int .u64 n]) n _ A ca out bad (w.alloc (.cells #[.int .u64 n] 42)) hT (by decide) rfl (by omega) (by omega) (World.rowIs.alloc hX _) ((hA.below hb1 (Nat.le_refl _)).mono hb1.size) (fun b off e hb => hAN b off e (by simp [hb])) (by omega)
  have HNW := Lib.hid hNW
  have HB1 := Lib.hid hb1
  have HT := Lib.hid hT
  have HEL := Lib.hid hel
  have HNE := Lib.hid hne
  have HN := Lib.hid hN
  have HS := Lib.hid hs
  have HL := Lib.hid hn
  have HEG := Lib.hid eg
  clear hNW hT hC hX hA hAN hb1 hel hne hN hs hn eg
  have g1 : ¬ n < least := by omega
  have g2 : ¬ most < n := by omega
  have H1 := Lib.hid h1
  have H2 := Lib.hid h2
  have H3 := Lib.hid h3
  have hn100 : n ≤ 100 := Nat.le_trans h2 h3
  have hl100 : least ≤ 100 := Nat.le_trans h1 hn100
  have hm100 : most ≤ 100 := h3
  clear h1 h2 h3
  go_enter Try.func129, Try.ntmps129
  go_wp2_with fail
  refine HNW.out.mono ?_
  rintro e w2 ⟨rfl, v2, hX2, hS2, hk2⟩
  have hT2 : w2.rowIs w.heap.size 42 1 (listF [.int .u64 n]) := hk2.row (by simp; omega) HT.out
  have t20 : w2.cell? ⟨w.heap.size, 0, none⟩ = some (.int .u64 n) := World.rowIs.cell hT2 (i := 0) (by decide)
  have c21 : w2.cell? ⟨X, 1, none⟩ = some (.pointer none) := World.rowIs.cell hX2 (i := 1) (by decide)
  have hkw : Kept [X] w w2 := (Kept.of_below HB1.out).trans hk2
  have c2k : w2.cell? ⟨C, k, none⟩ = some (.slice Al n cl) := hkw.cell (by simp; exact fun e => hXC e.symm) ck
  have hW2 : WS w2 X C f (out ++ putV n) bad := HW.out.next hX2 (by obtain ⟨A', c', e1, e2, e3⟩ := hS2; exact ⟨A', c', e1, e2, fun b off e => Nat.le_trans (by simp) (e3 b off e)⟩) hkw
  have HW2 := Lib.hid hW2
  have HKW := Lib.hid hkw
  clear hX2 hS2 hk2 hT2 hW2 hkw
  go_wp2_with fail
  clear c2k t20 c21 g1 g2
  go_loopw [49] (fun j wr => ∃ i : Nat, i ≤ n ∧ j = .int .i64 i ∧ WS wr X C f (out ++ putV n ++ putStrs (strs.take i)) (bad || !((strs.take i).all alw)) ∧ Kept [X] w wr) (fun j _ => n - (intOf j).toNat)
  case atStart => exact ⟨0, Nat.zero_le _, rfl, HW2.out.out_bad (by simp [putStrs]) (by simp), HKW.out⟩
  case round =>
    obtain ⟨i, hi, rfl, hW, hK⟩ := hrel
    have ckr : wr.cell? ⟨C, k, none⟩ = some (.slice Al n cl) := hK.cell (by simp; exact fun e => hXC e.symm) ck
    by_cases hlt : i < n
    · have hg : decide ((i : Int) < (n : Int)) = true := by simp; omega
      obtain ⟨s, hs⟩ : ∃ s, strs[i]? = some s := ⟨strs[i]'(by rw [HL.out]; exact hlt), List.getElem?_eq_getElem _⟩
      obtain ⟨b, off, rfl, hbB, hc⟩ := HEL.out i s hs
      have hmem : s ∈ strs := List.mem_iff_getElem?.2 ⟨i, hs⟩
      have hcr : wr.cell? ⟨b, off + i, none⟩ = some (.string s) := hK.cell (by simp; exact HNE.out b off rfl (List.ne_nil_of_mem (List.mem_iff_getElem?.2 ⟨i, hs⟩))) hc
      have htk : strs.take (i + 1) = strs.take i ++ [s] := by rw [List.take_add_one, hs]; rfl
      have hol2 : (out ++ putV n ++ putStrs (strs.take i)).length ≤ 500000 := by
        have h4 := putStrs_len (l := strs.take i) fun s hs => HS.out s (List.mem_of_mem_take hs)
        have h5 := putV_len10 (n := n) (by omega)
        have h6 : (strs.take i).length ≤ i := List.length_take_le _ _
        simp only [List.length_append]
        omega
      have hsz := HS.out s hmem
      have HWi := Lib.hid hW
      obtain ⟨_, hC, v, hX, A2, ca2, rfl, hA2, hAN2⟩ := hW
      have hP := part_write_c X b (off + i) s _ A2 ca2 _ _ (alw s) N wr hcr (fun e => HNE.out b off rfl (List.ne_nil_of_mem (List.mem_iff_getElem?.2 ⟨i, hs⟩)) e.symm) hX hA2 (fun b off e hb => hAN2 b off e (by simp [hb])) HEG.out (HN.out s hmem) (by omega) hol2
      have HP := Lib.hid hP
      have HTK := Lib.hid htk
      have HK := Lib.hid hK
      clear hP hX hA2 hAN2 hC hs hc hmem htk hol2 hK hcr
      go_wp2_with fail
      refine HP.out.mono ?_
      rintro e w5 ⟨rfl, v5, hX5, hS5, hk5⟩
      have hW5 := HWi.out.next hX5 hS5 hk5
      have HW5 := Lib.hid (hW5.out_bad (out' := out ++ putV n ++ putStrs (strs.take (i + 1))) (bad' := bad || !((strs.take (i + 1)).all alw)) (by rw [HTK.out, putStrs_snoc]; simp only [List.append_assoc]) (by rw [HTK.out, List.all_append]; cases bad <;> cases (strs.take i).all alw <;> cases h : alw s <;> simp [h]))
      have HK5 := Lib.hid (HK.out.trans hk5)
      clear hX5 hS5 hk5 hW5
      go_wp2_with fail
      go_roundw
      case rel => exact ⟨i + 1, by omega, by go_num, HW5.out, HK5.out⟩
      case measure => simp [intOf]; omega
    · obtain rfl : i = n := by omega
      have hg : decide ((i : Int) < (i : Int)) = false := by simp
      have HW3 := Lib.hid hW
      have HK3 := Lib.hid hK
      clear hW hK
      go_wp2_with fail
      go_end0
      exact ⟨rfl, HW3.out.out_bad (by rw [List.take_of_length_le (by rw [HL.out]; exact Nat.le_refl _)]) (by rw [List.take_of_length_le (by rw [HL.out]; exact Nat.le_refl _)]), HK3.out⟩
end Go.Proofs.Ytnmhmabifeapkaa.Ord
/- The codec that reads, as a state; its parts and numbers. -/
namespace Go.Proofs.Ytnmhmabifeapkaa.Ord
open Go.RowKit
set_option linter.unusedVariables false

theorem read_midN {X G R k n : Nat} {NL : List Nat} (hNL : ∀ k ∈ [X, G, R], k ∈ NL) {t : TypeId} {f : Nat → Value} {c outv r : Value} {bad : Bool} {w w1 : World} {u : Value} (hXG : X ≠ G) (hX1 : w1.rowIs X 149 4 (codF c r outv bad)) (hG1 : w1.rowIs G t n f) (hk1 : Kept [R] w w1) (hXR : X ≠ R) (hGR : G ≠ R) {v' : Value} {rest : List Int} (hR1 : w1.rowIs R 196 2 (rdF v')) (hv1 : SlX w1 NL v' rest) :
    ∃ w2, w2 = (w1.setCell ⟨X, 3, none⟩ (.bool bad)).setCell ⟨G, k, none⟩ u ∧ w2.rowIs X 149 4 (codF c r outv bad) ∧ w2.rowIs G t n (updF f k u) ∧ w2.rowIs R 196 2 (rdF v') ∧ SlX w2 NL v' rest ∧ Kept [X, G, R] w w2 := by
  have hk3 : Kept [X, G, R] w1 ((w1.setCell ⟨X, 3, none⟩ (.bool bad)).setCell ⟨G, k, none⟩ u) := ((Kept.refl _ _).setCell (by simp) _).setCell (by simp) _
  refine ⟨_, rfl, World.rowIs.setOther (World.rowIs.congr (World.rowIs.set hX1 3 _) fun i hi => ?_) (by exact hXG) _, World.rowIs.set (World.rowIs.setOther hG1 (by exact fun e => hXG e.symm) _) k _, World.rowIs.setOther (World.rowIs.setOther hR1 (by exact fun e => hXR e.symm) _) (by exact fun e => hGR e.symm) _, hv1.kept hk3 hNL, (hk1.mono (by simp)).trans hk3⟩
  match i, hi with
  | 0, _ => rfl
  | 1, _ => rfl
  | 2, _ => rfl
  | 3, _ => rfl

theorem read_endN {X G R n : Nat} {NL : List Nat} (hNL : ∀ k ∈ [X, G, R], k ∈ NL) {t : TypeId} {f : Nat → Value} {c outv r : Value} {bad b : Bool} {w w2 w3 : World} (hXG : X ≠ G) (hXR : X ≠ R) {v' : Value} {rest : List Int}
    (hX2 : w2.rowIs X 149 4 (codF c r outv bad)) (hG2 : w2.rowIs G t n f) (hR2 : w2.rowIs R 196 2 (rdF v')) (hv2 : SlX w2 NL v' rest) (hk2 : Kept [X, G, R] w w2) (hb : Below w2.heap.size w2 w3) :
    ∃ v', (w3.setCell ⟨X, 3, none⟩ (.bool b)).rowIs X 149 4 (codF c r outv b) ∧ (w3.setCell ⟨X, 3, none⟩ (.bool b)).rowIs G t n f ∧ (w3.setCell ⟨X, 3, none⟩ (.bool b)).rowIs R 196 2 (rdF v') ∧ SlX (w3.setCell ⟨X, 3, none⟩ (.bool b)) NL v' rest ∧ Kept [X, G, R] w (w3.setCell ⟨X, 3, none⟩ (.bool b)) := by
  have hk : Kept [X, G, R] w2 (w3.setCell ⟨X, 3, none⟩ (.bool b)) := (Kept.of_below hb).setCell (by simp) _
  have hX3 := World.rowIs.of_block hX2 (hb.block X (World.rowIs.lt hX2))
  have hG3 := World.rowIs.of_block hG2 (hb.block G (World.rowIs.lt hG2))
  have hR3 := World.rowIs.of_block hR2 (hb.block R (World.rowIs.lt hR2))
  refine ⟨v', World.rowIs.congr (World.rowIs.set hX3 3 _) fun i hi => ?_, World.rowIs.setOther hG3 (by exact fun e => hXG e.symm) _, World.rowIs.setOther hR3 (by exact fun e => hXR e.symm) _, hv2.kept hk hNL, hk2.trans hk⟩
  match i, hi with
  | 0, _ => rfl
  | 1, _ => rfl
  | 2, _ => rfl
  | 3, _ => rfl

set_option maxRecDepth 100000 in
set_option maxHeartbeats 2000000 in
theorem part_readN (X G R k : Nat) (NL : List Nat) (hNL : ∀ k ∈ [X, G, R], k ∈ NL) (t : TypeId) (n : Nat) (f : Nat → Value) (s : ByteArray) (u0 : ByteArray) (c outv v : Value) (rest : List Int) (bad al : Bool) (N : Nat) (w : World)
    (hG : w.rowIs G t n f) (hk : k < n) (hf : f k = .string u0) (hXG : X ≠ G) (hXR : X ≠ R) (hGR : G ≠ R) (hX : w.rowIs X 149 4 (codF c (.pointer (some ⟨R, 0, none⟩)) outv bad))
    (hR : w.rowIs R 196 2 (rdF v)) (hv : SlX w NL v (putV s.size ++ (sBytes s ++ rest))) (hget : GetOk s.size) (hs : s.size ≤ 65536) (hrl : rest.length ≤ 500000)
    (eg : ∀ args w, (callFunc N args).run Try.prog w = .ok (.enter N args) w) (hN : ∀ w, Calls Try.prog N #[.string s] w fun e w' => e = .returned (.bool al) ∧ Below w.heap.size w w') :
    Calls Try.prog 126 #[.pointer (some ⟨X, 0, none⟩), .pointer (some ⟨G, k, none⟩), .func (.func N) #[] #[]] w fun e w' =>
      e = .returned (.tuple #[]) ∧ ∃ v', w'.rowIs X 149 4 (codF c (.pointer (some ⟨R, 0, none⟩)) outv (bad || !al)) ∧ w'.rowIs G t n (updF f k (.string s)) ∧ w'.rowIs R 196 2 (rdF v') ∧ SlX w' NL v' rest ∧ Kept [X, G, R] w w' := by
  have hc1 : w.cell? ⟨X, 1, none⟩ = some (.pointer (some ⟨R, 0, none⟩)) := World.rowIs.cell hX (i := 1) (by decide)
  have hsl := sBytes_len s
  have hpl : (putV s.size).length ≤ 10 := putV_len10 (by omega)
  have HB := Lib.hid (bytes_any NL R 65536 (hNL R (by simp)) v (sBytes s) rest w (by rw [hsl]; exact hget) (by simp only [List.length_append]; rw [hsl]; omega) (by rw [hsl]; exact hs) (by omega) hR (by rw [hsl]; exact hv))
  have HX := Lib.hid hX
  have HG := Lib.hid hG
  have HN := Lib.hid hN
  clear hX hG hN hget hR hv
  go_enter Try.func126, Try.ntmps126
  go_wp2_with fail
  refine HB.out.mono ?_
  rintro e w1 ⟨vp, v', rfl, hown1, hR1, hv1, hk1⟩
  obtain ⟨Ap, cp, rfl, hbyp⟩ := hown1.val
  rw [hsl]
  have hX1 := hk1.row (G := X) (by simp [hXR]) HX.out
  have hG1 := hk1.row (G := G) (by simp [hGR]) HG.out
  have h13 : w1.cell? ⟨X, 3, none⟩ = some (.bool bad) := World.rowIs.cell hX1 (i := 3) (by decide)
  have hf13 : w1.frozen? ⟨X, 3, none⟩ = false := World.rowIs.frozen hX1 3
  have h1g : w1.cell? ⟨G, k, none⟩ = some (.string u0) := by rw [← hf]; exact World.rowIs.cell hG1 hk
  have hf1g : w1.frozen? ⟨G, k, none⟩ = false := World.rowIs.frozen hG1 k
  have hconv : ∀ W, Byt W W.heap.size Ap cp (sBytes s) → (convert 22 9 (.slice Ap s.size cp)).run Try.prog W = .ok (.string s) W := fun W h => by
    have := h.convert hsl
    rwa [str_nums] at this
  have hcv : (convert 22 9 (.slice Ap s.size cp)).run Try.prog (w1.setCell ⟨X, 3, none⟩ (.bool bad)) = .ok (.string s) (w1.setCell ⟨X, 3, none⟩ (.bool bad)) := by
    refine hconv _ (((Kept.refl [X] w1).setCell (p := ⟨X, 3, none⟩) (by simp) _).byt hbyp fun x off hA hm => ?_)
    obtain ⟨A', c', e, _, hlo⟩ := SlB.of_own hown1
    cases e
    have h1 := hlo x off hA
    have h2 := World.rowIs.lt HX.out
    simp at hm
    omega
  obtain ⟨w2, hw2, hX2, hG2, hR2, hv2, hk2⟩ := read_midN hNL (k := k) (u := .string s) hXG hX1 hG1 hk1 hXR hGR hR1 hv1
  clear hconv
  cases bad with
  | true =>
    go_wp2_with fail
    go_end0
    rw [← hw2]
    exact ⟨rfl, read_endN hNL (b := true) hXG hXR hX2 hG2 hR2 hv2 hk2 (Below.refl _ _)⟩
  | false =>
    go_wp2_with fail
    rw [← hw2]
    refine (HN.out w2).mono ?_
    rintro e w3 ⟨rfl, hb3⟩
    have hX3 := World.rowIs.of_block hX2 (hb3.block X (World.rowIs.lt hX2))
    have h33 : w3.cell? ⟨X, 3, none⟩ = some (.bool false) := World.rowIs.cell hX3 (i := 3) (by decide)
    have hf33 : w3.frozen? ⟨X, 3, none⟩ = false := World.rowIs.frozen hX3 3
    clear hX3 hw2
    go_wp2_with fail
    go_end0
    exact ⟨rfl, read_endN hNL (b := !al) hXG hXR hX2 hG2 hR2 hv2 hk2 hb3⟩

/-- the codec X reads the command C from the reader R -/
def RS (w : World) (N : List Nat) (X C R : Nat) (f : Nat → Value) (rest : List Int) (bad : Bool) : Prop :=
  X ≠ C ∧ X ≠ R ∧ C ≠ R ∧ w.rowIs C 45 10 f ∧ w.rowIs X 149 4 (codF (.pointer (some ⟨C, 0, none⟩)) (.pointer (some ⟨R, 0, none⟩)) (.slice none 0 0) bad) ∧ (∀ k ∈ [X, C, R], k ∈ N) ∧ ∃ v, w.rowIs R 196 2 (rdF v) ∧ SlX w N v rest
theorem RS.bad {w : World} {N : List Nat} {X C R : Nat} {f : Nat → Value} {rest rest' : List Int} {bad bad' : Bool} (h : RS w N X C R f rest bad) (e' : rest = rest') (e : bad = bad') : RS w N X C R f rest' bad' := by subst e; subst e'; exact h
theorem RS.row {w : World} {N : List Nat} {X C R : Nat} {f g : Nat → Value} {rest : List Int} {bad : Bool} (h : RS w N X C R f rest bad) (e : ∀ i, i < 10 → f i = g i) : RS w N X C R g rest bad := ⟨h.1, h.2.1, h.2.2.1, World.rowIs.congr h.2.2.2.1 e, h.2.2.2.2⟩
theorem RS.lt {w : World} {N : List Nat} {X C R : Nat} {f : Nat → Value} {rest : List Int} {bad : Bool} (h : RS w N X C R f rest bad) : X < w.heap.size ∧ C < w.heap.size ∧ R < w.heap.size := ⟨World.rowIs.lt h.2.2.2.2.1, World.rowIs.lt h.2.2.2.1, by obtain ⟨v, h1, _⟩ := h.2.2.2.2.2.2; exact World.rowIs.lt h1⟩
theorem RS.kept {w w' : World} {N L : List Nat} {X C R : Nat} {f : Nat → Value} {rest : List Int} {bad : Bool} (h : RS w N X C R f rest bad) (hk : Kept L w w') (hL : ∀ k ∈ L, k ∈ N ∧ k ≠ X ∧ k ≠ C ∧ k ≠ R) : RS w' N X C R f rest bad := by
  obtain ⟨h1, h2, h3, h4, h5, h0, v, h6, h7⟩ := h
  exact ⟨h1, h2, h3, hk.row (fun hm => (hL _ hm).2.2.1 rfl) h4, hk.row (fun hm => (hL _ hm).2.1 rfl) h5, h0, v, hk.row (fun hm => (hL _ hm).2.2.2 rfl) h6, h7.kept hk (fun k hm => (hL k hm).1)⟩
theorem RS.below {w w' : World} {N : List Nat} {X C R : Nat} {f : Nat → Value} {rest : List Int} {bad : Bool} (h : RS w N X C R f rest bad) (hb : Below w.heap.size w w') : RS w' N X C R f rest bad := h.kept (Kept.of_below (L := []) hb) (by simp)
/-- a block that came later need not be watched, but may be -/
theorem RS.more {w : World} {N : List Nat} {X C R G : Nat} {f : Nat → Value} {rest : List Int} {bad : Bool} (h : RS w N X C R f rest bad) (w0 : World) (hG : w0.heap.size ≤ G) (h0 : RS w0 N X C R f rest bad) (hr : 0 < rest.length) (hb : Below w0.heap.size w0 w) : RS w (G :: N) X C R f rest bad := by
  obtain ⟨_, _, _, _, _, _, v0, h6, h7⟩ := h0
  obtain ⟨h1, h2, h3, h4, h5, hN, _, _, _⟩ := h
  have h8 := h7.kept (Kept.of_below (L := []) hb) (by simp)
  obtain ⟨A, c, e, hby, hn⟩ := h7
  obtain ⟨b, off, rfl, hlt, _⟩ := hby.at (i := 0) hr
  obtain ⟨A', c', e', hby', hn'⟩ := h8
  rw [e] at e'
  cases e'
  refine ⟨h1, h2, h3, h4, h5, fun k hk => List.mem_cons_of_mem _ (hN k hk), v0, World.rowIs.of_block h6 (hb.block _ (World.rowIs.lt h6)), _, _, e, hby', fun b' off' e1 hm => ?_⟩
  cases e1
  rcases List.mem_cons.1 hm with rfl | hm
  · omega
  · exact hn' _ _ rfl hm
theorem RS.less {w : World} {N N' : List Nat} {X C R : Nat} {f : Nat → Value} {rest : List Int} {bad : Bool} (h : RS w N X C R f rest bad) (hN : ∀ k ∈ N', k ∈ N) (h0 : ∀ k ∈ [X, C, R], k ∈ N') : RS w N' X C R f rest bad := by
  obtain ⟨h1, h2, h3, h4, h5, _, v, h6, A, c, e, hby, hn⟩ := h
  exact ⟨h1, h2, h3, h4, h5, h0, v, h6, A, c, e, hby, fun b off e1 hm => hn b off e1 (hN b hm)⟩

/-- a string of the command, read -/
theorem rs_part {w : World} {NL : List Nat} {X C R : Nat} {f : Nat → Value} {rest : List Int} {bad al : Bool} (k : Nat) (s u0 : ByteArray) (N : Nat) (h : RS w NL X C R f (putV s.size ++ (sBytes s ++ rest)) bad) (hk : k < 10) (hf : f k = .string u0)
    (eg : ∀ args w, (callFunc N args).run Try.prog w = .ok (.enter N args) w) (hN : ∀ w, Calls Try.prog N #[.string s] w fun e w' => e = .returned (.bool al) ∧ Below w.heap.size w w') (hs : s.size ≤ 65536) (hrl : rest.length ≤ 500000) :
    Calls Try.prog 126 #[.pointer (some ⟨X, 0, none⟩), .pointer (some ⟨C, k, none⟩), .func (.func N) #[] #[]] w fun e w' =>
      e = .returned (.tuple #[]) ∧ RS w' NL X C R (updF f k (.string s)) rest (bad || !al) ∧ Kept [X, C, R] w w' := by
  obtain ⟨h1, h2, h3, h4, h5, h0, v, h6, h7⟩ := h
  exact (part_readN X C R k NL h0 45 10 f s u0 _ _ v rest bad al N w h4 hk hf h1 h2 h3 h5 h6 h7 (get_any (by omega)) hs hrl eg hN).mono fun e w' ⟨e1, v', e2, e3, e4, e5, e6⟩ => ⟨e1, ⟨h1, h2, h3, e3, e2, h0, v', e4, e5⟩, e6⟩
/-- a string read to a cell of a block of its own -/
theorem rs_part_at {w : World} {NL : List Nat} {X C R G k n : Nat} {t : TypeId} {f g : Nat → Value} {rest : List Int} {bad al : Bool} (s u0 : ByteArray) (N : Nat) (h : RS w NL X C R f (putV s.size ++ (sBytes s ++ rest)) bad) (hG : w.rowIs G t n g) (hGX : X ≠ G) (hGR : G ≠ R) (hGC : C ≠ G) (hGN : G ∈ NL) (hk : k < n) (hg : g k = .string u0)
    (eg : ∀ args w, (callFunc N args).run Try.prog w = .ok (.enter N args) w) (hN : ∀ w, Calls Try.prog N #[.string s] w fun e w' => e = .returned (.bool al) ∧ Below w.heap.size w w') (hs : s.size ≤ 65536) (hrl : rest.length ≤ 500000) :
    Calls Try.prog 126 #[.pointer (some ⟨X, 0, none⟩), .pointer (some ⟨G, k, none⟩), .func (.func N) #[] #[]] w fun e w' =>
      e = .returned (.tuple #[]) ∧ RS w' NL X C R f rest (bad || !al) ∧ w'.rowIs G t n (updF g k (.string s)) ∧ Kept [X, G, R] w w' := by
  obtain ⟨h1, h2, h3, h4, h5, h0, v, h6, h7⟩ := h
  have hNL : ∀ k ∈ [X, G, R], k ∈ NL := fun k hk => by
    simp only [List.mem_cons, List.not_mem_nil, or_false] at hk
    rcases hk with rfl | rfl | rfl
    · exact h0 _ (by simp)
    · exact hGN
    · exact h0 _ (by simp)
  exact (part_readN X G R k NL hNL t n g s u0 _ _ v rest bad al N w hG hk hg hGX h2 hGR h5 h6 h7 (get_any (by omega)) hs hrl eg hN).mono fun e w' ⟨e1, v', e2, e3, e4, e5, e6⟩ => ⟨e1, ⟨h1, h2, h3, e6.row (by simp; exact ⟨fun e => h1 e.symm, hGC, h3⟩) h4, e2, h0, v', e4, e5⟩, e3, e6⟩
end Go.Proofs.Ytnmhmabifeapkaa.Ord
/- The codec that reads: its numbers, lifetimes and values. -/
namespace Go.Proofs.Ytnmhmabifeapkaa.Ord
open Go.RowKit
set_option linter.unusedVariables false

set_option maxRecDepth 100000 in
set_option maxHeartbeats 2000000 in
theorem number_readN (X G R k : Nat) (NL : List Nat) (hNL : ∀ k ∈ [X, G, R], k ∈ NL) (t : TypeId) (n : Nat) (f : Nat → Value) (m : Nat) (u0 : Int) (c outv v : Value) (rest : List Int) (bad : Bool) (w : World)
    (hG : w.rowIs G t n f) (hk : k < n) (hf : f k = .int .u64 u0) (hXG : X ≠ G) (hXR : X ≠ R) (hGR : G ≠ R) (hX : w.rowIs X 149 4 (codF c (.pointer (some ⟨R, 0, none⟩)) outv bad))
    (hR : w.rowIs R 196 2 (rdF v)) (hv : SlX w NL v (putV m ++ rest)) (hget : GetOk m) (hl : (putV m ++ rest).length ≤ 1000000) :
    Calls Try.prog 132 #[.pointer (some ⟨X, 0, none⟩), .pointer (some ⟨G, k, none⟩)] w fun e w' =>
      e = .returned (.tuple #[]) ∧ ∃ v', w'.rowIs X 149 4 (codF c (.pointer (some ⟨R, 0, none⟩)) outv bad) ∧ w'.rowIs G t n (updF f k (.int .u64 m)) ∧ w'.rowIs R 196 2 (rdF v') ∧ SlX w' NL v' rest ∧ Kept [X, G, R] w w' := by
  have hc1 : w.cell? ⟨X, 1, none⟩ = some (.pointer (some ⟨R, 0, none⟩)) := World.rowIs.cell hX (i := 1) (by decide)
  have HB := Lib.hid (number145 NL R m (hNL R (by simp)) v rest w hget hl hR hv)
  have HX := Lib.hid hX
  have HG := Lib.hid hG
  clear hX hG hget hR hv
  go_enter Try.func132, Try.ntmps132
  go_wp2_with fail
  refine HB.out.mono ?_
  rintro e w1 ⟨v', rfl, hR1, hv1, hk1⟩
  have hX1 := hk1.row (G := X) (by simp [hXR]) HX.out
  have hG1 := hk1.row (G := G) (by simp [hGR]) HG.out
  have h13 : w1.cell? ⟨X, 3, none⟩ = some (.bool bad) := World.rowIs.cell hX1 (i := 3) (by decide)
  have hf13 : w1.frozen? ⟨X, 3, none⟩ = false := World.rowIs.frozen hX1 3
  have h1g : w1.cell? ⟨G, k, none⟩ = some (.int .u64 u0) := by rw [← hf]; exact World.rowIs.cell hG1 hk
  have hf1g : w1.frozen? ⟨G, k, none⟩ = false := World.rowIs.frozen hG1 k
  obtain ⟨w2, hw2, hX2, hG2, hR2, hv2, hk2⟩ := read_midN hNL (k := k) (u := .int .u64 m) hXG hX1 hG1 hk1 hXR hGR hR1 hv1
  cases bad with
  | true =>
    go_wp2_with fail
    go_end0
    rw [← hw2]
    exact ⟨rfl, v', hX2, hG2, hR2, hv2, hk2⟩
  | false =>
    go_wp2_with fail
    go_end0
    rw [← hw2]
    exact ⟨rfl, v', hX2, hG2, hR2, hv2, hk2⟩

/-- a number of the command, read -/
theorem rs_number {w : World} {NL : List Nat} {X C R : Nat} {f : Nat → Value} {rest : List Int} {bad : Bool} (k m : Nat) (u0 : Int) (h : RS w NL X C R f (putV m ++ rest) bad) (hk : k < 10) (hf : f k = .int .u64 u0) (hm : m < 18446744073709551616) (hrl : rest.length ≤ 500000) :
    Calls Try.prog 132 #[.pointer (some ⟨X, 0, none⟩), .pointer (some ⟨C, k, none⟩)] w fun e w' =>
      e = .returned (.tuple #[]) ∧ RS w' NL X C R (updF f k (.int .u64 m)) rest bad ∧ Kept [X, C, R] w w' := by
  obtain ⟨h1, h2, h3, h4, h5, h0, v, h6, h7⟩ := h
  have hl := putV_len10 hm
  exact (number_readN X C R k NL h0 45 10 f m u0 _ _ v rest bad w h4 hk hf h1 h2 h3 h5 h6 h7 (get_any hm) (by simp only [List.length_append]; omega)).mono fun e w' ⟨e1, v', e2, e3, e4, e5, e6⟩ => ⟨e1, ⟨h1, h2, h3, e3, e2, h0, v', e4, e5⟩, e6⟩
/-- a number read to a cell of a block of its own -/
theorem rs_number_at {w : World} {NL : List Nat} {X C R G k n : Nat} {t : TypeId} {f g : Nat → Value} {rest : List Int} {bad : Bool} (m : Nat) (u0 : Int) (h : RS w NL X C R f (putV m ++ rest) bad) (hG : w.rowIs G t n g) (hGX : X ≠ G) (hGR : G ≠ R) (hGC : C ≠ G) (hGN : G ∈ NL) (hk : k < n) (hg : g k = .int .u64 u0) (hm : m < 18446744073709551616) (hrl : rest.length ≤ 500000) :
    Calls Try.prog 132 #[.pointer (some ⟨X, 0, none⟩), .pointer (some ⟨G, k, none⟩)] w fun e w' =>
      e = .returned (.tuple #[]) ∧ RS w' NL X C R f rest bad ∧ w'.rowIs G t n (updF g k (.int .u64 m)) ∧ Kept [X, G, R] w w' := by
  obtain ⟨h1, h2, h3, h4, h5, h0, v, h6, h7⟩ := h
  have hl := putV_len10 hm
  have hNL : ∀ k ∈ [X, G, R], k ∈ NL := fun k hk => by
    simp only [List.mem_cons, List.not_mem_nil, or_false] at hk
    rcases hk with rfl | rfl | rfl
    · exact h0 _ (by simp)
    · exact hGN
    · exact h0 _ (by simp)
  exact (number_readN X G R k NL hNL t n g m u0 _ _ v rest bad w hG hk hg hGX h2 hGR h5 h6 h7 (get_any hm) (by simp only [List.length_append]; omega)).mono fun e w' ⟨e1, v', e2, e3, e4, e5, e6⟩ => ⟨e1, ⟨h1, h2, h3, e6.row (by simp; exact ⟨fun e => h1 e.symm, hGC, h3⟩) h4, e2, h0, v', e4, e5⟩, e3, e6⟩

/-- the store of one cell of the command -/
theorem RS.store {w : World} {N : List Nat} {X C R : Nat} {f : Nat → Value} {rest : List Int} {bad : Bool} (h : RS w N X C R f rest bad) (k : Nat) (u : Value) : RS (w.setCell ⟨C, k, none⟩ u) N X C R (updF f k u) rest bad ∧ Kept [C] w (w.setCell ⟨C, k, none⟩ u) := by
  have hk : Kept [C] w (w.setCell ⟨C, k, none⟩ u) := (Kept.refl _ _).setCell (by simp) _
  obtain ⟨h1, h2, h3, h4, h5, h0, v, h6, h7⟩ := h
  exact ⟨⟨h1, h2, h3, World.rowIs.set h4 k u, hk.row (by simp; exact h1) h5, h0, v, hk.row (by simp; exact fun e => h3 e.symm) h6, h7.kept hk fun k hk => by simp at hk; exact h0 k (by simp [hk])⟩, hk⟩
/-- the store of the codec's mark -/
theorem RS.setbad {w : World} {N : List Nat} {X C R : Nat} {f : Nat → Value} {rest : List Int} {bad : Bool} (h : RS w N X C R f rest bad) (b : Bool) : RS (w.setCell ⟨X, 3, none⟩ (.bool b)) N X C R f rest b ∧ Kept [X] w (w.setCell ⟨X, 3, none⟩ (.bool b)) := by
  have hk : Kept [X] w (w.setCell ⟨X, 3, none⟩ (.bool b)) := (Kept.refl _ _).setCell (by simp) _
  obtain ⟨h1, h2, h3, h4, h5, h0, v, h6, h7⟩ := h
  refine ⟨⟨h1, h2, h3, hk.row (by simp; exact fun e => h1 e.symm) h4, World.rowIs.congr (World.rowIs.set h5 3 _) fun i hi => ?_, h0, v, hk.row (by simp; exact fun e => h2 e.symm) h6, h7.kept hk fun k hk => by simp at hk; exact h0 k (by simp [hk])⟩, hk⟩
  match i, hi with
  | 0, _ => rfl
  | 1, _ => rfl
  | 2, _ => rfl
  | 3, _ => rfl
theorem RS.drew {w : World} {N : List Nat} {X C R : Nat} {f : Nat → Value} {rest : List Int} {bad : Bool} (h : RS w N X C R f rest bad) : RS w.drew N X C R f rest bad := h

set_option maxRecDepth 100000 in
set_option maxHeartbeats 2000000 in
theorem rs_life {w : World} {NL : List Nat} {X C R : Nat} {f : Nat → Value} {rest : List Int} {bad : Bool} (m : Nat) (u0 : Int) (h : RS w NL X C R f (putV m ++ rest) bad) (hf : f 5 = .int .u64 u0) (hu : 0 ≤ u0 ∧ u0 < 18446744073709551616) (hm : m < 18446744073709551616) (hrl : rest.length ≤ 500000) :
    Calls Try.prog 131 #[.pointer (some ⟨X, 0, none⟩)] w fun e w' =>
      e = .returned (.tuple #[]) ∧ RS w' NL X C R (updF f 5 (.int .u64 m)) rest (bad || (m == 0)) ∧ Kept [X, C, R] w w' := by
  obtain ⟨hXl, hCl, hRl⟩ := h.lt
  have h1 := h.1
  have c0 : w.cell? ⟨X, 0, none⟩ = some (.pointer (some ⟨C, 0, none⟩)) := World.rowIs.cell h.2.2.2.2.1 (i := 0) (by decide)
  have c5 : w.cell? ⟨C, 5, none⟩ = some (.int .u64 u0) := by rw [← hf]; exact World.rowIs.cell h.2.2.2.1 (i := 5) (by decide)
  have hb1 := below1 w (.cells #[.int .u64 u0] 42)
  have hT : (w.alloc (.cells #[.int .u64 u0] 42)).rowIs w.heap.size 42 1 (listF [.int .u64 u0]) := row_list w [.int .u64 u0] 42
  have hp := putV_pos (m := m)
  have hN := rs_number_at (k := 0) m u0 ((h.below hb1).more w (Nat.le_refl _) h (by rw [List.length_append]; omega) hb1) hT (by omega) (by omega) (by omega) List.mem_cons_self (by decide) rfl hm hrl
  have HN := Lib.hid hN
  have HB1 := Lib.hid hb1
  have HNL := Lib.hid (h.2.2.2.2.2.1)
  clear hN hT hb1 h
  go_enter Try.func131, Try.ntmps131
  go_wp2_with fail
  refine HN.out.mono ?_
  rintro e w2 ⟨rfl, hR2, hT2, hk2⟩
  have c20 : w2.cell? ⟨X, 0, none⟩ = some (.pointer (some ⟨C, 0, none⟩)) := World.rowIs.cell hR2.2.2.2.2.1 (i := 0) (by decide)
  have c25 : w2.cell? ⟨C, 5, none⟩ = some (.int .u64 u0) := by rw [← hf]; exact World.rowIs.cell hR2.2.2.2.1 (i := 5) (by decide)
  have f25 : w2.frozen? ⟨C, 5, none⟩ = false := World.rowIs.frozen hR2.2.2.2.1 5
  have t20 : w2.cell? ⟨w.heap.size, 0, none⟩ = some (.int .u64 m) := World.rowIs.cell hT2 (i := 0) (by decide)
  have HR2 := Lib.hid hR2
  have HT2 := Lib.hid hT2
  have HK2 := Lib.hid hk2
  clear hR2 hT2 hk2
  go_wp2_with fail
  go_region_law (fail)
  all_goals
    obtain ⟨hR3, hk3⟩ := HR2.out.store 5 (.int .u64 m)
    have hT3 := hk3.row (by simp; omega) HT2.out
    have HR3 := Lib.hid hR3.drew
    have hk4 : Kept [X, C, R, w.heap.size] w (w2.setCell ⟨C, 5, none⟩ (.int .u64 m)).drew := (((Kept.of_below HB1.out).trans (HK2.out.mono (by simp))).trans (hk3.mono (by simp))).drew
    have hT4 : (w2.setCell ⟨C, 5, none⟩ (.int .u64 m)).drew.rowIs w.heap.size 42 1 (updF (listF [.int .u64 u0]) 0 (.int .u64 m)) := World.rowIs.drew hT3
    generalize (w2.setCell ⟨C, 5, none⟩ (.int .u64 m)).drew = W3 at *
    have x33 : W3.cell? ⟨X, 3, none⟩ = some (.bool bad) := World.rowIs.cell HR3.out.2.2.2.2.1 (i := 3) (by decide)
    have fx33 : W3.frozen? ⟨X, 3, none⟩ = false := World.rowIs.frozen HR3.out.2.2.2.2.1 3
    have t30 : W3.cell? ⟨w.heap.size, 0, none⟩ = some (.int .u64 m) := World.rowIs.cell hT4 (i := 0) (by decide)
    have HK4 := Lib.hid hk4
    clear hR3 hk3 hT3 hk4 hT4 c20 c25 f25 t20
    have hend : ∀ b, RS (W3.setCell ⟨X, 3, none⟩ (.bool b)) NL X C R (updF f 5 (.int .u64 m)) rest b ∧ Kept [X, C, R] w (W3.setCell ⟨X, 3, none⟩ (.bool b)) := fun b => by
      obtain ⟨h1, h2⟩ := HR3.out.setbad b
      refine ⟨h1.less (fun k hk => List.mem_cons_of_mem _ hk) HNL.out, ?_⟩
      have h3 := HK4.out.trans (h2.mono (L' := [X, C, R, w.heap.size]) (by simp))
      exact ⟨h3.os, h3.tape, h3.output, h3.size, fun k hk hn => h3.block k hk (by simp at hn ⊢; exact ⟨hn.1, hn.2.1, hn.2.2, by omega⟩)⟩
    cases bad with
    | true =>
      go_wp2_with fail
      go_end0
      exact ⟨rfl, (hend true).1, (hend true).2⟩
    | false =>
      cases hm0 : ((m : Int) == 0)
      · go_wp2_with fail
        go_end0
        have e : (m == 0) = false := by simp at hm0 ⊢; omega
        exact ⟨rfl, by rw [e]; exact (hend false).1, (hend false).2⟩
      · go_wp2_with fail
        go_end0
        have e : (m == 0) = true := by simp at hm0 ⊢; omega
        exact ⟨rfl, by rw [e]; exact (hend true).1, (hend true).2⟩
end Go.Proofs.Ytnmhmabifeapkaa.Ord
/- The codec that reads: its value. -/
namespace Go.Proofs.Ytnmhmabifeapkaa.Ord
open Go.RowKit
set_option linter.unusedVariables false

theorem Kept.cut3 {X C R : Nat} {w w' : World} (h3 : Kept [X, C, R, w.heap.size] w w') : Kept [X, C, R] w w' := ⟨h3.os, h3.tape, h3.output, h3.size, fun k hk hn => h3.block k hk (by simp at hn ⊢; exact ⟨hn.1, hn.2.1, hn.2.2, by omega⟩)⟩

set_option maxRecDepth 100000 in
set_option maxHeartbeats 2000000 in
theorem rs_value {w : World} {NL : List Nat} {X C R : Nat} {f : Nat → Value} {rest : List Int} {bad : Bool} (s : ByteArray) (h : RS w NL X C R f (putV s.size ++ (sBytes s ++ rest)) bad) (hf : f 3 = .slice none 0 0) (hs : s.size ≤ 65536) (hrl : rest.length ≤ 500000) :
    Calls Try.prog 128 #[.pointer (some ⟨X, 0, none⟩)] w fun e w' =>
      e = .returned (.tuple #[]) ∧ ∃ vv, RS w' NL X C R (updF f 3 vv) rest bad ∧ SlX w' [X, C, R] vv (sBytes s) ∧ Kept [X, C, R] w w' := by
  obtain ⟨hXl, hCl, hRl⟩ := h.lt
  have h1 := h.1
  have c0 : w.cell? ⟨X, 0, none⟩ = some (.pointer (some ⟨C, 0, none⟩)) := World.rowIs.cell h.2.2.2.2.1 (i := 0) (by decide)
  have c3 : w.cell? ⟨C, 3, none⟩ = some (.slice none 0 0) := by rw [← hf]; exact World.rowIs.cell h.2.2.2.1 (i := 3) (by decide)
  have hcv : (convert 22 9 (.slice none 0 0)).run Try.prog w = .ok (.string ⟨#[]⟩) w := (Byt.nil w 0).convert rfl
  have hb1 := below1 w (.cells #[.string ⟨#[]⟩] 9)
  have hT : (w.alloc (.cells #[.string ⟨#[]⟩] 9)).rowIs w.heap.size 9 1 (listF [.string ⟨#[]⟩]) := row_list w [.string ⟨#[]⟩] 9
  have hp := putV_pos (m := s.size)
  have hN := rs_part_at (k := 0) s ⟨#[]⟩ 144 ((h.below hb1).more w (Nat.le_refl _) h (by rw [List.length_append]; omega) hb1) hT (by omega) (by omega) (by omega) List.mem_cons_self (by decide) rfl enter144 (fun w => small144 s (by omega) w) hs hrl
  have HN := Lib.hid hN
  have HB1 := Lib.hid hb1
  have HNL := Lib.hid (h.2.2.2.2.2.1)
  have hsl := sBytes_len s
  clear hN hT hb1 h
  go_enter Try.func128, Try.ntmps128
  go_wp2_with fail
  refine HN.out.mono ?_
  rintro e w2 ⟨rfl, hR2, hT2, hk2⟩
  have hR2 := (hR2.bad rfl (show (bad || !true) = bad by simp)).less (fun k hk => List.mem_cons_of_mem _ hk) HNL.out
  have c21 : w2.cell? ⟨X, 1, none⟩ = some (.pointer (some ⟨R, 0, none⟩)) := World.rowIs.cell hR2.2.2.2.2.1 (i := 1) (by decide)
  have c20 : w2.cell? ⟨X, 0, none⟩ = some (.pointer (some ⟨C, 0, none⟩)) := World.rowIs.cell hR2.2.2.2.2.1 (i := 0) (by decide)
  have c23 : w2.cell? ⟨C, 3, none⟩ = some (.slice none 0 0) := by rw [← hf]; exact World.rowIs.cell hR2.2.2.2.1 (i := 3) (by decide)
  have f23 : w2.frozen? ⟨C, 3, none⟩ = false := World.rowIs.frozen hR2.2.2.2.1 3
  have t20 : w2.cell? ⟨w.heap.size, 0, none⟩ = some (.string s) := World.rowIs.cell hT2 (i := 0) (by decide)
  have hkw : Kept [X, C, R, w.heap.size] w w2 := (Kept.of_below HB1.out).trans (hk2.mono (by simp))
  have HR2 := Lib.hid hR2
  have HK2 := Lib.hid hkw
  clear hR2 hT2 hk2 hkw
  by_cases h0 : s.size = 0
  · have hg : decide ((0 : Int) < (s.size : Int)) = false := by rw [h0]; rfl
    go_wp2_with fail
    go_end0
    have hse : sBytes s = [] := List.eq_nil_of_length_eq_zero (by omega)
    refine ⟨rfl, .slice none 0 0, HR2.out.row fun i hi => ?_, ⟨none, 0, by rw [hse]; rfl, by rw [hse]; exact Byt.nil _ _, by simp⟩, HK2.out.cut3⟩
    by_cases e : i = 3
    · subst e; simp [updF, hf]
    · simp [updF, e]
  · have hg : decide ((0 : Int) < (s.size : Int)) = true := by simp; omega
    go_wp2_with fail
    obtain ⟨c2, W5, hconv, hby5, hb5⟩ := conv_str w2.drew s
    have hb25 : Below w2.heap.size w2 W5 := ⟨hb5.os, hb5.tape, hb5.output, hb5.size, hb5.block⟩
    have hR5 := HR2.out.below hb25
    have c50 : W5.cell? ⟨X, 0, none⟩ = some (.pointer (some ⟨C, 0, none⟩)) := World.rowIs.cell hR5.2.2.2.2.1 (i := 0) (by decide)
    have c53 : W5.cell? ⟨C, 3, none⟩ = some (.slice none 0 0) := by rw [← hf]; exact World.rowIs.cell hR5.2.2.2.1 (i := 3) (by decide)
    have f53 : W5.frozen? ⟨C, 3, none⟩ = false := World.rowIs.frozen hR5.2.2.2.1 3
    have hR5 := Lib.hid hR5
    have hby5 := Lib.hid hby5
    go_region_law (fail)
    all_goals
      go_end0
      obtain ⟨hR6, hk6⟩ := hR5.out.store 3 (.slice (some ⟨w2.heap.size, 0, none⟩) s.size c2)
      have hs2 := HR2.out.lt
      refine ⟨rfl, .slice (some ⟨w2.heap.size, 0, none⟩) s.size c2, hR6, ⟨some ⟨w2.heap.size, 0, none⟩, c2, by rw [hsl], hk6.byt hby5.out fun x off hA hm => ?_, fun b off hA hm => ?_⟩, ((HK2.out.trans (Kept.of_below hb25)).trans (hk6.mono (by simp))).cut3⟩
      · cases hA
        simp at hm
        omega
      · cases hA
        simp at hm
        omega
end Go.Proofs.Ytnmhmabifeapkaa.Ord
/- The codec that reads: its lists. -/
namespace Go.Proofs.Ytnmhmabifeapkaa.Ord
open Go.RowKit
set_option linter.unusedVariables false

/-- a slice of strings in a value, in none of some blocks -/
def SlN (w : World) (N : List Nat) (v : Value) (xs : List ByteArray) : Prop := ∃ A c, v = .slice A xs.length c ∧ ElV Value.string w w.heap.size A xs ∧ ∀ b off, A = some ⟨b, off, none⟩ → xs ≠ [] → b ∉ N
theorem SlN.nil (w : World) (N : List Nat) : SlN w N (.slice none 0 0) [] := ⟨none, 0, rfl, (fun i x h => by simp at h), by simp⟩
theorem SlN.kept {w w' : World} {N L : List Nat} {v : Value} {xs : List ByteArray} (h : SlN w N v xs) (hk : Kept L w w') (hL : ∀ k ∈ L, k ∈ N) : SlN w' N v xs := by
  obtain ⟨A, c, h1, h2, h3⟩ := h
  refine ⟨A, c, h1, fun i x hx => ?_, h3⟩
  obtain ⟨b, off, e, hlt, hc⟩ := h2 i x hx
  exact ⟨b, off, e, Nat.lt_of_lt_of_le hlt hk.size, hk.cell (fun hm => h3 b off e (List.ne_nil_of_mem (List.mem_iff_getElem?.2 ⟨i, hx⟩)) (hL _ hm)) hc⟩
theorem Try.info9 : (Try.prog.info? 9).map (fun i => (i.zero, i.size, i.bytes)) = some (some (.string ⟨#[]⟩), 1, 16) := by kernel_rfl
/-- a row of strings of which the first ones are there -/
def strF (strs : List ByteArray) (i : Nat) : Nat → Value := fun j => .string (if j < i then strs.getD j ⟨#[]⟩ else ⟨#[]⟩)
theorem strF_upd {strs : List ByteArray} {i : Nat} {s : ByteArray} (hs : strs[i]? = some s) (j : Nat) : updF (strF strs i) i (.string s) j = strF strs (i + 1) j := by
  unfold updF strF
  by_cases e : j = i
  · subst e
    rw [if_pos rfl, if_pos (by omega)]
    simp [List.getD, hs]
  · rw [if_neg e]
    by_cases h : j < i
    · rw [if_pos h, if_pos (by omega)]
    · rw [if_neg h, if_neg (by omega)]
theorem strF_all {w : World} {strs : List ByteArray} {G n : Nat} (hn : strs.length = n) (h : w.rowIs G 9 n (strF strs n)) : ElV Value.string w w.heap.size (some ⟨G, 0, none⟩) strs := fun i x hx => by
  have hi : i < n := by have := (List.getElem?_eq_some_iff.1 hx).1; omega
  refine ⟨G, 0, rfl, World.rowIs.lt h, ?_⟩
  rw [Nat.zero_add, World.rowIs.cell h hi]
  simp [strF, hi, List.getD, hx]

theorem list_made {w w2 : World} {NL : List Nat} {X C R : Nat} {f : Nat → Value} {rest : List Int} {bad : Bool} {k n : Nat} {strs : List ByteArray} (hk : Kept [X, C, R] w w2) (h : RS w2 NL X C R f (putStrs strs ++ rest) bad) (hn : strs.length = n) (h0 : 0 < n) :
    ∃ W, W = (w2.alloc (.cells (madeCells #[.string ⟨#[]⟩] n) 9)).setCell ⟨C, k, none⟩ (.slice (some ⟨w2.heap.size, 0, none⟩) n n) ∧ RS W (w2.heap.size :: NL) X C R (updF f k (.slice (some ⟨w2.heap.size, 0, none⟩) n n)) (putStrs strs ++ rest) bad ∧ W.rowIs w2.heap.size 9 n (strF strs 0) ∧ Kept [X, C, R] w W := by
  have hb := below1 w2 (.cells (madeCells #[.string ⟨#[]⟩] n) 9)
  have hG := World.rowIs_made w2 (.string ⟨#[]⟩) n 9
  obtain ⟨l1, l2, l3⟩ := h.lt
  have hr : 0 < (putStrs strs ++ rest).length := by
    cases strs with
    | nil => simp at hn; omega
    | cons a l =>
      have := putV_pos (m := a.size)
      simp only [putStrs, List.length_append]
      omega
  have hS := (h.below hb).more w2 (Nat.le_refl _) h hr hb
  obtain ⟨h1, h2⟩ := hS.store k (.slice (some ⟨w2.heap.size, 0, none⟩) n n)
  exact ⟨_, rfl, h1, World.rowIs.congr (h2.row (by simp; omega) hG) (fun i hi => by simp [strF]), (hk.trans (Kept.of_below hb)).trans (h2.mono (by simp))⟩

set_option maxRecDepth 100000 in
set_option maxHeartbeats 4000000 in
theorem rs_list {w : World} {NL : List Nat} {X C R : Nat} {f : Nat → Value} {rest : List Int} {bad : Bool} (k n least most N : Nat) (strs : List ByteArray) (alw : ByteArray → Bool) (h : RS w NL X C R f (putV n ++ (putStrs strs ++ rest)) bad) (hk : k < 10) (hf : f k = .slice none 0 0) (hn : strs.length = n)
    (eg : ∀ args w, (callFunc N args).run Try.prog w = .ok (.enter N args) w) (hN : ∀ s ∈ strs, ∀ w, Calls Try.prog N #[.string s] w fun e w' => e = .returned (.bool (alw s)) ∧ Below w.heap.size w w') (hs : ∀ s ∈ strs, s.size ≤ 1000) (h1 : least ≤ n) (h2 : n ≤ most) (h3 : most ≤ 100) (hrl : rest.length ≤ 200000) :
    Calls Try.prog 129 #[.pointer (some ⟨X, 0, none⟩), .pointer (some ⟨C, k, none⟩), .int .i64 least, .int .i64 most, .func (.func N) #[] #[]] w fun e w' =>
      e = .returned (.tuple #[]) ∧ ∃ vt, RS w' NL X C R (updF f k vt) rest (bad || !(strs.all alw)) ∧ SlN w' [X, C, R] vt strs ∧ Kept [X, C, R] w w' := by
  obtain ⟨hXl, hCl, hRl⟩ := h.lt
  have ck : w.cell? ⟨C, k, none⟩ = some (.slice none 0 0) := by rw [← hf]; exact World.rowIs.cell h.2.2.2.1 hk
  have hb1 := below1 w (.cells #[.int .u64 0] 42)
  have hT : (w.alloc (.cells #[.int .u64 0] 42)).rowIs w.heap.size 42 1 (listF [.int .u64 0]) := row_list w [.int .u64 0] 42
  have hp := putV_pos (m := n)
  have hsl := putStrs_len hs
  have hNW := rs_number_at (k := 0) n 0 ((h.below hb1).more w (Nat.le_refl _) h (by rw [List.length_append]; omega) hb1) hT (by omega) (by omega) (by omega) List.mem_cons_self (by decide) rfl (by omega) (by rw [List.length_append]; omega)
  have HNW := Lib.hid hNW
  have HB1 := Lib.hid hb1
  have HNL := Lib.hid h.2.2.2.2.2.1
  have HN := Lib.hid hN
  have HS := Lib.hid hs
  have HL := Lib.hid hn
  have HEG := Lib.hid eg
  have HNE := Lib.hid (show X ≠ C ∧ X ≠ R ∧ C ≠ R from ⟨h.1, h.2.1, h.2.2.1⟩)
  have g1 : ¬ n < least := by omega
  have g2 : ¬ most < n := by omega
  have H1 := Lib.hid h1
  have H2 := Lib.hid h2
  have H3 := Lib.hid h3
  have hn100 : n ≤ 100 := Nat.le_trans h2 h3
  have hl100 : least ≤ 100 := Nat.le_trans h1 hn100
  have hm100 : most ≤ 100 := h3
  clear hNW hT hb1 hN hs hn eg h1 h2 h3 h
  go_enter Try.func129, Try.ntmps129
  go_wp2_with fail
  refine HNW.out.mono ?_
  rintro e w2 ⟨rfl, hR2, hT2, hk2⟩
  have hR2 := hR2.less (fun k hk => List.mem_cons_of_mem _ hk) HNL.out
  have t20 : w2.cell? ⟨w.heap.size, 0, none⟩ = some (.int .u64 n) := World.rowIs.cell hT2 (i := 0) (by decide)
  have c21 : w2.cell? ⟨X, 1, none⟩ = some (.pointer (some ⟨R, 0, none⟩)) := World.rowIs.cell hR2.2.2.2.2.1 (i := 1) (by decide)
  have hkw : Kept [X, C, R] w w2 := ((Kept.of_below HB1.out).trans (hk2.mono (by simp))).cut3
  have c2k : w2.cell? ⟨C, k, none⟩ = some (.slice none 0 0) := by rw [← hf]; exact World.rowIs.cell hR2.2.2.2.1 hk
  have f2k : w2.frozen? ⟨C, k, none⟩ = false := World.rowIs.frozen hR2.2.2.2.1 k
  have HR2 := Lib.hid hR2
  have HKW := Lib.hid hkw
  clear hT2 hk2 hR2 hkw
  by_cases hn0 : n = 0
  · subst hn0
    have hse : strs = [] := List.eq_nil_of_length_eq_zero HL.out
    subst hse
    go_wp2_with fail
    clear c2k t20 c21 g1 g2
    go_loopw [49] (fun j wr => j = .int .i64 0 ∧ wr = w2) (fun j _ => 0)
    case atStart => exact ⟨rfl, rfl⟩
    case round =>
      obtain ⟨rfl, rfl⟩ := hrel
      go_wp2_with fail
      go_end0
      refine ⟨rfl, .slice none 0 0, (HR2.out.bad rfl (by simp)).row fun i hi => ?_, SlN.nil _ _, HKW.out⟩
      by_cases e : i = k
      · subst e; simp [updF, hf]
      · simp [updF, e]
  · have g3 : 0 < n := by omega
    have hmk : (Instr.makeSlice 41 (.int .u64 (n : Int)) (.int .u64 (n : Int))).run Try.prog w2 = .ok (.slice (some ⟨w2.heap.size, 0, none⟩) n n) (w2.alloc (.cells (madeCells #[.string ⟨#[]⟩] n) 9)) := run_make_row' 41 9 (.string ⟨#[]⟩) 16 Try.underlying41 Try.info9 rfl .u64 .u64 n (by omega) (by omega) w2
    obtain ⟨W3, hW3, hR3, hG3, hK3⟩ := list_made (k := k) HKW.out HR2.out HL.out (by omega)
    have c3k : W3.cell? ⟨C, k, none⟩ = some (.slice (some ⟨w2.heap.size, 0, none⟩) n n) := by
      have := World.rowIs.cell hR3.2.2.2.1 hk
      simpa [updF] using this
    rw [hW3] at c3k
    have hb2 := below1 w2 (.cells (madeCells #[.string ⟨#[]⟩] n) 9)
    have hRA := HR2.out.below hb2
    have f2a : (w2.alloc (.cells (madeCells #[.string ⟨#[]⟩] n) 9)).frozen? ⟨C, k, none⟩ = false := World.rowIs.frozen hRA.2.2.2.1 k
    have c2a : (w2.alloc (.cells (madeCells #[.string ⟨#[]⟩] n) 9)).cell? ⟨C, k, none⟩ = some (.slice none 0 0) := by rw [← hf]; exact World.rowIs.cell hRA.2.2.2.1 hk
    have HR3 := Lib.hid hR3
    have HG3 := Lib.hid hG3
    have HK3 := Lib.hid hK3
    clear hR3 hG3 hK3 hRA
    go_wp2_with fail
    rw [← hW3]
    clear hW3 c3k f2a c2a c2k t20 c21 g1 g2 g3 f2k hmk
    go_loopw [49] (fun j wr => ∃ i : Nat, i ≤ n ∧ j = .int .i64 i ∧ RS wr (w2.heap.size :: NL) X C R (updF f k (.slice (some ⟨w2.heap.size, 0, none⟩) n n)) (putStrs (strs.drop i) ++ rest) (bad || !((strs.take i).all alw)) ∧ wr.rowIs w2.heap.size 9 n (strF strs i) ∧ Kept [X, C, R] w wr) (fun j _ => n - (intOf j).toNat)
    case atStart => exact ⟨0, Nat.zero_le _, rfl, HR3.out.bad (by simp) (by simp), HG3.out, HK3.out⟩
    case round =>
      obtain ⟨i, hi, rfl, hW, hGi, hK⟩ := hrel
      have ckr : wr.cell? ⟨C, k, none⟩ = some (.slice (some ⟨w2.heap.size, 0, none⟩) n n) := by
        have := World.rowIs.cell hW.2.2.2.1 hk
        simpa [updF] using this
      by_cases hlt : i < n
      · have hg : decide ((i : Int) < (n : Int)) = true := by simp; omega
        obtain ⟨s, hs⟩ : ∃ s, strs[i]? = some s := ⟨strs[i]'(by rw [HL.out]; exact hlt), List.getElem?_eq_getElem _⟩
        have hmem : s ∈ strs := List.mem_iff_getElem?.2 ⟨i, hs⟩
        have htk : strs.take (i + 1) = strs.take i ++ [s] := by rw [List.take_add_one, hs]; rfl
        have hdr : strs.drop i = s :: strs.drop (i + 1) := by
          rw [List.drop_eq_getElem_cons (by rw [HL.out]; exact hlt)]
          congr 1
          exact (List.getElem?_eq_some_iff.1 hs).2
        have hlen : (putStrs (strs.drop (i + 1))).length ≤ 110000 := by
          have h4 := putStrs_len (l := strs.drop (i + 1)) fun s hs => HS.out s (List.mem_of_mem_drop hs)
          have h6 : (strs.drop (i + 1)).length ≤ n := by rw [List.length_drop, HL.out]; omega
          omega
        have hsz := HS.out s hmem
        have hP := rs_part_at (k := i) (n := n) (t := 9) (rest := putStrs (strs.drop (i + 1)) ++ rest) s ⟨#[]⟩ N (hW.bad (by rw [hdr]; simp only [putStrs, List.append_assoc]) rfl) hGi (by have := HR2.out.lt; omega) (by have := HR2.out.lt; omega) (by have := HR2.out.lt; omega) List.mem_cons_self hlt (by simp [strF]) HEG.out (HN.out s hmem) (by omega) (by rw [List.length_append]; omega)
        have HP := Lib.hid hP
        have HTK := Lib.hid htk
        have HK := Lib.hid hK
        have HSI := Lib.hid hs
        clear hP hW hGi hs hmem htk hdr hlen hK
        go_wp2_with fail
        refine HP.out.mono ?_
        rintro e w5 ⟨rfl, hR5, hG5, hk5⟩
        have HR5 := Lib.hid (hR5.bad (bad' := bad || !((strs.take (i + 1)).all alw)) rfl (by rw [HTK.out, List.all_append]; cases bad <;> cases (strs.take i).all alw <;> cases h : alw s <;> simp [h]))
        have HG5 := Lib.hid (World.rowIs.congr hG5 fun j _ => strF_upd HSI.out j)
        have HK5 : Hid (Kept [X, C, R] w w5) := Lib.hid (by
          have h3 := (HK.out.mono (L' := [X, C, R, w2.heap.size]) (by simp)).trans (hk5.mono (by simp))
          have h4 := HKW.out.size
          exact ⟨h3.os, h3.tape, h3.output, h3.size, fun q hq hn => h3.block q hq (by simp at hn ⊢; exact ⟨hn.1, hn.2.1, hn.2.2, by omega⟩)⟩)
        clear hR5 hG5 hk5
        go_wp2_with fail
        go_roundw
        case rel => exact ⟨i + 1, by omega, by go_num, HR5.out, HG5.out, HK5.out⟩
        case measure => simp [intOf]; omega
      · obtain rfl : i = n := by omega
        have hg : decide ((i : Int) < (i : Int)) = false := by simp
        have HW3 := Lib.hid hW
        have HG3 := Lib.hid hGi
        have HK3 := Lib.hid hK
        clear hW hK hGi
        go_wp2_with fail
        go_end0
        have h2s := HR2.out.lt
        refine ⟨rfl, _, (HW3.out.less (fun k hk => List.mem_cons_of_mem _ hk) HNL.out).bad (by rw [List.drop_of_length_le (by rw [HL.out]; exact Nat.le_refl _)]; simp [putStrs]) (by rw [List.take_of_length_le (by rw [HL.out]; exact Nat.le_refl _)]), ⟨_, i, by rw [HL.out], strF_all HL.out HG3.out, fun b off e _ hm => ?_⟩, HK3.out⟩
        cases e
        simp at hm
        omega
end Go.Proofs.Ytnmhmabifeapkaa.Ord
