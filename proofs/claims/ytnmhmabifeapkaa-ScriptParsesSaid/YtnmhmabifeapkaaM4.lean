/- Walks of a script's steps. -/
import Derived.Test.YtnmhmabifeapkaaM2
import Derived.Test.YtnmhmabifeapkaaM3
import Derived.Lib.Bytes
/- Walks of the reader of scripts. -/
namespace Go.Proofs.Ytnmhmabifeapkaa.Ord
open Go.RowKit
set_option linter.unusedVariables false

def rsF (v : Value) : Nat → Value := fun _ => v
/-- the reader at block Q has the bytes xs before it, both below block B -/
def ReadAt (w : World) (B : Nat) (N : List Nat) (Q : Nat) (xs : List Int) : Prop :=
  Q ∈ N ∧ Q < B ∧ (∀ x ∈ xs, 0 ≤ x ∧ x < 256) ∧ xs.length ≤ 1000000 ∧ ∃ A c, w.rowIs Q 81 1 (rsF (.slice A xs.length c)) ∧ Byt w w.heap.size A c xs ∧ ∀ b off, A = some ⟨b, off, none⟩ → b ∉ N ∧ b < B
theorem ReadAt.kept {w w' : World} {B : Nat} {N L : List Nat} {Q : Nat} {xs : List Int} (h : ReadAt w B N Q xs) (hk : Kept L w w') (hL : ∀ k ∈ L, k ∈ N ∨ B ≤ k) (hQ : Q ∉ L) : ReadAt w' B N Q xs := by
  obtain ⟨h1, h2, h3, h4, A, c, h5, h6, h7⟩ := h
  exact ⟨h1, h2, h3, h4, A, c, hk.row hQ h5, hk.byt h6 (fun x off hA hm => by have := h7 x off hA; rcases hL x hm with h | h; exact this.1 h; omega), h7⟩
theorem ReadAt.below {w w' : World} {B B' : Nat} {N : List Nat} {Q : Nat} {xs : List Int} (h : ReadAt w B N Q xs) (hb : Below B' w w') (hB : B ≤ B') : ReadAt w' B N Q xs := by
  obtain ⟨h1, h2, h3, h4, A, c, h5, h6, h7⟩ := h
  refine ⟨h1, h2, h3, h4, A, c, World.rowIs.of_block h5 (hb.block Q (by omega)), ⟨h6.1, h6.2.1, fun i hi => ?_⟩, h7⟩
  obtain ⟨x, off, e1, e2, e3⟩ := h6.2.2 i hi
  refine ⟨x, off, e1, Nat.lt_of_lt_of_le e2 hb.size, fun y hy => ?_⟩
  rw [World.cell?_of_block (w := w) (hb.block x (by have := (h7 x off e1).2; omega))]
  exact e3 y hy

theorem next_end {B : Nat} {N : List Nat} {Q : Nat} {w : World} {v0 : Value} {A' : Option Addr} {L c' : Nat} {ys : List Int} (hQN : Q ∈ N) (hQB : Q < B) (hQ : w.rowIs Q 81 1 (rsF v0)) (hr : ∀ y ∈ ys, 0 ≤ y ∧ y < 256) (hl : ys.length ≤ 1000000) (hL : ys.length = L) (hby : Byt w w.heap.size A' c' ys) (hne : ∀ b off, A' = some ⟨b, off, none⟩ → b ∉ N ∧ b < B) :
    ReadAt (w.setCell ⟨Q, 0, none⟩ (.slice A' L c')) B N Q ys ∧ Kept [Q] w (w.setCell ⟨Q, 0, none⟩ (.slice A' L c')) := by
  have hk : Kept [Q] w (w.setCell ⟨Q, 0, none⟩ (.slice A' L c')) := (Kept.refl _ _).setCell (by simp) _
  subst hL
  refine ⟨⟨hQN, hQB, hr, hl, A', c', World.rowIs.congr (World.rowIs.set hQ 0 _) (fun i hi => ?_), hk.byt hby (fun x off hA hm => (hne x off hA).1 (by simp at hm; rw [hm]; exact hQN)), hne⟩, hk⟩
  match i, hi with
  | 0, _ => rfl

set_option maxRecDepth 100000 in
set_option maxHeartbeats 1000000 in
theorem next_any (B : Nat) (N : List Nat) (Q : Nat) (xs : List Int) (w : World) (h : ReadAt w B N Q xs) :
    Calls Try.prog 57 #[.pointer (some ⟨Q, 0, none⟩)] w fun e w' => e = .returned (.int .i64 (xs.headD 0)) ∧ ReadAt w' B N Q xs.tail ∧ Kept [Q] w w' := by
  have H := Lib.hid h
  obtain ⟨hQN, hQB, hr, hl, A, c, hQ, hA, hAN⟩ := h
  have h0 : w.cell? ⟨Q, 0, none⟩ = some (.slice A xs.length c) := World.rowIs.cell hQ (i := 0) (by decide)
  have hf0 : w.frozen? ⟨Q, 0, none⟩ = false := World.rowIs.frozen hQ 0
  cases xs with
  | nil =>
    simp only [List.length_nil] at h0
    have HQ := Lib.hid hQ
    clear hQ hA
    go_enter Try.func57, Try.ntmps57
    go_wp2_with fail
    go_ret
    exact ⟨rfl, H.out, Kept.refl _ _⟩
  | cons x ys =>
    obtain ⟨b, off, rfl, hb, hc⟩ := hA.at (i := 0) (by simp)
    simp only [Nat.add_zero, List.getD_cons_zero] at hc
    have hx := hr x (by simp)
    have hcl := hA.2.1
    obtain ⟨k, hk⟩ : ∃ k, ys.length = k := ⟨_, rfl⟩
    simp only [List.length_cons, hk] at h0 hcl hl
    have HA := Lib.hid hA
    have HQ := Lib.hid hQ
    have hbN : b ∉ N := (hAN b off rfl).1
    have hbB : b < B := (hAN b off rfl).2
    have hne : ((k + 1 : Nat) : Int) ≠ 0 := by omega
    have hbQ : b ≠ Q := fun e => hbN (by rw [e]; exact hQN)
    have HR := Lib.hid hr
    clear hA hQ hr hAN
    go_enter Try.func57, Try.ntmps57
    go_wp2_with fail
    all_goals
      go_ret
      have h9 : Byt w w.heap.size (some ⟨b, off, none⟩) c ([x] ++ ys ++ []) := by simpa using HA.out
      exact ⟨rfl, next_end hQN hQB HQ.out (fun y hy => HR.out y (by simp [hy])) (by omega) hk (h9.part (m := 1) rfl (by omega) (by simp) (fun h => by first | rfl | exact absurd h (by omega))) (fun b' o hA => by cases hA; exact ⟨hbN, hbB⟩)⟩
end Go.Proofs.Ytnmhmabifeapkaa.Ord
/- Walk of the script reader's data. -/
namespace Go.Proofs.Ytnmhmabifeapkaa.Ord
open Go.RowKit
set_option linter.unusedVariables false

theorem Kept.own {Q : Nat} {a b : World} (h : Kept [Q] a b) {base : Nat} {e : TypeId} {size : Nat} {v : Value} {n : Nat} {xs : List Value} (hown : a.ownsRow base e size v n xs) (hQ : Q < base) : b.ownsRow base e size v n xs := by
  refine World.ownsRow.kept hown (row := some Q) ⟨h.os, h.tape, h.output, h.size, fun k hk hne => h.block k hk fun hm => hne (by simp at hm; rw [hm])⟩ ?_
  cases hv : v.ownBlock with
  | none => exact .inl rfl
  | some k =>
    right
    intro e2
    cases e2
    have := (hown.lt Q hv).1
    omega

theorem Kept.then_below {L : List Nat} {a b c : World} (h : Kept L a b) (hb : Below a.heap.size b c) : Kept L a c :=
  ⟨hb.os.trans h.os, hb.tape.trans h.tape, hb.output.trans h.output, Nat.le_trans h.size hb.size, fun k hk hn => (hb.block k hk).trans (h.block k hk hn)⟩

/-- the first n bytes, missing ones 0 -/
def takeZ (n : Nat) (xs : List Int) : List Int := (List.range n).map fun i => xs.getD i 0
theorem takeZ_succ (n : Nat) (xs : List Int) : takeZ (n + 1) xs = takeZ n xs ++ [xs.getD n 0] := by simp [takeZ, List.range_succ]
theorem takeZ_len (n : Nat) (xs : List Int) : (takeZ n xs).length = n := by simp [takeZ]
def dataL (xs : List Int) : List Int := takeZ (xs.headD 0).toNat xs.tail
theorem drop_head (ys : List Int) (i : Nat) : (ys.drop i).headD 0 = ys.getD i 0 := by
  simp [List.getD, List.headD_eq_head?_getD, List.head?_drop]
theorem drop_tail (ys : List Int) (i : Nat) : (ys.drop i).tail = ys.drop (i + 1) := by simp [List.tail_drop]

set_option maxRecDepth 100000 in
set_option maxHeartbeats 1000000 in
theorem data_any (B : Nat) (N : List Nat) (Q : Nat) (xs : List Int) (w : World) (hB : B ≤ w.heap.size) (h : ReadAt w B N Q xs) :
    Calls Try.prog 58 #[.pointer (some ⟨Q, 0, none⟩)] w fun e w' => ∃ v, e = .returned v ∧ Own8 w' w.heap.size v (dataL xs) ∧ ReadAt w' B N Q (xs.tail.drop (xs.headD 0).toNat) ∧ Kept [Q] w w' := by
  have hr := h.2.2.1
  have hQl : Q < w.heap.size := Nat.lt_of_lt_of_le h.2.1 hB
  have HN := Lib.hid (next_any B N Q xs w h)
  have hx0 : 0 ≤ xs.headD 0 ∧ xs.headD 0 < 256 := by
    cases xs with
    | nil => simp
    | cons x ys => exact hr x (by simp)
  obtain ⟨n, hn⟩ : ∃ n : Nat, xs.headD 0 = (n : Int) := ⟨(xs.headD 0).toNat, by omega⟩
  have hn256 : n < 256 := by omega
  unfold dataL
  rw [hn] at HN ⊢
  simp only [Int.toNat_natCast]
  clear h hr hx0 hn
  generalize xs.tail = ys at *
  go_enter Try.func58, Try.ntmps58
  go_wp2_with fail
  refine HN.out.mono ?_
  rintro e w1 ⟨rfl, hR1, hk1⟩
  have HR1 := Lib.hid hR1
  clear hR1
  go_wp2_with fail
  go_loopw [3, 6] (fun v j wr => ∃ i : Nat, i ≤ n ∧ j = .int .i64 i ∧ Own8 wr w.heap.size v (takeZ i ys) ∧ ReadAt wr B N Q (ys.drop i) ∧ Kept [Q] w wr) (fun _ j _ => n - (intOf j).toNat)
  case atStart => exact ⟨0, Nat.zero_le _, rfl, Own8.nil _ _, by simpa using HR1.out, hk1⟩
  case round =>
    obtain ⟨i, hi, rfl, hown, hR, hk⟩ := hrel
    by_cases hlt : i < n
    · have HX := Lib.hid (next_any B N Q (ys.drop i) wr hR)
      have hyb : 0 ≤ ys.getD i 0 ∧ ys.getD i 0 < 256 := by
        by_cases hil : i < ys.length
        · have := hR.2.2.1 (ys.getD i 0) (by rw [List.mem_iff_getElem?]; exact ⟨0, by simp [List.getD, hil]⟩)
          exact this
        · simp [List.getD, List.getElem?_eq_none (Nat.le_of_not_lt hil)]
      rw [drop_head, drop_tail] at HX
      obtain ⟨y, hy⟩ : ∃ y, ys.getD i 0 = y := ⟨_, rfl⟩
      have HY := Lib.hid hy
      rw [hy] at HX hyb
      clear hy
      go_wp2_with fail
      refine HX.out.mono ?_
      rintro e w2 ⟨rfl, hR2, hk2⟩
      have hown2 := Lib.hid (hk2.own hown.raw hQl)
      have hb2 : w.heap.size ≤ w2.heap.size := Nat.le_trans hk.size hk2.size
      have hl2 := takeZ_len i ys
      go_wp2_with ((with_reducible refine wpList_append_one (o := ⟨some 13, _, _, _, _, _⟩) rfl _ _ 22 rfl w.heap.size 5 (.int .u8 0) 1 Try.underlying22 Try.info5 rfl _ (takeZ i ys).length _ ?_ hown2.out _ w2.heap.size ?_ ?_ ?_ ?_ ?_ hb2 ?_); (· rfl); (· rfl); (· rfl); (· rfl); (· unfold maxLen; omega); (· omega); intro v3 w3 hown3 hb3)
      refine ⟨⟨i + 1, by omega, by simp, ?_, hR2.below hb3 hB, (hk.trans hk2).then_below hb3⟩, by simp [intOf]; omega⟩
      rw [takeZ_succ, HY.out]
      exact Own8.snoc hown3
    · obtain rfl : i = n := by omega
      go_wp2_with fail
      go_ret
      exact ⟨_, rfl, hown, hR, hk⟩
end Go.Proofs.Ytnmhmabifeapkaa.Ord
/- Walk of a short request of a script. -/
namespace Go.Proofs.Ytnmhmabifeapkaa.Ord
open Go.RowKit
set_option linter.unusedVariables false

/-- a short request gives some bytes -/
def ReqOk (y z u : Int) (bs : List Int) : Prop := ∃ (CR : World → Value → Prop) (code : Int) (pay : List Int),
  (∀ w, Calls Try.prog 77 #[.int .i64 y, .int .i64 z, .int .i64 u] w fun e w' => ∃ v, e = .returned v ∧ CR w' v ∧ Below w.heap.size w w') ∧
  (∀ w v, CR w v → Calls Try.prog 76 #[v] w fun e w' => ∃ A k c, e = .returned (.tuple #[.agg #[.int .u8 code, .slice A k c], .int .i64 0]) ∧ pay.length = k ∧ Byt w' w'.heap.size A c pay ∧ Below w.heap.size w w') ∧
  pay.length ≤ 1000 ∧ bs = putV (pay.length + 1) ++ [code] ++ pay
theorem reqok_get (z u : Int) : ReqOk 3 z u [3, 4, 1, 97] := by
  refine ⟨fun _ v => v = .agg (cmdL 4 ⟨#[97]⟩).toArray, 4, [1, 97], fun w => (short_get z u w).mono fun e w' ⟨h1, h2⟩ => ⟨_, h1, rfl, h2⟩, fun w v hv => hv ▸ (write_get ⟨#[97]⟩ (by decide) (by decide) w).mono fun e w' ⟨v, h1, ⟨A, c, h2, h3, _⟩, h4⟩ => ?_, by simp, ?_⟩
  · subst h2
    have e1 : putV (ByteArray.size ⟨#[97]⟩) ++ sBytes ⟨#[97]⟩ = [1, 97] := by
      rw [show ByteArray.size ⟨#[97]⟩ = 1 from rfl, putV_small (by decide)]; rfl
    rw [e1] at h1 h3
    exact ⟨A, 2, c, h1, rfl, h3, h4⟩
  · rw [show ([1, 97] : List Int).length + 1 = 3 from rfl, putV_small (by decide)]; rfl
theorem reqok_flush (z u : Int) : ReqOk 13 z u [1, 14] := by
  refine ⟨fun _ v => v = .agg (cmdL 14 ⟨#[]⟩).toArray, 14, [], fun w => (short_flush z u w).mono fun e w' ⟨h1, h2⟩ => ⟨_, h1, rfl, h2⟩, fun w v hv => hv ▸ (write_flush w).mono fun e w' ⟨h1, h4⟩ => ⟨none, 0, 0, h1, rfl, Byt.nil _ _, h4⟩, by simp, ?_⟩
  rw [show ([] : List Int).length + 1 = 1 from rfl, putV_small (by decide)]; rfl

set_option maxRecDepth 100000 in
set_option maxHeartbeats 2000000 in
theorem request_any (B : Nat) (N : List Nat) (Q : Nat) (xs bs : List Int) (w : World) (hB : B ≤ w.heap.size) (h : ReadAt w B N Q xs) (hq : ReqOk (xs.headD 0) (xs.tail.headD 0) (xs.tail.tail.headD 0) bs) :
    Calls Try.prog 59 #[.pointer (some ⟨Q, 0, none⟩)] w fun e w' => ∃ v, e = .returned v ∧ Own8 w' w.heap.size v bs ∧ ReadAt w' B N Q xs.tail.tail.tail ∧ Kept [Q] w w' := by
  obtain ⟨CR, code, pay, hs, hw, hp, rfl⟩ := hq
  have H1 := Lib.hid (next_any B N Q xs w h)
  obtain ⟨y, hy⟩ : ∃ y, xs.headD 0 = y := ⟨_, rfl⟩
  obtain ⟨z, hz⟩ : ∃ z, xs.tail.headD 0 = z := ⟨_, rfl⟩
  obtain ⟨u, hu⟩ : ∃ u, xs.tail.tail.headD 0 = u := ⟨_, rfl⟩
  rw [hy] at H1
  rw [hy, hz, hu] at hs
  have HZ := Lib.hid hz
  have HU := Lib.hid hu
  have HS := Lib.hid hs
  have HW := Lib.hid hw
  clear hs hw hy hz hu
  obtain ⟨x1, hx1⟩ : ∃ x1, xs.tail = x1 := ⟨_, rfl⟩
  obtain ⟨x2, hx2⟩ : ∃ x2, x1.tail = x2 := ⟨_, rfl⟩
  obtain ⟨x3, hx3⟩ : ∃ x3, x2.tail = x3 := ⟨_, rfl⟩
  rw [hx1] at H1 HZ HU ⊢
  rw [hx2] at HU ⊢
  rw [hx3]
  have HX2 := Lib.hid hx2
  have HX3 := Lib.hid hx3
  clear hx1 hx2 hx3 h
  go_enter Try.func59, Try.ntmps59
  go_wp2_with fail
  refine H1.out.mono ?_
  rintro e w1 ⟨rfl, hR1, hk1⟩
  have H2 := Lib.hid (next_any B N Q x1 w1 hR1)
  rw [HZ.out, HX2.out] at H2
  go_wp2_with fail
  refine H2.out.mono ?_
  rintro e w2 ⟨rfl, hR2, hk2⟩
  have H3 := Lib.hid (next_any B N Q x2 w2 hR2)
  rw [HU.out, HX3.out] at H3
  go_wp2_with fail
  refine H3.out.mono ?_
  rintro e w3 ⟨rfl, hR3, hk3⟩
  clear hR1 hR2
  have hk03 := (hk1.trans hk2).trans hk3
  clear hk1 hk2 hk3
  go_wp2_with fail
  refine (HS.out w3).mono ?_
  rintro e w4 ⟨cmd, rfl, hcr, hb4⟩
  have hb34 := hb4
  have HCR := Lib.hid hcr
  clear hcr
  go_wp2_with fail
  refine (HW.out w4 cmd HCR.out).mono ?_
  rintro e w5 ⟨A, k, c, rfl, hk, hby5, hb5⟩
  have hb35 : Below w3.heap.size w3 w5 := hb34.trans (hb5.mono hb34.size)
  go_wp2_with fail
  have hb5a := below1 w5 (.cells #[.int .u8 code, .slice A k c] 111)
  refine (frame_any code A k c pay _ hk (by omega) ((hby5.below hb5a (Nat.le_refl _)).mono (by simp))).mono ?_
  rintro e w6 ⟨v6, rfl, hown6, hb6⟩
  have hb36 : Below w3.heap.size w3 w6 := (hb35.trans (hb5a.mono hb35.size)).trans (hb6.mono (by have := hb35.size; simp; omega))
  have hw3 := hk03.size
  go_wp2_with fail
  go_ret
  refine ⟨v6, rfl, ?_, hR3.below hb36 (by omega), hk03.then_below (hb36.mono hw3)⟩
  subst hk
  exact owns_mono hown6.raw (by have := hb35.size; simp; omega)
end Go.Proofs.Ytnmhmabifeapkaa.Ord
/- Walk of a script's step. -/
namespace Go.Proofs.Ytnmhmabifeapkaa.Ord
open Go.RowKit
set_option linter.unusedVariables false

/-- what a step is: kind, connection, number, bytes -/
structure StepR where
  k : Int
  c : Int
  n : Int
  d : List Int
def stepL (k c n : Int) (v : Value) : List Value := [.int .i64 k, .int .i64 c, .int .i64 n, v]
def StepPost (B : Nat) (N : List Nat) (Q : Nat) (r : StepR) (rest : List Int) (w : World) (e : Ending) (w' : World) : Prop :=
  ∃ v, e = .returned (.agg (stepL r.k r.c r.n v).toArray) ∧ Own8 w' w.heap.size v r.d ∧ ReadAt w' B N Q rest ∧ Kept [Q] w w'
theorem own_ne_row {w : World} {base : Nat} {e t : TypeId} {size n m Q : Nat} {f : Nat → Value} {v : Value} {xs : List Value} (h : w.ownsRow base e size v n xs) (hr : w.rowIs Q t m f) (ht : t ≠ e) : v.ownBlock ≠ some Q := by
  intro he
  rcases h.2 with ⟨h1, _⟩ | ⟨g, cap, cur, h1, _, hh, _⟩
  · subst h1; cases he
  · subst h1
    cases he
    obtain ⟨cs, h2, _⟩ := hr
    rw [hh] at h2
    cases h2
    exact ht rfl
theorem own_ne_own {w : World} {base base' : Nat} {e e' : TypeId} {size size' n n' : Nat} {v v' : Value} {xs xs' : List Value} (h : w.ownsRow base e size v n xs) (h' : w.ownsRow base' e' size' v' n' xs') (ht : e ≠ e') : v.ownBlock = none ∨ v.ownBlock ≠ v'.ownBlock := by
  rcases h.2 with ⟨h1, _⟩ | ⟨g, cap, cur, h1, _, hh, _⟩
  · subst h1; exact .inl rfl
  · right
    subst h1
    intro he
    rcases h'.2 with ⟨h1', _⟩ | ⟨g', cap', cur', h1', _, hh', _⟩
    · subst h1'; cases he
    · subst h1'
      cases he
      rw [hh] at hh'
      cases hh'
      exact ht rfl
theorem Kept.own2 {L : List Nat} {a b : World} (h : Kept L a b) {base : Nat} {e : TypeId} {size : Nat} {v : Value} {n : Nat} {xs : List Value} (hown : a.ownsRow base e size v n xs) (hL : ∀ k ∈ L, v.ownBlock ≠ some k) : b.ownsRow base e size v n xs := by
  refine ⟨hown.1, ?_⟩
  rcases hown.2 with hn | ⟨g, cap, cur, rfl, hb, hgg, rest⟩
  · exact .inl hn
  · refine .inr ⟨g, cap, cur, rfl, hb, ?_, rest⟩
    rw [h.block g (Array.getElem?_eq_some_iff.1 hgg).1 (fun hm => hL g hm rfl)]
    exact hgg
theorem stepL_size (k c n : Int) (v : Value) : (Try.prog.info? 35).map (·.size) = some (stepL k c n v).length := by
  have h : (Try.prog.info? 35).map (·.size) = some 4 := by kernel_rfl
  exact h
theorem stepL_one (k c n : Int) (A : Option Addr) (l cap : Nat) : (stepL k c n (.slice A l cap)).toArray.all (·.oneCell') = true := all_oneCell_toArray fun v hv => by
  simp only [stepL, List.mem_cons, List.not_mem_nil, or_false] at hv
  rcases hv with rfl | rfl | rfl | rfl <;> rfl
/-- the result's cells, stored -/
theorem step_fin {B : Nat} {N : List Nat} {Q : Nat} {w w2 : World} {rest : List Int} (hB : B ≤ w.heap.size) (k c n : Int) (v : Value) (d : List Int)
    (hk : Kept [Q] (w.alloc (.cells (stepL 0 0 0 (.slice none 0 0)).toArray 35)) w2) (hQ : Q < w.heap.size) (hR : ReadAt w2 B N Q rest) (hv : Own8 w2 (w.heap.size + 1) v d) :
    ∃ w3, w3 = w2.setCells w.heap.size 0 (stepL k c n v) ∧ (loadVar 35 ⟨w.heap.size, 0, none⟩).run Try.prog w3 = .ok (.agg (stepL k c n v).toArray) w3 ∧ Own8 w3 w.heap.size v d ∧ ReadAt w3 B N Q rest ∧ Kept [Q] w w3 := by
  have hrow : w2.rowIs w.heap.size 35 4 (listF (stepL 0 0 0 (.slice none 0 0))) := hk.row (by simp; omega) (row_list w (stepL 0 0 0 (.slice none 0 0)) 35)
  have hst := store_all hrow (stepL k c n v) rfl
  have hcs := row_cells hst (stepL k c n v) rfl fun i hi => rfl
  have hk3 : Kept [w.heap.size] w2 (w2.setCells w.heap.size 0 (stepL k c n v)) := kept_setCells (by simp) _ _ _ (Kept.refl _ _)
  refine ⟨_, rfl, run_loadVar_at _ _ _ _ _ hcs Try.underlying35 rfl (stepL_size k c n v), ?_, hR.kept hk3 (by simp; omega) (by simp; omega), ?_⟩
  · exact owns_mono (hk3.own2 hv (fun k hk he => by have := (hv.lt k he).1; simp at hk; omega)) (Nat.le_succ _)
  · have hkw : Kept [Q] w w2 := (Kept.of_below (below1 w _)).trans hk
    have h5 : Kept [Q, w.heap.size] w (w2.setCells w.heap.size 0 (stepL k c n v)) := (hkw.mono (by simp)).trans (hk3.mono (by simp))
    exact ⟨h5.os, h5.tape, h5.output, h5.size, fun k hk hn => h5.block k hk (by simp at hn ⊢; omega)⟩

theorem results_cell1 {P : Program} {fn : Func} {p : Tmp} {ty : TypeId} (h : fn.results = #[.cell p ty]) (tmps : Array Value) (w : World) (ad : Addr) (v : Value)
    (hp : tmps.getD p undef = .pointer (some ad)) (hl : (loadVar ty ad).run P w = .ok v w) : (results fn tmps).run P w = .ok v w := by
  have hp' : tmps[p]?.getD undef = .pointer (some ad) := by simpa using hp
  simp [results, h, hp', asAddr, hl]
set_option maxRecDepth 100000 in
set_option maxHeartbeats 2000000 in
theorem step_micro0 (B : Nat) (N : List Nat) (Q : Nat) (xs : List Int) (w : World) (hB : B ≤ w.heap.size) (h : ReadAt w B N Q xs) (h4 : xs.headD 0 % 16 = 0) :
    Calls Try.prog 38 #[.pointer (some ⟨Q, 0, none⟩)] w fun e w' => StepPost B N Q ⟨3, xs.headD 0 / 16, 0, []⟩ xs.tail w e w' := by
  have hba := below1 w (.cells (stepL 0 0 0 (.slice none 0 0)).toArray 35)
  have hQB := h.2.1
  have H1 := Lib.hid (next_any B N Q xs _ (h.below hba hB))
  have hx0 : 0 ≤ xs.headD 0 ∧ xs.headD 0 < 256 := by
    cases xs with
    | nil => simp
    | cons x ys => exact h.2.2.1 x (by simp)
  obtain ⟨x, hx⟩ : ∃ x, xs.headD 0 = x := ⟨_, rfl⟩
  obtain ⟨x1, hx1⟩ : ∃ x1, xs.tail = x1 := ⟨_, rfl⟩
  rw [hx, hx1] at H1
  rw [hx] at h4 hx0
  rw [hx, hx1]
  clear hx hx1 h
  go_enter Try.func38, Try.ntmps38
  go_wp2_with fail
  refine H1.out.mono ?_
  rintro e w1 ⟨rfl, hR1, hk1⟩
  have HT := Lib.hid (row_there (hk1.row (by simp; omega) (row_list w (stepL 0 0 0 (.slice none 0 0)) 35)))
  go_wp2_with ((with_reducible refine wpList_store_at2 (op := ⟨none, _, _, _, _, _⟩) rfl 35 _ _ rfl w.heap.size 0 (stepL 3 (x / 16) 0 (.slice none 0 0)).toArray ?_ ?_ ?_ (stepL_size _ _ _ _) ?_ ?_); (· rfl); (· rfl); (· exact HT.out); (· exact stepL_one _ _ _ _ _ _); intro w3 hw3)
  obtain ⟨w4, hw4, hl, hs, hr, hkk⟩ := step_fin hB 3 (x / 16) 0 (.slice none 0 0) [] hk1 (by omega) hR1 (Own8.nil _ _)
  rw [← hw4]
  exact bodyPost_ret (results_cell1 rfl _ _ ⟨w.heap.size, 0, none⟩ _ rfl hl) rfl ⟨_, rfl, hs, hr, hkk⟩
set_option maxRecDepth 100000 in
set_option maxHeartbeats 2000000 in
theorem step_micro1 (B : Nat) (N : List Nat) (Q : Nat) (xs : List Int) (w : World) (hB : B ≤ w.heap.size) (h : ReadAt w B N Q xs) (h4 : xs.headD 0 % 16 = 1) :
    Calls Try.prog 38 #[.pointer (some ⟨Q, 0, none⟩)] w fun e w' => StepPost B N Q ⟨3, xs.headD 0 / 16, 0, []⟩ xs.tail w e w' := by
  have hba := below1 w (.cells (stepL 0 0 0 (.slice none 0 0)).toArray 35)
  have hQB := h.2.1
  have H1 := Lib.hid (next_any B N Q xs _ (h.below hba hB))
  have hx0 : 0 ≤ xs.headD 0 ∧ xs.headD 0 < 256 := by
    cases xs with
    | nil => simp
    | cons x ys => exact h.2.2.1 x (by simp)
  obtain ⟨x, hx⟩ : ∃ x, xs.headD 0 = x := ⟨_, rfl⟩
  obtain ⟨x1, hx1⟩ : ∃ x1, xs.tail = x1 := ⟨_, rfl⟩
  rw [hx, hx1] at H1
  rw [hx] at h4 hx0
  rw [hx, hx1]
  clear hx hx1 h
  go_enter Try.func38, Try.ntmps38
  go_wp2_with fail
  refine H1.out.mono ?_
  rintro e w1 ⟨rfl, hR1, hk1⟩
  have HT := Lib.hid (row_there (hk1.row (by simp; omega) (row_list w (stepL 0 0 0 (.slice none 0 0)) 35)))
  go_wp2_with ((with_reducible refine wpList_store_at2 (op := ⟨none, _, _, _, _, _⟩) rfl 35 _ _ rfl w.heap.size 0 (stepL 3 (x / 16) 0 (.slice none 0 0)).toArray ?_ ?_ ?_ (stepL_size _ _ _ _) ?_ ?_); (· rfl); (· rfl); (· exact HT.out); (· exact stepL_one _ _ _ _ _ _); intro w3 hw3)
  obtain ⟨w4, hw4, hl, hs, hr, hkk⟩ := step_fin hB 3 (x / 16) 0 (.slice none 0 0) [] hk1 (by omega) hR1 (Own8.nil _ _)
  rw [← hw4]
  exact bodyPost_ret (results_cell1 rfl _ _ ⟨w.heap.size, 0, none⟩ _ rfl hl) rfl ⟨_, rfl, hs, hr, hkk⟩
set_option maxRecDepth 100000 in
set_option maxHeartbeats 2000000 in
theorem step_connect (B : Nat) (N : List Nat) (Q : Nat) (xs : List Int) (w : World) (hB : B ≤ w.heap.size) (h : ReadAt w B N Q xs) (h4 : xs.headD 0 % 16 = 2) :
    Calls Try.prog 38 #[.pointer (some ⟨Q, 0, none⟩)] w fun e w' => StepPost B N Q ⟨1, 0, 0, []⟩ xs.tail w e w' := by
  have hba := below1 w (.cells (stepL 0 0 0 (.slice none 0 0)).toArray 35)
  have hQB := h.2.1
  have H1 := Lib.hid (next_any B N Q xs _ (h.below hba hB))
  have hx0 : 0 ≤ xs.headD 0 ∧ xs.headD 0 < 256 := by
    cases xs with
    | nil => simp
    | cons x ys => exact h.2.2.1 x (by simp)
  obtain ⟨x, hx⟩ : ∃ x, xs.headD 0 = x := ⟨_, rfl⟩
  obtain ⟨x1, hx1⟩ : ∃ x1, xs.tail = x1 := ⟨_, rfl⟩
  rw [hx, hx1] at H1
  rw [hx] at h4 hx0
  rw [hx1]
  clear hx hx1 h
  go_enter Try.func38, Try.ntmps38
  go_wp2_with fail
  refine H1.out.mono ?_
  rintro e w1 ⟨rfl, hR1, hk1⟩
  have HT := Lib.hid (row_there (hk1.row (by simp; omega) (row_list w (stepL 0 0 0 (.slice none 0 0)) 35)))
  go_wp2_with ((with_reducible refine wpList_store_at2 (op := ⟨none, _, _, _, _, _⟩) rfl 35 _ _ rfl w.heap.size 0 (stepL 1 0 0 (.slice none 0 0)).toArray ?_ ?_ ?_ (stepL_size _ _ _ _) ?_ ?_); (· rfl); (· rfl); (· exact HT.out); (· exact stepL_one _ _ _ _ _ _); intro w3 hw3)
  obtain ⟨w4, hw4, hl, hs, hr, hkk⟩ := step_fin hB 1 0 0 (.slice none 0 0) [] hk1 (by omega) hR1 (Own8.nil _ _)
  rw [← hw4]
  exact bodyPost_ret (results_cell1 rfl _ _ ⟨w.heap.size, 0, none⟩ _ rfl hl) rfl ⟨_, rfl, hs, hr, hkk⟩
set_option maxRecDepth 100000 in
set_option maxHeartbeats 2000000 in
theorem step_tick (B : Nat) (N : List Nat) (Q : Nat) (xs : List Int) (w : World) (hB : B ≤ w.heap.size) (h : ReadAt w B N Q xs) (h4 : xs.headD 0 % 16 = 4) :
    Calls Try.prog 38 #[.pointer (some ⟨Q, 0, none⟩)] w fun e w' => StepPost B N Q ⟨4, 0, xs.tail.headD 0, []⟩ xs.tail.tail w e w' := by
  have hba := below1 w (.cells (stepL 0 0 0 (.slice none 0 0)).toArray 35)
  have hQB := h.2.1
  have H1 := Lib.hid (next_any B N Q xs _ (h.below hba hB))
  have hx0 : 0 ≤ xs.headD 0 ∧ xs.headD 0 < 256 := by
    cases xs with
    | nil => simp
    | cons x ys => exact h.2.2.1 x (by simp)
  obtain ⟨x, hx⟩ : ∃ x, xs.headD 0 = x := ⟨_, rfl⟩
  obtain ⟨x1, hx1⟩ : ∃ x1, xs.tail = x1 := ⟨_, rfl⟩
  rw [hx, hx1] at H1
  rw [hx] at h4 hx0
  rw [hx1]
  clear hx hx1 h
  obtain ⟨n, hn⟩ : ∃ n, x1.headD 0 = n := ⟨_, rfl⟩
  rw [hn]
  have HN := Lib.hid hn
  clear hn
  go_enter Try.func38, Try.ntmps38
  go_wp2_with fail
  refine H1.out.mono ?_
  rintro e w1 ⟨rfl, hR1, hk1⟩
  have H2 := Lib.hid (next_any B N Q x1 _ hR1)
  rw [HN.out] at H2
  go_wp2_with fail
  refine H2.out.mono ?_
  rintro e w2 ⟨rfl, hR2, hk2⟩
  have hk12 := hk1.trans hk2
  have HT := Lib.hid (row_there (hk12.row (by simp; omega) (row_list w (stepL 0 0 0 (.slice none 0 0)) 35)))
  go_wp2_with ((with_reducible refine wpList_store_at2 (op := ⟨none, _, _, _, _, _⟩) rfl 35 _ _ rfl w.heap.size 0 (stepL 4 0 n (.slice none 0 0)).toArray ?_ ?_ ?_ (stepL_size _ _ _ _) ?_ ?_); (· rfl); (· rfl); (· exact HT.out); (· exact stepL_one _ _ _ _ _ _); intro w3 hw3)
  obtain ⟨w4, hw4, hl, hs, hr, hkk⟩ := step_fin hB 4 0 n (.slice none 0 0) [] hk12 (by omega) hR2 (Own8.nil _ _)
  rw [← hw4]
  exact bodyPost_ret (results_cell1 rfl _ _ ⟨w.heap.size, 0, none⟩ _ rfl hl) rfl ⟨_, rfl, hs, hr, hkk⟩
set_option maxRecDepth 100000 in
set_option maxHeartbeats 2000000 in
theorem step_sweep (B : Nat) (N : List Nat) (Q : Nat) (xs : List Int) (w : World) (hB : B ≤ w.heap.size) (h : ReadAt w B N Q xs) (h4 : xs.headD 0 % 16 = 5) :
    Calls Try.prog 38 #[.pointer (some ⟨Q, 0, none⟩)] w fun e w' => StepPost B N Q ⟨5, 0, xs.tail.headD 0, []⟩ xs.tail.tail w e w' := by
  have hba := below1 w (.cells (stepL 0 0 0 (.slice none 0 0)).toArray 35)
  have hQB := h.2.1
  have H1 := Lib.hid (next_any B N Q xs _ (h.below hba hB))
  have hx0 : 0 ≤ xs.headD 0 ∧ xs.headD 0 < 256 := by
    cases xs with
    | nil => simp
    | cons x ys => exact h.2.2.1 x (by simp)
  obtain ⟨x, hx⟩ : ∃ x, xs.headD 0 = x := ⟨_, rfl⟩
  obtain ⟨x1, hx1⟩ : ∃ x1, xs.tail = x1 := ⟨_, rfl⟩
  rw [hx, hx1] at H1
  rw [hx] at h4 hx0
  rw [hx1]
  clear hx hx1 h
  obtain ⟨n, hn⟩ : ∃ n, x1.headD 0 = n := ⟨_, rfl⟩
  rw [hn]
  have HN := Lib.hid hn
  clear hn
  go_enter Try.func38, Try.ntmps38
  go_wp2_with fail
  refine H1.out.mono ?_
  rintro e w1 ⟨rfl, hR1, hk1⟩
  have H2 := Lib.hid (next_any B N Q x1 _ hR1)
  rw [HN.out] at H2
  go_wp2_with fail
  refine H2.out.mono ?_
  rintro e w2 ⟨rfl, hR2, hk2⟩
  have hk12 := hk1.trans hk2
  have HT := Lib.hid (row_there (hk12.row (by simp; omega) (row_list w (stepL 0 0 0 (.slice none 0 0)) 35)))
  go_wp2_with ((with_reducible refine wpList_store_at2 (op := ⟨none, _, _, _, _, _⟩) rfl 35 _ _ rfl w.heap.size 0 (stepL 5 0 n (.slice none 0 0)).toArray ?_ ?_ ?_ (stepL_size _ _ _ _) ?_ ?_); (· rfl); (· rfl); (· exact HT.out); (· exact stepL_one _ _ _ _ _ _); intro w3 hw3)
  obtain ⟨w4, hw4, hl, hs, hr, hkk⟩ := step_fin hB 5 0 n (.slice none 0 0) [] hk12 (by omega) hR2 (Own8.nil _ _)
  rw [← hw4]
  exact bodyPost_ret (results_cell1 rfl _ _ ⟨w.heap.size, 0, none⟩ _ rfl hl) rfl ⟨_, rfl, hs, hr, hkk⟩
set_option maxRecDepth 100000 in
set_option maxHeartbeats 2000000 in
theorem step_drain (B : Nat) (N : List Nat) (Q : Nat) (xs : List Int) (w : World) (hB : B ≤ w.heap.size) (h : ReadAt w B N Q xs) (h4 : xs.headD 0 % 16 = 6) :
    Calls Try.prog 38 #[.pointer (some ⟨Q, 0, none⟩)] w fun e w' => StepPost B N Q ⟨6, xs.headD 0 / 16, xs.tail.headD 0, []⟩ xs.tail.tail w e w' := by
  have hba := below1 w (.cells (stepL 0 0 0 (.slice none 0 0)).toArray 35)
  have hQB := h.2.1
  have H1 := Lib.hid (next_any B N Q xs _ (h.below hba hB))
  have hx0 : 0 ≤ xs.headD 0 ∧ xs.headD 0 < 256 := by
    cases xs with
    | nil => simp
    | cons x ys => exact h.2.2.1 x (by simp)
  obtain ⟨x, hx⟩ : ∃ x, xs.headD 0 = x := ⟨_, rfl⟩
  obtain ⟨x1, hx1⟩ : ∃ x1, xs.tail = x1 := ⟨_, rfl⟩
  rw [hx, hx1] at H1
  rw [hx] at h4 hx0
  rw [hx, hx1]
  clear hx hx1 h
  obtain ⟨n, hn⟩ : ∃ n, x1.headD 0 = n := ⟨_, rfl⟩
  rw [hn]
  have HN := Lib.hid hn
  clear hn
  go_enter Try.func38, Try.ntmps38
  go_wp2_with fail
  refine H1.out.mono ?_
  rintro e w1 ⟨rfl, hR1, hk1⟩
  have H2 := Lib.hid (next_any B N Q x1 _ hR1)
  rw [HN.out] at H2
  go_wp2_with fail
  refine H2.out.mono ?_
  rintro e w2 ⟨rfl, hR2, hk2⟩
  have hk12 := hk1.trans hk2
  have HT := Lib.hid (row_there (hk12.row (by simp; omega) (row_list w (stepL 0 0 0 (.slice none 0 0)) 35)))
  go_wp2_with ((with_reducible refine wpList_store_at2 (op := ⟨none, _, _, _, _, _⟩) rfl 35 _ _ rfl w.heap.size 0 (stepL 6 (x / 16) n (.slice none 0 0)).toArray ?_ ?_ ?_ (stepL_size _ _ _ _) ?_ ?_); (· rfl); (· rfl); (· exact HT.out); (· exact stepL_one _ _ _ _ _ _); intro w3 hw3)
  obtain ⟨w4, hw4, hl, hs, hr, hkk⟩ := step_fin hB 6 (x / 16) n (.slice none 0 0) [] hk12 (by omega) hR2 (Own8.nil _ _)
  rw [← hw4]
  exact bodyPost_ret (results_cell1 rfl _ _ ⟨w.heap.size, 0, none⟩ _ rfl hl) rfl ⟨_, rfl, hs, hr, hkk⟩
set_option maxRecDepth 100000 in
set_option maxHeartbeats 2000000 in
theorem step_gone (B : Nat) (N : List Nat) (Q : Nat) (xs : List Int) (w : World) (hB : B ≤ w.heap.size) (h : ReadAt w B N Q xs) (h4 : xs.headD 0 % 16 = 7) :
    Calls Try.prog 38 #[.pointer (some ⟨Q, 0, none⟩)] w fun e w' => StepPost B N Q ⟨7, xs.headD 0 / 16, 0, []⟩ xs.tail w e w' := by
  have hba := below1 w (.cells (stepL 0 0 0 (.slice none 0 0)).toArray 35)
  have hQB := h.2.1
  have H1 := Lib.hid (next_any B N Q xs _ (h.below hba hB))
  have hx0 : 0 ≤ xs.headD 0 ∧ xs.headD 0 < 256 := by
    cases xs with
    | nil => simp
    | cons x ys => exact h.2.2.1 x (by simp)
  obtain ⟨x, hx⟩ : ∃ x, xs.headD 0 = x := ⟨_, rfl⟩
  obtain ⟨x1, hx1⟩ : ∃ x1, xs.tail = x1 := ⟨_, rfl⟩
  rw [hx, hx1] at H1
  rw [hx] at h4 hx0
  rw [hx, hx1]
  clear hx hx1 h
  go_enter Try.func38, Try.ntmps38
  go_wp2_with fail
  refine H1.out.mono ?_
  rintro e w1 ⟨rfl, hR1, hk1⟩
  have HT := Lib.hid (row_there (hk1.row (by simp; omega) (row_list w (stepL 0 0 0 (.slice none 0 0)) 35)))
  go_wp2_with ((with_reducible refine wpList_store_at2 (op := ⟨none, _, _, _, _, _⟩) rfl 35 _ _ rfl w.heap.size 0 (stepL 7 (x / 16) 0 (.slice none 0 0)).toArray ?_ ?_ ?_ (stepL_size _ _ _ _) ?_ ?_); (· rfl); (· rfl); (· exact HT.out); (· exact stepL_one _ _ _ _ _ _); intro w3 hw3)
  obtain ⟨w4, hw4, hl, hs, hr, hkk⟩ := step_fin hB 7 (x / 16) 0 (.slice none 0 0) [] hk1 (by omega) hR1 (Own8.nil _ _)
  rw [← hw4]
  exact bodyPost_ret (results_cell1 rfl _ _ ⟨w.heap.size, 0, none⟩ _ rfl hl) rfl ⟨_, rfl, hs, hr, hkk⟩
end Go.Proofs.Ytnmhmabifeapkaa.Ord
/- Walk of a script's step with data. -/
namespace Go.Proofs.Ytnmhmabifeapkaa.Ord
open Go.RowKit
set_option linter.unusedVariables false

set_option maxRecDepth 100000 in
set_option maxHeartbeats 2000000 in
theorem step_data (B : Nat) (N : List Nat) (Q : Nat) (xs : List Int) (w : World) (hB : B ≤ w.heap.size) (h : ReadAt w B N Q xs) (h4 : xs.headD 0 % 16 = 3) :
    Calls Try.prog 38 #[.pointer (some ⟨Q, 0, none⟩)] w fun e w' => StepPost B N Q ⟨2, xs.headD 0 / 16, 0, dataL xs.tail⟩ (xs.tail.tail.drop (xs.tail.headD 0).toNat) w e w' := by
  have hba := below1 w (.cells (stepL 0 0 0 (.slice none 0 0)).toArray 35)
  have hQB := h.2.1
  have H1 := Lib.hid (next_any B N Q xs _ (h.below hba hB))
  have hx0 : 0 ≤ xs.headD 0 ∧ xs.headD 0 < 256 := by
    cases xs with
    | nil => simp
    | cons x ys => exact h.2.2.1 x (by simp)
  obtain ⟨x, hx⟩ : ∃ x, xs.headD 0 = x := ⟨_, rfl⟩
  obtain ⟨x1, hx1⟩ : ∃ x1, xs.tail = x1 := ⟨_, rfl⟩
  rw [hx, hx1] at H1
  rw [hx] at h4 hx0
  rw [hx, hx1]
  clear hx hx1 h
  obtain ⟨d, hd⟩ : ∃ d, dataL x1 = d := ⟨_, rfl⟩
  obtain ⟨r, hr⟩ : ∃ r, x1.tail.drop (x1.headD 0).toNat = r := ⟨_, rfl⟩
  rw [hd, hr]
  have HR := Lib.hid hr
  have HD := Lib.hid hd
  clear hr hd
  go_enter Try.func38, Try.ntmps38
  go_wp2_with fail
  refine H1.out.mono ?_
  rintro e w1 ⟨rfl, hR1, hk1⟩
  have hw1 : w.heap.size + 1 ≤ w1.heap.size := by
    have hs1 := hk1.size
    simpa using hs1
  have H2 := Lib.hid (data_any B N Q x1 w1 (by omega) hR1)
  rw [HR.out, HD.out] at H2
  go_wp2_with fail
  refine H2.out.mono ?_
  rintro e w2 ⟨v, rfl, hv, hR2, hk2⟩
  have hk12 := hk1.trans hk2
  obtain ⟨A, c, rfl, hby, hlo⟩ := SlB.of_own hv
  have hS2 : Own8 w2 (w.heap.size + 1) _ _ := owns_mono hv.raw hw1
  obtain ⟨L, hL⟩ : ∃ L, (d).length = L := ⟨_, rfl⟩
  rw [hL] at hS2
  clear hv
  have HS2 := Lib.hid hS2
  clear hS2 hby hlo
  have HT := Lib.hid (row_there (hk12.row (by simp; omega) (row_list w (stepL 0 0 0 (.slice none 0 0)) 35)))
  go_wp2_with ((with_reducible refine wpList_store_at2 (op := ⟨none, _, _, _, _, _⟩) rfl 35 _ _ rfl w.heap.size 0 (stepL 2 (x / 16) 0 (.slice A L c)).toArray ?_ ?_ ?_ (stepL_size _ _ _ _) ?_ ?_); (· rfl); (· rfl); (· exact HT.out); (· exact stepL_one _ _ _ _ _ _); intro w3 hw3)
  obtain ⟨w4, hw4, hl, hs, hr, hkk⟩ := step_fin hB 2 (x / 16) 0 (.slice A L c) d hk12 (by omega) hR2 HS2.out
  rw [← hw4]
  exact bodyPost_ret (results_cell1 rfl _ _ ⟨w.heap.size, 0, none⟩ _ rfl hl) rfl ⟨_, rfl, hs, hr, hkk⟩
set_option maxRecDepth 100000 in
set_option maxHeartbeats 2000000 in
theorem step_req (B : Nat) (N : List Nat) (Q : Nat) (xs bs : List Int) (w : World) (hB : B ≤ w.heap.size) (h : ReadAt w B N Q xs) (h4 : 8 ≤ xs.headD 0 % 16) (hq : ReqOk (xs.tail.headD 0) (xs.tail.tail.headD 0) (xs.tail.tail.tail.headD 0) bs) :
    Calls Try.prog 38 #[.pointer (some ⟨Q, 0, none⟩)] w fun e w' => StepPost B N Q ⟨2, xs.headD 0 / 16, 0, bs⟩ xs.tail.tail.tail.tail w e w' := by
  have hba := below1 w (.cells (stepL 0 0 0 (.slice none 0 0)).toArray 35)
  have hQB := h.2.1
  have H1 := Lib.hid (next_any B N Q xs _ (h.below hba hB))
  have hx0 : 0 ≤ xs.headD 0 ∧ xs.headD 0 < 256 := by
    cases xs with
    | nil => simp
    | cons x ys => exact h.2.2.1 x (by simp)
  obtain ⟨x, hx⟩ : ∃ x, xs.headD 0 = x := ⟨_, rfl⟩
  obtain ⟨x1, hx1⟩ : ∃ x1, xs.tail = x1 := ⟨_, rfl⟩
  rw [hx, hx1] at H1
  rw [hx] at h4 hx0
  rw [hx, hx1]
  rw [hx1] at hq
  clear hx hx1 h
  have hlt : x % 16 < 16 := by omega
  have g0 : (x % 16 == 0) = false := by simp; omega
  have g1 : (x % 16 == 1) = false := by simp; omega
  have g2 : (x % 16 == 2) = false := by simp; omega
  have g3 : (x % 16 == 3) = false := by simp; omega
  have g4 : (x % 16 == 4) = false := by simp; omega
  have g5 : (x % 16 == 5) = false := by simp; omega
  have g6 : (x % 16 == 6) = false := by simp; omega
  have g7 : (x % 16 == 7) = false := by simp; omega
  have HQ := Lib.hid hq
  clear hq
  go_enter Try.func38, Try.ntmps38
  go_wp2_with fail
  refine H1.out.mono ?_
  rintro e w1 ⟨rfl, hR1, hk1⟩
  have hw1 : w.heap.size + 1 ≤ w1.heap.size := by
    have hs1 := hk1.size
    simpa using hs1
  have H2 := Lib.hid (request_any B N Q x1 bs w1 (by omega) hR1 HQ.out)
  go_wp2_with fail
  refine H2.out.mono ?_
  rintro e w2 ⟨v, rfl, hv, hR2, hk2⟩
  have hk12 := hk1.trans hk2
  obtain ⟨A, c, rfl, hby, hlo⟩ := SlB.of_own hv
  have hS2 : Own8 w2 (w.heap.size + 1) _ _ := owns_mono hv.raw hw1
  obtain ⟨L, hL⟩ : ∃ L, (bs).length = L := ⟨_, rfl⟩
  rw [hL] at hS2
  clear hv
  have HS2 := Lib.hid hS2
  clear hS2 hby hlo
  have HT := Lib.hid (row_there (hk12.row (by simp; omega) (row_list w (stepL 0 0 0 (.slice none 0 0)) 35)))
  go_wp2_with ((with_reducible refine wpList_store_at2 (op := ⟨none, _, _, _, _, _⟩) rfl 35 _ _ rfl w.heap.size 0 (stepL 2 (x / 16) 0 (.slice A L c)).toArray ?_ ?_ ?_ (stepL_size _ _ _ _) ?_ ?_); (· rfl); (· rfl); (· exact HT.out); (· exact stepL_one _ _ _ _ _ _); intro w3 hw3)
  obtain ⟨w4, hw4, hl, hs, hr, hkk⟩ := step_fin hB 2 (x / 16) 0 (.slice A L c) bs hk12 (by omega) hR2 HS2.out
  rw [← hw4]
  exact bodyPost_ret (results_cell1 rfl _ _ ⟨w.heap.size, 0, none⟩ _ rfl hl) rfl ⟨_, rfl, hs, hr, hkk⟩
end Go.Proofs.Ytnmhmabifeapkaa.Ord
/- Walk of script.Parse. -/
namespace Go.Proofs.Ytnmhmabifeapkaa.Ord
open Go.RowKit
set_option linter.unusedVariables false

def StepAt (xs : List Int) (r : StepR) (rest : List Int) : Prop := ∀ (B : Nat) (N : List Nat) (Q : Nat) (w : World), B ≤ w.heap.size → ReadAt w B N Q xs →
  Calls Try.prog 38 #[.pointer (some ⟨Q, 0, none⟩)] w fun e w' => StepPost B N Q r rest w e w'
inductive ParseOk : List Int → List StepR → Prop
  | nil : ParseOk [] []
  | cons {xs rest : List Int} {r : StepR} {rs : List StepR} : StepAt xs r rest → rest.length < xs.length → ParseOk rest rs → ParseOk xs (r :: rs)
theorem ParseOk.len {xs : List Int} {rs : List StepR} (h : ParseOk xs rs) : rs.length ≤ xs.length := by
  induction h with
  | nil => exact Nat.le_refl _
  | cons _ h1 _ h2 => simp only [List.length_cons]; omega

def stepC (p : StepR × Value) : List Value := stepL p.1.k p.1.c p.1.n p.2
def OwnSteps (w : World) (base : Nat) (v : Value) (ps : List (StepR × Value)) : Prop := w.ownsRow base 35 4 v ps.length (ps.flatMap stepC) ∧ ∀ p ∈ ps, Own8 w base p.2 p.1.d
theorem Try.info35 : (Try.prog.info? 35).map (fun i => (i.zero, i.size, i.bytes)) = some (some (.agg #[.int .i64 0, .int .i64 0, .int .i64 0, .slice none 0 0]), 4, 48) := by kernel_rfl
def slLen : Value → Nat
  | .slice _ n _ => n
  | _ => 0
theorem OwnSteps.val {w : World} {base : Nat} {v : Value} {ps : List (StepR × Value)} (h : OwnSteps w base v ps) : slLen v = ps.length := by
  rcases h.1.2 with ⟨h1, h2⟩ | ⟨g, cap, cur, h1, _⟩
  · rw [h1, h2]; rfl
  · rw [h1]; rfl
theorem OwnSteps.kept {L : List Nat} {a b : World} (h : Kept L a b) {base : Nat} {v : Value} {ps : List (StepR × Value)} (ho : OwnSteps a base v ps) (h1 : ∀ k ∈ L, v.ownBlock ≠ some k) (h2 : ∀ p ∈ ps, ∀ k ∈ L, p.2.ownBlock ≠ some k) : OwnSteps b base v ps :=
  ⟨h.own2 ho.1 h1, fun p hp => h.own2 (ho.2 p hp) (h2 p hp)⟩
theorem OwnSteps.row {w : World} {base : Nat} {v : Value} {ps : List (StepR × Value)} (ho : OwnSteps w base v ps) {Q m : Nat} {f : Nat → Value} (hr : w.rowIs Q 81 m f) : v.ownBlock ≠ some Q ∧ ∀ p ∈ ps, p.2.ownBlock ≠ some Q :=
  ⟨own_ne_row ho.1 hr (by decide), fun p hp => own_ne_row (ho.2 p hp) hr (by decide)⟩

theorem grown_kept {a b : World} {v : Value} {g : Nat} (h : a.grownBy b v.ownBlock) (hv : v.ownBlock = none ∨ v.ownBlock = some g) : Kept [g] a b :=
  ⟨h.os, h.tape, h.output, h.size, fun k hk hn => h.block k hk (by rcases hv with e | e <;> simp [e] at hn ⊢; exact hn)⟩

/-- one step more in the list -/
theorem OwnSteps.snoc {w2 w3 : World} {base : Nat} {v v3 : Value} {ps : List (StepR × Value)} {r : StepR} {d : Value} {o : Obj} (ho : OwnSteps w2 base v ps) (hd : Own8 w2 base d r.d)
    (hown : w3.ownsRow base 35 4 v3 (ps.length + 1) (ps.flatMap stepC ++ stepL r.k r.c r.n d)) (hg : (w2.alloc o).grownBy w3 v.ownBlock) : OwnSteps w3 base v3 (ps ++ [(r, d)]) := by
  refine ⟨by simpa [stepC] using hown, fun p hp => ?_⟩
  have hp1 : Own8 w2 base p.2 p.1.d := by
    rcases List.mem_append.1 hp with h | h
    · exact ho.2 p h
    · simp at h; subst h; exact hd
  have hp2 := World.ownsRow.alloc hp1 o
  have ho2 := World.ownsRow.alloc ho.1 o
  exact hp2.kept hg (own_ne_own hp2 ho2 (by decide))

theorem OwnSteps.alloc {w : World} {base : Nat} {v : Value} {ps : List (StepR × Value)} (ho : OwnSteps w base v ps) (o : Obj) : OwnSteps (w.alloc o) base v ps :=
  ⟨ho.1.alloc o, fun p hp => World.ownsRow.alloc (ho.2 p hp) o⟩
/-- the blocks from one on, below another -/
def RB (a b : Nat) : List Nat := List.range' a (b - a)
theorem mem_RB {a b x : Nat} : x ∈ RB a b ↔ a ≤ x ∧ x < b := by unfold RB; rw [List.mem_range'_1]; omega
/-- a reader, made for bytes -/
theorem read_new {w : World} {w0 L : Nat} {A : Option Addr} {c : Nat} {xs : List Int} (hL : xs.length = L) (hA : Byt w w.heap.size A c xs) (hx : ∀ y ∈ xs, 0 ≤ y ∧ y < 256) (hl : L ≤ 1000000) (h0 : w0 ≤ w.heap.size) (hb : ∀ b off, A = some ⟨b, off, none⟩ → b < w0) :
    ReadAt (w.alloc (.cells #[.slice A L c] 81)) (w.heap.size + 1) (RB w0 (w.heap.size + 1)) w.heap.size xs := by
  subst hL
  refine ⟨mem_RB.2 ⟨h0, Nat.lt_succ_self _⟩, Nat.lt_succ_self _, hx, hl, A, c, ?_, (hA.below (below1 w _) (Nat.le_refl _)).mono (by simp), fun b off h => ?_⟩
  · exact World.rowIs.congr (row_list w [.slice A xs.length c] 81) fun i hi => by
      match i, hi with
      | 0, _ => rfl
  · have := hb b off h
    rw [mem_RB]
    omega
theorem Byt.low {w w' : World} {B w0 : Nat} {A : Option Addr} {c : Nat} {xs : List Int} (h : Byt w B A c xs) (hb : Below w0 w w') (h0 : w0 ≤ w'.heap.size) (hA : ∀ b off, A = some ⟨b, off, none⟩ → b < w0) : Byt w' w'.heap.size A c xs := by
  refine ⟨h.1, h.2.1, fun i hi => ?_⟩
  obtain ⟨x, off, e1, e2, e3⟩ := h.2.2 i hi
  have hx := hA x off e1
  refine ⟨x, off, e1, by omega, fun y hy => ?_⟩
  rw [World.cell?_of_block (w := w) (hb.block x hx)]
  exact e3 y hy
/-- after the append -/
theorem parse_mid {w w2 w3 : World} {Q L L3 : Nat} {rk rc rn : Int} {v v3 d : Value} {ps : List (StepR × Value)} {r : StepR} {rest : List Int} {A : Option Addr} {c : Nat} (hr : r.k = rk ∧ r.c = rc ∧ r.n = rn ∧ r.d.length = L3)
    (ho : OwnSteps w2 w.heap.size v ps) (hd : w2.ownsRow w.heap.size 5 1 d L3 (r.d.map (Value.int .u8))) (h0 : w.heap.size ≤ w2.heap.size) (hL : rest.length = L) (h5 : w2.rowIs Q 81 1 (rsF (.slice A L c))) (h6 : Byt w2 w2.heap.size A c rest) (hA : ∀ b off, A = some ⟨b, off, none⟩ → b < w.heap.size) (hx : ∀ y ∈ rest, 0 ≤ y ∧ y < 256) (hl : L ≤ 1000000)
    (hown : w3.ownsRow w.heap.size 35 4 v3 (ps.length + 1) (ps.flatMap stepC ++ [.int .i64 rk, .int .i64 rc, .int .i64 rn, d])) (hg : (w2.alloc (.cells #[.int .i64 rk, .int .i64 rc, .int .i64 rn, d] 35)).grownBy w3 v.ownBlock) (hb : Below w.heap.size (w2.alloc (.cells #[.int .i64 rk, .int .i64 rc, .int .i64 rn, d] 35)) w3) :
    w3.cell? ⟨Q, 0, none⟩ = some (.slice A L c) ∧ OwnSteps (w3.alloc (.cells #[.slice A L c] 81)) w.heap.size v3 (ps ++ [(r, d)]) ∧ ReadAt (w3.alloc (.cells #[.slice A L c] 81)) (w3.heap.size + 1) (RB w.heap.size (w3.heap.size + 1)) w3.heap.size rest ∧ Below w.heap.size w2 (w3.alloc (.cells #[.slice A L c] 81)) := by
  obtain ⟨rfl, rfl, rfl, rfl⟩ := hr
  have hbl : Below w.heap.size w2 w3 := ((Below.refl _ w2).alloc h0 _).trans hb
  have hs3 : w.heap.size ≤ w3.heap.size := Nat.le_trans h0 hbl.size
  have hr3 : w3.rowIs Q 81 1 (rsF (.slice A L c)) := World.rowIs.of_block (World.rowIs.alloc h5 _) (hg.block Q (World.rowIs.lt (World.rowIs.alloc h5 _)) (fun e => own_ne_row ho.1 h5 (by decide) e.symm))
  exact ⟨World.rowIs.cell hr3 (i := 0) (by decide), (OwnSteps.snoc ho hd hown hg).alloc _, read_new hL (h6.low hbl hs3 hA) hx hl hs3 hA, hbl.alloc hs3 _⟩

set_option maxRecDepth 100000 in
set_option maxHeartbeats 2000000 in
theorem parse_any (A : Option Addr) (k c : Nat) (xs : List Int) (rs : List StepR) (w : World) (hk : xs.length = k) (hx : ∀ y ∈ xs, 0 ≤ y ∧ y < 256) (hl : k ≤ 4096) (hA : Byt w w.heap.size A c xs) (hAb : ∀ b off, A = some ⟨b, off, none⟩ → b < w.heap.size) (hp : ParseOk xs rs) :
    Calls Try.prog 11 #[.slice A k c] w fun e w' => ∃ v ps, e = .returned (.tuple #[v, .int .i64 0]) ∧ ps.map (·.1) = rs ∧ OwnSteps w' w.heap.size v ps ∧ Below w.heap.size w w' := by
  have HX := Lib.hid hx
  have HA := Lib.hid hA
  have HAB := Lib.hid hAb
  have HP := Lib.hid hp
  have HK := Lib.hid hk
  have hrl : rs.length ≤ 4096 := by have := hp.len; omega
  clear hx hA hp hk hAb
  have hg : decide ((4096 : Int) < (k : Int)) = false := by simp; omega
  go_enter Try.func11, Try.ntmps11
  go_wp2_with fail
  go_loopw [4, 5] (fun v q wr => ∃ (ps : List (StepR × Value)) (ys : List Int) (rs' : List StepR) (Q B : Nat), q = .pointer (some ⟨Q, 0, none⟩) ∧ ParseOk ys rs' ∧ ps.map (·.1) ++ rs' = rs ∧ OwnSteps wr w.heap.size v ps ∧ B ≤ wr.heap.size ∧ ReadAt wr B (RB w.heap.size B) Q ys ∧ Below w.heap.size w wr) (fun v _ _ => rs.length - slLen v)
  case atStart =>
    exact ⟨[], xs, rs, w.heap.size, w.heap.size + 1, rfl, HP.out, rfl, ⟨World.ownsRow_nil _ _ _ _, fun p hp => by cases hp⟩, by simp, read_new HK.out HA.out HX.out (by omega) (Nat.le_refl _) HAB.out, below1 w _⟩
  case round =>
    obtain ⟨ps, ys, rs', Q, B, rfl, hpo, hrs, hown, hB, hR, hb⟩ := hrel
    have HR := Lib.hid hR
    obtain ⟨hQN, hQB, hyr, hyl, A', c', hrow, hby, hne⟩ := hR
    have h0 : wr.cell? ⟨Q, 0, none⟩ = some (.slice A' ys.length c') := World.rowIs.cell hrow (i := 0) (by decide)
    have hpl : ps.length + rs'.length ≤ 4096 := by
      have := congrArg List.length hrs
      rw [List.length_append, List.length_map] at this
      omega
    have HRS := Lib.hid hrs
    have HO := Lib.hid hown
    have HROW := Lib.hid hrow
    have hQ := (mem_RB.1 hQN).1
    clear hrow hby hne hyr hrs hown hQN
    cases hpo with
    | nil =>
      simp only [List.length_nil] at h0
      go_wp2_with fail
      go_ret2
      exact ⟨_, ps, rfl, by simpa using HRS.out, HO.out, hb⟩
    | cons hstep hlt hpo =>
      rename_i rest r rs2
      have hpos : 0 < ys.length := by omega
      obtain ⟨L, hL⟩ : ∃ L, ys.length = L := ⟨_, rfl⟩
      rw [hL] at h0 hlt hyl hpos
      have hg2 : decide ((0 : Int) < (L : Int)) = true := by simp; omega
      have HS := Lib.hid (hstep B _ Q wr hB HR.out)
      have HPO := Lib.hid hpo
      simp only [List.length_cons] at hpl
      clear hpo hstep hL
      go_wp2_with fail
      refine HS.out.mono ?_
      rintro e w2 ⟨d, rfl, hd, hR2, hk2⟩
      have hown2 := Lib.hid (HO.out.kept hk2 (fun k hk => by simp at hk; subst hk; exact (HO.out.row HROW.out).1) (fun p hp k hk => by simp at hk; subst hk; exact (HO.out.row HROW.out).2 p hp))
      have hb2 : Below w.heap.size w w2 := hb.trans (hk2.below hb.size (by simp; omega))
      obtain ⟨A3, c3, rfl, hby3⟩ := hd.val
      have hd' := Lib.hid (owns_mono hd.raw hb.size)
      obtain ⟨-, -, hx2, hl2, A2, c2, hrow2, hby2, hne2⟩ := hR2
      have HX2 := Lib.hid hx2
      have HROW2 := Lib.hid hrow2
      have HBY2 := Lib.hid hby2
      have HNE2 := Lib.hid (show ∀ b off, A2 = some ⟨b, off, none⟩ → b < w.heap.size from fun b off h => by
        have := hne2 b off h
        rw [mem_RB] at this
        omega)
      obtain ⟨L3, hL3⟩ : ∃ L3, r.d.length = L3 := ⟨_, rfl⟩
      obtain ⟨L2, hL2⟩ : ∃ L2, rest.length = L2 := ⟨_, rfl⟩
      rw [hL3] at hd'
      rw [hL2] at HROW2 hl2
      have HL2 := Lib.hid hL2
      have hs2 := hb2.size
      obtain ⟨rk, hrk⟩ : ∃ rk, r.k = rk := ⟨_, rfl⟩
      obtain ⟨rc, hrc⟩ : ∃ rc, r.c = rc := ⟨_, rfl⟩
      obtain ⟨rn, hrn⟩ : ∃ rn, r.n = rn := ⟨_, rfl⟩
      rw [hL3, hrk, hrc, hrn]
      have hsrc := Lib.hid (show Src (w2.alloc (.cells (stepL rk rc rn (.slice A3 L3 c3)).toArray 35)) (some ⟨w2.heap.size, 0, none⟩) 1 1 (stepL rk rc rn (.slice A3 L3 c3)) from .inr ⟨_, rfl, row_cells (row_list w2 (stepL rk rc rn (.slice A3 L3 c3)) 35) _ rfl fun i hi => rfl⟩)
      clear hd hby3 hx2 hrow2 hby2 hne2 hL2 hk2
      have HRW := Lib.hid (And.intro hrk (And.intro hrc (And.intro hrn hL3)))
      clear hrk hrc hrn hL3
      have hrow3 := Lib.hid (World.ownsRow.alloc hown2.out.1 (.cells #[.int .i64 rk, .int .i64 rc, .int .i64 rn, .slice A3 L3 c3] 35))
      have hlen : ps.length < 5000 := by omega
      have hone := Lib.hid (show ∀ u ∈ [Value.int .i64 rk, .int .i64 rc, .int .i64 rn, .slice A3 L3 c3], u.oneCell' = true from fun u hu => Array.all_eq_true_iff_forall_mem.1 (stepL_one rk rc rn A3 L3 c3) u (by simpa [stepL] using hu))
      simp only [stepL] at hsrc ⊢
      go_wp2_with ((with_reducible refine wpList_append_src (o := ⟨some 18, _, _, _, _, _⟩) rfl _ _ 24 rfl w.heap.size 35 (.agg #[.int .i64 0, .int .i64 0, .int .i64 0, .slice none 0 0]) 4 48 Try.underlying24 Try.info35 ?_ ?_ u4 ps.length (ps.flatMap stepC) ?_ hrow3.out (some ⟨w2.heap.size, 0, none⟩) 1 1 [.int .i64 rk, .int .i64 rc, .int .i64 rn, .slice A3 L3 c3] ?_ ?_ hsrc.out hone.out ?_ ?_ ?_ ?_); (· rfl); (· decide); (· rfl); (· rfl); (· rfl); (· unfold maxLen; omega); (· omega); (· simp; omega); intro v3 w3 hown3 hg3 hb3; have hmid := Lib.hid (parse_mid HRW.out hown2.out hd'.out hs2 HL2.out HROW2.out HBY2.out HNE2.out HX2.out hl2 hown3 hg3 hb3); have hcq := hmid.out.1; clear hown3 hg3 hb3)
      obtain ⟨-, hm1, hm2, hm3⟩ := hmid.out
      refine ⟨⟨ps ++ [(r, .slice A3 L3 c3)], rest, rs2, _, _, rfl, HPO.out, by simpa using HRS.out, hm1, by simp, hm2, hb2.trans hm3⟩, ?_⟩
      have e1 := hm1.val
      have e2 := HO.out.val
      have e3 := congrArg List.length HRS.out
      simp only [List.length_append, List.length_map, List.length_cons, List.length_nil] at e1 e3
      omega
end Go.Proofs.Ytnmhmabifeapkaa.Ord
/- Lists of steps; walks of SameStep and Same. -/
namespace Go.Proofs.Ytnmhmabifeapkaa.Ord
open Go.RowKit
set_option linter.unusedVariables false

/-- a slice of bytes, below a block -/
def DatB (w : World) (B : Nat) (d : Value) (xs : List Int) : Prop := (∀ y ∈ xs, 0 ≤ y ∧ y < 256) ∧ xs.length ≤ 10000 ∧ ∃ A c, d = .slice A xs.length c ∧ Byt w B A c xs
theorem DatB.below {B B' : Nat} {w w' : World} {d : Value} {xs : List Int} (h : DatB w B d xs) (hb : Below B' w w') (hB : B ≤ B') : DatB w' B d xs := by
  obtain ⟨h1, h2, A, c, h3, h4⟩ := h
  exact ⟨h1, h2, A, c, h3, h4.below hb hB⟩
theorem DatB.mono {B B' : Nat} {w : World} {d : Value} {xs : List Int} (h : DatB w B d xs) (hB : B ≤ B') : DatB w B' d xs := by
  obtain ⟨h1, h2, A, c, h3, h4⟩ := h
  exact ⟨h1, h2, A, c, h3, h4.mono hB⟩
def Steps (w : World) (B : Nat) (A : Option Addr) (rs : List StepR) : Prop :=
  ∀ i r, rs[i]? = some r → ∃ b off d, A = some ⟨b, off, none⟩ ∧ b < B ∧ CellsAt w ⟨b, off + i * 4, none⟩ (stepL r.k r.c r.n d) ∧ DatB w B d r.d
theorem Steps.below {B B' : Nat} {w w' : World} {A : Option Addr} {rs : List StepR} (h : Steps w B A rs) (hb : Below B' w w') (hB : B ≤ B') : Steps w' B A rs := by
  intro i r hi
  obtain ⟨b, off, d, h1, h2, h3, h4⟩ := h i r hi
  exact ⟨b, off, d, h1, h2, h3.below hb (by show b < B'; omega), h4.below hb hB⟩
theorem Steps.mono {B B' : Nat} {w : World} {A : Option Addr} {rs : List StepR} (h : Steps w B A rs) (hB : B ≤ B') : Steps w B' A rs := by
  intro i r hi
  obtain ⟨b, off, d, h1, h2, h3, h4⟩ := h i r hi
  exact ⟨b, off, d, h1, by omega, h3, h4.mono hB⟩

theorem flat4 : ∀ (ps : List (StepR × Value)) (i : Nat) (p : StepR × Value) (j : Nat) (v : Value), ps[i]? = some p → (stepC p)[j]? = some v → (ps.flatMap stepC)[i * 4 + j]? = some v
  | [], _, _, _, _, h, _ => by simp at h
  | q :: ps, 0, p, j, v, h, hj => by
    simp at h; subst h
    rw [List.flatMap_cons, Nat.zero_mul, Nat.zero_add, List.getElem?_append_left (List.getElem?_eq_some_iff.1 hj).1]
    exact hj
  | q :: ps, i + 1, p, j, v, h, hj => by
    have e : (stepC q).length = 4 := rfl
    rw [List.flatMap_cons, List.getElem?_append_right (by rw [e]; omega), e, show (i + 1) * 4 + j - 4 = i * 4 + j by omega]
    exact flat4 ps i p j v (by simpa using h) hj

theorem Steps.of_own {w : World} {base : Nat} {v : Value} {ps : List (StepR × Value)} (h : OwnSteps w base v ps) (hd : ∀ p ∈ ps, (∀ y ∈ p.1.d, 0 ≤ y ∧ y < 256) ∧ p.1.d.length ≤ 10000) :
    ∃ A c, v = .slice A ps.length c ∧ ps.length ≤ c ∧ Steps w w.heap.size A (ps.map (·.1)) := by
  rcases owns_shape h.1 (by decide) with ⟨h1, h2, _⟩ | ⟨g, cap, h1, _, hlt, h2, _⟩
  · refine ⟨none, 0, by rw [h1, h2], by omega, fun i r hi => ?_⟩
    obtain rfl : ps = [] := List.eq_nil_of_length_eq_zero h2
    simp at hi
  · refine ⟨_, cap, h1, h2, fun i r hi => ?_⟩
    rw [List.getElem?_map] at hi
    obtain ⟨p, hp, rfl⟩ := Option.map_eq_some_iff.1 hi
    have hm : p ∈ ps := List.mem_iff_getElem?.2 ⟨i, hp⟩
    obtain ⟨A, c, hv, hb⟩ := (h.2 p hm).val
    refine ⟨g, 0, p.2, rfl, hlt, fun j u hj => ?_, (hd p hm).1, (hd p hm).2, A, c, hv, hb⟩
    have hc := h.1.cells (g := g) (by rw [h1]; rfl) (i * 4 + j) u (flat4 ps i p j u hp hj)
    rw [Addr.add_mid] at hc ⊢
    rw [Nat.add_assoc]
    exact hc

def stepEq (a b : StepR) : Bool := a.k == b.k && a.c == b.c && a.n == b.n && decide (a.d = b.d)
theorem str_beq {xs ys : List Int} (hx : ∀ y ∈ xs, 0 ≤ y ∧ y < 256) (hy : ∀ y ∈ ys, 0 ≤ y ∧ y < 256) : ((strOfNums xs).toList == (strOfNums ys).toList) = decide (xs = ys) := by
  rw [Lib.strOfNums_toList, Lib.strOfNums_toList]
  have back : ∀ l : List Int, (∀ y ∈ l, 0 ≤ y ∧ y < 256) → (Lib.bytesOf l).map (fun b => (b.toNat : Int)) = l := by
    intro l hl
    unfold Lib.bytesOf
    rw [List.map_map]
    conv => rhs; rw [← List.map_id l]
    refine List.map_congr_left fun y hy => ?_
    have := hl y hy
    simp only [Function.comp_apply, UInt8.toNat_ofNat', id]
    omega
  rw [Bool.eq_iff_iff, beq_iff_eq, decide_eq_true_iff]
  exact ⟨fun h => by rw [← back xs hx, ← back ys hy, h], fun h => by rw [h]⟩

set_option maxRecDepth 100000 in
set_option maxHeartbeats 2000000 in
theorem sameStep_any (r s : StepR) (d e : Value) (w : World) (hr : DatB w w.heap.size d r.d) (hs : DatB w w.heap.size e s.d) :
    Calls Try.prog 21 #[.agg (stepL r.k r.c r.n d).toArray, .agg (stepL s.k s.c s.n e).toArray] w fun e w' => e = .returned (.bool (stepEq r s)) ∧ Below w.heap.size w w' := by
  have hb := below2 w (.cells (stepL r.k r.c r.n d).toArray 35) (.cells (stepL s.k s.c s.n e).toArray 35)
  have hr2 := hr.below hb (Nat.le_refl _)
  have hs2 := hs.below hb (Nat.le_refl _)
  obtain ⟨hr1, _, A, c, rfl, hA⟩ := hr2
  obtain ⟨hs1, _, A', c', rfl, hA'⟩ := hs2
  have q1 := hA.convert rfl
  have q2 := hA'.convert rfl
  have hse := str_beq hr1 hs1
  have hv : stepEq r s = (r.k == s.k && r.c == s.c && r.n == s.n && ((strOfNums r.d).toList == (strOfNums s.d).toList)) := by rw [hse]; rfl
  rw [hv]
  clear hv hse hr hs hr1 hs1 hA hA'
  obtain ⟨rk, rc, rn, rd⟩ := r
  obtain ⟨sk, sc, sn, sd⟩ := s
  simp only [stepL] at *
  generalize strOfNums rd = x at *
  generalize strOfNums sd = y at *
  generalize rd.length = lr at *
  generalize sd.length = ls at *
  clear rd sd
  have HB := Lib.hid hb
  clear hb
  go_enter Try.func21, Try.ntmps21
  cases g1 : (rk == sk)
  · go_wp2_with fail
    go_ret
    exact ⟨rfl, HB.out⟩
  cases g2 : (rc == sc)
  · go_wp2_with fail
    go_ret
    exact ⟨rfl, HB.out⟩
  cases g3 : (rn == sn)
  · go_wp2_with fail
    go_ret
    exact ⟨rfl, HB.out⟩
  go_wp2_with fail
  go_ret
  exact ⟨rfl, HB.out⟩

instance : Inhabited StepR := ⟨⟨0, 0, 0, []⟩⟩
def sAt (rs : List StepR) (k : Nat) : StepR := rs.getD k default
def stepsEq (rs ss : List StepR) : Bool := decide (rs.length = ss.length ∧ ∀ i, i < rs.length → stepEq (sAt rs i) (sAt ss i) = true)
theorem stepsEq_yes {rs ss : List StepR} (h : rs.length = ss.length) (h1 : ∀ i, i < rs.length → stepEq (sAt rs i) (sAt ss i) = true) : stepsEq rs ss = true := decide_eq_true ⟨h, h1⟩
theorem stepsEq_no {rs ss : List StepR} {k : Nat} (hk : k < rs.length) (h : stepEq (sAt rs k) (sAt ss k) = false) : stepsEq rs ss = false :=
  decide_eq_false fun h2 => by rw [h2.2 k hk] at h; cases h
theorem stepsEq_len {rs ss : List StepR} (h : ¬ rs.length = ss.length) : stepsEq rs ss = false := decide_eq_false fun h2 => h h2.1
theorem Steps.at {w : World} {B : Nat} {A : Option Addr} {rs : List StepR} (h : Steps w B A rs) {n : Nat} (hn : n < rs.length) : ∃ b off d, A = some ⟨b, off, none⟩ ∧ b < B ∧ CellsAt w ⟨b, off + n * 4, none⟩ (stepL (sAt rs n).k (sAt rs n).c (sAt rs n).n d) ∧ DatB w B d (sAt rs n).d := by
  have : sAt rs n = rs[n] := by simp [sAt, List.getD, hn]
  rw [this]
  exact h n _ (List.getElem?_eq_getElem hn)

set_option maxRecDepth 100000 in
set_option maxHeartbeats 2000000 in
theorem same_any (A A' : Option Addr) (n m c c' : Nat) (rs ss : List StepR) (w : World) (hn : rs.length = n) (hm : ss.length = m) (hl : n ≤ 5000) (hl' : m ≤ 5000) (hc : n ≤ c) (hc' : m ≤ c') (hA : Steps w w.heap.size A rs) (hA' : Steps w w.heap.size A' ss) :
    Calls Try.prog 12 #[.slice A n c, .slice A' m c'] w fun e w' => e = .returned (.bool (stepsEq rs ss)) ∧ Below w.heap.size w w' := by
  have HA := Lib.hid hA
  have HA' := Lib.hid hA'
  have HN := Lib.hid hn
  have HM := Lib.hid hm
  clear hA hA' hn hm
  by_cases hnm : n = m
  · subst hnm
    go_enter Try.func12, Try.ntmps12
    go_wp2_with fail
    go_loopw [5] (fun j wr => ∃ k : Nat, k ≤ n ∧ j = .int .i64 k ∧ (∀ i, i < k → stepEq (sAt rs i) (sAt ss i) = true) ∧ Below w.heap.size w wr) (fun j _ => n - (intOf j).toNat)
    case atStart => exact ⟨0, Nat.zero_le _, rfl, fun i hi => absurd hi (by omega), Below.refl _ _⟩
    case round =>
      obtain ⟨k, hk, rfl, hall, hb⟩ := hrel
      have HALL := Lib.hid hall
      clear hall
      by_cases hlt : k < n
      · obtain ⟨b, off, d, rfl, hbB, hck, hdk⟩ := (HA.out.below hb (Nat.le_refl _)).at (n := k) (by rw [HN.out]; exact hlt)
        obtain ⟨b', off', d', rfl, hbB', hck', hdk'⟩ := (HA'.out.below hb (Nat.le_refl _)).at (n := k) (by rw [HM.out]; exact hlt)
        have HS := Lib.hid (show ∀ W, Below wr.heap.size wr W → Calls Try.prog 21 #[.agg (stepL (sAt rs k).k (sAt rs k).c (sAt rs k).n d).toArray, .agg (stepL (sAt ss k).k (sAt ss k).c (sAt ss k).n d').toArray] W fun e w' => e = .returned (.bool (stepEq (sAt rs k) (sAt ss k))) ∧ Below W.heap.size W w' from
          fun W hW => sameStep_any _ _ _ _ W ((hdk.below hW hb.size).mono (Nat.le_trans hb.size hW.size)) ((hdk'.below hW hb.size).mono (Nat.le_trans hb.size hW.size)))
        have Hk := Lib.hid hck.regrown
        have Hk' := Lib.hid hck'.regrown
        clear hck hck' hdk hdk'
        go_wp2_with fail
        refine wp_region_quiet_below (by kernel_rfl) (by kernel_rfl) ?_
        repeat (first
          | ((with_reducible refine qk_load_agg (o := ⟨some 20, _, _, _, _, _⟩) rfl 35 _ rfl ⟨b, off + k * 4, none⟩ ?_ (stepL (sAt rs k).k (sAt rs k).c (sAt rs k).n d) _ Hk.out Try.underlying35 rfl (stepL_size _ _ _ _) ?_); (· rfl); simp only [Act.put, List.setIfInBounds_toArray, List.set_cons_succ, List.set_cons_zero])
          | ((with_reducible refine qk_load_agg (o := ⟨some 24, _, _, _, _, _⟩) rfl 35 _ rfl ⟨b', off' + k * 4, none⟩ ?_ (stepL (sAt ss k).k (sAt ss k).c (sAt ss k).n d') _ Hk'.out Try.underlying35 rfl (stepL_size _ _ _ _) ?_); (· rfl); simp only [Act.put, List.setIfInBounds_toArray, List.set_cons_succ, List.set_cons_zero])
          | go_big_quiet_step ((go_at_call 21; exact Calls.regrown_of (HS.out _ (below_regrown _ _ _)))))
        refine wpQuiet_nil ?_
        intro W3 hW3
        have hb3 := hb.trans ((regrown_below hW3).mono hb.size)
        obtain ⟨bv, hbv⟩ : ∃ bv, stepEq (sAt rs k) (sAt ss k) = bv := ⟨_, rfl⟩
        rw [hbv]
        have HV := Lib.hid hbv
        clear hbv hW3
        cases bv
        · go_wp2_with fail
          go_ret
          exact ⟨ret_bool (stepsEq_no (by rw [HN.out]; exact hlt) HV.out).symm, hb3⟩
        · go_wp2_with fail
          go_roundw
          case rel => exact ⟨k + 1, by omega, by go_num, fun i hi => by (by_cases e : i = k; subst e; exact HV.out; exact HALL.out i (by omega)), hb3⟩
          case measure => simp [intOf]; omega
      · obtain rfl : k = n := by omega
        go_wp2_with fail
        go_ret
        exact ⟨ret_bool (stepsEq_yes (by rw [HN.out, HM.out]) (by rw [HN.out]; exact HALL.out)).symm, hb⟩
  · go_enter Try.func12, Try.ntmps12
    go_wp2_with fail
    go_ret
    exact ⟨ret_bool (stepsEq_len (by rw [HN.out, HM.out]; exact hnm)).symm, Below.refl _ _⟩
end Go.Proofs.Ytnmhmabifeapkaa.Ord
/- Lists of steps of whatever size; walks of the law's few and the reference's at. -/
namespace Go.Proofs.Ytnmhmabifeapkaa.Ord
open Go.RowKit
set_option linter.unusedVariables false

def DatG (w : World) (B : Nat) (d : Value) (xs : List Int) : Prop := (∀ y ∈ xs, 0 ≤ y ∧ y < 256) ∧ xs.length ≤ maxLen ∧ ∃ A c, d = .slice A xs.length c ∧ Byt w B A c xs
def StepsG (w : World) (B : Nat) (A : Option Addr) (rs : List StepR) : Prop :=
  ∀ i r, rs[i]? = some r → ∃ b off d, A = some ⟨b, off, none⟩ ∧ b < B ∧ CellsAt w ⟨b, off + i * 4, none⟩ (stepL r.k r.c r.n d) ∧ DatG w B d r.d
theorem StepsG.small {w : World} {B : Nat} {A : Option Addr} {rs : List StepR} (h : StepsG w B A rs) (hs : ∀ r ∈ rs, r.d.length ≤ 10000) : Steps w B A rs := by
  intro i r hi
  obtain ⟨b, off, d, h1, h2, h3, h4, _, h5⟩ := h i r hi
  exact ⟨b, off, d, h1, h2, h3, h4, hs r (List.mem_iff_getElem?.2 ⟨i, hi⟩), h5⟩
theorem StepsG.at {w : World} {B : Nat} {A : Option Addr} {rs : List StepR} (h : StepsG w B A rs) {n : Nat} (hn : n < rs.length) : ∃ b off d, A = some ⟨b, off, none⟩ ∧ b < B ∧ CellsAt w ⟨b, off + n * 4, none⟩ (stepL (sAt rs n).k (sAt rs n).c (sAt rs n).n d) ∧ DatG w B d (sAt rs n).d := by
  have : sAt rs n = rs[n] := by simp [sAt, List.getD, hn]
  rw [this]
  exact h n _ (List.getElem?_eq_getElem hn)

def fewOk (rs : List StepR) : Bool := decide (rs.length ≤ 60) && rs.all fun r => decide (r.d.length ≤ 300)
theorem fewOk_long {rs : List StepR} (h : 60 < rs.length) : fewOk rs = false := by
  simp [fewOk]; intro h2; omega
theorem fewOk_big {rs : List StepR} {k : Nat} (hk : k < rs.length) (h : 300 < (sAt rs k).d.length) : fewOk rs = false := by
  have : sAt rs k = rs[k] := by simp [sAt, List.getD, hk]
  rw [this] at h
  simp [fewOk]
  intro _
  exact ⟨_, List.getElem_mem hk, h⟩
theorem fewOk_yes {rs : List StepR} (hn : rs.length ≤ 60) (h : ∀ i, i < rs.length → (sAt rs i).d.length ≤ 300) : fewOk rs = true := by
  simp only [fewOk, Bool.and_eq_true, decide_eq_true_eq, List.all_eq_true]
  refine ⟨hn, fun r hr => ?_⟩
  obtain ⟨i, hi, rfl⟩ := List.getElem_of_mem hr
  have := h i hi
  rwa [show sAt rs i = rs[i] by simp [sAt, List.getD, hi]] at this
theorem fewOk.out {rs : List StepR} (h : fewOk rs = true) : rs.length ≤ 60 ∧ ∀ r ∈ rs, r.d.length ≤ 300 := by
  simp only [fewOk, Bool.and_eq_true, decide_eq_true_eq, List.all_eq_true] at h
  exact h

set_option maxRecDepth 100000 in
set_option maxHeartbeats 2000000 in
theorem few14_any (A : Option Addr) (n c : Nat) (rs : List StepR) (w : World) (hn : rs.length = n) (hl : n ≤ maxLen) (hA : StepsG w w.heap.size A rs) :
    Calls Try.prog 14 #[.slice A n c] w fun e w' => e = .returned (.bool (fewOk rs)) ∧ w' = w := by
  have HA := Lib.hid hA
  have HN := Lib.hid hn
  have hl2 : n ≤ 9223372036854775807 := by unfold maxLen at hl; omega
  clear hA hn hl
  obtain ⟨res, hres⟩ : ∃ res, fewOk rs = res := ⟨_, rfl⟩
  rw [hres]
  have HR := Lib.hid hres
  clear hres
  go_enter Try.func14, Try.ntmps14
  go_wp2_with fail
  go_loopw [3] (fun j wr => ∃ k : Nat, k ≤ n ∧ k ≤ 61 ∧ j = .int .i64 k ∧ (∀ i, i < k → (sAt rs i).d.length ≤ 300) ∧ wr = w) (fun j _ => 61 - (intOf j).toNat)
  case atStart => exact ⟨0, Nat.zero_le _, by omega, rfl, fun i hi => absurd hi (by omega), rfl⟩
  case round =>
    obtain ⟨k, hk, hk61, rfl, hall, rfl⟩ := hrel
    have HALL := Lib.hid hall
    clear hall
    by_cases hlt : k < n
    · by_cases h61 : k < 61
      · obtain ⟨b, off, d, rfl, hbB, hck, hdk⟩ := HA.out.at (n := k) (by rw [HN.out]; exact hlt)
        obtain ⟨hd1, hd2, A2, c2, rfl, hby⟩ := hdk
        have h3 : wr.cell? ⟨b, off + k * 4 + 3, none⟩ = some (.slice A2 (sAt rs k).d.length c2) := by
          have := hck 3 _ rfl
          rwa [Addr.add_mid] at this
        obtain ⟨L, hL⟩ : ∃ L, (sAt rs k).d.length = L := ⟨_, rfl⟩
        rw [hL] at h3 hd2
        have HL := Lib.hid hL
        have hd3 : L ≤ 9223372036854775807 := by unfold maxLen at hd2; omega
        clear hL hd1 hd2 hby hck
        have hg1 : decide ((k : Int) < (n : Int)) = true := by simp; omega
        have hg2 : decide ((k : Int) < 61) = true := by simp; omega
        by_cases h300 : 300 < L
        · have hg3 : decide ((300 : Int) < (L : Int)) = true := by simp; omega
          go_wp2_with fail
          go_ret
          exact ⟨ret_bool (by rw [← HR.out]; exact (fewOk_big (by rw [HN.out]; exact hlt) (by rw [HL.out]; exact h300)).symm), rfl⟩
        · have hg3 : decide ((300 : Int) < (L : Int)) = false := by simp; omega
          go_wp2_with fail
          go_roundw
          case rel => exact ⟨k + 1, by omega, by omega, by go_num, fun i hi => by (by_cases e : i = k; (rw [e, HL.out]; omega); exact HALL.out i (by omega)), trivial⟩
          case measure => simp [intOf]; omega
      · have hg1 : decide ((k : Int) < (n : Int)) = true := by simp; omega
        have hg2 : decide ((k : Int) < 61) = false := by simp; omega
        have hg3 : decide ((n : Int) ≤ 60) = false := by simp; omega
        go_wp2_with fail
        go_ret
        exact ⟨ret_bool (by rw [← HR.out]; exact (fewOk_long (by rw [HN.out]; omega)).symm), rfl⟩
    · obtain rfl : k = n := by omega
      have hg1 : decide ((k : Int) < (k : Int)) = false := by simp
      by_cases h60 : k ≤ 60
      · have hg3 : decide ((k : Int) ≤ 60) = true := by simp; omega
        go_wp2_with fail
        go_ret
        exact ⟨ret_bool (by rw [← HR.out]; exact (fewOk_yes (by rw [HN.out]; exact h60) (by rw [HN.out]; exact HALL.out)).symm), rfl⟩
      · have hg3 : decide ((k : Int) ≤ 60) = false := by simp; omega
        go_wp2_with fail
        go_ret
        exact ⟨ret_bool (by rw [← HR.out]; exact (fewOk_long (by rw [HN.out]; omega)).symm), rfl⟩

set_option maxRecDepth 100000 in
theorem at_any (A : Option Addr) (k c i : Nat) (xs : List Int) (w : World) (hk : xs.length = k) (hl : k ≤ 1000000) (hi : i ≤ 1000000) (hx : ∀ y ∈ xs, 0 ≤ y ∧ y < 256) (hA : Byt w w.heap.size A c xs) :
    Calls Try.prog 60 #[.slice A k c, .int .i64 i] w fun e w' => e = .returned (.int .i64 (xs.getD i 0)) ∧ w' = w := by
  obtain ⟨r, hr⟩ : ∃ r, xs.getD i 0 = r := ⟨_, rfl⟩
  rw [hr]
  by_cases hlt : i < k
  · obtain ⟨b, off, rfl, hb, hc⟩ := hA.2.2 i (by omega)
    have hi2 : xs[i]? = some r := by rw [← hr]; simp [List.getD, show i < xs.length by omega]
    have hcell := hc r hi2
    have hr2 := hx r (List.mem_iff_getElem?.2 ⟨i, hi2⟩)
    have hg : decide ((k : Int) ≤ (i : Int)) = false := by simp; omega
    clear hc hA hi2 hr hx
    go_enter Try.func60, Try.ntmps60
    go_wp2_with fail
    go_ret
    exact ⟨rfl, rfl⟩
  · have hr0 : r = 0 := by rw [← hr]; simp [List.getD, show xs[i]? = none from List.getElem?_eq_none (by omega)]
    subst hr0
    have hg : decide ((k : Int) ≤ (i : Int)) = true := by simp; omega
    clear hA hr hx
    go_enter Try.func60, Try.ntmps60
    go_wp2_with fail
    go_ret
    exact ⟨rfl, rfl⟩
end Go.Proofs.Ytnmhmabifeapkaa.Ord
