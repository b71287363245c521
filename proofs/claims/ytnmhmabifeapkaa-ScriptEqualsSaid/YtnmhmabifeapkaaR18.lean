/- Walk of script.Parse. -/
import Derived.Test.YtnmhmabifeapkaaR17
namespace Go.Proofs.Ytnmhmabifeapkaa.Ord
open Go.RowKit
set_option linter.unusedVariables false

def StepAt (xs : List Int) (r : StepR) (rest : List Int) : Prop := ∀ (B : Nat) (N : List Nat) (Q : Nat) (w : World), B ≤ w.heap.size → ReadAt w B N Q xs →
  Calls Try.prog 38 #[.pointer (some ⟨Q, 0, none⟩)] w fun e w' => StepPost B N Q r rest w e w'
inductive ParseOk : List Int → List StepR → Prop
  | nil : ParseOk [] []
  | cons {xs rest : List Int} {r : StepR} {rs : List StepR} : StepAt xs r rest → rest.length < xs.length → ParseOk rest rs → ParseOk xs (r :: rs)
theorem ParseOk.len {xs : List Int} {rs : List StepR} (h : ParseOk xs rs) : rs.length ≤ xs.length := by
  induction h with
  | nil => exact Nat.le_refl _
  | cons _ h1 _ h2 => simp only [List.length_cons]; omega

def stepC (p : StepR × Value) : List Value := stepL p.1.k p.1.c p.1.n p.2
def OwnSteps (w : World) (base : Nat) (v : Value) (ps : List (StepR × Value)) : Prop := w.ownsRow base 35 4 v ps.length (ps.flatMap stepC) ∧ ∀ p ∈ ps, Own8 w base p.2 p.1.d
theorem Try.info35 : (Try.prog.info? 35).map (fun i => (i.zero, i.size, i.bytes)) = some (some (.agg #[.int .i64 0, .int .i64 0, .int .i64 0, .slice none 0 0]), 4, 48) := by kernel_rfl
def slLen : Value → Nat
  | .slice _ n _ => n
  | _ => 0
theorem OwnSteps.val {w : World} {base : Nat} {v : Value} {ps : List (StepR × Value)} (h : OwnSteps w base v ps) : slLen v = ps.length := by
  rcases h.1.2 with ⟨h1, h2⟩ | ⟨g, cap, cur, h1, _⟩
  · rw [h1, h2]; rfl
  · rw [h1]; rfl
theorem OwnSteps.kept {L : List Nat} {a b : World} (h : Kept L a b) {base : Nat} {v : Value} {ps : List (StepR × Value)} (ho : OwnSteps a base v ps) (h1 : ∀ k ∈ L, v.ownBlock ≠ some k) (h2 : ∀ p ∈ ps, ∀ k ∈ L, p.2.ownBlock ≠ some k) : OwnSteps b base v ps :=
  ⟨h.own2 ho.1 h1, fun p hp => h.own2 (ho.2 p hp) (h2 p hp)⟩
theorem OwnSteps.row {w : World} {base : Nat} {v : Value} {ps : List (StepR × Value)} (ho : OwnSteps w base v ps) {Q m : Nat} {f : Nat → Value} (hr : w.rowIs Q 81 m f) : v.ownBlock ≠ some Q ∧ ∀ p ∈ ps, p.2.ownBlock ≠ some Q :=
  ⟨own_ne_row ho.1 hr (by decide), fun p hp => own_ne_row (ho.2 p hp) hr (by decide)⟩

theorem grown_kept {a b : World} {v : Value} {g : Nat} (h : a.grownBy b v.ownBlock) (hv : v.ownBlock = none ∨ v.ownBlock = some g) : Kept [g] a b :=
  ⟨h.os, h.tape, h.output, h.size, fun k hk hn => h.block k hk (by rcases hv with e | e <;> simp [e] at hn ⊢; exact hn)⟩

/-- one step more in the list -/
theorem OwnSteps.snoc {w2 w3 : World} {base : Nat} {v v3 : Value} {ps : List (StepR × Value)} {r : StepR} {d : Value} {o : Obj} (ho : OwnSteps w2 base v ps) (hd : Own8 w2 base d r.d)
    (hown : w3.ownsRow base 35 4 v3 (ps.length + 1) (ps.flatMap stepC ++ stepL r.k r.c r.n d)) (hg : (w2.alloc o).grownBy w3 v.ownBlock) : OwnSteps w3 base v3 (ps ++ [(r, d)]) := by
  refine ⟨by simpa [stepC] using hown, fun p hp => ?_⟩
  have hp1 : Own8 w2 base p.2 p.1.d := by
    rcases List.mem_append.1 hp with h | h
    · exact ho.2 p h
    · simp at h; subst h; exact hd
  have hp2 := World.ownsRow.alloc hp1 o
  have ho2 := World.ownsRow.alloc ho.1 o
  exact hp2.kept hg (own_ne_own hp2 ho2 (by decide))

theorem OwnSteps.alloc {w : World} {base : Nat} {v : Value} {ps : List (StepR × Value)} (ho : OwnSteps w base v ps) (o : Obj) : OwnSteps (w.alloc o) base v ps :=
  ⟨ho.1.alloc o, fun p hp => World.ownsRow.alloc (ho.2 p hp) o⟩
/-- the blocks from one on, below another -/
def RB (a b : Nat) : List Nat := List.range' a (b - a)
theorem mem_RB {a b x : Nat} : x ∈ RB a b ↔ a ≤ x ∧ x < b := by unfold RB; rw [List.mem_range'_1]; omega
/-- a reader, made for bytes -/
theorem read_new {w : World} {w0 L : Nat} {A : Option Addr} {c : Nat} {xs : List Int} (hL : xs.length = L) (hA : Byt w w.heap.size A c xs) (hx : ∀ y ∈ xs, 0 ≤ y ∧ y < 256) (hl : L ≤ 1000000) (h0 : w0 ≤ w.heap.size) (hb : ∀ b off, A = some ⟨b, off, none⟩ → b < w0) :
    ReadAt (w.alloc (.cells #[.slice A L c] 81)) (w.heap.size + 1) (RB w0 (w.heap.size + 1)) w.heap.size xs := by
  subst hL
  refine ⟨mem_RB.2 ⟨h0, Nat.lt_succ_self _⟩, Nat.lt_succ_self _, hx, hl, A, c, ?_, (hA.below (below1 w _) (Nat.le_refl _)).mono (by simp), fun b off h => ?_⟩
  · exact World.rowIs.congr (row_list w [.slice A xs.length c] 81) fun i hi => by
      match i, hi with
      | 0, _ => rfl
  · have := hb b off h
    rw [mem_RB]
    omega
theorem Byt.low {w w' : World} {B w0 : Nat} {A : Option Addr} {c : Nat} {xs : List Int} (h : Byt w B A c xs) (hb : Below w0 w w') (h0 : w0 ≤ w'.heap.size) (hA : ∀ b off, A = some ⟨b, off, none⟩ → b < w0) : Byt w' w'.heap.size A c xs := by
  refine ⟨h.1, h.2.1, fun i hi => ?_⟩
  obtain ⟨x, off, e1, e2, e3⟩ := h.2.2 i hi
  have hx := hA x off e1
  refine ⟨x, off, e1, by omega, fun y hy => ?_⟩
  rw [World.cell?_of_block (w := w) (hb.block x hx)]
  exact e3 y hy
/-- after the append -/
theorem parse_mid {w w2 w3 : World} {Q L L3 : Nat} {rk rc rn : Int} {v v3 d : Value} {ps : List (StepR × Value)} {r : StepR} {rest : List Int} {A : Option Addr} {c : Nat} (hr : r.k = rk ∧ r.c = rc ∧ r.n = rn ∧ r.d.length = L3)
    (ho : OwnSteps w2 w.heap.size v ps) (hd : w2.ownsRow w.heap.size 5 1 d L3 (r.d.map (Value.int .u8))) (h0 : w.heap.size ≤ w2.heap.size) (hL : rest.length = L) (h5 : w2.rowIs Q 81 1 (rsF (.slice A L c))) (h6 : Byt w2 w2.heap.size A c rest) (hA : ∀ b off, A = some ⟨b, off, none⟩ → b < w.heap.size) (hx : ∀ y ∈ rest, 0 ≤ y ∧ y < 256) (hl : L ≤ 1000000)
    (hown : w3.ownsRow w.heap.size 35 4 v3 (ps.length + 1) (ps.flatMap stepC ++ [.int .i64 rk, .int .i64 rc, .int .i64 rn, d])) (hg : (w2.alloc (.cells #[.int .i64 rk, .int .i64 rc, .int .i64 rn, d] 35)).grownBy w3 v.ownBlock) (hb : Below w.heap.size (w2.alloc (.cells #[.int .i64 rk, .int .i64 rc, .int .i64 rn, d] 35)) w3) :
    w3.cell? ⟨Q, 0, none⟩ = some (.slice A L c) ∧ OwnSteps (w3.alloc (.cells #[.slice A L c] 81)) w.heap.size v3 (ps ++ [(r, d)]) ∧ ReadAt (w3.alloc (.cells #[.slice A L c] 81)) (w3.heap.size + 1) (RB w.heap.size (w3.heap.size + 1)) w3.heap.size rest ∧ Below w.heap.size w2 (w3.alloc (.cells #[.slice A L c] 81)) := by
  obtain ⟨rfl, rfl, rfl, rfl⟩ := hr
  have hbl : Below w.heap.size w2 w3 := ((Below.refl _ w2).alloc h0 _).trans hb
  have hs3 : w.heap.size ≤ w3.heap.size := Nat.le_trans h0 hbl.size
  have hr3 : w3.rowIs Q 81 1 (rsF (.slice A L c)) := World.rowIs.of_block (World.rowIs.alloc h5 _) (hg.block Q (World.rowIs.lt (World.rowIs.alloc h5 _)) (fun e => own_ne_row ho.1 h5 (by decide) e.symm))
  exact ⟨World.rowIs.cell hr3 (i := 0) (by decide), (OwnSteps.snoc ho hd hown hg).alloc _, read_new hL (h6.low hbl hs3 hA) hx hl hs3 hA, hbl.alloc hs3 _⟩

set_option maxRecDepth 100000 in
set_option maxHeartbeats 2000000 in
theorem parse_any (A : Option Addr) (k c : Nat) (xs : List Int) (rs : List StepR) (w : World) (hk : xs.length = k) (hx : ∀ y ∈ xs, 0 ≤ y ∧ y < 256) (hl : k ≤ 4096) (hA : Byt w w.heap.size A c xs) (hAb : ∀ b off, A = some ⟨b, off, none⟩ → b < w.heap.size) (hp : ParseOk xs rs) :
    Calls Try.prog 11 #[.slice A k c] w fun e w' => ∃ v ps, e = .returned (.tuple #[v, .int .i64 0]) ∧ ps.map (·.1) = rs ∧ OwnSteps w' w.heap.size v ps ∧ Below w.heap.size w w' := by
  have HX := Lib.hid hx
  have HA := Lib.hid hA
  have HAB := Lib.hid hAb
  have HP := Lib.hid hp
  have HK := Lib.hid hk
  have hrl : rs.length ≤ 4096 := by have := hp.len; omega
  clear hx hA hp hk hAb
  have hg : decide ((4096 : Int) < (k : Int)) = false := by simp; omega
  go_enter Try.func11, Try.ntmps11
  go_wp2_with fail
  go_loopw [4, 5] (fun v q wr => ∃ (ps : List (StepR × Value)) (ys : List Int) (rs' : List StepR) (Q B : Nat), q = .pointer (some ⟨Q, 0, none⟩) ∧ ParseOk ys rs' ∧ ps.map (·.1) ++ rs' = rs ∧ OwnSteps wr w.heap.size v ps ∧ B ≤ wr.heap.size ∧ ReadAt wr B (RB w.heap.size B) Q ys ∧ Below w.heap.size w wr) (fun v _ _ => rs.length - slLen v)
  case atStart =>
    exact ⟨[], xs, rs, w.heap.size, w.heap.size + 1, rfl, HP.out, rfl, ⟨World.ownsRow_nil _ _ _ _, fun p hp => by cases hp⟩, by simp, read_new HK.out HA.out HX.out (by omega) (Nat.le_refl _) HAB.out, below1 w _⟩
  case round =>
    obtain ⟨ps, ys, rs', Q, B, rfl, hpo, hrs, hown, hB, hR, hb⟩ := hrel
    have HR := Lib.hid hR
    obtain ⟨hQN, hQB, hyr, hyl, A', c', hrow, hby, hne⟩ := hR
    have h0 : wr.cell? ⟨Q, 0, none⟩ = some (.slice A' ys.length c') := World.rowIs.cell hrow (i := 0) (by decide)
    have hpl : ps.length + rs'.length ≤ 4096 := by
      have := congrArg List.length hrs
      rw [List.length_append, List.length_map] at this
      omega
    have HRS := Lib.hid hrs
    have HO := Lib.hid hown
    have HROW := Lib.hid hrow
    have hQ := (mem_RB.1 hQN).1
    clear hrow hby hne hyr hrs hown hQN
    cases hpo with
    | nil =>
      simp only [List.length_nil] at h0
      go_wp2_with fail
      go_ret2
      exact ⟨_, ps, rfl, by simpa using HRS.out, HO.out, hb⟩
    | cons hstep hlt hpo =>
      rename_i rest r rs2
      have hpos : 0 < ys.length := by omega
      obtain ⟨L, hL⟩ : ∃ L, ys.length = L := ⟨_, rfl⟩
      rw [hL] at h0 hlt hyl hpos
      have hg2 : decide ((0 : Int) < (L : Int)) = true := by simp; omega
      have HS := Lib.hid (hstep B _ Q wr hB HR.out)
      have HPO := Lib.hid hpo
      simp only [List.length_cons] at hpl
      clear hpo hstep hL
      go_wp2_with fail
      refine HS.out.mono ?_
      rintro e w2 ⟨d, rfl, hd, hR2, hk2⟩
      have hown2 := Lib.hid (HO.out.kept hk2 (fun k hk => by simp at hk; subst hk; exact (HO.out.row HROW.out).1) (fun p hp k hk => by simp at hk; subst hk; exact (HO.out.row HROW.out).2 p hp))
      have hb2 : Below w.heap.size w w2 := hb.trans (hk2.below hb.size (by simp; omega))
      obtain ⟨A3, c3, rfl, hby3⟩ := hd.val
      have hd' := Lib.hid (owns_mono hd.raw hb.size)
      obtain ⟨-, -, hx2, hl2, A2, c2, hrow2, hby2, hne2⟩ := hR2
      have HX2 := Lib.hid hx2
      have HROW2 := Lib.hid hrow2
      have HBY2 := Lib.hid hby2
      have HNE2 := Lib.hid (show ∀ b off, A2 = some ⟨b, off, none⟩ → b < w.heap.size from fun b off h => by
        have := hne2 b off h
        rw [mem_RB] at this
        omega)
      obtain ⟨L3, hL3⟩ : ∃ L3, r.d.length = L3 := ⟨_, rfl⟩
      obtain ⟨L2, hL2⟩ : ∃ L2, rest.length = L2 := ⟨_, rfl⟩
      rw [hL3] at hd'
      rw [hL2] at HROW2 hl2
      have HL2 := Lib.hid hL2
      have hs2 := hb2.size
      obtain ⟨rk, hrk⟩ : ∃ rk, r.k = rk := ⟨_, rfl⟩
      obtain ⟨rc, hrc⟩ : ∃ rc, r.c = rc := ⟨_, rfl⟩
      obtain ⟨rn, hrn⟩ : ∃ rn, r.n = rn := ⟨_, rfl⟩
      rw [hL3, hrk, hrc, hrn]
      have hsrc := Lib.hid (show Src (w2.alloc (.cells (stepL rk rc rn (.slice A3 L3 c3)).toArray 35)) (some ⟨w2.heap.size, 0, none⟩) 1 1 (stepL rk rc rn (.slice A3 L3 c3)) from .inr ⟨_, rfl, row_cells (row_list w2 (stepL rk rc rn (.slice A3 L3 c3)) 35) _ rfl fun i hi => rfl⟩)
      clear hd hby3 hx2 hrow2 hby2 hne2 hL2 hk2
      have HRW := Lib.hid (And.intro hrk (And.intro hrc (And.intro hrn hL3)))
      clear hrk hrc hrn hL3
      have hrow3 := Lib.hid (World.ownsRow.alloc hown2.out.1 (.cells #[.int .i64 rk, .int .i64 rc, .int .i64 rn, .slice A3 L3 c3] 35))
      have hlen : ps.length < 5000 := by omega
      have hone := Lib.hid (show ∀ u ∈ [Value.int .i64 rk, .int .i64 rc, .int .i64 rn, .slice A3 L3 c3], u.oneCell' = true from fun u hu => Array.all_eq_true_iff_forall_mem.1 (stepL_one rk rc rn A3 L3 c3) u (by simpa [stepL] using hu))
      simp only [stepL] at hsrc ⊢
      go_wp2_with ((with_reducible refine wpList_append_src (o := ⟨some 18, _, _, _, _, _⟩) rfl _ _ 24 rfl w.heap.size 35 (.agg #[.int .i64 0, .int .i64 0, .int .i64 0, .slice none 0 0]) 4 48 Try.underlying24 Try.info35 ?_ ?_ u4 ps.length (ps.flatMap stepC) ?_ hrow3.out (some ⟨w2.heap.size, 0, none⟩) 1 1 [.int .i64 rk, .int .i64 rc, .int .i64 rn, .slice A3 L3 c3] ?_ ?_ hsrc.out hone.out ?_ ?_ ?_ ?_); (· rfl); (· decide); (· rfl); (· rfl); (· rfl); (· unfold maxLen; omega); (· omega); (· simp; omega); intro v3 w3 hown3 hg3 hb3; have hmid := Lib.hid (parse_mid HRW.out hown2.out hd'.out hs2 HL2.out HROW2.out HBY2.out HNE2.out HX2.out hl2 hown3 hg3 hb3); have hcq := hmid.out.1; clear hown3 hg3 hb3)
      obtain ⟨-, hm1, hm2, hm3⟩ := hmid.out
      refine ⟨⟨ps ++ [(r, .slice A3 L3 c3)], rest, rs2, _, _, rfl, HPO.out, by simpa using HRS.out, hm1, by simp, hm2, hb2.trans hm3⟩, ?_⟩
      have e1 := hm1.val
      have e2 := HO.out.val
      have e3 := congrArg List.length HRS.out
      simp only [List.length_append, List.length_map, List.length_cons, List.length_nil] at e1 e3
      omega
end Go.Proofs.Ytnmhmabifeapkaa.Ord
