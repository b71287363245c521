/- The codec's parts, written: any command, valid or not; The codec's parts, read: the bytes. -/
import Derived.Test.YtnjhpgmbfblgaaaGreatMK1
set_option linter.unusedVariables false
set_option linter.unusedSimpArgs false
namespace Go.Proofs.YtnjhpgmbfblgaaaGreat.Ord
set_option maxRecDepth 100000
set_option maxHeartbeats 16000000
open Go.RowKit
structure PW (w : World) (X C : Nat) (c : CmdR) (vk vv vt : Value) : Prop where
 st : WS w X C (au_ (cmdC c vk vv vt)) [] false
 keys : SlN w [X, C] vk c.keys
 val : SlY w [X, C] vv c.val
 tags : SlN w [X, C] vt c.tags
theorem PW.op {w : World} {X C : Nat} {c : CmdR} {vk vv vt : Value} (h : PW w X C c vk vv vt) : w.cell? ⟨X, 0, none⟩ = some (.pointer (some ⟨C, 0, none⟩)) /\ w.cell? ⟨C, 0, none⟩ = some (.int .i64 c.op) := by
 obtain ⟨h1, h2, v, h3, h4⟩ := h.st
 exact ⟨World.rowIs.cell h3 (i := 0) (by decide), World.rowIs.cell h2 (i := 0) (by decide)⟩
def PG (w w' : World) (X C : Nat) (c : CmdR) (vk vv vt : Value) (out : List Int) (bad : Bool) : Prop := WS w' X C (au_ (cmdC c vk vv vt)) out bad /\ Kept [X, C] w w'
theorem bw_ {c : CmdR} (h : CmdS c) : c.life = (c.life.toNat : Int) /\ c.life.toNat < 18446744073709551616 := by have := h.life; omega
theorem eb_ {c : CmdR} (h : CmdS c) : c.ver = (c.ver.toNat : Int) /\ c.ver.toNat < 18446744073709551616 := by have := h.ver; omega
theorem g5_ {c : CmdR} (h : CmdS c) : (c.life.toNat == 0) = (c.life == 0) := by
 have := h.life
 rw [Bool.eq_iff_iff]
 simp
 omega
theorem cZ_ (X C : Nat) (c : CmdR) (vk vv vt : Value) (w : World) (hs : CmdS c) (ho : c.op = 4 ∨ c.op = 7 ∨ c.op = 13) (h : PW w X C c vk vv vt) :
  Calls Tryz.prog 236 #[.pointer (some ⟨X, 0, none⟩)] w fun e w' => e = .returned (.tuple #[]) /\ PG w w' X C c vk vv vt (putS c.key) (!aB_ c.key) := by
 have c0 := h.op.1
 have d0 := h.op.2
 obtain ⟨H0, HV, HT, Ab, Aa⟩ := kq5 h.st h.val h.tags h.keys hs
 clear h hs
 rcases ho with ho | ho | ho
 all_goals
  rw [ho] at d0
  go_enter Tryz.func236, Tryz.ntmps236
  go_wp2_with fail
  refine (ff_ 1 c.key H0.o (by decide) rfl Aa.o.key (by simp)).mono ?_
  rintro e w1 ⟨rfl, s1, k1⟩
  obtain ⟨K1, H1⟩ := kq2 ((Kept.refl _ _).trans (k1.mono (L' := [X, C]) (by simp))) s1
  clear s1 k1
  go_wp2_with fail
  go_end0
  exact ⟨rfl, H1.o.out_bad (by simp) (by cases aB_ c.key <;> simp), K1.o⟩
theorem gQ_ (X C : Nat) (c : CmdR) (vk vv vt : Value) (w : World) (hs : CmdS c) (ho : c.op = 5) (h : PW w X C c vk vv vt) :
  Calls Tryz.prog 236 #[.pointer (some ⟨X, 0, none⟩)] w fun e w' => e = .returned (.tuple #[]) /\ PG w w' X C c vk vv vt (putG 1 c.keys) (!okG 1 aB_ c.keys) := by
 have c0 := h.op.1
 have d0 := h.op.2
 obtain ⟨H0, HV, HT, Ab, Aa⟩ := kq5 h.st h.val h.tags h.keys hs
 clear h hs
 rcases ho with ho
 all_goals
  rw [ho] at d0
  go_enter Tryz.func236, Tryz.ntmps236
  go_wp2_with fail
  refine (wg_keys 2 1 vk c.keys H0.o (by decide) rfl Ab.o Aa.o.keys Aa.o.nkeys (by decide) (by simp)).mono ?_
  rintro e w1 ⟨rfl, s1, k1⟩
  obtain ⟨K1, H1⟩ := kq2 ((Kept.refl _ _).trans (k1.mono (L' := [X, C]) (by simp))) s1
  clear s1 k1
  go_wp2_with fail
  go_end0
  exact ⟨rfl, H1.o.out_bad (by simp) (by cases aB_ c.key <;> simp), K1.o⟩
theorem ge_ (X C : Nat) (c : CmdR) (vk vv vt : Value) (w : World) (hs : CmdS c) (ho : c.op = 6) (h : PW w X C c vk vv vt) :
  Calls Tryz.prog 236 #[.pointer (some ⟨X, 0, none⟩)] w fun e w' => e = .returned (.tuple #[]) /\ PG w w' X C c vk vv vt (putS c.key ++ putV c.life.toNat) (!aB_ c.key || (c.life.toNat == 0)) := by
 have c0 := h.op.1
 have d0 := h.op.2
 have hsl := bu_ hs.key
 obtain ⟨H0, HV, HT, Ab, Aa⟩ := kq5 h.st h.val h.tags h.keys hs
 clear h hs
 rcases ho with ho
 all_goals
  rw [ho] at d0
  go_enter Tryz.func236, Tryz.ntmps236
  go_wp2_with fail
  refine (ff_ 1 c.key H0.o (by decide) rfl Aa.o.key (by simp)).mono ?_
  rintro e w1 ⟨rfl, s1, k1⟩
  obtain ⟨K1, H1⟩ := kq2 ((Kept.refl _ _).trans (k1.mono (L' := [X, C]) (by simp))) s1
  clear s1 k1
  go_wp2_with fail
  refine (hx_ c.life.toNat H1.o (congrArg (Value.int .u64) (bw_ Aa.o).1) (bw_ Aa.o).2 (by simp; omega)).mono ?_
  rintro e w2 ⟨rfl, s2, k2⟩
  obtain ⟨K2, H2⟩ := kq2 (K1.o.trans (k2.mono (L' := [X, C]) (by simp))) s2
  clear s2 k2
  go_wp2_with fail
  go_end0
  exact ⟨rfl, H2.o.out_bad (by simp) (by cases aB_ c.key <;> simp), K2.o⟩
theorem eq_ (X C : Nat) (c : CmdR) (vk vv vt : Value) (w : World) (hs : CmdS c) (ho : c.op = 8 ∨ c.op = 9) (h : PW w X C c vk vv vt) :
  Calls Tryz.prog 236 #[.pointer (some ⟨X, 0, none⟩)] w fun e w' => e = .returned (.tuple #[]) /\ PG w w' X C c vk vv vt (putS c.tag) (!a7_ c.tag) := by
 have c0 := h.op.1
 have d0 := h.op.2
 obtain ⟨H0, HV, HT, Ab, Aa⟩ := kq5 h.st h.val h.tags h.keys hs
 clear h hs
 rcases ho with ho | ho
 all_goals
  rw [ho] at d0
  go_enter Tryz.func236, Tryz.ntmps236
  go_wp2_with fail
  refine (wg_tag 7 c.tag H0.o (by decide) rfl Aa.o.tag (by simp)).mono ?_
  rintro e w1 ⟨rfl, s1, k1⟩
  obtain ⟨K1, H1⟩ := kq2 ((Kept.refl _ _).trans (k1.mono (L' := [X, C]) (by simp))) s1
  clear s1 k1
  go_wp2_with fail
  go_end0
  exact ⟨rfl, H1.o.out_bad (by simp) (by cases aB_ c.key <;> simp), K1.o⟩
theorem hX_ (X C : Nat) (c : CmdR) (vk vv vt : Value) (w : World) (hs : CmdS c) (ho : c.op = 10) (h : PW w X C c vk vv vt) :
  Calls Tryz.prog 236 #[.pointer (some ⟨X, 0, none⟩)] w fun e w' => e = .returned (.tuple #[]) /\ PG w w' X C c vk vv vt (putS c.pre) (!dX_ c.pre) := by
 have c0 := h.op.1
 have d0 := h.op.2
 obtain ⟨H0, HV, HT, Ab, Aa⟩ := kq5 h.st h.val h.tags h.keys hs
 clear h hs
 rcases ho with ho
 all_goals
  rw [ho] at d0
  go_enter Tryz.func236, Tryz.ntmps236
  go_wp2_with fail
  refine (wg_pre 8 c.pre H0.o (by decide) rfl Aa.o.pre (by simp)).mono ?_
  rintro e w1 ⟨rfl, s1, k1⟩
  obtain ⟨K1, H1⟩ := kq2 ((Kept.refl _ _).trans (k1.mono (L' := [X, C]) (by simp))) s1
  clear s1 k1
  go_wp2_with fail
  go_end0
  exact ⟨rfl, H1.o.out_bad (by simp) (by cases aB_ c.key <;> simp), K1.o⟩
theorem er_ (X C : Nat) (c : CmdR) (vk vv vt : Value) (w : World) (hs : CmdS c) (ho : c.op = 11 ∨ c.op = 12) (h : PW w X C c vk vv vt) :
  Calls Tryz.prog 236 #[.pointer (some ⟨X, 0, none⟩)] w fun e w' => e = .returned (.tuple #[]) /\ PG w w' X C c vk vv vt (putS c.key ++ putS c.chi) (!aB_ c.key || !aB_ c.chi) := by
 have c0 := h.op.1
 have d0 := h.op.2
 have hsl := bu_ hs.key
 obtain ⟨H0, HV, HT, Ab, Aa⟩ := kq5 h.st h.val h.tags h.keys hs
 clear h hs
 rcases ho with ho | ho
 all_goals
  rw [ho] at d0
  go_enter Tryz.func236, Tryz.ntmps236
  go_wp2_with fail
  refine (ff_ 1 c.key H0.o (by decide) rfl Aa.o.key (by simp)).mono ?_
  rintro e w1 ⟨rfl, s1, k1⟩
  obtain ⟨K1, H1⟩ := kq2 ((Kept.refl _ _).trans (k1.mono (L' := [X, C]) (by simp))) s1
  clear s1 k1
  go_wp2_with fail
  refine (ff_ 9 c.chi H1.o (by decide) rfl Aa.o.chi (by simp; omega)).mono ?_
  rintro e w2 ⟨rfl, s2, k2⟩
  obtain ⟨K2, H2⟩ := kq2 (K1.o.trans (k2.mono (L' := [X, C]) (by simp))) s2
  clear s2 k2
  go_wp2_with fail
  go_end0
  exact ⟨rfl, H2.o.out_bad (by simp) (by cases aB_ c.key <;> simp), K2.o⟩
theorem dL_ (X C : Nat) (c : CmdR) (vk vv vt : Value) (w : World) (ho : c.op = 14 ∨ c.op = 15) (h : PW w X C c vk vv vt) :
  Calls Tryz.prog 236 #[.pointer (some ⟨X, 0, none⟩)] w fun e w' => e = .returned (.tuple #[]) /\ PG w w' X C c vk vv vt [] false := by
 have c0 := h.op.1
 have d0 := h.op.2
 have H := kp h
 clear h
 rcases ho with ho | ho
 all_goals
  rw [ho] at d0
  go_enter Tryz.func236, Tryz.ntmps236
  go_wp2_with fail
  go_end0
  exact ⟨rfl, H.o.st, Kept.refl _ _⟩
theorem hW_ (X C : Nat) (c : CmdR) (vk vv vt : Value) (w : World) (hs : CmdS c) (ho : c.op = 1 ∨ c.op = 2) (h : PW w X C c vk vv vt) :
  Calls Tryz.prog 236 #[.pointer (some ⟨X, 0, none⟩)] w fun e w' => e = .returned (.tuple #[]) /\ PG w w' X C c vk vv vt (putS c.key ++ (putV c.val.length ++ c.val) ++ putG 0 c.tags ++ putV c.life.toNat) (!aB_ c.key || !okG 0 a7_ c.tags || (c.life.toNat == 0)) := by
 have c0 := h.op.1
 have d0 := h.op.2
 have hsl := bu_ hs.key
 have hvv := ad_ (n := c.val.length) (by have := hs.val; omega)
 have hvl := hs.val
 have htt := cG_ (least := 0) hs.tags hs.ntags
 have hll := ad_ (bw_ hs).2
 obtain ⟨H0, HV, HT, Ab, Aa⟩ := kq5 h.st h.val h.tags h.keys hs
 clear h hs
 rcases ho with ho | ho
 all_goals
  rw [ho] at d0
  go_enter Tryz.func236, Tryz.ntmps236
  go_wp2_with fail
  refine (ff_ 1 c.key H0.o (by decide) rfl Aa.o.key (by simp)).mono ?_
  rintro e w1 ⟨rfl, s1, k1⟩
  obtain ⟨K1, H1⟩ := kq2 ((Kept.refl _ _).trans (k1.mono (L' := [X, C]) (by simp))) s1
  clear s1 k1
  go_wp2_with fail
  refine (wg_val vv c.val H1.o rfl (HV.o.kept K1.o fun _ h => h) Aa.o.bytes (by omega) (by simp; omega)).mono ?_
  rintro e w2 ⟨rfl, s2, k2⟩
  obtain ⟨K2, H2⟩ := kq2 (K1.o.trans (k2.mono (L' := [X, C]) (by simp))) s2
  clear s2 k2
  go_wp2_with fail
  refine (j2_ 4 0 vt c.tags H2.o (by decide) rfl (HT.o.kept K2.o fun _ h => h) Aa.o.tags Aa.o.ntags (by decide) (by simp; omega)).mono ?_
  rintro e w3 ⟨rfl, s3, k3⟩
  obtain ⟨K3, H3⟩ := kq2 (K2.o.trans (k3.mono (L' := [X, C]) (by simp))) s3
  clear s3 k3
  go_wp2_with fail
  refine (hx_ c.life.toNat H3.o (congrArg (Value.int .u64) (bw_ Aa.o).1) (bw_ Aa.o).2 (by simp; omega)).mono ?_
  rintro e w4 ⟨rfl, s4, k4⟩
  have d4 : w4.cell? ⟨C, 0, none⟩ = some (.int .i64 c.op) := World.rowIs.cell s4.2.1 (i := 0) (by decide)
  rw [ho] at d4
  obtain ⟨K4, H4⟩ := kq2 (K3.o.trans (k4.mono (L' := [X, C]) (by simp))) s4
  clear s4 k4
  go_wp2_with fail
  go_end0
  exact ⟨rfl, H4.o.out_bad (by simp) (by cases aB_ c.key <;> simp), K4.o⟩
theorem hY_ (X C : Nat) (c : CmdR) (vk vv vt : Value) (w : World) (hs : CmdS c) (ho : c.op = 3) (h : PW w X C c vk vv vt) :
  Calls Tryz.prog 236 #[.pointer (some ⟨X, 0, none⟩)] w fun e w' => e = .returned (.tuple #[]) /\ PG w w' X C c vk vv vt (putS c.key ++ (putV c.val.length ++ c.val) ++ putG 0 c.tags ++ putV c.life.toNat ++ putV c.ver.toNat) (!aB_ c.key || !okG 0 a7_ c.tags || (c.life.toNat == 0)) := by
 have c0 := h.op.1
 have d0 := h.op.2
 have hsl := bu_ hs.key
 have hvv := ad_ (n := c.val.length) (by have := hs.val; omega)
 have hvl := hs.val
 have htt := cG_ (least := 0) hs.tags hs.ntags
 have hll := ad_ (bw_ hs).2
 obtain ⟨H0, HV, HT, Ab, Aa⟩ := kq5 h.st h.val h.tags h.keys hs
 clear h hs
 rcases ho with ho
 all_goals
  rw [ho] at d0
  go_enter Tryz.func236, Tryz.ntmps236
  go_wp2_with fail
  refine (ff_ 1 c.key H0.o (by decide) rfl Aa.o.key (by simp)).mono ?_
  rintro e w1 ⟨rfl, s1, k1⟩
  obtain ⟨K1, H1⟩ := kq2 ((Kept.refl _ _).trans (k1.mono (L' := [X, C]) (by simp))) s1
  clear s1 k1
  go_wp2_with fail
  refine (wg_val vv c.val H1.o rfl (HV.o.kept K1.o fun _ h => h) Aa.o.bytes (by omega) (by simp; omega)).mono ?_
  rintro e w2 ⟨rfl, s2, k2⟩
  obtain ⟨K2, H2⟩ := kq2 (K1.o.trans (k2.mono (L' := [X, C]) (by simp))) s2
  clear s2 k2
  go_wp2_with fail
  refine (j2_ 4 0 vt c.tags H2.o (by decide) rfl (HT.o.kept K2.o fun _ h => h) Aa.o.tags Aa.o.ntags (by decide) (by simp; omega)).mono ?_
  rintro e w3 ⟨rfl, s3, k3⟩
  obtain ⟨K3, H3⟩ := kq2 (K2.o.trans (k3.mono (L' := [X, C]) (by simp))) s3
  clear s3 k3
  go_wp2_with fail
  refine (hx_ c.life.toNat H3.o (congrArg (Value.int .u64) (bw_ Aa.o).1) (bw_ Aa.o).2 (by simp; omega)).mono ?_
  rintro e w4 ⟨rfl, s4, k4⟩
  have d4 : w4.cell? ⟨C, 0, none⟩ = some (.int .i64 c.op) := World.rowIs.cell s4.2.1 (i := 0) (by decide)
  rw [ho] at d4
  obtain ⟨K4, H4⟩ := kq2 (K3.o.trans (k4.mono (L' := [X, C]) (by simp))) s4
  clear s4 k4
  go_wp2_with fail
  refine (j0_ 6 c.ver.toNat H4.o (by decide) (congrArg (Value.int .u64) (eb_ Aa.o).1) (eb_ Aa.o).2 (by simp; omega)).mono ?_
  rintro e w5 ⟨rfl, s5, k5⟩
  obtain ⟨K5, H5⟩ := kq2 (K4.o.trans (k5.mono (L' := [X, C]) (by simp))) s5
  clear s5 k5
  go_wp2_with fail
  go_end0
  exact ⟨rfl, H5.o.out_bad (by simp) (by cases aB_ c.key <;> simp), K5.o⟩
theorem hZ_ {X C : Nat} {c : CmdR} {vk vv vt : Value} {w : World} (hs : CmdS c) (ho : 1 <= c.op /\ c.op <= 15) (h : PW w X C c vk vv vt) :
  Calls Tryz.prog 236 #[.pointer (some ⟨X, 0, none⟩)] w fun e w' => e = .returned (.tuple #[]) /\ PG w w' X C c vk vv vt (payG c) (!okC c) := by
 have hz := g5_ hs
 obtain ⟨op, key, keys, val, tags, life, ver, tag, pre, chi⟩ := c
 simp only at ho
 have hop : op = 1 ∨ op = 2 ∨ op = 3 ∨ op = 4 ∨ op = 5 ∨ op = 6 ∨ op = 7 ∨ op = 8 ∨ op = 9 ∨ op = 10 ∨ op = 11 ∨ op = 12 ∨ op = 13 ∨ op = 14 ∨ op = 15 := by omega
 rcases hop with rfl | rfl | rfl | rfl | rfl | rfl | rfl | rfl | rfl | rfl | rfl | rfl | rfl | rfl | rfl
 iterate 2
  ·exact (hW_ X C _ vk vv vt w hs (by simp) h).mono fun e w' ⟨e1, e2, e3⟩ => ⟨e1, e2.out_bad (by simp [payG]) (by simp only [hz]; simp [okC, Bool.not_and]), e3⟩
 ·exact (hY_ X C _ vk vv vt w hs (by simp) h).mono fun e w' ⟨e1, e2, e3⟩ => ⟨e1, e2.out_bad (by simp [payG]) (by simp only [hz]; simp [okC, Bool.not_and]), e3⟩
 ·exact (cZ_ X C _ vk vv vt w hs (by simp) h).mono fun e w' ⟨e1, e2, e3⟩ => ⟨e1, e2.out_bad (by simp [payG]) (by simp [okC]), e3⟩
 ·exact (gQ_ X C _ vk vv vt w hs (by simp) h).mono fun e w' ⟨e1, e2, e3⟩ => ⟨e1, e2.out_bad (by simp [payG]) (by simp [okC]), e3⟩
 ·exact (ge_ X C _ vk vv vt w hs (by simp) h).mono fun e w' ⟨e1, e2, e3⟩ => ⟨e1, e2.out_bad (by simp [payG]) (by simp only [hz]; simp [okC, Bool.not_and]), e3⟩
 ·exact (cZ_ X C _ vk vv vt w hs (by simp) h).mono fun e w' ⟨e1, e2, e3⟩ => ⟨e1, e2.out_bad (by simp [payG]) (by simp [okC]), e3⟩
 ·exact (eq_ X C _ vk vv vt w hs (by simp) h).mono fun e w' ⟨e1, e2, e3⟩ => ⟨e1, e2.out_bad (by simp [payG]) (by simp [okC]), e3⟩
 ·exact (eq_ X C _ vk vv vt w hs (by simp) h).mono fun e w' ⟨e1, e2, e3⟩ => ⟨e1, e2.out_bad (by simp [payG]) (by simp [okC]), e3⟩
 ·exact (hX_ X C _ vk vv vt w hs (by simp) h).mono fun e w' ⟨e1, e2, e3⟩ => ⟨e1, e2.out_bad (by simp [payG]) (by simp [okC]), e3⟩
 ·exact (er_ X C _ vk vv vt w hs (by simp) h).mono fun e w' ⟨e1, e2, e3⟩ => ⟨e1, e2.out_bad (by simp [payG]) (by simp [okC, Bool.not_and]), e3⟩
 ·exact (er_ X C _ vk vv vt w hs (by simp) h).mono fun e w' ⟨e1, e2, e3⟩ => ⟨e1, e2.out_bad (by simp [payG]) (by simp [okC, Bool.not_and]), e3⟩
 ·exact (cZ_ X C _ vk vv vt w hs (by simp) h).mono fun e w' ⟨e1, e2, e3⟩ => ⟨e1, e2.out_bad (by simp [payG]) (by simp [okC]), e3⟩
 ·exact (dL_ X C _ vk vv vt w (by simp) h).mono fun e w' ⟨e1, e2, e3⟩ => ⟨e1, e2.out_bad (by simp [payG]) (by simp [okC]), e3⟩
 exact (dL_ X C _ vk vv vt w (by simp) h).mono fun e w' ⟨e1, e2, e3⟩ => ⟨e1, e2.out_bad (by simp [payG]) (by simp [okC]), e3⟩
section
variable {w : World} {NL : List Nat} {X C R : Nat} {f : Nat -> Value} {rest : List Int} {bad : Bool}
theorem fv_ (k : Nat) (s u0 : ByteArray) (h : RS w NL X C R f (putS s ++ rest) bad) (hk : k < 10) (hf : f k = .string u0) (hs : s.size <= 3000) (hrl : rest.length <= 300000) :
  Calls Tryz.prog 307 #[.pointer (some ⟨X, 0, none⟩), .pointer (some ⟨C, k, none⟩), .func (.func 255) #[] #[]] w fun e w' => e = .returned (.tuple #[]) /\ RS w' NL X C R (updF f k (.string s)) rest (bad || !aB_ s) /\ Kept [X, C, R] w w' :=
 hJ_ k s u0 255 (h.bad (by simp [putS, aA]) rfl) hk hf do_ (iQ_ s) (by omega) (by omega)
theorem rg_tag (k : Nat) (s u0 : ByteArray) (h : RS w NL X C R f (putS s ++ rest) bad) (hk : k < 10) (hf : f k = .string u0) (hs : s.size <= 3000) (hrl : rest.length <= 300000) :
  Calls Tryz.prog 307 #[.pointer (some ⟨X, 0, none⟩), .pointer (some ⟨C, k, none⟩), .func (.func 193) #[] #[]] w fun e w' => e = .returned (.tuple #[]) /\ RS w' NL X C R (updF f k (.string s)) rest (bad || !a7_ s) /\ Kept [X, C, R] w w' :=
 hJ_ k s u0 193 (h.bad (by simp [putS, aA]) rfl) hk hf d6_ (gA_ s) (by omega) (by omega)
theorem rg_pre (k : Nat) (s u0 : ByteArray) (h : RS w NL X C R f (putS s ++ rest) bad) (hk : k < 10) (hf : f k = .string u0) (hs : s.size <= 3000) (hrl : rest.length <= 300000) :
  Calls Tryz.prog 307 #[.pointer (some ⟨X, 0, none⟩), .pointer (some ⟨C, k, none⟩), .func (.func 312) #[] #[]] w fun e w' => e = .returned (.tuple #[]) /\ RS w' NL X C R (updF f k (.string s)) rest (bad || !dX_ s) /\ Kept [X, C, R] w w' :=
 hJ_ k s u0 312 (h.bad (by simp [putS, aA]) rfl) hk hf iX_ (pre133 s) (by omega) (by omega)
theorem rg_val (val : List Int) (h : RS w NL X C R f (putV val.length ++ val ++ rest) bad) (hf : f 3 = .slice none 0 0) (hx : ∀ y ∈ val, 0 <= y /\ y < 256) (hl : val.length <= 65536) (hrl : rest.length <= 300000) :
  Calls Tryz.prog 308 #[.pointer (some ⟨X, 0, none⟩)] w fun e w' => e = .returned (.tuple #[]) /\ ∃ vv, RS w' NL X C R (updF f 3 vv) rest bad /\ SlX w' [X, C, R] vv val /\ Kept [X, C, R] w w' := by
 have h1 := gU_ val
 have h2 := fB_ hx
 have := rs_value (strOfNums val) (w := w) (rest := rest) (h.bad (by rw [h1, h2]; simp [aA]) rfl) hf (by omega) (by omega)
 rwa [h2] at this
theorem hK_ (m : Nat) (h : RS w NL X C R f (putV m ++ rest) bad) (hf : f 5 = .int .u64 0) (hm : m < 18446744073709551616) (hrl : rest.length <= 300000) :
  Calls Tryz.prog 310 #[.pointer (some ⟨X, 0, none⟩)] w fun e w' => e = .returned (.tuple #[]) /\ RS w' NL X C R (updF f 5 (.int .u64 m)) rest (bad || (m == 0)) /\ Kept [X, C, R] w w' :=
 rs_life m 0 h hf (by omega) hm (by omega)
theorem fu_ (k n least most N : Nat) (h : RS w NL X C R f (putV n ++ rest) bad) (hk : k < 10) (hf : f k = .slice none 0 0) (hno : n < least ∨ most < n) (hn : n <= 100) (hl : least <= 16) (hm : most <= 16) (hrl : rest.length <= 200000) :
  Calls Tryz.prog 309 #[.pointer (some ⟨X, 0, none⟩), .pointer (some ⟨C, k, none⟩), .int .i64 least, .int .i64 most, .func (.func N) #[] #[]] w fun e w' =>
   e = .returned (.tuple #[]) /\ RS w' NL X C R f rest true /\ Kept [X, C, R] w w' := by
 obtain ⟨hXl, hCl, hRl⟩ := h.lt
 have ck : w.cell? ⟨C, k, none⟩ = some (.slice none 0 0) := by rw [<- hf]; exact World.rowIs.cell h.2.2.2.1 hk
 have hb1 := below1 w (.cells #[.int .u64 0] 33)
 have hT : (w.alloc (.cells #[.int .u64 0] 33)).rowIs w.heap.size 33 1 (au_ [.int .u64 0]) := ar_ w [.int .u64 0] 33
 have hp := bs_ (m := n)
 have hNW := cp_ (k := 0) n 0 ((h.below hb1).more w (lR _) h (by rw [lA]; omega) hb1) hT (by omega) (by omega) (by omega) List.mem_cons_self (by decide) rfl (by omega) (by omega)
 obtain ⟨Ac, Af, Ae, Ad, Ah, Ag⟩ := kq6 hNW hb1 h.2.2.2.2.2.1 hno hl hm
 clear hNW hT hb1 hno h
 go_enter Tryz.func309, Tryz.ntmps309
 go_wp2_with fail
 refine Ac.o.mono ?_
 rintro e w2 ⟨rfl, hR2, hT2, hk2⟩
 have hR2 := hR2.less (fun k hk => mM _ hk) Ae.o
 have t20 : w2.cell? ⟨w.heap.size, 0, none⟩ = some (.int .u64 n) := World.rowIs.cell hT2 (i := 0) (by decide)
 have hkw : Kept [X, C, R] w w2 := ((Kept.of_below Af.o).trans (hk2.mono (by simp))).cut3
 have x23 : w2.cell? ⟨X, 3, none⟩ = some (.bool bad) := World.rowIs.cell hR2.2.2.2.2.1 (i := 3) (by decide)
 have fx23 : w2.frozen? ⟨X, 3, none⟩ = false := World.rowIs.frozen hR2.2.2.2.2.1 3
 obtain ⟨Aa, Ab⟩ := kq2 (hR2.setbad true) hkw
 clear hT2 hk2 hR2 hkw
 by_cases g1 : n < least
 ·go_wp2_with fail
  refine bodyPost_ret (results_none rfl _ _ _) rfl ?_
  exact ⟨rfl, Aa.o.1, Ab.o.trans (Aa.o.2.mono (by simp))⟩
 have g2 : most < n := by have := Ad.o; omega
 go_wp2_with fail
 refine bodyPost_ret (results_none rfl _ _ _) rfl ?_
 exact ⟨rfl, Aa.o.1, Ab.o.trans (Aa.o.2.mono (by simp))⟩
theorem rg_keys (k least : Nat) (strs : List ByteArray) (h : RS w NL X C R f (putG least strs ++ rest) bad) (hk : k < 10) (hf : f k = .slice none 0 0) (hs : ∀ s ∈ strs, s.size <= 3000) (hn : strs.length <= 100) (h1 : least <= 16) (hrl : rest.length <= 100000) :
  Calls Tryz.prog 309 #[.pointer (some ⟨X, 0, none⟩), .pointer (some ⟨C, k, none⟩), .int .i64 least, .int .i64 (16 : Nat), .func (.func 255) #[] #[]] w fun e w' => e = .returned (.tuple #[]) /\ ∃ vt, RS w' NL X C R (updF f k vt) rest (bad || !okG least aB_ strs) /\ (okG least aB_ strs = true -> SlN w' [X, C, R] vt strs) /\ Kept [X, C, R] w w' := by
 by_cases hr : least <= strs.length /\ strs.length <= 16
 ·rw [d1_ hr] at h
  rw [gg_ hr]
  exact (ki_ k strs.length least 16 255 strs aB_ (h.bad (by simp [hQ_, aA]) rfl) hk hf rfl do_ (fun s _ => iQ_ s) hs hr.1 hr.2 (by omega) (by omega)).mono fun e w' ⟨e1, vt, e2, e3, e4⟩ => ⟨e1, vt, e2, fun _ => e3, e4⟩
 rw [f9_ hr] at h
 rw [iM_ hr]
 refine (fu_ k strs.length least 16 255 h hk hf (by omega) hn h1 (by omega) (by omega)).mono fun e w' ⟨e1, e2, e3⟩ => ⟨e1, .slice none 0 0, (e2.bad rfl (by simp)).row fun i hi => ?_, by simp, e3⟩
 by_cases e : i = k
 ·subst e; simp [updF, hf]
 simp [updF, e]
theorem kk_ (k least : Nat) (strs : List ByteArray) (h : RS w NL X C R f (putG least strs ++ rest) bad) (hk : k < 10) (hf : f k = .slice none 0 0) (hs : ∀ s ∈ strs, s.size <= 3000) (hn : strs.length <= 100) (h1 : least <= 16) (hrl : rest.length <= 100000) :
  Calls Tryz.prog 309 #[.pointer (some ⟨X, 0, none⟩), .pointer (some ⟨C, k, none⟩), .int .i64 least, .int .i64 (16 : Nat), .func (.func 193) #[] #[]] w fun e w' => e = .returned (.tuple #[]) /\ ∃ vt, RS w' NL X C R (updF f k vt) rest (bad || !okG least a7_ strs) /\ (okG least a7_ strs = true -> SlN w' [X, C, R] vt strs) /\ Kept [X, C, R] w w' := by
 by_cases hr : least <= strs.length /\ strs.length <= 16
 ·rw [d1_ hr] at h
  rw [gg_ hr]
  exact (ki_ k strs.length least 16 193 strs a7_ (h.bad (by simp [hQ_, aA]) rfl) hk hf rfl d6_ (fun s _ => gA_ s) hs hr.1 hr.2 (by omega) (by omega)).mono fun e w' ⟨e1, vt, e2, e3, e4⟩ => ⟨e1, vt, e2, fun _ => e3, e4⟩
 rw [f9_ hr] at h
 rw [iM_ hr]
 refine (fu_ k strs.length least 16 193 h hk hf (by omega) hn h1 (by omega) (by omega)).mono fun e w' ⟨e1, e2, e3⟩ => ⟨e1, .slice none 0 0, (e2.bad rfl (by simp)).row fun i hi => ?_, by simp, e3⟩
 by_cases e : i = k
 ·subst e; simp [updF, hf]
 simp [updF, e]
end
def RG (w w' : World) (NL : List Nat) (X C R : Nat) (c : CmdR) (bad : Bool) : Prop := ∃ vk vv vt, RS w' NL X C R (au_ (cmdC c vk vv vt)) [] bad /\ (bad = false -> SlN w' [X, C, R] vk c.keys /\ SlX w' [X, C, R] vv c.val /\ SlN w' [X, C, R] vt c.tags) /\ Kept [X, C, R] w w'
theorem SlX.nil (w : World) (N : List Nat) : SlX w N (.slice none 0 0) [] := ⟨none, 0, rfl, Byt.nil _ _, by simp⟩
theorem RS.op {w : World} {NL : List Nat} {X C R : Nat} {f : Nat -> Value} {rest : List Int} {bad : Bool} {op : Int} (h : RS w NL X C R f rest bad) (hf : f 0 = .int .i64 op) : w.cell? ⟨X, 0, none⟩ = some (.pointer (some ⟨C, 0, none⟩)) /\ w.cell? ⟨C, 0, none⟩ = some (.int .i64 op) :=
 ⟨World.rowIs.cell h.2.2.2.2.1 (i := 0) (by decide), by rw [<- hf]; exact World.rowIs.cell h.2.2.2.1 (i := 0) (by decide)⟩
theorem cY_ (NL : List Nat) (X C R : Nat) (op : Int) (k : ByteArray) (ho : op = 4 ∨ op = 7 ∨ op = 13) (hk : k.size <= 3000) (w : World) (h : RS w NL X C R (au_ (cmdL op ⟨#[]⟩)) (putS k) false) :
  Calls Tryz.prog 236 #[.pointer (some ⟨X, 0, none⟩)] w fun e w' => e = .returned (.tuple #[]) /\ RG w w' NL X C R ⟨op, k, [], [], [], 0, 0, eB, eB, eB⟩ (!aB_ k) := by
 obtain ⟨c0, d0⟩ := h.op rfl
 have H := kp h
 clear h
 rcases ho with rfl | rfl | rfl
 all_goals
  go_enter Tryz.func236, Tryz.ntmps236
  go_wp2_with fail
  refine (fv_ (rest := []) 1 k ⟨#[]⟩ (H.o.bad (by simp) rfl) (by decide) rfl hk (by simp)).mono ?_
  rintro e w1 ⟨rfl, h1, k1⟩
  obtain ⟨H1, K1⟩ := kq2 h1 k1
  clear h1 k1
  go_wp2_with fail
  go_end0
  refine ⟨rfl, .slice none 0 0, .slice none 0 0, .slice none 0 0, (H1.o.bad rfl (by simp)).row fun i hi => ?_, fun hb => ⟨SlN.nil _ _, SlX.nil _ _, SlN.nil _ _⟩, K1.o⟩
  match i, hi with
  | 0, _ => rfl
  | 1, _ => rfl
  | 2, _ => rfl
  | 3, _ => rfl
  | 4, _ => rfl
  | 5, _ => rfl
  | 6, _ => rfl
  | 7, _ => rfl
  | 8, _ => rfl
  | 9, _ => rfl
theorem gP_ (NL : List Nat) (X C R : Nat) (op : Int) (keys : List ByteArray) (ho : op = 5) (hk : ∀ s ∈ keys, s.size <= 3000) (hn : keys.length <= 100) (w : World) (h : RS w NL X C R (au_ (cmdL op ⟨#[]⟩)) (putG 1 keys) false) :
  Calls Tryz.prog 236 #[.pointer (some ⟨X, 0, none⟩)] w fun e w' => e = .returned (.tuple #[]) /\ RG w w' NL X C R ⟨op, eB, keys, [], [], 0, 0, eB, eB, eB⟩ (!okG 1 aB_ keys) := by
 obtain ⟨c0, d0⟩ := h.op rfl
 have H := kp h
 clear h
 rcases ho with rfl
 all_goals
  go_enter Tryz.func236, Tryz.ntmps236
  go_wp2_with fail
  refine (rg_keys (rest := []) 2 1 keys (H.o.bad (by simp) rfl) (by decide) rfl hk hn (by decide) (by simp)).mono ?_
  rintro e w1 ⟨rfl, v1, h1, x1, k1⟩
  obtain ⟨H1, K1, X1⟩ := kq3 h1 k1 x1
  clear x1
  clear h1 k1
  go_wp2_with fail
  go_end0
  refine ⟨rfl, v1, .slice none 0 0, .slice none 0 0, (H1.o.bad rfl (by simp)).row fun i hi => ?_, fun hb => ⟨X1.o (by simpa using hb), SlX.nil _ _, SlN.nil _ _⟩, K1.o⟩
  match i, hi with
  | 0, _ => rfl
  | 1, _ => rfl
  | 2, _ => rfl
  | 3, _ => rfl
  | 4, _ => rfl
  | 5, _ => rfl
  | 6, _ => rfl
  | 7, _ => rfl
  | 8, _ => rfl
  | 9, _ => rfl
theorem gd_ (NL : List Nat) (X C R : Nat) (op : Int) (k : ByteArray) (life : Nat) (ho : op = 6) (hk : k.size <= 3000) (h1 : life < 18446744073709551616) (w : World) (h : RS w NL X C R (au_ (cmdL op ⟨#[]⟩)) (putS k ++ putV life) false) :
  Calls Tryz.prog 236 #[.pointer (some ⟨X, 0, none⟩)] w fun e w' => e = .returned (.tuple #[]) /\ RG w w' NL X C R ⟨op, k, [], [], [], life, 0, eB, eB, eB⟩ (!aB_ k || (life == 0)) := by
 obtain ⟨c0, d0⟩ := h.op rfl
 have hll := ad_ h1
 have H := kp h
 clear h
 rcases ho with rfl
 all_goals
  go_enter Tryz.func236, Tryz.ntmps236
  go_wp2_with fail
  refine (fv_ (rest := putV life) 1 k ⟨#[]⟩ H.o (by decide) rfl hk (by omega)).mono ?_
  rintro e w1 ⟨rfl, h1, k1⟩
  obtain ⟨H1, K1⟩ := kq2 h1 k1
  clear h1 k1
  go_wp2_with fail
  refine (hK_ (rest := []) life (H1.o.bad (by simp) rfl) rfl (by omega) (by simp)).mono ?_
  rintro e w2 ⟨rfl, h2, k2⟩
  obtain ⟨H2, K2⟩ := kq2 h2 (K1.o.trans k2)
  clear h2 k2
  go_wp2_with fail
  go_end0
  refine ⟨rfl, .slice none 0 0, .slice none 0 0, .slice none 0 0, (H2.o.bad rfl (by simp)).row fun i hi => ?_, fun hb => ⟨SlN.nil _ _, SlX.nil _ _, SlN.nil _ _⟩, K2.o⟩
  match i, hi with
  | 0, _ => rfl
  | 1, _ => rfl
  | 2, _ => rfl
  | 3, _ => rfl
  | 4, _ => rfl
  | 5, _ => rfl
  | 6, _ => rfl
  | 7, _ => rfl
  | 8, _ => rfl
  | 9, _ => rfl
theorem ep_ (NL : List Nat) (X C R : Nat) (op : Int) (t : ByteArray) (ho : op = 8 ∨ op = 9) (hk : t.size <= 3000) (w : World) (h : RS w NL X C R (au_ (cmdL op ⟨#[]⟩)) (putS t) false) :
  Calls Tryz.prog 236 #[.pointer (some ⟨X, 0, none⟩)] w fun e w' => e = .returned (.tuple #[]) /\ RG w w' NL X C R ⟨op, eB, [], [], [], 0, 0, t, eB, eB⟩ (!a7_ t) := by
 obtain ⟨c0, d0⟩ := h.op rfl
 have H := kp h
 clear h
 rcases ho with rfl | rfl
 all_goals
  go_enter Tryz.func236, Tryz.ntmps236
  go_wp2_with fail
  refine (rg_tag (rest := []) 7 t ⟨#[]⟩ (H.o.bad (by simp) rfl) (by decide) rfl hk (by simp)).mono ?_
  rintro e w1 ⟨rfl, h1, k1⟩
  obtain ⟨H1, K1⟩ := kq2 h1 k1
  clear h1 k1
  go_wp2_with fail
  go_end0
  refine ⟨rfl, .slice none 0 0, .slice none 0 0, .slice none 0 0, (H1.o.bad rfl (by simp)).row fun i hi => ?_, fun hb => ⟨SlN.nil _ _, SlX.nil _ _, SlN.nil _ _⟩, K1.o⟩
  match i, hi with
  | 0, _ => rfl
  | 1, _ => rfl
  | 2, _ => rfl
  | 3, _ => rfl
  | 4, _ => rfl
  | 5, _ => rfl
  | 6, _ => rfl
  | 7, _ => rfl
  | 8, _ => rfl
  | 9, _ => rfl
theorem hS_ (NL : List Nat) (X C R : Nat) (op : Int) (p : ByteArray) (ho : op = 10) (hk : p.size <= 3000) (w : World) (h : RS w NL X C R (au_ (cmdL op ⟨#[]⟩)) (putS p) false) :
  Calls Tryz.prog 236 #[.pointer (some ⟨X, 0, none⟩)] w fun e w' => e = .returned (.tuple #[]) /\ RG w w' NL X C R ⟨op, eB, [], [], [], 0, 0, eB, p, eB⟩ (!dX_ p) := by
 obtain ⟨c0, d0⟩ := h.op rfl
 have H := kp h
 clear h
 rcases ho with rfl
 all_goals
  go_enter Tryz.func236, Tryz.ntmps236
  go_wp2_with fail
  refine (rg_pre (rest := []) 8 p ⟨#[]⟩ (H.o.bad (by simp) rfl) (by decide) rfl hk (by simp)).mono ?_
  rintro e w1 ⟨rfl, h1, k1⟩
  obtain ⟨H1, K1⟩ := kq2 h1 k1
  clear h1 k1
  go_wp2_with fail
  go_end0
  refine ⟨rfl, .slice none 0 0, .slice none 0 0, .slice none 0 0, (H1.o.bad rfl (by simp)).row fun i hi => ?_, fun hb => ⟨SlN.nil _ _, SlX.nil _ _, SlN.nil _ _⟩, K1.o⟩
  match i, hi with
  | 0, _ => rfl
  | 1, _ => rfl
  | 2, _ => rfl
  | 3, _ => rfl
  | 4, _ => rfl
  | 5, _ => rfl
  | 6, _ => rfl
  | 7, _ => rfl
  | 8, _ => rfl
  | 9, _ => rfl
theorem hT_ (NL : List Nat) (X C R : Nat) (op : Int) (k ch : ByteArray) (ho : op = 11 ∨ op = 12) (hk : k.size <= 3000) (hc : ch.size <= 3000) (w : World) (h : RS w NL X C R (au_ (cmdL op ⟨#[]⟩)) (putS k ++ putS ch) false) :
  Calls Tryz.prog 236 #[.pointer (some ⟨X, 0, none⟩)] w fun e w' => e = .returned (.tuple #[]) /\ RG w w' NL X C R ⟨op, k, [], [], [], 0, 0, eB, eB, ch⟩ (!aB_ k || !aB_ ch) := by
 obtain ⟨c0, d0⟩ := h.op rfl
 have hcl := bu_ hc
 have H := kp h
 clear h
 rcases ho with rfl | rfl
 all_goals
  go_enter Tryz.func236, Tryz.ntmps236
  go_wp2_with fail
  refine (fv_ (rest := putS ch) 1 k ⟨#[]⟩ H.o (by decide) rfl hk (by omega)).mono ?_
  rintro e w1 ⟨rfl, h1, k1⟩
  obtain ⟨H1, K1⟩ := kq2 h1 k1
  clear h1 k1
  go_wp2_with fail
  refine (fv_ (rest := []) 9 ch ⟨#[]⟩ (H1.o.bad (by simp) rfl) (by decide) rfl hc (by simp)).mono ?_
  rintro e w2 ⟨rfl, h2, k2⟩
  obtain ⟨H2, K2⟩ := kq2 h2 (K1.o.trans k2)
  clear h2 k2
  go_wp2_with fail
  go_end0
  refine ⟨rfl, .slice none 0 0, .slice none 0 0, .slice none 0 0, (H2.o.bad rfl (by simp)).row fun i hi => ?_, fun hb => ⟨SlN.nil _ _, SlX.nil _ _, SlN.nil _ _⟩, K2.o⟩
  match i, hi with
  | 0, _ => rfl
  | 1, _ => rfl
  | 2, _ => rfl
  | 3, _ => rfl
  | 4, _ => rfl
  | 5, _ => rfl
  | 6, _ => rfl
  | 7, _ => rfl
  | 8, _ => rfl
  | 9, _ => rfl
theorem dK_ (NL : List Nat) (X C R : Nat) (op : Int) (ho : op = 14 ∨ op = 15) (w : World) (h : RS w NL X C R (au_ (cmdL op ⟨#[]⟩)) ([]) false) :
  Calls Tryz.prog 236 #[.pointer (some ⟨X, 0, none⟩)] w fun e w' => e = .returned (.tuple #[]) /\ RG w w' NL X C R ⟨op, eB, [], [], [], 0, 0, eB, eB, eB⟩ (false) := by
 obtain ⟨c0, d0⟩ := h.op rfl
 have H := kp h
 clear h
 rcases ho with rfl | rfl
 all_goals
  go_enter Tryz.func236, Tryz.ntmps236
  go_wp2_with fail
  go_end0
  refine ⟨rfl, .slice none 0 0, .slice none 0 0, .slice none 0 0, (H.o.bad rfl (by simp)).row fun i hi => ?_, fun hb => ⟨SlN.nil _ _, SlX.nil _ _, SlN.nil _ _⟩, Kept.refl _ _⟩
  match i, hi with
  | 0, _ => rfl
  | 1, _ => rfl
  | 2, _ => rfl
  | 3, _ => rfl
  | 4, _ => rfl
  | 5, _ => rfl
  | 6, _ => rfl
  | 7, _ => rfl
  | 8, _ => rfl
  | 9, _ => rfl
theorem hR_ (NL : List Nat) (X C R : Nat) (op : Int) (k : ByteArray) (val : List Int) (tags : List ByteArray) (life : Nat) (ho : op = 1 ∨ op = 2) (hk : k.size <= 3000) (hv : ∀ y ∈ val, 0 <= y /\ y < 256) (hvl : val.length <= 3000) (ht : ∀ s ∈ tags, s.size <= 3000) (htn : tags.length <= 100) (h1 : life < 18446744073709551616) (w : World) (h : RS w NL X C R (au_ (cmdL op ⟨#[]⟩)) (putS k ++ (putV val.length ++ val ++ (putG 0 tags ++ putV life))) false) :
  Calls Tryz.prog 236 #[.pointer (some ⟨X, 0, none⟩)] w fun e w' => e = .returned (.tuple #[]) /\ RG w w' NL X C R ⟨op, k, [], val, tags, life, 0, eB, eB, eB⟩ (!aB_ k || !okG 0 a7_ tags || (life == 0)) := by
 obtain ⟨c0, d0⟩ := h.op rfl
 have hll := ad_ h1
 have hvv := ad_ (n := val.length) (by omega)
 have htt := cG_ (least := 0) ht htn
 have H := kp h
 clear h
 rcases ho with rfl | rfl
 all_goals
  go_enter Tryz.func236, Tryz.ntmps236
  go_wp2_with fail
  refine (fv_ (rest := putV val.length ++ val ++ (putG 0 tags ++ (putV life))) 1 k ⟨#[]⟩ H.o (by decide) rfl hk (by simp only [lA]; omega)).mono ?_
  rintro e w1 ⟨rfl, h1, k1⟩
  obtain ⟨H1, K1⟩ := kq2 h1 k1
  clear h1 k1
  go_wp2_with fail
  refine (rg_val (rest := putG 0 tags ++ (putV life)) val H1.o rfl hv (by omega) (by simp only [lA]; omega)).mono ?_
  rintro e w2 ⟨rfl, v2, h2, x2, k2⟩
  obtain ⟨H2, K2, X2⟩ := kq3 h2 (K1.o.trans k2) x2
  clear x2
  clear h2 k2
  go_wp2_with fail
  refine (kk_ (rest := putV life) 4 0 tags H2.o (by decide) rfl ht htn (by decide) (by first | omega | (simp only [lA]; omega))).mono ?_
  rintro e w3 ⟨rfl, v3, h3, x3, k3⟩
  obtain ⟨H3, K3, X2, X3⟩ := kq4 h3 (K2.o.trans k3) (X2.o.kept k3 fun _ h => h) x3
  clear x3
  clear h3 k3
  go_wp2_with fail
  refine (hK_ (rest := []) life (H3.o.bad (by try simp) rfl) rfl (by omega) (by first | omega | simp)).mono ?_
  rintro e w4 ⟨rfl, h4, k4⟩
  obtain ⟨H4, K4, X2, X3⟩ := kq4 h4 (K3.o.trans k4) (X2.o.kept k4 fun _ h => h) (fun ok => (X3.o ok).kept k4 fun _ h => h)
  clear h4 k4
  have d4 := (H4.o.op rfl).2
  go_wp2_with fail
  go_end0
  refine ⟨rfl, .slice none 0 0, v2, v3, (H4.o.bad rfl (by simp)).row fun i hi => ?_, fun hb => ⟨SlN.nil _ _, X2.o, X3.o (by simp at hb; exact hb.1.2)⟩, K4.o⟩
  match i, hi with
  | 0, _ => rfl
  | 1, _ => rfl
  | 2, _ => rfl
  | 3, _ => rfl
  | 4, _ => rfl
  | 5, _ => rfl
  | 6, _ => rfl
  | 7, _ => rfl
  | 8, _ => rfl
  | 9, _ => rfl
theorem hU_ (NL : List Nat) (X C R : Nat) (op : Int) (ver : Nat) (k : ByteArray) (val : List Int) (tags : List ByteArray) (life : Nat) (ho : op = 3) (hk : k.size <= 3000) (hv : ∀ y ∈ val, 0 <= y /\ y < 256) (hvl : val.length <= 3000) (ht : ∀ s ∈ tags, s.size <= 3000) (htn : tags.length <= 100) (h1 : life < 18446744073709551616) (h2 : ver < 18446744073709551616) (w : World) (h : RS w NL X C R (au_ (cmdL op ⟨#[]⟩)) (putS k ++ (putV val.length ++ val ++ (putG 0 tags ++ (putV life ++ putV ver)))) false) :
  Calls Tryz.prog 236 #[.pointer (some ⟨X, 0, none⟩)] w fun e w' => e = .returned (.tuple #[]) /\ RG w w' NL X C R ⟨op, k, [], val, tags, life, ver, eB, eB, eB⟩ (!aB_ k || !okG 0 a7_ tags || (life == 0)) := by
 obtain ⟨c0, d0⟩ := h.op rfl
 have hll := ad_ h1
 have hvv := ad_ (n := val.length) (by omega)
 have htt := cG_ (least := 0) ht htn
 have hrr := ad_ h2
 have H := kp h
 clear h
 rcases ho with rfl
 all_goals
  go_enter Tryz.func236, Tryz.ntmps236
  go_wp2_with fail
  refine (fv_ (rest := putV val.length ++ val ++ (putG 0 tags ++ (putV life ++ putV ver))) 1 k ⟨#[]⟩ H.o (by decide) rfl hk (by simp only [lA]; omega)).mono ?_
  rintro e w1 ⟨rfl, h1, k1⟩
  obtain ⟨H1, K1⟩ := kq2 h1 k1
  clear h1 k1
  go_wp2_with fail
  refine (rg_val (rest := putG 0 tags ++ (putV life ++ putV ver)) val H1.o rfl hv (by omega) (by simp only [lA]; omega)).mono ?_
  rintro e w2 ⟨rfl, v2, h2, x2, k2⟩
  obtain ⟨H2, K2, X2⟩ := kq3 h2 (K1.o.trans k2) x2
  clear x2
  clear h2 k2
  go_wp2_with fail
  refine (kk_ (rest := putV life ++ putV ver) 4 0 tags H2.o (by decide) rfl ht htn (by decide) (by first | omega | (simp only [lA]; omega))).mono ?_
  rintro e w3 ⟨rfl, v3, h3, x3, k3⟩
  obtain ⟨H3, K3, X2, X3⟩ := kq4 h3 (K2.o.trans k3) (X2.o.kept k3 fun _ h => h) x3
  clear x3
  clear h3 k3
  go_wp2_with fail
  refine (hK_ (rest := putV ver) life (H3.o.bad (by try simp) rfl) rfl (by omega) (by first | omega | simp)).mono ?_
  rintro e w4 ⟨rfl, h4, k4⟩
  obtain ⟨H4, K4, X2, X3⟩ := kq4 h4 (K3.o.trans k4) (X2.o.kept k4 fun _ h => h) (fun ok => (X3.o ok).kept k4 fun _ h => h)
  clear h4 k4
  have d4 := (H4.o.op rfl).2
  go_wp2_with fail
  refine (kh_ (rest := []) 6 ver 0 (H4.o.bad (by simp) rfl) (by decide) rfl h2 (by simp)).mono ?_
  rintro e w5 ⟨rfl, h5, k5⟩
  obtain ⟨H5, K5, X2, X3⟩ := kq4 h5 (K4.o.trans k5) (X2.o.kept k5 fun _ h => h) (fun ok => (X3.o ok).kept k5 fun _ h => h)
  clear h5 k5
  go_wp2_with fail
  go_end0
  refine ⟨rfl, .slice none 0 0, v2, v3, (H5.o.bad rfl (by simp)).row fun i hi => ?_, fun hb => ⟨SlN.nil _ _, X2.o, X3.o (by simp at hb; exact hb.1.2)⟩, K5.o⟩
  match i, hi with
  | 0, _ => rfl
  | 1, _ => rfl
  | 2, _ => rfl
  | 3, _ => rfl
  | 4, _ => rfl
  | 5, _ => rfl
  | 6, _ => rfl
  | 7, _ => rfl
  | 8, _ => rfl
  | 9, _ => rfl
theorem RG.cong {w w' : World} {NL : List Nat} {X C R : Nat} {c c' : CmdR} {bad bad' : Bool} (h : RG w w' NL X C R c bad) (e : c = c') (e' : bad = bad') : RG w w' NL X C R c' bad' := by subst e; subst e'; exact h
theorem hV_ {NL : List Nat} {X C R : Nat} {c : CmdR} {w : World} (hs : CmdS c) (ho : 1 <= c.op /\ c.op <= 15) (h : RS w NL X C R (au_ (cmdL c.op ⟨#[]⟩)) (payG c) false) :
  Calls Tryz.prog 236 #[.pointer (some ⟨X, 0, none⟩)] w fun e w' => e = .returned (.tuple #[]) /\ RG w w' NL X C R (az_ c) (!okC c) := by
 have hz := g5_ hs
 have hl := bw_ hs
 have hv := eb_ hs
 obtain ⟨op, key, keys, val, tags, life, ver, tag, pre, chi⟩ := c
 simp only at ho hl hv hz
 have hop : op = 1 ∨ op = 2 ∨ op = 3 ∨ op = 4 ∨ op = 5 ∨ op = 6 ∨ op = 7 ∨ op = 8 ∨ op = 9 ∨ op = 10 ∨ op = 11 ∨ op = 12 ∨ op = 13 ∨ op = 14 ∨ op = 15 := by omega
 rcases hop with rfl | rfl | rfl | rfl | rfl | rfl | rfl | rfl | rfl | rfl | rfl | rfl | rfl | rfl | rfl
 iterate 2
  ·exact (hR_ NL X C R _ key val tags life.toNat (by simp) hs.key hs.bytes hs.val hs.tags hs.ntags hl.2 w (h.bad (by simp [payG]) rfl)).mono fun e w' ⟨e1, e2⟩ => ⟨e1, e2.cong (by simp [az_]; omega) (by simp only [hz]; simp [okC, Bool.not_and])⟩
 ·exact (hU_ NL X C R _ ver.toNat key val tags life.toNat (by simp) hs.key hs.bytes hs.val hs.tags hs.ntags hl.2 hv.2 w (h.bad (by simp [payG]) rfl)).mono fun e w' ⟨e1, e2⟩ => ⟨e1, e2.cong (by simp [az_]; omega) (by simp only [hz]; simp [okC, Bool.not_and])⟩
 ·exact (cY_ NL X C R _ key (by simp) hs.key w (h.bad (by simp [payG]) rfl)).mono fun e w' ⟨e1, e2⟩ => ⟨e1, e2.cong (by simp [az_]) (by simp [okC])⟩
 ·exact (gP_ NL X C R _ keys (by simp) hs.keys hs.nkeys w (h.bad (by simp [payG]) rfl)).mono fun e w' ⟨e1, e2⟩ => ⟨e1, e2.cong (by simp [az_]) (by simp [okC])⟩
 ·exact (gd_ NL X C R _ key life.toNat (by simp) hs.key hl.2 w (h.bad (by simp [payG]) rfl)).mono fun e w' ⟨e1, e2⟩ => ⟨e1, e2.cong (by simp [az_]; omega) (by simp only [hz]; simp [okC, Bool.not_and])⟩
 ·exact (cY_ NL X C R _ key (by simp) hs.key w (h.bad (by simp [payG]) rfl)).mono fun e w' ⟨e1, e2⟩ => ⟨e1, e2.cong (by simp [az_]) (by simp [okC])⟩
 ·exact (ep_ NL X C R _ tag (by simp) hs.tag w (h.bad (by simp [payG]) rfl)).mono fun e w' ⟨e1, e2⟩ => ⟨e1, e2.cong (by simp [az_]) (by simp [okC])⟩
 ·exact (ep_ NL X C R _ tag (by simp) hs.tag w (h.bad (by simp [payG]) rfl)).mono fun e w' ⟨e1, e2⟩ => ⟨e1, e2.cong (by simp [az_]) (by simp [okC])⟩
 ·exact (hS_ NL X C R _ pre (by simp) hs.pre w (h.bad (by simp [payG]) rfl)).mono fun e w' ⟨e1, e2⟩ => ⟨e1, e2.cong (by simp [az_]) (by simp [okC])⟩
 iterate 2
  ·exact (hT_ NL X C R _ key chi (by simp) hs.key hs.chi w (h.bad (by simp [payG]) rfl)).mono fun e w' ⟨e1, e2⟩ => ⟨e1, e2.cong (by simp [az_]) (by simp [okC, Bool.not_and])⟩
 ·exact (cY_ NL X C R _ key (by simp) hs.key w (h.bad (by simp [payG]) rfl)).mono fun e w' ⟨e1, e2⟩ => ⟨e1, e2.cong (by simp [az_]) (by simp [okC])⟩
 ·exact (dK_ NL X C R _ (by simp) w (h.bad (by simp [payG]) rfl)).mono fun e w' ⟨e1, e2⟩ => ⟨e1, e2.cong (by simp [az_]) (by simp [okC])⟩
 exact (dK_ NL X C R _ (by simp) w (h.bad (by simp [payG]) rfl)).mono fun e w' ⟨e1, e2⟩ => ⟨e1, e2.cong (by simp [az_]) (by simp [okC])⟩
end Go.Proofs.YtnjhpgmbfblgaaaGreat.Ord
