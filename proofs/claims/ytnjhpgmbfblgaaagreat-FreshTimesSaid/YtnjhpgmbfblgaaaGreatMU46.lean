/- The common beginning of the program's do: the command is copied, the closure made; Walk. -/
import Derived.Test.YtnjhpgmbfblgaaaGreatMU41
import Derived.Deep.DeepCutAuto
import Derived.Deep.CutBlock
import Derived.Test.YtnjhpgmbfblgaaaGreatMU30
set_option linter.unusedVariables false
set_option linter.unusedSimpArgs false
namespace Go.Proofs.YtnjhpgmbfblgaaaGreat.Ord
open Go.RowKit
set_option maxRecDepth 100000
set_option maxHeartbeats 8000000
def sndC : Code -> Code
 | .seq _ b => b
 | c => c
noncomputable def restD : Code := sndC (sndC (sndC (Tryz.f73.body.getD .ret)))
structure PreD (w wc : World) (lim J : Nat) (grace : Int) (ws : List WrR) (es : Edges) (s : JS) (x : CallR) (p : CallV) (LX LC : List Value) (X C FB : Nat) (op : Int) (key : ByteArray) (tim cnt : Int) : Prop where
 l2 : Hid (LX[17]? = some (.int .i64 x.resp.count) /\ LC[3]? = some p.vv /\ LC[4]? = some p.vt /\ LC[5]? = some (.int .u64 x.cmd.life) /\ LC[7]? = some (.string x.cmd.tag) /\ LC[8]? = some (.string x.cmd.pre) /\ LC[9]? = some (.string x.cmd.chi))
 fo : Hid (x.cmd.op = op)
 fk : Hid (x.cmd.key = key)
 ft : Hid (x.tim = tim)
 fn : Hid (x.resp.count = cnt)
 r1 : Hid (RowL wc X 52 LX)
 r2 : Hid (RowL wc C 36 LC)
 j : Hid (JI wc lim J grace ws es s)
 bl : Hid (Below lim w wc)
 fb : Hid (wc.cell? ⟨FB, 0, none⟩ = some (.func (.func 129) #[] #[.pointer (some ⟨C, 0, none⟩)]))
 ff : Hid (lim <= FB /\ FB < wc.heap.size)
 xw : Hid (CallOk wc lim x p)
 c0 : Hid (∀ W : World, RowL W C 36 LC -> W.cell? ⟨C, 0, none⟩ = some (.int .i64 op))
 c1 : Hid (∀ W : World, RowL W C 36 LC -> W.cell? ⟨C, 1, none⟩ = some (.string key))
 x22 : Hid (∀ W : World, RowL W X 52 LX -> W.cell? ⟨X, 22, none⟩ = some (.int .u64 tim))
theorem pre73 (w : World) (lim J : Nat) (grace : Int) (ws : List WrR) (es : Edges) (s : JS) (h : JI w lim J grace ws es s) (x : CallR) (p : CallV) (hx : CallOk w lim x p) (R : Ending -> World -> Prop)
  (hk : ∀ (LX LC : List Value) (X C FB : Nat) (op : Int) (key : ByteArray) (tim cnt : Int) (wc : World), PreD w wc lim J grace ws es s x p LX LC X C FB op key tim cnt -> ∀ u12 u13 u14 u15 u16 u17 u18 u19 u22 u23 u24 u25 u26 u27 u28 u29 u30 u31 u32 u33 u34 u35 u36 u37 u38 u39 u40 u41 u42 u43 u44 u45 u46 u47 u48 u49 u50 u51 u52 u53 u54 u55 u56 u57 u58 u59 u60 u61 u62 u63 u64 u65 u67 u68 u69 u70 u71 u72 u73 u74 u75 u76 u77 u78 u79 u80 u81 u82 u84 u85 u86 u87 u88 u89 u91 u92 u93 u94 u95 u97 u98 u99 u100 u102 u103 u104 u106 u107 u108 u109 u110 u111 u112 u113 u114 u115 u116 u117 u118 u120 u121 u122 u123 u125 u126 u127 u129 u130 u131 u132 u133 u134 u135 u136 u137 u138 u139 u140 u141 u142 u143 u144 u145 u146 u147 u148 u149 u150 u151 u152 u153 u154 : Value,
   Code.wp Tryz.prog restD (bodyPost Tryz.prog Tryz.f73 R) ⟨#[.pointer (some ⟨J, 0, none⟩), .agg LX.toArray, undef, .pointer (some ⟨X, 0, none⟩), .pointer (some ⟨C, 0, none⟩), .bool (cnt == 1), .pointer (some ⟨FB, 0, none⟩), undef, undef, undef, undef, undef, u12, u13, u14, u15, u16, u17, u18, u19, undef, undef, u22, u23, u24, u25, u26, u27, u28, u29, u30, u31, u32, u33, u34, u35, u36, u37, u38, u39, u40, u41, u42, u43, u44, u45, u46, u47, u48, u49, u50, u51, u52, u53, u54, u55, u56, u57, u58, u59, u60, u61, u62, u63, u64, u65, undef, u67, u68, u69, u70, u71, u72, u73, u74, u75, u76, u77, u78, u79, u80, u81, u82, undef, u84, u85, u86, u87, u88, u89, undef, u91, u92, u93, u94, u95, undef, u97, u98, u99, u100, undef, u102, u103, u104, undef, u106, u107, u108, u109, u110, u111, u112, u113, u114, u115, u116, u117, u118, undef, u120, u121, u122, u123, undef, u125, u126, u127, undef, u129, u130, u131, u132, u133, u134, u135, u136, u137, u138, u139, u140, u141, u142, u143, u144, u145, u146, u147, u148, u149, u150, u151, u152, u153, u154], []⟩ wc) :
  Calls Tryz.prog 73 #[ptV J, .agg (callC x p).toArray] w R := by
 have HK := kp hk
 clear hk
 obtain ⟨LX, hLX⟩ := eY (callC x p)
 obtain ⟨LC, hLC⟩ := eY (cmdC x.cmd p.vk p.vv p.vt)
 obtain ⟨Aa, HH, HX, Ad⟩ := kq4 (boxF hLX hLC rfl hx) h hx (boxL hLX hLC)
 have hlw := h.lw
 rw [hLX]
 clear hLX hLC h hx
 obtain ⟨op, hop⟩ := eY x.cmd.op
 obtain ⟨key, hkey⟩ := eY x.cmd.key
 obtain ⟨tim, htim⟩ := eY x.tim
 obtain ⟨cnt, hcnt⟩ := eY x.resp.count
 obtain ⟨Am, Ae, Ab, Af⟩ := kq4 hop hkey htim hcnt
 obtain ⟨X, hX⟩ := eY w.heap.size
 obtain ⟨W2, hW2⟩ := eX (w.alloc (.cells LX.toArray 52))
 have hX0 : RowL W2 X 52 LX := by rw [hW2, <- hX]; exact RowL.new w 52 LX
 have hb0 : Bw w W2 := by rw [hW2]; exact below1 w _
 have Ag := kp hb0
 clear hb0
 unfold ptV
 go_enter Tryz.func73, Tryz.ntmps73
 go_upto_region 1 with (fail)
 rw [<- hW2]
 try rw [hX]
 obtain ⟨V0, hV0⟩ := eX W2.drew
 have Al := kp (show Bw w V0 by rw [hV0]; exact ⟨Ag.o.os, Ag.o.tape, Ag.o.output, Ag.o.size, Ag.o.block⟩)
 have hX1 : RowL V0 X 52 LX := by rw [hV0]; exact hX0
 have Ap := kp hX
 clear hX hW2
 go_cut [4, 5] (fun s4 s5 W' => ∃ C, s4 = .pointer (some ⟨C, 0, none⟩) /\ s5 = .bool (cnt == 1) /\ RowL W' X 52 LX /\ RowL W' C 36 LC /\ Bw V0 W')
 case first =>
  obtain ⟨Ai, Ac, Av, Au, At⟩ := kq5 (fun (W : World) (h : RowL W X 52 LX) => (show CellsAt W ⟨X, 3, none⟩ LC /\ W.cell? ⟨X, 17, none⟩ = some (.int .i64 cnt) from ⟨(Aa.o.sx W X h).1, Af.o ▸ h.cell Ad.o.1⟩)) Aa.o.sz1 Aa.o.len.1 Aa.o.one.1 Aa.o.put.1
  refine wp_region_held_drew (S := fun W => CellsAt W ⟨X, 3, none⟩ LC /\ W.cell? ⟨X, 17, none⟩ = some (.int .i64 cnt)) (by kernel_rfl) (Ai.o _ hX0) (fun hS => ?_)
  rw [<- hV0] at hS ⊢
  have HS := kp hS
  clear hS hX0 hV0
  refine tp 0 rfl rfl HS.o ?_
  simp only [Act.put, z1, z2, z3]
  refine tq 1 (.agg LC.toArray) rfl (yields_aggU rfl 36 _ rfl ⟨X, 3, none⟩ rfl LC _ (fun W hW => hW.1) Tryz.underlying36 Ac.o) HS.o ?_
  simp only [Act.put, z1, z2, z3]
  refine tp 2 rfl rfl HS.o ?_
  simp only [Act.put, z1, z2, z3]
  refine tp 3 rfl rfl HS.o ?_
  simp only [Act.put, z1, z2, z3]
  refine tq 4 ?_ rfl (Or.inl ⟨by rfl, ?_⟩) HS.o ?_
  rotate_left 1
  ·intro w hw; have q := hw.2; go_simp; try with_reducible rfl
  simp only [Act.put, z1, z2, z3]
  refine tp 5 rfl rfl HS.o ?_
  simp only [Act.put, z1, z2, z3]
  refine oQ 6 rfl (fun KK hK => ?_)
  with_reducible refine aw_ rfl (w' := V0.alloc (.cells ([.int .i64 0, .string ⟨#[]⟩, .slice none 0 0, .slice none 0 0, .slice none 0 0, .int .u64 0, .int .u64 0, .string ⟨#[]⟩, .string ⟨#[]⟩, .string ⟨#[]⟩] : List Value).toArray 36)) (.pointer (some ⟨V0.heap.size, 0, none⟩)) ?_ ?_
  ·go_simp; try with_reducible rfl
  have hC := RowL.new V0 36 [.int .i64 0, .string ⟨#[]⟩, .slice none 0 0, .slice none 0 0, .slice none 0 0, .int .u64 0, .int .u64 0, .string ⟨#[]⟩, .string ⟨#[]⟩, .string ⟨#[]⟩]
  have hX := hX1.alloc (.cells ([.int .i64 0, .string ⟨#[]⟩, .slice none 0 0, .slice none 0 0, .slice none 0 0, .int .u64 0, .int .u64 0, .string ⟨#[]⟩, .string ⟨#[]⟩, .string ⟨#[]⟩] : List Value).toArray 36)
  have hB := (BR V0.heap.size V0).alloc (lR _) (.cells ([.int .i64 0, .string ⟨#[]⟩, .slice none 0 0, .slice none 0 0, .slice none 0 0, .int .u64 0, .int .u64 0, .string ⟨#[]⟩, .string ⟨#[]⟩, .string ⟨#[]⟩] : List Value).toArray 36)
  obtain ⟨C, hCe⟩ := eY V0.heap.size
  have hLC := kp (show V0.heap.size <= C from Nat.le_of_eq hCe)
  rw [hCe] at hC ⊢
  clear hCe
  obtain ⟨V1, hN⟩ := eX (V0.alloc (.cells ([.int .i64 0, .string ⟨#[]⟩, .slice none 0 0, .slice none 0 0, .slice none 0 0, .int .u64 0, .int .u64 0, .string ⟨#[]⟩, .string ⟨#[]⟩, .string ⟨#[]⟩] : List Value).toArray 36))
  rw [<- hN] at hC hX hB ⊢
  clear hN
  have hS := Ai.o _ hX
  refine hK.o _ _ hS (fun _ => ?_)
  clear hK KK HS
  have HS := kp hS
  clear hS
  try simp only [Act.put, z1, z2, z3]
  refine oQ 7 rfl (fun KK hK => ?_)
  with_reducible refine al_ rfl 36 _ _ rfl C 0 LC.toArray ?_ ?_ ?_ ?_ ?_ ?_
  ·rfl
  ·rfl
  ·exact hC.there (by rw [Nat.zero_add, zS, Av.o]; decide)
  ·rw [zS]; exact Ac.o
  ·exact Au.o
  have nC := hC.setCells (o := 0) LC
  rw [At.o] at nC
  have nX := hX.setCellsOther (vs := LC) (o := 0) (hX.ne hC (by decide))
  have nB := hB.trans (ai_ LC 0 V1 (B := V0.heap.size) (b := C) hLC.o)
  obtain ⟨V2, hN⟩ := eX (V1.setCells C 0 LC)
  rw [<- hN] at nC nX nB ⊢
  clear hN hX hB hC
  have hS := Ai.o _ nX
  refine hK.o _ _ hS (fun _ => ?_)
  clear hK KK HS
  have HS := kp hS
  clear hS
  try simp only [Act.put, z1, z2, z3]
  refine tp 8 rfl rfl HS.o ?_
  simp only [Act.put, z1, z2, z3]
  refine wpAnyH_done (by kernel_rfl) ?_ _
  go_wp2_with fail
  go_meet
  case rel => exact ⟨C, rfl, rfl, nX, nC, nB⟩
 case rest =>
 obtain ⟨C, rfl, rfl, hX2, hC2, hB2⟩ := hcut
 obtain ⟨Ak, An, Aj⟩ := kq3 hX2 hC2 (Al.o.trans (hB2.mono Al.o.size))
 clear hX2 hC2 hB2 hX0 hX1 hV0
 go_upto_region 2 with (fail)
 obtain ⟨wq, rfl⟩ := eX wc
 go_cut [6] (fun s6 W' => ∃ FB, s6 = .pointer (some ⟨FB, 0, none⟩) /\ W'.cell? ⟨FB, 0, none⟩ = some (.func (.func 129) #[] #[.pointer (some ⟨C, 0, none⟩)]) /\ wq.heap.size <= FB /\ FB < W'.heap.size /\ Bw wq W')
 case first =>
  go_wp2_with fail
  go_meet
  case rel => exact ⟨_, rfl, by simp, lR _, by simp, (BR _ wq).alloc (lR _) _⟩
 case rest =>
 obtain ⟨FB, rfl, hFB, hFl, hFs, hbw⟩ := hcut
 obtain ⟨As, Ar⟩ := kq2 (Ak.o.below hbw Ak.o.lt) (An.o.below hbw An.o.lt)
 have hbB : Bw w wc := Aj.o.trans (hbw.mono Aj.o.size)
 obtain ⟨Bb, HJ, Ao, Ax, Aw⟩ := kq5 hbB (HH.o.below hbB) (hbB.mono hlw) hFB (And.intro (show lim <= FB from lT (lT hlw Aj.o.size) hFl) hFs)
 obtain ⟨Aq, Ba, Az, Ay, Ah⟩ := kq5 (HX.o.below (Ao.o) (lR _)) (show lim <= X by rw [<- Ap.o]; exact hlw) (fun (W : World) (h : RowL W C 36 LC) => (show W.cell? ⟨C, 0, none⟩ = some (.int .i64 op) from Am.o ▸ h.cell Aa.o.c0)) (fun (W : World) (h : RowL W C 36 LC) => (show W.cell? ⟨C, 1, none⟩ = some (.string key) from Ae.o ▸ h.cell Aa.o.c1)) (fun (W : World) (h : RowL W X 52 LX) => (show W.cell? ⟨X, 22, none⟩ = some (.int .u64 tim) from Ab.o ▸ h.cell Aa.o.atX))
 clear hbw hFl hFs hbB hFB
 refine (by assumption : ∀ (a : Act) (w1 : World), Code.wp Tryz.prog restD (bodyPost Tryz.prog Tryz.f73 R) a w1 -> _) _ _ ?_
 exact HK.o LX LC X C FB op key tim cnt wc ⟨Ad, Am, Ae, Ab, Af, As, Ar, HJ, Ao, Ax, Aw, Aq, Az, Ay, Ah⟩ _ _ _ _ _ _ _ _ _ _ _ _ _ _ _ _ _ _ _ _ _ _ _ _ _ _ _ _ _ _ _ _ _ _ _ _ _ _ _ _ _ _ _ _ _ _ _ _ _ _ _ _ _ _ _ _ _ _ _ _ _ _ _ _ _ _ _ _ _ _ _ _ _ _ _ _ _ _ _ _ _ _ _ _ _ _ _ _ _ _ _ _ _ _ _ _ _ _ _ _ _ _ _ _ _ _ _ _ _ _ _ _ _ _ _ _ _ _ _ _ _ _ _ _ _ _ _ _ _ _ _ _
theorem do73z (w : World) (lim J : Nat) (grace : Int) (ws : List WrR) (es : Edges) (s : JS) (h : JI w lim J grace ws es s) (x : CallR) (p : CallV) (hx : CallOk w lim x p) (hg : CalG x ws es) (hcl : x.cmd.op ≠ 1 /\ x.cmd.op ≠ 2 /\ x.cmd.op ≠ 3 /\ x.cmd.op ≠ 6 /\ x.cmd.op ≠ 7 /\ x.cmd.op ≠ 8 /\ x.cmd.op ≠ 9 /\ x.cmd.op ≠ 10 /\ x.cmd.op ≠ 11 /\ x.cmd.op ≠ 12 /\ x.cmd.op ≠ 13 /\ x.cmd.op ≠ 14) :
  Calls Tryz.prog 73 #[ptV J, .agg (callC x p).toArray] w (dv_ w lim J grace ws es x) := by
 refine pre73 w lim J grace ws es s h x p hx _ ?_
 intro LX LC X C FB op key tim cnt wc hp
 obtain ⟨Ag, Ab, Ah, Ae, Ai, Af, Ad, HJ, Al, Ao, An, Am, Ak, Aj, Ac⟩ := hp
 intros
 conv => arg 2; dsimp only [restD, sndC, Tryz.f73, Option.getD]
 obtain ⟨HG, Aa⟩ := kq2 hg hcl
 clear h hx hg hcl
 have c0 := Ak.o _ Ad.o
 have c1 := Aj.o _ Ad.o
 have x22 := Ac.o _ Af.o
 have g1 : (op == 1) = false := by have := Aa.o; rw [Ab.o] at this; simp; omega
 have g2 : (op == 2) = false := by have := Aa.o; rw [Ab.o] at this; simp; omega
 have g3 : (op == 3) = false := by have := Aa.o; rw [Ab.o] at this; simp; omega
 have g6 : (op == 6) = false := by have := Aa.o; rw [Ab.o] at this; simp; omega
 have g7 : (op == 7) = false := by have := Aa.o; rw [Ab.o] at this; simp; omega
 have g8 : (op == 8) = false := by have := Aa.o; rw [Ab.o] at this; simp; omega
 have g9 : (op == 9) = false := by have := Aa.o; rw [Ab.o] at this; simp; omega
 have g10 : (op == 10) = false := by have := Aa.o; rw [Ab.o] at this; simp; omega
 have g11 : (op == 11) = false := by have := Aa.o; rw [Ab.o] at this; simp; omega
 have g12 : (op == 12) = false := by have := Aa.o; rw [Ab.o] at this; simp; omega
 have g13 : (op == 13) = false := by have := Aa.o; rw [Ab.o] at this; simp; omega
 have g14 : (op == 14) = false := by have := Aa.o; rw [Ab.o] at this; simp; omega
 have HP := kp (show DoS x ws es ws es from ⟨ws, by unfold MidS; have := Aa.o; rw [if_neg (by omega), if_neg (by omega), if_neg (by omega), if_neg (by omega)]; exact ⟨rfl, rfl⟩, (c9_ (by have := Aa.o; omega) ws).symm⟩)
 clear x22 c1
 go_wp2_with fail
 go_end0
 exact ⟨rfl, ws, es, s, HP.o, HJ.o, Al.o⟩
theorem do73i (w : World) (lim J : Nat) (grace : Int) (ws : List WrR) (es : Edges) (s : JS) (h : JI w lim J grace ws es s) (x : CallR) (p : CallV) (hx : CallOk w lim x p) (hg : CalG x ws es) (hcl : x.cmd.op = 7 ∨ x.cmd.op = 13) :
  Calls Tryz.prog 73 #[ptV J, .agg (callC x p).toArray] w (dv_ w lim J grace ws es x) := by
 refine pre73 w lim J grace ws es s h x p hx _ ?_
 intro LX LC X C FB op key tim cnt wc hp
 obtain ⟨Al, Aa, Ab, Aj, Ac, Ak, Ad, HJ, Ah, Aq, Ap, Ao, Ag, An, Ae⟩ := hp
 intros
 conv => arg 2; dsimp only [restD, sndC, Tryz.f73, Option.getD]
 obtain ⟨HG, Am⟩ := kq2 hg hcl
 clear h hx hg hcl
 have c0 := Ag.o _ Ad.o
 have c1 := An.o _ Ad.o
 have x22 := Ae.o _ Ak.o
 clear x22 c0
 rcases Am.o with h7 | h13
 ·obtain rfl : op = 7 := by rw [<- Aa.o]; exact h7
  clear h7
  have c0 := Ag.o _ Ad.o
  by_cases hc1 : cnt = 1
  ·subst hc1
   have H1 := kp (hq_ wc lim J grace ws es s HJ.o key)
   unfold ptV at H1
   go_wp2_with fail
   refine H1.o.mono ?_
   rintro e w5 ⟨rfl, T, hT, hj, hb⟩
   obtain ⟨HP, Af, Ai⟩ := kq3 (show DoS x ws es (a2_ T ws) es from ⟨a2_ T ws, by unfold MidS; rw [Aa.o, if_neg (by omega), if_neg (by omega), if_pos (.inl ⟨rfl, Ac.o⟩), Ab.o]; exact ⟨rfl, T, hT, rfl⟩, (c9_ (by rw [Aa.o]; omega) _).symm⟩) hj (Ah.o.trans hb)
   clear hj hb hT H1
   go_wp2_with fail
   go_end0
   exact ⟨rfl, _, es, s, HP.o, Af.o, Ai.o⟩
  have gc : (cnt == 1) = false := by simpa using hc1
  have HP := kp (show DoS x ws es ws es from ⟨ws, by unfold MidS; rw [Aa.o, if_neg (by omega), if_neg (by omega), if_neg (by rw [Ac.o]; intro h; rcases h with h | h; exact hc1 h.2; omega), if_neg (by omega)]; exact ⟨rfl, rfl⟩, (c9_ (by rw [Aa.o]; omega) ws).symm⟩)
  clear hc1 c1
  go_wp2_with fail
  go_end0
  exact ⟨rfl, ws, es, s, HP.o, HJ.o, Ah.o⟩
 obtain rfl : op = 13 := by rw [<- Aa.o]; exact h13
 clear h13
 have c0 := Ag.o _ Ad.o
 have H1 := kp (hq_ wc lim J grace ws es s HJ.o key)
 unfold ptV at H1
 go_wp2_with fail
 refine H1.o.mono ?_
 rintro e w5 ⟨rfl, T, hT, hj, hb⟩
 obtain ⟨HP, Af, Ai⟩ := kq3 (show DoS x ws es (a2_ T ws) es from ⟨a2_ T ws, by unfold MidS; rw [Aa.o, if_neg (by omega), if_neg (by omega), if_pos (.inr rfl), Ab.o]; exact ⟨rfl, T, hT, rfl⟩, (c9_ (by rw [Aa.o]; omega) _).symm⟩) hj (Ah.o.trans hb)
 clear hj hb hT H1
 go_wp2_with fail
 go_end0
 exact ⟨rfl, _, es, s, HP.o, Af.o, Ai.o⟩
theorem do73p (w : World) (lim J : Nat) (grace : Int) (ws : List WrR) (es : Edges) (s : JS) (h : JI w lim J grace ws es s) (x : CallR) (p : CallV) (hx : CallOk w lim x p) (hg : CalG x ws es) (hcl : x.cmd.op = 8 ∨ x.cmd.op = 10 ∨ x.cmd.op = 14) :
  Calls Tryz.prog 73 #[ptV J, .agg (callC x p).toArray] w (dv_ w lim J grace ws es x) := by
 refine pre73 w lim J grace ws es s h x p hx _ ?_
 intro LX LC X C FB op key tim cnt wc hp
 obtain ⟨Ac, Aa, Ai, Ag, Ak, Ah, Ab, HJ, An, Af, Aq, Ap, Ad, Am, Ae⟩ := hp
 intros
 conv => arg 2; dsimp only [restD, sndC, Tryz.f73, Option.getD]
 obtain ⟨HG, Al⟩ := kq2 hg hcl
 clear h hx hg hcl
 have c0 := Ad.o _ Ab.o
 have c1 := Am.o _ Ab.o
 have x22 := Ae.o _ Ah.o
 clear x22 c0
 rcases Al.o with hh | hh | hh
 focus
  obtain rfl : op = 8 := by rw [<- Aa.o]; exact hh
  clear hh
  have c0 := Ad.o _ Ab.o
  have H1 := kp (callsIn_wide.1 (kt_ wc lim J grace ws es s HJ.o C LC Ab.o x.cmd.tag Ac.o.2.2.2.2.1))
  unfold ptV at H1
  have hFBc := Af.o
  have hP : DoS x ws es (ws.map fun y => if y.gone = 0 then prgW (fun y => hasS y.tags x.cmd.tag) y else y) es := ⟨ws, by unfold MidS; rw [Aa.o, if_neg (by omega), if_neg (by omega), if_neg (by omega), if_neg (by omega)]; exact ⟨rfl, rfl⟩, (hA_ (fun y => hasS y.tags x.cmd.tag) (by rw [Aa.o]; omega) (fun y => by rw [Aa.o]; simp) ws).symm⟩
 rotate_left 1
 focus
  obtain rfl : op = 10 := by rw [<- Aa.o]; exact hh
  clear hh
  have c0 := Ad.o _ Ab.o
  have H1 := kp (callsIn_wide.1 (ks_ wc lim J grace ws es s HJ.o C LC Ab.o x.cmd.pre Ac.o.2.2.2.2.2.1))
  unfold ptV at H1
  have hFBc := Af.o
  have hP : DoS x ws es (ws.map fun y => if y.gone = 0 then prgW (fun y => hasP y.key x.cmd.pre) y else y) es := ⟨ws, by unfold MidS; rw [Aa.o, if_neg (by omega), if_neg (by omega), if_neg (by omega), if_neg (by omega)]; exact ⟨rfl, rfl⟩, (hA_ (fun y => hasP y.key x.cmd.pre) (by rw [Aa.o]; omega) (fun y => by rw [Aa.o]; simp) ws).symm⟩
 rotate_left 1
 focus
  obtain rfl : op = 14 := by rw [<- Aa.o]; exact hh
  clear hh
  have c0 := Ad.o _ Ab.o
  have H1 := kp (callsIn_wide.1 (kr_ wc lim J grace ws es s HJ.o C LC Ab.o))
  unfold ptV at H1
  have hFBc := Af.o
  have hP : DoS x ws es (ws.map fun y => if y.gone = 0 then prgW (fun _ => true) y else y) es := ⟨ws, by unfold MidS; rw [Aa.o, if_neg (by omega), if_neg (by omega), if_neg (by omega), if_neg (by omega)]; exact ⟨rfl, rfl⟩, (hA_ (fun _ => true) (by rw [Aa.o]; omega) (fun y => by rw [Aa.o]; simp) ws).symm⟩
 rotate_left 1
 rotate_right 3
 iterate 3
  ·have HP := kp hP
   clear hP c1
   go_wp2_with fail
   refine H1.o.mono ?_
   rintro e w5 ⟨⟨v, rfl⟩, hj, -, hk⟩
   obtain ⟨Aj, Ao⟩ := kq2 hj (An.o.trans (hk.below HJ.o.lw fun q hq => (HJ.o.p_ne.2.2.2.2.2.1 q hq).2))
   clear hj hk H1
   go_wp2_with fail
   go_end0
   exact ⟨rfl, _, es, s, HP.o, Aj.o, Ao.o⟩
def EntS (w : World) (b born : Nat) (k : ByteArray) (f : ByteArray -> Option Value) : Prop :=
 ∃ (es : Array MapEntry) (clock i : Nat) (e : MapEntry), w.heap[b]? = some (.map es clock) /\ KeysC es clock /\ es.toList[i]? = some e /\ e.key = .string k /\ e.born = born /\ ∀ k', k' ≠ k -> lkS es.toList k' = f k'
section
variable {P : Program} {w : World} {T K E : TypeId} {b : Nat} {f : ByteArray -> Option Value}
theorem MapS.run_entry (h : MapS w b f) (hT : P.underlying T = some (.map K E)) (hK : P.underlying K = some .string) (z : Value) (hz : (zeroValue E).run P w = .ok z w) (k : ByteArray) :
  ∃ v0 born w', (Instr.mapEntry T (.map (some b)) (.string k)).run P w = .ok (.tuple #[v0, .int .i64 (born : Nat)]) w' /\ Kept [b] w w' /\ EntS w' b born k f := by
 have hlt := h.lt
 obtain ⟨es, c, hb, hk, hf⟩ := h
 have h1 := Go.MapKept.run_getObj_map (P := P) hb
 have h2 : (Instr.checkKey false 10000 K (.string k)).run P w = .ok () w := Go.MapKept.run_checkKey hK (by simp [Go.MapKept.IsKey]) false 9999
 rcases ck_ k es.toList 0 hk.1.1 with ⟨g1, g2, g3⟩ | ⟨j, e, g1, g2, g3, g4⟩
 ·have h3 := Go.MapKept.run_findKey (P := P) (w := w) hK g3
  have h4 := Go.MapKept.run_setObj_map (P := P) (.map (es.push { key := .string k, val := z, born := c }) (c + 1)) hb
  refine ⟨z, c, World.withMap w b (es.push { key := .string k, val := z, born := c }) (c + 1), ?_, a6_ _ _ _ _, _, _, es.size, { key := .string k, val := z, born := c }, a3_ hlt _ _, ⟨⟨?_, ?_⟩, Go.MapKept.stamped_push hk.2 g2⟩, ?_, rfl, rfl, fun k' hk' => ?_⟩
  ·unfold Instr.mapEntry
   rw [Sem.run_bind, run_underlying hT]
   simp [Sem.run_bind, h1, h2, h3, h4, hz, World.withMap, goInt]
  ·intro x hx
   rw [Array.toList_push] at hx
   rcases List.mem_append.1 hx with hx | hx
   ·exact hk.1.1 x hx
   simp at hx; subst hx; exact ⟨k, rfl⟩
  ·rw [Array.toList_push, List.pairwise_append]
   exact ⟨hk.1.2, by simp, fun x hx y hy => by simp at hy; subst hy; exact g2 x hx⟩
  ·simp
  rw [Array.toList_push, iP_ es.toList _ k k' rfl g2, if_neg hk', hf k']
 have h3 := Go.MapKept.run_findKey (P := P) (w := w) hK g4
 have h4 := Go.MapKept.run_setObj_map (P := P) (.map (es.modify j fun e => { e with key := .string k }) c) hb
 have hej : es[j]? = some e := by simpa using g1
 have h5 : (es[j]?.map (·.key)).getD (.string k) = .string k := by
  rw [hej]
  simp [g2]
 have h6 := Go.MapKept.run_keyThatStays (P := P) (w := w) (d := .string) (k := .string k) (by simp [Go.MapKept.IsKey])
 have h7 : ((es[j]?.map fun x => (x.born : Int))).getD 0 = (e.born : Int) := by rw [hej]; rfl
 have hm : (es.modify j fun e => { e with key := .string k }) = es := by
  apply Array.ext_getElem?
  intro q
  rw [Array.getElem?_modify]
  by_cases hq : j = q
  ·subst hq
   rw [if_pos rfl, hej]
   simp only [Option.map_some]
   rw [<- g2]
  rw [if_neg hq]
 rw [hm] at h4
 refine ⟨e.val, e.born, World.withMap w b es c, ?_, a6_ _ _ _ _, es, c, j, e, a3_ hlt _ _, hk, g1, g2, rfl, fun k' _ => hf k'⟩
 unfold Instr.mapEntry
 rw [Sem.run_bind, run_underlying hT]
 simp only [Result.andThen_ok, Sem.run_bind, h1, h2, h3, Nat.zero_add, h5, h6, h7, hm, h4]
 rfl
theorem EntS.run_store {born : Nat} {k : ByteArray} (h : EntS w b born k f) (v : Value) :
  ∃ w', (Instr.entryStore T (.map (some b)) (.int .i64 (born : Nat)) v).run P w = .ok () w' /\ Kept [b] w w' /\ MapS w' b fun k' => if k' = k then some v else f k' := by
 obtain ⟨es, c, i, e, hb, hk, hi, hek, heb, hf⟩ := h
 have hlt := (Array.getElem?_eq_some_iff.1 hb).1
 have hst := (Go.MapKept.stamped_iff es c).1 hk.2
 have hil := (gS.1 hi).1
 have h1 := Go.MapKept.run_getObj_map (P := P) hb
 have hfi : es.findIdx? (fun e => (e.born : Int) == (born : Int)) = some i := by
  rw [Array.findIdx?_eq_some_iff_getElem]
  refine ⟨by simpa using hil, ?_, fun j hj => ?_⟩
  ·have : es[i]'(by simpa using hil) = e := by
    have := (gS.1 hi).2
    simpa using this
   rw [this, heb]
   simp
  intro hb2
  have hjl : j < es.toList.length := by simpa using (Nat.lt_trans hj (by simpa using hil))
  have e1 : (es.toList.map (·.born))[j]? = some born := by
   rw [gM, gE hjl]
   simp at hb2
   simp
   exact_mod_cast hb2
  have e2 : (es.toList.map (·.born))[i]? = some born := by rw [gM, hi]; simp [heb]
  have := (List.getElem?_inj (by simpa using hjl) hst.2.1).1 (e1.trans e2.symm)
  omega
 have h4 := Go.MapKept.run_setObj_map (P := P) (.map (es.modify i fun e => { e with val := v }) c) hb
 have hej : es[i]? = some e := by simpa using hi
 have hm : (es.modify i fun e => { e with val := v }) = es.modify i fun e => { e with key := .string k, val := v } := by
  apply Array.ext_getElem?
  intro q
  rw [Array.getElem?_modify, Array.getElem?_modify]
  by_cases hq : i = q
  ·subst hq
   rw [if_pos rfl, if_pos rfl, hej]
   simp only [Option.map_some]
   rw [<- hek]
  rw [if_neg hq, if_neg hq]
 have e1 : (es.modify i fun e => { e with key := .string k, val := v }).toList = es.toList.modify i fun e => { e with key := .string k, val := v } := by simp
 rw [hm] at h4
 refine ⟨World.withMap w b (es.modify i fun e => { e with key := .string k, val := v }) c, ?_, a6_ _ _ _ _, _, _, a3_ hlt _ _, ⟨?_, Go.MapKept.stamped_modify hk.2 i _ (fun e _ => rfl) fun e' he' hj' => ?_⟩, fun k' => ?_⟩
 ·unfold Instr.entryStore
  simp only [Sem.run_bind, h1, Result.andThen_ok, asInt, asIntOf, Sem.run_pure, hfi, hm, h4]
  rfl
 ·rw [e1]
  exact ha_ (dO_ _ _ _ _ _ hi hek) hk.1
 ·rw [hej] at hj'
  cases hj'
  exact hek.symm
 rw [e1, fI_ es.toList i e v k k' hk.1.2 hi hek]
 by_cases q : k' = k
 ·rw [if_pos q]
  exact (if_pos q).symm
 rw [if_neg q, hf k' q]
 exact (if_neg q).symm
end
section
variable {P : Program}
theorem e9_ {w : World} {ops : Array Oper} {o : Oper} {a : Act} {K : Act -> World -> Prop} {Q : Exit -> Act -> World -> Prop} {E : Prop} (hgd : o.guard = none) (T kT eT : TypeId) (x y : Operand) (ho : o.op = .mapEntry T x y)
  (b : Nat) (k : ByteArray) (hx : a.eval x = .map (some b)) (hy : a.eval y = .string k) (f : ByteArray -> Option Value) (hm : MapS w b f)
  (hT : P.underlying T = some (.map kT eT)) (hK : P.underlying kT = some .string) (z : Value) (hz : (zeroValue eT).run P w = .ok z w)
  (h : ∀ v0 (born : Nat) w', Kept [b] w w' -> EntS w' b born k f -> K (a.put o.dst (.tuple #[v0, .int .i64 born])) w') :
  if Region.wanted o (yielded ops a.tmps) = true then Oper.wp P o a w K Q else E := by
 rw [if_pos (show Region.wanted o (yielded ops a.tmps) = true by simp [Region.wanted, hgd])]
 obtain ⟨v0, born, w', h1, h2, h3⟩ := hm.run_entry (P := P) hT hK z hz k
 unfold Oper.wp execOp
 simp only [ho, hx, hy, Sem.run_bind, Sem.run_pure, Result.andThen_ok, h1]
 exact h v0 born w' h2 h3
theorem dV_ {w : World} {ops : Array Oper} {o : Oper} {a : Act} {K : Act -> World -> Prop} {Q : Exit -> Act -> World -> Prop} {E : Prop} (hgd : o.guard = none) (T : TypeId) (x y z : Operand) (ho : o.op = .entryStore T x y z)
  (b born : Nat) (k : ByteArray) (v : Value) (hx : a.eval x = .map (some b)) (hy : a.eval y = .int .i64 (born : Nat)) (hz : a.eval z = v) (f : ByteArray -> Option Value) (hm : EntS w b born k f)
  (h : ∀ w', Kept [b] w w' -> MapS w' b (fun k' => if k' = k then some v else f k') -> K (a.put o.dst undef) w') :
  if Region.wanted o (yielded ops a.tmps) = true then Oper.wp P o a w K Q else E := by
 rw [if_pos (show Region.wanted o (yielded ops a.tmps) = true by simp [Region.wanted, hgd])]
 obtain ⟨w', h1, h2, h3⟩ := hm.run_store (P := P) (T := T) v
 unfold Oper.wp execOp
 simp only [ho, hx, hy, hz, Sem.run_bind, Sem.run_pure, Result.andThen_ok, h1]
 exact h w' h2 h3
end
end Go.Proofs.YtnjhpgmbfblgaaaGreat.Ord
