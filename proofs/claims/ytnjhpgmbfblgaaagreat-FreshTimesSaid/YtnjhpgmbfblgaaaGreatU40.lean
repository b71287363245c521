/- Walk of the program's. -/
import Derived.Test.YtnjhpgmbfblgaaaGreatMU30
import Derived.Test.YtnjhpgmbfblgaaaGreatMU37
import Derived.Deep.DeepCutAuto
import Derived.Deep.CutBlock
set_option linter.unusedVariables false
set_option linter.unusedSimpArgs false
namespace Go.Proofs.YtnjhpgmbfblgaaaGreat.Ord
open Go.RowKit
set_option maxRecDepth 100000
set_option maxHeartbeats 8000000
def CapI (x : CallR) (p : CallV) : Prop := ∃ A c, p.vi = .slice A x.resp.items.length c /\ x.resp.items.length <= c
theorem cells4 {w : World} {b off : Nat} {v0 v1 v2 v3 : Value} (h : CellsAt w ⟨b, off, none⟩ [v0, v1, v2, v3]) :
  w.cell? ⟨b, off, none⟩ = some v0 /\ w.cell? ⟨b, off + 1, none⟩ = some v1 /\ w.cell? ⟨b, off + 2, none⟩ = some v2 /\ w.cell? ⟨b, off + 3, none⟩ = some v3 := by
 have k : ∀ j v, [v0, v1, v2, v3][j]? = some v -> w.cell? ⟨b, off + j, none⟩ = some v := fun j v hj => by
  have := h j v hj
  rwa [Addr.add_mid] at this
 exact ⟨k 0 _ rfl, k 1 _ rfl, k 2 _ rfl, k 3 _ rfl⟩
theorem RdJ.mono {w : World} {B B' J : Nat} {grace : Int} {ws : List WrR} {ps : List Nat} (h : RdJ w B J grace ws ps) (hB : B <= B') : RdJ w B' J grace ws ps :=
 ⟨lL h.ltJ hB, h.isT, h.few, h.len, h.grc, by
  obtain ⟨A, c, h1, h2⟩ := h.row
  exact ⟨A, c, h1, h2.mono hB⟩, fun i x hi => by
  obtain ⟨h0, p, vv, vt, h1, h2, h3, h4, ts, h5⟩ := h.wrs i x hi
  exact ⟨h0, p, vv, vt, h1, lL h2 hB, h3, h4.mono hB, ts, h5.mono hB⟩⟩
theorem LastM.mono {w : World} {B B' J : Nat} {ws : List WrR} {ps : List Nat} (h : LastM w B J ws ps) (hB : B <= B') : LastM w B' J ws ps := by
 obtain ⟨M, h1, h2, h3⟩ := h.map
 exact ⟨M, lL h1 hB, h2, h3⟩
theorem fault72 (J : Nat) (grace : Int) (ws : List WrR) (ps : List Nat) (x : CallR) (p : CallV) (w : World) (hK : RdJ w w.heap.size J grace ws ps) (hL : LastM w w.heap.size J ws ps) (hx : CallOk w w.heap.size x p) (hg : FltG x ws) (hcap : CapI x p) :
  Calls Tryz.prog 72 #[ptV J, .agg (callC x p).toArray] w (RetB (.int .i64 (aH_ grace ws x)) w) := by
 obtain ⟨m, hm⟩ := eY (aH_ grace ws x)
 rw [hm]
 obtain ⟨LX, hLX⟩ := eY (callC x p)
 obtain ⟨LC, hLC⟩ := eY (cmdC x.cmd p.vk p.vv p.vt)
 obtain ⟨LR, hLR⟩ := eY (respC x.resp p.vi p.vn)
 obtain ⟨Ac, HM, HK, Bg, HX, HG, Ba⟩ := kq7 (boxF hLX hLC hLR hx) hm hK hL hx hg hcap
 rw [hLX]
 clear hLX hLC hLR hm hK hx hg hcap hL
 obtain ⟨X, hX⟩ := eY w.heap.size
 obtain ⟨W2, hW2⟩ := eX (w.alloc (.cells LX.toArray 52))
 have hX0 : RowL W2 X 52 LX := by rw [hW2, <- hX]; exact RowL.new w 52 LX
 have hb0 : Bw w W2 := by rw [hW2]; exact below1 w _
 have Ar := kp hb0
 clear hb0
 unfold ptV
 go_enter Tryz.func72, Tryz.ntmps72
 go_upto_region 1 with (fail)
 rw [<- hW2]
 try rw [hX]
 obtain ⟨V0, hV0⟩ := eX W2.drew
 have Bd := kp (show Bw w V0 by rw [hV0]; exact ⟨Ar.o.os, Ar.o.tape, Ar.o.output, Ar.o.size, Ar.o.block⟩)
 have hX1 : RowL V0 X 52 LX := by rw [hV0]; exact hX0
 have Bt := kp hX
 clear hX hW2
 go_cut [5, 6] (fun s5 s6 W' => ∃ C R, s5 = .pointer (some ⟨C, 0, none⟩) /\ s6 = .pointer (some ⟨R, 0, none⟩) /\ RowL W' X 52 LX /\ RowL W' C 36 LC /\ RowL W' R 40 LR /\ Bw V0 W')
 case first =>
  obtain ⟨Ad, Aj, Ah, Au, At, As⟩ := kq6 Ac.o.sx Ac.o.sz1 Ac.o.sz2 Ac.o.len Ac.o.one Ac.o.put
  refine wp_region_held_drew (S := fun W => CellsAt W ⟨X, 3, none⟩ LC /\ CellsAt W ⟨X, 13, none⟩ LR) (by kernel_rfl) (Ad.o _ _ hX0) (fun hS => ?_)
  rw [<- hV0] at hS ⊢
  have hX := hX1
  have hB := BR V0.heap.size V0
  have HS := kp hS
  clear hS hX0 hX1 hV0
  refine tp 0 rfl rfl HS.o ?_
  simp only [Act.put, z1, z2, z3]
  refine tq 1 (.agg LC.toArray) rfl (yields_aggU rfl 36 _ rfl ⟨X, 3, none⟩ rfl LC _ (fun W hW => hW.1) Tryz.underlying36 Aj.o) HS.o ?_
  simp only [Act.put, z1, z2, z3]
  refine tp 2 rfl rfl HS.o ?_
  simp only [Act.put, z1, z2, z3]
  refine tq 3 (.agg LR.toArray) rfl (yields_aggU rfl 40 _ rfl ⟨X, 13, none⟩ rfl LR _ (fun W hW => hW.2) Tryz.underlying40 Ah.o) HS.o ?_
  simp only [Act.put, z1, z2, z3]
  refine wpAnyH_ready (rs := [4, 5]) (by kernel_rfl) (by simp) ?_
  refine aQ rfl (fun KK hK => ?_) (aQ rfl (fun KK hK => ?_) (AllReadyH.nil))
  ·
   with_reducible refine aw_ rfl (w' := V0.alloc (.cells ([.int .i64 0, .string ⟨#[]⟩, .slice none 0 0, .slice none 0 0, .slice none 0 0, .int .u64 0, .int .u64 0, .string ⟨#[]⟩, .string ⟨#[]⟩, .string ⟨#[]⟩] : List Value).toArray 36)) (.pointer (some ⟨V0.heap.size, 0, none⟩)) ?_ ?_
   ·go_simp; try with_reducible rfl
   have nC := RowL.new V0 36 [.int .i64 0, .string ⟨#[]⟩, .slice none 0 0, .slice none 0 0, .slice none 0 0, .int .u64 0, .int .u64 0, .string ⟨#[]⟩, .string ⟨#[]⟩, .string ⟨#[]⟩]
   have nX := hX.alloc (.cells ([.int .i64 0, .string ⟨#[]⟩, .slice none 0 0, .slice none 0 0, .slice none 0 0, .int .u64 0, .int .u64 0, .string ⟨#[]⟩, .string ⟨#[]⟩, .string ⟨#[]⟩] : List Value).toArray 36)
   have nB := hB.alloc hB.size (.cells ([.int .i64 0, .string ⟨#[]⟩, .slice none 0 0, .slice none 0 0, .slice none 0 0, .int .u64 0, .int .u64 0, .string ⟨#[]⟩, .string ⟨#[]⟩, .string ⟨#[]⟩] : List Value).toArray 36)
   obtain ⟨C, hCe⟩ := eY V0.heap.size
   have hLC := kp (show V0.heap.size <= C from hCe ▸ hB.size)
   rw [hCe] at nC ⊢
   clear hCe
   obtain ⟨V1, hN⟩ := eX (V0.alloc (.cells ([.int .i64 0, .string ⟨#[]⟩, .slice none 0 0, .slice none 0 0, .slice none 0 0, .int .u64 0, .int .u64 0, .string ⟨#[]⟩, .string ⟨#[]⟩, .string ⟨#[]⟩] : List Value).toArray 36))
   rw [<- hN] at nC nX nB ⊢
   clear hN hX hB
   have hX := nX
   have hB := nB
   have hC := nC
   clear nX nB nC
   have hS := Ad.o _ _ hX
   refine hK.o _ _ hS (fun _ => ?_)
   clear hK KK HS
   have HS := kp hS
   clear hS
   try simp only [Act.put, z1, z2, z3]
   refine oQ 5 rfl (fun KK hK => ?_)
   with_reducible refine aw_ rfl (w' := V1.alloc (.cells ([.int .i64 0, .int .i64 0, .slice none 0 0, .int .u64 0, .int .i64 0, .slice none 0 0] : List Value).toArray 40)) (.pointer (some ⟨V1.heap.size, 0, none⟩)) ?_ ?_
   ·go_simp; try with_reducible rfl
   have nR := RowL.new V1 40 [.int .i64 0, .int .i64 0, .slice none 0 0, .int .u64 0, .int .i64 0, .slice none 0 0]
   have nX := hX.alloc (.cells ([.int .i64 0, .int .i64 0, .slice none 0 0, .int .u64 0, .int .i64 0, .slice none 0 0] : List Value).toArray 40)
   have nB := hB.alloc hB.size (.cells ([.int .i64 0, .int .i64 0, .slice none 0 0, .int .u64 0, .int .i64 0, .slice none 0 0] : List Value).toArray 40)
   have nC := hC.alloc (.cells ([.int .i64 0, .int .i64 0, .slice none 0 0, .int .u64 0, .int .i64 0, .slice none 0 0] : List Value).toArray 40)
   obtain ⟨R, hRe⟩ := eY V1.heap.size
   have hLR := kp (show V0.heap.size <= R from hRe ▸ hB.size)
   rw [hRe] at nR ⊢
   clear hRe
   obtain ⟨V2, hN⟩ := eX (V1.alloc (.cells ([.int .i64 0, .int .i64 0, .slice none 0 0, .int .u64 0, .int .i64 0, .slice none 0 0] : List Value).toArray 40))
   rw [<- hN] at nR nX nB nC ⊢
   clear hN hX hB hC
   have hX := nX
   have hB := nB
   have hR := nR
   have hC := nC
   clear nX nB nR nC
   have hS := Ad.o _ _ hX
   refine hK.o _ _ hS (fun _ => ?_)
   clear hK KK HS
   have HS := kp hS
   clear hS
   try simp only [Act.put, z1, z2, z3]
   refine oQ 6 rfl (fun KK hK => ?_)
   with_reducible refine al_ rfl 36 _ _ rfl C 0 LC.toArray ?_ ?_ ?_ ?_ ?_ ?_
   ·rfl
   ·rfl
   ·exact hC.there (by rw [Nat.zero_add, zS, Au.o.1]; decide)
   ·rw [zS]; exact Aj.o
   ·exact At.o.1
   have nC := hC.setCells (o := 0) LC
   rw [As.o.1] at nC
   have nX := hX.setCellsOther (vs := LC) (o := 0) (hX.ne hC (by decide))
   have nR := hR.setCellsOther (vs := LC) (o := 0) (hR.ne hC (by decide))
   have nB := hB.trans (ai_ LC 0 V2 (B := V0.heap.size) (b := C) hLC.o)
   obtain ⟨V3, hN⟩ := eX (V2.setCells C 0 LC)
   rw [<- hN] at nC nX nB nR ⊢
   clear hN hX hB hC hR
   have hX := nX
   have hB := nB
   have hC := nC
   have hR := nR
   clear nX nB nC nR
   have hS := Ad.o _ _ hX
   refine hK.o _ _ hS (fun _ => ?_)
   clear hK KK HS
   have HS := kp hS
   clear hS
   try simp only [Act.put, z1, z2, z3]
   refine oQ 7 rfl (fun KK hK => ?_)
   with_reducible refine al_ rfl 40 _ _ rfl R 0 LR.toArray ?_ ?_ ?_ ?_ ?_ ?_
   ·rfl
   ·rfl
   ·exact hR.there (by rw [Nat.zero_add, zS, Au.o.2]; decide)
   ·rw [zS]; exact Ah.o
   ·exact At.o.2
   have nR := hR.setCells (o := 0) LR
   rw [As.o.2] at nR
   have nX := hX.setCellsOther (vs := LR) (o := 0) (hX.ne hR (by decide))
   have nC := hC.setCellsOther (vs := LR) (o := 0) (hC.ne hR (by decide))
   have nB := hB.trans (ai_ LR 0 V3 (B := V0.heap.size) (b := R) hLR.o)
   obtain ⟨V4, hN⟩ := eX (V3.setCells R 0 LR)
   rw [<- hN] at nR nX nB nC ⊢
   clear hN hX hB hR hC
   have hX := nX
   have hB := nB
   have hR := nR
   have hC := nC
   clear nX nB nR nC
   have hS := Ad.o _ _ hX
   refine hK.o _ _ hS (fun _ => ?_)
   clear hK KK HS
   have HS := kp hS
   clear hS
   try simp only [Act.put, z1, z2, z3]
   refine wpAnyH_done (by kernel_rfl) ?_ _
   go_wp2_with fail
   go_meet
   case rel => exact ⟨C, R, rfl, rfl, hX, hC, hR, hB⟩
  ·
   with_reducible refine aw_ rfl (w' := V0.alloc (.cells ([.int .i64 0, .int .i64 0, .slice none 0 0, .int .u64 0, .int .i64 0, .slice none 0 0] : List Value).toArray 40)) (.pointer (some ⟨V0.heap.size, 0, none⟩)) ?_ ?_
   ·go_simp; try with_reducible rfl
   have nR := RowL.new V0 40 [.int .i64 0, .int .i64 0, .slice none 0 0, .int .u64 0, .int .i64 0, .slice none 0 0]
   have nX := hX.alloc (.cells ([.int .i64 0, .int .i64 0, .slice none 0 0, .int .u64 0, .int .i64 0, .slice none 0 0] : List Value).toArray 40)
   have nB := hB.alloc hB.size (.cells ([.int .i64 0, .int .i64 0, .slice none 0 0, .int .u64 0, .int .i64 0, .slice none 0 0] : List Value).toArray 40)
   obtain ⟨R, hRe⟩ := eY V0.heap.size
   have hLR := kp (show V0.heap.size <= R from hRe ▸ hB.size)
   rw [hRe] at nR ⊢
   clear hRe
   obtain ⟨V1, hN⟩ := eX (V0.alloc (.cells ([.int .i64 0, .int .i64 0, .slice none 0 0, .int .u64 0, .int .i64 0, .slice none 0 0] : List Value).toArray 40))
   rw [<- hN] at nR nX nB ⊢
   clear hN hX hB
   have hX := nX
   have hB := nB
   have hR := nR
   clear nX nB nR
   have hS := Ad.o _ _ hX
   refine hK.o _ _ hS (fun _ => ?_)
   clear hK KK HS
   have HS := kp hS
   clear hS
   try simp only [Act.put, z1, z2, z3]
   refine oQ 4 rfl (fun KK hK => ?_)
   with_reducible refine aw_ rfl (w' := V1.alloc (.cells ([.int .i64 0, .string ⟨#[]⟩, .slice none 0 0, .slice none 0 0, .slice none 0 0, .int .u64 0, .int .u64 0, .string ⟨#[]⟩, .string ⟨#[]⟩, .string ⟨#[]⟩] : List Value).toArray 36)) (.pointer (some ⟨V1.heap.size, 0, none⟩)) ?_ ?_
   ·go_simp; try with_reducible rfl
   have nC := RowL.new V1 36 [.int .i64 0, .string ⟨#[]⟩, .slice none 0 0, .slice none 0 0, .slice none 0 0, .int .u64 0, .int .u64 0, .string ⟨#[]⟩, .string ⟨#[]⟩, .string ⟨#[]⟩]
   have nX := hX.alloc (.cells ([.int .i64 0, .string ⟨#[]⟩, .slice none 0 0, .slice none 0 0, .slice none 0 0, .int .u64 0, .int .u64 0, .string ⟨#[]⟩, .string ⟨#[]⟩, .string ⟨#[]⟩] : List Value).toArray 36)
   have nB := hB.alloc hB.size (.cells ([.int .i64 0, .string ⟨#[]⟩, .slice none 0 0, .slice none 0 0, .slice none 0 0, .int .u64 0, .int .u64 0, .string ⟨#[]⟩, .string ⟨#[]⟩, .string ⟨#[]⟩] : List Value).toArray 36)
   have nR := hR.alloc (.cells ([.int .i64 0, .string ⟨#[]⟩, .slice none 0 0, .slice none 0 0, .slice none 0 0, .int .u64 0, .int .u64 0, .string ⟨#[]⟩, .string ⟨#[]⟩, .string ⟨#[]⟩] : List Value).toArray 36)
   obtain ⟨C, hCe⟩ := eY V1.heap.size
   have hLC := kp (show V0.heap.size <= C from hCe ▸ hB.size)
   rw [hCe] at nC ⊢
   clear hCe
   obtain ⟨V2, hN⟩ := eX (V1.alloc (.cells ([.int .i64 0, .string ⟨#[]⟩, .slice none 0 0, .slice none 0 0, .slice none 0 0, .int .u64 0, .int .u64 0, .string ⟨#[]⟩, .string ⟨#[]⟩, .string ⟨#[]⟩] : List Value).toArray 36))
   rw [<- hN] at nC nX nB nR ⊢
   clear hN hX hB hR
   have hX := nX
   have hB := nB
   have hC := nC
   have hR := nR
   clear nX nB nC nR
   have hS := Ad.o _ _ hX
   refine hK.o _ _ hS (fun _ => ?_)
   clear hK KK HS
   have HS := kp hS
   clear hS
   try simp only [Act.put, z1, z2, z3]
   refine oQ 6 rfl (fun KK hK => ?_)
   with_reducible refine al_ rfl 36 _ _ rfl C 0 LC.toArray ?_ ?_ ?_ ?_ ?_ ?_
   ·rfl
   ·rfl
   ·exact hC.there (by rw [Nat.zero_add, zS, Au.o.1]; decide)
   ·rw [zS]; exact Aj.o
   ·exact At.o.1
   have nC := hC.setCells (o := 0) LC
   rw [As.o.1] at nC
   have nX := hX.setCellsOther (vs := LC) (o := 0) (hX.ne hC (by decide))
   have nR := hR.setCellsOther (vs := LC) (o := 0) (hR.ne hC (by decide))
   have nB := hB.trans (ai_ LC 0 V2 (B := V0.heap.size) (b := C) hLC.o)
   obtain ⟨V3, hN⟩ := eX (V2.setCells C 0 LC)
   rw [<- hN] at nC nX nB nR ⊢
   clear hN hX hB hC hR
   have hX := nX
   have hB := nB
   have hC := nC
   have hR := nR
   clear nX nB nC nR
   have hS := Ad.o _ _ hX
   refine hK.o _ _ hS (fun _ => ?_)
   clear hK KK HS
   have HS := kp hS
   clear hS
   try simp only [Act.put, z1, z2, z3]
   refine oQ 7 rfl (fun KK hK => ?_)
   with_reducible refine al_ rfl 40 _ _ rfl R 0 LR.toArray ?_ ?_ ?_ ?_ ?_ ?_
   ·rfl
   ·rfl
   ·exact hR.there (by rw [Nat.zero_add, zS, Au.o.2]; decide)
   ·rw [zS]; exact Ah.o
   ·exact At.o.2
   have nR := hR.setCells (o := 0) LR
   rw [As.o.2] at nR
   have nX := hX.setCellsOther (vs := LR) (o := 0) (hX.ne hR (by decide))
   have nC := hC.setCellsOther (vs := LR) (o := 0) (hC.ne hR (by decide))
   have nB := hB.trans (ai_ LR 0 V3 (B := V0.heap.size) (b := R) hLR.o)
   obtain ⟨V4, hN⟩ := eX (V3.setCells R 0 LR)
   rw [<- hN] at nR nX nB nC ⊢
   clear hN hX hB hR hC
   have hX := nX
   have hB := nB
   have hR := nR
   have hC := nC
   clear nX nB nR nC
   have hS := Ad.o _ _ hX
   refine hK.o _ _ hS (fun _ => ?_)
   clear hK KK HS
   have HS := kp hS
   clear hS
   try simp only [Act.put, z1, z2, z3]
   refine wpAnyH_done (by kernel_rfl) ?_ _
   go_wp2_with fail
   go_meet
   case rel => exact ⟨C, R, rfl, rfl, hX, hC, hR, hB⟩
 obtain ⟨C, R, rfl, rfl, hX2, hC2, hR2, hB2⟩ := hcut
 have hB3 : Bw w wc := Bd.o.trans (hB2.mono Bd.o.size)
 obtain ⟨Aa, Af, Ay, Am⟩ := kq4 hB3 ((HK.o.below hB3 (lR _)).mono hB3.size) ((Bg.o.below HK.o.ltJ hB3 (lR _)).mono hB3.size) ((HX.o.below hB3 (lR _)).mono hB3.size)
 have x22 := hX2.cell Ac.o.atX
 have c0 := hC2.cell Ac.o.c0
 have c1 := hC2.cell Ac.o.c1
 have r4 := hR2.cell Ac.o.r4
 have r3 := hR2.cell Ac.o.r3
 have c2 := hC2.cell Ac.o.c2
 have r2 := hR2.cell Ac.o.r2
 obtain ⟨Br, Bk⟩ := kq2 c2 r2
 obtain ⟨op, hop⟩ := eY x.cmd.op
 obtain ⟨key, hkey⟩ := eY x.cmd.key
 obtain ⟨tim, htim⟩ := eY x.tim
 obtain ⟨cnt, hcnt⟩ := eY x.resp.count
 obtain ⟨ver, hver⟩ := eY x.resp.ver
 rw [hop] at c0
 rw [hkey] at c1
 rw [htim] at x22
 rw [hcnt] at r4
 rw [hver] at r3
 obtain ⟨Ab, Ap, Ag, Aq, Ax, Bi⟩ := kq6 hop hkey htim hcnt hver hX2.lt
 clear hB3 hB2 Bg c2 r2 hX2 hC2 hR2 HX HK hop hkey htim hcnt hver hX0 hX1 hV0
 have hop1 : 1 <= op := Ab.o ▸ HG.o.op
 by_cases h123 : op = 1 ∨ op = 2 ∨ op = 3
 ·obtain ⟨A, c, hrow, -⟩ := Af.o.row
  obtain ⟨n, hn⟩ := eY ws.length
  have hn5 : n <= 5000 := by rw [<- hn]; exact Af.o.few
  have Al := kp (show (if ver = (n : Int) + 1 then (0 : Int) else 1) = m by
   have h0 : aH_ grace ws x = if x.resp.ver = (ws.length : Int) + 1 then 0 else 1 := by unfold aH_; rw [if_pos (by rw [Ab.o]; exact h123)]
   rw [HM.o, Ax.o, hn] at h0
   exact h0.symm)
  rw [hn] at hrow
  have hw1 : IntKind.u64.wrap (n : Int) = (n : Int) := by rw [IntKind.wrap_u64]; omega
  have hw2 : IntKind.u64.wrap ((n : Int) + 1) = (n : Int) + 1 := by rw [IntKind.wrap_u64]; omega
  have hle : op <= 3 := by omega
  have g4 : (op == 4) = false := by simp; omega
  have g5 : (op == 5) = false := by simp; omega
  have g6 : (op == 6) = false := by simp; omega
  have g7 : (op == 7) = false := by simp; omega
  have gl : decide (op <= 3) = true := eT_ hle
  clear hn h123
  by_cases hv : ver = (n : Int) + 1
  ·have g : (ver != (n : Int) + 1) = false := by simp [hv]
   obtain rfl : 0 = m := by rw [<- Al.o, if_pos hv]
   clear hv Al
   go_wp2_with fail
   go_quiet (fail)
   go_wp2_with fail
   go_ret
   exact ⟨rfl, Aa.o.trans ((ag_ _ _).mono Aa.o.size)⟩
  have g : (ver != (n : Int) + 1) = true := by simpa using hv
  obtain rfl : 1 = m := by rw [<- Al.o, if_neg hv]
  clear hv Al
  go_wp2_with fail
  go_quiet (fail)
  go_wp2_with fail
  go_ret
  exact ⟨rfl, Aa.o.trans ((ag_ _ _).mono Aa.o.size)⟩
 have gl : decide (op <= 3) = false := eF (by omega)
 have hgt : ¬ op <= 3 := by omega
 have An := kp (show (C < wc.heap.size /\ R < wc.heap.size) /\ X < wc.heap.size from ⟨⟨eW_ c0, eW_ r4⟩, Bi.o⟩)
 have HF := kp (fun (W : World) (hW : Bw wc W) => (show W.cell? ⟨C, 0, none⟩ = some (.int .i64 op) /\ W.cell? ⟨C, 1, none⟩ = some (.string key) /\ W.cell? ⟨C, 2, none⟩ = some p.vk /\ W.cell? ⟨R, 2, none⟩ = some p.vi /\ W.cell? ⟨R, 4, none⟩ = some (.int .i64 cnt) /\ W.cell? ⟨X, 22, none⟩ = some (.int .u64 tim) from
  ⟨(hW.cell (p := ⟨C, 0, none⟩) An.o.1.1).trans c0, (hW.cell (p := ⟨C, 1, none⟩) An.o.1.1).trans c1, (hW.cell (p := ⟨C, 2, none⟩) An.o.1.1).trans Br.o, (hW.cell (p := ⟨R, 2, none⟩) An.o.1.2).trans Bk.o, (hW.cell (p := ⟨R, 4, none⟩) An.o.1.2).trans r4, (hW.cell (p := ⟨X, 22, none⟩) An.o.2).trans x22⟩))
 go_upto_region 2 with (fail)
 obtain ⟨wq, rfl⟩ := eX wc
 go_cut [14] (fun s14 W' => s14 = .bool false /\ Bw wq W')
 case first =>
  go_quiet (fail)
  go_wp2_with fail
  go_meet
  case rel => exact ⟨rfl, ag_ _ _⟩
 case rest =>
 obtain ⟨rfl, hbw⟩ := hcut
 obtain ⟨Bu, Aa, Ay, Af, Am, HF⟩ := kq6 hbw (Aa.o.trans (hbw.mono Aa.o.size)) ((Ay.o.below Af.o.ltJ hbw (lR _)).mono hbw.size) ((Af.o.below hbw (lR _)).mono hbw.size) ((Am.o.below hbw (lR _)).mono hbw.size) (fun (W : World) (hW : Bw wc W) => HF.o W (hbw.trans (hW.mono hbw.size)))
 obtain ⟨c0, c1, c2, r2, r4, x22⟩ := HF.o wc (BR _ _)
 clear hbw
 by_cases h4 : op = 4
 ·subst h4
  obtain ⟨i0, ir, hit⟩ : ∃ i0 ir, x.resp.items = i0 :: ir := by
   cases e : x.resp.items with
   | nil => exact absurd e (HG.o.items Ab.o)
   | cons a b => exact ⟨a, b, rfl⟩
  have Al := kp (show c4_ grace ws key i0 tim = m by rw [<- HM.o, <- Ap.o, <- Ag.o]; unfold aH_; rw [if_neg (by rw [Ab.o]; omega), if_pos Ab.o, hit])
  obtain ⟨-, ⟨-, Ai, ci, hvi, hel⟩, -⟩ := Am.o
  rw [hit] at hvi hel
  obtain ⟨b, off, vi0, rfl, hbB, hcel, hdat⟩ := hel 0 i0 rfl
  have hv0 := HG.o.vers i0 (by rw [hit]; simp)
  obtain ⟨nI, hnI⟩ := eY ((i0 :: ir).length)
  have hn0 : (0 : Int) < (nI : Int) := by rw [<- hnI]; simp <;> omega
  rw [hnI] at hvi
  rw [hvi] at r2
  have H127 := kp (fun (W : World) (hW : Bw wc W) => Al.o ▸ kV_ J grace ws ps key i0 vi0 tim W ((Af.o.below hW (lR _)).mono hW.size) ((hdat.below hW (lR _)).mono hW.size) hv0)
  unfold ptV aD_ at H127
  unfold aD_ at hcel
  obtain ⟨Aw, F36, F38, F42⟩ := kq4 hcel.regrown (cell_kept Tryz.isAgg9 c1) (cell_kept Tryz.isAgg37 r2) (cell_kept Tryz.isAgg34 x22)
  clear hvi hel hcel hdat hv0 hit hnI h123 Al
  go_wp2_with fail
  refine wp_region_quiet_below (by kernel_rfl) (by kernel_rfl) ?_
  repeat (first
   | ((with_reducible refine aa_ (o := ⟨some 36, _, _, _, _, _⟩) 9 _ rfl ⟨C, 1, none⟩ ?_ (.string key) F36.o ?_ ?_); (· rfl); (· rfl); simp only [Act.put, z1, z2, z3])
   | ((with_reducible refine aa_ (o := ⟨some 38, _, _, _, _, _⟩) 37 _ rfl ⟨R, 2, none⟩ ?_ (.slice (some ⟨b, off, none⟩) nI ci) F38.o ?_ ?_); (· rfl); (· rfl); simp only [Act.put, z1, z2, z3])
   | ((with_reducible refine aa_ (o := ⟨some 42, _, _, _, _, _⟩) 34 _ rfl ⟨X, 22, none⟩ ?_ (.int .u64 tim) F42.o ?_ ?_); (· rfl); (· rfl); simp only [Act.put, z1, z2, z3])
   | ((with_reducible refine ay_ (o := ⟨some 40, _, _, _, _, _⟩) rfl 78 _ rfl ⟨b, off + 0 * 4, none⟩ ?_ [.int .i64 i0.mark, vi0, .int .u64 i0.ver, .int .u64 i0.dead] _ Aw.o Tryz.underlying78 rfl (bH_ _ _ _ _) ?_); (· rfl); simp only [Act.put, z1, z2, z3])
   | go_big_quiet_step ((go_at_call 127; exact Calls.regrown_of (H127.o _ (below_regrown _ _ _)))))
  refine wpQuiet_nil ?_
  intro W3 hW3
  have hb3 := an_ hW3
  clear hW3
  go_wp2_with fail
  go_ret
  exact ⟨rfl, Aa.o.trans (hb3.mono Aa.o.size)⟩
 have g4 : (op == 4) = false := by simpa using h4
 by_cases h5 : op = 5
 ·subst h5
  obtain ⟨⟨⟨-, Ak, ck, ek, helk⟩, -, -⟩, ⟨-, Ai0, ci0, ei0, hel0⟩, -⟩ := Am.o
  obtain ⟨nK, hnK⟩ := eY x.cmd.keys.length
  obtain ⟨nI, hnI⟩ := eY x.resp.items.length
  obtain ⟨Ai, ci, ei, hci⟩ := Ba.o
  have hel : ItemsAt wc wc.heap.size Ai x.resp.items := by
   rw [ei] at ei0
   cases ei0
   exact hel0
  have hIm : nI <= 9223372036854775807 /\ nK <= 9223372036854775807 := by
   have h1 := Am.o.1.1.1
   have h2 := Am.o.2.1.1
   unfold maxLen at h1 h2
   omega
  obtain ⟨hIm1, hIm2⟩ := hIm
  have Bm := kp (show bV_ grace ws tim x.cmd.keys x.resp.items = m by rw [<- HM.o, <- Ag.o]; unfold aH_; rw [if_neg (by rw [Ab.o]; omega), if_neg (by rw [Ab.o]; omega), if_pos Ab.o])
  rw [hnK] at ek
  rw [hnI] at ei hci
  rw [ek] at c2
  rw [ei] at r2
  obtain ⟨Bp, Az, Bo, Be, Bf⟩ := kq5 ek helk hel hnK hnI
  obtain ⟨mm, hmm⟩ := eY (min nI nK)
  have hmi : (min (nI : Int) (nK : Int)) = (mm : Int) := by omega
  have hm1 : mm <= nI := by omega
  have hm2 : mm <= nK := by omega
  have hm3 : mm = nI ∨ mm = nK := by omega
  have hm4 : (mm : Int) <= (ci : Int) := by omega
  have hm5 : mm <= ci := by omega
  clear ek ei0 ei helk hel hel0 hnK hnI hmm
  go_wp2_with fail
  go_loopw [59] (fun s59 wr => ∃ i : Nat, i <= mm /\ s59 = .int .i64 i /\ Hid (bV_ grace ws tim (x.cmd.keys.drop i) (x.resp.items.drop i) = m) /\ Hid (Bw wc wr)) (fun j _ => mm - (intOf j).toNat)
  case atStart => exact ⟨0, by omega, by go_num, kp Bm.o, kp (BR _ _)⟩
  obtain ⟨i, hi1, rfl, Bh, HW⟩ := hrel
  clear c0 c1 c2 r2 r4 x22 r3
  by_cases hI : i < mm
  ·have hg1 : decide ((i : Int) < (mm : Int)) = true := eT_ (by omega)
   have hj1 : (i : Int) < (mm : Int) := by omega
   have hj2 : (i : Int) < (nK : Int) := by omega
   obtain ⟨k, hk⟩ : ∃ k, x.cmd.keys[i]? = some k := ⟨_, gE (by rw [Be.o]; omega)⟩
   obtain ⟨it, hit⟩ : ∃ k, x.resp.items[i]? = some k := ⟨_, gE (by rw [Bf.o]; omega)⟩
   obtain ⟨bk, ok, rfl, hbk, ck1⟩ := Az.o.below HW.o (lR _) i k hk
   obtain ⟨bi, oi, vi0, rfl, hbi, hcel, hdat⟩ := Bo.o.below HW.o (lR _) i it hit
   have hv0 := HG.o.vers it (mG hit)
   obtain ⟨mi, hmi⟩ := eY (c4_ grace ws k it tim)
   obtain ⟨Ae, H127⟩ := kq2 (show (if mi ≠ 0 then mi else bV_ grace ws tim (x.cmd.keys.drop (i + 1)) (x.resp.items.drop (i + 1))) = m by rw [<- hmi, <- hd_ hk hit]; exact Bh.o) (fun (W : World) (hW : Bw wr W) => hmi ▸ kV_ J grace ws ps k it vi0 tim W ((Af.o.below (HW.o.trans (hW.mono HW.o.size)) (lR _)).mono (lT HW.o.size hW.size)) ((hdat.below hW HW.o.size).mono (lT HW.o.size hW.size)) hv0)
   unfold ptV aD_ at H127
   unfold aD_ at hcel
   obtain ⟨d0, d1, d2, d3⟩ := cells4 hcel
   obtain ⟨Bq, Bs⟩ := kq2 ck1 (show bk < wr.heap.size from lL hbk HW.o.size)
   obtain ⟨imk, himk⟩ := eY it.mark
   obtain ⟨ivr, hivr⟩ := eY it.ver
   obtain ⟨idd, hidd⟩ := eY it.dead
   obtain ⟨nv, Av, cv, rfl⟩ : ∃ nv Av cv, vi0 = .slice Av nv cv := by
    obtain ⟨_, _, A, c, h, _⟩ := hdat
    exact ⟨_, _, _, h⟩
   rw [himk] at d0 H127
   rw [hivr] at d2 H127
   rw [hidd] at d3 H127
   obtain ⟨W9, hW9⟩ := eX (wr.alloc (.cells #[.int .i64 imk, .slice Av nv cv, .int .u64 ivr, .int .u64 idd] 78))
   obtain ⟨Bj, Ao, Bb⟩ := kq3 (show RowL W9 wr.heap.size 78 [.int .i64 imk, .slice Av nv cv, .int .u64 ivr, .int .u64 idd] by rw [hW9]; exact RowL.new wr 78 _) (show Bw wr W9 by rw [hW9]; exact below1 wr _) hW9
   clear hk hit hcel hdat hv0 hmi hI himk hivr hidd ck1 hbk hbi hW9
   go_upto_region 10 with (fail)
   rw [<- Bb.o]
   clear d0 d1 d2 d3
   obtain ⟨q0, q1, q2, q3, q4, q22⟩ := HF.o W9 (HW.o.trans (Ao.o.mono HW.o.size))
   rw [Bp.o] at q2
   have e69 := (Ao.o.cell (p := ⟨bk, ok + i, none⟩) Bs.o).trans Bq.o
   obtain ⟨F66, F69, F72, Aw⟩ := kq4 (cell_kept Tryz.isAgg32 q2) (cell_kept Tryz.isAgg9 e69) (cell_kept Tryz.isAgg34 q22) Bj.o.cells.regrown
   clear q0 q1 q3 q4 Bb
   obtain ⟨Y, hY⟩ := eY wr.heap.size
   rw [hY] at Aw ⊢
   have HY := kp hY
   clear hY
   refine wp_region_quiet_below (by kernel_rfl) (by kernel_rfl) ?_
   repeat (first
    | ((with_reducible refine aa_ (o := ⟨some 66, _, _, _, _, _⟩) 32 _ rfl ⟨C, 2, none⟩ ?_ (.slice (some ⟨bk, ok, none⟩) nK ck) F66.o ?_ ?_); (· rfl); (· rfl); simp only [Act.put, z1, z2, z3])
    | ((with_reducible refine aa_ (o := ⟨some 69, _, _, _, _, _⟩) 9 _ rfl ⟨bk, ok + i, none⟩ ?_ (.string k) F69.o ?_ ?_); (· rfl); (· rfl); simp only [Act.put, z1, z2, z3])
    | ((with_reducible refine aa_ (o := ⟨some 72, _, _, _, _, _⟩) 34 _ rfl ⟨X, 22, none⟩ ?_ (.int .u64 tim) F72.o ?_ ?_); (· rfl); (· rfl); simp only [Act.put, z1, z2, z3])
    | ((with_reducible refine ay_ (o := ⟨some 70, _, _, _, _, _⟩) rfl 78 _ rfl ⟨Y, 0, none⟩ ?_ [.int .i64 imk, .slice Av nv cv, .int .u64 ivr, .int .u64 idd] _ Aw.o Tryz.underlying78 rfl (bH_ _ _ _ _) ?_); (· rfl); simp only [Act.put, z1, z2, z3])
    | go_big_quiet_step ((go_at_call 127; exact Calls.regrown_of (H127.o _ (Ao.o.trans ((below_regrown _ _ _).mono Ao.o.size))))))
   refine wpQuiet_nil ?_
   intro W3 hW3
   have hb3 := an_ hW3
   clear hW3
   have Bc := kp (HW.o.trans ((Ao.o.trans (hb3.mono Ao.o.size)).mono HW.o.size))
   clear hb3
   by_cases hmz : mi = 0
   ·subst hmz
    have Bn := kp (show bV_ grace ws tim (x.cmd.keys.drop (i + 1)) (x.resp.items.drop (i + 1)) = m by have := Ae.o; rwa [if_neg (by omega)] at this)
    go_wp2_with fail
    go_roundw
    case rel => exact ⟨i + 1, by omega, by go_num, Bn, Bc⟩
    simp [intOf]; omega
   have g7 : (mi != 0) = true := by simpa using hmz
   obtain rfl : mi = m := by have := Ae.o; rwa [if_pos hmz] at this
   go_wp2_with fail
   go_ret
   exact ⟨rfl, Aa.o.trans (Bc.o.mono Aa.o.size)⟩
  have hg1 : decide ((i : Int) < (mm : Int)) = false := eF (by omega)
  obtain rfl : 0 = m := by
   rw [<- Bh.o]
   rcases hm3 with h | h
   ·rw [eA_ (by rw [Bf.o]; omega)]
   rw [eB_ (by rw [Be.o]; omega)]
  go_wp2_with fail
  go_ret
  exact ⟨rfl, Aa.o.trans (HW.o.mono Aa.o.size)⟩
 have g5 : (op == 5) = false := by simpa using h5
 by_cases h67 : op = 6 ∨ op = 7
 ·by_cases hc1 : cnt = 1
  ·subst hc1
   have Bl := kp (show dG_ grace ws key tim = m by rw [<- HM.o, <- Ag.o, <- Ap.o]; unfold aH_; rw [if_neg (by rw [Ab.o]; exact h123), if_neg (by rw [Ab.o]; exact h4), if_neg (by rw [Ab.o]; exact h5), if_pos (by rw [Ab.o]; exact ⟨h67, Aq.o⟩)])
   have H128 := kp (Bl.o ▸ there128 J grace ws ps key tim wc Af.o Ay.o)
   unfold ptV at H128
   rcases h67 with rfl | rfl
   all_goals
    go_wp2_with fail
    refine H128.o.mono ?_
    rintro e w3 ⟨rfl, hb3⟩
    go_wp2_with fail
    go_ret
    exact ⟨rfl, Aa.o.trans (hb3.mono Aa.o.size)⟩
  have gc : (cnt == 1) = false := by simpa using hc1
  obtain rfl : 0 = m := by rw [<- HM.o]; unfold aH_; rw [Ab.o, if_neg h123, if_neg h4, if_neg h5, if_neg (by rw [Aq.o]; exact fun h => hc1 h.2)]
  rcases h67 with rfl | rfl
  all_goals
   go_wp2_with fail
   go_ret
   exact ⟨rfl, Aa.o⟩
 have g6 : (op == 6) = false := by simp; omega
 have g7 : (op == 7) = false := by simp; omega
 obtain rfl : 0 = m := by
  rw [<- HM.o]
  unfold aH_
  rw [Ab.o, if_neg h123, if_neg h4, if_neg h5, if_neg (fun h => h67 h.1)]
 go_wp2_with fail
 go_ret
 exact ⟨rfl, Aa.o⟩
end Go.Proofs.YtnjhpgmbfblgaaaGreat.Ord
