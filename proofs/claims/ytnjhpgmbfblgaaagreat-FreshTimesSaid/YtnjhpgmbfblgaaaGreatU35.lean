/- Walk of the reference's. -/
import Derived.Test.YtnjhpgmbfblgaaaGreatMU30
import Derived.Test.YtnjhpgmbfblgaaaGreatMU37
import Derived.Deep.DeepCutAuto
import Derived.Deep.CutBlock
set_option linter.unusedVariables false
set_option linter.unusedSimpArgs false
namespace Go.Proofs.YtnjhpgmbfblgaaaGreat.Ord
open Go.RowKit
set_option maxRecDepth 100000
set_option maxHeartbeats 8000000
theorem jo_ (K : Nat) (grace : Int) (ws : List WrR) (x : CallR) (p : CallV) (w : World) (hK : RdK w w.heap.size K grace ws) (hx : CallOk w w.heap.size x p) (hg : FltG x ws) :
  Calls Tryz.prog 74 #[ptV K, .agg (callC x p).toArray] w (RetB (.int .i64 (aH_ grace ws x)) w) := by
 obtain ⟨m, hm⟩ := eY (aH_ grace ws x)
 rw [hm]
 obtain ⟨LX, hLX⟩ := eY (callC x p)
 obtain ⟨LC, hLC⟩ := eY (cmdC x.cmd p.vk p.vv p.vt)
 obtain ⟨LR, hLR⟩ := eY (respC x.resp p.vi p.vn)
 obtain ⟨Ac, HM, HK, HX, HG⟩ := kq5 (boxF hLX hLC hLR hx) hm hK hx hg
 rw [hLX]
 clear hLX hLC hLR hm hK hx hg
 obtain ⟨X, hX⟩ := eY w.heap.size
 obtain ⟨W2, hW2⟩ := eX (w.alloc (.cells LX.toArray 52))
 have hX0 : RowL W2 X 52 LX := by rw [hW2, <- hX]; exact RowL.new w 52 LX
 have hb0 : Bw w W2 := by rw [hW2]; exact below1 w _
 have Au := kp hb0
 clear hb0
 unfold ptV
 go_enter Tryz.func74, Tryz.ntmps74
 go_upto_region 1 with (fail)
 rw [<- hW2]
 try rw [hX]
 obtain ⟨V0, hV0⟩ := eX W2.drew
 have Be := kp (show Bw w V0 by rw [hV0]; exact ⟨Au.o.os, Au.o.tape, Au.o.output, Au.o.size, Au.o.block⟩)
 have hX1 : RowL V0 X 52 LX := by rw [hV0]; exact hX0
 have Bm := kp hX
 clear hX hW2
 go_cut [5, 6] (fun s5 s6 W' => ∃ C R, s5 = .pointer (some ⟨C, 0, none⟩) /\ s6 = .pointer (some ⟨R, 0, none⟩) /\ RowL W' X 52 LX /\ RowL W' C 36 LC /\ RowL W' R 40 LR /\ Bw V0 W')
 case first =>
  obtain ⟨Af, Al, Aj, Az, Ay, Ax⟩ := kq6 Ac.o.sx Ac.o.sz1 Ac.o.sz2 Ac.o.len Ac.o.one Ac.o.put
  refine wp_region_held_drew (S := fun W => CellsAt W ⟨X, 3, none⟩ LC /\ CellsAt W ⟨X, 13, none⟩ LR) (by kernel_rfl) (Af.o _ _ hX0) (fun hS => ?_)
  rw [<- hV0] at hS ⊢
  have hX := hX1
  have hB := BR V0.heap.size V0
  have HS := kp hS
  clear hS hX0 hX1 hV0
  refine tp 0 rfl rfl HS.o ?_
  simp only [Act.put, z1, z2, z3]
  refine tq 1 (.agg LC.toArray) rfl (yields_aggU rfl 36 _ rfl ⟨X, 3, none⟩ rfl LC _ (fun W hW => hW.1) Tryz.underlying36 Al.o) HS.o ?_
  simp only [Act.put, z1, z2, z3]
  refine tp 2 rfl rfl HS.o ?_
  simp only [Act.put, z1, z2, z3]
  refine tq 3 (.agg LR.toArray) rfl (yields_aggU rfl 40 _ rfl ⟨X, 13, none⟩ rfl LR _ (fun W hW => hW.2) Tryz.underlying40 Aj.o) HS.o ?_
  simp only [Act.put, z1, z2, z3]
  refine wpAnyH_ready (rs := [4, 5]) (by kernel_rfl) (by simp) ?_
  refine aQ rfl (fun KK hK => ?_) (aQ rfl (fun KK hK => ?_) (AllReadyH.nil))
  ·
   with_reducible refine aw_ rfl (w' := V0.alloc (.cells ([.int .i64 0, .string ⟨#[]⟩, .slice none 0 0, .slice none 0 0, .slice none 0 0, .int .u64 0, .int .u64 0, .string ⟨#[]⟩, .string ⟨#[]⟩, .string ⟨#[]⟩] : List Value).toArray 36)) (.pointer (some ⟨V0.heap.size, 0, none⟩)) ?_ ?_
   ·go_simp; try with_reducible rfl
   have nC := RowL.new V0 36 [.int .i64 0, .string ⟨#[]⟩, .slice none 0 0, .slice none 0 0, .slice none 0 0, .int .u64 0, .int .u64 0, .string ⟨#[]⟩, .string ⟨#[]⟩, .string ⟨#[]⟩]
   have nX := hX.alloc (.cells ([.int .i64 0, .string ⟨#[]⟩, .slice none 0 0, .slice none 0 0, .slice none 0 0, .int .u64 0, .int .u64 0, .string ⟨#[]⟩, .string ⟨#[]⟩, .string ⟨#[]⟩] : List Value).toArray 36)
   have nB := hB.alloc hB.size (.cells ([.int .i64 0, .string ⟨#[]⟩, .slice none 0 0, .slice none 0 0, .slice none 0 0, .int .u64 0, .int .u64 0, .string ⟨#[]⟩, .string ⟨#[]⟩, .string ⟨#[]⟩] : List Value).toArray 36)
   obtain ⟨C, hCe⟩ := eY V0.heap.size
   have hLC := kp (show V0.heap.size <= C from hCe ▸ hB.size)
   rw [hCe] at nC ⊢
   clear hCe
   obtain ⟨V1, hN⟩ := eX (V0.alloc (.cells ([.int .i64 0, .string ⟨#[]⟩, .slice none 0 0, .slice none 0 0, .slice none 0 0, .int .u64 0, .int .u64 0, .string ⟨#[]⟩, .string ⟨#[]⟩, .string ⟨#[]⟩] : List Value).toArray 36))
   rw [<- hN] at nC nX nB ⊢
   clear hN hX hB
   have hX := nX
   have hB := nB
   have hC := nC
   clear nX nB nC
   have hS := Af.o _ _ hX
   refine hK.o _ _ hS (fun _ => ?_)
   clear hK KK HS
   have HS := kp hS
   clear hS
   try simp only [Act.put, z1, z2, z3]
   refine oQ 5 rfl (fun KK hK => ?_)
   with_reducible refine aw_ rfl (w' := V1.alloc (.cells ([.int .i64 0, .int .i64 0, .slice none 0 0, .int .u64 0, .int .i64 0, .slice none 0 0] : List Value).toArray 40)) (.pointer (some ⟨V1.heap.size, 0, none⟩)) ?_ ?_
   ·go_simp; try with_reducible rfl
   have nR := RowL.new V1 40 [.int .i64 0, .int .i64 0, .slice none 0 0, .int .u64 0, .int .i64 0, .slice none 0 0]
   have nX := hX.alloc (.cells ([.int .i64 0, .int .i64 0, .slice none 0 0, .int .u64 0, .int .i64 0, .slice none 0 0] : List Value).toArray 40)
   have nB := hB.alloc hB.size (.cells ([.int .i64 0, .int .i64 0, .slice none 0 0, .int .u64 0, .int .i64 0, .slice none 0 0] : List Value).toArray 40)
   have nC := hC.alloc (.cells ([.int .i64 0, .int .i64 0, .slice none 0 0, .int .u64 0, .int .i64 0, .slice none 0 0] : List Value).toArray 40)
   obtain ⟨R, hRe⟩ := eY V1.heap.size
   have hLR := kp (show V0.heap.size <= R from hRe ▸ hB.size)
   rw [hRe] at nR ⊢
   clear hRe
   obtain ⟨V2, hN⟩ := eX (V1.alloc (.cells ([.int .i64 0, .int .i64 0, .slice none 0 0, .int .u64 0, .int .i64 0, .slice none 0 0] : List Value).toArray 40))
   rw [<- hN] at nR nX nB nC ⊢
   clear hN hX hB hC
   have hX := nX
   have hB := nB
   have hR := nR
   have hC := nC
   clear nX nB nR nC
   have hS := Af.o _ _ hX
   refine hK.o _ _ hS (fun _ => ?_)
   clear hK KK HS
   have HS := kp hS
   clear hS
   try simp only [Act.put, z1, z2, z3]
   refine oQ 6 rfl (fun KK hK => ?_)
   with_reducible refine al_ rfl 36 _ _ rfl C 0 LC.toArray ?_ ?_ ?_ ?_ ?_ ?_
   ·rfl
   ·rfl
   ·exact hC.there (by rw [Nat.zero_add, zS, Az.o.1]; decide)
   ·rw [zS]; exact Al.o
   ·exact Ay.o.1
   have nC := hC.setCells (o := 0) LC
   rw [Ax.o.1] at nC
   have nX := hX.setCellsOther (vs := LC) (o := 0) (hX.ne hC (by decide))
   have nR := hR.setCellsOther (vs := LC) (o := 0) (hR.ne hC (by decide))
   have nB := hB.trans (ai_ LC 0 V2 (B := V0.heap.size) (b := C) hLC.o)
   obtain ⟨V3, hN⟩ := eX (V2.setCells C 0 LC)
   rw [<- hN] at nC nX nB nR ⊢
   clear hN hX hB hC hR
   have hX := nX
   have hB := nB
   have hC := nC
   have hR := nR
   clear nX nB nC nR
   have hS := Af.o _ _ hX
   refine hK.o _ _ hS (fun _ => ?_)
   clear hK KK HS
   have HS := kp hS
   clear hS
   try simp only [Act.put, z1, z2, z3]
   refine oQ 7 rfl (fun KK hK => ?_)
   with_reducible refine al_ rfl 40 _ _ rfl R 0 LR.toArray ?_ ?_ ?_ ?_ ?_ ?_
   ·rfl
   ·rfl
   ·exact hR.there (by rw [Nat.zero_add, zS, Az.o.2]; decide)
   ·rw [zS]; exact Aj.o
   ·exact Ay.o.2
   have nR := hR.setCells (o := 0) LR
   rw [Ax.o.2] at nR
   have nX := hX.setCellsOther (vs := LR) (o := 0) (hX.ne hR (by decide))
   have nC := hC.setCellsOther (vs := LR) (o := 0) (hC.ne hR (by decide))
   have nB := hB.trans (ai_ LR 0 V3 (B := V0.heap.size) (b := R) hLR.o)
   obtain ⟨V4, hN⟩ := eX (V3.setCells R 0 LR)
   rw [<- hN] at nR nX nB nC ⊢
   clear hN hX hB hR hC
   have hX := nX
   have hB := nB
   have hR := nR
   have hC := nC
   clear nX nB nR nC
   have hS := Af.o _ _ hX
   refine hK.o _ _ hS (fun _ => ?_)
   clear hK KK HS
   have HS := kp hS
   clear hS
   try simp only [Act.put, z1, z2, z3]
   refine wpAnyH_done (by kernel_rfl) ?_ _
   go_wp2_with fail
   go_meet
   case rel => exact ⟨C, R, rfl, rfl, hX, hC, hR, hB⟩
  ·
   with_reducible refine aw_ rfl (w' := V0.alloc (.cells ([.int .i64 0, .int .i64 0, .slice none 0 0, .int .u64 0, .int .i64 0, .slice none 0 0] : List Value).toArray 40)) (.pointer (some ⟨V0.heap.size, 0, none⟩)) ?_ ?_
   ·go_simp; try with_reducible rfl
   have nR := RowL.new V0 40 [.int .i64 0, .int .i64 0, .slice none 0 0, .int .u64 0, .int .i64 0, .slice none 0 0]
   have nX := hX.alloc (.cells ([.int .i64 0, .int .i64 0, .slice none 0 0, .int .u64 0, .int .i64 0, .slice none 0 0] : List Value).toArray 40)
   have nB := hB.alloc hB.size (.cells ([.int .i64 0, .int .i64 0, .slice none 0 0, .int .u64 0, .int .i64 0, .slice none 0 0] : List Value).toArray 40)
   obtain ⟨R, hRe⟩ := eY V0.heap.size
   have hLR := kp (show V0.heap.size <= R from hRe ▸ hB.size)
   rw [hRe] at nR ⊢
   clear hRe
   obtain ⟨V1, hN⟩ := eX (V0.alloc (.cells ([.int .i64 0, .int .i64 0, .slice none 0 0, .int .u64 0, .int .i64 0, .slice none 0 0] : List Value).toArray 40))
   rw [<- hN] at nR nX nB ⊢
   clear hN hX hB
   have hX := nX
   have hB := nB
   have hR := nR
   clear nX nB nR
   have hS := Af.o _ _ hX
   refine hK.o _ _ hS (fun _ => ?_)
   clear hK KK HS
   have HS := kp hS
   clear hS
   try simp only [Act.put, z1, z2, z3]
   refine oQ 4 rfl (fun KK hK => ?_)
   with_reducible refine aw_ rfl (w' := V1.alloc (.cells ([.int .i64 0, .string ⟨#[]⟩, .slice none 0 0, .slice none 0 0, .slice none 0 0, .int .u64 0, .int .u64 0, .string ⟨#[]⟩, .string ⟨#[]⟩, .string ⟨#[]⟩] : List Value).toArray 36)) (.pointer (some ⟨V1.heap.size, 0, none⟩)) ?_ ?_
   ·go_simp; try with_reducible rfl
   have nC := RowL.new V1 36 [.int .i64 0, .string ⟨#[]⟩, .slice none 0 0, .slice none 0 0, .slice none 0 0, .int .u64 0, .int .u64 0, .string ⟨#[]⟩, .string ⟨#[]⟩, .string ⟨#[]⟩]
   have nX := hX.alloc (.cells ([.int .i64 0, .string ⟨#[]⟩, .slice none 0 0, .slice none 0 0, .slice none 0 0, .int .u64 0, .int .u64 0, .string ⟨#[]⟩, .string ⟨#[]⟩, .string ⟨#[]⟩] : List Value).toArray 36)
   have nB := hB.alloc hB.size (.cells ([.int .i64 0, .string ⟨#[]⟩, .slice none 0 0, .slice none 0 0, .slice none 0 0, .int .u64 0, .int .u64 0, .string ⟨#[]⟩, .string ⟨#[]⟩, .string ⟨#[]⟩] : List Value).toArray 36)
   have nR := hR.alloc (.cells ([.int .i64 0, .string ⟨#[]⟩, .slice none 0 0, .slice none 0 0, .slice none 0 0, .int .u64 0, .int .u64 0, .string ⟨#[]⟩, .string ⟨#[]⟩, .string ⟨#[]⟩] : List Value).toArray 36)
   obtain ⟨C, hCe⟩ := eY V1.heap.size
   have hLC := kp (show V0.heap.size <= C from hCe ▸ hB.size)
   rw [hCe] at nC ⊢
   clear hCe
   obtain ⟨V2, hN⟩ := eX (V1.alloc (.cells ([.int .i64 0, .string ⟨#[]⟩, .slice none 0 0, .slice none 0 0, .slice none 0 0, .int .u64 0, .int .u64 0, .string ⟨#[]⟩, .string ⟨#[]⟩, .string ⟨#[]⟩] : List Value).toArray 36))
   rw [<- hN] at nC nX nB nR ⊢
   clear hN hX hB hR
   have hX := nX
   have hB := nB
   have hC := nC
   have hR := nR
   clear nX nB nC nR
   have hS := Af.o _ _ hX
   refine hK.o _ _ hS (fun _ => ?_)
   clear hK KK HS
   have HS := kp hS
   clear hS
   try simp only [Act.put, z1, z2, z3]
   refine oQ 6 rfl (fun KK hK => ?_)
   with_reducible refine al_ rfl 36 _ _ rfl C 0 LC.toArray ?_ ?_ ?_ ?_ ?_ ?_
   ·rfl
   ·rfl
   ·exact hC.there (by rw [Nat.zero_add, zS, Az.o.1]; decide)
   ·rw [zS]; exact Al.o
   ·exact Ay.o.1
   have nC := hC.setCells (o := 0) LC
   rw [Ax.o.1] at nC
   have nX := hX.setCellsOther (vs := LC) (o := 0) (hX.ne hC (by decide))
   have nR := hR.setCellsOther (vs := LC) (o := 0) (hR.ne hC (by decide))
   have nB := hB.trans (ai_ LC 0 V2 (B := V0.heap.size) (b := C) hLC.o)
   obtain ⟨V3, hN⟩ := eX (V2.setCells C 0 LC)
   rw [<- hN] at nC nX nB nR ⊢
   clear hN hX hB hC hR
   have hX := nX
   have hB := nB
   have hC := nC
   have hR := nR
   clear nX nB nC nR
   have hS := Af.o _ _ hX
   refine hK.o _ _ hS (fun _ => ?_)
   clear hK KK HS
   have HS := kp hS
   clear hS
   try simp only [Act.put, z1, z2, z3]
   refine oQ 7 rfl (fun KK hK => ?_)
   with_reducible refine al_ rfl 40 _ _ rfl R 0 LR.toArray ?_ ?_ ?_ ?_ ?_ ?_
   ·rfl
   ·rfl
   ·exact hR.there (by rw [Nat.zero_add, zS, Az.o.2]; decide)
   ·rw [zS]; exact Aj.o
   ·exact Ay.o.2
   have nR := hR.setCells (o := 0) LR
   rw [Ax.o.2] at nR
   have nX := hX.setCellsOther (vs := LR) (o := 0) (hX.ne hR (by decide))
   have nC := hC.setCellsOther (vs := LR) (o := 0) (hC.ne hR (by decide))
   have nB := hB.trans (ai_ LR 0 V3 (B := V0.heap.size) (b := R) hLR.o)
   obtain ⟨V4, hN⟩ := eX (V3.setCells R 0 LR)
   rw [<- hN] at nR nX nB nC ⊢
   clear hN hX hB hR hC
   have hX := nX
   have hB := nB
   have hR := nR
   have hC := nC
   clear nX nB nR nC
   have hS := Af.o _ _ hX
   refine hK.o _ _ hS (fun _ => ?_)
   clear hK KK HS
   have HS := kp hS
   clear hS
   try simp only [Act.put, z1, z2, z3]
   refine wpAnyH_done (by kernel_rfl) ?_ _
   go_wp2_with fail
   go_meet
   case rel => exact ⟨C, R, rfl, rfl, hX, hC, hR, hB⟩
 obtain ⟨C, R, rfl, rfl, hX2, hC2, hR2, hB2⟩ := hcut
 have hB3 : Bw w wc := Be.o.trans (hB2.mono Be.o.size)
 obtain ⟨Aa, Ad, Aw⟩ := kq3 hB3 ((HK.o.below hB3 (lR _)).mono hB3.size) ((HX.o.below hB3 (lR _)).mono hB3.size)
 have x22 := hX2.cell Ac.o.atX
 have c0 := hC2.cell Ac.o.c0
 have c1 := hC2.cell Ac.o.c1
 have r4 := hR2.cell Ac.o.r4
 have r3 := hR2.cell Ac.o.r3
 have c2 := hC2.cell Ac.o.c2
 have r2 := hR2.cell Ac.o.r2
 obtain ⟨As, Ao⟩ := kq2 c2 r2
 obtain ⟨op, hop⟩ := eY x.cmd.op
 obtain ⟨key, hkey⟩ := eY x.cmd.key
 obtain ⟨tim, htim⟩ := eY x.tim
 obtain ⟨cnt, hcnt⟩ := eY x.resp.count
 obtain ⟨ver, hver⟩ := eY x.resp.ver
 rw [hop] at c0
 rw [hkey] at c1
 rw [htim] at x22
 rw [hcnt] at r4
 rw [hver] at r3
 obtain ⟨Ab, Ap, Ah, Aq, Bb, Bi⟩ := kq6 hop hkey htim hcnt hver hX2.lt
 clear hB3 hB2 c2 r2 hX2 hC2 hR2 HX HK hop hkey htim hcnt hver hX0 hX1 hV0
 by_cases h123 : op = 1 ∨ op = 2 ∨ op = 3
 ·obtain ⟨A, c, hrow, -⟩ := Ad.o.row
  obtain ⟨n, hn⟩ := eY ws.length
  have hn5 : n <= 5000 := by rw [<- hn]; exact Ad.o.few
  have An := kp (show (if ver = (n : Int) + 1 then (0 : Int) else 1) = m by
   have h0 : aH_ grace ws x = if x.resp.ver = (ws.length : Int) + 1 then 0 else 1 := by unfold aH_; rw [if_pos (by rw [Ab.o]; exact h123)]
   rw [HM.o, Bb.o, hn] at h0
   exact h0.symm)
  rw [hn] at hrow
  have hw1 : IntKind.u64.wrap (n : Int) = (n : Int) := by rw [IntKind.wrap_u64]; omega
  have hw2 : IntKind.u64.wrap ((n : Int) + 1) = (n : Int) + 1 := by rw [IntKind.wrap_u64]; omega
  clear hn
  by_cases hv : ver = (n : Int) + 1
  ·have g : (ver != (n : Int) + 1) = false := by simp [hv]
   obtain rfl : 0 = m := by rw [<- An.o, if_pos hv]
   clear hv An
   rcases h123 with rfl | rfl | rfl
   all_goals
    go_wp2_with fail
    go_quiet (fail)
    go_wp2_with fail
    go_ret
    exact ⟨rfl, Aa.o.trans ((ag_ _ _).mono Aa.o.size)⟩
  have g : (ver != (n : Int) + 1) = true := by simpa using hv
  obtain rfl : 1 = m := by rw [<- An.o, if_neg hv]
  clear hv An
  rcases h123 with rfl | rfl | rfl
  all_goals
   go_wp2_with fail
   go_quiet (fail)
   go_wp2_with fail
   go_ret
   exact ⟨rfl, Aa.o.trans ((ag_ _ _).mono Aa.o.size)⟩
 have g1 : (op == 1) = false := by simp; omega
 have g2 : (op == 2) = false := by simp; omega
 have g3 : (op == 3) = false := by simp; omega
 by_cases h4 : op = 4
 ·subst h4
  obtain ⟨i0, ir, hit⟩ : ∃ i0 ir, x.resp.items = i0 :: ir := by
   cases e : x.resp.items with
   | nil => exact absurd e (HG.o.items Ab.o)
   | cons a b => exact ⟨a, b, rfl⟩
  have An := kp (show c4_ grace ws key i0 tim = m by rw [<- HM.o, <- Ap.o, <- Ah.o]; unfold aH_; rw [if_neg (by rw [Ab.o]; omega), if_pos Ab.o, hit])
  obtain ⟨-, ⟨-, Ai, ci, hvi, hel⟩, -⟩ := Aw.o
  rw [hit] at hvi hel
  obtain ⟨b, off, vi0, rfl, hbB, hcel, hdat⟩ := hel 0 i0 rfl
  have hv0 := HG.o.vers i0 (by rw [hit]; simp)
  obtain ⟨nI, hnI⟩ := eY ((i0 :: ir).length)
  have hn0 : (0 : Int) < (nI : Int) := by rw [<- hnI]; simp <;> omega
  rw [hnI] at hvi
  have r2 := Ao.o
  rw [hvi] at r2
  have H141 := kp (fun (W : World) (hW : Bw wc W) => An.o ▸ fy_ K grace ws key i0 vi0 tim W ((Ad.o.below hW (lR _)).mono hW.size) ((hdat.below hW (lR _)).mono hW.size) hv0)
  unfold ptV aD_ at H141
  unfold aD_ at hcel
  obtain ⟨Ar, F34, F36, F40⟩ := kq4 hcel.regrown (cell_kept Tryz.isAgg9 c1) (cell_kept Tryz.isAgg37 r2) (cell_kept Tryz.isAgg34 x22)
  clear hvi hel hcel hdat hv0 hit hnI h123 An
  go_wp2_with fail
  refine wp_region_quiet_below (by kernel_rfl) (by kernel_rfl) ?_
  repeat (first
   | ((with_reducible refine aa_ (o := ⟨some 34, _, _, _, _, _⟩) 9 _ rfl ⟨C, 1, none⟩ ?_ (.string key) F34.o ?_ ?_); (· rfl); (· rfl); simp only [Act.put, z1, z2, z3])
   | ((with_reducible refine aa_ (o := ⟨some 36, _, _, _, _, _⟩) 37 _ rfl ⟨R, 2, none⟩ ?_ (.slice (some ⟨b, off, none⟩) nI ci) F36.o ?_ ?_); (· rfl); (· rfl); simp only [Act.put, z1, z2, z3])
   | ((with_reducible refine aa_ (o := ⟨some 40, _, _, _, _, _⟩) 34 _ rfl ⟨X, 22, none⟩ ?_ (.int .u64 tim) F40.o ?_ ?_); (· rfl); (· rfl); simp only [Act.put, z1, z2, z3])
   | ((with_reducible refine ay_ (o := ⟨some 38, _, _, _, _, _⟩) rfl 78 _ rfl ⟨b, off + 0 * 4, none⟩ ?_ [.int .i64 i0.mark, vi0, .int .u64 i0.ver, .int .u64 i0.dead] _ Ar.o Tryz.underlying78 rfl (bH_ _ _ _ _) ?_); (· rfl); simp only [Act.put, z1, z2, z3])
   | go_big_quiet_step ((go_at_call 141; exact Calls.regrown_of (H141.o _ (below_regrown _ _ _)))))
  refine wpQuiet_nil ?_
  intro W3 hW3
  have hb3 := an_ hW3
  clear hW3
  go_wp2_with fail
  go_ret
  exact ⟨rfl, Aa.o.trans (hb3.mono Aa.o.size)⟩
 have g4 : (op == 4) = false := by simpa using h4
 by_cases h5 : op = 5
 ·subst h5
  obtain ⟨⟨⟨-, Ak, ck, ek, helk⟩, -, -⟩, ⟨-, Ai, ci, ei, hel⟩, -⟩ := Aw.o
  obtain ⟨nK, hnK⟩ := eY x.cmd.keys.length
  obtain ⟨nI, hnI⟩ := eY x.resp.items.length
  have hIm : nI <= 9223372036854775807 /\ nK <= 9223372036854775807 := by
   have h1 := Aw.o.1.1.1
   have h2 := Aw.o.2.1.1
   unfold maxLen at h1 h2
   omega
  obtain ⟨hIm1, hIm2⟩ := hIm
  have Bj := kp (show bV_ grace ws tim x.cmd.keys x.resp.items = m by rw [<- HM.o, <- Ah.o]; unfold aH_; rw [if_neg (by rw [Ab.o]; omega), if_neg (by rw [Ab.o]; omega), if_pos Ab.o])
  rw [hnK] at ek
  rw [hnI] at ei
  obtain ⟨As, Ao, Bc, Bl, Bf, Bg, Ba⟩ := kq7 (ek ▸ As.o) (ei ▸ Ao.o) helk hel hnK hnI x22
  have Bh := kp (show C < wc.heap.size /\ R < wc.heap.size from ⟨eW_ As.o, eW_ Ao.o⟩)
  have cc2 := As.o
  have cr2 := Ao.o
  clear ek ei helk hel hnK hnI
  go_wp2_with fail
  go_loopw [7] (fun s7 wr => ∃ i : Nat, i <= nK /\ i <= nI /\ s7 = .int .i64 i /\ Hid (bV_ grace ws tim (x.cmd.keys.drop i) (x.resp.items.drop i) = m) /\ Hid (Bw wc wr)) (fun j _ => nI - (intOf j).toNat)
  case atStart => exact ⟨0, by omega, by omega, by go_num, kp Bj.o, kp (BR _ _)⟩
  obtain ⟨i, hi1, hi2, rfl, HF, HW⟩ := hrel
  have k2 := (HW.o.cell (p := ⟨C, 2, none⟩) Bh.o.1).trans As.o
  have q2 := (HW.o.cell (p := ⟨R, 2, none⟩) Bh.o.2).trans Ao.o
  have q22 := (HW.o.cell (p := ⟨X, 22, none⟩) Bi.o).trans Ba.o
  clear cc2 cr2 x22 c0 c1 r3 r4
  by_cases hI : i < nI
  ·have hg1 : decide ((i : Int) < (nI : Int)) = true := eT_ (by omega)
   have hj1 : (i : Int) < (nI : Int) := by omega
   by_cases hK : i < nK
   ·have hg2 : decide ((i : Int) < (nK : Int)) = true := eT_ (by omega)
    have hj2 : (i : Int) < (nK : Int) := by omega
    obtain ⟨k, hk⟩ : ∃ k, x.cmd.keys[i]? = some k := ⟨_, gE (by rw [Bf.o]; exact hK)⟩
    obtain ⟨it, hit⟩ : ∃ k, x.resp.items[i]? = some k := ⟨_, gE (by rw [Bg.o]; exact hI)⟩
    obtain ⟨bk, ok, rfl, hbk, ck1⟩ := Bc.o.below HW.o (lR _) i k hk
    obtain ⟨bi, oi, vi0, rfl, hbi, hcel, hdat⟩ := Bl.o.below HW.o (lR _) i it hit
    have hv0 := HG.o.vers it (mG hit)
    obtain ⟨mi, hmi⟩ := eY (c4_ grace ws k it tim)
    obtain ⟨Ag, H141⟩ := kq2 (show (if mi ≠ 0 then mi else bV_ grace ws tim (x.cmd.keys.drop (i + 1)) (x.resp.items.drop (i + 1))) = m by rw [<- hmi, <- hd_ hk hit]; exact HF.o) (fun (W : World) (hW : Bw wr W) => hmi ▸ fy_ K grace ws k it vi0 tim W ((Ad.o.below (HW.o.trans (hW.mono HW.o.size)) (lR _)).mono (lT HW.o.size hW.size)) ((hdat.below hW HW.o.size).mono (lT HW.o.size hW.size)) hv0)
    unfold ptV aD_ at H141
    unfold aD_ at hcel
    obtain ⟨Ar, F60, F63, F65, F70⟩ := kq5 hcel.regrown (cell_kept Tryz.isAgg32 k2) (cell_kept Tryz.isAgg9 ck1) (cell_kept Tryz.isAgg37 q2) (cell_kept Tryz.isAgg34 q22)
    clear hk hit hcel hdat hv0 hmi hI hK
    go_wp2_with fail
    refine wp_region_quiet_below (by kernel_rfl) (by kernel_rfl) ?_
    repeat (first
     | ((with_reducible refine aa_ (o := ⟨some 60, _, _, _, _, _⟩) 32 _ rfl ⟨C, 2, none⟩ ?_ (.slice (some ⟨bk, ok, none⟩) nK ck) F60.o ?_ ?_); (· rfl); (· rfl); simp only [Act.put, z1, z2, z3])
     | ((with_reducible refine aa_ (o := ⟨some 63, _, _, _, _, _⟩) 9 _ rfl ⟨bk, ok + i, none⟩ ?_ (.string k) F63.o ?_ ?_); (· rfl); (· rfl); simp only [Act.put, z1, z2, z3])
     | ((with_reducible refine aa_ (o := ⟨some 65, _, _, _, _, _⟩) 37 _ rfl ⟨R, 2, none⟩ ?_ (.slice (some ⟨bi, oi, none⟩) nI ci) F65.o ?_ ?_); (· rfl); (· rfl); simp only [Act.put, z1, z2, z3])
     | ((with_reducible refine aa_ (o := ⟨some 70, _, _, _, _, _⟩) 34 _ rfl ⟨X, 22, none⟩ ?_ (.int .u64 tim) F70.o ?_ ?_); (· rfl); (· rfl); simp only [Act.put, z1, z2, z3])
     | ((with_reducible refine ay_ (o := ⟨some 68, _, _, _, _, _⟩) rfl 78 _ rfl ⟨bi, oi + i * 4, none⟩ ?_ [.int .i64 it.mark, vi0, .int .u64 it.ver, .int .u64 it.dead] _ Ar.o Tryz.underlying78 rfl (bH_ _ _ _ _) ?_); (· rfl); simp only [Act.put, z1, z2, z3])
     | go_big_quiet_step ((go_at_call 141; exact Calls.regrown_of (H141.o _ (below_regrown _ _ _)))))
    refine wpQuiet_nil ?_
    intro W3 hW3
    have hb3 := an_ hW3
    clear hW3
    have Bd := kp (HW.o.trans (hb3.mono HW.o.size))
    clear hb3
    by_cases hmz : mi = 0
    ·subst hmz
     have Bk := kp (show bV_ grace ws tim (x.cmd.keys.drop (i + 1)) (x.resp.items.drop (i + 1)) = m by have := Ag.o; rwa [if_neg (by omega)] at this)
     go_wp2_with fail
     go_roundw
     case rel => exact ⟨i + 1, by omega, by omega, by go_num, Bk, Bd⟩
     simp [intOf]; omega
    have g7 : (mi != 0) = true := by simpa using hmz
    obtain rfl : mi = m := by have := Ag.o; rwa [if_pos hmz] at this
    go_wp2_with fail
    go_ret
    exact ⟨rfl, Aa.o.trans (Bd.o.mono Aa.o.size)⟩
   have hg2 : decide ((i : Int) < (nK : Int)) = false := eF (by omega)
   obtain rfl : 0 = m := by rw [<- HF.o, eB_ (by rw [Bf.o]; omega)]
   go_wp2_with fail
   go_ret
   exact ⟨rfl, Aa.o.trans (HW.o.mono Aa.o.size)⟩
  have hg1 : decide ((i : Int) < (nI : Int)) = false := eF (by omega)
  obtain rfl : 0 = m := by rw [<- HF.o, eA_ (by rw [Bg.o]; omega)]
  go_wp2_with fail
  go_ret
  exact ⟨rfl, Aa.o.trans (HW.o.mono Aa.o.size)⟩
 have g5 : (op == 5) = false := by simpa using h5
 by_cases h67 : op = 6 ∨ op = 7
 ·by_cases hc1 : cnt = 1
  ·subst hc1
   obtain ⟨Am, H87⟩ := kq2 (show dG_ grace ws key tim = m by rw [<- HM.o, <- Ah.o, <- Ap.o]; unfold aH_; rw [if_neg (by rw [Ab.o]; exact h123), if_neg (by rw [Ab.o]; exact h4), if_neg (by rw [Ab.o]; exact h5), if_pos (by rw [Ab.o]; exact ⟨h67, Aq.o⟩)]) (em_ K grace ws key wc.heap.size wc Ad.o)
   unfold dG_ at Am
   unfold ptV at H87
   cases hli : aN_ ws key with
   | none =>
    rw [hli] at Am H87
    obtain rfl : 1 = m := Am.o
    have hl0 : jG_ none = -1 := rfl
    rw [hl0] at H87
    clear Am hli hl0
    rcases h67 with rfl | rfl
    all_goals
     go_wp2_with fail
     refine H87.o.mono ?_
     rintro e w3 ⟨rfl, hw3⟩
     subst hw3
     go_wp2_with fail
     go_ret
     exact ⟨rfl, Aa.o⟩
   | some i =>
    obtain ⟨y, hy, -⟩ := bD_ ws key i hli
    rw [hli] at Am H87
    have Ae := kp (show (if y.gone ≠ 0 then y.gone else if cc_ tim y.dl y.soft grace = 0 then 4 else 0) = m by have := Am.o; simpa only [hy] using this)
    have hl0 : jG_ (some i) = (i : Int) := rfl
    rw [hl0] at H87
    obtain ⟨A, c, hrow, hel⟩ := Ad.o.row
    obtain ⟨b, off, vv, vt, rfl, hbB, hcel, hdat, ts, hts, -⟩ := hel i y hy
    obtain ⟨n, hn⟩ := eY ws.length
    have hin : (i : Int) < (n : Int) := by have := (gS.1 hy).1; omega
    have hn5 : n <= 5000 := by rw [<- hn]; exact Ad.o.few
    rw [hn] at hrow
    have hgi : decide ((i : Int) < 0) = false := eF (by omega)
    obtain ⟨nv, Av, cv, rfl⟩ : ∃ nv Av cv, vv = .slice Av nv cv := by
     obtain ⟨_, _, A, c, h, _⟩ := hdat
     exact ⟨_, _, _, h⟩
    obtain ⟨nt, At, ct, rfl⟩ : ∃ nt At ct, vt = .slice At nt ct := by
     obtain ⟨_, A, c, h, _⟩ := hts
     exact ⟨_, _, _, h⟩
    have hsoft := Ad.o.soft y (mG hy)
    obtain ⟨mk, hmk⟩ := eY (cc_ tim y.dl y.soft grace)
    have H142 := kp (fun (W : World) (hW : Bw wc W) => hmk ▸ fx_ K tim y.dl y.soft grace y.key (.slice Av nv cv) (.slice At nt ct) y.gone rfl rfl hsoft Ad.o.isT W (lL Ad.o.ltJ hW.size) ((hW.cell (p := ⟨K, 0, none⟩) Ad.o.ltJ).trans Ad.o.grc))
    obtain ⟨yk, hyk⟩ := eY y.key
    obtain ⟨dl, hdl⟩ := eY y.dl
    obtain ⟨soft, hso⟩ := eY y.soft
    obtain ⟨gone, hgo⟩ := eY y.gone
    rw [hmk] at Ae
    rw [hyk, hdl, hso, hgo] at hcel H142
    rw [hgo] at Ae
    unfold cW_ at hcel H142
    obtain ⟨d0, d1, d2, d3, d4, d5⟩ := cR_ hcel
    obtain ⟨Ar, F108, F113⟩ := kq3 hcel.regrown (cell_kept Tryz.isAgg142 hrow) (cell_kept Tryz.isAgg34 x22)
    clear hy hel hdat hts hcel hsoft hmk hyk hdl hso hgo hn Am hli hl0 d0 d1 d2 d3 d5
    by_cases hg0 : gone = 0
    ·subst hg0
     rcases h67 with rfl | rfl
     all_goals
      go_wp2_with fail
      refine H87.o.mono ?_
      rintro e w3 ⟨rfl, hw3⟩
      subst hw3
      clear H87
      go_wp2_with fail
      refine wp_region_quiet_below (by kernel_rfl) (by kernel_rfl) ?_
      repeat (first
       | ((with_reducible refine aa_ (o := ⟨some 108, _, _, _, _, _⟩) 142 _ rfl ⟨K, 1, none⟩ ?_ (.slice (some ⟨b, off, none⟩) n c) F108.o ?_ ?_); (· rfl); (· rfl); simp only [Act.put, z1, z2, z3])
       | ((with_reducible refine aa_ (o := ⟨some 113, _, _, _, _, _⟩) 34 _ rfl ⟨X, 22, none⟩ ?_ (.int .u64 tim) F113.o ?_ ?_); (· rfl); (· rfl); simp only [Act.put, z1, z2, z3])
       | ((with_reducible refine ay_ (o := ⟨some 111, _, _, _, _, _⟩) rfl 233 _ rfl ⟨b, off + i * 6, none⟩ ?_ [.string yk, .slice Av nv cv, .slice At nt ct, .int .u64 dl, .int .i64 0, .int .u64 soft] _ Ar.o Tryz.underlying233 rfl (wrt_size _ _ _ _ _ _) ?_); (· rfl); simp only [Act.put, z1, z2, z3])
       | go_big_quiet_step ((go_at_call 142; exact Calls.regrown_of (H142.o _ (below_regrown _ _ _)))))
      refine wpQuiet_nil ?_
      intro W3 hW3
      have hb3 := an_ hW3
      clear hW3
      by_cases hmz : mk = 0
      ·subst hmz
       obtain rfl : 4 = m := by rw [<- Ae.o]; simp
       go_wp2_with fail
       go_ret
       exact ⟨rfl, Aa.o.trans (hb3.mono Aa.o.size)⟩
      have g8 : (mk == 0) = false := by simpa using hmz
      obtain rfl : 0 = m := by rw [<- Ae.o]; simp [hmz]
      go_wp2_with fail
      go_ret
      exact ⟨rfl, Aa.o.trans (hb3.mono Aa.o.size)⟩
    have g8 : (gone != 0) = true := by simpa using hg0
    obtain rfl : gone = m := by rw [<- Ae.o, if_pos hg0]
    rcases h67 with rfl | rfl
    all_goals
     go_wp2_with fail
     refine H87.o.mono ?_
     rintro e w3 ⟨rfl, hw3⟩
     subst hw3
     go_wp2_with fail
     go_ret
     exact ⟨rfl, Aa.o⟩
  have gc : (cnt != 1) = true := by simpa using hc1
  obtain rfl : 0 = m := by rw [<- HM.o]; unfold aH_; rw [Ab.o, if_neg h123, if_neg h4, if_neg h5, if_neg (by rw [Aq.o]; exact fun h => hc1 h.2)]
  rcases h67 with rfl | rfl
  all_goals
   go_wp2_with fail
   go_ret
   exact ⟨rfl, Aa.o⟩
 have g6 : (op == 6) = false := by simp; omega
 have g7 : (op == 7) = false := by simp; omega
 obtain rfl : 0 = m := by
  rw [<- HM.o]
  unfold aH_
  rw [Ab.o, if_neg h123, if_neg h4, if_neg h5, if_neg (fun h => h67 h.1)]
 go_wp2_with fail
 go_ret
 exact ⟨rfl, Aa.o⟩
end Go.Proofs.YtnjhpgmbfblgaaaGreat.Ord
