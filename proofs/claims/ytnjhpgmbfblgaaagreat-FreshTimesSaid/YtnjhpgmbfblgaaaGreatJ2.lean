/- Walk of the reference's. -/
import Derived.Test.YtnjhpgmbfblgaaaGreatJ1
import Derived.Test.YtnjhpgmbfblgaaaGreatN14
set_option linter.unusedVariables false
set_option linter.unusedSimpArgs false
namespace Go.Proofs.YtnjhpgmbfblgaaaGreat.Ord
set_option maxRecDepth 100000
set_option maxHeartbeats 16000000
open Go.RowKit
theorem single58 (x : CallR) (p : CallV) (hs : CallS x) (w : World) (hok : CallOk w w.heap.size x p) :
  Calls Tryz.prog 58 #[.agg (callC x p).toArray] w (SPost x w) := by
 obtain ⟨⟨⟨_, Ak, ck, hvk, _⟩, ⟨_, _, Av, cv, hvv, _⟩, ⟨_, At, ct, hvt, _⟩⟩, ⟨⟨_, Ai, ci, hvi, _⟩, _, An, cn, hvn, _⟩⟩ := id hok
 obtain ⟨nk, hnk⟩ := eY x.cmd.keys.length
 obtain ⟨nv, hnv⟩ := eY x.cmd.val.length
 obtain ⟨nt, hnt⟩ := eY x.cmd.tags.length
 obtain ⟨ni, hni⟩ := eY x.resp.items.length
 obtain ⟨nn, hnn⟩ := eY x.resp.nums.length
 rw [hnk] at hvk
 rw [hnv] at hvv
 rw [hnt] at hvt
 rw [hni] at hvi
 rw [hnn] at hvn
 obtain ⟨ses, hses⟩ := eY x.ses
 obtain ⟨asked, hask⟩ := eY x.asked
 obtain ⟨done, hdone⟩ := eY x.done
 obtain ⟨told, htold⟩ := eY x.told
 obtain ⟨tim, htim⟩ := eY x.tim
 obtain ⟨bad, hbad⟩ := eY x.bad
 obtain ⟨cop, hcop⟩ := eY x.cmd.op
 obtain ⟨rop, hrop⟩ := eY x.resp.op
 have hC10 : cmdC x.cmd p.vk p.vv p.vt = [.int .i64 cop, .string x.cmd.key, .slice Ak nk ck, .slice Av nv cv, .slice At nt ct, .int .u64 x.cmd.life, .int .u64 x.cmd.ver, .string x.cmd.tag, .string x.cmd.pre, .string x.cmd.chi] := by rw [hvk, hvv, hvt, <- hcop]; rfl
 have hR6 : respC x.resp p.vi p.vn = [.int .i64 rop, .int .i64 x.resp.err, .slice Ai ni ci, .int .u64 x.resp.ver, .int .i64 x.resp.count, .slice An nn cn] := by rw [hvi, hvn, <- hrop]; rfl
 have hL : callC x p = [.int .i64 ses, .int .i64 x.num, .bool bad, .int .i64 cop, .string x.cmd.key, .slice Ak nk ck, .slice Av nv cv, .slice At nt ct, .int .u64 x.cmd.life, .int .u64 x.cmd.ver, .string x.cmd.tag, .string x.cmd.pre, .string x.cmd.chi, .int .i64 rop, .int .i64 x.resp.err, .slice Ai ni ci, .int .u64 x.resp.ver, .int .i64 x.resp.count, .slice An nn cn, .int .i64 asked, .int .i64 done, .int .i64 told, .int .u64 tim] := by unfold callC; rw [hvk, hvv, hvt, hvi, hvn, hses, hbad, hcop, hrop, hask, hdone, htold, htim]; rfl
 have hB := below1 w (.cells #[.int .i64 ses, .int .i64 x.num, .bool bad, .int .i64 cop, .string x.cmd.key, .slice Ak nk ck, .slice Av nv cv, .slice At nt ct, .int .u64 x.cmd.life, .int .u64 x.cmd.ver, .string x.cmd.tag, .string x.cmd.pre, .string x.cmd.chi, .int .i64 rop, .int .i64 x.resp.err, .slice Ai ni ci, .int .u64 x.resp.ver, .int .i64 x.resp.count, .slice An nn cn, .int .i64 asked, .int .i64 done, .int .i64 told, .int .u64 tim] 52)
 have hr := RowL.new w 52 [.int .i64 ses, .int .i64 x.num, .bool bad, .int .i64 cop, .string x.cmd.key, .slice Ak nk ck, .slice Av nv cv, .slice At nt ct, .int .u64 x.cmd.life, .int .u64 x.cmd.ver, .string x.cmd.tag, .string x.cmd.pre, .string x.cmd.chi, .int .i64 rop, .int .i64 x.resp.err, .slice Ai ni ci, .int .u64 x.resp.ver, .int .i64 x.resp.count, .slice An nn cn, .int .i64 asked, .int .i64 done, .int .i64 told, .int .u64 tim]
 obtain ⟨W1, hW1⟩ := eX (w.alloc (.cells #[.int .i64 ses, .int .i64 x.num, .bool bad, .int .i64 cop, .string x.cmd.key, .slice Ak nk ck, .slice Av nv cv, .slice At nt ct, .int .u64 x.cmd.life, .int .u64 x.cmd.ver, .string x.cmd.tag, .string x.cmd.pre, .string x.cmd.chi, .int .i64 rop, .int .i64 x.resp.err, .slice Ai ni ci, .int .u64 x.resp.ver, .int .i64 x.resp.count, .slice An nn cn, .int .i64 asked, .int .i64 done, .int .i64 told, .int .u64 tim] 52))
 rw [<- hW1] at hB hr
 have hok1 := (hok.below hB (lR _)).mono hB.size
 obtain ⟨Ax, HB, HR, HS, As, Ba, Ag, Ac, Af, Az, Ar, Ap⟩ := kq12 (fun (W : World) (hb : Bw W1 W) => (hok1.below hb (lR _)).mono hb.size) hB hr hs hC10 hR6 hask hdone htold hses htim hbad
 obtain ⟨Ay, Am⟩ := kq2 hcop hrop
 rw [hL]
 clear hok hok1 hs hL hB hr hvk hvv hvt hvi hvn hnk hnv hnt hni hnn hC10 hR6 hses hask hdone htold htim hbad hcop hrop
 go_enter Tryz.func58, Tryz.ntmps58
 go_upto_region 1 with (fail)
 rw [<- hW1]
 clear hW1
 have z0 : W1.cell? ⟨w.heap.size, 0, none⟩ = some (.int .i64 ses) := HR.o.cell (j := 0) rfl
 have z2 : W1.cell? ⟨w.heap.size, 2, none⟩ = some (.bool bad) := HR.o.cell (j := 2) rfl
 have z19 : W1.cell? ⟨w.heap.size, 19, none⟩ = some (.int .i64 asked) := HR.o.cell (j := 19) rfl
 have z20 : W1.cell? ⟨w.heap.size, 20, none⟩ = some (.int .i64 done) := HR.o.cell (j := 20) rfl
 have z21 : W1.cell? ⟨w.heap.size, 21, none⟩ = some (.int .i64 told) := HR.o.cell (j := 21) rfl
 have z22 : W1.cell? ⟨w.heap.size, 22, none⟩ = some (.int .u64 tim) := HR.o.cell (j := 22) rfl
 by_cases loasked : asked < 0
 ·have gl : decide (asked < 0) = true := by simp; omega
  have Aa := kp (show singleB x = false from aL_ (by unfold rngB bZ_; rw [Ag.o]; simp; omega))
  go_wp2_with (fail)
  go_ret
  exact rb Aa.o HB.o
 have glasked : decide (asked < 0) = false := by simp; omega
 by_cases hiasked : 4096 <= asked
 ·have gh : decide (4096 <= asked) = true := by simp; omega
  have Aa := kp (show singleB x = false from aL_ (by unfold rngB bZ_; rw [Ag.o]; simp; omega))
  go_wp2_with (fail)
  go_ret
  exact rb Aa.o HB.o
 have ghasked : decide (4096 <= asked) = false := by simp; omega
 by_cases lodone : done < -1
 ·have gl : decide (done < -1) = true := by simp; omega
  have Aa := kp (show singleB x = false from aL_ (by unfold rngB bZ_; rw [Ac.o]; simp; omega))
  go_wp2_with (fail)
  go_ret
  exact rb Aa.o HB.o
 have gldone : decide (done < -1) = false := by simp; omega
 by_cases hidone : 4096 <= done
 ·have gh : decide (4096 <= done) = true := by simp; omega
  have Aa := kp (show singleB x = false from aL_ (by unfold rngB bZ_; rw [Ac.o]; simp; omega))
  go_wp2_with (fail)
  go_ret
  exact rb Aa.o HB.o
 have ghdone : decide (4096 <= done) = false := by simp; omega
 by_cases lotold : told < -1
 ·have gl : decide (told < -1) = true := by simp; omega
  have Aa := kp (show singleB x = false from aL_ (by unfold rngB bZ_; rw [Af.o]; simp; omega))
  go_wp2_with (fail)
  go_ret
  exact rb Aa.o HB.o
 have gltold : decide (told < -1) = false := by simp; omega
 by_cases hitold : 4096 <= told
 ·have gh : decide (4096 <= told) = true := by simp; omega
  have Aa := kp (show singleB x = false from aL_ (by unfold rngB bZ_; rw [Af.o]; simp; omega))
  go_wp2_with (fail)
  go_ret
  exact rb Aa.o HB.o
 have ghtold : decide (4096 <= told) = false := by simp; omega
 by_cases loses : ses < 0
 ·have gl : decide (ses < 0) = true := by simp; omega
  have Aa := kp (show singleB x = false from aL_ (by unfold rngB bZ_; rw [Az.o]; simp; omega))
  go_wp2_with (fail)
  go_ret
  exact rb Aa.o HB.o
 have glses : decide (ses < 0) = false := by simp; omega
 by_cases hises : 4096 <= ses
 ·have gh : decide (4096 <= ses) = true := by simp; omega
  have Aa := kp (show singleB x = false from aL_ (by unfold rngB bZ_; rw [Az.o]; simp; omega))
  go_wp2_with (fail)
  go_ret
  exact rb Aa.o HB.o
 have ghses : decide (4096 <= ses) = false := by simp; omega
 obtain ⟨Aw, Ab⟩ := kq2 (show rngB x = true by unfold rngB bZ_; rw [Ag.o, Ac.o, Af.o, Az.o]; simp; omega) (HR.o.of_block (w := W1) ((BR W1.heap.size W1).block _ HR.o.lt))
 have Ah : Hid (CellsAt W1 ⟨w.heap.size, 3, none⟩ [.int .i64 cop, .string x.cmd.key, .slice Ak nk ck, .slice Av nv cv, .slice At nt ct, .int .u64 x.cmd.life, .int .u64 x.cmd.ver, .string x.cmd.tag, .string x.cmd.pre, .string x.cmd.chi]) := kp (CellsAt.slice Ab.o.cells 3 10)
 have Aj : Hid (CellsAt W1 ⟨w.heap.size, 13, none⟩ [.int .i64 rop, .int .i64 x.resp.err, .slice Ai ni ci, .int .u64 x.resp.ver, .int .i64 x.resp.count, .slice An nn cn]) := kp (CellsAt.slice Ab.o.cells 13 6)
 by_cases d0 : 0 <= done
 ·have g0 : decide (0 <= done) = true := by simp; omega
  by_cases d1 : done <= asked
  ·have g1 : decide (done <= asked) = true := by simp; omega
   have Aa := kp (show singleB x = false from bn_ (by unfold ordB; rw [Ag.o, Ac.o]; simp; omega))
   go_wp2_with (fail)
   go_ret
   exact rb Aa.o HB.o
  have g1 : decide (done <= asked) = false := by simp; omega
  have gd1 : (done == -1) = false := by simp; omega
  by_cases t2 : 0 <= told
  ·have g2 : decide (0 <= told) = true := by simp; omega
   by_cases t3 : told <= asked
   ·have g3 : decide (told <= asked) = true := by simp; omega
    have Aa := kp (show singleB x = false from bn_ (by unfold ordB; rw [Ag.o, Ac.o, Af.o]; simp; omega))
    go_wp2_with (fail)
    go_ret
    exact rb Aa.o HB.o
   have g3 : decide (told <= asked) = false := by simp; omega
   by_cases t4 : told <= done
   ·have g4 : decide (told <= done) = true := by simp; omega
    have Aa := kp (show singleB x = false from bn_ (by unfold ordB; rw [Ag.o, Ac.o, Af.o]; simp; omega))
    go_wp2_with (fail)
    go_ret
    exact rb Aa.o HB.o
   have g4 : decide (told <= done) = false := by simp; omega
   have Ao := kp (show ordB x = true by unfold ordB; rw [Ag.o, Ac.o, Af.o]; simp; omega)
   cases bad
   ·go_wp2_with ((with_reducible refine ac_ (o := ⟨some 98, _, _, _, _, _⟩) 36 _ rfl ⟨w.heap.size, 3, none⟩ ?_ _ _ Ah.o Tryz.underlying36 rfl ?_ ?_ ?_); (· rfl); (· kernel_rfl); (· rfl))
    refine (aT_ ((cg_ x.cmd HS.o.cmd p.vk p.vv p.vt W1 (Ax.o W1 (BR W1.heap.size W1)).1).mono fun e w' h => (⟨h.1, h.2⟩ : e = .returned (.bool (aJ_ x.cmd)) /\ Below (W1).heap.size (W1) w')) (by rw [As.o] <;> rfl)).mono ?_
    rintro e w3 ⟨rfl, hb3⟩
    have Ad := kp ((BR W1.heap.size W1).trans (hb3.mono (BR W1.heap.size W1).size))
    have Ae : Hid (x.bad = false) := Ap
    clear hb3
    cases hvc : aJ_ x.cmd
    ·skip
     have Aa := kp (show singleB x = false from ak_ (by unfold cntB; rw [Ae.o, hvc]; rfl))
     go_wp2_with (fail)
     go_ret
     exact rb Aa.o (HB.o.trans (Ad.o.mono HB.o.size))
    clear Ah Aj Ab
    have Ab := kp (HR.o.of_block (w := W1) (Ad.o.block _ HR.o.lt))
    have Ah : Hid (CellsAt w3 ⟨w.heap.size, 3, none⟩ [.int .i64 cop, .string x.cmd.key, .slice Ak nk ck, .slice Av nv cv, .slice At nt ct, .int .u64 x.cmd.life, .int .u64 x.cmd.ver, .string x.cmd.tag, .string x.cmd.pre, .string x.cmd.chi]) := kp (CellsAt.slice Ab.o.cells 3 10)
    have Aj : Hid (CellsAt w3 ⟨w.heap.size, 13, none⟩ [.int .i64 rop, .int .i64 x.resp.err, .slice Ai ni ci, .int .u64 x.resp.ver, .int .i64 x.resp.count, .slice An nn cn]) := kp (CellsAt.slice Ab.o.cells 13 6)
    have v0 : w3.cell? ⟨w.heap.size, 0, none⟩ = some (.int .i64 ses) := Ab.o.cell (j := 0) rfl
    have v3 : w3.cell? ⟨w.heap.size, 3, none⟩ = some (.int .i64 cop) := Ab.o.cell (j := 3) rfl
    have v19 : w3.cell? ⟨w.heap.size, 19, none⟩ = some (.int .i64 asked) := Ab.o.cell (j := 19) rfl
    have v20 : w3.cell? ⟨w.heap.size, 20, none⟩ = some (.int .i64 done) := Ab.o.cell (j := 20) rfl
    have v21 : w3.cell? ⟨w.heap.size, 21, none⟩ = some (.int .i64 told) := Ab.o.cell (j := 21) rfl
    have v22 : w3.cell? ⟨w.heap.size, 22, none⟩ = some (.int .u64 tim) := Ab.o.cell (j := 22) rfl
    go_wp2_with ((with_reducible refine ac_ (o := ⟨some 119, _, _, _, _, _⟩) 40 _ rfl ⟨w.heap.size, 13, none⟩ ?_ _ _ Aj.o Tryz.underlying40 rfl ?_ ?_ ?_); (· rfl); (· kernel_rfl); (· rfl))
    refine (aT_ ((ch_ x.resp HS.o.resp p.vi p.vn w3 (Ax.o w3 Ad.o).2).mono fun e w' h => (⟨h.1.trans (by rw [f5_ x.resp HS.o.resp]), h.2⟩ : e = .returned (.bool (aX_ x.resp)) /\ Below (w3).heap.size (w3) w')) (by rw [Ba.o] <;> rfl)).mono ?_
    rintro e w4 ⟨rfl, hb4⟩
    obtain ⟨Bb, Al⟩ := kq2 hb4 (Ad.o.trans (hb4.mono Ad.o.size))
    have u3 : w4.cell? ⟨w.heap.size, 3, none⟩ = some (.int .i64 cop) := (Ab.o.of_block (hb4.block _ Ab.o.lt)).cell rfl
    have u13 : w4.cell? ⟨w.heap.size, 13, none⟩ = some (.int .i64 rop) := (Ab.o.of_block (hb4.block _ Ab.o.lt)).cell rfl
    clear hb4
    cases hvr : aX_ x.resp
    ·skip
     have Aa := kp (show singleB x = false from ak_ (by unfold cntB; rw [Ae.o, Ac.o, hvr]; simp; omega))
     go_wp2_with (fail)
     go_ret
     exact rb Aa.o (HB.o.trans (Al.o.mono HB.o.size))
    by_cases q0 : rop = cop
    ·have gq : (rop == cop) = true := by simpa using q0
     have Aq := kp q0
     clear q0
     have Aa := kp (show singleB x = true from ba_ Aw.o Ao.o (by unfold cntB; rw [Ae.o, Ac.o, Am.o, Ay.o, hvr, hvc, Aq.o]; simp; omega))
     go_wp2_with (fail)
     go_ret
     exact rb Aa.o (HB.o.trans (Al.o.mono HB.o.size))
    have gq : (rop == cop) = false := by simpa using q0
    have Aq := kp q0
    clear q0
    have Aa := kp (show singleB x = false from ak_ (by unfold cntB; rw [Ae.o, Ac.o, Am.o, Ay.o, hvc]; simp [Aq.o]; omega))
    go_wp2_with (fail)
    go_ret
    exact rb Aa.o (HB.o.trans (Al.o.mono HB.o.size))
   have Ae : Hid (x.bad = true) := Ap
   have Aa := kp (show singleB x = false from ak_ (by unfold cntB; rw [Ae.o, Ac.o]; simp; omega))
   go_wp2_with (fail)
   go_ret
   exact rb Aa.o (HB.o.trans ((BR W1.heap.size W1).mono HB.o.size))
  have g2 : decide (0 <= told) = false := by simp; omega
  have Ao := kp (show ordB x = true by unfold ordB; rw [Ag.o, Ac.o, Af.o]; simp; omega)
  cases bad
  ·go_wp2_with ((with_reducible refine ac_ (o := ⟨some 98, _, _, _, _, _⟩) 36 _ rfl ⟨w.heap.size, 3, none⟩ ?_ _ _ Ah.o Tryz.underlying36 rfl ?_ ?_ ?_); (· rfl); (· kernel_rfl); (· rfl))
   refine (aT_ ((cg_ x.cmd HS.o.cmd p.vk p.vv p.vt W1 (Ax.o W1 (BR W1.heap.size W1)).1).mono fun e w' h => (⟨h.1, h.2⟩ : e = .returned (.bool (aJ_ x.cmd)) /\ Below (W1).heap.size (W1) w')) (by rw [As.o] <;> rfl)).mono ?_
   rintro e w3 ⟨rfl, hb3⟩
   have Ad := kp ((BR W1.heap.size W1).trans (hb3.mono (BR W1.heap.size W1).size))
   have Ae : Hid (x.bad = false) := Ap
   clear hb3
   cases hvc : aJ_ x.cmd
   ·skip
    have Aa := kp (show singleB x = false from ak_ (by unfold cntB; rw [Ae.o, hvc]; rfl))
    go_wp2_with (fail)
    go_ret
    exact rb Aa.o (HB.o.trans (Ad.o.mono HB.o.size))
   clear Ah Aj Ab
   have Ab := kp (HR.o.of_block (w := W1) (Ad.o.block _ HR.o.lt))
   have Ah : Hid (CellsAt w3 ⟨w.heap.size, 3, none⟩ [.int .i64 cop, .string x.cmd.key, .slice Ak nk ck, .slice Av nv cv, .slice At nt ct, .int .u64 x.cmd.life, .int .u64 x.cmd.ver, .string x.cmd.tag, .string x.cmd.pre, .string x.cmd.chi]) := kp (CellsAt.slice Ab.o.cells 3 10)
   have Aj : Hid (CellsAt w3 ⟨w.heap.size, 13, none⟩ [.int .i64 rop, .int .i64 x.resp.err, .slice Ai ni ci, .int .u64 x.resp.ver, .int .i64 x.resp.count, .slice An nn cn]) := kp (CellsAt.slice Ab.o.cells 13 6)
   have v0 : w3.cell? ⟨w.heap.size, 0, none⟩ = some (.int .i64 ses) := Ab.o.cell (j := 0) rfl
   have v3 : w3.cell? ⟨w.heap.size, 3, none⟩ = some (.int .i64 cop) := Ab.o.cell (j := 3) rfl
   have v19 : w3.cell? ⟨w.heap.size, 19, none⟩ = some (.int .i64 asked) := Ab.o.cell (j := 19) rfl
   have v20 : w3.cell? ⟨w.heap.size, 20, none⟩ = some (.int .i64 done) := Ab.o.cell (j := 20) rfl
   have v21 : w3.cell? ⟨w.heap.size, 21, none⟩ = some (.int .i64 told) := Ab.o.cell (j := 21) rfl
   have v22 : w3.cell? ⟨w.heap.size, 22, none⟩ = some (.int .u64 tim) := Ab.o.cell (j := 22) rfl
   go_wp2_with ((with_reducible refine ac_ (o := ⟨some 119, _, _, _, _, _⟩) 40 _ rfl ⟨w.heap.size, 13, none⟩ ?_ _ _ Aj.o Tryz.underlying40 rfl ?_ ?_ ?_); (· rfl); (· kernel_rfl); (· rfl))
   refine (aT_ ((ch_ x.resp HS.o.resp p.vi p.vn w3 (Ax.o w3 Ad.o).2).mono fun e w' h => (⟨h.1.trans (by rw [f5_ x.resp HS.o.resp]), h.2⟩ : e = .returned (.bool (aX_ x.resp)) /\ Below (w3).heap.size (w3) w')) (by rw [Ba.o] <;> rfl)).mono ?_
   rintro e w4 ⟨rfl, hb4⟩
   obtain ⟨Bb, Al⟩ := kq2 hb4 (Ad.o.trans (hb4.mono Ad.o.size))
   have u3 : w4.cell? ⟨w.heap.size, 3, none⟩ = some (.int .i64 cop) := (Ab.o.of_block (hb4.block _ Ab.o.lt)).cell rfl
   have u13 : w4.cell? ⟨w.heap.size, 13, none⟩ = some (.int .i64 rop) := (Ab.o.of_block (hb4.block _ Ab.o.lt)).cell rfl
   clear hb4
   cases hvr : aX_ x.resp
   ·skip
    have Aa := kp (show singleB x = false from ak_ (by unfold cntB; rw [Ae.o, Ac.o, hvr]; simp; omega))
    go_wp2_with (fail)
    go_ret
    exact rb Aa.o (HB.o.trans (Al.o.mono HB.o.size))
   by_cases q0 : rop = cop
   ·have gq : (rop == cop) = true := by simpa using q0
    have Aq := kp q0
    clear q0
    have Aa := kp (show singleB x = true from ba_ Aw.o Ao.o (by unfold cntB; rw [Ae.o, Ac.o, Am.o, Ay.o, hvr, hvc, Aq.o]; simp; omega))
    go_wp2_with (fail)
    go_ret
    exact rb Aa.o (HB.o.trans (Al.o.mono HB.o.size))
   have gq : (rop == cop) = false := by simpa using q0
   have Aq := kp q0
   clear q0
   have Aa := kp (show singleB x = false from ak_ (by unfold cntB; rw [Ae.o, Ac.o, Am.o, Ay.o, hvc]; simp [Aq.o]; omega))
   go_wp2_with (fail)
   go_ret
   exact rb Aa.o (HB.o.trans (Al.o.mono HB.o.size))
  have Ae : Hid (x.bad = true) := Ap
  have Aa := kp (show singleB x = false from ak_ (by unfold cntB; rw [Ae.o, Ac.o]; simp; omega))
  go_wp2_with (fail)
  go_ret
  exact rb Aa.o (HB.o.trans ((BR W1.heap.size W1).mono HB.o.size))
 have g0 : decide (0 <= done) = false := by simp; omega
 have gd1 : (done == -1) = true := by simp; omega
 by_cases t2 : 0 <= told
 ·have g2 : decide (0 <= told) = true := by simp; omega
  by_cases t3 : told <= asked
  ·have g3 : decide (told <= asked) = true := by simp; omega
   have Aa := kp (show singleB x = false from bn_ (by unfold ordB; rw [Ag.o, Ac.o, Af.o]; simp; omega))
   go_wp2_with (fail)
   go_ret
   exact rb Aa.o HB.o
  have g3 : decide (told <= asked) = false := by simp; omega
  have g4 : decide (told <= done) = false := by simp; omega
  have Ao := kp (show ordB x = true by unfold ordB; rw [Ag.o, Ac.o, Af.o]; simp; omega)
  cases bad
  ·go_wp2_with ((with_reducible refine ac_ (o := ⟨some 98, _, _, _, _, _⟩) 36 _ rfl ⟨w.heap.size, 3, none⟩ ?_ _ _ Ah.o Tryz.underlying36 rfl ?_ ?_ ?_); (· rfl); (· kernel_rfl); (· rfl))
   refine (aT_ ((cg_ x.cmd HS.o.cmd p.vk p.vv p.vt W1 (Ax.o W1 (BR W1.heap.size W1)).1).mono fun e w' h => (⟨h.1, h.2⟩ : e = .returned (.bool (aJ_ x.cmd)) /\ Below (W1).heap.size (W1) w')) (by rw [As.o] <;> rfl)).mono ?_
   rintro e w3 ⟨rfl, hb3⟩
   have Ad := kp ((BR W1.heap.size W1).trans (hb3.mono (BR W1.heap.size W1).size))
   have Ae : Hid (x.bad = false) := Ap
   clear hb3
   cases hvc : aJ_ x.cmd
   ·skip
    have Aa := kp (show singleB x = false from ak_ (by unfold cntB; rw [Ae.o, hvc]; rfl))
    go_wp2_with (fail)
    go_ret
    exact rb Aa.o (HB.o.trans (Ad.o.mono HB.o.size))
   clear Ah Aj Ab
   have Ab := kp (HR.o.of_block (w := W1) (Ad.o.block _ HR.o.lt))
   have Ah : Hid (CellsAt w3 ⟨w.heap.size, 3, none⟩ [.int .i64 cop, .string x.cmd.key, .slice Ak nk ck, .slice Av nv cv, .slice At nt ct, .int .u64 x.cmd.life, .int .u64 x.cmd.ver, .string x.cmd.tag, .string x.cmd.pre, .string x.cmd.chi]) := kp (CellsAt.slice Ab.o.cells 3 10)
   have Aj : Hid (CellsAt w3 ⟨w.heap.size, 13, none⟩ [.int .i64 rop, .int .i64 x.resp.err, .slice Ai ni ci, .int .u64 x.resp.ver, .int .i64 x.resp.count, .slice An nn cn]) := kp (CellsAt.slice Ab.o.cells 13 6)
   have v0 : w3.cell? ⟨w.heap.size, 0, none⟩ = some (.int .i64 ses) := Ab.o.cell (j := 0) rfl
   have v3 : w3.cell? ⟨w.heap.size, 3, none⟩ = some (.int .i64 cop) := Ab.o.cell (j := 3) rfl
   have v19 : w3.cell? ⟨w.heap.size, 19, none⟩ = some (.int .i64 asked) := Ab.o.cell (j := 19) rfl
   have v20 : w3.cell? ⟨w.heap.size, 20, none⟩ = some (.int .i64 done) := Ab.o.cell (j := 20) rfl
   have v21 : w3.cell? ⟨w.heap.size, 21, none⟩ = some (.int .i64 told) := Ab.o.cell (j := 21) rfl
   have v22 : w3.cell? ⟨w.heap.size, 22, none⟩ = some (.int .u64 tim) := Ab.o.cell (j := 22) rfl
   have gt : (told == -1) = false := by simp; omega
   have Aa := kp (show singleB x = false from ak_ (i4_ Ae.o (by rw [Ac.o]; omega) (by rw [Af.o]; omega)))
   go_wp2_with (fail)
   go_ret
   exact rb Aa.o (HB.o.trans (Ad.o.mono HB.o.size))
  have Ae : Hid (x.bad = true) := Ap
  by_cases t1 : tim = 0
  ·have gm : (tim == 0) = true := by simpa using t1
   have Au := kp t1
   clear t1
   go_wp2_with (first | ((with_reducible refine ac_ (o := ⟨some 82, _, _, _, _, _⟩) 36 _ rfl ⟨w.heap.size, 3, none⟩ ?_ _ _ Ah.o Tryz.underlying36 rfl ?_ ?_ ?_); (· rfl); (· kernel_rfl); (· rfl)) | ((with_reducible refine ac_ (o := ⟨some 88, _, _, _, _, _⟩) 40 _ rfl ⟨w.heap.size, 13, none⟩ ?_ _ _ Aj.o Tryz.underlying40 rfl ?_ ?_ ?_); (· rfl); (· kernel_rfl); (· rfl)))
   refine (aT_ (cmd44 x.cmd cmdZ p.vk p.vv p.vt (.slice none 0 0) (.slice none 0 0) (.slice none 0 0) W1 (Ax.o W1 (BR W1.heap.size W1)).1 (in_ _ _)) (by rw [As.o] <;> rfl)).mono ?_
   rintro e w3 ⟨rfl, hb3⟩
   obtain ⟨Bc, Ad⟩ := kq2 hb3 ((BR W1.heap.size W1).trans (hb3.mono (BR W1.heap.size W1).size))
   clear hb3
   cases hce : cl_ x.cmd cmdZ
   ·skip
    have Aa := kp (show singleB x = false from ak_ (by unfold cntB; rw [Ae.o, hce]; simp))
    go_wp2_with (fail)
    go_ret
    exact rb Aa.o (HB.o.trans (Ad.o.mono HB.o.size))
   clear Ah Aj Ab
   have Ab := kp (HR.o.of_block (w := W1) (Ad.o.block _ HR.o.lt))
   have Ah : Hid (CellsAt w3 ⟨w.heap.size, 3, none⟩ [.int .i64 cop, .string x.cmd.key, .slice Ak nk ck, .slice Av nv cv, .slice At nt ct, .int .u64 x.cmd.life, .int .u64 x.cmd.ver, .string x.cmd.tag, .string x.cmd.pre, .string x.cmd.chi]) := kp (CellsAt.slice Ab.o.cells 3 10)
   have Aj : Hid (CellsAt w3 ⟨w.heap.size, 13, none⟩ [.int .i64 rop, .int .i64 x.resp.err, .slice Ai ni ci, .int .u64 x.resp.ver, .int .i64 x.resp.count, .slice An nn cn]) := kp (CellsAt.slice Ab.o.cells 13 6)
   go_wp2_with (first | ((with_reducible refine ac_ (o := ⟨some 82, _, _, _, _, _⟩) 36 _ rfl ⟨w.heap.size, 3, none⟩ ?_ _ _ Ah.o Tryz.underlying36 rfl ?_ ?_ ?_); (· rfl); (· kernel_rfl); (· rfl)) | ((with_reducible refine ac_ (o := ⟨some 88, _, _, _, _, _⟩) 40 _ rfl ⟨w.heap.size, 13, none⟩ ?_ _ _ Aj.o Tryz.underlying40 rfl ?_ ?_ ?_); (· rfl); (· kernel_rfl); (· rfl)))
   refine (aT_ ((ch_ x.resp HS.o.resp p.vi p.vn w3 (Ax.o w3 Ad.o).2).mono fun e w' h => (⟨h.1.trans (by rw [f5_ x.resp HS.o.resp]), h.2⟩ : e = .returned (.bool (aX_ x.resp)) /\ Below (w3).heap.size (w3) w')) (by rw [Ba.o] <;> rfl)).mono ?_
   rintro e w4 ⟨rfl, hb4⟩
   have Al := kp (Ad.o.trans (hb4.mono Ad.o.size))
   have u13 : w4.cell? ⟨w.heap.size, 13, none⟩ = some (.int .i64 rop) := (Ab.o.of_block (hb4.block _ Ab.o.lt)).cell rfl
   clear hb4
   cases hvr : aX_ x.resp
   ·skip
    have Aa := kp (show singleB x = false from ak_ (by unfold cntB; rw [Ae.o, hvr]; simp))
    go_wp2_with (fail)
    go_ret
    exact rb Aa.o (HB.o.trans (Al.o.mono HB.o.size))
   by_cases q0 : rop = 0
   ·have gq : (rop == 0) = true := by simpa using q0
    have Aq := kp q0
    clear q0
    have Aa := kp (show singleB x = true from ba_ Aw.o Ao.o (by unfold cntB; rw [Ae.o, Ac.o, Ar.o, Am.o, hvr, hce, Au.o, Aq.o]; simp; omega))
    go_wp2_with (fail)
    go_ret
    exact rb Aa.o (HB.o.trans (Al.o.mono HB.o.size))
   have gq : (rop == 0) = false := by simpa using q0
   have Aq := kp q0
   clear q0
   have Aa := kp (show singleB x = false from ak_ (by unfold cntB; rw [Ae.o, Am.o]; simp [Aq.o]))
   go_wp2_with (fail)
   go_ret
   exact rb Aa.o (HB.o.trans (Al.o.mono HB.o.size))
  have gm : (tim == 0) = false := by simpa using t1
  have Au := kp t1
  clear t1
  have Aa := kp (show singleB x = false from ak_ (by unfold cntB; rw [Ae.o, Ar.o]; simp [Au.o]))
  go_wp2_with (fail)
  go_ret
  exact rb Aa.o (HB.o.trans ((BR W1.heap.size W1).mono HB.o.size))
 have g2 : decide (0 <= told) = false := by simp; omega
 have Ao := kp (show ordB x = true by unfold ordB; rw [Ag.o, Ac.o, Af.o]; simp; omega)
 cases bad
 ·go_wp2_with ((with_reducible refine ac_ (o := ⟨some 98, _, _, _, _, _⟩) 36 _ rfl ⟨w.heap.size, 3, none⟩ ?_ _ _ Ah.o Tryz.underlying36 rfl ?_ ?_ ?_); (· rfl); (· kernel_rfl); (· rfl))
  refine (aT_ ((cg_ x.cmd HS.o.cmd p.vk p.vv p.vt W1 (Ax.o W1 (BR W1.heap.size W1)).1).mono fun e w' h => (⟨h.1, h.2⟩ : e = .returned (.bool (aJ_ x.cmd)) /\ Below (W1).heap.size (W1) w')) (by rw [As.o] <;> rfl)).mono ?_
  rintro e w3 ⟨rfl, hb3⟩
  have Ad := kp ((BR W1.heap.size W1).trans (hb3.mono (BR W1.heap.size W1).size))
  have Ae : Hid (x.bad = false) := Ap
  clear hb3
  cases hvc : aJ_ x.cmd
  ·skip
   have Aa := kp (show singleB x = false from ak_ (by unfold cntB; rw [Ae.o, hvc]; rfl))
   go_wp2_with (fail)
   go_ret
   exact rb Aa.o (HB.o.trans (Ad.o.mono HB.o.size))
  clear Ah Aj Ab
  have Ab := kp (HR.o.of_block (w := W1) (Ad.o.block _ HR.o.lt))
  have Ah : Hid (CellsAt w3 ⟨w.heap.size, 3, none⟩ [.int .i64 cop, .string x.cmd.key, .slice Ak nk ck, .slice Av nv cv, .slice At nt ct, .int .u64 x.cmd.life, .int .u64 x.cmd.ver, .string x.cmd.tag, .string x.cmd.pre, .string x.cmd.chi]) := kp (CellsAt.slice Ab.o.cells 3 10)
  have Aj : Hid (CellsAt w3 ⟨w.heap.size, 13, none⟩ [.int .i64 rop, .int .i64 x.resp.err, .slice Ai ni ci, .int .u64 x.resp.ver, .int .i64 x.resp.count, .slice An nn cn]) := kp (CellsAt.slice Ab.o.cells 13 6)
  have v0 : w3.cell? ⟨w.heap.size, 0, none⟩ = some (.int .i64 ses) := Ab.o.cell (j := 0) rfl
  have v3 : w3.cell? ⟨w.heap.size, 3, none⟩ = some (.int .i64 cop) := Ab.o.cell (j := 3) rfl
  have v19 : w3.cell? ⟨w.heap.size, 19, none⟩ = some (.int .i64 asked) := Ab.o.cell (j := 19) rfl
  have v20 : w3.cell? ⟨w.heap.size, 20, none⟩ = some (.int .i64 done) := Ab.o.cell (j := 20) rfl
  have v21 : w3.cell? ⟨w.heap.size, 21, none⟩ = some (.int .i64 told) := Ab.o.cell (j := 21) rfl
  have v22 : w3.cell? ⟨w.heap.size, 22, none⟩ = some (.int .u64 tim) := Ab.o.cell (j := 22) rfl
  have gt : (told == -1) = true := by simp; omega
  by_cases t1 : tim = 0
  ·have gm : (tim == 0) = true := by simpa using t1
   have Au := kp t1
   clear t1
   go_wp2_with ((with_reducible refine ac_ (o := ⟨some 114, _, _, _, _, _⟩) 40 _ rfl ⟨w.heap.size, 13, none⟩ ?_ _ _ Aj.o Tryz.underlying40 rfl ?_ ?_ ?_); (· rfl); (· kernel_rfl); (· rfl))
   refine (aT_ (resp45 x.resp (ap_ 0 0) p.vi p.vn (.slice none 0 0) (.slice none 0 0) w3 (Ax.o w3 Ad.o).2 (gF_ _ _ _ _)) (by rw [Ba.o] <;> rfl)).mono ?_
   rintro e w4 ⟨rfl, hb4⟩
   have Al := kp (Ad.o.trans (hb4.mono Ad.o.size))
   cases hre : bd_ x.resp (ap_ 0 0)
   ·skip
    have Aa := kp (show singleB x = false from ak_ (by unfold cntB; rw [Ae.o, Ac.o, Af.o, hre]; simp; omega))
    go_wp2_with (fail)
    go_ret
    exact rb Aa.o (HB.o.trans (Al.o.mono HB.o.size))
   skip
   have Aa := kp (show singleB x = true from ba_ Aw.o Ao.o (i3_ Ae.o (by rw [Ac.o]; omega) (by rw [Af.o]; omega) (by rw [Ar.o]; exact Au.o) hvc hre))
   go_wp2_with (fail)
   go_ret
   exact rb Aa.o (HB.o.trans (Al.o.mono HB.o.size))
  have gm : (tim == 0) = false := by simpa using t1
  have Au := kp t1
  clear t1
  have Aa := kp (show singleB x = false from ak_ (by unfold cntB; rw [Ae.o, Ac.o, Ar.o]; simp [Au.o]; omega))
  go_wp2_with (fail)
  go_ret
  exact rb Aa.o (HB.o.trans (Ad.o.mono HB.o.size))
 have Ae : Hid (x.bad = true) := Ap
 by_cases t1 : tim = 0
 ·have gm : (tim == 0) = true := by simpa using t1
  have Au := kp t1
  clear t1
  go_wp2_with (first | ((with_reducible refine ac_ (o := ⟨some 82, _, _, _, _, _⟩) 36 _ rfl ⟨w.heap.size, 3, none⟩ ?_ _ _ Ah.o Tryz.underlying36 rfl ?_ ?_ ?_); (· rfl); (· kernel_rfl); (· rfl)) | ((with_reducible refine ac_ (o := ⟨some 88, _, _, _, _, _⟩) 40 _ rfl ⟨w.heap.size, 13, none⟩ ?_ _ _ Aj.o Tryz.underlying40 rfl ?_ ?_ ?_); (· rfl); (· kernel_rfl); (· rfl)))
  refine (aT_ (cmd44 x.cmd cmdZ p.vk p.vv p.vt (.slice none 0 0) (.slice none 0 0) (.slice none 0 0) W1 (Ax.o W1 (BR W1.heap.size W1)).1 (in_ _ _)) (by rw [As.o] <;> rfl)).mono ?_
  rintro e w3 ⟨rfl, hb3⟩
  obtain ⟨Bc, Ad⟩ := kq2 hb3 ((BR W1.heap.size W1).trans (hb3.mono (BR W1.heap.size W1).size))
  clear hb3
  cases hce : cl_ x.cmd cmdZ
  ·skip
   have Aa := kp (show singleB x = false from ak_ (by unfold cntB; rw [Ae.o, hce]; simp))
   go_wp2_with (fail)
   go_ret
   exact rb Aa.o (HB.o.trans (Ad.o.mono HB.o.size))
  clear Ah Aj Ab
  have Ab := kp (HR.o.of_block (w := W1) (Ad.o.block _ HR.o.lt))
  have Ah : Hid (CellsAt w3 ⟨w.heap.size, 3, none⟩ [.int .i64 cop, .string x.cmd.key, .slice Ak nk ck, .slice Av nv cv, .slice At nt ct, .int .u64 x.cmd.life, .int .u64 x.cmd.ver, .string x.cmd.tag, .string x.cmd.pre, .string x.cmd.chi]) := kp (CellsAt.slice Ab.o.cells 3 10)
  have Aj : Hid (CellsAt w3 ⟨w.heap.size, 13, none⟩ [.int .i64 rop, .int .i64 x.resp.err, .slice Ai ni ci, .int .u64 x.resp.ver, .int .i64 x.resp.count, .slice An nn cn]) := kp (CellsAt.slice Ab.o.cells 13 6)
  go_wp2_with (first | ((with_reducible refine ac_ (o := ⟨some 82, _, _, _, _, _⟩) 36 _ rfl ⟨w.heap.size, 3, none⟩ ?_ _ _ Ah.o Tryz.underlying36 rfl ?_ ?_ ?_); (· rfl); (· kernel_rfl); (· rfl)) | ((with_reducible refine ac_ (o := ⟨some 88, _, _, _, _, _⟩) 40 _ rfl ⟨w.heap.size, 13, none⟩ ?_ _ _ Aj.o Tryz.underlying40 rfl ?_ ?_ ?_); (· rfl); (· kernel_rfl); (· rfl)))
  refine (aT_ ((ch_ x.resp HS.o.resp p.vi p.vn w3 (Ax.o w3 Ad.o).2).mono fun e w' h => (⟨h.1.trans (by rw [f5_ x.resp HS.o.resp]), h.2⟩ : e = .returned (.bool (aX_ x.resp)) /\ Below (w3).heap.size (w3) w')) (by rw [Ba.o] <;> rfl)).mono ?_
  rintro e w4 ⟨rfl, hb4⟩
  have Al := kp (Ad.o.trans (hb4.mono Ad.o.size))
  have u13 : w4.cell? ⟨w.heap.size, 13, none⟩ = some (.int .i64 rop) := (Ab.o.of_block (hb4.block _ Ab.o.lt)).cell rfl
  clear hb4
  cases hvr : aX_ x.resp
  ·skip
   have Aa := kp (show singleB x = false from ak_ (by unfold cntB; rw [Ae.o, hvr]; simp))
   go_wp2_with (fail)
   go_ret
   exact rb Aa.o (HB.o.trans (Al.o.mono HB.o.size))
  by_cases q0 : rop = 0
  ·have gq : (rop == 0) = true := by simpa using q0
   have Aq := kp q0
   clear q0
   have Aa := kp (show singleB x = true from ba_ Aw.o Ao.o (by unfold cntB; rw [Ae.o, Ac.o, Ar.o, Am.o, hvr, hce, Au.o, Aq.o]; simp; omega))
   go_wp2_with (fail)
   go_ret
   exact rb Aa.o (HB.o.trans (Al.o.mono HB.o.size))
  have gq : (rop == 0) = false := by simpa using q0
  have Aq := kp q0
  clear q0
  have Aa := kp (show singleB x = false from ak_ (by unfold cntB; rw [Ae.o, Am.o]; simp [Aq.o]))
  go_wp2_with (fail)
  go_ret
  exact rb Aa.o (HB.o.trans (Al.o.mono HB.o.size))
 have gm : (tim == 0) = false := by simpa using t1
 have Au := kp t1
 clear t1
 have Aa := kp (show singleB x = false from ak_ (by unfold cntB; rw [Ae.o, Ar.o]; simp [Au.o]))
 go_wp2_with (fail)
 go_ret
 exact rb Aa.o (HB.o.trans ((BR W1.heap.size W1).mono HB.o.size))
end Go.Proofs.YtnjhpgmbfblgaaaGreat.Ord
