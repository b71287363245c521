/- Walk of the reference's single. -/
import Derived.Test.YtnjhpgmbfblgaaaGreatJ1
import Derived.Test.YtnjhpgmbfblgaaaGreatN14
namespace Go.Proofs.YtnjhpgmbfblgaaaGreat.Ord
set_option maxRecDepth 100000
set_option maxHeartbeats 16000000
open Go.RowKit
set_option linter.unusedVariables false
set_option linter.unusedSimpArgs false
theorem single58 (x : CallR) (p : CallV) (hs : CallS x) (w : World) (hok : CallOk w w.heap.size x p) :
  Calls Tryz.prog 58 #[.agg (callC x p).toArray] w (SPost x w) := by
 obtain ⟨⟨⟨_, Ak, ck, hvk, _⟩, ⟨_, _, Av, cv, hvv, _⟩, ⟨_, At, ct, hvt, _⟩⟩, ⟨⟨_, Ai, ci, hvi, _⟩, _, An, cn, hvn, _⟩⟩ := id hok
 obtain ⟨nk, hnk⟩ : ∃ n, x.cmd.keys.length = n := ⟨_, rfl⟩
 obtain ⟨nv, hnv⟩ : ∃ n, x.cmd.val.length = n := ⟨_, rfl⟩
 obtain ⟨nt, hnt⟩ : ∃ n, x.cmd.tags.length = n := ⟨_, rfl⟩
 obtain ⟨ni, hni⟩ : ∃ n, x.resp.items.length = n := ⟨_, rfl⟩
 obtain ⟨nn, hnn⟩ : ∃ n, x.resp.nums.length = n := ⟨_, rfl⟩
 rw [hnk] at hvk
 rw [hnv] at hvv
 rw [hnt] at hvt
 rw [hni] at hvi
 rw [hnn] at hvn
 obtain ⟨ses, hses⟩ : ∃ y, x.ses = y := ⟨_, rfl⟩
 obtain ⟨asked, hask⟩ : ∃ y, x.asked = y := ⟨_, rfl⟩
 obtain ⟨done, hdone⟩ : ∃ y, x.done = y := ⟨_, rfl⟩
 obtain ⟨told, htold⟩ : ∃ y, x.told = y := ⟨_, rfl⟩
 obtain ⟨tim, htim⟩ : ∃ y, x.tim = y := ⟨_, rfl⟩
 obtain ⟨bad, hbad⟩ : ∃ y, x.bad = y := ⟨_, rfl⟩
 obtain ⟨cop, hcop⟩ : ∃ y, x.cmd.op = y := ⟨_, rfl⟩
 obtain ⟨rop, hrop⟩ : ∃ y, x.resp.op = y := ⟨_, rfl⟩
 have hC10 : cmdC x.cmd p.vk p.vv p.vt = [.int .i64 cop, .string x.cmd.key, .slice Ak nk ck, .slice Av nv cv, .slice At nt ct, .int .u64 x.cmd.life, .int .u64 x.cmd.ver, .string x.cmd.tag, .string x.cmd.pre, .string x.cmd.chi] := by rw [hvk, hvv, hvt, <- hcop]; rfl
 have hR6 : respC x.resp p.vi p.vn = [.int .i64 rop, .int .i64 x.resp.err, .slice Ai ni ci, .int .u64 x.resp.ver, .int .i64 x.resp.count, .slice An nn cn] := by rw [hvi, hvn, <- hrop]; rfl
 have hL : callC x p = [.int .i64 ses, .int .i64 x.num, .bool bad, .int .i64 cop, .string x.cmd.key, .slice Ak nk ck, .slice Av nv cv, .slice At nt ct, .int .u64 x.cmd.life, .int .u64 x.cmd.ver, .string x.cmd.tag, .string x.cmd.pre, .string x.cmd.chi, .int .i64 rop, .int .i64 x.resp.err, .slice Ai ni ci, .int .u64 x.resp.ver, .int .i64 x.resp.count, .slice An nn cn, .int .i64 asked, .int .i64 done, .int .i64 told, .int .u64 tim] := by unfold callC; rw [hvk, hvv, hvt, hvi, hvn, hses, hbad, hcop, hrop, hask, hdone, htold, htim]; rfl
 have hB := below1 w (.cells #[.int .i64 ses, .int .i64 x.num, .bool bad, .int .i64 cop, .string x.cmd.key, .slice Ak nk ck, .slice Av nv cv, .slice At nt ct, .int .u64 x.cmd.life, .int .u64 x.cmd.ver, .string x.cmd.tag, .string x.cmd.pre, .string x.cmd.chi, .int .i64 rop, .int .i64 x.resp.err, .slice Ai ni ci, .int .u64 x.resp.ver, .int .i64 x.resp.count, .slice An nn cn, .int .i64 asked, .int .i64 done, .int .i64 told, .int .u64 tim] 52)
 have hr := RowL.new w 52 [.int .i64 ses, .int .i64 x.num, .bool bad, .int .i64 cop, .string x.cmd.key, .slice Ak nk ck, .slice Av nv cv, .slice At nt ct, .int .u64 x.cmd.life, .int .u64 x.cmd.ver, .string x.cmd.tag, .string x.cmd.pre, .string x.cmd.chi, .int .i64 rop, .int .i64 x.resp.err, .slice Ai ni ci, .int .u64 x.resp.ver, .int .i64 x.resp.count, .slice An nn cn, .int .i64 asked, .int .i64 done, .int .i64 told, .int .u64 tim]
 obtain ⟨W1, hW1⟩ : ∃ W, W = w.alloc (.cells #[.int .i64 ses, .int .i64 x.num, .bool bad, .int .i64 cop, .string x.cmd.key, .slice Ak nk ck, .slice Av nv cv, .slice At nt ct, .int .u64 x.cmd.life, .int .u64 x.cmd.ver, .string x.cmd.tag, .string x.cmd.pre, .string x.cmd.chi, .int .i64 rop, .int .i64 x.resp.err, .slice Ai ni ci, .int .u64 x.resp.ver, .int .i64 x.resp.count, .slice An nn cn, .int .i64 asked, .int .i64 done, .int .i64 told, .int .u64 tim] 52) := ⟨_, rfl⟩
 rw [<- hW1] at hB hr
 have hok1 := (hok.below hB (Nat.le_refl _)).mono hB.size
 have HOK := kp (fun (W : World) (hb : Below W1.heap.size W1 W) => (hok1.below hb (Nat.le_refl _)).mono hb.size)
 have HB := kp hB
 have HR := kp hr
 have HS := kp hs
 have HC10 := kp hC10
 have HR6 := kp hR6
 have HASK := kp hask
 have HDON := kp hdone
 have HTLD := kp htold
 have HSES := kp hses
 have HTIM := kp htim
 have HBAD := kp hbad
 have HCOP := kp hcop
 have HROP := kp hrop
 rw [hL]
 clear hok hok1 hs hL hB hr hvk hvv hvt hvi hvn hnk hnv hnt hni hnn hC10 hR6 hses hask hdone htold htim hbad hcop hrop
 go_enter Tryz.func58, Tryz.ntmps58
 go_upto_region 1 with (fail)
 rw [<- hW1]
 clear hW1
 have z0 : W1.cell? ⟨w.heap.size, 0, none⟩ = some (.int .i64 ses) := HR.out.cell (j := 0) rfl
 have z2 : W1.cell? ⟨w.heap.size, 2, none⟩ = some (.bool bad) := HR.out.cell (j := 2) rfl
 have z19 : W1.cell? ⟨w.heap.size, 19, none⟩ = some (.int .i64 asked) := HR.out.cell (j := 19) rfl
 have z20 : W1.cell? ⟨w.heap.size, 20, none⟩ = some (.int .i64 done) := HR.out.cell (j := 20) rfl
 have z21 : W1.cell? ⟨w.heap.size, 21, none⟩ = some (.int .i64 told) := HR.out.cell (j := 21) rfl
 have z22 : W1.cell? ⟨w.heap.size, 22, none⟩ = some (.int .u64 tim) := HR.out.cell (j := 22) rfl
 by_cases loasked : asked < 0
 ·have gl : decide (asked < 0) = true := by simp; omega
  have HFF := kp (show singleB x = false from single_rng (by unfold rngB stepB; rw [HASK.out]; simp; omega))
  go_wp2_with (fail)
  go_ret
  exact rb HFF.out HB.out
 have glasked : decide (asked < 0) = false := by simp; omega
 by_cases hiasked : 4096 <= asked
 ·have gh : decide (4096 <= asked) = true := by simp; omega
  have HFF := kp (show singleB x = false from single_rng (by unfold rngB stepB; rw [HASK.out]; simp; omega))
  go_wp2_with (fail)
  go_ret
  exact rb HFF.out HB.out
 have ghasked : decide (4096 <= asked) = false := by simp; omega
 by_cases lodone : done < -1
 ·have gl : decide (done < -1) = true := by simp; omega
  have HFF := kp (show singleB x = false from single_rng (by unfold rngB stepB; rw [HDON.out]; simp; omega))
  go_wp2_with (fail)
  go_ret
  exact rb HFF.out HB.out
 have gldone : decide (done < -1) = false := by simp; omega
 by_cases hidone : 4096 <= done
 ·have gh : decide (4096 <= done) = true := by simp; omega
  have HFF := kp (show singleB x = false from single_rng (by unfold rngB stepB; rw [HDON.out]; simp; omega))
  go_wp2_with (fail)
  go_ret
  exact rb HFF.out HB.out
 have ghdone : decide (4096 <= done) = false := by simp; omega
 by_cases lotold : told < -1
 ·have gl : decide (told < -1) = true := by simp; omega
  have HFF := kp (show singleB x = false from single_rng (by unfold rngB stepB; rw [HTLD.out]; simp; omega))
  go_wp2_with (fail)
  go_ret
  exact rb HFF.out HB.out
 have gltold : decide (told < -1) = false := by simp; omega
 by_cases hitold : 4096 <= told
 ·have gh : decide (4096 <= told) = true := by simp; omega
  have HFF := kp (show singleB x = false from single_rng (by unfold rngB stepB; rw [HTLD.out]; simp; omega))
  go_wp2_with (fail)
  go_ret
  exact rb HFF.out HB.out
 have ghtold : decide (4096 <= told) = false := by simp; omega
 by_cases loses : ses < 0
 ·have gl : decide (ses < 0) = true := by simp; omega
  have HFF := kp (show singleB x = false from single_rng (by unfold rngB stepB; rw [HSES.out]; simp; omega))
  go_wp2_with (fail)
  go_ret
  exact rb HFF.out HB.out
 have glses : decide (ses < 0) = false := by simp; omega
 by_cases hises : 4096 <= ses
 ·have gh : decide (4096 <= ses) = true := by simp; omega
  have HFF := kp (show singleB x = false from single_rng (by unfold rngB stepB; rw [HSES.out]; simp; omega))
  go_wp2_with (fail)
  go_ret
  exact rb HFF.out HB.out
 have ghses : decide (4096 <= ses) = false := by simp; omega
 have HRNG := kp (show rngB x = true by unfold rngB stepB; rw [HASK.out, HDON.out, HTLD.out, HSES.out]; simp; omega)
 have HRW := kp (HR.out.of_block (w := W1) ((Below.refl W1.heap.size W1).block _ HR.out.lt))
 have HCC : Hid (CellsAt W1 ⟨w.heap.size, 3, none⟩ [.int .i64 cop, .string x.cmd.key, .slice Ak nk ck, .slice Av nv cv, .slice At nt ct, .int .u64 x.cmd.life, .int .u64 x.cmd.ver, .string x.cmd.tag, .string x.cmd.pre, .string x.cmd.chi]) := kp (CellsAt.slice HRW.out.cells 3 10)
 have HCR : Hid (CellsAt W1 ⟨w.heap.size, 13, none⟩ [.int .i64 rop, .int .i64 x.resp.err, .slice Ai ni ci, .int .u64 x.resp.ver, .int .i64 x.resp.count, .slice An nn cn]) := kp (CellsAt.slice HRW.out.cells 13 6)
 by_cases d0 : 0 <= done
 ·have g0 : decide (0 <= done) = true := by simp; omega
  by_cases d1 : done <= asked
  ·have g1 : decide (done <= asked) = true := by simp; omega
   have HFF := kp (show singleB x = false from single_ord (by unfold ordB; rw [HASK.out, HDON.out]; simp; omega))
   go_wp2_with (fail)
   go_ret
   exact rb HFF.out HB.out
  have g1 : decide (done <= asked) = false := by simp; omega
  have gd1 : (done == -1) = false := by simp; omega
  by_cases t2 : 0 <= told
  ·have g2 : decide (0 <= told) = true := by simp; omega
   by_cases t3 : told <= asked
   ·have g3 : decide (told <= asked) = true := by simp; omega
    have HFF := kp (show singleB x = false from single_ord (by unfold ordB; rw [HASK.out, HDON.out, HTLD.out]; simp; omega))
    go_wp2_with (fail)
    go_ret
    exact rb HFF.out HB.out
   ·have g3 : decide (told <= asked) = false := by simp; omega
    by_cases t4 : told <= done
    ·have g4 : decide (told <= done) = true := by simp; omega
     have HFF := kp (show singleB x = false from single_ord (by unfold ordB; rw [HASK.out, HDON.out, HTLD.out]; simp; omega))
     go_wp2_with (fail)
     go_ret
     exact rb HFF.out HB.out
    ·have g4 : decide (told <= done) = false := by simp; omega
     have HORD := kp (show ordB x = true by unfold ordB; rw [HASK.out, HDON.out, HTLD.out]; simp; omega)
     cases bad
     ·go_wp2_with ((with_reducible refine wpList_load_want (o := ⟨some 98, _, _, _, _, _⟩) 36 _ rfl ⟨w.heap.size, 3, none⟩ ?_ _ _ HCC.out Tryz.underlying36 rfl ?_ ?_ ?_); (· rfl); (· kernel_rfl); (· rfl))
      refine (calls_eq ((refValid110 x.cmd HS.out.cmd p.vk p.vv p.vt W1 (HOK.out W1 (Below.refl W1.heap.size W1)).1).mono fun e w' h => (⟨h.1, h.2⟩ : e = .returned (.bool (validC x.cmd)) /\ Below (W1).heap.size (W1) w')) (by rw [HC10.out] <;> rfl)).mono ?_
      rintro e w3 ⟨rfl, hb3⟩
      have HB3 := kp ((Below.refl W1.heap.size W1).trans (hb3.mono (Below.refl W1.heap.size W1).size))
      have HBD : Hid (x.bad = false) := HBAD
      clear hb3
      cases hvc : validC x.cmd
      ·skip
       have HFF := kp (show singleB x = false from single_cnt (by unfold cntB; rw [HBD.out, hvc]; rfl))
       go_wp2_with (fail)
       go_ret
       exact rb HFF.out (HB.out.trans (HB3.out.mono HB.out.size))
      clear HCC HCR HRW
      have HRW := kp (HR.out.of_block (w := W1) (HB3.out.block _ HR.out.lt))
      have HCC : Hid (CellsAt w3 ⟨w.heap.size, 3, none⟩ [.int .i64 cop, .string x.cmd.key, .slice Ak nk ck, .slice Av nv cv, .slice At nt ct, .int .u64 x.cmd.life, .int .u64 x.cmd.ver, .string x.cmd.tag, .string x.cmd.pre, .string x.cmd.chi]) := kp (CellsAt.slice HRW.out.cells 3 10)
      have HCR : Hid (CellsAt w3 ⟨w.heap.size, 13, none⟩ [.int .i64 rop, .int .i64 x.resp.err, .slice Ai ni ci, .int .u64 x.resp.ver, .int .i64 x.resp.count, .slice An nn cn]) := kp (CellsAt.slice HRW.out.cells 13 6)
      have v0 : w3.cell? ⟨w.heap.size, 0, none⟩ = some (.int .i64 ses) := HRW.out.cell (j := 0) rfl
      have v3 : w3.cell? ⟨w.heap.size, 3, none⟩ = some (.int .i64 cop) := HRW.out.cell (j := 3) rfl
      have v19 : w3.cell? ⟨w.heap.size, 19, none⟩ = some (.int .i64 asked) := HRW.out.cell (j := 19) rfl
      have v20 : w3.cell? ⟨w.heap.size, 20, none⟩ = some (.int .i64 done) := HRW.out.cell (j := 20) rfl
      have v21 : w3.cell? ⟨w.heap.size, 21, none⟩ = some (.int .i64 told) := HRW.out.cell (j := 21) rfl
      have v22 : w3.cell? ⟨w.heap.size, 22, none⟩ = some (.int .u64 tim) := HRW.out.cell (j := 22) rfl
      go_wp2_with ((with_reducible refine wpList_load_want (o := ⟨some 119, _, _, _, _, _⟩) 40 _ rfl ⟨w.heap.size, 13, none⟩ ?_ _ _ HCR.out Tryz.underlying40 rfl ?_ ?_ ?_); (· rfl); (· kernel_rfl); (· rfl))
      refine (calls_eq ((refValid109 x.resp HS.out.resp p.vi p.vn w3 (HOK.out w3 HB3.out).2).mono fun e w' h => (⟨h.1.trans (by rw [refB_eq x.resp HS.out.resp]), h.2⟩ : e = .returned (.bool (validR x.resp)) /\ Below (w3).heap.size (w3) w')) (by rw [HR6.out] <;> rfl)).mono ?_
      rintro e w4 ⟨rfl, hb4⟩
      have HB43 := kp hb4
      have HB4 := kp (HB3.out.trans (hb4.mono HB3.out.size))
      have u3 : w4.cell? ⟨w.heap.size, 3, none⟩ = some (.int .i64 cop) := (HRW.out.of_block (hb4.block _ HRW.out.lt)).cell rfl
      have u13 : w4.cell? ⟨w.heap.size, 13, none⟩ = some (.int .i64 rop) := (HRW.out.of_block (hb4.block _ HRW.out.lt)).cell rfl
      clear hb4
      cases hvr : validR x.resp
      ·skip
       have HFF := kp (show singleB x = false from single_cnt (by unfold cntB; rw [HBD.out, HDON.out, hvr]; simp; omega))
       go_wp2_with (fail)
       go_ret
       exact rb HFF.out (HB.out.trans (HB4.out.mono HB.out.size))
      by_cases q0 : rop = cop
      ·have gq : (rop == cop) = true := by simpa using q0
       have HQ0 := kp q0
       clear q0
       have HFF := kp (show singleB x = true from single_yes HRNG.out HORD.out (by unfold cntB; rw [HBD.out, HDON.out, HROP.out, HCOP.out, hvr, hvc, HQ0.out]; simp; omega))
       go_wp2_with (fail)
       go_ret
       exact rb HFF.out (HB.out.trans (HB4.out.mono HB.out.size))
      ·have gq : (rop == cop) = false := by simpa using q0
       have HQ0 := kp q0
       clear q0
       have HFF := kp (show singleB x = false from single_cnt (by unfold cntB; rw [HBD.out, HDON.out, HROP.out, HCOP.out, hvc]; simp [HQ0.out]; omega))
       go_wp2_with (fail)
       go_ret
       exact rb HFF.out (HB.out.trans (HB4.out.mono HB.out.size))
     ·have HBD : Hid (x.bad = true) := HBAD
      have HFF := kp (show singleB x = false from single_cnt (by unfold cntB; rw [HBD.out, HDON.out]; simp; omega))
      go_wp2_with (fail)
      go_ret
      exact rb HFF.out (HB.out.trans ((Below.refl W1.heap.size W1).mono HB.out.size))
  ·have g2 : decide (0 <= told) = false := by simp; omega
   have HORD := kp (show ordB x = true by unfold ordB; rw [HASK.out, HDON.out, HTLD.out]; simp; omega)
   cases bad
   ·go_wp2_with ((with_reducible refine wpList_load_want (o := ⟨some 98, _, _, _, _, _⟩) 36 _ rfl ⟨w.heap.size, 3, none⟩ ?_ _ _ HCC.out Tryz.underlying36 rfl ?_ ?_ ?_); (· rfl); (· kernel_rfl); (· rfl))
    refine (calls_eq ((refValid110 x.cmd HS.out.cmd p.vk p.vv p.vt W1 (HOK.out W1 (Below.refl W1.heap.size W1)).1).mono fun e w' h => (⟨h.1, h.2⟩ : e = .returned (.bool (validC x.cmd)) /\ Below (W1).heap.size (W1) w')) (by rw [HC10.out] <;> rfl)).mono ?_
    rintro e w3 ⟨rfl, hb3⟩
    have HB3 := kp ((Below.refl W1.heap.size W1).trans (hb3.mono (Below.refl W1.heap.size W1).size))
    have HBD : Hid (x.bad = false) := HBAD
    clear hb3
    cases hvc : validC x.cmd
    ·skip
     have HFF := kp (show singleB x = false from single_cnt (by unfold cntB; rw [HBD.out, hvc]; rfl))
     go_wp2_with (fail)
     go_ret
     exact rb HFF.out (HB.out.trans (HB3.out.mono HB.out.size))
    clear HCC HCR HRW
    have HRW := kp (HR.out.of_block (w := W1) (HB3.out.block _ HR.out.lt))
    have HCC : Hid (CellsAt w3 ⟨w.heap.size, 3, none⟩ [.int .i64 cop, .string x.cmd.key, .slice Ak nk ck, .slice Av nv cv, .slice At nt ct, .int .u64 x.cmd.life, .int .u64 x.cmd.ver, .string x.cmd.tag, .string x.cmd.pre, .string x.cmd.chi]) := kp (CellsAt.slice HRW.out.cells 3 10)
    have HCR : Hid (CellsAt w3 ⟨w.heap.size, 13, none⟩ [.int .i64 rop, .int .i64 x.resp.err, .slice Ai ni ci, .int .u64 x.resp.ver, .int .i64 x.resp.count, .slice An nn cn]) := kp (CellsAt.slice HRW.out.cells 13 6)
    have v0 : w3.cell? ⟨w.heap.size, 0, none⟩ = some (.int .i64 ses) := HRW.out.cell (j := 0) rfl
    have v3 : w3.cell? ⟨w.heap.size, 3, none⟩ = some (.int .i64 cop) := HRW.out.cell (j := 3) rfl
    have v19 : w3.cell? ⟨w.heap.size, 19, none⟩ = some (.int .i64 asked) := HRW.out.cell (j := 19) rfl
    have v20 : w3.cell? ⟨w.heap.size, 20, none⟩ = some (.int .i64 done) := HRW.out.cell (j := 20) rfl
    have v21 : w3.cell? ⟨w.heap.size, 21, none⟩ = some (.int .i64 told) := HRW.out.cell (j := 21) rfl
    have v22 : w3.cell? ⟨w.heap.size, 22, none⟩ = some (.int .u64 tim) := HRW.out.cell (j := 22) rfl
    go_wp2_with ((with_reducible refine wpList_load_want (o := ⟨some 119, _, _, _, _, _⟩) 40 _ rfl ⟨w.heap.size, 13, none⟩ ?_ _ _ HCR.out Tryz.underlying40 rfl ?_ ?_ ?_); (· rfl); (· kernel_rfl); (· rfl))
    refine (calls_eq ((refValid109 x.resp HS.out.resp p.vi p.vn w3 (HOK.out w3 HB3.out).2).mono fun e w' h => (⟨h.1.trans (by rw [refB_eq x.resp HS.out.resp]), h.2⟩ : e = .returned (.bool (validR x.resp)) /\ Below (w3).heap.size (w3) w')) (by rw [HR6.out] <;> rfl)).mono ?_
    rintro e w4 ⟨rfl, hb4⟩
    have HB43 := kp hb4
    have HB4 := kp (HB3.out.trans (hb4.mono HB3.out.size))
    have u3 : w4.cell? ⟨w.heap.size, 3, none⟩ = some (.int .i64 cop) := (HRW.out.of_block (hb4.block _ HRW.out.lt)).cell rfl
    have u13 : w4.cell? ⟨w.heap.size, 13, none⟩ = some (.int .i64 rop) := (HRW.out.of_block (hb4.block _ HRW.out.lt)).cell rfl
    clear hb4
    cases hvr : validR x.resp
    ·skip
     have HFF := kp (show singleB x = false from single_cnt (by unfold cntB; rw [HBD.out, HDON.out, hvr]; simp; omega))
     go_wp2_with (fail)
     go_ret
     exact rb HFF.out (HB.out.trans (HB4.out.mono HB.out.size))
    by_cases q0 : rop = cop
    ·have gq : (rop == cop) = true := by simpa using q0
     have HQ0 := kp q0
     clear q0
     have HFF := kp (show singleB x = true from single_yes HRNG.out HORD.out (by unfold cntB; rw [HBD.out, HDON.out, HROP.out, HCOP.out, hvr, hvc, HQ0.out]; simp; omega))
     go_wp2_with (fail)
     go_ret
     exact rb HFF.out (HB.out.trans (HB4.out.mono HB.out.size))
    ·have gq : (rop == cop) = false := by simpa using q0
     have HQ0 := kp q0
     clear q0
     have HFF := kp (show singleB x = false from single_cnt (by unfold cntB; rw [HBD.out, HDON.out, HROP.out, HCOP.out, hvc]; simp [HQ0.out]; omega))
     go_wp2_with (fail)
     go_ret
     exact rb HFF.out (HB.out.trans (HB4.out.mono HB.out.size))
   ·have HBD : Hid (x.bad = true) := HBAD
    have HFF := kp (show singleB x = false from single_cnt (by unfold cntB; rw [HBD.out, HDON.out]; simp; omega))
    go_wp2_with (fail)
    go_ret
    exact rb HFF.out (HB.out.trans ((Below.refl W1.heap.size W1).mono HB.out.size))
 ·have g0 : decide (0 <= done) = false := by simp; omega
  have gd1 : (done == -1) = true := by simp; omega
  by_cases t2 : 0 <= told
  ·have g2 : decide (0 <= told) = true := by simp; omega
   by_cases t3 : told <= asked
   ·have g3 : decide (told <= asked) = true := by simp; omega
    have HFF := kp (show singleB x = false from single_ord (by unfold ordB; rw [HASK.out, HDON.out, HTLD.out]; simp; omega))
    go_wp2_with (fail)
    go_ret
    exact rb HFF.out HB.out
   ·have g3 : decide (told <= asked) = false := by simp; omega
    have g4 : decide (told <= done) = false := by simp; omega
    have HORD := kp (show ordB x = true by unfold ordB; rw [HASK.out, HDON.out, HTLD.out]; simp; omega)
    cases bad
    ·go_wp2_with ((with_reducible refine wpList_load_want (o := ⟨some 98, _, _, _, _, _⟩) 36 _ rfl ⟨w.heap.size, 3, none⟩ ?_ _ _ HCC.out Tryz.underlying36 rfl ?_ ?_ ?_); (· rfl); (· kernel_rfl); (· rfl))
     refine (calls_eq ((refValid110 x.cmd HS.out.cmd p.vk p.vv p.vt W1 (HOK.out W1 (Below.refl W1.heap.size W1)).1).mono fun e w' h => (⟨h.1, h.2⟩ : e = .returned (.bool (validC x.cmd)) /\ Below (W1).heap.size (W1) w')) (by rw [HC10.out] <;> rfl)).mono ?_
     rintro e w3 ⟨rfl, hb3⟩
     have HB3 := kp ((Below.refl W1.heap.size W1).trans (hb3.mono (Below.refl W1.heap.size W1).size))
     have HBD : Hid (x.bad = false) := HBAD
     clear hb3
     cases hvc : validC x.cmd
     ·skip
      have HFF := kp (show singleB x = false from single_cnt (by unfold cntB; rw [HBD.out, hvc]; rfl))
      go_wp2_with (fail)
      go_ret
      exact rb HFF.out (HB.out.trans (HB3.out.mono HB.out.size))
     clear HCC HCR HRW
     have HRW := kp (HR.out.of_block (w := W1) (HB3.out.block _ HR.out.lt))
     have HCC : Hid (CellsAt w3 ⟨w.heap.size, 3, none⟩ [.int .i64 cop, .string x.cmd.key, .slice Ak nk ck, .slice Av nv cv, .slice At nt ct, .int .u64 x.cmd.life, .int .u64 x.cmd.ver, .string x.cmd.tag, .string x.cmd.pre, .string x.cmd.chi]) := kp (CellsAt.slice HRW.out.cells 3 10)
     have HCR : Hid (CellsAt w3 ⟨w.heap.size, 13, none⟩ [.int .i64 rop, .int .i64 x.resp.err, .slice Ai ni ci, .int .u64 x.resp.ver, .int .i64 x.resp.count, .slice An nn cn]) := kp (CellsAt.slice HRW.out.cells 13 6)
     have v0 : w3.cell? ⟨w.heap.size, 0, none⟩ = some (.int .i64 ses) := HRW.out.cell (j := 0) rfl
     have v3 : w3.cell? ⟨w.heap.size, 3, none⟩ = some (.int .i64 cop) := HRW.out.cell (j := 3) rfl
     have v19 : w3.cell? ⟨w.heap.size, 19, none⟩ = some (.int .i64 asked) := HRW.out.cell (j := 19) rfl
     have v20 : w3.cell? ⟨w.heap.size, 20, none⟩ = some (.int .i64 done) := HRW.out.cell (j := 20) rfl
     have v21 : w3.cell? ⟨w.heap.size, 21, none⟩ = some (.int .i64 told) := HRW.out.cell (j := 21) rfl
     have v22 : w3.cell? ⟨w.heap.size, 22, none⟩ = some (.int .u64 tim) := HRW.out.cell (j := 22) rfl
     have gt : (told == -1) = false := by simp; omega
     have HFF := kp (show singleB x = false from single_cnt (cnt_told HBD.out (by rw [HDON.out]; omega) (by rw [HTLD.out]; omega)))
     go_wp2_with (fail)
     go_ret
     exact rb HFF.out (HB.out.trans (HB3.out.mono HB.out.size))
    ·have HBD : Hid (x.bad = true) := HBAD
     by_cases t1 : tim = 0
     ·have gm : (tim == 0) = true := by simpa using t1
      have HT1 := kp t1
      clear t1
      go_wp2_with (first | ((with_reducible refine wpList_load_want (o := ⟨some 82, _, _, _, _, _⟩) 36 _ rfl ⟨w.heap.size, 3, none⟩ ?_ _ _ HCC.out Tryz.underlying36 rfl ?_ ?_ ?_); (· rfl); (· kernel_rfl); (· rfl)) | ((with_reducible refine wpList_load_want (o := ⟨some 88, _, _, _, _, _⟩) 40 _ rfl ⟨w.heap.size, 13, none⟩ ?_ _ _ HCR.out Tryz.underlying40 rfl ?_ ?_ ?_); (· rfl); (· kernel_rfl); (· rfl)))
      refine (calls_eq (cmd44 x.cmd cmdZ p.vk p.vv p.vt (.slice none 0 0) (.slice none 0 0) (.slice none 0 0) W1 (HOK.out W1 (Below.refl W1.heap.size W1)).1 (cmdZ_ok _ _)) (by rw [HC10.out] <;> rfl)).mono ?_
      rintro e w3 ⟨rfl, hb3⟩
      have HB32 := kp hb3
      have HB3 := kp ((Below.refl W1.heap.size W1).trans (hb3.mono (Below.refl W1.heap.size W1).size))
      clear hb3
      cases hce : cmdEq x.cmd cmdZ
      ·skip
       have HFF := kp (show singleB x = false from single_cnt (by unfold cntB; rw [HBD.out, hce]; simp))
       go_wp2_with (fail)
       go_ret
       exact rb HFF.out (HB.out.trans (HB3.out.mono HB.out.size))
      clear HCC HCR HRW
      have HRW := kp (HR.out.of_block (w := W1) (HB3.out.block _ HR.out.lt))
      have HCC : Hid (CellsAt w3 ⟨w.heap.size, 3, none⟩ [.int .i64 cop, .string x.cmd.key, .slice Ak nk ck, .slice Av nv cv, .slice At nt ct, .int .u64 x.cmd.life, .int .u64 x.cmd.ver, .string x.cmd.tag, .string x.cmd.pre, .string x.cmd.chi]) := kp (CellsAt.slice HRW.out.cells 3 10)
      have HCR : Hid (CellsAt w3 ⟨w.heap.size, 13, none⟩ [.int .i64 rop, .int .i64 x.resp.err, .slice Ai ni ci, .int .u64 x.resp.ver, .int .i64 x.resp.count, .slice An nn cn]) := kp (CellsAt.slice HRW.out.cells 13 6)
      go_wp2_with (first | ((with_reducible refine wpList_load_want (o := ⟨some 82, _, _, _, _, _⟩) 36 _ rfl ⟨w.heap.size, 3, none⟩ ?_ _ _ HCC.out Tryz.underlying36 rfl ?_ ?_ ?_); (· rfl); (· kernel_rfl); (· rfl)) | ((with_reducible refine wpList_load_want (o := ⟨some 88, _, _, _, _, _⟩) 40 _ rfl ⟨w.heap.size, 13, none⟩ ?_ _ _ HCR.out Tryz.underlying40 rfl ?_ ?_ ?_); (· rfl); (· kernel_rfl); (· rfl)))
      refine (calls_eq ((refValid109 x.resp HS.out.resp p.vi p.vn w3 (HOK.out w3 HB3.out).2).mono fun e w' h => (⟨h.1.trans (by rw [refB_eq x.resp HS.out.resp]), h.2⟩ : e = .returned (.bool (validR x.resp)) /\ Below (w3).heap.size (w3) w')) (by rw [HR6.out] <;> rfl)).mono ?_
      rintro e w4 ⟨rfl, hb4⟩
      have HB4 := kp (HB3.out.trans (hb4.mono HB3.out.size))
      have u13 : w4.cell? ⟨w.heap.size, 13, none⟩ = some (.int .i64 rop) := (HRW.out.of_block (hb4.block _ HRW.out.lt)).cell rfl
      clear hb4
      cases hvr : validR x.resp
      ·skip
       have HFF := kp (show singleB x = false from single_cnt (by unfold cntB; rw [HBD.out, hvr]; simp))
       go_wp2_with (fail)
       go_ret
       exact rb HFF.out (HB.out.trans (HB4.out.mono HB.out.size))
      by_cases q0 : rop = 0
      ·have gq : (rop == 0) = true := by simpa using q0
       have HQ0 := kp q0
       clear q0
       have HFF := kp (show singleB x = true from single_yes HRNG.out HORD.out (by unfold cntB; rw [HBD.out, HDON.out, HTIM.out, HROP.out, hvr, hce, HT1.out, HQ0.out]; simp; omega))
       go_wp2_with (fail)
       go_ret
       exact rb HFF.out (HB.out.trans (HB4.out.mono HB.out.size))
      ·have gq : (rop == 0) = false := by simpa using q0
       have HQ0 := kp q0
       clear q0
       have HFF := kp (show singleB x = false from single_cnt (by unfold cntB; rw [HBD.out, HROP.out]; simp [HQ0.out]))
       go_wp2_with (fail)
       go_ret
       exact rb HFF.out (HB.out.trans (HB4.out.mono HB.out.size))
     ·have gm : (tim == 0) = false := by simpa using t1
      have HT1 := kp t1
      clear t1
      have HFF := kp (show singleB x = false from single_cnt (by unfold cntB; rw [HBD.out, HTIM.out]; simp [HT1.out]))
      go_wp2_with (fail)
      go_ret
      exact rb HFF.out (HB.out.trans ((Below.refl W1.heap.size W1).mono HB.out.size))
  ·have g2 : decide (0 <= told) = false := by simp; omega
   have HORD := kp (show ordB x = true by unfold ordB; rw [HASK.out, HDON.out, HTLD.out]; simp; omega)
   cases bad
   ·go_wp2_with ((with_reducible refine wpList_load_want (o := ⟨some 98, _, _, _, _, _⟩) 36 _ rfl ⟨w.heap.size, 3, none⟩ ?_ _ _ HCC.out Tryz.underlying36 rfl ?_ ?_ ?_); (· rfl); (· kernel_rfl); (· rfl))
    refine (calls_eq ((refValid110 x.cmd HS.out.cmd p.vk p.vv p.vt W1 (HOK.out W1 (Below.refl W1.heap.size W1)).1).mono fun e w' h => (⟨h.1, h.2⟩ : e = .returned (.bool (validC x.cmd)) /\ Below (W1).heap.size (W1) w')) (by rw [HC10.out] <;> rfl)).mono ?_
    rintro e w3 ⟨rfl, hb3⟩
    have HB3 := kp ((Below.refl W1.heap.size W1).trans (hb3.mono (Below.refl W1.heap.size W1).size))
    have HBD : Hid (x.bad = false) := HBAD
    clear hb3
    cases hvc : validC x.cmd
    ·skip
     have HFF := kp (show singleB x = false from single_cnt (by unfold cntB; rw [HBD.out, hvc]; rfl))
     go_wp2_with (fail)
     go_ret
     exact rb HFF.out (HB.out.trans (HB3.out.mono HB.out.size))
    clear HCC HCR HRW
    have HRW := kp (HR.out.of_block (w := W1) (HB3.out.block _ HR.out.lt))
    have HCC : Hid (CellsAt w3 ⟨w.heap.size, 3, none⟩ [.int .i64 cop, .string x.cmd.key, .slice Ak nk ck, .slice Av nv cv, .slice At nt ct, .int .u64 x.cmd.life, .int .u64 x.cmd.ver, .string x.cmd.tag, .string x.cmd.pre, .string x.cmd.chi]) := kp (CellsAt.slice HRW.out.cells 3 10)
    have HCR : Hid (CellsAt w3 ⟨w.heap.size, 13, none⟩ [.int .i64 rop, .int .i64 x.resp.err, .slice Ai ni ci, .int .u64 x.resp.ver, .int .i64 x.resp.count, .slice An nn cn]) := kp (CellsAt.slice HRW.out.cells 13 6)
    have v0 : w3.cell? ⟨w.heap.size, 0, none⟩ = some (.int .i64 ses) := HRW.out.cell (j := 0) rfl
    have v3 : w3.cell? ⟨w.heap.size, 3, none⟩ = some (.int .i64 cop) := HRW.out.cell (j := 3) rfl
    have v19 : w3.cell? ⟨w.heap.size, 19, none⟩ = some (.int .i64 asked) := HRW.out.cell (j := 19) rfl
    have v20 : w3.cell? ⟨w.heap.size, 20, none⟩ = some (.int .i64 done) := HRW.out.cell (j := 20) rfl
    have v21 : w3.cell? ⟨w.heap.size, 21, none⟩ = some (.int .i64 told) := HRW.out.cell (j := 21) rfl
    have v22 : w3.cell? ⟨w.heap.size, 22, none⟩ = some (.int .u64 tim) := HRW.out.cell (j := 22) rfl
    have gt : (told == -1) = true := by simp; omega
    by_cases t1 : tim = 0
    ·have gm : (tim == 0) = true := by simpa using t1
     have HT1 := kp t1
     clear t1
     go_wp2_with ((with_reducible refine wpList_load_want (o := ⟨some 114, _, _, _, _, _⟩) 40 _ rfl ⟨w.heap.size, 13, none⟩ ?_ _ _ HCR.out Tryz.underlying40 rfl ?_ ?_ ?_); (· rfl); (· kernel_rfl); (· rfl))
     refine (calls_eq (resp45 x.resp (resp00 0 0) p.vi p.vn (.slice none 0 0) (.slice none 0 0) w3 (HOK.out w3 HB3.out).2 (resp00_ok _ _ _ _)) (by rw [HR6.out] <;> rfl)).mono ?_
     rintro e w4 ⟨rfl, hb4⟩
     have HB4 := kp (HB3.out.trans (hb4.mono HB3.out.size))
     cases hre : respEq x.resp (resp00 0 0)
     ·skip
      have HFF := kp (show singleB x = false from single_cnt (by unfold cntB; rw [HBD.out, HDON.out, HTLD.out, hre]; simp; omega))
      go_wp2_with (fail)
      go_ret
      exact rb HFF.out (HB.out.trans (HB4.out.mono HB.out.size))
     ·skip
      have HFF := kp (show singleB x = true from single_yes HRNG.out HORD.out (cnt_yes0 HBD.out (by rw [HDON.out]; omega) (by rw [HTLD.out]; omega) (by rw [HTIM.out]; exact HT1.out) hvc hre))
      go_wp2_with (fail)
      go_ret
      exact rb HFF.out (HB.out.trans (HB4.out.mono HB.out.size))
    ·have gm : (tim == 0) = false := by simpa using t1
     have HT1 := kp t1
     clear t1
     have HFF := kp (show singleB x = false from single_cnt (by unfold cntB; rw [HBD.out, HDON.out, HTIM.out]; simp [HT1.out]; omega))
     go_wp2_with (fail)
     go_ret
     exact rb HFF.out (HB.out.trans (HB3.out.mono HB.out.size))
   ·have HBD : Hid (x.bad = true) := HBAD
    by_cases t1 : tim = 0
    ·have gm : (tim == 0) = true := by simpa using t1
     have HT1 := kp t1
     clear t1
     go_wp2_with (first | ((with_reducible refine wpList_load_want (o := ⟨some 82, _, _, _, _, _⟩) 36 _ rfl ⟨w.heap.size, 3, none⟩ ?_ _ _ HCC.out Tryz.underlying36 rfl ?_ ?_ ?_); (· rfl); (· kernel_rfl); (· rfl)) | ((with_reducible refine wpList_load_want (o := ⟨some 88, _, _, _, _, _⟩) 40 _ rfl ⟨w.heap.size, 13, none⟩ ?_ _ _ HCR.out Tryz.underlying40 rfl ?_ ?_ ?_); (· rfl); (· kernel_rfl); (· rfl)))
     refine (calls_eq (cmd44 x.cmd cmdZ p.vk p.vv p.vt (.slice none 0 0) (.slice none 0 0) (.slice none 0 0) W1 (HOK.out W1 (Below.refl W1.heap.size W1)).1 (cmdZ_ok _ _)) (by rw [HC10.out] <;> rfl)).mono ?_
     rintro e w3 ⟨rfl, hb3⟩
     have HB32 := kp hb3
     have HB3 := kp ((Below.refl W1.heap.size W1).trans (hb3.mono (Below.refl W1.heap.size W1).size))
     clear hb3
     cases hce : cmdEq x.cmd cmdZ
     ·skip
      have HFF := kp (show singleB x = false from single_cnt (by unfold cntB; rw [HBD.out, hce]; simp))
      go_wp2_with (fail)
      go_ret
      exact rb HFF.out (HB.out.trans (HB3.out.mono HB.out.size))
     clear HCC HCR HRW
     have HRW := kp (HR.out.of_block (w := W1) (HB3.out.block _ HR.out.lt))
     have HCC : Hid (CellsAt w3 ⟨w.heap.size, 3, none⟩ [.int .i64 cop, .string x.cmd.key, .slice Ak nk ck, .slice Av nv cv, .slice At nt ct, .int .u64 x.cmd.life, .int .u64 x.cmd.ver, .string x.cmd.tag, .string x.cmd.pre, .string x.cmd.chi]) := kp (CellsAt.slice HRW.out.cells 3 10)
     have HCR : Hid (CellsAt w3 ⟨w.heap.size, 13, none⟩ [.int .i64 rop, .int .i64 x.resp.err, .slice Ai ni ci, .int .u64 x.resp.ver, .int .i64 x.resp.count, .slice An nn cn]) := kp (CellsAt.slice HRW.out.cells 13 6)
     go_wp2_with (first | ((with_reducible refine wpList_load_want (o := ⟨some 82, _, _, _, _, _⟩) 36 _ rfl ⟨w.heap.size, 3, none⟩ ?_ _ _ HCC.out Tryz.underlying36 rfl ?_ ?_ ?_); (· rfl); (· kernel_rfl); (· rfl)) | ((with_reducible refine wpList_load_want (o := ⟨some 88, _, _, _, _, _⟩) 40 _ rfl ⟨w.heap.size, 13, none⟩ ?_ _ _ HCR.out Tryz.underlying40 rfl ?_ ?_ ?_); (· rfl); (· kernel_rfl); (· rfl)))
     refine (calls_eq ((refValid109 x.resp HS.out.resp p.vi p.vn w3 (HOK.out w3 HB3.out).2).mono fun e w' h => (⟨h.1.trans (by rw [refB_eq x.resp HS.out.resp]), h.2⟩ : e = .returned (.bool (validR x.resp)) /\ Below (w3).heap.size (w3) w')) (by rw [HR6.out] <;> rfl)).mono ?_
     rintro e w4 ⟨rfl, hb4⟩
     have HB4 := kp (HB3.out.trans (hb4.mono HB3.out.size))
     have u13 : w4.cell? ⟨w.heap.size, 13, none⟩ = some (.int .i64 rop) := (HRW.out.of_block (hb4.block _ HRW.out.lt)).cell rfl
     clear hb4
     cases hvr : validR x.resp
     ·skip
      have HFF := kp (show singleB x = false from single_cnt (by unfold cntB; rw [HBD.out, hvr]; simp))
      go_wp2_with (fail)
      go_ret
      exact rb HFF.out (HB.out.trans (HB4.out.mono HB.out.size))
     by_cases q0 : rop = 0
     ·have gq : (rop == 0) = true := by simpa using q0
      have HQ0 := kp q0
      clear q0
      have HFF := kp (show singleB x = true from single_yes HRNG.out HORD.out (by unfold cntB; rw [HBD.out, HDON.out, HTIM.out, HROP.out, hvr, hce, HT1.out, HQ0.out]; simp; omega))
      go_wp2_with (fail)
      go_ret
      exact rb HFF.out (HB.out.trans (HB4.out.mono HB.out.size))
     ·have gq : (rop == 0) = false := by simpa using q0
      have HQ0 := kp q0
      clear q0
      have HFF := kp (show singleB x = false from single_cnt (by unfold cntB; rw [HBD.out, HROP.out]; simp [HQ0.out]))
      go_wp2_with (fail)
      go_ret
      exact rb HFF.out (HB.out.trans (HB4.out.mono HB.out.size))
    ·have gm : (tim == 0) = false := by simpa using t1
     have HT1 := kp t1
     clear t1
     have HFF := kp (show singleB x = false from single_cnt (by unfold cntB; rw [HBD.out, HTIM.out]; simp [HT1.out]))
     go_wp2_with (fail)
     go_ret
     exact rb HFF.out (HB.out.trans ((Below.refl W1.heap.size W1).mono HB.out.size))
end Go.Proofs.YtnjhpgmbfblgaaaGreat.Ord
