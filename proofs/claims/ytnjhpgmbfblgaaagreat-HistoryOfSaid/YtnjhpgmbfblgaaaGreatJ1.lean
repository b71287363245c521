/- Walk of history.single. -/
import Derived.Test.YtnjhpgmbfblgaaaGreatK7
import Derived.Test.YtnjhpgmbfblgaaaGreatN12
import Derived.Test.YtnjhpgmbfblgaaaGreatMH4
namespace Go.Proofs.YtnjhpgmbfblgaaaGreat.Ord
set_option maxRecDepth 100000
set_option maxHeartbeats 16000000
open Go.RowKit
set_option linter.unusedVariables false
set_option linter.unusedSimpArgs false
def stepB (n l : Int) : Bool := decide (l <= n) && decide (n < 4096)
def rngB (x : CallR) : Bool := stepB x.asked 0 && (stepB x.done (-1) && (stepB x.told (-1) && stepB x.ses 0))
def ordB (x : CallR) : Bool := decide (¬ (0 <= x.done /\ x.done <= x.asked) /\ ¬ (0 <= x.told /\ (x.told <= x.asked ∨ x.told <= x.done)))
def cmdZ : CmdR := ⟨0, ⟨#[]⟩, [], [], [], 0, 0, ⟨#[]⟩, ⟨#[]⟩, ⟨#[]⟩⟩
def cntB (x : CallR) : Bool :=
 if x.bad = true then decide (x.done < 0) && (decide (x.tim = 0) && (cmdEq x.cmd cmdZ && (validR x.resp && decide (x.resp.op = 0))))
 else validC x.cmd && (if x.done < 0 then decide (x.told < 0) && (decide (x.tim = 0) && respEq x.resp (resp00 0 0)) else validR x.resp && decide (x.resp.op = x.cmd.op))
/-- whether a call is right by itself -/
def singleB (x : CallR) : Bool := rngB x && (ordB x && cntB x)
theorem single_rng {x : CallR} (h : rngB x = false) : singleB x = false := by unfold singleB; rw [h]; rfl
theorem single_ord {x : CallR} (h : ordB x = false) : singleB x = false := by unfold singleB; rw [h]; simp
theorem single_cnt {x : CallR} (h : cntB x = false) : singleB x = false := by unfold singleB; rw [h]; simp
theorem single_yes {x : CallR} (h : rngB x = true) (h1 : ordB x = true) (h2 : cntB x = true) : singleB x = true := by unfold singleB; rw [h, h1, h2]; rfl
theorem stepB_iff {n l : Int} : stepB n l = true ↔ l <= n /\ n < 4096 := by simp [stepB]
theorem cnt_yes0 {x : CallR} (hb : x.bad = false) (hd : x.done < 0) (ht : x.told < 0) (hm : x.tim = 0) (hv : validC x.cmd = true) (hr : respEq x.resp (resp00 0 0) = true) : cntB x = true := by unfold cntB; rw [hb, if_neg (by simp), if_pos hd, decide_eq_true ht, decide_eq_true hm, hv, hr]; rfl
theorem cnt_told {x : CallR} (hb : x.bad = false) (hd : x.done < 0) (ht : ¬ x.told < 0) : cntB x = false := by unfold cntB; rw [hb, if_neg (by simp), if_pos hd, decide_eq_false ht]; simp
def SPost (x : CallR) (w : World) (e : Ending) (w' : World) : Prop := e = .returned (.bool (singleB x)) /\ Below w.heap.size w w'
/-- as small as calls that are not heavy are -/
structure CallS (x : CallR) : Prop where
 cmd : CmdS x.cmd
 resp : RespS x.resp
theorem step111 (n l : Int) (w : World) : Calls Tryz.prog 111 #[.int .i64 n, .int .i64 l] w fun e w' => e = .returned (.bool (stepB n l)) /\ w' = w := by
 unfold stepB
 cases g1 : decide (l <= n)
 ·go_enter Tryz.func111, Tryz.ntmps111
  go_wp2_with fail
  go_ret
  exact ⟨rfl, rfl⟩
 ·cases g2 : decide (n < 4096)
  all_goals
   go_enter Tryz.func111, Tryz.ntmps111
   go_wp2_with fail
   go_ret
   exact ⟨rfl, rfl⟩
theorem cmdZ_ok (w : World) (B : Nat) : CmdOk w B cmdZ (.slice none 0 0) (.slice none 0 0) (.slice none 0 0) := ⟨slv_nil _ _, datg_nil _ _, slv_nil _ _⟩
theorem resp00_ok (w : World) (B : Nat) (a b : Int) : RespOk w B (resp00 a b) (.slice none 0 0) (.slice none 0 0) := ⟨items_nil _ _, nums_nil _ _⟩
theorem calls_eq {N : Nat} {vs vs' : Array Value} {w : World} {Q : Ending -> World -> Prop} (h : Calls Tryz.prog N vs w Q) (e : vs = vs') : Calls Tryz.prog N vs' w Q := by subst e; exact h
theorem single60 (x : CallR) (p : CallV) (hs : CallS x) (w : World) (hok : CallOk w w.heap.size x p) :
  Calls Tryz.prog 60 #[.agg (callC x p).toArray] w (SPost x w) := by
 obtain ⟨⟨⟨_, Ak, ck, hvk, _⟩, ⟨_, _, Av, cv, hvv, _⟩, ⟨_, At, ct, hvt, _⟩⟩, ⟨⟨_, Ai, ci, hvi, _⟩, _, An, cn, hvn, _⟩⟩ := id hok
 obtain ⟨nk, hnk⟩ : ∃ n, x.cmd.keys.length = n := ⟨_, rfl⟩
 obtain ⟨nv, hnv⟩ : ∃ n, x.cmd.val.length = n := ⟨_, rfl⟩
 obtain ⟨nt, hnt⟩ : ∃ n, x.cmd.tags.length = n := ⟨_, rfl⟩
 obtain ⟨ni, hni⟩ : ∃ n, x.resp.items.length = n := ⟨_, rfl⟩
 obtain ⟨nn, hnn⟩ : ∃ n, x.resp.nums.length = n := ⟨_, rfl⟩
 rw [hnk] at hvk
 rw [hnv] at hvv
 rw [hnt] at hvt
 rw [hni] at hvi
 rw [hnn] at hvn
 obtain ⟨ses, hses⟩ : ∃ y, x.ses = y := ⟨_, rfl⟩
 obtain ⟨asked, hask⟩ : ∃ y, x.asked = y := ⟨_, rfl⟩
 obtain ⟨done, hdone⟩ : ∃ y, x.done = y := ⟨_, rfl⟩
 obtain ⟨told, htold⟩ : ∃ y, x.told = y := ⟨_, rfl⟩
 obtain ⟨tim, htim⟩ : ∃ y, x.tim = y := ⟨_, rfl⟩
 obtain ⟨bad, hbad⟩ : ∃ y, x.bad = y := ⟨_, rfl⟩
 obtain ⟨cop, hcop⟩ : ∃ y, x.cmd.op = y := ⟨_, rfl⟩
 obtain ⟨rop, hrop⟩ : ∃ y, x.resp.op = y := ⟨_, rfl⟩
 have hC10 : cmdC x.cmd p.vk p.vv p.vt = [.int .i64 cop, .string x.cmd.key, .slice Ak nk ck, .slice Av nv cv, .slice At nt ct, .int .u64 x.cmd.life, .int .u64 x.cmd.ver, .string x.cmd.tag, .string x.cmd.pre, .string x.cmd.chi] := by rw [hvk, hvv, hvt, <- hcop]; rfl
 have hR6 : respC x.resp p.vi p.vn = [.int .i64 rop, .int .i64 x.resp.err, .slice Ai ni ci, .int .u64 x.resp.ver, .int .i64 x.resp.count, .slice An nn cn] := by rw [hvi, hvn, <- hrop]; rfl
 have hL : callC x p = [.int .i64 ses, .int .i64 x.num, .bool bad, .int .i64 cop, .string x.cmd.key, .slice Ak nk ck, .slice Av nv cv, .slice At nt ct, .int .u64 x.cmd.life, .int .u64 x.cmd.ver, .string x.cmd.tag, .string x.cmd.pre, .string x.cmd.chi, .int .i64 rop, .int .i64 x.resp.err, .slice Ai ni ci, .int .u64 x.resp.ver, .int .i64 x.resp.count, .slice An nn cn, .int .i64 asked, .int .i64 done, .int .i64 told, .int .u64 tim] := by unfold callC; rw [hvk, hvv, hvt, hvi, hvn, hses, hbad, hcop, hrop, hask, hdone, htold, htim]; rfl
 have hB := below1 w (.cells #[.int .i64 ses, .int .i64 x.num, .bool bad, .int .i64 cop, .string x.cmd.key, .slice Ak nk ck, .slice Av nv cv, .slice At nt ct, .int .u64 x.cmd.life, .int .u64 x.cmd.ver, .string x.cmd.tag, .string x.cmd.pre, .string x.cmd.chi, .int .i64 rop, .int .i64 x.resp.err, .slice Ai ni ci, .int .u64 x.resp.ver, .int .i64 x.resp.count, .slice An nn cn, .int .i64 asked, .int .i64 done, .int .i64 told, .int .u64 tim] 52)
 have hr := RowL.new w 52 [.int .i64 ses, .int .i64 x.num, .bool bad, .int .i64 cop, .string x.cmd.key, .slice Ak nk ck, .slice Av nv cv, .slice At nt ct, .int .u64 x.cmd.life, .int .u64 x.cmd.ver, .string x.cmd.tag, .string x.cmd.pre, .string x.cmd.chi, .int .i64 rop, .int .i64 x.resp.err, .slice Ai ni ci, .int .u64 x.resp.ver, .int .i64 x.resp.count, .slice An nn cn, .int .i64 asked, .int .i64 done, .int .i64 told, .int .u64 tim]
 obtain ⟨W1, hW1⟩ : ∃ W, W = w.alloc (.cells #[.int .i64 ses, .int .i64 x.num, .bool bad, .int .i64 cop, .string x.cmd.key, .slice Ak nk ck, .slice Av nv cv, .slice At nt ct, .int .u64 x.cmd.life, .int .u64 x.cmd.ver, .string x.cmd.tag, .string x.cmd.pre, .string x.cmd.chi, .int .i64 rop, .int .i64 x.resp.err, .slice Ai ni ci, .int .u64 x.resp.ver, .int .i64 x.resp.count, .slice An nn cn, .int .i64 asked, .int .i64 done, .int .i64 told, .int .u64 tim] 52) := ⟨_, rfl⟩
 rw [<- hW1] at hB hr
 have hok1 := (hok.below hB (Nat.le_refl _)).mono hB.size
 have HOK := kp (fun (W : World) (hb : Below W1.heap.size W1 W) => (hok1.below hb (Nat.le_refl _)).mono hb.size)
 have HB := kp hB
 have HR := kp hr
 have HS := kp hs
 have HC10 := kp hC10
 have HR6 := kp hR6
 have HASK := kp hask
 have HDON := kp hdone
 have HTLD := kp htold
 have HSES := kp hses
 have HTIM := kp htim
 have HBAD := kp hbad
 have HCOP := kp hcop
 have HROP := kp hrop
 rw [hL]
 clear hok hok1 hs hL hB hr hvk hvv hvt hvi hvn hnk hnv hnt hni hnn hC10 hR6 hses hask hdone htold htim hbad hcop hrop
 go_enter Tryz.func60, Tryz.ntmps60
 go_upto_region 1 with (fail)
 rw [<- hW1]
 clear hW1
 have z0 : W1.cell? ⟨w.heap.size, 0, none⟩ = some (.int .i64 ses) := HR.out.cell (j := 0) rfl
 have z2 : W1.cell? ⟨w.heap.size, 2, none⟩ = some (.bool bad) := HR.out.cell (j := 2) rfl
 have z19 : W1.cell? ⟨w.heap.size, 19, none⟩ = some (.int .i64 asked) := HR.out.cell (j := 19) rfl
 have z20 : W1.cell? ⟨w.heap.size, 20, none⟩ = some (.int .i64 done) := HR.out.cell (j := 20) rfl
 have z21 : W1.cell? ⟨w.heap.size, 21, none⟩ = some (.int .i64 told) := HR.out.cell (j := 21) rfl
 have z22 : W1.cell? ⟨w.heap.size, 22, none⟩ = some (.int .u64 tim) := HR.out.cell (j := 22) rfl
 go_wp2_with fail
 refine (step111 asked 0 _).mono ?_
 rintro e w2 ⟨rfl, rfl⟩
 obtain ⟨W1, rfl⟩ : ∃ W, W = w2 := ⟨_, rfl⟩
 cases b1 : stepB asked 0
 ·skip
  have HFF := kp (show singleB x = false from single_rng (by unfold rngB; rw [HASK.out, b1]; rfl))
  go_wp2_with (fail)
  go_ret
  exact rb HFF.out HB.out
 go_wp2_with fail
 refine (step111 done (-1) _).mono ?_
 rintro e w2 ⟨rfl, rfl⟩
 obtain ⟨W1, rfl⟩ : ∃ W, W = w2 := ⟨_, rfl⟩
 cases b2 : stepB done (-1)
 ·skip
  have HFF := kp (show singleB x = false from single_rng (by unfold rngB; rw [HDON.out, b2]; simp))
  go_wp2_with (fail)
  go_ret
  exact rb HFF.out HB.out
 go_wp2_with fail
 refine (step111 told (-1) _).mono ?_
 rintro e w2 ⟨rfl, rfl⟩
 obtain ⟨W1, rfl⟩ : ∃ W, W = w2 := ⟨_, rfl⟩
 cases b3 : stepB told (-1)
 ·skip
  have HFF := kp (show singleB x = false from single_rng (by unfold rngB; rw [HTLD.out, b3]; simp))
  go_wp2_with (fail)
  go_ret
  exact rb HFF.out HB.out
 go_wp2_with fail
 refine (step111 ses 0 _).mono ?_
 rintro e w2 ⟨rfl, rfl⟩
 obtain ⟨W1, rfl⟩ : ∃ W, W = w2 := ⟨_, rfl⟩
 cases b4 : stepB ses 0
 ·skip
  have HFF := kp (show singleB x = false from single_rng (by unfold rngB; rw [HSES.out, b4]; simp))
  go_wp2_with (fail)
  go_ret
  exact rb HFF.out HB.out
 have HRNG := kp (show rngB x = true by unfold rngB; rw [HASK.out, HDON.out, HTLD.out, HSES.out, b1, b2, b3, b4]; rfl)
 have k1 := stepB_iff.1 b1
 have k2 := stepB_iff.1 b2
 have k3 := stepB_iff.1 b3
 have k4 := stepB_iff.1 b4
 have HRW := kp (HR.out.of_block (w := W1) ((Below.refl W1.heap.size W1).block _ HR.out.lt))
 have HCC : Hid (CellsAt W1 ⟨w.heap.size, 3, none⟩ [.int .i64 cop, .string x.cmd.key, .slice Ak nk ck, .slice Av nv cv, .slice At nt ct, .int .u64 x.cmd.life, .int .u64 x.cmd.ver, .string x.cmd.tag, .string x.cmd.pre, .string x.cmd.chi]) := kp (CellsAt.slice HRW.out.cells 3 10)
 have HCR : Hid (CellsAt W1 ⟨w.heap.size, 13, none⟩ [.int .i64 rop, .int .i64 x.resp.err, .slice Ai ni ci, .int .u64 x.resp.ver, .int .i64 x.resp.count, .slice An nn cn]) := kp (CellsAt.slice HRW.out.cells 13 6)
 by_cases d0 : 0 <= done
 ·have g0 : decide (0 <= done) = true := by simp; omega
  by_cases d1 : done <= asked
  ·have g1 : decide (done <= asked) = true := by simp; omega
   have HFF := kp (show singleB x = false from single_ord (by unfold ordB; rw [HASK.out, HDON.out]; simp; omega))
   go_wp2_with (fail)
   go_ret
   exact rb HFF.out HB.out
  have g1 : decide (done <= asked) = false := by simp; omega
  have gd0 : decide (done < 0) = false := by simp; omega
  by_cases t2 : 0 <= told
  ·have g2 : decide (0 <= told) = true := by simp; omega
   by_cases t3 : told <= max asked done
   ·have g3 : decide (told <= max asked done) = true := by simp; omega
    have HFF := kp (show singleB x = false from single_ord (by unfold ordB; rw [HASK.out, HDON.out, HTLD.out]; simp; omega))
    go_wp2_with (fail)
    go_ret
    exact rb HFF.out HB.out
   ·have g3 : decide (told <= max asked done) = false := by simp; omega
    have HORD := kp (show ordB x = true by unfold ordB; rw [HASK.out, HDON.out, HTLD.out]; simp; omega)
    have hb2 := below1 W1 (.cells #[.int .i64 rop, .int .i64 x.resp.err, .slice Ai ni ci, .int .u64 x.resp.ver, .int .i64 x.resp.count, .slice An nn cn] 40)
    have HCB1 := kp (RowL.new W1 40 [.int .i64 rop, .int .i64 x.resp.err, .slice Ai ni ci, .int .u64 x.resp.ver, .int .i64 x.resp.count, .slice An nn cn])
    obtain ⟨W2, hW2⟩ : ∃ W, W = W1.alloc (.cells #[.int .i64 rop, .int .i64 x.resp.err, .slice Ai ni ci, .int .u64 x.resp.ver, .int .i64 x.resp.count, .slice An nn cn] 40) := ⟨_, rfl⟩
    rw [<- hW2] at hb2 HCB1
    have HB2 := kp hb2
    have HW2 := kp hW2
    clear hb2 hW2
    go_upto_region 6 with (first | ((with_reducible refine wpList_load_want (o := ⟨some 52, _, _, _, _, _⟩) 40 _ rfl ⟨w.heap.size, 13, none⟩ ?_ _ _ HCR.out Tryz.underlying40 rfl ?_ ?_ ?_); (· rfl); (· kernel_rfl); (· rfl)))
    rw [<- HW2.out]
    clear HCC HCR HRW
    have HRW := kp (HR.out.of_block (w := W1) (HB2.out.block _ HR.out.lt))
    have HCC : Hid (CellsAt W2 ⟨w.heap.size, 3, none⟩ [.int .i64 cop, .string x.cmd.key, .slice Ak nk ck, .slice Av nv cv, .slice At nt ct, .int .u64 x.cmd.life, .int .u64 x.cmd.ver, .string x.cmd.tag, .string x.cmd.pre, .string x.cmd.chi]) := kp (CellsAt.slice HRW.out.cells 3 10)
    have HCR : Hid (CellsAt W2 ⟨w.heap.size, 13, none⟩ [.int .i64 rop, .int .i64 x.resp.err, .slice Ai ni ci, .int .u64 x.resp.ver, .int .i64 x.resp.count, .slice An nn cn]) := kp (CellsAt.slice HRW.out.cells 13 6)
    have HCB := kp HCB1.out.cells
    have c13 : W2.cell? ⟨W1.heap.size, 0, none⟩ = some (.int .i64 rop) := HCB1.out.cell rfl
    have y0 : W2.cell? ⟨w.heap.size, 0, none⟩ = some (.int .i64 ses) := HRW.out.cell (j := 0) rfl
    have y2 : W2.cell? ⟨w.heap.size, 2, none⟩ = some (.bool bad) := HRW.out.cell (j := 2) rfl
    have y3 : W2.cell? ⟨w.heap.size, 3, none⟩ = some (.int .i64 cop) := HRW.out.cell (j := 3) rfl
    have y19 : W2.cell? ⟨w.heap.size, 19, none⟩ = some (.int .i64 asked) := HRW.out.cell (j := 19) rfl
    have y20 : W2.cell? ⟨w.heap.size, 20, none⟩ = some (.int .i64 done) := HRW.out.cell (j := 20) rfl
    have y21 : W2.cell? ⟨w.heap.size, 21, none⟩ = some (.int .i64 told) := HRW.out.cell (j := 21) rfl
    have y22 : W2.cell? ⟨w.heap.size, 22, none⟩ = some (.int .u64 tim) := HRW.out.cell (j := 22) rfl
    cases bad
    ·go_wp2_with ((with_reducible refine wpList_load_want (o := ⟨some 81, _, _, _, _, _⟩) 36 _ rfl ⟨w.heap.size, 3, none⟩ ?_ _ _ HCC.out Tryz.underlying36 rfl ?_ ?_ ?_); (· rfl); (· kernel_rfl); (· rfl))
     refine (calls_eq (valid113 x.cmd HS.out.cmd p.vk p.vv p.vt W2 (HOK.out W2 HB2.out).1) (by rw [HC10.out] <;> rfl)).mono ?_
     rintro e w3 ⟨rfl, hb3⟩
     have HB32 := kp hb3
     have HB3 := kp (HB2.out.trans (hb3.mono HB2.out.size))
     have HBD : Hid (x.bad = false) := HBAD
     clear hb3
     cases hvc : validC x.cmd
     ·skip
      have HFF := kp (show singleB x = false from single_cnt (by unfold cntB; rw [HBD.out, hvc]; rfl))
      go_wp2_with (fail)
      go_ret
      exact rb HFF.out (HB.out.trans (HB3.out.mono HB.out.size))
     clear HCC HCR HRW
     have HRW := kp (HR.out.of_block (w := W1) (HB3.out.block _ HR.out.lt))
     have HCC : Hid (CellsAt w3 ⟨w.heap.size, 3, none⟩ [.int .i64 cop, .string x.cmd.key, .slice Ak nk ck, .slice Av nv cv, .slice At nt ct, .int .u64 x.cmd.life, .int .u64 x.cmd.ver, .string x.cmd.tag, .string x.cmd.pre, .string x.cmd.chi]) := kp (CellsAt.slice HRW.out.cells 3 10)
     have HCR : Hid (CellsAt w3 ⟨w.heap.size, 13, none⟩ [.int .i64 rop, .int .i64 x.resp.err, .slice Ai ni ci, .int .u64 x.resp.ver, .int .i64 x.resp.count, .slice An nn cn]) := kp (CellsAt.slice HRW.out.cells 13 6)
     have v0 : w3.cell? ⟨w.heap.size, 0, none⟩ = some (.int .i64 ses) := HRW.out.cell (j := 0) rfl
     have v3 : w3.cell? ⟨w.heap.size, 3, none⟩ = some (.int .i64 cop) := HRW.out.cell (j := 3) rfl
     have v19 : w3.cell? ⟨w.heap.size, 19, none⟩ = some (.int .i64 asked) := HRW.out.cell (j := 19) rfl
     have v20 : w3.cell? ⟨w.heap.size, 20, none⟩ = some (.int .i64 done) := HRW.out.cell (j := 20) rfl
     have v21 : w3.cell? ⟨w.heap.size, 21, none⟩ = some (.int .i64 told) := HRW.out.cell (j := 21) rfl
     have v22 : w3.cell? ⟨w.heap.size, 22, none⟩ = some (.int .u64 tim) := HRW.out.cell (j := 22) rfl
     have HCB3 := kp (HCB1.out.of_block (HB32.out.block _ HCB1.out.lt))
     have HCB := kp HCB3.out.cells
     have d13 : w3.cell? ⟨W1.heap.size, 0, none⟩ = some (.int .i64 rop) := HCB3.out.cell rfl
     go_wp2_with ((with_reducible refine wpList_load_want (o := ⟨some 101, _, _, _, _, _⟩) 40 _ rfl ⟨W1.heap.size, 0, none⟩ ?_ _ _ HCB.out Tryz.underlying40 rfl ?_ ?_ ?_); (· rfl); (· kernel_rfl); (· rfl))
     refine (calls_eq (valid112 x.resp HS.out.resp p.vi p.vn w3 (HOK.out w3 HB3.out).2) (by rw [HR6.out] <;> rfl)).mono ?_
     rintro e w4 ⟨rfl, hb4⟩
     have HB43 := kp hb4
     have HB4 := kp (HB3.out.trans (hb4.mono HB3.out.size))
     have u3 : w4.cell? ⟨w.heap.size, 3, none⟩ = some (.int .i64 cop) := (HRW.out.of_block (hb4.block _ HRW.out.lt)).cell rfl
     have u13 : w4.cell? ⟨W1.heap.size, 0, none⟩ = some (.int .i64 rop) := (HCB3.out.of_block (hb4.block _ HCB3.out.lt)).cell rfl
     clear hb4
     cases hvr : validR x.resp
     ·skip
      have HFF := kp (show singleB x = false from single_cnt (by unfold cntB; rw [HBD.out, HDON.out, hvr]; simp; omega))
      go_wp2_with (fail)
      go_ret
      exact rb HFF.out (HB.out.trans (HB4.out.mono HB.out.size))
     by_cases q0 : rop = cop
     ·have gq : (rop == cop) = true := by simpa using q0
      have HQ0 := kp q0
      clear q0
      have HFF := kp (show singleB x = true from single_yes HRNG.out HORD.out (by unfold cntB; rw [HBD.out, HDON.out, HROP.out, HCOP.out, hvr, hvc, HQ0.out]; simp; omega))
      go_wp2_with (fail)
      go_ret
      exact rb HFF.out (HB.out.trans (HB4.out.mono HB.out.size))
     ·have gq : (rop == cop) = false := by simpa using q0
      have HQ0 := kp q0
      clear q0
      have HFF := kp (show singleB x = false from single_cnt (by unfold cntB; rw [HBD.out, HDON.out, HROP.out, HCOP.out, hvc]; simp [HQ0.out]; omega))
      go_wp2_with (fail)
      go_ret
      exact rb HFF.out (HB.out.trans (HB4.out.mono HB.out.size))
    ·have HBD : Hid (x.bad = true) := HBAD
     have HFF := kp (show singleB x = false from single_cnt (by unfold cntB; rw [HBD.out, HDON.out]; simp; omega))
     go_wp2_with (fail)
     go_ret
     exact rb HFF.out (HB.out.trans (HB2.out.mono HB.out.size))
  ·have g2 : decide (0 <= told) = false := by simp; omega
   have HORD := kp (show ordB x = true by unfold ordB; rw [HASK.out, HDON.out, HTLD.out]; simp; omega)
   have hb2 := below1 W1 (.cells #[.int .i64 rop, .int .i64 x.resp.err, .slice Ai ni ci, .int .u64 x.resp.ver, .int .i64 x.resp.count, .slice An nn cn] 40)
   have HCB1 := kp (RowL.new W1 40 [.int .i64 rop, .int .i64 x.resp.err, .slice Ai ni ci, .int .u64 x.resp.ver, .int .i64 x.resp.count, .slice An nn cn])
   obtain ⟨W2, hW2⟩ : ∃ W, W = W1.alloc (.cells #[.int .i64 rop, .int .i64 x.resp.err, .slice Ai ni ci, .int .u64 x.resp.ver, .int .i64 x.resp.count, .slice An nn cn] 40) := ⟨_, rfl⟩
   rw [<- hW2] at hb2 HCB1
   have HB2 := kp hb2
   have HW2 := kp hW2
   clear hb2 hW2
   go_upto_region 6 with (first | ((with_reducible refine wpList_load_want (o := ⟨some 52, _, _, _, _, _⟩) 40 _ rfl ⟨w.heap.size, 13, none⟩ ?_ _ _ HCR.out Tryz.underlying40 rfl ?_ ?_ ?_); (· rfl); (· kernel_rfl); (· rfl)))
   rw [<- HW2.out]
   clear HCC HCR HRW
   have HRW := kp (HR.out.of_block (w := W1) (HB2.out.block _ HR.out.lt))
   have HCC : Hid (CellsAt W2 ⟨w.heap.size, 3, none⟩ [.int .i64 cop, .string x.cmd.key, .slice Ak nk ck, .slice Av nv cv, .slice At nt ct, .int .u64 x.cmd.life, .int .u64 x.cmd.ver, .string x.cmd.tag, .string x.cmd.pre, .string x.cmd.chi]) := kp (CellsAt.slice HRW.out.cells 3 10)
   have HCR : Hid (CellsAt W2 ⟨w.heap.size, 13, none⟩ [.int .i64 rop, .int .i64 x.resp.err, .slice Ai ni ci, .int .u64 x.resp.ver, .int .i64 x.resp.count, .slice An nn cn]) := kp (CellsAt.slice HRW.out.cells 13 6)
   have HCB := kp HCB1.out.cells
   have c13 : W2.cell? ⟨W1.heap.size, 0, none⟩ = some (.int .i64 rop) := HCB1.out.cell rfl
   have y0 : W2.cell? ⟨w.heap.size, 0, none⟩ = some (.int .i64 ses) := HRW.out.cell (j := 0) rfl
   have y2 : W2.cell? ⟨w.heap.size, 2, none⟩ = some (.bool bad) := HRW.out.cell (j := 2) rfl
   have y3 : W2.cell? ⟨w.heap.size, 3, none⟩ = some (.int .i64 cop) := HRW.out.cell (j := 3) rfl
   have y19 : W2.cell? ⟨w.heap.size, 19, none⟩ = some (.int .i64 asked) := HRW.out.cell (j := 19) rfl
   have y20 : W2.cell? ⟨w.heap.size, 20, none⟩ = some (.int .i64 done) := HRW.out.cell (j := 20) rfl
   have y21 : W2.cell? ⟨w.heap.size, 21, none⟩ = some (.int .i64 told) := HRW.out.cell (j := 21) rfl
   have y22 : W2.cell? ⟨w.heap.size, 22, none⟩ = some (.int .u64 tim) := HRW.out.cell (j := 22) rfl
   cases bad
   ·go_wp2_with ((with_reducible refine wpList_load_want (o := ⟨some 81, _, _, _, _, _⟩) 36 _ rfl ⟨w.heap.size, 3, none⟩ ?_ _ _ HCC.out Tryz.underlying36 rfl ?_ ?_ ?_); (· rfl); (· kernel_rfl); (· rfl))
    refine (calls_eq (valid113 x.cmd HS.out.cmd p.vk p.vv p.vt W2 (HOK.out W2 HB2.out).1) (by rw [HC10.out] <;> rfl)).mono ?_
    rintro e w3 ⟨rfl, hb3⟩
    have HB32 := kp hb3
    have HB3 := kp (HB2.out.trans (hb3.mono HB2.out.size))
    have HBD : Hid (x.bad = false) := HBAD
    clear hb3
    cases hvc : validC x.cmd
    ·skip
     have HFF := kp (show singleB x = false from single_cnt (by unfold cntB; rw [HBD.out, hvc]; rfl))
     go_wp2_with (fail)
     go_ret
     exact rb HFF.out (HB.out.trans (HB3.out.mono HB.out.size))
    clear HCC HCR HRW
    have HRW := kp (HR.out.of_block (w := W1) (HB3.out.block _ HR.out.lt))
    have HCC : Hid (CellsAt w3 ⟨w.heap.size, 3, none⟩ [.int .i64 cop, .string x.cmd.key, .slice Ak nk ck, .slice Av nv cv, .slice At nt ct, .int .u64 x.cmd.life, .int .u64 x.cmd.ver, .string x.cmd.tag, .string x.cmd.pre, .string x.cmd.chi]) := kp (CellsAt.slice HRW.out.cells 3 10)
    have HCR : Hid (CellsAt w3 ⟨w.heap.size, 13, none⟩ [.int .i64 rop, .int .i64 x.resp.err, .slice Ai ni ci, .int .u64 x.resp.ver, .int .i64 x.resp.count, .slice An nn cn]) := kp (CellsAt.slice HRW.out.cells 13 6)
    have v0 : w3.cell? ⟨w.heap.size, 0, none⟩ = some (.int .i64 ses) := HRW.out.cell (j := 0) rfl
    have v3 : w3.cell? ⟨w.heap.size, 3, none⟩ = some (.int .i64 cop) := HRW.out.cell (j := 3) rfl
    have v19 : w3.cell? ⟨w.heap.size, 19, none⟩ = some (.int .i64 asked) := HRW.out.cell (j := 19) rfl
    have v20 : w3.cell? ⟨w.heap.size, 20, none⟩ = some (.int .i64 done) := HRW.out.cell (j := 20) rfl
    have v21 : w3.cell? ⟨w.heap.size, 21, none⟩ = some (.int .i64 told) := HRW.out.cell (j := 21) rfl
    have v22 : w3.cell? ⟨w.heap.size, 22, none⟩ = some (.int .u64 tim) := HRW.out.cell (j := 22) rfl
    have HCB3 := kp (HCB1.out.of_block (HB32.out.block _ HCB1.out.lt))
    have HCB := kp HCB3.out.cells
    have d13 : w3.cell? ⟨W1.heap.size, 0, none⟩ = some (.int .i64 rop) := HCB3.out.cell rfl
    go_wp2_with ((with_reducible refine wpList_load_want (o := ⟨some 101, _, _, _, _, _⟩) 40 _ rfl ⟨W1.heap.size, 0, none⟩ ?_ _ _ HCB.out Tryz.underlying40 rfl ?_ ?_ ?_); (· rfl); (· kernel_rfl); (· rfl))
    refine (calls_eq (valid112 x.resp HS.out.resp p.vi p.vn w3 (HOK.out w3 HB3.out).2) (by rw [HR6.out] <;> rfl)).mono ?_
    rintro e w4 ⟨rfl, hb4⟩
    have HB43 := kp hb4
    have HB4 := kp (HB3.out.trans (hb4.mono HB3.out.size))
    have u3 : w4.cell? ⟨w.heap.size, 3, none⟩ = some (.int .i64 cop) := (HRW.out.of_block (hb4.block _ HRW.out.lt)).cell rfl
    have u13 : w4.cell? ⟨W1.heap.size, 0, none⟩ = some (.int .i64 rop) := (HCB3.out.of_block (hb4.block _ HCB3.out.lt)).cell rfl
    clear hb4
    cases hvr : validR x.resp
    ·skip
     have HFF := kp (show singleB x = false from single_cnt (by unfold cntB; rw [HBD.out, HDON.out, hvr]; simp; omega))
     go_wp2_with (fail)
     go_ret
     exact rb HFF.out (HB.out.trans (HB4.out.mono HB.out.size))
    by_cases q0 : rop = cop
    ·have gq : (rop == cop) = true := by simpa using q0
     have HQ0 := kp q0
     clear q0
     have HFF := kp (show singleB x = true from single_yes HRNG.out HORD.out (by unfold cntB; rw [HBD.out, HDON.out, HROP.out, HCOP.out, hvr, hvc, HQ0.out]; simp; omega))
     go_wp2_with (fail)
     go_ret
     exact rb HFF.out (HB.out.trans (HB4.out.mono HB.out.size))
    ·have gq : (rop == cop) = false := by simpa using q0
     have HQ0 := kp q0
     clear q0
     have HFF := kp (show singleB x = false from single_cnt (by unfold cntB; rw [HBD.out, HDON.out, HROP.out, HCOP.out, hvc]; simp [HQ0.out]; omega))
     go_wp2_with (fail)
     go_ret
     exact rb HFF.out (HB.out.trans (HB4.out.mono HB.out.size))
   ·have HBD : Hid (x.bad = true) := HBAD
    have HFF := kp (show singleB x = false from single_cnt (by unfold cntB; rw [HBD.out, HDON.out]; simp; omega))
    go_wp2_with (fail)
    go_ret
    exact rb HFF.out (HB.out.trans (HB2.out.mono HB.out.size))
 ·have g0 : decide (0 <= done) = false := by simp; omega
  have gd0 : decide (done < 0) = true := by simp; omega
  by_cases t2 : 0 <= told
  ·have g2 : decide (0 <= told) = true := by simp; omega
   by_cases t3 : told <= max asked done
   ·have g3 : decide (told <= max asked done) = true := by simp; omega
    have HFF := kp (show singleB x = false from single_ord (by unfold ordB; rw [HASK.out, HDON.out, HTLD.out]; simp; omega))
    go_wp2_with (fail)
    go_ret
    exact rb HFF.out HB.out
   ·have g3 : decide (told <= max asked done) = false := by simp; omega
    have HORD := kp (show ordB x = true by unfold ordB; rw [HASK.out, HDON.out, HTLD.out]; simp; omega)
    have hb2 := below1 W1 (.cells #[.int .i64 rop, .int .i64 x.resp.err, .slice Ai ni ci, .int .u64 x.resp.ver, .int .i64 x.resp.count, .slice An nn cn] 40)
    have HCB1 := kp (RowL.new W1 40 [.int .i64 rop, .int .i64 x.resp.err, .slice Ai ni ci, .int .u64 x.resp.ver, .int .i64 x.resp.count, .slice An nn cn])
    obtain ⟨W2, hW2⟩ : ∃ W, W = W1.alloc (.cells #[.int .i64 rop, .int .i64 x.resp.err, .slice Ai ni ci, .int .u64 x.resp.ver, .int .i64 x.resp.count, .slice An nn cn] 40) := ⟨_, rfl⟩
    rw [<- hW2] at hb2 HCB1
    have HB2 := kp hb2
    have HW2 := kp hW2
    clear hb2 hW2
    go_upto_region 6 with (first | ((with_reducible refine wpList_load_want (o := ⟨some 52, _, _, _, _, _⟩) 40 _ rfl ⟨w.heap.size, 13, none⟩ ?_ _ _ HCR.out Tryz.underlying40 rfl ?_ ?_ ?_); (· rfl); (· kernel_rfl); (· rfl)))
    rw [<- HW2.out]
    clear HCC HCR HRW
    have HRW := kp (HR.out.of_block (w := W1) (HB2.out.block _ HR.out.lt))
    have HCC : Hid (CellsAt W2 ⟨w.heap.size, 3, none⟩ [.int .i64 cop, .string x.cmd.key, .slice Ak nk ck, .slice Av nv cv, .slice At nt ct, .int .u64 x.cmd.life, .int .u64 x.cmd.ver, .string x.cmd.tag, .string x.cmd.pre, .string x.cmd.chi]) := kp (CellsAt.slice HRW.out.cells 3 10)
    have HCR : Hid (CellsAt W2 ⟨w.heap.size, 13, none⟩ [.int .i64 rop, .int .i64 x.resp.err, .slice Ai ni ci, .int .u64 x.resp.ver, .int .i64 x.resp.count, .slice An nn cn]) := kp (CellsAt.slice HRW.out.cells 13 6)
    have HCB := kp HCB1.out.cells
    have c13 : W2.cell? ⟨W1.heap.size, 0, none⟩ = some (.int .i64 rop) := HCB1.out.cell rfl
    have y0 : W2.cell? ⟨w.heap.size, 0, none⟩ = some (.int .i64 ses) := HRW.out.cell (j := 0) rfl
    have y2 : W2.cell? ⟨w.heap.size, 2, none⟩ = some (.bool bad) := HRW.out.cell (j := 2) rfl
    have y3 : W2.cell? ⟨w.heap.size, 3, none⟩ = some (.int .i64 cop) := HRW.out.cell (j := 3) rfl
    have y19 : W2.cell? ⟨w.heap.size, 19, none⟩ = some (.int .i64 asked) := HRW.out.cell (j := 19) rfl
    have y20 : W2.cell? ⟨w.heap.size, 20, none⟩ = some (.int .i64 done) := HRW.out.cell (j := 20) rfl
    have y21 : W2.cell? ⟨w.heap.size, 21, none⟩ = some (.int .i64 told) := HRW.out.cell (j := 21) rfl
    have y22 : W2.cell? ⟨w.heap.size, 22, none⟩ = some (.int .u64 tim) := HRW.out.cell (j := 22) rfl
    cases bad
    ·go_wp2_with ((with_reducible refine wpList_load_want (o := ⟨some 81, _, _, _, _, _⟩) 36 _ rfl ⟨w.heap.size, 3, none⟩ ?_ _ _ HCC.out Tryz.underlying36 rfl ?_ ?_ ?_); (· rfl); (· kernel_rfl); (· rfl))
     refine (calls_eq (valid113 x.cmd HS.out.cmd p.vk p.vv p.vt W2 (HOK.out W2 HB2.out).1) (by rw [HC10.out] <;> rfl)).mono ?_
     rintro e w3 ⟨rfl, hb3⟩
     have HB32 := kp hb3
     have HB3 := kp (HB2.out.trans (hb3.mono HB2.out.size))
     have HBD : Hid (x.bad = false) := HBAD
     clear hb3
     cases hvc : validC x.cmd
     ·skip
      have HFF := kp (show singleB x = false from single_cnt (by unfold cntB; rw [HBD.out, hvc]; rfl))
      go_wp2_with (fail)
      go_ret
      exact rb HFF.out (HB.out.trans (HB3.out.mono HB.out.size))
     clear HCC HCR HRW
     have HRW := kp (HR.out.of_block (w := W1) (HB3.out.block _ HR.out.lt))
     have HCC : Hid (CellsAt w3 ⟨w.heap.size, 3, none⟩ [.int .i64 cop, .string x.cmd.key, .slice Ak nk ck, .slice Av nv cv, .slice At nt ct, .int .u64 x.cmd.life, .int .u64 x.cmd.ver, .string x.cmd.tag, .string x.cmd.pre, .string x.cmd.chi]) := kp (CellsAt.slice HRW.out.cells 3 10)
     have HCR : Hid (CellsAt w3 ⟨w.heap.size, 13, none⟩ [.int .i64 rop, .int .i64 x.resp.err, .slice Ai ni ci, .int .u64 x.resp.ver, .int .i64 x.resp.count, .slice An nn cn]) := kp (CellsAt.slice HRW.out.cells 13 6)
     have v0 : w3.cell? ⟨w.heap.size, 0, none⟩ = some (.int .i64 ses) := HRW.out.cell (j := 0) rfl
     have v3 : w3.cell? ⟨w.heap.size, 3, none⟩ = some (.int .i64 cop) := HRW.out.cell (j := 3) rfl
     have v19 : w3.cell? ⟨w.heap.size, 19, none⟩ = some (.int .i64 asked) := HRW.out.cell (j := 19) rfl
     have v20 : w3.cell? ⟨w.heap.size, 20, none⟩ = some (.int .i64 done) := HRW.out.cell (j := 20) rfl
     have v21 : w3.cell? ⟨w.heap.size, 21, none⟩ = some (.int .i64 told) := HRW.out.cell (j := 21) rfl
     have v22 : w3.cell? ⟨w.heap.size, 22, none⟩ = some (.int .u64 tim) := HRW.out.cell (j := 22) rfl
     have HCB3 := kp (HCB1.out.of_block (HB32.out.block _ HCB1.out.lt))
     have HCB := kp HCB3.out.cells
     have d13 : w3.cell? ⟨W1.heap.size, 0, none⟩ = some (.int .i64 rop) := HCB3.out.cell rfl
     have gt : decide (told < 0) = false := by simp; omega
     have HFF := kp (show singleB x = false from single_cnt (cnt_told HBD.out (by rw [HDON.out]; omega) (by rw [HTLD.out]; omega)))
     go_wp2_with (fail)
     go_ret
     exact rb HFF.out (HB.out.trans (HB3.out.mono HB.out.size))
    ·have HBD : Hid (x.bad = true) := HBAD
     by_cases t1 : tim = 0
     ·have gm : (tim == 0) = true := by simpa using t1
      have HT1 := kp t1
      clear t1
      go_wp2_with (first | ((with_reducible refine wpList_load_want (o := ⟨some 66, _, _, _, _, _⟩) 36 _ rfl ⟨w.heap.size, 3, none⟩ ?_ _ _ HCC.out Tryz.underlying36 rfl ?_ ?_ ?_); (· rfl); (· kernel_rfl); (· rfl)) | ((with_reducible refine wpList_load_want (o := ⟨some 71, _, _, _, _, _⟩) 40 _ rfl ⟨W1.heap.size, 0, none⟩ ?_ _ _ HCB.out Tryz.underlying40 rfl ?_ ?_ ?_); (· rfl); (· kernel_rfl); (· rfl)))
      refine (calls_eq (cmd42 x.cmd cmdZ p.vk p.vv p.vt (.slice none 0 0) (.slice none 0 0) (.slice none 0 0) W2 (HOK.out W2 HB2.out).1 (cmdZ_ok _ _)) (by rw [HC10.out] <;> rfl)).mono ?_
      rintro e w3 ⟨rfl, hb3⟩
      have HB32 := kp hb3
      have HB3 := kp (HB2.out.trans (hb3.mono HB2.out.size))
      clear hb3
      cases hce : cmdEq x.cmd cmdZ
      ·skip
       have HFF := kp (show singleB x = false from single_cnt (by unfold cntB; rw [HBD.out, hce]; simp))
       go_wp2_with (fail)
       go_ret
       exact rb HFF.out (HB.out.trans (HB3.out.mono HB.out.size))
      clear HCC HCR HRW
      have HRW := kp (HR.out.of_block (w := W1) (HB3.out.block _ HR.out.lt))
      have HCC : Hid (CellsAt w3 ⟨w.heap.size, 3, none⟩ [.int .i64 cop, .string x.cmd.key, .slice Ak nk ck, .slice Av nv cv, .slice At nt ct, .int .u64 x.cmd.life, .int .u64 x.cmd.ver, .string x.cmd.tag, .string x.cmd.pre, .string x.cmd.chi]) := kp (CellsAt.slice HRW.out.cells 3 10)
      have HCR : Hid (CellsAt w3 ⟨w.heap.size, 13, none⟩ [.int .i64 rop, .int .i64 x.resp.err, .slice Ai ni ci, .int .u64 x.resp.ver, .int .i64 x.resp.count, .slice An nn cn]) := kp (CellsAt.slice HRW.out.cells 13 6)
      have HCB3 := kp (HCB1.out.of_block (HB32.out.block _ HCB1.out.lt))
      have HCB := kp HCB3.out.cells
      go_wp2_with (first | ((with_reducible refine wpList_load_want (o := ⟨some 66, _, _, _, _, _⟩) 36 _ rfl ⟨w.heap.size, 3, none⟩ ?_ _ _ HCC.out Tryz.underlying36 rfl ?_ ?_ ?_); (· rfl); (· kernel_rfl); (· rfl)) | ((with_reducible refine wpList_load_want (o := ⟨some 71, _, _, _, _, _⟩) 40 _ rfl ⟨W1.heap.size, 0, none⟩ ?_ _ _ HCB.out Tryz.underlying40 rfl ?_ ?_ ?_); (· rfl); (· kernel_rfl); (· rfl)))
      refine (calls_eq (valid112 x.resp HS.out.resp p.vi p.vn w3 (HOK.out w3 HB3.out).2) (by rw [HR6.out] <;> rfl)).mono ?_
      rintro e w4 ⟨rfl, hb4⟩
      have HB4 := kp (HB3.out.trans (hb4.mono HB3.out.size))
      have u13 : w4.cell? ⟨W1.heap.size, 0, none⟩ = some (.int .i64 rop) := (HCB3.out.of_block (hb4.block _ HCB3.out.lt)).cell rfl
      clear hb4
      cases hvr : validR x.resp
      ·skip
       have HFF := kp (show singleB x = false from single_cnt (by unfold cntB; rw [HBD.out, hvr]; simp))
       go_wp2_with (fail)
       go_ret
       exact rb HFF.out (HB.out.trans (HB4.out.mono HB.out.size))
      by_cases q0 : rop = 0
      ·have gq : (rop == 0) = true := by simpa using q0
       have HQ0 := kp q0
       clear q0
       have HFF := kp (show singleB x = true from single_yes HRNG.out HORD.out (by unfold cntB; rw [HBD.out, HDON.out, HTIM.out, HROP.out, hvr, hce, HT1.out, HQ0.out]; simp; omega))
       go_wp2_with (fail)
       go_ret
       exact rb HFF.out (HB.out.trans (HB4.out.mono HB.out.size))
      ·have gq : (rop == 0) = false := by simpa using q0
       have HQ0 := kp q0
       clear q0
       have HFF := kp (show singleB x = false from single_cnt (by unfold cntB; rw [HBD.out, HROP.out]; simp [HQ0.out]))
       go_wp2_with (fail)
       go_ret
       exact rb HFF.out (HB.out.trans (HB4.out.mono HB.out.size))
     ·have gm : (tim == 0) = false := by simpa using t1
      have HT1 := kp t1
      clear t1
      have HFF := kp (show singleB x = false from single_cnt (by unfold cntB; rw [HBD.out, HTIM.out]; simp [HT1.out]))
      go_wp2_with (fail)
      go_ret
      exact rb HFF.out (HB.out.trans (HB2.out.mono HB.out.size))
  ·have g2 : decide (0 <= told) = false := by simp; omega
   have HORD := kp (show ordB x = true by unfold ordB; rw [HASK.out, HDON.out, HTLD.out]; simp; omega)
   have hb2 := below1 W1 (.cells #[.int .i64 rop, .int .i64 x.resp.err, .slice Ai ni ci, .int .u64 x.resp.ver, .int .i64 x.resp.count, .slice An nn cn] 40)
   have HCB1 := kp (RowL.new W1 40 [.int .i64 rop, .int .i64 x.resp.err, .slice Ai ni ci, .int .u64 x.resp.ver, .int .i64 x.resp.count, .slice An nn cn])
   obtain ⟨W2, hW2⟩ : ∃ W, W = W1.alloc (.cells #[.int .i64 rop, .int .i64 x.resp.err, .slice Ai ni ci, .int .u64 x.resp.ver, .int .i64 x.resp.count, .slice An nn cn] 40) := ⟨_, rfl⟩
   rw [<- hW2] at hb2 HCB1
   have HB2 := kp hb2
   have HW2 := kp hW2
   clear hb2 hW2
   go_upto_region 6 with (first | ((with_reducible refine wpList_load_want (o := ⟨some 52, _, _, _, _, _⟩) 40 _ rfl ⟨w.heap.size, 13, none⟩ ?_ _ _ HCR.out Tryz.underlying40 rfl ?_ ?_ ?_); (· rfl); (· kernel_rfl); (· rfl)))
   rw [<- HW2.out]
   clear HCC HCR HRW
   have HRW := kp (HR.out.of_block (w := W1) (HB2.out.block _ HR.out.lt))
   have HCC : Hid (CellsAt W2 ⟨w.heap.size, 3, none⟩ [.int .i64 cop, .string x.cmd.key, .slice Ak nk ck, .slice Av nv cv, .slice At nt ct, .int .u64 x.cmd.life, .int .u64 x.cmd.ver, .string x.cmd.tag, .string x.cmd.pre, .string x.cmd.chi]) := kp (CellsAt.slice HRW.out.cells 3 10)
   have HCR : Hid (CellsAt W2 ⟨w.heap.size, 13, none⟩ [.int .i64 rop, .int .i64 x.resp.err, .slice Ai ni ci, .int .u64 x.resp.ver, .int .i64 x.resp.count, .slice An nn cn]) := kp (CellsAt.slice HRW.out.cells 13 6)
   have HCB := kp HCB1.out.cells
   have c13 : W2.cell? ⟨W1.heap.size, 0, none⟩ = some (.int .i64 rop) := HCB1.out.cell rfl
   have y0 : W2.cell? ⟨w.heap.size, 0, none⟩ = some (.int .i64 ses) := HRW.out.cell (j := 0) rfl
   have y2 : W2.cell? ⟨w.heap.size, 2, none⟩ = some (.bool bad) := HRW.out.cell (j := 2) rfl
   have y3 : W2.cell? ⟨w.heap.size, 3, none⟩ = some (.int .i64 cop) := HRW.out.cell (j := 3) rfl
   have y19 : W2.cell? ⟨w.heap.size, 19, none⟩ = some (.int .i64 asked) := HRW.out.cell (j := 19) rfl
   have y20 : W2.cell? ⟨w.heap.size, 20, none⟩ = some (.int .i64 done) := HRW.out.cell (j := 20) rfl
   have y21 : W2.cell? ⟨w.heap.size, 21, none⟩ = some (.int .i64 told) := HRW.out.cell (j := 21) rfl
   have y22 : W2.cell? ⟨w.heap.size, 22, none⟩ = some (.int .u64 tim) := HRW.out.cell (j := 22) rfl
   cases bad
   ·go_wp2_with ((with_reducible refine wpList_load_want (o := ⟨some 81, _, _, _, _, _⟩) 36 _ rfl ⟨w.heap.size, 3, none⟩ ?_ _ _ HCC.out Tryz.underlying36 rfl ?_ ?_ ?_); (· rfl); (· kernel_rfl); (· rfl))
    refine (calls_eq (valid113 x.cmd HS.out.cmd p.vk p.vv p.vt W2 (HOK.out W2 HB2.out).1) (by rw [HC10.out] <;> rfl)).mono ?_
    rintro e w3 ⟨rfl, hb3⟩
    have HB32 := kp hb3
    have HB3 := kp (HB2.out.trans (hb3.mono HB2.out.size))
    have HBD : Hid (x.bad = false) := HBAD
    clear hb3
    cases hvc : validC x.cmd
    ·skip
     have HFF := kp (show singleB x = false from single_cnt (by unfold cntB; rw [HBD.out, hvc]; rfl))
     go_wp2_with (fail)
     go_ret
     exact rb HFF.out (HB.out.trans (HB3.out.mono HB.out.size))
    clear HCC HCR HRW
    have HRW := kp (HR.out.of_block (w := W1) (HB3.out.block _ HR.out.lt))
    have HCC : Hid (CellsAt w3 ⟨w.heap.size, 3, none⟩ [.int .i64 cop, .string x.cmd.key, .slice Ak nk ck, .slice Av nv cv, .slice At nt ct, .int .u64 x.cmd.life, .int .u64 x.cmd.ver, .string x.cmd.tag, .string x.cmd.pre, .string x.cmd.chi]) := kp (CellsAt.slice HRW.out.cells 3 10)
    have HCR : Hid (CellsAt w3 ⟨w.heap.size, 13, none⟩ [.int .i64 rop, .int .i64 x.resp.err, .slice Ai ni ci, .int .u64 x.resp.ver, .int .i64 x.resp.count, .slice An nn cn]) := kp (CellsAt.slice HRW.out.cells 13 6)
    have v0 : w3.cell? ⟨w.heap.size, 0, none⟩ = some (.int .i64 ses) := HRW.out.cell (j := 0) rfl
    have v3 : w3.cell? ⟨w.heap.size, 3, none⟩ = some (.int .i64 cop) := HRW.out.cell (j := 3) rfl
    have v19 : w3.cell? ⟨w.heap.size, 19, none⟩ = some (.int .i64 asked) := HRW.out.cell (j := 19) rfl
    have v20 : w3.cell? ⟨w.heap.size, 20, none⟩ = some (.int .i64 done) := HRW.out.cell (j := 20) rfl
    have v21 : w3.cell? ⟨w.heap.size, 21, none⟩ = some (.int .i64 told) := HRW.out.cell (j := 21) rfl
    have v22 : w3.cell? ⟨w.heap.size, 22, none⟩ = some (.int .u64 tim) := HRW.out.cell (j := 22) rfl
    have HCB3 := kp (HCB1.out.of_block (HB32.out.block _ HCB1.out.lt))
    have HCB := kp HCB3.out.cells
    have d13 : w3.cell? ⟨W1.heap.size, 0, none⟩ = some (.int .i64 rop) := HCB3.out.cell rfl
    have gt : decide (told < 0) = true := by simp; omega
    by_cases t1 : tim = 0
    ·have gm : (tim == 0) = true := by simpa using t1
     have HT1 := kp t1
     clear t1
     go_wp2_with ((with_reducible refine wpList_load_want (o := ⟨some 97, _, _, _, _, _⟩) 40 _ rfl ⟨W1.heap.size, 0, none⟩ ?_ _ _ HCB.out Tryz.underlying40 rfl ?_ ?_ ?_); (· rfl); (· kernel_rfl); (· rfl))
     refine (calls_eq (resp43 x.resp (resp00 0 0) p.vi p.vn (.slice none 0 0) (.slice none 0 0) w3 (HOK.out w3 HB3.out).2 (resp00_ok _ _ _ _)) (by rw [HR6.out] <;> rfl)).mono ?_
     rintro e w4 ⟨rfl, hb4⟩
     have HB4 := kp (HB3.out.trans (hb4.mono HB3.out.size))
     cases hre : respEq x.resp (resp00 0 0)
     ·skip
      have HFF := kp (show singleB x = false from single_cnt (by unfold cntB; rw [HBD.out, HDON.out, HTLD.out, hre]; simp; omega))
      go_wp2_with (fail)
      go_ret
      exact rb HFF.out (HB.out.trans (HB4.out.mono HB.out.size))
     ·skip
      have HFF := kp (show singleB x = true from single_yes HRNG.out HORD.out (cnt_yes0 HBD.out (by rw [HDON.out]; omega) (by rw [HTLD.out]; omega) (by rw [HTIM.out]; exact HT1.out) hvc hre))
      go_wp2_with (fail)
      go_ret
      exact rb HFF.out (HB.out.trans (HB4.out.mono HB.out.size))
    ·have gm : (tim == 0) = false := by simpa using t1
     have HT1 := kp t1
     clear t1
     have HFF := kp (show singleB x = false from single_cnt (by unfold cntB; rw [HBD.out, HDON.out, HTIM.out]; simp [HT1.out]; omega))
     go_wp2_with (fail)
     go_ret
     exact rb HFF.out (HB.out.trans (HB3.out.mono HB.out.size))
   ·have HBD : Hid (x.bad = true) := HBAD
    by_cases t1 : tim = 0
    ·have gm : (tim == 0) = true := by simpa using t1
     have HT1 := kp t1
     clear t1
     go_wp2_with (first | ((with_reducible refine wpList_load_want (o := ⟨some 66, _, _, _, _, _⟩) 36 _ rfl ⟨w.heap.size, 3, none⟩ ?_ _ _ HCC.out Tryz.underlying36 rfl ?_ ?_ ?_); (· rfl); (· kernel_rfl); (· rfl)) | ((with_reducible refine wpList_load_want (o := ⟨some 71, _, _, _, _, _⟩) 40 _ rfl ⟨W1.heap.size, 0, none⟩ ?_ _ _ HCB.out Tryz.underlying40 rfl ?_ ?_ ?_); (· rfl); (· kernel_rfl); (· rfl)))
     refine (calls_eq (cmd42 x.cmd cmdZ p.vk p.vv p.vt (.slice none 0 0) (.slice none 0 0) (.slice none 0 0) W2 (HOK.out W2 HB2.out).1 (cmdZ_ok _ _)) (by rw [HC10.out] <;> rfl)).mono ?_
     rintro e w3 ⟨rfl, hb3⟩
     have HB32 := kp hb3
     have HB3 := kp (HB2.out.trans (hb3.mono HB2.out.size))
     clear hb3
     cases hce : cmdEq x.cmd cmdZ
     ·skip
      have HFF := kp (show singleB x = false from single_cnt (by unfold cntB; rw [HBD.out, hce]; simp))
      go_wp2_with (fail)
      go_ret
      exact rb HFF.out (HB.out.trans (HB3.out.mono HB.out.size))
     clear HCC HCR HRW
     have HRW := kp (HR.out.of_block (w := W1) (HB3.out.block _ HR.out.lt))
     have HCC : Hid (CellsAt w3 ⟨w.heap.size, 3, none⟩ [.int .i64 cop, .string x.cmd.key, .slice Ak nk ck, .slice Av nv cv, .slice At nt ct, .int .u64 x.cmd.life, .int .u64 x.cmd.ver, .string x.cmd.tag, .string x.cmd.pre, .string x.cmd.chi]) := kp (CellsAt.slice HRW.out.cells 3 10)
     have HCR : Hid (CellsAt w3 ⟨w.heap.size, 13, none⟩ [.int .i64 rop, .int .i64 x.resp.err, .slice Ai ni ci, .int .u64 x.resp.ver, .int .i64 x.resp.count, .slice An nn cn]) := kp (CellsAt.slice HRW.out.cells 13 6)
     have HCB3 := kp (HCB1.out.of_block (HB32.out.block _ HCB1.out.lt))
     have HCB := kp HCB3.out.cells
     go_wp2_with (first | ((with_reducible refine wpList_load_want (o := ⟨some 66, _, _, _, _, _⟩) 36 _ rfl ⟨w.heap.size, 3, none⟩ ?_ _ _ HCC.out Tryz.underlying36 rfl ?_ ?_ ?_); (· rfl); (· kernel_rfl); (· rfl)) | ((with_reducible refine wpList_load_want (o := ⟨some 71, _, _, _, _, _⟩) 40 _ rfl ⟨W1.heap.size, 0, none⟩ ?_ _ _ HCB.out Tryz.underlying40 rfl ?_ ?_ ?_); (· rfl); (· kernel_rfl); (· rfl)))
     refine (calls_eq (valid112 x.resp HS.out.resp p.vi p.vn w3 (HOK.out w3 HB3.out).2) (by rw [HR6.out] <;> rfl)).mono ?_
     rintro e w4 ⟨rfl, hb4⟩
     have HB4 := kp (HB3.out.trans (hb4.mono HB3.out.size))
     have u13 : w4.cell? ⟨W1.heap.size, 0, none⟩ = some (.int .i64 rop) := (HCB3.out.of_block (hb4.block _ HCB3.out.lt)).cell rfl
     clear hb4
     cases hvr : validR x.resp
     ·skip
      have HFF := kp (show singleB x = false from single_cnt (by unfold cntB; rw [HBD.out, hvr]; simp))
      go_wp2_with (fail)
      go_ret
      exact rb HFF.out (HB.out.trans (HB4.out.mono HB.out.size))
     by_cases q0 : rop = 0
     ·have gq : (rop == 0) = true := by simpa using q0
      have HQ0 := kp q0
      clear q0
      have HFF := kp (show singleB x = true from single_yes HRNG.out HORD.out (by unfold cntB; rw [HBD.out, HDON.out, HTIM.out, HROP.out, hvr, hce, HT1.out, HQ0.out]; simp; omega))
      go_wp2_with (fail)
      go_ret
      exact rb HFF.out (HB.out.trans (HB4.out.mono HB.out.size))
     ·have gq : (rop == 0) = false := by simpa using q0
      have HQ0 := kp q0
      clear q0
      have HFF := kp (show singleB x = false from single_cnt (by unfold cntB; rw [HBD.out, HROP.out]; simp [HQ0.out]))
      go_wp2_with (fail)
      go_ret
      exact rb HFF.out (HB.out.trans (HB4.out.mono HB.out.size))
    ·have gm : (tim == 0) = false := by simpa using t1
     have HT1 := kp t1
     clear t1
     have HFF := kp (show singleB x = false from single_cnt (by unfold cntB; rw [HBD.out, HTIM.out]; simp [HT1.out]))
     go_wp2_with (fail)
     go_ret
     exact rb HFF.out (HB.out.trans (HB2.out.mono HB.out.size))
end Go.Proofs.YtnjhpgmbfblgaaaGreat.Ord
