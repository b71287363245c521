/- Walk of. -/
import Derived.Test.YtnjhpgmbfblgaaaGreatMK7
import Derived.Test.YtnjhpgmbfblgaaaGreatMP0
import Derived.Test.YtnjhpgmbfblgaaaGreatMH3
set_option linter.unusedVariables false
set_option linter.unusedSimpArgs false
namespace Go.Proofs.YtnjhpgmbfblgaaaGreat.Ord
set_option maxRecDepth 100000
set_option maxHeartbeats 16000000
open Go.RowKit
def bZ_ (n l : Int) : Bool := decide (l <= n) && decide (n < 4096)
def rngB (x : CallR) : Bool := bZ_ x.asked 0 && (bZ_ x.done (-1) && (bZ_ x.told (-1) && bZ_ x.ses 0))
def ordB (x : CallR) : Bool := decide (¬ (0 <= x.done /\ x.done <= x.asked) /\ ¬ (0 <= x.told /\ (x.told <= x.asked ∨ x.told <= x.done)))
def cmdZ : CmdR := ⟨0, ⟨#[]⟩, [], [], [], 0, 0, ⟨#[]⟩, ⟨#[]⟩, ⟨#[]⟩⟩
def cntB (x : CallR) : Bool :=
 if x.bad = true then decide (x.done < 0) && (decide (x.tim = 0) && (cl_ x.cmd cmdZ && (aX_ x.resp && decide (x.resp.op = 0))))
 else aJ_ x.cmd && (if x.done < 0 then decide (x.told < 0) && (decide (x.tim = 0) && bd_ x.resp (ap_ 0 0)) else aX_ x.resp && decide (x.resp.op = x.cmd.op))
def singleB (x : CallR) : Bool := rngB x && (ordB x && cntB x)
theorem aL_ {x : CallR} (h : rngB x = false) : singleB x = false := by unfold singleB; rw [h]; rfl
theorem bn_ {x : CallR} (h : ordB x = false) : singleB x = false := by unfold singleB; rw [h]; simp
theorem ak_ {x : CallR} (h : cntB x = false) : singleB x = false := by unfold singleB; rw [h]; simp
theorem ba_ {x : CallR} (h : rngB x = true) (h1 : ordB x = true) (h2 : cntB x = true) : singleB x = true := by unfold singleB; rw [h, h1, h2]; rfl
theorem stepB_iff {n l : Int} : bZ_ n l = true ↔ l <= n /\ n < 4096 := by simp [bZ_]
theorem i3_ {x : CallR} (hb : x.bad = false) (hd : x.done < 0) (ht : x.told < 0) (hm : x.tim = 0) (hv : aJ_ x.cmd = true) (hr : bd_ x.resp (ap_ 0 0) = true) : cntB x = true := by unfold cntB; rw [hb, if_neg (by simp), if_pos hd, eT_ ht, eT_ hm, hv, hr]; rfl
theorem i4_ {x : CallR} (hb : x.bad = false) (hd : x.done < 0) (ht : ¬ x.told < 0) : cntB x = false := by unfold cntB; rw [hb, if_neg (by simp), if_pos hd, eF ht]; simp
def SPost (x : CallR) (w : World) (e : Ending) (w' : World) : Prop := e = .returned (.bool (singleB x)) /\ Bw w w'
structure CallS (x : CallR) : Prop where
 cmd : CmdS x.cmd
 resp : RespS x.resp
theorem fW_ (n l : Int) (w : World) : Calls Tryz.prog 111 #[.int .i64 n, .int .i64 l] w fun e w' => e = .returned (.bool (bZ_ n l)) /\ w' = w := by
 unfold bZ_
 cases g1 : decide (l <= n)
 ·go_enter Tryz.func111, Tryz.ntmps111
  go_wp2_with fail
  go_ret
  exact ⟨rfl, rfl⟩
 cases g2 : decide (n < 4096)
 all_goals
  go_enter Tryz.func111, Tryz.ntmps111
  go_wp2_with fail
  go_ret
  exact ⟨rfl, rfl⟩
theorem in_ (w : World) (B : Nat) : CmdOk w B cmdZ (.slice none 0 0) (.slice none 0 0) (.slice none 0 0) := ⟨cf_ _ _, datg_nil _ _, cf_ _ _⟩
theorem gF_ (w : World) (B : Nat) (a b : Int) : RespOk w B (ap_ a b) (.slice none 0 0) (.slice none 0 0) := ⟨cz_ _ _, cH_ _ _⟩
theorem aT_ {N : Nat} {vs vs' : Array Value} {w : World} {Q : Ending -> World -> Prop} (h : Calls Tryz.prog N vs w Q) (e : vs = vs') : Calls Tryz.prog N vs' w Q := by subst e; exact h
theorem single60 (x : CallR) (p : CallV) (hs : CallS x) (w : World) (hok : CallOk w w.heap.size x p) :
  Calls Tryz.prog 60 #[.agg (callC x p).toArray] w (SPost x w) := by
 obtain ⟨⟨⟨_, Ak, ck, hvk, _⟩, ⟨_, _, Av, cv, hvv, _⟩, ⟨_, At, ct, hvt, _⟩⟩, ⟨⟨_, Ai, ci, hvi, _⟩, _, An, cn, hvn, _⟩⟩ := id hok
 obtain ⟨nk, hnk⟩ := eY x.cmd.keys.length
 obtain ⟨nv, hnv⟩ := eY x.cmd.val.length
 obtain ⟨nt, hnt⟩ := eY x.cmd.tags.length
 obtain ⟨ni, hni⟩ := eY x.resp.items.length
 obtain ⟨nn, hnn⟩ := eY x.resp.nums.length
 rw [hnk] at hvk
 rw [hnv] at hvv
 rw [hnt] at hvt
 rw [hni] at hvi
 rw [hnn] at hvn
 obtain ⟨ses, hses⟩ := eY x.ses
 obtain ⟨asked, hask⟩ := eY x.asked
 obtain ⟨done, hdone⟩ := eY x.done
 obtain ⟨told, htold⟩ := eY x.told
 obtain ⟨tim, htim⟩ := eY x.tim
 obtain ⟨bad, hbad⟩ := eY x.bad
 obtain ⟨cop, hcop⟩ := eY x.cmd.op
 obtain ⟨rop, hrop⟩ := eY x.resp.op
 have hC10 : cmdC x.cmd p.vk p.vv p.vt = [.int .i64 cop, .string x.cmd.key, .slice Ak nk ck, .slice Av nv cv, .slice At nt ct, .int .u64 x.cmd.life, .int .u64 x.cmd.ver, .string x.cmd.tag, .string x.cmd.pre, .string x.cmd.chi] := by rw [hvk, hvv, hvt, <- hcop]; rfl
 have hR6 : respC x.resp p.vi p.vn = [.int .i64 rop, .int .i64 x.resp.err, .slice Ai ni ci, .int .u64 x.resp.ver, .int .i64 x.resp.count, .slice An nn cn] := by rw [hvi, hvn, <- hrop]; rfl
 have hL : callC x p = [.int .i64 ses, .int .i64 x.num, .bool bad, .int .i64 cop, .string x.cmd.key, .slice Ak nk ck, .slice Av nv cv, .slice At nt ct, .int .u64 x.cmd.life, .int .u64 x.cmd.ver, .string x.cmd.tag, .string x.cmd.pre, .string x.cmd.chi, .int .i64 rop, .int .i64 x.resp.err, .slice Ai ni ci, .int .u64 x.resp.ver, .int .i64 x.resp.count, .slice An nn cn, .int .i64 asked, .int .i64 done, .int .i64 told, .int .u64 tim] := by unfold callC; rw [hvk, hvv, hvt, hvi, hvn, hses, hbad, hcop, hrop, hask, hdone, htold, htim]; rfl
 have hB := below1 w (.cells #[.int .i64 ses, .int .i64 x.num, .bool bad, .int .i64 cop, .string x.cmd.key, .slice Ak nk ck, .slice Av nv cv, .slice At nt ct, .int .u64 x.cmd.life, .int .u64 x.cmd.ver, .string x.cmd.tag, .string x.cmd.pre, .string x.cmd.chi, .int .i64 rop, .int .i64 x.resp.err, .slice Ai ni ci, .int .u64 x.resp.ver, .int .i64 x.resp.count, .slice An nn cn, .int .i64 asked, .int .i64 done, .int .i64 told, .int .u64 tim] 52)
 have hr := RowL.new w 52 [.int .i64 ses, .int .i64 x.num, .bool bad, .int .i64 cop, .string x.cmd.key, .slice Ak nk ck, .slice Av nv cv, .slice At nt ct, .int .u64 x.cmd.life, .int .u64 x.cmd.ver, .string x.cmd.tag, .string x.cmd.pre, .string x.cmd.chi, .int .i64 rop, .int .i64 x.resp.err, .slice Ai ni ci, .int .u64 x.resp.ver, .int .i64 x.resp.count, .slice An nn cn, .int .i64 asked, .int .i64 done, .int .i64 told, .int .u64 tim]
 obtain ⟨W1, hW1⟩ := eX (w.alloc (.cells #[.int .i64 ses, .int .i64 x.num, .bool bad, .int .i64 cop, .string x.cmd.key, .slice Ak nk ck, .slice Av nv cv, .slice At nt ct, .int .u64 x.cmd.life, .int .u64 x.cmd.ver, .string x.cmd.tag, .string x.cmd.pre, .string x.cmd.chi, .int .i64 rop, .int .i64 x.resp.err, .slice Ai ni ci, .int .u64 x.resp.ver, .int .i64 x.resp.count, .slice An nn cn, .int .i64 asked, .int .i64 done, .int .i64 told, .int .u64 tim] 52))
 rw [<- hW1] at hB hr
 have hok1 := (hok.below hB (lR _)).mono hB.size
 obtain ⟨Bc, HB, HR, HS, Bb, Bg, Ah, Ac, Ae, Bd, As, Aw⟩ := kq12 (fun (W : World) (hb : Bw W1 W) => (hok1.below hb (lR _)).mono hb.size) hB hr hs hC10 hR6 hask hdone htold hses htim hbad
 obtain ⟨Be, Au⟩ := kq2 hcop hrop
 rw [hL]
 clear hok hok1 hs hL hB hr hvk hvv hvt hvi hvn hnk hnv hnt hni hnn hC10 hR6 hses hask hdone htold htim hbad hcop hrop
 go_enter Tryz.func60, Tryz.ntmps60
 go_upto_region 1 with (fail)
 rw [<- hW1]
 clear hW1
 have z0 : W1.cell? ⟨w.heap.size, 0, none⟩ = some (.int .i64 ses) := HR.o.cell (j := 0) rfl
 have z2 : W1.cell? ⟨w.heap.size, 2, none⟩ = some (.bool bad) := HR.o.cell (j := 2) rfl
 have z19 : W1.cell? ⟨w.heap.size, 19, none⟩ = some (.int .i64 asked) := HR.o.cell (j := 19) rfl
 have z20 : W1.cell? ⟨w.heap.size, 20, none⟩ = some (.int .i64 done) := HR.o.cell (j := 20) rfl
 have z21 : W1.cell? ⟨w.heap.size, 21, none⟩ = some (.int .i64 told) := HR.o.cell (j := 21) rfl
 have z22 : W1.cell? ⟨w.heap.size, 22, none⟩ = some (.int .u64 tim) := HR.o.cell (j := 22) rfl
 go_wp2_with fail
 refine (fW_ asked 0 _).mono ?_
 rintro e w2 ⟨rfl, rfl⟩
 obtain ⟨W1, rfl⟩ := eX w2
 cases b1 : bZ_ asked 0
 ·skip
  have Ab := kp (show singleB x = false from aL_ (by unfold rngB; rw [Ah.o, b1]; rfl))
  go_wp2_with (fail)
  go_ret
  exact rb Ab.o HB.o
 go_wp2_with fail
 refine (fW_ done (-1) _).mono ?_
 rintro e w2 ⟨rfl, rfl⟩
 obtain ⟨W1, rfl⟩ := eX w2
 cases b2 : bZ_ done (-1)
 ·skip
  have Ab := kp (show singleB x = false from aL_ (by unfold rngB; rw [Ac.o, b2]; simp))
  go_wp2_with (fail)
  go_ret
  exact rb Ab.o HB.o
 go_wp2_with fail
 refine (fW_ told (-1) _).mono ?_
 rintro e w2 ⟨rfl, rfl⟩
 obtain ⟨W1, rfl⟩ := eX w2
 cases b3 : bZ_ told (-1)
 ·skip
  have Ab := kp (show singleB x = false from aL_ (by unfold rngB; rw [Ae.o, b3]; simp))
  go_wp2_with (fail)
  go_ret
  exact rb Ab.o HB.o
 go_wp2_with fail
 refine (fW_ ses 0 _).mono ?_
 rintro e w2 ⟨rfl, rfl⟩
 obtain ⟨W1, rfl⟩ := eX w2
 cases b4 : bZ_ ses 0
 ·skip
  have Ab := kp (show singleB x = false from aL_ (by unfold rngB; rw [Bd.o, b4]; simp))
  go_wp2_with (fail)
  go_ret
  exact rb Ab.o HB.o
 have Az := kp (show rngB x = true by unfold rngB; rw [Ah.o, Ac.o, Ae.o, Bd.o, b1, b2, b3, b4]; rfl)
 have k1 := stepB_iff.1 b1
 have k2 := stepB_iff.1 b2
 have k3 := stepB_iff.1 b3
 have k4 := stepB_iff.1 b4
 have Aa := kp (HR.o.of_block (w := W1) ((BR W1.heap.size W1).block _ HR.o.lt))
 have Al : Hid (CellsAt W1 ⟨w.heap.size, 3, none⟩ [.int .i64 cop, .string x.cmd.key, .slice Ak nk ck, .slice Av nv cv, .slice At nt ct, .int .u64 x.cmd.life, .int .u64 x.cmd.ver, .string x.cmd.tag, .string x.cmd.pre, .string x.cmd.chi]) := kp (CellsAt.slice Aa.o.cells 3 10)
 have Ap : Hid (CellsAt W1 ⟨w.heap.size, 13, none⟩ [.int .i64 rop, .int .i64 x.resp.err, .slice Ai ni ci, .int .u64 x.resp.ver, .int .i64 x.resp.count, .slice An nn cn]) := kp (CellsAt.slice Aa.o.cells 13 6)
 by_cases d0 : 0 <= done
 ·have g0 : decide (0 <= done) = true := by simp; omega
  by_cases d1 : done <= asked
  ·have g1 : decide (done <= asked) = true := by simp; omega
   have Ab := kp (show singleB x = false from bn_ (by unfold ordB; rw [Ah.o, Ac.o]; simp; omega))
   go_wp2_with (fail)
   go_ret
   exact rb Ab.o HB.o
  have g1 : decide (done <= asked) = false := by simp; omega
  have gd0 : decide (done < 0) = false := by simp; omega
  by_cases t2 : 0 <= told
  case' pos =>
   have g2 : decide (0 <= told) = true := by simp; omega
   by_cases t3 : told <= max asked done
   ·have g3 : decide (told <= max asked done) = true := by simp; omega
    have Ab := kp (show singleB x = false from bn_ (by unfold ordB; rw [Ah.o, Ac.o, Ae.o]; simp; omega))
    go_wp2_with (fail)
    go_ret
    exact rb Ab.o HB.o
   have g3 : decide (told <= max asked done) = false := by simp; omega
   have Ao := kp (show ordB x = true by unfold ordB; rw [Ah.o, Ac.o, Ae.o]; simp; omega)
  case' neg =>
   have g2 : decide (0 <= told) = false := by simp; omega
   have Ao := kp (show ordB x = true by unfold ordB; rw [Ah.o, Ac.o, Ae.o]; simp; omega)
  all_goals
   have hb2 := below1 W1 (.cells #[.int .i64 rop, .int .i64 x.resp.err, .slice Ai ni ci, .int .u64 x.resp.ver, .int .i64 x.resp.count, .slice An nn cn] 40)
   have Ad := kp (RowL.new W1 40 [.int .i64 rop, .int .i64 x.resp.err, .slice Ai ni ci, .int .u64 x.resp.ver, .int .i64 x.resp.count, .slice An nn cn])
   obtain ⟨W2, hW2⟩ := eX (W1.alloc (.cells #[.int .i64 rop, .int .i64 x.resp.err, .slice Ai ni ci, .int .u64 x.resp.ver, .int .i64 x.resp.count, .slice An nn cn] 40))
   rw [<- hW2] at hb2 Ad
   obtain ⟨Am, Bf⟩ := kq2 hb2 hW2
   clear hb2 hW2
   go_upto_region 6 with (first | ((with_reducible refine ac_ (o := ⟨some 52, _, _, _, _, _⟩) 40 _ rfl ⟨w.heap.size, 13, none⟩ ?_ _ _ Ap.o Tryz.underlying40 rfl ?_ ?_ ?_); (· rfl); (· kernel_rfl); (· rfl)))
   rw [<- Bf.o]
   clear Al Ap Aa
   have Aa := kp (HR.o.of_block (w := W1) (Am.o.block _ HR.o.lt))
   have Al : Hid (CellsAt W2 ⟨w.heap.size, 3, none⟩ [.int .i64 cop, .string x.cmd.key, .slice Ak nk ck, .slice Av nv cv, .slice At nt ct, .int .u64 x.cmd.life, .int .u64 x.cmd.ver, .string x.cmd.tag, .string x.cmd.pre, .string x.cmd.chi]) := kp (CellsAt.slice Aa.o.cells 3 10)
   have Ap : Hid (CellsAt W2 ⟨w.heap.size, 13, none⟩ [.int .i64 rop, .int .i64 x.resp.err, .slice Ai ni ci, .int .u64 x.resp.ver, .int .i64 x.resp.count, .slice An nn cn]) := kp (CellsAt.slice Aa.o.cells 13 6)
   have Ax := kp Ad.o.cells
   have c13 : W2.cell? ⟨W1.heap.size, 0, none⟩ = some (.int .i64 rop) := Ad.o.cell rfl
   have y0 : W2.cell? ⟨w.heap.size, 0, none⟩ = some (.int .i64 ses) := Aa.o.cell (j := 0) rfl
   have y2 : W2.cell? ⟨w.heap.size, 2, none⟩ = some (.bool bad) := Aa.o.cell (j := 2) rfl
   have y3 : W2.cell? ⟨w.heap.size, 3, none⟩ = some (.int .i64 cop) := Aa.o.cell (j := 3) rfl
   have y19 : W2.cell? ⟨w.heap.size, 19, none⟩ = some (.int .i64 asked) := Aa.o.cell (j := 19) rfl
   have y20 : W2.cell? ⟨w.heap.size, 20, none⟩ = some (.int .i64 done) := Aa.o.cell (j := 20) rfl
   have y21 : W2.cell? ⟨w.heap.size, 21, none⟩ = some (.int .i64 told) := Aa.o.cell (j := 21) rfl
   have y22 : W2.cell? ⟨w.heap.size, 22, none⟩ = some (.int .u64 tim) := Aa.o.cell (j := 22) rfl
   cases bad
   ·go_wp2_with ((with_reducible refine ac_ (o := ⟨some 81, _, _, _, _, _⟩) 36 _ rfl ⟨w.heap.size, 3, none⟩ ?_ _ _ Al.o Tryz.underlying36 rfl ?_ ?_ ?_); (· rfl); (· kernel_rfl); (· rfl))
    refine (aT_ (iu_ x.cmd HS.o.cmd p.vk p.vv p.vt W2 (Bc.o W2 Am.o).1) (by rw [Bb.o] <;> rfl)).mono ?_
    rintro e w3 ⟨rfl, hb3⟩
    obtain ⟨Aq, Ag⟩ := kq2 hb3 (Am.o.trans (hb3.mono Am.o.size))
    have Aj : Hid (x.bad = false) := Aw
    clear hb3
    cases hvc : aJ_ x.cmd
    ·skip
     have Ab := kp (show singleB x = false from ak_ (by unfold cntB; rw [Aj.o, hvc]; rfl))
     go_wp2_with (fail)
     go_ret
     exact rb Ab.o (HB.o.trans (Ag.o.mono HB.o.size))
    clear Al Ap Aa
    have Aa := kp (HR.o.of_block (w := W1) (Ag.o.block _ HR.o.lt))
    have Al : Hid (CellsAt w3 ⟨w.heap.size, 3, none⟩ [.int .i64 cop, .string x.cmd.key, .slice Ak nk ck, .slice Av nv cv, .slice At nt ct, .int .u64 x.cmd.life, .int .u64 x.cmd.ver, .string x.cmd.tag, .string x.cmd.pre, .string x.cmd.chi]) := kp (CellsAt.slice Aa.o.cells 3 10)
    have Ap : Hid (CellsAt w3 ⟨w.heap.size, 13, none⟩ [.int .i64 rop, .int .i64 x.resp.err, .slice Ai ni ci, .int .u64 x.resp.ver, .int .i64 x.resp.count, .slice An nn cn]) := kp (CellsAt.slice Aa.o.cells 13 6)
    have v0 : w3.cell? ⟨w.heap.size, 0, none⟩ = some (.int .i64 ses) := Aa.o.cell (j := 0) rfl
    have v3 : w3.cell? ⟨w.heap.size, 3, none⟩ = some (.int .i64 cop) := Aa.o.cell (j := 3) rfl
    have v19 : w3.cell? ⟨w.heap.size, 19, none⟩ = some (.int .i64 asked) := Aa.o.cell (j := 19) rfl
    have v20 : w3.cell? ⟨w.heap.size, 20, none⟩ = some (.int .i64 done) := Aa.o.cell (j := 20) rfl
    have v21 : w3.cell? ⟨w.heap.size, 21, none⟩ = some (.int .i64 told) := Aa.o.cell (j := 21) rfl
    have v22 : w3.cell? ⟨w.heap.size, 22, none⟩ = some (.int .u64 tim) := Aa.o.cell (j := 22) rfl
    have Af := kp (Ad.o.of_block (Aq.o.block _ Ad.o.lt))
    have Ax := kp Af.o.cells
    have d13 : w3.cell? ⟨W1.heap.size, 0, none⟩ = some (.int .i64 rop) := Af.o.cell rfl
    go_wp2_with ((with_reducible refine ac_ (o := ⟨some 101, _, _, _, _, _⟩) 40 _ rfl ⟨W1.heap.size, 0, none⟩ ?_ _ _ Ax.o Tryz.underlying40 rfl ?_ ?_ ?_); (· rfl); (· kernel_rfl); (· rfl))
    refine (aT_ (iv_ x.resp HS.o.resp p.vi p.vn w3 (Bc.o w3 Ag.o).2) (by rw [Bg.o] <;> rfl)).mono ?_
    rintro e w4 ⟨rfl, hb4⟩
    obtain ⟨Bh, Ar⟩ := kq2 hb4 (Ag.o.trans (hb4.mono Ag.o.size))
    have u3 : w4.cell? ⟨w.heap.size, 3, none⟩ = some (.int .i64 cop) := (Aa.o.of_block (hb4.block _ Aa.o.lt)).cell rfl
    have u13 : w4.cell? ⟨W1.heap.size, 0, none⟩ = some (.int .i64 rop) := (Af.o.of_block (hb4.block _ Af.o.lt)).cell rfl
    clear hb4
    cases hvr : aX_ x.resp
    ·skip
     have Ab := kp (show singleB x = false from ak_ (by unfold cntB; rw [Aj.o, Ac.o, hvr]; simp; omega))
     go_wp2_with (fail)
     go_ret
     exact rb Ab.o (HB.o.trans (Ar.o.mono HB.o.size))
    by_cases q0 : rop = cop
    ·have gq : (rop == cop) = true := by simpa using q0
     have Ba := kp q0
     clear q0
     have Ab := kp (show singleB x = true from ba_ Az.o Ao.o (by unfold cntB; rw [Aj.o, Ac.o, Au.o, Be.o, hvr, hvc, Ba.o]; simp; omega))
     go_wp2_with (fail)
     go_ret
     exact rb Ab.o (HB.o.trans (Ar.o.mono HB.o.size))
    have gq : (rop == cop) = false := by simpa using q0
    have Ba := kp q0
    clear q0
    have Ab := kp (show singleB x = false from ak_ (by unfold cntB; rw [Aj.o, Ac.o, Au.o, Be.o, hvc]; simp [Ba.o]; omega))
    go_wp2_with (fail)
    go_ret
    exact rb Ab.o (HB.o.trans (Ar.o.mono HB.o.size))
   have Aj : Hid (x.bad = true) := Aw
   have Ab := kp (show singleB x = false from ak_ (by unfold cntB; rw [Aj.o, Ac.o]; simp; omega))
   go_wp2_with (fail)
   go_ret
   exact rb Ab.o (HB.o.trans (Am.o.mono HB.o.size))
 have g0 : decide (0 <= done) = false := by simp; omega
 have gd0 : decide (done < 0) = true := by simp; omega
 by_cases t2 : 0 <= told
 case' pos =>
  have g2 : decide (0 <= told) = true := by simp; omega
  by_cases t3 : told <= max asked done
  ·have g3 : decide (told <= max asked done) = true := by simp; omega
   have Ab := kp (show singleB x = false from bn_ (by unfold ordB; rw [Ah.o, Ac.o, Ae.o]; simp; omega))
   go_wp2_with (fail)
   go_ret
   exact rb Ab.o HB.o
  have g3 : decide (told <= max asked done) = false := by simp; omega
  have Ao := kp (show ordB x = true by unfold ordB; rw [Ah.o, Ac.o, Ae.o]; simp; omega)
 case' neg =>
  have g2 : decide (0 <= told) = false := by simp; omega
  have Ao := kp (show ordB x = true by unfold ordB; rw [Ah.o, Ac.o, Ae.o]; simp; omega)
 all_goals
  have hb2 := below1 W1 (.cells #[.int .i64 rop, .int .i64 x.resp.err, .slice Ai ni ci, .int .u64 x.resp.ver, .int .i64 x.resp.count, .slice An nn cn] 40)
  have Ad := kp (RowL.new W1 40 [.int .i64 rop, .int .i64 x.resp.err, .slice Ai ni ci, .int .u64 x.resp.ver, .int .i64 x.resp.count, .slice An nn cn])
  obtain ⟨W2, hW2⟩ := eX (W1.alloc (.cells #[.int .i64 rop, .int .i64 x.resp.err, .slice Ai ni ci, .int .u64 x.resp.ver, .int .i64 x.resp.count, .slice An nn cn] 40))
  rw [<- hW2] at hb2 Ad
  obtain ⟨Am, Bf⟩ := kq2 hb2 hW2
  clear hb2 hW2
  go_upto_region 6 with (first | ((with_reducible refine ac_ (o := ⟨some 52, _, _, _, _, _⟩) 40 _ rfl ⟨w.heap.size, 13, none⟩ ?_ _ _ Ap.o Tryz.underlying40 rfl ?_ ?_ ?_); (· rfl); (· kernel_rfl); (· rfl)))
  rw [<- Bf.o]
  clear Al Ap Aa
  have Aa := kp (HR.o.of_block (w := W1) (Am.o.block _ HR.o.lt))
  have Al : Hid (CellsAt W2 ⟨w.heap.size, 3, none⟩ [.int .i64 cop, .string x.cmd.key, .slice Ak nk ck, .slice Av nv cv, .slice At nt ct, .int .u64 x.cmd.life, .int .u64 x.cmd.ver, .string x.cmd.tag, .string x.cmd.pre, .string x.cmd.chi]) := kp (CellsAt.slice Aa.o.cells 3 10)
  have Ap : Hid (CellsAt W2 ⟨w.heap.size, 13, none⟩ [.int .i64 rop, .int .i64 x.resp.err, .slice Ai ni ci, .int .u64 x.resp.ver, .int .i64 x.resp.count, .slice An nn cn]) := kp (CellsAt.slice Aa.o.cells 13 6)
  have Ax := kp Ad.o.cells
  have c13 : W2.cell? ⟨W1.heap.size, 0, none⟩ = some (.int .i64 rop) := Ad.o.cell rfl
  have y0 : W2.cell? ⟨w.heap.size, 0, none⟩ = some (.int .i64 ses) := Aa.o.cell (j := 0) rfl
  have y2 : W2.cell? ⟨w.heap.size, 2, none⟩ = some (.bool bad) := Aa.o.cell (j := 2) rfl
  have y3 : W2.cell? ⟨w.heap.size, 3, none⟩ = some (.int .i64 cop) := Aa.o.cell (j := 3) rfl
  have y19 : W2.cell? ⟨w.heap.size, 19, none⟩ = some (.int .i64 asked) := Aa.o.cell (j := 19) rfl
  have y20 : W2.cell? ⟨w.heap.size, 20, none⟩ = some (.int .i64 done) := Aa.o.cell (j := 20) rfl
  have y21 : W2.cell? ⟨w.heap.size, 21, none⟩ = some (.int .i64 told) := Aa.o.cell (j := 21) rfl
  have y22 : W2.cell? ⟨w.heap.size, 22, none⟩ = some (.int .u64 tim) := Aa.o.cell (j := 22) rfl
  cases bad
  case' false =>
   go_wp2_with ((with_reducible refine ac_ (o := ⟨some 81, _, _, _, _, _⟩) 36 _ rfl ⟨w.heap.size, 3, none⟩ ?_ _ _ Al.o Tryz.underlying36 rfl ?_ ?_ ?_); (· rfl); (· kernel_rfl); (· rfl))
   refine (aT_ (iu_ x.cmd HS.o.cmd p.vk p.vv p.vt W2 (Bc.o W2 Am.o).1) (by rw [Bb.o] <;> rfl)).mono ?_
   rintro e w3 ⟨rfl, hb3⟩
   obtain ⟨Aq, Ag⟩ := kq2 hb3 (Am.o.trans (hb3.mono Am.o.size))
   have Aj : Hid (x.bad = false) := Aw
   clear hb3
   cases hvc : aJ_ x.cmd
   ·skip
    have Ab := kp (show singleB x = false from ak_ (by unfold cntB; rw [Aj.o, hvc]; rfl))
    go_wp2_with (fail)
    go_ret
    exact rb Ab.o (HB.o.trans (Ag.o.mono HB.o.size))
   clear Al Ap Aa
   have Aa := kp (HR.o.of_block (w := W1) (Ag.o.block _ HR.o.lt))
   have Al : Hid (CellsAt w3 ⟨w.heap.size, 3, none⟩ [.int .i64 cop, .string x.cmd.key, .slice Ak nk ck, .slice Av nv cv, .slice At nt ct, .int .u64 x.cmd.life, .int .u64 x.cmd.ver, .string x.cmd.tag, .string x.cmd.pre, .string x.cmd.chi]) := kp (CellsAt.slice Aa.o.cells 3 10)
   have Ap : Hid (CellsAt w3 ⟨w.heap.size, 13, none⟩ [.int .i64 rop, .int .i64 x.resp.err, .slice Ai ni ci, .int .u64 x.resp.ver, .int .i64 x.resp.count, .slice An nn cn]) := kp (CellsAt.slice Aa.o.cells 13 6)
   have v0 : w3.cell? ⟨w.heap.size, 0, none⟩ = some (.int .i64 ses) := Aa.o.cell (j := 0) rfl
   have v3 : w3.cell? ⟨w.heap.size, 3, none⟩ = some (.int .i64 cop) := Aa.o.cell (j := 3) rfl
   have v19 : w3.cell? ⟨w.heap.size, 19, none⟩ = some (.int .i64 asked) := Aa.o.cell (j := 19) rfl
   have v20 : w3.cell? ⟨w.heap.size, 20, none⟩ = some (.int .i64 done) := Aa.o.cell (j := 20) rfl
   have v21 : w3.cell? ⟨w.heap.size, 21, none⟩ = some (.int .i64 told) := Aa.o.cell (j := 21) rfl
   have v22 : w3.cell? ⟨w.heap.size, 22, none⟩ = some (.int .u64 tim) := Aa.o.cell (j := 22) rfl
   have Af := kp (Ad.o.of_block (Aq.o.block _ Ad.o.lt))
   have Ax := kp Af.o.cells
   have d13 : w3.cell? ⟨W1.heap.size, 0, none⟩ = some (.int .i64 rop) := Af.o.cell rfl
  case true =>
   have Aj : Hid (x.bad = true) := Aw
   by_cases t1 : tim = 0
   ·have gm : (tim == 0) = true := by simpa using t1
    have Ay := kp t1
    clear t1
    go_wp2_with (first | ((with_reducible refine ac_ (o := ⟨some 66, _, _, _, _, _⟩) 36 _ rfl ⟨w.heap.size, 3, none⟩ ?_ _ _ Al.o Tryz.underlying36 rfl ?_ ?_ ?_); (· rfl); (· kernel_rfl); (· rfl)) | ((with_reducible refine ac_ (o := ⟨some 71, _, _, _, _, _⟩) 40 _ rfl ⟨W1.heap.size, 0, none⟩ ?_ _ _ Ax.o Tryz.underlying40 rfl ?_ ?_ ?_); (· rfl); (· kernel_rfl); (· rfl)))
    refine (aT_ (cmd42 x.cmd cmdZ p.vk p.vv p.vt (.slice none 0 0) (.slice none 0 0) (.slice none 0 0) W2 (Bc.o W2 Am.o).1 (in_ _ _)) (by rw [Bb.o] <;> rfl)).mono ?_
    rintro e w3 ⟨rfl, hb3⟩
    obtain ⟨Aq, Ag⟩ := kq2 hb3 (Am.o.trans (hb3.mono Am.o.size))
    clear hb3
    cases hce : cl_ x.cmd cmdZ
    ·skip
     have Ab := kp (show singleB x = false from ak_ (by unfold cntB; rw [Aj.o, hce]; simp))
     go_wp2_with (fail)
     go_ret
     exact rb Ab.o (HB.o.trans (Ag.o.mono HB.o.size))
    clear Al Ap Aa
    have Aa := kp (HR.o.of_block (w := W1) (Ag.o.block _ HR.o.lt))
    have Al : Hid (CellsAt w3 ⟨w.heap.size, 3, none⟩ [.int .i64 cop, .string x.cmd.key, .slice Ak nk ck, .slice Av nv cv, .slice At nt ct, .int .u64 x.cmd.life, .int .u64 x.cmd.ver, .string x.cmd.tag, .string x.cmd.pre, .string x.cmd.chi]) := kp (CellsAt.slice Aa.o.cells 3 10)
    have Ap : Hid (CellsAt w3 ⟨w.heap.size, 13, none⟩ [.int .i64 rop, .int .i64 x.resp.err, .slice Ai ni ci, .int .u64 x.resp.ver, .int .i64 x.resp.count, .slice An nn cn]) := kp (CellsAt.slice Aa.o.cells 13 6)
    have Af := kp (Ad.o.of_block (Aq.o.block _ Ad.o.lt))
    have Ax := kp Af.o.cells
    go_wp2_with (first | ((with_reducible refine ac_ (o := ⟨some 66, _, _, _, _, _⟩) 36 _ rfl ⟨w.heap.size, 3, none⟩ ?_ _ _ Al.o Tryz.underlying36 rfl ?_ ?_ ?_); (· rfl); (· kernel_rfl); (· rfl)) | ((with_reducible refine ac_ (o := ⟨some 71, _, _, _, _, _⟩) 40 _ rfl ⟨W1.heap.size, 0, none⟩ ?_ _ _ Ax.o Tryz.underlying40 rfl ?_ ?_ ?_); (· rfl); (· kernel_rfl); (· rfl)))
    refine (aT_ (iv_ x.resp HS.o.resp p.vi p.vn w3 (Bc.o w3 Ag.o).2) (by rw [Bg.o] <;> rfl)).mono ?_
    rintro e w4 ⟨rfl, hb4⟩
    have Ar := kp (Ag.o.trans (hb4.mono Ag.o.size))
    have u13 : w4.cell? ⟨W1.heap.size, 0, none⟩ = some (.int .i64 rop) := (Af.o.of_block (hb4.block _ Af.o.lt)).cell rfl
    clear hb4
    cases hvr : aX_ x.resp
    ·skip
     have Ab := kp (show singleB x = false from ak_ (by unfold cntB; rw [Aj.o, hvr]; simp))
     go_wp2_with (fail)
     go_ret
     exact rb Ab.o (HB.o.trans (Ar.o.mono HB.o.size))
    by_cases q0 : rop = 0
    ·have gq : (rop == 0) = true := by simpa using q0
     have Ba := kp q0
     clear q0
     have Ab := kp (show singleB x = true from ba_ Az.o Ao.o (by unfold cntB; rw [Aj.o, Ac.o, As.o, Au.o, hvr, hce, Ay.o, Ba.o]; simp; omega))
     go_wp2_with (fail)
     go_ret
     exact rb Ab.o (HB.o.trans (Ar.o.mono HB.o.size))
    have gq : (rop == 0) = false := by simpa using q0
    have Ba := kp q0
    clear q0
    have Ab := kp (show singleB x = false from ak_ (by unfold cntB; rw [Aj.o, Au.o]; simp [Ba.o]))
    go_wp2_with (fail)
    go_ret
    exact rb Ab.o (HB.o.trans (Ar.o.mono HB.o.size))
   have gm : (tim == 0) = false := by simpa using t1
   have Ay := kp t1
   clear t1
   have Ab := kp (show singleB x = false from ak_ (by unfold cntB; rw [Aj.o, As.o]; simp [Ay.o]))
   go_wp2_with (fail)
   go_ret
   exact rb Ab.o (HB.o.trans (Am.o.mono HB.o.size))
 ·have gt : decide (told < 0) = true := by simp; omega
  by_cases t1 : tim = 0
  ·have gm : (tim == 0) = true := by simpa using t1
   have Ay := kp t1
   clear t1
   go_wp2_with ((with_reducible refine ac_ (o := ⟨some 97, _, _, _, _, _⟩) 40 _ rfl ⟨W1.heap.size, 0, none⟩ ?_ _ _ Ax.o Tryz.underlying40 rfl ?_ ?_ ?_); (· rfl); (· kernel_rfl); (· rfl))
   refine (aT_ (km_ x.resp (ap_ 0 0) p.vi p.vn (.slice none 0 0) (.slice none 0 0) w3 (Bc.o w3 Ag.o).2 (gF_ _ _ _ _)) (by rw [Bg.o] <;> rfl)).mono ?_
   rintro e w4 ⟨rfl, hb4⟩
   have Ar := kp (Ag.o.trans (hb4.mono Ag.o.size))
   cases hre : bd_ x.resp (ap_ 0 0)
   ·skip
    have Ab := kp (show singleB x = false from ak_ (by unfold cntB; rw [Aj.o, Ac.o, Ae.o, hre]; simp; omega))
    go_wp2_with (fail)
    go_ret
    exact rb Ab.o (HB.o.trans (Ar.o.mono HB.o.size))
   skip
   have Ab := kp (show singleB x = true from ba_ Az.o Ao.o (i3_ Aj.o (by rw [Ac.o]; omega) (by rw [Ae.o]; omega) (by rw [As.o]; exact Ay.o) hvc hre))
   go_wp2_with (fail)
   go_ret
   exact rb Ab.o (HB.o.trans (Ar.o.mono HB.o.size))
  have gm : (tim == 0) = false := by simpa using t1
  have Ay := kp t1
  clear t1
  have Ab := kp (show singleB x = false from ak_ (by unfold cntB; rw [Aj.o, Ac.o, As.o]; simp [Ay.o]; omega))
  go_wp2_with (fail)
  go_ret
  exact rb Ab.o (HB.o.trans (Ag.o.mono HB.o.size))
 have gt : decide (told < 0) = false := by simp; omega
 have Ab := kp (show singleB x = false from ak_ (i4_ Aj.o (by rw [Ac.o]; omega) (by rw [Ae.o]; omega)))
 go_wp2_with (fail)
 go_ret
 exact rb Ab.o (HB.o.trans (Ag.o.mono HB.o.size))
end Go.Proofs.YtnjhpgmbfblgaaaGreat.Ord
