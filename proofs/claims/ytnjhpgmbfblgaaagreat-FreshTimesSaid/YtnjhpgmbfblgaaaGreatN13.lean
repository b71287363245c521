/- Walk of the reference's Valid. -/
import Derived.Test.YtnjhpgmbfblgaaaGreatMP0
import Derived.Test.YtnjhpgmbfblgaaaGreatMK8
set_option linter.unusedVariables false
set_option linter.unusedSimpArgs false
namespace Go.Proofs.YtnjhpgmbfblgaaaGreat.Ord
set_option maxRecDepth 100000
set_option maxHeartbeats 16000000
open Go.RowKit
def a5_ (x : ItemR) : Bool := (!(x.mark == 0) || by_ x zI) && (decide (0 <= x.mark) && decide (x.mark <= 2))
def c9 (r : RespR) : Bool := (r.err == 0) && ((nR r.op == 105 && !(r.items.length == 1)) || (nR r.op == 109 && !(decide (1 <= r.items.length /\ r.items.length <= 16))))
def finR (r : RespR) : Bool := decide (0 <= r.count) && (decide (r.count <= 1099511627776) && decide (r.nums.length <= 64))
def refB (r : RespR) : Bool := bM_ r && (bd_ r (bi_ r) && (r.items.all a5_ && (!c9 r && finR r)))
theorem cs_ {r : RespR} (h : bM_ r = false) : refB r = false := by unfold refB; rw [h]; rfl
theorem ko_ {r : RespR} (h : bd_ r (bi_ r) = false) : refB r = false := by unfold refB; rw [h]; simp
theorem dy_ {r : RespR} (h : r.items.all a5_ = false) : refB r = false := by unfold refB; rw [h]; simp
theorem hP_ {r : RespR} (h : c9 r = true) : refB r = false := by unfold refB; rw [h]; simp
theorem dd_ {r : RespR} (h : bM_ r = true) (h1 : bd_ r (bi_ r) = true) (h2 : r.items.all a5_ = true) (h3 : c9 r = false) : refB r = finR r := by unfold refB; rw [h, h1, h2, h3]; rfl
theorem cutN {P : Program} {c : Code} {Q : Exit -> Act -> World -> Prop} {a : Act} {A : Value -> Value -> Act} {w : World} (F : World -> Prop) (h : c.wp P (fun e b v => e = .normal /\ ∃ x y, b = A x y /\ F v) a w) (h2 : ∀ x y v, F v -> Q .normal (A x y) v) : c.wp P Q a w :=
 Code.wp_mono (by rintro _ _ v ⟨rfl, x, y, rfl, hf⟩; exact h2 x y v hf) h
theorem ld_ : (Tryz.f172.name == "runtime.NumGoroutine") = false := by decide
theorem le_ : Tryz.f172.body.isSome = true := rfl
theorem f24_name : (Tryz.f24.name == "runtime.NumGoroutine") = false := by decide
theorem f24_body : Tryz.f24.body.isSome = true := rfl
def RvPost (r : RespR) (w : World) (e : Ending) (w' : World) : Prop := e = .returned (.bool (refB r)) /\ Bw w w'
theorem ch_ (r : RespR) (hs : RespS r) (vi vn : Value) (w : World) (hok : RespOk w w.heap.size r vi vn) :
  Calls Tryz.prog 109 #[.agg (respC r vi vn).toArray] w (RvPost r w) := by
 obtain ⟨⟨_, Ai, ci, hvi, hel⟩, _, An, cn, hvn, _⟩ := id hok
 obtain ⟨n, hn⟩ := eY r.items.length
 obtain ⟨m, hm⟩ := eY r.nums.length
 obtain ⟨op, hop⟩ := eY r.op
 obtain ⟨er, her⟩ := eY r.err
 obtain ⟨cnt, hcnt⟩ := eY r.count
 rw [hn] at hvi
 rw [hm] at hvn
 have hn100 : n <= 100 := by rw [<- hn]; exact hs.nitems
 have hm100 : m <= 100 := by rw [<- hm]; exact hs.nnums
 have hL : respC r vi vn = [.int .i64 op, .int .i64 er, .slice Ai n ci, .int .u64 r.ver, .int .i64 cnt, .slice An m cn] := by rw [hvi, hvn, <- hop, <- her, <- hcnt]; rfl
 have hB := below1 w (.cells #[.int .i64 op, .int .i64 er, .slice Ai n ci, .int .u64 r.ver, .int .i64 cnt, .slice An m cn] 40)
 have hr := RowL.new w 40 [.int .i64 op, .int .i64 er, .slice Ai n ci, .int .u64 r.ver, .int .i64 cnt, .slice An m cn]
 obtain ⟨W1, hW1⟩ := eX (w.alloc (.cells #[.int .i64 op, .int .i64 er, .slice Ai n ci, .int .u64 r.ver, .int .i64 cnt, .slice An m cn] 40))
 rw [<- hW1] at hB hr
 have hok1 := (hok.below hB (lR _)).mono hB.size
 obtain ⟨HO, HQ, HR, HB, Be, HS, HN, HM, Af, Ag, Ae, Bf⟩ := kq12 (only172 r vi vn W1.drew hok1) (fun (vi' vn' : Value) (W : World) (h1 : RespOk W W.heap.size r vi vn) (h2 : RespOk W W.heap.size (bi_ r) vi' vn') => show Calls Tryz.prog 24 #[.agg #[.int .i64 op, .int .i64 er, .slice Ai n ci, .int .u64 r.ver, .int .i64 cnt, .slice An m cn], .agg (respC (bi_ r) vi' vn').toArray] W (fun e w' => e = .returned (.bool (bd_ r (bi_ r))) /\ Bw W w') by have := resp45 r (bi_ r) vi vn vi' vn' W h1 h2; rw [hL] at this; exact this) hr hB hok hs hn hm hop her hcnt hel
 rw [hL] at HO ⊢
 have hcb := hs.count
 rw [hcnt] at hcb
 clear hok hok1 hs hL hB hr hvi hvn hn hm hop her hcnt hel
 by_cases a1 : op < 0
 ·have g1 : decide (op < 0) = true := by simp; omega
  have HF := kp (show refB r = false from cs_ (by simp [bM_, Af.o, Ag.o]; omega))
  go_enter Tryz.func109, Tryz.ntmps109
  go_wp2_with fail
  rw [<- hW1]
  clear hW1
  have b0 : (W1).cell? ⟨w.heap.size, 0, none⟩ = some (.int .i64 op) := HR.o.cell (j := 0) rfl
  have b1 : (W1).cell? ⟨w.heap.size, 1, none⟩ = some (.int .i64 er) := HR.o.cell (j := 1) rfl
  have b2 : (W1).cell? ⟨w.heap.size, 2, none⟩ = some (.slice Ai n ci) := HR.o.cell (j := 2) rfl
  have b3 : (W1).cell? ⟨w.heap.size, 3, none⟩ = some (.int .u64 r.ver) := HR.o.cell (j := 3) rfl
  have b4 : (W1).cell? ⟨w.heap.size, 4, none⟩ = some (.int .i64 cnt) := HR.o.cell (j := 4) rfl
  have b5 : (W1).cell? ⟨w.heap.size, 5, none⟩ = some (.slice An m cn) := HR.o.cell (j := 5) rfl
  go_quiet (fail)
  all_goals
   go_wp2_with fail
   go_ret
   exact rb HF.o (HB.o.trans ⟨rfl, rfl, rfl, lR _, fun _ _ => rfl⟩)
 have g1 : decide (op < 0) = false := by simp; omega
 by_cases a2 : 15 < op
 ·have g2 : decide (15 < op) = true := by simp; omega
  have HF := kp (show refB r = false from cs_ (by simp [bM_, Af.o, Ag.o]; omega))
  go_enter Tryz.func109, Tryz.ntmps109
  go_wp2_with fail
  rw [<- hW1]
  clear hW1
  have b0 : (W1).cell? ⟨w.heap.size, 0, none⟩ = some (.int .i64 op) := HR.o.cell (j := 0) rfl
  have b1 : (W1).cell? ⟨w.heap.size, 1, none⟩ = some (.int .i64 er) := HR.o.cell (j := 1) rfl
  have b2 : (W1).cell? ⟨w.heap.size, 2, none⟩ = some (.slice Ai n ci) := HR.o.cell (j := 2) rfl
  have b3 : (W1).cell? ⟨w.heap.size, 3, none⟩ = some (.int .u64 r.ver) := HR.o.cell (j := 3) rfl
  have b4 : (W1).cell? ⟨w.heap.size, 4, none⟩ = some (.int .i64 cnt) := HR.o.cell (j := 4) rfl
  have b5 : (W1).cell? ⟨w.heap.size, 5, none⟩ = some (.slice An m cn) := HR.o.cell (j := 5) rfl
  go_quiet (fail)
  all_goals
   go_wp2_with fail
   go_ret
   exact rb HF.o (HB.o.trans ⟨rfl, rfl, rfl, lR _, fun _ _ => rfl⟩)
 have g2 : decide (15 < op) = false := by simp; omega
 by_cases a3 : er < 0
 ·have g3 : decide (er < 0) = true := by simp; omega
  have HF := kp (show refB r = false from cs_ (by simp [bM_, Af.o, Ag.o]; omega))
  go_enter Tryz.func109, Tryz.ntmps109
  go_wp2_with fail
  rw [<- hW1]
  clear hW1
  have b0 : (W1).cell? ⟨w.heap.size, 0, none⟩ = some (.int .i64 op) := HR.o.cell (j := 0) rfl
  have b1 : (W1).cell? ⟨w.heap.size, 1, none⟩ = some (.int .i64 er) := HR.o.cell (j := 1) rfl
  have b2 : (W1).cell? ⟨w.heap.size, 2, none⟩ = some (.slice Ai n ci) := HR.o.cell (j := 2) rfl
  have b3 : (W1).cell? ⟨w.heap.size, 3, none⟩ = some (.int .u64 r.ver) := HR.o.cell (j := 3) rfl
  have b4 : (W1).cell? ⟨w.heap.size, 4, none⟩ = some (.int .i64 cnt) := HR.o.cell (j := 4) rfl
  have b5 : (W1).cell? ⟨w.heap.size, 5, none⟩ = some (.slice An m cn) := HR.o.cell (j := 5) rfl
  go_quiet (fail)
  all_goals
   go_wp2_with fail
   go_ret
   exact rb HF.o (HB.o.trans ⟨rfl, rfl, rfl, lR _, fun _ _ => rfl⟩)
 have g3 : decide (er < 0) = false := by simp; omega
 by_cases a4 : 100000 < er
 ·have g4 : decide (100000 < er) = true := by simp; omega
  have HF := kp (show refB r = false from cs_ (by simp [bM_, Af.o, Ag.o]; omega))
  go_enter Tryz.func109, Tryz.ntmps109
  go_wp2_with fail
  rw [<- hW1]
  clear hW1
  have b0 : (W1).cell? ⟨w.heap.size, 0, none⟩ = some (.int .i64 op) := HR.o.cell (j := 0) rfl
  have b1 : (W1).cell? ⟨w.heap.size, 1, none⟩ = some (.int .i64 er) := HR.o.cell (j := 1) rfl
  have b2 : (W1).cell? ⟨w.heap.size, 2, none⟩ = some (.slice Ai n ci) := HR.o.cell (j := 2) rfl
  have b3 : (W1).cell? ⟨w.heap.size, 3, none⟩ = some (.int .u64 r.ver) := HR.o.cell (j := 3) rfl
  have b4 : (W1).cell? ⟨w.heap.size, 4, none⟩ = some (.int .i64 cnt) := HR.o.cell (j := 4) rfl
  have b5 : (W1).cell? ⟨w.heap.size, 5, none⟩ = some (.slice An m cn) := HR.o.cell (j := 5) rfl
  go_quiet (fail)
  all_goals
   go_wp2_with fail
   go_ret
   exact rb HF.o (HB.o.trans ⟨rfl, rfl, rfl, lR _, fun _ _ => rfl⟩)
 have g4 : decide (100000 < er) = false := by simp; omega
 by_cases a5 : op = 0 /\ er = 0
 ·have g5 : (op == 0) = true := by simp; omega
  have g6 : (er == 0) = true := by simp; omega
  have HF := kp (show refB r = false from cs_ (by simp [bM_, Af.o, Ag.o]; omega))
  clear a5
  go_enter Tryz.func109, Tryz.ntmps109
  go_wp2_with fail
  rw [<- hW1]
  clear hW1
  have b0 : (W1).cell? ⟨w.heap.size, 0, none⟩ = some (.int .i64 op) := HR.o.cell (j := 0) rfl
  have b1 : (W1).cell? ⟨w.heap.size, 1, none⟩ = some (.int .i64 er) := HR.o.cell (j := 1) rfl
  have b2 : (W1).cell? ⟨w.heap.size, 2, none⟩ = some (.slice Ai n ci) := HR.o.cell (j := 2) rfl
  have b3 : (W1).cell? ⟨w.heap.size, 3, none⟩ = some (.int .u64 r.ver) := HR.o.cell (j := 3) rfl
  have b4 : (W1).cell? ⟨w.heap.size, 4, none⟩ = some (.int .i64 cnt) := HR.o.cell (j := 4) rfl
  have b5 : (W1).cell? ⟨w.heap.size, 5, none⟩ = some (.slice An m cn) := HR.o.cell (j := 5) rfl
  go_quiet (fail)
  all_goals
   go_wp2_with fail
   go_ret
   exact rb HF.o (HB.o.trans ⟨rfl, rfl, rfl, lR _, fun _ _ => rfl⟩)
 obtain ⟨Ap, Bh, Bg⟩ := kq3 (show bM_ r = true by simp [bM_, Af.o, Ag.o]; omega) (show 0 <= op /\ op <= 15 /\ 0 <= er /\ er <= 100000 by omega) (show ¬ (op = 0 /\ er = 0) from a5)
 clear a1 a2 a3 a4
 by_cases a6 : op = 0
 focus
  have g5 : (op == 0) = true := by simp; omega
  have g6 : (er == 0) = false := by simp; omega
 rotate_left 1
 focus
  have g5 : (op == 0) = false := by simp; omega
 rotate_left 1
 rotate_right 2
 iterate 2
  ·clear a6 a5
   go_enter Tryz.func109, Tryz.ntmps109
   go_wp2_with fail
   rw [<- hW1]
   clear hW1
   have d0 : (W1.drew).cell? ⟨w.heap.size, 0, none⟩ = some (.int .i64 op) := HR.o.cell (j := 0) rfl
   have d1 : (W1.drew).cell? ⟨w.heap.size, 1, none⟩ = some (.int .i64 er) := HR.o.cell (j := 1) rfl
   have d2 : (W1.drew).cell? ⟨w.heap.size, 2, none⟩ = some (.slice Ai n ci) := HR.o.cell (j := 2) rfl
   have d3 : (W1.drew).cell? ⟨w.heap.size, 3, none⟩ = some (.int .u64 r.ver) := HR.o.cell (j := 3) rfl
   have d4 : (W1.drew).cell? ⟨w.heap.size, 4, none⟩ = some (.int .i64 cnt) := HR.o.cell (j := 4) rfl
   have d5 : (W1.drew).cell? ⟨w.heap.size, 5, none⟩ = some (.slice An m cn) := HR.o.cell (j := 5) rfl
   apply cutN (fun v => Hid (Bw w v) /\ Hid (RowL v w.heap.size 40 [.int .i64 op, .int .i64 er, .slice Ai n ci, .int .u64 r.ver, .int .i64 cnt, .slice An m cn]))
   case h =>
    first
     | go_region_law (first
       | ((with_reducible refine bR_ (o := ⟨some 36, _, _, _, _, _⟩) ?_ 172 _ _ rfl #[.agg #[.int .i64 op, .int .i64 er, .slice Ai n ci, .int .u64 r.ver, .int .i64 cnt, .slice An m cn]] ?_ Tryz.f172 Tryz.func172 ld_ le_ (fun u w6 => ∃ vi' vn', u = .agg (respC (bi_ r) vi' vn').toArray /\ RespOk w6 w6.heap.size (bi_ r) vi' vn' /\ Below W1.drew.heap.size W1.drew w6) ?_ ?_); (· rfl); (· simp only [y1, y2, y3]; rfl); (· exact HO.o.mono fun e w' ⟨a, b, h1, h2, h3⟩ => ⟨_, h1, a, b, rfl, h2, h3⟩); rintro u6 w6 ⟨vi6, vn6, rfl, hok6, hb6⟩; have Ax := kp hok6; have Au := kp hb6; have Aj := kp (HR.o.of_block (w := W1.drew) (hb6.block _ HR.o.lt)); clear hok6 hb6; have p0 : (w6).cell? ⟨w.heap.size, 0, none⟩ = some (.int .i64 op) := Aj.o.cell (j := 0) rfl; have p1 : (w6).cell? ⟨w.heap.size, 1, none⟩ = some (.int .i64 er) := Aj.o.cell (j := 1) rfl; have p2 : (w6).cell? ⟨w.heap.size, 2, none⟩ = some (.slice Ai n ci) := Aj.o.cell (j := 2) rfl; have p3 : (w6).cell? ⟨w.heap.size, 3, none⟩ = some (.int .u64 r.ver) := Aj.o.cell (j := 3) rfl; have p4 : (w6).cell? ⟨w.heap.size, 4, none⟩ = some (.int .i64 cnt) := Aj.o.cell (j := 4) rfl; have p5 : (w6).cell? ⟨w.heap.size, 5, none⟩ = some (.slice An m cn) := Aj.o.cell (j := 5) rfl; skip)
       | ((with_reducible refine bR_ (o := ⟨some 37, _, _, _, _, _⟩) ?_ 24 _ _ rfl #[.agg #[.int .i64 op, .int .i64 er, .slice Ai n ci, .int .u64 r.ver, .int .i64 cnt, .slice An m cn], .agg (respC (bi_ r) vi6 vn6).toArray] ?_ Tryz.f24 Tryz.func24 f24_name f24_body (fun u w7 => u = .bool (bd_ r (bi_ r)) /\ Bw w6 w7) ?_ ?_); (· rfl); (· simp only [y1, y2, y3]; rfl); (· exact (HQ.o vi6 vn6 w6 (((Be.o.below HB.o (lR _)).mono HB.o.size |>.below (w := W1.drew) Au.o (lR _)).mono Au.o.size) Ax.o).mono fun e w' ⟨h1, h2⟩ => ⟨_, h1, rfl, h2⟩); rintro u7 w7 ⟨rfl, hb7⟩; have Bc := kp (Au.o.trans (hb7.mono Au.o.size)); clear hb7))
     | fail "region"
    all_goals
     have At : Hid (Bw w w7) := kp (HB.o.trans ((cE_ Bc.o).mono HB.o.size))
     have As := kp (HR.o.of_block (w := W1.drew) (Bc.o.block _ HR.o.lt))
     exact ⟨rfl, vi6, vn6, rfl, At, As⟩
   case h2 =>
    rintro vi6 vn6 w7 ⟨At, As⟩
    clear d0 d1 d2 d3 d4 d5
    cases hq : bd_ r (bi_ r)
    ·skip
     have Aa := kp (show refB r = false from ko_ hq)
     go_wp2_with fail
     go_ret
     exact rb Aa.o At.o
    simp only [Bool.not_true]
    have Ak := kp hq
    have x2 : w7.cell? ⟨w.heap.size, 2, none⟩ = some (.slice Ai n ci) := As.o.cell rfl
    clear hq
    go_wp2_with fail
    go_loopw [3] (fun j wr => ∃ k : Nat, k <= n /\ j = .int .i64 k /\ (r.items.take k).all a5_ = true /\ RowL wr w.heap.size 40 [.int .i64 op, .int .i64 er, .slice Ai n ci, .int .u64 r.ver, .int .i64 cnt, .slice An m cn] /\ Bw w wr) (fun j _ => n - (intOf j).toNat)
    case atStart => exact ⟨0, Nat.zero_le _, by go_num, by simp, As.o, At.o⟩
    obtain ⟨k, hk, rfl, hall, hrw, hbw⟩ := hrel
    obtain ⟨Ar, HX, Ac⟩ := kq3 hall hrw hbw
    have y2 : wr.cell? ⟨w.heap.size, 2, none⟩ = some (.slice Ai n ci) := hrw.cell rfl
    clear hall hrw hbw x2
    by_cases hlt : k < n
    ·have hg : decide ((k : Int) < (n : Int)) = true := by simp; omega
     have hkx : k < r.items.length := by rw [HN.o]; exact hlt
     have hx := gE hkx
     obtain ⟨x, hxe⟩ := eY (r.items[k])
     rw [hxe] at hx
     have hxm := mG hx
     have hvl := HS.o.vals x hxm
     obtain ⟨b, off, v, rfl, hbB, hc, hdat⟩ := Bf.o k x hx
     have hc := hc.below Ac.o hbB
     have hdat := hdat.below Ac.o (lR _)
     have Ba := kp (show (r.items.take (k + 1)).all a5_ = a5_ x by rw [tA, hx, Option.toList_some, List.all_append, Ar.o]; simp)
     have Ay := kp (show a5_ x = false -> r.items.all a5_ = false from fun h => by
      cases e : r.items.all a5_
      ·rfl
      rw [List.all_eq_true.1 e x hxm] at h; simp at h)
     obtain ⟨xm, xv, xr, xd⟩ := x
     simp only at hvl hc hdat
     obtain ⟨_, _, Av, cv, rfl, _⟩ := id hdat
     obtain ⟨nv, hnv⟩ := eY xv.length
     rw [hnv] at hc hvl hdat
     have d0 : wr.cell? ⟨b, off + k * 4, none⟩ = some (.int .i64 xm) := hc 0 _ rfl
     have d1 : wr.cell? ⟨b, off + k * 4 + 1, none⟩ = some (.slice Av nv cv) := hc 1 _ rfl
     have d2 : wr.cell? ⟨b, off + k * 4 + 2, none⟩ = some (.int .u64 xr) := hc 2 _ rfl
     have d3 : wr.cell? ⟨b, off + k * 4 + 3, none⟩ = some (.int .u64 xd) := hc 3 _ rfl
     have hb8 := below1 wr (.cells #[.int .i64 xm, .slice Av nv cv, .int .u64 xr, .int .u64 xd] 78)
     have Aq : Hid (Bw w (wr.alloc (.cells #[.int .i64 xm, .slice Av nv cv, .int .u64 xr, .int .u64 xd] 78))) := kp (Ac.o.trans (hb8.mono Ac.o.size))
     have Aw := kp (HX.o.of_block (hb8.block _ HX.o.lt))
     have hit := RowL.new wr 78 [.int .i64 xm, .slice Av nv cv, .int .u64 xr, .int .u64 xd]
     obtain ⟨Am, HI⟩ := kq2 hit (item69 ⟨xm, xv, xr, xd⟩ zI (.slice Av nv cv) (.slice none 0 0) (wr.alloc (.cells #[.int .i64 xm, .slice Av nv cv, .int .u64 xr, .int .u64 xd] 78)) ((hdat.below hb8 (lT (by have := Ac.o.size; omega) (lR _))).mono (by have := Ac.o.size; simp; omega)) (datg_nil _ _))
     have g3 : decide ((65536 : Int) < (nv : Int)) = false := by simp; omega
     clear hkx hx hxe hxm hbB hc hdat hb8 hnv hit
     simp only [aD_, zI] at HI
     by_cases hm0 : xm = 0
     ·subst hm0
      go_wp2_with fail
      refine HI.o.mono ?_
      rintro e w9 ⟨rfl, hb9⟩
      have Bd := kp (Aw.o.of_block (hb9.block _ Aw.o.lt))
      have Bb : Hid (Bw w w9) := kp (Aq.o.trans (hb9.mono Aq.o.size))
      have Az := Am.o.of_block (hb9.block _ Am.o.lt)
      have z0 : w9.cell? ⟨wr.heap.size, 0, none⟩ = some (.int .i64 0) := Az.cell rfl
      have z1 : w9.cell? ⟨wr.heap.size, 1, none⟩ = some (.slice Av nv cv) := Az.cell rfl
      clear Az hb9 d0 d1 d2 d3
      cases hie : by_ ⟨0, xv, xr, xd⟩ ⟨0, [], 0, 0⟩
      ·have hno : a5_ ⟨0, xv, xr, xd⟩ = false := by simp [a5_, zI, hie]
       have Aa := kp (show refB r = false from dy_ (Ay.o hno))
       go_wp2_with fail
       go_ret
       exact rb Aa.o Bb.o
      have Ah := kp (show a5_ ⟨0, xv, xr, xd⟩ = true by simp [a5_, zI, hie])
      go_wp2_with fail
      go_roundw
      case rel => exact ⟨k + 1, by omega, by go_num, by rw [Ba.o, Ah.o], Bd.o, Bb.o⟩
      simp [intOf]; omega
     have hne : (xm == 0) = false := by simpa using hm0
     by_cases hneg : xm < 0
     ·have g1' : decide (xm < 0) = true := by simp; omega
      have hno : a5_ ⟨xm, xv, xr, xd⟩ = false := by simp [a5_]; omega
      have Aa := kp (show refB r = false from dy_ (Ay.o hno))
      go_wp2_with fail
      go_ret
      exact rb Aa.o Aq.o
     have g1' : decide (xm < 0) = false := by simp; omega
     by_cases hbig : 2 < xm
     ·have g2' : decide (2 < xm) = true := by simp; omega
      have hno : a5_ ⟨xm, xv, xr, xd⟩ = false := by simp [a5_]; omega
      have Aa := kp (show refB r = false from dy_ (Ay.o hno))
      go_wp2_with fail
      go_ret
      exact rb Aa.o Aq.o
     have g2' : decide (2 < xm) = false := by simp; omega
     have Ah := kp (show a5_ ⟨xm, xv, xr, xd⟩ = true by simp [a5_]; omega)
     clear hm0 hneg hbig
     go_wp2_with fail
     go_roundw
     case rel => exact ⟨k + 1, by omega, by go_num, by rw [Ba.o, Ah.o], Aw.o, Aq.o⟩
     simp [intOf]; omega
    obtain rfl : k = n := by omega
    have hg : decide ((k : Int) < (k : Int)) = false := by simp
    have Ao := kp (show r.items.all a5_ = true by have := Ar.o; rwa [tL (by rw [HN.o]; exact lR _)] at this)
    have x1 : wr.cell? ⟨w.heap.size, 1, none⟩ = some (.int .i64 er) := HX.o.cell rfl
    have x0 : wr.cell? ⟨w.heap.size, 0, none⟩ = some (.int .i64 op) := HX.o.cell rfl
    by_cases he0 : er = 0
    ·subst he0
     have Al := kp (iN_ op wr)
     rcases kJ_ op with hz | hz | hz | hz | hz
     ·have Ab : Hid (Calls Tryz.prog 173 #[.int .i64 op] wr fun e w' => e = .returned (.int .u8 119) /\ w' = wr) := kp (by have := Al.o; rwa [hz] at this)
      go_wp2_with fail
      refine Ab.o.mono ?_
      rintro e w9 ⟨rfl, rfl⟩
      obtain ⟨wr, rfl⟩ := eX w9
      go_wp2_with fail
      refine Ab.o.mono ?_
      rintro e w9b ⟨rfl, rfl⟩
      obtain ⟨wr, rfl⟩ := eX w9b
      have w0 : wr.cell? ⟨w.heap.size, 4, none⟩ = some (.int .i64 cnt) := HX.o.cell rfl
      have w5 : wr.cell? ⟨w.heap.size, 5, none⟩ = some (.slice An m cn) := HX.o.cell rfl
      have Ad := kp (dd_ Ap.o Ak.o Ao.o (by unfold c9; rw [Af.o, hz]; simp))
      by_cases q1 : 0 <= cnt
      ·have gq1 : decide (0 <= cnt) = true := by simp; omega
       by_cases q2 : cnt <= 1099511627776
       ·have gq2 : decide (cnt <= 1099511627776) = true := by simp; omega
        by_cases q3 : m <= 64
        ·have gq3 : decide ((m : Int) <= 64) = true := by simp; omega
         have Aa := kp (Ad.o.trans (show finR r = true by unfold finR; rw [Ae.o, HM.o]; simp; omega))
         clear q1 q2 q3
         go_wp2_with fail
         go_ret
         exact rb Aa.o Ac.o
        have gq3 : decide ((m : Int) <= 64) = false := by simp; omega
        have Aa := kp (Ad.o.trans (show finR r = false by unfold finR; rw [Ae.o, HM.o]; simp; omega))
        clear q1 q2 q3
        go_wp2_with fail
        go_ret
        exact rb Aa.o Ac.o
       have gq2 : decide (cnt <= 1099511627776) = false := by simp; omega
       have Aa := kp (Ad.o.trans (show finR r = false by unfold finR; rw [Ae.o, HM.o]; simp; omega))
       clear q1 q2
       go_wp2_with fail
       go_ret
       exact rb Aa.o Ac.o
      have gq1 : decide (0 <= cnt) = false := by simp; omega
      have Aa := kp (Ad.o.trans (show finR r = false by unfold finR; rw [Ae.o, HM.o]; simp; omega))
      clear q1
      go_wp2_with fail
      go_ret
      exact rb Aa.o Ac.o
     ·have Ab : Hid (Calls Tryz.prog 173 #[.int .i64 op] wr fun e w' => e = .returned (.int .u8 105) /\ w' = wr) := kp (by have := Al.o; rwa [hz] at this)
      by_cases h1 : k = 1
      ·subst h1
       go_wp2_with fail
       refine Ab.o.mono ?_
       rintro e w9 ⟨rfl, rfl⟩
       obtain ⟨wr, rfl⟩ := eX w9
       go_wp2_with fail
       refine Ab.o.mono ?_
       rintro e w9b ⟨rfl, rfl⟩
       obtain ⟨wr, rfl⟩ := eX w9b
       have w0 : wr.cell? ⟨w.heap.size, 4, none⟩ = some (.int .i64 cnt) := HX.o.cell rfl
       have w5 : wr.cell? ⟨w.heap.size, 5, none⟩ = some (.slice An m cn) := HX.o.cell rfl
       have Ad := kp (dd_ Ap.o Ak.o Ao.o (by unfold c9; rw [Af.o, hz, HN.o]; simp))
       by_cases q1 : 0 <= cnt
       ·have gq1 : decide (0 <= cnt) = true := by simp; omega
        by_cases q2 : cnt <= 1099511627776
        ·have gq2 : decide (cnt <= 1099511627776) = true := by simp; omega
         by_cases q3 : m <= 64
         ·have gq3 : decide ((m : Int) <= 64) = true := by simp; omega
          have Aa := kp (Ad.o.trans (show finR r = true by unfold finR; rw [Ae.o, HM.o]; simp; omega))
          clear q1 q2 q3
          go_wp2_with fail
          go_ret
          exact rb Aa.o Ac.o
         have gq3 : decide ((m : Int) <= 64) = false := by simp; omega
         have Aa := kp (Ad.o.trans (show finR r = false by unfold finR; rw [Ae.o, HM.o]; simp; omega))
         clear q1 q2 q3
         go_wp2_with fail
         go_ret
         exact rb Aa.o Ac.o
        have gq2 : decide (cnt <= 1099511627776) = false := by simp; omega
        have Aa := kp (Ad.o.trans (show finR r = false by unfold finR; rw [Ae.o, HM.o]; simp; omega))
        clear q1 q2
        go_wp2_with fail
        go_ret
        exact rb Aa.o Ac.o
       have gq1 : decide (0 <= cnt) = false := by simp; omega
       have Aa := kp (Ad.o.trans (show finR r = false by unfold finR; rw [Ae.o, HM.o]; simp; omega))
       clear q1
       go_wp2_with fail
       go_ret
       exact rb Aa.o Ac.o
      have hk1 : ((k : Int) != 1) = true := by simp; omega
      go_wp2_with fail
      refine Ab.o.mono ?_
      rintro e w9 ⟨rfl, rfl⟩
      obtain ⟨wr, rfl⟩ := eX w9
      have Aa := kp (show refB r = false from hP_ (by unfold c9; rw [Ag.o, Af.o, hz, HN.o]; simp; exact h1))
      go_wp2_with fail
      go_ret
      exact rb Aa.o Ac.o
     ·have Ab : Hid (Calls Tryz.prog 173 #[.int .i64 op] wr fun e w' => e = .returned (.int .u8 109) /\ w' = wr) := kp (by have := Al.o; rwa [hz] at this)
      by_cases h1 : k < 1
      ·have hk1 : decide ((k : Int) < 1) = true := by simp; omega
       go_wp2_with fail
       refine Ab.o.mono ?_
       rintro e w9 ⟨rfl, rfl⟩
       obtain ⟨wr, rfl⟩ := eX w9
       go_wp2_with fail
       refine Ab.o.mono ?_
       rintro e w9b ⟨rfl, rfl⟩
       obtain ⟨wr, rfl⟩ := eX w9b
       have Aa := kp (show refB r = false from hP_ (by unfold c9; rw [Ag.o, Af.o, hz, HN.o]; simp; omega))
       go_wp2_with fail
       go_ret
       exact rb Aa.o Ac.o
      have hk1 : decide ((k : Int) < 1) = false := by simp; omega
      by_cases h2 : 16 < k
      ·have hk2 : decide ((16 : Int) < (k : Int)) = true := by simp; omega
       go_wp2_with fail
       refine Ab.o.mono ?_
       rintro e w9 ⟨rfl, rfl⟩
       obtain ⟨wr, rfl⟩ := eX w9
       go_wp2_with fail
       refine Ab.o.mono ?_
       rintro e w9b ⟨rfl, rfl⟩
       obtain ⟨wr, rfl⟩ := eX w9b
       have Aa := kp (show refB r = false from hP_ (by unfold c9; rw [Ag.o, Af.o, hz, HN.o]; simp; omega))
       go_wp2_with fail
       go_ret
       exact rb Aa.o Ac.o
      have hk2 : decide ((16 : Int) < (k : Int)) = false := by simp; omega
      go_wp2_with fail
      refine Ab.o.mono ?_
      rintro e w9 ⟨rfl, rfl⟩
      obtain ⟨wr, rfl⟩ := eX w9
      go_wp2_with fail
      refine Ab.o.mono ?_
      rintro e w9b ⟨rfl, rfl⟩
      obtain ⟨wr, rfl⟩ := eX w9b
      have w0 : wr.cell? ⟨w.heap.size, 4, none⟩ = some (.int .i64 cnt) := HX.o.cell rfl
      have w5 : wr.cell? ⟨w.heap.size, 5, none⟩ = some (.slice An m cn) := HX.o.cell rfl
      have Ad := kp (dd_ Ap.o Ak.o Ao.o (by unfold c9; rw [Af.o, hz, HN.o]; simp; omega))
      by_cases q1 : 0 <= cnt
      ·have gq1 : decide (0 <= cnt) = true := by simp; omega
       by_cases q2 : cnt <= 1099511627776
       ·have gq2 : decide (cnt <= 1099511627776) = true := by simp; omega
        by_cases q3 : m <= 64
        ·have gq3 : decide ((m : Int) <= 64) = true := by simp; omega
         have Aa := kp (Ad.o.trans (show finR r = true by unfold finR; rw [Ae.o, HM.o]; simp; omega))
         clear q1 q2 q3
         go_wp2_with fail
         go_ret
         exact rb Aa.o Ac.o
        have gq3 : decide ((m : Int) <= 64) = false := by simp; omega
        have Aa := kp (Ad.o.trans (show finR r = false by unfold finR; rw [Ae.o, HM.o]; simp; omega))
        clear q1 q2 q3
        go_wp2_with fail
        go_ret
        exact rb Aa.o Ac.o
       have gq2 : decide (cnt <= 1099511627776) = false := by simp; omega
       have Aa := kp (Ad.o.trans (show finR r = false by unfold finR; rw [Ae.o, HM.o]; simp; omega))
       clear q1 q2
       go_wp2_with fail
       go_ret
       exact rb Aa.o Ac.o
      have gq1 : decide (0 <= cnt) = false := by simp; omega
      have Aa := kp (Ad.o.trans (show finR r = false by unfold finR; rw [Ae.o, HM.o]; simp; omega))
      clear q1
      go_wp2_with fail
      go_ret
      exact rb Aa.o Ac.o
     focus
      have Ab : Hid (Calls Tryz.prog 173 #[.int .i64 op] wr fun e w' => e = .returned (.int .u8 110) /\ w' = wr) := kp (by have := Al.o; rwa [hz] at this)
     rotate_left 1
     focus
      have Ab : Hid (Calls Tryz.prog 173 #[.int .i64 op] wr fun e w' => e = .returned (.int .u8 99) /\ w' = wr) := kp (by have := Al.o; rwa [hz] at this)
     rotate_left 1
     rotate_right 2
     iterate 2
      ·go_wp2_with fail
       refine Ab.o.mono ?_
       rintro e w9 ⟨rfl, rfl⟩
       obtain ⟨wr, rfl⟩ := eX w9
       go_wp2_with fail
       refine Ab.o.mono ?_
       rintro e w9b ⟨rfl, rfl⟩
       obtain ⟨wr, rfl⟩ := eX w9b
       have w0 : wr.cell? ⟨w.heap.size, 4, none⟩ = some (.int .i64 cnt) := HX.o.cell rfl
       have w5 : wr.cell? ⟨w.heap.size, 5, none⟩ = some (.slice An m cn) := HX.o.cell rfl
       have Ad := kp (dd_ Ap.o Ak.o Ao.o (by unfold c9; rw [Af.o, hz]; simp))
       by_cases q1 : 0 <= cnt
       ·have gq1 : decide (0 <= cnt) = true := by simp; omega
        by_cases q2 : cnt <= 1099511627776
        ·have gq2 : decide (cnt <= 1099511627776) = true := by simp; omega
         by_cases q3 : m <= 64
         ·have gq3 : decide ((m : Int) <= 64) = true := by simp; omega
          have Aa := kp (Ad.o.trans (show finR r = true by unfold finR; rw [Ae.o, HM.o]; simp; omega))
          clear q1 q2 q3
          go_wp2_with fail
          go_ret
          exact rb Aa.o Ac.o
         have gq3 : decide ((m : Int) <= 64) = false := by simp; omega
         have Aa := kp (Ad.o.trans (show finR r = false by unfold finR; rw [Ae.o, HM.o]; simp; omega))
         clear q1 q2 q3
         go_wp2_with fail
         go_ret
         exact rb Aa.o Ac.o
        have gq2 : decide (cnt <= 1099511627776) = false := by simp; omega
        have Aa := kp (Ad.o.trans (show finR r = false by unfold finR; rw [Ae.o, HM.o]; simp; omega))
        clear q1 q2
        go_wp2_with fail
        go_ret
        exact rb Aa.o Ac.o
       have gq1 : decide (0 <= cnt) = false := by simp; omega
       have Aa := kp (Ad.o.trans (show finR r = false by unfold finR; rw [Ae.o, HM.o]; simp; omega))
       clear q1
       go_wp2_with fail
       go_ret
       exact rb Aa.o Ac.o
    have hne : (er == 0) = false := by simpa using he0
    have w0 : wr.cell? ⟨w.heap.size, 4, none⟩ = some (.int .i64 cnt) := HX.o.cell rfl
    have w5 : wr.cell? ⟨w.heap.size, 5, none⟩ = some (.slice An m cn) := HX.o.cell rfl
    have Ad := kp (dd_ Ap.o Ak.o Ao.o (by unfold c9; rw [Ag.o]; simp; intro h; exact absurd h he0))
    by_cases q1 : 0 <= cnt
    ·have gq1 : decide (0 <= cnt) = true := by simp; omega
     by_cases q2 : cnt <= 1099511627776
     ·have gq2 : decide (cnt <= 1099511627776) = true := by simp; omega
      by_cases q3 : m <= 64
      ·have gq3 : decide ((m : Int) <= 64) = true := by simp; omega
       have Aa := kp (Ad.o.trans (show finR r = true by unfold finR; rw [Ae.o, HM.o]; simp; omega))
       clear q1 q2 q3
       go_wp2_with fail
       go_ret
       exact rb Aa.o Ac.o
      have gq3 : decide ((m : Int) <= 64) = false := by simp; omega
      have Aa := kp (Ad.o.trans (show finR r = false by unfold finR; rw [Ae.o, HM.o]; simp; omega))
      clear q1 q2 q3
      go_wp2_with fail
      go_ret
      exact rb Aa.o Ac.o
     have gq2 : decide (cnt <= 1099511627776) = false := by simp; omega
     have Aa := kp (Ad.o.trans (show finR r = false by unfold finR; rw [Ae.o, HM.o]; simp; omega))
     clear q1 q2
     go_wp2_with fail
     go_ret
     exact rb Aa.o Ac.o
    have gq1 : decide (0 <= cnt) = false := by simp; omega
    have Aa := kp (Ad.o.trans (show finR r = false by unfold finR; rw [Ae.o, HM.o]; simp; omega))
    clear q1
    go_wp2_with fail
    go_ret
    exact rb Aa.o Ac.o
end Go.Proofs.YtnjhpgmbfblgaaaGreat.Ord
