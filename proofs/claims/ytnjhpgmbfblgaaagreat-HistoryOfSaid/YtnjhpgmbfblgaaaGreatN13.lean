/- Walk of the reference's Valid (responses). -/
import Derived.Test.YtnjhpgmbfblgaaaGreatN12
import Derived.Test.YtnjhpgmbfblgaaaGreatK8
namespace Go.Proofs.YtnjhpgmbfblgaaaGreat.Ord
set_option maxRecDepth 100000
set_option maxHeartbeats 16000000
open Go.RowKit
set_option linter.unusedVariables false
set_option linter.unusedSimpArgs false
def okRefI (x : ItemR) : Bool := (!(x.mark == 0) || itemEq x zI) && (decide (0 <= x.mark) && decide (x.mark <= 2))
def c9 (r : RespR) : Bool := (r.err == 0) && ((nR r.op == 105 && !(r.items.length == 1)) || (nR r.op == 109 && !(decide (1 <= r.items.length /\ r.items.length <= 16))))
def finR (r : RespR) : Bool := decide (0 <= r.count) && (decide (r.count <= 1099511627776) && decide (r.nums.length <= 64))
def refB (r : RespR) : Bool := okHead r && (respEq r (only8 r) && (r.items.all okRefI && (!c9 r && finR r)))
theorem refB_head {r : RespR} (h : okHead r = false) : refB r = false := by unfold refB; rw [h]; rfl
theorem refB_only {r : RespR} (h : respEq r (only8 r) = false) : refB r = false := by unfold refB; rw [h]; simp
theorem refB_items {r : RespR} (h : r.items.all okRefI = false) : refB r = false := by unfold refB; rw [h]; simp
theorem refB_c9 {r : RespR} (h : c9 r = true) : refB r = false := by unfold refB; rw [h]; simp
theorem refB_fin {r : RespR} (h : okHead r = true) (h1 : respEq r (only8 r) = true) (h2 : r.items.all okRefI = true) (h3 : c9 r = false) : refB r = finR r := by unfold refB; rw [h, h1, h2, h3]; rfl
theorem cutN {P : Program} {c : Code} {Q : Exit -> Act -> World -> Prop} {a : Act} {A : Value -> Value -> Act} {w : World} (F : World -> Prop) (h : c.wp P (fun e b v => e = .normal /\ ∃ x y, b = A x y /\ F v) a w) (h2 : ∀ x y v, F v -> Q .normal (A x y) v) : c.wp P Q a w :=
 Code.wp_mono (by rintro _ _ v ⟨rfl, x, y, rfl, hf⟩; exact h2 x y v hf) h
theorem f172_name : (Tryz.f172.name == "runtime.NumGoroutine") = false := by decide
theorem f172_body : Tryz.f172.body.isSome = true := rfl
theorem f24_name : (Tryz.f24.name == "runtime.NumGoroutine") = false := by decide
theorem f24_body : Tryz.f24.body.isSome = true := rfl
def RvPost (r : RespR) (w : World) (e : Ending) (w' : World) : Prop := e = .returned (.bool (refB r)) /\ Below w.heap.size w w'
theorem refValid109 (r : RespR) (hs : RespS r) (vi vn : Value) (w : World) (hok : RespOk w w.heap.size r vi vn) :
  Calls Tryz.prog 109 #[.agg (respC r vi vn).toArray] w (RvPost r w) := by
 obtain ⟨⟨_, Ai, ci, hvi, hel⟩, _, An, cn, hvn, _⟩ := id hok
 obtain ⟨n, hn⟩ : ∃ n, r.items.length = n := ⟨_, rfl⟩
 obtain ⟨m, hm⟩ : ∃ n, r.nums.length = n := ⟨_, rfl⟩
 obtain ⟨op, hop⟩ : ∃ x, r.op = x := ⟨_, rfl⟩
 obtain ⟨er, her⟩ : ∃ x, r.err = x := ⟨_, rfl⟩
 obtain ⟨cnt, hcnt⟩ : ∃ x, r.count = x := ⟨_, rfl⟩
 rw [hn] at hvi
 rw [hm] at hvn
 have hn100 : n <= 100 := by rw [<- hn]; exact hs.nitems
 have hm100 : m <= 100 := by rw [<- hm]; exact hs.nnums
 have hL : respC r vi vn = [.int .i64 op, .int .i64 er, .slice Ai n ci, .int .u64 r.ver, .int .i64 cnt, .slice An m cn] := by rw [hvi, hvn, <- hop, <- her, <- hcnt]; rfl
 have hB := below1 w (.cells #[.int .i64 op, .int .i64 er, .slice Ai n ci, .int .u64 r.ver, .int .i64 cnt, .slice An m cn] 40)
 have hr := RowL.new w 40 [.int .i64 op, .int .i64 er, .slice Ai n ci, .int .u64 r.ver, .int .i64 cnt, .slice An m cn]
 obtain ⟨W1, hW1⟩ : ∃ W, W = w.alloc (.cells #[.int .i64 op, .int .i64 er, .slice Ai n ci, .int .u64 r.ver, .int .i64 cnt, .slice An m cn] 40) := ⟨_, rfl⟩
 rw [<- hW1] at hB hr
 have hok1 := (hok.below hB (Nat.le_refl _)).mono hB.size
 have HO := kp (only172 r vi vn W1.drew hok1)
 have HQ := kp (fun (vi' vn' : Value) (W : World) (h1 : RespOk W W.heap.size r vi vn) (h2 : RespOk W W.heap.size (only8 r) vi' vn') => show Calls Tryz.prog 24 #[.agg #[.int .i64 op, .int .i64 er, .slice Ai n ci, .int .u64 r.ver, .int .i64 cnt, .slice An m cn], .agg (respC (only8 r) vi' vn').toArray] W (fun e w' => e = .returned (.bool (respEq r (only8 r))) /\ Below W.heap.size W w') by have := resp45 r (only8 r) vi vn vi' vn' W h1 h2; rw [hL] at this; exact this)
 have HR := kp hr
 have HB := kp hB
 have HOK := kp hok
 have HS := kp hs
 have HN := kp hn
 have HM := kp hm
 have HOP := kp hop
 have HER := kp her
 have HCN := kp hcnt
 have HEL := kp hel
 rw [hL] at HO ⊢
 have hcb := hs.count
 rw [hcnt] at hcb
 clear hok hok1 hs hL hB hr hvi hvn hn hm hop her hcnt hel
 by_cases a1 : op < 0
 ·have g1 : decide (op < 0) = true := by simp; omega
  have HF := kp (show refB r = false from refB_head (by simp [okHead, HOP.out, HER.out]; omega))
  go_enter Tryz.func109, Tryz.ntmps109
  go_wp2_with fail
  rw [<- hW1]
  clear hW1
  have b0 : (W1).cell? ⟨w.heap.size, 0, none⟩ = some (.int .i64 op) := HR.out.cell (j := 0) rfl
  have b1 : (W1).cell? ⟨w.heap.size, 1, none⟩ = some (.int .i64 er) := HR.out.cell (j := 1) rfl
  have b2 : (W1).cell? ⟨w.heap.size, 2, none⟩ = some (.slice Ai n ci) := HR.out.cell (j := 2) rfl
  have b3 : (W1).cell? ⟨w.heap.size, 3, none⟩ = some (.int .u64 r.ver) := HR.out.cell (j := 3) rfl
  have b4 : (W1).cell? ⟨w.heap.size, 4, none⟩ = some (.int .i64 cnt) := HR.out.cell (j := 4) rfl
  have b5 : (W1).cell? ⟨w.heap.size, 5, none⟩ = some (.slice An m cn) := HR.out.cell (j := 5) rfl
  go_quiet (fail)
  all_goals
   go_wp2_with fail
   go_ret
   exact rb HF.out (HB.out.trans ⟨rfl, rfl, rfl, Nat.le_refl _, fun _ _ => rfl⟩)
 have g1 : decide (op < 0) = false := by simp; omega
 by_cases a2 : 15 < op
 ·have g2 : decide (15 < op) = true := by simp; omega
  have HF := kp (show refB r = false from refB_head (by simp [okHead, HOP.out, HER.out]; omega))
  go_enter Tryz.func109, Tryz.ntmps109
  go_wp2_with fail
  rw [<- hW1]
  clear hW1
  have b0 : (W1).cell? ⟨w.heap.size, 0, none⟩ = some (.int .i64 op) := HR.out.cell (j := 0) rfl
  have b1 : (W1).cell? ⟨w.heap.size, 1, none⟩ = some (.int .i64 er) := HR.out.cell (j := 1) rfl
  have b2 : (W1).cell? ⟨w.heap.size, 2, none⟩ = some (.slice Ai n ci) := HR.out.cell (j := 2) rfl
  have b3 : (W1).cell? ⟨w.heap.size, 3, none⟩ = some (.int .u64 r.ver) := HR.out.cell (j := 3) rfl
  have b4 : (W1).cell? ⟨w.heap.size, 4, none⟩ = some (.int .i64 cnt) := HR.out.cell (j := 4) rfl
  have b5 : (W1).cell? ⟨w.heap.size, 5, none⟩ = some (.slice An m cn) := HR.out.cell (j := 5) rfl
  go_quiet (fail)
  all_goals
   go_wp2_with fail
   go_ret
   exact rb HF.out (HB.out.trans ⟨rfl, rfl, rfl, Nat.le_refl _, fun _ _ => rfl⟩)
 have g2 : decide (15 < op) = false := by simp; omega
 by_cases a3 : er < 0
 ·have g3 : decide (er < 0) = true := by simp; omega
  have HF := kp (show refB r = false from refB_head (by simp [okHead, HOP.out, HER.out]; omega))
  go_enter Tryz.func109, Tryz.ntmps109
  go_wp2_with fail
  rw [<- hW1]
  clear hW1
  have b0 : (W1).cell? ⟨w.heap.size, 0, none⟩ = some (.int .i64 op) := HR.out.cell (j := 0) rfl
  have b1 : (W1).cell? ⟨w.heap.size, 1, none⟩ = some (.int .i64 er) := HR.out.cell (j := 1) rfl
  have b2 : (W1).cell? ⟨w.heap.size, 2, none⟩ = some (.slice Ai n ci) := HR.out.cell (j := 2) rfl
  have b3 : (W1).cell? ⟨w.heap.size, 3, none⟩ = some (.int .u64 r.ver) := HR.out.cell (j := 3) rfl
  have b4 : (W1).cell? ⟨w.heap.size, 4, none⟩ = some (.int .i64 cnt) := HR.out.cell (j := 4) rfl
  have b5 : (W1).cell? ⟨w.heap.size, 5, none⟩ = some (.slice An m cn) := HR.out.cell (j := 5) rfl
  go_quiet (fail)
  all_goals
   go_wp2_with fail
   go_ret
   exact rb HF.out (HB.out.trans ⟨rfl, rfl, rfl, Nat.le_refl _, fun _ _ => rfl⟩)
 have g3 : decide (er < 0) = false := by simp; omega
 by_cases a4 : 100000 < er
 ·have g4 : decide (100000 < er) = true := by simp; omega
  have HF := kp (show refB r = false from refB_head (by simp [okHead, HOP.out, HER.out]; omega))
  go_enter Tryz.func109, Tryz.ntmps109
  go_wp2_with fail
  rw [<- hW1]
  clear hW1
  have b0 : (W1).cell? ⟨w.heap.size, 0, none⟩ = some (.int .i64 op) := HR.out.cell (j := 0) rfl
  have b1 : (W1).cell? ⟨w.heap.size, 1, none⟩ = some (.int .i64 er) := HR.out.cell (j := 1) rfl
  have b2 : (W1).cell? ⟨w.heap.size, 2, none⟩ = some (.slice Ai n ci) := HR.out.cell (j := 2) rfl
  have b3 : (W1).cell? ⟨w.heap.size, 3, none⟩ = some (.int .u64 r.ver) := HR.out.cell (j := 3) rfl
  have b4 : (W1).cell? ⟨w.heap.size, 4, none⟩ = some (.int .i64 cnt) := HR.out.cell (j := 4) rfl
  have b5 : (W1).cell? ⟨w.heap.size, 5, none⟩ = some (.slice An m cn) := HR.out.cell (j := 5) rfl
  go_quiet (fail)
  all_goals
   go_wp2_with fail
   go_ret
   exact rb HF.out (HB.out.trans ⟨rfl, rfl, rfl, Nat.le_refl _, fun _ _ => rfl⟩)
 have g4 : decide (100000 < er) = false := by simp; omega
 by_cases a5 : op = 0 /\ er = 0
 ·have g5 : (op == 0) = true := by simp; omega
  have g6 : (er == 0) = true := by simp; omega
  have HF := kp (show refB r = false from refB_head (by simp [okHead, HOP.out, HER.out]; omega))
  clear a5
  go_enter Tryz.func109, Tryz.ntmps109
  go_wp2_with fail
  rw [<- hW1]
  clear hW1
  have b0 : (W1).cell? ⟨w.heap.size, 0, none⟩ = some (.int .i64 op) := HR.out.cell (j := 0) rfl
  have b1 : (W1).cell? ⟨w.heap.size, 1, none⟩ = some (.int .i64 er) := HR.out.cell (j := 1) rfl
  have b2 : (W1).cell? ⟨w.heap.size, 2, none⟩ = some (.slice Ai n ci) := HR.out.cell (j := 2) rfl
  have b3 : (W1).cell? ⟨w.heap.size, 3, none⟩ = some (.int .u64 r.ver) := HR.out.cell (j := 3) rfl
  have b4 : (W1).cell? ⟨w.heap.size, 4, none⟩ = some (.int .i64 cnt) := HR.out.cell (j := 4) rfl
  have b5 : (W1).cell? ⟨w.heap.size, 5, none⟩ = some (.slice An m cn) := HR.out.cell (j := 5) rfl
  go_quiet (fail)
  all_goals
   go_wp2_with fail
   go_ret
   exact rb HF.out (HB.out.trans ⟨rfl, rfl, rfl, Nat.le_refl _, fun _ _ => rfl⟩)
 have HHD := kp (show okHead r = true by simp [okHead, HOP.out, HER.out]; omega)
 have HBD := kp (show 0 <= op /\ op <= 15 /\ 0 <= er /\ er <= 100000 by omega)
 have HNZ := kp (show ¬ (op = 0 /\ er = 0) from a5)
 clear a1 a2 a3 a4
 by_cases a6 : op = 0
 focus
  have g5 : (op == 0) = true := by simp; omega
  have g6 : (er == 0) = false := by simp; omega
 rotate_left 1
 focus
  have g5 : (op == 0) = false := by simp; omega
 rotate_left 1
 rotate_right 2
 iterate 2
  ·clear a6 a5
   go_enter Tryz.func109, Tryz.ntmps109
   go_wp2_with fail
   rw [<- hW1]
   clear hW1
   have d0 : (W1.drew).cell? ⟨w.heap.size, 0, none⟩ = some (.int .i64 op) := HR.out.cell (j := 0) rfl
   have d1 : (W1.drew).cell? ⟨w.heap.size, 1, none⟩ = some (.int .i64 er) := HR.out.cell (j := 1) rfl
   have d2 : (W1.drew).cell? ⟨w.heap.size, 2, none⟩ = some (.slice Ai n ci) := HR.out.cell (j := 2) rfl
   have d3 : (W1.drew).cell? ⟨w.heap.size, 3, none⟩ = some (.int .u64 r.ver) := HR.out.cell (j := 3) rfl
   have d4 : (W1.drew).cell? ⟨w.heap.size, 4, none⟩ = some (.int .i64 cnt) := HR.out.cell (j := 4) rfl
   have d5 : (W1.drew).cell? ⟨w.heap.size, 5, none⟩ = some (.slice An m cn) := HR.out.cell (j := 5) rfl
   apply cutN (fun v => Hid (Below w.heap.size w v) /\ Hid (RowL v w.heap.size 40 [.int .i64 op, .int .i64 er, .slice Ai n ci, .int .u64 r.ver, .int .i64 cnt, .slice An m cn]))
   case h =>
    first
     | go_region_law (first
       | ((with_reducible refine step_call_r (o := ⟨some 36, _, _, _, _, _⟩) ?_ 172 _ _ rfl #[.agg #[.int .i64 op, .int .i64 er, .slice Ai n ci, .int .u64 r.ver, .int .i64 cnt, .slice An m cn]] ?_ Tryz.f172 Tryz.func172 f172_name f172_body (fun u w6 => ∃ vi' vn', u = .agg (respC (only8 r) vi' vn').toArray /\ RespOk w6 w6.heap.size (only8 r) vi' vn' /\ Below W1.drew.heap.size W1.drew w6) ?_ ?_); (· rfl); (· simp only [y1, y2, y3]; rfl); (· exact HO.out.mono fun e w' ⟨a, b, h1, h2, h3⟩ => ⟨_, h1, a, b, rfl, h2, h3⟩); rintro u6 w6 ⟨vi6, vn6, rfl, hok6, hb6⟩; have HOK6 := kp hok6; have HB6 := kp hb6; have HR6 := kp (HR.out.of_block (w := W1.drew) (hb6.block _ HR.out.lt)); clear hok6 hb6; have p0 : (w6).cell? ⟨w.heap.size, 0, none⟩ = some (.int .i64 op) := HR6.out.cell (j := 0) rfl; have p1 : (w6).cell? ⟨w.heap.size, 1, none⟩ = some (.int .i64 er) := HR6.out.cell (j := 1) rfl; have p2 : (w6).cell? ⟨w.heap.size, 2, none⟩ = some (.slice Ai n ci) := HR6.out.cell (j := 2) rfl; have p3 : (w6).cell? ⟨w.heap.size, 3, none⟩ = some (.int .u64 r.ver) := HR6.out.cell (j := 3) rfl; have p4 : (w6).cell? ⟨w.heap.size, 4, none⟩ = some (.int .i64 cnt) := HR6.out.cell (j := 4) rfl; have p5 : (w6).cell? ⟨w.heap.size, 5, none⟩ = some (.slice An m cn) := HR6.out.cell (j := 5) rfl; skip)
       | ((with_reducible refine step_call_r (o := ⟨some 37, _, _, _, _, _⟩) ?_ 24 _ _ rfl #[.agg #[.int .i64 op, .int .i64 er, .slice Ai n ci, .int .u64 r.ver, .int .i64 cnt, .slice An m cn], .agg (respC (only8 r) vi6 vn6).toArray] ?_ Tryz.f24 Tryz.func24 f24_name f24_body (fun u w7 => u = .bool (respEq r (only8 r)) /\ Below w6.heap.size w6 w7) ?_ ?_); (· rfl); (· simp only [y1, y2, y3]; rfl); (· exact (HQ.out vi6 vn6 w6 (((HOK.out.below HB.out (Nat.le_refl _)).mono HB.out.size |>.below (w := W1.drew) HB6.out (Nat.le_refl _)).mono HB6.out.size) HOK6.out).mono fun e w' ⟨h1, h2⟩ => ⟨_, h1, rfl, h2⟩); rintro u7 w7 ⟨rfl, hb7⟩; have HB7 := kp (HB6.out.trans (hb7.mono HB6.out.size)); clear hb7))
     | fail "region"
    all_goals
     have HBW : Hid (Below w.heap.size w w7) := kp (HB.out.trans ((below_undrew HB7.out).mono HB.out.size))
     have HRW := kp (HR.out.of_block (w := W1.drew) (HB7.out.block _ HR.out.lt))
     exact ⟨rfl, vi6, vn6, rfl, HBW, HRW⟩
   case h2 =>
    rintro vi6 vn6 w7 ⟨HBW, HRW⟩
    clear d0 d1 d2 d3 d4 d5
    cases hq : respEq r (only8 r)
    ·skip
     have HFF := kp (show refB r = false from refB_only hq)
     go_wp2_with fail
     go_ret
     exact rb HFF.out HBW.out
    simp only [Bool.not_true]
    have HRE := kp hq
    have x2 : w7.cell? ⟨w.heap.size, 2, none⟩ = some (.slice Ai n ci) := HRW.out.cell rfl
    clear hq
    go_wp2_with fail
    go_loopw [3] (fun j wr => ∃ k : Nat, k <= n /\ j = .int .i64 k /\ (r.items.take k).all okRefI = true /\ RowL wr w.heap.size 40 [.int .i64 op, .int .i64 er, .slice Ai n ci, .int .u64 r.ver, .int .i64 cnt, .slice An m cn] /\ Below w.heap.size w wr) (fun j _ => n - (intOf j).toNat)
    case atStart => exact ⟨0, Nat.zero_le _, by go_num, by simp, HRW.out, HBW.out⟩
    case round =>
     obtain ⟨k, hk, rfl, hall, hrw, hbw⟩ := hrel
     have HALL := kp hall
     have HX := kp hrw
     have HBX := kp hbw
     have y2 : wr.cell? ⟨w.heap.size, 2, none⟩ = some (.slice Ai n ci) := hrw.cell rfl
     clear hall hrw hbw x2
     by_cases hlt : k < n
     ·have hg : decide ((k : Int) < (n : Int)) = true := by simp; omega
      have hkx : k < r.items.length := by rw [HN.out]; exact hlt
      have hx := List.getElem?_eq_getElem hkx
      obtain ⟨x, hxe⟩ : ∃ x, r.items[k] = x := ⟨_, rfl⟩
      rw [hxe] at hx
      have hxm := List.mem_of_getElem? hx
      have hvl := HS.out.vals x hxm
      obtain ⟨b, off, v, rfl, hbB, hc, hdat⟩ := HEL.out k x hx
      have hc := hc.below HBX.out hbB
      have hdat := hdat.below HBX.out (Nat.le_refl _)
      have HTK := kp (show (r.items.take (k + 1)).all okRefI = okRefI x by rw [List.take_add_one, hx, Option.toList_some, List.all_append, HALL.out]; simp)
      have HNO := kp (show okRefI x = false -> r.items.all okRefI = false from fun h => by
       cases e : r.items.all okRefI
       ·rfl
       ·rw [List.all_eq_true.1 e x hxm] at h; simp at h)
      obtain ⟨xm, xv, xr, xd⟩ := x
      simp only at hvl hc hdat
      obtain ⟨_, _, Av, cv, rfl, _⟩ := id hdat
      obtain ⟨nv, hnv⟩ : ∃ nv, xv.length = nv := ⟨_, rfl⟩
      rw [hnv] at hc hvl hdat
      have d0 : wr.cell? ⟨b, off + k * 4, none⟩ = some (.int .i64 xm) := hc 0 _ rfl
      have d1 : wr.cell? ⟨b, off + k * 4 + 1, none⟩ = some (.slice Av nv cv) := hc 1 _ rfl
      have d2 : wr.cell? ⟨b, off + k * 4 + 2, none⟩ = some (.int .u64 xr) := hc 2 _ rfl
      have d3 : wr.cell? ⟨b, off + k * 4 + 3, none⟩ = some (.int .u64 xd) := hc 3 _ rfl
      have hb8 := below1 wr (.cells #[.int .i64 xm, .slice Av nv cv, .int .u64 xr, .int .u64 xd] 78)
      have HB8 : Hid (Below w.heap.size w (wr.alloc (.cells #[.int .i64 xm, .slice Av nv cv, .int .u64 xr, .int .u64 xd] 78))) := kp (HBX.out.trans (hb8.mono HBX.out.size))
      have HX8 := kp (HX.out.of_block (hb8.block _ HX.out.lt))
      have hit := RowL.new wr 78 [.int .i64 xm, .slice Av nv cv, .int .u64 xr, .int .u64 xd]
      have HIT8 := kp hit
      have HI := kp (item69 ⟨xm, xv, xr, xd⟩ zI (.slice Av nv cv) (.slice none 0 0) (wr.alloc (.cells #[.int .i64 xm, .slice Av nv cv, .int .u64 xr, .int .u64 xd] 78)) ((hdat.below hb8 (Nat.le_trans (by have := HBX.out.size; omega) (Nat.le_refl _))).mono (by have := HBX.out.size; simp; omega)) (datg_nil _ _))
      have g3 : decide ((65536 : Int) < (nv : Int)) = false := by simp; omega
      clear hkx hx hxe hxm hbB hc hdat hb8 hnv hit
      simp only [itemL, zI] at HI
      by_cases hm0 : xm = 0
      ·subst hm0
       go_wp2_with fail
       refine HI.out.mono ?_
       rintro e w9 ⟨rfl, hb9⟩
       have HX9 := kp (HX8.out.of_block (hb9.block _ HX8.out.lt))
       have HB9 : Hid (Below w.heap.size w w9) := kp (HB8.out.trans (hb9.mono HB8.out.size))
       have HI9 := HIT8.out.of_block (hb9.block _ HIT8.out.lt)
       have z0 : w9.cell? ⟨wr.heap.size, 0, none⟩ = some (.int .i64 0) := HI9.cell rfl
       have z1 : w9.cell? ⟨wr.heap.size, 1, none⟩ = some (.slice Av nv cv) := HI9.cell rfl
       clear HI9 hb9 d0 d1 d2 d3
       cases hie : itemEq ⟨0, xv, xr, xd⟩ ⟨0, [], 0, 0⟩
       ·have hno : okRefI ⟨0, xv, xr, xd⟩ = false := by simp [okRefI, zI, hie]
        have HFF := kp (show refB r = false from refB_items (HNO.out hno))
        go_wp2_with fail
        go_ret
        exact rb HFF.out HB9.out
       ·have HYES := kp (show okRefI ⟨0, xv, xr, xd⟩ = true by simp [okRefI, zI, hie])
        go_wp2_with fail
        go_roundw
        case rel => exact ⟨k + 1, by omega, by go_num, by rw [HTK.out, HYES.out], HX9.out, HB9.out⟩
        case measure => simp [intOf]; omega
      ·have hne : (xm == 0) = false := by simpa using hm0
       by_cases hneg : xm < 0
       ·have g1' : decide (xm < 0) = true := by simp; omega
        have hno : okRefI ⟨xm, xv, xr, xd⟩ = false := by simp [okRefI]; omega
        have HFF := kp (show refB r = false from refB_items (HNO.out hno))
        go_wp2_with fail
        go_ret
        exact rb HFF.out HB8.out
       ·have g1' : decide (xm < 0) = false := by simp; omega
        by_cases hbig : 2 < xm
        ·have g2' : decide (2 < xm) = true := by simp; omega
         have hno : okRefI ⟨xm, xv, xr, xd⟩ = false := by simp [okRefI]; omega
         have HFF := kp (show refB r = false from refB_items (HNO.out hno))
         go_wp2_with fail
         go_ret
         exact rb HFF.out HB8.out
        ·have g2' : decide (2 < xm) = false := by simp; omega
         have HYES := kp (show okRefI ⟨xm, xv, xr, xd⟩ = true by simp [okRefI]; omega)
         clear hm0 hneg hbig
         go_wp2_with fail
         go_roundw
         case rel => exact ⟨k + 1, by omega, by go_num, by rw [HTK.out, HYES.out], HX8.out, HB8.out⟩
         case measure => simp [intOf]; omega
     ·obtain rfl : k = n := by omega
      have hg : decide ((k : Int) < (k : Int)) = false := by simp
      have HIT := kp (show r.items.all okRefI = true by have := HALL.out; rwa [List.take_of_length_le (by rw [HN.out]; exact Nat.le_refl _)] at this)
      have x1 : wr.cell? ⟨w.heap.size, 1, none⟩ = some (.int .i64 er) := HX.out.cell rfl
      have x0 : wr.cell? ⟨w.heap.size, 0, none⟩ = some (.int .i64 op) := HX.out.cell rfl
      by_cases he0 : er = 0
      ·subst he0
       have HNE := kp (needs173 op wr)
       rcases nR_vals op with hz | hz | hz | hz | hz
       ·have HNZ2 : Hid (Calls Tryz.prog 173 #[.int .i64 op] wr fun e w' => e = .returned (.int .u8 119) /\ w' = wr) := kp (by have := HNE.out; rwa [hz] at this)
        go_wp2_with fail
        refine HNZ2.out.mono ?_
        rintro e w9 ⟨rfl, rfl⟩
        obtain ⟨wr, rfl⟩ : ∃ W, W = w9 := ⟨_, rfl⟩
        go_wp2_with fail
        refine HNZ2.out.mono ?_
        rintro e w9b ⟨rfl, rfl⟩
        obtain ⟨wr, rfl⟩ : ∃ W, W = w9b := ⟨_, rfl⟩
        have w0 : wr.cell? ⟨w.heap.size, 4, none⟩ = some (.int .i64 cnt) := HX.out.cell rfl
        have w5 : wr.cell? ⟨w.heap.size, 5, none⟩ = some (.slice An m cn) := HX.out.cell rfl
        have HFN := kp (refB_fin HHD.out HRE.out HIT.out (by unfold c9; rw [HOP.out, hz]; simp))
        by_cases q1 : 0 <= cnt
        ·have gq1 : decide (0 <= cnt) = true := by simp; omega
         by_cases q2 : cnt <= 1099511627776
         ·have gq2 : decide (cnt <= 1099511627776) = true := by simp; omega
          by_cases q3 : m <= 64
          ·have gq3 : decide ((m : Int) <= 64) = true := by simp; omega
           have HFF := kp (HFN.out.trans (show finR r = true by unfold finR; rw [HCN.out, HM.out]; simp; omega))
           clear q1 q2 q3
           go_wp2_with fail
           go_ret
           exact rb HFF.out HBX.out
          ·have gq3 : decide ((m : Int) <= 64) = false := by simp; omega
           have HFF := kp (HFN.out.trans (show finR r = false by unfold finR; rw [HCN.out, HM.out]; simp; omega))
           clear q1 q2 q3
           go_wp2_with fail
           go_ret
           exact rb HFF.out HBX.out
         ·have gq2 : decide (cnt <= 1099511627776) = false := by simp; omega
          have HFF := kp (HFN.out.trans (show finR r = false by unfold finR; rw [HCN.out, HM.out]; simp; omega))
          clear q1 q2
          go_wp2_with fail
          go_ret
          exact rb HFF.out HBX.out
        ·have gq1 : decide (0 <= cnt) = false := by simp; omega
         have HFF := kp (HFN.out.trans (show finR r = false by unfold finR; rw [HCN.out, HM.out]; simp; omega))
         clear q1
         go_wp2_with fail
         go_ret
         exact rb HFF.out HBX.out
       ·have HNZ2 : Hid (Calls Tryz.prog 173 #[.int .i64 op] wr fun e w' => e = .returned (.int .u8 105) /\ w' = wr) := kp (by have := HNE.out; rwa [hz] at this)
        by_cases h1 : k = 1
        ·subst h1
         go_wp2_with fail
         refine HNZ2.out.mono ?_
         rintro e w9 ⟨rfl, rfl⟩
         obtain ⟨wr, rfl⟩ : ∃ W, W = w9 := ⟨_, rfl⟩
         go_wp2_with fail
         refine HNZ2.out.mono ?_
         rintro e w9b ⟨rfl, rfl⟩
         obtain ⟨wr, rfl⟩ : ∃ W, W = w9b := ⟨_, rfl⟩
         have w0 : wr.cell? ⟨w.heap.size, 4, none⟩ = some (.int .i64 cnt) := HX.out.cell rfl
         have w5 : wr.cell? ⟨w.heap.size, 5, none⟩ = some (.slice An m cn) := HX.out.cell rfl
         have HFN := kp (refB_fin HHD.out HRE.out HIT.out (by unfold c9; rw [HOP.out, hz, HN.out]; simp))
         by_cases q1 : 0 <= cnt
         ·have gq1 : decide (0 <= cnt) = true := by simp; omega
          by_cases q2 : cnt <= 1099511627776
          ·have gq2 : decide (cnt <= 1099511627776) = true := by simp; omega
           by_cases q3 : m <= 64
           ·have gq3 : decide ((m : Int) <= 64) = true := by simp; omega
            have HFF := kp (HFN.out.trans (show finR r = true by unfold finR; rw [HCN.out, HM.out]; simp; omega))
            clear q1 q2 q3
            go_wp2_with fail
            go_ret
            exact rb HFF.out HBX.out
           ·have gq3 : decide ((m : Int) <= 64) = false := by simp; omega
            have HFF := kp (HFN.out.trans (show finR r = false by unfold finR; rw [HCN.out, HM.out]; simp; omega))
            clear q1 q2 q3
            go_wp2_with fail
            go_ret
            exact rb HFF.out HBX.out
          ·have gq2 : decide (cnt <= 1099511627776) = false := by simp; omega
           have HFF := kp (HFN.out.trans (show finR r = false by unfold finR; rw [HCN.out, HM.out]; simp; omega))
           clear q1 q2
           go_wp2_with fail
           go_ret
           exact rb HFF.out HBX.out
         ·have gq1 : decide (0 <= cnt) = false := by simp; omega
          have HFF := kp (HFN.out.trans (show finR r = false by unfold finR; rw [HCN.out, HM.out]; simp; omega))
          clear q1
          go_wp2_with fail
          go_ret
          exact rb HFF.out HBX.out
        ·have hk1 : ((k : Int) != 1) = true := by simp; omega
         go_wp2_with fail
         refine HNZ2.out.mono ?_
         rintro e w9 ⟨rfl, rfl⟩
         obtain ⟨wr, rfl⟩ : ∃ W, W = w9 := ⟨_, rfl⟩
         have HFF := kp (show refB r = false from refB_c9 (by unfold c9; rw [HER.out, HOP.out, hz, HN.out]; simp; exact h1))
         go_wp2_with fail
         go_ret
         exact rb HFF.out HBX.out
       ·have HNZ2 : Hid (Calls Tryz.prog 173 #[.int .i64 op] wr fun e w' => e = .returned (.int .u8 109) /\ w' = wr) := kp (by have := HNE.out; rwa [hz] at this)
        by_cases h1 : k < 1
        ·have hk1 : decide ((k : Int) < 1) = true := by simp; omega
         go_wp2_with fail
         refine HNZ2.out.mono ?_
         rintro e w9 ⟨rfl, rfl⟩
         obtain ⟨wr, rfl⟩ : ∃ W, W = w9 := ⟨_, rfl⟩
         go_wp2_with fail
         refine HNZ2.out.mono ?_
         rintro e w9b ⟨rfl, rfl⟩
         obtain ⟨wr, rfl⟩ : ∃ W, W = w9b := ⟨_, rfl⟩
         have HFF := kp (show refB r = false from refB_c9 (by unfold c9; rw [HER.out, HOP.out, hz, HN.out]; simp; omega))
         go_wp2_with fail
         go_ret
         exact rb HFF.out HBX.out
        ·have hk1 : decide ((k : Int) < 1) = false := by simp; omega
         by_cases h2 : 16 < k
         ·have hk2 : decide ((16 : Int) < (k : Int)) = true := by simp; omega
          go_wp2_with fail
          refine HNZ2.out.mono ?_
          rintro e w9 ⟨rfl, rfl⟩
          obtain ⟨wr, rfl⟩ : ∃ W, W = w9 := ⟨_, rfl⟩
          go_wp2_with fail
          refine HNZ2.out.mono ?_
          rintro e w9b ⟨rfl, rfl⟩
          obtain ⟨wr, rfl⟩ : ∃ W, W = w9b := ⟨_, rfl⟩
          have HFF := kp (show refB r = false from refB_c9 (by unfold c9; rw [HER.out, HOP.out, hz, HN.out]; simp; omega))
          go_wp2_with fail
          go_ret
          exact rb HFF.out HBX.out
         ·have hk2 : decide ((16 : Int) < (k : Int)) = false := by simp; omega
          go_wp2_with fail
          refine HNZ2.out.mono ?_
          rintro e w9 ⟨rfl, rfl⟩
          obtain ⟨wr, rfl⟩ : ∃ W, W = w9 := ⟨_, rfl⟩
          go_wp2_with fail
          refine HNZ2.out.mono ?_
          rintro e w9b ⟨rfl, rfl⟩
          obtain ⟨wr, rfl⟩ : ∃ W, W = w9b := ⟨_, rfl⟩
          have w0 : wr.cell? ⟨w.heap.size, 4, none⟩ = some (.int .i64 cnt) := HX.out.cell rfl
          have w5 : wr.cell? ⟨w.heap.size, 5, none⟩ = some (.slice An m cn) := HX.out.cell rfl
          have HFN := kp (refB_fin HHD.out HRE.out HIT.out (by unfold c9; rw [HOP.out, hz, HN.out]; simp; omega))
          by_cases q1 : 0 <= cnt
          ·have gq1 : decide (0 <= cnt) = true := by simp; omega
           by_cases q2 : cnt <= 1099511627776
           ·have gq2 : decide (cnt <= 1099511627776) = true := by simp; omega
            by_cases q3 : m <= 64
            ·have gq3 : decide ((m : Int) <= 64) = true := by simp; omega
             have HFF := kp (HFN.out.trans (show finR r = true by unfold finR; rw [HCN.out, HM.out]; simp; omega))
             clear q1 q2 q3
             go_wp2_with fail
             go_ret
             exact rb HFF.out HBX.out
            ·have gq3 : decide ((m : Int) <= 64) = false := by simp; omega
             have HFF := kp (HFN.out.trans (show finR r = false by unfold finR; rw [HCN.out, HM.out]; simp; omega))
             clear q1 q2 q3
             go_wp2_with fail
             go_ret
             exact rb HFF.out HBX.out
           ·have gq2 : decide (cnt <= 1099511627776) = false := by simp; omega
            have HFF := kp (HFN.out.trans (show finR r = false by unfold finR; rw [HCN.out, HM.out]; simp; omega))
            clear q1 q2
            go_wp2_with fail
            go_ret
            exact rb HFF.out HBX.out
          ·have gq1 : decide (0 <= cnt) = false := by simp; omega
           have HFF := kp (HFN.out.trans (show finR r = false by unfold finR; rw [HCN.out, HM.out]; simp; omega))
           clear q1
           go_wp2_with fail
           go_ret
           exact rb HFF.out HBX.out
       focus
        have HNZ2 : Hid (Calls Tryz.prog 173 #[.int .i64 op] wr fun e w' => e = .returned (.int .u8 110) /\ w' = wr) := kp (by have := HNE.out; rwa [hz] at this)
       rotate_left 1
       focus
        have HNZ2 : Hid (Calls Tryz.prog 173 #[.int .i64 op] wr fun e w' => e = .returned (.int .u8 99) /\ w' = wr) := kp (by have := HNE.out; rwa [hz] at this)
       rotate_left 1
       rotate_right 2
       iterate 2
        ·go_wp2_with fail
         refine HNZ2.out.mono ?_
         rintro e w9 ⟨rfl, rfl⟩
         obtain ⟨wr, rfl⟩ : ∃ W, W = w9 := ⟨_, rfl⟩
         go_wp2_with fail
         refine HNZ2.out.mono ?_
         rintro e w9b ⟨rfl, rfl⟩
         obtain ⟨wr, rfl⟩ : ∃ W, W = w9b := ⟨_, rfl⟩
         have w0 : wr.cell? ⟨w.heap.size, 4, none⟩ = some (.int .i64 cnt) := HX.out.cell rfl
         have w5 : wr.cell? ⟨w.heap.size, 5, none⟩ = some (.slice An m cn) := HX.out.cell rfl
         have HFN := kp (refB_fin HHD.out HRE.out HIT.out (by unfold c9; rw [HOP.out, hz]; simp))
         by_cases q1 : 0 <= cnt
         ·have gq1 : decide (0 <= cnt) = true := by simp; omega
          by_cases q2 : cnt <= 1099511627776
          ·have gq2 : decide (cnt <= 1099511627776) = true := by simp; omega
           by_cases q3 : m <= 64
           ·have gq3 : decide ((m : Int) <= 64) = true := by simp; omega
            have HFF := kp (HFN.out.trans (show finR r = true by unfold finR; rw [HCN.out, HM.out]; simp; omega))
            clear q1 q2 q3
            go_wp2_with fail
            go_ret
            exact rb HFF.out HBX.out
           ·have gq3 : decide ((m : Int) <= 64) = false := by simp; omega
            have HFF := kp (HFN.out.trans (show finR r = false by unfold finR; rw [HCN.out, HM.out]; simp; omega))
            clear q1 q2 q3
            go_wp2_with fail
            go_ret
            exact rb HFF.out HBX.out
          ·have gq2 : decide (cnt <= 1099511627776) = false := by simp; omega
           have HFF := kp (HFN.out.trans (show finR r = false by unfold finR; rw [HCN.out, HM.out]; simp; omega))
           clear q1 q2
           go_wp2_with fail
           go_ret
           exact rb HFF.out HBX.out
         ·have gq1 : decide (0 <= cnt) = false := by simp; omega
          have HFF := kp (HFN.out.trans (show finR r = false by unfold finR; rw [HCN.out, HM.out]; simp; omega))
          clear q1
          go_wp2_with fail
          go_ret
          exact rb HFF.out HBX.out
      ·have hne : (er == 0) = false := by simpa using he0
       have w0 : wr.cell? ⟨w.heap.size, 4, none⟩ = some (.int .i64 cnt) := HX.out.cell rfl
       have w5 : wr.cell? ⟨w.heap.size, 5, none⟩ = some (.slice An m cn) := HX.out.cell rfl
       have HFN := kp (refB_fin HHD.out HRE.out HIT.out (by unfold c9; rw [HER.out]; simp; intro h; exact absurd h he0))
       by_cases q1 : 0 <= cnt
       ·have gq1 : decide (0 <= cnt) = true := by simp; omega
        by_cases q2 : cnt <= 1099511627776
        ·have gq2 : decide (cnt <= 1099511627776) = true := by simp; omega
         by_cases q3 : m <= 64
         ·have gq3 : decide ((m : Int) <= 64) = true := by simp; omega
          have HFF := kp (HFN.out.trans (show finR r = true by unfold finR; rw [HCN.out, HM.out]; simp; omega))
          clear q1 q2 q3
          go_wp2_with fail
          go_ret
          exact rb HFF.out HBX.out
         ·have gq3 : decide ((m : Int) <= 64) = false := by simp; omega
          have HFF := kp (HFN.out.trans (show finR r = false by unfold finR; rw [HCN.out, HM.out]; simp; omega))
          clear q1 q2 q3
          go_wp2_with fail
          go_ret
          exact rb HFF.out HBX.out
        ·have gq2 : decide (cnt <= 1099511627776) = false := by simp; omega
         have HFF := kp (HFN.out.trans (show finR r = false by unfold finR; rw [HCN.out, HM.out]; simp; omega))
         clear q1 q2
         go_wp2_with fail
         go_ret
         exact rb HFF.out HBX.out
       ·have gq1 : decide (0 <= cnt) = false := by simp; omega
        have HFF := kp (HFN.out.trans (show finR r = false by unfold finR; rw [HCN.out, HM.out]; simp; omega))
        clear q1
        go_wp2_with fail
        go_ret
        exact rb HFF.out HBX.out
end Go.Proofs.YtnjhpgmbfblgaaaGreat.Ord
