/- Walks of the reference's Needs and only (responses); Walk of the reference's Of; Walk of. -/
import Derived.Test.YtnjhpgmbfblgaaaGreatMN11
import Derived.Test.YtnjhpgmbfblgaaaGreatMC3
import Derived.Test.YtnjhpgmbfblgaaaGreatMK7
set_option linter.unusedVariables false
set_option linter.unusedSimpArgs false
namespace Go.Proofs.YtnjhpgmbfblgaaaGreat.Ord
set_option maxRecDepth 100000
set_option maxHeartbeats 16000000
open Go.RowKit
def nR (op : Int) : Int := if op = 1 ∨ op = 2 ∨ op = 3 then 119 else if op = 4 then 105 else if op = 5 then 109 else if op = 15 then 110 else 99
theorem iN_ (op : Int) (w : World) : Calls Tryz.prog 173 #[.int .i64 op] w fun e w' => e = .returned (.int .u8 (nR op)) /\ w' = w := by
 have key : ∀ z, nR op = z -> Calls Tryz.prog 173 #[.int .i64 op] w fun e w' => e = .returned (.int .u8 z) /\ w' = w := by
  intro z hz
  by_cases h1 : op = 1 ∨ op = 2 ∨ op = 3
  ·rcases h1 with rfl | rfl | rfl
   all_goals
    obtain rfl : 119 = z := by rw [<- hz]; rfl
    go_enter Tryz.func173, Tryz.ntmps173
    go_wp2_with fail
    go_ret
    exact ⟨rfl, rfl⟩
  by_cases h2 : op = 4
  ·subst h2
   obtain rfl : 105 = z := by rw [<- hz]; rfl
   go_enter Tryz.func173, Tryz.ntmps173
   go_wp2_with fail
   go_ret
   exact ⟨rfl, rfl⟩
  by_cases h3 : op = 5
  ·subst h3
   obtain rfl : 109 = z := by rw [<- hz]; rfl
   go_enter Tryz.func173, Tryz.ntmps173
   go_wp2_with fail
   go_ret
   exact ⟨rfl, rfl⟩
  by_cases h4 : op = 15
  ·subst h4
   obtain rfl : 110 = z := by rw [<- hz]; rfl
   go_enter Tryz.func173, Tryz.ntmps173
   go_wp2_with fail
   go_ret
   exact ⟨rfl, rfl⟩
  obtain rfl : 99 = z := by rw [<- hz]; unfold nR; rw [if_neg h1, if_neg h2, if_neg h3, if_neg h4]
  have e1 : (op == 1) = false := by simp; omega
  have e2 : (op == 2) = false := by simp; omega
  have e3 : (op == 3) = false := by simp; omega
  have e4 : (op == 4) = false := by simp; omega
  have e5 : (op == 5) = false := by simp; omega
  have e6 : (op == 15) = false := by simp; omega
  clear h1 h2 h3 h4 hz
  go_enter Tryz.func173, Tryz.ntmps173
  go_wp2_with fail
  go_ret
  exact ⟨rfl, rfl⟩
 exact key _ rfl
def bi_ (r : RespR) : RespR :=
 if r.err ≠ 0 then ap_ r.op r.err
 else if nR r.op = 119 then ⟨r.op, r.err, [], r.ver, r.count, []⟩
 else if nR r.op = 105 ∨ nR r.op = 109 then ⟨r.op, r.err, r.items, 0, 0, []⟩
 else if nR r.op = 110 then ⟨r.op, r.err, [], 0, 0, r.nums⟩
 else ⟨r.op, r.err, [], 0, r.count, []⟩
theorem kJ_ (op : Int) : nR op = 119 ∨ nR op = 105 ∨ nR op = 109 ∨ nR op = 110 ∨ nR op = 99 := by
 unfold nR
 repeat' split
 all_goals simp
def bI_ (r : RespR) (w : World) (e : Ending) (w' : World) : Prop := ∃ vi vn, e = .returned (.agg (respC (bi_ r) vi vn).toArray) /\ RespOk w' w'.heap.size (bi_ r) vi vn /\ Bw w w'
theorem cz_ (w : World) (B : Nat) : lE_ w B (.slice none 0 0) [] := ⟨by simp, none, 0, rfl, fun i x h => by simp at h⟩
theorem cH_ (w : World) (B : Nat) : SlV (Value.int .u64) w B (.slice none 0 0) [] := ⟨by simp, none, 0, rfl, fun i x h => by simp at h⟩
theorem only8_e (op er : Int) (items : List ItemR) (ver count : Int) (nums : List Int) (hne : er ≠ 0) (vi vn : Value) (w : World) (h : RespOk w w.heap.size ⟨op, er, items, ver, count, nums⟩ vi vn) :
  Calls Tryz.prog 172 #[.agg (respC ⟨op, er, items, ver, count, nums⟩ vi vn).toArray] w (bI_ ⟨op, er, items, ver, count, nums⟩ w) := by
 have hon : bi_ ⟨op, er, items, ver, count, nums⟩ = ⟨op, er, [], 0, 0, []⟩ := by unfold bi_ ap_; rw [if_pos hne]
 obtain ⟨⟨b1, Ai, ci, hvi, b2⟩, b3, An, cn, hvn, b4⟩ := id h
 obtain ⟨ni, hni⟩ := eY items.length
 obtain ⟨nn, hnn⟩ := eY nums.length
 simp only at hvi hvn
 rw [hni] at hvi
 rw [hnn] at hvn
 subst hvi
 subst hvn
 obtain ⟨HH, Ab⟩ := kq2 h hon
 clear h hon b1 b2 b3 b4 hni hnn
 simp only [respC] at HH ⊢
 have hS0 := RowL.new w 40 [.int .i64 op, .int .i64 er, .slice Ai ni ci, .int .u64 ver, .int .i64 count, .slice An nn cn]
 have hD0 := RowL.new (w.alloc (.cells #[.int .i64 op, .int .i64 er, .slice Ai ni ci, .int .u64 ver, .int .i64 count, .slice An nn cn] 40)) 40 (respC (ap_ 0 0) (.slice none 0 0) (.slice none 0 0))
 have hO0 := RowL.new ((w.alloc (.cells #[.int .i64 op, .int .i64 er, .slice Ai ni ci, .int .u64 ver, .int .i64 count, .slice An nn cn] 40)).alloc (.cells (respC (ap_ 0 0) (.slice none 0 0) (.slice none 0 0)).toArray 40)) 40 [.int .i64 op, .int .i64 er, .slice none 0 0, .int .u64 0, .int .i64 0, .slice none 0 0]
 have hb0 := dS_ w (.cells #[.int .i64 op, .int .i64 er, .slice Ai ni ci, .int .u64 ver, .int .i64 count, .slice An nn cn] 40) (.cells (respC (ap_ 0 0) (.slice none 0 0) (.slice none 0 0)).toArray 40) (.cells [.int .i64 op, .int .i64 er, .slice none 0 0, .int .u64 0, .int .i64 0, .slice none 0 0].toArray 40)
 have hS1 := (hS0.alloc (.cells (respC (ap_ 0 0) (.slice none 0 0) (.slice none 0 0)).toArray 40)).alloc (.cells [.int .i64 op, .int .i64 er, .slice none 0 0, .int .u64 0, .int .i64 0, .slice none 0 0].toArray 40)
 have hD1 := hD0.alloc (.cells [.int .i64 op, .int .i64 er, .slice none 0 0, .int .u64 0, .int .i64 0, .slice none 0 0].toArray 40)
 simp only [bF_] at hD1 hO0
 obtain ⟨W1, hW1⟩ := eX (((w.alloc (.cells #[.int .i64 op, .int .i64 er, .slice Ai ni ci, .int .u64 ver, .int .i64 count, .slice An nn cn] 40)).alloc (.cells (respC (ap_ 0 0) (.slice none 0 0) (.slice none 0 0)).toArray 40)).alloc (.cells [.int .i64 op, .int .i64 er, .slice none 0 0, .int .u64 0, .int .i64 0, .slice none 0 0].toArray 40))
 rw [<- hW1] at hO0 hb0 hS1 hD1
 obtain ⟨Ae, Aa, Ad, Af⟩ := kq4 hD1 hb0 hO0 hS1
 have e0 : W1.cell? ⟨w.heap.size, 0, none⟩ = some (.int .i64 op) := hS1.cell rfl
 have e1 : W1.cell? ⟨w.heap.size, 1, none⟩ = some (.int .i64 er) := hS1.cell rfl
 simp only [respC, ap_] at hW1
 clear hS0 hD0 hO0 hb0 hS1 hD1
 have hg : (er != 0) = true := by simpa using hne
 go_enter Tryz.func172, Tryz.ntmps172
 go_upto_region 3 with (fail)
 rw [<- hW1]
 clear hW1
 have hK : Kept [w.heap.size + 1 + 1] W1 W1 := Kept.refl _ _
 have hO := Ad.o
 obtain ⟨W9, rfl⟩ := eX W1
 obtain ⟨HO, Ac, HK⟩ := kq3 hO.cells (Ae.o.kept hK (by simp)) hK
 have HT := kp (Ac.o.there (o := 0) (n := 6) (by simp [respC]))
 clear hO hK e0 e1
 go_wp2_with (first
  | ((with_reducible refine wpList_load_agg (o := ⟨some 12, _, _, _, _, _⟩) rfl 40 _ rfl ⟨w.heap.size + 1 + 1, 0, none⟩ ?_ _ _ HO.o Tryz.underlying40 rfl ?_ ?_); (· rfl); (· kernel_rfl))
  | ((with_reducible refine ab_ (op := ⟨none, _, _, _, _, _⟩) rfl 40 _ _ rfl (w.heap.size + 1) 0 [.int .i64 op, .int .i64 er, .slice none 0 0, .int .u64 0, .int .i64 0, .slice none 0 0].toArray ?_ ?_ ?_ ?_ ?_ ?_); (· rfl); (· rfl); (· exact HT.o); (· kernel_rfl); (· simp [Value.oneCell']); intro w9 hw9))
 have hD9 := aC_ Ac.o [.int .i64 op, .int .i64 er, .slice none 0 0, .int .u64 0, .int .i64 0, .slice none 0 0] rfl
 have hc9 := av_ hD9 [.int .i64 op, .int .i64 er, .slice none 0 0, .int .u64 0, .int .i64 0, .slice none 0 0] rfl fun i hi => rfl
 have hk9 : Kept [w.heap.size + 1] W9 (W9.setCells (w.heap.size + 1) 0 [.int .i64 op, .int .i64 er, .slice none 0 0, .int .u64 0, .int .i64 0, .slice none 0 0]) := am_ (by simp) _ _ _ (Kept.refl _ _)
 have hbel : Bw w (W9.setCells (w.heap.size + 1) 0 [.int .i64 op, .int .i64 er, .slice none 0 0, .int .u64 0, .int .i64 0, .slice none 0 0]) := Aa.o.trans ((HK.o.below Aa.o.size (by simp; omega)).trans (hk9.below (lT Aa.o.size HK.o.size) (by simp)))
 refine bodyPost_ret (aE_ (p := 2) (ty := 40) rfl _ _ ⟨w.heap.size + 1, 0, none⟩ _ rfl (af_ _ _ _ _ _ hc9 Tryz.underlying40 rfl (by kernel_rfl))) rfl ⟨(.slice none 0 0), (.slice none 0 0), ?_, ?_, hbel⟩
 ·rw [Ab.o]
  rfl
 rw [Ab.o]
 have hq := (HH.o.below hbel (lR _)).mono hbel.size
 exact ⟨cz_ _ _, cH_ _ _⟩
theorem only8_z (op : Int) (items : List ItemR) (ver count : Int) (nums : List Int) (vi vn : Value) (w : World) (h : RespOk w w.heap.size ⟨op, 0, items, ver, count, nums⟩ vi vn) :
  Calls Tryz.prog 172 #[.agg (respC ⟨op, 0, items, ver, count, nums⟩ vi vn).toArray] w (bI_ ⟨op, 0, items, ver, count, nums⟩ w) := by
 obtain ⟨⟨b1, Ai, ci, hvi, b2⟩, b3, An, cn, hvn, b4⟩ := id h
 obtain ⟨ni, hni⟩ := eY items.length
 obtain ⟨nn, hnn⟩ := eY nums.length
 simp only at hvi hvn
 rw [hni] at hvi
 rw [hnn] at hvn
 subst hvi
 subst hvn
 have HH := kp h
 clear h b1 b2 b3 b4 hni hnn
 simp only [respC] at HH ⊢
 have hS0 := RowL.new w 40 [.int .i64 op, .int .i64 0, .slice Ai ni ci, .int .u64 ver, .int .i64 count, .slice An nn cn]
 have hD0 := RowL.new (w.alloc (.cells #[.int .i64 op, .int .i64 0, .slice Ai ni ci, .int .u64 ver, .int .i64 count, .slice An nn cn] 40)) 40 (respC (ap_ 0 0) (.slice none 0 0) (.slice none 0 0))
 have hO0 := RowL.new ((w.alloc (.cells #[.int .i64 op, .int .i64 0, .slice Ai ni ci, .int .u64 ver, .int .i64 count, .slice An nn cn] 40)).alloc (.cells (respC (ap_ 0 0) (.slice none 0 0) (.slice none 0 0)).toArray 40)) 40 [.int .i64 op, .int .i64 0, .slice none 0 0, .int .u64 0, .int .i64 0, .slice none 0 0]
 have hb0 := dS_ w (.cells #[.int .i64 op, .int .i64 0, .slice Ai ni ci, .int .u64 ver, .int .i64 count, .slice An nn cn] 40) (.cells (respC (ap_ 0 0) (.slice none 0 0) (.slice none 0 0)).toArray 40) (.cells [.int .i64 op, .int .i64 0, .slice none 0 0, .int .u64 0, .int .i64 0, .slice none 0 0].toArray 40)
 have hS1 := (hS0.alloc (.cells (respC (ap_ 0 0) (.slice none 0 0) (.slice none 0 0)).toArray 40)).alloc (.cells [.int .i64 op, .int .i64 0, .slice none 0 0, .int .u64 0, .int .i64 0, .slice none 0 0].toArray 40)
 have hD1 := hD0.alloc (.cells [.int .i64 op, .int .i64 0, .slice none 0 0, .int .u64 0, .int .i64 0, .slice none 0 0].toArray 40)
 simp only [bF_] at hD1 hO0
 obtain ⟨W1, hW1⟩ := eX (((w.alloc (.cells #[.int .i64 op, .int .i64 0, .slice Ai ni ci, .int .u64 ver, .int .i64 count, .slice An nn cn] 40)).alloc (.cells (respC (ap_ 0 0) (.slice none 0 0) (.slice none 0 0)).toArray 40)).alloc (.cells [.int .i64 op, .int .i64 0, .slice none 0 0, .int .u64 0, .int .i64 0, .slice none 0 0].toArray 40))
 rw [<- hW1] at hO0 hb0 hS1 hD1
 obtain ⟨Aj, Af, Aa, Ad⟩ := kq4 hD1 hb0 hO0 hS1
 have e0 : W1.cell? ⟨w.heap.size, 0, none⟩ = some (.int .i64 op) := hS1.cell rfl
 have e1 : W1.cell? ⟨w.heap.size, 1, none⟩ = some (.int .i64 0) := hS1.cell rfl
 simp only [respC, ap_] at hW1
 clear hS0 hD0 hO0 hb0 hS1 hD1
 go_enter Tryz.func172, Tryz.ntmps172
 go_wp2_with fail
 rw [<- hW1]
 clear hW1
 have HN := kp (iN_ op W1)
 go_wp2_with fail
 refine HN.o.mono ?_
 rintro e w2 ⟨rfl, rfl⟩
 obtain ⟨W1, rfl⟩ := eX w2
 rcases kJ_ op with hz | hz | hz | hz | hz
 focus
  rw [hz]
  have hon : bi_ ⟨op, 0, items, ver, count, nums⟩ = ⟨op, 0, [], ver, count, []⟩ := by simp [bi_, hz]
  have s0 : W1.cell? ⟨w.heap.size, 3, none⟩ = some (.int .u64 ver) := Ad.o.cell rfl
  have s1 : W1.cell? ⟨w.heap.size, 4, none⟩ = some (.int .i64 count) := Ad.o.cell rfl
  have t0 : (W1).cell? ⟨w.heap.size + 1 + 1, 3, none⟩ = some (.int .u64 0) := (Aa.o).cell rfl
  have f0 : (W1).frozen? ⟨w.heap.size + 1 + 1, 3, none⟩ = false := (Aa.o).frozen 3
  have k0 : Kept [w.heap.size + 1 + 1] W1 ((W1).setCell ⟨w.heap.size + 1 + 1, 3, none⟩ (.int .u64 ver)) := ((Kept.refl [w.heap.size + 1 + 1] W1)).setCell (by simp) _
  have s0b : ((W1).setCell ⟨w.heap.size + 1 + 1, 3, none⟩ (.int .u64 ver)).cell? ⟨w.heap.size, 4, none⟩ = some (.int .i64 count) := (Ad.o.kept k0 (by simp; omega)).cell rfl
  have t1 : ((W1).setCell ⟨w.heap.size + 1 + 1, 3, none⟩ (.int .u64 ver)).cell? ⟨w.heap.size + 1 + 1, 4, none⟩ = some (.int .i64 0) := ((Aa.o).set 3 (.int .u64 ver)).cell rfl
  have f1 : ((W1).setCell ⟨w.heap.size + 1 + 1, 3, none⟩ (.int .u64 ver)).frozen? ⟨w.heap.size + 1 + 1, 4, none⟩ = false := ((Aa.o).set 3 (.int .u64 ver)).frozen 4
  have k1 : Kept [w.heap.size + 1 + 1] W1 (((W1).setCell ⟨w.heap.size + 1 + 1, 3, none⟩ (.int .u64 ver)).setCell ⟨w.heap.size + 1 + 1, 4, none⟩ (.int .i64 count)) := (k0).setCell (by simp) _
  have hO : RowL (((W1).setCell ⟨w.heap.size + 1 + 1, 3, none⟩ (.int .u64 ver)).setCell ⟨w.heap.size + 1 + 1, 4, none⟩ (.int .i64 count)) (w.heap.size + 1 + 1) 40 [.int .i64 op, .int .i64 0, .slice none 0 0, .int .u64 ver, .int .i64 count, .slice none 0 0] := ((Aa.o).set 3 (.int .u64 ver)).set 4 (.int .i64 count)
  have hK : Kept [w.heap.size + 1 + 1] W1 (((W1).setCell ⟨w.heap.size + 1 + 1, 3, none⟩ (.int .u64 ver)).setCell ⟨w.heap.size + 1 + 1, 4, none⟩ (.int .i64 count)) := k1
  obtain ⟨Ab, Ac⟩ := kq2 hO hK
  clear hO hK k0 k1
  go_upto_region 15 with (fail)
  have hO := Ab.o
  have hK := Ac.o
  obtain ⟨W9, hW9⟩ := eY (((W1).setCell ⟨w.heap.size + 1 + 1, 3, none⟩ (.int .u64 ver)).setCell ⟨w.heap.size + 1 + 1, 4, none⟩ (.int .i64 count))
  rw [hW9] at hO hK ⊢
  clear hW9 Ab Ac t0 f0 s0 t1 f1 s1 s0b
  have HF := kp (show ∀ W, Bw w W -> bI_ ⟨op, 0, items, ver, count, nums⟩ w (.returned (.agg ([.int .i64 op, .int .i64 0, .slice none 0 0, .int .u64 ver, .int .i64 count, .slice none 0 0] : List Value).toArray)) W from fun W hbel => ⟨.slice none 0 0, .slice none 0 0, by rw [hon]; rfl, by (rw [hon]; have hq := (HH.o.below hbel (lR _)).mono hbel.size; exact ⟨cz_ _ _, cH_ _ _⟩), hbel⟩)
  have h1 : ([.int .i64 op, .int .i64 0, .slice none 0 0, .int .u64 ver, .int .i64 count, .slice none 0 0] : List Value).toArray.all (·.oneCell') = true := by simp [Value.oneCell']
  have h2 : ([.int .i64 op, .int .i64 0, .slice none 0 0, .int .u64 ver, .int .i64 count, .slice none 0 0] : List Value).length = 6 := rfl
  obtain ⟨q, hq⟩ := eY ([.int .i64 op, .int .i64 0, .slice none 0 0, .int .u64 ver, .int .i64 count, .slice none 0 0] : List Value)
 rotate_left 1
 focus
  rw [hz]
  have hon : bi_ ⟨op, 0, items, ver, count, nums⟩ = ⟨op, 0, items, 0, 0, []⟩ := by simp [bi_, hz]
  have s0 : W1.cell? ⟨w.heap.size, 2, none⟩ = some (.slice Ai ni ci) := Ad.o.cell rfl
  have t0 : (W1).cell? ⟨w.heap.size + 1 + 1, 2, none⟩ = some (.slice none 0 0) := (Aa.o).cell rfl
  have f0 : (W1).frozen? ⟨w.heap.size + 1 + 1, 2, none⟩ = false := (Aa.o).frozen 2
  have k0 : Kept [w.heap.size + 1 + 1] W1 ((W1).setCell ⟨w.heap.size + 1 + 1, 2, none⟩ (.slice Ai ni ci)) := ((Kept.refl [w.heap.size + 1 + 1] W1)).setCell (by simp) _
  have hO : RowL ((W1).setCell ⟨w.heap.size + 1 + 1, 2, none⟩ (.slice Ai ni ci)) (w.heap.size + 1 + 1) 40 [.int .i64 op, .int .i64 0, .slice Ai ni ci, .int .u64 0, .int .i64 0, .slice none 0 0] := (Aa.o).set 2 (.slice Ai ni ci)
  have hK : Kept [w.heap.size + 1 + 1] W1 ((W1).setCell ⟨w.heap.size + 1 + 1, 2, none⟩ (.slice Ai ni ci)) := k0
  obtain ⟨Ab, Ac⟩ := kq2 hO hK
  clear hO hK k0
  go_upto_region 15 with (fail)
  have hO := Ab.o
  have hK := Ac.o
  obtain ⟨W9, hW9⟩ := eY ((W1).setCell ⟨w.heap.size + 1 + 1, 2, none⟩ (.slice Ai ni ci))
  rw [hW9] at hO hK ⊢
  clear hW9 Ab Ac t0 f0 s0
  have HF := kp (show ∀ W, Bw w W -> bI_ ⟨op, 0, items, ver, count, nums⟩ w (.returned (.agg ([.int .i64 op, .int .i64 0, .slice Ai ni ci, .int .u64 0, .int .i64 0, .slice none 0 0] : List Value).toArray)) W from fun W hbel => ⟨.slice Ai ni ci, .slice none 0 0, by rw [hon]; rfl, by (rw [hon]; have hq := (HH.o.below hbel (lR _)).mono hbel.size; exact ⟨hq.1, cH_ _ _⟩), hbel⟩)
  have h1 : ([.int .i64 op, .int .i64 0, .slice Ai ni ci, .int .u64 0, .int .i64 0, .slice none 0 0] : List Value).toArray.all (·.oneCell') = true := by simp [Value.oneCell']
  have h2 : ([.int .i64 op, .int .i64 0, .slice Ai ni ci, .int .u64 0, .int .i64 0, .slice none 0 0] : List Value).length = 6 := rfl
  obtain ⟨q, hq⟩ := eY ([.int .i64 op, .int .i64 0, .slice Ai ni ci, .int .u64 0, .int .i64 0, .slice none 0 0] : List Value)
 rotate_left 1
 focus
  rw [hz]
  have hon : bi_ ⟨op, 0, items, ver, count, nums⟩ = ⟨op, 0, items, 0, 0, []⟩ := by simp [bi_, hz]
  have s0 : W1.cell? ⟨w.heap.size, 2, none⟩ = some (.slice Ai ni ci) := Ad.o.cell rfl
  have t0 : (W1).cell? ⟨w.heap.size + 1 + 1, 2, none⟩ = some (.slice none 0 0) := (Aa.o).cell rfl
  have f0 : (W1).frozen? ⟨w.heap.size + 1 + 1, 2, none⟩ = false := (Aa.o).frozen 2
  have k0 : Kept [w.heap.size + 1 + 1] W1 ((W1).setCell ⟨w.heap.size + 1 + 1, 2, none⟩ (.slice Ai ni ci)) := ((Kept.refl [w.heap.size + 1 + 1] W1)).setCell (by simp) _
  have hO : RowL ((W1).setCell ⟨w.heap.size + 1 + 1, 2, none⟩ (.slice Ai ni ci)) (w.heap.size + 1 + 1) 40 [.int .i64 op, .int .i64 0, .slice Ai ni ci, .int .u64 0, .int .i64 0, .slice none 0 0] := (Aa.o).set 2 (.slice Ai ni ci)
  have hK : Kept [w.heap.size + 1 + 1] W1 ((W1).setCell ⟨w.heap.size + 1 + 1, 2, none⟩ (.slice Ai ni ci)) := k0
  obtain ⟨Ab, Ac⟩ := kq2 hO hK
  clear hO hK k0
  go_upto_region 15 with (fail)
  have hO := Ab.o
  have hK := Ac.o
  obtain ⟨W9, hW9⟩ := eY ((W1).setCell ⟨w.heap.size + 1 + 1, 2, none⟩ (.slice Ai ni ci))
  rw [hW9] at hO hK ⊢
  clear hW9 Ab Ac t0 f0 s0
  have HF := kp (show ∀ W, Bw w W -> bI_ ⟨op, 0, items, ver, count, nums⟩ w (.returned (.agg ([.int .i64 op, .int .i64 0, .slice Ai ni ci, .int .u64 0, .int .i64 0, .slice none 0 0] : List Value).toArray)) W from fun W hbel => ⟨.slice Ai ni ci, .slice none 0 0, by rw [hon]; rfl, by (rw [hon]; have hq := (HH.o.below hbel (lR _)).mono hbel.size; exact ⟨hq.1, cH_ _ _⟩), hbel⟩)
  have h1 : ([.int .i64 op, .int .i64 0, .slice Ai ni ci, .int .u64 0, .int .i64 0, .slice none 0 0] : List Value).toArray.all (·.oneCell') = true := by simp [Value.oneCell']
  have h2 : ([.int .i64 op, .int .i64 0, .slice Ai ni ci, .int .u64 0, .int .i64 0, .slice none 0 0] : List Value).length = 6 := rfl
  obtain ⟨q, hq⟩ := eY ([.int .i64 op, .int .i64 0, .slice Ai ni ci, .int .u64 0, .int .i64 0, .slice none 0 0] : List Value)
 rotate_left 1
 focus
  rw [hz]
  have hon : bi_ ⟨op, 0, items, ver, count, nums⟩ = ⟨op, 0, [], 0, 0, nums⟩ := by simp [bi_, hz]
  have s0 : W1.cell? ⟨w.heap.size, 5, none⟩ = some (.slice An nn cn) := Ad.o.cell rfl
  have t0 : (W1).cell? ⟨w.heap.size + 1 + 1, 5, none⟩ = some (.slice none 0 0) := (Aa.o).cell rfl
  have f0 : (W1).frozen? ⟨w.heap.size + 1 + 1, 5, none⟩ = false := (Aa.o).frozen 5
  have k0 : Kept [w.heap.size + 1 + 1] W1 ((W1).setCell ⟨w.heap.size + 1 + 1, 5, none⟩ (.slice An nn cn)) := ((Kept.refl [w.heap.size + 1 + 1] W1)).setCell (by simp) _
  have hO : RowL ((W1).setCell ⟨w.heap.size + 1 + 1, 5, none⟩ (.slice An nn cn)) (w.heap.size + 1 + 1) 40 [.int .i64 op, .int .i64 0, .slice none 0 0, .int .u64 0, .int .i64 0, .slice An nn cn] := (Aa.o).set 5 (.slice An nn cn)
  have hK : Kept [w.heap.size + 1 + 1] W1 ((W1).setCell ⟨w.heap.size + 1 + 1, 5, none⟩ (.slice An nn cn)) := k0
  obtain ⟨Ab, Ac⟩ := kq2 hO hK
  clear hO hK k0
  go_upto_region 15 with (fail)
  have hO := Ab.o
  have hK := Ac.o
  obtain ⟨W9, hW9⟩ := eY ((W1).setCell ⟨w.heap.size + 1 + 1, 5, none⟩ (.slice An nn cn))
  rw [hW9] at hO hK ⊢
  clear hW9 Ab Ac t0 f0 s0
  have HF := kp (show ∀ W, Bw w W -> bI_ ⟨op, 0, items, ver, count, nums⟩ w (.returned (.agg ([.int .i64 op, .int .i64 0, .slice none 0 0, .int .u64 0, .int .i64 0, .slice An nn cn] : List Value).toArray)) W from fun W hbel => ⟨.slice none 0 0, .slice An nn cn, by rw [hon]; rfl, by (rw [hon]; have hq := (HH.o.below hbel (lR _)).mono hbel.size; exact ⟨cz_ _ _, hq.2⟩), hbel⟩)
  have h1 : ([.int .i64 op, .int .i64 0, .slice none 0 0, .int .u64 0, .int .i64 0, .slice An nn cn] : List Value).toArray.all (·.oneCell') = true := by simp [Value.oneCell']
  have h2 : ([.int .i64 op, .int .i64 0, .slice none 0 0, .int .u64 0, .int .i64 0, .slice An nn cn] : List Value).length = 6 := rfl
  obtain ⟨q, hq⟩ := eY ([.int .i64 op, .int .i64 0, .slice none 0 0, .int .u64 0, .int .i64 0, .slice An nn cn] : List Value)
 rotate_left 1
 focus
  rw [hz]
  have hon : bi_ ⟨op, 0, items, ver, count, nums⟩ = ⟨op, 0, [], 0, count, []⟩ := by simp [bi_, hz]
  have s0 : W1.cell? ⟨w.heap.size, 4, none⟩ = some (.int .i64 count) := Ad.o.cell rfl
  have t0 : (W1).cell? ⟨w.heap.size + 1 + 1, 4, none⟩ = some (.int .i64 0) := (Aa.o).cell rfl
  have f0 : (W1).frozen? ⟨w.heap.size + 1 + 1, 4, none⟩ = false := (Aa.o).frozen 4
  have k0 : Kept [w.heap.size + 1 + 1] W1 ((W1).setCell ⟨w.heap.size + 1 + 1, 4, none⟩ (.int .i64 count)) := ((Kept.refl [w.heap.size + 1 + 1] W1)).setCell (by simp) _
  have hO : RowL ((W1).setCell ⟨w.heap.size + 1 + 1, 4, none⟩ (.int .i64 count)) (w.heap.size + 1 + 1) 40 [.int .i64 op, .int .i64 0, .slice none 0 0, .int .u64 0, .int .i64 count, .slice none 0 0] := (Aa.o).set 4 (.int .i64 count)
  have hK : Kept [w.heap.size + 1 + 1] W1 ((W1).setCell ⟨w.heap.size + 1 + 1, 4, none⟩ (.int .i64 count)) := k0
  obtain ⟨Ab, Ac⟩ := kq2 hO hK
  clear hO hK k0
  go_upto_region 15 with (fail)
  have hO := Ab.o
  have hK := Ac.o
  obtain ⟨W9, hW9⟩ := eY ((W1).setCell ⟨w.heap.size + 1 + 1, 4, none⟩ (.int .i64 count))
  rw [hW9] at hO hK ⊢
  clear hW9 Ab Ac t0 f0 s0
  have HF := kp (show ∀ W, Bw w W -> bI_ ⟨op, 0, items, ver, count, nums⟩ w (.returned (.agg ([.int .i64 op, .int .i64 0, .slice none 0 0, .int .u64 0, .int .i64 count, .slice none 0 0] : List Value).toArray)) W from fun W hbel => ⟨.slice none 0 0, .slice none 0 0, by rw [hon]; rfl, by (rw [hon]; have hq := (HH.o.below hbel (lR _)).mono hbel.size; exact ⟨cz_ _ _, cH_ _ _⟩), hbel⟩)
  have h1 : ([.int .i64 op, .int .i64 0, .slice none 0 0, .int .u64 0, .int .i64 count, .slice none 0 0] : List Value).toArray.all (·.oneCell') = true := by simp [Value.oneCell']
  have h2 : ([.int .i64 op, .int .i64 0, .slice none 0 0, .int .u64 0, .int .i64 count, .slice none 0 0] : List Value).length = 6 := rfl
  obtain ⟨q, hq⟩ := eY ([.int .i64 op, .int .i64 0, .slice none 0 0, .int .u64 0, .int .i64 count, .slice none 0 0] : List Value)
 rotate_left 1
 rotate_right 5
 iterate 5
  ·rw [hq] at hO HF h1 h2
   clear hz hon hq
   obtain ⟨HO, Ah, HK⟩ := kq3 hO.cells (Aj.o.kept hK (by simp)) hK
   obtain ⟨HT, H1, H2, Ag, Ae⟩ := kq5 (show W9.there (w.heap.size + 1) 0 q.toArray.size by (have h : q.toArray.size = 6 := h2; rw [h]; exact Ah.o.there (o := 0) (n := 6) (by simp [respC]))) h1 h2 (show (Tryz.prog.info? 40).map (·.size) = some q.length by rw [h2]; kernel_rfl) (show (Tryz.prog.info? 40).map (·.size) = some q.toArray.size by rw [zS, h2]; kernel_rfl)
   clear hO hK e0 e1 h1 h2
   go_wp2_with (first
    | ((with_reducible refine wpList_load_agg (o := ⟨some 40, _, _, _, _, _⟩) rfl 40 _ rfl ⟨w.heap.size + 1 + 1, 0, none⟩ ?_ q _ HO.o Tryz.underlying40 rfl Ag.o ?_); (· rfl))
    | ((with_reducible refine ab_ (op := ⟨none, _, _, _, _, _⟩) rfl 40 _ _ rfl (w.heap.size + 1) 0 q.toArray ?_ ?_ ?_ Ae.o H1.o ?_); (· rfl); (· rfl); (· exact HT.o); intro w9 hw9))
   have hD9 := aC_ Ah.o q (by rw [H2.o]; rfl)
   have hc9 := av_ hD9 q (by rw [H2.o]; rfl) fun i hi => rfl
   have hk9 : Kept [w.heap.size + 1] W9 (W9.setCells (w.heap.size + 1) 0 q) := am_ (by simp) _ _ _ (Kept.refl _ _)
   have hbel : Bw w (W9.setCells (w.heap.size + 1) 0 q) := Af.o.trans ((HK.o.below Af.o.size (by simp; omega)).trans (hk9.below (lT Af.o.size HK.o.size) (by simp)))
   refine bodyPost_ret (aE_ (p := 2) (ty := 40) rfl _ _ ⟨w.heap.size + 1, 0, none⟩ _ rfl (af_ _ _ _ _ _ hc9 Tryz.underlying40 rfl Ag.o)) rfl ?_
   exact HF.o _ hbel
theorem only172 (r : RespR) (vi vn : Value) (w : World) (h : RespOk w w.heap.size r vi vn) : Calls Tryz.prog 172 #[.agg (respC r vi vn).toArray] w (bI_ r w) := by
 obtain ⟨op, er, items, ver, count, nums⟩ := r
 by_cases he : er ≠ 0
 ·exact only8_e op er items ver count nums he vi vn w h
 obtain rfl : er = 0 := by omega
 exact only8_z op items ver count nums vi vn w h


end Go.Proofs.YtnjhpgmbfblgaaaGreat.Ord
