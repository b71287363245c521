/- Walks of the reference's Needs and only (responses). -/
import Derived.Test.YtnjhpgmbfblgaaaGreatN11
namespace Go.Proofs.YtnjhpgmbfblgaaaGreat.Ord
set_option maxRecDepth 100000
set_option maxHeartbeats 16000000
open Go.RowKit
set_option linter.unusedVariables false
set_option linter.unusedSimpArgs false
/-- the letter that says what a response needs -/
def nR (op : Int) : Int := if op = 1 ∨ op = 2 ∨ op = 3 then 119 else if op = 4 then 105 else if op = 5 then 109 else if op = 15 then 110 else 99
theorem needs173 (op : Int) (w : World) : Calls Tryz.prog 173 #[.int .i64 op] w fun e w' => e = .returned (.int .u8 (nR op)) /\ w' = w := by
 have key : ∀ z, nR op = z -> Calls Tryz.prog 173 #[.int .i64 op] w fun e w' => e = .returned (.int .u8 z) /\ w' = w := by
  intro z hz
  by_cases h1 : op = 1 ∨ op = 2 ∨ op = 3
  ·rcases h1 with rfl | rfl | rfl
   all_goals
    obtain rfl : 119 = z := by rw [<- hz]; rfl
    go_enter Tryz.func173, Tryz.ntmps173
    go_wp2_with fail
    go_ret
    exact ⟨rfl, rfl⟩
  by_cases h2 : op = 4
  ·subst h2
   obtain rfl : 105 = z := by rw [<- hz]; rfl
   go_enter Tryz.func173, Tryz.ntmps173
   go_wp2_with fail
   go_ret
   exact ⟨rfl, rfl⟩
  by_cases h3 : op = 5
  ·subst h3
   obtain rfl : 109 = z := by rw [<- hz]; rfl
   go_enter Tryz.func173, Tryz.ntmps173
   go_wp2_with fail
   go_ret
   exact ⟨rfl, rfl⟩
  by_cases h4 : op = 15
  ·subst h4
   obtain rfl : 110 = z := by rw [<- hz]; rfl
   go_enter Tryz.func173, Tryz.ntmps173
   go_wp2_with fail
   go_ret
   exact ⟨rfl, rfl⟩
  obtain rfl : 99 = z := by rw [<- hz]; unfold nR; rw [if_neg h1, if_neg h2, if_neg h3, if_neg h4]
  have e1 : (op == 1) = false := by simp; omega
  have e2 : (op == 2) = false := by simp; omega
  have e3 : (op == 3) = false := by simp; omega
  have e4 : (op == 4) = false := by simp; omega
  have e5 : (op == 5) = false := by simp; omega
  have e6 : (op == 15) = false := by simp; omega
  clear h1 h2 h3 h4 hz
  go_enter Tryz.func173, Tryz.ntmps173
  go_wp2_with fail
  go_ret
  exact ⟨rfl, rfl⟩
 exact key _ rfl
/-- a response with just the parts that it needs, its items as they are -/
def only8 (r : RespR) : RespR :=
 if r.err ≠ 0 then resp00 r.op r.err
 else if nR r.op = 119 then ⟨r.op, r.err, [], r.ver, r.count, []⟩
 else if nR r.op = 105 ∨ nR r.op = 109 then ⟨r.op, r.err, r.items, 0, 0, []⟩
 else if nR r.op = 110 then ⟨r.op, r.err, [], 0, 0, r.nums⟩
 else ⟨r.op, r.err, [], 0, r.count, []⟩
theorem nR_vals (op : Int) : nR op = 119 ∨ nR op = 105 ∨ nR op = 109 ∨ nR op = 110 ∨ nR op = 99 := by
 unfold nR
 repeat' split
 all_goals simp
def Only8Post (r : RespR) (w : World) (e : Ending) (w' : World) : Prop := ∃ vi vn, e = .returned (.agg (respC (only8 r) vi vn).toArray) /\ RespOk w' w'.heap.size (only8 r) vi vn /\ Below w.heap.size w w'
theorem items_nil (w : World) (B : Nat) : ItemsV w B (.slice none 0 0) [] := ⟨by simp, none, 0, rfl, fun i x h => by simp at h⟩
theorem nums_nil (w : World) (B : Nat) : SlV (Value.int .u64) w B (.slice none 0 0) [] := ⟨by simp, none, 0, rfl, fun i x h => by simp at h⟩
theorem only8_e (op er : Int) (items : List ItemR) (ver count : Int) (nums : List Int) (hne : er ≠ 0) (vi vn : Value) (w : World) (h : RespOk w w.heap.size ⟨op, er, items, ver, count, nums⟩ vi vn) :
  Calls Tryz.prog 172 #[.agg (respC ⟨op, er, items, ver, count, nums⟩ vi vn).toArray] w (Only8Post ⟨op, er, items, ver, count, nums⟩ w) := by
 have hon : only8 ⟨op, er, items, ver, count, nums⟩ = ⟨op, er, [], 0, 0, []⟩ := by unfold only8 resp00; rw [if_pos hne]
 obtain ⟨⟨b1, Ai, ci, hvi, b2⟩, b3, An, cn, hvn, b4⟩ := id h
 obtain ⟨ni, hni⟩ : ∃ n, items.length = n := ⟨_, rfl⟩
 obtain ⟨nn, hnn⟩ : ∃ n, nums.length = n := ⟨_, rfl⟩
 simp only at hvi hvn
 rw [hni] at hvi
 rw [hnn] at hvn
 subst hvi
 subst hvn
 have HH := kp h
 have HON := kp hon
 clear h hon b1 b2 b3 b4 hni hnn
 simp only [respC] at HH ⊢
 have hS0 := RowL.new w 40 [.int .i64 op, .int .i64 er, .slice Ai ni ci, .int .u64 ver, .int .i64 count, .slice An nn cn]
 have hD0 := RowL.new (w.alloc (.cells #[.int .i64 op, .int .i64 er, .slice Ai ni ci, .int .u64 ver, .int .i64 count, .slice An nn cn] 40)) 40 (respC (resp00 0 0) (.slice none 0 0) (.slice none 0 0))
 have hO0 := RowL.new ((w.alloc (.cells #[.int .i64 op, .int .i64 er, .slice Ai ni ci, .int .u64 ver, .int .i64 count, .slice An nn cn] 40)).alloc (.cells (respC (resp00 0 0) (.slice none 0 0) (.slice none 0 0)).toArray 40)) 40 [.int .i64 op, .int .i64 er, .slice none 0 0, .int .u64 0, .int .i64 0, .slice none 0 0]
 have hb0 := below3 w (.cells #[.int .i64 op, .int .i64 er, .slice Ai ni ci, .int .u64 ver, .int .i64 count, .slice An nn cn] 40) (.cells (respC (resp00 0 0) (.slice none 0 0) (.slice none 0 0)).toArray 40) (.cells [.int .i64 op, .int .i64 er, .slice none 0 0, .int .u64 0, .int .i64 0, .slice none 0 0].toArray 40)
 have hS1 := (hS0.alloc (.cells (respC (resp00 0 0) (.slice none 0 0) (.slice none 0 0)).toArray 40)).alloc (.cells [.int .i64 op, .int .i64 er, .slice none 0 0, .int .u64 0, .int .i64 0, .slice none 0 0].toArray 40)
 have hD1 := hD0.alloc (.cells [.int .i64 op, .int .i64 er, .slice none 0 0, .int .u64 0, .int .i64 0, .slice none 0 0].toArray 40)
 simp only [alloc_size1] at hD1 hO0
 obtain ⟨W1, hW1⟩ : ∃ W1, W1 = ((w.alloc (.cells #[.int .i64 op, .int .i64 er, .slice Ai ni ci, .int .u64 ver, .int .i64 count, .slice An nn cn] 40)).alloc (.cells (respC (resp00 0 0) (.slice none 0 0) (.slice none 0 0)).toArray 40)).alloc (.cells [.int .i64 op, .int .i64 er, .slice none 0 0, .int .u64 0, .int .i64 0, .slice none 0 0].toArray 40) := ⟨_, rfl⟩
 rw [<- hW1] at hO0 hb0 hS1 hD1
 have HD1 := kp hD1
 have HB0 := kp hb0
 have HO0 := kp hO0
 have HS1 := kp hS1
 have e0 : W1.cell? ⟨w.heap.size, 0, none⟩ = some (.int .i64 op) := hS1.cell rfl
 have e1 : W1.cell? ⟨w.heap.size, 1, none⟩ = some (.int .i64 er) := hS1.cell rfl
 simp only [respC, resp00] at hW1
 clear hS0 hD0 hO0 hb0 hS1 hD1
 have hg : (er != 0) = true := by simpa using hne
 go_enter Tryz.func172, Tryz.ntmps172
 go_upto_region 3 with (fail)
 rw [<- hW1]
 clear hW1
 have hK : Kept [w.heap.size + 1 + 1] W1 W1 := Kept.refl _ _
 have hO := HO0.out
 obtain ⟨W9, rfl⟩ : ∃ W, W = W1 := ⟨_, rfl⟩
 have HO := kp hO.cells
 have HDR := kp (HD1.out.kept hK (by simp))
 have HK := kp hK
 have HT := kp (HDR.out.there (o := 0) (n := 6) (by simp [respC]))
 clear hO hK e0 e1
 go_wp2_with (first
  | ((with_reducible refine wpList_load_agg (o := ⟨some 12, _, _, _, _, _⟩) rfl 40 _ rfl ⟨w.heap.size + 1 + 1, 0, none⟩ ?_ _ _ HO.out Tryz.underlying40 rfl ?_ ?_); (· rfl); (· kernel_rfl))
  | ((with_reducible refine wpList_store_at2 (op := ⟨none, _, _, _, _, _⟩) rfl 40 _ _ rfl (w.heap.size + 1) 0 [.int .i64 op, .int .i64 er, .slice none 0 0, .int .u64 0, .int .i64 0, .slice none 0 0].toArray ?_ ?_ ?_ ?_ ?_ ?_); (· rfl); (· rfl); (· exact HT.out); (· kernel_rfl); (· simp [Value.oneCell']); intro w9 hw9))
 have hD9 := store_all HDR.out [.int .i64 op, .int .i64 er, .slice none 0 0, .int .u64 0, .int .i64 0, .slice none 0 0] rfl
 have hc9 := row_cells hD9 [.int .i64 op, .int .i64 er, .slice none 0 0, .int .u64 0, .int .i64 0, .slice none 0 0] rfl fun i hi => rfl
 have hk9 : Kept [w.heap.size + 1] W9 (W9.setCells (w.heap.size + 1) 0 [.int .i64 op, .int .i64 er, .slice none 0 0, .int .u64 0, .int .i64 0, .slice none 0 0]) := kept_setCells (by simp) _ _ _ (Kept.refl _ _)
 have hbel : Below w.heap.size w (W9.setCells (w.heap.size + 1) 0 [.int .i64 op, .int .i64 er, .slice none 0 0, .int .u64 0, .int .i64 0, .slice none 0 0]) := HB0.out.trans ((HK.out.below HB0.out.size (by simp; omega)).trans (hk9.below (Nat.le_trans HB0.out.size HK.out.size) (by simp)))
 refine bodyPost_ret (results_cell1 (p := 2) (ty := 40) rfl _ _ ⟨w.heap.size + 1, 0, none⟩ _ rfl (run_loadVar_at _ _ _ _ _ hc9 Tryz.underlying40 rfl (by kernel_rfl))) rfl ⟨(.slice none 0 0), (.slice none 0 0), ?_, ?_, hbel⟩
 ·rw [HON.out]
  rfl
 ·rw [HON.out]
  have hq := (HH.out.below hbel (Nat.le_refl _)).mono hbel.size
  exact ⟨items_nil _ _, nums_nil _ _⟩
theorem only8_z (op : Int) (items : List ItemR) (ver count : Int) (nums : List Int) (vi vn : Value) (w : World) (h : RespOk w w.heap.size ⟨op, 0, items, ver, count, nums⟩ vi vn) :
  Calls Tryz.prog 172 #[.agg (respC ⟨op, 0, items, ver, count, nums⟩ vi vn).toArray] w (Only8Post ⟨op, 0, items, ver, count, nums⟩ w) := by
 obtain ⟨⟨b1, Ai, ci, hvi, b2⟩, b3, An, cn, hvn, b4⟩ := id h
 obtain ⟨ni, hni⟩ : ∃ n, items.length = n := ⟨_, rfl⟩
 obtain ⟨nn, hnn⟩ : ∃ n, nums.length = n := ⟨_, rfl⟩
 simp only at hvi hvn
 rw [hni] at hvi
 rw [hnn] at hvn
 subst hvi
 subst hvn
 have HH := kp h
 clear h b1 b2 b3 b4 hni hnn
 simp only [respC] at HH ⊢
 have hS0 := RowL.new w 40 [.int .i64 op, .int .i64 0, .slice Ai ni ci, .int .u64 ver, .int .i64 count, .slice An nn cn]
 have hD0 := RowL.new (w.alloc (.cells #[.int .i64 op, .int .i64 0, .slice Ai ni ci, .int .u64 ver, .int .i64 count, .slice An nn cn] 40)) 40 (respC (resp00 0 0) (.slice none 0 0) (.slice none 0 0))
 have hO0 := RowL.new ((w.alloc (.cells #[.int .i64 op, .int .i64 0, .slice Ai ni ci, .int .u64 ver, .int .i64 count, .slice An nn cn] 40)).alloc (.cells (respC (resp00 0 0) (.slice none 0 0) (.slice none 0 0)).toArray 40)) 40 [.int .i64 op, .int .i64 0, .slice none 0 0, .int .u64 0, .int .i64 0, .slice none 0 0]
 have hb0 := below3 w (.cells #[.int .i64 op, .int .i64 0, .slice Ai ni ci, .int .u64 ver, .int .i64 count, .slice An nn cn] 40) (.cells (respC (resp00 0 0) (.slice none 0 0) (.slice none 0 0)).toArray 40) (.cells [.int .i64 op, .int .i64 0, .slice none 0 0, .int .u64 0, .int .i64 0, .slice none 0 0].toArray 40)
 have hS1 := (hS0.alloc (.cells (respC (resp00 0 0) (.slice none 0 0) (.slice none 0 0)).toArray 40)).alloc (.cells [.int .i64 op, .int .i64 0, .slice none 0 0, .int .u64 0, .int .i64 0, .slice none 0 0].toArray 40)
 have hD1 := hD0.alloc (.cells [.int .i64 op, .int .i64 0, .slice none 0 0, .int .u64 0, .int .i64 0, .slice none 0 0].toArray 40)
 simp only [alloc_size1] at hD1 hO0
 obtain ⟨W1, hW1⟩ : ∃ W1, W1 = ((w.alloc (.cells #[.int .i64 op, .int .i64 0, .slice Ai ni ci, .int .u64 ver, .int .i64 count, .slice An nn cn] 40)).alloc (.cells (respC (resp00 0 0) (.slice none 0 0) (.slice none 0 0)).toArray 40)).alloc (.cells [.int .i64 op, .int .i64 0, .slice none 0 0, .int .u64 0, .int .i64 0, .slice none 0 0].toArray 40) := ⟨_, rfl⟩
 rw [<- hW1] at hO0 hb0 hS1 hD1
 have HD1 := kp hD1
 have HB0 := kp hb0
 have HO0 := kp hO0
 have HS1 := kp hS1
 have e0 : W1.cell? ⟨w.heap.size, 0, none⟩ = some (.int .i64 op) := hS1.cell rfl
 have e1 : W1.cell? ⟨w.heap.size, 1, none⟩ = some (.int .i64 0) := hS1.cell rfl
 simp only [respC, resp00] at hW1
 clear hS0 hD0 hO0 hb0 hS1 hD1
 go_enter Tryz.func172, Tryz.ntmps172
 go_wp2_with fail
 rw [<- hW1]
 clear hW1
 have HN := kp (needs173 op W1)
 go_wp2_with fail
 refine HN.out.mono ?_
 rintro e w2 ⟨rfl, rfl⟩
 obtain ⟨W1, rfl⟩ : ∃ W, W = w2 := ⟨_, rfl⟩
 rcases nR_vals op with hz | hz | hz | hz | hz
 focus
  rw [hz]
  have hon : only8 ⟨op, 0, items, ver, count, nums⟩ = ⟨op, 0, [], ver, count, []⟩ := by simp [only8, hz]
  have s0 : W1.cell? ⟨w.heap.size, 3, none⟩ = some (.int .u64 ver) := HS1.out.cell rfl
  have s1 : W1.cell? ⟨w.heap.size, 4, none⟩ = some (.int .i64 count) := HS1.out.cell rfl
  have t0 : (W1).cell? ⟨w.heap.size + 1 + 1, 3, none⟩ = some (.int .u64 0) := (HO0.out).cell rfl
  have f0 : (W1).frozen? ⟨w.heap.size + 1 + 1, 3, none⟩ = false := (HO0.out).frozen 3
  have k0 : Kept [w.heap.size + 1 + 1] W1 ((W1).setCell ⟨w.heap.size + 1 + 1, 3, none⟩ (.int .u64 ver)) := ((Kept.refl [w.heap.size + 1 + 1] W1)).setCell (by simp) _
  have s0b : ((W1).setCell ⟨w.heap.size + 1 + 1, 3, none⟩ (.int .u64 ver)).cell? ⟨w.heap.size, 4, none⟩ = some (.int .i64 count) := (HS1.out.kept k0 (by simp; omega)).cell rfl
  have t1 : ((W1).setCell ⟨w.heap.size + 1 + 1, 3, none⟩ (.int .u64 ver)).cell? ⟨w.heap.size + 1 + 1, 4, none⟩ = some (.int .i64 0) := ((HO0.out).set 3 (.int .u64 ver)).cell rfl
  have f1 : ((W1).setCell ⟨w.heap.size + 1 + 1, 3, none⟩ (.int .u64 ver)).frozen? ⟨w.heap.size + 1 + 1, 4, none⟩ = false := ((HO0.out).set 3 (.int .u64 ver)).frozen 4
  have k1 : Kept [w.heap.size + 1 + 1] W1 (((W1).setCell ⟨w.heap.size + 1 + 1, 3, none⟩ (.int .u64 ver)).setCell ⟨w.heap.size + 1 + 1, 4, none⟩ (.int .i64 count)) := (k0).setCell (by simp) _
  have hO : RowL (((W1).setCell ⟨w.heap.size + 1 + 1, 3, none⟩ (.int .u64 ver)).setCell ⟨w.heap.size + 1 + 1, 4, none⟩ (.int .i64 count)) (w.heap.size + 1 + 1) 40 [.int .i64 op, .int .i64 0, .slice none 0 0, .int .u64 ver, .int .i64 count, .slice none 0 0] := ((HO0.out).set 3 (.int .u64 ver)).set 4 (.int .i64 count)
  have hK : Kept [w.heap.size + 1 + 1] W1 (((W1).setCell ⟨w.heap.size + 1 + 1, 3, none⟩ (.int .u64 ver)).setCell ⟨w.heap.size + 1 + 1, 4, none⟩ (.int .i64 count)) := k1
  have HO' := kp hO
  have HK' := kp hK
  clear hO hK k0 k1
  go_upto_region 15 with (fail)
  have hO := HO'.out
  have hK := HK'.out
  obtain ⟨W9, hW9⟩ : ∃ W9, ((W1).setCell ⟨w.heap.size + 1 + 1, 3, none⟩ (.int .u64 ver)).setCell ⟨w.heap.size + 1 + 1, 4, none⟩ (.int .i64 count) = W9 := ⟨_, rfl⟩
  rw [hW9] at hO hK ⊢
  clear hW9 HO' HK' t0 f0 s0 t1 f1 s1 s0b
  have HF := kp (show ∀ W, Below w.heap.size w W -> Only8Post ⟨op, 0, items, ver, count, nums⟩ w (.returned (.agg ([.int .i64 op, .int .i64 0, .slice none 0 0, .int .u64 ver, .int .i64 count, .slice none 0 0] : List Value).toArray)) W from fun W hbel => ⟨.slice none 0 0, .slice none 0 0, by rw [hon]; rfl, by (rw [hon]; have hq := (HH.out.below hbel (Nat.le_refl _)).mono hbel.size; exact ⟨items_nil _ _, nums_nil _ _⟩), hbel⟩)
  have h1 : ([.int .i64 op, .int .i64 0, .slice none 0 0, .int .u64 ver, .int .i64 count, .slice none 0 0] : List Value).toArray.all (·.oneCell') = true := by simp [Value.oneCell']
  have h2 : ([.int .i64 op, .int .i64 0, .slice none 0 0, .int .u64 ver, .int .i64 count, .slice none 0 0] : List Value).length = 6 := rfl
  obtain ⟨q, hq⟩ : ∃ q, ([.int .i64 op, .int .i64 0, .slice none 0 0, .int .u64 ver, .int .i64 count, .slice none 0 0] : List Value) = q := ⟨_, rfl⟩
 rotate_left 1
 focus
  rw [hz]
  have hon : only8 ⟨op, 0, items, ver, count, nums⟩ = ⟨op, 0, items, 0, 0, []⟩ := by simp [only8, hz]
  have s0 : W1.cell? ⟨w.heap.size, 2, none⟩ = some (.slice Ai ni ci) := HS1.out.cell rfl
  have t0 : (W1).cell? ⟨w.heap.size + 1 + 1, 2, none⟩ = some (.slice none 0 0) := (HO0.out).cell rfl
  have f0 : (W1).frozen? ⟨w.heap.size + 1 + 1, 2, none⟩ = false := (HO0.out).frozen 2
  have k0 : Kept [w.heap.size + 1 + 1] W1 ((W1).setCell ⟨w.heap.size + 1 + 1, 2, none⟩ (.slice Ai ni ci)) := ((Kept.refl [w.heap.size + 1 + 1] W1)).setCell (by simp) _
  have hO : RowL ((W1).setCell ⟨w.heap.size + 1 + 1, 2, none⟩ (.slice Ai ni ci)) (w.heap.size + 1 + 1) 40 [.int .i64 op, .int .i64 0, .slice Ai ni ci, .int .u64 0, .int .i64 0, .slice none 0 0] := (HO0.out).set 2 (.slice Ai ni ci)
  have hK : Kept [w.heap.size + 1 + 1] W1 ((W1).setCell ⟨w.heap.size + 1 + 1, 2, none⟩ (.slice Ai ni ci)) := k0
  have HO' := kp hO
  have HK' := kp hK
  clear hO hK k0
  go_upto_region 15 with (fail)
  have hO := HO'.out
  have hK := HK'.out
  obtain ⟨W9, hW9⟩ : ∃ W9, (W1).setCell ⟨w.heap.size + 1 + 1, 2, none⟩ (.slice Ai ni ci) = W9 := ⟨_, rfl⟩
  rw [hW9] at hO hK ⊢
  clear hW9 HO' HK' t0 f0 s0
  have HF := kp (show ∀ W, Below w.heap.size w W -> Only8Post ⟨op, 0, items, ver, count, nums⟩ w (.returned (.agg ([.int .i64 op, .int .i64 0, .slice Ai ni ci, .int .u64 0, .int .i64 0, .slice none 0 0] : List Value).toArray)) W from fun W hbel => ⟨.slice Ai ni ci, .slice none 0 0, by rw [hon]; rfl, by (rw [hon]; have hq := (HH.out.below hbel (Nat.le_refl _)).mono hbel.size; exact ⟨hq.1, nums_nil _ _⟩), hbel⟩)
  have h1 : ([.int .i64 op, .int .i64 0, .slice Ai ni ci, .int .u64 0, .int .i64 0, .slice none 0 0] : List Value).toArray.all (·.oneCell') = true := by simp [Value.oneCell']
  have h2 : ([.int .i64 op, .int .i64 0, .slice Ai ni ci, .int .u64 0, .int .i64 0, .slice none 0 0] : List Value).length = 6 := rfl
  obtain ⟨q, hq⟩ : ∃ q, ([.int .i64 op, .int .i64 0, .slice Ai ni ci, .int .u64 0, .int .i64 0, .slice none 0 0] : List Value) = q := ⟨_, rfl⟩
 rotate_left 1
 focus
  rw [hz]
  have hon : only8 ⟨op, 0, items, ver, count, nums⟩ = ⟨op, 0, items, 0, 0, []⟩ := by simp [only8, hz]
  have s0 : W1.cell? ⟨w.heap.size, 2, none⟩ = some (.slice Ai ni ci) := HS1.out.cell rfl
  have t0 : (W1).cell? ⟨w.heap.size + 1 + 1, 2, none⟩ = some (.slice none 0 0) := (HO0.out).cell rfl
  have f0 : (W1).frozen? ⟨w.heap.size + 1 + 1, 2, none⟩ = false := (HO0.out).frozen 2
  have k0 : Kept [w.heap.size + 1 + 1] W1 ((W1).setCell ⟨w.heap.size + 1 + 1, 2, none⟩ (.slice Ai ni ci)) := ((Kept.refl [w.heap.size + 1 + 1] W1)).setCell (by simp) _
  have hO : RowL ((W1).setCell ⟨w.heap.size + 1 + 1, 2, none⟩ (.slice Ai ni ci)) (w.heap.size + 1 + 1) 40 [.int .i64 op, .int .i64 0, .slice Ai ni ci, .int .u64 0, .int .i64 0, .slice none 0 0] := (HO0.out).set 2 (.slice Ai ni ci)
  have hK : Kept [w.heap.size + 1 + 1] W1 ((W1).setCell ⟨w.heap.size + 1 + 1, 2, none⟩ (.slice Ai ni ci)) := k0
  have HO' := kp hO
  have HK' := kp hK
  clear hO hK k0
  go_upto_region 15 with (fail)
  have hO := HO'.out
  have hK := HK'.out
  obtain ⟨W9, hW9⟩ : ∃ W9, (W1).setCell ⟨w.heap.size + 1 + 1, 2, none⟩ (.slice Ai ni ci) = W9 := ⟨_, rfl⟩
  rw [hW9] at hO hK ⊢
  clear hW9 HO' HK' t0 f0 s0
  have HF := kp (show ∀ W, Below w.heap.size w W -> Only8Post ⟨op, 0, items, ver, count, nums⟩ w (.returned (.agg ([.int .i64 op, .int .i64 0, .slice Ai ni ci, .int .u64 0, .int .i64 0, .slice none 0 0] : List Value).toArray)) W from fun W hbel => ⟨.slice Ai ni ci, .slice none 0 0, by rw [hon]; rfl, by (rw [hon]; have hq := (HH.out.below hbel (Nat.le_refl _)).mono hbel.size; exact ⟨hq.1, nums_nil _ _⟩), hbel⟩)
  have h1 : ([.int .i64 op, .int .i64 0, .slice Ai ni ci, .int .u64 0, .int .i64 0, .slice none 0 0] : List Value).toArray.all (·.oneCell') = true := by simp [Value.oneCell']
  have h2 : ([.int .i64 op, .int .i64 0, .slice Ai ni ci, .int .u64 0, .int .i64 0, .slice none 0 0] : List Value).length = 6 := rfl
  obtain ⟨q, hq⟩ : ∃ q, ([.int .i64 op, .int .i64 0, .slice Ai ni ci, .int .u64 0, .int .i64 0, .slice none 0 0] : List Value) = q := ⟨_, rfl⟩
 rotate_left 1
 focus
  rw [hz]
  have hon : only8 ⟨op, 0, items, ver, count, nums⟩ = ⟨op, 0, [], 0, 0, nums⟩ := by simp [only8, hz]
  have s0 : W1.cell? ⟨w.heap.size, 5, none⟩ = some (.slice An nn cn) := HS1.out.cell rfl
  have t0 : (W1).cell? ⟨w.heap.size + 1 + 1, 5, none⟩ = some (.slice none 0 0) := (HO0.out).cell rfl
  have f0 : (W1).frozen? ⟨w.heap.size + 1 + 1, 5, none⟩ = false := (HO0.out).frozen 5
  have k0 : Kept [w.heap.size + 1 + 1] W1 ((W1).setCell ⟨w.heap.size + 1 + 1, 5, none⟩ (.slice An nn cn)) := ((Kept.refl [w.heap.size + 1 + 1] W1)).setCell (by simp) _
  have hO : RowL ((W1).setCell ⟨w.heap.size + 1 + 1, 5, none⟩ (.slice An nn cn)) (w.heap.size + 1 + 1) 40 [.int .i64 op, .int .i64 0, .slice none 0 0, .int .u64 0, .int .i64 0, .slice An nn cn] := (HO0.out).set 5 (.slice An nn cn)
  have hK : Kept [w.heap.size + 1 + 1] W1 ((W1).setCell ⟨w.heap.size + 1 + 1, 5, none⟩ (.slice An nn cn)) := k0
  have HO' := kp hO
  have HK' := kp hK
  clear hO hK k0
  go_upto_region 15 with (fail)
  have hO := HO'.out
  have hK := HK'.out
  obtain ⟨W9, hW9⟩ : ∃ W9, (W1).setCell ⟨w.heap.size + 1 + 1, 5, none⟩ (.slice An nn cn) = W9 := ⟨_, rfl⟩
  rw [hW9] at hO hK ⊢
  clear hW9 HO' HK' t0 f0 s0
  have HF := kp (show ∀ W, Below w.heap.size w W -> Only8Post ⟨op, 0, items, ver, count, nums⟩ w (.returned (.agg ([.int .i64 op, .int .i64 0, .slice none 0 0, .int .u64 0, .int .i64 0, .slice An nn cn] : List Value).toArray)) W from fun W hbel => ⟨.slice none 0 0, .slice An nn cn, by rw [hon]; rfl, by (rw [hon]; have hq := (HH.out.below hbel (Nat.le_refl _)).mono hbel.size; exact ⟨items_nil _ _, hq.2⟩), hbel⟩)
  have h1 : ([.int .i64 op, .int .i64 0, .slice none 0 0, .int .u64 0, .int .i64 0, .slice An nn cn] : List Value).toArray.all (·.oneCell') = true := by simp [Value.oneCell']
  have h2 : ([.int .i64 op, .int .i64 0, .slice none 0 0, .int .u64 0, .int .i64 0, .slice An nn cn] : List Value).length = 6 := rfl
  obtain ⟨q, hq⟩ : ∃ q, ([.int .i64 op, .int .i64 0, .slice none 0 0, .int .u64 0, .int .i64 0, .slice An nn cn] : List Value) = q := ⟨_, rfl⟩
 rotate_left 1
 focus
  rw [hz]
  have hon : only8 ⟨op, 0, items, ver, count, nums⟩ = ⟨op, 0, [], 0, count, []⟩ := by simp [only8, hz]
  have s0 : W1.cell? ⟨w.heap.size, 4, none⟩ = some (.int .i64 count) := HS1.out.cell rfl
  have t0 : (W1).cell? ⟨w.heap.size + 1 + 1, 4, none⟩ = some (.int .i64 0) := (HO0.out).cell rfl
  have f0 : (W1).frozen? ⟨w.heap.size + 1 + 1, 4, none⟩ = false := (HO0.out).frozen 4
  have k0 : Kept [w.heap.size + 1 + 1] W1 ((W1).setCell ⟨w.heap.size + 1 + 1, 4, none⟩ (.int .i64 count)) := ((Kept.refl [w.heap.size + 1 + 1] W1)).setCell (by simp) _
  have hO : RowL ((W1).setCell ⟨w.heap.size + 1 + 1, 4, none⟩ (.int .i64 count)) (w.heap.size + 1 + 1) 40 [.int .i64 op, .int .i64 0, .slice none 0 0, .int .u64 0, .int .i64 count, .slice none 0 0] := (HO0.out).set 4 (.int .i64 count)
  have hK : Kept [w.heap.size + 1 + 1] W1 ((W1).setCell ⟨w.heap.size + 1 + 1, 4, none⟩ (.int .i64 count)) := k0
  have HO' := kp hO
  have HK' := kp hK
  clear hO hK k0
  go_upto_region 15 with (fail)
  have hO := HO'.out
  have hK := HK'.out
  obtain ⟨W9, hW9⟩ : ∃ W9, (W1).setCell ⟨w.heap.size + 1 + 1, 4, none⟩ (.int .i64 count) = W9 := ⟨_, rfl⟩
  rw [hW9] at hO hK ⊢
  clear hW9 HO' HK' t0 f0 s0
  have HF := kp (show ∀ W, Below w.heap.size w W -> Only8Post ⟨op, 0, items, ver, count, nums⟩ w (.returned (.agg ([.int .i64 op, .int .i64 0, .slice none 0 0, .int .u64 0, .int .i64 count, .slice none 0 0] : List Value).toArray)) W from fun W hbel => ⟨.slice none 0 0, .slice none 0 0, by rw [hon]; rfl, by (rw [hon]; have hq := (HH.out.below hbel (Nat.le_refl _)).mono hbel.size; exact ⟨items_nil _ _, nums_nil _ _⟩), hbel⟩)
  have h1 : ([.int .i64 op, .int .i64 0, .slice none 0 0, .int .u64 0, .int .i64 count, .slice none 0 0] : List Value).toArray.all (·.oneCell') = true := by simp [Value.oneCell']
  have h2 : ([.int .i64 op, .int .i64 0, .slice none 0 0, .int .u64 0, .int .i64 count, .slice none 0 0] : List Value).length = 6 := rfl
  obtain ⟨q, hq⟩ : ∃ q, ([.int .i64 op, .int .i64 0, .slice none 0 0, .int .u64 0, .int .i64 count, .slice none 0 0] : List Value) = q := ⟨_, rfl⟩
 rotate_left 1
 rotate_right 5
 iterate 5
  ·rw [hq] at hO HF h1 h2
   clear hz hon hq
   have HO := kp hO.cells
   have HDR := kp (HD1.out.kept hK (by simp))
   have HK := kp hK
   have HT := kp (show W9.there (w.heap.size + 1) 0 q.toArray.size by (have h : q.toArray.size = 6 := h2; rw [h]; exact HDR.out.there (o := 0) (n := 6) (by simp [respC])))
   have H1 := kp h1
   have H2 := kp h2
   have HSZ := kp (show (Tryz.prog.info? 40).map (·.size) = some q.length by rw [h2]; kernel_rfl)
   have HSZA := kp (show (Tryz.prog.info? 40).map (·.size) = some q.toArray.size by rw [List.size_toArray, h2]; kernel_rfl)
   clear hO hK e0 e1 h1 h2
   go_wp2_with (first
    | ((with_reducible refine wpList_load_agg (o := ⟨some 40, _, _, _, _, _⟩) rfl 40 _ rfl ⟨w.heap.size + 1 + 1, 0, none⟩ ?_ q _ HO.out Tryz.underlying40 rfl HSZ.out ?_); (· rfl))
    | ((with_reducible refine wpList_store_at2 (op := ⟨none, _, _, _, _, _⟩) rfl 40 _ _ rfl (w.heap.size + 1) 0 q.toArray ?_ ?_ ?_ HSZA.out H1.out ?_); (· rfl); (· rfl); (· exact HT.out); intro w9 hw9))
   have hD9 := store_all HDR.out q (by rw [H2.out]; rfl)
   have hc9 := row_cells hD9 q (by rw [H2.out]; rfl) fun i hi => rfl
   have hk9 : Kept [w.heap.size + 1] W9 (W9.setCells (w.heap.size + 1) 0 q) := kept_setCells (by simp) _ _ _ (Kept.refl _ _)
   have hbel : Below w.heap.size w (W9.setCells (w.heap.size + 1) 0 q) := HB0.out.trans ((HK.out.below HB0.out.size (by simp; omega)).trans (hk9.below (Nat.le_trans HB0.out.size HK.out.size) (by simp)))
   refine bodyPost_ret (results_cell1 (p := 2) (ty := 40) rfl _ _ ⟨w.heap.size + 1, 0, none⟩ _ rfl (run_loadVar_at _ _ _ _ _ hc9 Tryz.underlying40 rfl HSZ.out)) rfl ?_
   exact HF.out _ hbel
theorem only172 (r : RespR) (vi vn : Value) (w : World) (h : RespOk w w.heap.size r vi vn) : Calls Tryz.prog 172 #[.agg (respC r vi vn).toArray] w (Only8Post r w) := by
 obtain ⟨op, er, items, ver, count, nums⟩ := r
 by_cases he : er ≠ 0
 ·exact only8_e op er items ver count nums he vi vn w h
 ·obtain rfl : er = 0 := by omega
  exact only8_z op items ver count nums vi vn w h
end Go.Proofs.YtnjhpgmbfblgaaaGreat.Ord
