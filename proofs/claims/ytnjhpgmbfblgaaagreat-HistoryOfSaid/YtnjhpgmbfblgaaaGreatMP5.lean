/- Walk of given; The plain facts of the law's known. -/
import Derived.Test.YtnjhpgmbfblgaaaGreatP3
import Derived.Test.YtnjhpgmbfblgaaaGreatMP0
namespace Go.Proofs.YtnjhpgmbfblgaaaGreat.Ord
set_option maxRecDepth 100000
set_option maxHeartbeats 16000000
open Go.RowKit
set_option linter.unusedVariables false
set_option linter.unusedSimpArgs false
abbrev zc36 : List Value := [.int .i64 0, .string ⟨#[]⟩, .slice none 0 0, .slice none 0 0, .slice none 0 0, .int .u64 0, .int .u64 0, .string ⟨#[]⟩, .string ⟨#[]⟩, .string ⟨#[]⟩]
theorem there36 (w : World) : ((w.alloc (.cells zc36.toArray 36)).alloc (.cells zc36.toArray 36)).there w.heap.size 0 10 := ((RowL.new w 36 zc36).alloc _).there (by decide)
theorem there36b (w wA : World) (h : wA = ((w.alloc (.cells zc36.toArray 36)).alloc (.cells zc36.toArray 36)).setCells w.heap.size 0 getL) : wA.there (w.heap.size + 1) 0 10 := by
 rw [h]
 refine RowL.there (t := 36) (l := zc36) (RowL.setCellsOther ?_ (by omega)) (by decide)
 have := RowL.new (w.alloc (.cells zc36.toArray 36)) 36 zc36
 rwa [alloc_size1] at this
abbrev zc40 : List Value := [.int .i64 0, .int .i64 0, .slice none 0 0, .int .u64 0, .int .i64 0, .slice none 0 0]
abbrev itL : List Value := [.int .i64 0, .slice none 0 0, .int .u64 0, .int .u64 0]
theorem there40 (w : World) : ((w.alloc (.cells zc40.toArray 40)).alloc (.cells zc40.toArray 40)).there w.heap.size 0 6 := ((RowL.new w 40 zc40).alloc _).there (by decide)
theorem there40b (w wA : World) (l : List Value) (h : wA = ((w.alloc (.cells zc40.toArray 40)).alloc (.cells zc40.toArray 40)).setCells w.heap.size 0 l) : wA.there (w.heap.size + 1) 0 6 := by
 rw [h]
 refine RowL.there (t := 40) (l := zc40) (RowL.setCellsOther ?_ (by omega)) (by decide)
 have := RowL.new (w.alloc (.cells zc40.toArray 40)) 40 zc40
 rwa [alloc_size1] at this
theorem given54 (w : World) : Calls Tryz.prog 54 #[] w (GivenPost w) := by
 go_enter Tryz.func54, Tryz.ntmps54
 go_upto_region 2 with (first
  | ((with_reducible refine wpList_store_at2 (op := ⟨none, _, _, _, _, _⟩) rfl 36 _ _ rfl w.heap.size 0 getL.toArray ?_ ?_ ?_ (cmd_sizeA36 _ _ _ _ _ _ _ _ _ _) (cmd_one _ (.inl rfl)) ?_); (· rfl); (· rfl); (· exact there36 w); intro wA hwA; have HWA := kp (show wA = ((w.alloc (.cells zc36.toArray 36)).alloc (.cells zc36.toArray 36)).setCells w.heap.size 0 getL from hwA); clear hwA)
  | ((with_reducible refine wpList_store_at2 (op := ⟨none, _, _, _, _, _⟩) rfl 36 _ _ rfl (w.heap.size + 1) 0 fluL.toArray ?_ ?_ ?_ (cmd_sizeA36 _ _ _ _ _ _ _ _ _ _) (cmd_one _ (.inr rfl)) ?_); (· rfl); (· rfl); (· exact there36b w wA HWA.out); intro wB hwB; have HWB := kp (show wB = wA.setCells (w.heap.size + 1) 0 fluL from hwB); clear hwB))
 have HXB := kp (two_store w 36 36 zc36 zc36 getL fluL rfl rfl wA wB HWA.out HWB.out)
 clear HWA HWB
 go_upto_region 3 with (first
  | ((with_reducible refine wpList_store_at2 (op := ⟨none, _, _, _, _, _⟩) rfl 40 _ _ rfl (wB.heap.size + 1) 0 (misL wB.heap.size).toArray ?_ ?_ ?_ (resp_sizeA _ _ _ _ _ _) (resp_one40 _ wB.heap.size (.inl rfl)) ?_); (· rfl); (· rfl); (· have := there40 (wB.alloc (.cells itL.toArray 78)); rw [alloc_size1] at this; exact this); intro wC hwC; have HWC := kp (show wC = (((wB.alloc (.cells itL.toArray 78)).alloc (.cells zc40.toArray 40)).alloc (.cells zc40.toArray 40)).setCells (wB.heap.size + 1) 0 (misL wB.heap.size) from hwC); clear hwC)
  | ((with_reducible refine wpList_store_at2 (op := ⟨none, _, _, _, _, _⟩) rfl 40 _ _ rfl (wB.heap.size + 1 + 1) 0 donL.toArray ?_ ?_ ?_ (resp_sizeA _ _ _ _ _ _) (resp_one40 _ 0 (.inr rfl)) ?_); (· rfl); (· rfl); (· have := there40b (wB.alloc (.cells itL.toArray 78)) wC (misL wB.heap.size) (by rw [alloc_size1]; exact HWC.out); rw [alloc_size1] at this; exact this); intro wD hwD; have HWD := kp (show wD = wC.setCells (wB.heap.size + 1 + 1) 0 donL from hwD); clear hwD))
 have hy := two_store (wB.alloc (.cells itL.toArray 78)) 40 40 zc40 zc40 (misL wB.heap.size) donL rfl rfl wC wD (by rw [alloc_size1]; exact HWC.out) (by rw [alloc_size1]; exact HWD.out)
 rw [alloc_size1] at hy
 have HYD := kp hy
 clear hy HWC HWD
 go_upto_region 4 with (fail)
 obtain ⟨x1, x2, x3⟩ := HXB.out
 obtain ⟨y1, y2, y3⟩ := HYD.out
 have hit := (RowL.new wB 78 [.int .i64 0, .slice none 0 0, .int .u64 0, .int .u64 0]).below y3 (by simp)
 obtain ⟨g, hg⟩ : ∃ g, wB.heap.size = g := ⟨_, rfl⟩
 have hbd : Below wB.heap.size wB wD := (below1 wB _).trans (y3.mono (by simp))
 have x1d := x1.below hbd x1.lt
 have x2d := x2.below hbd x2.lt
 have HBW := kp (x3.trans (hbd.mono x3.size))
 rw [hg] at y1 y2 hit ⊢
 obtain ⟨h0, hh0⟩ : ∃ h, w.heap.size = h := ⟨_, rfl⟩
 rw [hh0] at x1d x2d ⊢
 have hlt1 := x1d.lt
 have hlt2 := x2d.lt
 have hlt3 := y1.lt
 have hlt4 := y2.lt
 have hlt5 := hit.lt
 obtain ⟨w0, rfl⟩ : ∃ W, W = wD := ⟨_, rfl⟩
 have HG := kp (show ∀ W, Below w0.heap.size w0 W -> RowL W h0 36 getL from fun W hW => x1d.below hW hlt1)
 have HF := kp (show ∀ W, Below w0.heap.size w0 W -> RowL W (h0 + 1) 36 fluL from fun W hW => x2d.below hW hlt2)
 have HMR := kp (show ∀ W, Below w0.heap.size w0 W -> RowL W (g + 1) 40 (misL g) from fun W hW => y1.below hW hlt3)
 have HDR := kp (show ∀ W, Below w0.heap.size w0 W -> RowL W (g + 1 + 1) 40 donL from fun W hW => y2.below hW hlt4)
 have HMO := kp (show ∀ W, Below w0.heap.size w0 W -> RespOk W W.heap.size misR (misV g) nilV from fun W hW => mis_ok (hit.below hW hlt5) (Nat.lt_of_lt_of_le hlt5 hW.size))
 clear x1 x2 x3 y1 y2 y3 hit hbd x1d x2d hlt1 hlt2 hlt3 hlt4 hlt5 HXB HYD hg hh0
 refine regionG _ (fun d v c a w h => by cases d <;> exact h) w0 h0 g _ _ _ _ _ _ _ _ _ _ _ _ _ _ _ _ _ _ _ _ _ _ _ _ _ _ _ _ _ _ _ _ _ _ _ _ _ _ _ _ _ _ _ _ _ _ _ _ HG HF HMR HDR HMO ?_
 intro gA gB gS w9 hda hbc
 obtain ⟨A, hA⟩ : ∃ A : Option Addr, some ⟨gS, 0, none⟩ = A := ⟨_, rfl⟩
 rw [hA] at hda ⊢
 clear hA
 have HDA := kp hda
 have HBC := kp hbc
 clear hda hbc
 go_upto_region 5 with (fail)
 refine wp_region_held_drew (S := fun W => Below w0.heap.size w0 W) (by kernel_rfl) (below_drewn HBC.out) (fun hS => ?_)
 have HS := kp hS
 clear hS
 refine wpAnyH_take (i := 0) (oi := ⟨some 45, .move (.tmp 7), 22, "law.go:33", #[], none⟩) (v := ?_) rfl (by kernel_rfl) (by kernel_rfl) (by kernel_rfl) (fun _ _ _ h => h) (Or.inl ⟨by rfl, ?_⟩) HS.out ?_
 rotate_left 1
 ·intro w hw; go_simp; try with_reducible rfl
 simp only [Act.put, z1, z2, z3]
 refine wpAnyH_take (i := 1) (oi := ⟨some 46, .load 36 (.tmp 2), 36, "law.go:33", #[⟨8, .gcOnly .lateStores⟩], none⟩) (v := .agg getL.toArray) rfl (by kernel_rfl) (by kernel_rfl) (by kernel_rfl) (fun _ _ _ h => h) (yields_aggL rfl 36 _ rfl ⟨h0, 0, none⟩ rfl getL _ (fun W hW => (HG.out W hW).cells) Tryz.underlying36 (cmd_sizeL _ _ _ _ _ _ _ _ _ _)) HS.out ?_
 simp only [Act.put, z1, z2, z3]
 refine wpAnyH_take (i := 2) (oi := ⟨some 47, .load 40 (.tmp 4), 40, "law.go:33", #[⟨8, .gcOnly .lateStores⟩], none⟩) (v := .agg (misL g).toArray) rfl (by kernel_rfl) (by kernel_rfl) (by kernel_rfl) (fun _ _ _ h => h) (yields_aggL rfl 40 _ rfl ⟨g + 1, 0, none⟩ rfl (misL g) _ (fun W hW => (HMR.out W hW).cells) Tryz.underlying40 (resp_sizeL _ _ _ _ _ _)) HS.out ?_
 simp only [Act.put, z1, z2, z3]
 refine wpAnyH_take (i := 3) (oi := ⟨some 48, .build 52 #[(3, .tmp 46), (4, .tmp 47), (5, .const (.int .i64 3)), (6, .const (.int .i64 4)), (7, .const (.int .i64 7))], 52, "law.go:33", #[⟨1, .data⟩, ⟨2, .data⟩, ⟨8, .gcOnly .lateStores⟩], none⟩) (v := ?_) rfl (by kernel_rfl) (by kernel_rfl) (by kernel_rfl) (fun _ _ _ h => h) (Or.inl ⟨by rfl, ?_⟩) HS.out ?_
 rotate_left 1
 ·intro w hw; go_simp; try with_reducible rfl
 simp only [Act.put, z1, z2, z3]
 refine wpAnyH_take (i := 4) (oi := ⟨some 49, .load 36 (.tmp 3), 36, "law.go:33", #[⟨8, .gcOnly .lateStores⟩], none⟩) (v := .agg fluL.toArray) rfl (by kernel_rfl) (by kernel_rfl) (by kernel_rfl) (fun _ _ _ h => h) (yields_aggL rfl 36 _ rfl ⟨h0 + 1, 0, none⟩ rfl fluL _ (fun W hW => (HF.out W hW).cells) Tryz.underlying36 (cmd_sizeL _ _ _ _ _ _ _ _ _ _)) HS.out ?_
 simp only [Act.put, z1, z2, z3]
 refine wpAnyH_take (i := 5) (oi := ⟨some 50, .load 40 (.tmp 5), 40, "law.go:33", #[⟨8, .gcOnly .lateStores⟩], none⟩) (v := .agg donL.toArray) rfl (by kernel_rfl) (by kernel_rfl) (by kernel_rfl) (fun _ _ _ h => h) (yields_aggL rfl 40 _ rfl ⟨g + 1 + 1, 0, none⟩ rfl donL _ (fun W hW => (HDR.out W hW).cells) Tryz.underlying40 (resp_sizeL _ _ _ _ _ _)) HS.out ?_
 simp only [Act.put, z1, z2, z3]
 refine wpAnyH_take (i := 6) (oi := ⟨some 51, .build 52 #[(0, .const (.int .i64 1)), (3, .tmp 49), (4, .tmp 50), (5, .const (.int .i64 6)), (6, .const (.int .i64 8)), (7, .const (.int .i64 (-1)))], 52, "law.go:33", #[⟨4, .data⟩, ⟨5, .data⟩, ⟨8, .gcOnly .lateStores⟩], none⟩) (v := ?_) rfl (by kernel_rfl) (by kernel_rfl) (by kernel_rfl) (fun _ _ _ h => h) (Or.inl ⟨by rfl, ?_⟩) HS.out ?_
 rotate_left 1
 ·intro w hw; go_simp; try with_reducible rfl
 simp only [Act.put, z1, z2, z3]
 refine wpAnyH_take (i := 8) (oi := ⟨some 0, .assign (.tmp 45), 22, "law.go:33", #[⟨0, .data⟩, ⟨0, .phase⟩, ⟨1, .textOnly .lateStores⟩, ⟨2, .textOnly .lateStores⟩, ⟨3, .textOnly .lateStores⟩, ⟨4, .textOnly .lateStores⟩, ⟨5, .textOnly .lateStores⟩, ⟨6, .textOnly .lateStores⟩, ⟨7, .textOnly .lateStores⟩], none⟩) (v := ?_) rfl (by kernel_rfl) (by kernel_rfl) (by kernel_rfl) (fun _ _ _ h => h) (Or.inl ⟨by rfl, ?_⟩) HS.out ?_
 rotate_left 1
 ·intro w hw; go_simp; try with_reducible rfl
 simp only [Act.put, z1, z2, z3]
 refine wpAnyH_ready (rs := [7]) (by kernel_rfl) (by simp) ?_
 refine AllReadyH.cons (o := ⟨some 52, .buildSlice 43 2 #[(0, .tmp 48), (1, .tmp 51)], 43, "law.go:33", #[⟨3, .data⟩, ⟨6, .data⟩, ⟨8, .gcOnly .lateStores⟩], none⟩) rfl (fun K hK => ?_) (AllReadyH.nil)
 with_reducible refine step_rows rfl 43 52 2 _ rfl _ 23 296 Tryz.underlying43 q_info52 ((wantL g).map fun x => callC x.1 x.2) ?_ ?_ ?_ ?_ ?_ ?_ ?_
 ·simp only [y1, y2, y3]; rfl
 ·intro L hL; obtain ⟨x, _, rfl⟩ := List.mem_map.1 hL; rfl
 ·rfl
 ·decide
 ·decide
 ·unfold maxLen; decide
 intro u1 ho hc
 have HB1 := kp ((below_drewn HBC.out).trans (hc.mono HBC.out.size))
 obtain ⟨A5, c5, he, hrow⟩ := calls_own (L := wantL g) ho (wantL_ok (HMO.out _ HB1.out))
 have HE5 := kp he
 have HROW5 := kp hrow
 have HDA5 := kp ((HDA.out.below (B' := w9.heap.size) ((below_drewn (Below.refl _ _)).trans hc) (Nat.le_refl _)).mono' hc.size)
 clear ho hc hrow he
 have hS := HB1.out
 refine hK.out _ _ hS (fun _ => ?_)
 clear hK K HS
 have HS := kp hS
 clear hS
 try simp only [Act.put, z1, z2, z3]
 refine wpAnyH_take (i := 9) (oi := ⟨some 1, .assign (.tmp 52), 43, "law.go:33", #[⟨7, .data⟩, ⟨8, .chain⟩, ⟨0, .phase⟩, ⟨1, .phase⟩, ⟨2, .phase⟩, ⟨3, .phase⟩, ⟨4, .phase⟩, ⟨5, .phase⟩, ⟨6, .phase⟩, ⟨7, .phase⟩, ⟨8, .phase⟩], none⟩) (v := ?_) rfl (by kernel_rfl) (by kernel_rfl) (by kernel_rfl) (fun _ _ _ h => h) (Or.inl ⟨by rfl, ?_⟩) HS.out ?_
 rotate_left 1
 ·intro w hw; go_simp; try with_reducible rfl
 simp only [Act.put, z1, z2, z3]
 refine wpAnyH_done (by kernel_rfl) ?_ _
 go_wp2_with fail
 go_ret2
 exact ⟨A, A5, g, by (have := HE5.out; cases this; rfl), HDA5.out, HROW5.out, HBW.out.trans (HB1.out.mono HBW.out.size)⟩
theorem of_given : ofRes didsG = (wantG, 0) := by rfl
theorem of_given1 : ofRes (didsG.drop 1) = ([], 10) := by rfl
theorem of_given2 : ofRes (didsG.take 3 ++ didsG.drop 4) = ([], 10) := by rfl
def want0 : CallR := ⟨0, 0, false, getR, misR, 3, 4, 7, 0⟩
def want1 : CallR := ⟨1, 0, false, fluR, donR, 6, 8, -1, 0⟩
theorem wantG_eq : wantG = [want0, want1] := rfl
theorem single0 : singleB want0 = true := by decide +kernel
theorem single1 : singleB want1 = true := by decide +kernel
theorem okc0 {x : CallR} (h : singleB x = true) (h1 : x.num = 0) : Okc singleB [] x :=
 ⟨h, fun y hy => by simp at hy, fun n _ _ y hy => by simp at hy, by simp [h1], fun y hy => by simp at hy, fun y hy => by simp at hy⟩
theorem fit1 {x : CallR} (h : singleB x = true) (h1 : x.num = 0) : Fit singleB [x] := by
 have := (Fit.nil singleB).snoc (okc0 h h1)
 simpa using this
theorem okc1 : Okc singleB [want0] want1 := by
 refine ⟨single1, fun y hy => ?_, fun n hn h0 y hy => ?_, ?_, fun y hy hs => ?_, fun y hy => ?_⟩
 ·simp at hy; subst hy; simp [want0, want1]
 ·simp at hy
  subst hy
  simp [want1] at hn
  simp [want0]
  omega
 ·simp [want0, want1]
 ·simp at hy; subst hy; simp [want0, want1] at hs
 ·simp [want0, want1] at hy
theorem valid_want : ValidP singleB wantG := by
 refine ⟨by simp [wantG_eq], ?_, ?_⟩
 ·have := (fit1 single0 rfl).snoc okc1
  simpa [wantG_eq] using this
 ·have h0 : Timed [want0] := by simpa using Timed.nil.snoc (x := want0) (fun y hy => by simp at hy)
  have := h0.snoc (x := want1) (fun y hy => by simp at hy; subst hy; intro _ _; simp [want0, want1])
  simpa [wantG_eq] using this
theorem valid_want1 : ValidP singleB [want1] := by
 refine ⟨by simp, fit1 single1 rfl, ?_⟩
 simpa using Timed.nil.snoc (x := want1) (fun y hy => by simp at hy)
theorem valid_twice : ¬ ValidP singleB [want0, want0] := fun h => by
 have h1 := (h.2.1 [want0] want0 [] rfl).ask want0 (by simp)
 omega
theorem outs_want : outsOf wantG = [[misR], []] := by
 rw [wantG_eq]
 rfl
theorem cmdS_get : CmdS getR := ⟨by simp [getR], by simp [getR], by decide, by simp [getR], by decide, by decide, by decide, by simp [getR], by simp [getR], by simp [getR], by simp [getR], by simp [getR]⟩
theorem cmdS_flu : CmdS fluR := ⟨by simp [fluR], by simp [fluR], by decide, by simp [fluR], by decide, by decide, by decide, by simp [fluR], by simp [fluR], by simp [fluR], by simp [fluR], by simp [fluR]⟩
theorem respS_mis : RespS misR := by constructor <;> simp [misR]
theorem respS_don : RespS donR := by constructor <;> simp [donR]
theorem callS_want (g : Nat) : ∀ x ∈ wantL g, CallS x.1 := by
 intro x hx
 simp only [wantL, List.mem_cons, List.not_mem_nil, or_false] at hx
 rcases hx with rfl | rfl
 ·exact ⟨cmdS_get, respS_mis⟩
 ·exact ⟨cmdS_flu, respS_don⟩
theorem small_want (g : Nat) : ∀ x ∈ wantL g, Small x.1.cmd x.1.resp := by
 intro x hx
 simp only [wantL, List.mem_cons, List.not_mem_nil, or_false] at hx
 rcases hx with rfl | rfl
 ·exact ⟨by simp [getR], by simp [getR], by simp [getR], by simp [misR], by simp [misR], by simp [misR]⟩
 ·exact ⟨by simp [fluR], by simp [fluR], by simp [fluR], by simp [donR], by simp [donR], by simp [donR]⟩
theorem small_dids : ∀ d ∈ didsG, Small d.cmd d.resp := by
 intro d hd
 simp only [didsG, stepsG, List.map_cons, List.map_nil, List.mem_cons, List.not_mem_nil, or_false] at hd
 rcases hd with rfl | rfl | rfl | rfl | rfl | rfl | rfl | rfl | rfl
 all_goals exact ⟨by simp [microD, cmd0, getR, fluR], by simp [microD, cmd0, getR, fluR], by simp [microD, cmd0, getR, fluR], by simp [microD, resp0, misR, donR], by simp [microD, resp0, misR, donR], by simp [microD, resp0, misR, donR]⟩
/-- rows behind their first elements -/
theorem DidsAt.drop {w : World} {B b off : Nat} {ds : List DidR} (h : DidsAt w B (some ⟨b, off, none⟩) ds) (k : Nat) : DidsAt w B (some ⟨b, off + k * 25, none⟩) (ds.drop k) := by
 intro i d hi
 rw [List.getElem?_drop] at hi
 obtain ⟨b', off', p, h1, h2, h3, h4⟩ := h (k + i) d hi
 cases h1
 refine ⟨b, off + k * 25, p, rfl, h2, ?_, h4⟩
 rw [show off + k * 25 + i * 25 = off + (k + i) * 25 by omega]
 exact h3
theorem RowCO.drop {w : World} {B b off : Nat} {L : List (CallR × CallV)} (h : RowCO w B (some ⟨b, off, none⟩) L) (k : Nat) : RowCO w B (some ⟨b, off + k * 23, none⟩) (L.drop k) := by
 intro i x hi
 rw [List.getElem?_drop] at hi
 obtain ⟨b', off', h1, h2, h3, h4⟩ := h (k + i) x hi
 cases h1
 refine ⟨b, off + k * 23, rfl, h2, ?_, h4⟩
 rw [show off + k * 23 + i * 23 = off + (k + i) * 23 by omega]
 exact h3
theorem DidsAt.take {w : World} {B : Nat} {A : Option Addr} {ds : List DidR} (h : DidsAt w B A ds) (k : Nat) : DidsAt w B A (ds.take k) := fun i d hi => h i d (by
 rw [List.getElem?_take] at hi
 split at hi
 ·exact hi
 ·cases hi)
/-- steps that lie in a row, with what they point to -/
theorem DidsAt.pairs {w : World} {B : Nat} {A : Option Addr} {ds : List DidR} (h : DidsAt w B A ds) : ∃ L : List (DidR × DidV), L.map (·.1) = ds /\ ∀ i x, L[i]? = some x -> ∃ b off, A = some ⟨b, off, none⟩ /\ b < B /\ CellsAt w ⟨b, off + i * 25, none⟩ (didC x.1 x.2) /\ DidOk w B x.1 x.2 := by
 have h1 : ∀ i, ∃ p, ∀ c, ds[i]? = some c -> ∃ b off, A = some ⟨b, off, none⟩ /\ b < B /\ CellsAt w ⟨b, off + i * 25, none⟩ (didC c p) /\ DidOk w B c p := by
  intro i
  cases hi : ds[i]? with
  | none => exact ⟨microV nilV nilV nilV nilV nilV, fun c hc => by cases hc⟩
  | some c =>
   obtain ⟨b, off, p, h2⟩ := h i c hi
   exact ⟨p, fun c' hc => by cases hc; exact ⟨b, off, h2⟩⟩
 obtain ⟨f, hf⟩ := Classical.axiomOfChoice h1
 refine ⟨ds.mapIdx fun i c => (c, f i), by apply List.ext_getElem?; intro i; rw [List.getElem?_map, List.getElem?_mapIdx]; cases ds[i]? <;> rfl, fun i x hi => ?_⟩
 rw [List.getElem?_mapIdx] at hi
 obtain ⟨c, hc, rfl⟩ := Option.map_eq_some_iff.1 hi
 exact hf i c hc
end Go.Proofs.YtnjhpgmbfblgaaaGreat.Ord
