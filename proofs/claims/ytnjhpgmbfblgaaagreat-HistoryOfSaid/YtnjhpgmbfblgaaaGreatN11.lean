/- Walks of response.Write and response.Valid at any response, valid or not. -/
import Derived.Test.YtnjhpgmbfblgaaaGreatN10
import Derived.Test.YtnjhpgmbfblgaaaGreatMR25
namespace Go.Proofs.YtnjhpgmbfblgaaaGreat.Ord
set_option maxRecDepth 100000
set_option maxHeartbeats 16000000
open Go.RowKit
set_option linter.unusedVariables false
set_option linter.unusedSimpArgs false
/-- whether a response is valid -/
def okHead (r : RespR) : Bool := decide (0 <= r.op /\ r.op <= 15 /\ 0 <= r.err /\ r.err <= 100000) && !(r.op == 0 && r.err == 0)
def okParts (r : RespR) : Bool := !(r.err == 0) || (partsOf r.op).all (okP · r)
def validR (r : RespR) : Bool := okHead r && (okParts r && respEq (onlyR r) r)
def errR (r : RespR) : Int := if validR r = true then 0 else 2
theorem errR_head {r : RespR} (h : okHead r = false) : errR r = 2 := by unfold errR validR; rw [h]; rfl
theorem errR_parts {r : RespR} (h : okParts r = false) : errR r = 2 := by unfold errR validR; rw [h]; simp
theorem errR_eq {r : RespR} (h : okHead r = true) (h1 : okParts r = true) : errR r = if respEq (onlyR r) r = true then 0 else 2 := by unfold errR validR; rw [h, h1]; rfl
def WrPost (r : RespR) (w : World) (e : Ending) (w' : World) : Prop := (∃ p A n c, e = .returned (.tuple #[.agg #[.int .u8 p, .slice A n c], .int .i64 (errR r)])) /\ Below w.heap.size w w'
/-- the blocks that the walk begins with -/
structure Wr (w : World) (W : World) (r : RespR) (vi vn : Value) : Prop where
 bel : Below w.heap.size w W
 X : RowL W w.heap.size 40 (respC r vi vn)
 F : RowL W (w.heap.size + 1) 270 [.int .u8 0, .slice none 0 0]
 L : RowL W (w.heap.size + 1 + 1) 270 [.int .u8 0, .slice none 0 0]
 ok : RespOk W w.heap.size r vi vn
theorem Wr.below {w W W' : World} {r : RespR} {vi vn : Value} (h : Wr w W r vi vn) (hb : Below W.heap.size W W') : Wr w W' r vi vn :=
 ⟨h.bel.trans (hb.mono h.bel.size), h.X.of_block (hb.block _ h.X.lt), h.F.of_block (hb.block _ h.F.lt), h.L.of_block (hb.block _ h.L.lt), h.ok.below hb h.bel.size⟩
theorem Wr.kept {w W W' : World} {r : RespR} {vi vn : Value} {Q : Nat} (h : Wr w W r vi vn) (hk : Kept [Q] W W') (hQ : w.heap.size + 3 <= Q) : Wr w W' r vi vn := by
 have hb : Below w.heap.size W W' := hk.below h.bel.size (by simp; omega)
 exact ⟨h.bel.trans hb, h.X.kept hk (by simp; omega), h.F.kept hk (by simp; omega), h.L.kept hk (by simp; omega), h.ok.below hb (Nat.le_refl _)⟩
theorem wr_start (w : World) (r : RespR) (vi vn : Value) (h : RespOk w w.heap.size r vi vn) : Wr w (((w.alloc (.cells (respC r vi vn).toArray 40)).alloc (.cells #[.int .u8 0, .slice none 0 0] 270)).alloc (.cells #[.int .u8 0, .slice none 0 0] 270)) r vi vn := by
 have h1 := RowL.new w 40 (respC r vi vn)
 have h2 := RowL.new (w.alloc (.cells (respC r vi vn).toArray 40)) 270 [.int .u8 0, .slice none 0 0]
 have h3 := RowL.new ((w.alloc (.cells (respC r vi vn).toArray 40)).alloc (.cells #[.int .u8 0, .slice none 0 0] 270)) 270 [.int .u8 0, .slice none 0 0]
 have hb := below3 w (.cells (respC r vi vn).toArray 40) (.cells #[.int .u8 0, .slice none 0 0] 270) (.cells #[.int .u8 0, .slice none 0 0] 270)
 exact ⟨hb, (h1.alloc _).alloc _, by simpa using h2.alloc (.cells #[.int .u8 0, .slice none 0 0] 270), by simpa using h3, h.below hb (Nat.le_refl _)⟩
/-- a buffer made -/
theorem WB.made {w : World} {base : Nat} {v : Value} {out : List Int} (ho : Own8 w base v out) : WB (w.alloc (.cells #[v] 26)) w.heap.size out := by
 have hb := below1 w (.cells #[v] 26)
 refine ⟨v, RowL.new w 26 [v], ?_⟩
 obtain ⟨A, c, e, h1, h2⟩ := SlB.of_own ho
 refine ⟨A, c, e, (h1.below hb (Nat.le_refl _)).mono hb.size, fun b off ea hm => ?_⟩
 simp at hm
 subst hm
 subst ea
 have := Own8.raw ho
 rcases owns_shape this (by decide) with ⟨e1, _, _⟩ | ⟨g, cap, e1, _, e3, _⟩
 ·rw [e] at e1; simp at e1
 ·rw [e] at e1
  simp at e1
  first | done | omega
theorem respWrite (r : RespR) (hs : RespS r) (vi vn : Value) (w : World) (hok : RespOk w w.heap.size r vi vn) :
  Calls Tryz.prog 177 #[.agg (respC r vi vn).toArray] w (WrPost r w) := by
 have hW := wr_start w r vi vn hok
 have hs1 : (((w.alloc (.cells (respC r vi vn).toArray 40)).alloc (.cells #[.int .u8 0, .slice none 0 0] 270)).alloc (.cells #[.int .u8 0, .slice none 0 0] 270)).heap.size = w.heap.size + 3 := by simp
 obtain ⟨W1, hW1⟩ : ∃ W1, W1 = ((w.alloc (.cells (respC r vi vn).toArray 40)).alloc (.cells #[.int .u8 0, .slice none 0 0] 270)).alloc (.cells #[.int .u8 0, .slice none 0 0] 270) := ⟨_, rfl⟩
 rw [<- hW1] at hW hs1
 have c0 : W1.cell? ⟨w.heap.size, 0, none⟩ = some (.int .i64 r.op) := hW.X.cell rfl
 obtain ⟨⟨_, Ai, ci, hvi, _⟩, _, An, cn, hvn, _⟩ := hok
 obtain ⟨op, hop⟩ : ∃ op, r.op = op := ⟨_, rfl⟩
 obtain ⟨er, her⟩ : ∃ er, r.err = er := ⟨_, rfl⟩
 obtain ⟨ni, hni⟩ : ∃ n, r.items.length = n := ⟨_, rfl⟩
 obtain ⟨nn, hnn⟩ : ∃ n, r.nums.length = n := ⟨_, rfl⟩
 rw [hop] at c0
 rw [hni] at hvi
 rw [hnn] at hvn
 have HP := kp (parts232 op)
 have HW := kp hW
 have HS := kp hs
 have HOP := kp hop
 have HER := kp her
 have HVI := kp hvi
 have HVN := kp hvn
 have HNI := kp hni
 have HNN := kp hnn
 have hRC : respC r vi vn = [.int .i64 op, .int .i64 er, .slice Ai ni ci, .int .u64 r.ver, .int .i64 r.count, .slice An nn cn] := by rw [<- hop, <- her, <- hvi, <- hvn]; rfl
 have HRC := kp hRC
 rw [hRC] at hW1 ⊢
 clear hW hs hop her hvi hvn hRC hni hnn
 go_enter Tryz.func177, Tryz.ntmps177
 go_wp2_with fail
 rw [<- hW1]
 clear hW1
 refine (HP.out W1).mono ?_
 rintro e w2 ⟨G, cp, rfl, hG2, hGlo, hb2⟩
 have hW2 := HW.out.below hb2
 have d0 : w2.cell? ⟨w.heap.size, 0, none⟩ = some (.int .i64 op) := by rw [<- HOP.out]; exact hW2.X.cell rfl
 have d1 : w2.cell? ⟨w.heap.size, 1, none⟩ = some (.int .i64 er) := by rw [<- HER.out]; exact hW2.X.cell rfl
 have hn2 := partsOf_len op
 obtain ⟨n, hn⟩ : ∃ n, (partsOf op).length = n := ⟨_, rfl⟩
 rw [hn] at hn2 ⊢
 have HN := kp hn
 have HG2 := kp hG2
 have HW2 := kp hW2
 have HSZ := kp (show w.heap.size + 3 <= w2.heap.size /\ G < w2.heap.size /\ w.heap.size + 3 <= G by have := hb2.size; have := hG2.lt; omega)
 clear hG2 hb2 hW2 hGlo c0 hn hs1
 by_cases a1 : op < 0
 ·have g1 : decide (op < 0) = true := by simp; omega
  have l0 : w2.cell? ⟨w.heap.size + 1 + 1, 0, none⟩ = some (.int .u8 0) := HW2.out.L.cell rfl
  have l1 : w2.cell? ⟨w.heap.size + 1 + 1, 1, none⟩ = some (.slice none 0 0) := HW2.out.L.cell rfl
  have HTT := kp (HW2.out.F.there (o := 0) (n := 2) (by simp))
  have HEE := kp (show errR r = 2 from errR_head (by simp [okHead, HOP.out, HER.out]; omega))
  go_wp2_with ((with_reducible refine wpList_store_at2 (op := ⟨none, _, _, _, _, _⟩) rfl 270 _ _ rfl (w.heap.size + 1) 0 #[.int .u8 0, .slice none 0 0] ?_ ?_ ?_ ?_ ?_ ?_); (· rfl); (· rfl); (· exact HTT.out); (· rfl); (· simp [Value.oneCell']); intro w9 hw9)
  have hD9 := store_all HW2.out.F [.int .u8 0, .slice none 0 0] rfl
  have hc9 := row_cells hD9 [.int .u8 0, .slice none 0 0] rfl fun i hi => rfl
  have hk9 : Kept [w.heap.size + 1] w2 (w2.setCells (w.heap.size + 1) 0 [.int .u8 0, .slice none 0 0]) := kept_setCells (by simp) _ _ _ (Kept.refl _ _)
  refine bodyPost_ret (results_cell2 rfl _ _ ⟨w.heap.size + 1, 0, none⟩ #[.int .u8 0, .slice none 0 0] rfl (run_loadVar_at _ _ _ _ _ hc9 Tryz.underlying270 rfl (by kernel_rfl))) rfl ⟨⟨_, _, _, _, by rw [HEE.out]; rfl⟩, ?_⟩
  exact HW2.out.bel.trans (hk9.below HW2.out.bel.size (by simp))
 have g1 : decide (op < 0) = false := by simp; omega
 by_cases a2 : 15 < op
 ·have g2 : decide (15 < op) = true := by simp; omega
  have l0 : w2.cell? ⟨w.heap.size + 1 + 1, 0, none⟩ = some (.int .u8 0) := HW2.out.L.cell rfl
  have l1 : w2.cell? ⟨w.heap.size + 1 + 1, 1, none⟩ = some (.slice none 0 0) := HW2.out.L.cell rfl
  have HTT := kp (HW2.out.F.there (o := 0) (n := 2) (by simp))
  have HEE := kp (show errR r = 2 from errR_head (by simp [okHead, HOP.out, HER.out]; omega))
  go_wp2_with ((with_reducible refine wpList_store_at2 (op := ⟨none, _, _, _, _, _⟩) rfl 270 _ _ rfl (w.heap.size + 1) 0 #[.int .u8 0, .slice none 0 0] ?_ ?_ ?_ ?_ ?_ ?_); (· rfl); (· rfl); (· exact HTT.out); (· rfl); (· simp [Value.oneCell']); intro w9 hw9)
  have hD9 := store_all HW2.out.F [.int .u8 0, .slice none 0 0] rfl
  have hc9 := row_cells hD9 [.int .u8 0, .slice none 0 0] rfl fun i hi => rfl
  have hk9 : Kept [w.heap.size + 1] w2 (w2.setCells (w.heap.size + 1) 0 [.int .u8 0, .slice none 0 0]) := kept_setCells (by simp) _ _ _ (Kept.refl _ _)
  refine bodyPost_ret (results_cell2 rfl _ _ ⟨w.heap.size + 1, 0, none⟩ #[.int .u8 0, .slice none 0 0] rfl (run_loadVar_at _ _ _ _ _ hc9 Tryz.underlying270 rfl (by kernel_rfl))) rfl ⟨⟨_, _, _, _, by rw [HEE.out]; rfl⟩, ?_⟩
  exact HW2.out.bel.trans (hk9.below HW2.out.bel.size (by simp))
 have g2 : decide (15 < op) = false := by simp; omega
 by_cases a3 : er < 0
 ·have g3 : decide (er < 0) = true := by simp; omega
  have l0 : w2.cell? ⟨w.heap.size + 1 + 1, 0, none⟩ = some (.int .u8 0) := HW2.out.L.cell rfl
  have l1 : w2.cell? ⟨w.heap.size + 1 + 1, 1, none⟩ = some (.slice none 0 0) := HW2.out.L.cell rfl
  have HTT := kp (HW2.out.F.there (o := 0) (n := 2) (by simp))
  have HEE := kp (show errR r = 2 from errR_head (by simp [okHead, HOP.out, HER.out]; omega))
  go_wp2_with ((with_reducible refine wpList_store_at2 (op := ⟨none, _, _, _, _, _⟩) rfl 270 _ _ rfl (w.heap.size + 1) 0 #[.int .u8 0, .slice none 0 0] ?_ ?_ ?_ ?_ ?_ ?_); (· rfl); (· rfl); (· exact HTT.out); (· rfl); (· simp [Value.oneCell']); intro w9 hw9)
  have hD9 := store_all HW2.out.F [.int .u8 0, .slice none 0 0] rfl
  have hc9 := row_cells hD9 [.int .u8 0, .slice none 0 0] rfl fun i hi => rfl
  have hk9 : Kept [w.heap.size + 1] w2 (w2.setCells (w.heap.size + 1) 0 [.int .u8 0, .slice none 0 0]) := kept_setCells (by simp) _ _ _ (Kept.refl _ _)
  refine bodyPost_ret (results_cell2 rfl _ _ ⟨w.heap.size + 1, 0, none⟩ #[.int .u8 0, .slice none 0 0] rfl (run_loadVar_at _ _ _ _ _ hc9 Tryz.underlying270 rfl (by kernel_rfl))) rfl ⟨⟨_, _, _, _, by rw [HEE.out]; rfl⟩, ?_⟩
  exact HW2.out.bel.trans (hk9.below HW2.out.bel.size (by simp))
 have g3 : decide (er < 0) = false := by simp; omega
 by_cases a4 : 100000 < er
 ·have g4 : decide (100000 < er) = true := by simp; omega
  have l0 : w2.cell? ⟨w.heap.size + 1 + 1, 0, none⟩ = some (.int .u8 0) := HW2.out.L.cell rfl
  have l1 : w2.cell? ⟨w.heap.size + 1 + 1, 1, none⟩ = some (.slice none 0 0) := HW2.out.L.cell rfl
  have HTT := kp (HW2.out.F.there (o := 0) (n := 2) (by simp))
  have HEE := kp (show errR r = 2 from errR_head (by simp [okHead, HOP.out, HER.out]; omega))
  go_wp2_with ((with_reducible refine wpList_store_at2 (op := ⟨none, _, _, _, _, _⟩) rfl 270 _ _ rfl (w.heap.size + 1) 0 #[.int .u8 0, .slice none 0 0] ?_ ?_ ?_ ?_ ?_ ?_); (· rfl); (· rfl); (· exact HTT.out); (· rfl); (· simp [Value.oneCell']); intro w9 hw9)
  have hD9 := store_all HW2.out.F [.int .u8 0, .slice none 0 0] rfl
  have hc9 := row_cells hD9 [.int .u8 0, .slice none 0 0] rfl fun i hi => rfl
  have hk9 : Kept [w.heap.size + 1] w2 (w2.setCells (w.heap.size + 1) 0 [.int .u8 0, .slice none 0 0]) := kept_setCells (by simp) _ _ _ (Kept.refl _ _)
  refine bodyPost_ret (results_cell2 rfl _ _ ⟨w.heap.size + 1, 0, none⟩ #[.int .u8 0, .slice none 0 0] rfl (run_loadVar_at _ _ _ _ _ hc9 Tryz.underlying270 rfl (by kernel_rfl))) rfl ⟨⟨_, _, _, _, by rw [HEE.out]; rfl⟩, ?_⟩
  exact HW2.out.bel.trans (hk9.below HW2.out.bel.size (by simp))
 have g4 : decide (100000 < er) = false := by simp; omega
 obtain ⟨en, rfl⟩ : ∃ en : Nat, er = en := ⟨er.toNat, by omega⟩
 by_cases a5 : op = 0 /\ en = 0
 ·have hio : isOp op = false := by simp [isOp]; omega
  have g5 : ((en : Int) == 0) = true := by simp; omega
  rw [hio]
  have l0 : w2.cell? ⟨w.heap.size + 1 + 1, 0, none⟩ = some (.int .u8 0) := HW2.out.L.cell rfl
  have l1 : w2.cell? ⟨w.heap.size + 1 + 1, 1, none⟩ = some (.slice none 0 0) := HW2.out.L.cell rfl
  have HTT := kp (HW2.out.F.there (o := 0) (n := 2) (by simp))
  have HEE := kp (show errR r = 2 from errR_head (by simp [okHead, HOP.out, HER.out]; omega))
  go_wp2_with ((with_reducible refine wpList_store_at2 (op := ⟨none, _, _, _, _, _⟩) rfl 270 _ _ rfl (w.heap.size + 1) 0 #[.int .u8 0, .slice none 0 0] ?_ ?_ ?_ ?_ ?_ ?_); (· rfl); (· rfl); (· exact HTT.out); (· rfl); (· simp [Value.oneCell']); intro w9 hw9)
  have hD9 := store_all HW2.out.F [.int .u8 0, .slice none 0 0] rfl
  have hc9 := row_cells hD9 [.int .u8 0, .slice none 0 0] rfl fun i hi => rfl
  have hk9 : Kept [w.heap.size + 1] w2 (w2.setCells (w.heap.size + 1) 0 [.int .u8 0, .slice none 0 0]) := kept_setCells (by simp) _ _ _ (Kept.refl _ _)
  refine bodyPost_ret (results_cell2 rfl _ _ ⟨w.heap.size + 1, 0, none⟩ #[.int .u8 0, .slice none 0 0] rfl (run_loadVar_at _ _ _ _ _ hc9 Tryz.underlying270 rfl (by kernel_rfl))) rfl ⟨⟨_, _, _, _, by rw [HEE.out]; rfl⟩, ?_⟩
  exact HW2.out.bel.trans (hk9.below HW2.out.bel.size (by simp))
 have hHead : okHead r = true := by simp [okHead, HOP.out, HER.out]; omega
 have HHD := kp hHead
 have hw3 : IntKind.u64.wrap (en : Int) = en := wrap_nat (by omega)
 have HPut := kp (put_any none 0 0 [] en w2 rfl (by omega) (by omega) (Byt.nil _ _))
 have hv10 := putV_len10 (n := en) (by omega)
 have HPLN := kp (payP_take_len r HS.out)
 clear hHead
 by_cases h0 : en = 0
 ·subst h0
  have hio : isOp op = true := by simp [isOp]; omega
  rw [hio]
  have HNZ := kp (show op ≠ 0 by omega)
  have HRC0 := kp (show respC r vi vn = [.int .i64 op, .int .i64 0, .slice Ai ni ci, .int .u64 r.ver, .int .i64 r.count, .slice An nn cn] from HRC.out)
  clear hio
  go_wp2_with fail
  refine HPut.out.mono ?_
  rintro e w3 ⟨v3, rfl, ho3, hb3⟩
  obtain ⟨A3, L3, c3, rfl, _, _⟩ := ho3.gen
  have hb4 := below1 w3 (.cells #[.slice A3 L3 c3] 26)
  have HWB4 := kp (WB.made ho3)
  have HW4 := kp ((HW2.out.below hb3).below hb4)
  have HG4 := kp ((HG2.out.of_block (hb3.block _ HG2.out.lt)).of_block (hb4.block _ (Nat.lt_of_lt_of_le HG2.out.lt hb3.size)))
  have HS3 := kp hb3.size
  have e1 : (w3.alloc (.cells #[.slice A3 L3 c3] 26)).cell? ⟨w.heap.size, 1, none⟩ = some (.int .i64 0) := by have := HW4.out.X.cell (j := 1) rfl; rw [HER.out] at this; exact this
  obtain ⟨W4, hW4⟩ : ∃ W4, w3.alloc (.cells #[.slice A3 L3 c3] 26) = W4 := ⟨_, rfl⟩
  rw [hW4] at HWB4 HW4 HG4 e1
  have HE4 := kp hW4
  have HPR := kp (show payR r = putV 0 ++ payP (partsOf op) r by unfold payR; rw [HER.out, HOP.out]; rfl)
  clear hW4 hb3 hb4 ho3
  go_upto_region 6 with (fail)
  rw [HE4.out]
  go_wp2_with fail
  go_loopw [57] (fun j wr => ∃ q : Nat, q <= n /\ j = .int .i64 q /\ ((partsOf op).take q).all (okP · r) = true /\ WB wr w3.heap.size (putV 0 ++ payP ((partsOf op).take q) r) /\ Kept [w3.heap.size] W4 wr) (fun j _ => n - (intOf j).toNat)
  case atStart => exact ⟨0, Nat.zero_le _, by go_num, by simp, HWB4.out.cong (by simp [payP]), Kept.refl _ _⟩
  case round =>
   obtain ⟨q, hq, rfl, hall, hwb, hkp⟩ := hrel
   have HWB := kp hwb
   have HKP := kp hkp
   have HALL := kp hall
   have HWR := kp (HW4.out.kept hkp (by have := HSZ.out; have := HS3.out; omega))
   clear hwb hkp hall e1
   by_cases hlt : q < n
   ·have hg : decide ((q : Int) < (n : Int)) = true := by simp; omega
    have hqp : q < (partsOf op).length := by rw [HN.out]; exact hlt
    obtain ⟨p, hpe⟩ : ∃ p, (partsOf op)[q] = p := ⟨_, rfl⟩
    have hp : (partsOf op)[q]? = some p := by rw [List.getElem?_eq_getElem hqp, hpe]
    have hGr : RowL wr G 332 ((partsOf op).flatMap partC) := HG4.out.kept HKP.out (by simp; have := HSZ.out; have := HS3.out; omega)
    obtain ⟨hp1, hp2⟩ := parts_at (partsOf op) hp
    have q1 : wr.cell? ⟨G, q * 2, none⟩ = some (.func (.func (putFn p)) #[] #[]) := hGr.cell hp1
    have q2 : wr.cell? ⟨G, q * 2 + 1, none⟩ = some (.func (.func (getFn p)) #[] #[]) := hGr.cell hp2
    have HST := kp (stored_zero wr 332 (partC p) [.nilFunc, .nilFunc] rfl)
    have HTH := kp (there_zero wr 332 (partC p) [.nilFunc, .nilFunc] rfl)
    have q3 : ((wr.alloc (.cells #[.nilFunc, .nilFunc] 332)).setCells wr.heap.size 0 (partC p)).cell? ⟨wr.heap.size, 0, none⟩ = some (.func (.func (putFn p)) #[] #[]) := HST.out.1.cell rfl
    have eg := put_enter p
    have hol : (putV 0 ++ payP ((partsOf op).take q) r).length <= 600000 := by have h1 := HPLN.out q; have h2 := putV_len10 (n := 0) (by decide); rw [HOP.out] at h1; rw [List.length_append]; omega
    have HWW7 := kp (HWR.out.below HST.out.2)
    have HPT := kp (put_part p (B := w.heap.size) ⟨HWB.out.below HST.out.2, HWW7.out.X, HWW7.out.ok, by have := HSZ.out; have := HS3.out; omega, by have := HSZ.out; have := HS3.out; omega, HS.out, hol⟩)
    have HTK := kp (show (partsOf op).take (q + 1) = (partsOf op).take q ++ [p] by rw [List.take_add_one, hp]; rfl)
    have HPM := kp (List.mem_of_getElem? hp)
    clear hpe hp hGr hp1 hp2 hqp hol
    simp only [partC] at q3 HTH HPT
    go_wp2_with ((with_reducible refine wpList_store_at2 (op := ⟨none, _, _, _, _, _⟩) rfl 332 _ _ rfl wr.heap.size 0 #[.func (.func (putFn p)) #[] #[], .func (.func (getFn p)) #[] #[]] ?_ ?_ ?_ ?_ ?_ ?_); (· rfl); (· rfl); (· exact HTH.out); (· exact part_size); (· simp [Value.oneCell']); intro w7 hw7)
    refine HPT.out.mono ?_
    rintro e w8 ⟨rfl, hy8, hk8⟩
    have HK8 := kp ((HKP.out.trans (Kept.of_below HST.out.2)).trans hk8)
    have HY8 := kp hy8
    clear hy8 hk8
    cases hkp : okP p r
    ·have HW8 := kp (HW4.out.kept HK8.out (by have := HSZ.out; have := HS3.out; omega))
     have hpp : okParts r = false := by
      unfold okParts
      rw [HER.out, HOP.out]
      simp
      exact ⟨p, HPM.out, hkp⟩
     have l0 : w8.cell? ⟨w.heap.size + 1 + 1, 0, none⟩ = some (.int .u8 0) := HW8.out.L.cell rfl
     have l1 : w8.cell? ⟨w.heap.size + 1 + 1, 1, none⟩ = some (.slice none 0 0) := HW8.out.L.cell rfl
     have HTT := kp (HW8.out.F.there (o := 0) (n := 2) (by simp))
     have HEE := kp (show errR r = 2 from errR_parts hpp)
     go_wp2_with ((with_reducible refine wpList_store_at2 (op := ⟨none, _, _, _, _, _⟩) rfl 270 _ _ rfl (w.heap.size + 1) 0 #[.int .u8 0, .slice none 0 0] ?_ ?_ ?_ ?_ ?_ ?_); (· rfl); (· rfl); (· exact HTT.out); (· rfl); (· simp [Value.oneCell']); intro w9 hw9)
     have hD9 := store_all HW8.out.F [.int .u8 0, .slice none 0 0] rfl
     have hc9 := row_cells hD9 [.int .u8 0, .slice none 0 0] rfl fun i hi => rfl
     have hk9 : Kept [w.heap.size + 1] w8 (w8.setCells (w.heap.size + 1) 0 [.int .u8 0, .slice none 0 0]) := kept_setCells (by simp) _ _ _ (Kept.refl _ _)
     refine bodyPost_ret (results_cell2 rfl _ _ ⟨w.heap.size + 1, 0, none⟩ #[.int .u8 0, .slice none 0 0] rfl (run_loadVar_at _ _ _ _ _ hc9 Tryz.underlying270 rfl (by kernel_rfl))) rfl ⟨⟨_, _, _, _, by rw [HEE.out]; rfl⟩, ?_⟩
     exact HW8.out.bel.trans (hk9.below HW8.out.bel.size (by simp))
    ·go_wp2_with fail
     go_roundw
     case rel => exact ⟨q + 1, by omega, by go_num, by rw [HTK.out, List.all_append, HALL.out]; simp [hkp], (HY8.out hkp).cong (by rw [HTK.out]; simp [payP, List.append_assoc]), HK8.out⟩
     case measure => simp [intOf]; omega
   ·obtain rfl : q = n := by omega
    have hg : decide ((q : Int) < (q : Int)) = false := by simp
    have htk : (partsOf op).take q = partsOf op := List.take_of_length_le (by rw [HN.out]; exact Nat.le_refl _)
    have hal := HALL.out
    rw [htk] at hal
    have HW9 := kp (HWB.out.cong (out' := payR r) (by rw [htk, HPR.out]))
    have HOKP := kp (show okParts r = true by unfold okParts; rw [HOP.out, hal]; simp)
    have HOKR := kp (show OkR r from ⟨by rw [HOP.out]; omega, by rw [HER.out]; omega, fun h => by rw [HOP.out] at h; exact absurd h HNZ.out, fun _ => by rw [HOP.out]; exact hal⟩)
    clear htk hal
    have HPL := kp True.intro
    obtain ⟨vb, hvb1, Ab, cb, rfl, hvb2, hvb3⟩ := id HW9.out
    obtain ⟨kl, hkl⟩ : ∃ kl, (payR r).length = kl := ⟨_, rfl⟩
    rw [hkl] at hvb1
    have b0 : wr.cell? ⟨w3.heap.size, 0, none⟩ = some (.slice Ab kl cb) := hvb1.cell rfl
    have x0 : wr.cell? ⟨w.heap.size, 0, none⟩ = some (.int .i64 op) := by rw [<- HOP.out]; exact HWR.out.X.cell rfl
    have hw6 : IntKind.i64.wrap (64 + op) = 64 + op := by simp [IntKind.wrap, IntKind.bits, IntKind.signed]; omega
    have hw7 : IntKind.u8.wrap (64 + op) = 64 + op := by simp [IntKind.wrap, IntKind.bits, IntKind.signed]; omega
    have hbf := below1 wr (.cells #[.int .u8 (64 + op), .slice Ab kl cb] 270)
    have HRead := kp (respRead r (64 + op) (by rw [HOP.out]) HS.out HOKR.out Ab kl cb (wr.alloc (.cells #[.int .u8 (64 + op), .slice Ab kl cb] 270)) hkl ((hvb2.below hbf (Nat.le_refl _)).mono hbf.size))
    have HFB := kp (RowL.new wr 270 [.int .u8 (64 + op), .slice Ab kl cb])
    have HW5 := kp (HWR.out.below hbf)
    have HKL := kp hkl
    clear hvb1 hvb2 hvb3 hbf hkl
    go_wp2_with fail
    refine HRead.out.mono ?_
    rintro e w6 ⟨vi6, vn6, rfl, hok6, hb6⟩
    obtain ⟨ro, hro⟩ : ∃ ro, onlyR r = ro := ⟨_, rfl⟩
    rw [hro] at hok6 ⊢
    obtain ⟨⟨_, A6, c6, hvi6, _⟩, _, A7, c7, hvn6, _⟩ := id hok6
    obtain ⟨n6, hn6⟩ : ∃ n6, ro.items.length = n6 := ⟨_, rfl⟩
    obtain ⟨n7, hn7⟩ : ∃ n7, ro.nums.length = n7 := ⟨_, rfl⟩
    rw [hn6] at hvi6
    rw [hn7] at hvn6
    have hRO : respC ro vi6 vn6 = [.int .i64 ro.op, .int .i64 ro.err, .slice A6 n6 c6, .int .u64 ro.ver, .int .i64 ro.count, .slice A7 n7 c7] := by rw [<- hvi6, <- hvn6]; rfl
    have hb7 := below1 w6 (.cells (respC ro vi6 vn6).toArray 40)
    have hag := RowL.new w6 40 (respC ro vi6 vn6)
    have hW6 := (HW5.out.below hb6).below hb7
    have hFB7 := (HFB.out.of_block (hb6.block _ (by simp))).of_block (hb7.block _ (Nat.lt_of_lt_of_le (by simp) hb6.size))
    have hE := resp43 ro r vi6 vn6 vi vn (w6.alloc (.cells (respC ro vi6 vn6).toArray 40)) ((hok6.below hb7 (Nat.le_refl _)).mono hb7.size) (hW6.ok.mono hW6.bel.size)
    have HCA := kp hag.cells
    have HCX := kp hW6.X.cells
    have HSA := kp (respC_size ro vi6 vn6)
    have HSX := kp (respC_size r vi vn)
    rw [hRO] at hE hW6 hFB7 HCA HCX HSA ⊢
    rw [HRC0.out] at hE HCX HSX
    have HE := kp hE
    have HW7 := kp hW6
    have HF7 := kp hFB7
    have HVE := kp (errR_eq HHD.out HOKP.out)
    rw [hro] at HVE
    clear hb7 hag hW6 hFB7 hE hRO hvi6 hvn6 hok6 hn6 hn7 hro b0 x0 hb6
    go_wp2_with (first
     | ((with_reducible refine wpList_load_want (o := ⟨some 81, _, _, _, _, _⟩) 40 _ rfl ⟨w6.heap.size, 0, none⟩ ?_ _ _ HCA.out Tryz.underlying40 rfl ?_ ?_ ?_); (· rfl); (· exact HSA.out); (· rfl))
     | ((with_reducible refine wpList_load_want (o := ⟨some 82, _, _, _, _, _⟩) 40 _ rfl ⟨w.heap.size, 0, none⟩ ?_ _ _ HCX.out Tryz.underlying40 rfl ?_ ?_ ?_); (· rfl); (· exact HSX.out); (· rfl)))
    refine HE.out.mono ?_
    rintro e w8 ⟨rfl, hb8⟩
    have HW8 := kp (HW7.out.below hb8)
    have hFB8 := HF7.out.of_block (hb8.block _ HF7.out.lt)
    have y0 : w8.cell? ⟨wr.heap.size, 0, none⟩ = some (.int .u8 (64 + op)) := hFB8.cell rfl
    have y1 : w8.cell? ⟨wr.heap.size, 1, none⟩ = some (.slice Ab kl cb) := hFB8.cell rfl
    clear hFB8 hb8
    cases hq : respEq ro r
    ·have hq2 : errR r = 2 := by rw [HVE.out, hq]; rfl
     have l0 : w8.cell? ⟨w.heap.size + 1 + 1, 0, none⟩ = some (.int .u8 0) := HW8.out.L.cell rfl
     have l1 : w8.cell? ⟨w.heap.size + 1 + 1, 1, none⟩ = some (.slice none 0 0) := HW8.out.L.cell rfl
     have HTT := kp (HW8.out.F.there (o := 0) (n := 2) (by simp))
     have HEE := kp (show errR r = 2 from hq2)
     go_wp2_with ((with_reducible refine wpList_store_at2 (op := ⟨none, _, _, _, _, _⟩) rfl 270 _ _ rfl (w.heap.size + 1) 0 #[.int .u8 0, .slice none 0 0] ?_ ?_ ?_ ?_ ?_ ?_); (· rfl); (· rfl); (· exact HTT.out); (· rfl); (· simp [Value.oneCell']); intro w9 hw9)
     have hD9 := store_all HW8.out.F [.int .u8 0, .slice none 0 0] rfl
     have hc9 := row_cells hD9 [.int .u8 0, .slice none 0 0] rfl fun i hi => rfl
     have hk9 : Kept [w.heap.size + 1] w8 (w8.setCells (w.heap.size + 1) 0 [.int .u8 0, .slice none 0 0]) := kept_setCells (by simp) _ _ _ (Kept.refl _ _)
     refine bodyPost_ret (results_cell2 rfl _ _ ⟨w.heap.size + 1, 0, none⟩ #[.int .u8 0, .slice none 0 0] rfl (run_loadVar_at _ _ _ _ _ hc9 Tryz.underlying270 rfl (by kernel_rfl))) rfl ⟨⟨_, _, _, _, by rw [HEE.out]; rfl⟩, ?_⟩
     exact HW8.out.bel.trans (hk9.below HW8.out.bel.size (by simp))
    ·have HEE := kp (show errR r = 0 by rw [HVE.out, hq]; rfl)
     have HTT := kp (HW8.out.F.there (o := 0) (n := 2) (by simp))
     go_wp2_with ((with_reducible refine wpList_store_at2 (op := ⟨none, _, _, _, _, _⟩) rfl 270 _ _ rfl (w.heap.size + 1) 0 #[.int .u8 (64 + op), .slice Ab kl cb] ?_ ?_ ?_ ?_ ?_ ?_); (· rfl); (· rfl); (· exact HTT.out); (· rfl); (· simp [Value.oneCell']); intro w9 hw9)
     have hD9 := store_all HW8.out.F [.int .u8 (64 + op), .slice Ab kl cb] rfl
     have hc9 := row_cells hD9 [.int .u8 (64 + op), .slice Ab kl cb] rfl fun i hi => rfl
     have hk9 : Kept [w.heap.size + 1] w8 (w8.setCells (w.heap.size + 1) 0 [.int .u8 (64 + op), .slice Ab kl cb]) := kept_setCells (by simp) _ _ _ (Kept.refl _ _)
     refine bodyPost_ret (results_cell2 rfl _ _ ⟨w.heap.size + 1, 0, none⟩ #[.int .u8 (64 + op), .slice Ab kl cb] rfl (run_loadVar_at _ _ _ _ _ hc9 Tryz.underlying270 rfl (by kernel_rfl))) rfl ⟨⟨_, _, _, _, by rw [HEE.out]; rfl⟩, ?_⟩
     exact HW8.out.bel.trans (hk9.below HW8.out.bel.size (by simp))
 ·have hne : ((en : Int) == 0) = false := by simp; omega
  have HPR := kp (show payR r = putV en by unfold payR; rw [HER.out, if_neg (by omega)]; simp)
  have HOKP := kp (show okParts r = true by unfold okParts; rw [HER.out]; simp; omega)
  have HOKR := kp (show OkR r from ⟨by rw [HOP.out]; omega, by rw [HER.out]; omega, fun h => by rw [HER.out]; omega, fun h => by rw [HER.out] at h; omega⟩)
  cases hb : isOp op
  iterate 2
   ·go_wp2_with fail
    refine HPut.out.mono ?_
    rintro e w3 ⟨v3, rfl, ho3, hb3⟩
    obtain ⟨A3, L3, c3, rfl, _, _⟩ := ho3.gen
    have hb4 := below1 w3 (.cells #[.slice A3 L3 c3] 26)
    have HWB4 := kp (WB.made ho3)
    have HW4 := kp ((HW2.out.below hb3).below hb4)
    have HG4 := kp ((HG2.out.of_block (hb3.block _ HG2.out.lt)).of_block (hb4.block _ (Nat.lt_of_lt_of_le HG2.out.lt hb3.size)))
    have HS3 := kp hb3.size
    have e1 : (w3.alloc (.cells #[.slice A3 L3 c3] 26)).cell? ⟨w.heap.size, 1, none⟩ = some (.int .i64 en) := by have := HW4.out.X.cell (j := 1) rfl; rw [HER.out] at this; exact this
    obtain ⟨W4, hW4⟩ : ∃ W4, w3.alloc (.cells #[.slice A3 L3 c3] 26) = W4 := ⟨_, rfl⟩
    rw [hW4] at HWB4 HW4 HG4 e1
    have HE4 := kp hW4
    have HW9 := kp (HWB4.out.cong (out' := payR r) (by rw [HPR.out]; simp))
    clear hW4 hb3 hb4 ho3
    go_upto_region 6 with (fail)
    rw [HE4.out]
    have HPL := kp True.intro
    obtain ⟨vb, hvb1, Ab, cb, rfl, hvb2, hvb3⟩ := id HW9.out
    obtain ⟨kl, hkl⟩ : ∃ kl, (payR r).length = kl := ⟨_, rfl⟩
    rw [hkl] at hvb1
    have b0 : W4.cell? ⟨w3.heap.size, 0, none⟩ = some (.slice Ab kl cb) := hvb1.cell rfl
    have x0 : W4.cell? ⟨w.heap.size, 0, none⟩ = some (.int .i64 op) := by rw [<- HOP.out]; exact HW4.out.X.cell rfl
    have hw6 : IntKind.i64.wrap (64 + op) = 64 + op := by simp [IntKind.wrap, IntKind.bits, IntKind.signed]; omega
    have hw7 : IntKind.u8.wrap (64 + op) = 64 + op := by simp [IntKind.wrap, IntKind.bits, IntKind.signed]; omega
    have hbf := below1 W4 (.cells #[.int .u8 (64 + op), .slice Ab kl cb] 270)
    have HRead := kp (respRead r (64 + op) (by rw [HOP.out]) HS.out HOKR.out Ab kl cb (W4.alloc (.cells #[.int .u8 (64 + op), .slice Ab kl cb] 270)) hkl ((hvb2.below hbf (Nat.le_refl _)).mono hbf.size))
    have HFB := kp (RowL.new W4 270 [.int .u8 (64 + op), .slice Ab kl cb])
    have HW5 := kp (HW4.out.below hbf)
    have HKL := kp hkl
    clear hvb1 hvb2 hvb3 hbf hkl
    go_wp2_with fail
    refine HRead.out.mono ?_
    rintro e w6 ⟨vi6, vn6, rfl, hok6, hb6⟩
    obtain ⟨ro, hro⟩ : ∃ ro, onlyR r = ro := ⟨_, rfl⟩
    rw [hro] at hok6 ⊢
    obtain ⟨⟨_, A6, c6, hvi6, _⟩, _, A7, c7, hvn6, _⟩ := id hok6
    obtain ⟨n6, hn6⟩ : ∃ n6, ro.items.length = n6 := ⟨_, rfl⟩
    obtain ⟨n7, hn7⟩ : ∃ n7, ro.nums.length = n7 := ⟨_, rfl⟩
    rw [hn6] at hvi6
    rw [hn7] at hvn6
    have hRO : respC ro vi6 vn6 = [.int .i64 ro.op, .int .i64 ro.err, .slice A6 n6 c6, .int .u64 ro.ver, .int .i64 ro.count, .slice A7 n7 c7] := by rw [<- hvi6, <- hvn6]; rfl
    have hb7 := below1 w6 (.cells (respC ro vi6 vn6).toArray 40)
    have hag := RowL.new w6 40 (respC ro vi6 vn6)
    have hW6 := (HW5.out.below hb6).below hb7
    have hFB7 := (HFB.out.of_block (hb6.block _ (by simp))).of_block (hb7.block _ (Nat.lt_of_lt_of_le (by simp) hb6.size))
    have hE := resp43 ro r vi6 vn6 vi vn (w6.alloc (.cells (respC ro vi6 vn6).toArray 40)) ((hok6.below hb7 (Nat.le_refl _)).mono hb7.size) (hW6.ok.mono hW6.bel.size)
    have HCA := kp hag.cells
    have HCX := kp hW6.X.cells
    have HSA := kp (respC_size ro vi6 vn6)
    have HSX := kp (respC_size r vi vn)
    rw [hRO] at hE hW6 hFB7 HCA HCX HSA ⊢
    rw [HRC.out] at hE HCX HSX
    have HE := kp hE
    have HW7 := kp hW6
    have HF7 := kp hFB7
    have HVE := kp (errR_eq HHD.out HOKP.out)
    rw [hro] at HVE
    clear hb7 hag hW6 hFB7 hE hRO hvi6 hvn6 hok6 hn6 hn7 hro b0 x0 hb6
    go_wp2_with (first
     | ((with_reducible refine wpList_load_want (o := ⟨some 81, _, _, _, _, _⟩) 40 _ rfl ⟨w6.heap.size, 0, none⟩ ?_ _ _ HCA.out Tryz.underlying40 rfl ?_ ?_ ?_); (· rfl); (· exact HSA.out); (· rfl))
     | ((with_reducible refine wpList_load_want (o := ⟨some 82, _, _, _, _, _⟩) 40 _ rfl ⟨w.heap.size, 0, none⟩ ?_ _ _ HCX.out Tryz.underlying40 rfl ?_ ?_ ?_); (· rfl); (· exact HSX.out); (· rfl)))
    refine HE.out.mono ?_
    rintro e w8 ⟨rfl, hb8⟩
    have HW8 := kp (HW7.out.below hb8)
    have hFB8 := HF7.out.of_block (hb8.block _ HF7.out.lt)
    have y0 : w8.cell? ⟨W4.heap.size, 0, none⟩ = some (.int .u8 (64 + op)) := hFB8.cell rfl
    have y1 : w8.cell? ⟨W4.heap.size, 1, none⟩ = some (.slice Ab kl cb) := hFB8.cell rfl
    clear hFB8 hb8
    cases hq : respEq ro r
    ·have hq2 : errR r = 2 := by rw [HVE.out, hq]; rfl
     have l0 : w8.cell? ⟨w.heap.size + 1 + 1, 0, none⟩ = some (.int .u8 0) := HW8.out.L.cell rfl
     have l1 : w8.cell? ⟨w.heap.size + 1 + 1, 1, none⟩ = some (.slice none 0 0) := HW8.out.L.cell rfl
     have HTT := kp (HW8.out.F.there (o := 0) (n := 2) (by simp))
     have HEE := kp (show errR r = 2 from hq2)
     go_wp2_with ((with_reducible refine wpList_store_at2 (op := ⟨none, _, _, _, _, _⟩) rfl 270 _ _ rfl (w.heap.size + 1) 0 #[.int .u8 0, .slice none 0 0] ?_ ?_ ?_ ?_ ?_ ?_); (· rfl); (· rfl); (· exact HTT.out); (· rfl); (· simp [Value.oneCell']); intro w9 hw9)
     have hD9 := store_all HW8.out.F [.int .u8 0, .slice none 0 0] rfl
     have hc9 := row_cells hD9 [.int .u8 0, .slice none 0 0] rfl fun i hi => rfl
     have hk9 : Kept [w.heap.size + 1] w8 (w8.setCells (w.heap.size + 1) 0 [.int .u8 0, .slice none 0 0]) := kept_setCells (by simp) _ _ _ (Kept.refl _ _)
     refine bodyPost_ret (results_cell2 rfl _ _ ⟨w.heap.size + 1, 0, none⟩ #[.int .u8 0, .slice none 0 0] rfl (run_loadVar_at _ _ _ _ _ hc9 Tryz.underlying270 rfl (by kernel_rfl))) rfl ⟨⟨_, _, _, _, by rw [HEE.out]; rfl⟩, ?_⟩
     exact HW8.out.bel.trans (hk9.below HW8.out.bel.size (by simp))
    ·have HEE := kp (show errR r = 0 by rw [HVE.out, hq]; rfl)
     have HTT := kp (HW8.out.F.there (o := 0) (n := 2) (by simp))
     go_wp2_with ((with_reducible refine wpList_store_at2 (op := ⟨none, _, _, _, _, _⟩) rfl 270 _ _ rfl (w.heap.size + 1) 0 #[.int .u8 (64 + op), .slice Ab kl cb] ?_ ?_ ?_ ?_ ?_ ?_); (· rfl); (· rfl); (· exact HTT.out); (· rfl); (· simp [Value.oneCell']); intro w9 hw9)
     have hD9 := store_all HW8.out.F [.int .u8 (64 + op), .slice Ab kl cb] rfl
     have hc9 := row_cells hD9 [.int .u8 (64 + op), .slice Ab kl cb] rfl fun i hi => rfl
     have hk9 : Kept [w.heap.size + 1] w8 (w8.setCells (w.heap.size + 1) 0 [.int .u8 (64 + op), .slice Ab kl cb]) := kept_setCells (by simp) _ _ _ (Kept.refl _ _)
     refine bodyPost_ret (results_cell2 rfl _ _ ⟨w.heap.size + 1, 0, none⟩ #[.int .u8 (64 + op), .slice Ab kl cb] rfl (run_loadVar_at _ _ _ _ _ hc9 Tryz.underlying270 rfl (by kernel_rfl))) rfl ⟨⟨_, _, _, _, by rw [HEE.out]; rfl⟩, ?_⟩
     exact HW8.out.bel.trans (hk9.below HW8.out.bel.size (by simp))
theorem valid112 (r : RespR) (hs : RespS r) (vi vn : Value) (w : World) (hok : RespOk w w.heap.size r vi vn) :
  Calls Tryz.prog 112 #[.agg (respC r vi vn).toArray] w fun e w' => e = .returned (.bool (validR r)) /\ Below w.heap.size w w' := by
 have hb1 := below1 w (.cells (respC r vi vn).toArray 40)
 have HW := kp (respWrite r hs vi vn _ ((hok.below hb1 (Nat.le_refl _)).mono hb1.size))
 have HC := kp (cells_lit w (respC r vi vn) _ 40 rfl)
 have HZ := kp (respC_size r vi vn)
 have HB1 := kp hb1
 have HV := kp (show errR r = if validR r = true then 0 else 2 from rfl)
 clear hok hb1
 generalize respC r vi vn = l at *
 go_enter Tryz.func112, Tryz.ntmps112
 go_wp2_with ((with_reducible refine wpList_load_agg (o := ⟨some 6, _, _, _, _, _⟩) rfl 40 _ rfl ⟨w.heap.size, 0, none⟩ ?_ l _ HC.out Tryz.underlying40 rfl HZ.out ?_); (· rfl))
 refine HW.out.mono ?_
 rintro e w2 ⟨⟨p, A, n, c, rfl⟩, hb2⟩
 have HB2 := kp hb2
 have HE := HV.out
 cases hv : validR r
 ·rw [hv] at HE
  have he : errR r = 2 := HE
  clear HE
  rw [he]
  go_wp2_with fail
  go_ret
  exact rb hv (HB1.out.trans ((HB2.out.alloc HB2.out.size _).mono HB1.out.size))
 ·rw [hv] at HE
  have he : errR r = 0 := HE
  clear HE
  rw [he]
  go_wp2_with fail
  go_ret
  exact rb hv (HB1.out.trans ((HB2.out.alloc HB2.out.size _).mono HB1.out.size))
end Go.Proofs.YtnjhpgmbfblgaaaGreat.Ord
