/- Walk of response.Read at the bytes of a response that may be written. -/
import Derived.Test.YtnjhpgmbfblgaaaGreatMN9
import Derived.Test.YtnjhpgmbfblgaaaGreatMR25
namespace Go.Proofs.YtnjhpgmbfblgaaaGreat.Ord
set_option maxRecDepth 100000
set_option maxHeartbeats 16000000
open Go.RowKit
set_option linter.unusedVariables false
set_option linter.unusedSimpArgs false
theorem respC_size (r : RespR) (vi vn : Value) : (Tryz.prog.info? 40).map (·.size) = some (respC r vi vn).length := by
 show _ = some 6
 kernel_rfl
theorem respC_sizeA (r : RespR) (vi vn : Value) : (Tryz.prog.info? 40).map (·.size) = some (respC r vi vn).toArray.size := by
 show _ = some 6
 kernel_rfl
theorem respC_one (r : RespR) {vi vn : Value} (h1 : vi.oneCell' = true) (h2 : vn.oneCell' = true) : (respC r vi vn).toArray.all (·.oneCell') = true := all_oneCell_toArray fun v hv => by
 simp only [respC, List.mem_cons, List.not_mem_nil, or_false] at hv
 rcases hv with rfl | rfl | rfl | rfl | rfl | rfl <;> first | rfl | assumption
theorem iflat_at (L : List (ItemR × Value)) {i j : Nat} {p : ItemR × Value} {v : Value} (h : L[i]? = some p) (hj : (itemL p.1.mark p.2 p.1.ver p.1.dead)[j]? = some v) : (iflat L)[i * 4 + j]? = some v := by
 have hl : j < 4 := (List.getElem?_eq_some_iff.1 hj).1
 induction L generalizing i with
 | nil => simp at h
 | cons a L ih =>
  have e : iflat (a :: L) = itemL a.1.mark a.2 a.1.ver a.1.dead ++ iflat L := by simp [iflat]
  have h4 : (itemL a.1.mark a.2 a.1.ver a.1.dead).length = 4 := rfl
  cases i with
  | zero =>
   simp at h
   subst h
   rw [e, List.getElem?_append_left (by omega), Nat.zero_mul, Nat.zero_add]
   exact hj
  | succ i =>
   rw [e, List.getElem?_append_right (by omega), h4, show (i + 1) * 4 + j - 4 = i * 4 + j by omega]
   exact ih (by simpa using h)
section
variable {w w' : World} {lo X R D : Nat} {x : RespR} {vi vn : Value} {rest : List Int}
theorem XR.one (h : XR w lo X R x vi vn rest) : vi.oneCell' = true /\ vn.oneCell' = true := by
 refine ⟨?_, ?_⟩
 ·rcases h.items with ⟨_, e⟩ | ⟨g, L, e, _⟩ <;> rw [e] <;> rfl
 ·obtain ⟨A, c, e⟩ := own_slc h.nums
  rw [e]
  rfl
/-- what is read may be handed out -/
theorem XR.resp (h : XR w lo X R x vi vn rest) (hk : Kept [D] w w') (hD : D < lo) (hv : ∀ y ∈ x.items, (∀ z ∈ y.val, 0 <= z /\ z < 256) /\ y.val.length <= 3000) (hil : x.items.length <= 100) (hnl : x.nums.length <= 100) : RespOk w' w'.heap.size x vi vn := by
 refine ⟨⟨by unfold maxLen; omega, ?_⟩, by unfold maxLen; omega, ?_⟩
 ·rcases h.items with ⟨e1, e2⟩ | ⟨g, L, e, hg, hr, hm, hvs, _⟩
  ·rw [e1, e2]
   exact ⟨none, 0, rfl, fun i r hi => by simp at hi⟩
  ·refine ⟨_, _, e, fun i r hi => ?_⟩
   have hr' := hr.kept hk (by simp; omega)
   rw [<- hm, List.getElem?_map] at hi
   obtain ⟨p, hp, rfl⟩ : ∃ p, L[i]? = some p /\ p.1 = r := by
    cases e : L[i]? with
    | none => rw [e] at hi; simp at hi
    | some p => rw [e] at hi; simp at hi; exact ⟨p, rfl, hi⟩
   have hpm := List.mem_of_getElem? hp
   refine ⟨g, 0, p.2, rfl, hr'.lt, fun j v hj => ?_, ?_⟩
   ·rw [Addr.add_mid, Nat.zero_add]
    exact hr'.cell (iflat_at L hp hj)
   ·have hmem : p.1 ∈ x.items := by rw [<- hm]; exact List.mem_map_of_mem hpm
    obtain ⟨A, c, h1, h2, _⟩ := (hvs p hpm).kept hk (fun k hk => by simp at hk; exact .inl (by omega))
    exact ⟨(hv _ hmem).1, by have := (hv _ hmem).2; unfold maxLen; omega, A, c, h1, h2⟩
 ·have hn := hk.own2 h.nums fun k hk e => by
   simp at hk
   subst hk
   have := (h.nums.lt _ e).1
   omega
  rcases owns_shape hn (by decide) with ⟨e1, e2, e3⟩ | ⟨g, cap, e1, e2, e3, e4, e5⟩
  ·have : x.nums = [] := List.eq_nil_of_length_eq_zero (by omega)
   rw [this, e1]
   exact ⟨none, 0, rfl, fun i y hi => by simp at hi⟩
  ·refine ⟨_, _, e1, fun i y hi => ?_⟩
   have hil := (List.getElem?_eq_some_iff.1 hi).1
   refine ⟨g, 0, rfl, e3, ?_⟩
   have hn2 := hn
   rw [e1] at hn2
   rw [Nat.zero_add, hn2.cellAt i (by omega), List.getElem?_map, hi]
   rfl
end
def payR (r : RespR) : List Int := putV r.err.toNat ++ (if r.err = 0 then payP (partsOf r.op) r else [])
/-- the response with just the parts that it needs -/
def onlyR (r : RespR) : RespR := if r.err = 0 then (partsOf r.op).foldl (fun x p => getP p r x) (resp00 r.op 0) else resp00 r.op r.err
/-- what a response may be that is written -/
structure OkR (r : RespR) : Prop where
 op : 0 <= r.op /\ r.op <= 15
 err : 0 <= r.err /\ r.err <= 100000
 zero : r.op = 0 -> r.err ≠ 0
 parts : r.err = 0 -> (partsOf r.op).all (okP · r) = true
theorem fold_bounds (r : RespR) (hs : RespS r) : ∀ (ps : List Part) (x : RespR), (∀ y ∈ x.items, (∀ z ∈ y.val, 0 <= z /\ z < 256) /\ y.val.length <= 3000) -> x.items.length <= 100 -> x.nums.length <= 100 ->
  (∀ y ∈ (ps.foldl (fun x p => getP p r x) x).items, (∀ z ∈ y.val, 0 <= z /\ z < 256) /\ y.val.length <= 3000) /\ (ps.foldl (fun x p => getP p r x) x).items.length <= 100 /\ (ps.foldl (fun x p => getP p r x) x).nums.length <= 100
 | [], x, h1, h2, h3 => ⟨h1, h2, h3⟩
 | p :: ps, x, h1, h2, h3 => by
  have hz : (∀ z ∈ zI.val, 0 <= z /\ z < 256) /\ zI.val.length <= 3000 := by simp [zI]
  refine fold_bounds r hs ps (getP p r x) ?_ ?_ ?_ <;> cases p <;> simp only [getP]
  all_goals first
   | exact h1
   | exact h2
   | exact h3
   | exact hs.nnums
   | (intro y hy; simp at hy; subst hy; exact hz)
   | (intro y hy; obtain ⟨z, hz1, rfl⟩ := List.mem_map.1 hy; unfold normI; split; exact hz; exact ⟨hs.bytes z hz1, hs.vals z hz1⟩)
   | (intro y hy; rw [List.mem_replicate] at hy; rw [hy.2]; exact hz)
   | (have := hs.nitems; simp; try omega)
theorem onlyR_bounds (r : RespR) (hs : RespS r) : (∀ y ∈ (onlyR r).items, (∀ z ∈ y.val, 0 <= z /\ z < 256) /\ y.val.length <= 3000) /\ (onlyR r).items.length <= 100 /\ (onlyR r).nums.length <= 100 := by
 unfold onlyR
 split
 ·exact fold_bounds r hs _ _ (by simp [resp00]) (by simp [resp00]) (by simp [resp00])
 ·simp [resp00]
def RdR (r : RespR) (w : World) (e : Ending) (w' : World) : Prop := ∃ vi vn, e = .returned (.tuple #[.agg (respC (onlyR r) vi vn).toArray, .int .i64 0]) /\ RespOk w' w'.heap.size (onlyR r) vi vn /\ Below w.heap.size w w'
theorem resp_zero_there {w : World} {D : Nat} (h : RowL w D 40 (respC (resp00 0 0) (.slice none 0 0) (.slice none 0 0))) (r : RespR) (vi vn : Value) : w.there D 0 (respC r vi vn).toArray.size := h.there (by simp [respC])
theorem respRead (r : RespR) (cd : Int) (hcd : cd = 64 + r.op) (hs : RespS r) (ho : OkR r) (A : Option Addr) (k c : Nat) (w : World) (hk : (payR r).length = k) (hA : Byt w w.heap.size A c (payR r)) :
  Calls Tryz.prog 234 #[.agg #[.int .u8 cd, .slice A k c]] w (RdR r w) := by
 obtain ⟨op, hop⟩ : ∃ op, r.op = op := ⟨_, rfl⟩
 obtain ⟨er, her⟩ : ∃ er : Nat, r.err = er := ⟨r.err.toNat, by have := ho.err; omega⟩
 have ho1 := ho.op
 have he1 := ho.err
 have hz1 := ho.zero
 rw [hop] at ho1 hz1 hcd
 rw [her] at he1 hz1
 have hw1 : IntKind.i64.wrap cd = cd := by simp [IntKind.wrap, IntKind.bits, IntKind.signed]; omega
 have hw2 : IntKind.i64.wrap (cd - 64) = op := by simp [IntKind.wrap, IntKind.bits, IntKind.signed]; omega
 have hw3 : IntKind.i64.wrap (er : Int) = er := by simp [IntKind.wrap, IntKind.bits, IntKind.signed]; omega
 have hkl : k <= 310000 := by
  have h1 := payP_len r hs 0
  have h2 := putV_len10 (n := r.err.toNat) (by omega)
  rw [<- hk]
  unfold payR
  simp only [List.drop_zero] at h1
  split <;> simp only [List.length_append, List.length_nil] <;> omega
 have hpay : payR r = putV er ++ (if er = 0 then payP (partsOf op) r else []) := by
  unfold payR
  rw [hop, her]
  simp
 have HP := kp (parts232 op)
 have hD0 := RowL.new (w.alloc (.cells #[.int .u8 cd, .slice A k c] 270)) 40 (respC (resp00 0 0) (.slice none 0 0) (.slice none 0 0))
 have hX0 := RowL.new ((w.alloc (.cells #[.int .u8 cd, .slice A k c] 270)).alloc (.cells (respC (resp00 0 0) (.slice none 0 0) (.slice none 0 0)).toArray 40)) 40 (respC (resp00 op 0) (.slice none 0 0) (.slice none 0 0))
 have hD1 := hD0.alloc (.cells (respC (resp00 op 0) (.slice none 0 0) (.slice none 0 0)).toArray 40)
 have hB1 := below3 w (.cells #[.int .u8 cd, .slice A k c] 270) (.cells (respC (resp00 0 0) (.slice none 0 0) (.slice none 0 0)).toArray 40) (.cells (respC (resp00 op 0) (.slice none 0 0) (.slice none 0 0)).toArray 40)
 have hf0 := RowL.new w 270 [.int .u8 cd, .slice A k c]
 have hf1 := (hf0.alloc (.cells (respC (resp00 0 0) (.slice none 0 0) (.slice none 0 0)).toArray 40)).alloc (.cells (respC (resp00 op 0) (.slice none 0 0) (.slice none 0 0)).toArray 40)
 have hs1 : (((w.alloc (.cells #[.int .u8 cd, .slice A k c] 270)).alloc (.cells (respC (resp00 0 0) (.slice none 0 0) (.slice none 0 0)).toArray 40)).alloc (.cells (respC (resp00 op 0) (.slice none 0 0) (.slice none 0 0)).toArray 40)).heap.size = w.heap.size + 3 := by simp
 obtain ⟨W1, hW1⟩ : ∃ W1, W1 = ((w.alloc (.cells #[.int .u8 cd, .slice A k c] 270)).alloc (.cells (respC (resp00 0 0) (.slice none 0 0) (.slice none 0 0)).toArray 40)).alloc (.cells (respC (resp00 op 0) (.slice none 0 0) (.slice none 0 0)).toArray 40) := ⟨_, rfl⟩
 rw [<- hW1] at hX0 hD1 hB1 hf1 hs1
 have hA1 : Byt W1 W1.heap.size A c (payR r) := (hA.below hB1 (Nat.le_refl _)).mono hB1.size
 have hsX : ((w.alloc (.cells #[.int .u8 cd, .slice A k c] 270)).alloc (.cells (respC (resp00 0 0) (.slice none 0 0) (.slice none 0 0)).toArray 40)).heap.size = w.heap.size + 1 + 1 := by simp
 have hsD : (w.alloc (.cells #[.int .u8 cd, .slice A k c] 270)).heap.size = w.heap.size + 1 := by simp
 rw [hsX] at hX0
 rw [hsD] at hD1
 have HX0 := kp hX0
 have HD1 := kp hD1
 have HB1 := kp hB1
 have HF1 := kp hf1
 have HA1 := kp hA1
 have HK := kp hk
 have HPAY := kp hpay
 have HO := kp ho
 have HS := kp hs
 have HOP := kp hop
 have HER := kp her
 have HCD := kp hcd
 clear hD0 hf0 hX0 hD1 hB1 hf1 hA1 hA hk hpay ho hs hop her hcd hsX hsD
 simp only [respC, resp00] at hW1
 go_enter Tryz.func234, Tryz.ntmps234
 go_wp2_with fail
 rw [<- hW1]
 clear hW1
 refine (HP.out W1).mono ?_
 rintro e w2 ⟨G, cp, rfl, hG2, hGlo, hb2⟩
 have HG2 := kp hG2
 have HB2 := kp hb2
 have HGL := kp hGlo
 have f1 : w2.cell? ⟨w.heap.size, 1, none⟩ = some (.slice A k c) := (HF1.out.of_block (hb2.block _ (by omega))).cell rfl
 clear hG2 hb2 hGlo
 go_wp2_with fail
 refine (new_any A k c (payR r) w2 HK.out (by omega) ((HA1.out.below HB2.out (Nat.le_refl _)).mono HB2.out.size)).mono ?_
 rintro e w3 ⟨R, v3, rfl, hRs, hR3, hv3, hb3⟩
 have hs2 := HB2.out.size
 have hs3 := hb3.size
 have hRl := World.rowIs.lt hR3
 have hgl2 := HG2.out.lt
 have hGlo := HGL.out
 have hb13 : Below W1.heap.size W1 w3 := HB2.out.trans (hb3.mono hs2)
 have hX3 := HX0.out.of_block (hb13.block _ (by omega))
 have hD3 := HD1.out.of_block (hb13.block _ (by omega))
 have hG3 := HG2.out.of_block (hb3.block _ hgl2)
 have hXR3 : XR w3 w3.heap.size (w.heap.size + 1 + 1) R (resp00 op 0) (.slice none 0 0) (.slice none 0 0) (putV er ++ (if er = 0 then payP (partsOf op) r else [])) := by
  obtain ⟨A3, c3, rfl, hby, hn⟩ := hv3 [R, w.heap.size + 1 + 1] (fun j hj => by simp at hj; omega)
  rw [HPAY.out] at hR3 hby
  exact ⟨hX3, by omega, by omega, hRl, Nat.le_refl _, ⟨A3, c3, hR3, hby, fun b off e _ => by have := hn b off e; simp at this; exact ⟨this.1, this.2, by simp [Value.ownBlock], by simp [Value.ownBlock]⟩⟩, .inl ⟨rfl, rfl⟩, World.ownsRow_nil _ _ _ _⟩
 obtain ⟨lo, hlo⟩ : ∃ lo, w3.heap.size = lo := ⟨_, rfl⟩
 rw [hlo] at hXR3
 have HB13 := kp (HB1.out.trans (hb13.mono HB1.out.size))
 have HD3 := kp hD3
 have HG3 := kp hG3
 obtain ⟨v, a1, a2⟩ := hXR3.ask (putV_ne er _)
 have hrl : (if er = 0 then payP (partsOf op) r else []).length <= 310000 := by
  have h1 := HK.out
  rw [HPAY.out, List.length_append] at h1
  omega
 have HRD := kp (read305 (nlX (w.heap.size + 1 + 1) R (.slice none 0 0) (.slice none 0 0)) R er 100000 (by simp [nlX]) v _ w3 (by omega) (by omega) a1 a2)
 rw [show decide (er <= 100000) = true by simp; omega] at HRD
 have HXR3 := kp hXR3
 have HGX := kp (show G < lo /\ G ≠ w.heap.size + 1 + 1 /\ G ≠ R by omega)
 have HLO := kp (show w.heap.size + 3 <= lo /\ R < lo /\ w.heap.size + 3 <= R by omega)
 clear hXR3 hX3 hD3 hG3 hR3 hv3 hb13 hb3 a1 a2 f1 hs2 hs3 hRl hgl2 hGlo hRs hrl hs1
 go_wp2_with fail
 refine HRD.out.mono ?_
 rintro e w4 ⟨rfl, v4, h1, h2, h3⟩
 have h4 := HXR3.out.told h3 h1 h2
 have hk4 := KX.of_kept (lo := lo) (X := w.heap.size + 1 + 1) (R := R) h3 HXR3.out.hlo (by simp)
 have c1 : w4.cell? ⟨w.heap.size + 1 + 1, 1, none⟩ = some (.int .i64 0) := h4.row.cell rfl
 have f1 : w4.frozen? ⟨w.heap.size + 1 + 1, 1, none⟩ = false := h4.row.frozen 1
 have hE := h4.setF (j := 1) (u := .int .i64 er) (x' := resp00 op er) rfl rfl rfl
 have c0' : (w4.setCell ⟨w.heap.size + 1 + 1, 1, none⟩ (.int .i64 er)).cell? ⟨w.heap.size + 1 + 1, 0, none⟩ = some (.int .i64 op) := hE.1.row.cell rfl
 have HX4 := kp hE.1
 have HK4 := kp (hk4.trans hE.2)
 have g1 : decide (op < 0) = false := by simp; omega
 have g2 : decide (15 < op) = false := by simp; omega
 have hoz : Hid (isOp op = false -> er ≠ 0) := kp fun h => by simp [isOp] at h; omega
 clear h1 h2 h3 h4 hk4 hE
 by_cases h0 : er = 0
 ·subst h0
  have hiso : isOp op = true := by
   cases e : isOp op
   ·exact absurd rfl (hoz.out e)
   ·rfl
  rw [hiso]
  obtain ⟨n, hn⟩ : ∃ n, (partsOf op).length = n := ⟨_, rfl⟩
  have hn2 : n <= 2 := by rw [<- hn]; exact partsOf_len op
  rw [hn]
  have HN := kp hn
  have HALL := kp (by have := HO.out.parts (by rw [HER.out]; rfl); rwa [HOP.out] at this)
  obtain ⟨W9, hW9⟩ : ∃ W9, w4.setCell ⟨w.heap.size + 1 + 1, 1, none⟩ (.int .i64 0) = W9 := ⟨_, rfl⟩
  have hX9 : XR W9 lo (w.heap.size + 1 + 1) R (resp00 op 0) (.slice none 0 0) (.slice none 0 0) (payP (partsOf op) r) := by rw [<- hW9]; exact HX4.out
  have HK9 : Hid (KX lo (w.heap.size + 1 + 1) R w3 W9) := kp (by rw [<- hW9]; exact HK4.out)
  have c09 : W9.cell? ⟨w.heap.size + 1 + 1, 0, none⟩ = some (.int .i64 op) := hX9.row.cell rfl
  have HXI := kp (hX9.cong (rest' := payP ((partsOf op).drop 0) r) (by simp))
  have HW9 := kp hW9
  clear hX9 hW9
  have HCH := kp (by have := chain_parts r (HO.out.parts (by rw [HER.out]; rfl)); rwa [HOP.out] at this)
  have HFO := kp (show (partsOf op).foldl (fun x p => getP p r x) (resp00 op 0) = onlyR r by unfold onlyR; rw [HER.out, HOP.out]; rfl)
  clear hn hiso
  go_upto_region 6 with (fail)
  rw [HW9.out]
  clear c0' c1 f1
  go_wp2_with fail
  go_loopw [59] (fun j wr => ∃ (q : Nat) (x : RespR) (vi vn : Value), q <= n /\ j = .int .i64 q /\ ChainP r ((partsOf op).drop q) x /\ ((partsOf op).drop q).foldl (fun x p => getP p r x) x = onlyR r /\ XR wr lo (w.heap.size + 1 + 1) R x vi vn (payP ((partsOf op).drop q) r) /\ KX lo (w.heap.size + 1 + 1) R w3 wr) (fun j _ => n - (intOf j).toNat)
  case atStart => exact ⟨0, resp00 op 0, _, _, Nat.zero_le _, by go_num, HCH.out, HFO.out, HXI.out, HK9.out⟩
  case round =>
   obtain ⟨q, x, vi, vn, hq, rfl, hch, hfo, hx, hkx⟩ := hrel
   have HX := kp hx
   have HKX := kp hkx
   have HFX := kp hfo
   clear hx hkx hfo c09
   by_cases hlt : q < n
   ·have hg : decide ((q : Int) < (n : Int)) = true := by simp; omega
    have hqp : q < (partsOf op).length := by rw [HN.out]; exact hlt
    obtain ⟨p, hpe⟩ : ∃ p, (partsOf op)[q] = p := ⟨_, rfl⟩
    have hp : (partsOf op)[q]? = some p := by rw [List.getElem?_eq_getElem hqp, hpe]
    have hdr : (partsOf op).drop q = p :: (partsOf op).drop (q + 1) := by rw [List.drop_eq_getElem_cons hqp, hpe]
    rw [hdr] at hch
    have hokp : okP p r = true := List.all_eq_true.1 HALL.out p (List.mem_of_getElem? hp)
    have hGr := HKX.out.row HG3.out HGX.out.1 HGX.out.2.1 HGX.out.2.2
    obtain ⟨hp1, hp2⟩ := parts_at (partsOf op) hp
    have q1 : wr.cell? ⟨G, q * 2, none⟩ = some (.func (.func (putFn p)) #[] #[]) := hGr.cell hp1
    have q2 : wr.cell? ⟨G, q * 2 + 1, none⟩ = some (.func (.func (getFn p)) #[] #[]) := hGr.cell hp2
    have HST := kp (stored_zero wr 332 (partC p) [.nilFunc, .nilFunc] rfl)
    have HTH := kp (there_zero wr 332 (partC p) [.nilFunc, .nilFunc] rfl)
    have q3 : ((wr.alloc (.cells #[.nilFunc, .nilFunc] 332)).setCells wr.heap.size 0 (partC p)).cell? ⟨wr.heap.size, 1, none⟩ = some (.func (.func (getFn p)) #[] #[]) := HST.out.1.cell rfl
    have eg := get_enter p
    have HXW := kp ((HX.out.below HST.out.2).cong (rest' := putP p r ++ payP ((partsOf op).drop (q + 1)) r) (by rw [hdr]; simp [payP]))
    have HKW := kp (HKX.out.trans (KX.of_below lo (w.heap.size + 1 + 1) R HST.out.2 HX.out.hlo))
    have hpl := payP_len r HS.out (q + 1)
    rw [HOP.out] at hpl
    have HGP := kp (get_part p r HS.out hokp hch.1 HXW.out (by omega))
    have HCN := kp hch.2
    have HFN := kp (show ((partsOf op).drop (q + 1)).foldl (fun x p => getP p r x) (getP p r x) = onlyR r by rw [<- HFX.out, hdr]; rfl)
    clear hpe hp hdr hch hokp hGr hp1 hp2 hqp hpl
    simp only [partC] at q3 HTH HGP
    go_wp2_with ((with_reducible refine wpList_store_at2 (op := ⟨none, _, _, _, _, _⟩) rfl 332 _ _ rfl wr.heap.size 0 #[.func (.func (putFn p)) #[] #[], .func (.func (getFn p)) #[] #[]] ?_ ?_ ?_ ?_ ?_ ?_); (· rfl); (· rfl); (· exact HTH.out); (· exact part_size); (· simp [Value.oneCell']); intro w7 hw7)
    refine HGP.out.mono ?_
    rintro e w8 ⟨rfl, hk8, vi8, vn8, hx8⟩
    have HX8 := kp hx8
    have HK8 := kp (HKW.out.trans hk8)
    clear hx8 hk8
    go_wp2_with fail
    go_roundw
    case rel => exact ⟨q + 1, getP p r x, vi8, vn8, by omega, by go_num, HCN.out, HFN.out, HX8.out, HK8.out⟩
    case measure => simp [intOf]; omega
   ·obtain rfl : q = n := by omega
    have hg : decide ((q : Int) < (q : Int)) = false := by simp
    have hdn : (partsOf op).drop q = [] := List.drop_of_length_le (by rw [HN.out]; exact Nat.le_refl _)
    have hfx := HFX.out
    rw [hdn] at hfx
    have hx9 : XR wr lo (w.heap.size + 1 + 1) R (onlyR r) vi vn [] := by have := HX.out; rw [hdn] at this; rw [<- hfx]; exact this
    obtain ⟨vi', rfl⟩ : ∃ vi', vi' = vi := ⟨_, rfl⟩
    obtain ⟨vn', rfl⟩ : ∃ vn', vn' = vn := ⟨_, rfl⟩
    have HXF := kp hx9
    have HKF := kp HKX.out
    clear hdn hfx hx9 hch
    obtain ⟨AR, cR, hR1, hby1, _⟩ := HXF.out.rd
    have hr1 : wr.cell? ⟨R, 1, none⟩ = some (.slice AR 0 cR) := World.rowIs.cell hR1 (i := 1) (by decide)
    have HDW := kp (HKF.out.row HD3.out (by have := HLO.out; omega) (by omega) (by have := HLO.out; omega))
    have HCX := kp HXF.out.row.cells
    have HONE := kp HXF.out.one
    clear hR1 hby1
    go_wp2_with fail
    go_enter Tryz.func306, Tryz.ntmps306
    have HSZ := kp (respC_size (onlyR r) vi' vn')
    have HSA := kp (respC_sizeA (onlyR r) vi' vn')
    go_wp2_with (first
     | ((with_reducible refine wpList_load_agg (o := ⟨some 74, _, _, _, _, _⟩) rfl 40 _ rfl ⟨w.heap.size + 1 + 1, 0, none⟩ ?_ (respC (onlyR r) vi' vn') _ HCX.out Tryz.underlying40 rfl HSZ.out ?_); (· rfl))
     | ((with_reducible refine wpList_store_at2 (op := ⟨none, _, _, _, _, _⟩) rfl 40 _ _ rfl (w.heap.size + 1) 0 (respC (onlyR r) vi' vn').toArray ?_ ?_ ?_ HSA.out ?_ ?_); (· rfl); (· rfl); (· exact resp_zero_there HDW.out _ _ _); (· exact respC_one _ HONE.out.1 HONE.out.2); intro w9 hw9))
    have hD9 := store_all HDW.out (respC (onlyR r) vi' vn') rfl
    have hc9 := row_cells hD9 (respC (onlyR r) vi' vn') rfl fun i hi => rfl
    have hk9 : Kept [w.heap.size + 1] wr (wr.setCells (w.heap.size + 1) 0 (respC (onlyR r) vi' vn')) := kept_setCells (by simp) _ _ _ (Kept.refl _ _)
    have hob := onlyR_bounds r HS.out
    refine bodyPost_ret (results_cell2 rfl _ _ ⟨w.heap.size + 1, 0, none⟩ (respC (onlyR r) vi' vn').toArray rfl (run_loadVar_at _ _ _ _ _ hc9 Tryz.underlying40 rfl (respC_size _ _ _))) rfl ⟨vi', vn', rfl, ?_, ?_⟩
    ·exact HXF.out.resp hk9 (by have := HLO.out; omega) hob.1 hob.2.1 hob.2.2
    ·exact HB13.out.trans ((HKF.out.below (by have := HLO.out; omega) (by omega) (by have := HLO.out; omega)).trans (hk9.below (Nat.le_trans (Nat.le_trans (by have := HLO.out; omega) HXF.out.hlo) (Nat.le_refl _)) (by simp)))
 ·have hne : ((er : Int) == 0) = false := by simp; omega
  have hon : onlyR r = resp00 op er := by unfold onlyR; rw [HER.out, HOP.out, if_neg (by omega)]
  have hx9 : XR (w4.setCell ⟨w.heap.size + 1 + 1, 1, none⟩ (.int .i64 er)) lo (w.heap.size + 1 + 1) R (onlyR r) (.slice none 0 0) (.slice none 0 0) [] := by rw [hon]; exact HX4.out.cong (if_neg h0)
  obtain ⟨W9, hW9⟩ : ∃ W9, w4.setCell ⟨w.heap.size + 1 + 1, 1, none⟩ (.int .i64 er) = W9 := ⟨_, rfl⟩
  rw [hW9] at hx9
  have HK9 := kp HK4.out
  have c09 := c0'
  rw [hW9] at HK9 c09
  obtain ⟨vi', hvi'⟩ : ∃ vi', vi' = Value.slice none 0 0 := ⟨_, rfl⟩
  obtain ⟨vn', hvn'⟩ : ∃ vn', vn' = Value.slice none 0 0 := ⟨_, rfl⟩
  have hx10 : XR W9 lo (w.heap.size + 1 + 1) R (onlyR r) vi' vn' [] := by rw [hvi', hvn']; exact hx9
  have HW9 := kp hW9
  clear hW9 hx9 hvi' hvn' hon
  cases hb : isOp op
  iterate 2
   ·go_upto_region 6 with (fail)
    rw [HW9.out]
    clear c0' c1 f1
    have HXF := kp hx10
    have HKF := kp HK9.out
    clear hx10
    obtain ⟨AR, cR, hR1, hby1, _⟩ := HXF.out.rd
    have hr1 : W9.cell? ⟨R, 1, none⟩ = some (.slice AR 0 cR) := World.rowIs.cell hR1 (i := 1) (by decide)
    have HDW := kp (HKF.out.row HD3.out (by have := HLO.out; omega) (by omega) (by have := HLO.out; omega))
    have HCX := kp HXF.out.row.cells
    have HONE := kp HXF.out.one
    clear hR1 hby1
    go_wp2_with fail
    go_enter Tryz.func306, Tryz.ntmps306
    have HSZ := kp (respC_size (onlyR r) vi' vn')
    have HSA := kp (respC_sizeA (onlyR r) vi' vn')
    go_wp2_with (first
     | ((with_reducible refine wpList_load_agg (o := ⟨some 74, _, _, _, _, _⟩) rfl 40 _ rfl ⟨w.heap.size + 1 + 1, 0, none⟩ ?_ (respC (onlyR r) vi' vn') _ HCX.out Tryz.underlying40 rfl HSZ.out ?_); (· rfl))
     | ((with_reducible refine wpList_store_at2 (op := ⟨none, _, _, _, _, _⟩) rfl 40 _ _ rfl (w.heap.size + 1) 0 (respC (onlyR r) vi' vn').toArray ?_ ?_ ?_ HSA.out ?_ ?_); (· rfl); (· rfl); (· exact resp_zero_there HDW.out _ _ _); (· exact respC_one _ HONE.out.1 HONE.out.2); intro w9 hw9))
    have hD9 := store_all HDW.out (respC (onlyR r) vi' vn') rfl
    have hc9 := row_cells hD9 (respC (onlyR r) vi' vn') rfl fun i hi => rfl
    have hk9 : Kept [w.heap.size + 1] W9 (W9.setCells (w.heap.size + 1) 0 (respC (onlyR r) vi' vn')) := kept_setCells (by simp) _ _ _ (Kept.refl _ _)
    have hob := onlyR_bounds r HS.out
    refine bodyPost_ret (results_cell2 rfl _ _ ⟨w.heap.size + 1, 0, none⟩ (respC (onlyR r) vi' vn').toArray rfl (run_loadVar_at _ _ _ _ _ hc9 Tryz.underlying40 rfl (respC_size _ _ _))) rfl ⟨vi', vn', rfl, ?_, ?_⟩
    ·exact HXF.out.resp hk9 (by have := HLO.out; omega) hob.1 hob.2.1 hob.2.2
    ·exact HB13.out.trans ((HKF.out.below (by have := HLO.out; omega) (by omega) (by have := HLO.out; omega)).trans (hk9.below (Nat.le_trans (Nat.le_trans (by have := HLO.out; omega) HXF.out.hlo) (Nat.le_refl _)) (by simp)))
end Go.Proofs.YtnjhpgmbfblgaaaGreat.Ord
