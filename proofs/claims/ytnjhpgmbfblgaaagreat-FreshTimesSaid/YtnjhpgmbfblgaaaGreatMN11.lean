/- Walk of response.Read at the bytes of a response that may be written; Walks of. -/
import Derived.Test.YtnjhpgmbfblgaaaGreatMN9
import Derived.Test.YtnjhpgmbfblgaaaGreatMR10
set_option linter.unusedVariables false
set_option linter.unusedSimpArgs false
namespace Go.Proofs.YtnjhpgmbfblgaaaGreat.Ord
set_option maxRecDepth 100000
set_option maxHeartbeats 16000000
open Go.RowKit
theorem bb_ (r : RespR) (vi vn : Value) : (Tryz.prog.info? 40).map (·.size) = some (respC r vi vn).length := by
 show _ = some 6
 kernel_rfl
theorem ek_ (r : RespR) (vi vn : Value) : (Tryz.prog.info? 40).map (·.size) = some (respC r vi vn).toArray.size := by
 show _ = some 6
 kernel_rfl
theorem gE_ (r : RespR) {vi vn : Value} (h1 : vi.oneCell' = true) (h2 : vn.oneCell' = true) : (respC r vi vn).toArray.all (·.oneCell') = true := all_oneCell_toArray fun v hv => by
 simp only [respC, List.mem_cons, List.not_mem_nil, or_false] at hv
 rcases hv with rfl | rfl | rfl | rfl | rfl | rfl <;> first | rfl | assumption
theorem iflat_at (L : List (ItemR × Value)) {i j : Nat} {p : ItemR × Value} {v : Value} (h : L[i]? = some p) (hj : (aD_ p.1.mark p.2 p.1.ver p.1.dead)[j]? = some v) : (cd_ L)[i * 4 + j]? = some v := by
 have hl : j < 4 := (gS.1 hj).1
 induction L generalizing i with
 | nil => simp at h
 | cons a L ih =>
  have e : cd_ (a :: L) = aD_ a.1.mark a.2 a.1.ver a.1.dead ++ cd_ L := by simp [cd_]
  have h4 : (aD_ a.1.mark a.2 a.1.ver a.1.dead).length = 4 := rfl
  cases i with
  | zero =>
   simp at h
   subst h
   rw [e, aL (by omega), Nat.zero_mul, Nat.zero_add]
   exact hj
  | succ i =>
   rw [e, aR (by omega), h4, show (i + 1) * 4 + j - 4 = i * 4 + j by omega]
   exact ih (by simpa using h)
section
variable {w w' : World} {lo X R D : Nat} {x : RespR} {vi vn : Value} {rest : List Int}
theorem XR.one (h : XR w lo X R x vi vn rest) : vi.oneCell' = true /\ vn.oneCell' = true := by
 refine ⟨?_, ?_⟩
 ·rcases h.items with ⟨_, e⟩ | ⟨g, L, e, _⟩ <;> rw [e] <;> rfl
 obtain ⟨A, c, e⟩ := h1_ h.nums
 rw [e]
 rfl
theorem XR.resp (h : XR w lo X R x vi vn rest) (hk : Kept [D] w w') (hD : D < lo) (hv : ∀ y ∈ x.items, (∀ z ∈ y.val, 0 <= z /\ z < 256) /\ y.val.length <= 3000) (hil : x.items.length <= 100) (hnl : x.nums.length <= 100) : RespOk w' w'.heap.size x vi vn := by
 refine ⟨⟨by unfold maxLen; omega, ?_⟩, by unfold maxLen; omega, ?_⟩
 ·rcases h.items with ⟨e1, e2⟩ | ⟨g, L, e, hg, hr, hm, hvs, _⟩
  ·rw [e1, e2]
   exact ⟨none, 0, rfl, fun i r hi => by simp at hi⟩
  refine ⟨_, _, e, fun i r hi => ?_⟩
  have hr' := hr.kept hk (by simp; omega)
  rw [<- hm, gM] at hi
  obtain ⟨p, hp, rfl⟩ : ∃ p, L[i]? = some p /\ p.1 = r := by
   cases e : L[i]? with
   | none => rw [e] at hi; simp at hi
   | some p => rw [e] at hi; simp at hi; exact ⟨p, rfl, hi⟩
  have hpm := mG hp
  refine ⟨g, 0, p.2, rfl, hr'.lt, fun j v hj => ?_, ?_⟩
  ·rw [Addr.add_mid, Nat.zero_add]
   exact hr'.cell (iflat_at L hp hj)
  have hmem : p.1 ∈ x.items := by rw [<- hm]; exact List.mem_map_of_mem hpm
  obtain ⟨A, c, h1, h2, _⟩ := (hvs p hpm).kept hk (fun k hk => by simp at hk; exact .inl (by omega))
  exact ⟨(hv _ hmem).1, by have := (hv _ hmem).2; unfold maxLen; omega, A, c, h1, h2⟩
 have hn := hk.own2 h.nums fun k hk e => by
  simp at hk
  subst hk
  have := (h.nums.lt _ e).1
  omega
 rcases bc_ hn (by decide) with ⟨e1, e2, e3⟩ | ⟨g, cap, e1, e2, e3, e4, e5⟩
 ·have : x.nums = [] := eN (by omega)
  rw [this, e1]
  exact ⟨none, 0, rfl, fun i y hi => by simp at hi⟩
 refine ⟨_, _, e1, fun i y hi => ?_⟩
 have hil := (gS.1 hi).1
 refine ⟨g, 0, rfl, e3, ?_⟩
 have hn2 := hn
 rw [e1] at hn2
 rw [Nat.zero_add, hn2.cellAt i (by omega), gM, hi]
 rfl
end
def payR (r : RespR) : List Int := putV r.err.toNat ++ (if r.err = 0 then payP (aj_ r.op) r else [])
def a1_ (r : RespR) : RespR := if r.err = 0 then (aj_ r.op).foldl (fun x p => getP p r x) (ap_ r.op 0) else ap_ r.op r.err
structure OkR (r : RespR) : Prop where
 op : 0 <= r.op /\ r.op <= 15
 err : 0 <= r.err /\ r.err <= 100000
 zero : r.op = 0 -> r.err ≠ 0
 parts : r.err = 0 -> (aj_ r.op).all (okP · r) = true
theorem eK_ (r : RespR) (hs : RespS r) : ∀ (ps : List Part) (x : RespR), (∀ y ∈ x.items, (∀ z ∈ y.val, 0 <= z /\ z < 256) /\ y.val.length <= 3000) -> x.items.length <= 100 -> x.nums.length <= 100 ->
  (∀ y ∈ (ps.foldl (fun x p => getP p r x) x).items, (∀ z ∈ y.val, 0 <= z /\ z < 256) /\ y.val.length <= 3000) /\ (ps.foldl (fun x p => getP p r x) x).items.length <= 100 /\ (ps.foldl (fun x p => getP p r x) x).nums.length <= 100
 | [], x, h1, h2, h3 => ⟨h1, h2, h3⟩
 | p :: ps, x, h1, h2, h3 => by
  have hz : (∀ z ∈ zI.val, 0 <= z /\ z < 256) /\ zI.val.length <= 3000 := by simp [zI]
  refine eK_ r hs ps (getP p r x) ?_ ?_ ?_ <;> cases p <;> simp only [getP]
  all_goals first
   | exact h1
   | exact h2
   | exact h3
   | exact hs.nnums
   | (intro y hy; simp at hy; subst hy; exact hz)
   | (intro y hy; obtain ⟨z, hz1, rfl⟩ := List.mem_map.1 hy; unfold c2_; split; exact hz; exact ⟨hs.bytes z hz1, hs.vals z hz1⟩)
   | (intro y hy; rw [List.mem_replicate] at hy; rw [hy.2]; exact hz)
   | (have := hs.nitems; simp; try omega)
theorem dM_ (r : RespR) (hs : RespS r) : (∀ y ∈ (a1_ r).items, (∀ z ∈ y.val, 0 <= z /\ z < 256) /\ y.val.length <= 3000) /\ (a1_ r).items.length <= 100 /\ (a1_ r).nums.length <= 100 := by
 unfold a1_
 split
 ·exact eK_ r hs _ _ (by simp [ap_]) (by simp [ap_]) (by simp [ap_])
 simp [ap_]
def RdR (r : RespR) (w : World) (e : Ending) (w' : World) : Prop := ∃ vi vn, e = .returned (.tuple #[.agg (respC (a1_ r) vi vn).toArray, .int .i64 0]) /\ RespOk w' w'.heap.size (a1_ r) vi vn /\ Bw w w'
theorem cr_ {w : World} {D : Nat} (h : RowL w D 40 (respC (ap_ 0 0) (.slice none 0 0) (.slice none 0 0))) (r : RespR) (vi vn : Value) : w.there D 0 (respC r vi vn).toArray.size := h.there (by simp [respC])
theorem iB_ (r : RespR) (cd : Int) (hcd : cd = 64 + r.op) (hs : RespS r) (ho : OkR r) (A : Option Addr) (k c : Nat) (w : World) (hk : (payR r).length = k) (hA : Byt w w.heap.size A c (payR r)) :
  Calls Tryz.prog 234 #[.agg #[.int .u8 cd, .slice A k c]] w (RdR r w) := by
 obtain ⟨op, hop⟩ := eY r.op
 obtain ⟨er, her⟩ : ∃ er : Nat, r.err = er := ⟨r.err.toNat, by have := ho.err; omega⟩
 have ho1 := ho.op
 have he1 := ho.err
 have hz1 := ho.zero
 rw [hop] at ho1 hz1 hcd
 rw [her] at he1 hz1
 have hw1 : IntKind.i64.wrap cd = cd := by simp [IntKind.wrap, IntKind.bits, IntKind.signed]; omega
 have hw2 : IntKind.i64.wrap (cd - 64) = op := by simp [IntKind.wrap, IntKind.bits, IntKind.signed]; omega
 have hw3 : IntKind.i64.wrap (er : Int) = er := by simp [IntKind.wrap, IntKind.bits, IntKind.signed]; omega
 have hkl : k <= 310000 := by
  have h1 := gc_ r hs 0
  have h2 := ad_ (n := r.err.toNat) (by omega)
  rw [<- hk]
  unfold payR
  simp only [List.drop_zero] at h1
  split <;> simp only [lA, List.length_nil] <;> omega
 have hpay : payR r = putV er ++ (if er = 0 then payP (aj_ op) r else []) := by
  unfold payR
  rw [hop, her]
  simp
 have HP := kp (iJ_ op)
 have hD0 := RowL.new (w.alloc (.cells #[.int .u8 cd, .slice A k c] 270)) 40 (respC (ap_ 0 0) (.slice none 0 0) (.slice none 0 0))
 have hX0 := RowL.new ((w.alloc (.cells #[.int .u8 cd, .slice A k c] 270)).alloc (.cells (respC (ap_ 0 0) (.slice none 0 0) (.slice none 0 0)).toArray 40)) 40 (respC (ap_ op 0) (.slice none 0 0) (.slice none 0 0))
 have hD1 := hD0.alloc (.cells (respC (ap_ op 0) (.slice none 0 0) (.slice none 0 0)).toArray 40)
 have hB1 := dS_ w (.cells #[.int .u8 cd, .slice A k c] 270) (.cells (respC (ap_ 0 0) (.slice none 0 0) (.slice none 0 0)).toArray 40) (.cells (respC (ap_ op 0) (.slice none 0 0) (.slice none 0 0)).toArray 40)
 have hf0 := RowL.new w 270 [.int .u8 cd, .slice A k c]
 have hf1 := (hf0.alloc (.cells (respC (ap_ 0 0) (.slice none 0 0) (.slice none 0 0)).toArray 40)).alloc (.cells (respC (ap_ op 0) (.slice none 0 0) (.slice none 0 0)).toArray 40)
 have hs1 : (((w.alloc (.cells #[.int .u8 cd, .slice A k c] 270)).alloc (.cells (respC (ap_ 0 0) (.slice none 0 0) (.slice none 0 0)).toArray 40)).alloc (.cells (respC (ap_ op 0) (.slice none 0 0) (.slice none 0 0)).toArray 40)).heap.size = w.heap.size + 3 := by simp
 obtain ⟨W1, hW1⟩ := eX (((w.alloc (.cells #[.int .u8 cd, .slice A k c] 270)).alloc (.cells (respC (ap_ 0 0) (.slice none 0 0) (.slice none 0 0)).toArray 40)).alloc (.cells (respC (ap_ op 0) (.slice none 0 0) (.slice none 0 0)).toArray 40))
 rw [<- hW1] at hX0 hD1 hB1 hf1 hs1
 have hA1 : Byt W1 W1.heap.size A c (payR r) := (hA.below hB1 (lR _)).mono hB1.size
 have hsX : ((w.alloc (.cells #[.int .u8 cd, .slice A k c] 270)).alloc (.cells (respC (ap_ 0 0) (.slice none 0 0) (.slice none 0 0)).toArray 40)).heap.size = w.heap.size + 1 + 1 := by simp
 have hsD : (w.alloc (.cells #[.int .u8 cd, .slice A k c] 270)).heap.size = w.heap.size + 1 := by simp
 rw [hsX] at hX0
 rw [hsD] at hD1
 obtain ⟨Bg, Bo, Bc, Bn, Br, HK, Ae, HO, HS, Af, Ak, Bs⟩ := kq12 hX0 hD1 hB1 hf1 hA1 hk hpay ho hs hop her hcd
 clear hD0 hf0 hX0 hD1 hB1 hf1 hA1 hA hk hpay ho hs hop her hcd hsX hsD
 simp only [respC, ap_] at hW1
 go_enter Tryz.func234, Tryz.ntmps234
 go_wp2_with fail
 rw [<- hW1]
 clear hW1
 refine (HP.o W1).mono ?_
 rintro e w2 ⟨G, cp, rfl, hG2, hGlo, hb2⟩
 obtain ⟨Az, Al, Bj⟩ := kq3 hG2 hb2 hGlo
 have f1 : w2.cell? ⟨w.heap.size, 1, none⟩ = some (.slice A k c) := (Bn.o.of_block (hb2.block _ (by omega))).cell rfl
 clear hG2 hb2 hGlo
 go_wp2_with fail
 refine (kI_ A k c (payR r) w2 HK.o (by omega) ((Br.o.below Al.o (lR _)).mono Al.o.size)).mono ?_
 rintro e w3 ⟨R, v3, rfl, hRs, hR3, hv3, hb3⟩
 have hs2 := Al.o.size
 have hs3 := hb3.size
 have hRl := World.rowIs.lt hR3
 have hgl2 := Az.o.lt
 have hGlo := Bj.o
 have hb13 : Bw W1 w3 := Al.o.trans (hb3.mono hs2)
 have hX3 := Bg.o.of_block (hb13.block _ (by omega))
 have hD3 := Bo.o.of_block (hb13.block _ (by omega))
 have hG3 := Az.o.of_block (hb3.block _ hgl2)
 have hXR3 : XR w3 w3.heap.size (w.heap.size + 1 + 1) R (ap_ op 0) (.slice none 0 0) (.slice none 0 0) (putV er ++ (if er = 0 then payP (aj_ op) r else [])) := by
  obtain ⟨A3, c3, rfl, hby, hn⟩ := hv3 [R, w.heap.size + 1 + 1] (fun j hj => by simp at hj; omega)
  rw [Ae.o] at hR3 hby
  exact ⟨hX3, by omega, by omega, hRl, lR _, ⟨A3, c3, hR3, hby, fun b off e _ => by have := hn b off e; simp at this; exact ⟨this.1, this.2, by simp [Value.ownBlock], by simp [Value.ownBlock]⟩⟩, .inl ⟨rfl, rfl⟩, World.ownsRow_nil _ _ _ _⟩
 obtain ⟨lo, hlo⟩ := eY w3.heap.size
 rw [hlo] at hXR3
 obtain ⟨Ai, Bb, Bk⟩ := kq3 (Bc.o.trans (hb13.mono Bc.o.size)) hD3 hG3
 obtain ⟨v, a1, a2⟩ := hXR3.ask (bT_ er _)
 have hrl : (if er = 0 then payP (aj_ op) r else []).length <= 310000 := by
  have h1 := HK.o
  rw [Ae.o, lA] at h1
  omega
 have Aw := kp (cX_ (nlX (w.heap.size + 1 + 1) R (.slice none 0 0) (.slice none 0 0)) R er 100000 (by simp [nlX]) v _ w3 (by omega) (by omega) a1 a2)
 rw [show decide (er <= 100000) = true by simp; omega] at Aw
 obtain ⟨Ad, Ar, Aa⟩ := kq3 hXR3 (show G < lo /\ G ≠ w.heap.size + 1 + 1 /\ G ≠ R by omega) (show w.heap.size + 3 <= lo /\ R < lo /\ w.heap.size + 3 <= R by omega)
 clear hXR3 hX3 hD3 hG3 hR3 hv3 hb13 hb3 a1 a2 f1 hs2 hs3 hRl hgl2 hGlo hRs hrl hs1
 go_wp2_with fail
 refine Aw.o.mono ?_
 rintro e w4 ⟨rfl, v4, h1, h2, h3⟩
 have h4 := Ad.o.told h3 h1 h2
 have hk4 := KX.of_kept (lo := lo) (X := w.heap.size + 1 + 1) (R := R) h3 Ad.o.hlo (by simp)
 have c1 : w4.cell? ⟨w.heap.size + 1 + 1, 1, none⟩ = some (.int .i64 0) := h4.row.cell rfl
 have f1 : w4.frozen? ⟨w.heap.size + 1 + 1, 1, none⟩ = false := h4.row.frozen 1
 have hE := h4.setF (j := 1) (u := .int .i64 er) (x' := ap_ op er) rfl rfl rfl
 have c0' : (w4.setCell ⟨w.heap.size + 1 + 1, 1, none⟩ (.int .i64 er)).cell? ⟨w.heap.size + 1 + 1, 0, none⟩ = some (.int .i64 op) := hE.1.row.cell rfl
 obtain ⟨Au, Ax⟩ := kq2 hE.1 (hk4.trans hE.2)
 have g1 : decide (op < 0) = false := by simp; omega
 have g2 : decide (15 < op) = false := by simp; omega
 have hoz : Hid (isOp op = false -> er ≠ 0) := kp fun h => by simp [isOp] at h; omega
 clear h1 h2 h3 h4 hk4 hE
 by_cases h0 : er = 0
 ·subst h0
  have hiso : isOp op = true := by
   cases e : isOp op
   ·exact absurd rfl (hoz.o e)
   rfl
  rw [hiso]
  obtain ⟨n, hn⟩ := eY ((aj_ op).length)
  have hn2 : n <= 2 := by rw [<- hn]; exact c0_ op
  rw [hn]
  obtain ⟨HN, At⟩ := kq2 hn (by have := HO.o.parts (by rw [Ak.o]; rfl); rwa [Af.o] at this)
  obtain ⟨W9, hW9⟩ := eY (w4.setCell ⟨w.heap.size + 1 + 1, 1, none⟩ (.int .i64 0))
  have hX9 : XR W9 lo (w.heap.size + 1 + 1) R (ap_ op 0) (.slice none 0 0) (.slice none 0 0) (payP (aj_ op) r) := by rw [<- hW9]; exact Au.o
  have Aj : Hid (KX lo (w.heap.size + 1 + 1) R w3 W9) := kp (by rw [<- hW9]; exact Ax.o)
  have c09 : W9.cell? ⟨w.heap.size + 1 + 1, 0, none⟩ = some (.int .i64 op) := hX9.row.cell rfl
  obtain ⟨Be, Am⟩ := kq2 (hX9.cong (rest' := payP ((aj_ op).drop 0) r) (by simp)) hW9
  clear hX9 hW9
  obtain ⟨Bq, Bl⟩ := kq2 (by have := io_ r (HO.o.parts (by rw [Ak.o]; rfl)); rwa [Af.o] at this) (show (aj_ op).foldl (fun x p => getP p r x) (ap_ op 0) = a1_ r by unfold a1_; rw [Ak.o, Af.o]; rfl)
  clear hn hiso
  go_upto_region 6 with (fail)
  rw [Am.o]
  clear c0' c1 f1
  go_wp2_with fail
  go_loopw [59] (fun j wr => ∃ (q : Nat) (x : RespR) (vi vn : Value), q <= n /\ j = .int .i64 q /\ e3_ r ((aj_ op).drop q) x /\ ((aj_ op).drop q).foldl (fun x p => getP p r x) x = a1_ r /\ XR wr lo (w.heap.size + 1 + 1) R x vi vn (payP ((aj_ op).drop q) r) /\ KX lo (w.heap.size + 1 + 1) R w3 wr) (fun j _ => n - (intOf j).toNat)
  case atStart => exact ⟨0, ap_ op 0, _, _, Nat.zero_le _, by go_num, Bq.o, Bl.o, Be.o, Aj.o⟩
  obtain ⟨q, x, vi, vn, hq, rfl, hch, hfo, hx, hkx⟩ := hrel
  obtain ⟨HX, Aq, Ba⟩ := kq3 hx hkx hfo
  clear hx hkx hfo c09
  by_cases hlt : q < n
  ·have hg : decide ((q : Int) < (n : Int)) = true := by simp; omega
   have hqp : q < (aj_ op).length := by rw [HN.o]; exact hlt
   obtain ⟨p, hpe⟩ := eY ((aj_ op)[q])
   have hp : (aj_ op)[q]? = some p := by rw [gE hqp, hpe]
   have hdr : (aj_ op).drop q = p :: (aj_ op).drop (q + 1) := by rw [List.drop_eq_getElem_cons hqp, hpe]
   rw [hdr] at hch
   have hokp : okP p r = true := List.all_eq_true.1 At.o p (mG hp)
   have hGr := Aq.o.row Bk.o Ar.o.1 Ar.o.2.1 Ar.o.2.2
   obtain ⟨hp1, hp2⟩ := iI_ (aj_ op) hp
   have q1 : wr.cell? ⟨G, q * 2, none⟩ = some (.func (.func (bg_ p)) #[] #[]) := hGr.cell hp1
   have q2 : wr.cell? ⟨G, q * 2 + 1, none⟩ = some (.func (.func (bj_ p)) #[] #[]) := hGr.cell hp2
   obtain ⟨Ao, Av⟩ := kq2 (aM_ wr 332 (aq_ p) [.nilFunc, .nilFunc] rfl) (aY_ wr 332 (aq_ p) [.nilFunc, .nilFunc] rfl)
   have q3 : ((wr.alloc (.cells #[.nilFunc, .nilFunc] 332)).setCells wr.heap.size 0 (aq_ p)).cell? ⟨wr.heap.size, 1, none⟩ = some (.func (.func (bj_ p)) #[] #[]) := Ao.o.1.cell rfl
   have eg := kZ_ p
   obtain ⟨Bd, Bh⟩ := kq2 ((HX.o.below Ao.o.2).cong (rest' := putP p r ++ payP ((aj_ op).drop (q + 1)) r) (by rw [hdr]; simp [payP])) (Aq.o.trans (KX.of_below lo (w.heap.size + 1 + 1) R Ao.o.2 HX.o.hlo))
   have hpl := gc_ r HS.o (q + 1)
   rw [Af.o] at hpl
   obtain ⟨Ay, Bp, Bm⟩ := kq3 (get_part p r HS.o hokp hch.1 Bd.o (by omega)) hch.2 (show ((aj_ op).drop (q + 1)).foldl (fun x p => getP p r x) (getP p r x) = a1_ r by rw [<- Ba.o, hdr]; rfl)
   clear hpe hp hdr hch hokp hGr hp1 hp2 hqp hpl
   simp only [aq_] at q3 Av Ay
   go_wp2_with ((with_reducible refine ab_ (op := ⟨none, _, _, _, _, _⟩) rfl 332 _ _ rfl wr.heap.size 0 #[.func (.func (bg_ p)) #[] #[], .func (.func (bj_ p)) #[] #[]] ?_ ?_ ?_ ?_ ?_ ?_); (· rfl); (· rfl); (· exact Av.o); (· exact aS_); (· simp [Value.oneCell']); intro w7 hw7)
   refine Ay.o.mono ?_
   rintro e w8 ⟨rfl, hk8, vi8, vn8, hx8⟩
   obtain ⟨Bf, Bi⟩ := kq2 hx8 (Bh.o.trans hk8)
   clear hx8 hk8
   go_wp2_with fail
   go_roundw
   case rel => exact ⟨q + 1, getP p r x, vi8, vn8, by omega, by go_num, Bp.o, Bm.o, Bf.o, Bi.o⟩
   simp [intOf]; omega
  obtain rfl : q = n := by omega
  have hg : decide ((q : Int) < (q : Int)) = false := by simp
  have hdn : (aj_ op).drop q = [] := List.drop_of_length_le (by rw [HN.o]; exact lR _)
  have hfx := Ba.o
  rw [hdn] at hfx
  have hx9 : XR wr lo (w.heap.size + 1 + 1) R (a1_ r) vi vn [] := by have := HX.o; rw [hdn] at this; rw [<- hfx]; exact this
  obtain ⟨vi', rfl⟩ : ∃ vi', vi' = vi := ⟨_, rfl⟩
  obtain ⟨vn', rfl⟩ : ∃ vn', vn' = vn := ⟨_, rfl⟩
  obtain ⟨Ab, Ag⟩ := kq2 hx9 Aq.o
  clear hdn hfx hx9 hch
  obtain ⟨AR, cR, hR1, hby1, _⟩ := Ab.o.rd
  have hr1 : wr.cell? ⟨R, 1, none⟩ = some (.slice AR 0 cR) := World.rowIs.cell hR1 (i := 1) (by decide)
  obtain ⟨Ah, As, Ac⟩ := kq3 (Ag.o.row Bb.o (by have := Aa.o; omega) (by omega) (by have := Aa.o; omega)) Ab.o.row.cells Ab.o.one
  clear hR1 hby1
  go_wp2_with fail
  go_enter Tryz.func306, Tryz.ntmps306
  obtain ⟨An, Ap⟩ := kq2 (bb_ (a1_ r) vi' vn') (ek_ (a1_ r) vi' vn')
  go_wp2_with (first
   | ((with_reducible refine wpList_load_agg (o := ⟨some 74, _, _, _, _, _⟩) rfl 40 _ rfl ⟨w.heap.size + 1 + 1, 0, none⟩ ?_ (respC (a1_ r) vi' vn') _ As.o Tryz.underlying40 rfl An.o ?_); (· rfl))
   | ((with_reducible refine ab_ (op := ⟨none, _, _, _, _, _⟩) rfl 40 _ _ rfl (w.heap.size + 1) 0 (respC (a1_ r) vi' vn').toArray ?_ ?_ ?_ Ap.o ?_ ?_); (· rfl); (· rfl); (· exact cr_ Ah.o _ _ _); (· exact gE_ _ Ac.o.1 Ac.o.2); intro w9 hw9))
  have hD9 := aC_ Ah.o (respC (a1_ r) vi' vn') rfl
  have hc9 := av_ hD9 (respC (a1_ r) vi' vn') rfl fun i hi => rfl
  have hk9 : Kept [w.heap.size + 1] wr (wr.setCells (w.heap.size + 1) 0 (respC (a1_ r) vi' vn')) := am_ (by simp) _ _ _ (Kept.refl _ _)
  have hob := dM_ r HS.o
  refine bodyPost_ret (as_ rfl _ _ ⟨w.heap.size + 1, 0, none⟩ (respC (a1_ r) vi' vn').toArray rfl (af_ _ _ _ _ _ hc9 Tryz.underlying40 rfl (bb_ _ _ _))) rfl ⟨vi', vn', rfl, ?_, ?_⟩
  ·exact Ab.o.resp hk9 (by have := Aa.o; omega) hob.1 hob.2.1 hob.2.2
  exact Ai.o.trans ((Ag.o.below (by have := Aa.o; omega) (by omega) (by have := Aa.o; omega)).trans (hk9.below (lT (lT (by have := Aa.o; omega) Ab.o.hlo) (lR _)) (by simp)))
 have hne : ((er : Int) == 0) = false := by simp; omega
 have hon : a1_ r = ap_ op er := by unfold a1_; rw [Ak.o, Af.o, if_neg (by omega)]
 have hx9 : XR (w4.setCell ⟨w.heap.size + 1 + 1, 1, none⟩ (.int .i64 er)) lo (w.heap.size + 1 + 1) R (a1_ r) (.slice none 0 0) (.slice none 0 0) [] := by rw [hon]; exact Au.o.cong (if_neg h0)
 obtain ⟨W9, hW9⟩ := eY (w4.setCell ⟨w.heap.size + 1 + 1, 1, none⟩ (.int .i64 er))
 rw [hW9] at hx9
 have Aj := kp Ax.o
 have c09 := c0'
 rw [hW9] at Aj c09
 obtain ⟨vi', hvi'⟩ : ∃ vi', vi' = Value.slice none 0 0 := ⟨_, rfl⟩
 obtain ⟨vn', hvn'⟩ : ∃ vn', vn' = Value.slice none 0 0 := ⟨_, rfl⟩
 have hx10 : XR W9 lo (w.heap.size + 1 + 1) R (a1_ r) vi' vn' [] := by rw [hvi', hvn']; exact hx9
 have Am := kp hW9
 clear hW9 hx9 hvi' hvn' hon
 cases hb : isOp op
 iterate 2
  ·go_upto_region 6 with (fail)
   rw [Am.o]
   clear c0' c1 f1
   obtain ⟨Ab, Ag⟩ := kq2 hx10 Aj.o
   clear hx10
   obtain ⟨AR, cR, hR1, hby1, _⟩ := Ab.o.rd
   have hr1 : W9.cell? ⟨R, 1, none⟩ = some (.slice AR 0 cR) := World.rowIs.cell hR1 (i := 1) (by decide)
   obtain ⟨Ah, As, Ac⟩ := kq3 (Ag.o.row Bb.o (by have := Aa.o; omega) (by omega) (by have := Aa.o; omega)) Ab.o.row.cells Ab.o.one
   clear hR1 hby1
   go_wp2_with fail
   go_enter Tryz.func306, Tryz.ntmps306
   obtain ⟨An, Ap⟩ := kq2 (bb_ (a1_ r) vi' vn') (ek_ (a1_ r) vi' vn')
   go_wp2_with (first
    | ((with_reducible refine wpList_load_agg (o := ⟨some 74, _, _, _, _, _⟩) rfl 40 _ rfl ⟨w.heap.size + 1 + 1, 0, none⟩ ?_ (respC (a1_ r) vi' vn') _ As.o Tryz.underlying40 rfl An.o ?_); (· rfl))
    | ((with_reducible refine ab_ (op := ⟨none, _, _, _, _, _⟩) rfl 40 _ _ rfl (w.heap.size + 1) 0 (respC (a1_ r) vi' vn').toArray ?_ ?_ ?_ Ap.o ?_ ?_); (· rfl); (· rfl); (· exact cr_ Ah.o _ _ _); (· exact gE_ _ Ac.o.1 Ac.o.2); intro w9 hw9))
   have hD9 := aC_ Ah.o (respC (a1_ r) vi' vn') rfl
   have hc9 := av_ hD9 (respC (a1_ r) vi' vn') rfl fun i hi => rfl
   have hk9 : Kept [w.heap.size + 1] W9 (W9.setCells (w.heap.size + 1) 0 (respC (a1_ r) vi' vn')) := am_ (by simp) _ _ _ (Kept.refl _ _)
   have hob := dM_ r HS.o
   refine bodyPost_ret (as_ rfl _ _ ⟨w.heap.size + 1, 0, none⟩ (respC (a1_ r) vi' vn').toArray rfl (af_ _ _ _ _ _ hc9 Tryz.underlying40 rfl (bb_ _ _ _))) rfl ⟨vi', vn', rfl, ?_, ?_⟩
   ·exact Ab.o.resp hk9 (by have := Aa.o; omega) hob.1 hob.2.1 hob.2.2
   exact Ai.o.trans ((Ag.o.below (by have := Aa.o; omega) (by omega) (by have := Aa.o; omega)).trans (hk9.below (lT (lT (by have := Aa.o; omega) Ab.o.hlo) (lR _)) (by simp)))
def bM_ (r : RespR) : Bool := decide (0 <= r.op /\ r.op <= 15 /\ 0 <= r.err /\ r.err <= 100000) && !(r.op == 0 && r.err == 0)
def be_ (r : RespR) : Bool := !(r.err == 0) || (aj_ r.op).all (okP · r)
def aX_ (r : RespR) : Bool := bM_ r && (be_ r && bd_ (a1_ r) r)
def errR (r : RespR) : Int := if aX_ r = true then 0 else 2
theorem lf_ {r : RespR} (h : bM_ r = false) : errR r = 2 := by unfold errR aX_; rw [h]; rfl
theorem jN_ {r : RespR} (h : be_ r = false) : errR r = 2 := by unfold errR aX_; rw [h]; simp
theorem lg_ {r : RespR} (h : bM_ r = true) (h1 : be_ r = true) : errR r = if bd_ (a1_ r) r = true then 0 else 2 := by unfold errR aX_; rw [h, h1]; rfl
def WrPost (r : RespR) (w : World) (e : Ending) (w' : World) : Prop := (∃ p A n c, e = .returned (.tuple #[.agg #[.int .u8 p, .slice A n c], .int .i64 (errR r)])) /\ Bw w w'
structure Wr (w : World) (W : World) (r : RespR) (vi vn : Value) : Prop where
 bel : Bw w W
 X : RowL W w.heap.size 40 (respC r vi vn)
 F : RowL W (w.heap.size + 1) 270 [.int .u8 0, .slice none 0 0]
 L : RowL W (w.heap.size + 1 + 1) 270 [.int .u8 0, .slice none 0 0]
 ok : RespOk W w.heap.size r vi vn
theorem Wr.below {w W W' : World} {r : RespR} {vi vn : Value} (h : Wr w W r vi vn) (hb : Bw W W') : Wr w W' r vi vn :=
 ⟨h.bel.trans (hb.mono h.bel.size), h.X.of_block (hb.block _ h.X.lt), h.F.of_block (hb.block _ h.F.lt), h.L.of_block (hb.block _ h.L.lt), h.ok.below hb h.bel.size⟩
theorem Wr.kept {w W W' : World} {r : RespR} {vi vn : Value} {Q : Nat} (h : Wr w W r vi vn) (hk : Kept [Q] W W') (hQ : w.heap.size + 3 <= Q) : Wr w W' r vi vn := by
 have hb : Below w.heap.size W W' := hk.below h.bel.size (by simp; omega)
 exact ⟨h.bel.trans hb, h.X.kept hk (by simp; omega), h.F.kept hk (by simp; omega), h.L.kept hk (by simp; omega), h.ok.below hb (lR _)⟩
theorem wr_start (w : World) (r : RespR) (vi vn : Value) (h : RespOk w w.heap.size r vi vn) : Wr w (((w.alloc (.cells (respC r vi vn).toArray 40)).alloc (.cells #[.int .u8 0, .slice none 0 0] 270)).alloc (.cells #[.int .u8 0, .slice none 0 0] 270)) r vi vn := by
 have h1 := RowL.new w 40 (respC r vi vn)
 have h2 := RowL.new (w.alloc (.cells (respC r vi vn).toArray 40)) 270 [.int .u8 0, .slice none 0 0]
 have h3 := RowL.new ((w.alloc (.cells (respC r vi vn).toArray 40)).alloc (.cells #[.int .u8 0, .slice none 0 0] 270)) 270 [.int .u8 0, .slice none 0 0]
 have hb := dS_ w (.cells (respC r vi vn).toArray 40) (.cells #[.int .u8 0, .slice none 0 0] 270) (.cells #[.int .u8 0, .slice none 0 0] 270)
 exact ⟨hb, (h1.alloc _).alloc _, by simpa using h2.alloc (.cells #[.int .u8 0, .slice none 0 0] 270), by simpa using h3, h.below hb (lR _)⟩
theorem WB.made {w : World} {base : Nat} {v : Value} {out : List Int} (ho : Own8 w base v out) : WB (w.alloc (.cells #[v] 26)) w.heap.size out := by
 have hb := below1 w (.cells #[v] 26)
 refine ⟨v, RowL.new w 26 [v], ?_⟩
 obtain ⟨A, c, e, h1, h2⟩ := SlB.of_own ho
 refine ⟨A, c, e, (h1.below hb (lR _)).mono hb.size, fun b off ea hm => ?_⟩
 simp at hm
 subst hm
 subst ea
 have := Own8.raw ho
 rcases bc_ this (by decide) with ⟨e1, _, _⟩ | ⟨g, cap, e1, _, e3, _⟩
 ·rw [e] at e1; simp at e1
 rw [e] at e1
 simp at e1
 first | done | omega
theorem kl_ (r : RespR) (hs : RespS r) (vi vn : Value) (w : World) (hok : RespOk w w.heap.size r vi vn) :
  Calls Tryz.prog 177 #[.agg (respC r vi vn).toArray] w (WrPost r w) := by
 have hW := wr_start w r vi vn hok
 have hs1 : (((w.alloc (.cells (respC r vi vn).toArray 40)).alloc (.cells #[.int .u8 0, .slice none 0 0] 270)).alloc (.cells #[.int .u8 0, .slice none 0 0] 270)).heap.size = w.heap.size + 3 := by simp
 obtain ⟨W1, hW1⟩ := eX (((w.alloc (.cells (respC r vi vn).toArray 40)).alloc (.cells #[.int .u8 0, .slice none 0 0] 270)).alloc (.cells #[.int .u8 0, .slice none 0 0] 270))
 rw [<- hW1] at hW hs1
 have c0 : W1.cell? ⟨w.heap.size, 0, none⟩ = some (.int .i64 r.op) := hW.X.cell rfl
 obtain ⟨⟨_, Ai, ci, hvi, _⟩, _, An, cn, hvn, _⟩ := hok
 obtain ⟨op, hop⟩ := eY r.op
 obtain ⟨er, her⟩ := eY r.err
 obtain ⟨ni, hni⟩ := eY r.items.length
 obtain ⟨nn, hnn⟩ := eY r.nums.length
 rw [hop] at c0
 rw [hni] at hvi
 rw [hnn] at hvn
 obtain ⟨HP, HW, HS, Ac, Ad, Bx, Bw, Bz, By⟩ := kq9 (iJ_ op) hW hs hop her hvi hvn hni hnn
 have hRC : respC r vi vn = [.int .i64 op, .int .i64 er, .slice Ai ni ci, .int .u64 r.ver, .int .i64 r.count, .slice An nn cn] := by rw [<- hop, <- her, <- hvi, <- hvn]; rfl
 have Bm := kp hRC
 rw [hRC] at hW1 ⊢
 clear hW hs hop her hvi hvn hRC hni hnn
 go_enter Tryz.func177, Tryz.ntmps177
 go_wp2_with fail
 rw [<- hW1]
 clear hW1
 refine (HP.o W1).mono ?_
 rintro e w2 ⟨G, cp, rfl, hG2, hGlo, hb2⟩
 have hW2 := HW.o.below hb2
 have d0 : w2.cell? ⟨w.heap.size, 0, none⟩ = some (.int .i64 op) := by rw [<- Ac.o]; exact hW2.X.cell rfl
 have d1 : w2.cell? ⟨w.heap.size, 1, none⟩ = some (.int .i64 er) := by rw [<- Ad.o]; exact hW2.X.cell rfl
 have hn2 := c0_ op
 obtain ⟨n, hn⟩ := eY ((aj_ op).length)
 rw [hn] at hn2 ⊢
 obtain ⟨HN, Aq, Aj, As⟩ := kq4 hn hG2 hW2 (show w.heap.size + 3 <= w2.heap.size /\ G < w2.heap.size /\ w.heap.size + 3 <= G by have := hb2.size; have := hG2.lt; omega)
 clear hG2 hb2 hW2 hGlo c0 hn hs1
 by_cases a1 : op < 0
 focus
  have g1 : decide (op < 0) = true := by simp; omega
 rotate_left 1
 have g1 : decide (op < 0) = false := by simp; omega
 by_cases a2 : 15 < op
 focus
  have g2 : decide (15 < op) = true := by simp; omega
 rotate_left 1
 have g2 : decide (15 < op) = false := by simp; omega
 by_cases a3 : er < 0
 focus
  have g3 : decide (er < 0) = true := by simp; omega
 rotate_left 1
 have g3 : decide (er < 0) = false := by simp; omega
 by_cases a4 : 100000 < er
 focus
  have g4 : decide (100000 < er) = true := by simp; omega
 rotate_left 1
 have g4 : decide (100000 < er) = false := by simp; omega
 obtain ⟨en, rfl⟩ : ∃ en : Nat, er = en := ⟨er.toNat, by omega⟩
 by_cases a5 : op = 0 /\ en = 0
 focus
  have hio : isOp op = false := by simp [isOp]; omega
  have g5 : ((en : Int) == 0) = true := by simp; omega
  rw [hio]
 rotate_left 1
 rotate_left 1
 iterate 5
  focus
   have l0 : w2.cell? ⟨w.heap.size + 1 + 1, 0, none⟩ = some (.int .u8 0) := Aj.o.L.cell rfl
   have l1 : w2.cell? ⟨w.heap.size + 1 + 1, 1, none⟩ = some (.slice none 0 0) := Aj.o.L.cell rfl
   obtain ⟨Af, Ag⟩ := kq2 (Aj.o.F.there (o := 0) (n := 2) (by simp)) (show errR r = 2 from lf_ (by simp [bM_, Ac.o, Ad.o]; omega))
   go_wp2_with ((with_reducible refine ab_ (op := ⟨none, _, _, _, _, _⟩) rfl 270 _ _ rfl (w.heap.size + 1) 0 #[.int .u8 0, .slice none 0 0] ?_ ?_ ?_ ?_ ?_ ?_); (· rfl); (· rfl); (· exact Af.o); (· rfl); (· simp [Value.oneCell']); intro w9 hw9)
   have hD9 := aC_ Aj.o.F [.int .u8 0, .slice none 0 0] rfl
   have hc9 := av_ hD9 [.int .u8 0, .slice none 0 0] rfl fun i hi => rfl
   have hk9 : Kept [w.heap.size + 1] w2 (w2.setCells (w.heap.size + 1) 0 [.int .u8 0, .slice none 0 0]) := am_ (by simp) _ _ _ (Kept.refl _ _)
   refine bodyPost_ret (as_ rfl _ _ ⟨w.heap.size + 1, 0, none⟩ #[.int .u8 0, .slice none 0 0] rfl (af_ _ _ _ _ _ hc9 Tryz.underlying270 rfl (by kernel_rfl))) rfl ⟨⟨_, _, _, _, by rw [Ag.o]; rfl⟩, ?_⟩
   exact Aj.o.bel.trans (hk9.below Aj.o.bel.size (by simp))
 have hHead : bM_ r = true := by simp [bM_, Ac.o, Ad.o]; omega
 have Bq := kp hHead
 have hw3 : IntKind.u64.wrap (en : Int) = en := is_ (by omega)
 have HPut := kp (ct_ none 0 0 [] en w2 rfl (by omega) (by omega) (Byt.nil _ _))
 have hv10 := ad_ (n := en) (by omega)
 have Bg := kp (gb_ r HS.o)
 clear hHead
 by_cases h0 : en = 0
 ·subst h0
  have hio : isOp op = true := by simp [isOp]; omega
  rw [hio]
  obtain ⟨Bu, Be⟩ := kq2 (show op ≠ 0 by omega) (show respC r vi vn = [.int .i64 op, .int .i64 0, .slice Ai ni ci, .int .u64 r.ver, .int .i64 r.count, .slice An nn cn] from Bm.o)
  clear hio
  go_wp2_with fail
  refine HPut.o.mono ?_
  rintro e w3 ⟨v3, rfl, ho3, hb3⟩
  obtain ⟨A3, L3, c3, rfl, _, _⟩ := ho3.gen
  have hb4 := below1 w3 (.cells #[.slice A3 L3 c3] 26)
  obtain ⟨Ae, Ah, Az, Ap⟩ := kq4 (WB.made ho3) ((Aj.o.below hb3).below hb4) ((Aq.o.of_block (hb3.block _ Aq.o.lt)).of_block (hb4.block _ (lL Aq.o.lt hb3.size))) hb3.size
  have e1 : (w3.alloc (.cells #[.slice A3 L3 c3] 26)).cell? ⟨w.heap.size, 1, none⟩ = some (.int .i64 0) := by have := Ah.o.X.cell (j := 1) rfl; rw [Ad.o] at this; exact this
  obtain ⟨W4, hW4⟩ := eY (w3.alloc (.cells #[.slice A3 L3 c3] 26))
  rw [hW4] at Ae Ah Az e1
  obtain ⟨Bi, Bf⟩ := kq2 hW4 (show payR r = putV 0 ++ payP (aj_ op) r by unfold payR; rw [Ad.o, Ac.o]; rfl)
  clear hW4 hb3 hb4 ho3
  go_upto_region 6 with (fail)
  rw [Bi.o]
  go_wp2_with fail
  go_loopw [57] (fun j wr => ∃ q : Nat, q <= n /\ j = .int .i64 q /\ ((aj_ op).take q).all (okP · r) = true /\ WB wr w3.heap.size (putV 0 ++ payP ((aj_ op).take q) r) /\ Kept [w3.heap.size] W4 wr) (fun j _ => n - (intOf j).toNat)
  case atStart => exact ⟨0, Nat.zero_le _, by go_num, by simp, Ae.o.cong (by simp [payP]), Kept.refl _ _⟩
  obtain ⟨q, hq, rfl, hall, hwb, hkp⟩ := hrel
  obtain ⟨Bj, Bo, Ax, Ba⟩ := kq4 hwb hkp hall (Ah.o.kept hkp (by have := As.o; have := Ap.o; omega))
  clear hwb hkp hall e1
  by_cases hlt : q < n
  ·have hg : decide ((q : Int) < (n : Int)) = true := by simp; omega
   have hqp : q < (aj_ op).length := by rw [HN.o]; exact hlt
   obtain ⟨p, hpe⟩ := eY ((aj_ op)[q])
   have hp : (aj_ op)[q]? = some p := by rw [gE hqp, hpe]
   have hGr : RowL wr G 332 ((aj_ op).flatMap aq_) := Az.o.kept Bo.o (by simp; have := As.o; have := Ap.o; omega)
   obtain ⟨hp1, hp2⟩ := iI_ (aj_ op) hp
   have q1 : wr.cell? ⟨G, q * 2, none⟩ = some (.func (.func (bg_ p)) #[] #[]) := hGr.cell hp1
   have q2 : wr.cell? ⟨G, q * 2 + 1, none⟩ = some (.func (.func (bj_ p)) #[] #[]) := hGr.cell hp2
   obtain ⟨Ay, Bl⟩ := kq2 (aM_ wr 332 (aq_ p) [.nilFunc, .nilFunc] rfl) (aY_ wr 332 (aq_ p) [.nilFunc, .nilFunc] rfl)
   have q3 : ((wr.alloc (.cells #[.nilFunc, .nilFunc] 332)).setCells wr.heap.size 0 (aq_ p)).cell? ⟨wr.heap.size, 0, none⟩ = some (.func (.func (bg_ p)) #[] #[]) := Ay.o.1.cell rfl
   have eg := kp_ p
   have hol : (putV 0 ++ payP ((aj_ op).take q) r).length <= 600000 := by have h1 := Bg.o q; have h2 := ad_ (n := 0) (by decide); rw [Ac.o] at h1; rw [lA]; omega
   have Ar := kp (Ba.o.below Ay.o.2)
   obtain ⟨Bn, Bk, Bs⟩ := kq3 (put_part p (B := w.heap.size) ⟨Bj.o.below Ay.o.2, Ar.o.X, Ar.o.ok, by have := As.o; have := Ap.o; omega, by have := As.o; have := Ap.o; omega, HS.o, hol⟩) (show (aj_ op).take (q + 1) = (aj_ op).take q ++ [p] by rw [tA, hp]; rfl) (mG hp)
   clear hpe hp hGr hp1 hp2 hqp hol
   simp only [aq_] at q3 Bl Bn
   go_wp2_with ((with_reducible refine ab_ (op := ⟨none, _, _, _, _, _⟩) rfl 332 _ _ rfl wr.heap.size 0 #[.func (.func (bg_ p)) #[] #[], .func (.func (bj_ p)) #[] #[]] ?_ ?_ ?_ ?_ ?_ ?_); (· rfl); (· rfl); (· exact Bl.o); (· exact aS_); (· simp [Value.oneCell']); intro w7 hw7)
   refine Bn.o.mono ?_
   rintro e w8 ⟨rfl, hy8, hk8⟩
   obtain ⟨Bp, Br⟩ := kq2 ((Bo.o.trans (Kept.of_below Ay.o.2)).trans hk8) hy8
   clear hy8 hk8
   cases hkp : okP p r
   ·have Aa := kp (Ah.o.kept Bp.o (by have := As.o; have := Ap.o; omega))
    have hpp : be_ r = false := by
     unfold be_
     rw [Ad.o, Ac.o]
     simp
     exact ⟨p, Bs.o, hkp⟩
    have l0 : w8.cell? ⟨w.heap.size + 1 + 1, 0, none⟩ = some (.int .u8 0) := Aa.o.L.cell rfl
    have l1 : w8.cell? ⟨w.heap.size + 1 + 1, 1, none⟩ = some (.slice none 0 0) := Aa.o.L.cell rfl
    obtain ⟨Af, Ag⟩ := kq2 (Aa.o.F.there (o := 0) (n := 2) (by simp)) (show errR r = 2 from jN_ hpp)
    go_wp2_with ((with_reducible refine ab_ (op := ⟨none, _, _, _, _, _⟩) rfl 270 _ _ rfl (w.heap.size + 1) 0 #[.int .u8 0, .slice none 0 0] ?_ ?_ ?_ ?_ ?_ ?_); (· rfl); (· rfl); (· exact Af.o); (· rfl); (· simp [Value.oneCell']); intro w9 hw9)
    have hD9 := aC_ Aa.o.F [.int .u8 0, .slice none 0 0] rfl
    have hc9 := av_ hD9 [.int .u8 0, .slice none 0 0] rfl fun i hi => rfl
    have hk9 : Kept [w.heap.size + 1] w8 (w8.setCells (w.heap.size + 1) 0 [.int .u8 0, .slice none 0 0]) := am_ (by simp) _ _ _ (Kept.refl _ _)
    refine bodyPost_ret (as_ rfl _ _ ⟨w.heap.size + 1, 0, none⟩ #[.int .u8 0, .slice none 0 0] rfl (af_ _ _ _ _ _ hc9 Tryz.underlying270 rfl (by kernel_rfl))) rfl ⟨⟨_, _, _, _, by rw [Ag.o]; rfl⟩, ?_⟩
    exact Aa.o.bel.trans (hk9.below Aa.o.bel.size (by simp))
   go_wp2_with fail
   go_roundw
   case rel => exact ⟨q + 1, by omega, by go_num, by rw [Bk.o, List.all_append, Ax.o]; simp [hkp], (Br.o hkp).cong (by rw [Bk.o]; simp [payP, aA]), Bp.o⟩
   simp [intOf]; omega
  obtain rfl : q = n := by omega
  have hg : decide ((q : Int) < (q : Int)) = false := by simp
  have htk : (aj_ op).take q = aj_ op := tL (by rw [HN.o]; exact lR _)
  have hal := Ax.o
  rw [htk] at hal
  obtain ⟨Bb, Am, Al⟩ := kq3 (Bj.o.cong (out' := payR r) (by rw [htk, Bf.o])) (show be_ r = true by unfold be_; rw [Ac.o, hal]; simp) (show OkR r from ⟨by rw [Ac.o]; omega, by rw [Ad.o]; omega, fun h => by rw [Ac.o] at h; exact absurd h Bu.o, fun _ => by rw [Ac.o]; exact hal⟩)
  clear htk hal
  have Bt := kp True.intro
  obtain ⟨vb, hvb1, Ab, cb, rfl, hvb2, hvb3⟩ := id Bb.o
  obtain ⟨kl, hkl⟩ := eY ((payR r).length)
  rw [hkl] at hvb1
  have b0 : wr.cell? ⟨w3.heap.size, 0, none⟩ = some (.slice Ab kl cb) := hvb1.cell rfl
  have x0 : wr.cell? ⟨w.heap.size, 0, none⟩ = some (.int .i64 op) := by rw [<- Ac.o]; exact Ba.o.X.cell rfl
  have hw6 : IntKind.i64.wrap (64 + op) = 64 + op := by simp [IntKind.wrap, IntKind.bits, IntKind.signed]; omega
  have hw7 : IntKind.u8.wrap (64 + op) = 64 + op := by simp [IntKind.wrap, IntKind.bits, IntKind.signed]; omega
  have hbf := below1 wr (.cells #[.int .u8 (64 + op), .slice Ab kl cb] 270)
  obtain ⟨HRead, Bh, Bd, Bv⟩ := kq4 (iB_ r (64 + op) (by rw [Ac.o]) HS.o Al.o Ab kl cb (wr.alloc (.cells #[.int .u8 (64 + op), .slice Ab kl cb] 270)) hkl ((hvb2.below hbf (lR _)).mono hbf.size)) (RowL.new wr 270 [.int .u8 (64 + op), .slice Ab kl cb]) (Ba.o.below hbf) hkl
  clear hvb1 hvb2 hvb3 hbf hkl
  go_wp2_with fail
  refine HRead.o.mono ?_
  rintro e w6 ⟨vi6, vn6, rfl, hok6, hb6⟩
  obtain ⟨ro, hro⟩ := eY (a1_ r)
  rw [hro] at hok6 ⊢
  obtain ⟨⟨_, A6, c6, hvi6, _⟩, _, A7, c7, hvn6, _⟩ := id hok6
  obtain ⟨n6, hn6⟩ := eY ro.items.length
  obtain ⟨n7, hn7⟩ := eY ro.nums.length
  rw [hn6] at hvi6
  rw [hn7] at hvn6
  have hRO : respC ro vi6 vn6 = [.int .i64 ro.op, .int .i64 ro.err, .slice A6 n6 c6, .int .u64 ro.ver, .int .i64 ro.count, .slice A7 n7 c7] := by rw [<- hvi6, <- hvn6]; rfl
  have hb7 := below1 w6 (.cells (respC ro vi6 vn6).toArray 40)
  have hag := RowL.new w6 40 (respC ro vi6 vn6)
  have hW6 := (Bd.o.below hb6).below hb7
  have hFB7 := (Bh.o.of_block (hb6.block _ (by simp))).of_block (hb7.block _ (lL (by simp) hb6.size))
  have hE := km_ ro r vi6 vn6 vi vn (w6.alloc (.cells (respC ro vi6 vn6).toArray 40)) ((hok6.below hb7 (lR _)).mono hb7.size) (hW6.ok.mono hW6.bel.size)
  obtain ⟨Aw, Ao, Au, At⟩ := kq4 hag.cells hW6.X.cells (bb_ ro vi6 vn6) (bb_ r vi vn)
  rw [hRO] at hE hW6 hFB7 Aw Ao Au ⊢
  rw [Be.o] at hE Ao At
  obtain ⟨HE, Bc, Av, Ak⟩ := kq4 hE hW6 hFB7 (lg_ Bq.o Am.o)
  rw [hro] at Ak
  clear hb7 hag hW6 hFB7 hE hRO hvi6 hvn6 hok6 hn6 hn7 hro b0 x0 hb6
  go_wp2_with (first
   | ((with_reducible refine ac_ (o := ⟨some 81, _, _, _, _, _⟩) 40 _ rfl ⟨w6.heap.size, 0, none⟩ ?_ _ _ Aw.o Tryz.underlying40 rfl ?_ ?_ ?_); (· rfl); (· exact Au.o); (· rfl))
   | ((with_reducible refine ac_ (o := ⟨some 82, _, _, _, _, _⟩) 40 _ rfl ⟨w.heap.size, 0, none⟩ ?_ _ _ Ao.o Tryz.underlying40 rfl ?_ ?_ ?_); (· rfl); (· exact At.o); (· rfl)))
  refine HE.o.mono ?_
  rintro e w8 ⟨rfl, hb8⟩
  have Aa := kp (Bc.o.below hb8)
  have hFB8 := Av.o.of_block (hb8.block _ Av.o.lt)
  have y0 : w8.cell? ⟨wr.heap.size, 0, none⟩ = some (.int .u8 (64 + op)) := hFB8.cell rfl
  have y1 : w8.cell? ⟨wr.heap.size, 1, none⟩ = some (.slice Ab kl cb) := hFB8.cell rfl
  clear hFB8 hb8
  cases hq : bd_ ro r
  ·have hq2 : errR r = 2 := by rw [Ak.o, hq]; rfl
   have l0 : w8.cell? ⟨w.heap.size + 1 + 1, 0, none⟩ = some (.int .u8 0) := Aa.o.L.cell rfl
   have l1 : w8.cell? ⟨w.heap.size + 1 + 1, 1, none⟩ = some (.slice none 0 0) := Aa.o.L.cell rfl
   obtain ⟨Af, Ag⟩ := kq2 (Aa.o.F.there (o := 0) (n := 2) (by simp)) (show errR r = 2 from hq2)
   go_wp2_with ((with_reducible refine ab_ (op := ⟨none, _, _, _, _, _⟩) rfl 270 _ _ rfl (w.heap.size + 1) 0 #[.int .u8 0, .slice none 0 0] ?_ ?_ ?_ ?_ ?_ ?_); (· rfl); (· rfl); (· exact Af.o); (· rfl); (· simp [Value.oneCell']); intro w9 hw9)
   have hD9 := aC_ Aa.o.F [.int .u8 0, .slice none 0 0] rfl
   have hc9 := av_ hD9 [.int .u8 0, .slice none 0 0] rfl fun i hi => rfl
   have hk9 : Kept [w.heap.size + 1] w8 (w8.setCells (w.heap.size + 1) 0 [.int .u8 0, .slice none 0 0]) := am_ (by simp) _ _ _ (Kept.refl _ _)
   refine bodyPost_ret (as_ rfl _ _ ⟨w.heap.size + 1, 0, none⟩ #[.int .u8 0, .slice none 0 0] rfl (af_ _ _ _ _ _ hc9 Tryz.underlying270 rfl (by kernel_rfl))) rfl ⟨⟨_, _, _, _, by rw [Ag.o]; rfl⟩, ?_⟩
   exact Aa.o.bel.trans (hk9.below Aa.o.bel.size (by simp))
  have Ag := kp (show errR r = 0 by rw [Ak.o, hq]; rfl)
  have Af := kp (Aa.o.F.there (o := 0) (n := 2) (by simp))
  go_wp2_with ((with_reducible refine ab_ (op := ⟨none, _, _, _, _, _⟩) rfl 270 _ _ rfl (w.heap.size + 1) 0 #[.int .u8 (64 + op), .slice Ab kl cb] ?_ ?_ ?_ ?_ ?_ ?_); (· rfl); (· rfl); (· exact Af.o); (· rfl); (· simp [Value.oneCell']); intro w9 hw9)
  have hD9 := aC_ Aa.o.F [.int .u8 (64 + op), .slice Ab kl cb] rfl
  have hc9 := av_ hD9 [.int .u8 (64 + op), .slice Ab kl cb] rfl fun i hi => rfl
  have hk9 : Kept [w.heap.size + 1] w8 (w8.setCells (w.heap.size + 1) 0 [.int .u8 (64 + op), .slice Ab kl cb]) := am_ (by simp) _ _ _ (Kept.refl _ _)
  refine bodyPost_ret (as_ rfl _ _ ⟨w.heap.size + 1, 0, none⟩ #[.int .u8 (64 + op), .slice Ab kl cb] rfl (af_ _ _ _ _ _ hc9 Tryz.underlying270 rfl (by kernel_rfl))) rfl ⟨⟨_, _, _, _, by rw [Ag.o]; rfl⟩, ?_⟩
  exact Aa.o.bel.trans (hk9.below Aa.o.bel.size (by simp))
 have hne : ((en : Int) == 0) = false := by simp; omega
 obtain ⟨Bf, Am, Al⟩ := kq3 (show payR r = putV en by unfold payR; rw [Ad.o, if_neg (by omega)]; simp) (show be_ r = true by unfold be_; rw [Ad.o]; simp; omega) (show OkR r from ⟨by rw [Ac.o]; omega, by rw [Ad.o]; omega, fun h => by rw [Ad.o]; omega, fun h => by rw [Ad.o] at h; omega⟩)
 cases hb : isOp op
 iterate 2
  ·go_wp2_with fail
   refine HPut.o.mono ?_
   rintro e w3 ⟨v3, rfl, ho3, hb3⟩
   obtain ⟨A3, L3, c3, rfl, _, _⟩ := ho3.gen
   have hb4 := below1 w3 (.cells #[.slice A3 L3 c3] 26)
   obtain ⟨Ae, Ah, Az, Ap⟩ := kq4 (WB.made ho3) ((Aj.o.below hb3).below hb4) ((Aq.o.of_block (hb3.block _ Aq.o.lt)).of_block (hb4.block _ (lL Aq.o.lt hb3.size))) hb3.size
   have e1 : (w3.alloc (.cells #[.slice A3 L3 c3] 26)).cell? ⟨w.heap.size, 1, none⟩ = some (.int .i64 en) := by have := Ah.o.X.cell (j := 1) rfl; rw [Ad.o] at this; exact this
   obtain ⟨W4, hW4⟩ := eY (w3.alloc (.cells #[.slice A3 L3 c3] 26))
   rw [hW4] at Ae Ah Az e1
   obtain ⟨Bi, Bb⟩ := kq2 hW4 (Ae.o.cong (out' := payR r) (by rw [Bf.o]; simp))
   clear hW4 hb3 hb4 ho3
   go_upto_region 6 with (fail)
   rw [Bi.o]
   have Bt := kp True.intro
   obtain ⟨vb, hvb1, Ab, cb, rfl, hvb2, hvb3⟩ := id Bb.o
   obtain ⟨kl, hkl⟩ := eY ((payR r).length)
   rw [hkl] at hvb1
   have b0 : W4.cell? ⟨w3.heap.size, 0, none⟩ = some (.slice Ab kl cb) := hvb1.cell rfl
   have x0 : W4.cell? ⟨w.heap.size, 0, none⟩ = some (.int .i64 op) := by rw [<- Ac.o]; exact Ah.o.X.cell rfl
   have hw6 : IntKind.i64.wrap (64 + op) = 64 + op := by simp [IntKind.wrap, IntKind.bits, IntKind.signed]; omega
   have hw7 : IntKind.u8.wrap (64 + op) = 64 + op := by simp [IntKind.wrap, IntKind.bits, IntKind.signed]; omega
   have hbf := below1 W4 (.cells #[.int .u8 (64 + op), .slice Ab kl cb] 270)
   obtain ⟨HRead, Bh, Bd, Bv⟩ := kq4 (iB_ r (64 + op) (by rw [Ac.o]) HS.o Al.o Ab kl cb (W4.alloc (.cells #[.int .u8 (64 + op), .slice Ab kl cb] 270)) hkl ((hvb2.below hbf (lR _)).mono hbf.size)) (RowL.new W4 270 [.int .u8 (64 + op), .slice Ab kl cb]) (Ah.o.below hbf) hkl
   clear hvb1 hvb2 hvb3 hbf hkl
   go_wp2_with fail
   refine HRead.o.mono ?_
   rintro e w6 ⟨vi6, vn6, rfl, hok6, hb6⟩
   obtain ⟨ro, hro⟩ := eY (a1_ r)
   rw [hro] at hok6 ⊢
   obtain ⟨⟨_, A6, c6, hvi6, _⟩, _, A7, c7, hvn6, _⟩ := id hok6
   obtain ⟨n6, hn6⟩ := eY ro.items.length
   obtain ⟨n7, hn7⟩ := eY ro.nums.length
   rw [hn6] at hvi6
   rw [hn7] at hvn6
   have hRO : respC ro vi6 vn6 = [.int .i64 ro.op, .int .i64 ro.err, .slice A6 n6 c6, .int .u64 ro.ver, .int .i64 ro.count, .slice A7 n7 c7] := by rw [<- hvi6, <- hvn6]; rfl
   have hb7 := below1 w6 (.cells (respC ro vi6 vn6).toArray 40)
   have hag := RowL.new w6 40 (respC ro vi6 vn6)
   have hW6 := (Bd.o.below hb6).below hb7
   have hFB7 := (Bh.o.of_block (hb6.block _ (by simp))).of_block (hb7.block _ (lL (by simp) hb6.size))
   have hE := km_ ro r vi6 vn6 vi vn (w6.alloc (.cells (respC ro vi6 vn6).toArray 40)) ((hok6.below hb7 (lR _)).mono hb7.size) (hW6.ok.mono hW6.bel.size)
   obtain ⟨Aw, Ao, Au, At⟩ := kq4 hag.cells hW6.X.cells (bb_ ro vi6 vn6) (bb_ r vi vn)
   rw [hRO] at hE hW6 hFB7 Aw Ao Au ⊢
   rw [Bm.o] at hE Ao At
   obtain ⟨HE, Bc, Av, Ak⟩ := kq4 hE hW6 hFB7 (lg_ Bq.o Am.o)
   rw [hro] at Ak
   clear hb7 hag hW6 hFB7 hE hRO hvi6 hvn6 hok6 hn6 hn7 hro b0 x0 hb6
   go_wp2_with (first
    | ((with_reducible refine ac_ (o := ⟨some 81, _, _, _, _, _⟩) 40 _ rfl ⟨w6.heap.size, 0, none⟩ ?_ _ _ Aw.o Tryz.underlying40 rfl ?_ ?_ ?_); (· rfl); (· exact Au.o); (· rfl))
    | ((with_reducible refine ac_ (o := ⟨some 82, _, _, _, _, _⟩) 40 _ rfl ⟨w.heap.size, 0, none⟩ ?_ _ _ Ao.o Tryz.underlying40 rfl ?_ ?_ ?_); (· rfl); (· exact At.o); (· rfl)))
   refine HE.o.mono ?_
   rintro e w8 ⟨rfl, hb8⟩
   have Aa := kp (Bc.o.below hb8)
   have hFB8 := Av.o.of_block (hb8.block _ Av.o.lt)
   have y0 : w8.cell? ⟨W4.heap.size, 0, none⟩ = some (.int .u8 (64 + op)) := hFB8.cell rfl
   have y1 : w8.cell? ⟨W4.heap.size, 1, none⟩ = some (.slice Ab kl cb) := hFB8.cell rfl
   clear hFB8 hb8
   cases hq : bd_ ro r
   ·have hq2 : errR r = 2 := by rw [Ak.o, hq]; rfl
    have l0 : w8.cell? ⟨w.heap.size + 1 + 1, 0, none⟩ = some (.int .u8 0) := Aa.o.L.cell rfl
    have l1 : w8.cell? ⟨w.heap.size + 1 + 1, 1, none⟩ = some (.slice none 0 0) := Aa.o.L.cell rfl
    obtain ⟨Af, Ag⟩ := kq2 (Aa.o.F.there (o := 0) (n := 2) (by simp)) (show errR r = 2 from hq2)
    go_wp2_with ((with_reducible refine ab_ (op := ⟨none, _, _, _, _, _⟩) rfl 270 _ _ rfl (w.heap.size + 1) 0 #[.int .u8 0, .slice none 0 0] ?_ ?_ ?_ ?_ ?_ ?_); (· rfl); (· rfl); (· exact Af.o); (· rfl); (· simp [Value.oneCell']); intro w9 hw9)
    have hD9 := aC_ Aa.o.F [.int .u8 0, .slice none 0 0] rfl
    have hc9 := av_ hD9 [.int .u8 0, .slice none 0 0] rfl fun i hi => rfl
    have hk9 : Kept [w.heap.size + 1] w8 (w8.setCells (w.heap.size + 1) 0 [.int .u8 0, .slice none 0 0]) := am_ (by simp) _ _ _ (Kept.refl _ _)
    refine bodyPost_ret (as_ rfl _ _ ⟨w.heap.size + 1, 0, none⟩ #[.int .u8 0, .slice none 0 0] rfl (af_ _ _ _ _ _ hc9 Tryz.underlying270 rfl (by kernel_rfl))) rfl ⟨⟨_, _, _, _, by rw [Ag.o]; rfl⟩, ?_⟩
    exact Aa.o.bel.trans (hk9.below Aa.o.bel.size (by simp))
   have Ag := kp (show errR r = 0 by rw [Ak.o, hq]; rfl)
   have Af := kp (Aa.o.F.there (o := 0) (n := 2) (by simp))
   go_wp2_with ((with_reducible refine ab_ (op := ⟨none, _, _, _, _, _⟩) rfl 270 _ _ rfl (w.heap.size + 1) 0 #[.int .u8 (64 + op), .slice Ab kl cb] ?_ ?_ ?_ ?_ ?_ ?_); (· rfl); (· rfl); (· exact Af.o); (· rfl); (· simp [Value.oneCell']); intro w9 hw9)
   have hD9 := aC_ Aa.o.F [.int .u8 (64 + op), .slice Ab kl cb] rfl
   have hc9 := av_ hD9 [.int .u8 (64 + op), .slice Ab kl cb] rfl fun i hi => rfl
   have hk9 : Kept [w.heap.size + 1] w8 (w8.setCells (w.heap.size + 1) 0 [.int .u8 (64 + op), .slice Ab kl cb]) := am_ (by simp) _ _ _ (Kept.refl _ _)
   refine bodyPost_ret (as_ rfl _ _ ⟨w.heap.size + 1, 0, none⟩ #[.int .u8 (64 + op), .slice Ab kl cb] rfl (af_ _ _ _ _ _ hc9 Tryz.underlying270 rfl (by kernel_rfl))) rfl ⟨⟨_, _, _, _, by rw [Ag.o]; rfl⟩, ?_⟩
   exact Aa.o.bel.trans (hk9.below Aa.o.bel.size (by simp))
theorem iv_ (r : RespR) (hs : RespS r) (vi vn : Value) (w : World) (hok : RespOk w w.heap.size r vi vn) :
  Calls Tryz.prog 112 #[.agg (respC r vi vn).toArray] w fun e w' => e = .returned (.bool (aX_ r)) /\ Bw w w' := by
 have hb1 := below1 w (.cells (respC r vi vn).toArray 40)
 obtain ⟨HW, HC, HZ, Ab, HV⟩ := kq5 (kl_ r hs vi vn _ ((hok.below hb1 (lR _)).mono hb1.size)) (dr_ w (respC r vi vn) _ 40 rfl) (bb_ r vi vn) hb1 (show errR r = if aX_ r = true then 0 else 2 from rfl)
 clear hok hb1
 generalize respC r vi vn = l at *
 go_enter Tryz.func112, Tryz.ntmps112
 go_wp2_with ((with_reducible refine wpList_load_agg (o := ⟨some 6, _, _, _, _, _⟩) rfl 40 _ rfl ⟨w.heap.size, 0, none⟩ ?_ l _ HC.o Tryz.underlying40 rfl HZ.o ?_); (· rfl))
 refine HW.o.mono ?_
 rintro e w2 ⟨⟨p, A, n, c, rfl⟩, hb2⟩
 have Aa := kp hb2
 have HE := HV.o
 cases hv : aX_ r
 ·rw [hv] at HE
  have he : errR r = 2 := HE
  clear HE
  rw [he]
  go_wp2_with fail
  go_ret
  exact rb hv (Ab.o.trans ((Aa.o.alloc Aa.o.size _).mono Ab.o.size))
 rw [hv] at HE
 have he : errR r = 0 := HE
 clear HE
 rw [he]
 go_wp2_with fail
 go_ret
 exact rb hv (Ab.o.trans ((Aa.o.alloc Aa.o.size _).mono Ab.o.size))
end Go.Proofs.YtnjhpgmbfblgaaaGreat.Ord
