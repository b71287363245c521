/- What was done (Did); walks of script.Equal. -/
import Derived.Test.YtnmhmabifeapkaaE4
import Derived.Test.YtnmhmabifeapkaaE2
import Derived.Test.YtnmhmabifeapkaaR23
import Derived.Deep.DeepCutAuto
namespace Go.Proofs.Ytnmhmabifeapkaa.Ord
open Go.RowKit
set_option linter.unusedVariables false

set_option maxRecDepth 100000 in
set_option maxHeartbeats 4000000 in
theorem step20 (r s : StepR) (d e : Value) (w : World) (hr : DatG w w.heap.size d r.d) (hs : DatG w w.heap.size e s.d) :
    Calls Try.prog 20 #[.agg (stepL r.k r.c r.n d).toArray, .agg (stepL s.k s.c s.n e).toArray] w fun e w' => e = .returned (.bool (stepEq r s)) ∧ Below w.heap.size w w' := by
  have h2 := below2 w (.cells (stepL r.k r.c r.n d).toArray 35) (.cells (stepL s.k s.c s.n e).toArray 35)
  obtain ⟨av1, av2, A, c, rfl, av3⟩ := (hr.below h2 (Nat.le_refl _)).mono h2.size
  obtain ⟨bv1, bv2, A', c', rfl, bv3⟩ := (hs.below h2 (Nat.le_refl _)).mono h2.size
  clear hr hs
  obtain ⟨rk, rc, rn, rd⟩ := r
  obtain ⟨sk, sc, sn, sd⟩ := s
  simp only [stepL] at *
  have H41 := Lib.hid (bytes41 A A' _ _ c c' rd sd _ rfl rfl av1 bv1 av3 bv3)
  obtain ⟨res, hres⟩ : ∃ res, stepEq ⟨rk, rc, rn, rd⟩ ⟨sk, sc, sn, sd⟩ = res := ⟨_, rfl⟩
  rw [hres]
  simp only [stepEq] at hres
  obtain ⟨g1, hg1⟩ : ∃ g1, decide (rd = sd) = g1 := ⟨_, rfl⟩
  rw [hg1] at hres H41
  clear hg1 av3 bv3 av1 bv1 av2 bv2
  generalize rd.length = n1 at *
  generalize sd.length = n2 at *
  clear rd sd
  have HR := Lib.hid hres
  have HB := Lib.hid h2
  clear hres h2
  go_enter Try.func20, Try.ntmps20
  cases t0 : (rk == sk)
  · go_wp2_with fail
    go_ret
    exact ⟨ret_bool (by rw [← HR.out]; simp [t0]), HB.out⟩
  cases t1 : (rc == sc)
  · go_wp2_with fail
    go_ret
    exact ⟨ret_bool (by rw [← HR.out]; simp [t1]), HB.out⟩
  cases t2 : (rn == sn)
  · go_wp2_with fail
    go_ret
    exact ⟨ret_bool (by rw [← HR.out]; simp [t2]), HB.out⟩
  go_wp2_with fail
  refine H41.out.mono ?_
  rintro e w1 ⟨rfl, q1, rfl⟩
  go_wp2_with fail
  go_ret
  exact ⟨ret_bool (by rw [← HR.out]; simp [t0, t1, t2]), ⟨HB.out.os, HB.out.tape, HB.out.output, HB.out.size, HB.out.block⟩⟩

structure DidR where
  step : StepR
  err : Int
  n : Int
  data : List Int
  micro : Int
  cmd : CmdR
  resp : RespR
  when : Int
structure DidV where
  vs : Value
  vd : Value
  vk : Value
  vv : Value
  vt : Value
  vi : Value
  vn : Value
def didL (sk sc sn : Int) (vs : Value) (err n : Int) (vd : Value) (micro op : Int) (key : ByteArray) (vk vv vt : Value) (life ver : Int) (tag pre chi : ByteArray) (rop rerr : Int) (vi : Value) (rver rcount : Int) (vn : Value) (at_ : Int) : List Value :=
  [.int .i64 sk, .int .i64 sc, .int .i64 sn, vs, .int .i64 err, .int .i64 n, vd, .int .i64 micro, .int .i64 op, .string key, vk, vv, vt, .int .u64 life, .int .u64 ver, .string tag, .string pre, .string chi, .int .i64 rop, .int .i64 rerr, vi, .int .u64 rver, .int .i64 rcount, vn, .int .u64 at_]
def didC (d : DidR) (p : DidV) : List Value := didL d.step.k d.step.c d.step.n p.vs d.err d.n p.vd d.micro d.cmd.op d.cmd.key p.vk p.vv p.vt d.cmd.life d.cmd.ver d.cmd.tag d.cmd.pre d.cmd.chi d.resp.op d.resp.err p.vi d.resp.ver d.resp.count p.vn d.when
def DidOk (w : World) (B : Nat) (d : DidR) (p : DidV) : Prop := DatG w B p.vs d.step.d ∧ DatG w B p.vd d.data ∧ CmdOk w B d.cmd p.vk p.vv p.vt ∧ RespOk w B d.resp p.vi p.vn
theorem DidOk.below {B B' : Nat} {w w' : World} {d : DidR} {p : DidV} (h : DidOk w B d p) (hb : Below B' w w') (hB : B ≤ B') : DidOk w' B d p := ⟨h.1.below hb hB, h.2.1.below hb hB, h.2.2.1.below hb hB, h.2.2.2.below hb hB⟩
theorem DidOk.mono {B B' : Nat} {w : World} {d : DidR} {p : DidV} (h : DidOk w B d p) (hB : B ≤ B') : DidOk w B' d p := ⟨h.1.mono hB, h.2.1.mono hB, h.2.2.1.mono hB, h.2.2.2.mono hB⟩
def didEq (a b : DidR) : Bool := stepEq a.step b.step && a.err == b.err && a.n == b.n && decide (a.data = b.data) && a.micro == b.micro && cmdEq a.cmd b.cmd && respEq a.resp b.resp && a.when == b.when

theorem CellsAt.slice {w : World} {b : Nat} {cs : List Value} (h : CellsAt w ⟨b, 0, none⟩ cs) (k m : Nat) : CellsAt w ⟨b, k, none⟩ ((cs.drop k).take m) := by
  intro j v hj
  have hjm : j < m := by
    have := (List.getElem?_eq_some_iff.1 hj).1
    simp at this; omega
  rw [List.getElem?_take_of_lt hjm, List.getElem?_drop] at hj
  rw [Addr.add_mid]
  exact h.cell0 hj
theorem wpList_load_agg_w {ops : Array Oper} {rest : List Oper} {o : Oper} {a : Act} {w : World} {Q : Exit → Act → World → Prop} (hw : Region.wanted o (yielded ops a.tmps) = true) (ty : TypeId) (x : Operand) (ho : o.op = .load ty x)
    (ad : Addr) (hx : a.eval x = .pointer (some ad)) (cs : List Value) (fs : Array Field) (hc : CellsAt w ad cs)
    (hu : Try.prog.underlying ty = some (.struct fs)) (hi : (Try.prog.info? ty).map (·.size) = some cs.length)
    (h : wpList Try.prog ops Q rest (a.put o.dst (.agg cs.toArray)) w) : wpList Try.prog ops Q (o :: rest) a w :=
  wpList_step fun K hK => by
    rw [if_pos hw]
    exact wp_load_agg ty x ho ad hx cs _ hc hu rfl hi (hK _ _ h)
theorem cmd_size (a : CmdR) (vk vv vt : Value) : (Try.prog.info? 45).map (·.size) = some (cmdC a vk vv vt).length := by
  show _ = some 10
  kernel_rfl
theorem resp_size (a : RespR) (vi vn : Value) : (Try.prog.info? 49).map (·.size) = some (respC a vi vn).length := by
  show _ = some 6
  kernel_rfl

theorem cmd_sizeL (a b c d e f g h i j : Value) : (Try.prog.info? 45).map (·.size) = some [a, b, c, d, e, f, g, h, i, j].length := by
  show _ = some 10
  kernel_rfl
theorem resp_sizeL (a b c d e f : Value) : (Try.prog.info? 49).map (·.size) = some [a, b, c, d, e, f].length := by
  show _ = some 6
  kernel_rfl

set_option maxRecDepth 100000 in
set_option maxHeartbeats 8000000 in
theorem same22 (a b : DidR) (p q : DidV) (w : World) (ha : DidOk w w.heap.size a p) (hb : DidOk w w.heap.size b q) :
    Calls Try.prog 22 #[.agg (didC a p).toArray, .agg (didC b q).toArray] w fun e w' => e = .returned (.bool (didEq a b)) ∧ Below w.heap.size w w' := by
  obtain ⟨h1, h2, h3, h4⟩ := two_boxes w (didC a p) (didC b q) 51 51
  have ha0 := (ha.below h4 (Nat.le_refl _)).mono h4.size
  have hb0 := (hb.below h4 (Nat.le_refl _)).mono h4.size
  clear ha hb
  obtain ⟨W0, hW0⟩ : ∃ W0, (w.alloc (.cells (didC a p).toArray 51)).alloc (.cells (didC b q).toArray 51) = W0 := ⟨_, rfl⟩
  rw [hW0] at h1 h2 h3 h4 ha0 hb0
  have ho : ∀ W, Below W0.heap.size W0 W → DidOk W W.heap.size a p ∧ DidOk W W.heap.size b q := fun W hW => ⟨(ha0.below hW (Nat.le_refl _)).mono hW.size, (hb0.below hW (Nat.le_refl _)).mono hW.size⟩
  have hS := fun W hW => step20 a.step b.step p.vs q.vs W (ho W hW).1.1 (ho W hW).2.1
  have hC := fun W hW => cmd42 a.cmd b.cmd p.vk p.vv p.vt q.vk q.vv q.vt W (ho W hW).1.2.2.1 (ho W hW).2.2.2.1
  have hR := fun W hW => resp43 a.resp b.resp p.vi p.vn q.vi q.vn W (ho W hW).1.2.2.2 (ho W hW).2.2.2.2
  have hD1 := fun W hW => (ho W hW).1.2.1
  have hD2 := fun W hW => (ho W hW).2.2.1
  clear ho
  obtain ⟨⟨sk, sc, sn, sd⟩, err, n, data, micro, ⟨op, key, keys, val, tags, life, ver, tag, pre, chi⟩, ⟨rop, rerr, items, rver, rcount, nums⟩, tim⟩ := a
  obtain ⟨⟨sk', sc', sn', sd'⟩, err', n', data', micro', ⟨op', key', keys', val', tags', life', ver', tag', pre', chi'⟩, ⟨rop', rerr', items', rver', rcount', nums'⟩, tim'⟩ := b
  obtain ⟨vs, vd, vk, vv, vt, vi, vn⟩ := p
  obtain ⟨vs', vd', vk', vv', vt', vi', vn'⟩ := q
  obtain ⟨⟨x1, x2, A1, c1, rfl, x3⟩, ⟨x4, x5, A2, c2, rfl, x6⟩, ⟨⟨x7, A3, c3, rfl, x8⟩, ⟨x9, x10, A4, c4, rfl, x11⟩, ⟨x12, A5, c5, rfl, x13⟩⟩, ⟨⟨x14, A6, c6, rfl, x15⟩, x16, A7, c7, rfl, x17⟩⟩ := ha0
  obtain ⟨⟨y1, y2, A1', c1', rfl, y3⟩, ⟨y4, y5, A2', c2', rfl, y6⟩, ⟨⟨y7, A3', c3', rfl, y8⟩, ⟨y9, y10, A4', c4', rfl, y11⟩, ⟨y12, A5', c5', rfl, y13⟩⟩, ⟨⟨y14, A6', c6', rfl, y15⟩, y16, A7', c7', rfl, y17⟩⟩ := hb0
  clear x1 x2 x3 x5 x6 x7 x8 x9 x10 x11 x12 x13 x14 x15 x16 x17 y1 y2 y3 y5 y6 y7 y8 y9 y10 y11 y12 y13 y14 y15 y16 y17
  have hD := fun W hW => bytes41 A2 A2' _ _ c2 c2' data data' W rfl rfl x4 y4 (by obtain ⟨_, _, A, c, h1, h2⟩ := hD1 W hW; cases h1; exact h2) (by obtain ⟨_, _, A, c, h1, h2⟩ := hD2 W hW; cases h1; exact h2)
  clear hD1 hD2 x4 y4
  simp only [didC, didL, stepL, cmdC, respC] at h1 h2 hS hC hR hW0 ⊢
  obtain ⟨res, hres⟩ : ∃ res, didEq ⟨⟨sk, sc, sn, sd⟩, err, n, data, micro, ⟨op, key, keys, val, tags, life, ver, tag, pre, chi⟩, ⟨rop, rerr, items, rver, rcount, nums⟩, tim⟩ ⟨⟨sk', sc', sn', sd'⟩, err', n', data', micro', ⟨op', key', keys', val', tags', life', ver', tag', pre', chi'⟩, ⟨rop', rerr', items', rver', rcount', nums'⟩, tim'⟩ = res := ⟨_, rfl⟩
  rw [hres]
  simp only [didEq] at hres
  obtain ⟨gS, hgS⟩ : ∃ g, stepEq ⟨sk, sc, sn, sd⟩ ⟨sk', sc', sn', sd'⟩ = g := ⟨_, rfl⟩
  obtain ⟨gC, hgC⟩ : ∃ g, cmdEq ⟨op, key, keys, val, tags, life, ver, tag, pre, chi⟩ ⟨op', key', keys', val', tags', life', ver', tag', pre', chi'⟩ = g := ⟨_, rfl⟩
  obtain ⟨gR, hgR⟩ : ∃ g, respEq ⟨rop, rerr, items, rver, rcount, nums⟩ ⟨rop', rerr', items', rver', rcount', nums'⟩ = g := ⟨_, rfl⟩
  obtain ⟨gD, hgD⟩ : ∃ g, decide (data = data') = g := ⟨_, rfl⟩
  rw [hgS, hgC, hgR, hgD] at hres
  rw [hgD] at hD
  clear hgD
  rw [hgS] at hS
  rw [hgC] at hC
  rw [hgR] at hR
  clear hgS hgC hgR
  have HS := Lib.hid hS
  have HC := Lib.hid hC
  have HRR := Lib.hid hR
  have HD := Lib.hid hD
  clear hD
  have HC1 := Lib.hid h1
  have HC2 := Lib.hid h2
  have HSZ := Lib.hid h3
  have HB := Lib.hid h4
  have HW0 := Lib.hid hW0
  have HR := Lib.hid hres
  clear hS hC hR h1 h2 h3 h4 hW0 hres
  go_enter Try.func22, Try.ntmps22
  cases t0 : (err == err')
  · go_wp2_with fail
    go_ret
    exact ⟨ret_bool (by rw [← HR.out]; simp [t0]), by rw [HW0.out]; exact HB.out⟩
  cases t1 : (n == n')
  · go_wp2_with fail
    go_ret
    exact ⟨ret_bool (by rw [← HR.out]; simp [t1]), by rw [HW0.out]; exact HB.out⟩
  cases t2 : (micro == micro')
  · go_wp2_with fail
    go_ret
    exact ⟨ret_bool (by rw [← HR.out]; simp [t2]), by rw [HW0.out]; exact HB.out⟩
  cases t3 : (tim == tim')
  · go_wp2_with fail
    go_ret
    exact ⟨ret_bool (by rw [← HR.out]; simp [t3]), by rw [HW0.out]; exact HB.out⟩
  go_upto_region 2 with (fail)
  rw [HW0.out]
  have HA0 := Lib.hid (show CellsAt W0 ⟨w.heap.size, 0, none⟩ [.int .i64 sk, .int .i64 sc, .int .i64 sn, .slice A1 sd.length c1] from HC1.out.slice 0 4)
  have HB0 := Lib.hid (show CellsAt W0 ⟨w.heap.size + 1, 0, none⟩ [.int .i64 sk', .int .i64 sc', .int .i64 sn', .slice A1' sd'.length c1'] from HC2.out.slice 0 4)
  go_wp2_with (first
    | ((with_reducible refine wpList_load_agg_w (o := ⟨some 35, _, _, _, _, _⟩) ?_ 35 _ rfl ⟨w.heap.size, 0, none⟩ ?_ [.int .i64 sk, .int .i64 sc, .int .i64 sn, .slice A1 sd.length c1] _ HA0.out Try.underlying35 (lit_size _ _ _ _) ?_); (· rfl); (· rfl))
    | ((with_reducible refine wpList_load_agg_w (o := ⟨some 37, _, _, _, _, _⟩) ?_ 35 _ rfl ⟨w.heap.size + 1, 0, none⟩ ?_ [.int .i64 sk', .int .i64 sc', .int .i64 sn', .slice A1' sd'.length c1'] _ HB0.out Try.underlying35 (lit_size _ _ _ _) ?_); (· rfl); (· rfl)))
  refine (HS.out W0 (Below.refl _ _)).mono ?_
  rintro e w1 ⟨rfl, hb1⟩
  have HB1 := Lib.hid hb1
  have c1 := HC1.out.below hb1 (show w.heap.size < _ by rw [HSZ.out]; omega)
  have c2 := HC2.out.below hb1 (show w.heap.size + 1 < _ by rw [HSZ.out]; omega)
  have f16 := c1.cell0 (j := 6) rfl
  have f26 := c2.cell0 (j := 6) rfl
  have K1 := Lib.hid c1
  have K2 := Lib.hid c2
  clear hb1 c1 c2
  have hbe1 := HB.out.trans (HB1.out.mono HB.out.size)
  cases gS
  · go_wp2_with fail
    go_ret
    exact ⟨ret_bool (by rw [← HR.out]; simp), hbe1⟩
  go_wp2_with fail
  refine (HD.out w1 HB1.out).mono ?_
  rintro e w1' ⟨rfl, q1, rfl⟩
  clear f16 f26
  have hbe2 : Below w.heap.size w (w1.drewN q1) := ⟨hbe1.os, hbe1.tape, hbe1.output, hbe1.size, hbe1.block⟩
  have HBd := Lib.hid (show Below W0.heap.size W0 (w1.drewN q1) from ⟨HB1.out.os, HB1.out.tape, HB1.out.output, HB1.out.size, HB1.out.block⟩)
  have HA8 := Lib.hid (show CellsAt (w1.drewN q1) ⟨w.heap.size, 8, none⟩ [.int .i64 op, .string key, .slice A3 keys.length c3, .slice A4 val.length c4, .slice A5 tags.length c5, .int .u64 life, .int .u64 ver, .string tag, .string pre, .string chi] from K1.out.slice 8 10)
  have HB8 := Lib.hid (show CellsAt (w1.drewN q1) ⟨w.heap.size + 1, 8, none⟩ [.int .i64 op', .string key', .slice A3' keys'.length c3', .slice A4' val'.length c4', .slice A5' tags'.length c5', .int .u64 life', .int .u64 ver', .string tag', .string pre', .string chi'] from K2.out.slice 8 10)
  cases gD
  · go_wp2_with fail
    go_ret
    exact ⟨ret_bool (by rw [← HR.out]; simp), hbe2⟩
  go_wp2_with (first
    | ((with_reducible refine wpList_load_agg_w (o := ⟨some 49, _, _, _, _, _⟩) ?_ 45 _ rfl ⟨w.heap.size, 8, none⟩ ?_ [.int .i64 op, .string key, .slice A3 keys.length c3, .slice A4 val.length c4, .slice A5 tags.length c5, .int .u64 life, .int .u64 ver, .string tag, .string pre, .string chi] _ HA8.out Try.underlying45 (cmd_sizeL _ _ _ _ _ _ _ _ _ _) ?_); (· rfl); (· rfl))
    | ((with_reducible refine wpList_load_agg_w (o := ⟨some 51, _, _, _, _, _⟩) ?_ 45 _ rfl ⟨w.heap.size + 1, 8, none⟩ ?_ [.int .i64 op', .string key', .slice A3' keys'.length c3', .slice A4' val'.length c4', .slice A5' tags'.length c5', .int .u64 life', .int .u64 ver', .string tag', .string pre', .string chi'] _ HB8.out Try.underlying45 (cmd_sizeL _ _ _ _ _ _ _ _ _ _) ?_); (· rfl); (· rfl)))
  refine (HC.out _ HBd.out).mono ?_
  rintro e w2 ⟨rfl, hb2⟩
  have hbe3 := hbe2.trans (hb2.mono hbe2.size)
  have HBd2 := Lib.hid (HBd.out.trans (hb2.mono HBd.out.size))
  have HA18 := Lib.hid (show CellsAt w2 ⟨w.heap.size, 18, none⟩ [.int .i64 rop, .int .i64 rerr, .slice A6 items.length c6, .int .u64 rver, .int .i64 rcount, .slice A7 nums.length c7] from (HC1.out.below HBd2.out (show w.heap.size < _ by rw [HSZ.out]; omega)).slice 18 6)
  have HB18 := Lib.hid (show CellsAt w2 ⟨w.heap.size + 1, 18, none⟩ [.int .i64 rop', .int .i64 rerr', .slice A6' items'.length c6', .int .u64 rver', .int .i64 rcount', .slice A7' nums'.length c7'] from (HC2.out.below HBd2.out (show w.heap.size + 1 < _ by rw [HSZ.out]; omega)).slice 18 6)
  clear hb2
  cases gC
  · go_wp2_with fail
    go_ret
    exact ⟨ret_bool (by rw [← HR.out]; simp), hbe3⟩
  go_wp2_with (first
    | ((with_reducible refine wpList_load_agg_w (o := ⟨some 56, _, _, _, _, _⟩) ?_ 49 _ rfl ⟨w.heap.size, 18, none⟩ ?_ [.int .i64 rop, .int .i64 rerr, .slice A6 items.length c6, .int .u64 rver, .int .i64 rcount, .slice A7 nums.length c7] _ HA18.out Try.underlying49 (resp_sizeL _ _ _ _ _ _) ?_); (· rfl); (· rfl))
    | ((with_reducible refine wpList_load_agg_w (o := ⟨some 58, _, _, _, _, _⟩) ?_ 49 _ rfl ⟨w.heap.size + 1, 18, none⟩ ?_ [.int .i64 rop', .int .i64 rerr', .slice A6' items'.length c6', .int .u64 rver', .int .i64 rcount', .slice A7' nums'.length c7'] _ HB18.out Try.underlying49 (resp_sizeL _ _ _ _ _ _) ?_); (· rfl); (· rfl)))
  refine (HRR.out _ HBd2.out).mono ?_
  rintro e w3 ⟨rfl, hb3⟩
  go_wp2_with fail
  go_ret
  exact ⟨ret_bool (by rw [← HR.out]; simp [t0, t1, t2, t3]), hbe3.trans (hb3.mono hbe3.size)⟩

set_option maxRecDepth 100000 in
set_option maxHeartbeats 8000000 in
theorem same23 (a b : DidR) (p q : DidV) (w : World) (ha : DidOk w w.heap.size a p) (hb : DidOk w w.heap.size b q) (hla : a.step.d.length ≤ 10000) (hlb : b.step.d.length ≤ 10000):
    Calls Try.prog 23 #[.agg (didC a p).toArray, .agg (didC b q).toArray] w fun e w' => e = .returned (.bool (didEq a b)) ∧ Below w.heap.size w w' := by
  obtain ⟨h1, h2, h3, h4⟩ := two_boxes w (didC a p) (didC b q) 51 51
  have ha0 := (ha.below h4 (Nat.le_refl _)).mono h4.size
  have hb0 := (hb.below h4 (Nat.le_refl _)).mono h4.size
  clear ha hb
  obtain ⟨W0, hW0⟩ : ∃ W0, (w.alloc (.cells (didC a p).toArray 51)).alloc (.cells (didC b q).toArray 51) = W0 := ⟨_, rfl⟩
  rw [hW0] at h1 h2 h3 h4 ha0 hb0
  have ho : ∀ W, Below W0.heap.size W0 W → DidOk W W.heap.size a p ∧ DidOk W W.heap.size b q := fun W hW => ⟨(ha0.below hW (Nat.le_refl _)).mono hW.size, (hb0.below hW (Nat.le_refl _)).mono hW.size⟩
  have hS := fun W hW => sameStep_any a.step b.step p.vs q.vs W ⟨(ho W hW).1.1.1, hla, (ho W hW).1.1.2.2⟩ ⟨(ho W hW).2.1.1, hlb, (ho W hW).2.1.2.2⟩
  clear hla hlb
  have hC := fun W hW => cmd44 a.cmd b.cmd p.vk p.vv p.vt q.vk q.vv q.vt W (ho W hW).1.2.2.1 (ho W hW).2.2.2.1
  have hR := fun W hW => resp45 a.resp b.resp p.vi p.vn q.vi q.vn W (ho W hW).1.2.2.2 (ho W hW).2.2.2.2
  have hD1 := fun W hW => (ho W hW).1.2.1
  have hD2 := fun W hW => (ho W hW).2.2.1
  clear ho
  obtain ⟨⟨sk, sc, sn, sd⟩, err, n, data, micro, ⟨op, key, keys, val, tags, life, ver, tag, pre, chi⟩, ⟨rop, rerr, items, rver, rcount, nums⟩, tim⟩ := a
  obtain ⟨⟨sk', sc', sn', sd'⟩, err', n', data', micro', ⟨op', key', keys', val', tags', life', ver', tag', pre', chi'⟩, ⟨rop', rerr', items', rver', rcount', nums'⟩, tim'⟩ := b
  obtain ⟨vs, vd, vk, vv, vt, vi, vn⟩ := p
  obtain ⟨vs', vd', vk', vv', vt', vi', vn'⟩ := q
  obtain ⟨⟨x1, x2, A1, c1, rfl, x3⟩, ⟨x4, x5, A2, c2, rfl, x6⟩, ⟨⟨x7, A3, c3, rfl, x8⟩, ⟨x9, x10, A4, c4, rfl, x11⟩, ⟨x12, A5, c5, rfl, x13⟩⟩, ⟨⟨x14, A6, c6, rfl, x15⟩, x16, A7, c7, rfl, x17⟩⟩ := ha0
  obtain ⟨⟨y1, y2, A1', c1', rfl, y3⟩, ⟨y4, y5, A2', c2', rfl, y6⟩, ⟨⟨y7, A3', c3', rfl, y8⟩, ⟨y9, y10, A4', c4', rfl, y11⟩, ⟨y12, A5', c5', rfl, y13⟩⟩, ⟨⟨y14, A6', c6', rfl, y15⟩, y16, A7', c7', rfl, y17⟩⟩ := hb0
  clear x1 x2 x3 x5 x6 x7 x8 x9 x10 x11 x12 x13 x14 x15 x16 x17 y1 y2 y3 y5 y6 y7 y8 y9 y10 y11 y12 y13 y14 y15 y16 y17
  have hD := fun W hW => bytes41 A2 A2' _ _ c2 c2' data data' W rfl rfl x4 y4 (by obtain ⟨_, _, A, c, h1, h2⟩ := hD1 W hW; cases h1; exact h2) (by obtain ⟨_, _, A, c, h1, h2⟩ := hD2 W hW; cases h1; exact h2)
  have hse := str_beq x4 y4
  have hq1 := fun W hW => Byt.convert (w := W) (B := W.heap.size) (n := data.length) (xs := data) (A := A2) (c := c2) (by obtain ⟨_, _, A, c, h1, h2⟩ := hD1 W hW; cases h1; exact h2) rfl
  have hq2 := fun W hW => Byt.convert (w := W) (B := W.heap.size) (n := data'.length) (xs := data') (A := A2') (c := c2') (by obtain ⟨_, _, A, c, h1, h2⟩ := hD2 W hW; cases h1; exact h2) rfl
  clear hD1 hD2 x4 y4
  simp only [didC, didL, stepL, cmdC, respC] at h1 h2 hS hC hR hW0 ⊢
  obtain ⟨res, hres⟩ : ∃ res, didEq ⟨⟨sk, sc, sn, sd⟩, err, n, data, micro, ⟨op, key, keys, val, tags, life, ver, tag, pre, chi⟩, ⟨rop, rerr, items, rver, rcount, nums⟩, tim⟩ ⟨⟨sk', sc', sn', sd'⟩, err', n', data', micro', ⟨op', key', keys', val', tags', life', ver', tag', pre', chi'⟩, ⟨rop', rerr', items', rver', rcount', nums'⟩, tim'⟩ = res := ⟨_, rfl⟩
  rw [hres]
  simp only [didEq] at hres
  obtain ⟨gS, hgS⟩ : ∃ g, stepEq ⟨sk, sc, sn, sd⟩ ⟨sk', sc', sn', sd'⟩ = g := ⟨_, rfl⟩
  obtain ⟨gC, hgC⟩ : ∃ g, cmdEq ⟨op, key, keys, val, tags, life, ver, tag, pre, chi⟩ ⟨op', key', keys', val', tags', life', ver', tag', pre', chi'⟩ = g := ⟨_, rfl⟩
  obtain ⟨gR, hgR⟩ : ∃ g, respEq ⟨rop, rerr, items, rver, rcount, nums⟩ ⟨rop', rerr', items', rver', rcount', nums'⟩ = g := ⟨_, rfl⟩
  rw [← hse] at hres
  clear hse hD
  generalize strOfNums data = sa at *
  generalize strOfNums data' = sb at *
  rw [hgS, hgC, hgR] at hres
  rw [hgS] at hS
  rw [hgC] at hC
  rw [hgR] at hR
  clear hgS hgC hgR
  have HS := Lib.hid hS
  have HC := Lib.hid hC
  have HRR := Lib.hid hR
  have HQ1 := Lib.hid hq1
  have HQ2 := Lib.hid hq2
  clear hq1 hq2
  have HC1 := Lib.hid h1
  have HC2 := Lib.hid h2
  have HSZ := Lib.hid h3
  have HB := Lib.hid h4
  have HW0 := Lib.hid hW0
  have HR := Lib.hid hres
  clear hS hC hR h1 h2 h3 h4 hW0 hres
  go_enter Try.func23, Try.ntmps23
  go_upto_region 1 with (fail)
  rw [HW0.out]
  have HA0 := Lib.hid (show CellsAt W0 ⟨w.heap.size, 0, none⟩ [.int .i64 sk, .int .i64 sc, .int .i64 sn, .slice A1 sd.length c1] from HC1.out.slice 0 4)
  have HB0 := Lib.hid (show CellsAt W0 ⟨w.heap.size + 1, 0, none⟩ [.int .i64 sk', .int .i64 sc', .int .i64 sn', .slice A1' sd'.length c1'] from HC2.out.slice 0 4)
  go_wp2_with (first
    | ((with_reducible refine wpList_load_agg_w (o := ⟨some 6, _, _, _, _, _⟩) ?_ 35 _ rfl ⟨w.heap.size, 0, none⟩ ?_ [.int .i64 sk, .int .i64 sc, .int .i64 sn, .slice A1 sd.length c1] _ HA0.out Try.underlying35 (lit_size _ _ _ _) ?_); (· rfl); (· rfl))
    | ((with_reducible refine wpList_load_agg_w (o := ⟨some 8, _, _, _, _, _⟩) ?_ 35 _ rfl ⟨w.heap.size + 1, 0, none⟩ ?_ [.int .i64 sk', .int .i64 sc', .int .i64 sn', .slice A1' sd'.length c1'] _ HB0.out Try.underlying35 (lit_size _ _ _ _) ?_); (· rfl); (· rfl)))
  refine (HS.out W0 (Below.refl _ _)).mono ?_
  rintro e w1 ⟨rfl, hb1⟩
  have HB1 := Lib.hid hb1
  have c1 := HC1.out.below hb1 (show w.heap.size < _ by rw [HSZ.out]; omega)
  have c2 := HC2.out.below hb1 (show w.heap.size + 1 < _ by rw [HSZ.out]; omega)
  have f14 := c1.cell0 (j := 4) rfl
  have f24 := c2.cell0 (j := 4) rfl
  have f15 := c1.cell0 (j := 5) rfl
  have f25 := c2.cell0 (j := 5) rfl
  have f16 := c1.cell0 (j := 6) rfl
  have f26 := c2.cell0 (j := 6) rfl
  have f17 := c1.cell0 (j := 7) rfl
  have f27 := c2.cell0 (j := 7) rfl
  have e1 := HQ1.out w1 hb1
  have e2 := HQ2.out w1 hb1
  have HA8 := Lib.hid (show CellsAt w1 ⟨w.heap.size, 8, none⟩ [.int .i64 op, .string key, .slice A3 keys.length c3, .slice A4 val.length c4, .slice A5 tags.length c5, .int .u64 life, .int .u64 ver, .string tag, .string pre, .string chi] from c1.slice 8 10)
  have HB8 := Lib.hid (show CellsAt w1 ⟨w.heap.size + 1, 8, none⟩ [.int .i64 op', .string key', .slice A3' keys'.length c3', .slice A4' val'.length c4', .slice A5' tags'.length c5', .int .u64 life', .int .u64 ver', .string tag', .string pre', .string chi'] from c2.slice 8 10)
  clear hb1 c1 c2
  have hbe1 := HB.out.trans (HB1.out.mono HB.out.size)
  cases gS
  · go_wp2_with fail
    go_ret
    exact ⟨ret_bool (by rw [← HR.out]; simp), hbe1⟩
  cases t0 : (err == err')
  · go_wp2_with fail
    go_ret
    exact ⟨ret_bool (by rw [← HR.out]; simp [t0]), hbe1⟩
  cases t1 : (n == n')
  · go_wp2_with fail
    go_ret
    exact ⟨ret_bool (by rw [← HR.out]; simp [t1]), hbe1⟩
  cases t2 : (sa.toList == sb.toList)
  · go_wp2_with fail
    go_ret
    exact ⟨ret_bool (by rw [← HR.out]; simp [t2]), hbe1⟩
  cases t3 : (micro == micro')
  · go_wp2_with fail
    go_ret
    exact ⟨ret_bool (by rw [← HR.out]; simp [t3]), hbe1⟩
  go_wp2_with (first
    | ((with_reducible refine wpList_load_agg_w (o := ⟨some 42, _, _, _, _, _⟩) ?_ 45 _ rfl ⟨w.heap.size, 8, none⟩ ?_ [.int .i64 op, .string key, .slice A3 keys.length c3, .slice A4 val.length c4, .slice A5 tags.length c5, .int .u64 life, .int .u64 ver, .string tag, .string pre, .string chi] _ HA8.out Try.underlying45 (cmd_sizeL _ _ _ _ _ _ _ _ _ _) ?_); (· rfl); (· rfl))
    | ((with_reducible refine wpList_load_agg_w (o := ⟨some 44, _, _, _, _, _⟩) ?_ 45 _ rfl ⟨w.heap.size + 1, 8, none⟩ ?_ [.int .i64 op', .string key', .slice A3' keys'.length c3', .slice A4' val'.length c4', .slice A5' tags'.length c5', .int .u64 life', .int .u64 ver', .string tag', .string pre', .string chi'] _ HB8.out Try.underlying45 (cmd_sizeL _ _ _ _ _ _ _ _ _ _) ?_); (· rfl); (· rfl)))
  refine (HC.out _ HB1.out).mono ?_
  rintro e w2 ⟨rfl, hb2⟩
  clear f14 f24 f15 f25 f16 f26 f17 f27 e1 e2
  have hbe3 := hbe1.trans (hb2.mono hbe1.size)
  have HBd2 := Lib.hid (HB1.out.trans (hb2.mono HB1.out.size))
  have HA18 := Lib.hid (show CellsAt w2 ⟨w.heap.size, 18, none⟩ [.int .i64 rop, .int .i64 rerr, .slice A6 items.length c6, .int .u64 rver, .int .i64 rcount, .slice A7 nums.length c7] from (HC1.out.below HBd2.out (show w.heap.size < _ by rw [HSZ.out]; omega)).slice 18 6)
  have HB18 := Lib.hid (show CellsAt w2 ⟨w.heap.size + 1, 18, none⟩ [.int .i64 rop', .int .i64 rerr', .slice A6' items'.length c6', .int .u64 rver', .int .i64 rcount', .slice A7' nums'.length c7'] from (HC2.out.below HBd2.out (show w.heap.size + 1 < _ by rw [HSZ.out]; omega)).slice 18 6)
  clear hb2
  cases gC
  · go_wp2_with fail
    go_ret
    exact ⟨ret_bool (by rw [← HR.out]; simp), hbe3⟩
  go_wp2_with (first
    | ((with_reducible refine wpList_load_agg_w (o := ⟨some 49, _, _, _, _, _⟩) ?_ 49 _ rfl ⟨w.heap.size, 18, none⟩ ?_ [.int .i64 rop, .int .i64 rerr, .slice A6 items.length c6, .int .u64 rver, .int .i64 rcount, .slice A7 nums.length c7] _ HA18.out Try.underlying49 (resp_sizeL _ _ _ _ _ _) ?_); (· rfl); (· rfl))
    | ((with_reducible refine wpList_load_agg_w (o := ⟨some 51, _, _, _, _, _⟩) ?_ 49 _ rfl ⟨w.heap.size + 1, 18, none⟩ ?_ [.int .i64 rop', .int .i64 rerr', .slice A6' items'.length c6', .int .u64 rver', .int .i64 rcount', .slice A7' nums'.length c7'] _ HB18.out Try.underlying49 (resp_sizeL _ _ _ _ _ _) ?_); (· rfl); (· rfl)))
  refine (HRR.out _ HBd2.out).mono ?_
  rintro e w3 ⟨rfl, hb3⟩
  have hbe4 := hbe3.trans (hb3.mono hbe3.size)
  have c1 := HC1.out.below (HBd2.out.trans (hb3.mono HBd2.out.size)) (show w.heap.size < _ by rw [HSZ.out]; omega)
  have c2 := HC2.out.below (HBd2.out.trans (hb3.mono HBd2.out.size)) (show w.heap.size + 1 < _ by rw [HSZ.out]; omega)
  have f1 := c1.cell0 (j := 24) rfl
  have f2 := c2.cell0 (j := 24) rfl
  clear c1 c2 hb3
  cases gR
  · go_wp2_with fail
    go_ret
    exact ⟨ret_bool (by rw [← HR.out]; simp), hbe4⟩
  cases t4 : (tim == tim')
  · go_wp2_with fail
    go_ret
    exact ⟨ret_bool (by rw [← HR.out]; simp [t4]), hbe4⟩
  go_wp2_with fail
  go_ret
  exact ⟨ret_bool (by rw [← HR.out]; simp [t0, t1, t2, t3, t4]), hbe4⟩
end Go.Proofs.Ytnmhmabifeapkaa.Ord
