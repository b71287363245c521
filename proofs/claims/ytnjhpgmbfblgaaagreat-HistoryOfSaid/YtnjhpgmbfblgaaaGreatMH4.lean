/- Calls; walks of the two functions that compare calls; An argument of the type Call, opened; The leaves of a type, with their sizes and ranges; What an argument holds, opened, with sizes and ranges; Walks of slices.Clone at strings and numbers; Walks of slices.Clone at items and of history.answer. -/
import Derived.Test.YtnjhpgmbfblgaaaGreatE5
import Derived.Test.YtnjhpgmbfblgaaaGreatW4
import Derived.SizedLaws
import Derived.Test.YtnjhpgmbfblgaaaGreatMR25
namespace Go.Proofs.YtnjhpgmbfblgaaaGreat.Ord
set_option maxRecDepth 100000
set_option maxHeartbeats 16000000
open Go.RowKit
set_option linter.unusedVariables false
structure CallR where
 ses : Int
 num : Int
 bad : Bool
 cmd : CmdR
 resp : RespR
 asked : Int
 done : Int
 told : Int
 tim : Int
structure CallV where
 vk : Value
 vv : Value
 vt : Value
 vi : Value
 vn : Value
def callL (ses num : Int) (bad : Bool) (op : Int) (key : ByteArray) (vk vv vt : Value) (life ver : Int) (tag pre chi : ByteArray) (rop rerr : Int) (vi : Value) (rver rcount : Int) (vn : Value) (asked done told tim : Int) : List Value :=
 [.int .i64 ses, .int .i64 num, .bool bad, .int .i64 op, .string key, vk, vv, vt, .int .u64 life, .int .u64 ver, .string tag, .string pre, .string chi, .int .i64 rop, .int .i64 rerr, vi, .int .u64 rver, .int .i64 rcount, vn, .int .i64 asked, .int .i64 done, .int .i64 told, .int .u64 tim]
def callC (c : CallR) (p : CallV) : List Value := callL c.ses c.num c.bad c.cmd.op c.cmd.key p.vk p.vv p.vt c.cmd.life c.cmd.ver c.cmd.tag c.cmd.pre c.cmd.chi c.resp.op c.resp.err p.vi c.resp.ver c.resp.count p.vn c.asked c.done c.told c.tim
def CallOk (w : World) (B : Nat) (c : CallR) (p : CallV) : Prop := CmdOk w B c.cmd p.vk p.vv p.vt /\ RespOk w B c.resp p.vi p.vn
theorem CallOk.below {B B' : Nat} {w w' : World} {c : CallR} {p : CallV} (h : CallOk w B c p) (hb : Below B' w w') (hB : B <= B') : CallOk w' B c p := ⟨h.1.below hb hB, h.2.below hb hB⟩
theorem CallOk.mono {B B' : Nat} {w : World} {c : CallR} {p : CallV} (h : CallOk w B c p) (hB : B <= B') : CallOk w B' c p := ⟨h.1.mono hB, h.2.mono hB⟩
def callEq (a b : CallR) : Bool := a.ses == b.ses && a.num == b.num && a.bad == b.bad && cmdEq a.cmd b.cmd && respEq a.resp b.resp && a.asked == b.asked && a.done == b.done && a.told == b.told && a.tim == b.tim

theorem equal18 (a b : CallR) (p q : CallV) (w : World) (ha : CallOk w w.heap.size a p) (hb : CallOk w w.heap.size b q) :
  Calls Tryz.prog 27 #[.agg (callC a p).toArray, .agg (callC b q).toArray] w fun e w' => e = .returned (.bool (callEq a b)) /\ Below w.heap.size w w' := by
 obtain ⟨h1, h2, h3, h4⟩ := two_boxes w (callC a p) (callC b q) 52 52
 have ha0 := (ha.below h4 (Nat.le_refl _)).mono h4.size
 have hb0 := (hb.below h4 (Nat.le_refl _)).mono h4.size
 clear ha hb
 obtain ⟨W0, hW0⟩ : ∃ W0, (w.alloc (.cells (callC a p).toArray 52)).alloc (.cells (callC b q).toArray 52) = W0 := ⟨_, rfl⟩
 rw [hW0] at h1 h2 h3 h4 ha0 hb0
 have ho : ∀ W, Below W0.heap.size W0 W -> CallOk W W.heap.size a p /\ CallOk W W.heap.size b q := fun W hW => ⟨(ha0.below hW (Nat.le_refl _)).mono hW.size, (hb0.below hW (Nat.le_refl _)).mono hW.size⟩
 have hC := fun W hW => cmd44 a.cmd b.cmd p.vk p.vv p.vt q.vk q.vv q.vt W (ho W hW).1.1 (ho W hW).2.1
 have hR := fun W hW => resp45 a.resp b.resp p.vi p.vn q.vi q.vn W (ho W hW).1.2 (ho W hW).2.2
 clear ho
 obtain ⟨ses, num, bad, ⟨op, key, keys, val, tags, life, ver, tag, pre, chi⟩, ⟨rop, rerr, items, rver, rcount, nums⟩, asked, done, told, tim⟩ := a
 obtain ⟨ses', num', bad', ⟨op', key', keys', val', tags', life', ver', tag', pre', chi'⟩, ⟨rop', rerr', items', rver', rcount', nums'⟩, asked', done', told', tim'⟩ := b
 obtain ⟨vk, vv, vt, vi, vn⟩ := p
 obtain ⟨vk', vv', vt', vi', vn'⟩ := q
 obtain ⟨⟨⟨x7, A3, c3, rfl, x8⟩, ⟨x9, x10, A4, c4, rfl, x11⟩, ⟨x12, A5, c5, rfl, x13⟩⟩, ⟨⟨x14, A6, c6, rfl, x15⟩, x16, A7, c7, rfl, x17⟩⟩ := ha0
 obtain ⟨⟨⟨y7, A3', c3', rfl, y8⟩, ⟨y9, y10, A4', c4', rfl, y11⟩, ⟨y12, A5', c5', rfl, y13⟩⟩, ⟨⟨y14, A6', c6', rfl, y15⟩, y16, A7', c7', rfl, y17⟩⟩ := hb0
 clear x7 x8 x9 x10 x11 x12 x13 x14 x15 x16 x17 y7 y8 y9 y10 y11 y12 y13 y14 y15 y16 y17
 simp only [callC, callL, cmdC, respC] at h1 h2 hC hR hW0 ⊢
 obtain ⟨res, hres⟩ : ∃ res, callEq ⟨ses, num, bad, ⟨op, key, keys, val, tags, life, ver, tag, pre, chi⟩, ⟨rop, rerr, items, rver, rcount, nums⟩, asked, done, told, tim⟩ ⟨ses', num', bad', ⟨op', key', keys', val', tags', life', ver', tag', pre', chi'⟩, ⟨rop', rerr', items', rver', rcount', nums'⟩, asked', done', told', tim'⟩ = res := ⟨_, rfl⟩
 rw [hres]
 simp only [callEq] at hres
 obtain ⟨gC, hgC⟩ : ∃ g, cmdEq ⟨op, key, keys, val, tags, life, ver, tag, pre, chi⟩ ⟨op', key', keys', val', tags', life', ver', tag', pre', chi'⟩ = g := ⟨_, rfl⟩
 obtain ⟨gR, hgR⟩ : ∃ g, respEq ⟨rop, rerr, items, rver, rcount, nums⟩ ⟨rop', rerr', items', rver', rcount', nums'⟩ = g := ⟨_, rfl⟩
 rw [hgC, hgR] at hres
 rw [hgC] at hC
 rw [hgR] at hR
 clear hgC hgR
 have HC := kp hC
 have HRR := kp hR
 have HC1 := kp h1
 have HC2 := kp h2
 have HSZ := kp h3
 have HB := kp h4
 have HW0 := kp hW0
 have HR := kp hres
 clear hC hR h1 h2 h3 h4 hW0 hres
 go_enter Tryz.func27, Tryz.ntmps27
 go_upto_region 1 with (fail)
 rw [HW0.out]
 have c1 := HC1.out
 have c2 := HC2.out
 have fa1_0 := c1.cell0 (j := 0) rfl
 have fa2_0 := c2.cell0 (j := 0) rfl
 have fa1_1 := c1.cell0 (j := 1) rfl
 have fa2_1 := c2.cell0 (j := 1) rfl
 have fa1_2 := c1.cell0 (j := 2) rfl
 have fa2_2 := c2.cell0 (j := 2) rfl
 have HA3 := kp (show CellsAt W0 ⟨w.heap.size, 3, none⟩ [.int .i64 op, .string key, .slice A3 keys.length c3, .slice A4 val.length c4, .slice A5 tags.length c5, .int .u64 life, .int .u64 ver, .string tag, .string pre, .string chi] from c1.slice 3 10)
 have HB3 := kp (show CellsAt W0 ⟨w.heap.size + 1, 3, none⟩ [.int .i64 op', .string key', .slice A3' keys'.length c3', .slice A4' val'.length c4', .slice A5' tags'.length c5', .int .u64 life', .int .u64 ver', .string tag', .string pre', .string chi'] from c2.slice 3 10)
 clear c1 c2
 have hbe := HB.out
 cases t_ses : (ses == ses')
 ·go_wp2_with fail
  go_ret
  exact ⟨ret_bool (by rw [<- HR.out]; simp [t_ses]), hbe⟩
 cases t_num : (num == num')
 ·go_wp2_with fail
  go_ret
  exact ⟨ret_bool (by rw [<- HR.out]; simp [t_num]), hbe⟩
 cases t_bad : (bad == bad')
 ·go_wp2_with fail
  go_ret
  exact ⟨ret_bool (by rw [<- HR.out]; simp [t_bad]), hbe⟩
 go_wp2_with (first
  | ((with_reducible refine wpList_load_agg_w (o := ⟨some 26, _, _, _, _, _⟩) ?_ 36 _ rfl ⟨w.heap.size, 3, none⟩ ?_ [.int .i64 op, .string key, .slice A3 keys.length c3, .slice A4 val.length c4, .slice A5 tags.length c5, .int .u64 life, .int .u64 ver, .string tag, .string pre, .string chi] _ HA3.out Tryz.underlying36 (cmd_sizeL _ _ _ _ _ _ _ _ _ _) ?_); (· rfl); (· rfl))
  | ((with_reducible refine wpList_load_agg_w (o := ⟨some 28, _, _, _, _, _⟩) ?_ 36 _ rfl ⟨w.heap.size + 1, 3, none⟩ ?_ [.int .i64 op', .string key', .slice A3' keys'.length c3', .slice A4' val'.length c4', .slice A5' tags'.length c5', .int .u64 life', .int .u64 ver', .string tag', .string pre', .string chi'] _ HB3.out Tryz.underlying36 (cmd_sizeL _ _ _ _ _ _ _ _ _ _) ?_); (· rfl); (· rfl)))
 refine (HC.out _ (Below.refl _ _)).mono ?_
 rintro e w2 ⟨rfl, hb2⟩
 clear fa1_0 fa2_0 fa1_1 fa2_1 fa1_2 fa2_2
 have hbe3 := hbe.trans (hb2.mono hbe.size)
 have HBd2 := kp hb2
 have c1 := HC1.out.below HBd2.out (show w.heap.size < _ by rw [HSZ.out]; omega)
 have c2 := HC2.out.below HBd2.out (show w.heap.size + 1 < _ by rw [HSZ.out]; omega)
 have HA13 := kp (show CellsAt w2 ⟨w.heap.size, 13, none⟩ [.int .i64 rop, .int .i64 rerr, .slice A6 items.length c6, .int .u64 rver, .int .i64 rcount, .slice A7 nums.length c7] from c1.slice 13 6)
 have HB13 := kp (show CellsAt w2 ⟨w.heap.size + 1, 13, none⟩ [.int .i64 rop', .int .i64 rerr', .slice A6' items'.length c6', .int .u64 rver', .int .i64 rcount', .slice A7' nums'.length c7'] from c2.slice 13 6)
 clear hb2 c1 c2
 cases gC
 ·go_wp2_with fail
  go_ret
  exact ⟨ret_bool (by rw [<- HR.out]; simp), hbe3⟩
 go_wp2_with (first
  | ((with_reducible refine wpList_load_agg_w (o := ⟨some 33, _, _, _, _, _⟩) ?_ 40 _ rfl ⟨w.heap.size, 13, none⟩ ?_ [.int .i64 rop, .int .i64 rerr, .slice A6 items.length c6, .int .u64 rver, .int .i64 rcount, .slice A7 nums.length c7] _ HA13.out Tryz.underlying40 (resp_sizeL _ _ _ _ _ _) ?_); (· rfl); (· rfl))
  | ((with_reducible refine wpList_load_agg_w (o := ⟨some 35, _, _, _, _, _⟩) ?_ 40 _ rfl ⟨w.heap.size + 1, 13, none⟩ ?_ [.int .i64 rop', .int .i64 rerr', .slice A6' items'.length c6', .int .u64 rver', .int .i64 rcount', .slice A7' nums'.length c7'] _ HB13.out Tryz.underlying40 (resp_sizeL _ _ _ _ _ _) ?_); (· rfl); (· rfl)))
 refine (HRR.out _ HBd2.out).mono ?_
 rintro e w3 ⟨rfl, hb3⟩
 have hbe4 := hbe3.trans (hb3.mono hbe3.size)
 have c1 := HC1.out.below (HBd2.out.trans (hb3.mono HBd2.out.size)) (show w.heap.size < _ by rw [HSZ.out]; omega)
 have c2 := HC2.out.below (HBd2.out.trans (hb3.mono HBd2.out.size)) (show w.heap.size + 1 < _ by rw [HSZ.out]; omega)
 have fb1_19 := c1.cell0 (j := 19) rfl
 have fb2_19 := c2.cell0 (j := 19) rfl
 have fb1_20 := c1.cell0 (j := 20) rfl
 have fb2_20 := c2.cell0 (j := 20) rfl
 have fb1_21 := c1.cell0 (j := 21) rfl
 have fb2_21 := c2.cell0 (j := 21) rfl
 have fb1_22 := c1.cell0 (j := 22) rfl
 have fb2_22 := c2.cell0 (j := 22) rfl
 clear c1 c2 hb3
 cases gR
 ·go_wp2_with fail
  go_ret
  exact ⟨ret_bool (by rw [<- HR.out]; simp), hbe4⟩
 cases t_asked : (asked == asked')
 ·go_wp2_with fail
  go_ret
  exact ⟨ret_bool (by rw [<- HR.out]; simp [t_asked]), hbe4⟩
 cases t_done : (done == done')
 ·go_wp2_with fail
  go_ret
  exact ⟨ret_bool (by rw [<- HR.out]; simp [t_done]), hbe4⟩
 cases t_told : (told == told')
 ·go_wp2_with fail
  go_ret
  exact ⟨ret_bool (by rw [<- HR.out]; simp [t_told]), hbe4⟩
 cases t_tim : (tim == tim')
 ·go_wp2_with fail
  go_ret
  exact ⟨ret_bool (by rw [<- HR.out]; simp [t_tim]), hbe4⟩
 go_wp2_with fail
 go_ret
 exact ⟨ret_bool (by rw [<- HR.out]; simp [t_ses, t_num, t_bad, t_asked, t_done, t_told, t_tim]), hbe4⟩

theorem equal17 (a b : CallR) (p q : CallV) (w : World) (ha : CallOk w w.heap.size a p) (hb : CallOk w w.heap.size b q) :
  Calls Tryz.prog 26 #[.agg (callC a p).toArray, .agg (callC b q).toArray] w fun e w' => e = .returned (.bool (callEq a b)) /\ Below w.heap.size w w' := by
 obtain ⟨h1, h2, h3, h4⟩ := two_boxes w (callC a p) (callC b q) 52 52
 have ha0 := (ha.below h4 (Nat.le_refl _)).mono h4.size
 have hb0 := (hb.below h4 (Nat.le_refl _)).mono h4.size
 clear ha hb
 obtain ⟨W0, hW0⟩ : ∃ W0, (w.alloc (.cells (callC a p).toArray 52)).alloc (.cells (callC b q).toArray 52) = W0 := ⟨_, rfl⟩
 rw [hW0] at h1 h2 h3 h4 ha0 hb0
 have ho : ∀ W, Below W0.heap.size W0 W -> CallOk W W.heap.size a p /\ CallOk W W.heap.size b q := fun W hW => ⟨(ha0.below hW (Nat.le_refl _)).mono hW.size, (hb0.below hW (Nat.le_refl _)).mono hW.size⟩
 have hC := fun W hW => cmd42 a.cmd b.cmd p.vk p.vv p.vt q.vk q.vv q.vt W (ho W hW).1.1 (ho W hW).2.1
 have hR := fun W hW => resp43 a.resp b.resp p.vi p.vn q.vi q.vn W (ho W hW).1.2 (ho W hW).2.2
 clear ho
 obtain ⟨ses, num, bad, ⟨op, key, keys, val, tags, life, ver, tag, pre, chi⟩, ⟨rop, rerr, items, rver, rcount, nums⟩, asked, done, told, tim⟩ := a
 obtain ⟨ses', num', bad', ⟨op', key', keys', val', tags', life', ver', tag', pre', chi'⟩, ⟨rop', rerr', items', rver', rcount', nums'⟩, asked', done', told', tim'⟩ := b
 obtain ⟨vk, vv, vt, vi, vn⟩ := p
 obtain ⟨vk', vv', vt', vi', vn'⟩ := q
 obtain ⟨⟨⟨x7, A3, c3, rfl, x8⟩, ⟨x9, x10, A4, c4, rfl, x11⟩, ⟨x12, A5, c5, rfl, x13⟩⟩, ⟨⟨x14, A6, c6, rfl, x15⟩, x16, A7, c7, rfl, x17⟩⟩ := ha0
 obtain ⟨⟨⟨y7, A3', c3', rfl, y8⟩, ⟨y9, y10, A4', c4', rfl, y11⟩, ⟨y12, A5', c5', rfl, y13⟩⟩, ⟨⟨y14, A6', c6', rfl, y15⟩, y16, A7', c7', rfl, y17⟩⟩ := hb0
 clear x7 x8 x9 x10 x11 x12 x13 x14 x15 x16 x17 y7 y8 y9 y10 y11 y12 y13 y14 y15 y16 y17
 simp only [callC, callL, cmdC, respC] at h1 h2 hC hR hW0 ⊢
 obtain ⟨res, hres⟩ : ∃ res, callEq ⟨ses, num, bad, ⟨op, key, keys, val, tags, life, ver, tag, pre, chi⟩, ⟨rop, rerr, items, rver, rcount, nums⟩, asked, done, told, tim⟩ ⟨ses', num', bad', ⟨op', key', keys', val', tags', life', ver', tag', pre', chi'⟩, ⟨rop', rerr', items', rver', rcount', nums'⟩, asked', done', told', tim'⟩ = res := ⟨_, rfl⟩
 rw [hres]
 simp only [callEq] at hres
 obtain ⟨gC, hgC⟩ : ∃ g, cmdEq ⟨op, key, keys, val, tags, life, ver, tag, pre, chi⟩ ⟨op', key', keys', val', tags', life', ver', tag', pre', chi'⟩ = g := ⟨_, rfl⟩
 obtain ⟨gR, hgR⟩ : ∃ g, respEq ⟨rop, rerr, items, rver, rcount, nums⟩ ⟨rop', rerr', items', rver', rcount', nums'⟩ = g := ⟨_, rfl⟩
 rw [hgC, hgR] at hres
 rw [hgC] at hC
 rw [hgR] at hR
 clear hgC hgR
 have HC := kp hC
 have HRR := kp hR
 have HC1 := kp h1
 have HC2 := kp h2
 have HSZ := kp h3
 have HB := kp h4
 have HW0 := kp hW0
 have HR := kp hres
 clear hC hR h1 h2 h3 h4 hW0 hres
 go_enter Tryz.func26, Tryz.ntmps26
 go_upto_region 1 with (fail)
 rw [HW0.out]
 have c1 := HC1.out
 have c2 := HC2.out
 have HA3 := kp (show CellsAt W0 ⟨w.heap.size, 3, none⟩ [.int .i64 op, .string key, .slice A3 keys.length c3, .slice A4 val.length c4, .slice A5 tags.length c5, .int .u64 life, .int .u64 ver, .string tag, .string pre, .string chi] from c1.slice 3 10)
 have HB3 := kp (show CellsAt W0 ⟨w.heap.size + 1, 3, none⟩ [.int .i64 op', .string key', .slice A3' keys'.length c3', .slice A4' val'.length c4', .slice A5' tags'.length c5', .int .u64 life', .int .u64 ver', .string tag', .string pre', .string chi'] from c2.slice 3 10)
 clear c1 c2
 have hbe := HB.out
 go_wp2_with (first
  | ((with_reducible refine wpList_load_agg_w (o := ⟨some 7, _, _, _, _, _⟩) ?_ 36 _ rfl ⟨w.heap.size, 3, none⟩ ?_ [.int .i64 op, .string key, .slice A3 keys.length c3, .slice A4 val.length c4, .slice A5 tags.length c5, .int .u64 life, .int .u64 ver, .string tag, .string pre, .string chi] _ HA3.out Tryz.underlying36 (cmd_sizeL _ _ _ _ _ _ _ _ _ _) ?_); (· rfl); (· rfl))
  | ((with_reducible refine wpList_load_agg_w (o := ⟨some 9, _, _, _, _, _⟩) ?_ 36 _ rfl ⟨w.heap.size + 1, 3, none⟩ ?_ [.int .i64 op', .string key', .slice A3' keys'.length c3', .slice A4' val'.length c4', .slice A5' tags'.length c5', .int .u64 life', .int .u64 ver', .string tag', .string pre', .string chi'] _ HB3.out Tryz.underlying36 (cmd_sizeL _ _ _ _ _ _ _ _ _ _) ?_); (· rfl); (· rfl)))
 refine (HC.out _ (Below.refl _ _)).mono ?_
 rintro e w2 ⟨rfl, hb2⟩
 have hbe3 := hbe.trans (hb2.mono hbe.size)
 have HBd2 := kp hb2
 have c1 := HC1.out.below HBd2.out (show w.heap.size < _ by rw [HSZ.out]; omega)
 have c2 := HC2.out.below HBd2.out (show w.heap.size + 1 < _ by rw [HSZ.out]; omega)
 have HA13 := kp (show CellsAt w2 ⟨w.heap.size, 13, none⟩ [.int .i64 rop, .int .i64 rerr, .slice A6 items.length c6, .int .u64 rver, .int .i64 rcount, .slice A7 nums.length c7] from c1.slice 13 6)
 have HB13 := kp (show CellsAt w2 ⟨w.heap.size + 1, 13, none⟩ [.int .i64 rop', .int .i64 rerr', .slice A6' items'.length c6', .int .u64 rver', .int .i64 rcount', .slice A7' nums'.length c7'] from c2.slice 13 6)
 clear hb2 c1 c2
 cases gC
 ·go_wp2_with fail
  go_ret
  exact ⟨ret_bool (by rw [<- HR.out]; simp), hbe3⟩
 go_wp2_with (first
  | ((with_reducible refine wpList_load_agg_w (o := ⟨some 13, _, _, _, _, _⟩) ?_ 40 _ rfl ⟨w.heap.size, 13, none⟩ ?_ [.int .i64 rop, .int .i64 rerr, .slice A6 items.length c6, .int .u64 rver, .int .i64 rcount, .slice A7 nums.length c7] _ HA13.out Tryz.underlying40 (resp_sizeL _ _ _ _ _ _) ?_); (· rfl); (· rfl))
  | ((with_reducible refine wpList_load_agg_w (o := ⟨some 15, _, _, _, _, _⟩) ?_ 40 _ rfl ⟨w.heap.size + 1, 13, none⟩ ?_ [.int .i64 rop', .int .i64 rerr', .slice A6' items'.length c6', .int .u64 rver', .int .i64 rcount', .slice A7' nums'.length c7'] _ HB13.out Tryz.underlying40 (resp_sizeL _ _ _ _ _ _) ?_); (· rfl); (· rfl)))
 refine (HRR.out _ HBd2.out).mono ?_
 rintro e w3 ⟨rfl, hb3⟩
 have hbe4 := hbe3.trans (hb3.mono hbe3.size)
 have c1 := HC1.out.below (HBd2.out.trans (hb3.mono HBd2.out.size)) (show w.heap.size < _ by rw [HSZ.out]; omega)
 have c2 := HC2.out.below (HBd2.out.trans (hb3.mono HBd2.out.size)) (show w.heap.size + 1 < _ by rw [HSZ.out]; omega)
 have fb1_0 := c1.cell0 (j := 0) rfl
 have fb2_0 := c2.cell0 (j := 0) rfl
 have fb1_1 := c1.cell0 (j := 1) rfl
 have fb2_1 := c2.cell0 (j := 1) rfl
 have fb1_2 := c1.cell0 (j := 2) rfl
 have fb2_2 := c2.cell0 (j := 2) rfl
 have fb1_19 := c1.cell0 (j := 19) rfl
 have fb2_19 := c2.cell0 (j := 19) rfl
 have fb1_20 := c1.cell0 (j := 20) rfl
 have fb2_20 := c2.cell0 (j := 20) rfl
 have fb1_21 := c1.cell0 (j := 21) rfl
 have fb2_21 := c2.cell0 (j := 21) rfl
 have fb1_22 := c1.cell0 (j := 22) rfl
 have fb2_22 := c2.cell0 (j := 22) rfl
 clear c1 c2 hb3
 cases gR
 ·go_wp2_with fail
  go_ret
  exact ⟨ret_bool (by rw [<- HR.out]; simp), hbe4⟩
 cases t_ses : (ses == ses')
 ·go_wp2_with fail
  go_ret
  exact ⟨ret_bool (by rw [<- HR.out]; simp [t_ses]), hbe4⟩
 cases t_num : (num == num')
 ·go_wp2_with fail
  go_ret
  exact ⟨ret_bool (by rw [<- HR.out]; simp [t_num]), hbe4⟩
 cases t_bad : (bad == bad')
 ·go_wp2_with fail
  go_ret
  exact ⟨ret_bool (by rw [<- HR.out]; simp [t_bad]), hbe4⟩
 cases t_asked : (asked == asked')
 ·go_wp2_with fail
  go_ret
  exact ⟨ret_bool (by rw [<- HR.out]; simp [t_asked]), hbe4⟩
 cases t_done : (done == done')
 ·go_wp2_with fail
  go_ret
  exact ⟨ret_bool (by rw [<- HR.out]; simp [t_done]), hbe4⟩
 cases t_told : (told == told')
 ·go_wp2_with fail
  go_ret
  exact ⟨ret_bool (by rw [<- HR.out]; simp [t_told]), hbe4⟩
 cases t_tim : (tim == tim')
 ·go_wp2_with fail
  go_ret
  exact ⟨ret_bool (by rw [<- HR.out]; simp [t_tim]), hbe4⟩
 go_wp2_with fail
 go_ret
 exact ⟨ret_bool (by rw [<- HR.out]; simp [t_ses, t_num, t_bad, t_asked, t_done, t_told, t_tim]), hbe4⟩
end Go.Proofs.YtnjhpgmbfblgaaaGreat.Ord
namespace Go.Proofs.YtnjhpgmbfblgaaaGreat.Ord
open Go.ChangeShapes Go.WideShapes Go.ChangeAt Go.RowKit Go.Deep
set_option linter.unusedVariables false
section
variable {H : Type} {enc : TypeId × Value -> H} {w : World} {base : Nat} {spare : Nat -> Bool} {held : Bool}
theorem leaf_bool {cs : List Value} {j : Nat} {t : TypeId} (hu : Tryz.prog.underlying t = some .bool) (h : Leaf enc Tryz.prog w base spare held cs j t) : ∃ b, cs[j]? = some (.bool b) := by
 obtain ⟨v, fu, y, hv, _, ht⟩ := h
 obtain ⟨s, hs, _⟩ := DataW.trod_bool hu ht
 simp at hs
 subst hs
 exact ⟨s, hv⟩
theorem leaves52 : leaves Tryz.prog 6 52 = some [3, 3, 4, 31, 9, 32, 26, 32, 34, 33, 9, 9, 9, 31, 29, 37, 33, 3, 38, 3, 3, 3, 34] := by kernel_rfl
end
end Go.Proofs.YtnjhpgmbfblgaaaGreat.Ord
namespace Go.Proofs.YtnjhpgmbfblgaaaGreat.Ord
open Go.ChangeShapes Go.WideShapes Go.RowKit Go.Deep
set_option linter.unusedVariables false
section
variable {H : Type} {enc : TypeId × Value -> H} {P : Program} {w : World} {base : Nat} {spare : Nat -> Bool} {held : Bool}
def LeafS (K : Nat) (enc : TypeId × Value -> H) (P : Program) (w : World) (base : Nat) (spare : Nat -> Bool) (held : Bool) (cs : List Value) (j : Nat) (t : TypeId) : Prop :=
 ∃ v fuel y, cs[j]? = some v /\ v.oneCell' = true /\ DataW.trod enc P w base spare held fuel t [v] = some y /\ ∀ n ∈ y.1.weights P t, n <= K

theorem leavesF_specS {K : Nat} {F : TypeId -> Option (List TypeId)} (cs : List Value)
  (hF : ∀ t ts, F t = some ts -> ∀ fuel cs x, DataW.trod enc P w base spare held fuel t cs = some x -> (∀ n ∈ x.1.weights P t, n <= K) -> cs.length = ts.length /\ ∀ j tj, ts[j]? = some tj -> LeafS K enc P w base spare held cs j tj) :
  ∀ (fs : List Field) (acc ts : List TypeId), leavesF P F fs acc = some ts ->
   (∀ f ∈ fs, ∃ fuel y, DataW.trod enc P w base spare held fuel f.type ((cs.drop f.offset).take (P.cellsOf f.type)) = some y /\ ∀ n ∈ y.1.weights P f.type, n <= K) ->
   (∀ j tj, acc[j]? = some tj -> LeafS K enc P w base spare held cs j tj) -> ∀ j tj, ts[j]? = some tj -> LeafS K enc P w base spare held cs j tj
 | [], acc, ts, h, _, hacc => by
  simp only [leavesF, Option.some.injEq] at h
  subst h
  exact hacc
 | f :: fs, acc, ts, h, hfs, hacc => by
  simp only [leavesF] at h
  obtain ⟨l2, h2, h3⟩ := Option.bind_eq_some_iff.1 h
  split at h3
  ·rename_i hc
   refine leavesF_specS cs hF fs (acc ++ l2) ts h3 (fun g hg => hfs g (List.mem_cons_of_mem _ hg)) fun j tj hj => ?_
   rcases Nat.lt_or_ge j acc.length with hlt | hge
   ·rw [List.getElem?_append_left hlt] at hj
    exact hacc j tj hj
   ·rw [List.getElem?_append_right hge] at hj
    obtain ⟨fuel, y, hy, hyw⟩ := hfs f List.mem_cons_self
    obtain ⟨hl, hall⟩ := hF _ _ h2 _ _ _ hy hyw
    obtain ⟨v, fu, y2, hv, h1, ht⟩ := hall _ _ hj
    refine ⟨v, fu, y2, ?_, h1, ht⟩
    have hjl : j - acc.length < P.cellsOf f.type := by
     have := (List.getElem?_eq_some_iff.1 hj).1
     omega
    rw [List.getElem?_take_of_lt hjl, List.getElem?_drop, hc.1] at hv
    rw [<- hv]
    congr 1
    omega
  ·cases h3

theorem leaves_specS {K : Nat} : ∀ (n : Nat) (t : TypeId) (ts : List TypeId), leaves P n t = some ts -> ∀ fuel cs x, DataW.trod enc P w base spare held fuel t cs = some x -> (∀ n ∈ x.1.weights P t, n <= K) ->
  cs.length = ts.length /\ ∀ j tj, ts[j]? = some tj -> LeafS K enc P w base spare held cs j tj
 | 0, t, ts, h => by simp [leaves] at h
 | n + 1, t, ts, h => by
  intro fuel cs x hx hxw
  unfold leaves at h
  split at h
  ·rename_i fs hu
   obtain ⟨l, hl, h3⟩ := Option.bind_eq_some_iff.1 h
   split at h3
   ·rename_i hc
    simp only [Option.some.injEq] at h3
    subst h3
    obtain ⟨xs, n', hA, hB, hlen, hxl, hf⟩ := DataW.trod_struct hu hx
    refine ⟨hlen.trans hc.symm, leavesF_specS cs (leaves_specS n) fs.toList [] _ hl (fun f hf' => ?_) (by simp)⟩
    obtain ⟨i, hi, rfl⟩ := List.getElem_of_mem hf'
    have hi' : i < fs.size := by simpa using hi
    have := hf i (fs.toList[i]) (by simp [hi'])
    rw [List.getElem?_eq_getElem (by omega)] at this
    refine ⟨_, _, this, fun m hm => hxw m ?_⟩
    rw [hB]
    simp only [DataW.weights, hu]
    exact DataW.weights_mem_each (j := i) (by simp [hi']) (by simp [show i < xs.length by omega]) m hm
   ·cases h3
  ·cases h
  ·cases h
  ·rename_i d hns hna hu
   simp only [Option.some.injEq] at h
   subst h
   obtain ⟨v, rfl, h1⟩ := trod_leaf hu (by cases d <;> simp_all [isAggT]) hx
   refine ⟨rfl, fun j tj hj => ?_⟩
   match j with
   | 0 =>
    simp at hj
    subst hj
    exact ⟨v, fuel, x, rfl, h1, hx, hxw⟩
   | j + 1 => simp at hj

end
end Go.Proofs.YtnjhpgmbfblgaaaGreat.Ord
namespace Go.Proofs.YtnjhpgmbfblgaaaGreat.Ord
open Go.ChangeShapes Go.WideShapes Go.ChangeAt Go.RowKit Go.Deep
set_option linter.unusedVariables false
section
variable {H : Type} {enc : TypeId × Value -> H} {w : World} {base : Nat} {spare : Nat -> Bool} {held : Bool}
theorem leafS_str {K : Nat} {cs : List Value} {j : Nat} {t : TypeId} (hu : Tryz.prog.underlying t = some .string) (h : LeafS K enc Tryz.prog w base spare held cs j t) : ∃ s : ByteArray, cs[j]? = some (.string s) /\ s.size <= K := by
 obtain ⟨v, fu, y, hv, _, ht, hw⟩ := h
 obtain ⟨s, hs, hy, _⟩ := DataW.trod_string hu ht
 simp at hs
 subst hs
 refine ⟨s, hv, hw _ ?_⟩
 rw [hy]
 simp [DataW.weights]
theorem LeafS.leaf {K : Nat} {cs : List Value} {j : Nat} {t : TypeId} (h : LeafS K enc Tryz.prog w base spare held cs j t) : Leaf enc Tryz.prog w base spare held cs j t := by
 obtain ⟨v, fu, y, hv, h1, ht, _⟩ := h
 exact ⟨v, fu, y, hv, h1, ht⟩
theorem open_datS {K fuel : Nat} {v : Value} {y : DataW H × List MemPlace} (h : DataW.trod enc Tryz.prog w base spare held fuel 26 [v] = some y) (hK : ∀ n ∈ y.1.weights Tryz.prog 26, n <= K) : ∃ xs, DatG w w.heap.size v xs /\ xs.length <= K := by
 rcases open_ints Tryz.underlying26 Tryz.underlying5 (by kernel_rfl) h with ⟨hcs, _⟩ | ⟨x, l, c, zs, hcs, _, hl, hm, hz, hxe, hcell, hwz⟩
 ·simp at hcs
  subst hcs
  exact ⟨[], ⟨fun y hy => by simp at hy, by simp, none, 0, rfl, Byt.nil _ _⟩, by simp⟩
 ·simp at hcs
  subst hcs
  have hzl : l <= zs.length := by rw [hz]; split <;> omega
  have htl : (zs.take l).length = l := by simp; omega
  refine ⟨zs.take l, ⟨fun y hy => ?_, by omega, some x, c, by rw [htl], (fun h => by cases h), by omega, fun i hi => ?_⟩, ?_⟩
  ·have := hwz y (List.mem_of_mem_take hy)
   simp [Lit.wf, IntKind.min, IntKind.max, IntKind.bits, IntKind.signed] at this
   omega
  ·have h0 := hcell 0 (by omega)
   obtain ⟨b, off, sp⟩ := x
   have hsp : sp = none := by simpa [Addr.add] using World.cell?_spot h0
   subst hsp
   have hc := hcell i (by omega)
   have hlt : b < w.heap.size := by simpa [Addr.add] using cell_lt h0
   have e : (⟨b, off, none⟩ : Addr).add i = ⟨b, off + i, none⟩ := by unfold Addr.add; split <;> simp_all
   rw [e] at hc
   refine ⟨b, off, rfl, hlt, fun u hu => ?_⟩
   rw [hc]
   rw [List.getElem?_take_of_lt (by omega)] at hu
   simp [List.getD, hu]
  ·rw [htl]
   have h5 : Tryz.prog.bytesOf 5 = 1 := by kernel_rfl
   have := hK ((zs.take l).length + (zs.drop l).length) (by
    rw [hxe]
    simp [DataW.weights, Tryz.underlying26, h5, lits])
   omega
theorem weightsAll_memK {P : Program} {e : TypeId} {l : List (DataW H)} {d : DataW H} (hd : d ∈ l) : ∀ n ∈ d.weights P e, n ∈ DataW.weightsAll P e l := by
 induction l with
 | nil => simp at hd
 | cons a l ih =>
  intro n hn
  simp only [DataW.weightsAll, List.mem_append]
  rcases List.mem_cons.1 hd with rfl | h
  ·exact .inl hn
  ·exact .inr (ih h n hn)
theorem open_strsVS {K fuel : Nat} {v : Value} {y : DataW H × List MemPlace} (h : DataW.trod enc Tryz.prog w base spare held fuel 32 [v] = some y) (hK : ∀ n ∈ y.1.weights Tryz.prog 32, n <= K) : ∃ xs : List ByteArray, SlV Value.string w w.heap.size v xs /\ ∀ s ∈ xs, s.size <= K := by
 rcases open_strings Tryz.underlying32 Tryz.underlying9 (by kernel_rfl) h with ⟨hcs, _⟩ | ⟨x, l, c, ss, hcs, _, hl, hm, hz, hxe, hcell, _⟩
 ·simp at hcs
  subst hcs
  exact ⟨[], ⟨by simp, none, 0, rfl, fun i x hi => by simp at hi⟩, by simp⟩
 ·simp at hcs
  subst hcs
  have hzl : l <= ss.length := by rw [hz]; split <;> omega
  have htl : (ss.take l).length = l := by simp; omega
  refine ⟨ss.take l, ⟨by omega, some x, c, by rw [htl], fun i s hi => ?_⟩, fun s hs => hK _ (by
   rw [hxe]
   simp only [DataW.weights, Tryz.underlying32, List.mem_cons, List.mem_append]
   exact .inr (.inl (weightsAll_memK (d := .lit (.string s.data.toList)) (by simp only [strs]; exact List.mem_map.2 ⟨s, hs, rfl⟩) _ (by simp [DataW.weights]))))⟩
  have hil : i < l := by have := (List.getElem?_eq_some_iff.1 hi).1; omega
  have h0 := hcell 0 (by omega)
  obtain ⟨b, off, sp⟩ := x
  have hsp : sp = none := by simpa [Addr.add] using World.cell?_spot h0
  subst hsp
  have hc := hcell i (by omega)
  have hlt : b < w.heap.size := by simpa [Addr.add] using cell_lt h0
  have e : (⟨b, off, none⟩ : Addr).add i = ⟨b, off + i, none⟩ := by unfold Addr.add; split <;> simp_all
  rw [e] at hc
  refine ⟨b, off, rfl, hlt, ?_⟩
  rw [hc]
  rw [List.getElem?_take_of_lt hil] at hi
  simp [List.getD, hi]
theorem wf_u64 {n : Int} (h : (Lit.int .u64 n).wf = true) : 0 <= n /\ n < 18446744073709551616 := by
 simp [Lit.wf, IntKind.min, IntKind.max, IntKind.bits, IntKind.signed] at h
 omega
theorem wf_i64 {n : Int} (h : (Lit.int .i64 n).wf = true) : -9223372036854775808 <= n /\ n < 9223372036854775808 := by
 simp [Lit.wf, IntKind.min, IntKind.max, IntKind.bits, IntKind.signed] at h
 omega
/-- what the kinds and the reach keep of an item -/
def ItemGood (K : Nat) (r : ItemR) : Prop := (∀ z ∈ r.val, 0 <= z /\ z < 256) /\ r.val.length <= K /\ (0 <= r.ver /\ r.ver < 18446744073709551616) /\ (0 <= r.dead /\ r.dead < 18446744073709551616) /\ (-9223372036854775808 <= r.mark /\ r.mark < 9223372036854775808)
theorem open_numsVS {fuel : Nat} {v : Value} {y : DataW H × List MemPlace} (h : DataW.trod enc Tryz.prog w base spare held fuel 38 [v] = some y) : ∃ xs : List Int, SlV (Value.int .u64) w w.heap.size v xs /\ ∀ s ∈ xs, 0 <= s /\ s < 18446744073709551616 := by
 rcases open_ints Tryz.underlying38 Tryz.underlying33 (by kernel_rfl) h with ⟨hcs, _⟩ | ⟨x, l, c, ss, hcs, _, hl, hm, hz, _, hcell, hwz⟩
 ·simp at hcs
  subst hcs
  exact ⟨[], ⟨by simp, none, 0, rfl, fun i x hi => by simp at hi⟩, by simp⟩
 ·simp at hcs
  subst hcs
  have hzl : l <= ss.length := by rw [hz]; split <;> omega
  have htl : (ss.take l).length = l := by simp; omega
  refine ⟨ss.take l, ⟨by omega, some x, c, by rw [htl], fun i s hi => ?_⟩, fun s hs => wf_u64 (hwz s (List.mem_of_mem_take hs))⟩
  have hil : i < l := by have := (List.getElem?_eq_some_iff.1 hi).1; omega
  have h0 := hcell 0 (by omega)
  obtain ⟨b, off, sp⟩ := x
  have hsp : sp = none := by simpa [Addr.add] using World.cell?_spot h0
  subst hsp
  have hc := hcell i (by omega)
  have hlt : b < w.heap.size := by simpa [Addr.add] using cell_lt h0
  have e : (⟨b, off, none⟩ : Addr).add i = ⟨b, off + i, none⟩ := by unfold Addr.add; split <;> simp_all
  rw [e] at hc
  refine ⟨b, off, rfl, hlt, ?_⟩
  rw [hc]
  rw [List.getElem?_take_of_lt hil] at hi
  simp [List.getD, hi]
theorem open_itemS {K fuel : Nat} {cs : List Value} {x : DataW H × List MemPlace} (h : DataW.trod enc Tryz.prog w base spare held fuel 78 cs = some x) (hK : ∀ n ∈ x.1.weights Tryz.prog 78, n <= K) : ∃ (r : ItemR) (v : Value), cs = itemL r.mark v r.ver r.dead /\ DatG w w.heap.size v r.val /\ ItemGood K r := by
 obtain ⟨hll, hall⟩ := leaves_specS (K := K) 5 78 _ leaves87 _ _ _ h hK
 have hll : cs.length = 4 := hll
 obtain ⟨n0, h0, g0⟩ := leaf_int Tryz.underlying76 (hall 0 76 rfl).leaf
 obtain ⟨v, fu, y, h1, _, ht, hw1⟩ := hall 1 26 rfl
 obtain ⟨n2, h2, g2⟩ := leaf_int Tryz.underlying33 (hall 2 33 rfl).leaf
 obtain ⟨n3, h3, g3⟩ := leaf_int Tryz.underlying34 (hall 3 34 rfl).leaf
 obtain ⟨xs, hxs, hxl⟩ := open_datS ht hw1
 match cs, hll, h0, h1, h2, h3 with
 | [a, b, c, d], _, h0, h1, h2, h3 =>
  simp at h0 h1 h2 h3
  subst h0 h1 h2 h3
  exact ⟨⟨n0, xs, n2, n3⟩, _, rfl, hxs, hxs.1, hxl, wf_u64 g2, wf_u64 g3, wf_i64 g0⟩
theorem open_itemsVS {K fuel : Nat} {v : Value} {y : DataW H × List MemPlace} (hf : DataW.trod enc Tryz.prog w base spare held fuel 37 [v] = some y) (hK : ∀ n ∈ y.1.weights Tryz.prog 37, n <= K) : ∃ xs : List ItemR, ItemsV w w.heap.size v xs /\ ∀ r ∈ xs, ItemGood K r := by
 rcases open_slice Tryz.underlying37 hf with ⟨hcs, _⟩ | ⟨a, len, cap, m, n, D, Pl, hcs, _, hl, hm, hmm, hx, hi⟩
 ·simp at hcs
  subst hcs
  exact ⟨[], ⟨by simp, none, 0, rfl, fun i r hi => by simp at hi⟩, by simp⟩
 ·simp at hcs
  subst hcs
  have hC : Tryz.prog.cellsOf 78 = 4 := by kernel_rfl
  rw [hC] at hi hx
  have hlm : len <= m := by rw [hmm]; split <;> omega
  have key : ∀ i, ∃ r : ItemR, i < len -> ∃ v, CellsAt w (a.add (i * 4)) (itemL r.mark v r.ver r.dead) /\ DatG w w.heap.size v r.val /\ ItemGood K r := fun i => by
   by_cases hlt : i < len
   ·obtain ⟨cs', hc, ht⟩ := hi i (by omega)
    obtain ⟨_, hcl, hat⟩ := World.cells?_some hc
    obtain ⟨r, v, e1, e2⟩ := open_itemS ht (fun q hq => hK q (by
     have hx1 := congrArg Prod.fst hx
     simp only at hx1
     rw [hx1]
     simp only [DataW.weights, Tryz.underlying37, List.mem_cons, List.mem_append]
     exact .inr (.inl (weightsAll_memK (List.mem_map.2 ⟨i, List.mem_range.2 hlt, rfl⟩) q hq))))
    refine ⟨r, fun _ => ⟨v, fun j u hj => ?_, e2⟩⟩
    have hj' : j < 4 := (List.getElem?_eq_some_iff.1 hj).1
    rw [hat j hj', e1, hj]
   ·exact ⟨⟨0, [], 0, 0⟩, fun h => absurd h hlt⟩
  obtain ⟨f, hf'⟩ := Classical.axiomOfChoice key
  have hlen : ((List.range len).map f).length = len := by simp
  refine ⟨(List.range len).map f, ⟨by omega, some a, cap, by rw [hlen], fun i r hi2 => ?_⟩, fun r hr => by
   obtain ⟨i, hi3, rfl⟩ := List.mem_map.1 hr
   obtain ⟨_, _, _, h⟩ := hf' i (List.mem_range.1 hi3)
   exact h⟩
  have hil : i < len := by
   have := (List.getElem?_eq_some_iff.1 hi2).1
   simpa using this
  obtain ⟨v, hca, hda, _⟩ := hf' i hil
  obtain ⟨v0, hca0, hda0, _⟩ := hf' 0 (by omega)
  have h0 : w.cell? a = some (.int .i64 (f 0).mark) := by
   have := hca0 0 (.int .i64 (f 0).mark) rfl
   simpa [Addr.add] using this
  have hspot := World.cell?_spot h0
  have hblk := cell_lt h0
  obtain ⟨b, off, sp⟩ := a
  obtain rfl : sp = none := hspot
  have hr : r = f i := by
   rw [List.getElem?_map, List.getElem?_range hil] at hi2
   simpa using hi2.symm
  subst hr
  refine ⟨b, off, v, rfl, hblk, ?_, hda⟩
  have e : (⟨b, off, none⟩ : Addr).add (i * 4) = ⟨b, off + i * 4, none⟩ := by
   unfold Addr.add
   split <;> simp_all
  rw [e] at hca
  exact hca
end
end Go.Proofs.YtnjhpgmbfblgaaaGreat.Ord
namespace Go.Proofs.YtnjhpgmbfblgaaaGreat.Ord
set_option maxRecDepth 100000
set_option maxHeartbeats 16000000
open Go.RowKit
set_option linter.unusedVariables false
theorem q32 (w : World) (a : Option Addr) (n c n' c' : Nat) : (binOp .eql 32 (.slice a n c) (.slice none n' c')).run Tryz.prog w = .ok (.bool a.isNone) w := Lib.run_eql_slice_nil w _ _ a n c n' c' Tryz.underlying32
theorem q38 (w : World) (a : Option Addr) (n c n' c' : Nat) : (binOp .eql 38 (.slice a n c) (.slice none n' c')).run Tryz.prog w = .ok (.bool a.isNone) w := Lib.run_eql_slice_nil w _ _ a n c n' c' Tryz.underlying38
theorem q37 (w : World) (a : Option Addr) (n c n' c' : Nat) : (binOp .eql 37 (.slice a n c) (.slice none n' c')).run Tryz.prog w = .ok (.bool a.isNone) w := Lib.run_eql_slice_nil w _ _ a n c n' c' Tryz.underlying37
theorem Tryz.info9 : (Tryz.prog.info? 9).map (fun i => (i.zero, i.size, i.bytes)) = some (some (.string ⟨#[]⟩), 1, 16) := by kernel_rfl
theorem Tryz.info33 : (Tryz.prog.info? 33).map (fun i => (i.zero, i.size, i.bytes)) = some (some (.int .u64 0), 1, 8) := by kernel_rfl
theorem elv_src {α : Type} {enc : α -> Value} {w : World} {B : Nat} {ad : Addr} {n c : Nat} {xs : List α} (h : ElV enc w B (some ad) xs) : Src w (some ad) n c (xs.map enc) := by
 refine .inr ⟨ad, rfl, fun j u hj => ?_⟩
 rw [List.getElem?_map] at hj
 obtain ⟨x, hx, rfl⟩ := Option.map_eq_some_iff.1 hj
 obtain ⟨b, off, e, _, hc⟩ := h j x hx
 cases e
 rw [Addr.add_mid]
 exact hc
theorem elv_none {α : Type} {enc : α -> Value} {w : World} {B : Nat} {xs : List α} (h : ElV enc w B none xs) : xs = [] := by
 cases xs with
 | nil => rfl
 | cons x r => obtain ⟨b, off, e, _⟩ := h 0 x rfl; cases e
theorem enc_one {α : Type} {enc : α -> Value} (h1 : ∀ x, (enc x).oneCell' = true) (xs : List α) : ∀ u ∈ xs.map enc, u.oneCell' = true := fun u hu => by
 obtain ⟨x, _, rfl⟩ := List.mem_map.1 hu
 exact h1 x
theorem clone37 (A : Option Addr) (n c : Nat) (xs : List ByteArray) (w : World) (hn : xs.length = n) (hl : n <= 1000000) (hA : ElV Value.string w w.heap.size A xs) :
  Calls Tryz.prog 105 #[.slice A n c] w fun e w' => ∃ v, e = .returned v /\ w'.ownsRow w.heap.size 9 1 v n (xs.map Value.string) /\ Below w.heap.size w w' := by
 cases A with
 | none =>
  obtain rfl := elv_none hA
  subst hn
  have hq := q32
  go_enter Tryz.func105, Tryz.ntmps105
  go_wp2_with fail
  go_ret
  exact ⟨_, rfl, World.ownsRow_nil _ _ _ _, Below.refl _ _⟩
 | some ad =>
  have hb := below1 w (.cells #[] 9)
  have hsrc := kp (show Src (w.alloc (.cells #[] 9)) (some ad) n c (xs.map Value.string) from elv_src (hA.below hb (Nat.le_refl _)))
  have hown := kp (World.ownsRow_made (e := 9) (size := 1) (base := w.heap.size) w #[] 0 (Nat.le_refl _) (by unfold maxLen; omega) rfl)
  have hs := kp (show w.heap.size <= (w.alloc (.cells #[] 9)).heap.size by simp)
  have HN := kp hn
  have hone := kp (enc_one (enc := Value.string) (fun _ => rfl) xs)
  clear hn hA
  have hq := q32
  go_enter Tryz.func105, Tryz.ntmps105
  go_wp2_with ((with_reducible refine wpList_append_src (o := ⟨some 7, _, _, _, _, _⟩) rfl _ _ 32 rfl w.heap.size 9 (.string ⟨#[]⟩) 1 16 Tryz.underlying32 Tryz.info9 ?_ ?_ _ _ [] ?_ hown.out (some ad) n c (xs.map Value.string) ?_ ?_ hsrc.out hone.out ?_ ?_ hs.out ?_); (· rfl); (· decide); (· rfl); (· rfl); (· simp [HN.out]); (· unfold maxLen; omega); (· omega); intro v1 w1 hown1 _ hb1)
  go_ret
  exact ⟨_, rfl, by simpa using hown1, hb.trans hb1⟩
theorem clone40 (A : Option Addr) (n c : Nat) (xs : List Int) (w : World) (hn : xs.length = n) (hl : n <= 1000000) (hA : ElV (Value.int .u64) w w.heap.size A xs) :
  Calls Tryz.prog 108 #[.slice A n c] w fun e w' => ∃ v, e = .returned v /\ w'.ownsRow w.heap.size 33 1 v n (xs.map (Value.int .u64)) /\ Below w.heap.size w w' := by
 cases A with
 | none =>
  obtain rfl := elv_none hA
  subst hn
  have hq := q38
  go_enter Tryz.func108, Tryz.ntmps108
  go_wp2_with fail
  go_ret
  exact ⟨_, rfl, World.ownsRow_nil _ _ _ _, Below.refl _ _⟩
 | some ad =>
  have hb := below1 w (.cells #[] 33)
  have hsrc := kp (show Src (w.alloc (.cells #[] 33)) (some ad) n c (xs.map (Value.int .u64)) from elv_src (hA.below hb (Nat.le_refl _)))
  have hown := kp (World.ownsRow_made (e := 33) (size := 1) (base := w.heap.size) w #[] 0 (Nat.le_refl _) (by unfold maxLen; omega) rfl)
  have hs := kp (show w.heap.size <= (w.alloc (.cells #[] 33)).heap.size by simp)
  have HN := kp hn
  have hone := kp (enc_one (enc := Value.int .u64) (fun _ => rfl) xs)
  clear hn hA
  have hq := q38
  go_enter Tryz.func108, Tryz.ntmps108
  go_wp2_with ((with_reducible refine wpList_append_src (o := ⟨some 7, _, _, _, _, _⟩) rfl _ _ 38 rfl w.heap.size 33 (.int .u64 0) 1 8 Tryz.underlying38 Tryz.info33 ?_ ?_ _ _ [] ?_ hown.out (some ad) n c (xs.map (Value.int .u64)) ?_ ?_ hsrc.out hone.out ?_ ?_ hs.out ?_); (· rfl); (· decide); (· rfl); (· rfl); (· simp [HN.out]); (· unfold maxLen; omega); (· omega); intro v1 w1 hown1 _ hb1)
  go_ret
  exact ⟨_, rfl, by simpa using hown1, hb.trans hb1⟩
theorem q_info65 : (Tryz.prog.info? 78).map (fun i => (i.zero, i.size, i.bytes)) = some (some (.agg #[.int .i64 0, .slice none 0 0, .int .u64 0, .int .u64 0]), 4, 48) := by kernel_rfl
def itemCells (w : World) (ad : Addr) (n : Nat) : List Value := (List.range (n * 4)).map fun j => (w.cell? (ad.add j)).getD (.bool false)
theorem itemCells_at {w : World} {B : Nat} {ad : Addr} {rs : List ItemR} {n : Nat} (h : ItemsAt w B (some ad) rs) (hn : rs.length = n) {j : Nat} (hj : j < n * 4) :
  ∃ u, (itemCells w ad n)[j]? = some u /\ w.cell? (ad.add j) = some u /\ u.oneCell' = true := by
 have h4 : j / 4 < rs.length := by omega
 obtain ⟨b, off, v, e, hb, hc, hd⟩ := h _ _ (List.getElem?_eq_getElem h4)
 obtain ⟨_, _, A, c, rfl, _⟩ := hd
 have key : ∃ u, w.cell? (ad.add j) = some u /\ u.oneCell' = true := by
  cases e
  have hm : j % 4 < 4 := Nat.mod_lt _ (by decide)
  have hk := fun u hu => hc (j % 4) u hu
  rw [Addr.add_mid]
  have e1 : off + j = off + j / 4 * 4 + j % 4 := by omega
  rw [e1]
  simp only [Addr.add_mid] at hk
  match hq : j % 4, hm with
  | 0, _ => exact ⟨_, by rw [hq] at hk; exact hk _ rfl, rfl⟩
  | 1, _ => exact ⟨_, by rw [hq] at hk; exact hk _ rfl, rfl⟩
  | 2, _ => exact ⟨_, by rw [hq] at hk; exact hk _ rfl, rfl⟩
  | 3, _ => exact ⟨_, by rw [hq] at hk; exact hk _ rfl, rfl⟩
 obtain ⟨u, hu, h1⟩ := key
 refine ⟨u, ?_, hu, h1⟩
 unfold itemCells
 rw [List.getElem?_map, List.getElem?_range hj]
 simp [hu]
theorem itemCells_len (w : World) (ad : Addr) (n : Nat) : (itemCells w ad n).length = n * 4 := by simp [itemCells]
theorem itemCells_src {w : World} {B : Nat} {ad : Addr} {rs : List ItemR} {n c : Nat} (h : ItemsAt w B (some ad) rs) (hn : rs.length = n) : Src w (some ad) n c (itemCells w ad n) /\ ∀ u ∈ itemCells w ad n, u.oneCell' = true := by
 refine ⟨.inr ⟨ad, rfl, fun j u hj => ?_⟩, fun u hu => ?_⟩
 ·have hlt := (List.getElem?_eq_some_iff.1 hj).1
  rw [itemCells_len] at hlt
  obtain ⟨u', h1, h2, _⟩ := itemCells_at h hn hlt
  rw [hj] at h1
  cases h1
  exact h2
 ·obtain ⟨j, hj⟩ := List.mem_iff_getElem?.1 hu
  have hlt := (List.getElem?_eq_some_iff.1 hj).1
  rw [itemCells_len] at hlt
  obtain ⟨u', h1, _, h2⟩ := itemCells_at h hn hlt
  rw [hj] at h1
  cases h1
  exact h2
/-- bytes that lie below lim or above g -/
def DatX (w : World) (lim g : Nat) (v : Value) (xs : List Int) : Prop := (∀ y ∈ xs, 0 <= y /\ y < 256) /\ xs.length <= maxLen /\ ∃ A c, v = .slice A xs.length c /\ Byt w w.heap.size A c xs /\ ∀ b off, xs ≠ [] -> A = some ⟨b, off, none⟩ -> b < lim ∨ g < b
theorem byt_kept {w w' : World} {L : List Nat} (hk : Kept L w w') {A : Option Addr} {c : Nat} {xs : List Int} (h : Byt w w.heap.size A c xs) (hn : ∀ b off, A = some ⟨b, off, none⟩ -> b ∉ L) : Byt w' w'.heap.size A c xs := hk.byt h hn
theorem DatX.kept {w w' : World} {L : List Nat} {lim g : Nat} {v : Value} {xs : List Int} (h : DatX w lim g v xs) (hk : Kept L w w') (hL : ∀ k ∈ L, lim <= k /\ k <= g) : DatX w' lim g v xs := by
 obtain ⟨h1, h2, A, c, e, h3, h4⟩ := h
 by_cases hx : xs = []
 ·subst hx
  exact ⟨h1, h2, A, c, e, ⟨h3.1, h3.2.1, fun i hi => absurd hi (by simp)⟩, h4⟩
 ·exact ⟨h1, h2, A, c, e, byt_kept hk h3 (fun b off e hb => by have h5 := h4 b off hx e; have h6 := hL b hb; omega), h4⟩
def ItemX (w : World) (lim base : Nat) (G : Option Addr) (cap : Nat) (rs : List ItemR) : Prop :=
 (rs = [] /\ G = none /\ cap = 0) ∨ ∃ g xs, G = some ⟨g, 0, none⟩ /\ w.ownsRow base 78 4 (.slice (some ⟨g, 0, none⟩) rs.length cap) rs.length xs /\ ∀ j r, rs[j]? = some r -> ∃ v, CellsAt w ⟨g, j * 4, none⟩ (itemL r.mark v r.ver r.dead) /\ DatX w lim g v r.val
theorem owns_blk_lt {w : World} {base : Nat} {e : TypeId} {size n g cap : Nat} {xs : List Value} (h : w.ownsRow base e size (.slice (some ⟨g, 0, none⟩) n cap) n xs) : base <= g /\ g < w.heap.size := by
 rcases h.2 with ⟨h1, _⟩ | ⟨g', cap', cur, hv, hb, hg, _⟩
 ·cases h1
 ·cases hv
  exact ⟨hb, (Array.getElem?_eq_some_iff.1 hg).1⟩
theorem owns_of_block {w w' : World} {base : Nat} {e : TypeId} {size n g cap : Nat} {xs : List Value} (h : w.ownsRow base e size (.slice (some ⟨g, 0, none⟩) n cap) n xs) (eb : w'.heap[g]? = w.heap[g]?) : w'.ownsRow base e size (.slice (some ⟨g, 0, none⟩) n cap) n xs := by
 refine ⟨h.1, ?_⟩
 rcases h.2 with ⟨h1, _⟩ | ⟨g', cap', cur, hv, hb, hg, hr⟩
 ·cases h1
 ·cases hv
  exact .inr ⟨g, cap, cur, rfl, hb, by rw [eb]; exact hg, hr⟩
theorem ItemX.items {w : World} {lim base cap : Nat} {G : Option Addr} {rs : List ItemR} (h : ItemX w lim base G cap rs) : ItemsAt w w.heap.size G rs := by
 rcases h with ⟨rfl, rfl, rfl⟩ | ⟨g, xs, rfl, ho, hc⟩
 ·intro i r hi
  simp at hi
 ·intro i r hi
  obtain ⟨v, h1, h2, h3, A, c, rfl, h4, h5⟩ := hc i r hi
  exact ⟨g, 0, _, rfl, (owns_blk_lt ho).2, by rw [Nat.zero_add]; exact h1, h2, h3, A, c, rfl, h4⟩
theorem ItemX.keep {w w' : World} {lim base cap g : Nat} {rs : List ItemR} (h : ItemX w lim base (some ⟨g, 0, none⟩) cap rs) (hb : Below w.heap.size w w') : ItemX w' lim base (some ⟨g, 0, none⟩) cap rs := by
 rcases h with ⟨_, h, _⟩ | ⟨g', xs, e, ho, hc⟩
 ·cases h
 ·cases e
  have hg := (owns_blk_lt ho).2
  refine .inr ⟨g, xs, rfl, owns_of_block ho (hb.block g hg), fun j r hj => ?_⟩
  obtain ⟨v, h1, h2⟩ := hc j r hj
  exact ⟨v, h1.below hb hg, h2.kept (Kept.of_below (L := []) hb) (by simp)⟩

theorem ItemX.keepL {w w' : World} {L : List Nat} {lim base cap : Nat} {G : Option Addr} {rs : List ItemR} (h : ItemX w lim base G cap rs) (hk : Kept L w w') (hL : ∀ k ∈ L, lim <= k /\ k < base) : ItemX w' lim base G cap rs := by
 rcases h with h | ⟨g, xs, rfl, ho, hc⟩
 ·exact .inl h
 ·have hg := owns_blk_lt ho
  have hgL : g ∉ L := fun hm => by have := hL g hm; omega
  refine .inr ⟨g, xs, rfl, owns_of_block ho (hk.block g hg.2 hgL), fun j r hj => ?_⟩
  obtain ⟨v, h1, h2⟩ := hc j r hj
  refine ⟨v, fun k u hu => ?_, h2.kept hk fun k hkm => by have := hL k hkm; omega⟩
  have := h1 k u hu
  rw [Addr.add_mid] at this ⊢
  rwa [World.cell?_of_block (w := w) (hk.block g hg.2 hgL)]
/-- a store of new bytes at an item -/
theorem ItemX.store {w : World} {lim base cap g : Nat} {rs : List ItemR} (h : ItemX w lim base (some ⟨g, 0, none⟩) cap rs) {i : Nat} {r : ItemR} (hi : rs[i]? = some r) {v : Value} (hv : DatX w lim g v r.val) (hlb : lim <= base) :
  ItemX (w.setCell ⟨g, i * 4 + 1, none⟩ v) lim base (some ⟨g, 0, none⟩) cap rs := by
 rcases h with ⟨_, h, _⟩ | ⟨g', xs, e, ho, hc⟩
 ·cases h
 ·cases e
  have hk0 : Kept [g] w (w.setCell ⟨g, i * 4 + 1, none⟩ v) := (Kept.refl [g] w).setCell (p := ⟨g, i * 4 + 1, none⟩) (by simp) v
  have hL : ∀ k ∈ [g], lim <= k /\ k <= g := fun k hk => by have := (owns_blk_lt ho).1; simp at hk; omega
  have hil : i < rs.length := (List.getElem?_eq_some_iff.1 hi).1
  have hs := (ho.stored (i * 4 + 1) v).1
  have hat := hs.cellAt
  have hat0 := ho.cellAt
  have hlen := ho.1
  refine .inr ⟨g, _, rfl, hs, fun j r' hj => ?_⟩
  have hjl : j < rs.length := (List.getElem?_eq_some_iff.1 hj).1
  obtain ⟨v', h1, h2⟩ := hc j r' hj
  have hcell : ∀ k, k < 4 -> j * 4 + k ≠ i * 4 + 1 -> (w.setCell ⟨g, i * 4 + 1, none⟩ v).cell? ⟨g, j * 4 + k, none⟩ = w.cell? ⟨g, j * 4 + k, none⟩ := fun k hk hne => by
   rw [hat (j * 4 + k) (by omega), hat0 (j * 4 + k) (by omega), List.getElem?_set_ne (by omega)]
  by_cases e : j = i
  ·subst e
   rw [hi] at hj
   cases hj
   refine ⟨v, fun k u hk => ?_, hv.kept hk0 hL⟩
   rw [Addr.add_mid]
   have h1k := fun u hu => h1 k u hu
   simp only [Addr.add_mid] at h1k
   match k, hk with
   | 0, hk => rw [hcell 0 (by omega) (by omega)]; exact h1k u hk
   | 1, hk =>
    simp [itemL] at hk
    subst hk
    rw [hat (j * 4 + 1) (by omega), List.getElem?_set_self (by omega)]
   | 2, hk => rw [hcell 2 (by omega) (by omega)]; exact h1k u hk
   | 3, hk => rw [hcell 3 (by omega) (by omega)]; exact h1k u hk
  ·refine ⟨v', fun k u hk => ?_, h2.kept hk0 hL⟩
   have hk4 : k < 4 := (List.getElem?_eq_some_iff.1 hk).1
   have := h1 k u hk
   rw [Addr.add_mid] at this ⊢
   rw [hcell k hk4 (by omega)]
   exact this
theorem ItemX.cell_at {w : World} {lim base cap g : Nat} {rs : List ItemR} (h : ItemX w lim base (some ⟨g, 0, none⟩) cap rs) {i : Nat} {r : ItemR} (hi : rs[i]? = some r) : (∃ v, w.cell? ⟨g, i * 4 + 1, none⟩ = some v) /\ w.frozen? ⟨g, i * 4 + 1, none⟩ = false := by
 rcases h with ⟨_, h, _⟩ | ⟨g', xs, e, ho, hc⟩
 ·cases h
 ·cases e
  obtain ⟨v, h1, h2⟩ := hc i r hi
  exact ⟨⟨_, h1 1 _ rfl⟩, ho.frozenAt _⟩
theorem ItemX.drew {w : World} {lim base cap : Nat} {G : Option Addr} {rs : List ItemR} (h : ItemX w lim base G cap rs) : ItemX w.drew lim base G cap rs := h

theorem clone39 (lim : Nat) (A : Option Addr) (n c : Nat) (rs : List ItemR) (w : World) (hn : rs.length = n) (hl : n <= 1000000) (hA0 : ItemsAt w lim A rs) (hlim : lim <= w.heap.size) :
  Calls Tryz.prog 107 #[.slice A n c] w fun e w' => ∃ G cap, e = .returned (.slice G n cap) /\ ItemX w' lim w.heap.size G cap rs /\ Below w.heap.size w w' := by
 have hA := hA0.mono hlim
 cases A with
 | none =>
  have hrs : rs = [] := by
   cases rs with
   | nil => rfl
   | cons x r => obtain ⟨b, off, v, e, _⟩ := hA 0 x rfl; cases e
  subst hrs
  subst hn
  have hq := q37
  go_enter Tryz.func107, Tryz.ntmps107
  go_wp2_with fail
  go_ret
  exact ⟨_, _, rfl, .inl ⟨rfl, rfl, rfl⟩, Below.refl _ _⟩
 | some ad =>
  have hb := below1 w (.cells #[] 78)
  have hA1 := hA.below hb (Nat.le_refl _)
  obtain ⟨hsrc, hone⟩ := itemCells_src (n := n) (c := c) hA1 hn
  have hsrc := kp hsrc
  have hone := kp hone
  have hown := kp (World.ownsRow_made (e := 78) (size := 4) (base := w.heap.size) w #[] 0 (Nat.le_refl _) (by unfold maxLen; omega) rfl)
  have hs := kp (show w.heap.size <= (w.alloc (.cells #[] 78)).heap.size by simp)
  have hat := kp (fun j (hj : j < n * 4) => itemCells_at hA1 hn hj)
  have HA := kp hA0
  have HN := kp hn
  have HL := kp (itemCells_len (w.alloc (.cells #[] 78)) ad n)
  generalize itemCells (w.alloc (.cells #[] 78)) ad n = news at *
  clear hn hA hA1 hA0
  have hq := q37
  go_enter Tryz.func107, Tryz.ntmps107
  go_wp2_with ((with_reducible refine wpList_append_src (o := ⟨some 7, _, _, _, _, _⟩) rfl _ _ 37 rfl w.heap.size 78 (.agg #[.int .i64 0, .slice none 0 0, .int .u64 0, .int .u64 0]) 4 48 Tryz.underlying37 q_info65 ?_ ?_ _ _ [] ?_ hown.out (some ad) n c news ?_ ?_ hsrc.out hone.out ?_ ?_ hs.out ?_); (· rfl); (· decide); (· rfl); (· rfl); (· exact HL.out); (· unfold maxLen; omega); (· omega); intro v1 w1 hown1 _ hb1)
  go_ret
  have hbb := hb.trans hb1
  have ho : w1.ownsRow w.heap.size 78 4 v1 n news := by simpa using hown1
  rcases owns_shape ho (by decide) with ⟨e1, e2, e3⟩ | ⟨g, cap, e1, e2, e3, e4, e5⟩
  ·subst e1
   have hrs : rs = [] := List.eq_nil_of_length_eq_zero (by rw [HN.out]; exact e2)
   subst e2
   exact ⟨none, 0, rfl, .inl ⟨hrs, rfl, rfl⟩, hbb⟩
  ·subst e1
   have HNe := HN.out
   subst HNe
   refine ⟨_, cap, rfl, .inr ⟨g, news, rfl, ho, fun j r hj => ?_⟩, hbb⟩
   have hjl : j < rs.length := (List.getElem?_eq_some_iff.1 hj).1
   obtain ⟨b, off, v, e, hbl, hc, hd⟩ := HA.out j r hj
   cases e
   obtain ⟨d1, d2, A, c', rfl, d3⟩ := hd
   refine ⟨_, fun k u hk => ?_, d1, d2, A, c', rfl, (d3.below hbb hlim).mono (Nat.le_trans hlim hbb.size), fun b' off' hz e' => ?_⟩
   ·have hk4 : k < 4 := (List.getElem?_eq_some_iff.1 hk).1
    obtain ⟨u', h1, h2, _⟩ := hat.out (j * 4 + k) (by omega)
    rw [Addr.add_mid, ho.cellAt (j * 4 + k) (by omega), h1]
    have h3 := hc k u hk
    rw [Addr.add_mid] at h3 h2
    have h4 := hb.cell (p := ⟨b, off + (j * 4 + k), none⟩) (Nat.lt_of_lt_of_le hbl hlim)
    rw [<- Nat.add_assoc] at h4 h2
    rw [h4, h3] at h2
    exact h2.symm
   ·obtain ⟨b2, off2, e4, hb4, _⟩ := d3.2.2 0 (by cases hr : r.val with | nil => exact absurd hr hz | cons x y => simp)
    rw [e4] at e'
    cases e'
    omega
end Go.Proofs.YtnjhpgmbfblgaaaGreat.Ord
