/- Lists of items; walks of slices.EqualFunc and of the two functions that compare responses. -/
import Derived.Test.YtnjhpgmbfblgaaaGreatMR25
import Derived.Deep.DeepCutAuto
namespace Go.Proofs.YtnjhpgmbfblgaaaGreat.Ord
set_option maxRecDepth 100000
set_option maxHeartbeats 16000000
open Go.RowKit
set_option linter.unusedVariables false
def ItemsAt (w : World) (B : Nat) (A : Option Addr) (xs : List ItemR) : Prop :=
 ∀ i r, xs[i]? = some r -> ∃ b off v, A = some ⟨b, off, none⟩ /\ b < B /\ CellsAt w ⟨b, off + i * 4, none⟩ (itemL r.mark v r.ver r.dead) /\ DatG w B v r.val
theorem ItemsAt.below {B B' : Nat} {w w' : World} {A : Option Addr} {rs : List ItemR} (h : ItemsAt w B A rs) (hb : Below B' w w') (hB : B <= B') : ItemsAt w' B A rs := by
 intro i r hi
 obtain ⟨b, off, d, h1, h2, h3, h4⟩ := h i r hi
 exact ⟨b, off, d, h1, h2, h3.below hb (by show b < B'; omega), h4.below hb hB⟩
theorem ItemsAt.mono {B B' : Nat} {w : World} {A : Option Addr} {rs : List ItemR} (h : ItemsAt w B A rs) (hB : B <= B') : ItemsAt w B' A rs := by
 intro i r hi
 obtain ⟨b, off, d, h1, h2, h3, h4⟩ := h i r hi
 exact ⟨b, off, d, h1, by omega, h3, h4.mono hB⟩
instance : Inhabited ItemR := ⟨⟨0, [], 0, 0⟩⟩
def iAt (rs : List ItemR) (k : Nat) : ItemR := rs.getD k default
theorem ItemsAt.at {w : World} {B : Nat} {A : Option Addr} {rs : List ItemR} (h : ItemsAt w B A rs) {n : Nat} (hn : n < rs.length) : ∃ b off v, A = some ⟨b, off, none⟩ /\ b < B /\ CellsAt w ⟨b, off + n * 4, none⟩ (itemL (iAt rs n).mark v (iAt rs n).ver (iAt rs n).dead) /\ DatG w B v (iAt rs n).val := by
 have : iAt rs n = rs[n] := by simp [iAt, List.getD, hn]
 rw [this]
 exact h n _ (List.getElem?_eq_getElem hn)
def itemsEq (rs ss : List ItemR) : Bool := decide (rs.length = ss.length /\ ∀ i, i < rs.length -> itemEq (iAt rs i) (iAt ss i) = true)
theorem itemsEq_yes {rs ss : List ItemR} (h : rs.length = ss.length) (h1 : ∀ i, i < rs.length -> itemEq (iAt rs i) (iAt ss i) = true) : itemsEq rs ss = true := decide_eq_true ⟨h, h1⟩
theorem itemsEq_no {rs ss : List ItemR} {k : Nat} (hk : k < rs.length) (h : itemEq (iAt rs k) (iAt ss k) = false) : itemsEq rs ss = false :=
 decide_eq_false fun h2 => by rw [h2.2 k hk] at h; cases h
theorem itemsEq_len {rs ss : List ItemR} (h : ¬ rs.length = ss.length) : itemsEq rs ss = false := decide_eq_false fun h2 => h h2.1
theorem item_size (m : Int) (v : Value) (r d : Int) : (Tryz.prog.info? 78).map (·.size) = some [Value.int .i64 m, v, .int .u64 r, .int .u64 d].length := by
 show _ = some 4
 kernel_rfl
theorem item_sizeA (m : Int) (v : Value) (r d : Int) : (Tryz.prog.info? 78).map (·.size) = some #[Value.int .i64 m, v, .int .u64 r, .int .u64 d].size := by
 show _ = some 4
 kernel_rfl
theorem item_one (m : Int) (A : Option Addr) (l c : Nat) (r d : Int) : #[Value.int .i64 m, .slice A l c, .int .u64 r, .int .u64 d].all (·.oneCell') = true := all_oneCell_toArray (cs := [Value.int .i64 m, .slice A l c, .int .u64 r, .int .u64 d]) fun v hv => by
 simp only [List.mem_cons, List.not_mem_nil, or_false] at hv
 rcases hv with rfl | rfl | rfl | rfl <;> rfl

theorem items65_len (A A' : Option Addr) (n m c c' : Nat) (w : World) (hl : n <= maxLen) (hl' : m <= maxLen) (hnm : n ≠ m) :
  Calls Tryz.prog 120 #[.slice A n c, .slice A' m c', .func (.func 121) #[] #[]] w fun e w' => e = .returned (.bool false) /\ Below w.heap.size w w' := by
 have hn' : n <= 9223372036854775807 := by unfold maxLen at hl; omega
 have hm' : m <= 9223372036854775807 := by unfold maxLen at hl'; omega
 have h1 : ((n : Int) != (m : Int)) = true := by simp; omega
 clear hl hl'
 go_enter Tryz.func120, Tryz.ntmps120
 go_wp2_with fail
 go_ret
 exact ⟨rfl, Below.refl _ _⟩
theorem items65_same (A A' : Option Addr) (n c c' : Nat) (rs ss : List ItemR) (w : World) (hn : rs.length = n) (hm : ss.length = n) (hl : n <= maxLen) (hA : ItemsAt w w.heap.size A rs) (hA' : ItemsAt w w.heap.size A' ss) :
  Calls Tryz.prog 120 #[.slice A n c, .slice A' n c', .func (.func 121) #[] #[]] w fun e w' => e = .returned (.bool (itemsEq rs ss)) /\ Below w.heap.size w w' := by
 have hn' : n <= 9223372036854775807 := by unfold maxLen at hl; omega
 have h1 : ((n : Int) != (n : Int)) = false := by simp
 have HA := kp hA
 have HA' := kp hA'
 have HN := kp hn
 have HM := kp hm
 obtain ⟨res, hres⟩ : ∃ res, itemsEq rs ss = res := ⟨_, rfl⟩
 rw [hres]
 have HR := kp hres
 clear hA hA' hn hm hl hres
 go_enter Tryz.func120, Tryz.ntmps120
 go_wp2_with fail
 go_loopw [17] (fun j wr => ∃ k : Nat, k <= n /\ j = .int .i64 k /\ (∀ i, i < k -> itemEq (iAt rs i) (iAt ss i) = true) /\ Below w.heap.size w wr) (fun j _ => n - (intOf j).toNat)
 case atStart => exact ⟨0, Nat.zero_le _, rfl, fun i hi => absurd hi (by omega), Below.refl _ _⟩
 case round =>
  obtain ⟨k, hk, rfl, hall, hb⟩ := hrel
  have HALL := kp hall
  clear hall
  by_cases hlt : k < n
  ·obtain ⟨b, off, v, rfl, hbB, hck, hdk⟩ := (HA.out.below hb (Nat.le_refl _)).at (n := k) (by rw [HN.out]; exact hlt)
   obtain ⟨b', off', v', rfl, hbB', hck', hdk'⟩ := (HA'.out.below hb (Nat.le_refl _)).at (n := k) (by rw [HM.out]; exact hlt)
   obtain ⟨r, hr⟩ : ∃ r, iAt rs k = r := ⟨_, rfl⟩
   obtain ⟨s, hs⟩ : ∃ s, iAt ss k = s := ⟨_, rfl⟩
   have HRk := kp hr
   have HSk := kp hs
   rw [hr] at hck hdk
   rw [hs] at hck' hdk'
   clear hr hs
   have hdk2 := kp (hdk.mono hb.size)
   have hdk2' := kp (hdk'.mono hb.size)
   obtain ⟨x1, x2, A2, c2, rfl, x3⟩ := hdk
   obtain ⟨x4, x5, A3, c3, rfl, x6⟩ := hdk'
   have h66 := fun W (hW : Below wr.heap.size wr W) => item66 r s (.slice A2 r.val.length c2) (.slice A3 s.val.length c3) W ((hdk2.out.below hW (Nat.le_refl _)).mono hW.size) ((hdk2'.out.below hW (Nat.le_refl _)).mono hW.size)
   obtain ⟨eqv, heqv⟩ : ∃ eqv, itemEq r s = eqv := ⟨_, rfl⟩
   rw [heqv] at h66
   have HEQ := kp heqv
   clear heqv hdk2 hdk2'
   have HRS := kp (show itemEq (iAt rs k) (iAt ss k) = eqv by rw [HRk.out, HSk.out]; exact HEQ.out)
   clear HRk HSk HEQ x1 x2 x3 x4 x5 x6
   obtain ⟨rm, rv, rr, rd⟩ := r
   obtain ⟨sm, sv, sr, sd⟩ := s
   simp only [itemL] at hck hck' h66
   generalize rv.length = n1 at *
   generalize sv.length = n2 at *
   clear rv sv
   have HCK := kp hck
   have HCK' := kp (hck'.below (below1 wr (.cells #[.int .i64 rm, .slice A2 n1 c2, .int .u64 rr, .int .u64 rd] 78)) (show b' < _ from Nat.lt_of_lt_of_le hbB' hb.size))
   have H66 := kp h66
   clear hck hck' h66
   have hg : decide ((k : Int) < (n : Int)) = true := by simp; omega
   have hbn := below2 wr (.cells #[.int .i64 rm, .slice A2 n1 c2, .int .u64 rr, .int .u64 rd] 78) (.cells #[.int .i64 sm, .slice A3 n2 c3, .int .u64 sr, .int .u64 sd] 78)
   have HBN := kp hbn
   clear hbn
   go_wp2_with (first
    | ((with_reducible refine wpList_load_agg (o := ⟨some 21, _, _, _, _, _⟩) rfl 78 _ rfl ⟨b, off + k * 4, none⟩ ?_ [.int .i64 rm, .slice A2 n1 c2, .int .u64 rr, .int .u64 rd] _ HCK.out Tryz.underlying78 rfl (item_size _ _ _ _) ?_); (· rfl))
    | ((with_reducible refine wpList_store_new (o := ⟨none, _, _, _, _, _⟩) rfl 87 (.tmp 8) (.tmp 21) rfl _ #[.int .i64 rm, .slice A2 n1 c2, .int .u64 rr, .int .u64 rd] 87 wr.heap.size ?_ ?_ ?_ (item_sizeA _ _ _ _) ?_ (item_one _ _ _ _ _ _) ?_); (· rfl); (· rfl); (· rfl); (· rfl))
    | ((with_reducible refine wpList_load_agg (o := ⟨some 25, _, _, _, _, _⟩) rfl 78 _ rfl ⟨b', off' + k * 4, none⟩ ?_ [.int .i64 sm, .slice A3 n2 c3, .int .u64 sr, .int .u64 sd] _ HCK'.out Tryz.underlying78 rfl (item_size _ _ _ _) ?_); (· rfl)))
   refine (H66.out _ HBN.out).mono ?_
   rintro e w4 ⟨rfl, hb4⟩
   have hb5 := (hb.trans (HBN.out.mono hb.size)).trans (hb4.mono (Nat.le_trans hb.size HBN.out.size))
   cases eqv
   ·go_wp2_with fail
    go_ret
    exact ⟨ret_bool (by rw [<- HR.out]; exact (itemsEq_no (by rw [HN.out]; exact hlt) HRS.out).symm), hb5⟩
   ·go_wp2_with fail
    go_roundw
    case rel => exact ⟨k + 1, by omega, by go_num, fun i hi => by (by_cases e : i = k; (rw [e]; exact HRS.out); exact HALL.out i (by omega)), hb5⟩
    case measure => simp [intOf]; omega
  ·obtain rfl : k = n := by omega
   have hg : decide ((k : Int) < (k : Int)) = false := by simp
   go_wp2_with fail
   go_ret
   exact ⟨ret_bool (by rw [<- HR.out]; exact (itemsEq_yes (by rw [HN.out, HM.out]) (by rw [HN.out]; exact HALL.out)).symm), hb⟩
theorem items65 (A A' : Option Addr) (n m c c' : Nat) (rs ss : List ItemR) (w : World) (hn : rs.length = n) (hm : ss.length = m) (hl : n <= maxLen) (hl' : m <= maxLen) (hA : ItemsAt w w.heap.size A rs) (hA' : ItemsAt w w.heap.size A' ss) :
  Calls Tryz.prog 120 #[.slice A n c, .slice A' m c', .func (.func 121) #[] #[]] w fun e w' => e = .returned (.bool (itemsEq rs ss)) /\ Below w.heap.size w w' := by
 by_cases h : n = m
 ·subst h
  exact items65_same A A' n c c' rs ss w hn hm hl hA hA'
 ·rw [itemsEq_len (by omega)]
  exact items65_len A A' n m c c' w hl hl' h

structure RespR where
 op : Int
 err : Int
 items : List ItemR
 ver : Int
 count : Int
 nums : List Int
def respC (r : RespR) (vi vn : Value) : List Value := [.int .i64 r.op, .int .i64 r.err, vi, .int .u64 r.ver, .int .i64 r.count, vn]
def ItemsV (w : World) (B : Nat) (v : Value) (xs : List ItemR) : Prop := xs.length <= maxLen /\ ∃ A c, v = .slice A xs.length c /\ ItemsAt w B A xs
def RespOk (w : World) (B : Nat) (r : RespR) (vi vn : Value) : Prop := ItemsV w B vi r.items /\ SlV (Value.int .u64) w B vn r.nums
theorem RespOk.below {B B' : Nat} {w w' : World} {r : RespR} {vi vn : Value} (h : RespOk w B r vi vn) (hb : Below B' w w') (hB : B <= B') : RespOk w' B r vi vn := by
 obtain ⟨⟨h1, A, c, h2, h3⟩, h4⟩ := h
 exact ⟨⟨h1, A, c, h2, h3.below hb hB⟩, h4.below hb hB⟩
theorem RespOk.mono {B B' : Nat} {w : World} {r : RespR} {vi vn : Value} (h : RespOk w B r vi vn) (hB : B <= B') : RespOk w B' r vi vn := by
 obtain ⟨⟨h1, A, c, h2, h3⟩, h4⟩ := h
 exact ⟨⟨h1, A, c, h2, h3.mono hB⟩, h4.mono hB⟩
def respEq (a b : RespR) : Bool := a.op == b.op && a.err == b.err && itemsEq a.items b.items && a.ver == b.ver && a.count == b.count && decide (a.nums = b.nums)

theorem CellsAt.cell0 {w : World} {b : Nat} {cs : List Value} (h : CellsAt w ⟨b, 0, none⟩ cs) {j : Nat} {v : Value} (hj : cs[j]? = some v) : w.cell? ⟨b, j, none⟩ = some v := by
 have := h j v hj
 rwa [Addr.add_mid, Nat.zero_add] at this
/-- two structs, boxed one after the other -/
theorem two_boxes (w : World) (l l' : List Value) (t t' : TypeId) : CellsAt ((w.alloc (.cells l.toArray t)).alloc (.cells l'.toArray t')) ⟨w.heap.size, 0, none⟩ l /\ CellsAt ((w.alloc (.cells l.toArray t)).alloc (.cells l'.toArray t')) ⟨w.heap.size + 1, 0, none⟩ l' /\ ((w.alloc (.cells l.toArray t)).alloc (.cells l'.toArray t')).heap.size = w.heap.size + 2 /\ Below w.heap.size w ((w.alloc (.cells l.toArray t)).alloc (.cells l'.toArray t')) :=
 ⟨(cells_lit w l _ t rfl).below (below1 _ _) (by simp), cells_lit _ l' _ t' (by simp), by simp, below2 w _ _⟩

theorem resp43 (a b : RespR) (vi vn vi' vn' : Value) (w : World) (ha : RespOk w w.heap.size a vi vn) (hb : RespOk w w.heap.size b vi' vn') :
  Calls Tryz.prog 68 #[.agg (respC a vi vn).toArray, .agg (respC b vi' vn').toArray] w fun e w' => e = .returned (.bool (respEq a b)) /\ Below w.heap.size w w' := by
 obtain ⟨h1, h2, h3, h4⟩ := two_boxes w (respC a vi vn) (respC b vi' vn') 40 40
 obtain ⟨⟨ai1, A, c, rfl, ai2⟩, an1, A2, c2, rfl, an2⟩ := (ha.below h4 (Nat.le_refl _)).mono h4.size
 obtain ⟨⟨bi1, A', c', rfl, bi2⟩, bn1, A2', c2', rfl, bn2⟩ := (hb.below h4 (Nat.le_refl _)).mono h4.size
 clear ha hb
 obtain ⟨ao, ae, ais, av, ac, ans⟩ := a
 obtain ⟨bo, be, bis, bv, bc, bns⟩ := b
 simp only [respC] at *
 have H65 := kp (items65 A A' _ _ c c' ais bis _ rfl rfl ai1 bi1 ai2 bi2)
 obtain ⟨res, hres⟩ : ∃ res, respEq ⟨ao, ae, ais, av, ac, ans⟩ ⟨bo, be, bis, bv, bc, bns⟩ = res := ⟨_, rfl⟩
 rw [hres]
 simp only [respEq] at hres
 obtain ⟨g2, hg2⟩ : ∃ g2, itemsEq ais bis = g2 := ⟨_, rfl⟩
 rw [hg2] at hres H65
 have H67 := kp (fun W (hW : Below ((w.alloc (.cells #[.int .i64 ao, .int .i64 ae, .slice A ais.length c, .int .u64 av, .int .i64 ac, .slice A2 ans.length c2] 40)).alloc (.cells #[.int .i64 bo, .int .i64 be, .slice A' bis.length c', .int .u64 bv, .int .i64 bc, .slice A2' bns.length c2'] 40)).heap.size ((w.alloc (.cells #[.int .i64 ao, .int .i64 ae, .slice A ais.length c, .int .u64 av, .int .i64 ac, .slice A2 ans.length c2] 40)).alloc (.cells #[.int .i64 bo, .int .i64 be, .slice A' bis.length c', .int .u64 bv, .int .i64 bc, .slice A2' bns.length c2'] 40)) W) =>
  nums67_any A2 A2' ans bns _ _ c2 c2' W rfl rfl an1 bn1 ((an2.below hW (Nat.le_refl _)).mono hW.size) ((bn2.below hW (Nat.le_refl _)).mono hW.size))
 obtain ⟨g5, hg5⟩ : ∃ g5, decide (ans = bns) = g5 := ⟨_, rfl⟩
 rw [hg5] at hres
 rw [hg5] at H67
 clear hg2 hg5 ai1 ai2 an1 an2 bi1 bi2 bn1 bn2
 generalize ais.length = n1 at *
 generalize bis.length = n2 at *
 generalize ans.length = n3 at *
 generalize bns.length = n4 at *
 clear ais bis ans bns
 have HR := kp hres
 have HB := kp h4
 have HC1 := kp h1
 have HC2 := kp h2
 have HSZ := kp h3
 clear hres h1 h2 h3 h4
 go_enter Tryz.func68, Tryz.ntmps68
 cases t0 : (ao == bo)
 ·go_wp2_with fail
  go_ret
  exact ⟨ret_bool (by rw [<- HR.out]; simp [t0]), HB.out⟩
 cases t1 : (ae == be)
 ·go_wp2_with fail
  go_ret
  exact ⟨ret_bool (by rw [<- HR.out]; simp [t0, t1]), HB.out⟩
 go_wp2_with fail
 refine H65.out.mono ?_
 rintro e w1 ⟨rfl, hb1⟩
 have HB1 := kp (HB.out.trans (hb1.mono HB.out.size))
 have hc1 := HC1.out.below hb1 (show w.heap.size < _ by rw [HSZ.out]; omega)
 have hc2 := HC2.out.below hb1 (show w.heap.size + 1 < _ by rw [HSZ.out]; omega)
 have f13 := hc1.cell0 (j := 3) rfl
 have f14 := hc1.cell0 (j := 4) rfl
 have f15 := hc1.cell0 (j := 5) rfl
 have f23 := hc2.cell0 (j := 3) rfl
 have f24 := hc2.cell0 (j := 4) rfl
 have f25 := hc2.cell0 (j := 5) rfl
 have H67' := kp (H67.out w1 hb1)
 clear hb1 hc1 hc2 H67 H65
 cases g2
 ·go_wp2_with fail
  go_ret
  exact ⟨ret_bool (by rw [<- HR.out]; simp), HB1.out⟩
 cases t3 : (av == bv)
 ·go_wp2_with fail
  go_ret
  exact ⟨ret_bool (by rw [<- HR.out]; simp [t3]), HB1.out⟩
 cases t4 : (ac == bc)
 ·go_wp2_with fail
  go_ret
  exact ⟨ret_bool (by rw [<- HR.out]; simp [t4]), HB1.out⟩
 go_wp2_with fail
 refine H67'.out.mono ?_
 rintro e w2 ⟨rfl, q, rfl⟩
 go_wp2_with fail
 go_ret
 exact ⟨ret_bool (by rw [<- HR.out]; simp [t0, t1, t3, t4]), ⟨HB1.out.os, HB1.out.tape, HB1.out.output, HB1.out.size, HB1.out.block⟩⟩

/-- a load of one cell, in a quiet region -/
theorem run_cell_of {ty : TypeId} (ha : ∀ W, (isAgg ty).run Tryz.prog W = .ok false W) (W : World) (ad : Addr) (v : Value) (hc : W.cell? ad = some v) : (loadVar ty ad).run Tryz.prog W = .ok v W := by
 simp [loadVar, go_sem, hc, ha]
theorem qk_load_cell {ops : Array Oper} {C : World -> Prop} {Q : Act -> Prop} {a : Act} {o : Oper} {rest : List Oper} (ty : TypeId) (x : Operand) (ho : o.op = .load ty x)
  (ad : Addr) (hx : a.eval x = .pointer (some ad)) (v : Value) (hc : ∀ W, C W -> (loadVar ty ad).run Tryz.prog W = .ok v W)
  (hw : Region.wanted o (yielded ops a.tmps) = true)
  (h : wpQuiet Tryz.prog ops C Q rest (a.put o.dst v)) : wpQuiet Tryz.prog ops C Q (o :: rest) a := by
 refine wpQuiet_step fun K hK => ?_
 rw [if_pos hw]
 refine ⟨v, fun W hW => ?_, hK _ h⟩
 unfold Oper.quietAt execOp
 simp only [ho, hx, Instr.loadAt, Instr.sureAddr, Sem.run_bind, Sem.run_pure, Result.andThen_ok, hc W hW]
 exact ⟨rfl, rfl⟩
theorem cell_kept {ty : TypeId} (ha : ∀ W, (isAgg ty).run Tryz.prog W = .ok false W) {w : World} {ad : Addr} {v : Value} (h : w.cell? ad = some v) : ∀ W, (∃ p : Regrown, W = Sort.grow (redrawn w p.d) p.os) -> (loadVar ty ad).run Tryz.prog W = .ok v W := by
 rintro W ⟨p, rfl⟩
 exact run_cell_of ha _ _ _ (cell_regrown h _ _)

theorem resp45 (a b : RespR) (vi vn vi' vn' : Value) (w : World) (ha : RespOk w w.heap.size a vi vn) (hb : RespOk w w.heap.size b vi' vn') :
  Calls Tryz.prog 24 #[.agg (respC a vi vn).toArray, .agg (respC b vi' vn').toArray] w fun e w' => e = .returned (.bool (respEq a b)) /\ Below w.heap.size w w' := by
 obtain ⟨h1, h2, h3, h4⟩ := two_boxes w (respC a vi vn) (respC b vi' vn') 40 40
 obtain ⟨⟨ai1, A, c, rfl, ai2⟩, an1, A2, c2, rfl, an2⟩ := (ha.below h4 (Nat.le_refl _)).mono h4.size
 obtain ⟨⟨bi1, A', c', rfl, bi2⟩, bn1, A2', c2', rfl, bn2⟩ := (hb.below h4 (Nat.le_refl _)).mono h4.size
 clear ha hb
 obtain ⟨ao, ae, ais, av, ac, ans⟩ := a
 obtain ⟨bo, be, bis, bv, bc, bns⟩ := b
 simp only [respC] at *
 obtain ⟨res, hres⟩ : ∃ res, respEq ⟨ao, ae, ais, av, ac, ans⟩ ⟨bo, be, bis, bv, bc, bns⟩ = res := ⟨_, rfl⟩
 rw [hres]
 simp only [respEq] at hres
 obtain ⟨W0, hW0⟩ : ∃ W0, (w.alloc (.cells #[.int .i64 ao, .int .i64 ae, .slice A ais.length c, .int .u64 av, .int .i64 ac, .slice A2 ans.length c2] 40)).alloc (.cells #[.int .i64 bo, .int .i64 be, .slice A' bis.length c', .int .u64 bv, .int .i64 bc, .slice A2' bns.length c2'] 40) = W0 := ⟨_, rfl⟩
 have HW0 := kp hW0
 rw [hW0] at h1 h2 h3 h4 ai2 an2 bi2 bn2
 have AI := kp ai2
 have AN := kp an2
 have BI := kp bi2
 have BN := kp bn2
 have HC1 := kp h1
 have HC2 := kp h2
 have HSZ := kp h3
 have HB := kp h4
 have HR := kp hres
 obtain ⟨n1, hn1⟩ : ∃ n1, ais.length = n1 := ⟨_, rfl⟩
 obtain ⟨n2, hn2⟩ : ∃ n2, bis.length = n2 := ⟨_, rfl⟩
 obtain ⟨n3, hn3⟩ : ∃ n3, ans.length = n3 := ⟨_, rfl⟩
 obtain ⟨n4, hn4⟩ : ∃ n4, bns.length = n4 := ⟨_, rfl⟩
 rw [hn1] at ai1
 rw [hn2] at bi1
 rw [hn3] at an1
 rw [hn4] at bn1
 have l1 : n1 <= 9223372036854775807 := by unfold maxLen at ai1; omega
 have l2 : n2 <= 9223372036854775807 := by unfold maxLen at bi1; omega
 have l3 : n3 <= 9223372036854775807 := by unfold maxLen at an1; omega
 have l4 : n4 <= 9223372036854775807 := by unfold maxLen at bn1; omega
 simp only [hn1, hn2, hn3, hn4] at HC1 HC2 HW0 ⊢
 have N1 := kp hn1
 have N2 := kp hn2
 have N3 := kp hn3
 have N4 := kp hn4
 clear hres h1 h2 h3 h4 hW0 ai1 ai2 an1 an2 bi1 bi2 bn1 bn2 hn1 hn2 hn3 hn4
 go_enter Tryz.func24, Tryz.ntmps24
 cases t0 : (ao != bo)
 case true =>
  go_wp2_with fail
  go_ret
  exact ⟨ret_bool (by rw [<- HR.out]; simp [bne] at t0; simp [t0]), by rw [HW0.out]; exact HB.out⟩
 cases t1 : (ae != be)
 case true =>
  go_wp2_with fail
  go_ret
  exact ⟨ret_bool (by rw [<- HR.out]; simp [bne] at t1; simp [t1]), by rw [HW0.out]; exact HB.out⟩
 cases t2 : (av != bv)
 case true =>
  go_wp2_with fail
  go_ret
  exact ⟨ret_bool (by rw [<- HR.out]; simp [bne] at t2; simp [t2]), by rw [HW0.out]; exact HB.out⟩
 cases t3 : (ac != bc)
 case true =>
  go_wp2_with fail
  go_ret
  exact ⟨ret_bool (by rw [<- HR.out]; simp [bne] at t3; simp [t3]), by rw [HW0.out]; exact HB.out⟩
 by_cases e4 : n1 = n2
 case neg =>
  have t4 : ((n1 : Int) != (n2 : Int)) = true := by simp; omega
  have hi : itemsEq ais bis = false := itemsEq_len (by rw [N1.out, N2.out]; exact e4)
  go_wp2_with fail
  go_ret
  exact ⟨ret_bool (by rw [<- HR.out]; simp [hi]), by rw [HW0.out]; exact HB.out⟩
 subst e4
 have t4 : ((n1 : Int) != (n1 : Int)) = false := by simp
 by_cases e5 : n3 = n4
 case neg =>
  have t5 : ((n3 : Int) != (n4 : Int)) = true := by simp; omega
  have hi : decide (ans = bns) = false := decide_eq_false (by rintro rfl; exact e5 (N3.out.symm.trans N4.out))
  go_wp2_with fail
  go_ret
  exact ⟨ret_bool (by rw [<- HR.out]; simp [hi]), by rw [HW0.out]; exact HB.out⟩
 subst e5
 have t5 : ((n3 : Int) != (n3 : Int)) = false := by simp
 have HRes := kp (show (itemsEq ais bis && decide (ans = bns)) = res by
  rw [<- HR.out]
  simp [bne] at t0 t1 t2 t3
  simp [t0, t1, t2, t3])
 clear HR
 go_upto_region 3 with (fail)
 rw [HW0.out]
 clear t0 t1 t2 t3
 go_wp2_with fail
 go_loopw [5] (fun j wr => ∃ k : Nat, k <= n1 /\ j = .int .i64 k /\ (∀ i, i < k -> itemEq (iAt ais i) (iAt bis i) = true) /\ Below W0.heap.size W0 wr) (fun j _ => n1 - (intOf j).toNat)
 case atStart => exact ⟨0, Nat.zero_le _, rfl, fun i hi => absurd hi (by omega), Below.refl _ _⟩
 case round =>
  obtain ⟨k, hk, rfl, hall, hb⟩ := hrel
  have HALL := kp hall
  clear hall
  have hc1 := HC1.out.below hb (show w.heap.size < _ by rw [HSZ.out]; omega)
  have hc2 := HC2.out.below hb (show w.heap.size + 1 < _ by rw [HSZ.out]; omega)
  have f12 := hc1.cell0 (j := 2) rfl
  have f22 := hc2.cell0 (j := 2) rfl
  have HC1' := kp hc1
  have HC2' := kp hc2
  clear hc1 hc2
  by_cases hlt : k < n1
  ·obtain ⟨b, off, v, rfl, hbB, hck, hdk⟩ := (AI.out.below hb (Nat.le_refl _)).at (n := k) (by rw [N1.out]; exact hlt)
   obtain ⟨b', off', v', rfl, hbB', hck', hdk'⟩ := (BI.out.below hb (Nat.le_refl _)).at (n := k) (by rw [N2.out]; exact hlt)
   obtain ⟨r, hr⟩ : ∃ r, iAt ais k = r := ⟨_, rfl⟩
   obtain ⟨s, hs⟩ : ∃ s, iAt bis k = s := ⟨_, rfl⟩
   have HRk := kp hr
   have HSk := kp hs
   rw [hr] at hck hdk
   rw [hs] at hck' hdk'
   clear hr hs
   have hdk2 := kp (hdk.mono hb.size)
   have hdk2' := kp (hdk'.mono hb.size)
   obtain ⟨x1, x2, A3, c3, rfl, x3⟩ := hdk
   obtain ⟨x4, x5, A4, c4, rfl, x6⟩ := hdk'
   have h69 := fun W (hW : Below wr.heap.size wr W) => item69 r s (.slice A3 r.val.length c3) (.slice A4 s.val.length c4) W ((hdk2.out.below hW (Nat.le_refl _)).mono hW.size) ((hdk2'.out.below hW (Nat.le_refl _)).mono hW.size)
   obtain ⟨eqv, heqv⟩ : ∃ eqv, itemEq r s = eqv := ⟨_, rfl⟩
   rw [heqv] at h69
   have HEQ := kp heqv
   clear heqv hdk2 hdk2'
   have HRS := kp (show itemEq (iAt ais k) (iAt bis k) = eqv by rw [HRk.out, HSk.out]; exact HEQ.out)
   clear HRk HSk HEQ x1 x2 x3 x4 x5 x6
   obtain ⟨rm, rv, rr, rd⟩ := r
   obtain ⟨sm, sv, sr, sd⟩ := s
   simp only [itemL] at hck hck' h69
   generalize rv.length = m1 at *
   generalize sv.length = m2 at *
   clear rv sv
   have Hk := kp hck.regrown
   have Hk' := kp hck'.regrown
   have H69 := kp h69
   clear hck hck' h69
   have hg : decide ((k : Int) < (n1 : Int)) = true := by simp; omega
   have F1 := kp (cell_kept Tryz.isAgg37 f12)
   have F2 := kp (cell_kept Tryz.isAgg37 f22)
   go_wp2_with fail
   refine wp_region_quiet_below (by kernel_rfl) (by kernel_rfl) ?_
   repeat (first
    | ((with_reducible refine qk_load_cell (o := ⟨some 59, _, _, _, _, _⟩) 37 _ rfl ⟨w.heap.size, 2, none⟩ ?_ (.slice (some ⟨b, off, none⟩) n1 c) F1.out ?_ ?_); (· rfl); (· rfl); simp only [Act.put, z1, z2, z3])
    | ((with_reducible refine qk_load_cell (o := ⟨some 64, _, _, _, _, _⟩) 37 _ rfl ⟨w.heap.size + 1, 2, none⟩ ?_ (.slice (some ⟨b', off', none⟩) n1 c') F2.out ?_ ?_); (· rfl); (· rfl); simp only [Act.put, z1, z2, z3])
    | ((with_reducible refine qk_load_agg (o := ⟨some 62, _, _, _, _, _⟩) rfl 78 _ rfl ⟨b, off + k * 4, none⟩ ?_ [.int .i64 rm, .slice A3 m1 c3, .int .u64 rr, .int .u64 rd] _ Hk.out Tryz.underlying78 rfl (item_size _ _ _ _) ?_); (· rfl); simp only [Act.put, z1, z2, z3])
    | ((with_reducible refine qk_load_agg (o := ⟨some 67, _, _, _, _, _⟩) rfl 78 _ rfl ⟨b', off' + k * 4, none⟩ ?_ [.int .i64 sm, .slice A4 m2 c4, .int .u64 sr, .int .u64 sd] _ Hk'.out Tryz.underlying78 rfl (item_size _ _ _ _) ?_); (· rfl); simp only [Act.put, z1, z2, z3])
    | go_big_quiet_step ((go_at_call 59; exact Calls.regrown_of (H69.out _ (below_regrown _ _ _)))))
   refine wpQuiet_nil ?_
   intro W3 hW3
   have hb3 := hb.trans ((regrown_below hW3).mono hb.size)
   clear hW3
   cases eqv
   ·go_wp2_with fail
    go_ret
    have hi : itemsEq ais bis = false := itemsEq_no (by rw [N1.out]; exact hlt) HRS.out
    exact ⟨ret_bool (by rw [<- HRes.out, hi]; rfl), HB.out.trans (hb3.mono HB.out.size)⟩
   ·go_wp2_with fail
    go_roundw
    case rel => exact ⟨k + 1, by omega, by go_num, fun i hi => by (by_cases e : i = k; (rw [e]; exact HRS.out); exact HALL.out i (by omega)), hb3⟩
    case measure => simp [intOf]; omega
  ·obtain rfl : k = n1 := by omega
   have hg : decide ((k : Int) < (k : Int)) = false := by simp
   have hi : itemsEq ais bis = true := itemsEq_yes (by rw [N1.out, N2.out]) (by rw [N1.out]; exact HALL.out)
   have HI := kp hi
   clear hi
   go_wp2_with fail
   clear f12 f22
   go_loopw [6] (fun j wr2 => ∃ m : Nat, m <= n3 /\ j = .int .i64 m /\ (∀ i, i < m -> ans[i]? = bns[i]?) /\ Below W0.heap.size W0 wr2) (fun j _ => n3 - (intOf j).toNat)
   case atStart => exact ⟨0, Nat.zero_le _, rfl, fun i hi => absurd hi (by omega), hb⟩
   case round =>
    obtain ⟨m, hm, rfl, hE, hb2⟩ := hrel
    have HE := kp hE
    clear hE
    have hc1 := HC1.out.below hb2 (show w.heap.size < _ by rw [HSZ.out]; omega)
    have hc2 := HC2.out.below hb2 (show w.heap.size + 1 < _ by rw [HSZ.out]; omega)
    have f15 := hc1.cell0 (j := 5) rfl
    have f25 := hc2.cell0 (j := 5) rfl
    clear hc1 hc2
    by_cases hlt2 : m < n3
    ·obtain ⟨x, hx⟩ : ∃ x, ans[m]? = some x := ⟨ans[m]'(by rw [N3.out]; exact hlt2), List.getElem?_eq_getElem _⟩
     obtain ⟨y, hy⟩ : ∃ y, bns[m]? = some y := ⟨bns[m]'(by rw [N4.out]; exact hlt2), List.getElem?_eq_getElem _⟩
     obtain ⟨b, o, rfl, hbX, c1⟩ := (AN.out.below hb2 (Nat.le_refl _)) m x hx
     obtain ⟨b', o', rfl, hbY, c2⟩ := (BN.out.below hb2 (Nat.le_refl _)) m y hy
     have KX := kp hx
     have KY := kp hy
     clear hx hy
     have hg2 : decide ((m : Int) < (n3 : Int)) = true := by simp; omega
     by_cases hxy : x = y
     ·subst hxy
      have h2 : (x != x) = false := by simp
      go_wp2_with fail
      go_quiet (fail)
      go_wp2
      go_roundw
      case rel => exact ⟨m + 1, by omega, by go_num, fun i hi => by
       by_cases e : i = m
       ·subst e; rw [KX.out, KY.out]
       ·exact HE.out i (by omega), ⟨hb2.os, hb2.tape, hb2.output, hb2.size, hb2.block⟩⟩
      case measure => simp [intOf]; omega
     ·have h2 : (x != y) = true := by simp [hxy]
      go_wp2_with fail
      go_quiet (fail)
      go_wp2
      go_ret
      have hne : decide (ans = bns) = false := decide_eq_false (by
       rintro rfl
       rw [KX.out] at KY
       exact hxy (by simpa using KY.out))
      have hbe := HB.out.trans (hb2.mono HB.out.size)
      exact ⟨ret_bool (by rw [<- HRes.out, hne, Bool.and_false]), ⟨hbe.os, hbe.tape, hbe.output, hbe.size, hbe.block⟩⟩
    ·obtain rfl : m = n3 := by omega
     have hg2 : decide ((m : Int) < (m : Int)) = false := by simp
     go_wp2_with fail
     go_ret
     have hyes : decide (ans = bns) = true := decide_eq_true (eq_of_upto N3.out N4.out HE.out)
     exact ⟨ret_bool (by rw [<- HRes.out, hyes, HI.out]; rfl), HB.out.trans (hb2.mono HB.out.size)⟩
end Go.Proofs.YtnjhpgmbfblgaaaGreat.Ord
