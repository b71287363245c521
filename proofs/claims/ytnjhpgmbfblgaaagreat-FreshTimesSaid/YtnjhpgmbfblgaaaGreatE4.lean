/- Lists of items; walks of slices.EqualFunc and of the two functions that compare. -/
import Derived.Test.YtnjhpgmbfblgaaaGreatMR25
import Derived.Deep.DeepCutAuto
set_option linter.unusedVariables false
set_option linter.unusedSimpArgs false
namespace Go.Proofs.YtnjhpgmbfblgaaaGreat.Ord
set_option maxRecDepth 100000
set_option maxHeartbeats 16000000
open Go.RowKit
def ItemsAt (w : World) (B : Nat) (A : Option Addr) (xs : List ItemR) : Prop :=
 ∀ i r, xs[i]? = some r -> ∃ b off v, A = some ⟨b, off, none⟩ /\ b < B /\ CellsAt w ⟨b, off + i * 4, none⟩ (aD_ r.mark v r.ver r.dead) /\ DatG w B v r.val
theorem ItemsAt.below {B B' : Nat} {w w' : World} {A : Option Addr} {rs : List ItemR} (h : ItemsAt w B A rs) (hb : Below B' w w') (hB : B <= B') : ItemsAt w' B A rs := by
 intro i r hi
 obtain ⟨b, off, d, h1, h2, h3, h4⟩ := h i r hi
 exact ⟨b, off, d, h1, h2, h3.below hb (by show b < B'; omega), h4.below hb hB⟩
theorem ItemsAt.mono {B B' : Nat} {w : World} {A : Option Addr} {rs : List ItemR} (h : ItemsAt w B A rs) (hB : B <= B') : ItemsAt w B' A rs := by
 intro i r hi
 obtain ⟨b, off, d, h1, h2, h3, h4⟩ := h i r hi
 exact ⟨b, off, d, h1, by omega, h3, h4.mono hB⟩
instance : Inhabited ItemR := ⟨⟨0, [], 0, 0⟩⟩
def iAt (rs : List ItemR) (k : Nat) : ItemR := rs.getD k default
theorem ItemsAt.at {w : World} {B : Nat} {A : Option Addr} {rs : List ItemR} (h : ItemsAt w B A rs) {n : Nat} (hn : n < rs.length) : ∃ b off v, A = some ⟨b, off, none⟩ /\ b < B /\ CellsAt w ⟨b, off + n * 4, none⟩ (aD_ (iAt rs n).mark v (iAt rs n).ver (iAt rs n).dead) /\ DatG w B v (iAt rs n).val := by
 have : iAt rs n = rs[n] := by simp [iAt, List.getD, hn]
 rw [this]
 exact h n _ (gE hn)
def bx_ (rs ss : List ItemR) : Bool := decide (rs.length = ss.length /\ ∀ i, i < rs.length -> by_ (iAt rs i) (iAt ss i) = true)
theorem eC_ {rs ss : List ItemR} (h : rs.length = ss.length) (h1 : ∀ i, i < rs.length -> by_ (iAt rs i) (iAt ss i) = true) : bx_ rs ss = true := eT_ ⟨h, h1⟩
theorem fL_ {rs ss : List ItemR} {k : Nat} (hk : k < rs.length) (h : by_ (iAt rs k) (iAt ss k) = false) : bx_ rs ss = false :=
 eF fun h2 => by rw [h2.2 k hk] at h; cases h
theorem eD_ {rs ss : List ItemR} (h : ¬ rs.length = ss.length) : bx_ rs ss = false := eF fun h2 => h h2.1
theorem bH_ (m : Int) (v : Value) (r d : Int) : (Tryz.prog.info? 78).map (·.size) = some [Value.int .i64 m, v, .int .u64 r, .int .u64 d].length := by
 show _ = some 4
 kernel_rfl
theorem jI_ (m : Int) (v : Value) (r d : Int) : (Tryz.prog.info? 78).map (·.size) = some #[Value.int .i64 m, v, .int .u64 r, .int .u64 d].size := by
 show _ = some 4
 kernel_rfl
theorem item_one (m : Int) (A : Option Addr) (l c : Nat) (r d : Int) : #[Value.int .i64 m, .slice A l c, .int .u64 r, .int .u64 d].all (·.oneCell') = true := all_oneCell_toArray (cs := [Value.int .i64 m, .slice A l c, .int .u64 r, .int .u64 d]) fun v hv => by
 simp only [List.mem_cons, List.not_mem_nil, or_false] at hv
 rcases hv with rfl | rfl | rfl | rfl <;> rfl
theorem ib_ (A A' : Option Addr) (n m c c' : Nat) (w : World) (hl : n <= maxLen) (hl' : m <= maxLen) (hnm : n ≠ m) :
  Calls Tryz.prog 120 #[.slice A n c, .slice A' m c', .func (.func 121) #[] #[]] w fun e w' => e = .returned (.bool false) /\ Bw w w' := by
 have hn' : n <= 9223372036854775807 := by unfold maxLen at hl; omega
 have hm' : m <= 9223372036854775807 := by unfold maxLen at hl'; omega
 have h1 : ((n : Int) != (m : Int)) = true := by simp; omega
 clear hl hl'
 go_enter Tryz.func120, Tryz.ntmps120
 go_wp2_with fail
 go_ret
 exact ⟨rfl, BR _ _⟩
theorem he_ (A A' : Option Addr) (n c c' : Nat) (rs ss : List ItemR) (w : World) (hn : rs.length = n) (hm : ss.length = n) (hl : n <= maxLen) (hA : ItemsAt w w.heap.size A rs) (hA' : ItemsAt w w.heap.size A' ss) :
  Calls Tryz.prog 120 #[.slice A n c, .slice A' n c', .func (.func 121) #[] #[]] w fun e w' => e = .returned (.bool (bx_ rs ss)) /\ Bw w w' := by
 have hn' : n <= 9223372036854775807 := by unfold maxLen at hl; omega
 have h1 : ((n : Int) != (n : Int)) = false := by simp
 obtain ⟨HA, Ag, HN, HM⟩ := kq4 hA hA' hn hm
 obtain ⟨res, hres⟩ := eY (bx_ rs ss)
 rw [hres]
 have HR := kp hres
 clear hA hA' hn hm hl hres
 go_enter Tryz.func120, Tryz.ntmps120
 go_wp2_with fail
 go_loopw [17] (fun j wr => ∃ k : Nat, k <= n /\ j = .int .i64 k /\ (∀ i, i < k -> by_ (iAt rs i) (iAt ss i) = true) /\ Bw w wr) (fun j _ => n - (intOf j).toNat)
 case atStart => exact ⟨0, Nat.zero_le _, rfl, fun i hi => absurd hi (by omega), BR _ _⟩
 obtain ⟨k, hk, rfl, hall, hb⟩ := hrel
 have Aa := kp hall
 clear hall
 by_cases hlt : k < n
 ·obtain ⟨b, off, v, rfl, hbB, hck, hdk⟩ := (HA.o.below hb (lR _)).at (n := k) (by rw [HN.o]; exact hlt)
  obtain ⟨b', off', v', rfl, hbB', hck', hdk'⟩ := (Ag.o.below hb (lR _)).at (n := k) (by rw [HM.o]; exact hlt)
  obtain ⟨r, hr⟩ := eY (iAt rs k)
  obtain ⟨s, hs⟩ := eY (iAt ss k)
  obtain ⟨HRk, HSk⟩ := kq2 hr hs
  rw [hr] at hck hdk
  rw [hs] at hck' hdk'
  clear hr hs
  obtain ⟨hdk2, hdk2'⟩ := kq2 (hdk.mono hb.size) (hdk'.mono hb.size)
  obtain ⟨x1, x2, A2, c2, rfl, x3⟩ := hdk
  obtain ⟨x4, x5, A3, c3, rfl, x6⟩ := hdk'
  have h66 := fun W (hW : Bw wr W) => item66 r s (.slice A2 r.val.length c2) (.slice A3 s.val.length c3) W ((hdk2.o.below hW (lR _)).mono hW.size) ((hdk2'.o.below hW (lR _)).mono hW.size)
  obtain ⟨eqv, heqv⟩ := eY (by_ r s)
  rw [heqv] at h66
  have Ae := kp heqv
  clear heqv hdk2 hdk2'
  have Ad := kp (show by_ (iAt rs k) (iAt ss k) = eqv by rw [HRk.o, HSk.o]; exact Ae.o)
  clear HRk HSk Ae x1 x2 x3 x4 x5 x6
  obtain ⟨rm, rv, rr, rd⟩ := r
  obtain ⟨sm, sv, sr, sd⟩ := s
  simp only [aD_] at hck hck' h66
  generalize rv.length = n1 at *
  generalize sv.length = n2 at *
  clear rv sv
  obtain ⟨Af, Ab, H66⟩ := kq3 hck (hck'.below (below1 wr (.cells #[.int .i64 rm, .slice A2 n1 c2, .int .u64 rr, .int .u64 rd] 78)) (show b' < _ from lL hbB' hb.size)) h66
  clear hck hck' h66
  have hg : decide ((k : Int) < (n : Int)) = true := by simp; omega
  have hbn := dT_ wr (.cells #[.int .i64 rm, .slice A2 n1 c2, .int .u64 rr, .int .u64 rd] 78) (.cells #[.int .i64 sm, .slice A3 n2 c3, .int .u64 sr, .int .u64 sd] 78)
  have Ac := kp hbn
  clear hbn
  go_wp2_with (first
   | ((with_reducible refine wpList_load_agg (o := ⟨some 21, _, _, _, _, _⟩) rfl 78 _ rfl ⟨b, off + k * 4, none⟩ ?_ [.int .i64 rm, .slice A2 n1 c2, .int .u64 rr, .int .u64 rd] _ Af.o Tryz.underlying78 rfl (bH_ _ _ _ _) ?_); (· rfl))
   | ((with_reducible refine bJ_ (o := ⟨none, _, _, _, _, _⟩) rfl 87 (.tmp 8) (.tmp 21) rfl _ #[.int .i64 rm, .slice A2 n1 c2, .int .u64 rr, .int .u64 rd] 87 wr.heap.size ?_ ?_ ?_ (jI_ _ _ _ _) ?_ (item_one _ _ _ _ _ _) ?_); (· rfl); (· rfl); (· rfl); (· rfl))
   | ((with_reducible refine wpList_load_agg (o := ⟨some 25, _, _, _, _, _⟩) rfl 78 _ rfl ⟨b', off' + k * 4, none⟩ ?_ [.int .i64 sm, .slice A3 n2 c3, .int .u64 sr, .int .u64 sd] _ Ab.o Tryz.underlying78 rfl (bH_ _ _ _ _) ?_); (· rfl)))
  refine (H66.o _ Ac.o).mono ?_
  rintro e w4 ⟨rfl, hb4⟩
  have hb5 := (hb.trans (Ac.o.mono hb.size)).trans (hb4.mono (lT hb.size Ac.o.size))
  cases eqv
  ·go_wp2_with fail
   go_ret
   exact ⟨ah_ (by rw [<- HR.o]; exact (fL_ (by rw [HN.o]; exact hlt) Ad.o).symm), hb5⟩
  go_wp2_with fail
  go_roundw
  case rel => exact ⟨k + 1, by omega, by go_num, fun i hi => by (by_cases e : i = k; (rw [e]; exact Ad.o); exact Aa.o i (by omega)), hb5⟩
  simp [intOf]; omega
 obtain rfl : k = n := by omega
 have hg : decide ((k : Int) < (k : Int)) = false := by simp
 go_wp2_with fail
 go_ret
 exact ⟨ah_ (by rw [<- HR.o]; exact (eC_ (by rw [HN.o, HM.o]) (by rw [HN.o]; exact Aa.o)).symm), hb⟩
theorem items65 (A A' : Option Addr) (n m c c' : Nat) (rs ss : List ItemR) (w : World) (hn : rs.length = n) (hm : ss.length = m) (hl : n <= maxLen) (hl' : m <= maxLen) (hA : ItemsAt w w.heap.size A rs) (hA' : ItemsAt w w.heap.size A' ss) :
  Calls Tryz.prog 120 #[.slice A n c, .slice A' m c', .func (.func 121) #[] #[]] w fun e w' => e = .returned (.bool (bx_ rs ss)) /\ Bw w w' := by
 by_cases h : n = m
 ·subst h
  exact he_ A A' n c c' rs ss w hn hm hl hA hA'
 rw [eD_ (by omega)]
 exact ib_ A A' n m c c' w hl hl' h
structure RespR where
 op : Int
 err : Int
 items : List ItemR
 ver : Int
 count : Int
 nums : List Int
def respC (r : RespR) (vi vn : Value) : List Value := [.int .i64 r.op, .int .i64 r.err, vi, .int .u64 r.ver, .int .i64 r.count, vn]
def lE_ (w : World) (B : Nat) (v : Value) (xs : List ItemR) : Prop := xs.length <= maxLen /\ ∃ A c, v = .slice A xs.length c /\ ItemsAt w B A xs
def RespOk (w : World) (B : Nat) (r : RespR) (vi vn : Value) : Prop := lE_ w B vi r.items /\ SlV (Value.int .u64) w B vn r.nums
theorem RespOk.below {B B' : Nat} {w w' : World} {r : RespR} {vi vn : Value} (h : RespOk w B r vi vn) (hb : Below B' w w') (hB : B <= B') : RespOk w' B r vi vn := by
 obtain ⟨⟨h1, A, c, h2, h3⟩, h4⟩ := h
 exact ⟨⟨h1, A, c, h2, h3.below hb hB⟩, h4.below hb hB⟩
theorem RespOk.mono {B B' : Nat} {w : World} {r : RespR} {vi vn : Value} (h : RespOk w B r vi vn) (hB : B <= B') : RespOk w B' r vi vn := by
 obtain ⟨⟨h1, A, c, h2, h3⟩, h4⟩ := h
 exact ⟨⟨h1, A, c, h2, h3.mono hB⟩, h4.mono hB⟩
def bd_ (a b : RespR) : Bool := a.op == b.op && a.err == b.err && bx_ a.items b.items && a.ver == b.ver && a.count == b.count && decide (a.nums = b.nums)
theorem CellsAt.cell0 {w : World} {b : Nat} {cs : List Value} (h : CellsAt w ⟨b, 0, none⟩ cs) {j : Nat} {v : Value} (hj : cs[j]? = some v) : w.cell? ⟨b, j, none⟩ = some v := by
 have := h j v hj
 rwa [Addr.add_mid, Nat.zero_add] at this
theorem gu_ (w : World) (l l' : List Value) (t t' : TypeId) : CellsAt ((w.alloc (.cells l.toArray t)).alloc (.cells l'.toArray t')) ⟨w.heap.size, 0, none⟩ l /\ CellsAt ((w.alloc (.cells l.toArray t)).alloc (.cells l'.toArray t')) ⟨w.heap.size + 1, 0, none⟩ l' /\ ((w.alloc (.cells l.toArray t)).alloc (.cells l'.toArray t')).heap.size = w.heap.size + 2 /\ Bw w ((w.alloc (.cells l.toArray t)).alloc (.cells l'.toArray t')) :=
 ⟨(dr_ w l _ t rfl).below (below1 _ _) (by simp), dr_ _ l' _ t' (by simp), by simp, dT_ w _ _⟩
theorem km_ (a b : RespR) (vi vn vi' vn' : Value) (w : World) (ha : RespOk w w.heap.size a vi vn) (hb : RespOk w w.heap.size b vi' vn') :
  Calls Tryz.prog 68 #[.agg (respC a vi vn).toArray, .agg (respC b vi' vn').toArray] w fun e w' => e = .returned (.bool (bd_ a b)) /\ Bw w w' := by
 obtain ⟨h1, h2, h3, h4⟩ := gu_ w (respC a vi vn) (respC b vi' vn') 40 40
 obtain ⟨⟨ai1, A, c, rfl, ai2⟩, an1, A2, c2, rfl, an2⟩ := (ha.below h4 (lR _)).mono h4.size
 obtain ⟨⟨bi1, A', c', rfl, bi2⟩, bn1, A2', c2', rfl, bn2⟩ := (hb.below h4 (lR _)).mono h4.size
 clear ha hb
 obtain ⟨ao, ae, ais, av, ac, ans⟩ := a
 obtain ⟨bo, be, bis, bv, bc, bns⟩ := b
 simp only [respC] at *
 have H65 := kp (items65 A A' _ _ c c' ais bis _ rfl rfl ai1 bi1 ai2 bi2)
 obtain ⟨res, hres⟩ := eY (bd_ ⟨ao, ae, ais, av, ac, ans⟩ ⟨bo, be, bis, bv, bc, bns⟩)
 rw [hres]
 simp only [bd_] at hres
 obtain ⟨g2, hg2⟩ := eY (bx_ ais bis)
 rw [hg2] at hres H65
 have H67 := kp (fun W (hW : Below ((w.alloc (.cells #[.int .i64 ao, .int .i64 ae, .slice A ais.length c, .int .u64 av, .int .i64 ac, .slice A2 ans.length c2] 40)).alloc (.cells #[.int .i64 bo, .int .i64 be, .slice A' bis.length c', .int .u64 bv, .int .i64 bc, .slice A2' bns.length c2'] 40)).heap.size ((w.alloc (.cells #[.int .i64 ao, .int .i64 ae, .slice A ais.length c, .int .u64 av, .int .i64 ac, .slice A2 ans.length c2] 40)).alloc (.cells #[.int .i64 bo, .int .i64 be, .slice A' bis.length c', .int .u64 bv, .int .i64 bc, .slice A2' bns.length c2'] 40)) W) =>
  jy_ A2 A2' ans bns _ _ c2 c2' W rfl rfl an1 bn1 ((an2.below hW (lR _)).mono hW.size) ((bn2.below hW (lR _)).mono hW.size))
 obtain ⟨g5, hg5⟩ := eY (decide (ans = bns))
 rw [hg5] at hres
 rw [hg5] at H67
 clear hg2 hg5 ai1 ai2 an1 an2 bi1 bi2 bn1 bn2
 generalize ais.length = n1 at *
 generalize bis.length = n2 at *
 generalize ans.length = n3 at *
 generalize bns.length = n4 at *
 clear ais bis ans bns
 obtain ⟨HR, HB, Ad, Ac, Ab⟩ := kq5 hres h4 h1 h2 h3
 clear hres h1 h2 h3 h4
 go_enter Tryz.func68, Tryz.ntmps68
 cases t0 : (ao == bo)
 ·go_wp2_with fail
  go_ret
  exact ⟨ah_ (by rw [<- HR.o]; simp [t0]), HB.o⟩
 cases t1 : (ae == be)
 ·go_wp2_with fail
  go_ret
  exact ⟨ah_ (by rw [<- HR.o]; simp [t0, t1]), HB.o⟩
 go_wp2_with fail
 refine H65.o.mono ?_
 rintro e w1 ⟨rfl, hb1⟩
 have Aa := kp (HB.o.trans (hb1.mono HB.o.size))
 have hc1 := Ad.o.below hb1 (show w.heap.size < _ by rw [Ab.o]; omega)
 have hc2 := Ac.o.below hb1 (show w.heap.size + 1 < _ by rw [Ab.o]; omega)
 have f13 := hc1.cell0 (j := 3) rfl
 have f14 := hc1.cell0 (j := 4) rfl
 have f15 := hc1.cell0 (j := 5) rfl
 have f23 := hc2.cell0 (j := 3) rfl
 have f24 := hc2.cell0 (j := 4) rfl
 have f25 := hc2.cell0 (j := 5) rfl
 have H67' := kp (H67.o w1 hb1)
 clear hb1 hc1 hc2 H67 H65
 cases g2
 ·go_wp2_with fail
  go_ret
  exact ⟨ah_ (by rw [<- HR.o]; simp), Aa.o⟩
 cases t3 : (av == bv)
 ·go_wp2_with fail
  go_ret
  exact ⟨ah_ (by rw [<- HR.o]; simp [t3]), Aa.o⟩
 cases t4 : (ac == bc)
 ·go_wp2_with fail
  go_ret
  exact ⟨ah_ (by rw [<- HR.o]; simp [t4]), Aa.o⟩
 go_wp2_with fail
 refine H67'.o.mono ?_
 rintro e w2 ⟨rfl, q, rfl⟩
 go_wp2_with fail
 go_ret
 exact ⟨ah_ (by rw [<- HR.o]; simp [t0, t1, t3, t4]), ⟨Aa.o.os, Aa.o.tape, Aa.o.output, Aa.o.size, Aa.o.block⟩⟩
theorem hH_ {ty : TypeId} (ha : ∀ W, (isAgg ty).run Tryz.prog W = .ok false W) (W : World) (ad : Addr) (v : Value) (hc : W.cell? ad = some v) : (loadVar ty ad).run Tryz.prog W = .ok v W := by
 simp [loadVar, go_sem, hc, ha]
theorem aa_ {ops : Array Oper} {C : World -> Prop} {Q : Act -> Prop} {a : Act} {o : Oper} {rest : List Oper} (ty : TypeId) (x : Operand) (ho : o.op = .load ty x)
  (ad : Addr) (hx : a.eval x = .pointer (some ad)) (v : Value) (hc : ∀ W, C W -> (loadVar ty ad).run Tryz.prog W = .ok v W)
  (hw : Region.wanted o (yielded ops a.tmps) = true)
  (h : wpQuiet Tryz.prog ops C Q rest (a.put o.dst v)) : wpQuiet Tryz.prog ops C Q (o :: rest) a := by
 refine wpQuiet_step fun K hK => ?_
 rw [if_pos hw]
 refine ⟨v, fun W hW => ?_, hK _ h⟩
 unfold Oper.quietAt execOp
 simp only [ho, hx, Instr.loadAt, Instr.sureAddr, Sem.run_bind, Sem.run_pure, Result.andThen_ok, hc W hW]
 exact ⟨rfl, rfl⟩
theorem cell_kept {ty : TypeId} (ha : ∀ W, (isAgg ty).run Tryz.prog W = .ok false W) {w : World} {ad : Addr} {v : Value} (h : w.cell? ad = some v) : ∀ W, (∃ p : Regrown, W = Sort.grow (redrawn w p.d) p.os) -> (loadVar ty ad).run Tryz.prog W = .ok v W := by
 rintro W ⟨p, rfl⟩
 exact hH_ ha _ _ _ (cell_regrown h _ _)
theorem resp45 (a b : RespR) (vi vn vi' vn' : Value) (w : World) (ha : RespOk w w.heap.size a vi vn) (hb : RespOk w w.heap.size b vi' vn') :
  Calls Tryz.prog 24 #[.agg (respC a vi vn).toArray, .agg (respC b vi' vn').toArray] w fun e w' => e = .returned (.bool (bd_ a b)) /\ Bw w w' := by
 obtain ⟨h1, h2, h3, h4⟩ := gu_ w (respC a vi vn) (respC b vi' vn') 40 40
 obtain ⟨⟨ai1, A, c, rfl, ai2⟩, an1, A2, c2, rfl, an2⟩ := (ha.below h4 (lR _)).mono h4.size
 obtain ⟨⟨bi1, A', c', rfl, bi2⟩, bn1, A2', c2', rfl, bn2⟩ := (hb.below h4 (lR _)).mono h4.size
 clear ha hb
 obtain ⟨ao, ae, ais, av, ac, ans⟩ := a
 obtain ⟨bo, be, bis, bv, bc, bns⟩ := b
 simp only [respC] at *
 obtain ⟨res, hres⟩ := eY (bd_ ⟨ao, ae, ais, av, ac, ans⟩ ⟨bo, be, bis, bv, bc, bns⟩)
 rw [hres]
 simp only [bd_] at hres
 obtain ⟨W0, hW0⟩ := eY ((w.alloc (.cells #[.int .i64 ao, .int .i64 ae, .slice A ais.length c, .int .u64 av, .int .i64 ac, .slice A2 ans.length c2] 40)).alloc (.cells #[.int .i64 bo, .int .i64 be, .slice A' bis.length c', .int .u64 bv, .int .i64 bc, .slice A2' bns.length c2'] 40))
 have Aa := kp hW0
 rw [hW0] at h1 h2 h3 h4 ai2 an2 bi2 bn2
 obtain ⟨AI, AN, BI, BN, Ae, Ad, Ac, HB, HR⟩ := kq9 ai2 an2 bi2 bn2 h1 h2 h3 h4 hres
 obtain ⟨n1, hn1⟩ := eY ais.length
 obtain ⟨n2, hn2⟩ := eY bis.length
 obtain ⟨n3, hn3⟩ := eY ans.length
 obtain ⟨n4, hn4⟩ := eY bns.length
 rw [hn1] at ai1
 rw [hn2] at bi1
 rw [hn3] at an1
 rw [hn4] at bn1
 have l1 : n1 <= 9223372036854775807 := by unfold maxLen at ai1; omega
 have l2 : n2 <= 9223372036854775807 := by unfold maxLen at bi1; omega
 have l3 : n3 <= 9223372036854775807 := by unfold maxLen at an1; omega
 have l4 : n4 <= 9223372036854775807 := by unfold maxLen at bn1; omega
 simp only [hn1, hn2, hn3, hn4] at Ae Ad Aa ⊢
 obtain ⟨N1, N2, N3, N4⟩ := kq4 hn1 hn2 hn3 hn4
 clear hres h1 h2 h3 h4 hW0 ai1 ai2 an1 an2 bi1 bi2 bn1 bn2 hn1 hn2 hn3 hn4
 go_enter Tryz.func24, Tryz.ntmps24
 cases t0 : (ao != bo)
 case true =>
  go_wp2_with fail
  go_ret
  exact ⟨ah_ (by rw [<- HR.o]; simp [bne] at t0; simp [t0]), by rw [Aa.o]; exact HB.o⟩
 cases t1 : (ae != be)
 case true =>
  go_wp2_with fail
  go_ret
  exact ⟨ah_ (by rw [<- HR.o]; simp [bne] at t1; simp [t1]), by rw [Aa.o]; exact HB.o⟩
 cases t2 : (av != bv)
 case true =>
  go_wp2_with fail
  go_ret
  exact ⟨ah_ (by rw [<- HR.o]; simp [bne] at t2; simp [t2]), by rw [Aa.o]; exact HB.o⟩
 cases t3 : (ac != bc)
 case true =>
  go_wp2_with fail
  go_ret
  exact ⟨ah_ (by rw [<- HR.o]; simp [bne] at t3; simp [t3]), by rw [Aa.o]; exact HB.o⟩
 by_cases e4 : n1 = n2
 case neg =>
  have t4 : ((n1 : Int) != (n2 : Int)) = true := by simp; omega
  have hi : bx_ ais bis = false := eD_ (by rw [N1.o, N2.o]; exact e4)
  go_wp2_with fail
  go_ret
  exact ⟨ah_ (by rw [<- HR.o]; simp [hi]), by rw [Aa.o]; exact HB.o⟩
 subst e4
 have t4 : ((n1 : Int) != (n1 : Int)) = false := by simp
 by_cases e5 : n3 = n4
 case neg =>
  have t5 : ((n3 : Int) != (n4 : Int)) = true := by simp; omega
  have hi : decide (ans = bns) = false := eF (by rintro rfl; exact e5 (N3.o.symm.trans N4.o))
  go_wp2_with fail
  go_ret
  exact ⟨ah_ (by rw [<- HR.o]; simp [hi]), by rw [Aa.o]; exact HB.o⟩
 subst e5
 have t5 : ((n3 : Int) != (n3 : Int)) = false := by simp
 have HRes := kp (show (bx_ ais bis && decide (ans = bns)) = res by
  rw [<- HR.o]
  simp [bne] at t0 t1 t2 t3
  simp [t0, t1, t2, t3])
 clear HR
 go_upto_region 3 with (fail)
 rw [Aa.o]
 clear t0 t1 t2 t3
 go_wp2_with fail
 go_loopw [5] (fun j wr => ∃ k : Nat, k <= n1 /\ j = .int .i64 k /\ (∀ i, i < k -> by_ (iAt ais i) (iAt bis i) = true) /\ Bw W0 wr) (fun j _ => n1 - (intOf j).toNat)
 case atStart => exact ⟨0, Nat.zero_le _, rfl, fun i hi => absurd hi (by omega), BR _ _⟩
 obtain ⟨k, hk, rfl, hall, hb⟩ := hrel
 have Ab := kp hall
 clear hall
 have hc1 := Ae.o.below hb (show w.heap.size < _ by rw [Ac.o]; omega)
 have hc2 := Ad.o.below hb (show w.heap.size + 1 < _ by rw [Ac.o]; omega)
 have f12 := hc1.cell0 (j := 2) rfl
 have f22 := hc2.cell0 (j := 2) rfl
 obtain ⟨Ai, Ah⟩ := kq2 hc1 hc2
 clear hc1 hc2
 by_cases hlt : k < n1
 ·obtain ⟨b, off, v, rfl, hbB, hck, hdk⟩ := (AI.o.below hb (lR _)).at (n := k) (by rw [N1.o]; exact hlt)
  obtain ⟨b', off', v', rfl, hbB', hck', hdk'⟩ := (BI.o.below hb (lR _)).at (n := k) (by rw [N2.o]; exact hlt)
  obtain ⟨r, hr⟩ := eY (iAt ais k)
  obtain ⟨s, hs⟩ := eY (iAt bis k)
  obtain ⟨HRk, HSk⟩ := kq2 hr hs
  rw [hr] at hck hdk
  rw [hs] at hck' hdk'
  clear hr hs
  obtain ⟨hdk2, hdk2'⟩ := kq2 (hdk.mono hb.size) (hdk'.mono hb.size)
  obtain ⟨x1, x2, A3, c3, rfl, x3⟩ := hdk
  obtain ⟨x4, x5, A4, c4, rfl, x6⟩ := hdk'
  have h69 := fun W (hW : Bw wr W) => item69 r s (.slice A3 r.val.length c3) (.slice A4 s.val.length c4) W ((hdk2.o.below hW (lR _)).mono hW.size) ((hdk2'.o.below hW (lR _)).mono hW.size)
  obtain ⟨eqv, heqv⟩ := eY (by_ r s)
  rw [heqv] at h69
  have Ag := kp heqv
  clear heqv hdk2 hdk2'
  have Af := kp (show by_ (iAt ais k) (iAt bis k) = eqv by rw [HRk.o, HSk.o]; exact Ag.o)
  clear HRk HSk Ag x1 x2 x3 x4 x5 x6
  obtain ⟨rm, rv, rr, rd⟩ := r
  obtain ⟨sm, sv, sr, sd⟩ := s
  simp only [aD_] at hck hck' h69
  generalize rv.length = m1 at *
  generalize sv.length = m2 at *
  clear rv sv
  obtain ⟨Hk, Hk', H69⟩ := kq3 hck.regrown hck'.regrown h69
  clear hck hck' h69
  have hg : decide ((k : Int) < (n1 : Int)) = true := by simp; omega
  obtain ⟨F1, F2⟩ := kq2 (cell_kept Tryz.isAgg37 f12) (cell_kept Tryz.isAgg37 f22)
  go_wp2_with fail
  refine wp_region_quiet_below (by kernel_rfl) (by kernel_rfl) ?_
  repeat (first
   | ((with_reducible refine aa_ (o := ⟨some 59, _, _, _, _, _⟩) 37 _ rfl ⟨w.heap.size, 2, none⟩ ?_ (.slice (some ⟨b, off, none⟩) n1 c) F1.o ?_ ?_); (· rfl); (· rfl); simp only [Act.put, z1, z2, z3])
   | ((with_reducible refine aa_ (o := ⟨some 64, _, _, _, _, _⟩) 37 _ rfl ⟨w.heap.size + 1, 2, none⟩ ?_ (.slice (some ⟨b', off', none⟩) n1 c') F2.o ?_ ?_); (· rfl); (· rfl); simp only [Act.put, z1, z2, z3])
   | ((with_reducible refine ay_ (o := ⟨some 62, _, _, _, _, _⟩) rfl 78 _ rfl ⟨b, off + k * 4, none⟩ ?_ [.int .i64 rm, .slice A3 m1 c3, .int .u64 rr, .int .u64 rd] _ Hk.o Tryz.underlying78 rfl (bH_ _ _ _ _) ?_); (· rfl); simp only [Act.put, z1, z2, z3])
   | ((with_reducible refine ay_ (o := ⟨some 67, _, _, _, _, _⟩) rfl 78 _ rfl ⟨b', off' + k * 4, none⟩ ?_ [.int .i64 sm, .slice A4 m2 c4, .int .u64 sr, .int .u64 sd] _ Hk'.o Tryz.underlying78 rfl (bH_ _ _ _ _) ?_); (· rfl); simp only [Act.put, z1, z2, z3])
   | go_big_quiet_step ((go_at_call 59; exact Calls.regrown_of (H69.o _ (below_regrown _ _ _)))))
  refine wpQuiet_nil ?_
  intro W3 hW3
  have hb3 := hb.trans ((an_ hW3).mono hb.size)
  clear hW3
  cases eqv
  ·go_wp2_with fail
   go_ret
   have hi : bx_ ais bis = false := fL_ (by rw [N1.o]; exact hlt) Af.o
   exact ⟨ah_ (by rw [<- HRes.o, hi]; rfl), HB.o.trans (hb3.mono HB.o.size)⟩
  go_wp2_with fail
  go_roundw
  case rel => exact ⟨k + 1, by omega, by go_num, fun i hi => by (by_cases e : i = k; (rw [e]; exact Af.o); exact Ab.o i (by omega)), hb3⟩
  simp [intOf]; omega
 obtain rfl : k = n1 := by omega
 have hg : decide ((k : Int) < (k : Int)) = false := by simp
 have hi : bx_ ais bis = true := eC_ (by rw [N1.o, N2.o]) (by rw [N1.o]; exact Ab.o)
 have HI := kp hi
 clear hi
 go_wp2_with fail
 clear f12 f22
 go_loopw [6] (fun j wr2 => ∃ m : Nat, m <= n3 /\ j = .int .i64 m /\ (∀ i, i < m -> ans[i]? = bns[i]?) /\ Bw W0 wr2) (fun j _ => n3 - (intOf j).toNat)
 case atStart => exact ⟨0, Nat.zero_le _, rfl, fun i hi => absurd hi (by omega), hb⟩
 obtain ⟨m, hm, rfl, hE, hb2⟩ := hrel
 have HE := kp hE
 clear hE
 have hc1 := Ae.o.below hb2 (show w.heap.size < _ by rw [Ac.o]; omega)
 have hc2 := Ad.o.below hb2 (show w.heap.size + 1 < _ by rw [Ac.o]; omega)
 have f15 := hc1.cell0 (j := 5) rfl
 have f25 := hc2.cell0 (j := 5) rfl
 clear hc1 hc2
 by_cases hlt2 : m < n3
 ·obtain ⟨x, hx⟩ : ∃ x, ans[m]? = some x := ⟨ans[m]'(by rw [N3.o]; exact hlt2), gE _⟩
  obtain ⟨y, hy⟩ : ∃ y, bns[m]? = some y := ⟨bns[m]'(by rw [N4.o]; exact hlt2), gE _⟩
  obtain ⟨b, o, rfl, hbX, c1⟩ := (AN.o.below hb2 (lR _)) m x hx
  obtain ⟨b', o', rfl, hbY, c2⟩ := (BN.o.below hb2 (lR _)) m y hy
  obtain ⟨KX, KY⟩ := kq2 hx hy
  clear hx hy
  have hg2 : decide ((m : Int) < (n3 : Int)) = true := by simp; omega
  by_cases hxy : x = y
  ·subst hxy
   have h2 : (x != x) = false := by simp
   go_wp2_with fail
   go_quiet (fail)
   go_wp2
   go_roundw
   case rel => exact ⟨m + 1, by omega, by go_num, fun i hi => by
    by_cases e : i = m
    ·subst e; rw [KX.o, KY.o]
    exact HE.o i (by omega), ⟨hb2.os, hb2.tape, hb2.output, hb2.size, hb2.block⟩⟩
   simp [intOf]; omega
  have h2 : (x != y) = true := by simp [hxy]
  go_wp2_with fail
  go_quiet (fail)
  go_wp2
  go_ret
  have hne : decide (ans = bns) = false := eF (by
   rintro rfl
   rw [KX.o] at KY
   exact hxy (by simpa using KY.o))
  have hbe := HB.o.trans (hb2.mono HB.o.size)
  exact ⟨ah_ (by rw [<- HRes.o, hne, Bool.and_false]), ⟨hbe.os, hbe.tape, hbe.output, hbe.size, hbe.block⟩⟩
 obtain rfl : m = n3 := by omega
 have hg2 : decide ((m : Int) < (m : Int)) = false := by simp
 go_wp2_with fail
 go_ret
 have hyes : decide (ans = bns) = true := eT_ (cK_ N3.o N4.o HE.o)
 exact ⟨ah_ (by rw [<- HRes.o, hyes, HI.o]; rfl), HB.o.trans (hb2.mono HB.o.size)⟩
end Go.Proofs.YtnjhpgmbfblgaaaGreat.Ord
