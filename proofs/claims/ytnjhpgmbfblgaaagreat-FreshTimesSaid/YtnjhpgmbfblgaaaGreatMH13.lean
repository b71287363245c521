/- Rows given by their list of cells; how they and maps lie apart; step laws for structs. -/
import Derived.Test.YtnjhpgmbfblgaaaGreatMH3
set_option linter.unusedVariables false
set_option linter.unusedSimpArgs false
namespace Go.Proofs.YtnjhpgmbfblgaaaGreat.Ord
open Go.RowKit
def RowL (w : World) (b : Nat) (t : TypeId) (l : List Value) : Prop := w.rowIs b t l.length (au_ l)
section
variable {w w' : World} {b b' : Nat} {t t' : TypeId} {l l' : List Value}
theorem RowL.cell (h : RowL w b t l) {j : Nat} {v : Value} (hj : l[j]? = some v) : w.cell? ⟨b, j, none⟩ = some v := by
 have hl := (gS.1 hj).1
 rw [World.rowIs.cell h hl]
 simp [au_, List.getD, hj]
theorem RowL.frozen (h : RowL w b t l) (j : Nat) : w.frozen? ⟨b, j, none⟩ = false := World.rowIs.frozen h j
theorem RowL.lt (h : RowL w b t l) : b < w.heap.size := World.rowIs.lt h
theorem RowL.of_block (h : RowL w b t l) (e : w'.heap[b]? = w.heap[b]?) : RowL w' b t l := World.rowIs.of_block h e
theorem RowL.kept {L : List Nat} (h : RowL w b t l) (hk : Kept L w w') (hb : b ∉ L) : RowL w' b t l := hk.row hb h
theorem RowL.below {B : Nat} (h : RowL w b t l) (hk : Below B w w') (hb : b < B) : RowL w' b t l := h.of_block (hk.block b hb)
theorem RowL.alloc (h : RowL w b t l) (o : Obj) : RowL (w.alloc o) b t l := World.rowIs.alloc h o
theorem RowL.new (w : World) (t : TypeId) (l : List Value) : RowL (w.alloc (.cells l.toArray t)) w.heap.size t l := ar_ w l t
theorem kR_ (l : List Value) (j : Nat) (v : Value) (k : Nat) (hk : k < l.length) : (if k = j then v else au_ l k) = au_ (l.set j v) k := by
 by_cases e : k = j
 ·subst e
  simp [au_, List.getD, hk]
 have e' : j ≠ k := fun h => e h.symm
 simp [au_, List.getD, e, e']
theorem RowL.set (h : RowL w b t l) (j : Nat) (v : Value) : RowL (w.setCell ⟨b, j, none⟩ v) b t (l.set j v) := by
 have h1 := World.rowIs.congr (World.rowIs.set h j v) (kR_ l j v)
 unfold RowL
 rw [List.length_set]
 exact h1
theorem RowL.setOther (h : RowL w b t l) {a : Addr} (ha : b ≠ a.block) (v : Value) : RowL (w.setCell a v) b t l := World.rowIs.setOther h ha v
def putL (l : List Value) : Nat -> List Value -> List Value
 | _, [] => l
 | o, v :: vs => putL (l.set o v) (o + 1) vs
theorem RowL.setCells : ∀ (vs : List Value) {o : Nat} {w : World} {l : List Value}, RowL w b t l -> RowL (w.setCells b o vs) b t (putL l o vs)
 | [], _, _, _, h => h
 | v :: vs, o, w, l, h => RowL.setCells vs (h.set o v)
theorem RowL.setCellsOther {vs : List Value} {o : Nat} (h : RowL w b t l) (hb : b ≠ b') : RowL (w.setCells b' o vs) b t l := rowIs_setCells_other hb vs o w h
theorem RowL.there (h : RowL w b t l) {o n : Nat} (hn : o + n <= l.length) : w.there b o n := fun j hj => by
 have h1 : o + j < l.length := by omega
 exact ⟨by rw [h.cell (gE h1)]; rfl, h.frozen _⟩
theorem RowL.cells (h : RowL w b t l) : CellsAt w ⟨b, 0, none⟩ l := av_ h l rfl fun i _ => rfl
theorem RowL.block (h : RowL w b t l) : ∃ c, w.heap[b]? = some (.cells c t (0, 0)) := by
 obtain ⟨c, h1, _⟩ := h
 exact ⟨c, h1⟩
theorem RowL.ne (h : RowL w b t l) (h' : RowL w b' t' l') (ht : t ≠ t') : b ≠ b' := by
 rintro rfl
 obtain ⟨c, h1⟩ := h.block
 obtain ⟨c', h2⟩ := h'.block
 rw [h1] at h2
 cases h2
 exact ht rfl
theorem RowL.ne_own {base : Nat} {e : TypeId} {size n : Nat} {v : Value} {xs : List Value} (h : RowL w b t l) (h' : w.ownsRow base e size v n xs) (ht : t ≠ e) : v.ownBlock ≠ some b := jt_ h' h ht
theorem MapAt.kept {L : List Nat} {f : Int -> Option Value} (h : MapAt w b f) (hk : Kept L w w') (hb : b ∉ L) : MapAt w' b f := h.of_block (hk.block b h.lt hb)
end
theorem below_drewn {B : Nat} {a b : World} (h : Below B a b) : Below B a b.drew := ⟨h.os, h.tape, h.output, h.size, h.block⟩
theorem aA_ {w w' : World} {v : Value} (h : w.grownBy w' v.ownBlock) : Kept v.ownBlock.toList w w' := ⟨h.os, h.tape, h.output, h.size, fun k hk hn => h.block k hk (fun e => hn (by simp; exact e.symm))⟩
section
variable {P : Program}
theorem al_ {w : World} {ops : Array Oper} {o : Oper} {a : Act} {K : Act -> World -> Prop} {Q : Exit -> Act -> World -> Prop} {E : Prop} (hgd : o.guard = none) (ty : TypeId) (x y : Operand) (ho : o.op = .store ty x y)
  (b off : Nat) (cells : Array Value) (hx : a.eval x = .pointer (some ⟨b, off, none⟩)) (hy : a.eval y = .agg cells)
  (ht : w.there b off cells.size) (hi : (P.info? ty).map (·.size) = some cells.size) (h1 : cells.all (·.oneCell') = true)
  (h : K (a.put o.dst undef) (w.setCells b off cells.toList)) :
  if Region.wanted o (yielded ops a.tmps) = true then Oper.wp P o a w K Q else E := by
 rw [if_pos (show Region.wanted o (yielded ops a.tmps) = true by simp [Region.wanted, hgd])]
 exact wp_store_mid ty x y ho b off cells hx hy ht hi h1 h
theorem a4_ {w : World} {ops : Array Oper} {o : Oper} {a : Act} {K : Act -> World -> Prop} {Q : Exit -> Act -> World -> Prop} {E : Prop} (hgd : o.guard = none) (s x : Operand) (t : TypeId)
  (ho : o.op = .call { callee := .builtin .append, args := #[s, x], argTypes := #[t, t] })
  (base : Nat) (e : TypeId) (z : Value) (size bytes : Nat) (ht : P.underlying t = some (.slice e)) (hinfo : (P.info? e).map (fun i => (i.zero, i.size, i.bytes)) = some (some z, size, bytes))
  (hzs : z.cells.size = size) (hsz : 0 < size)
  (v : Value) (n : Nat) (xs : List Value) (hs : a.eval s = v) (hown : w.ownsRow base e size v n xs)
  (ad : Addr) (m c : Nat) (news : List Value) (hx : a.eval x = .slice (some ad) m c) (hl : news.length = m * size) (hsrc : ∀ j u, news[j]? = some u -> w.cell? (ad.add j) = some u) (h1 : ∀ u ∈ news, u.oneCell' = true)
  (h63 : n + m <= maxLen) (hbytes : (n + m) * bytes <= 140737488355328) (hbase : base <= w.heap.size)
  (h : ∀ v' w', w'.ownsRow base e size v' (n + m) (xs ++ news) -> w.grownBy w' v.ownBlock -> (v'.ownBlock = v.ownBlock ∨ v'.ownBlock = some w.heap.size) -> K (a.put o.dst v') w') :
  if Region.wanted o (yielded ops a.tmps) = true then Oper.wp P o a w K Q else E := by
 rw [if_pos (show Region.wanted o (yielded ops a.tmps) = true by simp [Region.wanted, hgd])]
 obtain ⟨i, hi, hz, h4, h5⟩ := info_parts hinfo
 obtain ⟨v', w', hrun, h2, h3, _, h6⟩ := run_append_own_at (P := P) w base t o.type e i z size bytes ht hi hz h4 h5 hzs hsz v n xs hown ad m c news hl hsrc h1 h63 hbytes hbase
 unfold Oper.wp execOp
 simp only [ho, resolve, invoke, builtin, Sem.run_bind, Sem.run_pure, Result.andThen_ok, y1, y2, y3, hs, hx, hrun]
 exact h v' w' h2 h3 h6
end
set_option maxRecDepth 100000
set_option maxHeartbeats 16000000
inductive Part where
 | ver | cnt | one | item | many | nums
def bg_ : Part -> Nat
 | .ver => 353 | .cnt => 356 | .one => 358 | .item => 360 | .many => 365 | .nums => 367
def bj_ : Part -> Nat
 | .ver => 355 | .cnt => 357 | .one => 359 | .item => 362 | .many => 366 | .nums => 368
theorem kp_ (p : Part) : ∀ args w, (callFunc (bg_ p) args).run Tryz.prog w = .ok (.enter (bg_ p) args) w := by
 intro args w
 cases p <;> simp [bg_, callFunc, Tryz.func353, Tryz.f353, Tryz.func356, Tryz.f356, Tryz.func358, Tryz.f358, Tryz.func360, Tryz.f360, Tryz.func365, Tryz.f365, Tryz.func367, Tryz.f367]
theorem kZ_ (p : Part) : ∀ args w, (callFunc (bj_ p) args).run Tryz.prog w = .ok (.enter (bj_ p) args) w := by
 intro args w
 cases p <;> simp [bj_, callFunc, Tryz.func355, Tryz.f355, Tryz.func357, Tryz.f357, Tryz.func359, Tryz.f359, Tryz.func362, Tryz.f362, Tryz.func366, Tryz.f366, Tryz.func368, Tryz.f368]
def aj_ (op : Int) : List Part :=
 if op = 1 ∨ op = 2 ∨ op = 3 then [.ver, .cnt] else if op = 4 then [.one, .item] else if op = 5 then [.many, .item] else if op = 15 then [.nums] else [.cnt]
def isOp (op : Int) : Bool := decide (1 <= op /\ op <= 15)
def aq_ (p : Part) : List Value := [.func (.func (bg_ p)) #[] #[], .func (.func (bj_ p)) #[] #[]]
theorem aY_ (w : World) (t : TypeId) (l z : List Value) (h : l.length = z.length) : (w.alloc (.cells z.toArray t)).there w.heap.size 0 l.toArray.size := (RowL.new w t z).there (by simp; omega)
theorem aM_ (w : World) (t : TypeId) (l z : List Value) (h : l.length = z.length) : RowL ((w.alloc (.cells z.toArray t)).setCells w.heap.size 0 l) w.heap.size t l /\ Bw w ((w.alloc (.cells z.toArray t)).setCells w.heap.size 0 l) := by
 refine ⟨aC_ (n := l.length) (by rw [h]; exact RowL.new w t z) l rfl, ?_⟩
 exact (am_ (L := [w.heap.size]) (by simp) l 0 _ ((Kept.refl _ w).alloc _)).below (lR _) (by simp)
theorem aS_ : (Tryz.prog.info? 332).map (·.size) = some 2 := by kernel_rfl
theorem make_ver (w : World) : Calls Tryz.prog 298 #[] w fun e w' => e = .returned (.agg (aq_ .ver).toArray) /\ Bw w w' := by
 have HS := kp (aM_ w 332 (aq_ .ver) [.nilFunc, .nilFunc] rfl)
 obtain ⟨HC, HT⟩ := kq2 (HS.o.1.cells) (aY_ w 332 (aq_ .ver) [.nilFunc, .nilFunc] rfl)
 simp only [aq_, bg_, bj_] at HS HC HT ⊢
 go_enter Tryz.func298, Tryz.ntmps298
 go_wp2_with ((with_reducible refine ab_ (op := ⟨none, _, _, _, _, _⟩) rfl 332 _ _ rfl w.heap.size 0 #[.func (.func 353) #[] #[], .func (.func 355) #[] #[]] ?_ ?_ ?_ ?_ ?_ ?_); (· rfl); (· rfl); (· exact HT.o); (· exact aS_); (· simp [Value.oneCell']); intro w7 hw7)
 refine bodyPost_ret (v := .agg #[.func (.func 353) #[] #[], .func (.func 355) #[] #[]]) ?_ rfl ⟨rfl, HS.o.2⟩
 exact aE_ (p := 0) (ty := 332) rfl _ _ ⟨w.heap.size, 0, none⟩ _ rfl (af_ _ _ _ _ _ HC.o Tryz.underlying332 rfl aS_)
theorem gk_ (w : World) : Calls Tryz.prog 299 #[] w fun e w' => e = .returned (.agg (aq_ .cnt).toArray) /\ Bw w w' := by
 have HS := kp (aM_ w 332 (aq_ .cnt) [.nilFunc, .nilFunc] rfl)
 obtain ⟨HC, HT⟩ := kq2 (HS.o.1.cells) (aY_ w 332 (aq_ .cnt) [.nilFunc, .nilFunc] rfl)
 simp only [aq_, bg_, bj_] at HS HC HT ⊢
 go_enter Tryz.func299, Tryz.ntmps299
 go_wp2_with ((with_reducible refine ab_ (op := ⟨none, _, _, _, _, _⟩) rfl 332 _ _ rfl w.heap.size 0 #[.func (.func 356) #[] #[], .func (.func 357) #[] #[]] ?_ ?_ ?_ ?_ ?_ ?_); (· rfl); (· rfl); (· exact HT.o); (· exact aS_); (· simp [Value.oneCell']); intro w7 hw7)
 refine bodyPost_ret (v := .agg #[.func (.func 356) #[] #[], .func (.func 357) #[] #[]]) ?_ rfl ⟨rfl, HS.o.2⟩
 exact aE_ (p := 0) (ty := 332) rfl _ _ ⟨w.heap.size, 0, none⟩ _ rfl (af_ _ _ _ _ _ HC.o Tryz.underlying332 rfl aS_)
theorem make_one (w : World) : Calls Tryz.prog 300 #[] w fun e w' => e = .returned (.agg (aq_ .one).toArray) /\ Bw w w' := by
 have HS := kp (aM_ w 332 (aq_ .one) [.nilFunc, .nilFunc] rfl)
 obtain ⟨HC, HT⟩ := kq2 (HS.o.1.cells) (aY_ w 332 (aq_ .one) [.nilFunc, .nilFunc] rfl)
 simp only [aq_, bg_, bj_] at HS HC HT ⊢
 go_enter Tryz.func300, Tryz.ntmps300
 go_wp2_with ((with_reducible refine ab_ (op := ⟨none, _, _, _, _, _⟩) rfl 332 _ _ rfl w.heap.size 0 #[.func (.func 358) #[] #[], .func (.func 359) #[] #[]] ?_ ?_ ?_ ?_ ?_ ?_); (· rfl); (· rfl); (· exact HT.o); (· exact aS_); (· simp [Value.oneCell']); intro w7 hw7)
 refine bodyPost_ret (v := .agg #[.func (.func 358) #[] #[], .func (.func 359) #[] #[]]) ?_ rfl ⟨rfl, HS.o.2⟩
 exact aE_ (p := 0) (ty := 332) rfl _ _ ⟨w.heap.size, 0, none⟩ _ rfl (af_ _ _ _ _ _ HC.o Tryz.underlying332 rfl aS_)
theorem g4_ (w : World) : Calls Tryz.prog 301 #[] w fun e w' => e = .returned (.agg (aq_ .item).toArray) /\ Bw w w' := by
 have HS := kp (aM_ w 332 (aq_ .item) [.nilFunc, .nilFunc] rfl)
 obtain ⟨HC, HT⟩ := kq2 (HS.o.1.cells) (aY_ w 332 (aq_ .item) [.nilFunc, .nilFunc] rfl)
 simp only [aq_, bg_, bj_] at HS HC HT ⊢
 go_enter Tryz.func301, Tryz.ntmps301
 go_wp2_with ((with_reducible refine ab_ (op := ⟨none, _, _, _, _, _⟩) rfl 332 _ _ rfl w.heap.size 0 #[.func (.func 360) #[] #[], .func (.func 362) #[] #[]] ?_ ?_ ?_ ?_ ?_ ?_); (· rfl); (· rfl); (· exact HT.o); (· exact aS_); (· simp [Value.oneCell']); intro w7 hw7)
 refine bodyPost_ret (v := .agg #[.func (.func 360) #[] #[], .func (.func 362) #[] #[]]) ?_ rfl ⟨rfl, HS.o.2⟩
 exact aE_ (p := 0) (ty := 332) rfl _ _ ⟨w.heap.size, 0, none⟩ _ rfl (af_ _ _ _ _ _ HC.o Tryz.underlying332 rfl aS_)
theorem kO_ (w : World) : Calls Tryz.prog 302 #[] w fun e w' => e = .returned (.agg (aq_ .many).toArray) /\ Bw w w' := by
 have HS := kp (aM_ w 332 (aq_ .many) [.nilFunc, .nilFunc] rfl)
 obtain ⟨HC, HT⟩ := kq2 (HS.o.1.cells) (aY_ w 332 (aq_ .many) [.nilFunc, .nilFunc] rfl)
 simp only [aq_, bg_, bj_] at HS HC HT ⊢
 go_enter Tryz.func302, Tryz.ntmps302
 go_wp2_with ((with_reducible refine ab_ (op := ⟨none, _, _, _, _, _⟩) rfl 332 _ _ rfl w.heap.size 0 #[.func (.func 365) #[] #[], .func (.func 366) #[] #[]] ?_ ?_ ?_ ?_ ?_ ?_); (· rfl); (· rfl); (· exact HT.o); (· exact aS_); (· simp [Value.oneCell']); intro w7 hw7)
 refine bodyPost_ret (v := .agg #[.func (.func 365) #[] #[], .func (.func 366) #[] #[]]) ?_ rfl ⟨rfl, HS.o.2⟩
 exact aE_ (p := 0) (ty := 332) rfl _ _ ⟨w.heap.size, 0, none⟩ _ rfl (af_ _ _ _ _ _ HC.o Tryz.underlying332 rfl aS_)
theorem kN_ (w : World) : Calls Tryz.prog 303 #[] w fun e w' => e = .returned (.agg (aq_ .nums).toArray) /\ Bw w w' := by
 have HS := kp (aM_ w 332 (aq_ .nums) [.nilFunc, .nilFunc] rfl)
 obtain ⟨HC, HT⟩ := kq2 (HS.o.1.cells) (aY_ w 332 (aq_ .nums) [.nilFunc, .nilFunc] rfl)
 simp only [aq_, bg_, bj_] at HS HC HT ⊢
 go_enter Tryz.func303, Tryz.ntmps303
 go_wp2_with ((with_reducible refine ab_ (op := ⟨none, _, _, _, _, _⟩) rfl 332 _ _ rfl w.heap.size 0 #[.func (.func 367) #[] #[], .func (.func 368) #[] #[]] ?_ ?_ ?_ ?_ ?_ ?_); (· rfl); (· rfl); (· exact HT.o); (· exact aS_); (· simp [Value.oneCell']); intro w7 hw7)
 refine bodyPost_ret (v := .agg #[.func (.func 367) #[] #[], .func (.func 368) #[] #[]]) ?_ rfl ⟨rfl, HS.o.2⟩
 exact aE_ (p := 0) (ty := 332) rfl _ _ ⟨w.heap.size, 0, none⟩ _ rfl (af_ _ _ _ _ _ HC.o Tryz.underlying332 rfl aS_)
theorem fT_ (v : Value) (w : World) : Calls Tryz.prog 297 #[v] w fun e w' => e = .returned v /\ w' = w := by
 go_enter Tryz.func297, Tryz.ntmps297
 go_wp2_with fail
 go_ret
 exact ⟨rfl, rfl⟩
def bY_ (op : Int) (w : World) (e : Ending) (w' : World) : Prop :=
 ∃ G c, e = .returned (.tuple #[.slice (some ⟨G, 0, none⟩) (aj_ op).length c, .bool (isOp op)]) /\ RowL w' G 332 ((aj_ op).flatMap aq_) /\ w.heap.size <= G /\ Bw w w'
theorem parts_w (op : Int) (ho : op = 1 ∨ op = 2 ∨ op = 3) (w : World) : Calls Tryz.prog 232 #[.int .i64 op] w (bY_ op w) := by
 rcases ho with rfl | rfl | rfl
 all_goals
  go_enter Tryz.func232, Tryz.ntmps232
  go_wp2_with fail
  refine (make_ver _).mono ?_
  rintro e w1 ⟨rfl, hb1⟩
  have Ab := kp hb1
  clear hb1
  simp only [aq_, bg_, bj_]
  go_wp2_with fail
  refine (gk_ _).mono ?_
  rintro e w2 ⟨rfl, hb2⟩
  have Aa := kp (Ab.o.trans (hb2.mono Ab.o.size))
  clear hb2
  simp only [aq_, bg_, bj_]
  obtain ⟨HR, HB⟩ := kq2 (RowL.new w2 332 (aq_ .ver ++ aq_ .cnt)) (below1 w2 (.cells (aq_ .ver ++ aq_ .cnt).toArray 332))
  simp only [aq_, bg_, bj_, List.cons_append, List.nil_append] at HR HB
  go_wp2_with fail
  refine (fT_ _ _).mono ?_
  rintro e w3 ⟨rfl, rfl⟩
  go_wp2_with fail
  go_ret2
  exact ⟨_, _, rfl, HR.o, Aa.o.size, Aa.o.trans (HB.o.mono Aa.o.size)⟩
theorem parts_i (op : Int) (ho : op = 4) (w : World) : Calls Tryz.prog 232 #[.int .i64 op] w (bY_ op w) := by
 rcases ho with rfl
 all_goals
  go_enter Tryz.func232, Tryz.ntmps232
  go_wp2_with fail
  refine (make_one _).mono ?_
  rintro e w1 ⟨rfl, hb1⟩
  have Ab := kp hb1
  clear hb1
  simp only [aq_, bg_, bj_]
  go_wp2_with fail
  refine (g4_ _).mono ?_
  rintro e w2 ⟨rfl, hb2⟩
  have Aa := kp (Ab.o.trans (hb2.mono Ab.o.size))
  clear hb2
  simp only [aq_, bg_, bj_]
  obtain ⟨HR, HB⟩ := kq2 (RowL.new w2 332 (aq_ .one ++ aq_ .item)) (below1 w2 (.cells (aq_ .one ++ aq_ .item).toArray 332))
  simp only [aq_, bg_, bj_, List.cons_append, List.nil_append] at HR HB
  go_wp2_with fail
  refine (fT_ _ _).mono ?_
  rintro e w3 ⟨rfl, rfl⟩
  go_wp2_with fail
  go_ret2
  exact ⟨_, _, rfl, HR.o, Aa.o.size, Aa.o.trans (HB.o.mono Aa.o.size)⟩
theorem parts_m (op : Int) (ho : op = 5) (w : World) : Calls Tryz.prog 232 #[.int .i64 op] w (bY_ op w) := by
 rcases ho with rfl
 all_goals
  go_enter Tryz.func232, Tryz.ntmps232
  go_wp2_with fail
  refine (kO_ _).mono ?_
  rintro e w1 ⟨rfl, hb1⟩
  have Ab := kp hb1
  clear hb1
  simp only [aq_, bg_, bj_]
  go_wp2_with fail
  refine (g4_ _).mono ?_
  rintro e w2 ⟨rfl, hb2⟩
  have Aa := kp (Ab.o.trans (hb2.mono Ab.o.size))
  clear hb2
  simp only [aq_, bg_, bj_]
  obtain ⟨HR, HB⟩ := kq2 (RowL.new w2 332 (aq_ .many ++ aq_ .item)) (below1 w2 (.cells (aq_ .many ++ aq_ .item).toArray 332))
  simp only [aq_, bg_, bj_, List.cons_append, List.nil_append] at HR HB
  go_wp2_with fail
  refine (fT_ _ _).mono ?_
  rintro e w3 ⟨rfl, rfl⟩
  go_wp2_with fail
  go_ret2
  exact ⟨_, _, rfl, HR.o, Aa.o.size, Aa.o.trans (HB.o.mono Aa.o.size)⟩
theorem parts_n (op : Int) (ho : op = 15) (w : World) : Calls Tryz.prog 232 #[.int .i64 op] w (bY_ op w) := by
 rcases ho with rfl
 all_goals
  go_enter Tryz.func232, Tryz.ntmps232
  go_wp2_with fail
  refine (kN_ _).mono ?_
  rintro e w1 ⟨rfl, hb1⟩
  have Aa := kp hb1
  clear hb1
  simp only [aq_, bg_, bj_]
  obtain ⟨HR, HB⟩ := kq2 (RowL.new w1 332 (aq_ .nums)) (below1 w1 (.cells (aq_ .nums).toArray 332))
  simp only [aq_, bg_, bj_] at HR HB
  go_wp2_with fail
  refine (fT_ _ _).mono ?_
  rintro e w3 ⟨rfl, rfl⟩
  go_wp2_with fail
  go_ret2
  exact ⟨_, _, rfl, HR.o, Aa.o.size, Aa.o.trans (HB.o.mono Aa.o.size)⟩
theorem parts_c (op : Int) (ho : op ≠ 1 /\ op ≠ 2 /\ op ≠ 3 /\ op ≠ 4 /\ op ≠ 5 /\ op ≠ 15) (w : World) : Calls Tryz.prog 232 #[.int .i64 op] w (bY_ op w) := by
 obtain ⟨h1, h2, h3, h4, h5, h6⟩ := ho
 have hp : aj_ op = [.cnt] := by simp [aj_, h1, h2, h3, h4, h5, h6]
 have e1 : (op == 1) = false := by simpa using h1
 have e2 : (op == 2) = false := by simpa using h2
 have e3 : (op == 3) = false := by simpa using h3
 have e4 : (op == 4) = false := by simpa using h4
 have e5 : (op == 5) = false := by simpa using h5
 have e6 : (op == 15) = false := by simpa using h6
 have HI : ∀ b, isOp op = b -> Hid (isOp op = b) := fun b h => kp h
 unfold bY_
 rw [hp]
 clear h1 h2 h3 h4 h5 hp
 have key : ∀ b, isOp op = b -> Calls Tryz.prog 232 #[.int .i64 op] w fun e w' => ∃ G c, e = .returned (.tuple #[.slice (some ⟨G, 0, none⟩) 1 c, .bool b]) /\ RowL w' G 332 (aq_ .cnt) /\ w.heap.size <= G /\ Bw w w' := by
  intro b hb
  cases g1 : decide (0 < op)
  ·have hb' : b = false := by rw [<- hb]; simp [isOp] at g1 ⊢; omega
   subst hb'
   clear hb HI h6
   go_enter Tryz.func232, Tryz.ntmps232
   go_wp2_with fail
   refine (gk_ _).mono ?_
   rintro e w1 ⟨rfl, hb1⟩
   have Aa := kp hb1
   clear hb1
   simp only [aq_, bg_, bj_]
   obtain ⟨HR, HB⟩ := kq2 (RowL.new w1 332 (aq_ .cnt)) (below1 w1 (.cells (aq_ .cnt).toArray 332))
   simp only [aq_, bg_, bj_] at HR HB
   go_wp2_with fail
   refine (fT_ _ _).mono ?_
   rintro e w3 ⟨rfl, rfl⟩
   go_wp2_with fail
   go_ret2
   exact ⟨_, _, rfl, HR.o, Aa.o.size, Aa.o.trans (HB.o.mono Aa.o.size)⟩
  cases g2 : decide (op < 15)
  all_goals
   first
    | (have hb' : b = false := by rw [<- hb]; simp [isOp] at g1 g2 ⊢; omega
       subst hb')
    | (have hb' : b = true := by rw [<- hb]; simp [isOp] at g1 g2 ⊢; omega
       subst hb')
   clear hb HI h6
   go_enter Tryz.func232, Tryz.ntmps232
   go_wp2_with fail
   refine (gk_ _).mono ?_
   rintro e w1 ⟨rfl, hb1⟩
   have Aa := kp hb1
   clear hb1
   simp only [aq_, bg_, bj_]
   obtain ⟨HR, HB⟩ := kq2 (RowL.new w1 332 (aq_ .cnt)) (below1 w1 (.cells (aq_ .cnt).toArray 332))
   simp only [aq_, bg_, bj_] at HR HB
   go_wp2_with fail
   refine (fT_ _ _).mono ?_
   rintro e w3 ⟨rfl, rfl⟩
   go_wp2_with fail
   go_ret2
   exact ⟨_, _, rfl, HR.o, Aa.o.size, Aa.o.trans (HB.o.mono Aa.o.size)⟩
 refine (key _ rfl).mono ?_
 rintro e w' ⟨G, c, h1, h2, h3, h4⟩
 exact ⟨G, c, h1, by simpa using h2, h3, h4⟩
theorem iJ_ (op : Int) (w : World) : Calls Tryz.prog 232 #[.int .i64 op] w (bY_ op w) := by
 by_cases h1 : op = 1 ∨ op = 2 ∨ op = 3
 ·exact parts_w op h1 w
 by_cases h2 : op = 4
 ·exact parts_i op h2 w
 by_cases h3 : op = 5
 ·exact parts_m op h3 w
 by_cases h4 : op = 15
 ·exact parts_n op h4 w
 exact parts_c op ⟨by omega, by omega, by omega, h2, h3, h4⟩ w
section
variable {P : Program}
theorem co_ {w : World} {ops : Array Oper} {rest : List Oper} {o : Oper} {a : Act} {Q : Exit -> Act -> World -> Prop} (hgd : o.guard = none) (s x : Operand) (t : TypeId)
  (ho : o.op = .call { callee := .builtin .append, args := #[s, x], argTypes := #[t, t] })
  (base : Nat) (e : TypeId) (z : Value) (size bytes : Nat) (ht : P.underlying t = some (.slice e)) (hinfo : (P.info? e).map (fun i => (i.zero, i.size, i.bytes)) = some (some z, size, bytes))
  (hzs : z.cells.size = size) (hsz : 0 < size)
  (v : Value) (n : Nat) (xs : List Value) (hs : a.eval s = v) (hown : w.ownsRow base e size v n xs)
  (ad : Addr) (m c : Nat) (news : List Value) (hx : a.eval x = .slice (some ad) m c) (hl : news.length = m * size) (hsrc : ∀ j u, news[j]? = some u -> w.cell? (ad.add j) = some u) (h1 : ∀ u ∈ news, u.oneCell' = true)
  (h63 : n + m <= maxLen) (hbytes : (n + m) * bytes <= 140737488355328) (hbase : base <= w.heap.size)
  (h : ∀ v' w', w'.ownsRow base e size v' (n + m) (xs ++ news) -> w.grownBy w' v.ownBlock -> (v'.ownBlock = v.ownBlock ∨ v'.ownBlock = some w.heap.size) -> wpList P ops Q rest (a.put o.dst v') w') : wpList P ops Q (o :: rest) a w :=
 wpList_step fun K hK => a4_ hgd s x t ho base e z size bytes ht hinfo hzs hsz v n xs hs hown ad m c news hx hl hsrc h1 h63 hbytes hbase fun v' w' a1 a2 a3 => hK _ _ (h v' w' a1 a2 a3)
end
theorem i7_ (c : CallR) (p : CallV) : (callC c p).length = 23 := rfl
theorem d0_ : (Tryz.prog.info? 52).map (fun i => (i.zero, i.size, i.bytes)) = some (some (.agg (fd_ 0 0 false 0 ⟨#[]⟩ (.slice none 0 0) (.slice none 0 0) (.slice none 0 0) 0 0 ⟨#[]⟩ ⟨#[]⟩ ⟨#[]⟩ 0 0 (.slice none 0 0) 0 0 (.slice none 0 0) 0 0 0 0).toArray), 23, 296) := by kernel_rfl
theorem k2_ {L : List (CallR × CallV)} {k : Nat} {x : CallR × CallV} (hx : L[k]? = some x) {j : Nat} {v : Value} (hj : (callC x.1 x.2)[j]? = some v) : (L.flatMap fun x => callC x.1 x.2)[k * 23 + j]? = some v := by
 induction L generalizing k with
 | nil => simp at hx
 | cons y L ih =>
  rw [List.flatMap_cons]
  cases k with
  | zero =>
   simp at hx
   subst hx
   have hl := (gS.1 hj).1
   rw [Nat.zero_mul, Nat.zero_add, aL hl, hj]
  | succ k =>
   rw [aR (by rw [i7_]; omega), i7_, show (k + 1) * 23 + j - 23 = k * 23 + j by omega]
   exact ih (by simpa using hx)
theorem cD_ {w : World} {B : Nat} {c : CallR} {p : CallV} (h : CallOk w B c p) : ∀ u ∈ callC c p, u.oneCell' = true := by
 obtain ⟨⟨⟨_, A3, c3, e3, _⟩, ⟨_, _, A4, c4, e4, _⟩, ⟨_, A5, c5, e5, _⟩⟩, ⟨⟨_, A6, c6, e6, _⟩, _, A7, c7, e7, _⟩⟩ := h
 intro u hv
 simp only [callC, fd_, e3, e4, e5, e6, e7, List.mem_cons, List.not_mem_nil, or_false] at hv
 rcases hv with rfl | rfl | rfl | rfl | rfl | rfl | rfl | rfl | rfl | rfl | rfl | rfl | rfl | rfl | rfl | rfl | rfl | rfl | rfl | rfl | rfl | rfl | rfl <;> rfl

structure ConnS where
 ses : Int
 num : Int
 at_ : Option Nat
structure St where
 conns : Int -> Option ConnS
 calls : List CallR
 nses : Int
theorem own_ge {w : World} {base : Nat} {e : TypeId} {size n k : Nat} {v : Value} {xs : List Value} (h : w.ownsRow base e size v n xs) (hk : k ∈ v.ownBlock.toList) : base <= k := (h.lt k (by simpa using hk)).1
section
variable {P : Program}
theorem ee_ {w : World} {ops : Array Oper} {o : Oper} {a : Act} {K : Act -> World -> Prop} {Q : Exit -> Act -> World -> Prop} {E : Prop} (hgd : o.guard = none) (T kT eT : TypeId) (x y z : Operand) (ho : o.op = .mapUpdate T x y z)
  (b : Nat) (k : Int) (v : Value) (hx : a.eval x = .map (some b)) (hy : a.eval y = .int .i64 k) (hz : a.eval z = v) (f : Int -> Option Value) (hm : MapAt w b f)
  (hT : P.underlying T = some (.map kT eT)) (hK : P.underlying kT = some (.int .i64))
  (h : ∀ w', Kept [b] w w' -> MapAt w' b (fun k' => if k' = k then some v else f k') -> K (a.put o.dst undef) w') :
  if Region.wanted o (yielded ops a.tmps) = true then Oper.wp P o a w K Q else E := by
 rw [if_pos (show Region.wanted o (yielded ops a.tmps) = true by simp [Region.wanted, hgd])]
 obtain ⟨w', hrun, h1, h2⟩ := hm.run_update (P := P) hT hK k v
 unfold Oper.wp execOp
 simp only [ho, hx, hy, hz, Sem.run_bind, Sem.run_pure, Result.andThen_ok, hrun]
 exact h w' h1 h2
end
end Go.Proofs.YtnjhpgmbfblgaaaGreat.Ord
