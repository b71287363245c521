/- What the examples need of the functions that they call, and laws for regions that draw. -/
import Derived.Test.YtnjhpgmbfblgaaaGreatMU72
import Derived.Test.YtnjhpgmbfblgaaaGreatMK8
set_option linter.unusedVariables false
set_option linter.unusedSimpArgs false
namespace Go.Proofs.YtnjhpgmbfblgaaaGreat.Ord
open Go.RowKit
set_option maxRecDepth 100000
set_option maxHeartbeats 8000000
theorem opL {ops : Array Oper} {i : Nat} {o : Oper} (h : ops.toList[i]? = some o) : ops[i]? = some o := by rwa [Array.getElem?_toList] at h
section
variable {ops : Array Oper} {Q : Exit -> Act -> World -> Prop} {md : Region.Mode} {S : World -> Prop} {fuel : Nat} {listed : Array Bool} {a : Act} {w : World}
theorem one_call (i : Nat) {N : Nat} {xs : Array Operand} {ts : Array TypeId} {d : Option Nat} {ty : TypeId} {ps : String} {af : Array Edge} {g : Option (Nat × Bool)}
  (hi : ops.toList[i]? = some ⟨d, .call ⟨.value (.func N), xs, ts⟩, ty, ps, af, g⟩) (vs : Array Value) (R : Value -> World -> Prop)
  (hc : Calls Tryz.prog N vs w fun e w' => ∃ u, e = .returned u /\ R u w') (fn : Func) (hfn : Tryz.prog.funcs[N]? = some fn) (hn : (fn.name == "runtime.NumGoroutine") = false) (hb : fn.body.isSome = true)
  (hw : Region.wanted ⟨d, .call ⟨.value (.func N), xs, ts⟩, ty, ps, af, g⟩ (yielded ops a.tmps) = true)
  (h : ∀ u w', R u w' -> S w' /\ wpAnyH Tryz.prog md ops Q S fuel (listed.setIfInBounds i true) (a.put d u) w')
  (hx : xs.map a.eval = vs := by simp only [y1, y2, y3]; rfl)
  (hr : Region.ready md ops listed = [i] := by kernel_rfl) :
  wpAnyH Tryz.prog md ops Q S (fuel + 1) listed a w :=
 wpAnyH_ready hr (by simp) (AllReadyH.cons (opL hi) (fun K hK => step_call_want hw N xs ts rfl vs hx fn hfn hn hb R hc (fun u w' hu => by
  obtain ⟨h1, h2⟩ := h u w' hu
  exact hK.o _ _ h1 fun _ => h2)) AllReadyH.nil)
theorem one_rows (i : Nat) {t e : TypeId} {len : Nat} {parts : Array (Nat × Operand)} {d : Option Nat} {ty : TypeId} {ps : String} {af : Array Edge} {g : Option (Nat × Bool)}
  (hi : ops.toList[i]? = some ⟨d, .buildSlice t len parts, ty, ps, af, g⟩) {z : Value} {size bytes : Nat} (ht : Tryz.prog.underlying t = some (.slice e)) (hinfo : (Tryz.prog.info? e).map (fun i => (i.zero, i.size, i.bytes)) = some (some z, size, bytes))
  (Ls : List (List Value)) (hLs : ∀ L ∈ Ls, L.length = size)
  (hw : Region.wanted ⟨d, .buildSlice t len parts, ty, ps, af, g⟩ (yielded ops a.tmps) = true)
  (h : ∀ w', w'.ownsRow w.heap.size e size (.slice (some ⟨w.heap.size, 0, none⟩) len len) len Ls.flatten -> Bw w w' -> S w' /\ wpAnyH Tryz.prog md ops Q S fuel (listed.setIfInBounds i true) (a.put d (.slice (some ⟨w.heap.size, 0, none⟩) len len)) w')
  (hl : (parts.map fun (i, x) => (i, a.eval x)).toList = rowsI 0 Ls := by simp only [y1, y2, y3]; rfl) (hlen : Ls.length = len := by rfl)
  (hsm : len * size <= 2 ^ 24 := by decide) (hp : 0 < len * size := by decide) (hm : len <= maxLen := by unfold maxLen; decide)
  (hr : Region.ready md ops listed = [i] := by kernel_rfl) :
  wpAnyH Tryz.prog md ops Q S (fuel + 1) listed a w :=
 wpAnyH_ready hr (by simp) (AllReadyH.cons (opL hi) (fun K hK => step_rows_want hw t e len parts rfl z size bytes ht hinfo Ls hl hLs hlen hsm hp hm (fun w' ho hb => by
  obtain ⟨h1, h2⟩ := h w' ho hb
  exact hK.o _ _ h1 fun _ => h2)) AllReadyH.nil)
end
theorem q_info73 : (Tryz.prog.info? 73).map (fun i => (i.zero, i.size, i.bytes)) = some (some (.agg #[.int .i64 0, .string ⟨#[]⟩, .slice none 0 0, .slice none 0 0, .slice none 0 0, .int .u64 0, .int .u64 0, .string ⟨#[]⟩, .string ⟨#[]⟩, .string ⟨#[]⟩, .int .i64 0, .int .i64 0, .slice none 0 0, .int .u64 0, .int .i64 0, .slice none 0 0, .int .u64 0]), 17, 248) := by kernel_rfl
def SaidIn (W : World) (L : List Value) (s : SaidR) : Prop := ∃ p, L = saidL s p /\ SaidOk W W.heap.size s p /\ ∀ u ∈ L, u.oneCell' = true
theorem SaidIn.below {W W' : World} {L : List Value} {s : SaidR} (h : SaidIn W L s) (hb : Bw W W') : SaidIn W' L s := by
 obtain ⟨p, h1, h2, h3⟩ := h
 exact ⟨p, h1, ⟨((callOk_of (i := 0) (s := s) (w := W) (B := W.heap.size) ⟨h2.1, h2.2⟩).1.below hb (lR _)).mono hb.size, h2.2⟩, h3⟩
theorem SaidIn.len {W : World} {L : List Value} {s : SaidR} (h : SaidIn W L s) : L.length = 17 := by
 obtain ⟨p, rfl, _⟩ := h
 rfl
def SayP (s : SaidR) (w : World) (u : Value) (w' : World) : Prop := ∃ L, u = .agg L.toArray /\ SaidIn w' L s /\ Bw w w'
theorem say33 (v : ByteArray) (ver tim : Int) (vt : Value) (tags : List ByteArray) (w : World) (hv : v.size <= 1000) (ht : SlV Value.string w w.heap.size vt tags) :
  Calls Tryz.prog 33 #[.string v, .int .u64 ver, .int .u64 tim, vt] w fun e w' => ∃ u, e = .returned u /\ SayP (setS v ver tim tags) w u w' :=
 (set33 v ver tim vt tags w hv ht).mono fun e w' ⟨p, h1, h2, h3, h4⟩ => ⟨_, h1, _, rfl, ⟨p, rfl, h2, h3⟩, h4⟩
theorem say34 (m : Int) (v : ByteArray) (ver tim : Int) (w : World) (hv : v.size <= 1000) :
  Calls Tryz.prog 34 #[.int .i64 m, .string v, .int .u64 ver, .int .u64 tim] w fun e w' => ∃ u, e = .returned u /\ SayP (getS m v ver tim) w u w' :=
 (get34 m v ver tim w hv).mono fun e w' ⟨p, h1, h2, h3, h4⟩ => ⟨_, h1, _, rfl, ⟨p, rfl, h2, h3⟩, h4⟩
theorem said_other (op : Int) (key tag pre chi : ByteArray) (tim : Int) (w : World) (B : Nat) : SaidOk w B (otherS (c0 op key tag pre chi) tim) ⟨.slice none 0 0, .slice none 0 0, .slice none 0 0, .slice none 0 0, .slice none 0 0⟩ :=
 ⟨⟨⟨slv_nil2 _ _ _, datg_nil _ _, slv_nil2 _ _ _⟩, ⟨by show (0 : Nat) <= maxLen; omega, none, 0, rfl, fun i r h => by simp [otherS] at h⟩, slv_nil2 _ _ _⟩, none, 0, rfl, lR _⟩
theorem say35 (op : Int) (key tag pre chi : ByteArray) (tim : Int) (w : World) :
  Calls Tryz.prog 35 #[.agg #[.int .i64 op, .string key, .slice none 0 0, .slice none 0 0, .slice none 0 0, .int .u64 0, .int .u64 0, .string tag, .string pre, .string chi], .int .u64 tim] w fun e w' => ∃ u, e = .returned u /\ SayP (otherS (c0 op key tag pre chi) tim) w u w' :=
 (other35 (c0 op key tag pre chi) (.slice none 0 0) (.slice none 0 0) (.slice none 0 0) tim w (fun u hu => by
  unfold cmdC c0 at hu
  simp only [List.mem_cons, List.not_mem_nil, or_false] at hu
  rcases hu with rfl | rfl | rfl | rfl | rfl | rfl | rfl | rfl | rfl | rfl <;> rfl)).mono fun e w' ⟨h1, h2⟩ => ⟨_, h1, _, rfl, ⟨_, rfl, said_other op key tag pre chi tim w' _, fun u hu => by
  unfold saidL otherS cmdC c0 respC at hu
  simp only [List.cons_append, List.nil_append, List.mem_cons, List.not_mem_nil, or_false] at hu
  rcases hu with rfl | rfl | rfl | rfl | rfl | rfl | rfl | rfl | rfl | rfl | rfl | rfl | rfl | rfl | rfl | rfl | rfl <;> rfl⟩, h2⟩
inductive InA (W : World) : List (List Value) -> List SaidR -> Prop
 | nil : InA W [] []
 | cons {L : List Value} {s : SaidR} {Ls : List (List Value)} {Ss : List SaidR} (h : SaidIn W L s) (t : InA W Ls Ss) : InA W (L :: Ls) (s :: Ss)
theorem InA.ex {W : World} {Ls : List (List Value)} {Ss : List SaidR} (h : InA W Ls Ss) : Ls.length = Ss.length /\ (∀ L ∈ Ls, L.length = 17) /\ ∃ S : List SaidE, S.map (·.1) = Ss /\ (S.flatMap fun x => saidL x.1 x.2) = Ls.flatten /\ ∀ x ∈ S, SaidOk W W.heap.size x.1 x.2 /\ ∀ u ∈ saidL x.1 x.2, u.oneCell' = true := by
 induction h with
 | nil => exact ⟨rfl, (fun L h => by cases h), [], rfl, rfl, (fun x h => by cases h)⟩
 | @cons L s Ls Ss h t ih =>
  obtain ⟨h0, h00, S, h1, h2, h3⟩ := ih
  have hl := h.len
  obtain ⟨p, h4, h5, h6⟩ := h
  refine ⟨by simp [h0], fun M hM => ?_, (s, p) :: S, by simp [h1], ?_, fun x hx => ?_⟩
  ·rcases List.mem_cons.1 hM with rfl | hM
   ·exact hl
   exact h00 M hM
  ·rw [List.flatMap_cons, h2, List.flatten_cons, h4]
  rcases List.mem_cons.1 hx with rfl | hx
  ·exact ⟨h5, h4 ▸ h6⟩
  exact h3 x hx
theorem chk_in {Ls : List (List Value)} (Ss : List SaidR) (v : Value) (n : Nat) (a f : Int) {r : Option (Nat × Int)} (W W' : World) (hin : InA W Ls Ss) (ho : W'.ownsRow W.heap.size 73 17 v n Ls.flatten) (hb : Bw W W')
  (hr : runX 5 (sesR Ss) (List.range n) [] [] = some r) (hn : Ss.length = n) (hn2 : n <= 1000) (hok : Ss.all okS = true) (hp : Ss.Pairwise fun a b => a.tim <= b.tim) (ha : atR r = a) (hf : fltR r = f) :
  Calls Tryz.prog 70 #[.int .i64 a, .int .i64 f, v] W' fun e w' => ∃ u, e = .returned u /\ u = .bool true /\ Bw W w' := by
 obtain ⟨_, _, S, hS1, hS2, hS3⟩ := hin.ex
 have hl : S.length = n := by rw [<- hn, <- hS1, lM_]
 obtain ⟨hg, hv⟩ := ex_ok (S := S) (by omega) (by rw [hS1]; exact hok) (by rw [hS1]; exact hp)
 refine (checks70 S v n W.heap.size a f W' hl hn2 (by rw [hS2]; exact ho) hb.size (fun x hx => (hS3 x hx).2) (fun x hx => ⟨(hS3 x hx).1.1.below hb (lR _), (hS3 x hx).1.2⟩) hg hv r (chk_ses (by rw [hS1, hl]; exact hr)) ha hf).mono ?_
 rintro e w' ⟨rfl, h⟩
 exact ⟨_, rfl, rfl, hb.trans (h.below hb.size fun b hb2 => (ho.lt b (by simpa using hb2)).1)⟩
theorem n70 : (Tryz.f70.name == "runtime.NumGoroutine") = false := by decide
section
variable {ops : Array Oper} {Q : Exit -> Act -> World -> Prop} {md : Region.Mode} {V0 : World} {fuel : Nat} {listed : Array Bool} {a : Act} {w : World}
theorem k_pure (i : Nat) {oi : Oper} {v : Value} (hS : Bw V0 w) (hi : ops.toList[i]? = some oi) (hw : Region.wanted oi (yielded ops a.tmps) = true)
  (hQ : ∀ c a w, Q (.panic c) (a.put oi.dst v) w -> Q (.panic c) a w)
  (h : wpAnyH Tryz.prog md ops Q (Bw V0) fuel (listed.setIfInBounds i true) (a.put oi.dst v) w)
  (hy : ∀ w, (execOp a.eval oi).run Tryz.prog w = .ok (.value v) w := by intro w; go_simp; try with_reducible rfl)
  (hs : Region.noSelect ops = true := by kernel_rfl) (hf : Region.free md ops listed i = true := by kernel_rfl) (hr : (Region.ready md ops listed).contains i = true := by kernel_rfl) :
  wpAnyH Tryz.prog md ops Q (Bw V0) (fuel + 1) listed a w := wpAnyH_take (opL hi) hs hf hr hQ (.inl ⟨hw, fun w _ => hy w⟩) hS h
theorem k_load (i : Nat) {X : Nat} {L : List Value} (hS : Bw V0 w) (hX : RowL V0 X 73 L) (hL : L.length = 17) {x : Operand} {d : Option Nat} {ty : TypeId} {ps : String} {af : Array Edge} {g : Option (Nat × Bool)}
  (hi : ops.toList[i]? = some ⟨d, .load 73 x, ty, ps, af, g⟩) (hw : Region.wanted ⟨d, .load 73 x, ty, ps, af, g⟩ (yielded ops a.tmps) = true) (hx : a.eval x = .pointer (some ⟨X, 0, none⟩))
  (hQ : ∀ c a w, Q (.panic c) (a.put d (.agg L.toArray)) w -> Q (.panic c) a w)
  (h : wpAnyH Tryz.prog md ops Q (Bw V0) fuel (listed.setIfInBounds i true) (a.put d (.agg L.toArray)) w)
  (hs : Region.noSelect ops = true := by kernel_rfl) (hf : Region.free md ops listed i = true := by kernel_rfl) (hr : (Region.ready md ops listed).contains i = true := by kernel_rfl) :
  wpAnyH Tryz.prog md ops Q (Bw V0) (fuel + 1) listed a w :=
 wpAnyH_take (opL hi) hs hf hr hQ (yields_aggU hw 73 x rfl ⟨X, 0, none⟩ hx L _ (fun W hW => (hX.below hW hX.lt).cells) Tryz.underlying73 (q73 L hL)) hS h
theorem k_say (i : Nat) {s : SaidR} (hS : Bw V0 w) {N : Nat} {xs : Array Operand} {ts : Array TypeId} {d : Option Nat} {ty : TypeId} {ps : String} {af : Array Edge} {g : Option (Nat × Bool)} {vs : Array Value}
  (hi : ops.toList[i]? = some ⟨d, .call ⟨.value (.func N), xs, ts⟩, ty, ps, af, g⟩)
  (hc : Calls Tryz.prog N vs w fun e w' => ∃ u, e = .returned u /\ SayP s w u w') {fn : Func} (hfn : Tryz.prog.funcs[N]? = some fn) (hn : (fn.name == "runtime.NumGoroutine") = false) (hb : fn.body.isSome = true)
  (hw : Region.wanted ⟨d, .call ⟨.value (.func N), xs, ts⟩, ty, ps, af, g⟩ (yielded ops a.tmps) = true)
  (h : ∀ L w', SaidIn w' L s -> Bw w w' -> Bw V0 w' -> wpAnyH Tryz.prog md ops Q (Bw V0) fuel (listed.setIfInBounds i true) (a.put d (.agg L.toArray)) w')
  (hx : xs.map a.eval = vs := by simp only [y1, y2, y3]; rfl)
  (hr : Region.ready md ops listed = [i] := by kernel_rfl) :
  wpAnyH Tryz.prog md ops Q (Bw V0) (fuel + 1) listed a w :=
 one_call i hi vs _ hc fn hfn hn hb hw (fun u w' ⟨L, e, h1, h2⟩ => by
  subst e
  have h3 := hS.trans (h2.mono hS.size)
  exact ⟨h3, h L w' h1 h2 h3⟩) hx hr
theorem k_chk (i j : Nat) {Ls : List (List Value)} {Ss : List SaidR} {r : Option (Nat × Int)} (hS : Bw V0 w) (hin : InA w Ls Ss) {n : Nat} {at' f : Int} (hrun : runX 5 (sesR Ss) (List.range n) [] [] = some r)
  {parts : Array (Nat × Operand)} {d : Option Nat} {ty : TypeId} {ps : String} {af : Array Edge} {g : Option (Nat × Bool)}
  (hi : ops.toList[i]? = some ⟨d, .buildSlice 69 n parts, ty, ps, af, g⟩) (hwi : Region.wanted ⟨d, .buildSlice 69 n parts, ty, ps, af, g⟩ (yielded ops a.tmps) = true)
  {xs : Array Operand} {ts : Array TypeId} {d2 : Option Nat} {ty2 : TypeId} {ps2 : String} {af2 : Array Edge} {g2 : Option (Nat × Bool)}
  (hj : ops.toList[j]? = some ⟨d2, .call ⟨.value (.func 70), xs, ts⟩, ty2, ps2, af2, g2⟩) (hwj : ∀ v, Region.wanted ⟨d2, .call ⟨.value (.func 70), xs, ts⟩, ty2, ps2, af2, g2⟩ (yielded ops (a.put d v).tmps) = true)
  (hx : ∀ v, xs.map (a.put d v).eval = #[.int .i64 at', .int .i64 f, v])
  (h : ∀ w' v, Bw w w' -> Bw V0 w' -> wpAnyH Tryz.prog md ops Q (Bw V0) fuel ((listed.setIfInBounds i true).setIfInBounds j true) ((a.put d v).put d2 (.bool true)) w')
  (ha : atR r = at' := by rfl) (hf : fltR r = f := by rfl)
  (hl : (parts.map fun (i, x) => (i, a.eval x)).toList = rowsI 0 Ls := by simp only [y1, y2, y3]; rfl)
  (hn : Ss.length = n := by rfl) (hp : 0 < n := by decide) (hn2 : n <= 4 := by decide) (hok : Ss.all okS = true := by decide +kernel) (hpw : Ss.Pairwise (fun a b => a.tim <= b.tim) := by decide +kernel)
  (hr : Region.ready md ops listed = [i] := by kernel_rfl) (hr2 : Region.ready md ops (listed.setIfInBounds i true) = [j] := by kernel_rfl) :
  wpAnyH Tryz.prog md ops Q (Bw V0) (fuel + 1 + 1) listed a w := by
 obtain ⟨e1, e2, _⟩ := hin.ex
 refine one_rows i hi Tryz.underlying69 q_info73 Ls e2 hwi (fun w' ho hb => ?_) hl (e1.trans hn) (by omega) (by omega) (by unfold maxLen; omega) hr
 have h3 := hS.trans (hb.mono hS.size)
 refine ⟨h3, one_call j hj _ _ (chk_in Ss _ n at' f w w' hin ho hb hrun hn (by omega) hok hpw ha hf) _ Tryz.func70 n70 rfl (hwj _) (fun u w2 ⟨e, h4⟩ => ?_) (hx _) hr2⟩
 subst e
 have h5 := hS.trans (h4.mono hS.size)
 exact ⟨h5, h w2 _ h4 h5⟩
end
end Go.Proofs.YtnjhpgmbfblgaaaGreat.Ord
