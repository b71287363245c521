/- Slice literals of structs, row by row; rows of steps; What given makes. -/
import Derived.Test.YtnjhpgmbfblgaaaGreatMP0
import Derived.Test.YtnjhpgmbfblgaaaGreatO3
namespace Go.Proofs.YtnjhpgmbfblgaaaGreat.Ord
open Go.RowKit
set_option linter.unusedVariables false
set_option linter.unusedSimpArgs false
theorem fold_putAt : ∀ (l : List Value) (o k : Nat) (acc : Array Value), o + k + l.length <= acc.size ->
  ((l.zipIdx k).foldl (fun cs (x : Value × Nat) => cs.setIfInBounds (o + x.2) x.1) acc).toList = acc.toList.take (o + k) ++ (l ++ acc.toList.drop (o + k + l.length))
 | [], o, k, acc, h => by simp
 | v :: l, o, k, acc, h => by
  simp only [List.length_cons] at h
  rw [List.zipIdx_cons, List.foldl_cons, fold_putAt l o (k + 1) _ (by simp; omega)]
  rw [Array.toList_setIfInBounds, show o + (k + 1) = o + k + 1 by omega, List.take_add_one, List.take_set_of_le (Nat.le_refl _), List.getElem?_set_self (by simp; omega), List.drop_set_of_lt (by omega)]
  simp only [Option.toList_some, List.append_assoc, List.length_cons, List.cons_append]
  rw [show o + k + 1 + l.length = o + k + (l.length + 1) by omega]
  rfl
/-- the parts of a slice literal, from an index on -/
def rowsI (k : Nat) : List (List Value) -> List (Nat × Value)
 | [] => []
 | L :: Ls => (k, .agg L.toArray) :: rowsI (k + 1) Ls
theorem fill_rows (size : Nat) : ∀ (Ls : List (List Value)) (k : Nat) (acc : Array Value), (∀ L ∈ Ls, L.length = size) -> acc.size = (k + Ls.length) * size ->
  Instr.fill (fun i => some (i * size, size)) acc (rowsI k Ls) = some (acc.toList.take (k * size) ++ Ls.flatten).toArray
 | [], k, acc, h, hs => by
  simp only [rowsI, Instr.fill, List.flatten_nil, List.append_nil]
  congr 1
  rw [List.take_of_length_le (by simp at hs ⊢; omega)]
 | L :: Ls, k, acc, h, hs => by
  have hL : L.length = size := h L (by simp)
  have hc : (Value.agg L.toArray).cells = L.toArray := rfl
  have hsz : (k + 1 + Ls.length) * size = k * size + size + Ls.length * size := by rw [Nat.add_mul, Nat.add_mul, Nat.one_mul]
  have hs' : acc.size = k * size + size + Ls.length * size := by rw [hs, List.length_cons, show k + (Ls.length + 1) = k + 1 + Ls.length by omega, hsz]
  unfold rowsI
  unfold Instr.fill
  have hguard : (decide (L.toArray.size ≠ size) || decide (k * size + L.toArray.size > acc.size)) = false := by
   simp [hL]; omega
  simp only [hc]
  rw [if_neg (by simp [hL]; omega)]
  have hf := fold_putAt L (k * size) 0 acc (by omega)
  have hz : L.toArray.zipIdx.foldl (fun cs (x : Value × Nat) => cs.setIfInBounds (k * size + x.2) x.1) acc = (acc.toList.take (k * size) ++ (L ++ acc.toList.drop (k * size + L.length))).toArray := by
   apply Array.toList_inj.1
   rw [<- Array.foldl_toList, Array.toList_zipIdx]
   simpa using hf
  have hz' : (L.toArray.zipIdx.foldl (fun cs x => match x with | (c, j) => cs.setIfInBounds (k * size + j) c) acc) = (acc.toList.take (k * size) ++ (L ++ acc.toList.drop (k * size + L.length))).toArray := hz
  rw [hz', fill_rows size Ls (k + 1) _ (fun x hx => h x (by simp [hx])) (by simp; rw [hsz]; omega)]
  congr 2
  have ht : ((acc.toList.take (k * size) ++ (L ++ acc.toList.drop (k * size + L.length))).toArray.toList).take ((k + 1) * size) = acc.toList.take (k * size) ++ L := by
   show List.take _ (_ ++ (_ ++ _)) = _
   rw [<- List.append_assoc]
   exact List.take_left' (by rw [Nat.add_mul, Nat.one_mul]; simp [hL]; omega)
  rw [ht, List.flatten_cons, List.append_assoc]
section
variable {P : Program}
theorem step_rows {w : World} {ops : Array Oper} {o : Oper} {a : Act} {K : Act -> World -> Prop} {Q : Exit -> Act -> World -> Prop} {E : Prop} (hgd : o.guard = none) (t e : TypeId) (len : Nat) (parts : Array (Nat × Operand)) (ho : o.op = .buildSlice t len parts)
  (z : Value) (size bytes : Nat) (ht : P.underlying t = some (.slice e)) (hinfo : (P.info? e).map (fun i => (i.zero, i.size, i.bytes)) = some (some z, size, bytes))
  (Ls : List (List Value)) (hl : (parts.map fun (i, x) => (i, a.eval x)).toList = rowsI 0 Ls) (hLs : ∀ L ∈ Ls, L.length = size) (hlen : Ls.length = len)
  (hsm : len * size <= 2 ^ 24) (hp : 0 < len * size) (hm : len <= maxLen)
  (h : ∀ w', w'.ownsRow w.heap.size e size (.slice (some ⟨w.heap.size, 0, none⟩) len len) len Ls.flatten -> RowKit.Below w.heap.size w w' -> K (a.put o.dst (.slice (some ⟨w.heap.size, 0, none⟩) len len)) w') :
  if Region.wanted o (yielded ops a.tmps) = true then Oper.wp P o a w K Q else E := by
 have hfl : ∀ (Ls : List (List Value)), (∀ L ∈ Ls, L.length = size) -> Ls.flatten.length = Ls.length * size := fun Ls => by
  induction Ls with
  | nil => intro _; simp
  | cons L Ls ih =>
   intro h
   rw [List.flatten_cons, List.length_append, ih (fun x hx => h x (by simp [hx])), h L (by simp), List.length_cons, Nat.add_mul, Nat.one_mul, Nat.add_comm]
 refine step_slice_own hgd t e len parts ho z size bytes ht hinfo (rowsI 0 Ls) Ls.flatten hl ?_ (by rw [hfl Ls hLs, hlen]) (by omega) (by omega) hm h
 have h1 := fill_rows size Ls 0 ((Array.range (len * size)).map (z.cells[· % z.cells.size]!)) hLs (by simp [hlen])
 simpa using h1
/-- a call of a function value that a slot holds -/
theorem step_call_slot {w : World} {ops : Array Oper} {o : Oper} {a : Act} {K : Act -> World -> Prop} {Q : Exit -> Act -> World -> Prop} {E : Prop} (hgd : o.guard = none) (x : Operand) (N : Nat) (xs : Array Operand) (ts : Array TypeId)
  (ho : o.op = .call { callee := .value x, args := xs, argTypes := ts }) (hf : a.eval x = .func (.func N) #[] #[]) (vs : Array Value) (hx : xs.map a.eval = vs)
  (fn : Func) (hfn : P.funcs[N]? = some fn) (hname : (fn.name == "runtime.NumGoroutine") = false) (hbody : fn.body.isSome = true)
  (R : Value -> World -> Prop) (hc : Calls P N vs w fun e w' => ∃ u, e = .returned u /\ R u w')
  (h : ∀ u w', R u w' -> K (a.put o.dst u) w') :
  if Region.wanted o (yielded ops a.tmps) = true then Oper.wp P o a w K Q else E := by
 rw [if_pos (show Region.wanted o (yielded ops a.tmps) = true by simp [Region.wanted, hgd])]
 unfold Oper.wp
 have h1 : fn.name ≠ "runtime.NumGoroutine" := by simpa using hname
 have h2 : fn.body ≠ none := by intro h3; simp [h3] at hbody
 have h3 : (callFunc N vs).run P w = .ok (.enter N vs) w := by simp [callFunc, hfn, h1, h2]
 simp [execOp, ho, resolve, invoke, hx, hf, Deferred.ofValue, h3]
 refine hc.mono ?_
 rintro e w' ⟨u, rfl, hR⟩
 exact h u w' hR
end
theorem did_len (d : DidR) (p : DidV) : (didC d p).length = 25 := rfl
theorem did_flat {L : List (DidR × DidV)} {k : Nat} {x : DidR × DidV} (hx : L[k]? = some x) {j : Nat} {v : Value} (hj : (didC x.1 x.2)[j]? = some v) : (L.flatMap fun x => didC x.1 x.2)[k * 25 + j]? = some v := by
 induction L generalizing k with
 | nil => simp at hx
 | cons y L ih =>
  rw [List.flatMap_cons]
  cases k with
  | zero =>
   simp at hx
   subst hx
   have hl := (List.getElem?_eq_some_iff.1 hj).1
   rw [Nat.zero_mul, Nat.zero_add, List.getElem?_append_left hl, hj]
  | succ k =>
   rw [List.getElem?_append_right (by rw [did_len]; omega), did_len, show (k + 1) * 25 + j - 25 = k * 25 + j by omega]
   exact ih (by simpa using hx)
/-- steps in a row that a slice owns -/
theorem dids_own {w : World} {base : Nat} {v : Value} {L : List (DidR × DidV)} (h : w.ownsRow base 42 25 v L.length (L.flatMap fun x => didC x.1 x.2)) (hs : ∀ x ∈ L, DidOk w w.heap.size x.1 x.2) : ∃ A c, v = .slice A L.length c /\ DidsAt w w.heap.size A (L.map (·.1)) := by
 rcases owns_shape h (by decide) with ⟨e1, e2, e3⟩ | ⟨g, cap, e1, e2, e3, e4, e5⟩
 ·subst e1
  have : L = [] := List.eq_nil_of_length_eq_zero e2
  subst this
  exact ⟨none, 0, rfl, fun i x hi => by simp at hi⟩
 ·subst e1
  refine ⟨_, cap, rfl, fun i x hi => ?_⟩
  rw [List.getElem?_map] at hi
  obtain ⟨y, hy, rfl⟩ := Option.map_eq_some_iff.1 hi
  have hil := (List.getElem?_eq_some_iff.1 hy).1
  refine ⟨g, 0, y.2, rfl, e3, fun j u hj => ?_, hs y (List.mem_of_getElem? hy)⟩
  have hjl := (List.getElem?_eq_some_iff.1 hj).1
  rw [did_len] at hjl
  rw [Addr.add_mid, Nat.zero_add, h.cellAt (i * 25 + j) (by omega)]
  exact did_flat hy hj
theorem calls_own {w : World} {base : Nat} {v : Value} {L : List (CallR × CallV)} (h : w.ownsRow base 52 23 v L.length (L.flatMap fun x => callC x.1 x.2)) (hs : ∀ x ∈ L, CallOk w w.heap.size x.1 x.2) : ∃ A c, v = .slice A L.length c /\ RowCO w w.heap.size A L := by
 rcases owns_shape h (by decide) with ⟨e1, e2, e3⟩ | ⟨g, cap, e1, e2, e3, e4, e5⟩
 ·subst e1
  have : L = [] := List.eq_nil_of_length_eq_zero e2
  subst this
  exact ⟨none, 0, rfl, fun i x hi => by simp at hi⟩
 ·subst e1
  refine ⟨_, cap, rfl, fun i y hy => ?_⟩
  have hil := (List.getElem?_eq_some_iff.1 hy).1
  refine ⟨g, 0, rfl, e3, fun j u hj => ?_, hs y (List.mem_of_getElem? hy)⟩
  have hjl := (List.getElem?_eq_some_iff.1 hj).1
  rw [call_len] at hjl
  rw [Addr.add_mid, Nat.zero_add, h.cellAt (i * 23 + j) (by omega)]
  exact flat_at hy hj
def getR : CmdR := ⟨4, ⟨#[97]⟩, [], [], [], 0, 0, ⟨#[]⟩, ⟨#[]⟩, ⟨#[]⟩⟩
def fluR : CmdR := ⟨14, ⟨#[]⟩, [], [], [], 0, 0, ⟨#[]⟩, ⟨#[]⟩, ⟨#[]⟩⟩
def misR : RespR := ⟨4, 0, [⟨0, [], 0, 0⟩], 0, 0, []⟩
def donR : RespR := ⟨14, 0, [], 0, 0, []⟩
abbrev nilV : Value := .slice none 0 0
def misV (g : Nat) : Value := .slice (some ⟨g, 0, none⟩) 1 1
abbrev getL : List Value := [.int .i64 4, .string ⟨#[97]⟩, .slice none 0 0, .slice none 0 0, .slice none 0 0, .int .u64 0, .int .u64 0, .string ⟨#[]⟩, .string ⟨#[]⟩, .string ⟨#[]⟩]
abbrev fluL : List Value := [.int .i64 14, .string ⟨#[]⟩, .slice none 0 0, .slice none 0 0, .slice none 0 0, .int .u64 0, .int .u64 0, .string ⟨#[]⟩, .string ⟨#[]⟩, .string ⟨#[]⟩]
abbrev misL (g : Nat) : List Value := [.int .i64 4, .int .i64 0, .slice (some ⟨g, 0, none⟩) 1 1, .int .u64 0, .int .i64 0, .slice none 0 0]
abbrev donL : List Value := [.int .i64 14, .int .i64 0, .slice none 0 0, .int .u64 0, .int .i64 0, .slice none 0 0]
theorem cmd_sizeA36 (a b c d e f g h i j : Value) : (Tryz.prog.info? 36).map (·.size) = some #[a, b, c, d, e, f, g, h, i, j].size := by
 show _ = some 10
 kernel_rfl
theorem cmd_one (l : List Value) (h : l = getL ∨ l = fluL) : l.toArray.all (·.oneCell') = true := by
 rcases h with rfl | rfl
 all_goals
  refine all_oneCell_toArray fun v hv => ?_
  simp only [List.mem_cons, List.not_mem_nil, or_false] at hv
  rcases hv with rfl | rfl | rfl | rfl | rfl | rfl | rfl | rfl | rfl | rfl <;> rfl

theorem resp_one40 (l : List Value) (g : Nat) (h : l = misL g ∨ l = donL) : l.toArray.all (·.oneCell') = true := by
 rcases h with rfl | rfl
 all_goals
  refine all_oneCell_toArray fun v hv => ?_
  simp only [List.mem_cons, List.not_mem_nil, or_false] at hv
  rcases hv with rfl | rfl | rfl | rfl | rfl | rfl <;> rfl
theorem two_store (w : World) (t t' : TypeId) (z z' l l' : List Value) (hz : l.length = z.length) (hz' : l'.length = z'.length) (wA wB : World) (hA : wA = ((w.alloc (.cells z.toArray t)).alloc (.cells z'.toArray t')).setCells w.heap.size 0 l) (hB : wB = wA.setCells (w.heap.size + 1) 0 l') :
  RowL wB w.heap.size t l /\ RowL wB (w.heap.size + 1) t' l' /\ Below w.heap.size w wB := by
 have r1 : RowL ((w.alloc (.cells z.toArray t)).alloc (.cells z'.toArray t')) w.heap.size t z := (RowL.new w t z).alloc _
 have r2 : RowL ((w.alloc (.cells z.toArray t)).alloc (.cells z'.toArray t')) (w.heap.size + 1) t' z' := by
  have := RowL.new (w.alloc (.cells z.toArray t)) t' z'
  rwa [alloc_size1] at this
 have a1 : RowL wA w.heap.size t l := by rw [hA]; exact store_all (n := l.length) (by rw [hz]; exact r1) l rfl
 have a2 : RowL wA (w.heap.size + 1) t' z' := by rw [hA]; exact r2.setCellsOther (by omega)
 refine ⟨by rw [hB]; exact a1.setCellsOther (by omega), by rw [hB]; exact store_all (n := l'.length) (by rw [hz']; exact a2) l' rfl, ?_⟩
 rw [hB, hA]
 exact (kept_setCells (L := [w.heap.size, w.heap.size + 1]) (by simp) l' 0 _ (kept_setCells (by simp) l 0 _ (((Kept.refl _ w).alloc _).alloc _))).below (Nat.le_refl _) (by simp)
theorem get_ok (w : World) (B : Nat) : CmdOk w B getR nilV nilV nilV := ⟨slv_nil _ _, datg_nil _ _, slv_nil _ _⟩
theorem flu_ok (w : World) (B : Nat) : CmdOk w B fluR nilV nilV nilV := ⟨slv_nil _ _, datg_nil _ _, slv_nil _ _⟩
theorem don_ok (w : World) (B : Nat) : RespOk w B donR nilV nilV := ⟨items_nil _ _, nums_nil _ _⟩
theorem mis_ok {w : World} {B g : Nat} (h : RowL w g 78 [.int .i64 0, .slice none 0 0, .int .u64 0, .int .u64 0]) (hg : g < B) : RespOk w B misR (misV g) nilV := by
 refine ⟨⟨by simp [misR, maxLen], _, 1, rfl, fun i r hi => ?_⟩, nums_nil _ _⟩
 rcases i with _ | i
 ·simp [misR] at hi
  subst hi
  exact ⟨g, 0, nilV, rfl, hg, h.cells, datg_nil _ _⟩
 ·simp [misR] at hi
/-- the steps of given, with what they point to -/
def stepsG (ga gb g : Nat) : List (DidR × DidV) :=
 [(⟨⟨1, 0, 0, []⟩, 0, 0, [], 0, cmd0, resp0, 0⟩, microV nilV nilV nilV nilV nilV),
  (⟨⟨1, 0, 0, []⟩, 0, 1, [], 0, cmd0, resp0, 0⟩, microV nilV nilV nilV nilV nilV),
  (⟨⟨2, 0, 0, [3, 4, 1, 97]⟩, 0, 4, [], 0, cmd0, resp0, 0⟩, ⟨.slice (some ⟨ga, 0, none⟩) 4 4, nilV, nilV, nilV, nilV, nilV, nilV⟩),
  (microD 0 1 getR resp0, microV nilV nilV nilV nilV nilV),
  (microD 0 3 getR misR, microV nilV nilV nilV (misV g) nilV),
  (⟨⟨2, 1, 0, [1, 14]⟩, 0, 2, [], 0, cmd0, resp0, 0⟩, ⟨.slice (some ⟨gb, 0, none⟩) 2 2, nilV, nilV, nilV, nilV, nilV, nilV⟩),
  (microD 1 1 fluR resp0, microV nilV nilV nilV nilV nilV),
  (microD 0 4 cmd0 misR, microV nilV nilV nilV (misV g) nilV),
  (microD 1 3 fluR donR, microV nilV nilV nilV nilV nilV)]
/-- the steps of given -/
def didsG : List DidR := (stepsG 0 0 0).map (·.1)
theorem stepsG_map (ga gb g : Nat) : (stepsG ga gb g).map (·.1) = didsG := rfl
theorem stepsG_ok {w : World} {B ga gb g : Nat} (ha : Byt w B (some ⟨ga, 0, none⟩) 4 [3, 4, 1, 97]) (hb : Byt w B (some ⟨gb, 0, none⟩) 2 [1, 14]) (hm : RespOk w B misR (misV g) nilV) : ∀ x ∈ stepsG ga gb g, DidOk w B x.1 x.2 := by
 have n1 := datg_nil w B
 have c0 := cmdOk0 w B
 have r0 := respOk0 w B
 intro x hx
 simp only [stepsG, List.mem_cons, List.not_mem_nil, or_false] at hx
 rcases hx with rfl | rfl | rfl | rfl | rfl | rfl | rfl | rfl | rfl
 ·exact ⟨n1, n1, c0, r0⟩
 ·exact ⟨n1, n1, c0, r0⟩
 ·exact ⟨⟨by intro y hy; simp at hy; omega, by simp [maxLen], _, 4, rfl, ha⟩, n1, c0, r0⟩
 ·exact ⟨n1, n1, get_ok _ _, r0⟩
 ·exact ⟨n1, n1, get_ok _ _, hm⟩
 ·exact ⟨⟨by intro y hy; simp at hy; omega, by simp [maxLen], _, 2, rfl, hb⟩, n1, c0, r0⟩
 ·exact ⟨n1, n1, flu_ok _ _, r0⟩
 ·exact ⟨n1, n1, c0, hm⟩
 ·exact ⟨n1, n1, flu_ok _ _, don_ok _ _⟩
/-- the calls of given, with what they point to -/
def wantL (g : Nat) : List (CallR × CallV) :=
 [(⟨0, 0, false, getR, misR, 3, 4, 7, 0⟩, ⟨nilV, nilV, nilV, misV g, nilV⟩), (⟨1, 0, false, fluR, donR, 6, 8, -1, 0⟩, ⟨nilV, nilV, nilV, nilV, nilV⟩)]
def wantG : List CallR := (wantL 0).map (·.1)
theorem wantL_map (g : Nat) : (wantL g).map (·.1) = wantG := rfl
theorem wantL_ok {w : World} {B g : Nat} (hm : RespOk w B misR (misV g) nilV) : ∀ x ∈ wantL g, CallOk w B x.1 x.2 := by
 intro x hx
 simp only [wantL, List.mem_cons, List.not_mem_nil, or_false] at hx
 rcases hx with rfl | rfl
 ·exact ⟨get_ok _ _, hm⟩
 ·exact ⟨flu_ok _ _, don_ok _ _⟩
theorem q_info5 : (Tryz.prog.info? 5).map (fun i => (i.zero, i.size, i.bytes)) = some (some (.int .u8 0), 1, 1) := by kernel_rfl
theorem q_info42 : (Tryz.prog.info? 42).map (fun i => (i.zero, i.size, i.bytes)) = some (some (.agg (didC ⟨⟨0, 0, 0, []⟩, 0, 0, [], 0, cmd0, resp0, 0⟩ (microV nilV nilV nilV nilV nilV)).toArray), 25, 344) := by kernel_rfl
theorem f103_name : (Tryz.f103.name == "runtime.NumGoroutine") = false := by decide
theorem f103_body : Tryz.f103.body.isSome = true := rfl
/-- bytes that were laid, whatever comes later -/
theorem byt_of_own {w : World} {base n : Nat} {A : Option Addr} {c : Nat} {xs : List Int} (h : w.ownsRow base 5 1 (.slice A n c) n (xs.map (Value.int .u8))) : Byt w w.heap.size A c xs := (Byt.of_owns h).2
def GivenPost (w : World) (e : Ending) (w' : World) : Prop := ∃ A A' g, e = .returned (.tuple #[.slice A 9 9, .slice A' 2 2]) /\ DidsAt w' w'.heap.size A didsG /\ RowCO w' w'.heap.size A' (wantL g) /\ Below w.heap.size w w'

theorem byt_up {w w' : World} {A : Option Addr} {c : Nat} {xs : List Int} (h : Byt w w.heap.size A c xs) (hb : Below w.heap.size w w') : Byt w' w'.heap.size A c xs := by
 obtain ⟨h1, h2, h3⟩ := h
 refine ⟨h1, h2, fun i hi => ?_⟩
 obtain ⟨b, off, e1, e2, e3⟩ := h3 i hi
 exact ⟨b, off, e1, Nat.lt_of_lt_of_le e2 hb.size, fun x hx => (hb.cell (p := ⟨b, off + i, none⟩) e2).trans (e3 x hx)⟩
theorem DidsAt.mono' {w : World} {B B' : Nat} {A : Option Addr} {ds : List DidR} (h : DidsAt w B A ds) (hB : B <= B') : DidsAt w B' A ds := by
 intro i d hi
 obtain ⟨b, off, p, h1, h2, h3, h4⟩ := h i d hi
 exact ⟨b, off, p, h1, by omega, h3, h4.mono hB⟩
end Go.Proofs.YtnjhpgmbfblgaaaGreat.Ord
