/- Laws of the walk that this seat's texts share: a struct loaded from any address; Laws of. -/
import Derived.Deep.RegionHeld
import Derived.Test.YtnjhpgmbfblgaaaGreatChecked
import Derived.WalkKit
import Derived.BigQuiet
import Derived.Outline
import Derived.Lib.Hide
import Derived.Lib.QuietBelow
import Derived.Deep.Slices
import Derived.Deep.Fields
import Derived.ChangeSame
import Derived.OpenShut
import Derived.Test.YtnjhpgmbfblgaaaGreatRows
import Derived.ProofKit
import Derived.ShutString
import Derived.ChangeOld
import Derived.Below
import Derived.Lib.SliceRun
set_option linter.unusedVariables false
set_option linter.unusedSimpArgs false
namespace Go.Proofs.YtnjhpgmbfblgaaaGreat.Ord
open Go.RowKit
theorem z1 {α : Type} {l : List α} {i : Nat} {a : α} : l.toArray.setIfInBounds i a = (l.set i a).toArray := by simp only [List.setIfInBounds_toArray]
theorem z2 {α : Type} {x : α} {xs : List α} {n : Nat} {a : α} : (x :: xs).set (n + 1) a = x :: xs.set n a := List.set_cons_succ
theorem z3 {α : Type} {x : α} {xs : List α} {a : α} : (x :: xs).set 0 a = a :: xs := List.set_cons_zero
theorem y1 {α β : Type} {f : α -> β} {l : List α} : l.toArray.map f = (l.map f).toArray := by simp only [List.map_toArray]
theorem y2 {α β : Type} {f : α -> β} {a : α} {l : List α} : (a :: l).map f = f a :: l.map f := List.map_cons
theorem y3 {α β : Type} {f : α -> β} : ([] : List α).map f = [] := List.map_nil
theorem kp {p : Prop} (h : p) : Hid p := Lib.hid h
theorem rb {a b : Bool} {q : Prop} (h : a = b) (y : q) : Ending.returned (.bool b) = .returned (.bool a) /\ q := ⟨congrArg (fun b => Ending.returned (Value.bool b)) h.symm, y⟩
theorem eY {α : Type} (a : α) : ∃ z, a = z := ⟨a, rfl⟩
theorem eX {α : Type} (a : α) : ∃ z, z = a := ⟨a, rfl⟩
theorem kq2 {A B : Prop} (a : A) (b : B) : Hid A /\ Hid B := ⟨kp a, kp b⟩
theorem kq3 {A B C : Prop} (a : A) (b : B) (c : C) : Hid A /\ Hid B /\ Hid C := ⟨kp a, kp b, kp c⟩
theorem kq4 {A B C D : Prop} (a : A) (b : B) (c : C) (d : D) : Hid A /\ Hid B /\ Hid C /\ Hid D := ⟨kp a, kp b, kp c, kp d⟩
theorem kq5 {A B C D E : Prop} (a : A) (b : B) (c : C) (d : D) (e : E) : Hid A /\ Hid B /\ Hid C /\ Hid D /\ Hid E := ⟨kp a, kp b, kp c, kp d, kp e⟩
theorem kq6 {A B C D E F : Prop} (a : A) (b : B) (c : C) (d : D) (e : E) (f : F) : Hid A /\ Hid B /\ Hid C /\ Hid D /\ Hid E /\ Hid F := ⟨kp a, kp b, kp c, kp d, kp e, kp f⟩
theorem kq7 {A B C D E F G : Prop} (a : A) (b : B) (c : C) (d : D) (e : E) (f : F) (g : G) : Hid A /\ Hid B /\ Hid C /\ Hid D /\ Hid E /\ Hid F /\ Hid G := ⟨kp a, kp b, kp c, kp d, kp e, kp f, kp g⟩
theorem kq8 {A B C D E F G H : Prop} (a : A) (b : B) (c : C) (d : D) (e : E) (f : F) (g : G) (h : H) : Hid A /\ Hid B /\ Hid C /\ Hid D /\ Hid E /\ Hid F /\ Hid G /\ Hid H := ⟨kp a, kp b, kp c, kp d, kp e, kp f, kp g, kp h⟩
theorem kq9 {A B C D E F G H I : Prop} (a : A) (b : B) (c : C) (d : D) (e : E) (f : F) (g : G) (h : H) (i : I) : Hid A /\ Hid B /\ Hid C /\ Hid D /\ Hid E /\ Hid F /\ Hid G /\ Hid H /\ Hid I := ⟨kp a, kp b, kp c, kp d, kp e, kp f, kp g, kp h, kp i⟩
theorem kq10 {A B C D E F G H I J : Prop} (a : A) (b : B) (c : C) (d : D) (e : E) (f : F) (g : G) (h : H) (i : I) (j : J) : Hid A /\ Hid B /\ Hid C /\ Hid D /\ Hid E /\ Hid F /\ Hid G /\ Hid H /\ Hid I /\ Hid J := ⟨kp a, kp b, kp c, kp d, kp e, kp f, kp g, kp h, kp i, kp j⟩
theorem kq11 {A B C D E F G H I J K : Prop} (a : A) (b : B) (c : C) (d : D) (e : E) (f : F) (g : G) (h : H) (i : I) (j : J) (k : K) : Hid A /\ Hid B /\ Hid C /\ Hid D /\ Hid E /\ Hid F /\ Hid G /\ Hid H /\ Hid I /\ Hid J /\ Hid K := ⟨kp a, kp b, kp c, kp d, kp e, kp f, kp g, kp h, kp i, kp j, kp k⟩
theorem kq12 {A B C D E F G H I J K L : Prop} (a : A) (b : B) (c : C) (d : D) (e : E) (f : F) (g : G) (h : H) (i : I) (j : J) (k : K) (l : L) : Hid A /\ Hid B /\ Hid C /\ Hid D /\ Hid E /\ Hid F /\ Hid G /\ Hid H /\ Hid I /\ Hid J /\ Hid K /\ Hid L := ⟨kp a, kp b, kp c, kp d, kp e, kp f, kp g, kp h, kp i, kp j, kp k, kp l⟩
theorem _root_.Go.RowKit.Hid.o {p : Prop} (h : Hid p) : p := h.out
theorem _root_.Go.Shut.o {p : Prop} (h : Shut p) : p := h.out
abbrev Bw (w w' : World) : Prop := Below w.heap.size w w'
theorem gE : ∀ {α : Type} {l : List α} {i : Nat} (h : i < l.length), l[i]? = some l[i] := @List.getElem?_eq_getElem
theorem gS : ∀ {α : Type} {i : Nat} {a : α} {l : List α}, l[i]? = some a ↔ ∃ h : i < l.length, l[i] = a := @List.getElem?_eq_some_iff
theorem lR : ∀ n : Nat, n <= n := @Nat.le_refl
theorem lT : ∀ {n m k : Nat}, n <= m -> m <= k -> n <= k := @Nat.le_trans
theorem lL : ∀ {n m k : Nat}, n < m -> m <= k -> n < k := @Nat.lt_of_lt_of_le
theorem mG : ∀ {α : Type} {l : List α} {i : Nat} {a : α}, l[i]? = some a -> a ∈ l := @List.mem_of_getElem?
theorem lA : ∀ {α : Type} {xs ys : List α}, (xs ++ ys).length = xs.length + ys.length := @List.length_append
theorem eT_ : ∀ {p : Prop} [inst : Decidable p], p -> decide p = true := @decide_eq_true
theorem eF : ∀ {p : Prop} [inst : Decidable p], ¬p -> decide p = false := @decide_eq_false
theorem zS : ∀ {α : Type} {xs : List α}, xs.toArray.size = xs.length := @List.size_toArray
theorem aR : ∀ {α : Type} {l₁ l₂ : List α} {i : Nat}, l₁.length <= i -> (l₁ ++ l₂)[i]? = l₂[i - l₁.length]? := @List.getElem?_append_right
theorem aL : ∀ {α : Type} {l₁ l₂ : List α} {i : Nat}, i < l₁.length -> (l₁ ++ l₂)[i]? = l₁[i]? := @List.getElem?_append_left
theorem aA : ∀ {α : Type} (xs ys zs : List α), xs ++ ys ++ zs = xs ++ (ys ++ zs) := @List.append_assoc
theorem BR : ∀ (B : Nat) (w : World), Below B w w := @Below.refl
theorem gM : ∀ {α β : Type} {f : α -> β} {l : List α} {i : Nat}, (List.map f l)[i]? = Option.map f l[i]? := @List.getElem?_map
theorem mM : ∀ {α : Type} (y : α) {a : α} {l : List α}, a ∈ l -> a ∈ y :: l := @List.mem_cons_of_mem
theorem mI : ∀ {α : Type} {a : α} {l : List α}, a ∈ l ↔ ∃ i : Nat, l[i]? = some a := @List.mem_iff_getElem?
theorem tA : ∀ {α : Type} {l : List α} {i : Nat}, List.take (i + 1) l = List.take i l ++ l[i]?.toList := @List.take_add_one
theorem lM_ : ∀ {α β : Type} {xs : List α} (f : α -> β), (List.map f xs).length = xs.length := @List.length_map
theorem eN : ∀ {α : Type} {l : List α}, l.length = 0 -> l = [] := @List.eq_nil_of_length_eq_zero
theorem tL : ∀ {α : Type} {i : Nat} {l : List α}, l.length <= i -> List.take i l = l := @List.take_of_length_le
section
variable {P : Program} {ops : Array Oper} {Q : Exit → Act → World → Prop} {md : Region.Mode} {S : World → Prop} {fuel : Nat} {listed : Array Bool} {a : Act} {w : World}
end
section
variable {P : Program}
def CellsAt (w : World) (a : Addr) (cs : List Value) : Prop := ∀ j v, cs[j]? = some v -> w.cell? (a.add j) = some v
theorem CellsAt.below {B : Nat} {w w' : World} {a : Addr} {cs : List Value} (h : CellsAt w a cs) (hb : Below B w w') (ha : a.block < B) : CellsAt w' a cs := by
 intro j v hj
 have := h j v hj
 rw [hb.cell (p := a.add j) (by unfold Addr.add; split <;> exact ha)]
 exact this
theorem af_ (w : World) (ad : Addr) (ty : TypeId) (cs : List Value) (d : TypeDesc) (hc : CellsAt w ad cs)
  (hu : P.underlying ty = some d) (hd : (match d with | .struct _ | .array _ _ => true | _ => false) = true) (hi : (P.info? ty).map (·.size) = some cs.length) :
  (loadVar ty ad).run P w = .ok (.agg cs.toArray) w := by
 have hl : (loadCells ad cs.length).run P w = .ok cs.toArray w := run_loadCells_list (P := P) w ad cs hc
 cases hq : P.info? ty with
 | none => simp [hq] at hi
 | some i =>
  have hs : i.size = cs.length := by simpa [hq] using hi
  have hagg : (isAgg ty).run P w = .ok true w := by
   unfold isAgg
   rw [Sem.run_bind, run_underlying hu w]
   cases d <;> simp_all
  simp [loadVar, Sem.run_bind, hagg, sizeOf, typeInfo, hq, hs, hl]
theorem d8_ {o : Oper} {a : Act} {w : World} {K : Act -> World -> Prop} {Q : Exit -> Act -> World -> Prop} (ty : TypeId) (x : Operand) (ho : o.op = .load ty x)
  (ad : Addr) (hx : a.eval x = .pointer (some ad)) (cs : List Value) (d : TypeDesc) (hc : CellsAt w ad cs)
  (hu : P.underlying ty = some d) (hd : (match d with | .struct _ | .array _ _ => true | _ => false) = true) (hi : (P.info? ty).map (·.size) = some cs.length)
  (h : K (a.put o.dst (.agg cs.toArray)) w) : o.wp P a w K Q := by
 unfold Oper.wp execOp
 simp only [ho, hx, Instr.loadAt, Instr.sureAddr, Sem.run_bind, Sem.run_pure, Result.andThen_ok, af_ w ad ty cs d hc hu hd hi]
 exact h
theorem wpList_load_agg {ops : Array Oper} {rest : List Oper} {o : Oper} {a : Act} {w : World} {Q : Exit -> Act -> World -> Prop} (hgd : o.guard = none) (ty : TypeId) (x : Operand) (ho : o.op = .load ty x)
  (ad : Addr) (hx : a.eval x = .pointer (some ad)) (cs : List Value) (d : TypeDesc) (hc : CellsAt w ad cs)
  (hu : P.underlying ty = some d) (hd : (match d with | .struct _ | .array _ _ => true | _ => false) = true) (hi : (P.info? ty).map (·.size) = some cs.length)
  (h : wpList P ops Q rest (a.put o.dst (.agg cs.toArray)) w) : wpList P ops Q (o :: rest) a w :=
 wpList_plain hgd fun _ hK => d8_ ty x ho ad hx cs d hc hu hd hi (hK _ _ h)
theorem gC_ (w : World) (old cs : Array Value) (t : TypeId) : (w.alloc (.cells old t)).setRow w.heap.size cs = w.alloc (.cells cs t) := by
 unfold World.setRow World.alloc
 congr 1
 apply Array.ext_getElem?
 intro k
 simp only [Array.getElem?_modify, Array.getElem?_push]
 by_cases hk : k = w.heap.size
 ·subst hk; simp
 simp [hk, Ne.symm hk]
theorem bJ_ {ops : Array Oper} {rest : List Oper} {o : Oper} {a : Act} {w : World} {Q : Exit -> Act -> World -> Prop} (hgd : o.guard = none) (ty : TypeId) (x y : Operand) (ho : o.op = .store ty x y)
  (old cells : Array Value) (t : TypeId) (g : Nat) (hx : a.eval x = .pointer (some ⟨g, 0, none⟩)) (hg : g = w.heap.size) (hy : a.eval y = .agg cells)
  (hi : (P.info? ty).map (·.size) = some cells.size) (hs : old.size = cells.size) (h1 : cells.all (·.oneCell') = true)
  (h : wpList P ops Q rest (a.put o.dst undef) (w.alloc (.cells cells t))) : wpList P ops Q (o :: rest) a (w.alloc (.cells old t)) :=
 wpList_plain hgd fun _ hK => by
  subst hg
  have hr := run_storeVar_row (P := P) (w.alloc (.cells old t)) w.heap.size t ty old cells (heap_alloc_new w _) hi hs h1
  rw [gC_] at hr
  unfold Oper.wp execOp
  simp only [ho, hx, hy, Instr.storeAt, Instr.sureAddr, Sem.run_bind, Sem.run_pure, Result.andThen_ok, hr]
  exact hK _ _ h
end
structure CallC where
 s : Int
 n : Int
 m : Fin 17 -> Value
 a : Int
 d : Int
 t : Int
 x : Value
 one : ∀ i, (m i).oneCell' = true
 onex : x.oneCell' = true
def CallC.cells (c : CallC) : List Value :=
 [.int .i64 c.s, .int .i64 c.n, c.m 0, c.m 1, c.m 2, c.m 3, c.m 4, c.m 5, c.m 6, c.m 7, c.m 8, c.m 9, c.m 10, c.m 11, c.m 12, c.m 13, c.m 14, c.m 15, c.m 16, .int .i64 c.a, .int .i64 c.d, .int .i64 c.t, c.x]
theorem CallC.oneCell (c : CallC) : ∀ v ∈ c.cells, v.oneCell' = true := by
 intro v hv
 simp only [CallC.cells, List.mem_cons, List.not_mem_nil, or_false] at hv
 rcases hv with rfl | rfl | rfl | rfl | rfl | rfl | rfl | rfl | rfl | rfl | rfl | rfl | rfl | rfl | rfl | rfl | rfl | rfl | rfl | rfl | rfl | rfl | rfl <;> first | rfl | exact c.one _ | exact c.onex
theorem CallC.allOne (c : CallC) : c.cells.toArray.all (·.oneCell') = true := by
 rw [Array.all_eq_true_iff_forall_mem]
 intro v hv
 exact c.oneCell v (by simpa using hv)
theorem callSize (c : CallC) : (Tryz.prog.info? 52).map (·.size) = some c.cells.length := by kernel_rfl
theorem lx_ (c : CallC) : (Tryz.prog.info? 52).map (·.size) = some c.cells.toArray.size := by kernel_rfl
def CallsAt (w : World) (B : Nat) (A : Option Addr) (l : List CallC) : Prop :=
 ∀ i, i < l.length -> ∃ b off, A = some ⟨b, off, none⟩ /\ b < B /\ ∀ c, l[i]? = some c -> CellsAt w ⟨b, off + i * 23, none⟩ c.cells
theorem CallsAt.below {B B' : Nat} {w w' : World} {A : Option Addr} {l : List CallC} (h : CallsAt w B A l) (hb : Below B' w w') (hB : B <= B') : CallsAt w' B A l := by
 intro i hi
 obtain ⟨b, off, h1, h2, h3⟩ := h i hi
 exact ⟨b, off, h1, h2, fun c hc => (h3 c hc).below hb (by show b < B'; omega)⟩
section
variable {P : Program}
theorem dw_ {w : World} {ops : Array Oper} {rest : List Oper} {o : Oper} {a : Act} {Q : Exit -> Act -> World -> Prop} (hgd : o.guard = none) (s x : Operand) (t : TypeId)
  (ho : o.op = .call { callee := .builtin .append, args := #[s, x], argTypes := #[t, t] })
  (base : Nat) (e : TypeId) (z : Value) (size bytes : Nat) (ht : P.underlying t = some (.slice e)) (hinfo : (P.info? e).map (fun i => (i.zero, i.size, i.bytes)) = some (some z, size, bytes))
  (hzs : z.cells.size = size) (hsz : 0 < size)
  (v : Value) (n : Nat) (xs : List Value) (hs : a.eval s = v) (hown : w.ownsRow base e size v n xs)
  (cs : Array Value) (g : Nat) (hx : a.eval x = .slice (some ⟨g, 0, none⟩) 1 1) (hg : g = w.heap.size) (hcs : cs.size = size) (h1 : cs.all (·.oneCell') = true)
  (h63 : n + 1 <= maxLen) (hbytes : (n + 1) * bytes <= 140737488355328) (hbase : base <= w.heap.size)
  (h : ∀ v' w', w'.ownsRow base e size v' (n + 1) (xs ++ cs.toList) -> Below base w w' -> wpList P ops Q rest (a.put o.dst v') w') :
  wpList P ops Q (o :: rest) a (w.alloc (.cells cs e)) := by
 obtain ⟨i, hi, hz, h4, h5⟩ := info_parts hinfo
 subst hg
 refine wpList_append_own (w.alloc (.cells cs e)) hgd s x t ho base e i z size bytes ht hi hz h4 h5 hzs hsz v n xs hs (hown.alloc _) ⟨w.heap.size, 0, none⟩ 1 1 cs.toList hx (by simp [hcs]) ?_ ?_ h63 hbytes (by simp; omega) ?_
 ·intro j u hj
  have e1 : ((⟨w.heap.size, 0, none⟩ : Addr).add j) = ⟨w.heap.size, j, none⟩ := by unfold Addr.add; split <;> simp_all
  rw [e1, cell_of_row _ _ j cs e (0, 0) (heap_alloc_new w _)]
  simpa using hj
 ·intro u hu
  exact (Array.all_eq_true_iff_forall_mem.1 h1) u (by simpa using hu)
 intro v' w' hown' hg _
 exact h v' w' hown' (((BR base w).alloc hbase _).grown hg (by simp; omega) (fun k hk => (hown.lt k hk).1))
theorem aK_ {w : World} {ops : Array Oper} {rest : List Oper} {o : Oper} {a : Act} {Q : Exit -> Act -> World -> Prop} (hgd : o.guard = none) (s x : Operand) (t : TypeId)
  (ho : o.op = .call { callee := .builtin .append, args := #[s, x], argTypes := #[t, t] })
  (base : Nat) (e : TypeId) (z : Value) (bytes : Nat) (ht : P.underlying t = some (.slice e)) (hinfo : (P.info? e).map (fun i => (i.zero, i.size, i.bytes)) = some (some z, 1, bytes))
  (hzs : z.cells.size = 1)
  (v : Value) (n : Nat) (xs : List Value) (hs : a.eval s = v) (hown : w.ownsRow base e 1 v n xs)
  (u : Value) (g : Nat) (hx : a.eval x = .slice (some ⟨g, 0, none⟩) 1 1) (hg : g = w.heap.size) (h1 : u.oneCell' = true)
  (h63 : n + 1 <= maxLen) (hbytes : (n + 1) * bytes <= 140737488355328) (hbase : base <= w.heap.size)
  (h : ∀ v' w', w'.ownsRow base e 1 v' (n + 1) (xs ++ [u]) -> Below base w w' -> wpList P ops Q rest (a.put o.dst v') w') :
  wpList P ops Q (o :: rest) a (w.alloc (.cells #[u] e)) :=
 dw_ hgd s x t ho base e z 1 bytes ht hinfo hzs (by decide) v n xs hs hown #[u] g hx hg rfl (by simp [h1]) h63 hbytes hbase h
theorem bh_ {w : World} {b b' : Nat} {e : TypeId} {size : Nat} {v : Value} {n : Nat} {xs : List Value} (h : w.ownsRow b e size v n xs) (hb : b' <= b) : w.ownsRow b' e size v n xs := by
 refine ⟨h.1, ?_⟩
 rcases h.2 with h2 | ⟨g, cap, cur, hv, hg, r⟩
 ·exact .inl h2
 exact .inr ⟨g, cap, cur, hv, lT hb hg, r⟩
end
theorem cb_ {w w' : World} {b : Nat} {e : TypeId} {size : Nat} {v : Value} {n : Nat} {xs : List Value} (h : w.ownsRow b e size v n xs) (hb : Bw w w') : w'.ownsRow b e size v n xs :=
 h.kept (row := none) ⟨hb.os, hb.tape, hb.output, hb.size, fun k hk _ => hb.block k hk⟩ (by cases v.ownBlock <;> simp)
theorem below1 (w : World) (o : Obj) : Bw w (w.alloc o) := (BR _ _).alloc (lR _) o
theorem dT_ (w : World) (o o' : Obj) : Bw w ((w.alloc o).alloc o') := (below1 w o).alloc (by simp) o'
theorem dS_ (w : World) (o o' o'' : Obj) : Bw w (((w.alloc o).alloc o').alloc o'') := (dT_ w o o').alloc (by simp; omega) o''
theorem ah_ {a b : Bool} (h : a = b) : Ending.returned (.bool a) = Ending.returned (.bool b) := by rw [h]
theorem Tryz.info3 : (Tryz.prog.info? 3).map (fun i => (i.zero, i.size, i.bytes)) = some (some (.int .i64 0), 1, 8) := by kernel_rfl
end Go.Proofs.YtnjhpgmbfblgaaaGreat.Ord
namespace Go.Proofs.YtnjhpgmbfblgaaaGreat.Ord
open Go.RowKit Go.Sort
section
variable {P : Program}
theorem ay_ {ops : Array Oper} {C : World -> Prop} {Q : Act -> Prop} {a : Act} {o : Oper} {rest : List Oper} (hgd : o.guard = none) (ty : TypeId) (x : Operand) (ho : o.op = .load ty x)
  (ad : Addr) (hx : a.eval x = .pointer (some ad)) (cs : List Value) (d : TypeDesc) (hc : ∀ W, C W -> CellsAt W ad cs)
  (hu : P.underlying ty = some d) (hd : (match d with | .struct _ | .array _ _ => true | _ => false) = true) (hi : (P.info? ty).map (·.size) = some cs.length)
  (h : wpQuiet P ops C Q rest (a.put o.dst (.agg cs.toArray))) : wpQuiet P ops C Q (o :: rest) a := by
 refine wpQuiet_step fun K hK => ?_
 rw [if_pos (by simp [Region.wanted, hgd])]
 refine ⟨.agg cs.toArray, fun W hW => ?_, hK _ h⟩
 unfold Oper.quietAt execOp
 simp only [ho, hx, Instr.loadAt, Instr.sureAddr, Sem.run_bind, Sem.run_pure, Result.andThen_ok, af_ W ad ty cs d (hc W hW) hu hd hi]
 exact ⟨rfl, rfl⟩
theorem CellsAt.regrown {w : World} {a : Addr} {cs : List Value} (h : CellsAt w a cs) : ∀ W, (∃ p : Regrown, W = grow (redrawn w p.d) p.os) -> CellsAt W a cs := by
 rintro W ⟨p, rfl⟩ j v hj
 exact cell_regrown (h j v hj) _ _
theorem an_ {w W : World} (h : ∃ p : Regrown, W = grow (redrawn w p.d) p.os) : Bw w W := by
 obtain ⟨p, rfl⟩ := h
 exact below_regrown w _ _
end
def IntsAt (w : World) (B : Nat) (A : Option Addr) (xs : List Int) : Prop :=
 ∀ i, i < xs.length -> ∃ b off, A = some ⟨b, off, none⟩ /\ b < B /\ ∀ x, xs[i]? = some x -> w.cell? ⟨b, off + i, none⟩ = some (.int .i64 x)
theorem IntsAt.below {B B' : Nat} {w w' : World} {A : Option Addr} {l : List Int} (h : IntsAt w B A l) (hb : Below B' w w') (hB : B <= B') : IntsAt w' B A l := by
 intro i hi
 obtain ⟨b, off, h1, h2, h3⟩ := h i hi
 exact ⟨b, off, h1, h2, fun c hc => (hb.cell (p := ⟨b, off + i, none⟩) (by show b < B'; omega)).trans (h3 c hc)⟩
theorem CallsAt.mono {B B' : Nat} {w : World} {A : Option Addr} {l : List CallC} (h : CallsAt w B A l) (hB : B <= B') : CallsAt w B' A l := by
 intro i hi
 obtain ⟨b, off, h1, h2, h3⟩ := h i hi
 exact ⟨b, off, h1, by omega, h3⟩
theorem ax_ {w : World} {base : Nat} {e : TypeId} {v : Value} {n : Nat} {ys : List Value} (h : w.ownsRow base e 1 v n ys) : ∃ A cap, v = .slice A n cap := by
 rcases h.2 with ⟨he, rfl⟩ | ⟨g, cap', cur, he, _⟩
 ·exact ⟨_, _, he⟩
 exact ⟨_, _, he⟩
end Go.Proofs.YtnjhpgmbfblgaaaGreat.Ord
namespace Go.Proofs.YtnjhpgmbfblgaaaGreat.Ord
open Go.ChangeShapes Go.WideShapes Go.RowKit Go.Deep
def cx_ (P : Program) (F : TypeId -> Option (List TypeId)) : List Field -> List TypeId -> Option (List TypeId)
 | [], acc => some acc
 | f :: fs, acc => (F f.type).bind fun l2 => if f.offset = acc.length /\ l2.length = P.cellsOf f.type then cx_ P F fs (acc ++ l2) else none
def leaves (P : Program) : Nat -> TypeId -> Option (List TypeId)
 | 0, _ => none
 | n + 1, t =>
  match P.underlying t with
  | some (.struct fs) => (cx_ P (leaves P n) fs.toList []).bind fun l => if l.length = P.cellsOf t then some l else none
  | some (.array _ _) => none
  | none => none
  | some _ => some [t]
def iS_ : TypeDesc -> Bool
 | .struct _ | .array _ _ => true
 | _ => false
section
variable {H : Type} {enc : TypeId × Value -> H} {P : Program} {w : World} {base : Nat} {spare : Nat -> Bool} {held : Bool}
theorem gv_ {t : TypeId} {fuel : Nat} {cs : List Value} {x : DataW H × List MemPlace} {d : TypeDesc} (hu : P.underlying t = some d) (hd : iS_ d = false)
  (h : DataW.trod enc P w base spare held fuel t cs = some x) : ∃ v, cs = [v] /\ v.oneCell' = true := by
 cases fuel with
 | zero => simp [DataW.trod] at h
 | succ n =>
  unfold DataW.trod at h
  rw [hu] at h
  split at h <;> first | exact ⟨_, rfl, rfl⟩ | (simp at h; done) | (simp_all [iS_]; done)
def Leaf (enc : TypeId × Value -> H) (P : Program) (w : World) (base : Nat) (spare : Nat -> Bool) (held : Bool) (cs : List Value) (j : Nat) (t : TypeId) : Prop :=
 ∃ v fuel y, cs[j]? = some v /\ v.oneCell' = true /\ DataW.trod enc P w base spare held fuel t [v] = some y
theorem dP_ {F : TypeId -> Option (List TypeId)} (cs : List Value)
  (hF : ∀ t ts, F t = some ts -> ∀ fuel cs x, DataW.trod enc P w base spare held fuel t cs = some x -> cs.length = ts.length /\ ∀ j tj, ts[j]? = some tj -> Leaf enc P w base spare held cs j tj) :
  ∀ (fs : List Field) (acc ts : List TypeId), cx_ P F fs acc = some ts ->
   (∀ f ∈ fs, ∃ fuel y, DataW.trod enc P w base spare held fuel f.type ((cs.drop f.offset).take (P.cellsOf f.type)) = some y) ->
   (∀ j tj, acc[j]? = some tj -> Leaf enc P w base spare held cs j tj) -> ∀ j tj, ts[j]? = some tj -> Leaf enc P w base spare held cs j tj
 | [], acc, ts, h, _, hacc => by
  simp only [cx_, Option.some.injEq] at h
  subst h
  exact hacc
 | f :: fs, acc, ts, h, hfs, hacc => by
  simp only [cx_] at h
  obtain ⟨l2, h2, h3⟩ := Option.bind_eq_some_iff.1 h
  split at h3
  ·rename_i hc
   refine dP_ cs hF fs (acc ++ l2) ts h3 (fun g hg => hfs g (mM _ hg)) fun j tj hj => ?_
   rcases Nat.lt_or_ge j acc.length with hlt | hge
   ·rw [aL hlt] at hj
    exact hacc j tj hj
   rw [aR hge] at hj
   obtain ⟨fuel, y, hy⟩ := hfs f List.mem_cons_self
   obtain ⟨hl, hall⟩ := hF _ _ h2 _ _ _ hy
   obtain ⟨v, fu, y2, hv, h1, ht⟩ := hall _ _ hj
   refine ⟨v, fu, y2, ?_, h1, ht⟩
   have hjl : j - acc.length < P.cellsOf f.type := by
    have := (gS.1 hj).1
    omega
   rw [List.getElem?_take_of_lt hjl, List.getElem?_drop, hc.1] at hv
   rw [<- hv]
   congr 1
   omega
  cases h3
theorem leaves_spec : ∀ (n : Nat) (t : TypeId) (ts : List TypeId), leaves P n t = some ts -> ∀ fuel cs x, DataW.trod enc P w base spare held fuel t cs = some x ->
  cs.length = ts.length /\ ∀ j tj, ts[j]? = some tj -> Leaf enc P w base spare held cs j tj
 | 0, t, ts, h => by simp [leaves] at h
 | n + 1, t, ts, h => by
  intro fuel cs x hx
  unfold leaves at h
  split at h
  ·rename_i fs hu
   obtain ⟨l, hl, h3⟩ := Option.bind_eq_some_iff.1 h
   split at h3
   ·rename_i hc
    simp only [Option.some.injEq] at h3
    subst h3
    obtain ⟨xs, n', _, _, hlen, hxl, hf⟩ := DataW.trod_struct hu hx
    refine ⟨hlen.trans hc.symm, dP_ cs (leaves_spec n) fs.toList [] _ hl (fun f hf' => ?_) (by simp)⟩
    obtain ⟨i, hi, rfl⟩ := List.getElem_of_mem hf'
    have hi' : i < fs.size := by simpa using hi
    have := hf i (fs.toList[i]) (by simp [hi'])
    rw [gE (by omega)] at this
    exact ⟨_, _, this⟩
   cases h3
  ·cases h
  ·cases h
  rename_i d hns hna hu
  simp only [Option.some.injEq] at h
  subst h
  obtain ⟨v, rfl, h1⟩ := gv_ hu (by cases d <;> simp_all [iS_]) hx
  refine ⟨rfl, fun j tj hj => ?_⟩
  match j with
  | 0 =>
   simp at hj
   subst hj
   exact ⟨v, fuel, x, rfl, h1, hx⟩
  | j + 1 => simp at hj
theorem leaf_int {cs : List Value} {j : Nat} {t : TypeId} {k : IntKind} (hu : P.underlying t = some (.int k)) (h : Leaf enc P w base spare held cs j t) : ∃ n, cs[j]? = some (.int k n) /\ (Lit.int k n).wf = true := by
 obtain ⟨v, fu, y, hv, _, ht⟩ := h
 obtain ⟨n, hn, _, hw⟩ := DataW.trod_int hu ht
 simp at hn
 subst hn
 exact ⟨n, hv, hw⟩
end
theorem cell_lt {w : World} {a : Addr} {v : Value} (h : w.cell? a = some v) : a.block < w.heap.size := by
 rcases Nat.lt_or_ge a.block w.heap.size with h' | h'
 ·exact h'
 simp [World.cell?, Array.getElem?_eq_none h'] at h
end Go.Proofs.YtnjhpgmbfblgaaaGreat.Ord
namespace Go.Proofs.YtnjhpgmbfblgaaaGreat.Ord
open Go.ChangeShapes Go.WideShapes Go.ChangeAt Go.RowKit
theorem own : ownKnob Tryz.prog.godebug = none := by kernel_rfl
theorem laidOut : laidOutB Tryz.prog = true := by kernel_rfl
end Go.Proofs.YtnjhpgmbfblgaaaGreat.Ord
namespace Go.Proofs.YtnjhpgmbfblgaaaGreat.Ord
open Go.RowKit
def Src (w : World) (A : Option Addr) (m c : Nat) (news : List Value) : Prop :=
 (m = 0 /\ news = [] /\ (A = none -> c = 0)) ∨ ∃ ad, A = some ad /\ ∀ j u, news[j]? = some u -> w.cell? (ad.add j) = some u
section
variable {P : Program}
theorem ae_ {w : World} {ops : Array Oper} {rest : List Oper} {o : Oper} {a : Act} {Q : Exit -> Act -> World -> Prop} (hgd : o.guard = none) (s x : Operand) (t : TypeId)
  (ho : o.op = .call { callee := .builtin .append, args := #[s, x], argTypes := #[t, t] })
  (base : Nat) (e : TypeId) (z : Value) (size bytes : Nat) (ht : P.underlying t = some (.slice e)) (hinfo : (P.info? e).map (fun i => (i.zero, i.size, i.bytes)) = some (some z, size, bytes))
  (hzs : z.cells.size = size) (hsz : 0 < size)
  (v : Value) (n : Nat) (xs : List Value) (hs : a.eval s = v) (hown : w.ownsRow base e size v n xs)
  (A : Option Addr) (m c : Nat) (news : List Value) (hx : a.eval x = .slice A m c) (hl : news.length = m * size) (hsrc : Src w A m c news) (h1 : ∀ u ∈ news, u.oneCell' = true)
  (h63 : n + m <= maxLen) (hbytes : (n + m) * bytes <= 140737488355328) (hbase : base <= w.heap.size)
  (h : ∀ v' w', w'.ownsRow base e size v' (n + m) (xs ++ news) -> w.grownBy w' v.ownBlock -> Below base w w' -> wpList P ops Q rest (a.put o.dst v') w') :
  wpList P ops Q (o :: rest) a w := by
 obtain ⟨i, hi, hz, h4, h5⟩ := info_parts hinfo
 have hB : ∀ w', w.grownBy w' v.ownBlock -> Below base w w' := fun w' hg => (BR base w).grown hg hbase (fun k hk => (hown.lt k hk).1)
 have fin : ∀ ad, A = some ad -> (∀ j u, news[j]? = some u -> w.cell? (ad.add j) = some u) -> wpList P ops Q (o :: rest) a w := by
  intro ad hA hc
  subst hA
  exact wpList_append_own w hgd s x t ho base e i z size bytes ht hi hz h4 h5 hzs hsz v n xs hs hown ad m c news hx hl hc h1 h63 hbytes hbase (fun v' w' ho hg _ => h v' w' ho hg (hB w' hg))
 rcases hsrc with ⟨rfl, rfl, hc⟩ | ⟨ad, hA, hc⟩
 ·cases A with
  | some ad => exact fin ad rfl (by simp)
  | none =>
   obtain rfl := hc rfl
   refine wpList_plain hgd fun K hK => ?_
   have hrun := run_append_owned_none (P := P) w base t o.type e i size ht hi v n xs hown
   unfold Oper.wp
   simp [execOp, ho, resolve, invoke, builtin, hs, hx, hrun, Result.andThen]
   exact hK _ _ (h v w (by simpa using hown) (World.grownBy.refl _ _) (BR _ _))
 exact fin ad hA hc
end
theorem bc_ {w : World} {base : Nat} {e : TypeId} {size : Nat} {v : Value} {n : Nat} {xs : List Value} (h : w.ownsRow base e size v n xs) (hs : 0 < size) :
  (v = .slice none 0 0 /\ n = 0 /\ xs = []) ∨ ∃ g cap, v = .slice (some ⟨g, 0, none⟩) n cap /\ base <= g /\ g < w.heap.size /\ n <= cap /\ cap <= maxLen := by
 rcases h.2 with ⟨h1, h2⟩ | ⟨g, cap, cur, hv, hb, hh, hn, hc, _⟩
 ·refine .inl ⟨h1, h2, eN ?_⟩
  rw [h.1, h2]; simp
 exact .inr ⟨g, cap, hv, hb, (Array.getElem?_eq_some_iff.1 hh).1, hn, hc⟩
theorem hD_ {w : World} {base : Nat} {e : TypeId} {g n cap : Nat} {xs : List Value} (h : w.ownsRow base e 1 (.slice (some ⟨g, 0, none⟩) n cap) n xs) (lo m c : Nat) (hm : lo + m <= n) {A : Option Addr} (hA : 0 < m -> A = some ⟨g, lo, none⟩) (hA0 : A ≠ none) :
  Src w A m c ((xs.drop lo).take m) := by
 rcases Nat.eq_zero_or_pos m with h0 | h0
 ·subst h0
  exact .inl ⟨rfl, by simp, fun h => absurd h hA0⟩
 refine .inr ⟨_, hA h0, fun j u hj => ?_⟩
 have hj' : j < m := by
  have := (gS.1 hj).1
  simp at this; omega
 rw [List.getElem?_take_of_lt hj', List.getElem?_drop] at hj
 have e1 : ((⟨g, lo, none⟩ : Addr).add j) = ⟨g, lo + j, none⟩ := by unfold Addr.add; split <;> simp_all
 rw [e1, h.cellAt (lo + j) (by omega)]
 exact hj
set_option maxRecDepth 100000
set_option maxHeartbeats 16000000
def Byt (w : World) (B : Nat) (A : Option Addr) (c : Nat) (xs : List Int) : Prop :=
 (A = none -> c = 0) /\ xs.length <= c /\ ∀ i, i < xs.length -> ∃ b off, A = some ⟨b, off, none⟩ /\ b < B /\ ∀ x, xs[i]? = some x -> w.cell? ⟨b, off + i, none⟩ = some (.int .u8 x)
theorem Byt.below {B B' : Nat} {w w' : World} {A : Option Addr} {c : Nat} {l : List Int} (h : Byt w B A c l) (hb : Below B' w w') (hB : B <= B') : Byt w' B A c l := by
 refine ⟨h.1, h.2.1, fun i hi => ?_⟩
 obtain ⟨b, off, h1, h2, h3⟩ := h.2.2 i hi
 exact ⟨b, off, h1, h2, fun x hx => (hb.cell (p := ⟨b, off + i, none⟩) (by show b < B'; omega)).trans (h3 x hx)⟩
theorem Byt.mono {B B' : Nat} {w : World} {A : Option Addr} {c : Nat} {l : List Int} (h : Byt w B A c l) (hB : B <= B') : Byt w B' A c l := by
 refine ⟨h.1, h.2.1, fun i hi => ?_⟩
 obtain ⟨b, off, h1, h2, h3⟩ := h.2.2 i hi
 exact ⟨b, off, h1, by omega, h3⟩
theorem Byt.nil (w : World) (B : Nat) : Byt w B none 0 [] := ⟨fun _ => rfl, lR _, fun i hi => absurd hi (by simp)⟩
theorem q22 (w : World) (a : Option Addr) (n c n' c' : Nat) : (binOp .eql 26 (.slice a n c) (.slice none n' c')).run Tryz.prog w = .ok (.bool a.isNone) w := Lib.run_eql_slice_nil w _ _ a n c n' c' Tryz.underlying26
theorem Byt.of_owns {w : World} {base : Nat} {A : Option Addr} {n c : Nat} {xs : List Int} (h : w.ownsRow base 5 1 (.slice A n c) n (xs.map (Value.int .u8))) : n = xs.length /\ Byt w w.heap.size A c xs := by
 have hn : n = xs.length := by have := h.1; simp at this; omega
 refine ⟨hn, ?_⟩
 rcases bc_ h (by decide) with ⟨h1, h2, _⟩ | ⟨g, cap, h1, _, hlt, h2, _⟩
 ·cases h1
  exact ⟨fun _ => rfl, by omega, fun i hi => by omega⟩
 cases h1
 refine ⟨(fun h => by cases h), by omega, fun i hi => ⟨g, 0, rfl, hlt, fun x hx => ?_⟩⟩
 have := h.cells (g := g) rfl i (.int .u8 x) (by simp [hx])
 rwa [show ((⟨g, 0, none⟩ : Addr).add i) = ⟨g, 0 + i, none⟩ by unfold Addr.add; split <;> simp_all] at this
theorem Byt.src {w : World} {B : Nat} {A : Option Addr} {c : Nat} {xs : List Int} (h : Byt w B A c xs) : Src w A xs.length c (xs.map (Value.int .u8)) := by
 cases xs with
 | nil => exact .inl ⟨rfl, rfl, h.1⟩
 | cons x xs =>
  obtain ⟨b, off, hA, _, _⟩ := h.2.2 0 (by simp)
  refine .inr ⟨_, hA, fun j u hj => ?_⟩
  rw [gM] at hj
  obtain ⟨y, hy, rfl⟩ := Option.map_eq_some_iff.1 hj
  obtain ⟨b', off', hA', _, h3⟩ := h.2.2 j (gS.1 hy).1
  rw [hA] at hA'
  cases hA'
  rw [show ((⟨b, off, none⟩ : Addr).add j) = ⟨b, off + j, none⟩ by unfold Addr.add; split <;> simp_all]
  exact h3 y hy
theorem eY_ (xs : List Int) : ∀ u ∈ xs.map (Value.int .u8), u.oneCell' = true := by
 intro u hu
 obtain ⟨x, _, rfl⟩ := List.mem_map.1 hu
 rfl
theorem Tryz.info5 : (Tryz.prog.info? 5).map (fun i => (i.zero, i.size, i.bytes)) = some (some (.int .u8 0), 1, 1) := by kernel_rfl
def Own8 (w : World) (base : Nat) (v : Value) (xs : List Int) : Prop := w.ownsRow base 5 1 v xs.length (xs.map (Value.int .u8))
theorem Own8.raw {w : World} {base : Nat} {v : Value} {xs : List Int} (h : Own8 w base v xs) : w.ownsRow base 5 1 v xs.length (xs.map (Value.int .u8)) := h
theorem Own8.nil (w : World) (base : Nat) : Own8 w base (.slice none 0 0) [] := World.ownsRow_nil _ _ _ _
theorem Own8.val {w : World} {base : Nat} {v : Value} {xs : List Int} (h : Own8 w base v xs) : ∃ A c, v = .slice A xs.length c /\ Byt w w.heap.size A c xs := by
 obtain ⟨A, c, rfl⟩ := ax_ h
 exact ⟨A, c, rfl, (Byt.of_owns h).2⟩
theorem Own8.snoc {w : World} {base : Nat} {v : Value} {xs : List Int} {x : Int} (h : w.ownsRow base 5 1 v (xs.length + 1) (xs.map (Value.int .u8) ++ [.int .u8 x])) : Own8 w base v (xs ++ [x]) := by
 unfold Own8; simpa using h
theorem Own8.app {w : World} {base n : Nat} {v : Value} {xs ys : List Int} (hn : n = ys.length) (h : w.ownsRow base 5 1 v (xs.length + n) (xs.map (Value.int .u8) ++ ys.map (Value.int .u8))) : Own8 w base v (xs ++ ys) := by
 subst hn; unfold Own8; simpa using h
theorem hp_ (A : Option Addr) (n c : Nat) (xs : List Int) (w : World) (hn : xs.length = n) (hl : n <= 100000000) (hA : Byt w w.heap.size A c xs) :
  Calls Tryz.prog 106 #[.slice A n c] w fun e w' => ∃ v, e = .returned v /\ Own8 w' w.heap.size v xs /\ Bw w w' := by
 subst hn
 cases A with
 | none =>
  have hc0 : c = 0 := hA.1 rfl
  subst hc0
  have hx : xs = [] := by have := hA.2.1; exact eN (by omega)
  subst hx
  have hq := q22
  go_enter Tryz.func106, Tryz.ntmps106
  go_wp2_with fail
  go_ret
  exact ⟨_, rfl, Own8.nil _ _, BR _ _⟩
 | some ad =>
  have hb := below1 w (.cells #[] 5)
  obtain ⟨hsrc, hown, hs⟩ := kq3 (hA.below hb (lR _)).src (World.ownsRow_made (e := 5) (size := 1) (base := w.heap.size) w #[] 0 (lR _) (by unfold maxLen; omega) rfl) (show w.heap.size <= (w.alloc (.cells #[] 5)).heap.size by simp)
  generalize hN : xs.length = N at *
  have HN := kp hN
  clear hN
  have hq := q22
  go_enter Tryz.func106, Tryz.ntmps106
  go_wp2_with ((with_reducible refine ae_ (o := ⟨some 7, _, _, _, _, _⟩) rfl _ _ 26 rfl w.heap.size 5 (.int .u8 0) 1 1 Tryz.underlying26 Tryz.info5 rfl (by decide) _ _ [] ?_ hown.o (some ad) N c (xs.map (Value.int .u8)) ?_ ?_ hsrc.o (eY_ _) ?_ ?_ hs.o ?_); (· rfl); (· rfl); (· simp [HN.o]); (· unfold maxLen; omega); (· omega); intro v1 w1 hown1 _ hb1)
  go_ret
  exact ⟨_, rfl, Own8.app HN.o.symm (xs := []) (by simpa using hown1), hb.trans hb1⟩
theorem kD_ : (List.range 256).all (fun x => (x ||| 128) == 128 + x % 128) = true := by decide +kernel
theorem or128 {x : Nat} (h : x < 256) : x ||| 128 = 128 + x % 128 := eq_of_beq (List.all_eq_true.1 kD_ x (List.mem_range.2 h))
theorem u8_nat {n : Nat} (h : n < 256) : IntKind.u8.wrap (n : Int) = n := by
 rw [IntKind.wrap_u8]; omega
theorem or_u8 {x : Nat} (h : x < 256) : bits .or .u8 (x : Int) 128 = ((128 + x % 128 : Nat) : Int) := by
 have e1 : BitVec.ofInt IntKind.u8.bits (x : Int) = BitVec.ofNat 8 x := BitVec.ofInt_natCast (w := 8) x
 have e2 : BitVec.ofInt IntKind.u8.bits (128 : Int) = BitVec.ofNat 8 128 := rfl
 unfold bits
 simp only [e1, e2]
 show IntKind.u8.wrap (((BitVec.ofNat 8 x ||| BitVec.ofNat 8 128).toNat : Nat) : Int) = _
 rw [BitVec.toNat_or, BitVec.toNat_ofNat, BitVec.toNat_ofNat, Nat.mod_eq_of_lt (show x < 2 ^ 8 by omega), show 128 % 2 ^ 8 = 128 from rfl, or128 h, u8_nat (by omega)]
theorem or_u8m (m : Nat) : bits .or .u8 ((m : Int) % 256) 128 = ((128 + m % 128 : Nat) : Int) := by
 have e : ((m : Int) % 256) = ((m % 256 : Nat) : Int) := by omega
 rw [e, or_u8 (Nat.mod_lt _ (by decide)), show m % 256 % 128 = m % 128 by omega]
def putV (n : Nat) : List Int := if n <= 127 then [(n : Int)] else ((128 + n % 128 : Nat) : Int) :: putV (n / 128)
termination_by n
decreasing_by omega
theorem bp_ {n : Nat} (h : n <= 127) : putV n = [(n : Int)] := by rw [putV, if_pos h]
theorem bt_ {n : Nat} (h : ¬ n <= 127) : putV n = ((128 + n % 128 : Nat) : Int) :: putV (n / 128) := by rw [putV, if_neg h]
theorem iE_ : ∀ (k n : Nat), n < 128 ^ (k + 1) -> (putV n).length <= k + 1
 | 0, n, h => by rw [bp_ (by omega)]; simp
 | k + 1, n, h => by
  by_cases h1 : n <= 127
  ·rw [bp_ h1]; simp
  rw [bt_ h1]
  have h2 : n / 128 < 128 ^ (k + 1) := by
   rw [Nat.pow_succ] at h
   exact Nat.div_lt_of_lt_mul (by rw [Nat.mul_comm]; exact h)
  have := iE_ k (n / 128) h2
  simp only [List.length_cons]
  omega
theorem ad_ {n : Nat} (h : n < 18446744073709551616) : (putV n).length <= 10 := iE_ 9 n (Nat.lt_trans h (by decide))
theorem ct_ (A : Option Addr) (k c : Nat) (xs : List Int) (n : Nat) (w : World) (hk : xs.length = k) (hn : n < 18446744073709551616) (hl : k <= 10000000) (hA : Byt w w.heap.size A c xs) :
  Calls Tryz.prog 233 #[.slice A k c, .int .u64 n] w fun e w' => ∃ v, e = .returned v /\ Own8 w' w.heap.size v (xs ++ putV n) /\ Bw w w' := by
 have HC := kp (hp_ A k c xs w hk (by omega) hA)
 have H10 := ad_ hn
 have HK := kp hk
 clear hk
 go_enter Tryz.func233, Tryz.ntmps233
 go_wp2_with fail
 refine HC.o.mono ?_
 rintro e w1 ⟨v1, rfl, hown1, hb1⟩
 go_wp2_with fail
 go_loopw [1, 5] (fun j v wr => ∃ (m : Nat) (ys : List Int), j = .int .u64 m /\ m < 18446744073709551616 /\ ys ++ putV m = putV n /\ Own8 wr w.heap.size v (xs ++ ys) /\ Bw w wr) (fun j _ _ => (intOf j).toNat)
 case atStart => exact ⟨n, [], rfl, hn, rfl, by simpa using hown1, hb1⟩
 obtain ⟨m, ys, rfl, hm, hys, hown, hb⟩ := hrel
 have hyl : ys.length + (putV m).length <= 10 := by rw [<- lA, hys]; exact H10
 have hxy : (xs ++ ys).length <= 10000010 := by rw [lA, HK.o]; omega
 have hown := kp hown.raw
 by_cases h1 : m <= 127
 ·have hg : decide ((127 : Int) < (m : Int)) = false := by simp; omega
  go_wp2_with ((with_reducible refine aK_ (o := ⟨some 22, _, _, _, _, _⟩) rfl _ _ 26 rfl w.heap.size 5 (.int .u8 0) 1 Tryz.underlying26 Tryz.info5 rfl _ (xs ++ ys).length _ ?_ hown.o _ wr.heap.size ?_ ?_ ?_ ?_ ?_ hb.size ?_); (· rfl); (· rfl); (· rfl); (· rfl); (· unfold maxLen; omega); (· omega); intro v2 w2 hown2 hb2)
  go_ret
  refine ⟨_, rfl, ?_, hb.trans hb2⟩
  rw [<- hys, bp_ h1, <- aA]
  exact Own8.snoc hown2
 have hg : decide ((127 : Int) < (m : Int)) = true := by simp; omega
 go_wp2_with ((with_reducible refine aK_ (o := ⟨some 17, _, _, _, _, _⟩) rfl _ _ 26 rfl w.heap.size 5 (.int .u8 0) 1 Tryz.underlying26 Tryz.info5 rfl _ (xs ++ ys).length _ ?_ hown.o _ wr.heap.size ?_ ?_ ?_ ?_ ?_ hb.size ?_); (· rfl); (· rfl); (· rfl); (· rfl); (· unfold maxLen; omega); (· omega); intro v2 w2 hown2 hb2)
 go_roundw
 case rel =>
  refine ⟨m / 128, ys ++ [((128 + m % 128 : Nat) : Int)], by go_num, by omega, by rw [aA, <- hys, bt_ h1]; rfl, ?_, hb.trans hb2⟩
  rw [<- aA]
  rw [or_u8m] at hown2
  exact Own8.snoc hown2
 simp [intOf]; omega
theorem cu_ (A A2 : Option Addr) (k c k2 c2 : Nat) (xs ys : List Int) (w : World) (hk : xs.length = k) (hk2 : ys.length = k2) (hl : k <= 1000000) (hl2 : k2 <= 1000000) (hA : Byt w w.heap.size A c xs) (hA2 : Byt w w.heap.size A2 c2 ys) :
  Calls Tryz.prog 361 #[.slice A k c, .slice A2 k2 c2] w fun e w' => ∃ v, e = .returned v /\ Own8 w' w.heap.size v (xs ++ putV k2 ++ ys) /\ Bw w w' := by
 have HP := kp (ct_ A k c xs k2 w hk (by omega) (by omega) hA)
 have hpl := ad_ (n := k2) (by omega)
 have hxl : (xs ++ putV k2).length <= 1000010 := by rw [lA]; omega
 have Aa := kp hk2
 clear hk2
 have Ab := kp hA2
 clear hA2
 go_enter Tryz.func361, Tryz.ntmps361
 go_wp2_with fail
 refine HP.o.mono ?_
 rintro e w1 ⟨v1, rfl, hown1, hb1⟩
 obtain ⟨hown, hsrc⟩ := kq2 hown1.raw (Ab.o.below hb1 (lR _)).src
 go_wp2_with ((with_reducible refine ae_ (o := ⟨some 11, _, _, _, _, _⟩) rfl _ _ 26 rfl w.heap.size 5 (.int .u8 0) 1 1 Tryz.underlying26 Tryz.info5 rfl (by decide) _ (xs ++ putV k2).length _ ?_ hown.o A2 k2 c2 (ys.map (Value.int .u8)) ?_ ?_ ?_ (eY_ _) ?_ ?_ hb1.size ?_); (· rfl); (· rfl); (· simp [Aa.o]); (· have := hsrc.o; rw [Aa.o] at this; exact this); (· unfold maxLen; omega); (· omega); intro v2 w2 hown2 _ hb2)
 go_ret
 exact ⟨_, rfl, Own8.app Aa.o.symm hown2, hb1.trans hb2⟩
end Go.Proofs.YtnjhpgmbfblgaaaGreat.Ord
