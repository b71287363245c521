/- Laws of the walk that this seat's texts share: a struct loaded from any address; Laws of the walk that this seat's texts share: one element appended to a row of the call's own; small lemmas on rows and worlds; Laws for regions that draw their order, whose operations read and whose callees make memory: structs loaded in them; ints as slices; An argument that is a slice of calls, opened: the leaves of a type in the order of its cells; What the rows of the laws need from their walks; Laws for an append whose source may be nil, empty or another row; Slices of bytes; walks of slices.Clone, varint.Put, varint.PutBytes. -/
import Derived.Test.YtnjhpgmbfblgaaaGreatChecked
import Derived.WalkKit
import Derived.BigQuiet
import Derived.Outline
import Derived.Lib.Hide
import Derived.Lib.QuietBelow
import Derived.Deep.Slices
import Derived.Deep.Fields
import Derived.ChangeSame
import Derived.OpenShut
import Derived.Test.YtnjhpgmbfblgaaaGreatRows
import Derived.ProofKit
import Derived.ShutString
import Derived.ChangeOld
import Derived.Below
import Derived.Lib.SliceRun
namespace Go.Proofs.YtnjhpgmbfblgaaaGreat.Ord
open Go.RowKit
set_option linter.unusedVariables false
theorem z1 {α : Type} {l : List α} {i : Nat} {a : α} : l.toArray.setIfInBounds i a = (l.set i a).toArray := by simp only [List.setIfInBounds_toArray]
theorem z2 {α : Type} {x : α} {xs : List α} {n : Nat} {a : α} : (x :: xs).set (n + 1) a = x :: xs.set n a := List.set_cons_succ
theorem z3 {α : Type} {x : α} {xs : List α} {a : α} : (x :: xs).set 0 a = a :: xs := List.set_cons_zero
theorem y1 {α β : Type} {f : α -> β} {l : List α} : l.toArray.map f = (l.map f).toArray := by simp only [List.map_toArray]
theorem y2 {α β : Type} {f : α -> β} {a : α} {l : List α} : (a :: l).map f = f a :: l.map f := List.map_cons
theorem y3 {α β : Type} {f : α -> β} : ([] : List α).map f = [] := List.map_nil
theorem kp {p : Prop} (h : p) : Hid p := Lib.hid h
theorem rb {a b : Bool} {q : Prop} (h : a = b) (y : q) : Ending.returned (.bool b) = .returned (.bool a) /\ q := ⟨congrArg (fun b => Ending.returned (Value.bool b)) h.symm, y⟩
section
variable {P : Program}

/-- the cells from an address on are a list -/
def CellsAt (w : World) (a : Addr) (cs : List Value) : Prop := ∀ j v, cs[j]? = some v -> w.cell? (a.add j) = some v

theorem CellsAt.below {B : Nat} {w w' : World} {a : Addr} {cs : List Value} (h : CellsAt w a cs) (hb : Below B w w') (ha : a.block < B) : CellsAt w' a cs := by
 intro j v hj
 have := h j v hj
 rw [hb.cell (p := a.add j) (by unfold Addr.add; split <;> exact ha)]
 exact this

theorem run_loadVar_at (w : World) (ad : Addr) (ty : TypeId) (cs : List Value) (d : TypeDesc) (hc : CellsAt w ad cs)
  (hu : P.underlying ty = some d) (hd : (match d with | .struct _ | .array _ _ => true | _ => false) = true) (hi : (P.info? ty).map (·.size) = some cs.length) :
  (loadVar ty ad).run P w = .ok (.agg cs.toArray) w := by
 have hl : (loadCells ad cs.length).run P w = .ok cs.toArray w := run_loadCells_list (P := P) w ad cs hc
 cases hq : P.info? ty with
 | none => simp [hq] at hi
 | some i =>
  have hs : i.size = cs.length := by simpa [hq] using hi
  have hagg : (isAgg ty).run P w = .ok true w := by
   unfold isAgg
   rw [Sem.run_bind, run_underlying hu w]
   cases d <;> simp_all
  simp [loadVar, Sem.run_bind, hagg, sizeOf, typeInfo, hq, hs, hl]

theorem wp_load_agg {o : Oper} {a : Act} {w : World} {K : Act -> World -> Prop} {Q : Exit -> Act -> World -> Prop} (ty : TypeId) (x : Operand) (ho : o.op = .load ty x)
  (ad : Addr) (hx : a.eval x = .pointer (some ad)) (cs : List Value) (d : TypeDesc) (hc : CellsAt w ad cs)
  (hu : P.underlying ty = some d) (hd : (match d with | .struct _ | .array _ _ => true | _ => false) = true) (hi : (P.info? ty).map (·.size) = some cs.length)
  (h : K (a.put o.dst (.agg cs.toArray)) w) : o.wp P a w K Q := by
 unfold Oper.wp execOp
 simp only [ho, hx, Instr.loadAt, Instr.sureAddr, Sem.run_bind, Sem.run_pure, Result.andThen_ok, run_loadVar_at w ad ty cs d hc hu hd hi]
 exact h

theorem wpList_load_agg {ops : Array Oper} {rest : List Oper} {o : Oper} {a : Act} {w : World} {Q : Exit -> Act -> World -> Prop} (hgd : o.guard = none) (ty : TypeId) (x : Operand) (ho : o.op = .load ty x)
  (ad : Addr) (hx : a.eval x = .pointer (some ad)) (cs : List Value) (d : TypeDesc) (hc : CellsAt w ad cs)
  (hu : P.underlying ty = some d) (hd : (match d with | .struct _ | .array _ _ => true | _ => false) = true) (hi : (P.info? ty).map (·.size) = some cs.length)
  (h : wpList P ops Q rest (a.put o.dst (.agg cs.toArray)) w) : wpList P ops Q (o :: rest) a w :=
 wpList_plain hgd fun _ hK => wp_load_agg ty x ho ad hx cs d hc hu hd hi (hK _ _ h)

theorem setRow_alloc (w : World) (old cs : Array Value) (t : TypeId) : (w.alloc (.cells old t)).setRow w.heap.size cs = w.alloc (.cells cs t) := by
 unfold World.setRow World.alloc
 congr 1
 apply Array.ext_getElem?
 intro k
 simp only [Array.getElem?_modify, Array.getElem?_push]
 by_cases hk : k = w.heap.size
 ·subst hk; simp
 ·simp [hk, Ne.symm hk]

/-- a struct stored into the block that was just made for it -/
theorem wpList_store_new {ops : Array Oper} {rest : List Oper} {o : Oper} {a : Act} {w : World} {Q : Exit -> Act -> World -> Prop} (hgd : o.guard = none) (ty : TypeId) (x y : Operand) (ho : o.op = .store ty x y)
  (old cells : Array Value) (t : TypeId) (g : Nat) (hx : a.eval x = .pointer (some ⟨g, 0, none⟩)) (hg : g = w.heap.size) (hy : a.eval y = .agg cells)
  (hi : (P.info? ty).map (·.size) = some cells.size) (hs : old.size = cells.size) (h1 : cells.all (·.oneCell') = true)
  (h : wpList P ops Q rest (a.put o.dst undef) (w.alloc (.cells cells t))) : wpList P ops Q (o :: rest) a (w.alloc (.cells old t)) :=
 wpList_plain hgd fun _ hK => by
  subst hg
  have hr := run_storeVar_row (P := P) (w.alloc (.cells old t)) w.heap.size t ty old cells (heap_alloc_new w _) hi hs h1
  rw [setRow_alloc] at hr
  unfold Oper.wp execOp
  simp only [ho, hx, hy, Instr.storeAt, Instr.sureAddr, Sem.run_bind, Sem.run_pure, Result.andThen_ok, hr]
  exact hK _ _ h
end

/-- a call, as cells -/
structure CallC where
 s : Int
 n : Int
 m : Fin 17 -> Value
 a : Int
 d : Int
 t : Int
 x : Value
 one : ∀ i, (m i).oneCell' = true
 onex : x.oneCell' = true

def CallC.cells (c : CallC) : List Value :=
 [.int .i64 c.s, .int .i64 c.n, c.m 0, c.m 1, c.m 2, c.m 3, c.m 4, c.m 5, c.m 6, c.m 7, c.m 8, c.m 9, c.m 10, c.m 11, c.m 12, c.m 13, c.m 14, c.m 15, c.m 16, .int .i64 c.a, .int .i64 c.d, .int .i64 c.t, c.x]

/-- a slice of calls that lies below block B -/
def CallsAt (w : World) (B : Nat) (A : Option Addr) (l : List CallC) : Prop :=
 ∀ i, i < l.length -> ∃ b off, A = some ⟨b, off, none⟩ /\ b < B /\ ∀ c, l[i]? = some c -> CellsAt w ⟨b, off + i * 23, none⟩ c.cells

theorem CallsAt.below {B B' : Nat} {w w' : World} {A : Option Addr} {l : List CallC} (h : CallsAt w B A l) (hb : Below B' w w') (hB : B <= B') : CallsAt w' B A l := by
 intro i hi
 obtain ⟨b, off, h1, h2, h3⟩ := h i hi
 exact ⟨b, off, h1, h2, fun c hc => (h3 c hc).below hb (by show b < B'; omega)⟩
section
variable {P : Program}

/-- 'out = append(out, x)': the one element lies in a block of its own, made last -/
theorem wpList_append_agg {w : World} {ops : Array Oper} {rest : List Oper} {o : Oper} {a : Act} {Q : Exit -> Act -> World -> Prop} (hgd : o.guard = none) (s x : Operand) (t : TypeId)
  (ho : o.op = .call { callee := .builtin .append, args := #[s, x], argTypes := #[t, t] })
  (base : Nat) (e : TypeId) (z : Value) (size bytes : Nat) (ht : P.underlying t = some (.slice e)) (hinfo : (P.info? e).map (fun i => (i.zero, i.size, i.bytes)) = some (some z, size, bytes))
  (hzs : z.cells.size = size) (hsz : 0 < size)
  (v : Value) (n : Nat) (xs : List Value) (hs : a.eval s = v) (hown : w.ownsRow base e size v n xs)
  (cs : Array Value) (g : Nat) (hx : a.eval x = .slice (some ⟨g, 0, none⟩) 1 1) (hg : g = w.heap.size) (hcs : cs.size = size) (h1 : cs.all (·.oneCell') = true)
  (h63 : n + 1 <= maxLen) (hbytes : (n + 1) * bytes <= 140737488355328) (hbase : base <= w.heap.size)
  (h : ∀ v' w', w'.ownsRow base e size v' (n + 1) (xs ++ cs.toList) -> Below base w w' -> wpList P ops Q rest (a.put o.dst v') w') :
  wpList P ops Q (o :: rest) a (w.alloc (.cells cs e)) := by
 obtain ⟨i, hi, hz, h4, h5⟩ := info_parts hinfo
 subst hg
 refine wpList_append_own (w.alloc (.cells cs e)) hgd s x t ho base e i z size bytes ht hi hz h4 h5 hzs hsz v n xs hs (hown.alloc _) ⟨w.heap.size, 0, none⟩ 1 1 cs.toList hx (by simp [hcs]) ?_ ?_ h63 hbytes (by simp; omega) ?_
 ·intro j u hj
  have e1 : ((⟨w.heap.size, 0, none⟩ : Addr).add j) = ⟨w.heap.size, j, none⟩ := by unfold Addr.add; split <;> simp_all
  rw [e1, cell_of_row _ _ j cs e (0, 0) (heap_alloc_new w _)]
  simpa using hj
 ·intro u hu
  exact (Array.all_eq_true_iff_forall_mem.1 h1) u (by simpa using hu)
 ·intro v' w' hown' hg _
  exact h v' w' hown' (((Below.refl base w).alloc hbase _).grown hg (by simp; omega) (fun k hk => (hown.lt k hk).1))
/-- the same at one cell -/
theorem wpList_append_one {w : World} {ops : Array Oper} {rest : List Oper} {o : Oper} {a : Act} {Q : Exit -> Act -> World -> Prop} (hgd : o.guard = none) (s x : Operand) (t : TypeId)
  (ho : o.op = .call { callee := .builtin .append, args := #[s, x], argTypes := #[t, t] })
  (base : Nat) (e : TypeId) (z : Value) (bytes : Nat) (ht : P.underlying t = some (.slice e)) (hinfo : (P.info? e).map (fun i => (i.zero, i.size, i.bytes)) = some (some z, 1, bytes))
  (hzs : z.cells.size = 1)
  (v : Value) (n : Nat) (xs : List Value) (hs : a.eval s = v) (hown : w.ownsRow base e 1 v n xs)
  (u : Value) (g : Nat) (hx : a.eval x = .slice (some ⟨g, 0, none⟩) 1 1) (hg : g = w.heap.size) (h1 : u.oneCell' = true)
  (h63 : n + 1 <= maxLen) (hbytes : (n + 1) * bytes <= 140737488355328) (hbase : base <= w.heap.size)
  (h : ∀ v' w', w'.ownsRow base e 1 v' (n + 1) (xs ++ [u]) -> Below base w w' -> wpList P ops Q rest (a.put o.dst v') w') :
  wpList P ops Q (o :: rest) a (w.alloc (.cells #[u] e)) :=
 wpList_append_agg hgd s x t ho base e z 1 bytes ht hinfo hzs (by decide) v n xs hs hown #[u] g hx hg rfl (by simp [h1]) h63 hbytes hbase h

theorem owns_mono {w : World} {b b' : Nat} {e : TypeId} {size : Nat} {v : Value} {n : Nat} {xs : List Value} (h : w.ownsRow b e size v n xs) (hb : b' <= b) : w.ownsRow b' e size v n xs := by
 refine ⟨h.1, ?_⟩
 rcases h.2 with h2 | ⟨g, cap, cur, hv, hg, r⟩
 ·exact .inl h2
 ·exact .inr ⟨g, cap, cur, hv, Nat.le_trans hb hg, r⟩
end

theorem below1 (w : World) (o : Obj) : Below w.heap.size w (w.alloc o) := (Below.refl _ _).alloc (Nat.le_refl _) o
theorem below2 (w : World) (o o' : Obj) : Below w.heap.size w ((w.alloc o).alloc o') := (below1 w o).alloc (by simp) o'
theorem below3 (w : World) (o o' o'' : Obj) : Below w.heap.size w (((w.alloc o).alloc o').alloc o'') := (below2 w o o').alloc (by simp; omega) o''
theorem ret_bool {a b : Bool} (h : a = b) : Ending.returned (.bool a) = Ending.returned (.bool b) := by rw [h]
end Go.Proofs.YtnjhpgmbfblgaaaGreat.Ord
namespace Go.Proofs.YtnjhpgmbfblgaaaGreat.Ord
open Go.RowKit Go.Sort
set_option linter.unusedVariables false
section
variable {P : Program}

theorem qk_load_agg {ops : Array Oper} {C : World -> Prop} {Q : Act -> Prop} {a : Act} {o : Oper} {rest : List Oper} (hgd : o.guard = none) (ty : TypeId) (x : Operand) (ho : o.op = .load ty x)
  (ad : Addr) (hx : a.eval x = .pointer (some ad)) (cs : List Value) (d : TypeDesc) (hc : ∀ W, C W -> CellsAt W ad cs)
  (hu : P.underlying ty = some d) (hd : (match d with | .struct _ | .array _ _ => true | _ => false) = true) (hi : (P.info? ty).map (·.size) = some cs.length)
  (h : wpQuiet P ops C Q rest (a.put o.dst (.agg cs.toArray))) : wpQuiet P ops C Q (o :: rest) a := by
 refine wpQuiet_step fun K hK => ?_
 rw [if_pos (by simp [Region.wanted, hgd])]
 refine ⟨.agg cs.toArray, fun W hW => ?_, hK _ h⟩
 unfold Oper.quietAt execOp
 simp only [ho, hx, Instr.loadAt, Instr.sureAddr, Sem.run_bind, Sem.run_pure, Result.andThen_ok, run_loadVar_at W ad ty cs d (hc W hW) hu hd hi]
 exact ⟨rfl, rfl⟩

theorem CellsAt.regrown {w : World} {a : Addr} {cs : List Value} (h : CellsAt w a cs) : ∀ W, (∃ p : Regrown, W = grow (redrawn w p.d) p.os) -> CellsAt W a cs := by
 rintro W ⟨p, rfl⟩ j v hj
 exact cell_regrown (h j v hj) _ _

/-- behind such a region: the world is some world in which nothing of the old has turned -/
theorem regrown_below {w W : World} (h : ∃ p : Regrown, W = grow (redrawn w p.d) p.os) : Below w.heap.size w W := by
 obtain ⟨p, rfl⟩ := h
 exact below_regrown w _ _
end

/-- a slice of ints that lies below block B -/
def IntsAt (w : World) (B : Nat) (A : Option Addr) (xs : List Int) : Prop :=
 ∀ i, i < xs.length -> ∃ b off, A = some ⟨b, off, none⟩ /\ b < B /\ ∀ x, xs[i]? = some x -> w.cell? ⟨b, off + i, none⟩ = some (.int .i64 x)

theorem IntsAt.below {B B' : Nat} {w w' : World} {A : Option Addr} {l : List Int} (h : IntsAt w B A l) (hb : Below B' w w') (hB : B <= B') : IntsAt w' B A l := by
 intro i hi
 obtain ⟨b, off, h1, h2, h3⟩ := h i hi
 exact ⟨b, off, h1, h2, fun c hc => (hb.cell (p := ⟨b, off + i, none⟩) (by show b < B'; omega)).trans (h3 c hc)⟩

theorem IntsAt.mono {B B' : Nat} {w : World} {A : Option Addr} {l : List Int} (h : IntsAt w B A l) (hB : B <= B') : IntsAt w B' A l := by
 intro i hi
 obtain ⟨b, off, h1, h2, h3⟩ := h i hi
 exact ⟨b, off, h1, by omega, h3⟩
theorem CallsAt.mono {B B' : Nat} {w : World} {A : Option Addr} {l : List CallC} (h : CallsAt w B A l) (hB : B <= B') : CallsAt w B' A l := by
 intro i hi
 obtain ⟨b, off, h1, h2, h3⟩ := h i hi
 exact ⟨b, off, h1, by omega, h3⟩

/-- what the call owns is a slice of ints -/
theorem IntsAt.of_owns {w : World} {base : Nat} {e : TypeId} {A : Option Addr} {n cap : Nat} {xs : List Int} (h : w.ownsRow base e 1 (.slice A n cap) n (xs.map (Value.int .i64))) : IntsAt w w.heap.size A xs := by
 intro i hi
 rcases h.2 with ⟨he, hn⟩ | ⟨g, cap', cur, he, hg, hh, r⟩
 ·have := h.1; simp at this; omega
 ·cases he
  refine ⟨g, 0, rfl, (Array.getElem?_eq_some_iff.1 hh).1, fun x hx => ?_⟩
  have := h.cells (g := g) rfl i (.int .i64 x) (by simp [hx])
  have e1 : ((⟨g, 0, none⟩ : Addr).add i) = ⟨g, 0 + i, none⟩ := by unfold Addr.add; split <;> simp_all
  rwa [e1] at this

theorem owns_len {w : World} {base : Nat} {e : TypeId} {v : Value} {n : Nat} {ys : List Value} (h : w.ownsRow base e 1 v n ys) : ∃ A cap, v = .slice A n cap := by
 rcases h.2 with ⟨he, rfl⟩ | ⟨g, cap', cur, he, _⟩
 ·exact ⟨_, _, he⟩
 ·exact ⟨_, _, he⟩
end Go.Proofs.YtnjhpgmbfblgaaaGreat.Ord
namespace Go.Proofs.YtnjhpgmbfblgaaaGreat.Ord
open Go.ChangeShapes Go.WideShapes Go.RowKit Go.Deep
set_option linter.unusedVariables false
def leavesF (P : Program) (F : TypeId -> Option (List TypeId)) : List Field -> List TypeId -> Option (List TypeId)
 | [], acc => some acc
 | f :: fs, acc => (F f.type).bind fun l2 => if f.offset = acc.length /\ l2.length = P.cellsOf f.type then leavesF P F fs (acc ++ l2) else none
/-- the leaves of a type, in the order of its cells -/
def leaves (P : Program) : Nat -> TypeId -> Option (List TypeId)
 | 0, _ => none
 | n + 1, t =>
  match P.underlying t with
  | some (.struct fs) => (leavesF P (leaves P n) fs.toList []).bind fun l => if l.length = P.cellsOf t then some l else none
  | some (.array _ _) => none
  | none => none
  | some _ => some [t]

def isAggT : TypeDesc -> Bool
 | .struct _ | .array _ _ => true
 | _ => false

section
variable {H : Type} {enc : TypeId × Value -> H} {P : Program} {w : World} {base : Nat} {spare : Nat -> Bool} {held : Bool}
theorem trod_leaf {t : TypeId} {fuel : Nat} {cs : List Value} {x : DataW H × List MemPlace} {d : TypeDesc} (hu : P.underlying t = some d) (hd : isAggT d = false)
  (h : DataW.trod enc P w base spare held fuel t cs = some x) : ∃ v, cs = [v] /\ v.oneCell' = true := by
 cases fuel with
 | zero => simp [DataW.trod] at h
 | succ n =>
  unfold DataW.trod at h
  rw [hu] at h
  split at h <;> first | exact ⟨_, rfl, rfl⟩ | (simp at h; done) | (simp_all [isAggT]; done)

def Leaf (enc : TypeId × Value -> H) (P : Program) (w : World) (base : Nat) (spare : Nat -> Bool) (held : Bool) (cs : List Value) (j : Nat) (t : TypeId) : Prop :=
 ∃ v fuel y, cs[j]? = some v /\ v.oneCell' = true /\ DataW.trod enc P w base spare held fuel t [v] = some y

theorem leaf_int {cs : List Value} {j : Nat} {t : TypeId} {k : IntKind} (hu : P.underlying t = some (.int k)) (h : Leaf enc P w base spare held cs j t) : ∃ n, cs[j]? = some (.int k n) /\ (Lit.int k n).wf = true := by
 obtain ⟨v, fu, y, hv, _, ht⟩ := h
 obtain ⟨n, hn, _, hw⟩ := DataW.trod_int hu ht
 simp at hn
 subst hn
 exact ⟨n, hv, hw⟩
end

theorem cell_lt {w : World} {a : Addr} {v : Value} (h : w.cell? a = some v) : a.block < w.heap.size := by
 rcases Nat.lt_or_ge a.block w.heap.size with h' | h'
 ·exact h'
 ·simp [World.cell?, Array.getElem?_eq_none h'] at h
end Go.Proofs.YtnjhpgmbfblgaaaGreat.Ord
namespace Go.Proofs.YtnjhpgmbfblgaaaGreat.Ord
open Go.ChangeShapes Go.WideShapes Go.ChangeAt Go.RowKit
set_option linter.unusedVariables false
theorem own : ownKnob Tryz.prog.godebug = none := by kernel_rfl
theorem laidOut : laidOutB Tryz.prog = true := by kernel_rfl
end Go.Proofs.YtnjhpgmbfblgaaaGreat.Ord
namespace Go.Proofs.YtnjhpgmbfblgaaaGreat.Ord
open Go.RowKit
set_option linter.unusedVariables false
/-- what is appended: nothing, or cells that lie from an address on -/
def Src (w : World) (A : Option Addr) (m c : Nat) (news : List Value) : Prop :=
 (m = 0 /\ news = [] /\ (A = none -> c = 0)) ∨ ∃ ad, A = some ad /\ ∀ j u, news[j]? = some u -> w.cell? (ad.add j) = some u

section
variable {P : Program}
theorem wpList_append_src {w : World} {ops : Array Oper} {rest : List Oper} {o : Oper} {a : Act} {Q : Exit -> Act -> World -> Prop} (hgd : o.guard = none) (s x : Operand) (t : TypeId)
  (ho : o.op = .call { callee := .builtin .append, args := #[s, x], argTypes := #[t, t] })
  (base : Nat) (e : TypeId) (z : Value) (size bytes : Nat) (ht : P.underlying t = some (.slice e)) (hinfo : (P.info? e).map (fun i => (i.zero, i.size, i.bytes)) = some (some z, size, bytes))
  (hzs : z.cells.size = size) (hsz : 0 < size)
  (v : Value) (n : Nat) (xs : List Value) (hs : a.eval s = v) (hown : w.ownsRow base e size v n xs)
  (A : Option Addr) (m c : Nat) (news : List Value) (hx : a.eval x = .slice A m c) (hl : news.length = m * size) (hsrc : Src w A m c news) (h1 : ∀ u ∈ news, u.oneCell' = true)
  (h63 : n + m <= maxLen) (hbytes : (n + m) * bytes <= 140737488355328) (hbase : base <= w.heap.size)
  (h : ∀ v' w', w'.ownsRow base e size v' (n + m) (xs ++ news) -> w.grownBy w' v.ownBlock -> Below base w w' -> wpList P ops Q rest (a.put o.dst v') w') :
  wpList P ops Q (o :: rest) a w := by
 obtain ⟨i, hi, hz, h4, h5⟩ := info_parts hinfo
 have hB : ∀ w', w.grownBy w' v.ownBlock -> Below base w w' := fun w' hg => (Below.refl base w).grown hg hbase (fun k hk => (hown.lt k hk).1)
 have fin : ∀ ad, A = some ad -> (∀ j u, news[j]? = some u -> w.cell? (ad.add j) = some u) -> wpList P ops Q (o :: rest) a w := by
  intro ad hA hc
  subst hA
  exact wpList_append_own w hgd s x t ho base e i z size bytes ht hi hz h4 h5 hzs hsz v n xs hs hown ad m c news hx hl hc h1 h63 hbytes hbase (fun v' w' ho hg _ => h v' w' ho hg (hB w' hg))
 rcases hsrc with ⟨rfl, rfl, hc⟩ | ⟨ad, hA, hc⟩
 ·cases A with
  | some ad => exact fin ad rfl (by simp)
  | none =>
   obtain rfl := hc rfl
   refine wpList_plain hgd fun K hK => ?_
   have hrun := run_append_owned_none (P := P) w base t o.type e i size ht hi v n xs hown
   unfold Oper.wp
   simp [execOp, ho, resolve, invoke, builtin, hs, hx, hrun, Result.andThen]
   exact hK _ _ (h v w (by simpa using hown) (World.grownBy.refl _ _) (Below.refl _ _))
 ·exact fin ad hA hc
end

theorem owns_shape {w : World} {base : Nat} {e : TypeId} {size : Nat} {v : Value} {n : Nat} {xs : List Value} (h : w.ownsRow base e size v n xs) (hs : 0 < size) :
  (v = .slice none 0 0 /\ n = 0 /\ xs = []) ∨ ∃ g cap, v = .slice (some ⟨g, 0, none⟩) n cap /\ base <= g /\ g < w.heap.size /\ n <= cap /\ cap <= maxLen := by
 rcases h.2 with ⟨h1, h2⟩ | ⟨g, cap, cur, hv, hb, hh, hn, hc, _⟩
 ·refine .inl ⟨h1, h2, List.eq_nil_of_length_eq_zero ?_⟩
  rw [h.1, h2]; simp
 ·exact .inr ⟨g, cap, hv, hb, (Array.getElem?_eq_some_iff.1 hh).1, hn, hc⟩
set_option maxRecDepth 100000
set_option maxHeartbeats 16000000
/-- a slice value whose elements are the bytes xs, below block B -/
def Byt (w : World) (B : Nat) (A : Option Addr) (c : Nat) (xs : List Int) : Prop :=
 (A = none -> c = 0) /\ xs.length <= c /\ ∀ i, i < xs.length -> ∃ b off, A = some ⟨b, off, none⟩ /\ b < B /\ ∀ x, xs[i]? = some x -> w.cell? ⟨b, off + i, none⟩ = some (.int .u8 x)
theorem Byt.below {B B' : Nat} {w w' : World} {A : Option Addr} {c : Nat} {l : List Int} (h : Byt w B A c l) (hb : Below B' w w') (hB : B <= B') : Byt w' B A c l := by
 refine ⟨h.1, h.2.1, fun i hi => ?_⟩
 obtain ⟨b, off, h1, h2, h3⟩ := h.2.2 i hi
 exact ⟨b, off, h1, h2, fun x hx => (hb.cell (p := ⟨b, off + i, none⟩) (by show b < B'; omega)).trans (h3 x hx)⟩
theorem Byt.mono {B B' : Nat} {w : World} {A : Option Addr} {c : Nat} {l : List Int} (h : Byt w B A c l) (hB : B <= B') : Byt w B' A c l := by
 refine ⟨h.1, h.2.1, fun i hi => ?_⟩
 obtain ⟨b, off, h1, h2, h3⟩ := h.2.2 i hi
 exact ⟨b, off, h1, by omega, h3⟩
theorem Byt.nil (w : World) (B : Nat) : Byt w B none 0 [] := ⟨fun _ => rfl, Nat.le_refl _, fun i hi => absurd hi (by simp)⟩
theorem q22 (w : World) (a : Option Addr) (n c n' c' : Nat) : (binOp .eql 26 (.slice a n c) (.slice none n' c')).run Tryz.prog w = .ok (.bool a.isNone) w := Lib.run_eql_slice_nil w _ _ a n c n' c' Tryz.underlying26
theorem Byt.of_owns {w : World} {base : Nat} {A : Option Addr} {n c : Nat} {xs : List Int} (h : w.ownsRow base 5 1 (.slice A n c) n (xs.map (Value.int .u8))) : n = xs.length /\ Byt w w.heap.size A c xs := by
 have hn : n = xs.length := by have := h.1; simp at this; omega
 refine ⟨hn, ?_⟩
 rcases owns_shape h (by decide) with ⟨h1, h2, _⟩ | ⟨g, cap, h1, _, hlt, h2, _⟩
 ·cases h1
  exact ⟨fun _ => rfl, by omega, fun i hi => by omega⟩
 ·cases h1
  refine ⟨(fun h => by cases h), by omega, fun i hi => ⟨g, 0, rfl, hlt, fun x hx => ?_⟩⟩
  have := h.cells (g := g) rfl i (.int .u8 x) (by simp [hx])
  rwa [show ((⟨g, 0, none⟩ : Addr).add i) = ⟨g, 0 + i, none⟩ by unfold Addr.add; split <;> simp_all] at this
theorem Byt.src {w : World} {B : Nat} {A : Option Addr} {c : Nat} {xs : List Int} (h : Byt w B A c xs) : Src w A xs.length c (xs.map (Value.int .u8)) := by
 cases xs with
 | nil => exact .inl ⟨rfl, rfl, h.1⟩
 | cons x xs =>
  obtain ⟨b, off, hA, _, _⟩ := h.2.2 0 (by simp)
  refine .inr ⟨_, hA, fun j u hj => ?_⟩
  rw [List.getElem?_map] at hj
  obtain ⟨y, hy, rfl⟩ := Option.map_eq_some_iff.1 hj
  obtain ⟨b', off', hA', _, h3⟩ := h.2.2 j (List.getElem?_eq_some_iff.1 hy).1
  rw [hA] at hA'
  cases hA'
  rw [show ((⟨b, off, none⟩ : Addr).add j) = ⟨b, off + j, none⟩ by unfold Addr.add; split <;> simp_all]
  exact h3 y hy
theorem bytes_one (xs : List Int) : ∀ u ∈ xs.map (Value.int .u8), u.oneCell' = true := by
 intro u hu
 obtain ⟨x, _, rfl⟩ := List.mem_map.1 hu
 rfl
theorem Tryz.info5 : (Tryz.prog.info? 5).map (fun i => (i.zero, i.size, i.bytes)) = some (some (.int .u8 0), 1, 1) := by kernel_rfl

/-- an owned row of bytes -/
def Own8 (w : World) (base : Nat) (v : Value) (xs : List Int) : Prop := w.ownsRow base 5 1 v xs.length (xs.map (Value.int .u8))
theorem Own8.raw {w : World} {base : Nat} {v : Value} {xs : List Int} (h : Own8 w base v xs) : w.ownsRow base 5 1 v xs.length (xs.map (Value.int .u8)) := h
theorem Own8.nil (w : World) (base : Nat) : Own8 w base (.slice none 0 0) [] := World.ownsRow_nil _ _ _ _
theorem Own8.val {w : World} {base : Nat} {v : Value} {xs : List Int} (h : Own8 w base v xs) : ∃ A c, v = .slice A xs.length c /\ Byt w w.heap.size A c xs := by
 obtain ⟨A, c, rfl⟩ := owns_len h
 exact ⟨A, c, rfl, (Byt.of_owns h).2⟩
theorem Own8.snoc {w : World} {base : Nat} {v : Value} {xs : List Int} {x : Int} (h : w.ownsRow base 5 1 v (xs.length + 1) (xs.map (Value.int .u8) ++ [.int .u8 x])) : Own8 w base v (xs ++ [x]) := by
 unfold Own8; simpa using h
theorem Own8.app {w : World} {base n : Nat} {v : Value} {xs ys : List Int} (hn : n = ys.length) (h : w.ownsRow base 5 1 v (xs.length + n) (xs.map (Value.int .u8) ++ ys.map (Value.int .u8))) : Own8 w base v (xs ++ ys) := by
 subst hn; unfold Own8; simpa using h

theorem clone_any (A : Option Addr) (n c : Nat) (xs : List Int) (w : World) (hn : xs.length = n) (hl : n <= 100000000) (hA : Byt w w.heap.size A c xs) :
  Calls Tryz.prog 106 #[.slice A n c] w fun e w' => ∃ v, e = .returned v /\ Own8 w' w.heap.size v xs /\ Below w.heap.size w w' := by
 subst hn
 cases A with
 | none =>
  have hc0 : c = 0 := hA.1 rfl
  subst hc0
  have hx : xs = [] := by have := hA.2.1; exact List.eq_nil_of_length_eq_zero (by omega)
  subst hx
  have hq := q22
  go_enter Tryz.func106, Tryz.ntmps106
  go_wp2_with fail
  go_ret
  exact ⟨_, rfl, Own8.nil _ _, Below.refl _ _⟩
 | some ad =>
  have hb := below1 w (.cells #[] 5)
  have hsrc := kp (hA.below hb (Nat.le_refl _)).src
  have hown := kp (World.ownsRow_made (e := 5) (size := 1) (base := w.heap.size) w #[] 0 (Nat.le_refl _) (by unfold maxLen; omega) rfl)
  have hs := kp (show w.heap.size <= (w.alloc (.cells #[] 5)).heap.size by simp)
  generalize hN : xs.length = N at *
  have HN := kp hN
  clear hN
  have hq := q22
  go_enter Tryz.func106, Tryz.ntmps106
  go_wp2_with ((with_reducible refine wpList_append_src (o := ⟨some 7, _, _, _, _, _⟩) rfl _ _ 26 rfl w.heap.size 5 (.int .u8 0) 1 1 Tryz.underlying26 Tryz.info5 rfl (by decide) _ _ [] ?_ hown.out (some ad) N c (xs.map (Value.int .u8)) ?_ ?_ hsrc.out (bytes_one _) ?_ ?_ hs.out ?_); (· rfl); (· rfl); (· simp [HN.out]); (· unfold maxLen; omega); (· omega); intro v1 w1 hown1 _ hb1)
  go_ret
  exact ⟨_, rfl, Own8.app HN.out.symm (xs := []) (by simpa using hown1), hb.trans hb1⟩

theorem or128_all : (List.range 256).all (fun x => (x ||| 128) == 128 + x % 128) = true := by decide +kernel
theorem or128 {x : Nat} (h : x < 256) : x ||| 128 = 128 + x % 128 := eq_of_beq (List.all_eq_true.1 or128_all x (List.mem_range.2 h))
theorem u8_nat {n : Nat} (h : n < 256) : IntKind.u8.wrap (n : Int) = n := by
 rw [IntKind.wrap_u8]; omega
theorem or_u8 {x : Nat} (h : x < 256) : bits .or .u8 (x : Int) 128 = ((128 + x % 128 : Nat) : Int) := by
 have e1 : BitVec.ofInt IntKind.u8.bits (x : Int) = BitVec.ofNat 8 x := BitVec.ofInt_natCast (w := 8) x
 have e2 : BitVec.ofInt IntKind.u8.bits (128 : Int) = BitVec.ofNat 8 128 := rfl
 unfold bits
 simp only [e1, e2]
 show IntKind.u8.wrap (((BitVec.ofNat 8 x ||| BitVec.ofNat 8 128).toNat : Nat) : Int) = _
 rw [BitVec.toNat_or, BitVec.toNat_ofNat, BitVec.toNat_ofNat, Nat.mod_eq_of_lt (show x < 2 ^ 8 by omega), show 128 % 2 ^ 8 = 128 from rfl, or128 h, u8_nat (by omega)]
theorem or_u8m (m : Nat) : bits .or .u8 ((m : Int) % 256) 128 = ((128 + m % 128 : Nat) : Int) := by
 have e : ((m : Int) % 256) = ((m % 256 : Nat) : Int) := by omega
 rw [e, or_u8 (Nat.mod_lt _ (by decide)), show m % 256 % 128 = m % 128 by omega]

/-- a number in groups of seven bits -/
def putV (n : Nat) : List Int := if n <= 127 then [(n : Int)] else ((128 + n % 128 : Nat) : Int) :: putV (n / 128)
termination_by n
decreasing_by omega
theorem putV_small {n : Nat} (h : n <= 127) : putV n = [(n : Int)] := by rw [putV, if_pos h]
theorem putV_more {n : Nat} (h : ¬ n <= 127) : putV n = ((128 + n % 128 : Nat) : Int) :: putV (n / 128) := by rw [putV, if_neg h]
theorem putV_len : ∀ (k n : Nat), n < 128 ^ (k + 1) -> (putV n).length <= k + 1
 | 0, n, h => by rw [putV_small (by omega)]; simp
 | k + 1, n, h => by
  by_cases h1 : n <= 127
  ·rw [putV_small h1]; simp
  ·rw [putV_more h1]
   have h2 : n / 128 < 128 ^ (k + 1) := by
    rw [Nat.pow_succ] at h
    exact Nat.div_lt_of_lt_mul (by rw [Nat.mul_comm]; exact h)
   have := putV_len k (n / 128) h2
   simp only [List.length_cons]
   omega
theorem putV_len10 {n : Nat} (h : n < 18446744073709551616) : (putV n).length <= 10 := putV_len 9 n (Nat.lt_trans h (by decide))

theorem put_any (A : Option Addr) (k c : Nat) (xs : List Int) (n : Nat) (w : World) (hk : xs.length = k) (hn : n < 18446744073709551616) (hl : k <= 10000000) (hA : Byt w w.heap.size A c xs) :
  Calls Tryz.prog 233 #[.slice A k c, .int .u64 n] w fun e w' => ∃ v, e = .returned v /\ Own8 w' w.heap.size v (xs ++ putV n) /\ Below w.heap.size w w' := by
 have HC := kp (clone_any A k c xs w hk (by omega) hA)
 have H10 := putV_len10 hn
 have HK := kp hk
 clear hk
 go_enter Tryz.func233, Tryz.ntmps233
 go_wp2_with fail
 refine HC.out.mono ?_
 rintro e w1 ⟨v1, rfl, hown1, hb1⟩
 go_wp2_with fail
 go_loopw [1, 5] (fun j v wr => ∃ (m : Nat) (ys : List Int), j = .int .u64 m /\ m < 18446744073709551616 /\ ys ++ putV m = putV n /\ Own8 wr w.heap.size v (xs ++ ys) /\ Below w.heap.size w wr) (fun j _ _ => (intOf j).toNat)
 case atStart => exact ⟨n, [], rfl, hn, rfl, by simpa using hown1, hb1⟩
 case round =>
  obtain ⟨m, ys, rfl, hm, hys, hown, hb⟩ := hrel
  have hyl : ys.length + (putV m).length <= 10 := by rw [<- List.length_append, hys]; exact H10
  have hxy : (xs ++ ys).length <= 10000010 := by rw [List.length_append, HK.out]; omega
  have hown := kp hown.raw
  by_cases h1 : m <= 127
  ·have hg : decide ((127 : Int) < (m : Int)) = false := by simp; omega
   go_wp2_with ((with_reducible refine wpList_append_one (o := ⟨some 22, _, _, _, _, _⟩) rfl _ _ 26 rfl w.heap.size 5 (.int .u8 0) 1 Tryz.underlying26 Tryz.info5 rfl _ (xs ++ ys).length _ ?_ hown.out _ wr.heap.size ?_ ?_ ?_ ?_ ?_ hb.size ?_); (· rfl); (· rfl); (· rfl); (· rfl); (· unfold maxLen; omega); (· omega); intro v2 w2 hown2 hb2)
   go_ret
   refine ⟨_, rfl, ?_, hb.trans hb2⟩
   rw [<- hys, putV_small h1, <- List.append_assoc]
   exact Own8.snoc hown2
  ·have hg : decide ((127 : Int) < (m : Int)) = true := by simp; omega
   go_wp2_with ((with_reducible refine wpList_append_one (o := ⟨some 17, _, _, _, _, _⟩) rfl _ _ 26 rfl w.heap.size 5 (.int .u8 0) 1 Tryz.underlying26 Tryz.info5 rfl _ (xs ++ ys).length _ ?_ hown.out _ wr.heap.size ?_ ?_ ?_ ?_ ?_ hb.size ?_); (· rfl); (· rfl); (· rfl); (· rfl); (· unfold maxLen; omega); (· omega); intro v2 w2 hown2 hb2)
   go_roundw
   case rel =>
    refine ⟨m / 128, ys ++ [((128 + m % 128 : Nat) : Int)], by go_num, by omega, by rw [List.append_assoc, <- hys, putV_more h1]; rfl, ?_, hb.trans hb2⟩
    rw [<- List.append_assoc]
    rw [or_u8m] at hown2
    exact Own8.snoc hown2
   case measure => simp [intOf]; omega
end Go.Proofs.YtnjhpgmbfblgaaaGreat.Ord
