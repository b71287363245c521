/- Walk of the codec's part, read; Walks of request.Write and Read at a command with a key, and at one without parts; Walk of request.Read at a command with a key; Two contracts of the shelf at this dump (cut from the printed shelf text): slices.Equal at strings, bytes.Equal; Walk of request.Write at a command with a key; Walks of request.Read and Write at the command without parts; of frame.Write; Walk of the script reader's data; Walk of a script's step; Walk of script.Parse; Lists of steps; walks of SameStep and Same; Lists of steps of whatever size; walks of the law's few and the reference's at; An argument that is a slice of steps, opened; the row of ScriptWrites from its walk; Slices of any one-cell elements; walks of the functions that compare slices of strings, of numbers and of bytes; Items and responses; walks of bytes.Equal and of the two functions that compare items; Facts for the law's known: literal slices of bytes and of steps; what parses says of them. -/
import Derived.Test.YtnjhpgmbfblgaaaGreatMR5
import Derived.Laws.BytesArg
import Derived.Lib.LazyBuf
import Derived.Shelf.Bytes.SlEqualAll
import Derived.Deep.MidRow
import Derived.Shelf.Slices.Equal
import Derived.Shelf.Slices.Empties2
import Derived.Test.YtnjhpgmbfblgaaaGreatProg
import Derived.Lib.Bytes
import Derived.Test.YtnjhpgmbfblgaaaGreatMR1
namespace Go.Proofs.YtnjhpgmbfblgaaaGreat.Ord
open Go.RowKit
set_option linter.unusedVariables false
theorem Byt.convert {w : World} {B : Nat} {A : Option Addr} {c n : Nat} {xs : List Int} (h : Byt w B A c xs) (hn : xs.length = n) : (convert 26 9 (.slice A n c)).run Tryz.prog w = .ok (.string (strOfNums xs)) w := by
 rcases Nat.eq_zero_or_pos n with h0 | h0
 ·subst h0
  obtain rfl : xs = [] := List.eq_nil_of_length_eq_zero hn
  exact run_convert_bytes_zero w 26 5 Tryz.underlying26 Tryz.underlying5 A c 9 Tryz.underlying9
 ·obtain ⟨b, off, rfl, _, _⟩ := h.at (i := 0) (by omega)
  refine run_convert_bytes_arg (P := Tryz.prog) w 26 5 Tryz.underlying26 Tryz.underlying5 b off n c xs hn (fun i hi => ?_) 9 Tryz.underlying9
  obtain ⟨b', off', e, _, hc⟩ := h.at (i := i) (by omega)
  cases e
  exact hc
theorem str_nums (s : ByteArray) : strOfNums (sBytes s) = s := by
 unfold sBytes
 rw [Go.Lib.Lz.strOfNums_map]

def updF (f : Nat -> Value) (k : Nat) (v : Value) : Nat -> Value := fun j => if j = k then v else f j
theorem key_enter : ∀ args w, (callFunc 255 args).run Tryz.prog w = .ok (.enter 255 args) w := by
 intro args w
 simp [callFunc, Tryz.func255, Tryz.f255]

theorem valid_any (op : Int) (h1 : 0 < op) (h2 : op < 16) (w : World) : Calls Tryz.prog 235 #[.int .i64 op] w fun e w' => e = .returned (.bool true) /\ w' = w := by
 have g1 : decide ((0 : Int) < op) = true := by simp; omega
 have g2 : decide (op < 16) = true := by simp; omega
 go_enter Tryz.func235, Tryz.ntmps235
 go_wp2_with fail
 go_ret
 exact ⟨rfl, rfl⟩
/-- a row given by a list of cells -/
def listF (l : List Value) : Nat -> Value := fun i => l.getD i undef
theorem row_list (w : World) (l : List Value) (t : TypeId) : (w.alloc (.cells l.toArray t)).rowIs w.heap.size t l.length (listF l) := by
 have := World.rowIs_alloc w l.toArray t (listF l) (fun i hi => by simp at hi; simp [listF, List.getD, hi])
 simpa using this
def cmdL (op : Int) (s : ByteArray) : List Value := [.int .i64 op, .string s, .slice none 0 0, .slice none 0 0, .slice none 0 0, .int .u64 0, .int .u64 0, .string ⟨#[]⟩, .string ⟨#[]⟩, .string ⟨#[]⟩]

theorem row_cells {w : World} {b n : Nat} {t : TypeId} {f : Nat -> Value} (h : w.rowIs b t n f) (l : List Value) (hl : l.length = n) (hf : ∀ i, i < n -> f i = l.getD i undef) : CellsAt w ⟨b, 0, none⟩ l := by
 intro j v hj
 have hjn : j < n := by have := (List.getElem?_eq_some_iff.1 hj).1; omega
 rw [Addr.add_mid, Nat.zero_add, World.rowIs.cell h hjn, hf j hjn]
 simp [List.getD, hj]
theorem row_there {w : World} {b n : Nat} {t : TypeId} {f : Nat -> Value} (h : w.rowIs b t n f) : w.there b 0 n := fun j hj =>
 ⟨by rw [Nat.zero_add, World.rowIs.cell h hj]; rfl, World.rowIs.frozen h _⟩
theorem store_all {w : World} {b n : Nat} {t : TypeId} {f : Nat -> Value} (h : w.rowIs b t n f) (l : List Value) (hl : l.length = n) : (w.setCells b 0 l).rowIs b t n (listF l) := by
 refine World.rowIs.congr (rowIs_setCells l 0 w f h) fun j hj => ?_
 rw [if_pos (by omega)]
 have : j < l.length := by omega
 simp [listF, List.getD, List.getElem?_eq_getElem this]
theorem kept_setCells {L : List Nat} {a : World} {b : Nat} (hb : b ∈ L) : ∀ (vs : List Value) (o : Nat) (w : World), Kept L a w -> Kept L a (w.setCells b o vs)
 | [], _, _, h => h
 | v :: r, o, w, h => kept_setCells hb r (o + 1) _ (h.setCell (by exact hb) v)
theorem wpList_store_at2 {P : Program} {ops : Array Oper} {rest : List Oper} {op : Oper} {a : Act} {w : World} {Q : Exit -> Act -> World -> Prop} (hgd : op.guard = none) (ty : TypeId) (x y : Operand) (ho : op.op = .store ty x y)
  (b o : Nat) (cells : Array Value) (hx : a.eval x = .pointer (some ⟨b, o, none⟩)) (hy : a.eval y = .agg cells)
  (ht : w.there b o cells.size) (hi : (P.info? ty).map (·.size) = some cells.size) (h1 : cells.all (·.oneCell') = true)
  (h : ∀ w', w' = w.setCells b o cells.toList -> wpList P ops Q rest (a.put op.dst undef) w') : wpList P ops Q (op :: rest) a w :=
 wpList_store_mid hgd ty x y ho b o cells hx hy ht hi h1 (h _ rfl)
theorem cmdL_size (op : Int) (s : ByteArray) : (Tryz.prog.info? 36).map (·.size) = some (cmdL op s).length := by kernel_rfl
theorem cmdL_sizeA (op : Int) (s : ByteArray) : (Tryz.prog.info? 36).map (·.size) = some (cmdL op s).toArray.size := by kernel_rfl

theorem results_cell2 {P : Program} {fn : Func} {p u : Tmp} {ty : TypeId} (h : fn.results = #[.cell p ty, .tmp u]) (tmps : Array Value) (w : World) (ad : Addr) (cs : Array Value)
  (hp : tmps.getD p undef = .pointer (some ad)) (hl : (loadVar ty ad).run P w = .ok (.agg cs) w) : (results fn tmps).run P w = .ok (.tuple #[.agg cs, tmps.getD u undef]) w := by
 have hp' : tmps[p]?.getD undef = .pointer (some ad) := by simpa using hp
 simp [results, h, hp', asAddr, hl]

theorem cmdL_one (op : Int) (s : ByteArray) : (cmdL op s).toArray.all (·.oneCell') = true := all_oneCell_toArray fun v hv => by
 simp only [cmdL, List.mem_cons, List.not_mem_nil, or_false] at hv
 rcases hv with rfl | rfl | rfl | rfl | rfl | rfl | rfl | rfl | rfl | rfl <;> rfl

theorem read_start (w : World) (u v : Value) (op : Int) : ∃ W, W = ((w.alloc (.cells #[u, v] 270)).alloc (.cells #[.int .i64 0, .string ⟨#[]⟩, .slice none 0 0, .slice none 0 0, .slice none 0 0, .int .u64 0, .int .u64 0, .string ⟨#[]⟩, .string ⟨#[]⟩, .string ⟨#[]⟩] 36)).alloc (.cells #[.int .i64 op, .string ⟨#[]⟩, .slice none 0 0, .slice none 0 0, .slice none 0 0, .int .u64 0, .int .u64 0, .string ⟨#[]⟩, .string ⟨#[]⟩, .string ⟨#[]⟩] 36) /\
  W.rowIs (w.heap.size + 1 + 1) 36 10 (listF (cmdL op ⟨#[]⟩)) /\ W.rowIs (w.heap.size + 1) 36 10 (listF (cmdL 0 ⟨#[]⟩)) /\ Below w.heap.size w W /\ W.heap.size = w.heap.size + 3 := by
 refine ⟨_, rfl, ?_, ?_, below3 w _ _ _, by simp⟩
 ·have := row_list ((w.alloc (.cells #[u, v] 270)).alloc (.cells (cmdL 0 ⟨#[]⟩).toArray 36)) (cmdL op ⟨#[]⟩) 36
  simpa [cmdL] using this
 ·have := World.rowIs.alloc (row_list (w.alloc (.cells #[u, v] 270)) (cmdL 0 ⟨#[]⟩) 36) (.cells (cmdL op ⟨#[]⟩).toArray 36)
  simpa [cmdL] using this
end Go.Proofs.YtnjhpgmbfblgaaaGreat.Ord
namespace Go.Proofs
open Go.Shelf

end Go.Proofs
namespace Go.Proofs.YtnjhpgmbfblgaaaGreat.Ord
open Go.RowKit
set_option linter.unusedVariables false
theorem write_start (w : World) (l : List Value) (hl : l.length = 10) : ∃ W, W = ((w.alloc (.cells l.toArray 36)).alloc (.cells #[.int .u8 0, .slice none 0 0] 270)).alloc (.cells #[.pointer (some ⟨w.heap.size, 0, none⟩), .pointer none, .slice none 0 0, .bool false] 339) /\
  W.rowIs w.heap.size 36 10 (listF l) /\ W.rowIs (w.heap.size + 1) 270 2 (listF [.int .u8 0, .slice none 0 0]) /\ W.rowIs (w.heap.size + 1 + 1) 339 4 (codF (.pointer (some ⟨w.heap.size, 0, none⟩)) (.pointer none) (.slice none 0 0) false) /\ Below w.heap.size w W /\ W.heap.size = w.heap.size + 3 := by
 refine ⟨_, rfl, ?_, ?_, ?_, below3 w _ _ _, by simp⟩
 ·have := row_list w l 36
  rw [hl] at this
  exact World.rowIs.alloc (World.rowIs.alloc this _) _
 ·have := row_list (w.alloc (.cells l.toArray 36)) [.int .u8 0, .slice none 0 0] 270
  exact World.rowIs.alloc (by simpa using this) _
 ·have := row_list ((w.alloc (.cells l.toArray 36)).alloc (.cells #[.int .u8 0, .slice none 0 0] 270)) [.pointer (some ⟨w.heap.size, 0, none⟩), .pointer none, .slice none 0 0, .bool false] 339
  refine World.rowIs.congr (by simpa using this) fun i hi => ?_
  match i, hi with
  | 0, _ => rfl
  | 1, _ => rfl
  | 2, _ => rfl
  | 3, _ => rfl

theorem wpList_load_want {P : Program} {ops : Array Oper} {rest : List Oper} {o : Oper} {a : Act} {w : World} {Q : Exit -> Act -> World -> Prop} (ty : TypeId) (x : Operand) (ho : o.op = .load ty x)
  (ad : Addr) (hx : a.eval x = .pointer (some ad)) (cs : List Value) (d : TypeDesc) (hc : CellsAt w ad cs)
  (hu : P.underlying ty = some d) (hd : (match d with | .struct _ | .array _ _ => true | _ => false) = true) (hi : (P.info? ty).map (·.size) = some cs.length)
  (hw : Region.wanted o (yielded ops a.tmps) = true)
  (h : wpList P ops Q rest (a.put o.dst (.agg cs.toArray)) w) : wpList P ops Q (o :: rest) a w := by
 unfold wpList
 rw [if_pos hw]
 exact .inl (wp_load_agg ty x ho ad hx cs d hc hu hd hi h)

theorem Kept.own {Q : Nat} {a b : World} (h : Kept [Q] a b) {base : Nat} {e : TypeId} {size : Nat} {v : Value} {n : Nat} {xs : List Value} (hown : a.ownsRow base e size v n xs) (hQ : Q < base) : b.ownsRow base e size v n xs := by
 refine World.ownsRow.kept hown (row := some Q) ⟨h.os, h.tape, h.output, h.size, fun k hk hne => h.block k hk fun hm => hne (by simp at hm; rw [hm])⟩ ?_
 cases hv : v.ownBlock with
 | none => exact .inl rfl
 | some k =>
  right
  intro e2
  cases e2
  have := (hown.lt Q hv).1
  omega
/-- what a step is: kind, connection, number, bytes -/
structure StepR where
 k : Int
 c : Int
 n : Int
 d : List Int
def stepL (k c n : Int) (v : Value) : List Value := [.int .i64 k, .int .i64 c, .int .i64 n, v]
theorem own_ne_row {w : World} {base : Nat} {e t : TypeId} {size n m Q : Nat} {f : Nat -> Value} {v : Value} {xs : List Value} (h : w.ownsRow base e size v n xs) (hr : w.rowIs Q t m f) (ht : t ≠ e) : v.ownBlock ≠ some Q := by
 intro he
 rcases h.2 with ⟨h1, _⟩ | ⟨g, cap, cur, h1, _, hh, _⟩
 ·subst h1; cases he
 ·subst h1
  cases he
  obtain ⟨cs, h2, _⟩ := hr
  rw [hh] at h2
  cases h2
  exact ht rfl
theorem own_ne_own {w : World} {base base' : Nat} {e e' : TypeId} {size size' n n' : Nat} {v v' : Value} {xs xs' : List Value} (h : w.ownsRow base e size v n xs) (h' : w.ownsRow base' e' size' v' n' xs') (ht : e ≠ e') : v.ownBlock = none ∨ v.ownBlock ≠ v'.ownBlock := by
 rcases h.2 with ⟨h1, _⟩ | ⟨g, cap, cur, h1, _, hh, _⟩
 ·subst h1; exact .inl rfl
 ·right
  subst h1
  intro he
  rcases h'.2 with ⟨h1', _⟩ | ⟨g', cap', cur', h1', _, hh', _⟩
  ·subst h1'; cases he
  ·subst h1'
   cases he
   rw [hh] at hh'
   cases hh'
   exact ht rfl
theorem Kept.own2 {L : List Nat} {a b : World} (h : Kept L a b) {base : Nat} {e : TypeId} {size : Nat} {v : Value} {n : Nat} {xs : List Value} (hown : a.ownsRow base e size v n xs) (hL : ∀ k ∈ L, v.ownBlock ≠ some k) : b.ownsRow base e size v n xs := by
 refine ⟨hown.1, ?_⟩
 rcases hown.2 with hn | ⟨g, cap, cur, rfl, hb, hgg, rest⟩
 ·exact .inl hn
 ·refine .inr ⟨g, cap, cur, rfl, hb, ?_, rest⟩
  rw [h.block g (Array.getElem?_eq_some_iff.1 hgg).1 (fun hm => hL g hm rfl)]
  exact hgg
theorem results_cell1 {P : Program} {fn : Func} {p : Tmp} {ty : TypeId} (h : fn.results = #[.cell p ty]) (tmps : Array Value) (w : World) (ad : Addr) (v : Value)
  (hp : tmps.getD p undef = .pointer (some ad)) (hl : (loadVar ty ad).run P w = .ok v w) : (results fn tmps).run P w = .ok v w := by
 have hp' : tmps[p]?.getD undef = .pointer (some ad) := by simpa using hp
 simp [results, h, hp', asAddr, hl]
def stepC (p : StepR × Value) : List Value := stepL p.1.k p.1.c p.1.n p.2
def OwnSteps (w : World) (base : Nat) (v : Value) (ps : List (StepR × Value)) : Prop := w.ownsRow base 28 4 v ps.length (ps.flatMap stepC) /\ ∀ p ∈ ps, Own8 w base p.2 p.1.d
def slLen : Value -> Nat
 | .slice _ n _ => n
 | _ => 0
theorem OwnSteps.val {w : World} {base : Nat} {v : Value} {ps : List (StepR × Value)} (h : OwnSteps w base v ps) : slLen v = ps.length := by
 rcases h.1.2 with ⟨h1, h2⟩ | ⟨g, cap, cur, h1, _⟩
 ·rw [h1, h2]; rfl
 ·rw [h1]; rfl
theorem OwnSteps.kept {L : List Nat} {a b : World} (h : Kept L a b) {base : Nat} {v : Value} {ps : List (StepR × Value)} (ho : OwnSteps a base v ps) (h1 : ∀ k ∈ L, v.ownBlock ≠ some k) (h2 : ∀ p ∈ ps, ∀ k ∈ L, p.2.ownBlock ≠ some k) : OwnSteps b base v ps :=
 ⟨h.own2 ho.1 h1, fun p hp => h.own2 (ho.2 p hp) (h2 p hp)⟩
/-- one step more in the list -/
theorem OwnSteps.snoc {w2 w3 : World} {base : Nat} {v v3 : Value} {ps : List (StepR × Value)} {r : StepR} {d : Value} {o : Obj} (ho : OwnSteps w2 base v ps) (hd : Own8 w2 base d r.d)
  (hown : w3.ownsRow base 28 4 v3 (ps.length + 1) (ps.flatMap stepC ++ stepL r.k r.c r.n d)) (hg : (w2.alloc o).grownBy w3 v.ownBlock) : OwnSteps w3 base v3 (ps ++ [(r, d)]) := by
 refine ⟨by simpa [stepC] using hown, fun p hp => ?_⟩
 have hp1 : Own8 w2 base p.2 p.1.d := by
  rcases List.mem_append.1 hp with h | h
  ·exact ho.2 p h
  ·simp at h; subst h; exact hd
 have hp2 := World.ownsRow.alloc hp1 o
 have ho2 := World.ownsRow.alloc ho.1 o
 exact hp2.kept hg (own_ne_own hp2 ho2 (by decide))

theorem OwnSteps.alloc {w : World} {base : Nat} {v : Value} {ps : List (StepR × Value)} (ho : OwnSteps w base v ps) (o : Obj) : OwnSteps (w.alloc o) base v ps :=
 ⟨ho.1.alloc o, fun p hp => World.ownsRow.alloc (ho.2 p hp) o⟩
theorem Byt.low {w w' : World} {B w0 : Nat} {A : Option Addr} {c : Nat} {xs : List Int} (h : Byt w B A c xs) (hb : Below w0 w w') (h0 : w0 <= w'.heap.size) (hA : ∀ b off, A = some ⟨b, off, none⟩ -> b < w0) : Byt w' w'.heap.size A c xs := by
 refine ⟨h.1, h.2.1, fun i hi => ?_⟩
 obtain ⟨x, off, e1, e2, e3⟩ := h.2.2 i hi
 have hx := hA x off e1
 refine ⟨x, off, e1, by omega, fun y hy => ?_⟩
 rw [World.cell?_of_block (w := w) (hb.block x hx)]
 exact e3 y hy
/-- a slice of bytes, below a block -/
def DatB (w : World) (B : Nat) (d : Value) (xs : List Int) : Prop := (∀ y ∈ xs, 0 <= y /\ y < 256) /\ xs.length <= 10000 /\ ∃ A c, d = .slice A xs.length c /\ Byt w B A c xs
theorem DatB.below {B B' : Nat} {w w' : World} {d : Value} {xs : List Int} (h : DatB w B d xs) (hb : Below B' w w') (hB : B <= B') : DatB w' B d xs := by
 obtain ⟨h1, h2, A, c, h3, h4⟩ := h
 exact ⟨h1, h2, A, c, h3, h4.below hb hB⟩
theorem DatB.mono {B B' : Nat} {w : World} {d : Value} {xs : List Int} (h : DatB w B d xs) (hB : B <= B') : DatB w B' d xs := by
 obtain ⟨h1, h2, A, c, h3, h4⟩ := h
 exact ⟨h1, h2, A, c, h3, h4.mono hB⟩
def Steps (w : World) (B : Nat) (A : Option Addr) (rs : List StepR) : Prop :=
 ∀ i r, rs[i]? = some r -> ∃ b off d, A = some ⟨b, off, none⟩ /\ b < B /\ CellsAt w ⟨b, off + i * 4, none⟩ (stepL r.k r.c r.n d) /\ DatB w B d r.d
theorem Steps.below {B B' : Nat} {w w' : World} {A : Option Addr} {rs : List StepR} (h : Steps w B A rs) (hb : Below B' w w') (hB : B <= B') : Steps w' B A rs := by
 intro i r hi
 obtain ⟨b, off, d, h1, h2, h3, h4⟩ := h i r hi
 exact ⟨b, off, d, h1, h2, h3.below hb (by show b < B'; omega), h4.below hb hB⟩
theorem Steps.mono {B B' : Nat} {w : World} {A : Option Addr} {rs : List StepR} (h : Steps w B A rs) (hB : B <= B') : Steps w B' A rs := by
 intro i r hi
 obtain ⟨b, off, d, h1, h2, h3, h4⟩ := h i r hi
 exact ⟨b, off, d, h1, by omega, h3, h4.mono hB⟩

theorem flat4 : ∀ (ps : List (StepR × Value)) (i : Nat) (p : StepR × Value) (j : Nat) (v : Value), ps[i]? = some p -> (stepC p)[j]? = some v -> (ps.flatMap stepC)[i * 4 + j]? = some v
 | [], _, _, _, _, h, _ => by simp at h
 | q :: ps, 0, p, j, v, h, hj => by
  simp at h; subst h
  rw [List.flatMap_cons, Nat.zero_mul, Nat.zero_add, List.getElem?_append_left (List.getElem?_eq_some_iff.1 hj).1]
  exact hj
 | q :: ps, i + 1, p, j, v, h, hj => by
  have e : (stepC q).length = 4 := rfl
  rw [List.flatMap_cons, List.getElem?_append_right (by rw [e]; omega), e, show (i + 1) * 4 + j - 4 = i * 4 + j by omega]
  exact flat4 ps i p j v (by simpa using h) hj

theorem Steps.of_own {w : World} {base : Nat} {v : Value} {ps : List (StepR × Value)} (h : OwnSteps w base v ps) (hd : ∀ p ∈ ps, (∀ y ∈ p.1.d, 0 <= y /\ y < 256) /\ p.1.d.length <= 10000) :
  ∃ A c, v = .slice A ps.length c /\ ps.length <= c /\ Steps w w.heap.size A (ps.map (·.1)) := by
 rcases owns_shape h.1 (by decide) with ⟨h1, h2, _⟩ | ⟨g, cap, h1, _, hlt, h2, _⟩
 ·refine ⟨none, 0, by rw [h1, h2], by omega, fun i r hi => ?_⟩
  obtain rfl : ps = [] := List.eq_nil_of_length_eq_zero h2
  simp at hi
 ·refine ⟨_, cap, h1, h2, fun i r hi => ?_⟩
  rw [List.getElem?_map] at hi
  obtain ⟨p, hp, rfl⟩ := Option.map_eq_some_iff.1 hi
  have hm : p ∈ ps := List.mem_iff_getElem?.2 ⟨i, hp⟩
  obtain ⟨A, c, hv, hb⟩ := (h.2 p hm).val
  refine ⟨g, 0, p.2, rfl, hlt, fun j u hj => ?_, (hd p hm).1, (hd p hm).2, A, c, hv, hb⟩
  have hc := h.1.cells (g := g) (by rw [h1]; rfl) (i * 4 + j) u (flat4 ps i p j u hp hj)
  rw [Addr.add_mid] at hc ⊢
  rw [Nat.add_assoc]
  exact hc

theorem str_beq {xs ys : List Int} (hx : ∀ y ∈ xs, 0 <= y /\ y < 256) (hy : ∀ y ∈ ys, 0 <= y /\ y < 256) : ((strOfNums xs).toList == (strOfNums ys).toList) = decide (xs = ys) := by
 rw [Lib.strOfNums_toList, Lib.strOfNums_toList]
 have back : ∀ l : List Int, (∀ y ∈ l, 0 <= y /\ y < 256) -> (Lib.bytesOf l).map (fun b => (b.toNat : Int)) = l := by
  intro l hl
  unfold Lib.bytesOf
  rw [List.map_map]
  conv => rhs; rw [<- List.map_id l]
  refine List.map_congr_left fun y hy => ?_
  have := hl y hy
  simp only [Function.comp_apply, UInt8.toNat_ofNat', id]
  omega
 rw [Bool.eq_iff_iff, beq_iff_eq, decide_eq_true_iff]
 exact ⟨fun h => by rw [<- back xs hx, <- back ys hy, h], fun h => by rw [h]⟩

instance : Inhabited StepR := ⟨⟨0, 0, 0, []⟩⟩
def sAt (rs : List StepR) (k : Nat) : StepR := rs.getD k default
theorem Steps.at {w : World} {B : Nat} {A : Option Addr} {rs : List StepR} (h : Steps w B A rs) {n : Nat} (hn : n < rs.length) : ∃ b off d, A = some ⟨b, off, none⟩ /\ b < B /\ CellsAt w ⟨b, off + n * 4, none⟩ (stepL (sAt rs n).k (sAt rs n).c (sAt rs n).n d) /\ DatB w B d (sAt rs n).d := by
 have : sAt rs n = rs[n] := by simp [sAt, List.getD, hn]
 rw [this]
 exact h n _ (List.getElem?_eq_getElem hn)
def DatG (w : World) (B : Nat) (d : Value) (xs : List Int) : Prop := (∀ y ∈ xs, 0 <= y /\ y < 256) /\ xs.length <= maxLen /\ ∃ A c, d = .slice A xs.length c /\ Byt w B A c xs
def StepsG (w : World) (B : Nat) (A : Option Addr) (rs : List StepR) : Prop :=
 ∀ i r, rs[i]? = some r -> ∃ b off d, A = some ⟨b, off, none⟩ /\ b < B /\ CellsAt w ⟨b, off + i * 4, none⟩ (stepL r.k r.c r.n d) /\ DatG w B d r.d
theorem StepsG.small {w : World} {B : Nat} {A : Option Addr} {rs : List StepR} (h : StepsG w B A rs) (hs : ∀ r ∈ rs, r.d.length <= 10000) : Steps w B A rs := by
 intro i r hi
 obtain ⟨b, off, d, h1, h2, h3, h4, _, h5⟩ := h i r hi
 exact ⟨b, off, d, h1, h2, h3, h4, hs r (List.mem_iff_getElem?.2 ⟨i, hi⟩), h5⟩
theorem StepsG.at {w : World} {B : Nat} {A : Option Addr} {rs : List StepR} (h : StepsG w B A rs) {n : Nat} (hn : n < rs.length) : ∃ b off d, A = some ⟨b, off, none⟩ /\ b < B /\ CellsAt w ⟨b, off + n * 4, none⟩ (stepL (sAt rs n).k (sAt rs n).c (sAt rs n).n d) /\ DatG w B d (sAt rs n).d := by
 have : sAt rs n = rs[n] := by simp [sAt, List.getD, hn]
 rw [this]
 exact h n _ (List.getElem?_eq_getElem hn)

def fewOk (rs : List StepR) : Bool := decide (rs.length <= 60) && rs.all fun r => decide (r.d.length <= 300)
theorem fewOk.out {rs : List StepR} (h : fewOk rs = true) : rs.length <= 60 /\ ∀ r ∈ rs, r.d.length <= 300 := by
 simp only [fewOk, Bool.and_eq_true, decide_eq_true_eq, List.all_eq_true] at h
 exact h
end Go.Proofs.YtnjhpgmbfblgaaaGreat.Ord
namespace Go.Proofs.YtnjhpgmbfblgaaaGreat.Ord
open Go.ChangeShapes Go.WideShapes Go.ChangeAt Go.RowKit Go.Deep
set_option linter.unusedVariables false
section
variable {H : Type} {enc : TypeId × Value -> H} {w : World} {base : Nat} {spare : Nat -> Bool} {held : Bool}
end
end Go.Proofs.YtnjhpgmbfblgaaaGreat.Ord
namespace Go.Proofs.YtnjhpgmbfblgaaaGreat.Ord
set_option maxRecDepth 100000
set_option maxHeartbeats 16000000
open Go.RowKit
set_option linter.unusedVariables false
/-- elements of one cell, below a block -/
def ElV {α : Type} (enc : α -> Value) (w : World) (B : Nat) (A : Option Addr) (xs : List α) : Prop := ∀ i x, xs[i]? = some x -> ∃ b off, A = some ⟨b, off, none⟩ /\ b < B /\ w.cell? ⟨b, off + i, none⟩ = some (enc x)
theorem ElV.below {α : Type} {enc : α -> Value} {w w' : World} {B B' : Nat} {A : Option Addr} {xs : List α} (h : ElV enc w B A xs) (hb : Below B' w w') (hB : B <= B') : ElV enc w' B A xs := by
 intro i x hi
 obtain ⟨b, off, h1, h2, h3⟩ := h i x hi
 exact ⟨b, off, h1, h2, (hb.cell (p := ⟨b, off + i, none⟩) (by show b < B'; omega)).trans h3⟩
theorem ElV.mono {α : Type} {enc : α -> Value} {w : World} {B B' : Nat} {A : Option Addr} {xs : List α} (h : ElV enc w B A xs) (hB : B <= B') : ElV enc w B' A xs := by
 intro i x hi
 obtain ⟨b, off, h1, h2, h3⟩ := h i x hi
 exact ⟨b, off, h1, by omega, h3⟩
/-- a slice value with such elements -/
def SlV {α : Type} (enc : α -> Value) (w : World) (B : Nat) (v : Value) (xs : List α) : Prop := xs.length <= maxLen /\ ∃ A c, v = .slice A xs.length c /\ ElV enc w B A xs
theorem SlV.below {α : Type} {enc : α -> Value} {w w' : World} {B B' : Nat} {v : Value} {xs : List α} (h : SlV enc w B v xs) (hb : Below B' w w') (hB : B <= B') : SlV enc w' B v xs := by
 obtain ⟨h1, A, c, h2, h3⟩ := h
 exact ⟨h1, A, c, h2, h3.below hb hB⟩
theorem SlV.mono {α : Type} {enc : α -> Value} {w : World} {B B' : Nat} {v : Value} {xs : List α} (h : SlV enc w B v xs) (hB : B <= B') : SlV enc w B' v xs := by
 obtain ⟨h1, A, c, h2, h3⟩ := h
 exact ⟨h1, A, c, h2, h3.mono hB⟩
theorem DatG.below {B B' : Nat} {w w' : World} {d : Value} {xs : List Int} (h : DatG w B d xs) (hb : Below B' w w') (hB : B <= B') : DatG w' B d xs := by
 obtain ⟨h1, h2, A, c, h3, h4⟩ := h
 exact ⟨h1, h2, A, c, h3, h4.below hb hB⟩
theorem DatG.mono {B B' : Nat} {w : World} {d : Value} {xs : List Int} (h : DatG w B d xs) (hB : B <= B') : DatG w B' d xs := by
 obtain ⟨h1, h2, A, c, h3, h4⟩ := h
 exact ⟨h1, h2, A, c, h3, h4.mono hB⟩
theorem eq_of_upto {α : Type} {xs ys : List α} {n : Nat} (h : xs.length = n) (h' : ys.length = n) (e : ∀ i, i < n -> xs[i]? = ys[i]?) : xs = ys := by
 apply List.ext_getElem?
 intro i
 by_cases hi : i < n
 ·exact e i hi
 ·rw [List.getElem?_eq_none (by omega), List.getElem?_eq_none (by omega)]
theorem bytes_ne {x y : ByteArray} (h : x ≠ y) : (x.toList == y.toList) = false := by
 cases hb : (x.toList == y.toList) with
 | false => rfl
 | true => exact absurd (by
  have := eq_of_beq hb
  rw [ByteArray.toList_eq, ByteArray.toList_eq] at this
  cases x; cases y
  exact congrArg ByteArray.mk (Array.toList_inj.1 this)) h
theorem nums67_len (X Y : Option Addr) (n m cx cy : Nat) (w : World) (hn : n <= maxLen) (hm : m <= maxLen) (hne : n ≠ m) :
  Calls Tryz.prog 122 #[.slice X n cx, .slice Y m cy] w fun e w' => e = .returned (.bool false) /\ ∃ q, w' = w.drewN q := by
 have hn' : n <= 9223372036854775807 := by unfold maxLen at hn; omega
 have hm' : m <= 9223372036854775807 := by unfold maxLen at hm; omega
 have h1 : ((n : Int) != (m : Int)) = true := by simp; omega
 clear hn hm
 go_enter Tryz.func122, Tryz.ntmps122
 go_wp2_with fail
 go_ret
 exact ⟨rfl, 0, rfl⟩
theorem nums67_same (X Y : Option Addr) (xs ys : List Int) (n cx cy : Nat) (w : World) (hx : xs.length = n) (hy : ys.length = n) (hn : n <= maxLen) (hX : ElV (Value.int .u64) w w.heap.size X xs) (hY : ElV (Value.int .u64) w w.heap.size Y ys) :
  Calls Tryz.prog 122 #[.slice X n cx, .slice Y n cy] w fun e w' => e = .returned (.bool (decide (xs = ys))) /\ ∃ q, w' = w.drewN q := by
 have hn' : n <= 9223372036854775807 := by unfold maxLen at hn; omega
 have HN := kp hx
 have HM := kp hy
 have hX := kp hX
 have hY := kp hY
 clear hx hy hn
 have h1 : ((n : Int) != (n : Int)) = false := by simp
 obtain ⟨res, hres⟩ : ∃ res, decide (xs = ys) = res := ⟨_, rfl⟩
 rw [hres]
 have HR := kp hres
 clear hres
 go_enter Tryz.func122, Tryz.ntmps122
 go_wp2_with fail
 go_loopw [13] (fun j wr => ∃ k q : Nat, k <= n /\ j = .int .i64 k /\ (∀ i, i < k -> xs[i]? = ys[i]?) /\ wr = w.drewN q) (fun j _ => n - (intOf j).toNat)
 case atStart => exact ⟨0, 0, Nat.zero_le _, rfl, fun i h => absurd h (by omega), rfl⟩
 case round =>
  obtain ⟨k, q, hk, rfl, hE, rfl⟩ := hrel
  have HE := kp hE
  clear hE
  by_cases hlt : k < n
  ·obtain ⟨x, hx⟩ : ∃ x, xs[k]? = some x := ⟨xs[k]'(by rw [HN.out]; exact hlt), List.getElem?_eq_getElem _⟩
   obtain ⟨y, hy⟩ : ∃ y, ys[k]? = some y := ⟨ys[k]'(by rw [HM.out]; exact hlt), List.getElem?_eq_getElem _⟩
   obtain ⟨b, o, rfl, hbX, c1⟩ := hX.out k x hx
   obtain ⟨b', o', rfl, hbY, c2⟩ := hY.out k y hy
   have c1 : (w.drewN q).cell? ⟨b, o + k, none⟩ = some ((Value.int .u64) x) := c1
   have c2 : (w.drewN q).cell? ⟨b', o' + k, none⟩ = some ((Value.int .u64) y) := c2
   have KX := kp hx
   have KY := kp hy
   clear hx hy
   have hg : decide ((k : Int) < (n : Int)) = true := by simp; omega
   obtain ⟨W, hW⟩ : ∃ W, w.drewN q = W := ⟨_, rfl⟩
   rw [hW] at c1 c2 ⊢
   have HW := kp hW
   clear hW
   by_cases hxy : x = y
   ·subst hxy
    have h2 : (x != x) = false := by simp
    go_wp2_with fail
    go_quiet (fail)
    go_wp2
    go_roundw
    case rel => exact ⟨k + 1, q + nq, by omega, by go_num, fun i hi => by
     by_cases e : i = k
     ·subst e; rw [KX.out, KY.out]
     ·exact HE.out i (by omega), by rw [<- HW.out, World.drewN_drewN]⟩
    case measure => simp [intOf]; omega
   ·have h2 : (x != y) = true := by simp [hxy]
    go_wp2_with fail
    go_quiet (fail)
    go_wp2
    go_ret
    refine ⟨ret_bool ?_, q + nq, by rw [<- HW.out, World.drewN_drewN]⟩
    rw [<- HR.out, eq_comm, decide_eq_false_iff_not]
    rintro rfl
    rw [KX.out] at KY
    exact hxy (by simpa using KY.out)
  ·obtain rfl : k = n := by omega
   have hg : decide ((k : Int) < (k : Int)) = false := by simp
   go_wp2_with fail
   go_ret
   refine ⟨ret_bool ?_, q, rfl⟩
   rw [<- HR.out, eq_comm, decide_eq_true_iff]
   exact eq_of_upto HN.out HM.out HE.out
theorem nums67_any (X Y : Option Addr) (xs ys : List Int) (n m cx cy : Nat) (w : World) (hx : xs.length = n) (hy : ys.length = m) (hn : n <= maxLen) (hm : m <= maxLen) (hX : ElV (Value.int .u64) w w.heap.size X xs) (hY : ElV (Value.int .u64) w w.heap.size Y ys) :
  Calls Tryz.prog 122 #[.slice X n cx, .slice Y m cy] w fun e w' => e = .returned (.bool (decide (xs = ys))) /\ ∃ q, w' = w.drewN q := by
 by_cases h : n = m
 ·subst h
  exact nums67_same X Y xs ys n cx cy w hx hy hn hX hY
 ·have : decide (xs = ys) = false := decide_eq_false (by rintro rfl; omega)
  rw [this]
  exact nums67_len X Y n m cx cy w hn hm h

theorem strs68_len (X Y : Option Addr) (n m cx cy : Nat) (w : World) (hn : n <= maxLen) (hm : m <= maxLen) (hne : n ≠ m) :
  Calls Tryz.prog 123 #[.slice X n cx, .slice Y m cy] w fun e w' => e = .returned (.bool false) /\ ∃ q, w' = w.drewN q := by
 have hn' : n <= 9223372036854775807 := by unfold maxLen at hn; omega
 have hm' : m <= 9223372036854775807 := by unfold maxLen at hm; omega
 have h1 : ((n : Int) != (m : Int)) = true := by simp; omega
 clear hn hm
 go_enter Tryz.func123, Tryz.ntmps123
 go_wp2_with fail
 go_ret
 exact ⟨rfl, 0, rfl⟩
theorem strs68_same (X Y : Option Addr) (xs ys : List ByteArray) (n cx cy : Nat) (w : World) (hx : xs.length = n) (hy : ys.length = n) (hn : n <= maxLen) (hX : ElV Value.string w w.heap.size X xs) (hY : ElV Value.string w w.heap.size Y ys) :
  Calls Tryz.prog 123 #[.slice X n cx, .slice Y n cy] w fun e w' => e = .returned (.bool (decide (xs = ys))) /\ ∃ q, w' = w.drewN q := by
 have hn' : n <= 9223372036854775807 := by unfold maxLen at hn; omega
 have HN := kp hx
 have HM := kp hy
 have hX := kp hX
 have hY := kp hY
 clear hx hy hn
 have h1 : ((n : Int) != (n : Int)) = false := by simp
 obtain ⟨res, hres⟩ : ∃ res, decide (xs = ys) = res := ⟨_, rfl⟩
 rw [hres]
 have HR := kp hres
 clear hres
 go_enter Tryz.func123, Tryz.ntmps123
 go_wp2_with fail
 go_loopw [5] (fun j wr => ∃ k q : Nat, k <= n /\ j = .int .i64 k /\ (∀ i, i < k -> xs[i]? = ys[i]?) /\ wr = w.drewN q) (fun j _ => n - (intOf j).toNat)
 case atStart => exact ⟨0, 0, Nat.zero_le _, rfl, fun i h => absurd h (by omega), rfl⟩
 case round =>
  obtain ⟨k, q, hk, rfl, hE, rfl⟩ := hrel
  have HE := kp hE
  clear hE
  by_cases hlt : k < n
  ·obtain ⟨x, hx⟩ : ∃ x, xs[k]? = some x := ⟨xs[k]'(by rw [HN.out]; exact hlt), List.getElem?_eq_getElem _⟩
   obtain ⟨y, hy⟩ : ∃ y, ys[k]? = some y := ⟨ys[k]'(by rw [HM.out]; exact hlt), List.getElem?_eq_getElem _⟩
   obtain ⟨b, o, rfl, hbX, c1⟩ := hX.out k x hx
   obtain ⟨b', o', rfl, hbY, c2⟩ := hY.out k y hy
   have c1 : (w.drewN q).cell? ⟨b, o + k, none⟩ = some (Value.string x) := c1
   have c2 : (w.drewN q).cell? ⟨b', o' + k, none⟩ = some (Value.string y) := c2
   have KX := kp hx
   have KY := kp hy
   clear hx hy
   have hg : decide ((k : Int) < (n : Int)) = true := by simp; omega
   obtain ⟨W, hW⟩ : ∃ W, w.drewN q = W := ⟨_, rfl⟩
   rw [hW] at c1 c2 ⊢
   have HW := kp hW
   clear hW
   by_cases hxy : x = y
   ·subst hxy
    have h2 : (x.toList == x.toList) = true := by simp
    go_wp2_with fail
    go_quiet (fail)
    go_wp2
    go_roundw
    case rel => exact ⟨k + 1, q + nq, by omega, by go_num, fun i hi => by
     by_cases e : i = k
     ·subst e; rw [KX.out, KY.out]
     ·exact HE.out i (by omega), by rw [<- HW.out, World.drewN_drewN]⟩
    case measure => simp [intOf]; omega
   ·have h2 : (x.toList == y.toList) = false := bytes_ne hxy
    go_wp2_with fail
    go_quiet (fail)
    go_wp2
    go_ret
    refine ⟨ret_bool ?_, q + nq, by rw [<- HW.out, World.drewN_drewN]⟩
    rw [<- HR.out, eq_comm, decide_eq_false_iff_not]
    rintro rfl
    rw [KX.out] at KY
    exact hxy (by simpa using KY.out)
  ·obtain rfl : k = n := by omega
   have hg : decide ((k : Int) < (k : Int)) = false := by simp
   go_wp2_with fail
   go_ret
   refine ⟨ret_bool ?_, q, rfl⟩
   rw [<- HR.out, eq_comm, decide_eq_true_iff]
   exact eq_of_upto HN.out HM.out HE.out
theorem strs68_any (X Y : Option Addr) (xs ys : List ByteArray) (n m cx cy : Nat) (w : World) (hx : xs.length = n) (hy : ys.length = m) (hn : n <= maxLen) (hm : m <= maxLen) (hX : ElV Value.string w w.heap.size X xs) (hY : ElV Value.string w w.heap.size Y ys) :
  Calls Tryz.prog 123 #[.slice X n cx, .slice Y m cy] w fun e w' => e = .returned (.bool (decide (xs = ys))) /\ ∃ q, w' = w.drewN q := by
 by_cases h : n = m
 ·subst h
  exact strs68_same X Y xs ys n cx cy w hx hy hn hX hY
 ·have : decide (xs = ys) = false := decide_eq_false (by rintro rfl; omega)
  rw [this]
  exact strs68_len X Y n m cx cy w hn hm h

theorem strs64_len (X Y : Option Addr) (n m cx cy : Nat) (w : World) (hn : n <= maxLen) (hm : m <= maxLen) (hne : n ≠ m) :
  Calls Tryz.prog 118 #[.slice X n cx, .slice Y m cy] w fun e w' => e = .returned (.bool false) /\ ∃ q, w' = w.drewN q := by
 have hn' : n <= 9223372036854775807 := by unfold maxLen at hn; omega
 have hm' : m <= 9223372036854775807 := by unfold maxLen at hm; omega
 have h1 : ((n : Int) != (m : Int)) = true := by simp; omega
 clear hn hm
 go_enter Tryz.func118, Tryz.ntmps118
 go_wp2_with fail
 go_ret
 exact ⟨rfl, 0, rfl⟩
theorem strs64_same (X Y : Option Addr) (xs ys : List ByteArray) (n cx cy : Nat) (w : World) (hx : xs.length = n) (hy : ys.length = n) (hn : n <= maxLen) (hX : ElV Value.string w w.heap.size X xs) (hY : ElV Value.string w w.heap.size Y ys) :
  Calls Tryz.prog 118 #[.slice X n cx, .slice Y n cy] w fun e w' => e = .returned (.bool (decide (xs = ys))) /\ ∃ q, w' = w.drewN q := by
 have hn' : n <= 9223372036854775807 := by unfold maxLen at hn; omega
 have HN := kp hx
 have HM := kp hy
 have hX := kp hX
 have hY := kp hY
 clear hx hy hn
 have h1 : ((n : Int) != (n : Int)) = false := by simp
 obtain ⟨res, hres⟩ : ∃ res, decide (xs = ys) = res := ⟨_, rfl⟩
 rw [hres]
 have HR := kp hres
 clear hres
 go_enter Tryz.func118, Tryz.ntmps118
 go_wp2_with fail
 go_loopw [13] (fun j wr => ∃ k q : Nat, k <= n /\ j = .int .i64 k /\ (∀ i, i < k -> xs[i]? = ys[i]?) /\ wr = w.drewN q) (fun j _ => n - (intOf j).toNat)
 case atStart => exact ⟨0, 0, Nat.zero_le _, rfl, fun i h => absurd h (by omega), rfl⟩
 case round =>
  obtain ⟨k, q, hk, rfl, hE, rfl⟩ := hrel
  have HE := kp hE
  clear hE
  by_cases hlt : k < n
  ·obtain ⟨x, hx⟩ : ∃ x, xs[k]? = some x := ⟨xs[k]'(by rw [HN.out]; exact hlt), List.getElem?_eq_getElem _⟩
   obtain ⟨y, hy⟩ : ∃ y, ys[k]? = some y := ⟨ys[k]'(by rw [HM.out]; exact hlt), List.getElem?_eq_getElem _⟩
   obtain ⟨b, o, rfl, hbX, c1⟩ := hX.out k x hx
   obtain ⟨b', o', rfl, hbY, c2⟩ := hY.out k y hy
   have c1 : (w.drewN q).cell? ⟨b, o + k, none⟩ = some (Value.string x) := c1
   have c2 : (w.drewN q).cell? ⟨b', o' + k, none⟩ = some (Value.string y) := c2
   have KX := kp hx
   have KY := kp hy
   clear hx hy
   have hg : decide ((k : Int) < (n : Int)) = true := by simp; omega
   obtain ⟨W, hW⟩ : ∃ W, w.drewN q = W := ⟨_, rfl⟩
   rw [hW] at c1 c2 ⊢
   have HW := kp hW
   clear hW
   by_cases hxy : x = y
   ·subst hxy
    have h2 : (x.toList == x.toList) = true := by simp
    go_wp2_with fail
    go_quiet (fail)
    go_wp2
    go_roundw
    case rel => exact ⟨k + 1, q + nq, by omega, by go_num, fun i hi => by
     by_cases e : i = k
     ·subst e; rw [KX.out, KY.out]
     ·exact HE.out i (by omega), by rw [<- HW.out, World.drewN_drewN]⟩
    case measure => simp [intOf]; omega
   ·have h2 : (x.toList == y.toList) = false := bytes_ne hxy
    go_wp2_with fail
    go_quiet (fail)
    go_wp2
    go_ret
    refine ⟨ret_bool ?_, q + nq, by rw [<- HW.out, World.drewN_drewN]⟩
    rw [<- HR.out, eq_comm, decide_eq_false_iff_not]
    rintro rfl
    rw [KX.out] at KY
    exact hxy (by simpa using KY.out)
  ·obtain rfl : k = n := by omega
   have hg : decide ((k : Int) < (k : Int)) = false := by simp
   go_wp2_with fail
   go_ret
   refine ⟨ret_bool ?_, q, rfl⟩
   rw [<- HR.out, eq_comm, decide_eq_true_iff]
   exact eq_of_upto HN.out HM.out HE.out
theorem strs64_any (X Y : Option Addr) (xs ys : List ByteArray) (n m cx cy : Nat) (w : World) (hx : xs.length = n) (hy : ys.length = m) (hn : n <= maxLen) (hm : m <= maxLen) (hX : ElV Value.string w w.heap.size X xs) (hY : ElV Value.string w w.heap.size Y ys) :
  Calls Tryz.prog 118 #[.slice X n cx, .slice Y m cy] w fun e w' => e = .returned (.bool (decide (xs = ys))) /\ ∃ q, w' = w.drewN q := by
 by_cases h : n = m
 ·subst h
  exact strs64_same X Y xs ys n cx cy w hx hy hn hX hY
 ·have : decide (xs = ys) = false := decide_eq_false (by rintro rfl; omega)
  rw [this]
  exact strs64_len X Y n m cx cy w hn hm h
theorem bytes41 (A A' : Option Addr) (n m c c' : Nat) (xs ys : List Int) (w : World) (hn : xs.length = n) (hm : ys.length = m) (hx : ∀ y ∈ xs, 0 <= y /\ y < 256) (hy : ∀ y ∈ ys, 0 <= y /\ y < 256) (hA : Byt w w.heap.size A c xs) (hA' : Byt w w.heap.size A' c' ys) :
  Calls Tryz.prog 119 #[.slice A n c, .slice A' m c'] w fun e w' => e = .returned (.bool (decide (xs = ys))) /\ ∃ q, w' = w.drewN q := by
 have q1 := hA.convert hn
 have q2 := hA'.convert hm
 have hse := str_beq hx hy
 rw [<- hse]
 clear hse hx hy hA hA' hn hm
 generalize strOfNums xs = x at *
 generalize strOfNums ys = y at *
 go_enter Tryz.func119, Tryz.ntmps119
 go_wp2_with fail
 go_ret
 exact ⟨rfl, 0, rfl⟩

structure ItemR where
 mark : Int
 val : List Int
 ver : Int
 dead : Int
def itemL (m : Int) (v : Value) (r d : Int) : List Value := [.int .i64 m, v, .int .u64 r, .int .u64 d]
def itemEq (a b : ItemR) : Bool := a.mark == b.mark && decide (a.val = b.val) && a.ver == b.ver && a.dead == b.dead

theorem item66 (a b : ItemR) (v v' : Value) (w : World) (ha : DatG w w.heap.size v a.val) (hb : DatG w w.heap.size v' b.val) :
  Calls Tryz.prog 121 #[.agg (itemL a.mark v a.ver a.dead).toArray, .agg (itemL b.mark v' b.ver b.dead).toArray] w fun e w' => e = .returned (.bool (itemEq a b)) /\ Below w.heap.size w w' := by
 have h2 := below2 w (.cells (itemL a.mark v a.ver a.dead).toArray 78) (.cells (itemL b.mark v' b.ver b.dead).toArray 78)
 obtain ⟨av1, av2, A, c, rfl, av3⟩ := (ha.below h2 (Nat.le_refl _)).mono h2.size
 obtain ⟨bv1, bv2, A', c', rfl, bv3⟩ := (hb.below h2 (Nat.le_refl _)).mono h2.size
 clear ha hb
 obtain ⟨am, av, ar, ad⟩ := a
 obtain ⟨bm, bv, br, bd⟩ := b
 simp only [itemL] at *
 have H41 := kp (bytes41 A A' _ _ c c' av bv _ rfl rfl av1 bv1 av3 bv3)
 obtain ⟨res, hres⟩ : ∃ res, itemEq ⟨am, av, ar, ad⟩ ⟨bm, bv, br, bd⟩ = res := ⟨_, rfl⟩
 rw [hres]
 simp only [itemEq] at hres
 obtain ⟨g1, hg1⟩ : ∃ g1, decide (av = bv) = g1 := ⟨_, rfl⟩
 rw [hg1] at hres H41
 clear hg1 av3 bv3 av1 bv1 av2 bv2
 generalize av.length = n1 at *
 generalize bv.length = n2 at *
 clear av bv
 have HR := kp hres
 have HB := kp h2
 clear hres h2
 go_enter Tryz.func121, Tryz.ntmps121
 cases t0 : (am == bm)
 ·go_wp2_with fail
  go_ret
  exact ⟨ret_bool (by rw [<- HR.out]; simp [t0]), HB.out⟩
 ·go_wp2_with fail
  refine H41.out.mono ?_
  rintro e w1 ⟨rfl, q1, rfl⟩
  cases g1
  ·go_wp2_with fail
   go_ret
   exact ⟨ret_bool (by rw [<- HR.out]; simp [t0]), ⟨HB.out.os, HB.out.tape, HB.out.output, HB.out.size, HB.out.block⟩⟩
  ·cases t2 : (ar == br)
   ·go_wp2_with fail
    go_ret
    exact ⟨ret_bool (by rw [<- HR.out]; simp [t0, t2]), ⟨HB.out.os, HB.out.tape, HB.out.output, HB.out.size, HB.out.block⟩⟩
   ·cases t3 : (ad == bd)
    iterate 2
     ·go_wp2_with fail
      go_ret
      exact ⟨ret_bool (by rw [<- HR.out]; simp [t0, t2, t3]), ⟨HB.out.os, HB.out.tape, HB.out.output, HB.out.size, HB.out.block⟩⟩

theorem item69 (a b : ItemR) (v v' : Value) (w : World) (ha : DatG w w.heap.size v a.val) (hb : DatG w w.heap.size v' b.val) :
  Calls Tryz.prog 59 #[.agg (itemL a.mark v a.ver a.dead).toArray, .agg (itemL b.mark v' b.ver b.dead).toArray] w fun e w' => e = .returned (.bool (itemEq a b)) /\ Below w.heap.size w w' := by
 have h2 := below2 w (.cells (itemL a.mark v a.ver a.dead).toArray 78) (.cells (itemL b.mark v' b.ver b.dead).toArray 78)
 obtain ⟨av1, av2, A, c, rfl, av3⟩ := (ha.below h2 (Nat.le_refl _)).mono h2.size
 obtain ⟨bv1, bv2, A', c', rfl, bv3⟩ := (hb.below h2 (Nat.le_refl _)).mono h2.size
 clear ha hb
 obtain ⟨am, av, ar, ad⟩ := a
 obtain ⟨bm, bv, br, bd⟩ := b
 simp only [itemL] at *
 have q1 := av3.convert rfl
 have q2 := bv3.convert rfl
 have hse := str_beq av1 bv1
 obtain ⟨res, hres⟩ : ∃ res, itemEq ⟨am, av, ar, ad⟩ ⟨bm, bv, br, bd⟩ = res := ⟨_, rfl⟩
 rw [hres]
 simp only [itemEq] at hres
 rw [<- hse] at hres
 clear hse av3 bv3 av1 bv1 av2 bv2
 generalize strOfNums av = sa at *
 generalize strOfNums bv = sb at *
 generalize av.length = n1 at *
 generalize bv.length = n2 at *
 clear av bv
 have HR := kp hres
 have HB := kp h2
 clear hres h2
 go_enter Tryz.func59, Tryz.ntmps59
 cases t0 : (am == bm)
 ·go_wp2_with fail
  go_ret
  exact ⟨ret_bool (by rw [<- HR.out]; simp [t0]), HB.out⟩
 ·cases t1 : (sa.toList == sb.toList)
  ·go_wp2_with fail
   go_ret
   exact ⟨ret_bool (by rw [<- HR.out]; simp [t0, t1]), HB.out⟩
  ·cases t2 : (ar == br)
   ·go_wp2_with fail
    go_ret
    exact ⟨ret_bool (by rw [<- HR.out]; simp [t0, t1, t2]), HB.out⟩
   ·cases t3 : (ad == bd)
    ·go_wp2_with fail
     go_ret
     exact ⟨ret_bool (by rw [<- HR.out]; simp [t0, t1, t2, t3]), HB.out⟩
    ·go_wp2_with fail
     go_ret
     exact ⟨ret_bool (by rw [<- HR.out]; simp [t0, t1, t2, t3]), HB.out⟩
theorem cells_lit (w : World) (l : List Value) (g : Nat) (t : TypeId) (hg : w.heap.size = g) : CellsAt (w.alloc (.cells l.toArray t)) ⟨g, 0, none⟩ l := by
 subst hg
 exact row_cells (row_list w l t) _ rfl fun i hi => rfl
end Go.Proofs.YtnjhpgmbfblgaaaGreat.Ord
