/- The heap of the reference's Of. -/
import Derived.Test.YtnjhpgmbfblgaaaGreatMH18
namespace Go.Proofs.YtnjhpgmbfblgaaaGreat.Ord
open Go.RowKit
set_option linter.unusedVariables false
set_option linter.unusedSimpArgs false
def atI : Option Nat -> Int
 | none => -1
 | some j => j
def connL (ses num a : Int) : List Value := [.bool true, .int .i64 ses, .int .i64 num, .int .i64 a]
def cv : Option ConnS -> Value
 | none => .agg #[.bool false, .int .i64 0, .int .i64 0, .int .i64 0]
 | some c => .agg (connL c.ses c.num (atI c.at_)).toArray
def zc : Value := .agg #[.bool false, .int .i64 0, .int .i64 0, .int .i64 0]
def flatC (L : List (CallR × CallV)) : List Value := L.flatMap fun x => callC x.1 x.2
structure RefI (w : World) (lim mb : Nat) (o : Value) (L : List (CallR × CallV)) (s : St) : Prop where
 hlim : lim <= w.heap.size
 map : ∃ g, MapAt w mb g /\ ∀ k, (g k).getD zc = cv (s.conns k)
 own : w.ownsRow lim 52 23 o L.length (flatC L)
 calls : L.map (·.1) = s.calls
 ok : ∀ x ∈ L, CallOk w lim x.1 x.2
 lmb : lim <= mb
section
variable {w w' : World} {lim mb : Nat} {o : Value} {L : List (CallR × CallV)} {s : St}
theorem RefI.below (h : RefI w lim mb o L s) (hb : Below w.heap.size w w') : RefI w' lim mb o L s := by
 obtain ⟨g, h1, h2⟩ := h.map
 exact ⟨Nat.le_trans h.hlim hb.size, ⟨g, h1.of_block (hb.block _ h1.lt), h2⟩, (Kept.of_below (L := []) hb).own2 h.own (by simp), h.calls, fun x hx => (h.ok x hx).below hb h.hlim, h.lmb⟩
theorem RefI.len (h : RefI w lim mb o L s) : L.length = s.calls.length := by rw [<- h.calls, List.length_map]
theorem RefI.put (h : RefI w lim mb o L s) {k : Int} {c : Option ConnS} {u : Value} (hu : u = cv c) (hK : Kept [mb] w w') {g : Int -> Option Value} (hm : ∀ g, MapAt w mb g -> MapAt w' mb fun k' => if k' = k then some u else g k') : RefI w' lim mb o L (s.put k c) := by
 obtain ⟨g, h1, h2⟩ := h.map
 have hB : Below lim w w' := hK.below h.hlim fun b hb => by simp at hb; subst hb; exact h.lmb
 refine ⟨Nat.le_trans h.hlim hK.size, ⟨_, hm g h1, fun k' => ?_⟩, hK.own2 h.own fun b hb => ?_, h.calls, fun x hx => (h.ok x hx).below hB (Nat.le_refl _), h.lmb⟩
 ·simp only [St.put]
  by_cases e : k' = k
  ·simp [e, hu]
  ·simp [e, h2 k']
 ·simp at hb; subst hb; exact h1.ne_own h.own
theorem RefI.nses (h : RefI w lim mb o L s) (n : Int) : RefI w lim mb o L { s with nses := n } := ⟨h.hlim, h.map, h.own, h.calls, h.ok, h.lmb⟩
theorem RefI.lk (h : RefI w lim mb o L s) (k : Int) {u : Value} (hu : cv (s.conns k) = u) : (Instr.lookup 115 (.map (some mb)) (.int .i64 k) false).run Tryz.prog w = .ok u w := by
 obtain ⟨g, h1, h2⟩ := h.map
 rw [<- hu, <- h2 k]
 exact h1.run_lookup Tryz.underlying115 (by kernel_rfl) zc (Tryz.zeroValue117 w) k
theorem RefI.push {o' : Value} {x : CallR} {p : CallV} (h : RefI w lim mb o L s) (ho : w'.ownsRow lim 52 23 o' (L.length + 1) (flatC L ++ callC x p)) (hg : w.grownBy w' o.ownBlock) (hx : CallOk w lim x p) : RefI w' lim mb o' (L ++ [(x, p)]) { s with calls := s.calls ++ [x] } := by
 obtain ⟨g, h1, h2⟩ := h.map
 have hK := kept_of_grown hg
 have hB : Below lim w w' := hK.below h.hlim fun b hb => own_ge h.own hb
 refine ⟨Nat.le_trans h.hlim hK.size, ⟨g, h1.kept hK (not_own (h1.ne_own h.own)), h2⟩, ?_, by simp [h.calls], fun y hy => ?_, h.lmb⟩
 ·have : flatC (L ++ [(x, p)]) = flatC L ++ callC x p := by simp [flatC]
  rw [this, List.length_append]
  exact ho
 ·rcases List.mem_append.1 hy with hy | hy
  ·exact (h.ok y hy).below hB (Nat.le_refl _)
  ·simp at hy; subst hy; exact hx.below hB (Nat.le_refl _)
end
/-- lists of 23 cells, one after the other, of which one is another -/
theorem flatten_set : ∀ (Ls : List (List Value)) (j i : Nat) (u : Value) (l : List Value), (∀ x ∈ Ls, x.length = 23) -> Ls[j]? = some l -> i < 23 -> Ls.flatten.set (j * 23 + i) u = (Ls.set j (l.set i u)).flatten
 | [], j, i, u, l, h, hj, hi => by simp at hj
 | x :: Ls, 0, i, u, l, h, hj, hi => by
  simp at hj
  subst hj
  have hl := h x (by simp)
  simp only [List.flatten_cons, Nat.zero_mul, Nat.zero_add, List.set_cons_zero]
  rw [List.set_append_left _ _ (by omega)]
 | x :: Ls, j + 1, i, u, l, h, hj, hi => by
  have hl := h x (by simp)
  simp only [List.flatten_cons, List.set_cons_succ]
  rw [List.set_append_right _ _ (by omega), hl, show (j + 1) * 23 + i - 23 = j * 23 + i by omega, flatten_set Ls j i u l (fun y hy => h y (by simp [hy])) (by simpa using hj) hi]
theorem flatten_at : ∀ (Ls : List (List Value)) (j i : Nat) (l : List Value), (∀ x ∈ Ls, x.length = 23) -> Ls[j]? = some l -> i < 23 -> Ls.flatten[j * 23 + i]? = l[i]?
 | [], j, i, l, h, hj, hi => by simp at hj
 | x :: Ls, 0, i, l, h, hj, hi => by
  simp at hj
  subst hj
  have hl := h x (by simp)
  simp only [List.flatten_cons, Nat.zero_mul, Nat.zero_add]
  rw [List.getElem?_append_left (by omega)]
 | x :: Ls, j + 1, i, l, h, hj, hi => by
  have hl := h x (by simp)
  simp only [List.flatten_cons]
  rw [List.getElem?_append_right (by omega), hl, show (j + 1) * 23 + i - 23 = j * 23 + i by omega, flatten_at Ls j i l (fun y hy => h y (by simp [hy])) (by simpa using hj) hi]
/-- the row of the calls, of which the j-th is at work: its cells are l -/
structure RowJ (w : World) (lim g cap : Nat) (L : List (CallR × CallV)) (j : Nat) (l : List Value) : Prop where
 own : w.ownsRow lim 52 23 (.slice (some ⟨g, 0, none⟩) L.length cap) L.length ((L.map fun x => callC x.1 x.2).set j l).flatten
 len : l.length = 23
 lt : j < L.length
section
variable {w w' : World} {lim g cap j : Nat} {L : List (CallR × CallV)} {l : List Value}
theorem RowJ.all (h : RowJ w lim g cap L j l) : ∀ x ∈ (L.map fun x => callC x.1 x.2).set j l, x.length = 23 := fun x hx => by
 rcases List.mem_or_eq_of_mem_set hx with h1 | h1
 ·obtain ⟨y, _, rfl⟩ := List.mem_map.1 h1
  rfl
 ·rw [h1]; exact h.len
theorem RowJ.at_ (h : RowJ w lim g cap L j l) : ((L.map fun x => callC x.1 x.2).set j l)[j]? = some l := by
 have := h.lt
 simp [this]
theorem RowJ.start {x : CallR} {p : CallV} (h : w.ownsRow lim 52 23 (.slice (some ⟨g, 0, none⟩) L.length cap) L.length (flatC L)) (hj : L[j]? = some (x, p)) : RowJ w lim g cap L j (callC x p) := by
 have hl := (List.getElem?_eq_some_iff.1 hj).1
 refine ⟨?_, rfl, hl⟩
 have e : (L.map fun x => callC x.1 x.2).set j (callC x p) = L.map fun x => callC x.1 x.2 := by
  apply List.ext_getElem?
  intro i
  by_cases e : i = j
  ·subst e
   have : L[i] = (x, p) := by rw [List.getElem?_eq_getElem hl] at hj; exact Option.some.inj hj
   simp [hl, this]
  ·have e' : j ≠ i := fun h => e h.symm
   simp [e']
 rw [e]
 simpa [flatC, List.flatMap] using h
theorem RowJ.set (h : RowJ w lim g cap L j l) (i : Nat) (u : Value) (hi : i < 23) : RowJ (w.setCell ⟨g, j * 23 + i, none⟩ u) lim g cap L j (l.set i u) := by
 have h1 := (h.own.stored (j * 23 + i) u).1
 rw [flatten_set _ j i u l h.all h.at_ hi, List.set_set] at h1
 exact ⟨h1, by simp [h.len], h.lt⟩
theorem RowJ.put : ∀ (vs : List Value) {w : World} {l : List Value} (i : Nat), RowJ w lim g cap L j l -> i + vs.length <= 23 -> RowJ (w.setCells g (j * 23 + i) vs) lim g cap L j (putL l i vs)
 | [], _, _, _, h, _ => h
 | u :: vs, _, _, i, h, hi => by
  simp at hi
  have := RowJ.put vs (i + 1) (h.set i u (by omega)) (by omega)
  exact this
theorem RowJ.cell (h : RowJ w lim g cap L j l) {i : Nat} {v : Value} (hv : l[i]? = some v) : w.cell? ⟨g, j * 23 + i, none⟩ = some v := by
 have hi := (List.getElem?_eq_some_iff.1 hv).1
 rw [h.len] at hi
 have := h.lt
 rw [h.own.cellAt (j * 23 + i) (by omega), flatten_at _ j i l h.all h.at_ hi, hv]
theorem RowJ.frozen (h : RowJ w lim g cap L j l) (i : Nat) : w.frozen? ⟨g, j * 23 + i, none⟩ = false := h.own.frozenAt (j * 23 + i)
theorem RowJ.there (h : RowJ w lim g cap L j l) {i n : Nat} (hn : i + n <= 23) : w.there g (j * 23 + i) n := fun k hk => by
 have h1 : i + k < l.length := by rw [h.len]; omega
 rw [Nat.add_assoc]
 exact ⟨by rw [h.cell (List.getElem?_eq_getElem h1)]; rfl, h.frozen _⟩
theorem RowJ.drew (h : RowJ w lim g cap L j l) : RowJ w.drew lim g cap L j l := ⟨h.own, h.len, h.lt⟩
theorem RowJ.kept {K : List Nat} (h : RowJ w lim g cap L j l) (hk : Kept K w w') (hg : g ∉ K) : RowJ w' lim g cap L j l :=
 ⟨hk.own2 h.own (fun k hk' e => by cases e; exact hg hk'), h.len, h.lt⟩
theorem RowJ.done (h : RowJ w lim g cap L j l) {y : CallR} {q : CallV} (e : l = callC y q) : w.ownsRow lim 52 23 (.slice (some ⟨g, 0, none⟩) L.length cap) (L.set j (y, q)).length (flatC (L.set j (y, q))) := by
 have h1 := h.own
 rw [e] at h1
 rw [List.length_set]
 have : flatC (L.set j (y, q)) = ((L.map fun x => callC x.1 x.2).set j (callC y q)).flatten := by
  unfold flatC
  rw [List.flatMap, List.map_set]
 rw [this]
 exact h1
theorem RowJ.ne_map {b : Nat} {f : Int -> Option Value} (h : RowJ w lim g cap L j l) (hr : MapAt w b f) : b ≠ g := fun e => hr.ne_own h.own (by rw [e]; rfl)
end
theorem RefI.call_set {w w' : World} {lim mb g cap j : Nat} {L : List (CallR × CallV)} {s : St} {x y : CallR} {p q : CallV} {l : List Value} (h : RefI w lim mb (.slice (some ⟨g, 0, none⟩) L.length cap) L s) (hj : L[j]? = some (x, p)) (hr : RowJ w' lim g cap L j l) (e : l = callC y q) (hy : CallOk w lim y q) (hK : Kept [g] w w') : RefI w' lim mb (.slice (some ⟨g, 0, none⟩) (L.set j (y, q)).length cap) (L.set j (y, q)) { s with calls := s.calls.set j y } := by
 obtain ⟨gm, h1, h2⟩ := h.map
 have hB : Below lim w w' := hK.below h.hlim fun b hb => by simp at hb; subst hb; exact (h.own.lt _ rfl).1
 have hn : mb ∉ [g] := by
  simp only [List.mem_singleton]
  intro e
  exact h1.ne_own h.own (by rw [e]; rfl)
 refine ⟨Nat.le_trans h.hlim hK.size, ⟨gm, h1.kept hK hn, h2⟩, by have := hr.done e; rw [List.length_set] at this ⊢; exact this, by rw [List.map_set, h.calls], fun z hz => ?_, h.lmb⟩
 rcases List.mem_or_eq_of_mem_set hz with h3 | h3
 ·exact (h.ok z h3).below hB (Nat.le_refl _)
 ·subst h3; exact hy.below hB (Nat.le_refl _)
theorem mapAt_unique {w : World} {b : Nat} {f g : Int -> Option Value} (h : MapAt w b f) (h' : MapAt w b g) (k : Int) : f k = g k := by
 obtain ⟨es, c, h1, _, h2⟩ := h
 obtain ⟨es', c', h1', _, h2'⟩ := h'
 rw [h1] at h1'
 cases h1'
 rw [<- h2 k, h2' k]
section
variable {P : Program}
theorem wpList_map_update {w : World} {ops : Array Oper} {rest : List Oper} {o : Oper} {a : Act} {Q : Exit -> Act -> World -> Prop} (hgd : o.guard = none) (T kT eT : TypeId) (x y z : Operand) (ho : o.op = .mapUpdate T x y z)
  (b : Nat) (k : Int) (v : Value) (hx : a.eval x = .map (some b)) (hy : a.eval y = .int .i64 k) (hz : a.eval z = v) (f : Int -> Option Value) (hm : MapAt w b f)
  (hT : P.underlying T = some (.map kT eT)) (hK : P.underlying kT = some (.int .i64))
  (h : ∀ w', Kept [b] w w' -> (∀ g, MapAt w b g -> MapAt w' b (fun k' => if k' = k then some v else g k')) -> wpList P ops Q rest (a.put o.dst undef) w') : wpList P ops Q (o :: rest) a w :=
 wpList_step fun K hK' => step_map_update hgd T kT eT x y z ho b k v hx hy hz f hm hT hK fun w' a1 a2 => hK' _ _ (h w' a1 fun g hg => by
  have e : ∀ k, f k = g k := mapAt_unique hm hg
  exact a2.congr fun k' => by simp only [e])
end
end Go.Proofs.YtnjhpgmbfblgaaaGreat.Ord
