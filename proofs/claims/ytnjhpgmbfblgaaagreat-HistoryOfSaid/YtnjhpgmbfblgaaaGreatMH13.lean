/- The history of a trace, as a function; the heap of the reader that computes it; Step laws of regions: an entry of a map written, an entry removed. -/
import Derived.Test.YtnjhpgmbfblgaaaGreatMS0
namespace Go.Proofs.YtnjhpgmbfblgaaaGreat.Ord
open Go.RowKit
set_option linter.unusedVariables false
def cmd0 : CmdR := ⟨0, ⟨#[]⟩, [], [], [], 0, 0, ⟨#[]⟩, ⟨#[]⟩, ⟨#[]⟩⟩
def resp0 : RespR := ⟨0, 0, [], 0, 0, []⟩
/-- what is known of a connection -/
structure ConnS where
 ses : Int
 num : Int
 at_ : Option Nat
structure St where
 conns : Int -> Option ConnS
 calls : List CallR
 nses : Int
def St.put (s : St) (k : Int) (c : Option ConnS) : St := { s with conns := fun j => if j = k then c else s.conns j }
def newCall (c : ConnS) (i : Nat) (d : DidR) : CallR :=
 if d.micro = 2 then ⟨c.ses, c.num, true, cmd0, d.resp, i, -1, -1, 0⟩ else ⟨c.ses, c.num, false, d.cmd, resp0, i, -1, -1, 0⟩
def newV (d : DidR) (p : DidV) : CallV :=
 if d.micro = 2 then ⟨.slice none 0 0, .slice none 0 0, .slice none 0 0, p.vi, p.vn⟩ else ⟨p.vk, p.vv, p.vt, .slice none 0 0, .slice none 0 0⟩
def doneCall (x : CallR) (i : Nat) (d : DidR) : CallR := { x with resp := d.resp, done := i, tim := d.when }
def toldCall (x : CallR) (i : Nat) : CallR := { x with told := i }
def microOf (i : Nat) (d : DidR) (s : St) : Option St :=
 match s.conns d.step.c with
 | none => none
 | some c =>
  if d.micro = 1 ∨ d.micro = 2 then
   match c.at_ with
   | some _ => none
   | none => some { s.put d.step.c (some ⟨c.ses, c.num + 1, some s.calls.length⟩) with calls := s.calls ++ [newCall c i d] }
  else if d.micro = 3 then
   match c.at_ with
   | none => none
   | some j =>
    match s.calls[j]? with
    | none => none
    | some x => if x.bad = true ∨ 0 <= x.done then none else some { s with calls := s.calls.set j (doneCall x i d) }
  else if d.micro = 4 then
   match c.at_ with
   | none => none
   | some j =>
    match s.calls[j]? with
    | none => none
    | some x => if x.bad = false /\ x.done < 0 then none else some { s.put d.step.c (some ⟨c.ses, c.num, none⟩) with calls := s.calls.set j (toldCall x i) }
  else some s
def readOf (i : Nat) (d : DidR) (s : St) : Option St :=
 if d.step.k = 1 then
  match s.conns d.n with
  | some _ => none
  | none => some { s.put d.n (some ⟨s.nses, 0, none⟩) with nses := s.nses + 1 }
 else if d.step.k = 7 then
  match s.conns d.step.c with
  | none => none
  | some _ => some (s.put d.step.c none)
 else if d.step.k = 3 then microOf i d s
 else some s
def stepIf (i : Nat) (d : DidR) (s : St) : Option St := if d.err = 0 then readOf i d s else some s
def runOf : List DidR -> Nat -> St -> Option St
 | [], _, s => some s
 | d :: ds, i, s => match stepIf i d s with
  | none => none
  | some s' => runOf ds (i + 1) s'
def st0 : St := ⟨fun _ => none, [], 0⟩

/-- what the numbers of a state keep -/
structure StOk (i : Nat) (s : St) : Prop where
 nses : 0 <= s.nses /\ s.nses <= i
 num : ∀ k c, s.conns k = some c -> 0 <= c.num /\ c.num <= i
 at_ : ∀ k c j, s.conns k = some c -> c.at_ = some j -> j < s.calls.length
 len : s.calls.length <= i
theorem StOk.init : StOk 0 st0 := ⟨by simp [st0], fun k c h => by simp [st0] at h, fun k c j h => by simp [st0] at h, by simp [st0]⟩
theorem StOk.succ {i : Nat} {s : St} (h : StOk i s) : StOk (i + 1) s := ⟨by have := h.nses; omega, fun k c hc => by have := h.num k c hc; omega, h.at_, by have := h.len; omega⟩
theorem StOk.micro {i : Nat} {d : DidR} {s s' : St} (h : StOk i s) (e : microOf i d s = some s') : StOk (i + 1) s' := by
 unfold microOf at e
 split at e
 ·cases e
 ·rename_i c hc
  have hn := h.num _ _ hc
  split at e
  ·split at e
   ·cases e
   ·cases e
    refine ⟨by have := h.nses; exact ⟨this.1, by show s.nses <= _; omega⟩, fun k c' hk => ?_, fun k c' j hk hj => ?_, by have := h.len; simp; omega⟩
    ·simp only [St.put] at hk
     split at hk
     ·cases hk; exact ⟨by show 0 <= c.num + 1; omega, by show c.num + 1 <= _; omega⟩
     ·have := h.num k c' hk; omega
    ·simp only [St.put] at hk
     simp only [List.length_append, List.length_cons, List.length_nil]
     split at hk
     ·cases hk; cases hj; omega
     ·have := h.at_ k c' j hk hj; omega
  ·split at e
   ·split at e
    ·cases e
    ·split at e
     ·cases e
     ·split at e
      ·cases e
      ·cases e
       exact ⟨by have := h.nses; exact ⟨this.1, by show s.nses <= _; omega⟩, fun k c' hk => by have := h.num k c' hk; omega, fun k c' j hk hj => by have := h.at_ k c' j hk hj; simpa using this, by have := h.len; simp; omega⟩
   ·split at e
    ·split at e
     ·cases e
     ·split at e
      ·cases e
      ·split at e
       ·cases e
       ·cases e
        refine ⟨by have := h.nses; exact ⟨this.1, by show s.nses <= _; omega⟩, fun k c' hk => ?_, fun k c' j hk hj => ?_, by have := h.len; simp; omega⟩
        ·simp only [St.put] at hk
         split at hk
         ·cases hk; exact ⟨hn.1, by show c.num <= _; omega⟩
         ·have := h.num k c' hk; omega
        ·simp only [St.put] at hk
         simp only [List.length_set]
         split at hk
         ·cases hk; cases hj
         ·exact h.at_ k c' j hk hj
    ·cases e
     exact h.succ
theorem StOk.step {i : Nat} {d : DidR} {s s' : St} (h : StOk i s) (e : stepIf i d s = some s') : StOk (i + 1) s' := by
 unfold stepIf at e
 split at e
 ·unfold readOf at e
  split at e
  ·split at e
   ·cases e
   ·cases e
    have hns := h.nses
    refine ⟨⟨by show 0 <= s.nses + 1; omega, by show s.nses + 1 <= _; omega⟩, fun k c hk => ?_, fun k c j hk hj => ?_, by have := h.len; show s.calls.length <= _; omega⟩
    ·simp only [St.put] at hk
     split at hk
     ·cases hk; exact ⟨by show (0 : Int) <= 0; omega, by show (0 : Int) <= _; omega⟩
     ·have := h.num k c hk; omega
    ·simp only [St.put] at hk
     split at hk
     ·cases hk; cases hj
     ·exact h.at_ k c j hk hj
  ·split at e
   ·split at e
    ·cases e
    ·cases e
     refine ⟨by have := h.nses; exact ⟨this.1, by show s.nses <= _; omega⟩, fun k c hk => ?_, fun k c j hk hj => ?_, by have := h.len; show s.calls.length <= _; omega⟩
     ·simp only [St.put] at hk
      split at hk
      ·cases hk
      ·have := h.num k c hk; omega
     ·simp only [St.put] at hk
      split at hk
      ·cases hk
      ·exact h.at_ k c j hk hj
   ·split at e
    ·exact h.micro e
    ·cases e; exact h.succ
 ·cases e; exact h.succ

def ptrV (b : Nat) : Value := .pointer (some ⟨b, 0, none⟩)
def atP (ps : List Nat) : Option Nat -> Value
 | none => .pointer none
 | some j => ptrV (ps.getD j 0)
/-- the heap of the reader -/
structure Inv (w : World) (lim rb mb : Nat) (v : Value) (cb : Int -> Nat) (ps : List Nat) (s : St) : Prop where
 hlim : lim <= w.heap.size
 row : RowL w rb 111 [.map (some mb), v, .int .i64 s.nses]
 map : MapAt w mb fun k => (s.conns k).map fun _ => ptrV (cb k)
 conn : ∀ k c, s.conns k = some c -> RowL w (cb k) 196 [.int .i64 c.ses, .int .i64 c.num, atP ps c.at_]
 inj : ∀ k c k' c', s.conns k = some c -> s.conns k' = some c' -> cb k = cb k' -> k = k'
 own : w.ownsRow lim 113 1 v ps.length (ps.map ptrV)
 len : ps.length = s.calls.length
 nodup : ps.Nodup
 call : ∀ j x, s.calls[j]? = some x -> ∃ p, RowL w (ps.getD j 0) 52 (callC x p) /\ CallOk w lim x p
 lrb : lim <= rb
 lmb : lim <= mb
 lcb : ∀ k c, s.conns k = some c -> lim <= cb k
 lps : ∀ b ∈ ps, lim <= b
theorem Inv.below {w w' : World} {lim rb mb : Nat} {v : Value} {cb : Int -> Nat} {ps : List Nat} {s : St} (h : Inv w lim rb mb v cb ps s) (hb : Below w.heap.size w w') : Inv w' lim rb mb v cb ps s where
 hlim := Nat.le_trans h.hlim hb.size
 row := h.row.below hb h.row.lt
 map := h.map.of_block (hb.block _ h.map.lt)
 conn := fun k c hc => (h.conn k c hc).below hb (h.conn k c hc).lt
 inj := h.inj
 own := (Kept.of_below (L := []) hb).own2 h.own (by simp)
 len := h.len
 nodup := h.nodup
 call := fun j x hx => by
  obtain ⟨p, h1, h2⟩ := h.call j x hx
  exact ⟨p, h1.below hb h1.lt, h2.below hb h.hlim⟩
 lrb := h.lrb
 lmb := h.lmb
 lcb := h.lcb
 lps := h.lps
theorem getD_set_ne {ps : List Nat} {j k : Nat} (hn : ps.Nodup) (hj : j < ps.length) (hk : k < ps.length) (e : ps.getD j 0 = ps.getD k 0) : j = k := by
 simp only [List.getD, List.getElem?_eq_getElem hj, List.getElem?_eq_getElem hk, Option.getD_some] at e
 exact (List.getElem_inj hn).1 e
theorem atP_append {ps : List Nat} {a : Option Nat} (h : ∀ j, a = some j -> j < ps.length) (b : Nat) : atP (ps ++ [b]) a = atP ps a := by
 cases a with
 | none => rfl
 | some j =>
  have := h j rfl
  simp only [atP, List.getD, List.getElem?_append_left this]
theorem own_ge {w : World} {base : Nat} {e : TypeId} {size n k : Nat} {v : Value} {xs : List Value} (h : w.ownsRow base e size v n xs) (hk : k ∈ v.ownBlock.toList) : base <= k := (h.lt k (by simpa using hk)).1
theorem not_own {b : Nat} {v : Value} (h : v.ownBlock ≠ some b) : b ∉ v.ownBlock.toList := by simpa using h
theorem Inv.ps_lt {w : World} {lim rb mb : Nat} {v : Value} {cb : Int -> Nat} {ps : List Nat} {s : St} (h : Inv w lim rb mb v cb ps s) {b : Nat} (hb : b ∈ ps) : b < w.heap.size := by
 obtain ⟨j, hj⟩ := List.mem_iff_getElem?.1 hb
 have hl := (List.getElem?_eq_some_iff.1 hj).1
 have hl' : j < s.calls.length := by rw [<- h.len]; exact hl
 obtain ⟨p, h1, _⟩ := h.call j s.calls[j] (List.getElem?_eq_getElem hl')
 have := h1.lt
 simpa [List.getD, hj] using this
theorem Inv.ps_mem {w : World} {lim rb mb : Nat} {v : Value} {cb : Int -> Nat} {ps : List Nat} {s : St} (h : Inv w lim rb mb v cb ps s) {j : Nat} {x : CallR} (hx : s.calls[j]? = some x) : ps.getD j 0 ∈ ps := by
 have hl := (List.getElem?_eq_some_iff.1 hx).1
 rw [<- h.len] at hl
 simp only [List.getD, List.getElem?_eq_getElem hl, Option.getD_some]
 exact List.getElem_mem hl
theorem Inv.micro_new {w w' : World} {lim rb mb : Nat} {v v' : Value} {cb : Int -> Nat} {ps : List Nat} {s : St} {i : Nat} (h : Inv w lim rb mb v cb ps s) (hs : StOk i s) {k : Int} {c : ConnS} (hk : s.conns k = some c) {pn : Nat} {x : CallR} {p : CallV}
  (hr : RowL w' rb 111 [.map (some mb), v', .int .i64 s.nses]) (hc : RowL w' (cb k) 196 [.int .i64 c.ses, .int .i64 (c.num + 1), ptrV pn]) (hp : RowL w' pn 52 (callC x p)) (hx : CallOk w lim x p)
  (ho : w'.ownsRow lim 113 1 v' (ps.length + 1) (ps.map ptrV ++ [ptrV pn])) (hn : w.heap.size <= pn) (hK : Kept (rb :: cb k :: v.ownBlock.toList) w w') :
  Inv w' lim rb mb v' cb (ps ++ [pn]) { s.put k (some ⟨c.ses, c.num + 1, some s.calls.length⟩) with calls := s.calls ++ [x] } := by
 have hck := h.conn k c hk
 have hB : Below lim w w' := hK.below h.hlim fun b hb => by
  rcases List.mem_cons.1 hb with rfl | hb
  ·exact h.lrb
  rcases List.mem_cons.1 hb with rfl | hb
  ·exact h.lcb k c hk
  ·exact own_ge h.own hb
 have hat : ∀ k' c', s.conns k' = some c' -> ∀ j, c'.at_ = some j -> j < ps.length := fun k' c' hc' j hj => by rw [h.len]; exact hs.at_ k' c' j hc' hj
 refine ⟨Nat.le_trans h.hlim hK.size, hr, ?_, ?_, ?_, ?_, by simp [h.len], ?_, ?_, h.lrb, h.lmb, ?_, ?_⟩
 ·refine (h.map.kept hK ?_).congr fun k' => ?_
  ·simp only [List.mem_cons, not_or]
   exact ⟨fun e => h.row.ne_map h.map e.symm, fun e => hck.ne_map h.map e.symm, not_own (h.map.ne_own h.own)⟩
  ·simp only [St.put]
   by_cases e : k' = k
   ·subst e; simp [hk]
   ·simp [e]
 ·intro k' c' hk'
  simp only [St.put] at hk'
  by_cases e : k' = k
  ·subst e
   rw [if_pos rfl] at hk'
   cases hk'
   have : atP (ps ++ [pn]) (some s.calls.length) = ptrV pn := by simp [atP, List.getD, <- h.len]
   rw [this]
   exact hc
  ·rw [if_neg e] at hk'
   have hc' := h.conn k' c' hk'
   rw [atP_append (hat k' c' hk')]
   refine hc'.kept hK ?_
   simp only [List.mem_cons, not_or]
   exact ⟨fun e => hc'.ne h.row (by decide) e, fun e' => e (h.inj k' c' k c hk' hk e'), not_own (hc'.ne_own h.own (by decide))⟩
 ·intro k1 c1 k2 c2 h1 h2 e
  have key : ∀ k' c', (if k' = k then some (⟨c.ses, c.num + 1, some s.calls.length⟩ : ConnS) else s.conns k') = some c' -> ∃ c'', s.conns k' = some c'' := fun k' c' hk' => by
   by_cases e : k' = k
   ·subst e; exact ⟨c, hk⟩
   ·rw [if_neg e] at hk'; exact ⟨c', hk'⟩
  obtain ⟨d1, e1⟩ := key _ _ h1
  obtain ⟨d2, e2⟩ := key _ _ h2
  exact h.inj _ _ _ _ e1 e2 e
 ·simpa using ho
 ·rw [List.nodup_append]
  refine ⟨h.nodup, by simp, fun a ha b hb => ?_⟩
  simp at hb
  subst hb
  have := h.ps_lt ha
  omega
 ·intro j y hy
  by_cases hj : j < s.calls.length
  ·have hjp : j < ps.length := by rw [h.len]; exact hj
   have hy' : s.calls[j]? = some y := by simpa [List.getElem?_append_left hj] using hy
   obtain ⟨q, h1, h2⟩ := h.call j y hy'
   have eg : (ps ++ [pn]).getD j 0 = ps.getD j 0 := by simp only [List.getD, List.getElem?_append_left hjp]
   rw [eg]
   refine ⟨q, h1.kept hK ?_, h2.below hB (Nat.le_refl _)⟩
   simp only [List.mem_cons, not_or]
   exact ⟨fun e => h1.ne h.row (by decide) e, fun e => h1.ne hck (by decide) e, not_own (h1.ne_own h.own (by decide))⟩
  ·have hl := (List.getElem?_eq_some_iff.1 hy).1
   simp at hl
   obtain rfl : j = s.calls.length := by omega
   have hy' : x = y := by simpa using hy
   subst hy'
   have eg : (ps ++ [pn]).getD s.calls.length 0 = pn := by simp [List.getD, <- h.len]
   rw [eg]
   exact ⟨p, hp, hx.below hB (Nat.le_refl _)⟩
 ·intro k' c' hk'
  simp only [St.put] at hk'
  by_cases e : k' = k
  ·subst e; exact h.lcb _ _ hk
  ·rw [if_neg e] at hk'; exact h.lcb _ _ hk'
 ·intro b hb
  rcases List.mem_append.1 hb with hb | hb
  ·exact h.lps b hb
  ·simp at hb; subst hb; exact Nat.le_trans h.hlim hn
theorem Inv.call_set {w w' : World} {lim rb mb : Nat} {v : Value} {cb : Int -> Nat} {ps : List Nat} {s : St} (h : Inv w lim rb mb v cb ps s) {j : Nat} {x y : CallR} {p : CallV} (hj : s.calls[j]? = some x)
  (hp : RowL w' (ps.getD j 0) 52 (callC y p)) (hy : CallOk w lim y p) (hK : Kept [ps.getD j 0] w w') :
  Inv w' lim rb mb v cb ps { s with calls := s.calls.set j y } := by
 obtain ⟨q, hx1, hx2⟩ := h.call j x hj
 have hjl := (List.getElem?_eq_some_iff.1 hj).1
 have hB : Below lim w w' := hK.below h.hlim fun b hb => by simp at hb; subst hb; exact h.lps _ (h.ps_mem hj)
 refine ⟨Nat.le_trans h.hlim hK.size, h.row.kept hK ?_, h.map.kept hK ?_, fun k c hk => (h.conn k c hk).kept hK ?_, h.inj, hK.own2 h.own ?_, by simp [h.len], h.nodup, ?_, h.lrb, h.lmb, h.lcb, h.lps⟩
 ·simp only [List.mem_singleton]; exact h.row.ne hx1 (by decide)
 ·simp only [List.mem_singleton]; exact fun e => hx1.ne_map h.map e.symm
 ·simp only [List.mem_singleton]; exact (h.conn k c hk).ne hx1 (by decide)
 ·intro b hb
  simp at hb
  subst hb
  exact hx1.ne_own h.own (by decide)
 ·intro j' z hz
  by_cases e : j' = j
  ·subst e
   have : y = z := by simpa [hjl] using hz
   subst this
   exact ⟨p, hp, hy.below hB (Nat.le_refl _)⟩
  ·have hz' : s.calls[j']? = some z := by
    have : j ≠ j' := fun h => e h.symm
    simpa [this] using hz
   obtain ⟨q', h1, h2⟩ := h.call j' z hz'
   refine ⟨q', h1.kept hK ?_, h2.below hB (Nat.le_refl _)⟩
   simp only [List.mem_singleton]
   intro e'
   exact e (getD_set_ne h.nodup (by rw [h.len]; exact (List.getElem?_eq_some_iff.1 hz').1) (by rw [h.len]; exact hjl) e')
theorem Inv.connect {w w' : World} {lim rb mb cn : Nat} {v : Value} {cb : Int -> Nat} {ps : List Nat} {s : St} (h : Inv w lim rb mb v cb ps s) {k : Int} (hk : s.conns k = none)
  (hr : RowL w' rb 111 [.map (some mb), v, .int .i64 (s.nses + 1)]) (hm : MapAt w' mb fun k' => if k' = k then some (ptrV cn) else (s.conns k').map fun _ => ptrV (cb k')) (hc : RowL w' cn 196 [.int .i64 s.nses, .int .i64 0, .pointer none])
  (hn : w.heap.size <= cn) (hK : Kept [rb, mb] w w') :
  Inv w' lim rb mb v (fun j => if j = k then cn else cb j) ps { s.put k (some ⟨s.nses, 0, none⟩) with nses := s.nses + 1 } := by
 have hB : Below lim w w' := hK.below h.hlim fun b hb => by
  simp at hb
  rcases hb with rfl | rfl
  ·exact h.lrb
  ·exact h.lmb
 refine ⟨Nat.le_trans h.hlim hK.size, hr, hm.congr fun k' => ?_, ?_, ?_, hK.own2 h.own ?_, h.len, h.nodup, ?_, h.lrb, h.lmb, ?_, h.lps⟩
 ·simp only [St.put]
  by_cases e : k' = k
  ·simp [e]
  ·simp [e]
 ·intro k' c2 hk'
  simp only [St.put] at hk'
  by_cases e : k' = k
  ·subst e
   rw [if_pos rfl] at hk'
   cases hk'
   simpa [atP] using hc
  ·rw [if_neg e] at hk'
   simp only [if_neg e]
   have h1 := h.conn k' c2 hk'
   refine h1.kept hK ?_
   simp only [List.mem_cons, List.not_mem_nil, or_false, not_or]
   exact ⟨h1.ne h.row (by decide), h1.ne_map h.map⟩
 ·intro k1 c1 k2 c2 h1 h2 e
  simp only [St.put] at h1 h2
  by_cases e1 : k1 = k
  ·by_cases e2 : k2 = k
   ·rw [e1, e2]
   ·rw [if_neg e2] at h2
    simp only [if_pos e1, if_neg e2] at e
    have := (h.conn k2 c2 h2).lt
    omega
  ·rw [if_neg e1] at h1
   by_cases e2 : k2 = k
   ·simp only [if_neg e1, if_pos e2] at e
    have := (h.conn k1 c1 h1).lt
    omega
   ·rw [if_neg e2] at h2
    simp only [if_neg e1, if_neg e2] at e
    exact h.inj _ _ _ _ h1 h2 e
 ·intro b hb
  simp at hb
  rcases hb with rfl | rfl
  ·exact h.row.ne_own h.own (by decide)
  ·exact h.map.ne_own h.own
 ·intro j x hx
  obtain ⟨q, h1, h2⟩ := h.call j x hx
  refine ⟨q, h1.kept hK ?_, h2.below hB (Nat.le_refl _)⟩
  simp only [List.mem_cons, List.not_mem_nil, or_false, not_or]
  exact ⟨h1.ne h.row (by decide), h1.ne_map h.map⟩
 ·intro k' c2 hk'
  simp only [St.put] at hk'
  by_cases e : k' = k
  ·simp only [if_pos e]; exact Nat.le_trans h.hlim hn
  ·rw [if_neg e] at hk'
   simp only [if_neg e]
   exact h.lcb _ _ hk'
theorem Inv.gone {w w' : World} {lim rb mb : Nat} {v : Value} {cb : Int -> Nat} {ps : List Nat} {s : St} (h : Inv w lim rb mb v cb ps s) {k : Int}
  (hm : MapAt w' mb fun k' => if k' = k then none else (s.conns k').map fun _ => ptrV (cb k')) (hK : Kept [mb] w w') :
  Inv w' lim rb mb v cb ps (s.put k none) := by
 have hB : Below lim w w' := hK.below h.hlim fun b hb => by simp at hb; subst hb; exact h.lmb
 have old : ∀ k' c2, (if k' = k then none else s.conns k') = some c2 -> s.conns k' = some c2 := fun k' c2 hk' => by
  by_cases e : k' = k
  ·rw [if_pos e] at hk'; cases hk'
  ·rwa [if_neg e] at hk'
 refine ⟨Nat.le_trans h.hlim hK.size, h.row.kept hK ?_, hm.congr fun k' => ?_, fun k' c2 hk' => (h.conn k' c2 (old _ _ hk')).kept hK ?_, fun k1 c1 k2 c2 h1 h2 e => h.inj _ _ _ _ (old _ _ h1) (old _ _ h2) e, hK.own2 h.own ?_, h.len, h.nodup, ?_, h.lrb, h.lmb, fun k' c2 hk' => h.lcb _ _ (old _ _ hk'), h.lps⟩
 ·simp only [List.mem_singleton]; exact h.row.ne_map h.map
 ·simp only [St.put]
  by_cases e : k' = k
  ·simp [e]
  ·simp [e]
 ·simp only [List.mem_singleton]; exact (h.conn k' c2 (old _ _ hk')).ne_map h.map
 ·intro b hb
  simp at hb
  subst hb
  exact h.map.ne_own h.own
 ·intro j x hx
  obtain ⟨q, h1, h2⟩ := h.call j x hx
  refine ⟨q, h1.kept hK ?_, h2.below hB (Nat.le_refl _)⟩
  simp only [List.mem_singleton]
  exact h1.ne_map h.map
section
variable {P : Program}
theorem step_map_update {w : World} {ops : Array Oper} {o : Oper} {a : Act} {K : Act -> World -> Prop} {Q : Exit -> Act -> World -> Prop} {E : Prop} (hgd : o.guard = none) (T kT eT : TypeId) (x y z : Operand) (ho : o.op = .mapUpdate T x y z)
  (b : Nat) (k : Int) (v : Value) (hx : a.eval x = .map (some b)) (hy : a.eval y = .int .i64 k) (hz : a.eval z = v) (f : Int -> Option Value) (hm : MapAt w b f)
  (hT : P.underlying T = some (.map kT eT)) (hK : P.underlying kT = some (.int .i64))
  (h : ∀ w', Kept [b] w w' -> MapAt w' b (fun k' => if k' = k then some v else f k') -> K (a.put o.dst undef) w') :
  if Region.wanted o (yielded ops a.tmps) = true then Oper.wp P o a w K Q else E := by
 rw [if_pos (show Region.wanted o (yielded ops a.tmps) = true by simp [Region.wanted, hgd])]
 obtain ⟨w', hrun, h1, h2⟩ := hm.run_update (P := P) hT hK k v
 unfold Oper.wp execOp
 simp only [ho, hx, hy, hz, Sem.run_bind, Sem.run_pure, Result.andThen_ok, hrun]
 exact h w' h1 h2
theorem step_map_delete {w : World} {ops : Array Oper} {o : Oper} {a : Act} {K : Act -> World -> Prop} {Q : Exit -> Act -> World -> Prop} {E : Prop} (hgd : o.guard = none) (T kT eT : TypeId) (x y : Operand) (ho : o.op = .call { callee := .builtin .delete, args := #[x, y], argTypes := #[T, kT] })
  (b : Nat) (k : Int) (hx : a.eval x = .map (some b)) (hy : a.eval y = .int .i64 k) (f : Int -> Option Value) (hm : MapAt w b f)
  (hT : P.underlying T = some (.map kT eT)) (hK : P.underlying kT = some (.int .i64))
  (h : ∀ w', Kept [b] w w' -> MapAt w' b (fun k' => if k' = k then none else f k') -> K (a.put o.dst (.tuple #[])) w') :
  if Region.wanted o (yielded ops a.tmps) = true then Oper.wp P o a w K Q else E := by
 rw [if_pos (show Region.wanted o (yielded ops a.tmps) = true by simp [Region.wanted, hgd])]
 obtain ⟨w', hrun, h1, h2⟩ := hm.run_delete (P := P) hT hK k o.type
 unfold Oper.wp execOp
 simp only [ho, resolve, invoke, builtin, Sem.run_bind, Sem.run_pure, Result.andThen_ok, y1, y2, y3, hx, hy, hrun]
 exact h w' h1 h2
end
end Go.Proofs.YtnjhpgmbfblgaaaGreat.Ord
