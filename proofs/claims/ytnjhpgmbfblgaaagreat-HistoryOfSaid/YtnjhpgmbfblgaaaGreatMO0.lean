/- Valid: what the maps and the row of the walk hold; The responses of each session: the plain law, and the rows of rows that hold them; The responses of each session, call by call; Walk of the law's light. -/
import Derived.Test.YtnjhpgmbfblgaaaGreatV1
import Derived.Test.YtnjhpgmbfblgaaaGreatMS6
import Derived.Test.YtnjhpgmbfblgaaaGreatJ1
import Derived.Test.YtnjhpgmbfblgaaaGreatH7
import Derived.Test.YtnjhpgmbfblgaaaGreatH12
namespace Go.Proofs.YtnjhpgmbfblgaaaGreat.Ord
open Go.RowKit
set_option linter.unusedVariables false
set_option linter.unusedSimpArgs false
/-- calls that lie in a row, with what they point to -/
def RowCO (w : World) (B : Nat) (A : Option Addr) (l : List (CallR × CallV)) : Prop :=
 ∀ i x, l[i]? = some x -> ∃ b off, A = some ⟨b, off, none⟩ /\ b < B /\ CellsAt w ⟨b, off + i * 23, none⟩ (callC x.1 x.2) /\ CallOk w B x.1 x.2
theorem RowCO.below {B B' : Nat} {w w' : World} {A : Option Addr} {l : List (CallR × CallV)} (h : RowCO w B A l) (hb : Below B' w w') (hB : B <= B') : RowCO w' B' A l := by
 intro i r hi
 obtain ⟨b, off, h1, h2, h3, h4⟩ := h i r hi
 exact ⟨b, off, h1, by omega, h3.below hb (by show b < B'; omega), (h4.below hb hB).mono hB⟩
/-- the last call of a session, as the map holds it -/
def lastV (L : List (CallR × CallV)) (k : Int) : Option Value := ((L.filter fun x => x.1.ses == k).getLast?).map fun x => .agg (callC x.1 x.2).toArray
def seenB (L : List (CallR × CallV)) (k : Int) : Bool := L.any fun x => k == x.1.asked || k == x.1.done || k == x.1.told
def seenV (L : List (CallR × CallV)) (k : Int) : Option Value := if seenB L k = true then some (.bool true) else none
theorem lastV_snoc (L : List (CallR × CallV)) (x : CallR × CallV) (k : Int) : lastV (L ++ [x]) k = if k = x.1.ses then some (.agg (callC x.1 x.2).toArray) else lastV L k := by
 unfold lastV
 by_cases h : k = x.1.ses
 ·subst h; simp
 ·have h1 : (x.1.ses == k) = false := by simpa using fun e => h e.symm
  rw [List.filter_append, List.filter_cons_of_neg (by simp [h1]), List.filter_nil, List.append_nil, if_neg h]
theorem seenB_snoc (L : List (CallR × CallV)) (x : CallR × CallV) (k : Int) : seenB (L ++ [x]) k = (seenB L k || (k == x.1.asked || k == x.1.done || k == x.1.told)) := by simp [seenB]
theorem seenB_iff (L : List (CallR × CallV)) (k : Int) : seenB L k = true ↔ Seen (L.map (·.1)) k := by
 unfold seenB Seen
 rw [List.any_eq_true]
 constructor
 ·rintro ⟨x, hx, h⟩
  refine ⟨x.1, List.mem_map_of_mem hx, ?_⟩
  simp at h
  omega
 ·rintro ⟨y, hy, h⟩
  obtain ⟨x, hx, rfl⟩ := List.mem_map.1 hy
  refine ⟨x, hx, ?_⟩
  simp
  omega
/-- the stamps of a call, in their order -/
def stamp (x : CallR) : Nat -> Int
 | 0 => x.asked
 | 1 => x.done
 | _ => x.told
/-- what is seen when j stamps of the call are in -/
def seenJ (L : List (CallR × CallV)) (x : CallR) (j : Nat) (k : Int) : Bool := seenB L k || (decide (0 < j) && k == x.asked || decide (1 < j) && k == x.done || decide (2 < j) && k == x.told)
def seenJV (L : List (CallR × CallV)) (x : CallR) (j : Nat) (k : Int) : Option Value := if seenJ L x j k = true then some (.bool true) else none
theorem seenJ_zero (L : List (CallR × CallV)) (x : CallR) (k : Int) : seenJ L x 0 k = seenB L k := by simp [seenJ]
theorem seenJ_three (L : List (CallR × CallV)) (x : CallR × CallV) (k : Int) : seenJ L x.1 3 k = seenB (L ++ [x]) k := by rw [seenB_snoc]; simp [seenJ]
theorem seenJ_succ (L : List (CallR × CallV)) (x : CallR) {j : Nat} (hj : j < 3) (k : Int) : seenJ L x (j + 1) k = (seenJ L x j k || k == stamp x j) := by
 unfold seenJ
 rcases j with _ | _ | _ | j
 ·simp [stamp]
 ·simp [stamp, Bool.or_assoc]
 ·simp [stamp, Bool.or_assoc]
 ·omega
theorem seenJV_succ (L : List (CallR × CallV)) (x : CallR) {j : Nat} (hj : j < 3) (k : Int) : seenJV L x (j + 1) k = if k = stamp x j then some (.bool true) else seenJV L x j k := by
 unfold seenJV
 rw [seenJ_succ L x hj k]
 by_cases h : k = stamp x j
 ·simp [h]
 ·have h1 : (k == stamp x j) = false := by simpa using h
  rw [h1, Bool.or_false, if_neg h]
theorem seenJV_zero (L : List (CallR × CallV)) (x : CallR) (k : Int) : seenJV L x 0 k = seenV L k := by unfold seenJV seenV; rw [seenJ_zero]
theorem seenJV_three (L : List (CallR × CallV)) (x : CallR × CallV) (k : Int) : seenJV L x.1 3 k = seenV (L ++ [x]) k := by unfold seenJV seenV; rw [seenJ_three]
/-- a call that is right by itself has different stamps -/
theorem seenJ_new {x : CallR} (h : singleB x = true) (L : List (CallR × CallV)) {j : Nat} (hj : j < 3) (h0 : 0 <= stamp x j) : seenJ L x j (stamp x j) = seenB L (stamp x j) := by
 have ho : ordB x = true := by
  cases e : ordB x
  ·rw [single_ord e] at h; cases h
  ·rfl
 simp only [ordB, decide_eq_true_eq] at ho
 unfold seenJ
 rcases j with _ | _ | _ | j
 ·simp
 ·simp only [stamp] at h0 ⊢
  have h1 : (x.done == x.asked) = false := by simp; omega
  simp [h1]
 ·simp only [stamp] at h0 ⊢
  have h1 : (x.told == x.asked) = false := by simp; omega
  have h2 : (x.told == x.done) = false := by simp; omega
  simp [h1, h2]
 ·omega
/-- what the walk asks of a call behind the calls before it -/
structure OkP (pre : List CallR) (x : CallR) : Prop where
 one : singleB x = true
 ask : ∀ y, pre.getLast? = some y -> y.asked < x.asked
 fresh : ∀ j, j < 3 -> 0 <= stamp x j -> ¬ Seen pre (stamp x j)
 ses : SesP pre x
theorem okP_iff {pre : List CallR} (h : Fit singleB pre) (x : CallR) : Okc singleB pre x ↔ OkP pre x := by
 rw [Okc.iff h x]
 constructor
 ·rintro ⟨h1, h2, h3, h4⟩
  refine ⟨h1, h2, fun j hj h0 => ?_, h4⟩
  rw [<- fresh_iff]
  refine h3 _ ?_ h0
  rcases j with _ | _ | _ | j
  ·simp [stamp]
  ·simp [stamp]
  ·simp [stamp]
  ·omega
 ·rintro ⟨h1, h2, h3, h4⟩
  refine ⟨h1, h2, fun n hn h0 => ?_, h4⟩
  rw [fresh_iff]
  simp at hn
  rcases hn with rfl | rfl | rfl
  ·exact h3 0 (by omega) h0
  ·exact h3 1 (by omega) h0
  ·exact h3 2 (by omega) h0
theorem not_valid {l pre post : List CallR} {x : CallR} (e : l = pre ++ x :: post) (h : ¬ OkP pre x) : ¬ ValidP singleB l := fun hv => by
 have hf := hv.2.1
 have h1 := hf pre x post e
 have h2 : Fit singleB pre := Fit.front (l' := x :: post) (e ▸ hf)
 exact h ((okP_iff h2 x).1 h1)
/-- the calls that were carried out -/
def donesL (L : List (CallR × CallV)) : List (CallR × CallV) := L.filter fun x => decide (0 <= x.1.done)
theorem donesL_snoc (L : List (CallR × CallV)) (x : CallR × CallV) : donesL (L ++ [x]) = if 0 <= x.1.done then donesL L ++ [x] else donesL L := by
 by_cases h : 0 <= x.1.done <;> simp [donesL, h]
theorem donesL_map (L : List (CallR × CallV)) : (donesL L).map (·.1) = dones (L.map (·.1)) := by
 unfold donesL dones
 rw [List.filter_map]
 rfl
theorem donesL_len (L : List (CallR × CallV)) : (donesL L).length <= L.length := List.length_filter_le _ _
theorem ses_last {L : List (CallR × CallV)} {k : Int} : (ofSes (L.map (·.1)) k).getLast? = ((L.filter fun x => x.1.ses == k).getLast?).map (·.1) := by
 unfold ofSes
 rw [List.filter_map, List.getLast?_map]
 rfl
/-- the world of the walk behind some calls -/
structure VInv (w0 : World) (v : Value) (pre : List (CallR × CallV)) (w : World) : Prop where
 last : MapAt w w0.heap.size (lastV pre)
 seen : MapAt w (w0.heap.size + 1) (seenV pre)
 own : w.ownsRow (w0.heap.size + 2) 52 23 v (donesL pre).length (callsV (donesL pre))
 below : Below w0.heap.size w0 w
 size : w0.heap.size + 2 <= w.heap.size
def VlPost (L : List (CallR × CallV)) (w : World) (e : Ending) (w' : World) : Prop := ∃ b, e = .returned (.bool b) /\ (b = true ↔ ValidP singleB (L.map (·.1))) /\ Below w.heap.size w w'
theorem VlPost.no {L pre post : List (CallR × CallV)} {x : CallR × CallV} {w w' : World} {e : Ending} (he : e = .returned (.bool false)) (hL : L = pre ++ x :: post) (h : ¬ OkP (pre.map (·.1)) x.1) (hb : Below w.heap.size w w') : VlPost L w e w' :=
 ⟨false, he, ⟨fun h => by (cases h), fun hv => absurd hv (not_valid (by rw [hL, List.map_append, List.map_cons]) h)⟩, hb⟩
abbrev RV := RespR × Value × Value
def rv (x : RV) : List Value := respC x.1 x.2.1 x.2.2
/-- the responses told to a session -/
def toldOf (l : List CallR) (k : Nat) : List RespR := (l.filter fun y => y.ses == (k : Int) && decide (0 <= y.told)).map (·.resp)
theorem toldOf_snoc (l : List CallR) (x : CallR) (k : Nat) : toldOf (l ++ [x]) k = if x.ses = (k : Int) /\ 0 <= x.told then toldOf l k ++ [x.resp] else toldOf l k := by
 unfold toldOf
 by_cases h : x.ses = (k : Int) /\ 0 <= x.told
 ·rw [if_pos h]
  simp [h.1, h.2]
 ·rw [if_neg h]
  have h1 : (x.ses == (k : Int) && decide (0 <= x.told)) = false := by
   by_cases h2 : x.ses = (k : Int)
   ·have : ¬ 0 <= x.told := fun h3 => h ⟨h2, h3⟩
    simp [h2, this]
   ·simp [h2]
  rw [List.filter_append, List.filter_cons_of_neg (by simp [h1]), List.filter_nil, List.append_nil]
/-- how many sessions there are -/
def nSes : List CallR -> Nat
 | [] => 0
 | x :: l => max (x.ses + 1).toNat (nSes l)
theorem nSes_snoc (l : List CallR) (x : CallR) : nSes (l ++ [x]) = max (nSes l) (x.ses + 1).toNat := by
 induction l with
 | nil => simp [nSes]
 | cons y l ih => simp [nSes, ih, Nat.max_assoc]
theorem nSes_le {l : List CallR} {m : Nat} (h : ∀ x ∈ l, x.ses < m) : nSes l <= m := by
 induction l with
 | nil => simp [nSes]
 | cons y l ih =>
  have h1 := h y (by simp)
  have h2 := ih fun x hx => h x (by simp [hx])
  simp [nSes]
  omega
/-- the responses of all sessions -/
def outsOf (l : List CallR) : List (List RespR) := (List.range (nSes l)).map (toldOf l)

/-- rows of responses -/
structure OutI (T : TypeId) (w : World) (base : Nat) (o : Value) (vs : List Value) (rs : List (List RV)) : Prop where
 own : w.ownsRow base T 1 o vs.length vs
 len : rs.length = vs.length
 row : ∀ (j : Nat) (v : Value) (r : List RV), vs[j]? = some v -> rs[j]? = some r -> w.ownsRow base 40 6 v r.length (r.flatMap rv)
 sep : ∀ (i j : Nat) (v v' : Value) (b : Nat), i ≠ j -> vs[i]? = some v -> vs[j]? = some v' -> v.ownBlock = some b -> v'.ownBlock ≠ some b
 sepo : ∀ v ∈ vs, ∀ b, v.ownBlock = some b -> o.ownBlock ≠ some b
 stab : ∀ r ∈ rs, ∀ x ∈ r, Stab (fun b => o.ownBlock = some b ∨ ∃ v ∈ vs, v.ownBlock = some b) w (fun W => RespOk W W.heap.size x.1 x.2.1 x.2.2)
 lim : base <= w.heap.size
theorem OutI.nil {T : TypeId} (w : World) : OutI T w w.heap.size (.slice none 0 0) [] [] :=
 ⟨⟨rfl, .inl ⟨rfl, rfl⟩⟩, rfl, fun j v r h => by simp at h, fun i j v v' b _ h => by simp at h, fun v h => by simp at h, fun r h => by simp at h, Nat.le_refl _⟩
section
variable {T : TypeId} {w w' : World} {base : Nat} {o : Value} {vs : List Value} {rs : List (List RV)}
theorem OutI.below (h : OutI T w base o vs rs) (hb : Below w.heap.size w w') : OutI T w' base o vs rs := by
 have hk : Kept [] w w' := Kept.of_below hb
 exact ⟨hk.own2 h.own (by simp), h.len, fun j v r h1 h2 => hk.own2 (h.row j v r h1 h2) (by simp), h.sep, h.sepo, fun r hr x hx => (h.stab r hr x hx).step hk (by simp) (fun k h => .inl h), Nat.le_trans h.lim hb.size⟩
theorem OutI.vlt (h : OutI T w base o vs rs) {j : Nat} {v : Value} {b : Nat} (hv : vs[j]? = some v) (hb : v.ownBlock = some b) : base <= b /\ b < w.heap.size := by
 have hl := (List.getElem?_eq_some_iff.1 hv).1
 rw [<- h.len] at hl
 exact (h.row j v _ hv (List.getElem?_eq_getElem hl)).lt b hb
theorem OutI.push {o' : Value} (h : OutI T w base o vs rs) (ho : w'.ownsRow base T 1 o' (vs.length + 1) (vs ++ [.slice none 0 0])) (hg : w.grownBy w' o.ownBlock) (hb : o'.ownBlock = o.ownBlock ∨ o'.ownBlock = some w.heap.size) : OutI T w' base o' (vs ++ [.slice none 0 0]) (rs ++ [[]]) := by
 have hk := kept_of_grown hg
 have hnone : ∀ b, (Value.slice none 0 0).ownBlock ≠ some b := fun b h => by cases h
 have hget : ∀ j v, (vs ++ [Value.slice none 0 0])[j]? = some v -> vs[j]? = some v ∨ (j = vs.length /\ v = .slice none 0 0) := fun j v hv => by
  by_cases hj : j < vs.length
  ·rw [List.getElem?_append_left hj] at hv; exact .inl hv
  ·rw [List.getElem?_append_right (by omega)] at hv
   have hl := (List.getElem?_eq_some_iff.1 hv).1
   simp at hl
   obtain rfl : j = vs.length := by omega
   simp at hv
   exact .inr ⟨rfl, hv.symm⟩
 refine ⟨by simpa using ho, by simp [h.len], fun j v r h1 h2 => ?_, fun i j v v' b hij h1 h2 h3 => ?_, fun v hv b h1 h2 => ?_, fun r hr x hx => ?_, Nat.le_trans h.lim hg.size⟩
 ·rcases hget j v h1 with h3 | ⟨rfl, rfl⟩
  ·have hj := (List.getElem?_eq_some_iff.1 h3).1
   rw [List.getElem?_append_left (by rw [h.len]; exact hj)] at h2
   exact hk.own2 (h.row j v r h3 h2) fun b hb' h4 => h.sepo v (List.mem_of_getElem? h3) b h4 (by simpa using hb')
  ·rw [<- h.len, List.getElem?_append_right (Nat.le_refl _)] at h2
   simp at h2
   subst h2
   exact ⟨rfl, .inl ⟨rfl, rfl⟩⟩
 ·rcases hget i v h1 with h4 | ⟨rfl, rfl⟩
  ·rcases hget j v' h2 with h5 | ⟨rfl, rfl⟩
   ·exact h.sep i j v v' b hij h4 h5 h3
   ·exact hnone b
  ·exact absurd h3 (hnone b)
 ·rcases List.mem_append.1 hv with h3 | h3
  ·obtain ⟨j, hj⟩ := List.mem_iff_getElem?.1 h3
   have := (h.vlt hj h1).2
   rcases hb with e | e
   ·rw [e] at h2; exact h.sepo v h3 b h1 h2
   ·rw [e] at h2; cases h2; omega
  ·simp at h3; subst h3; exact absurd h1 (hnone b)
 ·rcases List.mem_append.1 hr with h3 | h3
  ·refine (h.stab r h3 x hx).step hk (fun k hk' => .inl (.inl (by simpa using hk'))) fun k hk' => ?_
   rcases hk' with h4 | ⟨v, hv, h4⟩
   ·rcases hb with e | e
    ·rw [e] at h4; exact .inl (.inl h4)
    ·rw [e] at h4; cases h4; exact .inr (Nat.le_refl _)
   ·rcases List.mem_append.1 hv with h5 | h5
    ·exact .inl (.inr ⟨v, h5, h4⟩)
    ·simp at h5; subst h5; exact absurd h4 (hnone k)
  ·simp at h3; subst h3; simp at hx
theorem OutI.put {g c j : Nat} {v v' : Value} {r : List RV} {x : RV} {w1 : World} (h : OutI T w base (.slice (some ⟨g, 0, none⟩) vs.length c) vs rs) (hv : vs[j]? = some v) (hr : rs[j]? = some r) (ho : w1.ownsRow base 40 6 v' (r.length + 1) (r.flatMap rv ++ rv x)) (hg : w.grownBy w1 v.ownBlock) (hb : v'.ownBlock = v.ownBlock ∨ v'.ownBlock = some w.heap.size) (hx : Stab (fun b => (Value.slice (some ⟨g, 0, none⟩) vs.length c).ownBlock = some b ∨ ∃ v ∈ vs, v.ownBlock = some b) w (fun W => RespOk W W.heap.size x.1 x.2.1 x.2.2)) :
  OutI T (w1.setCell ⟨g, j, none⟩ v') base (.slice (some ⟨g, 0, none⟩) vs.length c) (vs.set j v') (rs.set j (r ++ [x])) := by
 have hjl := (List.getElem?_eq_some_iff.1 hv).1
 have hk1 := kept_of_grown hg
 have hg0 : base <= g /\ g < w.heap.size := h.own.lt g rfl
 have ho1 : w1.ownsRow base T 1 (.slice (some ⟨g, 0, none⟩) vs.length c) vs.length vs := hk1.own2 h.own fun b hb' h4 => h.sepo v (List.mem_of_getElem? hv) b (by simpa using hb') h4
 have hst := ho1.stored j v'
 have hk2 : Kept [g] w1 (w1.setCell ⟨g, j, none⟩ v') := kept_of_grown (v := .slice (some ⟨g, 0, none⟩) 0 0) hst.2
 have hvn : v'.ownBlock ≠ some g := fun e => by
  rcases hb with e1 | e1
  ·rw [e1] at e; exact h.sepo v (List.mem_of_getElem? hv) g e rfl
  ·rw [e1] at e; cases e; omega
 have hget : ∀ i u, (vs.set j v')[i]? = some u -> (i = j /\ u = v') ∨ (i ≠ j /\ vs[i]? = some u) := fun i u hu => by
  by_cases e : i = j
  ·subst e
   rw [List.getElem?_set_self hjl] at hu
   exact .inl ⟨rfl, (Option.some.inj hu).symm⟩
  ·rw [List.getElem?_set_ne (fun h => e h.symm)] at hu
   exact .inr ⟨e, hu⟩
 have hblk : ∀ u ∈ vs.set j v', ∀ b, u.ownBlock = some b -> (∃ u ∈ vs, u.ownBlock = some b) ∨ b = w.heap.size := fun u hu b hb' => by
  rcases List.mem_or_eq_of_mem_set hu with h1 | h1
  ·exact .inl ⟨u, h1, hb'⟩
  ·subst h1
   rcases hb with e1 | e1
   ·rw [e1] at hb'; exact .inl ⟨v, List.mem_of_getElem? hv, hb'⟩
   ·rw [e1] at hb'; cases hb'; exact .inr rfl
 have hk : Kept (v.ownBlock.toList ++ [g]) w (w1.setCell ⟨g, j, none⟩ v') := (hk1.mono (by simp_all)).trans (hk2.mono (by simp_all))
 have hstab : ∀ y : RV, Stab (fun b => (Value.slice (some ⟨g, 0, none⟩) vs.length c).ownBlock = some b ∨ ∃ v ∈ vs, v.ownBlock = some b) w (fun W => RespOk W W.heap.size y.1 y.2.1 y.2.2) -> Stab (fun b => (Value.slice (some ⟨g, 0, none⟩) vs.length c).ownBlock = some b ∨ ∃ v ∈ vs.set j v', v.ownBlock = some b) (w1.setCell ⟨g, j, none⟩ v') (fun W => RespOk W W.heap.size y.1 y.2.1 y.2.2) := fun y hy => by
  refine hy.step hk (fun k hm => ?_) fun k hk' => ?_
  ·rcases List.mem_append.1 hm with h1 | h1
   ·exact .inl (.inr ⟨v, List.mem_of_getElem? hv, by simpa using h1⟩)
   ·simp at h1; subst h1; exact .inl (.inl rfl)
  ·rcases hk' with h4 | ⟨u, hu, h4⟩
   ·exact .inl (.inl h4)
   ·rcases hblk u hu k h4 with h5 | h5
    ·exact .inl (.inr h5)
    ·exact .inr (by omega)
 refine ⟨by rw [List.length_set]; exact hst.1, by simp [h.len], fun i u q h1 h2 => ?_, fun i i' u u' b hii h1 h2 h3 h4 => ?_, fun u hu b h1 h2 => ?_, fun q hq y hy => ?_, Nat.le_trans h.lim (Nat.le_trans hg.size hk2.size)⟩
 ·rcases hget i u h1 with ⟨rfl, rfl⟩ | ⟨e, h3⟩
  ·rw [List.getElem?_set_self (by rw [h.len]; exact hjl)] at h2
   cases h2
   have h5 := hk2.own2 ho (by simpa using hvn)
   simpa using h5
  ·rw [List.getElem?_set_ne (fun h => e h.symm)] at h2
   refine hk.own2 (h.row i u q h3 h2) fun b hm h4 => ?_
   rcases List.mem_append.1 hm with h5 | h5
   ·exact h.sep j i v u b (fun h => e h.symm) hv h3 (by simpa using h5) h4
   ·simp at h5; subst h5; exact h.sepo u (List.mem_of_getElem? h3) _ h4 rfl
 ·rcases hget i u h1 with ⟨rfl, rfl⟩ | ⟨e, h5⟩
  ·rcases hget i' u' h2 with ⟨rfl, rfl⟩ | ⟨e', h6⟩
   ·exact hii rfl
   ·rcases hb with e1 | e1
    ·rw [e1] at h3; exact h.sep i i' v u' b hii hv h6 h3 h4
    ·rw [e1] at h3; cases h3; have := (h.vlt h6 h4).2; omega
  ·rcases hget i' u' h2 with ⟨rfl, rfl⟩ | ⟨e', h6⟩
   ·rcases hb with e1 | e1
    ·rw [e1] at h4; exact h.sep i i' u v b hii h5 hv h3 h4
    ·rw [e1] at h4; cases h4; have := (h.vlt h5 h3).2; omega
   ·exact h.sep i i' u u' b hii h5 h6 h3 h4
 ·rcases List.mem_or_eq_of_mem_set hu with h3 | h3
  ·exact h.sepo u h3 b h1 h2
  ·subst h3; cases h2; exact hvn h1
 ·rcases List.mem_or_eq_of_mem_set hq with h3 | h3
  ·exact hstab y (h.stab q h3 y hy)
  ·subst h3
   rcases List.mem_append.1 hy with h4 | h4
   ·exact hstab y (h.stab r (List.mem_of_getElem? hr) y h4)
   ·simp at h4; subst h4; exact hstab y hx
end
/-- responses that lie in a row -/
def RspAt (w : World) (B : Nat) (A : Option Addr) (rs : List RespR) : Prop := ∀ i r, rs[i]? = some r -> ∃ b off vi vn, A = some ⟨b, off, none⟩ /\ b < B /\ CellsAt w ⟨b, off + i * 6, none⟩ (respC r vi vn) /\ RespOk w B r vi vn
theorem RspAt.below {B B' : Nat} {w w' : World} {A : Option Addr} {rs : List RespR} (h : RspAt w B A rs) (hb : Below B' w w') (hB : B <= B') : RspAt w' B A rs := by
 intro i r hi
 obtain ⟨b, off, vi, vn, h1, h2, h3, h4⟩ := h i r hi
 exact ⟨b, off, vi, vn, h1, h2, h3.below hb (by show b < B'; omega), h4.below hb hB⟩
/-- rows of responses that lie in a row -/
def OutsAt (w : World) (B : Nat) (A : Option Addr) (R : List (List RespR)) : Prop := ∀ j r, R[j]? = some r -> ∃ b off A' c', A = some ⟨b, off, none⟩ /\ b < B /\ w.cell? ⟨b, off + j, none⟩ = some (.slice A' r.length c') /\ RspAt w B A' r
theorem OutsAt.below {B B' : Nat} {w w' : World} {A : Option Addr} {R : List (List RespR)} (h : OutsAt w B A R) (hb : Below B' w w') (hB : B <= B') : OutsAt w' B A R := by
 intro j r hj
 obtain ⟨b, off, A', c', h1, h2, h3, h4⟩ := h j r hj
 exact ⟨b, off, A', c', h1, h2, (hb.cell (p := ⟨b, off + j, none⟩) (by show b < B'; omega)).trans h3, h4.below hb hB⟩
theorem rv_len (x : RV) : (rv x).length = 6 := rfl
theorem rv_flat {r : List RV} {i : Nat} {x : RV} (hx : r[i]? = some x) {j : Nat} {v : Value} (hj : (rv x)[j]? = some v) : (r.flatMap rv)[i * 6 + j]? = some v := by
 induction r generalizing i with
 | nil => simp at hx
 | cons y r ih =>
  rw [List.flatMap_cons]
  cases i with
  | zero =>
   simp at hx
   subst hx
   have hl := (List.getElem?_eq_some_iff.1 hj).1
   rw [Nat.zero_mul, Nat.zero_add, List.getElem?_append_left hl, hj]
  | succ i =>
   rw [List.getElem?_append_right (by rw [rv_len]; omega), rv_len, show (i + 1) * 6 + j - 6 = i * 6 + j by omega]
   exact ih (by simpa using hx)
theorem OutI.outs {T : TypeId} {w : World} {base : Nat} {o : Value} {vs : List Value} {rs : List (List RV)} (h : OutI T w base o vs rs) : ∃ A c, o = .slice A rs.length c /\ OutsAt w w.heap.size A (rs.map fun r => r.map (·.1)) := by
 rcases owns_shape h.own (by decide) with ⟨e1, e2, e3⟩ | ⟨g, cap, e1, e2, e3, e4, e5⟩
 ·have h0 : rs.length = 0 := by rw [h.len]; exact e2
  refine ⟨none, 0, by rw [e1, h0], fun j r hj => ?_⟩
  rw [List.length_eq_zero_iff.1 h0] at hj
  simp at hj
 ·refine ⟨_, cap, by rw [e1, h.len], fun j r hj => ?_⟩
  rw [List.getElem?_map] at hj
  obtain ⟨q, hq, rfl⟩ := Option.map_eq_some_iff.1 hj
  have hjl := (List.getElem?_eq_some_iff.1 hq).1
  rw [h.len] at hjl
  have hv := List.getElem?_eq_getElem hjl
  obtain ⟨v, hve⟩ : ∃ v, vs[j] = v := ⟨_, rfl⟩
  rw [hve] at hv
  have hrow := h.row j v q hv hq
  have ho := h.own
  rw [e1] at ho
  have hc : w.cell? ⟨g, 0 + j, none⟩ = some v := by rw [ho.cellAt (0 + j) (by omega), Nat.zero_add, hv]
  rcases owns_shape hrow (by decide) with ⟨f1, f2, f3⟩ | ⟨g', cap', f1, f2, f3, f4, f5⟩
  ·have hq0 : q = [] := List.length_eq_zero_iff.1 f2
   subst hq0
   exact ⟨g, 0, none, 0, rfl, e3, by rw [hc, f1]; rfl, fun i r hi => by simp at hi⟩
  ·refine ⟨g, 0, some ⟨g', 0, none⟩, cap', rfl, e3, by rw [hc, f1, List.length_map], fun i r hi => ?_⟩
   rw [List.getElem?_map] at hi
   obtain ⟨y, hy, rfl⟩ := Option.map_eq_some_iff.1 hi
   have hil := (List.getElem?_eq_some_iff.1 hy).1
   refine ⟨g', 0, y.2.1, y.2.2, rfl, f3, fun k u hu => ?_, (h.stab q (List.mem_of_getElem? hq) y (List.mem_of_getElem? hy)).now⟩
   have hkl := (List.getElem?_eq_some_iff.1 hu).1
   have hk6 : k < 6 := hkl
   rw [f1] at hrow
   rw [Addr.add_mid, Nat.zero_add, hrow.cellAt (i * 6 + k) (by omega)]
   exact rv_flat hy hu
/-- the responses of the first m sessions -/
def outsN (l : List CallR) (m : Nat) : List (List RespR) := (List.range m).map (toldOf l)
theorem outsN_len (l : List CallR) (m : Nat) : (outsN l m).length = m := by simp [outsN]
theorem ses_lt {l : List CallR} {x : CallR} (h : x ∈ l) : x.ses < (nSes l : Int) := by
 induction l with
 | nil => simp at h
 | cons y l ih =>
  simp only [nSes]
  rcases List.mem_cons.1 h with rfl | h1
  ·omega
  ·have := ih h1
   omega
theorem toldOf_nil {l : List CallR} {j : Nat} (h : nSes l <= j) : toldOf l j = [] := by
 unfold toldOf
 rw [List.map_eq_nil_iff, List.filter_eq_nil_iff]
 intro x hx
 have := ses_lt hx
 have h1 : x.ses ≠ (j : Int) := by omega
 simp [h1]
theorem outsN_succ {l : List CallR} {m : Nat} (h : nSes l <= m) : outsN l (m + 1) = outsN l m ++ [[]] := by
 unfold outsN
 rw [List.range_succ, List.map_append, List.map_singleton, toldOf_nil h]
theorem outsN_told {l : List CallR} {x : CallR} {m j : Nat} (hj : x.ses = (j : Int)) (h0 : 0 <= x.told) (hjm : j < m) : outsN (l ++ [x]) m = (outsN l m).set j (toldOf l j ++ [x.resp]) := by
 apply List.ext_getElem?
 intro i
 unfold outsN
 rw [List.getElem?_set]
 simp only [List.getElem?_map, List.length_map, List.length_range]
 by_cases e : j = i
 ·subst e
  rw [if_pos rfl, if_pos hjm, List.getElem?_range hjm]
  simp only [Option.map_some]
  rw [toldOf_snoc, if_pos ⟨hj, h0⟩]
 ·rw [if_neg e]
  by_cases hi : i < m
  ·rw [List.getElem?_range hi]
   simp only [Option.map_some]
   rw [toldOf_snoc, if_neg (fun h => e (by have := h.1; omega))]
  ·rw [List.getElem?_eq_none (by simpa using hi)]
   rfl
theorem outsN_no {l : List CallR} {x : CallR} {m : Nat} (h0 : ¬ 0 <= x.told) : outsN (l ++ [x]) m = outsN l m := by
 unfold outsN
 refine List.map_congr_left fun j _ => ?_
 rw [toldOf_snoc, if_neg (fun h => h0 h.2)]
/-- the rows hold the responses of the first sessions -/
def HoldsR (rs : List (List RV)) (l : List CallR) (m : Nat) : Prop := (rs.map fun r => r.map (·.1)) = outsN l m
theorem HoldsR.len {rs : List (List RV)} {l : List CallR} {m : Nat} (h : HoldsR rs l m) : rs.length = m := by
 have := congrArg List.length h
 simpa [outsN] using this
theorem HoldsR.push {rs : List (List RV)} {l : List CallR} {m : Nat} (h : HoldsR rs l m) (hm : nSes l <= m) : HoldsR (rs ++ [[]]) l (m + 1) := by
 unfold HoldsR at *
 rw [List.map_append, h, outsN_succ hm]
 rfl
theorem HoldsR.put {rs : List (List RV)} {l : List CallR} {m j : Nat} {r : List RV} {x : CallR} {y : RV} (h : HoldsR rs l m) (hj : x.ses = (j : Int)) (h0 : 0 <= x.told) (hjm : j < m) (hr : rs[j]? = some r) (hy : y.1 = x.resp) : HoldsR (rs.set j (r ++ [y])) (l ++ [x]) m := by
 unfold HoldsR at *
 rw [List.map_set, h, outsN_told hj h0 hjm, List.map_append, List.map_singleton, hy]
 have h1 : (outsN l m)[j]? = some (r.map (·.1)) := by rw [<- h, List.getElem?_map, hr]; rfl
 have h2 : (outsN l m)[j]? = some (toldOf l j) := by unfold outsN; rw [List.getElem?_map, List.getElem?_range hjm]; rfl
 rw [h1] at h2
 rw [<- Option.some.inj h2]
theorem HoldsR.no {rs : List (List RV)} {l : List CallR} {m : Nat} {x : CallR} (h : HoldsR rs l m) (h0 : ¬ 0 <= x.told) : HoldsR rs (l ++ [x]) m := by
 unfold HoldsR at *
 rw [h, outsN_no h0]
theorem outsOf_eq (l : List CallR) : outsOf l = outsN l (nSes l) := rfl
set_option maxRecDepth 100000
set_option maxHeartbeats 16000000
theorem f16_name : (Tryz.f16.name == "runtime.NumGoroutine") = false := by decide
theorem f16_body : Tryz.f16.body.isSome = true := rfl
theorem cells_mid {w : World} {b o : Nat} {l1 l2 l3 : List Value} (h : CellsAt w ⟨b, o, none⟩ (l1 ++ (l2 ++ l3))) : CellsAt w ⟨b, o + l1.length, none⟩ l2 := fun j v hj => by
 have hl := (List.getElem?_eq_some_iff.1 hj).1
 have h1 : (l1 ++ (l2 ++ l3))[l1.length + j]? = some v := by
  rw [List.getElem?_append_right (by omega), Nat.add_sub_cancel_left, List.getElem?_append_left hl, hj]
 have h2 := h (l1.length + j) v h1
 rw [Addr.add_mid] at h2 ⊢
 rw [Nat.add_assoc]
 exact h2
theorem call_cmd {w : World} {b o : Nat} {x : CallR} {p : CallV} (h : CellsAt w ⟨b, o, none⟩ (callC x p)) : CellsAt w ⟨b, o + 3, none⟩ (cmdC x.cmd p.vk p.vv p.vt) :=
 cells_mid (l1 := [.int .i64 x.ses, .int .i64 x.num, .bool x.bad]) (l3 := respC x.resp p.vi p.vn ++ [.int .i64 x.asked, .int .i64 x.done, .int .i64 x.told, .int .u64 x.tim]) h
theorem call_resp {w : World} {b o : Nat} {x : CallR} {p : CallV} (h : CellsAt w ⟨b, o, none⟩ (callC x p)) : CellsAt w ⟨b, o + 13, none⟩ (respC x.resp p.vi p.vn) :=
 cells_mid (l1 := [.int .i64 x.ses, .int .i64 x.num, .bool x.bad] ++ cmdC x.cmd p.vk p.vv p.vt) (l3 := [.int .i64 x.asked, .int .i64 x.done, .int .i64 x.told, .int .u64 x.tim]) h

theorem light20 (L : List (CallR × CallV)) (A : Option Addr) (n c : Nat) (w : World) (hn : L.length = n) (hl : n <= maxLen) (hA : RowCO w w.heap.size A L) (hs : ∀ x ∈ L, CmdSz x.1.cmd /\ RespSz x.1.resp) :
  Calls Tryz.prog 20 #[.slice A n c] w fun e w' => ∃ b, e = .returned (.bool b) /\ (b = true -> n <= 60 /\ ∀ x ∈ L, Light x.1.cmd x.1.resp) /\ Below w.heap.size w w' := by
 have hn' : n <= 9223372036854775807 := by unfold maxLen at hl; omega
 by_cases hlong : 60 < n
 ·have hg : decide (60 < (n : Int)) = true := by simp; omega
  clear hA hs
  go_enter Tryz.func20, Tryz.ntmps20
  go_wp2_with fail
  go_ret
  exact ⟨false, rfl, fun h => by (cases h), Below.refl _ _⟩
 have hg : decide (60 < (n : Int)) = false := by simp; omega
 have hn6 : n <= 60 := by omega
 have HA := kp hA
 have HN := kp hn
 have HS := kp hs
 clear hA hn hs hlong
 go_enter Tryz.func20, Tryz.ntmps20
 go_wp2_with fail
 go_loopw [3] (fun s3 wr => ∃ k : Nat, k <= n /\ s3 = .int .i64 k /\ Below w.heap.size w wr /\ Hid (∀ i x, L[i]? = some x -> i < k -> Light x.1.cmd x.1.resp)) (fun j _ => n - (intOf j).toNat)
 case atStart => exact ⟨0, Nat.zero_le _, by go_num, Below.refl _ _, kp fun i x _ h => absurd h (by omega)⟩
 case round =>
  obtain ⟨k, hk, rfl, hb, HALL⟩ := hrel
  have HB := kp hb
  clear hb
  by_cases hlt : k < n
  ·have hg2 : decide ((k : Int) < (n : Int)) = true := decide_eq_true (by omega)
   have hi1 : (k : Int) < (n : Int) := by omega
   have hk1 : k < L.length := by rw [HN.out]; exact hlt
   obtain ⟨x, hx⟩ : ∃ x, L[k] = x := ⟨_, rfl⟩
   have hxk := List.getElem?_eq_getElem hk1
   rw [hx] at hxk
   have hxs := HS.out x (List.mem_of_getElem? hxk)
   obtain ⟨b, off, rfl, hbB, hck, hok⟩ := (HA.out.below HB.out (Nat.le_refl _)) k x hxk
   have HXK := kp hxk
   have H16 := kp (heavy7 x.1.cmd x.1.resp x.2.vk x.2.vv x.2.vt x.2.vi x.2.vn wr.drew ((hok.mono HB.out.size).below (below_drewn (Below.refl _ _)) (Nat.le_refl _)).1 ((hok.mono HB.out.size).below (below_drewn (Below.refl _ _)) (Nat.le_refl _)).2 hxs.1 hxs.2)
   have k1 := call_cmd hck
   have k2 := call_resp hck
   have s1 : (Tryz.prog.info? 36).map (·.size) = some (cmdC x.1.cmd x.2.vk x.2.vv x.2.vt).length := cmd_sizeL _ _ _ _ _ _ _ _ _ _
   have s2 : (Tryz.prog.info? 40).map (·.size) = some (respC x.1.resp x.2.vi x.2.vn).length := resp_sizeL _ _ _ _ _ _
   clear hx hxk hxs hck hok
   generalize cmdC x.1.cmd x.2.vk x.2.vv x.2.vt = l1 at *
   generalize respC x.1.resp x.2.vi x.2.vn = l2 at *
   have K1 := kp (show CellsAt wr.drew ⟨b, off + k * 23 + 3, none⟩ l1 from k1)
   have K2 := kp (show CellsAt wr.drew ⟨b, off + k * 23 + 13, none⟩ l2 from k2)
   have S1 := kp s1
   have HBL := kp (show (⟨b, off + k * 23, none⟩ : Addr).block < wr.drew.heap.size from Nat.lt_of_lt_of_le hbB HB.out.size)
   have S2 := kp s2
   clear k1 k2 s1 s2
   go_wp2_with fail
   refine wp_region_held_drew (S := fun W => CellsAt W ⟨b, off + k * 23 + 3, none⟩ l1 /\ CellsAt W ⟨b, off + k * 23 + 13, none⟩ l2) (by kernel_rfl) ⟨K1.out, K2.out⟩ (fun hS => ?_)
   have HS := kp hS
   clear hS
   refine wpAnyH_take (i := 0) (oi := ⟨some 13, .move (.tmp 0), 43, "law.go:76", #[], none⟩) (v := ?_) rfl (by kernel_rfl) (by kernel_rfl) (by kernel_rfl) (fun _ _ _ h => h) (Or.inl ⟨by rfl, ?_⟩) HS.out ?_
   rotate_left 1
   ·intro w hw; go_simp; try with_reducible rfl
   simp only [Act.put, z1, z2, z3]
   refine wpAnyH_take (i := 1) (oi := ⟨some 14, .move (.tmp 3), 3, "law.go:76", #[], none⟩) (v := ?_) rfl (by kernel_rfl) (by kernel_rfl) (by kernel_rfl) (fun _ _ _ h => h) (Or.inl ⟨by rfl, ?_⟩) HS.out ?_
   rotate_left 1
   ·intro w hw; go_simp; try with_reducible rfl
   simp only [Act.put, z1, z2, z3]
   refine wpAnyH_take (i := 2) (oi := ⟨some 15, .indexAddr 43 (.tmp 13) (.tmp 14), 0, "law.go:76", #[⟨0, .data⟩, ⟨1, .data⟩], none⟩) (v := ?_) rfl (by kernel_rfl) (by kernel_rfl) (by kernel_rfl) (fun _ _ _ h => h) (Or.inl ⟨by rfl, ?_⟩) HS.out ?_
   rotate_left 1
   ·intro w hw; go_simp; try with_reducible rfl
   simp only [Act.put, z1, z2, z3]
   refine wpAnyH_take (i := 3) (oi := ⟨some 16, .fieldAddr 52 (.tmp 15) 3, 0, "law.go:76", #[⟨2, .data⟩], none⟩) (v := ?_) rfl (by kernel_rfl) (by kernel_rfl) (by kernel_rfl) (fun _ _ _ h => h) (Or.inl ⟨by rfl, ?_⟩) HS.out ?_
   rotate_left 1
   ·intro w hw; go_simp; try with_reducible rfl
   simp only [Act.put, z1, z2, z3]
   refine wpAnyH_take (i := 4) (oi := ⟨some 17, .load 36 (.tmp 16), 36, "law.go:76", #[⟨3, .data⟩], none⟩) (v := .agg l1.toArray) rfl (by kernel_rfl) (by kernel_rfl) (by kernel_rfl) (fun _ _ _ h => h) (yields_aggL rfl 36 _ rfl ⟨b, off + k * 23 + 3, none⟩ rfl l1 _ (fun W hW => hW.1) Tryz.underlying36 S1.out) HS.out ?_
   simp only [Act.put, z1, z2, z3]
   refine wpAnyH_take (i := 5) (oi := ⟨some 18, .move (.tmp 0), 43, "law.go:76", #[], none⟩) (v := ?_) rfl (by kernel_rfl) (by kernel_rfl) (by kernel_rfl) (fun _ _ _ h => h) (Or.inl ⟨by rfl, ?_⟩) HS.out ?_
   rotate_left 1
   ·intro w hw; go_simp; try with_reducible rfl
   simp only [Act.put, z1, z2, z3]
   refine wpAnyH_take (i := 6) (oi := ⟨some 19, .move (.tmp 3), 3, "law.go:76", #[], none⟩) (v := ?_) rfl (by kernel_rfl) (by kernel_rfl) (by kernel_rfl) (fun _ _ _ h => h) (Or.inl ⟨by rfl, ?_⟩) HS.out ?_
   rotate_left 1
   ·intro w hw; go_simp; try with_reducible rfl
   simp only [Act.put, z1, z2, z3]
   refine wpAnyH_take (i := 7) (oi := ⟨some 20, .indexAddr 43 (.tmp 18) (.tmp 19), 0, "law.go:76", #[⟨5, .data⟩, ⟨6, .data⟩], none⟩) (v := ?_) rfl (by kernel_rfl) (by kernel_rfl) (by kernel_rfl) (fun _ _ _ h => h) (Or.inl ⟨by rfl, ?_⟩) HS.out ?_
   rotate_left 1
   ·intro w hw; go_simp; try with_reducible rfl
   simp only [Act.put, z1, z2, z3]
   refine wpAnyH_take (i := 8) (oi := ⟨some 21, .fieldAddr 52 (.tmp 20) 4, 0, "law.go:76", #[⟨7, .data⟩], none⟩) (v := ?_) rfl (by kernel_rfl) (by kernel_rfl) (by kernel_rfl) (fun _ _ _ h => h) (Or.inl ⟨by rfl, ?_⟩) HS.out ?_
   rotate_left 1
   ·intro w hw; go_simp; try with_reducible rfl
   simp only [Act.put, z1, z2, z3]
   refine wpAnyH_take (i := 9) (oi := ⟨some 22, .load 40 (.tmp 21), 40, "law.go:76", #[⟨8, .data⟩], none⟩) (v := .agg l2.toArray) rfl (by kernel_rfl) (by kernel_rfl) (by kernel_rfl) (fun _ _ _ h => h) (yields_aggL rfl 40 _ rfl ⟨b, off + k * 23 + 13, none⟩ rfl l2 _ (fun W hW => hW.2) Tryz.underlying40 S2.out) HS.out ?_
   simp only [Act.put, z1, z2, z3]
   refine wpAnyH_ready (rs := [10]) (by kernel_rfl) (by simp) ?_
   refine AllReadyH.cons (o := ⟨some 23, .call ⟨.value (.func 16), #[.tmp 17, .tmp 22], #[36, 40]⟩, 4, "law.go:76", #[⟨4, .data⟩, ⟨9, .data⟩], none⟩) rfl (fun K hK => ?_) (AllReadyH.nil)
   with_reducible refine step_call_any rfl 16 _ _ rfl #[.agg l1.toArray, .agg l2.toArray] ?_ Tryz.f16 Tryz.func16 f16_name f16_body (fun u w6 => ∃ t, u = .bool t /\ (t = false -> Light x.1.cmd x.1.resp) /\ Below wr.drew.heap.size wr.drew w6) ?_ ?_
   ·simp only [y1, y2, y3]; rfl
   ·exact H16.out.mono fun e w' ⟨t, h1, h2, h3⟩ => ⟨_, h1, t, rfl, h2, h3⟩
   rintro u w6 ⟨t, rfl, hlt, hb6⟩
   have HLT := kp hlt
   have HB6 := kp hb6
   clear hlt hb6
   have hS := And.intro (K1.out.below HB6.out HBL.out) (K2.out.below HB6.out HBL.out)
   refine hK.out _ _ hS (fun _ => ?_)
   clear hK K HS
   have HS := kp hS
   clear hS
   try simp only [Act.put, z1, z2, z3]
   refine wpAnyH_done (by kernel_rfl) ?_ _
   skip
   cases t
   ·go_wp2_with fail
    go_roundw
    case rel => exact ⟨k + 1, by omega, by go_num, HB.out.trans ((below_drewn (Below.refl _ _)).trans HB6.out |>.mono HB.out.size), kp fun i y hi hik => by (by_cases e : i = k; (subst e; rw [HXK.out] at hi; cases hi; exact HLT.out rfl); exact HALL.out i y hi (by omega))⟩
    case measure => simp [intOf]; omega
   ·go_wp2_with fail
    go_ret
    exact ⟨false, rfl, fun h => by (cases h), HB.out.trans ((below_drewn (Below.refl _ _)).trans HB6.out |>.mono HB.out.size)⟩
  ·obtain rfl : k = n := by omega
   have hg2 : decide ((k : Int) < (k : Int)) = false := by simp
   go_wp2_with fail
   go_ret
   exact ⟨true, rfl, fun _ => ⟨hn6, fun x hx => by (obtain ⟨i, hi⟩ := List.mem_iff_getElem?.1 hx; exact HALL.out i x hi (by have := (List.getElem?_eq_some_iff.1 hi).1; rw [HN.out] at this; exact this))⟩, HB.out⟩
end Go.Proofs.YtnjhpgmbfblgaaaGreat.Ord
