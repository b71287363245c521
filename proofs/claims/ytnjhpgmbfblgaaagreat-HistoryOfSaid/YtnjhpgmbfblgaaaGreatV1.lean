/- The plain law of Valid: what calls fit together. -/
import Derived.Test.YtnjhpgmbfblgaaaGreatMH4
namespace Go.Proofs.YtnjhpgmbfblgaaaGreat.Ord
set_option linter.unusedVariables false
set_option linter.unusedSimpArgs false
theorem snoc_ind {α : Type} {P : List α -> Prop} (h0 : P []) (h1 : ∀ l x, P l -> P (l ++ [x])) (l : List α) : P l := by
 have : ∀ r : List α, P r.reverse := fun r => by
  induction r with
  | nil => exact h0
  | cons a r ih => rw [List.reverse_cons]; exact h1 _ _ ih
 have h := this l.reverse
 rwa [List.reverse_reverse] at h
/-- what a call is by itself -/
structure Okc (single : CallR -> Bool) (pre : List CallR) (x : CallR) : Prop where
 one : single x = true
 ask : ∀ y, pre.getLast? = some y -> y.asked < x.asked
 fresh : ∀ n ∈ [x.asked, x.done, x.told], 0 <= n -> ∀ y ∈ pre, n ≠ y.asked /\ n ≠ y.done /\ n ≠ y.told
 num : x.num = (pre.filter fun y => y.ses == x.ses).length
 told : ∀ y ∈ pre, y.ses = x.ses -> 0 <= y.told
 after : ∀ y, (pre.filter fun y => y.ses == x.ses).getLast? = some y -> y.told < x.asked
def Pair (x y : CallR) : Prop := 0 <= x.done -> 0 <= y.done -> (y.done < x.done -> y.tim <= x.tim) /\ (x.done < y.done -> x.tim <= y.tim)
def Fit (single : CallR -> Bool) (l : List CallR) : Prop := ∀ pre x post, l = pre ++ x :: post -> Okc single pre x
def Timed (l : List CallR) : Prop := ∀ pre x post, l = pre ++ x :: post -> ∀ y ∈ pre, Pair x y
def ValidP (single : CallR -> Bool) (l : List CallR) : Prop := l.length <= 4096 /\ Fit single l /\ Timed l
theorem snoc_split {α : Type} {l pre post : List α} {a x : α} (h : l ++ [a] = pre ++ x :: post) : (pre = l /\ x = a /\ post = []) ∨ ∃ q, l = pre ++ x :: q /\ post = q ++ [a] := by
 rcases List.eq_nil_or_concat post with rfl | ⟨q, b, rfl⟩
 ·left
  have := List.append_inj' h rfl
  simp at this
  exact ⟨this.1.symm, this.2.symm, rfl⟩
 ·right
  refine ⟨q, ?_⟩
  rw [List.concat_eq_append] at h ⊢
  rw [<- List.cons_append, <- List.append_assoc] at h
  have := List.append_inj' h rfl
  simp at this
  exact ⟨this.1, by rw [this.2]⟩
theorem Fit.nil (single : CallR -> Bool) : Fit single [] := fun pre x post h => by simp at h
theorem Fit.snoc {single : CallR -> Bool} {l : List CallR} {x : CallR} (h : Fit single l) (hx : Okc single l x) : Fit single (l ++ [x]) := fun pre y post e => by
 rcases snoc_split e with ⟨rfl, rfl, rfl⟩ | ⟨q, e1, _⟩
 ·exact hx
 ·exact h pre y q e1
theorem Fit.front {single : CallR -> Bool} {l l' : List CallR} (h : Fit single (l ++ l')) : Fit single l := fun pre x post e => h pre x (post ++ l') (by rw [e]; simp)
theorem Timed.nil : Timed [] := fun pre x post h => by simp at h
theorem Timed.snoc {l : List CallR} {x : CallR} (h : Timed l) (hx : ∀ y ∈ l, Pair x y) : Timed (l ++ [x]) := fun pre y post e => by
 rcases snoc_split e with ⟨rfl, rfl, rfl⟩ | ⟨q, e1, _⟩
 ·exact hx
 ·exact h pre y q e1
theorem Timed.front {l l' : List CallR} (h : Timed (l ++ l')) : Timed l := fun pre x post e => h pre x (post ++ l') (by rw [e]; simp)
/-- the calls of a session, one after the other -/
def ofSes (l : List CallR) (k : Int) : List CallR := l.filter fun y => y.ses == k
theorem ofSes_snoc (l : List CallR) (x : CallR) (k : Int) : ofSes (l ++ [x]) k = if x.ses = k then ofSes l k ++ [x] else ofSes l k := by
 by_cases h : x.ses = k <;> simp [ofSes, h]
/-- what is known of a session by its last call -/
theorem Fit.last {single : CallR -> Bool} : ∀ {l : List CallR}, Fit single l -> ∀ {k : Int} {y : CallR}, (ofSes l k).getLast? = some y -> y.num + 1 = (ofSes l k).length /\ ∀ z ∈ l, z.ses = k -> z = y ∨ 0 <= z.told := by
 intro l
 induction l using snoc_ind with
 | h0 => intro _ k y h; simp [ofSes] at h
 | h1 l x ih =>
  intro h k y hy
  have hx := h l x [] rfl
  rw [ofSes_snoc] at hy ⊢
  by_cases e : x.ses = k
  ·rw [if_pos e] at hy ⊢
   simp at hy
   subst hy
   refine ⟨?_, fun z hz hk => ?_⟩
   ·have := hx.num
    subst e
    simp only [List.length_append, List.length_singleton]
    rw [this]
    simp [ofSes]
   ·rcases List.mem_append.1 hz with h1 | h1
    ·exact .inr (hx.told z h1 (by rw [hk, e]))
    ·simp at h1; exact .inl h1
  ·rw [if_neg e] at hy ⊢
   obtain ⟨h1, h2⟩ := ih h.front hy
   refine ⟨h1, fun z hz hk => ?_⟩
   rcases List.mem_append.1 hz with h3 | h3
   ·exact h2 z h3 hk
   ·simp at h3; subst h3; exact absurd hk e
/-- the check by the last call of the session -/
def SesP (l : List CallR) (x : CallR) : Prop := match (ofSes l x.ses).getLast? with
 | none => x.num = 0
 | some y => 0 <= y.told /\ y.told < x.asked /\ x.num = y.num + 1
theorem ses_iff {single : CallR -> Bool} {l : List CallR} (h : Fit single l) (x : CallR) : SesP l x ↔ x.num = (ofSes l x.ses).length /\ (∀ y ∈ l, y.ses = x.ses -> 0 <= y.told) /\ ∀ y, (ofSes l x.ses).getLast? = some y -> y.told < x.asked := by
 unfold SesP
 cases hl : (ofSes l x.ses).getLast? with
 | none =>
  have h0 : ofSes l x.ses = [] := by simpa using hl
  simp only [h0, List.length_nil]
  constructor
  ·intro h1
   refine ⟨by simpa using h1, fun y hy hs => ?_, by simp⟩
   have : y ∈ ofSes l x.ses := by simp [ofSes, hy, hs]
   rw [h0] at this
   simp at this
  ·intro h1; simpa using h1.1
 | some y =>
  obtain ⟨h1, h2⟩ := h.last hl
  have hy : y ∈ ofSes l x.ses := List.mem_of_getLast? hl
  have hy1 : y ∈ l /\ y.ses = x.ses := by simpa [ofSes] using hy
  simp only [Option.some.injEq]
  constructor
  ·rintro ⟨a1, a2, a3⟩
   refine ⟨by omega, fun z hz hk => ?_, fun z hz => by subst hz; exact a2⟩
   rcases h2 z hz hk with rfl | h3
   ·exact a1
   ·exact h3
  ·rintro ⟨a1, a2, a3⟩
   exact ⟨a2 y hy1.1 hy1.2, a3 y rfl, by omega⟩
theorem Okc.iff {single : CallR -> Bool} {l : List CallR} (h : Fit single l) (x : CallR) : Okc single l x ↔ single x = true /\ (∀ y, l.getLast? = some y -> y.asked < x.asked) /\ (∀ n ∈ [x.asked, x.done, x.told], 0 <= n -> ∀ y ∈ l, n ≠ y.asked /\ n ≠ y.done /\ n ≠ y.told) /\ SesP l x := by
 rw [ses_iff h x]
 exact ⟨fun h1 => ⟨h1.one, h1.ask, h1.fresh, h1.num, h1.told, h1.after⟩, fun ⟨a, b, c, d, e, f⟩ => ⟨a, b, c, d, e, f⟩⟩
/-- the stamps that were seen -/
def Seen (l : List CallR) (n : Int) : Prop := ∃ y ∈ l, n = y.asked ∨ n = y.done ∨ n = y.told
theorem Seen.snoc (l : List CallR) (x : CallR) (n : Int) : Seen (l ++ [x]) n ↔ Seen l n ∨ n = x.asked ∨ n = x.done ∨ n = x.told := by
 constructor
 ·rintro ⟨y, hy, h⟩
  rcases List.mem_append.1 hy with h1 | h1
  ·exact .inl ⟨y, h1, h⟩
  ·simp at h1; subst h1; exact .inr h
 ·rintro (⟨y, hy, h⟩ | h)
  ·exact ⟨y, by simp [hy], h⟩
  ·exact ⟨x, by simp, h⟩
theorem fresh_iff (l : List CallR) (n : Int) : (∀ y ∈ l, n ≠ y.asked /\ n ≠ y.done /\ n ≠ y.told) ↔ ¬ Seen l n := by
 constructor
 ·rintro h ⟨y, hy, h1⟩
  have := h y hy
  rcases h1 with h1 | h1 | h1
  ·exact this.1 h1
  ·exact this.2.1 h1
  ·exact this.2.2 h1
 ·intro h y hy
  exact ⟨fun e => h ⟨y, hy, .inl e⟩, fun e => h ⟨y, hy, .inr (.inl e)⟩, fun e => h ⟨y, hy, .inr (.inr e)⟩⟩
/-- of calls that fit, the stamps of what was carried out are different -/
theorem Fit.done_ne {single : CallR -> Bool} {l : List CallR} (h : Fit single l) : l.Pairwise fun y x => 0 <= x.done -> y.done ≠ x.done := by
 induction l using snoc_ind with
 | h0 => exact .nil
 | h1 l x ih =>
  rw [List.pairwise_append]
  refine ⟨ih h.front, by simp, fun y hy z hz h0 e => ?_⟩
  simp at hz
  subst hz
  exact ((h l z [] rfl).fresh z.done (by simp) h0 y hy).2.1 e.symm
/-- the calls that were carried out -/
def dones (l : List CallR) : List CallR := l.filter fun x => decide (0 <= x.done)
theorem timed_iff (l : List CallR) : Timed l ↔ l.Pairwise fun y x => Pair x y := by
 induction l using snoc_ind with
 | h0 => exact ⟨fun _ => .nil, fun _ => Timed.nil⟩
 | h1 l x ih =>
  rw [List.pairwise_append]
  constructor
  ·intro h
   exact ⟨ih.1 h.front, by simp, fun y hy z hz => by simp at hz; subst hz; exact h l z [] rfl y hy⟩
  ·rintro ⟨h1, _, h2⟩
   exact (ih.2 h1).snoc fun y hy => h2 y hy x (by simp)
theorem timed_dones (l : List CallR) : Timed l ↔ (dones l).Pairwise fun y x => Pair x y := by
 rw [timed_iff, dones, List.pairwise_filter]
 constructor
 ·exact fun h => h.imp fun h _ _ => h
 ·exact fun h => h.imp fun {a b} h h1 h2 => h (by simpa using h2) (by simpa using h1) h1 h2
/-- sorted by when they were carried out, the times do not fall -/
theorem timed_sorted {single : CallR -> Bool} {l d : List CallR} (h : Fit single l) (hp : d.Perm (dones l)) (hs : d.Pairwise fun a b => ¬ b.done < a.done) : Timed l ↔ ∀ i (h : i + 1 < d.length), ¬ d[i + 1].tim < d[i].tim := by
 have hne : d.Pairwise fun a b => a.done ≠ b.done := by
  have h1 : (dones l).Pairwise fun a b => a.done ≠ b.done := by
   rw [dones, List.pairwise_filter]
   exact h.done_ne.imp fun {a b} h _ h2 => h (by simpa using h2)
  exact (hp.pairwise_iff fun h => h.symm).2 h1
 have hpos : ∀ x ∈ d, 0 <= x.done := fun x hx => by
  have := hp.mem_iff.1 hx
  simp [dones] at this
  exact this.2
 have hsym : ∀ {x y : CallR}, Pair x y -> Pair y x := fun h a b => ⟨(h b a).2, (h b a).1⟩
 rw [timed_dones, <- hp.pairwise_iff (R := fun y x => Pair x y) fun h => hsym h]
 constructor
 ·intro h1 i hi
  have a1 := List.pairwise_iff_getElem.1 h1 i (i + 1) (by omega) hi (by omega)
  have a2 := List.pairwise_iff_getElem.1 hs i (i + 1) (by omega) hi (by omega)
  have a3 := List.pairwise_iff_getElem.1 hne i (i + 1) (by omega) hi (by omega)
  have := (a1 (hpos _ (List.getElem_mem _)) (hpos _ (List.getElem_mem _))).1 (by omega)
  omega
 ·intro h1
  have hm : ∀ k i (h : i + k < d.length), d[i].tim <= d[i + k].tim := by
   intro k
   induction k with
   | zero => intro i h; exact Int.le_refl _
   | succ k ih =>
    intro i h
    have a := ih i (by omega)
    have b := h1 (i + k) (by omega)
    simp only [Nat.add_assoc] at b ⊢
    omega
  rw [List.pairwise_iff_getElem]
  intro i j hi hj hij _ _
  have a2 := List.pairwise_iff_getElem.1 hs i j hi hj hij
  have a3 := List.pairwise_iff_getElem.1 hne i j hi hj hij
  obtain ⟨k, rfl⟩ : ∃ k, j = i + k := ⟨j - i, by omega⟩
  have := hm k i hj
  exact ⟨fun _ => this, fun h => by omega⟩
end Go.Proofs.YtnjhpgmbfblgaaaGreat.Ord
