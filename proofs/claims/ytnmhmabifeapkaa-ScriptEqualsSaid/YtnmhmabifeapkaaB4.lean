/- Laws for an append whose source may be nil, empty or another row. -/
import Derived.Test.YtnmhmabifeapkaaB3
namespace Go.Proofs.Ytnmhmabifeapkaa.Ord
open Go.RowKit
set_option linter.unusedVariables false

/-- what is appended: nothing, or cells that lie from an address on -/
def Src (w : World) (A : Option Addr) (m c : Nat) (news : List Value) : Prop :=
  (m = 0 ∧ news = [] ∧ (A = none → c = 0)) ∨ ∃ ad, A = some ad ∧ ∀ j u, news[j]? = some u → w.cell? (ad.add j) = some u

section
variable {P : Program}
theorem wpList_append_src {w : World} {ops : Array Oper} {rest : List Oper} {o : Oper} {a : Act} {Q : Exit → Act → World → Prop} (hgd : o.guard = none) (s x : Operand) (t : TypeId)
    (ho : o.op = .call { callee := .builtin .append, args := #[s, x], argTypes := #[t, t] })
    (base : Nat) (e : TypeId) (z : Value) (size bytes : Nat) (ht : P.underlying t = some (.slice e)) (hinfo : (P.info? e).map (fun i => (i.zero, i.size, i.bytes)) = some (some z, size, bytes))
    (hzs : z.cells.size = size) (hsz : 0 < size)
    (v : Value) (n : Nat) (xs : List Value) (hs : a.eval s = v) (hown : w.ownsRow base e size v n xs)
    (A : Option Addr) (m c : Nat) (news : List Value) (hx : a.eval x = .slice A m c) (hl : news.length = m * size) (hsrc : Src w A m c news) (h1 : ∀ u ∈ news, u.oneCell' = true)
    (h63 : n + m ≤ maxLen) (hbytes : (n + m) * bytes ≤ 140737488355328) (hbase : base ≤ w.heap.size)
    (h : ∀ v' w', w'.ownsRow base e size v' (n + m) (xs ++ news) → w.grownBy w' v.ownBlock → Below base w w' → wpList P ops Q rest (a.put o.dst v') w') :
    wpList P ops Q (o :: rest) a w := by
  obtain ⟨i, hi, hz, h4, h5⟩ := info_parts hinfo
  have hB : ∀ w', w.grownBy w' v.ownBlock → Below base w w' := fun w' hg => (Below.refl base w).grown hg hbase (fun k hk => (hown.lt k hk).1)
  have fin : ∀ ad, A = some ad → (∀ j u, news[j]? = some u → w.cell? (ad.add j) = some u) → wpList P ops Q (o :: rest) a w := by
    intro ad hA hc
    subst hA
    exact wpList_append_own w hgd s x t ho base e i z size bytes ht hi hz h4 h5 hzs hsz v n xs hs hown ad m c news hx hl hc h1 h63 hbytes hbase (fun v' w' ho hg _ => h v' w' ho hg (hB w' hg))
  rcases hsrc with ⟨rfl, rfl, hc⟩ | ⟨ad, hA, hc⟩
  · cases A with
    | some ad => exact fin ad rfl (by simp)
    | none =>
      obtain rfl := hc rfl
      refine wpList_plain hgd fun K hK => ?_
      have hrun := run_append_owned_none (P := P) w base t o.type e i size ht hi v n xs hown
      unfold Oper.wp
      simp [execOp, ho, resolve, invoke, builtin, hs, hx, hrun, Result.andThen]
      exact hK _ _ (h v w (by simpa using hown) (World.grownBy.refl _ _) (Below.refl _ _))
  · exact fin ad hA hc
end

theorem owns_shape {w : World} {base : Nat} {e : TypeId} {size : Nat} {v : Value} {n : Nat} {xs : List Value} (h : w.ownsRow base e size v n xs) (hs : 0 < size) :
    (v = .slice none 0 0 ∧ n = 0 ∧ xs = []) ∨ ∃ g cap, v = .slice (some ⟨g, 0, none⟩) n cap ∧ base ≤ g ∧ g < w.heap.size ∧ n ≤ cap ∧ cap ≤ maxLen := by
  rcases h.2 with ⟨h1, h2⟩ | ⟨g, cap, cur, hv, hb, hh, hn, hc, _⟩
  · refine .inl ⟨h1, h2, List.eq_nil_of_length_eq_zero ?_⟩
    rw [h.1, h2]; simp
  · exact .inr ⟨g, cap, hv, hb, (Array.getElem?_eq_some_iff.1 hh).1, hn, hc⟩

/-- a part of an own row of one-cell elements, as a source -/
theorem src_own {w : World} {base : Nat} {e : TypeId} {g n cap : Nat} {xs : List Value} (h : w.ownsRow base e 1 (.slice (some ⟨g, 0, none⟩) n cap) n xs) (lo m c : Nat) (hm : lo + m ≤ n) {A : Option Addr} (hA : 0 < m → A = some ⟨g, lo, none⟩) (hA0 : A ≠ none) :
    Src w A m c ((xs.drop lo).take m) := by
  rcases Nat.eq_zero_or_pos m with h0 | h0
  · subst h0
    exact .inl ⟨rfl, by simp, fun h => absurd h hA0⟩
  · refine .inr ⟨_, hA h0, fun j u hj => ?_⟩
    have hj' : j < m := by
      have := (List.getElem?_eq_some_iff.1 hj).1
      simp at this; omega
    rw [List.getElem?_take_of_lt hj', List.getElem?_drop] at hj
    have e1 : ((⟨g, lo, none⟩ : Addr).add j) = ⟨g, lo + j, none⟩ := by unfold Addr.add; split <;> simp_all
    rw [e1, h.cellAt (lo + j) (by omega)]
    exact hj
end Go.Proofs.Ytnmhmabifeapkaa.Ord
