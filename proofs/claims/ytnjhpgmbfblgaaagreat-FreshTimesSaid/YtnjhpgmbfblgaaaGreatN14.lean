/- The reference and the program have the same responses as. -/
import Derived.Test.YtnjhpgmbfblgaaaGreatN13
set_option linter.unusedVariables false
set_option linter.unusedSimpArgs false
namespace Go.Proofs.YtnjhpgmbfblgaaaGreat.Ord
open Go.RowKit
theorem itemEq_iff {a b : ItemR} : by_ a b = true ↔ a = b := by
 obtain ⟨a1, a2, a3, a4⟩ := a
 obtain ⟨b1, b2, b3, b4⟩ := b
 simp [by_, and_assoc]
theorem ia_ {rs ss : List ItemR} : bx_ rs ss = true ↔ rs = ss := by
 unfold bx_
 rw [decide_eq_true_iff]
 constructor
 ·rintro ⟨h1, h2⟩
  apply List.ext_getElem h1
  intro i h3 h4
  have := itemEq_iff.1 (h2 i h3)
  simpa [iAt, List.getD, gE h3, gE h4] using this
 rintro rfl
 exact ⟨rfl, fun i _ => itemEq_iff.2 rfl⟩
theorem jl_ {a b : RespR} : bd_ a b = true ↔ a = b := by
 obtain ⟨a1, a2, a3, a4, a5, a6⟩ := a
 obtain ⟨b1, b2, b3, b4, b5, b6⟩ := b
 simp [bd_, ia_, and_assoc]
theorem kH_ {l : List ItemR} : l.map c2_ = l ↔ ∀ x ∈ l, x.mark = 0 -> x = zI := by
 induction l with
 | nil => simp
 | cons a l ih =>
  simp only [List.map_cons, List.cons.injEq, List.forall_mem_cons]
  rw [ih]
  refine and_congr ?_ Iff.rfl
  unfold c2_
  by_cases h : a.mark = 0
  ·rw [if_pos h]; exact ⟨fun e _ => e.symm, fun e => (e h).symm⟩
  rw [if_neg h]; exact ⟨fun _ e => absurd e h, fun _ => rfl⟩
theorem fK_ {l : List ItemR} (hv : ∀ x ∈ l, x.val.length <= 3000) : (l.all okI = true /\ l.map c2_ = l) ↔ l.all a5_ = true := by
 rw [kH_, List.all_eq_true, List.all_eq_true]
 constructor
 ·rintro ⟨h1, h2⟩ x hx
  have a := h1 x hx
  have b := h2 x hx
  simp only [okI, decide_eq_true_eq] at a
  simp only [a5_, Bool.and_eq_true, Bool.or_eq_true, Bool.not_eq_true', beq_eq_false_iff_ne, decide_eq_true_eq, itemEq_iff]
  exact ⟨by by_cases h : x.mark = 0; exact .inr (b h); exact .inl h, a.1, a.2.1⟩
 intro h
 refine ⟨fun x hx => ?_, fun x hx h0 => ?_⟩
 ·have a := h x hx
  have b := hv x hx
  simp only [a5_, Bool.and_eq_true, decide_eq_true_eq] at a
  simp only [okI, decide_eq_true_eq]
  exact ⟨a.2.1, a.2.2, by omega⟩
 have a := h x hx
 simp only [a5_, Bool.and_eq_true, Bool.or_eq_true, Bool.not_eq_true', beq_eq_false_iff_ne, itemEq_iff] at a
 exact a.1.resolve_left (fun h => h h0)
theorem f5_ (r : RespR) (hs : RespS r) : refB r = aX_ r := by
 have hv := hs.vals
 have hnn := hs.nnums
 obtain ⟨op, er, items, ver, cnt, nums⟩ := r
 simp only at hv hnn
 unfold refB aX_
 congr 1
 rw [Bool.eq_iff_iff]
 simp only [Bool.and_eq_true, jl_, Bool.not_eq_true']
 by_cases he : er = 0
 ·subst he
  by_cases h1 : op = 1 ∨ op = 2 ∨ op = 3
  ·have e1 : nR op = 119 := by unfold nR; rw [if_pos h1]
   have e2 : aj_ op = [.ver, .cnt] := by unfold aj_; rw [if_pos h1]
   simp [bi_, a1_, be_, e1, e2, okP, getP, ap_, c9, finR]
   constructor
   ·rintro ⟨⟨rfl, rfl⟩, _, h, h', _⟩; exact ⟨⟨h, h'⟩, rfl, rfl⟩
   rintro ⟨⟨h, h'⟩, rfl, rfl⟩; simp [h, h']
  by_cases h2 : op = 4
  ·subst h2
   have := fK_ hv
   simp [bi_, a1_, be_, nR, aj_, okP, getP, ap_, c9, finR]
   rw [List.all_eq_true, List.all_eq_true] at this
   constructor
   ·rintro ⟨⟨rfl, rfl, rfl⟩, h, hl, _⟩
    obtain ⟨a, b⟩ := this.2 h
    exact ⟨⟨hl, a⟩, b, rfl, rfl, rfl⟩
   rintro ⟨⟨hl, a⟩, b, rfl, rfl, rfl⟩
   exact ⟨⟨rfl, rfl, rfl⟩, this.1 ⟨a, b⟩, hl, by decide, by decide, by simp⟩
  by_cases h3 : op = 5
  ·subst h3
   have := fK_ hv
   simp [bi_, a1_, be_, nR, aj_, okP, getP, ap_, c9, finR]
   rw [List.all_eq_true, List.all_eq_true] at this
   constructor
   ·rintro ⟨⟨rfl, rfl, rfl⟩, h, hl, _⟩
    obtain ⟨a, b⟩ := this.2 h
    exact ⟨⟨hl, a⟩, b, rfl, rfl, rfl⟩
   rintro ⟨⟨hl, a⟩, b, rfl, rfl, rfl⟩
   exact ⟨⟨rfl, rfl, rfl⟩, this.1 ⟨a, b⟩, hl, by decide, by decide, by simp⟩
  by_cases h4 : op = 15
  ·subst h4
   simp [bi_, a1_, be_, nR, aj_, okP, getP, ap_, c9, finR]
   constructor
   ·rintro ⟨⟨rfl, rfl, rfl⟩, _, _, _, h⟩
    exact ⟨h, rfl, rfl, rfl⟩
   rintro ⟨h, rfl, rfl, rfl⟩
   exact ⟨⟨rfl, rfl, rfl⟩, by simp, by decide, by decide, h⟩
  have e1 : nR op = 99 := by unfold nR; rw [if_neg h1, if_neg h2, if_neg h3, if_neg h4]
  have e2 : aj_ op = [.cnt] := by unfold aj_; rw [if_neg h1, if_neg h2, if_neg h3, if_neg h4]
  simp [bi_, a1_, be_, e1, e2, okP, getP, ap_, c9, finR]
  constructor
  ·rintro ⟨⟨rfl, rfl, rfl⟩, _, h, h', _⟩
   exact ⟨⟨h, h'⟩, rfl, rfl, rfl⟩
  rintro ⟨⟨h, h'⟩, rfl, rfl, rfl⟩
  exact ⟨⟨rfl, rfl, rfl⟩, by simp, h, h', by simp⟩
 simp [bi_, a1_, be_, ap_, c9, finR, he]
 constructor
 ·rintro ⟨⟨rfl, rfl, rfl, rfl⟩, _⟩
  exact ⟨rfl, rfl, rfl, rfl⟩
 rintro ⟨rfl, rfl, rfl, rfl⟩
 exact ⟨⟨rfl, rfl, rfl, rfl⟩, by simp, by decide, by decide, by simp⟩
end Go.Proofs.YtnjhpgmbfblgaaaGreat.Ord
