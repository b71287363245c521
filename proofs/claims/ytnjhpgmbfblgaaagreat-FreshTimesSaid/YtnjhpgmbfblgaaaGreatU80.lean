/- The plain law of FreshTimes: what Check says of a write, a soft purge and a reply, at whatever times. -/
import Derived.Test.YtnjhpgmbfblgaaaGreatU73
namespace Go.Proofs.YtnjhpgmbfblgaaaGreat.Ord
open Go.RowKit
set_option linter.unusedVariables false
set_option linter.unusedSimpArgs false
set_option maxRecDepth 100000

def sT (life : Int) : SaidR := ⟨⟨1, kA, [], aF_ bX, [bT], life, 0, ⟨#[]⟩, ⟨#[]⟩, ⟨#[]⟩⟩, ⟨0, 0, [], 1, 0, []⟩, 0⟩
def pT (soft : Int) : SaidR := otherS (c0 9 eB0 bT eB0 eB0) soft
def itT (m life : Int) : ItemR := if m = 0 then ⟨0, [], 0, 0⟩ else ⟨m, aF_ bX, 1, life⟩
def gT (m life now : Int) : SaidR := ⟨⟨4, kA, [], [], [], 0, 0, ⟨#[]⟩, ⟨#[]⟩, ⟨#[]⟩⟩, ⟨0, 0, [itT m life], 0, 0, []⟩, now⟩
/-- the reply is right -/
def rightT (life grace soft now m : Int) : Prop := m = 0 ∨ m = 2 ∧ now < life ∧ now < soft + grace
instance (life grace soft now m : Int) : Decidable (rightT life grace soft now m) := by unfold rightT; infer_instance
theorem swp_no {x : CallR} {y : WrR} (h : ¬ (x.cmd.op = 8 ∨ x.cmd.op = 9 ∨ x.cmd.op = 10 ∨ x.cmd.op = 14)) : swp x y = y := by
  unfold swp
  split
  · rfl
  rw [if_neg (by omega), if_neg (by omega)]
theorem runT (life grace soft now m : Int) (h1 : 1 ≤ life ∧ life ≤ 1000) (h2 : 1 ≤ grace ∧ grace ≤ 1000) (h3 : 0 ≤ soft ∧ soft ≤ now) (h4 : now ≤ 2000) (hm : m = 0 ∨ m = 1 ∨ m = 2) :
    runX grace (sesR [sT life, pT soft, gT m life now]) (List.range 3) [] [] = some (if rightT life grace soft now m then none else some (2, 4)) := by
  have hr : List.range 3 = [0, 1, 2] := rfl
  rw [hr]
  have d0 : doX (a9_ 0 (sT life)) [] [] = ([⟨kA, aF_ bX, [bT], life, nev, 0⟩], []) := by
    have ha : addT 0 life = life := by unfold addT; rw [if_neg (by omega)]; omega
    unfold doX
    dsimp only
    rw [if_pos (.inl rfl)]
    have hn : newW (a9_ 0 (sT life)) = ⟨kA, aF_ bX, [bT], life, nev, 0⟩ := by
      show (⟨kA, aF_ bX, [bT], addT 0 life, nev, 0⟩ : WrR) = _
      rw [ha]
    simp only [a2_, List.map_nil, List.nil_append, List.map_cons, hn]
    rw [swp_no (by show ¬ ((1 : Int) = 8 ∨ (1 : Int) = 9 ∨ (1 : Int) = 10 ∨ (1 : Int) = 14); omega)]
  have d1 : doX (a9_ 1 (pT soft)) [⟨kA, aF_ bX, [bT], life, nev, 0⟩] [] = ([⟨kA, aF_ bX, [bT], life, soft, 0⟩], []) := by
    unfold doX
    dsimp only
    have ho : (a9_ 1 (pT soft)).cmd.op = 9 := rfl
    rw [if_neg (by omega), if_neg (by omega), if_neg (by omega), if_neg (by omega)]
    simp only [List.map_cons, List.map_nil]
    unfold swp
    rw [if_neg (by simp), if_pos ⟨ho, rfl, rfl⟩]
    rfl
  have f0 : aH_ grace [] (a9_ 0 (sT life)) = 0 := rfl
  have f1 : aH_ grace [⟨kA, aF_ bX, [bT], life, nev, 0⟩] (a9_ 1 (pT soft)) = 0 := rfl
  have hmk : cc_ now life soft grace = if now < life ∧ now < soft + grace then 2 else 0 := by
    unfold cc_ dueB addT
    rw [if_neg (by omega : ¬ 18446744073709551615 - soft ≤ grace)]
    have e1 : (life != 18446744073709551615) = true := by simp; omega
    have e2 : (soft != 18446744073709551615) = true := by simp; omega
    have e3 : (soft + grace != 18446744073709551615) = true := by simp; omega
    have e4 : decide (soft ≤ now) = true := by simp; omega
    rw [e1, e2, e3, e4]
    by_cases q1 : life ≤ now
    · rw [if_pos (by simp [q1]), if_neg (by omega)]
    · rw [if_neg (by simp; omega), if_neg (by simp)]
      by_cases q2 : soft + grace ≤ now
      · rw [if_pos (by simp [q2]), if_neg (by omega)]
      · rw [if_neg (by simp; omega), if_pos (by omega)]
  have f2 : aH_ grace [⟨kA, aF_ bX, [bT], life, soft, 0⟩] (a9_ 2 (gT m life now)) = if rightT life grace soft now m then 0 else 4 := by
    show c4_ grace [⟨kA, aF_ bX, [bT], life, soft, 0⟩] kA (itT m life) now = _
    rcases hm with rfl | rfl | rfl
    · rw [if_pos (.inl rfl)]
      rfl
    · rw [if_neg (by unfold rightT; omega)]
      show (if (1 : Int) = 0 then (0 : Int) else if (1 : Int) = 0 ∨ (1 : Int) < 1 then 1 else if kA ≠ kA ∨ aF_ bX ≠ aF_ bX ∨ life ≠ life then 1 else if (0 : Int) ≠ 0 then 0 else if cc_ now life soft grace ≠ 1 then 4 else 0) = 4
      rw [if_neg (by omega), if_neg (by omega), if_neg (by simp), if_neg (by simp), hmk]
      by_cases q : now < life ∧ now < soft + grace
      · rw [if_pos q]; rfl
      · rw [if_neg q]; rfl
    · show (if (2 : Int) = 0 then (0 : Int) else if (1 : Int) = 0 ∨ (1 : Int) < 1 then 1 else if kA ≠ kA ∨ aF_ bX ≠ aF_ bX ∨ life ≠ life then 1 else if (0 : Int) ≠ 0 then 0 else if cc_ now life soft grace ≠ 2 then 4 else 0) = _
      rw [if_neg (by omega), if_neg (by omega), if_neg (by simp), if_neg (by simp), hmk]
      by_cases q : now < life ∧ now < soft + grace
      · have hR : rightT life grace soft now 2 := .inr ⟨rfl, q⟩
        rw [if_pos q, if_pos hR]; rfl
      · have hR : ¬ rightT life grace soft now 2 := by unfold rightT; omega
        rw [if_neg q, if_neg hR]; rfl
  have c0 : (sesR [sT life, pT soft, gT m life now])[0]? = some (a9_ 0 (sT life)) := rfl
  have c1 : (sesR [sT life, pT soft, gT m life now])[1]? = some (a9_ 1 (pT soft)) := rfl
  have c2 : (sesR [sT life, pT soft, gT m life now])[2]? = some (a9_ 2 (gT m life now)) := rfl
  unfold runX
  simp only [c0]
  rw [if_neg (by show ¬ (0 : Int) ≠ 0; omega), if_neg (by rw [f0]; omega), if_pos (by rfl), d0]
  unfold runX
  simp only [c1]
  rw [if_neg (by show ¬ (0 : Int) ≠ 0; omega), if_neg (by rw [f1]; omega), if_pos (by rfl), d1]
  unfold runX
  simp only [c2]
  rw [if_neg (by show ¬ (0 : Int) ≠ 0; omega), f2]
  by_cases q : rightT life grace soft now m
  · rw [if_pos q, if_pos q, if_neg (by omega), if_pos (by rfl)]
    rfl
  · rw [if_neg q, if_neg q, if_pos (by omega)]
end Go.Proofs.YtnjhpgmbfblgaaaGreat.Ord
