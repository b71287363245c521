/- The reader's micro, whole: what it does to the heap of the reader is what 'microOf' says. -/
import Derived.Test.YtnjhpgmbfblgaaaGreatH10
import Derived.Test.YtnjhpgmbfblgaaaGreatMH13
import Derived.Test.YtnjhpgmbfblgaaaGreatH14
namespace Go.Proofs.YtnjhpgmbfblgaaaGreat.Ord
open Go.RowKit
set_option linter.unusedVariables false
set_option linter.unusedSimpArgs false
theorem Inv.told {w w' : World} {lim rb mb : Nat} {v : Value} {cb : Int -> Nat} {ps : List Nat} {s : St} (h : Inv w lim rb mb v cb ps s) {k : Int} {c : ConnS} {j : Nat} {x y : CallR} {p : CallV} (hk : s.conns k = some c) (hj : s.calls[j]? = some x)
  (hc : RowL w' (cb k) 196 [.int .i64 c.ses, .int .i64 c.num, .pointer none]) (hp : RowL w' (ps.getD j 0) 52 (callC y p)) (hy : CallOk w lim y p) (hK : Kept [ps.getD j 0, cb k] w w') :
  Inv w' lim rb mb v cb ps { s.put k (some ⟨c.ses, c.num, none⟩) with calls := s.calls.set j y } := by
 have hck := h.conn k c hk
 obtain ⟨q, hx1, hx2⟩ := h.call j x hj
 have hjl := (List.getElem?_eq_some_iff.1 hj).1
 have hB : Below lim w w' := hK.below h.hlim fun b hb => by
  simp at hb
  rcases hb with rfl | rfl
  ·exact h.lps _ (h.ps_mem hj)
  ·exact h.lcb k c hk
 have two : ∀ {b : Nat}, b ≠ ps.getD j 0 -> b ≠ cb k -> b ∉ [ps.getD j 0, cb k] := fun h1 h2 => by
  simp only [List.mem_cons, List.not_mem_nil, or_false, not_or]; exact ⟨h1, h2⟩
 refine ⟨Nat.le_trans h.hlim hK.size, h.row.kept hK (two (h.row.ne hx1 (by decide)) (h.row.ne hck (by decide))), (h.map.kept hK (two (fun e => hx1.ne_map h.map e.symm) (fun e => hck.ne_map h.map e.symm))).congr fun k' => ?_, ?_, ?_, hK.own2 h.own ?_, by simp [h.len], h.nodup, ?_, h.lrb, h.lmb, ?_, h.lps⟩
 ·simp only [St.put]
  by_cases e : k' = k
  ·subst e; simp [hk]
  ·simp [e]
 ·intro k' c2 hk'
  simp only [St.put] at hk'
  by_cases e : k' = k
  ·subst e
   rw [if_pos rfl] at hk'
   cases hk'
   exact hc
  ·rw [if_neg e] at hk'
   have h1 := h.conn k' c2 hk'
   exact h1.kept hK (two (h1.ne hx1 (by decide)) (fun e' => e (h.inj k' c2 k c hk' hk e')))
 ·intro k1 c1 k2 c2 h1 h2 e
  have key : ∀ k' c2, (if k' = k then some (⟨c.ses, c.num, none⟩ : ConnS) else s.conns k') = some c2 -> ∃ c'', s.conns k' = some c'' := fun k' c2 hk' => by
   by_cases e : k' = k
   ·subst e; exact ⟨c, hk⟩
   ·rw [if_neg e] at hk'; exact ⟨c2, hk'⟩
  obtain ⟨d1, e1⟩ := key _ _ h1
  obtain ⟨d2, e2⟩ := key _ _ h2
  exact h.inj _ _ _ _ e1 e2 e
 ·intro b hb
  simp at hb
  rcases hb with rfl | rfl
  ·exact hx1.ne_own h.own (by decide)
  ·exact hck.ne_own h.own (by decide)
 ·intro j' z hz
  by_cases e : j' = j
  ·subst e
   have : y = z := by simpa [hjl] using hz
   subst this
   exact ⟨p, hp, hy.below hB (Nat.le_refl _)⟩
  ·have hz' : s.calls[j']? = some z := by
    have : j ≠ j' := fun h => e h.symm
    simpa [this] using hz
   obtain ⟨q', h1, h2⟩ := h.call j' z hz'
   refine ⟨q', h1.kept hK (two (fun e' => ?_) (h1.ne hck (by decide))), h2.below hB (Nat.le_refl _)⟩
   exact e (getD_set_ne h.nodup (by rw [h.len]; exact (List.getElem?_eq_some_iff.1 hz').1) (by rw [h.len]; exact hjl) e')
 ·intro k' c2 hk'
  simp only [St.put] at hk'
  by_cases e : k' = k
  ·subst e; exact h.lcb _ _ hk
  ·rw [if_neg e] at hk'; exact h.lcb _ _ hk'
theorem microOf3 {i : Nat} {d : DidR} {s : St} {c : ConnS} (hc : s.conns d.step.c = some c) (h1 : ¬ (d.micro = 1 ∨ d.micro = 2)) (h3 : d.micro = 3) : microOf i d s = (match c.at_ with
  | none => none
  | some j => match s.calls[j]? with
   | none => none
   | some x => if x.bad = true ∨ 0 <= x.done then none else some { s with calls := s.calls.set j (doneCall x i d) }) := by
 unfold microOf
 rw [hc]
 simp only
 rw [if_neg h1, if_pos h3]
 rfl
theorem microOf4 {i : Nat} {d : DidR} {s : St} {c : ConnS} (hc : s.conns d.step.c = some c) (h1 : ¬ (d.micro = 1 ∨ d.micro = 2)) (h3 : ¬ d.micro = 3) (h4 : d.micro = 4) : microOf i d s = (match c.at_ with
  | none => none
  | some j => match s.calls[j]? with
   | none => none
   | some x => if x.bad = false /\ x.done < 0 then none else some { s.put d.step.c (some ⟨c.ses, c.num, none⟩) with calls := s.calls.set j (toldCall x i) }) := by
 unfold microOf
 rw [hc]
 simp only
 rw [if_neg h1, if_neg h3, if_pos h4]
 rfl
theorem microOf5 {i : Nat} {d : DidR} {s : St} {c : ConnS} (hc : s.conns d.step.c = some c) (h1 : ¬ (d.micro = 1 ∨ d.micro = 2)) (h3 : ¬ d.micro = 3) (h4 : ¬ d.micro = 4) : microOf i d s = some s := by
 unfold microOf
 rw [hc]
 simp only
 rw [if_neg h1, if_neg h3, if_neg h4]
/-- what a step of the reader leaves -/
def ReadPost (w : World) (lim rb mb : Nat) (o : Option St) (e : Ending) (w' : World) : Prop :=
 match o with
 | none => e = .returned (.bool false) /\ Below lim w w'
 | some s' => e = .returned (.bool true) /\ Below lim w w' /\ ∃ v' cb' ps', Inv w' lim rb mb v' cb' ps' s'
theorem ReadPost.no {w w' : World} {lim rb mb : Nat} {o : Option St} {e : Ending} (ho : o = none) (h : e = .returned (.bool false) /\ Below lim w w') : ReadPost w lim rb mb o e w' := by
 subst ho; exact h
theorem ReadPost.yes {w w' : World} {lim rb mb : Nat} {o : Option St} {e : Ending} (s' : St) (ho : o = some s') (h : e = .returned (.bool true) /\ Below lim w w' /\ ∃ v' cb' ps', Inv w' lim rb mb v' cb' ps' s') : ReadPost w lim rb mb o e w' := by
 subst ho; exact h
theorem micro36_any (lim rb mb : Nat) (v : Value) (cb : Int -> Nat) (ps : List Nat) (s : St) (i : Nat) (d : DidR) (p : DidV) (w : World) (h : Inv w lim rb mb v cb ps s) (hs : StOk i s) (hi : i <= 4096) (hcm : CmdOk w lim d.cmd p.vk p.vv p.vt) (hrs : RespOk w lim d.resp p.vi p.vn) :
  Calls Tryz.prog 104 #[.pointer (some ⟨rb, 0, none⟩), .int .i64 i, .agg (didC d p).toArray] w (ReadPost w lim rb mb (microOf i d s)) := by
 have low : ∀ {w'}, Below w.heap.size w w' -> Below lim w w' := fun hb => ⟨hb.os, hb.tape, hb.output, hb.size, fun k hk => hb.block k (Nat.lt_of_lt_of_le hk h.hlim)⟩
 cases hc : s.conns d.step.c with
 | none =>
  refine (micro36_no rb mb v s.nses _ i d p w h.row h.map (by simp only [hc]; rfl)).mono ?_
  rintro e w' ⟨rfl, hb⟩
  exact .no (by simp only [microOf, hc]) ⟨rfl, low hb⟩
 | some c =>
  have hf : (fun k => (s.conns k).map fun _ => ptrV (cb k)) d.step.c = some (.pointer (some ⟨cb d.step.c, 0, none⟩)) := by simp only [hc]; rfl
  have hck := h.conn _ _ hc
  have hnum := hs.num _ _ hc
  by_cases h1 : d.micro = 1 ∨ d.micro = 2
  ·cases hat : c.at_ with
   | some j =>
    rw [hat] at hck
    have e : microOf i d s = none := by simp only [microOf, hc, h1, if_true, hat]
    rcases h1 with h1 | h1
    ·refine (micro36_dec_at rb mb (cb d.step.c) (ps.getD j 0) v _ s.nses c.ses c.num _ i d p ⟨0, 0, false, cmd0, resp0, 0, 0, 0, 0⟩ ⟨.bool false, .bool false, .bool false, .bool false, .bool false⟩ w h.row h.map hf hck h1 rfl).mono ?_
     rintro e' w' ⟨rfl, hb⟩
     exact .no e ⟨rfl, low hb⟩
    ·refine (micro36_bad_at rb mb (cb d.step.c) (ps.getD j 0) v _ s.nses c.ses c.num _ i d p ⟨0, 0, false, cmd0, resp0, 0, 0, 0, 0⟩ ⟨.bool false, .bool false, .bool false, .bool false, .bool false⟩ w h.row h.map hf hck h1 rfl).mono ?_
     rintro e' w' ⟨rfl, hb⟩
     exact .no e ⟨rfl, low hb⟩
   | none =>
    rw [hat] at hck
    have e : microOf i d s = some { s.put d.step.c (some ⟨c.ses, c.num + 1, some s.calls.length⟩) with calls := s.calls ++ [newCall c i d] } := by simp only [microOf, hc, h1, if_true, hat]
    have hen : newCall ⟨c.ses, c.num, none⟩ i d = newCall c i d := by simp only [newCall]
    have hlen : ps.length <= 100000 := by have := hs.len; rw [h.len]; omega
    have fin : ∀ e' w', (e' = .returned (.bool true) /\ ∃ pn v', RowL w' rb 111 [.map (some mb), v', .int .i64 s.nses] /\ RowL w' (cb d.step.c) 196 [.int .i64 c.ses, .int .i64 (c.num + 1), ptrV pn] /\ RowL w' pn 52 (callC (newCall ⟨c.ses, c.num, none⟩ i d) (newV d p)) /\ w'.ownsRow lim 113 1 v' (ps.length + 1) (ps.map ptrV ++ [ptrV pn]) /\ w.heap.size <= pn /\ Kept (rb :: cb d.step.c :: v.ownBlock.toList) w w') -> ReadPost w lim rb mb (microOf i d s) e' w' := by
     rintro e' w' ⟨rfl, pn, v', a1, a2, a3, a4, a5, a6⟩
     rw [hen] at a3
     refine .yes _ e ⟨rfl, a6.below h.hlim fun b hb => ?_, _, _, _, h.micro_new hs hc a1 a2 a3 ?_ a4 a5 a6⟩
     ·rcases List.mem_cons.1 hb with rfl | hb
      ·exact h.lrb
      rcases List.mem_cons.1 hb with rfl | hb
      ·exact h.lcb _ _ hc
      ·exact own_ge h.own hb
     ·have z1 : SlV Value.string w lim (.slice none 0 0) ([] : List ByteArray) := ⟨by simp, none, 0, rfl, fun i x hi => by simp at hi⟩
      have z2 : DatG w lim (.slice none 0 0) [] := ⟨by simp, by simp, none, 0, rfl, by simp, by simp, fun i hi => by simp at hi⟩
      have z3 : RespOk w lim resp0 (.slice none 0 0) (.slice none 0 0) := ⟨⟨by simp [resp0], none, 0, rfl, fun i r hi => by simp [resp0] at hi⟩, by simp [resp0], none, 0, rfl, fun i x hi => by simp [resp0] at hi⟩
      rcases h1 with h1 | h1
      ·rw [newCall_dec h1, newV_dec h1]
       exact ⟨hcm, z3⟩
      ·rw [newCall_bad h1, newV_bad h1]
       exact ⟨⟨z1, z2, z1⟩, hrs⟩
    rcases h1 with h1 | h1
    ·exact (micro36_dec lim rb mb (cb d.step.c) ps.length v s.nses c.ses c.num (ps.map ptrV) _ i d p w h.row h.map hf hck h1 h.own h.hlim hlen ⟨hnum.1, by omega⟩ hcm hrs).mono fin
    ·exact (micro36_bad lim rb mb (cb d.step.c) ps.length v s.nses c.ses c.num (ps.map ptrV) _ i d p w h.row h.map hf hck h1 h.own h.hlim hlen ⟨hnum.1, by omega⟩ hcm hrs).mono fin
  ·have n1 : d.micro ≠ 1 := fun e => h1 (.inl e)
   have n2 : d.micro ≠ 2 := fun e => h1 (.inr e)
   by_cases h3 : d.micro = 3
   ·cases hat : c.at_ with
    | none =>
     rw [hat] at hck
     refine (micro36_com_nil rb mb (cb d.step.c) 0 v _ s.nses c.ses c.num _ i d p ⟨0, 0, false, cmd0, resp0, 0, 0, 0, 0⟩ ⟨.bool false, .bool false, .bool false, .bool false, .bool false⟩ w h.row h.map hf hck h3 rfl).mono ?_
     rintro e' w' ⟨rfl, hb⟩
     exact .no (by rw [microOf3 hc h1 h3]; simp only [hat]) ⟨rfl, low hb⟩
    | some j =>
     rw [hat] at hck
     have hj := hs.at_ _ _ _ hc hat
     have hx := List.getElem?_eq_getElem hj
     obtain ⟨x, hxe⟩ : ∃ x, s.calls[j] = x := ⟨_, rfl⟩
     rw [hxe] at hx
     obtain ⟨pc, hp1, hp2⟩ := h.call _ _ hx
     by_cases hb : x.bad = true
     ·refine (micro36_com_bad rb mb (cb d.step.c) (ps.getD j 0) v _ s.nses c.ses c.num _ i d p x pc w h.row h.map hf hck h3 rfl hb hp1).mono ?_
      rintro e' w' ⟨rfl, hb'⟩
      exact .no (by rw [microOf3 hc h1 h3]; simp only [hat, hx, hb, true_or, if_true]) ⟨rfl, low hb'⟩
     ·have hb : x.bad = false := by simpa using hb
      by_cases hd : 0 <= x.done
      ·refine (micro36_com_done rb mb (cb d.step.c) (ps.getD j 0) v _ s.nses c.ses c.num _ i d p x pc w h.row h.map hf hck h3 rfl hb (by simp; omega) (by simp; omega) hp1).mono ?_
       rintro e' w' ⟨rfl, hb'⟩
       exact .no (by rw [microOf3 hc h1 h3]; simp only [hat, hx, hd, or_true, if_true]) ⟨rfl, low hb'⟩
      ·have e : microOf i d s = some { s with calls := s.calls.set j (doneCall x i d) } := by
        have : ¬ (x.bad = true ∨ 0 <= x.done) := by simp [hb, hd]
        rw [microOf3 hc h1 h3]; simp only [hat, hx, this, if_false]
       refine (micro36_com lim rb mb (cb d.step.c) (ps.getD j 0) ps.length v s.nses c.ses c.num (ps.map ptrV) _ i d p x pc w h.row h.map hf hck h3 h.own hp1 hb (by simp; omega) (by simp; omega) hcm hrs).mono ?_
       rintro e' w' ⟨rfl, a1, a2⟩
       refine .yes _ e ⟨rfl, a2.below h.hlim fun b hb => ?_, _, _, _, h.call_set hx a1 ?_ a2⟩
       ·simp at hb; subst hb; exact h.lps _ (h.ps_mem hx)
       ·exact ⟨hp2.1, hrs⟩
   ·by_cases h4 : d.micro = 4
    ·cases hat : c.at_ with
     | none =>
      rw [hat] at hck
      refine (micro36_wr_nil rb mb (cb d.step.c) 0 v _ s.nses c.ses c.num _ i d p ⟨0, 0, false, cmd0, resp0, 0, 0, 0, 0⟩ ⟨.bool false, .bool false, .bool false, .bool false, .bool false⟩ w h.row h.map hf hck h4 rfl).mono ?_
      rintro e' w' ⟨rfl, hb⟩
      exact .no (by rw [microOf4 hc h1 h3 h4]; simp only [hat]) ⟨rfl, low hb⟩
     | some j =>
      rw [hat] at hck
      have hj := hs.at_ _ _ _ hc hat
      have hx := List.getElem?_eq_getElem hj
      obtain ⟨x, hxe⟩ : ∃ x, s.calls[j] = x := ⟨_, rfl⟩
      rw [hxe] at hx
      obtain ⟨pc, hp1, hp2⟩ := h.call _ _ hx
      have e : ¬ (x.bad = false /\ x.done < 0) -> microOf i d s = some { s.put d.step.c (some ⟨c.ses, c.num, none⟩) with calls := s.calls.set j (toldCall x i) } := fun hn => by
       rw [microOf4 hc h1 h3 h4]; simp only [hat, hx, hn, if_false]
      have fin : ¬ (x.bad = false /\ x.done < 0) -> ∀ e' w', (e' = .returned (.bool true) /\ RowL w' (cb d.step.c) 196 [.int .i64 c.ses, .int .i64 c.num, .pointer none] /\ RowL w' (ps.getD j 0) 52 (callC (toldCall x i) pc) /\ Kept [ps.getD j 0, cb d.step.c] w w') -> ReadPost w lim rb mb (microOf i d s) e' w' := by
       rintro hn e' w' ⟨rfl, a1, a2, a3⟩
       refine .yes _ (e hn) ⟨rfl, a3.below h.hlim fun b hb => ?_, v, cb, ps, ?_⟩
       ·simp at hb
        rcases hb with rfl | rfl
        ·exact h.lps _ (h.ps_mem hx)
        ·exact h.lcb _ _ hc
       ·exact h.told hc hx a1 a2 hp2 a3
      by_cases hb : x.bad = true
      ·exact (micro36_wr_bad lim rb mb (cb d.step.c) (ps.getD j 0) ps.length v s.nses c.ses c.num (ps.map ptrV) _ i d p x pc w h.row h.map hf hck h4 h.own hp1 hb hcm hrs).mono (fin (by simp [hb]))
      ·have hb : x.bad = false := by simpa using hb
       by_cases hd : x.done < 0
       ·refine (micro36_wr_pend rb mb (cb d.step.c) (ps.getD j 0) v _ s.nses c.ses c.num _ i d p x pc w h.row h.map hf hck h4 rfl hb (by simp; omega) hp1).mono ?_
        rintro e' w' ⟨rfl, hb'⟩
        exact .no (by rw [microOf4 hc h1 h3 h4]; simp only [hat, hx, hb, hd, and_self, if_true]) ⟨rfl, low hb'⟩
       ·exact (micro36_wr_done lim rb mb (cb d.step.c) (ps.getD j 0) ps.length v s.nses c.ses c.num (ps.map ptrV) _ i d p x pc w h.row h.map hf hck h4 h.own hp1 hb (by simp; omega) (by simp; omega) hcm hrs).mono (fin (by simp [hd]))
    ·refine (micro36_other rb mb (cb d.step.c) 0 v _ s.nses c.ses c.num _ i d p ⟨0, 0, false, cmd0, resp0, 0, 0, 0, 0⟩ ⟨.bool false, .bool false, .bool false, .bool false, .bool false⟩ w h.row h.map hf hck (by simp; omega) (by simp; omega) (by simp; omega) (by simp; omega)).mono ?_
     rintro e' w' ⟨rfl, hb⟩
     exact .yes s (microOf5 hc h1 h3 h4) ⟨rfl, low hb, _, _, _, h.below hb⟩
end Go.Proofs.YtnjhpgmbfblgaaaGreat.Ord
