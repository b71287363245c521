/- Walk of fresh.judge.change: a visit of a key that has not been seen; What the program's. -/
import Derived.Test.YtnjhpgmbfblgaaaGreatMU12
import Derived.Deep.DeepCutAuto
import Derived.Laws.EntriesVeiled
set_option linter.unusedVariables false
set_option linter.unusedSimpArgs false
namespace Go.Proofs.YtnjhpgmbfblgaaaGreat.Ord
open Go.RowKit
set_option maxRecDepth 100000
set_option maxHeartbeats 8000000
theorem RowL.setCell {w : World} {b : Nat} {t : TypeId} {l : List Value} (h : RowL w b t l) (j : Nat) (v : Value) (l' : List Value) (e : l.set j v = l') : RowL (w.setCell ⟨b, j, none⟩ v) b t l' := e ▸ h.set j v
theorem VS.see {c : VC} (hb : VB c) {w w' : World} {S : List ByteArray} {k : ByteArray} (h : VS c w S) (hk : hasS S k = false) (hkp : Kept [c.Ms] w w') (hm : MapS w' c.Ms fun k' => if k' = k then some (.bool true) else if hasS S k' = true then some (.bool true) else none) :
  Kept (c.Ms :: c.ps) c.wb w' /\ MapS w' c.Ms (fun k' => if hasS (k :: S) k' = true then some (.bool true) else none) /\ ∀ (i : Nat) (x : WrR) (p : Nat), c.ws[i]? = some x -> c.ps[i]? = some p -> RowL w' p 220 (wrL (bC_ S x) (c.vals i).1 (c.vals i).2) := by
 refine ⟨h.kept.trans (hkp.mono (by simp)), hm.congr fun k' => ?_, fun i x p hi hp => (h.wrs i x p hi hp).kept hkp (by simp; exact (hb.lps p (mG hp)).2)⟩
 have e : hasS (k :: S) k' = (decide (k = k') || hasS S k') := rfl
 by_cases hkk : k' = k
 ·subst hkk
  rw [if_pos rfl, e]
  simp
 rw [if_neg hkk, e, eF (fun h => hkk h.symm)]
 rfl
theorem ey_ {S : List ByteArray} {k : ByteArray} {x : WrR} (h : x.key ≠ k ∨ x.gone ≠ 0) : bC_ (k :: S) x = bC_ S x := by
 unfold bC_
 have e : hasS (k :: S) x.key = (decide (k = x.key) || hasS S x.key) := rfl
 rcases h with h | h
 ·rw [e, eF (fun h' => h h'.symm)]
  rfl
 rw [if_neg (fun a => h a.1), if_neg (fun a => h a.1)]
theorem di_ {S : List ByteArray} {x : WrR} (h : hasS S x.key = false) : bC_ S x = x := by
 unfold bC_
 rw [if_neg (fun a => by rw [h] at a; cases a.2)]
theorem kL_ {S : List ByteArray} {k : ByteArray} {x : WrR} (hk : x.key = k) (hg : x.gone = 0) : bC_ (k :: S) x = { x with gone := 3 } := by
 unfold bC_
 rw [if_pos ⟨hg, hasS_iff.2 (by rw [hk]; simp)⟩]
theorem VS.noHit {c : VC} {w : World} {S : List ByteArray} {k : ByteArray} (h : Kept (c.Ms :: c.ps) c.wb w /\ MapS w c.Ms (fun k' => if hasS (k :: S) k' = true then some (.bool true) else none) /\ ∀ (i : Nat) (x : WrR) (p : Nat), c.ws[i]? = some x -> c.ps[i]? = some p -> RowL w p 220 (wrL (bC_ S x) (c.vals i).1 (c.vals i).2))
  (hno : ∀ (i : Nat) (x : WrR), c.ws[i]? = some x -> x.key = k -> x.gone ≠ 0) : VS c w (k :: S) :=
 ⟨h.1, h.2.1, fun i x p hi hp => by
  rw [ey_ (by
   by_cases e : x.key = k
   ·exact .inr (hno i x hi e)
   exact .inl e)]
  exact h.2.2 i x p hi hp⟩
theorem VS.didHit {c : VC} (hb : VB c) {w : World} {S : List ByteArray} {k : ByteArray} (h : Kept (c.Ms :: c.ps) c.wb w /\ MapS w c.Ms (fun k' => if hasS (k :: S) k' = true then some (.bool true) else none) /\ ∀ (i : Nat) (x : WrR) (p : Nat), c.ws[i]? = some x -> c.ps[i]? = some p -> RowL w p 220 (wrL (bC_ S x) (c.vals i).1 (c.vals i).2))
  (hS : hasS S k = false) {i : Nat} {x : WrR} {p : Nat} (hi : c.ws[i]? = some x) (hp : c.ps[i]? = some p) (hk : x.key = k) (hg : x.gone = 0) (hl : aN_ c.ws k = some i) : VS c (w.setCell ⟨p, 5, none⟩ (.int .i64 3)) (k :: S) := by
 have hpm := mG hp
 refine ⟨h.1.setCell (by simp; exact .inr hpm) _, h.2.1.of_block (heap_setCell_other _ _ _ _ fun e => (hb.lps p hpm).2 e.symm), fun j y q hj hq => ?_⟩
 by_cases hji : j = i
 ·subst hji
  rw [hi] at hj
  rw [hp] at hq
  cases hj
  cases hq
  refine (h.2.2 j x p hi hp).setCell 5 _ _ ?_
  rw [di_ (by rw [hk]; exact hS), kL_ hk hg]
  rfl
 have hqp : q ≠ p := fun e => by
  subst e
  obtain ⟨l1, e1⟩ := (gS.1 hq)
  obtain ⟨l2, e2⟩ := (gS.1 hp)
  rcases Nat.lt_or_gt_of_ne hji with h | h
  ·exact List.pairwise_iff_getElem.1 hb.nd j i l1 l2 h (e1.trans e2.symm)
  exact List.pairwise_iff_getElem.1 hb.nd i j l2 l1 h (e2.trans e1.symm)
 have h1 := (h.2.2 j y q hj hq).setOther (a := ⟨p, 5, none⟩) hqp (.int .i64 3)
 rw [ey_]
 ·exact h1
 by_cases e : y.key = k
 ·refine .inr fun hg0 => hji ?_
  have := hb.only j y hj hg0
  rw [e, hl] at this
  exact (Option.some.inj this).symm
 exact .inl e
theorem visit192 (c : VC) (hb : VB c) (U : List ByteArray) (hU : ∀ k x, x ∈ kids c.es k -> x ∈ U) : ∀ (n : Nat) (S : List ByteArray), bm_ U S <= n -> ∀ k ∈ U, ∀ w, VS c w S ->
  Calls Tryz.prog 192 #[.string k, .pointer (some ⟨c.sb, 0, none⟩), .pointer (some ⟨c.jb, 0, none⟩), .pointer (some ⟨c.vb, 0, none⟩)] w (VPo c S k) := by
 intro n
 induction n with
 | zero =>
  intro S hn k hk w h
  refine fg_ c hb S k ?_ w h
  cases hS : hasS S k
  ·have := c7_ hk hS
   omega
  rfl
 | succ n ih =>
  intro S hn k hk w h
  cases hS : hasS S k
  case true => exact fg_ c hb S k hS w h
  have hlt := c7_ hk hS
  have c1 := h.cell hb.fsb hb.sbC
  have hlk := h.seen.run_lookup Tryz.underlying241 Tryz.underlying9 (.bool false) (Tryz.zeroValue4 w) k
  have hlk2 : (Instr.lookup 241 (.map (some c.Ms)) (.string k) false).run Tryz.prog w = .ok (.bool false) w := by rw [hlk, if_neg (by rw [hS]; simp)]; rfl
  obtain ⟨Ai, HB, Ab, HS, Ah, HU⟩ := kq6 ih hb h hS (show bm_ U (k :: S) <= n by omega) hU
  clear hlk ih h hS hlt hn hU hk hb
  go_enter Tryz.func192, Tryz.ntmps192
  go_upto_region 2 with ((with_reducible refine b0_ (o := ⟨none, _, _, _, _, _⟩) rfl 241 9 4 _ _ _ rfl c.Ms k (.bool true) ?_ ?_ ?_ _ Ab.o.seen Tryz.underlying241 Tryz.underlying9 ?_); (· rfl); (· rfl); (· rfl); intro w2 hk2 hm2)
  have hsee := Ab.o.see HB.o HS.o hk2 hm2
  have Aa := kp hsee
  clear hsee hk2 hm2 c1 hlk2
  have HF := kp (fun (b j : Nat) (v : Value) (hf : c.free b) (hv : c.wb.cell? ⟨b, j, none⟩ = some v) => (show w2.cell? ⟨b, j, none⟩ = some v by rw [<- hv]; exact World.cell?_of_block (Aa.o.1.block b hf.1 hf.2)))
  have j2 := HF.o _ _ _ HB.o.fjb HB.o.jbC
  have j3 := HF.o _ _ _ HB.o.fJ HB.o.lastC
  have hlk := (HB.o.lastM.of_block (Aa.o.1.block c.M HB.o.fM.1 HB.o.fM.2)).run_lookup Tryz.underlying134 Tryz.underlying9 (.pointer none) (Tryz.zeroValue217 w2) k
  have cases3 : (∃ v, aN_ c.ws k = none /\ v = (0 : Nat)) ∨ (∃ i x p, aN_ c.ws k = some i /\ c.ws[i]? = some x /\ c.ps[i]? = some p /\ x.key = k /\ x.gone = 0) ∨ (∃ i x p, aN_ c.ws k = some i /\ c.ws[i]? = some x /\ c.ps[i]? = some p /\ x.key = k /\ x.gone ≠ 0) := by
   cases hli : aN_ c.ws k with
   | none => exact .inl ⟨0, rfl, rfl⟩
   | some i =>
    obtain ⟨x, hx, hxk⟩ := bD_ c.ws k i hli
    have hp : c.ps[i]? = some (c.ps[i]'(by rw [HB.o.len]; exact (gS.1 hx).1)) := gE _
    by_cases hg : x.gone = 0
    ·exact .inr (.inl ⟨i, x, _, rfl, hx, hp, hxk, hg⟩)
    exact .inr (.inr ⟨i, x, _, rfl, hx, hp, hxk, hg⟩)
  rcases cases3 with ⟨v0, hli, rfl⟩ | ⟨i, x, p, hli, hx, hp, hxk, hg⟩ | ⟨i, x, p, hli, hx, hp, hxk, hg⟩
  case' inl =>
   have hlk2 : (Instr.lookup 134 (.map (some c.M)) (.string k) false).run Tryz.prog w2 = .ok (.pointer none) w2 := by rw [hlk, hli]; rfl
   have HV := kp (VS.noHit Aa.o fun i x hi he hg => by have := HB.o.only i x hi hg; rw [he, hli] at this; cases this)
   clear hlk hli Aa HF Ab
   go_upto_region 5 with (fail)
   obtain ⟨w3, rfl⟩ := eX w2
   clear j2 j3 hlk2
  case' inr.inl =>
   have hlk2 : (Instr.lookup 134 (.map (some c.M)) (.string k) false).run Tryz.prog w2 = .ok (.pointer (some ⟨p, 0, none⟩)) w2 := by
    rw [hlk, hli]
    simp [List.getD, hp, ptV]
   have hrow := Aa.o.2.2 i x p hx hp
   rw [di_ (by rw [hxk]; exact HS.o)] at hrow
   have f5 := hrow.frozen 5
   have HV := kp (VS.didHit HB.o Aa.o HS.o hx hp hxk hg hli)
   have d5 : w2.cell? ⟨p, 5, none⟩ = some (.int .i64 0) := by rw [<- hg]; exact hrow.cell (j := 5) rfl
   clear hlk hli hrow hx hp hxk hg Aa HF Ab
   go_upto_region 5 with (fail)
   obtain ⟨w3, hw3⟩ := eY (w2.setCell ⟨p, 5, none⟩ (.int .i64 3))
   rw [hw3] at HV ⊢
   clear hw3 d5 f5 j2 j3 hlk2
  case' inr.inr =>
   have hlk2 : (Instr.lookup 134 (.map (some c.M)) (.string k) false).run Tryz.prog w2 = .ok (.pointer (some ⟨p, 0, none⟩)) w2 := by
    rw [hlk, hli]
    simp [List.getD, hp, ptV]
   have hrow := Aa.o.2.2 i x p hx hp
   rw [di_ (by rw [hxk]; exact HS.o)] at hrow
   have f5 := hrow.frozen 5
   have HV := kp (VS.noHit Aa.o fun j y hj he hgy => by
    have := HB.o.only j y hj hgy
    rw [he, hli] at this
    obtain rfl : i = j := Option.some.inj this
    rw [hx] at hj
    cases hj
    exact hg hgy)
   have g : (x.gone == 0) = false := by simpa using hg
   have d5 : w2.cell? ⟨p, 5, none⟩ = some (.int .i64 x.gone) := hrow.cell (j := 5) rfl
   clear hlk hli hrow hx hp hxk hg Aa HF Ab
   go_upto_region 5 with (fail)
   obtain ⟨w3, rfl⟩ := eX w2
   clear d5 f5 j2 j3 hlk2 g
  all_goals
   have c3 := HV.o.cell HB.o.fjb HB.o.jbC
   have c4 := HV.o.cell HB.o.fJ HB.o.chC
   have hlk := (HV.o.map HB.o.fC HB.o.chM).run_lookup Tryz.underlying135 Tryz.underlying9 (.slice none 0 0) (Tryz.zeroValue32 w3) k
   obtain ⟨v, hlk2, hsl, hfree⟩ : ∃ v, (Instr.lookup 135 (.map (some c.C)) (.string k) false).run Tryz.prog w3 = .ok v w3 /\ SlV Value.string c.wb c.B v (kids c.es k) /\ ∀ b o n m, v = .slice (some ⟨b, o, none⟩) n m -> c.free b := by
    rcases HB.o.kidsV k with ⟨v, h1, h2, h3⟩ | ⟨h1, h2⟩
    ·exact ⟨v, by rw [hlk, h1]; rfl, h2, h3⟩
    exact ⟨.slice none 0 0, by rw [hlk, h1]; rfl, by rw [h2]; exact ⟨by simp, none, 0, rfl, fun i x h => by simp at h⟩, fun b o n m e => by cases e⟩
   obtain ⟨hml, A, cp, rfl, hel⟩ := hsl
   obtain ⟨m, hm⟩ := eY ((kids c.es k).length)
   rw [hm] at hlk2 hml hfree
   have hm' : m <= 9223372036854775807 := by unfold maxLen at hml; omega
   obtain ⟨Aj, Ac, HM⟩ := kq3 hel hfree hm
   clear hlk hel hfree hm hml
   go_wp2_with fail
   go_loopw [38] (fun s38 wr => ∃ (i : Nat) (T : List ByteArray), i <= m /\ s38 = .int .i64 i /\ Hid (VS c wr T) /\ Hid (∀ x ∈ k :: S, x ∈ T) /\ Hid (∀ x ∈ T, x ∈ S ∨ Reach c.es k x) /\ Hid (∀ x ∈ T, x ∉ S -> x ≠ k -> ∀ y ∈ kids c.es x, y ∈ T) /\ Hid (∀ y ∈ (kids c.es k).take i, y ∈ T)) (fun j _ => m - (intOf j).toNat)
   case atStart => exact ⟨0, k :: S, Nat.zero_le _, by go_num, HV, kp fun x hx => hx, kp fun x hx => by
    rcases List.mem_cons.1 hx with rfl | h
    ·exact .inr (Reach.refl _ _)
    ·exact .inl h, kp fun x hx hn hk => by
    rcases List.mem_cons.1 hx with rfl | h
    ·exact absurd rfl hk
    exact absurd h hn, kp (by simp)⟩
   obtain ⟨i, T, hi, rfl, Ae, Af, HR, HC, HK⟩ := hrel
   by_cases hlt : i < m
   ·obtain ⟨x, hx⟩ : ∃ x, (kids c.es k)[i]? = some x := ⟨(kids c.es k)[i]'(by rw [HM.o]; exact hlt), gE _⟩
    obtain ⟨b, o, rfl, hbB, c6⟩ := Aj.o i x hx
    have c6 : wr.cell? ⟨b, o + i, none⟩ = some (.string x) := Ae.o.cell (Ac.o b o m cp rfl) c6
    have c7 := Ae.o.cell HB.o.fvb HB.o.vbC
    unfold VC.clo at c7
    have hxm : x ∈ kids c.es k := mG hx
    have hg : decide ((i : Int) < (m : Int)) = true := eT_ (by omega)
    have hi1 : (i : Int) < (m : Int) := by omega
    obtain ⟨HX, Ag, Ad⟩ := kq3 hx hxm (Ai.o T (lT (ec_ Af.o) Ah.o) x (HU.o k x hxm) wr Ae.o)
    clear hx hxm hlt
    go_wp2_with fail
    refine Ad.o.mono ?_
    rintro e w5 ⟨rfl, T', h1, h2, h3, h4, h5⟩
    have H1 := kp h1
    have H2 := kp (show ∀ y ∈ k :: S, y ∈ T' from fun y hy => h2 y (Af.o y hy))
    have H4 := kp (show ∀ y ∈ T', y ∈ S ∨ Reach c.es k y from fun y hy => by
     rcases h4 y hy with h | h
     ·exact HR.o y h
     exact .inr ((Reach.kid Ag.o).trans h))
    have H5 := kp (show ∀ y ∈ T', y ∉ S -> y ≠ k -> ∀ z ∈ kids c.es y, z ∈ T' from fun y hy hn hk z hz => by
     by_cases hT : y ∈ T
     ·exact h2 z (HC.o y hT hn hk z hz)
     exact h5 y hy hT z hz)
    have H6 := kp (show ∀ y ∈ (kids c.es k).take (i + 1), y ∈ T' from fun y hy => by
     rw [tA, HX.o] at hy
     rcases List.mem_append.1 hy with h | h
     ·exact h2 y (HK.o y h)
     simp at h
     subst h
     exact h3)
    clear h1 h2 h3 h4 h5
    go_wp2_with fail
    go_roundw
    case rel => exact ⟨i + 1, T', by omega, by go_num, H1, H2, H4, H5, H6⟩
    simp [intOf]; omega
   obtain rfl : i = m := by omega
   have hg : decide ((i : Int) < (i : Int)) = false := by simp
   have HP := kp (show VPo c S k (.returned (.tuple #[])) wr from ⟨rfl, T, Ae.o, fun x hx => Af.o x (mM _ hx), Af.o k List.mem_cons_self, HR.o, fun x hx hn y hy => by
    by_cases hxk : x = k
    ·subst hxk
     have := HK.o y
     rw [<- HM.o, List.take_length] at this
     exact this hy
    exact HC.o x hx hn hxk y hy⟩)
   go_wp2_with fail
   go_end0
   exact HP.o
set_option maxHeartbeats 4000000
theorem g7_ (ws : List WrR) (k : ByteArray) : aN_ ws k = (ws.map (·.key)).zipIdx.foldl (fun a p => if p.1 = k then some p.2 else a) none := by
 unfold aN_
 rw [List.zipIdx_map, List.foldl_map]
 rfl
theorem h7_ {ws ws' : List WrR} (h : ws.map (·.key) = ws'.map (·.key)) (k : ByteArray) : aN_ ws k = aN_ ws' k := by rw [g7_, g7_, h]
structure JS where
 M : Nat
 C : Nat
 ps : List Nat
 vals : Nat -> Value × Value
 f : ByteArray -> Option Value
 wv : Value
structure JI (w : World) (lim J : Nat) (grace : Int) (ws : List WrR) (es : Edges) (s : JS) : Prop where
 row : RowL w J 138 [.int .u64 grace, s.wv, .map (some s.M), .map (some s.C)]
 isT : IsT grace
 own : w.ownsRow lim 217 1 s.wv ws.length (s.ps.map ptV)
 len : s.ps.length = ws.length
 nd : s.ps.Nodup
 few : ws.length <= 5000
 fewE : es.length <= 5000
 mapM : MapS w s.M fun k => (aN_ ws k).map fun i => ptV (s.ps.getD i 0)
 mapC : MapS w s.C s.f
 ne : s.M ≠ s.C
 wrs : ∀ (i : Nat) (x : WrR) (p : Nat), ws[i]? = some x -> s.ps[i]? = some p -> RowL w p 220 (wrL x (s.vals i).1 (s.vals i).2) /\ lim <= p
 times : ∀ x ∈ ws, IsT x.soft /\ IsT x.dl
 vals1 : ∀ (i : Nat) (x : WrR), ws[i]? = some x -> DatG w lim (s.vals i).1 x.val
 vals2 : ∀ (i : Nat) (x : WrR), ws[i]? = some x -> ∃ ts : List ByteArray, ts.length <= maxLen /\ w.ownsRow lim 9 1 (s.vals i).2 ts.length (ts.map Value.string) /\ ∀ t, t ∈ ts ↔ t ∈ x.tags
 kidsV : ∀ k v, s.f k = some v -> w.ownsRow lim 9 1 v (kids es k).length ((kids es k).map Value.string)
 kidsN : ∀ k, s.f k = none -> kids es k = []
 sep : ∀ k k' v v' b, s.f k = some v -> s.f k' = some v' -> k ≠ k' -> v.ownBlock = some b -> v'.ownBlock ≠ some b
 tsep : ∀ (i : Nat) (x : WrR) k v b, ws[i]? = some x -> s.f k = some v -> (s.vals i).2.ownBlock = some b -> v.ownBlock ≠ some b
 only : ∀ (i : Nat) (x : WrR), ws[i]? = some x -> x.gone = 0 -> aN_ ws x.key = some i
 lJ : lim <= J
 lM : lim <= s.M
 lC : lim <= s.C
 lw : lim <= w.heap.size
theorem MapS.ne_row {w : World} {b b' : Nat} {t : TypeId} {l : List Value} {f : ByteArray -> Option Value} (h : RowL w b t l) (h' : MapS w b' f) : b ≠ b' := by
 rintro rfl
 obtain ⟨c, hc⟩ := h.block
 obtain ⟨es, cl, h1, _⟩ := h'
 rw [hc] at h1
 cases h1
theorem MapS.ne_own {w : World} {b base n : Nat} {e : TypeId} {size : Nat} {v : Value} {xs : List Value} {f : ByteArray -> Option Value} (h : MapS w b f) (h' : w.ownsRow base e size v n xs) : v.ownBlock ≠ some b := by
 rcases h'.2 with ⟨rfl, _⟩ | ⟨g, cap, cur, rfl, _, hg, _⟩
 ·exact fun e => by cases e
 intro e
 obtain ⟨es, cl, h1, _⟩ := h
 have e2 : g = b := by simpa [Value.ownBlock] using e
 rw [e2, h1] at hg
 cases hg
theorem b7_ {α : Type} {enc : α -> Value} {w : World} {base : Nat} {e : TypeId} {v : Value} {xs : List α} (h : w.ownsRow base e 1 v xs.length (xs.map enc)) (hm : xs.length <= maxLen) : SlV enc w w.heap.size v xs := by
 rcases h.2 with ⟨rfl, h2⟩ | ⟨g, cap, cur, rfl, _, hg, h3, h4, h5, h6⟩
 ·have : xs = [] := eN h2
  subst this
  exact ⟨by simp, none, 0, rfl, fun i x hi => by simp at hi⟩
 refine ⟨hm, _, cap, rfl, fun i x hi => ⟨g, 0, rfl, (Array.getElem?_eq_some_iff.1 hg).1, ?_⟩⟩
 have hil := (gS.1 hi).1
 rw [Nat.zero_add, h.cellAt i (by omega)]
 rw [gM, hi]
 rfl
theorem d5_ (es : Edges) (k : ByteArray) : (kids es k).length <= es.length := by
 unfold kids
 rw [lM_]
 exact List.length_filter_le _ _
theorem b4_ {w : World} {base n b : Nat} {e : TypeId} {size : Nat} {v : Value} {xs : List Value} (h : w.ownsRow base e size v n xs) (hb : v.ownBlock = some b) : b < w.heap.size := by
 rcases h.2 with ⟨rfl, _⟩ | ⟨g, cap, cur, rfl, _, hg, _⟩
 ·cases hb
 have : g = b := by simpa [Value.ownBlock] using hb
 subst this
 exact (Array.getElem?_eq_some_iff.1 hg).1
theorem JI.p_ne {w : World} {lim J : Nat} {grace : Int} {ws : List WrR} {es : Edges} {s : JS} (h : JI w lim J grace ws es s) : J ∉ s.ps /\ s.M ∉ s.ps /\ s.C ∉ s.ps /\ (∀ p ∈ s.ps, s.wv.ownBlock ≠ some p) /\ (∀ k v, s.f k = some v -> ∀ p ∈ s.ps, v.ownBlock ≠ some p) /\ (∀ p ∈ s.ps, p < w.heap.size /\ lim <= p) /\ ∀ (i : Nat) (x : WrR), ws[i]? = some x -> ∀ p ∈ s.ps, (s.vals i).2.ownBlock ≠ some p := by
 have key : ∀ p ∈ s.ps, ∃ l, RowL w p 220 l /\ lim <= p := fun p hp => by
  obtain ⟨i, hi⟩ := mI.1 hp
  have hl := (gS.1 hi).1
  rw [h.len] at hl
  have := h.wrs i _ p (gE hl) hi
  exact ⟨_, this.1, this.2⟩
 refine ⟨fun hp => ?_, fun hp => ?_, fun hp => ?_, fun p hp => ?_, fun k v hk p hp => ?_, fun p hp => ?_, fun i x hi p hp => ?_⟩
 ·obtain ⟨l, hl, _⟩ := key _ hp
  exact RowL.ne h.row hl (by decide) rfl
 ·obtain ⟨l, hl, _⟩ := key _ hp
  exact h.mapM.ne_row hl rfl
 ·obtain ⟨l, hl, _⟩ := key _ hp
  exact h.mapC.ne_row hl rfl
 ·obtain ⟨l, hl, _⟩ := key _ hp
  exact hl.ne_own h.own (by decide)
 ·obtain ⟨l, hl, _⟩ := key _ hp
  exact hl.ne_own (h.kidsV k v hk) (by decide)
 ·obtain ⟨l, hl, hp2⟩ := key _ hp
  exact ⟨hl.lt, hp2⟩
 obtain ⟨l, hl, _⟩ := key _ hp
 obtain ⟨ts, _, h1, _⟩ := h.vals2 i x hi
 exact hl.ne_own h1 (by decide)
theorem JI.below {w w' : World} {lim J : Nat} {grace : Int} {ws : List WrR} {es : Edges} {s : JS} (h : JI w lim J grace ws es s) (hb : Below w.heap.size w w') : JI w' lim J grace ws es s :=
 ⟨h.row.below hb h.row.lt, h.isT, (Kept.of_below (L := []) hb).own2 h.own (by simp), h.len, h.nd, h.few, h.fewE, h.mapM.of_block (hb.block _ h.mapM.lt), h.mapC.of_block (hb.block _ h.mapC.lt), h.ne,
  fun i x p hi hp => ⟨(h.wrs i x p hi hp).1.below hb (h.wrs i x p hi hp).1.lt, (h.wrs i x p hi hp).2⟩, h.times, fun i x hi => (h.vals1 i x hi).below hb h.lw,
  fun i x hi => by
   obtain ⟨ts, h0, h1, h2⟩ := h.vals2 i x hi
   exact ⟨ts, h0, (Kept.of_below (L := []) hb).own2 h1 (by simp), h2⟩,
  fun k v hf => (Kept.of_below (L := []) hb).own2 (h.kidsV k v hf) (by simp), h.kidsN, h.sep, h.tsep, h.only, h.lJ, h.lM, h.lC, lT h.lw hb.size⟩
theorem ew_ {n : Nat} (h : n <= 5000) : n <= maxLen := by unfold maxLen; omega
theorem JI.rd {w : World} {lim J : Nat} {grace : Int} {ws : List WrR} {es : Edges} {s : JS} (h : JI w lim J grace ws es s) : RdJ w w.heap.size J grace ws s.ps /\ LastM w w.heap.size J ws s.ps := by
 obtain ⟨q1, q2, q3, q4, q5, q6, q7⟩ := h.p_ne
 refine ⟨⟨h.row.lt, h.isT, h.few, h.len, h.row.cell (j := 0) rfl, ?_, fun i x hi => ?_⟩, ⟨s.M, h.mapM.lt, h.row.cell (j := 2) rfl, h.mapM⟩⟩
 ·obtain ⟨hl, A, c, e, hel⟩ := b7_ (enc := ptV) (e := 217) (xs := s.ps) (by rw [h.len]; exact h.own) (by rw [h.len]; exact ew_ h.few)
  refine ⟨A, c, ?_, hel⟩
  rw [<- h.len, <- e]
  exact h.row.cell (j := 1) rfl
 have hl := (gS.1 hi).1
 have hp : s.ps[i]? = some (s.ps[i]'(by rw [h.len]; exact hl)) := gE _
 obtain ⟨ts, h0, h1, _⟩ := h.vals2 i x hi
 obtain ⟨r1, r2⟩ := h.wrs i x _ hi hp
 exact ⟨(h.times x (mG hi)).1, _, _, _, hp, r1.lt, r1.cells, (h.vals1 i x hi).mono h.lw, ts, b7_ h1 h0⟩
theorem JI.rows {w w' : World} {lim J : Nat} {grace : Int} {ws ws' : List WrR} {es : Edges} {s : JS} (h : JI w lim J grace ws es s) (hk : Kept s.ps w w') (hl : ws'.length = ws.length)
  (hx : ∀ (i : Nat) (x x' : WrR), ws[i]? = some x -> ws'[i]? = some x' -> x'.key = x.key /\ x'.val = x.val /\ x'.tags = x.tags /\ (x'.gone = 0 -> x.gone = 0) /\ IsT x'.soft /\ IsT x'.dl)
  (hr : ∀ (i : Nat) (x' : WrR) (p : Nat), ws'[i]? = some x' -> s.ps[i]? = some p -> RowL w' p 220 (wrL x' (s.vals i).1 (s.vals i).2)) : JI w' lim J grace ws' es s := by
 obtain ⟨q1, q2, q3, q4, q5, q6, q7⟩ := h.p_ne
 have old : ∀ (i : Nat) (x' : WrR), ws'[i]? = some x' -> ∃ x, ws[i]? = some x := fun i x' hi => by
  have := (gS.1 hi).1
  exact ⟨ws[i]'(by omega), gE _⟩
 have hkeys : ws'.map (·.key) = ws.map (·.key) := by
  apply List.ext_getElem?
  intro i
  rw [gM, gM]
  by_cases hi : i < ws.length
  ·rw [gE hi, gE (l := ws') (by omega)]
   simp only [Option.map_some]
   rw [(hx i _ _ (gE hi) (gE (by omega))).1]
  rw [List.getElem?_eq_none (l := ws') (by omega), List.getElem?_eq_none (l := ws) (by omega)]
 have hlast : ∀ k, aN_ ws' k = aN_ ws k := h7_ hkeys
 refine ⟨hk.row q1 h.row, h.isT, by rw [hl]; exact hk.own2 h.own q4, by rw [hl]; exact h.len, h.nd, by rw [hl]; exact h.few, h.fewE, ?_, h.mapC.of_block (hk.block _ h.mapC.lt q3), h.ne, fun i x' p hi hp => ?_, fun x' hm => ?_, fun i x' hi => ?_, fun i x' hi => ?_, fun k v hf => hk.own2 (h.kidsV k v hf) (q5 k v hf), h.kidsN, h.sep, fun i x' k v b hi => ?_, fun i x' hi hg => ?_, h.lJ, h.lM, h.lC, lT h.lw hk.size⟩
 ·exact (h.mapM.of_block (hk.block _ h.mapM.lt q2)).congr fun k => by rw [hlast]
 ·obtain ⟨x, hi0⟩ := old i x' hi
  exact ⟨hr i x' p hi hp, (h.wrs i x p hi0 hp).2⟩
 ·obtain ⟨i, hi⟩ := mI.1 hm
  obtain ⟨x, hi0⟩ := old i x' hi
  have := hx i x x' hi0 hi
  exact ⟨this.2.2.2.2.1, this.2.2.2.2.2⟩
 ·obtain ⟨x, hi0⟩ := old i x' hi
  rw [(hx i x x' hi0 hi).2.1]
  exact (h.vals1 i x hi0).below (hk.below h.lw fun p hp => (q6 p hp).2) (lR _)
 ·obtain ⟨x, hi0⟩ := old i x' hi
  obtain ⟨ts, h0, h1, h2⟩ := h.vals2 i x hi0
  exact ⟨ts, h0, hk.own2 h1 (q7 i x hi0), fun t => by rw [h2, (hx i x x' hi0 hi).2.2.1]⟩
 ·obtain ⟨x, hi0⟩ := old i x' hi
  exact h.tsep i x k v b hi0
 obtain ⟨x, hi0⟩ := old i x' hi
 have a := hx i x x' hi0 hi
 rw [hlast, a.1]
 exact h.only i x hi0 (a.2.2.2.1 hg)
theorem lv_ (w : World) (J : Nat) : ∀ W, W = ((((w.alloc (Obj.cells #[Value.pointer (some { block := J, off := 0 })] 133)).alloc (Obj.map #[] 0)).alloc (Obj.cells #[Value.map (some (w.heap.size + 1))] 241)).alloc
   (Obj.cells #[Value.func (Fn.func 192) #[] #[Value.pointer (some { block := w.heap.size + 1 + 1, off := 0 }), Value.pointer (some { block := w.heap.size, off := 0 }), Value.pointer (some { block := w.heap.size + 1 + 1 + 1, off := 0 })]] 222)) ->
  Below w.heap.size w W /\ W.heap.size = w.heap.size + 4 /\ MapS W (w.heap.size + 1) (fun _ => none) /\ W.cell? ⟨w.heap.size + 2, 0, none⟩ = some (.map (some (w.heap.size + 1))) /\ W.cell? ⟨w.heap.size, 0, none⟩ = some (.pointer (some ⟨J, 0, none⟩)) /\
  W.cell? ⟨w.heap.size + 3, 0, none⟩ = some (.func (.func 192) #[] #[.pointer (some ⟨w.heap.size + 2, 0, none⟩), .pointer (some ⟨w.heap.size, 0, none⟩), .pointer (some ⟨w.heap.size + 3, 0, none⟩)]) := by
 rintro W rfl
 refine ⟨?_, ?_, ?_, ?_, ?_, ?_⟩
 ·exact ((((BR _ w).alloc (lR _) _).alloc (by simp only [World.alloc, Array.size_push]; omega) _).alloc (by simp only [World.alloc, Array.size_push]; omega) _).alloc (by simp only [World.alloc, Array.size_push]; omega) _
 ·simp only [World.alloc, Array.size_push]
 ·have h := MapS.new (w.alloc (Obj.cells #[Value.pointer (some { block := J, off := 0 })] 133))
  have e : (w.alloc (Obj.cells #[Value.pointer (some { block := J, off := 0 })] 133)).heap.size = w.heap.size + 1 := by simp only [World.alloc, Array.size_push]
  rw [e] at h
  refine h.of_block ?_
  have h2 := h.lt
  rw [Below.heap_alloc, Below.heap_alloc] <;> simp only [World.alloc, Array.size_push] <;> omega
 ·go_simp
 ·go_simp
 go_simp
theorem fR_ (w : World) (lim J : Nat) (grace : Int) (ws : List WrR) (es : Edges) (s : JS) (h : JI w lim J grace ws es s) (k : ByteArray) :
  Calls Tryz.prog 131 #[ptV J, .string k] w fun e w' => e = .returned (.tuple #[]) /\ ∃ T : List ByteArray, (∀ x, x ∈ T ↔ Reach es k x) /\ JI w' lim J grace (a2_ T ws) es s /\ Below lim w w' /\ Kept s.ps w w' := by
 have hmk : ∀ w, (Instr.makeMap 241 none).run Tryz.prog w = .ok (.map (some w.heap.size)) (w.alloc (.map #[] 0)) := fun _ => rfl
 have HH := kp h
 clear h
 unfold ptV
 go_enter Tryz.func131, Tryz.ntmps131
 go_upto_region 4 with (fail)
 obtain ⟨W, hW⟩ : ∃ W, W = ((((w.alloc (Obj.cells #[Value.pointer (some { block := J, off := 0 })] 133)).alloc (Obj.map #[] 0)).alloc (Obj.cells #[Value.map (some (w.heap.size + 1))] 241)).alloc
   (Obj.cells #[Value.func (Fn.func 192) #[] #[Value.pointer (some { block := w.heap.size + 1 + 1, off := 0 }), Value.pointer (some { block := w.heap.size, off := 0 }), Value.pointer (some { block := w.heap.size + 1 + 1 + 1, off := 0 })]] 222)) := ⟨_, rfl⟩
 rw [<- hW]
 obtain ⟨h1, h2, h3, h4, h5, h6⟩ := lv_ w J W hW
 clear hW
 obtain ⟨n, hn⟩ := eY w.heap.size
 have HJ := kp (HH.o.below h1)
 have hlim := HH.o.lw
 rw [hn] at h1 h2 h3 h4 h5 h6 ⊢
 obtain ⟨q1, q2, q3, q4, q5, q6, q7⟩ := HH.o.p_ne
 have hbase : VB ⟨W, n + 2, n, n + 3, J, s.M, s.C, n + 1, W.heap.size, s.f, ws, es, s.ps, s.vals⟩ := by
  have hJ := HH.o.row.lt
  have hM := HH.o.mapM.lt
  have hC := HH.o.mapC.lt
  rw [hn] at hJ hM hC
  have hps : ∀ b, b = n + 2 ∨ b = n ∨ b = n + 3 -> b ∉ s.ps := fun b hb hm => by
   have := (q6 b hm).1
   omega
  refine ⟨h4, h5, h6, HJ.o.row.cell (j := 2) rfl, HJ.o.row.cell (j := 3) rfl, HJ.o.mapM, HJ.o.mapC, fun k => ?_, ⟨?_, ?_⟩, ⟨?_, ?_⟩, ⟨?_, ?_⟩, ⟨?_, ?_⟩, ⟨?_, ?_⟩, ⟨?_, ?_⟩, ?_, fun p hp => ?_, HH.o.nd, HH.o.len, HH.o.only⟩
  ·show (∃ v, s.f k = some v /\ SlV Value.string W W.heap.size v (kids es k) /\ ∀ b o n' m, v = .slice (some ⟨b, o, none⟩) n' m -> b < W.heap.size /\ b ∉ (n + 1) :: s.ps) ∨ (s.f k = none /\ kids es k = [])
   cases hf : s.f k with
   | none => exact .inr ⟨rfl, HH.o.kidsN k hf⟩
   | some v =>
    refine .inl ⟨v, rfl, b7_ (HJ.o.kidsV k v hf) (ew_ (lT (d5_ es k) HH.o.fewE)), fun b o m c e => ?_⟩
    have hob : v.ownBlock = some b := by rw [e]; rfl
    have hlt := b4_ (HH.o.kidsV k v hf) hob
    refine ⟨by omega, fun hm => ?_⟩
    rcases List.mem_cons.1 hm with h | h
    ·omega
    exact q5 k v hf b h hob
  all_goals dsimp only
  ·omega
  ·simp; exact hps _ (.inl rfl)
  ·omega
  ·simp; exact hps _ (.inr (.inl rfl))
  ·omega
  ·simp; exact hps _ (.inr (.inr rfl))
  ·omega
  ·simp; exact ⟨by omega, q1⟩
  ·omega
  ·simp; exact ⟨by omega, q2⟩
  ·omega
  ·simp; exact ⟨by omega, q3⟩
  ·omega
  have := (q6 p hp).1
  exact ⟨by omega, by omega⟩
 have h0 : VS ⟨W, n + 2, n, n + 3, J, s.M, s.C, n + 1, W.heap.size, s.f, ws, es, s.ps, s.vals⟩ W [] := ⟨Kept.refl _ _, h3, fun i x p hi hp => by
  have : bC_ [] x = x := di_ rfl
  rw [this]
  exact (HJ.o.wrs i x p hi hp).1⟩
 obtain ⟨HC, HQ⟩ := kq2 (visit192 _ hbase (k :: es.map (·.2)) (fun a x hx => mM _ (List.mem_map.2 ⟨(a, x), mem_kids.1 hx, rfl⟩)) _ [] (lR _) k List.mem_cons_self W h0) (show Below w.heap.size w W by rw [hn]; exact h1)
 clear h0 hbase h1 h2 h3 h4 h5 q1 q2 q3 q4 q5 q6 q7 hlim hmk
 go_wp2_with fail
 refine HC.o.mono ?_
 rintro e w2 ⟨rfl, T, t1, t2, t3, t4, t5⟩
 have hT : ∀ x, x ∈ T ↔ Reach es k x := fun x => ⟨fun h => by
  rcases t4 x h with h | h
  ·cases h
  exact h, fun h => h.closed t3 fun a ha c hc => t5 a ha (by simp) c hc⟩
 have HP : JI w2 lim J grace (a2_ T ws) es s /\ Below lim w w2 /\ Kept s.ps w w2 := by
  have hkp : Kept s.ps w w2 := ((Kept.of_below HQ.o).trans t1.kept).drop2 fun b hb hlt => by
   rcases List.mem_cons.1 hb with h | h
   ·dsimp only at h; omega
   exact h
  refine ⟨HH.o.rows hkp (by simp [a2_]) (fun i x x' hi hi' => ?_) (fun i x' p hi hp => ?_), hkp.below HH.o.lw fun p hp => (HH.o.p_ne.2.2.2.2.2.1 p hp).2, hkp⟩
  ·unfold a2_ at hi'
   rw [gM, hi] at hi'
   obtain rfl : bC_ T x = x' := Option.some.inj hi'
   have ht := HH.o.times x (mG hi)
   unfold bC_
   split
   ·exact ⟨rfl, rfl, rfl, fun h => (by cases h), ht.1, ht.2⟩
   exact ⟨rfl, rfl, rfl, fun h => h, ht.1, ht.2⟩
  unfold a2_ at hi
  rw [gM] at hi
  obtain ⟨x, hx, rfl⟩ := Option.map_eq_some_iff.1 hi
  exact t1.wrs i x p hx hp
 obtain ⟨HP, HT⟩ := kq2 HP hT
 clear t1 t2 t3 t4 t5 hT HC HQ HH
 go_wp2_with fail
 go_end0
 exact ⟨rfl, T, HT.o, HP.o⟩
theorem hq_ (w : World) (lim J : Nat) (grace : Int) (ws : List WrR) (es : Edges) (s : JS) (h : JI w lim J grace ws es s) (k : ByteArray) :
  Calls Tryz.prog 131 #[ptV J, .string k] w fun e w' => e = .returned (.tuple #[]) /\ ∃ T : List ByteArray, (∀ x, x ∈ T ↔ Reach es k x) /\ JI w' lim J grace (a2_ T ws) es s /\ Below lim w w' :=
 (fR_ w lim J grace ws es s h k).mono fun e w' ⟨h1, T, h2, h3, h4, _⟩ => ⟨h1, T, h2, h3, h4⟩
theorem cB_ (m : Nat) : ∀ (Ls : List (List Value)) (j i : Nat) (u : Value) (l : List Value), (∀ x ∈ Ls, x.length = m) -> Ls[j]? = some l -> i < m -> Ls.flatten.set (j * m + i) u = (Ls.set j (l.set i u)).flatten
 | [], j, i, u, l, h, hj, hi => by simp at hj
 | x :: Ls, 0, i, u, l, h, hj, hi => by
  simp at hj
  subst hj
  have hl := h x (by simp)
  simp only [List.flatten_cons, Nat.zero_mul, Nat.zero_add, List.set_cons_zero]
  rw [List.set_append_left _ _ (by omega)]
 | x :: Ls, j + 1, i, u, l, h, hj, hi => by
  have hl := h x (by simp)
  simp only [List.flatten_cons, List.set_cons_succ]
  rw [List.set_append_right _ _ (by rw [hl, Nat.succ_mul]; omega), hl, show (j + 1) * m + i - m = j * m + i by rw [Nat.succ_mul]; omega, cB_ m Ls j i u l (fun y hy => h y (by simp [hy])) (by simpa using hj) hi]
theorem bW_ (m : Nat) : ∀ (Ls : List (List Value)) (j i : Nat) (l : List Value), (∀ x ∈ Ls, x.length = m) -> Ls[j]? = some l -> i < m -> Ls.flatten[j * m + i]? = l[i]?
 | [], j, i, l, h, hj, hi => by simp at hj
 | x :: Ls, 0, i, l, h, hj, hi => by
  simp at hj
  subst hj
  have hl := h x (by simp)
  simp only [List.flatten_cons, Nat.zero_mul, Nat.zero_add]
  rw [aL (by omega)]
 | x :: Ls, j + 1, i, l, h, hj, hi => by
  have hl := h x (by simp)
  simp only [List.flatten_cons]
  rw [aR (by rw [hl, Nat.succ_mul]; omega), hl, show (j + 1) * m + i - m = j * m + i by rw [Nat.succ_mul]; omega, bW_ m Ls j i l (fun y hy => h y (by simp [hy])) (by simpa using hj) hi]
def aP_ (vals : Nat -> Value × Value) (i : Nat) (x : WrR) : List Value := cW_ x.key (vals i).1 (vals i).2 x.dl x.gone x.soft
def br_ (vals : Nat -> Value × Value) (ws : List WrR) : List Value := (ws.mapIdx (aP_ vals)).flatten
def edgC (e : ByteArray × ByteArray) : List Value := [.string e.1, .string e.2]
def bE_ (es : Edges) : List Value := (es.map edgC).flatten
theorem el_ {vals : Nat -> Value × Value} {ws : List WrR} : ∀ x ∈ ws.mapIdx (aP_ vals), x.length = 6 := fun x hx => by
 obtain ⟨i, hi⟩ := mI.1 hx
 rw [List.getElem?_mapIdx] at hi
 obtain ⟨y, _, rfl⟩ := Option.map_eq_some_iff.1 hi
 rfl
structure KS where
 wv : Value
 ev : Value
 vals : Nat -> Value × Value
structure LimP where
 n : Nat
 fx : Option (Nat × List Value)
instance : Coe LimP Nat := ⟨LimP.n⟩
structure KI (w : World) (lim : LimP) (K : Nat) (grace : Int) (ws : List WrR) (es : Edges) (s : KS) : Prop where
 row : RowL w K 145 [.int .u64 grace, s.wv, s.ev]
 isT : IsT grace
 own : w.ownsRow lim 233 6 s.wv ws.length (br_ s.vals ws)
 ownE : w.ownsRow lim 239 2 s.ev es.length (bE_ es)
 few : ws.length <= 5000
 fewE : es.length <= 5000
 times : ∀ x ∈ ws, IsT x.soft /\ IsT x.dl
 vals1 : ∀ (i : Nat) (x : WrR), ws[i]? = some x -> DatG w lim (s.vals i).1 x.val
 vals2 : ∀ (i : Nat) (x : WrR), ws[i]? = some x -> ∃ ts : List ByteArray, ts.length <= maxLen /\ w.ownsRow lim 9 1 (s.vals i).2 ts.length (ts.map Value.string) /\ ∀ t, t ∈ ts ↔ t ∈ x.tags
 lK : lim <= K
 lw : lim <= w.heap.size
 fix : ∀ g l, lim.fx = some (g, l) -> RowL w g 3 l
theorem KI.below {w w' : World} {lim : LimP} {K : Nat} {grace : Int} {ws : List WrR} {es : Edges} {s : KS} (h : KI w lim K grace ws es s) (hb : Bw w w') : KI w' lim K grace ws es s :=
 ⟨h.row.below hb h.row.lt, h.isT, (Kept.of_below (L := []) hb).own2 h.own (by simp), (Kept.of_below (L := []) hb).own2 h.ownE (by simp), h.few, h.fewE, h.times, fun i x hi => (h.vals1 i x hi).below hb h.lw, fun i x hi => by
    obtain ⟨ts, h0, h1, h2⟩ := h.vals2 i x hi
    exact ⟨ts, h0, (Kept.of_below (L := []) hb).own2 h1 (by simp), h2⟩, h.lK, lT h.lw hb.size, fun g l hg => (h.fix g l hg).below hb (h.fix g l hg).lt⟩
def RdE (w : World) (B K : Nat) (es : Edges) : Prop := K < B /\ ∃ A c, w.cell? ⟨K, 2, none⟩ = some (.slice A es.length c) /\ ∀ (i : Nat) (e : ByteArray × ByteArray), es[i]? = some e -> ∃ b, A = some ⟨b, 0, none⟩ /\ b < B /\ w.cell? ⟨b, i * 2, none⟩ = some (.string e.1) /\ w.cell? ⟨b, i * 2 + 1, none⟩ = some (.string e.2)
theorem RdE.below {w w' : World} {B B' K : Nat} {es : Edges} (h : RdE w B K es) (hb : Below B' w w') (hB : B <= B') : RdE w' B K es := by
 obtain ⟨h0, A, c, h1, h2⟩ := h
 refine ⟨h0, A, c, (hb.cell (p := ⟨K, 2, none⟩) (lL h0 hB)).trans h1, fun i e hi => ?_⟩
 obtain ⟨b, e1, e2, e3, e4⟩ := h2 i e hi
 exact ⟨b, e1, e2, (hb.cell (p := ⟨b, _, none⟩) (lL e2 hB)).trans e3, (hb.cell (p := ⟨b, _, none⟩) (lL e2 hB)).trans e4⟩
section
variable {w : World} {lim : LimP} {K : Nat} {grace : Int} {ws : List WrR} {es : Edges} {s : KS}
theorem KI.rdE (h : KI w lim K grace ws es s) : RdE w w.heap.size K es := by
 refine ⟨h.row.lt, ?_⟩
 have hc : w.cell? ⟨K, 2, none⟩ = some s.ev := h.row.cell (j := 2) rfl
 have ho := h.ownE
 rcases h.ownE.2 with ⟨h1, h2⟩ | ⟨g, cap, cur, h1, _, hg, _⟩
 ·rw [h1] at hc
  exact ⟨none, 0, by rw [hc, h2], fun i e hi => by
   have := (gS.1 hi).1
   omega⟩
 rw [h1] at hc ho
 refine ⟨_, cap, hc, fun i e hi => ?_⟩
 have hil := (gS.1 hi).1
 have hat : ∀ j, j < 2 -> (bE_ es)[i * 2 + j]? = (edgC e)[j]? := fun j hj => bW_ 2 _ i j (edgC e) (fun x hx => by obtain ⟨y, _, rfl⟩ := List.mem_map.1 hx; rfl) (by rw [gM, hi]; rfl) hj
 refine ⟨g, rfl, (Array.getElem?_eq_some_iff.1 hg).1, ?_, ?_⟩
 ·rw [ho.cellAt (i * 2) (by omega)]
  exact hat 0 (by omega)
 rw [ho.cellAt (i * 2 + 1) (by omega)]
 exact hat 1 (by omega)
theorem bo_ {i j : Nat} {x : WrR} (hi : ws[i]? = some x) (hj : j < 6) : (br_ s.vals ws)[i * 6 + j]? = (aP_ s.vals i x)[j]? :=
 bW_ 6 _ i j _ el_ (by rw [List.getElem?_mapIdx, hi]; rfl) hj
theorem KI.rd (h : KI w lim K grace ws es s) : RdK w w.heap.size K grace ws := by
 refine ⟨h.row.lt, h.isT, h.few, h.row.cell (j := 0) rfl, fun x hx => (h.times x hx).1, ?_⟩
 have hc : w.cell? ⟨K, 1, none⟩ = some s.wv := h.row.cell (j := 1) rfl
 have ho := h.own
 rcases h.own.2 with ⟨h1, h2⟩ | ⟨g, cap, cur, h1, _, hg, _⟩
 ·rw [h1] at hc
  exact ⟨none, 0, by rw [hc, h2], fun i e hi => by
   have := (gS.1 hi).1
   omega⟩
 rw [h1] at hc ho
 refine ⟨_, cap, hc, fun i x hi => ?_⟩
 have hil := (gS.1 hi).1
 obtain ⟨ts, h3, h4, h5⟩ := h.vals2 i x hi
 refine ⟨g, 0, (s.vals i).1, (s.vals i).2, rfl, (Array.getElem?_eq_some_iff.1 hg).1, fun j v hj => ?_, (h.vals1 i x hi).mono h.lw, ts, b7_ h4 h3, h5⟩
 have hj6 : j < 6 := (gS.1 hj).1
 rw [Nat.zero_add, Addr.add_mid, ho.cellAt (i * 6 + j) (by omega), bo_ hi hj6]
 exact hj
end
end Go.Proofs.YtnjhpgmbfblgaaaGreat.Ord
