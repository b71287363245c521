/- Maps keyed by strings, as functions: lookups, updates, deletes (turned from the text on. -/
import Derived.Test.YtnjhpgmbfblgaaaGreatMH13
import Derived.Test.YtnjhpgmbfblgaaaGreatMU6
import Derived.Test.YtnjhpgmbfblgaaaGreatMS6
set_option linter.unusedVariables false
set_option linter.unusedSimpArgs false
namespace Go.Proofs.YtnjhpgmbfblgaaaGreat.Ord
open Go.RowKit
theorem bbeq (a b : ByteArray) : (a == b) = decide (a = b) := by
 by_cases h : a = b
 ·rw [eT_ h]; exact (Go.MapKept.bytes_beq a b).2 h
 rw [eF h]
 cases hb : (a == b)
 ·rfl
 exact absurd ((Go.MapKept.bytes_beq a b).1 hb) h
theorem lz_ (a : ByteArray) : (a == a) = true := by rw [bbeq]; exact eT_ rfl
def isS : Value -> ByteArray -> Bool
 | .string a, k => decide (a = k)
 | _, _ => false
theorem ic_ {v : Value} {k : ByteArray} (h : v = .string k) : isS v k = true := by subst h; simp [isS]
theorem dB_ {v : Value} {k : ByteArray} (h : v ≠ .string k) : isS v k = false := by
 unfold isS
 split
 ·simp at h ⊢
  exact h
 rfl
def lkS : List MapEntry -> ByteArray -> Option Value
 | [], _ => none
 | e :: es, k => if isS e.key k = true then some e.val else lkS es k
def lD_ (es : List MapEntry) : Prop := (∀ x ∈ es, ∃ k, x.key = .string k) /\ es.Pairwise fun x y => x.key ≠ y.key
def KeysC (es : Array MapEntry) (c : Nat) : Prop := lD_ es.toList /\ Go.MapKept.Stamped es c
def MapS (w : World) (b : Nat) (f : ByteArray -> Option Value) : Prop := ∃ es clock, w.heap[b]? = some (.map es clock) /\ KeysC es clock /\ ∀ k, lkS es.toList k = f k
theorem MapS.congr {w : World} {b : Nat} {f g : ByteArray -> Option Value} (h : MapS w b f) (e : ∀ k, f k = g k) : MapS w b g := by
 obtain ⟨es, c, h1, h2, h3⟩ := h
 exact ⟨es, c, h1, h2, fun k => (h3 k).trans (e k)⟩
theorem MapS.of_block {w w' : World} {b : Nat} {f : ByteArray -> Option Value} (h : MapS w b f) (e : w'.heap[b]? = w.heap[b]?) : MapS w' b f := by
 obtain ⟨es, c, h1, h2⟩ := h
 exact ⟨es, c, e.trans h1, h2⟩
theorem MapS.lt {w : World} {b : Nat} {f : ByteArray -> Option Value} (h : MapS w b f) : b < w.heap.size := by
 obtain ⟨es, c, h1, _⟩ := h
 exact (Array.getElem?_eq_some_iff.1 h1).1
theorem MapS.new (w : World) : MapS (w.alloc (.map #[] 0)) w.heap.size fun _ => none := ⟨#[], 0, heap_alloc_new w _, ⟨⟨by simp, by simp⟩, Go.MapKept.stamped_empty 0⟩, fun k => rfl⟩
theorem ck_ (k : ByteArray) : ∀ (l : List MapEntry) (i : Nat), (∀ x ∈ l, ∃ k, x.key = .string k) ->
  (lkS l k = none /\ (∀ x ∈ l, x.key ≠ .string k) /\ Instr.findNow .string (.string k) l i = some none) ∨
  ∃ j e, l[j]? = some e /\ e.key = .string k /\ lkS l k = some e.val /\ Instr.findNow .string (.string k) l i = some (some (i + j, e.val))
 | [], i, _ => .inl ⟨rfl, by simp, rfl⟩
 | e :: l, i, h => by
  obtain ⟨a, ha⟩ := h e (by simp)
  by_cases hk : a = k
  ·subst hk
   refine .inr ⟨0, e, rfl, ha, by simp [lkS, ic_ ha], ?_⟩
   simp [Instr.findNow, Instr.sameNow, ha, lz_]
  have hne : (k == a) = false := by rw [bbeq]; exact eF fun e => hk e.symm
  have hik : isS e.key k = false := dB_ (by rw [ha]; simp [hk])
  rcases ck_ k l (i + 1) (fun x hx => h x (by simp [hx])) with ⟨h1, h2, h3⟩ | ⟨j, e', h1, h2, h3, h4⟩
  ·refine .inl ⟨by simp [lkS, hik, h1], fun x hx => ?_, by simp [Instr.findNow, Instr.sameNow, ha, hne, h3]⟩
   rcases List.mem_cons.1 hx with rfl | hx
   ·rw [ha]; simp [hk]
   exact h2 x hx
  refine .inr ⟨j + 1, e', by simpa using h1, h2, by simp [lkS, hik, h3], ?_⟩
  simp only [Instr.findNow, Instr.sameNow, ha, if_true, hne, h4]
  congr 3
  omega
theorem iP_ (l : List MapEntry) (e : MapEntry) (k k' : ByteArray) (hk : e.key = .string k) (h : ∀ x ∈ l, x.key ≠ .string k) : lkS (l ++ [e]) k' = if k' = k then some e.val else lkS l k' := by
 induction l with
 | nil =>
  simp only [List.nil_append, lkS]
  by_cases h1 : k' = k
  ·subst h1; simp [ic_ hk]
  simp [h1, dB_ (v := e.key) (k := k') (by rw [hk]; simp; exact fun e => h1 e.symm)]
 | cons a l ih =>
  have ih := ih fun x hx => h x (by simp [hx])
  have ha := h a (by simp)
  simp only [List.cons_append, lkS, ih]
  by_cases h1 : k' = k
  ·subst h1
   rw [dB_ ha]
   rfl
  rw [if_neg h1, if_neg h1]
theorem fI_ (l : List MapEntry) (j : Nat) (e : MapEntry) (v : Value) (k k' : ByteArray) (hp : l.Pairwise fun x y => x.key ≠ y.key) (hj : l[j]? = some e) (hk : e.key = .string k) : lkS (l.modify j fun e => { e with key := .string k, val := v }) k' = if k' = k then some v else lkS l k' := by
 induction l generalizing j with
 | nil => simp at hj
 | cons a l ih =>
  cases j with
  | zero =>
   simp at hj
   subst hj
   simp only [List.modify_zero_cons, lkS]
   by_cases h1 : k' = k
   ·subst h1; simp [isS]
   have hn : ∀ v : Value, v = .string k -> isS v k' = false := fun v hv => dB_ (by rw [hv]; simp; exact fun e => h1 e.symm)
   simp [h1, hn _ rfl, hn _ hk]
  | succ j =>
   have hj' : l[j]? = some e := by simpa using hj
   have ih := ih j (List.pairwise_cons.1 hp).2 hj'
   have hne : a.key ≠ .string k := by
    have := (List.pairwise_cons.1 hp).1 e (mI.2 ⟨j, hj'⟩)
    rwa [hk] at this
   simp only [List.modify_succ_cons, lkS, ih]
   by_cases h1 : k' = k
   ·subst h1
    rw [dB_ hne]
    simp
   simp [h1]
theorem dO_ (l : List MapEntry) (j : Nat) (e : MapEntry) (v : Value) (k : ByteArray) (hj : l[j]? = some e) (hk : e.key = .string k) : (l.modify j fun e => { e with key := .string k, val := v }).map (·.key) = l.map (·.key) := by
 induction l generalizing j with
 | nil => simp at hj
 | cons a l ih =>
  cases j with
  | zero =>
   simp at hj
   subst hj
   simp [hk]
  | succ j => simp [ih j (by simpa using hj)]
theorem ha_ {l l' : List MapEntry} (h : l'.map (·.key) = l.map (·.key)) (hk : lD_ l) : lD_ l' := by
 have hp : ∀ l : List MapEntry, (l.Pairwise fun x y => x.key ≠ y.key) ↔ (l.map (·.key)).Pairwise (· ≠ ·) := fun l => by rw [List.pairwise_map]
 refine ⟨fun x hx => ?_, (hp l').2 (h ▸ (hp l).1 hk.2)⟩
 have hm : x.key ∈ l.map (·.key) := by rw [<- h]; exact List.mem_map_of_mem hx
 obtain ⟨y, hy, e⟩ := List.mem_map.1 hm
 obtain ⟨k, hk⟩ := hk.1 y hy
 exact ⟨k, by rw [<- e, hk]⟩
section
variable {P : Program} {w : World} {T K E : TypeId} {b : Nat} {f : ByteArray -> Option Value}
theorem MapS.run_lookup (h : MapS w b f) (hT : P.underlying T = some (.map K E)) (hK : P.underlying K = some .string) (z : Value) (hz : (zeroValue E).run P w = .ok z w) (k : ByteArray) :
  (Instr.lookup T (.map (some b)) (.string k) false).run P w = .ok ((f k).getD z) w := by
 obtain ⟨es, c, hb, hk, hf⟩ := h
 have h1 := Go.MapKept.run_getObj_map (P := P) hb
 have h2 : ∀ e, (Instr.checkKey e 10000 K (.string k)).run P w = .ok () w := fun e => Go.MapKept.run_checkKey hK (by simp [Go.MapKept.IsKey]) e 9999
 rcases ck_ k es.toList 0 hk.1.1 with ⟨g1, g2, g3⟩ | ⟨j, e, g1, g2, g3, g4⟩
 ·have h3 := Go.MapKept.run_findKey (P := P) (w := w) hK g3
  rw [<- hf k, g1]
  unfold Instr.lookup
  rw [Sem.run_bind, run_underlying hT]
  simp [Sem.run_bind, h1, h2, h3, hz]
 have h3 := Go.MapKept.run_findKey (P := P) (w := w) hK g4
 rw [<- hf k, g3]
 unfold Instr.lookup
 rw [Sem.run_bind, run_underlying hT]
 simp [Sem.run_bind, h1, h2, h3]
theorem MapS.run_update (h : MapS w b f) (hT : P.underlying T = some (.map K E)) (hK : P.underlying K = some .string) (k : ByteArray) (v : Value) :
  ∃ w', (Instr.mapUpdate T (.map (some b)) (.string k) v).run P w = .ok () w' /\ Kept [b] w w' /\ MapS w' b fun k' => if k' = k then some v else f k' := by
 have hlt := h.lt
 obtain ⟨es, c, hb, hk, hf⟩ := h
 have h1 := Go.MapKept.run_getObj_map (P := P) hb
 have h2 : (Instr.checkKey false 10000 K (.string k)).run P w = .ok () w := Go.MapKept.run_checkKey hK (by simp [Go.MapKept.IsKey]) false 9999
 rcases ck_ k es.toList 0 hk.1.1 with ⟨g1, g2, g3⟩ | ⟨j, e, g1, g2, g3, g4⟩
 ·have h3 := Go.MapKept.run_findKey (P := P) (w := w) hK g3
  have h4 := Go.MapKept.run_setObj_map (P := P) (.map (es.push { key := .string k, val := v, born := c }) (c + 1)) hb
  refine ⟨World.withMap w b (es.push { key := .string k, val := v, born := c }) (c + 1), ?_, a6_ _ _ _ _, _, _, a3_ hlt _ _, ⟨⟨?_, ?_⟩, Go.MapKept.stamped_push hk.2 g2⟩, fun k' => ?_⟩
  ·unfold Instr.mapUpdate
   rw [Sem.run_bind, run_underlying hT]
   simp [Sem.run_bind, h1, h2, h3, h4, World.withMap]
  ·intro x hx
   rw [Array.toList_push] at hx
   rcases List.mem_append.1 hx with hx | hx
   ·exact hk.1.1 x hx
   simp at hx; subst hx; exact ⟨k, rfl⟩
  ·rw [Array.toList_push, List.pairwise_append]
   exact ⟨hk.1.2, by simp, fun x hx y hy => by simp at hy; subst hy; exact g2 x hx⟩
  rw [Array.toList_push, iP_ es.toList _ k k' rfl g2, hf k']
 have h3 := Go.MapKept.run_findKey (P := P) (w := w) hK g4
 have h4 := Go.MapKept.run_setObj_map (P := P) (.map (es.modify j fun e => { e with key := .string k, val := v }) c) hb
 have h5 : (es[j]?.map (·.key)).getD (.string k) = .string k := by
  have : es[j]? = some e := by simpa using g1
  rw [this]
  simp [g2]
 have h6 := Go.MapKept.run_keyThatStays (P := P) (w := w) (d := .string) (k := .string k) (by simp [Go.MapKept.IsKey])
 have e1 : (es.modify j fun e => { e with key := .string k, val := v }).toList = es.toList.modify j fun e => { e with key := .string k, val := v } := by simp
 refine ⟨World.withMap w b (es.modify j fun e => { e with key := .string k, val := v }) c, ?_, a6_ _ _ _ _, _, _, a3_ hlt _ _, ⟨?_, Go.MapKept.stamped_modify hk.2 j _ (fun e _ => rfl) fun e' he' hj' => ?_⟩, fun k' => ?_⟩
 ·unfold Instr.mapUpdate
  rw [Sem.run_bind, run_underlying hT]
  simp only [Result.andThen_ok, Sem.run_bind, h1, h2, h3, Nat.zero_add, h5, h6, h4]
  rfl
 ·rw [e1]
  exact ha_ (dO_ _ _ _ _ _ g1 g2) hk.1
 ·have : es[j]? = some e := by simpa using g1
  rw [this] at hj'
  cases hj'
  exact g2.symm
 rw [e1, fI_ es.toList j e v k k' hk.1.2 g1 g2, hf k']
end
set_option maxRecDepth 100000
set_option maxHeartbeats 8000000
def aN_ (ws : List WrR) (k : ByteArray) : Option Nat := ws.zipIdx.foldl (fun a p => if p.1.key = k then some p.2 else a) none
theorem dA_ (ws : List WrR) (x : WrR) (k : ByteArray) : aN_ (ws ++ [x]) k = if x.key = k then some ws.length else aN_ ws k := by
 unfold aN_
 rw [List.zipIdx_append, List.foldl_append]
 simp
theorem bD_ : ∀ (ws : List WrR) (k : ByteArray) (i : Nat), aN_ ws k = some i -> ∃ x, ws[i]? = some x /\ x.key = k := by
 intro ws
 obtain ⟨rs, rfl⟩ : ∃ rs : List WrR, rs.reverse = ws := ⟨ws.reverse, by simp⟩
 induction rs with
 | nil => intro k i h; simp [aN_] at h
 | cons x rs ih =>
  intro k i h
  rw [List.reverse_cons] at h ⊢
  generalize rs.reverse = ws at *
  rw [dA_] at h
  by_cases e : x.key = k
  ·rw [if_pos e] at h
   cases h
   exact ⟨x, by simp, e⟩
  rw [if_neg e] at h
  obtain ⟨y, h1, h2⟩ := ih k i h
  have hl := (gS.1 h1).1
  exact ⟨y, by rw [aL hl]; exact h1, h2⟩
def dG_ (grace : Int) (ws : List WrR) (k : ByteArray) (now : Int) : Int :=
 match aN_ ws k with
 | none => 1
 | some i => match ws[i]? with
  | none => 1
  | some y => if y.gone ≠ 0 then y.gone else if cc_ now y.dl y.soft grace = 0 then 4 else 0
structure LastM (w : World) (B J : Nat) (ws : List WrR) (ps : List Nat) : Prop where
 map : ∃ M, M < B /\ w.cell? ⟨J, 2, none⟩ = some (.map (some M)) /\ MapS w M fun k => (aN_ ws k).map fun i => ptV (ps.getD i 0)
theorem LastM.below {w w' : World} {B B' J : Nat} {ws : List WrR} {ps : List Nat} (h : LastM w B J ws ps) (hJ : J < B) (hb : Below B' w w') (hB : B <= B') : LastM w' B J ws ps := by
 obtain ⟨M, h1, h2, h3⟩ := h.map
 exact ⟨M, h1, (hb.cell (p := ⟨J, 2, none⟩) (lL hJ hB)).trans h2, h3.of_block (hb.block M (lL h1 hB))⟩
theorem there128 (J : Nat) (grace : Int) (ws : List WrR) (ps : List Nat) (k : ByteArray) (now : Int) (w : World) (hJ : RdJ w w.heap.size J grace ws ps) (hL : LastM w w.heap.size J ws ps) :
  Calls Tryz.prog 128 #[ptV J, .string k, .int .u64 now] w (RetB (.int .i64 (dG_ grace ws k now)) w) := by
 obtain ⟨m, hm⟩ := eY (dG_ grace ws k now)
 rw [hm]
 unfold dG_ at hm
 obtain ⟨M, hM, hc, hmap⟩ := hL.map
 have hlk := hmap.run_lookup Tryz.underlying134 Tryz.underlying9 (.pointer none) (Tryz.zeroValue217 w) k
 clear hmap
 unfold ptV at *
 cases hli : aN_ ws k with
 | none =>
  rw [hli] at hm hlk
  simp only at hm
  subst hm
  have hlk2 : (Instr.lookup 134 (.map (some M)) (.string k) false).run Tryz.prog w = .ok (.pointer none) w := hlk
  clear hlk hli hJ hL hM
  go_enter Tryz.func128, Tryz.ntmps128
  go_wp2_with fail
  go_ret
  exact ⟨rfl, BR _ _⟩
 | some i =>
  rw [hli] at hm hlk
  obtain ⟨y, hy, hyk⟩ := bD_ ws k i hli
  obtain ⟨hsoft, p, vv, vt, hp, hpB, hcp, -, -⟩ := hJ.wrs i y hy
  simp only [hy] at hm
  have hlk2 : (Instr.lookup 134 (.map (some M)) (.string k) false).run Tryz.prog w = .ok (.pointer (some ⟨p, 0, none⟩)) w := by
   have e : ps.getD i 0 = p := by simp [List.getD, hp]
   simp only [Option.map_some, Option.getD_some, e] at hlk
   exact hlk
  clear hlk
  obtain ⟨d0, d1, d2, d3, d4, d5⟩ := cR_ (off := 0) hcp
  have H190 := kp (kM_ J p now y.dl y.soft grace hsoft hJ.isT w hJ.grc d3 d4)
  obtain ⟨gone, hg⟩ := eY y.gone
  obtain ⟨mk, hmk⟩ := eY (cc_ now y.dl y.soft grace)
  rw [hmk] at H190 hm
  rw [hg] at hm d5
  have d5 : w.cell? ⟨p, 5, none⟩ = some (.int .i64 gone) := d5
  have HM := kp hm
  clear hmk hg hm hli hJ hL hM hy hyk hp hpB hcp hsoft d0 d1 d2 d3 d4
  by_cases hg0 : gone = 0
  ·have g7 : (gone != 0) = false := by simp [hg0]
   have HM := kp ((if_neg (by simp [hg0])).symm.trans HM.o)
   clear hg0
   go_enter Tryz.func128, Tryz.ntmps128
   go_wp2_with fail
   refine H190.o.mono ?_
   rintro e w1 ⟨rfl, hb⟩
   have HB := kp hb
   clear hb
   by_cases hmm : mk = 0
   ·have g8 : (mk == 0) = true := by simp [hmm]
    obtain rfl : 4 = m := by rw [<- HM.o, if_pos hmm]
    clear hmm
    go_wp2_with fail
    go_ret
    exact ⟨rfl, HB.o⟩
   have g8 : (mk == 0) = false := by simpa using hmm
   obtain rfl : 0 = m := by rw [<- HM.o, if_neg hmm]
   clear hmm
   go_wp2_with fail
   go_ret
   exact ⟨rfl, HB.o⟩
  have g7 : (gone != 0) = true := by simpa using hg0
  obtain rfl : gone = m := by rw [<- HM.o, if_pos hg0]
  clear hg0
  go_enter Tryz.func128, Tryz.ntmps128
  go_wp2_with fail
  go_ret
  exact ⟨rfl, BR _ _⟩
def jG_ : Option Nat -> Int
 | none => -1
 | some i => i
theorem em_ (J : Nat) (grace : Int) (ws : List WrR) (key : ByteArray) (B : Nat) (w : World) (hJ : RdK w B J grace ws) :
  Calls Tryz.prog 87 #[ptV J, .string key] w (bX_ (.int .i64 (jG_ (aN_ ws key))) w) := by
 obtain ⟨A, c, hrow, hel⟩ := hJ.row
 obtain ⟨n, hn⟩ := eY ws.length
 have hn5 : n <= 5000 := by rw [<- hn]; exact hJ.few
 rw [hn] at hrow
 obtain ⟨res, hres⟩ := eY (jG_ (aN_ ws key))
 rw [hres]
 obtain ⟨HR, HE, HN⟩ := kq3 hres hel hn
 clear hres hel hn hJ
 unfold ptV
 go_enter Tryz.func87, Tryz.ntmps87
 go_wp2_with fail
 go_loopw [5] (fun s5 wr => ∃ k : Nat, k <= n /\ s5 = .int .i64 ((k : Int) - 1) /\ Hid (aN_ ws key = aN_ (ws.take k) key) /\ wr = w) (fun j _ => (intOf j + 1).toNat)
 case atStart => exact ⟨n, lR _, by go_num, kp (by rw [<- HN.o, List.take_length]), rfl⟩
 obtain ⟨k, hk, rfl, Aa, rfl⟩ := hrel
 by_cases hk0 : k = 0
 ·subst hk0
  have hg : decide ((0 : Int) <= ((0 : Nat) : Int) - 1) = false := by simp
  have HF := kp (show (-1 : Int) = res by rw [<- HR.o, Aa.o]; rfl)
  go_wp2_with fail
  go_ret
  rw [HF.o]
  exact ⟨rfl, rfl⟩
 obtain ⟨i, rfl⟩ : ∃ i, k = i + 1 := ⟨k - 1, by omega⟩
 have e1 : (((i + 1 : Nat) : Int) - 1) = (i : Int) := by omega
 rw [e1]
 have hin : i < n := by omega
 have hg : decide ((0 : Int) <= (i : Int)) = true := eT_ (by omega)
 have hi1 : (i : Int) < (n : Int) := by omega
 obtain ⟨x, hx⟩ : ∃ x, ws[i]? = some x := ⟨ws[i]'(by rw [HN.o]; exact hin), gE _⟩
 obtain ⟨b, o, vv, vt, rfl, hbB, hc, -, -⟩ := HE.o i x hx
 obtain ⟨d0, -, -, -, -, -⟩ := cR_ hc
 have HS := kp (show aN_ ws key = if x.key = key then some i else aN_ (ws.take i) key by
  have hl : (ws.take i).length = i := by rw [List.length_take, HN.o]; omega
  rw [Aa.o, tA, hx]
  show aN_ (ws.take i ++ [x]) key = _
  rw [dA_, hl])
 obtain ⟨xk, hxk⟩ := eY x.key
 rw [hxk] at HS d0
 clear hx hxk hbB hc hk0 e1
 by_cases hxy : xk = key
 ·subst hxy
  have h2 := aQ_ xk
  have HF := kp (show (i : Int) = res by rw [<- HR.o, HS.o, if_pos rfl]; rfl)
  go_wp2_with fail
  go_ret
  rw [<- HF.o]
  exact ⟨rfl, rfl⟩
 have h2 : (xk.toList == key.toList) = false := bl_ hxy
 have Ab := kp (show aN_ ws key = aN_ (ws.take i) key by rw [HS.o, if_neg hxy])
 go_wp2_with fail
 go_roundw
 case rel => exact ⟨i, by omega, by go_num, Ab, trivial⟩
 simp [intOf]
theorem index191 (A : Option Addr) (n c B : Nat) (xs : List ByteArray) (s : ByteArray) (w : World) (hn : xs.length = n) (hl : n <= maxLen) (hA : ElV Value.string w B A xs) :
  Calls Tryz.prog 191 #[.slice A n c, .string s] w fun e w' => (∃ i : Int, e = .returned (.int .i64 i) /\ decide (0 <= i) = hasS xs s) /\ w' = w := by
 have hn' : n <= 9223372036854775807 := by unfold maxLen at hl; omega
 obtain ⟨HN, HA⟩ := kq2 hn hA
 clear hA hn hl
 go_enter Tryz.func191, Tryz.ntmps191
 go_wp2_with fail
 go_loopw [8] (fun j wr => ∃ k : Nat, k <= n /\ j = .int .i64 k /\ Hid (s ∉ xs.take k) /\ wr = w) (fun j _ => n - (intOf j).toNat)
 case atStart => exact ⟨0, Nat.zero_le _, by go_num, kp (by simp), rfl⟩
 obtain ⟨k, hk, rfl, HE, rfl⟩ := hrel
 by_cases hlt : k < n
 ·obtain ⟨x, hx⟩ : ∃ x, xs[k]? = some x := ⟨xs[k]'(by rw [HN.o]; exact hlt), gE _⟩
  obtain ⟨b, o, rfl, hbX, c1⟩ := HA.o k x hx
  have HX := kp hx
  clear hx
  have hg : decide ((k : Int) < (n : Int)) = true := by simp; omega
  have hi1 : (k : Int) < (n : Int) := by omega
  by_cases hxy : s = x
  ·subst hxy
   have h2 := aQ_ s
   have HT := kp (show decide ((0 : Int) <= (k : Int)) = hasS xs s from by rw [hasS_iff.2 (mG HX.o)]; exact eT_ (by omega))
   go_wp2_with fail
   go_ret
   exact ⟨⟨_, rfl, HT.o⟩, rfl⟩
  have h2 : (s.toList == x.toList) = false := bl_ hxy
  have Aa := kp (show s ∉ xs.take (k + 1) from by
   rw [tA, HX.o]
   simp only [Option.toList, List.mem_append, List.mem_cons, List.not_mem_nil, or_false, not_or]
   exact ⟨HE.o, hxy⟩)
  go_wp2_with fail
  go_roundw
  case rel => exact ⟨k + 1, by omega, by go_num, Aa, trivial⟩
  simp [intOf]; omega
 obtain rfl : k = n := by omega
 have hg : decide ((k : Int) < (k : Int)) = false := by simp
 have HF := kp (show decide ((0 : Int) <= (-1 : Int)) = hasS xs s from by
  have h := HE.o
  rw [<- HN.o, List.take_length] at h
  rw [ie_ h]
  rfl)
 go_wp2_with fail
 go_ret
 exact ⟨⟨_, rfl, HF.o⟩, rfl⟩
theorem ii_ (A : Option Addr) (n c B : Nat) (xs : List ByteArray) (s : ByteArray) (w : World) (hn : xs.length = n) (hl : n <= maxLen) (hA : ElV Value.string w B A xs) :
  Calls Tryz.prog 130 #[.slice A n c, .string s] w (bX_ (.bool (hasS xs s)) w) := by
 have H := kp (index191 A n c B xs s w hn hl hA)
 obtain ⟨r, hr⟩ := eY (hasS xs s)
 rw [hr] at H ⊢
 clear hr hn hl hA
 go_enter Tryz.func130, Tryz.ntmps130
 go_wp2_with fail
 refine H.o.mono ?_
 rintro e w1 ⟨⟨i, rfl, hi⟩, rfl⟩
 obtain ⟨w, rfl⟩ := eX w1
 go_wp2_with fail
 go_ret
 exact ⟨rfl, rfl⟩
def hasP (s p : ByteArray) : Bool := decide (p.size <= s.size) && ((s.extract 0 p.size).toList == p.toList)
theorem kv_ (s p : ByteArray) (w : World) : Calls Tryz.prog 253 #[.string s, .string p] w (bX_ (.bool (hasP s p)) w) := by
 obtain ⟨r, hr⟩ := eY (hasP s p)
 rw [hr]
 unfold hasP at hr
 by_cases h : p.size <= s.size
 ·have g : decide ((p.size : Int) <= (s.size : Int)) = true := eT_ (by omega)
  have h2 : (p.size : Int) <= (s.size : Int) := by omega
  obtain rfl : ((s.extract 0 p.size).toList == p.toList) = r := by rw [<- hr, eT_ h]; rfl
  clear hr
  go_enter Tryz.func253, Tryz.ntmps253
  go_wp2_with fail
  go_ret
  exact ⟨rfl, rfl⟩
 have g : decide ((p.size : Int) <= (s.size : Int)) = false := eF (by omega)
 obtain rfl : false = r := by rw [<- hr, eF h]; rfl
 clear hr
 go_enter Tryz.func253, Tryz.ntmps253
 go_wp2_with fail
 go_ret
 exact ⟨rfl, rfl⟩
theorem kn_ (s p : ByteArray) (w : World) : Calls Tryz.prog 148 #[.string s, .string p] w (bX_ (.bool (hasP s p)) w) := by
 obtain ⟨r, hr⟩ := eY (hasP s p)
 rw [hr]
 unfold hasP at hr
 by_cases h : p.size <= s.size
 ·have g : decide ((p.size : Int) <= (s.size : Int)) = true := eT_ (by omega)
  have h2 : (p.size : Int) <= (s.size : Int) := by omega
  obtain rfl : ((s.extract 0 p.size).toList == p.toList) = r := by rw [<- hr, eT_ h]; rfl
  clear hr
  go_enter Tryz.func148, Tryz.ntmps148
  go_wp2_with fail
  go_ret
  exact ⟨rfl, rfl⟩
 have g : decide ((p.size : Int) <= (s.size : Int)) = false := eF (by omega)
 obtain rfl : false = r := by rw [<- hr, eF h]; rfl
 clear hr
 go_enter Tryz.func148, Tryz.ntmps148
 go_wp2_with fail
 go_ret
 exact ⟨rfl, rfl⟩
theorem kw_ (s p : ByteArray) (w : World) : Calls Tryz.prog 196 #[.string s, .string p] w (bX_ (.bool (hasP s p)) w) := by
 have H := kp (kv_ s p w)
 obtain ⟨r, hr⟩ := eY (hasP s p)
 rw [hr] at H ⊢
 clear hr
 go_enter Tryz.func196, Tryz.ntmps196
 go_wp2_with fail
 refine H.o.mono ?_
 rintro e w1 ⟨rfl, rfl⟩
 go_wp2_with fail
 go_ret
 exact ⟨rfl, rfl⟩
theorem has137 (s p : ByteArray) (w : World) : Calls Tryz.prog 137 #[.string s, .string p] w (bX_ (.bool (hasP s p)) w) := by
 have H := kp (kw_ s p w)
 obtain ⟨r, hr⟩ := eY (hasP s p)
 rw [hr] at H ⊢
 clear hr
 go_enter Tryz.func137, Tryz.ntmps137
 go_wp2_with fail
 refine H.o.mono ?_
 rintro e w1 ⟨rfl, rfl⟩
 go_wp2_with fail
 go_ret
 exact ⟨rfl, rfl⟩
set_option maxHeartbeats 4000000
abbrev Edges := List (ByteArray × ByteArray)
def kids (es : Edges) (k : ByteArray) : List ByteArray := (es.filter fun e => decide (e.1 = k)).map (·.2)
theorem mem_kids {es : Edges} {k c : ByteArray} : c ∈ kids es k ↔ (k, c) ∈ es := by
 unfold kids
 simp only [List.mem_map, List.mem_filter, decide_eq_true_eq]
 constructor
 ·rintro ⟨⟨a, b⟩, ⟨h1, rfl⟩, rfl⟩; exact h1
 intro h; exact ⟨(k, c), ⟨h, rfl⟩, rfl⟩
def Reach (es : Edges) (k x : ByteArray) : Prop := ∀ P : ByteArray -> Prop, P k -> (∀ a c, P a -> c ∈ kids es a -> P c) -> P x
theorem Reach.refl (es : Edges) (k : ByteArray) : Reach es k k := fun P h _ => h
theorem Reach.trans {es : Edges} {a b c : ByteArray} (h : Reach es a b) (h' : Reach es b c) : Reach es a c := fun P ha hs => h' P (h P ha hs) hs
theorem Reach.kid {es : Edges} {a c : ByteArray} (h : c ∈ kids es a) : Reach es a c := fun P ha hs => hs a c ha h
theorem Reach.closed {es : Edges} {k x : ByteArray} (h : Reach es k x) {S : List ByteArray} (hk : k ∈ S) (hc : ∀ a ∈ S, ∀ c ∈ kids es a, c ∈ S) : x ∈ S := h (· ∈ S) hk fun a c ha => hc a ha c
def bC_ (S : List ByteArray) (x : WrR) : WrR := if x.gone = 0 /\ hasS S x.key = true then { x with gone := 3 } else x
def a2_ (S : List ByteArray) (ws : List WrR) : List WrR := ws.map (bC_ S)
theorem bq_ {S T : List ByteArray} (h : ∀ x, x ∈ S ↔ x ∈ T) (k : ByteArray) : hasS S k = hasS T k := by
 cases hT : hasS T k
 ·exact ie_ fun e => by rw [hasS_iff.2 ((h k).1 e)] at hT; cases hT
 exact hasS_iff.2 ((h k).2 (hasS_iff.1 hT))
theorem h5_ {S T : List ByteArray} (h : ∀ x, x ∈ S ↔ x ∈ T) (ws : List WrR) : a2_ S ws = a2_ T ws := by
 unfold a2_
 congr 1
 funext x
 unfold bC_
 rw [bq_ h]
def bm_ (U S : List ByteArray) : Nat := (U.filter fun x => !hasS S x).length
theorem kY_ {S T : List ByteArray} (h : ∀ x ∈ S, x ∈ T) {x : ByteArray} (hx : hasS S x = true) : hasS T x = true := hasS_iff.2 (h x (hasS_iff.1 hx))
theorem ec_ {U S T : List ByteArray} (h : ∀ x ∈ S, x ∈ T) : bm_ U T <= bm_ U S := by
 unfold bm_
 induction U with
 | nil => simp
 | cons a U ih =>
  simp only [List.filter_cons]
  cases hT : hasS T a
  ·cases hS : hasS S a
   ·simp; exact ih
   rw [kY_ h hS] at hT; cases hT
  cases hS : hasS S a <;> simp <;> omega
theorem c7_ {U S : List ByteArray} {k : ByteArray} (hk : k ∈ U) (hS : hasS S k = false) : bm_ U (k :: S) < bm_ U S := by
 induction U with
 | nil => cases hk
 | cons a U ih =>
  have hm : bm_ U (k :: S) <= bm_ U S := ec_ fun x hx => mM _ hx
  have e : ∀ T, bm_ (a :: U) T = (if hasS T a = true then 0 else 1) + bm_ U T := fun T => by
   unfold bm_
   simp only [List.filter_cons]
   cases hasS T a <;> simp <;> omega
  rw [e, e]
  by_cases hak : a = k
  ·subst hak
   rw [hS, if_pos (hasS_iff.2 (by simp))]
   simp
   omega
  have hk' : k ∈ U := by
   rcases List.mem_cons.1 hk with h | h
   ·exact absurd h.symm hak
   exact h
  have h1 := ih hk'
  have h2 : hasS (k :: S) a = hasS S a := by
   unfold hasS
   simp only [List.any_cons]
   rw [eF (fun h => hak h.symm)]
   rfl
  rw [h2]
  omega
section
variable {P : Program}
theorem bK_ {w : World} {ops : Array Oper} {o : Oper} {a : Act} {K : Act -> World -> Prop} {Q : Exit -> Act -> World -> Prop} {E : Prop} (hgd : o.guard = none) (T kT eT : TypeId) (x y z : Operand) (ho : o.op = .mapUpdate T x y z)
  (b : Nat) (k : ByteArray) (v : Value) (hx : a.eval x = .map (some b)) (hy : a.eval y = .string k) (hz : a.eval z = v) (f : ByteArray -> Option Value) (hm : MapS w b f)
  (hT : P.underlying T = some (.map kT eT)) (hK : P.underlying kT = some .string)
  (h : ∀ w', Kept [b] w w' -> MapS w' b (fun k' => if k' = k then some v else f k') -> K (a.put o.dst undef) w') :
  if Region.wanted o (yielded ops a.tmps) = true then Oper.wp P o a w K Q else E := by
 rw [if_pos (show Region.wanted o (yielded ops a.tmps) = true by simp [Region.wanted, hgd])]
 obtain ⟨w', h1, h2, h3⟩ := hm.run_update (P := P) hT hK k v
 unfold Oper.wp execOp
 simp only [ho, hx, hy, hz, Sem.run_bind, Sem.run_pure, Result.andThen_ok, h1]
 exact h w' h2 h3
theorem b0_ {w : World} {ops : Array Oper} {rest : List Oper} {o : Oper} {a : Act} {Q : Exit -> Act -> World -> Prop} (hgd : o.guard = none) (T kT eT : TypeId) (x y z : Operand) (ho : o.op = .mapUpdate T x y z)
  (b : Nat) (k : ByteArray) (v : Value) (hx : a.eval x = .map (some b)) (hy : a.eval y = .string k) (hz : a.eval z = v) (f : ByteArray -> Option Value) (hm : MapS w b f)
  (hT : P.underlying T = some (.map kT eT)) (hK : P.underlying kT = some .string)
  (h : ∀ w', Kept [b] w w' -> MapS w' b (fun k' => if k' = k then some v else f k') -> wpList P ops Q rest (a.put o.dst undef) w') : wpList P ops Q (o :: rest) a w :=
 wpList_step fun K hK' => bK_ hgd T kT eT x y z ho b k v hx hy hz f hm hT hK fun w' a1 a2 => hK' _ _ (h w' a1 a2)
end
theorem Kept.drop2 {L L' : List Nat} {w w' : World} (h : Kept L w w') (hL : ∀ k ∈ L, k < w.heap.size -> k ∈ L') : Kept L' w w' := ⟨h.os, h.tape, h.output, h.size, fun k hk hn => h.block k hk fun hm => hn (hL k hm hk)⟩
structure VC where
 wb : World
 sb : Nat
 jb : Nat
 vb : Nat
 J : Nat
 M : Nat
 C : Nat
 Ms : Nat
 B : Nat
 f : ByteArray -> Option Value
 ws : List WrR
 es : Edges
 ps : List Nat
 vals : Nat -> Value × Value
def VC.clo (c : VC) : Value := .func (.func 192) #[] #[.pointer (some ⟨c.sb, 0, none⟩), .pointer (some ⟨c.jb, 0, none⟩), .pointer (some ⟨c.vb, 0, none⟩)]
def VC.free (c : VC) (b : Nat) : Prop := b < c.wb.heap.size /\ b ∉ c.Ms :: c.ps
structure VB (c : VC) : Prop where
 sbC : c.wb.cell? ⟨c.sb, 0, none⟩ = some (.map (some c.Ms))
 jbC : c.wb.cell? ⟨c.jb, 0, none⟩ = some (.pointer (some ⟨c.J, 0, none⟩))
 vbC : c.wb.cell? ⟨c.vb, 0, none⟩ = some c.clo
 lastC : c.wb.cell? ⟨c.J, 2, none⟩ = some (.map (some c.M))
 chC : c.wb.cell? ⟨c.J, 3, none⟩ = some (.map (some c.C))
 lastM : MapS c.wb c.M fun k => (aN_ c.ws k).map fun i => ptV (c.ps.getD i 0)
 chM : MapS c.wb c.C c.f
 kidsV : ∀ k, (∃ v, c.f k = some v /\ SlV Value.string c.wb c.B v (kids c.es k) /\ ∀ b o n m, v = .slice (some ⟨b, o, none⟩) n m -> c.free b) ∨ (c.f k = none /\ kids c.es k = [])
 fsb : c.free c.sb
 fjb : c.free c.jb
 fvb : c.free c.vb
 fJ : c.free c.J
 fM : c.free c.M
 fC : c.free c.C
 lMs : c.Ms < c.wb.heap.size
 lps : ∀ p ∈ c.ps, p < c.wb.heap.size /\ p ≠ c.Ms
 nd : c.ps.Nodup
 len : c.ps.length = c.ws.length
 only : ∀ (i : Nat) (x : WrR), c.ws[i]? = some x -> x.gone = 0 -> aN_ c.ws x.key = some i
structure VS (c : VC) (w : World) (S : List ByteArray) : Prop where
 kept : Kept (c.Ms :: c.ps) c.wb w
 seen : MapS w c.Ms fun k => if hasS S k = true then some (.bool true) else none
 wrs : ∀ (i : Nat) (x : WrR) (p : Nat), c.ws[i]? = some x -> c.ps[i]? = some p -> RowL w p 220 (wrL (bC_ S x) (c.vals i).1 (c.vals i).2)
theorem VS.cell {c : VC} {w : World} {S : List ByteArray} (h : VS c w S) {b j : Nat} {v : Value} (hb : c.free b) (hv : c.wb.cell? ⟨b, j, none⟩ = some v) : w.cell? ⟨b, j, none⟩ = some v := by
 rw [<- hv]
 exact World.cell?_of_block (h.kept.block b hb.1 hb.2)
theorem VS.map {c : VC} {w : World} {S : List ByteArray} (h : VS c w S) {b : Nat} {f : ByteArray -> Option Value} (hb : c.free b) (hv : MapS c.wb b f) : MapS w b f := hv.of_block (h.kept.block b hb.1 hb.2)
def VPo (c : VC) (S : List ByteArray) (k : ByteArray) (e : Ending) (w' : World) : Prop :=
 e = .returned (.tuple #[]) /\ ∃ T, VS c w' T /\ (∀ x ∈ S, x ∈ T) /\ k ∈ T /\ (∀ x ∈ T, x ∈ S ∨ Reach c.es k x) /\ ∀ x ∈ T, x ∉ S -> ∀ y ∈ kids c.es x, y ∈ T
theorem fg_ (c : VC) (hb : VB c) (S : List ByteArray) (k : ByteArray) (hS : hasS S k = true) (w : World) (h : VS c w S) :
  Calls Tryz.prog 192 #[.string k, .pointer (some ⟨c.sb, 0, none⟩), .pointer (some ⟨c.jb, 0, none⟩), .pointer (some ⟨c.vb, 0, none⟩)] w (VPo c S k) := by
 have c1 := h.cell hb.fsb hb.sbC
 have hlk := h.seen.run_lookup Tryz.underlying241 Tryz.underlying9 (.bool false) (Tryz.zeroValue4 w) k
 have hlk2 : (Instr.lookup 241 (.map (some c.Ms)) (.string k) false).run Tryz.prog w = .ok (.bool true) w := by rw [hlk, if_pos hS]; rfl
 have HP := kp (show VPo c S k (.returned (.tuple #[])) w from ⟨rfl, S, h, fun x hx => hx, hasS_iff.1 hS, fun x hx => .inl hx, fun x hx hn => absurd hx hn⟩)
 clear hlk h hb hS
 go_enter Tryz.func192, Tryz.ntmps192
 go_wp2_with fail
 go_end0
 exact HP.o
end Go.Proofs.YtnjhpgmbfblgaaaGreat.Ord
