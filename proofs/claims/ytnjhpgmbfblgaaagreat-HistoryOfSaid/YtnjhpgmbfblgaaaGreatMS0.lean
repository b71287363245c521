/- Lists of calls; walk of the reference's Same; Maps keyed by numbers, as functions: lookups, updates, deletes; Rows given by their list of cells; how they and maps lie apart; step laws for structs stored and for appends that say what block is new; The parts of a response; walk of response.parts; Rows of calls: appends, cells. -/
import Derived.Test.YtnjhpgmbfblgaaaGreatMH6
import Derived.Test.YtnjhpgmbfblgaaaGreatMR5
import Derived.MapKept
namespace Go.Proofs.YtnjhpgmbfblgaaaGreat.Ord
set_option maxRecDepth 100000
set_option maxHeartbeats 16000000
open Go.RowKit
set_option linter.unusedVariables false
def CalsAt (w : World) (B : Nat) (A : Option Addr) (cs : List CallR) : Prop :=
 ∀ i c, cs[i]? = some c -> ∃ b off p, A = some ⟨b, off, none⟩ /\ b < B /\ CellsAt w ⟨b, off + i * 23, none⟩ (callC c p) /\ CallOk w B c p
theorem CalsAt.below {B B' : Nat} {w w' : World} {A : Option Addr} {rs : List CallR} (h : CalsAt w B A rs) (hb : Below B' w w') (hB : B <= B') : CalsAt w' B A rs := by
 intro i r hi
 obtain ⟨b, off, d, h1, h2, h3, h4⟩ := h i r hi
 exact ⟨b, off, d, h1, h2, h3.below hb (by show b < B'; omega), h4.below hb hB⟩
theorem CalsAt.mono {B B' : Nat} {w : World} {A : Option Addr} {rs : List CallR} (h : CalsAt w B A rs) (hB : B <= B') : CalsAt w B' A rs := by
 intro i r hi
 obtain ⟨b, off, d, h1, h2, h3, h4⟩ := h i r hi
 exact ⟨b, off, d, h1, by omega, h3, h4.mono hB⟩
def callsEq (rs ss : List CallR) : Bool := decide (rs.length = ss.length /\ ∀ i (h : i < rs.length) (h' : i < ss.length), callEq rs[i] ss[i] = true)

theorem same10 (A A' : Option Addr) (n m c c' : Nat) (rs ss : List CallR) (w : World) (hn : rs.length = n) (hm : ss.length = m) (hl : n <= maxLen) (hl' : m <= maxLen) (hA : CalsAt w w.heap.size A rs) (hA' : CalsAt w w.heap.size A' ss) :
  Calls Tryz.prog 19 #[.slice A n c, .slice A' m c'] w fun e w' => e = .returned (.bool (callsEq rs ss)) /\ Below w.heap.size w w' := by
 have hn' : n <= 9223372036854775807 := by unfold maxLen at hl; omega
 have hm' : m <= 9223372036854775807 := by unfold maxLen at hl'; omega
 clear hl hl'
 by_cases hnm : n = m
 ·subst hnm
  have h1 : ((n : Int) != (n : Int)) = false := by simp
  have HA := kp hA
  have HA' := kp hA'
  have HN := kp hn
  have HM := kp hm
  clear hA hA' hn hm
  go_enter Tryz.func19, Tryz.ntmps19
  go_wp2_with fail
  go_loopw [5] (fun j wr => ∃ k : Nat, k <= n /\ j = .int .i64 k /\ (∀ i (h : i < rs.length) (h' : i < ss.length), i < k -> callEq rs[i] ss[i] = true) /\ Below w.heap.size w wr) (fun j _ => n - (intOf j).toNat)
  case atStart => exact ⟨0, Nat.zero_le _, by go_num, fun i _ _ hi => absurd hi (by omega), Below.refl _ _⟩
  case round =>
   obtain ⟨k, hk, rfl, hall, hb⟩ := hrel
   have HALL := kp hall
   clear hall
   by_cases hlt : k < n
   ·have hg : decide ((k : Int) < (n : Int)) = true := by simp; omega
    have hk1 : k < rs.length := by rw [HN.out]; exact hlt
    have hk2 : k < ss.length := by rw [HM.out]; exact hlt
    obtain ⟨b, off, p, rfl, hbB, hck, hdk⟩ := (HA.out.below hb (Nat.le_refl _)) k _ (List.getElem?_eq_getElem hk1)
    obtain ⟨b', off', p', rfl, hbB', hck', hdk'⟩ := (HA'.out.below hb (Nat.le_refl _)) k _ (List.getElem?_eq_getElem hk2)
    obtain ⟨r, hr⟩ : ∃ r, rs[k] = r := ⟨_, rfl⟩
    obtain ⟨s, hs⟩ : ∃ s, ss[k] = s := ⟨_, rfl⟩
    rw [hr] at hck hdk
    rw [hs] at hck' hdk'
    have h18 := fun W (hW : Below wr.heap.size wr W) => equal18 r s p p' W (((hdk.mono hb.size).below hW (Nat.le_refl _)).mono hW.size) (((hdk'.mono hb.size).below hW (Nat.le_refl _)).mono hW.size)
    obtain ⟨eqv, heqv⟩ : ∃ eqv, callEq r s = eqv := ⟨_, rfl⟩
    rw [heqv] at h18
    have HEQ := kp (show callEq rs[k] ss[k] = eqv by rw [hr, hs]; exact heqv)
    have hsz1 : (Tryz.prog.info? 52).map (·.size) = some (callC r p).length := call_sizeL _ _ _ _ _ _ _ _ _ _ _ _ _ _ _ _ _ _ _ _ _ _ _
    have hsz2 : (Tryz.prog.info? 52).map (·.size) = some (callC s p').length := call_sizeL _ _ _ _ _ _ _ _ _ _ _ _ _ _ _ _ _ _ _ _ _ _ _
    generalize callC r p = l1 at *
    generalize callC s p' = l2 at *
    have Hk := kp hck.regrown
    have Hk' := kp hck'.regrown
    have H18 := kp h18
    have HZ1 := kp hsz1
    have HZ2 := kp hsz2
    clear hck hck' h18 hr hs heqv hdk hdk' hsz1 hsz2
    go_wp2_with fail
    refine wp_region_quiet_below (by kernel_rfl) (by kernel_rfl) ?_
    repeat (first
     | ((with_reducible refine qk_load_agg (o := ⟨some 20, _, _, _, _, _⟩) rfl 52 _ rfl ⟨b, off + k * 23, none⟩ ?_ l1 _ Hk.out Tryz.underlying52 rfl HZ1.out ?_); (· rfl); simp only [Act.put, z1, z2, z3])
     | ((with_reducible refine qk_load_agg (o := ⟨some 24, _, _, _, _, _⟩) rfl 52 _ rfl ⟨b', off' + k * 23, none⟩ ?_ l2 _ Hk'.out Tryz.underlying52 rfl HZ2.out ?_); (· rfl); simp only [Act.put, z1, z2, z3])
     | go_big_quiet_step ((go_at_call 27; exact Calls.regrown_of (H18.out _ (below_regrown _ _ _)))))
    refine wpQuiet_nil ?_
    intro W3 hW3
    have hb3 := hb.trans ((regrown_below hW3).mono hb.size)
    clear hW3
    cases eqv
    ·go_wp2_with fail
     go_ret
     refine ⟨ret_bool ?_, hb3⟩
     refine (decide_eq_false fun h => ?_).symm
     have := h.2 k hk1 hk2
     rw [HEQ.out] at this
     cases this
    ·go_wp2_with fail
     go_roundw
     case rel => exact ⟨k + 1, by omega, by go_num, fun i h h' hi => by (by_cases e : i = k; (subst e; exact HEQ.out); exact HALL.out i h h' (by omega)), hb3⟩
     case measure => simp [intOf]; omega
   ·obtain rfl : k = n := by omega
    have hg : decide ((k : Int) < (k : Int)) = false := by simp
    go_wp2_with fail
    go_ret
    refine ⟨ret_bool ?_, hb⟩
    refine (decide_eq_true ⟨by rw [HN.out, HM.out], fun i h h' => HALL.out i h h' (by have := HN.out; omega)⟩).symm
 ·have h1 : ((n : Int) != (m : Int)) = true := by simp; omega
  have hf : callsEq rs ss = false := decide_eq_false fun h => hnm (by rw [<- hn, <- hm]; exact h.1)
  rw [hf]
  clear hA hA'
  go_enter Tryz.func19, Tryz.ntmps19
  go_wp2_with fail
  go_ret
  exact ⟨rfl, Below.refl _ _⟩
def isK : Value -> Int -> Bool
 | .int .i64 a, k => a == k
 | _, _ => false
theorem isK_pos {v : Value} {k : Int} (h : v = .int .i64 k) : isK v k = true := by subst h; simp [isK]
theorem isK_neg {v : Value} {k : Int} (h : v ≠ .int .i64 k) : isK v k = false := by
 unfold isK
 split
 ·simp at h ⊢
  exact h
 ·rfl
/-- the value at a key of some entries -/
def lkE : List MapEntry -> Int -> Option Value
 | [], _ => none
 | e :: es, k => if isK e.key k = true then some e.val else lkE es k
def KeysI (es : List MapEntry) : Prop := (∀ x ∈ es, ∃ k, x.key = .int .i64 k) /\ es.Pairwise fun x y => x.key ≠ y.key
/-- block b is a map that reads as f -/
def MapAt (w : World) (b : Nat) (f : Int -> Option Value) : Prop := ∃ es clock, w.heap[b]? = some (.map es clock) /\ KeysI es.toList /\ ∀ k, lkE es.toList k = f k
theorem MapAt.congr {w : World} {b : Nat} {f g : Int -> Option Value} (h : MapAt w b f) (e : ∀ k, f k = g k) : MapAt w b g := by
 obtain ⟨es, c, h1, h2, h3⟩ := h
 exact ⟨es, c, h1, h2, fun k => (h3 k).trans (e k)⟩
theorem MapAt.of_block {w w' : World} {b : Nat} {f : Int -> Option Value} (h : MapAt w b f) (e : w'.heap[b]? = w.heap[b]?) : MapAt w' b f := by
 obtain ⟨es, c, h1, h2⟩ := h
 exact ⟨es, c, e.trans h1, h2⟩
theorem MapAt.lt {w : World} {b : Nat} {f : Int -> Option Value} (h : MapAt w b f) : b < w.heap.size := by
 obtain ⟨es, c, h1, _⟩ := h
 exact (Array.getElem?_eq_some_iff.1 h1).1
theorem MapAt.new (w : World) : MapAt (w.alloc (.map #[] 0)) w.heap.size fun _ => none := ⟨#[], 0, heap_alloc_new w _, ⟨by simp, by simp⟩, fun k => rfl⟩

theorem findNow_lk (k : Int) : ∀ (l : List MapEntry) (i : Nat), (∀ x ∈ l, ∃ k, x.key = .int .i64 k) ->
  (lkE l k = none /\ (∀ x ∈ l, x.key ≠ .int .i64 k) /\ Instr.findNow (.int .i64) (.int .i64 k) l i = some none) ∨
  ∃ j e, l[j]? = some e /\ e.key = .int .i64 k /\ lkE l k = some e.val /\ Instr.findNow (.int .i64) (.int .i64 k) l i = some (some (i + j, e.val))
 | [], i, _ => .inl ⟨rfl, by simp, rfl⟩
 | e :: l, i, h => by
  obtain ⟨a, ha⟩ := h e (by simp)
  by_cases hk : a = k
  ·subst hk
   refine .inr ⟨0, e, rfl, ha, by simp [lkE, isK_pos ha], ?_⟩
   simp [Instr.findNow, Instr.sameNow, ha]
  ·have hne : (k == a) = false := by simp; omega
   have hik : isK e.key k = false := isK_neg (by rw [ha]; simp [hk])
   rcases findNow_lk k l (i + 1) (fun x hx => h x (by simp [hx])) with ⟨h1, h2, h3⟩ | ⟨j, e', h1, h2, h3, h4⟩
   ·refine .inl ⟨by simp [lkE, hik, h1], fun x hx => ?_, by simp [Instr.findNow, Instr.sameNow, ha, hne, h3]⟩
    rcases List.mem_cons.1 hx with rfl | hx
    ·rw [ha]; simp [hk]
    ·exact h2 x hx
   ·refine .inr ⟨j + 1, e', by simpa using h1, h2, by simp [lkE, hik, h3], ?_⟩
    simp only [Instr.findNow, Instr.sameNow, ha, if_true, hne, h4]
    congr 3
    omega
theorem lkE_push (l : List MapEntry) (e : MapEntry) (k k' : Int) (hk : e.key = .int .i64 k) (h : ∀ x ∈ l, x.key ≠ .int .i64 k) : lkE (l ++ [e]) k' = if k' = k then some e.val else lkE l k' := by
 induction l with
 | nil =>
  simp only [List.nil_append, lkE]
  by_cases h1 : k' = k
  ·subst h1; simp [isK_pos hk]
  ·simp [h1, isK_neg (v := e.key) (k := k') (by rw [hk]; simp; exact fun e => h1 e.symm)]
 | cons a l ih =>
  have ih := ih fun x hx => h x (by simp [hx])
  have ha := h a (by simp)
  simp only [List.cons_append, lkE, ih]
  by_cases h1 : k' = k
  ·subst h1
   rw [isK_neg ha]
   rfl
  ·rw [if_neg h1, if_neg h1]
theorem lkE_modify (l : List MapEntry) (j : Nat) (e : MapEntry) (v : Value) (k k' : Int) (hp : l.Pairwise fun x y => x.key ≠ y.key) (hj : l[j]? = some e) (hk : e.key = .int .i64 k) : lkE (l.modify j fun e => { e with key := .int .i64 k, val := v }) k' = if k' = k then some v else lkE l k' := by
 induction l generalizing j with
 | nil => simp at hj
 | cons a l ih =>
  cases j with
  | zero =>
   simp at hj
   subst hj
   simp only [List.modify_zero_cons, lkE]
   by_cases h1 : k' = k
   ·subst h1; simp [isK]
   ·have hn : ∀ v : Value, v = .int .i64 k -> isK v k' = false := fun v hv => isK_neg (by rw [hv]; simp; exact fun e => h1 e.symm)
    simp [h1, hn _ rfl, hn _ hk]
  | succ j =>
   have hj' : l[j]? = some e := by simpa using hj
   have ih := ih j (List.pairwise_cons.1 hp).2 hj'
   have hne : a.key ≠ .int .i64 k := by
    have := (List.pairwise_cons.1 hp).1 e (List.mem_iff_getElem?.2 ⟨j, hj'⟩)
    rwa [hk] at this
   simp only [List.modify_succ_cons, lkE, ih]
   by_cases h1 : k' = k
   ·subst h1
    rw [isK_neg hne]
    simp
   ·simp [h1]
theorem modify_keysI (l : List MapEntry) (j : Nat) (e : MapEntry) (v : Value) (k : Int) (hj : l[j]? = some e) (hk : e.key = .int .i64 k) : (l.modify j fun e => { e with key := .int .i64 k, val := v }).map (·.key) = l.map (·.key) := by
 induction l generalizing j with
 | nil => simp at hj
 | cons a l ih =>
  cases j with
  | zero =>
   simp at hj
   subst hj
   simp [hk]
  | succ j => simp [ih j (by simpa using hj)]
theorem keysI_map {l l' : List MapEntry} (h : l'.map (·.key) = l.map (·.key)) (hk : KeysI l) : KeysI l' := by
 have hp : ∀ l : List MapEntry, (l.Pairwise fun x y => x.key ≠ y.key) ↔ (l.map (·.key)).Pairwise (· ≠ ·) := fun l => by rw [List.pairwise_map]
 refine ⟨fun x hx => ?_, (hp l').2 (h ▸ (hp l).1 hk.2)⟩
 have hm : x.key ∈ l.map (·.key) := by rw [<- h]; exact List.mem_map_of_mem hx
 obtain ⟨y, hy, e⟩ := List.mem_map.1 hm
 obtain ⟨k, hk⟩ := hk.1 y hy
 exact ⟨k, by rw [<- e, hk]⟩
theorem lkE_erase (l : List MapEntry) (j : Nat) (e : MapEntry) (k k' : Int) (hp : l.Pairwise fun x y => x.key ≠ y.key) (hj : l[j]? = some e) (hk : e.key = .int .i64 k) : lkE (l.eraseIdx j) k' = if k' = k then none else lkE l k' := by
 have hnone : ∀ l : List MapEntry, (∀ x ∈ l, x.key ≠ .int .i64 k) -> lkE l k = none := fun l => by
  induction l with
  | nil => intro _; rfl
  | cons a l ih => intro h; simp only [lkE]; rw [isK_neg (h a (by simp)), ih fun x hx => h x (by simp [hx])]; rfl
 induction l generalizing j with
 | nil => simp at hj
 | cons a l ih =>
  cases j with
  | zero =>
   simp at hj
   subst hj
   simp only [List.eraseIdx_cons_zero, lkE]
   by_cases h1 : k' = k
   ·subst h1
    rw [if_pos rfl]
    exact hnone l fun x hx => by have := (List.pairwise_cons.1 hp).1 x hx; rw [hk] at this; exact this.symm
   ·rw [if_neg h1, isK_neg (by rw [hk]; simp; exact fun e => h1 e.symm)]
    simp
  | succ j =>
   have hj' : l[j]? = some e := by simpa using hj
   have ih := ih j (List.pairwise_cons.1 hp).2 hj'
   have hne : a.key ≠ .int .i64 k := by
    have := (List.pairwise_cons.1 hp).1 e (List.mem_iff_getElem?.2 ⟨j, hj'⟩)
    rwa [hk] at this
   simp only [List.eraseIdx_cons_succ, lkE, ih]
   by_cases h1 : k' = k
   ·subst h1
    rw [isK_neg hne]
    simp
   ·simp [h1]

section
variable {P : Program} {w : World} {T K E : TypeId} {b : Nat} {f : Int -> Option Value}
theorem MapAt.run_lookup (h : MapAt w b f) (hT : P.underlying T = some (.map K E)) (hK : P.underlying K = some (.int .i64)) (z : Value) (hz : (zeroValue E).run P w = .ok z w) (k : Int) :
  (Instr.lookup T (.map (some b)) (.int .i64 k) false).run P w = .ok ((f k).getD z) w := by
 obtain ⟨es, c, hb, hk, hf⟩ := h
 have h1 := Go.MapKept.run_getObj_map (P := P) hb
 have h2 : ∀ e, (Instr.checkKey e 10000 K (.int .i64 k)).run P w = .ok () w := fun e => Go.MapKept.run_checkKey hK (by simp [Go.MapKept.IsKey]) e 9999
 rcases findNow_lk k es.toList 0 hk.1 with ⟨g1, g2, g3⟩ | ⟨j, e, g1, g2, g3, g4⟩
 ·have h3 := Go.MapKept.run_findKey (P := P) (w := w) hK g3
  rw [<- hf k, g1]
  unfold Instr.lookup
  rw [Sem.run_bind, run_underlying hT]
  simp [Sem.run_bind, h1, h2, h3, hz]
 ·have h3 := Go.MapKept.run_findKey (P := P) (w := w) hK g4
  rw [<- hf k, g3]
  unfold Instr.lookup
  rw [Sem.run_bind, run_underlying hT]
  simp [Sem.run_bind, h1, h2, h3]
/-- the world whose block b is a map -/
def World.withMap (w : World) (b : Nat) (es : Array MapEntry) (c : Nat) : World := { w with heap := w.heap.setIfInBounds b (.map es c) }
theorem withMap_kept (w : World) (b : Nat) (es : Array MapEntry) (c : Nat) : Kept [b] w (World.withMap w b es c) :=
 ⟨rfl, rfl, rfl, by simp [World.withMap], fun k hk hn => by
  simp at hn
  simp only [World.withMap]
  rw [Array.getElem?_setIfInBounds_ne (by omega)]⟩
theorem withMap_block {w : World} {b : Nat} (hb : b < w.heap.size) (es : Array MapEntry) (c : Nat) : (World.withMap w b es c).heap[b]? = some (.map es c) := by
 simp [World.withMap, hb]
theorem MapAt.run_update (h : MapAt w b f) (hT : P.underlying T = some (.map K E)) (hK : P.underlying K = some (.int .i64)) (k : Int) (v : Value) :
  ∃ w', (Instr.mapUpdate T (.map (some b)) (.int .i64 k) v).run P w = .ok () w' /\ Kept [b] w w' /\ MapAt w' b fun k' => if k' = k then some v else f k' := by
 have hlt := h.lt
 obtain ⟨es, c, hb, hk, hf⟩ := h
 have h1 := Go.MapKept.run_getObj_map (P := P) hb
 have h2 : (Instr.checkKey false 10000 K (.int .i64 k)).run P w = .ok () w := Go.MapKept.run_checkKey hK (by simp [Go.MapKept.IsKey]) false 9999
 rcases findNow_lk k es.toList 0 hk.1 with ⟨g1, g2, g3⟩ | ⟨j, e, g1, g2, g3, g4⟩
 ·have h3 := Go.MapKept.run_findKey (P := P) (w := w) hK g3
  have h4 := Go.MapKept.run_setObj_map (P := P) (.map (es.push { key := .int .i64 k, val := v, born := c }) (c + 1)) hb
  refine ⟨World.withMap w b (es.push { key := .int .i64 k, val := v, born := c }) (c + 1), ?_, withMap_kept _ _ _ _, _, _, withMap_block hlt _ _, ⟨?_, ?_⟩, fun k' => ?_⟩
  ·unfold Instr.mapUpdate
   rw [Sem.run_bind, run_underlying hT]
   simp [Sem.run_bind, h1, h2, h3, h4, World.withMap]
  ·intro x hx
   rw [Array.toList_push] at hx
   rcases List.mem_append.1 hx with hx | hx
   ·exact hk.1 x hx
   ·simp at hx; subst hx; exact ⟨k, rfl⟩
  ·rw [Array.toList_push, List.pairwise_append]
   exact ⟨hk.2, by simp, fun x hx y hy => by simp at hy; subst hy; exact g2 x hx⟩
  ·rw [Array.toList_push, lkE_push es.toList _ k k' rfl g2, hf k']
 ·have h3 := Go.MapKept.run_findKey (P := P) (w := w) hK g4
  have h4 := Go.MapKept.run_setObj_map (P := P) (.map (es.modify j fun e => { e with key := .int .i64 k, val := v }) c) hb
  have h5 : (es[j]?.map (·.key)).getD (.int .i64 k) = .int .i64 k := by
   have : es[j]? = some e := by simpa using g1
   rw [this]
   simp [g2]
  have h6 := Go.MapKept.run_keyThatStays (P := P) (w := w) (d := .int .i64) (k := .int .i64 k) (by simp [Go.MapKept.IsKey])
  have e1 : (es.modify j fun e => { e with key := .int .i64 k, val := v }).toList = es.toList.modify j fun e => { e with key := .int .i64 k, val := v } := by simp
  refine ⟨World.withMap w b (es.modify j fun e => { e with key := .int .i64 k, val := v }) c, ?_, withMap_kept _ _ _ _, _, _, withMap_block hlt _ _, ?_, fun k' => ?_⟩
  ·unfold Instr.mapUpdate
   rw [Sem.run_bind, run_underlying hT]
   simp only [Result.andThen_ok, Sem.run_bind, h1, h2, h3, Nat.zero_add, h5, h6, h4]
   rfl
  ·rw [e1]
   exact keysI_map (modify_keysI _ _ _ _ _ g1 g2) hk
  ·rw [e1, lkE_modify es.toList j e v k k' hk.2 g1 g2, hf k']
theorem MapAt.run_delete (h : MapAt w b f) (hT : P.underlying T = some (.map K E)) (hK : P.underlying K = some (.int .i64)) (k : Int) (ty : TypeId) :
  ∃ w', (Builtin.delete_ #[T, K] ty #[.map (some b), .int .i64 k]).run P w = .ok (.tuple #[]) w' /\ Kept [b] w w' /\ MapAt w' b fun k' => if k' = k then none else f k' := by
 have hlt := h.lt
 obtain ⟨es, c, hb, hk, hf⟩ := h
 have h1 := Go.MapKept.run_getObj_map (P := P) hb
 have h2 : ∀ e, (Instr.checkKey e 10000 K (.int .i64 k)).run P w = .ok () w := fun e => Go.MapKept.run_checkKey hK (by simp [Go.MapKept.IsKey]) e 9999
 rcases findNow_lk k es.toList 0 hk.1 with ⟨g1, g2, g3⟩ | ⟨j, e, g1, g2, g3, g4⟩
 ·have h3 := Go.MapKept.run_findKey (P := P) (w := w) hK g3
  have h4 := Go.MapKept.run_setObj_map (P := P) (.map es c) hb
  refine ⟨World.withMap w b es c, ?_, withMap_kept _ _ _ _, _, _, withMap_block hlt _ _, hk, fun k' => ?_⟩
  ·unfold Builtin.delete_
   simp [Sem.run_bind, run_underlying hT, h1, h2, h3, h4, World.withMap]
  ·show lkE es.toList k' = if k' = k then none else f k'
   by_cases e : k' = k
   ·subst e; rw [if_pos rfl, g1]
   ·rw [if_neg e, hf k']
 ·have h3 := Go.MapKept.run_findKey (P := P) (w := w) hK g4
  have h4 := Go.MapKept.run_setObj_map (P := P) (.map (es.eraseIdxIfInBounds j) c) hb
  have e1 : (es.eraseIdxIfInBounds j).toList = es.toList.eraseIdx j := by
   have hj : j < es.size := by have := (List.getElem?_eq_some_iff.1 g1).1; simpa using this
   simp [Array.eraseIdxIfInBounds, hj]
  refine ⟨World.withMap w b (es.eraseIdxIfInBounds j) c, ?_, withMap_kept _ _ _ _, _, _, withMap_block hlt _ _, ?_, fun k' => ?_⟩
  ·unfold Builtin.delete_
   simp [Sem.run_bind, run_underlying hT, h1, h2, h3, h4, World.withMap]
  ·rw [e1]
   have hs : (es.toList.eraseIdx j).Sublist es.toList := List.eraseIdx_sublist _ _
   exact ⟨fun x hx => hk.1 x (hs.mem hx), hk.2.sublist hs⟩
  ·rw [e1, lkE_erase es.toList j e k k' hk.2 g1 g2, hf k']
end
/-- block b is a row of type t with these cells, none frozen -/
def RowL (w : World) (b : Nat) (t : TypeId) (l : List Value) : Prop := w.rowIs b t l.length (listF l)
section
variable {w w' : World} {b b' : Nat} {t t' : TypeId} {l l' : List Value}
theorem RowL.cell (h : RowL w b t l) {j : Nat} {v : Value} (hj : l[j]? = some v) : w.cell? ⟨b, j, none⟩ = some v := by
 have hl := (List.getElem?_eq_some_iff.1 hj).1
 rw [World.rowIs.cell h hl]
 simp [listF, List.getD, hj]
theorem RowL.frozen (h : RowL w b t l) (j : Nat) : w.frozen? ⟨b, j, none⟩ = false := World.rowIs.frozen h j
theorem RowL.lt (h : RowL w b t l) : b < w.heap.size := World.rowIs.lt h
theorem RowL.of_block (h : RowL w b t l) (e : w'.heap[b]? = w.heap[b]?) : RowL w' b t l := World.rowIs.of_block h e
theorem RowL.kept {L : List Nat} (h : RowL w b t l) (hk : Kept L w w') (hb : b ∉ L) : RowL w' b t l := hk.row hb h
theorem RowL.below {B : Nat} (h : RowL w b t l) (hk : Below B w w') (hb : b < B) : RowL w' b t l := h.of_block (hk.block b hb)
theorem RowL.alloc (h : RowL w b t l) (o : Obj) : RowL (w.alloc o) b t l := World.rowIs.alloc h o
theorem RowL.new (w : World) (t : TypeId) (l : List Value) : RowL (w.alloc (.cells l.toArray t)) w.heap.size t l := row_list w l t
theorem listF_set (l : List Value) (j : Nat) (v : Value) (k : Nat) (hk : k < l.length) : (if k = j then v else listF l k) = listF (l.set j v) k := by
 by_cases e : k = j
 ·subst e
  simp [listF, List.getD, hk]
 ·have e' : j ≠ k := fun h => e h.symm
  simp [listF, List.getD, e, e']
theorem RowL.set (h : RowL w b t l) (j : Nat) (v : Value) : RowL (w.setCell ⟨b, j, none⟩ v) b t (l.set j v) := by
 have h1 := World.rowIs.congr (World.rowIs.set h j v) (listF_set l j v)
 unfold RowL
 rw [List.length_set]
 exact h1
theorem RowL.setOther (h : RowL w b t l) {a : Addr} (ha : b ≠ a.block) (v : Value) : RowL (w.setCell a v) b t l := World.rowIs.setOther h ha v
/-- cells written from o on -/
def putL (l : List Value) : Nat -> List Value -> List Value
 | _, [] => l
 | o, v :: vs => putL (l.set o v) (o + 1) vs
theorem RowL.setCells : ∀ (vs : List Value) {o : Nat} {w : World} {l : List Value}, RowL w b t l -> RowL (w.setCells b o vs) b t (putL l o vs)
 | [], _, _, _, h => h
 | v :: vs, o, w, l, h => RowL.setCells vs (h.set o v)
theorem RowL.setCellsOther {vs : List Value} {o : Nat} (h : RowL w b t l) (hb : b ≠ b') : RowL (w.setCells b' o vs) b t l := rowIs_setCells_other hb vs o w h
theorem RowL.there (h : RowL w b t l) {o n : Nat} (hn : o + n <= l.length) : w.there b o n := fun j hj => by
 have h1 : o + j < l.length := by omega
 exact ⟨by rw [h.cell (List.getElem?_eq_getElem h1)]; rfl, h.frozen _⟩
theorem RowL.cells (h : RowL w b t l) : CellsAt w ⟨b, 0, none⟩ l := row_cells h l rfl fun i _ => rfl
theorem RowL.block (h : RowL w b t l) : ∃ c, w.heap[b]? = some (.cells c t (0, 0)) := by
 obtain ⟨c, h1, _⟩ := h
 exact ⟨c, h1⟩
theorem RowL.ne (h : RowL w b t l) (h' : RowL w b' t' l') (ht : t ≠ t') : b ≠ b' := by
 rintro rfl
 obtain ⟨c, h1⟩ := h.block
 obtain ⟨c', h2⟩ := h'.block
 rw [h1] at h2
 cases h2
 exact ht rfl
theorem RowL.ne_map {f : Int -> Option Value} (h : RowL w b t l) (h' : MapAt w b' f) : b ≠ b' := by
 rintro rfl
 obtain ⟨c, h1⟩ := h.block
 obtain ⟨es, k, h2, _⟩ := h'
 rw [h1] at h2
 cases h2
theorem RowL.ne_own {base : Nat} {e : TypeId} {size n : Nat} {v : Value} {xs : List Value} (h : RowL w b t l) (h' : w.ownsRow base e size v n xs) (ht : t ≠ e) : v.ownBlock ≠ some b := own_ne_row h' h ht
theorem MapAt.kept {L : List Nat} {f : Int -> Option Value} (h : MapAt w b f) (hk : Kept L w w') (hb : b ∉ L) : MapAt w' b f := h.of_block (hk.block b h.lt hb)
theorem MapAt.ne_own {base : Nat} {e : TypeId} {size n : Nat} {v : Value} {xs : List Value} {f : Int -> Option Value} (h : MapAt w b f) (h' : w.ownsRow base e size v n xs) : v.ownBlock ≠ some b := by
 intro hv
 obtain ⟨es, k, h2, _⟩ := h
 rcases h'.2 with ⟨h1, _⟩ | ⟨g, cap, cur, e1, _, e2, _⟩
 ·subst h1; cases hv
 ·subst e1
  cases hv
  rw [h2] at e2
  cases e2
end
theorem below_drewn {B : Nat} {a b : World} (h : Below B a b) : Below B a b.drew := ⟨h.os, h.tape, h.output, h.size, h.block⟩
theorem kept_of_grown {w w' : World} {v : Value} (h : w.grownBy w' v.ownBlock) : Kept v.ownBlock.toList w w' := ⟨h.os, h.tape, h.output, h.size, fun k hk hn => h.block k hk (fun e => hn (by simp; exact e.symm))⟩

def didA (d : DidR) (p : DidV) : Array Value := #[.int .i64 d.step.k, .int .i64 d.step.c, .int .i64 d.step.n, p.vs, .int .i64 d.err, .int .i64 d.n, p.vd, .int .i64 d.micro, .int .i64 d.cmd.op, .string d.cmd.key, p.vk, p.vv, p.vt, .int .u64 d.cmd.life, .int .u64 d.cmd.ver, .string d.cmd.tag, .string d.cmd.pre, .string d.cmd.chi, .int .i64 d.resp.op, .int .i64 d.resp.err, p.vi, .int .u64 d.resp.ver, .int .i64 d.resp.count, p.vn, .int .u64 d.when]
theorem didC_A (d : DidR) (p : DidV) : (didC d p).toArray = didA d p := rfl
theorem lk_micro {w : World} {mb : Nat} {f : Int -> Option Value} {k : Int} {u : Value} (h : MapAt w mb f) (hu : (f k).getD (.pointer none) = u) : (Instr.lookup 108 (.map (some mb)) (.int .i64 k) false).run Tryz.prog w = .ok u w := by
 rw [<- hu]
 exact h.run_lookup Tryz.underlying108 (by kernel_rfl) (.pointer none) (Tryz.zeroValue194 w) k

section
variable {P : Program}
theorem step_store_agg {w : World} {ops : Array Oper} {o : Oper} {a : Act} {K : Act -> World -> Prop} {Q : Exit -> Act -> World -> Prop} {E : Prop} (hgd : o.guard = none) (ty : TypeId) (x y : Operand) (ho : o.op = .store ty x y)
  (b off : Nat) (cells : Array Value) (hx : a.eval x = .pointer (some ⟨b, off, none⟩)) (hy : a.eval y = .agg cells)
  (ht : w.there b off cells.size) (hi : (P.info? ty).map (·.size) = some cells.size) (h1 : cells.all (·.oneCell') = true)
  (h : K (a.put o.dst undef) (w.setCells b off cells.toList)) :
  if Region.wanted o (yielded ops a.tmps) = true then Oper.wp P o a w K Q else E := by
 rw [if_pos (show Region.wanted o (yielded ops a.tmps) = true by simp [Region.wanted, hgd])]
 exact wp_store_mid ty x y ho b off cells hx hy ht hi h1 h
/-- an append of elements that lie somewhere: the new row, what is kept, and where the new row lies -/
theorem step_append_g {w : World} {ops : Array Oper} {o : Oper} {a : Act} {K : Act -> World -> Prop} {Q : Exit -> Act -> World -> Prop} {E : Prop} (hgd : o.guard = none) (s x : Operand) (t : TypeId)
  (ho : o.op = .call { callee := .builtin .append, args := #[s, x], argTypes := #[t, t] })
  (base : Nat) (e : TypeId) (z : Value) (size bytes : Nat) (ht : P.underlying t = some (.slice e)) (hinfo : (P.info? e).map (fun i => (i.zero, i.size, i.bytes)) = some (some z, size, bytes))
  (hzs : z.cells.size = size) (hsz : 0 < size)
  (v : Value) (n : Nat) (xs : List Value) (hs : a.eval s = v) (hown : w.ownsRow base e size v n xs)
  (ad : Addr) (m c : Nat) (news : List Value) (hx : a.eval x = .slice (some ad) m c) (hl : news.length = m * size) (hsrc : ∀ j u, news[j]? = some u -> w.cell? (ad.add j) = some u) (h1 : ∀ u ∈ news, u.oneCell' = true)
  (h63 : n + m <= maxLen) (hbytes : (n + m) * bytes <= 140737488355328) (hbase : base <= w.heap.size)
  (h : ∀ v' w', w'.ownsRow base e size v' (n + m) (xs ++ news) -> w.grownBy w' v.ownBlock -> (v'.ownBlock = v.ownBlock ∨ v'.ownBlock = some w.heap.size) -> K (a.put o.dst v') w') :
  if Region.wanted o (yielded ops a.tmps) = true then Oper.wp P o a w K Q else E := by
 rw [if_pos (show Region.wanted o (yielded ops a.tmps) = true by simp [Region.wanted, hgd])]
 obtain ⟨i, hi, hz, h4, h5⟩ := info_parts hinfo
 obtain ⟨v', w', hrun, h2, h3, _, h6⟩ := run_append_own_at (P := P) w base t o.type e i z size bytes ht hi hz h4 h5 hzs hsz v n xs hown ad m c news hl hsrc h1 h63 hbytes hbase
 unfold Oper.wp execOp
 simp only [ho, resolve, invoke, builtin, Sem.run_bind, Sem.run_pure, Result.andThen_ok, y1, y2, y3, hs, hx, hrun]
 exact h v' w' h2 h3 h6
end
inductive Part where
 | ver | cnt | one | item | many | nums
def putFn : Part -> Nat
 | .ver => 353 | .cnt => 356 | .one => 358 | .item => 360 | .many => 365 | .nums => 367
def getFn : Part -> Nat
 | .ver => 355 | .cnt => 357 | .one => 359 | .item => 362 | .many => 366 | .nums => 368
theorem put_enter (p : Part) : ∀ args w, (callFunc (putFn p) args).run Tryz.prog w = .ok (.enter (putFn p) args) w := by
 intro args w
 cases p <;> simp [putFn, callFunc, Tryz.func353, Tryz.f353, Tryz.func356, Tryz.f356, Tryz.func358, Tryz.f358, Tryz.func360, Tryz.f360, Tryz.func365, Tryz.f365, Tryz.func367, Tryz.f367]
theorem get_enter (p : Part) : ∀ args w, (callFunc (getFn p) args).run Tryz.prog w = .ok (.enter (getFn p) args) w := by
 intro args w
 cases p <;> simp [getFn, callFunc, Tryz.func355, Tryz.f355, Tryz.func357, Tryz.f357, Tryz.func359, Tryz.f359, Tryz.func362, Tryz.f362, Tryz.func366, Tryz.f366, Tryz.func368, Tryz.f368]
def partsOf (op : Int) : List Part :=
 if op = 1 ∨ op = 2 ∨ op = 3 then [.ver, .cnt] else if op = 4 then [.one, .item] else if op = 5 then [.many, .item] else if op = 15 then [.nums] else [.cnt]
def isOp (op : Int) : Bool := decide (1 <= op /\ op <= 15)
def partC (p : Part) : List Value := [.func (.func (putFn p)) #[] #[], .func (.func (getFn p)) #[] #[]]
theorem there_zero (w : World) (t : TypeId) (l z : List Value) (h : l.length = z.length) : (w.alloc (.cells z.toArray t)).there w.heap.size 0 l.toArray.size := (RowL.new w t z).there (by simp; omega)
theorem stored_zero (w : World) (t : TypeId) (l z : List Value) (h : l.length = z.length) : RowL ((w.alloc (.cells z.toArray t)).setCells w.heap.size 0 l) w.heap.size t l /\ Below w.heap.size w ((w.alloc (.cells z.toArray t)).setCells w.heap.size 0 l) := by
 refine ⟨store_all (n := l.length) (by rw [h]; exact RowL.new w t z) l rfl, ?_⟩
 exact (kept_setCells (L := [w.heap.size]) (by simp) l 0 _ ((Kept.refl _ w).alloc _)).below (Nat.le_refl _) (by simp)
theorem part_size : (Tryz.prog.info? 332).map (·.size) = some 2 := by kernel_rfl
theorem make_ver (w : World) : Calls Tryz.prog 298 #[] w fun e w' => e = .returned (.agg (partC .ver).toArray) /\ Below w.heap.size w w' := by
 have HS := kp (stored_zero w 332 (partC .ver) [.nilFunc, .nilFunc] rfl)
 have HC := kp (HS.out.1.cells)
 have HT := kp (there_zero w 332 (partC .ver) [.nilFunc, .nilFunc] rfl)
 simp only [partC, putFn, getFn] at HS HC HT ⊢
 go_enter Tryz.func298, Tryz.ntmps298
 go_wp2_with ((with_reducible refine wpList_store_at2 (op := ⟨none, _, _, _, _, _⟩) rfl 332 _ _ rfl w.heap.size 0 #[.func (.func 353) #[] #[], .func (.func 355) #[] #[]] ?_ ?_ ?_ ?_ ?_ ?_); (· rfl); (· rfl); (· exact HT.out); (· exact part_size); (· simp [Value.oneCell']); intro w7 hw7)
 refine bodyPost_ret (v := .agg #[.func (.func 353) #[] #[], .func (.func 355) #[] #[]]) ?_ rfl ⟨rfl, HS.out.2⟩
 exact results_cell1 (p := 0) (ty := 332) rfl _ _ ⟨w.heap.size, 0, none⟩ _ rfl (run_loadVar_at _ _ _ _ _ HC.out Tryz.underlying332 rfl part_size)
theorem make_cnt (w : World) : Calls Tryz.prog 299 #[] w fun e w' => e = .returned (.agg (partC .cnt).toArray) /\ Below w.heap.size w w' := by
 have HS := kp (stored_zero w 332 (partC .cnt) [.nilFunc, .nilFunc] rfl)
 have HC := kp (HS.out.1.cells)
 have HT := kp (there_zero w 332 (partC .cnt) [.nilFunc, .nilFunc] rfl)
 simp only [partC, putFn, getFn] at HS HC HT ⊢
 go_enter Tryz.func299, Tryz.ntmps299
 go_wp2_with ((with_reducible refine wpList_store_at2 (op := ⟨none, _, _, _, _, _⟩) rfl 332 _ _ rfl w.heap.size 0 #[.func (.func 356) #[] #[], .func (.func 357) #[] #[]] ?_ ?_ ?_ ?_ ?_ ?_); (· rfl); (· rfl); (· exact HT.out); (· exact part_size); (· simp [Value.oneCell']); intro w7 hw7)
 refine bodyPost_ret (v := .agg #[.func (.func 356) #[] #[], .func (.func 357) #[] #[]]) ?_ rfl ⟨rfl, HS.out.2⟩
 exact results_cell1 (p := 0) (ty := 332) rfl _ _ ⟨w.heap.size, 0, none⟩ _ rfl (run_loadVar_at _ _ _ _ _ HC.out Tryz.underlying332 rfl part_size)
theorem make_one (w : World) : Calls Tryz.prog 300 #[] w fun e w' => e = .returned (.agg (partC .one).toArray) /\ Below w.heap.size w w' := by
 have HS := kp (stored_zero w 332 (partC .one) [.nilFunc, .nilFunc] rfl)
 have HC := kp (HS.out.1.cells)
 have HT := kp (there_zero w 332 (partC .one) [.nilFunc, .nilFunc] rfl)
 simp only [partC, putFn, getFn] at HS HC HT ⊢
 go_enter Tryz.func300, Tryz.ntmps300
 go_wp2_with ((with_reducible refine wpList_store_at2 (op := ⟨none, _, _, _, _, _⟩) rfl 332 _ _ rfl w.heap.size 0 #[.func (.func 358) #[] #[], .func (.func 359) #[] #[]] ?_ ?_ ?_ ?_ ?_ ?_); (· rfl); (· rfl); (· exact HT.out); (· exact part_size); (· simp [Value.oneCell']); intro w7 hw7)
 refine bodyPost_ret (v := .agg #[.func (.func 358) #[] #[], .func (.func 359) #[] #[]]) ?_ rfl ⟨rfl, HS.out.2⟩
 exact results_cell1 (p := 0) (ty := 332) rfl _ _ ⟨w.heap.size, 0, none⟩ _ rfl (run_loadVar_at _ _ _ _ _ HC.out Tryz.underlying332 rfl part_size)
theorem make_item (w : World) : Calls Tryz.prog 301 #[] w fun e w' => e = .returned (.agg (partC .item).toArray) /\ Below w.heap.size w w' := by
 have HS := kp (stored_zero w 332 (partC .item) [.nilFunc, .nilFunc] rfl)
 have HC := kp (HS.out.1.cells)
 have HT := kp (there_zero w 332 (partC .item) [.nilFunc, .nilFunc] rfl)
 simp only [partC, putFn, getFn] at HS HC HT ⊢
 go_enter Tryz.func301, Tryz.ntmps301
 go_wp2_with ((with_reducible refine wpList_store_at2 (op := ⟨none, _, _, _, _, _⟩) rfl 332 _ _ rfl w.heap.size 0 #[.func (.func 360) #[] #[], .func (.func 362) #[] #[]] ?_ ?_ ?_ ?_ ?_ ?_); (· rfl); (· rfl); (· exact HT.out); (· exact part_size); (· simp [Value.oneCell']); intro w7 hw7)
 refine bodyPost_ret (v := .agg #[.func (.func 360) #[] #[], .func (.func 362) #[] #[]]) ?_ rfl ⟨rfl, HS.out.2⟩
 exact results_cell1 (p := 0) (ty := 332) rfl _ _ ⟨w.heap.size, 0, none⟩ _ rfl (run_loadVar_at _ _ _ _ _ HC.out Tryz.underlying332 rfl part_size)
theorem make_many (w : World) : Calls Tryz.prog 302 #[] w fun e w' => e = .returned (.agg (partC .many).toArray) /\ Below w.heap.size w w' := by
 have HS := kp (stored_zero w 332 (partC .many) [.nilFunc, .nilFunc] rfl)
 have HC := kp (HS.out.1.cells)
 have HT := kp (there_zero w 332 (partC .many) [.nilFunc, .nilFunc] rfl)
 simp only [partC, putFn, getFn] at HS HC HT ⊢
 go_enter Tryz.func302, Tryz.ntmps302
 go_wp2_with ((with_reducible refine wpList_store_at2 (op := ⟨none, _, _, _, _, _⟩) rfl 332 _ _ rfl w.heap.size 0 #[.func (.func 365) #[] #[], .func (.func 366) #[] #[]] ?_ ?_ ?_ ?_ ?_ ?_); (· rfl); (· rfl); (· exact HT.out); (· exact part_size); (· simp [Value.oneCell']); intro w7 hw7)
 refine bodyPost_ret (v := .agg #[.func (.func 365) #[] #[], .func (.func 366) #[] #[]]) ?_ rfl ⟨rfl, HS.out.2⟩
 exact results_cell1 (p := 0) (ty := 332) rfl _ _ ⟨w.heap.size, 0, none⟩ _ rfl (run_loadVar_at _ _ _ _ _ HC.out Tryz.underlying332 rfl part_size)
theorem make_nums (w : World) : Calls Tryz.prog 303 #[] w fun e w' => e = .returned (.agg (partC .nums).toArray) /\ Below w.heap.size w w' := by
 have HS := kp (stored_zero w 332 (partC .nums) [.nilFunc, .nilFunc] rfl)
 have HC := kp (HS.out.1.cells)
 have HT := kp (there_zero w 332 (partC .nums) [.nilFunc, .nilFunc] rfl)
 simp only [partC, putFn, getFn] at HS HC HT ⊢
 go_enter Tryz.func303, Tryz.ntmps303
 go_wp2_with ((with_reducible refine wpList_store_at2 (op := ⟨none, _, _, _, _, _⟩) rfl 332 _ _ rfl w.heap.size 0 #[.func (.func 367) #[] #[], .func (.func 368) #[] #[]] ?_ ?_ ?_ ?_ ?_ ?_); (· rfl); (· rfl); (· exact HT.out); (· exact part_size); (· simp [Value.oneCell']); intro w7 hw7)
 refine bodyPost_ret (v := .agg #[.func (.func 367) #[] #[], .func (.func 368) #[] #[]]) ?_ rfl ⟨rfl, HS.out.2⟩
 exact results_cell1 (p := 0) (ty := 332) rfl _ _ ⟨w.heap.size, 0, none⟩ _ rfl (run_loadVar_at _ _ _ _ _ HC.out Tryz.underlying332 rfl part_size)
theorem all297 (v : Value) (w : World) : Calls Tryz.prog 297 #[v] w fun e w' => e = .returned v /\ w' = w := by
 go_enter Tryz.func297, Tryz.ntmps297
 go_wp2_with fail
 go_ret
 exact ⟨rfl, rfl⟩
def PartsPost (op : Int) (w : World) (e : Ending) (w' : World) : Prop :=
 ∃ G c, e = .returned (.tuple #[.slice (some ⟨G, 0, none⟩) (partsOf op).length c, .bool (isOp op)]) /\ RowL w' G 332 ((partsOf op).flatMap partC) /\ w.heap.size <= G /\ Below w.heap.size w w'
theorem parts_w (op : Int) (ho : op = 1 ∨ op = 2 ∨ op = 3) (w : World) : Calls Tryz.prog 232 #[.int .i64 op] w (PartsPost op w) := by
 rcases ho with rfl | rfl | rfl
 all_goals
  go_enter Tryz.func232, Tryz.ntmps232
  go_wp2_with fail
  refine (make_ver _).mono ?_
  rintro e w1 ⟨rfl, hb1⟩
  have HB1 := kp hb1
  clear hb1
  simp only [partC, putFn, getFn]
  go_wp2_with fail
  refine (make_cnt _).mono ?_
  rintro e w2 ⟨rfl, hb2⟩
  have HB2 := kp (HB1.out.trans (hb2.mono HB1.out.size))
  clear hb2
  simp only [partC, putFn, getFn]
  have HR := kp (RowL.new w2 332 (partC .ver ++ partC .cnt))
  have HB := kp (below1 w2 (.cells (partC .ver ++ partC .cnt).toArray 332))
  simp only [partC, putFn, getFn, List.cons_append, List.nil_append] at HR HB
  go_wp2_with fail
  refine (all297 _ _).mono ?_
  rintro e w3 ⟨rfl, rfl⟩
  go_wp2_with fail
  go_ret2
  exact ⟨_, _, rfl, HR.out, HB2.out.size, HB2.out.trans (HB.out.mono HB2.out.size)⟩
theorem parts_i (op : Int) (ho : op = 4) (w : World) : Calls Tryz.prog 232 #[.int .i64 op] w (PartsPost op w) := by
 rcases ho with rfl
 all_goals
  go_enter Tryz.func232, Tryz.ntmps232
  go_wp2_with fail
  refine (make_one _).mono ?_
  rintro e w1 ⟨rfl, hb1⟩
  have HB1 := kp hb1
  clear hb1
  simp only [partC, putFn, getFn]
  go_wp2_with fail
  refine (make_item _).mono ?_
  rintro e w2 ⟨rfl, hb2⟩
  have HB2 := kp (HB1.out.trans (hb2.mono HB1.out.size))
  clear hb2
  simp only [partC, putFn, getFn]
  have HR := kp (RowL.new w2 332 (partC .one ++ partC .item))
  have HB := kp (below1 w2 (.cells (partC .one ++ partC .item).toArray 332))
  simp only [partC, putFn, getFn, List.cons_append, List.nil_append] at HR HB
  go_wp2_with fail
  refine (all297 _ _).mono ?_
  rintro e w3 ⟨rfl, rfl⟩
  go_wp2_with fail
  go_ret2
  exact ⟨_, _, rfl, HR.out, HB2.out.size, HB2.out.trans (HB.out.mono HB2.out.size)⟩
theorem parts_m (op : Int) (ho : op = 5) (w : World) : Calls Tryz.prog 232 #[.int .i64 op] w (PartsPost op w) := by
 rcases ho with rfl
 all_goals
  go_enter Tryz.func232, Tryz.ntmps232
  go_wp2_with fail
  refine (make_many _).mono ?_
  rintro e w1 ⟨rfl, hb1⟩
  have HB1 := kp hb1
  clear hb1
  simp only [partC, putFn, getFn]
  go_wp2_with fail
  refine (make_item _).mono ?_
  rintro e w2 ⟨rfl, hb2⟩
  have HB2 := kp (HB1.out.trans (hb2.mono HB1.out.size))
  clear hb2
  simp only [partC, putFn, getFn]
  have HR := kp (RowL.new w2 332 (partC .many ++ partC .item))
  have HB := kp (below1 w2 (.cells (partC .many ++ partC .item).toArray 332))
  simp only [partC, putFn, getFn, List.cons_append, List.nil_append] at HR HB
  go_wp2_with fail
  refine (all297 _ _).mono ?_
  rintro e w3 ⟨rfl, rfl⟩
  go_wp2_with fail
  go_ret2
  exact ⟨_, _, rfl, HR.out, HB2.out.size, HB2.out.trans (HB.out.mono HB2.out.size)⟩
theorem parts_n (op : Int) (ho : op = 15) (w : World) : Calls Tryz.prog 232 #[.int .i64 op] w (PartsPost op w) := by
 rcases ho with rfl
 all_goals
  go_enter Tryz.func232, Tryz.ntmps232
  go_wp2_with fail
  refine (make_nums _).mono ?_
  rintro e w1 ⟨rfl, hb1⟩
  have HB1 := kp hb1
  clear hb1
  simp only [partC, putFn, getFn]
  have HR := kp (RowL.new w1 332 (partC .nums))
  have HB := kp (below1 w1 (.cells (partC .nums).toArray 332))
  simp only [partC, putFn, getFn] at HR HB
  go_wp2_with fail
  refine (all297 _ _).mono ?_
  rintro e w3 ⟨rfl, rfl⟩
  go_wp2_with fail
  go_ret2
  exact ⟨_, _, rfl, HR.out, HB1.out.size, HB1.out.trans (HB.out.mono HB1.out.size)⟩
theorem parts_c (op : Int) (ho : op ≠ 1 /\ op ≠ 2 /\ op ≠ 3 /\ op ≠ 4 /\ op ≠ 5 /\ op ≠ 15) (w : World) : Calls Tryz.prog 232 #[.int .i64 op] w (PartsPost op w) := by
 obtain ⟨h1, h2, h3, h4, h5, h6⟩ := ho
 have hp : partsOf op = [.cnt] := by simp [partsOf, h1, h2, h3, h4, h5, h6]
 have e1 : (op == 1) = false := by simpa using h1
 have e2 : (op == 2) = false := by simpa using h2
 have e3 : (op == 3) = false := by simpa using h3
 have e4 : (op == 4) = false := by simpa using h4
 have e5 : (op == 5) = false := by simpa using h5
 have e6 : (op == 15) = false := by simpa using h6
 have HI : ∀ b, isOp op = b -> Hid (isOp op = b) := fun b h => kp h
 unfold PartsPost
 rw [hp]
 clear h1 h2 h3 h4 h5 hp
 have key : ∀ b, isOp op = b -> Calls Tryz.prog 232 #[.int .i64 op] w fun e w' => ∃ G c, e = .returned (.tuple #[.slice (some ⟨G, 0, none⟩) 1 c, .bool b]) /\ RowL w' G 332 (partC .cnt) /\ w.heap.size <= G /\ Below w.heap.size w w' := by
  intro b hb
  cases g1 : decide (0 < op)
  ·have hb' : b = false := by rw [<- hb]; simp [isOp] at g1 ⊢; omega
   subst hb'
   clear hb HI h6
   go_enter Tryz.func232, Tryz.ntmps232
   go_wp2_with fail
   refine (make_cnt _).mono ?_
   rintro e w1 ⟨rfl, hb1⟩
   have HB1 := kp hb1
   clear hb1
   simp only [partC, putFn, getFn]
   have HR := kp (RowL.new w1 332 (partC .cnt))
   have HB := kp (below1 w1 (.cells (partC .cnt).toArray 332))
   simp only [partC, putFn, getFn] at HR HB
   go_wp2_with fail
   refine (all297 _ _).mono ?_
   rintro e w3 ⟨rfl, rfl⟩
   go_wp2_with fail
   go_ret2
   exact ⟨_, _, rfl, HR.out, HB1.out.size, HB1.out.trans (HB.out.mono HB1.out.size)⟩
  ·cases g2 : decide (op < 15)
   all_goals
    first
     | (have hb' : b = false := by rw [<- hb]; simp [isOp] at g1 g2 ⊢; omega
        subst hb')
     | (have hb' : b = true := by rw [<- hb]; simp [isOp] at g1 g2 ⊢; omega
        subst hb')
    clear hb HI h6
    go_enter Tryz.func232, Tryz.ntmps232
    go_wp2_with fail
    refine (make_cnt _).mono ?_
    rintro e w1 ⟨rfl, hb1⟩
    have HB1 := kp hb1
    clear hb1
    simp only [partC, putFn, getFn]
    have HR := kp (RowL.new w1 332 (partC .cnt))
    have HB := kp (below1 w1 (.cells (partC .cnt).toArray 332))
    simp only [partC, putFn, getFn] at HR HB
    go_wp2_with fail
    refine (all297 _ _).mono ?_
    rintro e w3 ⟨rfl, rfl⟩
    go_wp2_with fail
    go_ret2
    exact ⟨_, _, rfl, HR.out, HB1.out.size, HB1.out.trans (HB.out.mono HB1.out.size)⟩
 refine (key _ rfl).mono ?_
 rintro e w' ⟨G, c, h1, h2, h3, h4⟩
 exact ⟨G, c, h1, by simpa using h2, h3, h4⟩
theorem parts232 (op : Int) (w : World) : Calls Tryz.prog 232 #[.int .i64 op] w (PartsPost op w) := by
 by_cases h1 : op = 1 ∨ op = 2 ∨ op = 3
 ·exact parts_w op h1 w
 by_cases h2 : op = 4
 ·exact parts_i op h2 w
 by_cases h3 : op = 5
 ·exact parts_m op h3 w
 by_cases h4 : op = 15
 ·exact parts_n op h4 w
 ·exact parts_c op ⟨by omega, by omega, by omega, h2, h3, h4⟩ w
section
variable {P : Program}
theorem wpList_append_g {w : World} {ops : Array Oper} {rest : List Oper} {o : Oper} {a : Act} {Q : Exit -> Act -> World -> Prop} (hgd : o.guard = none) (s x : Operand) (t : TypeId)
  (ho : o.op = .call { callee := .builtin .append, args := #[s, x], argTypes := #[t, t] })
  (base : Nat) (e : TypeId) (z : Value) (size bytes : Nat) (ht : P.underlying t = some (.slice e)) (hinfo : (P.info? e).map (fun i => (i.zero, i.size, i.bytes)) = some (some z, size, bytes))
  (hzs : z.cells.size = size) (hsz : 0 < size)
  (v : Value) (n : Nat) (xs : List Value) (hs : a.eval s = v) (hown : w.ownsRow base e size v n xs)
  (ad : Addr) (m c : Nat) (news : List Value) (hx : a.eval x = .slice (some ad) m c) (hl : news.length = m * size) (hsrc : ∀ j u, news[j]? = some u -> w.cell? (ad.add j) = some u) (h1 : ∀ u ∈ news, u.oneCell' = true)
  (h63 : n + m <= maxLen) (hbytes : (n + m) * bytes <= 140737488355328) (hbase : base <= w.heap.size)
  (h : ∀ v' w', w'.ownsRow base e size v' (n + m) (xs ++ news) -> w.grownBy w' v.ownBlock -> (v'.ownBlock = v.ownBlock ∨ v'.ownBlock = some w.heap.size) -> wpList P ops Q rest (a.put o.dst v') w') : wpList P ops Q (o :: rest) a w :=
 wpList_step fun K hK => step_append_g hgd s x t ho base e z size bytes ht hinfo hzs hsz v n xs hs hown ad m c news hx hl hsrc h1 h63 hbytes hbase fun v' w' a1 a2 a3 => hK _ _ (h v' w' a1 a2 a3)
end
theorem call_len (c : CallR) (p : CallV) : (callC c p).length = 23 := rfl
theorem q_info52 : (Tryz.prog.info? 52).map (fun i => (i.zero, i.size, i.bytes)) = some (some (.agg (callL 0 0 false 0 ⟨#[]⟩ (.slice none 0 0) (.slice none 0 0) (.slice none 0 0) 0 0 ⟨#[]⟩ ⟨#[]⟩ ⟨#[]⟩ 0 0 (.slice none 0 0) 0 0 (.slice none 0 0) 0 0 0 0).toArray), 23, 296) := by kernel_rfl
theorem flat_at {L : List (CallR × CallV)} {k : Nat} {x : CallR × CallV} (hx : L[k]? = some x) {j : Nat} {v : Value} (hj : (callC x.1 x.2)[j]? = some v) : (L.flatMap fun x => callC x.1 x.2)[k * 23 + j]? = some v := by
 induction L generalizing k with
 | nil => simp at hx
 | cons y L ih =>
  rw [List.flatMap_cons]
  cases k with
  | zero =>
   simp at hx
   subst hx
   have hl := (List.getElem?_eq_some_iff.1 hj).1
   rw [Nat.zero_mul, Nat.zero_add, List.getElem?_append_left hl, hj]
  | succ k =>
   rw [List.getElem?_append_right (by rw [call_len]; omega), call_len, show (k + 1) * 23 + j - 23 = k * 23 + j by omega]
   exact ih (by simpa using hx)
/-- calls in a row that a slice owns -/
theorem cals_own {w : World} {base : Nat} {v : Value} {L : List (CallR × CallV)} (h : w.ownsRow base 52 23 v L.length (L.flatMap fun x => callC x.1 x.2)) (hs : ∀ x ∈ L, CallOk w w.heap.size x.1 x.2) : ∃ A c, v = .slice A L.length c /\ CalsAt w w.heap.size A (L.map (·.1)) := by
 rcases owns_shape h (by decide) with ⟨e1, e2, e3⟩ | ⟨g, cap, e1, e2, e3, e4, e5⟩
 ·subst e1
  have : L = [] := List.eq_nil_of_length_eq_zero e2
  subst this
  exact ⟨none, 0, rfl, fun i x hi => by simp at hi⟩
 ·subst e1
  refine ⟨_, cap, rfl, fun i x hi => ?_⟩
  rw [List.getElem?_map] at hi
  obtain ⟨y, hy, rfl⟩ := Option.map_eq_some_iff.1 hi
  have hil := (List.getElem?_eq_some_iff.1 hy).1
  refine ⟨g, 0, y.2, rfl, e3, fun j u hj => ?_, hs y (List.mem_of_getElem? hy)⟩
  have hjl := (List.getElem?_eq_some_iff.1 hj).1
  rw [call_len] at hjl
  rw [Addr.add_mid, Nat.zero_add, h.cellAt (i * 23 + j) (by omega)]
  exact flat_at hy hj
theorem call_oneC {w : World} {B : Nat} {c : CallR} {p : CallV} (h : CallOk w B c p) : ∀ u ∈ callC c p, u.oneCell' = true := by
 obtain ⟨⟨⟨_, A3, c3, e3, _⟩, ⟨_, _, A4, c4, e4, _⟩, ⟨_, A5, c5, e5, _⟩⟩, ⟨⟨_, A6, c6, e6, _⟩, _, A7, c7, e7, _⟩⟩ := h
 intro u hv
 simp only [callC, callL, e3, e4, e5, e6, e7, List.mem_cons, List.not_mem_nil, or_false] at hv
 rcases hv with rfl | rfl | rfl | rfl | rfl | rfl | rfl | rfl | rfl | rfl | rfl | rfl | rfl | rfl | rfl | rfl | rfl | rfl | rfl | rfl | rfl | rfl | rfl <;> rfl
end Go.Proofs.YtnjhpgmbfblgaaaGreat.Ord
