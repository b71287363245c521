/- The iterator over the writes that count: its contract; Walks of the closures that say. -/
import Derived.Test.YtnjhpgmbfblgaaaGreatMU30
import Derived.RangeFuncBound
import Derived.RangeFuncCalls
import Derived.RangeFuncLeaves
import Derived.Shelf.Abstract
import Derived.Shelf.RegionOpen
import Derived.WalkKit
import Derived.OwnWalkIn
import Derived.TacticsInMore
import Derived.LoopNIn
import Derived.LoopIn
import Derived.Sort.MapsRangeIn
import Derived.Test.YtnjhpgmbfblgaaaGreatMU12
import Derived.Test.YtnjhpgmbfblgaaaGreatMU20
import Derived.Deep.DeepCutAuto
import Derived.Deep.CutBlock
import Derived.Deep.RegionHeld
set_option linter.unusedVariables false
set_option linter.unusedSimpArgs false
namespace Go.Proofs.YtnjhpgmbfblgaaaGreat.Ord
open Go.RowKit
attribute [local go_sem] Oper.semAt_some
set_option maxRecDepth 100000
set_option maxHeartbeats 4000000
abbrev IxW (ws : List WrR) := { i : Nat // i < ws.length }
theorem eS_ (F : Fence) (n : Nat) (h135 : F.fn 135) (hro : F.round = none) (J : Nat) (w : World) :
  CallsIn F n Tryz.prog 135 #[ptV J] w fun e w' => e = .returned (.func (.func 195) #[] #[.pointer (some ⟨w.heap.size, 0, none⟩)]) /\ w' = w.alloc (.cells #[ptV J] 133) := by
 unfold ptV
 refine callsIn_of_wp Tryz.func135 rfl h135 ?_ hro
 simp only [Tryz.ntmps135, zS, List.length_cons, List.length_nil, Nat.reduceAdd, Nat.reduceSub, Array.replicate_succ, Array.replicate_zero, List.push_toArray, List.append_toArray, List.nil_append, List.cons_append]
 gi_wp2
 go_ret
 exact ⟨rfl, rfl⟩
theorem eR_ (F : Fence) (n : Nat) (h195 : F.fn 195) (hro : F.round = none) (hn : 1 <= n) (l Bj J lim : Nat) (grace : Int) (f : WrR -> WrR) (hfk : ∀ y, (f y).key = y.key) (ws : List WrR) (es : Edges) (s : JS) (Jv : List (IxW ws) -> World -> Prop) (W : World)
  (hJ : AbidesFrom W.heap.size Jv) (hR : ∀ pre W1, Jv pre W1 -> JI W1 lim J grace (bA_ f (pre.map (·.1)) ws) es s /\ W1.cell? ⟨Bj, 0, none⟩ = some (ptV J) /\ s.M < W.heap.size)
  (hY : ∀ pre x W1, Jv pre W1 -> YieldAt F (n - 1) Tryz.prog l #[ptV (s.ps.getD x.1 0)] W1 fun e W' => e = .returned (.bool true) /\ Jv (pre ++ [x]) W' /\ KeepsWalks W1 W') (h0 : Jv [] W) :
  CallsIn F n Tryz.prog 195 (#[.func (.yield l) #[] #[]] ++ #[.pointer (some ⟨Bj, 0, none⟩)]) W fun e W' => (∃ v, e = .returned v) /\ ∃ xs, (∀ (i : Nat) (y : WrR), ws[i]? = some y -> (i ∈ xs.map (·.1) ↔ y.gone = 0)) /\ Jv xs W' := by
 obtain ⟨i0, b0, hMl⟩ := hR [] W h0
 rw [List.map_nil, dF_] at i0
 obtain ⟨fm, hfm⟩ : ∃ fm : ByteArray -> Option Value, fm = fun k => (aN_ ws k).map fun i => ptV (s.ps.getD i 0) := ⟨_, rfl⟩
 obtain ⟨HM, Ae⟩ := kq2 (show MapS W s.M fm by rw [hfm]; exact i0.mapM) (show ∀ k, fm k = (aN_ ws k).map fun i => ptV (s.ps.getD i 0) from fun k => by rw [hfm])
 clear hfm
 obtain ⟨Ac, Ag⟩ := kq2 i0.only i0.len
 have b2 : W.cell? ⟨J, 2, none⟩ = some (.map (some s.M)) := i0.row.cell (j := 2) rfl
 obtain ⟨HR, HY, HJ, H0⟩ := kq4 hR hY hJ h0
 clear hR hY hJ h0 i0
 unfold ptV at b0
 refine callsIn_of_wp Tryz.func195 rfl h195 ?_ hro
 simp only [Tryz.ntmps195, zS, List.length_cons, List.length_nil, Nat.reduceAdd, Nat.reduceSub, Array.replicate_succ, Array.replicate_zero, List.push_toArray, List.append_toArray, List.nil_append, List.cons_append]
 gi_wp2_with (first
  | (gi_at_range; refine dU_ rfl _ 134 rfl 9 217 Tryz.underlying134 s.M _ rfl HM.o ?_; intro w0 hrg0 hg0 hs0)
  | gi_in)
 go_frame
 gi_loopw [4] (fun _ wr => ∃ (T : List ByteArray) (pre : List (IxW ws)), RngS wr s.M W.heap.size fm T /\ Hid (∀ (i : Nat) (y : WrR), ws[i]? = some y -> (i ∈ pre.map (·.1) ↔ (y.gone = 0 /\ y.key ∈ T))) /\ Hid (Jv pre wr))
  (fun _ wr => wr.rangeLeft s.M W.heap.size)
 case atStart =>
  exact ⟨[], [], hrg0, kp (fun i y hy => by simp), kp (HJ.o [] W w0 none H0.o hg0 (fun r e => by cases e))⟩
 obtain ⟨T, pre, hrg, HT, HV⟩ := hrel
 gi_wp2_with (first
  | (gi_at_next; refine ea_ rfl _ rfl s.M W.heap.size _ T rfl hrg ?_ ?_)
  | gi_in)
 ·intro hl0
  have HP := kp (show ∀ (i : Nat) (y : WrR), ws[i]? = some y -> (i ∈ pre.map (·.1) ↔ y.gone = 0) from fun i y hy => ⟨fun h => ((HT.o i y hy).1 h).1, fun h => (HT.o i y hy).2 ⟨h, hl0 y.key (ptV (s.ps.getD i 0)) (by rw [Ae.o, Ac.o i y hy h]; rfl)⟩⟩)
  clear hl0
  gi_wp2
  go_end0
  exact ⟨⟨_, rfl⟩, pre, HP.o, HV.o⟩
 intro k v w2 hkv hkT hrg2 hlt hg2 hs2 hen
 rw [Ae.o] at hkv
 obtain ⟨i, hi, rfl⟩ := Option.map_eq_some_iff.1 hkv
 obtain ⟨y, hy, hyk⟩ := bD_ ws k i hi
 subst hyk
 obtain ⟨p, hp⟩ := eY (s.ps.getD i 0)
 have hil := (gS.1 hy).1
 have hpi : s.ps[i]? = some p := by
  rw [<- hp, List.getD_eq_getElem?_getD, gE (by rw [Ag.o]; exact hil)]
  rfl
 have hJ2 : Jv pre w2 := HJ.o pre wr w2 (some W.heap.size) HV.o hg2 (fun r e => by cases e; obtain ⟨o, h1, h2, _⟩ := hrg.walk; exact ⟨lR _, o, h1, h2⟩)
 obtain ⟨i2, _, _⟩ := HR.o pre w2 hJ2
 have hnp : i ∉ pre.map (·.1) := fun h => hkT ((HT.o i y hy).1 h).2
 have hyi : (bA_ f (pre.map (·.1)) ws)[i]? = some y := by rw [dt_ hy, if_neg hnp]
 have c5 : w2.cell? ⟨p, 5, none⟩ = some (.int .i64 y.gone) := (i2.wrs i y p hyi hpi).1.cell (j := 5) rfl
 obtain ⟨yd, hyd⟩ : ∃ z : IxW ws, z = ⟨i, hil⟩ := ⟨_, rfl⟩
 have Ad := kp hlt
 have hT2 : ∀ (pre' : List Nat), (∀ j : Nat, j ∈ pre' ↔ (j ∈ pre.map (·.1) ∨ (j = i /\ y.gone = 0))) -> ∀ (j : Nat) (z : WrR), ws[j]? = some z -> (j ∈ pre' ↔ (z.gone = 0 /\ z.key ∈ T ++ [y.key])) := fun pre' hpre j z hz => by
  rw [hpre, HT.o j z hz]
  simp only [List.mem_append, List.mem_singleton]
  constructor
  ·rintro (⟨h1, h2⟩ | ⟨rfl, h2⟩)
   ·exact ⟨h1, .inl h2⟩
   rw [hy] at hz
   cases hz
   exact ⟨h2, .inr rfl⟩
  rintro ⟨h1, h2 | h2⟩
  ·exact .inl ⟨h1, h2⟩
  have := Ac.o j z hz h1
  rw [h2, hi] at this
  cases this
  rw [hy] at hz
  cases hz
  exact .inr ⟨rfl, h1⟩
 rw [hp] at hen
 rw [hp]
 unfold ptV at hen
 unfold ptV
 have Aa := kp hT2
 clear hT2 hkT hi hkv hyi hnp i2 hlt hs2
 by_cases hgn : y.gone = 0
 ·rw [hgn] at c5
  have hrnd := HY.o pre yd w2 hJ2
  rw [hyd] at hrnd
  dsimp only at hrnd
  rw [hp] at hrnd
  unfold ptV at hrnd
  obtain ⟨fn, tmps, assign, body, hyy, hRR⟩ := hrnd
  have Ab := kp (Aa.o (pre.map (·.1) ++ [i]) (fun j => by simp [hgn]))
  clear Aa
  gi_wp2
  refine hRR.mono ?_
  rintro e W3 ⟨rfl, hJ3, hk3⟩
  have hrg3 : RngS W3 s.M W.heap.size fm (T ++ [y.key]) := by
   obtain ⟨es, clock, since, seen, c0, h1, h2, h3, h4, h5⟩ := hrg2
   exact ⟨es, clock, since, seen, c0, hk3.same _ _ h1 rfl, h2, h3, hk3.same _ _ h4 rfl, h5⟩
  have hm3 : W3.rangeLeft s.M W.heap.size = w2.rangeLeft s.M W.heap.size := by
   obtain ⟨es, clock, since, seen, c0, h1, h2, h3, h4, h5⟩ := hrg2
   exact bS_ ((hk3.same _ _ h1 rfl).trans h1.symm) ((hk3.same _ _ h4 rfl).trans h4.symm)
  gi_wp2
  go_roundw
  case rel => exact ⟨T ++ [y.key], pre ++ [⟨i, hil⟩], hrg3, kp (by rw [List.map_append]; exact Ab.o), kp hJ3⟩
  rw [hm3]; exact Ad.o
 have g5 : (y.gone == 0) = false := by simpa using hgn
 obtain ⟨Ab, Af⟩ := kq2 (Aa.o (pre.map (·.1)) (fun j => by simp [hgn])) hJ2
 clear Aa hJ2 hgn
 gi_wp2
 refine ⟨fun _ h => (by cases h), ?_⟩
 gi_wp2
 go_roundw
 case rel => exact ⟨T ++ [y.key], pre, hrg2, Ab, Af⟩
 exact Ad.o
set_option maxRecDepth 100000
set_option maxHeartbeats 4000000
def DrwB (v : Value) (w : World) (e : Ending) (w' : World) : Prop := e = .returned v /\ ∃ q, w' = w.drewN q
theorem tag129 (p C : Nat) (vt : Value) (xs : List ByteArray) (tag : ByteArray) (w : World) (hp : w.cell? ⟨p, 2, none⟩ = some vt) (hv : SlV Value.string w w.heap.size vt xs) (hc : w.cell? ⟨C, 7, none⟩ = some (.string tag)) :
  Calls Tryz.prog 129 #[ptV p, .pointer (some ⟨C, 0, none⟩)] w (DrwB (.bool (hasS xs tag)) w) := by
 obtain ⟨hl, A, c, rfl, hel⟩ := hv
 obtain ⟨n, hn⟩ := eY xs.length
 obtain ⟨r, hr⟩ := eY (hasS xs tag)
 rw [hn] at hp hl
 have H130 := kp (show ∀ k, Calls Tryz.prog 130 #[.slice A n c, .string tag] (w.drewN k) (bX_ (.bool r) (w.drewN k)) from fun k => hr ▸ ii_ A n c w.heap.size xs tag (w.drewN k) hn hl (hel.below (ag_ w k) (lR _)))
 rw [hr]
 unfold ptV
 clear hel hr hl hn
 go_enter Tryz.func129, Tryz.ntmps129
 go_wp2_with fail
 go_quiet ((go_at_call 130; exact Calls.quiet_of_same (H130.o _)))
 go_wp2_with fail
 go_ret
 exact ⟨rfl, _, rfl⟩
theorem pre136 (p C : Nat) (key pre : ByteArray) (w : World) (hp : w.cell? ⟨p, 0, none⟩ = some (.string key)) (hc : w.cell? ⟨C, 8, none⟩ = some (.string pre)) :
  Calls Tryz.prog 136 #[ptV p, .pointer (some ⟨C, 0, none⟩)] w (DrwB (.bool (hasP key pre)) w) := by
 obtain ⟨r, hr⟩ := eY (hasP key pre)
 have H137 := kp (show ∀ k, Calls Tryz.prog 137 #[.string key, .string pre] (w.drewN k) (bX_ (.bool r) (w.drewN k)) from fun k => hr ▸ has137 key pre (w.drewN k))
 rw [hr]
 unfold ptV
 clear hr
 go_enter Tryz.func136, Tryz.ntmps136
 go_wp2_with fail
 go_quiet ((go_at_call 137; exact Calls.quiet_of_same (H137.o _)))
 go_wp2_with fail
 go_ret
 exact ⟨rfl, _, rfl⟩
theorem all138 (p : Value) (w : World) : Calls Tryz.prog 138 #[p] w (DrwB (.bool true) w) := by
 go_enter Tryz.func138, Tryz.ntmps138
 go_wp2_with fail
 go_ret
 exact ⟨rfl, 0, rfl⟩
attribute [local go_sem] Oper.semAt_some
set_option maxRecDepth 100000
set_option maxHeartbeats 4000000
def prgW (pred : WrR -> Bool) (y : WrR) : WrR := if pred y = true then { y with gone := 2 } else y
theorem ku_ (pred : WrR -> Bool) (y : WrR) : (prgW pred y).key = y.key /\ (prgW pred y).val = y.val /\ (prgW pred y).tags = y.tags /\ (prgW pred y).soft = y.soft /\ (prgW pred y).dl = y.dl /\ ((prgW pred y).gone = 0 -> y.gone = 0) := by
 unfold prgW
 split
 ·exact ⟨rfl, rfl, rfl, rfl, rfl, fun h => by simp at h⟩
 exact ⟨rfl, rfl, rfl, rfl, rfl, id⟩
structure PrgI (w W : World) (lim J : Nat) (grace : Int) (f : WrR -> WrR) (ws : List WrR) (es : Edges) (s : JS) (C B3 Bj : Nat) (LC : List Value) (g : Value) (T : List Nat) : Prop where
 ji : JI W lim J grace (bA_ f T ws) es s
 rc : RowL W C 36 LC
 b3 : W.cell? ⟨B3, 0, none⟩ = some g
 bj : W.cell? ⟨Bj, 0, none⟩ = some (ptV J)
 kp : Kept s.ps w W
theorem ez_ {w w' : World} {row : Option Nat} (h : w.grownBy w' row) : Kept row.toList w w' := ⟨h.os, h.tape, h.output, h.size, fun k hk hn => h.block k hk (fun e => hn (by simp; exact e.symm))⟩
theorem iz_ {α : Type} {l : List α} {i : Nat} {y : α} (h : l[i]? = some y) : l.set i y = l := by
 apply List.ext_getElem?
 intro j
 rw [List.getElem?_set]
 by_cases e : i = j
 ·subst e
  have := (gS.1 h).1
  simp [this, h]
  rw [gE this] at h
  exact (Option.some.inj h).symm
 simp [e]
theorem PrgI.own {w : World} {lim J : Nat} {grace : Int} {f : WrR -> WrR} {ws : List WrR} {es : Edges} {s : JS} {C B3 Bj B : Nat} {LC : List Value} {g : Value} (hB : s.M < B /\ s.C < B /\ lim <= B /\ w.heap.size <= B) :
  OwnFrom B (fun (T : List (IxW ws)) W => PrgI w W lim J grace f ws es s C B3 Bj LC g (T.map (·.1))) := by
 intro T W W' row h hg hr
 have hk := ez_ hg
 have hr2 : ∀ r, row = some r -> ∃ o : Obj, W.heap[r]? = some o /\ o.isCells = false := fun r e => (hr r e).2
 refine ⟨h.ji.other hk fun b hb => ?_, hk.row (fun hm => ?_) h.rc, Go.cell_kept h.b3 hg hr2, Go.cell_kept h.bj hg hr2, ?_⟩
 ·obtain ⟨h1, o, h2, h3⟩ := hr b (by simpa using hb)
  exact ⟨by omega, by omega, by omega, fun o' ho' => by rw [h2] at ho'; cases ho'; exact h3⟩
 ·obtain ⟨h1, o, h2, h3⟩ := hr C (by simpa using hm)
  rw [dg_ h.rc h2] at h3
  cases h3
 refine (h.kp.mono fun b hb => List.mem_append_left row.toList hb).trans (hk.mono fun b hb => List.mem_append_right s.ps hb) |>.drop2 ?_
 intro k hk' hl
 rcases List.mem_append.1 hk' with h1 | h1
 ·exact h1
 obtain ⟨h2, _⟩ := hr k (by simpa using h1)
 omega
theorem ga_ (N : Nat) (l : List Value) (C : Nat) (hN : N = 129 /\ l = [.pointer (some ⟨C, 0, none⟩)] ∨ N = 136 /\ l = [.pointer (some ⟨C, 0, none⟩)] ∨ N = 138 /\ l = []) (P : WrR -> Bool) (hP : ∀ y g, P { y with gone := g } = P y)
  (w : World) (lim J : Nat) (grace : Int) (ws : List WrR) (es : Edges) (s : JS) (h : JI w lim J grace ws es s) (LC : List Value) (hC : RowL w C 36 LC)
  (Ab : ∀ (W : World) (y : WrR) (i p : Nat) (T : List Nat), JI W lim J grace (bA_ (prgW P) T ws) es s -> (bA_ (prgW P) T ws)[i]? = some y -> s.ps[i]? = some p -> RowL W C 36 LC -> Calls Tryz.prog N (ptV p :: l).toArray W (DrwB (.bool (P y)) W)) :
  CallsIn Fence.wide 6 Tryz.prog 134 #[ptV J, .func (.func N) #[] l.toArray] w fun e w' => (∃ v, e = .returned v) /\ JI w' lim J grace (ws.map fun y => if y.gone = 0 then prgW P y else y) es s /\ RowL w' C 36 LC /\ Kept s.ps w w' := by
 obtain ⟨f, hf⟩ := eY (prgW P)
 have HF := kp hf
 have hfk : ∀ y, (f y).key = y.key /\ (f y).val = y.val /\ (f y).tags = y.tags /\ (f y).soft = y.soft /\ (f y).dl = y.dl /\ ((f y).gone = 0 -> y.gone = 0) := fun y => hf ▸ ku_ _ y
 have hff : ∀ y, f (f y) = f y := fun y => by
  rw [<- hf]
  unfold prgW
  by_cases hp : P y = true
  ·simp [hp, hP]
  simp [hp]
 rw [hf]
 obtain ⟨HH, Ah, Ai, HC⟩ := kq4 h hfk hff hC
 have hlw := h.lw
 have hMl := h.mapM.lt
 have hCl := h.mapC.lt
 have hCb := hC.lt
 have HP := kp hP
 rw [hf] at Ab
 have Ab := kp Ab
 clear h hf hfk hff hC hP
 unfold ptV at Ab
 unfold ptV
 refine callsIn_of_wp_marks Tryz.func134 rfl trivial ?_ rfl
 simp only [Tryz.ntmps134, zS, List.length_cons, List.length_nil, Nat.reduceAdd, Nat.reduceSub, Array.replicate_succ, Array.replicate_zero, List.push_toArray, List.append_toArray, List.nil_append, List.cons_append]
 gi_wp2_with (refine ⟨trivial, ?_⟩; gi_at_call 135; refine (eS_ Fence.wide _ trivial rfl J _).mono ?_; rintro e w' ⟨rfl, rfl⟩)
 obtain ⟨W0, hW0⟩ := eY ((w.alloc (.cells #[.func (.func N) #[] l.toArray] 221)).alloc (.cells #[ptV J] 133))
 rw [hW0]
 have hs0 : W0.heap.size = w.heap.size + 2 := by rw [<- hW0]; simp
 have hb0 : Bw w W0 := by rw [<- hW0]; exact ((BR _ w).alloc (lR _) _).alloc (by simp) _
 have hOwn := PrgI.own (w := w) (lim := lim) (J := J) (grace := grace) (f := f) (ws := ws) (es := es) (s := s) (C := C) (B3 := w.heap.size) (Bj := w.heap.size + 1) (B := W0.heap.size) (LC := LC) (g := .func (.func N) #[] l.toArray) ⟨by omega, by omega, by omega, by omega⟩
 have HO := kp hOwn
 have h00 : PrgI w W0 lim J grace f ws es s C w.heap.size (w.heap.size + 1) LC (.func (.func N) #[] l.toArray) [] := ⟨by rw [dF_]; exact HH.o.below hb0, HC.o.below hb0 hCb, by rw [<- hW0]; simp, by rw [<- hW0]; simp [ptV], Kept.of_below hb0⟩
 have H00 := kp h00
 clear hOwn h00 hW0
 refine b8_ (α := IxW ws) rfl (by omega) (gf := 195) (lb := #[.pointer (some ⟨w.heap.size + 1, 0, none⟩)]) rfl trivial (enters_of Tryz.func195 (by kernel_rfl) rfl) (encs := fun x : IxW ws => #[ptV (s.ps.getD x.1 0)]) (fun _ => rfl)
  (fun xs => ∀ (i : Nat) (y : WrR), ws[i]? = some y -> (i ∈ xs.map (·.1) ↔ y.gone = 0)) (fun T W => PrgI w W lim J grace f ws es s C w.heap.size (w.heap.size + 1) LC (.func (.func N) #[] l.toArray) (T.map (·.1))) HO.o H00.o ?seq
  (fun x => { tmps := #[.pointer (some ⟨J, 0, none⟩), .func (.func N) #[] l.toArray, undef, .pointer (some ⟨w.heap.size, 0, none⟩), ptV (s.ps.getD x.1 0), .pointer (some ⟨J, 0, none⟩), .func (.func 195) #[] #[.pointer (some ⟨w.heap.size + 1, 0, none⟩)], ptV (s.ps.getD x.1 0), undef, undef, undef, undef, undef, undef], defers := [] }) ?assign ?body ?done
 case seq =>
  intro l Jv W hsz hA hJI hY hJ0
  exact eR_ Fence.wide _ trivial rfl (by omega) l (w.heap.size + 1) J lim grace f (fun y => (Ah.o y).1) ws es s Jv W hA (fun pre W1 h1 => ⟨(hJI pre W1 h1).ji, (hJI pre W1 h1).bj, by omega⟩) hY hJ0
 case assign =>
  intro l x W K hK
  gi_wp2
  exact hK
 case body =>
  rintro l T ⟨i, hil⟩ W hI
  obtain ⟨y, hy⟩ : ∃ y, ws[i]? = some y := ⟨_, gE hil⟩
  obtain ⟨p, hp⟩ := eY (s.ps.getD i 0)
  have hpi : s.ps[i]? = some p := by
   rw [<- hp, List.getD_eq_getElem?_getD, gE (by rw [HH.o.len]; exact hil)]
   rfl
  obtain ⟨y2, hy2⟩ := eY (if i ∈ T.map (·.1) then f y else y)
  have hya := dt_ (f := f) (T := T.map (·.1)) hy
  rw [hy2] at hya
  have hsn := e1_ (T := T.map (·.1)) hy Ai.o
  rw [hy2] at hsn
  have R1 := Ab.o W y2 i p _ hI.ji hya hpi hI.rc
  obtain ⟨r, hr⟩ := eY (P y2)
  rw [hr] at R1
  have b3 := hI.b3
  obtain ⟨HI, Aa, Ac, Ad, HR⟩ := kq5 hI hsn hya hpi hr
  have c5 : W.cell? ⟨p, 5, none⟩ = some (.int .i64 y2.gone) := (hI.ji.wrs i y2 p hya hpi).1.cell (j := 5) rfl
  have z5 : W.frozen? ⟨p, 5, none⟩ = false := (hI.ji.wrs i y2 p hya hpi).1.frozen 5
  dsimp only
  rw [hp]
  unfold ptV
  have R2 := kp R1
  clear hI hsn hya hpi hy2 hr R1
  obtain ⟨Ae, Ag⟩ := kq2 (HH.o.p_ne.2.2.2.2.2.1 p (mG Ad.o)).1 (mG Ad.o)
  cases r
  ·have hfy : f y2 = y2 := by first | (exfalso; have h0 := HR.o; cases h0; done) | (rw [<- HF.o]; unfold prgW; rw [if_neg (by simp only [HR.o]; simp)])
   rw [hfy] at Aa
   have Af := kp (Aa.o.trans (iz_ Ac.o))
   clear hfy Aa
   rcases hN with ⟨rfl, rfl⟩ | ⟨rfl, rfl⟩ | ⟨rfl, rfl⟩
   all_goals
    gi_wp2_with (refine ⟨trivial, ?_⟩; (first | gi_at_call 129 | gi_at_call 136 | gi_at_call 138); refine (CallsIn.inRound l (callsIn_wide.2 R2.o)).mono ?_; rintro e w' ⟨rfl, q, rfl⟩)
    have hd := ag_ W q
    refine ⟨⟨hd.size, fun k o hk ho => hk⟩, ⟨?_, HI.o.rc.below hd HI.o.rc.lt, HI.o.b3, HI.o.bj, HI.o.kp.trans (Kept.of_below hd)⟩⟩
    rw [List.map_append, List.map_cons, List.map_nil, Af.o]
    exact HI.o.ji.below hd
  have hfy : f y2 = { y2 with gone := 2 } := by rw [<- HF.o]; unfold prgW; rw [if_pos (by first | rfl | (simp only [HR.o]))]
  rw [hfy] at Aa
  rcases hN with ⟨rfl, rfl⟩ | ⟨rfl, rfl⟩ | ⟨rfl, rfl⟩
  all_goals
   gi_wp2_with (refine ⟨trivial, ?_⟩; (first | gi_at_call 129 | gi_at_call 136 | gi_at_call 138); refine (CallsIn.inRound l (callsIn_wide.2 R2.o)).mono ?_; rintro e w' ⟨rfl, q, rfl⟩)
   have hd := ag_ W q
   have hJ2 := HI.o.ji.below hd
   have htm := hJ2.times y2 (mG Ac.o)
   obtain ⟨s1, s2, s3⟩ := hJ2.setW Ac.o Ad.o (j := 5) (v := .int .i64 2) (x' := { y2 with gone := 2 }) rfl ⟨rfl, rfl, rfl, fun h => by simp at h, htm.1, htm.2⟩
   have ko := KeepsOthers.setCell (W.drewN q) ⟨p, 5, none⟩ (.int .i64 2)
   have hCp : C ≠ p := HI.o.rc.ne (hJ2.wrs i y2 p Ac.o Ad.o).1 (by decide)
   refine ⟨⟨ko.size, ko.same⟩, ⟨?_, s2.row (by simpa using hCp) (HI.o.rc.below hd HI.o.rc.lt), s2.cell (p := ⟨w.heap.size, 0, none⟩) (by simp; have := Ae.o; omega) HI.o.b3, s2.cell (p := ⟨w.heap.size + 1, 0, none⟩) (by simp; have := Ae.o; omega) HI.o.bj, (HI.o.kp.trans (Kept.of_below hd)).trans (s2.mono fun b hb => by simp at hb; subst hb; exact Ag.o)⟩⟩
   rw [List.map_append, List.map_cons, List.map_nil, Aa.o]
   exact s1
 case done =>
  rintro D xs W hD hS hI hK
  gi_wp2
  refine ⟨by simp, .inl ⟨_, _, rfl, run_takeDeferred hK, ?_⟩⟩
  have h2 := HO.o.putObj (.deferred none) hI hD hK rfl
  refine ⟨_, results_none rfl _ _ _, ⟨_, rfl⟩, ?_, h2.rc, h2.kp⟩
  rw [<- fS_ hS]
  exact h2.ji
theorem kt_ (w : World) (lim J : Nat) (grace : Int) (ws : List WrR) (es : Edges) (s : JS) (h : JI w lim J grace ws es s) (C : Nat) (LC : List Value) (hC : RowL w C 36 LC) (tag : ByteArray) (hL : LC[7]? = some (.string tag)) :
  CallsIn Fence.wide 6 Tryz.prog 134 #[ptV J, .func (.func 129) #[] #[.pointer (some ⟨C, 0, none⟩)]] w fun e w' => (∃ v, e = .returned v) /\ JI w' lim J grace (ws.map fun y => if y.gone = 0 then prgW (fun y => hasS y.tags tag) y else y) es s /\ RowL w' C 36 LC /\ Kept s.ps w w' :=
 ga_ 129 [.pointer (some ⟨C, 0, none⟩)] C (.inl ⟨rfl, rfl⟩) (fun y => hasS y.tags tag) (fun _ _ => rfl) w lim J grace ws es s h LC hC fun W y i p T hJ hy hp hc => by
  obtain ⟨ts, t0, t1, t2⟩ := hJ.vals2 i y hy
  rw [<- bq_ t2]
  exact tag129 p C _ ts tag W ((hJ.wrs i y p hy hp).1.cell (j := 2) rfl) (b7_ t1 t0) (hc.cell hL)
theorem ks_ (w : World) (lim J : Nat) (grace : Int) (ws : List WrR) (es : Edges) (s : JS) (h : JI w lim J grace ws es s) (C : Nat) (LC : List Value) (hC : RowL w C 36 LC) (pre : ByteArray) (hL : LC[8]? = some (.string pre)) :
  CallsIn Fence.wide 6 Tryz.prog 134 #[ptV J, .func (.func 136) #[] #[.pointer (some ⟨C, 0, none⟩)]] w fun e w' => (∃ v, e = .returned v) /\ JI w' lim J grace (ws.map fun y => if y.gone = 0 then prgW (fun y => hasP y.key pre) y else y) es s /\ RowL w' C 36 LC /\ Kept s.ps w w' :=
 ga_ 136 [.pointer (some ⟨C, 0, none⟩)] C (.inr (.inl ⟨rfl, rfl⟩)) (fun y => hasP y.key pre) (fun _ _ => rfl) w lim J grace ws es s h LC hC fun W y i p T hJ hy hp hc =>
  pre136 p C y.key pre W ((hJ.wrs i y p hy hp).1.cell (j := 0) rfl) (hc.cell hL)
theorem kr_ (w : World) (lim J : Nat) (grace : Int) (ws : List WrR) (es : Edges) (s : JS) (h : JI w lim J grace ws es s) (C : Nat) (LC : List Value) (hC : RowL w C 36 LC) :
  CallsIn Fence.wide 6 Tryz.prog 134 #[ptV J, .func (.func 138) #[] #[]] w fun e w' => (∃ v, e = .returned v) /\ JI w' lim J grace (ws.map fun y => if y.gone = 0 then prgW (fun _ => true) y else y) es s /\ RowL w' C 36 LC /\ Kept s.ps w w' :=
 ga_ 138 [] C (.inr (.inr ⟨rfl, rfl⟩)) (fun _ => true) (fun _ _ => rfl) w lim J grace ws es s h LC hC fun W y i p T hJ hy hp hc => all138 _ W
theorem gH_ (vals : Nat -> Value × Value) (ws : List WrR) (x : WrR) (vv vt : Value) : br_ (fun i => if i = ws.length then (vv, vt) else vals i) (ws ++ [x]) = br_ vals ws ++ cW_ x.key vv vt x.dl x.gone x.soft := by
 unfold br_
 have e : (ws ++ [x]).mapIdx (aP_ fun i => if i = ws.length then (vv, vt) else vals i) = ws.mapIdx (aP_ vals) ++ [cW_ x.key vv vt x.dl x.gone x.soft] := by
  apply List.ext_getElem?
  intro j
  rw [List.getElem?_mapIdx]
  rcases Nat.lt_trichotomy j ws.length with h | h | h
  ·rw [aL h, aL (by simp; exact h), List.getElem?_mapIdx]
   have e2 : aP_ (fun i => if i = ws.length then (vv, vt) else vals i) j = aP_ vals j := by
    funext y
    unfold aP_
    dsimp only
    rw [if_neg (show ¬ j = ws.length by omega)]
   rw [e2]
  ·subst h
   rw [aR (lR _), aR (by simp)]
   simp [aP_]
  rw [aR (by omega), aR (by simp; omega)]
  simp
  rw [List.getElem?_eq_none (by simp; omega), List.getElem?_eq_none (by simp; omega)]
  rfl
 rw [e]
 simp
theorem KI.push {w w' : World} {lim : LimP} {K : Nat} {grace : Int} {ws : List WrR} {es : Edges} {s : KS} (h : KI w lim K grace ws es s) {v' vv vt : Value} {x : WrR} (ho : w'.ownsRow lim 233 6 v' (ws.length + 1) (br_ s.vals ws ++ cW_ x.key vv vt x.dl x.gone x.soft)) (hk : Kept s.wv.ownBlock.toList w w')
  (hx1 : DatG w lim vv x.val) (hx2 : ∃ ts : List ByteArray, ts.length <= maxLen /\ w.ownsRow lim 9 1 vt ts.length (ts.map Value.string) /\ ∀ t, t ∈ ts ↔ t ∈ x.tags) (ht : IsT x.soft /\ IsT x.dl) (hf : ws.length < 5000) :
  KI (w'.setCell ⟨K, 1, none⟩ v') lim K grace (ws ++ [x]) es ⟨v', s.ev, fun i => if i = ws.length then (vv, vt) else s.vals i⟩ /\ Kept (K :: s.wv.ownBlock.toList) w (w'.setCell ⟨K, 1, none⟩ v') := by
 have hk2 : Kept (K :: s.wv.ownBlock.toList) w (w'.setCell ⟨K, 1, none⟩ v') := (hk.mono fun b hb => mM _ hb).setCell (by simp) v'
 have hr' : RowL w' K 145 [.int .u64 grace, s.wv, s.ev] := hk.row (fun hm => h.row.ne_own h.own (by decide) (by simpa using hm)) h.row
 have hd : ∀ {u : Value} {m : Nat} {xs : List Value} {e : TypeId} {size base : Nat}, w.ownsRow base e size u m xs -> e ≠ 233 -> e ≠ 145 -> (w'.setCell ⟨K, 1, none⟩ v').ownsRow base e size u m xs := fun {u m xs e size base} hx h1 h2 => hk2.own2 hx fun k hk' hu => by
  rcases List.mem_cons.1 hk' with rfl | hk'
  ·exact h.row.ne_own hx (fun e => h2 e.symm) hu
  rcases bB_ hx h.own h1 with h3 | h3
  ·rw [h3] at hu; cases hu
  rw [hu] at h3
  simp at hk'
  exact h3 hk'.symm
 have hb : Below lim w (w'.setCell ⟨K, 1, none⟩ v') := hk2.below h.lw fun b hb => by
  rcases List.mem_cons.1 hb with rfl | hb
  ·exact h.lK
  exact (h.own.lt b (by simpa using hb)).1
 refine ⟨⟨?_, h.isT, ?_, hd h.ownE (by decide) (by decide), by simp; omega, h.fewE, fun y hy => ?_, fun i y hi => ?_, fun i y hi => ?_, h.lK, lT h.lw hk2.size, fun g' l hg' => hk2.row (fun hm => by
  rcases List.mem_cons.1 hm with e | hm
  ·exact (h.fix g' l hg').ne h.row (by decide) e
  exact (h.fix g' l hg').ne_own h.own (by decide) (by simpa using hm)) (h.fix g' l hg')⟩, hk2⟩
 ·exact hr'.setCell 1 v' _ rfl
 ·dsimp only
  rw [gH_, lA]
  exact Go.ownsRow_setCell_other ho (hr'.ne_own ho (by decide)) v'
 ·rcases List.mem_append.1 hy with hy | hy
  ·exact h.times y hy
  simp at hy
  subst hy
  exact ht
 ·dsimp only
  by_cases e : i = ws.length
  ·subst e
   rw [if_pos rfl]
   simp at hi
   subst hi
   exact hx1.below hb (lR _)
  rw [if_neg e]
  have hl := (gS.1 hi).1
  simp at hl
  rw [aL (by omega)] at hi
  exact (h.vals1 i y hi).below hb (lR _)
 dsimp only
 by_cases e : i = ws.length
 ·subst e
  rw [if_pos rfl]
  simp at hi
  subst hi
  obtain ⟨ts, h1, h2, h3⟩ := hx2
  exact ⟨ts, h1, hd h2 (by decide) (by decide), h3⟩
 rw [if_neg e]
 have hl := (gS.1 hi).1
 simp at hl
 rw [aL (by omega)] at hi
 obtain ⟨ts, h1, h2, h3⟩ := h.vals2 i y hi
 exact ⟨ts, h1, hd h2 (by decide) (by decide), h3⟩
theorem ca_ : (Tryz.prog.info? 233).map (fun i => (i.zero, i.size, i.bytes)) = some (some (.agg #[.string ⟨#[]⟩, .slice none 0 0, .slice none 0 0, .int .u64 0, .int .i64 0, .int .u64 0]), 6, 88) := by kernel_rfl
theorem cF_ : Tryz.prog.underlying 142 = some (.slice 233) := by kernel_rfl
set_option maxHeartbeats 8000000
theorem n146 : (Tryz.f146.name == "runtime.NumGoroutine") = false := by decide
theorem b146 : Tryz.f146.body.isSome = true := rfl
theorem gw_ {ws : List WrR} {k : ByteArray} {d : Int} {i : Nat} {y : WrR} (h : aN_ ws k = some i) (hy : ws[i]? = some y) : ed_ ws k d = ws.set i { y with dl := d } := by
 unfold ed_
 rw [h]
 dsimp only
 apply List.ext_getElem?
 intro j
 rw [List.getElem?_modify, List.getElem?_set]
 have hl := (gS.1 hy).1
 by_cases e : i = j
 ·subst e
  simp [hl, hy]
  rw [gE hl] at hy
  rw [Option.some.inj hy]
  exact ⟨rfl, rfl, rfl, rfl, rfl⟩
 simp [e]
theorem box2 (w : World) (L L2 : List Value) : ∀ W2, W2 = (w.alloc (.cells L.toArray 52)).alloc (.cells L2.toArray 36) -> RowL W2 w.heap.size 52 L /\ RowL W2 (w.heap.size + 1) 36 L2 /\ Bw w W2 := by
 rintro W2 rfl
 have hb1 := below1 w (.cells L.toArray 52)
 have hs1 : (w.alloc (.cells L.toArray 52)).heap.size = w.heap.size + 1 := by simp only [World.alloc, Array.size_push]
 have hb2 := below1 (w.alloc (.cells L.toArray 52)) (.cells L2.toArray 36)
 have hr2 := RowL.new (w.alloc (.cells L.toArray 52)) 36 L2
 rw [hs1] at hr2
 exact ⟨(RowL.new w 52 L).below hb2 (RowL.new w 52 L).lt, hr2, hb1.trans (hb2.mono hb1.size)⟩
theorem KI.row_kept {w w' : World} {lim : LimP} {K : Nat} {grace : Int} {ws : List WrR} {es : Edges} {s : KS} (h : KI w lim K grace ws es s) (hK : Kept s.wv.ownBlock.toList w w') {X : Nat} {t : TypeId} {L : List Value} (hr : RowL w X t L) (ht : t ≠ 233) : RowL w' X t L :=
 hK.row (fun hm => hr.ne_own h.own ht (by simpa using hm)) hr
theorem KI.below_kept {w w' : World} {lim : LimP} {K : Nat} {grace : Int} {ws : List WrR} {es : Edges} {s : KS} (h : KI w lim K grace ws es s) (hK : Kept s.wv.ownBlock.toList w w') : Below lim w w' :=
 hK.below h.lw fun b hb => (h.own.lt b (by simpa using hb)).1
theorem KI.row_kept2 {w w' : World} {lim : LimP} {K : Nat} {grace : Int} {ws : List WrR} {es : Edges} {s : KS} (h : KI w lim K grace ws es s) (hK : Kept (K :: s.wv.ownBlock.toList) w w') {X : Nat} {t : TypeId} {L : List Value} (hr : RowL w X t L) (ht : t ≠ 233) (ht2 : t ≠ 145) : RowL w' X t L :=
 hK.row (fun hm => by
  rcases List.mem_cons.1 hm with e | hm
  ·exact hr.ne h.row ht2 e
  exact hr.ne_own h.own ht (by simpa using hm)) hr
theorem KI.below_kept2 {w w' : World} {lim : LimP} {K : Nat} {grace : Int} {ws : List WrR} {es : Edges} {s : KS} (h : KI w lim K grace ws es s) (hK : Kept (K :: s.wv.ownBlock.toList) w w') : Below lim w w' :=
 hK.below h.lw fun b hb => by
  rcases List.mem_cons.1 hb with rfl | hb
  ·exact h.lK
  exact (h.own.lt b (by simpa using hb)).1
section
variable {P : Program}
theorem aw_ {w w' : World} {ops : Array Oper} {o : Oper} {a : Act} {K : Act -> World -> Prop} {Q : Exit -> Act -> World -> Prop} {E : Prop} (hgd : o.guard = none) (v : Value) (hr : (execOp a.eval o).run P w = .ok (.value v) w') (h : K (a.put o.dst v) w') :
  if Region.wanted o (yielded ops a.tmps) = true then Oper.wp P o a w K Q else E := by
 rw [if_pos (show Region.wanted o (yielded ops a.tmps) = true by simp [Region.wanted, hgd])]
 unfold Oper.wp
 rw [hr]
 exact h
theorem da_ {w w' : World} {ops : Array Oper} {o : Oper} {a : Act} {K : Act -> World -> Prop} {Q : Exit -> Act -> World -> Prop} {E : Prop} (hgd : o.guard = none) (hr : (execOp a.eval o).run P w = .ok .skip w') (h : K (a.put o.dst undef) w') :
  if Region.wanted o (yielded ops a.tmps) = true then Oper.wp P o a w K Q else E := by
 rw [if_pos (show Region.wanted o (yielded ops a.tmps) = true by simp [Region.wanted, hgd])]
 unfold Oper.wp
 rw [hr]
 exact h
theorem aZ_ {w : World} {ops : Array Oper} {o : Oper} {a : Act} {K : Act -> World -> Prop} {Q : Exit -> Act -> World -> Prop} {E : Prop} (hgd : o.guard = none) (t : TypeId) (x : Operand) (ho : o.op = .buildSlice t 1 #[(0, x)])
  (e : TypeId) (z : Value) (size bytes : Nat) (v : Value) (cs : Array Value) (ht : P.underlying t = some (.slice e)) (hinfo : (P.info? e).map (fun i => (i.zero, i.size, i.bytes)) = some (some z, size, bytes))
  (hsz : 0 < size) (hle : size <= 2 ^ 24) (hv : a.eval x = v) (hcs : v.cells = cs) (hs : cs.size = size)
  (h : K (a.put o.dst (.slice (some ⟨w.heap.size, 0, none⟩) 1 1)) (w.alloc (.cells cs e))) :
  if Region.wanted o (yielded ops a.tmps) = true then Oper.wp P o a w K Q else E := by
 rw [if_pos (show Region.wanted o (yielded ops a.tmps) = true by simp [Region.wanted, hgd])]
 obtain ⟨i, hi, hz, h4, h5⟩ := info_parts hinfo
 refine wp_buildSlice t e 1 #[(0, x)] ho cs i z ht hi hz (by omega) (by omega) ?_ h
 rw [h4, Nat.one_mul]
 have : ((#[(0, x)] : Array (Nat × Operand)).map fun (i, x) => (i, a.eval x)).toList = [(0, v)] := by simp [hv]
 rw [this, iU_ v size _ (by rw [hcs, hs]) (by simp), hcs]
end
theorem KI.setE {w : World} {lim : LimP} {K B : Nat} {grace : Int} {ws : List WrR} {es es' : Edges} {s : KS} (h : KI w lim K grace ws es s) {v' : Value} (ho : w.ownsRow B 239 2 v' es'.length (bE_ es')) (hB : lim <= B) (hf : es'.length <= 5000) :
  KI (w.setCell ⟨K, 2, none⟩ v') lim K grace ws es' ⟨s.wv, v', s.vals⟩ /\ Kept [K] w (w.setCell ⟨K, 2, none⟩ v') := by
 have hk2 : Kept [K] w (w.setCell ⟨K, 2, none⟩ v') := (Kept.refl _ w).setCell (p := ⟨K, 2, none⟩) (by simp) v'
 have hd : ∀ {u : Value} {m : Nat} {xs : List Value} {e : TypeId} {size base : Nat}, w.ownsRow base e size u m xs -> e ≠ 145 -> (w.setCell ⟨K, 2, none⟩ v').ownsRow base e size u m xs := fun {u m xs e size base} hx h2 => hk2.own2 hx fun k hk' hu => by
  simp at hk'
  subst hk'
  exact h.row.ne_own hx (fun e => h2 e.symm) hu
 have hb : Below lim w (w.setCell ⟨K, 2, none⟩ v') := hk2.below h.lw fun b hb => by
  simp at hb
  subst hb
  exact h.lK
 refine ⟨⟨?_, h.isT, hd h.own (by decide), bh_ (hd ho (by decide)) hB, h.few, hf, h.times, fun i y hi => (h.vals1 i y hi).below hb (lR _), fun i y hi => ?_, h.lK, lT h.lw hk2.size, fun g' l hg' => hk2.row (by simp; intro e; exact (h.fix g' l hg').ne h.row (by decide) e) (h.fix g' l hg')⟩, hk2⟩
 ·exact h.row.setCell 2 v' _ rfl
 obtain ⟨ts, h1, h2, h3⟩ := h.vals2 i y hi
 exact ⟨ts, h1, hd h2 (by decide), h3⟩
theorem gL_ : (Tryz.prog.info? 239).map (fun i => (i.zero, i.size, i.bytes)) = some (some (.agg #[.string ⟨#[]⟩, .string ⟨#[]⟩]), 2, 32) := by kernel_rfl
theorem iC_ : Tryz.prog.underlying 143 = some (.slice 239) := by kernel_rfl
def bG_ (k c : ByteArray) (es : Edges) : Edges := es.filter (fun e => !decide (e = (k, c)))
theorem jH_ {k c : ByteArray} {es : Edges} {i : Nat} {e : ByteArray × ByteArray} (h : es[i]? = some e) : bG_ k c (es.take (i + 1)) = bG_ k c (es.take i) ++ if e = (k, c) then [] else [e] := by
 unfold bG_
 rw [tA, h]
 by_cases g : e = (k, c) <;> simp [g]
theorem dR_ (es : Edges) (e : ByteArray × ByteArray) : bE_ (es ++ [e]) = bE_ es ++ [.string e.1, .string e.2] := by
 unfold bE_
 simp [edgC]
theorem bO_ {w : World} {b : Nat} {e : TypeId} {size : Nat} {v : Value} {n : Nat} {xs : List Value} (h : w.ownsRow b e size v n xs) : ∃ A c, v = .slice A n c := by
 rcases h.2 with ⟨h1, h2⟩ | ⟨g, cap, cur, h1, _⟩
 ·exact ⟨none, 0, by rw [h1, h2]⟩
 exact ⟨_, _, h1⟩
theorem eq239 (a b c d : ByteArray) (w : World) : (Op.equalIn 10000 239 (.agg #[.string a, .string b]) (.agg #[.string c, .string d])).run Tryz.prog w = .ok (a.toList == c.toList && b.toList == d.toList) w := by
 have u9 := Tryz.underlying9
 have a9 := Tryz.isAgg9
 have z9 := Tryz.sizeOf9
 rw [show (10000 : Nat) = 9999 + 1 from rfl, Op.equalIn]
 simp only [Sem.run_bind, run_underlying Tryz.underlying239, Result.andThen_ok]
 simp only [Std.Legacy.Range.forIn_eq_forIn_range', Std.Legacy.Range.size, Nat.sub_zero, Nat.add_sub_cancel, Nat.div_one, List.range'_succ, List.range'_zero, List.forIn_cons, List.forIn_nil]
 go_simp
 by_cases h1 : a.toList = c.toList <;> by_cases h2 : b.toList = d.toList <;> simp [h1, h2]
theorem ix_ (w : World) (e : TypeId) (l : List Value) : Src (w.alloc (.cells l.toArray e)) (some ⟨w.heap.size, 0, none⟩) 1 1 l := by
 refine .inr ⟨_, rfl, fun j u hj => ?_⟩
 rw [Addr.add_mid, Nat.zero_add]
 exact (RowL.new w e l).cell hj
theorem gm_ {x : CallR} {es : Edges} (h : es.length < 5000) : (depE x es).length <= 5000 := by
 unfold depE
 rw [lA]
 have := List.length_filter_le (fun e => !decide (e = (x.cmd.key, x.cmd.chi))) es
 split <;> simp <;> omega
theorem ln_ {x : CallR} {es : Edges} (h : x.cmd.op = 11) : depE x es = bG_ x.cmd.key x.cmd.chi es ++ [(x.cmd.key, x.cmd.chi)] := by
 unfold depE bG_
 rw [if_pos h]
theorem lm_ {x : CallR} {es : Edges} (h : x.cmd.op = 12) : depE x es = bG_ x.cmd.key x.cmd.chi es := by
 unfold depE bG_
 rw [if_neg (by omega), List.append_nil]
theorem kq_ : ∀ (vs l : List Value) (o : Nat), o + vs.length = l.length -> putL l o vs = l.take o ++ vs
 | [], l, o, h => by
  simp at h
  subst h
  simp [putL]
 | v :: vs, l, o, h => by
  have h' : o + 1 + vs.length = l.length := by simp at h; omega
  unfold putL
  rw [kq_ vs (l.set o v) (o + 1) (by simp; omega)]
  apply List.ext_getElem?
  intro j
  rcases Nat.lt_trichotomy j o with hj | hj | hj
  ·rw [aL (by simp; omega), aL (by simp; omega), List.getElem?_take, List.getElem?_take, if_pos (by omega), if_pos hj, List.getElem?_set_ne (by omega)]
  ·subst hj
   rw [aL (by simp; omega), aR (by simp; omega), List.getElem?_take, if_pos (by omega), List.getElem?_set_self (by omega)]
   simp [Nat.min_eq_left (show j <= l.length by omega)]
  rw [aR (by simp; omega), aR (by simp; omega)]
  simp only [List.length_take, List.length_set]
  rw [Nat.min_eq_left (by omega), Nat.min_eq_left (by omega), show j - o = (j - (o + 1)) + 1 by omega, List.getElem?_cons_succ]
theorem f7_ {l vs : List Value} (h : vs.length = l.length) : putL l 0 vs = vs := by
 rw [kq_ vs l 0 (by omega)]
 simp
theorem ai_ : ∀ (vs : List Value) (o : Nat) (w : World) {B b : Nat}, B <= b -> Below B w (w.setCells b o vs)
 | [], o, w, B, b, h => BR _ _
 | v :: vs, o, w, B, b, h => ((BR B w).setCell (p := ⟨b, o, none⟩) h v).trans (ai_ vs (o + 1) (w.setCell ⟨b, o, none⟩ v) h)
structure BoxF (LX LC LR : List Value) (x : CallR) (p : CallV) : Prop where
 sx : ∀ (W : World) (X : Nat), RowL W X 52 LX -> CellsAt W ⟨X, 3, none⟩ LC /\ CellsAt W ⟨X, 13, none⟩ LR
 sz1 : (Tryz.prog.info? 36).map (·.size) = some LC.length
 sz2 : (Tryz.prog.info? 40).map (·.size) = some LR.length
 len : LC.length = 10 /\ LR.length = 6
 one : LC.toArray.all (·.oneCell') = true /\ LR.toArray.all (·.oneCell') = true
 put : putL [.int .i64 0, .string ⟨#[]⟩, .slice none 0 0, .slice none 0 0, .slice none 0 0, .int .u64 0, .int .u64 0, .string ⟨#[]⟩, .string ⟨#[]⟩, .string ⟨#[]⟩] 0 LC = LC /\ putL [.int .i64 0, .int .i64 0, .slice none 0 0, .int .u64 0, .int .i64 0, .slice none 0 0] 0 LR = LR
 atX : LX[22]? = some (.int .u64 x.tim)
 c0 : LC[0]? = some (.int .i64 x.cmd.op)
 c1 : LC[1]? = some (.string x.cmd.key)
 c2 : LC[2]? = some p.vk
 r2 : LR[2]? = some p.vi
 r3 : LR[3]? = some (.int .u64 x.resp.ver)
 r4 : LR[4]? = some (.int .i64 x.resp.count)
theorem boxF {w : World} {B : Nat} {LX LC LR : List Value} {x : CallR} {p : CallV} (hX : callC x p = LX) (hC : cmdC x.cmd p.vk p.vv p.vt = LC) (hR : respC x.resp p.vi p.vn = LR) (hx : CallOk w B x p) : BoxF LX LC LR x p := by
 subst hX hC hR
 obtain ⟨⟨⟨_, Ak, ck, ek, _⟩, ⟨_, _, Av, cv, ev, _⟩, ⟨_, At, ct, et, _⟩⟩, ⟨⟨_, Ai, ci, ei, _⟩, ⟨_, An, cn, en, _⟩⟩⟩ := hx
 refine ⟨fun W X h => ⟨CellsAt.slice h.cells 3 10, CellsAt.slice h.cells 13 6⟩, eV_ _ _ _ _ _ _ _ _ _ _, fw_ _ _ _ _ _ _, ⟨rfl, rfl⟩, ⟨?_, ?_⟩, ⟨f7_ rfl, f7_ rfl⟩, rfl, rfl, rfl, rfl, rfl, rfl, rfl⟩
 ·rw [ek, ev, et]
  unfold cmdC
  simp [Value.oneCell']
 rw [ei, en]
 unfold respC
 simp [Value.oneCell']
theorem yields_aggU {ops : Array Oper} {S : World -> Prop} {op : Oper} {a : Act} (hw : Region.wanted op (yielded ops a.tmps) = true) (ty : TypeId) (x : Operand) (ho : op.op = .load ty x)
  (ad : Addr) (hx : a.eval x = .pointer (some ad)) (cs : List Value) (fs : Array Field) (hS : ∀ w, S w -> CellsAt w ad cs)
  (hu : Tryz.prog.underlying ty = some (.struct fs)) (hi : (Tryz.prog.info? ty).map (·.size) = some cs.length) : YieldsIf Tryz.prog ops S op (.agg cs.toArray) a :=
 .inl ⟨hw, fun w hw' => by
  unfold execOp
  simp only [ho, hx, Instr.loadAt, Instr.sureAddr, Sem.run_bind, Sem.run_pure, Result.andThen_ok, af_ w ad ty cs _ (hS w hw') hu rfl hi]⟩
theorem wrt_size (a b c d e f : Value) : (Tryz.prog.info? 233).map (·.size) = some [a, b, c, d, e, f].length := by
 show _ = some 6
 kernel_rfl
theorem RdK.mono {w : World} {B B' J : Nat} {grace : Int} {ws : List WrR} (h : RdK w B J grace ws) (hB : B <= B') : RdK w B' J grace ws :=
 ⟨lL h.ltJ hB, h.isT, h.few, h.grc, h.soft, by
  obtain ⟨A, c, h1, h2⟩ := h.row
  refine ⟨A, c, h1, fun i x hi => ?_⟩
  obtain ⟨b, off, vv, vt, e1, e2, e3, e4, ts, e5, e6⟩ := h2 i x hi
  exact ⟨b, off, vv, vt, e1, lL e2 hB, e3, e4.mono hB, ts, e5.mono hB, e6⟩⟩
end Go.Proofs.YtnjhpgmbfblgaaaGreat.Ord
