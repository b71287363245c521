/- Valid: what the maps and the row of the walk hold; The responses of each session: the. -/
import Derived.Test.YtnjhpgmbfblgaaaGreatMS6
import Derived.Test.YtnjhpgmbfblgaaaGreatJ1
import Derived.Test.YtnjhpgmbfblgaaaGreatMC3
import Derived.Deep.DeepCutAuto
import Derived.Test.YtnjhpgmbfblgaaaGreatMP0
set_option linter.unusedVariables false
set_option linter.unusedSimpArgs false
namespace Go.Proofs.YtnjhpgmbfblgaaaGreat.Ord
open Go.RowKit
def RowCO (w : World) (B : Nat) (A : Option Addr) (l : List (CallR × CallV)) : Prop :=
 ∀ i x, l[i]? = some x -> ∃ b off, A = some ⟨b, off, none⟩ /\ b < B /\ CellsAt w ⟨b, off + i * 23, none⟩ (callC x.1 x.2) /\ CallOk w B x.1 x.2
theorem RowCO.below {B B' : Nat} {w w' : World} {A : Option Addr} {l : List (CallR × CallV)} (h : RowCO w B A l) (hb : Below B' w w') (hB : B <= B') : RowCO w' B' A l := by
 intro i r hi
 obtain ⟨b, off, h1, h2, h3, h4⟩ := h i r hi
 exact ⟨b, off, h1, by omega, h3.below hb (by show b < B'; omega), (h4.below hb hB).mono hB⟩
def dY_ (L : List (CallR × CallV)) (k : Int) : Option Value := ((L.filter fun x => x.1.ses == k).getLast?).map fun x => .agg (callC x.1 x.2).toArray
def dW_ (L : List (CallR × CallV)) (k : Int) : Bool := L.any fun x => k == x.1.asked || k == x.1.done || k == x.1.told
def hF_ (L : List (CallR × CallV)) (k : Int) : Option Value := if dW_ L k = true then some (.bool true) else none
theorem jF_ (L : List (CallR × CallV)) (x : CallR × CallV) (k : Int) : dY_ (L ++ [x]) k = if k = x.1.ses then some (.agg (callC x.1 x.2).toArray) else dY_ L k := by
 unfold dY_
 by_cases h : k = x.1.ses
 ·subst h; simp
 have h1 : (x.1.ses == k) = false := by simpa using fun e => h e.symm
 rw [List.filter_append, List.filter_cons_of_neg (by simp [h1]), List.filter_nil, List.append_nil, if_neg h]
theorem jj_ (L : List (CallR × CallV)) (x : CallR × CallV) (k : Int) : dW_ (L ++ [x]) k = (dW_ L k || (k == x.1.asked || k == x.1.done || k == x.1.told)) := by simp [dW_]
theorem dc_ (L : List (CallR × CallV)) (k : Int) : dW_ L k = true ↔ Seen (L.map (·.1)) k := by
 unfold dW_ Seen
 rw [List.any_eq_true]
 constructor
 ·rintro ⟨x, hx, h⟩
  refine ⟨x.1, List.mem_map_of_mem hx, ?_⟩
  simp at h
  omega
 rintro ⟨y, hy, h⟩
 obtain ⟨x, hx, rfl⟩ := List.mem_map.1 hy
 refine ⟨x, hx, ?_⟩
 simp
 omega
def aU_ (x : CallR) : Nat -> Int
 | 0 => x.asked
 | 1 => x.done
 | _ => x.told
def cN_ (L : List (CallR × CallV)) (x : CallR) (j : Nat) (k : Int) : Bool := dW_ L k || (decide (0 < j) && k == x.asked || decide (1 < j) && k == x.done || decide (2 < j) && k == x.told)
def b9_ (L : List (CallR × CallV)) (x : CallR) (j : Nat) (k : Int) : Option Value := if cN_ L x j k = true then some (.bool true) else none
theorem jh_ (L : List (CallR × CallV)) (x : CallR) (k : Int) : cN_ L x 0 k = dW_ L k := by simp [cN_]
theorem hG_ (L : List (CallR × CallV)) (x : CallR × CallV) (k : Int) : cN_ L x.1 3 k = dW_ (L ++ [x]) k := by rw [jj_]; simp [cN_]
theorem ji_ (L : List (CallR × CallV)) (x : CallR) {j : Nat} (hj : j < 3) (k : Int) : cN_ L x (j + 1) k = (cN_ L x j k || k == aU_ x j) := by
 unfold cN_
 rcases j with _ | _ | _ | j
 ·simp [aU_]
 ·simp [aU_, Bool.or_assoc]
 ·simp [aU_, Bool.or_assoc]
 omega
theorem ej_ (L : List (CallR × CallV)) (x : CallR) {j : Nat} (hj : j < 3) (k : Int) : b9_ L x (j + 1) k = if k = aU_ x j then some (.bool true) else b9_ L x j k := by
 unfold b9_
 rw [ji_ L x hj k]
 by_cases h : k = aU_ x j
 ·simp [h]
 have h1 : (k == aU_ x j) = false := by simpa using h
 rw [h1, Bool.or_false, if_neg h]
theorem ei_ (L : List (CallR × CallV)) (x : CallR) (k : Int) : b9_ L x 0 k = hF_ L k := by unfold b9_ hF_; rw [jh_]
theorem dI_ (L : List (CallR × CallV)) (x : CallR × CallV) (k : Int) : b9_ L x.1 3 k = hF_ (L ++ [x]) k := by unfold b9_ hF_; rw [hG_]
theorem gD_ {x : CallR} (h : singleB x = true) (L : List (CallR × CallV)) {j : Nat} (hj : j < 3) (h0 : 0 <= aU_ x j) : cN_ L x j (aU_ x j) = dW_ L (aU_ x j) := by
 have ho : ordB x = true := by
  cases e : ordB x
  ·rw [bn_ e] at h; cases h
  rfl
 simp only [ordB, decide_eq_true_eq] at ho
 unfold cN_
 rcases j with _ | _ | _ | j
 ·simp
 ·simp only [aU_] at h0 ⊢
  have h1 : (x.done == x.asked) = false := by simp; omega
  simp [h1]
 ·simp only [aU_] at h0 ⊢
  have h1 : (x.told == x.asked) = false := by simp; omega
  have h2 : (x.told == x.done) = false := by simp; omega
  simp [h1, h2]
 omega
structure OkP (pre : List CallR) (x : CallR) : Prop where
 one : singleB x = true
 ask : ∀ y, pre.getLast? = some y -> y.asked < x.asked
 fresh : ∀ j, j < 3 -> 0 <= aU_ x j -> ¬ Seen pre (aU_ x j)
 ses : SesP pre x
theorem kE_ {pre : List CallR} (h : Fit singleB pre) (x : CallR) : Okc singleB pre x ↔ OkP pre x := by
 rw [Okc.iff h x]
 constructor
 ·rintro ⟨h1, h2, h3, h4⟩
  refine ⟨h1, h2, fun j hj h0 => ?_, h4⟩
  rw [<- eJ_]
  refine h3 _ ?_ h0
  rcases j with _ | _ | _ | j
  ·simp [aU_]
  ·simp [aU_]
  ·simp [aU_]
  omega
 rintro ⟨h1, h2, h3, h4⟩
 refine ⟨h1, h2, fun n hn h0 => ?_, h4⟩
 rw [eJ_]
 simp at hn
 rcases hn with rfl | rfl | rfl
 ·exact h3 0 (by omega) h0
 ·exact h3 1 (by omega) h0
 exact h3 2 (by omega) h0
theorem kG_ {l pre post : List CallR} {x : CallR} (e : l = pre ++ x :: post) (h : ¬ OkP pre x) : ¬ ValidP singleB l := fun hv => by
 have hf := hv.2.1
 have h1 := hf pre x post e
 have h2 : Fit singleB pre := Fit.front (l' := x :: post) (e ▸ hf)
 exact h ((kE_ h2 x).1 h1)
def bz_ (L : List (CallR × CallV)) : List (CallR × CallV) := L.filter fun x => decide (0 <= x.1.done)
theorem eO_ (L : List (CallR × CallV)) (x : CallR × CallV) : bz_ (L ++ [x]) = if 0 <= x.1.done then bz_ L ++ [x] else bz_ L := by
 by_cases h : 0 <= x.1.done <;> simp [bz_, h]
theorem jO_ (L : List (CallR × CallV)) : (bz_ L).map (·.1) = gl_ (L.map (·.1)) := by
 unfold bz_ gl_
 rw [List.filter_map]
 rfl
theorem jP_ (L : List (CallR × CallV)) : (bz_ L).length <= L.length := List.length_filter_le _ _
theorem fZ_ {L : List (CallR × CallV)} {k : Int} : (bv_ (L.map (·.1)) k).getLast? = ((L.filter fun x => x.1.ses == k).getLast?).map (·.1) := by
 unfold bv_
 rw [List.filter_map, List.getLast?_map]
 rfl
structure VInv (w0 : World) (v : Value) (pre : List (CallR × CallV)) (w : World) : Prop where
 last : MapAt w w0.heap.size (dY_ pre)
 seen : MapAt w (w0.heap.size + 1) (hF_ pre)
 own : w.ownsRow (w0.heap.size + 2) 52 23 v (bz_ pre).length (callsV (bz_ pre))
 below : Bw w0 w
 size : w0.heap.size + 2 <= w.heap.size
def VlPost (L : List (CallR × CallV)) (w : World) (e : Ending) (w' : World) : Prop := ∃ b, e = .returned (.bool b) /\ (b = true ↔ ValidP singleB (L.map (·.1))) /\ Bw w w'
theorem VlPost.no {L pre post : List (CallR × CallV)} {x : CallR × CallV} {w w' : World} {e : Ending} (he : e = .returned (.bool false)) (hL : L = pre ++ x :: post) (h : ¬ OkP (pre.map (·.1)) x.1) (hb : Bw w w') : VlPost L w e w' :=
 ⟨false, he, ⟨fun h => by (cases h), fun hv => absurd hv (kG_ (by rw [hL, List.map_append, List.map_cons]) h)⟩, hb⟩
abbrev RV := RespR × Value × Value
def rv (x : RV) : List Value := respC x.1 x.2.1 x.2.2
section
variable {T : TypeId} {w w' : World} {base : Nat} {o : Value} {vs : List Value} {rs : List (List RV)}
end

theorem dq_ {w : World} {b o : Nat} {l1 l2 l3 : List Value} (h : CellsAt w ⟨b, o, none⟩ (l1 ++ (l2 ++ l3))) : CellsAt w ⟨b, o + l1.length, none⟩ l2 := fun j v hj => by
 have hl := (gS.1 hj).1
 have h1 : (l1 ++ (l2 ++ l3))[l1.length + j]? = some v := by
  rw [aR (by omega), Nat.add_sub_cancel_left, aL hl, hj]
 have h2 := h (l1.length + j) v h1
 rw [Addr.add_mid] at h2 ⊢
 rw [Nat.add_assoc]
 exact h2
theorem call_cmd {w : World} {b o : Nat} {x : CallR} {p : CallV} (h : CellsAt w ⟨b, o, none⟩ (callC x p)) : CellsAt w ⟨b, o + 3, none⟩ (cmdC x.cmd p.vk p.vv p.vt) :=
 dq_ (l1 := [.int .i64 x.ses, .int .i64 x.num, .bool x.bad]) (l3 := respC x.resp p.vi p.vn ++ [.int .i64 x.asked, .int .i64 x.done, .int .i64 x.told, .int .u64 x.tim]) h
theorem lw_ {w : World} {b o : Nat} {x : CallR} {p : CallV} (h : CellsAt w ⟨b, o, none⟩ (callC x p)) : CellsAt w ⟨b, o + 13, none⟩ (respC x.resp p.vi p.vn) :=
 dq_ (l1 := [.int .i64 x.ses, .int .i64 x.num, .bool x.bad] ++ cmdC x.cmd p.vk p.vv p.vt) (l3 := [.int .i64 x.asked, .int .i64 x.done, .int .i64 x.told, .int .u64 x.tim]) h
set_option maxRecDepth 100000
set_option maxHeartbeats 16000000
theorem f4_ {P : Program} {w : World} {T K E : TypeId} {b : Nat} {f : Int -> Option Value} (h : MapAt w b f) (hT : P.underlying T = some (.map K E)) (hK : P.underlying K = some (.int .i64)) (z : Value) (hz : (zeroValue E).run P w = .ok z w) (k : Int) :
  (Instr.lookup T (.map (some b)) (.int .i64 k) true).run P w = .ok (.tuple #[(f k).getD z, .bool (f k).isSome]) w := by
 obtain ⟨es, c, hb, hk, hf⟩ := h
 have h1 := Go.MapKept.run_getObj_map (P := P) hb
 have h2 : ∀ e, (Instr.checkKey e 10000 K (.int .i64 k)).run P w = .ok () w := fun e => Go.MapKept.run_checkKey hK (by simp [Go.MapKept.IsKey]) e 9999
 rcases cJ_ k es.toList 0 hk.1 with ⟨g1, g2, g3⟩ | ⟨j, e, g1, g2, g3, g4⟩
 ·have h3 := Go.MapKept.run_findKey (P := P) (w := w) hK g3
  rw [<- hf k, g1]
  unfold Instr.lookup
  rw [Sem.run_bind, run_underlying hT]
  simp [Sem.run_bind, h1, h2, h3, hz]
 have h3 := Go.MapKept.run_findKey (P := P) (w := w) hK g4
 rw [<- hf k, g3]
 unfold Instr.lookup
 rw [Sem.run_bind, run_underlying hT]
 simp [Sem.run_bind, h1, h2, h3]
theorem g6_ {L : List (CallR × CallV)} {m : Nat} (h : m < L.length) : ((L.take (m + 1)).map (·.1)).getLast? = some L[m].1 := by
 rw [tA, gE h, Option.toList_some, List.map_append, List.map_singleton]
 exact List.getLast?_concat
theorem ds_ {w w' : World} {b o : Nat} (h : w'.heap[b]? = w.heap[b]?) : w'.cell? ⟨b, o, none⟩ = w.cell? ⟨b, o, none⟩ := by simp only [World.cell?, h]
def zeroC : List Value := fd_ 0 0 false 0 ⟨#[]⟩ (.slice none 0 0) (.slice none 0 0) (.slice none 0 0) 0 0 ⟨#[]⟩ ⟨#[]⟩ ⟨#[]⟩ 0 0 (.slice none 0 0) 0 0 (.slice none 0 0) 0 0 0 0
theorem jE_ (pre : List (CallR × CallV)) (x : CallR) (h1 : ∀ y ∈ pre, ∀ v ∈ callC y.1 y.2, v.oneCell' = true) (hf : Fit singleB (pre.map (·.1))) (hlen : pre.length <= 4096) : ∃ (lz : List Value) (ok : Bool) (lt ln : Int), (dY_ pre x.ses).getD (.agg zeroC.toArray) = .agg lz.toArray /\ (dY_ pre x.ses).isSome = ok /\ lz.length = 23 /\ (∀ v ∈ lz, v.oneCell' = true) /\ lz[1]? = some (.int .i64 ln) /\ lz[21]? = some (.int .i64 lt) /\ (0 <= ln /\ ln <= 4096) /\ (Tryz.prog.info? 52).map (·.size) = some lz.toArray.size /\ (SesP (pre.map (·.1)) x ↔ if ok = true then (0 <= lt /\ lt < x.asked /\ x.num = ln + 1) else x.num = 0) := by
 cases hl : (pre.filter fun y => y.1.ses == x.ses).getLast? with
 | none =>
  refine ⟨zeroC, false, 0, 0, by simp [dY_, hl], by simp [dY_, hl], rfl, ?_, rfl, rfl, ⟨by omega, by omega⟩, cL_ _ _ _ _ _ _ _ _ _ _ _ _ _ _ _ _ _ _ _ _ _ _ _, ?_⟩
  ·exact hr_ (x := ⟨0, 0, false, cmdZ, ap_ 0 0, 0, 0, 0, 0⟩) (p := ⟨.slice none 0 0, .slice none 0 0, .slice none 0 0, .slice none 0 0, .slice none 0 0⟩) rfl rfl rfl rfl rfl
  unfold SesP
  rw [fZ_, hl]
  simp
 | some y =>
  have hy : y ∈ pre := (List.mem_filter.1 (List.mem_of_getLast? hl)).1
  have hnum : 0 <= y.1.num /\ y.1.num <= 4096 := by
   have h2 : (bv_ (pre.map (·.1)) x.ses).getLast? = some y.1 := by rw [fZ_, hl]; rfl
   have h3 := (hf.last h2).1
   have h4 : (bv_ (pre.map (·.1)) x.ses).length <= pre.length := by
    have := List.length_filter_le (fun y : CallR => y.ses == x.ses) (pre.map (·.1))
    rwa [lM_] at this
   have h5 := List.length_pos_of_mem (List.mem_of_getLast? h2)
   omega
  refine ⟨callC y.1 y.2, true, y.1.told, y.1.num, by simp [dY_, hl], by simp [dY_, hl], rfl, h1 y hy, rfl, rfl, hnum, cL_ _ _ _ _ _ _ _ _ _ _ _ _ _ _ _ _ _ _ _ _ _ _ _, ?_⟩
  unfold SesP
  rw [fZ_, hl]
  simp
theorem own_eq {w w' : World} {base : Nat} {e : TypeId} {size n : Nat} {v : Value} {xs : List Value} (h : w.ownsRow base e size v n xs) (hb : ∀ g, base <= g -> g < w.heap.size -> w'.heap[g]? = w.heap[g]?) : w'.ownsRow base e size v n xs :=
 ⟨h.1, h.2.imp id fun ⟨g, cap, cur, h1, h2, h3, h4⟩ => ⟨g, cap, cur, h1, h2, (hb g h2 (Array.getElem?_eq_some_iff.1 h3).1).trans h3, h4⟩⟩
theorem j3_ (w : World) : VInv w (.slice none 0 0) [] ((w.alloc (.map #[] 0)).alloc (.map #[] 0)) := by
 have hm := MapAt.new w
 have hm2 := MapAt.new (w.alloc (.map #[] 0))
 rw [bF_] at hm2
 exact ⟨(hm.of_block ((below1 _ _).block _ hm.lt)).congr fun k => rfl, hm2.congr fun k => rfl, ⟨by simp [bz_], .inl ⟨rfl, rfl⟩⟩, dT_ w _ _, by simp⟩
theorem j5_ {L L' : List (CallR × CallV)} (hn : L.length <= 4096) (hf : Fit singleB (L.map (·.1))) (hp : L'.Perm (bz_ L)) (hs : L'.Pairwise fun a b => ¬ b.1.done < a.1.done) : j9_ L' = true ↔ ValidP singleB (L.map (·.1)) := by
 have h1 : (L'.map (·.1)).Perm (gl_ (L.map (·.1))) := by rw [<- jO_]; exact hp.map _
 have h2 : (L'.map (·.1)).Pairwise fun a b => ¬ b.done < a.done := by rw [List.pairwise_map]; exact hs
 have h3 := gx_ hf h1 h2
 unfold j9_
 rw [decide_eq_true_iff]
 constructor
 ·intro h
  refine ⟨by rw [lM_]; exact hn, hf, h3.2 fun i hi => ?_⟩
  have hi2 : i < L'.length - 1 := by rw [lM_] at hi; omega
  have := h i hi2
  simp only [List.getElem_map]
  omega
 intro h i hi
 have hi2 : i + 1 < (L'.map (·.1)).length := by rw [lM_]; omega
 have := h3.1 h.2.2 i hi2
 simp only [List.getElem_map] at this
 omega
theorem valid25 (L : List (CallR × CallV)) (A : Option Addr) (n c : Nat) (w : World) (hn : L.length = n) (hl : n <= maxLen) (hA : RowCO w w.heap.size A L) (hs : ∀ x ∈ L, CallS x.1) :
  Calls Tryz.prog 25 #[.slice A n c] w (VlPost L w) := by
 have hn' : n <= 9223372036854775807 := by unfold maxLen at hl; omega
 by_cases hlong : 4096 < n
 ·have hg : decide (4096 < (n : Int)) = true := by simp; omega
  have HF := kp (show ¬ ValidP singleB (L.map (·.1)) from fun h => by have := h.1; rw [lM_] at this; omega)
  clear hA
  go_enter Tryz.func25, Tryz.ntmps25
  go_wp2_with fail
  go_ret
  exact ⟨false, rfl, ⟨fun h => by (cases h), fun h => absurd h HF.o⟩, BR _ _⟩
 have hg : decide (4096 < (n : Int)) = false := by simp; omega
 have hn4 : n <= 4096 := by omega
 have HA := kp hA
 have HN := kp hn
 have HS := kp hs
 have Cq := kp (j3_ w)
 have Ap := kp (show ∀ y ∈ L, ∀ v ∈ callC y.1 y.2, v.oneCell' = true from fun y hy => by
  obtain ⟨i, hi⟩ := mI.1 hy
  obtain ⟨_, _, _, _, _, hok⟩ := HA.o i y hi
  exact cD_ hok)
 have hmk : ∀ w, (Instr.makeMap 122 none).run Tryz.prog w = .ok (.map (some w.heap.size)) (w.alloc (.map #[] 0)) := fun _ => rfl
 have hmk2 : ∀ w, (Instr.makeMap 119 none).run Tryz.prog w = .ok (.map (some w.heap.size)) (w.alloc (.map #[] 0)) := fun _ => rfl
 clear hA hn hs hlong
 go_enter Tryz.func25, Tryz.ntmps25
 go_upto_region 6 with (fail)
 obtain ⟨W0, hW0⟩ := eY ((w.alloc (.map #[] 0)).alloc (.map #[] 0))
 rw [hW0] at Cq ⊢
 clear hW0
 go_wp2_with fail
 go_loopw [5, 19] (fun s5 s19 wr => ∃ (k : Nat), k <= n /\ s19 = .int .i64 k /\ VInv w s5 (L.take k) wr /\ Fit singleB ((L.take k).map (·.1))) (fun _ j _ => n - (intOf j).toNat)
 case atStart => exact ⟨0, Nat.zero_le _, by go_num, Cq.o, by simpa using Fit.nil singleB⟩
 obtain ⟨k, hk, rfl, hinv, hfit⟩ := hrel
 obtain ⟨w5, rfl⟩ := eX wr
 obtain ⟨A1, c1, rfl⟩ := kz_ hinv.own
 obtain ⟨m1, hm1⟩ := eY ((bz_ (L.take k)).length)
 have Bx := kp hm1
 have hm1k : m1 <= k := by
  have := jP_ (L.take k)
  rw [List.length_take] at this
  omega
 rw [hm1] at hinv ⊢
 clear hm1
 obtain ⟨Aa, An⟩ := kq2 hinv hfit
 clear hinv hfit
 by_cases hlt : k < n
 ·have hg2 : decide ((k : Int) < (n : Int)) = true := eT_ (by omega)
  have hk1 : k < L.length := by rw [HN.o]; exact hlt
  obtain ⟨x, hx⟩ := eY (L[k])
  have hxk := gE hk1
  rw [hx] at hxk
  obtain ⟨Cu, Au⟩ := kq2 hxk (show L = L.take k ++ x :: L.drop (k + 1) by rw [<- hx, List.getElem_cons_drop, List.take_append_drop])
  have hxs := HS.o x (mG hxk)
  obtain ⟨b, off, rfl, hbB, hck, hok⟩ := (HA.o.below Aa.o.below (lR _)) k x hxk
  have hbr : b < w5.heap.size := by have := Aa.o.size; omega
  have h60 : ∀ W, Bw w5 W -> Calls Tryz.prog 60 #[.agg (callC x.1 x.2).toArray] W fun e w' => e = .returned (.bool (singleB x.1)) /\ Bw W w' := fun W hW => single60 x.1 x.2 hxs W ((((hok.mono (by have := Aa.o.size; omega : w.heap.size <= w5.heap.size)).below hW (lR _)).mono hW.size))
  have hone := cD_ hok
  have hsz := cM_ x
  have hlen : (callC x.1 x.2).length = 23 := rfl
  have hsA : (Tryz.prog.info? 52).map (·.size) = some (callC x.1 x.2).toArray.size := cL_ _ _ _ _ _ _ _ _ _ _ _ _ _ _ _ _ _ _ _ _ _ _ _
  obtain ⟨ses, hses⟩ := eY x.1.ses
  obtain ⟨num, hnum⟩ := eY x.1.num
  obtain ⟨asked, hask⟩ := eY x.1.asked
  obtain ⟨done, hdone⟩ := eY x.1.done
  obtain ⟨told, htold⟩ := eY x.1.told
  have l0 : (callC x.1 x.2)[0]? = some (.int .i64 ses) := by rw [<- hses]; rfl
  have l1 : (callC x.1 x.2)[1]? = some (.int .i64 num) := by rw [<- hnum]; rfl
  have l19 : (callC x.1 x.2)[19]? = some (.int .i64 asked) := by rw [<- hask]; rfl
  have l20 : (callC x.1 x.2)[20]? = some (.int .i64 done) := by rw [<- hdone]; rfl
  have l21 : (callC x.1 x.2)[21]? = some (.int .i64 told) := by rw [<- htold]; rfl
  obtain ⟨l, hlc⟩ := eY (callC x.1 x.2)
  have Cn := kp hlc
  rw [hlc] at hck h60 hone hsz hlen hsA l0 l1 l19 l20 l21
  obtain ⟨Hk, HZ, Ct, H1, Cw, Ak, H60, Bc, Bv, Ao, Av, Bt⟩ := kq12 hck hsz hsA (all_oneCell_toArray hone) hone hlen h60 hses hnum hask hdone htold
  obtain ⟨Cp, Co, Al, Bj, By, Db⟩ := kq6 l0 l1 l19 l20 l21 hbr
  clear hx hxk hxs hck hok h60 hone hsz hlen hsA l0 l1 l19 l20 l21 hlc hses hnum hask hdone htold hbB hbr
  go_upto_region 9 with (first
   | ((with_reducible refine wpList_load_agg (o := ⟨some 23, _, _, _, _, _⟩) rfl 52 _ rfl ⟨b, off + k * 23, none⟩ ?_ l _ Hk.o Tryz.underlying52 rfl HZ.o ?_); (· rfl))
   | ((with_reducible refine ab_ (op := ⟨none, _, _, _, _, _⟩) rfl 52 _ _ rfl w5.heap.size 0 l.toArray ?_ ?_ ?_ Ct.o H1.o ?_); (· rfl); (· rfl); (· exact aY_ _ _ _ _ Ak.o); intro w7 hw7; have hx7 : RowL w7 w5.heap.size 52 l /\ Bw w5 w7 := (by rw [hw7]; exact aM_ w5 52 l _ Ak.o); clear hw7; have Ab := kp hx7.1; have Ac := kp hx7.2; clear hx7))
  obtain ⟨HQ, Q19⟩ := kq2 Ab.o.cells.regrown (cell_kept Tryz.isAgg3 (Ab.o.cell Al.o))
  simp only [Act.put]
  go_cut [41] (fun s41 W' => ∃ t, s41 = .bool t /\ Bw w7 W' /\ Hid ((t = true -> ¬ OkP ((L.take k).map (·.1)) x.1) /\ (t = false -> singleB x.1 = true /\ ∀ y, ((L.take k).map (·.1)).getLast? = some y -> y.asked < x.1.asked)))
  case first =>
   cases hsg : singleB x.1
   ·rw [hsg] at H60
    refine wp_region_quiet_below (by kernel_rfl) (by kernel_rfl) ?_
    repeat (first
     | ((with_reducible refine ay_ (o := ⟨some 24, _, _, _, _, _⟩) rfl 52 _ rfl ⟨w5.heap.size, 0, none⟩ ?_ l _ HQ.o Tryz.underlying52 rfl HZ.o ?_); (· rfl); simp only [Act.put, z1, z2, z3])
     | go_big_quiet_step ((go_at_call 60; exact Calls.regrown_of (H60.o _ (Ac.o.trans ((below_regrown _ _ _).mono Ac.o.size))))))
    refine wpQuiet_nil ?_
    intro W3 hW3
    have hb3 := an_ hW3
    clear hW3
    go_wp2_with fail
    go_meet
    case rel => exact ⟨true, rfl, hb3, ⟨fun _ h => by (have := h.one; rw [hsg] at this; cases this), fun h => by (cases h)⟩⟩
   rw [hsg] at H60
   by_cases hk0 : k = 0
   ·subst hk0
    refine wp_region_quiet_below (by kernel_rfl) (by kernel_rfl) ?_
    repeat (first
     | ((with_reducible refine ay_ (o := ⟨some 24, _, _, _, _, _⟩) rfl 52 _ rfl ⟨w5.heap.size, 0, none⟩ ?_ l _ HQ.o Tryz.underlying52 rfl HZ.o ?_); (· rfl); simp only [Act.put, z1, z2, z3])
     | go_big_quiet_step ((go_at_call 60; exact Calls.regrown_of (H60.o _ (Ac.o.trans ((below_regrown _ _ _).mono Ac.o.size))))))
    refine wpQuiet_nil ?_
    intro W3 hW3
    have hb3 := an_ hW3
    clear hW3
    go_wp2_with fail
    go_meet
    case rel => exact ⟨false, rfl, hb3, ⟨fun h => by (cases h), fun _ => ⟨hsg, fun y hy => by simp at hy⟩⟩⟩
   obtain ⟨m, rfl⟩ : ∃ m, k = m + 1 := ⟨k - 1, by omega⟩
   have hm1 : m < L.length := by rw [HN.o]; omega
   obtain ⟨b', off', he, _, hcm, _⟩ := (HA.o.below (Aa.o.below) (lR _)) m _ (gE hm1)
   obtain ⟨rfl, rfl⟩ : b = b' /\ off = off' := by simpa using he
   clear he hk0
   obtain ⟨pa, hpa⟩ := eY (L[m].1.asked)
   have c38 : w7.cell? ⟨b, off + m * 23 + 19, none⟩ = some (.int .i64 pa) := by
    rw [Ac.o.cell Db.o, <- hpa]
    exact hcm 19 _ rfl
   obtain ⟨Aq, Q38, Cj⟩ := kq3 (g6_ hm1) (cell_kept Tryz.isAgg3 c38) hpa
   have e1 : ((m : Int) + 1 - 1) = (m : Int) := by omega
   have e2 : IntKind.i64.wrap (m : Int) = (m : Int) := by rw [IntKind.wrap_i64]; omega
   have e4 : (m : Int) < (n : Int) := by omega
   have e5 : (0 : Int) < (m : Int) + 1 := by omega
   have e6 : decide ((0 : Int) < (m : Int) + 1) = true := eT_ e5
   clear hpa hcm c38
   refine wp_region_quiet_below (by kernel_rfl) (by kernel_rfl) ?_
   repeat (first
    | ((with_reducible refine ay_ (o := ⟨some 24, _, _, _, _, _⟩) rfl 52 _ rfl ⟨w5.heap.size, 0, none⟩ ?_ l _ HQ.o Tryz.underlying52 rfl HZ.o ?_); (· rfl); simp only [Act.put, z1, z2, z3])
    | ((with_reducible refine aa_ (o := ⟨some 32, _, _, _, _, _⟩) 3 _ rfl ⟨w5.heap.size, 19, none⟩ ?_ (.int .i64 asked) Q19.o ?_ ?_); (· rfl); (· rfl); simp only [Act.put, z1, z2, z3])
    | ((with_reducible refine aa_ (o := ⟨some 38, _, _, _, _, _⟩) 3 _ rfl ⟨b, off + m * 23 + 19, none⟩ ?_ (.int .i64 pa) Q38.o ?_ ?_); (· rfl); (· rfl); simp only [Act.put, z1, z2, z3])
    | go_big_quiet_step ((go_at_call 60; exact Calls.regrown_of (H60.o _ (Ac.o.trans ((below_regrown _ _ _).mono Ac.o.size))))))
   refine wpQuiet_nil ?_
   intro W3 hW3
   have hb3 := an_ hW3
   clear hW3
   go_wp2_with fail
   go_meet
   case rel => exact ⟨decide (asked <= pa), rfl, hb3, ⟨fun h hok => by (have h1 := hok.ask _ Aq.o; rw [Ao.o, Cj.o] at h1; have := of_decide_eq_true h; omega), fun h => ⟨hsg, fun y hy => by (rw [Aq.o] at hy; cases hy; rw [Ao.o, Cj.o]; have := of_decide_eq_false h; omega)⟩⟩⟩
  obtain ⟨t, rfl, hb3, HP⟩ := hcut
  obtain ⟨Bn, Aw⟩ := kq2 (Ac.o.trans (hb3.mono Ac.o.size)) (Ab.o.of_block (hb3.block _ Ab.o.lt))
  clear hb3 HQ Q19 Ab Ac
  cases t
  ·obtain ⟨hone, hask⟩ := HP.o.2 rfl
   obtain ⟨Be, Bo⟩ := kq2 hone hask
   have c19 := Aw.o.cell Al.o
   have c20 := Aw.o.cell Bj.o
   have c21 := Aw.o.cell By.o
   have hsm : MapAt (wc.alloc (.cells #[.int .i64 asked, .int .i64 done, .int .i64 told] 3)) (w.heap.size + 1) (b9_ (L.take k) x.1 0) := by
    refine (Aa.o.seen.of_block ?_).congr fun k' => (ei_ _ _ _).symm
    rw [(below1 wc _).block _ (by have := Bn.o.size; have := Aa.o.size; omega)]
    exact Bn.o.block _ (by have := Aa.o.size; omega)
   have hst : ∀ j, j < 3 -> (wc.alloc (.cells #[.int .i64 asked, .int .i64 done, .int .i64 told] 3)).cell? ⟨wc.heap.size, j, none⟩ = some (.int .i64 (aU_ x.1 j)) := fun j hj => by
    have hr := RowL.new wc 3 [.int .i64 asked, .int .i64 done, .int .i64 told]
    refine hr.cell ?_
    rcases j with _ | _ | _ | j
    ·simp [aU_, Ao.o]
    ·simp [aU_, Av.o]
    ·simp [aU_, Bt.o]
    omega
   obtain ⟨Ch, Cg, Ai, Bs, At, Ce⟩ := kq6 hsm hst (Bn.o.trans ((below1 wc (.cells #[.int .i64 asked, .int .i64 done, .int .i64 told] 3)).mono Bn.o.size)) (Aw.o.of_block ((below1 wc (.cells #[.int .i64 asked, .int .i64 done, .int .i64 told] 3)).block _ Aw.o.lt)) (show (wc.alloc (.cells #[.int .i64 asked, .int .i64 done, .int .i64 told] 3)).heap.size = wc.heap.size + 1 from bF_ _ _) (show w5.heap.size + 1 <= wc.heap.size from Aw.o.lt)
   obtain ⟨W4, hW4⟩ := eX (wc.alloc (.cells #[.int .i64 asked, .int .i64 done, .int .i64 told] 3))
   rw [<- hW4] at Ch Cg Ai Bs At
   have Cf := kp hW4
   clear hone hask hsm hst hW4
   clear HP
   go_wp2_with fail
   rw [<- Cf.o]
   clear Cf c19 c20 c21
   go_loopw [50] (fun s50 wr => ∃ j : Nat, j <= 3 /\ s50 = .int .i64 j /\ MapAt wr (w.heap.size + 1) (b9_ (L.take k) x.1 j) /\ Kept [w.heap.size + 1] W4 wr /\ Hid (∀ i, i < j -> 0 <= aU_ x.1 i -> dW_ (L.take k) (aU_ x.1 i) = false)) (fun j _ => 3 - (intOf j).toNat)
   case atStart => exact ⟨0, by omega, by go_num, Ch.o, Kept.refl _ _, fun i hi => absurd hi (by omega)⟩
   obtain ⟨j, hj, rfl, hm, hkq, HD⟩ := hrel
   obtain ⟨HM, Af⟩ := kq2 hm hkq
   clear hm hkq
   by_cases hj3 : j < 3
   ·have hg3 : decide ((j : Int) < 3) = true := eT_ (by omega)
    have e1 : (j : Int) < 3 := by omega
    have q1 : wr.cell? ⟨wc.heap.size, j, none⟩ = some (.int .i64 (aU_ x.1 j)) := by
     rw [<- Cg.o j hj3]
     exact ds_ (Af.o.block _ (by have := At.o; omega) (by have := Ce.o; have := Aa.o.size; simp; omega))
    have hlk : (Instr.lookup 119 (.map (some (w.heap.size + 1))) (.int .i64 (aU_ x.1 j)) false).run Tryz.prog wr = .ok (.bool (cN_ (L.take k) x.1 j (aU_ x.1 j))) wr := by
     rw [HM.o.run_lookup Tryz.underlying119 (by kernel_rfl) (.bool false) (Tryz.zeroValue4 wr)]
     unfold b9_
     cases cN_ (L.take k) x.1 j (aU_ x.1 j) <;> rfl
    obtain ⟨Aj, Ci, Cr⟩ := kq3 (fun h0 => gD_ Be.o (L.take k) hj3 h0) (ej_ (L.take k) x.1 hj3) (fun (hok : OkP ((L.take k).map (·.1)) x.1) h0 => hok.fresh j hj3 h0)
    obtain ⟨st, hst⟩ := eY (aU_ x.1 j)
    obtain ⟨sj, hsj⟩ := eY (cN_ (L.take k) x.1 j (aU_ x.1 j))
    rw [hsj] at hlk Aj
    rw [hst] at q1 hlk Aj Ci Cr
    have Ba := kp hst
    clear hsj hst
    obtain ⟨Ay, Bl⟩ := kq2 (fun (w8 : World) (h : ∀ g, MapAt wr (w.heap.size + 1) g -> MapAt w8 (w.heap.size + 1) (fun k' => if k' = st then some (.bool true) else g k')) => (h _ HM.o).congr fun k' => (Ci.o k').symm) (Aa.o.below.trans ((Ai.o.mono (by have := Aa.o.size; omega)).trans (Af.o.below (by have := Ai.o.size; have := Aa.o.size; omega) (fun b hb => by simp at hb; omega))))
    by_cases h0 : 0 <= st
    ·have g0 : decide (0 <= st) = true := eT_ h0
     have Bk := kp h0
     clear h0
     cases sj
     ·go_wp2_with ((with_reducible refine aW_ (o := ⟨none, _, _, _, _, _⟩) rfl 119 3 4 _ _ _ rfl (w.heap.size + 1) st (.bool true) ?_ ?_ ?_ _ HM.o ?_ ?_ ?_); (· rfl); (· rfl); (· rfl); (· exact Tryz.underlying119); (· kernel_rfl); intro w8 hk8 hm8; have Am := kp hk8; have Bi := kp (Ay.o w8 hm8); clear hk8 hm8)
      go_roundw
      case rel => exact ⟨j + 1, by omega, by go_num, Bi.o, Af.o.trans Am.o, fun i hi h => by (by_cases e : i = j; (subst e; rw [Ba.o]; exact (Aj.o Bk.o).symm); exact HD.o i (by omega) h)⟩
      simp [intOf]; omega
     have Bf := kp (fun hok => Cr.o hok Bk.o ((dc_ _ _).1 (Aj.o Bk.o).symm))
     go_wp2_with fail
     go_ret
     exact .no rfl Au.o Bf.o Bl.o
    have g0 : decide (0 <= st) = false := eF h0
    have Bk := kp h0
    clear h0
    go_wp2_with ((with_reducible refine aW_ (o := ⟨none, _, _, _, _, _⟩) rfl 119 3 4 _ _ _ rfl (w.heap.size + 1) st (.bool true) ?_ ?_ ?_ _ HM.o ?_ ?_ ?_); (· rfl); (· rfl); (· rfl); (· exact Tryz.underlying119); (· kernel_rfl); intro w8 hk8 hm8; have Am := kp hk8; have Bi := kp (Ay.o w8 hm8); clear hk8 hm8)
    go_roundw
    case rel => exact ⟨j + 1, by omega, by go_num, Bi.o, Af.o.trans Am.o, fun i hi h => by (by_cases e : i = j; (subst e; rw [Ba.o] at h; exact absurd h Bk.o); exact HD.o i (by omega) h)⟩
    simp [intOf]; omega
   obtain rfl : j = 3 := by omega
   have Cl := kp (HM.o.congr (dI_ (L.take k) x))
   have hml : MapAt wr w.heap.size (dY_ (L.take k)) := by
    refine Aa.o.last.of_block ?_
    rw [Af.o.block _ (by have := At.o; have := Ce.o; have := Aa.o.size; omega) (by simp)]
    exact Ai.o.block _ (by have := Aa.o.size; omega)
   obtain ⟨Ax, Bd⟩ := kq2 (Bs.o.of_block (Af.o.block _ Bs.o.lt (by have := Aa.o.size; simp; omega))) (Aa.o.own)
   obtain ⟨lz, ok, lt, ln, z1, z2, z3, z4, z5, z6, zl, z7, z8⟩ := jE_ (L.take k) x.1 (fun y hy => Ap.o y (List.mem_of_mem_take hy)) An.o (by rw [List.length_take]; omega)
   have hlk : (Instr.lookup 122 (.map (some w.heap.size)) (.int .i64 ses) true).run Tryz.prog wr = .ok (.tuple #[.agg lz.toArray, .bool ok]) wr := by
    have h := f4_ hml Tryz.underlying122 (by kernel_rfl) _ (Tryz.zeroValue52 wr) x.1.ses
    rw [z2] at h
    rw [<- Bc.o, h]
    congr 3
    exact congrArg (fun v => [v, Value.bool ok]) z1
   have c0 := Ax.o.cell Cp.o
   have c1 := Ax.o.cell Co.o
   have c19 := Ax.o.cell Al.o
   obtain ⟨Cm, Z3, Z4, Z5, Z6, Z7, ZL, Z8⟩ := kq8 hml z3 (all_oneCell_toArray z4) z5 z6 z7 zl z8
   clear hml HM z1 z2 z3 z4 z5 z6 zl z7 z8
   go_upto_region 19 with (((with_reducible refine ab_ (op := ⟨none, _, _, _, _, _⟩) rfl 52 _ _ rfl wr.heap.size 0 lz.toArray ?_ ?_ ?_ Z7.o Z4.o ?_); (· rfl); (· rfl); (· exact aY_ _ _ _ _ Z3.o); intro w6 hw6; have hx6 : RowL w6 wr.heap.size 52 lz /\ Bw wr w6 := (by rw [hw6]; exact aM_ wr 52 lz _ Z3.o); clear hw6; have Cd := kp hx6.1; have Ah := kp hx6.2; clear hx6))
   clear hlk c0 c1 c19
   have Ab := kp (Ax.o.of_block (Ah.o.block _ Ax.o.lt))
   have d1 := Ab.o.cell Co.o
   have d19 := Ab.o.cell Al.o
   have f1 := Cd.o.cell Z5.o
   have f21 := Cd.o.cell Z6.o
   have hz8 := Z8.o
   rw [Ao.o, Bv.o] at hz8
   have Bp := kp hz8
   have hw1 : IntKind.i64.wrap (ln + 1) = ln + 1 := by have := ZL.o; rw [IntKind.wrap_i64]; omega
   clear hz8
   go_cut [100] (fun s100 W' => W' = w6 /\ ∃ t, s100 = .bool t /\ Hid (t = false ↔ SesP ((L.take k).map (·.1)) x.1))
   case first =>
    cases ok
    ·cases h1 : (num == 0)
     all_goals
      have h2 : (num != 0) = !(num == 0) := rfl
      rw [h1] at h2
      go_wp2_with fail
      go_meet
      case rel => exact ⟨rfl, _, rfl, kp (by rw [Bp.o]; simp at h1; simp [h1])⟩
    cases q1 : decide (lt < 0)
    ·cases q2 : decide (asked <= lt)
     ·cases q3 : (num != ln + 1)
      all_goals
       obtain ⟨Q1, Q2, Q3⟩ := kq3 q1 q2 q3
       go_wp2_with fail
       go_meet
       case rel => exact ⟨rfl, _, rfl, kp (by rw [Bp.o]; have b1 := of_decide_eq_false Q1.o; have b2 := of_decide_eq_false Q2.o; have b3 := Q3.o; simp at b3; simp; omega)⟩
     have Q1 := kp q1
     have Q2 := kp q2
     go_wp2_with fail
     go_meet
     case rel => exact ⟨rfl, _, rfl, kp (by rw [Bp.o]; have b2 := of_decide_eq_true Q2.o; simp; omega)⟩
    have Q1 := kp q1
    go_wp2_with fail
    go_meet
    case rel => exact ⟨rfl, _, rfl, kp (by rw [Bp.o]; have b1 := of_decide_eq_true Q1.o; simp; omega)⟩
   obtain ⟨hwc, t, rfl, Bq⟩ := hcut
   subst hwc
   have Bl := kp (Aa.o.below.trans ((Ai.o.mono (by have := Aa.o.size; omega)).trans ((Af.o.below (by have := Ai.o.size; have := Aa.o.size; omega) (fun b hb => by simp at hb; omega)).trans (Ah.o.mono (by have := Ai.o.size; have := Af.o.size; have := Aa.o.size; omega)))))
   clear d1 d19 f1 f21
   cases t
   ·have Bb := kp (Bq.o.1 rfl)
    clear Bq
    have Bu := kp (show OkP ((L.take k).map (·.1)) x.1 from ⟨Be.o, Bo.o, fun j hj h0 hse => by
     (have h1 := HD.o j hj h0
      rw [(dc_ _ _).2 hse] at h1
      cases h1), Bb.o⟩)
    have Az := kp (show L.take (k + 1) = L.take k ++ [x] by rw [tA, Cu.o]; rfl)
    obtain ⟨Ar, Bh, Bg⟩ := kq3 (show Fit singleB ((L.take (k + 1)).map (·.1)) by rw [Az.o, List.map_append]; exact An.o.snoc ((kE_ An.o x.1).2 Bu.o)) (Cm.o.of_block (Ah.o.block _ Cm.o.lt)) (Cl.o.of_block (Ah.o.block _ Cl.o.lt))
    have d0 := Ab.o.cell Cp.o
    go_upto_region 22 with (first
     | ((with_reducible refine wpList_load_agg (o := ⟨some 104, _, _, _, _, _⟩) rfl 52 _ rfl ⟨w5.heap.size, 0, none⟩ ?_ l _ Ab.o.cells Tryz.underlying52 rfl HZ.o ?_); (· rfl))
     | ((with_reducible refine aW_ (o := ⟨none, _, _, _, _, _⟩) rfl 122 3 52 _ _ _ rfl w.heap.size ses (.agg l.toArray) ?_ ?_ ?_ _ Bh.o ?_ ?_ ?_); (· rfl); (· rfl); (· rfl); (· exact Tryz.underlying122); (· kernel_rfl); intro w8 hk8 hm8; have Am := kp hk8; have Bi := kp (hm8 _ Bh.o); clear hk8 hm8))
    have Cc := kp (Ab.o.of_block (Am.o.block _ Ab.o.lt (by have := Aa.o.size; simp; omega)))
    have c20 := Cc.o.cell Bj.o
    have Ae := kp (Bi.o.congr (g := dY_ (L.take (k + 1))) fun k' => by rw [Az.o, jF_, Bc.o, Cn.o])
    have Ad := kp (show MapAt w8 (w.heap.size + 1) (hF_ (L.take (k + 1))) by rw [Az.o]; exact Bg.o.of_block (Am.o.block _ Bg.o.lt (by simp)))
    have Bm := kp (show ∀ g, w.heap.size + 2 <= g -> g < w5.heap.size -> w8.heap[g]? = w5.heap[g]? from fun g h1 h2 => by
     have s4 := Ai.o.size
     have s5 := Af.o.size
     have s6 := Ah.o.size
     rw [Am.o.block g (by omega) (by simp; omega), Ah.o.block g (by omega), Af.o.block g (by omega) (by simp; omega), Ai.o.block g h2])
    have Ag := kp (Bl.o.trans (Am.o.below Bl.o.size (fun b hb => by simp at hb; omega)))
    have As := kp (show w.heap.size + 2 <= w8.heap.size by
     have s3 := Aa.o.size
     have s4 := Ai.o.size
     have s5 := Af.o.size
     have s6 := Ah.o.size
     have s7 := Am.o.size
     omega)
    by_cases hd0 : 0 <= done
    ·have gd : decide (0 <= done) = true := eT_ hd0
     have Ca := kp hd0
     clear hd0
     obtain ⟨Ck, Br⟩ := kq2 (show w8.ownsRow (w.heap.size + 2) 52 23 (.slice A1 m1 c1) m1 (callsV (bz_ (L.take k))) by have h := own_eq Bd.o Bm.o; rw [Bx.o] at h; exact h) Cc.o.cells
     have hcs : (Value.agg l.toArray).cells = l.toArray := rfl
     have hls : l.toArray.size = 23 := by simpa using Ak.o
     obtain ⟨Cb, Cy⟩ := kq2 hcs hls
     clear hcs hls
     go_wp2_with (first
      | ((with_reducible refine wpList_load_agg (o := ⟨some 109, _, _, _, _, _⟩) rfl 52 _ rfl ⟨w5.heap.size, 0, none⟩ ?_ l _ Br.o Tryz.underlying52 rfl HZ.o ?_); (· rfl))
      | ((with_reducible refine cm_ (o := ⟨some 110, _, _, _, _, _⟩) rfl 43 _ rfl 52 _ 23 296 (.agg l.toArray) l.toArray Tryz.underlying43 d0_ ?_ ?_ ?_ Cb.o Cy.o ?_); (· decide); (· decide); (· rfl))
      | ((with_reducible refine co_ (o := ⟨some 111, _, _, _, _, _⟩) rfl _ _ 43 rfl (w.heap.size + 2) 52 _ 23 296 Tryz.underlying43 d0_ ?_ ?_ (.slice A1 m1 c1) m1 (callsV (bz_ (L.take k))) ?_ ?_ ⟨w8.heap.size, 0, none⟩ 1 1 l ?_ ?_ ?_ Cw.o ?_ ?_ ?_ ?_); (· rfl); (· decide); (· rfl); (· exact (Kept.of_below (L := []) (below1 w8 _)).own2 Ck.o (by simp)); (· rfl); (· exact Ak.o); (· intro j u hj; rw [Addr.add_mid, Nat.zero_add]; exact (RowL.new w8 52 l).cell hj); (· unfold maxLen; omega); (· omega); (· have := As.o; simp; omega); intro v9 w9 ho9 hg9 hb9; have Cv := kp ho9; have Cz := kp hg9; clear ho9 hg9 hb9))
     have hkw : Kept (Value.slice A1 m1 c1).ownBlock.toList w8 w9 := ((Kept.refl _ w8).alloc _).trans (aA_ Cz.o)
     have hge : ∀ b ∈ (Value.slice A1 m1 c1).ownBlock.toList, w.heap.size + 2 <= b := fun b hb => own_ge Ck.o hb
     refine ⟨⟨k + 1, by omega, by go_num, ⟨Ae.o.kept hkw (fun hm => by have := hge _ hm; omega), Ad.o.kept hkw (fun hm => by have := hge _ hm; omega), ?_, Ag.o.trans (hkw.below Ag.o.size (fun b hb => by have := hge b hb; omega)), by have := As.o; have := hkw.size; omega⟩, Ar.o⟩, by simp [intOf]; omega⟩
     have hdn : bz_ (L.take (k + 1)) = bz_ (L.take k) ++ [x] := by rw [Az.o, eO_, if_pos (by rw [Av.o]; exact Ca.o)]
     have hcv : callsV (bz_ (L.take k) ++ [x]) = callsV (bz_ (L.take k)) ++ l := by rw [<- Cn.o]; simp [callsV]
     rw [hdn, hcv, lA, Bx.o]
     exact Cv.o
    have gd : decide (0 <= done) = false := eF hd0
    have Ca := kp hd0
    clear hd0
    go_wp2_with fail
    refine ⟨⟨k + 1, by omega, by go_num, ⟨Ae.o, Ad.o, ?_, Ag.o, As.o⟩, Ar.o⟩, by simp [intOf]; omega⟩
    rw [Az.o, eO_, if_neg (by rw [Av.o]; exact Ca.o)]
    exact own_eq Bd.o Bm.o
   have Bf := kp (show ¬ OkP ((L.take k).map (·.1)) x.1 from fun hok => by
    have h1 := Bq.o.2 hok.ses
    simp at h1)
   clear Bq
   go_wp2_with fail
   go_ret
   exact .no rfl Au.o Bf.o Bl.o
  have Bf := kp (HP.o.1 rfl)
  clear HP
  go_wp2_with fail
  go_ret
  exact .no rfl Au.o Bf.o (Aa.o.below.trans (Bn.o.mono (by have := Aa.o.size; omega)))
 obtain rfl : k = n := by omega
 have hg2 : decide ((k : Int) < (k : Int)) = false := by simp
 have hL : L.take k = L := tL (by rw [HN.o]; exact lR _)
 have hinv := Aa.o
 have hfit := An.o
 have hm := Bx.o
 rw [hL] at hinv hfit hm
 have hown := hinv.own
 rw [hm] at hown
 obtain ⟨H61, Cs, Dc, Da, Cx⟩ := kq5 (sort_row (w.heap.size + 2) (bz_ L) A1 m1 c1 w5 hm (by omega) (fun x hx => Ap.o x ((List.mem_filter.1 (show x ∈ L.filter _ from hx)).1)) hown hinv.size) hinv.below hinv.size hfit hm
 clear hinv hfit hm hown hL
 go_wp2_with fail
 refine H61.o.mono ?_
 rintro e w6 ⟨rfl, L', hp, hs, hr, hb6⟩
 have hlp : L'.length = m1 := by rw [hp.length_eq]; exact Cx.o
 obtain ⟨H64, Bz, Ah⟩ := kq3 (sorted64 A1 m1 c1 L' w6 hlp (by omega) hr) (j5_ (by rw [HN.o]; exact hn4) Da.o hp (hs.imp fun {a b} h => by omega)) hb6
 clear hp hs hr hb6 hlp
 go_wp2_with fail
 refine H64.o.mono ?_
 rintro e w7 ⟨rfl, hb7⟩
 have Ac := kp hb7
 clear hb7
 go_wp2_with fail
 go_ret
 have h6 := Ah.o.size
 exact ⟨_, rfl, Bz.o, Cs.o.trans ((Ah.o.mono (by omega)).trans (Ac.o.mono (by have := Cs.o.size; omega)))⟩
section
variable {P : Program}
end
theorem fN_ : ∀ (l : List Value) (o k : Nat) (acc : Array Value), o + k + l.length <= acc.size ->
  ((l.zipIdx k).foldl (fun cs (x : Value × Nat) => cs.setIfInBounds (o + x.2) x.1) acc).toList = acc.toList.take (o + k) ++ (l ++ acc.toList.drop (o + k + l.length))
 | [], o, k, acc, h => by simp
 | v :: l, o, k, acc, h => by
  simp only [List.length_cons] at h
  rw [List.zipIdx_cons, List.foldl_cons, fN_ l o (k + 1) _ (by simp; omega)]
  rw [Array.toList_setIfInBounds, show o + (k + 1) = o + k + 1 by omega, tA, List.take_set_of_le (lR _), List.getElem?_set_self (by simp; omega), List.drop_set_of_lt (by omega)]
  simp only [Option.toList_some, aA, List.length_cons, List.cons_append]
  rw [show o + k + 1 + l.length = o + k + (l.length + 1) by omega]
  rfl
def rowsI (k : Nat) : List (List Value) -> List (Nat × Value)
 | [] => []
 | L :: Ls => (k, .agg L.toArray) :: rowsI (k + 1) Ls
theorem hj_ (size : Nat) : ∀ (Ls : List (List Value)) (k : Nat) (acc : Array Value), (∀ L ∈ Ls, L.length = size) -> acc.size = (k + Ls.length) * size ->
  Instr.fill (fun i => some (i * size, size)) acc (rowsI k Ls) = some (acc.toList.take (k * size) ++ Ls.flatten).toArray
 | [], k, acc, h, hs => by
  simp only [rowsI, Instr.fill, List.flatten_nil, List.append_nil]
  congr 1
  rw [tL (by simp at hs ⊢; omega)]
 | L :: Ls, k, acc, h, hs => by
  have hL : L.length = size := h L (by simp)
  have hc : (Value.agg L.toArray).cells = L.toArray := rfl
  have hsz : (k + 1 + Ls.length) * size = k * size + size + Ls.length * size := by rw [Nat.add_mul, Nat.add_mul, Nat.one_mul]
  have hs' : acc.size = k * size + size + Ls.length * size := by rw [hs, List.length_cons, show k + (Ls.length + 1) = k + 1 + Ls.length by omega, hsz]
  unfold rowsI
  unfold Instr.fill
  have hguard : (decide (L.toArray.size ≠ size) || decide (k * size + L.toArray.size > acc.size)) = false := by
   simp [hL]; omega
  simp only [hc]
  rw [if_neg (by simp [hL]; omega)]
  have hf := fN_ L (k * size) 0 acc (by omega)
  have hz : L.toArray.zipIdx.foldl (fun cs (x : Value × Nat) => cs.setIfInBounds (k * size + x.2) x.1) acc = (acc.toList.take (k * size) ++ (L ++ acc.toList.drop (k * size + L.length))).toArray := by
   apply Array.toList_inj.1
   rw [<- Array.foldl_toList, Array.toList_zipIdx]
   simpa using hf
  have hz' : (L.toArray.zipIdx.foldl (fun cs x => match x with | (c, j) => cs.setIfInBounds (k * size + j) c) acc) = (acc.toList.take (k * size) ++ (L ++ acc.toList.drop (k * size + L.length))).toArray := hz
  rw [hz', hj_ size Ls (k + 1) _ (fun x hx => h x (by simp [hx])) (by simp; rw [hsz]; omega)]
  congr 2
  have ht : ((acc.toList.take (k * size) ++ (L ++ acc.toList.drop (k * size + L.length))).toArray.toList).take ((k + 1) * size) = acc.toList.take (k * size) ++ L := by
   show List.take _ (_ ++ (_ ++ _)) = _
   rw [<- aA]
   exact List.take_left' (by rw [Nat.add_mul, Nat.one_mul]; simp [hL]; omega)
  rw [ht, List.flatten_cons, aA]
section
variable {P : Program}
theorem kb_ {w : World} {ops : Array Oper} {o : Oper} {a : Act} {K : Act -> World -> Prop} {Q : Exit -> Act -> World -> Prop} {E : Prop} (hgd : o.guard = none) (t e : TypeId) (len : Nat) (parts : Array (Nat × Operand)) (ho : o.op = .buildSlice t len parts)
  (z : Value) (size bytes : Nat) (ht : P.underlying t = some (.slice e)) (hinfo : (P.info? e).map (fun i => (i.zero, i.size, i.bytes)) = some (some z, size, bytes))
  (Ls : List (List Value)) (hl : (parts.map fun (i, x) => (i, a.eval x)).toList = rowsI 0 Ls) (hLs : ∀ L ∈ Ls, L.length = size) (hlen : Ls.length = len)
  (hsm : len * size <= 2 ^ 24) (hp : 0 < len * size) (hm : len <= maxLen)
  (h : ∀ w', w'.ownsRow w.heap.size e size (.slice (some ⟨w.heap.size, 0, none⟩) len len) len Ls.flatten -> RowKit.Below w.heap.size w w' -> K (a.put o.dst (.slice (some ⟨w.heap.size, 0, none⟩) len len)) w') :
  if Region.wanted o (yielded ops a.tmps) = true then Oper.wp P o a w K Q else E := by
 have hfl : ∀ (Ls : List (List Value)), (∀ L ∈ Ls, L.length = size) -> Ls.flatten.length = Ls.length * size := fun Ls => by
  induction Ls with
  | nil => intro _; simp
  | cons L Ls ih =>
   intro h
   rw [List.flatten_cons, lA, ih (fun x hx => h x (by simp [hx])), h L (by simp), List.length_cons, Nat.add_mul, Nat.one_mul, Nat.add_comm]
 refine e8_ hgd t e len parts ho z size bytes ht hinfo (rowsI 0 Ls) Ls.flatten hl ?_ (by rw [hfl Ls hLs, hlen]) (by omega) (by omega) hm h
 have h1 := hj_ size Ls 0 ((Array.range (len * size)).map (z.cells[· % z.cells.size]!)) hLs (by simp [hlen])
 simpa using h1
end
end Go.Proofs.YtnjhpgmbfblgaaaGreat.Ord
