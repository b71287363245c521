/- The fault of a call: the plain law; The plain law of Check: what the calls of an order. -/
import Derived.Test.YtnjhpgmbfblgaaaGreatMU12
import Derived.Test.YtnjhpgmbfblgaaaGreatMU20
import Derived.Test.YtnjhpgmbfblgaaaGreatMP1
import Derived.Test.YtnjhpgmbfblgaaaGreatMU59
import Derived.Test.YtnjhpgmbfblgaaaGreatMU4
import Derived.Maps.RangeWalk
import Derived.OwnWalkIn
import Derived.RangeFuncOwn
import Derived.RangeFuncNested
import Derived.RangeFuncWrites
import Derived.Test.YtnjhpgmbfblgaaaGreatMU16
set_option linter.unusedVariables false
set_option linter.unusedSimpArgs false
namespace Go.Proofs.YtnjhpgmbfblgaaaGreat.Ord
open Go.RowKit
def bV_ (grace : Int) (ws : List WrR) (now : Int) : List ByteArray -> List ItemR -> Int
 | k :: ks, x :: xs => if c4_ grace ws k x now ≠ 0 then c4_ grace ws k x now else bV_ grace ws now ks xs
 | _, _ => 0
theorem h9_ (grace : Int) (ws : List WrR) (now : Int) (ks : List ByteArray) : bV_ grace ws now ks [] = 0 := by cases ks <;> rfl
theorem hd_ {grace : Int} {ws : List WrR} {now : Int} {ks : List ByteArray} {xs : List ItemR} {i : Nat} {k : ByteArray} {x : ItemR} (hk : ks[i]? = some k) (hx : xs[i]? = some x) :
  bV_ grace ws now (ks.drop i) (xs.drop i) = if c4_ grace ws k x now ≠ 0 then c4_ grace ws k x now else bV_ grace ws now (ks.drop (i + 1)) (xs.drop (i + 1)) := by
 have h1 := (gS.1 hk)
 have h2 := (gS.1 hx)
 rw [List.drop_eq_getElem_cons h1.1, List.drop_eq_getElem_cons h2.1, h1.2, h2.2]
 rfl
theorem eB_ {grace : Int} {ws : List WrR} {now : Int} {ks : List ByteArray} {xs : List ItemR} {i : Nat} (h : ks.length <= i) : bV_ grace ws now (ks.drop i) (xs.drop i) = 0 := by
 rw [List.drop_eq_nil_of_le h]
 rfl
theorem eA_ {grace : Int} {ws : List WrR} {now : Int} {ks : List ByteArray} {xs : List ItemR} {i : Nat} (h : xs.length <= i) : bV_ grace ws now (ks.drop i) (xs.drop i) = 0 := by
 rw [List.drop_eq_nil_of_le h, h9_]
def aH_ (grace : Int) (ws : List WrR) (x : CallR) : Int :=
 if x.cmd.op = 1 ∨ x.cmd.op = 2 ∨ x.cmd.op = 3 then (if x.resp.ver = (ws.length : Int) + 1 then 0 else 1)
 else if x.cmd.op = 4 then (match x.resp.items with
  | [] => 0
  | i :: _ => c4_ grace ws x.cmd.key i x.tim)
 else if x.cmd.op = 5 then bV_ grace ws x.tim x.cmd.keys x.resp.items
 else if (x.cmd.op = 6 ∨ x.cmd.op = 7) /\ x.resp.count = 1 then dG_ grace ws x.cmd.key x.tim
 else 0
structure FltG (x : CallR) (ws : List WrR) : Prop where
 op : 1 <= x.cmd.op
 items : x.cmd.op = 4 -> x.resp.items ≠ []
 vers : ∀ y ∈ x.resp.items, 0 <= y.ver /\ y.ver < 18446744073709551616
 ver : 0 <= x.resp.ver /\ x.resp.ver < 18446744073709551616
def RunC (grace : Int) (cs : List CallR) : List Nat -> List WrR -> Edges -> Option (Nat × Int) -> Prop
 | [], _, _, r => r = none
 | y :: ys, ws, es, r => ∃ x, cs[y]? = some x /\
   (if x.resp.err ≠ 0 then RunC grace cs ys ws es r else if aH_ grace ws x ≠ 0 then r = some (y, aH_ grace ws x) else ∃ ws' es', DoS x ws es ws' es' /\ RunC grace cs ys ws' es' r)
theorem RunC.fun {grace : Int} {cs : List CallR} : ∀ {ys : List Nat} {ws : List WrR} {es : Edges} {r r' : Option (Nat × Int)}, RunC grace cs ys ws es r -> RunC grace cs ys ws es r' -> r = r'
 | [], _, _, _, _, h, h' => by
  unfold RunC at h h'
  rw [h, h']
 | y :: ys, ws, es, r, r', h, h' => by
  unfold RunC at h h'
  obtain ⟨x, hx, h⟩ := h
  obtain ⟨x', hx', h'⟩ := h'
  rw [hx] at hx'
  cases hx'
  by_cases h1 : x.resp.err ≠ 0
  ·rw [if_pos h1] at h h'
   exact RunC.fun h h'
  rw [if_neg h1] at h h'
  by_cases h2 : aH_ grace ws x ≠ 0
  ·rw [if_pos h2] at h h'
   rw [h, h']
  rw [if_neg h2] at h h'
  obtain ⟨w1, e1, d1, h⟩ := h
  obtain ⟨w2, e2, d2, h'⟩ := h'
  obtain ⟨rfl, rfl⟩ := d1.fun d2
  exact RunC.fun h h'
section
variable {grace : Int} {cs : List CallR} {ys : List Nat} {ws ws' : List WrR} {es es' : Edges} {y : Nat} {x : CallR} {r : Option (Nat × Int)}
theorem RunC.done : RunC grace cs [] ws es none := rfl
theorem RunC.skip (hx : cs[y]? = some x) (he : x.resp.err ≠ 0) (h : RunC grace cs ys ws es r) : RunC grace cs (y :: ys) ws es r := ⟨x, hx, by rw [if_pos he]; exact h⟩
theorem RunC.flt (hx : cs[y]? = some x) (he : x.resp.err = 0) (h : aH_ grace ws x ≠ 0) : RunC grace cs (y :: ys) ws es (some (y, aH_ grace ws x)) := ⟨x, hx, by rw [if_neg (by simpa using he), if_pos h]⟩
theorem RunC.go (hx : cs[y]? = some x) (he : x.resp.err = 0) (hf : aH_ grace ws x = 0) (hd : DoS x ws es ws' es') (h : RunC grace cs ys ws' es' r) : RunC grace cs (y :: ys) ws es r :=
 ⟨x, hx, by rw [if_neg (by simpa using he), if_neg (by simpa using hf)]; exact ⟨ws', es', hd, h⟩⟩
end
structure ComS (cs : List CallR) (ys : List Nat) : Prop where
 at_ : ∀ y ∈ ys, ∃ x, cs[y]? = some x /\ singleB x = true /\ 0 <= x.done
 mono : ys.Pairwise fun a b => ∀ x y, cs[a]? = some x -> cs[b]? = some y -> x.tim <= y.tim
structure RunI (cs : List CallR) (ys : List Nat) (k : Nat) (ws : List WrR) (es : Edges) : Prop where
 few : ws.length <= k
 fewE : es.length <= k
 soft : ∀ y ∈ ws, y.soft = nev ∨ ∀ b ∈ ys.drop k, ∀ x, cs[b]? = some x -> y.soft <= x.tim
theorem RunI.start (cs : List CallR) (ys : List Nat) : RunI cs ys 0 [] [] := ⟨lR _, lR _, fun y h => by simp at h⟩
theorem iY_ {α : Type} {l : List α} {k : Nat} {b : α} (h : b ∈ l.drop (k + 1)) : b ∈ l.drop k := by
 rw [<- List.drop_drop (i := 1) (j := k)] at h
 exact List.mem_of_mem_drop h
theorem RunI.skip {cs : List CallR} {ys : List Nat} {k : Nat} {ws : List WrR} {es : Edges} (h : RunI cs ys k ws es) : RunI cs ys (k + 1) ws es :=
 ⟨by have := h.few; omega, by have := h.fewE; omega, fun y hy => (h.soft y hy).imp id fun h2 b hb => h2 b (iY_ hb)⟩
theorem i8_ {ws : List WrR} {k : ByteArray} {d : Int} {y : WrR} (h : y ∈ ed_ ws k d) : ∃ z ∈ ws, y.soft = z.soft := by
 unfold ed_ at h
 split at h
 ·rename_i i _
  obtain ⟨j, hj⟩ := mI.1 h
  rw [List.getElem?_modify] at hj
  cases hz : ws[j]? with
  | none => rw [hz] at hj; simp at hj
  | some z =>
   rw [hz] at hj
   refine ⟨z, mG hz, ?_⟩
   simp at hj
   split at hj <;> (subst hj; rfl)
 exact ⟨y, h, rfl⟩
theorem g2_ {T : List ByteArray} {ws : List WrR} {y : WrR} (h : y ∈ a2_ T ws) : ∃ z ∈ ws, y.soft = z.soft := by
 obtain ⟨z, hz, rfl⟩ := List.mem_map.1 h
 refine ⟨z, hz, ?_⟩
 unfold bC_
 split <;> rfl
theorem MidS.soft {x : CallR} {ws ws' : List WrR} {es es' : Edges} (h : MidS x ws es ws' es') : ws'.length <= ws.length + 1 /\ es'.length <= es.length + 1 /\ ∀ y ∈ ws', y.soft = nev ∨ ∃ z ∈ ws, y.soft = z.soft := by
 unfold MidS at h
 split at h
 ·obtain ⟨rfl, w1, ⟨T, _, rfl⟩, rfl⟩ := h
  refine ⟨by simp [a2_], by omega, fun y hy => ?_⟩
  rcases List.mem_append.1 hy with h1 | h1
  ·exact .inr (g2_ h1)
  rw [List.mem_singleton] at h1
  subst h1
  exact .inl rfl
 split at h
 ·obtain ⟨rfl, rfl⟩ := h
  split
  ·refine ⟨?_, by omega, fun y hy => .inr (i8_ hy)⟩
   unfold ed_
   split <;> simp
  exact ⟨by omega, by omega, fun y hy => .inr ⟨y, hy, rfl⟩⟩
 split at h
 ·obtain ⟨rfl, T, _, rfl⟩ := h
  exact ⟨by simp [a2_], by omega, fun y hy => .inr (g2_ hy)⟩
 split at h
 ·obtain ⟨rfl, rfl⟩ := h
  refine ⟨by omega, ?_, fun y hy => .inr ⟨y, hy, rfl⟩⟩
  unfold depE
  rw [lA]
  have := List.length_filter_le (fun e => !decide (e = (x.cmd.key, x.cmd.chi))) es
  split <;> simp <;> omega
 obtain ⟨rfl, rfl⟩ := h
 exact ⟨by omega, by omega, fun y hy => .inr ⟨y, hy, rfl⟩⟩
theorem ka_ (x : CallR) (y : WrR) : (swp x y).soft = y.soft ∨ (swp x y).soft = x.tim := by
 unfold swp
 split
 ·exact .inl rfl
 split
 ·exact .inr rfl
 split <;> exact .inl rfl
theorem RunI.step {cs : List CallR} {ys : List Nat} {k b : Nat} {ws ws' : List WrR} {es es' : Edges} {x : CallR} (h : RunI cs ys k ws es) (hm : ComS cs ys) (hk : ys[k]? = some b) (hx : cs[b]? = some x) (hd : DoS x ws es ws' es') : RunI cs ys (k + 1) ws' es' := by
 obtain ⟨w1, h1, rfl⟩ := hd
 obtain ⟨h2, h3, h4⟩ := h1.soft
 have hf := h.few
 have hf2 := h.fewE
 refine ⟨by rw [lM_]; omega, by omega, fun y hy => ?_⟩
 obtain ⟨z, hz, rfl⟩ := List.mem_map.1 hy
 rcases ka_ x z with e | e
 ·rw [e]
  rcases h4 z hz with e1 | ⟨u, hu, e1⟩
  ·exact .inl e1
  rw [e1]
  exact (h.soft u hu).imp id fun h5 c hc => h5 c (iY_ hc)
 rw [e]
 refine .inr fun c hc q hq => ?_
 have hkl := (gS.1 hk)
 have h5 := hm.mono
 rw [<- List.take_append_drop k ys, List.drop_eq_getElem_cons hkl.1, hkl.2, List.pairwise_append, List.pairwise_cons] at h5
 exact h5.2.1.1 c hc x q hx hq
theorem RunI.now {cs : List CallR} {ys : List Nat} {k b : Nat} {ws : List WrR} {es : Edges} {x : CallR} (h : RunI cs ys k ws es) (hk : ys[k]? = some b) (hx : cs[b]? = some x) : ∀ y ∈ ws, y.soft = nev ∨ y.soft <= x.tim := by
 intro y hy
 have hkl := (gS.1 hk)
 exact (h.soft y hy).imp id fun h2 => h2 b (by rw [List.drop_eq_getElem_cons hkl.1, hkl.2]; simp) x hx
theorem eh_ {x : CallR} (h : singleB x = true) (hd : 0 <= x.done) : aJ_ x.cmd = true /\ aX_ x.resp = true /\ x.resp.op = x.cmd.op := by
 unfold singleB at h
 simp only [Bool.and_eq_true] at h
 have h2 := h.2.2
 unfold cntB at h2
 split at h2
 ·simp only [Bool.and_eq_true, decide_eq_true_eq] at h2
  omega
 rw [if_neg (by omega)] at h2
 simp only [Bool.and_eq_true, decide_eq_true_eq] at h2
 exact h2
theorem k1_ {x : CallR} {ws : List WrR} (h : singleB x = true) (hd : 0 <= x.done) (he : x.resp.err = 0) (hr : Rng x) : FltG x ws := by
 obtain ⟨h1, h2, h3⟩ := eh_ h hd
 unfold aJ_ at h1
 simp only [Bool.and_eq_true, decide_eq_true_eq] at h1
 refine ⟨h1.1.1.1, fun h4 => ?_, hr.vers, hr.ver⟩
 unfold aX_ be_ at h2
 simp only [Bool.and_eq_true, he] at h2
 have h5 := h2.2.1
 rw [h3, h4] at h5
 intro e
 rw [show aj_ 4 = [.one, .item] from rfl] at h5
 simp [okP, e] at h5
theorem ly_ {cs : List CallR} {ys : List Nat} {k : Nat} {grace : Int} {x : CallR} {ws : List WrR} {es : Edges} (hI : RunI cs ys k ws es) (hk : k < 5000) (h : singleB x = true) (hd : 0 <= x.done) (hr : Rng x) (ht : IsT x.tim) (hf : aH_ grace ws x = 0) : CalG x ws es := by
 obtain ⟨h1, h2, h3⟩ := eh_ h hd
 unfold aJ_ at h1
 simp only [Bool.and_eq_true, decide_eq_true_eq] at h1
 refine ⟨ht, hr.life, fun h4 => ?_, fun h6 hc => ?_, by have := hI.few; omega, by have := hI.fewE; omega⟩
 ·have h5 := h1.1.2
  unfold okC at h5
  rw [if_pos h4] at h5
  simp only [Bool.and_eq_true] at h5
  have h6 := h5.1.2
  unfold okG inR at h6
  simp only [Bool.and_eq_true, decide_eq_true_eq] at h6
  exact ⟨h6.1.2, List.all_eq_true.1 h6.2⟩
 unfold aH_ at hf
 rw [if_neg (by omega), if_neg (by omega), if_neg (by omega), if_pos ⟨.inl h6, hc⟩] at hf
 unfold dG_ at hf
 cases hl : aN_ ws x.cmd.key with
 | none => rw [hl] at hf; simp at hf
 | some i => exact ⟨i, rfl⟩
def toC (x : CallR) (p : CallV) : CallC where
 s := x.ses
 n := x.num
 m := fun i => if ((callC x p).getD (i.1 + 2) (.bool false)).oneCell' = true then (callC x p).getD (i.1 + 2) (.bool false) else .bool false
 a := x.asked
 d := x.done
 t := x.told
 x := .int .u64 x.tim
 one := fun i => by
  split
  ·assumption
  rfl
 onex := rfl
theorem j8_ {x : CallR} {p : CallV} (h : ∀ v ∈ callC x p, v.oneCell' = true) : (toC x p).cells = callC x p := by
 have hl : (callC x p).length = 23 := rfl
 have e : ∀ i : Fin 17, (toC x p).m i = (callC x p).getD (i.1 + 2) (.bool false) := fun i => by
  show (if ((callC x p).getD (i.1 + 2) (.bool false)).oneCell' = true then (callC x p).getD (i.1 + 2) (.bool false) else .bool false) = _
  rw [if_pos]
  have hi : i.1 + 2 < (callC x p).length := by rw [hl]; omega
  rw [List.getD_eq_getElem?_getD, gE hi]
  exact h _ (List.getElem_mem hi)
 unfold CallC.cells
 simp only [e]
 rfl
abbrev toL (L : List (CallR × CallV)) : List CallC := L.map fun x => toC x.1 x.2
theorem eX_ {w : World} {B : Nat} {A : Option Addr} {L : List (CallR × CallV)} (h : RowCO w B A L) (h1 : ∀ y ∈ L, ∀ v ∈ callC y.1 y.2, v.oneCell' = true) : CallsAt w B A (toL L) := by
 intro i hi
 rw [lM_] at hi
 obtain ⟨b, off, e, hb, hc, _⟩ := h i L[i] (gE hi)
 refine ⟨b, off, e, hb, fun c hcc => ?_⟩
 rw [gM, gE hi] at hcc
 cases hcc
 rw [j8_ (h1 _ (List.getElem_mem hi))]
 exact hc
theorem e0_ {L : List (CallR × CallV)} {n : Nat} {x : CallR × CallV} (h : L[n]? = some x) : at_ (toL L) (n : Nat) = toC x.1 x.2 := by
 unfold at_
 rw [List.getD_eq_getElem?_getD, Int.toNat_natCast, gM, h]
 rfl
theorem lo_ {L : List (CallR × CallV)} (h : ValidP singleB (L.map (·.1))) : ∃ ys, aO_ (toL L) = some ys /\ ComS (L.map (·.1)) ys /\ ys.length <= L.length := by
 have hlt : ∀ y ∈ cO_ (toL L), ∃ x, L[y]? = some x /\ 0 <= x.1.done := fun y hy => by
  obtain ⟨h1, h2⟩ := mem_doneN.1 hy
  rw [lM_] at h1
  have hx := gE h1
  rw [e0_ hx] at h2
  exact ⟨_, hx, h2⟩
 have hle : ∀ a b c : Nat, decide ((at_ (toL L) a).d <= (at_ (toL L) b).d) = true -> decide ((at_ (toL L) b).d <= (at_ (toL L) c).d) = true -> decide ((at_ (toL L) a).d <= (at_ (toL L) c).d) = true := fun a b c h1 h2 => by
  simp at *
  omega
 have htot : ∀ a b : Nat, (decide ((at_ (toL L) a).d <= (at_ (toL L) b).d) || decide ((at_ (toL L) b).d <= (at_ (toL L) a).d)) = true := fun a b => by
  simp
  omega
 obtain ⟨ys, hys⟩ := eY ((cO_ (toL L)).mergeSort (fun (x y : Nat) => decide ((at_ (toL L) x).d <= (at_ (toL L) y).d)))
 have hp : ys.Perm (cO_ (toL L)) := by rw [<- hys]; exact List.mergeSort_perm _ _
 have hs : ys.Pairwise fun (x y : Nat) => (at_ (toL L) x).d <= (at_ (toL L) y).d := by
  have := List.pairwise_mergeSort hle htot (cO_ (toL L))
  rw [hys] at this
  exact this.imp fun h => of_decide_eq_true h
 have hn : ys.Nodup := hp.nodup_iff.2 (List.Nodup.sublist (List.filter_sublist) List.nodup_range)
 have hpd := h.2.1.done_ne
 have hinj : ∀ (a b : Nat) (x y : CallR × CallV), a < b -> L[a]? = some x -> L[b]? = some y -> 0 <= x.1.done -> 0 <= y.1.done -> x.1.done ≠ y.1.done := fun a b x y hab ha hb h1 h2 => by
  have ha2 := (gS.1 ha)
  have hb2 := (gS.1 hb)
  have h3 := (List.pairwise_iff_getElem.1 hpd) a b (by rw [lM_]; exact ha2.1) (by rw [lM_]; exact hb2.1) hab
  rw [List.getElem_map, List.getElem_map, ha2.2, hb2.2] at h3
  exact h3 h2
 have hst : ys.Pairwise fun (x y : Nat) => (at_ (toL L) x).d < (at_ (toL L) y).d := by
  refine (hs.and hn).imp_of_mem fun {a b} ha hb hab => ?_
  obtain ⟨x, hx, hx0⟩ := hlt a (hp.mem_iff.1 ha)
  obtain ⟨y, hy, hy0⟩ := hlt b (hp.mem_iff.1 hb)
  have h1 := hab.1
  rw [e0_ hx, e0_ hy] at h1 ⊢
  have h2 : x.1.done ≠ y.1.done := by
   rcases Nat.lt_or_gt_of_ne hab.2 with h3 | h3
   ·exact hinj a b x y h3 hx hy hx0 hy0
   exact (hinj b a y x h3 hy hx hy0 hx0).symm
  have h3 : x.1.done <= y.1.done := h1
  show x.1.done < y.1.done
  omega
 refine ⟨ys, b6_ ⟨hp, hst⟩, ⟨fun y hy => ?_, ?_⟩, by rw [hp.length_eq]; exact lT (hm_ _) (by simp)⟩
 ·obtain ⟨x, hx, hx0⟩ := hlt y (hp.mem_iff.1 hy)
  refine ⟨x.1, by rw [gM, hx]; rfl, ?_, hx0⟩
  obtain ⟨pre, post, e⟩ := List.append_of_mem (List.mem_map_of_mem (f := fun z : CallR × CallV => z.1) (mG hx))
  exact (h.2.1 pre _ post e).one
 have ht := (gy_ _).1 h.2.2
 refine hst.imp_of_mem fun {a b} ha hb hab x y hx hy => ?_
 obtain ⟨u, hu, hu0⟩ := hlt a (hp.mem_iff.1 ha)
 obtain ⟨v, hv, hv0⟩ := hlt b (hp.mem_iff.1 hb)
 rw [e0_ hu, e0_ hv] at hab
 have hab : u.1.done < v.1.done := hab
 rw [gM, hu] at hx
 rw [gM, hv] at hy
 cases hx
 cases hy
 have ha2 := (gS.1 hu)
 have hb2 := (gS.1 hv)
 rcases Nat.lt_trichotomy a b with h3 | h3 | h3
 ·have h4 := (List.pairwise_iff_getElem.1 ht) a b (by rw [lM_]; exact ha2.1) (by rw [lM_]; exact hb2.1) h3
  rw [List.getElem_map, List.getElem_map, ha2.2, hb2.2] at h4
  exact (h4 hv0 hu0).1 hab
 ·subst h3
  rw [hu] at hv
  cases hv
  omega
 have h4 := (List.pairwise_iff_getElem.1 ht) b a (by rw [lM_]; exact hb2.1) (by rw [lM_]; exact ha2.1) h3
 rw [List.getElem_map, List.getElem_map, ha2.2, hb2.2] at h4
 exact (h4 hu0 hv0).2 hab
theorem kP_ {l : List MapEntry} (h : lD_ l) : ∀ {x : MapEntry} {k : ByteArray}, x ∈ l -> x.key = .string k -> lkS l k = some x.val := by
 induction l with
 | nil => intro x k hx; simp at hx
 | cons a l ih =>
  intro x k hx hk
  have h2 := List.pairwise_cons.1 h.2
  have ih := @ih ⟨fun y hy => h.1 y (by simp [hy]), h2.2⟩
  rcases List.mem_cons.1 hx with rfl | hx
  ·simp [lkS, ic_ hk]
  have hne : a.key ≠ .string k := by have := h2.1 x hx; rwa [hk] at this
  simp [lkS, dB_ hne, ih hx hk]
theorem lkS_some {l : List MapEntry} : ∀ {k : ByteArray} {v : Value}, lkS l k = some v -> (∀ x ∈ l, ∃ k, x.key = .string k) -> ∃ x ∈ l, x.key = .string k /\ x.val = v := by
 induction l with
 | nil => intro k v h; simp [lkS] at h
 | cons a l ih =>
  intro k v h hs
  obtain ⟨q, hq⟩ := hs a (by simp)
  by_cases e : isS a.key k = true
  ·simp [lkS, e] at h
   rw [hq] at e
   simp [isS] at e
   subst e
   exact ⟨a, by simp, hq, h⟩
  simp [lkS, e] at h
  obtain ⟨x, hx, h1, h2⟩ := ih h (fun y hy => hs y (by simp [hy]))
  exact ⟨x, by simp [hx], h1, h2⟩
def RngS (w : World) (b r : Nat) (f : ByteArray -> Option Value) (T : List ByteArray) : Prop :=
 ∃ es clock since seen c0, w.heap[b]? = some (.map es clock) /\ KeysC es clock /\ (∀ k, lkS es.toList k = f k) /\ w.heap[r]? = some (.mapIter (some b) since seen c0) /\
  (∀ x ∈ es.toList, x.born < since) /\ since <= c0 /\ since <= clock /\ ∀ x ∈ es.toList, ∀ k, x.key = .string k -> (seen.contains x.born = true ↔ k ∈ T)
theorem RngS.map {w : World} {b r : Nat} {f : ByteArray -> Option Value} {T : List ByteArray} (h : RngS w b r f T) : MapS w b f := by
 obtain ⟨es, clock, since, seen, c0, h1, h2, h3, _⟩ := h
 exact ⟨es, clock, h1, h2, h3⟩
theorem RngS.lt {w : World} {b r : Nat} {f : ByteArray -> Option Value} {T : List ByteArray} (h : RngS w b r f T) : r < w.heap.size := by
 obtain ⟨es, clock, since, seen, c0, h1, h2, h3, h4, _⟩ := h
 exact (Array.getElem?_eq_some_iff.1 h4).1
theorem RngS.of_block {w w' : World} {b r : Nat} {f : ByteArray -> Option Value} {T : List ByteArray} (h : RngS w b r f T) (e : w'.heap[b]? = w.heap[b]?) (e' : w'.heap[r]? = w.heap[r]?) : RngS w' b r f T := by
 obtain ⟨es, clock, since, seen, c0, h1, h2, h3, h4, h5⟩ := h
 exact ⟨es, clock, since, seen, c0, e.trans h1, h2, h3, e'.trans h4, h5⟩
theorem bS_ {w w' : World} {b r : Nat} (e : w'.heap[b]? = w.heap[b]?) (e' : w'.heap[r]? = w.heap[r]?) : w'.rangeLeft b r = w.rangeLeft b r := by
 unfold World.rangeLeft
 rw [e, e']
theorem RngS.walk {w : World} {b r : Nat} {f : ByteArray -> Option Value} {T : List ByteArray} (h : RngS w b r f T) : ∃ o : Obj, w.heap[r]? = some o /\ o.isWalk = true /\ o.isCells = false := by
 obtain ⟨es, clock, since, seen, c0, h1, h2, h3, h4, _⟩ := h
 exact ⟨_, h4, rfl, rfl⟩
section
variable {P : Program} {w : World} {T : TypeId} {K E : TypeId} {b r : Nat} {f : ByteArray -> Option Value} {S : List ByteArray}
theorem MapS.run_range (h : MapS w b f) (hT : P.underlying T = some (.map K E)) :
  ∃ w', (Instr.range T (.map (some b))).run P w = .ok (.pointer (some ⟨w.heap.size, 0, none⟩)) w' /\ RngS w' b w.heap.size f [] /\ Bw w w' /\ w'.heap.size = w.heap.size + 1 /\ w.grownBy w' none := by
 have hlt := h.lt
 obtain ⟨es, c, hb, hk, hf⟩ := h
 refine ⟨_, run_range_map w T K E b es c hT hb, ⟨es, c, c, #[], c, ?_, hk, hf, heap_alloc_new w _, hk.2.1, lR _, lR _, fun x hx k he => ?_⟩, below1 w _, World.size_alloc _ _, World.grownBy_alloc w _ none⟩
 ·rw [(below1 w _).block b hlt]; exact hb
 simp
theorem RngS.run_next (h : RngS w b r f S) (ty : TypeId) :
  ((∀ k v, f k = some v -> k ∈ S) /\ (Instr.next (.pointer (some ⟨r, 0, none⟩)) false ty).run P w = .ok (.tuple #[.bool false]) w) ∨
  ∃ k v w', f k = some v /\ k ∉ S /\ (Instr.next (.pointer (some ⟨r, 0, none⟩)) false ty).run P w = .ok (.tuple #[.bool true, .string k, v]) w' /\ RngS w' b r f (S ++ [k]) /\ w'.rangeLeft b r < w.rangeLeft b r /\
   w.grownBy w' (some r) /\ w'.heap.size = w.heap.size /\ (Instr.entry (.pointer (some ⟨r, 0, none⟩))).run P w' = .ok (.tuple #[.string k, v]) w' := by
 have hrl := h.lt
 obtain ⟨es, clock, since, seen, c0, hb, hk, hf, hr, hold, h1, h2, h3⟩ := h
 have hne : r ≠ b := by
  rintro rfl
  rw [hb] at hr
  cases hr
 rcases run_next_at (P := P) w ty r b since c0 seen es clock hr hb hold h1 with ⟨h0, hrun⟩ | ⟨e, he, w1, hal, hrun⟩
 ·refine .inl ⟨fun k v hv => ?_, hrun⟩
  rw [<- hf k] at hv
  obtain ⟨x, hx, hxk, _⟩ := lkS_some hv hk.1.1
  exact (h3 x hx k hxk).1 (all_seen es seen h0 x hx)
 obtain ⟨hem, hes⟩ := mem_left he
 obtain ⟨k, hek⟩ := hk.1.1 e hem
 have hst := (Go.MapKept.stamped_iff es clock).1 hk.2
 have hr1 : w1.heap[r]? = some (.mapIter (some b) since seen c0) := by rcases hal with rfl | rfl <;> exact hr
 have hb1 : w1.heap[b]? = some (.map es clock) := by rcases hal with rfl | rfl <;> exact hb
 have hset := Go.MapKept.heap_set (o' := .mapIter (some b) since (seen.push e.born) clock) hr1
 have hb' : (Go.ChangeMaps.setBlock w1 r (.mapIter (some b) since (seen.push e.born) clock)).heap[b]? = some (.map es clock) := (hset.2 b (fun e1 => hne e1.symm)).trans hb1
 have hen := run_entry_at (P := P) _ r b since seen es clock e hset.1 hb' hem hst.2.1
 rw [hek] at hrun hen
 refine .inr ⟨k, e.val, _, by rw [<- hf k]; exact kP_ hk.1 hem hek, fun hm => ?_, hrun, ⟨es, clock, since, _, _, hb', hk, hf, hset.1, hold, h2, h2, fun x hx k' hxk => ?_⟩, ?_, ?_, ?_, hen⟩
 ·rw [<- h3 e hem k hek, hes] at hm
  cases hm
 ·rw [contains_push, Bool.or_eq_true, h3 x hx k' hxk]
  simp only [List.mem_append, List.mem_singleton, beq_iff_eq]
  refine or_congr Iff.rfl ⟨fun hbo => ?_, fun hkk => ?_⟩
  ·have : x = e := born_inj hst.2.1 hx hem hbo
   subst this
   rw [hek] at hxk
   cases hxk
   rfl
  subst hkk
  rw [entry_eq_of_key hst.2.2 hx hem (by rw [hxk, hek])]
 ·unfold World.rangeLeft
  have hs1 : (Go.ChangeMaps.setBlock w1 r (.mapIter (some b) since (seen.push e.born) clock)).heap[r]? = some (.mapIter (some b) since (seen.push e.born) clock) := hset.1
  rw [hb', hs1, hb, hr]
  exact left_shrinks es seen e he
 ·rcases hal with rfl | rfl <;> exact ⟨rfl, rfl, rfl, by simp [Go.ChangeMaps.setBlock], fun i _ hi => hset.2 i (fun e1 => hi (by rw [e1]))⟩
 rcases hal with rfl | rfl <;> simp [Go.ChangeMaps.setBlock]
end
section
variable {P : Program} {w : World} {ops : Array Oper} {rest : List Oper} {o : Oper} {a : Act} {Q : Exit -> Act -> World -> Prop} {F : Fence} {n : Nat}
theorem e4_ (hg : o.guard = none) (m : Operand) (t : TypeId) (hop : o.op = Op.range t m) (k e : TypeId) (ht : P.underlying t = some (.map k e)) (b : Nat) (f : ByteArray -> Option Value)
  (hm : a.eval m = .map (some b)) (hown : MapS w b f)
  (hK : ∀ w', RngS w' b w.heap.size f [] -> Bw w w' -> w'.heap.size = w.heap.size + 1 -> wpList P ops Q rest (a.put o.dst (.pointer (some ⟨w.heap.size, 0, none⟩))) w') : wpList P ops Q (o :: rest) a w := by
 refine wpList_plain hg fun K' hK' => ?_
 obtain ⟨w', hrun, r1, r2, r3, _⟩ := hown.run_range ht
 unfold Oper.wp
 simp [execOp, hop, hm, hrun, Result.andThen]
 exact hK' _ _ (hK w' r1 r2 r3)
theorem fU_ (hg : o.guard = none) (it : Operand) (hop : o.op = Op.next it false) (b r : Nat) (f : ByteArray -> Option Value) (S : List ByteArray)
  (hit : a.eval it = .pointer (some ⟨r, 0, none⟩)) (h : RngS w b r f S)
  (hDone : (∀ k v, f k = some v -> k ∈ S) -> wpList P ops Q rest (a.put o.dst (.tuple #[.bool false])) w)
  (hMore : ∀ (k : ByteArray) (v : Value) (w' : World), f k = some v -> k ∉ S -> RngS w' b r f (S ++ [k]) -> w'.rangeLeft b r < w.rangeLeft b r -> w.grownBy w' (some r) -> w'.heap.size = w.heap.size ->
   (Instr.entry (.pointer (some ⟨r, 0, none⟩))).run P w' = .ok (.tuple #[.string k, v]) w' -> wpList P ops Q rest (a.put o.dst (.tuple #[.bool true, .string k, v])) w') : wpList P ops Q (o :: rest) a w := by
 refine wpList_plain hg fun K' hK' => ?_
 unfold Oper.wp
 rcases h.run_next (P := P) o.type with ⟨h0, hrun⟩ | ⟨k, v, w', h1, h2, hrun, h3, h4, h5, h6, h7⟩
 ·simp [execOp, hop, hit, hrun, Result.andThen]
  exact hK' _ _ (hDone h0)
 simp [execOp, hop, hit, hrun, Result.andThen]
 exact hK' _ _ (hMore k v w' h1 h2 h3 h4 h5 h6 h7)
theorem dU_ (hg : o.guard = none) (m : Operand) (t : TypeId) (hop : o.op = Op.range t m) (k e : TypeId) (ht : P.underlying t = some (.map k e)) (b : Nat) (f : ByteArray -> Option Value)
  (hm : a.eval m = .map (some b)) (hown : MapS w b f)
  (hK : ∀ w', RngS w' b w.heap.size f [] -> w.grownBy w' none -> w'.heap.size = w.heap.size + 1 -> wpListIn F n P ops Q rest (a.put o.dst (.pointer (some ⟨w.heap.size, 0, none⟩))) w') : wpListIn F n P ops Q (o :: rest) a w := by
 refine wpListIn_plain hg fun K' hK' => ?_
 obtain ⟨w', hrun, r1, _, r3, r4⟩ := hown.run_range ht
 unfold Oper.wpIn
 refine ⟨?_, ?_⟩
 ·simp [Oper.about, hop]
 rw [Oper.semAt_plain F _ _ (by rw [hop]; intro c hc'; cases hc')]
 simp [execOp, hop, hm, hrun, Result.andThen]
 exact hK' _ _ (hK w' r1 r4 r3)
theorem ea_ (hg : o.guard = none) (it : Operand) (hop : o.op = Op.next it false) (b r : Nat) (f : ByteArray -> Option Value) (S : List ByteArray)
  (hit : a.eval it = .pointer (some ⟨r, 0, none⟩)) (h : RngS w b r f S)
  (hDone : (∀ k v, f k = some v -> k ∈ S) -> wpListIn F n P ops Q rest (a.put o.dst (.tuple #[.bool false])) w)
  (hMore : ∀ (k : ByteArray) (v : Value) (w' : World), f k = some v -> k ∉ S -> RngS w' b r f (S ++ [k]) -> w'.rangeLeft b r < w.rangeLeft b r -> w.grownBy w' (some r) -> w'.heap.size = w.heap.size ->
   (Instr.entry (.pointer (some ⟨r, 0, none⟩))).run P w' = .ok (.tuple #[.string k, v]) w' -> wpListIn F n P ops Q rest (a.put o.dst (.tuple #[.bool true, .string k, v])) w') : wpListIn F n P ops Q (o :: rest) a w := by
 refine wpListIn_plain hg fun K' hK' => ?_
 unfold Oper.wpIn
 refine ⟨by simp [Oper.about, hop], ?_⟩
 rw [Oper.semAt_plain F _ _ (by rw [hop]; intro c hc'; cases hc')]
 rcases h.run_next (P := P) o.type with ⟨h0, hrun⟩ | ⟨k, v, w', h1, h2, hrun, h3, h4, h5, h6, h7⟩
 ·simp [execOp, hop, hit, hrun, Result.andThen]
  exact hK' _ _ (hDone h0)
 simp [execOp, hop, hit, hrun, Result.andThen]
 exact hK' _ _ (hMore k v w' h1 h2 h3 h4 h5 h6 h7)
end
theorem b8_ {F : Fence} {n : Nat} {P : Program} {α : Type} {g : Operand} {ps : Array Tmp} {assign body : Code} {Q : Exit -> Act -> World -> Prop} {a : Act} {w : World}
  (hro : F.round = none) (h1 : 1 <= n) {gf : Nat} {lb : Array Value} (hg : a.eval g = .func (.func gf) #[] lb) (hFg : F.fn gf) (eg : ∀ args w, (callFunc gf args).run P w = .ok (.enter gf args) w)
  {encs : α -> Array Value} (hps : ∀ x, (encs x).size = ps.size) (S : List α -> Prop) (I : List α -> World -> Prop) (hI : OwnFrom w.heap.size I) (h0 : I [] w)
  (hseq : ∀ (l : Nat) (J : List α -> World -> Prop) (W : World), w.heap.size <= W.heap.size -> AbidesFrom W.heap.size J -> (∀ pre W1, J pre W1 -> I pre W1) ->
   (∀ pre x W1, J pre W1 -> YieldAt F (n - 1 - 1) P l (encs x) W1 fun e W' => e = .returned (.bool true) /\ J (pre ++ [x]) W' /\ KeepsWalks W1 W') -> J [] W ->
   CallsIn F (n - 1) P gf (#[.func (.yield l) #[] #[]] ++ lb) W fun e W' => (∃ v, e = .returned v) /\ ∃ xs, S xs /\ J xs W')
  (a₁ : α -> Act)
  (hassign : ∀ (l : Nat) (x : α) (W : World) (K : Act -> World -> Prop), K (a₁ x) W ->
   assign.wpIn (F.inRound l) (n - 1 - 1) P (Exit.then K (fun _ _ _ => False)) { tmps := (ps.zip (encs x)).foldl (fun t (p, v) => t.setIfInBounds p v) a.tmps, defers := [] } W)
  (hbody : ∀ (l : Nat) (pre : List α) (x : α) (W : World), I pre W -> body.wpIn (F.inRound l) (n - 1 - 1) P (ownPost I (fun _ _ _ => False) (pre ++ [x]) W) (a₁ x) W)
  (hdone : ∀ (D : Nat) (xs : List α) (W : World), w.heap.size <= D -> S xs -> I xs W -> W.heap[D]? = some (.deferred (some [])) -> Q .normal { a with defers := { target := .collected D, args := #[] } :: a.defers } W) :
  (Code.rangeFunc g ps assign body).wpIn F n P Q a w := by
 refine wpIn_rangeFunc ?_
 intro fn hfn
 rw [hro]
 obtain ⟨rec, hrec⟩ : ∃ rec : LoopState -> Loop, rec = fun st => { state := st, pending := none, fn, tmps := a.tmps, params := ps, assign, body, defers := w.heap.size } := ⟨_, rfl⟩
 obtain ⟨W1, hW1⟩ := eY ((w.alloc (.deferred (some []))).alloc (.loop (rec .ready)))
 have hL1 : W1.heap[w.heap.size + 1]? = some (.loop (rec .ready)) := by
  rw [<- hW1]
  have := World.alloc_heap_new (w.alloc (.deferred (some []))) (.loop (rec .ready))
  rwa [World.size_alloc] at this
 have hK1 : W1.heap[w.heap.size]? = some (.deferred (some [])) := by
  rw [<- hW1]
  exact (Below.heap_alloc _ _ _ (by simp)).trans (World.alloc_heap_new w _)
 have hI1 : I [] W1 := by
  rw [<- hW1]
  exact hI.alloc _ (hI.alloc _ h0)
 have hs1 : w.heap.size <= W1.heap.size := by rw [<- hW1]; simp; omega
 refine ⟨w.heap.size + 1, [{ target := .collected w.heap.size, args := #[] }], W1, { target := .fn (.func gf) lb, args := #[.func (.yield (w.heap.size + 1)) #[] #[]] }, W1, gf,
  #[.func (.yield (w.heap.size + 1)) #[] #[]] ++ lb, W1, ?_, ?_, ?_, ?_, fun _ => h1, ?_⟩
 ·rw [<- hW1, hrec]
  exact run_enterLoop_outer _ _ _ _ _
 ·simp only [resolve, hg]
  simp [go_sem]
 ·intro f' hf'
  simp [Target.leads] at hf'
  subst hf'
  exact hFg
 ·simp [invoke, go_sem, eg]
 refine (hseq (w.heap.size + 1) (fun pre W => I pre W /\ W.heap[w.heap.size + 1]? = some (.loop (rec .ready)) /\ W.heap[w.heap.size]? = some (.deferred (some []))) W1 hs1 ?_ (fun pre W h => h.1) ?_ ⟨hI1, hL1, hK1⟩).mono ?_
 ·intro s A B row hs hg' hr
  have hw : ∀ r, row = some r -> ∃ o : Obj, A.heap[r]? = some o /\ o.isWalk = true := fun r e => (hr r e).2
  exact ⟨hI s A B row hs.1 hg' (fun r e => by obtain ⟨h2, o, h3, h4⟩ := hr r e; exact ⟨lT hs1 h2, o, h3, Obj.not_cells_of_walk h4⟩), (grownBy_keeps hg' hw hs.2.1 rfl).trans hs.2.1, (grownBy_keeps hg' hw hs.2.2 rfl).trans hs.2.2⟩
 ·rintro pre x W ⟨hi, hl, hk⟩
  have hlt : w.heap.size + 1 < W.heap.size := (Array.getElem?_eq_some_iff.1 hl).1
  have hy := run_yield (P := P) (args := encs x) hl (by rw [hrec]; exact hps x)
  rw [hrec] at hy
  refine ⟨fn, _, assign, body, hy, roundIn_of_wpIn hfn (hassign _ x W _ ⟨_, run_beginRound hl (by rw [hrec]), ?_⟩)⟩
  obtain ⟨W2, hW2⟩ := eY (W.putObj (w.heap.size + 1) (.loop { rec .ready with state := .busy }))
  rw [hW2]
  have hl2 : W2.heap[w.heap.size + 1]? = some (.loop { rec .ready with state := .busy }) := by rw [<- hW2]; exact World.putObj_heap_same hlt
  have hk2 : W2.heap[w.heap.size]? = some (.deferred (some [])) := by rw [<- hW2]; exact (World.putObj_heap_other (by omega)).trans hk
  have hi2 : I pre W2 := by rw [<- hW2]; exact hI.putObj _ hi (by omega) hl rfl
  have hw2 : KeepsWalks W W2 := by rw [<- hW2]; exact KeepsWalks.putObj _ hl rfl
  refine wpIn_mono (hbody _ pre x _ hi2) ?_
  rintro e a3 W3 hp
  cases e with
  | normal =>
   obtain ⟨hk3, hi3⟩ := hp
   have hl3 := hk3.same _ _ hl2 rfl
   have hr := run_endRound (P := P) none hl3
   have hlt3 := (Array.getElem?_eq_some_iff.1 hl3).1
   refine ⟨_, _, hr, rfl, ⟨hI.putObj _ hi3 (by omega) hl3 rfl, ?_, (World.putObj_heap_other (by omega)).trans (hk3.same _ _ hk2 rfl)⟩, (hw2.trans hk3.walks).trans (KeepsWalks.putObj _ hl3 rfl)⟩
   rw [World.putObj_heap_same hlt3, hrec]
   rfl
  | ret => exact hp.2.elim
  | exit id => exact hp.2.elim
  | goto t => exact hp.2.elim
  | panic ch => exact hp.elim
  | outgrown => exact hp.elim
 rintro e W2 ⟨⟨v, rfl⟩, xs, hS, hi, hl, hk⟩
 have hend := run_endLoop (P := P) hl (by rw [hrec]; simp)
 rw [hrec] at hend
 exact ⟨none, _, hend, hdone _ xs _ (lR _) hS (hI.putObj _ hi (by omega) hl rfl) ((World.putObj_heap_other (by omega)).trans hk)⟩
set_option maxRecDepth 100000
set_option maxHeartbeats 4000000
def Aside2 (w : World) (s : JS) (lim : Nat) (L : List Nat) : Prop := ∀ b ∈ L, lim <= b /\ b ≠ s.M /\ b ≠ s.C /\ ∀ o, w.heap[b]? = some o -> o.isCells = false
theorem dg_ {w : World} {b : Nat} {t : TypeId} {l : List Value} (h : RowL w b t l) {o : Obj} (ho : w.heap[b]? = some o) : o.isCells = true := by
 obtain ⟨c, hc⟩ := h.block
 rw [hc] at ho
 cases ho
 rfl
theorem gi_ {w : World} {base n b : Nat} {e : TypeId} {size : Nat} {v : Value} {xs : List Value} (h : w.ownsRow base e size v n xs) (hb : v.ownBlock = some b) {o : Obj} (ho : w.heap[b]? = some o) : o.isCells = true := by
 rcases h.2 with ⟨rfl, _⟩ | ⟨g, cap, cur, rfl, _, hg, _⟩
 ·cases hb
 have : g = b := by simpa [Value.ownBlock] using hb
 subst this
 rw [hg] at ho
 cases ho
 rfl
theorem JI.other {w w' : World} {lim J : Nat} {grace : Int} {ws : List WrR} {es : Edges} {s : JS} (h : JI w lim J grace ws es s) {L : List Nat} (hk : Kept L w w') (hL : Aside2 w s lim L) : JI w' lim J grace ws es s := by
 have hro : ∀ {b : Nat} {t : TypeId} {l : List Value}, RowL w b t l -> RowL w' b t l := fun {b t l} hr => hk.row (fun hm => by
  have := (hL b hm).2.2.2 _ (Array.getElem?_eq_getElem hr.lt)
  rw [dg_ hr (Array.getElem?_eq_getElem hr.lt)] at this
  cases this) hr
 have how : ∀ {base n : Nat} {e : TypeId} {size : Nat} {v : Value} {xs : List Value}, w.ownsRow base e size v n xs -> w'.ownsRow base e size v n xs := fun {base n e size v xs} hx => hk.own2 hx fun b hb hv => by
  have hl := b4_ hx hv
  have := (hL b hb).2.2.2 _ (Array.getElem?_eq_getElem hl)
  rw [gi_ hx hv (Array.getElem?_eq_getElem hl)] at this
  cases this
 have hb : Below lim w w' := hk.below h.lw fun b hb => (hL b hb).1
 exact ⟨hro h.row, h.isT, how h.own, h.len, h.nd, h.few, h.fewE, h.mapM.of_block (hk.block _ h.mapM.lt fun hm => (hL _ hm).2.1 rfl), h.mapC.of_block (hk.block _ h.mapC.lt fun hm => (hL _ hm).2.2.1 rfl), h.ne,
  fun i x p hi hp => ⟨hro (h.wrs i x p hi hp).1, (h.wrs i x p hi hp).2⟩, h.times, fun i x hi => (h.vals1 i x hi).below hb (lR _), fun i x hi => by
   obtain ⟨ts, h0, h1, h2⟩ := h.vals2 i x hi
   exact ⟨ts, h0, how h1, h2⟩, fun k v hf => how (h.kidsV k v hf), h.kidsN, h.sep, h.tsep, h.only, h.lJ, h.lM, h.lC, lT h.lw hk.size⟩
theorem JI.setW {w : World} {lim J : Nat} {grace : Int} {ws : List WrR} {es : Edges} {s : JS} (h : JI w lim J grace ws es s) {i j p : Nat} {x x' : WrR} {v : Value} (hi : ws[i]? = some x) (hp : s.ps[i]? = some p)
  (hr : wrL x' (s.vals i).1 (s.vals i).2 = (wrL x (s.vals i).1 (s.vals i).2).set j v) (hv : x'.key = x.key /\ x'.val = x.val /\ x'.tags = x.tags /\ (x'.gone = 0 -> x.gone = 0) /\ IsT x'.soft /\ IsT x'.dl) :
  JI (w.setCell ⟨p, j, none⟩ v) lim J grace (ws.set i x') es s /\ Kept [p] w (w.setCell ⟨p, j, none⟩ v) /\ lim <= p := by
 have hk1 : Kept [p] w (w.setCell ⟨p, j, none⟩ v) := (Kept.refl [p] w).setCell (p := ⟨p, j, none⟩) (by simp) v
 have hpm : p ∈ s.ps := mG hp
 have hk : Kept s.ps w (w.setCell ⟨p, j, none⟩ v) := (Kept.refl s.ps w).setCell (p := ⟨p, j, none⟩) hpm v
 have hil := (gS.1 hi).1
 refine ⟨h.rows hk (by simp) (fun k y y' hy hy' => ?_) (fun k y' q hy' hq => ?_), hk1, (h.wrs i x p hi hp).2⟩
 ·rw [List.getElem?_set] at hy'
  by_cases e : i = k
  ·subst e
   rw [if_pos rfl] at hy'
   simp [hil] at hy'
   subst hy'
   rw [hi] at hy
   cases hy
   exact hv
  rw [if_neg e, hy] at hy'
  cases hy'
  have := h.times y (mG hy)
  exact ⟨rfl, rfl, rfl, id, this.1, this.2⟩
 rw [List.getElem?_set] at hy'
 by_cases e : i = k
 ·subst e
  rw [if_pos rfl] at hy'
  simp [hil] at hy'
  subst hy'
  rw [hp] at hq
  cases hq
  exact (h.wrs i x p hi hp).1.setCell j v _ hr.symm
 rw [if_neg e] at hy'
 have hne : q ≠ p := fun e2 => by
  subst e2
  have hkl := (gS.1 hq).1
  have hil2 := (gS.1 hp).1
  exact e ((List.getElem?_inj hil2 h.nd).1 (hp.trans hq.symm))
 exact hk1.row (by simpa using hne) (h.wrs k y' q hy' hq).1
def bA_ (f : WrR -> WrR) (T : List Nat) (ws : List WrR) : List WrR := ws.mapIdx fun i y => if i ∈ T then f y else y
theorem dt_ {f : WrR -> WrR} {T : List Nat} {ws : List WrR} {i : Nat} {y : WrR} (h : ws[i]? = some y) : (bA_ f T ws)[i]? = some (if i ∈ T then f y else y) := by
 unfold bA_
 rw [List.getElem?_mapIdx, h]
 rfl
theorem dF_ (f : WrR -> WrR) (ws : List WrR) : bA_ f [] ws = ws := by
 unfold bA_
 apply List.ext_getElem?
 intro i
 rw [List.getElem?_mapIdx]
 cases ws[i]? <;> simp
theorem jX_ (f : WrR -> WrR) (T : List Nat) (ws : List WrR) : (bA_ f T ws).length = ws.length := by simp [bA_]
theorem e1_ {f : WrR -> WrR} {T : List Nat} {ws : List WrR} {i : Nat} {y : WrR} (h : ws[i]? = some y) (hf : ∀ y, f (f y) = f y) : bA_ f (T ++ [i]) ws = (bA_ f T ws).set i (f (if i ∈ T then f y else y)) := by
 apply List.ext_getElem?
 intro k
 have hil := (gS.1 h).1
 rw [List.getElem?_set]
 by_cases e : i = k
 ·subst e
  rw [if_pos rfl, jX_, if_pos hil, dt_ h, if_pos (by simp)]
  split
  ·rw [hf]
  rfl
 rw [if_neg e]
 unfold bA_
 rw [List.getElem?_mapIdx, List.getElem?_mapIdx]
 cases ws[k]? with
 | none => rfl
 | some z =>
  simp only [Option.map_some, List.mem_append, List.mem_singleton]
  by_cases hk : k ∈ T
  ·simp [hk]
  simp [hk]
  exact fun e2 => absurd e2.symm e
theorem fS_ {f : WrR -> WrR} {T : List Nat} {ws : List WrR} (h : ∀ (i : Nat) (y : WrR), ws[i]? = some y -> (i ∈ T ↔ y.gone = 0)) : bA_ f T ws = ws.map fun y => if y.gone = 0 then f y else y := by
 apply List.ext_getElem?
 intro i
 rw [gM]
 unfold bA_
 rw [List.getElem?_mapIdx]
 cases hy : ws[i]? with
 | none => rfl
 | some y =>
  simp only [Option.map_some]
  by_cases g : y.gone = 0
  ·rw [if_pos ((h i y hy).2 g), if_pos g]
  rw [if_neg (fun e => g ((h i y hy).1 e)), if_neg g]
end Go.Proofs.YtnjhpgmbfblgaaaGreat.Ord
