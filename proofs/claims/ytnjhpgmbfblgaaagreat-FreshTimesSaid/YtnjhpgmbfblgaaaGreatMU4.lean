/- Walk of the reference's Commits: insertion by Done; Walks of the times of writes. -/
import Derived.Test.YtnjhpgmbfblgaaaGreatMU59
import Derived.Test.YtnjhpgmbfblgaaaGreatMR2
import Derived.Test.YtnjhpgmbfblgaaaGreatMR25
import Derived.Deep.DeepCutAuto
import Derived.Test.YtnjhpgmbfblgaaaGreatMH13
import Derived.Test.YtnjhpgmbfblgaaaGreatMK8
set_option linter.unusedVariables false
set_option linter.unusedSimpArgs false
namespace Go.Proofs.YtnjhpgmbfblgaaaGreat.Ord
set_option maxRecDepth 100000
set_option maxHeartbeats 16000000
open Go.RowKit Go.Sort Go.Lib
def eQ_ (l : List CallC) (k : Nat) : List Nat := (List.range k).filter fun i => match l[i]? with | some c => decide (0 <= c.d) | none => false
theorem eP_ {l : List CallC} {k : Nat} (hk : k < l.length) : eQ_ l (k + 1) = eQ_ l k ++ (if 0 <= (at_ l k).d then [k] else []) := by
 unfold eQ_
 rw [List.range_succ, List.filter_append]
 congr 1
 have : (at_ l k).d = l[k].d := by simp [at_, List.getD, hk]
 simp only [List.filter_cons, gE hk, decide_eq_true_eq, this, List.filter_nil]
theorem fE_ {l : List CallC} {k n : Nat} (hk : k <= l.length) : n ∈ eQ_ l k ↔ n < k /\ 0 <= (at_ l n).d := by
 unfold eQ_
 simp only [List.mem_filter, List.mem_range]
 constructor
 ·rintro ⟨h1, h2⟩
  have h3 : n < l.length := by omega
  simp only [gE h3, decide_eq_true_eq] at h2
  exact ⟨h1, by simpa [at_, List.getD, h3] using h2⟩
 rintro ⟨h1, h2⟩
 have h3 : n < l.length := by omega
 simp only [gE h3, decide_eq_true_eq]
 exact ⟨h1, by simpa [at_, List.getD, h3] using h2⟩
structure InsK (l : List CallC) (k : Nat) (ys : List Nat) : Prop where
 perm : ys.Perm (eQ_ l k)
 strict : ys.Pairwise fun (x y : Nat) => (at_ l x).d < (at_ l y).d
theorem InsK.zero (l : List CallC) : InsK l 0 [] := ⟨by simp [eQ_], List.Pairwise.nil⟩
theorem InsK.no {l : List CallC} {k : Nat} {ys : List Nat} (h : InsK l k ys) (hk : k < l.length) (hd : (at_ l k).d < 0) : InsK l (k + 1) ys :=
 ⟨by rw [eP_ hk, if_neg (by omega), List.append_nil]; exact h.perm, h.strict⟩
def gtK (l : List CallC) (k : Nat) (ys : List Nat) (m : Nat) : Prop := ∀ y ∈ ys.drop m, (at_ l k).d < (at_ l y).d
def ltK (l : List CallC) (k : Nat) (ys : List Nat) (m : Nat) : Prop := ∀ y ∈ ys.take m, (at_ l y).d < (at_ l k).d
theorem InsK.yes {l : List CallC} {k m : Nat} {ys : List Nat} (h : InsK l k ys) (hk : k < l.length) (hd : 0 <= (at_ l k).d) (hg : gtK l k ys m) (hl : ltK l k ys m) : InsK l (k + 1) (ys.take m ++ [k] ++ ys.drop m) := by
 refine ⟨?_, ?_⟩
 ·rw [eP_ hk, if_pos hd]
  refine List.Perm.trans ?_ (h.perm.append_right [k])
  have e : ys ++ [k] = ys.take m ++ (ys.drop m ++ [k]) := by rw [<- aA, List.take_append_drop]
  rw [e, aA]
  exact List.Perm.append_left _ (List.perm_append_comm)
 have h1 := h.strict
 rw [<- List.take_append_drop m ys, List.pairwise_append] at h1
 rw [aA, List.pairwise_append]
 refine ⟨h1.1, ?_, ?_⟩
 ·rw [List.singleton_append, List.pairwise_cons]
  exact ⟨hg, h1.2.1⟩
 intro a ha b hb
 rcases List.mem_append.1 hb with hb | hb
 ·simp only [List.mem_singleton] at hb; subst hb; exact hl a ha
 exact h1.2.2 a ha b hb
theorem gtK_len (l : List CallC) (k : Nat) (ys : List Nat) : gtK l k ys ys.length := by simp [gtK]
theorem gtK_pred {l : List CallC} {k m : Nat} {ys : List Nat} (h : gtK l k ys (m + 1)) (hm : m < ys.length) (hd : (at_ l k).d < (at_ l (ys[m] : Nat)).d) : gtK l k ys m := by
 intro y hy
 rw [List.drop_eq_getElem_cons hm] at hy
 rcases List.mem_cons.1 hy with e | hy
 ·subst e; exact hd
 exact h y hy
theorem ltK_of {l : List CallC} {k m : Nat} {ys : List Nat} (hs : ys.Pairwise fun (x y : Nat) => (at_ l x).d < (at_ l y).d) (hm : m < ys.length) (hd : (at_ l (ys[m] : Nat)).d < (at_ l k).d) : ltK l k ys (m + 1) := by
 intro y hy
 rw [tA, gE hm] at hy
 rcases List.mem_append.1 hy with hy | hy
 ·have h1 := hs
  rw [<- List.take_append_drop m ys, List.pairwise_append] at h1
  have := h1.2.2 y hy ys[m] (by rw [List.drop_eq_getElem_cons hm]; exact List.mem_cons_self)
  omega
 simp at hy; subst hy; exact hd
theorem iO_ (l : List CallC) (k : Nat) (ys : List Nat) : ltK l k ys 0 := by simp [ltK]
theorem h0_ {l : List CallC} {zs : List Nat} (h : zs.Pairwise fun (x y : Nat) => (at_ l x).d < (at_ l y).d) {a b : Nat} (ha : a ∈ zs) (hb : b ∈ zs) (hne : a ≠ b) : (at_ l a).d ≠ (at_ l b).d := by
 obtain ⟨i, hi, rfl⟩ := List.getElem_of_mem ha
 obtain ⟨j, hj, rfl⟩ := List.getElem_of_mem hb
 rw [List.pairwise_iff_getElem] at h
 rcases Nat.lt_trichotomy i j with hij | hij | hij
 ·have := h i j hi hj hij; omega
 ·subst hij; exact absurd rfl hne
 have := h j i hj hi hij; omega
theorem ik_ {l : List CallC} {k m : Nat} {ys : List Nat} (h : InsK l k ys) (hk : k < l.length) (hd : 0 <= (at_ l k).d) (hm : m < ys.length) (he : (at_ l (ys[m] : Nat)).d = (at_ l k).d) : aO_ l = none := by
 have h1 := (fE_ (by omega)).1 (h.perm.mem_iff.1 (List.getElem_mem hm))
 cases hc : aO_ l with
 | none => rfl
 | some zs =>
  have hz := cQ_ hc
  exact absurd he (h0_ hz.2 (hz.1.mem_iff.2 (mem_doneN.2 ⟨by omega, h1.2⟩)) (hz.1.mem_iff.2 (mem_doneN.2 ⟨hk, hd⟩)) (by omega))
theorem ij_ {l : List CallC} {ys : List Nat} (h : InsK l l.length ys) : aO_ l = some ys := b6_ ⟨h.perm, h.strict⟩
def nats (ys : List Nat) : List Value := ys.map fun (x : Nat) => Value.int .i64 (x : Int)
theorem cI_ (ys : List Nat) : ∀ u ∈ nats ys, u.oneCell' = true := by
 intro u hu
 simp only [nats, List.mem_map] at hu
 obtain ⟨_, _, rfl⟩ := hu
 rfl
theorem src3 {W W1 W2 : World} {base g M cp m : Nat} {ys : List Nat} (h : W.ownsRow base 3 1 (.slice (some ⟨g, 0, none⟩) M cp) M (nats ys)) (h1 : RowKit.Below W.heap.size W W1) (h2 : RowKit.Below W.heap.size W1 W2) (hg : g < W.heap.size) (hm : m <= M) (hM : ys.length = M) :
  Src W2 (if cp = m then some ⟨g, 0, none⟩ else some ⟨g, m, none⟩) (M - m) (cp - m) (nats (ys.drop m)) := by
 have h3 := cb_ h (h1.trans h2)
 have h4 := hD_ h3 m (M - m) (cp - m) (by omega) (A := if cp = m then some ⟨g, 0, none⟩ else some ⟨g, m, none⟩) (fun h0 => by
  rcases bc_ h (by decide) with ⟨h5, _⟩ | ⟨_, _, h5, _, _, h6, _⟩
  ·cases h5
  cases h5; rw [if_neg (by omega)]) (by split <;> simp)
 have e : (nats ys).drop m = nats (ys.drop m) := by simp [nats, List.map_drop]
 rw [e, tL (by simp [nats]; omega)] at h4
 exact h4
theorem eF_ {l : List CallC} {k m M N : Nat} {ys : List Nat} {w wo W W1 W2 W3 : World} {v3 : Value} {n3 : Nat} {xs3 : List Value} (h : InsK l k ys) (hk : k < l.length) (hd : 0 <= (at_ l k).d) (hyk : M <= k) (hM : ys.length = M) (hm : m <= M) (hg : gtK l k ys m) (hl : ltK l k ys m)
  (hb : RowKit.Below w.heap.size w wo) (hW : RowKit.Below wo.heap.size wo W) (hb1 : RowKit.Below W.heap.size W W1) (hb2 : RowKit.Below W.heap.size W1 W2) (hb3 : RowKit.Below W.heap.size W2 W3) (hsz : w.heap.size <= wo.heap.size)
  (hown : W3.ownsRow W.heap.size 3 1 v3 n3 xs3) (hn : n3 = M + 1) (hx : xs3 = nats (ys.take m ++ [k] ++ ys.drop m)) (hN : k < N) :
  ∃ (k' : Nat) (ys' : List Nat), k' <= N /\ ys'.length <= k' /\ Value.int .i64 ((k : Int) + 1) = .int .i64 k' /\ InsK l k' ys' /\ W3.ownsRow w.heap.size 3 1 v3 ys'.length (nats ys') /\ RowKit.Below w.heap.size w W3 := by
 subst hn hx
 have hlen : (ys.take m ++ [k] ++ ys.drop m).length = M + 1 := by simp; omega
 refine ⟨k + 1, ys.take m ++ [k] ++ ys.drop m, by omega, by omega, by go_num, h.yes hk hd hg hl, ?_, ?_⟩
 ·rw [hlen]; exact bh_ hown (lT hsz hW.size)
 have hs := hW.size
 exact hb.trans ((hW.mono hsz).trans ((hb1.trans (hb2.trans hb3)).mono (by omega)))
theorem fa_ (A : Option Addr) (l : List CallC) (cap : Nat) (w : World) (hl : l.length <= 4096) (hA : CallsAt w w.heap.size A l) :
  Calls Tryz.prog 50 #[.slice A l.length cap] w fun e w' => e2_ l w e w' := by
 generalize hN : l.length = N at *
 have HN := kp hN
 clear hN
 have hg : decide ((4096 : Int) < (N : Int)) = false := by simp; omega
 go_enter Tryz.func50, Tryz.ntmps50
 go_wp2
 go_loopw [4, 5] (fun v j wr => ∃ (k : Nat) (ys : List Nat), k <= N /\ ys.length <= k /\ j = .int .i64 k /\ InsK l k ys /\ wr.ownsRow w.heap.size 3 1 v ys.length (nats ys) /\ RowKit.Below w.heap.size w wr) (fun _ j _ => N - (intOf j).toNat)
 case atStart => exact ⟨0, [], Nat.zero_le _, Nat.zero_le _, rfl, InsK.zero l, World.ownsRow_nil _ _ _ _, RowKit.Below.refl _ _⟩
 obtain ⟨k, ys, hk, hyk, rfl, hI, hown, hb⟩ := hrel
 have HI := kp hI
 clear hI
 by_cases hlt : k < N
 ·have hkl : k < l.length := by rw [HN.o]; exact hlt
  obtain ⟨b, off, rfl, hbB, hck⟩ := bQ_ (hA.below hb (lR _)) hkl
  have c0 := hck.d
  clear hck
  by_cases hd : (at_ l k).d < 0
  ·go_wp2
   go_roundw
   case rel => exact ⟨k + 1, ys, by omega, by omega, by go_num, HI.o.no hkl hd, hown, hb⟩
   simp [intOf]; omega
  obtain ⟨p, cp, rfl⟩ := ax_ hown
  generalize hM : ys.length = M at *
  have HM := kp hM
  clear hM
  obtain ⟨wo, rfl⟩ : ∃ wo : World, wo = wr := ⟨_, rfl⟩
  go_wp2
  go_loopw [6] (fun j wr => ∃ m : Nat, m <= M /\ j = .int .i64 m /\ gtK l k ys m /\ RowKit.Below wo.heap.size wo wr) (fun j _ => (intOf j).toNat)
  case atStart => exact ⟨M, lR _, rfl, by rw [<- HM.o]; exact gtK_len l k ys, RowKit.Below.refl _ _⟩
  obtain ⟨m, hm, rfl, hgt, hb2⟩ := hrel
  have HG := kp hgt
  clear hgt
  rcases bc_ hown (by decide) with ⟨hp, rfl, hys⟩ | ⟨g, cg, hp, hgb, hglt, hcg, hcm⟩
  ·cases hp
   obtain rfl : m = 0 := by omega
   have Aa := kp hys
   clear hys
   go_wp2_with fail
   go_quiet (fail)
   have hW : RowKit.Below wo.heap.size wo (wr.drewN nq) := ⟨hb2.os, hb2.tape, hb2.output, hb2.size, hb2.block⟩
   have hownW := cb_ hown hW
   have hszW : wo.heap.size <= wr.heap.size := hb2.size
   have hszw : w.heap.size <= wo.heap.size := hb.size
   go_wp2_with (first
    | ((with_reducible refine ae_ (o := ⟨some 64, _, _, _, _, _⟩) rfl _ _ 87 rfl wr.heap.size 3 (.int .i64 0) 1 8 Tryz.underlying87 Tryz.info3 rfl (by decide) (.slice none 0 0) 0 [] ?_ (World.ownsRow_nil _ _ _ _) none 0 0 (nats (ys.take 0)) ?_ ?_ ?_ (cI_ _) ?_ ?_ ?_ ?_); (· rfl); (· rfl); (· first | (simp [nats]; done) | (simp [nats]; omega) | (simp [nats]; exact HM.o) | (simp [nats]; exact eN HM.o)); (· exact .inl ⟨rfl, by simp [nats], fun _ => rfl⟩); (· unfold maxLen; omega); (· omega); (· simp); intro v1 w1 hown1 hg1 hb1)
    | ((with_reducible refine aK_ (o := ⟨some 68, _, _, _, _, _⟩) rfl _ _ 87 rfl wr.heap.size 3 (.int .i64 0) 8 Tryz.underlying87 Tryz.info3 rfl v1 _ _ ?_ hown1 _ w1.heap.size ?_ ?_ ?_ ?_ ?_ ?_ ?_); (· rfl); (· rfl); (· rfl); (· rfl); (· unfold maxLen; omega); (· omega); (· exact hb1.size); intro v2 w2 hown2 hb2')
    | (at_builtin; (with_reducible refine ae_ (o := ⟨some 73, _, _, _, _, _⟩) rfl _ _ 87 rfl wr.heap.size 3 (.int .i64 0) 1 8 Tryz.underlying87 Tryz.info3 rfl (by decide) v2 _ _ ?_ hown2 none 0 0 (nats (ys.drop 0)) ?_ ?_ ?_ (cI_ _) ?_ ?_ ?_ ?_); go_loud ((· rfl); (· rfl); (· first | (simp [nats]; done) | (simp [nats]; omega) | (simp [nats]; exact HM.o) | (simp [nats]; exact eN HM.o)); (· exact .inl ⟨rfl, Aa.o, fun _ => rfl⟩); (· unfold maxLen; omega); (· omega); (· exact lT hb1.size hb2'.size); intro v3 w3 hown3 hg3 hb3)))
   go_roundw
   case rel => exact eF_ HI.o hkl (by omega) hyk HM.o (Nat.zero_le _) HG.o (iO_ _ _ _) hb hW hb1 hb2' hb3 hszw hown3 (by omega) (by simp [nats]) hlt
   simp [intOf]; omega
  cases hp
  by_cases hm0 : m = 0
  ·subst hm0
   go_wp2_with fail
   go_quiet (fail)
   have hW : RowKit.Below wo.heap.size wo (wr.drewN nq) := ⟨hb2.os, hb2.tape, hb2.output, hb2.size, hb2.block⟩
   have hownW := cb_ hown hW
   have hszW : wo.heap.size <= wr.heap.size := hb2.size
   have hszw : w.heap.size <= wo.heap.size := hb.size
   go_wp2_with (first
    | ((with_reducible refine ae_ (o := ⟨some 64, _, _, _, _, _⟩) rfl _ _ 87 rfl wr.heap.size 3 (.int .i64 0) 1 8 Tryz.underlying87 Tryz.info3 rfl (by decide) (.slice none 0 0) 0 [] ?_ (World.ownsRow_nil _ _ _ _) (some ⟨g, 0, none⟩) 0 cp (nats (ys.take 0)) ?_ ?_ ?_ (cI_ _) ?_ ?_ ?_ ?_); (· rfl); (· rfl); (· first | (simp [nats]; done) | (simp [nats]; omega) | (simp [nats]; exact HM.o) | (simp [nats]; exact eN HM.o)); (· exact by simpa [nats, List.map_take] using hD_ hownW 0 0 cp (by omega) (A := some ⟨g, 0, none⟩) (fun _ => rfl) (by simp)); (· unfold maxLen; omega); (· omega); (· simp); intro v1 w1 hown1 hg1 hb1)
    | ((with_reducible refine aK_ (o := ⟨some 68, _, _, _, _, _⟩) rfl _ _ 87 rfl wr.heap.size 3 (.int .i64 0) 8 Tryz.underlying87 Tryz.info3 rfl v1 _ _ ?_ hown1 _ w1.heap.size ?_ ?_ ?_ ?_ ?_ ?_ ?_); (· rfl); (· rfl); (· rfl); (· rfl); (· unfold maxLen; omega); (· omega); (· exact hb1.size); intro v2 w2 hown2 hb2')
    | (at_builtin; (with_reducible refine ae_ (o := ⟨some 73, _, _, _, _, _⟩) rfl _ _ 87 rfl wr.heap.size 3 (.int .i64 0) 1 8 Tryz.underlying87 Tryz.info3 rfl (by decide) v2 _ _ ?_ hown2 (some ⟨g, 0, none⟩) M cp (nats (ys.drop 0)) ?_ ?_ ?_ (cI_ _) ?_ ?_ ?_ ?_); go_loud ((· rfl); (· rfl); (· first | (simp [nats]; done) | (simp [nats]; omega) | (simp [nats]; exact HM.o) | (simp [nats]; exact eN HM.o)); (· simpa using src3 (m := 0) hownW hb1 hb2' (by simp; omega) (Nat.zero_le _) HM.o); (· unfold maxLen; omega); (· omega); (· exact lT hb1.size hb2'.size); intro v3 w3 hown3 hg3 hb3)))
   go_roundw
   case rel => exact eF_ HI.o hkl (by omega) hyk HM.o (Nat.zero_le _) HG.o (iO_ _ _ _) hb hW hb1 hb2' hb3 hszw hown3 (by omega) (by simp [nats]) hlt
   simp [intOf]; omega
  have hz : decide (0 < m) = true := by simp; omega
  have hml : m - 1 < ys.length := by rw [HM.o]; omega
  have c1 : wr.cell? ⟨g, m - 1, none⟩ = some (.int .i64 (ys[m - 1] : Nat)) := by
   rw [hb2.cell (p := ⟨g, m - 1, none⟩) hglt, hown.cellAt (m - 1) (by omega)]; simp [nats, hml]
  have n1 : ys[m - 1] < N := by
   have := ((fE_ (by rw [HN.o]; omega)).1 (HI.o.perm.mem_iff.1 (List.getElem_mem hml))).1
   omega
  obtain ⟨y, hy⟩ := eY (ys[m - 1])
  rw [hy] at c1 n1
  obtain ⟨_, _, e1, _, hck1⟩ := bQ_ ((hA.below hb (lR _)).below hb2 (by have := hb.size; omega)) (n := y) (by rw [HN.o]; exact n1)
  cases e1
  have d1 := hck1.d
  have d0 : wr.cell? ⟨b, off + k * 23 + 20, none⟩ = some (.int .i64 (at_ l k).d) := (hb2.cell (p := ⟨b, off + k * 23 + 20, none⟩) (by have := hb.size; show b < wo.heap.size; omega)).trans c0
  have HY := kp hy
  clear hck1 hy
  by_cases hc1 : (at_ l k).d <= (at_ l y).d
  ·have hz2 : decide ((at_ l k).d <= (at_ l y).d) = true := eT_ hc1
   by_cases hc2 : (at_ l y).d = (at_ l k).d
   ·have hz3 : ((at_ l y).d == (at_ l k).d) = true := by simp [hc2]
    have H2 := kp hc2
    clear hc2
    go_wp2_with fail
    go_quiet (fail)
    go_wp2_with fail
    go_quiet (fail)
    go_wp2
    go_ret2
    have hno := ik_ HI.o hkl (by omega) hml (by rw [HY.o]; exact H2.o)
    exact ⟨fun ys' h => (by rw [hno] at h; cases h), fun _ => rfl, hb.trans ((RowKit.Below.mono ⟨hb2.os, hb2.tape, hb2.output, hb2.size, hb2.block⟩ hb.size))⟩
   have hz3 : ((at_ l y).d == (at_ l k).d) = false := by simp [hc2]
   have H2 := kp hc2
   clear hc2
   go_wp2_with fail
   go_quiet (fail)
   go_wp2_with fail
   go_quiet (fail)
   go_wp2
   go_roundw
   case rel =>
    refine ⟨m - 1, by omega, by go_num, gtK_pred (by rw [show m - 1 + 1 = m by omega]; exact HG.o) hml (by rw [HY.o]; have := H2.o; omega), ⟨hb2.os, hb2.tape, hb2.output, hb2.size, hb2.block⟩⟩
   simp [intOf]; omega
  have hz2 : decide ((at_ l k).d <= (at_ l y).d) = false := eF hc1
  go_wp2_with fail
  go_quiet (fail)
  have hW : RowKit.Below wo.heap.size wo (wr.drewN nq) := ⟨hb2.os, hb2.tape, hb2.output, hb2.size, hb2.block⟩
  have hownW := cb_ hown hW
  have hszW : wo.heap.size <= wr.heap.size := hb2.size
  have hszw : w.heap.size <= wo.heap.size := hb.size
  go_wp2_with (first
   | ((with_reducible refine ae_ (o := ⟨some 64, _, _, _, _, _⟩) rfl _ _ 87 rfl wr.heap.size 3 (.int .i64 0) 1 8 Tryz.underlying87 Tryz.info3 rfl (by decide) (.slice none 0 0) 0 [] ?_ (World.ownsRow_nil _ _ _ _) (some ⟨g, 0, none⟩) m cp (nats (ys.take m)) ?_ ?_ ?_ (cI_ _) ?_ ?_ ?_ ?_); (· rfl); (· rfl); (· have := HM.o; simp [nats]; omega); (· exact by simpa [nats, List.map_take] using hD_ hownW 0 m cp (by omega) (A := some ⟨g, 0, none⟩) (fun _ => rfl) (by simp)); (· unfold maxLen; omega); (· omega); (· simp); intro v1 w1 hown1 hg1 hb1)
   | ((with_reducible refine aK_ (o := ⟨some 68, _, _, _, _, _⟩) rfl _ _ 87 rfl wr.heap.size 3 (.int .i64 0) 8 Tryz.underlying87 Tryz.info3 rfl v1 _ _ ?_ hown1 _ w1.heap.size ?_ ?_ ?_ ?_ ?_ ?_ ?_); (· rfl); (· rfl); (· rfl); (· rfl); (· unfold maxLen; omega); (· omega); (· exact hb1.size); intro v2 w2 hown2 hb2')
   | (at_builtin; (with_reducible refine ae_ (o := ⟨some 73, _, _, _, _, _⟩) rfl _ _ 87 rfl wr.heap.size 3 (.int .i64 0) 1 8 Tryz.underlying87 Tryz.info3 rfl (by decide) v2 _ _ ?_ hown2 (if cp = m then some ⟨g, 0, none⟩ else some ⟨g, m, none⟩) (M - m) (cp - m) (nats (ys.drop m)) ?_ ?_ ?_ (cI_ _) ?_ ?_ ?_ ?_); go_loud ((· rfl); (· rfl); (· have := HM.o; simp [nats]; omega); (· exact src3 hownW hb1 hb2' (by simp; omega) hm HM.o); (· unfold maxLen; omega); (· omega); (· exact lT hb1.size hb2'.size); intro v3 w3 hown3 hg3 hb3)))
  go_roundw
  case rel => exact eF_ HI.o hkl (by omega) hyk HM.o hm HG.o (by have h := ltK_of HI.o.strict hml (by rw [HY.o]; omega); rwa [show m - 1 + 1 = m by omega] at h) hb hW hb1 hb2' hb3 hszw hown3 (by omega) (by simp [nats]) hlt
  simp [intOf]; omega
 obtain rfl : k = N := by omega
 go_wp2
 go_ret2
 have hyes := ij_ (HN.o ▸ HI.o : InsK l l.length ys)
 refine ⟨fun ys' h => ?_, fun h => (by rw [hyes] at h; cases h), hb⟩
 rw [hyes] at h
 cases h
 exact ⟨_, rfl, hown⟩
end Go.Proofs.YtnjhpgmbfblgaaaGreat.Ord
namespace Go.Proofs.YtnjhpgmbfblgaaaGreat.Ord
open Go.RowKit
set_option maxRecDepth 100000
set_option maxHeartbeats 4000000
def IsT (t : Int) : Prop := 0 <= t /\ t < 18446744073709551616
def dueB (d n : Int) : Bool := (d != 18446744073709551615) && decide (d <= n)
def addT (t k : Int) : Int := if 18446744073709551615 - t <= k then 18446744073709551615 else t + k
def cc_ (now dl soft grace : Int) : Int := if dueB dl now then 0 else if !dueB soft now then 1 else if dueB (addT soft grace) now then 0 else 2
theorem gp_ {t k : Int} (ht : IsT t) (hk : IsT k) : IsT (addT t k) := by
 unfold IsT addT at *
 split <;> omega
def bX_ (v : Value) (w : World) (e : Ending) (w' : World) : Prop := e = .returned v /\ w' = w
theorem lh_ (d n : Int) (w : World) : Calls Tryz.prog 317 #[.int .u64 d, .int .u64 n] w (bX_ (.bool (dueB d n)) w) := by
 have key : ∀ b, dueB d n = b -> Calls Tryz.prog 317 #[.int .u64 d, .int .u64 n] w (bX_ (.bool b) w) := by
  intro b hb
  cases h1 : (d != 18446744073709551615)
  ·obtain rfl : false = b := by rw [<- hb]; simp [dueB, h1]
   clear hb
   go_enter Tryz.func317, Tryz.ntmps317
   go_wp2_with fail
   go_ret
   exact ⟨rfl, rfl⟩
  obtain rfl : decide (d <= n) = b := by rw [<- hb]; simp [dueB, h1]
  clear hb
  go_enter Tryz.func317, Tryz.ntmps317
  go_wp2_with fail
  go_ret
  exact ⟨rfl, rfl⟩
 exact key _ rfl
theorem gI_ (d n : Int) (w : World) : Calls Tryz.prog 254 #[.int .u64 d, .int .u64 n] w (bX_ (.bool (dueB d n)) w) := by
 have key : ∀ b, dueB d n = b -> Calls Tryz.prog 254 #[.int .u64 d, .int .u64 n] w (bX_ (.bool b) w) := by
  intro b hb
  cases h1 : (d != 18446744073709551615)
  ·obtain rfl : false = b := by rw [<- hb]; simp [dueB, h1]
   clear hb
   go_enter Tryz.func254, Tryz.ntmps254
   go_wp2_with fail
   go_ret
   exact ⟨rfl, rfl⟩
  obtain rfl : decide (d <= n) = b := by rw [<- hb]; simp [dueB, h1]
  clear hb
  go_enter Tryz.func254, Tryz.ntmps254
  go_wp2_with fail
  go_ret
  exact ⟨rfl, rfl⟩
 exact key _ rfl
theorem lB_ (t k : Int) (ht : IsT t) (hk : IsT k) (w : World) : Calls Tryz.prog 133 #[.int .u64 t, .int .u64 k] w (bX_ (.int .u64 (addT t k)) w) := by
 obtain ⟨t1, t2⟩ := ht
 obtain ⟨k1, k2⟩ := hk
 by_cases h : 18446744073709551615 - t <= k
 ·have ha : addT t k = 18446744073709551615 := if_pos h
  have g : decide (18446744073709551615 - t <= k) = true := eT_ h
  rw [ha]
  clear ha
  go_enter Tryz.func133, Tryz.ntmps133
  go_wp2_with fail
  go_ret
  exact ⟨rfl, rfl⟩
 have ha : addT t k = t + k := if_neg h
 have g : decide (18446744073709551615 - t <= k) = false := eF h
 rw [ha]
 clear ha
 go_enter Tryz.func133, Tryz.ntmps133
 go_wp2_with fail
 go_ret
 exact ⟨rfl, rfl⟩
theorem en_ (t k : Int) (ht : IsT t) (hk : IsT k) (w : World) : Calls Tryz.prog 146 #[.int .u64 t, .int .u64 k] w (bX_ (.int .u64 (addT t k)) w) := by
 obtain ⟨t1, t2⟩ := ht
 obtain ⟨k1, k2⟩ := hk
 by_cases h : 18446744073709551615 - t <= k
 ·have ha : addT t k = 18446744073709551615 := if_pos h
  have g : decide (k < 18446744073709551615 - t) = false := eF (by omega)
  rw [ha]
  clear ha
  go_enter Tryz.func146, Tryz.ntmps146
  go_wp2_with fail
  go_ret
  exact ⟨rfl, rfl⟩
 have ha : addT t k = t + k := if_neg h
 have g : decide (k < 18446744073709551615 - t) = true := eT_ (by omega)
 rw [ha]
 clear ha
 go_enter Tryz.func146, Tryz.ntmps146
 go_wp2_with fail
 go_ret
 exact ⟨rfl, rfl⟩
theorem mark251 (now dl soft grace : Int) (h2 : IsT soft) (h3 : IsT grace) (w : World) : Calls Tryz.prog 251 #[.int .u64 now, .int .u64 dl, .int .u64 soft, .int .u64 grace] w (bX_ (.int .i64 (cc_ now dl soft grace)) w) := by
 obtain ⟨H1, H2, H3, H4⟩ := kq4 (lh_ dl now w) (lh_ soft now w) (lB_ soft grace h2 h3 w) (lh_ (addT soft grace) now w)
 obtain ⟨m, hm⟩ := eY (cc_ now dl soft grace)
 have HM := kp hm
 rw [hm]
 unfold cc_ at HM
 generalize addT soft grace = sg at *
 generalize dueB dl now = b1 at *
 generalize dueB soft now = b2 at *
 generalize dueB sg now = b4 at *
 clear hm h2 h3
 go_enter Tryz.func251, Tryz.ntmps251
 go_wp2_with fail
 refine H1.o.mono ?_
 rintro e w1 ⟨rfl, rfl⟩
 obtain ⟨w, rfl⟩ := eX w1
 cases b1
 case true =>
  obtain rfl : 0 = m := by rw [<- HM.o]; rfl
  go_wp2_with fail
  go_ret
  exact ⟨rfl, rfl⟩
 go_wp2_with fail
 refine H2.o.mono ?_
 rintro e w1 ⟨rfl, rfl⟩
 obtain ⟨w, rfl⟩ := eX w1
 cases b2
 ·obtain rfl : 1 = m := by rw [<- HM.o]; rfl
  go_wp2_with fail
  go_ret
  exact ⟨rfl, rfl⟩
 go_wp2_with fail
 refine H3.o.mono ?_
 rintro e w1 ⟨rfl, rfl⟩
 obtain ⟨w, rfl⟩ := eX w1
 go_wp2_with fail
 refine H4.o.mono ?_
 rintro e w1 ⟨rfl, rfl⟩
 obtain ⟨w, rfl⟩ := eX w1
 cases b4
 ·obtain rfl : 2 = m := by rw [<- HM.o]; rfl
  go_wp2_with fail
  go_ret
  exact ⟨rfl, rfl⟩
 obtain rfl : 0 = m := by rw [<- HM.o]; rfl
 go_wp2_with fail
 go_ret
 exact ⟨rfl, rfl⟩
theorem k5_ : (Tryz.f251.name == "runtime.NumGoroutine") = false := by decide
theorem k6_ : Tryz.f251.body.isSome = true := rfl
theorem k7_ : (Tryz.f198.name == "runtime.NumGoroutine") = false := by decide
theorem k8_ : Tryz.f198.body.isSome = true := rfl
def RetB (v : Value) (w : World) (e : Ending) (w' : World) : Prop := e = .returned v /\ Bw w w'
theorem kM_ (J X : Nat) (now dl soft grace : Int) (h2 : IsT soft) (h3 : IsT grace) (w : World) (hj : w.cell? ⟨J, 0, none⟩ = some (.int .u64 grace)) (hd : w.cell? ⟨X, 3, none⟩ = some (.int .u64 dl)) (hs : w.cell? ⟨X, 4, none⟩ = some (.int .u64 soft)) :
  Calls Tryz.prog 190 #[.pointer (some ⟨J, 0, none⟩), .pointer (some ⟨X, 0, none⟩), .int .u64 now] w (RetB (.int .i64 (cc_ now dl soft grace)) w) := by
 obtain ⟨H1, hB⟩ := kq2 (mark251 now dl soft grace h2 h3 w.drew) (show Bw w w.drew from ⟨rfl, rfl, rfl, lR _, fun _ _ => rfl⟩)
 obtain ⟨m, hm⟩ := eY (cc_ now dl soft grace)
 rw [hm] at H1
 rw [hm]
 clear hm h2 h3
 have d0 : w.drew.cell? ⟨J, 0, none⟩ = some (.int .u64 grace) := hj
 have d3 : w.drew.cell? ⟨X, 3, none⟩ = some (.int .u64 dl) := hd
 have d4 : w.drew.cell? ⟨X, 4, none⟩ = some (.int .u64 soft) := hs
 clear hj hd hs
 go_enter Tryz.func190, Tryz.ntmps190
 go_wp2_with fail
 go_region_law ((with_reducible refine ao_ (o := ⟨some 20, _, _, _, _, _⟩) rfl 251 _ _ rfl #[.int .u64 now, .int .u64 dl, .int .u64 soft, .int .u64 grace] ?_ Tryz.f251 Tryz.func251 k5_ k6_ (fun u w6 => u = .int .i64 m /\ w6 = w.drew) ?_ ?_); (· simp only [y1, y2, y3]; rfl); (· exact H1.o.mono fun e w' ⟨h1, h2⟩ => ⟨_, h1, rfl, h2⟩); rintro u w6 ⟨rfl, rfl⟩)
 all_goals
  go_wp2_with fail
  go_ret
  exact ⟨rfl, hB.o⟩
theorem jn_ (now dl soft grace : Int) (h2 : IsT soft) (h3 : IsT grace) (w : World) : Calls Tryz.prog 198 #[.int .u64 now, .int .u64 dl, .int .u64 soft, .int .u64 grace] w (bX_ (.int .i64 (cc_ now dl soft grace)) w) := by
 obtain ⟨H1, H3, H4⟩ := kq3 (gI_ dl now w) (en_ soft grace h2 h3 w) (gI_ (addT soft grace) now w)
 obtain ⟨m, hm⟩ := eY (cc_ now dl soft grace)
 have HM := kp hm
 rw [hm]
 unfold cc_ at HM
 obtain ⟨b2, hb2⟩ := eY (dueB soft now)
 rw [hb2] at HM
 generalize addT soft grace = sg at *
 generalize dueB dl now = b1 at *
 generalize dueB sg now = b4 at *
 clear hm h2 h3
 have key : (soft != 18446744073709551615) = true /\ decide (soft <= now) = b2 ∨ (soft != 18446744073709551615) = false /\ false = b2 := by
  unfold dueB at hb2
  cases h : (soft != 18446744073709551615) <;> rw [h] at hb2 <;> simp at hb2 ⊢ <;> exact hb2
 clear hb2
 rcases key with ⟨g1, g2⟩ | ⟨g1, rfl⟩
 ·go_enter Tryz.func198, Tryz.ntmps198
  go_wp2_with fail
  refine H1.o.mono ?_
  rintro e w1 ⟨rfl, rfl⟩
  obtain ⟨w, rfl⟩ := eX w1
  cases b1
  case true =>
   obtain rfl : 0 = m := by rw [<- HM.o]; rfl
   go_wp2_with fail
   go_ret
   exact ⟨rfl, rfl⟩
  cases b2
  ·obtain rfl : 1 = m := by rw [<- HM.o]; rfl
   go_wp2_with fail
   go_ret
   exact ⟨rfl, rfl⟩
  go_wp2_with fail
  refine H3.o.mono ?_
  rintro e w1 ⟨rfl, rfl⟩
  obtain ⟨w, rfl⟩ := eX w1
  go_wp2_with fail
  refine H4.o.mono ?_
  rintro e w1 ⟨rfl, rfl⟩
  obtain ⟨w, rfl⟩ := eX w1
  cases b4
  ·obtain rfl : 2 = m := by rw [<- HM.o]; rfl
   go_wp2_with fail
   go_ret
   exact ⟨rfl, rfl⟩
  obtain rfl : 0 = m := by rw [<- HM.o]; rfl
  go_wp2_with fail
  go_ret
  exact ⟨rfl, rfl⟩
 go_enter Tryz.func198, Tryz.ntmps198
 go_wp2_with fail
 refine H1.o.mono ?_
 rintro e w1 ⟨rfl, rfl⟩
 obtain ⟨w, rfl⟩ := eX w1
 cases b1
 ·obtain rfl : 1 = m := by rw [<- HM.o]; rfl
  go_wp2_with fail
  go_ret
  exact ⟨rfl, rfl⟩
 obtain rfl : 0 = m := by rw [<- HM.o]; rfl
 go_wp2_with fail
 go_ret
 exact ⟨rfl, rfl⟩
def cW_ (key : ByteArray) (vv vt : Value) (dl gone soft : Int) : List Value := [.string key, vv, vt, .int .u64 dl, .int .i64 gone, .int .u64 soft]
theorem fx_ (J : Nat) (now dl soft grace : Int) (key : ByteArray) (vv vt : Value) (gone : Int) (hv : vv.oneCell' = true) (ht : vt.oneCell' = true) (h2 : IsT soft) (h3 : IsT grace) (w : World) (hJ : J < w.heap.size) (hj : w.cell? ⟨J, 0, none⟩ = some (.int .u64 grace)) :
  Calls Tryz.prog 142 #[.pointer (some ⟨J, 0, none⟩), .agg (cW_ key vv vt dl gone soft).toArray, .int .u64 now] w (RetB (.int .i64 (cc_ now dl soft grace)) w) := by
 obtain ⟨W1, hW1⟩ := eX (w.alloc (.cells (cW_ key vv vt dl gone soft).toArray 233))
 have hB : Bw w W1.drew := by
  have := below1 w (.cells (cW_ key vv vt dl gone soft).toArray 233)
  rw [<- hW1] at this
  exact this.trans ⟨rfl, rfl, rfl, lR _, fun _ _ => rfl⟩
 have hr := ar_ w (cW_ key vv vt dl gone soft) 233
 rw [<- hW1] at hr
 have d0 : W1.drew.cell? ⟨J, 0, none⟩ = some (.int .u64 grace) := (hB.cell (p := ⟨J, 0, none⟩) hJ).trans hj
 have d3 : W1.drew.cell? ⟨w.heap.size, 3, none⟩ = some (.int .u64 dl) := World.rowIs.cell hr (show 3 < 6 by decide)
 have d5 : W1.drew.cell? ⟨w.heap.size, 5, none⟩ = some (.int .u64 soft) := World.rowIs.cell hr (show 5 < 6 by decide)
 obtain ⟨H1, HB⟩ := kq2 (jn_ now dl soft grace h2 h3 W1.drew) hB
 obtain ⟨m, hm⟩ := eY (cc_ now dl soft grace)
 rw [hm] at H1
 rw [hm]
 clear hm h2 h3 hj hr hB
 simp only [cW_] at hW1 ⊢
 go_enter Tryz.func142, Tryz.ntmps142
 go_upto_region 1 with (fail)
 rw [<- hW1]
 clear hW1
 go_region_law ((with_reducible refine ao_ (o := ⟨some 16, _, _, _, _, _⟩) rfl 198 _ _ rfl #[.int .u64 now, .int .u64 dl, .int .u64 soft, .int .u64 grace] ?_ Tryz.f198 Tryz.func198 k7_ k8_ (fun u w6 => u = .int .i64 m /\ w6 = W1.drew) ?_ ?_); (· simp only [y1, y2, y3]; rfl); (· exact H1.o.mono fun e w' ⟨h1, h2⟩ => ⟨_, h1, rfl, h2⟩); rintro u w6 ⟨rfl, rfl⟩)
 all_goals
  go_wp2_with fail
  go_ret
  exact ⟨rfl, HB.o⟩
theorem aQ_ (x : ByteArray) : (x.toList == x.toList) = true := by simp
def hasS (xs : List ByteArray) (s : ByteArray) : Bool := xs.any fun x => decide (x = s)
theorem hasS_iff {xs : List ByteArray} {s : ByteArray} : hasS xs s = true ↔ s ∈ xs := by simp [hasS]
theorem ie_ {xs : List ByteArray} {s : ByteArray} (h : s ∉ xs) : hasS xs s = false := by
 cases hb : hasS xs s
 ·rfl
 exact absurd (hasS_iff.1 hb) h
theorem jJ_ (A : Option Addr) (n c B : Nat) (xs : List ByteArray) (s : ByteArray) (w : World) (hn : xs.length = n) (hl : n <= maxLen) (hA : ElV Value.string w B A xs) :
  Calls Tryz.prog 147 #[.slice A n c, .string s] w (bX_ (.bool (hasS xs s)) w) := by
 have hn' : n <= 9223372036854775807 := by unfold maxLen at hl; omega
 obtain ⟨HN, HA⟩ := kq2 hn hA
 clear hA hn hl
 obtain ⟨res, hres⟩ := eY (hasS xs s)
 rw [hres]
 have HR := kp hres
 clear hres
 go_enter Tryz.func147, Tryz.ntmps147
 go_wp2_with fail
 go_loopw [5] (fun j wr => ∃ k : Nat, k <= n /\ j = .int .i64 k /\ Hid (s ∉ xs.take k) /\ wr = w) (fun j _ => n - (intOf j).toNat)
 case atStart => exact ⟨0, Nat.zero_le _, by go_num, kp (by simp), rfl⟩
 obtain ⟨k, hk, rfl, HE, rfl⟩ := hrel
 by_cases hlt : k < n
 ·obtain ⟨x, hx⟩ : ∃ x, xs[k]? = some x := ⟨xs[k]'(by rw [HN.o]; exact hlt), gE _⟩
  obtain ⟨b, o, rfl, hbX, c1⟩ := HA.o k x hx
  have HX := kp hx
  clear hx
  have hg : decide ((k : Int) < (n : Int)) = true := by simp; omega
  have hi1 : (k : Int) < (n : Int) := by omega
  by_cases hxy : x = s
  ·subst hxy
   have h2 := aQ_ x
   have HT := kp (show res = true from by rw [<- HR.o]; exact hasS_iff.2 (mG HX.o))
   go_wp2_with fail
   go_ret
   exact ⟨ah_ HT.o.symm, rfl⟩
  have h2 : (x.toList == s.toList) = false := bl_ hxy
  have Aa := kp (show s ∉ xs.take (k + 1) from by
   rw [tA, HX.o]
   simp only [Option.toList, List.mem_append, List.mem_cons, List.not_mem_nil, or_false, not_or]
   exact ⟨HE.o, fun h => hxy h.symm⟩)
  go_wp2_with fail
  go_roundw
  case rel => exact ⟨k + 1, by omega, by go_num, Aa, trivial⟩
  simp [intOf]; omega
 obtain rfl : k = n := by omega
 have hg : decide ((k : Int) < (k : Int)) = false := by simp
 have HF := kp (show res = false from by
  rw [<- HR.o]
  have h := HE.o
  rw [<- HN.o, List.take_length] at h
  exact ie_ h)
 go_wp2_with fail
 go_ret
 exact ⟨ah_ HF.o.symm, rfl⟩
structure WrR where
 key : ByteArray
 val : List Int
 tags : List ByteArray
 dl : Int
 soft : Int
 gone : Int
def wrL (x : WrR) (vv vt : Value) : List Value := [.string x.key, vv, vt, .int .u64 x.dl, .int .u64 x.soft, .int .i64 x.gone]
def ptV (p : Nat) : Value := .pointer (some ⟨p, 0, none⟩)
def c4_ (grace : Int) (ws : List WrR) (key : ByteArray) (x : ItemR) (now : Int) : Int :=
 if x.mark = 0 then 0
 else if x.ver = 0 ∨ (ws.length : Int) < x.ver then 1
 else match ws[(x.ver - 1).toNat]? with
  | none => 1
  | some y => if y.key ≠ key ∨ y.val ≠ x.val ∨ y.dl ≠ x.dead then 1 else if y.gone ≠ 0 then y.gone else if cc_ now y.dl y.soft grace ≠ x.mark then 4 else 0
structure RdJ (w : World) (B J : Nat) (grace : Int) (ws : List WrR) (ps : List Nat) : Prop where
 ltJ : J < B
 isT : IsT grace
 few : ws.length <= 5000
 len : ps.length = ws.length
 grc : w.cell? ⟨J, 0, none⟩ = some (.int .u64 grace)
 row : ∃ A c, w.cell? ⟨J, 1, none⟩ = some (.slice A ws.length c) /\ ElV ptV w B A ps
 wrs : ∀ (i : Nat) (x : WrR), ws[i]? = some x -> IsT x.soft /\ ∃ p vv vt, ps[i]? = some p /\ p < B /\ CellsAt w ⟨p, 0, none⟩ (wrL x vv vt) /\ DatG w B vv x.val /\ ∃ ts : List ByteArray, SlV Value.string w B vt ts
theorem RdJ.below {w w' : World} {B B' J : Nat} {grace : Int} {ws : List WrR} {ps : List Nat} (h : RdJ w B J grace ws ps) (hb : Below B' w w') (hB : B <= B') : RdJ w' B J grace ws ps :=
 ⟨h.ltJ, h.isT, h.few, h.len, (hb.cell (p := ⟨J, 0, none⟩) (lL h.ltJ hB)).trans h.grc, by
  obtain ⟨A, c, h1, h2⟩ := h.row
  exact ⟨A, c, (hb.cell (p := ⟨J, 1, none⟩) (lL h.ltJ hB)).trans h1, h2.below hb hB⟩, fun i x hi => by
  obtain ⟨h0, p, vv, vt, h1, h2, h3, h4, ts, h5⟩ := h.wrs i x hi
  exact ⟨h0, p, vv, vt, h1, h2, h3.below hb (lL h2 hB), h4.below hb hB, ts, h5.below hb hB⟩⟩
theorem ag_ (w : World) (q : Nat) : Bw w (w.drewN q) := ⟨rfl, rfl, rfl, lR _, fun _ _ => rfl⟩
end Go.Proofs.YtnjhpgmbfblgaaaGreat.Ord
