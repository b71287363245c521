/- Walk of the reference's Commits: insertion by Done. -/
import Derived.Test.YtnmhmabifeapkaaA7
import Derived.Test.YtnmhmabifeapkaaB4
namespace Go.Proofs.Ytnmhmabifeapkaa.Ord
open Go.RowKit Go.Sort Go.Lib
set_option linter.unusedVariables false

def doneNK (l : List CallC) (k : Nat) : List Nat := (List.range k).filter fun i => match l[i]? with | some c => decide (0 ≤ c.d) | none => false
theorem doneNK_all (l : List CallC) : doneNK l l.length = doneN l := rfl
theorem doneNK_succ {l : List CallC} {k : Nat} (hk : k < l.length) : doneNK l (k + 1) = doneNK l k ++ (if 0 ≤ (at_ l k).d then [k] else []) := by
  unfold doneNK
  rw [List.range_succ, List.filter_append]
  congr 1
  have : (at_ l k).d = l[k].d := by simp [at_, List.getD, hk]
  simp only [List.filter_cons, List.getElem?_eq_getElem hk, decide_eq_true_eq, this, List.filter_nil]
theorem mem_doneNK {l : List CallC} {k n : Nat} (hk : k ≤ l.length) : n ∈ doneNK l k ↔ n < k ∧ 0 ≤ (at_ l n).d := by
  unfold doneNK
  simp only [List.mem_filter, List.mem_range]
  constructor
  · rintro ⟨h1, h2⟩
    have h3 : n < l.length := by omega
    simp only [List.getElem?_eq_getElem h3, decide_eq_true_eq] at h2
    exact ⟨h1, by simpa [at_, List.getD, h3] using h2⟩
  · rintro ⟨h1, h2⟩
    have h3 : n < l.length := by omega
    simp only [List.getElem?_eq_getElem h3, decide_eq_true_eq]
    exact ⟨h1, by simpa [at_, List.getD, h3] using h2⟩

/-- the calls so far, in order -/
structure InsK (l : List CallC) (k : Nat) (ys : List Nat) : Prop where
  perm : ys.Perm (doneNK l k)
  strict : ys.Pairwise fun (x y : Nat) => (at_ l x).d < (at_ l y).d
theorem InsK.zero (l : List CallC) : InsK l 0 [] := ⟨by simp [doneNK], List.Pairwise.nil⟩
theorem InsK.no {l : List CallC} {k : Nat} {ys : List Nat} (h : InsK l k ys) (hk : k < l.length) (hd : (at_ l k).d < 0) : InsK l (k + 1) ys :=
  ⟨by rw [doneNK_succ hk, if_neg (by omega), List.append_nil]; exact h.perm, h.strict⟩
/-- all from a place on are greater -/
def gtK (l : List CallC) (k : Nat) (ys : List Nat) (m : Nat) : Prop := ∀ y ∈ ys.drop m, (at_ l k).d < (at_ l y).d
def ltK (l : List CallC) (k : Nat) (ys : List Nat) (m : Nat) : Prop := ∀ y ∈ ys.take m, (at_ l y).d < (at_ l k).d
theorem InsK.yes {l : List CallC} {k m : Nat} {ys : List Nat} (h : InsK l k ys) (hk : k < l.length) (hd : 0 ≤ (at_ l k).d) (hg : gtK l k ys m) (hl : ltK l k ys m) : InsK l (k + 1) (ys.take m ++ [k] ++ ys.drop m) := by
  refine ⟨?_, ?_⟩
  · rw [doneNK_succ hk, if_pos hd]
    refine List.Perm.trans ?_ (h.perm.append_right [k])
    have e : ys ++ [k] = ys.take m ++ (ys.drop m ++ [k]) := by rw [← List.append_assoc, List.take_append_drop]
    rw [e, List.append_assoc]
    exact List.Perm.append_left _ (List.perm_append_comm)
  · have h1 := h.strict
    rw [← List.take_append_drop m ys, List.pairwise_append] at h1
    rw [List.append_assoc, List.pairwise_append]
    refine ⟨h1.1, ?_, ?_⟩
    · rw [List.singleton_append, List.pairwise_cons]
      exact ⟨hg, h1.2.1⟩
    · intro a ha b hb
      rcases List.mem_append.1 hb with hb | hb
      · simp only [List.mem_singleton] at hb; subst hb; exact hl a ha
      · exact h1.2.2 a ha b hb
theorem gtK_len (l : List CallC) (k : Nat) (ys : List Nat) : gtK l k ys ys.length := by simp [gtK]
theorem gtK_pred {l : List CallC} {k m : Nat} {ys : List Nat} (h : gtK l k ys (m + 1)) (hm : m < ys.length) (hd : (at_ l k).d < (at_ l (ys[m] : Nat)).d) : gtK l k ys m := by
  intro y hy
  rw [List.drop_eq_getElem_cons hm] at hy
  rcases List.mem_cons.1 hy with e | hy
  · subst e; exact hd
  · exact h y hy
theorem ltK_of {l : List CallC} {k m : Nat} {ys : List Nat} (hs : ys.Pairwise fun (x y : Nat) => (at_ l x).d < (at_ l y).d) (hm : m < ys.length) (hd : (at_ l (ys[m] : Nat)).d < (at_ l k).d) : ltK l k ys (m + 1) := by
  intro y hy
  rw [List.take_add_one, List.getElem?_eq_getElem hm] at hy
  rcases List.mem_append.1 hy with hy | hy
  · have h1 := hs
    rw [← List.take_append_drop m ys, List.pairwise_append] at h1
    have := h1.2.2 y hy ys[m] (by rw [List.drop_eq_getElem_cons hm]; exact List.mem_cons_self)
    omega
  · simp at hy; subst hy; exact hd
theorem ltK_zero (l : List CallC) (k : Nat) (ys : List Nat) : ltK l k ys 0 := by simp [ltK]
theorem pairwise_ne {l : List CallC} {zs : List Nat} (h : zs.Pairwise fun (x y : Nat) => (at_ l x).d < (at_ l y).d) {a b : Nat} (ha : a ∈ zs) (hb : b ∈ zs) (hne : a ≠ b) : (at_ l a).d ≠ (at_ l b).d := by
  obtain ⟨i, hi, rfl⟩ := List.getElem_of_mem ha
  obtain ⟨j, hj, rfl⟩ := List.getElem_of_mem hb
  rw [List.pairwise_iff_getElem] at h
  rcases Nat.lt_trichotomy i j with hij | hij | hij
  · have := h i j hi hj hij; omega
  · subst hij; exact absurd rfl hne
  · have := h j i hj hi hij; omega
theorem commits_eqd {l : List CallC} {k m : Nat} {ys : List Nat} (h : InsK l k ys) (hk : k < l.length) (hd : 0 ≤ (at_ l k).d) (hm : m < ys.length) (he : (at_ l (ys[m] : Nat)).d = (at_ l k).d) : commitsOf l = none := by
  have h1 := (mem_doneNK (by omega)).1 (h.perm.mem_iff.1 (List.getElem_mem hm))
  cases hc : commitsOf l with
  | none => rfl
  | some zs =>
    have hz := commitsOf_some hc
    exact absurd he (pairwise_ne hz.2 (hz.1.mem_iff.2 (mem_doneN.2 ⟨by omega, h1.2⟩)) (hz.1.mem_iff.2 (mem_doneN.2 ⟨hk, hd⟩)) (by omega))
theorem commits_ins {l : List CallC} {ys : List Nat} (h : InsK l l.length ys) : commitsOf l = some ys := commitsOf_eq ⟨h.perm, h.strict⟩

def nats (ys : List Nat) : List Value := ys.map fun (x : Nat) => Value.int .i64 (x : Int)
theorem nats_one (ys : List Nat) : ∀ u ∈ nats ys, u.oneCell' = true := by
  intro u hu
  simp only [nats, List.mem_map] at hu
  obtain ⟨_, _, rfl⟩ := hu
  rfl

theorem src3 {W W1 W2 : World} {base g M cp m : Nat} {ys : List Nat} (h : W.ownsRow base 3 1 (.slice (some ⟨g, 0, none⟩) M cp) M (nats ys)) (h1 : RowKit.Below W.heap.size W W1) (h2 : RowKit.Below W.heap.size W1 W2) (hg : g < W.heap.size) (hm : m ≤ M) (hM : ys.length = M) :
    Src W2 (if cp = m then some ⟨g, 0, none⟩ else some ⟨g, m, none⟩) (M - m) (cp - m) (nats (ys.drop m)) := by
  have h3 := owns_below h (h1.trans h2)
  have h4 := src_own h3 m (M - m) (cp - m) (by omega) (A := if cp = m then some ⟨g, 0, none⟩ else some ⟨g, m, none⟩) (fun h0 => by
    rcases owns_shape h (by decide) with ⟨h5, _⟩ | ⟨_, _, h5, _, _, h6, _⟩
    · cases h5
    · cases h5; rw [if_neg (by omega)]) (by split <;> simp)
  have e : (nats ys).drop m = nats (ys.drop m) := by simp [nats, List.map_drop]
  rw [e, List.take_of_length_le (by simp [nats]; omega)] at h4
  exact h4

theorem ins_round {l : List CallC} {k m M N : Nat} {ys : List Nat} {w wo W W1 W2 W3 : World} {v3 : Value} {n3 : Nat} {xs3 : List Value} (h : InsK l k ys) (hk : k < l.length) (hd : 0 ≤ (at_ l k).d) (hyk : M ≤ k) (hM : ys.length = M) (hm : m ≤ M) (hg : gtK l k ys m) (hl : ltK l k ys m)
    (hb : RowKit.Below w.heap.size w wo) (hW : RowKit.Below wo.heap.size wo W) (hb1 : RowKit.Below W.heap.size W W1) (hb2 : RowKit.Below W.heap.size W1 W2) (hb3 : RowKit.Below W.heap.size W2 W3) (hsz : w.heap.size ≤ wo.heap.size)
    (hown : W3.ownsRow W.heap.size 3 1 v3 n3 xs3) (hn : n3 = M + 1) (hx : xs3 = nats (ys.take m ++ [k] ++ ys.drop m)) (hN : k < N) :
    ∃ (k' : Nat) (ys' : List Nat), k' ≤ N ∧ ys'.length ≤ k' ∧ Value.int .i64 ((k : Int) + 1) = .int .i64 k' ∧ InsK l k' ys' ∧ W3.ownsRow w.heap.size 3 1 v3 ys'.length (nats ys') ∧ RowKit.Below w.heap.size w W3 := by
  subst hn hx
  have hlen : (ys.take m ++ [k] ++ ys.drop m).length = M + 1 := by simp; omega
  refine ⟨k + 1, ys.take m ++ [k] ++ ys.drop m, by omega, by omega, by go_num, h.yes hk hd hg hl, ?_, ?_⟩
  · rw [hlen]; exact owns_mono hown (Nat.le_trans hsz hW.size)
  · have hs := hW.size
    exact hb.trans ((hW.mono hsz).trans ((hb1.trans (hb2.trans hb3)).mono (by omega)))

set_option maxRecDepth 100000 in
set_option maxHeartbeats 2000000 in
theorem refCommits_any (A : Option Addr) (l : List CallC) (cap : Nat) (w : World) (hl : l.length ≤ 4096) (hA : CallsAt w w.heap.size A l) :
    Calls Try.prog 26 #[.slice A l.length cap] w fun e w' => CommitsPost l w e w' := by
  generalize hN : l.length = N at *
  have HN := Lib.hid hN
  clear hN
  have hg : decide ((4096 : Int) < (N : Int)) = false := by simp; omega
  go_enter Try.func26, Try.ntmps26
  go_wp2
  go_loopw [4, 5] (fun v j wr => ∃ (k : Nat) (ys : List Nat), k ≤ N ∧ ys.length ≤ k ∧ j = .int .i64 k ∧ InsK l k ys ∧ wr.ownsRow w.heap.size 3 1 v ys.length (nats ys) ∧ RowKit.Below w.heap.size w wr) (fun _ j _ => N - (intOf j).toNat)
  case atStart => exact ⟨0, [], Nat.zero_le _, Nat.zero_le _, rfl, InsK.zero l, World.ownsRow_nil _ _ _ _, RowKit.Below.refl _ _⟩
  case round =>
    obtain ⟨k, ys, hk, hyk, rfl, hI, hown, hb⟩ := hrel
    have HI := Lib.hid hI
    clear hI
    by_cases hlt : k < N
    · have hkl : k < l.length := by rw [HN.out]; exact hlt
      obtain ⟨b, off, rfl, hbB, hck⟩ := callsAt_at (hA.below hb (Nat.le_refl _)) hkl
      have c0 := hck.d
      clear hck
      by_cases hd : (at_ l k).d < 0
      · go_wp2
        go_roundw
        case rel => exact ⟨k + 1, ys, by omega, by omega, by go_num, HI.out.no hkl hd, hown, hb⟩
        case measure => simp [intOf]; omega
      · obtain ⟨p, cp, rfl⟩ := owns_len hown
        generalize hM : ys.length = M at *
        have HM := Lib.hid hM
        clear hM
        obtain ⟨wo, rfl⟩ : ∃ wo : World, wo = wr := ⟨_, rfl⟩
        go_wp2
        go_loopw [6] (fun j wr => ∃ m : Nat, m ≤ M ∧ j = .int .i64 m ∧ gtK l k ys m ∧ RowKit.Below wo.heap.size wo wr) (fun j _ => (intOf j).toNat)
        case atStart => exact ⟨M, Nat.le_refl _, rfl, by rw [← HM.out]; exact gtK_len l k ys, RowKit.Below.refl _ _⟩
        case round =>
          obtain ⟨m, hm, rfl, hgt, hb2⟩ := hrel
          have HG := Lib.hid hgt
          clear hgt
          rcases owns_shape hown (by decide) with ⟨hp, rfl, hys⟩ | ⟨g, cg, hp, hgb, hglt, hcg, hcm⟩
          · cases hp
            obtain rfl : m = 0 := by omega
            have HYS := Lib.hid hys
            clear hys
            go_wp2_with fail
            go_quiet (fail)
            have hW : RowKit.Below wo.heap.size wo (wr.drewN nq) := ⟨hb2.os, hb2.tape, hb2.output, hb2.size, hb2.block⟩
            have hownW := owns_below hown hW
            have hszW : wo.heap.size ≤ wr.heap.size := hb2.size
            have hszw : w.heap.size ≤ wo.heap.size := hb.size
            go_wp2_with (first
              | ((with_reducible refine wpList_append_src (o := ⟨some 64, _, _, _, _, _⟩) rfl _ _ 56 rfl wr.heap.size 3 (.int .i64 0) 1 8 Try.underlying56 Try.info3 rfl (by decide) (.slice none 0 0) 0 [] ?_ (World.ownsRow_nil _ _ _ _) none 0 0 (nats (ys.take 0)) ?_ ?_ ?_ (nats_one _) ?_ ?_ ?_ ?_); (· rfl); (· rfl); (· first | (simp [nats]; done) | (simp [nats]; omega) | (simp [nats]; exact HM.out) | (simp [nats]; exact List.eq_nil_of_length_eq_zero HM.out)); (· exact .inl ⟨rfl, by simp [nats], fun _ => rfl⟩); (· unfold maxLen; omega); (· omega); (· simp); intro v1 w1 hown1 hg1 hb1)
              | ((with_reducible refine wpList_append_one (o := ⟨some 68, _, _, _, _, _⟩) rfl _ _ 56 rfl wr.heap.size 3 (.int .i64 0) 8 Try.underlying56 Try.info3 rfl v1 _ _ ?_ hown1 _ w1.heap.size ?_ ?_ ?_ ?_ ?_ ?_ ?_); (· rfl); (· rfl); (· rfl); (· rfl); (· unfold maxLen; omega); (· omega); (· exact hb1.size); intro v2 w2 hown2 hb2')
              | (at_builtin; (with_reducible refine wpList_append_src (o := ⟨some 73, _, _, _, _, _⟩) rfl _ _ 56 rfl wr.heap.size 3 (.int .i64 0) 1 8 Try.underlying56 Try.info3 rfl (by decide) v2 _ _ ?_ hown2 none 0 0 (nats (ys.drop 0)) ?_ ?_ ?_ (nats_one _) ?_ ?_ ?_ ?_); go_loud ((· rfl); (· rfl); (· first | (simp [nats]; done) | (simp [nats]; omega) | (simp [nats]; exact HM.out) | (simp [nats]; exact List.eq_nil_of_length_eq_zero HM.out)); (· exact .inl ⟨rfl, HYS.out, fun _ => rfl⟩); (· unfold maxLen; omega); (· omega); (· exact Nat.le_trans hb1.size hb2'.size); intro v3 w3 hown3 hg3 hb3)))
            go_roundw
            case rel => exact ins_round HI.out hkl (by omega) hyk HM.out (Nat.zero_le _) HG.out (ltK_zero _ _ _) hb hW hb1 hb2' hb3 hszw hown3 (by omega) (by simp [nats]) hlt
            case measure => simp [intOf]; omega
          · cases hp
            by_cases hm0 : m = 0
            · subst hm0
              go_wp2_with fail
              go_quiet (fail)
              have hW : RowKit.Below wo.heap.size wo (wr.drewN nq) := ⟨hb2.os, hb2.tape, hb2.output, hb2.size, hb2.block⟩
              have hownW := owns_below hown hW
              have hszW : wo.heap.size ≤ wr.heap.size := hb2.size
              have hszw : w.heap.size ≤ wo.heap.size := hb.size
              go_wp2_with (first
                | ((with_reducible refine wpList_append_src (o := ⟨some 64, _, _, _, _, _⟩) rfl _ _ 56 rfl wr.heap.size 3 (.int .i64 0) 1 8 Try.underlying56 Try.info3 rfl (by decide) (.slice none 0 0) 0 [] ?_ (World.ownsRow_nil _ _ _ _) (some ⟨g, 0, none⟩) 0 cp (nats (ys.take 0)) ?_ ?_ ?_ (nats_one _) ?_ ?_ ?_ ?_); (· rfl); (· rfl); (· first | (simp [nats]; done) | (simp [nats]; omega) | (simp [nats]; exact HM.out) | (simp [nats]; exact List.eq_nil_of_length_eq_zero HM.out)); (· exact by simpa [nats, List.map_take] using src_own hownW 0 0 cp (by omega) (A := some ⟨g, 0, none⟩) (fun _ => rfl) (by simp)); (· unfold maxLen; omega); (· omega); (· simp); intro v1 w1 hown1 hg1 hb1)
                | ((with_reducible refine wpList_append_one (o := ⟨some 68, _, _, _, _, _⟩) rfl _ _ 56 rfl wr.heap.size 3 (.int .i64 0) 8 Try.underlying56 Try.info3 rfl v1 _ _ ?_ hown1 _ w1.heap.size ?_ ?_ ?_ ?_ ?_ ?_ ?_); (· rfl); (· rfl); (· rfl); (· rfl); (· unfold maxLen; omega); (· omega); (· exact hb1.size); intro v2 w2 hown2 hb2')
                | (at_builtin; (with_reducible refine wpList_append_src (o := ⟨some 73, _, _, _, _, _⟩) rfl _ _ 56 rfl wr.heap.size 3 (.int .i64 0) 1 8 Try.underlying56 Try.info3 rfl (by decide) v2 _ _ ?_ hown2 (some ⟨g, 0, none⟩) M cp (nats (ys.drop 0)) ?_ ?_ ?_ (nats_one _) ?_ ?_ ?_ ?_); go_loud ((· rfl); (· rfl); (· first | (simp [nats]; done) | (simp [nats]; omega) | (simp [nats]; exact HM.out) | (simp [nats]; exact List.eq_nil_of_length_eq_zero HM.out)); (· simpa using src3 (m := 0) hownW hb1 hb2' (by simp; omega) (Nat.zero_le _) HM.out); (· unfold maxLen; omega); (· omega); (· exact Nat.le_trans hb1.size hb2'.size); intro v3 w3 hown3 hg3 hb3)))
              go_roundw
              case rel => exact ins_round HI.out hkl (by omega) hyk HM.out (Nat.zero_le _) HG.out (ltK_zero _ _ _) hb hW hb1 hb2' hb3 hszw hown3 (by omega) (by simp [nats]) hlt
              case measure => simp [intOf]; omega
            · have hz : decide (0 < m) = true := by simp; omega
              have hml : m - 1 < ys.length := by rw [HM.out]; omega
              have c1 : wr.cell? ⟨g, m - 1, none⟩ = some (.int .i64 (ys[m - 1] : Nat)) := by
                rw [hb2.cell (p := ⟨g, m - 1, none⟩) hglt, hown.cellAt (m - 1) (by omega)]; simp [nats, hml]
              have n1 : ys[m - 1] < N := by
                have := ((mem_doneNK (by rw [HN.out]; omega)).1 (HI.out.perm.mem_iff.1 (List.getElem_mem hml))).1
                omega
              obtain ⟨y, hy⟩ : ∃ y, ys[m - 1] = y := ⟨_, rfl⟩
              rw [hy] at c1 n1
              obtain ⟨_, _, e1, _, hck1⟩ := callsAt_at ((hA.below hb (Nat.le_refl _)).below hb2 (by have := hb.size; omega)) (n := y) (by rw [HN.out]; exact n1)
              cases e1
              have d1 := hck1.d
              have d0 : wr.cell? ⟨b, off + k * 23 + 20, none⟩ = some (.int .i64 (at_ l k).d) := (hb2.cell (p := ⟨b, off + k * 23 + 20, none⟩) (by have := hb.size; show b < wo.heap.size; omega)).trans c0
              have HY := Lib.hid hy
              clear hck1 hy
              by_cases hc1 : (at_ l k).d ≤ (at_ l y).d
              · have hz2 : decide ((at_ l k).d ≤ (at_ l y).d) = true := decide_eq_true hc1
                by_cases hc2 : (at_ l y).d = (at_ l k).d
                · have hz3 : ((at_ l y).d == (at_ l k).d) = true := by simp [hc2]
                  have H2 := Lib.hid hc2
                  clear hc2
                  go_wp2_with fail
                  go_quiet (fail)
                  go_wp2_with fail
                  go_quiet (fail)
                  go_wp2
                  go_ret2
                  have hno := commits_eqd HI.out hkl (by omega) hml (by rw [HY.out]; exact H2.out)
                  exact ⟨fun ys' h => (by rw [hno] at h; cases h), fun _ => rfl, hb.trans ((RowKit.Below.mono ⟨hb2.os, hb2.tape, hb2.output, hb2.size, hb2.block⟩ hb.size))⟩
                · have hz3 : ((at_ l y).d == (at_ l k).d) = false := by simp [hc2]
                  have H2 := Lib.hid hc2
                  clear hc2
                  go_wp2_with fail
                  go_quiet (fail)
                  go_wp2_with fail
                  go_quiet (fail)
                  go_wp2
                  go_roundw
                  case rel =>
                    refine ⟨m - 1, by omega, by go_num, gtK_pred (by rw [show m - 1 + 1 = m by omega]; exact HG.out) hml (by rw [HY.out]; have := H2.out; omega), ⟨hb2.os, hb2.tape, hb2.output, hb2.size, hb2.block⟩⟩
                  case measure => simp [intOf]; omega
              · have hz2 : decide ((at_ l k).d ≤ (at_ l y).d) = false := decide_eq_false hc1
                go_wp2_with fail
                go_quiet (fail)
                have hW : RowKit.Below wo.heap.size wo (wr.drewN nq) := ⟨hb2.os, hb2.tape, hb2.output, hb2.size, hb2.block⟩
                have hownW := owns_below hown hW
                have hszW : wo.heap.size ≤ wr.heap.size := hb2.size
                have hszw : w.heap.size ≤ wo.heap.size := hb.size
                go_wp2_with (first
                  | ((with_reducible refine wpList_append_src (o := ⟨some 64, _, _, _, _, _⟩) rfl _ _ 56 rfl wr.heap.size 3 (.int .i64 0) 1 8 Try.underlying56 Try.info3 rfl (by decide) (.slice none 0 0) 0 [] ?_ (World.ownsRow_nil _ _ _ _) (some ⟨g, 0, none⟩) m cp (nats (ys.take m)) ?_ ?_ ?_ (nats_one _) ?_ ?_ ?_ ?_); (· rfl); (· rfl); (· have := HM.out; simp [nats]; omega); (· exact by simpa [nats, List.map_take] using src_own hownW 0 m cp (by omega) (A := some ⟨g, 0, none⟩) (fun _ => rfl) (by simp)); (· unfold maxLen; omega); (· omega); (· simp); intro v1 w1 hown1 hg1 hb1)
                  | ((with_reducible refine wpList_append_one (o := ⟨some 68, _, _, _, _, _⟩) rfl _ _ 56 rfl wr.heap.size 3 (.int .i64 0) 8 Try.underlying56 Try.info3 rfl v1 _ _ ?_ hown1 _ w1.heap.size ?_ ?_ ?_ ?_ ?_ ?_ ?_); (· rfl); (· rfl); (· rfl); (· rfl); (· unfold maxLen; omega); (· omega); (· exact hb1.size); intro v2 w2 hown2 hb2')
                  | (at_builtin; (with_reducible refine wpList_append_src (o := ⟨some 73, _, _, _, _, _⟩) rfl _ _ 56 rfl wr.heap.size 3 (.int .i64 0) 1 8 Try.underlying56 Try.info3 rfl (by decide) v2 _ _ ?_ hown2 (if cp = m then some ⟨g, 0, none⟩ else some ⟨g, m, none⟩) (M - m) (cp - m) (nats (ys.drop m)) ?_ ?_ ?_ (nats_one _) ?_ ?_ ?_ ?_); go_loud ((· rfl); (· rfl); (· have := HM.out; simp [nats]; omega); (· exact src3 hownW hb1 hb2' (by simp; omega) hm HM.out); (· unfold maxLen; omega); (· omega); (· exact Nat.le_trans hb1.size hb2'.size); intro v3 w3 hown3 hg3 hb3)))
                go_roundw
                case rel => exact ins_round HI.out hkl (by omega) hyk HM.out hm HG.out (by have h := ltK_of HI.out.strict hml (by rw [HY.out]; omega); rwa [show m - 1 + 1 = m by omega] at h) hb hW hb1 hb2' hb3 hszw hown3 (by omega) (by simp [nats]) hlt
                case measure => simp [intOf]; omega
    · obtain rfl : k = N := by omega
      go_wp2
      go_ret2
      have hyes := commits_ins (HN.out ▸ HI.out : InsK l l.length ys)
      refine ⟨fun ys' h => ?_, fun h => (by rw [hyes] at h; cases h), hb⟩
      rw [hyes] at h
      cases h
      exact ⟨_, rfl, hown⟩
end Go.Proofs.Ytnmhmabifeapkaa.Ord
