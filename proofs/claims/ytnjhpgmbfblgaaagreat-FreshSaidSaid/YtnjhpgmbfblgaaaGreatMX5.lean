/- Walk of the law FreshSaid; An argument of the type Said, and a slice of them, opened; The. -/
import Derived.Test.YtnjhpgmbfblgaaaGreatU75
import Derived.Test.YtnjhpgmbfblgaaaGreatW11
import Derived.Test.YtnjhpgmbfblgaaaGreatRows
import Derived.WalkKit
import Derived.ProofKit
set_option linter.unusedVariables false
set_option linter.unusedSimpArgs false
namespace Go.Proofs.YtnjhpgmbfblgaaaGreat.Ord
open Go.RowKit
set_option maxRecDepth 100000
set_option maxHeartbeats 8000000
def SaidG (s : SaidR) : Prop := (∀ i, Rng (a9_ i s)) /\ (CmdSz s.cmd /\ RespSz s.resp) /\ IsT s.tim
structure RowS (w : World) (A : Option Addr) (c : Nat) (S : List SaidE) : Prop where
 at_ : ∀ i x, S[i]? = some x -> ∃ b off, A = some ⟨b, off, none⟩ /\ b < w.heap.size /\ CellsAt w ⟨b, off + i * 17, none⟩ (saidL x.1 x.2) /\ SaidOk w w.heap.size x.1 x.2
 nil : A = none -> c = 0
 one : ∀ x ∈ S, ∀ u ∈ saidL x.1 x.2, u.oneCell' = true
theorem saidLen (s : SaidR) (p : CallV) : (saidL s p).length = 17 := rfl
theorem own_nilS (w : World) (base : Nat) (e : TypeId) (size : Nat) : w.ownsRow base e size (.slice none 0 0) 0 [] := by
 unfold World.ownsRow
 exact ⟨by simp, .inl ⟨rfl, rfl⟩⟩
theorem said_flatC {w : World} {b off : Nat} {S : List SaidE} (h : ∀ i x, S[i]? = some x -> CellsAt w ⟨b, off + i * 17, none⟩ (saidL x.1 x.2)) : CellsAt w ⟨b, off, none⟩ (S.flatMap fun x => saidL x.1 x.2) := by
 induction S generalizing off with
 | nil => intro j v hj; simp at hj
 | cons y S ih =>
  intro j v hj
  rw [List.flatMap_cons] at hj
  by_cases hl : j < 17
  ·rw [aL (by rw [saidLen]; exact hl)] at hj
   have := h 0 y rfl j v hj
   simpa using this
  rw [aR (by rw [saidLen]; omega), saidLen] at hj
  have h2 := ih (off := off + 17) (fun i x hi => by
   have := h (i + 1) x (by simpa using hi)
   rw [show off + 17 + i * 17 = off + (i + 1) * 17 by omega]
   exact this) (j - 17) v hj
  rw [Addr.add_mid] at h2 ⊢
  rw [show off + j = off + 17 + (j - 17) by omega]
  exact h2
theorem said_flatL (S : List SaidE) : (S.flatMap fun x => saidL x.1 x.2).length = S.length * 17 := by
 induction S with
 | nil => rfl
 | cons y S ih => rw [List.flatMap_cons, lA, saidLen, ih, List.length_cons]; omega
theorem SaidOk.below' {w w' : World} {s : SaidR} {p : CallV} {B : Nat} (h : SaidOk w B s p) (hb : Below B w w') : SaidOk w' B s p := ⟨h.1.below hb (lR _), h.2⟩
theorem RowS.src {w : World} {A : Option Addr} {c n : Nat} {S : List SaidE} (h : RowS w A c S) (hn : S.length = n) : Src w A n c (S.flatMap fun x => saidL x.1 x.2) := by
 cases S with
 | nil => exact .inl ⟨by simpa using hn.symm, rfl, h.nil⟩
 | cons y S =>
  obtain ⟨b, off, rfl, h2, _⟩ := h.at_ 0 y rfl
  refine .inr ⟨_, rfl, ?_⟩
  exact said_flatC (fun i x hi => by
   obtain ⟨b', off', e, _, h4, _⟩ := h.at_ i x hi
   cases e
   exact h4)
theorem ses_at {S : List SaidE} {i : Nat} {x : CallR × CallV} (hi : (sesC S)[i]? = some x) : ∃ s, S[i]? = some s /\ x = (a9_ i s.1, s.2) := by
 unfold sesC at hi
 rw [List.getElem?_mapIdx] at hi
 obtain ⟨s, h1, h2⟩ := Option.map_eq_some_iff.1 hi
 exact ⟨s, h1, h2.symm⟩
theorem rowCO_ses {w w' : World} {base n : Nat} {S : List SaidE} {u : Value} (hn : S.length = n) (hok : ∀ x ∈ S, SaidOk w base x.1 x.2) (hb : Below base w w') (hbs : base <= w'.heap.size) {B : Nat} (ho : w'.ownsRow B 52 23 u n (callsV (sesC S))) :
  ∃ A c, u = .slice A n c /\ RowCO w' w'.heap.size A (sesC S) := by
 have hl := dZ_ S
 rw [hn] at hl
 rw [<- hl] at ho
 obtain ⟨A, c, hu, hr⟩ := kA_ ho
 rw [hl] at hu
 refine ⟨A, c, hu, fun i x hi => ?_⟩
 obtain ⟨b, off, h1, h2, h3⟩ := hr i x hi
 obtain ⟨s, h4, rfl⟩ := ses_at hi
 exact ⟨b, off, h1, h2, h3, ((callOk_of (i := i) (hok s (mG h4))).1.below hb (lR _)).mono hbs⟩
theorem calsG_ses {w : World} {B : Nat} {S : List SaidE} (hG : ∀ x ∈ S, SaidG x.1) (hok : ∀ x ∈ S, SaidOk w B x.1 x.2) : CalsG (sesC S) := fun x hx => by
 obtain ⟨i, hi⟩ := mI.1 hx
 obtain ⟨s, h4, rfl⟩ := ses_at hi
 have hs := mG h4
 exact ⟨⟨(hG s hs).1 i, (hG s hs).2.1⟩, (hG s hs).2.2, (callOk_of (i := i) (hok s hs)).2⟩
theorem law7 (grace : Int) (hgr : IsT grace) (S : List SaidE) (A : Option Addr) (n c : Nat) (w : World) (hn : S.length = n) (hl : n <= maxLen) (hA : RowS w A c S) (hG : ∀ x ∈ S, SaidG x.1) :
  Calls Tryz.prog 7 #[.int .u64 grace, .slice A n c] w (LawP w) := by
 by_cases hlong : 40 < n
 ·have hg : decide ((40 : Int) < (n : Int)) = true := by simp; omega
  clear hA hG
  go_enter Tryz.func7, Tryz.ntmps7
  go_wp2_with (go_at_call 29; refine (known29 w).mono ?_; rintro e w2 ⟨rfl, hb2⟩)
  go_ret
  exact ⟨rfl, hb2⟩
 have hg : decide ((40 : Int) < (n : Int)) = false := by simp; omega
 have Al := kp (show ∀ x ∈ S, SaidOk w w.heap.size x.1 x.2 from fun x hx => by
  obtain ⟨i, hi⟩ := mI.1 hx
  obtain ⟨_, _, _, _, _, h⟩ := hA.at_ i x hi
  exact h)
 have Ah := kp (hA.src hn)
 have Ai := kp (show ∀ u ∈ (S.flatMap fun x => saidL x.1 x.2), u.oneCell' = true from fun u hu => by
  obtain ⟨x, hx, hu2⟩ := List.mem_flatMap.1 hu
  exact hA.one x hx u hu2)
 obtain ⟨Aq, H32, HG, HN, Ao⟩ := kq5 (show (S.flatMap fun x => saidL x.1 x.2).length = n * 17 by rw [said_flatL, hn]) (fun (v : Value) (W : World) (ho : W.ownsRow w.heap.size 73 17 v n (S.flatMap fun x => saidL x.1 x.2)) (hs : w.heap.size <= W.heap.size) => kf_ S v n w.heap.size W hn (by omega) ho hs hA.one) hG hn hgr
 clear hA hG hn hgr
 go_enter Tryz.func7, Tryz.ntmps7
 go_wp2_with ((with_reducible refine ae_ (o := ⟨some 17, _, _, _, _, _⟩) rfl _ _ 69 rfl w.heap.size 73 _ 17 248 Tryz.underlying69 q_info73 ?_ ?_ (.slice none 0 0) 0 [] ?_ (own_nilS _ _ _ _) A n c (S.flatMap fun x => saidL x.1 x.2) ?_ Aq.o Ah.o Ai.o ?_ ?_ (lR _) ?_); (· rfl); (· decide); (· rfl); (· rfl); (· unfold maxLen; omega); (· omega); intro v1 w1 ho1 _ hb1)
 rw [Nat.zero_add, List.nil_append] at ho1
 obtain ⟨H5, Ap, Ag⟩ := kq3 (H32.o v1 w1 ho1 hb1.size) (fun (b : Nat) (h : b ∈ v1.ownBlock.toList) => (show w.heap.size <= b from (ho1.lt b (by simpa using h)).1)) hb1
 clear ho1 hb1
 go_wp2_with fail
 refine H5.o.mono ?_
 rintro e w2 ⟨u, rfl, ho2, hk2⟩
 have hb2 : Below w.heap.size w1 w2 := hk2.below Ag.o.size Ap.o
 have hok1 := fun x hx => (Al.o x hx).below' Ag.o
 obtain ⟨A2, c2, rfl, hrow⟩ := rowCO_ses HN.o hok1 hb2 (lT Ag.o.size hb2.size) ho2
 obtain ⟨Aa, Aj, Ab, Af⟩ := kq4 hrow (calsG_ses HG.o Al.o) (show (sesC S).length = n by rw [dZ_, HN.o]) (Ag.o.trans hb2)
 clear ho2 hk2 hb2 hok1 hrow
 have HL := kp (light28 (sesC S) A2 n c2 w2 Ab.o hl Aa.o (fun x hx => (Aj.o x hx).1.2))
 go_wp2_with fail
 refine HL.o.mono ?_
 rintro e w3 ⟨t, rfl, hlt, hb3⟩
 obtain ⟨Am, Ad⟩ := kq2 hlt hb3
 clear hlt hb3
 cases t
 ·go_wp2_with (go_at_call 29; refine (known29 w3).mono ?_; rintro e w4 ⟨rfl, hb4⟩)
  go_ret
  exact ⟨rfl, Af.o.trans ((Ad.o.trans (hb4.mono Ad.o.size)).mono Af.o.size)⟩
 have An := kp (Am.o rfl)
 clear Am
 have Ak := kp (row_up Aa.o Ad.o)
 have H30 := kp (check30 [.int .i64 0, .int .i64 0, .int .i64 0, .int .i64 0, .int .i64 0, .int .u64 grace, .int .u64 0] grace Ao.o rfl (sesC S) A2 n c2 w3 Ab.o (Aj.o.row Ak.o (by rw [Ab.o]; omega) An.o.2))
 go_wp2_with fail
 refine H30.o.mono ?_
 rintro e w4 ⟨hno, hyes, hb4⟩
 obtain ⟨H31, Ae⟩ := kq2 (refCheck31 grace Ao.o (sesC S) A2 n c2 w4 Ab.o (Aj.o.row (row_up Ak.o hb4) (by rw [Ab.o]; omega) An.o.2)) (Af.o.trans ((Ad.o.trans (hb4.mono Ad.o.size)).mono Af.o.size))
 clear hb4 H5 HL H30 H32
 by_cases hv : ValidP singleB ((sesC S).map (·.1))
 ·obtain ⟨r, hr, rfl⟩ := hyes hv
  obtain ⟨HR, HV⟩ := kq2 hr hv
  clear hno hyes hr hv
  go_wp2_with fail
  refine H31.o.mono ?_
  rintro e w5 ⟨hno, hyes, hb5⟩
  obtain ⟨r', hr', rfl⟩ := hyes HV.o
  obtain rfl := HR.o.fun hr'
  have Ac := kp (Ae.o.trans (hb5.mono Ae.o.size))
  clear hno hyes hr' hb5
  obtain ⟨ra, hra⟩ := eY (atR r)
  obtain ⟨rf, hrf⟩ := eY (fltR r)
  rw [hra, hrf]
  have hea : (ra == ra) = true := by simp
  have hef : (rf == rf) = true := by simp
  go_wp2_with (go_at_call 29; refine (known29 w5).mono ?_; rintro e w6 ⟨rfl, hb6⟩)
  go_ret
  exact ⟨rfl, Ac.o.trans (hb6.mono Ac.o.size)⟩
 have HV := kp hv
 obtain rfl := hno hv
 clear hno hyes hv
 go_wp2_with fail
 refine H31.o.mono ?_
 rintro e w5 ⟨hno, hyes, hb5⟩
 obtain rfl := hno HV.o
 have Ac := kp (Ae.o.trans (hb5.mono Ae.o.size))
 clear hno hyes hb5
 go_wp2_with (go_at_call 29; refine (known29 w5).mono ?_; rintro e w6 ⟨rfl, hb6⟩)
 go_ret
 exact ⟨rfl, Ac.o.trans (hb6.mono Ac.o.size)⟩
end Go.Proofs.YtnjhpgmbfblgaaaGreat.Ord
namespace Go.Proofs.YtnjhpgmbfblgaaaGreat.Ord
open Go.ChangeShapes Go.WideShapes Go.ChangeAt Go.RowKit Go.Deep
section
variable {H : Type} {enc : TypeId × Value -> H} {w : World} {base : Nat} {spare : Nat -> Bool} {held : Bool}
theorem slvF_one {α : Type} {e : α -> Value} {w : World} {B : Nat} {v : Value} {xs : List α} (h : SlV e w B v xs) : v.oneCell' = true := by
 obtain ⟨_, A, c, rfl, _⟩ := h
 rfl
theorem datF_one {w : World} {B : Nat} {v : Value} {xs : List Int} (h : DatG w B v xs) : v.oneCell' = true := by
 obtain ⟨_, _, A, c, rfl, _⟩ := h
 rfl
theorem itmF_one {w : World} {B : Nat} {v : Value} {xs : List ItemR} (h : lE_ w B v xs) : v.oneCell' = true := by
 obtain ⟨_, A, c, rfl, _⟩ := h
 rfl
theorem leaves73 : leaves Tryz.prog 6 73 = some [31, 9, 32, 26, 32, 34, 33, 9, 9, 9, 31, 29, 37, 33, 3, 38, 34] := by kernel_rfl
theorem open_saidF {fuel : Nat} {cs : List Value} {x : DataW H × List MemPlace} (h : DataW.trod enc Tryz.prog w base spare held fuel 73 cs = some x) (hK : ∀ n ∈ x.1.weights Tryz.prog 73, n <= big) : ∃ (s : SaidR) (p : CallV), cs = saidL s p /\ SaidOk w w.heap.size s p /\ (∀ u ∈ saidL s p, u.oneCell' = true) /\ SaidG s := by
 obtain ⟨hll, hall⟩ := leaves_specS (K := big) 6 73 _ leaves73 _ _ _ h hK
 have hll : cs.length = 17 := hll
 obtain ⟨n0, h0, g0⟩ := leaf_int Tryz.underlying31 (hall 0 31 rfl).leaf
 obtain ⟨n1, h1, g1⟩ := dn_ Tryz.underlying9 (hall 1 9 rfl)
 obtain ⟨n2, fu2, y2, h2, _, ht2, hw2⟩ := hall 2 32 rfl
 obtain ⟨xs2, k2, g2⟩ := et_ ht2 hw2
 obtain ⟨n3, fu3, y3, h3, _, ht3, hw3⟩ := hall 3 26 rfl
 obtain ⟨xs3, k3, g3⟩ := gT_ ht3 hw3
 obtain ⟨n4, fu4, y4, h4, _, ht4, hw4⟩ := hall 4 32 rfl
 obtain ⟨xs4, k4, g4⟩ := et_ ht4 hw4
 obtain ⟨n5, h5, g5⟩ := leaf_int Tryz.underlying34 (hall 5 34 rfl).leaf
 obtain ⟨n6, h6, g6⟩ := leaf_int Tryz.underlying33 (hall 6 33 rfl).leaf
 obtain ⟨n7, h7, g7⟩ := dn_ Tryz.underlying9 (hall 7 9 rfl)
 obtain ⟨n8, h8, g8⟩ := dn_ Tryz.underlying9 (hall 8 9 rfl)
 obtain ⟨n9, h9, g9⟩ := dn_ Tryz.underlying9 (hall 9 9 rfl)
 obtain ⟨n10, h10, g10⟩ := leaf_int Tryz.underlying31 (hall 10 31 rfl).leaf
 obtain ⟨n11, h11, g11⟩ := leaf_int Tryz.underlying29 (hall 11 29 rfl).leaf
 obtain ⟨n12, fu12, y12, h12, _, ht12, hw12⟩ := hall 12 37 rfl
 obtain ⟨xs12, k12, g12⟩ := gS_ ht12 hw12
 obtain ⟨n13, h13, g13⟩ := leaf_int Tryz.underlying33 (hall 13 33 rfl).leaf
 obtain ⟨n14, h14, g14⟩ := leaf_int Tryz.underlying3 (hall 14 3 rfl).leaf
 obtain ⟨n15, fu15, y15, h15, _, ht15, hw15⟩ := hall 15 38 rfl
 obtain ⟨xs15, k15, g15⟩ := h2_ ht15
 obtain ⟨n16, h16, g16⟩ := leaf_int Tryz.underlying34 (hall 16 34 rfl).leaf
 match cs, hll, h0, h1, h2, h3, h4, h5, h6, h7, h8, h9, h10, h11, h12, h13, h14, h15, h16 with
 | [a0, a1, a2, a3, a4, a5, a6, a7, a8, a9, a10, a11, a12, a13, a14, a15, a16], _, h0, h1, h2, h3, h4, h5, h6, h7, h8, h9, h10, h11, h12, h13, h14, h15, h16 =>
  simp at h0 h1 h2 h3 h4 h5 h6 h7 h8 h9 h10 h11 h12 h13 h14 h15 h16
  subst h0 h1 h2 h3 h4 h5 h6 h7 h8 h9 h10 h11 h12 h13 h14 h15 h16
  have o2 := slvF_one k2
  have o3 := datF_one k3
  have o4 := slvF_one k4
  have o15 := slvF_one k15
  have o12 := itmF_one k12
  obtain ⟨_, A12, c12, e12, _⟩ := id k12
  refine ⟨⟨⟨_, _, xs2, xs3, xs4, _, _, _, _, _⟩, ⟨_, _, xs12, _, _, xs15⟩, _⟩, ⟨_, _, _, _, _⟩, rfl, ⟨⟨⟨k2, k3, k4⟩, k12, k15⟩, A12, c12, e12, by rw [e12] at ht12; exact cap37 ht12⟩, fun u hu => ?_, fun i => ⟨k3.1, wf_u64 g5, wf_u64 g6, fun y hy => (g12 y hy).1, wf_u64 g13, g15, fun y hy => (g12 y hy).2.2.1, fun y hy => (g12 y hy).2.2.2.1, it_ g14, fun y hy => (g12 y hy).2.2.2.2, it_ g11, it_ g0⟩, ⟨⟨g1, g2, g3, g4, g7, g8, g9⟩, fun y hy => (g12 y hy).2.1⟩, wf_u64 g16⟩
  unfold saidL cmdC respC at hu
  simp only [List.cons_append, List.nil_append, List.mem_cons, List.not_mem_nil, or_false] at hu
  rcases hu with rfl | rfl | rfl | rfl | rfl | rfl | rfl | rfl | rfl | rfl | rfl | rfl | rfl | rfl | rfl | rfl | rfl
  all_goals first | rfl | exact o2 | exact o3 | exact o4 | exact o12 | exact o15
theorem open_saidsF {fuel : Nat} {A : Option Addr} {len cap : Nat} {y : DataW H × List MemPlace} (hf : DataW.trod enc Tryz.prog w base spare held fuel 69 [.slice A len cap] = some y) (hK : ∀ n ∈ y.1.weights Tryz.prog 69, n <= big) : ∃ L : List SaidE, L.length = len /\ len <= maxLen /\ RowS w A cap L /\ ∀ x ∈ L, SaidG x.1 := by
 rcases open_slice Tryz.underlying69 hf with ⟨hcs, _⟩ | ⟨a, l, c, m, n, D, Pl, hcs, _, hl, hm, hmm, hx, hi⟩
 ·simp at hcs
  obtain ⟨rfl, rfl, rfl⟩ := hcs
  exact ⟨[], rfl, by unfold maxLen; omega, ⟨fun i r hi => by simp at hi, fun _ => rfl, by simp⟩, by simp⟩
 simp at hcs
 obtain ⟨rfl, rfl, rfl⟩ := hcs
 have hC : Tryz.prog.cellsOf 73 = 17 := by kernel_rfl
 rw [hC] at hi hx
 have hlm : len <= m := by rw [hmm]; split <;> omega
 have key : ∀ i, ∃ r : SaidE, i < len -> CellsAt w (a.add (i * 17)) (saidL r.1 r.2) /\ SaidOk w w.heap.size r.1 r.2 /\ (∀ u ∈ saidL r.1 r.2, u.oneCell' = true) /\ SaidG r.1 := fun i => by
  by_cases hlt : i < len
  ·obtain ⟨cs', hc, ht⟩ := hi i (by omega)
   obtain ⟨_, hcl, hat⟩ := World.cells?_some hc
   obtain ⟨r, v, e1, e2, e3, e4⟩ := open_saidF ht (fun q hq => hK q (by
    have hx1 := congrArg Prod.fst hx
    simp only at hx1
    rw [hx1]
    simp only [DataW.weights, Tryz.underlying69, List.mem_cons, List.mem_append]
    exact .inr (.inl (weightsAll_memK (List.mem_map.2 ⟨i, List.mem_range.2 hlt, rfl⟩) q hq))))
   refine ⟨(r, v), fun _ => ⟨fun j u hj => ?_, e2, e3, e4⟩⟩
   have hj' : j < 17 := (gS.1 hj).1
   rw [hat j hj', e1, hj]
  exact ⟨(exS, ⟨nilV, nilV, nilV, nilV, nilV⟩), fun h => absurd h hlt⟩
 obtain ⟨f, hf'⟩ := Classical.axiomOfChoice key
 refine ⟨(List.range len).map f, by simp, by omega, ⟨fun i r hi2 => ?_, (fun h => by cases h), fun r hr => by
  obtain ⟨i, hi3, rfl⟩ := List.mem_map.1 hr
  exact (hf' i (List.mem_range.1 hi3)).2.2.1⟩, fun r hr => by
  obtain ⟨i, hi3, rfl⟩ := List.mem_map.1 hr
  exact (hf' i (List.mem_range.1 hi3)).2.2.2⟩
 have hil : i < len := by
  have := (gS.1 hi2).1
  simpa using this
 obtain ⟨hca, hda, _⟩ := hf' i hil
 obtain ⟨hca0, _, _⟩ := hf' 0 (by omega)
 have h0 : w.cell? a = some (.int .i64 (f 0).1.cmd.op) := by
  have := hca0 0 (.int .i64 (f 0).1.cmd.op) rfl
  simpa [Addr.add] using this
 have hspot := World.cell?_spot h0
 have hblk := cell_lt h0
 obtain ⟨b, off, sp⟩ := a
 obtain rfl : sp = none := hspot
 have hr : r = f i := by
  rw [gM, List.getElem?_range hil] at hi2
  simpa using hi2.symm
 subst hr
 refine ⟨b, off, rfl, hblk, ?_, hda⟩
 have e : (⟨b, off, none⟩ : Addr).add (i * 17) = ⟨b, off + i * 17, none⟩ := by
  unfold Addr.add
  split <;> simp_all
 rw [e] at hca
 exact hca
end
end Go.Proofs.YtnjhpgmbfblgaaaGreat.Ord
namespace Go.Proofs.YtnjhpgmbfblgaaaGreat.Ord
open Go.ChangeShapes Go.WideShapes Go.ChangeAt Go.RowKit
set_option maxRecDepth 100000
theorem freshSaid_j0 : (Rows.freshSaidRow.wf (OpenSpec.ofChange Rows.freshSaidSpec)) = true := by kernel_rfl
theorem freshSaid_j3 : (Tryz.f7.params.all (Tryz.checked.prog.readableRec ·)) = true := by kernel_rfl
theorem freshSaid_j4 : (namedTie Tryz.checked.prog Rows.freshSaidRow.named Rows.freshSaidSpec.vars) = true := by kernel_rfl
theorem freshSaid_j7 : ((Rows.freshSaidRow.knobs == [])) = true := by kernel_rfl
theorem freshSaid_j8 : ((Tryz.checked.prog.stopKnobs == [])) = true := by kernel_rfl
theorem freshSaid_j11 : ((Rows.freshSaidRow.recurses == Tryz.checked.prog.recurses 7)) = true := by kernel_rfl
theorem freshSaid_j12 : ((Rows.freshSaidRow.named == Tryz.checked.prog.varsNamed 7)) = true := by kernel_rfl
theorem freshSaid_j15 : ((Rows.freshSaidRow.mapsOut == Tryz.checked.prog.mapsAmong Tryz.f7.resultTypes.toList)) = true := by kernel_rfl
theorem freshSaid_j16 : ((Rows.freshSaidRow.loops == (Tryz.f7.params.toList ++ Rows.freshSaidSpec.plain.varTypes Tryz.checked.prog).any (Tryz.checked.prog.loopsFrom ·))) = true := by kernel_rfl
theorem freshSaid_j19 : (Tryz.f7.resultTypes.all (fun t => Tryz.checked.prog.readableRec t && decide (t < Tryz.checked.prog.types.size))) = true := by kernel_rfl
theorem freshSaid_j20 : ((Rows.freshSaidRow.ifacesOut == Tryz.f7.resultTypes.toList.any (Tryz.checked.prog.ifacesRec ·))) = true := by kernel_rfl
theorem freshSaid_j23 : (Rows.freshSaidRow.shortTexts.isNone) = true := by kernel_rfl
theorem freshSaid_j24 : (Tryz.checked.prog.stopsHeard) = true := by kernel_rfl
theorem freshSaid_j27 : ((Tryz.checked.prog.make == some Rows.freshSaidRow.make)) = true := by kernel_rfl
theorem freshSaid_j28 : ((Rows.freshSaidRow.kinds == (if Rows.freshSaidRow.domain.isEmpty then [] else Tryz.f7.params.toList.map fun t => match Tryz.checked.prog.underlying t with | some (.int k) => some k | _ => none))) = true := by kernel_rfl
theorem freshSaid_j31 : (Rows.freshSaidRow.veiledFits Tryz.checked.prog Tryz.f7.params.toList (Tryz.f7.params.toList ++ Rows.freshSaidSpec.plain.varTypes Tryz.checked.prog ++ Tryz.f7.resultTypes.toList)) = true := by kernel_rfl
theorem freshSaid_j1 : (laidOutB Tryz.checked.prog) = true := by kernel_rfl
theorem freshSaid_j5 : ((Rows.freshSaidRow.stops == [])) = true := by kernel_rfl
theorem freshSaid_j9 : ((Rows.freshSaidRow.inPlace == Tryz.checked.prog.inPlace 7)) = true := by kernel_rfl
theorem freshSaid_j13 : ((Rows.freshSaidRow.maps == (Tryz.f7.params.toList ++ Rows.freshSaidSpec.plain.varTypes Tryz.checked.prog).any (Tryz.checked.prog.mapsRec ·))) = true := by kernel_rfl
theorem freshSaid_j17 : ((Rows.freshSaidRow.wideKeys == (Tryz.f7.params.toList ++ Rows.freshSaidSpec.plain.varTypes Tryz.checked.prog ++ Tryz.f7.resultTypes.toList).any (Tryz.checked.prog.wideKeysFrom ·))) = true := by kernel_rfl
theorem freshSaid_j21 : ((Rows.freshSaidRow.loopsOut == Tryz.f7.resultTypes.toList.any (Tryz.checked.prog.loopsFrom ·))) = true := by kernel_rfl
theorem freshSaid_j25 : (Tryz.checked.prog.mayEnter) = true := by kernel_rfl
theorem freshSaid_j29 : ((Rows.freshSaidRow.pinned == Rows.freshSaidRow.pinnedBy)) = true := by kernel_rfl
theorem freshSaid_j2 : (mapsRowed Tryz.checked.prog) = true := by kernel_rfl
theorem freshSaid_j6 : ((Tryz.checked.prog.stops == [])) = true := by kernel_rfl
theorem freshSaid_j10 : ((Rows.freshSaidRow.unfollowed == Tryz.checked.prog.unfollowed 7)) = true := by kernel_rfl
theorem freshSaid_j14 : ((Rows.freshSaidRow.ifaces == (Tryz.f7.params.toList ++ Rows.freshSaidSpec.plain.varTypes Tryz.checked.prog).any (Tryz.checked.prog.ifacesRec ·))) = true := by kernel_rfl
theorem freshSaid_j18 : (Rows.freshSaidSpec.vars.all (Tryz.checked.prog.varReadable ·)) = true := by kernel_rfl
theorem freshSaid_j22 : ((Rows.freshSaidRow.plainKeys == Tryz.checked.prog.plainKeys)) = true := by kernel_rfl
theorem freshSaid_j26 : ((Rows.freshSaidRow.lifted == Tryz.checked.prog.liftsFinal)) = true := by kernel_rfl
theorem freshSaid_j30 : ((Rows.freshSaidRow.veiled == (Tryz.f7.params.toList ++ Rows.freshSaidSpec.plain.varTypes Tryz.checked.prog ++ Tryz.f7.resultTypes.toList).any (Tryz.checked.prog.veiledRec ·))) = true := by kernel_rfl
theorem freshSaid_named : Tryz.checked.prog.funcNamed Rows.freshSaidRow.func = some 7 := by kernel_rfl
end Go.Proofs.YtnjhpgmbfblgaaaGreat.Ord
namespace Go.Proofs.YtnjhpgmbfblgaaaGreat.Ord
set_option maxRecDepth 100000
set_option maxHeartbeats 16000000
open Go.ChangeShapes Go.WideShapes Go.ChangeAt Go.RowKit Go.Deep
theorem freshSaid_lifted (os : Os) (started : os.Started) (H : Type) (enc : TypeId × Value -> H) :
  ReturnsInHanded {} Tryz.checked os 7 .any (Rows.freshSaidSpec.pre6 enc Tryz.prog Tryz.f7 Rows.freshSaidRow.domain false) (Rows.freshSaidSpec.post enc Tryz.prog Tryz.f7 false true false false) := by
 refine returnsInHanded_of_change_sized (C := Tryz.checked) own started (by kernel_rfl) Tryz.func7
  (ChangeSpec.witness6 (enc := enc) (C := Tryz.checked) false ⟨#[], #[.int .u64 0, .slice none 0 0], []⟩ 8 (by kernel_rfl) (by kernel_rfl) (by kernel_rfl) (by kernel_rfl)) ?_
 intro W base args ds gs before hval0 hW hcnd hsz0 _
 have hsz : (DataW.weightsEach Tryz.prog (Tryz.f7.params.toList ++ Rows.freshSaidSpec.plain.varTypes Tryz.prog) (ds ++ gs)).all (· <= reachBytes) = true := hsz0
 have hval : ∀ (j : Nat) t v, Tryz.f7.params[j]? = some t -> args[j]? = some v -> Value.okWide Tryz.prog W .any base t v := hval0
 have hW' := hW
 obtain ⟨p, q, hA0, hV, rfl, hfz, hnd⟩ := hW
 have hTA : DataW.TrodAll enc Tryz.prog W 0 (fun _ => true) true Tryz.f7.params.toList args.toList ds p := hA0
 rw [Tryz.params7] at hTA hval hsz
 obtain ⟨v0, vs0, d0, ds0, p0, q0, hargs, rfl, rfl, h0, r0⟩ := trodAll_cons hTA
 obtain ⟨v1, vs1, d1, ds1, p1, q1, rfl, rfl, rfl, h1, r1⟩ := trodAll_cons r0
 obtain ⟨rfl, rfl, rfl⟩ := trodAll_nil r1
 obtain rfl : args = #[v0, v1] := by cases args; simp_all
 obtain ⟨rfl, rfl⟩ := trodVars_none hV
 obtain ⟨g, rfl, hgt⟩ : ∃ g, v0 = .int .u64 g /\ IsT g := by
  obtain ⟨n, hn⟩ := okWide_int Tryz.underlying34 (hval 0 34 v0 rfl rfl)
  obtain ⟨fu0, hf0⟩ := h0
  obtain ⟨g, hg, _, hgw⟩ := DataW.trod_int Tryz.underlying34 hf0
  rw [hn] at hg
  have e : n = g := by simpa [Value.cells] using hg
  exact ⟨n, hn, e ▸ wf_u64 hgw⟩
 obtain ⟨a1, len1, cap1, rfl⟩ := okWide_slice Tryz.underlying69 (hval 1 69 v1 rfl rfl)
 have k0 := h0
 have lt0 : ∀ x ∈ p0, x.block < W.heap.size := by obtain ⟨m, hm⟩ := k0; exact DataW.trod_lt m _ _ _ hm
 have k1 := h1
 have lt1 : ∀ x ∈ p1, x.block < W.heap.size := by obtain ⟨m, hm⟩ := k1; exact DataW.trod_lt m _ _ _ hm
 have z1 : ∀ n ∈ d1.weights Tryz.prog 69, n <= big := fun n hn => by
  have h1 := List.all_eq_true.1 hsz n (DataW.weights_mem_each (j := 1) (t := 69) (d := d1) rfl rfl n hn)
  have h2 : n <= reachBytes := of_decide_eq_true h1
  have h3 := reachBytes_lt
  unfold big; omega
 obtain ⟨fu1, hf1⟩ := h1
 obtain ⟨L, hL, hm0, hRow, hG⟩ := open_saidsF hf1 z1
 clear hA0 hval0
 refine (law7 g hgt L a1 len1 cap1 W hL hm0 hRow hG).mono fun e W' ⟨he, bel⟩ => ?_
 subst he
 exact ⟨_, rfl, _, _, _, [], _, [], hW', trodAll_mk1 (shut_bool Tryz.underlying4 _), (trodAll_cons_mk (Below.trod laidOut (by kernel_rfl) (of_decide_eq_true (by kernel_rfl)) k0 bel lt0) (trodAll_cons_mk (Below.trod laidOut (by kernel_rfl) (of_decide_eq_true (by kernel_rfl)) k1 bel lt1) trodAll_mk0)), rfl, bel.frame _, fun h => by cases h⟩
theorem and_tt {a b : Bool} (h : a = true) (k : b = true) : (a && b) = true := by rw [h, k]; rfl
theorem freshSaid_joined : joinedFacts Tryz.checked.prog 7 Tryz.f7 Rows.freshSaidSpec Rows.freshSaidRow = true := by
 unfold joinedFacts
 exact and_tt (and_tt (and_tt (and_tt (and_tt (and_tt (and_tt (and_tt (and_tt (and_tt (and_tt (and_tt (and_tt (and_tt (and_tt (and_tt (and_tt (and_tt (and_tt (and_tt (and_tt (and_tt (and_tt (and_tt (and_tt (and_tt (and_tt (and_tt (and_tt (and_tt (and_tt freshSaid_j0 freshSaid_j1) freshSaid_j2) freshSaid_j3) freshSaid_j4) freshSaid_j5) freshSaid_j6) freshSaid_j7) freshSaid_j8) freshSaid_j9) freshSaid_j10) freshSaid_j11) freshSaid_j12) freshSaid_j13) freshSaid_j14) freshSaid_j15) freshSaid_j16) freshSaid_j17) freshSaid_j18) freshSaid_j19) freshSaid_j20) freshSaid_j21) freshSaid_j22) freshSaid_j23) freshSaid_j24) freshSaid_j25) freshSaid_j26) freshSaid_j27) freshSaid_j28) freshSaid_j29) freshSaid_j30) freshSaid_j31
theorem freshSaid_proved : Rows.FreshSaidSaid :=
 OpenClaim.holds_of_wide 7 Tryz.f7 rfl rfl rfl rfl rfl rfl rfl ⟨rfl, rfl, rfl, rfl, rfl⟩ rfl rfl rfl rfl rfl freshSaid_named Tryz.func7 freshSaid_joined
  (of_decide_eq_true (by kernel_rfl)) (by unfold Func.isWrapper; first | (rw [if_pos (by decide +kernel)]; kernel_rfl) | (rw [if_neg (by decide +kernel)]; exact ⟨rfl, rfl⟩))
  (fun os started H enc _ => freshSaid_lifted os started H enc)
end Go.Proofs.YtnjhpgmbfblgaaaGreat.Ord
