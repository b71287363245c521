/- Walk of fresh.Check; Walk of checks; A session of what was said fits together; its order. -/
import Derived.Test.YtnjhpgmbfblgaaaGreatMU79
import Derived.OwnWalk
import Derived.Test.YtnjhpgmbfblgaaaGreatMU69
set_option linter.unusedVariables false
set_option linter.unusedSimpArgs false
namespace Go.Proofs.YtnjhpgmbfblgaaaGreat.Ord
open Go.RowKit
set_option maxRecDepth 100000
set_option maxHeartbeats 4000000
theorem check30 (cfg : List Value) (grace : Int) (hgr : IsT grace) (hg : cfg[5]? = some (.int .u64 grace)) (L : List (CallR × CallV)) (A : Option Addr) (n c : Nat) (w : World) (hn : L.length = n) (hL : RowG w A L) :
  Calls Tryz.prog 30 #[.agg cfg.toArray, .slice A n c] w (lF_ grace L w (.int .i64 2) (.int .i64 0)) := by
 obtain ⟨HL, At⟩ := kq2 hL hgr
 have hn4 : n <= 4096 := hn ▸ hL.len
 have HN := kp hn
 have hONE : ∀ y ∈ L, ∀ v ∈ callC y.1 y.2, v.oneCell' = true := fun y hy => by
  obtain ⟨i, hi⟩ := mI.1 hy
  obtain ⟨_, _, _, _, _, hok⟩ := hL.row i y hi
  exact cD_ hok
 have Aj := kp hONE
 obtain ⟨X, hX⟩ := eY w.heap.size
 obtain ⟨W2, hW2⟩ := eX (w.alloc (.cells cfg.toArray 62))
 have hX0 : RowL W2 X 62 cfg := by rw [hW2, <- hX]; exact RowL.new w 62 cfg
 have hb0 : Below w.heap.size w W2 := by rw [hW2]; exact below1 w _
 have hsz : w.heap.size <= W2.heap.size := hb0.size
 have hA2 : RowCO W2 W2.heap.size A L := RowCO.mono (hL.row.below hb0 (lR _)) hsz
 obtain ⟨Av, HX, Ar, HG, Aw⟩ := kq5 hA2 hX0 hb0 hg hX
 have hv := valid25 L A n c W2 hn (by unfold maxLen; omega) hA2 hL.small
 clear hL hn hX0 hb0 hg hgr hONE hA2
 by_cases hval : ValidP singleB (L.map (·.1))
 case neg =>
  have Ab := kp hval
  have HV := kp (hv.mono (R' := fun e w' => e = Ending.returned (.bool false) /\ Below W2.heap.size W2 w') fun e w' ⟨b, h1, h2, h3⟩ => (show e = Ending.returned (.bool false) /\ Below W2.heap.size W2 w' from ⟨by rw [h1]; cases b; rfl; exact absurd (h2.1 rfl) Ab.o, h3⟩))
  clear hv hval
  go_enter Tryz.func30, Tryz.ntmps30
  go_upto_region 1 with (fail)
  rw [<- hW2]
  try rw [hX]
  clear hW2 hX
  go_wp2_with (go_at_call 25; refine HV.o.mono ?_; rintro e w1 ⟨rfl, hb1⟩)
  go_ret3
  exact ⟨fun _ => rfl, fun h => absurd h Ab.o, Ar.o.trans (hb1.mono hsz)⟩
 have Ab := kp hval
 have HV := kp (hv.mono (R' := fun e w' => e = Ending.returned (.bool true) /\ Below W2.heap.size W2 w') fun e w' ⟨b, h1, h2, h3⟩ => (show e = Ending.returned (.bool true) /\ Below W2.heap.size W2 w' from ⟨by rw [h1, h2.2 Ab.o], h3⟩))
 obtain ⟨ys, hys, hcs, hyl⟩ := lo_ hval
 obtain ⟨Ai, Ap⟩ := kq2 hys hcs
 obtain ⟨m, hm⟩ := eY ys.length
 rw [hm, HN.o] at hyl
 have HM := kp hm
 have Au := kp (fun (w1 : World) (hb1 : Below W2.heap.size W2 w1) => (show Calls Tryz.prog 71 #[.slice A n c] w1 (fun e w3 => ∃ p cp, e = .returned (.tuple #[.slice p m cp, .int .i64 0]) /\ w3.ownsRow w1.heap.size 3 1 (.slice p m cp) m (ys.map fun (x : Nat) => Value.int .i64 (x : Int)) /\ Below w1.heap.size w1 w3) from by
  have h1 := im_ A (toL L) c w1 (by rw [lM_, HN.o]; exact hn4) (eX_ (RowCO.mono (Av.o.below hb1 (lR _)) hb1.size) Aj.o)
  rw [lM_, HN.o] at h1
  refine h1.mono ?_
  rintro e w3 ⟨h2, -, h3⟩
  obtain ⟨v, rfl, h4⟩ := h2 ys Ai.o
  obtain ⟨p, cp, rfl⟩ := ax_ h4
  rw [HM.o] at h4 ⊢
  exact ⟨p, cp, rfl, h4, h3⟩))
 clear hv hval hys hcs hm
 go_enter Tryz.func30, Tryz.ntmps30
 go_upto_region 1 with (fail)
 rw [<- hW2]
 try rw [hX]
 clear hW2 hX
 go_upto_region 6 with (first | (go_at_call 25; refine HV.o.mono ?_; rintro e w1 ⟨rfl, hb1⟩) | (go_at_call 71; refine (Au.o _ hb1).mono ?_; rintro e w3 ⟨pv, cv, rfl, hown, hb3⟩))
 have hx3 := ((HX.o.below hb1 HX.o.lt).below hb3 (lL HX.o.lt hb1.size)).cell HG.o
 have hb03 : Below w.heap.size w w3 := Ar.o.trans ((hb1.trans (hb3.mono hb1.size)).mono hsz)
 obtain ⟨Al, Am⟩ := kq2 hb03 hown
 have hj0 := JI.start w3 grace At.o
 obtain ⟨lim, hlim⟩ := eY w3.heap.size
 rw [hlim] at hj0
 obtain ⟨Ao, Ax, Aa⟩ := kq3 hj0 (show w1.heap.size <= lim from hlim ▸ hb3.size) (show w.heap.size <= lim from hlim ▸ hb03.size)
 clear hb1 hb3 hown hb03 hj0
 have hmk : ∀ w, (Instr.makeMap 134 none).run Tryz.prog w = .ok (.map (some w.heap.size)) (w.alloc (.map #[] 0)) := fun _ => rfl
 have hmk2 : ∀ w, (Instr.makeMap 135 none).run Tryz.prog w = .ok (.map (some w.heap.size)) (w.alloc (.map #[] 0)) := fun _ => rfl
 go_upto_region 7 with (fail)
 have hj1 : JI (((w3.alloc (.map #[] 0)).alloc (.map #[] 0)).alloc (.cells #[.int .u64 grace, .slice none 0 0, .map (some lim), .map (some (lim + 1))] 138)) lim (lim + 1 + 1) grace [] [] _ := Ao.o
 have hb4 : Below lim w3 (((w3.alloc (.map #[] 0)).alloc (.map #[] 0)).alloc (.cells #[.int .u64 grace, .slice none 0 0, .map (some lim), .map (some (lim + 1))] 138)) := by rw [<- hlim]; exact dS_ w3 _ _ _
 obtain ⟨J, hJ⟩ := eY (lim + 1 + 1)
 obtain ⟨W4, hW4⟩ := eY (((w3.alloc (.map #[] 0)).alloc (.map #[] 0)).alloc (.cells #[.int .u64 grace, .slice none 0 0, .map (some lim), .map (some (lim + 1))] 138))
 rw [hW4] at hj1 hb4 ⊢
 rw [hJ] at hj1 ⊢
 obtain ⟨An, Aq, Ad⟩ := kq3 hj1 hb4 hlim
 clear hj1 hb4 hW4 hJ hx3 hmk hmk2 hlim Ao
 go_wp2
 go_loopw [30] (fun i wr => ∃ (k : Nat) (ws : List WrR) (es : Edges) (s : JS), k <= m /\ i = .int .i64 k /\ JI wr lim J grace ws es s /\ Below lim w3 wr /\ RunI (L.map (·.1)) ys k ws es /\ ∀ r, RunC grace (L.map (·.1)) (ys.drop k) ws es r -> RunC grace (L.map (·.1)) ys [] [] r) (fun i _ => m - (intOf i).toNat)
 case atStart => exact ⟨0, [], [], _, Nat.zero_le _, rfl, An.o, Aq.o, RunI.start _ _, fun r h => h⟩
 obtain ⟨k, ws, es, s, hk, rfl, hj, hb, hri, hrc⟩ := hrel
 obtain ⟨HJ, HB, Af, Ag⟩ := kq4 hj hb hri hrc
 clear hj hb hri hrc An Aq
 by_cases hlt : k < m
 ·have hg2 : decide ((k : Int) < (m : Int)) = true := eT_ (by omega)
  have hkl : k < ys.length := by rw [HM.o]; exact hlt
  obtain ⟨y, hy⟩ : ∃ y, ys[k]? = some y := ⟨_, gE hkl⟩
  obtain ⟨x, hx, hx1, hx2⟩ := Ap.o.at_ y (mG hy)
  obtain ⟨⟨x', p⟩, hxp, hxe⟩ : ∃ z, L[y]? = some z /\ z.1 = x := by
   rw [gM] at hx
   obtain ⟨z, h1, h2⟩ := Option.map_eq_some_iff.1 hx
   exact ⟨z, h1, h2⟩
  obtain rfl : x' = x := hxe
  have hyn : y < n := by rw [<- HN.o]; exact (gS.1 hxp).1
  have hbw : Below w.heap.size w wr := Al.o.trans (HB.o.mono Aa.o)
  have hszr : lim <= wr.heap.size := Ad.o ▸ HB.o.size
  obtain ⟨b, off, hA, hbB, hck, hok⟩ := (HL.o.row.below hbw (lR _)) y (x', p) hxp
  have hmem := mG hxp
  have hsm := HL.o.small _ hmem
  obtain ⟨hrg, htm⟩ := HL.o.rng _ hmem
  have hcap := HL.o.cap _ hmem
  have hcy : ∃ g, pv = some ⟨g, 0, none⟩ /\ wr.cell? ⟨g, k, none⟩ = some (.int .i64 (y : Nat)) := by
   rcases id Am.o.2 with ⟨h, h1⟩ | ⟨g, cap', cur, hv, hbase, hh, _⟩
   ·omega
   cases hv
   refine ⟨g, rfl, ?_⟩
   have hgl : g < lim := Ad.o ▸ (Array.getElem?_eq_some_iff.1 hh).1
   rw [HB.o.cell (p := ⟨g, k, none⟩) hgl, Am.o.cellAt k (by omega)]
   rw [gM, hy]
   rfl
  obtain ⟨g, rfl, hcy⟩ := hcy
  subst hA
  have Ak := kp (show ys.drop k = y :: ys.drop (k + 1) by rw [List.drop_eq_getElem_cons hkl]; rw [gE hkl] at hy; rw [Option.some.inj hy])
  obtain ⟨er, her⟩ := eY x'.resp.err
  have hc14 : wr.cell? ⟨b, off + y * 23 + 14, none⟩ = some (.int .i64 er) := her ▸ hck 14 _ rfl
  obtain ⟨Ac, HX, HF, HD, As⟩ := kq5 her hx (fun (he : x'.resp.err = 0) => fault72 J grace ws s.ps x' p wr HJ.o.rd.1 HJ.o.rd.2 (hok.mono (lT Aa.o hszr)) (k1_ hx1 hx2 he hrg) hcap) (fun (he : x'.resp.err = 0) (hf : aH_ grace ws x' = 0) (wf : World) (hwf : Below wr.heap.size wr wf) => do73 wf lim J grace ws es s (HJ.o.below hwf) x' p ((hok.mono Aa.o).below hwf hszr) (ly_ Af.o (by omega) hx1 hx2 hrg htm hf) (fun _ z hz _ => Af.o.now hy hx z hz)) (fun (ws' : List WrR) (es' : Edges) (hd : DoS x' ws es ws' es') => Af.o.step Ap.o hy hx hd)
  have hblt : b < wr.heap.size := lL hbB (lT Aa.o hszr)
  have Ae := kp hck
  obtain ⟨LX, hLX⟩ := eY (callC x' p)
  have HZ := kp (show (Tryz.prog.info? 52).map (·.size) = some LX.length by rw [<- hLX]; show _ = some 23; kernel_rfl)
  dsimp only at Ae HF HD
  rw [hLX] at Ae HF HD
  obtain ⟨fl, hfl⟩ := eY (aH_ grace ws x')
  rw [hfl] at HF
  have Ah := kp hfl
  unfold ptV at HF HD
  clear hck hok hmem hsm hrg htm hcap hx hxp her hLX hx1 hx2 hy hfl
  by_cases h0 : er = 0
  ·subst h0
   by_cases hf0 : fl = 0
   ·subst hf0
    go_wp2_with (first
     | ((with_reducible refine wpList_load_agg (o := ⟨some 45, _, _, _, _, _⟩) rfl 52 _ rfl ⟨b, off + y * 23, none⟩ ?_ LX _ Ae.o Tryz.underlying52 rfl HZ.o ?_); (· rfl))
     | ((with_reducible refine wpList_load_agg (o := ⟨some 55, _, _, _, _, _⟩) rfl 52 _ rfl ⟨b, off + y * 23, none⟩ ?_ LX _ (Ae.o.below hbf hblt) Tryz.underlying52 rfl HZ.o ?_); (· rfl))
     | (go_at_call 72; refine (HF.o Ac.o).mono ?_; rintro e wf ⟨rfl, hbf⟩)
     | (go_at_call 73; refine (HD.o Ac.o Ah.o _ hbf).mono ?_; rintro e wd ⟨rfl, ws', es', s', hds, hjd, hbd⟩))
    go_roundw
    case rel => exact ⟨k + 1, ws', es', s', by omega, by go_num, hjd, HB.o.trans ((hbf.mono hszr).trans hbd), As.o ws' es' hds, fun r h => Ag.o r (by rw [Ak.o]; exact RunC.go HX.o Ac.o Ah.o hds h)⟩
    simp [intOf]; omega
   have g4 : (fl != 0) = true := by simpa using hf0
   go_wp2_with (first
    | ((with_reducible refine wpList_load_agg (o := ⟨some 45, _, _, _, _, _⟩) rfl 52 _ rfl ⟨b, off + y * 23, none⟩ ?_ LX _ Ae.o Tryz.underlying52 rfl HZ.o ?_); (· rfl))
    | (go_at_call 72; refine (HF.o Ac.o).mono ?_; rintro e wf ⟨rfl, hbf⟩))
   go_ret3
   refine ⟨fun h => absurd Ab.o h, fun _ => ⟨some (y, fl), ⟨ys, Ai.o, Ag.o _ ?_⟩, rfl⟩, Al.o.trans ((HB.o.mono Aa.o).trans (hbf.mono (lT Aa.o hszr)))⟩
   rw [Ak.o, <- Ah.o]
   exact RunC.flt HX.o Ac.o (by rw [Ah.o]; exact hf0)
  have g3 : (er != 0) = true := by simpa using h0
  go_wp2
  go_roundw
  case rel => exact ⟨k + 1, ws, es, s, by omega, by go_num, HJ.o, HB.o, Af.o.skip, fun r h => Ag.o r (by rw [Ak.o]; exact RunC.skip HX.o (by rw [Ac.o]; exact h0) h)⟩
  simp [intOf]; omega
 obtain rfl : k = m := by omega
 have hg2 : decide ((k : Int) < (k : Int)) = false := by simp
 go_wp2
 go_ret3
 refine ⟨fun h => absurd Ab.o h, fun _ => ⟨none, ⟨ys, Ai.o, Ag.o _ ?_⟩, rfl⟩, Al.o.trans (HB.o.mono Aa.o)⟩
 rw [List.drop_eq_nil_of_le (by rw [HM.o]; exact lR _)]
 exact RunC.done
set_option maxHeartbeats 8000000
def SaysG (S : List SaidE) : Prop := ∀ i x, S[i]? = some x -> CallS (a9_ i x.1) /\ Rng (a9_ i x.1) /\ IsT x.1.tim
theorem callOk_of {w : World} {B i : Nat} {s : SaidR} {p : CallV} (h : SaidOk w B s p) : CallOk w B (a9_ i s) p /\ CapI (a9_ i s) p := ⟨h.1, h.2⟩
theorem kA_ {w : World} {base : Nat} {v : Value} {L : List (CallR × CallV)} (h : w.ownsRow base 52 23 v L.length (callsV L)) : ∃ A c, v = .slice A L.length c /\ RowC w w.heap.size A L := by
 rcases h.2 with ⟨rfl, h0⟩ | ⟨g, cap, cur, rfl, hbase, hh, hnc, hcm, hcs, htake⟩
 ·refine ⟨none, 0, by rw [h0], fun i x hi => ?_⟩
  rw [List.length_eq_zero_iff.1 h0] at hi
  simp at hi
 refine ⟨_, cap, rfl, fun i x hi => ⟨g, 0, rfl, (Array.getElem?_eq_some_iff.1 hh).1, fun j u hu => ?_⟩⟩
 have hi2 := (gS.1 hi).1
 have hj2 : j < 23 := (gS.1 hu).1
 have h1 : (callsV L)[i * 23 + j]? = some u := k2_ (L := L) hi hu
 rw [<- htake, List.getElem?_take_of_lt (by omega)] at h1
 rw [show (⟨g, 0 + i * 23, none⟩ : Addr).add j = ⟨g, i * 23 + j, none⟩ by simp [Addr.add]]
 simp only [World.cell?, hh, Option.isSome_none, Bool.false_eq_true, if_false]
 rw [<- Array.getElem?_toList, h1]
theorem rowG_ses {w w' : World} {base n : Nat} {S : List SaidE} {u : Value} (hn : S.length = n) (hn2 : n <= 1000) (hok : ∀ x ∈ S, SaidOk w base x.1 x.2) (hg : SaysG S) (hb : Below base w w') (hbs : base <= w'.heap.size) {B : Nat} (ho : w'.ownsRow B 52 23 u n (callsV (sesC S))) :
  ∃ A c, u = .slice A n c /\ RowG w' A (sesC S) := by
 have hl := dZ_ S
 rw [hn] at hl
 rw [<- hl] at ho
 obtain ⟨A, c, hu, hr⟩ := kA_ ho
 rw [hl] at hu
 have hat : ∀ i x, (sesC S)[i]? = some x -> ∃ s, S[i]? = some s /\ x = (a9_ i s.1, s.2) := fun i x hi => by
  unfold sesC at hi
  rw [List.getElem?_mapIdx] at hi
  obtain ⟨s, h1, h2⟩ := Option.map_eq_some_iff.1 hi
  exact ⟨s, h1, h2.symm⟩
 refine ⟨A, c, hu, ⟨fun i x hi => ?_, fun x hx => ?_, fun x hx => ?_, fun x hx => ?_, by rw [hl]; omega⟩⟩
 ·obtain ⟨b, off, h1, h2, h3⟩ := hr i x hi
  obtain ⟨s, h4, rfl⟩ := hat i x hi
  exact ⟨b, off, h1, h2, h3, ((callOk_of (i := i) (hok s (mG h4))).1.below hb (lR _)).mono hbs⟩
 ·obtain ⟨i, hi⟩ := mI.1 hx
  obtain ⟨s, h4, rfl⟩ := hat i x hi
  exact (hg i s h4).1
 ·obtain ⟨i, hi⟩ := mI.1 hx
  obtain ⟨s, h4, rfl⟩ := hat i x hi
  exact (hg i s h4).2
 obtain ⟨i, hi⟩ := mI.1 hx
 obtain ⟨s, h4, rfl⟩ := hat i x hi
 exact (callOk_of (i := i) (hok s (mG h4))).2
theorem checks70 (S : List SaidE) (v : Value) (n base : Nat) (a f : Int) (w : World) (hn : S.length = n) (hn2 : n <= 1000) (ho : w.ownsRow base 73 17 v n (S.flatMap fun x => saidL x.1 x.2)) (hb : base <= w.heap.size)
  (h1 : ∀ x ∈ S, ∀ u ∈ saidL x.1 x.2, u.oneCell' = true) (hok : ∀ x ∈ S, SaidOk w base x.1 x.2) (hg : SaysG S) (hv : ValidP singleB ((sesC S).map (·.1))) (r : Option (Nat × Int)) (hr : ChkP 5 (sesC S) r) (ha : atR r = a) (hf : fltR r = f) :
  Calls Tryz.prog 70 #[.int .i64 a, .int .i64 f, v] w fun e w' => e = .returned (.bool true) /\ Kept v.ownBlock.toList w w' := by
 have H32 := kp (kf_ S v n base w hn hn2 ho hb h1)
 have Aa := kp (fun (b : Nat) (h : b ∈ v.ownBlock.toList) => (show base <= b from (ho.lt b (by simpa using h)).1))
 have H30 := kp (fun (w5 : World) (u : Value) (hu : w5.ownsRow w.heap.size 52 23 u n (callsV (sesC S))) (hk : Kept v.ownBlock.toList w w5) => (show ∃ A c, u = .slice A n c /\ Calls Tryz.prog 30 #[.agg #[.int .i64 0, .int .i64 0, .int .i64 0, .int .i64 0, .int .i64 0, .int .u64 5, .int .u64 0], .slice A n c] w5 (fun e w' => e = .returned (.tuple #[.int .i64 a, .int .i64 f, .int .i64 0]) /\ Bw w5 w') from by
  obtain ⟨A, c, hu2, hrg⟩ := rowG_ses hn hn2 hok hg (hk.below hb Aa.o) (lT hb hk.size) hu
  refine ⟨A, c, hu2, (check30 [.int .i64 0, .int .i64 0, .int .i64 0, .int .i64 0, .int .i64 0, .int .u64 5, .int .u64 0] 5 (by unfold IsT; omega) rfl (sesC S) A n c w5 (by rw [dZ_, hn]) hrg).mono ?_⟩
  rintro e w' ⟨-, h2, h3⟩
  obtain ⟨r', h4, rfl⟩ := h2 hv
  obtain rfl := hr.fun h4
  rw [ha, hf]
  exact ⟨rfl, h3⟩))
 clear hn ho h1 hok hg hv hr ha hf
 go_enter Tryz.func70, Tryz.ntmps70
 have hea : (a == a) = true := by simp
 have hef : (f == f) = true := by simp
 go_wp2_with (first
  | (go_at_call 32; refine H32.o.mono ?_; rintro e w5 ⟨u, rfl, hu, hk⟩; obtain ⟨A, c, rfl, h30⟩ := H30.o w5 u hu hk)
  | (go_at_call 30; refine h30.mono ?_; rintro e w7 ⟨rfl, hb7⟩))
 go_ret
 exact ⟨rfl, hk.trans ((Kept.of_below (L := []) hb7).mono (by simp))⟩
def sesR (S : List SaidR) : List CallR := S.mapIdx a9_
theorem iA_ (S : List SaidE) : (sesC S).map (·.1) = sesR (S.map (·.1)) := by
 unfold sesC sesR
 apply List.ext_getElem?
 intro j
 rw [gM, List.getElem?_mapIdx, List.getElem?_mapIdx, gM]
 cases S[j]? <;> rfl
theorem kg_ {S : List SaidR} {i : Nat} {x : CallR} (h : (sesR S)[i]? = some x) : ∃ s, S[i]? = some s /\ x = a9_ i s := by
 unfold sesR at h
 rw [List.getElem?_mapIdx] at h
 obtain ⟨s, h1, h2⟩ := Option.map_eq_some_iff.1 h
 exact ⟨s, h1, h2.symm⟩
theorem split_at {α : Type} {l pre post : List α} {x : α} (h : l = pre ++ x :: post) : l[pre.length]? = some x /\ (∀ j, j < pre.length -> l[j]? = pre[j]?) := by
 subst h
 refine ⟨by simp, fun j hj => ?_⟩
 rw [aL hj]
theorem jg_ {i : Nat} {s : SaidR} (hi : i < 1000) (h1 : aJ_ s.cmd = true) (h2 : aX_ { s.resp with op := s.cmd.op } = true) : singleB (a9_ i s) = true := by
 refine ba_ ?_ ?_ ?_
 ·unfold rngB a9_ bZ_
  simp only [Bool.and_eq_true, decide_eq_true_eq]
  refine ⟨⟨by omega, by omega⟩, ⟨by omega, by omega⟩, ⟨by omega, by omega⟩, ⟨by omega, by omega⟩⟩
 ·unfold ordB
  refine eT_ ?_
  show ¬ (0 <= 3 * (i : Int) + 1 /\ 3 * (i : Int) + 1 <= 3 * (i : Int)) /\ ¬ (0 <= 3 * (i : Int) + 2 /\ (3 * (i : Int) + 2 <= 3 * (i : Int) ∨ 3 * (i : Int) + 2 <= 3 * (i : Int) + 1))
  omega
 unfold cntB a9_
 simp only [Bool.false_eq_true, if_false]
 rw [if_neg (by omega), h1, h2]
 simp
theorem j4_ {S : List SaidR} (hn : S.length <= 1000) (h1 : ∀ s ∈ S, aJ_ s.cmd = true /\ aX_ { s.resp with op := s.cmd.op } = true) (ht : S.Pairwise fun a b => a.tim <= b.tim) : ValidP singleB (sesR S) := by
 have hl : (sesR S).length = S.length := by simp [sesR]
 have key : ∀ pre x post, sesR S = pre ++ x :: post -> (∃ s, S[pre.length]? = some s /\ x = a9_ pre.length s /\ pre.length < 1000) /\ ∀ (j : Nat) (y : CallR), pre[j]? = some y -> j < pre.length /\ ∃ t, S[j]? = some t /\ y = a9_ j t := fun pre x post e => by
  obtain ⟨h2, h3⟩ := split_at e
  obtain ⟨s, h4, h5⟩ := kg_ h2
  have h6 := (gS.1 h4).1
  refine ⟨⟨s, h4, h5, by omega⟩, fun j y hj => ?_⟩
  have hjl := (gS.1 hj).1
  obtain ⟨t, h7, h8⟩ := kg_ ((h3 j hjl).trans hj)
  exact ⟨hjl, t, h7, h8⟩
 have keym : ∀ pre x post, sesR S = pre ++ x :: post -> ∀ y ∈ pre, ∃ (j : Nat) (t : SaidR), j < pre.length /\ S[j]? = some t /\ y = a9_ j t := fun pre x post e y hy => by
  obtain ⟨j, hj⟩ := mI.1 hy
  obtain ⟨h2, t, h3, h4⟩ := (key pre x post e).2 j y hj
  exact ⟨j, t, h2, h3, h4⟩
 have keyl : ∀ pre x post, sesR S = pre ++ x :: post -> ∀ y, pre.getLast? = some y -> ∃ t, y = a9_ (pre.length - 1) t /\ 0 < pre.length := fun pre x post e y hy => by
  rw [List.getLast?_eq_getElem?] at hy
  obtain ⟨h2, t, h3, h4⟩ := (key pre x post e).2 _ y hy
  exact ⟨t, h4, by omega⟩
 have keyf : ∀ pre x post, sesR S = pre ++ x :: post -> pre.filter (fun y => y.ses == (0 : Int)) = pre := fun pre x post e => by
  rw [List.filter_eq_self]
  intro y hy
  obtain ⟨j, t, _, _, rfl⟩ := keym pre x post e y hy
  rfl
 refine ⟨by omega, fun pre x post e => ?_, fun pre x post e y hy => ?_⟩
 ·obtain ⟨⟨s, h2, rfl, h4⟩, _⟩ := key pre x post e
  have h5 := h1 s (mG h2)
  refine ⟨jg_ h4 h5.1 h5.2, fun y hy => ?_, fun n hn hn0 y hy => ?_, ?_, fun y hy _ => ?_, fun y hy => ?_⟩
  ·obtain ⟨t, rfl, h6⟩ := keyl pre _ post e y hy
   show 3 * ((pre.length - 1 : Nat) : Int) < 3 * (pre.length : Int)
   omega
  ·obtain ⟨j, t, h6, _, rfl⟩ := keym pre _ post e y hy
   show n ≠ 3 * (j : Int) /\ n ≠ 3 * (j : Int) + 1 /\ n ≠ 3 * (j : Int) + 2
   have hn : n = 3 * (pre.length : Int) ∨ n = 3 * (pre.length : Int) + 1 ∨ n = 3 * (pre.length : Int) + 2 := by
    simp only [List.mem_cons, List.not_mem_nil, or_false] at hn
    exact hn
   omega
  ·show ((pre.length : Nat) : Int) = ((pre.filter fun y => y.ses == (0 : Int)).length : Int)
   rw [keyf pre _ post e]
  ·obtain ⟨j, t, h6, _, rfl⟩ := keym pre _ post e y hy
   show 0 <= 3 * (j : Int) + 2
   omega
  have hf : (pre.filter fun y => y.ses == (a9_ pre.length s).ses) = pre := keyf pre _ post e
  rw [hf] at hy
  obtain ⟨t, rfl, h6⟩ := keyl pre _ post e y hy
  show 3 * ((pre.length - 1 : Nat) : Int) + 2 < 3 * (pre.length : Int)
  omega
 obtain ⟨⟨s, h2, rfl, h4⟩, _⟩ := key pre x post e
 obtain ⟨j, t, h6, h7, rfl⟩ := keym pre _ post e y hy
 intro _ _
 have hs := (gS.1 h2)
 have ht2 := (gS.1 h7)
 have h8 := (List.pairwise_iff_getElem.1 ht) j pre.length ht2.1 hs.1 h6
 rw [hs.2, ht2.2] at h8
 refine ⟨fun _ => h8, fun h9 => ?_⟩
 have h9 : 3 * (pre.length : Int) + 1 < 3 * (j : Int) + 1 := h9
 omega
theorem coms_ses {S : List SaidE} : aO_ (toL (sesC S)) = some (List.range S.length) := by
 have hat : ∀ i, i < S.length -> ∃ s : SaidE, (sesC S)[i]? = some (a9_ i s.1, s.2) := fun i hi => by
  unfold sesC
  rw [List.getElem?_mapIdx, gE hi]
  exact ⟨_, rfl⟩
 have hlen : (toL (sesC S)).length = S.length := by rw [lM_, dZ_]
 have hdn : cO_ (toL (sesC S)) = List.range S.length := by
  unfold cO_
  rw [hlen, List.filter_eq_self]
  intro i hi
  rw [List.mem_range] at hi
  obtain ⟨s, hs⟩ := hat i hi
  rw [gM, hs]
  show decide (0 <= 3 * (i : Int) + 1) = true
  simp
  omega
 refine b6_ ⟨by rw [hdn], ?_⟩
 rw [List.pairwise_iff_getElem]
 intro i j hi hj hij
 simp only [List.getElem_range]
 rw [List.length_range] at hi hj
 obtain ⟨s, hs⟩ := hat i hi
 obtain ⟨t, ht⟩ := hat j hj
 rw [e0_ hs, e0_ ht]
 show 3 * (i : Int) + 1 < 3 * (j : Int) + 1
 omega
theorem chg_of {es : Edges} {k : ByteArray} {T : List ByteArray} (ws : List WrR) (h1 : k ∈ T) (h2 : ∀ a ∈ T, ∀ c ∈ kids es a, c ∈ T) (h3 : ∀ t ∈ T, t = k ∨ t ∈ kids es k) : ChgS es k ws (a2_ T ws) :=
 ⟨T, fun y => ⟨fun hy => by
  rcases h3 y hy with rfl | h
  ·exact Reach.refl _ _
  exact Reach.kid h, fun hy => hy.closed h1 h2⟩, rfl⟩
def doX (x : CallR) (ws : List WrR) (es : Edges) : List WrR × Edges :=
 let T := x.cmd.key :: kids es x.cmd.key
 let m : List WrR × Edges := if x.cmd.op = 1 ∨ x.cmd.op = 2 ∨ x.cmd.op = 3 then (a2_ T ws ++ [newW x], es)
  else if x.cmd.op = 6 then (if x.resp.count = 1 then ed_ ws x.cmd.key (addT x.tim x.cmd.life) else ws, es)
  else if x.cmd.op = 7 /\ x.resp.count = 1 ∨ x.cmd.op = 13 then (a2_ T ws, es)
  else if x.cmd.op = 11 ∨ x.cmd.op = 12 then (ws, depE x es)
  else (ws, es)
 (m.1.map (swp x), m.2)
def flatE (es : Edges) (k : ByteArray) : Bool := (k :: kids es k).all fun a => (kids es a).all fun c => hasS (k :: kids es k) c
theorem doX_is {x : CallR} {ws : List WrR} {es : Edges} (h : flatE es x.cmd.key = true) : DoS x ws es (doX x ws es).1 (doX x ws es).2 := by
 have hc := chg_of ws (es := es) (k := x.cmd.key) (T := x.cmd.key :: kids es x.cmd.key) (by simp) (fun a ha c hc => hasS_iff.1 (List.all_eq_true.1 (List.all_eq_true.1 h a ha) c hc)) (fun t ht => by simpa using ht)
 unfold DoS doX MidS
 dsimp only
 split
 ·exact ⟨_, ⟨rfl, _, hc, rfl⟩, rfl⟩
 split
 ·exact ⟨_, ⟨rfl, rfl⟩, rfl⟩
 split
 ·exact ⟨_, ⟨rfl, hc⟩, rfl⟩
 split
 ·exact ⟨_, ⟨rfl, rfl⟩, rfl⟩
 exact ⟨_, ⟨rfl, rfl⟩, rfl⟩
def runX (grace : Int) (cs : List CallR) : List Nat -> List WrR -> Edges -> Option (Option (Nat × Int))
 | [], _, _ => some none
 | y :: ys, ws, es => match cs[y]? with
  | none => none
  | some x => if x.resp.err ≠ 0 then runX grace cs ys ws es else if aH_ grace ws x ≠ 0 then some (some (y, aH_ grace ws x)) else if flatE es x.cmd.key = true then runX grace cs ys (doX x ws es).1 (doX x ws es).2 else none
theorem hI_ {grace : Int} {cs : List CallR} : ∀ {ys : List Nat} {ws : List WrR} {es : Edges} {r : Option (Nat × Int)}, runX grace cs ys ws es = some r -> RunC grace cs ys ws es r
 | [], _, _, r, h => by
  unfold runX at h
  cases h
  rfl
 | y :: ys, ws, es, r, h => by
  unfold runX at h
  cases hx : cs[y]? with
  | none => rw [hx] at h; cases h
  | some x =>
   rw [hx] at h
   dsimp only at h
   by_cases h1 : x.resp.err ≠ 0
   ·rw [if_pos h1] at h
    exact RunC.skip hx h1 (hI_ h)
   rw [if_neg h1] at h
   have h1' : x.resp.err = 0 := by simpa using h1
   by_cases h2 : aH_ grace ws x ≠ 0
   ·rw [if_pos h2] at h
    cases h
    exact RunC.flt hx h1' h2
   rw [if_neg h2] at h
   by_cases h3 : flatE es x.cmd.key = true
   ·rw [if_pos h3] at h
    exact RunC.go hx h1' (by simpa using h2) (doX_is h3) (hI_ h)
   rw [if_neg h3] at h
   cases h
theorem chk_ses {grace : Int} {S : List SaidE} {r : Option (Nat × Int)} (h : runX grace (sesR (S.map (·.1))) (List.range S.length) [] [] = some r) : ChkP grace (sesC S) r :=
 ⟨_, coms_ses, by rw [iA_]; exact hI_ h⟩
def bX : ByteArray := ⟨#[120]⟩
def bY : ByteArray := ⟨#[121]⟩
def bT : ByteArray := ⟨#[116]⟩
def bB : ByteArray := ⟨#[98]⟩
def c0 (op : Int) (key tag pre chi : ByteArray) : CmdR := ⟨op, key, [], [], [], 0, 0, tag, pre, chi⟩
def eB0 : ByteArray := ⟨#[]⟩
def exS : SaidR := setS bX 1 0 [bT]
def exG : SaidR := getS 1 bX 1 3
def exTag : SaidR := otherS (c0 8 eB0 bT eB0 eB0) 1
def exPre : SaidR := otherS (c0 10 eB0 eB0 kA eB0) 1
def exFlush : SaidR := otherS (c0 14 eB0 eB0 eB0 eB0) 1
def iV_ : SaidR := otherS (c0 9 eB0 bT eB0 eB0) 1
def exDep : SaidR := otherS (c0 11 bB eB0 eB0 kA) 0
def exInv : SaidR := otherS (c0 13 bB eB0 eB0 eB0) 1
theorem run1 : runX 5 (sesR [exS, exG]) (List.range 2) [] [] = some none := by decide +kernel
theorem run2 : runX 5 (sesR [exS, exTag, exG]) (List.range 3) [] [] = some (some (2, 2)) := by decide +kernel
theorem run3 : runX 5 (sesR [exS, exPre, exG]) (List.range 3) [] [] = some (some (2, 2)) := by decide +kernel
theorem run4 : runX 5 (sesR [exS, exFlush, exG]) (List.range 3) [] [] = some (some (2, 2)) := by decide +kernel
theorem run5 : runX 5 (sesR [exS, iV_, exG]) (List.range 3) [] [] = some (some (2, 4)) := by decide +kernel
theorem run6 : runX 5 (sesR [exS, iV_, getS 2 bX 1 3]) (List.range 3) [] [] = some none := by decide +kernel
theorem run7 : runX 5 (sesR [exS, iV_, getS 2 bX 1 6]) (List.range 3) [] [] = some (some (2, 4)) := by decide +kernel
theorem run8 : runX 5 (sesR [exS, iV_, setS bY 2 2 [], getS 2 bX 1 3]) (List.range 4) [] [] = some (some (3, 3)) := by decide +kernel
theorem run9 : runX 5 (sesR [exDep, exS, exInv, exG]) (List.range 4) [] [] = some (some (3, 3)) := by decide +kernel
theorem run10 : runX 5 (sesR [setS bX 2 0 []]) (List.range 1) [] [] = some (some (0, 1)) := by decide +kernel
theorem run11 : runX 5 (sesR [exS, getS 1 bY 1 3]) (List.range 2) [] [] = some (some (1, 1)) := by decide +kernel
def okS (s : SaidR) : Bool :=
 aJ_ s.cmd && aX_ { s.resp with op := s.cmd.op } &&
 decide (s.cmd.keys.length <= 100 /\ s.cmd.tags.length <= 100 /\ s.resp.items.length <= 100 /\ s.resp.nums.length <= 100 /\ s.cmd.key.size <= 3000 /\ s.cmd.val.length <= 3000 /\ s.cmd.tag.size <= 3000 /\ s.cmd.pre.size <= 3000 /\ s.cmd.chi.size <= 3000) &&
 (s.cmd.keys.all (fun x => decide (x.size <= 3000)) && s.cmd.tags.all (fun x => decide (x.size <= 3000)) && s.resp.items.all (fun x => decide (x.val.length <= 3000) && x.val.all (fun y => decide (0 <= y /\ y < 256)) && decide (0 <= x.ver /\ x.ver < 18446744073709551616) && decide (0 <= x.dead /\ x.dead < 18446744073709551616) && decide (-9223372036854775808 <= x.mark /\ x.mark < 9223372036854775808))) &&
 (s.cmd.val.all (fun y => decide (0 <= y /\ y < 256)) && s.resp.nums.all (fun y => decide (0 <= y /\ y < 18446744073709551616))) &&
 decide ((0 <= s.cmd.life /\ s.cmd.life < 18446744073709551616) /\ (0 <= s.cmd.ver /\ s.cmd.ver < 18446744073709551616) /\ (0 <= s.resp.ver /\ s.resp.ver < 18446744073709551616) /\ (-9223372036854775808 <= s.resp.count /\ s.resp.count < 9223372036854775808) /\ (-9223372036854775808 <= s.resp.err /\ s.resp.err < 9223372036854775808) /\ (-9223372036854775808 <= s.cmd.op /\ s.cmd.op < 9223372036854775808) /\ (0 <= s.tim /\ s.tim < 18446744073709551616))
theorem okS_is {s : SaidR} (h : okS s = true) : (aJ_ s.cmd = true /\ aX_ { s.resp with op := s.cmd.op } = true) /\ ∀ i, CallS (a9_ i s) /\ Rng (a9_ i s) /\ IsT s.tim := by
 unfold okS at h
 simp only [Bool.and_eq_true, decide_eq_true_eq, List.all_eq_true] at h
 obtain ⟨⟨⟨⟨⟨h1, h2⟩, a1, a2, a3, a4, a5, a6, a7, a8, a9⟩, ⟨b1, b2⟩, b3⟩, d1, d2⟩, e1, e2, e3, e4, e5, e6, e7⟩ := h
 refine ⟨⟨h1, h2⟩, fun i => ?_⟩
 have hr : Rng (a9_ i s) := ⟨d1, e1, e2, fun y hy => (b3 y hy).1.1.1.2, e3, d2, fun y hy => (b3 y hy).1.1.2, fun y hy => (b3 y hy).1.2, e4, fun y hy => (b3 y hy).2, e5, e6⟩
 exact ⟨callS_of (x := a9_ i s) ⟨a1, a2, a3, a4, a5, a6, a7, a8, a9, b1, b2, fun y hy => (b3 y hy).1.1.1.1⟩ hr, hr, e7⟩
theorem ex_ok {S : List SaidE} (hn : S.length <= 1000) (h : (S.map (·.1)).all okS = true) (ht : (S.map (·.1)).Pairwise fun a b => a.tim <= b.tim) : SaysG S /\ ValidP singleB ((sesC S).map (·.1)) := by
 rw [List.all_eq_true] at h
 refine ⟨fun i x hi => (okS_is (h x.1 (List.mem_map_of_mem (mG hi)))).2 i, ?_⟩
 rw [iA_]
 exact j4_ (by simpa using hn) (fun s hs => (okS_is (h s hs)).1) ht
end Go.Proofs.YtnjhpgmbfblgaaaGreat.Ord
