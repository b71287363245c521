/- Walk of the reference's Check; A session of what was said: its walk; What the examples. -/
import Derived.Test.YtnjhpgmbfblgaaaGreatMU79
import Derived.Test.YtnjhpgmbfblgaaaGreatV5
import Derived.Test.YtnjhpgmbfblgaaaGreatMU26
import Derived.Test.YtnjhpgmbfblgaaaGreatU35
import Derived.OwnWalk
import Derived.Test.YtnjhpgmbfblgaaaGreatMU37
import Derived.Deep.DeepCutAuto
import Derived.Deep.CutBlock
import Derived.Deep.RegionHeld
set_option linter.unusedVariables false
set_option linter.unusedSimpArgs false
namespace Go.Proofs.YtnjhpgmbfblgaaaGreat.Ord
open Go.RowKit
set_option maxRecDepth 100000
set_option maxHeartbeats 4000000
theorem KI.start (w : World) (lim : LimP) (K : Nat) (grace : Int) (hg : IsT grace) (hr : RowL w K 145 [.int .u64 grace, .slice none 0 0, .slice none 0 0]) (hK : lim.n <= K) (hw : lim.n <= w.heap.size) (hf : ∀ g l, lim.fx = some (g, l) -> RowL w g 3 l) :
  KI w lim K grace [] [] ⟨.slice none 0 0, .slice none 0 0, fun _ => (.slice none 0 0, .slice none 0 0)⟩ :=
 ⟨hr, hg, World.ownsRow_nil _ _ _ _, World.ownsRow_nil _ _ _ _, by simp, by simp, fun x hx => (by simp at hx), fun i x hi => (by simp at hi), fun i x hi => (by simp at hi), hK, hw, hf⟩
theorem fix_of {w : World} {base m c : Nat} {p : Option Addr} {ys : List Nat} (h : w.ownsRow base 3 1 (.slice p m c) m (ys.map fun (x : Nat) => Value.int .i64 (x : Int))) (hm : ys.length = m) :
  ∃ fx : Option (Nat × List Value), (∀ g l, fx = some (g, l) -> RowL w g 3 l) /\ (0 < m -> ∃ g l, fx = some (g, l) /\ p = some ⟨g, 0, none⟩ /\ ∀ (k y : Nat), ys[k]? = some y -> l[k]? = some (Value.int .i64 (y : Int))) := by
 rcases h.2 with ⟨h1, h0⟩ | ⟨g, cap, cur, hv, hbase, hh, hnc, hcm, hcs, htake⟩
 ·exact ⟨none, fun g l e => (by cases e), fun h2 => by omega⟩
 cases hv
 refine ⟨some (g, cur.toList), fun g' l e => ?_, fun _ => ⟨g, _, rfl, rfl, fun k y hy => ?_⟩⟩
 ·cases e
  exact ⟨cur, hh, by simp, fun i hi => by
   have hi' : i < cur.size := by simpa using hi
   simp [au_, hi']⟩
 have hk := (gS.1 hy).1
 have h3 : (cur.toList.take (m * 1))[k]? = some (.int .i64 (y : Nat)) := by
  rw [htake, gM, hy]
  rfl
 rw [List.getElem?_take_of_lt (by omega)] at h3
 exact h3
theorem refCheck31 (grace : Int) (hgr : IsT grace) (L : List (CallR × CallV)) (A : Option Addr) (n c : Nat) (w : World) (hn : L.length = n) (hL : RowG w A L) :
  Calls Tryz.prog 31 #[.int .u64 grace, .slice A n c] w (lF_ grace L w (.bool false) (.bool true)) := by
 obtain ⟨HL, Bd⟩ := kq2 hL hgr
 have hn4 : n <= 4096 := hn ▸ hL.len
 have HN := kp hn
 have hONE : ∀ y ∈ L, ∀ v ∈ callC y.1 y.2, v.oneCell' = true := fun y hy => by
  obtain ⟨i, hi⟩ := mI.1 hy
  obtain ⟨_, _, _, _, _, hok⟩ := hL.row i y hi
  exact cD_ hok
 have Ae := kp hONE
 have hv := valid22 L A n c w hn (by unfold maxLen; omega) hL.row hL.small
 clear hL hn hgr hONE
 by_cases hval : ValidP singleB (L.map (·.1))
 case neg =>
  have Ab := kp hval
  have HV := kp (hv.mono (R' := fun e w' => e = Ending.returned (.bool false) /\ Below w.heap.size w w') fun e w' ⟨b, h1, h2, h3⟩ => (show e = Ending.returned (.bool false) /\ Below w.heap.size w w' from ⟨by rw [h1]; cases b; rfl; exact absurd (h2.1 rfl) Ab.o, h3⟩))
  clear hv hval
  go_enter Tryz.func31, Tryz.ntmps31
  go_wp2_with (go_at_call 22; refine HV.o.mono ?_; rintro e w1 ⟨rfl, hb1⟩)
  go_ret3
  exact ⟨fun _ => rfl, fun h => absurd h Ab.o, hb1⟩
 have Ab := kp hval
 have HV := kp (hv.mono (R' := fun e w' => e = Ending.returned (.bool true) /\ Below w.heap.size w w') fun e w' ⟨b, h1, h2, h3⟩ => (show e = Ending.returned (.bool true) /\ Below w.heap.size w w' from ⟨by rw [h1, h2.2 Ab.o], h3⟩))
 obtain ⟨ys, hys, hcs, hyl⟩ := lo_ hval
 obtain ⟨Al, At⟩ := kq2 hys hcs
 obtain ⟨m, hm⟩ := eY ys.length
 rw [hm, HN.o] at hyl
 have HM := kp hm
 have Bf := kp (fun (w1 : World) (hb1 : Below w.heap.size w w1) => (show Calls Tryz.prog 50 #[.slice A n c] w1 (fun e w3 => ∃ p cp, e = .returned (.tuple #[.slice p m cp, .int .i64 0]) /\ w3.ownsRow w1.heap.size 3 1 (.slice p m cp) m (ys.map fun (x : Nat) => Value.int .i64 (x : Int)) /\ Below w1.heap.size w1 w3) from by
  have h1 := fa_ A (toL L) c w1 (by rw [lM_, HN.o]; exact hn4) (eX_ (RowCO.mono (HL.o.row.below hb1 (lR _)) hb1.size) Ae.o)
  rw [lM_, HN.o] at h1
  refine h1.mono ?_
  rintro e w3 ⟨h2, -, h3⟩
  obtain ⟨v, rfl, h4⟩ := h2 ys Al.o
  obtain ⟨p, cp, rfl⟩ := ax_ h4
  rw [HM.o] at h4 ⊢
  exact ⟨p, cp, rfl, h4, h3⟩))
 clear hv hval hys hcs hm
 go_enter Tryz.func31, Tryz.ntmps31
 go_upto_region 4 with (go_at_call 22; refine HV.o.mono ?_; rintro e w1 ⟨rfl, hb1⟩)
 obtain ⟨W2, hW2⟩ := eY (w1.alloc (.cells #[.int .u64 grace, .slice none 0 0, .slice none 0 0] 145))
 rw [hW2]
 have hr2 : RowL W2 w1.heap.size 145 [.int .u64 grace, .slice none 0 0, .slice none 0 0] := by rw [<- hW2]; exact RowL.new w1 145 _
 have hb2 : Below w1.heap.size w1 W2 := by rw [<- hW2]; exact below1 w1 _
 obtain ⟨K, hK⟩ := eY w1.heap.size
 have hb02 : Below w.heap.size w W2 := hb1.trans (hb2.mono hb1.size)
 obtain ⟨Ag, Ax, Ap, Aj⟩ := kq4 hb1 hb2 hb02 hr2
 rw [hK] at Aj ⊢
 have Aq := kp hK
 clear hr2 hb2 hb1 hW2 hK hb02
 go_upto_region 5 with (go_at_call 50; refine (Bf.o _ Ap.o).mono ?_; rintro e w3 ⟨pv, cv, rfl, hown, hb3⟩)
 obtain ⟨fx, hf1, hf2⟩ := fix_of hown HM.o
 obtain ⟨lim, hlim⟩ : ∃ lim : LimP, lim = ⟨K, fx⟩ := ⟨_, rfl⟩
 have hln : lim.n = K := by rw [hlim]
 have hlf : lim.fx = fx := by rw [hlim]
 have hb13 : Below lim.n w1 w3 := by rw [hln, <- Aq.o]; exact Ax.o.trans (hb3.mono Ax.o.size)
 have hk0 := KI.start w3 lim K grace Bd.o (Aj.o.below hb3 Aj.o.lt) (by rw [hln]; exact lR _) (by rw [hln]; exact lT (Nat.le_of_lt Aj.o.lt) hb3.size) (by rw [hlf]; exact hf1)
 obtain ⟨Ar, Aw, Be, Ac, Bg⟩ := kq5 hk0 (show Below lim.n w1 w3 from hb13) (show 0 < m -> ∃ g l, lim.fx = some (g, l) /\ pv = some ⟨g, 0, none⟩ /\ ∀ (k y : Nat), ys[k]? = some y -> l[k]? = some (Value.int .i64 (y : Int)) by rw [hlf]; exact hf2) (show w.heap.size <= lim.n by rw [hln, <- Aq.o]; exact Ag.o.size) hln
 clear hown hb3 hf1 hf2 hlf hln hb13 hk0 hlim
 go_wp2
 go_loopw [10] (fun i wr => ∃ (k : Nat) (ws : List WrR) (es : Edges) (s : KS), k <= m /\ i = .int .i64 k /\ KI wr lim K grace ws es s /\ Below lim.n w1 wr /\ RunI (L.map (·.1)) ys k ws es /\ ∀ r, RunC grace (L.map (·.1)) (ys.drop k) ws es r -> RunC grace (L.map (·.1)) ys [] [] r) (fun i _ => m - (intOf i).toNat)
 case atStart => exact ⟨0, [], [], _, Nat.zero_le _, rfl, Ar.o, Aw.o, RunI.start _ _, fun r h => h⟩
 obtain ⟨k, ws, es, s, hk, rfl, hj, hb, hri, hrc⟩ := hrel
 obtain ⟨HJ, HB, Am, Ah⟩ := kq4 hj hb hri hrc
 clear hj hb hri hrc Ar Aw
 have hbw : Below w.heap.size w wr := Ag.o.trans (HB.o.mono Ac.o)
 have Av := kp hbw
 by_cases hlt : k < m
 ·have hg2 : decide ((k : Int) < (m : Int)) = true := eT_ (by omega)
  have hkl : k < ys.length := by rw [HM.o]; exact hlt
  obtain ⟨y, hy⟩ : ∃ y, ys[k]? = some y := ⟨_, gE hkl⟩
  obtain ⟨x, hx, hx1, hx2⟩ := At.o.at_ y (mG hy)
  obtain ⟨⟨x', p⟩, hxp, hxe⟩ : ∃ z, L[y]? = some z /\ z.1 = x := by
   rw [gM] at hx
   obtain ⟨z, h1, h2⟩ := Option.map_eq_some_iff.1 hx
   exact ⟨z, h1, h2⟩
  obtain rfl : x' = x := hxe
  have hyn : y < n := by rw [<- HN.o]; exact (gS.1 hxp).1
  have hszr : lim.n <= wr.heap.size := HJ.o.lw
  obtain ⟨b, off, hA, hbB, hck, hok⟩ := (HL.o.row.below hbw (lR _)) y (x', p) hxp
  have hmem := mG hxp
  obtain ⟨hrg, htm⟩ := HL.o.rng _ hmem
  obtain ⟨g, lx, hfx, rfl, hlk⟩ := Be.o (by omega)
  have hrow := HJ.o.fix g lx hfx
  have hcy : wr.cell? ⟨g, k, none⟩ = some (.int .i64 (y : Nat)) := hrow.cell (hlk k y hy)
  subst hA
  have hone := Ae.o _ hmem
  have Ao := kp (show ys.drop k = y :: ys.drop (k + 1) by rw [List.drop_eq_getElem_cons hkl]; rw [gE hkl] at hy; rw [Option.some.inj hy])
  obtain ⟨er, her⟩ := eY x'.resp.err
  have hc14 : ∀ (W : World) (B : Nat), RowL W B 52 (callC x' p) -> W.cell? ⟨B, 14, none⟩ = some (.int .i64 er) := fun W B h => her ▸ h.cell (j := 14) rfl
  obtain ⟨Af, HX⟩ := kq2 her hx
  dsimp only at hck hok hrg htm hone
  obtain ⟨HF, HD, Az⟩ := kq3 (fun (he : x'.resp.err = 0) (W : World) (hW : Below wr.heap.size wr W) => jo_ K grace ws x' p W (HJ.o.below hW).rd (((hok.mono (lT Ac.o hszr)).below hW (lR _)).mono hW.size) (k1_ hx1 hx2 he hrg)) (fun (he : x'.resp.err = 0) (hf : aH_ grace ws x' = 0) (wf : World) (hwf : Below wr.heap.size wr wf) => refDo75 wf lim K grace ws es s (HJ.o.below hwf) x' p ((hok.mono Ac.o).below hwf hszr) (ly_ Am.o (by omega) hx1 hx2 hrg htm hf)) (fun (ws' : List WrR) (es' : Edges) (hd : DoS x' ws es ws' es') => Am.o.step At.o hy hx hd)
  have hblt : b < wr.heap.size := lL hbB (lT Ac.o hszr)
  obtain ⟨Au, H14⟩ := kq2 hck hc14
  obtain ⟨LX, hLX⟩ := eY (callC x' p)
  obtain ⟨HZ, Ay, Bb⟩ := kq3 (show (Tryz.prog.info? 52).map (·.size) = some LX.length by rw [<- hLX]; show _ = some 23; kernel_rfl) (show (Tryz.prog.info? 52).map (·.size) = some LX.toArray.size by rw [<- hLX]; show _ = some 23; kernel_rfl) (show LX.length = 23 by rw [<- hLX]; rfl)
  rw [hLX] at Au HF HD hone H14
  have Ba := kp (all_oneCell_toArray hone)
  obtain ⟨fl, hfl⟩ := eY (aH_ grace ws x')
  rw [hfl] at HF
  have Ak := kp hfl
  unfold ptV at HF HD
  obtain ⟨Ad, Bc⟩ := kq2 hrow (hlk k y hy)
  clear hck hok hmem hrg htm hx hxp her hLX hx1 hx2 hy hfl hone hrow hlk hc14
  go_upto_region 9 with (first
   | ((with_reducible refine wpList_load_agg (o := ⟨some 36, _, _, _, _, _⟩) rfl 52 _ rfl ⟨b, off + y * 23, none⟩ ?_ LX _ Au.o Tryz.underlying52 rfl HZ.o ?_); (· rfl))
   | ((with_reducible refine bJ_ (o := ⟨none, _, _, _, _, _⟩) rfl 52 (.tmp 11) (.tmp 36) rfl _ LX.toArray 52 wr.heap.size ?_ ?_ ?_ Ay.o ?_ Ba.o ?_); (· rfl); (· rfl); (· rfl); (· show 23 = LX.toArray.size; rw [zS, Bb.o])))
  simp only [Act.put]
  obtain ⟨WB, hWB⟩ := eY (wr.alloc (.cells LX.toArray 52))
  rw [hWB]
  have hrb : RowL WB wr.heap.size 52 LX := by rw [<- hWB]; exact RowL.new wr 52 LX
  have hbb : Below wr.heap.size wr WB := by rw [<- hWB]; exact below1 wr _
  obtain ⟨B, hB⟩ := eY wr.heap.size
  rw [hB] at hrb ⊢
  have hb14 := H14.o WB B hrb
  obtain ⟨Ai, Aa, An⟩ := kq3 hrb (show Below wr.heap.size wr WB from hbb) (show lim.n <= wr.heap.size from hszr)
  clear hWB hrb hbb hB hbw
  by_cases h0 : er = 0
  ·subst h0
   have As := kp (HF.o Af.o WB Aa.o)
   by_cases hf0 : fl = 0
   ·subst hf0
    go_wp2_with (first
     | ((with_reducible refine wpList_load_agg (o := ⟨some 42, _, _, _, _, _⟩) rfl 52 _ rfl ⟨B, 0, none⟩ ?_ LX _ Ai.o.cells Tryz.underlying52 rfl HZ.o ?_); (· rfl))
     | ((with_reducible refine wpList_load_agg (o := ⟨some 52, _, _, _, _, _⟩) rfl 52 _ rfl ⟨B, 0, none⟩ ?_ LX _ (Ai.o.below hbf Ai.o.lt).cells Tryz.underlying52 rfl HZ.o ?_); (· rfl))
     | (go_at_call 74; refine As.o.mono ?_; rintro e wf ⟨rfl, hbf⟩)
     | (go_at_call 75; refine (HD.o Af.o Ak.o _ (Aa.o.trans (hbf.mono Aa.o.size))).mono ?_; rintro e wd ⟨rfl, ws', es', s', hds, hjd, hbd⟩))
    go_roundw
    case rel => exact ⟨k + 1, ws', es', s', by omega, by go_num, hjd, HB.o.trans (((Aa.o.trans (hbf.mono Aa.o.size)).mono An.o).trans hbd), Az.o ws' es' hds, fun r h => Ah.o r (by rw [Ao.o]; exact RunC.go HX.o Af.o Ak.o hds h)⟩
    simp [intOf]; omega
   have g4 : (fl != 0) = true := by simpa using hf0
   have hcy2 : ∀ W, Below wr.heap.size wr W -> W.cell? ⟨g, k, none⟩ = some (.int .i64 (y : Nat)) := fun W hW => (Ad.o.below hW Ad.o.lt).cell Bc.o
   go_wp2_with (first
    | ((with_reducible refine wpList_load_agg (o := ⟨some 42, _, _, _, _, _⟩) rfl 52 _ rfl ⟨B, 0, none⟩ ?_ LX _ Ai.o.cells Tryz.underlying52 rfl HZ.o ?_); (· rfl))
    | (go_at_call 74; refine As.o.mono ?_; rintro e wf ⟨rfl, hbf⟩; have hcf := hcy2 wf (Aa.o.trans (hbf.mono Aa.o.size))))
   go_ret3
   refine ⟨fun h => absurd Ab.o h, fun _ => ⟨some (y, fl), ⟨ys, Al.o, Ah.o _ ?_⟩, rfl⟩, Av.o.trans ((Aa.o.trans (hbf.mono Aa.o.size)).mono (lT Ac.o An.o))⟩
   rw [Ao.o, <- Ak.o]
   exact RunC.flt HX.o Af.o (by rw [Ak.o]; exact hf0)
  have g3 : (er != 0) = true := by simpa using h0
  go_wp2
  go_roundw
  case rel => exact ⟨k + 1, ws, es, s, by omega, by go_num, HJ.o.below Aa.o, HB.o.trans (Aa.o.mono An.o), Am.o.skip, fun r h => Ah.o r (by rw [Ao.o]; exact RunC.skip HX.o (by rw [Af.o]; exact h0) h)⟩
  simp [intOf]; omega
 obtain rfl : k = m := by omega
 have hg2 : decide ((k : Int) < (k : Int)) = false := by simp
 go_wp2
 go_ret3
 refine ⟨fun h => absurd Ab.o h, fun _ => ⟨none, ⟨ys, Al.o, Ah.o _ ?_⟩, rfl⟩, Av.o⟩
 rw [List.drop_eq_nil_of_le (by rw [HM.o]; exact lR _)]
 exact RunC.done
set_option maxHeartbeats 8000000
structure SaidR where
 cmd : CmdR
 resp : RespR
 tim : Int
def saidL (s : SaidR) (p : CallV) : List Value := cmdC s.cmd p.vk p.vv p.vt ++ respC s.resp p.vi p.vn ++ [.int .u64 s.tim]
def SaidR.fix (s : SaidR) : SaidR := { s with resp := { s.resp with op := s.cmd.op } }
def a9_ (i : Nat) (s : SaidR) : CallR := ⟨0, i, false, s.cmd, { s.resp with op := s.cmd.op }, 3 * (i : Int), 3 * (i : Int) + 1, 3 * (i : Int) + 2, s.tim⟩
abbrev SaidE := SaidR × CallV
def sesC (S : List SaidE) : List (CallR × CallV) := S.mapIdx fun i x => (a9_ i x.1, x.2)
theorem dZ_ (S : List SaidE) : (sesC S).length = S.length := by simp [sesC]
def aR_ (S : List SaidE) (k : Nat) : List (List Value) := S.mapIdx fun j x => if j < k then saidL x.1.fix x.2 else saidL x.1 x.2
theorem b1_ (S : List SaidE) (k : Nat) : ∀ x ∈ aR_ S k, x.length = 17 := fun x hx => by
 obtain ⟨i, hi⟩ := mI.1 hx
 unfold aR_ at hi
 rw [List.getElem?_mapIdx] at hi
 obtain ⟨y, _, rfl⟩ := Option.map_eq_some_iff.1 hi
 split <;> rfl
theorem cU_ {S : List SaidE} {k : Nat} {x : SaidE} (h : S[k]? = some x) : (aR_ S k)[k]? = some (saidL x.1 x.2) := by
 unfold aR_
 rw [List.getElem?_mapIdx, h]
 simp
theorem dJ_ {S : List SaidE} {k : Nat} {x : SaidE} (h : S[k]? = some x) : (aR_ S (k + 1))[k]? = some (saidL x.1.fix x.2) := by
 unfold aR_
 rw [List.getElem?_mapIdx, h]
 simp
theorem f3_ {S : List SaidE} {k : Nat} {x : SaidE} (h : S[k]? = some x) : (aR_ S k).set k (saidL x.1.fix x.2) = aR_ S (k + 1) := by
 have hk := (gS.1 h).1
 apply List.ext_getElem?
 intro j
 rw [List.getElem?_set]
 unfold aR_
 by_cases e : k = j
 ·subst e
  rw [if_pos rfl, if_pos (by simpa using hk), List.getElem?_mapIdx, h]
  simp
 rw [if_neg e, List.getElem?_mapIdx, List.getElem?_mapIdx]
 cases S[j]? with
 | none => rfl
 | some y =>
  simp only [Option.map_some]
  by_cases h2 : j < k
  ·rw [if_pos h2, if_pos (by omega)]
  rw [if_neg h2, if_neg (by omega)]
theorem f2_ (S : List SaidE) : (aR_ S 0).flatten = S.flatMap fun x => saidL x.1 x.2 := by
 rw [List.flatMap_def]
 congr 1
 apply List.ext_getElem?
 intro j
 unfold aR_
 rw [List.getElem?_mapIdx, gM]
 simp
theorem own_at {w : World} {base g n c : Nat} {e : TypeId} {size : Nat} {xs : List Value} (h : w.ownsRow base e size (.slice (some ⟨g, 0, none⟩) n c) n xs) {t : Nat} {v : Value} (hv : xs[t]? = some v) : w.cell? ⟨g, t, none⟩ = some v /\ w.frozen? ⟨g, t, none⟩ = false := by
 rcases h.2 with ⟨h, _⟩ | ⟨g', cap, cur, he, hb, hh, hnc, hcm, hcs, htake⟩
 ·cases h
 cases he
 have h1 := hv
 have ht := (gS.1 hv).1
 rw [<- htake] at h1 ht
 rw [List.getElem?_take_of_lt (by rw [List.length_take] at ht; omega)] at h1
 refine ⟨?_, by simp [World.frozen?, hh]⟩
 simp only [World.cell?, hh, Option.isSome_none, Bool.false_eq_true, if_false]
 rw [<- Array.getElem?_toList, h1]
theorem dx_ {w : World} {base g n c : Nat} {S : List SaidE} {k j : Nat} (h : w.ownsRow base 73 17 (.slice (some ⟨g, 0, none⟩) n c) n (aR_ S k).flatten) {l : List Value} (hx : (aR_ S k)[j]? = some l) : CellsAt w ⟨g, j * 17, none⟩ l := by
 intro i v hv
 have hi : i < 17 := by
  have := (gS.1 hv).1
  rw [b1_ S k l (mG hx)] at this
  exact this
 rw [show (⟨g, j * 17, none⟩ : Addr).add i = ⟨g, j * 17 + i, none⟩ by simp [Addr.add]]
 exact (own_at h (by rw [bW_ 17 _ j i l (b1_ S k) hx hi]; exact hv)).1
theorem sesC_at {S : List SaidE} {k : Nat} {x : SaidE} (h : S[k]? = some x) : (sesC S).take (k + 1) = (sesC S).take k ++ [(a9_ k x.1, x.2)] := by
 rw [tA]
 unfold sesC
 rw [List.getElem?_mapIdx, h]
 rfl
theorem kf_ (S : List SaidE) (v : Value) (n base : Nat) (w : World) (hn : S.length = n) (hn2 : n <= 1000) (ho : w.ownsRow base 73 17 v n (S.flatMap fun x => saidL x.1 x.2)) (hb : base <= w.heap.size)
  (h1 : ∀ x ∈ S, ∀ u ∈ saidL x.1 x.2, u.oneCell' = true) :
  Calls Tryz.prog 32 #[v] w fun e w' => ∃ u, e = .returned u /\ w'.ownsRow w.heap.size 52 23 u n (callsV (sesC S)) /\ Kept v.ownBlock.toList w w' := by
 rw [<- f2_] at ho
 obtain ⟨p, c, rfl⟩ := bO_ ho
 obtain ⟨HO, HN, H1⟩ := kq3 ho hn h1
 clear ho hn h1
 go_enter Tryz.func32, Tryz.ntmps32
 go_wp2_with fail
 go_loopw [3, 4] (fun s3 s4 wr => ∃ k : Nat, k <= n /\ s4 = .int .i64 k /\ wr.ownsRow base 73 17 (.slice p n c) n (aR_ S k).flatten /\ wr.ownsRow w.heap.size 52 23 s3 k (callsV ((sesC S).take k)) /\ Kept (Value.slice p n c).ownBlock.toList w wr) (fun _ j _ => n - (intOf j).toNat)
 case atStart => exact ⟨0, Nat.zero_le _, by go_num, HO.o, World.ownsRow_nil _ _ _ _, Kept.refl _ _⟩
 obtain ⟨k, hk, rfl, hrow, hout, hkp⟩ := hrel
 by_cases hlt : k < n
 ·have hg2 : decide ((k : Int) < (n : Int)) = true := eT_ (by omega)
  have hk1 : k < S.length := by rw [HN.o]; exact hlt
  obtain ⟨⟨⟨⟨op, key, keys, val, tags, life, ver, tag, pre, chi⟩, ⟨rop, rerr, items, rver, rcnt, nums⟩, tim⟩, ⟨vk, vv, vt, vi, vn⟩⟩, hx⟩ : ∃ x, S[k]? = some x := ⟨_, gE hk1⟩
  obtain ⟨g, rfl⟩ : ∃ g, p = some ⟨g, 0, none⟩ := by
   rcases hrow.2 with ⟨h, h0⟩ | ⟨g, cap, cur, hv, _⟩
   ·omega
   cases hv; exact ⟨g, rfl⟩
  have hc := dx_ hrow (cU_ hx)
  have e0 : wr.cell? ⟨g, k * 17, none⟩ = some (.int .i64 op) := hc 0 _ rfl
  have fz := (own_at hrow (t := k * 17 + 10) (v := .int .i64 rop) (by rw [bW_ 17 _ k 10 _ (b1_ S k) (cU_ hx) (by omega)]; rfl)).2
  have e10 : wr.cell? ⟨g, k * 17 + 10, none⟩ = some (.int .i64 rop) := hc 10 _ rfl
  have hst := hrow.stored (k * 17 + 10) (.int .i64 op)
  have hsep : ∀ b, u3.ownBlock = some b -> b ≠ g := fun b h e => by
   rcases bB_ hout hrow (by decide) with h1 | h1
   ·rw [h1] at h; cases h
   rw [h, e] at h1; exact h1 rfl
  go_upto_region 6 with (fail)
  obtain ⟨W1, hW1⟩ := eY (wr.setCell ⟨g, k * 17 + 10, none⟩ (.int .i64 op))
  rw [hW1]
  have hrow1 : W1.ownsRow base 73 17 (.slice (some ⟨g, 0, none⟩) n c) n (aR_ S (k + 1)).flatten := by
   have h2 := hst.1
   rw [cB_ 17 _ k 10 _ _ (b1_ S k) (cU_ hx) (by omega)] at h2
   rw [<- hW1, <- f3_ hx]
   exact h2
  have hk1' : Kept [g] wr W1 := by rw [<- hW1]; exact (Kept.refl [g] wr).setCell (p := ⟨g, k * 17 + 10, none⟩) (by simp) _
  have hout1 : W1.ownsRow w.heap.size 52 23 u3 k (callsV ((sesC S).take k)) := hk1'.own2 hout fun b hb h => by
   simp at hb
   exact hsep b h hb
  obtain ⟨Ao, co, rfl⟩ := bO_ hout1
  have hc1 := dx_ hrow1 (dJ_ hx)
  have hs0 : w.heap.size <= W1.heap.size := lT hkp.size hk1'.size
  have hbd : Bw W1 W1.drew := ag_ W1 1
  obtain ⟨CL, hCL⟩ : ∃ L : List Value, L = [.int .i64 0, .int .i64 (k : Int), .bool false, .int .i64 op, .string key, vk, vv, vt, .int .u64 life, .int .u64 ver, .string tag, .string pre, .string chi, .int .i64 op, .int .i64 rerr, vi, .int .u64 rver, .int .i64 rcnt, vn, .int .i64 (3 * (k : Int)), .int .i64 (3 * (k : Int) + 1), .int .i64 (3 * (k : Int) + 2), .int .u64 tim] := ⟨_, rfl⟩
  have hcc : CL = callC (a9_ k ⟨⟨op, key, keys, val, tags, life, ver, tag, pre, chi⟩, ⟨rop, rerr, items, rver, rcnt, nums⟩, tim⟩) ⟨vk, vv, vt, vi, vn⟩ := hCL
  have hone : ∀ u ∈ CL, u.oneCell' = true := by
   have h2 := H1.o _ (mG hx)
   intro u hu
   rw [hCL] at hu
   simp only [List.mem_cons, List.not_mem_nil, or_false] at hu
   have m1 := h2 vk (by simp [saidL, cmdC])
   have m2 := h2 vv (by simp [saidL, cmdC])
   have m3 := h2 vt (by simp [saidL, cmdC])
   have m4 := h2 vi (by simp [saidL, cmdC, respC])
   have m5 := h2 vn (by simp [saidL, cmdC, respC])
   rcases hu with rfl | rfl | rfl | rfl | rfl | rfl | rfl | rfl | rfl | rfl | rfl | rfl | rfl | rfl | rfl | rfl | rfl | rfl | rfl | rfl | rfl | rfl | rfl <;> first | rfl | assumption
  have hS1 : ∀ W, Kept (Value.slice Ao k co).ownBlock.toList W1 W -> CellsAt W ⟨g, k * 17, none⟩ [.int .i64 op, .string key, vk, vv, vt, .int .u64 life, .int .u64 ver, .string tag, .string pre, .string chi] /\ CellsAt W ⟨g, k * 17 + 10, none⟩ [.int .i64 op, .int .i64 rerr, vi, .int .u64 rver, .int .i64 rcnt, vn] /\ W.cell? ⟨g, k * 17 + 16, none⟩ = some (.int .u64 tim) := fun W hW => by
   have h3 : W.ownsRow base 73 17 (.slice (some ⟨g, 0, none⟩) n c) n (aR_ S (k + 1)).flatten := hW.own2 hrow1 fun b hb h => by
    simp at hb
    cases h
    exact hsep g hb rfl
   have h4 := dx_ h3 (dJ_ hx)
   exact ⟨dq_ (l1 := []) (l2 := [.int .i64 op, .string key, vk, vv, vt, .int .u64 life, .int .u64 ver, .string tag, .string pre, .string chi]) (l3 := [.int .i64 op, .int .i64 rerr, vi, .int .u64 rver, .int .i64 rcnt, vn] ++ [.int .u64 tim]) h4, dq_ (l1 := [.int .i64 op, .string key, vk, vv, vt, .int .u64 life, .int .u64 ver, .string tag, .string pre, .string chi]) (l2 := [.int .i64 op, .int .i64 rerr, vi, .int .u64 rver, .int .i64 rcnt, vn]) (l3 := [.int .u64 tim]) h4, h4 16 _ rfl⟩
  have Ae := kp (hS1 W1.drew (Kept.of_below hbd))
  have hba : Bw W1 (W1.drew.alloc (.cells CL.toArray 52)) := hbd.trans ((BR W1.heap.size W1.drew).alloc hbd.size _)
  have Ad := kp (hS1 (W1.drew.alloc (.cells CL.toArray 52)) (Kept.of_below hba))
  have Af := kp ((Kept.of_below (L := []) hba).own2 hout1 (by simp))
  have Ab := kp (RowL.new W1.drew 52 CL).cells
  have Ag := kp (show w.heap.size <= (W1.drew.alloc (.cells CL.toArray 52)).heap.size from lT hs0 hba.size)
  have Ac := kp hone
  have HT := kp (fun (v8 : Value) (w8 : World) (hown8 : w8.ownsRow w.heap.size 52 23 v8 (k + 1) (callsV ((sesC S).take k) ++ CL)) (hg8 : (W1.drew.alloc (.cells CL.toArray 52)).grownBy w8 (Value.slice Ao k co).ownBlock) => by
   have hk8 : Kept (Value.slice Ao k co).ownBlock.toList W1 w8 := (Kept.of_below hba).trans (ez_ hg8)
   refine (⟨hS1 w8 hk8, hk8.own2 hrow1 fun b hb h => ?_, ?_, ?_⟩ : (CellsAt w8 ⟨g, k * 17, none⟩ [.int .i64 op, .string key, vk, vv, vt, .int .u64 life, .int .u64 ver, .string tag, .string pre, .string chi] /\ CellsAt w8 ⟨g, k * 17 + 10, none⟩ [.int .i64 op, .int .i64 rerr, vi, .int .u64 rver, .int .i64 rcnt, vn] /\ w8.cell? ⟨g, k * 17 + 16, none⟩ = some (.int .u64 tim)) /\ w8.ownsRow base 73 17 (.slice (some ⟨g, 0, none⟩) n c) n (aR_ S (k + 1)).flatten /\ w8.ownsRow w.heap.size 52 23 v8 (k + 1) (callsV ((sesC S).take (k + 1))) /\ Kept (Value.slice (some ⟨g, 0, none⟩) n c).ownBlock.toList w w8)
   ·simp at hb
    cases h
    exact hsep g hb rfl
   ·have e9 : callsV ((sesC S).take (k + 1)) = callsV ((sesC S).take k) ++ CL := by
     rw [sesC_at hx, hcc]
     simp [callsV]
    rw [e9]
    exact hown8
   refine ((hkp.trans (hk1'.mono (L' := (Value.slice (some ⟨g, 0, none⟩) n c).ownBlock.toList) fun b hb => by simp at hb; subst hb; exact List.mem_cons_self)).mono (List.subset_append_left _ (Value.slice Ao k co).ownBlock.toList) |>.trans (hk8.mono (List.subset_append_right _ _))).drop2 ?_
   intro b hb hl
   rcases List.mem_append.1 hb with h2 | h2
   ·exact h2
   have := (hout1.lt b (by simpa using h2)).1
   omega)
  have e1 : IntKind.i64.wrap (3 * (k : Int)) = 3 * (k : Int) := by rw [IntKind.wrap_i64]; omega
  have e2 : IntKind.i64.wrap (3 * (k : Int) + 1) = 3 * (k : Int) + 1 := by rw [IntKind.wrap_i64]; omega
  have e3 : IntKind.i64.wrap (3 * (k : Int) + 2) = 3 * (k : Int) + 2 := by rw [IntKind.wrap_i64]; omega
  subst hCL
  clear hst hrow hout hkp hrow1 hk1' hout1 hc1 hbd hone hS1 hba hsep hc e0 fz e10 hW1 hcc
  refine wp_region_held_drew (S := fun W => CellsAt W ⟨g, k * 17, none⟩ [.int .i64 op, .string key, vk, vv, vt, .int .u64 life, .int .u64 ver, .string tag, .string pre, .string chi] /\ CellsAt W ⟨g, k * 17 + 10, none⟩ [.int .i64 op, .int .i64 rerr, vi, .int .u64 rver, .int .i64 rcnt, vn] /\ W.cell? ⟨g, k * 17 + 16, none⟩ = some (.int .u64 tim)) (by kernel_rfl) Ae.o (fun hS => ?_)
  have HS := kp hS
  clear hS
  refine tp 0 rfl rfl HS.o ?_
  simp only [Act.put, z1, z2, z3]
  refine tp 1 rfl rfl HS.o ?_
  simp only [Act.put, z1, z2, z3]
  refine tp 2 rfl rfl HS.o ?_
  simp only [Act.put, z1, z2, z3]
  refine tp 3 rfl rfl HS.o ?_
  simp only [Act.put, z1, z2, z3]
  refine tp 4 rfl rfl HS.o ?_
  simp only [Act.put, z1, z2, z3]
  refine tp 5 rfl rfl HS.o ?_
  simp only [Act.put, z1, z2, z3]
  refine tq 6 (.agg #[.int .i64 op, .string key, vk, vv, vt, .int .u64 life, .int .u64 ver, .string tag, .string pre, .string chi]) rfl (yields_aggU rfl 36 _ rfl ⟨g, k * 17, none⟩ rfl [.int .i64 op, .string key, vk, vv, vt, .int .u64 life, .int .u64 ver, .string tag, .string pre, .string chi] _ (fun W hW => hW.1) Tryz.underlying36 (eV_ _ _ _ _ _ _ _ _ _ _)) HS.o ?_
  simp only [Act.put, z1, z2, z3]
  refine tp 7 rfl rfl HS.o ?_
  simp only [Act.put, z1, z2, z3]
  refine tp 8 rfl rfl HS.o ?_
  simp only [Act.put, z1, z2, z3]
  refine tp 9 rfl rfl HS.o ?_
  simp only [Act.put, z1, z2, z3]
  refine tp 10 rfl rfl HS.o ?_
  simp only [Act.put, z1, z2, z3]
  refine tq 11 (.agg #[.int .i64 op, .int .i64 rerr, vi, .int .u64 rver, .int .i64 rcnt, vn]) rfl (yields_aggU rfl 40 _ rfl ⟨g, k * 17 + 10, none⟩ rfl [.int .i64 op, .int .i64 rerr, vi, .int .u64 rver, .int .i64 rcnt, vn] _ (fun W hW => hW.2.1) Tryz.underlying40 (fw_ _ _ _ _ _ _)) HS.o ?_
  simp only [Act.put, z1, z2, z3]
  refine tp 12 rfl rfl HS.o ?_
  simp only [Act.put, z1, z2, z3]
  refine tp 13 rfl rfl HS.o ?_
  simp only [Act.put, z1, z2, z3]
  refine tp 14 rfl rfl HS.o ?_
  simp only [Act.put, z1, z2, z3]
  refine tp 15 rfl rfl HS.o ?_
  simp only [Act.put, z1, z2, z3]
  refine tp 16 rfl rfl HS.o ?_
  simp only [Act.put, z1, z2, z3]
  refine tp 17 rfl rfl HS.o ?_
  simp only [Act.put, z1, z2, z3]
  refine tp 18 rfl rfl HS.o ?_
  simp only [Act.put, z1, z2, z3]
  refine tp 19 rfl rfl HS.o ?_
  simp only [Act.put, z1, z2, z3]
  refine tp 20 rfl rfl HS.o ?_
  simp only [Act.put, z1, z2, z3]
  refine tp 21 rfl rfl HS.o ?_
  simp only [Act.put, z1, z2, z3]
  refine tp 22 rfl rfl HS.o ?_
  simp only [Act.put, z1, z2, z3]
  refine tp 23 rfl rfl HS.o ?_
  simp only [Act.put, z1, z2, z3]
  refine tq 24 ?_ rfl (Or.inl ⟨by rfl, ?_⟩) HS.o ?_
  rotate_left 1
  ·intro w hw; have q := hw.2.2; go_simp; try with_reducible rfl
  simp only [Act.put, z1, z2, z3]
  refine tp 25 rfl rfl HS.o ?_
  simp only [Act.put, z1, z2, z3]
  refine oQ 26 rfl (fun KK hK => ?_)
  with_reducible refine aZ_ rfl 43 _ rfl 52 _ 23 296 (.agg #[.int .i64 0, .int .i64 (k : Int), .bool false, .int .i64 op, .string key, vk, vv, vt, .int .u64 life, .int .u64 ver, .string tag, .string pre, .string chi, .int .i64 op, .int .i64 rerr, vi, .int .u64 rver, .int .i64 rcnt, vn, .int .i64 (3 * (k : Int)), .int .i64 (3 * (k : Int) + 1), .int .i64 (3 * (k : Int) + 2), .int .u64 tim]) #[.int .i64 0, .int .i64 (k : Int), .bool false, .int .i64 op, .string key, vk, vv, vt, .int .u64 life, .int .u64 ver, .string tag, .string pre, .string chi, .int .i64 op, .int .i64 rerr, vi, .int .u64 rver, .int .i64 rcnt, vn, .int .i64 (3 * (k : Int)), .int .i64 (3 * (k : Int) + 1), .int .i64 (3 * (k : Int) + 2), .int .u64 tim] Tryz.underlying43 d0_ (by decide) (by decide) ?_ rfl rfl ?_
  ·rfl
  have hS := Ad.o
  refine hK.o _ _ hS (fun _ => ?_)
  clear hK KK HS
  have HS := kp hS
  clear hS
  try simp only [Act.put, z1, z2, z3]
  refine oQ 27 rfl (fun KK hK => ?_)
  with_reducible refine a4_ rfl _ _ 43 rfl w.heap.size 52 _ 23 296 Tryz.underlying43 d0_ ?_ ?_ (.slice Ao k co) k (callsV ((sesC S).take k)) ?_ ?_ ⟨W1.drew.heap.size, 0, none⟩ 1 1 [.int .i64 0, .int .i64 (k : Int), .bool false, .int .i64 op, .string key, vk, vv, vt, .int .u64 life, .int .u64 ver, .string tag, .string pre, .string chi, .int .i64 op, .int .i64 rerr, vi, .int .u64 rver, .int .i64 rcnt, vn, .int .i64 (3 * (k : Int)), .int .i64 (3 * (k : Int) + 1), .int .i64 (3 * (k : Int) + 2), .int .u64 tim] ?_ ?_ ?_ ?_ ?_ ?_ ?_ ?_
  ·rfl
  ·decide
  ·rfl
  ·exact Af.o
  ·rfl
  ·rfl
  ·exact Ab.o
  ·exact Ac.o
  ·unfold maxLen; omega
  ·omega
  ·exact Ag.o
  intro v8 w8 hown8 hg8 _
  have Aa := kp (HT.o v8 w8 hown8 hg8)
  obtain ⟨A8, c8, rfl⟩ := bO_ hown8
  clear hown8 hg8
  have hS := Aa.o.1
  refine hK.o _ _ hS (fun _ => ?_)
  clear hK KK HS
  have HS := kp hS
  clear hS
  try simp only [Act.put, z1, z2, z3]
  refine tp 28 rfl rfl HS.o ?_
  simp only [Act.put, z1, z2, z3]
  refine wpAnyH_done (by kernel_rfl) ?_ _
  go_wp2_with fail
  go_roundw
  case rel => exact ⟨k + 1, by omega, by go_num, Aa.o.2.1, Aa.o.2.2.1, Aa.o.2.2.2⟩
  simp [intOf]; omega
 obtain rfl : k = n := by omega
 have hg2 : decide ((k : Int) < (k : Int)) = false := by simp
 go_wp2_with fail
 go_ret
 refine ⟨_, rfl, ?_, hkp⟩
 rw [tL (by rw [dZ_, HN.o]; exact lR _)] at hout
 exact hout
def SaidOk (w : World) (B : Nat) (s : SaidR) (p : CallV) : Prop := CallOk w B ⟨0, 0, false, s.cmd, s.resp, 0, 0, 0, s.tim⟩ p /\ CapI ⟨0, 0, false, s.cmd, s.resp, 0, 0, 0, s.tim⟩ p
def otherS (c : CmdR) (tim : Int) : SaidR := ⟨c, ⟨0, 0, [], 0, 0, []⟩, tim⟩
theorem q73 (l : List Value) (h : l.length = 17) : (Tryz.prog.info? 73).map (·.size) = some l.length := by
 rw [h]
 kernel_rfl
theorem f1_ (L : List Value) (h : L.length = 17) : putL [.int .i64 0, .string ⟨#[]⟩, .slice none 0 0, .slice none 0 0, .slice none 0 0, .int .u64 0, .int .u64 0, .string ⟨#[]⟩, .string ⟨#[]⟩, .string ⟨#[]⟩, .int .i64 0, .int .i64 0, .slice none 0 0, .int .u64 0, .int .i64 0, .slice none 0 0, .int .u64 0] 0 L = L := f7_ (by rw [h]; rfl)
theorem f0_ {w' : World} {X : Nat} {L : List Value} {a : Act} {fn : Func} {R : Ending -> World -> Prop} {t : Nat} (hr : RowL w' X 73 L) (hl : L.length = 17) (hres : fn.results = #[.cell t 73]) (ht : a.tmps.getD t undef = .pointer (some ⟨X, 0, none⟩)) (hd : a.defers = []) (h : R (.returned (.agg L.toArray)) w') :
  bodyPost Tryz.prog fn R .ret a w' :=
 bodyPost_ret (aE_ hres _ _ ⟨X, 0, none⟩ _ ht (af_ _ _ _ _ _ hr.cells Tryz.underlying73 rfl (q73 L hl))) hd h
theorem other35 (c : CmdR) (vk vv vt : Value) (tim : Int) (w : World) (h1 : ∀ u ∈ cmdC c vk vv vt, u.oneCell' = true) :
  Calls Tryz.prog 35 #[.agg (cmdC c vk vv vt).toArray, .int .u64 tim] w fun e w' => e = .returned (.agg (saidL (otherS c tim) ⟨vk, vv, vt, .slice none 0 0, .slice none 0 0⟩).toArray) /\ Bw w w' := by
 obtain ⟨L, hL⟩ := eY (saidL (otherS c tim) ⟨vk, vv, vt, .slice none 0 0, .slice none 0 0⟩)
 have HL := kp hL
 have Aa := kp (show L.length = 17 by rw [<- hL]; rfl)
 have Ac := kp (show L.toArray.all (·.oneCell') = true from all_oneCell_toArray fun u hu => by
  rw [<- hL] at hu
  unfold saidL otherS respC at hu
  simp only [List.mem_append, List.mem_cons, List.not_mem_nil, or_false] at hu
  rcases hu with (hu | rfl | rfl | rfl | rfl | rfl | rfl) | rfl
  ·exact h1 u hu
  all_goals rfl)
 rw [hL]
 obtain ⟨op, key, keys, val, tags, life, ver, tag, pre, chi⟩ := c
 unfold saidL otherS respC cmdC at hL
 simp only [List.cons_append, List.nil_append] at hL
 unfold cmdC
 clear h1 HL
 go_enter Tryz.func35, Tryz.ntmps35
 go_upto_region 1 with (fail)
 obtain ⟨W0, hW0⟩ := eY (w.alloc (.cells #[.int .i64 op, .string key, vk, vv, vt, .int .u64 life, .int .u64 ver, .string tag, .string pre, .string chi] 36))
 have hb0 : Bw w W0 := by rw [<- hW0]; exact below1 w _
 have hr0 : RowL W0 w.heap.size 36 [.int .i64 op, .string key, vk, vv, vt, .int .u64 life, .int .u64 ver, .string tag, .string pre, .string chi] := by rw [<- hW0]; exact RowL.new w 36 _
 have hs0 : W0.heap.size = w.heap.size + 1 := by rw [<- hW0]; simp
 rw [hW0]
 obtain ⟨W1, hW1⟩ := eY (W0.alloc (.cells ([.int .i64 0, .string ⟨#[]⟩, .slice none 0 0, .slice none 0 0, .slice none 0 0, .int .u64 0, .int .u64 0, .string ⟨#[]⟩, .string ⟨#[]⟩, .string ⟨#[]⟩, .int .i64 0, .int .i64 0, .slice none 0 0, .int .u64 0, .int .i64 0, .slice none 0 0, .int .u64 0] : List Value).toArray 73))
 have hr1 : RowL W1 (w.heap.size + 1) 73 [.int .i64 0, .string ⟨#[]⟩, .slice none 0 0, .slice none 0 0, .slice none 0 0, .int .u64 0, .int .u64 0, .string ⟨#[]⟩, .string ⟨#[]⟩, .string ⟨#[]⟩, .int .i64 0, .int .i64 0, .slice none 0 0, .int .u64 0, .int .i64 0, .slice none 0 0, .int .u64 0] := by rw [<- hW1, <- hs0]; exact RowL.new W0 73 _
 have hb1 : Bw W0 W1 := by rw [<- hW1]; exact below1 W0 _
 have hw1 : W0.alloc (.cells #[.int .i64 0, .string ⟨#[]⟩, .slice none 0 0, .slice none 0 0, .slice none 0 0, .int .u64 0, .int .u64 0, .string ⟨#[]⟩, .string ⟨#[]⟩, .string ⟨#[]⟩, .int .i64 0, .int .i64 0, .slice none 0 0, .int .u64 0, .int .i64 0, .slice none 0 0, .int .u64 0] 73) = W1 := hW1
 rw [hw1]
 have hc := (hr0.below hb1 hr0.lt).cells
 obtain ⟨Ab, HB, HC⟩ := kq3 hr1 (hb0.trans (hb1.mono hb0.size)) hc
 clear hW0 hW1 hw1 hr0 hr1 hb0 hb1 hc
 go_wp2_with (first
  | ((with_reducible refine wpList_load_agg (o := ⟨some 5, _, _, _, _, _⟩) rfl 36 _ rfl ⟨w.heap.size, 0, none⟩ ?_ [.int .i64 op, .string key, vk, vv, vt, .int .u64 life, .int .u64 ver, .string tag, .string pre, .string chi] _ HC.o Tryz.underlying36 rfl (eV_ _ _ _ _ _ _ _ _ _ _) ?_); (· rfl))
  | ((with_reducible refine ab_ (op := ⟨none, _, _, _, _, _⟩) rfl 73 _ _ rfl (w.heap.size + 1) 0 L.toArray ?_ ?_ ?_ ?_ Ac.o ?_); (· rfl); (· rw [<- hL]; rfl); (· exact Ab.o.there (by rw [Nat.zero_add, zS, Aa.o]; decide)); (· rw [zS]; exact q73 L Aa.o); intro w9 hw9))
 have hr9 := Ab.o.setCells (o := 0) L
 rw [f1_ L Aa.o] at hr9
 have hb9 := ai_ L 0 W1 (B := w.heap.size) (b := w.heap.size + 1) (by omega)
 exact f0_ hr9 Aa.o rfl rfl rfl ⟨rfl, HB.o.trans hb9⟩
def kA : ByteArray := ⟨#[97]⟩
def setS (v : ByteArray) (ver tim : Int) (tags : List ByteArray) : SaidR := ⟨⟨1, kA, [], aF_ v, tags, nev, 0, ⟨#[]⟩, ⟨#[]⟩, ⟨#[]⟩⟩, ⟨0, 0, [], ver, 0, []⟩, tim⟩
def getS (m : Int) (v : ByteArray) (ver tim : Int) : SaidR := ⟨⟨4, kA, [], [], [], 0, 0, ⟨#[]⟩, ⟨#[]⟩, ⟨#[]⟩⟩, ⟨0, 0, [⟨m, aF_ v, ver, nev⟩], 0, 0, []⟩, tim⟩
theorem fs_ (s : ByteArray) : ∀ y ∈ aF_ s, 0 <= y /\ y < 256 := fun y hy => by
 unfold aF_ at hy
 obtain ⟨b, _, rfl⟩ := List.mem_map.1 hy
 have := b.toNat_lt
 omega
theorem slv_nil2 {α : Type} (enc : α -> Value) (w : World) (B : Nat) : SlV enc w B (.slice none 0 0) [] := ⟨by simp, none, 0, rfl, fun i x h => by simp at h⟩
theorem set33 (v : ByteArray) (ver tim : Int) (vt : Value) (tags : List ByteArray) (w : World) (hv : v.size <= 1000) (ht : SlV Value.string w w.heap.size vt tags) :
  Calls Tryz.prog 33 #[.string v, .int .u64 ver, .int .u64 tim, vt] w fun e w' => ∃ p : CallV, e = .returned (.agg (saidL (setS v ver tim tags) p).toArray) /\ SaidOk w' w'.heap.size (setS v ver tim tags) p /\ (∀ u ∈ saidL (setS v ver tim tags) p, u.oneCell' = true) /\ Bw w w' := by
 obtain ⟨At, nt, ct, rfl⟩ : ∃ A n c, vt = .slice A n c := by
  obtain ⟨_, A, c, h, _⟩ := ht
  exact ⟨A, _, c, h⟩
 obtain ⟨W1, hW1⟩ := eY (w.alloc (.cells ([.int .i64 0, .string ⟨#[]⟩, .slice none 0 0, .slice none 0 0, .slice none 0 0, .int .u64 0, .int .u64 0, .string ⟨#[]⟩, .string ⟨#[]⟩, .string ⟨#[]⟩, .int .i64 0, .int .i64 0, .slice none 0 0, .int .u64 0, .int .i64 0, .slice none 0 0, .int .u64 0] : List Value).toArray 73))
 have hr1 : RowL W1 w.heap.size 73 [.int .i64 0, .string ⟨#[]⟩, .slice none 0 0, .slice none 0 0, .slice none 0 0, .int .u64 0, .int .u64 0, .string ⟨#[]⟩, .string ⟨#[]⟩, .string ⟨#[]⟩, .int .i64 0, .int .i64 0, .slice none 0 0, .int .u64 0, .int .i64 0, .slice none 0 0, .int .u64 0] := by rw [<- hW1]; exact RowL.new w 73 _
 have hb1 : Bw w W1 := by rw [<- hW1]; exact below1 w _
 have hw1 : w.alloc (.cells #[.int .i64 0, .string ⟨#[]⟩, .slice none 0 0, .slice none 0 0, .slice none 0 0, .int .u64 0, .int .u64 0, .string ⟨#[]⟩, .string ⟨#[]⟩, .string ⟨#[]⟩, .int .i64 0, .int .i64 0, .slice none 0 0, .int .u64 0, .int .i64 0, .slice none 0 0, .int .u64 0] 73) = W1 := hW1
 obtain ⟨c2, W5, hconv, hby5, hb5⟩ := dp_ W1 v
 obtain ⟨X, hX⟩ := eY w.heap.size
 have hr5 : RowL W5 X 73 [.int .i64 0, .string ⟨#[]⟩, .slice none 0 0, .slice none 0 0, .slice none 0 0, .int .u64 0, .int .u64 0, .string ⟨#[]⟩, .string ⟨#[]⟩, .string ⟨#[]⟩, .int .i64 0, .int .i64 0, .slice none 0 0, .int .u64 0, .int .i64 0, .slice none 0 0, .int .u64 0] := by rw [<- hX]; exact hr1.below hb5 hr1.lt
 have hb15 : Bw w W5 := hb1.trans (hb5.mono hb1.size)
 obtain ⟨p, hp⟩ : ∃ p : CallV, p = ⟨.slice none 0 0, .slice (some ⟨W1.heap.size, 0, none⟩) v.size c2, .slice At nt ct, .slice none 0 0, .slice none 0 0⟩ := ⟨_, rfl⟩
 obtain ⟨L, hL⟩ := eY (saidL (setS v ver tim tags) p)
 have hone : ∀ u ∈ L, u.oneCell' = true := fun u hu => by
  rw [<- hL, hp] at hu
  unfold saidL setS respC cmdC at hu
  simp only [List.cons_append, List.nil_append, List.mem_cons, List.not_mem_nil, or_false] at hu
  rcases hu with rfl | rfl | rfl | rfl | rfl | rfl | rfl | rfl | rfl | rfl | rfl | rfl | rfl | rfl | rfl | rfl | rfl <;> rfl
 obtain ⟨Ab, Ae, Aa⟩ := kq3 hone (all_oneCell_toArray hone) (show L.length = 17 by rw [<- hL]; rfl)
 have hl2 : L = [.int .i64 1, .string ⟨#[97]⟩, .slice none 0 0, .slice (some ⟨W1.heap.size, 0, none⟩) v.size c2, .slice At nt ct, .int .u64 18446744073709551615, .int .u64 0, .string ⟨#[]⟩, .string ⟨#[]⟩, .string ⟨#[]⟩, .int .i64 0, .int .i64 0, .slice none 0 0, .int .u64 ver, .int .i64 0, .slice none 0 0, .int .u64 tim] := by rw [<- hL, hp]; rfl
 obtain ⟨Af, HT, Ag, HB, HR, HL, HP, Ac, Ah, Ad⟩ := kq10 hl2 ht hby5 hb15 hr5 hL hp hX (show X < W5.heap.size from hr5.lt) (show X < W1.heap.size from by rw [<- hX]; exact hr1.lt)
 clear ht hby5 hb15 hr5 hL hp hb5 hb1 hr1 hone hl2
 go_enter Tryz.func33, Tryz.ntmps33
 go_upto_region 1 with (fail)
 try rw [hw1]
 try rw [hX]
 clear hw1 hX hW1
 go_wp2_with ((with_reducible refine ab_ (op := ⟨none, _, _, _, _, _⟩) rfl 73 _ _ rfl X 0 L.toArray ?_ ?_ ?_ ?_ Ae.o ?_); (· rfl); (· rw [Af.o]; rfl); (· exact HR.o.there (by rw [Nat.zero_add, zS, Aa.o]; decide)); (· rw [zS]; exact q73 L Aa.o); intro w9 hw9)
 have hr9 := HR.o.setCells (o := 0) L
 rw [f1_ L Aa.o] at hr9
 have hb9 := ai_ L 0 W5 (B := w.heap.size) (b := X) (by rw [Ac.o]; exact lR _)
 have hk9 : Kept [X] W5 (W5.setCells X 0 L) := am_ (L := [X]) (by simp) L 0 _ (Kept.refl _ _)
 have hbw : Bw w (W5.setCells X 0 L) := HB.o.trans hb9
 refine f0_ hr9 Aa.o rfl rfl rfl ⟨p, by rw [HL.o], ⟨?_, ?_⟩, by rw [HL.o]; exact Ab.o, hbw⟩
 ·rw [HP.o]
  refine ⟨⟨slv_nil2 _ _ _, ⟨fs_ v, by rw [show (setS v ver tim tags).cmd.val = aF_ v from rfl, aG_]; unfold maxLen; omega, _, c2, by rw [show (setS v ver tim tags).cmd.val = aF_ v from rfl, aG_], ?_⟩, ?_⟩, ⟨by show (0 : Nat) <= maxLen; omega, none, 0, rfl, fun i x h => by simp [setS] at h⟩, slv_nil2 _ _ _⟩
  ·exact go_ hk9 Ag.o (fun b off e => by cases e; simp; exact Nat.ne_of_gt Ad.o)
  exact (SlV.below HT.o hbw (lR _)).mono hbw.size
 rw [HP.o]
 exact ⟨none, 0, rfl, lR _⟩
theorem get34 (m : Int) (v : ByteArray) (ver tim : Int) (w : World) (hv : v.size <= 1000) :
  Calls Tryz.prog 34 #[.int .i64 m, .string v, .int .u64 ver, .int .u64 tim] w fun e w' => ∃ p : CallV, e = .returned (.agg (saidL (getS m v ver tim) p).toArray) /\ SaidOk w' w'.heap.size (getS m v ver tim) p /\ (∀ u ∈ saidL (getS m v ver tim) p, u.oneCell' = true) /\ Bw w w' := by
 obtain ⟨W1, hW1⟩ := eY (w.alloc (.cells ([.int .i64 0, .string ⟨#[]⟩, .slice none 0 0, .slice none 0 0, .slice none 0 0, .int .u64 0, .int .u64 0, .string ⟨#[]⟩, .string ⟨#[]⟩, .string ⟨#[]⟩, .int .i64 0, .int .i64 0, .slice none 0 0, .int .u64 0, .int .i64 0, .slice none 0 0, .int .u64 0] : List Value).toArray 73))
 have hr1 : RowL W1 w.heap.size 73 [.int .i64 0, .string ⟨#[]⟩, .slice none 0 0, .slice none 0 0, .slice none 0 0, .int .u64 0, .int .u64 0, .string ⟨#[]⟩, .string ⟨#[]⟩, .string ⟨#[]⟩, .int .i64 0, .int .i64 0, .slice none 0 0, .int .u64 0, .int .i64 0, .slice none 0 0, .int .u64 0] := by rw [<- hW1]; exact RowL.new w 73 _
 have hb1 : Bw w W1 := by rw [<- hW1]; exact below1 w _
 have hw1 : w.alloc (.cells #[.int .i64 0, .string ⟨#[]⟩, .slice none 0 0, .slice none 0 0, .slice none 0 0, .int .u64 0, .int .u64 0, .string ⟨#[]⟩, .string ⟨#[]⟩, .string ⟨#[]⟩, .int .i64 0, .int .i64 0, .slice none 0 0, .int .u64 0, .int .i64 0, .slice none 0 0, .int .u64 0] 73) = W1 := hW1
 obtain ⟨c2, W5, hconv, hby5, hb5⟩ := dp_ W1 v
 obtain ⟨W6, hW6⟩ := eY (W5.alloc (.cells ([.int .i64 m, .slice (some ⟨W1.heap.size, 0, none⟩) v.size c2, .int .u64 ver, .int .u64 18446744073709551615] : List Value).toArray 78))
 have hr6i : RowL W6 W5.heap.size 78 [.int .i64 m, .slice (some ⟨W1.heap.size, 0, none⟩) v.size c2, .int .u64 ver, .int .u64 18446744073709551615] := by rw [<- hW6]; exact RowL.new W5 78 _
 have hb6 : Bw W5 W6 := by rw [<- hW6]; exact below1 W5 _
 have hw6 : W5.alloc (.cells #[.int .i64 m, .slice (some ⟨W1.heap.size, 0, none⟩) v.size c2, .int .u64 ver, .int .u64 18446744073709551615] 78) = W6 := hW6
 obtain ⟨X, hX⟩ := eY w.heap.size
 have hr5 : RowL W6 X 73 [.int .i64 0, .string ⟨#[]⟩, .slice none 0 0, .slice none 0 0, .slice none 0 0, .int .u64 0, .int .u64 0, .string ⟨#[]⟩, .string ⟨#[]⟩, .string ⟨#[]⟩, .int .i64 0, .int .i64 0, .slice none 0 0, .int .u64 0, .int .i64 0, .slice none 0 0, .int .u64 0] := by rw [<- hX]; exact (hr1.below hb5 hr1.lt).below hb6 (lL hr1.lt hb5.size)
 have hb15 : Bw w W6 := (hb1.trans (hb5.mono hb1.size)).trans (hb6.mono (lT hb1.size hb5.size))
 obtain ⟨p, hp⟩ : ∃ p : CallV, p = ⟨.slice none 0 0, .slice none 0 0, .slice none 0 0, .slice (some ⟨W5.heap.size, 0, none⟩) 1 1, .slice none 0 0⟩ := ⟨_, rfl⟩
 obtain ⟨L, hL⟩ := eY (saidL (getS m v ver tim) p)
 have hone : ∀ u ∈ L, u.oneCell' = true := fun u hu => by
  rw [<- hL, hp] at hu
  unfold saidL getS respC cmdC at hu
  simp only [List.cons_append, List.nil_append, List.mem_cons, List.not_mem_nil, or_false] at hu
  rcases hu with rfl | rfl | rfl | rfl | rfl | rfl | rfl | rfl | rfl | rfl | rfl | rfl | rfl | rfl | rfl | rfl | rfl <;> rfl
 obtain ⟨Ab, Ai, Aa⟩ := kq3 hone (all_oneCell_toArray hone) (show L.length = 17 by rw [<- hL]; rfl)
 have hl2 : L = [.int .i64 4, .string ⟨#[97]⟩, .slice none 0 0, .slice none 0 0, .slice none 0 0, .int .u64 0, .int .u64 0, .string ⟨#[]⟩, .string ⟨#[]⟩, .string ⟨#[]⟩, .int .i64 0, .int .i64 0, .slice (some ⟨W5.heap.size, 0, none⟩) 1 1, .int .u64 0, .int .i64 0, .slice none 0 0, .int .u64 tim] := by rw [<- hL, hp]; rfl
 obtain ⟨Aj, Ak, HB, HR, Ah, HL, HP, Ad, Af, Ae, Ac, Ag⟩ := kq12 hl2 hby5 hb15 hr5 hr6i hL hp hX (show X < W1.heap.size from by rw [<- hX]; exact hr1.lt) (show X < W5.heap.size from by rw [<- hX]; exact lL hr1.lt hb5.size) hb6 (show W5.heap.size < W6.heap.size from hr6i.lt)
 have Al := kp (show W1.heap.size < W5.heap.size ∨ v.size = 0 from by
  rcases Nat.eq_zero_or_pos v.size with h0 | h0
  ·exact .inr h0
  obtain ⟨b, off, e, hb, _⟩ := hby5.2.2 0 (by rw [aG_]; exact h0)
  cases e
  exact .inl hb)
 clear hby5 hb15 hr5 hL hp hb5 hb1 hr1 hone hl2 hr6i hb6 hW6
 go_enter Tryz.func34, Tryz.ntmps34
 go_upto_region 1 with (fail)
 try rw [hw1]
 try rw [hX]
 clear hw1 hX hW1
 go_wp2_with (first
  | ((with_reducible refine cm_ (o := ⟨some 15, _, _, _, _, _⟩) rfl 37 _ rfl 78 _ 4 48 (.agg #[.int .i64 m, .slice (some ⟨W1.heap.size, 0, none⟩) v.size c2, .int .u64 ver, .int .u64 18446744073709551615]) #[.int .i64 m, .slice (some ⟨W1.heap.size, 0, none⟩) v.size c2, .int .u64 ver, .int .u64 18446744073709551615] Tryz.underlying37 iD_ (by decide) (by decide) ?_ rfl rfl ?_); (· rfl))
  | ((with_reducible refine ab_ (op := ⟨none, _, _, _, _, _⟩) rfl 73 _ _ rfl X 0 L.toArray ?_ ?_ ?_ ?_ Ai.o ?_); (· rfl); (· rw [Aj.o]; rfl); (· exact HR.o.there (by rw [Nat.zero_add, zS, Aa.o]; decide)); (· rw [zS]; exact q73 L Aa.o); intro w9 hw9))
 have hr9 := HR.o.setCells (o := 0) L
 rw [f1_ L Aa.o] at hr9
 have hb9 := ai_ L 0 W6 (B := w.heap.size) (b := X) (by rw [Ad.o]; exact lR _)
 have hk9 : Kept [X] W6 (W6.setCells X 0 L) := am_ (L := [X]) (by simp) L 0 _ (Kept.refl _ _)
 have hbw : Bw w (W6.setCells X 0 L) := HB.o.trans hb9
 refine f0_ hr9 Aa.o rfl rfl rfl ⟨p, by rw [HL.o], ⟨?_, ?_⟩, by rw [HL.o]; exact Ab.o, hbw⟩
 ·rw [HP.o]
  refine ⟨⟨slv_nil2 _ _ _, datg_nil _ _, slv_nil2 _ _ _⟩, ⟨by show (1 : Nat) <= maxLen; unfold maxLen; omega, _, 1, rfl, ?_⟩, slv_nil2 _ _ _⟩
  intro i r hi
  have h0 : i = 0 := by
   have := (gS.1 hi).1
   simp [getS] at this
   exact this
  subst h0
  cases hi
  refine ⟨W5.heap.size, 0, _, rfl, lL Ag.o hk9.size, (Ah.o.kept hk9 (by simp; exact Nat.ne_of_gt Ae.o)).cells, fs_ v, by rw [aG_]; unfold maxLen; omega, some ⟨W1.heap.size, 0, none⟩, c2, by rw [aG_], ?_⟩
  exact go_ hk9 ((Ak.o.below Ac.o (lR _)).mono Ac.o.size) (fun b off e => by cases e; simp; exact Nat.ne_of_gt Af.o)
 rw [HP.o]
 exact ⟨some ⟨W5.heap.size, 0, none⟩, 1, rfl, lR _⟩
end Go.Proofs.YtnjhpgmbfblgaaaGreat.Ord
