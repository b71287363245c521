/- Walk of history.Outputs. -/
import Derived.Test.YtnjhpgmbfblgaaaGreatMO0
import Derived.Test.YtnjhpgmbfblgaaaGreatV3
namespace Go.Proofs.YtnjhpgmbfblgaaaGreat.Ord
set_option maxRecDepth 100000
set_option maxHeartbeats 16000000
open Go.RowKit
set_option linter.unusedVariables false
set_option linter.unusedSimpArgs false
theorem f57_name : (Tryz.f57.name == "runtime.NumGoroutine") = false := by decide
theorem f57_body : Tryz.f57.body.isSome = true := rfl
theorem q_info57 : (Tryz.prog.info? 57).map (fun i => (i.zero, i.size, i.bytes)) = some (some (.slice none 0 0), 1, 24) := by kernel_rfl
theorem q_info40 : (Tryz.prog.info? 40).map (fun i => (i.zero, i.size, i.bytes)) = some (some (.agg #[.int .i64 0, .int .i64 0, .slice none 0 0, .int .u64 0, .int .i64 0, .slice none 0 0]), 6, 80) := by kernel_rfl
def lenV : Value -> Nat
 | .slice _ n _ => n
 | _ => 0
@[simp] theorem lenV_slice (A : Option Addr) (n c : Nat) : lenV (.slice A n c) = n := rfl
theorem toldOf_len (l : List CallR) (k : Nat) : (toldOf l k).length <= l.length := by
 unfold toldOf
 rw [List.length_map]
 exact List.length_filter_le _ _
theorem ses_range {x : CallR} (h : singleB x = true) : 0 <= x.ses /\ x.ses < 4096 := by
 have ho : rngB x = true := by
  cases e : rngB x
  ·rw [single_rng e] at h; cases h
  ·rfl
 simp only [rngB, Bool.and_eq_true, stepB_iff] at ho
 omega
theorem take_snoc' {L : List (CallR × CallV)} {i : Nat} {y : CallR × CallV} (hy : L[i]? = some y) : (L.take (i + 1)).map (·.1) = (L.take i).map (·.1) ++ [y.1] := by
 rw [List.take_add_one, hy]
 simp
theorem setCell_kept (w : World) (g j : Nat) (v : Value) : Kept [g] w (w.setCell ⟨g, j, none⟩ v) := (Kept.refl [g] w).setCell (p := ⟨g, j, none⟩) (by simp) v
theorem fit_single {l : List CallR} (h : Fit singleB l) {x : CallR} (hx : x ∈ l) : singleB x = true := by
 obtain ⟨pre, post, rfl⟩ := List.append_of_mem hx
 exact (h pre x post rfl).one
/-- what Outputs gives: the responses of each session, or the error -/
def OutPost (L : List (CallR × CallV)) (w : World) (e : Ending) (w' : World) : Prop :=
 Below w.heap.size w w' /\ ((¬ ValidP singleB (L.map (·.1)) /\ e = .returned (.tuple #[.slice none 0 0, .int .i64 2])) ∨
  (ValidP singleB (L.map (·.1)) /\ ∃ A c, e = .returned (.tuple #[.slice A (outsOf (L.map (·.1))).length c, .int .i64 0]) /\ OutsAt w' w'.heap.size A (outsOf (L.map (·.1)))))
section
variable {P : Program}
theorem step_slice_one {w : World} {ops : Array Oper} {o : Oper} {a : Act} {K : Act -> World -> Prop} {Q : Exit -> Act -> World -> Prop} {E : Prop} (hgd : o.guard = none) (t : TypeId) (x : Operand) (ho : o.op = .buildSlice t 1 #[(0, x)])
  (e : TypeId) (z : Value) (size bytes : Nat) (v : Value) (cs : Array Value) (ht : P.underlying t = some (.slice e)) (hinfo : (P.info? e).map (fun i => (i.zero, i.size, i.bytes)) = some (some z, size, bytes))
  (hsz : 0 < size) (hle : size <= 2 ^ 24) (hv : a.eval x = v) (hcs : v.cells = cs) (hs : cs.size = size)
  (h : K (a.put o.dst (.slice (some ⟨w.heap.size, 0, none⟩) 1 1)) (w.alloc (.cells cs e))) :
  if Region.wanted o (yielded ops a.tmps) = true then Oper.wp P o a w K Q else E := by
 rw [if_pos (show Region.wanted o (yielded ops a.tmps) = true by simp [Region.wanted, hgd])]
 obtain ⟨i, hi, hz, h4, h5⟩ := info_parts hinfo
 refine wp_buildSlice t e 1 #[(0, x)] ho cs i z ht hi hz (by omega) (by omega) ?_ h
 rw [h4, Nat.one_mul]
 have : ((#[(0, x)] : Array (Nat × Operand)).map fun (i, x) => (i, a.eval x)).toList = [(0, v)] := by simp [hv]
 rw [this, fill_one v size _ (by rw [hcs, hs]) (by simp), hcs]
end

theorem outputs21 (L : List (CallR × CallV)) (A : Option Addr) (n c : Nat) (w : World) (hn : L.length = n) (hl : n <= maxLen) (hA : RowCO w w.heap.size A L) (hs : ∀ x ∈ L, CallS x.1) (hsm : ∀ x ∈ L, Small x.1.cmd x.1.resp) :
  Calls Tryz.prog 21 #[.slice A n c] w (OutPost L w) := by
 have hn' : n <= 9223372036854775807 := by unfold maxLen at hl; omega
 have HV := kp (valid25 L A n c w hn hl hA hs)
 have HA := kp hA
 have HN := kp hn
 have HSM := kp hsm
 clear hA hn hs hsm
 go_enter Tryz.func21, Tryz.ntmps21
 go_wp2_with fail
 refine HV.out.mono ?_
 rintro e w1 ⟨b, rfl, hv, hb1⟩
 have HB1 := kp hb1
 clear hb1
 cases b
 ·have HNV := kp (show ¬ ValidP singleB (L.map (·.1)) from fun h => by have := hv.2 h; cases this)
  clear hv
  go_wp2_with fail
  go_ret2
  exact ⟨HB1.out, .inl ⟨HNV.out, rfl⟩⟩
 have hval := hv.1 rfl
 have hn4 : n <= 4096 := by have := hval.1; rw [List.length_map, HN.out] at this; exact this
 have HSES := kp (show ∀ x ∈ L, 0 <= x.1.ses /\ x.1.ses < 4096 from fun x hx => ses_range (fit_single hval.2.1 (List.mem_map_of_mem hx)))
 have HVAL := kp hval
 clear hv hval
 go_wp2_with fail
 go_loopw [4, 12] (fun s4 s12 wr => ∃ (k : Nat) (vs : List Value) (rs : List (List RV)), k <= n /\ s12 = .int .i64 k /\ OutI 57 wr w1.heap.size s4 vs rs /\ HoldsR rs ((L.take k).map (·.1)) (nSes ((L.take k).map (·.1))) /\ Below w1.heap.size w1 wr) (fun _ j _ => n - (intOf j).toNat)
 case atStart => exact ⟨0, [], [], Nat.zero_le _, by go_num, OutI.nil w1, by simp [HoldsR, outsN, nSes], Below.refl _ _⟩
 case round =>
  obtain ⟨k, vs, rs, hk, rfl, hO, hR, hb⟩ := hrel
  obtain ⟨w5, rfl⟩ : ∃ W, W = wr := ⟨_, rfl⟩
  obtain ⟨A1, c1, rfl⟩ := own_slice hO.own
  obtain ⟨m0, hm0⟩ : ∃ m, nSes ((L.take k).map (·.1)) = m := ⟨_, rfl⟩
  have hvl : vs.length = m0 := by rw [<- hO.len, hR.len, hm0]
  have hm4 : m0 <= 4096 := by
   rw [<- hm0]
   refine nSes_le fun x hx => ?_
   obtain ⟨y, hy, rfl⟩ := List.mem_map.1 hx
   exact (HSES.out y (List.mem_of_mem_take hy)).2
  rw [hm0] at hR
  rw [hvl] at hO ⊢
  have HO := kp hO
  have HR := kp hR
  have HB := kp hb
  have HM0 := kp hm0
  have HVL := kp hvl
  clear hO hR hb hm0 hvl
  by_cases hlt : k < n
  ·have hg2 : decide ((k : Int) < (n : Int)) = true := decide_eq_true (by omega)
   have hk1 : k < L.length := by rw [HN.out]; exact hlt
   obtain ⟨x, hx⟩ : ∃ x, L[k] = x := ⟨_, rfl⟩
   have hxk := List.getElem?_eq_getElem hk1
   rw [hx] at hxk
   have HTK := kp (take_snoc' hxk)
   obtain ⟨hs0, hs1⟩ := HSES.out x (List.mem_of_getElem? hxk)
   have HSMX := kp (HSM.out x (List.mem_of_getElem? hxk))
   obtain ⟨j, hj⟩ : ∃ j : Nat, x.1.ses = (j : Int) := ⟨x.1.ses.toNat, by omega⟩
   have hj4 : j < 4096 := by omega
   have HJ := kp hj
   have HB0 := kp (HB1.out.trans (HB.out.mono HB1.out.size))
   have hw1s : w.heap.size <= w1.heap.size := HB1.out.size
   obtain ⟨b, off, rfl, hbB, hckw, hokw⟩ := HA.out k x hxk
   have hck := hckw.below HB0.out hbB
   have hok := hokw.below HB0.out (Nat.le_refl _)
   have HOK := kp hokw.2
   clear hokw hckw
   have hone := call_oneC hok
   have hsz := call_len52 x
   have hlen : (callC x.1 x.2).length = 23 := rfl
   have hsA : (Tryz.prog.info? 52).map (·.size) = some (callC x.1 x.2).toArray.size := call_sizeA _ _ _ _ _ _ _ _ _ _ _ _ _ _ _ _ _ _ _ _ _ _ _
   obtain ⟨told, htold⟩ : ∃ y, x.1.told = y := ⟨_, rfl⟩
   have l0 : (callC x.1 x.2)[0]? = some (.int .i64 j) := by rw [<- hj]; rfl
   have l21 : (callC x.1 x.2)[21]? = some (.int .i64 told) := by rw [<- htold]; rfl
   have HCR := kp (fun (W : World) (b0 : Nat) (h : CellsAt W ⟨b0, 0, none⟩ (callC x.1 x.2)) => call_resp h)
   obtain ⟨l, hlc⟩ : ∃ l, callC x.1 x.2 = l := ⟨_, rfl⟩
   rw [hlc] at hck hone hsz hlen hsA l0 l21 HCR
   have Hk := kp hck
   have HZ := kp hsz
   have HZA := kp hsA
   have H1 := kp (all_oneCell_toArray hone)
   have HLEN := kp hlen
   have HL0 := kp l0
   have HL21 := kp l21
   have HTLD := kp htold
   clear hx hxk hs0 hs1 hj hbB hck hok hone hsz hlen hsA htold l0 l21 hlc
   go_wp2_with (first
    | ((with_reducible refine wpList_load_agg (o := ⟨some 15, _, _, _, _, _⟩) rfl 52 _ rfl ⟨b, off + k * 23, none⟩ ?_ l _ Hk.out Tryz.underlying52 rfl HZ.out ?_); (· rfl))
    | ((with_reducible refine wpList_store_at2 (op := ⟨none, _, _, _, _, _⟩) rfl 52 _ _ rfl w5.heap.size 0 l.toArray ?_ ?_ ?_ HZA.out H1.out ?_); (· rfl); (· rfl); (· exact there_zero _ _ _ _ HLEN.out); intro w7 hw7; have hx7 : RowL w7 w5.heap.size 52 l /\ Below w5.heap.size w5 w7 := (by rw [hw7]; exact stored_zero w5 52 l _ HLEN.out); clear hw7; have HX7 := kp hx7.1; have HB7 := kp hx7.2; clear hx7))
   go_loopw [4] (fun s4 W => ∃ (m : Nat) (vs : List Value) (rs : List (List RV)), m0 <= m /\ (m <= m0 ∨ m <= j + 1) /\ lenV s4 = m /\ OutI 57 W w1.heap.size s4 vs rs /\ HoldsR rs ((L.take k).map (·.1)) m /\ RowL W w5.heap.size 52 l /\ Below w1.heap.size w1 W) (fun s4 _ => j + 1 - lenV s4)
   case atStart => exact ⟨m0, vs, rs, Nat.le_refl _, .inl (Nat.le_refl _), rfl, HO.out.below HB7.out, HR.out, HX7.out, HB.out.trans (HB7.out.mono HB.out.size)⟩
   case round =>
    obtain ⟨m, vs2, rs2, hm1, hm2, hlv, hO2, hR2, hX2, hb2⟩ := hrel
    obtain ⟨w8, rfl⟩ : ∃ W, W = wr := ⟨_, rfl⟩
    obtain ⟨A2, c2, rfl⟩ := own_slice hO2.own
    have hvl2 : vs2.length = m := by rw [<- hO2.len, hR2.len]
    rw [hvl2] at hO2 ⊢
    have HO2 := kp hO2
    have HR2 := kp hR2
    have HX2 := kp hX2
    have HB2 := kp hb2
    have HVL2 := kp hvl2
    have x0 := hX2.cell HL0.out
    have hmm : m <= 4096 := by omega
    have hb1s : w1.heap.size <= w8.heap.size := hb2.size
    clear hO2 hR2 hX2 hb2 hvl2 hlv
    by_cases hle : m <= j
    ·have hg4 : decide ((m : Int) <= (j : Int)) = true := decide_eq_true (by omega)
     have hcs : (Value.slice none 0 0).cells = #[Value.slice none 0 0] := rfl
     have HCSZ := kp hcs
     clear hcs
     have hown := HO2.out.own
     rw [HVL2.out] at hown
     have HOWN := kp hown
     clear hown
     go_wp2_with (first
      | ((with_reducible refine wpList_slice_one (o := ⟨some 22, _, _, _, _, _⟩) rfl 53 _ rfl 57 _ 1 24 (.slice none 0 0) #[.slice none 0 0] Tryz.underlying53 q_info57 ?_ ?_ ?_ HCSZ.out ?_ ?_); (· decide); (· decide); (· rfl); (· rfl))
      | ((with_reducible refine wpList_append_g (o := ⟨some 23, _, _, _, _, _⟩) rfl _ _ 53 rfl w1.heap.size 57 _ 1 24 Tryz.underlying53 q_info57 ?_ ?_ (.slice A2 m c2) m vs2 ?_ ?_ ⟨w8.heap.size, 0, none⟩ 1 1 [.slice none 0 0] ?_ ?_ ?_ ?_ ?_ ?_ ?_ ?_); (· rfl); (· decide); (· rfl); (· exact (Kept.of_below (L := []) (below1 w8 _)).own2 HOWN.out (by simp)); (· rfl); (· rfl); (· intro i u hi; rw [Addr.add_mid, Nat.zero_add]; exact (RowL.new w8 57 [.slice none 0 0]).cell hi); (· intro u hu; simp at hu; subst hu; rfl); (· unfold maxLen; omega); (· omega); (· simp; omega); intro v9 w9 ho9 hg9 hb9; have HO9 := kp ho9; have HG9 := kp hg9; have HB9 := kp hb9; clear ho9 hg9 hb9))
     have hO9 := (HO2.out.below (below1 w8 (.cells #[.slice none 0 0] 57))).push (by rw [HVL2.out]; exact HO9.out) HG9.out HB9.out
     have hkw : Kept (Value.slice A2 m c2).ownBlock.toList w8 w9 := ((Kept.refl _ w8).alloc _).trans (kept_of_grown HG9.out)
     have hX9 := HX2.out.kept hkw (not_own (HX2.out.ne_own HOWN.out (by decide)))
     have hB9 := HB2.out.trans (hkw.below HB2.out.size (fun b hb => own_ge HOWN.out hb))
     have hlv9 : lenV v9 = m + 1 := by
      obtain ⟨A9, c9, rfl⟩ := own_slice HO9.out
      rfl
     have HO9' := kp hO9
     have HX9 := kp hX9
     have HBB9 := kp hB9
     clear hO9 hkw hX9 hB9 x0
     go_roundw
     case rel => exact ⟨m + 1, _, _, by omega, .inr (by omega), hlv9, HO9'.out, HR2.out.push (by rw [HM0.out]; exact hm1), HX9.out, HBB9.out⟩
     case measure => rw [hlv9]; simp; omega
    ·have hg4 : decide ((m : Int) <= (j : Int)) = false := decide_eq_false (by omega)
     have hmn : m = max m0 (j + 1) := by omega
     have HNS := kp (show nSes ((L.take (k + 1)).map (·.1)) = m by rw [HTK.out, nSes_snoc, HM0.out, HJ.out, hmn]; omega)
     clear hmn
     have x21 := HX2.out.cell HL21.out
     cases ht : decide (0 <= told)
     ·have HT := kp (show ¬ 0 <= x.1.told by rw [HTLD.out]; exact of_decide_eq_false ht)
      go_wp2_with fail
      go_roundw
      case rel => exact ⟨k + 1, vs2, rs2, by omega, by go_num, HO2.out, by rw [HNS.out, HTK.out]; exact HR2.out.no HT.out, HB2.out⟩
      case measure => simp [intOf]; omega
     ·have HT := kp (show 0 <= x.1.told by rw [HTLD.out]; exact of_decide_eq_true ht)
      have hjm : j < m := by omega
      have hij : (j : Int) < (m : Int) := by omega
      obtain ⟨g, hg⟩ : ∃ g, A2 = some ⟨g, 0, none⟩ := by
       rcases owns_shape HO2.out.own (by decide) with ⟨e1, e2, e3⟩ | ⟨g, cap, e1, e2, e3, e4, e5⟩
       ·have := HVL2.out; omega
       ·cases e1; exact ⟨g, rfl⟩
      subst hg
      have hjv : j < vs2.length := by rw [HVL2.out]; exact hjm
      have hjr : j < rs2.length := by rw [HO2.out.len]; exact hjv
      obtain ⟨v3, hv3⟩ : ∃ v, vs2[j]? = some v := ⟨_, List.getElem?_eq_getElem hjv⟩
      obtain ⟨r3, hr3⟩ : ∃ r, rs2[j]? = some r := ⟨_, List.getElem?_eq_getElem hjr⟩
      have hrow := HO2.out.row j v3 r3 hv3 hr3
      obtain ⟨A3, c3, rfl⟩ := own_slice hrow
      obtain ⟨q, hq⟩ : ∃ q, r3.length = q := ⟨_, rfl⟩
      have hq4 : q <= 4096 := by
       have h1 : (rs2.map fun r => r.map (·.1))[j]? = some (r3.map (·.1)) := by rw [List.getElem?_map, hr3]; rfl
       have h2 := HR2.out
       unfold HoldsR at h2
       rw [h2] at h1
       unfold outsN at h1
       rw [List.getElem?_map, List.getElem?_range hjm] at h1
       have h3 := congrArg List.length (Option.some.inj h1)
       rw [List.length_map, hq] at h3
       have h4 := toldOf_len ((L.take k).map (·.1)) j
       simp only [List.length_map, List.length_take] at h4
       omega
      have hcell : w8.cell? ⟨g, j, none⟩ = some (.slice A3 r3.length c3) := by
       have h1 := HO2.out.own
       rw [HVL2.out] at h1
       rw [h1.cellAt j (by omega), hv3]
      have hgl : g < w8.heap.size := (HO2.out.own.lt g rfl).2
      have hngo : (Value.slice A3 r3.length c3).ownBlock ≠ some g := fun e => HO2.out.sepo _ (List.mem_of_getElem? hv3) g e rfl
      rw [hq] at hrow hcell hv3 hngo
      have HROW := kp hrow
      have HCELL := kp hcell
      have HV3 := kp hv3
      have HR3 := kp hr3
      have HQ := kp hq
      have HNGO := kp hngo
      have HRC := kp (HCR.out _ _ HX2.out.cells)
      have hsr : (Tryz.prog.info? 40).map (·.size) = some (respC x.1.resp x.2.vi x.2.vn).length := resp_sizeL _ _ _ _ _ _
      have HOK8 := kp (show RespOk w8.drew w.heap.size x.1.resp x.2.vi x.2.vn from HOK.out.below (below_drewn (HB1.out.trans (HB2.out.mono HB1.out.size))) (Nat.le_refl _))
      have HANS := kp (answer22 w.heap.size x.1.resp x.2.vi x.2.vn w8.drew HOK8.out (Nat.le_trans hw1s hb1s) (by have := HSMX.out.items; omega) (by have := HSMX.out.nums; omega) (fun y hy => by have := HSMX.out.vals y hy; omega))
      have HSR := kp hsr
      have HCR2 := kp (show ∀ (W : World), RowL W w5.heap.size 52 l -> CellsAt W ⟨w5.heap.size, 13, none⟩ (respC x.1.resp x.2.vi x.2.vn) from fun W h => by simpa using HCR.out W _ h.cells)
      clear hrow hcell hv3 hr3 hq hngo hsr hjv hjr
      obtain ⟨l2, hl2⟩ : ∃ l2, respC x.1.resp x.2.vi x.2.vn = l2 := ⟨_, rfl⟩
      rw [hl2] at HRC HANS HSR HCR2
      clear hl2
      go_upto_region 10 with (fail)
      refine wp_region_held_drew (S := fun W => RowL W w5.heap.size 52 l) (by kernel_rfl) HX2.out (fun hS => ?_)
      have HS := kp hS
      clear hS
      refine wpAnyH_take (i := 0) (oi := ⟨some 27, .move (.tmp 4), 53, "history.go:196", #[], none⟩) (v := ?_) rfl (by kernel_rfl) (by kernel_rfl) (by kernel_rfl) (fun _ _ _ h => h) (Or.inl ⟨by rfl, ?_⟩) HS.out ?_
      rotate_left 1
      ·intro w hw; go_simp; try with_reducible rfl
      simp only [Act.put, z1, z2, z3]
      refine wpAnyH_take (i := 1) (oi := ⟨some 28, .fieldAddr 52 (.tmp 6) 0, 0, "history.go:196", #[], none⟩) (v := ?_) rfl (by kernel_rfl) (by kernel_rfl) (by kernel_rfl) (fun _ _ _ h => h) (Or.inl ⟨by rfl, ?_⟩) HS.out ?_
      rotate_left 1
      ·intro w hw; go_simp; try with_reducible rfl
      simp only [Act.put, z1, z2, z3]
      refine wpAnyH_take (i := 2) (oi := ⟨some 29, .load 3 (.tmp 28), 3, "history.go:196", #[⟨1, .data⟩], none⟩) (v := ?_) rfl (by kernel_rfl) (by kernel_rfl) (by kernel_rfl) (fun _ _ _ h => h) (Or.inl ⟨by rfl, ?_⟩) HS.out ?_
      rotate_left 1
      ·intro w hw; have hw3 := hw.cell (j := 0) HL0.out; go_simp; try with_reducible rfl
      simp only [Act.put, z1, z2, z3]
      refine wpAnyH_take (i := 3) (oi := ⟨some 30, .move (.tmp 4), 53, "history.go:196", #[], none⟩) (v := ?_) rfl (by kernel_rfl) (by kernel_rfl) (by kernel_rfl) (fun _ _ _ h => h) (Or.inl ⟨by rfl, ?_⟩) HS.out ?_
      rotate_left 1
      ·intro w hw; go_simp; try with_reducible rfl
      simp only [Act.put, z1, z2, z3]
      refine wpAnyH_take (i := 4) (oi := ⟨some 31, .fieldAddr 52 (.tmp 6) 0, 0, "history.go:196", #[], none⟩) (v := ?_) rfl (by kernel_rfl) (by kernel_rfl) (by kernel_rfl) (fun _ _ _ h => h) (Or.inl ⟨by rfl, ?_⟩) HS.out ?_
      rotate_left 1
      ·intro w hw; go_simp; try with_reducible rfl
      simp only [Act.put, z1, z2, z3]
      refine wpAnyH_take (i := 5) (oi := ⟨some 32, .load 3 (.tmp 31), 3, "history.go:196", #[⟨4, .data⟩], none⟩) (v := ?_) rfl (by kernel_rfl) (by kernel_rfl) (by kernel_rfl) (fun _ _ _ h => h) (Or.inl ⟨by rfl, ?_⟩) HS.out ?_
      rotate_left 1
      ·intro w hw; have hw3 := hw.cell (j := 0) HL0.out; go_simp; try with_reducible rfl
      simp only [Act.put, z1, z2, z3]
      refine wpAnyH_take (i := 6) (oi := ⟨some 33, .indexAddr 53 (.tmp 30) (.tmp 32), 0, "history.go:196", #[⟨3, .data⟩, ⟨5, .data⟩], none⟩) (v := ?_) rfl (by kernel_rfl) (by kernel_rfl) (by kernel_rfl) (fun _ _ _ h => h) (Or.inl ⟨by rfl, ?_⟩) HS.out ?_
      rotate_left 1
      ·intro w hw; go_simp; try with_reducible rfl
      simp only [Act.put, z1, z2, z3]
      refine wpAnyH_take (i := 8) (oi := ⟨some 35, .fieldAddr 52 (.tmp 6) 4, 0, "history.go:196", #[], none⟩) (v := ?_) rfl (by kernel_rfl) (by kernel_rfl) (by kernel_rfl) (fun _ _ _ h => h) (Or.inl ⟨by rfl, ?_⟩) HS.out ?_
      rotate_left 1
      ·intro w hw; go_simp; try with_reducible rfl
      simp only [Act.put, z1, z2, z3]
      refine wpAnyH_take (i := 9) (oi := ⟨some 36, .load 40 (.tmp 35), 40, "history.go:196", #[⟨8, .data⟩], none⟩) (v := .agg l2.toArray) rfl (by kernel_rfl) (by kernel_rfl) (by kernel_rfl) (fun _ _ _ h => h) (yields_aggL rfl 40 _ rfl ⟨w5.heap.size, 13, none⟩ rfl l2 _ (fun W hW => (HCR2.out W hW)) Tryz.underlying40 HSR.out) HS.out ?_
      simp only [Act.put, z1, z2, z3]
      refine wpAnyH_ready (rs := [7, 10]) (by kernel_rfl) (by simp) ?_
      refine AllReadyH.cons (o := ⟨some 34, .load 57 (.tmp 33), 57, "history.go:196", #[⟨6, .data⟩], none⟩) rfl (fun K hK => ?_) (AllReadyH.cons (o := ⟨some 37, .call ⟨.value (.func 57), #[.tmp 36], #[40]⟩, 40, "history.go:196", #[⟨9, .data⟩], none⟩) rfl (fun K hK => ?_) (AllReadyH.nil))
      ·
       have cw : w8.drew.cell? ⟨g, j, none⟩ = some (.slice A3 q c3) := HCELL.out
       go_simp
       have hS := HX2.out.drew
       refine hK.out _ _ hS (fun _ => ?_)
       clear cw
       clear hK K HS
       have HS := kp hS
       clear hS
       try simp only [Act.put, z1, z2, z3]
       refine wpAnyH_ready (rs := [10]) (by kernel_rfl) (by simp) ?_
       refine AllReadyH.cons (o := ⟨some 37, .call ⟨.value (.func 57), #[.tmp 36], #[40]⟩, 40, "history.go:196", #[⟨9, .data⟩], none⟩) rfl (fun K hK => ?_) (AllReadyH.nil)
       with_reducible refine step_call_any rfl 57 _ _ rfl #[.agg l2.toArray] ?_ Tryz.f57 Tryz.func57 f57_name f57_body (fun u w6 => ∃ vi' vn', u = .agg (respC x.1.resp vi' vn').toArray /\ ((∃ A c, vi' = .slice A x.1.resp.items.length c) /\ ∃ A' c', vn' = .slice A' x.1.resp.nums.length c') /\ Stab (fun k => w.heap.size <= k /\ k < w8.drew.heap.size) w6 (fun W => RespOk W W.heap.size x.1.resp vi' vn') /\ Below w8.drew.heap.size w8.drew w6) ?_ ?_
       ·simp only [y1, y2, y3]; rfl
       ·exact HANS.out.mono fun e w' ⟨vi', vn', h1, h2, h3, h4⟩ => ⟨_, h1, vi', vn', rfl, h2, h3, h4⟩
       rintro u w6 ⟨vi', vn', rfl, hsh, hst6, hb6⟩
       have HB6 := kp hb6
       have HST6 := kp hst6
       have HSH := kp hsh
       have HX6 := kp (HX2.out.drew.of_block (hb6.block _ HX2.out.lt))
       have HC6 := kp (show w6.cell? ⟨g, j, none⟩ = some (.slice A3 q c3) from (hb6.cell (p := ⟨g, j, none⟩) hgl).trans HCELL.out)
       clear hsh hst6 hb6
       have hS := HX6.out
       refine hK.out _ _ hS (fun _ => ?_)
       clear hK K HS
       have HS := kp hS
       clear hS
       try simp only [Act.put, z1, z2, z3]
       refine wpAnyH_ready (rs := [11]) (by kernel_rfl) (by simp) ?_
       refine AllReadyH.cons (o := ⟨some 38, .buildSlice 57 1 #[(0, .tmp 37)], 57, "history.go:196", #[⟨10, .data⟩], none⟩) rfl (fun K hK => ?_) (AllReadyH.nil)
       have hcr : (Value.agg (respC x.1.resp vi' vn').toArray).cells = (respC x.1.resp vi' vn').toArray := rfl
       with_reducible refine step_slice_one rfl 57 _ rfl 40 _ 6 80 (.agg (respC x.1.resp vi' vn').toArray) (respC x.1.resp vi' vn').toArray Tryz.underlying57 q_info40 ?_ ?_ ?_ hcr ?_ ?_
       ·decide
       ·decide
       ·rfl
       ·rfl
       clear hcr
       have HB67 := kp (below1 w6 (.cells (respC x.1.resp vi' vn').toArray 40))
       have HN7 := kp (RowL.new w6 40 (respC x.1.resp vi' vn'))
       obtain ⟨w7, hw7⟩ : ∃ W, w6.alloc (.cells (respC x.1.resp vi' vn').toArray 40) = W := ⟨_, rfl⟩
       obtain ⟨g7, hg7⟩ : ∃ W, w6.heap.size = W := ⟨_, rfl⟩
       rw [hw7] at HB67 HN7 ⊢
       have HX7b := kp (HX6.out.of_block (HB67.out.block _ HX6.out.lt))
       have HC7 := kp (show w7.cell? ⟨g, j, none⟩ = some (.slice A3 q c3) from (HB67.out.cell (p := ⟨g, j, none⟩) (Nat.lt_of_lt_of_le hgl HB6.out.size)).trans HC6.out)
       clear hw7 hg7
       have hS := HX7b.out
       refine hK.out _ _ hS (fun _ => ?_)
       clear hK K HS
       have HS := kp hS
       clear hS
       try simp only [Act.put, z1, z2, z3]
       refine wpAnyH_ready (rs := [12]) (by kernel_rfl) (by simp) ?_
       refine AllReadyH.cons (o := ⟨some 39, .call ⟨.builtin .append, #[.tmp 34, .tmp 38], #[57, 57]⟩, 57, "history.go:196", #[⟨7, .data⟩, ⟨11, .data⟩, ⟨10, .chain⟩], none⟩) rfl (fun K hK => ?_) (AllReadyH.nil)
       have hb8 : Below w8.heap.size w8 w7 := (below_drewn (Below.refl _ _)).trans (HB6.out.trans (HB67.out.mono HB6.out.size))
       have hown7 : w7.ownsRow w1.heap.size 40 6 (.slice A3 q c3) q (r3.flatMap rv) := (Kept.of_below (L := []) hb8).own2 HROW.out (by simp)
       with_reducible refine step_append_g rfl _ _ 57 rfl w1.heap.size 40 _ 6 80 Tryz.underlying57 q_info40 ?_ ?_ (.slice A3 q c3) q (r3.flatMap rv) ?_ hown7 ⟨w6.heap.size, 0, none⟩ 1 1 (respC x.1.resp vi' vn') ?_ ?_ ?_ ?_ ?_ ?_ ?_ ?_
       ·rfl
       ·decide
       ·rfl
       ·rfl
       ·rfl
       ·intro i u hi; rw [Addr.add_mid, Nat.zero_add]; exact HN7.out.cell hi
       ·obtain ⟨⟨a1, a2, rfl⟩, a3, a4, rfl⟩ := HSH.out; intro u hu; simp only [respC, List.mem_cons, List.not_mem_nil, or_false] at hu; rcases hu with rfl | rfl | rfl | rfl | rfl | rfl <;> rfl
       ·unfold maxLen; omega
       ·omega
       ·exact Nat.le_trans hb1s hb8.size
       intro v9 w9 ho9 hg9 hb9
       obtain ⟨A9, c9, rfl⟩ := own_slice ho9
       have hkw := kept_of_grown hg9
       have HX9 := kp (HX7b.out.kept hkw (not_own (HX7b.out.ne_own hown7 (by decide))))
       have hO7 := HO2.out.below hb8
       have q9 : w9.cell? ⟨g, j, none⟩ = some (.slice A3 q c3) := (World.cell?_of_block (a := ⟨g, j, none⟩) (hkw.block g (Nat.lt_of_lt_of_le hgl hb8.size) (not_own HNGO.out))).trans HC7.out
       have hx7 : Stab (fun b => (Value.slice (some ⟨g, 0, none⟩) vs2.length c2).ownBlock = some b ∨ ∃ v ∈ vs2, v.ownBlock = some b) w7 (fun W => RespOk W W.heap.size x.1.resp vi' vn') := by
        refine HST6.out.step (Kept.of_below (L := []) HB67.out) (by simp) fun k hk => .inl ?_
        rcases hk with h1 | ⟨v, hv, h1⟩
        ·have h2 := HO2.out.own
         rw [<- HVL2.out] at h2
         have := h2.lt k h1
         exact ⟨Nat.le_trans hw1s this.1, this.2⟩
        ·obtain ⟨i, hi⟩ := List.mem_iff_getElem?.1 hv
         have := HO2.out.vlt hi h1
         exact ⟨Nat.le_trans hw1s this.1, this.2⟩
       have hown9 : w9.ownsRow w1.heap.size 40 6 (.slice A9 (q + 1) c9) (r3.length + 1) (r3.flatMap rv ++ rv (x.1.resp, vi', vn')) := by rw [HQ.out]; exact ho9
       rw [<- HVL2.out] at hO7
       have hput := hO7.put HV3.out HR3.out hown9 hg9 hb9 hx7
       have z9 : w9.frozen? ⟨g, j, none⟩ = false := by
        have h1 := (hkw.own2 hO7.own (fun b hb e => HNGO.out (by simp at hb; rw [hb]; exact e.symm ▸ rfl)))
        exact h1.frozenAt j
       have HPUT := kp hput
       have HBW := kp (show Below w1.heap.size w1 (w9.setCell ⟨g, j, none⟩ (.slice A9 (q + 1) c9)) from HB2.out.trans ((hb8.mono HB2.out.size).trans ((hkw.below (Nat.le_trans HB2.out.size hb8.size) (fun b hb => own_ge hown7 hb)).trans ((setCell_kept w9 g j (.slice A9 (q + 1) c9)).below (Nat.le_trans HB2.out.size (Nat.le_trans hb8.size hkw.size)) (fun b hb => by simp at hb; subst hb; exact (HO2.out.own.lt _ rfl).1)))))
       have HX10 := kp (HX9.out.setOther (a := ⟨g, j, none⟩) (fun e => by have := HX9.out.ne_own (hkw.own2 hO7.own (fun b hb e => HNGO.out (by simp at hb; rw [hb]; exact e.symm ▸ rfl))) (by decide); exact this (by rw [e]; rfl)) (.slice A9 (q + 1) c9))
       clear ho9 hg9 hb9 hkw hO7 hx7 hown9 hput hown7 hb8
       have hS := HX9.out
       refine hK.out _ _ hS (fun _ => ?_)
       clear hK K HS
       have HS := kp hS
       clear hS
       try simp only [Act.put, z1, z2, z3]
       refine wpAnyH_take (i := 13) (oi := ⟨some 40, .indexAddr 53 (.tmp 27) (.tmp 29), 0, "history.go:196", #[⟨0, .data⟩, ⟨2, .data⟩, ⟨0, .phase⟩, ⟨1, .phase⟩, ⟨2, .phase⟩, ⟨3, .phase⟩, ⟨4, .phase⟩, ⟨5, .phase⟩, ⟨6, .phase⟩, ⟨7, .phase⟩, ⟨8, .phase⟩, ⟨9, .phase⟩, ⟨10, .phase⟩, ⟨11, .phase⟩, ⟨12, .phase⟩], none⟩) (v := ?_) rfl (by kernel_rfl) (by kernel_rfl) (by kernel_rfl) (fun _ _ _ h => h) (Or.inl ⟨by rfl, ?_⟩) HS.out ?_
       rotate_left 1
       ·intro w hw; go_simp; try with_reducible rfl
       simp only [Act.put, z1, z2, z3]
       refine wpAnyH_ready (rs := [14]) (by kernel_rfl) (by simp) ?_
       refine AllReadyH.cons (o := ⟨none, .store 57 (.tmp 40) (.tmp 39), 0, "history.go:196", #[⟨13, .data⟩, ⟨12, .data⟩, ⟨12, .chain⟩, ⟨0, .phase⟩, ⟨1, .phase⟩, ⟨2, .phase⟩, ⟨3, .phase⟩, ⟨4, .phase⟩, ⟨5, .phase⟩, ⟨6, .phase⟩, ⟨7, .phase⟩, ⟨8, .phase⟩, ⟨9, .phase⟩, ⟨10, .phase⟩, ⟨11, .phase⟩, ⟨12, .phase⟩], none⟩) rfl (fun K hK => ?_) (AllReadyH.nil)
       go_simp
       have hS := HX10.out
       refine hK.out _ _ hS (fun _ => ?_)
       clear hK K HS
       have HS := kp hS
       clear hS
       try simp only [Act.put, z1, z2, z3]
       refine wpAnyH_done (by kernel_rfl) ?_ _
       go_wp2_with fail
       go_roundw
       case rel => exact ⟨k + 1, _, _, by omega, by go_num, by rw [<- HVL2.out]; exact HPUT.out, by rw [HNS.out, HTK.out]; exact HR2.out.put HJ.out HT.out hjm HR3.out rfl, HBW.out⟩
       case measure => simp [intOf]; omega
      ·
       with_reducible refine step_call_any rfl 57 _ _ rfl #[.agg l2.toArray] ?_ Tryz.f57 Tryz.func57 f57_name f57_body (fun u w6 => ∃ vi' vn', u = .agg (respC x.1.resp vi' vn').toArray /\ ((∃ A c, vi' = .slice A x.1.resp.items.length c) /\ ∃ A' c', vn' = .slice A' x.1.resp.nums.length c') /\ Stab (fun k => w.heap.size <= k /\ k < w8.drew.heap.size) w6 (fun W => RespOk W W.heap.size x.1.resp vi' vn') /\ Below w8.drew.heap.size w8.drew w6) ?_ ?_
       ·simp only [y1, y2, y3]; rfl
       ·exact HANS.out.mono fun e w' ⟨vi', vn', h1, h2, h3, h4⟩ => ⟨_, h1, vi', vn', rfl, h2, h3, h4⟩
       rintro u w6 ⟨vi', vn', rfl, hsh, hst6, hb6⟩
       have HB6 := kp hb6
       have HST6 := kp hst6
       have HSH := kp hsh
       have HX6 := kp (HX2.out.drew.of_block (hb6.block _ HX2.out.lt))
       have HC6 := kp (show w6.cell? ⟨g, j, none⟩ = some (.slice A3 q c3) from (hb6.cell (p := ⟨g, j, none⟩) hgl).trans HCELL.out)
       clear hsh hst6 hb6
       have hS := HX6.out
       refine hK.out _ _ hS (fun _ => ?_)
       clear hK K HS
       have HS := kp hS
       clear hS
       try simp only [Act.put, z1, z2, z3]
       refine wpAnyH_ready (rs := [7, 11]) (by kernel_rfl) (by simp) ?_
       refine AllReadyH.cons (o := ⟨some 34, .load 57 (.tmp 33), 57, "history.go:196", #[⟨6, .data⟩], none⟩) rfl (fun K hK => ?_) (AllReadyH.cons (o := ⟨some 38, .buildSlice 57 1 #[(0, .tmp 37)], 57, "history.go:196", #[⟨10, .data⟩], none⟩) rfl (fun K hK => ?_) (AllReadyH.nil))
       ·
        have cw : w6.cell? ⟨g, j, none⟩ = some (.slice A3 q c3) := HC6.out
        go_simp
        have hS := HX6.out
        refine hK.out _ _ hS (fun _ => ?_)
        clear cw
        clear hK K HS
        have HS := kp hS
        clear hS
        try simp only [Act.put, z1, z2, z3]
        refine wpAnyH_ready (rs := [11]) (by kernel_rfl) (by simp) ?_
        refine AllReadyH.cons (o := ⟨some 38, .buildSlice 57 1 #[(0, .tmp 37)], 57, "history.go:196", #[⟨10, .data⟩], none⟩) rfl (fun K hK => ?_) (AllReadyH.nil)
        have hcr : (Value.agg (respC x.1.resp vi' vn').toArray).cells = (respC x.1.resp vi' vn').toArray := rfl
        with_reducible refine step_slice_one rfl 57 _ rfl 40 _ 6 80 (.agg (respC x.1.resp vi' vn').toArray) (respC x.1.resp vi' vn').toArray Tryz.underlying57 q_info40 ?_ ?_ ?_ hcr ?_ ?_
        ·decide
        ·decide
        ·rfl
        ·rfl
        clear hcr
        have HB67 := kp (below1 w6 (.cells (respC x.1.resp vi' vn').toArray 40))
        have HN7 := kp (RowL.new w6 40 (respC x.1.resp vi' vn'))
        obtain ⟨w7, hw7⟩ : ∃ W, w6.alloc (.cells (respC x.1.resp vi' vn').toArray 40) = W := ⟨_, rfl⟩
        obtain ⟨g7, hg7⟩ : ∃ W, w6.heap.size = W := ⟨_, rfl⟩
        rw [hw7] at HB67 HN7 ⊢
        have HX7b := kp (HX6.out.of_block (HB67.out.block _ HX6.out.lt))
        have HC7 := kp (show w7.cell? ⟨g, j, none⟩ = some (.slice A3 q c3) from (HB67.out.cell (p := ⟨g, j, none⟩) (Nat.lt_of_lt_of_le hgl HB6.out.size)).trans HC6.out)
        clear hw7 hg7
        have hS := HX7b.out
        refine hK.out _ _ hS (fun _ => ?_)
        clear hK K HS
        have HS := kp hS
        clear hS
        try simp only [Act.put, z1, z2, z3]
        refine wpAnyH_ready (rs := [12]) (by kernel_rfl) (by simp) ?_
        refine AllReadyH.cons (o := ⟨some 39, .call ⟨.builtin .append, #[.tmp 34, .tmp 38], #[57, 57]⟩, 57, "history.go:196", #[⟨7, .data⟩, ⟨11, .data⟩, ⟨10, .chain⟩], none⟩) rfl (fun K hK => ?_) (AllReadyH.nil)
        have hb8 : Below w8.heap.size w8 w7 := (below_drewn (Below.refl _ _)).trans (HB6.out.trans (HB67.out.mono HB6.out.size))
        have hown7 : w7.ownsRow w1.heap.size 40 6 (.slice A3 q c3) q (r3.flatMap rv) := (Kept.of_below (L := []) hb8).own2 HROW.out (by simp)
        with_reducible refine step_append_g rfl _ _ 57 rfl w1.heap.size 40 _ 6 80 Tryz.underlying57 q_info40 ?_ ?_ (.slice A3 q c3) q (r3.flatMap rv) ?_ hown7 ⟨w6.heap.size, 0, none⟩ 1 1 (respC x.1.resp vi' vn') ?_ ?_ ?_ ?_ ?_ ?_ ?_ ?_
        ·rfl
        ·decide
        ·rfl
        ·rfl
        ·rfl
        ·intro i u hi; rw [Addr.add_mid, Nat.zero_add]; exact HN7.out.cell hi
        ·obtain ⟨⟨a1, a2, rfl⟩, a3, a4, rfl⟩ := HSH.out; intro u hu; simp only [respC, List.mem_cons, List.not_mem_nil, or_false] at hu; rcases hu with rfl | rfl | rfl | rfl | rfl | rfl <;> rfl
        ·unfold maxLen; omega
        ·omega
        ·exact Nat.le_trans hb1s hb8.size
        intro v9 w9 ho9 hg9 hb9
        obtain ⟨A9, c9, rfl⟩ := own_slice ho9
        have hkw := kept_of_grown hg9
        have HX9 := kp (HX7b.out.kept hkw (not_own (HX7b.out.ne_own hown7 (by decide))))
        have hO7 := HO2.out.below hb8
        have q9 : w9.cell? ⟨g, j, none⟩ = some (.slice A3 q c3) := (World.cell?_of_block (a := ⟨g, j, none⟩) (hkw.block g (Nat.lt_of_lt_of_le hgl hb8.size) (not_own HNGO.out))).trans HC7.out
        have hx7 : Stab (fun b => (Value.slice (some ⟨g, 0, none⟩) vs2.length c2).ownBlock = some b ∨ ∃ v ∈ vs2, v.ownBlock = some b) w7 (fun W => RespOk W W.heap.size x.1.resp vi' vn') := by
         refine HST6.out.step (Kept.of_below (L := []) HB67.out) (by simp) fun k hk => .inl ?_
         rcases hk with h1 | ⟨v, hv, h1⟩
         ·have h2 := HO2.out.own
          rw [<- HVL2.out] at h2
          have := h2.lt k h1
          exact ⟨Nat.le_trans hw1s this.1, this.2⟩
         ·obtain ⟨i, hi⟩ := List.mem_iff_getElem?.1 hv
          have := HO2.out.vlt hi h1
          exact ⟨Nat.le_trans hw1s this.1, this.2⟩
        have hown9 : w9.ownsRow w1.heap.size 40 6 (.slice A9 (q + 1) c9) (r3.length + 1) (r3.flatMap rv ++ rv (x.1.resp, vi', vn')) := by rw [HQ.out]; exact ho9
        rw [<- HVL2.out] at hO7
        have hput := hO7.put HV3.out HR3.out hown9 hg9 hb9 hx7
        have z9 : w9.frozen? ⟨g, j, none⟩ = false := by
         have h1 := (hkw.own2 hO7.own (fun b hb e => HNGO.out (by simp at hb; rw [hb]; exact e.symm ▸ rfl)))
         exact h1.frozenAt j
        have HPUT := kp hput
        have HBW := kp (show Below w1.heap.size w1 (w9.setCell ⟨g, j, none⟩ (.slice A9 (q + 1) c9)) from HB2.out.trans ((hb8.mono HB2.out.size).trans ((hkw.below (Nat.le_trans HB2.out.size hb8.size) (fun b hb => own_ge hown7 hb)).trans ((setCell_kept w9 g j (.slice A9 (q + 1) c9)).below (Nat.le_trans HB2.out.size (Nat.le_trans hb8.size hkw.size)) (fun b hb => by simp at hb; subst hb; exact (HO2.out.own.lt _ rfl).1)))))
        have HX10 := kp (HX9.out.setOther (a := ⟨g, j, none⟩) (fun e => by have := HX9.out.ne_own (hkw.own2 hO7.own (fun b hb e => HNGO.out (by simp at hb; rw [hb]; exact e.symm ▸ rfl))) (by decide); exact this (by rw [e]; rfl)) (.slice A9 (q + 1) c9))
        clear ho9 hg9 hb9 hkw hO7 hx7 hown9 hput hown7 hb8
        have hS := HX9.out
        refine hK.out _ _ hS (fun _ => ?_)
        clear hK K HS
        have HS := kp hS
        clear hS
        try simp only [Act.put, z1, z2, z3]
        refine wpAnyH_take (i := 13) (oi := ⟨some 40, .indexAddr 53 (.tmp 27) (.tmp 29), 0, "history.go:196", #[⟨0, .data⟩, ⟨2, .data⟩, ⟨0, .phase⟩, ⟨1, .phase⟩, ⟨2, .phase⟩, ⟨3, .phase⟩, ⟨4, .phase⟩, ⟨5, .phase⟩, ⟨6, .phase⟩, ⟨7, .phase⟩, ⟨8, .phase⟩, ⟨9, .phase⟩, ⟨10, .phase⟩, ⟨11, .phase⟩, ⟨12, .phase⟩], none⟩) (v := ?_) rfl (by kernel_rfl) (by kernel_rfl) (by kernel_rfl) (fun _ _ _ h => h) (Or.inl ⟨by rfl, ?_⟩) HS.out ?_
        rotate_left 1
        ·intro w hw; go_simp; try with_reducible rfl
        simp only [Act.put, z1, z2, z3]
        refine wpAnyH_ready (rs := [14]) (by kernel_rfl) (by simp) ?_
        refine AllReadyH.cons (o := ⟨none, .store 57 (.tmp 40) (.tmp 39), 0, "history.go:196", #[⟨13, .data⟩, ⟨12, .data⟩, ⟨12, .chain⟩, ⟨0, .phase⟩, ⟨1, .phase⟩, ⟨2, .phase⟩, ⟨3, .phase⟩, ⟨4, .phase⟩, ⟨5, .phase⟩, ⟨6, .phase⟩, ⟨7, .phase⟩, ⟨8, .phase⟩, ⟨9, .phase⟩, ⟨10, .phase⟩, ⟨11, .phase⟩, ⟨12, .phase⟩], none⟩) rfl (fun K hK => ?_) (AllReadyH.nil)
        go_simp
        have hS := HX10.out
        refine hK.out _ _ hS (fun _ => ?_)
        clear hK K HS
        have HS := kp hS
        clear hS
        try simp only [Act.put, z1, z2, z3]
        refine wpAnyH_done (by kernel_rfl) ?_ _
        go_wp2_with fail
        go_roundw
        case rel => exact ⟨k + 1, _, _, by omega, by go_num, by rw [<- HVL2.out]; exact HPUT.out, by rw [HNS.out, HTK.out]; exact HR2.out.put HJ.out HT.out hjm HR3.out rfl, HBW.out⟩
        case measure => simp [intOf]; omega
       ·
        have hcr : (Value.agg (respC x.1.resp vi' vn').toArray).cells = (respC x.1.resp vi' vn').toArray := rfl
        with_reducible refine step_slice_one rfl 57 _ rfl 40 _ 6 80 (.agg (respC x.1.resp vi' vn').toArray) (respC x.1.resp vi' vn').toArray Tryz.underlying57 q_info40 ?_ ?_ ?_ hcr ?_ ?_
        ·decide
        ·decide
        ·rfl
        ·rfl
        clear hcr
        have HB67 := kp (below1 w6 (.cells (respC x.1.resp vi' vn').toArray 40))
        have HN7 := kp (RowL.new w6 40 (respC x.1.resp vi' vn'))
        obtain ⟨w7, hw7⟩ : ∃ W, w6.alloc (.cells (respC x.1.resp vi' vn').toArray 40) = W := ⟨_, rfl⟩
        obtain ⟨g7, hg7⟩ : ∃ W, w6.heap.size = W := ⟨_, rfl⟩
        rw [hw7] at HB67 HN7 ⊢
        have HX7b := kp (HX6.out.of_block (HB67.out.block _ HX6.out.lt))
        have HC7 := kp (show w7.cell? ⟨g, j, none⟩ = some (.slice A3 q c3) from (HB67.out.cell (p := ⟨g, j, none⟩) (Nat.lt_of_lt_of_le hgl HB6.out.size)).trans HC6.out)
        clear hw7 hg7
        have hS := HX7b.out
        refine hK.out _ _ hS (fun _ => ?_)
        clear hK K HS
        have HS := kp hS
        clear hS
        try simp only [Act.put, z1, z2, z3]
        refine wpAnyH_ready (rs := [7]) (by kernel_rfl) (by simp) ?_
        refine AllReadyH.cons (o := ⟨some 34, .load 57 (.tmp 33), 57, "history.go:196", #[⟨6, .data⟩], none⟩) rfl (fun K hK => ?_) (AllReadyH.nil)
        have cw : w7.cell? ⟨g, j, none⟩ = some (.slice A3 q c3) := HC7.out
        go_simp
        have hS := HX7b.out
        refine hK.out _ _ hS (fun _ => ?_)
        clear cw
        clear hK K HS
        have HS := kp hS
        clear hS
        try simp only [Act.put, z1, z2, z3]
        refine wpAnyH_ready (rs := [12]) (by kernel_rfl) (by simp) ?_
        refine AllReadyH.cons (o := ⟨some 39, .call ⟨.builtin .append, #[.tmp 34, .tmp 38], #[57, 57]⟩, 57, "history.go:196", #[⟨7, .data⟩, ⟨11, .data⟩, ⟨10, .chain⟩], none⟩) rfl (fun K hK => ?_) (AllReadyH.nil)
        have hb8 : Below w8.heap.size w8 w7 := (below_drewn (Below.refl _ _)).trans (HB6.out.trans (HB67.out.mono HB6.out.size))
        have hown7 : w7.ownsRow w1.heap.size 40 6 (.slice A3 q c3) q (r3.flatMap rv) := (Kept.of_below (L := []) hb8).own2 HROW.out (by simp)
        with_reducible refine step_append_g rfl _ _ 57 rfl w1.heap.size 40 _ 6 80 Tryz.underlying57 q_info40 ?_ ?_ (.slice A3 q c3) q (r3.flatMap rv) ?_ hown7 ⟨w6.heap.size, 0, none⟩ 1 1 (respC x.1.resp vi' vn') ?_ ?_ ?_ ?_ ?_ ?_ ?_ ?_
        ·rfl
        ·decide
        ·rfl
        ·rfl
        ·rfl
        ·intro i u hi; rw [Addr.add_mid, Nat.zero_add]; exact HN7.out.cell hi
        ·obtain ⟨⟨a1, a2, rfl⟩, a3, a4, rfl⟩ := HSH.out; intro u hu; simp only [respC, List.mem_cons, List.not_mem_nil, or_false] at hu; rcases hu with rfl | rfl | rfl | rfl | rfl | rfl <;> rfl
        ·unfold maxLen; omega
        ·omega
        ·exact Nat.le_trans hb1s hb8.size
        intro v9 w9 ho9 hg9 hb9
        obtain ⟨A9, c9, rfl⟩ := own_slice ho9
        have hkw := kept_of_grown hg9
        have HX9 := kp (HX7b.out.kept hkw (not_own (HX7b.out.ne_own hown7 (by decide))))
        have hO7 := HO2.out.below hb8
        have q9 : w9.cell? ⟨g, j, none⟩ = some (.slice A3 q c3) := (World.cell?_of_block (a := ⟨g, j, none⟩) (hkw.block g (Nat.lt_of_lt_of_le hgl hb8.size) (not_own HNGO.out))).trans HC7.out
        have hx7 : Stab (fun b => (Value.slice (some ⟨g, 0, none⟩) vs2.length c2).ownBlock = some b ∨ ∃ v ∈ vs2, v.ownBlock = some b) w7 (fun W => RespOk W W.heap.size x.1.resp vi' vn') := by
         refine HST6.out.step (Kept.of_below (L := []) HB67.out) (by simp) fun k hk => .inl ?_
         rcases hk with h1 | ⟨v, hv, h1⟩
         ·have h2 := HO2.out.own
          rw [<- HVL2.out] at h2
          have := h2.lt k h1
          exact ⟨Nat.le_trans hw1s this.1, this.2⟩
         ·obtain ⟨i, hi⟩ := List.mem_iff_getElem?.1 hv
          have := HO2.out.vlt hi h1
          exact ⟨Nat.le_trans hw1s this.1, this.2⟩
        have hown9 : w9.ownsRow w1.heap.size 40 6 (.slice A9 (q + 1) c9) (r3.length + 1) (r3.flatMap rv ++ rv (x.1.resp, vi', vn')) := by rw [HQ.out]; exact ho9
        rw [<- HVL2.out] at hO7
        have hput := hO7.put HV3.out HR3.out hown9 hg9 hb9 hx7
        have z9 : w9.frozen? ⟨g, j, none⟩ = false := by
         have h1 := (hkw.own2 hO7.own (fun b hb e => HNGO.out (by simp at hb; rw [hb]; exact e.symm ▸ rfl)))
         exact h1.frozenAt j
        have HPUT := kp hput
        have HBW := kp (show Below w1.heap.size w1 (w9.setCell ⟨g, j, none⟩ (.slice A9 (q + 1) c9)) from HB2.out.trans ((hb8.mono HB2.out.size).trans ((hkw.below (Nat.le_trans HB2.out.size hb8.size) (fun b hb => own_ge hown7 hb)).trans ((setCell_kept w9 g j (.slice A9 (q + 1) c9)).below (Nat.le_trans HB2.out.size (Nat.le_trans hb8.size hkw.size)) (fun b hb => by simp at hb; subst hb; exact (HO2.out.own.lt _ rfl).1)))))
        have HX10 := kp (HX9.out.setOther (a := ⟨g, j, none⟩) (fun e => by have := HX9.out.ne_own (hkw.own2 hO7.own (fun b hb e => HNGO.out (by simp at hb; rw [hb]; exact e.symm ▸ rfl))) (by decide); exact this (by rw [e]; rfl)) (.slice A9 (q + 1) c9))
        clear ho9 hg9 hb9 hkw hO7 hx7 hown9 hput hown7 hb8
        have hS := HX9.out
        refine hK.out _ _ hS (fun _ => ?_)
        clear hK K HS
        have HS := kp hS
        clear hS
        try simp only [Act.put, z1, z2, z3]
        refine wpAnyH_take (i := 13) (oi := ⟨some 40, .indexAddr 53 (.tmp 27) (.tmp 29), 0, "history.go:196", #[⟨0, .data⟩, ⟨2, .data⟩, ⟨0, .phase⟩, ⟨1, .phase⟩, ⟨2, .phase⟩, ⟨3, .phase⟩, ⟨4, .phase⟩, ⟨5, .phase⟩, ⟨6, .phase⟩, ⟨7, .phase⟩, ⟨8, .phase⟩, ⟨9, .phase⟩, ⟨10, .phase⟩, ⟨11, .phase⟩, ⟨12, .phase⟩], none⟩) (v := ?_) rfl (by kernel_rfl) (by kernel_rfl) (by kernel_rfl) (fun _ _ _ h => h) (Or.inl ⟨by rfl, ?_⟩) HS.out ?_
        rotate_left 1
        ·intro w hw; go_simp; try with_reducible rfl
        simp only [Act.put, z1, z2, z3]
        refine wpAnyH_ready (rs := [14]) (by kernel_rfl) (by simp) ?_
        refine AllReadyH.cons (o := ⟨none, .store 57 (.tmp 40) (.tmp 39), 0, "history.go:196", #[⟨13, .data⟩, ⟨12, .data⟩, ⟨12, .chain⟩, ⟨0, .phase⟩, ⟨1, .phase⟩, ⟨2, .phase⟩, ⟨3, .phase⟩, ⟨4, .phase⟩, ⟨5, .phase⟩, ⟨6, .phase⟩, ⟨7, .phase⟩, ⟨8, .phase⟩, ⟨9, .phase⟩, ⟨10, .phase⟩, ⟨11, .phase⟩, ⟨12, .phase⟩], none⟩) rfl (fun K hK => ?_) (AllReadyH.nil)
        go_simp
        have hS := HX10.out
        refine hK.out _ _ hS (fun _ => ?_)
        clear hK K HS
        have HS := kp hS
        clear hS
        try simp only [Act.put, z1, z2, z3]
        refine wpAnyH_done (by kernel_rfl) ?_ _
        go_wp2_with fail
        go_roundw
        case rel => exact ⟨k + 1, _, _, by omega, by go_num, by rw [<- HVL2.out]; exact HPUT.out, by rw [HNS.out, HTK.out]; exact HR2.out.put HJ.out HT.out hjm HR3.out rfl, HBW.out⟩
        case measure => simp [intOf]; omega
  ·obtain rfl : k = n := by omega
   have hg2 : decide ((k : Int) < (k : Int)) = false := by simp
   have hL : L.take k = L := List.take_of_length_le (by rw [HN.out]; exact Nat.le_refl _)
   have hO := HO.out
   have hR := HR.out
   rw [hL] at hR HM0
   have hlm : rs.length = m0 := hR.len
   obtain ⟨A4, c4, he, hout⟩ := hO.outs
   rw [hR, <- HM0.out] at hout
   have HOUT := kp hout
   have HE := kp he
   have HLM := kp hlm
   clear hO hR hout he hlm hL
   go_wp2_with fail
   go_ret2
   have he := HE.out
   rw [HLM.out] at he
   cases he
   refine ⟨HB1.out.trans (HB.out.mono HB1.out.size), .inr ⟨HVAL.out, A1, c1, ?_, HOUT.out⟩⟩
   rw [outsOf_eq, outsN_len, HM0.out]
   rfl
end Go.Proofs.YtnjhpgmbfblgaaaGreat.Ord
