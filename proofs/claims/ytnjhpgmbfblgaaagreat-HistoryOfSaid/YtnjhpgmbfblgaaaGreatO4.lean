/- Walk of the reference's Outputs. -/
import Derived.Test.YtnjhpgmbfblgaaaGreatO3
import Derived.Laws.MakeOwn
namespace Go.Proofs.YtnjhpgmbfblgaaaGreat.Ord
set_option maxRecDepth 100000
set_option maxHeartbeats 16000000
open Go.RowKit
set_option linter.unusedVariables false
set_option linter.unusedSimpArgs false
section
variable {P : Program}
theorem wpList_make_row {ops : Array Oper} {rest : List Oper} {o : Oper} {a : Act} {w : World} {Q : Exit -> Act -> World -> Prop} (hgd : o.guard = none) (t : TypeId) (x y : Operand) (ho : o.op = .makeSlice t x y)
  (e : TypeId) (z : Value) (size bytes n : Nat) (ht : P.underlying t = some (.slice e)) (hinfo : (P.info? e).map (fun i => (i.zero, i.size, i.bytes)) = some (some z, size, bytes))
  (hx : a.eval x = .int .i64 n) (hy : a.eval y = .int .i64 n) (hb : bytes * n <= 281474976710656) (hn : n <= 9223372036854775807)
  (h : ∀ w', w' = w.alloc (.cells (madeCells z.cells (n * size)) e) -> wpList P ops Q rest (a.put o.dst (.slice (some ⟨w.heap.size, 0, none⟩) n n)) w') : wpList P ops Q (o :: rest) a w := by
 obtain ⟨i, hi, hz, h4, h5⟩ := info_parts hinfo
 subst h4 h5
 have hr := run_make (P := P) w t e i z ht hi hz .i64 .i64 n n (by omega) (Int.le_refl _) (by rw [<- Int.natCast_mul]; omega) (by omega)
 simp only [Int.toNat_natCast] at hr
 refine wpList_plain hgd fun _ hK => ?_
 unfold Oper.wp execOp
 simp only [ho, hx, hy, Sem.run_bind, hr, Result.andThen_ok]
 exact hK _ _ (h _ rfl)
end
theorem resp_oneC' {w : World} {B : Nat} {r : RespR} {vi vn : Value} (h : RespOk w B r vi vn) : ∀ u ∈ respC r vi vn, u.oneCell' = true := by
 obtain ⟨⟨_, A6, c6, e6, _⟩, _, A7, c7, e7, _⟩ := h
 intro v hv
 simp only [respC, e6, e7, List.mem_cons, List.not_mem_nil, or_false] at hv
 rcases hv with rfl | rfl | rfl | rfl | rfl | rfl <;> rfl
theorem made_nil (n : Nat) : (madeCells (Value.slice none 0 0).cells (n * 1)).toList = List.replicate n (Value.slice none 0 0) := by
 apply List.ext_getElem?
 intro i
 rw [Array.getElem?_toList]
 unfold madeCells
 by_cases hi : i < n
 ·rw [List.getElem?_replicate_of_lt hi, Array.getElem?_map, Array.getElem?_range, if_pos (by omega)]
  simp only [Option.map_some]
  have : (Value.slice none 0 0).cells = #[Value.slice none 0 0] := rfl
  rw [this]
  simp [Nat.mod_one]
 ·rw [List.getElem?_eq_none (by simp; omega), Array.getElem?_eq_none (by simp; omega)]
theorem OutI.made (w : World) (n : Nat) (hn : n <= 4096) : OutI 57 (w.alloc (.cells (madeCells (Value.slice none 0 0).cells (n * 1)) 57)) w.heap.size (.slice (some ⟨w.heap.size, 0, none⟩) n n) (List.replicate n (.slice none 0 0)) (List.replicate n []) := by
 have hnone : ∀ b, (Value.slice none 0 0).ownBlock ≠ some b := fun b h => by cases h
 refine ⟨⟨by simp, .inr ⟨w.heap.size, n, _, by rw [List.length_replicate], Nat.le_refl _, heap_alloc_new w _, by simp, by unfold maxLen; omega, by simp [madeCells], ?_⟩⟩, by simp, fun j v r h1 h2 => ?_, fun i j v v' b _ h1 h2 h3 => ?_, fun v hv b h => ?_, fun r hr x hx => ?_, by simp⟩
 ·rw [made_nil, List.take_of_length_le (by simp)]
 ·have e1 := List.eq_of_mem_replicate (List.mem_of_getElem? h1)
  have e2 := List.eq_of_mem_replicate (List.mem_of_getElem? h2)
  subst e1 e2
  exact ⟨rfl, .inl ⟨rfl, rfl⟩⟩
 ·have e1 := List.eq_of_mem_replicate (List.mem_of_getElem? h1)
  subst e1
  exact absurd h3 (hnone b)
 ·have e1 := List.eq_of_mem_replicate hv
  subst e1
  exact absurd h (hnone b)
 ·have e1 := List.eq_of_mem_replicate hr
  subst e1
  simp at hx
theorem holds_made (n : Nat) : HoldsR (List.replicate n []) [] n := by
 unfold HoldsR outsN
 apply List.ext_getElem?
 intro i
 by_cases hi : i < n
 ·rw [List.getElem?_map, List.getElem?_replicate_of_lt hi, List.getElem?_map, List.getElem?_range hi]
  rfl
 ·rw [List.getElem?_eq_none (by simp; omega), List.getElem?_eq_none (by simp; omega)]

/-- what the reference's Outputs gives -/
def OutRPost (L : List (CallR × CallV)) (w : World) (e : Ending) (w' : World) : Prop := ∃ A' c', e = .returned (.slice A' (outsOf (L.map (·.1))).length c') /\ OutsAt w' w'.heap.size A' (outsOf (L.map (·.1))) /\ Below w.heap.size w w'
theorem outputs23 (L : List (CallR × CallV)) (A : Option Addr) (n c : Nat) (w : World) (hn : L.length = n) (hn4 : n <= 4096) (hA : RowCO w w.heap.size A L) (hs : ∀ x ∈ L, 0 <= x.1.ses /\ x.1.ses < 4096) :
  Calls Tryz.prog 23 #[.slice A n c] w (OutRPost L w) := by
 have hn' : n <= 9223372036854775807 := by omega
 have HA := kp hA
 have HN := kp hn
 have HS := kp hs
 clear hA hn hs
 go_enter Tryz.func23, Tryz.ntmps23
 go_wp2_with fail
 go_loopw [3, 4] (fun s3 s4 wr => ∃ k : Nat, k <= n /\ s4 = .int .i64 k /\ s3 = .int .i64 ((nSes ((L.take k).map (·.1)) : Int) - 1) /\ wr = w) (fun _ j _ => n - (intOf j).toNat)
 case atStart => exact ⟨0, Nat.zero_le _, by go_num, by simp [nSes], rfl⟩
 case round =>
  obtain ⟨k, hk, rfl, rfl, rfl⟩ := hrel
  by_cases hlt : k < n
  ·have hg2 : decide ((k : Int) < (n : Int)) = true := decide_eq_true (by omega)
   have hi1 : (k : Int) < (n : Int) := by omega
   have hk1 : k < L.length := by rw [HN.out]; exact hlt
   obtain ⟨x, hx⟩ : ∃ x, L[k] = x := ⟨_, rfl⟩
   have hxk := List.getElem?_eq_getElem hk1
   rw [hx] at hxk
   have HTK := kp (take_snoc' hxk)
   have hsx := HS.out x (List.mem_of_getElem? hxk)
   obtain ⟨b, off, rfl, hbB, hck, hok⟩ := HA.out k x hxk
   have q0 : wr.cell? ⟨b, off + k * 23, none⟩ = some (.int .i64 x.1.ses) := hck 0 _ rfl
   obtain ⟨m, hm⟩ : ∃ m, nSes ((L.take k).map (·.1)) = m := ⟨_, rfl⟩
   obtain ⟨ses, hses⟩ : ∃ v, x.1.ses = v := ⟨_, rfl⟩
   have HNS := kp (show ((nSes ((L.take (k + 1)).map (·.1)) : Int) - 1) = max ((m : Int) - 1) ses by rw [HTK.out, nSes_snoc, hm, hses]; rw [hses] at hsx; omega)
   rw [hses] at q0
   rw [hm]
   clear hx hxk hck hok hbB hsx hm hses
   go_wp2_with fail
   go_roundw
   case rel => exact ⟨k + 1, by omega, by go_num, by rw [HNS.out], trivial⟩
   case measure => simp [intOf]; omega
  ·obtain rfl : k = n := by omega
   have hg2 : decide ((k : Int) < (k : Int)) = false := by simp
   have hL : L.take k = L := List.take_of_length_le (by rw [HN.out]; exact Nat.le_refl _)
   rw [hL]
   obtain ⟨N, hNN⟩ : ∃ N, nSes (L.map (·.1)) = N := ⟨_, rfl⟩
   have hN4 : N <= 4096 := by
    rw [<- hNN]
    refine nSes_le fun x hx => ?_
    obtain ⟨y, hy, rfl⟩ := List.mem_map.1 hx
    exact (HS.out y hy).2
   have HNN := kp hNN
   rw [hNN]
   clear hL hNN
   have hz1 : ((N : Int) - 1 + 1) = (N : Int) := by omega
   have hz2 : IntKind.i64.wrap ((N : Int) - 1 + 1) = (N : Int) := by rw [IntKind.wrap_i64]; omega
   obtain ⟨w1, rfl⟩ : ∃ W, W = wr := ⟨_, rfl⟩
   have HMADE := kp (OutI.made w1 N hN4)
   have HBM := kp (below1 w1 (.cells (madeCells (Value.slice none 0 0).cells (N * 1)) 57))
   go_wp2_with ((with_reducible refine wpList_make_row (o := ⟨some 22, _, _, _, _, _⟩) rfl 53 _ _ rfl 57 _ 1 24 N Tryz.underlying53 q_info57 ?_ ?_ ?_ ?_ ?_); (· first | rfl | (simp [hz1])); (· first | rfl | (simp [hz1])); (· omega); (· omega); intro w4 hw4; rw [<- hw4] at HMADE HBM; clear hw4)
   go_loopw [6] (fun s6 W => ∃ (k2 : Nat) (vs : List Value) (rs : List (List RV)), k2 <= k /\ s6 = .int .i64 k2 /\ vs.length = N /\ OutI 57 W w1.heap.size (.slice (some ⟨w1.heap.size, 0, none⟩) N N) vs rs /\ HoldsR rs ((L.take k2).map (·.1)) N /\ Below w1.heap.size w1 W) (fun j _ => k - (intOf j).toNat)
   case atStart => exact ⟨0, _, _, Nat.zero_le _, by go_num, by simp, HMADE.out, holds_made N, HBM.out⟩
   case round =>
    obtain ⟨k2, vs2, rs2, hk2, rfl, hvl, hO, hR, hb⟩ := hrel
    obtain ⟨w8, rfl⟩ : ∃ W, W = wr := ⟨_, rfl⟩
    have HO2 := kp hO
    have HR2 := kp hR
    have HB2 := kp hb
    have HVL2 := kp hvl
    clear hO hR hb hvl
    by_cases hlt2 : k2 < k
    ·have hg4 : decide ((k2 : Int) < (k : Int)) = true := decide_eq_true (by omega)
     have hi1 : (k2 : Int) < (k : Int) := by omega
     have hk21 : k2 < L.length := by rw [HN.out]; exact hlt2
     obtain ⟨x, hx⟩ : ∃ x, L[k2] = x := ⟨_, rfl⟩
     have hxk := List.getElem?_eq_getElem hk21
     rw [hx] at hxk
     have HTK := kp (take_snoc' hxk)
     obtain ⟨hs0, hs1⟩ := HS.out x (List.mem_of_getElem? hxk)
     obtain ⟨j, hj⟩ : ∃ j : Nat, x.1.ses = (j : Int) := ⟨x.1.ses.toNat, by omega⟩
     have HJ := kp hj
     have hjN : j < N := by
      have := ses_lt (List.mem_map_of_mem (f := fun y : CallR × CallV => y.1) (List.mem_of_getElem? hxk))
      rw [HNN.out] at this
      have h2 : x.1.ses < (N : Int) := this
      omega
     have hjm : (j : Int) < (N : Int) := by omega
     obtain ⟨b, off, rfl, hbB, hckw, hokw⟩ := HA.out k2 x hxk
     have hck := hckw.below HB2.out hbB
     have HOK := kp hokw.2
     have q0 : w8.cell? ⟨b, off + k2 * 23, none⟩ = some (.int .i64 j) := by rw [<- hj]; exact hck 0 _ rfl
     obtain ⟨told, htold⟩ : ∃ y, x.1.told = y := ⟨_, rfl⟩
     have q21 : w8.cell? ⟨b, off + k2 * 23 + 21, none⟩ = some (.int .i64 told) := by rw [<- htold]; exact hck 21 _ rfl
     have HTLD := kp htold
     clear hx hxk hs0 hs1 hj htold hckw hokw
     cases ht : decide (0 <= told)
     ·have HT := kp (show ¬ 0 <= x.1.told by rw [HTLD.out]; exact of_decide_eq_false ht)
      clear q0
      go_wp2_with fail
      go_roundw
      case rel => exact ⟨k2 + 1, vs2, rs2, by omega, by go_num, HVL2.out, HO2.out, by rw [HTK.out]; exact HR2.out.no HT.out, HB2.out⟩
      case measure => simp [intOf]; omega
     ·have HT := kp (show 0 <= x.1.told by rw [HTLD.out]; exact of_decide_eq_true ht)
      have hjv : j < vs2.length := by rw [HVL2.out]; exact hjN
      have hjr : j < rs2.length := by rw [HO2.out.len]; exact hjv
      obtain ⟨v3, hv3⟩ : ∃ v, vs2[j]? = some v := ⟨_, List.getElem?_eq_getElem hjv⟩
      obtain ⟨r3, hr3⟩ : ∃ r, rs2[j]? = some r := ⟨_, List.getElem?_eq_getElem hjr⟩
      have hrow := HO2.out.row j v3 r3 hv3 hr3
      obtain ⟨A3, c3, rfl⟩ := own_slice hrow
      obtain ⟨q, hq⟩ : ∃ q, r3.length = q := ⟨_, rfl⟩
      have hq4 : q <= 4096 := by
       have h1 : (rs2.map fun r => r.map (·.1))[j]? = some (r3.map (·.1)) := by rw [List.getElem?_map, hr3]; rfl
       have h2 := HR2.out
       unfold HoldsR at h2
       rw [h2] at h1
       unfold outsN at h1
       rw [List.getElem?_map, List.getElem?_range hjN] at h1
       have h3 := congrArg List.length (Option.some.inj h1)
       rw [List.length_map, hq] at h3
       have h4 := toldOf_len ((L.take k2).map (·.1)) j
       simp only [List.length_map, List.length_take] at h4
       omega
      have hcell : w8.cell? ⟨w1.heap.size, j, none⟩ = some (.slice A3 r3.length c3) := by
       have h1 := HO2.out.own
       rw [HVL2.out] at h1
       rw [h1.cellAt j (by omega), hv3]
      have hgl : w1.heap.size < w8.heap.size := (HO2.out.own.lt w1.heap.size rfl).2
      have hngo : (Value.slice A3 r3.length c3).ownBlock ≠ some w1.heap.size := fun e => HO2.out.sepo _ (List.mem_of_getElem? hv3) w1.heap.size e rfl
      rw [hq] at hrow hcell hv3 hngo
      have HROW := kp hrow
      have HCELL := kp hcell
      have HV3 := kp hv3
      have HR3 := kp hr3
      have HQ := kp hq
      have HNGO := kp hngo
      have hsr : (Tryz.prog.info? 40).map (·.size) = some (respC x.1.resp x.2.vi x.2.vn).length := resp_sizeL _ _ _ _ _ _
      have HSR := kp hsr
      have HCR := kp (fun (W : World) (h : CellsAt W ⟨b, off + k2 * 23, none⟩ (callC x.1 x.2)) => call_resp h)
      have hq0 : (callC x.1 x.2)[0]? = some (.int .i64 j) := by rw [<- HJ.out]; rfl
      have HL0 := kp hq0
      have HONE := kp (resp_oneC' HOK.out)
      clear hrow hcell hv3 hr3 hq hngo hsr hjv hjr hq0
      obtain ⟨l2, hl2⟩ : ∃ l2, respC x.1.resp x.2.vi x.2.vn = l2 := ⟨_, rfl⟩
      have HL2 := kp hl2
      obtain ⟨l, hl⟩ : ∃ l, callC x.1 x.2 = l := ⟨_, rfl⟩
      rw [hl2] at HSR HCR HONE
      rw [hl] at HCR hck HL0
      have HCK := kp hck
      have HLL2 := kp (show l2.length = 6 by rw [<- hl2]; rfl)
      have hagc : (Value.agg l2.toArray).cells = l2.toArray := rfl
      have HAG := kp hagc
      have hags : l2.toArray.size = 6 := by rw [<- hl2]; rfl
      have HAS := kp hags
      clear hl2 hl hck hagc hags
      go_upto_region 11 with (fail)
      refine wp_region_held_drew (S := fun W => CellsAt W ⟨b, off + k2 * 23, none⟩ l) (by kernel_rfl) HCK.out (fun hS => ?_)
      have HS := kp hS
      clear hS
      refine wpAnyH_take (i := 0) (oi := ⟨some 35, .move (.tmp 5), 53, "ref.go:180", #[], none⟩) (v := ?_) rfl (by kernel_rfl) (by kernel_rfl) (by kernel_rfl) (fun _ _ _ h => h) (Or.inl ⟨by rfl, ?_⟩) HS.out ?_
      rotate_left 1
      ·intro w hw; go_simp; try with_reducible rfl
      simp only [Act.put, z1, z2, z3]
      refine wpAnyH_take (i := 1) (oi := ⟨some 36, .move (.tmp 0), 43, "ref.go:180", #[], none⟩) (v := ?_) rfl (by kernel_rfl) (by kernel_rfl) (by kernel_rfl) (fun _ _ _ h => h) (Or.inl ⟨by rfl, ?_⟩) HS.out ?_
      rotate_left 1
      ·intro w hw; go_simp; try with_reducible rfl
      simp only [Act.put, z1, z2, z3]
      refine wpAnyH_take (i := 2) (oi := ⟨some 37, .move (.tmp 6), 3, "ref.go:180", #[], none⟩) (v := ?_) rfl (by kernel_rfl) (by kernel_rfl) (by kernel_rfl) (fun _ _ _ h => h) (Or.inl ⟨by rfl, ?_⟩) HS.out ?_
      rotate_left 1
      ·intro w hw; go_simp; try with_reducible rfl
      simp only [Act.put, z1, z2, z3]
      refine wpAnyH_take (i := 3) (oi := ⟨some 38, .indexAddr 43 (.tmp 36) (.tmp 37), 0, "ref.go:180", #[⟨1, .data⟩, ⟨2, .data⟩], none⟩) (v := ?_) rfl (by kernel_rfl) (by kernel_rfl) (by kernel_rfl) (fun _ _ _ h => h) (Or.inl ⟨by rfl, ?_⟩) HS.out ?_
      rotate_left 1
      ·intro w hw; go_simp; try with_reducible rfl
      simp only [Act.put, z1, z2, z3]
      refine wpAnyH_take (i := 4) (oi := ⟨some 39, .fieldAddr 52 (.tmp 38) 0, 0, "ref.go:180", #[⟨3, .data⟩], none⟩) (v := ?_) rfl (by kernel_rfl) (by kernel_rfl) (by kernel_rfl) (fun _ _ _ h => h) (Or.inl ⟨by rfl, ?_⟩) HS.out ?_
      rotate_left 1
      ·intro w hw; go_simp; try with_reducible rfl
      simp only [Act.put, z1, z2, z3]
      refine wpAnyH_take (i := 5) (oi := ⟨some 40, .load 3 (.tmp 39), 3, "ref.go:180", #[⟨4, .data⟩], none⟩) (v := ?_) rfl (by kernel_rfl) (by kernel_rfl) (by kernel_rfl) (fun _ _ _ h => h) (Or.inl ⟨by rfl, ?_⟩) HS.out ?_
      rotate_left 1
      ·intro w hw; have hw3 : w.cell? ⟨b, off + k2 * 23, none⟩ = some (.int .i64 j) := hw 0 _ HL0.out; go_simp; try with_reducible rfl
      simp only [Act.put, z1, z2, z3]
      refine wpAnyH_take (i := 6) (oi := ⟨some 41, .move (.tmp 5), 53, "ref.go:180", #[], none⟩) (v := ?_) rfl (by kernel_rfl) (by kernel_rfl) (by kernel_rfl) (fun _ _ _ h => h) (Or.inl ⟨by rfl, ?_⟩) HS.out ?_
      rotate_left 1
      ·intro w hw; go_simp; try with_reducible rfl
      simp only [Act.put, z1, z2, z3]
      refine wpAnyH_take (i := 7) (oi := ⟨some 42, .move (.tmp 0), 43, "ref.go:180", #[], none⟩) (v := ?_) rfl (by kernel_rfl) (by kernel_rfl) (by kernel_rfl) (fun _ _ _ h => h) (Or.inl ⟨by rfl, ?_⟩) HS.out ?_
      rotate_left 1
      ·intro w hw; go_simp; try with_reducible rfl
      simp only [Act.put, z1, z2, z3]
      refine wpAnyH_take (i := 8) (oi := ⟨some 43, .move (.tmp 6), 3, "ref.go:180", #[], none⟩) (v := ?_) rfl (by kernel_rfl) (by kernel_rfl) (by kernel_rfl) (fun _ _ _ h => h) (Or.inl ⟨by rfl, ?_⟩) HS.out ?_
      rotate_left 1
      ·intro w hw; go_simp; try with_reducible rfl
      simp only [Act.put, z1, z2, z3]
      refine wpAnyH_take (i := 9) (oi := ⟨some 44, .indexAddr 43 (.tmp 42) (.tmp 43), 0, "ref.go:180", #[⟨7, .data⟩, ⟨8, .data⟩], none⟩) (v := ?_) rfl (by kernel_rfl) (by kernel_rfl) (by kernel_rfl) (fun _ _ _ h => h) (Or.inl ⟨by rfl, ?_⟩) HS.out ?_
      rotate_left 1
      ·intro w hw; go_simp; try with_reducible rfl
      simp only [Act.put, z1, z2, z3]
      refine wpAnyH_take (i := 10) (oi := ⟨some 45, .fieldAddr 52 (.tmp 44) 0, 0, "ref.go:180", #[⟨9, .data⟩], none⟩) (v := ?_) rfl (by kernel_rfl) (by kernel_rfl) (by kernel_rfl) (fun _ _ _ h => h) (Or.inl ⟨by rfl, ?_⟩) HS.out ?_
      rotate_left 1
      ·intro w hw; go_simp; try with_reducible rfl
      simp only [Act.put, z1, z2, z3]
      refine wpAnyH_take (i := 11) (oi := ⟨some 46, .load 3 (.tmp 45), 3, "ref.go:180", #[⟨10, .data⟩], none⟩) (v := ?_) rfl (by kernel_rfl) (by kernel_rfl) (by kernel_rfl) (fun _ _ _ h => h) (Or.inl ⟨by rfl, ?_⟩) HS.out ?_
      rotate_left 1
      ·intro w hw; have hw3 : w.cell? ⟨b, off + k2 * 23, none⟩ = some (.int .i64 j) := hw 0 _ HL0.out; go_simp; try with_reducible rfl
      simp only [Act.put, z1, z2, z3]
      refine wpAnyH_take (i := 12) (oi := ⟨some 47, .indexAddr 53 (.tmp 41) (.tmp 46), 0, "ref.go:180", #[⟨6, .data⟩, ⟨11, .data⟩], none⟩) (v := ?_) rfl (by kernel_rfl) (by kernel_rfl) (by kernel_rfl) (fun _ _ _ h => h) (Or.inl ⟨by rfl, ?_⟩) HS.out ?_
      rotate_left 1
      ·intro w hw; go_simp; try with_reducible rfl
      simp only [Act.put, z1, z2, z3]
      refine wpAnyH_take (i := 14) (oi := ⟨some 49, .move (.tmp 0), 43, "ref.go:180", #[], none⟩) (v := ?_) rfl (by kernel_rfl) (by kernel_rfl) (by kernel_rfl) (fun _ _ _ h => h) (Or.inl ⟨by rfl, ?_⟩) HS.out ?_
      rotate_left 1
      ·intro w hw; go_simp; try with_reducible rfl
      simp only [Act.put, z1, z2, z3]
      refine wpAnyH_take (i := 15) (oi := ⟨some 50, .move (.tmp 6), 3, "ref.go:180", #[], none⟩) (v := ?_) rfl (by kernel_rfl) (by kernel_rfl) (by kernel_rfl) (fun _ _ _ h => h) (Or.inl ⟨by rfl, ?_⟩) HS.out ?_
      rotate_left 1
      ·intro w hw; go_simp; try with_reducible rfl
      simp only [Act.put, z1, z2, z3]
      refine wpAnyH_take (i := 16) (oi := ⟨some 51, .indexAddr 43 (.tmp 49) (.tmp 50), 0, "ref.go:180", #[⟨14, .data⟩, ⟨15, .data⟩], none⟩) (v := ?_) rfl (by kernel_rfl) (by kernel_rfl) (by kernel_rfl) (fun _ _ _ h => h) (Or.inl ⟨by rfl, ?_⟩) HS.out ?_
      rotate_left 1
      ·intro w hw; go_simp; try with_reducible rfl
      simp only [Act.put, z1, z2, z3]
      refine wpAnyH_take (i := 17) (oi := ⟨some 52, .fieldAddr 52 (.tmp 51) 4, 0, "ref.go:180", #[⟨16, .data⟩], none⟩) (v := ?_) rfl (by kernel_rfl) (by kernel_rfl) (by kernel_rfl) (fun _ _ _ h => h) (Or.inl ⟨by rfl, ?_⟩) HS.out ?_
      rotate_left 1
      ·intro w hw; go_simp; try with_reducible rfl
      simp only [Act.put, z1, z2, z3]
      refine wpAnyH_take (i := 18) (oi := ⟨some 53, .load 40 (.tmp 52), 40, "ref.go:180", #[⟨17, .data⟩], none⟩) (v := .agg l2.toArray) rfl (by kernel_rfl) (by kernel_rfl) (by kernel_rfl) (fun _ _ _ h => h) (yields_aggL rfl 40 _ rfl ⟨b, off + k2 * 23 + 13, none⟩ rfl l2 _ (fun W hW => (HCR.out W hW)) Tryz.underlying40 HSR.out) HS.out ?_
      simp only [Act.put, z1, z2, z3]
      refine wpAnyH_ready (rs := [13, 19]) (by kernel_rfl) (by simp) ?_
      refine AllReadyH.cons (o := ⟨some 48, .load 57 (.tmp 47), 57, "ref.go:180", #[⟨12, .data⟩], none⟩) rfl (fun K hK => ?_) (AllReadyH.cons (o := ⟨some 54, .buildSlice 57 1 #[(0, .tmp 53)], 57, "ref.go:180", #[⟨18, .data⟩], none⟩) rfl (fun K hK => ?_) (AllReadyH.nil))
      ·
       have cw : w8.drew.cell? ⟨w1.heap.size, j, none⟩ = some (.slice A3 q c3) := HCELL.out
       go_simp
       have hS : CellsAt w8.drew ⟨b, off + k2 * 23, none⟩ l := HCK.out
       refine hK.out _ _ hS (fun _ => ?_)
       clear cw
       clear hK K HS
       have HS := kp hS
       clear hS
       try simp only [Act.put, z1, z2, z3]
       refine wpAnyH_ready (rs := [19]) (by kernel_rfl) (by simp) ?_
       refine AllReadyH.cons (o := ⟨some 54, .buildSlice 57 1 #[(0, .tmp 53)], 57, "ref.go:180", #[⟨18, .data⟩], none⟩) rfl (fun K hK => ?_) (AllReadyH.nil)
       with_reducible refine step_slice_one rfl 57 _ rfl 40 _ 6 80 (.agg l2.toArray) l2.toArray Tryz.underlying57 q_info40 ?_ ?_ ?_ HAG.out HAS.out ?_
       ·decide
       ·decide
       ·rfl
       have HB67 := kp (show Below w8.heap.size w8 (w8.drew.alloc (.cells l2.toArray 40)) from (below_drewn (Below.refl _ _)).trans (below1 w8.drew (.cells l2.toArray 40)))
       have HN7 := kp (RowL.new w8.drew 40 l2)
       obtain ⟨w7, hw7⟩ : ∃ W, w8.drew.alloc (.cells l2.toArray 40) = W := ⟨_, rfl⟩
       rw [hw7] at HB67 HN7
       first | rw [hw7] | rw [show (w8.alloc (.cells l2.toArray 40)).drew = w7 from hw7]
       have HS7 := kp (show CellsAt w7 ⟨b, off + k2 * 23, none⟩ l from HCK.out.below (B := w8.heap.size) HB67.out (Nat.lt_of_lt_of_le hbB (Nat.le_of_lt hgl)))
       have HC7 := kp (show w7.cell? ⟨w1.heap.size, j, none⟩ = some (.slice A3 q c3) from (HB67.out.cell (p := ⟨w1.heap.size, j, none⟩) hgl).trans HCELL.out)
       clear hw7
       have hS := HS7.out
       refine hK.out _ _ hS (fun _ => ?_)
       clear hK K HS
       have HS := kp hS
       clear hS
       try simp only [Act.put, z1, z2, z3]
       refine wpAnyH_ready (rs := [20]) (by kernel_rfl) (by simp) ?_
       refine AllReadyH.cons (o := ⟨some 55, .call ⟨.builtin .append, #[.tmp 48, .tmp 54], #[57, 57]⟩, 57, "ref.go:180", #[⟨13, .data⟩, ⟨19, .data⟩], none⟩) rfl (fun K hK => ?_) (AllReadyH.nil)
       have hb8 : Below w8.heap.size w8 w7 := HB67.out
       have hown7 : w7.ownsRow w1.heap.size 40 6 (.slice A3 q c3) q (r3.flatMap rv) := (Kept.of_below (L := []) hb8).own2 HROW.out (by simp)
       with_reducible refine step_append_g rfl _ _ 57 rfl w1.heap.size 40 _ 6 80 Tryz.underlying57 q_info40 ?_ ?_ (.slice A3 q c3) q (r3.flatMap rv) ?_ hown7 ⟨w8.heap.size, 0, none⟩ 1 1 l2 ?_ ?_ ?_ HONE.out ?_ ?_ ?_ ?_
       ·rfl
       ·decide
       ·rfl
       ·rfl
       ·exact HLL2.out
       ·intro i u hi; rw [Addr.add_mid, Nat.zero_add]; exact HN7.out.cell hi
       ·unfold maxLen; omega
       ·omega
       ·exact Nat.le_trans (Nat.le_of_lt hgl) hb8.size
       intro v9 w9 ho9 hg9 hb9
       obtain ⟨A9, c9, rfl⟩ := own_slice ho9
       have hkw := kept_of_grown hg9
       have hO7 := HO2.out.below hb8
       have q9 : w9.cell? ⟨w1.heap.size, j, none⟩ = some (.slice A3 q c3) := (World.cell?_of_block (a := ⟨w1.heap.size, j, none⟩) (hkw.block w1.heap.size (Nat.lt_of_lt_of_le hgl hb8.size) (not_own HNGO.out))).trans HC7.out
       have hx7 : Stab (fun b => (Value.slice (some ⟨w1.heap.size, 0, none⟩) vs2.length N).ownBlock = some b ∨ ∃ v ∈ vs2, v.ownBlock = some b) w7 (fun W => RespOk W W.heap.size x.1.resp x.2.vi x.2.vn) := by
        refine Stab.of_lim (lim := w1.heap.size) (P := fun B W => RespOk W B x.1.resp x.2.vi x.2.vn) (fun h hb hB => h.below hb hB) (fun h hB => h.mono hB) (HOK.out.below (HB2.out.trans (hb8.mono (Nat.le_of_lt hgl))) (Nat.le_refl _)) (Nat.le_trans (Nat.le_of_lt hgl) hb8.size) fun k hk => ?_
        rcases hk with h1 | ⟨v, hv, h1⟩
        ·cases h1; exact Nat.le_refl _
        ·obtain ⟨i, hi⟩ := List.mem_iff_getElem?.1 hv
         exact (HO2.out.vlt hi h1).1
       have hown9 : w9.ownsRow w1.heap.size 40 6 (.slice A9 (q + 1) c9) (r3.length + 1) (r3.flatMap rv ++ rv (x.1.resp, x.2.vi, x.2.vn)) := by rw [HQ.out]; rw [<- HL2.out] at ho9; exact ho9
       skip
       have hput := OutI.put (c := N) (by rw [HVL2.out]; exact hO7) HV3.out HR3.out hown9 hg9 hb9 hx7
       have z9 : w9.frozen? ⟨w1.heap.size, j, none⟩ = false := by
        have h1 := (hkw.own2 hO7.own (fun b hb e => HNGO.out (by simp at hb; rw [hb]; exact e.symm ▸ rfl)))
        rw [HVL2.out] at h1
        exact h1.frozenAt j
       have HPUT := kp hput
       have HBW := kp (show Below w1.heap.size w1 (w9.setCell ⟨w1.heap.size, j, none⟩ (.slice A9 (q + 1) c9)) from HB2.out.trans ((hb8.mono HB2.out.size).trans ((hkw.below (Nat.le_trans HB2.out.size hb8.size) (fun b hb => own_ge hown7 hb)).trans ((setCell_kept w9 w1.heap.size j (.slice A9 (q + 1) c9)).below (Nat.le_trans HB2.out.size (Nat.le_trans hb8.size hkw.size)) (fun b hb => by simp at hb; subst hb; exact Nat.le_refl _)))))
       have HS9 := kp (show CellsAt w9 ⟨b, off + k2 * 23, none⟩ l from HS7.out.below (B := w1.heap.size) (hkw.below (Nat.le_trans HB2.out.size hb8.size) (fun b hb => own_ge hown7 hb)) hbB)
       have HS10 := kp (show CellsAt (w9.setCell ⟨w1.heap.size, j, none⟩ (.slice A9 (q + 1) c9)) ⟨b, off + k2 * 23, none⟩ l from HS9.out.below (B := w1.heap.size) ((setCell_kept w9 w1.heap.size j (.slice A9 (q + 1) c9)).below (Nat.le_trans HB2.out.size (Nat.le_trans hb8.size hkw.size)) (fun b hb => by simp at hb; subst hb; exact Nat.le_refl _)) hbB)
       clear ho9 hg9 hb9 hkw hO7 hx7 hown9 hput hown7 hb8
       have hS := HS9.out
       refine hK.out _ _ hS (fun _ => ?_)
       clear hK K HS
       have HS := kp hS
       clear hS
       try simp only [Act.put, z1, z2, z3]
       refine wpAnyH_take (i := 21) (oi := ⟨some 56, .indexAddr 53 (.tmp 35) (.tmp 40), 0, "ref.go:180", #[⟨0, .data⟩, ⟨5, .data⟩, ⟨0, .phase⟩, ⟨1, .phase⟩, ⟨2, .phase⟩, ⟨3, .phase⟩, ⟨4, .phase⟩, ⟨5, .phase⟩, ⟨6, .phase⟩, ⟨7, .phase⟩, ⟨8, .phase⟩, ⟨9, .phase⟩, ⟨10, .phase⟩, ⟨11, .phase⟩, ⟨12, .phase⟩, ⟨13, .phase⟩, ⟨14, .phase⟩, ⟨15, .phase⟩, ⟨16, .phase⟩, ⟨17, .phase⟩, ⟨18, .phase⟩, ⟨19, .phase⟩, ⟨20, .phase⟩], none⟩) (v := ?_) rfl (by kernel_rfl) (by kernel_rfl) (by kernel_rfl) (fun _ _ _ h => h) (Or.inl ⟨by rfl, ?_⟩) HS.out ?_
       rotate_left 1
       ·intro w hw; go_simp; try with_reducible rfl
       simp only [Act.put, z1, z2, z3]
       refine wpAnyH_ready (rs := [22]) (by kernel_rfl) (by simp) ?_
       refine AllReadyH.cons (o := ⟨none, .store 57 (.tmp 56) (.tmp 55), 0, "ref.go:180", #[⟨21, .data⟩, ⟨20, .data⟩, ⟨20, .chain⟩, ⟨0, .phase⟩, ⟨1, .phase⟩, ⟨2, .phase⟩, ⟨3, .phase⟩, ⟨4, .phase⟩, ⟨5, .phase⟩, ⟨6, .phase⟩, ⟨7, .phase⟩, ⟨8, .phase⟩, ⟨9, .phase⟩, ⟨10, .phase⟩, ⟨11, .phase⟩, ⟨12, .phase⟩, ⟨13, .phase⟩, ⟨14, .phase⟩, ⟨15, .phase⟩, ⟨16, .phase⟩, ⟨17, .phase⟩, ⟨18, .phase⟩, ⟨19, .phase⟩, ⟨20, .phase⟩], none⟩) rfl (fun K hK => ?_) (AllReadyH.nil)
       go_simp
       have hS := HS10.out
       refine hK.out _ _ hS (fun _ => ?_)
       clear hK K HS
       have HS := kp hS
       clear hS
       try simp only [Act.put, z1, z2, z3]
       refine wpAnyH_done (by kernel_rfl) ?_ _
       go_wp2_with fail
       go_roundw
       case rel => exact ⟨k2 + 1, vs2.set j (.slice A9 (q + 1) c9), rs2.set j (r3 ++ [(x.1.resp, x.2.vi, x.2.vn)]), by omega, by go_num, by rw [List.length_set, HVL2.out], by rw [HVL2.out] at HPUT; exact HPUT.out, by rw [HTK.out]; exact HR2.out.put HJ.out HT.out hjN HR3.out rfl, HBW.out⟩
       case measure => simp [intOf]; omega
      ·
       with_reducible refine step_slice_one rfl 57 _ rfl 40 _ 6 80 (.agg l2.toArray) l2.toArray Tryz.underlying57 q_info40 ?_ ?_ ?_ HAG.out HAS.out ?_
       ·decide
       ·decide
       ·rfl
       have HB67 := kp (show Below w8.heap.size w8 (w8.drew.alloc (.cells l2.toArray 40)) from (below_drewn (Below.refl _ _)).trans (below1 w8.drew (.cells l2.toArray 40)))
       have HN7 := kp (RowL.new w8.drew 40 l2)
       obtain ⟨w7, hw7⟩ : ∃ W, w8.drew.alloc (.cells l2.toArray 40) = W := ⟨_, rfl⟩
       rw [hw7] at HB67 HN7
       first | rw [hw7] | rw [show (w8.alloc (.cells l2.toArray 40)).drew = w7 from hw7]
       have HS7 := kp (show CellsAt w7 ⟨b, off + k2 * 23, none⟩ l from HCK.out.below (B := w8.heap.size) HB67.out (Nat.lt_of_lt_of_le hbB (Nat.le_of_lt hgl)))
       have HC7 := kp (show w7.cell? ⟨w1.heap.size, j, none⟩ = some (.slice A3 q c3) from (HB67.out.cell (p := ⟨w1.heap.size, j, none⟩) hgl).trans HCELL.out)
       clear hw7
       have hS := HS7.out
       refine hK.out _ _ hS (fun _ => ?_)
       clear hK K HS
       have HS := kp hS
       clear hS
       try simp only [Act.put, z1, z2, z3]
       refine wpAnyH_ready (rs := [13]) (by kernel_rfl) (by simp) ?_
       refine AllReadyH.cons (o := ⟨some 48, .load 57 (.tmp 47), 57, "ref.go:180", #[⟨12, .data⟩], none⟩) rfl (fun K hK => ?_) (AllReadyH.nil)
       have cw : w7.cell? ⟨w1.heap.size, j, none⟩ = some (.slice A3 q c3) := HC7.out
       go_simp
       have hS : CellsAt w7 ⟨b, off + k2 * 23, none⟩ l := HS7.out
       refine hK.out _ _ hS (fun _ => ?_)
       clear cw
       clear hK K HS
       have HS := kp hS
       clear hS
       try simp only [Act.put, z1, z2, z3]
       refine wpAnyH_ready (rs := [20]) (by kernel_rfl) (by simp) ?_
       refine AllReadyH.cons (o := ⟨some 55, .call ⟨.builtin .append, #[.tmp 48, .tmp 54], #[57, 57]⟩, 57, "ref.go:180", #[⟨13, .data⟩, ⟨19, .data⟩], none⟩) rfl (fun K hK => ?_) (AllReadyH.nil)
       have hb8 : Below w8.heap.size w8 w7 := HB67.out
       have hown7 : w7.ownsRow w1.heap.size 40 6 (.slice A3 q c3) q (r3.flatMap rv) := (Kept.of_below (L := []) hb8).own2 HROW.out (by simp)
       with_reducible refine step_append_g rfl _ _ 57 rfl w1.heap.size 40 _ 6 80 Tryz.underlying57 q_info40 ?_ ?_ (.slice A3 q c3) q (r3.flatMap rv) ?_ hown7 ⟨w8.heap.size, 0, none⟩ 1 1 l2 ?_ ?_ ?_ HONE.out ?_ ?_ ?_ ?_
       ·rfl
       ·decide
       ·rfl
       ·rfl
       ·exact HLL2.out
       ·intro i u hi; rw [Addr.add_mid, Nat.zero_add]; exact HN7.out.cell hi
       ·unfold maxLen; omega
       ·omega
       ·exact Nat.le_trans (Nat.le_of_lt hgl) hb8.size
       intro v9 w9 ho9 hg9 hb9
       obtain ⟨A9, c9, rfl⟩ := own_slice ho9
       have hkw := kept_of_grown hg9
       have hO7 := HO2.out.below hb8
       have q9 : w9.cell? ⟨w1.heap.size, j, none⟩ = some (.slice A3 q c3) := (World.cell?_of_block (a := ⟨w1.heap.size, j, none⟩) (hkw.block w1.heap.size (Nat.lt_of_lt_of_le hgl hb8.size) (not_own HNGO.out))).trans HC7.out
       have hx7 : Stab (fun b => (Value.slice (some ⟨w1.heap.size, 0, none⟩) vs2.length N).ownBlock = some b ∨ ∃ v ∈ vs2, v.ownBlock = some b) w7 (fun W => RespOk W W.heap.size x.1.resp x.2.vi x.2.vn) := by
        refine Stab.of_lim (lim := w1.heap.size) (P := fun B W => RespOk W B x.1.resp x.2.vi x.2.vn) (fun h hb hB => h.below hb hB) (fun h hB => h.mono hB) (HOK.out.below (HB2.out.trans (hb8.mono (Nat.le_of_lt hgl))) (Nat.le_refl _)) (Nat.le_trans (Nat.le_of_lt hgl) hb8.size) fun k hk => ?_
        rcases hk with h1 | ⟨v, hv, h1⟩
        ·cases h1; exact Nat.le_refl _
        ·obtain ⟨i, hi⟩ := List.mem_iff_getElem?.1 hv
         exact (HO2.out.vlt hi h1).1
       have hown9 : w9.ownsRow w1.heap.size 40 6 (.slice A9 (q + 1) c9) (r3.length + 1) (r3.flatMap rv ++ rv (x.1.resp, x.2.vi, x.2.vn)) := by rw [HQ.out]; rw [<- HL2.out] at ho9; exact ho9
       skip
       have hput := OutI.put (c := N) (by rw [HVL2.out]; exact hO7) HV3.out HR3.out hown9 hg9 hb9 hx7
       have z9 : w9.frozen? ⟨w1.heap.size, j, none⟩ = false := by
        have h1 := (hkw.own2 hO7.own (fun b hb e => HNGO.out (by simp at hb; rw [hb]; exact e.symm ▸ rfl)))
        rw [HVL2.out] at h1
        exact h1.frozenAt j
       have HPUT := kp hput
       have HBW := kp (show Below w1.heap.size w1 (w9.setCell ⟨w1.heap.size, j, none⟩ (.slice A9 (q + 1) c9)) from HB2.out.trans ((hb8.mono HB2.out.size).trans ((hkw.below (Nat.le_trans HB2.out.size hb8.size) (fun b hb => own_ge hown7 hb)).trans ((setCell_kept w9 w1.heap.size j (.slice A9 (q + 1) c9)).below (Nat.le_trans HB2.out.size (Nat.le_trans hb8.size hkw.size)) (fun b hb => by simp at hb; subst hb; exact Nat.le_refl _)))))
       have HS9 := kp (show CellsAt w9 ⟨b, off + k2 * 23, none⟩ l from HS7.out.below (B := w1.heap.size) (hkw.below (Nat.le_trans HB2.out.size hb8.size) (fun b hb => own_ge hown7 hb)) hbB)
       have HS10 := kp (show CellsAt (w9.setCell ⟨w1.heap.size, j, none⟩ (.slice A9 (q + 1) c9)) ⟨b, off + k2 * 23, none⟩ l from HS9.out.below (B := w1.heap.size) ((setCell_kept w9 w1.heap.size j (.slice A9 (q + 1) c9)).below (Nat.le_trans HB2.out.size (Nat.le_trans hb8.size hkw.size)) (fun b hb => by simp at hb; subst hb; exact Nat.le_refl _)) hbB)
       clear ho9 hg9 hb9 hkw hO7 hx7 hown9 hput hown7 hb8
       have hS := HS9.out
       refine hK.out _ _ hS (fun _ => ?_)
       clear hK K HS
       have HS := kp hS
       clear hS
       try simp only [Act.put, z1, z2, z3]
       refine wpAnyH_take (i := 21) (oi := ⟨some 56, .indexAddr 53 (.tmp 35) (.tmp 40), 0, "ref.go:180", #[⟨0, .data⟩, ⟨5, .data⟩, ⟨0, .phase⟩, ⟨1, .phase⟩, ⟨2, .phase⟩, ⟨3, .phase⟩, ⟨4, .phase⟩, ⟨5, .phase⟩, ⟨6, .phase⟩, ⟨7, .phase⟩, ⟨8, .phase⟩, ⟨9, .phase⟩, ⟨10, .phase⟩, ⟨11, .phase⟩, ⟨12, .phase⟩, ⟨13, .phase⟩, ⟨14, .phase⟩, ⟨15, .phase⟩, ⟨16, .phase⟩, ⟨17, .phase⟩, ⟨18, .phase⟩, ⟨19, .phase⟩, ⟨20, .phase⟩], none⟩) (v := ?_) rfl (by kernel_rfl) (by kernel_rfl) (by kernel_rfl) (fun _ _ _ h => h) (Or.inl ⟨by rfl, ?_⟩) HS.out ?_
       rotate_left 1
       ·intro w hw; go_simp; try with_reducible rfl
       simp only [Act.put, z1, z2, z3]
       refine wpAnyH_ready (rs := [22]) (by kernel_rfl) (by simp) ?_
       refine AllReadyH.cons (o := ⟨none, .store 57 (.tmp 56) (.tmp 55), 0, "ref.go:180", #[⟨21, .data⟩, ⟨20, .data⟩, ⟨20, .chain⟩, ⟨0, .phase⟩, ⟨1, .phase⟩, ⟨2, .phase⟩, ⟨3, .phase⟩, ⟨4, .phase⟩, ⟨5, .phase⟩, ⟨6, .phase⟩, ⟨7, .phase⟩, ⟨8, .phase⟩, ⟨9, .phase⟩, ⟨10, .phase⟩, ⟨11, .phase⟩, ⟨12, .phase⟩, ⟨13, .phase⟩, ⟨14, .phase⟩, ⟨15, .phase⟩, ⟨16, .phase⟩, ⟨17, .phase⟩, ⟨18, .phase⟩, ⟨19, .phase⟩, ⟨20, .phase⟩], none⟩) rfl (fun K hK => ?_) (AllReadyH.nil)
       go_simp
       have hS := HS10.out
       refine hK.out _ _ hS (fun _ => ?_)
       clear hK K HS
       have HS := kp hS
       clear hS
       try simp only [Act.put, z1, z2, z3]
       refine wpAnyH_done (by kernel_rfl) ?_ _
       go_wp2_with fail
       go_roundw
       case rel => exact ⟨k2 + 1, vs2.set j (.slice A9 (q + 1) c9), rs2.set j (r3 ++ [(x.1.resp, x.2.vi, x.2.vn)]), by omega, by go_num, by rw [List.length_set, HVL2.out], by rw [HVL2.out] at HPUT; exact HPUT.out, by rw [HTK.out]; exact HR2.out.put HJ.out HT.out hjN HR3.out rfl, HBW.out⟩
       case measure => simp [intOf]; omega
    ·obtain rfl : k2 = k := by omega
     have hg4 : decide ((k2 : Int) < (k2 : Int)) = false := by simp
     have hL : L.take k2 = L := List.take_of_length_le (by rw [HN.out]; exact Nat.le_refl _)
     have hO := HO2.out
     have hR := HR2.out
     rw [hL] at hR
     have hlm : rs2.length = N := hR.len
     obtain ⟨A4, c4, he, hout⟩ := hO.outs
     rw [hR, <- HNN.out] at hout
     have HOUT := kp hout
     have HE := kp he
     have HLM := kp hlm
     clear hO hR hout he hlm hL
     go_wp2_with fail
     go_ret
     have he := HE.out
     rw [HLM.out] at he
     cases he
     refine ⟨_, N, ?_, HOUT.out, HB2.out⟩
     rw [outsOf_eq, outsN_len, HNN.out]
     rfl
end Go.Proofs.YtnjhpgmbfblgaaaGreat.Ord
