/- Walk of history.Valid. -/
import Derived.Test.YtnjhpgmbfblgaaaGreatMO0
import Derived.Test.YtnjhpgmbfblgaaaGreatH19
import Derived.Deep.DeepCutAuto
namespace Go.Proofs.YtnjhpgmbfblgaaaGreat.Ord
set_option maxRecDepth 100000
set_option maxHeartbeats 16000000
open Go.RowKit
set_option linter.unusedVariables false
set_option linter.unusedSimpArgs false
theorem run_lookup_ok {P : Program} {w : World} {T K E : TypeId} {b : Nat} {f : Int -> Option Value} (h : MapAt w b f) (hT : P.underlying T = some (.map K E)) (hK : P.underlying K = some (.int .i64)) (z : Value) (hz : (zeroValue E).run P w = .ok z w) (k : Int) :
  (Instr.lookup T (.map (some b)) (.int .i64 k) true).run P w = .ok (.tuple #[(f k).getD z, .bool (f k).isSome]) w := by
 obtain ⟨es, c, hb, hk, hf⟩ := h
 have h1 := Go.MapKept.run_getObj_map (P := P) hb
 have h2 : ∀ e, (Instr.checkKey e 10000 K (.int .i64 k)).run P w = .ok () w := fun e => Go.MapKept.run_checkKey hK (by simp [Go.MapKept.IsKey]) e 9999
 rcases findNow_lk k es.toList 0 hk.1 with ⟨g1, g2, g3⟩ | ⟨j, e, g1, g2, g3, g4⟩
 ·have h3 := Go.MapKept.run_findKey (P := P) (w := w) hK g3
  rw [<- hf k, g1]
  unfold Instr.lookup
  rw [Sem.run_bind, run_underlying hT]
  simp [Sem.run_bind, h1, h2, h3, hz]
 ·have h3 := Go.MapKept.run_findKey (P := P) (w := w) hK g4
  rw [<- hf k, g3]
  unfold Instr.lookup
  rw [Sem.run_bind, run_underlying hT]
  simp [Sem.run_bind, h1, h2, h3]
theorem last_take {L : List (CallR × CallV)} {m : Nat} (h : m < L.length) : ((L.take (m + 1)).map (·.1)).getLast? = some L[m].1 := by
 rw [List.take_add_one, List.getElem?_eq_getElem h, Option.toList_some, List.map_append, List.map_singleton]
 exact List.getLast?_concat
theorem cell_of_block {w w' : World} {b o : Nat} (h : w'.heap[b]? = w.heap[b]?) : w'.cell? ⟨b, o, none⟩ = w.cell? ⟨b, o, none⟩ := by simp only [World.cell?, h]
def zeroC : List Value := callL 0 0 false 0 ⟨#[]⟩ (.slice none 0 0) (.slice none 0 0) (.slice none 0 0) 0 0 ⟨#[]⟩ ⟨#[]⟩ ⟨#[]⟩ 0 0 (.slice none 0 0) 0 0 (.slice none 0 0) 0 0 0 0
theorem last_cells (pre : List (CallR × CallV)) (x : CallR) (h1 : ∀ y ∈ pre, ∀ v ∈ callC y.1 y.2, v.oneCell' = true) (hf : Fit singleB (pre.map (·.1))) (hlen : pre.length <= 4096) : ∃ (lz : List Value) (ok : Bool) (lt ln : Int), (lastV pre x.ses).getD (.agg zeroC.toArray) = .agg lz.toArray /\ (lastV pre x.ses).isSome = ok /\ lz.length = 23 /\ (∀ v ∈ lz, v.oneCell' = true) /\ lz[1]? = some (.int .i64 ln) /\ lz[21]? = some (.int .i64 lt) /\ (0 <= ln /\ ln <= 4096) /\ (Tryz.prog.info? 52).map (·.size) = some lz.toArray.size /\ (SesP (pre.map (·.1)) x ↔ if ok = true then (0 <= lt /\ lt < x.asked /\ x.num = ln + 1) else x.num = 0) := by
 cases hl : (pre.filter fun y => y.1.ses == x.ses).getLast? with
 | none =>
  refine ⟨zeroC, false, 0, 0, by simp [lastV, hl], by simp [lastV, hl], rfl, ?_, rfl, rfl, ⟨by omega, by omega⟩, call_sizeA _ _ _ _ _ _ _ _ _ _ _ _ _ _ _ _ _ _ _ _ _ _ _, ?_⟩
  ·exact callC_one (x := ⟨0, 0, false, cmdZ, resp00 0 0, 0, 0, 0, 0⟩) (p := ⟨.slice none 0 0, .slice none 0 0, .slice none 0 0, .slice none 0 0, .slice none 0 0⟩) rfl rfl rfl rfl rfl
  ·unfold SesP
   rw [ses_last, hl]
   simp
 | some y =>
  have hy : y ∈ pre := (List.mem_filter.1 (List.mem_of_getLast? hl)).1
  have hnum : 0 <= y.1.num /\ y.1.num <= 4096 := by
   have h2 : (ofSes (pre.map (·.1)) x.ses).getLast? = some y.1 := by rw [ses_last, hl]; rfl
   have h3 := (hf.last h2).1
   have h4 : (ofSes (pre.map (·.1)) x.ses).length <= pre.length := by
    have := List.length_filter_le (fun y : CallR => y.ses == x.ses) (pre.map (·.1))
    rwa [List.length_map] at this
   have h5 := List.length_pos_of_mem (List.mem_of_getLast? h2)
   omega
  refine ⟨callC y.1 y.2, true, y.1.told, y.1.num, by simp [lastV, hl], by simp [lastV, hl], rfl, h1 y hy, rfl, rfl, hnum, call_sizeA _ _ _ _ _ _ _ _ _ _ _ _ _ _ _ _ _ _ _ _ _ _ _, ?_⟩
  unfold SesP
  rw [ses_last, hl]
  simp
theorem own_eq {w w' : World} {base : Nat} {e : TypeId} {size n : Nat} {v : Value} {xs : List Value} (h : w.ownsRow base e size v n xs) (hb : ∀ g, base <= g -> g < w.heap.size -> w'.heap[g]? = w.heap[g]?) : w'.ownsRow base e size v n xs :=
 ⟨h.1, h.2.imp id fun ⟨g, cap, cur, h1, h2, h3, h4⟩ => ⟨g, cap, cur, h1, h2, (hb g h2 (Array.getElem?_eq_some_iff.1 h3).1).trans h3, h4⟩⟩
theorem vinv_init (w : World) : VInv w (.slice none 0 0) [] ((w.alloc (.map #[] 0)).alloc (.map #[] 0)) := by
 have hm := MapAt.new w
 have hm2 := MapAt.new (w.alloc (.map #[] 0))
 rw [alloc_size1] at hm2
 exact ⟨(hm.of_block ((below1 _ _).block _ hm.lt)).congr fun k => rfl, hm2.congr fun k => rfl, ⟨by simp [donesL], .inl ⟨rfl, rfl⟩⟩, below2 w _ _, by simp⟩

theorem valid_end {L L' : List (CallR × CallV)} (hn : L.length <= 4096) (hf : Fit singleB (L.map (·.1))) (hp : L'.Perm (donesL L)) (hs : L'.Pairwise fun a b => ¬ b.1.done < a.1.done) : timsUp L' = true ↔ ValidP singleB (L.map (·.1)) := by
 have h1 : (L'.map (·.1)).Perm (dones (L.map (·.1))) := by rw [<- donesL_map]; exact hp.map _
 have h2 : (L'.map (·.1)).Pairwise fun a b => ¬ b.done < a.done := by rw [List.pairwise_map]; exact hs
 have h3 := timed_sorted hf h1 h2
 unfold timsUp
 rw [decide_eq_true_iff]
 constructor
 ·intro h
  refine ⟨by rw [List.length_map]; exact hn, hf, h3.2 fun i hi => ?_⟩
  have hi2 : i < L'.length - 1 := by rw [List.length_map] at hi; omega
  have := h i hi2
  simp only [List.getElem_map]
  omega
 ·intro h i hi
  have hi2 : i + 1 < (L'.map (·.1)).length := by rw [List.length_map]; omega
  have := h3.1 h.2.2 i hi2
  simp only [List.getElem_map] at this
  omega

theorem valid25 (L : List (CallR × CallV)) (A : Option Addr) (n c : Nat) (w : World) (hn : L.length = n) (hl : n <= maxLen) (hA : RowCO w w.heap.size A L) (hs : ∀ x ∈ L, CallS x.1) :
  Calls Tryz.prog 25 #[.slice A n c] w (VlPost L w) := by
 have hn' : n <= 9223372036854775807 := by unfold maxLen at hl; omega
 by_cases hlong : 4096 < n
 ·have hg : decide (4096 < (n : Int)) = true := by simp; omega
  have HF := kp (show ¬ ValidP singleB (L.map (·.1)) from fun h => by have := h.1; rw [List.length_map] at this; omega)
  clear hA
  go_enter Tryz.func25, Tryz.ntmps25
  go_wp2_with fail
  go_ret
  exact ⟨false, rfl, ⟨fun h => by (cases h), fun h => absurd h HF.out⟩, Below.refl _ _⟩
 have hg : decide (4096 < (n : Int)) = false := by simp; omega
 have hn4 : n <= 4096 := by omega
 have HA := kp hA
 have HN := kp hn
 have HS := kp hs
 have HI0 := kp (vinv_init w)
 have HONEC := kp (show ∀ y ∈ L, ∀ v ∈ callC y.1 y.2, v.oneCell' = true from fun y hy => by
  obtain ⟨i, hi⟩ := List.mem_iff_getElem?.1 hy
  obtain ⟨_, _, _, _, _, hok⟩ := HA.out i y hi
  exact call_oneC hok)
 have hmk : ∀ w, (Instr.makeMap 122 none).run Tryz.prog w = .ok (.map (some w.heap.size)) (w.alloc (.map #[] 0)) := fun _ => rfl
 have hmk2 : ∀ w, (Instr.makeMap 119 none).run Tryz.prog w = .ok (.map (some w.heap.size)) (w.alloc (.map #[] 0)) := fun _ => rfl
 clear hA hn hs hlong
 go_enter Tryz.func25, Tryz.ntmps25
 go_upto_region 6 with (fail)
 obtain ⟨W0, hW0⟩ : ∃ W0, (w.alloc (.map #[] 0)).alloc (.map #[] 0) = W0 := ⟨_, rfl⟩
 rw [hW0] at HI0 ⊢
 clear hW0
 go_wp2_with fail
 go_loopw [5, 19] (fun s5 s19 wr => ∃ (k : Nat), k <= n /\ s19 = .int .i64 k /\ VInv w s5 (L.take k) wr /\ Fit singleB ((L.take k).map (·.1))) (fun _ j _ => n - (intOf j).toNat)
 case atStart => exact ⟨0, Nat.zero_le _, by go_num, HI0.out, by simpa using Fit.nil singleB⟩
 case round =>
  obtain ⟨k, hk, rfl, hinv, hfit⟩ := hrel
  obtain ⟨w5, rfl⟩ : ∃ W, W = wr := ⟨_, rfl⟩
  obtain ⟨A1, c1, rfl⟩ := own_slice hinv.own
  obtain ⟨m1, hm1⟩ : ∃ m, (donesL (L.take k)).length = m := ⟨_, rfl⟩
  have HM1 := kp hm1
  have hm1k : m1 <= k := by
   have := donesL_len (L.take k)
   rw [List.length_take] at this
   omega
  rw [hm1] at hinv ⊢
  clear hm1
  have HINV := kp hinv
  have HFIT := kp hfit
  clear hinv hfit
  by_cases hlt : k < n
  ·have hg2 : decide ((k : Int) < (n : Int)) = true := decide_eq_true (by omega)
   have hk1 : k < L.length := by rw [HN.out]; exact hlt
   obtain ⟨x, hx⟩ : ∃ x, L[k] = x := ⟨_, rfl⟩
   have hxk := List.getElem?_eq_getElem hk1
   rw [hx] at hxk
   have HXK := kp hxk
   have HSPL := kp (show L = L.take k ++ x :: L.drop (k + 1) by rw [<- hx, List.getElem_cons_drop, List.take_append_drop])
   have hxs := HS.out x (List.mem_of_getElem? hxk)
   obtain ⟨b, off, rfl, hbB, hck, hok⟩ := (HA.out.below HINV.out.below (Nat.le_refl _)) k x hxk
   have hbr : b < w5.heap.size := by have := HINV.out.size; omega
   have h60 : ∀ W, Below w5.heap.size w5 W -> Calls Tryz.prog 60 #[.agg (callC x.1 x.2).toArray] W fun e w' => e = .returned (.bool (singleB x.1)) /\ Below W.heap.size W w' := fun W hW => single60 x.1 x.2 hxs W ((((hok.mono (by have := HINV.out.size; omega : w.heap.size <= w5.heap.size)).below hW (Nat.le_refl _)).mono hW.size))
   have hone := call_oneC hok
   have hsz := call_len52 x
   have hlen : (callC x.1 x.2).length = 23 := rfl
   have hsA : (Tryz.prog.info? 52).map (·.size) = some (callC x.1 x.2).toArray.size := call_sizeA _ _ _ _ _ _ _ _ _ _ _ _ _ _ _ _ _ _ _ _ _ _ _
   obtain ⟨ses, hses⟩ : ∃ y, x.1.ses = y := ⟨_, rfl⟩
   obtain ⟨num, hnum⟩ : ∃ y, x.1.num = y := ⟨_, rfl⟩
   obtain ⟨asked, hask⟩ : ∃ y, x.1.asked = y := ⟨_, rfl⟩
   obtain ⟨done, hdone⟩ : ∃ y, x.1.done = y := ⟨_, rfl⟩
   obtain ⟨told, htold⟩ : ∃ y, x.1.told = y := ⟨_, rfl⟩
   have l0 : (callC x.1 x.2)[0]? = some (.int .i64 ses) := by rw [<- hses]; rfl
   have l1 : (callC x.1 x.2)[1]? = some (.int .i64 num) := by rw [<- hnum]; rfl
   have l19 : (callC x.1 x.2)[19]? = some (.int .i64 asked) := by rw [<- hask]; rfl
   have l20 : (callC x.1 x.2)[20]? = some (.int .i64 done) := by rw [<- hdone]; rfl
   have l21 : (callC x.1 x.2)[21]? = some (.int .i64 told) := by rw [<- htold]; rfl
   obtain ⟨l, hlc⟩ : ∃ l, callC x.1 x.2 = l := ⟨_, rfl⟩
   have HLC := kp hlc
   rw [hlc] at hck h60 hone hsz hlen hsA l0 l1 l19 l20 l21
   have Hk := kp hck
   have HZ := kp hsz
   have HZA := kp hsA
   have H1 := kp (all_oneCell_toArray hone)
   have HO1 := kp hone
   have HLEN := kp hlen
   have H60 := kp h60
   have HSES := kp hses
   have HNUM := kp hnum
   have HASK := kp hask
   have HDON := kp hdone
   have HTLD := kp htold
   have HL0 := kp l0
   have HL1 := kp l1
   have HL19 := kp l19
   have HL20 := kp l20
   have HL21 := kp l21
   have HBR := kp hbr
   clear hx hxk hxs hck hok h60 hone hsz hlen hsA l0 l1 l19 l20 l21 hlc hses hnum hask hdone htold hbB hbr
   go_upto_region 9 with (first
    | ((with_reducible refine wpList_load_agg (o := ⟨some 23, _, _, _, _, _⟩) rfl 52 _ rfl ⟨b, off + k * 23, none⟩ ?_ l _ Hk.out Tryz.underlying52 rfl HZ.out ?_); (· rfl))
    | ((with_reducible refine wpList_store_at2 (op := ⟨none, _, _, _, _, _⟩) rfl 52 _ _ rfl w5.heap.size 0 l.toArray ?_ ?_ ?_ HZA.out H1.out ?_); (· rfl); (· rfl); (· exact there_zero _ _ _ _ HLEN.out); intro w7 hw7; have hx7 : RowL w7 w5.heap.size 52 l /\ Below w5.heap.size w5 w7 := (by rw [hw7]; exact stored_zero w5 52 l _ HLEN.out); clear hw7; have HX7 := kp hx7.1; have HB7 := kp hx7.2; clear hx7))
   have HQ := kp HX7.out.cells.regrown
   have Q19 := kp (cell_kept Tryz.isAgg3 (HX7.out.cell HL19.out))
   simp only [Act.put]
   go_cut [41] (fun s41 W' => ∃ t, s41 = .bool t /\ Below w7.heap.size w7 W' /\ Hid ((t = true -> ¬ OkP ((L.take k).map (·.1)) x.1) /\ (t = false -> singleB x.1 = true /\ ∀ y, ((L.take k).map (·.1)).getLast? = some y -> y.asked < x.1.asked)))
   case first =>
    cases hsg : singleB x.1
    ·rw [hsg] at H60
     refine wp_region_quiet_below (by kernel_rfl) (by kernel_rfl) ?_
     repeat (first
      | ((with_reducible refine qk_load_agg (o := ⟨some 24, _, _, _, _, _⟩) rfl 52 _ rfl ⟨w5.heap.size, 0, none⟩ ?_ l _ HQ.out Tryz.underlying52 rfl HZ.out ?_); (· rfl); simp only [Act.put, z1, z2, z3])
      | go_big_quiet_step ((go_at_call 60; exact Calls.regrown_of (H60.out _ (HB7.out.trans ((below_regrown _ _ _).mono HB7.out.size))))))
     refine wpQuiet_nil ?_
     intro W3 hW3
     have hb3 := regrown_below hW3
     clear hW3
     go_wp2_with fail
     go_meet
     case rel => exact ⟨true, rfl, hb3, ⟨fun _ h => by (have := h.one; rw [hsg] at this; cases this), fun h => by (cases h)⟩⟩
    ·rw [hsg] at H60
     by_cases hk0 : k = 0
     ·subst hk0
      refine wp_region_quiet_below (by kernel_rfl) (by kernel_rfl) ?_
      repeat (first
       | ((with_reducible refine qk_load_agg (o := ⟨some 24, _, _, _, _, _⟩) rfl 52 _ rfl ⟨w5.heap.size, 0, none⟩ ?_ l _ HQ.out Tryz.underlying52 rfl HZ.out ?_); (· rfl); simp only [Act.put, z1, z2, z3])
       | go_big_quiet_step ((go_at_call 60; exact Calls.regrown_of (H60.out _ (HB7.out.trans ((below_regrown _ _ _).mono HB7.out.size))))))
      refine wpQuiet_nil ?_
      intro W3 hW3
      have hb3 := regrown_below hW3
      clear hW3
      go_wp2_with fail
      go_meet
      case rel => exact ⟨false, rfl, hb3, ⟨fun h => by (cases h), fun _ => ⟨hsg, fun y hy => by simp at hy⟩⟩⟩
     ·obtain ⟨m, rfl⟩ : ∃ m, k = m + 1 := ⟨k - 1, by omega⟩
      have hm1 : m < L.length := by rw [HN.out]; omega
      obtain ⟨b', off', he, _, hcm, _⟩ := (HA.out.below (HINV.out.below) (Nat.le_refl _)) m _ (List.getElem?_eq_getElem hm1)
      obtain ⟨rfl, rfl⟩ : b = b' /\ off = off' := by simpa using he
      clear he hk0
      obtain ⟨pa, hpa⟩ : ∃ y, L[m].1.asked = y := ⟨_, rfl⟩
      have c38 : w7.cell? ⟨b, off + m * 23 + 19, none⟩ = some (.int .i64 pa) := by
       rw [HB7.out.cell HBR.out, <- hpa]
       exact hcm 19 _ rfl
      have HLAST := kp (last_take hm1)
      have Q38 := kp (cell_kept Tryz.isAgg3 c38)
      have HPA := kp hpa
      have e1 : ((m : Int) + 1 - 1) = (m : Int) := by omega
      have e2 : IntKind.i64.wrap (m : Int) = (m : Int) := by rw [IntKind.wrap_i64]; omega
      have e4 : (m : Int) < (n : Int) := by omega
      have e5 : (0 : Int) < (m : Int) + 1 := by omega
      have e6 : decide ((0 : Int) < (m : Int) + 1) = true := decide_eq_true e5
      clear hpa hcm c38
      refine wp_region_quiet_below (by kernel_rfl) (by kernel_rfl) ?_
      repeat (first
       | ((with_reducible refine qk_load_agg (o := ⟨some 24, _, _, _, _, _⟩) rfl 52 _ rfl ⟨w5.heap.size, 0, none⟩ ?_ l _ HQ.out Tryz.underlying52 rfl HZ.out ?_); (· rfl); simp only [Act.put, z1, z2, z3])
       | ((with_reducible refine qk_load_cell (o := ⟨some 32, _, _, _, _, _⟩) 3 _ rfl ⟨w5.heap.size, 19, none⟩ ?_ (.int .i64 asked) Q19.out ?_ ?_); (· rfl); (· rfl); simp only [Act.put, z1, z2, z3])
       | ((with_reducible refine qk_load_cell (o := ⟨some 38, _, _, _, _, _⟩) 3 _ rfl ⟨b, off + m * 23 + 19, none⟩ ?_ (.int .i64 pa) Q38.out ?_ ?_); (· rfl); (· rfl); simp only [Act.put, z1, z2, z3])
       | go_big_quiet_step ((go_at_call 60; exact Calls.regrown_of (H60.out _ (HB7.out.trans ((below_regrown _ _ _).mono HB7.out.size))))))
      refine wpQuiet_nil ?_
      intro W3 hW3
      have hb3 := regrown_below hW3
      clear hW3
      go_wp2_with fail
      go_meet
      case rel => exact ⟨decide (asked <= pa), rfl, hb3, ⟨fun h hok => by (have h1 := hok.ask _ HLAST.out; rw [HASK.out, HPA.out] at h1; have := of_decide_eq_true h; omega), fun h => ⟨hsg, fun y hy => by (rw [HLAST.out] at hy; cases hy; rw [HASK.out, HPA.out]; have := of_decide_eq_false h; omega)⟩⟩⟩
   case rest =>
    obtain ⟨t, rfl, hb3, HP⟩ := hcut
    have HB3 := kp (HB7.out.trans (hb3.mono HB7.out.size))
    have HX3 := kp (HX7.out.of_block (hb3.block _ HX7.out.lt))
    clear hb3 HQ Q19 HX7 HB7
    cases t
    ·obtain ⟨hone, hask⟩ := HP.out.2 rfl
     have HONE := kp hone
     have HASKP := kp hask
     have c19 := HX3.out.cell HL19.out
     have c20 := HX3.out.cell HL20.out
     have c21 := HX3.out.cell HL21.out
     have hsm : MapAt (wc.alloc (.cells #[.int .i64 asked, .int .i64 done, .int .i64 told] 3)) (w.heap.size + 1) (seenJV (L.take k) x.1 0) := by
      refine (HINV.out.seen.of_block ?_).congr fun k' => (seenJV_zero _ _ _).symm
      rw [(below1 wc _).block _ (by have := HB3.out.size; have := HINV.out.size; omega)]
      exact HB3.out.block _ (by have := HINV.out.size; omega)
     have hst : ∀ j, j < 3 -> (wc.alloc (.cells #[.int .i64 asked, .int .i64 done, .int .i64 told] 3)).cell? ⟨wc.heap.size, j, none⟩ = some (.int .i64 (stamp x.1 j)) := fun j hj => by
      have hr := RowL.new wc 3 [.int .i64 asked, .int .i64 done, .int .i64 told]
      refine hr.cell ?_
      rcases j with _ | _ | _ | j
      ·simp [stamp, HASK.out]
      ·simp [stamp, HDON.out]
      ·simp [stamp, HTLD.out]
      ·omega
     have HSM := kp hsm
     have HST := kp hst
     have HB4 := kp (HB3.out.trans ((below1 wc (.cells #[.int .i64 asked, .int .i64 done, .int .i64 told] 3)).mono HB3.out.size))
     have HX4 := kp (HX3.out.of_block ((below1 wc (.cells #[.int .i64 asked, .int .i64 done, .int .i64 told] 3)).block _ HX3.out.lt))
     have HSZ4 := kp (show (wc.alloc (.cells #[.int .i64 asked, .int .i64 done, .int .i64 told] 3)).heap.size = wc.heap.size + 1 from alloc_size1 _ _)
     have HWC := kp (show w5.heap.size + 1 <= wc.heap.size from HX3.out.lt)
     obtain ⟨W4, hW4⟩ : ∃ W, W = wc.alloc (.cells #[.int .i64 asked, .int .i64 done, .int .i64 told] 3) := ⟨_, rfl⟩
     rw [<- hW4] at HSM HST HB4 HX4 HSZ4
     have HW4 := kp hW4
     clear hone hask hsm hst hW4
     clear HP
     go_wp2_with fail
     rw [<- HW4.out]
     clear HW4 c19 c20 c21
     go_loopw [50] (fun s50 wr => ∃ j : Nat, j <= 3 /\ s50 = .int .i64 j /\ MapAt wr (w.heap.size + 1) (seenJV (L.take k) x.1 j) /\ Kept [w.heap.size + 1] W4 wr /\ Hid (∀ i, i < j -> 0 <= stamp x.1 i -> seenB (L.take k) (stamp x.1 i) = false)) (fun j _ => 3 - (intOf j).toNat)
     case atStart => exact ⟨0, by omega, by go_num, HSM.out, Kept.refl _ _, fun i hi => absurd hi (by omega)⟩
     case round =>
      obtain ⟨j, hj, rfl, hm, hkq, HD⟩ := hrel
      have HM := kp hm
      have HKQ := kp hkq
      clear hm hkq
      by_cases hj3 : j < 3
      ·have hg3 : decide ((j : Int) < 3) = true := decide_eq_true (by omega)
       have e1 : (j : Int) < 3 := by omega
       have q1 : wr.cell? ⟨wc.heap.size, j, none⟩ = some (.int .i64 (stamp x.1 j)) := by
        rw [<- HST.out j hj3]
        exact cell_of_block (HKQ.out.block _ (by have := HSZ4.out; omega) (by have := HWC.out; have := HINV.out.size; simp; omega))
       have hlk : (Instr.lookup 119 (.map (some (w.heap.size + 1))) (.int .i64 (stamp x.1 j)) false).run Tryz.prog wr = .ok (.bool (seenJ (L.take k) x.1 j (stamp x.1 j))) wr := by
        rw [HM.out.run_lookup Tryz.underlying119 (by kernel_rfl) (.bool false) (Tryz.zeroValue4 wr)]
        unfold seenJV
        cases seenJ (L.take k) x.1 j (stamp x.1 j) <;> rfl
       have HNEW := kp (fun h0 => seenJ_new HONE.out (L.take k) hj3 h0)
       have HSJ := kp (seenJV_succ (L.take k) x.1 hj3)
       have HFR := kp (fun (hok : OkP ((L.take k).map (·.1)) x.1) h0 => hok.fresh j hj3 h0)
       obtain ⟨st, hst⟩ : ∃ y, stamp x.1 j = y := ⟨_, rfl⟩
       obtain ⟨sj, hsj⟩ : ∃ y, seenJ (L.take k) x.1 j (stamp x.1 j) = y := ⟨_, rfl⟩
       rw [hsj] at hlk HNEW
       rw [hst] at q1 hlk HNEW HSJ HFR
       have HSTJ := kp hst
       clear hsj hst
       have HUPD := kp (fun (w8 : World) (h : ∀ g, MapAt wr (w.heap.size + 1) g -> MapAt w8 (w.heap.size + 1) (fun k' => if k' = st then some (.bool true) else g k')) => (h _ HM.out).congr fun k' => (HSJ.out k').symm)
       have HBQ := kp (HINV.out.below.trans ((HB4.out.mono (by have := HINV.out.size; omega)).trans (HKQ.out.below (by have := HB4.out.size; have := HINV.out.size; omega) (fun b hb => by simp at hb; omega))))
       by_cases h0 : 0 <= st
       ·have g0 : decide (0 <= st) = true := decide_eq_true h0
        have HH0 := kp h0
        clear h0
        cases sj
        ·go_wp2_with ((with_reducible refine wpList_map_update (o := ⟨none, _, _, _, _, _⟩) rfl 119 3 4 _ _ _ rfl (w.heap.size + 1) st (.bool true) ?_ ?_ ?_ _ HM.out ?_ ?_ ?_); (· rfl); (· rfl); (· rfl); (· exact Tryz.underlying119); (· kernel_rfl); intro w8 hk8 hm8; have HK8 := kp hk8; have HM8 := kp (HUPD.out w8 hm8); clear hk8 hm8)
         go_roundw
         case rel => exact ⟨j + 1, by omega, by go_num, HM8.out, HKQ.out.trans HK8.out, fun i hi h => by (by_cases e : i = j; (subst e; rw [HSTJ.out]; exact (HNEW.out HH0.out).symm); exact HD.out i (by omega) h)⟩
         case measure => simp [intOf]; omega
        ·have HNO := kp (fun hok => HFR.out hok HH0.out ((seenB_iff _ _).1 (HNEW.out HH0.out).symm))
         go_wp2_with fail
         go_ret
         exact .no rfl HSPL.out HNO.out HBQ.out
       ·have g0 : decide (0 <= st) = false := decide_eq_false h0
        have HH0 := kp h0
        clear h0
        go_wp2_with ((with_reducible refine wpList_map_update (o := ⟨none, _, _, _, _, _⟩) rfl 119 3 4 _ _ _ rfl (w.heap.size + 1) st (.bool true) ?_ ?_ ?_ _ HM.out ?_ ?_ ?_); (· rfl); (· rfl); (· rfl); (· exact Tryz.underlying119); (· kernel_rfl); intro w8 hk8 hm8; have HK8 := kp hk8; have HM8 := kp (HUPD.out w8 hm8); clear hk8 hm8)
        go_roundw
        case rel => exact ⟨j + 1, by omega, by go_num, HM8.out, HKQ.out.trans HK8.out, fun i hi h => by (by_cases e : i = j; (subst e; rw [HSTJ.out] at h; exact absurd h HH0.out); exact HD.out i (by omega) h)⟩
        case measure => simp [intOf]; omega
      ·obtain rfl : j = 3 := by omega
       have HMS := kp (HM.out.congr (seenJV_three (L.take k) x))
       have hml : MapAt wr w.heap.size (lastV (L.take k)) := by
        refine HINV.out.last.of_block ?_
        rw [HKQ.out.block _ (by have := HSZ4.out; have := HWC.out; have := HINV.out.size; omega) (by simp)]
        exact HB4.out.block _ (by have := HINV.out.size; omega)
       have HX5 := kp (HX4.out.of_block (HKQ.out.block _ HX4.out.lt (by have := HINV.out.size; simp; omega)))
       have HOWN := kp (HINV.out.own)
       obtain ⟨lz, ok, lt, ln, z1, z2, z3, z4, z5, z6, zl, z7, z8⟩ := last_cells (L.take k) x.1 (fun y hy => HONEC.out y (List.mem_of_mem_take hy)) HFIT.out (by rw [List.length_take]; omega)
       have hlk : (Instr.lookup 122 (.map (some w.heap.size)) (.int .i64 ses) true).run Tryz.prog wr = .ok (.tuple #[.agg lz.toArray, .bool ok]) wr := by
        have h := run_lookup_ok hml Tryz.underlying122 (by kernel_rfl) _ (Tryz.zeroValue52 wr) x.1.ses
        rw [z2] at h
        rw [<- HSES.out, h]
        congr 3
        exact congrArg (fun v => [v, Value.bool ok]) z1
       have c0 := HX5.out.cell HL0.out
       have c1 := HX5.out.cell HL1.out
       have c19 := HX5.out.cell HL19.out
       have HML := kp hml
       have Z3 := kp z3
       have Z4 := kp (all_oneCell_toArray z4)
       have Z5 := kp z5
       have Z6 := kp z6
       have Z7 := kp z7
       have ZL := kp zl
       have Z8 := kp z8
       clear hml HM z1 z2 z3 z4 z5 z6 zl z7 z8
       go_upto_region 19 with (((with_reducible refine wpList_store_at2 (op := ⟨none, _, _, _, _, _⟩) rfl 52 _ _ rfl wr.heap.size 0 lz.toArray ?_ ?_ ?_ Z7.out Z4.out ?_); (· rfl); (· rfl); (· exact there_zero _ _ _ _ Z3.out); intro w6 hw6; have hx6 : RowL w6 wr.heap.size 52 lz /\ Below wr.heap.size wr w6 := (by rw [hw6]; exact stored_zero wr 52 lz _ Z3.out); clear hw6; have HX6 := kp hx6.1; have HB6 := kp hx6.2; clear hx6))
       clear hlk c0 c1 c19
       have HX7 := kp (HX5.out.of_block (HB6.out.block _ HX5.out.lt))
       have d1 := HX7.out.cell HL1.out
       have d19 := HX7.out.cell HL19.out
       have f1 := HX6.out.cell Z5.out
       have f21 := HX6.out.cell Z6.out
       have hz8 := Z8.out
       rw [HASK.out, HNUM.out] at hz8
       have HZ8 := kp hz8
       have hw1 : IntKind.i64.wrap (ln + 1) = ln + 1 := by have := ZL.out; rw [IntKind.wrap_i64]; omega
       clear hz8
       go_cut [100] (fun s100 W' => W' = w6 /\ ∃ t, s100 = .bool t /\ Hid (t = false ↔ SesP ((L.take k).map (·.1)) x.1))
       case first =>
        cases ok
        ·cases h1 : (num == 0)
         all_goals
          have h2 : (num != 0) = !(num == 0) := rfl
          rw [h1] at h2
          go_wp2_with fail
          go_meet
          case rel => exact ⟨rfl, _, rfl, kp (by rw [HZ8.out]; simp at h1; simp [h1])⟩
        ·cases q1 : decide (lt < 0)
         ·cases q2 : decide (asked <= lt)
          ·cases q3 : (num != ln + 1)
           all_goals
            have Q1 := kp q1
            have Q2 := kp q2
            have Q3 := kp q3
            go_wp2_with fail
            go_meet
            case rel => exact ⟨rfl, _, rfl, kp (by rw [HZ8.out]; have b1 := of_decide_eq_false Q1.out; have b2 := of_decide_eq_false Q2.out; have b3 := Q3.out; simp at b3; simp; omega)⟩
          ·have Q1 := kp q1
           have Q2 := kp q2
           go_wp2_with fail
           go_meet
           case rel => exact ⟨rfl, _, rfl, kp (by rw [HZ8.out]; have b2 := of_decide_eq_true Q2.out; simp; omega)⟩
         ·have Q1 := kp q1
          go_wp2_with fail
          go_meet
          case rel => exact ⟨rfl, _, rfl, kp (by rw [HZ8.out]; have b1 := of_decide_eq_true Q1.out; simp; omega)⟩
       case rest =>
        obtain ⟨hwc, t, rfl, HSS⟩ := hcut
        subst hwc
        have HBQ := kp (HINV.out.below.trans ((HB4.out.mono (by have := HINV.out.size; omega)).trans ((HKQ.out.below (by have := HB4.out.size; have := HINV.out.size; omega) (fun b hb => by simp at hb; omega)).trans (HB6.out.mono (by have := HB4.out.size; have := HKQ.out.size; have := HINV.out.size; omega)))))
        clear d1 d19 f1 f21
        cases t
        ·have HSES2 := kp (HSS.out.1 rfl)
         clear HSS
         have HOKP := kp (show OkP ((L.take k).map (·.1)) x.1 from ⟨HONE.out, HASKP.out, fun j hj h0 hse => by
          (have h1 := HD.out j hj h0
           rw [(seenB_iff _ _).2 hse] at h1
           cases h1), HSES2.out⟩)
         have HTK := kp (show L.take (k + 1) = L.take k ++ [x] by rw [List.take_add_one, HXK.out]; rfl)
         have HFIT2 := kp (show Fit singleB ((L.take (k + 1)).map (·.1)) by rw [HTK.out, List.map_append]; exact HFIT.out.snoc ((okP_iff HFIT.out x.1).2 HOKP.out))
         have HML6 := kp (HML.out.of_block (HB6.out.block _ HML.out.lt))
         have HMS6 := kp (HMS.out.of_block (HB6.out.block _ HMS.out.lt))
         have d0 := HX7.out.cell HL0.out
         go_upto_region 22 with (first
          | ((with_reducible refine wpList_load_agg (o := ⟨some 104, _, _, _, _, _⟩) rfl 52 _ rfl ⟨w5.heap.size, 0, none⟩ ?_ l _ HX7.out.cells Tryz.underlying52 rfl HZ.out ?_); (· rfl))
          | ((with_reducible refine wpList_map_update (o := ⟨none, _, _, _, _, _⟩) rfl 122 3 52 _ _ _ rfl w.heap.size ses (.agg l.toArray) ?_ ?_ ?_ _ HML6.out ?_ ?_ ?_); (· rfl); (· rfl); (· rfl); (· exact Tryz.underlying122); (· kernel_rfl); intro w8 hk8 hm8; have HK8 := kp hk8; have HM8 := kp (hm8 _ HML6.out); clear hk8 hm8))
         have HX8 := kp (HX7.out.of_block (HK8.out.block _ HX7.out.lt (by have := HINV.out.size; simp; omega)))
         have c20 := HX8.out.cell HL20.out
         have HLAST8 := kp (HM8.out.congr (g := lastV (L.take (k + 1))) fun k' => by rw [HTK.out, lastV_snoc, HSES.out, HLC.out])
         have HSEEN8 := kp (show MapAt w8 (w.heap.size + 1) (seenV (L.take (k + 1))) by rw [HTK.out]; exact HMS6.out.of_block (HK8.out.block _ HMS6.out.lt (by simp)))
         have HBLK := kp (show ∀ g, w.heap.size + 2 <= g -> g < w5.heap.size -> w8.heap[g]? = w5.heap[g]? from fun g h1 h2 => by
          have s4 := HB4.out.size
          have s5 := HKQ.out.size
          have s6 := HB6.out.size
          rw [HK8.out.block g (by omega) (by simp; omega), HB6.out.block g (by omega), HKQ.out.block g (by omega) (by simp; omega), HB4.out.block g h2])
         have HBEL8 := kp (HBQ.out.trans (HK8.out.below HBQ.out.size (fun b hb => by simp at hb; omega)))
         have HSZ8 := kp (show w.heap.size + 2 <= w8.heap.size by
          have s3 := HINV.out.size
          have s4 := HB4.out.size
          have s5 := HKQ.out.size
          have s6 := HB6.out.size
          have s7 := HK8.out.size
          omega)
         by_cases hd0 : 0 <= done
         ·have gd : decide (0 <= done) = true := decide_eq_true hd0
          have HD0 := kp hd0
          clear hd0
          have HO8 := kp (show w8.ownsRow (w.heap.size + 2) 52 23 (.slice A1 m1 c1) m1 (callsV (donesL (L.take k))) by have h := own_eq HOWN.out HBLK.out; rw [HM1.out] at h; exact h)
          have HX8C := kp HX8.out.cells
          have hcs : (Value.agg l.toArray).cells = l.toArray := rfl
          have hls : l.toArray.size = 23 := by simpa using HLEN.out
          have HCSZ := kp hcs
          have HLS := kp hls
          clear hcs hls
          go_wp2_with (first
           | ((with_reducible refine wpList_load_agg (o := ⟨some 109, _, _, _, _, _⟩) rfl 52 _ rfl ⟨w5.heap.size, 0, none⟩ ?_ l _ HX8C.out Tryz.underlying52 rfl HZ.out ?_); (· rfl))
           | ((with_reducible refine wpList_slice_one (o := ⟨some 110, _, _, _, _, _⟩) rfl 43 _ rfl 52 _ 23 296 (.agg l.toArray) l.toArray Tryz.underlying43 q_info52 ?_ ?_ ?_ HCSZ.out HLS.out ?_); (· decide); (· decide); (· rfl))
           | ((with_reducible refine wpList_append_g (o := ⟨some 111, _, _, _, _, _⟩) rfl _ _ 43 rfl (w.heap.size + 2) 52 _ 23 296 Tryz.underlying43 q_info52 ?_ ?_ (.slice A1 m1 c1) m1 (callsV (donesL (L.take k))) ?_ ?_ ⟨w8.heap.size, 0, none⟩ 1 1 l ?_ ?_ ?_ HO1.out ?_ ?_ ?_ ?_); (· rfl); (· decide); (· rfl); (· exact (Kept.of_below (L := []) (below1 w8 _)).own2 HO8.out (by simp)); (· rfl); (· exact HLEN.out); (· intro j u hj; rw [Addr.add_mid, Nat.zero_add]; exact (RowL.new w8 52 l).cell hj); (· unfold maxLen; omega); (· omega); (· have := HSZ8.out; simp; omega); intro v9 w9 ho9 hg9 hb9; have HO9 := kp ho9; have HG9 := kp hg9; clear ho9 hg9 hb9))
          have hkw : Kept (Value.slice A1 m1 c1).ownBlock.toList w8 w9 := ((Kept.refl _ w8).alloc _).trans (kept_of_grown HG9.out)
          have hge : ∀ b ∈ (Value.slice A1 m1 c1).ownBlock.toList, w.heap.size + 2 <= b := fun b hb => own_ge HO8.out hb
          refine ⟨⟨k + 1, by omega, by go_num, ⟨HLAST8.out.kept hkw (fun hm => by have := hge _ hm; omega), HSEEN8.out.kept hkw (fun hm => by have := hge _ hm; omega), ?_, HBEL8.out.trans (hkw.below HBEL8.out.size (fun b hb => by have := hge b hb; omega)), by have := HSZ8.out; have := hkw.size; omega⟩, HFIT2.out⟩, by simp [intOf]; omega⟩
          have hdn : donesL (L.take (k + 1)) = donesL (L.take k) ++ [x] := by rw [HTK.out, donesL_snoc, if_pos (by rw [HDON.out]; exact HD0.out)]
          have hcv : callsV (donesL (L.take k) ++ [x]) = callsV (donesL (L.take k)) ++ l := by rw [<- HLC.out]; simp [callsV]
          rw [hdn, hcv, List.length_append, HM1.out]
          exact HO9.out
         ·have gd : decide (0 <= done) = false := decide_eq_false hd0
          have HD0 := kp hd0
          clear hd0
          go_wp2_with fail
          refine ⟨⟨k + 1, by omega, by go_num, ⟨HLAST8.out, HSEEN8.out, ?_, HBEL8.out, HSZ8.out⟩, HFIT2.out⟩, by simp [intOf]; omega⟩
          rw [HTK.out, donesL_snoc, if_neg (by rw [HDON.out]; exact HD0.out)]
          exact own_eq HOWN.out HBLK.out
        ·have HNO := kp (show ¬ OkP ((L.take k).map (·.1)) x.1 from fun hok => by
          have h1 := HSS.out.2 hok.ses
          simp at h1)
         clear HSS
         go_wp2_with fail
         go_ret
         exact .no rfl HSPL.out HNO.out HBQ.out
    ·have HNO := kp (HP.out.1 rfl)
     clear HP
     go_wp2_with fail
     go_ret
     exact .no rfl HSPL.out HNO.out (HINV.out.below.trans (HB3.out.mono (by have := HINV.out.size; omega)))
  ·obtain rfl : k = n := by omega
   have hg2 : decide ((k : Int) < (k : Int)) = false := by simp
   have hL : L.take k = L := List.take_of_length_le (by rw [HN.out]; exact Nat.le_refl _)
   have hinv := HINV.out
   have hfit := HFIT.out
   have hm := HM1.out
   rw [hL] at hinv hfit hm
   have hown := hinv.own
   rw [hm] at hown
   have H61 := kp (sort_row (w.heap.size + 2) (donesL L) A1 m1 c1 w5 hm (by omega) (fun x hx => HONEC.out x ((List.mem_filter.1 (show x ∈ L.filter _ from hx)).1)) hown hinv.size)
   have HB5 := kp hinv.below
   have HS5 := kp hinv.size
   have HF5 := kp hfit
   have HM5 := kp hm
   clear hinv hfit hm hown hL
   go_wp2_with fail
   refine H61.out.mono ?_
   rintro e w6 ⟨rfl, L', hp, hs, hr, hb6⟩
   have hlp : L'.length = m1 := by rw [hp.length_eq]; exact HM5.out
   have H64 := kp (sorted64 A1 m1 c1 L' w6 hlp (by omega) hr)
   have HEND := kp (valid_end (by rw [HN.out]; exact hn4) HF5.out hp (hs.imp fun {a b} h => by omega))
   have HB6 := kp hb6
   clear hp hs hr hb6 hlp
   go_wp2_with fail
   refine H64.out.mono ?_
   rintro e w7 ⟨rfl, hb7⟩
   have HB7 := kp hb7
   clear hb7
   go_wp2_with fail
   go_ret
   have h6 := HB6.out.size
   exact ⟨_, rfl, HEND.out, HB5.out.trans ((HB6.out.mono (by omega)).trans (HB7.out.mono (by have := HB5.out.size; omega)))⟩
end Go.Proofs.YtnjhpgmbfblgaaaGreat.Ord
