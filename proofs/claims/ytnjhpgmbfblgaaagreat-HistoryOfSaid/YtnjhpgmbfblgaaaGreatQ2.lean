/- Walk of the law HistoryOf. -/
import Derived.Test.YtnjhpgmbfblgaaaGreatQ0
import Derived.Test.YtnjhpgmbfblgaaaGreatO5
import Derived.Test.YtnjhpgmbfblgaaaGreatO4
namespace Go.Proofs.YtnjhpgmbfblgaaaGreat.Ord
set_option maxRecDepth 100000
set_option maxHeartbeats 16000000
open Go.RowKit
set_option linter.unusedVariables false
set_option linter.unusedSimpArgs false
/-- steps that lie in a row, with what they point to -/
def RowD (w : World) (B : Nat) (A : Option Addr) (L : List (DidR × DidV)) : Prop := ∀ i x, L[i]? = some x -> ∃ b off, A = some ⟨b, off, none⟩ /\ b < B /\ CellsAt w ⟨b, off + i * 25, none⟩ (didC x.1 x.2) /\ DidOk w B x.1 x.2
theorem RowD.up {w w' : World} {A : Option Addr} {L : List (DidR × DidV)} (h : RowD w w.heap.size A L) (hb : Below w.heap.size w w') : RowD w' w'.heap.size A L := fun i x hi => by
 obtain ⟨b, off, h1, h2, h3, h4⟩ := h i x hi
 exact ⟨b, off, h1, Nat.lt_of_lt_of_le h2 hb.size, h3.below hb h2, (h4.below hb (Nat.le_refl _)).mono hb.size⟩
theorem RowD.dids {w : World} {B : Nat} {A : Option Addr} {L : List (DidR × DidV)} (h : RowD w B A L) : DidsAt w B A (L.map (·.1)) := fun i d hi => by
 rw [List.getElem?_map] at hi
 obtain ⟨x, hx, rfl⟩ := Option.map_eq_some_iff.1 hi
 obtain ⟨b, off, h1, h2, h3, h4⟩ := h i x hx
 exact ⟨b, off, x.2, h1, h2, h3, h4⟩
theorem callsEq_self (cs : List CallR) : callsEq cs cs = true := decide_eq_true ⟨rfl, fun i h h' => callEq_self _⟩
theorem CalsAt.up {w w' : World} {A : Option Addr} {cs : List CallR} (h : CalsAt w w.heap.size A cs) (hb : Below w.heap.size w w') : CalsAt w' w'.heap.size A cs := (h.below hb (Nat.le_refl _)).mono hb.size

theorem ofRes_len (ds : List DidR) : (ofRes ds).1.length <= maxLen := by
 unfold ofRes
 split
 ·simp
 ·rename_i h
  split
  ·simp
  ·rename_i s hs
   have := (runOf_ok StOk.init hs).len
   simp only [Nat.zero_add] at this
   unfold maxLen
   simp only
   omega

theorem law3_plain (L : List (DidR × DidV)) (A : Option Addr) (n c : Nat) (many : Int) (w : World) (hn : L.length = n) (hl : n <= maxLen) (hA : RowD w w.heap.size A L) (hs : ∀ x ∈ L, CmdSz x.1.cmd /\ RespSz x.1.resp) (hm : ¬ (4095 <= many /\ many <= 4097)) :
  Calls Tryz.prog 3 #[.slice A n c, .int .i64 many] w (LawP w) := by
 have hn' : n <= 9223372036854775807 := by unfold maxLen at hl; omega
 have hgm : decide (4095 <= many) = false ∨ (decide (4095 <= many) = true /\ decide (many <= 4097) = false) := by
  by_cases h : 4095 <= many
  ·exact .inr ⟨decide_eq_true h, decide_eq_false (fun h2 => hm ⟨h, h2⟩)⟩
  ·exact .inl (decide_eq_false h)
 by_cases hlong : 100 < n
 ·have hg : decide (100 < (n : Int)) = true := by simp; omega
  clear hA hs hm
  rcases hgm with g1 | ⟨g1, g2⟩
  all_goals
   go_enter Tryz.func3, Tryz.ntmps3
   go_wp2_with fail
   refine (known15 w).mono ?_
   rintro e w2 ⟨rfl, hb2⟩
   have HB2 := kp hb2
   clear hb2
   go_wp2_with fail
   go_ret
   exact ⟨rfl, HB2.out⟩
 have hg : decide (100 < (n : Int)) = false := by simp; omega
 have HN := kp hn
 have HS := kp hs
 have HSM := kp (show 100 < n -> ∀ x ∈ L, Small x.1.cmd x.1.resp from fun h => absurd h hlong)
 obtain ⟨w1, rfl⟩ : ∃ W, W = w := ⟨_, rfl⟩
 have HA := kp hA
 have HB1 := kp (Below.refl w1.heap.size w1)
 clear hA hs hn hm hlong
 go_enter Tryz.func3, Tryz.ntmps3
 obtain ⟨gg, hgg⟩ : ∃ g, (decide (4095 <= many) && decide (many <= 4097)) = g := ⟨_, rfl⟩
 go_upto_region 1 with (fail)
 go_cut [15] (fun s15 W' => s15 = .bool false /\ W' = w1)
 case first =>
  rcases hgm with g1 | ⟨g1, g2⟩
  all_goals
   go_wp2_with fail
   go_meet
   case rel => exact ⟨rfl, rfl⟩
 case rest =>
 obtain ⟨rfl, hwc⟩ := hcut
 subst hwc
 obtain ⟨w1, rfl⟩ : ∃ W, W = wc := ⟨_, rfl⟩
 clear hgg hgm gg
 go_wp2_with fail
 go_loopw [5] (fun s5 wr => ∃ k : Nat, k <= n /\ k <= 100 /\ s5 = .int .i64 k /\ Below w1.heap.size w1 wr /\ Hid (∀ i x, L[i]? = some x -> i < k -> Light x.1.cmd x.1.resp)) (fun j _ => n - (intOf j).toNat)
 case atStart => exact ⟨0, Nat.zero_le _, by omega, by go_num, Below.refl _ _, kp fun i x _ h => absurd h (by omega)⟩
 case round =>
  obtain ⟨k, hk, hk100, rfl, hb, HALL⟩ := hrel
  have HB := kp hb
  clear hb
  by_cases hlt : k < n /\ k < 100
  ·have hg2 : decide ((k : Int) < (n : Int)) = true := decide_eq_true (by omega)
   have hg3 : decide ((k : Int) < 100) = true := decide_eq_true (by omega)
   have hi1 : (k : Int) < (n : Int) := by omega
   have hk1 : k < L.length := by rw [HN.out]; exact hlt.1
   obtain ⟨x, hx⟩ : ∃ x, L[k] = x := ⟨_, rfl⟩
   have hxk := List.getElem?_eq_getElem hk1
   rw [hx] at hxk
   have hxs := HS.out x (List.mem_of_getElem? hxk)
   obtain ⟨b, off, rfl, hbB, hck, hok⟩ := (HA.out.up HB.out) k x hxk
   have HXK := kp hxk
   have hokd := hok.below (below_drewn (Below.refl _ _)) (Nat.le_refl _)
   have H16 := kp (heavy7 x.1.cmd x.1.resp x.2.vk x.2.vv x.2.vt x.2.vi x.2.vn wr.drew hokd.2.2.1 hokd.2.2.2 hxs.1 hxs.2)
   have k1 := did_cmd hck
   have k2 := did_resp hck
   have s1 : (Tryz.prog.info? 36).map (·.size) = some (cmdC x.1.cmd x.2.vk x.2.vv x.2.vt).length := cmd_sizeL _ _ _ _ _ _ _ _ _ _
   have s2 : (Tryz.prog.info? 40).map (·.size) = some (respC x.1.resp x.2.vi x.2.vn).length := resp_sizeL _ _ _ _ _ _
   clear hx hxk hxs hck hok hokd
   generalize cmdC x.1.cmd x.2.vk x.2.vv x.2.vt = l1 at *
   generalize respC x.1.resp x.2.vi x.2.vn = l2 at *
   have K1 := kp (show CellsAt wr.drew ⟨b, off + k * 25 + 8, none⟩ l1 from k1)
   have K2 := kp (show CellsAt wr.drew ⟨b, off + k * 25 + 18, none⟩ l2 from k2)
   have S1 := kp s1
   have S2 := kp s2
   have HBL := kp (show (⟨b, off + k * 25, none⟩ : Addr).block < wr.drew.heap.size from hbB)
   clear k1 k2 s1 s2
   go_upto_region 8 with (fail)
   refine wp_region_held_drew (S := fun W => CellsAt W ⟨b, off + k * 25 + 8, none⟩ l1 /\ CellsAt W ⟨b, off + k * 25 + 18, none⟩ l2) (by kernel_rfl) ⟨K1.out, K2.out⟩ (fun hS => ?_)
   have HS := kp hS
   clear hS
   refine takeQ (i := 0) (oi := ⟨some 32, .move (.tmp 0), 22, "law.go:91", #[], none⟩) (v := ?_) rfl (Or.inl ⟨by rfl, ?_⟩) HS.out ?_
   rotate_left 1
   ·intro w hw; go_simp; try with_reducible rfl
   simp only [Act.put, z1, z2, z3]
   refine takeQ (i := 1) (oi := ⟨some 33, .move (.tmp 5), 3, "law.go:91", #[], none⟩) (v := ?_) rfl (Or.inl ⟨by rfl, ?_⟩) HS.out ?_
   rotate_left 1
   ·intro w hw; go_simp; try with_reducible rfl
   simp only [Act.put, z1, z2, z3]
   refine takeQ (i := 2) (oi := ⟨some 34, .indexAddr 22 (.tmp 32) (.tmp 33), 0, "law.go:91", #[⟨0, .data⟩, ⟨1, .data⟩], none⟩) (v := ?_) rfl (Or.inl ⟨by rfl, ?_⟩) HS.out ?_
   rotate_left 1
   ·intro w hw; go_simp; try with_reducible rfl
   simp only [Act.put, z1, z2, z3]
   refine takeQ (i := 3) (oi := ⟨some 35, .fieldAddr 42 (.tmp 34) 5, 0, "law.go:91", #[⟨2, .data⟩], none⟩) (v := ?_) rfl (Or.inl ⟨by rfl, ?_⟩) HS.out ?_
   rotate_left 1
   ·intro w hw; go_simp; try with_reducible rfl
   simp only [Act.put, z1, z2, z3]
   refine takeQ (i := 4) (oi := ⟨some 36, .load 36 (.tmp 35), 36, "law.go:91", #[⟨3, .data⟩], none⟩) (v := .agg l1.toArray) rfl (yields_aggL rfl 36 _ rfl ⟨b, off + k * 25 + 8, none⟩ rfl l1 _ (fun W hW => hW.1) Tryz.underlying36 S1.out) HS.out ?_
   simp only [Act.put, z1, z2, z3]
   refine takeQ (i := 5) (oi := ⟨some 37, .move (.tmp 0), 22, "law.go:91", #[], none⟩) (v := ?_) rfl (Or.inl ⟨by rfl, ?_⟩) HS.out ?_
   rotate_left 1
   ·intro w hw; go_simp; try with_reducible rfl
   simp only [Act.put, z1, z2, z3]
   refine takeQ (i := 6) (oi := ⟨some 38, .move (.tmp 5), 3, "law.go:91", #[], none⟩) (v := ?_) rfl (Or.inl ⟨by rfl, ?_⟩) HS.out ?_
   rotate_left 1
   ·intro w hw; go_simp; try with_reducible rfl
   simp only [Act.put, z1, z2, z3]
   refine takeQ (i := 7) (oi := ⟨some 39, .indexAddr 22 (.tmp 37) (.tmp 38), 0, "law.go:91", #[⟨5, .data⟩, ⟨6, .data⟩], none⟩) (v := ?_) rfl (Or.inl ⟨by rfl, ?_⟩) HS.out ?_
   rotate_left 1
   ·intro w hw; go_simp; try with_reducible rfl
   simp only [Act.put, z1, z2, z3]
   refine takeQ (i := 8) (oi := ⟨some 40, .fieldAddr 42 (.tmp 39) 6, 0, "law.go:91", #[⟨7, .data⟩], none⟩) (v := ?_) rfl (Or.inl ⟨by rfl, ?_⟩) HS.out ?_
   rotate_left 1
   ·intro w hw; go_simp; try with_reducible rfl
   simp only [Act.put, z1, z2, z3]
   refine takeQ (i := 9) (oi := ⟨some 41, .load 40 (.tmp 40), 40, "law.go:91", #[⟨8, .data⟩], none⟩) (v := .agg l2.toArray) rfl (yields_aggL rfl 40 _ rfl ⟨b, off + k * 25 + 18, none⟩ rfl l2 _ (fun W hW => hW.2) Tryz.underlying40 S2.out) HS.out ?_
   simp only [Act.put, z1, z2, z3]
   refine wpAnyH_ready (rs := [10]) (by kernel_rfl) (by simp) ?_
   refine AllReadyH.cons (o := ⟨some 42, .call ⟨.value (.func 16), #[.tmp 36, .tmp 41], #[36, 40]⟩, 4, "law.go:91", #[⟨4, .data⟩, ⟨9, .data⟩], none⟩) rfl (fun K hK => ?_) (AllReadyH.nil)
   with_reducible refine step_call_any rfl 16 _ _ rfl #[.agg l1.toArray, .agg l2.toArray] ?_ Tryz.f16 Tryz.func16 f16_name f16_body (fun u w6 => ∃ t, u = .bool t /\ (t = false -> Light x.1.cmd x.1.resp) /\ Below wr.drew.heap.size wr.drew w6) ?_ ?_
   ·simp only [y1, y2, y3]; rfl
   ·exact H16.out.mono fun e w' ⟨t, h1, h2, h3⟩ => ⟨_, h1, t, rfl, h2, h3⟩
   rintro u w6 ⟨t, rfl, hlt, hb6⟩
   have HLT := kp hlt
   have HB6 := kp hb6
   clear hlt hb6
   have hS := And.intro (K1.out.below HB6.out HBL.out) (K2.out.below HB6.out HBL.out)
   refine hK.out _ _ hS (fun _ => ?_)
   clear hK K HS
   have HS := kp hS
   clear hS
   try simp only [Act.put, z1, z2, z3]
   refine wpAnyH_done (by kernel_rfl) ?_ _
   skip
   have HB6' := kp (HB.out.trans ((below_drewn (Below.refl _ _)).trans HB6.out |>.mono HB.out.size))
   cases t
   ·go_wp2_with fail
    go_roundw
    case rel => exact ⟨k + 1, by omega, by omega, by go_num, HB6'.out, kp fun i y hi hik => by (by_cases e : i = k; (subst e; rw [HXK.out] at hi; cases hi; exact HLT.out rfl); exact HALL.out i y hi (by omega))⟩
    case measure => simp [intOf]; omega
   ·go_wp2_with fail
    refine (known15 w6).mono ?_
    rintro e w7 ⟨rfl, hb7⟩
    have HB7 := kp (HB1.out.trans ((HB6'.out.trans (hb7.mono HB6'.out.size)).mono HB1.out.size))
    clear hb7
    go_wp2_with fail
    go_ret
    exact ⟨rfl, HB7.out⟩
  ·have hsm : ∀ x ∈ L, Small x.1.cmd x.1.resp := fun x hx => by
    by_cases h100 : 100 < n
    ·exact HSM.out h100 x hx
    ·obtain ⟨i, hi⟩ := List.mem_iff_getElem?.1 hx
     have := (List.getElem?_eq_some_iff.1 hi).1
     rw [HN.out] at this
     exact (HALL.out i x hi (by omega)).small
   have hg23 : (decide ((k : Int) < (n : Int)) = true /\ (k : Int) = 100) ∨ decide ((k : Int) < (n : Int)) = false := by
    by_cases h : k < n
    ·exact .inl ⟨decide_eq_true (by omega), by omega⟩
    ·exact .inr (decide_eq_false (by omega))
   have HSML := kp hsm
   have HWR := kp (HA.out.up HB.out)
   clear hsm hlt
   obtain ⟨w2, rfl⟩ : ∃ W, W = wr := ⟨_, rfl⟩
   have hll : (L.map (·.1)).length = n := by rw [List.length_map]; exact HN.out
   have H17 := kp (of8 (L.map (·.1)) A n c w2 hll hl HWR.out.dids (fun d hd => by obtain ⟨x, hx, rfl⟩ := List.mem_map.1 hd; exact HSML.out x hx))
   have H18 := kp (fun W (hW : Below w2.heap.size w2 W) => of18 (L.map (·.1)) A n c W hll hl (HWR.out.up hW).dids)
   clear hll
   generalize L.map (·.1) = ds at *
   clear hk hk100 HALL
   generalize (k : Int) = kk at *
   rcases hg23 with ⟨hg2, rfl⟩ | hg2
   all_goals
    go_wp2_with fail
    refine H17.out.mono ?_
    rintro e w3 ⟨A3, c3, rfl, hc3, hb3⟩
    have HC3 := kp hc3
    have HB3 := kp hb3
    clear hc3 hb3
    go_wp2_with fail
    refine (H18.out w3 HB3.out).mono ?_
    rintro e w4 ⟨A4, c4, rfl, hc4, hb4⟩
    have HC4 := kp hc4
    have HB4 := kp hb4
    clear hc4 hb4
    have hlen : (ofRes ds).1.length <= maxLen := ofRes_len ds
    have H19 := kp (same10 A3 A4 _ _ c3 c4 (ofRes ds).1 (ofRes ds).1 w4 rfl rfl hlen hlen (HC3.out.up HB4.out) HC4.out)
    rw [callsEq_self] at H19
    have K15 := kp (fun W => known15 W)
    clear hlen
    generalize (ofRes ds).1.length = m at *
    generalize (ofRes ds).2 = z at *
    go_wp2_with fail
    refine H19.out.mono ?_
    rintro e w5 ⟨rfl, hb5⟩
    have HB5 := kp hb5
    clear hb5
    go_wp2_with fail
    refine (K15.out w5).mono ?_
    rintro e w7 ⟨rfl, hb7⟩
    have HB7 := kp hb7
    clear hb7
    go_wp2_with fail
    go_ret
    have b3 := HB3.out.size
    have b4 := HB4.out.size
    have b5 := HB5.out.size
    exact ⟨rfl, HB1.out.trans ((HB.out.trans ((HB3.out.trans ((HB4.out.trans ((HB5.out.trans (HB7.out.mono b5)).mono b4)).mono b3)).mono HB.out.size)).mono HB1.out.size)⟩
end Go.Proofs.YtnjhpgmbfblgaaaGreat.Ord
