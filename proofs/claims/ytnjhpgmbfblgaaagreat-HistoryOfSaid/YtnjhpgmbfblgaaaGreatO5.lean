/- Walk of the reference's Of. -/
import Derived.Test.YtnjhpgmbfblgaaaGreatMP0
namespace Go.Proofs.YtnjhpgmbfblgaaaGreat.Ord
set_option maxRecDepth 100000
set_option maxHeartbeats 16000000
open Go.RowKit
set_option linter.unusedVariables false
set_option linter.unusedSimpArgs false
abbrev callN (ses num : Int) (k : Int) : List Value := callL ses num false 0 ⟨#[]⟩ (.slice none 0 0) (.slice none 0 0) (.slice none 0 0) 0 0 ⟨#[]⟩ ⟨#[]⟩ ⟨#[]⟩ 0 0 (.slice none 0 0) 0 0 (.slice none 0 0) k (-1) (-1) 0
/-- an operation of a drawn region, taken first: what the kernel pays stands last -/
theorem takeQ {P : Program} {ops : Array Oper} {md : Region.Mode} {S : World -> Prop} {Q : Exit -> Act -> World -> Prop} {i : Nat} {oi : Oper} {v : Value} {fuel : Nat} {listed : Array Bool} {a : Act} {w : World} (hi : ops[i]? = some oi) (hy : YieldsIf P ops S oi v a) (hS : S w)
  (h : wpAnyH P md ops Q S fuel (listed.setIfInBounds i true) (a.put oi.dst v) w) (hQ : ∀ c a w, Q (.panic c) (a.put oi.dst v) w -> Q (.panic c) a w := by exact fun _ _ _ h => h)
  (hs : Region.noSelect ops = true := by kernel_rfl) (hf : Region.free md ops listed i = true := by kernel_rfl) (hr : (Region.ready md ops listed).contains i = true := by kernel_rfl) : wpAnyH P md ops Q S (fuel + 1) listed a w :=
 wpAnyH_take hi hs hf hr hQ hy hS h
theorem of18 (ds : List DidR) (A : Option Addr) (n c : Nat) (w : World) (hn : ds.length = n) (hl : n <= maxLen) (hA : DidsAt w w.heap.size A ds) :
  Calls Tryz.prog 18 #[.slice A n c] w (OfPost w ds) := by
 have hn' : n <= 9223372036854775807 := by unfold maxLen at hl; omega
 by_cases hlong : 4096 < n
 ·have hg : decide (4096 < (n : Int)) = true := by simp; omega
  clear hA
  go_enter Tryz.func18, Tryz.ntmps18
  go_wp2_with fail
  go_ret2
  exact .err (ofRes_long (by omega)) rfl (Below.refl _ _)
 have hg : decide (4096 < (n : Int)) = false := by simp; omega
 have HA := kp hA
 have HN := kp hn
 have HI0 := kp (refI_init w)
 have HB0 := kp (below1 w (.map #[] 0))
 have hnl : ¬ 4096 < ds.length := by omega
 have hn4 : n <= 4096 := by omega
 have HNL := kp hnl
 have hmk : ∀ w, (Instr.makeMap 115 none).run Tryz.prog w = .ok (.map (some w.heap.size)) (w.alloc (.map #[] 0)) := fun _ => rfl
 have hfd := conn_field
 clear hA hn hnl hlong
 go_enter Tryz.func18, Tryz.ntmps18
 go_upto_region 5 with (fail)
 obtain ⟨W0, hW0⟩ : ∃ W0, w.alloc (.map #[] 0) = W0 := ⟨_, rfl⟩
 rw [hW0] at HI0 HB0 ⊢
 clear hW0
 go_wp2_with fail
 go_loopw [4, 6, 7] (fun s4 s6 s7 wr => ∃ (k : Nat) (s : St) (L : List (CallR × CallV)), s7 = .int .i64 k /\ k <= n /\ runOf (ds.take k) 0 st0 = some s /\ RefI wr w.heap.size w.heap.size s4 L s /\ s6 = .int .i64 s.nses /\ Below w.heap.size w wr) (fun _ _ j _ => n - (intOf j).toNat)
 case atStart => exact ⟨0, st0, [], by go_num, Nat.zero_le _, rfl, HI0.out, rfl, HB0.out⟩
 case round =>
  obtain ⟨k, s, L, rfl, hk, hrun, hI, rfl, hb⟩ := hrel
  obtain ⟨w5, rfl⟩ : ∃ W, W = wr := ⟨_, rfl⟩
  obtain ⟨A1, c1, rfl⟩ := own_slice hI.own
  have hst : StOk k s := by
   have := runOf_ok StOk.init hrun
   rwa [List.length_take, Nat.min_eq_left (by have := HN.out; omega), Nat.zero_add] at this
  obtain ⟨m, hm⟩ : ∃ m, L.length = m := ⟨_, rfl⟩
  have hmk2 : m <= k := by rw [<- hm, hI.len]; exact hst.len
  have hml : s.calls.length = m := by rw [<- hI.len, hm]
  have HM := kp hm
  have HML := kp hml
  have HI := kp hI
  have HB := kp hb
  have HRUN := kp hrun
  have HST := kp hst
  have hns := hst.nses
  have hwl : w.heap.size < w5.heap.size := hI.lt_map
  rw [hm]
  rw [hm] at HI
  clear hm hml hI hb hrun hst
  by_cases hlt : k < n
  ·have hg2 : decide ((k : Int) < (n : Int)) = true := by simp; omega
   have hik : (k : Int) < (n : Int) := by omega
   have hk1 : k < ds.length := by rw [HN.out]; exact hlt
   obtain ⟨d, hd⟩ : ∃ d, ds[k] = d := ⟨_, rfl⟩
   have hdk := List.getElem?_eq_getElem hk1
   rw [hd] at hdk
   obtain ⟨b, off, p, rfl, hbB, hck, hok⟩ := (HA.out.below HB.out (Nat.le_refl _)) k d hdk
   have HRT := kp (runOf_take HRUN.out hdk)
   have HOK := kp hok
   have HZ := kp (did_sizeL d p)
   have HZA := kp (did_sizeA d p)
   have H1 := kp (did_one d p _ _ hok)
   have hlc : (cmdC d.cmd p.vk p.vv p.vt).length = 10 := rfl
   have hlr : (respC d.resp p.vi p.vn).length = 6 := rfl
   have hl0 : (didC d p)[0]? = some (.int .i64 d.step.k) := rfl
   have hl1 : (didC d p)[1]? = some (.int .i64 d.step.c) := rfl
   have hl4 : (didC d p)[4]? = some (.int .i64 d.err) := rfl
   have hl5 : (didC d p)[5]? = some (.int .i64 d.n) := rfl
   have hl7 : (didC d p)[7]? = some (.int .i64 d.micro) := rfl
   have hl24 : (didC d p)[24]? = some (.int .u64 d.when) := rfl
   have hlen : (didC d p).length = 25 := rfl
   have hdc : ∀ (W : World) (b0 : Nat), RowL W b0 42 (didC d p) -> CellsAt W ⟨b0, 8, none⟩ (cmdC d.cmd p.vk p.vv p.vt) := fun W b0 h => by simpa using did_cmd h.cells
   have hdr : ∀ (W : World) (b0 : Nat), RowL W b0 42 (didC d p) -> CellsAt W ⟨b0, 18, none⟩ (respC d.resp p.vi p.vn) := fun W b0 h => by simpa using did_resp h.cells
   have hnd : ∀ (ses num : Int) (at_ : Option Nat), d.micro = 1 -> putL (callN ses num k) 3 (cmdC d.cmd p.vk p.vv p.vt) = callC (newCall ⟨ses, num, at_⟩ k d) (newV d p) := fun ses num at_ h => by rw [newCall_dec h, newV_dec h]; rfl
   have hnb : ∀ (ses num : Int) (at_ : Option Nat), d.micro = 2 -> putL ((callN ses num k).set 2 (.bool true)) 13 (respC d.resp p.vi p.vn) = callC (newCall ⟨ses, num, at_⟩ k d) (newV d p) := fun ses num at_ h => by rw [newCall_bad h, newV_bad h]; rfl
   have hdn : ∀ (y : CallR) (q : CallV), ((putL (callC y q) 13 (respC d.resp p.vi p.vn)).set 20 (.int .i64 k)).set 22 (.int .u64 d.when) = callC (doneCall y k d) ⟨q.vk, q.vv, q.vt, p.vi, p.vn⟩ := fun y q => rfl
   have hsc : (Tryz.prog.info? 36).map (·.size) = some (cmdC d.cmd p.vk p.vv p.vt).length := cmd_sizeL _ _ _ _ _ _ _ _ _ _
   have hsr : (Tryz.prog.info? 40).map (·.size) = some (respC d.resp p.vi p.vn).length := resp_sizeL _ _ _ _ _ _
   have hoc := cmd_oneA hok.2.2.1
   have hor := resp_oneA hok.2.2.2
   clear hd hdk hok
   generalize cmdC d.cmd p.vk p.vv p.vt = lc at *
   generalize respC d.resp p.vi p.vn = lr at *
   generalize didC d p = l at *
   have Hk := kp hck
   have HLC := kp hlc
   have HLR := kp hlr
   have HL0 := kp hl0
   have HL1 := kp hl1
   have HL4 := kp hl4
   have HL5 := kp hl5
   have HL7 := kp hl7
   have HL24 := kp hl24
   have HLEN := kp hlen
   have HDC := kp hdc
   have HDR := kp hdr
   have HND := kp hnd
   have HNB := kp hnb
   have HDN := kp hdn
   have HSC := kp hsc
   have HSCA := kp (show (Tryz.prog.info? 36).map (·.size) = some lc.toArray.size by rw [hsc]; simp)
   have HSR := kp hsr
   have HSRA := kp (show (Tryz.prog.info? 40).map (·.size) = some lr.toArray.size by rw [hsr]; simp)
   have HOC := kp hoc
   have HOR := kp hor
   clear hck hlc hlr hl0 hl1 hl4 hl5 hl7 hl24 hlen hdc hdr hnd hnb hdn hsc hsr hoc hor hbB
   go_upto_region 10 with (first
    | ((with_reducible refine wpList_load_agg (o := ⟨some 24, _, _, _, _, _⟩) rfl 42 _ rfl ⟨b, off + k * 25, none⟩ ?_ l _ Hk.out Tryz.underlying42 rfl HZ.out ?_); (· rfl))
    | ((with_reducible refine wpList_store_at2 (op := ⟨none, _, _, _, _, _⟩) rfl 42 _ _ rfl w5.heap.size 0 l.toArray ?_ ?_ ?_ HZA.out H1.out ?_); (· rfl); (· rfl); (· exact there_zero _ _ _ _ HLEN.out); intro w7 hw7; have hx7 : RowL w7 w5.heap.size 42 l /\ Below w5.heap.size w5 w7 := (by rw [hw7]; exact stored_zero w5 42 l _ HLEN.out); clear hw7; have HX7 := kp hx7.1; have HB7 := kp hx7.2; clear hx7))
   have HI7 := kp (HI.out.below HB7.out)
   have HBW7 := kp (HB.out.trans (HB7.out.mono (Nat.le_of_lt hwl)))
   have c4 := HX7.out.cell HL4.out
   by_cases he : d.err = 0
   case neg =>
    have hge : (d.err != 0) = true := by simp [he]
    have HE := kp he
    clear he
    go_wp2_with fail
    go_roundw
    case rel => exact ⟨k + 1, s, L, by go_num, by omega, HRT.out.trans (stepIf_ne0 HE.out), HI7.out, rfl, HBW7.out⟩
    case measure => simp [intOf]; omega
   have hge : (d.err != 0) = false := by simp [he]
   have HNO := kp (fun h : readOf k d s = none => ofRes_no HNL.out (runOf_none (k := k + 1) (HRT.out.trans ((stepIf_eq0 he).trans h))))
   have HYES := kp (fun (s' : St) (h : readOf k d s = some s') => (HRT.out.trans ((stepIf_eq0 he).trans h) : runOf (ds.take (k + 1)) 0 st0 = some s'))
   clear he
   have c0 := HX7.out.cell HL0.out
   have hwl7 : w.heap.size < w7.heap.size := Nat.lt_of_lt_of_le hwl HB7.out.size
   by_cases k1 : d.step.k = 1
   case pos =>
    have K1 := kp k1
    rw [k1] at c0
    clear k1
    have c5 := HX7.out.cell HL5.out
    cases hc : s.conns d.n with
    | some cc =>
     have hlk := HI7.out.lk d.n (u := .agg #[.bool true, .int .i64 cc.ses, .int .i64 cc.num, .int .i64 (atI cc.at_)]) (by rw [hc]; rfl)
     have HC := kp hc
     clear hc
     go_wp2_with fail
     go_ret2
     exact .err (HNO.out (by unfold readOf; rw [if_pos K1.out, HC.out])) rfl HBW7.out
    | none =>
     have hlk := HI7.out.lk d.n (u := .agg #[.bool false, .int .i64 0, .int .i64 0, .int .i64 0]) (by rw [hc]; rfl)
     have HC := kp hc
     obtain ⟨gm, hgm, hgv⟩ := HI7.out.map
     have HGM := kp hgm
     clear hc hgm hgv
     go_wp2_with ((with_reducible refine wpList_map_update (o := ⟨none, _, _, _, _, _⟩) rfl 115 3 117 _ _ _ rfl w.heap.size d.n (.agg #[.bool true, .int .i64 s.nses, .int .i64 0, .int .i64 (-1)]) ?_ ?_ ?_ _ HGM.out ?_ ?_ ?_); (· rfl); (· rfl); (· rfl); (· exact Tryz.underlying115); (· kernel_rfl); intro w8 hk8 hm8; have HK8 := kp hk8; have HM8 := kp hm8; clear hk8 hm8)
     have HI8 := kp (HI7.out.put (g := fun _ => none) (k := d.n) (c := some ⟨s.nses, 0, none⟩) rfl HK8.out HM8.out)
     have HB8 := kp (HBW7.out.trans (HK8.out.below (Nat.le_of_lt hwl7) (fun b hb => by simp at hb; omega)))
     clear hlk c5 c0 c4
     go_roundw
     case rel => exact ⟨k + 1, _, L, by go_num, by omega, HYES.out _ (by unfold readOf; rw [if_pos K1.out, HC.out]), HI8.out.nses (s.nses + 1), by go_num, HB8.out⟩
     case measure => simp [intOf]; omega
   have K1 := kp k1
   have g1 : (d.step.k == 1) = false := by simpa using k1
   clear k1
   by_cases k7 : d.step.k = 7
   case pos =>
    have K7 := kp k7
    rw [k7] at c0 g1
    clear k7
    have d1 := HX7.out.cell HL1.out
    cases hc : s.conns d.step.c with
    | none =>
     have hlk := HI7.out.lk d.step.c (u := .agg #[.bool false, .int .i64 0, .int .i64 0, .int .i64 0]) (by rw [hc]; rfl)
     have HC := kp hc
     clear hc
     go_wp2_with fail
     go_ret2
     exact .err (HNO.out (by unfold readOf; rw [if_neg K1.out, if_pos K7.out, HC.out])) rfl HBW7.out
    | some cc =>
     have hlk := HI7.out.lk d.step.c (u := .agg #[.bool true, .int .i64 cc.ses, .int .i64 cc.num, .int .i64 (atI cc.at_)]) (by rw [hc]; rfl)
     have HC := kp hc
     obtain ⟨gm, hgm, hgv⟩ := HI7.out.map
     have HGM := kp hgm
     clear hc hgm hgv
     go_wp2_with ((with_reducible refine wpList_map_update (o := ⟨none, _, _, _, _, _⟩) rfl 115 3 117 _ _ _ rfl w.heap.size d.step.c (.agg #[.bool false, .int .i64 0, .int .i64 0, .int .i64 0]) ?_ ?_ ?_ _ HGM.out ?_ ?_ ?_); (· rfl); (· rfl); (· rfl); (· exact Tryz.underlying115); (· kernel_rfl); intro w8 hk8 hm8; have HK8 := kp hk8; have HM8 := kp hm8; clear hk8 hm8)
     have HI8 := kp (HI7.out.put (g := fun _ => none) (k := d.step.c) (c := none) rfl HK8.out HM8.out)
     have HB8 := kp (HBW7.out.trans (HK8.out.below (Nat.le_of_lt hwl7) (fun b hb => by simp at hb; omega)))
     clear hlk d1 c0 c4
     go_roundw
     case rel => exact ⟨k + 1, _, L, by go_num, by omega, HYES.out _ (by unfold readOf; rw [if_neg K1.out, if_pos K7.out, HC.out]), HI8.out, rfl, HB8.out⟩
     case measure => simp [intOf]; omega
   have K7 := kp k7
   have g7 : (d.step.k == 7) = false := by simpa using k7
   clear k7
   by_cases k3 : d.step.k = 3
   case neg =>
    have g3 : (d.step.k == 3) = false := by simpa using k3
    have K3 := kp k3
    clear k3
    go_wp2_with fail
    go_roundw
    case rel => exact ⟨k + 1, s, L, by go_num, by omega, HYES.out _ (by unfold readOf; rw [if_neg K1.out, if_neg K7.out, if_neg K3.out]), HI7.out, rfl, HBW7.out⟩
    case measure => simp [intOf]; omega
   have HRD := kp (show readOf k d s = microOf k d s by unfold readOf; rw [if_neg K1.out, if_neg K7.out, if_pos k3])
   rw [k3] at c0 g1 g7
   clear k3
   have d1 := HX7.out.cell HL1.out
   cases hc : s.conns d.step.c with
   | none =>
    have hlk := HI7.out.lk d.step.c (u := .agg #[.bool false, .int .i64 0, .int .i64 0, .int .i64 0]) (by rw [hc]; rfl)
    have HC := kp hc
    clear hc
    go_wp2_with ((with_reducible refine wpList_store_at2 (op := ⟨none, _, _, _, _, _⟩) rfl 117 _ _ rfl w7.heap.size 0 #[.bool false, .int .i64 0, .int .i64 0, .int .i64 0] ?_ ?_ ?_ (conn_sizeA _ _ _ _) (conn_one _ _ _ _) ?_); (· rfl); (· rfl); (· exact there_zero w7 117 [.bool false, .int .i64 0, .int .i64 0, .int .i64 0] _ rfl); intro w8 hw8; have hx8 : RowL w8 w7.heap.size 117 [.bool false, .int .i64 0, .int .i64 0, .int .i64 0] /\ Below w7.heap.size w7 w8 := (by rw [hw8]; exact stored_zero w7 117 [.bool false, .int .i64 0, .int .i64 0, .int .i64 0] _ rfl); clear hw8; have e0 := hx8.1.cell (j := 0) rfl; have HB8 := kp hx8.2; clear hx8)
    go_ret2
    exact .err (HNO.out (by rw [HRD.out]; unfold microOf; rw [HC.out])) rfl (HBW7.out.trans (HB8.out.mono (Nat.le_of_lt hwl7)))
   | some cc =>
    obtain ⟨ses, num, at_⟩ := cc
    have hlk := HI7.out.lk d.step.c (u := .agg #[.bool true, .int .i64 ses, .int .i64 num, .int .i64 (atI at_)]) (by rw [hc]; rfl)
    have hnum := HST.out.num _ _ hc
    simp only at hnum
    have HC := kp hc
    have HAT := kp (fun j (e : at_ = some j) => HST.out.at_ _ _ j hc e)
    clear hc
    obtain ⟨a, ha⟩ : ∃ a, atI at_ = a := ⟨_, rfl⟩
    rw [ha] at hlk
    go_upto_region 25 with ((with_reducible refine wpList_store_at2 (op := ⟨none, _, _, _, _, _⟩) rfl 117 _ _ rfl w7.heap.size 0 #[.bool true, .int .i64 ses, .int .i64 num, .int .i64 a] ?_ ?_ ?_ (conn_sizeA _ _ _ _) (conn_one _ _ _ _) ?_); (· rfl); (· rfl); (· exact there_zero w7 117 [.bool true, .int .i64 ses, .int .i64 num, .int .i64 a] _ rfl); intro w8 hw8; have hx8 : RowL w8 w7.heap.size 117 [.bool true, .int .i64 ses, .int .i64 num, .int .i64 a] /\ Below w7.heap.size w7 w8 := (by rw [hw8]; exact stored_zero w7 117 [.bool true, .int .i64 ses, .int .i64 num, .int .i64 a] _ rfl); clear hw8; have e0 := hx8.1.cell (j := 0) rfl; have HX8 := kp hx8.1; have HB8 := kp hx8.2; clear hx8)
    have HX78 := kp (HX7.out.of_block (HB8.out.block _ HX7.out.lt))
    have HI8 := kp (HI7.out.below HB8.out)
    have HBW8 := kp (HBW7.out.trans (HB8.out.mono (Nat.le_of_lt hwl7)))
    have hwl8 : w.heap.size < w8.heap.size := Nat.lt_of_lt_of_le hwl7 HB8.out.size
    have hb78 : w7.heap.size < w8.heap.size := HX8.out.lt
    have hb57 : w5.heap.size < w7.heap.size := HX7.out.lt
    have c7 := HX78.out.cell HL7.out
    have b1 := HX78.out.cell HL1.out
    have a1 := HX8.out.cell (j := 1) rfl
    have a2 := HX8.out.cell (j := 2) rfl
    have a3 := HX8.out.cell (j := 3) rfl
    clear hlk c0 c4 d1 e0
    by_cases m1 : d.micro = 1
    case pos =>
     have MM := kp m1
     have HOR12 := kp (show d.micro = 1 ∨ d.micro = 2 from .inl m1)
     rw [m1] at c7
     clear m1
     cases at_ with
     | some j =>
      obtain rfl : (j : Int) = a := ha
      have ga : decide (0 <= (j : Int)) = true := by simp
      go_wp2_with fail
      go_ret2
      exact .err (HNO.out (by rw [HRD.out]; unfold microOf; rw [HC.out]; exact if_pos HOR12.out)) rfl HBW8.out
     | none =>
      obtain rfl : (-1 : Int) = a := ha
      go_upto_region 31 with ((with_reducible refine wpList_store_at2 (op := ⟨none, _, _, _, _, _⟩) rfl 52 _ _ rfl w8.heap.size 0 (callN ses num k).toArray ?_ ?_ ?_ (call_sizeA _ _ _ _ _ _ _ _ _ _ _ _ _ _ _ _ _ _ _ _ _ _ _) (callZ_one _ _ _) ?_); (· rfl); (· rfl); (· exact there_zero w8 52 (callN ses num k) _ rfl); intro w10 hw10; have hx10 : RowL w10 w8.heap.size 52 (callN ses num k) /\ Below w8.heap.size w8 w10 := (by rw [hw10]; exact stored_zero w8 52 (callN ses num k) _ rfl); clear hw10; have HX10 := kp hx10.1; have HB10 := kp hx10.2; clear hx10)
      have HX710 := kp (HX78.out.of_block (HB10.out.block _ HX78.out.lt))
      have HX810 := kp (HX8.out.of_block (HB10.out.block _ HX8.out.lt))
      have hb810 : w8.heap.size < w10.heap.size := HX10.out.lt
      have c7' := HX710.out.cell HL7.out
      rw [MM.out] at c7'
      clear c7 b1 a1 a2 a3
      have HDCC := kp (HDC.out _ _ HX710.out)
      go_upto_region 34 with (first
       | ((with_reducible refine wpList_load_agg (o := ⟨some 91, _, _, _, _, _⟩) rfl 36 _ rfl ⟨w5.heap.size, 8, none⟩ ?_ lc _ HDCC.out Tryz.underlying36 rfl HSC.out ?_); (· rfl))
       | ((with_reducible refine wpList_store_at2 (op := ⟨none, _, _, _, _, _⟩) rfl 36 _ _ rfl w8.heap.size 3 lc.toArray ?_ ?_ ?_ HSCA.out HOC.out ?_); (· rfl); (· rfl); (· exact HX10.out.there (by have := HLC.out; simp [callL]; omega)); intro w11 hw11; have HW11 := kp hw11; clear hw11))
      have hx11 := HX10.out.setCells (o := 3) lc
      rw [HND.out ses num none MM.out] at hx11
      have hkk11 : Kept [w8.heap.size] w10 w11 := by rw [HW11.out]; exact kept_setCells (by simp) lc.toArray.toList 3 _ (Kept.refl _ _)
      have HX11 := kp (show RowL w11 w8.heap.size 52 (callC (newCall ⟨ses, num, none⟩ k d) (newV d p)) by rw [HW11.out]; simpa using hx11)
      have HK11 := kp hkk11
      have HX711 := kp (HX710.out.kept hkk11 (by simp; omega))
      have HX811 := kp (HX810.out.kept hkk11 (by simp; omega))
      clear hx11 hkk11 c7'
      have e2 := HX811.out.cell (j := 2) rfl
      have f2 := HX811.out.frozen 2
      have e3 := HX811.out.cell (j := 3) rfl
      have f3 := HX811.out.frozen 3
      obtain ⟨ln, hln⟩ : ∃ ln, callC (newCall ⟨ses, num, none⟩ k d) (newV d p) = ln := ⟨_, rfl⟩
      have hnok : CallOk w11 w.heap.size (newCall ⟨ses, num, none⟩ k d) (newV d p) := (new_ok HOK.out.2.2.1 HOK.out.2.2.2).below ((HB7.out.mono (Nat.le_of_lt hwl)).trans ((HB8.out.mono (Nat.le_of_lt hwl7)).trans ((HB10.out.mono (Nat.le_of_lt hwl8)).trans (HK11.out.below (by omega) (fun b hb => by simp at hb; omega))))) (Nat.le_refl _)
      have hone := call_oneC hnok
      have hszl : (Tryz.prog.info? 52).map (·.size) = some (callC (newCall ⟨ses, num, none⟩ k d) (newV d p)).length := call_sizeL _ _ _ _ _ _ _ _ _ _ _ _ _ _ _ _ _ _ _ _ _ _ _
      have hlnl : (callC (newCall ⟨ses, num, none⟩ k d) (newV d p)).length = 23 := rfl
      rw [hln] at HX11 hone hszl hlnl
      have HLN := kp hln
      have HNOK := kp hnok
      have HONE := kp hone
      have HSZL := kp hszl
      have HLNL := kp hlnl
      have hlag : (Value.agg ln.toArray).cells = ln.toArray := rfl
      have hlas : ln.toArray.size = 23 := by simpa using hlnl
      have HLAG := kp hlag
      have HLAS := kp hlas
      clear hln hnok hone hszl hlnl hlag hlas
      go_upto_region 36 with (fail)
      obtain ⟨w12, hw12⟩ : ∃ W, (w11.setCell ⟨w7.heap.size, 2, none⟩ (.int .i64 (num + 1))).setCell ⟨w7.heap.size, 3, none⟩ (.int .i64 m) = W := ⟨_, rfl⟩
      rw [hw12]
      have HX812 := kp (show RowL w12 w7.heap.size 117 [.bool true, .int .i64 ses, .int .i64 (num + 1), .int .i64 m] by rw [<- hw12]; exact (HX811.out.set 2 _).set 3 _)
      have HX12 := kp (show RowL w12 w8.heap.size 52 ln by rw [<- hw12]; exact (HX11.out.setOther (a := ⟨w7.heap.size, 2, none⟩) (by show w8.heap.size ≠ w7.heap.size; omega) _).setOther (a := ⟨w7.heap.size, 3, none⟩) (by show w8.heap.size ≠ w7.heap.size; omega) _)
      have HX712 := kp (show RowL w12 w5.heap.size 42 l by rw [<- hw12]; exact (HX711.out.setOther (a := ⟨w7.heap.size, 2, none⟩) (by show w5.heap.size ≠ w7.heap.size; omega) _).setOther (a := ⟨w7.heap.size, 3, none⟩) (by show w5.heap.size ≠ w7.heap.size; omega) _)
      have HB12 := kp (show Below w7.heap.size w7 w12 by
       rw [<- hw12]
       exact (HB8.out.trans (HB10.out.mono (Nat.le_of_lt hb78))).trans ((HK11.out.below (by omega) (fun b hb => by simp at hb; omega)).trans ((((Kept.refl [w7.heap.size] w11).setCell (p := ⟨w7.heap.size, 2, none⟩) (by simp) _).setCell (p := ⟨w7.heap.size, 3, none⟩) (by simp) _).below (by have := HK11.out.size; omega) (fun b hb => by simp at hb; omega))))
      have HN12 := kp (show CallOk w12 w.heap.size (newCall ⟨ses, num, none⟩ k d) (newV d p) from HNOK.out.below (by
       rw [<- hw12]
       exact (((Kept.refl [w7.heap.size] w11).setCell (p := ⟨w7.heap.size, 2, none⟩) (by simp) _).setCell (p := ⟨w7.heap.size, 3, none⟩) (by simp) _).below (by have := HK11.out.size; omega) (fun b hb => by simp at hb; omega)) (Nat.le_refl _))
      have HI12 := kp (HI7.out.below HB12.out)
      have hown12 := HI12.out.own
      rw [HM.out] at hown12
      have HO12 := kp hown12
      have hwl12 : w.heap.size <= w12.heap.size := by have := HB12.out.size; omega
      have HXC12 := kp HX12.out.cells
      clear hw12 e2 f2 e3 f3 hown12
      go_upto_region 46 with (first
       | ((with_reducible refine wpList_load_agg (o := ⟨some 101, _, _, _, _, _⟩) rfl 52 _ rfl ⟨w8.heap.size, 0, none⟩ ?_ ln _ HXC12.out Tryz.underlying52 rfl HSZL.out ?_); (· rfl))
       | ((with_reducible refine wpList_slice_one (o := ⟨some 102, _, _, _, _, _⟩) rfl 43 _ rfl 52 _ 23 296 (.agg ln.toArray) ln.toArray Tryz.underlying43 q_info52 ?_ ?_ ?_ HLAG.out HLAS.out ?_); (· decide); (· decide); (· rfl))
       | ((with_reducible refine wpList_append_g (o := ⟨some 103, _, _, _, _, _⟩) rfl _ _ 43 rfl w.heap.size 52 _ 23 296 Tryz.underlying43 q_info52 ?_ ?_ (.slice A1 m c1) m (flatC L) ?_ ?_ ⟨w12.heap.size, 0, none⟩ 1 1 ln ?_ ?_ ?_ HONE.out ?_ ?_ ?_ ?_); (· rfl); (· decide); (· rfl); (· exact (Kept.of_below (L := []) (below1 w12 _)).own2 HO12.out (by simp)); (· rfl); (· exact HLNL.out); (· intro i u hi; rw [Addr.add_mid, Nat.zero_add]; exact (RowL.new w12 52 ln).cell hi); (· unfold maxLen; omega); (· omega); (· simp; omega); intro v9 w9 ho9 hg9 hb9; have HO9 := kp ho9; have HG9 := kp hg9; clear ho9 hg9 hb9))
      have HI9 := kp ((HI12.out.below (below1 w12 (.cells ln.toArray 52))).push (x := newCall ⟨ses, num, none⟩ k d) (p := newV d p) (by rw [HM.out, HLN.out]; exact HO9.out) HG9.out (HN12.out.below (below1 w12 _ |>.mono hwl12) (Nat.le_refl _)))
      have hkw : Kept (Value.slice A1 m c1).ownBlock.toList w12 w9 := ((Kept.refl _ w12).alloc _).trans (kept_of_grown HG9.out)
      have HB9 := kp (HBW7.out.trans ((HB12.out.mono (Nat.le_of_lt hwl7)).trans (hkw.below hwl12 (fun b hb => own_ge HO12.out hb))))
      have HX89 := kp (HX812.out.kept hkw (not_own (HX812.out.ne_own HO12.out (by decide))))
      have HX79 := kp (HX712.out.kept hkw (not_own (HX712.out.ne_own HO12.out (by decide))))
      have b19 := HX79.out.cell HL1.out
      have HC89 := kp HX89.out.cells
      obtain ⟨gm, hgm, hgv⟩ := HI9.out.map
      have HGM := kp hgm
      have hwl9 : w.heap.size <= w9.heap.size := by have := hkw.size; omega
      clear hgm hgv hkw
      go_wp2_with (first
       | ((with_reducible refine wpList_load_agg (o := ⟨some 180, _, _, _, _, _⟩) rfl 117 _ rfl ⟨w7.heap.size, 0, none⟩ ?_ [.bool true, .int .i64 ses, .int .i64 (num + 1), .int .i64 m] _ HC89.out Tryz.underlying117 rfl (conn_sizeL _ _ _ _) ?_); (· rfl))
       | ((with_reducible refine wpList_map_update (o := ⟨none, _, _, _, _, _⟩) rfl 115 3 117 _ _ _ rfl w.heap.size d.step.c (.agg #[.bool true, .int .i64 ses, .int .i64 (num + 1), .int .i64 m]) ?_ ?_ ?_ _ HGM.out ?_ ?_ ?_); (· rfl); (· rfl); (· rfl); (· exact Tryz.underlying115); (· kernel_rfl); intro w15 hk9 hm9; have HK9 := kp hk9; have HM9 := kp hm9; clear hk9 hm9))
      have HI15 := kp (HI9.out.put (g := fun _ => none) (k := d.step.c) (c := some ⟨ses, num + 1, some s.calls.length⟩) (by rw [HML.out]; rfl) HK9.out HM9.out)
      have HB15 := kp (HB9.out.trans (HK9.out.below hwl9 (fun b hb => by simp at hb; omega)))
      clear b19
      go_roundw
      case rel => exact ⟨k + 1, _, _, by go_num, by omega, HYES.out _ (by rw [HRD.out]; unfold microOf; rw [HC.out]; exact if_pos HOR12.out), HI15.out, rfl, HB15.out⟩
      case measure => simp [intOf]; omega
    have M1 := kp m1
    have gm1 : (d.micro == 1) = false := by simpa using m1
    clear m1
    by_cases m2 : d.micro = 2
    case pos =>
     have MM := kp m2
     have HOR12 := kp (show d.micro = 1 ∨ d.micro = 2 from .inr m2)
     rw [m2] at c7 gm1
     clear m2
     cases at_ with
     | some j =>
      obtain rfl : (j : Int) = a := ha
      have ga : decide (0 <= (j : Int)) = true := by simp
      go_wp2_with fail
      go_ret2
      exact .err (HNO.out (by rw [HRD.out]; unfold microOf; rw [HC.out]; exact if_pos HOR12.out)) rfl HBW8.out
     | none =>
      obtain rfl : (-1 : Int) = a := ha
      go_upto_region 31 with ((with_reducible refine wpList_store_at2 (op := ⟨none, _, _, _, _, _⟩) rfl 52 _ _ rfl w8.heap.size 0 (callN ses num k).toArray ?_ ?_ ?_ (call_sizeA _ _ _ _ _ _ _ _ _ _ _ _ _ _ _ _ _ _ _ _ _ _ _) (callZ_one _ _ _) ?_); (· rfl); (· rfl); (· exact there_zero w8 52 (callN ses num k) _ rfl); intro w10 hw10; have hx10 : RowL w10 w8.heap.size 52 (callN ses num k) /\ Below w8.heap.size w8 w10 := (by rw [hw10]; exact stored_zero w8 52 (callN ses num k) _ rfl); clear hw10; have HX10 := kp hx10.1; have HB10 := kp hx10.2; clear hx10)
      have HX710 := kp (HX78.out.of_block (HB10.out.block _ HX78.out.lt))
      have HX810 := kp (HX8.out.of_block (HB10.out.block _ HX8.out.lt))
      have hb810 : w8.heap.size < w10.heap.size := HX10.out.lt
      have c7' := HX710.out.cell HL7.out
      rw [MM.out] at c7'
      clear c7 b1 a1 a2 a3
      go_upto_region 32 with (fail)
      refine wp_region_held_drew (S := fun W => RowL W w5.heap.size 42 l) (by kernel_rfl) HX710.out (fun hS => ?_)
      have HS := kp hS
      clear hS
      refine takeQ (i := 0) (oi := ⟨some 86, .fieldAddr 42 (.tmp 8) 6, 0, "ref.go:64", #[⟨3, .gcOnly .lateStores⟩], none⟩) (v := ?_) rfl (Or.inl ⟨by rfl, ?_⟩) HS.out ?_
      rotate_left 1
      ·intro w hw; go_simp; try with_reducible rfl
      simp only [Act.put, z1, z2, z3]
      refine takeQ (i := 1) (oi := ⟨some 87, .load 40 (.tmp 86), 40, "ref.go:64", _, none⟩) (v := .agg lr.toArray) rfl (yields_aggL rfl 40 _ rfl ⟨w5.heap.size, 18, none⟩ rfl lr _ (fun W hW => (HDR.out W _ hW)) Tryz.underlying40 HSR.out) HS.out ?_
      simp only [Act.put, z1, z2, z3]
      refine takeQ (i := 2) (oi := ⟨some 88, .fieldAddr 52 (.tmp 10) 2, 0, "ref.go:64", _, none⟩) (v := ?_) rfl (Or.inl ⟨by rfl, ?_⟩) HS.out ?_
      rotate_left 1
      ·intro w hw; go_simp; try with_reducible rfl
      simp only [Act.put, z1, z2, z3]
      refine wpAnyH_ready (rs := [3]) (by kernel_rfl) (by simp) ?_
      refine AllReadyH.cons (o := ⟨none, .store 4 (.tmp 88) (.const (.bool true)), 0, "ref.go:64", _, none⟩) rfl (fun K hK => ?_) (AllReadyH.nil)
      have q2 : w10.drew.cell? ⟨w8.heap.size, 2, none⟩ = some (.bool false) := HX10.out.cell (j := 2) rfl
      have z2 : w10.drew.frozen? ⟨w8.heap.size, 2, none⟩ = false := HX10.out.frozen 2
      go_simp
      have hS : RowL (w10.setCell ⟨w8.heap.size, 2, none⟩ (.bool true)).drew w5.heap.size 42 l := (HX710.out.setOther (a := ⟨w8.heap.size, 2, none⟩) (by show w5.heap.size ≠ w8.heap.size; omega) _).drew
      refine hK.out _ _ hS (fun _ => ?_)
      clear q2 z2
      clear hK K HS
      have HS := kp hS
      clear hS
      try simp only [Act.put, z1, z2, z3]
      refine takeQ (i := 4) (oi := ⟨some 89, .fieldAddr 52 (.tmp 10) 4, 0, "ref.go:64", _, none⟩) (v := ?_) rfl (Or.inl ⟨by rfl, ?_⟩) HS.out ?_
      rotate_left 1
      ·intro w hw; go_simp; try with_reducible rfl
      simp only [Act.put, z1, z2, z3]
      refine wpAnyH_ready (rs := [5]) (by kernel_rfl) (by simp) ?_
      refine AllReadyH.cons (o := ⟨none, .store 40 (.tmp 89) (.tmp 87), 0, "ref.go:64", _, none⟩) rfl (fun K hK => ?_) (AllReadyH.nil)
      have ht5 : (w10.setCell ⟨w8.heap.size, 2, none⟩ (.bool true)).drew.there w8.heap.size 13 lr.toArray.size := (HX10.out.set 2 (.bool true)).drew.there (by have := HLR.out; simp [callL]; omega)
      with_reducible refine step_store_agg rfl 40 _ _ rfl w8.heap.size 13 lr.toArray ?_ ?_ ht5 HSRA.out HOR.out ?_
      ·rfl
      ·rfl
      clear ht5
      obtain ⟨w11, hw11⟩ : ∃ W, (w10.setCell ⟨w8.heap.size, 2, none⟩ (.bool true)).drew.setCells w8.heap.size 13 lr.toArray.toList = W := ⟨_, rfl⟩
      have hx11 := (HX10.out.set 2 (.bool true)).drew.setCells (o := 13) lr
      rw [HNB.out ses num none MM.out] at hx11
      have HX11a := kp (show RowL w11 w8.heap.size 52 (callC (newCall ⟨ses, num, none⟩ k d) (newV d p)) by rw [<- hw11]; simpa using hx11)
      have HKK11a := kp (show Kept [w8.heap.size] w10 w11 by rw [<- hw11]; exact kept_setCells (by simp) lr.toArray.toList 13 _ (((Kept.refl _ w10).setCell (p := ⟨w8.heap.size, 2, none⟩) (by simp) _).drew'))
      have hS : RowL w11 w5.heap.size 42 l := by rw [<- hw11]; exact (HX710.out.setOther (a := ⟨w8.heap.size, 2, none⟩) (by show w5.heap.size ≠ w8.heap.size; omega) (.bool true)).drew.setCellsOther (vs := lr.toArray.toList) (o := 13) (b' := w8.heap.size) (by show w5.heap.size ≠ w8.heap.size; omega)
      rw [hw11]
      clear hx11 hw11
      refine hK.out _ _ hS (fun _ => ?_)
      clear hK K HS
      have HS := kp hS
      clear hS
      try simp only [Act.put, z1, z2, z3]
      refine wpAnyH_done (by kernel_rfl) ?_ _
      have hx11 := HX11a.out
      have hkk11 := HKK11a.out
      have HX11 := kp hx11
      have HK11 := kp hkk11
      have HX711 := kp (HX710.out.kept hkk11 (by simp; omega))
      have HX811 := kp (HX810.out.kept hkk11 (by simp; omega))
      clear hx11 hkk11 c7'
      have e2 := HX811.out.cell (j := 2) rfl
      have f2 := HX811.out.frozen 2
      have e3 := HX811.out.cell (j := 3) rfl
      have f3 := HX811.out.frozen 3
      obtain ⟨ln, hln⟩ : ∃ ln, callC (newCall ⟨ses, num, none⟩ k d) (newV d p) = ln := ⟨_, rfl⟩
      have hnok : CallOk w11 w.heap.size (newCall ⟨ses, num, none⟩ k d) (newV d p) := (new_ok HOK.out.2.2.1 HOK.out.2.2.2).below ((HB7.out.mono (Nat.le_of_lt hwl)).trans ((HB8.out.mono (Nat.le_of_lt hwl7)).trans ((HB10.out.mono (Nat.le_of_lt hwl8)).trans (HK11.out.below (by omega) (fun b hb => by simp at hb; omega))))) (Nat.le_refl _)
      have hone := call_oneC hnok
      have hszl : (Tryz.prog.info? 52).map (·.size) = some (callC (newCall ⟨ses, num, none⟩ k d) (newV d p)).length := call_sizeL _ _ _ _ _ _ _ _ _ _ _ _ _ _ _ _ _ _ _ _ _ _ _
      have hlnl : (callC (newCall ⟨ses, num, none⟩ k d) (newV d p)).length = 23 := rfl
      rw [hln] at HX11 hone hszl hlnl
      have HLN := kp hln
      have HNOK := kp hnok
      have HONE := kp hone
      have HSZL := kp hszl
      have HLNL := kp hlnl
      have hlag : (Value.agg ln.toArray).cells = ln.toArray := rfl
      have hlas : ln.toArray.size = 23 := by simpa using hlnl
      have HLAG := kp hlag
      have HLAS := kp hlas
      clear hln hnok hone hszl hlnl hlag hlas
      go_upto_region 36 with (fail)
      obtain ⟨w12, hw12⟩ : ∃ W, (w11.setCell ⟨w7.heap.size, 2, none⟩ (.int .i64 (num + 1))).setCell ⟨w7.heap.size, 3, none⟩ (.int .i64 m) = W := ⟨_, rfl⟩
      rw [hw12]
      have HX812 := kp (show RowL w12 w7.heap.size 117 [.bool true, .int .i64 ses, .int .i64 (num + 1), .int .i64 m] by rw [<- hw12]; exact (HX811.out.set 2 _).set 3 _)
      have HX12 := kp (show RowL w12 w8.heap.size 52 ln by rw [<- hw12]; exact (HX11.out.setOther (a := ⟨w7.heap.size, 2, none⟩) (by show w8.heap.size ≠ w7.heap.size; omega) _).setOther (a := ⟨w7.heap.size, 3, none⟩) (by show w8.heap.size ≠ w7.heap.size; omega) _)
      have HX712 := kp (show RowL w12 w5.heap.size 42 l by rw [<- hw12]; exact (HX711.out.setOther (a := ⟨w7.heap.size, 2, none⟩) (by show w5.heap.size ≠ w7.heap.size; omega) _).setOther (a := ⟨w7.heap.size, 3, none⟩) (by show w5.heap.size ≠ w7.heap.size; omega) _)
      have HB12 := kp (show Below w7.heap.size w7 w12 by
       rw [<- hw12]
       exact (HB8.out.trans (HB10.out.mono (Nat.le_of_lt hb78))).trans ((HK11.out.below (by omega) (fun b hb => by simp at hb; omega)).trans ((((Kept.refl [w7.heap.size] w11).setCell (p := ⟨w7.heap.size, 2, none⟩) (by simp) _).setCell (p := ⟨w7.heap.size, 3, none⟩) (by simp) _).below (by have := HK11.out.size; omega) (fun b hb => by simp at hb; omega))))
      have HN12 := kp (show CallOk w12 w.heap.size (newCall ⟨ses, num, none⟩ k d) (newV d p) from HNOK.out.below (by
       rw [<- hw12]
       exact (((Kept.refl [w7.heap.size] w11).setCell (p := ⟨w7.heap.size, 2, none⟩) (by simp) _).setCell (p := ⟨w7.heap.size, 3, none⟩) (by simp) _).below (by have := HK11.out.size; omega) (fun b hb => by simp at hb; omega)) (Nat.le_refl _))
      have HI12 := kp (HI7.out.below HB12.out)
      have hown12 := HI12.out.own
      rw [HM.out] at hown12
      have HO12 := kp hown12
      have hwl12 : w.heap.size <= w12.heap.size := by have := HB12.out.size; omega
      have HXC12 := kp HX12.out.cells
      clear hw12 e2 f2 e3 f3 hown12
      go_upto_region 46 with (first
       | ((with_reducible refine wpList_load_agg (o := ⟨some 101, _, _, _, _, _⟩) rfl 52 _ rfl ⟨w8.heap.size, 0, none⟩ ?_ ln _ HXC12.out Tryz.underlying52 rfl HSZL.out ?_); (· rfl))
       | ((with_reducible refine wpList_slice_one (o := ⟨some 102, _, _, _, _, _⟩) rfl 43 _ rfl 52 _ 23 296 (.agg ln.toArray) ln.toArray Tryz.underlying43 q_info52 ?_ ?_ ?_ HLAG.out HLAS.out ?_); (· decide); (· decide); (· rfl))
       | ((with_reducible refine wpList_append_g (o := ⟨some 103, _, _, _, _, _⟩) rfl _ _ 43 rfl w.heap.size 52 _ 23 296 Tryz.underlying43 q_info52 ?_ ?_ (.slice A1 m c1) m (flatC L) ?_ ?_ ⟨w12.heap.size, 0, none⟩ 1 1 ln ?_ ?_ ?_ HONE.out ?_ ?_ ?_ ?_); (· rfl); (· decide); (· rfl); (· exact (Kept.of_below (L := []) (below1 w12 _)).own2 HO12.out (by simp)); (· rfl); (· exact HLNL.out); (· intro i u hi; rw [Addr.add_mid, Nat.zero_add]; exact (RowL.new w12 52 ln).cell hi); (· unfold maxLen; omega); (· omega); (· simp; omega); intro v9 w9 ho9 hg9 hb9; have HO9 := kp ho9; have HG9 := kp hg9; clear ho9 hg9 hb9))
      have HI9 := kp ((HI12.out.below (below1 w12 (.cells ln.toArray 52))).push (x := newCall ⟨ses, num, none⟩ k d) (p := newV d p) (by rw [HM.out, HLN.out]; exact HO9.out) HG9.out (HN12.out.below (below1 w12 _ |>.mono hwl12) (Nat.le_refl _)))
      have hkw : Kept (Value.slice A1 m c1).ownBlock.toList w12 w9 := ((Kept.refl _ w12).alloc _).trans (kept_of_grown HG9.out)
      have HB9 := kp (HBW7.out.trans ((HB12.out.mono (Nat.le_of_lt hwl7)).trans (hkw.below hwl12 (fun b hb => own_ge HO12.out hb))))
      have HX89 := kp (HX812.out.kept hkw (not_own (HX812.out.ne_own HO12.out (by decide))))
      have HX79 := kp (HX712.out.kept hkw (not_own (HX712.out.ne_own HO12.out (by decide))))
      have b19 := HX79.out.cell HL1.out
      have HC89 := kp HX89.out.cells
      obtain ⟨gm, hgm, hgv⟩ := HI9.out.map
      have HGM := kp hgm
      have hwl9 : w.heap.size <= w9.heap.size := by have := hkw.size; omega
      clear hgm hgv hkw
      go_wp2_with (first
       | ((with_reducible refine wpList_load_agg (o := ⟨some 180, _, _, _, _, _⟩) rfl 117 _ rfl ⟨w7.heap.size, 0, none⟩ ?_ [.bool true, .int .i64 ses, .int .i64 (num + 1), .int .i64 m] _ HC89.out Tryz.underlying117 rfl (conn_sizeL _ _ _ _) ?_); (· rfl))
       | ((with_reducible refine wpList_map_update (o := ⟨none, _, _, _, _, _⟩) rfl 115 3 117 _ _ _ rfl w.heap.size d.step.c (.agg #[.bool true, .int .i64 ses, .int .i64 (num + 1), .int .i64 m]) ?_ ?_ ?_ _ HGM.out ?_ ?_ ?_); (· rfl); (· rfl); (· rfl); (· exact Tryz.underlying115); (· kernel_rfl); intro w15 hk9 hm9; have HK9 := kp hk9; have HM9 := kp hm9; clear hk9 hm9))
      have HI15 := kp (HI9.out.put (g := fun _ => none) (k := d.step.c) (c := some ⟨ses, num + 1, some s.calls.length⟩) (by rw [HML.out]; rfl) HK9.out HM9.out)
      have HB15 := kp (HB9.out.trans (HK9.out.below hwl9 (fun b hb => by simp at hb; omega)))
      clear b19
      go_roundw
      case rel => exact ⟨k + 1, _, _, by go_num, by omega, HYES.out _ (by rw [HRD.out]; unfold microOf; rw [HC.out]; exact if_pos HOR12.out), HI15.out, rfl, HB15.out⟩
      case measure => simp [intOf]; omega
    have M2 := kp m2
    have gm2 : (d.micro == 2) = false := by simpa using m2
    have HNOR := kp (show ¬ (d.micro = 1 ∨ d.micro = 2) from fun h => h.elim M1.out m2)
    clear m2
    by_cases m3 : d.micro = 3
    case pos =>
     have MM := kp m3
     rw [m3] at c7 gm1 gm2
     clear m3
     cases at_ with
     | none =>
      obtain rfl : (-1 : Int) = a := ha
      go_wp2_with fail
      go_ret2
      exact .err (HNO.out (by rw [HRD.out]; unfold microOf; rw [HC.out]; exact (if_neg HNOR.out).trans (if_pos MM.out))) rfl HBW8.out
     | some j =>
      obtain rfl : (j : Int) = a := ha
      have hjm : j < m := by have := HAT.out j rfl; rw [HML.out] at this; exact this
      have hjL : j < L.length := by rw [HM.out]; exact hjm
      have hij : (j : Int) < (m : Int) := by omega
      have ga : decide ((j : Int) < 0) = false := decide_eq_false (by omega)
      obtain ⟨⟨x, q⟩, hxq⟩ : ∃ x, L[j]? = some x := ⟨_, List.getElem?_eq_getElem hjL⟩
      have hsx : s.calls[j]? = some x := by rw [<- HI.out.calls, List.getElem?_map, hxq]; rfl
      obtain ⟨g, hg⟩ : ∃ g, A1 = some ⟨g, 0, none⟩ := by
       rcases owns_shape HI8.out.own (by decide) with ⟨e1, e2, e3⟩ | ⟨g, cap, e1, e2, e3, e4, e5⟩
       ·omega
       ·cases e1; exact ⟨g, rfl⟩
      subst hg
      have hown8 := HI8.out.own
      rw [<- HM.out] at hown8
      have HRJ := kp (RowJ.start hown8 hxq)
      have HXQ := kp hxq
      have HSX := kp hsx
      have hgl : w.heap.size <= g /\ g < w8.heap.size := hown8.lt g rfl
      have hg7 : g < w7.heap.size := by
       have h7 := HI7.out.own
       exact (h7.lt g rfl).2
      have hng7 : g ≠ w7.heap.size := by omega
      have hng5 : g ≠ w5.heap.size := by
       have h5 := HI.out.own
       have := (h5.lt g rfl).2
       omega
      have q2 : w8.cell? ⟨g, j * 23 + 2, none⟩ = some (.bool x.bad) := HRJ.out.cell (i := 2) rfl
      have q20 : w8.cell? ⟨g, j * 23 + 20, none⟩ = some (.int .i64 x.done) := HRJ.out.cell (i := 20) rfl
      clear hown8 hxq hsx
      cases hbd : x.bad
      case true =>
       rw [hbd] at q2
       have HBD := kp hbd
       clear hbd
       go_wp2_with fail
       go_ret2
       exact .err (HNO.out (by rw [HRD.out]; unfold microOf; rw [HC.out]; refine (if_neg HNOR.out).trans ((if_pos MM.out).trans ?_); simp only [HSX.out]; exact if_pos (.inl HBD.out))) rfl HBW8.out
      rw [hbd] at q2
      have HBD := kp hbd
      clear hbd
      by_cases hdn : 0 <= x.done
      case pos =>
       have gd : decide (0 <= x.done) = true := decide_eq_true hdn
       have HD := kp hdn
       clear hdn
       go_wp2_with fail
       go_ret2
       exact .err (HNO.out (by rw [HRD.out]; unfold microOf; rw [HC.out]; refine (if_neg HNOR.out).trans ((if_pos MM.out).trans ?_); simp only [HSX.out]; exact if_pos (.inr HD.out))) rfl HBW8.out
      have gd : decide (0 <= x.done) = false := decide_eq_false hdn
      have HD := kp (show ¬ (x.bad = true ∨ 0 <= x.done) from fun h => h.elim (fun h => by rw [HBD.out] at h; cases h) hdn)
      clear hdn
      go_upto_region 40 with (fail)
      refine wp_region_held_drew (S := fun W => RowL W w7.heap.size 117 [.bool true, .int .i64 ses, .int .i64 num, .int .i64 j] /\ RowL W w5.heap.size 42 l) (by kernel_rfl) ⟨HX8.out, HX78.out⟩ (fun hS => ?_)
      have HS := kp hS
      clear hS
      refine takeQ (i := 0) (oi := ⟨some 126, .move (.tmp 4), 43, "ref.go:75", #[], none⟩) (v := ?_) rfl (Or.inl ⟨by rfl, ?_⟩) HS.out ?_
      rotate_left 1
      ·intro w hw; go_simp; try with_reducible rfl
      simp only [Act.put, z1, z2, z3]
      refine takeQ (i := 1) (oi := ⟨some 127, .fieldAddr 117 (.tmp 9) 3, 0, "ref.go:75", #[], none⟩) (v := ?_) rfl (Or.inl ⟨by rfl, ?_⟩) HS.out ?_
      rotate_left 1
      ·intro w hw; go_simp; try with_reducible rfl
      simp only [Act.put, z1, z2, z3]
      refine takeQ (i := 2) (oi := ⟨some 128, .load 3 (.tmp 127), 3, "ref.go:75", #[⟨1, .data⟩], none⟩) (v := ?_) rfl (Or.inl ⟨by rfl, ?_⟩) HS.out ?_
      rotate_left 1
      ·intro w hw; have hw3 := hw.1.cell (j := 3) rfl; go_simp; try with_reducible rfl
      simp only [Act.put, z1, z2, z3]
      refine takeQ (i := 3) (oi := ⟨some 129, .move (.tmp 4), 43, "ref.go:75", #[⟨16, .gcOnly .lateStores⟩], none⟩) (v := ?_) rfl (Or.inl ⟨by rfl, ?_⟩) HS.out ?_
      rotate_left 1
      ·intro w hw; go_simp; try with_reducible rfl
      simp only [Act.put, z1, z2, z3]
      refine takeQ (i := 4) (oi := ⟨some 130, .fieldAddr 117 (.tmp 9) 3, 0, "ref.go:75", #[⟨16, .gcOnly .lateStores⟩], none⟩) (v := ?_) rfl (Or.inl ⟨by rfl, ?_⟩) HS.out ?_
      rotate_left 1
      ·intro w hw; go_simp; try with_reducible rfl
      simp only [Act.put, z1, z2, z3]
      refine takeQ (i := 5) (oi := ⟨some 131, .load 3 (.tmp 130), 3, "ref.go:75", _, none⟩) (v := ?_) rfl (Or.inl ⟨by rfl, ?_⟩) HS.out ?_
      rotate_left 1
      ·intro w hw; have hw3 := hw.1.cell (j := 3) rfl; go_simp; try with_reducible rfl
      simp only [Act.put, z1, z2, z3]
      refine takeQ (i := 6) (oi := ⟨some 132, .move (.tmp 4), 43, "ref.go:75", #[⟨19, .gcOnly .lateStores⟩], none⟩) (v := ?_) rfl (Or.inl ⟨by rfl, ?_⟩) HS.out ?_
      rotate_left 1
      ·intro w hw; go_simp; try with_reducible rfl
      simp only [Act.put, z1, z2, z3]
      refine takeQ (i := 7) (oi := ⟨some 133, .fieldAddr 117 (.tmp 9) 3, 0, "ref.go:75", #[⟨19, .gcOnly .lateStores⟩], none⟩) (v := ?_) rfl (Or.inl ⟨by rfl, ?_⟩) HS.out ?_
      rotate_left 1
      ·intro w hw; go_simp; try with_reducible rfl
      simp only [Act.put, z1, z2, z3]
      refine takeQ (i := 8) (oi := ⟨some 134, .load 3 (.tmp 133), 3, "ref.go:75", _, none⟩) (v := ?_) rfl (Or.inl ⟨by rfl, ?_⟩) HS.out ?_
      rotate_left 1
      ·intro w hw; have hw3 := hw.1.cell (j := 3) rfl; go_simp; try with_reducible rfl
      simp only [Act.put, z1, z2, z3]
      refine takeQ (i := 9) (oi := ⟨some 135, .fieldAddr 42 (.tmp 8) 6, 0, "ref.go:75", #[], none⟩) (v := ?_) rfl (Or.inl ⟨by rfl, ?_⟩) HS.out ?_
      rotate_left 1
      ·intro w hw; go_simp; try with_reducible rfl
      simp only [Act.put, z1, z2, z3]
      refine takeQ (i := 10) (oi := ⟨some 136, .load 40 (.tmp 135), 40, "ref.go:75", #[⟨9, .data⟩], none⟩) (v := .agg lr.toArray) rfl (yields_aggL rfl 40 _ rfl ⟨w5.heap.size, 18, none⟩ rfl lr _ (fun W hW => (HDR.out W _ hW.2)) Tryz.underlying40 HSR.out) HS.out ?_
      simp only [Act.put, z1, z2, z3]
      refine takeQ (i := 11) (oi := ⟨some 137, .move (.tmp 7), 3, "ref.go:75", #[⟨16, .gcOnly .lateStores⟩], none⟩) (v := ?_) rfl (Or.inl ⟨by rfl, ?_⟩) HS.out ?_
      rotate_left 1
      ·intro w hw; go_simp; try with_reducible rfl
      simp only [Act.put, z1, z2, z3]
      refine takeQ (i := 12) (oi := ⟨some 138, .fieldAddr 42 (.tmp 8) 7, 0, "ref.go:75", #[⟨19, .gcOnly .lateStores⟩], none⟩) (v := ?_) rfl (Or.inl ⟨by rfl, ?_⟩) HS.out ?_
      rotate_left 1
      ·intro w hw; go_simp; try with_reducible rfl
      simp only [Act.put, z1, z2, z3]
      refine takeQ (i := 13) (oi := ⟨some 139, .load 34 (.tmp 138), 34, "ref.go:75", _, none⟩) (v := ?_) rfl (Or.inl ⟨by rfl, ?_⟩) HS.out ?_
      rotate_left 1
      ·intro w hw; have hw3 := hw.2.cell HL24.out; go_simp; try with_reducible rfl
      simp only [Act.put, z1, z2, z3]
      refine takeQ (i := 14) (oi := ⟨some 140, .indexAddr 43 (.tmp 126) (.tmp 128), 0, "ref.go:75", _, none⟩) (v := ?_) rfl (Or.inl ⟨by rfl, ?_⟩) HS.out ?_
      rotate_left 1
      ·intro w hw; go_simp; try with_reducible rfl
      simp only [Act.put, z1, z2, z3]
      refine takeQ (i := 15) (oi := ⟨some 141, .fieldAddr 52 (.tmp 140) 4, 0, "ref.go:75", _, none⟩) (v := ?_) rfl (Or.inl ⟨by rfl, ?_⟩) HS.out ?_
      rotate_left 1
      ·intro w hw; go_simp; try with_reducible rfl
      simp only [Act.put, z1, z2, z3]
      refine wpAnyH_ready (rs := [16]) (by kernel_rfl) (by simp) ?_
      refine AllReadyH.cons (o := ⟨none, .store 40 (.tmp 141) (.tmp 136), 0, "ref.go:75", _, none⟩) rfl (fun K hK => ?_) (AllReadyH.nil)
      with_reducible refine step_store_agg rfl 40 _ _ rfl g (j * 23 + 13) lr.toArray ?_ ?_ (HRJ.out.drew.there (by have := HLR.out; simp; omega)) HSRA.out HOR.out ?_
      ·rfl
      ·rfl
      have HRJ1 := kp (HRJ.out.drew.put lr 13 (by have := HLR.out; omega))
      obtain ⟨W1, hW1⟩ : ∃ W, w8.drew.setCells g (j * 23 + 13) lr.toArray.toList = W := ⟨_, rfl⟩
      have HKJ1 := kp (show Kept [g] w8 W1 by rw [<- hW1]; exact kept_setCells (by simp) lr.toArray.toList (j * 23 + 13) _ ((Kept.refl _ w8).drew'))
      rw [show w8.drew.setCells g (j * 23 + 13) lr = W1 from hW1] at HRJ1
      rw [hW1]
      clear hW1
      have hS := And.intro (HX8.out.kept HKJ1.out (by simp; omega)) (HX78.out.kept HKJ1.out (by simp; omega))
      refine hK.out _ _ hS (fun _ => ?_)
      clear hK K HS
      have HS := kp hS
      clear hS
      try simp only [Act.put, z1, z2, z3]
      refine takeQ (i := 17) (oi := ⟨some 142, .indexAddr 43 (.tmp 129) (.tmp 131), 0, "ref.go:75", _, none⟩) (v := ?_) rfl (Or.inl ⟨by rfl, ?_⟩) HS.out ?_
      rotate_left 1
      ·intro w hw; go_simp; try with_reducible rfl
      simp only [Act.put, z1, z2, z3]
      refine takeQ (i := 18) (oi := ⟨some 143, .fieldAddr 52 (.tmp 142) 6, 0, "ref.go:75", _, none⟩) (v := ?_) rfl (Or.inl ⟨by rfl, ?_⟩) HS.out ?_
      rotate_left 1
      ·intro w hw; go_simp; try with_reducible rfl
      simp only [Act.put, z1, z2, z3]
      refine wpAnyH_ready (rs := [19]) (by kernel_rfl) (by simp) ?_
      refine AllReadyH.cons (o := ⟨none, .store 3 (.tmp 143) (.tmp 137), 0, "ref.go:75", _, none⟩) rfl (fun K hK => ?_) (AllReadyH.nil)
      have hlx : ((putL (callC x q) 13 lr))[20]? = some (.int .i64 x.done) := by rw [putL_get _ _ _ _ (by have := HLR.out; omega)]; rfl
      have qq := HRJ1.out.cell hlx
      have zz := HRJ1.out.frozen 20
      clear hlx
      go_simp
      have HRJ2 := kp (HRJ1.out.set 20 (.int .i64 k) (by omega))
      obtain ⟨W2, hW2⟩ : ∃ W, W1.setCell ⟨g, j * 23 + 20, none⟩ (.int .i64 k) = W := ⟨_, rfl⟩
      have HKJ2 := kp (show Kept [g] w8 W2 by rw [<- hW2]; exact HKJ1.out.setCell (p := ⟨g, j * 23 + 20, none⟩) (by simp) _)
      rw [hW2] at HRJ2 ⊢
      clear hW2 qq zz
      have hS := And.intro (HX8.out.kept HKJ2.out (by simp; omega)) (HX78.out.kept HKJ2.out (by simp; omega))
      refine hK.out _ _ hS (fun _ => ?_)
      clear hK K HS
      have HS := kp hS
      clear hS
      try simp only [Act.put, z1, z2, z3]
      refine takeQ (i := 20) (oi := ⟨some 144, .indexAddr 43 (.tmp 132) (.tmp 134), 0, "ref.go:75", _, none⟩) (v := ?_) rfl (Or.inl ⟨by rfl, ?_⟩) HS.out ?_
      rotate_left 1
      ·intro w hw; go_simp; try with_reducible rfl
      simp only [Act.put, z1, z2, z3]
      refine takeQ (i := 21) (oi := ⟨some 145, .fieldAddr 52 (.tmp 144) 8, 0, "ref.go:75", _, none⟩) (v := ?_) rfl (Or.inl ⟨by rfl, ?_⟩) HS.out ?_
      rotate_left 1
      ·intro w hw; go_simp; try with_reducible rfl
      simp only [Act.put, z1, z2, z3]
      refine wpAnyH_ready (rs := [22]) (by kernel_rfl) (by simp) ?_
      refine AllReadyH.cons (o := ⟨none, .store 34 (.tmp 145) (.tmp 139), 0, "ref.go:75", _, none⟩) rfl (fun K hK => ?_) (AllReadyH.nil)
      have hlx : ((putL (callC x q) 13 lr).set 20 (.int .i64 k))[22]? = some (.int .u64 x.tim) := by rw [List.getElem?_set_ne (by omega), putL_get _ _ _ _ (by have := HLR.out; omega)]; rfl
      have qq := HRJ2.out.cell hlx
      have zz := HRJ2.out.frozen 22
      clear hlx
      go_simp
      have HRJ3 := kp (HRJ2.out.set 22 (.int .u64 d.when) (by omega))
      obtain ⟨W3, hW3⟩ : ∃ W, W2.setCell ⟨g, j * 23 + 22, none⟩ (.int .u64 d.when) = W := ⟨_, rfl⟩
      have HKJ3 := kp (show Kept [g] w8 W3 by rw [<- hW3]; exact HKJ2.out.setCell (p := ⟨g, j * 23 + 22, none⟩) (by simp) _)
      rw [hW3] at HRJ3 ⊢
      clear hW3 qq zz
      have hS := And.intro (HX8.out.kept HKJ3.out (by simp; omega)) (HX78.out.kept HKJ3.out (by simp; omega))
      refine hK.out _ _ hS (fun _ => ?_)
      clear hK K HS
      have HS := kp hS
      clear hS
      try simp only [Act.put, z1, z2, z3]
      refine wpAnyH_done (by kernel_rfl) ?_ _
      skip
      obtain ⟨w9, rfl⟩ : ∃ W, W = W3 := ⟨_, rfl⟩
      have hrj := HRJ3.out
      have hkj := HKJ3.out
      rw [HDN.out] at hrj
      have hry : RespOk w8 w.heap.size d.resp p.vi p.vn := HOK.out.2.2.2.below ((HB7.out.mono (Nat.le_of_lt hwl)).trans (HB8.out.mono (Nat.le_of_lt hwl7))) (Nat.le_refl _)
      have hcy : CmdOk w8 w.heap.size x.cmd q.vk q.vv q.vt := (HI8.out.ok _ (List.mem_of_getElem? HXQ.out)).1
      have HI9 := kp (RefI.call_set (y := doneCall x k d) (q := ⟨q.vk, q.vv, q.vt, p.vi, p.vn⟩) (by rw [HM.out]; exact HI8.out) HXQ.out hrj rfl ⟨hcy, hry⟩ hkj)
      have HB9 := kp (HBW8.out.trans (hkj.below (Nat.le_of_lt hwl8) (fun b hb => by simp at hb; omega)))
      have HX89 := kp (HX8.out.kept hkj (by simp; omega))
      have HX79 := kp (HX78.out.kept hkj (by simp; omega))
      have b19 := HX79.out.cell HL1.out
      have HC89 := kp HX89.out.cells
      obtain ⟨gm, hgm, hgv⟩ := HI9.out.map
      have HGM := kp hgm
      have hwl9 : w.heap.size <= w9.heap.size := by have := hkj.size; omega
      clear hgm hgv hkj hrj hry hcy q2 q20 b1 a1 a2 a3 c7
      go_wp2_with (first
       | ((with_reducible refine wpList_load_agg (o := ⟨some 180, _, _, _, _, _⟩) rfl 117 _ rfl ⟨w7.heap.size, 0, none⟩ ?_ [.bool true, .int .i64 ses, .int .i64 num, .int .i64 j] _ HC89.out Tryz.underlying117 rfl (conn_sizeL _ _ _ _) ?_); (· rfl))
       | ((with_reducible refine wpList_map_update (o := ⟨none, _, _, _, _, _⟩) rfl 115 3 117 _ _ _ rfl w.heap.size d.step.c (.agg #[.bool true, .int .i64 ses, .int .i64 num, .int .i64 j]) ?_ ?_ ?_ _ HGM.out ?_ ?_ ?_); (· rfl); (· rfl); (· rfl); (· exact Tryz.underlying115); (· kernel_rfl); intro w15 hk9 hm9; have HK9 := kp hk9; have HM9 := kp hm9; clear hk9 hm9))
      have hput := HI9.out.put (g := fun _ => none) (k := d.step.c) (c := some ⟨ses, num, some j⟩) rfl HK9.out HM9.out
      rw [St.put_same (s := { s with calls := s.calls.set j (doneCall x k d) }) HC.out, List.length_set, HM.out] at hput
      have HI15 := kp hput
      have HB15 := kp (HB9.out.trans (HK9.out.below hwl9 (fun b hb => by simp at hb; omega)))
      clear b19 hput
      go_roundw
      case rel => exact ⟨k + 1, _, _, by go_num, by omega, HYES.out _ (by rw [HRD.out]; unfold microOf; rw [HC.out]; refine (if_neg HNOR.out).trans ((if_pos MM.out).trans ?_); simp only [HSX.out]; exact if_neg HD.out), HI15.out, rfl, HB15.out⟩
      case measure => simp [intOf]; omega
    have M3 := kp m3
    have gm3 : (d.micro == 3) = false := by simpa using m3
    clear m3
    by_cases m4 : d.micro = 4
    case pos =>
     have MM := kp m4
     rw [m4] at c7 gm1 gm2 gm3
     clear m4
     cases at_ with
     | none =>
      obtain rfl : (-1 : Int) = a := ha
      go_wp2_with fail
      go_ret2
      exact .err (HNO.out (by rw [HRD.out]; unfold microOf; rw [HC.out]; exact (if_neg HNOR.out).trans ((if_neg M3.out).trans (if_pos MM.out)))) rfl HBW8.out
     | some j =>
      obtain rfl : (j : Int) = a := ha
      have hjm : j < m := by have := HAT.out j rfl; rw [HML.out] at this; exact this
      have hjL : j < L.length := by rw [HM.out]; exact hjm
      have hij : (j : Int) < (m : Int) := by omega
      have ga : decide ((j : Int) < 0) = false := decide_eq_false (by omega)
      obtain ⟨⟨x, q⟩, hxq⟩ : ∃ x, L[j]? = some x := ⟨_, List.getElem?_eq_getElem hjL⟩
      have hsx : s.calls[j]? = some x := by rw [<- HI.out.calls, List.getElem?_map, hxq]; rfl
      obtain ⟨g, hg⟩ : ∃ g, A1 = some ⟨g, 0, none⟩ := by
       rcases owns_shape HI8.out.own (by decide) with ⟨e1, e2, e3⟩ | ⟨g, cap, e1, e2, e3, e4, e5⟩
       ·omega
       ·cases e1; exact ⟨g, rfl⟩
      subst hg
      have hown8 := HI8.out.own
      rw [<- HM.out] at hown8
      have HRJ := kp (RowJ.start hown8 hxq)
      have HXQ := kp hxq
      have HSX := kp hsx
      have hgl : w.heap.size <= g /\ g < w8.heap.size := hown8.lt g rfl
      have hg7 : g < w7.heap.size := by
       have h7 := HI7.out.own
       exact (h7.lt g rfl).2
      have hng7 : g ≠ w7.heap.size := by omega
      have hng5 : g ≠ w5.heap.size := by
       have h5 := HI.out.own
       have := (h5.lt g rfl).2
       omega
      have q2 : w8.cell? ⟨g, j * 23 + 2, none⟩ = some (.bool x.bad) := HRJ.out.cell (i := 2) rfl
      have q20 : w8.cell? ⟨g, j * 23 + 20, none⟩ = some (.int .i64 x.done) := HRJ.out.cell (i := 20) rfl
      clear hown8 hxq hsx
      have HG := kp (show (x.bad = false /\ x.done < 0) ∨ ¬ (x.bad = false /\ x.done < 0) from Classical.em _)
      have q21 : w8.cell? ⟨g, j * 23 + 21, none⟩ = some (.int .i64 x.told) := HRJ.out.cell (i := 21) rfl
      have z21 : w8.frozen? ⟨g, j * 23 + 21, none⟩ = false := HRJ.out.frozen 21
      have f3 := HX8.out.frozen 3
      rcases HG.out with hbad | hgood
      ·rw [hbad.1] at q2
       have gd : decide (x.done < 0) = true := decide_eq_true hbad.2
       have HBD := kp hbad
       clear hbad
       go_wp2_with fail
       go_ret2
       exact .err (HNO.out (by rw [HRD.out]; unfold microOf; rw [HC.out]; refine (if_neg HNOR.out).trans ((if_neg M3.out).trans ((if_pos MM.out).trans ?_)); simp only [HSX.out]; exact if_pos HBD.out)) rfl HBW8.out
      have HGD := kp hgood
      obtain ⟨xb, hxb⟩ : ∃ v, x.bad = v := ⟨_, rfl⟩
      obtain ⟨xd, hxd⟩ : ∃ v, x.done = v := ⟨_, rfl⟩
      rw [hxb, hxd] at hgood
      rw [hxb] at q2
      rw [hxd] at q20
      clear hxb hxd
      cases xb
      focus
       have gd : decide (xd < 0) = false := decide_eq_false (fun h => hgood ⟨rfl, h⟩)
      rotate_left 1
      focus
       skip
      rotate_left 1
      rotate_right 2
      iterate 2
       ·go_upto_region 46 with (fail)
        obtain ⟨w9, hw9⟩ : ∃ W, (w8.setCell ⟨g, j * 23 + 21, none⟩ (.int .i64 k)).setCell ⟨w7.heap.size, 3, none⟩ (.int .i64 (-1)) = W := ⟨_, rfl⟩
        rw [hw9]
        have hkj : Kept [g] w8 (w8.setCell ⟨g, j * 23 + 21, none⟩ (.int .i64 k)) := (Kept.refl _ _).setCell (p := ⟨g, j * 23 + 21, none⟩) (by simp) _
        have hrj := HRJ.out.set 21 (.int .i64 k) (by omega)
        have hcy : CallOk w8 w.heap.size (toldCall x k) q := HI8.out.ok _ (List.mem_of_getElem? HXQ.out)
        have hI8a := RefI.call_set (y := toldCall x k) (q := q) (by rw [HM.out]; exact HI8.out) HXQ.out hrj rfl hcy hkj
        have hk9 : Kept [w7.heap.size] (w8.setCell ⟨g, j * 23 + 21, none⟩ (.int .i64 k)) w9 := by rw [<- hw9]; exact (Kept.refl _ _).setCell (p := ⟨w7.heap.size, 3, none⟩) (by simp) _
        have HI9 := kp (hI8a.other hk9 (fun e => hng7 (by cases e; rfl)) (by omega) (by omega))
        have HB9 := kp (HBW8.out.trans ((hkj.below (Nat.le_of_lt hwl8) (fun b hb => by simp at hb; omega)).trans (hk9.below (by have := hkj.size; omega) (fun b hb => by simp at hb; omega))))
        have HX89 := kp (show RowL w9 w7.heap.size 117 [.bool true, .int .i64 ses, .int .i64 num, .int .i64 (-1)] by rw [<- hw9]; exact (HX8.out.kept hkj (by simp; omega)).set 3 _)
        have HX79 := kp ((HX78.out.kept hkj (by simp; omega)).kept hk9 (by simp; omega))
        have b19 := HX79.out.cell HL1.out
        have HC89 := kp HX89.out.cells
        obtain ⟨gm, hgm, hgv⟩ := HI9.out.map
        have HGM := kp hgm
        have hwl9 : w.heap.size <= w9.heap.size := by have := hkj.size; have := hk9.size; omega
        clear hgm hgv hkj hrj hcy hI8a hk9 hw9 q2 q20 q21 z21 f3 b1 a1 a2 a3 c7
        go_wp2_with (first
         | ((with_reducible refine wpList_load_agg (o := ⟨some 180, _, _, _, _, _⟩) rfl 117 _ rfl ⟨w7.heap.size, 0, none⟩ ?_ [.bool true, .int .i64 ses, .int .i64 num, .int .i64 (-1)] _ HC89.out Tryz.underlying117 rfl (conn_sizeL _ _ _ _) ?_); (· rfl))
         | ((with_reducible refine wpList_map_update (o := ⟨none, _, _, _, _, _⟩) rfl 115 3 117 _ _ _ rfl w.heap.size d.step.c (.agg #[.bool true, .int .i64 ses, .int .i64 num, .int .i64 (-1)]) ?_ ?_ ?_ _ HGM.out ?_ ?_ ?_); (· rfl); (· rfl); (· rfl); (· exact Tryz.underlying115); (· kernel_rfl); intro w15 hk9 hm9; have HK9 := kp hk9; have HM9 := kp hm9; clear hk9 hm9))
        have hput := HI9.out.put (g := fun _ => none) (k := d.step.c) (c := some ⟨ses, num, none⟩) rfl HK9.out HM9.out
        rw [List.length_set, HM.out] at hput
        have HI15 := kp hput
        have HB15 := kp (HB9.out.trans (HK9.out.below hwl9 (fun b hb => by simp at hb; omega)))
        clear b19 hput
        go_roundw
        case rel => exact ⟨k + 1, _, _, by go_num, by omega, HYES.out _ (by rw [HRD.out]; unfold microOf; rw [HC.out]; refine (if_neg HNOR.out).trans ((if_neg M3.out).trans ((if_pos MM.out).trans ?_)); simp only [HSX.out]; exact if_neg HGD.out), HI15.out, rfl, HB15.out⟩
        case measure => simp [intOf]; omega
    have M4 := kp m4
    have gm4 : (d.micro == 4) = false := by simpa using m4
    clear m4
    have HC8C := kp HX8.out.cells
    obtain ⟨gm, hgm, hgv⟩ := HI8.out.map
    have HGM := kp hgm
    have HAA := kp ha
    clear hgm hgv a1 a2 a3 ha
    go_wp2_with (first
     | ((with_reducible refine wpList_load_agg (o := ⟨some 180, _, _, _, _, _⟩) rfl 117 _ rfl ⟨w7.heap.size, 0, none⟩ ?_ [.bool true, .int .i64 ses, .int .i64 num, .int .i64 a] _ HC8C.out Tryz.underlying117 rfl (conn_sizeL _ _ _ _) ?_); (· rfl))
     | ((with_reducible refine wpList_map_update (o := ⟨none, _, _, _, _, _⟩) rfl 115 3 117 _ _ _ rfl w.heap.size d.step.c (.agg #[.bool true, .int .i64 ses, .int .i64 num, .int .i64 a]) ?_ ?_ ?_ _ HGM.out ?_ ?_ ?_); (· rfl); (· rfl); (· rfl); (· exact Tryz.underlying115); (· kernel_rfl); intro w15 hk9 hm9; have HK9 := kp hk9; have HM9 := kp hm9; clear hk9 hm9))
    have hput := HI8.out.put (g := fun _ => none) (k := d.step.c) (c := some ⟨ses, num, at_⟩) (by rw [<- HAA.out]; rfl) HK9.out HM9.out
    rw [St.put_same HC.out] at hput
    have HI15 := kp hput
    have HB15 := kp (HBW8.out.trans (HK9.out.below (Nat.le_of_lt hwl8) (fun b hb => by simp at hb; omega)))
    clear b1 c7 hput
    go_roundw
    case rel => exact ⟨k + 1, _, L, by go_num, by omega, HYES.out _ (by rw [HRD.out]; unfold microOf; rw [HC.out]; exact (if_neg HNOR.out).trans ((if_neg M3.out).trans (if_neg M4.out))), HI15.out, rfl, HB15.out⟩
    case measure => simp [intOf]; omega
  ·obtain rfl : k = n := by omega
   have hg2 : decide ((k : Int) < (k : Int)) = false := by simp
   have hrun2 : runOf ds 0 st0 = some s := by
    have := HRUN.out
    rwa [List.take_of_length_le (by have := HN.out; omega)] at this
   have HRES := kp (ofRes_yes HNL.out hrun2)
   have hown := HI.out.own
   obtain ⟨A', c', e', hcals⟩ := cals_own hown (fun x hx => (HI.out.ok x hx).mono HI.out.hlim)
   rw [HM.out] at e'
   rw [HI.out.calls] at hcals
   cases e'
   have HCALS := kp hcals
   clear hrun2 hown hcals
   go_wp2_with fail
   go_ret2
   refine .ok (A := A1) (c := c1) HRES.out ?_ HCALS.out HB.out
   rw [HML.out]
   rfl
end Go.Proofs.YtnjhpgmbfblgaaaGreat.Ord
