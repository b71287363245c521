/- An argument that is a slice of Did, opened with sizes; Walk of the law HistoryOf where it makes the trace; HistoryOf: for any steps that were done, and any number of zero steps, the law answers true: its walk (law3_plain, law3_made), lifted to the given statement. -/
import Derived.Test.YtnjhpgmbfblgaaaGreatMH4
import Derived.Test.YtnjhpgmbfblgaaaGreatQ2
import Derived.Test.YtnjhpgmbfblgaaaGreatY3a
import Derived.Test.YtnjhpgmbfblgaaaGreatY3b
import Derived.Test.YtnjhpgmbfblgaaaGreatY3c
namespace Go.Proofs.YtnjhpgmbfblgaaaGreat.Ord
open Go.ChangeShapes Go.WideShapes Go.ChangeAt Go.RowKit Go.Deep
set_option linter.unusedVariables false
set_option linter.unusedSimpArgs false
section
variable {H : Type} {enc : TypeId × Value -> H} {w : World} {base : Nat} {spare : Nat -> Bool} {held : Bool}
theorem open_didS {fuel : Nat} {cs : List Value} {x : DataW H × List MemPlace} (h : DataW.trod enc Tryz.prog w base spare held fuel 42 cs = some x) (hK : ∀ n ∈ x.1.weights Tryz.prog 42, n <= big) : ∃ (d : DidR) (p : DidV), cs = didC d p /\ DidOk w w.heap.size d p /\ CmdSz d.cmd /\ RespSz d.resp := by
 obtain ⟨hll, hall⟩ := leaves_specS (K := big) 6 42 _ leaves51 _ _ _ h hK
 have hll : cs.length = 25 := hll
 obtain ⟨n0, h0, g0⟩ := leaf_int Tryz.underlying25 (hall 0 25 rfl).leaf
 obtain ⟨n1, h1, g1⟩ := leaf_int Tryz.underlying3 (hall 1 3 rfl).leaf
 obtain ⟨n2, h2, g2⟩ := leaf_int Tryz.underlying3 (hall 2 3 rfl).leaf
 obtain ⟨n3, fu3, y3, h3, _, ht3, hw3⟩ := hall 3 26 rfl
 obtain ⟨xs3, k3, g3⟩ := open_datS ht3 hw3
 obtain ⟨n4, h4, g4⟩ := leaf_int Tryz.underlying29 (hall 4 29 rfl).leaf
 obtain ⟨n5, h5, g5⟩ := leaf_int Tryz.underlying3 (hall 5 3 rfl).leaf
 obtain ⟨n6, fu6, y6, h6, _, ht6, hw6⟩ := hall 6 26 rfl
 obtain ⟨xs6, k6, g6⟩ := open_datS ht6 hw6
 obtain ⟨n7, h7, g7⟩ := leaf_int Tryz.underlying30 (hall 7 30 rfl).leaf
 obtain ⟨n8, h8, g8⟩ := leaf_int Tryz.underlying31 (hall 8 31 rfl).leaf
 obtain ⟨n9, h9, g9⟩ := leafS_str Tryz.underlying9 (hall 9 9 rfl)
 obtain ⟨n10, fu10, y10, h10, _, ht10, hw10⟩ := hall 10 32 rfl
 obtain ⟨xs10, k10, g10⟩ := open_strsVS ht10 hw10
 obtain ⟨n11, fu11, y11, h11, _, ht11, hw11⟩ := hall 11 26 rfl
 obtain ⟨xs11, k11, g11⟩ := open_datS ht11 hw11
 obtain ⟨n12, fu12, y12, h12, _, ht12, hw12⟩ := hall 12 32 rfl
 obtain ⟨xs12, k12, g12⟩ := open_strsVS ht12 hw12
 obtain ⟨n13, h13, g13⟩ := leaf_int Tryz.underlying34 (hall 13 34 rfl).leaf
 obtain ⟨n14, h14, g14⟩ := leaf_int Tryz.underlying33 (hall 14 33 rfl).leaf
 obtain ⟨n15, h15, g15⟩ := leafS_str Tryz.underlying9 (hall 15 9 rfl)
 obtain ⟨n16, h16, g16⟩ := leafS_str Tryz.underlying9 (hall 16 9 rfl)
 obtain ⟨n17, h17, g17⟩ := leafS_str Tryz.underlying9 (hall 17 9 rfl)
 obtain ⟨n18, h18, g18⟩ := leaf_int Tryz.underlying31 (hall 18 31 rfl).leaf
 obtain ⟨n19, h19, g19⟩ := leaf_int Tryz.underlying29 (hall 19 29 rfl).leaf
 obtain ⟨n20, fu20, y20, h20, _, ht20, hw20⟩ := hall 20 37 rfl
 obtain ⟨xs20, k20, g20⟩ := open_itemsVS ht20 hw20
 obtain ⟨n21, h21, g21⟩ := leaf_int Tryz.underlying33 (hall 21 33 rfl).leaf
 obtain ⟨n22, h22, g22⟩ := leaf_int Tryz.underlying3 (hall 22 3 rfl).leaf
 obtain ⟨n23, fu23, y23, h23, _, ht23, hw23⟩ := hall 23 38 rfl
 obtain ⟨xs23, k23, g23⟩ := open_numsVS ht23
 obtain ⟨n24, h24, g24⟩ := leaf_int Tryz.underlying34 (hall 24 34 rfl).leaf
 match cs, hll, h0, h1, h2, h3, h4, h5, h6, h7, h8, h9, h10, h11, h12, h13, h14, h15, h16, h17, h18, h19, h20, h21, h22, h23, h24 with
 | [a0, a1, a2, a3, a4, a5, a6, a7, a8, a9, a10, a11, a12, a13, a14, a15, a16, a17, a18, a19, a20, a21, a22, a23, a24], _, h0, h1, h2, h3, h4, h5, h6, h7, h8, h9, h10, h11, h12, h13, h14, h15, h16, h17, h18, h19, h20, h21, h22, h23, h24 =>
  simp at h0 h1 h2 h3 h4 h5 h6 h7 h8 h9 h10 h11 h12 h13 h14 h15 h16 h17 h18 h19 h20 h21 h22 h23 h24
  subst h0 h1 h2 h3 h4 h5 h6 h7 h8 h9 h10 h11 h12 h13 h14 h15 h16 h17 h18 h19 h20 h21 h22 h23 h24
  exact ⟨⟨⟨n0, n1, n2, xs3⟩, n4, n5, xs6, n7, ⟨n8, n9, xs10, xs11, xs12, n13, n14, n15, n16, n17⟩, ⟨n18, n19, xs20, n21, n22, xs23⟩, n24⟩, ⟨_, _, _, _, _, _, _⟩, rfl, ⟨k3, k6, ⟨k10, k11, k12⟩, k20, k23⟩, ⟨g9, g10, g11, g12, g15, g16, g17⟩, fun y hy => (g20 y hy).2.1⟩
def noDid : DidR × DidV := (⟨⟨0, 0, 0, []⟩, 0, 0, [], 0, ⟨0, ⟨#[]⟩, [], [], [], 0, 0, ⟨#[]⟩, ⟨#[]⟩, ⟨#[]⟩⟩, ⟨0, 0, [], 0, 0, []⟩, 0⟩, ⟨undef, undef, undef, undef, undef, undef, undef⟩)
theorem open_didsS {fuel : Nat} {A : Option Addr} {len cap : Nat} {y : DataW H × List MemPlace} (hf : DataW.trod enc Tryz.prog w base spare held fuel 22 [.slice A len cap] = some y) (hK : ∀ n ∈ y.1.weights Tryz.prog 22, n <= big) : ∃ L : List (DidR × DidV), L.length = len /\ len <= maxLen /\ RowD w w.heap.size A L /\ ∀ x ∈ L, CmdSz x.1.cmd /\ RespSz x.1.resp := by
 rcases open_slice Tryz.underlying22 hf with ⟨hcs, _⟩ | ⟨a, l, c, m, n, D, Pl, hcs, _, hl, hm, hmm, hx, hi⟩
 ·simp at hcs
  obtain ⟨rfl, rfl, rfl⟩ := hcs
  exact ⟨[], rfl, by unfold maxLen; omega, fun i r hi => by simp at hi, by simp⟩
 ·simp at hcs
  obtain ⟨rfl, rfl, rfl⟩ := hcs
  have hC : Tryz.prog.cellsOf 42 = 25 := by kernel_rfl
  rw [hC] at hi hx
  have hlm : len <= m := by rw [hmm]; split <;> omega
  have key : ∀ i, ∃ r : DidR × DidV, i < len -> CellsAt w (a.add (i * 25)) (didC r.1 r.2) /\ DidOk w w.heap.size r.1 r.2 /\ CmdSz r.1.cmd /\ RespSz r.1.resp := fun i => by
   by_cases hlt : i < len
   ·obtain ⟨cs', hc, ht⟩ := hi i (by omega)
    obtain ⟨_, hcl, hat⟩ := World.cells?_some hc
    obtain ⟨r, v, e1, e2, e3⟩ := open_didS ht (fun q hq => hK q (by
     have hx1 := congrArg Prod.fst hx
     simp only at hx1
     rw [hx1]
     simp only [DataW.weights, Tryz.underlying22, List.mem_cons, List.mem_append]
     exact .inr (.inl (weightsAll_memK (List.mem_map.2 ⟨i, List.mem_range.2 hlt, rfl⟩) q hq))))
    refine ⟨(r, v), fun _ => ⟨fun j u hj => ?_, e2, e3⟩⟩
    have hj' : j < 25 := (List.getElem?_eq_some_iff.1 hj).1
    rw [hat j hj', e1, hj]
   ·exact ⟨noDid, fun h => absurd h hlt⟩
  obtain ⟨f, hf'⟩ := Classical.axiomOfChoice key
  refine ⟨(List.range len).map f, by simp, by omega, fun i r hi2 => ?_, fun r hr => by
   obtain ⟨i, hi3, rfl⟩ := List.mem_map.1 hr
   exact (hf' i (List.mem_range.1 hi3)).2.2⟩
  have hil : i < len := by
   have := (List.getElem?_eq_some_iff.1 hi2).1
   simpa using this
  obtain ⟨hca, hda, _⟩ := hf' i hil
  obtain ⟨hca0, _, _⟩ := hf' 0 (by omega)
  have h0 : w.cell? a = some (.int .i64 (f 0).1.step.k) := by
   have := hca0 0 (.int .i64 (f 0).1.step.k) rfl
   simpa [Addr.add] using this
  have hspot := World.cell?_spot h0
  have hblk := cell_lt h0
  obtain ⟨b, off, sp⟩ := a
  obtain rfl : sp = none := hspot
  have hr : r = f i := by
   rw [List.getElem?_map, List.getElem?_range hil] at hi2
   simpa using hi2.symm
  subst hr
  refine ⟨b, off, rfl, hblk, ?_, hda⟩
  have e : (⟨b, off, none⟩ : Addr).add (i * 25) = ⟨b, off + i * 25, none⟩ := by
   unfold Addr.add
   split <;> simp_all
  rw [e] at hca
  exact hca
end
end Go.Proofs.YtnjhpgmbfblgaaaGreat.Ord
namespace Go.Proofs.YtnjhpgmbfblgaaaGreat.Ord
set_option maxRecDepth 100000
set_option maxHeartbeats 16000000
open Go.RowKit
set_option linter.unusedVariables false
def zd : DidR × DidV := (⟨⟨0, 0, 0, []⟩, 0, 0, [], 0, cmd0, resp0, 0⟩, microV nilV nilV nilV nilV nilV)
theorem zd_ok (w : World) (B : Nat) : DidOk w B zd.1 zd.2 := ⟨datg_nil _ _, datg_nil _ _, cmdOk0 _ _, respOk0 _ _⟩
theorem rowD_made (w : World) (n : Nat) : RowD (w.alloc (.cells (madeCells (Value.agg (didC zd.1 zd.2).toArray).cells (n * 25)) 42)) (w.alloc (.cells (madeCells (Value.agg (didC zd.1 zd.2).toArray).cells (n * 25)) 42)).heap.size (some ⟨w.heap.size, 0, none⟩) (List.replicate n zd) := by
 intro i x hi
 have hil := (List.getElem?_eq_some_iff.1 hi).1
 rw [List.length_replicate] at hil
 rw [List.getElem?_replicate_of_lt hil] at hi
 cases hi
 refine ⟨w.heap.size, 0, rfl, by simp, fun j u hj => ?_, zd_ok _ _⟩
 have hj2 : j < 25 := (List.getElem?_eq_some_iff.1 hj).1
 rw [Addr.add_mid, Nat.zero_add]
 have hc : (Value.agg (didC zd.1 zd.2).toArray).cells = (didC zd.1 zd.2).toArray := rfl
 have hs : (didC zd.1 zd.2).toArray.size = 25 := rfl
 rw [hc]
 generalize didC zd.1 zd.2 = z at *
 simp only [World.cell?, heap_alloc_new, Option.isSome_none, Bool.false_eq_true, if_false]
 unfold madeCells
 rw [Array.getElem?_map, Array.getElem?_range, if_pos (by omega), hs]
 simp only [Option.map_some]
 rw [show (i * 25 + j) % 25 = j by omega]
 have : z.toArray[j]? = some u := by simpa using hj
 rw [getElem!_def, this]

theorem law3_made (A0 : Option Addr) (n0 c0 : Nat) (n : Nat) (w : World) (hlo : 4095 <= n) (hhi : n <= 4097) :
  Calls Tryz.prog 3 #[.slice A0 n0 c0, .int .i64 n] w (LawP w) := by
 have hn' : n <= 9223372036854775807 := by omega
 have hl : n <= maxLen := by unfold maxLen; omega
 have g1 : decide ((4095 : Int) <= (n : Int)) = true := decide_eq_true (by omega)
 have g2 : decide ((n : Int) <= 4097) = true := decide_eq_true (by omega)
 obtain ⟨L, hL⟩ : ∃ L, List.replicate n zd = L := ⟨_, rfl⟩
 obtain ⟨A, hAe⟩ : ∃ A : Option Addr, some ⟨w.heap.size, 0, none⟩ = A := ⟨_, rfl⟩
 have hrow := rowD_made w n
 have hB1 := below1 w (.cells (madeCells (Value.agg (didC zd.1 zd.2).toArray).cells (n * 25)) 42)
 rw [hL, hAe] at hrow
 have HN := kp (show L.length = n by rw [<- hL]; simp)
 have hz : ∀ x ∈ L, x = zd := fun x hx => by rw [<- hL] at hx; exact List.eq_of_mem_replicate hx
 have HS := kp (show ∀ x ∈ L, CmdSz x.1.cmd /\ RespSz x.1.resp from fun x hx => by
  rw [hz x hx]
  exact ⟨⟨by decide, fun y hy => by simp [zd, cmd0] at hy, by simp [zd, cmd0], fun y hy => by simp [zd, cmd0] at hy, by decide, by decide, by decide⟩, fun y hy => by simp [zd, resp0] at hy⟩)
 have HSM := kp (show 100 < n -> ∀ x ∈ L, Small x.1.cmd x.1.resp from fun _ x hx => by rw [hz x hx]; exact small0)
 obtain ⟨w1, hw1⟩ : ∃ W, w.alloc (.cells (madeCells (Value.agg (didC zd.1 zd.2).toArray).cells (n * 25)) 42) = W := ⟨_, rfl⟩
 rw [hw1] at hrow hB1
 have HA := kp hrow
 have HB1 := kp hB1
 have HW1 := kp hw1
 have HAE := kp hAe
 clear hrow hB1 hw1 hAe hL hz
 go_enter Tryz.func3, Tryz.ntmps3
 go_wp2_with ((with_reducible refine wpList_make_row (o := ⟨some 17, _, _, _, _, _⟩) rfl 22 _ _ rfl 42 _ 25 344 n Tryz.underlying22 q_info42 ?_ ?_ ?_ ?_ ?_); (· rfl); (· rfl); (· omega); (· omega); intro w4 hw4; obtain rfl : w1 = w4 := (HW1.out.symm.trans hw4.symm); clear hw4)
 rw [HAE.out]
 go_loopw [5] (fun s5 wr => ∃ k : Nat, k <= n /\ k <= 100 /\ s5 = .int .i64 k /\ Below w1.heap.size w1 wr /\ Hid (∀ i x, L[i]? = some x -> i < k -> Light x.1.cmd x.1.resp)) (fun j _ => n - (intOf j).toNat)
 case atStart => exact ⟨0, Nat.zero_le _, by omega, by go_num, Below.refl _ _, kp fun i x _ h => absurd h (by omega)⟩
 case round =>
  obtain ⟨k, hk, hk100, rfl, hb, HALL⟩ := hrel
  have HB := kp hb
  clear hb
  by_cases hlt : k < n /\ k < 100
  ·have hg2 : decide ((k : Int) < (n : Int)) = true := decide_eq_true (by omega)
   have hg3 : decide ((k : Int) < 100) = true := decide_eq_true (by omega)
   have hi1 : (k : Int) < (n : Int) := by omega
   have hk1 : k < L.length := by rw [HN.out]; exact hlt.1
   obtain ⟨x, hx⟩ : ∃ x, L[k] = x := ⟨_, rfl⟩
   have hxk := List.getElem?_eq_getElem hk1
   rw [hx] at hxk
   have hxs := HS.out x (List.mem_of_getElem? hxk)
   obtain ⟨b, off, rfl, hbB, hck, hok⟩ := (HA.out.up HB.out) k x hxk
   have HXK := kp hxk
   have hokd := hok.below (below_drewn (Below.refl _ _)) (Nat.le_refl _)
   have H16 := kp (heavy7 x.1.cmd x.1.resp x.2.vk x.2.vv x.2.vt x.2.vi x.2.vn wr.drew hokd.2.2.1 hokd.2.2.2 hxs.1 hxs.2)
   have k1 := did_cmd hck
   have k2 := did_resp hck
   have s1 : (Tryz.prog.info? 36).map (·.size) = some (cmdC x.1.cmd x.2.vk x.2.vv x.2.vt).length := cmd_sizeL _ _ _ _ _ _ _ _ _ _
   have s2 : (Tryz.prog.info? 40).map (·.size) = some (respC x.1.resp x.2.vi x.2.vn).length := resp_sizeL _ _ _ _ _ _
   clear hx hxk hxs hck hok hokd
   generalize cmdC x.1.cmd x.2.vk x.2.vv x.2.vt = l1 at *
   generalize respC x.1.resp x.2.vi x.2.vn = l2 at *
   have K1 := kp (show CellsAt wr.drew ⟨b, off + k * 25 + 8, none⟩ l1 from k1)
   have K2 := kp (show CellsAt wr.drew ⟨b, off + k * 25 + 18, none⟩ l2 from k2)
   have S1 := kp s1
   have S2 := kp s2
   have HBL := kp (show (⟨b, off + k * 25, none⟩ : Addr).block < wr.drew.heap.size from hbB)
   clear k1 k2 s1 s2
   go_upto_region 8 with (fail)
   refine wp_region_held_drew (S := fun W => CellsAt W ⟨b, off + k * 25 + 8, none⟩ l1 /\ CellsAt W ⟨b, off + k * 25 + 18, none⟩ l2) (by kernel_rfl) ⟨K1.out, K2.out⟩ (fun hS => ?_)
   have HS := kp hS
   clear hS
   refine takeQ (i := 0) (oi := ⟨some 32, .move (.tmp 0), 22, "law.go:91", #[], none⟩) (v := ?_) rfl (Or.inl ⟨by rfl, ?_⟩) HS.out ?_
   rotate_left 1
   ·intro w hw; go_simp; try with_reducible rfl
   simp only [Act.put, z1, z2, z3]
   refine takeQ (i := 1) (oi := ⟨some 33, .move (.tmp 5), 3, "law.go:91", #[], none⟩) (v := ?_) rfl (Or.inl ⟨by rfl, ?_⟩) HS.out ?_
   rotate_left 1
   ·intro w hw; go_simp; try with_reducible rfl
   simp only [Act.put, z1, z2, z3]
   refine takeQ (i := 2) (oi := ⟨some 34, .indexAddr 22 (.tmp 32) (.tmp 33), 0, "law.go:91", #[⟨0, .data⟩, ⟨1, .data⟩], none⟩) (v := ?_) rfl (Or.inl ⟨by rfl, ?_⟩) HS.out ?_
   rotate_left 1
   ·intro w hw; go_simp; try with_reducible rfl
   simp only [Act.put, z1, z2, z3]
   refine takeQ (i := 3) (oi := ⟨some 35, .fieldAddr 42 (.tmp 34) 5, 0, "law.go:91", #[⟨2, .data⟩], none⟩) (v := ?_) rfl (Or.inl ⟨by rfl, ?_⟩) HS.out ?_
   rotate_left 1
   ·intro w hw; go_simp; try with_reducible rfl
   simp only [Act.put, z1, z2, z3]
   refine takeQ (i := 4) (oi := ⟨some 36, .load 36 (.tmp 35), 36, "law.go:91", #[⟨3, .data⟩], none⟩) (v := .agg l1.toArray) rfl (yields_aggL rfl 36 _ rfl ⟨b, off + k * 25 + 8, none⟩ rfl l1 _ (fun W hW => hW.1) Tryz.underlying36 S1.out) HS.out ?_
   simp only [Act.put, z1, z2, z3]
   refine takeQ (i := 5) (oi := ⟨some 37, .move (.tmp 0), 22, "law.go:91", #[], none⟩) (v := ?_) rfl (Or.inl ⟨by rfl, ?_⟩) HS.out ?_
   rotate_left 1
   ·intro w hw; go_simp; try with_reducible rfl
   simp only [Act.put, z1, z2, z3]
   refine takeQ (i := 6) (oi := ⟨some 38, .move (.tmp 5), 3, "law.go:91", #[], none⟩) (v := ?_) rfl (Or.inl ⟨by rfl, ?_⟩) HS.out ?_
   rotate_left 1
   ·intro w hw; go_simp; try with_reducible rfl
   simp only [Act.put, z1, z2, z3]
   refine takeQ (i := 7) (oi := ⟨some 39, .indexAddr 22 (.tmp 37) (.tmp 38), 0, "law.go:91", #[⟨5, .data⟩, ⟨6, .data⟩], none⟩) (v := ?_) rfl (Or.inl ⟨by rfl, ?_⟩) HS.out ?_
   rotate_left 1
   ·intro w hw; go_simp; try with_reducible rfl
   simp only [Act.put, z1, z2, z3]
   refine takeQ (i := 8) (oi := ⟨some 40, .fieldAddr 42 (.tmp 39) 6, 0, "law.go:91", #[⟨7, .data⟩], none⟩) (v := ?_) rfl (Or.inl ⟨by rfl, ?_⟩) HS.out ?_
   rotate_left 1
   ·intro w hw; go_simp; try with_reducible rfl
   simp only [Act.put, z1, z2, z3]
   refine takeQ (i := 9) (oi := ⟨some 41, .load 40 (.tmp 40), 40, "law.go:91", #[⟨8, .data⟩], none⟩) (v := .agg l2.toArray) rfl (yields_aggL rfl 40 _ rfl ⟨b, off + k * 25 + 18, none⟩ rfl l2 _ (fun W hW => hW.2) Tryz.underlying40 S2.out) HS.out ?_
   simp only [Act.put, z1, z2, z3]
   refine wpAnyH_ready (rs := [10]) (by kernel_rfl) (by simp) ?_
   refine AllReadyH.cons (o := ⟨some 42, .call ⟨.value (.func 16), #[.tmp 36, .tmp 41], #[36, 40]⟩, 4, "law.go:91", #[⟨4, .data⟩, ⟨9, .data⟩], none⟩) rfl (fun K hK => ?_) (AllReadyH.nil)
   with_reducible refine step_call_any rfl 16 _ _ rfl #[.agg l1.toArray, .agg l2.toArray] ?_ Tryz.f16 Tryz.func16 f16_name f16_body (fun u w6 => ∃ t, u = .bool t /\ (t = false -> Light x.1.cmd x.1.resp) /\ Below wr.drew.heap.size wr.drew w6) ?_ ?_
   ·simp only [y1, y2, y3]; rfl
   ·exact H16.out.mono fun e w' ⟨t, h1, h2, h3⟩ => ⟨_, h1, t, rfl, h2, h3⟩
   rintro u w6 ⟨t, rfl, hlt, hb6⟩
   have HLT := kp hlt
   have HB6 := kp hb6
   clear hlt hb6
   have hS := And.intro (K1.out.below HB6.out HBL.out) (K2.out.below HB6.out HBL.out)
   refine hK.out _ _ hS (fun _ => ?_)
   clear hK K HS
   have HS := kp hS
   clear hS
   try simp only [Act.put, z1, z2, z3]
   refine wpAnyH_done (by kernel_rfl) ?_ _
   skip
   have HB6' := kp (HB.out.trans ((below_drewn (Below.refl _ _)).trans HB6.out |>.mono HB.out.size))
   cases t
   ·go_wp2_with fail
    go_roundw
    case rel => exact ⟨k + 1, by omega, by omega, by go_num, HB6'.out, kp fun i y hi hik => by (by_cases e : i = k; (subst e; rw [HXK.out] at hi; cases hi; exact HLT.out rfl); exact HALL.out i y hi (by omega))⟩
    case measure => simp [intOf]; omega
   ·go_wp2_with fail
    refine (known15 w6).mono ?_
    rintro e w7 ⟨rfl, hb7⟩
    have HB7 := kp (HB1.out.trans ((HB6'.out.trans (hb7.mono HB6'.out.size)).mono HB1.out.size))
    clear hb7
    go_wp2_with fail
    go_ret
    exact ⟨rfl, HB7.out⟩
  ·have hsm : ∀ x ∈ L, Small x.1.cmd x.1.resp := fun x hx => by
    by_cases h100 : 100 < n
    ·exact HSM.out h100 x hx
    ·obtain ⟨i, hi⟩ := List.mem_iff_getElem?.1 hx
     have := (List.getElem?_eq_some_iff.1 hi).1
     rw [HN.out] at this
     exact (HALL.out i x hi (by omega)).small
   have hg23 : (decide ((k : Int) < (n : Int)) = true /\ (k : Int) = 100) ∨ decide ((k : Int) < (n : Int)) = false := by
    by_cases h : k < n
    ·exact .inl ⟨decide_eq_true (by omega), by omega⟩
    ·exact .inr (decide_eq_false (by omega))
   have HSML := kp hsm
   have HWR := kp (HA.out.up HB.out)
   clear hsm hlt
   obtain ⟨w2, rfl⟩ : ∃ W, W = wr := ⟨_, rfl⟩
   have hll : (L.map (·.1)).length = n := by rw [List.length_map]; exact HN.out
   have H17 := kp (of8 (L.map (·.1)) A n n w2 hll hl HWR.out.dids (fun d hd => by obtain ⟨x, hx, rfl⟩ := List.mem_map.1 hd; exact HSML.out x hx))
   have H18 := kp (fun W (hW : Below w2.heap.size w2 W) => of18 (L.map (·.1)) A n n W hll hl (HWR.out.up hW).dids)
   clear hll
   generalize L.map (·.1) = ds at *
   clear hk hk100 HALL
   generalize (k : Int) = kk at *
   rcases hg23 with ⟨hg2, rfl⟩ | hg2
   all_goals
    go_wp2_with fail
    refine H17.out.mono ?_
    rintro e w3 ⟨A3, c3, rfl, hc3, hb3⟩
    have HC3 := kp hc3
    have HB3 := kp hb3
    clear hc3 hb3
    go_wp2_with fail
    refine (H18.out w3 HB3.out).mono ?_
    rintro e w4 ⟨A4, c4, rfl, hc4, hb4⟩
    have HC4 := kp hc4
    have HB4 := kp hb4
    clear hc4 hb4
    have hlen : (ofRes ds).1.length <= maxLen := ofRes_len ds
    have H19 := kp (same10 A3 A4 _ _ c3 c4 (ofRes ds).1 (ofRes ds).1 w4 rfl rfl hlen hlen (HC3.out.up HB4.out) HC4.out)
    rw [callsEq_self] at H19
    have K15 := kp (fun W => known15 W)
    clear hlen
    generalize (ofRes ds).1.length = m at *
    generalize (ofRes ds).2 = z at *
    go_wp2_with fail
    refine H19.out.mono ?_
    rintro e w5 ⟨rfl, hb5⟩
    have HB5 := kp hb5
    clear hb5
    go_wp2_with fail
    refine (K15.out w5).mono ?_
    rintro e w7 ⟨rfl, hb7⟩
    have HB7 := kp hb7
    clear hb7
    go_wp2_with fail
    go_ret
    have b3 := HB3.out.size
    have b4 := HB4.out.size
    have b5 := HB5.out.size
    exact ⟨rfl, HB1.out.trans ((HB.out.trans ((HB3.out.trans ((HB4.out.trans ((HB5.out.trans (HB7.out.mono b5)).mono b4)).mono b3)).mono HB.out.size)).mono HB1.out.size)⟩
end Go.Proofs.YtnjhpgmbfblgaaaGreat.Ord
namespace Go.Proofs.YtnjhpgmbfblgaaaGreat.Ord
set_option maxRecDepth 100000
set_option maxHeartbeats 16000000
open Go.ChangeShapes Go.WideShapes Go.ChangeAt Go.RowKit Go.Deep
set_option linter.unusedVariables false
theorem historyOf_lifted (os : Os) (started : os.Started) (H : Type) (enc : TypeId × Value -> H) :
  ReturnsInHanded {} Tryz.checked os 3 .any (Rows.historyOfSpec.pre6 enc Tryz.prog Tryz.f3 Rows.historyOfRow.domain false) (Rows.historyOfSpec.post enc Tryz.prog Tryz.f3 false true false false) := by
 refine returnsInHanded_of_change_sized (C := Tryz.checked) own started (by kernel_rfl) Tryz.func3
  (ChangeSpec.witness6 (enc := enc) (C := Tryz.checked) false ⟨#[], #[.slice none 0 0, .int .i64 0], []⟩ 8 (by kernel_rfl) (by kernel_rfl) (by kernel_rfl) (by kernel_rfl)) ?_
 intro W base args ds gs before hval0 hW hcnd hsz0 _
 have hsz : (DataW.weightsEach Tryz.prog (Tryz.f3.params.toList ++ Rows.historyOfSpec.plain.varTypes Tryz.prog) (ds ++ gs)).all (· <= reachBytes) = true := hsz0
 have hval : ∀ (j : Nat) t v, Tryz.f3.params[j]? = some t -> args[j]? = some v -> Value.okWide Tryz.prog W .any base t v := hval0
 have hW' := hW
 obtain ⟨p, q, hA0, hV, rfl, hfz, hnd⟩ := hW
 have hTA : DataW.TrodAll enc Tryz.prog W 0 (fun _ => true) true Tryz.f3.params.toList args.toList ds p := hA0
 rw [Tryz.params3] at hTA hval hsz
 obtain ⟨v0, vs0, d0, ds0, p0, q0, hargs, rfl, rfl, h0, r0⟩ := trodAll_cons hTA
 obtain ⟨v1, vs1, d1, ds1, p1, q1, rfl, rfl, rfl, h1, r1⟩ := trodAll_cons r0
 obtain ⟨rfl, rfl, rfl⟩ := trodAll_nil r1
 obtain rfl : args = #[v0, v1] := by cases args; simp_all
 obtain ⟨rfl, rfl⟩ := trodVars_none hV
 obtain ⟨a0, len0, cap0, rfl⟩ := okWide_slice Tryz.underlying22 (hval 0 22 v0 rfl rfl)
 have k0 := h0
 have lt0 : ∀ x ∈ p0, x.block < W.heap.size := by obtain ⟨m, hm⟩ := k0; exact DataW.trod_lt m _ _ _ hm
 have z0 : ∀ n ∈ d0.weights Tryz.prog 22, n <= big := fun n hn => by
  have h1 := List.all_eq_true.1 hsz n (DataW.weights_mem_each (j := 0) (t := 22) (d := d0) rfl rfl n hn)
  have h2 : n <= reachBytes := of_decide_eq_true h1
  have h3 := reachBytes_lt
  unfold big; omega
 obtain ⟨fu0, hf0⟩ := h0
 obtain ⟨L, hL, hm0, hRow, hG⟩ := open_didsS hf0 z0
 obtain ⟨a1, rfl, rfl, rfl, w1⟩ := open_int Tryz.underlying3 (hval 1 3 v1 rfl rfl) h1
 clear hA0 hval0
 refine ((by
  by_cases hm : 4095 <= a1 /\ a1 <= 4097
  ·obtain ⟨n, rfl⟩ : ∃ n : Nat, a1 = (n : Int) := ⟨a1.toNat, by omega⟩
   exact law3_made a0 len0 cap0 n W (by omega) (by omega)
  ·exact law3_plain L a0 len0 cap0 a1 W hL hm0 hRow hG hm : Calls Tryz.prog 3 #[.slice a0 len0 cap0, .int .i64 a1] W (LawP W))).mono fun e W' ⟨he, bel⟩ => ?_
 subst he
 exact ⟨_, rfl, _, _, _, [], _, [], hW', trodAll_mk1 (shut_bool Tryz.underlying4 _), (trodAll_cons_mk (Below.trod laidOut (by kernel_rfl) (of_decide_eq_true (by kernel_rfl)) k0 bel lt0) (trodAll_cons_mk (shut_int Tryz.underlying3 w1) trodAll_mk0)), rfl, bel.frame _, fun h => by cases h⟩
theorem and_tt {a b : Bool} (h : a = true) (k : b = true) : (a && b) = true := by rw [h, k]; rfl
theorem historyOf_joined : joinedFacts Tryz.checked.prog 3 Tryz.f3 Rows.historyOfSpec Rows.historyOfRow = true := by
 unfold joinedFacts
 exact and_tt (and_tt (and_tt (and_tt (and_tt (and_tt (and_tt (and_tt (and_tt (and_tt (and_tt (and_tt (and_tt (and_tt (and_tt (and_tt (and_tt (and_tt (and_tt (and_tt (and_tt (and_tt (and_tt (and_tt (and_tt (and_tt (and_tt (and_tt (and_tt (and_tt (and_tt hO0 hO1) hO2) hO3) hO4) hO5) hO6) hO7) hO8) hO9) hO10) hO11) hO12) hO13) hO14) hO15) hO16) hO17) hO18) hO19) hO20) hO21) hO22) hO23) hO24) hO25) hO26) hO27) hO28) hO29) hO30) hO31
theorem historyOf_proved : Rows.HistoryOfSaid :=
 OpenClaim.holds_of_wide 3 Tryz.f3 rfl rfl rfl rfl rfl rfl rfl ⟨rfl, rfl, rfl, rfl, rfl⟩ rfl rfl rfl rfl rfl historyOf_named Tryz.func3 historyOf_joined
  (of_decide_eq_true (by kernel_rfl)) (by unfold Func.isWrapper; first | (rw [if_pos (by decide +kernel)]; kernel_rfl) | (rw [if_neg (by decide +kernel)]; exact ⟨rfl, rfl⟩))
  (fun os started H enc _ => historyOf_lifted os started H enc)
end Go.Proofs.YtnjhpgmbfblgaaaGreat.Ord
