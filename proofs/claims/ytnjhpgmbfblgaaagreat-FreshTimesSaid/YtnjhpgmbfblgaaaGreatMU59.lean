/- What the walks of the History laws share: the ranges of what arguments hold; An argument. -/
import Derived.Test.YtnjhpgmbfblgaaaGreatMK8
import Derived.Test.YtnjhpgmbfblgaaaGreatMP1
import Derived.Test.YtnjhpgmbfblgaaaGreatMH3
import Derived.Test.YtnjhpgmbfblgaaaGreatMR2
import Derived.Shelf.SlSortCmp.Whole1
import Derived.Shelf.SlGeneric
import Derived.Test.YtnjhpgmbfblgaaaGreatProg
import Derived.Test.YtnjhpgmbfblgaaaGreatMS6
set_option linter.unusedVariables false
set_option linter.unusedSimpArgs false
namespace Go.Proofs.YtnjhpgmbfblgaaaGreat.Ord
open Go.RowKit
structure Rng (x : CallR) : Prop where
 bytes : ∀ y ∈ x.cmd.val, 0 <= y /\ y < 256
 life : 0 <= x.cmd.life /\ x.cmd.life < 18446744073709551616
 cver : 0 <= x.cmd.ver /\ x.cmd.ver < 18446744073709551616
 rbytes : ∀ y ∈ x.resp.items, ∀ z ∈ y.val, 0 <= z /\ z < 256
 ver : 0 <= x.resp.ver /\ x.resp.ver < 18446744073709551616
 nums : ∀ y ∈ x.resp.nums, 0 <= y /\ y < 18446744073709551616
 vers : ∀ y ∈ x.resp.items, 0 <= y.ver /\ y.ver < 18446744073709551616
 deads : ∀ y ∈ x.resp.items, 0 <= y.dead /\ y.dead < 18446744073709551616
 count : -9223372036854775808 <= x.resp.count /\ x.resp.count < 9223372036854775808
 marks : ∀ y ∈ x.resp.items, -9223372036854775808 <= y.mark /\ y.mark < 9223372036854775808
 err : -9223372036854775808 <= x.resp.err /\ x.resp.err < 9223372036854775808
 op : -9223372036854775808 <= x.resp.op /\ x.resp.op < 9223372036854775808
theorem callS_of {x : CallR} (h : Light x.cmd x.resp) (r : Rng x) : CallS x :=
 ⟨⟨h.nkeys, h.ntags, h.key, h.val, h.tag, h.pre, h.chi, h.keys, h.tags, r.bytes, r.life, r.cver⟩,
  ⟨h.nitems, h.nnums, h.vals, r.rbytes, r.ver, r.nums, r.vers, r.deads, r.count, r.marks, r.err, r.op⟩⟩
noncomputable def vb (L : List (CallR × CallV)) : Bool := @decide (ValidP singleB (L.map (·.1))) (Classical.propDecidable _)
def LawP (w : World) (e : Ending) (w' : World) : Prop := e = .returned (.bool true) /\ Bw w w'
end Go.Proofs.YtnjhpgmbfblgaaaGreat.Ord
namespace Go.Proofs.YtnjhpgmbfblgaaaGreat.Ord
open Go.ChangeShapes Go.WideShapes Go.ChangeAt Go.RowKit Go.Deep
section
variable {H : Type} {enc : TypeId × Value -> H} {w : World} {base : Nat} {spare : Nat -> Bool} {held : Bool}
theorem open_callS {fuel : Nat} {cs : List Value} {x : DataW H × List MemPlace} (h : DataW.trod enc Tryz.prog w base spare held fuel 52 cs = some x) (hK : ∀ n ∈ x.1.weights Tryz.prog 52, n <= big) : ∃ (d : CallR) (p : CallV), cs = callC d p /\ CallOk w w.heap.size d p /\ Rng d /\ CmdSz d.cmd /\ RespSz d.resp := by
 obtain ⟨hll, hall⟩ := leaves_specS (K := big) 6 52 _ leaves52 _ _ _ h hK
 have hll : cs.length = 23 := hll
 obtain ⟨n0, h0, g0⟩ := leaf_int Tryz.underlying3 (hall 0 3 rfl).leaf
 obtain ⟨n1, h1, g1⟩ := leaf_int Tryz.underlying3 (hall 1 3 rfl).leaf
 obtain ⟨n2, h2⟩ := kS_ Tryz.underlying4 (hall 2 4 rfl).leaf
 obtain ⟨n3, h3, g3⟩ := leaf_int Tryz.underlying31 (hall 3 31 rfl).leaf
 obtain ⟨n4, h4, g4⟩ := dn_ Tryz.underlying9 (hall 4 9 rfl)
 obtain ⟨n5, fu5, y5, h5, _, ht5, hw5⟩ := hall 5 32 rfl
 obtain ⟨xs5, k5, g5⟩ := et_ ht5 hw5
 obtain ⟨n6, fu6, y6, h6, _, ht6, hw6⟩ := hall 6 26 rfl
 obtain ⟨xs6, k6, g6⟩ := gT_ ht6 hw6
 obtain ⟨n7, fu7, y7, h7, _, ht7, hw7⟩ := hall 7 32 rfl
 obtain ⟨xs7, k7, g7⟩ := et_ ht7 hw7
 obtain ⟨n8, h8, g8⟩ := leaf_int Tryz.underlying34 (hall 8 34 rfl).leaf
 obtain ⟨n9, h9, g9⟩ := leaf_int Tryz.underlying33 (hall 9 33 rfl).leaf
 obtain ⟨n10, h10, g10⟩ := dn_ Tryz.underlying9 (hall 10 9 rfl)
 obtain ⟨n11, h11, g11⟩ := dn_ Tryz.underlying9 (hall 11 9 rfl)
 obtain ⟨n12, h12, g12⟩ := dn_ Tryz.underlying9 (hall 12 9 rfl)
 obtain ⟨n13, h13, g13⟩ := leaf_int Tryz.underlying31 (hall 13 31 rfl).leaf
 obtain ⟨n14, h14, g14⟩ := leaf_int Tryz.underlying29 (hall 14 29 rfl).leaf
 obtain ⟨n15, fu15, y15, h15, _, ht15, hw15⟩ := hall 15 37 rfl
 obtain ⟨xs15, k15, g15⟩ := gS_ ht15 hw15
 obtain ⟨n16, h16, g16⟩ := leaf_int Tryz.underlying33 (hall 16 33 rfl).leaf
 obtain ⟨n17, h17, g17⟩ := leaf_int Tryz.underlying3 (hall 17 3 rfl).leaf
 obtain ⟨n18, fu18, y18, h18, _, ht18, hw18⟩ := hall 18 38 rfl
 obtain ⟨xs18, k18, g18⟩ := h2_ ht18
 obtain ⟨n19, h19, g19⟩ := leaf_int Tryz.underlying3 (hall 19 3 rfl).leaf
 obtain ⟨n20, h20, g20⟩ := leaf_int Tryz.underlying3 (hall 20 3 rfl).leaf
 obtain ⟨n21, h21, g21⟩ := leaf_int Tryz.underlying3 (hall 21 3 rfl).leaf
 obtain ⟨n22, h22, g22⟩ := leaf_int Tryz.underlying34 (hall 22 34 rfl).leaf
 match cs, hll, h0, h1, h2, h3, h4, h5, h6, h7, h8, h9, h10, h11, h12, h13, h14, h15, h16, h17, h18, h19, h20, h21, h22 with
 | [a0, a1, a2, a3, a4, a5, a6, a7, a8, a9, a10, a11, a12, a13, a14, a15, a16, a17, a18, a19, a20, a21, a22], _, h0, h1, h2, h3, h4, h5, h6, h7, h8, h9, h10, h11, h12, h13, h14, h15, h16, h17, h18, h19, h20, h21, h22 =>
  simp at h0 h1 h2 h3 h4 h5 h6 h7 h8 h9 h10 h11 h12 h13 h14 h15 h16 h17 h18 h19 h20 h21 h22
  subst h0 h1 h2 h3 h4 h5 h6 h7 h8 h9 h10 h11 h12 h13 h14 h15 h16 h17 h18 h19 h20 h21 h22
  exact ⟨⟨n0, n1, n2, ⟨n3, n4, xs5, xs6, xs7, n8, n9, n10, n11, n12⟩, ⟨n13, n14, xs15, n16, n17, xs18⟩, n19, n20, n21, n22⟩, ⟨_, _, _, _, _⟩, rfl, ⟨⟨k5, k6, k7⟩, k15, k18⟩, ⟨k6.1, wf_u64 g8, wf_u64 g9, fun y hy => (g15 y hy).1, wf_u64 g16, g18, fun y hy => (g15 y hy).2.2.1, fun y hy => (g15 y hy).2.2.2.1, it_ g17, fun y hy => (g15 y hy).2.2.2.2, it_ g14, it_ g13⟩, ⟨g4, g5, g6, g7, g10, g11, g12⟩, fun y hy => (g15 y hy).2.1⟩
end
section
variable {H : Type} {enc : TypeId × Value -> H} {w : World} {base : Nat} {spare : Nat -> Bool} {held : Bool}
end
end Go.Proofs.YtnjhpgmbfblgaaaGreat.Ord
namespace Go.Proofs.YtnjhpgmbfblgaaaGreat.Ord
open Go.RowKit
def before (c c' : CallC) : Bool :=
 if c.d < 0 ∨ c'.d < 0 then false else if c.s = c'.s /\ c.n < c'.n then true else decide (0 <= c.t /\ c.t < c'.a)
set_option maxRecDepth 100000
set_option maxHeartbeats 16000000
def dD_ (l : List CallC) (k : Nat) : List Int := ((List.range k).filter fun i => match l[i]? with | some c => decide (0 <= c.d) | none => false).map Int.ofNat
def jQ_ (l : List CallC) : List Int := dD_ l l.length
theorem lj_ (l : List CallC) : dD_ l l.length = jQ_ l := rfl
theorem doneK_le (l : List CallC) (k : Nat) : (dD_ l k).length <= k := by
 unfold dD_; rw [lM_]; exact lT (List.length_filter_le _ _) (by simp)
theorem li_ (l : List CallC) (k : Nat) (c : CallC) (h : l[k]? = some c) (hd : 0 <= c.d) : dD_ l (k + 1) = dD_ l k ++ [(k : Int)] := by
 simp [dD_, List.range_succ, List.filter_append, h, hd]
theorem doneK_no (l : List CallC) (k : Nat) (c : CallC) (h : l[k]? = some c) (hd : c.d < 0) : dD_ l (k + 1) = dD_ l k := by
 have : ¬ 0 <= c.d := by omega
 simp [dD_, List.range_succ, List.filter_append, h, this]
theorem done_any (A : Option Addr) (l : List CallC) (cap : Nat) (w : World) (hl : l.length <= 5000) (hA : CallsAt w w.heap.size A l) :
  Calls Tryz.prog 124 #[.slice A l.length cap] w fun e w' => ∃ v, e = .returned v /\ w'.ownsRow w.heap.size 3 1 v (jQ_ l).length ((jQ_ l).map (Value.int .i64)) /\ Bw w w' := by
 have hn : l.length = l.length := rfl
 generalize hN : l.length = N at hl hn
 have HN := kp hN
 clear hN hn
 go_enter Tryz.func124, Tryz.ntmps124
 go_wp2
 go_loopw [3, 8] (fun v i wr => ∃ k : Nat, k <= N /\ i = .int .i64 k /\ wr.ownsRow w.heap.size 3 1 v (dD_ l k).length ((dD_ l k).map (Value.int .i64)) /\ Bw w wr)
  (fun _ i _ => N - (intOf i).toNat)
 case atStart => exact ⟨0, Nat.zero_le _, rfl, World.ownsRow_nil _ _ _ _, BR _ _⟩
 obtain ⟨k, hk, rfl, hown, hnx⟩ := hrel
 by_cases hlt : k < N
 ·obtain ⟨b, off, hAe, hbB, hcs⟩ := (hA.below hnx (lR _)) k (by rw [HN.o]; exact hlt)
  have hkl : k < l.length := by rw [HN.o]; exact hlt
  obtain ⟨c, hc⟩ : ∃ c, l[k]? = some c := ⟨l[k], gE hkl⟩
  obtain ⟨hcc, HC⟩ := kq2 (hcs c hc) hc
  clear hcs hc
  subst hAe
  have hdl := doneK_le l k
  have hsz := hnx.size
  go_wp2_with (first
   | ((with_reducible refine wpList_load_agg (o := ⟨some 12, _, _, _, _, _⟩) rfl 52 _ rfl ⟨b, off + k * 23, none⟩ ?_ c.cells _ hcc.o Tryz.underlying52 rfl (callSize c) ?_); (· rfl))
   | ((with_reducible refine bJ_ (o := ⟨none, _, _, _, _, _⟩) rfl 52 (.tmp 5) (.tmp 12) rfl _ c.cells.toArray 52 wr.heap.size ?_ ?_ ?_ (lx_ c) ?_ c.allOne ?_); (· rfl); (· rfl); (· rfl); (· rfl); unfold CallC.cells)
   | ((with_reducible refine aK_ (o := ⟨some 19, _, _, _, _, _⟩) rfl _ _ 87 rfl w.heap.size 3 (.int .i64 0) 8 Tryz.underlying87 Tryz.info3 rfl u3 _ _ ?_ (hown.alloc _) _ (wr.heap.size + 1) ?_ ?_ ?_ ?_ ?_ ?_ ?_); (· rfl); (· rfl); (· simp); (· rfl); (· unfold maxLen; omega); (· omega); (· simp; omega); intro v1 w1 hown1 hb1))
  ·have hd : 0 <= c.d := by assumption
   go_roundw
   case rel => exact ⟨k + 1, by omega, by go_num, by rw [li_ l k c HC.o hd]; simpa using hown1, (hnx.alloc hsz _).trans hb1⟩
   simp [intOf]; omega
  have hd : c.d < 0 := by assumption
  go_roundw
  case rel => exact ⟨k + 1, by omega, by go_num, by rw [doneK_no l k c HC.o hd]; exact hown.alloc _, hnx.alloc hsz _⟩
  simp [intOf]; omega
 obtain rfl : k = N := by omega
 go_wp2
 go_ret
 refine ⟨_, rfl, ?_, hnx⟩
 rw [<- lj_ l, HN.o]; exact hown
end Go.Proofs.YtnjhpgmbfblgaaaGreat.Ord
namespace Go.Proofs.YtnjhpgmbfblgaaaGreat.Ord
open Go.RowKit Go.Sort
instance : Inhabited CallC := ⟨⟨0, 0, fun _ => .bool false, 0, 0, 0, .bool false, fun _ => rfl, rfl⟩⟩
def at_ (l : List CallC) (x : Int) : CallC := l.getD x.toNat default
theorem bQ_ {w : World} {B : Nat} {A : Option Addr} {l : List CallC} (h : CallsAt w B A l) {n : Nat} (hn : n < l.length) : ∃ b off, A = some ⟨b, off, none⟩ /\ b < B /\ CellsAt w ⟨b, off + n * 23, none⟩ (at_ l n).cells := by
 obtain ⟨b, off, h1, h2, h3⟩ := h n hn
 refine ⟨b, off, h1, h2, ?_⟩
 have : at_ l n = l[n] := by simp [at_, List.getD, hn]
 rw [this]
 exact h3 _ (gE hn)

theorem gj_ {l : List CallC} {n : Nat} : (n : Int) ∈ jQ_ l ↔ n < l.length /\ 0 <= (at_ l n).d := by
 unfold jQ_ dD_
 simp only [List.mem_map, List.mem_filter, List.mem_range]
 constructor
 ·rintro ⟨i, ⟨h1, h2⟩, h3⟩
  have e : i = n := Int.ofNat.inj h3
  subst e
  refine ⟨h1, ?_⟩
  simp only [gE h1, decide_eq_true_eq] at h2
  simpa [at_, List.getD, h1] using h2
 rintro ⟨h1, h2⟩
 refine ⟨n, ⟨h1, ?_⟩, rfl⟩
 simp only [gE h1, decide_eq_true_eq]
 simpa [at_, List.getD, h1] using h2
theorem CellsAt.d {w : World} {b o : Nat} {c : CallC} (h : CellsAt w ⟨b, o, none⟩ c.cells) : w.cell? ⟨b, o + 20, none⟩ = some (.int .i64 c.d) := h 20 _ rfl
end Go.Proofs.YtnjhpgmbfblgaaaGreat.Ord
namespace Go.Proofs
open Go.Shelf
def Tryz.sort125_ren : Go.Shelf.Ren := ⟨fun | 6 => 125 | 15 => 115 | 14 => 189 | 28 => 187 | 29 => 188 | 20 => 243 | 21 => 244 | 22 => 245 | 23 => 246 | 24 => 247 | 25 => 248 | 26 => 249 | 27 => 250 | 46 => 314 | 47 => 239 | 48 => 240 | 49 => 315 | 50 => 316 | 57 => 370 | n => n, fun | 22 => 87 | 24 => 3 | 25 => 125 | 3 => 3 | 39 => 206 | 0 => 0 | 53 => 283 | 55 => 33 | 4 => 4 | 46 => 276 | 45 => 275 | 50 => 280 | 5 => 5 | 9 => 9 | 66 => 342 | 70 => 346 | 76 => 403 | 77 => 90 | n => n, fun | n => n⟩
theorem Tryz.sort125 : Go.Proofs.SlLaysF.n6 Tryz.prog Tryz.sort125_ren := {
 mixed := by kernel_rfl
 f6 := ⟨Tryz.f125.name, by decide, Tryz.func125.trans (congrArg some (by kernel_rfl))⟩
 f14 := ⟨Tryz.f189.name, by decide, Tryz.func189.trans (congrArg some (by kernel_rfl))⟩
 f15 := Tryz.func115.trans (congrArg some (by kernel_rfl))
 f20 := ⟨Tryz.f243.name, by decide, Tryz.func243.trans (congrArg some (by kernel_rfl))⟩
 f21 := ⟨Tryz.f244.name, by decide, Tryz.func244.trans (congrArg some (by kernel_rfl))⟩
 f22 := ⟨Tryz.f245.name, by decide, Tryz.func245.trans (congrArg some (by kernel_rfl))⟩
 f23 := ⟨Tryz.f246.name, by decide, Tryz.func246.trans (congrArg some (by kernel_rfl))⟩
 f24 := ⟨Tryz.f247.name, by decide, Tryz.func247.trans (congrArg some (by kernel_rfl))⟩
 f25 := ⟨Tryz.f248.name, by decide, Tryz.func248.trans (congrArg some (by kernel_rfl))⟩
 f26 := ⟨Tryz.f249.name, by decide, Tryz.func249.trans (congrArg some (by kernel_rfl))⟩
 f27 := ⟨Tryz.f250.name, by decide, Tryz.func250.trans (congrArg some (by kernel_rfl))⟩
 f28 := Tryz.func187.trans (congrArg some (by kernel_rfl))
 f29 := Tryz.func188.trans (congrArg some (by kernel_rfl))
 f46 := ⟨Tryz.f314.name, by decide, Tryz.func314.trans (congrArg some (by kernel_rfl))⟩
 f47 := Tryz.func239.trans (congrArg some (by kernel_rfl))
 f48 := Tryz.func240.trans (congrArg some (by kernel_rfl))
 f49 := ⟨Tryz.f315.name, by decide, Tryz.func315.trans (congrArg some (by kernel_rfl))⟩
 f50 := ⟨Tryz.f316.name, by decide, Tryz.func316.trans (congrArg some (by kernel_rfl))⟩
 f57 := ⟨Tryz.f370.name, by decide, Tryz.func370.trans (congrArg some (by kernel_rfl))⟩
 t0 := Tryz.underlying0
 a0 := Tryz.isAgg0
 z0 := Tryz.sizeOf0
 v0 := Tryz.zeroValue0
 t3 := Tryz.underlying3
 a3 := Tryz.isAgg3
 z3 := Tryz.sizeOf3
 v3 := Tryz.zeroValue3
 t4 := Tryz.underlying4
 a4 := Tryz.isAgg4
 z4 := Tryz.sizeOf4
 v4 := Tryz.zeroValue4
 t5 := Tryz.underlying5
 a5 := Tryz.isAgg5
 z5 := Tryz.sizeOf5
 v5 := Tryz.zeroValue5
 t9 := Tryz.underlying9
 a9 := Tryz.isAgg9
 z9 := Tryz.sizeOf9
 v9 := Tryz.zeroValue9
 t22 := Tryz.underlying87
 a22 := Tryz.isAgg87
 z22 := Tryz.sizeOf87
 v22 := Tryz.zeroValue87
 a24 := Tryz.isAgg3
 z24 := Tryz.sizeOf3
 t25 := Tryz.underlying125
 a25 := Tryz.isAgg125
 z25 := Tryz.sizeOf125
 v25 := Tryz.zeroValue125
 t39 := Tryz.underlying206
 a39 := Tryz.isAgg206
 z39 := Tryz.sizeOf206
 v39 := Tryz.zeroValue206
 t45 := Tryz.underlying275
 a45 := Tryz.isAgg275
 z45 := Tryz.sizeOf275
 v45 := Tryz.zeroValue275
 t46 := Tryz.underlying276
 a46 := Tryz.isAgg276
 z46 := Tryz.sizeOf276
 v46 := Tryz.zeroValue276
 t50 := Tryz.underlying280
 a50 := Tryz.isAgg280
 z50 := Tryz.sizeOf280
 v50 := Tryz.zeroValue280
 t53 := Tryz.underlying283
 a53 := Tryz.isAgg283
 z53 := Tryz.sizeOf283
 v53 := Tryz.zeroValue283
 t55 := Tryz.underlying33
 a55 := Tryz.isAgg33
 z55 := Tryz.sizeOf33
 v55 := Tryz.zeroValue33
 t66 := Tryz.underlying342
 a66 := Tryz.isAgg342
 z66 := Tryz.sizeOf342
 v66 := Tryz.zeroValue342
 t70 := Tryz.underlying346
 a70 := Tryz.isAgg346
 z70 := Tryz.sizeOf346
 v70 := Tryz.zeroValue346
 t76 := Tryz.underlying403
 a76 := Tryz.isAgg403
 z76 := Tryz.sizeOf403
 v76 := Tryz.zeroValue403
 t77 := Tryz.underlying90
 a77 := Tryz.isAgg90
 z77 := Tryz.sizeOf90
 v77 := Tryz.zeroValue90 }
end Go.Proofs
namespace Go.Proofs.YtnjhpgmbfblgaaaGreat.Ord
set_option maxRecDepth 100000
set_option maxHeartbeats 16000000
open Go.RowKit Go.Sort Go.Lib Go.Shelf
theorem hh_ {α : Type} [Inhabited α] {enc : α -> Value} {w : World} {g n : Nat} {os : Array Obj} {cur : Array Value} {e : TypeId} {fr : Nat × Nat} (d : Array α) (hb : w.heap[g]? = some (.cells cur e fr)) :
  (grow (putRow enc (Sort.ahead w n) g 0 d) os).heap[g]? = some (.cells (putCells enc 0 d cur) e fr) := by
 have hg : g < w.heap.size := (Array.getElem?_eq_some_iff.1 hb).1
 rw [heap_grow_old _ _ (by simpa using hg)]
 simp [putRow, mapBlock, Sort.ahead, Array.getElem?_modify, hb, onCells]
theorem cA_ {α : Type} [Inhabited α] {enc : α -> Value} {w : World} {g n : Nat} {os : Array Obj} (d : Array α) : w.grownBy (grow (putRow enc (Sort.ahead w n) g 0 d) os) (some g) := by
 refine ⟨rfl, rfl, rfl, by simp, fun k hk hne => ?_⟩
 rw [heap_grow_old _ _ (by simpa using hk)]
 have : g ≠ k := fun e => hne (by rw [e])
 simp [putRow, mapBlock, Sort.ahead, Array.getElem?_modify, this]
theorem e6_ {α : Type} [Inhabited α] {enc : α -> Value} (cur : Array Value) (ts : List α) (h : ts.length <= cur.size) : (putCells enc 0 ts.toArray cur).toList.take ts.length = ts.map enc := by
 apply List.ext_getElem?
 intro j
 by_cases hj : j < ts.length
 ·rw [List.getElem?_take_of_lt hj, Array.getElem?_toList]
  simp [putCells, hj, show j < cur.size by omega]
 rw [List.getElem?_take_eq_none (by omega), List.getElem?_eq_none (by simp; omega)]
theorem fP_ (x y : Int) : ltOf cmpI x y = decide (x < y) := h6_ x y
theorem swo_key {α : Type} (f : α -> Int) : SWO (ltOf fun x y => cmpI (f x) (f y)) := by
 have h : ∀ x y, (ltOf fun x y => cmpI (f x) (f y)) x y = decide (f x < f y) := fun x y => fP_ (f x) (f y)
 constructor
 ·intro x; rw [h]; simp
 ·intro x y z h1 h2; rw [h] at *; simp at *; omega
 intro x y z h1 h2; rw [h] at *; simp at *; omega
theorem jS_ (b off N capA B : Nat) (l : List CallC) (x y : Nat) (W : World) (hN : l.length = N) (hN2 : N <= 5000) (hx : x < N) (hy : y < N)
  (hB : W.cell? ⟨B, 0, none⟩ = some (.slice (some ⟨b, off, none⟩) N capA)) (hcx : W.cell? ⟨b, off + x * 23 + 20, none⟩ = some (.int .i64 (at_ l x).d)) (hcy : W.cell? ⟨b, off + y * 23 + 20, none⟩ = some (.int .i64 (at_ l y).d)) :
  Calls Tryz.prog 126 #[.int .i64 x, .int .i64 y, .pointer (some ⟨B, 0, none⟩)] W fun e w' => e = .returned (.int .i64 (cmpI (at_ l x).d (at_ l y).d)) /\ ∃ q, w' = W.drewN q := by
 have HN := kp hN
 clear hN
 generalize (at_ l x).d = dx at *
 generalize (at_ l y).d = dy at *
 have hcon := kp (fun W => ho_ dx dy W)
 generalize cmpI dx dy = r at *
 go_enter Tryz.func126, Tryz.ntmps126
 go_wp2_with fail
 go_quiet ((go_at_call 63; exact Calls.quiet_of_same (hcon.o _)))
 go_wp2
 go_ret
 exact ⟨rfl, _, rfl⟩
theorem cV_ {w : World} {g n : Nat} {os : Array Obj} {α : Type} [Inhabited α] {enc : α -> Value} {d : Array α} {p : Addr} {v : Value} (h : w.cell? p = some v) (hne : p.block ≠ g) : (sortWorld enc w g 0 n d os).cell? p = some v := by
 have hg := cA_ (enc := enc) (w := w) (g := g) (n := n) (os := os) d
 exact hg.cell h (by simpa using hne)
theorem ke_ (b off N capA B g cap base : Nat) (l : List CallC) (xs : List Nat) (w : World) (hN : l.length = N) (hN2 : N <= 5000) (hx : ∀ x ∈ xs, x < N) (h0 : 0 < xs.length)
  (hB : w.cell? ⟨B, 0, none⟩ = some (.slice (some ⟨b, off, none⟩) N capA)) (hBg : B ≠ g) (hbg : b ≠ g) (hA : ∀ n, n < N -> w.cell? ⟨b, off + n * 23 + 20, none⟩ = some (.int .i64 (at_ l n).d))
  (hown : w.ownsRow base 3 1 (.slice (some ⟨g, 0, none⟩) xs.length cap) xs.length (xs.map fun (x : Nat) => Value.int .i64 (x : Int))) (hlen : xs.length <= 5000) :
  Calls Tryz.prog 125 #[.slice (some ⟨g, 0, none⟩) xs.length cap, .func (.func 126) #[] #[.pointer (some ⟨B, 0, none⟩)]] w fun e w' => e = .returned (.tuple #[]) /\ ∃ ys : List Nat, ys.Perm xs /\ ys.Pairwise (fun (x y : Nat) => (at_ l x).d <= (at_ l y).d) /\
   w'.ownsRow base 3 1 (.slice (some ⟨g, 0, none⟩) ys.length cap) ys.length (ys.map fun (x : Nat) => Value.int .i64 (x : Int)) /\ w.grownBy w' (some g) := by
 have hN0 : 0 < N := by
  have := hx xs[0] (List.getElem_mem h0)
  omega
 haveI : Inhabited (Fin N) := ⟨⟨0, hN0⟩⟩
 let zs : List (Fin N) := xs.pmap (fun x h => ⟨x, h⟩) hx
 have hzs : zs.map (fun z => z.1) = xs := by simp [zs, List.map_pmap]
 have hzl : zs.length = xs.length := by simp [zs]
 let enc : Fin N -> Value := fun z => .int .i64 (z.1 : Int)
 have henc : xs.map (fun (x : Nat) => Value.int .i64 (x : Int)) = zs.map enc := by rw [<- hzs, List.map_map]; rfl
 rcases hown.2 with ⟨h, _⟩ | ⟨g', cap', cur, he, hbase, hh, hnc, hcm, hcs, htake⟩
 ·cases h
 cases he
 rw [henc] at htake
 have hcur : cur.size = cap := by omega
 have hH : Holds enc w g 0 zs.toArray := by
  intro j hj
  have hj' : j < zs.length := by simpa using hj
  refine ⟨?_, by simp [World.frozen?, hh]⟩
  have h1 : (cur.toList.take (xs.length * 1))[j]? = (zs.map enc)[j]? := by rw [htake]
  rw [List.getElem?_take_of_lt (by omega)] at h1
  simp only [World.cell?, hh, Nat.zero_add]
  simp only [Option.isSome_none, Bool.false_eq_true, if_false]
  rw [<- Array.getElem?_toList, h1]
  simp [hj']
 have hcmp : CmpLays1 Tryz.prog 126 #[.pointer (some ⟨B, 0, none⟩)] enc (fun x y => cmpI (at_ l x.1).d (at_ l y.1).d) g 0 zs.toArray.size w := by
  intro m os dk hs x y
  refine (jS_ b off N capA B l x.1 y.1 _ hN hN2 x.2 y.2 (cV_ hB hBg) (cV_ (hA _ x.2) hbg) (cV_ (hA _ y.2) hbg)).mono ?_
  rintro e w' ⟨he, q, hq⟩
  exact ⟨he, q, #[], by rw [grow_empty, hq]⟩
 have eg : ∀ args w, (callFunc 126 args).run Tryz.prog w = .ok (.enter 126 args) w := Go.Proofs.enters_of Tryz.func126 (by kernel_rfl) rfl
 have hcon := Any.slices_SortFunc Tryz.sort125 enc (fun _ => rfl) (fun x y => cmpI (at_ l x.1).d (at_ l y.1).d) (swo_key fun x : Fin N => (at_ l x.1).d) 126 #[.pointer (some ⟨B, 0, none⟩)] g 0 cap zs.toArray w eg hcmp hH (Array.getElem?_eq_some_iff.1 hh).1 (by simp [hzl]; omega)
 rw [show zs.toArray.size = xs.length by simp [hzl]] at hcon
 refine hcon.mono ?_
 rintro e w' ⟨he, d', n, os, hp, hs, rfl⟩
 have hps : d'.size = xs.length := by rw [hp.1]; simp [hzl]
 have hperm : d'.toList.Perm zs := by
  have h3 := hp.2.2
  have e1 : (d'.extract 0 xs.length) = d' := by rw [<- hps]; simp
  have e2 : (zs.toArray.extract 0 xs.length) = zs.toArray := by rw [<- hzl]; simp
  rw [e1, e2] at h3
  exact h3
 refine ⟨he, d'.toList.map (fun z => z.1), ?_, ?_, ?_, ?_⟩
 ·rw [<- hzs]; exact hperm.map _
 ·rw [List.pairwise_map, List.pairwise_iff_getElem]
  intro i j hi hj hij
  have h4 := hs i j (Nat.zero_le _) hij (by simp at hj; omega)
  have e1 : d'[i]! = d'.toList[i] := by simp at hi; simp [hi]
  have e2 : d'[j]! = d'.toList[j] := by simp at hj; simp [hj]
  rw [e1, e2] at h4
  have h5 := fP_ (at_ l (d'.toList[j]).1).d (at_ l (d'.toList[i]).1).d
  unfold ltOf at h4 h5
  rw [h4] at h5
  have := of_decide_eq_false h5.symm
  omega
 ·have hl2 : (d'.toList.map (fun z => z.1)).length = xs.length := by simp [hps]
  rw [hl2]
  refine ⟨by simp [hps], .inr ⟨g, cap, _, rfl, hbase, hh_ d' hh, hnc, hcm, by simp [putCells, hcs], ?_⟩⟩
  have h6 := e6_ (enc := enc) cur d'.toList (by simp [hps]; omega)
  have h7 : xs.length * 1 = d'.toList.length := by simp [hps]
  rw [h7]
  have h8 : d'.toList.toArray = d' := by simp
  rw [h8] at h6
  rw [h6, List.map_map]
  rfl
 exact cA_ d'
theorem kX_ (p : Option Addr) (cap : Nat) (fv : Value) (w : World) :
  Calls Tryz.prog 243 #[.slice p 0 cap, .int .i64 0, .int .i64 0, fv] w fun e w' => e = .returned (.tuple #[]) /\ w' = w := by
 go_enter Tryz.func243, Tryz.ntmps243
 go_wp2
 refine wp_loop_rounds 1 ?_
 rw [rounds_succ]
 go_wp2
 go_end0
 exact ⟨rfl, rfl⟩
theorem ky_ (p : Option Addr) (cap : Nat) (lim : Int) (fv : Value) (w : World) :
  Calls Tryz.prog 189 #[.slice p 0 cap, .int .i64 0, .int .i64 0, .int .i64 lim, fv] w fun e w' => e = .returned (.tuple #[]) /\ w' = w := by
 have hi := fun W => kX_ p cap fv W
 go_enter Tryz.func189, Tryz.ntmps189
 go_wp2
 refine wp_loop_rounds 1 ?_
 rw [rounds_succ]
 go_wp2_with (go_at_call 243; refine (hi _).mono ?_; rintro e w' ⟨rfl, rfl⟩)
 (try simp only [Exit.inBlock, Exit.then]); refine bodyPost_ret (results_none rfl _ _ _) rfl ?_
 exact ⟨rfl, rfl⟩
theorem gB_ (p : Option Addr) (cap : Nat) (fv : Value) (w : World) :
  Calls Tryz.prog 125 #[.slice p 0 cap, fv] w fun e w' => e = .returned (.tuple #[]) /\ w' = w := by
 have hp := fun lim W => ky_ p cap lim fv W
 have hl : ∀ W, Calls Tryz.prog 115 #[.int .u64 0] W fun e w' => e = .returned (.int .i64 (Lib.bitLen 0 : Nat)) /\ w' = W := fun W => Any.bits_Len (SlLaysF0.n15.bits (P := Tryz.prog) (ρ := Tryz.sort61_ren) { Tryz.sort61 with }) 0 W (by omega) (by omega)
 go_enter Tryz.func125, Tryz.ntmps125
 go_wp2_with (first | (go_at_call 115; refine (hl _).mono ?_; rintro e w' ⟨rfl, rfl⟩) | (go_at_call 189; refine (hp _ _).mono ?_; rintro e w' ⟨rfl, rfl⟩))
 go_end0
 exact ⟨rfl, rfl⟩
end Go.Proofs.YtnjhpgmbfblgaaaGreat.Ord
namespace Go.Proofs.YtnjhpgmbfblgaaaGreat.Ord
set_option maxRecDepth 100000
set_option maxHeartbeats 16000000
open Go.RowKit Go.Sort Go.Lib
def cO_ (l : List CallC) : List Nat := (List.range l.length).filter fun i => match l[i]? with | some c => decide (0 <= c.d) | none => false
theorem i0_ (l : List CallC) : jQ_ l = (cO_ l).map fun (n : Nat) => (n : Int) := rfl
theorem iZ_ {l : List CallC} {x : Nat} (h : x ∈ cO_ l) : x < l.length := by
 unfold cO_ at h
 simp only [List.mem_filter, List.mem_range] at h
 exact h.1
theorem mem_doneN {l : List CallC} {n : Nat} : n ∈ cO_ l ↔ n < l.length /\ 0 <= (at_ l n).d := by
 rw [<- gj_, i0_, List.mem_map]
 constructor
 ·exact fun h => ⟨n, h, rfl⟩
 rintro ⟨a, h1, h2⟩
 obtain rfl : a = n := by omega
 exact h1
theorem hm_ (l : List CallC) : (cO_ l).length <= l.length := by
 have := List.length_filter_le (fun i => match l[i]? with | some c => decide (0 <= c.d) | none => false) (List.range l.length)
 rwa [List.length_range] at this
def du_ (l : List CallC) (ys : List Nat) : Prop := ys.Perm (cO_ l) /\ ys.Pairwise fun (x y : Nat) => (at_ l x).d < (at_ l y).d
open Classical in
noncomputable def aO_ (l : List CallC) : Option (List Nat) := if h : ∃ ys, du_ l ys then some (Classical.choose h) else none
theorem ce_ {l : List CallC} : ∀ {xs ys : List Nat}, xs.Perm ys -> xs.Pairwise (fun (x y : Nat) => (at_ l x).d <= (at_ l y).d) -> ys.Pairwise (fun (x y : Nat) => (at_ l x).d < (at_ l y).d) -> xs = ys
 | [], ys, hp, _, _ => by simpa using hp
 | x :: xs, [], hp, _, _ => by simp at hp
 | x :: xs, y :: ys, hp, h1, h2 => by
  rw [List.pairwise_cons] at h1 h2
  have e : x = y := by
   rcases List.mem_cons.1 (hp.mem_iff.1 (List.mem_cons_self (a := x))) with e | hm
   ·exact e
   have h3 := h2.1 x hm
   rcases List.mem_cons.1 (hp.mem_iff.2 (List.mem_cons_self (a := y))) with e | hm2
   ·exact e.symm
   have := h1.1 y hm2
   omega
  subst e
  rw [ce_ (List.Perm.cons_inv hp) h1.2 h2.2]
theorem b6_ {l : List CallC} {ys : List Nat} (h : du_ l ys) : aO_ l = some ys := by
 unfold aO_
 rw [dif_pos ⟨ys, h⟩]
 have hc := Classical.choose_spec (⟨ys, h⟩ : ∃ ys, du_ l ys)
 exact congrArg some (ce_ (hc.1.trans h.1.symm) (hc.2.imp fun h => by omega) h.2)
theorem cQ_ {l : List CallC} {ys : List Nat} (h : aO_ l = some ys) : du_ l ys := by
 unfold aO_ at h
 split at h
 ·rename_i h1
  cases h
  exact Classical.choose_spec h1
 cases h
def ll_ (l : List CallC) (ys : List Nat) (k : Nat) : Prop := ∀ j, j + 1 < k -> (at_ l (ys.getD j 0 : Nat)).d ≠ (at_ l (ys.getD (j + 1) 0 : Nat)).d
theorem jR_ {l : List CallC} {ys : List Nat} {k : Nat} (h : ll_ l ys (k + 1)) (h1 : (at_ l (ys.getD (k + 1) 0 : Nat)).d ≠ (at_ l (ys.getD k 0 : Nat)).d) : ll_ l ys (k + 2) := fun j hj => by
 by_cases e : j = k
 ·subst e; exact fun h => h1 h.symm
 exact h j (by omega)
theorem e7_ {l : List CallC} {ys : List Nat} (h : ys.Pairwise fun (x y : Nat) => (at_ l x).d <= (at_ l y).d) (hd : ll_ l ys ys.length) : ys.Pairwise fun (x y : Nat) => (at_ l x).d < (at_ l y).d := by
 rw [List.pairwise_iff_getElem] at h ⊢
 intro i j hi hj hij
 have hi1 : i + 1 < ys.length := by omega
 have h1 := h i (i + 1) hi hi1 (by omega)
 have h2 := hd i hi1
 simp only [List.getD, gE hi, gE hi1, Option.getD_some] at h2
 by_cases e : j = i + 1
 ·subst e; omega
 have h3 := h (i + 1) j hi1 hj (by omega)
 omega
theorem fc_ {l : List CallC} {ys : List Nat} (h : ys.Pairwise fun (x y : Nat) => (at_ l x).d < (at_ l y).d) {j : Nat} (hj : j + 1 < ys.length) : (at_ l (ys.getD (j + 1) 0 : Nat)).d ≠ (at_ l (ys.getD j 0 : Nat)).d := by
 rw [List.pairwise_iff_getElem] at h
 have h1 := h j (j + 1) (by omega) hj (by omega)
 simp only [List.getD, gE hj, gE (show j < ys.length by omega), Option.getD_some]
 omega
theorem il_ {l : List CallC} {ys : List Nat} (hp : ys.Perm (cO_ l)) (hs : ys.Pairwise fun (x y : Nat) => (at_ l x).d <= (at_ l y).d) {j : Nat} (hj : j + 1 < ys.length)
  (h : (at_ l (ys.getD (j + 1) 0 : Nat)).d = (at_ l (ys.getD j 0 : Nat)).d) : aO_ l = none := by
 cases hc : aO_ l with
 | none => rfl
 | some zs =>
  have hz := cQ_ hc
  have e := ce_ (hp.trans hz.1.symm) hs hz.2
  subst e
  exact absurd h (fc_ hz.2 hj)
theorem eU_ {l : List CallC} {ys : List Nat} (hp : ys.Perm (cO_ l)) (hs : ys.Pairwise fun (x y : Nat) => (at_ l x).d <= (at_ l y).d) {k : Nat} (hk : ys.length <= k) (h : ll_ l ys k) : aO_ l = some ys :=
 b6_ ⟨hp, e7_ hs fun j hj => h j (by omega)⟩
def e2_ (l : List CallC) (w : World) (e : Ending) (w' : World) : Prop :=
 (∀ ys, aO_ l = some ys -> ∃ v, e = .returned (.tuple #[v, .int .i64 0]) /\ w'.ownsRow w.heap.size 3 1 v ys.length (ys.map fun (x : Nat) => Value.int .i64 (x : Int))) /\
 (aO_ l = none -> e = .returned (.tuple #[.slice none 0 0, .int .i64 2])) /\ RowKit.Below w.heap.size w w'
theorem sort_any (A : Option Addr) (N capA B base : Nat) (l : List CallC) (xs : List Nat) (v : Value) (w : World) (hN : l.length = N) (hN2 : N <= 5000) (hx : ∀ x ∈ xs, x < N)
  (hB : w.cell? ⟨B, 0, none⟩ = some (.slice A N capA)) (hBb : B < base) (hA : CallsAt w base A l) (hown : w.ownsRow base 3 1 v xs.length (xs.map fun (x : Nat) => Value.int .i64 (x : Int))) (hlen : xs.length <= 5000) :
  Calls Tryz.prog 125 #[v, .func (.func 126) #[] #[.pointer (some ⟨B, 0, none⟩)]] w fun e w' => e = .returned (.tuple #[]) /\ ∃ ys : List Nat, ys.Perm xs /\ ys.Pairwise (fun (x y : Nat) => (at_ l x).d <= (at_ l y).d) /\
   w'.ownsRow base 3 1 v ys.length (ys.map fun (x : Nat) => Value.int .i64 (x : Int)) /\ RowKit.Below base w w' := by
 rcases Nat.eq_zero_or_pos xs.length with h0 | h0
 ·obtain ⟨p, c, hv⟩ := ax_ hown
  obtain rfl : xs = [] := eN h0
  subst hv
  refine (gB_ p c _ w).mono ?_
  rintro e w' ⟨he, rfl⟩
  exact ⟨he, [], List.Perm.refl _, List.Pairwise.nil, hown, RowKit.Below.refl _ _⟩
 obtain ⟨n, hn, _⟩ : ∃ n, n < l.length /\ True := ⟨xs[0], by rw [hN]; exact hx _ (List.getElem_mem h0), trivial⟩
 obtain ⟨b, off, rfl, hbB, _⟩ := bQ_ hA hn
 rcases hown.2 with ⟨h, h1⟩ | ⟨g, cap, cur, hv, hbase, hh, _⟩
 ·omega
 subst hv
 refine (ke_ b off N capA B g cap base l xs w hN hN2 hx h0 hB (by omega) (by omega) (fun n hn => ?_) hown hlen).mono ?_
 ·obtain ⟨_, _, e1, _, h2⟩ := bQ_ hA (n := n) (by omega)
  cases e1
  exact h2.d
 rintro e w' ⟨he, ys, hp, hs, ho, hg⟩
 refine ⟨he, ys, hp, hs, ?_, (RowKit.Below.refl _ _).grown hg (lT hbase (Nat.le_of_lt (Array.getElem?_eq_some_iff.1 hh).1)) (fun k hk => by cases hk; exact hbase)⟩
 rw [hp.length_eq] at ho ⊢
 exact ho
theorem im_ (A : Option Addr) (l : List CallC) (cap : Nat) (w : World) (hl : l.length <= 4096) (hA : CallsAt w w.heap.size A l) :
  Calls Tryz.prog 71 #[.slice A l.length cap] w fun e w' => e2_ l w e w' := by
 have hmf : ∀ (fn : Fn) (first cap : Array Value) (w : World), (Instr.makeFunc fn first cap).run Tryz.prog w = .ok (.func fn first cap) w := fun _ _ _ _ => rfl
 have hd1 := kp (done_any A l cap (w.alloc (.cells #[.slice A l.length cap] 43)) (by omega) ((hA.below (below1 w _) (lR _)).mono (by simp)))
 have hboxlt : (w.alloc (.cells #[.slice A l.length cap] 43)).cell? ⟨w.heap.size, 0, none⟩ = some (.slice A l.length cap) := World.cell?_alloc_new w _ _ _
 have hbw := below1 w (.cells #[.slice A l.length cap] 43)
 have hsz : (w.alloc (.cells #[.slice A l.length cap] 43)).heap.size = w.heap.size + 1 := by simp
 generalize hN : l.length = N at *
 obtain ⟨HN, HB, HS, Aa⟩ := kq4 hN hboxlt hsz hbw
 clear hN hboxlt hsz hbw
 have hg : decide ((4096 : Int) < (N : Int)) = false := by simp; omega
 go_enter Tryz.func71, Tryz.ntmps71
 go_wp2_with (go_at_call 124; refine hd1.o.mono ?_; rintro e w1 ⟨v, rfl, hown, hb1⟩)
 have hbox1 : w1.cell? ⟨w.heap.size, 0, none⟩ = some (.slice A N cap) := (hb1.cell (p := ⟨w.heap.size, 0, none⟩) (by rw [HS.o]; exact Nat.lt_succ_self _)).trans HB.o
 have hA1 : CallsAt w1 (w.heap.size + 1) A l := (hA.below (Aa.o.trans (hb1.mono (by rw [HS.o]; omega))) (lR _)).mono (by omega)
 have hb01 : RowKit.Below w.heap.size w w1 := Aa.o.trans (hb1.mono (by rw [HS.o]; omega))
 rw [i0_, List.map_map, lM_, HS.o] at hown
 have hlen : (cO_ l).length <= 5000 := by
  have := hm_ l
  rw [HN.o] at this
  omega
 refine (sort_any A N cap w.heap.size (w.heap.size + 1) l (cO_ l) v w1 HN.o (by omega) (fun x hx => by rw [<- HN.o]; exact iZ_ hx) hbox1 (by omega) hA1 hown hlen).mono ?_
 rintro e w2 ⟨rfl, ys, hp, hs, hown2, hb2⟩
 clear hown
 obtain ⟨p, c, rfl⟩ := ax_ hown2
 have hbox2 : w2.cell? ⟨w.heap.size, 0, none⟩ = some (.slice A N cap) := (hb2.cell (p := ⟨w.heap.size, 0, none⟩) (by show w.heap.size < w.heap.size + 1; omega)).trans hbox1
 have hA2 := hA1.below hb2 (lR _)
 have hb02 : RowKit.Below w.heap.size w w2 := hb01.trans (hb2.mono (by omega))
 have hyl : ys.length <= 5000 := by rw [hp.length_eq]; exact hlen
 have hylt : ∀ y ∈ ys, y < N := fun y hy => by rw [<- HN.o]; exact iZ_ (hp.mem_iff.1 hy)
 obtain ⟨HP, HSo, HY⟩ := kq3 hp hs hylt
 clear hbox1 hA1 hp hs hylt hb1 hb2 hb01
 generalize hM : ys.length = M at *
 have HM := kp hM
 clear hM
 go_wp2
 go_loopw [5] (fun j wr => ∃ k : Nat, (k = 0 ∨ k + 1 <= M) /\ j = .int .i64 (k + 1 : Nat) /\ ll_ l ys (k + 1) /\ RowKit.Below w2.heap.size w2 wr) (fun j _ => M + 1 - (intOf j).toNat)
 case atStart => exact ⟨0, .inl rfl, rfl, fun j h => absurd h (by omega), RowKit.Below.refl _ _⟩
 obtain ⟨k, hk, rfl, hdk, hb⟩ := hrel
 obtain ⟨HD, HK⟩ := kq2 hdk hk
 clear hdk hk
 have hcast : ((k + 1 : Nat) : Int) = (k : Int) + 1 := by omega
 rw [hcast]
 by_cases hlt : k + 1 < M
 ·have hkl : k + 1 < ys.length := by rw [HM.o]; exact hlt
  rcases hown2.2 with ⟨h, h1⟩ | ⟨g, cap', cur, hv, hbase, hh, _⟩
  ·omega
  cases hv
  have hgl : g < w2.heap.size := (Array.getElem?_eq_some_iff.1 hh).1
  have c0 : wr.cell? ⟨g, k, none⟩ = some (.int .i64 (ys[k] : Nat)) := by
   rw [hb.cell (p := ⟨g, k, none⟩) hgl, hown2.cellAt k (by omega)]; simp [show k < ys.length by omega]
  have c1 : wr.cell? ⟨g, k + 1, none⟩ = some (.int .i64 (ys[k + 1] : Nat)) := by
   rw [hb.cell (p := ⟨g, k + 1, none⟩) hgl, hown2.cellAt (k + 1) (by omega)]; simp [hkl]
  have n0 := HY.o _ (List.getElem_mem (show k < ys.length by omega))
  have n1 := HY.o _ (List.getElem_mem hkl)
  have g0 : ys.getD k 0 = ys[k] := by simp [List.getD, show k < ys.length by omega]
  have g1 : ys.getD (k + 1) 0 = ys[k + 1] := by simp [List.getD, hkl]
  generalize ys[k] = x0 at *
  generalize ys[k + 1] = x1 at *
  obtain ⟨b, off, rfl, hbB, hck0⟩ := bQ_ (hA2.below hb (by omega)) (n := x0) (by rw [HN.o]; exact n0)
  obtain ⟨_, _, e1, _, hck1⟩ := bQ_ (hA2.below hb (by omega)) (n := x1) (by rw [HN.o]; exact n1)
  cases e1
  have d0 := hck0.d
  have d1 := hck1.d
  have hbx : wr.cell? ⟨w.heap.size, 0, none⟩ = some (.slice (some ⟨b, off, none⟩) N cap) := (hb.cell (p := ⟨w.heap.size, 0, none⟩) (by show w.heap.size < _; omega)).trans hbox2
  obtain ⟨G0, G1⟩ := kq2 g0 g1
  clear hck0 hck1 g0 g1 hh
  by_cases hde : (at_ l x1).d = (at_ l x0).d
  ·have he : ((at_ l x1).d == (at_ l x0).d) = true := by simp [hde]
   have HE := kp hde
   clear hde
   go_wp2_with fail
   go_quiet (fail)
   go_wp2
   go_ret2
   have hno := il_ HP.o HSo.o (j := k) (by rw [HM.o]; exact hlt) (by rw [G0.o, G1.o]; exact HE.o)
   exact ⟨fun ys' h => (by rw [hno] at h; cases h), fun _ => rfl, hb02.trans ((RowKit.Below.mono ⟨hb.os, hb.tape, hb.output, hb.size, hb.block⟩ hb02.size))⟩
  have he : ((at_ l x1).d == (at_ l x0).d) = false := by simp [hde]
  have HE := kp hde
  clear hde
  go_wp2_with fail
  go_quiet (fail)
  go_wp2
  go_roundw
  case rel => exact ⟨k + 1, .inr (by omega), by go_num, jR_ HD.o (by rw [G0.o, G1.o]; exact HE.o), ⟨hb.os, hb.tape, hb.output, hb.size, hb.block⟩⟩
  simp [intOf]; omega
 go_wp2
 go_ret2
 have hyes := eU_ HP.o HSo.o (k := k + 1) (by rw [HM.o]; omega) HD.o
 refine ⟨fun ys' h => ?_, fun h => (by rw [hyes] at h; cases h), hb02.trans (hb.mono hb02.size)⟩
 rw [hyes] at h
 cases h
 refine ⟨_, rfl, ?_⟩
 rw [HM.o]
 exact bh_ (cb_ hown2 hb) (by omega)
end Go.Proofs.YtnjhpgmbfblgaaaGreat.Ord
