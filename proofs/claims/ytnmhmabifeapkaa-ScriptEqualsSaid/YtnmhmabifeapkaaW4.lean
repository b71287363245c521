/- An argument of the type Did, opened; the row of ScriptEquals from its walk. -/
import Derived.Test.YtnmhmabifeapkaaW3
import Derived.Test.YtnmhmabifeapkaaE5
import Derived.SliceStrings
namespace Go.Proofs.Ytnmhmabifeapkaa.Ord
open Go.ChangeShapes Go.WideShapes Go.ChangeAt Go.RowKit Go.Deep
set_option linter.unusedVariables false

section
variable {H : Type} {enc : TypeId × Value → H} {w : World} {base : Nat} {spare : Nat → Bool} {held : Bool}
theorem open_strsV {fuel : Nat} {v : Value} {y : DataW H × List MemPlace} (h : DataW.trod enc Try.prog w base spare held fuel 41 [v] = some y) : ∃ xs, SlV Value.string w w.heap.size v xs := by
  rcases open_strings Try.underlying41 Try.underlying9 (by kernel_rfl) h with ⟨hcs, _⟩ | ⟨x, l, c, ss, hcs, _, hl, hm, hz, _, hcell, _⟩
  · simp at hcs
    subst hcs
    exact ⟨[], by simp, none, 0, rfl, fun i x hi => by simp at hi⟩
  · simp at hcs
    subst hcs
    have hzl : l ≤ ss.length := by rw [hz]; split <;> omega
    have htl : (ss.take l).length = l := by simp; omega
    refine ⟨ss.take l, by omega, some x, c, by rw [htl], fun i s hi => ?_⟩
    have hil : i < l := by have := (List.getElem?_eq_some_iff.1 hi).1; omega
    have h0 := hcell 0 (by omega)
    obtain ⟨b, off, sp⟩ := x
    have hsp : sp = none := by simpa [Addr.add] using World.cell?_spot h0
    subst hsp
    have hc := hcell i (by omega)
    have hlt : b < w.heap.size := by simpa [Addr.add] using cell_lt h0
    have e : (⟨b, off, none⟩ : Addr).add i = ⟨b, off + i, none⟩ := by unfold Addr.add; split <;> simp_all
    rw [e] at hc
    refine ⟨b, off, rfl, hlt, ?_⟩
    rw [hc]
    rw [List.getElem?_take_of_lt hil] at hi
    simp [List.getD, hi]
theorem open_numsV {fuel : Nat} {v : Value} {y : DataW H × List MemPlace} (h : DataW.trod enc Try.prog w base spare held fuel 47 [v] = some y) : ∃ xs, SlV (Value.int .u64) w w.heap.size v xs := by
  rcases open_ints Try.underlying47 Try.underlying42 (by kernel_rfl) h with ⟨hcs, _⟩ | ⟨x, l, c, ss, hcs, _, hl, hm, hz, _, hcell, _⟩
  · simp at hcs
    subst hcs
    exact ⟨[], by simp, none, 0, rfl, fun i x hi => by simp at hi⟩
  · simp at hcs
    subst hcs
    have hzl : l ≤ ss.length := by rw [hz]; split <;> omega
    have htl : (ss.take l).length = l := by simp; omega
    refine ⟨ss.take l, by omega, some x, c, by rw [htl], fun i s hi => ?_⟩
    have hil : i < l := by have := (List.getElem?_eq_some_iff.1 hi).1; omega
    have h0 := hcell 0 (by omega)
    obtain ⟨b, off, sp⟩ := x
    have hsp : sp = none := by simpa [Addr.add] using World.cell?_spot h0
    subst hsp
    have hc := hcell i (by omega)
    have hlt : b < w.heap.size := by simpa [Addr.add] using cell_lt h0
    have e : (⟨b, off, none⟩ : Addr).add i = ⟨b, off + i, none⟩ := by unfold Addr.add; split <;> simp_all
    rw [e] at hc
    refine ⟨b, off, rfl, hlt, ?_⟩
    rw [hc]
    rw [List.getElem?_take_of_lt hil] at hi
    simp [List.getD, hi]

theorem leaves87 : leaves Try.prog 5 87 = some [85, 22, 42, 43] := by kernel_rfl
theorem open_item {fuel : Nat} {cs : List Value} {x : DataW H × List MemPlace} (h : DataW.trod enc Try.prog w base spare held fuel 87 cs = some x) : ∃ (r : ItemR) (v : Value), cs = itemL r.mark v r.ver r.dead ∧ DatG w w.heap.size v r.val := by
  obtain ⟨hll, hall⟩ := leaves_spec 5 87 _ leaves87 _ _ _ h
  have hll : cs.length = 4 := hll
  obtain ⟨n0, h0, _⟩ := leaf_int Try.underlying85 (hall 0 85 rfl)
  obtain ⟨v, fu, y, h1, _, ht⟩ := hall 1 22 rfl
  obtain ⟨n2, h2, _⟩ := leaf_int Try.underlying42 (hall 2 42 rfl)
  obtain ⟨n3, h3, _⟩ := leaf_int Try.underlying43 (hall 3 43 rfl)
  obtain ⟨xs, hxs⟩ := open_dat ht
  match cs, hll, h0, h1, h2, h3 with
  | [a, b, c, d], _, h0, h1, h2, h3 =>
    simp at h0 h1 h2 h3
    subst h0 h1 h2 h3
    exact ⟨⟨n0, xs, n2, n3⟩, _, rfl, hxs⟩
theorem open_itemsV {fuel : Nat} {v : Value} {y : DataW H × List MemPlace} (hf : DataW.trod enc Try.prog w base spare held fuel 46 [v] = some y) : ∃ xs, ItemsV w w.heap.size v xs := by
  rcases open_slice Try.underlying46 hf with ⟨hcs, _⟩ | ⟨a, len, cap, m, n, D, Pl, hcs, _, hl, hm, hmm, hx, hi⟩
  · simp at hcs
    subst hcs
    exact ⟨[], by simp, none, 0, rfl, fun i r hi => by simp at hi⟩
  · simp at hcs
    subst hcs
    have hC : Try.prog.cellsOf 87 = 4 := by kernel_rfl
    rw [hC] at hi hx
    have hlm : len ≤ m := by rw [hmm]; split <;> omega
    have key : ∀ i, ∃ r : ItemR, i < len → ∃ v, CellsAt w (a.add (i * 4)) (itemL r.mark v r.ver r.dead) ∧ DatG w w.heap.size v r.val := fun i => by
      by_cases hlt : i < len
      · obtain ⟨cs', hc, ht⟩ := hi i (by omega)
        obtain ⟨_, hcl, hat⟩ := World.cells?_some hc
        obtain ⟨r, v, e1, e2⟩ := open_item ht
        refine ⟨r, fun _ => ⟨v, fun j u hj => ?_, e2⟩⟩
        have hj' : j < 4 := (List.getElem?_eq_some_iff.1 hj).1
        rw [hat j hj', e1, hj]
      · exact ⟨⟨0, [], 0, 0⟩, fun h => absurd h hlt⟩
    obtain ⟨f, hf'⟩ := Classical.axiomOfChoice key
    have hlen : ((List.range len).map f).length = len := by simp
    refine ⟨(List.range len).map f, by omega, some a, cap, by rw [hlen], fun i r hi2 => ?_⟩
    have hil : i < len := by
      have := (List.getElem?_eq_some_iff.1 hi2).1
      simpa using this
    obtain ⟨v, hca, hda⟩ := hf' i hil
    obtain ⟨v0, hca0, hda0⟩ := hf' 0 (by omega)
    have h0 : w.cell? a = some (.int .i64 (f 0).mark) := by
      have := hca0 0 (.int .i64 (f 0).mark) rfl
      simpa [Addr.add] using this
    have hspot := World.cell?_spot h0
    have hblk := cell_lt h0
    obtain ⟨b, off, sp⟩ := a
    obtain rfl : sp = none := hspot
    have hr : r = f i := by
      rw [List.getElem?_map, List.getElem?_range hil] at hi2
      simpa using hi2.symm
    subst hr
    refine ⟨b, off, v, rfl, hblk, ?_, hda⟩
    have e : (⟨b, off, none⟩ : Addr).add (i * 4) = ⟨b, off + i * 4, none⟩ := by
      unfold Addr.add
      split <;> simp_all
    rw [e] at hca
    exact hca
theorem leaf_str {cs : List Value} {j : Nat} {t : TypeId} (hu : Try.prog.underlying t = some .string) (h : Leaf enc Try.prog w base spare held cs j t) : ∃ s, cs[j]? = some (.string s) := by
  obtain ⟨v, fu, y, hv, _, ht⟩ := h
  obtain ⟨s, hs, _⟩ := DataW.trod_string hu ht
  simp at hs
  subst hs
  exact ⟨s, hv⟩

theorem leaves51 : leaves Try.prog 6 51 = some [33, 3, 3, 22, 25, 3, 22, 39, 40, 9, 41, 22, 41, 43, 42, 9, 9, 9, 40, 25, 46, 42, 3, 47, 43] := by kernel_rfl
theorem open_did {fuel : Nat} {cs : List Value} {x : DataW H × List MemPlace} (h : DataW.trod enc Try.prog w base spare held fuel 51 cs = some x) : ∃ (d : DidR) (p : DidV), cs = didC d p ∧ DidOk w w.heap.size d p := by
  obtain ⟨hll, hall⟩ := leaves_spec 6 51 _ leaves51 _ _ _ h
  have hll : cs.length = 25 := hll
  obtain ⟨n0, h0, _⟩ := leaf_int Try.underlying33 (hall 0 33 rfl)
  obtain ⟨n1, h1, _⟩ := leaf_int Try.underlying3 (hall 1 3 rfl)
  obtain ⟨n2, h2, _⟩ := leaf_int Try.underlying3 (hall 2 3 rfl)
  obtain ⟨n3, fu3, y3, h3, _, ht3⟩ := hall 3 22 rfl
  obtain ⟨xs3, k3⟩ := open_dat ht3
  obtain ⟨n4, h4, _⟩ := leaf_int Try.underlying25 (hall 4 25 rfl)
  obtain ⟨n5, h5, _⟩ := leaf_int Try.underlying3 (hall 5 3 rfl)
  obtain ⟨n6, fu6, y6, h6, _, ht6⟩ := hall 6 22 rfl
  obtain ⟨xs6, k6⟩ := open_dat ht6
  obtain ⟨n7, h7, _⟩ := leaf_int Try.underlying39 (hall 7 39 rfl)
  obtain ⟨n8, h8, _⟩ := leaf_int Try.underlying40 (hall 8 40 rfl)
  obtain ⟨n9, h9⟩ := leaf_str Try.underlying9 (hall 9 9 rfl)
  obtain ⟨n10, fu10, y10, h10, _, ht10⟩ := hall 10 41 rfl
  obtain ⟨xs10, k10⟩ := open_strsV ht10
  obtain ⟨n11, fu11, y11, h11, _, ht11⟩ := hall 11 22 rfl
  obtain ⟨xs11, k11⟩ := open_dat ht11
  obtain ⟨n12, fu12, y12, h12, _, ht12⟩ := hall 12 41 rfl
  obtain ⟨xs12, k12⟩ := open_strsV ht12
  obtain ⟨n13, h13, _⟩ := leaf_int Try.underlying43 (hall 13 43 rfl)
  obtain ⟨n14, h14, _⟩ := leaf_int Try.underlying42 (hall 14 42 rfl)
  obtain ⟨n15, h15⟩ := leaf_str Try.underlying9 (hall 15 9 rfl)
  obtain ⟨n16, h16⟩ := leaf_str Try.underlying9 (hall 16 9 rfl)
  obtain ⟨n17, h17⟩ := leaf_str Try.underlying9 (hall 17 9 rfl)
  obtain ⟨n18, h18, _⟩ := leaf_int Try.underlying40 (hall 18 40 rfl)
  obtain ⟨n19, h19, _⟩ := leaf_int Try.underlying25 (hall 19 25 rfl)
  obtain ⟨n20, fu20, y20, h20, _, ht20⟩ := hall 20 46 rfl
  obtain ⟨xs20, k20⟩ := open_itemsV ht20
  obtain ⟨n21, h21, _⟩ := leaf_int Try.underlying42 (hall 21 42 rfl)
  obtain ⟨n22, h22, _⟩ := leaf_int Try.underlying3 (hall 22 3 rfl)
  obtain ⟨n23, fu23, y23, h23, _, ht23⟩ := hall 23 47 rfl
  obtain ⟨xs23, k23⟩ := open_numsV ht23
  obtain ⟨n24, h24, _⟩ := leaf_int Try.underlying43 (hall 24 43 rfl)
  match cs, hll, h0, h1, h2, h3, h4, h5, h6, h7, h8, h9, h10, h11, h12, h13, h14, h15, h16, h17, h18, h19, h20, h21, h22, h23, h24 with
  | [a0, a1, a2, a3, a4, a5, a6, a7, a8, a9, a10, a11, a12, a13, a14, a15, a16, a17, a18, a19, a20, a21, a22, a23, a24], _, h0, h1, h2, h3, h4, h5, h6, h7, h8, h9, h10, h11, h12, h13, h14, h15, h16, h17, h18, h19, h20, h21, h22, h23, h24 =>
    simp at h0 h1 h2 h3 h4 h5 h6 h7 h8 h9 h10 h11 h12 h13 h14 h15 h16 h17 h18 h19 h20 h21 h22 h23 h24
    subst h0 h1 h2 h3 h4 h5 h6 h7 h8 h9 h10 h11 h12 h13 h14 h15 h16 h17 h18 h19 h20 h21 h22 h23 h24
    exact ⟨⟨⟨n0, n1, n2, xs3⟩, n4, n5, xs6, n7, ⟨n8, n9, xs10, xs11, xs12, n13, n14, n15, n16, n17⟩, ⟨n18, n19, xs20, n21, n22, xs23⟩, n24⟩, ⟨_, _, _, _, _, _, _⟩, rfl, k3, k6, ⟨k10, k11, k12⟩, k20, k23⟩
end

theorem okWide_agg {P : Program} {w : World} {r : Reach} {base : Nat} {t : TypeId} {v : Value} {fs : Array Field} (ht : P.underlying t = some (.struct fs)) (h : Value.okWide P w r base t v) : ∃ cs, v = .agg cs := by
  simp only [Value.okWide, ht] at h
  obtain ⟨cs, h1, _⟩ := h
  exact ⟨cs, h1⟩

/-- what the walk of 'ScriptEquals' gives -/
def scriptEqualsWalk : Prop := ∀ (a b : DidR) (p q : DidV) (w : World), DidOk w w.heap.size a p → DidOk w w.heap.size b q → Law 5 #[.agg (didC a p).toArray, .agg (didC b q).toArray] w

set_option maxRecDepth 100000 in
theorem scriptEquals_lifted (walk : scriptEqualsWalk) (os : Os) (started : os.Started) (H : Type) (enc : TypeId × Value → H) :
    ReturnsInHanded {} Try.checked os 5 .any (Rows.scriptEqualsSpec.pre6 enc Try.prog Try.f5 Rows.scriptEqualsRow.domain false) (Rows.scriptEqualsSpec.post enc Try.prog Try.f5 false true false false) := by
  refine returnsInHanded_of_change (C := Try.checked) own started (by kernel_rfl) Try.func5
    (ChangeSpec.witness6 (enc := enc) (C := Try.checked) false ⟨#[], #[.agg #[.int .i64 0, .int .i64 0, .int .i64 0, .slice none 0 0, .int .i64 0, .int .i64 0, .slice none 0 0, .int .i64 0, .int .i64 0, .string ⟨#[]⟩, .slice none 0 0, .slice none 0 0, .slice none 0 0, .int .u64 0, .int .u64 0, .string ⟨#[]⟩, .string ⟨#[]⟩, .string ⟨#[]⟩, .int .i64 0, .int .i64 0, .slice none 0 0, .int .u64 0, .int .i64 0, .slice none 0 0, .int .u64 0], .agg #[.int .i64 0, .int .i64 0, .int .i64 0, .slice none 0 0, .int .i64 0, .int .i64 0, .slice none 0 0, .int .i64 0, .int .i64 0, .string ⟨#[]⟩, .slice none 0 0, .slice none 0 0, .slice none 0 0, .int .u64 0, .int .u64 0, .string ⟨#[]⟩, .string ⟨#[]⟩, .string ⟨#[]⟩, .int .i64 0, .int .i64 0, .slice none 0 0, .int .u64 0, .int .i64 0, .slice none 0 0, .int .u64 0]], []⟩ 8 (by kernel_rfl) (by kernel_rfl) (by kernel_rfl) (by kernel_rfl)) ?_
  intro W base args ds gs before hval0 hW hcnd _
  have hval : ∀ (j : Nat) t v, Try.f5.params[j]? = some t → args[j]? = some v → Value.okWide Try.prog W .any base t v := hval0
  have hW' := hW
  obtain ⟨p, q, hA0, hV, rfl, hfz, hnd⟩ := hW
  have hTA : DataW.TrodAll enc Try.prog W 0 (fun _ => true) true Try.f5.params.toList args.toList ds p := hA0
  rw [Try.params5] at hTA hval
  obtain ⟨v0, vs0, d0, ds0, p0, q0, hargs, rfl, rfl, h0, r0⟩ := trodAll_cons hTA
  obtain ⟨v1, vs1, d1, ds1, p1, q1, rfl, rfl, rfl, h1, r1⟩ := trodAll_cons r0
  obtain ⟨rfl, rfl, rfl⟩ := trodAll_nil r1
  obtain rfl : args = #[v0, v1] := by cases args; simp_all
  obtain ⟨rfl, rfl⟩ := trodVars_none hV
  obtain ⟨c0, rfl⟩ := okWide_agg Try.underlying51 (hval 0 51 v0 rfl rfl)
  have k0 := h0
  have lt0 : ∀ x ∈ p0, x.block < W.heap.size := by obtain ⟨m, hm⟩ := k0; exact DataW.trod_lt m _ _ _ hm
  obtain ⟨c1, rfl⟩ := okWide_agg Try.underlying51 (hval 1 51 v1 rfl rfl)
  have k1 := h1
  have lt1 : ∀ x ∈ p1, x.block < W.heap.size := by obtain ⟨m, hm⟩ := k1; exact DataW.trod_lt m _ _ _ hm
  obtain ⟨f0, g0⟩ := h0
  obtain ⟨a, pa, e0, H0⟩ := open_did g0
  obtain ⟨f1, g1⟩ := h1
  obtain ⟨b, pb, e1, H1⟩ := open_did g1
  have e0' : c0 = (didC a pa).toArray := by rw [← e0]; rfl
  have e1' : c1 = (didC b pb).toArray := by rw [← e1]; rfl
  clear hA0 hval0
  refine ((by rw [e0', e1']; exact walk a b pa pb W H0 H1 : Law 5 #[.agg c0, .agg c1] W)).mono fun e W' ⟨he, bel⟩ => ?_
  subst he
  exact ⟨_, rfl, _, _, _, [], _, [], hW', trodAll_mk1 (shut_bool Try.underlying4 _), (trodAll_cons_mk (Below.trod laidOut (by kernel_rfl) (of_decide_eq_true (by kernel_rfl)) k0 bel lt0) (trodAll_cons_mk (Below.trod laidOut (by kernel_rfl) (of_decide_eq_true (by kernel_rfl)) k1 bel lt1) trodAll_mk0)), rfl, bel.frame _, fun h => by cases h⟩

theorem scriptEquals_of (walk : scriptEqualsWalk) : Rows.ScriptEqualsSaid :=
  OpenClaim.holds_of_wide 5 Try.f5 rfl rfl rfl rfl rfl rfl rfl ⟨rfl, rfl, rfl, rfl, rfl⟩ rfl rfl rfl rfl rfl (by kernel_rfl) Try.func5 (by kernel_rfl)
    (of_decide_eq_true (by kernel_rfl)) (by unfold Func.isWrapper; first | (rw [if_pos (by decide +kernel)]; kernel_rfl) | (rw [if_neg (by decide +kernel)]; exact ⟨rfl, rfl⟩))
    (fun os started H enc _ => scriptEquals_lifted walk os started H enc)
end Go.Proofs.Ytnmhmabifeapkaa.Ord
