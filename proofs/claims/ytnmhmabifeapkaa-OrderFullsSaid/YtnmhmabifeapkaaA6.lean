/- The library's SortFunc over a row of indices of calls, by their Done. -/
import Derived.Test.YtnmhmabifeapkaaA5
import Derived.Test.YtnmhmabifeapkaaShelf
namespace Go.Proofs.Ytnmhmabifeapkaa.Ord
open Go.RowKit Go.Sort Go.Lib
set_option linter.unusedVariables false

theorem heap_sortedG {α : Type} [Inhabited α] {enc : α → Value} {w : World} {g n : Nat} {os : Array Obj} {cur : Array Value} {e : TypeId} {fr : Nat × Nat} (d : Array α) (hb : w.heap[g]? = some (.cells cur e fr)) :
    (grow (putRow enc (Sort.ahead w n) g 0 d) os).heap[g]? = some (.cells (putCells enc 0 d cur) e fr) := by
  have hg : g < w.heap.size := (Array.getElem?_eq_some_iff.1 hb).1
  rw [heap_grow_old _ _ (by simpa using hg)]
  simp [putRow, mapBlock, Sort.ahead, Array.getElem?_modify, hb, onCells]

theorem grownBy_sortedG {α : Type} [Inhabited α] {enc : α → Value} {w : World} {g n : Nat} {os : Array Obj} (d : Array α) : w.grownBy (grow (putRow enc (Sort.ahead w n) g 0 d) os) (some g) := by
  refine ⟨rfl, rfl, rfl, by simp, fun k hk hne => ?_⟩
  rw [heap_grow_old _ _ (by simpa using hk)]
  have : g ≠ k := fun e => hne (by rw [e])
  simp [putRow, mapBlock, Sort.ahead, Array.getElem?_modify, this]

theorem take_putCellsG {α : Type} [Inhabited α] {enc : α → Value} (cur : Array Value) (ts : List α) (h : ts.length ≤ cur.size) : (putCells enc 0 ts.toArray cur).toList.take ts.length = ts.map enc := by
  apply List.ext_getElem?
  intro j
  by_cases hj : j < ts.length
  · rw [List.getElem?_take_of_lt hj, Array.getElem?_toList]
    simp [putCells, hj, show j < cur.size by omega]
  · rw [List.getElem?_take_eq_none (by omega), List.getElem?_eq_none (by simp; omega)]

theorem compare_lt (x y : Int) : ltOf compareInt x y = decide (x < y) := by
  unfold ltOf compareInt
  by_cases h1 : x < y
  · simp [h1]
  · by_cases h2 : y < x <;> simp [h1, h2]

theorem swo_key {α : Type} (f : α → Int) : SWO (ltOf fun x y => compareInt (f x) (f y)) := by
  have h : ∀ x y, (ltOf fun x y => compareInt (f x) (f y)) x y = decide (f x < f y) := fun x y => compare_lt (f x) (f y)
  constructor
  · intro x; rw [h]; simp
  · intro x y z h1 h2; rw [h] at *; simp at *; omega
  · intro x y z h1 h2; rw [h] at *; simp at *; omega

/-- the closure that Commits hands to the sort -/
theorem commitsCmp (b off N capA B : Nat) (l : List CallC) (x y : Nat) (W : World) (hN : l.length = N) (hN2 : N ≤ 5000) (hx : x < N) (hy : y < N)
    (hB : W.cell? ⟨B, 0, none⟩ = some (.slice (some ⟨b, off, none⟩) N capA)) (hcx : W.cell? ⟨b, off + x * 23 + 20, none⟩ = some (.int .i64 (at_ l x).d)) (hcy : W.cell? ⟨b, off + y * 23 + 20, none⟩ = some (.int .i64 (at_ l y).d)) :
    Calls Try.prog 49 #[.int .i64 x, .int .i64 y, .pointer (some ⟨B, 0, none⟩)] W fun e w' => e = .returned (.int .i64 (compareInt (at_ l x).d (at_ l y).d)) ∧ ∃ q, w' = W.drewN q := by
  have HN := Lib.hid hN
  clear hN
  generalize (at_ l x).d = dx at *
  generalize (at_ l y).d = dy at *
  have hcon := Lib.hid (fun W => Try.cmp_Compare_int dx dy W)
  generalize compareInt dx dy = r at *
  go_enter Try.func49, Try.ntmps49
  go_wp2_with fail
  go_quiet ((go_at_call 50; exact Calls.quiet_of_same (hcon.out _)))
  go_wp2
  go_ret
  exact ⟨rfl, _, rfl⟩

theorem regrow_cell {w : World} {g n : Nat} {os : Array Obj} {α : Type} [Inhabited α] {enc : α → Value} {d : Array α} {p : Addr} {v : Value} (h : w.cell? p = some v) (hne : p.block ≠ g) : (sortWorld enc w g 0 n d os).cell? p = some v := by
  have hg := grownBy_sortedG (enc := enc) (w := w) (g := g) (n := n) (os := os) d
  exact hg.cell h (by simpa using hne)

theorem sort_done (b off N capA B g cap base : Nat) (l : List CallC) (xs : List Nat) (w : World) (hN : l.length = N) (hN2 : N ≤ 5000) (hx : ∀ x ∈ xs, x < N) (h0 : 0 < xs.length)
    (hB : w.cell? ⟨B, 0, none⟩ = some (.slice (some ⟨b, off, none⟩) N capA)) (hBg : B ≠ g) (hbg : b ≠ g) (hA : ∀ n, n < N → w.cell? ⟨b, off + n * 23 + 20, none⟩ = some (.int .i64 (at_ l n).d))
    (hown : w.ownsRow base 3 1 (.slice (some ⟨g, 0, none⟩) xs.length cap) xs.length (xs.map fun (x : Nat) => Value.int .i64 (x : Int))) (hlen : xs.length ≤ 5000) :
    Calls Try.prog 48 #[.slice (some ⟨g, 0, none⟩) xs.length cap, .func (.func 49) #[] #[.pointer (some ⟨B, 0, none⟩)]] w fun e w' => e = .returned (.tuple #[]) ∧ ∃ ys : List Nat, ys.Perm xs ∧ ys.Pairwise (fun (x y : Nat) => (at_ l x).d ≤ (at_ l y).d) ∧
      w'.ownsRow base 3 1 (.slice (some ⟨g, 0, none⟩) ys.length cap) ys.length (ys.map fun (x : Nat) => Value.int .i64 (x : Int)) ∧ w.grownBy w' (some g) := by
  have hN0 : 0 < N := by
    have := hx xs[0] (List.getElem_mem h0)
    omega
  haveI : Inhabited (Fin N) := ⟨⟨0, hN0⟩⟩
  let zs : List (Fin N) := xs.pmap (fun x h => ⟨x, h⟩) hx
  have hzs : zs.map (fun z => z.1) = xs := by simp [zs, List.map_pmap]
  have hzl : zs.length = xs.length := by simp [zs]
  let enc : Fin N → Value := fun z => .int .i64 (z.1 : Int)
  have henc : xs.map (fun (x : Nat) => Value.int .i64 (x : Int)) = zs.map enc := by rw [← hzs, List.map_map]; rfl
  rcases hown.2 with ⟨h, _⟩ | ⟨g', cap', cur, he, hbase, hh, hnc, hcm, hcs, htake⟩
  · cases h
  cases he
  rw [henc] at htake
  have hcur : cur.size = cap := by omega
  have hH : Holds enc w g 0 zs.toArray := by
    intro j hj
    have hj' : j < zs.length := by simpa using hj
    refine ⟨?_, by simp [World.frozen?, hh]⟩
    have h1 : (cur.toList.take (xs.length * 1))[j]? = (zs.map enc)[j]? := by rw [htake]
    rw [List.getElem?_take_of_lt (by omega)] at h1
    simp only [World.cell?, hh, Nat.zero_add]
    simp only [Option.isSome_none, Bool.false_eq_true, if_false]
    rw [← Array.getElem?_toList, h1]
    simp [hj']
  have hcmp : CmpLays1 Try.prog 49 #[.pointer (some ⟨B, 0, none⟩)] enc (fun x y => compareInt (at_ l x.1).d (at_ l y.1).d) g 0 zs.toArray.size w := by
    intro m os dk hs x y
    refine (commitsCmp b off N capA B l x.1 y.1 _ hN hN2 x.2 y.2 (regrow_cell hB hBg) (regrow_cell (hA _ x.2) hbg) (regrow_cell (hA _ y.2) hbg)).mono ?_
    rintro e w' ⟨he, q, hq⟩
    exact ⟨he, q, #[], by rw [grow_empty, hq]⟩
  have eg : ∀ args w, (callFunc 49 args).run Try.prog w = .ok (.enter 49 args) w := Go.Proofs.enters_of Try.func49 (by kernel_rfl) rfl
  have hcon := Try.slices_SortFunc enc (fun _ => rfl) (fun x y => compareInt (at_ l x.1).d (at_ l y.1).d) (swo_key fun x : Fin N => (at_ l x.1).d) 49 #[.pointer (some ⟨B, 0, none⟩)] g 0 cap zs.toArray w eg hcmp hH (Array.getElem?_eq_some_iff.1 hh).1 (by simp [hzl]; omega)
  rw [show zs.toArray.size = xs.length by simp [hzl]] at hcon
  refine hcon.mono ?_
  rintro e w' ⟨he, d', n, os, hp, hs, rfl⟩
  have hps : d'.size = xs.length := by rw [hp.1]; simp [hzl]
  have hperm : d'.toList.Perm zs := by
    have h3 := hp.2.2
    have e1 : (d'.extract 0 xs.length) = d' := by rw [← hps]; simp
    have e2 : (zs.toArray.extract 0 xs.length) = zs.toArray := by rw [← hzl]; simp
    rw [e1, e2] at h3
    exact h3
  refine ⟨he, d'.toList.map (fun z => z.1), ?_, ?_, ?_, ?_⟩
  · rw [← hzs]; exact hperm.map _
  · rw [List.pairwise_map, List.pairwise_iff_getElem]
    intro i j hi hj hij
    have h4 := hs i j (Nat.zero_le _) hij (by simp at hj; omega)
    have e1 : d'[i]! = d'.toList[i] := by simp at hi; simp [hi]
    have e2 : d'[j]! = d'.toList[j] := by simp at hj; simp [hj]
    rw [e1, e2] at h4
    have h5 := compare_lt (at_ l (d'.toList[j]).1).d (at_ l (d'.toList[i]).1).d
    unfold ltOf at h4 h5
    rw [h4] at h5
    have := of_decide_eq_false h5.symm
    omega
  · have hl2 : (d'.toList.map (fun z => z.1)).length = xs.length := by simp [hps]
    rw [hl2]
    refine ⟨by simp [hps], .inr ⟨g, cap, _, rfl, hbase, heap_sortedG d' hh, hnc, hcm, by simp [putCells, hcs], ?_⟩⟩
    have h6 := take_putCellsG (enc := enc) cur d'.toList (by simp [hps]; omega)
    have h7 : xs.length * 1 = d'.toList.length := by simp [hps]
    rw [h7]
    have h8 : d'.toList.toArray = d' := by simp
    rw [h8] at h6
    rw [h6, List.map_map]
    rfl
  · exact grownBy_sortedG d'
end Go.Proofs.Ytnmhmabifeapkaa.Ord
