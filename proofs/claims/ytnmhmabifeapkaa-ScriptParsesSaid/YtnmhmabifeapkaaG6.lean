/- Walk of the part of short commands with many keys. -/
import Derived.Test.YtnmhmabifeapkaaG5
namespace Go.Proofs.Ytnmhmabifeapkaa.Ord
open Go.RowKit
set_option linter.unusedVariables false

def keysTo (s : ByteArray) (z i : Nat) : List ByteArray := (if z = 0 then [s] else []) ++ (((List.range i).filter fun i => z / 2 ^ i % 2 == 1).map keyN)
def manyF (op : Int) (s : ByteArray) (vt : Value) : Nat → Value := listF (cmdX op s vt nilV nilV 0 0 ⟨#[]⟩ ⟨#[]⟩ ⟨#[]⟩)
theorem manyF_set (op : Int) (s : ByteArray) (v v' : Value) (j : Nat) (hj : j < 10) : (if j = 2 then v' else manyF op s v j) = manyF op s v' j := by
  match j, hj with | 0, _ | 1, _ | 2, _ | 3, _ | 4, _ | 5, _ | 6, _ | 7, _ | 8, _ | 9, _ => rfl
theorem below_drew {B : Nat} {a b : World} (h : Below B a b) : Below B a b.drew := ⟨h.os, h.tape, h.output, h.size, h.block⟩
theorem bit_and256 (z i : Nat) (hz : z < 256) : (bits BinOp.and IntKind.i64 ((z : Int) / 2 ^ i) 1 == 1) = (z / 2 ^ i % 2 == 1) := by
  have h : ∀ m : Fin 256, (bits BinOp.and IntKind.i64 (m.1 : Int) 1 == 1) = (m.1 % 2 == 1) := by decide +kernel
  have hm : z / 2 ^ i < 256 := Nat.lt_of_le_of_lt (Nat.div_le_self _ _) hz
  have := h ⟨z / 2 ^ i, hm⟩
  simpa using this
theorem keysTo_yes (s : ByteArray) {z i : Nat} (h : z / 2 ^ i % 2 = 1) : keysTo s z i ++ [keyN i] = keysTo s z (i + 1) := by
  unfold keysTo
  rw [List.range_succ, List.filter_append, List.map_append, List.append_assoc]
  simp [h]
theorem keysTo_no (s : ByteArray) {z i : Nat} (h : ¬ z / 2 ^ i % 2 = 1) : keysTo s z i = keysTo s z (i + 1) := by
  unfold keysTo
  rw [List.range_succ, List.filter_append, List.map_append]
  simp [h]
theorem keysTo_len (s : ByteArray) (z i : Nat) : (keysTo s z i).length ≤ i + 1 := by
  unfold keysTo
  rw [List.length_append, List.length_map]
  have h1 := List.length_filter_le (fun i => z / 2 ^ i % 2 == 1) (List.range i)
  rw [List.length_range] at h1
  split <;> simp <;> omega
theorem f102_name : (Try.f102.name == "runtime.NumGoroutine") = false := by kernel_rfl
theorem f102_body : Try.f102.body.isSome = true := by kernel_rfl
set_option maxRecDepth 100000 in
set_option maxHeartbeats 2000000 in
theorem part105 (op : Int) (s : ByteArray) (z u C : Nat) (N : List Nat) (W : World) (hz : z < 256) (hN : ∀ k ∈ N, k < W.heap.size) (hC : W.rowIs C 45 10 (listF (cmdX op s nilV nilV nilV 0 0 ⟨#[]⟩ ⟨#[]⟩ ⟨#[]⟩))) : Calls Try.prog 105 #[.pointer (some ⟨C, 0, none⟩), .int .i64 z, .int .i64 u] W fun e w' =>
    e = .returned (.tuple #[]) ∧ ∃ vk, w'.rowIs C 45 10 (listF (cmdX op ⟨#[]⟩ vk nilV nilV 0 0 ⟨#[]⟩ ⟨#[]⟩ ⟨#[]⟩)) ∧ SlN w' (C :: N) vk (keysTo s z 8) ∧ Kept [C] W w' := by
  have hCl := World.rowIs.lt hC
  have HK := Lib.hid (fun i (hi : i < 1000) w => key102 i hi w)
  have hc1 : W.cell? ⟨C, 1, none⟩ = some (.string s) := World.rowIs.cell hC (i := 1) (by decide)
  have hc2 : W.cell? ⟨C, 2, none⟩ = some (.slice none 0 0) := World.rowIs.cell hC (i := 2) (by decide)
  have hf2 : W.frozen? ⟨C, 2, none⟩ = false := World.rowIs.frozen hC 2
  have HC := Lib.hid hC
  clear hC
  go_enter Try.func105, Try.ntmps105
  by_cases hz0 : z = 0
  · have hg0 : ((z : Int) == 0) = true := by simp; omega
    have hWl : StrSt W C (manyF op s) (keysTo s z 0) ((W.alloc (.cells #[.string s] 9)).setCell ⟨C, 2, none⟩ (.slice (some ⟨W.heap.size, 0, none⟩) 1 1)) (.slice (some ⟨W.heap.size, 0, none⟩) 1 1) := by
      have hk1 := kept1 (W.alloc (.cells #[.string s] 9)) C 2 (.slice (some ⟨W.heap.size, 0, none⟩) 1 1)
      have ho := World.ownsRow_lit (base := W.heap.size) (e := 9) (size := 1) W #[.string s] 1 (Nat.le_refl _) (by unfold maxLen; omega) rfl
      refine ⟨set_keys (World.rowIs.alloc HC.out _) _, ?_, (Kept.of_below (below1 W _)).trans hk1⟩
      have := hk1.own ho hCl
      simpa [keysTo, hz0] using this
    obtain ⟨w1, hw1⟩ : ∃ w1, (W.alloc (.cells #[.string s] 9)).setCell ⟨C, 2, none⟩ (.slice (some ⟨W.heap.size, 0, none⟩) 1 1) = w1 := ⟨_, rfl⟩
    rw [hw1] at hWl
    have HST := Lib.hid hWl
    clear hWl
    go_wp2_with fail
    clear hc1 hc2 hf2 hw1
    go_loopw [17] (fun j wr => ∃ (i : Nat) (vt : Value), i ≤ 8 ∧ j = .int .i64 i ∧ StrSt W C (manyF op s) (keysTo s z i) wr vt) (fun j _ => 8 - (intOf j).toNat)
    case atStart => exact ⟨0, _, by omega, rfl, HST.out⟩
    case round =>
      obtain ⟨i, vt, hi, rfl, hs⟩ := hrel
      have hcr := hs.cell (k := 2) (by decide) rfl
      by_cases h8 : i < 8
      · have hg8 : decide ((i : Int) < 8) = true := by simp; omega
        have HS := Lib.hid hs
        have hsz := hs.2.2.size
        have HO := Lib.hid (show (wr.alloc (.cells #[.string (keyN i)] 9)).drew.ownsRow W.heap.size 9 1 vt _ _ from World.ownsRow.alloc (w := wr) hs.2.1 (.cells #[.string (keyN i)] 9))
        have HSR := Lib.hid (show Src (wr.alloc (.cells #[.string (keyN i)] 9)).drew (some ⟨wr.heap.size, 0, none⟩) 1 1 [.string (keyN i)] from src_str wr (keyN i))
        have hkl := keysTo_len s z i
        have hcra : (wr.alloc (.cells #[.string (keyN i)] 9)).cell? ⟨C, 2, none⟩ = some vt := World.rowIs.cell (World.rowIs.alloc hs.1 _) (i := 2) (by decide)
        clear hs
        have hbit : ¬ z / 2 ^ i % 2 = 1 := by rw [hz0]; simp
        have hbb : (bits BinOp.and IntKind.i64 ((z : Int) / 2 ^ i) 1 == 1) = false := by rw [bit_and256 z i hz]; simpa using hbit
        go_wp2_with fail
        go_roundw
        case rel => exact ⟨i + 1, vt, by omega, by go_num, HS.out.lst (keysTo_no s hbit)⟩
        case measure => simp [intOf]; omega
      · obtain rfl : i = 8 := by omega
        have hcx1 : wr.cell? ⟨C, 1, none⟩ = some (.string s) := World.rowIs.cell hs.1 (i := 1) (by decide)
        have hfx1 : wr.frozen? ⟨C, 1, none⟩ = false := World.rowIs.frozen hs.1 1
        have HS := Lib.hid hs
        clear hs
        go_wp2_with fail
        go_end0
        have hk1 := kept1 wr C 1 (.string ⟨#[]⟩)
        exact ⟨rfl, vt, set_key HS.out.1 _, SlN.of_own (hk1.own HS.out.2.1 hCl) (fun k hk => by
          rcases List.mem_cons.1 hk with rfl | hk
          · exact hCl
          · exact hN k hk), HS.out.2.2.trans hk1⟩
  · have hg0 : ((z : Int) == 0) = false := by simp; omega
    have hst : StrSt W C (manyF op s) (keysTo s z 0) W nilV := ⟨HC.out, by simpa [keysTo, hz0, nilV] using World.ownsRow_nil _ _ _ _, Kept.refl _ _⟩
    have HST := Lib.hid hst
    clear hst
    go_wp2_with fail
    clear hc1 hc2 hf2
    go_loopw [17] (fun j wr => ∃ (i : Nat) (vt : Value), i ≤ 8 ∧ j = .int .i64 i ∧ StrSt W C (manyF op s) (keysTo s z i) wr vt) (fun j _ => 8 - (intOf j).toNat)
    case atStart => exact ⟨0, nilV, by omega, rfl, HST.out⟩
    case round =>
      obtain ⟨i, vt, hi, rfl, hs⟩ := hrel
      have hcr := hs.cell (k := 2) (by decide) rfl
      by_cases h8 : i < 8
      · have hg8 : decide ((i : Int) < 8) = true := by simp; omega
        have HS := Lib.hid hs
        have hsz := hs.2.2.size
        have HO := Lib.hid (show (wr.alloc (.cells #[.string (keyN i)] 9)).drew.ownsRow W.heap.size 9 1 vt _ _ from World.ownsRow.alloc (w := wr) hs.2.1 (.cells #[.string (keyN i)] 9))
        have HSR := Lib.hid (show Src (wr.alloc (.cells #[.string (keyN i)] 9)).drew (some ⟨wr.heap.size, 0, none⟩) 1 1 [.string (keyN i)] from src_str wr (keyN i))
        have hkl := keysTo_len s z i
        have hcra : (wr.alloc (.cells #[.string (keyN i)] 9)).cell? ⟨C, 2, none⟩ = some vt := World.rowIs.cell (World.rowIs.alloc hs.1 _) (i := 2) (by decide)
        clear hs
        by_cases hbit : z / 2 ^ i % 2 = 1
        · have hbb : (bits BinOp.and IntKind.i64 ((z : Int) / 2 ^ i) 1 == 1) = true := by rw [bit_and256 z i hz, hbit]; rfl
          go_wp2_with fail
          go_region_law (first
            | ((with_reducible refine step_call_any (o := ⟨some 31, _, _, _, _, _⟩) rfl 102 _ _ rfl #[.int .i64 i] ?_ Try.f102 Try.func102 f102_name f102_body (fun u w6 => u = .string (keyN i) ∧ w6 = wr.drew) ?_ ?_); (· simp only [List.map_toArray, List.map_cons, List.map_nil]; rfl); (· exact (HK.out i (by omega) wr.drew).mono fun e w' ⟨h1, h2⟩ => ⟨_, h1, rfl, h2⟩); rintro u6 w6 ⟨rfl, rfl⟩)
            | ((with_reducible refine step_append_src (o := ⟨some 33, _, _, _, _, _⟩) rfl _ _ 41 rfl W.heap.size 9 (.string ⟨#[]⟩) 1 16 Try.underlying41 Try.info9 ?_ ?_ vt _ _ ?_ HO.out (some ⟨wr.heap.size, 0, none⟩) 1 1 [.string (keyN i)] ?_ ?_ HSR.out (one_str _) ?_ ?_ ?_ ?_); (· rfl); (· decide); (· rfl); (· rfl); (· rfl); (· unfold maxLen; omega); (· omega); (· simp; omega); intro v3 w3 hown3 hb3; obtain ⟨A3, cc3, rfl⟩ := owns_len hown3; obtain ⟨hc3, hf3, hs3⟩ := HS.out.append (k := 2) (t := keyN i) (by omega) (by decide) rfl rfl (manyF_set _ _) hown3 ((below_drew ((Below.refl _ _).alloc hsz _)).trans hb3); have HS3 := Lib.hid hs3; clear hown3 hb3 hs3))
          all_goals
            go_wp2_with fail
            go_roundw
            case rel => exact ⟨i + 1, _, by omega, by go_num, HS3.out.lst (keysTo_yes s hbit)⟩
            case measure => simp [intOf]; omega
        · have hbb : (bits BinOp.and IntKind.i64 ((z : Int) / 2 ^ i) 1 == 1) = false := by rw [bit_and256 z i hz]; simpa using hbit
          go_wp2_with fail
          go_roundw
          case rel => exact ⟨i + 1, vt, by omega, by go_num, HS.out.lst (keysTo_no s hbit)⟩
          case measure => simp [intOf]; omega
      · obtain rfl : i = 8 := by omega
        have hcx1 : wr.cell? ⟨C, 1, none⟩ = some (.string s) := World.rowIs.cell hs.1 (i := 1) (by decide)
        have hfx1 : wr.frozen? ⟨C, 1, none⟩ = false := World.rowIs.frozen hs.1 1
        have HS := Lib.hid hs
        clear hs
        go_wp2_with fail
        go_end0
        have hk1 := kept1 wr C 1 (.string ⟨#[]⟩)
        exact ⟨rfl, vt, set_key HS.out.1 _, SlN.of_own (hk1.own HS.out.2.1 hCl) (fun k hk => by
          rcases List.mem_cons.1 hk with rfl | hk
          · exact hCl
          · exact hN k hk), HS.out.2.2.trans hk1⟩
end Go.Proofs.Ytnmhmabifeapkaa.Ord
