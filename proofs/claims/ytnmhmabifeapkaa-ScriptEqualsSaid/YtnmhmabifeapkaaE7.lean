/- Walk of the law's light. (Printed by wip/tools/genE7.py.) -/
import Derived.Test.YtnmhmabifeapkaaE6
namespace Go.Proofs.Ytnmhmabifeapkaa.Ord
open Go.RowKit
set_option linter.unusedVariables false

set_option maxRecDepth 100000 in
set_option maxHeartbeats 8000000 in
theorem light19 (d : DidR) (p : DidV) (w : World) (hd : DidOk w w.heap.size d p) :
    Calls Try.prog 19 #[.agg (didC d p).toArray] w fun e w' => ∃ L, e = .returned (.bool L) ∧ (L = true → d.step.d.length ≤ 300) ∧ Below w.heap.size w w' := by
  have h1 := cells_lit w (didC d p) _ 51 rfl
  have h4 := below1 w (.cells (didC d p).toArray 51)
  have h3 : (w.alloc (.cells (didC d p).toArray 51)).heap.size = w.heap.size + 1 := by simp
  have ha0 := (hd.below h4 (Nat.le_refl _)).mono h4.size
  clear hd
  obtain ⟨W0, hW0⟩ : ∃ W0, w.alloc (.cells (didC d p).toArray 51) = W0 := ⟨_, rfl⟩
  rw [hW0] at h1 h3 h4 ha0
  have ho : ∀ W, Below W0.heap.size W0 W → DidOk W W.heap.size d p := fun W hW => (ha0.below hW (Nat.le_refl _)).mono hW.size
  obtain ⟨⟨sk, sc, sn, sd⟩, err, n, data, micro, ⟨op, key, keys, val, tags, life, ver, tag, pre, chi⟩, ⟨rop, rerr, items, rver, rcount, nums⟩, tim⟩ := d
  obtain ⟨vs, vd, vk, vv, vt, vi, vn⟩ := p
  obtain ⟨⟨x1, x2, A1, c1, rfl, x3⟩, ⟨x4, x5, A2, c2, rfl, x6⟩, ⟨⟨x7, A3, c3, rfl, x8⟩, ⟨x9, x10, A4, c4, rfl, x11⟩, ⟨x12, A5, c5, rfl, x13⟩⟩, ⟨⟨x14, A6, c6, rfl, x15⟩, x16, A7, c7, rfl, x17⟩⟩ := ha0
  clear x1 x2 x3 x4 x5 x6 x7 x8 x9 x10 x11 x12 x13 x14 x15 x16 x17
  have hK : ∀ W, Below W0.heap.size W0 W → ElV Value.string W W.heap.size A3 keys := fun W hW => by
    obtain ⟨_, A, c, h1, h2⟩ := (ho W hW).2.2.1.1; cases h1; exact h2
  have hT : ∀ W, Below W0.heap.size W0 W → ElV Value.string W W.heap.size A5 tags := fun W hW => by
    obtain ⟨_, A, c, h1, h2⟩ := (ho W hW).2.2.1.2.2; cases h1; exact h2
  have hI : ∀ W, Below W0.heap.size W0 W → ItemsAt W W.heap.size A6 items := fun W hW => by
    obtain ⟨_, A, c, h1, h2⟩ := (ho W hW).2.2.2.1; cases h1; exact h2
  clear ho
  have HK := Lib.hid hK
  have HT := Lib.hid hT
  have HI := Lib.hid hI
  simp only [didC, didL] at h1 hW0 ⊢
  have HC1 := Lib.hid h1
  have HSZ := Lib.hid h3
  have HB := Lib.hid h4
  have HW0 := Lib.hid hW0
  clear hK hT hI h1 h3 h4 hW0
  go_enter Try.func19, Try.ntmps19
  go_upto_region 1 with (fail)
  rw [HW0.out]
  refine region19 _ (fun d v c a w h => by cases d <;> exact h) W0 w.heap.size op key A3 A4 A5 keys.length c3 val.length c4 tags.length c5 life ver tag pre chi rop rerr A6 A7 items.length c6 nums.length c7 rver rcount _ _ _ _ _ _ _ _ _ _ _ _ _ _ _ _ _ _ _ _ _ _ _ _ _ _ _ _ _ _ _ _ _ _ _ _ _ _ _ _ _ _ _ _ _ _ _ _ _ _ _ _ _ _ _ _ _ _ _ _ _ _ _ _ _ _ _ _ _ _ _ _ _ _ _ _ _ _ _ _ _ _ _ _ _ _ _ _ _ _ _ _ _ _ _ _ _ _ _ _ _ _ _ _ _ _ _ _ _ _ _ _ _ _ _ _ _ _ _ (by rw [HSZ.out]; omega) (HC1.out.slice 8 10) (HC1.out.slice 18 6) ?_
  intro u8 u9 u10 u11 g3 g4 W r3 r4 hb
  have hbe := HB.out.trans (hb.mono HB.out.size)
  have b1 := HC1.out.below hb (show w.heap.size < _ by rw [HSZ.out]; omega)
  have fs := b1.cell0 (j := 3) rfl
  have fd := b1.cell0 (j := 6) rfl
  have fk : W.cell? ⟨g3, 1, none⟩ = some (.string key) := World.rowIs.cell r3 (i := 1) (by decide)
  have fks : W.cell? ⟨g3, 2, none⟩ = some (.slice A3 keys.length c3) := World.rowIs.cell r3 (i := 2) (by decide)
  have fv : W.cell? ⟨g3, 3, none⟩ = some (.slice A4 val.length c4) := World.rowIs.cell r3 (i := 3) (by decide)
  have ft : W.cell? ⟨g3, 4, none⟩ = some (.slice A5 tags.length c5) := World.rowIs.cell r3 (i := 4) (by decide)
  have f7 : W.cell? ⟨g3, 7, none⟩ = some (.string tag) := World.rowIs.cell r3 (i := 7) (by decide)
  have f8 : W.cell? ⟨g3, 8, none⟩ = some (.string pre) := World.rowIs.cell r3 (i := 8) (by decide)
  have f9 : W.cell? ⟨g3, 9, none⟩ = some (.string chi) := World.rowIs.cell r3 (i := 9) (by decide)
  have fi : W.cell? ⟨g4, 2, none⟩ = some (.slice A6 items.length c6) := World.rowIs.cell r4 (i := 2) (by decide)
  have fn : W.cell? ⟨g4, 5, none⟩ = some (.slice A7 nums.length c7) := World.rowIs.cell r4 (i := 5) (by decide)
  have HKW := Lib.hid (HK.out W hb)
  have HTW := Lib.hid (HT.out W hb)
  have HIW := Lib.hid (HI.out W hb)
  clear r3 r4 b1 HC1 HK HT HI
  obtain ⟨L1, hL1⟩ : ∃ L, sd.length = L := ⟨_, rfl⟩
  obtain ⟨L2, hL2⟩ : ∃ L, data.length = L := ⟨_, rfl⟩
  obtain ⟨L3, hL3⟩ : ∃ L, keys.length = L := ⟨_, rfl⟩
  obtain ⟨L4, hL4⟩ : ∃ L, val.length = L := ⟨_, rfl⟩
  obtain ⟨L5, hL5⟩ : ∃ L, tags.length = L := ⟨_, rfl⟩
  obtain ⟨L6, hL6⟩ : ∃ L, items.length = L := ⟨_, rfl⟩
  obtain ⟨L7, hL7⟩ : ∃ L, nums.length = L := ⟨_, rfl⟩
  simp only [hL1, hL2, hL3, hL4, hL5, hL6, hL7] at fs fd fks fv ft fi fn ⊢
  have N1 := Lib.hid hL1
  have N3 := Lib.hid hL3
  have N5 := Lib.hid hL5
  have N6 := Lib.hid hL6
  clear hL1 hL2 hL3 hL4 hL5 hL6 hL7
  cases t0 : decide ((300 : Int) < (L1 : Int))
  case true =>
    go_wp2_with fail
    go_ret
    exact ⟨false, rfl, (fun h => by cases h), hbe⟩
  cases t1 : decide ((300 : Int) < (L2 : Int))
  case true =>
    go_wp2_with fail
    go_ret
    exact ⟨false, rfl, (fun h => by cases h), hbe⟩
  cases t2 : decide ((300 : Int) < (key.size : Int))
  case true =>
    go_wp2_with fail
    go_ret
    exact ⟨false, rfl, (fun h => by cases h), hbe⟩
  cases t3 : decide ((300 : Int) < (L4 : Int))
  case true =>
    go_wp2_with fail
    go_ret
    exact ⟨false, rfl, (fun h => by cases h), hbe⟩
  cases t4 : decide ((40 : Int) < (L3 : Int))
  case true =>
    go_wp2_with fail
    go_ret
    exact ⟨false, rfl, (fun h => by cases h), hbe⟩
  cases t5 : decide ((40 : Int) < (L5 : Int))
  case true =>
    go_wp2_with fail
    go_ret
    exact ⟨false, rfl, (fun h => by cases h), hbe⟩
  cases t6 : decide ((300 : Int) < (tag.size : Int))
  case true =>
    go_wp2_with fail
    go_ret
    exact ⟨false, rfl, (fun h => by cases h), hbe⟩
  cases t7 : decide ((300 : Int) < (pre.size : Int))
  case true =>
    go_wp2_with fail
    go_ret
    exact ⟨false, rfl, (fun h => by cases h), hbe⟩
  cases t8 : decide ((300 : Int) < (chi.size : Int))
  case true =>
    go_wp2_with fail
    go_ret
    exact ⟨false, rfl, (fun h => by cases h), hbe⟩
  cases t9 : decide ((40 : Int) < (L6 : Int))
  case true =>
    go_wp2_with fail
    go_ret
    exact ⟨false, rfl, (fun h => by cases h), hbe⟩
  cases t10 : decide ((40 : Int) < (L7 : Int))
  case true =>
    go_wp2_with fail
    go_ret
    exact ⟨false, rfl, (fun h => by cases h), hbe⟩
  have hl1 : L1 ≤ 300 := by simp at t0; omega
  have hl3 : L3 ≤ 40 := by simp at t4; omega
  have hl5 : L5 ≤ 40 := by simp at t5; omega
  have hl6 : L6 ≤ 40 := by simp at t9; omega
  go_wp2_with fail
  clear t0 t1 t2 t3 t4 t5 t6 t7 t8 t9 t10
  go_loopw [5] (fun j wr => ∃ k : Nat, k ≤ L3 ∧ j = .int .i64 k ∧ wr = W) (fun j _ => L3 - (intOf j).toNat)
  case atStart => exact ⟨0, Nat.zero_le _, rfl, rfl⟩
  case round =>
    obtain ⟨k, hk, rfl, rfl⟩ := hrel
    by_cases hlt : k < L3
    · obtain ⟨x, hx⟩ : ∃ x, keys[k]? = some x := ⟨keys[k]'(by rw [N3.out]; exact hlt), List.getElem?_eq_getElem _⟩
      obtain ⟨b, off, rfl, hbB, hc⟩ := HKW.out k x hx
      clear hx
      have hg : decide ((k : Int) < (L3 : Int)) = true := by simp; omega
      cases h300 : decide ((300 : Int) < (x.size : Int))
      · go_wp2_with fail
        go_roundw
        case rel => exact ⟨k + 1, by omega, by go_num, by first | trivial | rfl⟩
        case measure => simp [intOf]; omega
      · go_wp2_with fail
        go_ret
        exact ⟨false, rfl, (fun h => by cases h), hbe⟩
    · obtain rfl : k = L3 := by omega
      have hg : decide ((k : Int) < (k : Int)) = false := by simp
      go_wp2_with fail
      clear hg
      go_loopw [6] (fun j wr2 => ∃ k2 : Nat, k2 ≤ L5 ∧ j = .int .i64 k2 ∧ wr2 = wr) (fun j _ => L5 - (intOf j).toNat)
      case atStart => exact ⟨0, Nat.zero_le _, rfl, rfl⟩
      case round =>
        obtain ⟨k2, hk2, rfl, rfl⟩ := hrel
        by_cases hlt2 : k2 < L5
        · obtain ⟨x, hx⟩ : ∃ x, tags[k2]? = some x := ⟨tags[k2]'(by rw [N5.out]; exact hlt2), List.getElem?_eq_getElem _⟩
          obtain ⟨b, off, rfl, hbB, hc⟩ := HTW.out k2 x hx
          clear hx
          have hg : decide ((k2 : Int) < (L5 : Int)) = true := by simp; omega
          cases h300 : decide ((300 : Int) < (x.size : Int))
          · go_wp2_with fail
            go_roundw
            case rel => exact ⟨k2 + 1, by omega, by go_num, by first | trivial | rfl⟩
            case measure => simp [intOf]; omega
          · go_wp2_with fail
            go_ret
            exact ⟨false, rfl, (fun h => by cases h), hbe⟩
        · obtain rfl : k2 = L5 := by omega
          have hg : decide ((k2 : Int) < (k2 : Int)) = false := by simp
          go_wp2_with fail
          clear hg
          go_loopw [7] (fun j wr3 => ∃ k3 : Nat, k3 ≤ L6 ∧ j = .int .i64 k3 ∧ wr3 = wr) (fun j _ => L6 - (intOf j).toNat)
          case atStart => exact ⟨0, Nat.zero_le _, rfl, rfl⟩
          case round =>
            obtain ⟨k3, hk3, rfl, rfl⟩ := hrel
            by_cases hlt3 : k3 < L6
            · obtain ⟨b, off, v, rfl, hbB, hck, hdk⟩ := HIW.out.at (n := k3) (by rw [N6.out]; exact hlt3)
              obtain ⟨y1, y2, A8, c8, rfl, y3⟩ := hdk
              have hcell := hck 1 _ rfl
              rw [Addr.add_mid] at hcell
              obtain ⟨L8, hL8⟩ : ∃ L, (iAt items k3).val.length = L := ⟨_, rfl⟩
              rw [hL8] at hcell
              clear hL8 y1 y2 y3 hck
              have hg : decide ((k3 : Int) < (L6 : Int)) = true := by simp; omega
              cases h300 : decide ((300 : Int) < (L8 : Int))
              · go_wp2_with fail
                go_roundw
                case rel => exact ⟨k3 + 1, by omega, by go_num, by first | trivial | rfl⟩
                case measure => simp [intOf]; omega
              · go_wp2_with fail
                go_ret
                exact ⟨false, rfl, (fun h => by cases h), hbe⟩
            · obtain rfl : k3 = L6 := by omega
              have hg : decide ((k3 : Int) < (k3 : Int)) = false := by simp
              go_wp2_with fail
              go_ret
              exact ⟨true, rfl, (fun _ => by show sd.length ≤ 300; rw [N1.out]; exact hl1), hbe⟩
end Go.Proofs.Ytnmhmabifeapkaa.Ord
