/- Walks of the part of short commands that write. -/
import Derived.Test.YtnmhmabifeapkaaG4
import Derived.Test.YtnmhmabifeapkaaM6
import Derived.Test.YtnmhmabifeapkaaM4
namespace Go.Proofs.Ytnmhmabifeapkaa.Ord
open Go.RowKit
set_option linter.unusedVariables false

theorem SlN.of_own {w : World} {B : Nat} {N : List Nat} {v : Value} {l : List ByteArray} (h : w.ownsRow B 9 1 v l.length (l.map Value.string)) (hN : ∀ k ∈ N, k < B) : SlN w N v l := by
  rcases owns_shape h (by decide) with ⟨h1, h2, h3⟩ | ⟨g, cap, h1, h2, hlt, h4, _⟩
  · have hl : l = [] := List.eq_nil_of_length_eq_zero h2
    subst hl
    subst h1
    exact SlN.nil _ _
  · subst h1
    refine ⟨some ⟨g, 0, none⟩, cap, rfl, fun i x hx => ⟨g, 0, rfl, hlt, ?_⟩, fun b off hb _ hm => ?_⟩
    · have := h.cells (g := g) rfl i (.string x) (by simp [hx])
      rwa [show ((⟨g, 0, none⟩ : Addr).add i) = ⟨g, 0 + i, none⟩ by unfold Addr.add; split <;> simp_all] at this
    · cases hb
      have := hN _ hm
      omega

/-- strings are appended to a cell of a command -/
def StrSt (Wb : World) (C : Nat) (F : Value → Nat → Value) (l : List ByteArray) (w : World) (vt : Value) : Prop :=
  w.rowIs C 45 10 (F vt) ∧ w.ownsRow Wb.heap.size 9 1 vt l.length (l.map Value.string) ∧ Kept [C] Wb w
theorem StrSt.cell {Wb w : World} {C k : Nat} {F : Value → Nat → Value} {l : List ByteArray} {vt : Value} (h : StrSt Wb C F l w vt) (hk : k < 10) (hF : F vt k = vt) : w.cell? ⟨C, k, none⟩ = some vt := by
  rw [World.rowIs.cell h.1 hk, hF]
theorem StrSt.append {Wb w w3 : World} {C k n : Nat} {F : Value → Nat → Value} {l : List ByteArray} {t : ByteArray} {vt v3 : Value} (hC : C < Wb.heap.size) (h : StrSt Wb C F l w vt) (hk : k < 10) (hn : l.length = n) (hF : F vt k = vt) (hset : ∀ v v' j, j < 10 → (if j = k then v' else F v j) = F v' j)
    (hown : w3.ownsRow Wb.heap.size 9 1 v3 (n + 1) (l.map Value.string ++ [.string t])) (hb : Below Wb.heap.size w w3) : w3.cell? ⟨C, k, none⟩ = some vt ∧ w3.frozen? ⟨C, k, none⟩ = false ∧ StrSt Wb C F (l ++ [t]) (w3.setCell ⟨C, k, none⟩ v3) v3 := by
  have hr3 : w3.rowIs C 45 10 (F vt) := World.rowIs.of_block h.1 (hb.block C hC)
  have hk1 := kept1 w3 C k v3
  refine ⟨by rw [World.rowIs.cell hr3 hk, hF], World.rowIs.frozen hr3 k, World.rowIs.congr (World.rowIs.set hr3 k v3) fun j hj => hset vt v3 j hj, ?_, (h.2.2.then_below hb).trans hk1⟩
  have := hk1.own hown hC
  subst hn
  simpa using this
theorem StrSt.lst {Wb w : World} {C : Nat} {F : Value → Nat → Value} {l l' : List ByteArray} {vt : Value} (h : StrSt Wb C F l w vt) (e : l = l') : StrSt Wb C F l' w vt := e ▸ h
theorem src_str (w : World) (t : ByteArray) : Src (w.alloc (.cells #[.string t] 9)) (some ⟨w.heap.size, 0, none⟩) 1 1 [.string t] := .inr ⟨_, rfl, row_cells (row_list w [.string t] 9) _ rfl fun i hi => rfl⟩
theorem one_str (t : ByteArray) : ∀ u ∈ [Value.string t], u.oneCell' = true := fun u hu => by
  simp at hu
  subst hu
  rfl

def tagsTo (m i : Nat) : List ByteArray := (if m % 2 = 1 ∧ 1 ≤ i then [⟨#[116]⟩] else []) ++ (if m / 2 % 2 = 1 ∧ 2 ≤ i then [⟨#[117]⟩] else [])
theorem tagsTo_len (m i : Nat) : (tagsTo m i).length ≤ 2 := by
  unfold tagsTo
  split <;> split <;> simp
theorem tagsTo_all (m : Nat) : tagsTo m 2 = tagsN m := by
  unfold tagsTo tagsN
  rcases mod4 m with h | h | h | h <;> rw [h]
  · rw [if_neg (by omega), if_neg (by omega)]; rfl
  · rw [if_pos (by omega), if_neg (by omega)]; rfl
  · rw [if_neg (by omega), if_pos (by omega)]; rfl
  · rw [if_pos (by omega), if_pos (by omega)]; rfl
def tagF (op : Int) (s : ByteArray) (vv : Value) (vt : Value) : Nat → Value := listF (cmdX op s nilV vv vt 0 0 ⟨#[]⟩ ⟨#[]⟩ ⟨#[]⟩)
theorem tagF_set (op : Int) (s : ByteArray) (vv : Value) (v v' : Value) (j : Nat) (hj : j < 10) : (if j = 4 then v' else tagF op s vv v j) = tagF op s vv v' j := by
  match j, hj with | 0, _ | 1, _ | 2, _ | 3, _ | 4, _ | 5, _ | 6, _ | 7, _ | 8, _ | 9, _ => rfl
theorem bit_and (m : Nat) (hm : m < 64) : (bits BinOp.and IntKind.i64 (m : Int) 1 == 1) = (m % 2 == 1) := by
  have : ∀ m : Fin 64, (bits BinOp.and IntKind.i64 (m.1 : Int) 1 == 1) = (m.1 % 2 == 1) := by decide
  exact this ⟨m, hm⟩

set_option maxRecDepth 100000 in
set_option maxHeartbeats 2000000 in
theorem part104 (op : Int) (s : ByteArray) (z u C : Nat) (N : List Nat) (W : World) (hz : z < 256) (hu : u < 256) (hN : ∀ k ∈ N, k < W.heap.size) (hop : op = 1 ∨ op = 2 ∨ op = 3) (hC : W.rowIs C 45 10 (listF (cmdX op s nilV nilV nilV 0 0 ⟨#[]⟩ ⟨#[]⟩ ⟨#[]⟩))) : Calls Try.prog 104 #[.pointer (some ⟨C, 0, none⟩), .int .i64 z, .int .i64 u] W fun e w' =>
    e = .returned (.tuple #[]) ∧ ∃ vv vt, w'.rowIs C 45 10 (listF (cmdX op s nilV vv vt (lifeN (z / 16) : Nat) (if op = 3 then (u / 16 : Nat) else 0) ⟨#[]⟩ ⟨#[]⟩ ⟨#[]⟩)) ∧ SlX w' (C :: N) vv (List.replicate (z % 4) (97 + (u % 16 : Nat))) ∧ SlN w' (C :: N) vt (tagsN (z / 4)) ∧ Kept [C] W w' := by
  obtain ⟨ver, hver⟩ : ∃ ver : Int, (if op = 3 then ((u / 16 : Nat) : Int) else 0) = ver := ⟨_, rfl⟩
  rw [hver]
  have HVER := Lib.hid hver
  have HOP := Lib.hid hop
  clear hver hop
  obtain ⟨n, hn⟩ : ∃ n, z % 4 = n := ⟨_, rfl⟩
  rw [hn]
  have hn4 : n < 4 := by omega
  have hzn : (z : Int) % 4 = (n : Int) := by omega
  have hb8 : (97 + (u : Int) % 16) % 256 = 97 + (u : Int) % 16 := by omega
  have hCl := World.rowIs.lt hC
  have hbA := below1 W (.cells #[.int .u8 (97 + (u : Int) % 16)] 5)
  have hcA : (W.alloc (.cells #[.int .u8 (97 + (u : Int) % 16)] 5)).cell? ⟨W.heap.size, 0, none⟩ = some (.int .u8 (97 + (u : Int) % 16)) := World.rowIs.cell (row_list W [.int .u8 (97 + (u : Int) % 16)] 5) (i := 0) (by simp)
  have HR := Lib.hid (repeat_any W.heap.size (97 + (u : Int) % 16) n hn4 (W.alloc (.cells #[.int .u8 (97 + (u : Int) % 16)] 5)) (by simp) hcA)
  have HC := Lib.hid (World.rowIs.alloc hC (.cells #[.int .u8 (97 + (u : Int) % 16)] 5))
  have HBA := Lib.hid hbA
  have HL := Lib.hid (fun w => life100 (z / 16) (by omega) w)
  clear hbA hC hcA
  go_enter Try.func104, Try.ntmps104
  go_wp2_with fail
  refine HR.out.mono ?_
  rintro e w1 ⟨v, rfl, ⟨A1, c1, rfl, hby1, hlo1⟩, hb1⟩
  rw [List.length_replicate]
  have hb01 : Below W.heap.size W w1 := HBA.out.trans (hb1.mono (by simp))
  have hs01 := hb01.size
  have hC1 : w1.rowIs C 45 10 _ := World.rowIs.of_block HC.out (hb1.block C (World.rowIs.lt HC.out))
  have hc3 : w1.cell? ⟨C, 3, none⟩ = some nilV := World.rowIs.cell hC1 (i := 3) (by decide)
  have hf3 : w1.frozen? ⟨C, 3, none⟩ = false := World.rowIs.frozen hC1 3
  obtain ⟨Wb, hWb, hsb, hst, hvv, hkb⟩ : ∃ Wb, w1.setCell ⟨C, 3, none⟩ (.slice A1 n c1) = Wb ∧ W.heap.size ≤ Wb.heap.size ∧ StrSt Wb C (tagF op s (.slice A1 n c1)) (tagsTo (z / 4) 0) Wb nilV ∧ SlX Wb (C :: N) (.slice A1 n c1) (List.replicate n (97 + (u : Int) % 16)) ∧ Kept [C] W Wb := by
    have hk1 := kept1 w1 C 3 (.slice A1 n c1)
    refine ⟨_, rfl, Nat.le_trans hs01 hk1.size, ⟨set_val hC1 _, by simpa [tagsTo, nilV] using World.ownsRow_nil _ _ _ _, Kept.refl _ _⟩, ⟨A1, c1, by rw [List.length_replicate], ?_, ?_⟩, (Kept.of_below hb01).trans hk1⟩
    · refine hk1.byt hby1 fun x off hA hm => ?_
      have := hlo1 x off hA
      simp at hm this
      omega
    · intro x off hA hm
      have := hlo1 x off hA
      simp at hm this
      rcases hm with rfl | hm
      · omega
      · have := hN x hm
        omega
  have HST := Lib.hid hst
  have HVV := Lib.hid hvv
  have HKB := Lib.hid hkb
  clear hst hvv hkb hby1 hlo1 hb1 hC1
  unfold nilV at hc3
  have hi0 : ∀ w, (Instr.index 185 (.agg #[.string ⟨#[116]⟩, .string ⟨#[117]⟩]) (.int .i64 0)).run Try.prog w = .ok (.string ⟨#[116]⟩) w := fun w => idx185 0 w
  have hi1 : ∀ w, (Instr.index 185 (.agg #[.string ⟨#[116]⟩, .string ⟨#[117]⟩]) (.int .i64 1)).run Try.prog w = .ok (.string ⟨#[117]⟩) w := fun w => idx185 1 w
  go_wp2_with fail
  clear hWb hc3 hf3 hb01
  go_loopw [20] (fun j wr => ∃ (i : Nat) (vt : Value), i ≤ 2 ∧ j = .int .i64 i ∧ StrSt Wb C (tagF op s (.slice A1 n c1)) (tagsTo (z / 4) i) wr vt) (fun j _ => 2 - (intOf j).toNat)
  case atStart => exact ⟨0, nilV, by omega, rfl, HST.out⟩
  case round =>
    obtain ⟨i, vt, hi, rfl, hs⟩ := hrel
    have hcr := hs.cell (k := 4) (by decide) rfl
    rcases (show i = 0 ∨ i = 1 ∨ i = 2 by omega) with rfl | rfl | rfl
    · by_cases hbit : z / 4 % 2 = 1
      · have hbb : (bits BinOp.and IntKind.i64 ((z : Int) / 4) 1 == 1) = true := by have := bit_and (z / 4) (by omega); rw [hbit] at this; exact this
        have HS := Lib.hid hs
        have HO := Lib.hid (World.ownsRow.alloc hs.2.1 (.cells #[.string ⟨#[116]⟩] 9))
        have HSR := Lib.hid (src_str wr ⟨#[116]⟩)
        have hsz := hs.2.2.size
        clear hs
        go_wp2_with ((with_reducible refine wpList_append_src (o := ⟨some 37, _, _, _, _, _⟩) rfl _ _ 41 rfl Wb.heap.size 9 (.string ⟨#[]⟩) 1 16 Try.underlying41 Try.info9 ?_ ?_ vt _ _ ?_ HO.out (some ⟨wr.heap.size, 0, none⟩) 1 1 [.string ⟨#[116]⟩] ?_ ?_ HSR.out (one_str _) ?_ ?_ ?_ ?_); (· rfl); (· decide); (· rfl); (· rfl); (· rfl); (· simp [tagsTo, maxLen]); (· simp [tagsTo]); (· simp; omega); intro v3 w3 hown3 hg3 hb3; obtain ⟨A3, cc3, rfl⟩ := owns_len hown3; obtain ⟨hc3, hf3, hs3⟩ := HS.out.append (k := 4) (t := ⟨#[116]⟩) (by omega) (by decide) rfl rfl (tagF_set _ _ _) hown3 (((Below.refl _ _).alloc hsz _).trans hb3); have HS3 := Lib.hid hs3; clear hown3 hg3 hb3 hs3)
        go_roundw
        case rel => exact ⟨1, _, by omega, rfl, HS3.out.lst (by simp [tagsTo, hbit])⟩
        case measure => simp [intOf]
      · have hbb : (bits BinOp.and IntKind.i64 ((z : Int) / 4) 1 == 1) = false := by have := bit_and (z / 4) (by omega); rw [show z / 4 % 2 = 0 by omega] at this; exact this
        have HS := Lib.hid hs
        clear hs
        go_wp2_with fail
        go_roundw
        case rel => exact ⟨1, vt, by omega, rfl, HS.out.lst (by simp [tagsTo, hbit])⟩
        case measure => simp [intOf]
    · by_cases hbit : z / 4 / 2 % 2 = 1
      · have hbb : (bits BinOp.and IntKind.i64 ((z : Int) / 4 / 2) 1 == 1) = true := by have := bit_and (z / 4 / 2) (by omega); rw [hbit] at this; exact this
        have HS := Lib.hid hs
        have HO := Lib.hid (World.ownsRow.alloc hs.2.1 (.cells #[.string ⟨#[117]⟩] 9))
        have HSR := Lib.hid (src_str wr ⟨#[117]⟩)
        have hsz := hs.2.2.size
        clear hs
        go_wp2_with ((with_reducible refine wpList_append_src (o := ⟨some 37, _, _, _, _, _⟩) rfl _ _ 41 rfl Wb.heap.size 9 (.string ⟨#[]⟩) 1 16 Try.underlying41 Try.info9 ?_ ?_ vt _ _ ?_ HO.out (some ⟨wr.heap.size, 0, none⟩) 1 1 [.string ⟨#[117]⟩] ?_ ?_ HSR.out (one_str _) ?_ ?_ ?_ ?_); (· rfl); (· decide); (· rfl); (· rfl); (· rfl); (· have := tagsTo_len (z / 4) 1; unfold maxLen; omega); (· have := tagsTo_len (z / 4) 1; omega); (· simp; omega); intro v3 w3 hown3 hg3 hb3; obtain ⟨A3, cc3, rfl⟩ := owns_len hown3; obtain ⟨hc3, hf3, hs3⟩ := HS.out.append (k := 4) (t := ⟨#[117]⟩) (by omega) (by decide) rfl rfl (tagF_set _ _ _) hown3 (((Below.refl _ _).alloc hsz _).trans hb3); have HS3 := Lib.hid hs3; clear hown3 hg3 hb3 hs3)
        go_roundw
        case rel => exact ⟨2, _, by omega, rfl, HS3.out.lst (by simp [tagsTo, hbit])⟩
        case measure => simp [intOf]
      · have hbb : (bits BinOp.and IntKind.i64 ((z : Int) / 4 / 2) 1 == 1) = false := by have := bit_and (z / 4 / 2) (by omega); rw [show z / 4 / 2 % 2 = 0 by omega] at this; exact this
        have HS := Lib.hid hs
        clear hs
        go_wp2_with fail
        go_roundw
        case rel => exact ⟨2, vt, by omega, rfl, HS.out.lst (by simp [tagsTo, hbit])⟩
        case measure => simp [intOf]
    · have HS := Lib.hid hs
      clear hs
      go_wp2_with fail
      refine (HL.out _).mono ?_
      rintro e w4 ⟨rfl, rfl⟩
      have hcl5 : w4.cell? ⟨C, 5, none⟩ = some (.int .u64 0) := World.rowIs.cell HS.out.1 (i := 5) (by decide)
      have hfl5 : w4.frozen? ⟨C, 5, none⟩ = false := World.rowIs.frozen HS.out.1 5
      have hr5 := set_life HS.out.1 (lifeN (z / 16) : Nat)
      have hk5 := kept1 w4 C 5 (.int .u64 (lifeN (z / 16) : Nat))
      have ho5 := hk5.own HS.out.2.1 (by omega)
      generalize hw5 : w4.setCell ⟨C, 5, none⟩ (.int .u64 (lifeN (z / 16) : Nat)) = w5 at hr5 hk5 ho5
      have hc50 : w5.cell? ⟨C, 0, none⟩ = some (.int .i64 op) := World.rowIs.cell hr5 (i := 0) (by decide)
      have hc56 : w5.cell? ⟨C, 6, none⟩ = some (.int .u64 0) := World.rowIs.cell hr5 (i := 6) (by decide)
      have hf56 : w5.frozen? ⟨C, 6, none⟩ = false := World.rowIs.frozen hr5 6
      have hkb5 : Kept [C] Wb w5 := HS.out.2.2.trans hk5
      have HR5 := Lib.hid hr5
      have HK5 := Lib.hid hkb5
      have HO5 := Lib.hid ho5
      clear hr5 hk5 ho5 hkb5
      have hNb : ∀ k ∈ C :: N, k < Wb.heap.size := fun k hk => by
        rcases List.mem_cons.1 hk with rfl | hk
        · omega
        · have := hN k hk; omega
      by_cases ho : op = 3
      · have hov : (u : Int) / 16 = ver := by rw [← HVER.out, if_pos ho]; omega
        have hg : (op == 3) = true := by simp [ho]
        go_wp2_with fail
        go_end0
        have hk6 := kept1 w5 C 6 (.int .u64 ver)
        refine ⟨rfl, _, _, set_ver HR5.out ver, ?_, tagsTo_all (z / 4) ▸ SlN.of_own (hk6.own HO5.out (by omega)) hNb, HKB.out.trans (HK5.out.trans hk6)⟩
        rw [show ((u % 16 : Nat) : Int) = (u : Int) % 16 by omega]
        exact HVV.out.kept (HK5.out.trans hk6) (by simp)
      · have hg : (op == 3) = false := by simp [ho]
        have hov : ver = 0 := by rw [← HVER.out, if_neg ho]
        go_wp2_with fail
        go_end0
        subst hov
        refine ⟨rfl, _, _, HR5.out, ?_, tagsTo_all (z / 4) ▸ SlN.of_own HO5.out hNb, HKB.out.trans HK5.out⟩
        rw [show ((u % 16 : Nat) : Int) = (u : Int) % 16 by omega]
        exact HVV.out.kept HK5.out (by simp)
end Go.Proofs.Ytnmhmabifeapkaa.Ord
