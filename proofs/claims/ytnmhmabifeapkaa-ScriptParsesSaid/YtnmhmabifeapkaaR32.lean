/- The drawn region of the loop of the reference's First. (Printed by wip/tools/gen32.py.) -/
import Derived.Test.YtnmhmabifeapkaaR31
import Derived.Test.YtnmhmabifeapkaaR26
import Derived.Deep.RegionHeld
namespace Go.Proofs.Ytnmhmabifeapkaa.Ord
open Go.RowKit
set_option linter.unusedVariables false

theorem f60_name : (Try.f60.name == "runtime.NumGoroutine") = false := by kernel_rfl
theorem f60_body : Try.f60.body.isSome = true := by kernel_rfl
def ops14 : Array Oper := #[{ dst := some 34, op := Op.fieldAddr 35 (Operand.tmp 6) 3, type := 0, pos := "ref.go:88", after := #[], guard := none },
  { dst := some 35, op := Op.load 22 (Operand.tmp 34), type := 22, pos := "ref.go:88", after := #[{ on := 0, ground := Ground.data }], guard := none },
  { dst := some 36, op := Op.move (Operand.tmp 0), type := 22, pos := "ref.go:88", after := #[], guard := none },
  { dst := some 37, op := Op.move (Operand.tmp 7), type := 3, pos := "ref.go:88", after := #[], guard := none },
  { dst := some 38, op := Op.binOp BinOp.add 3 (Operand.const (Value.int IntKind.i64 2)) (Operand.tmp 37) 3, type := 3, pos := "ref.go:88", after := #[{ on := 3, ground := Ground.data }], guard := none },
  { dst := some 39, op := Op.call { callee := Callee.value (Operand.func 60), args := #[Operand.tmp 36, Operand.tmp 38], argTypes := #[22, 3] }, type := 3, pos := "ref.go:88", after := #[{ on := 2, ground := Ground.data }, { on := 4, ground := Ground.data }], guard := none },
  { dst := some 40, op := Op.convert 3 5 (Operand.tmp 39), type := 5, pos := "ref.go:88", after := #[{ on := 5, ground := Ground.data }], guard := none },
  { dst := some 41, op := Op.buildSlice 22 1 #[(0, Operand.tmp 40)], type := 22, pos := "ref.go:88", after := #[{ on := 6, ground := Ground.data }], guard := none },
  { dst := some 42, op := Op.call { callee := Callee.builtin Builtin.append, args := #[Operand.tmp 35, Operand.tmp 41], argTypes := #[22, 22] }, type := 22, pos := "ref.go:88", after := #[{ on := 1, ground := Ground.data }, { on := 7, ground := Ground.data }, { on := 5, ground := Ground.chain }], guard := none },
  { dst := some 43, op := Op.fieldAddr 35 (Operand.tmp 6) 3, type := 0, pos := "ref.go:88", after := #[{ on := 0, ground := Ground.phase }, { on := 1, ground := Ground.phase }, { on := 2, ground := Ground.phase }, { on := 3, ground := Ground.phase }, { on := 4, ground := Ground.phase }, { on := 5, ground := Ground.phase }, { on := 6, ground := Ground.phase }, { on := 7, ground := Ground.phase }, { on := 8, ground := Ground.phase }], guard := none },
  { dst := none, op := Op.store 22 (Operand.tmp 43) (Operand.tmp 42), type := 0, pos := "ref.go:88", after := #[{ on := 9, ground := Ground.data }, { on := 8, ground := Ground.data }, { on := 8, ground := Ground.chain }, { on := 0, ground := Ground.phase }, { on := 1, ground := Ground.phase }, { on := 2, ground := Ground.phase }, { on := 3, ground := Ground.phase }, { on := 4, ground := Ground.phase }, { on := 5, ground := Ground.phase }, { on := 6, ground := Ground.phase }, { on := 7, ground := Ground.phase }, { on := 8, ground := Ground.phase }], guard := none }]

set_option maxRecDepth 100000 in
set_option maxHeartbeats 4000000 in
theorem region14 (Q : Exit → Act → World → Prop) (hQ : ∀ d v c a w, Q (.panic c) (Act.put a d v) w → Q (.panic c) a w) (W : World) (bs Q6 i k c : Nat) (A : Option Addr) (y : Int) (ds : List Int) (f6 : Nat → Value) (v : Value) (s1 s2 s3 s4 s5 s8 s9 s10 s11 s12 s13 s14 s15 s16 s17 s18 s19 s20 s21 s22 s23 s24 s25 s26 s27 s28 s29 s30 s31 s32 s33 s34 s35 s36 s37 s38 s39 s40 s41 s42 s43 s44 s45 s46 s47 s48 s49 s50 s51 s52 s53 s54 s55 s56 s57 s58 s59 s60 s61 s62 s63 s64 s65 s66 s67 s68 s69 s70 s71 s72 s73 s74 s75 s76 s77 s78 s79 s80 s81 s82 : Value)
    (hy1 : 0 ≤ y) (hy2 : y < 256) (hi : i ≤ 1000) (hdl : ds.length ≤ 1000) (hf6 : f6 3 = v) (hbs : bs ≤ W.heap.size) (hQ6 : Q6 < bs) (hrow : W.rowIs Q6 35 4 f6) (hown : Own8 W bs v ds)
    (hat : ∀ W', Below bs W W' → Calls Try.prog 60 #[.slice A k c, .int .i64 ((2 + i : Nat) : Int)] W' fun e w' => e = .returned (.int .i64 y) ∧ w' = W')
    (hpost : ∀ (u34 u35 u36 u37 u38 u39 u40 u41 u42 u43 : Value) (v' : Value) (W' : World), W'.rowIs Q6 35 4 f6 → Own8 W' bs v' (ds ++ [y]) → Below bs W W' → Q .normal ⟨#[.slice A k c, s1, s2, s3, s4, s5, .pointer (some ⟨Q6, 0, none⟩), .int .i64 (i : Nat), s8, s9, s10, s11, s12, s13, s14, s15, s16, s17, s18, s19, s20, s21, s22, s23, s24, s25, s26, s27, s28, s29, s30, s31, s32, s33, u34, u35, u36, u37, u38, u39, u40, u41, u42, u43, s44, s45, s46, s47, s48, s49, s50, s51, s52, s53, s54, s55, s56, s57, s58, s59, s60, s61, s62, s63, s64, s65, s66, s67, s68, s69, s70, s71, s72, s73, s74, s75, s76, s77, s78, s79, s80, s81, s82], []⟩ (W'.setCell ⟨Q6, 3, none⟩ v')) :
    (Code.region 14 ops14 true).wp Try.prog Q ⟨#[.slice A k c, s1, s2, s3, s4, s5, .pointer (some ⟨Q6, 0, none⟩), .int .i64 (i : Nat), s8, s9, s10, s11, s12, s13, s14, s15, s16, s17, s18, s19, s20, s21, s22, s23, s24, s25, s26, s27, s28, s29, s30, s31, s32, s33, s34, s35, s36, s37, s38, s39, s40, s41, s42, s43, s44, s45, s46, s47, s48, s49, s50, s51, s52, s53, s54, s55, s56, s57, s58, s59, s60, s61, s62, s63, s64, s65, s66, s67, s68, s69, s70, s71, s72, s73, s74, s75, s76, s77, s78, s79, s80, s81, s82], []⟩ W := by
  subst hf6
  obtain ⟨v, hv⟩ : ∃ v, f6 3 = v := ⟨_, rfl⟩
  have HV := Lib.hid hv
  have hat := Lib.hid hat
  have hr0 : W.drew.rowIs Q6 35 4 f6 := World.rowIs.of_block hrow rfl
  have ho0 : Own8 W.drew bs v ds := by rw [hv] at hown; exact World.ownsRow.drew hown
  have hl0 : Below bs W W.drew := ⟨rfl, rfl, rfl, Nat.le_refl _, fun _ _ => rfl⟩
  refine wp_region_any (by kernel_rfl) ?_
  change wpAny _ _ _ _ _ _ _ (World.drew _)
  obtain ⟨w0, hw0⟩ : ∃ w0, W.drew = w0 := ⟨_, rfl⟩
  rw [hw0] at hr0 ho0 hl0 ⊢
  clear hv
  have hr0 := Lib.hid hr0
  have ho0 := Lib.hid ho0
  have hl0 := Lib.hid hl0
  clear hw0 hrow hown
  have hwi : IntKind.i64.wrap (2 + (i : Int)) = ((2 + i : Nat) : Int) := by rw [IntKind.wrap_i64]; omega
  have hwy : IntKind.u8.wrap y = y := by rw [IntKind.wrap_u8]; omega
  refine wpAny_take (i := 0) (oi := { dst := some 34, op := Op.fieldAddr 35 (Operand.tmp 6) 3, type := 0, pos := "ref.go:88", after := #[], guard := none }) (v := ?_) rfl (by kernel_rfl) (by kernel_rfl) (by kernel_rfl) (hQ _ _) (Or.inl ⟨by rfl, ?_⟩) ?_
  rotate_left 1
  · intro w; go_simp; try with_reducible rfl
  simp only [Act.put, List.setIfInBounds_toArray, List.set_cons_succ, List.set_cons_zero]
  refine wpAny_take (i := 2) (oi := { dst := some 36, op := Op.move (Operand.tmp 0), type := 22, pos := "ref.go:88", after := #[], guard := none }) (v := ?_) rfl (by kernel_rfl) (by kernel_rfl) (by kernel_rfl) (hQ _ _) (Or.inl ⟨by rfl, ?_⟩) ?_
  rotate_left 1
  · intro w; go_simp; try with_reducible rfl
  simp only [Act.put, List.setIfInBounds_toArray, List.set_cons_succ, List.set_cons_zero]
  refine wpAny_take (i := 3) (oi := { dst := some 37, op := Op.move (Operand.tmp 7), type := 3, pos := "ref.go:88", after := #[], guard := none }) (v := ?_) rfl (by kernel_rfl) (by kernel_rfl) (by kernel_rfl) (hQ _ _) (Or.inl ⟨by rfl, ?_⟩) ?_
  rotate_left 1
  · intro w; go_simp; try with_reducible rfl
  simp only [Act.put, List.setIfInBounds_toArray, List.set_cons_succ, List.set_cons_zero]
  refine wpAny_take (i := 4) (oi := { dst := some 38, op := Op.binOp BinOp.add 3 (Operand.const (Value.int IntKind.i64 2)) (Operand.tmp 37) 3, type := 3, pos := "ref.go:88", after := #[{ on := 3, ground := Ground.data }], guard := none }) (v := ?_) rfl (by kernel_rfl) (by kernel_rfl) (by kernel_rfl) (hQ _ _) (Or.inl ⟨by rfl, ?_⟩) ?_
  rotate_left 1
  · intro w; go_simp; try with_reducible rfl
  simp only [Act.put, List.setIfInBounds_toArray, List.set_cons_succ, List.set_cons_zero]
  refine wpAny_ready (rs := [1, 5]) (by kernel_rfl) (by simp) ?_
  refine AllReady.cons (o := { dst := some 35, op := Op.load 22 (Operand.tmp 34), type := 22, pos := "ref.go:88", after := #[{ on := 0, ground := Ground.data }], guard := none }) rfl (fun K hK => ?_) (AllReady.cons (o := { dst := some 39, op := Op.call { callee := Callee.value (Operand.func 60), args := #[Operand.tmp 36, Operand.tmp 38], argTypes := #[22, 3] }, type := 3, pos := "ref.go:88", after := #[{ on := 2, ground := Ground.data }, { on := 4, ground := Ground.data }], guard := none }) rfl (fun K hK => ?_) (AllReady.nil))
  · have hc := World.rowIs.cell hr0.out (i := 3) (by decide)
    have hc2 : w0.cell? ⟨Q6, 3, none⟩ = some v := by rw [← HV.out]; exact hc
    have HK := Lib.hid hK
    clear hK hc
    go_simp
    clear hc2
    refine HK.out _ _ ?_
    clear HK K
    try simp only [Act.put, List.setIfInBounds_toArray, List.set_cons_succ, List.set_cons_zero]
    refine wpAny_ready (rs := [5]) (by kernel_rfl) (by simp) ?_
    refine AllReady.cons (o := { dst := some 39, op := Op.call { callee := Callee.value (Operand.func 60), args := #[Operand.tmp 36, Operand.tmp 38], argTypes := #[22, 3] }, type := 3, pos := "ref.go:88", after := #[{ on := 2, ground := Ground.data }, { on := 4, ground := Ground.data }], guard := none }) rfl (fun K hK => ?_) (AllReady.nil)
    with_reducible refine step_call_w ?_ 60 _ _ rfl #[.slice A k c, .int .i64 ((2 + i : Nat) : Int)] ?_ Try.f60 Try.func60 f60_name f60_body (.int .i64 y) ?_ ?_
    · rfl
    · simp only [List.map_toArray, List.map_cons, List.map_nil]; rfl
    · exact (hat.out w0 hl0.out).mono fun e w2 h => ⟨h.1, h.2 ▸ Below.refl _ _⟩
    intro w1 hb1
    have hr1 := Lib.hid (World.rowIs.of_block hr0.out (hb1.block _ (World.rowIs.lt hr0.out)))
    have ho1 := Lib.hid (show Own8 w1 bs v ds from (Kept.of_below (L := []) hb1).own2 ho0.out.raw (by simp))
    have hl1 := Lib.hid (hl0.out.trans (hb1.mono (Nat.le_trans hbs hl0.out.size)))
    refine hK _ _ ?_
    clear hK K
    simp only [Act.put, List.setIfInBounds_toArray, List.set_cons_succ, List.set_cons_zero]
    refine wpAny_take (i := 6) (oi := { dst := some 40, op := Op.convert 3 5 (Operand.tmp 39), type := 5, pos := "ref.go:88", after := #[{ on := 5, ground := Ground.data }], guard := none }) (v := ?_) rfl (by kernel_rfl) (by kernel_rfl) (by kernel_rfl) (hQ _ _) (Or.inl ⟨by rfl, ?_⟩) ?_
    rotate_left 1
    · intro w; go_simp; try with_reducible rfl
    simp only [Act.put, List.setIfInBounds_toArray, List.set_cons_succ, List.set_cons_zero]
    refine wpAny_ready (rs := [7]) (by kernel_rfl) (by simp) ?_
    refine AllReady.cons (o := { dst := some 41, op := Op.buildSlice 22 1 #[(0, Operand.tmp 40)], type := 22, pos := "ref.go:88", after := #[{ on := 6, ground := Ground.data }], guard := none }) rfl (fun K hK => ?_) (AllReady.nil)
    with_reducible refine step_bytes_w ?_ 1 _ rfl [y] [(0, .int .u8 y)] ?_ ?_ ?_ ?_ ?_ ?_
    · rfl
    · simp only [List.map_toArray, List.map_cons, List.map_nil]; rfl
    · kernel_rfl
    · rfl
    · decide
    · decide
    intro w2 hw2
    have hb2 := hw2.low
    have hB41 := Lib.hid hw2.ba
    have hr2 := Lib.hid (World.rowIs.of_block hr1.out (hb2.block _ (World.rowIs.lt hr1.out)))
    have ho2 := Lib.hid (show Own8 w2 bs v ds from (Kept.of_below (L := []) hb2).own2 ho1.out.raw (by simp))
    have hl2 := Lib.hid (hl1.out.trans (hb2.mono (Nat.le_trans hbs hl1.out.size)))
    refine hK _ _ ?_
    clear hK K hw2
    simp only [Act.put, List.setIfInBounds_toArray, List.set_cons_succ, List.set_cons_zero]
    refine wpAny_ready (rs := [8]) (by kernel_rfl) (by simp) ?_
    refine AllReady.cons (o := { dst := some 42, op := Op.call { callee := Callee.builtin Builtin.append, args := #[Operand.tmp 35, Operand.tmp 41], argTypes := #[22, 22] }, type := 22, pos := "ref.go:88", after := #[{ on := 1, ground := Ground.data }, { on := 7, ground := Ground.data }, { on := 5, ground := Ground.chain }], guard := none }) rfl (fun K hK => ?_) (AllReady.nil)
    have hown := Lib.hid ho2.out.raw
    have hsrc := Lib.hid (show Src w2 (some ⟨w1.heap.size, 0, none⟩) 1 1 [.int .u8 y] from hB41.out.1.src)
    have hone := Lib.hid (show ∀ u ∈ [Value.int .u8 y], u.oneCell' = true from bytes_one [y])
    with_reducible refine step_append_src rfl _ _ 22 rfl bs 5 (.int .u8 0) 1 1 Try.underlying22 Try.info5 rfl (by decide) v ds.length (ds.map (Value.int .u8)) ?_ hown.out (some ⟨w1.heap.size, 0, none⟩) 1 1 [.int .u8 y] ?_ ?_ hsrc.out hone.out ?_ ?_ (Nat.le_trans hbs hl2.out.size) ?_
    · rfl
    · rfl
    · rfl
    · unfold maxLen; omega
    · omega
    intro v2 w3 hown2 hb3
    obtain ⟨A2, c2, rfl⟩ := owns_len hown2
    have hown2 := Lib.hid hown2
    have hr3 := Lib.hid (World.rowIs.of_block hr2.out (hb3.block _ hQ6))
    have hl3 := Lib.hid (hl2.out.trans hb3)
    refine hK _ _ ?_
    clear hK K hown hsrc hone
    simp only [Act.put, List.setIfInBounds_toArray, List.set_cons_succ, List.set_cons_zero]
    refine wpAny_take (i := 9) (oi := { dst := some 43, op := Op.fieldAddr 35 (Operand.tmp 6) 3, type := 0, pos := "ref.go:88", after := #[{ on := 0, ground := Ground.phase }, { on := 1, ground := Ground.phase }, { on := 2, ground := Ground.phase }, { on := 3, ground := Ground.phase }, { on := 4, ground := Ground.phase }, { on := 5, ground := Ground.phase }, { on := 6, ground := Ground.phase }, { on := 7, ground := Ground.phase }, { on := 8, ground := Ground.phase }], guard := none }) (v := ?_) rfl (by kernel_rfl) (by kernel_rfl) (by kernel_rfl) (hQ _ _) (Or.inl ⟨by rfl, ?_⟩) ?_
    rotate_left 1
    · intro w; go_simp; try with_reducible rfl
    simp only [Act.put, List.setIfInBounds_toArray, List.set_cons_succ, List.set_cons_zero]
    refine wpAny_ready (rs := [10]) (by kernel_rfl) (by simp) ?_
    refine AllReady.cons (o := { dst := none, op := Op.store 22 (Operand.tmp 43) (Operand.tmp 42), type := 0, pos := "ref.go:88", after := #[{ on := 9, ground := Ground.data }, { on := 8, ground := Ground.data }, { on := 8, ground := Ground.chain }, { on := 0, ground := Ground.phase }, { on := 1, ground := Ground.phase }, { on := 2, ground := Ground.phase }, { on := 3, ground := Ground.phase }, { on := 4, ground := Ground.phase }, { on := 5, ground := Ground.phase }, { on := 6, ground := Ground.phase }, { on := 7, ground := Ground.phase }, { on := 8, ground := Ground.phase }], guard := none }) rfl (fun K hK => ?_) (AllReady.nil)
    have hc := World.rowIs.cell hr3.out (i := 3) (by decide)
    have hc2 : w3.cell? ⟨Q6, 3, none⟩ = some v := by rw [← HV.out]; exact hc
    have hfz := World.rowIs.frozen hr3.out 3
    have HK := Lib.hid hK
    clear hK hc
    go_simp
    refine HK.out _ _ ?_
    clear HK K
    try simp only [Act.put, List.setIfInBounds_toArray, List.set_cons_succ, List.set_cons_zero]
    refine wpAny_done (by kernel_rfl) ?_ _
    exact hpost _ _ _ _ _ _ _ _ _ _ _ _ hr3.out (Own8.snoc hown2.out) hl3.out
  · with_reducible refine step_call_w ?_ 60 _ _ rfl #[.slice A k c, .int .i64 ((2 + i : Nat) : Int)] ?_ Try.f60 Try.func60 f60_name f60_body (.int .i64 y) ?_ ?_
    · rfl
    · simp only [List.map_toArray, List.map_cons, List.map_nil]; rfl
    · exact (hat.out w0 hl0.out).mono fun e w2 h => ⟨h.1, h.2 ▸ Below.refl _ _⟩
    intro w4 hb4
    have hr4 := Lib.hid (World.rowIs.of_block hr0.out (hb4.block _ (World.rowIs.lt hr0.out)))
    have ho4 := Lib.hid (show Own8 w4 bs v ds from (Kept.of_below (L := []) hb4).own2 ho0.out.raw (by simp))
    have hl4 := Lib.hid (hl0.out.trans (hb4.mono (Nat.le_trans hbs hl0.out.size)))
    refine hK _ _ ?_
    clear hK K
    simp only [Act.put, List.setIfInBounds_toArray, List.set_cons_succ, List.set_cons_zero]
    refine wpAny_take (i := 6) (oi := { dst := some 40, op := Op.convert 3 5 (Operand.tmp 39), type := 5, pos := "ref.go:88", after := #[{ on := 5, ground := Ground.data }], guard := none }) (v := ?_) rfl (by kernel_rfl) (by kernel_rfl) (by kernel_rfl) (hQ _ _) (Or.inl ⟨by rfl, ?_⟩) ?_
    rotate_left 1
    · intro w; go_simp; try with_reducible rfl
    simp only [Act.put, List.setIfInBounds_toArray, List.set_cons_succ, List.set_cons_zero]
    refine wpAny_ready (rs := [1, 7]) (by kernel_rfl) (by simp) ?_
    refine AllReady.cons (o := { dst := some 35, op := Op.load 22 (Operand.tmp 34), type := 22, pos := "ref.go:88", after := #[{ on := 0, ground := Ground.data }], guard := none }) rfl (fun K hK => ?_) (AllReady.cons (o := { dst := some 41, op := Op.buildSlice 22 1 #[(0, Operand.tmp 40)], type := 22, pos := "ref.go:88", after := #[{ on := 6, ground := Ground.data }], guard := none }) rfl (fun K hK => ?_) (AllReady.nil))
    · have hc := World.rowIs.cell hr4.out (i := 3) (by decide)
      have hc2 : w4.cell? ⟨Q6, 3, none⟩ = some v := by rw [← HV.out]; exact hc
      have HK := Lib.hid hK
      clear hK hc
      go_simp
      clear hc2
      refine HK.out _ _ ?_
      clear HK K
      try simp only [Act.put, List.setIfInBounds_toArray, List.set_cons_succ, List.set_cons_zero]
      refine wpAny_ready (rs := [7]) (by kernel_rfl) (by simp) ?_
      refine AllReady.cons (o := { dst := some 41, op := Op.buildSlice 22 1 #[(0, Operand.tmp 40)], type := 22, pos := "ref.go:88", after := #[{ on := 6, ground := Ground.data }], guard := none }) rfl (fun K hK => ?_) (AllReady.nil)
      with_reducible refine step_bytes_w ?_ 1 _ rfl [y] [(0, .int .u8 y)] ?_ ?_ ?_ ?_ ?_ ?_
      · rfl
      · simp only [List.map_toArray, List.map_cons, List.map_nil]; rfl
      · kernel_rfl
      · rfl
      · decide
      · decide
      intro w5 hw5
      have hb5 := hw5.low
      have hB41 := Lib.hid hw5.ba
      have hr5 := Lib.hid (World.rowIs.of_block hr4.out (hb5.block _ (World.rowIs.lt hr4.out)))
      have ho5 := Lib.hid (show Own8 w5 bs v ds from (Kept.of_below (L := []) hb5).own2 ho4.out.raw (by simp))
      have hl5 := Lib.hid (hl4.out.trans (hb5.mono (Nat.le_trans hbs hl4.out.size)))
      refine hK _ _ ?_
      clear hK K hw5
      simp only [Act.put, List.setIfInBounds_toArray, List.set_cons_succ, List.set_cons_zero]
      refine wpAny_ready (rs := [8]) (by kernel_rfl) (by simp) ?_
      refine AllReady.cons (o := { dst := some 42, op := Op.call { callee := Callee.builtin Builtin.append, args := #[Operand.tmp 35, Operand.tmp 41], argTypes := #[22, 22] }, type := 22, pos := "ref.go:88", after := #[{ on := 1, ground := Ground.data }, { on := 7, ground := Ground.data }, { on := 5, ground := Ground.chain }], guard := none }) rfl (fun K hK => ?_) (AllReady.nil)
      have hown := Lib.hid ho5.out.raw
      have hsrc := Lib.hid (show Src w5 (some ⟨w4.heap.size, 0, none⟩) 1 1 [.int .u8 y] from hB41.out.1.src)
      have hone := Lib.hid (show ∀ u ∈ [Value.int .u8 y], u.oneCell' = true from bytes_one [y])
      with_reducible refine step_append_src rfl _ _ 22 rfl bs 5 (.int .u8 0) 1 1 Try.underlying22 Try.info5 rfl (by decide) v ds.length (ds.map (Value.int .u8)) ?_ hown.out (some ⟨w4.heap.size, 0, none⟩) 1 1 [.int .u8 y] ?_ ?_ hsrc.out hone.out ?_ ?_ (Nat.le_trans hbs hl5.out.size) ?_
      · rfl
      · rfl
      · rfl
      · unfold maxLen; omega
      · omega
      intro v2 w6 hown2 hb6
      obtain ⟨A2, c2, rfl⟩ := owns_len hown2
      have hown2 := Lib.hid hown2
      have hr6 := Lib.hid (World.rowIs.of_block hr5.out (hb6.block _ hQ6))
      have hl6 := Lib.hid (hl5.out.trans hb6)
      refine hK _ _ ?_
      clear hK K hown hsrc hone
      simp only [Act.put, List.setIfInBounds_toArray, List.set_cons_succ, List.set_cons_zero]
      refine wpAny_take (i := 9) (oi := { dst := some 43, op := Op.fieldAddr 35 (Operand.tmp 6) 3, type := 0, pos := "ref.go:88", after := #[{ on := 0, ground := Ground.phase }, { on := 1, ground := Ground.phase }, { on := 2, ground := Ground.phase }, { on := 3, ground := Ground.phase }, { on := 4, ground := Ground.phase }, { on := 5, ground := Ground.phase }, { on := 6, ground := Ground.phase }, { on := 7, ground := Ground.phase }, { on := 8, ground := Ground.phase }], guard := none }) (v := ?_) rfl (by kernel_rfl) (by kernel_rfl) (by kernel_rfl) (hQ _ _) (Or.inl ⟨by rfl, ?_⟩) ?_
      rotate_left 1
      · intro w; go_simp; try with_reducible rfl
      simp only [Act.put, List.setIfInBounds_toArray, List.set_cons_succ, List.set_cons_zero]
      refine wpAny_ready (rs := [10]) (by kernel_rfl) (by simp) ?_
      refine AllReady.cons (o := { dst := none, op := Op.store 22 (Operand.tmp 43) (Operand.tmp 42), type := 0, pos := "ref.go:88", after := #[{ on := 9, ground := Ground.data }, { on := 8, ground := Ground.data }, { on := 8, ground := Ground.chain }, { on := 0, ground := Ground.phase }, { on := 1, ground := Ground.phase }, { on := 2, ground := Ground.phase }, { on := 3, ground := Ground.phase }, { on := 4, ground := Ground.phase }, { on := 5, ground := Ground.phase }, { on := 6, ground := Ground.phase }, { on := 7, ground := Ground.phase }, { on := 8, ground := Ground.phase }], guard := none }) rfl (fun K hK => ?_) (AllReady.nil)
      have hc := World.rowIs.cell hr6.out (i := 3) (by decide)
      have hc2 : w6.cell? ⟨Q6, 3, none⟩ = some v := by rw [← HV.out]; exact hc
      have hfz := World.rowIs.frozen hr6.out 3
      have HK := Lib.hid hK
      clear hK hc
      go_simp
      refine HK.out _ _ ?_
      clear HK K
      try simp only [Act.put, List.setIfInBounds_toArray, List.set_cons_succ, List.set_cons_zero]
      refine wpAny_done (by kernel_rfl) ?_ _
      exact hpost _ _ _ _ _ _ _ _ _ _ _ _ hr6.out (Own8.snoc hown2.out) hl6.out
    · with_reducible refine step_bytes_w ?_ 1 _ rfl [y] [(0, .int .u8 y)] ?_ ?_ ?_ ?_ ?_ ?_
      · rfl
      · simp only [List.map_toArray, List.map_cons, List.map_nil]; rfl
      · kernel_rfl
      · rfl
      · decide
      · decide
      intro w7 hw7
      have hb7 := hw7.low
      have hB41 := Lib.hid hw7.ba
      have hr7 := Lib.hid (World.rowIs.of_block hr4.out (hb7.block _ (World.rowIs.lt hr4.out)))
      have ho7 := Lib.hid (show Own8 w7 bs v ds from (Kept.of_below (L := []) hb7).own2 ho4.out.raw (by simp))
      have hl7 := Lib.hid (hl4.out.trans (hb7.mono (Nat.le_trans hbs hl4.out.size)))
      refine hK _ _ ?_
      clear hK K hw7
      simp only [Act.put, List.setIfInBounds_toArray, List.set_cons_succ, List.set_cons_zero]
      refine wpAny_ready (rs := [1]) (by kernel_rfl) (by simp) ?_
      refine AllReady.cons (o := { dst := some 35, op := Op.load 22 (Operand.tmp 34), type := 22, pos := "ref.go:88", after := #[{ on := 0, ground := Ground.data }], guard := none }) rfl (fun K hK => ?_) (AllReady.nil)
      have hc := World.rowIs.cell hr7.out (i := 3) (by decide)
      have hc2 : w7.cell? ⟨Q6, 3, none⟩ = some v := by rw [← HV.out]; exact hc
      have HK := Lib.hid hK
      clear hK hc
      go_simp
      clear hc2
      refine HK.out _ _ ?_
      clear HK K
      try simp only [Act.put, List.setIfInBounds_toArray, List.set_cons_succ, List.set_cons_zero]
      refine wpAny_ready (rs := [8]) (by kernel_rfl) (by simp) ?_
      refine AllReady.cons (o := { dst := some 42, op := Op.call { callee := Callee.builtin Builtin.append, args := #[Operand.tmp 35, Operand.tmp 41], argTypes := #[22, 22] }, type := 22, pos := "ref.go:88", after := #[{ on := 1, ground := Ground.data }, { on := 7, ground := Ground.data }, { on := 5, ground := Ground.chain }], guard := none }) rfl (fun K hK => ?_) (AllReady.nil)
      have hown := Lib.hid ho7.out.raw
      have hsrc := Lib.hid (show Src w7 (some ⟨w4.heap.size, 0, none⟩) 1 1 [.int .u8 y] from hB41.out.1.src)
      have hone := Lib.hid (show ∀ u ∈ [Value.int .u8 y], u.oneCell' = true from bytes_one [y])
      with_reducible refine step_append_src rfl _ _ 22 rfl bs 5 (.int .u8 0) 1 1 Try.underlying22 Try.info5 rfl (by decide) v ds.length (ds.map (Value.int .u8)) ?_ hown.out (some ⟨w4.heap.size, 0, none⟩) 1 1 [.int .u8 y] ?_ ?_ hsrc.out hone.out ?_ ?_ (Nat.le_trans hbs hl7.out.size) ?_
      · rfl
      · rfl
      · rfl
      · unfold maxLen; omega
      · omega
      intro v2 w8 hown2 hb8
      obtain ⟨A2, c2, rfl⟩ := owns_len hown2
      have hown2 := Lib.hid hown2
      have hr8 := Lib.hid (World.rowIs.of_block hr7.out (hb8.block _ hQ6))
      have hl8 := Lib.hid (hl7.out.trans hb8)
      refine hK _ _ ?_
      clear hK K hown hsrc hone
      simp only [Act.put, List.setIfInBounds_toArray, List.set_cons_succ, List.set_cons_zero]
      refine wpAny_take (i := 9) (oi := { dst := some 43, op := Op.fieldAddr 35 (Operand.tmp 6) 3, type := 0, pos := "ref.go:88", after := #[{ on := 0, ground := Ground.phase }, { on := 1, ground := Ground.phase }, { on := 2, ground := Ground.phase }, { on := 3, ground := Ground.phase }, { on := 4, ground := Ground.phase }, { on := 5, ground := Ground.phase }, { on := 6, ground := Ground.phase }, { on := 7, ground := Ground.phase }, { on := 8, ground := Ground.phase }], guard := none }) (v := ?_) rfl (by kernel_rfl) (by kernel_rfl) (by kernel_rfl) (hQ _ _) (Or.inl ⟨by rfl, ?_⟩) ?_
      rotate_left 1
      · intro w; go_simp; try with_reducible rfl
      simp only [Act.put, List.setIfInBounds_toArray, List.set_cons_succ, List.set_cons_zero]
      refine wpAny_ready (rs := [10]) (by kernel_rfl) (by simp) ?_
      refine AllReady.cons (o := { dst := none, op := Op.store 22 (Operand.tmp 43) (Operand.tmp 42), type := 0, pos := "ref.go:88", after := #[{ on := 9, ground := Ground.data }, { on := 8, ground := Ground.data }, { on := 8, ground := Ground.chain }, { on := 0, ground := Ground.phase }, { on := 1, ground := Ground.phase }, { on := 2, ground := Ground.phase }, { on := 3, ground := Ground.phase }, { on := 4, ground := Ground.phase }, { on := 5, ground := Ground.phase }, { on := 6, ground := Ground.phase }, { on := 7, ground := Ground.phase }, { on := 8, ground := Ground.phase }], guard := none }) rfl (fun K hK => ?_) (AllReady.nil)
      have hc := World.rowIs.cell hr8.out (i := 3) (by decide)
      have hc2 : w8.cell? ⟨Q6, 3, none⟩ = some v := by rw [← HV.out]; exact hc
      have hfz := World.rowIs.frozen hr8.out 3
      have HK := Lib.hid hK
      clear hK hc
      go_simp
      refine HK.out _ _ ?_
      clear HK K
      try simp only [Act.put, List.setIfInBounds_toArray, List.set_cons_succ, List.set_cons_zero]
      refine wpAny_done (by kernel_rfl) ?_ _
      exact hpost _ _ _ _ _ _ _ _ _ _ _ _ hr8.out (Own8.snoc hown2.out) hl8.out
end Go.Proofs.Ytnmhmabifeapkaa.Ord
