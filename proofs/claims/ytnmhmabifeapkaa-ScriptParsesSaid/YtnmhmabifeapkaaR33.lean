/- The last drawn region of the data case of the reference's First; that case whole. (The region printed by wip/tools/gen33.py.) -/
import Derived.Test.YtnmhmabifeapkaaR32
import Derived.Test.YtnmhmabifeapkaaR23
import Derived.Deep.DeepCutAuto
namespace Go.Proofs.Ytnmhmabifeapkaa.Ord
open Go.RowKit
set_option linter.unusedVariables false

def ops15 : Array Oper := #[{ dst := some 44, op := Op.load 35 (Operand.tmp 6), type := 35, pos := "ref.go:90", after := #[], guard := none },
  { dst := some 45, op := Op.move (Operand.tmp 0), type := 22, pos := "ref.go:90", after := #[], guard := none },
  { dst := some 46, op := Op.call { callee := Callee.value (Operand.func 60), args := #[Operand.tmp 45, Operand.const (Value.int IntKind.i64 1)], argTypes := #[22, 3] }, type := 3, pos := "ref.go:90", after := #[{ on := 1, ground := Ground.data }], guard := none },
  { dst := some 47, op := Op.binOp BinOp.add 3 (Operand.const (Value.int IntKind.i64 2)) (Operand.tmp 46) 3, type := 3, pos := "ref.go:90", after := #[{ on := 2, ground := Ground.data }, { on := 4, ground := Ground.gcOnly Departure.lateStores }], guard := none },
  { dst := none, op := Op.store 35 (Operand.tmp 2) (Operand.tmp 44), type := 0, pos := "ref.go:90", after := #[{ on := 0, ground := Ground.data }, { on := 2, ground := Ground.chain }, { on := 0, ground := Ground.phase }, { on := 1, ground := Ground.textOnly Departure.lateStores }, { on := 2, ground := Ground.textOnly Departure.lateStoresUnsure }, { on := 3, ground := Ground.textOnly Departure.lateStores }], guard := none },
  { dst := some 3, op := Op.assign (Operand.tmp 47), type := 3, pos := "ref.go:90", after := #[{ on := 3, ground := Ground.data }, { on := 4, ground := Ground.chain }, { on := 0, ground := Ground.phase }, { on := 1, ground := Ground.phase }, { on := 2, ground := Ground.phase }, { on := 3, ground := Ground.phase }, { on := 4, ground := Ground.phase }], guard := none }]

set_option maxRecDepth 100000 in
set_option maxHeartbeats 4000000 in
theorem region15 (Q : Exit → Act → World → Prop) (hQ : ∀ d v c a w, Q (.panic c) (Act.put a d v) w → Q (.panic c) a w) (W : World) (Q2 Q6 k c : Nat) (A : Option Addr) (z : Int) (cc : Int) (Av : Option Addr) (Lv cv : Nat) (f2 : Nat → Value) (s1 s3 s4 s5 s7 s8 s9 s10 s11 s12 s13 s14 s15 s16 s17 s18 s19 s20 s21 s22 s23 s24 s25 s26 s27 s28 s29 s30 s31 s32 s33 s34 s35 s36 s37 s38 s39 s40 s41 s42 s43 s44 s45 s46 s47 s48 s49 s50 s51 s52 s53 s54 s55 s56 s57 s58 s59 s60 s61 s62 s63 s64 s65 s66 s67 s68 s69 s70 s71 s72 s73 s74 s75 s76 s77 s78 s79 s80 s81 s82 : Value)
    (hz1 : 0 ≤ z) (hz2 : z < 256) (hr : W.rowIs Q6 35 4 (listF [.int .i64 2, .int .i64 cc, .int .i64 0, .slice Av Lv cv])) (hs : W.rowIs Q2 35 4 f2)
    (hat : ∀ W', Below W.heap.size W W' → Calls Try.prog 60 #[.slice A k c, .int .i64 1] W' fun e w' => e = .returned (.int .i64 z) ∧ w' = W')
    (hpost : ∀ (u44 u45 u46 u47 : Value) (W' : World), W'.rowIs Q6 35 4 (listF [.int .i64 2, .int .i64 cc, .int .i64 0, .slice Av Lv cv]) → W'.rowIs Q2 35 4 f2 → Below W.heap.size W W' → Q .normal ⟨#[.slice A k c, s1, .pointer (some ⟨Q2, 0, none⟩), .int .i64 (2 + z), s4, s5, .pointer (some ⟨Q6, 0, none⟩), s7, s8, s9, s10, s11, s12, s13, s14, s15, s16, s17, s18, s19, s20, s21, s22, s23, s24, s25, s26, s27, s28, s29, s30, s31, s32, s33, s34, s35, s36, s37, s38, s39, s40, s41, s42, s43, u44, u45, u46, u47, s48, s49, s50, s51, s52, s53, s54, s55, s56, s57, s58, s59, s60, s61, s62, s63, s64, s65, s66, s67, s68, s69, s70, s71, s72, s73, s74, s75, s76, s77, s78, s79, s80, s81, s82], []⟩ (W'.setCells Q2 0 [.int .i64 2, .int .i64 cc, .int .i64 0, .slice Av Lv cv])) :
    (Code.region 15 ops15 true).wp Try.prog Q ⟨#[.slice A k c, s1, .pointer (some ⟨Q2, 0, none⟩), s3, s4, s5, .pointer (some ⟨Q6, 0, none⟩), s7, s8, s9, s10, s11, s12, s13, s14, s15, s16, s17, s18, s19, s20, s21, s22, s23, s24, s25, s26, s27, s28, s29, s30, s31, s32, s33, s34, s35, s36, s37, s38, s39, s40, s41, s42, s43, s44, s45, s46, s47, s48, s49, s50, s51, s52, s53, s54, s55, s56, s57, s58, s59, s60, s61, s62, s63, s64, s65, s66, s67, s68, s69, s70, s71, s72, s73, s74, s75, s76, s77, s78, s79, s80, s81, s82], []⟩ W := by
  have hat := Lib.hid hat
  have hr0 : W.drew.rowIs Q6 35 4 (listF [.int .i64 2, .int .i64 cc, .int .i64 0, .slice Av Lv cv]) := World.rowIs.of_block hr rfl
  have hs0 : W.drew.rowIs Q2 35 4 f2 := World.rowIs.of_block hs rfl
  have hl0 : Below W.heap.size W W.drew := ⟨rfl, rfl, rfl, Nat.le_refl _, fun _ _ => rfl⟩
  refine wp_region_any (by kernel_rfl) ?_
  change wpAny _ _ _ _ _ _ _ (World.drew _)
  obtain ⟨w0, hw0⟩ : ∃ w0, W.drew = w0 := ⟨_, rfl⟩
  rw [hw0] at hr0 hs0 hl0 ⊢
  have hc0 := Lib.hid (row_cells hr0 [.int .i64 2, .int .i64 cc, .int .i64 0, .slice Av Lv cv] rfl fun i hi => rfl)
  have hr0 := Lib.hid hr0
  have hs0 := Lib.hid hs0
  have hl0 := Lib.hid hl0
  clear hw0 hr hs
  have hwz : IntKind.i64.wrap (2 + z) = 2 + z := by rw [IntKind.wrap_i64]; omega
  refine wpAny_take (i := 1) (oi := { dst := some 45, op := Op.move (Operand.tmp 0), type := 22, pos := "ref.go:90", after := #[], guard := none }) (v := ?_) rfl (by kernel_rfl) (by kernel_rfl) (by kernel_rfl) (hQ _ _) (Or.inl ⟨by rfl, ?_⟩) ?_
  rotate_left 1
  · intro w; go_simp; try with_reducible rfl
  simp only [Act.put, List.setIfInBounds_toArray, List.set_cons_succ, List.set_cons_zero]
  refine wpAny_ready (rs := [0, 2]) (by kernel_rfl) (by simp) ?_
  refine AllReady.cons (o := { dst := some 44, op := Op.load 35 (Operand.tmp 6), type := 35, pos := "ref.go:90", after := #[], guard := none }) rfl (fun K hK => ?_) (AllReady.cons (o := { dst := some 46, op := Op.call { callee := Callee.value (Operand.func 60), args := #[Operand.tmp 45, Operand.const (Value.int IntKind.i64 1)], argTypes := #[22, 3] }, type := 3, pos := "ref.go:90", after := #[{ on := 1, ground := Ground.data }], guard := none }) rfl (fun K hK => ?_) (AllReady.nil))
  · with_reducible refine step_load_agg rfl 35 _ rfl ⟨Q6, 0, none⟩ ?_ [.int .i64 2, .int .i64 cc, .int .i64 0, .slice Av Lv cv] _ hc0.out Try.underlying35 rfl (lit_size _ _ _ _) ?_
    · rfl
    refine hK _ _ ?_
    clear hK K
    simp only [Act.put, List.setIfInBounds_toArray, List.set_cons_succ, List.set_cons_zero]
    refine wpAny_ready (rs := [2]) (by kernel_rfl) (by simp) ?_
    refine AllReady.cons (o := { dst := some 46, op := Op.call { callee := Callee.value (Operand.func 60), args := #[Operand.tmp 45, Operand.const (Value.int IntKind.i64 1)], argTypes := #[22, 3] }, type := 3, pos := "ref.go:90", after := #[{ on := 1, ground := Ground.data }], guard := none }) rfl (fun K hK => ?_) (AllReady.nil)
    with_reducible refine step_call_w ?_ 60 _ _ rfl #[.slice A k c, .int .i64 1] ?_ Try.f60 Try.func60 f60_name f60_body (.int .i64 z) ?_ ?_
    · rfl
    · simp only [List.map_toArray, List.map_cons, List.map_nil]; rfl
    · exact (hat.out w0 hl0.out).mono fun e w2 h => ⟨h.1, h.2 ▸ Below.refl _ _⟩
    intro w1 hb1
    have hc1 := Lib.hid (hc0.out.below hb1 (World.rowIs.lt hr0.out))
    have hr1 := Lib.hid (World.rowIs.of_block hr0.out (hb1.block _ (World.rowIs.lt hr0.out)))
    have hs1 := Lib.hid (World.rowIs.of_block hs0.out (hb1.block _ (World.rowIs.lt hs0.out)))
    have hl1 := Lib.hid (hl0.out.trans (hb1.mono hl0.out.size))
    refine hK _ _ ?_
    clear hK K
    simp only [Act.put, List.setIfInBounds_toArray, List.set_cons_succ, List.set_cons_zero]
    refine wpAny_take (i := 3) (oi := { dst := some 47, op := Op.binOp BinOp.add 3 (Operand.const (Value.int IntKind.i64 2)) (Operand.tmp 46) 3, type := 3, pos := "ref.go:90", after := #[{ on := 2, ground := Ground.data }, { on := 4, ground := Ground.gcOnly Departure.lateStores }], guard := none }) (v := ?_) rfl (by kernel_rfl) (by kernel_rfl) (by kernel_rfl) (hQ _ _) (Or.inl ⟨by rfl, ?_⟩) ?_
    rotate_left 1
    · intro w; go_simp; try with_reducible rfl
    simp only [Act.put, List.setIfInBounds_toArray, List.set_cons_succ, List.set_cons_zero]
    refine wpAny_ready (rs := [4]) (by kernel_rfl) (by simp) ?_
    refine AllReady.cons (o := { dst := none, op := Op.store 35 (Operand.tmp 2) (Operand.tmp 44), type := 0, pos := "ref.go:90", after := #[{ on := 0, ground := Ground.data }, { on := 2, ground := Ground.chain }, { on := 0, ground := Ground.phase }, { on := 1, ground := Ground.textOnly Departure.lateStores }, { on := 2, ground := Ground.textOnly Departure.lateStoresUnsure }, { on := 3, ground := Ground.textOnly Departure.lateStores }], guard := none }) rfl (fun K hK => ?_) (AllReady.nil)
    have ht := row_there hs1.out
    rw [if_pos (by rfl)]
    refine wp_store_mid 35 _ _ rfl Q2 0 #[.int .i64 2, .int .i64 cc, .int .i64 0, .slice Av Lv cv] ?_ ?_ ht (lit_sizeA _ _ _ _) (lit_one _ _ _ _ _ _) ?_
    · rfl
    · rfl
    refine hK _ _ ?_
    clear hK K ht
    try simp only [Act.put]
    refine wpAny_take (i := 5) (oi := { dst := some 3, op := Op.assign (Operand.tmp 47), type := 3, pos := "ref.go:90", after := #[{ on := 3, ground := Ground.data }, { on := 4, ground := Ground.chain }, { on := 0, ground := Ground.phase }, { on := 1, ground := Ground.phase }, { on := 2, ground := Ground.phase }, { on := 3, ground := Ground.phase }, { on := 4, ground := Ground.phase }], guard := none }) (v := ?_) rfl (by kernel_rfl) (by kernel_rfl) (by kernel_rfl) (hQ _ _) (Or.inl ⟨by rfl, ?_⟩) ?_
    rotate_left 1
    · intro w; go_simp; try with_reducible rfl
    simp only [Act.put, List.setIfInBounds_toArray, List.set_cons_succ, List.set_cons_zero]
    refine wpAny_done (by kernel_rfl) ?_ _
    exact hpost _ _ _ _ _ hr1.out hs1.out hl1.out
  · with_reducible refine step_call_w ?_ 60 _ _ rfl #[.slice A k c, .int .i64 1] ?_ Try.f60 Try.func60 f60_name f60_body (.int .i64 z) ?_ ?_
    · rfl
    · simp only [List.map_toArray, List.map_cons, List.map_nil]; rfl
    · exact (hat.out w0 hl0.out).mono fun e w2 h => ⟨h.1, h.2 ▸ Below.refl _ _⟩
    intro w2 hb2
    have hc2 := Lib.hid (hc0.out.below hb2 (World.rowIs.lt hr0.out))
    have hr2 := Lib.hid (World.rowIs.of_block hr0.out (hb2.block _ (World.rowIs.lt hr0.out)))
    have hs2 := Lib.hid (World.rowIs.of_block hs0.out (hb2.block _ (World.rowIs.lt hs0.out)))
    have hl2 := Lib.hid (hl0.out.trans (hb2.mono hl0.out.size))
    refine hK _ _ ?_
    clear hK K
    simp only [Act.put, List.setIfInBounds_toArray, List.set_cons_succ, List.set_cons_zero]
    refine wpAny_take (i := 3) (oi := { dst := some 47, op := Op.binOp BinOp.add 3 (Operand.const (Value.int IntKind.i64 2)) (Operand.tmp 46) 3, type := 3, pos := "ref.go:90", after := #[{ on := 2, ground := Ground.data }, { on := 4, ground := Ground.gcOnly Departure.lateStores }], guard := none }) (v := ?_) rfl (by kernel_rfl) (by kernel_rfl) (by kernel_rfl) (hQ _ _) (Or.inl ⟨by rfl, ?_⟩) ?_
    rotate_left 1
    · intro w; go_simp; try with_reducible rfl
    simp only [Act.put, List.setIfInBounds_toArray, List.set_cons_succ, List.set_cons_zero]
    refine wpAny_ready (rs := [0]) (by kernel_rfl) (by simp) ?_
    refine AllReady.cons (o := { dst := some 44, op := Op.load 35 (Operand.tmp 6), type := 35, pos := "ref.go:90", after := #[], guard := none }) rfl (fun K hK => ?_) (AllReady.nil)
    with_reducible refine step_load_agg rfl 35 _ rfl ⟨Q6, 0, none⟩ ?_ [.int .i64 2, .int .i64 cc, .int .i64 0, .slice Av Lv cv] _ hc2.out Try.underlying35 rfl (lit_size _ _ _ _) ?_
    · rfl
    refine hK _ _ ?_
    clear hK K
    simp only [Act.put, List.setIfInBounds_toArray, List.set_cons_succ, List.set_cons_zero]
    refine wpAny_ready (rs := [4]) (by kernel_rfl) (by simp) ?_
    refine AllReady.cons (o := { dst := none, op := Op.store 35 (Operand.tmp 2) (Operand.tmp 44), type := 0, pos := "ref.go:90", after := #[{ on := 0, ground := Ground.data }, { on := 2, ground := Ground.chain }, { on := 0, ground := Ground.phase }, { on := 1, ground := Ground.textOnly Departure.lateStores }, { on := 2, ground := Ground.textOnly Departure.lateStoresUnsure }, { on := 3, ground := Ground.textOnly Departure.lateStores }], guard := none }) rfl (fun K hK => ?_) (AllReady.nil)
    have ht := row_there hs2.out
    rw [if_pos (by rfl)]
    refine wp_store_mid 35 _ _ rfl Q2 0 #[.int .i64 2, .int .i64 cc, .int .i64 0, .slice Av Lv cv] ?_ ?_ ht (lit_sizeA _ _ _ _) (lit_one _ _ _ _ _ _) ?_
    · rfl
    · rfl
    refine hK _ _ ?_
    clear hK K ht
    try simp only [Act.put]
    refine wpAny_take (i := 5) (oi := { dst := some 3, op := Op.assign (Operand.tmp 47), type := 3, pos := "ref.go:90", after := #[{ on := 3, ground := Ground.data }, { on := 4, ground := Ground.chain }, { on := 0, ground := Ground.phase }, { on := 1, ground := Ground.phase }, { on := 2, ground := Ground.phase }, { on := 3, ground := Ground.phase }, { on := 4, ground := Ground.phase }], guard := none }) (v := ?_) rfl (by kernel_rfl) (by kernel_rfl) (by kernel_rfl) (hQ _ _) (Or.inl ⟨by rfl, ?_⟩) ?_
    rotate_left 1
    · intro w; go_simp; try with_reducible rfl
    simp only [Act.put, List.setIfInBounds_toArray, List.set_cons_succ, List.set_cons_zero]
    refine wpAny_done (by kernel_rfl) ?_ _
    exact hpost _ _ _ _ _ hr2.out hs2.out hl2.out

/-- after a round of the loop: the cell is stored -/
theorem first_round {w W : World} {Q2 Q6 bs : Nat} {cc : Int} {v v' : Value} {ds : List Int} (h6 : W.rowIs Q6 35 4 (listF [.int .i64 2, .int .i64 cc, .int .i64 0, v])) (h2 : W.rowIs Q2 35 4 (listF [.int .i64 0, .int .i64 0, .int .i64 0, .slice none 0 0])) (hne : Q2 ≠ Q6) (hQ : Q6 < bs) (ho : Own8 W bs v' ds) (hb : Below w.heap.size w W) (hw : w.heap.size ≤ Q6) :
    (W.setCell ⟨Q6, 3, none⟩ v').rowIs Q6 35 4 (listF [.int .i64 2, .int .i64 cc, .int .i64 0, v']) ∧ (W.setCell ⟨Q6, 3, none⟩ v').rowIs Q2 35 4 (listF [.int .i64 0, .int .i64 0, .int .i64 0, .slice none 0 0]) ∧ Own8 (W.setCell ⟨Q6, 3, none⟩ v') bs v' ds ∧ Below w.heap.size w (W.setCell ⟨Q6, 3, none⟩ v') := by
  have hk : Kept [Q6] W (W.setCell ⟨Q6, 3, none⟩ v') := (Kept.refl _ _).setCell (by simp) _
  refine ⟨World.rowIs.congr (World.rowIs.set h6 3 v') fun i hi => ?_, World.rowIs.setOther h2 (by exact hne) _, hk.own ho.raw hQ, hb.trans (hk.below hb.size (by simp; exact hw))⟩
  match i, hi with
  | 0, _ => rfl
  | 1, _ => rfl
  | 2, _ => rfl
  | 3, _ => rfl

set_option maxRecDepth 100000 in
set_option maxHeartbeats 4000000 in
theorem first_data (A : Option Addr) (k c : Nat) (xs : List Int) (w : World) (hk : xs.length = k) (hl : k ≤ 10000) (hx : ∀ y ∈ xs, 0 ≤ y ∧ y < 256) (hA : Byt w w.heap.size A c xs) (hm : xs.getD 0 0 % 16 = 3) :
    Calls Try.prog 39 #[.slice A k c] w (FirstPost ⟨2, xs.getD 0 0 / 16, 0, takeZ (xs.getD 1 0).toNat (xs.drop 2)⟩ (2 + xs.getD 1 0) w) := by
  have h0 := Lib.hid (fun W (hb : Below w.heap.size w W) => at_any A k c 0 xs W hk (by omega) (by omega) hx ((hA.below hb (Nat.le_refl _)).mono hb.size))
  have h1 := Lib.hid (fun W (hb : Below w.heap.size w W) => at_any A k c 1 xs W hk (by omega) (by omega) hx ((hA.below hb (Nat.le_refl _)).mono hb.size))
  have hi := Lib.hid (fun (i : Nat) (hi : i ≤ 1000) W (hb : Below w.heap.size w W) => at_any A k c (2 + i) xs W hk (by omega) (by omega) hx ((hA.below hb (Nat.le_refl _)).mono hb.size))
  have HX := Lib.hid hx
  have hr := getD_byte hx 0
  have hz := getD_byte hx 1
  obtain ⟨x, hxx⟩ : ∃ x, xs.getD 0 0 = x := ⟨_, rfl⟩
  obtain ⟨z, hzz⟩ : ∃ z, xs.getD 1 0 = z := ⟨_, rfl⟩
  rw [hxx] at hm h0 hr ⊢
  rw [hzz] at h1 hz ⊢
  obtain ⟨hr1, hr2⟩ := hr
  obtain ⟨hz1, hz2⟩ := hz
  obtain ⟨nz, rfl⟩ : ∃ n : Nat, z = n := ⟨z.toNat, by omega⟩
  have hb0 := Lib.hid (below1 w (.cells #[.int .i64 0, .int .i64 0, .int .i64 0, .slice none 0 0] 35))
  have hrow2 : ((w.alloc (.cells #[.int .i64 0, .int .i64 0, .int .i64 0, .slice none 0 0] 35)).alloc (.cells #[.int .i64 2, .int .i64 (x / 16), .int .i64 0, .slice none 0 0] 35)).rowIs w.heap.size 35 4 (listF [.int .i64 0, .int .i64 0, .int .i64 0, .slice none 0 0]) := World.rowIs.alloc (row_list w [.int .i64 0, .int .i64 0, .int .i64 0, .slice none 0 0] 35) _
  have hrow6 : ((w.alloc (.cells #[.int .i64 0, .int .i64 0, .int .i64 0, .slice none 0 0] 35)).alloc (.cells #[.int .i64 2, .int .i64 (x / 16), .int .i64 0, .slice none 0 0] 35)).rowIs (w.heap.size + 1) 35 4 (listF [.int .i64 2, .int .i64 (x / 16), .int .i64 0, .slice none 0 0]) := by
    have := row_list (w.alloc (.cells #[.int .i64 0, .int .i64 0, .int .i64 0, .slice none 0 0] 35)) [.int .i64 2, .int .i64 (x / 16), .int .i64 0, .slice none 0 0] 35
    simpa using this
  have hbb := below2 w (.cells #[.int .i64 0, .int .i64 0, .int .i64 0, .slice none 0 0] 35) (.cells #[.int .i64 2, .int .i64 (x / 16), .int .i64 0, .slice none 0 0] 35)
  have hsz : w.heap.size + 2 ≤ ((w.alloc (.cells #[.int .i64 0, .int .i64 0, .int .i64 0, .slice none 0 0] 35)).alloc (.cells #[.int .i64 2, .int .i64 (x / 16), .int .i64 0, .slice none 0 0] 35)).heap.size := by simp
  have H2 := Lib.hid hrow2
  have H6 := Lib.hid hrow6
  have HBB := Lib.hid hbb
  have HSZ := Lib.hid hsz
  clear hx hA hxx hk hzz hrow2 hrow6 hbb hsz
  go_enter Try.func39, Try.ntmps39
  go_wp2_with fail
  refine (h0.out _ hb0.out).mono ?_
  rintro e w1 ⟨rfl, rfl⟩
  go_wp2_with fail
  clear hm
  go_loopw [7] (fun j wr => ∃ (i : Nat) (v : Value), j = .int .i64 i ∧ i ≤ nz ∧ wr.rowIs (w.heap.size + 1) 35 4 (listF [.int .i64 2, .int .i64 (x / 16), .int .i64 0, v]) ∧ wr.rowIs w.heap.size 35 4 (listF [.int .i64 0, .int .i64 0, .int .i64 0, .slice none 0 0]) ∧ Own8 wr (w.heap.size + 2) v (takeZ i (xs.drop 2)) ∧ Below w.heap.size w wr ∧ w.heap.size + 2 ≤ wr.heap.size) (fun j _ => nz - (intOf j).toNat)
  case atStart =>
    refine ⟨0, _, rfl, Nat.zero_le _, H6.out, H2.out, ?_, HBB.out, HSZ.out⟩
    exact Own8.nil _ _
  case round =>
    obtain ⟨i, v, rfl, hin, h6, h2, ho, hb, hs⟩ := hrel
    have h6 := Lib.hid h6
    have h2 := Lib.hid h2
    have ho := Lib.hid ho
    go_wp2_with fail
    refine (h1.out _ hb).mono ?_
    rintro e w1 ⟨rfl, rfl⟩
    by_cases hlt : i < nz
    · have hg : decide ((i : Int) < (nz : Int)) = true := by simp; omega
      have hy := getD_byte HX.out (2 + i)
      have hsn := Lib.hid (show takeZ (i + 1) (xs.drop 2) = takeZ i (xs.drop 2) ++ [xs.getD (2 + i) 0] by rw [takeZ_succ]; simp [List.getD])
      have hati := Lib.hid (hi.out i (by omega))
      obtain ⟨y, hyy⟩ : ∃ y, xs.getD (2 + i) 0 = y := ⟨_, rfl⟩
      rw [hyy] at hy hsn hati
      clear hyy
      obtain ⟨hy1, hy2⟩ := hy
      have hdl : (takeZ i (xs.drop 2)).length ≤ 1000 := by rw [takeZ_len]; omega
      go_upto_region 14 with (fail)
      refine region14 _ (fun d v c a w h => by cases d <;> exact h) w1 (w.heap.size + 2) (w.heap.size + 1) i k c A y (takeZ i (xs.drop 2)) (listF [.int .i64 2, .int .i64 (x / 16), .int .i64 0, v]) v _ _ _ _ _ _ _ _ _ _ _ _ _ _ _ _ _ _ _ _ _ _ _ _ _ _ _ _ _ _ _ _ _ _ _ _ _ _ _ _ _ _ _ _ _ _ _ _ _ _ _ _ _ _ _ _ _ _ _ _ _ _ _ _ _ _ _ _ _ _ _ _ _ _ _ _ _ _ _ _ hy1 hy2 (by omega) hdl rfl hs (by omega) h6.out ho.out (fun W' hb' => hati.out W' (hb.trans (hb'.mono (by omega)))) ?_
      intro u34 u35 u36 u37 u38 u39 u40 u41 u42 u43 v2 W2 h6b ho2 hb2
      obtain ⟨g6, g2, go, gb⟩ := first_round h6b (World.rowIs.of_block h2.out (hb2.block _ (by omega))) (by omega) (by omega) ho2 (hb.trans (hb2.mono (by omega))) (by omega)
      have gs : w.heap.size + 2 ≤ (W2.setCell ⟨w.heap.size + 1, 3, none⟩ v2).heap.size := by have := World.rowIs.lt g6; have := hb2.size; have e : (W2.setCell ⟨w.heap.size + 1, 3, none⟩ v2).heap.size = W2.heap.size := (by simp [World.setCell]); omega
      obtain ⟨W3, hW3⟩ : ∃ W3, W2.setCell ⟨w.heap.size + 1, 3, none⟩ v2 = W3 := ⟨_, rfl⟩
      rw [hW3] at g6 g2 go gb gs ⊢
      have G6 := Lib.hid g6
      have G2 := Lib.hid g2
      have GO := Lib.hid go
      clear hW3 h6b ho2 hb2 g6 g2 go
      go_wp2_with fail
      go_roundw
      case rel => exact ⟨i + 1, v2, by go_num, by omega, G6.out, G2.out, by rw [hsn.out]; exact GO.out, gb, gs⟩
      case measure => simp [intOf]; omega
    · obtain rfl : i = nz := by omega
      have hg : decide ((i : Int) < (i : Int)) = false := by simp
      obtain ⟨Av, cv, hv, hby⟩ := ho.out.val
      rw [takeZ_len] at hv
      subst hv
      clear hby
      go_upto_region 15 with (fail)
      refine region15 _ (fun d v c a w h => by cases d <;> exact h) w1 w.heap.size (w.heap.size + 1) k c A i (x / 16) Av i cv (listF [.int .i64 0, .int .i64 0, .int .i64 0, .slice none 0 0]) _ _ _ _ _ _ _ _ _ _ _ _ _ _ _ _ _ _ _ _ _ _ _ _ _ _ _ _ _ _ _ _ _ _ _ _ _ _ _ _ _ _ _ _ _ _ _ _ _ _ _ _ _ _ _ _ _ _ _ _ _ _ _ _ _ _ _ _ _ _ _ _ _ _ _ _ _ _ _ _ hz1 hz2 h6.out h2.out (fun W' hb' => h1.out W' (hb.trans (hb'.mono (by omega)))) ?_
      intro u44 u45 u46 u47 W2 h6b h2b hb2
      have hst := store_all h2b [.int .i64 2, .int .i64 (x / 16), .int .i64 0, .slice Av i cv] rfl
      have hld := run_loadVar_at _ _ _ _ _ (row_cells hst [.int .i64 2, .int .i64 (x / 16), .int .i64 0, .slice Av i cv] rfl fun i hi => rfl) Try.underlying35 rfl (lit_size _ _ _ _)
      have hk2 : Kept [w.heap.size] W2 (W2.setCells w.heap.size 0 [.int .i64 2, .int .i64 (x / 16), .int .i64 0, .slice Av i cv]) := kept_setCells (by simp) _ _ _ (Kept.refl _ _)
      have hbw := hb.trans (hb2.mono (by omega))
      have hbe := hbw.trans (hk2.below hbw.size (by simp))
      have hoe : Own8 (W2.setCells w.heap.size 0 [.int .i64 2, .int .i64 (x / 16), .int .i64 0, .slice Av i cv]) w.heap.size (.slice Av i cv) (takeZ i (xs.drop 2)) := by
        have e1 := (Kept.of_below (L := []) hb2).own2 ho.out.raw (by simp)
        have e2 := hk2.own e1 (by omega)
        exact owns_mono e2 (by omega)
      have HLD := Lib.hid hld
      have HBE := Lib.hid hbe
      have HOE := Lib.hid hoe
      clear hld hbe hoe hbw hk2 hst h6b h2b hb2
      obtain ⟨W3, hW3⟩ : ∃ W3, W2.setCells w.heap.size 0 [.int .i64 2, .int .i64 (x / 16), .int .i64 0, .slice Av i cv] = W3 := ⟨_, rfl⟩
      rw [hW3] at HLD HBE HOE ⊢
      clear hW3
      go_wp2_with fail
      exact bodyPost_ret (results_cell2 rfl _ _ ⟨w.heap.size, 0, none⟩ _ rfl HLD.out) rfl ⟨_, rfl, HOE.out, HBE.out⟩
end Go.Proofs.Ytnmhmabifeapkaa.Ord
