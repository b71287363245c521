/- The drawn region of the law's known. (Printed by wip/tools/gen28.py.) -/
import Derived.Test.YtnmhmabifeapkaaR23
import Derived.Test.YtnmhmabifeapkaaR24
import Derived.Test.YtnmhmabifeapkaaR26
import Derived.Deep.RegionHeld
namespace Go.Proofs.Ytnmhmabifeapkaa.Ord
open Go.RowKit
set_option linter.unusedVariables false

theorem ps_all1 {w : World} {B : Nat} {p : StepR × Value} (h : DatB w B p.2 p.1.d) : ∀ q ∈ [p], DatB w B q.2 q.1.d := by
  intro q hq; simp at hq; subst hq; exact h
theorem ps_all2 {w : World} {B : Nat} {p1 p2 : StepR × Value} (h1 : DatB w B p1.2 p1.1.d) (h2 : DatB w B p2.2 p2.1.d) : ∀ q ∈ [p1, p2], DatB w B q.2 q.1.d := by
  intro q hq; simp at hq; rcases hq with rfl | rfl
  · exact h1
  · exact h2
theorem ps_all5 {w : World} {B : Nat} {p1 p2 p3 p4 p5 : StepR × Value} (h1 : DatB w B p1.2 p1.1.d) (h2 : DatB w B p2.2 p2.1.d) (h3 : DatB w B p3.2 p3.1.d) (h4 : DatB w B p4.2 p4.1.d) (h5 : DatB w B p5.2 p5.1.d) : ∀ q ∈ [p1, p2, p3, p4, p5], DatB w B q.2 q.1.d := by
  intro q hq; simp at hq; rcases hq with rfl | rfl | rfl | rfl | rfl
  · exact h1
  · exact h2
  · exact h3
  · exact h4
  · exact h5
theorem f36_name : (Try.f36.name == "runtime.NumGoroutine") = false := by kernel_rfl
theorem f36_body : Try.f36.body.isSome = true := by kernel_rfl
theorem f37_name : (Try.f37.name == "runtime.NumGoroutine") = false := by kernel_rfl
theorem f37_body : Try.f37.body.isSome = true := by kernel_rfl
theorem yields_agg {ops : Array Oper} {S : World → Prop} {op : Oper} {a : Act} (hw : Region.wanted op (yielded ops a.tmps) = true) (ty : TypeId) (x : Operand) (ho : op.op = .load ty x)
    (ad : Addr) (hx : a.eval x = .pointer (some ad)) (cs : List Value) (fs : Array Field) (hS : ∀ w, S w → CellsAt w ad cs)
    (hu : Try.prog.underlying ty = some (.struct fs)) (hi : (Try.prog.info? ty).map (·.size) = some cs.length) : YieldsIf Try.prog ops S op (.agg cs.toArray) a :=
  .inl ⟨hw, fun w hw' => by
    unfold execOp
    simp only [ho, hx, Instr.loadAt, Instr.sureAddr, Sem.run_bind, Sem.run_pure, Result.andThen_ok, run_loadVar_at w ad ty cs _ (hS w hw') hu rfl hi]⟩
theorem listed_cast {P : Program} {md : Region.Mode} {ops : Array Oper} {Q : Exit → Act → World → Prop} {S : World → Prop} {n : Nat} {l l' : Array Bool} {a : Act} {w : World} (h : l = l') (h1 : wpAnyH P md ops Q S n l' a w) : wpAnyH P md ops Q S n l a w := h ▸ h1

def ops8 : Array Oper := #[{ dst := some 47, op := Op.buildSlice 22 8 #[(0, Operand.const (Value.int IntKind.u8 8)), (1, Operand.const (Value.int IntKind.u8 3)), (2, Operand.const (Value.int IntKind.u8 0)), (3, Operand.const (Value.int IntKind.u8 0)), (4, Operand.const (Value.int IntKind.u8 8)), (5, Operand.const (Value.int IntKind.u8 18)), (6, Operand.const (Value.int IntKind.u8 0)), (7, Operand.const (Value.int IntKind.u8 0))], type := 22, pos := "law.go:34", after := #[], guard := none },
  { dst := some 48, op := Op.load 35 (Operand.tmp 4), type := 35, pos := "law.go:34", after := #[], guard := none },
  { dst := some 49, op := Op.buildSlice 22 4 #[(0, Operand.const (Value.int IntKind.u8 3)), (1, Operand.const (Value.int IntKind.u8 4)), (2, Operand.const (Value.int IntKind.u8 1)), (3, Operand.const (Value.int IntKind.u8 98))], type := 22, pos := "law.go:34", after := #[], guard := none },
  { dst := some 50, op := Op.call { callee := Callee.value (Operand.func 36), args := #[Operand.const (Value.int IntKind.i64 0), Operand.tmp 49], argTypes := #[3, 22] }, type := 35, pos := "law.go:34", after := #[{ on := 2, ground := Ground.data }], guard := none },
  { dst := some 51, op := Op.buildSlice 24 2 #[(0, Operand.tmp 48), (1, Operand.tmp 50)], type := 24, pos := "law.go:34", after := #[{ on := 1, ground := Ground.data }, { on := 3, ground := Ground.data }], guard := none },
  { dst := some 52, op := Op.call { callee := Callee.value (Operand.func 37), args := #[Operand.tmp 47, Operand.tmp 51], argTypes := #[22, 24] }, type := 4, pos := "law.go:34", after := #[{ on := 0, ground := Ground.data }, { on := 4, ground := Ground.data }, { on := 3, ground := Ground.chain }], guard := none },
  { dst := some 53, op := Op.unOp UnOp.not 4 (Operand.tmp 52), type := 4, pos := "law.go:34", after := #[{ on := 5, ground := Ground.data }], guard := none },
  { dst := some 54, op := Op.move (Operand.tmp 53), type := 4, pos := "law.go:34", after := #[{ on := 6, ground := Ground.data }, { on := 5, ground := Ground.chain }], guard := none },
  { dst := some 55, op := Op.buildSlice 22 4 #[(0, Operand.const (Value.int IntKind.u8 24)), (1, Operand.const (Value.int IntKind.u8 13)), (2, Operand.const (Value.int IntKind.u8 0)), (3, Operand.const (Value.int IntKind.u8 0))], type := 22, pos := "law.go:34", after := #[{ on := 7, ground := Ground.guard }], guard := some (7, false) },
  { dst := some 56, op := Op.buildSlice 22 2 #[(0, Operand.const (Value.int IntKind.u8 1)), (1, Operand.const (Value.int IntKind.u8 14))], type := 22, pos := "law.go:34", after := #[{ on := 7, ground := Ground.guard }], guard := some (7, false) },
  { dst := some 57, op := Op.call { callee := Callee.value (Operand.func 36), args := #[Operand.const (Value.int IntKind.i64 1), Operand.tmp 56], argTypes := #[3, 22] }, type := 35, pos := "law.go:34", after := #[{ on := 9, ground := Ground.data }, { on := 7, ground := Ground.chain }, { on := 7, ground := Ground.guard }], guard := some (7, false) },
  { dst := some 58, op := Op.buildSlice 24 1 #[(0, Operand.tmp 57)], type := 24, pos := "law.go:34", after := #[{ on := 10, ground := Ground.data }, { on := 7, ground := Ground.guard }], guard := some (7, false) },
  { dst := some 59, op := Op.call { callee := Callee.value (Operand.func 37), args := #[Operand.tmp 55, Operand.tmp 58], argTypes := #[22, 24] }, type := 4, pos := "law.go:34", after := #[{ on := 8, ground := Ground.data }, { on := 11, ground := Ground.data }, { on := 10, ground := Ground.chain }, { on := 7, ground := Ground.guard }], guard := some (7, false) },
  { dst := some 60, op := Op.unOp UnOp.not 4 (Operand.tmp 59), type := 4, pos := "law.go:34", after := #[{ on := 12, ground := Ground.data }, { on := 7, ground := Ground.guard }], guard := some (7, false) },
  { dst := some 61, op := Op.pick (Operand.tmp 54) (Operand.const (Value.bool true)) (Operand.tmp 60), type := 4, pos := "law.go:34", after := #[{ on := 7, ground := Ground.data }, { on := 13, ground := Ground.data }], guard := none }]

set_option maxRecDepth 100000 in
set_option maxHeartbeats 4000000 in
theorem region8 (Q : Exit → Act → World → Prop) (hQ : ∀ d v c a w, Q (.panic c) (Act.put a d v) w → Q (.panic c) a w) (w W : World) (B g1 g2 g3 g4 gd : Nat) (s0 s1 s2 s3 s5 s6 s7 s8 s9 s10 s11 s12 s13 s14 s15 s16 s17 s18 s19 s20 s21 s22 s23 s24 s25 s26 s27 s28 s29 s30 s31 s32 s33 s34 s35 s36 s37 s38 s39 s40 s41 s42 s43 s44 s45 s46 s47 s48 s49 s50 s51 s52 s53 s54 s55 s56 s57 s58 s59 s60 s61 s62 s63 s64 s65 s66 s67 s68 s69 s70 s71 s72 s73 s74 s75 s76 s77 s78 s79 s80 s81 s82 s83 s84 s85 s86 s87 s88 s89 s90 s91 s92 s93 s94 s95 s96 s97 : Value)
    (hk : KB w W B g1 g2 g3 g4 gd)
    (hpost : ∀ (u47 u48 u49 u50 u51 u52 u53 u55 u56 u57 u58 u59 u60 : Value) (W' : World), KB w W' B g1 g2 g3 g4 gd → Q .normal ⟨#[s0, s1, s2, s3, .pointer (some ⟨g4, 0, none⟩), s5, s6, s7, s8, s9, s10, s11, s12, s13, s14, s15, s16, s17, s18, s19, s20, s21, s22, s23, s24, s25, s26, s27, s28, s29, s30, s31, s32, s33, s34, s35, s36, s37, s38, s39, s40, s41, s42, s43, s44, s45, s46, u47, u48, u49, u50, u51, u52, u53, .bool false, u55, u56, u57, u58, u59, u60, .bool false, s62, s63, s64, s65, s66, s67, s68, s69, s70, s71, s72, s73, s74, s75, s76, s77, s78, s79, s80, s81, s82, s83, s84, s85, s86, s87, s88, s89, s90, s91, s92, s93, s94, s95, s96, s97], []⟩ W') :
    (Code.region 8 ops8 true).wp Try.prog Q ⟨#[s0, s1, s2, s3, .pointer (some ⟨g4, 0, none⟩), s5, s6, s7, s8, s9, s10, s11, s12, s13, s14, s15, s16, s17, s18, s19, s20, s21, s22, s23, s24, s25, s26, s27, s28, s29, s30, s31, s32, s33, s34, s35, s36, s37, s38, s39, s40, s41, s42, s43, s44, s45, s46, s47, s48, s49, s50, s51, s52, s53, s54, s55, s56, s57, s58, s59, s60, s61, s62, s63, s64, s65, s66, s67, s68, s69, s70, s71, s72, s73, s74, s75, s76, s77, s78, s79, s80, s81, s82, s83, s84, s85, s86, s87, s88, s89, s90, s91, s92, s93, s94, s95, s96, s97], []⟩ W := by
  have half : ∀ (u47 u48 u49 u50 u51 u52 u53 : Value) (w0 : World), KB w w0 B g1 g2 g3 g4 gd → wpAnyH Try.prog .any ops8 Q (fun W => KB w W B g1 g2 g3 g4 gd) 7 #[true, true, true, true, true, true, true, true, false, false, false, false, false, false, false] ⟨#[s0, s1, s2, s3, .pointer (some ⟨g4, 0, none⟩), s5, s6, s7, s8, s9, s10, s11, s12, s13, s14, s15, s16, s17, s18, s19, s20, s21, s22, s23, s24, s25, s26, s27, s28, s29, s30, s31, s32, s33, s34, s35, s36, s37, s38, s39, s40, s41, s42, s43, s44, s45, s46, u47, u48, u49, u50, u51, u52, u53, .bool false, s55, s56, s57, s58, s59, s60, s61, s62, s63, s64, s65, s66, s67, s68, s69, s70, s71, s72, s73, s74, s75, s76, s77, s78, s79, s80, s81, s82, s83, s84, s85, s86, s87, s88, s89, s90, s91, s92, s93, s94, s95, s96, s97], []⟩ w0 := by
    intro u47 u48 u49 u50 u51 u52 u53 w0 hk0
    have hk0 := Lib.hid hk0
    refine wpAnyH_ready (rs := [8, 9]) (by kernel_rfl) (by simp) ?_
    refine AllReadyH.cons (o := { dst := some 55, op := Op.buildSlice 22 4 #[(0, Operand.const (Value.int IntKind.u8 24)), (1, Operand.const (Value.int IntKind.u8 13)), (2, Operand.const (Value.int IntKind.u8 0)), (3, Operand.const (Value.int IntKind.u8 0))], type := 22, pos := "law.go:34", after := #[{ on := 7, ground := Ground.guard }], guard := some (7, false) }) rfl (fun K hK => ?_) (AllReadyH.cons (o := { dst := some 56, op := Op.buildSlice 22 2 #[(0, Operand.const (Value.int IntKind.u8 1)), (1, Operand.const (Value.int IntKind.u8 14))], type := 22, pos := "law.go:34", after := #[{ on := 7, ground := Ground.guard }], guard := some (7, false) }) rfl (fun K hK => ?_) (AllReadyH.nil))
    · with_reducible refine step_bytes_w ?_ 4 _ rfl [24, 13, 0, 0] [(0, .int .u8 24), (1, .int .u8 13), (2, .int .u8 0), (3, .int .u8 0)] ?_ ?_ ?_ ?_ ?_ ?_
      · rfl
      · simp only [List.map_toArray, List.map_cons, List.map_nil]; rfl
      · kernel_rfl
      · rfl
      · decide
      · decide
      intro w1 hw1
      have hb1 := hw1.low
      have hB55_1 := Lib.hid hw1.ba
      have hk1 := Lib.hid (hk0.out.next hb1)
      refine hK.out _ _ hk1.out (fun _ => ?_)
      clear hK K
      simp only [Act.put, List.setIfInBounds_toArray, List.set_cons_succ, List.set_cons_zero]
      refine wpAnyH_ready (rs := [9]) (by kernel_rfl) (by simp) ?_
      refine AllReadyH.cons (o := { dst := some 56, op := Op.buildSlice 22 2 #[(0, Operand.const (Value.int IntKind.u8 1)), (1, Operand.const (Value.int IntKind.u8 14))], type := 22, pos := "law.go:34", after := #[{ on := 7, ground := Ground.guard }], guard := some (7, false) }) rfl (fun K hK => ?_) (AllReadyH.nil)
      with_reducible refine step_bytes_w ?_ 2 _ rfl [1, 14] [(0, .int .u8 1), (1, .int .u8 14)] ?_ ?_ ?_ ?_ ?_ ?_
      · rfl
      · simp only [List.map_toArray, List.map_cons, List.map_nil]; rfl
      · kernel_rfl
      · rfl
      · decide
      · decide
      intro w2 hw2
      have hb2 := hw2.low
      have hB56_2 := Lib.hid hw2.ba
      have hk2 := Lib.hid (hk1.out.next hb2)
      refine hK.out _ _ hk2.out (fun _ => ?_)
      clear hK K
      simp only [Act.put, List.setIfInBounds_toArray, List.set_cons_succ, List.set_cons_zero]
      refine wpAnyH_ready (rs := [10]) (by kernel_rfl) (by simp) ?_
      refine AllReadyH.cons (o := { dst := some 57, op := Op.call { callee := Callee.value (Operand.func 36), args := #[Operand.const (Value.int IntKind.i64 1), Operand.tmp 56], argTypes := #[3, 22] }, type := 35, pos := "law.go:34", after := #[{ on := 9, ground := Ground.data }, { on := 7, ground := Ground.chain }, { on := 7, ground := Ground.guard }], guard := some (7, false) }) rfl (fun K hK => ?_) (AllReadyH.nil)
      with_reducible refine step_call_w ?_ 36 _ _ rfl #[.int .i64 1, .slice (some ⟨w1.heap.size, 0, none⟩) 2 2] ?_ Try.f36 Try.func36 f36_name f36_body (.agg #[.int .i64 2, .int .i64 1, .int .i64 0, .slice (some ⟨w1.heap.size, 0, none⟩) 2 2]) ?_ ?_
      · rfl
      · simp only [List.map_toArray, List.map_cons, List.map_nil]; rfl
      · exact deliver_any 1 (some ⟨w1.heap.size, 0, none⟩) 2 2 w2
      intro w3 hb3
      have hk3 := Lib.hid (hk2.out.next hb3)
      refine hK.out _ _ hk3.out (fun _ => ?_)
      clear hK K
      simp only [Act.put, List.setIfInBounds_toArray, List.set_cons_succ, List.set_cons_zero]
      refine wpAnyH_ready (rs := [11]) (by kernel_rfl) (by simp) ?_
      refine AllReadyH.cons (o := { dst := some 58, op := Op.buildSlice 24 1 #[(0, Operand.tmp 57)], type := 24, pos := "law.go:34", after := #[{ on := 10, ground := Ground.data }, { on := 7, ground := Ground.guard }], guard := some (7, false) }) rfl (fun K hK => ?_) (AllReadyH.nil)
      with_reducible refine step_steps_w ?_ 1 _ rfl [(⟨2, 1, 0, [1, 14]⟩, .slice (some ⟨w1.heap.size, 0, none⟩) 2 2)] [(0, .agg #[.int .i64 2, .int .i64 1, .int .i64 0, .slice (some ⟨w1.heap.size, 0, none⟩) 2 2])] ?_ ?_ ?_ ?_ ?_ ?_ ?_
      · rfl
      · simp only [List.map_toArray, List.map_cons, List.map_nil]; rfl
      · kernel_rfl
      · rfl
      · decide
      · decide
      · exact ps_all1 ((hB56_2.out.below hb3).dat rfl rfl)
      intro w4 hS58 hb4
      have hS58_4 := Lib.hid hS58
      clear hS58
      have hk4 := Lib.hid (hk3.out.next hb4)
      refine hK.out _ _ hk4.out (fun _ => ?_)
      clear hK K
      simp only [Act.put, List.setIfInBounds_toArray, List.set_cons_succ, List.set_cons_zero]
      refine wpAnyH_ready (rs := [12]) (by kernel_rfl) (by simp) ?_
      refine AllReadyH.cons (o := { dst := some 59, op := Op.call { callee := Callee.value (Operand.func 37), args := #[Operand.tmp 55, Operand.tmp 58], argTypes := #[22, 24] }, type := 4, pos := "law.go:34", after := #[{ on := 8, ground := Ground.data }, { on := 11, ground := Ground.data }, { on := 10, ground := Ground.chain }, { on := 7, ground := Ground.guard }], guard := some (7, false) }) rfl (fun K hK => ?_) (AllReadyH.nil)
      with_reducible refine step_call_w ?_ 37 _ _ rfl #[.slice (some ⟨w0.heap.size, 0, none⟩) 4 4, .slice (some ⟨w3.heap.size, 0, none⟩) 1 1] ?_ Try.f37 Try.func37 f37_name f37_body (.bool true) ?_ ?_
      · rfl
      · simp only [List.map_toArray, List.map_cons, List.map_nil]; rfl
      · exact parses_yes2 w0.heap.size w3.heap.size 4 1 [24, 13, 0, 0] [⟨2, 1, 0, [1, 14]⟩] w4 (((hB55_1.out.below hb2).below hb3).below hb4) hS58_4.out parse6 rfl rfl rfl rfl (by decide)
      intro w5 hb5
      have hk5 := Lib.hid (hk4.out.next hb5)
      refine hK.out _ _ hk5.out (fun _ => ?_)
      clear hK K
      simp only [Act.put, List.setIfInBounds_toArray, List.set_cons_succ, List.set_cons_zero]
      refine wpAnyH_take (i := 13) (oi := { dst := some 60, op := Op.unOp UnOp.not 4 (Operand.tmp 59), type := 4, pos := "law.go:34", after := #[{ on := 12, ground := Ground.data }, { on := 7, ground := Ground.guard }], guard := some (7, false) }) (v := ?_) rfl (by kernel_rfl) (by kernel_rfl) (by kernel_rfl) (hQ _ _) (Or.inl ⟨by rfl, ?_⟩) hk5.out ?_
      rotate_left 1
      · intro w hw; go_simp; try with_reducible rfl
      simp only [Act.put, List.setIfInBounds_toArray, List.set_cons_succ, List.set_cons_zero]
      refine wpAnyH_take (i := 14) (oi := { dst := some 61, op := Op.pick (Operand.tmp 54) (Operand.const (Value.bool true)) (Operand.tmp 60), type := 4, pos := "law.go:34", after := #[{ on := 7, ground := Ground.data }, { on := 13, ground := Ground.data }], guard := none }) (v := ?_) rfl (by kernel_rfl) (by kernel_rfl) (by kernel_rfl) (hQ _ _) (Or.inl ⟨by rfl, ?_⟩) hk5.out ?_
      rotate_left 1
      · intro w hw; go_simp; try with_reducible rfl
      simp only [Act.put, List.setIfInBounds_toArray, List.set_cons_succ, List.set_cons_zero]
      exact wpAnyH_done (by kernel_rfl) (hpost _ _ _ _ _ _ _ _ _ _ _ _ _ _ hk5.out) _
    · with_reducible refine step_bytes_w ?_ 2 _ rfl [1, 14] [(0, .int .u8 1), (1, .int .u8 14)] ?_ ?_ ?_ ?_ ?_ ?_
      · rfl
      · simp only [List.map_toArray, List.map_cons, List.map_nil]; rfl
      · kernel_rfl
      · rfl
      · decide
      · decide
      intro w6 hw6
      have hb6 := hw6.low
      have hB56_6 := Lib.hid hw6.ba
      have hk6 := Lib.hid (hk0.out.next hb6)
      refine hK.out _ _ hk6.out (fun _ => ?_)
      clear hK K
      simp only [Act.put, List.setIfInBounds_toArray, List.set_cons_succ, List.set_cons_zero]
      refine wpAnyH_ready (rs := [8, 10]) (by kernel_rfl) (by simp) ?_
      refine AllReadyH.cons (o := { dst := some 55, op := Op.buildSlice 22 4 #[(0, Operand.const (Value.int IntKind.u8 24)), (1, Operand.const (Value.int IntKind.u8 13)), (2, Operand.const (Value.int IntKind.u8 0)), (3, Operand.const (Value.int IntKind.u8 0))], type := 22, pos := "law.go:34", after := #[{ on := 7, ground := Ground.guard }], guard := some (7, false) }) rfl (fun K hK => ?_) (AllReadyH.cons (o := { dst := some 57, op := Op.call { callee := Callee.value (Operand.func 36), args := #[Operand.const (Value.int IntKind.i64 1), Operand.tmp 56], argTypes := #[3, 22] }, type := 35, pos := "law.go:34", after := #[{ on := 9, ground := Ground.data }, { on := 7, ground := Ground.chain }, { on := 7, ground := Ground.guard }], guard := some (7, false) }) rfl (fun K hK => ?_) (AllReadyH.nil))
      · with_reducible refine step_bytes_w ?_ 4 _ rfl [24, 13, 0, 0] [(0, .int .u8 24), (1, .int .u8 13), (2, .int .u8 0), (3, .int .u8 0)] ?_ ?_ ?_ ?_ ?_ ?_
        · rfl
        · simp only [List.map_toArray, List.map_cons, List.map_nil]; rfl
        · kernel_rfl
        · rfl
        · decide
        · decide
        intro w7 hw7
        have hb7 := hw7.low
        have hB55_7 := Lib.hid hw7.ba
        have hk7 := Lib.hid (hk6.out.next hb7)
        refine hK.out _ _ hk7.out (fun _ => ?_)
        clear hK K
        simp only [Act.put, List.setIfInBounds_toArray, List.set_cons_succ, List.set_cons_zero]
        refine wpAnyH_ready (rs := [10]) (by kernel_rfl) (by simp) ?_
        refine AllReadyH.cons (o := { dst := some 57, op := Op.call { callee := Callee.value (Operand.func 36), args := #[Operand.const (Value.int IntKind.i64 1), Operand.tmp 56], argTypes := #[3, 22] }, type := 35, pos := "law.go:34", after := #[{ on := 9, ground := Ground.data }, { on := 7, ground := Ground.chain }, { on := 7, ground := Ground.guard }], guard := some (7, false) }) rfl (fun K hK => ?_) (AllReadyH.nil)
        with_reducible refine step_call_w ?_ 36 _ _ rfl #[.int .i64 1, .slice (some ⟨w0.heap.size, 0, none⟩) 2 2] ?_ Try.f36 Try.func36 f36_name f36_body (.agg #[.int .i64 2, .int .i64 1, .int .i64 0, .slice (some ⟨w0.heap.size, 0, none⟩) 2 2]) ?_ ?_
        · rfl
        · simp only [List.map_toArray, List.map_cons, List.map_nil]; rfl
        · exact deliver_any 1 (some ⟨w0.heap.size, 0, none⟩) 2 2 w7
        intro w8 hb8
        have hk8 := Lib.hid (hk7.out.next hb8)
        refine hK.out _ _ hk8.out (fun _ => ?_)
        clear hK K
        simp only [Act.put, List.setIfInBounds_toArray, List.set_cons_succ, List.set_cons_zero]
        refine wpAnyH_ready (rs := [11]) (by kernel_rfl) (by simp) ?_
        refine AllReadyH.cons (o := { dst := some 58, op := Op.buildSlice 24 1 #[(0, Operand.tmp 57)], type := 24, pos := "law.go:34", after := #[{ on := 10, ground := Ground.data }, { on := 7, ground := Ground.guard }], guard := some (7, false) }) rfl (fun K hK => ?_) (AllReadyH.nil)
        with_reducible refine step_steps_w ?_ 1 _ rfl [(⟨2, 1, 0, [1, 14]⟩, .slice (some ⟨w0.heap.size, 0, none⟩) 2 2)] [(0, .agg #[.int .i64 2, .int .i64 1, .int .i64 0, .slice (some ⟨w0.heap.size, 0, none⟩) 2 2])] ?_ ?_ ?_ ?_ ?_ ?_ ?_
        · rfl
        · simp only [List.map_toArray, List.map_cons, List.map_nil]; rfl
        · kernel_rfl
        · rfl
        · decide
        · decide
        · exact ps_all1 (((hB56_6.out.below hb7).below hb8).dat rfl rfl)
        intro w9 hS58 hb9
        have hS58_9 := Lib.hid hS58
        clear hS58
        have hk9 := Lib.hid (hk8.out.next hb9)
        refine hK.out _ _ hk9.out (fun _ => ?_)
        clear hK K
        simp only [Act.put, List.setIfInBounds_toArray, List.set_cons_succ, List.set_cons_zero]
        refine wpAnyH_ready (rs := [12]) (by kernel_rfl) (by simp) ?_
        refine AllReadyH.cons (o := { dst := some 59, op := Op.call { callee := Callee.value (Operand.func 37), args := #[Operand.tmp 55, Operand.tmp 58], argTypes := #[22, 24] }, type := 4, pos := "law.go:34", after := #[{ on := 8, ground := Ground.data }, { on := 11, ground := Ground.data }, { on := 10, ground := Ground.chain }, { on := 7, ground := Ground.guard }], guard := some (7, false) }) rfl (fun K hK => ?_) (AllReadyH.nil)
        with_reducible refine step_call_w ?_ 37 _ _ rfl #[.slice (some ⟨w6.heap.size, 0, none⟩) 4 4, .slice (some ⟨w8.heap.size, 0, none⟩) 1 1] ?_ Try.f37 Try.func37 f37_name f37_body (.bool true) ?_ ?_
        · rfl
        · simp only [List.map_toArray, List.map_cons, List.map_nil]; rfl
        · exact parses_yes2 w6.heap.size w8.heap.size 4 1 [24, 13, 0, 0] [⟨2, 1, 0, [1, 14]⟩] w9 ((hB55_7.out.below hb8).below hb9) hS58_9.out parse6 rfl rfl rfl rfl (by decide)
        intro w10 hb10
        have hk10 := Lib.hid (hk9.out.next hb10)
        refine hK.out _ _ hk10.out (fun _ => ?_)
        clear hK K
        simp only [Act.put, List.setIfInBounds_toArray, List.set_cons_succ, List.set_cons_zero]
        refine wpAnyH_take (i := 13) (oi := { dst := some 60, op := Op.unOp UnOp.not 4 (Operand.tmp 59), type := 4, pos := "law.go:34", after := #[{ on := 12, ground := Ground.data }, { on := 7, ground := Ground.guard }], guard := some (7, false) }) (v := ?_) rfl (by kernel_rfl) (by kernel_rfl) (by kernel_rfl) (hQ _ _) (Or.inl ⟨by rfl, ?_⟩) hk10.out ?_
        rotate_left 1
        · intro w hw; go_simp; try with_reducible rfl
        simp only [Act.put, List.setIfInBounds_toArray, List.set_cons_succ, List.set_cons_zero]
        refine wpAnyH_take (i := 14) (oi := { dst := some 61, op := Op.pick (Operand.tmp 54) (Operand.const (Value.bool true)) (Operand.tmp 60), type := 4, pos := "law.go:34", after := #[{ on := 7, ground := Ground.data }, { on := 13, ground := Ground.data }], guard := none }) (v := ?_) rfl (by kernel_rfl) (by kernel_rfl) (by kernel_rfl) (hQ _ _) (Or.inl ⟨by rfl, ?_⟩) hk10.out ?_
        rotate_left 1
        · intro w hw; go_simp; try with_reducible rfl
        simp only [Act.put, List.setIfInBounds_toArray, List.set_cons_succ, List.set_cons_zero]
        exact wpAnyH_done (by kernel_rfl) (hpost _ _ _ _ _ _ _ _ _ _ _ _ _ _ hk10.out) _
      · with_reducible refine step_call_w ?_ 36 _ _ rfl #[.int .i64 1, .slice (some ⟨w0.heap.size, 0, none⟩) 2 2] ?_ Try.f36 Try.func36 f36_name f36_body (.agg #[.int .i64 2, .int .i64 1, .int .i64 0, .slice (some ⟨w0.heap.size, 0, none⟩) 2 2]) ?_ ?_
        · rfl
        · simp only [List.map_toArray, List.map_cons, List.map_nil]; rfl
        · exact deliver_any 1 (some ⟨w0.heap.size, 0, none⟩) 2 2 w6
        intro w11 hb11
        have hk11 := Lib.hid (hk6.out.next hb11)
        refine hK.out _ _ hk11.out (fun _ => ?_)
        clear hK K
        simp only [Act.put, List.setIfInBounds_toArray, List.set_cons_succ, List.set_cons_zero]
        refine wpAnyH_ready (rs := [8, 11]) (by kernel_rfl) (by simp) ?_
        refine AllReadyH.cons (o := { dst := some 55, op := Op.buildSlice 22 4 #[(0, Operand.const (Value.int IntKind.u8 24)), (1, Operand.const (Value.int IntKind.u8 13)), (2, Operand.const (Value.int IntKind.u8 0)), (3, Operand.const (Value.int IntKind.u8 0))], type := 22, pos := "law.go:34", after := #[{ on := 7, ground := Ground.guard }], guard := some (7, false) }) rfl (fun K hK => ?_) (AllReadyH.cons (o := { dst := some 58, op := Op.buildSlice 24 1 #[(0, Operand.tmp 57)], type := 24, pos := "law.go:34", after := #[{ on := 10, ground := Ground.data }, { on := 7, ground := Ground.guard }], guard := some (7, false) }) rfl (fun K hK => ?_) (AllReadyH.nil))
        · with_reducible refine step_bytes_w ?_ 4 _ rfl [24, 13, 0, 0] [(0, .int .u8 24), (1, .int .u8 13), (2, .int .u8 0), (3, .int .u8 0)] ?_ ?_ ?_ ?_ ?_ ?_
          · rfl
          · simp only [List.map_toArray, List.map_cons, List.map_nil]; rfl
          · kernel_rfl
          · rfl
          · decide
          · decide
          intro w12 hw12
          have hb12 := hw12.low
          have hB55_12 := Lib.hid hw12.ba
          have hk12 := Lib.hid (hk11.out.next hb12)
          refine hK.out _ _ hk12.out (fun _ => ?_)
          clear hK K
          simp only [Act.put, List.setIfInBounds_toArray, List.set_cons_succ, List.set_cons_zero]
          refine wpAnyH_ready (rs := [11]) (by kernel_rfl) (by simp) ?_
          refine AllReadyH.cons (o := { dst := some 58, op := Op.buildSlice 24 1 #[(0, Operand.tmp 57)], type := 24, pos := "law.go:34", after := #[{ on := 10, ground := Ground.data }, { on := 7, ground := Ground.guard }], guard := some (7, false) }) rfl (fun K hK => ?_) (AllReadyH.nil)
          with_reducible refine step_steps_w ?_ 1 _ rfl [(⟨2, 1, 0, [1, 14]⟩, .slice (some ⟨w0.heap.size, 0, none⟩) 2 2)] [(0, .agg #[.int .i64 2, .int .i64 1, .int .i64 0, .slice (some ⟨w0.heap.size, 0, none⟩) 2 2])] ?_ ?_ ?_ ?_ ?_ ?_ ?_
          · rfl
          · simp only [List.map_toArray, List.map_cons, List.map_nil]; rfl
          · kernel_rfl
          · rfl
          · decide
          · decide
          · exact ps_all1 (((hB56_6.out.below hb11).below hb12).dat rfl rfl)
          intro w13 hS58 hb13
          have hS58_13 := Lib.hid hS58
          clear hS58
          have hk13 := Lib.hid (hk12.out.next hb13)
          refine hK.out _ _ hk13.out (fun _ => ?_)
          clear hK K
          simp only [Act.put, List.setIfInBounds_toArray, List.set_cons_succ, List.set_cons_zero]
          refine wpAnyH_ready (rs := [12]) (by kernel_rfl) (by simp) ?_
          refine AllReadyH.cons (o := { dst := some 59, op := Op.call { callee := Callee.value (Operand.func 37), args := #[Operand.tmp 55, Operand.tmp 58], argTypes := #[22, 24] }, type := 4, pos := "law.go:34", after := #[{ on := 8, ground := Ground.data }, { on := 11, ground := Ground.data }, { on := 10, ground := Ground.chain }, { on := 7, ground := Ground.guard }], guard := some (7, false) }) rfl (fun K hK => ?_) (AllReadyH.nil)
          with_reducible refine step_call_w ?_ 37 _ _ rfl #[.slice (some ⟨w11.heap.size, 0, none⟩) 4 4, .slice (some ⟨w12.heap.size, 0, none⟩) 1 1] ?_ Try.f37 Try.func37 f37_name f37_body (.bool true) ?_ ?_
          · rfl
          · simp only [List.map_toArray, List.map_cons, List.map_nil]; rfl
          · exact parses_yes2 w11.heap.size w12.heap.size 4 1 [24, 13, 0, 0] [⟨2, 1, 0, [1, 14]⟩] w13 (hB55_12.out.below hb13) hS58_13.out parse6 rfl rfl rfl rfl (by decide)
          intro w14 hb14
          have hk14 := Lib.hid (hk13.out.next hb14)
          refine hK.out _ _ hk14.out (fun _ => ?_)
          clear hK K
          simp only [Act.put, List.setIfInBounds_toArray, List.set_cons_succ, List.set_cons_zero]
          refine wpAnyH_take (i := 13) (oi := { dst := some 60, op := Op.unOp UnOp.not 4 (Operand.tmp 59), type := 4, pos := "law.go:34", after := #[{ on := 12, ground := Ground.data }, { on := 7, ground := Ground.guard }], guard := some (7, false) }) (v := ?_) rfl (by kernel_rfl) (by kernel_rfl) (by kernel_rfl) (hQ _ _) (Or.inl ⟨by rfl, ?_⟩) hk14.out ?_
          rotate_left 1
          · intro w hw; go_simp; try with_reducible rfl
          simp only [Act.put, List.setIfInBounds_toArray, List.set_cons_succ, List.set_cons_zero]
          refine wpAnyH_take (i := 14) (oi := { dst := some 61, op := Op.pick (Operand.tmp 54) (Operand.const (Value.bool true)) (Operand.tmp 60), type := 4, pos := "law.go:34", after := #[{ on := 7, ground := Ground.data }, { on := 13, ground := Ground.data }], guard := none }) (v := ?_) rfl (by kernel_rfl) (by kernel_rfl) (by kernel_rfl) (hQ _ _) (Or.inl ⟨by rfl, ?_⟩) hk14.out ?_
          rotate_left 1
          · intro w hw; go_simp; try with_reducible rfl
          simp only [Act.put, List.setIfInBounds_toArray, List.set_cons_succ, List.set_cons_zero]
          exact wpAnyH_done (by kernel_rfl) (hpost _ _ _ _ _ _ _ _ _ _ _ _ _ _ hk14.out) _
        · with_reducible refine step_steps_w ?_ 1 _ rfl [(⟨2, 1, 0, [1, 14]⟩, .slice (some ⟨w0.heap.size, 0, none⟩) 2 2)] [(0, .agg #[.int .i64 2, .int .i64 1, .int .i64 0, .slice (some ⟨w0.heap.size, 0, none⟩) 2 2])] ?_ ?_ ?_ ?_ ?_ ?_ ?_
          · rfl
          · simp only [List.map_toArray, List.map_cons, List.map_nil]; rfl
          · kernel_rfl
          · rfl
          · decide
          · decide
          · exact ps_all1 ((hB56_6.out.below hb11).dat rfl rfl)
          intro w15 hS58 hb15
          have hS58_15 := Lib.hid hS58
          clear hS58
          have hk15 := Lib.hid (hk11.out.next hb15)
          refine hK.out _ _ hk15.out (fun _ => ?_)
          clear hK K
          simp only [Act.put, List.setIfInBounds_toArray, List.set_cons_succ, List.set_cons_zero]
          refine wpAnyH_ready (rs := [8]) (by kernel_rfl) (by simp) ?_
          refine AllReadyH.cons (o := { dst := some 55, op := Op.buildSlice 22 4 #[(0, Operand.const (Value.int IntKind.u8 24)), (1, Operand.const (Value.int IntKind.u8 13)), (2, Operand.const (Value.int IntKind.u8 0)), (3, Operand.const (Value.int IntKind.u8 0))], type := 22, pos := "law.go:34", after := #[{ on := 7, ground := Ground.guard }], guard := some (7, false) }) rfl (fun K hK => ?_) (AllReadyH.nil)
          with_reducible refine step_bytes_w ?_ 4 _ rfl [24, 13, 0, 0] [(0, .int .u8 24), (1, .int .u8 13), (2, .int .u8 0), (3, .int .u8 0)] ?_ ?_ ?_ ?_ ?_ ?_
          · rfl
          · simp only [List.map_toArray, List.map_cons, List.map_nil]; rfl
          · kernel_rfl
          · rfl
          · decide
          · decide
          intro w16 hw16
          have hb16 := hw16.low
          have hB55_16 := Lib.hid hw16.ba
          have hk16 := Lib.hid (hk15.out.next hb16)
          refine hK.out _ _ hk16.out (fun _ => ?_)
          clear hK K
          simp only [Act.put, List.setIfInBounds_toArray, List.set_cons_succ, List.set_cons_zero]
          refine wpAnyH_ready (rs := [12]) (by kernel_rfl) (by simp) ?_
          refine AllReadyH.cons (o := { dst := some 59, op := Op.call { callee := Callee.value (Operand.func 37), args := #[Operand.tmp 55, Operand.tmp 58], argTypes := #[22, 24] }, type := 4, pos := "law.go:34", after := #[{ on := 8, ground := Ground.data }, { on := 11, ground := Ground.data }, { on := 10, ground := Ground.chain }, { on := 7, ground := Ground.guard }], guard := some (7, false) }) rfl (fun K hK => ?_) (AllReadyH.nil)
          with_reducible refine step_call_w ?_ 37 _ _ rfl #[.slice (some ⟨w15.heap.size, 0, none⟩) 4 4, .slice (some ⟨w11.heap.size, 0, none⟩) 1 1] ?_ Try.f37 Try.func37 f37_name f37_body (.bool true) ?_ ?_
          · rfl
          · simp only [List.map_toArray, List.map_cons, List.map_nil]; rfl
          · exact parses_yes2 w15.heap.size w11.heap.size 4 1 [24, 13, 0, 0] [⟨2, 1, 0, [1, 14]⟩] w16 hB55_16.out ((hS58_15.out.below hb16 (Nat.le_refl _)).mono hb16.size) parse6 rfl rfl rfl rfl (by decide)
          intro w17 hb17
          have hk17 := Lib.hid (hk16.out.next hb17)
          refine hK.out _ _ hk17.out (fun _ => ?_)
          clear hK K
          simp only [Act.put, List.setIfInBounds_toArray, List.set_cons_succ, List.set_cons_zero]
          refine wpAnyH_take (i := 13) (oi := { dst := some 60, op := Op.unOp UnOp.not 4 (Operand.tmp 59), type := 4, pos := "law.go:34", after := #[{ on := 12, ground := Ground.data }, { on := 7, ground := Ground.guard }], guard := some (7, false) }) (v := ?_) rfl (by kernel_rfl) (by kernel_rfl) (by kernel_rfl) (hQ _ _) (Or.inl ⟨by rfl, ?_⟩) hk17.out ?_
          rotate_left 1
          · intro w hw; go_simp; try with_reducible rfl
          simp only [Act.put, List.setIfInBounds_toArray, List.set_cons_succ, List.set_cons_zero]
          refine wpAnyH_take (i := 14) (oi := { dst := some 61, op := Op.pick (Operand.tmp 54) (Operand.const (Value.bool true)) (Operand.tmp 60), type := 4, pos := "law.go:34", after := #[{ on := 7, ground := Ground.data }, { on := 13, ground := Ground.data }], guard := none }) (v := ?_) rfl (by kernel_rfl) (by kernel_rfl) (by kernel_rfl) (hQ _ _) (Or.inl ⟨by rfl, ?_⟩) hk17.out ?_
          rotate_left 1
          · intro w hw; go_simp; try with_reducible rfl
          simp only [Act.put, List.setIfInBounds_toArray, List.set_cons_succ, List.set_cons_zero]
          exact wpAnyH_done (by kernel_rfl) (hpost _ _ _ _ _ _ _ _ _ _ _ _ _ _ hk17.out) _
  have hk100 := Lib.hid (hk.next (show Below W.heap.size W W.drew from ⟨rfl, rfl, rfl, Nat.le_refl _, fun _ _ => rfl⟩))
  refine wp_region_held (S := fun W => KB w W B g1 g2 g3 g4 gd) (by kernel_rfl) ?_
  change wpAnyH _ _ _ _ _ _ _ _ (World.drew _)
  obtain ⟨w100, hw100⟩ : ∃ w100, W.drew = w100 := ⟨_, rfl⟩
  rw [hw100] at hk100 ⊢
  clear hw100 hk
  refine wpAnyH_take (i := 1) (oi := { dst := some 48, op := Op.load 35 (Operand.tmp 4), type := 35, pos := "law.go:34", after := #[], guard := none }) (v := .agg #[.int .i64 2, .int .i64 0, .int .i64 0, .slice (some ⟨gd, 0, none⟩) 4 4]) rfl (by kernel_rfl) (by kernel_rfl) (by kernel_rfl) (hQ _ _) (yields_agg rfl 35 _ rfl ⟨g4, 0, none⟩ rfl [.int .i64 2, .int .i64 0, .int .i64 0, .slice (some ⟨gd, 0, none⟩) 4 4] _ (fun W hW => hW.k.c4) Try.underlying35 (lit_size _ _ _ _)) hk100.out ?_
  simp only [Act.put, List.setIfInBounds_toArray, List.set_cons_succ, List.set_cons_zero]
  refine wpAnyH_ready (rs := [0, 2]) (by kernel_rfl) (by simp) ?_
  refine AllReadyH.cons (o := { dst := some 47, op := Op.buildSlice 22 8 #[(0, Operand.const (Value.int IntKind.u8 8)), (1, Operand.const (Value.int IntKind.u8 3)), (2, Operand.const (Value.int IntKind.u8 0)), (3, Operand.const (Value.int IntKind.u8 0)), (4, Operand.const (Value.int IntKind.u8 8)), (5, Operand.const (Value.int IntKind.u8 18)), (6, Operand.const (Value.int IntKind.u8 0)), (7, Operand.const (Value.int IntKind.u8 0))], type := 22, pos := "law.go:34", after := #[], guard := none }) rfl (fun K hK => ?_) (AllReadyH.cons (o := { dst := some 49, op := Op.buildSlice 22 4 #[(0, Operand.const (Value.int IntKind.u8 3)), (1, Operand.const (Value.int IntKind.u8 4)), (2, Operand.const (Value.int IntKind.u8 1)), (3, Operand.const (Value.int IntKind.u8 98))], type := 22, pos := "law.go:34", after := #[], guard := none }) rfl (fun K hK => ?_) (AllReadyH.nil))
  · with_reducible refine step_bytes_w ?_ 8 _ rfl [8, 3, 0, 0, 8, 18, 0, 0] [(0, .int .u8 8), (1, .int .u8 3), (2, .int .u8 0), (3, .int .u8 0), (4, .int .u8 8), (5, .int .u8 18), (6, .int .u8 0), (7, .int .u8 0)] ?_ ?_ ?_ ?_ ?_ ?_
    · rfl
    · simp only [List.map_toArray, List.map_cons, List.map_nil]; rfl
    · kernel_rfl
    · rfl
    · decide
    · decide
    intro w101 hw101
    have hb101 := hw101.low
    have hB47_101 := Lib.hid hw101.ba
    have hk101 := Lib.hid (hk100.out.next hb101)
    refine hK.out _ _ hk101.out (fun _ => ?_)
    clear hK K
    simp only [Act.put, List.setIfInBounds_toArray, List.set_cons_succ, List.set_cons_zero]
    refine wpAnyH_ready (rs := [2]) (by kernel_rfl) (by simp) ?_
    refine AllReadyH.cons (o := { dst := some 49, op := Op.buildSlice 22 4 #[(0, Operand.const (Value.int IntKind.u8 3)), (1, Operand.const (Value.int IntKind.u8 4)), (2, Operand.const (Value.int IntKind.u8 1)), (3, Operand.const (Value.int IntKind.u8 98))], type := 22, pos := "law.go:34", after := #[], guard := none }) rfl (fun K hK => ?_) (AllReadyH.nil)
    with_reducible refine step_bytes_w ?_ 4 _ rfl [3, 4, 1, 98] [(0, .int .u8 3), (1, .int .u8 4), (2, .int .u8 1), (3, .int .u8 98)] ?_ ?_ ?_ ?_ ?_ ?_
    · rfl
    · simp only [List.map_toArray, List.map_cons, List.map_nil]; rfl
    · kernel_rfl
    · rfl
    · decide
    · decide
    intro w102 hw102
    have hb102 := hw102.low
    have hB49_102 := Lib.hid hw102.ba
    have hk102 := Lib.hid (hk101.out.next hb102)
    refine hK.out _ _ hk102.out (fun _ => ?_)
    clear hK K
    simp only [Act.put, List.setIfInBounds_toArray, List.set_cons_succ, List.set_cons_zero]
    refine wpAnyH_ready (rs := [3]) (by kernel_rfl) (by simp) ?_
    refine AllReadyH.cons (o := { dst := some 50, op := Op.call { callee := Callee.value (Operand.func 36), args := #[Operand.const (Value.int IntKind.i64 0), Operand.tmp 49], argTypes := #[3, 22] }, type := 35, pos := "law.go:34", after := #[{ on := 2, ground := Ground.data }], guard := none }) rfl (fun K hK => ?_) (AllReadyH.nil)
    with_reducible refine step_call_w ?_ 36 _ _ rfl #[.int .i64 0, .slice (some ⟨w101.heap.size, 0, none⟩) 4 4] ?_ Try.f36 Try.func36 f36_name f36_body (.agg #[.int .i64 2, .int .i64 0, .int .i64 0, .slice (some ⟨w101.heap.size, 0, none⟩) 4 4]) ?_ ?_
    · rfl
    · simp only [List.map_toArray, List.map_cons, List.map_nil]; rfl
    · exact deliver_any 0 (some ⟨w101.heap.size, 0, none⟩) 4 4 w102
    intro w103 hb103
    have hk103 := Lib.hid (hk102.out.next hb103)
    refine hK.out _ _ hk103.out (fun _ => ?_)
    clear hK K
    simp only [Act.put, List.setIfInBounds_toArray, List.set_cons_succ, List.set_cons_zero]
    refine wpAnyH_ready (rs := [4]) (by kernel_rfl) (by simp) ?_
    refine AllReadyH.cons (o := { dst := some 51, op := Op.buildSlice 24 2 #[(0, Operand.tmp 48), (1, Operand.tmp 50)], type := 24, pos := "law.go:34", after := #[{ on := 1, ground := Ground.data }, { on := 3, ground := Ground.data }], guard := none }) rfl (fun K hK => ?_) (AllReadyH.nil)
    with_reducible refine step_steps_w ?_ 2 _ rfl [(⟨2, 0, 0, [3, 4, 1, 97]⟩, .slice (some ⟨gd, 0, none⟩) 4 4), (⟨2, 0, 0, [3, 4, 1, 98]⟩, .slice (some ⟨w101.heap.size, 0, none⟩) 4 4)] [(0, .agg #[.int .i64 2, .int .i64 0, .int .i64 0, .slice (some ⟨gd, 0, none⟩) 4 4]), (1, .agg #[.int .i64 2, .int .i64 0, .int .i64 0, .slice (some ⟨w101.heap.size, 0, none⟩) 4 4])] ?_ ?_ ?_ ?_ ?_ ?_ ?_
    · rfl
    · simp only [List.map_toArray, List.map_cons, List.map_nil]; rfl
    · kernel_rfl
    · rfl
    · decide
    · decide
    · exact ps_all2 (hk103.out.get) ((hB49_102.out.below hb103).dat rfl rfl)
    intro w104 hS51 hb104
    have hS51_104 := Lib.hid hS51
    clear hS51
    have hk104 := Lib.hid (hk103.out.next hb104)
    refine hK.out _ _ hk104.out (fun _ => ?_)
    clear hK K
    simp only [Act.put, List.setIfInBounds_toArray, List.set_cons_succ, List.set_cons_zero]
    refine wpAnyH_ready (rs := [5]) (by kernel_rfl) (by simp) ?_
    refine AllReadyH.cons (o := { dst := some 52, op := Op.call { callee := Callee.value (Operand.func 37), args := #[Operand.tmp 47, Operand.tmp 51], argTypes := #[22, 24] }, type := 4, pos := "law.go:34", after := #[{ on := 0, ground := Ground.data }, { on := 4, ground := Ground.data }, { on := 3, ground := Ground.chain }], guard := none }) rfl (fun K hK => ?_) (AllReadyH.nil)
    with_reducible refine step_call_w ?_ 37 _ _ rfl #[.slice (some ⟨w100.heap.size, 0, none⟩) 8 8, .slice (some ⟨w103.heap.size, 0, none⟩) 2 2] ?_ Try.f37 Try.func37 f37_name f37_body (.bool true) ?_ ?_
    · rfl
    · simp only [List.map_toArray, List.map_cons, List.map_nil]; rfl
    · exact parses_yes2 w100.heap.size w103.heap.size 8 2 [8, 3, 0, 0, 8, 18, 0, 0] [⟨2, 0, 0, [3, 4, 1, 97]⟩, ⟨2, 0, 0, [3, 4, 1, 98]⟩] w104 (((hB47_101.out.below hb102).below hb103).below hb104) hS51_104.out parse5 rfl rfl rfl rfl (by decide)
    intro w105 hb105
    have hk105 := Lib.hid (hk104.out.next hb105)
    refine hK.out _ _ hk105.out (fun _ => ?_)
    clear hK K
    simp only [Act.put, List.setIfInBounds_toArray, List.set_cons_succ, List.set_cons_zero]
    refine wpAnyH_take (i := 6) (oi := { dst := some 53, op := Op.unOp UnOp.not 4 (Operand.tmp 52), type := 4, pos := "law.go:34", after := #[{ on := 5, ground := Ground.data }], guard := none }) (v := ?_) rfl (by kernel_rfl) (by kernel_rfl) (by kernel_rfl) (hQ _ _) (Or.inl ⟨by rfl, ?_⟩) hk105.out ?_
    rotate_left 1
    · intro w hw; go_simp; try with_reducible rfl
    simp only [Act.put, List.setIfInBounds_toArray, List.set_cons_succ, List.set_cons_zero]
    refine wpAnyH_take (i := 7) (oi := { dst := some 54, op := Op.move (Operand.tmp 53), type := 4, pos := "law.go:34", after := #[{ on := 6, ground := Ground.data }, { on := 5, ground := Ground.chain }], guard := none }) (v := ?_) rfl (by kernel_rfl) (by kernel_rfl) (by kernel_rfl) (hQ _ _) (Or.inl ⟨by rfl, ?_⟩) hk105.out ?_
    rotate_left 1
    · intro w hw; go_simp; try with_reducible rfl
    simp only [Act.put, List.setIfInBounds_toArray, List.set_cons_succ, List.set_cons_zero]
    exact listed_cast (by kernel_rfl) (half _ _ _ _ _ _ _ _ hk105.out)
  · with_reducible refine step_bytes_w ?_ 4 _ rfl [3, 4, 1, 98] [(0, .int .u8 3), (1, .int .u8 4), (2, .int .u8 1), (3, .int .u8 98)] ?_ ?_ ?_ ?_ ?_ ?_
    · rfl
    · simp only [List.map_toArray, List.map_cons, List.map_nil]; rfl
    · kernel_rfl
    · rfl
    · decide
    · decide
    intro w106 hw106
    have hb106 := hw106.low
    have hB49_106 := Lib.hid hw106.ba
    have hk106 := Lib.hid (hk100.out.next hb106)
    refine hK.out _ _ hk106.out (fun _ => ?_)
    clear hK K
    simp only [Act.put, List.setIfInBounds_toArray, List.set_cons_succ, List.set_cons_zero]
    refine wpAnyH_ready (rs := [0, 3]) (by kernel_rfl) (by simp) ?_
    refine AllReadyH.cons (o := { dst := some 47, op := Op.buildSlice 22 8 #[(0, Operand.const (Value.int IntKind.u8 8)), (1, Operand.const (Value.int IntKind.u8 3)), (2, Operand.const (Value.int IntKind.u8 0)), (3, Operand.const (Value.int IntKind.u8 0)), (4, Operand.const (Value.int IntKind.u8 8)), (5, Operand.const (Value.int IntKind.u8 18)), (6, Operand.const (Value.int IntKind.u8 0)), (7, Operand.const (Value.int IntKind.u8 0))], type := 22, pos := "law.go:34", after := #[], guard := none }) rfl (fun K hK => ?_) (AllReadyH.cons (o := { dst := some 50, op := Op.call { callee := Callee.value (Operand.func 36), args := #[Operand.const (Value.int IntKind.i64 0), Operand.tmp 49], argTypes := #[3, 22] }, type := 35, pos := "law.go:34", after := #[{ on := 2, ground := Ground.data }], guard := none }) rfl (fun K hK => ?_) (AllReadyH.nil))
    · with_reducible refine step_bytes_w ?_ 8 _ rfl [8, 3, 0, 0, 8, 18, 0, 0] [(0, .int .u8 8), (1, .int .u8 3), (2, .int .u8 0), (3, .int .u8 0), (4, .int .u8 8), (5, .int .u8 18), (6, .int .u8 0), (7, .int .u8 0)] ?_ ?_ ?_ ?_ ?_ ?_
      · rfl
      · simp only [List.map_toArray, List.map_cons, List.map_nil]; rfl
      · kernel_rfl
      · rfl
      · decide
      · decide
      intro w107 hw107
      have hb107 := hw107.low
      have hB47_107 := Lib.hid hw107.ba
      have hk107 := Lib.hid (hk106.out.next hb107)
      refine hK.out _ _ hk107.out (fun _ => ?_)
      clear hK K
      simp only [Act.put, List.setIfInBounds_toArray, List.set_cons_succ, List.set_cons_zero]
      refine wpAnyH_ready (rs := [3]) (by kernel_rfl) (by simp) ?_
      refine AllReadyH.cons (o := { dst := some 50, op := Op.call { callee := Callee.value (Operand.func 36), args := #[Operand.const (Value.int IntKind.i64 0), Operand.tmp 49], argTypes := #[3, 22] }, type := 35, pos := "law.go:34", after := #[{ on := 2, ground := Ground.data }], guard := none }) rfl (fun K hK => ?_) (AllReadyH.nil)
      with_reducible refine step_call_w ?_ 36 _ _ rfl #[.int .i64 0, .slice (some ⟨w100.heap.size, 0, none⟩) 4 4] ?_ Try.f36 Try.func36 f36_name f36_body (.agg #[.int .i64 2, .int .i64 0, .int .i64 0, .slice (some ⟨w100.heap.size, 0, none⟩) 4 4]) ?_ ?_
      · rfl
      · simp only [List.map_toArray, List.map_cons, List.map_nil]; rfl
      · exact deliver_any 0 (some ⟨w100.heap.size, 0, none⟩) 4 4 w107
      intro w108 hb108
      have hk108 := Lib.hid (hk107.out.next hb108)
      refine hK.out _ _ hk108.out (fun _ => ?_)
      clear hK K
      simp only [Act.put, List.setIfInBounds_toArray, List.set_cons_succ, List.set_cons_zero]
      refine wpAnyH_ready (rs := [4]) (by kernel_rfl) (by simp) ?_
      refine AllReadyH.cons (o := { dst := some 51, op := Op.buildSlice 24 2 #[(0, Operand.tmp 48), (1, Operand.tmp 50)], type := 24, pos := "law.go:34", after := #[{ on := 1, ground := Ground.data }, { on := 3, ground := Ground.data }], guard := none }) rfl (fun K hK => ?_) (AllReadyH.nil)
      with_reducible refine step_steps_w ?_ 2 _ rfl [(⟨2, 0, 0, [3, 4, 1, 97]⟩, .slice (some ⟨gd, 0, none⟩) 4 4), (⟨2, 0, 0, [3, 4, 1, 98]⟩, .slice (some ⟨w100.heap.size, 0, none⟩) 4 4)] [(0, .agg #[.int .i64 2, .int .i64 0, .int .i64 0, .slice (some ⟨gd, 0, none⟩) 4 4]), (1, .agg #[.int .i64 2, .int .i64 0, .int .i64 0, .slice (some ⟨w100.heap.size, 0, none⟩) 4 4])] ?_ ?_ ?_ ?_ ?_ ?_ ?_
      · rfl
      · simp only [List.map_toArray, List.map_cons, List.map_nil]; rfl
      · kernel_rfl
      · rfl
      · decide
      · decide
      · exact ps_all2 (hk108.out.get) (((hB49_106.out.below hb107).below hb108).dat rfl rfl)
      intro w109 hS51 hb109
      have hS51_109 := Lib.hid hS51
      clear hS51
      have hk109 := Lib.hid (hk108.out.next hb109)
      refine hK.out _ _ hk109.out (fun _ => ?_)
      clear hK K
      simp only [Act.put, List.setIfInBounds_toArray, List.set_cons_succ, List.set_cons_zero]
      refine wpAnyH_ready (rs := [5]) (by kernel_rfl) (by simp) ?_
      refine AllReadyH.cons (o := { dst := some 52, op := Op.call { callee := Callee.value (Operand.func 37), args := #[Operand.tmp 47, Operand.tmp 51], argTypes := #[22, 24] }, type := 4, pos := "law.go:34", after := #[{ on := 0, ground := Ground.data }, { on := 4, ground := Ground.data }, { on := 3, ground := Ground.chain }], guard := none }) rfl (fun K hK => ?_) (AllReadyH.nil)
      with_reducible refine step_call_w ?_ 37 _ _ rfl #[.slice (some ⟨w106.heap.size, 0, none⟩) 8 8, .slice (some ⟨w108.heap.size, 0, none⟩) 2 2] ?_ Try.f37 Try.func37 f37_name f37_body (.bool true) ?_ ?_
      · rfl
      · simp only [List.map_toArray, List.map_cons, List.map_nil]; rfl
      · exact parses_yes2 w106.heap.size w108.heap.size 8 2 [8, 3, 0, 0, 8, 18, 0, 0] [⟨2, 0, 0, [3, 4, 1, 97]⟩, ⟨2, 0, 0, [3, 4, 1, 98]⟩] w109 ((hB47_107.out.below hb108).below hb109) hS51_109.out parse5 rfl rfl rfl rfl (by decide)
      intro w110 hb110
      have hk110 := Lib.hid (hk109.out.next hb110)
      refine hK.out _ _ hk110.out (fun _ => ?_)
      clear hK K
      simp only [Act.put, List.setIfInBounds_toArray, List.set_cons_succ, List.set_cons_zero]
      refine wpAnyH_take (i := 6) (oi := { dst := some 53, op := Op.unOp UnOp.not 4 (Operand.tmp 52), type := 4, pos := "law.go:34", after := #[{ on := 5, ground := Ground.data }], guard := none }) (v := ?_) rfl (by kernel_rfl) (by kernel_rfl) (by kernel_rfl) (hQ _ _) (Or.inl ⟨by rfl, ?_⟩) hk110.out ?_
      rotate_left 1
      · intro w hw; go_simp; try with_reducible rfl
      simp only [Act.put, List.setIfInBounds_toArray, List.set_cons_succ, List.set_cons_zero]
      refine wpAnyH_take (i := 7) (oi := { dst := some 54, op := Op.move (Operand.tmp 53), type := 4, pos := "law.go:34", after := #[{ on := 6, ground := Ground.data }, { on := 5, ground := Ground.chain }], guard := none }) (v := ?_) rfl (by kernel_rfl) (by kernel_rfl) (by kernel_rfl) (hQ _ _) (Or.inl ⟨by rfl, ?_⟩) hk110.out ?_
      rotate_left 1
      · intro w hw; go_simp; try with_reducible rfl
      simp only [Act.put, List.setIfInBounds_toArray, List.set_cons_succ, List.set_cons_zero]
      exact listed_cast (by kernel_rfl) (half _ _ _ _ _ _ _ _ hk110.out)
    · with_reducible refine step_call_w ?_ 36 _ _ rfl #[.int .i64 0, .slice (some ⟨w100.heap.size, 0, none⟩) 4 4] ?_ Try.f36 Try.func36 f36_name f36_body (.agg #[.int .i64 2, .int .i64 0, .int .i64 0, .slice (some ⟨w100.heap.size, 0, none⟩) 4 4]) ?_ ?_
      · rfl
      · simp only [List.map_toArray, List.map_cons, List.map_nil]; rfl
      · exact deliver_any 0 (some ⟨w100.heap.size, 0, none⟩) 4 4 w106
      intro w111 hb111
      have hk111 := Lib.hid (hk106.out.next hb111)
      refine hK.out _ _ hk111.out (fun _ => ?_)
      clear hK K
      simp only [Act.put, List.setIfInBounds_toArray, List.set_cons_succ, List.set_cons_zero]
      refine wpAnyH_ready (rs := [0, 4]) (by kernel_rfl) (by simp) ?_
      refine AllReadyH.cons (o := { dst := some 47, op := Op.buildSlice 22 8 #[(0, Operand.const (Value.int IntKind.u8 8)), (1, Operand.const (Value.int IntKind.u8 3)), (2, Operand.const (Value.int IntKind.u8 0)), (3, Operand.const (Value.int IntKind.u8 0)), (4, Operand.const (Value.int IntKind.u8 8)), (5, Operand.const (Value.int IntKind.u8 18)), (6, Operand.const (Value.int IntKind.u8 0)), (7, Operand.const (Value.int IntKind.u8 0))], type := 22, pos := "law.go:34", after := #[], guard := none }) rfl (fun K hK => ?_) (AllReadyH.cons (o := { dst := some 51, op := Op.buildSlice 24 2 #[(0, Operand.tmp 48), (1, Operand.tmp 50)], type := 24, pos := "law.go:34", after := #[{ on := 1, ground := Ground.data }, { on := 3, ground := Ground.data }], guard := none }) rfl (fun K hK => ?_) (AllReadyH.nil))
      · with_reducible refine step_bytes_w ?_ 8 _ rfl [8, 3, 0, 0, 8, 18, 0, 0] [(0, .int .u8 8), (1, .int .u8 3), (2, .int .u8 0), (3, .int .u8 0), (4, .int .u8 8), (5, .int .u8 18), (6, .int .u8 0), (7, .int .u8 0)] ?_ ?_ ?_ ?_ ?_ ?_
        · rfl
        · simp only [List.map_toArray, List.map_cons, List.map_nil]; rfl
        · kernel_rfl
        · rfl
        · decide
        · decide
        intro w112 hw112
        have hb112 := hw112.low
        have hB47_112 := Lib.hid hw112.ba
        have hk112 := Lib.hid (hk111.out.next hb112)
        refine hK.out _ _ hk112.out (fun _ => ?_)
        clear hK K
        simp only [Act.put, List.setIfInBounds_toArray, List.set_cons_succ, List.set_cons_zero]
        refine wpAnyH_ready (rs := [4]) (by kernel_rfl) (by simp) ?_
        refine AllReadyH.cons (o := { dst := some 51, op := Op.buildSlice 24 2 #[(0, Operand.tmp 48), (1, Operand.tmp 50)], type := 24, pos := "law.go:34", after := #[{ on := 1, ground := Ground.data }, { on := 3, ground := Ground.data }], guard := none }) rfl (fun K hK => ?_) (AllReadyH.nil)
        with_reducible refine step_steps_w ?_ 2 _ rfl [(⟨2, 0, 0, [3, 4, 1, 97]⟩, .slice (some ⟨gd, 0, none⟩) 4 4), (⟨2, 0, 0, [3, 4, 1, 98]⟩, .slice (some ⟨w100.heap.size, 0, none⟩) 4 4)] [(0, .agg #[.int .i64 2, .int .i64 0, .int .i64 0, .slice (some ⟨gd, 0, none⟩) 4 4]), (1, .agg #[.int .i64 2, .int .i64 0, .int .i64 0, .slice (some ⟨w100.heap.size, 0, none⟩) 4 4])] ?_ ?_ ?_ ?_ ?_ ?_ ?_
        · rfl
        · simp only [List.map_toArray, List.map_cons, List.map_nil]; rfl
        · kernel_rfl
        · rfl
        · decide
        · decide
        · exact ps_all2 (hk112.out.get) (((hB49_106.out.below hb111).below hb112).dat rfl rfl)
        intro w113 hS51 hb113
        have hS51_113 := Lib.hid hS51
        clear hS51
        have hk113 := Lib.hid (hk112.out.next hb113)
        refine hK.out _ _ hk113.out (fun _ => ?_)
        clear hK K
        simp only [Act.put, List.setIfInBounds_toArray, List.set_cons_succ, List.set_cons_zero]
        refine wpAnyH_ready (rs := [5]) (by kernel_rfl) (by simp) ?_
        refine AllReadyH.cons (o := { dst := some 52, op := Op.call { callee := Callee.value (Operand.func 37), args := #[Operand.tmp 47, Operand.tmp 51], argTypes := #[22, 24] }, type := 4, pos := "law.go:34", after := #[{ on := 0, ground := Ground.data }, { on := 4, ground := Ground.data }, { on := 3, ground := Ground.chain }], guard := none }) rfl (fun K hK => ?_) (AllReadyH.nil)
        with_reducible refine step_call_w ?_ 37 _ _ rfl #[.slice (some ⟨w111.heap.size, 0, none⟩) 8 8, .slice (some ⟨w112.heap.size, 0, none⟩) 2 2] ?_ Try.f37 Try.func37 f37_name f37_body (.bool true) ?_ ?_
        · rfl
        · simp only [List.map_toArray, List.map_cons, List.map_nil]; rfl
        · exact parses_yes2 w111.heap.size w112.heap.size 8 2 [8, 3, 0, 0, 8, 18, 0, 0] [⟨2, 0, 0, [3, 4, 1, 97]⟩, ⟨2, 0, 0, [3, 4, 1, 98]⟩] w113 (hB47_112.out.below hb113) hS51_113.out parse5 rfl rfl rfl rfl (by decide)
        intro w114 hb114
        have hk114 := Lib.hid (hk113.out.next hb114)
        refine hK.out _ _ hk114.out (fun _ => ?_)
        clear hK K
        simp only [Act.put, List.setIfInBounds_toArray, List.set_cons_succ, List.set_cons_zero]
        refine wpAnyH_take (i := 6) (oi := { dst := some 53, op := Op.unOp UnOp.not 4 (Operand.tmp 52), type := 4, pos := "law.go:34", after := #[{ on := 5, ground := Ground.data }], guard := none }) (v := ?_) rfl (by kernel_rfl) (by kernel_rfl) (by kernel_rfl) (hQ _ _) (Or.inl ⟨by rfl, ?_⟩) hk114.out ?_
        rotate_left 1
        · intro w hw; go_simp; try with_reducible rfl
        simp only [Act.put, List.setIfInBounds_toArray, List.set_cons_succ, List.set_cons_zero]
        refine wpAnyH_take (i := 7) (oi := { dst := some 54, op := Op.move (Operand.tmp 53), type := 4, pos := "law.go:34", after := #[{ on := 6, ground := Ground.data }, { on := 5, ground := Ground.chain }], guard := none }) (v := ?_) rfl (by kernel_rfl) (by kernel_rfl) (by kernel_rfl) (hQ _ _) (Or.inl ⟨by rfl, ?_⟩) hk114.out ?_
        rotate_left 1
        · intro w hw; go_simp; try with_reducible rfl
        simp only [Act.put, List.setIfInBounds_toArray, List.set_cons_succ, List.set_cons_zero]
        exact listed_cast (by kernel_rfl) (half _ _ _ _ _ _ _ _ hk114.out)
      · with_reducible refine step_steps_w ?_ 2 _ rfl [(⟨2, 0, 0, [3, 4, 1, 97]⟩, .slice (some ⟨gd, 0, none⟩) 4 4), (⟨2, 0, 0, [3, 4, 1, 98]⟩, .slice (some ⟨w100.heap.size, 0, none⟩) 4 4)] [(0, .agg #[.int .i64 2, .int .i64 0, .int .i64 0, .slice (some ⟨gd, 0, none⟩) 4 4]), (1, .agg #[.int .i64 2, .int .i64 0, .int .i64 0, .slice (some ⟨w100.heap.size, 0, none⟩) 4 4])] ?_ ?_ ?_ ?_ ?_ ?_ ?_
        · rfl
        · simp only [List.map_toArray, List.map_cons, List.map_nil]; rfl
        · kernel_rfl
        · rfl
        · decide
        · decide
        · exact ps_all2 (hk111.out.get) ((hB49_106.out.below hb111).dat rfl rfl)
        intro w115 hS51 hb115
        have hS51_115 := Lib.hid hS51
        clear hS51
        have hk115 := Lib.hid (hk111.out.next hb115)
        refine hK.out _ _ hk115.out (fun _ => ?_)
        clear hK K
        simp only [Act.put, List.setIfInBounds_toArray, List.set_cons_succ, List.set_cons_zero]
        refine wpAnyH_ready (rs := [0]) (by kernel_rfl) (by simp) ?_
        refine AllReadyH.cons (o := { dst := some 47, op := Op.buildSlice 22 8 #[(0, Operand.const (Value.int IntKind.u8 8)), (1, Operand.const (Value.int IntKind.u8 3)), (2, Operand.const (Value.int IntKind.u8 0)), (3, Operand.const (Value.int IntKind.u8 0)), (4, Operand.const (Value.int IntKind.u8 8)), (5, Operand.const (Value.int IntKind.u8 18)), (6, Operand.const (Value.int IntKind.u8 0)), (7, Operand.const (Value.int IntKind.u8 0))], type := 22, pos := "law.go:34", after := #[], guard := none }) rfl (fun K hK => ?_) (AllReadyH.nil)
        with_reducible refine step_bytes_w ?_ 8 _ rfl [8, 3, 0, 0, 8, 18, 0, 0] [(0, .int .u8 8), (1, .int .u8 3), (2, .int .u8 0), (3, .int .u8 0), (4, .int .u8 8), (5, .int .u8 18), (6, .int .u8 0), (7, .int .u8 0)] ?_ ?_ ?_ ?_ ?_ ?_
        · rfl
        · simp only [List.map_toArray, List.map_cons, List.map_nil]; rfl
        · kernel_rfl
        · rfl
        · decide
        · decide
        intro w116 hw116
        have hb116 := hw116.low
        have hB47_116 := Lib.hid hw116.ba
        have hk116 := Lib.hid (hk115.out.next hb116)
        refine hK.out _ _ hk116.out (fun _ => ?_)
        clear hK K
        simp only [Act.put, List.setIfInBounds_toArray, List.set_cons_succ, List.set_cons_zero]
        refine wpAnyH_ready (rs := [5]) (by kernel_rfl) (by simp) ?_
        refine AllReadyH.cons (o := { dst := some 52, op := Op.call { callee := Callee.value (Operand.func 37), args := #[Operand.tmp 47, Operand.tmp 51], argTypes := #[22, 24] }, type := 4, pos := "law.go:34", after := #[{ on := 0, ground := Ground.data }, { on := 4, ground := Ground.data }, { on := 3, ground := Ground.chain }], guard := none }) rfl (fun K hK => ?_) (AllReadyH.nil)
        with_reducible refine step_call_w ?_ 37 _ _ rfl #[.slice (some ⟨w115.heap.size, 0, none⟩) 8 8, .slice (some ⟨w111.heap.size, 0, none⟩) 2 2] ?_ Try.f37 Try.func37 f37_name f37_body (.bool true) ?_ ?_
        · rfl
        · simp only [List.map_toArray, List.map_cons, List.map_nil]; rfl
        · exact parses_yes2 w115.heap.size w111.heap.size 8 2 [8, 3, 0, 0, 8, 18, 0, 0] [⟨2, 0, 0, [3, 4, 1, 97]⟩, ⟨2, 0, 0, [3, 4, 1, 98]⟩] w116 hB47_116.out ((hS51_115.out.below hb116 (Nat.le_refl _)).mono hb116.size) parse5 rfl rfl rfl rfl (by decide)
        intro w117 hb117
        have hk117 := Lib.hid (hk116.out.next hb117)
        refine hK.out _ _ hk117.out (fun _ => ?_)
        clear hK K
        simp only [Act.put, List.setIfInBounds_toArray, List.set_cons_succ, List.set_cons_zero]
        refine wpAnyH_take (i := 6) (oi := { dst := some 53, op := Op.unOp UnOp.not 4 (Operand.tmp 52), type := 4, pos := "law.go:34", after := #[{ on := 5, ground := Ground.data }], guard := none }) (v := ?_) rfl (by kernel_rfl) (by kernel_rfl) (by kernel_rfl) (hQ _ _) (Or.inl ⟨by rfl, ?_⟩) hk117.out ?_
        rotate_left 1
        · intro w hw; go_simp; try with_reducible rfl
        simp only [Act.put, List.setIfInBounds_toArray, List.set_cons_succ, List.set_cons_zero]
        refine wpAnyH_take (i := 7) (oi := { dst := some 54, op := Op.move (Operand.tmp 53), type := 4, pos := "law.go:34", after := #[{ on := 6, ground := Ground.data }, { on := 5, ground := Ground.chain }], guard := none }) (v := ?_) rfl (by kernel_rfl) (by kernel_rfl) (by kernel_rfl) (hQ _ _) (Or.inl ⟨by rfl, ?_⟩) hk117.out ?_
        rotate_left 1
        · intro w hw; go_simp; try with_reducible rfl
        simp only [Act.put, List.setIfInBounds_toArray, List.set_cons_succ, List.set_cons_zero]
        exact listed_cast (by kernel_rfl) (half _ _ _ _ _ _ _ _ hk117.out)
end Go.Proofs.Ytnmhmabifeapkaa.Ord
