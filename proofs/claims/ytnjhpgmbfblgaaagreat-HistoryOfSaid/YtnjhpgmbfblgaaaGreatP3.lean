/- The drawn region of given, state by state. -/
import Derived.Test.YtnjhpgmbfblgaaaGreatMP2
namespace Go.Proofs.YtnjhpgmbfblgaaaGreat.Ord
set_option maxRecDepth 100000
set_option maxHeartbeats 16000000
open Go.RowKit
set_option linter.unusedVariables false
set_option linter.unusedSimpArgs false
abbrev opsG : Array Oper := #[⟨some 14, .build 28 #[(0, .const (.int .i64 1))], 28, "law.go:22", #[], none⟩,
 ⟨some 15, .build 42 #[(0, .tmp 14)], 42, "law.go:22", #[⟨0, .data⟩], none⟩,
 ⟨some 16, .build 28 #[(0, .const (.int .i64 1))], 28, "law.go:22", #[], none⟩,
 ⟨some 17, .build 42 #[(0, .tmp 16), (2, .const (.int .i64 1))], 42, "law.go:22", #[⟨2, .data⟩], none⟩,
 ⟨some 18, .buildSlice 26 4 #[(0, .const (.int .u8 3)), (1, .const (.int .u8 4)), (2, .const (.int .u8 1)), (3, .const (.int .u8 97))], 26, "law.go:22", #[], none⟩,
 ⟨some 19, .build 28 #[(0, .const (.int .i64 2)), (3, .tmp 18)], 28, "law.go:22", #[⟨4, .data⟩], none⟩,
 ⟨some 20, .build 42 #[(0, .tmp 19), (2, .const (.int .i64 4))], 42, "law.go:22", #[⟨5, .data⟩], none⟩,
 ⟨some 21, .move (.tmp 6), 193, "law.go:22", #[], none⟩,
 ⟨some 22, .load 36 (.tmp 2), 36, "law.go:22", #[], none⟩,
 ⟨some 23, .build 40 #[], 40, "law.go:22", #[], none⟩,
 ⟨some 24, .call ⟨.value (.tmp 21), #[.const (.int .i64 0), .const (.int .i64 1), .tmp 22, .tmp 23], #[3, 30, 36, 40]⟩, 42, "law.go:26", #[⟨7, .data⟩, ⟨8, .data⟩, ⟨9, .data⟩], none⟩,
 ⟨some 25, .move (.tmp 6), 193, "law.go:22", #[], none⟩,
 ⟨some 26, .load 36 (.tmp 2), 36, "law.go:22", #[], none⟩,
 ⟨some 27, .load 40 (.tmp 4), 40, "law.go:22", #[], none⟩,
 ⟨some 28, .call ⟨.value (.tmp 25), #[.const (.int .i64 0), .const (.int .i64 3), .tmp 26, .tmp 27], #[3, 30, 36, 40]⟩, 42, "law.go:27", #[⟨11, .data⟩, ⟨12, .data⟩, ⟨13, .data⟩, ⟨10, .chain⟩], none⟩,
 ⟨some 29, .buildSlice 26 2 #[(0, .const (.int .u8 1)), (1, .const (.int .u8 14))], 26, "law.go:22", #[], none⟩,
 ⟨some 30, .build 28 #[(0, .const (.int .i64 2)), (1, .const (.int .i64 1)), (3, .tmp 29)], 28, "law.go:22", #[⟨15, .data⟩], none⟩,
 ⟨some 31, .build 42 #[(0, .tmp 30), (2, .const (.int .i64 2))], 42, "law.go:22", #[⟨16, .data⟩], none⟩,
 ⟨some 32, .move (.tmp 6), 193, "law.go:22", #[], none⟩,
 ⟨some 33, .load 36 (.tmp 3), 36, "law.go:22", #[], none⟩,
 ⟨some 34, .build 40 #[], 40, "law.go:22", #[], none⟩,
 ⟨some 35, .call ⟨.value (.tmp 32), #[.const (.int .i64 1), .const (.int .i64 1), .tmp 33, .tmp 34], #[3, 30, 36, 40]⟩, 42, "law.go:29", #[⟨18, .data⟩, ⟨19, .data⟩, ⟨20, .data⟩, ⟨14, .chain⟩], none⟩,
 ⟨some 36, .move (.tmp 6), 193, "law.go:22", #[], none⟩,
 ⟨some 37, .build 36 #[], 36, "law.go:22", #[], none⟩,
 ⟨some 38, .load 40 (.tmp 4), 40, "law.go:22", #[], none⟩,
 ⟨some 39, .call ⟨.value (.tmp 36), #[.const (.int .i64 0), .const (.int .i64 4), .tmp 37, .tmp 38], #[3, 30, 36, 40]⟩, 42, "law.go:30", #[⟨22, .data⟩, ⟨23, .data⟩, ⟨24, .data⟩, ⟨21, .chain⟩], none⟩,
 ⟨some 40, .move (.tmp 6), 193, "law.go:22", #[], none⟩,
 ⟨some 41, .load 36 (.tmp 3), 36, "law.go:22", #[], none⟩,
 ⟨some 42, .load 40 (.tmp 5), 40, "law.go:22", #[], none⟩,
 ⟨some 43, .call ⟨.value (.tmp 40), #[.const (.int .i64 1), .const (.int .i64 3), .tmp 41, .tmp 42], #[3, 30, 36, 40]⟩, 42, "law.go:31", #[⟨26, .data⟩, ⟨27, .data⟩, ⟨28, .data⟩, ⟨25, .chain⟩], none⟩,
 ⟨some 44, .buildSlice 22 9 #[(0, .tmp 15), (1, .tmp 17), (2, .tmp 20), (3, .tmp 24), (4, .tmp 28), (5, .tmp 31), (6, .tmp 35), (7, .tmp 39), (8, .tmp 43)], 22, "law.go:22", #[⟨1, .data⟩, ⟨3, .data⟩, ⟨6, .data⟩, ⟨10, .data⟩, ⟨14, .data⟩, ⟨17, .data⟩, ⟨21, .data⟩, ⟨25, .data⟩, ⟨29, .data⟩], none⟩,
 ⟨some 7, .assign (.tmp 44), 22, "law.go:22", #[⟨30, .data⟩, ⟨29, .chain⟩, ⟨0, .phase⟩, ⟨1, .phase⟩, ⟨2, .phase⟩, ⟨3, .phase⟩, ⟨4, .phase⟩, ⟨5, .phase⟩, ⟨6, .phase⟩, ⟨7, .phase⟩, ⟨8, .phase⟩, ⟨9, .phase⟩, ⟨10, .phase⟩, ⟨11, .phase⟩, ⟨12, .phase⟩, ⟨13, .phase⟩, ⟨14, .phase⟩, ⟨15, .phase⟩, ⟨16, .phase⟩, ⟨17, .phase⟩, ⟨18, .phase⟩, ⟨19, .phase⟩, ⟨20, .phase⟩, ⟨21, .phase⟩, ⟨22, .phase⟩, ⟨23, .phase⟩, ⟨24, .phase⟩, ⟨25, .phase⟩, ⟨26, .phase⟩, ⟨27, .phase⟩, ⟨28, .phase⟩, ⟨29, .phase⟩, ⟨30, .phase⟩], none⟩]
theorem g0 : opsG[0]? = some ⟨some 14, .build 28 #[(0, .const (.int .i64 1))], 28, "law.go:22", #[], none⟩ := rfl
theorem g1 : opsG[1]? = some ⟨some 15, .build 42 #[(0, .tmp 14)], 42, "law.go:22", #[⟨0, .data⟩], none⟩ := rfl
theorem g2 : opsG[2]? = some ⟨some 16, .build 28 #[(0, .const (.int .i64 1))], 28, "law.go:22", #[], none⟩ := rfl
theorem g3 : opsG[3]? = some ⟨some 17, .build 42 #[(0, .tmp 16), (2, .const (.int .i64 1))], 42, "law.go:22", #[⟨2, .data⟩], none⟩ := rfl
theorem g4 : opsG[4]? = some ⟨some 18, .buildSlice 26 4 #[(0, .const (.int .u8 3)), (1, .const (.int .u8 4)), (2, .const (.int .u8 1)), (3, .const (.int .u8 97))], 26, "law.go:22", #[], none⟩ := rfl
theorem g5 : opsG[5]? = some ⟨some 19, .build 28 #[(0, .const (.int .i64 2)), (3, .tmp 18)], 28, "law.go:22", #[⟨4, .data⟩], none⟩ := rfl
theorem g6 : opsG[6]? = some ⟨some 20, .build 42 #[(0, .tmp 19), (2, .const (.int .i64 4))], 42, "law.go:22", #[⟨5, .data⟩], none⟩ := rfl
theorem g7 : opsG[7]? = some ⟨some 21, .move (.tmp 6), 193, "law.go:22", #[], none⟩ := rfl
theorem g8 : opsG[8]? = some ⟨some 22, .load 36 (.tmp 2), 36, "law.go:22", #[], none⟩ := rfl
theorem g9 : opsG[9]? = some ⟨some 23, .build 40 #[], 40, "law.go:22", #[], none⟩ := rfl
theorem g10 : opsG[10]? = some ⟨some 24, .call ⟨.value (.tmp 21), #[.const (.int .i64 0), .const (.int .i64 1), .tmp 22, .tmp 23], #[3, 30, 36, 40]⟩, 42, "law.go:26", #[⟨7, .data⟩, ⟨8, .data⟩, ⟨9, .data⟩], none⟩ := rfl
theorem g11 : opsG[11]? = some ⟨some 25, .move (.tmp 6), 193, "law.go:22", #[], none⟩ := rfl
theorem g12 : opsG[12]? = some ⟨some 26, .load 36 (.tmp 2), 36, "law.go:22", #[], none⟩ := rfl
theorem g13 : opsG[13]? = some ⟨some 27, .load 40 (.tmp 4), 40, "law.go:22", #[], none⟩ := rfl
theorem g14 : opsG[14]? = some ⟨some 28, .call ⟨.value (.tmp 25), #[.const (.int .i64 0), .const (.int .i64 3), .tmp 26, .tmp 27], #[3, 30, 36, 40]⟩, 42, "law.go:27", #[⟨11, .data⟩, ⟨12, .data⟩, ⟨13, .data⟩, ⟨10, .chain⟩], none⟩ := rfl
theorem g15 : opsG[15]? = some ⟨some 29, .buildSlice 26 2 #[(0, .const (.int .u8 1)), (1, .const (.int .u8 14))], 26, "law.go:22", #[], none⟩ := rfl
theorem g16 : opsG[16]? = some ⟨some 30, .build 28 #[(0, .const (.int .i64 2)), (1, .const (.int .i64 1)), (3, .tmp 29)], 28, "law.go:22", #[⟨15, .data⟩], none⟩ := rfl
theorem g17 : opsG[17]? = some ⟨some 31, .build 42 #[(0, .tmp 30), (2, .const (.int .i64 2))], 42, "law.go:22", #[⟨16, .data⟩], none⟩ := rfl
theorem g18 : opsG[18]? = some ⟨some 32, .move (.tmp 6), 193, "law.go:22", #[], none⟩ := rfl
theorem g19 : opsG[19]? = some ⟨some 33, .load 36 (.tmp 3), 36, "law.go:22", #[], none⟩ := rfl
theorem g20 : opsG[20]? = some ⟨some 34, .build 40 #[], 40, "law.go:22", #[], none⟩ := rfl
theorem g21 : opsG[21]? = some ⟨some 35, .call ⟨.value (.tmp 32), #[.const (.int .i64 1), .const (.int .i64 1), .tmp 33, .tmp 34], #[3, 30, 36, 40]⟩, 42, "law.go:29", #[⟨18, .data⟩, ⟨19, .data⟩, ⟨20, .data⟩, ⟨14, .chain⟩], none⟩ := rfl
theorem g22 : opsG[22]? = some ⟨some 36, .move (.tmp 6), 193, "law.go:22", #[], none⟩ := rfl
theorem g23 : opsG[23]? = some ⟨some 37, .build 36 #[], 36, "law.go:22", #[], none⟩ := rfl
theorem g24 : opsG[24]? = some ⟨some 38, .load 40 (.tmp 4), 40, "law.go:22", #[], none⟩ := rfl
theorem g25 : opsG[25]? = some ⟨some 39, .call ⟨.value (.tmp 36), #[.const (.int .i64 0), .const (.int .i64 4), .tmp 37, .tmp 38], #[3, 30, 36, 40]⟩, 42, "law.go:30", #[⟨22, .data⟩, ⟨23, .data⟩, ⟨24, .data⟩, ⟨21, .chain⟩], none⟩ := rfl
theorem g26 : opsG[26]? = some ⟨some 40, .move (.tmp 6), 193, "law.go:22", #[], none⟩ := rfl
theorem g27 : opsG[27]? = some ⟨some 41, .load 36 (.tmp 3), 36, "law.go:22", #[], none⟩ := rfl
theorem g28 : opsG[28]? = some ⟨some 42, .load 40 (.tmp 5), 40, "law.go:22", #[], none⟩ := rfl
theorem g29 : opsG[29]? = some ⟨some 43, .call ⟨.value (.tmp 40), #[.const (.int .i64 1), .const (.int .i64 3), .tmp 41, .tmp 42], #[3, 30, 36, 40]⟩, 42, "law.go:31", #[⟨26, .data⟩, ⟨27, .data⟩, ⟨28, .data⟩, ⟨25, .chain⟩], none⟩ := rfl
theorem g30 : opsG[30]? = some ⟨some 44, .buildSlice 22 9 #[(0, .tmp 15), (1, .tmp 17), (2, .tmp 20), (3, .tmp 24), (4, .tmp 28), (5, .tmp 31), (6, .tmp 35), (7, .tmp 39), (8, .tmp 43)], 22, "law.go:22", #[⟨1, .data⟩, ⟨3, .data⟩, ⟨6, .data⟩, ⟨10, .data⟩, ⟨14, .data⟩, ⟨17, .data⟩, ⟨21, .data⟩, ⟨25, .data⟩, ⟨29, .data⟩], none⟩ := rfl
theorem g31 : opsG[31]? = some ⟨some 7, .assign (.tmp 44), 22, "law.go:22", #[⟨30, .data⟩, ⟨29, .chain⟩, ⟨0, .phase⟩, ⟨1, .phase⟩, ⟨2, .phase⟩, ⟨3, .phase⟩, ⟨4, .phase⟩, ⟨5, .phase⟩, ⟨6, .phase⟩, ⟨7, .phase⟩, ⟨8, .phase⟩, ⟨9, .phase⟩, ⟨10, .phase⟩, ⟨11, .phase⟩, ⟨12, .phase⟩, ⟨13, .phase⟩, ⟨14, .phase⟩, ⟨15, .phase⟩, ⟨16, .phase⟩, ⟨17, .phase⟩, ⟨18, .phase⟩, ⟨19, .phase⟩, ⟨20, .phase⟩, ⟨21, .phase⟩, ⟨22, .phase⟩, ⟨23, .phase⟩, ⟨24, .phase⟩, ⟨25, .phase⟩, ⟨26, .phase⟩, ⟨27, .phase⟩, ⟨28, .phase⟩, ⟨29, .phase⟩, ⟨30, .phase⟩], none⟩ := rfl
theorem takeG {Q : Exit -> Act -> World -> Prop} {S : World -> Prop} {i : Nat} {oi : Oper} {v : Value} {fuel : Nat} {listed : Array Bool} {a : Act} {w : World} (hi : opsG[i]? = some oi)
  (hQ : ∀ d v c a w, Q (.panic c) (Act.put a d v) w -> Q (.panic c) a w) (hy : YieldsIf Tryz.prog opsG S oi v a) (hS : S w)
  (h : wpAnyH Tryz.prog .any opsG Q S fuel (listed.setIfInBounds i true) (a.put oi.dst v) w)
  (hf : Region.free .any opsG listed i = true := by kernel_rfl) (hr : (Region.ready .any opsG listed).contains i = true := by kernel_rfl) : wpAnyH Tryz.prog .any opsG Q S (fuel + 1) listed a w :=
 wpAnyH_take hi (by kernel_rfl) hf hr (hQ _ _) hy hS h
theorem opA {Q : Exit -> Act -> World -> Prop} {w0 u : World} {fuel : Nat} {listed : Array Bool} {a : Act} (hB : Below w0.heap.size w0 u)
  (h : ∀ (g : Nat) (u2 : World), Below w0.heap.size w0 u2 -> Below u.heap.size u u2 -> Byt u2 u2.heap.size (some ⟨g, 0, none⟩) 4 [3, 4, 1, 97] -> wpAnyH Tryz.prog .any opsG Q (fun W => Below w0.heap.size w0 W) fuel (listed.setIfInBounds 4 true) (a.put (some 18) (.slice (some ⟨g, 0, none⟩) 4 4)) u2)
  (K : Act -> World -> Prop) (hK : Shut (∀ a w, Below w0.heap.size w0 w -> (Below w0.heap.size w0 w -> wpAnyH Tryz.prog .any opsG Q (fun W => Below w0.heap.size w0 W) fuel (listed.setIfInBounds 4 true) a w) -> K a w)) : if Region.wanted ⟨some 18, .buildSlice 26 4 #[(0, .const (.int .u8 3)), (1, .const (.int .u8 4)), (2, .const (.int .u8 1)), (3, .const (.int .u8 97))], 26, "law.go:22", #[], none⟩ (yielded opsG a.tmps) = true then Oper.wp Tryz.prog ⟨some 18, .buildSlice 26 4 #[(0, .const (.int .u8 3)), (1, .const (.int .u8 4)), (2, .const (.int .u8 1)), (3, .const (.int .u8 97))], 26, "law.go:22", #[], none⟩ a u K Q else K (a.put (some 18) undef) u := by
 with_reducible refine step_slice_own rfl 26 5 4 _ rfl (.int .u8 0) 1 1 Tryz.underlying26 q_info5 [(0, .int .u8 3), (1, .int .u8 4), (2, .int .u8 1), (3, .int .u8 97)] ([3, 4, 1, 97].map (Value.int .u8)) ?_ ?_ ?_ ?_ ?_ ?_ ?_
 ·simp only [y1, y2, y3]; rfl
 ·kernel_rfl
 ·rfl
 ·decide
 ·decide
 ·decide
 intro u2 ho hc
 have hB2 := hB.trans (hc.mono hB.size)
 exact hK.out _ _ hB2 fun _ => h _ _ hB2 hc (byt_of_own ho)
theorem opB {Q : Exit -> Act -> World -> Prop} {w0 u : World} {fuel : Nat} {listed : Array Bool} {a : Act} (hB : Below w0.heap.size w0 u)
  (h : ∀ (g : Nat) (u2 : World), Below w0.heap.size w0 u2 -> Below u.heap.size u u2 -> Byt u2 u2.heap.size (some ⟨g, 0, none⟩) 2 [1, 14] -> wpAnyH Tryz.prog .any opsG Q (fun W => Below w0.heap.size w0 W) fuel (listed.setIfInBounds 15 true) (a.put (some 29) (.slice (some ⟨g, 0, none⟩) 2 2)) u2)
  (K : Act -> World -> Prop) (hK : Shut (∀ a w, Below w0.heap.size w0 w -> (Below w0.heap.size w0 w -> wpAnyH Tryz.prog .any opsG Q (fun W => Below w0.heap.size w0 W) fuel (listed.setIfInBounds 15 true) a w) -> K a w)) : if Region.wanted ⟨some 29, .buildSlice 26 2 #[(0, .const (.int .u8 1)), (1, .const (.int .u8 14))], 26, "law.go:22", #[], none⟩ (yielded opsG a.tmps) = true then Oper.wp Tryz.prog ⟨some 29, .buildSlice 26 2 #[(0, .const (.int .u8 1)), (1, .const (.int .u8 14))], 26, "law.go:22", #[], none⟩ a u K Q else K (a.put (some 29) undef) u := by
 with_reducible refine step_slice_own rfl 26 5 2 _ rfl (.int .u8 0) 1 1 Tryz.underlying26 q_info5 [(0, .int .u8 1), (1, .int .u8 14)] ([1, 14].map (Value.int .u8)) ?_ ?_ ?_ ?_ ?_ ?_ ?_
 ·simp only [y1, y2, y3]; rfl
 ·kernel_rfl
 ·rfl
 ·decide
 ·decide
 ·decide
 intro u2 ho hc
 have hB2 := hB.trans (hc.mono hB.size)
 exact hK.out _ _ hB2 fun _ => h _ _ hB2 hc (byt_of_own ho)
theorem opC {Q : Exit -> Act -> World -> Prop} {w0 u : World} {fuel : Nat} {listed : Array Bool} {a : Act} {i d s x y : Nat} {o : Oper} {pos : String} {af : Array Edge} {conn m : Int} {c : CmdR} {vk vv vt : Value} {r : RespR} {vi vn : Value}
  (ho : o = ⟨some d, .call ⟨.value (.tmp s), #[.const (.int .i64 conn), .const (.int .i64 m), .tmp x, .tmp y], #[3, 30, 36, 40]⟩, 42, pos, af, none⟩)
  (hf : a.eval (.tmp s) = .func (.func 103) #[] #[]) (hx : a.eval (.tmp x) = .agg (cmdC c vk vv vt).toArray) (hy : a.eval (.tmp y) = .agg (respC r vi vn).toArray)
  (hc : CmdOk u u.heap.size c vk vv vt) (hr : RespOk u u.heap.size r vi vn) (hB : Below w0.heap.size w0 u)
  (h : ∀ u2 : World, Below w0.heap.size w0 u2 -> Below u.heap.size u u2 -> wpAnyH Tryz.prog .any opsG Q (fun W => Below w0.heap.size w0 W) fuel (listed.setIfInBounds i true) (a.put (some d) (.agg (didC (microD conn m c r) (microV vk vv vt vi vn)).toArray)) u2)
  (K : Act -> World -> Prop) (hK : Shut (∀ a w, Below w0.heap.size w0 w -> (Below w0.heap.size w0 w -> wpAnyH Tryz.prog .any opsG Q (fun W => Below w0.heap.size w0 W) fuel (listed.setIfInBounds i true) a w) -> K a w)) : if Region.wanted o (yielded opsG a.tmps) = true then Oper.wp Tryz.prog o a u K Q else K (a.put o.dst undef) u := by
 subst ho
 with_reducible refine step_call_slot rfl (Operand.tmp s) 103 _ _ rfl hf #[.int .i64 conn, .int .i64 m, .agg (cmdC c vk vv vt).toArray, .agg (respC r vi vn).toArray] ?_ Tryz.f103 Tryz.func103 f103_name f103_body (fun v w6 => v = .agg (didC (microD conn m c r) (microV vk vv vt vi vn)).toArray /\ Below u.heap.size u w6) ?_ ?_
 ·simp only [y1, y2, y3, hx, hy]; rfl
 ·exact (micro103 conn m c r vk vv vt vi vn u hc hr).mono fun e w' h => ⟨_, h.1, rfl, h.2⟩
 rintro v u2 ⟨rfl, hc⟩
 have hB2 := hB.trans (hc.mono hB.size)
 exact hK.out _ _ hB2 fun _ => h _ hB2 hc
def dstG : Nat -> Nat
 | 0 => 14
 | 1 => 15
 | 2 => 16
 | 3 => 17
 | 4 => 18
 | 5 => 19
 | 6 => 20
 | 7 => 21
 | 8 => 22
 | 9 => 23
 | 10 => 24
 | 11 => 25
 | 12 => 26
 | 13 => 27
 | 14 => 28
 | 15 => 29
 | 16 => 30
 | 17 => 31
 | 18 => 32
 | 19 => 33
 | 20 => 34
 | 21 => 35
 | 22 => 36
 | 23 => 37
 | 24 => 38
 | 25 => 39
 | 26 => 40
 | 27 => 41
 | 28 => 42
 | 29 => 43
 | 30 => 44
 | 31 => 7
 | _ => 0
def valG (gA gB gS g : Nat) : Nat -> Value
 | 0 => .agg #[.int .i64 1, .int .i64 0, .int .i64 0, .slice none 0 0]
 | 1 => .agg #[.int .i64 1, .int .i64 0, .int .i64 0, .slice none 0 0, .int .i64 0, .int .i64 0, .slice none 0 0, .int .i64 0, .int .i64 0, .string ⟨#[]⟩, .slice none 0 0, .slice none 0 0, .slice none 0 0, .int .u64 0, .int .u64 0, .string ⟨#[]⟩, .string ⟨#[]⟩, .string ⟨#[]⟩, .int .i64 0, .int .i64 0, .slice none 0 0, .int .u64 0, .int .i64 0, .slice none 0 0, .int .u64 0]
 | 2 => .agg #[.int .i64 1, .int .i64 0, .int .i64 0, .slice none 0 0]
 | 3 => .agg #[.int .i64 1, .int .i64 0, .int .i64 0, .slice none 0 0, .int .i64 0, .int .i64 1, .slice none 0 0, .int .i64 0, .int .i64 0, .string ⟨#[]⟩, .slice none 0 0, .slice none 0 0, .slice none 0 0, .int .u64 0, .int .u64 0, .string ⟨#[]⟩, .string ⟨#[]⟩, .string ⟨#[]⟩, .int .i64 0, .int .i64 0, .slice none 0 0, .int .u64 0, .int .i64 0, .slice none 0 0, .int .u64 0]
 | 4 => .slice (some ⟨gA, 0, none⟩) 4 4
 | 5 => .agg #[.int .i64 2, .int .i64 0, .int .i64 0, .slice (some ⟨gA, 0, none⟩) 4 4]
 | 6 => .agg #[.int .i64 2, .int .i64 0, .int .i64 0, .slice (some ⟨gA, 0, none⟩) 4 4, .int .i64 0, .int .i64 4, .slice none 0 0, .int .i64 0, .int .i64 0, .string ⟨#[]⟩, .slice none 0 0, .slice none 0 0, .slice none 0 0, .int .u64 0, .int .u64 0, .string ⟨#[]⟩, .string ⟨#[]⟩, .string ⟨#[]⟩, .int .i64 0, .int .i64 0, .slice none 0 0, .int .u64 0, .int .i64 0, .slice none 0 0, .int .u64 0]
 | 7 => .func (.func 103) #[] #[]
 | 8 => .agg getL.toArray
 | 9 => .agg #[.int .i64 0, .int .i64 0, .slice none 0 0, .int .u64 0, .int .i64 0, .slice none 0 0]
 | 10 => .agg (didC (microD 0 1 getR resp0) (microV nilV nilV nilV nilV nilV)).toArray
 | 11 => .func (.func 103) #[] #[]
 | 12 => .agg getL.toArray
 | 13 => .agg (misL g).toArray
 | 14 => .agg (didC (microD 0 3 getR misR) (microV nilV nilV nilV (misV g) nilV)).toArray
 | 15 => .slice (some ⟨gB, 0, none⟩) 2 2
 | 16 => .agg #[.int .i64 2, .int .i64 1, .int .i64 0, .slice (some ⟨gB, 0, none⟩) 2 2]
 | 17 => .agg #[.int .i64 2, .int .i64 1, .int .i64 0, .slice (some ⟨gB, 0, none⟩) 2 2, .int .i64 0, .int .i64 2, .slice none 0 0, .int .i64 0, .int .i64 0, .string ⟨#[]⟩, .slice none 0 0, .slice none 0 0, .slice none 0 0, .int .u64 0, .int .u64 0, .string ⟨#[]⟩, .string ⟨#[]⟩, .string ⟨#[]⟩, .int .i64 0, .int .i64 0, .slice none 0 0, .int .u64 0, .int .i64 0, .slice none 0 0, .int .u64 0]
 | 18 => .func (.func 103) #[] #[]
 | 19 => .agg fluL.toArray
 | 20 => .agg #[.int .i64 0, .int .i64 0, .slice none 0 0, .int .u64 0, .int .i64 0, .slice none 0 0]
 | 21 => .agg (didC (microD 1 1 fluR resp0) (microV nilV nilV nilV nilV nilV)).toArray
 | 22 => .func (.func 103) #[] #[]
 | 23 => .agg #[.int .i64 0, .string ⟨#[]⟩, .slice none 0 0, .slice none 0 0, .slice none 0 0, .int .u64 0, .int .u64 0, .string ⟨#[]⟩, .string ⟨#[]⟩, .string ⟨#[]⟩]
 | 24 => .agg (misL g).toArray
 | 25 => .agg (didC (microD 0 4 cmd0 misR) (microV nilV nilV nilV (misV g) nilV)).toArray
 | 26 => .func (.func 103) #[] #[]
 | 27 => .agg fluL.toArray
 | 28 => .agg donL.toArray
 | 29 => .agg (didC (microD 1 3 fluR donR) (microV nilV nilV nilV nilV nilV)).toArray
 | 30 => .slice (some ⟨gS, 0, none⟩) 9 9
 | 31 => .slice (some ⟨gS, 0, none⟩) 9 9
 | _ => undef
def fillG (f : Nat -> Value) (ks : List Nat) (l : List Value) : List Value := ks.foldl (fun a k => a.set (dstG k) (f k)) l
theorem regionG (Q : Exit -> Act -> World -> Prop) (hQ : ∀ d v c a w, Q (.panic c) (Act.put a d v) w -> Q (.panic c) a w) (w0 : World) (h0 g : Nat) (s0 s1 s7 s8 s9 s10 s11 s12 s13 s14 s15 s16 s17 s18 s19 s20 s21 s22 s23 s24 s25 s26 s27 s28 s29 s30 s31 s32 s33 s34 s35 s36 s37 s38 s39 s40 s41 s42 s43 s44 s45 s46 s47 s48 s49 s50 s51 s52 : Value)
  (HG : Hid (∀ W, Below w0.heap.size w0 W -> RowL W h0 36 getL)) (HF : Hid (∀ W, Below w0.heap.size w0 W -> RowL W (h0 + 1) 36 fluL)) (HMR : Hid (∀ W, Below w0.heap.size w0 W -> RowL W (g + 1) 40 (misL g))) (HDR : Hid (∀ W, Below w0.heap.size w0 W -> RowL W (g + 1 + 1) 40 donL)) (HMO : Hid (∀ W, Below w0.heap.size w0 W -> RespOk W W.heap.size misR (misV g) nilV))
  (hpost : ∀ (gA gB gS : Nat) (W' : World), DidsAt W' W'.heap.size (some ⟨gS, 0, none⟩) didsG -> Below w0.heap.size w0 W' -> Q .normal ⟨#[s0, s1, .pointer (some ⟨h0, 0, none⟩), .pointer (some ⟨h0 + 1, 0, none⟩), .pointer (some ⟨g + 1, 0, none⟩), .pointer (some ⟨g + 1 + 1, 0, none⟩), .func (.func 103) #[] #[], .slice (some ⟨gS, 0, none⟩) 9 9, s8, s9, s10, s11, s12, s13, .agg #[.int .i64 1, .int .i64 0, .int .i64 0, .slice none 0 0], .agg #[.int .i64 1, .int .i64 0, .int .i64 0, .slice none 0 0, .int .i64 0, .int .i64 0, .slice none 0 0, .int .i64 0, .int .i64 0, .string ⟨#[]⟩, .slice none 0 0, .slice none 0 0, .slice none 0 0, .int .u64 0, .int .u64 0, .string ⟨#[]⟩, .string ⟨#[]⟩, .string ⟨#[]⟩, .int .i64 0, .int .i64 0, .slice none 0 0, .int .u64 0, .int .i64 0, .slice none 0 0, .int .u64 0], .agg #[.int .i64 1, .int .i64 0, .int .i64 0, .slice none 0 0], .agg #[.int .i64 1, .int .i64 0, .int .i64 0, .slice none 0 0, .int .i64 0, .int .i64 1, .slice none 0 0, .int .i64 0, .int .i64 0, .string ⟨#[]⟩, .slice none 0 0, .slice none 0 0, .slice none 0 0, .int .u64 0, .int .u64 0, .string ⟨#[]⟩, .string ⟨#[]⟩, .string ⟨#[]⟩, .int .i64 0, .int .i64 0, .slice none 0 0, .int .u64 0, .int .i64 0, .slice none 0 0, .int .u64 0], .slice (some ⟨gA, 0, none⟩) 4 4, .agg #[.int .i64 2, .int .i64 0, .int .i64 0, .slice (some ⟨gA, 0, none⟩) 4 4], .agg #[.int .i64 2, .int .i64 0, .int .i64 0, .slice (some ⟨gA, 0, none⟩) 4 4, .int .i64 0, .int .i64 4, .slice none 0 0, .int .i64 0, .int .i64 0, .string ⟨#[]⟩, .slice none 0 0, .slice none 0 0, .slice none 0 0, .int .u64 0, .int .u64 0, .string ⟨#[]⟩, .string ⟨#[]⟩, .string ⟨#[]⟩, .int .i64 0, .int .i64 0, .slice none 0 0, .int .u64 0, .int .i64 0, .slice none 0 0, .int .u64 0], .func (.func 103) #[] #[], .agg getL.toArray, .agg #[.int .i64 0, .int .i64 0, .slice none 0 0, .int .u64 0, .int .i64 0, .slice none 0 0], .agg (didC (microD 0 1 getR resp0) (microV nilV nilV nilV nilV nilV)).toArray, .func (.func 103) #[] #[], .agg getL.toArray, .agg (misL g).toArray, .agg (didC (microD 0 3 getR misR) (microV nilV nilV nilV (misV g) nilV)).toArray, .slice (some ⟨gB, 0, none⟩) 2 2, .agg #[.int .i64 2, .int .i64 1, .int .i64 0, .slice (some ⟨gB, 0, none⟩) 2 2], .agg #[.int .i64 2, .int .i64 1, .int .i64 0, .slice (some ⟨gB, 0, none⟩) 2 2, .int .i64 0, .int .i64 2, .slice none 0 0, .int .i64 0, .int .i64 0, .string ⟨#[]⟩, .slice none 0 0, .slice none 0 0, .slice none 0 0, .int .u64 0, .int .u64 0, .string ⟨#[]⟩, .string ⟨#[]⟩, .string ⟨#[]⟩, .int .i64 0, .int .i64 0, .slice none 0 0, .int .u64 0, .int .i64 0, .slice none 0 0, .int .u64 0], .func (.func 103) #[] #[], .agg fluL.toArray, .agg #[.int .i64 0, .int .i64 0, .slice none 0 0, .int .u64 0, .int .i64 0, .slice none 0 0], .agg (didC (microD 1 1 fluR resp0) (microV nilV nilV nilV nilV nilV)).toArray, .func (.func 103) #[] #[], .agg #[.int .i64 0, .string ⟨#[]⟩, .slice none 0 0, .slice none 0 0, .slice none 0 0, .int .u64 0, .int .u64 0, .string ⟨#[]⟩, .string ⟨#[]⟩, .string ⟨#[]⟩], .agg (misL g).toArray, .agg (didC (microD 0 4 cmd0 misR) (microV nilV nilV nilV (misV g) nilV)).toArray, .func (.func 103) #[] #[], .agg fluL.toArray, .agg donL.toArray, .agg (didC (microD 1 3 fluR donR) (microV nilV nilV nilV nilV nilV)).toArray, .slice (some ⟨gS, 0, none⟩) 9 9, s45, s46, s47, s48, s49, s50, s51, s52], []⟩ W') :
  (Code.region 4 opsG true).wp Tryz.prog Q ⟨#[s0, s1, .pointer (some ⟨h0, 0, none⟩), .pointer (some ⟨h0 + 1, 0, none⟩), .pointer (some ⟨g + 1, 0, none⟩), .pointer (some ⟨g + 1 + 1, 0, none⟩), .func (.func 103) #[] #[], s7, s8, s9, s10, s11, s12, s13, s14, s15, s16, s17, s18, s19, s20, s21, s22, s23, s24, s25, s26, s27, s28, s29, s30, s31, s32, s33, s34, s35, s36, s37, s38, s39, s40, s41, s42, s43, s44, s45, s46, s47, s48, s49, s50, s51, s52], []⟩ w0 := by
 obtain ⟨SL, hSL⟩ : ∃ SL : List Value, SL = [s0, s1, .pointer (some ⟨h0, 0, none⟩), .pointer (some ⟨h0 + 1, 0, none⟩), .pointer (some ⟨g + 1, 0, none⟩), .pointer (some ⟨g + 1 + 1, 0, none⟩), .func (.func 103) #[] #[], s7, s8, s9, s10, s11, s12, s13, s14, s15, s16, s17, s18, s19, s20, s21, s22, s23, s24, s25, s26, s27, s28, s29, s30, s31, s32, s33, s34, s35, s36, s37, s38, s39, s40, s41, s42, s43, s44, s45, s46, s47, s48, s49, s50, s51, s52] := ⟨_, rfl⟩
 have st1111111 : ∀ (gA : Nat) (gB : Nat) (u : World), Below w0.heap.size w0 u -> Byt u u.heap.size (some ⟨gA, 0, none⟩) 4 [3, 4, 1, 97] -> Byt u u.heap.size (some ⟨gB, 0, none⟩) 2 [1, 14] -> wpAnyH Tryz.prog .any opsG Q (fun W => Below w0.heap.size w0 W) 2 #[true, true, true, true, true, true, true, true, true, true, true, true, true, true, true, true, true, true, true, true, true, true, true, true, true, true, true, true, true, true, false, false] ⟨(fillG (valG gA gB 0 g) [0, 1, 2, 3, 4, 5, 6, 7, 8, 9, 10, 11, 12, 13, 14, 15, 16, 17, 18, 19, 20, 21, 22, 23, 24, 25, 26, 27, 28, 29] SL).toArray, []⟩ u := by
  intro gA gB u hB hA hBB
  simp only [hSL, fillG, valG, dstG, List.foldl, Act.put, z1, z2, z3]
  refine wpAnyH_ready (rs := [30]) (by kernel_rfl) (by simp) ?_
  refine AllReadyH.cons g30 (fun K hK => ?_) (AllReadyH.nil)
  with_reducible refine step_rows rfl 22 42 9 _ rfl _ 25 344 Tryz.underlying22 q_info42 ((stepsG gA gB g).map fun x => didC x.1 x.2) ?_ ?_ ?_ ?_ ?_ ?_ ?_
  ·simp only [y1, y2, y3]; rfl
  ·intro L hL; obtain ⟨x, _, rfl⟩ := List.mem_map.1 hL; rfl
  ·rfl
  ·decide
  ·decide
  ·unfold maxLen; decide
  intro u2 ho hc
  have hB2 := hB.trans (hc.mono hB.size)
  have hA2 := byt_up hA hc
  have hBB2 := byt_up hBB hc
  have hoks := stepsG_ok hA2 hBB2 (HMO.out _ hB2)
  obtain ⟨A, c, he, hda⟩ := dids_own (L := stepsG gA gB g) ho hoks
  rw [stepsG_map] at hda
  obtain ⟨gS, hgS⟩ : ∃ q, u.heap.size = q := ⟨_, rfl⟩
  rw [hgS] at he ⊢
  cases he
  refine hK.out _ _ hB2 (fun _ => ?_)
  clear hK K
  have HS := kp hB2
  simp only [Act.put, z1, z2, z3]
  refine takeG g31 (v := ?_) hQ (Or.inl ⟨by rfl, ?_⟩) HS.out ?_
  rotate_left 1
  ·intro w hw; go_simp; try with_reducible rfl
  simp only [Act.put, z1, z2, z3]
  refine wpAnyH_done (by kernel_rfl) ?_ _
  exact hpost gA gB gS u2 hda hB2
 have st1111011 : ∀ (gA : Nat) (gB : Nat) (u : World), Below w0.heap.size w0 u -> Byt u u.heap.size (some ⟨gA, 0, none⟩) 4 [3, 4, 1, 97] -> Byt u u.heap.size (some ⟨gB, 0, none⟩) 2 [1, 14] -> wpAnyH Tryz.prog .any opsG Q (fun W => Below w0.heap.size w0 W) 3 #[true, true, true, true, true, true, true, true, true, true, true, true, true, true, true, true, true, true, true, true, true, true, true, true, true, true, true, true, true, false, false, false] ⟨(fillG (valG gA gB 0 g) [0, 1, 2, 3, 4, 5, 6, 7, 8, 9, 10, 11, 12, 13, 14, 15, 16, 17, 18, 19, 20, 21, 22, 23, 24, 25, 26, 27, 28] SL).toArray, []⟩ u := by
  intro gA gB u hB hA hBB
  simp only [hSL, fillG, valG, dstG, List.foldl, Act.put, z1, z2, z3]
  refine wpAnyH_ready (rs := [29]) (by kernel_rfl) (by simp) ?_
  refine AllReadyH.cons g29 (opC rfl rfl rfl rfl (flu_ok _ _) (don_ok _ _) hB fun u2 hB2 hc => ?_) (AllReadyH.nil)
  simpa only [hSL, fillG, valG, dstG, List.foldl, Act.put, z1, z2, z3] using st1111111 gA gB u2 hB2 (byt_up hA hc) (byt_up hBB hc)
 have st1110011 : ∀ (gA : Nat) (gB : Nat) (u : World), Below w0.heap.size w0 u -> Byt u u.heap.size (some ⟨gA, 0, none⟩) 4 [3, 4, 1, 97] -> Byt u u.heap.size (some ⟨gB, 0, none⟩) 2 [1, 14] -> wpAnyH Tryz.prog .any opsG Q (fun W => Below w0.heap.size w0 W) 4 #[true, true, true, true, true, true, true, true, true, true, true, true, true, true, true, true, true, true, true, true, true, true, true, true, true, false, true, true, true, false, false, false] ⟨(fillG (valG gA gB 0 g) [0, 1, 2, 3, 4, 5, 6, 7, 8, 9, 10, 11, 12, 13, 14, 15, 16, 17, 18, 19, 20, 21, 22, 23, 24, 26, 27, 28] SL).toArray, []⟩ u := by
  intro gA gB u hB hA hBB
  simp only [hSL, fillG, valG, dstG, List.foldl, Act.put, z1, z2, z3]
  refine wpAnyH_ready (rs := [25]) (by kernel_rfl) (by simp) ?_
  refine AllReadyH.cons g25 (opC rfl rfl rfl rfl (cmdOk0 _ _) (HMO.out _ hB) hB fun u2 hB2 hc => ?_) (AllReadyH.nil)
  simpa only [hSL, fillG, valG, dstG, List.foldl, Act.put, z1, z2, z3] using st1111011 gA gB u2 hB2 (byt_up hA hc) (byt_up hBB hc)
 have st1100011 : ∀ (gA : Nat) (gB : Nat) (u : World), Below w0.heap.size w0 u -> Byt u u.heap.size (some ⟨gA, 0, none⟩) 4 [3, 4, 1, 97] -> Byt u u.heap.size (some ⟨gB, 0, none⟩) 2 [1, 14] -> wpAnyH Tryz.prog .any opsG Q (fun W => Below w0.heap.size w0 W) 5 #[true, true, true, true, true, true, true, true, true, true, true, true, true, true, true, true, true, true, true, true, true, false, true, true, true, false, true, true, true, false, false, false] ⟨(fillG (valG gA gB 0 g) [0, 1, 2, 3, 4, 5, 6, 7, 8, 9, 10, 11, 12, 13, 14, 15, 16, 17, 18, 19, 20, 22, 23, 24, 26, 27, 28] SL).toArray, []⟩ u := by
  intro gA gB u hB hA hBB
  simp only [hSL, fillG, valG, dstG, List.foldl, Act.put, z1, z2, z3]
  refine wpAnyH_ready (rs := [21]) (by kernel_rfl) (by simp) ?_
  refine AllReadyH.cons g21 (opC rfl rfl rfl rfl (flu_ok _ _) (respOk0 _ _) hB fun u2 hB2 hc => ?_) (AllReadyH.nil)
  simpa only [hSL, fillG, valG, dstG, List.foldl, Act.put, z1, z2, z3] using st1110011 gA gB u2 hB2 (byt_up hA hc) (byt_up hBB hc)
 have st1111110 : ∀ (gA : Nat) (u : World), Below w0.heap.size w0 u -> Byt u u.heap.size (some ⟨gA, 0, none⟩) 4 [3, 4, 1, 97] -> wpAnyH Tryz.prog .any opsG Q (fun W => Below w0.heap.size w0 W) 5 #[true, true, true, true, true, true, true, true, true, true, true, true, true, true, true, false, false, false, true, true, true, true, true, true, true, true, true, true, true, true, false, false] ⟨(fillG (valG gA 0 0 g) [0, 1, 2, 3, 4, 5, 6, 7, 8, 9, 10, 11, 12, 13, 14, 18, 19, 20, 21, 22, 23, 24, 25, 26, 27, 28, 29] SL).toArray, []⟩ u := by
  intro gA u hB hA
  simp only [hSL, fillG, valG, dstG, List.foldl, Act.put, z1, z2, z3]
  refine wpAnyH_ready (rs := [15]) (by kernel_rfl) (by simp) ?_
  refine AllReadyH.cons g15 (opB hB fun gB u2 hB2 hc hBB2 => ?_) (AllReadyH.nil)
  have HS := kp hB2
  simp only [Act.put, z1, z2, z3]
  refine takeG g16 (v := ?_) hQ (Or.inl ⟨by rfl, ?_⟩) HS.out ?_
  rotate_left 1
  ·intro w hw; go_simp; try with_reducible rfl
  simp only [Act.put, z1, z2, z3]
  refine takeG g17 (v := ?_) hQ (Or.inl ⟨by rfl, ?_⟩) HS.out ?_
  rotate_left 1
  ·intro w hw; go_simp; try with_reducible rfl
  simp only [Act.put, z1, z2, z3]
  simpa only [hSL, fillG, valG, dstG, List.foldl, Act.put, z1, z2, z3] using st1111111 gA gB u2 hB2 (byt_up hA hc) hBB2
 have st1111101 : ∀ (gB : Nat) (u : World), Below w0.heap.size w0 u -> Byt u u.heap.size (some ⟨gB, 0, none⟩) 2 [1, 14] -> wpAnyH Tryz.prog .any opsG Q (fun W => Below w0.heap.size w0 W) 5 #[true, true, true, true, false, false, false, true, true, true, true, true, true, true, true, true, true, true, true, true, true, true, true, true, true, true, true, true, true, true, false, false] ⟨(fillG (valG 0 gB 0 g) [0, 1, 2, 3, 7, 8, 9, 10, 11, 12, 13, 14, 15, 16, 17, 18, 19, 20, 21, 22, 23, 24, 25, 26, 27, 28, 29] SL).toArray, []⟩ u := by
  intro gB u hB hBB
  simp only [hSL, fillG, valG, dstG, List.foldl, Act.put, z1, z2, z3]
  refine wpAnyH_ready (rs := [4]) (by kernel_rfl) (by simp) ?_
  refine AllReadyH.cons g4 (opA hB fun gA u2 hB2 hc hA2 => ?_) (AllReadyH.nil)
  have HS := kp hB2
  simp only [Act.put, z1, z2, z3]
  refine takeG g5 (v := ?_) hQ (Or.inl ⟨by rfl, ?_⟩) HS.out ?_
  rotate_left 1
  ·intro w hw; go_simp; try with_reducible rfl
  simp only [Act.put, z1, z2, z3]
  refine takeG g6 (v := ?_) hQ (Or.inl ⟨by rfl, ?_⟩) HS.out ?_
  rotate_left 1
  ·intro w hw; go_simp; try with_reducible rfl
  simp only [Act.put, z1, z2, z3]
  simpa only [hSL, fillG, valG, dstG, List.foldl, Act.put, z1, z2, z3] using st1111111 gA gB u2 hB2 hA2 (byt_up hBB hc)
 have st1000011 : ∀ (gA : Nat) (gB : Nat) (u : World), Below w0.heap.size w0 u -> Byt u u.heap.size (some ⟨gA, 0, none⟩) 4 [3, 4, 1, 97] -> Byt u u.heap.size (some ⟨gB, 0, none⟩) 2 [1, 14] -> wpAnyH Tryz.prog .any opsG Q (fun W => Below w0.heap.size w0 W) 6 #[true, true, true, true, true, true, true, true, true, true, true, true, true, true, false, true, true, true, true, true, true, false, true, true, true, false, true, true, true, false, false, false] ⟨(fillG (valG gA gB 0 g) [0, 1, 2, 3, 4, 5, 6, 7, 8, 9, 10, 11, 12, 13, 15, 16, 17, 18, 19, 20, 22, 23, 24, 26, 27, 28] SL).toArray, []⟩ u := by
  intro gA gB u hB hA hBB
  simp only [hSL, fillG, valG, dstG, List.foldl, Act.put, z1, z2, z3]
  refine wpAnyH_ready (rs := [14]) (by kernel_rfl) (by simp) ?_
  refine AllReadyH.cons g14 (opC rfl rfl rfl rfl (get_ok _ _) (HMO.out _ hB) hB fun u2 hB2 hc => ?_) (AllReadyH.nil)
  simpa only [hSL, fillG, valG, dstG, List.foldl, Act.put, z1, z2, z3] using st1100011 gA gB u2 hB2 (byt_up hA hc) (byt_up hBB hc)
 have st1111010 : ∀ (gA : Nat) (u : World), Below w0.heap.size w0 u -> Byt u u.heap.size (some ⟨gA, 0, none⟩) 4 [3, 4, 1, 97] -> wpAnyH Tryz.prog .any opsG Q (fun W => Below w0.heap.size w0 W) 6 #[true, true, true, true, true, true, true, true, true, true, true, true, true, true, true, false, false, false, true, true, true, true, true, true, true, true, true, true, true, false, false, false] ⟨(fillG (valG gA 0 0 g) [0, 1, 2, 3, 4, 5, 6, 7, 8, 9, 10, 11, 12, 13, 14, 18, 19, 20, 21, 22, 23, 24, 25, 26, 27, 28] SL).toArray, []⟩ u := by
  intro gA u hB hA
  simp only [hSL, fillG, valG, dstG, List.foldl, Act.put, z1, z2, z3]
  refine wpAnyH_ready (rs := [15, 29]) (by kernel_rfl) (by simp) ?_
  refine AllReadyH.cons g15 (opB hB fun gB u2 hB2 hc hBB2 => ?_) (AllReadyH.cons g29 (opC rfl rfl rfl rfl (flu_ok _ _) (don_ok _ _) hB fun u2 hB2 hc => ?_) (AllReadyH.nil))
  ·have HS := kp hB2
   simp only [Act.put, z1, z2, z3]
   refine takeG g16 (v := ?_) hQ (Or.inl ⟨by rfl, ?_⟩) HS.out ?_
   rotate_left 1
   ·intro w hw; go_simp; try with_reducible rfl
   simp only [Act.put, z1, z2, z3]
   refine takeG g17 (v := ?_) hQ (Or.inl ⟨by rfl, ?_⟩) HS.out ?_
   rotate_left 1
   ·intro w hw; go_simp; try with_reducible rfl
   simp only [Act.put, z1, z2, z3]
   simpa only [hSL, fillG, valG, dstG, List.foldl, Act.put, z1, z2, z3] using st1111011 gA gB u2 hB2 (byt_up hA hc) hBB2
  ·simpa only [hSL, fillG, valG, dstG, List.foldl, Act.put, z1, z2, z3] using st1111110 gA u2 hB2 (byt_up hA hc)
 have st1111001 : ∀ (gB : Nat) (u : World), Below w0.heap.size w0 u -> Byt u u.heap.size (some ⟨gB, 0, none⟩) 2 [1, 14] -> wpAnyH Tryz.prog .any opsG Q (fun W => Below w0.heap.size w0 W) 6 #[true, true, true, true, false, false, false, true, true, true, true, true, true, true, true, true, true, true, true, true, true, true, true, true, true, true, true, true, true, false, false, false] ⟨(fillG (valG 0 gB 0 g) [0, 1, 2, 3, 7, 8, 9, 10, 11, 12, 13, 14, 15, 16, 17, 18, 19, 20, 21, 22, 23, 24, 25, 26, 27, 28] SL).toArray, []⟩ u := by
  intro gB u hB hBB
  simp only [hSL, fillG, valG, dstG, List.foldl, Act.put, z1, z2, z3]
  refine wpAnyH_ready (rs := [4, 29]) (by kernel_rfl) (by simp) ?_
  refine AllReadyH.cons g4 (opA hB fun gA u2 hB2 hc hA2 => ?_) (AllReadyH.cons g29 (opC rfl rfl rfl rfl (flu_ok _ _) (don_ok _ _) hB fun u2 hB2 hc => ?_) (AllReadyH.nil))
  ·have HS := kp hB2
   simp only [Act.put, z1, z2, z3]
   refine takeG g5 (v := ?_) hQ (Or.inl ⟨by rfl, ?_⟩) HS.out ?_
   rotate_left 1
   ·intro w hw; go_simp; try with_reducible rfl
   simp only [Act.put, z1, z2, z3]
   refine takeG g6 (v := ?_) hQ (Or.inl ⟨by rfl, ?_⟩) HS.out ?_
   rotate_left 1
   ·intro w hw; go_simp; try with_reducible rfl
   simp only [Act.put, z1, z2, z3]
   simpa only [hSL, fillG, valG, dstG, List.foldl, Act.put, z1, z2, z3] using st1111011 gA gB u2 hB2 hA2 (byt_up hBB hc)
  ·simpa only [hSL, fillG, valG, dstG, List.foldl, Act.put, z1, z2, z3] using st1111101 gB u2 hB2 (byt_up hBB hc)
 have st0000011 : ∀ (gA : Nat) (gB : Nat) (u : World), Below w0.heap.size w0 u -> Byt u u.heap.size (some ⟨gA, 0, none⟩) 4 [3, 4, 1, 97] -> Byt u u.heap.size (some ⟨gB, 0, none⟩) 2 [1, 14] -> wpAnyH Tryz.prog .any opsG Q (fun W => Below w0.heap.size w0 W) 7 #[true, true, true, true, true, true, true, true, true, true, false, true, true, true, false, true, true, true, true, true, true, false, true, true, true, false, true, true, true, false, false, false] ⟨(fillG (valG gA gB 0 g) [0, 1, 2, 3, 4, 5, 6, 7, 8, 9, 11, 12, 13, 15, 16, 17, 18, 19, 20, 22, 23, 24, 26, 27, 28] SL).toArray, []⟩ u := by
  intro gA gB u hB hA hBB
  simp only [hSL, fillG, valG, dstG, List.foldl, Act.put, z1, z2, z3]
  refine wpAnyH_ready (rs := [10]) (by kernel_rfl) (by simp) ?_
  refine AllReadyH.cons g10 (opC rfl rfl rfl rfl (get_ok _ _) (respOk0 _ _) hB fun u2 hB2 hc => ?_) (AllReadyH.nil)
  simpa only [hSL, fillG, valG, dstG, List.foldl, Act.put, z1, z2, z3] using st1000011 gA gB u2 hB2 (byt_up hA hc) (byt_up hBB hc)
 have st1110010 : ∀ (gA : Nat) (u : World), Below w0.heap.size w0 u -> Byt u u.heap.size (some ⟨gA, 0, none⟩) 4 [3, 4, 1, 97] -> wpAnyH Tryz.prog .any opsG Q (fun W => Below w0.heap.size w0 W) 7 #[true, true, true, true, true, true, true, true, true, true, true, true, true, true, true, false, false, false, true, true, true, true, true, true, true, false, true, true, true, false, false, false] ⟨(fillG (valG gA 0 0 g) [0, 1, 2, 3, 4, 5, 6, 7, 8, 9, 10, 11, 12, 13, 14, 18, 19, 20, 21, 22, 23, 24, 26, 27, 28] SL).toArray, []⟩ u := by
  intro gA u hB hA
  simp only [hSL, fillG, valG, dstG, List.foldl, Act.put, z1, z2, z3]
  refine wpAnyH_ready (rs := [15, 25]) (by kernel_rfl) (by simp) ?_
  refine AllReadyH.cons g15 (opB hB fun gB u2 hB2 hc hBB2 => ?_) (AllReadyH.cons g25 (opC rfl rfl rfl rfl (cmdOk0 _ _) (HMO.out _ hB) hB fun u2 hB2 hc => ?_) (AllReadyH.nil))
  ·have HS := kp hB2
   simp only [Act.put, z1, z2, z3]
   refine takeG g16 (v := ?_) hQ (Or.inl ⟨by rfl, ?_⟩) HS.out ?_
   rotate_left 1
   ·intro w hw; go_simp; try with_reducible rfl
   simp only [Act.put, z1, z2, z3]
   refine takeG g17 (v := ?_) hQ (Or.inl ⟨by rfl, ?_⟩) HS.out ?_
   rotate_left 1
   ·intro w hw; go_simp; try with_reducible rfl
   simp only [Act.put, z1, z2, z3]
   simpa only [hSL, fillG, valG, dstG, List.foldl, Act.put, z1, z2, z3] using st1110011 gA gB u2 hB2 (byt_up hA hc) hBB2
  ·simpa only [hSL, fillG, valG, dstG, List.foldl, Act.put, z1, z2, z3] using st1111010 gA u2 hB2 (byt_up hA hc)
 have st1110001 : ∀ (gB : Nat) (u : World), Below w0.heap.size w0 u -> Byt u u.heap.size (some ⟨gB, 0, none⟩) 2 [1, 14] -> wpAnyH Tryz.prog .any opsG Q (fun W => Below w0.heap.size w0 W) 7 #[true, true, true, true, false, false, false, true, true, true, true, true, true, true, true, true, true, true, true, true, true, true, true, true, true, false, true, true, true, false, false, false] ⟨(fillG (valG 0 gB 0 g) [0, 1, 2, 3, 7, 8, 9, 10, 11, 12, 13, 14, 15, 16, 17, 18, 19, 20, 21, 22, 23, 24, 26, 27, 28] SL).toArray, []⟩ u := by
  intro gB u hB hBB
  simp only [hSL, fillG, valG, dstG, List.foldl, Act.put, z1, z2, z3]
  refine wpAnyH_ready (rs := [4, 25]) (by kernel_rfl) (by simp) ?_
  refine AllReadyH.cons g4 (opA hB fun gA u2 hB2 hc hA2 => ?_) (AllReadyH.cons g25 (opC rfl rfl rfl rfl (cmdOk0 _ _) (HMO.out _ hB) hB fun u2 hB2 hc => ?_) (AllReadyH.nil))
  ·have HS := kp hB2
   simp only [Act.put, z1, z2, z3]
   refine takeG g5 (v := ?_) hQ (Or.inl ⟨by rfl, ?_⟩) HS.out ?_
   rotate_left 1
   ·intro w hw; go_simp; try with_reducible rfl
   simp only [Act.put, z1, z2, z3]
   refine takeG g6 (v := ?_) hQ (Or.inl ⟨by rfl, ?_⟩) HS.out ?_
   rotate_left 1
   ·intro w hw; go_simp; try with_reducible rfl
   simp only [Act.put, z1, z2, z3]
   simpa only [hSL, fillG, valG, dstG, List.foldl, Act.put, z1, z2, z3] using st1110011 gA gB u2 hB2 hA2 (byt_up hBB hc)
  ·simpa only [hSL, fillG, valG, dstG, List.foldl, Act.put, z1, z2, z3] using st1111001 gB u2 hB2 (byt_up hBB hc)
 have st1100010 : ∀ (gA : Nat) (u : World), Below w0.heap.size w0 u -> Byt u u.heap.size (some ⟨gA, 0, none⟩) 4 [3, 4, 1, 97] -> wpAnyH Tryz.prog .any opsG Q (fun W => Below w0.heap.size w0 W) 8 #[true, true, true, true, true, true, true, true, true, true, true, true, true, true, true, false, false, false, true, true, true, false, true, true, true, false, true, true, true, false, false, false] ⟨(fillG (valG gA 0 0 g) [0, 1, 2, 3, 4, 5, 6, 7, 8, 9, 10, 11, 12, 13, 14, 18, 19, 20, 22, 23, 24, 26, 27, 28] SL).toArray, []⟩ u := by
  intro gA u hB hA
  simp only [hSL, fillG, valG, dstG, List.foldl, Act.put, z1, z2, z3]
  refine wpAnyH_ready (rs := [15, 21]) (by kernel_rfl) (by simp) ?_
  refine AllReadyH.cons g15 (opB hB fun gB u2 hB2 hc hBB2 => ?_) (AllReadyH.cons g21 (opC rfl rfl rfl rfl (flu_ok _ _) (respOk0 _ _) hB fun u2 hB2 hc => ?_) (AllReadyH.nil))
  ·have HS := kp hB2
   simp only [Act.put, z1, z2, z3]
   refine takeG g16 (v := ?_) hQ (Or.inl ⟨by rfl, ?_⟩) HS.out ?_
   rotate_left 1
   ·intro w hw; go_simp; try with_reducible rfl
   simp only [Act.put, z1, z2, z3]
   refine takeG g17 (v := ?_) hQ (Or.inl ⟨by rfl, ?_⟩) HS.out ?_
   rotate_left 1
   ·intro w hw; go_simp; try with_reducible rfl
   simp only [Act.put, z1, z2, z3]
   simpa only [hSL, fillG, valG, dstG, List.foldl, Act.put, z1, z2, z3] using st1100011 gA gB u2 hB2 (byt_up hA hc) hBB2
  ·simpa only [hSL, fillG, valG, dstG, List.foldl, Act.put, z1, z2, z3] using st1110010 gA u2 hB2 (byt_up hA hc)
 have st1100001 : ∀ (gB : Nat) (u : World), Below w0.heap.size w0 u -> Byt u u.heap.size (some ⟨gB, 0, none⟩) 2 [1, 14] -> wpAnyH Tryz.prog .any opsG Q (fun W => Below w0.heap.size w0 W) 8 #[true, true, true, true, false, false, false, true, true, true, true, true, true, true, true, true, true, true, true, true, true, false, true, true, true, false, true, true, true, false, false, false] ⟨(fillG (valG 0 gB 0 g) [0, 1, 2, 3, 7, 8, 9, 10, 11, 12, 13, 14, 15, 16, 17, 18, 19, 20, 22, 23, 24, 26, 27, 28] SL).toArray, []⟩ u := by
  intro gB u hB hBB
  simp only [hSL, fillG, valG, dstG, List.foldl, Act.put, z1, z2, z3]
  refine wpAnyH_ready (rs := [4, 21]) (by kernel_rfl) (by simp) ?_
  refine AllReadyH.cons g4 (opA hB fun gA u2 hB2 hc hA2 => ?_) (AllReadyH.cons g21 (opC rfl rfl rfl rfl (flu_ok _ _) (respOk0 _ _) hB fun u2 hB2 hc => ?_) (AllReadyH.nil))
  ·have HS := kp hB2
   simp only [Act.put, z1, z2, z3]
   refine takeG g5 (v := ?_) hQ (Or.inl ⟨by rfl, ?_⟩) HS.out ?_
   rotate_left 1
   ·intro w hw; go_simp; try with_reducible rfl
   simp only [Act.put, z1, z2, z3]
   refine takeG g6 (v := ?_) hQ (Or.inl ⟨by rfl, ?_⟩) HS.out ?_
   rotate_left 1
   ·intro w hw; go_simp; try with_reducible rfl
   simp only [Act.put, z1, z2, z3]
   simpa only [hSL, fillG, valG, dstG, List.foldl, Act.put, z1, z2, z3] using st1100011 gA gB u2 hB2 hA2 (byt_up hBB hc)
  ·simpa only [hSL, fillG, valG, dstG, List.foldl, Act.put, z1, z2, z3] using st1110001 gB u2 hB2 (byt_up hBB hc)
 have st1111100 : ∀ (u : World), Below w0.heap.size w0 u -> wpAnyH Tryz.prog .any opsG Q (fun W => Below w0.heap.size w0 W) 8 #[true, true, true, true, false, false, false, true, true, true, true, true, true, true, true, false, false, false, true, true, true, true, true, true, true, true, true, true, true, true, false, false] ⟨(fillG (valG 0 0 0 g) [0, 1, 2, 3, 7, 8, 9, 10, 11, 12, 13, 14, 18, 19, 20, 21, 22, 23, 24, 25, 26, 27, 28, 29] SL).toArray, []⟩ u := by
  intro u hB
  simp only [hSL, fillG, valG, dstG, List.foldl, Act.put, z1, z2, z3]
  refine wpAnyH_ready (rs := [4, 15]) (by kernel_rfl) (by simp) ?_
  refine AllReadyH.cons g4 (opA hB fun gA u2 hB2 hc hA2 => ?_) (AllReadyH.cons g15 (opB hB fun gB u2 hB2 hc hBB2 => ?_) (AllReadyH.nil))
  ·have HS := kp hB2
   simp only [Act.put, z1, z2, z3]
   refine takeG g5 (v := ?_) hQ (Or.inl ⟨by rfl, ?_⟩) HS.out ?_
   rotate_left 1
   ·intro w hw; go_simp; try with_reducible rfl
   simp only [Act.put, z1, z2, z3]
   refine takeG g6 (v := ?_) hQ (Or.inl ⟨by rfl, ?_⟩) HS.out ?_
   rotate_left 1
   ·intro w hw; go_simp; try with_reducible rfl
   simp only [Act.put, z1, z2, z3]
   simpa only [hSL, fillG, valG, dstG, List.foldl, Act.put, z1, z2, z3] using st1111110 gA u2 hB2 hA2
  ·have HS := kp hB2
   simp only [Act.put, z1, z2, z3]
   refine takeG g16 (v := ?_) hQ (Or.inl ⟨by rfl, ?_⟩) HS.out ?_
   rotate_left 1
   ·intro w hw; go_simp; try with_reducible rfl
   simp only [Act.put, z1, z2, z3]
   refine takeG g17 (v := ?_) hQ (Or.inl ⟨by rfl, ?_⟩) HS.out ?_
   rotate_left 1
   ·intro w hw; go_simp; try with_reducible rfl
   simp only [Act.put, z1, z2, z3]
   simpa only [hSL, fillG, valG, dstG, List.foldl, Act.put, z1, z2, z3] using st1111101 gB u2 hB2 hBB2
 have st1000010 : ∀ (gA : Nat) (u : World), Below w0.heap.size w0 u -> Byt u u.heap.size (some ⟨gA, 0, none⟩) 4 [3, 4, 1, 97] -> wpAnyH Tryz.prog .any opsG Q (fun W => Below w0.heap.size w0 W) 9 #[true, true, true, true, true, true, true, true, true, true, true, true, true, true, false, false, false, false, true, true, true, false, true, true, true, false, true, true, true, false, false, false] ⟨(fillG (valG gA 0 0 g) [0, 1, 2, 3, 4, 5, 6, 7, 8, 9, 10, 11, 12, 13, 18, 19, 20, 22, 23, 24, 26, 27, 28] SL).toArray, []⟩ u := by
  intro gA u hB hA
  simp only [hSL, fillG, valG, dstG, List.foldl, Act.put, z1, z2, z3]
  refine wpAnyH_ready (rs := [14, 15]) (by kernel_rfl) (by simp) ?_
  refine AllReadyH.cons g14 (opC rfl rfl rfl rfl (get_ok _ _) (HMO.out _ hB) hB fun u2 hB2 hc => ?_) (AllReadyH.cons g15 (opB hB fun gB u2 hB2 hc hBB2 => ?_) (AllReadyH.nil))
  ·simpa only [hSL, fillG, valG, dstG, List.foldl, Act.put, z1, z2, z3] using st1100010 gA u2 hB2 (byt_up hA hc)
  ·have HS := kp hB2
   simp only [Act.put, z1, z2, z3]
   refine takeG g16 (v := ?_) hQ (Or.inl ⟨by rfl, ?_⟩) HS.out ?_
   rotate_left 1
   ·intro w hw; go_simp; try with_reducible rfl
   simp only [Act.put, z1, z2, z3]
   refine takeG g17 (v := ?_) hQ (Or.inl ⟨by rfl, ?_⟩) HS.out ?_
   rotate_left 1
   ·intro w hw; go_simp; try with_reducible rfl
   simp only [Act.put, z1, z2, z3]
   simpa only [hSL, fillG, valG, dstG, List.foldl, Act.put, z1, z2, z3] using st1000011 gA gB u2 hB2 (byt_up hA hc) hBB2
 have st1000001 : ∀ (gB : Nat) (u : World), Below w0.heap.size w0 u -> Byt u u.heap.size (some ⟨gB, 0, none⟩) 2 [1, 14] -> wpAnyH Tryz.prog .any opsG Q (fun W => Below w0.heap.size w0 W) 9 #[true, true, true, true, false, false, false, true, true, true, true, true, true, true, false, true, true, true, true, true, true, false, true, true, true, false, true, true, true, false, false, false] ⟨(fillG (valG 0 gB 0 g) [0, 1, 2, 3, 7, 8, 9, 10, 11, 12, 13, 15, 16, 17, 18, 19, 20, 22, 23, 24, 26, 27, 28] SL).toArray, []⟩ u := by
  intro gB u hB hBB
  simp only [hSL, fillG, valG, dstG, List.foldl, Act.put, z1, z2, z3]
  refine wpAnyH_ready (rs := [4, 14]) (by kernel_rfl) (by simp) ?_
  refine AllReadyH.cons g4 (opA hB fun gA u2 hB2 hc hA2 => ?_) (AllReadyH.cons g14 (opC rfl rfl rfl rfl (get_ok _ _) (HMO.out _ hB) hB fun u2 hB2 hc => ?_) (AllReadyH.nil))
  ·have HS := kp hB2
   simp only [Act.put, z1, z2, z3]
   refine takeG g5 (v := ?_) hQ (Or.inl ⟨by rfl, ?_⟩) HS.out ?_
   rotate_left 1
   ·intro w hw; go_simp; try with_reducible rfl
   simp only [Act.put, z1, z2, z3]
   refine takeG g6 (v := ?_) hQ (Or.inl ⟨by rfl, ?_⟩) HS.out ?_
   rotate_left 1
   ·intro w hw; go_simp; try with_reducible rfl
   simp only [Act.put, z1, z2, z3]
   simpa only [hSL, fillG, valG, dstG, List.foldl, Act.put, z1, z2, z3] using st1000011 gA gB u2 hB2 hA2 (byt_up hBB hc)
  ·simpa only [hSL, fillG, valG, dstG, List.foldl, Act.put, z1, z2, z3] using st1100001 gB u2 hB2 (byt_up hBB hc)
 have st1111000 : ∀ (u : World), Below w0.heap.size w0 u -> wpAnyH Tryz.prog .any opsG Q (fun W => Below w0.heap.size w0 W) 9 #[true, true, true, true, false, false, false, true, true, true, true, true, true, true, true, false, false, false, true, true, true, true, true, true, true, true, true, true, true, false, false, false] ⟨(fillG (valG 0 0 0 g) [0, 1, 2, 3, 7, 8, 9, 10, 11, 12, 13, 14, 18, 19, 20, 21, 22, 23, 24, 25, 26, 27, 28] SL).toArray, []⟩ u := by
  intro u hB
  simp only [hSL, fillG, valG, dstG, List.foldl, Act.put, z1, z2, z3]
  refine wpAnyH_ready (rs := [4, 15, 29]) (by kernel_rfl) (by simp) ?_
  refine AllReadyH.cons g4 (opA hB fun gA u2 hB2 hc hA2 => ?_) (AllReadyH.cons g15 (opB hB fun gB u2 hB2 hc hBB2 => ?_) (AllReadyH.cons g29 (opC rfl rfl rfl rfl (flu_ok _ _) (don_ok _ _) hB fun u2 hB2 hc => ?_) (AllReadyH.nil)))
  ·have HS := kp hB2
   simp only [Act.put, z1, z2, z3]
   refine takeG g5 (v := ?_) hQ (Or.inl ⟨by rfl, ?_⟩) HS.out ?_
   rotate_left 1
   ·intro w hw; go_simp; try with_reducible rfl
   simp only [Act.put, z1, z2, z3]
   refine takeG g6 (v := ?_) hQ (Or.inl ⟨by rfl, ?_⟩) HS.out ?_
   rotate_left 1
   ·intro w hw; go_simp; try with_reducible rfl
   simp only [Act.put, z1, z2, z3]
   simpa only [hSL, fillG, valG, dstG, List.foldl, Act.put, z1, z2, z3] using st1111010 gA u2 hB2 hA2
  ·have HS := kp hB2
   simp only [Act.put, z1, z2, z3]
   refine takeG g16 (v := ?_) hQ (Or.inl ⟨by rfl, ?_⟩) HS.out ?_
   rotate_left 1
   ·intro w hw; go_simp; try with_reducible rfl
   simp only [Act.put, z1, z2, z3]
   refine takeG g17 (v := ?_) hQ (Or.inl ⟨by rfl, ?_⟩) HS.out ?_
   rotate_left 1
   ·intro w hw; go_simp; try with_reducible rfl
   simp only [Act.put, z1, z2, z3]
   simpa only [hSL, fillG, valG, dstG, List.foldl, Act.put, z1, z2, z3] using st1111001 gB u2 hB2 hBB2
  ·simpa only [hSL, fillG, valG, dstG, List.foldl, Act.put, z1, z2, z3] using st1111100 u2 hB2
 have st0000010 : ∀ (gA : Nat) (u : World), Below w0.heap.size w0 u -> Byt u u.heap.size (some ⟨gA, 0, none⟩) 4 [3, 4, 1, 97] -> wpAnyH Tryz.prog .any opsG Q (fun W => Below w0.heap.size w0 W) 10 #[true, true, true, true, true, true, true, true, true, true, false, true, true, true, false, false, false, false, true, true, true, false, true, true, true, false, true, true, true, false, false, false] ⟨(fillG (valG gA 0 0 g) [0, 1, 2, 3, 4, 5, 6, 7, 8, 9, 11, 12, 13, 18, 19, 20, 22, 23, 24, 26, 27, 28] SL).toArray, []⟩ u := by
  intro gA u hB hA
  simp only [hSL, fillG, valG, dstG, List.foldl, Act.put, z1, z2, z3]
  refine wpAnyH_ready (rs := [10, 15]) (by kernel_rfl) (by simp) ?_
  refine AllReadyH.cons g10 (opC rfl rfl rfl rfl (get_ok _ _) (respOk0 _ _) hB fun u2 hB2 hc => ?_) (AllReadyH.cons g15 (opB hB fun gB u2 hB2 hc hBB2 => ?_) (AllReadyH.nil))
  ·simpa only [hSL, fillG, valG, dstG, List.foldl, Act.put, z1, z2, z3] using st1000010 gA u2 hB2 (byt_up hA hc)
  ·have HS := kp hB2
   simp only [Act.put, z1, z2, z3]
   refine takeG g16 (v := ?_) hQ (Or.inl ⟨by rfl, ?_⟩) HS.out ?_
   rotate_left 1
   ·intro w hw; go_simp; try with_reducible rfl
   simp only [Act.put, z1, z2, z3]
   refine takeG g17 (v := ?_) hQ (Or.inl ⟨by rfl, ?_⟩) HS.out ?_
   rotate_left 1
   ·intro w hw; go_simp; try with_reducible rfl
   simp only [Act.put, z1, z2, z3]
   simpa only [hSL, fillG, valG, dstG, List.foldl, Act.put, z1, z2, z3] using st0000011 gA gB u2 hB2 (byt_up hA hc) hBB2
 have st0000001 : ∀ (gB : Nat) (u : World), Below w0.heap.size w0 u -> Byt u u.heap.size (some ⟨gB, 0, none⟩) 2 [1, 14] -> wpAnyH Tryz.prog .any opsG Q (fun W => Below w0.heap.size w0 W) 10 #[true, true, true, true, false, false, false, true, true, true, false, true, true, true, false, true, true, true, true, true, true, false, true, true, true, false, true, true, true, false, false, false] ⟨(fillG (valG 0 gB 0 g) [0, 1, 2, 3, 7, 8, 9, 11, 12, 13, 15, 16, 17, 18, 19, 20, 22, 23, 24, 26, 27, 28] SL).toArray, []⟩ u := by
  intro gB u hB hBB
  simp only [hSL, fillG, valG, dstG, List.foldl, Act.put, z1, z2, z3]
  refine wpAnyH_ready (rs := [4, 10]) (by kernel_rfl) (by simp) ?_
  refine AllReadyH.cons g4 (opA hB fun gA u2 hB2 hc hA2 => ?_) (AllReadyH.cons g10 (opC rfl rfl rfl rfl (get_ok _ _) (respOk0 _ _) hB fun u2 hB2 hc => ?_) (AllReadyH.nil))
  ·have HS := kp hB2
   simp only [Act.put, z1, z2, z3]
   refine takeG g5 (v := ?_) hQ (Or.inl ⟨by rfl, ?_⟩) HS.out ?_
   rotate_left 1
   ·intro w hw; go_simp; try with_reducible rfl
   simp only [Act.put, z1, z2, z3]
   refine takeG g6 (v := ?_) hQ (Or.inl ⟨by rfl, ?_⟩) HS.out ?_
   rotate_left 1
   ·intro w hw; go_simp; try with_reducible rfl
   simp only [Act.put, z1, z2, z3]
   simpa only [hSL, fillG, valG, dstG, List.foldl, Act.put, z1, z2, z3] using st0000011 gA gB u2 hB2 hA2 (byt_up hBB hc)
  ·simpa only [hSL, fillG, valG, dstG, List.foldl, Act.put, z1, z2, z3] using st1000001 gB u2 hB2 (byt_up hBB hc)
 have st1110000 : ∀ (u : World), Below w0.heap.size w0 u -> wpAnyH Tryz.prog .any opsG Q (fun W => Below w0.heap.size w0 W) 10 #[true, true, true, true, false, false, false, true, true, true, true, true, true, true, true, false, false, false, true, true, true, true, true, true, true, false, true, true, true, false, false, false] ⟨(fillG (valG 0 0 0 g) [0, 1, 2, 3, 7, 8, 9, 10, 11, 12, 13, 14, 18, 19, 20, 21, 22, 23, 24, 26, 27, 28] SL).toArray, []⟩ u := by
  intro u hB
  simp only [hSL, fillG, valG, dstG, List.foldl, Act.put, z1, z2, z3]
  refine wpAnyH_ready (rs := [4, 15, 25]) (by kernel_rfl) (by simp) ?_
  refine AllReadyH.cons g4 (opA hB fun gA u2 hB2 hc hA2 => ?_) (AllReadyH.cons g15 (opB hB fun gB u2 hB2 hc hBB2 => ?_) (AllReadyH.cons g25 (opC rfl rfl rfl rfl (cmdOk0 _ _) (HMO.out _ hB) hB fun u2 hB2 hc => ?_) (AllReadyH.nil)))
  ·have HS := kp hB2
   simp only [Act.put, z1, z2, z3]
   refine takeG g5 (v := ?_) hQ (Or.inl ⟨by rfl, ?_⟩) HS.out ?_
   rotate_left 1
   ·intro w hw; go_simp; try with_reducible rfl
   simp only [Act.put, z1, z2, z3]
   refine takeG g6 (v := ?_) hQ (Or.inl ⟨by rfl, ?_⟩) HS.out ?_
   rotate_left 1
   ·intro w hw; go_simp; try with_reducible rfl
   simp only [Act.put, z1, z2, z3]
   simpa only [hSL, fillG, valG, dstG, List.foldl, Act.put, z1, z2, z3] using st1110010 gA u2 hB2 hA2
  ·have HS := kp hB2
   simp only [Act.put, z1, z2, z3]
   refine takeG g16 (v := ?_) hQ (Or.inl ⟨by rfl, ?_⟩) HS.out ?_
   rotate_left 1
   ·intro w hw; go_simp; try with_reducible rfl
   simp only [Act.put, z1, z2, z3]
   refine takeG g17 (v := ?_) hQ (Or.inl ⟨by rfl, ?_⟩) HS.out ?_
   rotate_left 1
   ·intro w hw; go_simp; try with_reducible rfl
   simp only [Act.put, z1, z2, z3]
   simpa only [hSL, fillG, valG, dstG, List.foldl, Act.put, z1, z2, z3] using st1110001 gB u2 hB2 hBB2
  ·simpa only [hSL, fillG, valG, dstG, List.foldl, Act.put, z1, z2, z3] using st1111000 u2 hB2
 have st1100000 : ∀ (u : World), Below w0.heap.size w0 u -> wpAnyH Tryz.prog .any opsG Q (fun W => Below w0.heap.size w0 W) 11 #[true, true, true, true, false, false, false, true, true, true, true, true, true, true, true, false, false, false, true, true, true, false, true, true, true, false, true, true, true, false, false, false] ⟨(fillG (valG 0 0 0 g) [0, 1, 2, 3, 7, 8, 9, 10, 11, 12, 13, 14, 18, 19, 20, 22, 23, 24, 26, 27, 28] SL).toArray, []⟩ u := by
  intro u hB
  simp only [hSL, fillG, valG, dstG, List.foldl, Act.put, z1, z2, z3]
  refine wpAnyH_ready (rs := [4, 15, 21]) (by kernel_rfl) (by simp) ?_
  refine AllReadyH.cons g4 (opA hB fun gA u2 hB2 hc hA2 => ?_) (AllReadyH.cons g15 (opB hB fun gB u2 hB2 hc hBB2 => ?_) (AllReadyH.cons g21 (opC rfl rfl rfl rfl (flu_ok _ _) (respOk0 _ _) hB fun u2 hB2 hc => ?_) (AllReadyH.nil)))
  ·have HS := kp hB2
   simp only [Act.put, z1, z2, z3]
   refine takeG g5 (v := ?_) hQ (Or.inl ⟨by rfl, ?_⟩) HS.out ?_
   rotate_left 1
   ·intro w hw; go_simp; try with_reducible rfl
   simp only [Act.put, z1, z2, z3]
   refine takeG g6 (v := ?_) hQ (Or.inl ⟨by rfl, ?_⟩) HS.out ?_
   rotate_left 1
   ·intro w hw; go_simp; try with_reducible rfl
   simp only [Act.put, z1, z2, z3]
   simpa only [hSL, fillG, valG, dstG, List.foldl, Act.put, z1, z2, z3] using st1100010 gA u2 hB2 hA2
  ·have HS := kp hB2
   simp only [Act.put, z1, z2, z3]
   refine takeG g16 (v := ?_) hQ (Or.inl ⟨by rfl, ?_⟩) HS.out ?_
   rotate_left 1
   ·intro w hw; go_simp; try with_reducible rfl
   simp only [Act.put, z1, z2, z3]
   refine takeG g17 (v := ?_) hQ (Or.inl ⟨by rfl, ?_⟩) HS.out ?_
   rotate_left 1
   ·intro w hw; go_simp; try with_reducible rfl
   simp only [Act.put, z1, z2, z3]
   simpa only [hSL, fillG, valG, dstG, List.foldl, Act.put, z1, z2, z3] using st1100001 gB u2 hB2 hBB2
  ·simpa only [hSL, fillG, valG, dstG, List.foldl, Act.put, z1, z2, z3] using st1110000 u2 hB2
 have st1000000 : ∀ (u : World), Below w0.heap.size w0 u -> wpAnyH Tryz.prog .any opsG Q (fun W => Below w0.heap.size w0 W) 12 #[true, true, true, true, false, false, false, true, true, true, true, true, true, true, false, false, false, false, true, true, true, false, true, true, true, false, true, true, true, false, false, false] ⟨(fillG (valG 0 0 0 g) [0, 1, 2, 3, 7, 8, 9, 10, 11, 12, 13, 18, 19, 20, 22, 23, 24, 26, 27, 28] SL).toArray, []⟩ u := by
  intro u hB
  simp only [hSL, fillG, valG, dstG, List.foldl, Act.put, z1, z2, z3]
  refine wpAnyH_ready (rs := [4, 14, 15]) (by kernel_rfl) (by simp) ?_
  refine AllReadyH.cons g4 (opA hB fun gA u2 hB2 hc hA2 => ?_) (AllReadyH.cons g14 (opC rfl rfl rfl rfl (get_ok _ _) (HMO.out _ hB) hB fun u2 hB2 hc => ?_) (AllReadyH.cons g15 (opB hB fun gB u2 hB2 hc hBB2 => ?_) (AllReadyH.nil)))
  ·have HS := kp hB2
   simp only [Act.put, z1, z2, z3]
   refine takeG g5 (v := ?_) hQ (Or.inl ⟨by rfl, ?_⟩) HS.out ?_
   rotate_left 1
   ·intro w hw; go_simp; try with_reducible rfl
   simp only [Act.put, z1, z2, z3]
   refine takeG g6 (v := ?_) hQ (Or.inl ⟨by rfl, ?_⟩) HS.out ?_
   rotate_left 1
   ·intro w hw; go_simp; try with_reducible rfl
   simp only [Act.put, z1, z2, z3]
   simpa only [hSL, fillG, valG, dstG, List.foldl, Act.put, z1, z2, z3] using st1000010 gA u2 hB2 hA2
  ·simpa only [hSL, fillG, valG, dstG, List.foldl, Act.put, z1, z2, z3] using st1100000 u2 hB2
  ·have HS := kp hB2
   simp only [Act.put, z1, z2, z3]
   refine takeG g16 (v := ?_) hQ (Or.inl ⟨by rfl, ?_⟩) HS.out ?_
   rotate_left 1
   ·intro w hw; go_simp; try with_reducible rfl
   simp only [Act.put, z1, z2, z3]
   refine takeG g17 (v := ?_) hQ (Or.inl ⟨by rfl, ?_⟩) HS.out ?_
   rotate_left 1
   ·intro w hw; go_simp; try with_reducible rfl
   simp only [Act.put, z1, z2, z3]
   simpa only [hSL, fillG, valG, dstG, List.foldl, Act.put, z1, z2, z3] using st1000001 gB u2 hB2 hBB2
 have st0000000 : ∀ (u : World), Below w0.heap.size w0 u -> wpAnyH Tryz.prog .any opsG Q (fun W => Below w0.heap.size w0 W) 13 #[true, true, true, true, false, false, false, true, true, true, false, true, true, true, false, false, false, false, true, true, true, false, true, true, true, false, true, true, true, false, false, false] ⟨(fillG (valG 0 0 0 g) [0, 1, 2, 3, 7, 8, 9, 11, 12, 13, 18, 19, 20, 22, 23, 24, 26, 27, 28] SL).toArray, []⟩ u := by
  intro u hB
  simp only [hSL, fillG, valG, dstG, List.foldl, Act.put, z1, z2, z3]
  refine wpAnyH_ready (rs := [4, 10, 15]) (by kernel_rfl) (by simp) ?_
  refine AllReadyH.cons g4 (opA hB fun gA u2 hB2 hc hA2 => ?_) (AllReadyH.cons g10 (opC rfl rfl rfl rfl (get_ok _ _) (respOk0 _ _) hB fun u2 hB2 hc => ?_) (AllReadyH.cons g15 (opB hB fun gB u2 hB2 hc hBB2 => ?_) (AllReadyH.nil)))
  ·have HS := kp hB2
   simp only [Act.put, z1, z2, z3]
   refine takeG g5 (v := ?_) hQ (Or.inl ⟨by rfl, ?_⟩) HS.out ?_
   rotate_left 1
   ·intro w hw; go_simp; try with_reducible rfl
   simp only [Act.put, z1, z2, z3]
   refine takeG g6 (v := ?_) hQ (Or.inl ⟨by rfl, ?_⟩) HS.out ?_
   rotate_left 1
   ·intro w hw; go_simp; try with_reducible rfl
   simp only [Act.put, z1, z2, z3]
   simpa only [hSL, fillG, valG, dstG, List.foldl, Act.put, z1, z2, z3] using st0000010 gA u2 hB2 hA2
  ·simpa only [hSL, fillG, valG, dstG, List.foldl, Act.put, z1, z2, z3] using st1000000 u2 hB2
  ·have HS := kp hB2
   simp only [Act.put, z1, z2, z3]
   refine takeG g16 (v := ?_) hQ (Or.inl ⟨by rfl, ?_⟩) HS.out ?_
   rotate_left 1
   ·intro w hw; go_simp; try with_reducible rfl
   simp only [Act.put, z1, z2, z3]
   refine takeG g17 (v := ?_) hQ (Or.inl ⟨by rfl, ?_⟩) HS.out ?_
   rotate_left 1
   ·intro w hw; go_simp; try with_reducible rfl
   simp only [Act.put, z1, z2, z3]
   simpa only [hSL, fillG, valG, dstG, List.foldl, Act.put, z1, z2, z3] using st0000001 gB u2 hB2 hBB2
 refine wp_region_held_drew (S := fun W => Below w0.heap.size w0 W) (by kernel_rfl) (below_drewn (Below.refl _ _)) (fun hS => ?_)
 have HS := kp hS
 refine takeG g0 (v := ?_) hQ (Or.inl ⟨by rfl, ?_⟩) HS.out ?_
 rotate_left 1
 ·intro w hw; go_simp; try with_reducible rfl
 simp only [Act.put, z1, z2, z3]
 refine takeG g1 (v := ?_) hQ (Or.inl ⟨by rfl, ?_⟩) HS.out ?_
 rotate_left 1
 ·intro w hw; go_simp; try with_reducible rfl
 simp only [Act.put, z1, z2, z3]
 refine takeG g2 (v := ?_) hQ (Or.inl ⟨by rfl, ?_⟩) HS.out ?_
 rotate_left 1
 ·intro w hw; go_simp; try with_reducible rfl
 simp only [Act.put, z1, z2, z3]
 refine takeG g3 (v := ?_) hQ (Or.inl ⟨by rfl, ?_⟩) HS.out ?_
 rotate_left 1
 ·intro w hw; go_simp; try with_reducible rfl
 simp only [Act.put, z1, z2, z3]
 refine takeG g7 (v := ?_) hQ (Or.inl ⟨by rfl, ?_⟩) HS.out ?_
 rotate_left 1
 ·intro w hw; go_simp; try with_reducible rfl
 simp only [Act.put, z1, z2, z3]
 refine takeG g8 (v := .agg getL.toArray) hQ (yields_aggL rfl 36 _ rfl ⟨h0, 0, none⟩ rfl getL _ (fun W hW => (HG.out W hW).cells) Tryz.underlying36 (cmd_sizeL _ _ _ _ _ _ _ _ _ _)) HS.out ?_
 simp only [Act.put, z1, z2, z3]
 refine takeG g9 (v := ?_) hQ (Or.inl ⟨by rfl, ?_⟩) HS.out ?_
 rotate_left 1
 ·intro w hw; go_simp; try with_reducible rfl
 simp only [Act.put, z1, z2, z3]
 refine takeG g11 (v := ?_) hQ (Or.inl ⟨by rfl, ?_⟩) HS.out ?_
 rotate_left 1
 ·intro w hw; go_simp; try with_reducible rfl
 simp only [Act.put, z1, z2, z3]
 refine takeG g12 (v := .agg getL.toArray) hQ (yields_aggL rfl 36 _ rfl ⟨h0, 0, none⟩ rfl getL _ (fun W hW => (HG.out W hW).cells) Tryz.underlying36 (cmd_sizeL _ _ _ _ _ _ _ _ _ _)) HS.out ?_
 simp only [Act.put, z1, z2, z3]
 refine takeG g13 (v := .agg (misL g).toArray) hQ (yields_aggL rfl 40 _ rfl ⟨g + 1, 0, none⟩ rfl (misL g) _ (fun W hW => (HMR.out W hW).cells) Tryz.underlying40 (resp_sizeL _ _ _ _ _ _)) HS.out ?_
 simp only [Act.put, z1, z2, z3]
 refine takeG g18 (v := ?_) hQ (Or.inl ⟨by rfl, ?_⟩) HS.out ?_
 rotate_left 1
 ·intro w hw; go_simp; try with_reducible rfl
 simp only [Act.put, z1, z2, z3]
 refine takeG g19 (v := .agg fluL.toArray) hQ (yields_aggL rfl 36 _ rfl ⟨h0 + 1, 0, none⟩ rfl fluL _ (fun W hW => (HF.out W hW).cells) Tryz.underlying36 (cmd_sizeL _ _ _ _ _ _ _ _ _ _)) HS.out ?_
 simp only [Act.put, z1, z2, z3]
 refine takeG g20 (v := ?_) hQ (Or.inl ⟨by rfl, ?_⟩) HS.out ?_
 rotate_left 1
 ·intro w hw; go_simp; try with_reducible rfl
 simp only [Act.put, z1, z2, z3]
 refine takeG g22 (v := ?_) hQ (Or.inl ⟨by rfl, ?_⟩) HS.out ?_
 rotate_left 1
 ·intro w hw; go_simp; try with_reducible rfl
 simp only [Act.put, z1, z2, z3]
 refine takeG g23 (v := ?_) hQ (Or.inl ⟨by rfl, ?_⟩) HS.out ?_
 rotate_left 1
 ·intro w hw; go_simp; try with_reducible rfl
 simp only [Act.put, z1, z2, z3]
 refine takeG g24 (v := .agg (misL g).toArray) hQ (yields_aggL rfl 40 _ rfl ⟨g + 1, 0, none⟩ rfl (misL g) _ (fun W hW => (HMR.out W hW).cells) Tryz.underlying40 (resp_sizeL _ _ _ _ _ _)) HS.out ?_
 simp only [Act.put, z1, z2, z3]
 refine takeG g26 (v := ?_) hQ (Or.inl ⟨by rfl, ?_⟩) HS.out ?_
 rotate_left 1
 ·intro w hw; go_simp; try with_reducible rfl
 simp only [Act.put, z1, z2, z3]
 refine takeG g27 (v := .agg fluL.toArray) hQ (yields_aggL rfl 36 _ rfl ⟨h0 + 1, 0, none⟩ rfl fluL _ (fun W hW => (HF.out W hW).cells) Tryz.underlying36 (cmd_sizeL _ _ _ _ _ _ _ _ _ _)) HS.out ?_
 simp only [Act.put, z1, z2, z3]
 refine takeG g28 (v := .agg donL.toArray) hQ (yields_aggL rfl 40 _ rfl ⟨g + 1 + 1, 0, none⟩ rfl donL _ (fun W hW => (HDR.out W hW).cells) Tryz.underlying40 (resp_sizeL _ _ _ _ _ _)) HS.out ?_
 simp only [Act.put, z1, z2, z3]
 have z := st0000000 _ HS.out
 simp only [hSL, fillG, valG, dstG, List.foldl, Act.put, z1, z2, z3] at z
 exact z
end Go.Proofs.YtnjhpgmbfblgaaaGreat.Ord
