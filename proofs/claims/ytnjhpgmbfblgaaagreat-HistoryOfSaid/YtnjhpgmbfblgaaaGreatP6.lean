/- Walk of the law's known. -/
import Derived.Test.YtnjhpgmbfblgaaaGreatMP5
namespace Go.Proofs.YtnjhpgmbfblgaaaGreat.Ord
set_option maxRecDepth 100000
set_option maxHeartbeats 16000000
open Go.RowKit
set_option linter.unusedVariables false
set_option linter.unusedSimpArgs false
section
variable {P : Program}
theorem qk_load_agg_want {ops : Array Oper} {C : World -> Prop} {Q : Act -> Prop} {a : Act} {o : Oper} {rest : List Oper} (ty : TypeId) (x : Operand) (ho : o.op = .load ty x)
  (ad : Addr) (hx : a.eval x = .pointer (some ad)) (cs : List Value) (d : TypeDesc) (hc : ∀ W, C W -> CellsAt W ad cs)
  (hu : P.underlying ty = some d) (hd : (match d with | .struct _ | .array _ _ => true | _ => false) = true) (hi : (P.info? ty).map (·.size) = some cs.length)
  (hw : Region.wanted o (yielded ops a.tmps) = true)
  (h : wpQuiet P ops C Q rest (a.put o.dst (.agg cs.toArray))) : wpQuiet P ops C Q (o :: rest) a := by
 refine wpQuiet_step fun K hK => ?_
 rw [if_pos hw]
 refine ⟨.agg cs.toArray, fun W hW => ?_, hK _ h⟩
 unfold Oper.quietAt execOp
 simp only [ho, hx, Instr.loadAt, Instr.sureAddr, Sem.run_bind, Sem.run_pure, Result.andThen_ok, run_loadVar_at W ad ty cs d (hc W hW) hu hd hi]
 exact ⟨rfl, rfl⟩
end
theorem CalsAt_of_row {w : World} {B : Nat} {A : Option Addr} {L : List (CallR × CallV)} (h : RowCO w B A L) : CalsAt w B A (L.map (·.1)) := fun i c hi => by
 rw [List.getElem?_map] at hi
 obtain ⟨x, hx, rfl⟩ := Option.map_eq_some_iff.1 hi
 obtain ⟨b, off, h1, h2, h3, h4⟩ := h i x hx
 exact ⟨b, off, x.2, h1, h2, h3, h4⟩
theorem row_up {w w' : World} {A : Option Addr} {L : List (CallR × CallV)} (h : RowCO w w.heap.size A L) (hb : Below w.heap.size w w') : RowCO w' w'.heap.size A L := fun i x hi => by
 obtain ⟨b, off, h1, h2, h3, h4⟩ := h i x hi
 exact ⟨b, off, h1, Nat.lt_of_lt_of_le h2 hb.size, h3.below hb h2, (h4.below hb (Nat.le_refl _)).mono hb.size⟩
section
variable {P : Program}
theorem step_call_want {w : World} {ops : Array Oper} {o : Oper} {a : Act} {K : Act -> World -> Prop} {Q : Exit -> Act -> World -> Prop} {E : Prop} (hw : Region.wanted o (yielded ops a.tmps) = true) (N : Nat) (xs : Array Operand) (ts : Array TypeId)
  (ho : o.op = .call { callee := .value (.func N), args := xs, argTypes := ts }) (vs : Array Value) (hx : xs.map a.eval = vs)
  (fn : Func) (hfn : P.funcs[N]? = some fn) (hname : (fn.name == "runtime.NumGoroutine") = false) (hbody : fn.body.isSome = true)
  (R : Value -> World -> Prop) (hc : Calls P N vs w fun e w' => ∃ u, e = .returned u /\ R u w')
  (h : ∀ u w', R u w' -> K (a.put o.dst u) w') :
  if Region.wanted o (yielded ops a.tmps) = true then Oper.wp P o a w K Q else E := by
 rw [if_pos hw]
 unfold Oper.wp
 have hf : a.eval (.func N) = .func (.func N) #[] #[] := rfl
 have h1 : fn.name ≠ "runtime.NumGoroutine" := by simpa using hname
 have h2 : fn.body ≠ none := by intro h3; simp [h3] at hbody
 have h3 : (callFunc N vs).run P w = .ok (.enter N vs) w := by simp [callFunc, hfn, h1, h2]
 simp [execOp, ho, resolve, invoke, hx, hf, Deferred.ofValue, h3]
 refine hc.mono ?_
 rintro e w' ⟨u, rfl, hR⟩
 exact h u w' hR
theorem step_rows_want {w : World} {ops : Array Oper} {o : Oper} {a : Act} {K : Act -> World -> Prop} {Q : Exit -> Act -> World -> Prop} {E : Prop} (hw : Region.wanted o (yielded ops a.tmps) = true) (t e : TypeId) (len : Nat) (parts : Array (Nat × Operand)) (ho : o.op = .buildSlice t len parts)
  (z : Value) (size bytes : Nat) (ht : P.underlying t = some (.slice e)) (hinfo : (P.info? e).map (fun i => (i.zero, i.size, i.bytes)) = some (some z, size, bytes))
  (Ls : List (List Value)) (hl : (parts.map fun (i, x) => (i, a.eval x)).toList = rowsI 0 Ls) (hLs : ∀ L ∈ Ls, L.length = size) (hlen : Ls.length = len)
  (hsm : len * size <= 2 ^ 24) (hp : 0 < len * size) (hm : len <= maxLen)
  (h : ∀ w', w'.ownsRow w.heap.size e size (.slice (some ⟨w.heap.size, 0, none⟩) len len) len Ls.flatten -> RowKit.Below w.heap.size w w' -> K (a.put o.dst (.slice (some ⟨w.heap.size, 0, none⟩) len len)) w') :
  if Region.wanted o (yielded ops a.tmps) = true then Oper.wp P o a w K Q else E := by
 have h0 := step_rows (w := w) (ops := ops) (o := { o with guard := none }) (a := a) (K := K) (Q := Q) (E := E) rfl t e len parts ho z size bytes ht hinfo Ls hl hLs hlen hsm hp hm h
 rw [if_pos (by simp [Region.wanted])] at h0
 rw [if_pos hw]
 exact h0
end
def twiceL (g : Nat) : List (CallR × CallV) := [(want0, ⟨nilV, nilV, nilV, misV g, nilV⟩), (want0, ⟨nilV, nilV, nilV, misV g, nilV⟩)]
theorem callS_twice (g : Nat) : ∀ x ∈ twiceL g, CallS x.1 := by
 intro x hx
 simp only [twiceL, List.mem_cons, List.not_mem_nil, or_false] at hx
 rcases hx with rfl | rfl
 ·exact ⟨cmdS_get, respS_mis⟩
 ·exact ⟨cmdS_get, respS_mis⟩
theorem own_nil (w : World) (base : Nat) (e : TypeId) (size : Nat) : w.ownsRow base e size (.slice none 0 0) 0 [] := by
 unfold World.ownsRow
 exact ⟨by simp, .inl ⟨rfl, rfl⟩⟩
theorem flat_cells {w : World} {b off : Nat} {L : List (DidR × DidV)} (h : ∀ i x, L[i]? = some x -> CellsAt w ⟨b, off + i * 25, none⟩ (didC x.1 x.2)) : CellsAt w ⟨b, off, none⟩ (L.flatMap fun x => didC x.1 x.2) := by
 induction L generalizing off with
 | nil => intro j v hj; simp at hj
 | cons y L ih =>
  intro j v hj
  rw [List.flatMap_cons] at hj
  by_cases hl : j < 25
  ·rw [List.getElem?_append_left (by rw [did_len]; exact hl)] at hj
   have := h 0 y rfl j v hj
   simpa using this
  ·rw [List.getElem?_append_right (by rw [did_len]; omega), did_len] at hj
   have h2 := ih (off := off + 25) (fun i x hi => by
    have := h (i + 1) x (by simpa using hi)
    rw [show off + 25 + i * 25 = off + (i + 1) * 25 by omega]
    exact this) (j - 25) v hj
   rw [Addr.add_mid] at h2 ⊢
   rw [show off + j = off + 25 + (j - 25) by omega]
   exact h2
theorem flat_oneD {w : World} {B : Nat} {L : List (DidR × DidV)} (h : ∀ x ∈ L, DidOk w B x.1 x.2) : ∀ u ∈ (L.flatMap fun x => didC x.1 x.2), u.oneCell' = true := by
 intro u hu
 obtain ⟨x, hx, hu2⟩ := List.mem_flatMap.1 hu
 have h1 := did_one x.1 x.2 w B (h x hx)
 rw [Array.all_eq_true_iff_forall_mem] at h1
 exact h1 u (by simpa using hu2)
theorem flat_lenD (L : List (DidR × DidV)) : (L.flatMap fun x => didC x.1 x.2).length = L.length * 25 := by
 induction L with
 | nil => rfl
 | cons y L ih => rw [List.flatMap_cons, List.length_append, did_len, ih, List.length_cons]; omega
theorem same_want : callsEq wantG wantG = true := by decide +kernel
theorem resp_mis : respEq misR misR = true := by decide +kernel
theorem f25_name : (Tryz.f25.name == "runtime.NumGoroutine") = false := by decide
theorem f25_body : Tryz.f25.body.isSome = true := rfl
theorem f17_name : (Tryz.f17.name == "runtime.NumGoroutine") = false := by decide
theorem f17_body : Tryz.f17.body.isSome = true := rfl
theorem known15 (w : World) : Calls Tryz.prog 15 #[] w fun e w' => e = .returned (.bool true) /\ Below w.heap.size w w' := by
 go_enter Tryz.func15, Tryz.ntmps15
 go_wp2_with fail
 refine (given54 w).mono ?_
 rintro e w1 ⟨A, A', g, rfl, hd, hw, hb1⟩
 obtain ⟨ba, oa, _, rfl, _⟩ := hd 0 _ rfl
 have HD := kp hd
 have HW := kp hw
 have HB1 := kp hb1
 clear hd hw hb1
 go_wp2_with fail
 refine (of8 didsG (some ⟨ba, oa, none⟩) 9 9 w1 rfl (by unfold maxLen; omega) HD.out small_dids).mono ?_
 rintro e w2 hp
 unfold OfPost at hp
 rw [of_given] at hp
 obtain ⟨A2, c2, rfl, hc2, hb2⟩ := hp
 have HC2 := kp hc2
 have HB2 := kp hb2
 have HW2 := kp (HW.out.below hb2 (Nat.le_refl _))
 have HW2' := kp (show RowCO w2 w2.heap.size A' (wantL g) from fun i x hi => by obtain ⟨b, off, h1, h2, h3, h4⟩ := HW2.out i x hi; exact ⟨b, off, h1, Nat.lt_of_lt_of_le h2 hb2.size, h3, h4.mono hb2.size⟩)
 clear hc2 hb2
 have hl2 : wantG.length = 2 := rfl
 rw [hl2]
 go_wp2_with fail
 refine (outputs21 (wantL g) A' 2 2 w2 rfl (by unfold maxLen; omega) HW2'.out (callS_want g) (small_want g)).mono ?_
 rintro e w3 ⟨hb3, hp⟩
 rw [wantL_map] at hp
 rcases hp with ⟨hn, _⟩ | ⟨_, A3, c3, rfl, hout⟩
 ·exact absurd valid_want hn
 rw [outs_want] at hout
 have HB3 := kp hb3
 have HO := kp hout
 clear hb3 hout
 have hl3 : (outsOf wantG).length = 2 := by rw [outs_want]; rfl
 rw [hl3]
 go_upto_region 4 with (fail)
 have hb13 := HB2.out.trans (HB3.out.mono HB2.out.size)
 have HW3 := kp (show RowCO w3 w3.heap.size A' (wantL g) from fun i x hi => by obtain ⟨b, off, h1, h2, h3, h4⟩ := HW2'.out i x hi; exact ⟨b, off, h1, Nat.lt_of_lt_of_le h2 HB3.out.size, h3.below HB3.out h2, (h4.below HB3.out (Nat.le_refl _)).mono HB3.out.size⟩)
 have HD3 := kp ((HD.out.below hb13 (Nat.le_refl _)).mono' hb13.size)
 have HC3 := kp ((HC2.out.below HB3.out (Nat.le_refl _)).mono HB3.out.size)
 have HB13 := kp (HB1.out.trans (hb13.mono HB1.out.size))
 clear hb13
 obtain ⟨b, off, A4, c4, rfl, hb, hc0, hr0⟩ := HO.out 0 [misR] rfl
 obtain ⟨b', off', A6, c6, he, _, hc1, _⟩ := HO.out 1 [] rfl
 obtain ⟨rfl, rfl⟩ : b = b' /\ off = off' := by simpa using he
 clear he
 obtain ⟨b5, off5, vi, vn, rfl, hb5, hcr, hrok⟩ := hr0 0 misR rfl
 obtain ⟨bw, ow, rfl, hbw, hcw, hokw⟩ := HW3.out 0 _ rfl
 have hcw2 := call_resp hcw
 have hsr1 : (Tryz.prog.info? 40).map (·.size) = some (respC misR vi vn).length := resp_sizeL _ _ _ _ _ _
 have hsr2 : (Tryz.prog.info? 40).map (·.size) = some (respC misR (misV g) nilV).length := resp_sizeL _ _ _ _ _ _
 have H19 := kp (fun (W : World) (hW : Below w3.heap.size w3 W) => same10 A2 (some ⟨bw, ow, none⟩) 2 2 c2 2 wantG wantG W rfl rfl (by unfold maxLen; omega) (by unfold maxLen; omega) ((HC3.out.below hW (Nat.le_refl _)).mono hW.size) ((CalsAt_of_row HW3.out).below hW (Nat.le_refl _) |>.mono hW.size))
 rw [same_want] at H19
 have H24 := kp (fun (W : World) (hW : Below w3.heap.size w3 W) => resp45 misR misR vi vn (misV g) nilV W ((hrok.below hW (Nat.le_refl _)).mono hW.size) ((hokw.2.below hW (Nat.le_refl _)).mono hW.size))
 rw [resp_mis] at H24
 have Q0 := kp (cell_kept Tryz.isAgg57 (show w3.cell? ⟨b, off, none⟩ = some (.slice (some ⟨b5, off5, none⟩) 1 c4) from hc0))
 have Q1 := kp (cell_kept Tryz.isAgg57 (show w3.cell? ⟨b, off + 1, none⟩ = some (.slice A6 0 c6) from hc1))
 have HSR1 := kp hsr1
 have HSR2 := kp hsr2
 have HCR := kp (show CellsAt w3 ⟨b5, off5, none⟩ (respC misR vi vn) by simpa using hcr).regrown
 have HCW := kp (show CellsAt w3 ⟨bw, ow + 13, none⟩ (respC misR (misV g) nilV) by simpa using hcw2).regrown
 clear hb hc0 hr0 hc1 hb5 hcr hrok hbw hcw hokw hcw2 hsr1 hsr2
 generalize respC misR vi vn = l1 at *
 generalize respC misR (misV g) nilV = l2 at *
 refine wp_region_quiet_below (by kernel_rfl) (by kernel_rfl) ?_
 repeat (first
  | ((with_reducible refine qk_load_cell (o := ⟨some 41, _, _, _, _, _⟩) 57 _ rfl ⟨b, off, none⟩ ?_ (.slice (some ⟨b5, off5, none⟩) 1 c4) Q0.out ?_ ?_); (· rfl); (· rfl); simp only [Act.put, z1, z2, z3])
  | ((with_reducible refine qk_load_cell (o := ⟨some 48, _, _, _, _, _⟩) 57 _ rfl ⟨b, off, none⟩ ?_ (.slice (some ⟨b5, off5, none⟩) 1 c4) Q0.out ?_ ?_); (· rfl); (· rfl); simp only [Act.put, z1, z2, z3])
  | ((with_reducible refine qk_load_cell (o := ⟨some 61, _, _, _, _, _⟩) 57 _ rfl ⟨b, off + 1, none⟩ ?_ (.slice A6 0 c6) Q1.out ?_ ?_); (· rfl); (· rfl); simp only [Act.put, z1, z2, z3])
  | ((with_reducible refine qk_load_agg_want (o := ⟨some 50, _, _, _, _, _⟩) 40 _ rfl ⟨b5, off5, none⟩ ?_ l1 _ HCR.out Tryz.underlying40 rfl HSR1.out ?_ ?_); (· rfl); (· rfl); simp only [Act.put, z1, z2, z3])
  | ((with_reducible refine qk_load_agg_want (o := ⟨some 54, _, _, _, _, _⟩) 40 _ rfl ⟨bw, ow + 13, none⟩ ?_ l2 _ HCW.out Tryz.underlying40 rfl HSR2.out ?_ ?_); (· rfl); (· rfl); simp only [Act.put, z1, z2, z3])
  | go_big_quiet_step ((first | (go_at_call 19; exact Calls.regrown_of (H19.out _ (below_regrown _ _ _))) | (go_at_call 24; exact Calls.regrown_of (H24.out _ (below_regrown _ _ _))))))
 refine wpQuiet_nil ?_
 intro w4 hW4
 have hb4 := regrown_below hW4
 have HB4 := kp hb4
 have HW4 := kp (row_up HW3.out hb4)
 have HD4 := kp ((HD3.out.below hb4 (Nat.le_refl _)).mono' hb4.size)
 have HB14 := kp (HB13.out.trans (hb4.mono HB13.out.size))
 clear hW4 hb4
 have HCW0 := kp (show ∀ W, Below w4.heap.size w4 W -> CellsAt W ⟨bw, ow, none⟩ (callC want0 ⟨nilV, nilV, nilV, misV g, nilV⟩) from fun W hW => by
  obtain ⟨b0, o0, h1, h2, h3, h4⟩ := (row_up HW4.out hW) 0 _ rfl
  cases h1
  rw [show ow + 0 * 23 = ow by omega] at h3
  exact h3)
 go_upto_region 6 with (fail)
 refine wp_region_held_drew (S := fun W => Below w4.heap.size w4 W) (by kernel_rfl) (below_drewn (Below.refl _ _)) (fun hS => ?_)
 have HS := kp hS
 clear hS
 refine wpAnyH_take (i := 0) (oi := ⟨some 65, .move (.tmp 2), 43, "law.go:44", #[], none⟩) (v := ?_) rfl (by kernel_rfl) (by kernel_rfl) (by kernel_rfl) (fun _ _ _ h => h) (Or.inl ⟨by rfl, ?_⟩) HS.out ?_
 rotate_left 1
 ·intro w hw; go_simp; try with_reducible rfl
 simp only [Act.put, z1, z2, z3]
 refine wpAnyH_ready (rs := [1]) (by kernel_rfl) (by simp) ?_
 refine AllReadyH.cons (o := ⟨some 66, .call ⟨.value (.func 25), #[.tmp 65], #[43]⟩, 4, "law.go:44", #[⟨0, .data⟩], none⟩) rfl (fun K hK => ?_) (AllReadyH.nil)
 with_reducible refine step_call_want ?_ 25 _ _ rfl #[.slice (some ⟨bw, ow, none⟩) 2 2] ?_ Tryz.f25 Tryz.func25 f25_name f25_body (fun v w6 => v = .bool true /\ Below (w4.drew).heap.size (w4.drew) w6) ?_ ?_
 ·rfl
 ·simp only [y1, y2, y3]; rfl
 ·exact (valid25 (wantL g) (some ⟨bw, ow, none⟩) 2 2 w4.drew rfl (by unfold maxLen; omega) (row_up HW4.out (below_drewn (Below.refl _ _))) (callS_want g)).mono fun e w' ⟨b, h1, h2, h3⟩ => by have : b = true := h2.2 valid_want; subst this; exact ⟨_, h1, rfl, h3⟩
 rintro v u1 ⟨rfl, hc⟩
 have HU1 := kp ((below_drewn (Below.refl _ _)).trans hc : Below w4.heap.size w4 u1)
 clear hc
 have hS := HU1.out
 refine hK.out _ _ hS (fun _ => ?_)
 clear hK K HS
 have HS := kp hS
 clear hS
 try simp only [Act.put, z1, z2, z3]
 refine wpAnyH_take (i := 2) (oi := ⟨some 67, .unOp .not 4 (.tmp 66), 4, "law.go:44", #[⟨1, .data⟩], none⟩) (v := ?_) rfl (by kernel_rfl) (by kernel_rfl) (by kernel_rfl) (fun _ _ _ h => h) (Or.inl ⟨by rfl, ?_⟩) HS.out ?_
 rotate_left 1
 ·intro w hw; go_simp; try with_reducible rfl
 simp only [Act.put, z1, z2, z3]
 refine wpAnyH_take (i := 3) (oi := ⟨some 68, .move (.tmp 67), 4, "law.go:44", #[⟨2, .data⟩, ⟨1, .chain⟩], none⟩) (v := ?_) rfl (by kernel_rfl) (by kernel_rfl) (by kernel_rfl) (fun _ _ _ h => h) (Or.inl ⟨by rfl, ?_⟩) HS.out ?_
 rotate_left 1
 ·intro w hw; go_simp; try with_reducible rfl
 simp only [Act.put, z1, z2, z3]
 refine wpAnyH_take (i := 4) (oi := ⟨some 69, .move (.tmp 2), 43, "law.go:44", #[⟨3, .guard⟩], some (3, false)⟩) (v := ?_) rfl (by kernel_rfl) (by kernel_rfl) (by kernel_rfl) (fun _ _ _ h => h) (Or.inl ⟨by rfl, ?_⟩) HS.out ?_
 rotate_left 1
 ·intro w hw; go_simp; try with_reducible rfl
 simp only [Act.put, z1, z2, z3]
 refine wpAnyH_take (i := 5) (oi := ⟨some 70, .slice 43 (.tmp 69) (some (.const (.int .i64 1))) none none, 43, "law.go:44", #[⟨4, .data⟩, ⟨3, .guard⟩], some (3, false)⟩) (v := ?_) rfl (by kernel_rfl) (by kernel_rfl) (by kernel_rfl) (fun _ _ _ h => h) (Or.inl ⟨by rfl, ?_⟩) HS.out ?_
 rotate_left 1
 ·intro w hw; go_simp; try with_reducible rfl
 simp only [Act.put, z1, z2, z3]
 refine wpAnyH_ready (rs := [6]) (by kernel_rfl) (by simp) ?_
 refine AllReadyH.cons (o := ⟨some 71, .call ⟨.value (.func 25), #[.tmp 70], #[43]⟩, 4, "law.go:44", #[⟨5, .data⟩, ⟨3, .chain⟩, ⟨3, .guard⟩], some (3, false)⟩) rfl (fun K hK => ?_) (AllReadyH.nil)
 with_reducible refine step_call_want ?_ 25 _ _ rfl #[.slice (some ⟨bw, ow + 23, none⟩) 1 1] ?_ Tryz.f25 Tryz.func25 f25_name f25_body (fun v w6 => v = .bool true /\ Below (u1).heap.size (u1) w6) ?_ ?_
 ·rfl
 ·simp only [y1, y2, y3]; rfl
 ·exact (valid25 ((wantL g).drop 1) (some ⟨bw, ow + 23, none⟩) 1 1 u1 rfl (by unfold maxLen; omega) (by simpa using RowCO.drop (row_up HW4.out HU1.out) 1) (fun x hx => callS_want g x (List.mem_of_mem_drop hx))).mono fun e w' ⟨b, h1, h2, h3⟩ => by have : b = true := h2.2 valid_want1; subst this; exact ⟨_, h1, rfl, h3⟩
 rintro v u2 ⟨rfl, hc⟩
 have HU2 := kp (HU1.out.trans (hc.mono HU1.out.size))
 clear hc
 have hS := HU2.out
 refine hK.out _ _ hS (fun _ => ?_)
 clear hK K HS
 have HS := kp hS
 clear hS
 try simp only [Act.put, z1, z2, z3]
 refine wpAnyH_take (i := 7) (oi := ⟨some 72, .unOp .not 4 (.tmp 71), 4, "law.go:44", #[⟨6, .data⟩, ⟨3, .guard⟩], some (3, false)⟩) (v := ?_) rfl (by kernel_rfl) (by kernel_rfl) (by kernel_rfl) (fun _ _ _ h => h) (Or.inl ⟨by rfl, ?_⟩) HS.out ?_
 rotate_left 1
 ·intro w hw; go_simp; try with_reducible rfl
 simp only [Act.put, z1, z2, z3]
 refine wpAnyH_take (i := 8) (oi := ⟨some 73, .pick (.tmp 68) (.const (.bool true)) (.tmp 72), 4, "law.go:44", #[⟨3, .data⟩, ⟨7, .data⟩], none⟩) (v := ?_) rfl (by kernel_rfl) (by kernel_rfl) (by kernel_rfl) (fun _ _ _ h => h) (Or.inl ⟨by rfl, ?_⟩) HS.out ?_
 rotate_left 1
 ·intro w hw; go_simp; try with_reducible rfl
 simp only [Act.put, z1, z2, z3]
 refine wpAnyH_take (i := 9) (oi := ⟨some 74, .move (.tmp 73), 4, "law.go:44", #[⟨8, .data⟩, ⟨6, .chain⟩], none⟩) (v := ?_) rfl (by kernel_rfl) (by kernel_rfl) (by kernel_rfl) (fun _ _ _ h => h) (Or.inl ⟨by rfl, ?_⟩) HS.out ?_
 rotate_left 1
 ·intro w hw; go_simp; try with_reducible rfl
 simp only [Act.put, z1, z2, z3]
 refine wpAnyH_take (i := 10) (oi := ⟨some 75, .move (.tmp 2), 43, "law.go:44", #[⟨9, .guard⟩], some (9, false)⟩) (v := ?_) rfl (by kernel_rfl) (by kernel_rfl) (by kernel_rfl) (fun _ _ _ h => h) (Or.inl ⟨by rfl, ?_⟩) HS.out ?_
 rotate_left 1
 ·intro w hw; go_simp; try with_reducible rfl
 simp only [Act.put, z1, z2, z3]
 refine wpAnyH_take (i := 11) (oi := ⟨some 76, .indexAddr 43 (.tmp 75) (.const (.int .i64 0)), 0, "law.go:44", #[⟨10, .data⟩, ⟨9, .guard⟩], some (9, false)⟩) (v := ?_) rfl (by kernel_rfl) (by kernel_rfl) (by kernel_rfl) (fun _ _ _ h => h) (Or.inl ⟨by rfl, ?_⟩) HS.out ?_
 rotate_left 1
 ·intro w hw; go_simp; try with_reducible rfl
 simp only [Act.put, z1, z2, z3]
 refine wpAnyH_take (i := 12) (oi := ⟨some 77, .load 52 (.tmp 76), 52, "law.go:44", #[⟨11, .data⟩, ⟨9, .guard⟩], some (9, false)⟩) (v := .agg (callC want0 ⟨nilV, nilV, nilV, misV g, nilV⟩).toArray) rfl (by kernel_rfl) (by kernel_rfl) (by kernel_rfl) (fun _ _ _ h => h) (yields_aggL rfl 52 _ rfl ⟨bw, ow, none⟩ rfl (callC want0 ⟨nilV, nilV, nilV, misV g, nilV⟩) _ (fun W hW => (HCW0.out W hW)) Tryz.underlying52 (call_sizeL _ _ _ _ _ _ _ _ _ _ _ _ _ _ _ _ _ _ _ _ _ _ _)) HS.out ?_
 simp only [Act.put, z1, z2, z3]
 refine wpAnyH_take (i := 13) (oi := ⟨some 78, .move (.tmp 2), 43, "law.go:44", #[⟨9, .guard⟩], some (9, false)⟩) (v := ?_) rfl (by kernel_rfl) (by kernel_rfl) (by kernel_rfl) (fun _ _ _ h => h) (Or.inl ⟨by rfl, ?_⟩) HS.out ?_
 rotate_left 1
 ·intro w hw; go_simp; try with_reducible rfl
 simp only [Act.put, z1, z2, z3]
 refine wpAnyH_take (i := 14) (oi := ⟨some 79, .indexAddr 43 (.tmp 78) (.const (.int .i64 0)), 0, "law.go:44", #[⟨13, .data⟩, ⟨9, .guard⟩], some (9, false)⟩) (v := ?_) rfl (by kernel_rfl) (by kernel_rfl) (by kernel_rfl) (fun _ _ _ h => h) (Or.inl ⟨by rfl, ?_⟩) HS.out ?_
 rotate_left 1
 ·intro w hw; go_simp; try with_reducible rfl
 simp only [Act.put, z1, z2, z3]
 refine wpAnyH_take (i := 15) (oi := ⟨some 80, .load 52 (.tmp 79), 52, "law.go:44", #[⟨14, .data⟩, ⟨9, .guard⟩], some (9, false)⟩) (v := .agg (callC want0 ⟨nilV, nilV, nilV, misV g, nilV⟩).toArray) rfl (by kernel_rfl) (by kernel_rfl) (by kernel_rfl) (fun _ _ _ h => h) (yields_aggL rfl 52 _ rfl ⟨bw, ow, none⟩ rfl (callC want0 ⟨nilV, nilV, nilV, misV g, nilV⟩) _ (fun W hW => (HCW0.out W hW)) Tryz.underlying52 (call_sizeL _ _ _ _ _ _ _ _ _ _ _ _ _ _ _ _ _ _ _ _ _ _ _)) HS.out ?_
 simp only [Act.put, z1, z2, z3]
 refine wpAnyH_ready (rs := [16]) (by kernel_rfl) (by simp) ?_
 refine AllReadyH.cons (o := ⟨some 81, .buildSlice 43 2 #[(0, .tmp 77), (1, .tmp 80)], 43, "law.go:44", #[⟨12, .data⟩, ⟨15, .data⟩, ⟨9, .guard⟩], some (9, false)⟩) rfl (fun K hK => ?_) (AllReadyH.nil)
 with_reducible refine step_rows_want ?_ 43 52 2 _ rfl _ 23 296 Tryz.underlying43 q_info52 ((twiceL g).map fun x => callC x.1 x.2) ?_ ?_ ?_ ?_ ?_ ?_ ?_
 ·rfl
 ·simp only [y1, y2, y3]; rfl
 ·intro L hL; obtain ⟨x, _, rfl⟩ := List.mem_map.1 hL; rfl
 ·rfl
 ·decide
 ·decide
 ·unfold maxLen; decide
 intro u3 ho hc
 have HU3 := kp (HU2.out.trans (hc.mono HU2.out.size))
 obtain ⟨A5, c5, he, hrow⟩ := calls_own (L := twiceL g) ho (fun x hx => by obtain ⟨_, _, _, _, _, h4⟩ := (row_up HW4.out HU3.out) 0 _ rfl; simp [twiceL] at hx; rcases hx with rfl | rfl <;> exact h4)
 have HROW5 := kp hrow
 obtain ⟨u2s, hu2s⟩ : ∃ q, u2.heap.size = q := ⟨_, rfl⟩
 rw [hu2s] at he ⊢
 cases he
 clear ho hc hrow hu2s
 have hS := HU3.out
 refine hK.out _ _ hS (fun _ => ?_)
 clear hK K HS
 have HS := kp hS
 clear hS
 try simp only [Act.put, z1, z2, z3]
 refine wpAnyH_ready (rs := [17]) (by kernel_rfl) (by simp) ?_
 refine AllReadyH.cons (o := ⟨some 82, .call ⟨.value (.func 25), #[.tmp 81], #[43]⟩, 4, "law.go:44", #[⟨16, .data⟩, ⟨9, .chain⟩, ⟨9, .guard⟩], some (9, false)⟩) rfl (fun K hK => ?_) (AllReadyH.nil)
 with_reducible refine step_call_want ?_ 25 _ _ rfl #[.slice (some ⟨u2s, 0, none⟩) 2 2] ?_ Tryz.f25 Tryz.func25 f25_name f25_body (fun v w6 => v = .bool false /\ Below (u3).heap.size (u3) w6) ?_ ?_
 ·rfl
 ·simp only [y1, y2, y3]; rfl
 ·exact (valid25 (twiceL g) (some ⟨u2s, 0, none⟩) 2 2 u3 rfl (by unfold maxLen; omega) HROW5.out (callS_twice g)).mono fun e w' ⟨b, h1, h2, h3⟩ => by (have : b = false := by (cases b; rfl; exact absurd (h2.1 rfl) valid_twice)); subst this; exact ⟨_, h1, rfl, h3⟩
 rintro v u4 ⟨rfl, hc⟩
 have HU4 := kp (HU3.out.trans (hc.mono HU3.out.size))
 clear hc
 have hS := HU4.out
 refine hK.out _ _ hS (fun _ => ?_)
 clear hK K HS
 have HS := kp hS
 clear hS
 try simp only [Act.put, z1, z2, z3]
 refine wpAnyH_take (i := 18) (oi := ⟨some 83, .pick (.tmp 74) (.const (.bool true)) (.tmp 82), 4, "law.go:44", #[⟨9, .data⟩, ⟨17, .data⟩], none⟩) (v := ?_) rfl (by kernel_rfl) (by kernel_rfl) (by kernel_rfl) (fun _ _ _ h => h) (Or.inl ⟨by rfl, ?_⟩) HS.out ?_
 rotate_left 1
 ·intro w hw; go_simp; try with_reducible rfl
 simp only [Act.put, z1, z2, z3]
 refine wpAnyH_done (by kernel_rfl) ?_ _
 skip
 have HB15 := kp (HB14.out.trans (HU4.out.mono HB14.out.size))
 have HD5 := kp ((HD4.out.below HU4.out (Nat.le_refl _)).mono' HU4.out.size)
 clear HROW5
 go_upto_region 8 with (fail)
 go_wp2_with fail
 refine (of8 (didsG.drop 1) (some ⟨ba, oa + 25, none⟩) 8 8 u4 rfl (by unfold maxLen; omega) (by simpa using HD5.out.drop 1) (fun d hd => small_dids d (List.mem_of_mem_drop hd))).mono ?_
 rintro e w6 hp
 unfold OfPost at hp
 rw [of_given1] at hp
 obtain ⟨A7, c7, rfl, _, hb6⟩ := hp
 have HB6 := kp (HB15.out.trans (hb6.mono HB15.out.size))
 have hd6 := (HD5.out.below hb6 (Nat.le_refl _)).mono' hb6.size
 obtain ⟨Lp, hLp, hpr⟩ := hd6.pairs
 have hLl : Lp.length = 9 := by rw [<- List.length_map (f := fun x : DidR × DidV => x.1), hLp]; rfl
 have hcells : ∀ k, CellsAt w6 ⟨ba, oa + k * 25, none⟩ ((Lp.drop k).flatMap fun x => didC x.1 x.2) := fun k => flat_cells fun i x hi => by
  rw [List.getElem?_drop] at hi
  obtain ⟨b0, o0, h1, h2, h3, h4⟩ := hpr (k + i) x hi
  cases h1
  rw [show oa + k * 25 + i * 25 = oa + (k + i) * 25 by omega]
  exact h3
 have hcells3 : CellsAt w6 ⟨ba, oa, none⟩ ((Lp.take 3).flatMap fun x => didC x.1 x.2) := flat_cells fun i x hi => by
  rw [List.getElem?_take] at hi
  split at hi
  ·obtain ⟨b0, o0, h1, h2, h3, h4⟩ := hpr i x hi
   cases h1
   exact h3
  ·cases hi
 have hoks : ∀ x ∈ Lp, DidOk w6 w6.heap.size x.1 x.2 := fun x hx => by
  obtain ⟨i, hi⟩ := List.mem_iff_getElem?.1 hx
  obtain ⟨_, _, _, _, _, h4⟩ := hpr i x hi
  exact h4
 have hba : ba < w6.heap.size := by
  obtain ⟨b0, o0, h1, h2, _⟩ := hpr 0 _ (List.getElem?_eq_getElem (by omega))
  cases h1
  exact h2
 have HC3 := kp hcells3
 have HC4 := kp (hcells 4)
 have HOKS := kp hoks
 have HLP := kp hLp
 have HLL := kp hLl
 clear hd6 hpr hcells hcells3 hoks hLp hLl hb6
 go_upto_region 9 with (fail)
 refine wp_region_held_drew (S := fun W => Below w6.heap.size w6 W) (by kernel_rfl) (below_drewn (Below.refl _ _)) (fun hS => ?_)
 have HS := kp hS
 clear hS
 refine wpAnyH_take (i := 0) (oi := ⟨some 91, .move (.tmp 1), 22, "law.go:48", #[], none⟩) (v := ?_) rfl (by kernel_rfl) (by kernel_rfl) (by kernel_rfl) (fun _ _ _ h => h) (Or.inl ⟨by rfl, ?_⟩) HS.out ?_
 rotate_left 1
 ·intro w hw; go_simp; try with_reducible rfl
 simp only [Act.put, z1, z2, z3]
 refine wpAnyH_take (i := 1) (oi := ⟨some 92, .slice 22 (.tmp 91) none (some (.const (.int .i64 3))) none, 22, "law.go:48", #[⟨0, .data⟩], none⟩) (v := ?_) rfl (by kernel_rfl) (by kernel_rfl) (by kernel_rfl) (fun _ _ _ h => h) (Or.inl ⟨by rfl, ?_⟩) HS.out ?_
 rotate_left 1
 ·intro w hw; go_simp; try with_reducible rfl
 simp only [Act.put, z1, z2, z3]
 refine wpAnyH_take (i := 3) (oi := ⟨some 94, .move (.tmp 1), 22, "law.go:48", #[], none⟩) (v := ?_) rfl (by kernel_rfl) (by kernel_rfl) (by kernel_rfl) (fun _ _ _ h => h) (Or.inl ⟨by rfl, ?_⟩) HS.out ?_
 rotate_left 1
 ·intro w hw; go_simp; try with_reducible rfl
 simp only [Act.put, z1, z2, z3]
 refine wpAnyH_take (i := 4) (oi := ⟨some 95, .slice 22 (.tmp 94) (some (.const (.int .i64 4))) none none, 22, "law.go:48", #[⟨3, .data⟩], none⟩) (v := ?_) rfl (by kernel_rfl) (by kernel_rfl) (by kernel_rfl) (fun _ _ _ h => h) (Or.inl ⟨by rfl, ?_⟩) HS.out ?_
 rotate_left 1
 ·intro w hw; go_simp; try with_reducible rfl
 simp only [Act.put, z1, z2, z3]
 refine wpAnyH_ready (rs := [2]) (by kernel_rfl) (by simp) ?_
 refine AllReadyH.cons (o := ⟨some 93, .call ⟨.builtin .append, #[.const (.slice none 0 0), .tmp 92], #[22, 22]⟩, 22, "law.go:48", #[⟨1, .data⟩], none⟩) rfl (fun K hK => ?_) (AllReadyH.nil)
 with_reducible refine step_append_g rfl _ _ 22 rfl w6.heap.size 42 _ 25 344 Tryz.underlying22 q_info42 ?_ ?_ (.slice none 0 0) 0 [] ?_ (own_nil _ _ _ _) ⟨ba, oa, none⟩ 3 9 ((Lp.take 3).flatMap fun x => didC x.1 x.2) ?_ ?_ ?_ ?_ ?_ ?_ ?_ ?_
 ·rfl
 ·decide
 ·rfl
 ·rfl
 ·rw [flat_lenD, List.length_take, HLL.out]; rfl
 ·intro j v hj; exact HC3.out j v hj
 ·exact flat_oneD (w := w6) (B := w6.heap.size) fun x hx => HOKS.out x (List.mem_of_mem_take hx)
 ·unfold maxLen; omega
 ·omega
 ·exact Nat.le_refl _
 intro v7 w7 ho7 hg7 hb7
 obtain ⟨Ax, cx, rfl⟩ := own_slice ho7
 have HB7 := kp (show Below w6.heap.size w6 w7 from (below_drewn (Below.refl _ _)).trans ((kept_of_grown (v := .slice none 0 0) hg7).below (Nat.le_refl _) (fun b hb => by simp [Value.ownBlock] at hb)))
 have HO7 := kp ho7
 clear ho7 hg7 hb7
 have hS := HB7.out
 refine hK.out _ _ hS (fun _ => ?_)
 clear hK K HS
 have HS := kp hS
 clear hS
 try simp only [Act.put, z1, z2, z3]
 refine wpAnyH_ready (rs := [5]) (by kernel_rfl) (by simp) ?_
 refine AllReadyH.cons (o := ⟨some 96, .call ⟨.builtin .append, #[.tmp 93, .tmp 95], #[22, 22]⟩, 22, "law.go:48", #[⟨2, .data⟩, ⟨4, .data⟩, ⟨2, .chain⟩], none⟩) rfl (fun K hK => ?_) (AllReadyH.nil)
 with_reducible refine step_append_g rfl _ _ 22 rfl w6.heap.size 42 _ 25 344 Tryz.underlying22 q_info42 ?_ ?_ (.slice Ax (0 + 3) cx) (0 + 3) ([] ++ (Lp.take 3).flatMap fun x => didC x.1 x.2) ?_ HO7.out ⟨ba, oa + 100, none⟩ 5 5 ((Lp.drop 4).flatMap fun x => didC x.1 x.2) ?_ ?_ ?_ ?_ ?_ ?_ ?_ ?_
 ·rfl
 ·decide
 ·rfl
 ·rfl
 ·rw [flat_lenD, List.length_drop, HLL.out]
 ·intro j v hj; exact (HC4.out.below HB7.out hba) j v hj
 ·exact flat_oneD (w := w6) (B := w6.heap.size) fun x hx => HOKS.out x (List.mem_of_mem_drop hx)
 ·unfold maxLen; omega
 ·omega
 ·exact HB7.out.size
 intro v8 w8 ho8 hg8 hb8
 obtain ⟨Ay, cy, rfl⟩ := own_slice ho8
 have HB8 := kp (HB7.out.trans ((kept_of_grown hg8).below HB7.out.size (fun b hb => own_ge HO7.out hb)))
 have hl8 : (Lp.take 3 ++ Lp.drop 4).length = 8 := by rw [List.length_append, List.length_take, List.length_drop, HLL.out]; rfl
 have hfm : ((Lp.take 3 ++ Lp.drop 4).flatMap fun x => didC x.1 x.2) = ([] ++ (Lp.take 3).flatMap fun x => didC x.1 x.2) ++ (Lp.drop 4).flatMap fun x => didC x.1 x.2 := by simp
 obtain ⟨Az, cz, he, hdz⟩ := dids_own (L := Lp.take 3 ++ Lp.drop 4) (w := w8) (base := w6.heap.size) (v := .slice Ay (0 + 3 + 5) cy) (by rw [hl8, hfm]; exact ho8) (fun x hx => ((HOKS.out x (by rcases List.mem_append.1 hx with h | h; exact List.mem_of_mem_take h; exact List.mem_of_mem_drop h)).below HB8.out (Nat.le_refl _)).mono HB8.out.size)
 rw [List.map_append, List.map_take, List.map_drop, HLP.out] at hdz
 rw [hl8] at he
 cases he
 have HDZ := kp hdz
 clear ho8 hg8 hb8 hdz hl8 hfm
 have hS := HB8.out
 refine hK.out _ _ hS (fun _ => ?_)
 clear hK K HS
 have HS := kp hS
 clear hS
 try simp only [Act.put, z1, z2, z3]
 refine wpAnyH_ready (rs := [6]) (by kernel_rfl) (by simp) ?_
 refine AllReadyH.cons (o := ⟨some 97, .call ⟨.value (.func 17), #[.tmp 96], #[22]⟩, 44, "law.go:48", #[⟨5, .data⟩, ⟨5, .chain⟩], none⟩) rfl (fun K hK => ?_) (AllReadyH.nil)
 with_reducible refine step_call_any rfl 17 _ _ rfl #[.slice Ay 8 cy] ?_ Tryz.f17 Tryz.func17 f17_name f17_body (fun v w9 => ∃ A9 c9, v = .tuple #[.slice A9 0 c9, .int .i64 10] /\ Below w8.heap.size w8 w9) ?_ ?_
 ·simp only [y1, y2, y3]; rfl
 ·exact (of8 (didsG.take 3 ++ didsG.drop 4) Ay 8 cy w8 rfl (by unfold maxLen; omega) HDZ.out (fun d hd => small_dids d (by rcases List.mem_append.1 hd with h | h; exact List.mem_of_mem_take h; exact List.mem_of_mem_drop h))).mono fun e w' hp => by unfold OfPost at hp; rw [of_given2] at hp; obtain ⟨A9, c9, h1, _, h3⟩ := hp; exact ⟨_, h1, A9, c9, rfl, h3⟩
 rintro v w9 ⟨A9, c9, rfl, hb9⟩
 have HB9 := kp (HB8.out.trans (hb9.mono HB8.out.size))
 clear hb9
 have hS := HB9.out
 refine hK.out _ _ hS (fun _ => ?_)
 clear hK K HS
 have HS := kp hS
 clear hS
 try simp only [Act.put, z1, z2, z3]
 refine wpAnyH_take (i := 7) (oi := ⟨some 90, .move (.tmp 97), 44, "law.go:48", #[⟨6, .data⟩], none⟩) (v := ?_) rfl (by kernel_rfl) (by kernel_rfl) (by kernel_rfl) (fun _ _ _ h => h) (Or.inl ⟨by rfl, ?_⟩) HS.out ?_
 rotate_left 1
 ·intro w hw; go_simp; try with_reducible rfl
 simp only [Act.put, z1, z2, z3]
 refine wpAnyH_take (i := 8) (oi := ⟨some 98, .extract (.tmp 90) 0, 43, "law.go:48", #[⟨7, .data⟩], none⟩) (v := ?_) rfl (by kernel_rfl) (by kernel_rfl) (by kernel_rfl) (fun _ _ _ h => h) (Or.inl ⟨by rfl, ?_⟩) HS.out ?_
 rotate_left 1
 ·intro w hw; go_simp; try with_reducible rfl
 simp only [Act.put, z1, z2, z3]
 refine wpAnyH_take (i := 9) (oi := ⟨some 99, .extract (.tmp 90) 1, 29, "law.go:48", #[⟨7, .data⟩], none⟩) (v := ?_) rfl (by kernel_rfl) (by kernel_rfl) (by kernel_rfl) (fun _ _ _ h => h) (Or.inl ⟨by rfl, ?_⟩) HS.out ?_
 rotate_left 1
 ·intro w hw; go_simp; try with_reducible rfl
 simp only [Act.put, z1, z2, z3]
 refine wpAnyH_take (i := 10) (oi := ⟨some 6, .assign (.tmp 99), 29, "law.go:48", #[⟨9, .data⟩, ⟨6, .chain⟩, ⟨0, .phase⟩, ⟨1, .phase⟩, ⟨2, .phase⟩, ⟨3, .phase⟩, ⟨4, .phase⟩, ⟨5, .phase⟩, ⟨6, .phase⟩, ⟨7, .phase⟩, ⟨8, .phase⟩, ⟨9, .phase⟩], none⟩) (v := ?_) rfl (by kernel_rfl) (by kernel_rfl) (by kernel_rfl) (fun _ _ _ h => h) (Or.inl ⟨by rfl, ?_⟩) HS.out ?_
 rotate_left 1
 ·intro w hw; go_simp; try with_reducible rfl
 simp only [Act.put, z1, z2, z3]
 refine wpAnyH_done (by kernel_rfl) ?_ _
 skip
 go_wp2_with fail
 go_ret
 exact ⟨rfl, HB6.out.trans (HB9.out.mono HB6.out.size)⟩
end Go.Proofs.YtnjhpgmbfblgaaaGreat.Ord
