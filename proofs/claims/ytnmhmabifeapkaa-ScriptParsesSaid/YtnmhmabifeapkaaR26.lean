/- Laws for the law's known: slice literals of bytes and of steps, in regions of both kinds. -/
import Derived.Test.YtnmhmabifeapkaaR25
namespace Go.Proofs.Ytnmhmabifeapkaa.Ord
open Go.RowKit
set_option linter.unusedVariables false

theorem k30_start (w : World) (Wa : World) (hW : Wa = (((w.alloc (.cells #[.int .i64 1, .int .i64 0, .int .i64 0, .slice none 0 0] 35)).alloc (.cells #[.int .i64 3, .int .i64 0, .int .i64 0, .slice none 0 0] 35)).alloc (.cells #[.int .i64 3, .int .i64 1, .int .i64 0, .slice none 0 0] 35)).alloc (.cells #[.int .u8 3, .int .u8 4, .int .u8 1, .int .u8 97] 5))
    (w1 : World) (hb : Below Wa.heap.size Wa w1) :
    K30 (w1.alloc (.cells #[.int .i64 2, .int .i64 0, .int .i64 0, .slice (some ⟨w.heap.size + 1 + 1 + 1, 0, none⟩) 4 4] 35)) (w1.heap.size + 1) w.heap.size (w.heap.size + 1) (w.heap.size + 1 + 1) w1.heap.size (w.heap.size + 1 + 1 + 1) ∧ Below w.heap.size w (w1.alloc (.cells #[.int .i64 2, .int .i64 0, .int .i64 0, .slice (some ⟨w.heap.size + 1 + 1 + 1, 0, none⟩) 4 4] 35)) := by
  have hs : Wa.heap.size = w.heap.size + 1 + 1 + 1 + 1 := by rw [hW]; simp
  have hs1 := hb.size
  have hbw : Below w.heap.size w Wa := by
    rw [hW]
    exact (((below1 w _).alloc (by simp) _).alloc (by simp <;> omega) _).alloc (by simp <;> omega) _
  have hbe := (hbw.trans (hb.mono (by omega))).alloc (by omega) (.cells #[.int .i64 2, .int .i64 0, .int .i64 0, .slice (some ⟨w.heap.size + 1 + 1 + 1, 0, none⟩) 4 4] 35)
  have hb2 : Below Wa.heap.size Wa (w1.alloc (.cells #[.int .i64 2, .int .i64 0, .int .i64 0, .slice (some ⟨w.heap.size + 1 + 1 + 1, 0, none⟩) 4 4] 35)) := hb.alloc hb.size _
  have hc : CellsAt Wa ⟨w.heap.size, 0, none⟩ [.int .i64 1, .int .i64 0, .int .i64 0, .slice none 0 0] ∧ CellsAt Wa ⟨w.heap.size + 1, 0, none⟩ [.int .i64 3, .int .i64 0, .int .i64 0, .slice none 0 0] ∧ CellsAt Wa ⟨w.heap.size + 1 + 1, 0, none⟩ [.int .i64 3, .int .i64 1, .int .i64 0, .slice none 0 0] ∧ Byt Wa (w1.heap.size + 1) (some ⟨w.heap.size + 1 + 1 + 1, 0, none⟩) 4 [3, 4, 1, 97] := by
    rw [hW]
    refine ⟨?_, ?_, ?_, ?_⟩
    · exact (((cells_lit w _ _ 35 rfl).below (below1 _ _) (by simp)).below (below1 _ _) (by simp; try omega)).below (below1 _ _) (by simp; try omega)
    · exact ((cells_lit _ _ _ 35 (by simp)).below (below1 _ _) (by simp)).below (below1 _ _) (by simp; try omega)
    · exact (cells_lit _ _ _ 35 (by simp)).below (below1 _ _) (by simp)
    · exact byt_lit _ [3, 4, 1, 97] _ 4 _ (by simp) (by omega) rfl
  obtain ⟨h1, h2, h3, h4⟩ := hc
  refine ⟨⟨by simp, by omega, by omega, by omega, by omega, by omega, h1.below hb2 (show w.heap.size < _ by omega), h2.below hb2 (show w.heap.size + 1 < _ by omega), h3.below hb2 (show w.heap.size + 1 + 1 < _ by omega), cells_lit _ _ _ 35 rfl, ?_⟩, hbe⟩
  refine ⟨h4.1, h4.2.1, fun i hi => ?_⟩
  obtain ⟨b, off, e1, e2, e3⟩ := h4.2.2 i hi
  cases e1
  exact ⟨_, _, rfl, e2, fun x hx => by rw [hb2.cell (p := ⟨w.heap.size + 1 + 1 + 1, 0 + i, none⟩) (show w.heap.size + 1 + 1 + 1 < _ by omega)]; exact e3 x hx⟩

section
variable {P : Program}
theorem step_slice_w {w : World} {ops : Array Oper} {o : Oper} {a : Act} {K : Act → World → Prop} {Q : Exit → Act → World → Prop} {E : Prop} (hw : Region.wanted o (yielded ops a.tmps) = true) (t e : TypeId) (len : Nat) (parts : Array (Nat × Operand)) (ho : o.op = .buildSlice t len parts)
    (z : Value) (size bytes : Nat) (ht : P.underlying t = some (.slice e)) (hinfo : (P.info? e).map (fun i => (i.zero, i.size, i.bytes)) = some (some z, size, bytes))
    (l : List (Nat × Value)) (xs : List Value) (hl : (parts.map fun (i, x) => (i, a.eval x)).toList = l)
    (hf : Instr.fill (fun i => some (i * size, size)) ((Array.range (len * size)).map (z.cells[· % z.cells.size]!)) l = some xs.toArray)
    (hxs : xs.length = len * size) (hsm : ¬ len * size > 2 ^ 24) (hp : ¬ len * size = 0) (hm : len ≤ maxLen)
    (h : ∀ w', w'.ownsRow w.heap.size e size (.slice (some ⟨w.heap.size, 0, none⟩) len len) len xs → RowKit.Below w.heap.size w w' → K (a.put o.dst (.slice (some ⟨w.heap.size, 0, none⟩) len len)) w') :
    if Region.wanted o (yielded ops a.tmps) = true then Oper.wp P o a w K Q else E := by
  rw [if_pos hw]
  obtain ⟨i, hi, hz, h4, h5⟩ := info_parts hinfo
  subst h4
  refine wp_buildSlice t e len parts ho xs.toArray i z ht hi hz hsm hp (by rw [hl]; exact hf) ?_
  refine h _ ⟨hxs, .inr ⟨w.heap.size, len, xs.toArray, rfl, Nat.le_refl _, heap_alloc_new w _, Nat.le_refl _, hm, by simpa using hxs, ?_⟩⟩ (below1 w _)
  rw [List.take_of_length_le (by simp [hxs])]
theorem step_call_w {w : World} {ops : Array Oper} {o : Oper} {a : Act} {K : Act → World → Prop} {Q : Exit → Act → World → Prop} {E : Prop} (hw : Region.wanted o (yielded ops a.tmps) = true) (N : Nat) (xs : Array Operand) (ts : Array TypeId)
    (ho : o.op = .call { callee := .value (.func N), args := xs, argTypes := ts }) (vs : Array Value) (hx : xs.map a.eval = vs)
    (fn : Func) (hfn : P.funcs[N]? = some fn) (hname : (fn.name == "runtime.NumGoroutine") = false) (hbody : fn.body.isSome = true)
    (u : Value) (hc : Calls P N vs w fun e w' => e = .returned u ∧ Below w.heap.size w w')
    (h : ∀ w', Below w.heap.size w w' → K (a.put o.dst u) w') :
    if Region.wanted o (yielded ops a.tmps) = true then Oper.wp P o a w K Q else E := by
  rw [if_pos hw]
  unfold Oper.wp
  have hf : a.eval (.func N) = .func (.func N) #[] #[] := rfl
  have h1 : fn.name ≠ "runtime.NumGoroutine" := by simpa using hname
  have h2 : fn.body ≠ none := by intro h3; simp [h3] at hbody
  have h3 : (callFunc N vs).run P w = .ok (.enter N vs) w := by simp [callFunc, hfn, h1, h2]
  simp [execOp, ho, resolve, invoke, hx, hf, Deferred.ofValue, h3]
  refine hc.mono ?_
  rintro e w' ⟨rfl, hR⟩
  exact h w' hR
end

/-- fresh bytes -/
structure BS (w w' : World) (n : Nat) (xs : List Int) : Prop where
  byt : Byt w' w'.heap.size (some ⟨w.heap.size, 0, none⟩) n xs
  low : Below w.heap.size w w'
  lt : w.heap.size < w'.heap.size
theorem step_bytes_w {w : World} {ops : Array Oper} {o : Oper} {a : Act} {K : Act → World → Prop} {Q : Exit → Act → World → Prop} {E : Prop} (hw : Region.wanted o (yielded ops a.tmps) = true) (len : Nat) (parts : Array (Nat × Operand)) (ho : o.op = .buildSlice 22 len parts)
    (xs : List Int) (l : List (Nat × Value)) (hl : (parts.map fun (i, x) => (i, a.eval x)).toList = l)
    (hf : Instr.fill (fun i => some (i * 1, 1)) ((Array.range (len * 1)).map ((Value.int .u8 0).cells[· % (Value.int .u8 0).cells.size]!)) l = some (xs.map (Value.int .u8)).toArray)
    (hxs : xs.length = len) (hp : 0 < len) (hm : len ≤ 100)
    (h : ∀ w', BS w w' len xs → K (a.put o.dst (.slice (some ⟨w.heap.size, 0, none⟩) len len)) w') :
    if Region.wanted o (yielded ops a.tmps) = true then Oper.wp Try.prog o a w K Q else E :=
  step_slice_w hw 22 5 len parts ho (.int .u8 0) 1 1 Try.underlying22 Try.info5 l _ hl hf (by simp [hxs]) (by omega) (by omega) (by unfold maxLen; omega) fun w' hown hb =>
    h w' ⟨(Byt.of_owns hown).2, hb, (hown.lt w.heap.size rfl).2⟩
theorem step_steps_w {w : World} {ops : Array Oper} {o : Oper} {a : Act} {K : Act → World → Prop} {Q : Exit → Act → World → Prop} {E : Prop} (hw : Region.wanted o (yielded ops a.tmps) = true) (len : Nat) (parts : Array (Nat × Operand)) (ho : o.op = .buildSlice 24 len parts)
    (ps : List (StepR × Value)) (l : List (Nat × Value)) (hl : (parts.map fun (i, x) => (i, a.eval x)).toList = l)
    (hf : Instr.fill (fun i => some (i * 4, 4)) ((Array.range (len * 4)).map ((Value.agg #[.int .i64 0, .int .i64 0, .int .i64 0, .slice none 0 0]).cells[· % (Value.agg #[.int .i64 0, .int .i64 0, .int .i64 0, .slice none 0 0]).cells.size]!)) l = some (ps.flatMap stepC).toArray)
    (hxs : (ps.flatMap stepC).length = len * 4) (hp : 0 < len) (hm : len ≤ 100) (hd : ∀ p ∈ ps, DatB w w.heap.size p.2 p.1.d)
    (h : ∀ w', Steps w' w'.heap.size (some ⟨w.heap.size, 0, none⟩) (ps.map (·.1)) → Below w.heap.size w w' → K (a.put o.dst (.slice (some ⟨w.heap.size, 0, none⟩) len len)) w') :
    if Region.wanted o (yielded ops a.tmps) = true then Oper.wp Try.prog o a w K Q else E :=
  step_slice_w hw 24 35 len parts ho (.agg #[.int .i64 0, .int .i64 0, .int .i64 0, .slice none 0 0]) 4 48 Try.underlying24 Try.info35 l _ hl hf hxs (by omega) (by omega) (by unfold maxLen; omega) fun w' hown hb =>
    h w' (steps_row hown fun p hp => ((hd p hp).below hb (Nat.le_refl _)).mono hb.size) hb
section
variable {w : World} {ops : Array Oper} {rest : List Oper} {o : Oper} {a : Act} {Q : Exit → Act → World → Prop}
theorem wpList_bytes_w (hw : Region.wanted o (yielded ops a.tmps) = true) (len : Nat) (parts : Array (Nat × Operand)) (ho : o.op = .buildSlice 22 len parts)
    (xs : List Int) (l : List (Nat × Value)) (hl : (parts.map fun (i, x) => (i, a.eval x)).toList = l)
    (hf : Instr.fill (fun i => some (i * 1, 1)) ((Array.range (len * 1)).map ((Value.int .u8 0).cells[· % (Value.int .u8 0).cells.size]!)) l = some (xs.map (Value.int .u8)).toArray)
    (hxs : xs.length = len) (hp : 0 < len) (hm : len ≤ 100)
    (h : ∀ w', BS w w' len xs → wpList Try.prog ops Q rest (a.put o.dst (.slice (some ⟨w.heap.size, 0, none⟩) len len)) w') : wpList Try.prog ops Q (o :: rest) a w :=
  wpList_step fun K hK => step_bytes_w hw len parts ho xs l hl hf hxs hp hm fun w' hb => hK _ _ (h w' hb)
theorem wpList_steps_w (hw : Region.wanted o (yielded ops a.tmps) = true) (len : Nat) (parts : Array (Nat × Operand)) (ho : o.op = .buildSlice 24 len parts)
    (ps : List (StepR × Value)) (l : List (Nat × Value)) (hl : (parts.map fun (i, x) => (i, a.eval x)).toList = l)
    (hf : Instr.fill (fun i => some (i * 4, 4)) ((Array.range (len * 4)).map ((Value.agg #[.int .i64 0, .int .i64 0, .int .i64 0, .slice none 0 0]).cells[· % (Value.agg #[.int .i64 0, .int .i64 0, .int .i64 0, .slice none 0 0]).cells.size]!)) l = some (ps.flatMap stepC).toArray)
    (hxs : (ps.flatMap stepC).length = len * 4) (hp : 0 < len) (hm : len ≤ 100) (hd : ∀ p ∈ ps, DatB w w.heap.size p.2 p.1.d)
    (h : ∀ w', Steps w' w'.heap.size (some ⟨w.heap.size, 0, none⟩) (ps.map (·.1)) → Below w.heap.size w w' → wpList Try.prog ops Q rest (a.put o.dst (.slice (some ⟨w.heap.size, 0, none⟩) len len)) w') : wpList Try.prog ops Q (o :: rest) a w :=
  wpList_step fun K hK => step_steps_w hw len parts ho ps l hl hf hxs hp hm hd fun w' h1 h2 => hK _ _ (h w' h1 h2)
end


/-- bytes at the start of a block -/
def BA (W : World) (g n : Nat) (xs : List Int) : Prop := Byt W W.heap.size (some ⟨g, 0, none⟩) n xs ∧ g < W.heap.size
theorem BA.below {W W' : World} {g n : Nat} {xs : List Int} (h : BA W g n xs) (hb : Below W.heap.size W W') : BA W' g n xs :=
  ⟨(h.1.below hb (Nat.le_refl _)).mono hb.size, Nat.lt_of_lt_of_le h.2 hb.size⟩
theorem BS.ba {w w' : World} {n : Nat} {xs : List Int} (h : BS w w' n xs) : BA w' w.heap.size n xs := ⟨h.byt, h.lt⟩
def okBytes (xs : List Int) : Bool := xs.all (fun y => decide (0 ≤ y) && decide (y < 256)) && decide (xs.length ≤ 4096)
theorem okBytes.out {xs : List Int} (h : okBytes xs = true) : (∀ y ∈ xs, 0 ≤ y ∧ y < 256) ∧ xs.length ≤ 4096 := by
  simp [okBytes] at h
  exact h
theorem BA.dat {W : World} {g n : Nat} {xs : List Int} (h : BA W g n xs) (hn : xs.length = n) (ho : okBytes xs = true) : DatB W W.heap.size (.slice (some ⟨g, 0, none⟩) n n) xs := by
  have h2 := okBytes.out ho
  exact datB_of h.1 hn ⟨h2.1, by omega⟩
theorem parses_yes2 (g g2 k m : Nat) (xs : List Int) (rs : List StepR) (W : World) (hB : BA W g k xs) (hS : Steps W W.heap.size (some ⟨g2, 0, none⟩) rs) (hp : ParseOk xs rs) (hk : xs.length = k) (hm : rs.length = m) (h1 : okBytes xs = true) (h2 : rs.all (fun r => okBytes r.d) = true) (h3 : m ≤ 5000) :
    Calls Try.prog 37 #[.slice (some ⟨g, 0, none⟩) k k, .slice (some ⟨g2, 0, none⟩) m m] W fun e w' => e = .returned (.bool true) ∧ Below W.heap.size W w' :=
  parses_yes _ _ k m k m xs rs W hk hm (okBytes.out h1).1 (by have := (okBytes.out h1).2; omega) hB.1 (fun b off h => by cases h; exact hB.2) hp (fun r hr => by
    have := okBytes.out (List.all_eq_true.1 h2 r hr)
    exact ⟨this.1, by omega⟩) h3 (Nat.le_refl _) hS
structure KB (w W : World) (B g1 g2 g3 g4 gd : Nat) : Prop where
  k : K30 W B g1 g2 g3 g4 gd
  low : Below w.heap.size w W
theorem KB.next {w W W' : World} {B g1 g2 g3 g4 gd : Nat} (h : KB w W B g1 g2 g3 g4 gd) (hb : Below W.heap.size W W') : KB w W' B g1 g2 g3 g4 gd :=
  ⟨h.k.below hb h.k.hB, h.low.trans (hb.mono h.low.size)⟩
theorem KB.get {w W : World} {B g1 g2 g3 g4 gd : Nat} (h : KB w W B g1 g2 g3 g4 gd) : DatB W W.heap.size (.slice (some ⟨gd, 0, none⟩) 4 4) [3, 4, 1, 97] :=
  datB_of (h.k.d.mono h.k.hB) rfl ⟨by decide, by decide⟩
end Go.Proofs.Ytnmhmabifeapkaa.Ord
