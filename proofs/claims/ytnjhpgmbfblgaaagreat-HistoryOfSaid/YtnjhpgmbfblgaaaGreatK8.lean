/- Walk of the reference's Valid (commands). -/
import Derived.Test.YtnjhpgmbfblgaaaGreatK7
namespace Go.Proofs.YtnjhpgmbfblgaaaGreat.Ord
set_option maxRecDepth 100000
set_option maxHeartbeats 16000000
open Go.RowKit
set_option linter.unusedVariables false
set_option linter.unusedSimpArgs false
section
variable {P : Program}
/-- a call at an operation that is wanted, guarded or not -/
theorem step_call_r {w : World} {ops : Array Oper} {o : Oper} {a : Act} {K : Act -> World -> Prop} {Q : Exit -> Act -> World -> Prop} {E : Prop} (hw : Region.wanted o (yielded ops a.tmps) = true) (N : Nat) (xs : Array Operand) (ts : Array TypeId)
  (ho : o.op = .call { callee := .value (.func N), args := xs, argTypes := ts }) (vs : Array Value) (hx : xs.map a.eval = vs)
  (fn : Func) (hfn : P.funcs[N]? = some fn) (hname : (fn.name == "runtime.NumGoroutine") = false) (hbody : fn.body.isSome = true)
  (R : Value -> World -> Prop) (hc : Calls P N vs w fun e w' => ∃ u, e = .returned u /\ R u w')
  (h : ∀ u w', R u w' -> K (a.put o.dst u) w') :
  if Region.wanted o (yielded ops a.tmps) = true then Oper.wp P o a w K Q else E := by
 rw [if_pos hw]
 unfold Oper.wp
 have hf : a.eval (.func N) = .func (.func N) #[] #[] := rfl
 have h1 : fn.name ≠ "runtime.NumGoroutine" := by simpa using hname
 have h2 : fn.body ≠ none := by intro h3; simp [h3] at hbody
 have h3 : (callFunc N vs).run P w = .ok (.enter N vs) w := by simp [callFunc, hfn, h1, h2]
 simp [execOp, ho, resolve, invoke, hx, hf, Deferred.ofValue, h3]
 refine hc.mono ?_
 rintro e w' ⟨u, rfl, hR⟩
 exact h u w' hR
end
theorem f174_name : (Tryz.f174.name == "runtime.NumGoroutine") = false := by decide
theorem f174_body : Tryz.f174.body.isSome = true := rfl
theorem f69_name : (Tryz.f69.name == "runtime.NumGoroutine") = false := by decide
theorem f69_body : Tryz.f69.body.isSome = true := rfl
theorem f176_name : (Tryz.f176.name == "runtime.NumGoroutine") = false := by decide
theorem f176_body : Tryz.f176.body.isSome = true := rfl
theorem below_undrew {w w' : World} (h : Below w.drew.heap.size w.drew w') : Below w.heap.size w w' := ⟨h.os, h.tape, h.output, h.size, h.block⟩
theorem cmdEq_symm (a b : CmdR) : cmdEq a b = cmdEq b a := by
 rw [Bool.eq_iff_iff]
 simp only [cmdEq, Bool.and_eq_true, beq_iff_eq, decide_eq_true_eq]
 constructor
 all_goals
  rintro ⟨⟨⟨⟨⟨⟨⟨⟨⟨h1, h2⟩, h3⟩, h4⟩, h5⟩, h6⟩, h7⟩, h8⟩, h9⟩, h0⟩
  exact ⟨⟨⟨⟨⟨⟨⟨⟨⟨h1.symm, h2.symm⟩, h3.symm⟩, h4.symm⟩, h5.symm⟩, h6.symm⟩, h7.symm⟩, h8.symm⟩, h9.symm⟩, h0.symm⟩
def VPost (c : CmdR) (w : World) (e : Ending) (w' : World) : Prop := e = .returned (.bool (validC c)) /\ Below w.heap.size w w'
theorem refValid_no (c : CmdR) (op : Int) (hop : c.op = op) (hno : ¬ (1 <= op /\ op <= 15)) (vk vv vt : Value) (w : World) (hok : CmdOk w w.heap.size c vk vv vt) :
  Calls Tryz.prog 110 #[.agg (cmdC c vk vv vt).toArray] w (VPost c w) := by
 obtain ⟨Ak, ck, Av, cv, At, ct, hvk, hvv, hvt⟩ := cmd_oneL hok
 obtain ⟨nk, hnk⟩ : ∃ n, c.keys.length = n := ⟨_, rfl⟩
 obtain ⟨nv, hnv⟩ : ∃ n, c.val.length = n := ⟨_, rfl⟩
 obtain ⟨nt, hnt⟩ : ∃ n, c.tags.length = n := ⟨_, rfl⟩
 rw [hnk] at hvk
 rw [hnv] at hvv
 rw [hnt] at hvt
 have hL : cmdC c vk vv vt = [.int .i64 op, .string c.key, .slice Ak nk ck, .slice Av nv cv, .slice At nt ct, .int .u64 c.life, .int .u64 c.ver, .string c.tag, .string c.pre, .string c.chi] := by subst hvk; subst hvv; subst hvt; rw [<- hop]; rfl
 have HV := kp (validC_no (c := c) (by rw [hop]; exact hno))
 rw [hL]
 have hB := below1 w (.cells [.int .i64 op, .string c.key, .slice Ak nk ck, .slice Av nv cv, .slice At nt ct, .int .u64 c.life, .int .u64 c.ver, .string c.tag, .string c.pre, .string c.chi].toArray 36)
 have HB := kp hB
 clear hok hvk hvv hvt hL hnk hnv hnt hop hB
 by_cases h1 : op < 1
 focus
  have g1 : decide (op < 1) = true := by simp; omega
 rotate_left 1
 focus
  have g1 : decide (op < 1) = false := by simp; omega
  have g2 : decide (15 < op) = true := by simp; omega
 rotate_left 1
 rotate_right 2
 iterate 2
  ·clear hno h1
   go_enter Tryz.func110, Tryz.ntmps110
   go_wp2_with fail
   go_quiet (fail)
   all_goals
    go_wp2_with fail
    go_ret
    exact rb HV.out (HB.out.trans ⟨rfl, rfl, rfl, Nat.le_refl _, fun _ _ => rfl⟩)
theorem cells10 {w : World} {b : Nat} {t : TypeId} {v0 v1 v2 v3 v4 v5 v6 v7 v8 v9 : Value} (h : RowL w b t [v0, v1, v2, v3, v4, v5, v6, v7, v8, v9]) :
  w.cell? ⟨b, 0, none⟩ = some v0 /\ w.cell? ⟨b, 1, none⟩ = some v1 /\ w.cell? ⟨b, 2, none⟩ = some v2 /\ w.cell? ⟨b, 3, none⟩ = some v3 /\ w.cell? ⟨b, 4, none⟩ = some v4 /\ w.cell? ⟨b, 5, none⟩ = some v5 /\ w.cell? ⟨b, 6, none⟩ = some v6 /\ w.cell? ⟨b, 7, none⟩ = some v7 /\ w.cell? ⟨b, 8, none⟩ = some v8 /\ w.cell? ⟨b, 9, none⟩ = some v9 :=
 ⟨h.cell (j := 0) rfl, h.cell (j := 1) rfl, h.cell (j := 2) rfl, h.cell (j := 3) rfl, h.cell (j := 4) rfl, h.cell (j := 5) rfl, h.cell (j := 6) rfl, h.cell (j := 7) rfl, h.cell (j := 8) rfl, h.cell (j := 9) rfl⟩
theorem alw_any (ch : Int) (hc : ch ∈ lettersC) (c : CmdR) (vk vv vt : Value) (w : World) (h : AlwPre w c vk vv vt) : Calls Tryz.prog 176 #[.agg (cmdC c vk vv vt).toArray, .int .u8 ch] w (AlwPost c ch w) := by
 simp only [lettersC, List.mem_cons, List.not_mem_nil, or_false] at hc
 rcases hc with rfl | rfl | rfl | rfl | rfl | rfl | rfl | rfl | rfl
 ·exact alw_k c vk vv vt w h
 ·exact alw_v c vk vv vt w h
 ·exact alw_t c vk vv vt w h
 ·exact alw_l c vk vv vt w h
 ·exact alw_n c vk vv vt w h
 ·exact alw_m c vk vv vt w h
 ·exact alw_g c vk vv vt w h
 ·exact alw_p c vk vv vt w h
 ·exact alw_c c vk vv vt w h
theorem all_take_bad {l : List Int} {k : Nat} (h : k < l.length) {f : Int -> Bool} (hf : f (l.getD k 0) = false) : l.all f = false := by
 rw [Bool.eq_false_iff]
 intro h2
 have h3 := List.all_eq_true.1 h2 (l.getD k 0) (by rw [List.getD_eq_getElem?_getD, List.getElem?_eq_getElem h]; exact List.getElem_mem h)
 rw [hf] at h3
 cases h3
theorem refValid_gen (c : CmdR) (op : Int) (s : ByteArray) (l : List Int) (hsp : SpellsC s l) (HN : Hid (∀ W, Calls Tryz.prog 175 #[.int .i64 op] W fun e w' => e = .returned (.string s) /\ w' = W)) (hop : c.op = op) (hin : 1 <= op /\ op <= 15) (hs : CmdS c) (hoc : okC c = l.all (alw c)) (vk vv vt : Value) (w : World) (hok : CmdOk w w.heap.size c vk vv vt) :
  Calls Tryz.prog 110 #[.agg (cmdC c vk vv vt).toArray] w (VPost c w) := by
 obtain ⟨Ak, ck, Av, cv, At, ct, hvk, hvv, hvt⟩ := cmd_oneL hok
 obtain ⟨nk, hnk⟩ : ∃ n, c.keys.length = n := ⟨_, rfl⟩
 obtain ⟨nv, hnv⟩ : ∃ n, c.val.length = n := ⟨_, rfl⟩
 obtain ⟨nt, hnt⟩ : ∃ n, c.tags.length = n := ⟨_, rfl⟩
 rw [hnk] at hvk
 rw [hnv] at hvv
 rw [hnt] at hvt
 have hL : cmdC c vk vv vt = [.int .i64 op, .string c.key, .slice Ak nk ck, .slice Av nv cv, .slice At nt ct, .int .u64 c.life, .int .u64 c.ver, .string c.tag, .string c.pre, .string c.chi] := by subst hvk; subst hvv; subst hvt; rw [<- hop]; rfl
 obtain ⟨n, hn⟩ : ∃ n, l.length = n := ⟨_, rfl⟩
 have hsz : s.size = n := hsp.size.trans hn
 have hn100 : n <= 100 := by rw [<- hn]; exact hsp.few
 have hB := below1 w (.cells [.int .i64 op, .string c.key, .slice Ak nk ck, .slice Av nv cv, .slice At nt ct, .int .u64 c.life, .int .u64 c.ver, .string c.tag, .string c.pre, .string c.chi].toArray 36)
 have hr := RowL.new w 36 [.int .i64 op, .string c.key, .slice Ak nk ck, .slice Av nv cv, .slice At nt ct, .int .u64 c.life, .int .u64 c.ver, .string c.tag, .string c.pre, .string c.chi]
 obtain ⟨W1, hW1⟩ : ∃ W, W = w.alloc (.cells [.int .i64 op, .string c.key, .slice Ak nk ck, .slice Av nv cv, .slice At nt ct, .int .u64 c.life, .int .u64 c.ver, .string c.tag, .string c.pre, .string c.chi].toArray 36) := ⟨_, rfl⟩
 rw [<- hW1] at hB hr
 have hok1 := (hok.below hB (Nat.le_refl _)).mono hB.size
 have HO := kp (only174 c (by rw [hop]; exact hin) vk vv vt W1.drew hok1)
 have HA := kp (fun (ch : Int) (W : World) (F : Calls Tryz.prog 176 #[.agg (cmdC c vk vv vt).toArray, .int .u8 ch] W (AlwPost c ch W)) => show Calls Tryz.prog 176 #[.agg #[.int .i64 op, .string c.key, .slice Ak nk ck, .slice Av nv cv, .slice At nt ct, .int .u64 c.life, .int .u64 c.ver, .string c.tag, .string c.pre, .string c.chi], .int .u8 ch] W (AlwPost c ch W) by rw [hL] at F; exact F)
 have HQ := kp (fun (vk' vv' vt' : Value) (W : World) (h1 : CmdOk W W.heap.size c vk vv vt) (h2 : CmdOk W W.heap.size (onlyC c) vk' vv' vt') => show Calls Tryz.prog 69 #[.agg #[.int .i64 op, .string c.key, .slice Ak nk ck, .slice Av nv cv, .slice At nt ct, .int .u64 c.life, .int .u64 c.ver, .string c.tag, .string c.pre, .string c.chi], .agg (cmdC (onlyC c) vk' vv' vt').toArray] W (fun e w' => e = .returned (.bool (cmdEq c (onlyC c))) /\ Below W.heap.size W w') by have := cmd44 c (onlyC c) vk vv vt vk' vv' vt' W h1 h2; rw [hL] at this; exact this)
 have HR := kp hr
 have HB := kp hB
 have HOK := kp hok
 have HS := kp hs
 have HOC := kp hoc
 have HV := kp (fun h => validC_eq (c := c) (by rw [hop]; exact hin) h)
 have HVB := kp (fun h => validC_bad (c := c) h)
 have HSP := kp hsp
 have HLN := kp hn
 have g1 : decide (op < 1) = false := decide_eq_false (by omega)
 have g2 : decide (15 < op) = false := decide_eq_false (by omega)
 rw [hL] at HO ⊢
 clear hok hok1 hs hL hoc hop hB hr hvk hvv hvt hnk hnv hnt hsp hn hin
 go_enter Tryz.func110, Tryz.ntmps110
 go_wp2_with fail
 rw [<- hW1]
 clear hW1
 obtain ⟨d0, d1, d2, d3, d4, d5, d6, d7, d8, d9⟩ := cells10 HR.out.drew
 go_region_law (first
  | ((with_reducible refine step_call_r (o := ⟨some 16, _, _, _, _, _⟩) ?_ 174 _ _ rfl #[.agg #[.int .i64 op, .string c.key, .slice Ak nk ck, .slice Av nv cv, .slice At nt ct, .int .u64 c.life, .int .u64 c.ver, .string c.tag, .string c.pre, .string c.chi]] ?_ Tryz.f174 Tryz.func174 f174_name f174_body (fun u w6 => ∃ vk' vv' vt', u = .agg (cmdC (onlyC c) vk' vv' vt').toArray /\ CmdOk w6 w6.heap.size (onlyC c) vk' vv' vt' /\ Below W1.drew.heap.size W1.drew w6) ?_ ?_); (· rfl); (· simp only [y1, y2, y3]; rfl); (· exact HO.out.mono fun e w' ⟨a, b, c, h1, h2, h3⟩ => ⟨_, h1, a, b, c, rfl, h2, h3⟩); rintro u6 w6 ⟨vk6, vv6, vt6, rfl, hok6, hb6⟩; have HOK6 := kp hok6; have HB6 := kp hb6; have HR6 := kp (HR.out.of_block (w := W1.drew) (hb6.block _ HR.out.lt)); clear hok6 hb6; obtain ⟨p0, p1, p2, p3, p4, p5, p6, p7, p8, p9⟩ := cells10 HR6.out; skip)
  | ((with_reducible refine step_call_r (o := ⟨some 17, _, _, _, _, _⟩) ?_ 69 _ _ rfl #[.agg #[.int .i64 op, .string c.key, .slice Ak nk ck, .slice Av nv cv, .slice At nt ct, .int .u64 c.life, .int .u64 c.ver, .string c.tag, .string c.pre, .string c.chi], .agg (cmdC (onlyC c) vk6 vv6 vt6).toArray] ?_ Tryz.f69 Tryz.func69 f69_name f69_body (fun u w7 => u = .bool (cmdEq c (onlyC c)) /\ Below w6.heap.size w6 w7) ?_ ?_); (· rfl); (· simp only [y1, y2, y3]; rfl); (· exact (HQ.out vk6 vv6 vt6 w6 (((HOK.out.below HB.out (Nat.le_refl _)).mono HB.out.size |>.below (w := W1.drew) HB6.out (Nat.le_refl _)).mono HB6.out.size) HOK6.out).mono fun e w' ⟨h1, h2⟩ => ⟨_, h1, rfl, h2⟩); rintro u7 w7 ⟨rfl, hb7⟩; have HB7 := kp (HB6.out.trans (hb7.mono HB6.out.size)); clear hb7))
 all_goals
  have HBW : Hid (Below w.heap.size w w7) := kp (HB.out.trans ((below_undrew HB7.out).mono HB.out.size))
  have HRW := kp (HR.out.of_block (w := W1.drew) (HB7.out.block _ HR.out.lt))
  clear d0 d1 d2 d3 d4 d5 d6 d7 d8 d9
  cases hq : cmdEq c (onlyC c)
  ·have hv : validC c = false := by
    cases hk : okC c
    ·exact HVB.out hk
    ·rw [HV.out hk, cmdEq_symm, hq]
   have HVF := kp hv
   clear hv
   go_wp2_with fail
   go_ret
   exact rb HVF.out HBW.out
  have HVQ := kp (show okC c = true -> validC c = true from fun h => by rw [HV.out h, cmdEq_symm, hq])
  have e0 : w7.cell? ⟨w.heap.size, 0, none⟩ = some (.int .i64 op) := HRW.out.cell rfl
  go_wp2_with fail
  refine (HN.out w7).mono ?_
  rintro e w8 ⟨rfl, rfl⟩
  obtain ⟨w7, rfl⟩ : ∃ w, w = w8 := ⟨_, rfl⟩
  go_wp2_with fail
  go_loopw [4] (fun j wr => ∃ k : Nat, k <= n /\ j = .int .i64 k /\ Hid ((l.take k).all (alw c) = true) /\ RowL wr w.heap.size 36 [.int .i64 op, .string c.key, .slice Ak nk ck, .slice Av nv cv, .slice At nt ct, .int .u64 c.life, .int .u64 c.ver, .string c.tag, .string c.pre, .string c.chi] /\ Below w.heap.size w wr) (fun j _ => n - (intOf j).toNat)
  case atStart => exact ⟨0, Nat.zero_le _, by go_num, kp rfl, HRW.out, HBW.out⟩
  case round =>
   obtain ⟨k, hk, rfl, HP, hrw, hbw⟩ := hrel
   have HX := kp hrw
   have HBX := kp hbw
   clear hrw hbw e0
   by_cases hlt : k < n
   ·have hg : decide ((k : Int) < (n : Int)) = true := decide_eq_true (by omega)
    have hi : 0 <= (k : Int) /\ (k : Int) < (s.size : Int) := by omega
    have hks : k < s.size := by omega
    have hch := HSP.out.all k hks
    have hlet := HSP.out.letters k (by rw [HLN.out]; exact hlt)
    have HTK := kp (take_snocC l (k := k) (by rw [HLN.out]; exact hlt))
    have HBAD := kp (fun (h : alw c (l.getD k 0) = false) => HOC.out.trans (all_take_bad (by rw [HLN.out]; exact hlt) h))
    obtain ⟨ch, hce⟩ : ∃ ch, l.getD k 0 = ch := ⟨_, rfl⟩
    rw [hce] at hch hlet HTK HBAD
    clear hce
    have hidx : ∀ W, (Instr.index 9 (.string s) (.int .i64 (k : Int))).run Tryz.prog W = .ok (.int .u8 ch) W := fun W => by
     rw [run_index_string _ _ _ _ _ Tryz.underlying9, dif_pos hi, <- hch]
     simp
    have hok' := (HOK.out.below HBX.out (Nat.le_refl _)).mono HBX.out.size
    have HC := kp (HA.out ch wr.drew (alw_any ch hlet c vk vv vt wr.drew ⟨hok', HS.out⟩))
    clear hok' hi hch hks hlet
    obtain ⟨d0, d1, d2, d3, d4, d5, d6, d7, d8, d9⟩ := cells10 HX.out.drew
    go_wp2_with fail
    go_region_law ((with_reducible refine step_call_r (o := ⟨some 33, _, _, _, _, _⟩) ?_ 176 _ _ rfl #[.agg #[.int .i64 op, .string c.key, .slice Ak nk ck, .slice Av nv cv, .slice At nt ct, .int .u64 c.life, .int .u64 c.ver, .string c.tag, .string c.pre, .string c.chi], .int .u8 ch] ?_ Tryz.f176 Tryz.func176 f176_name f176_body (fun u w6 => u = .bool (alw c ch) /\ Below wr.drew.heap.size wr.drew w6) ?_ ?_); (· rfl); (· simp only [y1, y2, y3]; rfl); (· exact HC.out.mono fun e w' ⟨h1, h2⟩ => ⟨_, h1, rfl, h2⟩); rintro u6 w6 ⟨rfl, hb6⟩; have HB6 := kp hb6; clear hb6)
    all_goals
     have HXN := kp (HX.out.of_block (w := wr.drew) (HB6.out.block _ HX.out.lt))
     have HBN : Hid (Below w.heap.size w w6) := kp (HBX.out.trans ((below_undrew HB6.out).mono HBX.out.size))
     clear d0 d1 d2 d3 d4 d5 d6 d7 d8 d9
     cases ha : alw c ch
     ·have HVF := kp (HVB.out (HBAD.out ha))
      go_wp2_with fail
      go_ret
      exact rb HVF.out HBN.out
     ·have HPN := kp (show (l.take (k + 1)).all (alw c) = true by rw [HTK.out, List.all_append, HP.out]; simp [ha])
      go_wp2_with fail
      go_roundw
      case rel => exact ⟨k + 1, by omega, by go_num, HPN, HXN.out, HBN.out⟩
      case measure => simp [intOf]; omega
   ·obtain rfl : k = n := by omega
    have hg : decide ((k : Int) < (k : Int)) = false := by simp
    have hlt2 : l.take k = l := by rw [<- HLN.out]; exact List.take_length
    have HVF := kp (HVQ.out (by rw [HOC.out, <- hlt2]; exact HP.out))
    clear hlt2
    go_wp2_with fail
    go_ret
    exact rb HVF.out HBX.out
theorem refValid110 (c : CmdR) (hs : CmdS c) (vk vv vt : Value) (w : World) (hok : CmdOk w w.heap.size c vk vv vt) :
  Calls Tryz.prog 110 #[.agg (cmdC c vk vv vt).toArray] w (VPost c w) := by
 by_cases hr : 1 <= c.op /\ c.op <= 15
 ·have key : ∀ (s : ByteArray) (l : List Int), SpellsC s l -> Hid (∀ W, Calls Tryz.prog 175 #[.int .i64 c.op] W fun e w' => e = .returned (.string s) /\ w' = W) -> okC c = l.all (alw c) -> Calls Tryz.prog 110 #[.agg (cmdC c vk vv vt).toArray] w (VPost c w) := fun s l h1 h2 h3 => refValid_gen c c.op s l h1 h2 rfl hr hs h3 vk vv vt w hok
  rcases (by omega : (c.op = 1 ∨ c.op = 2) ∨ c.op = 3 ∨ (c.op = 4 ∨ c.op = 7 ∨ c.op = 13) ∨ c.op = 5 ∨ c.op = 6 ∨ (c.op = 8 ∨ c.op = 9) ∨ c.op = 10 ∨ (c.op = 11 ∨ c.op = 12) ∨ (c.op = 14 ∨ c.op = 15)) with ho | ho | ho | ho | ho | ho | ho | ho | ho
  ·exact key _ _ spells_set (kp fun W => needs_set c.op ho W) (by rcases ho with h | h <;> simp [okC, alw, okG, inR, h, Bool.and_assoc])
  ·exact key _ _ spells_cas (kp fun W => needs_cas c.op ho W) (by have h := ho; simp [okC, alw, okG, inR, h, Bool.and_assoc])
  ·exact key _ _ spells_key (kp fun W => needs_key c.op ho W) (by rcases ho with h | h | h <;> simp [okC, alw, okG, inR, h, Bool.and_assoc])
  ·exact key _ _ spells_mget (kp fun W => needs_mget c.op ho W) (by have h := ho; simp [okC, alw, okG, inR, h, Bool.and_assoc])
  ·exact key _ _ spells_touch (kp fun W => needs_touch c.op ho W) (by have h := ho; simp [okC, alw, okG, inR, h, Bool.and_assoc])
  ·exact key _ _ spells_tag (kp fun W => needs_tag c.op ho W) (by rcases ho with h | h <;> simp [okC, alw, okG, inR, h, Bool.and_assoc])
  ·exact key _ _ spells_pre (kp fun W => needs_pre c.op ho W) (by have h := ho; simp [okC, alw, okG, inR, h, Bool.and_assoc])
  ·exact key _ _ spells_dep (kp fun W => needs_dep c.op ho W) (by rcases ho with h | h <;> simp [okC, alw, okG, inR, h, Bool.and_assoc])
  ·exact key _ _ spells_none (kp fun W => needs_none c.op ho W) (by rcases ho with h | h <;> simp [okC, alw, okG, inR, h, Bool.and_assoc])
 ·exact refValid_no c _ rfl hr vk vv vt w hok
end Go.Proofs.YtnjhpgmbfblgaaaGreat.Ord
