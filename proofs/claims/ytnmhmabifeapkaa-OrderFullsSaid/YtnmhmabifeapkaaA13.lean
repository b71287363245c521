/- Walk of order.Count: the ways to each set of calls. -/
import Derived.Test.YtnmhmabifeapkaaP1
import Derived.Test.YtnmhmabifeapkaaB8
namespace Go.Proofs.Ytnmhmabifeapkaa.Ord
open Go.RowKit Go.Sort
set_option linter.unusedVariables false

section
variable {P : Program}
/-- a new array of one-cell elements: a row of the call's own -/
theorem wpList_alloc_own {ops : Array Oper} {rest : List Oper} {o : Oper} {a : Act} {w : World} {Q : Exit → Act → World → Prop} (hgd : o.guard = none) (t : TypeId) (ho : o.op = .alloc t)
    (z : Value) (size bytes : Nat) (hinfo : (P.info? t).map (fun i => (i.zero, i.size, i.bytes)) = some (some z, size, bytes)) (n : Nat) (xs : List Value) (hc : z.cells.toList = xs) (hn : xs.length = n) (hm : n ≤ maxLen)
    (h : ∀ w', w'.ownsRow w.heap.size t 1 (.slice (some ⟨w.heap.size, 0, none⟩) n n) n xs → RowKit.Below w.heap.size w w' → w'.heap.size = w.heap.size + 1 →
      wpList P ops Q rest (a.put o.dst (.pointer (some ⟨w.heap.size, 0, none⟩))) w') : wpList P ops Q (o :: rest) a w := by
  obtain ⟨i, hi, hz, h4, h5⟩ := info_parts hinfo
  refine wpList_plain hgd fun K hK => ?_
  have h1 := h (w.alloc (.cells z.cells t)) ⟨by omega, .inr ⟨w.heap.size, n, z.cells, rfl, Nat.le_refl _, heap_alloc_new w _, Nat.le_refl _, hm, by rw [← Array.length_toList, hc]; omega, by rw [hc, List.take_of_length_le (by omega)]⟩⟩ (below1 w _) (by simp)
  unfold Oper.wp execOp
  simp [ho, Instr.alloc, zeroValue, typeInfo, hi, hz, newVar, newRow, Result.andThen]
  exact hK _ _ h1
end

noncomputable def zero96 : Value := ((Try.prog.info? 96).bind (·.zero)).getD undef
noncomputable def zero97 : Value := ((Try.prog.info? 97).bind (·.zero)).getD undef
theorem Try.info96 : (Try.prog.info? 96).map (fun i => (i.zero, i.size, i.bytes)) = some (some zero96, 12, 96) := by kernel_rfl
theorem Try.info97 : (Try.prog.info? 97).map (fun i => (i.zero, i.size, i.bytes)) = some (some zero97, 4096, 32768) := by kernel_rfl
theorem zero96_cells : zero96.cells.toList = List.replicate 12 (.int .u64 0) := by kernel_rfl
theorem zero97_cells : zero97.cells.toList = List.replicate 4096 (.int .i64 0) := by kernel_rfl

/-- must call a of the done come before call b of them -/
def bef (l : List CallC) (a b : Nat) : Bool := a != b && before (at_ l (((doneN l).getD a 0 : Nat) : Int)) (at_ l (((doneN l).getD b 0 : Nat) : Int))
/-- those among the first j that must come before i, as bits -/
def predK (bf : Nat → Nat → Bool) (i : Nat) : Nat → Nat
  | 0 => 0
  | j + 1 => if bf j i then predK bf i j ||| 2 ^ j else predK bf i j
theorem predK_lt (bf : Nat → Nat → Bool) (i : Nat) : ∀ j, predK bf i j < 2 ^ j
  | 0 => by simp [predK]
  | j + 1 => by
    have h := predK_lt bf i j
    have h2 : predK bf i j < 2 ^ (j + 1) := Nat.lt_of_lt_of_le h (Nat.pow_le_pow_right (by decide) (by omega))
    rw [predK]
    split
    · exact Nat.or_lt_two_pow h2 (Nat.pow_lt_pow_right (by decide) (by omega))
    · exact h2
theorem predK_small (bf : Nat → Nat → Bool) (i : Nat) {j : Nat} (hj : j ≤ 12) : predK bf i j < 4096 :=
  Nat.lt_of_lt_of_le (predK_lt bf i j) (Nat.pow_le_pow_right (n := 2) (by decide) hj)
def predV (bf : Nat → Nat → Bool) (nd i j a : Nat) : Nat := if a < i then predK bf a nd else if a = i then predK bf i j else 0
def rowP (bf : Nat → Nat → Bool) (nd i j : Nat) : List Value := (List.range 12).map fun (a : Nat) => Value.int .u64 ((predV bf nd i j a : Nat) : Int)
theorem rowP_at (bf : Nat → Nat → Bool) (nd i j : Nat) {a : Nat} (ha : a < 12) : (rowP bf nd i j)[a]? = some (.int .u64 ((predV bf nd i j a : Nat) : Int)) := by simp [rowP, ha]
theorem rowP_zero (bf : Nat → Nat → Bool) (nd : Nat) : rowP bf nd 0 0 = List.replicate 12 (.int .u64 0) := by
  apply List.ext_getElem?
  intro i
  by_cases h : i < 12
  · rw [rowP_at _ _ _ _ h, List.getElem?_replicate, if_pos h]
    simp [predV, predK]
  · rw [List.getElem?_eq_none (by simp [rowP]; omega), List.getElem?_eq_none (by simp; omega)]
theorem rowP_next (bf : Nat → Nat → Bool) (nd i : Nat) : rowP bf nd i nd = rowP bf nd (i + 1) 0 := by
  unfold rowP
  refine List.map_congr_left fun a _ => ?_
  congr 2
  unfold predV
  by_cases h1 : a < i
  · rw [if_pos h1, if_pos (by omega)]
  · by_cases h2 : a = i
    · subst h2
      rw [if_neg h1, if_pos rfl, if_pos (by omega)]
    · rw [if_neg h1, if_neg h2, if_neg (by omega)]
      split <;> rfl
theorem rowP_no {bf : Nat → Nat → Bool} {nd i j : Nat} (h : bf j i = false) : rowP bf nd i (j + 1) = rowP bf nd i j := by
  unfold rowP
  refine List.map_congr_left fun a _ => ?_
  unfold predV
  rw [predK, h]
  rfl
theorem rowP_yes {bf : Nat → Nat → Bool} {nd i j : Nat} (hi : i < 12) (h : bf j i = true) : (rowP bf nd i j).set i (.int .u64 ((predK bf i j ||| 2 ^ j : Nat) : Int)) = rowP bf nd i (j + 1) := by
  apply List.ext_getElem?
  intro a
  rw [List.getElem?_set]
  by_cases ha : a < 12
  · rw [rowP_at _ _ _ _ ha, rowP_at _ _ _ _ ha]
    by_cases e : i = a
    · subst e
      rw [if_pos rfl, if_pos (by simp [rowP]; omega)]
      simp [predV, predK, h]
    · rw [if_neg e]
      have : ¬ a = i := fun h => e h.symm
      simp [predV, this]
  · rw [List.getElem?_eq_none (l := rowP bf nd i j) (by simp [rowP]; omega), List.getElem?_eq_none (l := rowP bf nd i (j + 1)) (by simp [rowP]; omega)]
    rw [if_neg (by omega)]
theorem doneN_at {l : List CallC} {i M : Nat} (hM : (doneN l).length = M) (hi : i < M) : ∃ d : Nat, (doneL l)[i]? = some (d : Int) ∧ d < l.length ∧ (doneN l).getD i 0 = d := by
  subst hM
  refine ⟨(doneN l)[i], ?_, doneN_lt (List.getElem_mem hi), by simp [List.getD, hi]⟩
  rw [doneL_eq, List.getElem?_map, List.getElem?_eq_getElem hi]; rfl
theorem bef_of {l : List CallC} {a b da db : Nat} (h : a ≠ b) (ha : (doneN l).getD a 0 = da) (hb : (doneN l).getD b 0 = db) : bef l a b = before (at_ l da) (at_ l db) := by
  unfold bef
  rw [ha, hb]
  simp [h]
theorem bef_self (l : List CallC) (a : Nat) : bef l a a = false := by simp [bef]

def rowS (p : Nat → Nat) (nd m k : Nat) : List Value := (List.range 4096).map fun (x : Nat) => Value.int .i64 ((S p nd m k x : Nat) : Int)
theorem rowS_at (p : Nat → Nat) (nd m k : Nat) {x : Nat} (hx : x < 4096) : (rowS p nd m k)[x]? = some (.int .i64 ((S p nd m k x : Nat) : Int)) := by simp [rowS, hx]
theorem rowS_len (p : Nat → Nat) (nd m k : Nat) : (rowS p nd m k).length = 4096 := by simp [rowS]
theorem rowS_init (p : Nat → Nat) (nd : Nat) : (List.replicate 4096 (Value.int .i64 0)).set 0 (.int .i64 1) = rowS p nd 0 0 := by
  apply List.ext_getElem?
  intro i
  rw [List.getElem?_set, List.length_replicate]
  by_cases h : i < 4096
  · rw [rowS_at _ _ _ _ h, S_init, List.getElem?_replicate, if_pos h]
    by_cases e : 0 = i
    · subst e; rfl
    · rw [if_neg e, if_neg (fun h => e h.symm)]; rfl
  · rw [List.getElem?_eq_none (l := rowS p nd 0 0) (by rw [rowS_len]; omega), List.getElem?_replicate, if_neg h, if_neg (by omega)]
theorem rowS_next (p : Nat → Nat) (nd m : Nat) : rowS p nd m nd = rowS p nd (m + 1) 0 := by
  unfold rowS
  refine List.map_congr_left fun a _ => ?_
  rw [S_next]
theorem rowS_no {p : Nat → Nat} {nd m k : Nat} (h : mayB m k (p k) = false) : rowS p nd m (k + 1) = rowS p nd m k := by
  unfold rowS
  refine List.map_congr_left fun a _ => ?_
  rw [S_no h]
theorem rowS_yes {p : Nat → Nat} {nd m k : Nat} (hk : k < nd) (hm : m < 2 ^ nd) (h : mayB m k (p k) = true) (hq : m ||| 2 ^ k < 4096) :
    (rowS p nd m k).set (m ||| 2 ^ k) (.int .i64 ((S p nd m k (m ||| 2 ^ k) + S p nd m k m : Nat) : Int)) = rowS p nd m (k + 1) := by
  apply List.ext_getElem?
  intro i
  rw [List.getElem?_set, rowS_len]
  by_cases hi : i < 4096
  · rw [rowS_at _ _ _ _ hi, rowS_at _ _ _ _ hi, S_yes hk hm h]
    by_cases e : m ||| 2 ^ k = i
    · subst e; simp [hi]
    · rw [if_neg e, if_neg (fun h => e h.symm)]
  · rw [List.getElem?_eq_none (l := rowS p nd m (k + 1)) (by rw [rowS_len]; omega), List.getElem?_eq_none (l := rowS p nd m k) (by rw [rowS_len]; omega), if_neg (by omega)]

/-- how many orders of the done hold: the table's last cell -/
def countN (l : List CallC) : Nat := F (fun k => predK (bef l) k (doneN l).length) (doneN l).length (2 ^ (doneN l).length - 1)
def CountPost (l : List CallC) (w : World) (e : Ending) (w' : World) : Prop := e = .returned (.tuple #[.int .i64 ((countN l : Nat) : Int), .int .i64 0]) ∧ RowKit.Below w.heap.size w w'
theorem countPost {l : List CallC} {w w' : World} {M K K1 : Nat} {p : Nat → Nat} (hM : (doneN l).length = M) (hM12 : M ≤ 12) (hp : p = fun k => predK (bef l) k M) (hK : K = 2 ^ M) (hK1 : K1 = K - 1) (hb : RowKit.Below w.heap.size w w') :
    CountPost l w (.returned (.tuple #[.int .i64 ((S p M K 0 K1 : Nat) : Int), .int .i64 0])) w' := by
  subst hM hp hK hK1
  refine ⟨?_, hb⟩
  rw [S_done hM12 (Nat.sub_lt (Nat.pow_pos (by decide)) (by decide))]
  rfl
theorem or_small {m k M K : Nat} (hK : K = 2 ^ M) (hm : m < K) (hk : k < M) : m ||| 2 ^ k < K := by
  subst hK
  exact Nat.or_lt_two_pow hm (Nat.pow_lt_pow_right (by decide) hk)
theorem or_u64 {m k : Nat} (hm : m < 4096) (hk : k < 12) : bits .or .u64 (m : Int) (IntKind.u64.wrap (2 ^ k)) = ((m ||| 2 ^ k : Nat) : Int) := by
  have h2 : (2 : Nat) ^ k < 2 ^ 64 := Nat.pow_lt_pow_right (by decide) (by omega)
  rw [← or_nat (by omega) h2, ← u64_nat h2]
  norm_cast
theorem add_i64 {a b : Nat} (ha : a ≤ 8916100448256) (hb : b ≤ 8916100448256) : IntKind.i64.wrap ((a : Int) + (b : Int)) = ((a + b : Nat) : Int) := by
  rw [IntWalk.i64_in _ (by omega)]; omega
theorem shl_i64 {M : Nat} (hM : M ≤ 12) : IntKind.i64.wrap (2 ^ M) = ((2 ^ M : Nat) : Int) := by
  have h : 2 ^ M ≤ 4096 := Nat.pow_le_pow_right (n := 2) (by decide) hM
  have e : (2 : Int) ^ M = ((2 ^ M : Nat) : Int) := by norm_cast
  rw [e]
  generalize 2 ^ M = t at h
  rw [IntWalk.i64_in _ (by omega)]

set_option maxRecDepth 100000 in
set_option maxHeartbeats 4000000 in
theorem count_any (A : Option Addr) (l : List CallC) (cap : Nat) (w : World) (hl : l.length ≤ 4096) (hA : CallsAt w w.heap.size A l) (hnd : (doneN l).length ≤ 12) :
    Calls Try.prog 33 #[.slice A l.length cap] w fun e w' => CountPost l w e w' := by
  have hD := Lib.hid (done_any A l cap w (by omega) hA)
  have hdl := Lib.hid (doneL_eq l)
  have hlt' := Lib.hid (fun x (h : x ∈ doneN l) => doneN_lt h)
  generalize hN : l.length = N at *
  have HN := Lib.hid hN
  generalize hM : (doneN l).length = M at *
  have HM := Lib.hid hM
  have hM2 := Lib.hid (show (doneL l).length = M by rw [doneL_eq, List.length_map, hM])
  clear hN hM
  have hg : decide ((4096 : Int) < (N : Int)) = false := by simp; omega
  have hg2 : decide ((12 : Int) < (M : Int)) = false := by simp; omega
  have hmf : ∀ fn first cap w, (Instr.makeFunc fn first cap).run Try.prog w = .ok (.func fn first cap) w := fun _ _ _ _ => rfl
  go_enter Try.func33, Try.ntmps33
  go_wp2_with fail
  refine hD.out.mono ?_
  rintro e w1 ⟨v1, rfl, hown1, hb1⟩
  rw [hM2.out] at hown1
  obtain ⟨A1, c1, rfl⟩ := owns_len hown1
  have hI1 := IntsAt.of_owns hown1
  clear hown1
  go_wp2_with ((with_reducible refine wpList_alloc_own (o := ⟨some 6, _, _, _, _, _⟩) rfl 96 rfl zero96 12 96 Try.info96 12 _ zero96_cells (by simp) (by decide) ?_); intro w2 hown2 hb2 hsz2)
  rw [← rowP_zero (bef l) M] at hown2
  go_loopw [23] (fun j wr => ∃ k : Nat, k ≤ M ∧ j = .int .i64 k ∧ wr.ownsRow w1.heap.size 96 1 (.slice (some ⟨w1.heap.size, 0, none⟩) 12 12) 12 (rowP (bef l) M k 0) ∧ Below w1.heap.size w1 wr) (fun j _ => M - (intOf j).toNat)
  case atStart => exact ⟨0, Nat.zero_le _, rfl, hown2, hb2⟩
  case round =>
    obtain ⟨i, hi, rfl, hownR, hbR⟩ := hrel
    by_cases hlt : i < M
    · go_wp2_with fail
      go_loopw [27] (fun j wr2 => ∃ m : Nat, m ≤ M ∧ j = .int .i64 m ∧ wr2.ownsRow w1.heap.size 96 1 (.slice (some ⟨w1.heap.size, 0, none⟩) 12 12) 12 (rowP (bef l) M i m) ∧ Below w1.heap.size w1 wr2) (fun j _ => M - (intOf j).toNat)
      case atStart => exact ⟨0, Nat.zero_le _, rfl, hownR, hbR⟩
      case round =>
        obtain ⟨j, hj, rfl, hown3, hb3⟩ := hrel
        by_cases hlt2 : j < M
        · by_cases hij : i = j
          · subst hij
            have hq : ((i : Int) != (i : Int)) = false := by simp
            go_wp2_with fail
            go_quiet (fail)
            have hb4 : Below w1.heap.size w1 (wr.drewN nq) := ⟨hb3.os, hb3.tape, hb3.output, hb3.size, hb3.block⟩
            have hown4 : (wr.drewN nq).ownsRow w1.heap.size 96 1 (.slice (some ⟨w1.heap.size, 0, none⟩) 12 12) 12 (rowP (bef l) M i (i + 1)) := by rw [rowP_no (bef_self l i)]; exact hown3
            go_wp2_with fail
            go_roundw
            case rel => exact ⟨i + 1, by omega, by go_num, hown4, hb4⟩
            case measure => simp [intOf]; omega
          · have hq : ((i : Int) != (j : Int)) = true := by simp; omega
            obtain ⟨di, hdi, hdi1, hdi2⟩ := doneN_at HM.out hlt
            obtain ⟨dj, hdj, hdj1, hdj2⟩ := doneN_at HM.out hlt2
            obtain ⟨bx, ox, rfl, hbX, hxi⟩ := (hI1.below hb3 (Nat.le_refl _)) i (by rw [hM2.out]; exact hlt)
            obtain ⟨_, _, e1, _, hxj⟩ := (hI1.below hb3 (Nat.le_refl _)) j (by rw [hM2.out]; exact hlt2)
            cases e1
            have q1 := cell_regrown (hxi _ hdi)
            have q2 := cell_regrown (hxj _ hdj)
            have hbw := hb1.trans (hb3.mono hb1.size)
            obtain ⟨b, off, rfl, hbB, hci⟩ := callsAt_at (hA.below hbw (Nat.le_refl _)) (n := di) hdi1
            obtain ⟨_, _, e1, _, hcj⟩ := callsAt_at (hA.below hbw (Nat.le_refl _)) (n := dj) hdj1
            cases e1
            have Hi := Lib.hid hci.regrown
            have Hj := Lib.hid hcj.regrown
            have HB := Lib.hid (bef_of (l := l) (a := j) (b := i) (fun h => hij h.symm) hdj2 hdi2)
            rw [HN.out] at hdi1 hdj1
            clear hci hcj hxi hxj hdi hdj hdi2 hdj2
            go_wp2_with fail
            refine wp_region_quiet_below (by kernel_rfl) (by kernel_rfl) ?_
            repeat (first
              | ((with_reducible refine qk_load_agg_want (o := ⟨some 40, _, _, _, _, _⟩) 64 _ rfl ⟨b, off + dj * 23, none⟩ ?_ (at_ l dj).cells _ Hj.out Try.underlying64 rfl (callSize _) ?_ ?_); (· rfl); (· rfl); simp only [Act.put, List.setIfInBounds_toArray, List.set_cons_succ, List.set_cons_zero])
              | ((with_reducible refine qk_load_agg_want (o := ⟨some 47, _, _, _, _, _⟩) 64 _ rfl ⟨b, off + di * 23, none⟩ ?_ (at_ l di).cells _ Hi.out Try.underlying64 rfl (callSize _) ?_ ?_); (· rfl); (· rfl); simp only [Act.put, List.setIfInBounds_toArray, List.set_cons_succ, List.set_cons_zero])
              | go_big_quiet_step ((go_at_call 28; exact Calls.regrown_of (before_any (at_ l dj) (at_ l di) _))))
            refine wpQuiet_nil ?_
            intro W3 hW3
            have hb4 := hb3.trans ((regrown_below hW3).mono hb3.size)
            have hown4 := owns_below hown3 (regrown_below hW3)
            rw [← HB.out]
            clear hW3 q1 q2
            obtain ⟨bv, hbv⟩ : ∃ bv, bef l j i = bv := ⟨_, rfl⟩
            rw [hbv]
            have HV := Lib.hid hbv
            clear hbv
            cases bv
            · rw [← rowP_no HV.out] at hown4
              go_wp2_with fail
              go_roundw
              case rel => exact ⟨j + 1, by omega, by go_num, hown4, hb4⟩
              case measure => simp [intOf]; omega
            · have hp := predK_small (bef l) i (j := j) (by omega)
              have c1 : W3.cell? ⟨w1.heap.size, i, none⟩ = some (.int .u64 ((predK (bef l) i j : Nat) : Int)) := by
                rw [hown4.cellAt i (by omega), rowP_at _ _ _ _ (by omega)]; simp [predV]
              have f1 := hown4.frozenAt i
              have hor : bits .or .u64 ((predK (bef l) i j : Nat) : Int) (IntKind.u64.wrap (2 ^ j)) = ((predK (bef l) i j ||| 2 ^ j : Nat) : Int) := by
                have h2 : (2 : Nat) ^ j < 2 ^ 64 := Nat.pow_lt_pow_right (by decide) (by omega)
                rw [← or_nat (by omega) h2, ← u64_nat h2]
                norm_cast
              have hst := (hown4.stored i (.int .u64 ((predK (bef l) i j ||| 2 ^ j : Nat) : Int))).1
              rw [rowP_yes (by omega) HV.out] at hst
              have hb5 := hb4.setCell (p := ⟨w1.heap.size, i, none⟩) (Nat.le_refl _) (.int .u64 ((predK (bef l) i j ||| 2 ^ j : Nat) : Int))
              rw [← hor] at hst hb5
              have HST := Lib.hid hst.drew
              have HB5 := Lib.hid hb5
              clear hst hb5 hor
              go_wp2_with fail
              go_region
              go_wp2_with fail
              go_roundw
              case rel => exact ⟨j + 1, by omega, by go_num, HST.out, ⟨HB5.out.os, HB5.out.tape, HB5.out.output, HB5.out.size, HB5.out.block⟩⟩
              case measure => simp [intOf]; omega
        · obtain rfl : j = M := by omega
          go_wp2_with fail
          go_roundw
          case rel => exact ⟨i + 1, by omega, by go_num, by rw [← rowP_next]; exact hown3, hb3⟩
          case measure => simp [intOf]; omega
    · obtain rfl : i = M := by omega
      obtain ⟨wo, rfl⟩ : ∃ wo : World, wo = wr := ⟨_, rfl⟩
      have hP : ∀ k, k < i → wo.cell? ⟨w1.heap.size, k, none⟩ = some (.int .u64 ((predK (bef l) k i : Nat) : Int)) := fun k hk => by
        rw [hownR.cellAt k (by omega), rowP_at _ _ _ _ (by omega)]; simp [predV, hk]
      have hg1 : w1.heap.size < wo.heap.size := (hownR.lt _ rfl).2
      have HP := Lib.hid hP
      clear hP hownR
      obtain ⟨p, hp⟩ : ∃ p : Nat → Nat, p = fun k => predK (bef l) k i := ⟨_, rfl⟩
      have HPP := Lib.hid hp
      obtain ⟨K, hK⟩ : ∃ K, K = 2 ^ i := ⟨_, rfl⟩
      have hK12 : K ≤ 4096 := by rw [hK]; exact Nat.pow_le_pow_right (n := 2) (by decide) hnd
      have hK0 : 0 < K := by rw [hK]; exact Nat.pow_pos (by decide)
      have hwK : IntKind.u64.wrap (2 ^ i) = (K : Int) := by
        rw [hK, ← u64_nat (n := 2 ^ i) (by omega)]; norm_cast
      have HK := Lib.hid hK
      clear hK hp
      go_wp2_with ((with_reducible refine wpList_alloc_own (o := ⟨some 9, _, _, _, _, _⟩) rfl 97 rfl zero97 4096 32768 Try.info97 4096 _ zero97_cells (by simp) (by decide) ?_); intro w4 hown4 hb4 hsz4; have c4 : w4.cell? ⟨wo.heap.size, 0, none⟩ = some (.int .i64 0) := (by rw [hown4.cellAt 0 (by omega)]; rfl); have f4 := hown4.frozenAt 0)
      have hst4 := (hown4.stored 0 (.int .i64 1)).1
      rw [rowS_init p i] at hst4
      have hb4' := hb4.setCell (p := ⟨wo.heap.size, 0, none⟩) (Nat.le_refl _) (.int .i64 1)
      clear c4 f4 hown4 hb4
      go_loopw [63] (fun v wr => ∃ m : Nat, m ≤ K ∧ v = .int .u64 m ∧ wr.ownsRow wo.heap.size 97 1 (.slice (some ⟨wo.heap.size, 0, none⟩) 4096 4096) 4096 (rowS p i m 0) ∧ Below wo.heap.size wo wr) (fun v _ => K - (intOf v).toNat)
      case atStart => exact ⟨0, Nat.zero_le _, rfl, hst4, hb4'⟩
      case round =>
        obtain ⟨m, hm, rfl, hownM, hbM⟩ := hrel
        by_cases hmK : m < K
        · go_wp2_with fail
          go_loopw [67] (fun v wr2 => ∃ k : Nat, k ≤ i ∧ v = .int .i64 k ∧ wr2.ownsRow wo.heap.size 97 1 (.slice (some ⟨wo.heap.size, 0, none⟩) 4096 4096) 4096 (rowS p i m k) ∧ Below wo.heap.size wo wr2) (fun v _ => i - (intOf v).toNat)
          case atStart => exact ⟨0, Nat.zero_le _, rfl, hownM, hbM⟩
          case round =>
            obtain ⟨k, hk, rfl, hownK, hbK⟩ := hrel
            by_cases hki : k < i
            · have hcp : wr.cell? ⟨w1.heap.size, k, none⟩ = some (.int .u64 ((p k : Nat) : Int)) := by
                rw [hbK.cell (p := ⟨w1.heap.size, k, none⟩) hg1, HPP.out]; exact HP.out k hki
              have hpk : p k < 4096 := by rw [HPP.out]; exact predK_small _ _ hnd
              have HMAY := Lib.hid (may_any m k (p k) w1.heap.size wr (by omega) (by omega) hpk hcp)
              clear hcp
              go_wp2_with fail
              refine HMAY.out.mono ?_
              rintro e w5 ⟨rfl, hb5⟩
              have hownK5 := owns_below hownK hb5
              have hbK5 := hbK.trans (hb5.mono hbK.size)
              obtain ⟨bv, hbv⟩ : ∃ bv, mayB m k (p k) = bv := ⟨_, rfl⟩
              rw [hbv]
              have HV := Lib.hid hbv
              clear hbv
              cases bv
              · rw [← rowS_no HV.out] at hownK5
                go_wp2_with fail
                go_roundw
                case rel => exact ⟨k + 1, by omega, by go_num, hownK5, hbK5⟩
                case measure => simp [intOf]; omega
              · obtain ⟨q, hq⟩ : ∃ q, m ||| 2 ^ k = q := ⟨_, rfl⟩
                have hqK : q < K := by rw [← hq]; exact or_small HK.out hmK hki
                have hor := or_u64 (m := m) (k := k) (by omega) (by omega)
                have hmM : m < 2 ^ i := by rw [← HK.out]; exact hmK
                have hqM : q < 2 ^ i := by rw [← HK.out]; exact hqK
                obtain ⟨sq, hsq⟩ : ∃ s, S p i m k q = s := ⟨_, rfl⟩
                obtain ⟨sm, hsm⟩ : ∃ s, S p i m k m = s := ⟨_, rfl⟩
                have h1 : sq ≤ 8916100448256 := by rw [← hsq]; exact S_le hnd hqM
                have h2 : sm ≤ 8916100448256 := by rw [← hsm]; exact S_le hnd hmM
                have hadd := add_i64 h1 h2
                have c1 : w5.cell? ⟨wo.heap.size, q, none⟩ = some (.int .i64 (sq : Int)) := by
                  rw [hownK5.cellAt q (by omega), rowS_at _ _ _ _ (by omega), hsq]
                have c2 : w5.cell? ⟨wo.heap.size, m, none⟩ = some (.int .i64 (sm : Int)) := by
                  rw [hownK5.cellAt m (by omega), rowS_at _ _ _ _ (by omega), hsm]
                have f1 := hownK5.frozenAt q
                have hst := (hownK5.stored q (.int .i64 ((sq + sm : Nat) : Int))).1
                have hset : (rowS p i m k).set q (.int .i64 ((sq + sm : Nat) : Int)) = rowS p i m (k + 1) := by
                  rw [← hsq, ← hsm, ← hq]; exact rowS_yes hki hmM HV.out (by omega)
                rw [hset] at hst
                have hb6 := hbK5.setCell (p := ⟨wo.heap.size, q, none⟩) (Nat.le_refl _) (.int .i64 ((sq + sm : Nat) : Int))
                rw [hq] at hor
                rw [Int.natCast_add] at hst hb6
                have HST := Lib.hid hst.drew
                have HB6 := Lib.hid hb6
                clear hst hb6 hset hq hsq hsm hadd hmM hqM
                go_wp2_with fail
                go_region
                go_wp2_with fail
                go_roundw
                case rel => exact ⟨k + 1, by omega, by go_num, HST.out, ⟨HB6.out.os, HB6.out.tape, HB6.out.output, HB6.out.size, HB6.out.block⟩⟩
                case measure => simp [intOf]; omega
            · obtain rfl : k = i := by omega
              go_wp2_with fail
              go_roundw
              case rel => exact ⟨m + 1, by omega, by go_num, by rw [← rowS_next]; exact hownK, hbK⟩
              case measure => simp [intOf]; omega
        · obtain rfl : m = K := by omega
          obtain ⟨K1, hK1⟩ : ∃ K1, K1 = m - 1 := ⟨_, rfl⟩
          have hsh := shl_i64 hnd
          rw [← HK.out] at hsh
          have hsub : IntKind.i64.wrap ((m : Int) - 1) = (K1 : Int) := by rw [IntWalk.i64_in _ (by omega)]; omega
          have hK1l : K1 < 4096 := by omega
          have c1 : wr.cell? ⟨wo.heap.size, K1, none⟩ = some (.int .i64 ((S p i m 0 K1 : Nat) : Int)) := by
            rw [hownM.cellAt K1 (by omega), rowS_at _ _ _ _ (by omega)]
          have HK1 := Lib.hid hK1
          have hbo := hb1.trans ((hbR.trans (hbM.mono hbR.size)).mono hb1.size)
          clear hK1
          go_wp2_with fail
          go_ret2
          exact countPost HM.out hnd HPP.out HK.out HK1.out hbo

theorem count_long (A : Option Addr) (n cap : Nat) (w : World) (hl : 4096 < n) (hn : n ≤ 5000) :
    Calls Try.prog 33 #[.slice A n cap] w fun e w' => e = .returned (.tuple #[.int .i64 0, .int .i64 5]) ∧ RowKit.Below w.heap.size w w' := by
  go_enter Try.func33, Try.ntmps33
  go_wp2_with fail
  go_ret2
  exact ⟨rfl, RowKit.Below.refl _ _⟩

set_option maxRecDepth 100000 in
theorem count_many (A : Option Addr) (l : List CallC) (cap : Nat) (w : World) (hl : l.length ≤ 4096) (hA : CallsAt w w.heap.size A l) (hnd : 12 < (doneN l).length) :
    Calls Try.prog 33 #[.slice A l.length cap] w fun e w' => e = .returned (.tuple #[.int .i64 0, .int .i64 5]) ∧ RowKit.Below w.heap.size w w' := by
  have hD := Lib.hid (done_any A l cap w (by omega) hA)
  have h5 : (doneN l).length ≤ 5000 := Nat.le_trans (doneN_len l) (by omega)
  generalize hN : l.length = N at *
  clear hN
  generalize hM : (doneN l).length = M at *
  have hM2 := Lib.hid (show (doneL l).length = M by rw [doneL_eq, List.length_map, hM])
  clear hM
  have hg : decide ((4096 : Int) < (N : Int)) = false := by simp; omega
  have hg2 : decide ((12 : Int) < (M : Int)) = true := by simp; omega
  go_enter Try.func33, Try.ntmps33
  go_wp2_with fail
  refine hD.out.mono ?_
  rintro e w1 ⟨v1, rfl, hown1, hb1⟩
  rw [hM2.out] at hown1
  obtain ⟨A1, c1, rfl⟩ := owns_len hown1
  go_wp2_with fail
  go_ret2
  exact ⟨rfl, hb1⟩
end Go.Proofs.Ytnmhmabifeapkaa.Ord
