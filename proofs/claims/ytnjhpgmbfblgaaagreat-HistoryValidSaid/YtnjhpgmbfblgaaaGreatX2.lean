/- HistoryValid: for any calls and any two calls the law answers true: its walk (law5), lifted to the given statement. -/
import Derived.Test.YtnjhpgmbfblgaaaGreatY5a
import Derived.Test.YtnjhpgmbfblgaaaGreatY5b
import Derived.Test.YtnjhpgmbfblgaaaGreatY5c
import Derived.Test.YtnjhpgmbfblgaaaGreatMW9
import Derived.Test.YtnjhpgmbfblgaaaGreatQ1
namespace Go.Proofs.YtnjhpgmbfblgaaaGreat.Ord
set_option maxRecDepth 100000
set_option maxHeartbeats 16000000
open Go.ChangeShapes Go.WideShapes Go.ChangeAt Go.RowKit Go.Deep
set_option linter.unusedVariables false
set_option linter.unusedSimpArgs false
theorem historyValid_lifted (os : Os) (started : os.Started) (H : Type) (enc : TypeId × Value -> H) :
  ReturnsInHanded {} Tryz.checked os 5 .any (Rows.historyValidSpec.pre6 enc Tryz.prog Tryz.f5 Rows.historyValidRow.domain false) (Rows.historyValidSpec.post enc Tryz.prog Tryz.f5 false true false false) := by
 refine returnsInHanded_of_change_sized (C := Tryz.checked) own started (by kernel_rfl) Tryz.func5
  (ChangeSpec.witness6 (enc := enc) (C := Tryz.checked) false ⟨#[], #[.slice none 0 0, .agg #[.int .i64 0, .int .i64 0, .bool false, .int .i64 0, .string ⟨#[]⟩, .slice none 0 0, .slice none 0 0, .slice none 0 0, .int .u64 0, .int .u64 0, .string ⟨#[]⟩, .string ⟨#[]⟩, .string ⟨#[]⟩, .int .i64 0, .int .i64 0, .slice none 0 0, .int .u64 0, .int .i64 0, .slice none 0 0, .int .i64 0, .int .i64 0, .int .i64 0, .int .u64 0], .agg #[.int .i64 0, .int .i64 0, .bool false, .int .i64 0, .string ⟨#[]⟩, .slice none 0 0, .slice none 0 0, .slice none 0 0, .int .u64 0, .int .u64 0, .string ⟨#[]⟩, .string ⟨#[]⟩, .string ⟨#[]⟩, .int .i64 0, .int .i64 0, .slice none 0 0, .int .u64 0, .int .i64 0, .slice none 0 0, .int .i64 0, .int .i64 0, .int .i64 0, .int .u64 0]], []⟩ 8 (by kernel_rfl) (by kernel_rfl) (by kernel_rfl) (by kernel_rfl)) ?_
 intro W base args ds gs before hval0 hW hcnd hsz0 _
 have hsz : (DataW.weightsEach Tryz.prog (Tryz.f5.params.toList ++ Rows.historyValidSpec.plain.varTypes Tryz.prog) (ds ++ gs)).all (· <= reachBytes) = true := hsz0
 have hval : ∀ (j : Nat) t v, Tryz.f5.params[j]? = some t -> args[j]? = some v -> Value.okWide Tryz.prog W .any base t v := hval0
 have hW' := hW
 obtain ⟨p, q, hA0, hV, rfl, hfz, hnd⟩ := hW
 have hTA : DataW.TrodAll enc Tryz.prog W 0 (fun _ => true) true Tryz.f5.params.toList args.toList ds p := hA0
 rw [Tryz.params5] at hTA hval hsz
 obtain ⟨v0, vs0, d0, ds0, p0, q0, hargs, rfl, rfl, h0, r0⟩ := trodAll_cons hTA
 obtain ⟨v1, vs1, d1, ds1, p1, q1, rfl, rfl, rfl, h1, r1⟩ := trodAll_cons r0
 obtain ⟨v2, vs2, d2, ds2, p2, q2, rfl, rfl, rfl, h2, r2⟩ := trodAll_cons r1
 obtain ⟨rfl, rfl, rfl⟩ := trodAll_nil r2
 obtain rfl : args = #[v0, v1, v2] := by cases args; simp_all
 obtain ⟨rfl, rfl⟩ := trodVars_none hV
 obtain ⟨a0, len0, cap0, rfl⟩ := okWide_slice Tryz.underlying43 (hval 0 43 v0 rfl rfl)
 obtain ⟨c1, rfl⟩ := okWide_agg Tryz.underlying52 (hval 1 52 v1 rfl rfl)
 obtain ⟨c2, rfl⟩ := okWide_agg Tryz.underlying52 (hval 2 52 v2 rfl rfl)
 have k0 := h0
 have lt0 : ∀ x ∈ p0, x.block < W.heap.size := by obtain ⟨m, hm⟩ := k0; exact DataW.trod_lt m _ _ _ hm
 have k1 := h1
 have lt1 : ∀ x ∈ p1, x.block < W.heap.size := by obtain ⟨m, hm⟩ := k1; exact DataW.trod_lt m _ _ _ hm
 have k2 := h2
 have lt2 : ∀ x ∈ p2, x.block < W.heap.size := by obtain ⟨m, hm⟩ := k2; exact DataW.trod_lt m _ _ _ hm
 have z0 : ∀ n ∈ d0.weights Tryz.prog 43, n <= big := fun n hn => by
  have h1 := List.all_eq_true.1 hsz n (DataW.weights_mem_each (j := 0) (t := 43) (d := d0) rfl rfl n hn)
  have h2 : n <= reachBytes := of_decide_eq_true h1
  have h3 := reachBytes_lt
  unfold big; omega
 have z1 : ∀ n ∈ d1.weights Tryz.prog 52, n <= big := fun n hn => by
  have h1 := List.all_eq_true.1 hsz n (DataW.weights_mem_each (j := 1) (t := 52) (d := d1) rfl rfl n hn)
  have h2 : n <= reachBytes := of_decide_eq_true h1
  have h3 := reachBytes_lt
  unfold big; omega
 have z2 : ∀ n ∈ d2.weights Tryz.prog 52, n <= big := fun n hn => by
  have h1 := List.all_eq_true.1 hsz n (DataW.weights_mem_each (j := 2) (t := 52) (d := d2) rfl rfl n hn)
  have h2 : n <= reachBytes := of_decide_eq_true h1
  have h3 := reachBytes_lt
  unfold big; omega
 obtain ⟨fu0, hf0⟩ := h0
 obtain ⟨L, hL, hm0, hRow, hG⟩ := open_callsS hf0 z0
 obtain ⟨fu1, hf1⟩ := h1
 obtain ⟨a, pa, e1, H1, r1, s1, t1⟩ := open_callS hf1 z1
 obtain ⟨fu2, hf2⟩ := h2
 obtain ⟨b, pb, e2, H2, r2, s2, t2⟩ := open_callS hf2 z2
 have e1' : c1 = (callC a pa).toArray := by rw [<- e1]; rfl
 have e2' : c2 = (callC b pb).toArray := by rw [<- e2]; rfl
 clear hA0 hval0
 refine ((by rw [e1', e2']; exact law5 L a0 len0 cap0 a b pa pb W hL hm0 hRow (fun x hx => (hG x hx).1) (fun x hx => (hG x hx).2) H1 ⟨s1, t1⟩ H2 ⟨s2, t2⟩ : Calls Tryz.prog 5 #[.slice a0 len0 cap0, .agg c1, .agg c2] W (LawP W))).mono fun e W' ⟨he, bel⟩ => ?_
 subst he
 exact ⟨_, rfl, _, _, _, [], _, [], hW', trodAll_mk1 (shut_bool Tryz.underlying4 _), (trodAll_cons_mk (Below.trod laidOut (by kernel_rfl) (of_decide_eq_true (by kernel_rfl)) k0 bel lt0) (trodAll_cons_mk (Below.trod laidOut (by kernel_rfl) (of_decide_eq_true (by kernel_rfl)) k1 bel lt1) (trodAll_cons_mk (Below.trod laidOut (by kernel_rfl) (of_decide_eq_true (by kernel_rfl)) k2 bel lt2) trodAll_mk0))), rfl, bel.frame _, fun h => by cases h⟩
theorem and_tt {a b : Bool} (h : a = true) (k : b = true) : (a && b) = true := by rw [h, k]; rfl
theorem historyValid_joined : joinedFacts Tryz.checked.prog 5 Tryz.f5 Rows.historyValidSpec Rows.historyValidRow = true := by
 unfold joinedFacts
 exact and_tt (and_tt (and_tt (and_tt (and_tt (and_tt (and_tt (and_tt (and_tt (and_tt (and_tt (and_tt (and_tt (and_tt (and_tt (and_tt (and_tt (and_tt (and_tt (and_tt (and_tt (and_tt (and_tt (and_tt (and_tt (and_tt (and_tt (and_tt (and_tt (and_tt (and_tt historyValid_j0 historyValid_j1) historyValid_j2) historyValid_j3) historyValid_j4) historyValid_j5) historyValid_j6) historyValid_j7) historyValid_j8) historyValid_j9) historyValid_j10) historyValid_j11) historyValid_j12) historyValid_j13) historyValid_j14) historyValid_j15) historyValid_j16) historyValid_j17) historyValid_j18) historyValid_j19) historyValid_j20) historyValid_j21) historyValid_j22) historyValid_j23) historyValid_j24) historyValid_j25) historyValid_j26) historyValid_j27) historyValid_j28) historyValid_j29) historyValid_j30) historyValid_j31
theorem historyValid_proved : Rows.HistoryValidSaid :=
 OpenClaim.holds_of_wide 5 Tryz.f5 rfl rfl rfl rfl rfl rfl rfl ⟨rfl, rfl, rfl, rfl, rfl⟩ rfl rfl rfl rfl rfl historyValid_named Tryz.func5 historyValid_joined
  (of_decide_eq_true (by kernel_rfl)) (by unfold Func.isWrapper; first | (rw [if_pos (by decide +kernel)]; kernel_rfl) | (rw [if_neg (by decide +kernel)]; exact ⟨rfl, rfl⟩))
  (fun os started H enc _ => historyValid_lifted os started H enc)
end Go.Proofs.YtnjhpgmbfblgaaaGreat.Ord
