/- HistoryOutputs: for any calls the law answers true: its walk (law4), lifted to the given statement. -/
import Derived.Test.YtnjhpgmbfblgaaaGreatY4a
import Derived.Test.YtnjhpgmbfblgaaaGreatY4b
import Derived.Test.YtnjhpgmbfblgaaaGreatY4c
import Derived.Test.YtnjhpgmbfblgaaaGreatMW9
import Derived.Test.YtnjhpgmbfblgaaaGreatQ4
namespace Go.Proofs.YtnjhpgmbfblgaaaGreat.Ord
set_option maxRecDepth 100000
set_option maxHeartbeats 16000000
open Go.ChangeShapes Go.WideShapes Go.ChangeAt Go.RowKit Go.Deep
set_option linter.unusedVariables false
set_option linter.unusedSimpArgs false
theorem historyOutputs_lifted (os : Os) (started : os.Started) (H : Type) (enc : TypeId × Value -> H) :
  ReturnsInHanded {} Tryz.checked os 4 .any (Rows.historyOutputsSpec.pre6 enc Tryz.prog Tryz.f4 Rows.historyOutputsRow.domain false) (Rows.historyOutputsSpec.post enc Tryz.prog Tryz.f4 false true false false) := by
 refine returnsInHanded_of_change_sized (C := Tryz.checked) own started (by kernel_rfl) Tryz.func4
  (ChangeSpec.witness6 (enc := enc) (C := Tryz.checked) false ⟨#[], #[.slice none 0 0], []⟩ 8 (by kernel_rfl) (by kernel_rfl) (by kernel_rfl) (by kernel_rfl)) ?_
 intro W base args ds gs before hval0 hW hcnd hsz0 _
 have hsz : (DataW.weightsEach Tryz.prog (Tryz.f4.params.toList ++ Rows.historyOutputsSpec.plain.varTypes Tryz.prog) (ds ++ gs)).all (· <= reachBytes) = true := hsz0
 have hval : ∀ (j : Nat) t v, Tryz.f4.params[j]? = some t -> args[j]? = some v -> Value.okWide Tryz.prog W .any base t v := hval0
 have hW' := hW
 obtain ⟨p, q, hA0, hV, rfl, hfz, hnd⟩ := hW
 have hTA : DataW.TrodAll enc Tryz.prog W 0 (fun _ => true) true Tryz.f4.params.toList args.toList ds p := hA0
 rw [Tryz.params4] at hTA hval hsz
 obtain ⟨v0, vs0, d0, ds0, p0, q0, hargs, rfl, rfl, h0, r0⟩ := trodAll_cons hTA
 obtain ⟨rfl, rfl, rfl⟩ := trodAll_nil r0
 obtain rfl : args = #[v0] := by cases args; simp_all
 obtain ⟨rfl, rfl⟩ := trodVars_none hV
 obtain ⟨a0, len0, cap0, rfl⟩ := okWide_slice Tryz.underlying43 (hval 0 43 v0 rfl rfl)
 have k0 := h0
 have lt0 : ∀ x ∈ p0, x.block < W.heap.size := by obtain ⟨m, hm⟩ := k0; exact DataW.trod_lt m _ _ _ hm
 have z0 : ∀ n ∈ d0.weights Tryz.prog 43, n <= big := fun n hn => by
  have h1 := List.all_eq_true.1 hsz n (DataW.weights_mem_each (j := 0) (t := 43) (d := d0) rfl rfl n hn)
  have h2 : n <= reachBytes := of_decide_eq_true h1
  have h3 := reachBytes_lt
  unfold big; omega
 obtain ⟨fu0, hf0⟩ := h0
 obtain ⟨L, hL, hm0, hRow, hG⟩ := open_callsS hf0 z0
 clear hA0 hval0
 refine (law4 L a0 len0 cap0 W hL hm0 hRow (fun x hx => (hG x hx).1) (fun x hx => (hG x hx).2)).mono fun e W' ⟨he, bel⟩ => ?_
 subst he
 exact ⟨_, rfl, _, _, _, [], _, [], hW', trodAll_mk1 (shut_bool Tryz.underlying4 _), (trodAll_cons_mk (Below.trod laidOut (by kernel_rfl) (of_decide_eq_true (by kernel_rfl)) k0 bel lt0) trodAll_mk0), rfl, bel.frame _, fun h => by cases h⟩
theorem and_tt {a b : Bool} (h : a = true) (k : b = true) : (a && b) = true := by rw [h, k]; rfl
theorem historyOutputs_joined : joinedFacts Tryz.checked.prog 4 Tryz.f4 Rows.historyOutputsSpec Rows.historyOutputsRow = true := by
 unfold joinedFacts
 exact and_tt (and_tt (and_tt (and_tt (and_tt (and_tt (and_tt (and_tt (and_tt (and_tt (and_tt (and_tt (and_tt (and_tt (and_tt (and_tt (and_tt (and_tt (and_tt (and_tt (and_tt (and_tt (and_tt (and_tt (and_tt (and_tt (and_tt (and_tt (and_tt (and_tt (and_tt historyOutputs_j0 historyOutputs_j1) historyOutputs_j2) historyOutputs_j3) historyOutputs_j4) historyOutputs_j5) historyOutputs_j6) historyOutputs_j7) historyOutputs_j8) historyOutputs_j9) historyOutputs_j10) historyOutputs_j11) historyOutputs_j12) historyOutputs_j13) historyOutputs_j14) historyOutputs_j15) historyOutputs_j16) historyOutputs_j17) historyOutputs_j18) historyOutputs_j19) historyOutputs_j20) historyOutputs_j21) historyOutputs_j22) historyOutputs_j23) historyOutputs_j24) historyOutputs_j25) historyOutputs_j26) historyOutputs_j27) historyOutputs_j28) historyOutputs_j29) historyOutputs_j30) historyOutputs_j31
theorem historyOutputs_proved : Rows.HistoryOutputsSaid :=
 OpenClaim.holds_of_wide 4 Tryz.f4 rfl rfl rfl rfl rfl rfl rfl ⟨rfl, rfl, rfl, rfl, rfl⟩ rfl rfl rfl rfl rfl historyOutputs_named Tryz.func4 historyOutputs_joined
  (of_decide_eq_true (by kernel_rfl)) (by unfold Func.isWrapper; first | (rw [if_pos (by decide +kernel)]; kernel_rfl) | (rw [if_neg (by decide +kernel)]; exact ⟨rfl, rfl⟩))
  (fun os started H enc _ => historyOutputs_lifted os started H enc)
end Go.Proofs.YtnjhpgmbfblgaaaGreat.Ord
