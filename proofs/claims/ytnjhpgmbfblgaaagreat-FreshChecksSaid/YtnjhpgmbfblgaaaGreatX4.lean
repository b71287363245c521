/- FreshChecks: for any configuration and any calls the law answers true: its walk (law6). -/
import Derived.Test.YtnjhpgmbfblgaaaGreatW11
import Derived.Test.YtnjhpgmbfblgaaaGreatY6a
import Derived.Test.YtnjhpgmbfblgaaaGreatY6b
import Derived.Test.YtnjhpgmbfblgaaaGreatY6c
set_option linter.unusedVariables false
set_option linter.unusedSimpArgs false
namespace Go.Proofs.YtnjhpgmbfblgaaaGreat.Ord
set_option maxRecDepth 100000
set_option maxHeartbeats 16000000
open Go.ChangeShapes Go.WideShapes Go.ChangeAt Go.RowKit Go.Deep
theorem freshChecks_lifted (os : Os) (started : os.Started) (H : Type) (enc : TypeId × Value -> H) :
  ReturnsInHanded {} Tryz.checked os 6 .any (Rows.freshChecksSpec.pre6 enc Tryz.prog Tryz.f6 Rows.freshChecksRow.domain false) (Rows.freshChecksSpec.post enc Tryz.prog Tryz.f6 false true false false) := by
 refine returnsInHanded_of_change_sized (C := Tryz.checked) own started (by kernel_rfl) Tryz.func6
  (ChangeSpec.witness6 (enc := enc) (C := Tryz.checked) false ⟨#[], #[.agg #[.int .i64 0, .int .i64 0, .int .i64 0, .int .i64 0, .int .i64 0, .int .u64 0, .int .u64 0], .slice none 0 0], []⟩ 8 (by kernel_rfl) (by kernel_rfl) (by kernel_rfl) (by kernel_rfl)) ?_
 intro W base args ds gs before hval0 hW hcnd hsz0 _
 have hsz : (DataW.weightsEach Tryz.prog (Tryz.f6.params.toList ++ Rows.freshChecksSpec.plain.varTypes Tryz.prog) (ds ++ gs)).all (· <= reachBytes) = true := hsz0
 have hval : ∀ (j : Nat) t v, Tryz.f6.params[j]? = some t -> args[j]? = some v -> Value.okWide Tryz.prog W .any base t v := hval0
 have hW' := hW
 obtain ⟨p, q, hA0, hV, rfl, hfz, hnd⟩ := hW
 have hTA : DataW.TrodAll enc Tryz.prog W 0 (fun _ => true) true Tryz.f6.params.toList args.toList ds p := hA0
 rw [Tryz.params6] at hTA hval hsz
 obtain ⟨v0, vs0, d0, ds0, p0, q0, hargs, rfl, rfl, h0, r0⟩ := trodAll_cons hTA
 obtain ⟨v1, vs1, d1, ds1, p1, q1, rfl, rfl, rfl, h1, r1⟩ := trodAll_cons r0
 obtain ⟨rfl, rfl, rfl⟩ := trodAll_nil r1
 obtain rfl : args = #[v0, v1] := by cases args; simp_all
 obtain ⟨rfl, rfl⟩ := trodVars_none hV
 obtain ⟨c0, rfl⟩ := okWide_agg Tryz.underlying62 (hval 0 62 v0 rfl rfl)
 obtain ⟨a1, len1, cap1, rfl⟩ := okWide_slice Tryz.underlying43 (hval 1 43 v1 rfl rfl)
 have k0 := h0
 have lt0 : ∀ x ∈ p0, x.block < W.heap.size := by obtain ⟨m, hm⟩ := k0; exact DataW.trod_lt m _ _ _ hm
 have k1 := h1
 have lt1 : ∀ x ∈ p1, x.block < W.heap.size := by obtain ⟨m, hm⟩ := k1; exact DataW.trod_lt m _ _ _ hm
 have z1 : ∀ n ∈ d1.weights Tryz.prog 43, n <= big := fun n hn => by
  have h1 := List.all_eq_true.1 hsz n (DataW.weights_mem_each (j := 1) (t := 43) (d := d1) rfl rfl n hn)
  have h2 : n <= reachBytes := of_decide_eq_true h1
  have h3 := reachBytes_lt
  unfold big; omega
 obtain ⟨fu0, hf0⟩ := h0
 obtain ⟨hcl, g, hg5, hgt⟩ := open_cfg hf0
 obtain ⟨fu1, hf1⟩ := h1
 obtain ⟨L, hL, hm0, hRow, hG⟩ := open_callsF hf1 z1
 obtain ⟨cl, rfl⟩ : ∃ cl : List Value, c0 = cl.toArray := ⟨c0.toList, by simp⟩
 have hg5' : cl[5]? = some (.int .u64 g) := hg5
 have hcl' : cl.length = 7 := hcl
 clear hA0 hval0
 refine (law6 cl g hgt hg5' (cfg_size hcl') L a1 len1 cap1 W hL hm0 hRow hG).mono fun e W' ⟨he, bel⟩ => ?_
 subst he
 exact ⟨_, rfl, _, _, _, [], _, [], hW', trodAll_mk1 (shut_bool Tryz.underlying4 _), (trodAll_cons_mk (Below.trod laidOut (by kernel_rfl) (of_decide_eq_true (by kernel_rfl)) k0 bel lt0) (trodAll_cons_mk (Below.trod laidOut (by kernel_rfl) (of_decide_eq_true (by kernel_rfl)) k1 bel lt1) trodAll_mk0)), rfl, bel.frame _, fun h => by cases h⟩
theorem and_tt {a b : Bool} (h : a = true) (k : b = true) : (a && b) = true := by rw [h, k]; rfl
theorem freshChecks_joined : joinedFacts Tryz.checked.prog 6 Tryz.f6 Rows.freshChecksSpec Rows.freshChecksRow = true := by
 unfold joinedFacts
 exact and_tt (and_tt (and_tt (and_tt (and_tt (and_tt (and_tt (and_tt (and_tt (and_tt (and_tt (and_tt (and_tt (and_tt (and_tt (and_tt (and_tt (and_tt (and_tt (and_tt (and_tt (and_tt (and_tt (and_tt (and_tt (and_tt (and_tt (and_tt (and_tt (and_tt (and_tt freshChecks_j0 freshChecks_j1) freshChecks_j2) freshChecks_j3) freshChecks_j4) freshChecks_j5) freshChecks_j6) freshChecks_j7) freshChecks_j8) freshChecks_j9) freshChecks_j10) freshChecks_j11) freshChecks_j12) freshChecks_j13) freshChecks_j14) freshChecks_j15) freshChecks_j16) freshChecks_j17) freshChecks_j18) freshChecks_j19) freshChecks_j20) freshChecks_j21) freshChecks_j22) freshChecks_j23) freshChecks_j24) freshChecks_j25) freshChecks_j26) freshChecks_j27) freshChecks_j28) freshChecks_j29) freshChecks_j30) freshChecks_j31
theorem freshChecks_proved : Rows.FreshChecksSaid :=
 OpenClaim.holds_of_wide 6 Tryz.f6 rfl rfl rfl rfl rfl rfl rfl ⟨rfl, rfl, rfl, rfl, rfl⟩ rfl rfl rfl rfl rfl freshChecks_named Tryz.func6 freshChecks_joined
  (of_decide_eq_true (by kernel_rfl)) (by unfold Func.isWrapper; first | (rw [if_pos (by decide +kernel)]; kernel_rfl) | (rw [if_neg (by decide +kernel)]; exact ⟨rfl, rfl⟩))
  (fun os started H enc _ => freshChecks_lifted os started H enc)
end Go.Proofs.YtnjhpgmbfblgaaaGreat.Ord
