/- FreshTimes: for any times and any mark the law answers true: its walk (law8), lifted to the given statement. -/
import Derived.Test.YtnjhpgmbfblgaaaGreatU82
import Derived.Test.YtnjhpgmbfblgaaaGreatMU59
import Derived.Test.YtnjhpgmbfblgaaaGreatY8a
import Derived.Test.YtnjhpgmbfblgaaaGreatY8b
import Derived.Test.YtnjhpgmbfblgaaaGreatY8c
namespace Go.Proofs.YtnjhpgmbfblgaaaGreat.Ord
open Go.ChangeShapes Go.WideShapes Go.ChangeAt Go.RowKit Go.Deep
set_option linter.unusedVariables false
set_option maxRecDepth 100000
theorem wf_u8 {n : Int} (h : (Lit.int .u8 n).wf = true) : 0 ≤ n ∧ n < 256 := by
  simp [Lit.wf, IntKind.min, IntKind.max, IntKind.bits, IntKind.signed] at h
  omega
set_option maxHeartbeats 1600000 in
set_option maxRecDepth 100000 in
theorem freshTimes_lifted (os : Os) (started : os.Started) (H : Type) (enc : TypeId × Value → H) :
    ReturnsInHanded {} Tryz.checked os 8 .any (Rows.freshTimesSpec.pre6 enc Tryz.prog Tryz.f8 Rows.freshTimesRow.domain false) (Rows.freshTimesSpec.post enc Tryz.prog Tryz.f8 false true false false) := by
  refine returnsInHanded_of_change_sized (C := Tryz.checked) own started (by kernel_rfl) Tryz.func8
    (ChangeSpec.witness6 (enc := enc) (C := Tryz.checked) false ⟨#[], #[.int .u64 0, .int .u64 0, .int .u64 0, .int .u64 0, .int .u8 0], []⟩ 8 (by kernel_rfl) (by kernel_rfl) (by kernel_rfl) (by kernel_rfl)) ?_
  intro W base args ds gs before hval0 hW hcnd hsz0 _
  have hval : ∀ (j : Nat) t v, Tryz.f8.params[j]? = some t → args[j]? = some v → Value.okWide Tryz.prog W .any base t v := hval0
  have hW' := hW
  obtain ⟨p, q, hA0, hV, rfl, hfz, hnd⟩ := hW
  have hTA : DataW.TrodAll enc Tryz.prog W 0 (fun _ => true) true Tryz.f8.params.toList args.toList ds p := hA0
  rw [Tryz.params8] at hTA hval
  obtain ⟨v0, vs0, d0, ds0, p0, q0, hargs, rfl, rfl, h0, r0⟩ := trodAll_cons hTA
  obtain ⟨v1, vs1, d1, ds1, p1, q1, rfl, rfl, rfl, h1, r1⟩ := trodAll_cons r0
  obtain ⟨v2, vs2, d2, ds2, p2, q2, rfl, rfl, rfl, h2, r2⟩ := trodAll_cons r1
  obtain ⟨v3, vs3, d3, ds3, p3, q3, rfl, rfl, rfl, h3, r3⟩ := trodAll_cons r2
  obtain ⟨v4, vs4, d4, ds4, p4, q4, rfl, rfl, rfl, h4, r4⟩ := trodAll_cons r3
  obtain ⟨rfl, rfl, rfl⟩ := trodAll_nil r4
  obtain rfl : args = #[v0, v1, v2, v3, v4] := by cases args; simp_all
  obtain ⟨rfl, rfl⟩ := trodVars_none hV
  have k0 := h0
  have lt0 : ∀ x ∈ p0, x.block < W.heap.size := by obtain ⟨m, hm⟩ := k0; exact DataW.trod_lt m _ _ _ hm
  obtain ⟨g0, rfl, hg0⟩ : ∃ g0, v0 = .int .u64 g0 ∧ IsT g0 := by
    obtain ⟨n, hn⟩ := okWide_int Tryz.underlying34 (hval 0 34 v0 rfl rfl)
    obtain ⟨fu0, hf0⟩ := h0
    obtain ⟨g, hg, _, hgw⟩ := DataW.trod_int Tryz.underlying34 hf0
    rw [hn] at hg
    have e : n = g := by simpa [Value.cells] using hg
    exact ⟨n, hn, e ▸ wf_u64 hgw⟩
  have k1 := h1
  have lt1 : ∀ x ∈ p1, x.block < W.heap.size := by obtain ⟨m, hm⟩ := k1; exact DataW.trod_lt m _ _ _ hm
  obtain ⟨g1, rfl, hg1⟩ : ∃ g1, v1 = .int .u64 g1 ∧ IsT g1 := by
    obtain ⟨n, hn⟩ := okWide_int Tryz.underlying34 (hval 1 34 v1 rfl rfl)
    obtain ⟨fu0, hf0⟩ := h1
    obtain ⟨g, hg, _, hgw⟩ := DataW.trod_int Tryz.underlying34 hf0
    rw [hn] at hg
    have e : n = g := by simpa [Value.cells] using hg
    exact ⟨n, hn, e ▸ wf_u64 hgw⟩
  have k2 := h2
  have lt2 : ∀ x ∈ p2, x.block < W.heap.size := by obtain ⟨m, hm⟩ := k2; exact DataW.trod_lt m _ _ _ hm
  obtain ⟨g2, rfl, hg2⟩ : ∃ g2, v2 = .int .u64 g2 ∧ IsT g2 := by
    obtain ⟨n, hn⟩ := okWide_int Tryz.underlying34 (hval 2 34 v2 rfl rfl)
    obtain ⟨fu0, hf0⟩ := h2
    obtain ⟨g, hg, _, hgw⟩ := DataW.trod_int Tryz.underlying34 hf0
    rw [hn] at hg
    have e : n = g := by simpa [Value.cells] using hg
    exact ⟨n, hn, e ▸ wf_u64 hgw⟩
  have k3 := h3
  have lt3 : ∀ x ∈ p3, x.block < W.heap.size := by obtain ⟨m, hm⟩ := k3; exact DataW.trod_lt m _ _ _ hm
  obtain ⟨g3, rfl, hg3⟩ : ∃ g3, v3 = .int .u64 g3 ∧ IsT g3 := by
    obtain ⟨n, hn⟩ := okWide_int Tryz.underlying34 (hval 3 34 v3 rfl rfl)
    obtain ⟨fu0, hf0⟩ := h3
    obtain ⟨g, hg, _, hgw⟩ := DataW.trod_int Tryz.underlying34 hf0
    rw [hn] at hg
    have e : n = g := by simpa [Value.cells] using hg
    exact ⟨n, hn, e ▸ wf_u64 hgw⟩
  have k4 := h4
  have lt4 : ∀ x ∈ p4, x.block < W.heap.size := by obtain ⟨m, hm⟩ := k4; exact DataW.trod_lt m _ _ _ hm
  obtain ⟨g4, rfl, hg4⟩ : ∃ g4, v4 = .int .u8 g4 ∧ (0 ≤ g4 ∧ g4 < 256) := by
    obtain ⟨n, hn⟩ := okWide_int Tryz.underlying5 (hval 4 5 v4 rfl rfl)
    obtain ⟨fu0, hf0⟩ := h4
    obtain ⟨g, hg, _, hgw⟩ := DataW.trod_int Tryz.underlying5 hf0
    rw [hn] at hg
    have e : n = g := by simpa [Value.cells] using hg
    exact ⟨n, hn, e ▸ wf_u8 hgw⟩
  clear hA0 hval0
  refine (law8 g0 g1 g2 g3 g4 hg0 hg1 hg2 hg3 hg4 W).mono fun e W' ⟨he, bel⟩ => ?_
  subst he
  exact ⟨_, rfl, _, _, _, [], _, [], hW', trodAll_mk1 (shut_bool Tryz.underlying4 _), (trodAll_cons_mk (Below.trod laidOut (by kernel_rfl) (of_decide_eq_true (by kernel_rfl)) k0 bel lt0) (trodAll_cons_mk (Below.trod laidOut (by kernel_rfl) (of_decide_eq_true (by kernel_rfl)) k1 bel lt1) (trodAll_cons_mk (Below.trod laidOut (by kernel_rfl) (of_decide_eq_true (by kernel_rfl)) k2 bel lt2) (trodAll_cons_mk (Below.trod laidOut (by kernel_rfl) (of_decide_eq_true (by kernel_rfl)) k3 bel lt3) (trodAll_cons_mk (Below.trod laidOut (by kernel_rfl) (of_decide_eq_true (by kernel_rfl)) k4 bel lt4) trodAll_mk0))))), rfl, bel.frame _, fun h => by cases h⟩
theorem and_tt {a b : Bool} (h : a = true) (k : b = true) : (a && b) = true := by rw [h, k]; rfl
theorem freshTimes_joined : joinedFacts Tryz.checked.prog 8 Tryz.f8 Rows.freshTimesSpec Rows.freshTimesRow = true := by
  unfold joinedFacts
  exact and_tt (and_tt (and_tt (and_tt (and_tt (and_tt (and_tt (and_tt (and_tt (and_tt (and_tt (and_tt (and_tt (and_tt (and_tt (and_tt (and_tt (and_tt (and_tt (and_tt (and_tt (and_tt (and_tt (and_tt (and_tt (and_tt (and_tt (and_tt (and_tt (and_tt (and_tt freshTimes_j0 freshTimes_j1) freshTimes_j2) freshTimes_j3) freshTimes_j4) freshTimes_j5) freshTimes_j6) freshTimes_j7) freshTimes_j8) freshTimes_j9) freshTimes_j10) freshTimes_j11) freshTimes_j12) freshTimes_j13) freshTimes_j14) freshTimes_j15) freshTimes_j16) freshTimes_j17) freshTimes_j18) freshTimes_j19) freshTimes_j20) freshTimes_j21) freshTimes_j22) freshTimes_j23) freshTimes_j24) freshTimes_j25) freshTimes_j26) freshTimes_j27) freshTimes_j28) freshTimes_j29) freshTimes_j30) freshTimes_j31
theorem freshTimes_proved : Rows.FreshTimesSaid :=
  OpenClaim.holds_of_wide 8 Tryz.f8 rfl rfl rfl rfl rfl rfl rfl ⟨rfl, rfl, rfl, rfl, rfl⟩ rfl rfl rfl rfl rfl freshTimes_named Tryz.func8 freshTimes_joined
    (of_decide_eq_true (by kernel_rfl)) (by unfold Func.isWrapper; first | (rw [if_pos (by decide +kernel)]; kernel_rfl) | (rw [if_neg (by decide +kernel)]; exact ⟨rfl, rfl⟩))
    (fun os started H enc _ => freshTimes_lifted os started H enc)
end Go.Proofs.YtnjhpgmbfblgaaaGreat.Ord
