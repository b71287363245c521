/- Walks of the law's parses and deliver. -/
import Derived.Test.YtnmhmabifeapkaaM4
namespace Go.Proofs.Ytnmhmabifeapkaa.Ord
open Go.RowKit
set_option linter.unusedVariables false

def BytD (r : StepR) : Prop := (∀ y ∈ r.d, 0 ≤ y ∧ y < 256) ∧ r.d.length ≤ 10000

set_option maxRecDepth 100000 in
set_option maxHeartbeats 2000000 in
theorem parses_any (A A' : Option Addr) (k m c c' : Nat) (xs : List Int) (rs ss : List StepR) (w : World) (hk : xs.length = k) (hx : ∀ y ∈ xs, 0 ≤ y ∧ y < 256) (hl : k ≤ 4096) (hA : Byt w w.heap.size A c xs) (hAb : ∀ b off, A = some ⟨b, off, none⟩ → b < w.heap.size) (hp : ParseOk xs rs) (hd : ∀ r ∈ rs, BytD r)
    (hm : ss.length = m) (hl' : m ≤ 5000) (hc' : m ≤ c') (hA' : Steps w w.heap.size A' ss) :
    Calls Try.prog 37 #[.slice A k c, .slice A' m c'] w fun e w' => e = .returned (.bool (stepsEq rs ss)) ∧ Below w.heap.size w w' := by
  have HP := Lib.hid (parse_any A k c xs rs w hk hx hl hA hAb hp)
  have hrl := hp.len
  have HD := Lib.hid hd
  have HA' := Lib.hid hA'
  have HM := Lib.hid hm
  clear hd hm hA hA' hAb hx hp
  rw [hk] at hrl
  clear hk
  obtain ⟨bv, hbv⟩ : ∃ bv, stepsEq rs ss = bv := ⟨_, rfl⟩
  rw [hbv]
  have HBV := Lib.hid hbv
  clear hbv
  go_enter Try.func37, Try.ntmps37
  go_wp2_with fail
  refine HP.out.mono ?_
  rintro e w1 ⟨v, ps, rfl, hps, hown, hb1⟩
  obtain ⟨A1, c1, rfl, hc1, hst⟩ := Steps.of_own hown (fun p hp => HD.out p.1 (by rw [← hps]; exact List.mem_map_of_mem hp))
  have hpl : ps.length = rs.length := by rw [← hps, List.length_map]
  rw [hps] at hst
  have HS := Lib.hid (same_any A1 A' ps.length m c1 c' rs ss w1 hpl.symm HM.out (by omega) hl' hc1 hc' hst ((HA'.out.below hb1 (Nat.le_refl _)).mono hb1.size))
  rw [HBV.out] at HS
  clear hst hps hown hpl
  obtain ⟨n, hn⟩ : ∃ n, ps.length = n := ⟨_, rfl⟩
  rw [hn] at HS ⊢
  clear hn hc1
  go_wp2_with fail
  refine HS.out.mono ?_
  rintro e w2 ⟨rfl, hb2⟩
  have hbb := hb1.trans (hb2.mono hb1.size)
  cases bv
  · go_wp2_with fail
    go_ret
    exact ⟨rfl, hbb⟩
  · go_wp2_with fail
    go_ret
    exact ⟨rfl, hbb⟩

set_option maxRecDepth 100000 in
theorem deliver_any (n : Int) (A : Option Addr) (k c : Nat) (w : World) :
    Calls Try.prog 36 #[.int .i64 n, .slice A k c] w fun e w' => e = .returned (.agg (stepL 2 n 0 (.slice A k c)).toArray) ∧ Below w.heap.size w w' := by
  have hb := below1 w (.cells (stepL 2 n 0 (.slice A k c)).toArray 35)
  simp only [stepL] at hb ⊢
  go_enter Try.func36, Try.ntmps36
  go_wp2_with fail
  exact bodyPost_ret (results_cell_row rfl _ _ w.heap.size 35 #[.int .i64 2, .int .i64 n, .int .i64 0, .slice A k c] (0, 0) _ rfl (heap_alloc_new w _) Try.underlying35 rfl (stepL_size 2 n 0 (.slice A k c))) rfl ⟨rfl, hb⟩
end Go.Proofs.Ytnmhmabifeapkaa.Ord
