/- Walks of the reference's bytes of a part, and of Needs. -/
import Derived.Test.YtnmhmabifeapkaaG8
namespace Go.Proofs.Ytnmhmabifeapkaa.Ord
open Go.RowKit
set_option linter.unusedVariables false

section
variable (c : CmdR) (vk vv vt : Value) (w : World)
set_option maxRecDepth 100000 in
set_option maxHeartbeats 2000000 in
theorem bytes81_k (hs : c.key.size ≤ 1000) : Calls Try.prog 81 #[.agg (cmdC c vk vv vt).toArray, .int .u8 107] w fun e w' => ∃ v, e = .returned v ∧ Own8 w' w.heap.size v (putS c.key) ∧ Below w.heap.size w w' := by
  have hb1 := below1 w (.cells (cmdC c vk vv vt).toArray 45)
  obtain ⟨c5, W5, hconv, hby5, hb5⟩ := conv_str (w.alloc (.cells (cmdC c vk vv vt).toArray 45)) c.key
  simp only [cmdC] at *
  have HP := Lib.hid (putBytes110 (some ⟨w.heap.size + 1, 0, none⟩) c.key.size c5 (sBytes c.key) W5 (sBytes_len _) (by omega) (by simpa using hby5))
  have HB := Lib.hid (hb1.trans (hb5.mono hb1.size))
  clear hby5 hb5 hb1
  go_enter Try.func81, Try.ntmps81
  go_wp2_with fail
  refine HP.out.mono ?_
  rintro e w6 ⟨v6, rfl, hv6, hb6⟩
  have HV := Lib.hid hv6
  have HB6 := Lib.hid hb6
  clear hv6 hb6
  go_wp2_with fail
  go_ret
  have hbs := HB.out.size
  exact ⟨_, rfl, owns_mono HV.out.raw hbs, HB.out.trans (HB6.out.mono hbs)⟩
set_option maxRecDepth 100000 in
set_option maxHeartbeats 2000000 in
theorem bytes81_g (hs : c.tag.size ≤ 1000) : Calls Try.prog 81 #[.agg (cmdC c vk vv vt).toArray, .int .u8 103] w fun e w' => ∃ v, e = .returned v ∧ Own8 w' w.heap.size v (putS c.tag) ∧ Below w.heap.size w w' := by
  have hb1 := below1 w (.cells (cmdC c vk vv vt).toArray 45)
  obtain ⟨c5, W5, hconv, hby5, hb5⟩ := conv_str (w.alloc (.cells (cmdC c vk vv vt).toArray 45)) c.tag
  simp only [cmdC] at *
  have HP := Lib.hid (putBytes110 (some ⟨w.heap.size + 1, 0, none⟩) c.tag.size c5 (sBytes c.tag) W5 (sBytes_len _) (by omega) (by simpa using hby5))
  have HB := Lib.hid (hb1.trans (hb5.mono hb1.size))
  clear hby5 hb5 hb1
  go_enter Try.func81, Try.ntmps81
  go_wp2_with fail
  refine HP.out.mono ?_
  rintro e w6 ⟨v6, rfl, hv6, hb6⟩
  have HV := Lib.hid hv6
  have HB6 := Lib.hid hb6
  clear hv6 hb6
  go_wp2_with fail
  go_ret
  have hbs := HB.out.size
  exact ⟨_, rfl, owns_mono HV.out.raw hbs, HB.out.trans (HB6.out.mono hbs)⟩
set_option maxRecDepth 100000 in
set_option maxHeartbeats 2000000 in
theorem bytes81_p (hs : c.pre.size ≤ 1000) : Calls Try.prog 81 #[.agg (cmdC c vk vv vt).toArray, .int .u8 112] w fun e w' => ∃ v, e = .returned v ∧ Own8 w' w.heap.size v (putS c.pre) ∧ Below w.heap.size w w' := by
  have hb1 := below1 w (.cells (cmdC c vk vv vt).toArray 45)
  obtain ⟨c5, W5, hconv, hby5, hb5⟩ := conv_str (w.alloc (.cells (cmdC c vk vv vt).toArray 45)) c.pre
  simp only [cmdC] at *
  have HP := Lib.hid (putBytes110 (some ⟨w.heap.size + 1, 0, none⟩) c.pre.size c5 (sBytes c.pre) W5 (sBytes_len _) (by omega) (by simpa using hby5))
  have HB := Lib.hid (hb1.trans (hb5.mono hb1.size))
  clear hby5 hb5 hb1
  go_enter Try.func81, Try.ntmps81
  go_wp2_with fail
  refine HP.out.mono ?_
  rintro e w6 ⟨v6, rfl, hv6, hb6⟩
  have HV := Lib.hid hv6
  have HB6 := Lib.hid hb6
  clear hv6 hb6
  go_wp2_with fail
  go_ret
  have hbs := HB.out.size
  exact ⟨_, rfl, owns_mono HV.out.raw hbs, HB.out.trans (HB6.out.mono hbs)⟩
set_option maxRecDepth 100000 in
set_option maxHeartbeats 2000000 in
theorem bytes81_c (hs : c.chi.size ≤ 1000) : Calls Try.prog 81 #[.agg (cmdC c vk vv vt).toArray, .int .u8 99] w fun e w' => ∃ v, e = .returned v ∧ Own8 w' w.heap.size v (putS c.chi) ∧ Below w.heap.size w w' := by
  have hb1 := below1 w (.cells (cmdC c vk vv vt).toArray 45)
  obtain ⟨c5, W5, hconv, hby5, hb5⟩ := conv_str (w.alloc (.cells (cmdC c vk vv vt).toArray 45)) c.chi
  simp only [cmdC] at *
  have HP := Lib.hid (putBytes110 (some ⟨w.heap.size + 1, 0, none⟩) c.chi.size c5 (sBytes c.chi) W5 (sBytes_len _) (by omega) (by simpa using hby5))
  have HB := Lib.hid (hb1.trans (hb5.mono hb1.size))
  clear hby5 hb5 hb1
  go_enter Try.func81, Try.ntmps81
  go_wp2_with fail
  refine HP.out.mono ?_
  rintro e w6 ⟨v6, rfl, hv6, hb6⟩
  have HV := Lib.hid hv6
  have HB6 := Lib.hid hb6
  clear hv6 hb6
  go_wp2_with fail
  go_ret
  have hbs := HB.out.size
  exact ⟨_, rfl, owns_mono HV.out.raw hbs, HB.out.trans (HB6.out.mono hbs)⟩
set_option maxRecDepth 100000 in
set_option maxHeartbeats 2000000 in
theorem bytes81_l (n : Nat) (hn : c.life = n) (hl : n < 18446744073709551616) : Calls Try.prog 81 #[.agg (cmdC c vk vv vt).toArray, .int .u8 108] w fun e w' => ∃ v, e = .returned v ∧ Own8 w' w.heap.size v (putV n) ∧ Below w.heap.size w w' := by
  have HB := Lib.hid (below1 w (.cells (cmdC c vk vv vt).toArray 45))
  have HP := Lib.hid (put79 n hl (w.alloc (.cells (cmdC c vk vv vt).toArray 45)))
  simp only [cmdC, hn] at *
  clear hn
  go_enter Try.func81, Try.ntmps81
  go_wp2_with fail
  refine HP.out.mono ?_
  rintro e w6 ⟨v6, rfl, hv6, hb6⟩
  have HV := Lib.hid hv6
  have HB6 := Lib.hid hb6
  clear hv6 hb6
  go_wp2_with fail
  go_ret
  have hbs := HB.out.size
  exact ⟨_, rfl, owns_mono HV.out.raw hbs, HB.out.trans (HB6.out.mono hbs)⟩
set_option maxRecDepth 100000 in
set_option maxHeartbeats 2000000 in
theorem bytes81_n (n : Nat) (hn : c.ver = n) (hl : n < 18446744073709551616) : Calls Try.prog 81 #[.agg (cmdC c vk vv vt).toArray, .int .u8 110] w fun e w' => ∃ v, e = .returned v ∧ Own8 w' w.heap.size v (putV n) ∧ Below w.heap.size w w' := by
  have HB := Lib.hid (below1 w (.cells (cmdC c vk vv vt).toArray 45))
  have HP := Lib.hid (put79 n hl (w.alloc (.cells (cmdC c vk vv vt).toArray 45)))
  simp only [cmdC, hn] at *
  clear hn
  go_enter Try.func81, Try.ntmps81
  go_wp2_with fail
  refine HP.out.mono ?_
  rintro e w6 ⟨v6, rfl, hv6, hb6⟩
  have HV := Lib.hid hv6
  have HB6 := Lib.hid hb6
  clear hv6 hb6
  go_wp2_with fail
  go_ret
  have hbs := HB.out.size
  exact ⟨_, rfl, owns_mono HV.out.raw hbs, HB.out.trans (HB6.out.mono hbs)⟩
set_option maxRecDepth 100000 in
set_option maxHeartbeats 2000000 in
theorem bytes81_v (hl : c.val.length ≤ 100000) (hv : DatG w w.heap.size vv c.val) : Calls Try.prog 81 #[.agg (cmdC c vk vv vt).toArray, .int .u8 118] w fun e w' => ∃ v, e = .returned v ∧ Own8 w' w.heap.size v (putV c.val.length ++ c.val) ∧ Below w.heap.size w w' := by
  obtain ⟨_, _, A, ca, rfl, hby⟩ := hv
  have hb1 := below1 w (.cells (cmdC c vk (.slice A c.val.length ca) vt).toArray 45)
  have HP := Lib.hid (putBytes110 A c.val.length ca c.val (w.alloc (.cells (cmdC c vk (.slice A c.val.length ca) vt).toArray 45)) rfl hl ((hby.below hb1 (Nat.le_refl _)).mono hb1.size))
  have HB := Lib.hid hb1
  clear hby hb1
  simp only [cmdC] at *
  go_enter Try.func81, Try.ntmps81
  go_wp2_with fail
  refine HP.out.mono ?_
  rintro e w6 ⟨v6, rfl, hv6, hb6⟩
  have HV := Lib.hid hv6
  have HB6 := Lib.hid hb6
  clear hv6 hb6
  go_wp2_with fail
  go_ret
  have hbs := HB.out.size
  exact ⟨_, rfl, owns_mono HV.out.raw hbs, HB.out.trans (HB6.out.mono hbs)⟩
set_option maxRecDepth 100000 in
set_option maxHeartbeats 2000000 in
theorem bytes81_m (hl : c.keys.length ≤ 100) (hs : ∀ s ∈ c.keys, s.size ≤ 1000) (hv : SlV Value.string w w.heap.size vk c.keys) : Calls Try.prog 81 #[.agg (cmdC c vk vv vt).toArray, .int .u8 109] w fun e w' => ∃ v, e = .returned v ∧ Own8 w' w.heap.size v (putLs c.keys) ∧ Below w.heap.size w w' := by
  obtain ⟨_, A, ca, rfl, hel⟩ := hv
  have hb1 := below1 w (.cells (cmdC c (.slice A c.keys.length ca) vv vt).toArray 45)
  have HP := Lib.hid (list111 A c.keys.length ca c.keys (w.alloc (.cells (cmdC c (.slice A c.keys.length ca) vv vt).toArray 45)) rfl hl hs ((hel.below hb1 (Nat.le_refl _)).mono hb1.size))
  have HB := Lib.hid hb1
  clear hel hb1
  simp only [cmdC] at *
  go_enter Try.func81, Try.ntmps81
  go_wp2_with fail
  refine HP.out.mono ?_
  rintro e w6 ⟨v6, rfl, hv6, hb6⟩
  have HV := Lib.hid hv6
  have HB6 := Lib.hid hb6
  clear hv6 hb6
  go_wp2_with fail
  go_ret
  have hbs := HB.out.size
  exact ⟨_, rfl, owns_mono HV.out.raw hbs, HB.out.trans (HB6.out.mono hbs)⟩
set_option maxRecDepth 100000 in
set_option maxHeartbeats 2000000 in
theorem bytes81_t (hl : c.tags.length ≤ 100) (hs : ∀ s ∈ c.tags, s.size ≤ 1000) (hv : SlV Value.string w w.heap.size vt c.tags) : Calls Try.prog 81 #[.agg (cmdC c vk vv vt).toArray, .int .u8 116] w fun e w' => ∃ v, e = .returned v ∧ Own8 w' w.heap.size v (putLs c.tags) ∧ Below w.heap.size w w' := by
  obtain ⟨_, A, ca, rfl, hel⟩ := hv
  have hb1 := below1 w (.cells (cmdC c vk vv (.slice A c.tags.length ca)).toArray 45)
  have HP := Lib.hid (list111 A c.tags.length ca c.tags (w.alloc (.cells (cmdC c vk vv (.slice A c.tags.length ca)).toArray 45)) rfl hl hs ((hel.below hb1 (Nat.le_refl _)).mono hb1.size))
  have HB := Lib.hid hb1
  clear hel hb1
  simp only [cmdC] at *
  go_enter Try.func81, Try.ntmps81
  go_wp2_with fail
  refine HP.out.mono ?_
  rintro e w6 ⟨v6, rfl, hv6, hb6⟩
  have HV := Lib.hid hv6
  have HB6 := Lib.hid hb6
  clear hv6 hb6
  go_wp2_with fail
  go_ret
  have hbs := HB.out.size
  exact ⟨_, rfl, owns_mono HV.out.raw hbs, HB.out.trans (HB6.out.mono hbs)⟩
end
def needsB (op : Int) : List UInt8 := if op = 1 ∨ op = 2 then [107, 118, 116, 108] else if op = 3 then [107, 118, 116, 108, 110] else if op = 4 ∨ op = 7 ∨ op = 13 then [107] else if op = 5 then [109] else if op = 6 then [107, 108] else if op = 8 ∨ op = 9 then [103] else if op = 10 then [112] else if op = 11 ∨ op = 12 then [107, 99] else []
set_option maxRecDepth 100000 in
set_option maxHeartbeats 2000000 in
theorem needs80 (op : Int) (h1 : 0 < op) (h2 : op < 16) (w : World) : Calls Try.prog 80 #[.int .i64 op] w fun e w' => e = .returned (.string ⟨(needsB op).toArray⟩) ∧ w' = w := by
  rcases (show op = 1 ∨ op = 2 ∨ op = 3 ∨ op = 4 ∨ op = 5 ∨ op = 6 ∨ op = 7 ∨ op = 8 ∨ op = 9 ∨ op = 10 ∨ op = 11 ∨ op = 12 ∨ op = 13 ∨ op = 14 ∨ op = 15 by omega) with rfl | rfl | rfl | rfl | rfl | rfl | rfl | rfl | rfl | rfl | rfl | rfl | rfl | rfl | rfl
  all_goals
    go_enter Try.func80, Try.ntmps80
    go_wp2_with fail
    go_ret
    exact ⟨rfl, rfl⟩
end Go.Proofs.Ytnmhmabifeapkaa.Ord
