/- Walk of heavy. -/
import Derived.Test.YtnjhpgmbfblgaaaGreatMH4
namespace Go.Proofs.YtnjhpgmbfblgaaaGreat.Ord
set_option maxRecDepth 100000
set_option maxHeartbeats 16000000
open Go.RowKit
set_option linter.unusedVariables false
set_option linter.unusedSimpArgs false
def big : Nat := 140737488355328
/-- as long as what is handed over may be -/
structure CmdSz (c : CmdR) : Prop where
 key : c.key.size <= big
 keys : ∀ x ∈ c.keys, x.size <= big
 val : c.val.length <= big
 tags : ∀ x ∈ c.tags, x.size <= big
 tag : c.tag.size <= big
 pre : c.pre.size <= big
 chi : c.chi.size <= big
def RespSz (r : RespR) : Prop := ∀ x ∈ r.items, x.val.length <= big
/-- what is not heavy -/
structure Light (c : CmdR) (r : RespR) : Prop where
 nkeys : c.keys.length <= 100
 ntags : c.tags.length <= 100
 nitems : r.items.length <= 100
 nnums : r.nums.length <= 100
 key : c.key.size <= 3000
 val : c.val.length <= 3000
 tag : c.tag.size <= 3000
 pre : c.pre.size <= 3000
 chi : c.chi.size <= 3000
 keys : ∀ x ∈ c.keys, x.size <= 3000
 tags : ∀ x ∈ c.tags, x.size <= 3000
 vals : ∀ x ∈ r.items, x.val.length <= 3000

theorem elv_at {α : Type} {enc : α -> Value} {w : World} {B : Nat} {A : Option Addr} {xs : List α} (h : ElV enc w B A xs) {k : Nat} (hk : k < xs.length) : ∃ b off, A = some ⟨b, off, none⟩ /\ b < B /\ w.cell? ⟨b, off + k, none⟩ = some (enc xs[k]) := h k _ (List.getElem?_eq_getElem hk)
theorem forall_take {α : Type} {P : α -> Prop} {l : List α} (h : ∀ j (hj : j < l.length), P l[j]) : ∀ x ∈ l, P x := fun x hx => by
 obtain ⟨j, hj, rfl⟩ := List.mem_iff_getElem.1 hx
 exact h j hj

theorem heavy7 (c : CmdR) (r : RespR) (vk vv vt vi vn : Value) (w : World) (hc : CmdOk w w.heap.size c vk vv vt) (hr : RespOk w w.heap.size r vi vn) (hcs : CmdSz c) (hrs : RespSz r) :
  Calls Tryz.prog 16 #[.agg (cmdC c vk vv vt).toArray, .agg (respC r vi vn).toArray] w fun e w' => ∃ b, e = .returned (.bool b) /\ (b = false -> Light c r) /\ Below w.heap.size w w' := by
 obtain ⟨h1, h2, h3, h4⟩ := two_boxes w (cmdC c vk vv vt) (respC r vi vn) 36 40
 have hc0 := hc.below h4 (Nat.le_refl _)
 have hr0 := hr.below h4 (Nat.le_refl _)
 clear hc hr
 obtain ⟨W0, hW0⟩ : ∃ W0, (w.alloc (.cells (cmdC c vk vv vt).toArray 36)).alloc (.cells (respC r vi vn).toArray 40) = W0 := ⟨_, rfl⟩
 rw [hW0] at h1 h2 h3 h4 hc0 hr0
 obtain ⟨op, key, keys, val, tags, life, ver, tag, pre, chi⟩ := c
 obtain ⟨rop, rerr, items, rver, rcount, nums⟩ := r
 obtain ⟨⟨a1, Ak, ck, rfl, a2⟩, ⟨a3, a4, Av, cv, rfl, a5⟩, ⟨a6, At, ct, rfl, a7⟩⟩ := hc0
 obtain ⟨⟨b1, Ai, ci, rfl, b2⟩, b3, An, cn, rfl, b4⟩ := hr0
 simp only [cmdC, respC] at h1 h2 hW0 ⊢
 obtain ⟨s1, s2, s3, s4, s5, s6, s7⟩ := hcs
 have s8 := hrs
 simp only [RespSz] at *
 have d1 := h1.cell0 (j := 1) rfl
 have d2 := h1.cell0 (j := 2) rfl
 have d3 := h1.cell0 (j := 3) rfl
 have d4 := h1.cell0 (j := 4) rfl
 have d7 := h1.cell0 (j := 7) rfl
 have d8 := h1.cell0 (j := 8) rfl
 have d9 := h1.cell0 (j := 9) rfl
 have g2 := h2.cell0 (j := 2) rfl
 have g5 := h2.cell0 (j := 5) rfl
 have HB := kp h4
 have HAK := kp a2
 have HAT := kp a7
 have HAI := kp b2
 have HS2 := kp s2
 have HS4 := kp s4
 have HS8 := kp s8
 clear h1 h2 h3 h4 a2 a5 a7 b2 b4 s2 s4 s8 hrs a3
 generalize hnk : keys.length = nk at *
 generalize hnt : tags.length = nt at *
 generalize hni : items.length = ni at *
 generalize hnn : nums.length = nn at *
 generalize hnv : val.length = nv at *
 have HW0 := kp hW0
 clear hW0
 have HNK := kp hnk
 have HNT := kp hnt
 have HNI := kp hni
 have HNN := kp hnn
 have HNV := kp hnv
 clear hnk hnt hni hnn hnv
 unfold maxLen at a1 a6 b1 b3 a4
 simp only [big] at *
 go_enter Tryz.func16, Tryz.ntmps16
 go_upto_region 1 with (fail)
 rw [HW0.out]
 cases t1 : decide ((100 : Int) < (nk : Int))
 case true =>
  go_wp2_with fail
  go_ret
  exact ⟨_, rfl, fun h => by simp at h, HB.out⟩
 case false =>
 cases t2 : decide ((100 : Int) < (nt : Int))
 case true =>
  go_wp2_with fail
  go_ret
  exact ⟨_, rfl, fun h => by simp at h, HB.out⟩
 case false =>
 cases t3 : decide ((100 : Int) < (ni : Int))
 case true =>
  go_wp2_with fail
  go_ret
  exact ⟨_, rfl, fun h => by simp at h, HB.out⟩
 case false =>
 cases t4 : decide ((100 : Int) < (nn : Int))
 case true =>
  go_wp2_with fail
  go_ret
  exact ⟨_, rfl, fun h => by simp at h, HB.out⟩
 case false =>
 have kk1 : nk <= 100 := by simp at t1; omega
 have kk2 : nt <= 100 := by simp at t2; omega
 have kk3 : ni <= 100 := by simp at t3; omega
 have kk4 : nn <= 100 := by simp at t4; omega
 go_wp2_with fail
 go_loopw [5, 6] (fun n5 j wr => ∃ (s k : Nat), n5 = .int .i64 s /\ j = .int .i64 k /\ k <= nk /\ wr = W0 /\ key.size + nv + tag.size + pre.size + chi.size <= s /\ s <= (5 + k) * 140737488355328 /\ ∀ j (hj : j < keys.length), j < k -> keys[j].size <= s) (fun _ j _ => nk - (intOf j).toNat)
 case atStart => exact ⟨key.size + nv + tag.size + pre.size + chi.size, 0, by simp, by go_num, by omega, rfl, Nat.le_refl _, by omega, fun j hj h => by omega⟩
 case round =>
  obtain ⟨s, k, rfl, rfl, hk, rfl, hs0, hs1, hall⟩ := hrel
  by_cases hlt : k < nk
  ·have hg : decide ((k : Int) < (nk : Int)) = true := by simp; omega
   have hkl : k < keys.length := by rw [HNK.out]; exact hlt
   obtain ⟨b, off, rfl, hbl, hcell⟩ := elv_at HAK.out hkl
   have hsz := HS2.out _ (List.getElem_mem hkl)
   obtain ⟨x, hx⟩ : ∃ x, keys[k] = x := ⟨_, rfl⟩
   rw [hx] at hcell hsz
   have HX := kp hx
   have HALL := kp hall
   clear hx hall
   have hov : (s : Int) + (x.size : Int) <= 9223372036854775807 := by omega
   go_wp2_with fail
   go_roundw
   case rel => exact ⟨s + x.size, k + 1, by simp, by go_num, by omega, trivial, by omega, by omega, fun j hj h => by
    by_cases e : j = k
    ·subst e; rw [HX.out]; omega
    ·have := HALL.out j hj (by omega); omega⟩
   case measure => simp [intOf]; omega
  ·obtain rfl : k = nk := by omega
   have hg : decide ((k : Int) < (k : Int)) = false := by simp
   have HALLK := kp hall
   clear hall
   go_wp2_with fail
   go_loopw [5, 7] (fun n5 j wr2 => ∃ (s2 k2 : Nat), n5 = .int .i64 s2 /\ j = .int .i64 k2 /\ k2 <= nt /\ wr2 = wr /\ s <= s2 /\ s2 <= s + k2 * 140737488355328 /\ ∀ j (hj : j < tags.length), j < k2 -> tags[j].size <= s2) (fun _ j _ => nt - (intOf j).toNat)
   case atStart => exact ⟨s, 0, by go_num, by go_num, by omega, rfl, Nat.le_refl _, by omega, fun j hj h => by omega⟩
   case round =>
    obtain ⟨s2, k2, rfl, rfl, hk2, rfl, hs2, hs3, hall2⟩ := hrel
    by_cases hlt2 : k2 < nt
    ·have hg2 : decide ((k2 : Int) < (nt : Int)) = true := by simp; omega
     have hkl : k2 < tags.length := by rw [HNT.out]; exact hlt2
     obtain ⟨b, off, rfl, hbl, hcell⟩ := elv_at HAT.out hkl
     have hsz := HS4.out _ (List.getElem_mem hkl)
     obtain ⟨x, hx⟩ : ∃ x, tags[k2] = x := ⟨_, rfl⟩
     rw [hx] at hcell hsz
     have HX := kp hx
     have HALL := kp hall2
     clear hx hall2
     have hov : (s2 : Int) + (x.size : Int) <= 9223372036854775807 := by omega
     go_wp2_with fail
     go_roundw
     case rel => exact ⟨s2 + x.size, k2 + 1, by simp, by go_num, by omega, trivial, by omega, by omega, fun j hj h => by
      by_cases e : j = k2
      ·subst e; rw [HX.out]; omega
      ·have := HALL.out j hj (by omega); omega⟩
     case measure => simp [intOf]; omega
    ·obtain rfl : k2 = nt := by omega
     have hg2 : decide ((k2 : Int) < (k2 : Int)) = false := by simp
     have HALLT := kp hall2
     clear hall2
     go_wp2_with fail
     go_loopw [5, 8] (fun n5 j wr3 => ∃ (s3 k3 : Nat), n5 = .int .i64 s3 /\ j = .int .i64 k3 /\ k3 <= ni /\ wr3 = wr /\ s2 <= s3 /\ s3 <= s2 + k3 * 140737488355328 /\ ∀ j (hj : j < items.length), j < k3 -> items[j].val.length <= s3) (fun _ j _ => ni - (intOf j).toNat)
     case atStart => exact ⟨s2, 0, by go_num, by go_num, by omega, rfl, Nat.le_refl _, by omega, fun j hj h => by omega⟩
     case round =>
      obtain ⟨s3, k3, rfl, rfl, hk3, rfl, hs4, hs5, hall3⟩ := hrel
      by_cases hlt3 : k3 < ni
      ·have hg3 : decide ((k3 : Int) < (ni : Int)) = true := by simp; omega
       have hkl : k3 < items.length := by rw [HNI.out]; exact hlt3
       obtain ⟨b, off, v, rfl, hbl, hcell, hdat⟩ := HAI.out k3 _ (List.getElem?_eq_getElem hkl)
       have hsz := HS8.out _ (List.getElem_mem hkl)
       obtain ⟨x, hx⟩ : ∃ x, items[k3] = x := ⟨_, rfl⟩
       rw [hx] at hcell hsz hdat
       obtain ⟨q1, q2, A9, c9, rfl, q3⟩ := hdat
       have hc1 := hcell 1 _ rfl
       simp only [Addr.add_mid] at hc1
       generalize hxl : x.val.length = m at *
       have hmm : m <= 9223372036854775807 := by omega
       have HX := kp hx
       have HXL := kp hxl
       have HALL := kp hall3
       clear hx hall3 hcell q1 q2 q3 hxl
       have hov : (s3 : Int) + (m : Int) <= 9223372036854775807 := by omega
       go_wp2_with fail
       go_roundw
       case rel => exact ⟨s3 + m, k3 + 1, by simp, by go_num, by omega, trivial, by omega, by omega, fun j hj h => by
        by_cases e : j = k3
        ·subst e; rw [HX.out, HXL.out]; omega
        ·have := HALL.out j hj (by omega); omega⟩
       case measure => simp [intOf]; omega
      ·obtain rfl : k3 = ni := by omega
       have hg3 : decide ((k3 : Int) < (k3 : Int)) = false := by simp
       have HALLI := kp hall3
       clear hall3
       go_wp2_with fail
       go_ret
       refine ⟨_, rfl, fun hb => ?_, HB.out⟩
       have hs6 : s3 <= 3000 := by simp at hb; omega
       refine ⟨by rw [HNK.out]; exact kk1, by rw [HNT.out]; exact kk2, by rw [HNI.out]; exact kk3, by rw [HNN.out]; exact kk4, by show key.size <= _; omega, by show val.length <= _; rw [HNV.out]; omega, by show tag.size <= _; omega, by show pre.size <= _; omega, by show chi.size <= _; omega, forall_take fun j hj => ?_, forall_take fun j hj => ?_, forall_take fun j hj => ?_⟩
       ·have h1 : j < keys.length := hj
        have := HALLK.out j h1 (by have := HNK.out; omega)
        show keys[j].size <= 3000
        omega
       ·have h1 : j < tags.length := hj
        have := HALLT.out j h1 (by have := HNT.out; omega)
        show tags[j].size <= 3000
        omega
       ·have h1 : j < items.length := hj
        have := HALLI.out j h1 (by have := HNI.out; omega)
        show items[j].val.length <= 3000
        omega
end Go.Proofs.YtnjhpgmbfblgaaaGreat.Ord
