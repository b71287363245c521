/- Walk of light: the calls are few and. -/
import Derived.Test.YtnjhpgmbfblgaaaGreatMU37
import Derived.Test.YtnjhpgmbfblgaaaGreatMP1
import Derived.Deep.DeepCutAuto
import Derived.Deep.CutBlock
import Derived.Deep.RegionHeld
set_option linter.unusedVariables false
set_option linter.unusedSimpArgs false
namespace Go.Proofs.YtnjhpgmbfblgaaaGreat.Ord
open Go.RowKit
set_option maxRecDepth 100000
set_option maxHeartbeats 16000000
theorem light28 (L : List (CallR × CallV)) (A : Option Addr) (n c : Nat) (w : World) (hn : L.length = n) (hl : n <= maxLen) (hA : RowCO w w.heap.size A L) (hs : ∀ x ∈ L, CmdSz x.1.cmd /\ RespSz x.1.resp) :
  Calls Tryz.prog 28 #[.slice A n c] w fun e w' => ∃ b, e = .returned (.bool b) /\ (b = true -> n <= 60 /\ ∀ x ∈ L, Light x.1.cmd x.1.resp) /\ Bw w w' := by
 have hn' : n <= 9223372036854775807 := by unfold maxLen at hl; omega
 by_cases hlong : 60 < n
 ·have hg : decide ((60 : Int) < (n : Int)) = true := by simp; omega
  clear hA hs
  go_enter Tryz.func28, Tryz.ntmps28
  go_wp2_with fail
  go_ret
  exact ⟨false, rfl, fun h => (by cases h), BR _ _⟩
 have hg : decide ((60 : Int) < (n : Int)) = false := by simp; omega
 have hn6 : n <= 60 := by omega
 obtain ⟨HA, HN, HS⟩ := kq3 hA hn hs
 clear hA hn hs hlong
 go_enter Tryz.func28, Tryz.ntmps28
 go_wp2_with fail
 go_loopw [3] (fun s3 wr => ∃ k : Nat, k <= n /\ s3 = .int .i64 k /\ Bw w wr /\ Hid (∀ i x, L[i]? = some x -> i < k -> Light x.1.cmd x.1.resp)) (fun j _ => n - (intOf j).toNat)
 case atStart => exact ⟨0, Nat.zero_le _, by go_num, BR _ _, kp fun i x _ h => absurd h (by omega)⟩
 obtain ⟨k, hk, rfl, hb, Aj⟩ := hrel
 have HB := kp hb
 clear hb
 by_cases hlt : k < n
 ·have hg2 : decide ((k : Int) < (n : Int)) = true := eT_ (by omega)
  have hi1 : (k : Int) < (n : Int) := by omega
  have hk1 : k < L.length := by rw [HN.o]; exact hlt
  obtain ⟨⟨x, p⟩, hx⟩ : ∃ x, L[k] = x := ⟨_, rfl⟩
  have hxk := gE hk1
  rw [hx] at hxk
  have hxs := HS.o _ (mG hxk)
  obtain ⟨b, off, rfl, hbB, hck, hok⟩ := (HA.o.below HB.o (lR _)) k _ hxk
  have Az := kp hxk
  have k1 := call_cmd hck
  have k2 := lw_ hck
  dsimp only at hok hxs k1 k2
  obtain ⟨Bd, Ay⟩ := kq2 hok hxs
  obtain ⟨LX, hLX⟩ := eY (callC x p)
  obtain ⟨LC, hLC⟩ := eY (cmdC x.cmd p.vk p.vv p.vt)
  obtain ⟨LR, hLR⟩ := eY (respC x.resp p.vi p.vn)
  have Ae := kp (boxF hLX hLC hLR hok)
  rw [hLC] at k1
  rw [hLR] at k2
  obtain ⟨Bh, Bf⟩ := kq2 hLC hLR
  clear hLX hLC hLR hck hok hxs hx hxk
  obtain ⟨w5, rfl⟩ := eX wr
  go_upto_region 6 with (fail)
  obtain ⟨V0, hV0⟩ := eX w5.drew
  have hb0 : Bw w5 V0 := by rw [hV0]; exact ag_ w5 1
  have hbs : b < w5.heap.size := lL hbB HB.o.size
  obtain ⟨Bj, Bi, Aq, Aw⟩ := kq4 (show CellsAt V0 ⟨b, off + k * 23 + 3, none⟩ LC from k1.below hb0 hbs) (show CellsAt V0 ⟨b, off + k * 23 + 13, none⟩ LR from k2.below hb0 hbs) hb0 (show b < V0.heap.size from lL hbs hb0.size)
  clear k1 k2 hb0 hbs
  go_cut [4, 5] (fun s4 s5 W' => ∃ C R, s4 = .pointer (some ⟨C, 0, none⟩) /\ s5 = .pointer (some ⟨R, 0, none⟩) /\ RowL W' C 36 LC /\ RowL W' R 40 LR /\ Bw V0 W')
  case first =>
   obtain ⟨Aa, Ac, Ab, Ap, Ao, Am⟩ := kq6 (fun (W : World) (h : Bw V0 W) => (show CellsAt W ⟨b, off + k * 23 + 3, none⟩ LC /\ CellsAt W ⟨b, off + k * 23 + 13, none⟩ LR from ⟨Bj.o.below h Aw.o, Bi.o.below h Aw.o⟩)) Ae.o.sz1 Ae.o.sz2 Ae.o.len Ae.o.one Ae.o.put
   refine wp_region_held_drew (S := fun W => CellsAt W ⟨b, off + k * 23 + 3, none⟩ LC /\ CellsAt W ⟨b, off + k * 23 + 13, none⟩ LR) (by kernel_rfl) (by rw [<- hV0]; exact Aa.o _ (BR _ V0)) (fun hS => ?_)
   rw [<- hV0] at hS ⊢
   have hB := BR V0.heap.size V0
   have HS := kp hS
   clear hS hV0
   refine tp 0 rfl rfl HS.o ?_
   simp only [Act.put, z1, z2, z3]
   refine tp 1 rfl rfl HS.o ?_
   simp only [Act.put, z1, z2, z3]
   refine tp 2 rfl rfl HS.o ?_
   simp only [Act.put, z1, z2, z3]
   refine tp 3 rfl rfl HS.o ?_
   simp only [Act.put, z1, z2, z3]
   refine tq 4 (.agg LC.toArray) rfl (yields_aggU rfl 36 _ rfl ⟨b, off + k * 23 + 3, none⟩ rfl LC _ (fun W hW => hW.1) Tryz.underlying36 Ac.o) HS.o ?_
   simp only [Act.put, z1, z2, z3]
   refine tp 5 rfl rfl HS.o ?_
   simp only [Act.put, z1, z2, z3]
   refine tp 6 rfl rfl HS.o ?_
   simp only [Act.put, z1, z2, z3]
   refine tp 7 rfl rfl HS.o ?_
   simp only [Act.put, z1, z2, z3]
   refine tp 8 rfl rfl HS.o ?_
   simp only [Act.put, z1, z2, z3]
   refine tq 9 (.agg LR.toArray) rfl (yields_aggU rfl 40 _ rfl ⟨b, off + k * 23 + 13, none⟩ rfl LR _ (fun W hW => hW.2) Tryz.underlying40 Ab.o) HS.o ?_
   simp only [Act.put, z1, z2, z3]
   refine wpAnyH_ready (rs := [10, 11]) (by kernel_rfl) (by simp) ?_
   refine aQ rfl (fun KK hK => ?_) (aQ rfl (fun KK hK => ?_) (AllReadyH.nil))
   ·
    with_reducible refine aw_ rfl (w' := V0.alloc (.cells ([.int .i64 0, .string ⟨#[]⟩, .slice none 0 0, .slice none 0 0, .slice none 0 0, .int .u64 0, .int .u64 0, .string ⟨#[]⟩, .string ⟨#[]⟩, .string ⟨#[]⟩] : List Value).toArray 36)) (.pointer (some ⟨V0.heap.size, 0, none⟩)) ?_ ?_
    ·go_simp; try with_reducible rfl
    have nC := RowL.new V0 36 [.int .i64 0, .string ⟨#[]⟩, .slice none 0 0, .slice none 0 0, .slice none 0 0, .int .u64 0, .int .u64 0, .string ⟨#[]⟩, .string ⟨#[]⟩, .string ⟨#[]⟩]
    have nB := hB.alloc hB.size (.cells ([.int .i64 0, .string ⟨#[]⟩, .slice none 0 0, .slice none 0 0, .slice none 0 0, .int .u64 0, .int .u64 0, .string ⟨#[]⟩, .string ⟨#[]⟩, .string ⟨#[]⟩] : List Value).toArray 36)
    obtain ⟨C, hCe⟩ := eY V0.heap.size
    have hLC := kp (show V0.heap.size <= C from hCe ▸ hB.size)
    rw [hCe] at nC ⊢
    clear hCe
    obtain ⟨V1, hN⟩ := eX (V0.alloc (.cells ([.int .i64 0, .string ⟨#[]⟩, .slice none 0 0, .slice none 0 0, .slice none 0 0, .int .u64 0, .int .u64 0, .string ⟨#[]⟩, .string ⟨#[]⟩, .string ⟨#[]⟩] : List Value).toArray 36))
    rw [<- hN] at nC nB ⊢
    clear hN hB
    have hB := nB
    have hC := nC
    clear nB nC
    have hS := Aa.o _ hB
    refine hK.o _ _ hS (fun _ => ?_)
    clear hK KK HS
    have HS := kp hS
    clear hS
    try simp only [Act.put, z1, z2, z3]
    refine oQ 11 rfl (fun KK hK => ?_)
    with_reducible refine aw_ rfl (w' := V1.alloc (.cells ([.int .i64 0, .int .i64 0, .slice none 0 0, .int .u64 0, .int .i64 0, .slice none 0 0] : List Value).toArray 40)) (.pointer (some ⟨V1.heap.size, 0, none⟩)) ?_ ?_
    ·go_simp; try with_reducible rfl
    have nR := RowL.new V1 40 [.int .i64 0, .int .i64 0, .slice none 0 0, .int .u64 0, .int .i64 0, .slice none 0 0]
    have nB := hB.alloc hB.size (.cells ([.int .i64 0, .int .i64 0, .slice none 0 0, .int .u64 0, .int .i64 0, .slice none 0 0] : List Value).toArray 40)
    have nC := hC.alloc (.cells ([.int .i64 0, .int .i64 0, .slice none 0 0, .int .u64 0, .int .i64 0, .slice none 0 0] : List Value).toArray 40)
    obtain ⟨R, hRe⟩ := eY V1.heap.size
    have hLR := kp (show V0.heap.size <= R from hRe ▸ hB.size)
    rw [hRe] at nR ⊢
    clear hRe
    obtain ⟨V2, hN⟩ := eX (V1.alloc (.cells ([.int .i64 0, .int .i64 0, .slice none 0 0, .int .u64 0, .int .i64 0, .slice none 0 0] : List Value).toArray 40))
    rw [<- hN] at nR nB nC ⊢
    clear hN hB hC
    have hB := nB
    have hR := nR
    have hC := nC
    clear nB nR nC
    have hS := Aa.o _ hB
    refine hK.o _ _ hS (fun _ => ?_)
    clear hK KK HS
    have HS := kp hS
    clear hS
    try simp only [Act.put, z1, z2, z3]
    refine oQ 12 rfl (fun KK hK => ?_)
    with_reducible refine al_ rfl 36 _ _ rfl C 0 LC.toArray ?_ ?_ ?_ ?_ ?_ ?_
    ·rfl
    ·rfl
    ·exact hC.there (by rw [Nat.zero_add, zS, Ap.o.1]; decide)
    ·rw [zS]; exact Ac.o
    ·exact Ao.o.1
    have nC := hC.setCells (o := 0) LC
    rw [Am.o.1] at nC
    have nR := hR.setCellsOther (vs := LC) (o := 0) (hR.ne hC (by decide))
    have nB := hB.trans (ai_ LC 0 V2 (B := V0.heap.size) (b := C) hLC.o)
    obtain ⟨V3, hN⟩ := eX (V2.setCells C 0 LC)
    rw [<- hN] at nC nB nR ⊢
    clear hN hB hC hR
    have hB := nB
    have hC := nC
    have hR := nR
    clear nB nC nR
    have hS := Aa.o _ hB
    refine hK.o _ _ hS (fun _ => ?_)
    clear hK KK HS
    have HS := kp hS
    clear hS
    try simp only [Act.put, z1, z2, z3]
    refine oQ 13 rfl (fun KK hK => ?_)
    with_reducible refine al_ rfl 40 _ _ rfl R 0 LR.toArray ?_ ?_ ?_ ?_ ?_ ?_
    ·rfl
    ·rfl
    ·exact hR.there (by rw [Nat.zero_add, zS, Ap.o.2]; decide)
    ·rw [zS]; exact Ab.o
    ·exact Ao.o.2
    have nR := hR.setCells (o := 0) LR
    rw [Am.o.2] at nR
    have nC := hC.setCellsOther (vs := LR) (o := 0) (hC.ne hR (by decide))
    have nB := hB.trans (ai_ LR 0 V3 (B := V0.heap.size) (b := R) hLR.o)
    obtain ⟨V4, hN⟩ := eX (V3.setCells R 0 LR)
    rw [<- hN] at nR nB nC ⊢
    clear hN hB hR hC
    have hB := nB
    have hR := nR
    have hC := nC
    clear nB nR nC
    have hS := Aa.o _ hB
    refine hK.o _ _ hS (fun _ => ?_)
    clear hK KK HS
    have HS := kp hS
    clear hS
    try simp only [Act.put, z1, z2, z3]
    refine wpAnyH_done (by kernel_rfl) ?_ _
    go_wp2_with fail
    go_meet
    case rel => exact ⟨C, R, rfl, rfl, hC, hR, hB⟩
   ·
    with_reducible refine aw_ rfl (w' := V0.alloc (.cells ([.int .i64 0, .int .i64 0, .slice none 0 0, .int .u64 0, .int .i64 0, .slice none 0 0] : List Value).toArray 40)) (.pointer (some ⟨V0.heap.size, 0, none⟩)) ?_ ?_
    ·go_simp; try with_reducible rfl
    have nR := RowL.new V0 40 [.int .i64 0, .int .i64 0, .slice none 0 0, .int .u64 0, .int .i64 0, .slice none 0 0]
    have nB := hB.alloc hB.size (.cells ([.int .i64 0, .int .i64 0, .slice none 0 0, .int .u64 0, .int .i64 0, .slice none 0 0] : List Value).toArray 40)
    obtain ⟨R, hRe⟩ := eY V0.heap.size
    have hLR := kp (show V0.heap.size <= R from hRe ▸ hB.size)
    rw [hRe] at nR ⊢
    clear hRe
    obtain ⟨V1, hN⟩ := eX (V0.alloc (.cells ([.int .i64 0, .int .i64 0, .slice none 0 0, .int .u64 0, .int .i64 0, .slice none 0 0] : List Value).toArray 40))
    rw [<- hN] at nR nB ⊢
    clear hN hB
    have hB := nB
    have hR := nR
    clear nB nR
    have hS := Aa.o _ hB
    refine hK.o _ _ hS (fun _ => ?_)
    clear hK KK HS
    have HS := kp hS
    clear hS
    try simp only [Act.put, z1, z2, z3]
    refine oQ 10 rfl (fun KK hK => ?_)
    with_reducible refine aw_ rfl (w' := V1.alloc (.cells ([.int .i64 0, .string ⟨#[]⟩, .slice none 0 0, .slice none 0 0, .slice none 0 0, .int .u64 0, .int .u64 0, .string ⟨#[]⟩, .string ⟨#[]⟩, .string ⟨#[]⟩] : List Value).toArray 36)) (.pointer (some ⟨V1.heap.size, 0, none⟩)) ?_ ?_
    ·go_simp; try with_reducible rfl
    have nC := RowL.new V1 36 [.int .i64 0, .string ⟨#[]⟩, .slice none 0 0, .slice none 0 0, .slice none 0 0, .int .u64 0, .int .u64 0, .string ⟨#[]⟩, .string ⟨#[]⟩, .string ⟨#[]⟩]
    have nB := hB.alloc hB.size (.cells ([.int .i64 0, .string ⟨#[]⟩, .slice none 0 0, .slice none 0 0, .slice none 0 0, .int .u64 0, .int .u64 0, .string ⟨#[]⟩, .string ⟨#[]⟩, .string ⟨#[]⟩] : List Value).toArray 36)
    have nR := hR.alloc (.cells ([.int .i64 0, .string ⟨#[]⟩, .slice none 0 0, .slice none 0 0, .slice none 0 0, .int .u64 0, .int .u64 0, .string ⟨#[]⟩, .string ⟨#[]⟩, .string ⟨#[]⟩] : List Value).toArray 36)
    obtain ⟨C, hCe⟩ := eY V1.heap.size
    have hLC := kp (show V0.heap.size <= C from hCe ▸ hB.size)
    rw [hCe] at nC ⊢
    clear hCe
    obtain ⟨V2, hN⟩ := eX (V1.alloc (.cells ([.int .i64 0, .string ⟨#[]⟩, .slice none 0 0, .slice none 0 0, .slice none 0 0, .int .u64 0, .int .u64 0, .string ⟨#[]⟩, .string ⟨#[]⟩, .string ⟨#[]⟩] : List Value).toArray 36))
    rw [<- hN] at nC nB nR ⊢
    clear hN hB hR
    have hB := nB
    have hC := nC
    have hR := nR
    clear nB nC nR
    have hS := Aa.o _ hB
    refine hK.o _ _ hS (fun _ => ?_)
    clear hK KK HS
    have HS := kp hS
    clear hS
    try simp only [Act.put, z1, z2, z3]
    refine oQ 12 rfl (fun KK hK => ?_)
    with_reducible refine al_ rfl 36 _ _ rfl C 0 LC.toArray ?_ ?_ ?_ ?_ ?_ ?_
    ·rfl
    ·rfl
    ·exact hC.there (by rw [Nat.zero_add, zS, Ap.o.1]; decide)
    ·rw [zS]; exact Ac.o
    ·exact Ao.o.1
    have nC := hC.setCells (o := 0) LC
    rw [Am.o.1] at nC
    have nR := hR.setCellsOther (vs := LC) (o := 0) (hR.ne hC (by decide))
    have nB := hB.trans (ai_ LC 0 V2 (B := V0.heap.size) (b := C) hLC.o)
    obtain ⟨V3, hN⟩ := eX (V2.setCells C 0 LC)
    rw [<- hN] at nC nB nR ⊢
    clear hN hB hC hR
    have hB := nB
    have hC := nC
    have hR := nR
    clear nB nC nR
    have hS := Aa.o _ hB
    refine hK.o _ _ hS (fun _ => ?_)
    clear hK KK HS
    have HS := kp hS
    clear hS
    try simp only [Act.put, z1, z2, z3]
    refine oQ 13 rfl (fun KK hK => ?_)
    with_reducible refine al_ rfl 40 _ _ rfl R 0 LR.toArray ?_ ?_ ?_ ?_ ?_ ?_
    ·rfl
    ·rfl
    ·exact hR.there (by rw [Nat.zero_add, zS, Ap.o.2]; decide)
    ·rw [zS]; exact Ab.o
    ·exact Ao.o.2
    have nR := hR.setCells (o := 0) LR
    rw [Am.o.2] at nR
    have nC := hC.setCellsOther (vs := LR) (o := 0) (hC.ne hR (by decide))
    have nB := hB.trans (ai_ LR 0 V3 (B := V0.heap.size) (b := R) hLR.o)
    obtain ⟨V4, hN⟩ := eX (V3.setCells R 0 LR)
    rw [<- hN] at nR nB nC ⊢
    clear hN hB hR hC
    have hB := nB
    have hR := nR
    have hC := nC
    clear nB nR nC
    have hS := Aa.o _ hB
    refine hK.o _ _ hS (fun _ => ?_)
    clear hK KK HS
    have HS := kp hS
    clear hS
    try simp only [Act.put, z1, z2, z3]
    refine wpAnyH_done (by kernel_rfl) ?_ _
    go_wp2_with fail
    go_meet
    case rel => exact ⟨C, R, rfl, rfl, hC, hR, hB⟩
  case rest =>
  obtain ⟨C, R, rfl, rfl, hrC, hrR, hb2⟩ := hcut
  have Ad := kp (show Bw w wc from HB.o.trans ((Aq.o.trans (hb2.mono Aq.o.size)).mono HB.o.size))
  have hokc : CallOk wc w.heap.size x p := Bd.o.below ((Aq.o.trans (hb2.mono Aq.o.size)).mono HB.o.size) (lR _)
  obtain ⟨⟨⟨a1, Ak, ck, ek, a2⟩, ⟨a3, a4, Av, cv, ev, a5⟩, ⟨a6, At, ct, et, a7⟩⟩, ⟨⟨b1, Ai, ci, ei, b2⟩, b3, An, cn, en, b4⟩⟩ := hokc
  obtain ⟨⟨zz1, zz2, zz3, z4, z5, z6, z7⟩, z8⟩ := Ay.o
  have eC := Bh.o
  have eR := Bf.o
  unfold cmdC at eC
  unfold respC at eR
  rw [ek, ev, et] at eC
  rw [ei, en] at eR
  have Bp := kp (show Light x.cmd x.resp -> Light x.cmd x.resp from id)
  obtain ⟨key, hkey⟩ := eY x.cmd.key
  obtain ⟨keys, hkeys⟩ := eY x.cmd.keys
  obtain ⟨val, hval⟩ := eY x.cmd.val
  obtain ⟨tags, htags⟩ := eY x.cmd.tags
  obtain ⟨tag, htag⟩ := eY x.cmd.tag
  obtain ⟨pre, hpre⟩ := eY x.cmd.pre
  obtain ⟨chi, hchi⟩ := eY x.cmd.chi
  obtain ⟨items, hitems⟩ := eY x.resp.items
  obtain ⟨nums, hnums⟩ := eY x.resp.nums
  unfold RespSz at z8
  rw [hkey, hkeys, hval, htags, htag, hpre, hchi] at eC
  rw [hitems, hnums] at eR
  rw [hkeys] at a1 a2 zz2
  rw [hval] at a4 zz3
  rw [htags] at a6 a7 z4
  rw [hitems] at b1 b2 z8
  rw [hnums] at b3
  rw [hkey] at zz1
  rw [htag] at z5
  rw [hpre] at z6
  rw [hchi] at z7
  have Be := kp (fun (h1 : keys.length <= 100) (h2 : tags.length <= 100) (h3 : items.length <= 100) (h4 : nums.length <= 100) (h5 : key.size <= 3000) (h6 : val.length <= 3000) (h7 : tag.size <= 3000) (h8 : pre.size <= 3000) (h9 : chi.size <= 3000) (h10 : ∀ y ∈ keys, y.size <= 3000) (h11 : ∀ y ∈ tags, y.size <= 3000) (h12 : ∀ y ∈ items, y.val.length <= 3000) =>
   (show Light x.cmd x.resp from ⟨hkeys ▸ h1, htags ▸ h2, hitems ▸ h3, hnums ▸ h4, hkey ▸ h5, hval ▸ h6, htag ▸ h7, hpre ▸ h8, hchi ▸ h9, hkeys ▸ h10, htags ▸ h11, hitems ▸ h12⟩))
  generalize hnk : keys.length = nk at *
  generalize hnt : tags.length = nt at *
  generalize hni : items.length = ni at *
  generalize hnn : nums.length = nn at *
  generalize hnv : val.length = nv at *
  have d1 : wc.cell? ⟨C, 1, none⟩ = some (.string key) := hrC.cell (by rw [<- eC]; rfl)
  have d2 : wc.cell? ⟨C, 2, none⟩ = some (.slice Ak nk ck) := hrC.cell (by rw [<- eC]; rfl)
  have d3 : wc.cell? ⟨C, 3, none⟩ = some (.slice Av nv cv) := hrC.cell (by rw [<- eC]; rfl)
  have d4 : wc.cell? ⟨C, 4, none⟩ = some (.slice At nt ct) := hrC.cell (by rw [<- eC]; rfl)
  have d7 : wc.cell? ⟨C, 7, none⟩ = some (.string tag) := hrC.cell (by rw [<- eC]; rfl)
  have d8 : wc.cell? ⟨C, 8, none⟩ = some (.string pre) := hrC.cell (by rw [<- eC]; rfl)
  have d9 : wc.cell? ⟨C, 9, none⟩ = some (.string chi) := hrC.cell (by rw [<- eC]; rfl)
  have g2 : wc.cell? ⟨R, 2, none⟩ = some (.slice Ai ni ci) := hrR.cell (by rw [<- eR]; rfl)
  have g5 : wc.cell? ⟨R, 5, none⟩ = some (.slice An nn cn) := hrR.cell (by rw [<- eR]; rfl)
  obtain ⟨Bl, Bk, Bm, Bc, Bb, Ba, As, Ar, Au, Bo, Bn⟩ := kq11 a2 a7 b2 zz2 z4 z8 hnk hnt hni hnn hnv
  clear hrC hrR hb2 a2 a3 a5 a7 b2 b4 zz2 z4 z8 ek ev et ei en eC eR hkey hkeys hval htags htag hpre hchi hitems hnums hnk hnt hni hnn hnv
  unfold maxLen at a1 a6 b1 b3 a4
  simp only [big] at *
  cases q1 : decide ((100 : Int) < (nk : Int))
  case true =>
   go_wp2_with fail
   go_ret
   exact ⟨false, rfl, fun h => (by cases h), Ad.o⟩
  case false =>
  cases q2 : decide ((100 : Int) < (nt : Int))
  case true =>
   go_wp2_with fail
   go_ret
   exact ⟨false, rfl, fun h => (by cases h), Ad.o⟩
  case false =>
  cases q3 : decide ((100 : Int) < (ni : Int))
  case true =>
   go_wp2_with fail
   go_ret
   exact ⟨false, rfl, fun h => (by cases h), Ad.o⟩
  case false =>
  cases q4 : decide ((100 : Int) < (nn : Int))
  case true =>
   go_wp2_with fail
   go_ret
   exact ⟨false, rfl, fun h => (by cases h), Ad.o⟩
  case false =>
  have kk1 : nk <= 100 := by simp at q1; omega
  have kk2 : nt <= 100 := by simp at q2; omega
  have kk3 : ni <= 100 := by simp at q3; omega
  have kk4 : nn <= 100 := by simp at q4; omega
  go_wp2_with fail
  go_loopw [6, 7] (fun n5 j wr => ∃ (s i1 : Nat), n5 = .int .i64 s /\ j = .int .i64 i1 /\ i1 <= nk /\ wr = wc /\ key.size + nv + tag.size + pre.size + chi.size <= s /\ s <= (5 + i1) * 140737488355328 /\ ∀ j (hj : j < keys.length), j < i1 -> keys[j].size <= s) (fun _ j _ => nk - (intOf j).toNat)
  case atStart => exact ⟨key.size + nv + tag.size + pre.size + chi.size, 0, by simp, by go_num, by omega, rfl, lR _, by omega, fun j hj h => by omega⟩
  obtain ⟨s, i1, rfl, rfl, hk1, rfl, ha1, hb1, hall⟩ := hrel
  by_cases hlt1 : i1 < nk
  ·have hgl1 : decide ((i1 : Int) < (nk : Int)) = true := by simp; omega
   have hkl : i1 < keys.length := by rw [As.o]; exact hlt1
   obtain ⟨b1, off1, rfl, hbl, hcell⟩ := elv_at Bl.o hkl
   have hsz := Bc.o _ (List.getElem_mem hkl)
   obtain ⟨z, hz⟩ := eY (keys[i1])
   rw [hz] at hcell hsz
   obtain ⟨HZ, Al⟩ := kq2 hz hall
   clear hz hall
   have hov : (s : Int) + (z.size : Int) <= 9223372036854775807 := by omega
   go_wp2_with fail
   go_roundw
   case rel => exact ⟨s + z.size, i1 + 1, by simp, by go_num, by omega, trivial, by omega, by omega, fun j hj h => by
    by_cases e : j = i1
    ·subst e; rw [HZ.o]; omega
    have := Al.o j hj (by omega); omega⟩
   simp [intOf]; omega
  obtain rfl : i1 = nk := by omega
  have hgl1 : decide ((i1 : Int) < (i1 : Int)) = false := by simp
  have Ag := kp hall
  clear hall
  go_wp2_with fail
  go_loopw [6, 8] (fun n5 j wr2 => ∃ (s2 i2 : Nat), n5 = .int .i64 s2 /\ j = .int .i64 i2 /\ i2 <= nt /\ wr2 = wr /\ s <= s2 /\ s2 <= s + i2 * 140737488355328 /\ ∀ j (hj : j < tags.length), j < i2 -> tags[j].size <= s2) (fun _ j _ => nt - (intOf j).toNat)
  case atStart => exact ⟨s, 0, by go_num, by go_num, by omega, rfl, lR _, by omega, fun j hj h => by omega⟩
  obtain ⟨s2, i2, rfl, rfl, hk2, rfl, ha2, hb2, hall⟩ := hrel
  by_cases hlt2 : i2 < nt
  ·have hgl2 : decide ((i2 : Int) < (nt : Int)) = true := by simp; omega
   have hkl : i2 < tags.length := by rw [Ar.o]; exact hlt2
   obtain ⟨b1, off1, rfl, hbl, hcell⟩ := elv_at Bk.o hkl
   have hsz := Bb.o _ (List.getElem_mem hkl)
   obtain ⟨z, hz⟩ := eY (tags[i2])
   rw [hz] at hcell hsz
   obtain ⟨HZ, Al⟩ := kq2 hz hall
   clear hz hall
   have hov : (s2 : Int) + (z.size : Int) <= 9223372036854775807 := by omega
   go_wp2_with fail
   go_roundw
   case rel => exact ⟨s2 + z.size, i2 + 1, by simp, by go_num, by omega, trivial, by omega, by omega, fun j hj h => by
    by_cases e : j = i2
    ·subst e; rw [HZ.o]; omega
    have := Al.o j hj (by omega); omega⟩
   simp [intOf]; omega
  obtain rfl : i2 = nt := by omega
  have hgl2 : decide ((i2 : Int) < (i2 : Int)) = false := by simp
  have Af := kp hall
  clear hall
  go_wp2_with fail
  go_loopw [6, 9] (fun n5 j wr3 => ∃ (s3 i3 : Nat), n5 = .int .i64 s3 /\ j = .int .i64 i3 /\ i3 <= ni /\ wr3 = wr /\ s2 <= s3 /\ s3 <= s2 + i3 * 140737488355328 /\ ∀ j (hj : j < items.length), j < i3 -> items[j].val.length <= s3) (fun _ j _ => ni - (intOf j).toNat)
  case atStart => exact ⟨s2, 0, by go_num, by go_num, by omega, rfl, lR _, by omega, fun j hj h => by omega⟩
  obtain ⟨s3, i3, rfl, rfl, hk3, rfl, ha3, hb3, hall⟩ := hrel
  by_cases hlt3 : i3 < ni
  ·have hgl3 : decide ((i3 : Int) < (ni : Int)) = true := by simp; omega
   have hkl : i3 < items.length := by rw [Au.o]; exact hlt3
   obtain ⟨b1, off1, v, rfl, hbl, hcell, hdat⟩ := Bm.o i3 _ (gE hkl)
   have hsz := Ba.o _ (List.getElem_mem hkl)
   obtain ⟨z, hz⟩ := eY (items[i3])
   rw [hz] at hcell hsz hdat
   obtain ⟨y1, y2, A9, c9, rfl, y3⟩ := hdat
   have hc1 := hcell 1 _ rfl
   simp only [Addr.add_mid] at hc1
   generalize hxl : z.val.length = m at *
   have hmm : m <= 9223372036854775807 := by omega
   obtain ⟨HZ, Ax, Al⟩ := kq3 hz hxl hall
   clear hz hall hcell y1 y2 y3 hxl
   have hov : (s3 : Int) + (m : Int) <= 9223372036854775807 := by omega
   go_wp2_with fail
   go_roundw
   case rel => exact ⟨s3 + m, i3 + 1, by simp, by go_num, by omega, trivial, by omega, by omega, fun j hj h => by
    by_cases e : j = i3
    ·subst e; rw [HZ.o, Ax.o]; omega
    have := Al.o j hj (by omega); omega⟩
   simp [intOf]; omega
  obtain rfl : i3 = ni := by omega
  have hgl3 : decide ((i3 : Int) < (i3 : Int)) = false := by simp
  have Ah := kp hall
  clear hall
  cases qf : decide ((3000 : Int) < (s3 : Int))
  case true =>
   go_wp2_with fail
   go_ret
   exact ⟨false, rfl, fun h => (by cases h), Ad.o⟩
  case false =>
  have hs6 : s3 <= 3000 := by simp at qf; omega
  have Bg := kp (Be.o kk1 kk2 kk3 kk4 (by omega) (by omega) (by omega) (by omega) (by omega)
   (c5_ fun j hj => (by have := Ag.o j hj (by have := As.o; omega); omega))
   (c5_ fun j hj => (by have := Af.o j hj (by have := Ar.o; omega); omega))
   (c5_ fun j hj => (by have := Ah.o j hj (by have := Au.o; omega); omega)))
  go_wp2_with fail
  go_roundw
  case rel => exact ⟨k + 1, by omega, by go_num, Ad.o, kp fun i y hi hik => by
   by_cases e : i = k
   ·subst e
    rw [Az.o] at hi
    cases hi
    exact Bg.o
   exact Aj.o i y hi (by omega)⟩
  simp [intOf]; omega
 obtain rfl : k = n := by omega
 have hg2 : decide ((k : Int) < (k : Int)) = false := by simp
 go_wp2_with fail
 go_ret
 refine ⟨true, rfl, fun _ => ⟨hn6, fun x hx => ?_⟩, HB.o⟩
 obtain ⟨i, hi⟩ := mI.1 hx
 exact Aj.o i x hi (by rw [<- HN.o]; exact (gS.1 hi).1)
end Go.Proofs.YtnjhpgmbfblgaaaGreat.Ord
