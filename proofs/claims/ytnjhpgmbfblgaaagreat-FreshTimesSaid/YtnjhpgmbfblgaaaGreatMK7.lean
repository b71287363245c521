/- Walks of the reference's Needs and allowed (commands), and of its keys; Walk of the. -/
import Derived.Test.YtnjhpgmbfblgaaaGreatMK5
import Derived.Test.YtnjhpgmbfblgaaaGreatMH13
set_option linter.unusedVariables false
set_option linter.unusedSimpArgs false
namespace Go.Proofs.YtnjhpgmbfblgaaaGreat.Ord
set_option maxRecDepth 100000
set_option maxHeartbeats 16000000
open Go.RowKit
theorem gW_ (op : Int) (ho : op = 1 ∨ op = 2) (w : World) : Calls Tryz.prog 175 #[.int .i64 op] w fun e w' => e = .returned (.string ⟨#[107, 118, 116, 108]⟩) /\ w' = w := by
 rcases ho with rfl | rfl
 all_goals
  go_enter Tryz.func175, Tryz.ntmps175
  go_wp2_with fail
  go_ret
  exact ⟨rfl, rfl⟩
theorem g0_ (op : Int) (ho : op = 3) (w : World) : Calls Tryz.prog 175 #[.int .i64 op] w fun e w' => e = .returned (.string ⟨#[107, 118, 116, 108, 110]⟩) /\ w' = w := by
 rcases ho with rfl
 all_goals
  go_enter Tryz.func175, Tryz.ntmps175
  go_wp2_with fail
  go_ret
  exact ⟨rfl, rfl⟩
theorem gY_ (op : Int) (ho : op = 4 ∨ op = 7 ∨ op = 13) (w : World) : Calls Tryz.prog 175 #[.int .i64 op] w fun e w' => e = .returned (.string ⟨#[107]⟩) /\ w' = w := by
 rcases ho with rfl | rfl | rfl
 all_goals
  go_enter Tryz.func175, Tryz.ntmps175
  go_wp2_with fail
  go_ret
  exact ⟨rfl, rfl⟩
theorem fD_ (op : Int) (ho : op = 5) (w : World) : Calls Tryz.prog 175 #[.int .i64 op] w fun e w' => e = .returned (.string ⟨#[109]⟩) /\ w' = w := by
 rcases ho with rfl
 all_goals
  go_enter Tryz.func175, Tryz.ntmps175
  go_wp2_with fail
  go_ret
  exact ⟨rfl, rfl⟩
theorem ev_ (op : Int) (ho : op = 6) (w : World) : Calls Tryz.prog 175 #[.int .i64 op] w fun e w' => e = .returned (.string ⟨#[107, 108]⟩) /\ w' = w := by
 rcases ho with rfl
 all_goals
  go_enter Tryz.func175, Tryz.ntmps175
  go_wp2_with fail
  go_ret
  exact ⟨rfl, rfl⟩
theorem gV_ (op : Int) (ho : op = 8 ∨ op = 9) (w : World) : Calls Tryz.prog 175 #[.int .i64 op] w fun e w' => e = .returned (.string ⟨#[103]⟩) /\ w' = w := by
 rcases ho with rfl | rfl
 all_goals
  go_enter Tryz.func175, Tryz.ntmps175
  go_wp2_with fail
  go_ret
  exact ⟨rfl, rfl⟩
theorem gX_ (op : Int) (ho : op = 10) (w : World) : Calls Tryz.prog 175 #[.int .i64 op] w fun e w' => e = .returned (.string ⟨#[112]⟩) /\ w' = w := by
 rcases ho with rfl
 all_goals
  go_enter Tryz.func175, Tryz.ntmps175
  go_wp2_with fail
  go_ret
  exact ⟨rfl, rfl⟩
theorem gZ_ (op : Int) (ho : op = 11 ∨ op = 12) (w : World) : Calls Tryz.prog 175 #[.int .i64 op] w fun e w' => e = .returned (.string ⟨#[107, 99]⟩) /\ w' = w := by
 rcases ho with rfl | rfl
 all_goals
  go_enter Tryz.func175, Tryz.ntmps175
  go_wp2_with fail
  go_ret
  exact ⟨rfl, rfl⟩
theorem fC_ (op : Int) (ho : op = 14 ∨ op = 15) (w : World) : Calls Tryz.prog 175 #[.int .i64 op] w fun e w' => e = .returned (.string ⟨#[]⟩) /\ w' = w := by
 rcases ho with rfl | rfl
 all_goals
  go_enter Tryz.func175, Tryz.ntmps175
  go_wp2_with fail
  go_ret
  exact ⟨rfl, rfl⟩
theorem hM_ (s : ByteArray) (w : World) : Calls Tryz.prog 230 #[.string s] w fun e w' => e = .returned (.bool (aB_ s)) /\ w' = w := by
 unfold aB_
 cases g1 : decide (0 < s.size)
 ·have g : decide ((1 : Int) <= (s.size : Int)) = false := eF (by have := of_decide_eq_false g1; omega)
  go_enter Tryz.func230, Tryz.ntmps230
  go_wp2_with fail
  go_ret
  exact ⟨rfl, rfl⟩
 have g : decide ((1 : Int) <= (s.size : Int)) = true := eT_ (by have := of_decide_eq_true g1; omega)
 cases g2 : decide (s.size <= 250)
 ·have g' : decide ((s.size : Int) <= 250) = false := by simp at g2 ⊢; omega
  go_enter Tryz.func230, Tryz.ntmps230
  go_wp2_with fail
  go_ret
  exact ⟨rfl, rfl⟩
 have g' : decide ((s.size : Int) <= 250) = true := by simp at g2 ⊢; omega
 go_enter Tryz.func230, Tryz.ntmps230
 go_wp2_with fail
 go_ret
 exact ⟨rfl, rfl⟩
theorem hL_ (s : ByteArray) (w : World) : Calls Tryz.prog 199 #[.string s] w fun e w' => e = .returned (.bool (a7_ s)) /\ w' = w := by
 unfold a7_
 cases g1 : decide (0 < s.size)
 ·have g : decide ((1 : Int) <= (s.size : Int)) = false := eF (by have := of_decide_eq_false g1; omega)
  go_enter Tryz.func199, Tryz.ntmps199
  go_wp2_with fail
  go_ret
  exact ⟨rfl, rfl⟩
 have g : decide ((1 : Int) <= (s.size : Int)) = true := eT_ (by have := of_decide_eq_true g1; omega)
 cases g2 : decide (s.size <= 64)
 ·have g' : decide ((s.size : Int) <= 64) = false := by simp at g2 ⊢; omega
  go_enter Tryz.func199, Tryz.ntmps199
  go_wp2_with fail
  go_ret
  exact ⟨rfl, rfl⟩
 have g' : decide ((s.size : Int) <= 64) = true := by simp at g2 ⊢; omega
 go_enter Tryz.func199, Tryz.ntmps199
 go_wp2_with fail
 go_ret
 exact ⟨rfl, rfl⟩
theorem ref_pre (s : ByteArray) (w : World) : Calls Tryz.prog 231 #[.string s] w fun e w' => e = .returned (.bool (dX_ s)) /\ w' = w := by
 unfold dX_
 cases g2 : decide (s.size <= 250)
 ·have g' : decide ((s.size : Int) <= 250) = false := by simp at g2 ⊢; omega
  go_enter Tryz.func231, Tryz.ntmps231
  go_wp2_with fail
  go_ret
  exact ⟨rfl, rfl⟩
 have g' : decide ((s.size : Int) <= 250) = true := by simp at g2 ⊢; omega
 go_enter Tryz.func231, Tryz.ntmps231
 go_wp2_with fail
 go_ret
 exact ⟨rfl, rfl⟩
def alw (c : CmdR) (ch : Int) : Bool :=
 if ch = 107 then aB_ c.key
 else if ch = 116 then decide (c.tags.length <= 16) && c.tags.all a7_
 else if ch = 108 then !(c.life == 0)
 else if ch = 109 then okG 1 aB_ c.keys
 else if ch = 103 then a7_ c.tag
 else if ch = 112 then dX_ c.pre
 else if ch = 99 then aB_ c.chi
 else true
structure AlwPre (w : World) (c : CmdR) (vk vv vt : Value) : Prop where
 ok : CmdOk w w.heap.size c vk vv vt
 hs : CmdS c
def bL_ (c : CmdR) (ch : Int) (w : World) (e : Ending) (w' : World) : Prop := e = .returned (.bool (alw c ch)) /\ Bw w w'
theorem alw_k (c : CmdR) (vk vv vt : Value) (w : World) (h : AlwPre w c vk vv vt) : Calls Tryz.prog 176 #[.agg (cmdC c vk vv vt).toArray, .int .u8 107] w (bL_ c 107 w) := by
 have hb1 := below1 w (.cells (cmdC c vk vv vt).toArray 36)
 have hr := ar_ w (cmdC c vk vv vt) 36
 have Aa := kp hb1
 have c1 : (w.alloc (.cells (cmdC c vk vv vt).toArray 36)).cell? ⟨w.heap.size, 1, none⟩ = some (.string c.key) := World.rowIs.cell hr (i := 1) (by show _ < 10; decide)
 have HE := kp (show alw c 107 = aB_ c.key from rfl)
 clear h hr hb1
 generalize cmdC c vk vv vt = l at *
 go_enter Tryz.func176, Tryz.ntmps176
 go_wp2_with fail
 refine (hM_ c.key _).mono ?_
 rintro e w2 ⟨rfl, rfl⟩
 go_wp2_with fail
 go_ret
 exact rb HE.o Aa.o
theorem alw_g (c : CmdR) (vk vv vt : Value) (w : World) (h : AlwPre w c vk vv vt) : Calls Tryz.prog 176 #[.agg (cmdC c vk vv vt).toArray, .int .u8 103] w (bL_ c 103 w) := by
 have hb1 := below1 w (.cells (cmdC c vk vv vt).toArray 36)
 have hr := ar_ w (cmdC c vk vv vt) 36
 have Aa := kp hb1
 have c1 : (w.alloc (.cells (cmdC c vk vv vt).toArray 36)).cell? ⟨w.heap.size, 7, none⟩ = some (.string c.tag) := World.rowIs.cell hr (i := 7) (by show _ < 10; decide)
 have HE := kp (show alw c 103 = a7_ c.tag from rfl)
 clear h hr hb1
 generalize cmdC c vk vv vt = l at *
 go_enter Tryz.func176, Tryz.ntmps176
 go_wp2_with fail
 refine (hL_ c.tag _).mono ?_
 rintro e w2 ⟨rfl, rfl⟩
 go_wp2_with fail
 go_ret
 exact rb HE.o Aa.o
theorem alw_p (c : CmdR) (vk vv vt : Value) (w : World) (h : AlwPre w c vk vv vt) : Calls Tryz.prog 176 #[.agg (cmdC c vk vv vt).toArray, .int .u8 112] w (bL_ c 112 w) := by
 have hb1 := below1 w (.cells (cmdC c vk vv vt).toArray 36)
 have hr := ar_ w (cmdC c vk vv vt) 36
 have Aa := kp hb1
 have c1 : (w.alloc (.cells (cmdC c vk vv vt).toArray 36)).cell? ⟨w.heap.size, 8, none⟩ = some (.string c.pre) := World.rowIs.cell hr (i := 8) (by show _ < 10; decide)
 have HE := kp (show alw c 112 = dX_ c.pre from rfl)
 clear h hr hb1
 generalize cmdC c vk vv vt = l at *
 go_enter Tryz.func176, Tryz.ntmps176
 go_wp2_with fail
 refine (ref_pre c.pre _).mono ?_
 rintro e w2 ⟨rfl, rfl⟩
 go_wp2_with fail
 go_ret
 exact rb HE.o Aa.o
theorem alw_c (c : CmdR) (vk vv vt : Value) (w : World) (h : AlwPre w c vk vv vt) : Calls Tryz.prog 176 #[.agg (cmdC c vk vv vt).toArray, .int .u8 99] w (bL_ c 99 w) := by
 have hb1 := below1 w (.cells (cmdC c vk vv vt).toArray 36)
 have hr := ar_ w (cmdC c vk vv vt) 36
 have Aa := kp hb1
 have c1 : (w.alloc (.cells (cmdC c vk vv vt).toArray 36)).cell? ⟨w.heap.size, 9, none⟩ = some (.string c.chi) := World.rowIs.cell hr (i := 9) (by show _ < 10; decide)
 have HE := kp (show alw c 99 = aB_ c.chi from rfl)
 clear h hr hb1
 generalize cmdC c vk vv vt = l at *
 go_enter Tryz.func176, Tryz.ntmps176
 go_wp2_with fail
 refine (hM_ c.chi _).mono ?_
 rintro e w2 ⟨rfl, rfl⟩
 go_wp2_with fail
 go_ret
 exact rb HE.o Aa.o
theorem alw_v (c : CmdR) (vk vv vt : Value) (w : World) (h : AlwPre w c vk vv vt) : Calls Tryz.prog 176 #[.agg (cmdC c vk vv vt).toArray, .int .u8 118] w (bL_ c 118 w) := by
 have hb1 := below1 w (.cells (cmdC c vk vv vt).toArray 36)
 have hr := ar_ w (cmdC c vk vv vt) 36
 have Aa := kp hb1
 obtain ⟨_, ⟨_, _, A, cp, hvv, _⟩, _⟩ := h.ok
 have c1 : (w.alloc (.cells (cmdC c vk vv vt).toArray 36)).cell? ⟨w.heap.size, 3, none⟩ = some (.slice A c.val.length cp) := by rw [<- hvv]; exact World.rowIs.cell hr (i := 3) (by show _ < 10; decide)
 have g : decide ((c.val.length : Int) <= 65536) = true := by have := h.hs.val; simp; omega
 have HE := kp (show alw c 118 = true from rfl)
 clear h hr hb1 hvv
 generalize cmdC c vk vv vt = l at *
 go_enter Tryz.func176, Tryz.ntmps176
 go_wp2_with fail
 go_ret
 exact rb HE.o Aa.o
theorem alw_n (c : CmdR) (vk vv vt : Value) (w : World) (h : AlwPre w c vk vv vt) : Calls Tryz.prog 176 #[.agg (cmdC c vk vv vt).toArray, .int .u8 110] w (bL_ c 110 w) := by
 have hb1 := below1 w (.cells (cmdC c vk vv vt).toArray 36)
 have hr := ar_ w (cmdC c vk vv vt) 36
 obtain ⟨Aa, HE⟩ := kq2 hb1 (show alw c 110 = true from rfl)
 clear h hr hb1
 generalize cmdC c vk vv vt = l at *
 go_enter Tryz.func176, Tryz.ntmps176
 go_wp2_with fail
 go_ret
 exact rb HE.o Aa.o
theorem alw_l (c : CmdR) (vk vv vt : Value) (w : World) (h : AlwPre w c vk vv vt) : Calls Tryz.prog 176 #[.agg (cmdC c vk vv vt).toArray, .int .u8 108] w (bL_ c 108 w) := by
 have hb1 := below1 w (.cells (cmdC c vk vv vt).toArray 36)
 have hr := ar_ w (cmdC c vk vv vt) 36
 have Aa := kp hb1
 have c1 : (w.alloc (.cells (cmdC c vk vv vt).toArray 36)).cell? ⟨w.heap.size, 5, none⟩ = some (.int .u64 c.life) := World.rowIs.cell hr (i := 5) (by show _ < 10; decide)
 have HE := kp (show alw c 108 = !(c.life == 0) from rfl)
 clear h hr hb1
 generalize cmdC c vk vv vt = l at *
 obtain ⟨lf, hlf⟩ := eY c.life
 rw [hlf] at c1 HE
 clear hlf
 by_cases h0 : lf = 0
 ·subst h0
  go_enter Tryz.func176, Tryz.ntmps176
  go_wp2_with fail
  go_ret
  exact rb HE.o Aa.o
 have g : (lf != 0) = true := by simpa using h0
 have Ab := kp (HE.o.trans (show (!(lf == 0)) = true by simpa using h0))
 clear h0
 go_enter Tryz.func176, Tryz.ntmps176
 go_wp2_with fail
 go_ret
 exact rb Ab.o Aa.o
theorem alw_t (c : CmdR) (vk vv vt : Value) (w : World) (h : AlwPre w c vk vv vt) : Calls Tryz.prog 176 #[.agg (cmdC c vk vv vt).toArray, .int .u8 116] w (bL_ c 116 w) := by
 have hb1 := below1 w (.cells (cmdC c vk vv vt).toArray 36)
 have hr := ar_ w (cmdC c vk vv vt) 36
 have Ac := kp hb1
 obtain ⟨⟨_, A1, cp1, hvk, el1⟩, _, ⟨_, A2, cp2, hvt, el2⟩⟩ := h.ok
 obtain ⟨A, cp, hv, hel⟩ : ∃ A cp, vt = .slice A c.tags.length cp /\ ElV Value.string w w.heap.size A c.tags := ⟨_, _, hvt, el2⟩
 have c1 : (w.alloc (.cells (cmdC c vk vv vt).toArray 36)).cell? ⟨w.heap.size, 4, none⟩ = some (.slice A c.tags.length cp) := by rw [<- hv]; exact World.rowIs.cell hr (i := 4) (by show _ < 10; decide)
 have hw := World.rowIs.lt hr
 have HE := kp (show alw c 116 = (decide (c.tags.length <= 16) && c.tags.all a7_) from rfl)
 have hnn : c.tags.length <= 100 := h.hs.ntags
 obtain ⟨Ad, hrow⟩ := kq2 ((hel.below hb1 (lR _)).mono hb1.size) hr
 clear h hr hb1 hvk hvt el1 el2 hv hel
 have Ah := kp (show (cmdC c vk vv vt).length = 10 from rfl)
 generalize cmdC c vk vv vt = l at *
 obtain ⟨xs, hxs⟩ := eY c.tags
 rw [hxs] at c1 HE Ad hnn
 obtain ⟨n, hn⟩ := eY xs.length
 rw [hn] at c1 hnn
 have HN := kp hn
 clear hxs hn
 go_enter Tryz.func176, Tryz.ntmps176
 go_wp2_with fail
 obtain ⟨W1, hW1⟩ := eY (w.alloc (.cells l.toArray 36))
 rw [hW1] at Ac Ad c1 hw ⊢
 clear hW1 hrow Ah
 go_loopw [5] (fun j wr => ∃ k : Nat, k <= n /\ j = .int .i64 k /\ (xs.take k).all a7_ = true /\ wr = W1) (fun j _ => n - (intOf j).toNat)
 case atStart => exact ⟨0, Nat.zero_le _, by go_num, by simp, rfl⟩
 obtain ⟨k, hk, rfl, hall, rfl⟩ := hrel
 have Ab := kp hall
 clear hall
 by_cases hlt : k < n
 ·have hg : decide ((k : Int) < (n : Int)) = true := by simp; omega
  have hkx : k < xs.length := by rw [HN.o]; exact hlt
  have hx := gE hkx
  obtain ⟨y, hye⟩ := eY (xs[k])
  rw [hye] at hx
  obtain ⟨b, off, rfl, hbB, hc⟩ := Ad.o k y hx
  have Ae := kp hx
  clear hx hye hkx
  go_wp2_with fail
  refine (hL_ y _).mono ?_
  rintro e w3 ⟨rfl, rfl⟩
  cases hy : a7_ y
  ·have hfa : alw c 116 = false := by
    rw [HE.o]
    have : xs.all a7_ = false := by
     cases e : xs.all a7_
     ·rfl
     rw [List.all_eq_true.1 e y (mG Ae.o)] at hy; simp at hy
    simp [this]
   have Ag := kp hfa
   clear hfa
   go_wp2_with fail
   go_ret
   exact rb Ag.o Ac.o
  go_wp2_with fail
  go_roundw
  case rel => exact ⟨k + 1, by omega, by go_num, by rw [tA, Ae.o, Option.toList_some, List.all_append, Ab.o]; simp [hy], trivial⟩
  simp [intOf]; omega
 obtain rfl : k = n := by omega
 have hg : decide ((k : Int) < (k : Int)) = false := by simp
 have htk := Ab.o
 rw [tL (by rw [HN.o]; exact lR _)] at htk
 have Af := kp htk
 clear htk
 by_cases h16 : k <= 16
 ·have hg2 : decide ((k : Int) <= 16) = true := by simp; omega
  have hfin : alw c 116 = true := by rw [HE.o, Af.o, HN.o]; simp; exact h16
  have Aa := kp hfin
  clear hfin h16
  go_wp2_with fail
  go_ret
  exact rb Aa.o Ac.o
 have hg2 : decide ((k : Int) <= 16) = false := by simp; omega
 have hfin : alw c 116 = false := by rw [HE.o, Af.o, HN.o]; simp; omega
 have Aa := kp hfin
 clear hfin h16
 go_wp2_with fail
 go_ret
 exact rb Aa.o Ac.o
theorem alw_m (c : CmdR) (vk vv vt : Value) (w : World) (h : AlwPre w c vk vv vt) : Calls Tryz.prog 176 #[.agg (cmdC c vk vv vt).toArray, .int .u8 109] w (bL_ c 109 w) := by
 have hb1 := below1 w (.cells (cmdC c vk vv vt).toArray 36)
 have hr := ar_ w (cmdC c vk vv vt) 36
 have Ab := kp hb1
 obtain ⟨⟨_, A1, cp1, hvk, el1⟩, _, ⟨_, A2, cp2, hvt, el2⟩⟩ := h.ok
 obtain ⟨A, cp, hv, hel⟩ : ∃ A cp, vk = .slice A c.keys.length cp /\ ElV Value.string w w.heap.size A c.keys := ⟨_, _, hvk, el1⟩
 have c1 : (w.alloc (.cells (cmdC c vk vv vt).toArray 36)).cell? ⟨w.heap.size, 2, none⟩ = some (.slice A c.keys.length cp) := by rw [<- hv]; exact World.rowIs.cell hr (i := 2) (by show _ < 10; decide)
 have hw := World.rowIs.lt hr
 have HE := kp (show alw c 109 = okG 1 aB_ c.keys from rfl)
 have hnn : c.keys.length <= 100 := h.hs.nkeys
 obtain ⟨Ad, hrow⟩ := kq2 ((hel.below hb1 (lR _)).mono hb1.size) hr
 clear h hr hb1 hvk hvt el1 el2 hv hel
 have Ah := kp (show (cmdC c vk vv vt).length = 10 from rfl)
 generalize cmdC c vk vv vt = l at *
 obtain ⟨xs, hxs⟩ := eY c.keys
 rw [hxs] at c1 HE Ad hnn
 obtain ⟨n, hn⟩ := eY xs.length
 rw [hn] at c1 hnn
 have HN := kp hn
 clear hxs hn
 go_enter Tryz.func176, Tryz.ntmps176
 go_wp2_with fail
 obtain ⟨W1, hW1⟩ := eY (w.alloc (.cells l.toArray 36))
 rw [hW1] at Ab Ad c1 hw ⊢
 clear hW1 hrow Ah
 go_loopw [6] (fun j wr => ∃ k : Nat, k <= n /\ j = .int .i64 k /\ (xs.take k).all aB_ = true /\ wr = W1) (fun j _ => n - (intOf j).toNat)
 case atStart => exact ⟨0, Nat.zero_le _, by go_num, by simp, rfl⟩
 obtain ⟨k, hk, rfl, hall, rfl⟩ := hrel
 have Ac := kp hall
 clear hall
 by_cases hlt : k < n
 ·have hg : decide ((k : Int) < (n : Int)) = true := by simp; omega
  have hkx : k < xs.length := by rw [HN.o]; exact hlt
  have hx := gE hkx
  obtain ⟨y, hye⟩ := eY (xs[k])
  rw [hye] at hx
  obtain ⟨b, off, rfl, hbB, hc⟩ := Ad.o k y hx
  have Ae := kp hx
  clear hx hye hkx
  go_wp2_with fail
  refine (hM_ y _).mono ?_
  rintro e w3 ⟨rfl, rfl⟩
  cases hy : aB_ y
  ·have hfa : alw c 109 = false := by
    rw [HE.o]
    have : xs.all aB_ = false := by
     cases e : xs.all aB_
     ·rfl
     rw [List.all_eq_true.1 e y (mG Ae.o)] at hy; simp at hy
    unfold okG
    simp [this]
   have Ag := kp hfa
   clear hfa
   go_wp2_with fail
   go_ret
   exact rb Ag.o Ab.o
  go_wp2_with fail
  go_roundw
  case rel => exact ⟨k + 1, by omega, by go_num, by rw [tA, Ae.o, Option.toList_some, List.all_append, Ac.o]; simp [hy], trivial⟩
  simp [intOf]; omega
 obtain rfl : k = n := by omega
 have hg : decide ((k : Int) < (k : Int)) = false := by simp
 have htk := Ac.o
 rw [tL (by rw [HN.o]; exact lR _)] at htk
 have Af := kp htk
 clear htk
 have hfin : alw c 109 = inR 1 k := by rw [HE.o]; unfold okG; rw [Af.o, HN.o]; simp
 by_cases h1 : 1 <= k
 ·by_cases h16 : k <= 16
  ·have hg3 : decide ((1 : Int) <= (k : Int)) = true := by simp; omega
   have hg2 : decide ((k : Int) <= 16) = true := by simp; omega
   have Aa := kp (hfin.trans (inR_iff.2 ⟨h1, h16⟩))
   clear hfin h16
   go_wp2_with fail
   go_ret
   exact rb Aa.o Ab.o
  have hg3 : decide ((1 : Int) <= (k : Int)) = true := by simp; omega
  have hg2 : decide ((k : Int) <= 16) = false := by simp; omega
  have Aa := kp (hfin.trans (show inR 1 k = false by simp [inR]; omega))
  clear hfin h16
  go_wp2_with fail
  go_ret
  exact rb Aa.o Ab.o
 obtain rfl : k = 0 := by omega
 have Aa := kp (hfin.trans (show inR 1 0 = false from rfl))
 clear hfin h1
 go_wp2_with fail
 go_ret
 exact rb Aa.o Ab.o
def OnlyPost (c : CmdR) (w : World) (e : Ending) (w' : World) : Prop := ∃ vk vv vt, e = .returned (.agg (cmdC (az_ c) vk vv vt).toArray) /\ CmdOk w' w'.heap.size (az_ c) vk vv vt /\ Bw w w'
theorem cf_ (w : World) (B : Nat) : SlV Value.string w B (.slice none 0 0) [] := ⟨by simp, none, 0, rfl, fun i x h => by simp at h⟩
theorem datg_nil (w : World) (B : Nat) : DatG w B (.slice none 0 0) [] := ⟨by simp, by simp, none, 0, rfl, Byt.nil _ _⟩
def d4_ : List Int := [107, 118, 116, 108, 110, 109, 103, 112, 99]
structure SpellsC (s : ByteArray) (l : List Int) : Prop where
 size : s.size = l.length
 few : l.length <= 100
 all : ∀ k (h : k < s.size), ((s[k]'h).toNat : Int) = l.getD k 0
 letters : ∀ k, k < l.length -> l.getD k 0 ∈ d4_
theorem fm_ : SpellsC ⟨#[107, 118, 116, 108]⟩ [107, 118, 116, 108] := ⟨rfl, by decide, by decide, by decide⟩
theorem fq_ : SpellsC ⟨#[107, 118, 116, 108, 110]⟩ [107, 118, 116, 108, 110] := ⟨rfl, by decide, by decide, by decide⟩
theorem fo_ : SpellsC ⟨#[107]⟩ [107] := ⟨rfl, by decide, by decide, by decide⟩
theorem eg_ : SpellsC ⟨#[109]⟩ [109] := ⟨rfl, by decide, by decide, by decide⟩
theorem dH_ : SpellsC ⟨#[107, 108]⟩ [107, 108] := ⟨rfl, by decide, by decide, by decide⟩
theorem fl_ : SpellsC ⟨#[103]⟩ [103] := ⟨rfl, by decide, by decide, by decide⟩
theorem fn_ : SpellsC ⟨#[112]⟩ [112] := ⟨rfl, by decide, by decide, by decide⟩
theorem fp_ : SpellsC ⟨#[107, 99]⟩ [107, 99] := ⟨rfl, by decide, by decide, by decide⟩
theorem ef_ : SpellsC ⟨#[]⟩ [] := ⟨rfl, by decide, by decide, by decide⟩
def a0_ (op : Int) (key : ByteArray) (vk vv vt : Value) (life ver : Int) (tag pre chi : ByteArray) (m : List Int) : List Value :=
 [.int .i64 op, .string (if 107 ∈ m then key else ⟨#[]⟩), if 109 ∈ m then vk else .slice none 0 0, if 118 ∈ m then vv else .slice none 0 0, if 116 ∈ m then vt else .slice none 0 0, .int .u64 (if 108 ∈ m then life else 0), .int .u64 (if 110 ∈ m then ver else 0), .string (if 103 ∈ m then tag else ⟨#[]⟩), .string (if 112 ∈ m then pre else ⟨#[]⟩), .string (if 99 ∈ m then chi else ⟨#[]⟩)]
theorem fi_ (l : List Int) {k : Nat} (h : k < l.length) : l.take (k + 1) = l.take k ++ [l.getD k 0] := by
 rw [tA, gE h]
 simp [List.getD, h]
theorem one_if {p : Prop} [Decidable p] {v : Value} (h : v.oneCell' = true) : (if p then v else .slice none 0 0).oneCell' = true := by
 split
 ·exact h
 rfl
theorem part_len (op : Int) (key : ByteArray) (vk vv vt : Value) (life ver : Int) (tag pre chi : ByteArray) (m : List Int) : (a0_ op key vk vv vt life ver tag pre chi m).length = 10 := rfl
def lC_ (op : Int) (key : ByteArray) (vk vv vt : Value) (life ver : Int) (tag pre chi : ByteArray) (l : List Int) (w : World) (e : Ending) (w' : World) : Prop := e = .returned (.agg (a0_ op key vk vv vt life ver tag pre chi l).toArray) /\ Bw w w'
theorem bP_ (op : Int) (s : ByteArray) (l : List Int) (hsp : SpellsC s l) (HN : Hid (∀ W, Calls Tryz.prog 175 #[.int .i64 op] W fun e w' => e = .returned (.string s) /\ w' = W))
  (key tag pre chi : ByteArray) (life ver : Int) (Ak : Option Addr) (nk ck : Nat) (Av : Option Addr) (nv cv : Nat) (At : Option Addr) (nt ct : Nat) (w : World) :
  Calls Tryz.prog 174 #[.agg #[.int .i64 op, .string key, .slice Ak nk ck, .slice Av nv cv, .slice At nt ct, .int .u64 life, .int .u64 ver, .string tag, .string pre, .string chi]] w (lC_ op key (.slice Ak nk ck) (.slice Av nv cv) (.slice At nt ct) life ver tag pre chi l w) := by
 obtain ⟨n, hn⟩ := eY l.length
 have hsz : s.size = n := hsp.size.trans hn
 have hn100 : n <= 100 := by rw [<- hn]; exact hsp.few
 obtain ⟨L, hL⟩ : ∃ L : List Value, L = [.int .i64 op, .string key, .slice Ak nk ck, .slice Av nv cv, .slice At nt ct, .int .u64 life, .int .u64 ver, .string tag, .string pre, .string chi] := ⟨_, rfl⟩
 have hS0 := RowL.new w 36 L
 have hD0 := RowL.new (w.alloc (.cells L.toArray 36)) 36 (cmdL 0 ⟨#[]⟩)
 have hO0 := RowL.new ((w.alloc (.cells L.toArray 36)).alloc (.cells (cmdL 0 ⟨#[]⟩).toArray 36)) 36 (cmdL op ⟨#[]⟩)
 have hb0 := dS_ w (.cells L.toArray 36) (.cells (cmdL 0 ⟨#[]⟩).toArray 36) (.cells (cmdL op ⟨#[]⟩).toArray 36)
 have hS1 := (hS0.alloc (.cells (cmdL 0 ⟨#[]⟩).toArray 36)).alloc (.cells (cmdL op ⟨#[]⟩).toArray 36)
 have hD1 := hD0.alloc (.cells (cmdL op ⟨#[]⟩).toArray 36)
 simp only [bF_] at hD1 hO0
 obtain ⟨W1, hW1⟩ := eX (((w.alloc (.cells L.toArray 36)).alloc (.cells (cmdL 0 ⟨#[]⟩).toArray 36)).alloc (.cells (cmdL op ⟨#[]⟩).toArray 36))
 rw [<- hW1] at hO0 hb0 hS1 hD1
 have hP0 : RowL W1 (w.heap.size + 1 + 1) 36 (a0_ op key (.slice Ak nk ck) (.slice Av nv cv) (.slice At nt ct) life ver tag pre chi (l.take 0)) := by simpa [a0_, cmdL] using hO0
 obtain ⟨An, Ao, Aj, Ag, Ai, Af⟩ := kq6 hS1 hD1 hP0 hb0 hsp hn
 simp only [cmdL, hL] at hW1
 obtain ⟨pl, hpl⟩ := eY (a0_ op key (.slice Ak nk ck) (.slice Av nv cv) (.slice At nt ct) life ver tag pre chi)
 have Ab := kp hpl
 rw [hpl] at Aj
 have HL := kp hL
 clear hS0 hD0 hO0 hb0 hS1 hD1 hP0 hsp hn hpl hL
 go_enter Tryz.func174, Tryz.ntmps174
 go_wp2_with fail
 rw [<- hW1]
 clear hW1
 refine (HN.o _).mono ?_
 rintro e w2 ⟨rfl, rfl⟩
 obtain ⟨W1, rfl⟩ := eX w2
 go_wp2_with fail
 go_loopw [5] (fun j wr => ∃ k : Nat, k <= n /\ j = .int .i64 k /\ RowL wr (w.heap.size + 1 + 1) 36 (pl (l.take k)) /\ Kept [w.heap.size + 1 + 1] W1 wr) (fun j _ => n - (intOf j).toNat)
 case atStart => exact ⟨0, Nat.zero_le _, by go_num, Aj.o, Kept.refl _ _⟩
 obtain ⟨k, hk, rfl, hO, hK⟩ := hrel
 have HK := kp hK
 have hs := An.o.kept hK (by simp; omega)
 clear hK
 rw [<- Ab.o] at hO
 by_cases hlt : k < n
 ·have hg : decide ((k : Int) < (n : Int)) = true := eT_ (by omega)
  have hi : 0 <= (k : Int) /\ (k : Int) < (s.size : Int) := by omega
  have hks : k < s.size := by omega
  have hch := Ai.o.all k hks
  have hlet := Ai.o.letters k (by rw [Af.o]; exact hlt)
  have Aa := kp (fi_ l (k := k) (by rw [Af.o]; exact hlt))
  obtain ⟨ch, hce⟩ := eY (l.getD k 0)
  rw [hce] at hch hlet Aa
  clear hce
  have hidx : ∀ W, (Instr.index 9 (.string s) (.int .i64 (k : Int))).run Tryz.prog W = .ok (.int .u8 ch) W := fun W => by
   rw [run_index_string _ _ _ _ _ Tryz.underlying9, dif_pos hi, <- hch]
   simp
  clear hi hch hks
  rw [HL.o] at hs
  simp only [d4_, List.mem_cons, List.not_mem_nil, or_false] at hlet
  rcases hlet with rfl | rfl | rfl | rfl | rfl | rfl | rfl | rfl | rfl
  focus
   obtain ⟨v0, o0⟩ : ∃ v, wr.cell? ⟨w.heap.size + 1 + 1, 1, none⟩ = some v := ⟨_, hO.cell (j := 1) rfl⟩
   have f1 := hO.frozen 1
   have s1 := hs.cell (j := 1) rfl
   have Ac := kp (show RowL (wr.setCell ⟨w.heap.size + 1 + 1, 1, none⟩ (.string key)) (w.heap.size + 1 + 1) 36 (pl (l.take (k + 1))) by
    have e : ∀ m, (a0_ op key (.slice Ak nk ck) (.slice Av nv cv) (.slice At nt ct) life ver tag pre chi m).set 1 (.string key) = a0_ op key (.slice Ak nk ck) (.slice Av nv cv) (.slice At nt ct) life ver tag pre chi (m ++ [107]) := fun m => by simp [a0_]
    rw [Aa.o, <- Ab.o, <- e]
    exact hO.set 1 _)
   have Ad : Hid (Kept [w.heap.size + 1 + 1] W1 (wr.setCell ⟨w.heap.size + 1 + 1, 1, none⟩ (.string key))) := kp (HK.o.setCell (by simp) _)
  rotate_left 1
  focus
   obtain ⟨v0, o0⟩ : ∃ v, wr.cell? ⟨w.heap.size + 1 + 1, 3, none⟩ = some v := ⟨_, hO.cell (j := 3) rfl⟩
   have f1 := hO.frozen 3
   have s1 := hs.cell (j := 3) rfl
   have Ac := kp (show RowL (wr.setCell ⟨w.heap.size + 1 + 1, 3, none⟩ (.slice Av nv cv)) (w.heap.size + 1 + 1) 36 (pl (l.take (k + 1))) by
    have e : ∀ m, (a0_ op key (.slice Ak nk ck) (.slice Av nv cv) (.slice At nt ct) life ver tag pre chi m).set 3 (.slice Av nv cv) = a0_ op key (.slice Ak nk ck) (.slice Av nv cv) (.slice At nt ct) life ver tag pre chi (m ++ [118]) := fun m => by simp [a0_]
    rw [Aa.o, <- Ab.o, <- e]
    exact hO.set 3 _)
   have Ad : Hid (Kept [w.heap.size + 1 + 1] W1 (wr.setCell ⟨w.heap.size + 1 + 1, 3, none⟩ (.slice Av nv cv))) := kp (HK.o.setCell (by simp) _)
  rotate_left 1
  focus
   obtain ⟨v0, o0⟩ : ∃ v, wr.cell? ⟨w.heap.size + 1 + 1, 4, none⟩ = some v := ⟨_, hO.cell (j := 4) rfl⟩
   have f1 := hO.frozen 4
   have s1 := hs.cell (j := 4) rfl
   have Ac := kp (show RowL (wr.setCell ⟨w.heap.size + 1 + 1, 4, none⟩ (.slice At nt ct)) (w.heap.size + 1 + 1) 36 (pl (l.take (k + 1))) by
    have e : ∀ m, (a0_ op key (.slice Ak nk ck) (.slice Av nv cv) (.slice At nt ct) life ver tag pre chi m).set 4 (.slice At nt ct) = a0_ op key (.slice Ak nk ck) (.slice Av nv cv) (.slice At nt ct) life ver tag pre chi (m ++ [116]) := fun m => by simp [a0_]
    rw [Aa.o, <- Ab.o, <- e]
    exact hO.set 4 _)
   have Ad : Hid (Kept [w.heap.size + 1 + 1] W1 (wr.setCell ⟨w.heap.size + 1 + 1, 4, none⟩ (.slice At nt ct))) := kp (HK.o.setCell (by simp) _)
  rotate_left 1
  focus
   obtain ⟨v0, o0⟩ : ∃ v, wr.cell? ⟨w.heap.size + 1 + 1, 5, none⟩ = some v := ⟨_, hO.cell (j := 5) rfl⟩
   have f1 := hO.frozen 5
   have s1 := hs.cell (j := 5) rfl
   have Ac := kp (show RowL (wr.setCell ⟨w.heap.size + 1 + 1, 5, none⟩ (.int .u64 life)) (w.heap.size + 1 + 1) 36 (pl (l.take (k + 1))) by
    have e : ∀ m, (a0_ op key (.slice Ak nk ck) (.slice Av nv cv) (.slice At nt ct) life ver tag pre chi m).set 5 (.int .u64 life) = a0_ op key (.slice Ak nk ck) (.slice Av nv cv) (.slice At nt ct) life ver tag pre chi (m ++ [108]) := fun m => by simp [a0_]
    rw [Aa.o, <- Ab.o, <- e]
    exact hO.set 5 _)
   have Ad : Hid (Kept [w.heap.size + 1 + 1] W1 (wr.setCell ⟨w.heap.size + 1 + 1, 5, none⟩ (.int .u64 life))) := kp (HK.o.setCell (by simp) _)
  rotate_left 1
  focus
   obtain ⟨v0, o0⟩ : ∃ v, wr.cell? ⟨w.heap.size + 1 + 1, 6, none⟩ = some v := ⟨_, hO.cell (j := 6) rfl⟩
   have f1 := hO.frozen 6
   have s1 := hs.cell (j := 6) rfl
   have Ac := kp (show RowL (wr.setCell ⟨w.heap.size + 1 + 1, 6, none⟩ (.int .u64 ver)) (w.heap.size + 1 + 1) 36 (pl (l.take (k + 1))) by
    have e : ∀ m, (a0_ op key (.slice Ak nk ck) (.slice Av nv cv) (.slice At nt ct) life ver tag pre chi m).set 6 (.int .u64 ver) = a0_ op key (.slice Ak nk ck) (.slice Av nv cv) (.slice At nt ct) life ver tag pre chi (m ++ [110]) := fun m => by simp [a0_]
    rw [Aa.o, <- Ab.o, <- e]
    exact hO.set 6 _)
   have Ad : Hid (Kept [w.heap.size + 1 + 1] W1 (wr.setCell ⟨w.heap.size + 1 + 1, 6, none⟩ (.int .u64 ver))) := kp (HK.o.setCell (by simp) _)
  rotate_left 1
  focus
   obtain ⟨v0, o0⟩ : ∃ v, wr.cell? ⟨w.heap.size + 1 + 1, 2, none⟩ = some v := ⟨_, hO.cell (j := 2) rfl⟩
   have f1 := hO.frozen 2
   have s1 := hs.cell (j := 2) rfl
   have Ac := kp (show RowL (wr.setCell ⟨w.heap.size + 1 + 1, 2, none⟩ (.slice Ak nk ck)) (w.heap.size + 1 + 1) 36 (pl (l.take (k + 1))) by
    have e : ∀ m, (a0_ op key (.slice Ak nk ck) (.slice Av nv cv) (.slice At nt ct) life ver tag pre chi m).set 2 (.slice Ak nk ck) = a0_ op key (.slice Ak nk ck) (.slice Av nv cv) (.slice At nt ct) life ver tag pre chi (m ++ [109]) := fun m => by simp [a0_]
    rw [Aa.o, <- Ab.o, <- e]
    exact hO.set 2 _)
   have Ad : Hid (Kept [w.heap.size + 1 + 1] W1 (wr.setCell ⟨w.heap.size + 1 + 1, 2, none⟩ (.slice Ak nk ck))) := kp (HK.o.setCell (by simp) _)
  rotate_left 1
  focus
   obtain ⟨v0, o0⟩ : ∃ v, wr.cell? ⟨w.heap.size + 1 + 1, 7, none⟩ = some v := ⟨_, hO.cell (j := 7) rfl⟩
   have f1 := hO.frozen 7
   have s1 := hs.cell (j := 7) rfl
   have Ac := kp (show RowL (wr.setCell ⟨w.heap.size + 1 + 1, 7, none⟩ (.string tag)) (w.heap.size + 1 + 1) 36 (pl (l.take (k + 1))) by
    have e : ∀ m, (a0_ op key (.slice Ak nk ck) (.slice Av nv cv) (.slice At nt ct) life ver tag pre chi m).set 7 (.string tag) = a0_ op key (.slice Ak nk ck) (.slice Av nv cv) (.slice At nt ct) life ver tag pre chi (m ++ [103]) := fun m => by simp [a0_]
    rw [Aa.o, <- Ab.o, <- e]
    exact hO.set 7 _)
   have Ad : Hid (Kept [w.heap.size + 1 + 1] W1 (wr.setCell ⟨w.heap.size + 1 + 1, 7, none⟩ (.string tag))) := kp (HK.o.setCell (by simp) _)
  rotate_left 1
  focus
   obtain ⟨v0, o0⟩ : ∃ v, wr.cell? ⟨w.heap.size + 1 + 1, 8, none⟩ = some v := ⟨_, hO.cell (j := 8) rfl⟩
   have f1 := hO.frozen 8
   have s1 := hs.cell (j := 8) rfl
   have Ac := kp (show RowL (wr.setCell ⟨w.heap.size + 1 + 1, 8, none⟩ (.string pre)) (w.heap.size + 1 + 1) 36 (pl (l.take (k + 1))) by
    have e : ∀ m, (a0_ op key (.slice Ak nk ck) (.slice Av nv cv) (.slice At nt ct) life ver tag pre chi m).set 8 (.string pre) = a0_ op key (.slice Ak nk ck) (.slice Av nv cv) (.slice At nt ct) life ver tag pre chi (m ++ [112]) := fun m => by simp [a0_]
    rw [Aa.o, <- Ab.o, <- e]
    exact hO.set 8 _)
   have Ad : Hid (Kept [w.heap.size + 1 + 1] W1 (wr.setCell ⟨w.heap.size + 1 + 1, 8, none⟩ (.string pre))) := kp (HK.o.setCell (by simp) _)
  rotate_left 1
  focus
   obtain ⟨v0, o0⟩ : ∃ v, wr.cell? ⟨w.heap.size + 1 + 1, 9, none⟩ = some v := ⟨_, hO.cell (j := 9) rfl⟩
   have f1 := hO.frozen 9
   have s1 := hs.cell (j := 9) rfl
   have Ac := kp (show RowL (wr.setCell ⟨w.heap.size + 1 + 1, 9, none⟩ (.string chi)) (w.heap.size + 1 + 1) 36 (pl (l.take (k + 1))) by
    have e : ∀ m, (a0_ op key (.slice Ak nk ck) (.slice Av nv cv) (.slice At nt ct) life ver tag pre chi m).set 9 (.string chi) = a0_ op key (.slice Ak nk ck) (.slice Av nv cv) (.slice At nt ct) life ver tag pre chi (m ++ [99]) := fun m => by simp [a0_]
    rw [Aa.o, <- Ab.o, <- e]
    exact hO.set 9 _)
   have Ad : Hid (Kept [w.heap.size + 1 + 1] W1 (wr.setCell ⟨w.heap.size + 1 + 1, 9, none⟩ (.string chi))) := kp (HK.o.setCell (by simp) _)
  rotate_left 1
  rotate_right 9
  iterate 9
   ·clear hO hs
    go_wp2_with fail
    go_roundw
    case rel => exact ⟨k + 1, by omega, by go_num, Ac.o, Ad.o⟩
    simp [intOf]; omega
 obtain rfl : k = n := by omega
 have hg : decide ((k : Int) < (k : Int)) = false := by simp
 have hlt2 : l.take k = l := by rw [<- Af.o]; exact List.take_length
 rw [hlt2] at hO
 have Am := kp (show ∀ W : World, Bw w W -> lC_ op key (.slice Ak nk ck) (.slice Av nv cv) (.slice At nt ct) life ver tag pre chi l w (.returned (.agg (a0_ op key (.slice Ak nk ck) (.slice Av nv cv) (.slice At nt ct) life ver tag pre chi l).toArray)) W from fun W hW => ⟨rfl, hW⟩)
 have h1 : (a0_ op key (.slice Ak nk ck) (.slice Av nv cv) (.slice At nt ct) life ver tag pre chi l).toArray.all (·.oneCell') = true := all_oneCell_toArray fun v hv => by
  simp only [a0_, List.mem_cons, List.not_mem_nil, or_false] at hv
  rcases hv with rfl | rfl | rfl | rfl | rfl | rfl | rfl | rfl | rfl | rfl <;> first | rfl | exact one_if rfl
 have h2 := part_len op key (.slice Ak nk ck) (.slice Av nv cv) (.slice At nt ct) life ver tag pre chi l
 obtain ⟨q, hq⟩ := eY (a0_ op key (.slice Ak nk ck) (.slice Av nv cv) (.slice At nt ct) life ver tag pre chi l)
 rw [hq] at hO Am h1 h2
 obtain ⟨HO, Al⟩ := kq2 hO.cells (Ao.o.kept HK.o (by simp))
 obtain ⟨HT, H1, H2, Ah, Ae⟩ := kq5 (show wr.there (w.heap.size + 1) 0 q.toArray.size by (have h : q.toArray.size = 10 := h2; rw [h]; exact Al.o.there (o := 0) (n := 10) (by simp [cmdL]))) h1 h2 (show (Tryz.prog.info? 36).map (·.size) = some q.length by rw [h2]; kernel_rfl) (show (Tryz.prog.info? 36).map (·.size) = some q.toArray.size by rw [zS, h2]; kernel_rfl)
 clear hO hs h1 h2 hq hlt2
 go_wp2_with (first
  | ((with_reducible refine wpList_load_agg (o := ⟨some 66, _, _, _, _, _⟩) rfl 36 _ rfl ⟨w.heap.size + 1 + 1, 0, none⟩ ?_ q _ HO.o Tryz.underlying36 rfl Ah.o ?_); (· rfl))
  | ((with_reducible refine ab_ (op := ⟨none, _, _, _, _, _⟩) rfl 36 _ _ rfl (w.heap.size + 1) 0 q.toArray ?_ ?_ ?_ Ae.o H1.o ?_); (· rfl); (· rfl); (· exact HT.o); intro w9 hw9))
 have hD9 := aC_ Al.o q (by rw [H2.o]; rfl)
 have hc9 := av_ hD9 q (by rw [H2.o]; rfl) fun i hi => rfl
 have hk9 : Kept [w.heap.size + 1] wr (wr.setCells (w.heap.size + 1) 0 q) := am_ (by simp) _ _ _ (Kept.refl _ _)
 have hbel : Bw w (wr.setCells (w.heap.size + 1) 0 q) := Ag.o.trans ((HK.o.below Ag.o.size (by simp; omega)).trans (hk9.below (lT Ag.o.size HK.o.size) (by simp)))
 refine bodyPost_ret (aE_ (p := 2) (ty := 36) rfl _ _ ⟨w.heap.size + 1, 0, none⟩ _ rfl (af_ _ _ _ _ _ hc9 Tryz.underlying36 rfl Ah.o)) rfl ?_
 exact Am.o _ hbel
theorem gn_ {w : World} {B : Nat} {c : CmdR} {vk vv vt : Value} (h : CmdOk w B c vk vv vt) : ∃ Ak ck Av cv At ct, vk = .slice Ak c.keys.length ck /\ vv = .slice Av c.val.length cv /\ vt = .slice At c.tags.length ct := by
 obtain ⟨⟨b1, Ak, ck, rfl, b2⟩, ⟨b3, b4, Av, cv, rfl, b5⟩, ⟨b6, At, ct, rfl, b7⟩⟩ := h
 exact ⟨_, _, _, _, _, _, rfl, rfl, rfl⟩
theorem only174 (c : CmdR) (hc : 1 <= c.op /\ c.op <= 15) (vk vv vt : Value) (w : World) (h : CmdOk w w.heap.size c vk vv vt) : Calls Tryz.prog 174 #[.agg (cmdC c vk vv vt).toArray] w (OnlyPost c w) := by
 obtain ⟨Ak, ck, Av, cv, At, ct, rfl, rfl, rfl⟩ := gn_ h
 obtain ⟨op, key, keys, val, tags, life, ver, tag, pre, chi⟩ := c
 simp only at hc
 rcases (by omega : (op = 1 ∨ op = 2) ∨ op = 3 ∨ (op = 4 ∨ op = 7 ∨ op = 13) ∨ op = 5 ∨ op = 6 ∨ (op = 8 ∨ op = 9) ∨ op = 10 ∨ (op = 11 ∨ op = 12) ∨ (op = 14 ∨ op = 15)) with ho | ho | ho | ho | ho | ho | ho | ho | ho
 ·refine (bP_ op _ _ fm_ (kp fun W => gW_ op ho W) key tag pre chi life ver _ _ _ _ _ _ _ _ _ w).mono ?_
  rintro e w' ⟨rfl, hb⟩
  have hq := (h.below hb (lR _)).mono hb.size
  have ho2 : az_ ⟨op, key, keys, val, tags, life, ver, tag, pre, chi⟩ = ⟨op, key, [], val, tags, life, 0, eB, eB, eB⟩ := by rcases ho with rfl | rfl <;> simp [az_]
  exact ⟨.slice none 0 0, .slice Av val.length cv, .slice At tags.length ct, by rw [ho2]; simp [a0_, cmdC, eB], by rw [ho2]; exact ⟨cf_ _ _, hq.2.1, hq.2.2⟩, hb⟩
 ·refine (bP_ op _ _ fq_ (kp fun W => g0_ op ho W) key tag pre chi life ver _ _ _ _ _ _ _ _ _ w).mono ?_
  rintro e w' ⟨rfl, hb⟩
  have hq := (h.below hb (lR _)).mono hb.size
  have ho2 : az_ ⟨op, key, keys, val, tags, life, ver, tag, pre, chi⟩ = ⟨op, key, [], val, tags, life, ver, eB, eB, eB⟩ := by rcases ho with rfl <;> simp [az_]
  exact ⟨.slice none 0 0, .slice Av val.length cv, .slice At tags.length ct, by rw [ho2]; simp [a0_, cmdC, eB], by rw [ho2]; exact ⟨cf_ _ _, hq.2.1, hq.2.2⟩, hb⟩
 ·refine (bP_ op _ _ fo_ (kp fun W => gY_ op ho W) key tag pre chi life ver _ _ _ _ _ _ _ _ _ w).mono ?_
  rintro e w' ⟨rfl, hb⟩
  have hq := (h.below hb (lR _)).mono hb.size
  have ho2 : az_ ⟨op, key, keys, val, tags, life, ver, tag, pre, chi⟩ = ⟨op, key, [], [], [], 0, 0, eB, eB, eB⟩ := by rcases ho with rfl | rfl | rfl <;> simp [az_]
  exact ⟨.slice none 0 0, .slice none 0 0, .slice none 0 0, by rw [ho2]; simp [a0_, cmdC, eB], by rw [ho2]; exact ⟨cf_ _ _, datg_nil _ _, cf_ _ _⟩, hb⟩
 ·refine (bP_ op _ _ eg_ (kp fun W => fD_ op ho W) key tag pre chi life ver _ _ _ _ _ _ _ _ _ w).mono ?_
  rintro e w' ⟨rfl, hb⟩
  have hq := (h.below hb (lR _)).mono hb.size
  have ho2 : az_ ⟨op, key, keys, val, tags, life, ver, tag, pre, chi⟩ = ⟨op, eB, keys, [], [], 0, 0, eB, eB, eB⟩ := by rcases ho with rfl <;> simp [az_]
  exact ⟨.slice Ak keys.length ck, .slice none 0 0, .slice none 0 0, by rw [ho2]; simp [a0_, cmdC, eB], by rw [ho2]; exact ⟨hq.1, datg_nil _ _, cf_ _ _⟩, hb⟩
 focus
  refine (bP_ op _ _ dH_ (kp fun W => ev_ op ho W) key tag pre chi life ver _ _ _ _ _ _ _ _ _ w).mono ?_
  rintro e w' ⟨rfl, hb⟩
  have hq := (h.below hb (lR _)).mono hb.size
  have ho2 : az_ ⟨op, key, keys, val, tags, life, ver, tag, pre, chi⟩ = ⟨op, key, [], [], [], life, 0, eB, eB, eB⟩ := by rcases ho with rfl <;> simp [az_]
 rotate_left 1
 focus
  refine (bP_ op _ _ fl_ (kp fun W => gV_ op ho W) key tag pre chi life ver _ _ _ _ _ _ _ _ _ w).mono ?_
  rintro e w' ⟨rfl, hb⟩
  have hq := (h.below hb (lR _)).mono hb.size
  have ho2 : az_ ⟨op, key, keys, val, tags, life, ver, tag, pre, chi⟩ = ⟨op, eB, [], [], [], 0, 0, tag, eB, eB⟩ := by rcases ho with rfl | rfl <;> simp [az_]
 rotate_left 1
 focus
  refine (bP_ op _ _ fn_ (kp fun W => gX_ op ho W) key tag pre chi life ver _ _ _ _ _ _ _ _ _ w).mono ?_
  rintro e w' ⟨rfl, hb⟩
  have hq := (h.below hb (lR _)).mono hb.size
  have ho2 : az_ ⟨op, key, keys, val, tags, life, ver, tag, pre, chi⟩ = ⟨op, eB, [], [], [], 0, 0, eB, pre, eB⟩ := by rcases ho with rfl <;> simp [az_]
 rotate_left 1
 focus
  refine (bP_ op _ _ fp_ (kp fun W => gZ_ op ho W) key tag pre chi life ver _ _ _ _ _ _ _ _ _ w).mono ?_
  rintro e w' ⟨rfl, hb⟩
  have hq := (h.below hb (lR _)).mono hb.size
  have ho2 : az_ ⟨op, key, keys, val, tags, life, ver, tag, pre, chi⟩ = ⟨op, key, [], [], [], 0, 0, eB, eB, chi⟩ := by rcases ho with rfl | rfl <;> simp [az_]
 rotate_left 1
 focus
  refine (bP_ op _ _ ef_ (kp fun W => fC_ op ho W) key tag pre chi life ver _ _ _ _ _ _ _ _ _ w).mono ?_
  rintro e w' ⟨rfl, hb⟩
  have hq := (h.below hb (lR _)).mono hb.size
  have ho2 : az_ ⟨op, key, keys, val, tags, life, ver, tag, pre, chi⟩ = ⟨op, eB, [], [], [], 0, 0, eB, eB, eB⟩ := by rcases ho with rfl | rfl <;> simp [az_]
 rotate_left 1
 rotate_right 5
 iterate 5
  ·exact ⟨.slice none 0 0, .slice none 0 0, .slice none 0 0, by rw [ho2]; simp [a0_, cmdC, eB], by rw [ho2]; exact ⟨cf_ _ _, datg_nil _ _, cf_ _ _⟩, hb⟩
end Go.Proofs.YtnjhpgmbfblgaaaGreat.Ord
