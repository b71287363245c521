/- The comparisons of calls, and slices.SortFunc at them; Walk of slices.IsSortedFunc at calls, by their times; slices.SortFunc at a row of calls that is owned, empty or not; slices.SortFunc at an owned row of calls. -/
import Derived.Test.YtnjhpgmbfblgaaaGreatS2
import Derived.Test.YtnjhpgmbfblgaaaGreatMH4
import Derived.Test.YtnjhpgmbfblgaaaGreatMS0
import Derived.Test.YtnjhpgmbfblgaaaGreatV1
namespace Go.Proofs.YtnjhpgmbfblgaaaGreat.Ord
set_option maxRecDepth 100000
set_option maxHeartbeats 16000000
open Go.RowKit Go.Shelf Go.Lib Go.Sort
set_option linter.unusedVariables false
set_option linter.unusedSimpArgs false
def cmpI (a b : Int) : Int := if a < b then -1 else if b < a then 1 else 0
theorem lt_cmpI (a b : Int) : decide (cmpI a b < 0) = decide (a < b) := by
 unfold cmpI
 by_cases h1 : a < b
 ·simp [h1]
 ·by_cases h2 : b < a <;> simp [h1, h2]
theorem compare63 (a b : Int) (w : World) : Calls Tryz.prog 63 #[.int .i64 a, .int .i64 b] w fun e w' => e = .returned (.int .i64 (cmpI a b)) /\ w' = w := by
 by_cases h1 : a < b
 ·have g1 : decide (a < b) = true := by simpa using h1
  have hc : cmpI a b = -1 := by unfold cmpI; rw [if_pos h1]
  rw [hc]
  clear hc h1
  go_enter Tryz.func63, Tryz.ntmps63
  go_wp2
  go_ret
  exact ⟨rfl, rfl⟩
 ·have g1 : decide (a < b) = false := by simpa using h1
  by_cases h2 : b < a
  ·have g2 : decide (b < a) = true := by simpa using h2
   have hc : cmpI a b = 1 := by unfold cmpI; rw [if_neg h1, if_pos h2]
   rw [hc]
   clear hc h1 h2
   go_enter Tryz.func63, Tryz.ntmps63
   go_wp2
   go_ret
   exact ⟨rfl, rfl⟩
  ·have g2 : decide (b < a) = false := by simpa using h2
   have hc : cmpI a b = 0 := by unfold cmpI; rw [if_neg h1, if_neg h2]
   rw [hc]
   clear hc h1 h2
   go_enter Tryz.func63, Tryz.ntmps63
   go_wp2
   go_ret
   exact ⟨rfl, rfl⟩
theorem compare66 (a b : Int) (w : World) : Calls Tryz.prog 66 #[.int .u64 a, .int .u64 b] w fun e w' => e = .returned (.int .i64 (cmpI a b)) /\ w' = w := by
 by_cases h1 : a < b
 ·have g1 : decide (a < b) = true := by simpa using h1
  have hc : cmpI a b = -1 := by unfold cmpI; rw [if_pos h1]
  rw [hc]
  clear hc h1
  go_enter Tryz.func66, Tryz.ntmps66
  go_wp2
  go_ret
  exact ⟨rfl, rfl⟩
 ·have g1 : decide (a < b) = false := by simpa using h1
  by_cases h2 : b < a
  ·have g2 : decide (b < a) = true := by simpa using h2
   have hc : cmpI a b = 1 := by unfold cmpI; rw [if_neg h1, if_pos h2]
   rw [hc]
   clear hc h1 h2
   go_enter Tryz.func66, Tryz.ntmps66
   go_wp2
   go_ret
   exact ⟨rfl, rfl⟩
  ·have g2 : decide (b < a) = false := by simpa using h2
   have hc : cmpI a b = 0 := by unfold cmpI; rw [if_neg h1, if_neg h2]
   rw [hc]
   clear hc h1 h2
   go_enter Tryz.func66, Tryz.ntmps66
   go_wp2
   go_ret
   exact ⟨rfl, rfl⟩
theorem closure62 (x y : CallR) (p q : CallV) (W : World) : Calls Tryz.prog 62 #[.agg (callC x p).toArray, .agg (callC y q).toArray] W fun e w' => e = .returned (.int .i64 (cmpI x.done y.done)) /\ ∃ k os', w' = grow (W.drewN k) os' := by
 have hc := fun W' => compare63 x.done y.done W'
 generalize cmpI x.done y.done = r at hc ⊢
 have e1 : callC x p = [.int .i64 x.ses, .int .i64 x.num, .bool x.bad, .int .i64 x.cmd.op, .string x.cmd.key, p.vk, p.vv, p.vt, .int .u64 x.cmd.life, .int .u64 x.cmd.ver, .string x.cmd.tag, .string x.cmd.pre, .string x.cmd.chi, .int .i64 x.resp.op, .int .i64 x.resp.err, p.vi, .int .u64 x.resp.ver, .int .i64 x.resp.count, p.vn, .int .i64 x.asked, .int .i64 x.done, .int .i64 x.told, .int .u64 x.tim] := rfl
 have e2 : callC y q = [.int .i64 y.ses, .int .i64 y.num, .bool y.bad, .int .i64 y.cmd.op, .string y.cmd.key, q.vk, q.vv, q.vt, .int .u64 y.cmd.life, .int .u64 y.cmd.ver, .string y.cmd.tag, .string y.cmd.pre, .string y.cmd.chi, .int .i64 y.resp.op, .int .i64 y.resp.err, q.vi, .int .u64 y.resp.ver, .int .i64 y.resp.count, q.vn, .int .i64 y.asked, .int .i64 y.done, .int .i64 y.told, .int .u64 y.tim] := rfl
 rw [e1, e2]
 clear e1 e2
 go_enter Tryz.func62, Tryz.ntmps62
 go_wp2_with (go_at_call 63; refine (hc _).mono ?_; rintro e w' ⟨rfl, rfl⟩)
 go_ret
 exact ⟨rfl, 0, _, by rw [alloc_eq_grow, alloc_eq_grow, grow_grow]; rfl⟩
theorem closure65 (x y : CallR) (p q : CallV) (W : World) : Calls Tryz.prog 65 #[.agg (callC x p).toArray, .agg (callC y q).toArray] W fun e w' => e = .returned (.int .i64 (cmpI x.tim y.tim)) /\ ∃ k os', w' = grow (W.drewN k) os' := by
 have hc := fun W' => compare66 x.tim y.tim W'
 generalize cmpI x.tim y.tim = r at hc ⊢
 have e1 : callC x p = [.int .i64 x.ses, .int .i64 x.num, .bool x.bad, .int .i64 x.cmd.op, .string x.cmd.key, p.vk, p.vv, p.vt, .int .u64 x.cmd.life, .int .u64 x.cmd.ver, .string x.cmd.tag, .string x.cmd.pre, .string x.cmd.chi, .int .i64 x.resp.op, .int .i64 x.resp.err, p.vi, .int .u64 x.resp.ver, .int .i64 x.resp.count, p.vn, .int .i64 x.asked, .int .i64 x.done, .int .i64 x.told, .int .u64 x.tim] := rfl
 have e2 : callC y q = [.int .i64 y.ses, .int .i64 y.num, .bool y.bad, .int .i64 y.cmd.op, .string y.cmd.key, q.vk, q.vv, q.vt, .int .u64 y.cmd.life, .int .u64 y.cmd.ver, .string y.cmd.tag, .string y.cmd.pre, .string y.cmd.chi, .int .i64 y.resp.op, .int .i64 y.resp.err, q.vi, .int .u64 y.resp.ver, .int .i64 y.resp.count, q.vn, .int .i64 y.asked, .int .i64 y.done, .int .i64 y.told, .int .u64 y.tim] := rfl
 rw [e1, e2]
 clear e1 e2
 go_enter Tryz.func65, Tryz.ntmps65
 go_wp2_with (go_at_call 66; refine (hc _).mono ?_; rintro e w' ⟨rfl, rfl⟩)
 go_ret
 exact ⟨rfl, 0, _, by rw [alloc_eq_grow, alloc_eq_grow, grow_grow]; rfl⟩
/-- a call and the cells that hold it -/
def CallE : Type := { q : CallR × CallV // ∀ v ∈ callC q.1 q.2, v.oneCell' = true }
def CallE.r (x : CallE) : CallR := x.1.1
def CallE.enc (x : CallE) : List Value := callC x.1.1 x.1.2
theorem callC_one {x : CallR} {p : CallV} (h1 : p.vk.oneCell' = true) (h2 : p.vv.oneCell' = true) (h3 : p.vt.oneCell' = true) (h4 : p.vi.oneCell' = true) (h5 : p.vn.oneCell' = true) : ∀ v ∈ callC x p, v.oneCell' = true := by
 have e : callC x p = [.int .i64 x.ses, .int .i64 x.num, .bool x.bad, .int .i64 x.cmd.op, .string x.cmd.key, p.vk, p.vv, p.vt, .int .u64 x.cmd.life, .int .u64 x.cmd.ver, .string x.cmd.tag, .string x.cmd.pre, .string x.cmd.chi, .int .i64 x.resp.op, .int .i64 x.resp.err, p.vi, .int .u64 x.resp.ver, .int .i64 x.resp.count, p.vn, .int .i64 x.asked, .int .i64 x.done, .int .i64 x.told, .int .u64 x.tim] := rfl
 intro v hv
 rw [e] at hv
 simp only [List.mem_cons, List.not_mem_nil, or_false] at hv
 rcases hv with rfl | rfl | rfl | rfl | rfl | rfl | rfl | rfl | rfl | rfl | rfl | rfl | rfl | rfl | rfl | rfl | rfl | rfl | rfl | rfl | rfl | rfl | rfl <;> first | rfl | assumption
instance : Inhabited CallE := ⟨⟨(⟨0, 0, false, ⟨0, ⟨#[]⟩, [], [], [], 0, 0, ⟨#[]⟩, ⟨#[]⟩, ⟨#[]⟩⟩, ⟨0, 0, [], 0, 0, []⟩, 0, 0, 0, 0⟩, ⟨.slice none 0 0, .slice none 0 0, .slice none 0 0, .slice none 0 0, .slice none 0 0⟩), callC_one rfl rfl rfl rfl rfl⟩⟩
theorem CallE.len (x : CallE) : x.enc.length = 23 := rfl
def byDone (x y : CallE) : Int := cmpI x.r.done y.r.done
theorem lt_byDone (x y : CallE) : ltOf byDone x y = decide (x.r.done < y.r.done) := lt_cmpI _ _
theorem swoDone : SWO (ltOf byDone) where
 irrefl x := by rw [lt_byDone]; simp
 trans x y z h1 h2 := by rw [lt_byDone] at *; simp at *; omega
 ntrans x y z h1 h2 := by rw [lt_byDone] at *; simp at *; omega
theorem cmpLays62 (blk off size : Nat) (w : World) : CmpLays Tryz.prog 62 #[] CallE.enc 23 byDone blk off size w :=
 fun _ _ _ _ x y => closure62 x.1.1 y.1.1 x.1.2 y.1.2 _
/-- slices.SortFunc, by when the calls were carried out -/
theorem sort61 (blk off cap : Nat) (d : Array CallE) (w : World) (hH : HoldsK CallE.enc 23 w blk off d) (hblk : blk < w.heap.size) (hsz : d.size < 4611686018427387904) :
  Calls Tryz.prog 61 #[.slice (some ⟨blk, off, none⟩) d.size cap, .func (.func 62) #[] #[]] w fun e w' => e = .returned (.tuple #[]) /\ ∃ d' n os, PermIn 0 d.size d d' /\ SortedIn (ltOf byDone) 0 d.size d' /\ w' = sortWorldK CallE.enc 23 w blk off n d' os := by
 have eg : ∀ args w, (callFunc 62 args).run Tryz.prog w = .ok (.enter 62 args) w := enters_of Tryz.func62 (by kernel_rfl) rfl
 have hcon := AnyQ.slices_SortFunc Tryz.sort61 23 Tryz.isAgg52 Tryz.sizeOf52 CallE.enc CallE.len (fun x => x.2) byDone swoDone 62 #[] blk off cap d w eg (cmpLays62 blk off d.size w) hH hblk hsz
 exact hcon
end Go.Proofs.YtnjhpgmbfblgaaaGreat.Ord
namespace Go.Proofs.YtnjhpgmbfblgaaaGreat.Ord
set_option maxRecDepth 100000
set_option maxHeartbeats 16000000
open Go.RowKit Go.Sort
set_option linter.unusedVariables false
theorem below_grown (w : World) (k : Nat) (os : Array Obj) : Below w.heap.size w (grow (w.drewN k) os) :=
 ⟨rfl, rfl, rfl, by simp [grow, World.drewN], fun k hk => by simp [grow, World.drewN, Array.getElem?_append, hk]⟩
/-- calls that lie in a row -/
def RowC (w : World) (B : Nat) (A : Option Addr) (l : List (CallR × CallV)) : Prop :=
 ∀ i x, l[i]? = some x -> ∃ b off, A = some ⟨b, off, none⟩ /\ b < B /\ CellsAt w ⟨b, off + i * 23, none⟩ (callC x.1 x.2)
theorem RowC.below {B B' : Nat} {w w' : World} {A : Option Addr} {l : List (CallR × CallV)} (h : RowC w B A l) (hb : Below B' w w') (hB : B <= B') : RowC w' B' A l := by
 intro i r hi
 obtain ⟨b, off, h1, h2, h3⟩ := h i r hi
 exact ⟨b, off, h1, by omega, h3.below hb (by show b < B'; omega)⟩
def timsUp (l : List (CallR × CallV)) : Bool := decide (∀ i (h : i < l.length - 1), l[i].1.tim <= l[i + 1].1.tim)
theorem call_len52 (x : CallR × CallV) : (Tryz.prog.info? 52).map (·.size) = some (callC x.1 x.2).length := call_sizeL _ _ _ _ _ _ _ _ _ _ _ _ _ _ _ _ _ _ _ _ _ _ _

theorem sorted64 (A : Option Addr) (n c : Nat) (l : List (CallR × CallV)) (w : World) (hn : l.length = n) (hl : n <= 4096) (hA : RowC w w.heap.size A l) :
  Calls Tryz.prog 64 #[.slice A n c, .func (.func 65) #[] #[]] w fun e w' => e = .returned (.bool (timsUp l)) /\ Below w.heap.size w w' := by
 have HA := kp hA
 have HN := kp hn
 clear hA hn
 go_enter Tryz.func64, Tryz.ntmps64
 go_wp2_with fail
 go_loopw [5] (fun j wr => ∃ z : Int, -1 <= z /\ z < n /\ j = .int .i64 z /\ (∀ i (h : i + 1 < l.length), z <= i -> l[i].1.tim <= l[i + 1].1.tim) /\ Below w.heap.size w wr) (fun j _ => (intOf j).toNat)
 case atStart => exact ⟨(n : Int) - 1, by omega, by omega, rfl, fun i h hi => absurd hi (by have := HN.out; omega), Below.refl _ _⟩
 case round =>
  obtain ⟨z, hz1, hz2, rfl, hall, hb⟩ := hrel
  have HALL := kp hall
  clear hall
  by_cases hlt : 0 < z
  ·obtain ⟨k, rfl⟩ : ∃ k : Nat, z = (k : Int) + 1 := ⟨(z - 1).toNat, by omega⟩
   have hg : decide ((0 : Int) < (k : Int) + 1) = true := decide_eq_true (by omega)
   have hk1 : k + 1 < l.length := by rw [HN.out]; omega
   have hk2 : k < l.length := by rw [HN.out]; omega
   obtain ⟨b, off, rfl, hbB, hck⟩ := (HA.out.below hb (Nat.le_refl _)) (k + 1) _ (List.getElem?_eq_getElem hk1)
   obtain ⟨b', off', he, hbB', hck'⟩ := (HA.out.below hb (Nat.le_refl _)) k _ (List.getElem?_eq_getElem hk2)
   obtain ⟨rfl, rfl⟩ : b = b' /\ off = off' := by simpa using he
   clear he
   have HR := kp (show l[k + 1] = l[k + 1] from rfl)
   obtain ⟨r, hr⟩ : ∃ r, l[k + 1] = r := ⟨_, rfl⟩
   obtain ⟨s, hs⟩ : ∃ s, l[k] = s := ⟨_, rfl⟩
   rw [hr] at hck
   rw [hs] at hck'
   have h65 := fun W => (closure65 r.1 s.1 r.2 s.2 W).mono fun e w' h => (⟨h.1, by obtain ⟨_, k, os, rfl⟩ := h; exact below_grown _ _ _⟩ : e = .returned (.int .i64 (cmpI r.1.tim s.1.tim)) /\ Below W.heap.size W w')
   have hc := lt_cmpI r.1.tim s.1.tim
   obtain ⟨t, ht⟩ : ∃ t, cmpI r.1.tim s.1.tim = t := ⟨_, rfl⟩
   rw [ht] at h65 hc
   have hsz1 := call_len52 r
   have hsz2 := call_len52 s
   generalize callC r.1 r.2 = l1 at *
   generalize callC s.1 s.2 = l2 at *
   have Hk := kp hck.regrown
   have Hk' := kp hck'.regrown
   have H65 := kp h65
   have HZ1 := kp hsz1
   have HZ2 := kp hsz2
   have HC := kp hc
   have HRS := kp (⟨hr, hs⟩ : l[k + 1] = r /\ l[k] = s)
   have e1 : ((k : Int) + 1).toNat = k + 1 := by omega
   have e2 : IntKind.i64.wrap (k : Int) = (k : Int) := by rw [IntKind.wrap_i64]; omega
   have e3 : (k : Int) + 1 < (n : Int) := hz2
   have e4 : (k : Int) < (n : Int) := by omega
   have e5 : (0 : Int) <= (k : Int) + 1 := by omega
   clear hck hck' h65 hr hs ht hsz1 hsz2 hc HR
   cases hd : decide (t < 0)
   all_goals
    go_wp2_with fail
    refine wp_region_quiet_below (by kernel_rfl) (by kernel_rfl) ?_
    repeat (first
     | ((with_reducible refine qk_load_agg (o := ⟨some 17, _, _, _, _, _⟩) rfl 52 _ rfl ⟨b, off + (k + 1) * 23, none⟩ ?_ l1 _ Hk.out Tryz.underlying52 rfl HZ1.out ?_); (· rfl); simp only [Act.put, z1, z2, z3])
     | ((with_reducible refine qk_load_agg (o := ⟨some 22, _, _, _, _, _⟩) rfl 52 _ rfl ⟨b, off + k * 23, none⟩ ?_ l2 _ Hk'.out Tryz.underlying52 rfl HZ2.out ?_); (· rfl); simp only [Act.put, z1, z2, z3])
     | go_big_quiet_step ((go_at_call 65; exact Calls.regrown_of (H65.out _))))
    refine wpQuiet_nil ?_
    intro W3 hW3
    have hb3 := hb.trans ((regrown_below hW3).mono hb.size)
    clear hW3
   ·go_wp2_with fail
    go_roundw
    case rel => exact ⟨k, by omega, by omega, by go_num, fun i h hi => by (by_cases e : i = k; (subst e; rw [HRS.out.1, HRS.out.2]; have := HC.out; rw [hd] at this; have := of_decide_eq_false this.symm; omega); exact HALL.out i h (by omega)), hb3⟩
    case measure => simp [intOf]
   ·go_wp2_with fail
    go_ret
    refine ⟨ret_bool ?_, hb3⟩
    refine (decide_eq_false fun h => ?_).symm
    have h1 := h k (by omega)
    rw [HRS.out.1, HRS.out.2] at h1
    have := HC.out
    rw [hd] at this
    have := of_decide_eq_true this.symm
    omega
  ·have hg : decide (0 < z) = false := by simp; omega
   go_wp2_with fail
   go_ret
   refine ⟨ret_bool ?_, hb⟩
   exact (decide_eq_true fun i h => HALL.out i (by omega) (by omega)).symm
end Go.Proofs.YtnjhpgmbfblgaaaGreat.Ord
namespace Go.Proofs.YtnjhpgmbfblgaaaGreat.Ord
set_option maxRecDepth 100000
set_option maxHeartbeats 16000000
open Go.RowKit Go.Shelf
set_option linter.unusedVariables false
theorem ins_none (p : Option Addr) (cap : Nat) (fv : Value) (w : World) :
  Calls Tryz.prog 179 #[.slice p 0 cap, .int .i64 0, .int .i64 0, fv] w fun e w' => e = .returned (.tuple #[]) /\ w' = w := by
 go_enter Tryz.func179, Tryz.ntmps179
 go_wp2
 refine wp_loop_rounds 1 ?_
 rw [rounds_succ]
 go_wp2
 go_end0
 exact ⟨rfl, rfl⟩
theorem pdq_none (p : Option Addr) (cap : Nat) (lim : Int) (fv : Value) (w : World) :
  Calls Tryz.prog 114 #[.slice p 0 cap, .int .i64 0, .int .i64 0, .int .i64 lim, fv] w fun e w' => e = .returned (.tuple #[]) /\ w' = w := by
 have hi := fun W => ins_none p cap fv W
 go_enter Tryz.func114, Tryz.ntmps114
 go_wp2
 refine wp_loop_rounds 1 ?_
 rw [rounds_succ]
 go_wp2_with (go_at_call 179; refine (hi _).mono ?_; rintro e w' ⟨rfl, rfl⟩)
 (try simp only [Exit.inBlock, Exit.then]); refine bodyPost_ret (results_none rfl _ _ _) rfl ?_
 exact ⟨rfl, rfl⟩
theorem sort61_none (p : Option Addr) (cap : Nat) (fv : Value) (w : World) :
  Calls Tryz.prog 61 #[.slice p 0 cap, fv] w fun e w' => e = .returned (.tuple #[]) /\ w' = w := by
 have hp := fun lim W => pdq_none p cap lim fv W
 have hl : ∀ W, Calls Tryz.prog 115 #[.int .u64 0] W fun e w' => e = .returned (.int .i64 (Lib.bitLen 0 : Nat)) /\ w' = W := fun W => Any.bits_Len (SlLaysF0.n15.bits (P := Tryz.prog) (ρ := Tryz.sort61_ren) { Tryz.sort61 with }) 0 W (by omega) (by omega)
 go_enter Tryz.func61, Tryz.ntmps61
 go_wp2_with (first | (go_at_call 115; refine (hl _).mono ?_; rintro e w' ⟨rfl, rfl⟩) | (go_at_call 114; refine (hp _ _).mono ?_; rintro e w' ⟨rfl, rfl⟩))
 go_end0
 exact ⟨rfl, rfl⟩
theorem grownBy_sortedK {α : Type} [Inhabited α] {enc : α -> List Value} {k : Nat} {w : World} {g n : Nat} {os : Array Obj} (d : Array α) : w.grownBy (Go.Proofs.sortWorldK enc k w g 0 n d os) (some g) := by
 refine ⟨rfl, rfl, rfl, by unfold Go.Proofs.sortWorldK Go.Sort.putRowK; rw [Go.Sort.size_grow, Go.Sort.size_putRow]; exact Nat.le_add_right _ _, fun k hk hne => ?_⟩
 unfold Go.Proofs.sortWorldK Go.Sort.putRowK
 rw [Go.Sort.heap_grow_old _ _ (by simpa [Go.Sort.ahead] using hk)]
 have : g ≠ k := fun e => hne (by rw [e])
 simp [Go.Sort.putRow, Go.Sort.mapBlock, Go.Sort.ahead, Array.getElem?_modify, this]

/-- a row of calls that is one's own -/
abbrev callsV (L : List (CallR × CallV)) : List Value := L.flatMap fun x => callC x.1 x.2
theorem holdsK_own {w : World} {base g n c : Nat} {zs : List CallE} (h : w.ownsRow base 52 23 (.slice (some ⟨g, 0, none⟩) n c) n (callsV (zs.map fun z => z.1))) (hn : zs.length = n) : Go.Sort.HoldsK CallE.enc 23 w g 0 zs.toArray /\ g < w.heap.size /\ base <= g := by
 rcases h.2 with ⟨h, _⟩ | ⟨g', cap', cur, he, hbase, hh, hnc, hcm, hcs, htake⟩
 ·cases h
 cases he
 refine ⟨fun t ht => ?_, (Array.getElem?_eq_some_iff.1 hh).1, hbase⟩
 rw [Go.Sort.size_flatK] at ht
 have ht' : t < zs.length * 23 := by simpa using ht
 have hi : t / 23 < zs.length := by omega
 have hj : t % 23 < 23 := Nat.mod_lt _ (by omega)
 refine ⟨?_, by simp [World.frozen?, hh]⟩
 rw [Go.Sort.get_flatK _ _ _ _ ht]
 have e1 : zs.toArray[t / 23]! = zs[t / 23] := by simp [hi]
 rw [e1]
 have hl : t % 23 < (zs[t / 23]).enc.length := by rw [CallE.len]; exact hj
 have e2 : ((zs[t / 23]).enc)[t % 23]! = ((zs[t / 23]).enc)[t % 23] := by simp [hl]
 rw [e2]
 have h1 : (callsV (zs.map fun z => z.1))[t / 23 * 23 + t % 23]? = some ((zs[t / 23]).enc)[t % 23] := flat_at (L := zs.map fun z => z.1) (k := t / 23) (x := (zs[t / 23]).1) (by simp [hi]) (j := t % 23) (v := ((zs[t / 23]).enc)[t % 23]) (List.getElem?_eq_getElem hl)
 rw [show t / 23 * 23 + t % 23 = t by omega] at h1
 rw [<- htake, List.getElem?_take_of_lt (by omega)] at h1
 rw [Nat.zero_add]
 simp only [World.cell?, hh, Option.isSome_none, Bool.false_eq_true, if_false]
 rw [<- Array.getElem?_toList, h1]
 rfl
theorem rowC_holds {w : World} {g : Nat} {d : Array CallE} (h : Go.Sort.HoldsK CallE.enc 23 w g 0 d) (hg : g < w.heap.size) : RowC w w.heap.size (some ⟨g, 0, none⟩) (d.toList.map fun z => z.1) := by
 intro i x hi
 refine ⟨g, 0, rfl, hg, fun j u hu => ?_⟩
 obtain ⟨z, hz, rfl⟩ : ∃ z, d.toList[i]? = some z /\ z.1 = x := by simpa using hi
 have hi2 := (List.getElem?_eq_some_iff.1 hz).1
 have hj2 : j < 23 := (List.getElem?_eq_some_iff.1 hu).1
 have ht : i * 23 + j < d.size * 23 := by simp at hi2; omega
 have h1 := (h (i * 23 + j) (by rw [Go.Sort.size_flatK]; exact ht)).1
 rw [Go.Sort.get_flatK _ _ _ _ ht, show (i * 23 + j) / 23 = i by omega, show (i * 23 + j) % 23 = j by omega] at h1
 rw [show (⟨g, 0 + i * 23, none⟩ : Addr).add j = ⟨g, 0 + (i * 23 + j), none⟩ by simp [Addr.add], h1]
 have e1 : d[i]! = z := by
  have h2 : d[i]? = some z := by rw [<- Array.getElem?_toList]; exact hz
  rw [getElem!_def, h2]
 have e2 : z.enc[j]! = u := by
  have h2 : z.enc[j]? = some u := hu
  rw [getElem!_def, h2]
 rw [e1, e2]
 rfl
def toE (L : List (CallR × CallV)) (h : ∀ x ∈ L, ∀ v ∈ callC x.1 x.2, v.oneCell' = true) : List CallE := L.pmap (fun x h => (⟨x, h⟩ : CallE)) h
theorem toE_map (L : List (CallR × CallV)) (h : ∀ x ∈ L, ∀ v ∈ callC x.1 x.2, v.oneCell' = true) : (toE L h).map (fun z => z.1) = L := by
 induction L with
 | nil => rfl
 | cons a L ih =>
  show a :: (toE L _).map (fun z => z.1) = a :: L
  rw [ih]
theorem toE_len (L : List (CallR × CallV)) (h : ∀ x ∈ L, ∀ v ∈ callC x.1 x.2, v.oneCell' = true) : (toE L h).length = L.length := by rw [<- List.length_map (f := fun z : CallE => z.1), toE_map]
/-- the calls sorted by when they were carried out -/
theorem sort_row (base : Nat) (L : List (CallR × CallV)) (A : Option Addr) (n c : Nat) (w : World) (hn : L.length = n) (hl : n <= 4096) (h1 : ∀ x ∈ L, ∀ v ∈ callC x.1 x.2, v.oneCell' = true) (ho : w.ownsRow base 52 23 (.slice A n c) n (callsV L)) (hbase : base <= w.heap.size) :
  Calls Tryz.prog 61 #[.slice A n c, .func (.func 62) #[] #[]] w fun e w' => e = .returned (.tuple #[]) /\ ∃ L', L'.Perm L /\ (L'.Pairwise fun a b => ¬ b.1.done < a.1.done) /\ RowC w' w'.heap.size A L' /\ Below base w w' := by
 rcases id ho.2 with ⟨h, h0⟩ | ⟨g, cap, cur, he, hb, hh, hnc, hcm, hcs, htake⟩
 ·cases h
  refine (sort61_none _ _ _ w).mono ?_
  rintro e w' ⟨rfl, rfl⟩
  have hL : L = [] := List.length_eq_zero_iff.1 hn
  subst hL
  exact ⟨rfl, [], .nil, .nil, fun i x hi => by simp at hi, Below.refl _ _⟩
 ·cases he
  have hzs := toE_map L h1
  have hzl : (toE L h1).length = n := by rw [toE_len, hn]
  generalize toE L h1 = zs at hzs hzl
  rw [<- hzs] at ho
  obtain ⟨hH, hg, hbg⟩ := holdsK_own ho hzl
  have hcon := sort61 g 0 c zs.toArray w hH hg (by simp [hzl]; omega)
  rw [show zs.toArray.size = n by simp [hzl]] at hcon
  refine hcon.mono ?_
  rintro e w' ⟨he, d', m, os, hp, hs, rfl⟩
  have hps : d'.size = n := by rw [hp.1]; simp [hzl]
  have hperm : d'.toList.Perm zs := by
   have h3 := hp.2.2
   have e1 : (d'.extract 0 n) = d' := by rw [<- hps]; simp
   have e2 : (zs.toArray.extract 0 n) = zs.toArray := by rw [<- hzl]; simp
   rw [e1, e2] at h3
   exact h3
  have hgr := grownBy_sortedK (enc := CallE.enc) (k := 23) (w := w) (g := g) (n := m) (os := os) d'
  refine ⟨he, d'.toList.map (fun z => z.1), ?_, ?_, ?_, ⟨hgr.os, hgr.tape, hgr.output, hgr.size, fun k hk => hgr.block k (by omega) (fun e => by cases e; omega)⟩⟩
  ·rw [<- hzs]; exact hperm.map _
  ·rw [List.pairwise_map, List.pairwise_iff_getElem]
   intro i j hi hj hij
   have h4 := hs i j (Nat.zero_le _) hij (by simp at hj; omega)
   have e1 : d'[i]! = d'.toList[i] := by simp at hi; simp [hi]
   have e2 : d'[j]! = d'.toList[j] := by simp at hj; simp [hj]
   rw [e1, e2, lt_byDone] at h4
   exact of_decide_eq_false h4
  ·exact rowC_holds (Go.Proofs.holdsK_sortWorldK_c CallE.enc 23 w g 0 zs.toArray d' m os hH hg (by rw [hps]; simp [hzl])) (Go.Proofs.lt_sortWorldK CallE.enc 23 w g 0 m d' os hg)
end Go.Proofs.YtnjhpgmbfblgaaaGreat.Ord
