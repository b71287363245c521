/- What the law FreshTimes needs of get, and that its calls are valid. -/
import Derived.Test.YtnjhpgmbfblgaaaGreatU74
import Derived.Test.YtnjhpgmbfblgaaaGreatU80
namespace Go.Proofs.YtnjhpgmbfblgaaaGreat.Ord
open Go.RowKit
set_option linter.unusedVariables false
set_option linter.unusedSimpArgs false
set_option maxRecDepth 100000
set_option maxHeartbeats 8000000

/-- where the parts of a reply with one item lie -/
def pvI (b : Nat) : CallV := ⟨.slice none 0 0, .slice none 0 0, .slice none 0 0, .slice (some ⟨b, 0, none⟩) 1 1, .slice none 0 0⟩
def GetX (m : Int) (v : ByteArray) (ver tim : Int) (w : World) (e : Ending) (w' : World) : Prop := ∃ (b : Nat) (vv : Value), e = .returned (.agg (saidL (getS m v ver tim) (pvI b)).toArray) ∧ w.heap.size ≤ b ∧ RowL w' b 78 (aD_ m vv ver nev) ∧ (DatG w' b vv (aF_ v) ∧ vv.oneCell' = true) ∧ Below w.heap.size w w'
theorem and2 {a b : Bool} (h : a = true) (h' : b = true) : (a && b) = true := by rw [h, h']; rfl
theorem byt_kept2 {w w' : World} {L : List Nat} {B : Nat} (hk : Kept L w w') {A : Option Addr} {c : Nat} {xs : List Int} (h : Byt w B A c xs) (hB : B ≤ w.heap.size) (hn : ∀ b off, A = some ⟨b, off, none⟩ → b ∉ L) : Byt w' B A c xs := by
  refine ⟨h.1, h.2.1, fun i hi => ?_⟩
  obtain ⟨x, off, h1, h2, h3⟩ := h.2.2 i hi
  exact ⟨x, off, h1, h2, fun y hy => by
    rw [World.cell?_of_block (w := w) (hk.block x (by omega) (hn x off h1))]
    exact h3 y hy⟩
theorem cmdEq_self (c : CmdR) : cl_ c c = true := by unfold cl_; simp
theorem okS_sT {life : Int} (h : 1 ≤ life ∧ life ≤ 1000) : okS (sT life) = true := by
  have e : (life == 0) = false := by simp; omega
  have h1 : aJ_ (sT life).cmd = true := by
    refine and2 (and2 rfl ?_) (cmdEq_self _)
    show (aB_ kA && okG 0 a7_ [bT] && !(life == 0)) = true
    rw [e]
    decide +kernel
  exact and2 (and2 (and2 (and2 (and2 h1 (show aX_ ⟨1, 0, [], 1, 0, []⟩ = true by decide +kernel)) rfl) rfl) rfl) (decide_eq_true ⟨⟨by show (0 : Int) ≤ life; omega, by show life < 18446744073709551616; omega⟩, (by decide : (0 : Int) ≤ 0 ∧ (0 : Int) < 18446744073709551616), (by decide : (0 : Int) ≤ 1 ∧ (1 : Int) < 18446744073709551616), (by decide : (-9223372036854775808 : Int) ≤ 0 ∧ (0 : Int) < 9223372036854775808), (by decide : (-9223372036854775808 : Int) ≤ 0 ∧ (0 : Int) < 9223372036854775808), (by decide : (-9223372036854775808 : Int) ≤ 1 ∧ (1 : Int) < 9223372036854775808), (by decide : (0 : Int) ≤ 0 ∧ (0 : Int) < 18446744073709551616)⟩)
theorem okS_pT {soft : Int} (h : 0 ≤ soft ∧ soft ≤ 2000) : okS (pT soft) = true := by
  have h1 : aJ_ (pT soft).cmd = true := (show aJ_ (c0 9 eB0 bT eB0 eB0) = true by decide +kernel)
  exact and2 (and2 (and2 (and2 (and2 h1 (show aX_ ⟨9, 0, [], 0, 0, []⟩ = true by decide +kernel)) rfl) rfl) rfl) (decide_eq_true ⟨(by decide : (0 : Int) ≤ 0 ∧ (0 : Int) < 18446744073709551616), (by decide : (0 : Int) ≤ 0 ∧ (0 : Int) < 18446744073709551616), (by decide : (0 : Int) ≤ 0 ∧ (0 : Int) < 18446744073709551616), (by decide : (-9223372036854775808 : Int) ≤ 0 ∧ (0 : Int) < 9223372036854775808), (by decide : (-9223372036854775808 : Int) ≤ 0 ∧ (0 : Int) < 9223372036854775808), (by decide : (-9223372036854775808 : Int) ≤ 9 ∧ (9 : Int) < 9223372036854775808), ⟨by show (0 : Int) ≤ soft; omega, by show soft < 18446744073709551616; omega⟩⟩)
theorem item_self (r : ItemR) : by_ r r = true := by unfold by_; simp
theorem okS_gT {m life now : Int} (h : 1 ≤ life ∧ life ≤ 1000) (hn : 0 ≤ now ∧ now ≤ 2000) (hm : m = 0 ∨ m = 1 ∨ m = 2) : okS (gT m life now) = true := by
  have h1 : aJ_ (gT m life now).cmd = true := (show aJ_ ⟨4, kA, [], [], [], 0, 0, ⟨#[]⟩, ⟨#[]⟩, ⟨#[]⟩⟩ = true by decide +kernel)
  have hi : (itT m life).mark = m ∧ (0 ≤ (itT m life).ver ∧ (itT m life).ver < 18446744073709551616) ∧ (0 ≤ (itT m life).dead ∧ (itT m life).dead < 18446744073709551616) ∧ (itT m life).val.length ≤ 1 ∧ (∀ y ∈ (itT m life).val, 0 ≤ y ∧ y < 256) ∧ c2_ (itT m life) = itT m life := by
    rcases hm with rfl | rfl | rfl
    · rw [show itT 0 life = ⟨0, [], 0, 0⟩ from rfl]
      exact ⟨rfl, by decide, by decide, by decide, (fun y hy => by cases hy), rfl⟩
    · rw [show itT 1 life = ⟨1, aF_ bX, 1, life⟩ from rfl]
      exact ⟨rfl, (by decide : (0 : Int) ≤ 1 ∧ (1 : Int) < 18446744073709551616), ⟨by show (0 : Int) ≤ life; omega, by show life < 18446744073709551616; omega⟩, (by decide +kernel : (aF_ bX).length ≤ 1), fs_ bX, rfl⟩
    · rw [show itT 2 life = ⟨2, aF_ bX, 1, life⟩ from rfl]
      exact ⟨rfl, (by decide : (0 : Int) ≤ 1 ∧ (1 : Int) < 18446744073709551616), ⟨by show (0 : Int) ≤ life; omega, by show life < 18446744073709551616; omega⟩, (by decide +kernel : (aF_ bX).length ≤ 1), fs_ bX, rfl⟩
  obtain ⟨i1, i2, i3, i4, i5, i6⟩ := hi
  have hr : ({ (gT m life now).resp with op := (gT m life now).cmd.op } : RespR) = ⟨4, 0, [itT m life], 0, 0, []⟩ := rfl
  have h2 : aX_ { (gT m life now).resp with op := (gT m life now).cmd.op } = true := by
    rw [hr]
    refine and2 rfl (and2 ?_ ?_)
    · show (decide (([itT m life] : List ItemR).length = 1) && ((([itT m life] : List ItemR).all okI) && true)) = true
      refine and2 rfl (and2 (and2 (decide_eq_true ⟨by rw [i1]; omega, by rw [i1]; omega, by omega⟩) rfl) rfl)
    · have e : a1_ ⟨4, 0, [itT m life], 0, 0, []⟩ = ⟨4, 0, [c2_ (itT m life)], 0, 0, []⟩ := rfl
      rw [e, i6]
      unfold bd_
      refine and2 (and2 (and2 (and2 (and2 rfl rfl) (eC_ rfl fun i _ => item_self _)) rfl) rfl) rfl
  refine and2 (and2 (and2 (and2 (and2 h1 h2) rfl) ?_) rfl) (decide_eq_true ⟨(by decide : (0 : Int) ≤ 0 ∧ (0 : Int) < 18446744073709551616), (by decide : (0 : Int) ≤ 0 ∧ (0 : Int) < 18446744073709551616), (by decide : (0 : Int) ≤ 0 ∧ (0 : Int) < 18446744073709551616), (by decide : (-9223372036854775808 : Int) ≤ 0 ∧ (0 : Int) < 9223372036854775808), (by decide : (-9223372036854775808 : Int) ≤ 0 ∧ (0 : Int) < 9223372036854775808), (by decide : (-9223372036854775808 : Int) ≤ 4 ∧ (4 : Int) < 9223372036854775808), ⟨by show (0 : Int) ≤ now; omega, by show now < 18446744073709551616; omega⟩⟩)
  refine and2 rfl (and2 ?_ rfl)
  exact and2 (and2 (and2 (and2 (decide_eq_true (by omega)) (List.all_eq_true.2 fun y hy => decide_eq_true (i5 y hy))) (decide_eq_true i2)) (decide_eq_true i3)) (decide_eq_true (by rw [i1]; omega))
/-- a reply with one item that lies there -/
theorem said_get {W : World} {b : Nat} {vv : Value} {m ver dead now : Int} {val : List Int} (hr : RowL W b 78 (aD_ m vv ver dead)) (hd : DatG W W.heap.size vv val) :
    SaidIn W (saidL ⟨⟨4, kA, [], [], [], 0, 0, ⟨#[]⟩, ⟨#[]⟩, ⟨#[]⟩⟩, ⟨0, 0, [⟨m, val, ver, dead⟩], 0, 0, []⟩, now⟩ (pvI b)) ⟨⟨4, kA, [], [], [], 0, 0, ⟨#[]⟩, ⟨#[]⟩, ⟨#[]⟩⟩, ⟨0, 0, [⟨m, val, ver, dead⟩], 0, 0, []⟩, now⟩ := by
  refine ⟨pvI b, rfl, ⟨⟨⟨slv_nil2 _ _ _, datg_nil _ _, slv_nil2 _ _ _⟩, ⟨by show (1 : Nat) ≤ maxLen; unfold maxLen; omega, _, 1, rfl, ?_⟩, slv_nil2 _ _ _⟩, some ⟨b, 0, none⟩, 1, rfl, Nat.le_refl _⟩, fun u hu => ?_⟩
  · intro i r hi
    have h0 : i = 0 := by
      have := (List.getElem?_eq_some_iff.1 hi).1
      simp at this
      exact this
    subst h0
    cases hi
    exact ⟨b, 0, _, rfl, hr.lt, hr.cells, hd⟩
  · unfold saidL respC cmdC pvI at hu
    simp only [List.cons_append, List.nil_append, List.mem_cons, List.not_mem_nil, or_false] at hu
    rcases hu with rfl | rfl | rfl | rfl | rfl | rfl | rfl | rfl | rfl | rfl | rfl | rfl | rfl | rfl | rfl | rfl | rfl <;> rfl
theorem get34x (m : Int) (v : ByteArray) (ver tim : Int) (w : World) (hv : v.size ≤ 1000) :
    Calls Tryz.prog 34 #[.int .i64 m, .string v, .int .u64 ver, .int .u64 tim] w (GetX m v ver tim w) := by
  obtain ⟨W1, hW1⟩ : ∃ W, w.alloc (.cells ([.int .i64 0, .string ⟨#[]⟩, .slice none 0 0, .slice none 0 0, .slice none 0 0, .int .u64 0, .int .u64 0, .string ⟨#[]⟩, .string ⟨#[]⟩, .string ⟨#[]⟩, .int .i64 0, .int .i64 0, .slice none 0 0, .int .u64 0, .int .i64 0, .slice none 0 0, .int .u64 0] : List Value).toArray 73) = W := ⟨_, rfl⟩
  have hr1 : RowL W1 w.heap.size 73 [.int .i64 0, .string ⟨#[]⟩, .slice none 0 0, .slice none 0 0, .slice none 0 0, .int .u64 0, .int .u64 0, .string ⟨#[]⟩, .string ⟨#[]⟩, .string ⟨#[]⟩, .int .i64 0, .int .i64 0, .slice none 0 0, .int .u64 0, .int .i64 0, .slice none 0 0, .int .u64 0] := by rw [← hW1]; exact RowL.new w 73 _
  have hb1 : Below w.heap.size w W1 := by rw [← hW1]; exact below1 w _
  have hw1 : w.alloc (.cells #[.int .i64 0, .string ⟨#[]⟩, .slice none 0 0, .slice none 0 0, .slice none 0 0, .int .u64 0, .int .u64 0, .string ⟨#[]⟩, .string ⟨#[]⟩, .string ⟨#[]⟩, .int .i64 0, .int .i64 0, .slice none 0 0, .int .u64 0, .int .i64 0, .slice none 0 0, .int .u64 0] 73) = W1 := hW1
  obtain ⟨c2, W5, hconv, hby5, hb5⟩ := dp_ W1 v
  obtain ⟨W6, hW6⟩ : ∃ W, W5.alloc (.cells ([.int .i64 m, .slice (some ⟨W1.heap.size, 0, none⟩) v.size c2, .int .u64 ver, .int .u64 18446744073709551615] : List Value).toArray 78) = W := ⟨_, rfl⟩
  have hr6i : RowL W6 W5.heap.size 78 [.int .i64 m, .slice (some ⟨W1.heap.size, 0, none⟩) v.size c2, .int .u64 ver, .int .u64 18446744073709551615] := by rw [← hW6]; exact RowL.new W5 78 _
  have hb6 : Below W5.heap.size W5 W6 := by rw [← hW6]; exact below1 W5 _
  have hw6 : W5.alloc (.cells #[.int .i64 m, .slice (some ⟨W1.heap.size, 0, none⟩) v.size c2, .int .u64 ver, .int .u64 18446744073709551615] 78) = W6 := hW6
  obtain ⟨X, hX⟩ : ∃ X, w.heap.size = X := ⟨_, rfl⟩
  have hr5 : RowL W6 X 73 [.int .i64 0, .string ⟨#[]⟩, .slice none 0 0, .slice none 0 0, .slice none 0 0, .int .u64 0, .int .u64 0, .string ⟨#[]⟩, .string ⟨#[]⟩, .string ⟨#[]⟩, .int .i64 0, .int .i64 0, .slice none 0 0, .int .u64 0, .int .i64 0, .slice none 0 0, .int .u64 0] := by rw [← hX]; exact (hr1.below hb5 hr1.lt).below hb6 (Nat.lt_of_lt_of_le hr1.lt hb5.size)
  have hb15 : Below w.heap.size w W6 := (hb1.trans (hb5.mono hb1.size)).trans (hb6.mono (Nat.le_trans hb1.size hb5.size))
  obtain ⟨p, hp⟩ : ∃ p : CallV, p = ⟨.slice none 0 0, .slice none 0 0, .slice none 0 0, .slice (some ⟨W5.heap.size, 0, none⟩) 1 1, .slice none 0 0⟩ := ⟨_, rfl⟩
  obtain ⟨L, hL⟩ : ∃ L, saidL (getS m v ver tim) p = L := ⟨_, rfl⟩
  have hone : ∀ u ∈ L, u.oneCell' = true := fun u hu => by
    rw [← hL, hp] at hu
    unfold saidL getS respC cmdC at hu
    simp only [List.cons_append, List.nil_append, List.mem_cons, List.not_mem_nil, or_false] at hu
    rcases hu with rfl | rfl | rfl | rfl | rfl | rfl | rfl | rfl | rfl | rfl | rfl | rfl | rfl | rfl | rfl | rfl | rfl <;> rfl
  have HONE := Lib.hid hone
  have HON := Lib.hid (all_oneCell_toArray hone)
  have HLL := Lib.hid (show L.length = 17 by rw [← hL]; rfl)
  have hl2 : L = [.int .i64 4, .string ⟨#[97]⟩, .slice none 0 0, .slice none 0 0, .slice none 0 0, .int .u64 0, .int .u64 0, .string ⟨#[]⟩, .string ⟨#[]⟩, .string ⟨#[]⟩, .int .i64 0, .int .i64 0, .slice (some ⟨W5.heap.size, 0, none⟩) 1 1, .int .u64 0, .int .i64 0, .slice none 0 0, .int .u64 tim] := by rw [← hL, hp]; rfl
  have HL2 := Lib.hid hl2
  have HBY := Lib.hid hby5
  have HB := Lib.hid hb15
  have HR := Lib.hid hr5
  have HRI := Lib.hid hr6i
  have HL := Lib.hid hL
  have HP := Lib.hid hp
  have HXX := Lib.hid hX
  have HX1 := Lib.hid (show X < W1.heap.size from by rw [← hX]; exact hr1.lt)
  have HX6 := Lib.hid (show X < W5.heap.size from by rw [← hX]; exact Nat.lt_of_lt_of_le hr1.lt hb5.size)
  have HB6 := Lib.hid hb6
  have HS5 := Lib.hid (show W5.heap.size < W6.heap.size from hr6i.lt)
  have HBI := Lib.hid (show W1.heap.size < W5.heap.size ∨ v.size = 0 from by
    rcases Nat.eq_zero_or_pos v.size with h0 | h0
    · exact .inr h0
    · obtain ⟨b, off, e, hb, _⟩ := hby5.2.2 0 (by rw [aG_]; exact h0)
      cases e
      exact .inl hb)
  clear hby5 hb15 hr5 hL hp hb5 hb1 hr1 hone hl2 hr6i hb6 hW6
  go_enter Tryz.func34, Tryz.ntmps34
  go_upto_region 1 with (fail)
  try rw [hw1]
  try rw [hX]
  clear hw1 hX hW1
  go_wp2_with (first
    | ((with_reducible refine cm_ (o := ⟨some 15, _, _, _, _, _⟩) rfl 37 _ rfl 78 _ 4 48 (.agg #[.int .i64 m, .slice (some ⟨W1.heap.size, 0, none⟩) v.size c2, .int .u64 ver, .int .u64 18446744073709551615]) #[.int .i64 m, .slice (some ⟨W1.heap.size, 0, none⟩) v.size c2, .int .u64 ver, .int .u64 18446744073709551615] Tryz.underlying37 iD_ (by decide) (by decide) ?_ rfl rfl ?_); (· rfl))
    | ((with_reducible refine ab_ (op := ⟨none, _, _, _, _, _⟩) rfl 73 _ _ rfl X 0 L.toArray ?_ ?_ ?_ ?_ HON.out ?_); (· rfl); (· rw [HL2.out]; rfl); (· exact HR.out.there (by rw [Nat.zero_add, List.size_toArray, HLL.out]; decide)); (· rw [List.size_toArray]; exact q73 L HLL.out); intro w9 hw9))
  have hr9 := HR.out.setCells (o := 0) L
  rw [f1_ L HLL.out] at hr9
  have hb9 := ai_ L 0 W6 (B := w.heap.size) (b := X) (by rw [HXX.out]; exact Nat.le_refl _)
  have hk9 : Kept [X] W6 (W6.setCells X 0 L) := am_ (L := [X]) (by simp) L 0 _ (Kept.refl _ _)
  have hbw : Below w.heap.size w (W6.setCells X 0 L) := HB.out.trans hb9
  refine f0_ hr9 HLL.out rfl rfl rfl ⟨W5.heap.size, .slice (some ⟨W1.heap.size, 0, none⟩) v.size c2, by rw [← HL.out, HP.out]; rfl, by rw [HXX.out]; exact Nat.le_of_lt HX6.out, HRI.out.kept hk9 (by simp; exact Nat.ne_of_gt HX6.out), ⟨⟨fs_ v, by rw [aG_]; unfold maxLen; omega, _, c2, by rw [aG_], ?_⟩, rfl⟩, hbw⟩
  exact byt_kept2 hk9 (HBY.out.below HB6.out (Nat.le_refl _)) (Nat.le_of_lt HS5.out) (fun b off e => by cases e; simp; exact Nat.ne_of_gt HX1.out)
end Go.Proofs.YtnjhpgmbfblgaaaGreat.Ord
