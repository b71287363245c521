/- Walks of the bytes of requests: the codec's first parts. -/
import Derived.Test.YtnmhmabifeapkaaM1
import Derived.Lib.SliceRun
import Derived.Deep.OwnRows
import Derived.Lib.AppendStr
import Derived.Lib.ConvBytes
import Derived.Deep.Heap
import Derived.Laws.BytesArg
import Derived.Lib.LazyBuf
import Derived.Shelf.Bytes.SlEqualAll
/- Slices of bytes; walks of slices.Clone, varint.Put, varint.PutBytes. -/
namespace Go.Proofs.Ytnmhmabifeapkaa.Ord
open Go.RowKit
set_option linter.unusedVariables false

/-- a slice value whose elements are the bytes xs, below block B -/
def Byt (w : World) (B : Nat) (A : Option Addr) (c : Nat) (xs : List Int) : Prop :=
  (A = none → c = 0) ∧ xs.length ≤ c ∧ ∀ i, i < xs.length → ∃ b off, A = some ⟨b, off, none⟩ ∧ b < B ∧ ∀ x, xs[i]? = some x → w.cell? ⟨b, off + i, none⟩ = some (.int .u8 x)
theorem Byt.below {B B' : Nat} {w w' : World} {A : Option Addr} {c : Nat} {l : List Int} (h : Byt w B A c l) (hb : Below B' w w') (hB : B ≤ B') : Byt w' B A c l := by
  refine ⟨h.1, h.2.1, fun i hi => ?_⟩
  obtain ⟨b, off, h1, h2, h3⟩ := h.2.2 i hi
  exact ⟨b, off, h1, h2, fun x hx => (hb.cell (p := ⟨b, off + i, none⟩) (by show b < B'; omega)).trans (h3 x hx)⟩
theorem Byt.mono {B B' : Nat} {w : World} {A : Option Addr} {c : Nat} {l : List Int} (h : Byt w B A c l) (hB : B ≤ B') : Byt w B' A c l := by
  refine ⟨h.1, h.2.1, fun i hi => ?_⟩
  obtain ⟨b, off, h1, h2, h3⟩ := h.2.2 i hi
  exact ⟨b, off, h1, by omega, h3⟩
theorem Byt.nil (w : World) (B : Nat) : Byt w B none 0 [] := ⟨fun _ => rfl, Nat.le_refl _, fun i hi => absurd hi (by simp)⟩
theorem q22 (w : World) (a : Option Addr) (n c n' c' : Nat) : (binOp .eql 22 (.slice a n c) (.slice none n' c')).run Try.prog w = .ok (.bool a.isNone) w := Lib.run_eql_slice_nil w _ _ a n c n' c' Try.underlying22
theorem Byt.of_owns {w : World} {base : Nat} {A : Option Addr} {n c : Nat} {xs : List Int} (h : w.ownsRow base 5 1 (.slice A n c) n (xs.map (Value.int .u8))) : n = xs.length ∧ Byt w w.heap.size A c xs := by
  have hn : n = xs.length := by have := h.1; simp at this; omega
  refine ⟨hn, ?_⟩
  rcases owns_shape h (by decide) with ⟨h1, h2, _⟩ | ⟨g, cap, h1, _, hlt, h2, _⟩
  · cases h1
    exact ⟨fun _ => rfl, by omega, fun i hi => by omega⟩
  · cases h1
    refine ⟨(fun h => by cases h), by omega, fun i hi => ⟨g, 0, rfl, hlt, fun x hx => ?_⟩⟩
    have := h.cells (g := g) rfl i (.int .u8 x) (by simp [hx])
    rwa [show ((⟨g, 0, none⟩ : Addr).add i) = ⟨g, 0 + i, none⟩ by unfold Addr.add; split <;> simp_all] at this
theorem Byt.src {w : World} {B : Nat} {A : Option Addr} {c : Nat} {xs : List Int} (h : Byt w B A c xs) : Src w A xs.length c (xs.map (Value.int .u8)) := by
  cases xs with
  | nil => exact .inl ⟨rfl, rfl, h.1⟩
  | cons x xs =>
    obtain ⟨b, off, hA, _, _⟩ := h.2.2 0 (by simp)
    refine .inr ⟨_, hA, fun j u hj => ?_⟩
    rw [List.getElem?_map] at hj
    obtain ⟨y, hy, rfl⟩ := Option.map_eq_some_iff.1 hj
    obtain ⟨b', off', hA', _, h3⟩ := h.2.2 j (List.getElem?_eq_some_iff.1 hy).1
    rw [hA] at hA'
    cases hA'
    rw [show ((⟨b, off, none⟩ : Addr).add j) = ⟨b, off + j, none⟩ by unfold Addr.add; split <;> simp_all]
    exact h3 y hy
theorem bytes_one (xs : List Int) : ∀ u ∈ xs.map (Value.int .u8), u.oneCell' = true := by
  intro u hu
  obtain ⟨x, _, rfl⟩ := List.mem_map.1 hu
  rfl
theorem Try.info5 : (Try.prog.info? 5).map (fun i => (i.zero, i.size, i.bytes)) = some (some (.int .u8 0), 1, 1) := by kernel_rfl

/-- an owned row of bytes -/
def Own8 (w : World) (base : Nat) (v : Value) (xs : List Int) : Prop := w.ownsRow base 5 1 v xs.length (xs.map (Value.int .u8))
theorem Own8.raw {w : World} {base : Nat} {v : Value} {xs : List Int} (h : Own8 w base v xs) : w.ownsRow base 5 1 v xs.length (xs.map (Value.int .u8)) := h
theorem Own8.nil (w : World) (base : Nat) : Own8 w base (.slice none 0 0) [] := World.ownsRow_nil _ _ _ _
theorem Own8.val {w : World} {base : Nat} {v : Value} {xs : List Int} (h : Own8 w base v xs) : ∃ A c, v = .slice A xs.length c ∧ Byt w w.heap.size A c xs := by
  obtain ⟨A, c, rfl⟩ := owns_len h
  exact ⟨A, c, rfl, (Byt.of_owns h).2⟩
theorem Own8.snoc {w : World} {base : Nat} {v : Value} {xs : List Int} {x : Int} (h : w.ownsRow base 5 1 v (xs.length + 1) (xs.map (Value.int .u8) ++ [.int .u8 x])) : Own8 w base v (xs ++ [x]) := by
  unfold Own8; simpa using h
theorem Own8.app {w : World} {base n : Nat} {v : Value} {xs ys : List Int} (hn : n = ys.length) (h : w.ownsRow base 5 1 v (xs.length + n) (xs.map (Value.int .u8) ++ ys.map (Value.int .u8))) : Own8 w base v (xs ++ ys) := by
  subst hn; unfold Own8; simpa using h

set_option maxRecDepth 100000 in
theorem clone_any (A : Option Addr) (n c : Nat) (xs : List Int) (w : World) (hn : xs.length = n) (hl : n ≤ 100000000) (hA : Byt w w.heap.size A c xs) :
    Calls Try.prog 137 #[.slice A n c] w fun e w' => ∃ v, e = .returned v ∧ Own8 w' w.heap.size v xs ∧ Below w.heap.size w w' := by
  subst hn
  cases A with
  | none =>
    have hc0 : c = 0 := hA.1 rfl
    subst hc0
    have hx : xs = [] := by have := hA.2.1; exact List.eq_nil_of_length_eq_zero (by omega)
    subst hx
    have hq := q22
    go_enter Try.func137, Try.ntmps137
    go_wp2_with fail
    go_ret
    exact ⟨_, rfl, Own8.nil _ _, Below.refl _ _⟩
  | some ad =>
    have hb := below1 w (.cells #[] 5)
    have hsrc := Lib.hid (hA.below hb (Nat.le_refl _)).src
    have hown := Lib.hid (World.ownsRow_made (e := 5) (size := 1) (base := w.heap.size) w #[] 0 (Nat.le_refl _) (by unfold maxLen; omega) rfl)
    have hs := Lib.hid (show w.heap.size ≤ (w.alloc (.cells #[] 5)).heap.size by simp)
    generalize hN : xs.length = N at *
    have HN := Lib.hid hN
    clear hN
    have hq := q22
    go_enter Try.func137, Try.ntmps137
    go_wp2_with ((with_reducible refine wpList_append_src (o := ⟨some 7, _, _, _, _, _⟩) rfl _ _ 22 rfl w.heap.size 5 (.int .u8 0) 1 1 Try.underlying22 Try.info5 rfl (by decide) _ _ [] ?_ hown.out (some ad) N c (xs.map (Value.int .u8)) ?_ ?_ hsrc.out (bytes_one _) ?_ ?_ hs.out ?_); (· rfl); (· rfl); (· simp [HN.out]); (· unfold maxLen; omega); (· omega); intro v1 w1 hown1 _ hb1)
    go_ret
    exact ⟨_, rfl, Own8.app HN.out.symm (xs := []) (by simpa using hown1), hb.trans hb1⟩

theorem or128_all : (List.range 256).all (fun x => (x ||| 128) == 128 + x % 128) = true := by decide +kernel
theorem or128 {x : Nat} (h : x < 256) : x ||| 128 = 128 + x % 128 := eq_of_beq (List.all_eq_true.1 or128_all x (List.mem_range.2 h))
theorem u8_nat {n : Nat} (h : n < 256) : IntKind.u8.wrap (n : Int) = n := by
  rw [IntKind.wrap_u8]; omega
theorem or_u8 {x : Nat} (h : x < 256) : bits .or .u8 (x : Int) 128 = ((128 + x % 128 : Nat) : Int) := by
  have e1 : BitVec.ofInt IntKind.u8.bits (x : Int) = BitVec.ofNat 8 x := BitVec.ofInt_natCast (w := 8) x
  have e2 : BitVec.ofInt IntKind.u8.bits (128 : Int) = BitVec.ofNat 8 128 := rfl
  unfold bits
  simp only [e1, e2]
  show IntKind.u8.wrap (((BitVec.ofNat 8 x ||| BitVec.ofNat 8 128).toNat : Nat) : Int) = _
  rw [BitVec.toNat_or, BitVec.toNat_ofNat, BitVec.toNat_ofNat, Nat.mod_eq_of_lt (show x < 2 ^ 8 by omega), show 128 % 2 ^ 8 = 128 from rfl, or128 h, u8_nat (by omega)]
theorem or_u8m (m : Nat) : bits .or .u8 ((m : Int) % 256) 128 = ((128 + m % 128 : Nat) : Int) := by
  have e : ((m : Int) % 256) = ((m % 256 : Nat) : Int) := by omega
  rw [e, or_u8 (Nat.mod_lt _ (by decide)), show m % 256 % 128 = m % 128 by omega]

/-- a number in groups of seven bits -/
def putV (n : Nat) : List Int := if n ≤ 127 then [(n : Int)] else ((128 + n % 128 : Nat) : Int) :: putV (n / 128)
termination_by n
decreasing_by omega
theorem putV_small {n : Nat} (h : n ≤ 127) : putV n = [(n : Int)] := by rw [putV, if_pos h]
theorem putV_more {n : Nat} (h : ¬ n ≤ 127) : putV n = ((128 + n % 128 : Nat) : Int) :: putV (n / 128) := by rw [putV, if_neg h]
theorem putV_len : ∀ (k n : Nat), n < 128 ^ (k + 1) → (putV n).length ≤ k + 1
  | 0, n, h => by rw [putV_small (by omega)]; simp
  | k + 1, n, h => by
    by_cases h1 : n ≤ 127
    · rw [putV_small h1]; simp
    · rw [putV_more h1]
      have h2 : n / 128 < 128 ^ (k + 1) := by
        rw [Nat.pow_succ] at h
        exact Nat.div_lt_of_lt_mul (by rw [Nat.mul_comm]; exact h)
      have := putV_len k (n / 128) h2
      simp only [List.length_cons]
      omega
theorem putV_len10 {n : Nat} (h : n < 18446744073709551616) : (putV n).length ≤ 10 := putV_len 9 n (Nat.lt_trans h (by decide))

set_option maxRecDepth 100000 in
theorem put_any (A : Option Addr) (k c : Nat) (xs : List Int) (n : Nat) (w : World) (hk : xs.length = k) (hn : n < 18446744073709551616) (hl : k ≤ 10000000) (hA : Byt w w.heap.size A c xs) :
    Calls Try.prog 109 #[.slice A k c, .int .u64 n] w fun e w' => ∃ v, e = .returned v ∧ Own8 w' w.heap.size v (xs ++ putV n) ∧ Below w.heap.size w w' := by
  have HC := Lib.hid (clone_any A k c xs w hk (by omega) hA)
  have H10 := putV_len10 hn
  have HK := Lib.hid hk
  clear hk
  go_enter Try.func109, Try.ntmps109
  go_wp2_with fail
  refine HC.out.mono ?_
  rintro e w1 ⟨v1, rfl, hown1, hb1⟩
  go_wp2_with fail
  go_loopw [1, 5] (fun j v wr => ∃ (m : Nat) (ys : List Int), j = .int .u64 m ∧ m < 18446744073709551616 ∧ ys ++ putV m = putV n ∧ Own8 wr w.heap.size v (xs ++ ys) ∧ Below w.heap.size w wr) (fun j _ _ => (intOf j).toNat)
  case atStart => exact ⟨n, [], rfl, hn, rfl, by simpa using hown1, hb1⟩
  case round =>
    obtain ⟨m, ys, rfl, hm, hys, hown, hb⟩ := hrel
    have hyl : ys.length + (putV m).length ≤ 10 := by rw [← List.length_append, hys]; exact H10
    have hxy : (xs ++ ys).length ≤ 10000010 := by rw [List.length_append, HK.out]; omega
    have hown := Lib.hid hown.raw
    by_cases h1 : m ≤ 127
    · have hg : decide ((127 : Int) < (m : Int)) = false := by simp; omega
      go_wp2_with ((with_reducible refine wpList_append_one (o := ⟨some 22, _, _, _, _, _⟩) rfl _ _ 22 rfl w.heap.size 5 (.int .u8 0) 1 Try.underlying22 Try.info5 rfl _ (xs ++ ys).length _ ?_ hown.out _ wr.heap.size ?_ ?_ ?_ ?_ ?_ hb.size ?_); (· rfl); (· rfl); (· rfl); (· rfl); (· unfold maxLen; omega); (· omega); intro v2 w2 hown2 hb2)
      go_ret
      refine ⟨_, rfl, ?_, hb.trans hb2⟩
      rw [← hys, putV_small h1, ← List.append_assoc]
      exact Own8.snoc hown2
    · have hg : decide ((127 : Int) < (m : Int)) = true := by simp; omega
      go_wp2_with ((with_reducible refine wpList_append_one (o := ⟨some 17, _, _, _, _, _⟩) rfl _ _ 22 rfl w.heap.size 5 (.int .u8 0) 1 Try.underlying22 Try.info5 rfl _ (xs ++ ys).length _ ?_ hown.out _ wr.heap.size ?_ ?_ ?_ ?_ ?_ hb.size ?_); (· rfl); (· rfl); (· rfl); (· rfl); (· unfold maxLen; omega); (· omega); intro v2 w2 hown2 hb2)
      go_roundw
      case rel =>
        refine ⟨m / 128, ys ++ [((128 + m % 128 : Nat) : Int)], by go_num, by omega, by rw [List.append_assoc, ← hys, putV_more h1]; rfl, ?_, hb.trans hb2⟩
        rw [← List.append_assoc]
        rw [or_u8m] at hown2
        exact Own8.snoc hown2
      case measure => simp [intOf]; omega
end Go.Proofs.Ytnmhmabifeapkaa.Ord
/- Walks of varint.PutBytes, varint.New; frames by a list of blocks. -/
namespace Go.Proofs.Ytnmhmabifeapkaa.Ord
open Go.RowKit
set_option linter.unusedVariables false

set_option maxRecDepth 100000 in
theorem putBytes_any (A A2 : Option Addr) (k c k2 c2 : Nat) (xs ys : List Int) (w : World) (hk : xs.length = k) (hk2 : ys.length = k2) (hl : k ≤ 1000000) (hl2 : k2 ≤ 1000000) (hA : Byt w w.heap.size A c xs) (hA2 : Byt w w.heap.size A2 c2 ys) :
    Calls Try.prog 142 #[.slice A k c, .slice A2 k2 c2] w fun e w' => ∃ v, e = .returned v ∧ Own8 w' w.heap.size v (xs ++ putV k2 ++ ys) ∧ Below w.heap.size w w' := by
  have HP := Lib.hid (put_any A k c xs k2 w hk (by omega) (by omega) hA)
  have hpl := putV_len10 (n := k2) (by omega)
  have hxl : (xs ++ putV k2).length ≤ 1000010 := by rw [List.length_append]; omega
  have HK2 := Lib.hid hk2
  clear hk2
  have HA2 := Lib.hid hA2
  clear hA2
  go_enter Try.func142, Try.ntmps142
  go_wp2_with fail
  refine HP.out.mono ?_
  rintro e w1 ⟨v1, rfl, hown1, hb1⟩
  have hown := Lib.hid hown1.raw
  have hsrc := Lib.hid (HA2.out.below hb1 (Nat.le_refl _)).src
  go_wp2_with ((with_reducible refine wpList_append_src (o := ⟨some 11, _, _, _, _, _⟩) rfl _ _ 22 rfl w.heap.size 5 (.int .u8 0) 1 1 Try.underlying22 Try.info5 rfl (by decide) _ (xs ++ putV k2).length _ ?_ hown.out A2 k2 c2 (ys.map (Value.int .u8)) ?_ ?_ ?_ (bytes_one _) ?_ ?_ hb1.size ?_); (· rfl); (· rfl); (· simp [HK2.out]); (· have := hsrc.out; rw [HK2.out] at this; exact this); (· unfold maxLen; omega); (· omega); intro v2 w2 hown2 _ hb2)
  go_ret
  exact ⟨_, rfl, Own8.app HK2.out.symm hown2, hb1.trans hb2⟩
end Go.Proofs.Ytnmhmabifeapkaa.Ord
/- Frames by a list of blocks; the codec's part, written. -/
namespace Go.Proofs.Ytnmhmabifeapkaa.Ord
open Go.RowKit
set_option linter.unusedVariables false

/-- all blocks that were there, but some, are as they were -/
structure Kept (L : List Nat) (w w' : World) : Prop where
  os : w'.os = w.os
  tape : w'.tape = w.tape
  output : w'.output = w.output
  size : w.heap.size ≤ w'.heap.size
  block : ∀ k, k < w.heap.size → k ∉ L → w'.heap[k]? = w.heap[k]?
theorem Kept.refl (L : List Nat) (w : World) : Kept L w w := ⟨rfl, rfl, rfl, Nat.le_refl _, fun _ _ _ => rfl⟩
theorem Kept.trans {L : List Nat} {a b c : World} (h : Kept L a b) (k : Kept L b c) : Kept L a c :=
  ⟨k.os.trans h.os, k.tape.trans h.tape, k.output.trans h.output, Nat.le_trans h.size k.size, fun i hi hn => (k.block i (Nat.lt_of_lt_of_le hi h.size) hn).trans (h.block i hi hn)⟩
theorem Kept.mono {L L' : List Nat} {a b : World} (h : Kept L a b) (hL : ∀ k ∈ L, k ∈ L') : Kept L' a b := ⟨h.os, h.tape, h.output, h.size, fun i hi hn => h.block i hi fun hm => hn (hL i hm)⟩
theorem Kept.of_below {L : List Nat} {a b : World} (h : Below a.heap.size a b) : Kept L a b := ⟨h.os, h.tape, h.output, h.size, fun i hi _ => h.block i hi⟩
theorem Kept.below {L : List Nat} {a b : World} {B : Nat} (h : Kept L a b) (hB : B ≤ a.heap.size) (hL : ∀ k ∈ L, B ≤ k) : Below B a b :=
  ⟨h.os, h.tape, h.output, h.size, fun i hi => h.block i (by omega) fun hm => absurd (hL i hm) (by omega)⟩
theorem Kept.drew {L : List Nat} {a b : World} (h : Kept L a b) : Kept L a b.drew := ⟨h.os, h.tape, h.output, h.size, h.block⟩
theorem Kept.alloc {L : List Nat} {a b : World} (h : Kept L a b) (o : Obj) : Kept L a (b.alloc o) :=
  h.trans (Kept.of_below (below1 b o))
theorem Kept.setCell {L : List Nat} {a b : World} (h : Kept L a b) {p : Addr} (hp : p.block ∈ L) (v : Value) : Kept L a (b.setCell p v) := by
  refine h.trans ⟨rfl, rfl, rfl, by simp, fun k hk hn => ?_⟩
  exact Go.Deep.blk_setCell_other _ _ _ _ (fun e => hn (by rw [e]; exact hp))
theorem Kept.row {L : List Nat} {a b : World} (h : Kept L a b) {G n : Nat} {t : TypeId} {f : Nat → Value} (hG : G ∉ L) (hr : a.rowIs G t n f) : b.rowIs G t n f :=
  World.rowIs.of_block hr (h.block G (World.rowIs.lt hr) hG)
theorem Kept.byt {L : List Nat} {a b : World} (h : Kept L a b) {A : Option Addr} {c : Nat} {xs : List Int} (hA : Byt a a.heap.size A c xs) (hn : ∀ x off, A = some ⟨x, off, none⟩ → x ∉ L) : Byt b b.heap.size A c xs := by
  refine ⟨hA.1, hA.2.1, fun i hi => ?_⟩
  obtain ⟨x, off, h1, h2, h3⟩ := hA.2.2 i hi
  refine ⟨x, off, h1, Nat.lt_of_lt_of_le h2 h.size, fun y hy => ?_⟩
  rw [World.cell?_of_block (w := a) (h.block x h2 (hn x off h1))]
  exact h3 y hy

def sBytes (s : ByteArray) : List Int := s.data.toList.map fun b => (b.toNat : Int)
theorem sBytes_len (s : ByteArray) : (sBytes s).length = s.size := by unfold sBytes; rw [List.length_map, Array.length_toList]; rfl
theorem sBytes_cells (s : ByteArray) : Lib.strCells s = (sBytes s).map (Value.int .u8) := by simp [Lib.strCells, sBytes, List.map_map, Function.comp_def]

theorem conv_str (w : World) (s : ByteArray) : ∃ c w', (convert 9 22 (.string s)).run Try.prog w = .ok (.slice (some ⟨w.heap.size, 0, none⟩) s.size c) w' ∧ Byt w' w'.heap.size (some ⟨w.heap.size, 0, none⟩) c (sBytes s) ∧ Below w.heap.size w w' := by
  refine ⟨_, Lib.bytesWorld w 5 s, Lib.run_convert_string_bytes w 9 22 5 s Try.underlying9 Try.underlying22 Try.underlying5, ⟨(fun h => by cases h), by rw [sBytes_len]; exact grownCap_ge _ _ _ _, fun i hi => ⟨w.heap.size, 0, rfl, by rw [Lib.bytesWorld_size]; omega, fun x hx => ?_⟩⟩, ⟨rfl, rfl, rfl, by rw [Lib.bytesWorld_size]; omega, fun k hk => Lib.bytesWorld_at_old w 5 s k hk⟩⟩
  rw [sBytes_len] at hi
  rw [Nat.zero_add, Lib.bytesWorld_cell w 5 s i hi]
  unfold sBytes at hx
  rw [List.getElem?_map] at hx
  obtain ⟨b, hb, rfl⟩ := Option.map_eq_some_iff.1 hx
  simp [List.getD, hb]
def codF (c r out : Value) (bad : Bool) : Nat → Value
  | 0 => c
  | 1 => r
  | 2 => out
  | _ => .bool bad
/-- a slice of bytes in a value, in blocks from B on -/
def SlB (w : World) (B : Nat) (v : Value) (xs : List Int) : Prop := ∃ A c, v = .slice A xs.length c ∧ Byt w w.heap.size A c xs ∧ ∀ b off, A = some ⟨b, off, none⟩ → B ≤ b
theorem SlB.of_own {w : World} {base : Nat} {v : Value} {xs : List Int} (h : Own8 w base v xs) : SlB w base v xs := by
  obtain ⟨A, c, rfl, hb⟩ := h.val
  refine ⟨A, c, rfl, hb, fun b off hA => ?_⟩
  subst hA
  rcases owns_shape h.raw (by decide) with ⟨h1, _, _⟩ | ⟨g, cap, h1, h2, _⟩
  · cases h1
  · cases h1; exact h2
theorem f142_name : (Try.f142.name == "runtime.NumGoroutine") = false := by kernel_rfl
theorem f142_body : Try.f142.body.isSome = true := by kernel_rfl

theorem part_mid {X G : Nat} {t : TypeId} {n : Nat} {f : Nat → Value} {c : Value} {A A6 : Option Addr} {ca c6 L : Nat} {o : Nat} {xs : List Int} {bad : Bool} {w w6 : World} {base : Nat} (hL : xs.length = L)
    (hG : w.rowIs G t n f) (hXG : X ≠ G) (hX : w.rowIs X 149 4 (codF c (.pointer none) (.slice A o ca) bad)) (hb6 : Below w.heap.size w w6) (hown : Own8 w6 base (.slice A6 L c6) xs) (hbase : w.heap.size ≤ base) :
    ∃ w7, w7 = w6.setCell ⟨X, 2, none⟩ (.slice A6 L c6) ∧ w7.rowIs X 149 4 (codF c (.pointer none) (.slice A6 L c6) bad) ∧ w7.rowIs G t n f ∧ Kept [X] w w7 ∧ SlB w7 w.heap.size (.slice A6 L c6) xs := by
  have hXlt := World.rowIs.lt hX
  have hX6 : w6.rowIs X 149 4 (codF c (.pointer none) (.slice A o ca) bad) := World.rowIs.of_block hX (hb6.block X hXlt)
  have hG6 : w6.rowIs G t n f := World.rowIs.of_block hG (hb6.block G (World.rowIs.lt hG))
  have hK : Kept [X] w (w6.setCell ⟨X, 2, none⟩ (.slice A6 L c6)) := (Kept.of_below hb6).setCell (by simp) _
  refine ⟨_, rfl, World.rowIs.congr (World.rowIs.set hX6 2 (.slice A6 L c6)) fun i hi => ?_, World.rowIs.setOther hG6 (by exact fun e => hXG e.symm) _, hK, ?_⟩
  · match i, hi with
    | 0, _ => rfl
    | 1, _ => rfl
    | 2, _ => rfl
    | 3, _ => rfl
  · obtain ⟨A', c', he, hby, hlo⟩ := SlB.of_own hown
    refine ⟨A', c', he, ?_, fun b off hA => Nat.le_trans hbase (hlo b off hA)⟩
    have hk2 : Kept [X] w6 (w6.setCell ⟨X, 2, none⟩ (.slice A6 L c6)) := (Kept.refl _ _).setCell (by simp) _
    exact hk2.byt hby fun x off hA hm => by
      have h1 := hlo x off hA
      simp at hm
      omega

theorem part_end {X : Nat} {c r v : Value} {b bad : Bool} {w w7 w8 : World} {xs : List Int} (hX7 : w7.rowIs X 149 4 (codF c r v bad)) (hXw : X < w.heap.size) (hK7 : Kept [X] w w7) (hS7 : SlB w7 w.heap.size v xs) (hb8 : Below w7.heap.size w7 w8) :
    (w8.setCell ⟨X, 3, none⟩ (.bool b)).rowIs X 149 4 (codF c r v b) ∧ SlB (w8.setCell ⟨X, 3, none⟩ (.bool b)) w.heap.size v xs ∧ Kept [X] w (w8.setCell ⟨X, 3, none⟩ (.bool b)) := by
  have hX8 : w8.rowIs X 149 4 (codF c r v bad) := World.rowIs.of_block hX7 (hb8.block X (World.rowIs.lt hX7))
  have hK : Kept [X] w7 (w8.setCell ⟨X, 3, none⟩ (.bool b)) := (Kept.of_below hb8).setCell (by simp) _
  refine ⟨World.rowIs.congr (World.rowIs.set hX8 3 (.bool b)) fun i hi => ?_, ?_, hK7.trans hK⟩
  · match i, hi with
    | 0, _ => rfl
    | 1, _ => rfl
    | 2, _ => rfl
    | 3, _ => rfl
  · obtain ⟨A', c', he, hby, hlo⟩ := hS7
    refine ⟨A', c', he, ?_, hlo⟩
    exact hK.byt hby fun x off hA hm => by
      have h1 := hlo x off hA
      simp at hm
      omega

set_option maxRecDepth 100000 in
set_option maxHeartbeats 4000000 in
theorem part_write (X G k : Nat) (t : TypeId) (n : Nat) (f : Nat → Value) (s : ByteArray) (c : Value) (A : Option Addr) (ca : Nat) (out : List Int) (bad al : Bool) (N : Nat) (w : World)
    (hG : w.rowIs G t n f) (hk : k < n) (hf : f k = .string s) (hXG : X ≠ G) (hX : w.rowIs X 149 4 (codF c (.pointer none) (.slice A out.length ca) bad)) (hA : Byt w w.heap.size A ca out) (hAX : ∀ b off, A = some ⟨b, off, none⟩ → b ≠ X)
    (eg : ∀ args w, (callFunc N args).run Try.prog w = .ok (.enter N args) w) (hN : ∀ w, Calls Try.prog N #[.string s] w fun e w' => e = .returned (.bool al) ∧ Below w.heap.size w w') (hs : s.size ≤ 100000) (hol : out.length ≤ 500000) :
    Calls Try.prog 126 #[.pointer (some ⟨X, 0, none⟩), .pointer (some ⟨G, k, none⟩), .func (.func N) #[] #[]] w fun e w' =>
      e = .returned (.tuple #[]) ∧ ∃ v, w'.rowIs X 149 4 (codF c (.pointer none) v (bad || !al)) ∧ SlB w' w.heap.size v (out ++ putV s.size ++ sBytes s) ∧ Kept [X] w w' := by
  have hc1 : w.cell? ⟨X, 1, none⟩ = some (.pointer none) := World.rowIs.cell hX (i := 1) (by decide)
  have hc2 : w.cell? ⟨X, 2, none⟩ = some (.slice A out.length ca) := World.rowIs.cell hX (i := 2) (by decide)
  have hc3 : w.cell? ⟨X, 3, none⟩ = some (.bool bad) := World.rowIs.cell hX (i := 3) (by decide)
  have hcs : w.cell? ⟨G, k, none⟩ = some (.string s) := by rw [← hf]; exact World.rowIs.cell hG hk
  have HX := Lib.hid hX
  have HG := Lib.hid hG
  have HA := Lib.hid hA
  clear hX hG hA
  obtain ⟨L, hL⟩ : ∃ L, (out ++ putV s.size ++ sBytes s).length = L := ⟨_, rfl⟩
  have HL := Lib.hid hL
  clear hL
  have HN := Lib.hid hN
  clear hN
  go_enter Try.func126, Try.ntmps126
  go_wp2_with fail
  obtain ⟨c2, W5, hconv, hby5, hb5⟩ := conv_str w.drew s
  have hXlt : X < w.drew.heap.size := World.rowIs.lt HX.out
  have hX5 : W5.rowIs X 149 4 (codF c (.pointer none) (.slice A out.length ca) bad) := World.rowIs.of_block HX.out (hb5.block X hXlt)
  have h52 : W5.cell? ⟨X, 2, none⟩ = some (.slice A out.length ca) := World.rowIs.cell hX5 (i := 2) (by decide)
  have hA5 := Lib.hid (HA.out.below (B := w.heap.size) (w' := W5) (B' := w.heap.size) ⟨hb5.os, hb5.tape, hb5.output, hb5.size, hb5.block⟩ (Nat.le_refl _) |>.mono hb5.size)
  have HX5 := Lib.hid hX5
  have HB5 := Lib.hid hby5
  have hsl := sBytes_len s
  have HC := Lib.hid (putBytes_any A (some ⟨w.drew.heap.size, 0, none⟩) out.length ca s.size c2 out (sBytes s) W5 rfl hsl (by omega) (by omega) hA5.out HB5.out)
  clear hX5 hby5
  go_region_law ((with_reducible refine step_call_any (o := ⟨some 22, _, _, _, _, _⟩) rfl 142 _ _ rfl #[.slice A out.length ca, .slice (some ⟨w.drew.heap.size, 0, none⟩) s.size c2] ?_ Try.f142 Try.func142 f142_name f142_body (fun u w6 => Own8 w6 W5.heap.size u (out ++ putV s.size ++ sBytes s) ∧ Below W5.heap.size W5 w6) ?_ ?_); (· simp only [List.map_toArray, List.map_cons, List.map_nil]; rfl); (· exact HC.out.mono fun e w' ⟨v, h1, h2, h3⟩ => ⟨v, h1, h2, h3⟩); rintro u6 w6 ⟨hown6, hb6⟩; obtain ⟨A6, c6, rfl, hby6⟩ := hown6.val; rw [HL.out]; rw [HL.out] at hown6; have hX6 := Lib.hid (World.rowIs.of_block HX5.out (hb6.block X (World.rowIs.lt HX5.out))); have h62 : w6.cell? ⟨X, 2, none⟩ = some (.slice A out.length ca) := World.rowIs.cell hX6.out (i := 2) (by decide); have hf62 : w6.frozen? ⟨X, 2, none⟩ = false := World.rowIs.frozen hX6.out 2)
  all_goals
    have hbw6 : Below w.heap.size w w6 := by
      have h1 : Below w.heap.size w W5 := ⟨hb5.os, hb5.tape, hb5.output, hb5.size, hb5.block⟩
      exact h1.trans (hb6.mono h1.size)
    obtain ⟨w7, hw7, hX7, hG7, hK7, hS7⟩ := part_mid HL.out HG.out hXG HX.out hbw6 hown6 (by have := hb5.size; exact this)
    rw [← hw7]
    clear hw7 h62 hf62 hX6 hown6 hby6 hb6 hbw6
    have h73 : w7.cell? ⟨X, 3, none⟩ = some (.bool bad) := World.rowIs.cell hX7 (i := 3) (by decide)
    have hf73 : w7.frozen? ⟨X, 3, none⟩ = false := World.rowIs.frozen hX7 3
    have h7s : w7.cell? ⟨G, k, none⟩ = some (.string s) := by rw [← hf]; exact World.rowIs.cell hG7 hk
    have HX7 := Lib.hid hX7
    have HK7 := Lib.hid hK7
    have HS7 := Lib.hid hS7
    clear hX7 hG7 hK7 hS7
    have hXw := World.rowIs.lt HX.out
    cases bad with
    | true =>
      go_wp2_with fail
      go_end0
      obtain ⟨h1, h2, h3⟩ := part_end (b := true) HX7.out hXw HK7.out HS7.out (Below.refl _ _)
      exact ⟨rfl, _, h1, h2, h3⟩
    | false =>
      go_wp2_with fail
      refine (HN.out w7).mono ?_
      rintro e w8 ⟨rfl, hb8⟩
      have hX8 := World.rowIs.of_block HX7.out (hb8.block X (World.rowIs.lt HX7.out))
      have h83 : w8.cell? ⟨X, 3, none⟩ = some (.bool false) := World.rowIs.cell hX8 (i := 3) (by decide)
      have hf83 : w8.frozen? ⟨X, 3, none⟩ = false := World.rowIs.frozen hX8 3
      clear hX8
      go_wp2_with fail
      go_end0
      obtain ⟨h1, h2, h3⟩ := part_end (b := !al) HX7.out hXw HK7.out HS7.out hb8
      exact ⟨rfl, _, h1, h2, h3⟩
end Go.Proofs.Ytnmhmabifeapkaa.Ord
/- Walks of varint.Get at small numbers, GetBytes, the reader's take. -/
namespace Go.Proofs.Ytnmhmabifeapkaa.Ord
open Go.RowKit
set_option linter.unusedVariables false

/-- what Get answers for the bytes of a number -/
def GetOk (n : Nat) : Prop := ∀ (A : Option Addr) (k c : Nat) (rest : List Int) (w : World), (putV n ++ rest).length = k → k ≤ 1000000 → Byt w w.heap.size A c (putV n ++ rest) →
  Calls Try.prog 153 #[.slice A k c] w fun e w' => e = .returned (.tuple #[.int .u64 n, .int .i64 (putV n).length, .int .i64 0]) ∧ Below w.heap.size w w'

theorem Byt.at {w : World} {B : Nat} {A : Option Addr} {c : Nat} {xs : List Int} (h : Byt w B A c xs) {i : Nat} (hi : i < xs.length) : ∃ b off, A = some ⟨b, off, none⟩ ∧ b < B ∧ w.cell? ⟨b, off + i, none⟩ = some (.int .u8 (xs.getD i 0)) := by
  obtain ⟨b, off, h1, h2, h3⟩ := h.2.2 i hi
  exact ⟨b, off, h1, h2, h3 _ (by simp [List.getD, hi])⟩

theorem or_zero {n : Nat} (hn : n ≤ 127) : bits .or .u64 0 (n : Int) = (n : Int) := by
  have e1 : BitVec.ofInt IntKind.u64.bits (n : Int) = BitVec.ofNat 64 n := BitVec.ofInt_natCast (w := 64) n
  have e2 : BitVec.ofInt IntKind.u64.bits (0 : Int) = BitVec.ofNat 64 0 := rfl
  unfold bits
  simp only [e1, e2]
  show IntKind.u64.wrap (((BitVec.ofNat 64 0 ||| BitVec.ofNat 64 n).toNat : Nat) : Int) = _
  rw [BitVec.toNat_or, BitVec.toNat_ofNat, BitVec.toNat_ofNat, Nat.mod_eq_of_lt (show n < 2 ^ 64 by omega), show 0 % 2 ^ 64 = 0 from rfl, Nat.zero_or, IntKind.wrap_u64]
  omega

set_option maxRecDepth 100000 in
set_option maxHeartbeats 1000000 in
theorem get_small {n : Nat} (hn : n ≤ 127) : GetOk n := by
  intro A k c rest w hk hl hA
  rw [putV_small hn] at hk hA ⊢
  obtain ⟨b, off, rfl, hb, hc⟩ := hA.at (i := 0) (by simp)
  simp only [Nat.add_zero, List.cons_append, List.getD_cons_zero] at hc
  have hk1 : 1 ≤ k := by rw [← hk]; simp
  clear hk hA
  have h1 : decide ((0 : Int) < (k : Int)) = true := by simp; omega
  have h2 : decide ((n : Int) < 128) = true := by simp; omega
  have h3 : decide ((1 : Int) < (n : Int)) = decide ((1 : Int) < (n : Int)) := rfl
  go_enter Try.func153, Try.ntmps153
  go_wp2_with fail
  go_loopw [2, 9] (fun a i wr => a = .int .u64 0 ∧ i = .int .i64 0 ∧ wr = w) (fun _ _ _ => 0)
  case atStart => exact ⟨rfl, rfl, rfl⟩
  case round =>
    obtain ⟨rfl, rfl, rfl⟩ := hrel
    go_wp2_with fail
    rw [or_zero hn]
    go_ret3
    exact ⟨rfl, Below.refl _ _⟩

set_option maxRecDepth 100000 in
theorem bclone_any (A : Option Addr) (n c : Nat) (xs : List Int) (w : World) (hn : xs.length = n) (hl : n ≤ 100000000) (hA : Byt w w.heap.size A c xs) :
    Calls Try.prog 156 #[.slice A n c] w fun e w' => ∃ v, e = .returned v ∧ Own8 w' w.heap.size v xs ∧ Below w.heap.size w w' := by
  subst hn
  cases A with
  | none =>
    have hc0 : c = 0 := hA.1 rfl
    subst hc0
    have hx : xs = [] := by have := hA.2.1; exact List.eq_nil_of_length_eq_zero (by omega)
    subst hx
    have hq := q22
    go_enter Try.func156, Try.ntmps156
    go_wp2_with fail
    go_ret
    exact ⟨_, rfl, Own8.nil _ _, Below.refl _ _⟩
  | some ad =>
    have hb := below1 w (.cells #[] 5)
    have hsrc := Lib.hid (hA.below hb (Nat.le_refl _)).src
    have hown := Lib.hid (World.ownsRow_made (e := 5) (size := 1) (base := w.heap.size) w #[] 0 (Nat.le_refl _) (by unfold maxLen; omega) rfl)
    have hs := Lib.hid (show w.heap.size ≤ (w.alloc (.cells #[] 5)).heap.size by simp)
    generalize hN : xs.length = N at *
    have HN := Lib.hid hN
    clear hN
    have hq := q22
    go_enter Try.func156, Try.ntmps156
    go_wp2_with ((with_reducible refine wpList_append_src (o := ⟨some 7, _, _, _, _, _⟩) rfl _ _ 22 rfl w.heap.size 5 (.int .u8 0) 1 1 Try.underlying22 Try.info5 rfl (by decide) _ _ [] ?_ hown.out (some ad) N c (xs.map (Value.int .u8)) ?_ ?_ hsrc.out (bytes_one _) ?_ ?_ hs.out ?_); (· rfl); (· rfl); (· simp [HN.out]); (· unfold maxLen; omega); (· omega); intro v1 w1 hown1 _ hb1)
    go_ret
    exact ⟨_, rfl, Own8.app HN.out.symm (xs := []) (by simpa using hown1), hb.trans hb1⟩

/-- a part of a slice of bytes -/
theorem Byt.part {w : World} {B b off c : Nat} {xs ys zs : List Int} (h : Byt w B (some ⟨b, off, none⟩) c (xs ++ ys ++ zs)) {m e : Nat} (hm : xs.length = m) (hc : ys.length ≤ e) {A : Option Addr} (hA : A ≠ none) (hA2 : 0 < e → A = some ⟨b, off + m, none⟩) : Byt w B A e ys := by
  subst hm
  refine ⟨fun h => absurd h hA, hc, fun i hi => ?_⟩
  obtain ⟨b', off', h1, h2, h3⟩ := h.2.2 (xs.length + i) (by simp; omega)
  cases h1
  refine ⟨b, off + xs.length, hA2 (by omega), h2, fun x hx => ?_⟩
  have := h3 x (by rw [List.append_assoc, List.getElem?_append_right (by omega), Nat.add_sub_cancel_left, List.getElem?_append_left hi]; exact hx)
  rwa [← Nat.add_assoc] at this

set_option maxRecDepth 100000 in
set_option maxHeartbeats 1000000 in
theorem getBytes_any (A : Option Addr) (k c most : Nat) (p rest : List Int) (w : World) (hget : GetOk p.length) (hk : (putV p.length ++ (p ++ rest)).length = k) (hl : k ≤ 1000000) (hm : p.length ≤ most) (hm2 : most ≤ 1000000) (hA : Byt w w.heap.size A c (putV p.length ++ (p ++ rest))) :
    Calls Try.prog 151 #[.slice A k c, .int .i64 most] w fun e w' => ∃ v, e = .returned (.tuple #[v, .int .i64 ((putV p.length).length + p.length : Nat), .int .i64 0]) ∧ Own8 w' w.heap.size v p ∧ Below w.heap.size w w' := by
  have HG := Lib.hid (hget A k c (p ++ rest) w hk hl hA)
  have hpos : 0 < (putV p.length).length := by
    by_cases h : p.length ≤ 127
    · rw [putV_small h]; simp
    · rw [putV_more h]; simp
  obtain ⟨b, off, hAe, hb, _⟩ := hA.at (i := 0) (by rw [List.length_append]; omega)
  subst hAe
  have HA := Lib.hid hA
  clear hA hget
  obtain ⟨n, hn⟩ : ∃ n, p.length = n := ⟨_, rfl⟩
  obtain ⟨m, hmm⟩ : ∃ m, (putV n).length = m := ⟨_, rfl⟩
  have hkk : m + n ≤ k := by rw [← hk, ← hmm, ← hn]; simp [List.length_append]
  rw [hn] at hpos HG hm
  rw [hmm] at hpos HG
  rw [hn, hmm]
  have HN := Lib.hid hn
  have HM := Lib.hid hmm
  have HK := Lib.hid hk
  clear hn hmm hk
  have hc : k ≤ c := by have := HA.out.2.1; rw [HK.out] at this; exact this
  have h1 : decide ((most : Int) < 0) = false := by simp
  have h2 : decide ((most : Int) < (n : Int)) = false := by simp; omega
  have h3 : decide ((k : Int) - (m : Int) < (n : Int)) = false := by simp; omega
  go_enter Try.func151, Try.ntmps151
  go_wp2_with fail
  refine HG.out.mono ?_
  rintro e w1 ⟨rfl, hb1⟩
  go_wp2_with fail
  all_goals
    refine (bclone_any _ _ _ p w1 ?_ (by omega) ?_).mono ?_
    · first | exact HN.out | (rw [HN.out]; omega)
    · have h5 := HA.out.below hb1 (Nat.le_refl _)
      rw [HN.out, ← List.append_assoc] at h5
      refine (h5.part (e := _) HM.out (by rw [HN.out]; omega) (by simp) (fun h => ?_)).mono hb1.size
      first | rfl | exact absurd h (by omega)
    · rintro e w2 ⟨v2, rfl, hown2, hb2⟩
      go_wp2_with fail
      go_ret3
      refine ⟨v2, ?_, by unfold Own8; exact owns_mono hown2.raw hb1.size, hb1.trans (hb2.mono hb1.size)⟩
      first | rfl | (simp; done) | (simp; omega)
end Go.Proofs.Ytnmhmabifeapkaa.Ord
/- Walks of the reader of numbers and bytes. -/
namespace Go.Proofs.Ytnmhmabifeapkaa.Ord
open Go.RowKit
set_option linter.unusedVariables false

def rdF (v : Value) : Nat → Value
  | 0 => .bool true
  | _ => v
/-- a slice of bytes in a value, in none of some blocks -/
def SlX (w : World) (N : List Nat) (v : Value) (xs : List Int) : Prop := ∃ A c, v = .slice A xs.length c ∧ Byt w w.heap.size A c xs ∧ ∀ b off, A = some ⟨b, off, none⟩ → b ∉ N
theorem SlX.of_slb {w : World} {B : Nat} {N : List Nat} {v : Value} {xs : List Int} (h : SlB w B v xs) (hN : ∀ k ∈ N, k < B) : SlX w N v xs := by
  obtain ⟨A, c, h1, h2, h3⟩ := h
  exact ⟨A, c, h1, h2, fun b off hA hm => by have := h3 b off hA; have := hN b hm; omega⟩
theorem SlX.kept {w w' : World} {N L : List Nat} {v : Value} {xs : List Int} (h : SlX w N v xs) (hk : Kept L w w') (hL : ∀ k ∈ L, k ∈ N) : SlX w' N v xs := by
  obtain ⟨A, c, h1, h2, h3⟩ := h
  exact ⟨A, c, h1, hk.byt h2 fun x off hA hm => h3 x off hA (hL x hm), h3⟩

set_option maxRecDepth 100000 in
theorem new_any (A : Option Addr) (k c : Nat) (xs : List Int) (w : World) (hk : xs.length = k) (hl : k ≤ 1000000) (hA : Byt w w.heap.size A c xs) :
    Calls Try.prog 134 #[.slice A k c] w fun e w' => ∃ R v, e = .returned (.pointer (some ⟨R, 0, none⟩)) ∧ w.heap.size ≤ R ∧ w'.rowIs R 196 2 (rdF v) ∧ (∀ NL : List Nat, (∀ k ∈ NL, k = R ∨ k < w.heap.size ∨ w'.heap.size ≤ k) → SlX w' NL v xs) ∧ Below w.heap.size w w' := by
  have HC := Lib.hid (clone_any A k c xs w hk (by omega) hA)
  go_enter Try.func134, Try.ntmps134
  go_wp2_with fail
  refine HC.out.mono ?_
  rintro e w1 ⟨v1, rfl, hown1, hb1⟩
  obtain ⟨A1, c1, rfl, hby1⟩ := hown1.val
  go_wp2_with fail
  go_ret
  have hlt : ∀ b off, A1 = some ⟨b, off, none⟩ → w.heap.size ≤ b ∧ b < w1.heap.size := fun b off hA => by
    rcases owns_shape hown1.raw (by decide) with ⟨h1, _, _⟩ | ⟨g, cap, h1, h0, h2, _⟩
    · simp at h1; simp [h1.1] at hA
    · simp at h1
      rw [h1.1] at hA
      cases hA
      exact ⟨h0, h2⟩
  refine ⟨_, .slice A1 k c1, rfl, hb1.size, World.rowIs_alloc w1 #[.bool true, .slice A1 k c1] 196 _ (fun i hi => ?_), (fun NL hN => ⟨A1, c1, by rw [hk], (hby1.below (below1 w1 _) (Nat.le_refl _)).mono (by simp), fun b off hA hm => by have h5 := hlt b off hA; have h6 := hN b hm; simp at h6; omega⟩), hb1.trans ((below1 w1 _).mono hb1.size)⟩
  match i, hi with
  | 0, _ => rfl
  | 1, _ => rfl

theorem take_end {R : Nat} {NL : List Nat} (hRN : R ∈ NL) {w w1 : World} {A' : Option Addr} {L c' : Nat} {v0 : Value} {rest : List Int} (hR1 : w1.rowIs R 196 2 (rdF v0)) (hbw : Below w.heap.size w w1) (hL : rest.length = L) (hby : Byt w1 w1.heap.size A' c' rest) (hne : ∀ b off, A' = some ⟨b, off, none⟩ → b ∉ NL) :
    (w1.setCell ⟨R, 1, none⟩ (.slice A' L c')).rowIs R 196 2 (rdF (.slice A' L c')) ∧ SlX (w1.setCell ⟨R, 1, none⟩ (.slice A' L c')) NL (.slice A' L c') rest ∧ Kept [R] w (w1.setCell ⟨R, 1, none⟩ (.slice A' L c')) := by
  have hk2 : Kept [R] w1 (w1.setCell ⟨R, 1, none⟩ (.slice A' L c')) := (Kept.refl _ _).setCell (by simp) _
  refine ⟨World.rowIs.congr (World.rowIs.set hR1 1 _) (fun i hi => ?_), ⟨A', c', by rw [hL], hk2.byt hby (fun x off hA hm => hne x off hA (by simp at hm; rw [hm]; exact hRN)), hne⟩, (Kept.of_below hbw).trans hk2⟩
  match i, hi with
  | 0, _ => rfl
  | 1, _ => rfl

set_option maxRecDepth 100000 in
set_option maxHeartbeats 1000000 in
theorem bytes_any (NL : List Nat) (R most : Nat) (hRN : R ∈ NL) (v : Value) (p rest : List Int) (w : World) (hget : GetOk p.length) (hl : (putV p.length ++ (p ++ rest)).length ≤ 1000000) (hm : p.length ≤ most) (hm2 : most ≤ 1000000)
    (hR : w.rowIs R 196 2 (rdF v)) (hv : SlX w NL v (putV p.length ++ (p ++ rest))) :
    Calls Try.prog 143 #[.pointer (some ⟨R, 0, none⟩), .int .i64 most] w fun e w' => ∃ vp v', e = .returned (.tuple #[vp, .int .i64 0]) ∧ Own8 w' w.heap.size vp p ∧ w'.rowIs R 196 2 (rdF v') ∧ SlX w' NL v' rest ∧ Kept [R] w w' := by
  obtain ⟨A, c, rfl, hA, hAR⟩ := hv
  have h0 : w.cell? ⟨R, 0, none⟩ = some (.bool true) := World.rowIs.cell hR (i := 0) (by decide)
  have h1 : w.cell? ⟨R, 1, none⟩ = some (.slice A (putV p.length ++ (p ++ rest)).length c) := World.rowIs.cell hR (i := 1) (by decide)
  obtain ⟨k, hk⟩ : ∃ k, (putV p.length ++ (p ++ rest)).length = k := ⟨_, rfl⟩
  have HR := Lib.hid hR
  have hbA := below1 w (.cells #[.int .i64 most] 3)
  have HG := Lib.hid (getBytes_any A k c most p rest (w.alloc (.cells #[.int .i64 most] 3)) hget hk (by omega) hm hm2 ((hA.below hbA (Nat.le_refl _)).mono (by simp)))
  have hc : k ≤ c := by have := hA.2.1; rw [hk] at this; exact this
  rw [hk] at h1 hl HR
  have HA := Lib.hid hA
  have hRlt := World.rowIs.lt HR.out
  clear hR hA
  obtain ⟨T, hT⟩ : ∃ T, (putV p.length).length + p.length = T := ⟨_, rfl⟩
  have hTk : T ≤ k := by rw [← hT, ← hk]; simp [List.length_append]
  have hT0 : 0 < T := by
    rw [← hT]
    by_cases h : p.length ≤ 127
    · rw [putV_small h]; simp; omega
    · rw [putV_more h]; simp; omega
  have hkr : rest.length = k - T := by rw [← hT, ← hk]; simp [List.length_append]; omega
  obtain ⟨b, off, hAe, _, _⟩ := HA.out.at (i := 0) (by rw [hk]; omega)
  subst hAe
  rw [hT] at HG
  have HT := Lib.hid hT
  have HK := Lib.hid hk
  clear hT hk hget
  go_enter Try.func143, Try.ntmps143
  go_wp2_with fail
  go_enter Try.func149, Try.ntmps149
  go_wp2_with fail
  go_enter Try.func150, Try.ntmps150
  go_wp2_with fail
  refine HG.out.mono ?_
  rintro e w1 ⟨v1, rfl, hown1, hb1⟩
  go_wp2_with fail
  go_ret3
  have hRa : (w.alloc (.cells #[.int .i64 most] 3)).rowIs R 196 2 (rdF (.slice (some ⟨b, off, none⟩) k c)) := World.rowIs.alloc HR.out _
  have hR1 := World.rowIs.of_block hRa (hb1.block R (World.rowIs.lt hRa))
  have h11 : w1.cell? ⟨R, 1, none⟩ = some (.slice (some ⟨b, off, none⟩) k c) := World.rowIs.cell hR1 (i := 1) (by decide)
  have hf11 : w1.frozen? ⟨R, 1, none⟩ = false := World.rowIs.frozen hR1 1
  have HR1 := Lib.hid hR1
  clear hR1 hRa
  go_wp2_with fail
  all_goals
    go_ret2
    have hbw : Below w.heap.size w w1 := hbA.trans (hb1.mono hbA.size)
    have hby := (HA.out.below hbw (Nat.le_refl _)).mono hbw.size
    have hbt : b ∉ NL := hAR b off rfl
    have h9 : Byt w1 w1.heap.size (some ⟨b, off, none⟩) c ((putV p.length ++ p) ++ rest ++ []) := by simpa using hby
    refine ⟨_, rfl, ?_, _, take_end hRN HR1.out hbw hkr (h9.part (m := T) (by rw [List.length_append]; exact HT.out) (by rw [hkr]; omega) (by simp) (fun h => ?_)) (fun x o hA => ?_)⟩
    · exact owns_mono (ownsRow_setCell_below hown1.raw (by show R < (w.alloc _).heap.size; simp; omega) _) hbA.size
    · first | rfl | exact absurd h (by omega)
    · cases hA; exact hbt
end Go.Proofs.Ytnmhmabifeapkaa.Ord
/- Walk of the codec's part, read. -/
namespace Go.Proofs.Ytnmhmabifeapkaa.Ord
open Go.RowKit
set_option linter.unusedVariables false

theorem Byt.convert {w : World} {B : Nat} {A : Option Addr} {c n : Nat} {xs : List Int} (h : Byt w B A c xs) (hn : xs.length = n) : (convert 22 9 (.slice A n c)).run Try.prog w = .ok (.string (strOfNums xs)) w := by
  rcases Nat.eq_zero_or_pos n with h0 | h0
  · subst h0
    obtain rfl : xs = [] := List.eq_nil_of_length_eq_zero hn
    exact run_convert_bytes_zero w 22 5 Try.underlying22 Try.underlying5 A c 9 Try.underlying9
  · obtain ⟨b, off, rfl, _, _⟩ := h.at (i := 0) (by omega)
    refine run_convert_bytes_arg (P := Try.prog) w 22 5 Try.underlying22 Try.underlying5 b off n c xs hn (fun i hi => ?_) 9 Try.underlying9
    obtain ⟨b', off', e, _, hc⟩ := h.at (i := i) (by omega)
    cases e
    exact hc
theorem str_nums (s : ByteArray) : strOfNums (sBytes s) = s := by
  unfold sBytes
  rw [Go.Lib.Lz.strOfNums_map]

def updF (f : Nat → Value) (k : Nat) (v : Value) : Nat → Value := fun j => if j = k then v else f j

theorem read_mid {X G R k n : Nat} {t : TypeId} {f : Nat → Value} {c outv r : Value} {bad : Bool} {w w1 : World} {u : Value} (hXG : X ≠ G) (hX1 : w1.rowIs X 149 4 (codF c r outv bad)) (hG1 : w1.rowIs G t n f) (hk1 : Kept [R] w w1) (hXR : X ≠ R) (hGR : G ≠ R) {v' : Value} {rest : List Int} (hR1 : w1.rowIs R 196 2 (rdF v')) (hv1 : SlX w1 [X, G, R] v' rest) :
    ∃ w2, w2 = (w1.setCell ⟨X, 3, none⟩ (.bool bad)).setCell ⟨G, k, none⟩ u ∧ w2.rowIs X 149 4 (codF c r outv bad) ∧ w2.rowIs G t n (updF f k u) ∧ w2.rowIs R 196 2 (rdF v') ∧ SlX w2 [X, G, R] v' rest ∧ Kept [X, G, R] w w2 := by
  have hk3 : Kept [X, G, R] w1 ((w1.setCell ⟨X, 3, none⟩ (.bool bad)).setCell ⟨G, k, none⟩ u) := ((Kept.refl _ _).setCell (by simp) _).setCell (by simp) _
  refine ⟨_, rfl, World.rowIs.setOther (World.rowIs.congr (World.rowIs.set hX1 3 _) fun i hi => ?_) (by exact hXG) _, World.rowIs.set (World.rowIs.setOther hG1 (by exact fun e => hXG e.symm) _) k _, World.rowIs.setOther (World.rowIs.setOther hR1 (by exact fun e => hXR e.symm) _) (by exact fun e => hGR e.symm) _, hv1.kept hk3 (fun _ h => h), (hk1.mono (by simp)).trans hk3⟩
  match i, hi with
  | 0, _ => rfl
  | 1, _ => rfl
  | 2, _ => rfl
  | 3, _ => rfl

theorem read_end {X G R n : Nat} {t : TypeId} {f : Nat → Value} {c outv r : Value} {bad b : Bool} {w w2 w3 : World} (hXG : X ≠ G) (hXR : X ≠ R) {v' : Value} {rest : List Int}
    (hX2 : w2.rowIs X 149 4 (codF c r outv bad)) (hG2 : w2.rowIs G t n f) (hR2 : w2.rowIs R 196 2 (rdF v')) (hv2 : SlX w2 [X, G, R] v' rest) (hk2 : Kept [X, G, R] w w2) (hb : Below w2.heap.size w2 w3) :
    ∃ v', (w3.setCell ⟨X, 3, none⟩ (.bool b)).rowIs X 149 4 (codF c r outv b) ∧ (w3.setCell ⟨X, 3, none⟩ (.bool b)).rowIs G t n f ∧ (w3.setCell ⟨X, 3, none⟩ (.bool b)).rowIs R 196 2 (rdF v') ∧ SlX (w3.setCell ⟨X, 3, none⟩ (.bool b)) [X, G, R] v' rest ∧ Kept [X, G, R] w (w3.setCell ⟨X, 3, none⟩ (.bool b)) := by
  have hk : Kept [X, G, R] w2 (w3.setCell ⟨X, 3, none⟩ (.bool b)) := (Kept.of_below hb).setCell (by simp) _
  have hX3 := World.rowIs.of_block hX2 (hb.block X (World.rowIs.lt hX2))
  have hG3 := World.rowIs.of_block hG2 (hb.block G (World.rowIs.lt hG2))
  have hR3 := World.rowIs.of_block hR2 (hb.block R (World.rowIs.lt hR2))
  refine ⟨v', World.rowIs.congr (World.rowIs.set hX3 3 _) fun i hi => ?_, World.rowIs.setOther hG3 (by exact fun e => hXG e.symm) _, World.rowIs.setOther hR3 (by exact fun e => hXR e.symm) _, hv2.kept hk (fun _ h => h), hk2.trans hk⟩
  match i, hi with
  | 0, _ => rfl
  | 1, _ => rfl
  | 2, _ => rfl
  | 3, _ => rfl

set_option maxRecDepth 100000 in
set_option maxHeartbeats 2000000 in
theorem part_read (X G R k : Nat) (t : TypeId) (n : Nat) (f : Nat → Value) (s : ByteArray) (u0 : ByteArray) (c outv v : Value) (rest : List Int) (bad al : Bool) (N : Nat) (w : World)
    (hG : w.rowIs G t n f) (hk : k < n) (hf : f k = .string u0) (hXG : X ≠ G) (hXR : X ≠ R) (hGR : G ≠ R) (hX : w.rowIs X 149 4 (codF c (.pointer (some ⟨R, 0, none⟩)) outv bad))
    (hR : w.rowIs R 196 2 (rdF v)) (hv : SlX w [X, G, R] v (putV s.size ++ (sBytes s ++ rest))) (hget : GetOk s.size) (hs : s.size ≤ 65536) (hrl : rest.length ≤ 500000)
    (eg : ∀ args w, (callFunc N args).run Try.prog w = .ok (.enter N args) w) (hN : ∀ w, Calls Try.prog N #[.string s] w fun e w' => e = .returned (.bool al) ∧ Below w.heap.size w w') :
    Calls Try.prog 126 #[.pointer (some ⟨X, 0, none⟩), .pointer (some ⟨G, k, none⟩), .func (.func N) #[] #[]] w fun e w' =>
      e = .returned (.tuple #[]) ∧ ∃ v', w'.rowIs X 149 4 (codF c (.pointer (some ⟨R, 0, none⟩)) outv (bad || !al)) ∧ w'.rowIs G t n (updF f k (.string s)) ∧ w'.rowIs R 196 2 (rdF v') ∧ SlX w' [X, G, R] v' rest ∧ Kept [X, G, R] w w' := by
  have hc1 : w.cell? ⟨X, 1, none⟩ = some (.pointer (some ⟨R, 0, none⟩)) := World.rowIs.cell hX (i := 1) (by decide)
  have hsl := sBytes_len s
  have hpl : (putV s.size).length ≤ 10 := putV_len10 (by omega)
  have HB := Lib.hid (bytes_any [X, G, R] R 65536 (by simp) v (sBytes s) rest w (by rw [hsl]; exact hget) (by simp only [List.length_append]; rw [hsl]; omega) (by rw [hsl]; exact hs) (by omega) hR (by rw [hsl]; exact hv))
  have HX := Lib.hid hX
  have HG := Lib.hid hG
  have HN := Lib.hid hN
  clear hX hG hN hget hR hv
  go_enter Try.func126, Try.ntmps126
  go_wp2_with fail
  refine HB.out.mono ?_
  rintro e w1 ⟨vp, v', rfl, hown1, hR1, hv1, hk1⟩
  obtain ⟨Ap, cp, rfl, hbyp⟩ := hown1.val
  rw [hsl]
  have hX1 := hk1.row (G := X) (by simp [hXR]) HX.out
  have hG1 := hk1.row (G := G) (by simp [hGR]) HG.out
  have h13 : w1.cell? ⟨X, 3, none⟩ = some (.bool bad) := World.rowIs.cell hX1 (i := 3) (by decide)
  have hf13 : w1.frozen? ⟨X, 3, none⟩ = false := World.rowIs.frozen hX1 3
  have h1g : w1.cell? ⟨G, k, none⟩ = some (.string u0) := by rw [← hf]; exact World.rowIs.cell hG1 hk
  have hf1g : w1.frozen? ⟨G, k, none⟩ = false := World.rowIs.frozen hG1 k
  have hconv : ∀ W, Byt W W.heap.size Ap cp (sBytes s) → (convert 22 9 (.slice Ap s.size cp)).run Try.prog W = .ok (.string s) W := fun W h => by
    have := h.convert hsl
    rwa [str_nums] at this
  have hcv : (convert 22 9 (.slice Ap s.size cp)).run Try.prog (w1.setCell ⟨X, 3, none⟩ (.bool bad)) = .ok (.string s) (w1.setCell ⟨X, 3, none⟩ (.bool bad)) := by
    refine hconv _ (((Kept.refl [X] w1).setCell (p := ⟨X, 3, none⟩) (by simp) _).byt hbyp fun x off hA hm => ?_)
    obtain ⟨A', c', e, _, hlo⟩ := SlB.of_own hown1
    cases e
    have h1 := hlo x off hA
    have h2 := World.rowIs.lt HX.out
    simp at hm
    omega
  obtain ⟨w2, hw2, hX2, hG2, hR2, hv2, hk2⟩ := read_mid (k := k) (u := .string s) hXG hX1 hG1 hk1 hXR hGR hR1 hv1
  clear hconv
  cases bad with
  | true =>
    go_wp2_with fail
    go_end0
    rw [← hw2]
    exact ⟨rfl, read_end (b := true) hXG hXR hX2 hG2 hR2 hv2 hk2 (Below.refl _ _)⟩
  | false =>
    go_wp2_with fail
    rw [← hw2]
    refine (HN.out w2).mono ?_
    rintro e w3 ⟨rfl, hb3⟩
    have hX3 := World.rowIs.of_block hX2 (hb3.block X (World.rowIs.lt hX2))
    have h33 : w3.cell? ⟨X, 3, none⟩ = some (.bool false) := World.rowIs.cell hX3 (i := 3) (by decide)
    have hf33 : w3.frozen? ⟨X, 3, none⟩ = false := World.rowIs.frozen hX3 3
    clear hX3 hw2
    go_wp2_with fail
    go_end0
    exact ⟨rfl, read_end (b := !al) hXG hXR hX2 hG2 hR2 hv2 hk2 hb3⟩
end Go.Proofs.Ytnmhmabifeapkaa.Ord
/- Walks of request.Write and Read at a command with a key, and at one without parts. -/
namespace Go.Proofs.Ytnmhmabifeapkaa.Ord
open Go.RowKit
set_option linter.unusedVariables false

def eS : ByteArray := ⟨#[]⟩
/-- a command with an operation and a key -/
def cmdV (op : Int) (s : ByteArray) : Array Value := #[.int .i64 op, .string s, .slice none 0 0, .slice none 0 0, .slice none 0 0, .int .u64 0, .int .u64 0, .string ⟨#[]⟩, .string ⟨#[]⟩, .string ⟨#[]⟩]

theorem keyValid (s : ByteArray) (h1 : 0 < s.size) (h2 : s.size ≤ 250) (w : World) : Calls Try.prog 127 #[.string s] w fun e w' => e = .returned (.bool true) ∧ Below w.heap.size w w' := by
  have g1 : decide ((0 : Int) < (s.size : Int)) = true := by simp; omega
  have g2 : decide ((s.size : Int) ≤ 250) = true := by simp; omega
  go_enter Try.func127, Try.ntmps127
  go_wp2_with fail
  go_ret
  exact ⟨rfl, Below.refl _ _⟩
theorem key_enter : ∀ args w, (callFunc 127 args).run Try.prog w = .ok (.enter 127 args) w := by
  intro args w
  simp [callFunc, Try.func127, Try.f127]

theorem valid_any (op : Int) (h1 : 0 < op) (h2 : op < 16) (w : World) : Calls Try.prog 96 #[.int .i64 op] w fun e w' => e = .returned (.bool true) ∧ w' = w := by
  have g1 : decide ((0 : Int) < op) = true := by simp; omega
  have g2 : decide (op < 16) = true := by simp; omega
  go_enter Try.func96, Try.ntmps96
  go_wp2_with fail
  go_ret
  exact ⟨rfl, rfl⟩

set_option maxRecDepth 100000 in
set_option maxHeartbeats 1000000 in
theorem parts_get_w (X C : Nat) (f : Nat → Value) (s : ByteArray) (A : Option Addr) (ca : Nat) (out : List Int) (bad : Bool) (w : World) (h1 : 0 < s.size) (h2 : s.size ≤ 250)
    (hC : w.rowIs C 45 10 f) (hf0 : f 0 = .int .i64 4) (hf1 : f 1 = .string s) (hXC : X ≠ C) (hX : w.rowIs X 149 4 (codF (.pointer (some ⟨C, 0, none⟩)) (.pointer none) (.slice A out.length ca) bad)) (hA : Byt w w.heap.size A ca out) (hAX : ∀ b off, A = some ⟨b, off, none⟩ → b ≠ X) (hol : out.length ≤ 500000) :
    Calls Try.prog 97 #[.pointer (some ⟨X, 0, none⟩)] w fun e w' => e = .returned (.tuple #[]) ∧ ∃ v, w'.rowIs X 149 4 (codF (.pointer (some ⟨C, 0, none⟩)) (.pointer none) v bad) ∧ SlB w' w.heap.size v (out ++ putV s.size ++ sBytes s) ∧ Kept [X] w w' := by
  have c0 : w.cell? ⟨X, 0, none⟩ = some (.pointer (some ⟨C, 0, none⟩)) := World.rowIs.cell hX (i := 0) (by decide)
  have d0 : w.cell? ⟨C, 0, none⟩ = some (.int .i64 4) := by rw [← hf0]; exact World.rowIs.cell hC (i := 0) (by decide)
  have HP := Lib.hid (part_write X C 1 45 10 f s (.pointer (some ⟨C, 0, none⟩)) A ca out bad true 127 w hC (by decide) hf1 hXC hX hA hAX key_enter (keyValid s h1 h2) (by omega) hol)
  clear hX hC hA
  go_enter Try.func97, Try.ntmps97
  go_wp2_with fail
  refine HP.out.mono ?_
  rintro e w1 ⟨rfl, v, hX1, hv1, hk1⟩
  simp only [Bool.not_true, Bool.or_false] at hX1
  have H1 := Lib.hid hX1
  clear hX1
  go_wp2_with fail
  go_end0
  exact ⟨rfl, v, H1.out, hv1, hk1⟩

set_option maxRecDepth 100000 in
set_option maxHeartbeats 1000000 in
theorem parts_get_r (X C R : Nat) (f : Nat → Value) (s u0 : ByteArray) (outv v : Value) (rest : List Int) (bad : Bool) (w : World) (h1 : 0 < s.size) (h2 : s.size ≤ 250)
    (hC : w.rowIs C 45 10 f) (hf0 : f 0 = .int .i64 4) (hf1 : f 1 = .string u0) (hXC : X ≠ C) (hXR : X ≠ R) (hCR : C ≠ R) (hX : w.rowIs X 149 4 (codF (.pointer (some ⟨C, 0, none⟩)) (.pointer (some ⟨R, 0, none⟩)) outv bad))
    (hR : w.rowIs R 196 2 (rdF v)) (hv : SlX w [X, C, R] v (putV s.size ++ (sBytes s ++ rest))) (hget : GetOk s.size) (hrl : rest.length ≤ 500000) :
    Calls Try.prog 97 #[.pointer (some ⟨X, 0, none⟩)] w fun e w' => e = .returned (.tuple #[]) ∧ ∃ v', w'.rowIs X 149 4 (codF (.pointer (some ⟨C, 0, none⟩)) (.pointer (some ⟨R, 0, none⟩)) outv bad) ∧ w'.rowIs C 45 10 (updF f 1 (.string s)) ∧ w'.rowIs R 196 2 (rdF v') ∧ SlX w' [X, C, R] v' rest ∧ Kept [X, C, R] w w' := by
  have c0 : w.cell? ⟨X, 0, none⟩ = some (.pointer (some ⟨C, 0, none⟩)) := World.rowIs.cell hX (i := 0) (by decide)
  have d0 : w.cell? ⟨C, 0, none⟩ = some (.int .i64 4) := by rw [← hf0]; exact World.rowIs.cell hC (i := 0) (by decide)
  have HP := Lib.hid (part_read X C R 1 45 10 f s u0 (.pointer (some ⟨C, 0, none⟩)) outv v rest bad true 127 w hC (by decide) hf1 hXC hXR hCR hX hR hv hget (by omega) hrl key_enter (keyValid s h1 h2))
  clear hX hC hR hv hget
  go_enter Try.func97, Try.ntmps97
  go_wp2_with fail
  refine HP.out.mono ?_
  rintro e w1 ⟨rfl, v1, hX1, hC1, hR1, hv1, hk1⟩
  simp only [Bool.not_true, Bool.or_false] at hX1
  have H1 := Lib.hid hX1
  have H2 := Lib.hid hC1
  clear hX1 hC1
  go_wp2_with fail
  go_end0
  exact ⟨rfl, v1, H1.out, H2.out, hR1, hv1, hk1⟩

end Go.Proofs.Ytnmhmabifeapkaa.Ord
