/- Frames by a list of blocks; the codec's part, written. -/
import Derived.Test.YtnmhmabifeapkaaR2
import Derived.Test.YtnmhmabifeapkaaB9
import Derived.Deep.OwnRows
import Derived.Lib.AppendStr
import Derived.Lib.ConvBytes
import Derived.Deep.Heap
namespace Go.Proofs.Ytnmhmabifeapkaa.Ord
open Go.RowKit
set_option linter.unusedVariables false

/-- all blocks that were there, but some, are as they were -/
structure Kept (L : List Nat) (w w' : World) : Prop where
  os : w'.os = w.os
  tape : w'.tape = w.tape
  output : w'.output = w.output
  size : w.heap.size ≤ w'.heap.size
  block : ∀ k, k < w.heap.size → k ∉ L → w'.heap[k]? = w.heap[k]?
theorem Kept.refl (L : List Nat) (w : World) : Kept L w w := ⟨rfl, rfl, rfl, Nat.le_refl _, fun _ _ _ => rfl⟩
theorem Kept.trans {L : List Nat} {a b c : World} (h : Kept L a b) (k : Kept L b c) : Kept L a c :=
  ⟨k.os.trans h.os, k.tape.trans h.tape, k.output.trans h.output, Nat.le_trans h.size k.size, fun i hi hn => (k.block i (Nat.lt_of_lt_of_le hi h.size) hn).trans (h.block i hi hn)⟩
theorem Kept.mono {L L' : List Nat} {a b : World} (h : Kept L a b) (hL : ∀ k ∈ L, k ∈ L') : Kept L' a b := ⟨h.os, h.tape, h.output, h.size, fun i hi hn => h.block i hi fun hm => hn (hL i hm)⟩
theorem Kept.of_below {L : List Nat} {a b : World} (h : Below a.heap.size a b) : Kept L a b := ⟨h.os, h.tape, h.output, h.size, fun i hi _ => h.block i hi⟩
theorem Kept.below {L : List Nat} {a b : World} {B : Nat} (h : Kept L a b) (hB : B ≤ a.heap.size) (hL : ∀ k ∈ L, B ≤ k) : Below B a b :=
  ⟨h.os, h.tape, h.output, h.size, fun i hi => h.block i (by omega) fun hm => absurd (hL i hm) (by omega)⟩
theorem Kept.drew {L : List Nat} {a b : World} (h : Kept L a b) : Kept L a b.drew := ⟨h.os, h.tape, h.output, h.size, h.block⟩
theorem Kept.alloc {L : List Nat} {a b : World} (h : Kept L a b) (o : Obj) : Kept L a (b.alloc o) :=
  h.trans (Kept.of_below (below1 b o))
theorem Kept.setCell {L : List Nat} {a b : World} (h : Kept L a b) {p : Addr} (hp : p.block ∈ L) (v : Value) : Kept L a (b.setCell p v) := by
  refine h.trans ⟨rfl, rfl, rfl, by simp, fun k hk hn => ?_⟩
  exact Go.Deep.blk_setCell_other _ _ _ _ (fun e => hn (by rw [e]; exact hp))
theorem Kept.row {L : List Nat} {a b : World} (h : Kept L a b) {G n : Nat} {t : TypeId} {f : Nat → Value} (hG : G ∉ L) (hr : a.rowIs G t n f) : b.rowIs G t n f :=
  World.rowIs.of_block hr (h.block G (World.rowIs.lt hr) hG)
theorem Kept.byt {L : List Nat} {a b : World} (h : Kept L a b) {A : Option Addr} {c : Nat} {xs : List Int} (hA : Byt a a.heap.size A c xs) (hn : ∀ x off, A = some ⟨x, off, none⟩ → x ∉ L) : Byt b b.heap.size A c xs := by
  refine ⟨hA.1, hA.2.1, fun i hi => ?_⟩
  obtain ⟨x, off, h1, h2, h3⟩ := hA.2.2 i hi
  refine ⟨x, off, h1, Nat.lt_of_lt_of_le h2 h.size, fun y hy => ?_⟩
  rw [World.cell?_of_block (w := a) (h.block x h2 (hn x off h1))]
  exact h3 y hy

def sBytes (s : ByteArray) : List Int := s.data.toList.map fun b => (b.toNat : Int)
theorem sBytes_len (s : ByteArray) : (sBytes s).length = s.size := by unfold sBytes; rw [List.length_map, Array.length_toList]; rfl
theorem sBytes_cells (s : ByteArray) : Lib.strCells s = (sBytes s).map (Value.int .u8) := by simp [Lib.strCells, sBytes, List.map_map, Function.comp_def]

theorem conv_str (w : World) (s : ByteArray) : ∃ c w', (convert 9 22 (.string s)).run Try.prog w = .ok (.slice (some ⟨w.heap.size, 0, none⟩) s.size c) w' ∧ Byt w' w'.heap.size (some ⟨w.heap.size, 0, none⟩) c (sBytes s) ∧ Below w.heap.size w w' := by
  refine ⟨_, Lib.bytesWorld w 5 s, Lib.run_convert_string_bytes w 9 22 5 s Try.underlying9 Try.underlying22 Try.underlying5, ⟨(fun h => by cases h), by rw [sBytes_len]; exact grownCap_ge _ _ _ _, fun i hi => ⟨w.heap.size, 0, rfl, by rw [Lib.bytesWorld_size]; omega, fun x hx => ?_⟩⟩, ⟨rfl, rfl, rfl, by rw [Lib.bytesWorld_size]; omega, fun k hk => Lib.bytesWorld_at_old w 5 s k hk⟩⟩
  rw [sBytes_len] at hi
  rw [Nat.zero_add, Lib.bytesWorld_cell w 5 s i hi]
  unfold sBytes at hx
  rw [List.getElem?_map] at hx
  obtain ⟨b, hb, rfl⟩ := Option.map_eq_some_iff.1 hx
  simp [List.getD, hb]
def codF (c r out : Value) (bad : Bool) : Nat → Value
  | 0 => c
  | 1 => r
  | 2 => out
  | _ => .bool bad
/-- a slice of bytes in a value, in blocks from B on -/
def SlB (w : World) (B : Nat) (v : Value) (xs : List Int) : Prop := ∃ A c, v = .slice A xs.length c ∧ Byt w w.heap.size A c xs ∧ ∀ b off, A = some ⟨b, off, none⟩ → B ≤ b
theorem SlB.of_own {w : World} {base : Nat} {v : Value} {xs : List Int} (h : Own8 w base v xs) : SlB w base v xs := by
  obtain ⟨A, c, rfl, hb⟩ := h.val
  refine ⟨A, c, rfl, hb, fun b off hA => ?_⟩
  subst hA
  rcases owns_shape h.raw (by decide) with ⟨h1, _, _⟩ | ⟨g, cap, h1, h2, _⟩
  · cases h1
  · cases h1; exact h2
theorem f142_name : (Try.f142.name == "runtime.NumGoroutine") = false := by kernel_rfl
theorem f142_body : Try.f142.body.isSome = true := by kernel_rfl

theorem part_mid {X G : Nat} {t : TypeId} {n : Nat} {f : Nat → Value} {c : Value} {A A6 : Option Addr} {ca c6 L : Nat} {o : Nat} {xs : List Int} {bad : Bool} {w w6 : World} {base : Nat} (hL : xs.length = L)
    (hG : w.rowIs G t n f) (hXG : X ≠ G) (hX : w.rowIs X 149 4 (codF c (.pointer none) (.slice A o ca) bad)) (hb6 : Below w.heap.size w w6) (hown : Own8 w6 base (.slice A6 L c6) xs) (hbase : w.heap.size ≤ base) :
    ∃ w7, w7 = w6.setCell ⟨X, 2, none⟩ (.slice A6 L c6) ∧ w7.rowIs X 149 4 (codF c (.pointer none) (.slice A6 L c6) bad) ∧ w7.rowIs G t n f ∧ Kept [X] w w7 ∧ SlB w7 w.heap.size (.slice A6 L c6) xs := by
  have hXlt := World.rowIs.lt hX
  have hX6 : w6.rowIs X 149 4 (codF c (.pointer none) (.slice A o ca) bad) := World.rowIs.of_block hX (hb6.block X hXlt)
  have hG6 : w6.rowIs G t n f := World.rowIs.of_block hG (hb6.block G (World.rowIs.lt hG))
  have hK : Kept [X] w (w6.setCell ⟨X, 2, none⟩ (.slice A6 L c6)) := (Kept.of_below hb6).setCell (by simp) _
  refine ⟨_, rfl, World.rowIs.congr (World.rowIs.set hX6 2 (.slice A6 L c6)) fun i hi => ?_, World.rowIs.setOther hG6 (by exact fun e => hXG e.symm) _, hK, ?_⟩
  · match i, hi with
    | 0, _ => rfl
    | 1, _ => rfl
    | 2, _ => rfl
    | 3, _ => rfl
  · obtain ⟨A', c', he, hby, hlo⟩ := SlB.of_own hown
    refine ⟨A', c', he, ?_, fun b off hA => Nat.le_trans hbase (hlo b off hA)⟩
    have hk2 : Kept [X] w6 (w6.setCell ⟨X, 2, none⟩ (.slice A6 L c6)) := (Kept.refl _ _).setCell (by simp) _
    exact hk2.byt hby fun x off hA hm => by
      have h1 := hlo x off hA
      simp at hm
      omega

theorem part_end {X : Nat} {c r v : Value} {b bad : Bool} {w w7 w8 : World} {xs : List Int} (hX7 : w7.rowIs X 149 4 (codF c r v bad)) (hXw : X < w.heap.size) (hK7 : Kept [X] w w7) (hS7 : SlB w7 w.heap.size v xs) (hb8 : Below w7.heap.size w7 w8) :
    (w8.setCell ⟨X, 3, none⟩ (.bool b)).rowIs X 149 4 (codF c r v b) ∧ SlB (w8.setCell ⟨X, 3, none⟩ (.bool b)) w.heap.size v xs ∧ Kept [X] w (w8.setCell ⟨X, 3, none⟩ (.bool b)) := by
  have hX8 : w8.rowIs X 149 4 (codF c r v bad) := World.rowIs.of_block hX7 (hb8.block X (World.rowIs.lt hX7))
  have hK : Kept [X] w7 (w8.setCell ⟨X, 3, none⟩ (.bool b)) := (Kept.of_below hb8).setCell (by simp) _
  refine ⟨World.rowIs.congr (World.rowIs.set hX8 3 (.bool b)) fun i hi => ?_, ?_, hK7.trans hK⟩
  · match i, hi with
    | 0, _ => rfl
    | 1, _ => rfl
    | 2, _ => rfl
    | 3, _ => rfl
  · obtain ⟨A', c', he, hby, hlo⟩ := hS7
    refine ⟨A', c', he, ?_, hlo⟩
    exact hK.byt hby fun x off hA hm => by
      have h1 := hlo x off hA
      simp at hm
      omega

set_option maxRecDepth 100000 in
set_option maxHeartbeats 4000000 in
theorem part_write (X G k : Nat) (t : TypeId) (n : Nat) (f : Nat → Value) (s : ByteArray) (c : Value) (A : Option Addr) (ca : Nat) (out : List Int) (bad al : Bool) (N : Nat) (w : World)
    (hG : w.rowIs G t n f) (hk : k < n) (hf : f k = .string s) (hXG : X ≠ G) (hX : w.rowIs X 149 4 (codF c (.pointer none) (.slice A out.length ca) bad)) (hA : Byt w w.heap.size A ca out) (hAX : ∀ b off, A = some ⟨b, off, none⟩ → b ≠ X)
    (eg : ∀ args w, (callFunc N args).run Try.prog w = .ok (.enter N args) w) (hN : ∀ w, Calls Try.prog N #[.string s] w fun e w' => e = .returned (.bool al) ∧ Below w.heap.size w w') (hs : s.size ≤ 100000) (hol : out.length ≤ 500000) :
    Calls Try.prog 126 #[.pointer (some ⟨X, 0, none⟩), .pointer (some ⟨G, k, none⟩), .func (.func N) #[] #[]] w fun e w' =>
      e = .returned (.tuple #[]) ∧ ∃ v, w'.rowIs X 149 4 (codF c (.pointer none) v (bad || !al)) ∧ SlB w' w.heap.size v (out ++ putV s.size ++ sBytes s) ∧ Kept [X] w w' := by
  have hc1 : w.cell? ⟨X, 1, none⟩ = some (.pointer none) := World.rowIs.cell hX (i := 1) (by decide)
  have hc2 : w.cell? ⟨X, 2, none⟩ = some (.slice A out.length ca) := World.rowIs.cell hX (i := 2) (by decide)
  have hc3 : w.cell? ⟨X, 3, none⟩ = some (.bool bad) := World.rowIs.cell hX (i := 3) (by decide)
  have hcs : w.cell? ⟨G, k, none⟩ = some (.string s) := by rw [← hf]; exact World.rowIs.cell hG hk
  have HX := Lib.hid hX
  have HG := Lib.hid hG
  have HA := Lib.hid hA
  clear hX hG hA
  obtain ⟨L, hL⟩ : ∃ L, (out ++ putV s.size ++ sBytes s).length = L := ⟨_, rfl⟩
  have HL := Lib.hid hL
  clear hL
  have HN := Lib.hid hN
  clear hN
  go_enter Try.func126, Try.ntmps126
  go_wp2_with fail
  obtain ⟨c2, W5, hconv, hby5, hb5⟩ := conv_str w.drew s
  have hXlt : X < w.drew.heap.size := World.rowIs.lt HX.out
  have hX5 : W5.rowIs X 149 4 (codF c (.pointer none) (.slice A out.length ca) bad) := World.rowIs.of_block HX.out (hb5.block X hXlt)
  have h52 : W5.cell? ⟨X, 2, none⟩ = some (.slice A out.length ca) := World.rowIs.cell hX5 (i := 2) (by decide)
  have hA5 := Lib.hid (HA.out.below (B := w.heap.size) (w' := W5) (B' := w.heap.size) ⟨hb5.os, hb5.tape, hb5.output, hb5.size, hb5.block⟩ (Nat.le_refl _) |>.mono hb5.size)
  have HX5 := Lib.hid hX5
  have HB5 := Lib.hid hby5
  have hsl := sBytes_len s
  have HC := Lib.hid (putBytes_any A (some ⟨w.drew.heap.size, 0, none⟩) out.length ca s.size c2 out (sBytes s) W5 rfl hsl (by omega) (by omega) hA5.out HB5.out)
  clear hX5 hby5
  go_region_law ((with_reducible refine step_call_any (o := ⟨some 22, _, _, _, _, _⟩) rfl 142 _ _ rfl #[.slice A out.length ca, .slice (some ⟨w.drew.heap.size, 0, none⟩) s.size c2] ?_ Try.f142 Try.func142 f142_name f142_body (fun u w6 => Own8 w6 W5.heap.size u (out ++ putV s.size ++ sBytes s) ∧ Below W5.heap.size W5 w6) ?_ ?_); (· simp only [List.map_toArray, List.map_cons, List.map_nil]; rfl); (· exact HC.out.mono fun e w' ⟨v, h1, h2, h3⟩ => ⟨v, h1, h2, h3⟩); rintro u6 w6 ⟨hown6, hb6⟩; obtain ⟨A6, c6, rfl, hby6⟩ := hown6.val; rw [HL.out]; rw [HL.out] at hown6; have hX6 := Lib.hid (World.rowIs.of_block HX5.out (hb6.block X (World.rowIs.lt HX5.out))); have h62 : w6.cell? ⟨X, 2, none⟩ = some (.slice A out.length ca) := World.rowIs.cell hX6.out (i := 2) (by decide); have hf62 : w6.frozen? ⟨X, 2, none⟩ = false := World.rowIs.frozen hX6.out 2)
  all_goals
    have hbw6 : Below w.heap.size w w6 := by
      have h1 : Below w.heap.size w W5 := ⟨hb5.os, hb5.tape, hb5.output, hb5.size, hb5.block⟩
      exact h1.trans (hb6.mono h1.size)
    obtain ⟨w7, hw7, hX7, hG7, hK7, hS7⟩ := part_mid HL.out HG.out hXG HX.out hbw6 hown6 (by have := hb5.size; exact this)
    rw [← hw7]
    clear hw7 h62 hf62 hX6 hown6 hby6 hb6 hbw6
    have h73 : w7.cell? ⟨X, 3, none⟩ = some (.bool bad) := World.rowIs.cell hX7 (i := 3) (by decide)
    have hf73 : w7.frozen? ⟨X, 3, none⟩ = false := World.rowIs.frozen hX7 3
    have h7s : w7.cell? ⟨G, k, none⟩ = some (.string s) := by rw [← hf]; exact World.rowIs.cell hG7 hk
    have HX7 := Lib.hid hX7
    have HK7 := Lib.hid hK7
    have HS7 := Lib.hid hS7
    clear hX7 hG7 hK7 hS7
    have hXw := World.rowIs.lt HX.out
    cases bad with
    | true =>
      go_wp2_with fail
      go_end0
      obtain ⟨h1, h2, h3⟩ := part_end (b := true) HX7.out hXw HK7.out HS7.out (Below.refl _ _)
      exact ⟨rfl, _, h1, h2, h3⟩
    | false =>
      go_wp2_with fail
      refine (HN.out w7).mono ?_
      rintro e w8 ⟨rfl, hb8⟩
      have hX8 := World.rowIs.of_block HX7.out (hb8.block X (World.rowIs.lt HX7.out))
      have h83 : w8.cell? ⟨X, 3, none⟩ = some (.bool false) := World.rowIs.cell hX8 (i := 3) (by decide)
      have hf83 : w8.frozen? ⟨X, 3, none⟩ = false := World.rowIs.frozen hX8 3
      clear hX8
      go_wp2_with fail
      go_end0
      obtain ⟨h1, h2, h3⟩ := part_end (b := !al) HX7.out hXw HK7.out HS7.out hb8
      exact ⟨rfl, _, h1, h2, h3⟩
end Go.Proofs.Ytnmhmabifeapkaa.Ord
