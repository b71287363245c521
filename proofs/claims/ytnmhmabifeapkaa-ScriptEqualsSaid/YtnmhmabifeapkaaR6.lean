/- Walk of the codec's part, read. -/
import Derived.Test.YtnmhmabifeapkaaR5
import Derived.Laws.BytesArg
import Derived.Lib.LazyBuf
import Derived.Shelf.Bytes.SlEqualAll
namespace Go.Proofs.Ytnmhmabifeapkaa.Ord
open Go.RowKit
set_option linter.unusedVariables false

theorem Byt.convert {w : World} {B : Nat} {A : Option Addr} {c n : Nat} {xs : List Int} (h : Byt w B A c xs) (hn : xs.length = n) : (convert 22 9 (.slice A n c)).run Try.prog w = .ok (.string (strOfNums xs)) w := by
  rcases Nat.eq_zero_or_pos n with h0 | h0
  · subst h0
    obtain rfl : xs = [] := List.eq_nil_of_length_eq_zero hn
    exact run_convert_bytes_zero w 22 5 Try.underlying22 Try.underlying5 A c 9 Try.underlying9
  · obtain ⟨b, off, rfl, _, _⟩ := h.at (i := 0) (by omega)
    refine run_convert_bytes_arg (P := Try.prog) w 22 5 Try.underlying22 Try.underlying5 b off n c xs hn (fun i hi => ?_) 9 Try.underlying9
    obtain ⟨b', off', e, _, hc⟩ := h.at (i := i) (by omega)
    cases e
    exact hc
theorem str_nums (s : ByteArray) : strOfNums (sBytes s) = s := by
  unfold sBytes
  rw [Go.Lib.Lz.strOfNums_map]

def updF (f : Nat → Value) (k : Nat) (v : Value) : Nat → Value := fun j => if j = k then v else f j

theorem read_mid {X G R k n : Nat} {t : TypeId} {f : Nat → Value} {c outv r : Value} {bad : Bool} {w w1 : World} {u : Value} (hXG : X ≠ G) (hX1 : w1.rowIs X 149 4 (codF c r outv bad)) (hG1 : w1.rowIs G t n f) (hk1 : Kept [R] w w1) (hXR : X ≠ R) (hGR : G ≠ R) {v' : Value} {rest : List Int} (hR1 : w1.rowIs R 196 2 (rdF v')) (hv1 : SlX w1 [X, G, R] v' rest) :
    ∃ w2, w2 = (w1.setCell ⟨X, 3, none⟩ (.bool bad)).setCell ⟨G, k, none⟩ u ∧ w2.rowIs X 149 4 (codF c r outv bad) ∧ w2.rowIs G t n (updF f k u) ∧ w2.rowIs R 196 2 (rdF v') ∧ SlX w2 [X, G, R] v' rest ∧ Kept [X, G, R] w w2 := by
  have hk3 : Kept [X, G, R] w1 ((w1.setCell ⟨X, 3, none⟩ (.bool bad)).setCell ⟨G, k, none⟩ u) := ((Kept.refl _ _).setCell (by simp) _).setCell (by simp) _
  refine ⟨_, rfl, World.rowIs.setOther (World.rowIs.congr (World.rowIs.set hX1 3 _) fun i hi => ?_) (by exact hXG) _, World.rowIs.set (World.rowIs.setOther hG1 (by exact fun e => hXG e.symm) _) k _, World.rowIs.setOther (World.rowIs.setOther hR1 (by exact fun e => hXR e.symm) _) (by exact fun e => hGR e.symm) _, hv1.kept hk3 (fun _ h => h), (hk1.mono (by simp)).trans hk3⟩
  match i, hi with
  | 0, _ => rfl
  | 1, _ => rfl
  | 2, _ => rfl
  | 3, _ => rfl

theorem read_end {X G R n : Nat} {t : TypeId} {f : Nat → Value} {c outv r : Value} {bad b : Bool} {w w2 w3 : World} (hXG : X ≠ G) (hXR : X ≠ R) {v' : Value} {rest : List Int}
    (hX2 : w2.rowIs X 149 4 (codF c r outv bad)) (hG2 : w2.rowIs G t n f) (hR2 : w2.rowIs R 196 2 (rdF v')) (hv2 : SlX w2 [X, G, R] v' rest) (hk2 : Kept [X, G, R] w w2) (hb : Below w2.heap.size w2 w3) :
    ∃ v', (w3.setCell ⟨X, 3, none⟩ (.bool b)).rowIs X 149 4 (codF c r outv b) ∧ (w3.setCell ⟨X, 3, none⟩ (.bool b)).rowIs G t n f ∧ (w3.setCell ⟨X, 3, none⟩ (.bool b)).rowIs R 196 2 (rdF v') ∧ SlX (w3.setCell ⟨X, 3, none⟩ (.bool b)) [X, G, R] v' rest ∧ Kept [X, G, R] w (w3.setCell ⟨X, 3, none⟩ (.bool b)) := by
  have hk : Kept [X, G, R] w2 (w3.setCell ⟨X, 3, none⟩ (.bool b)) := (Kept.of_below hb).setCell (by simp) _
  have hX3 := World.rowIs.of_block hX2 (hb.block X (World.rowIs.lt hX2))
  have hG3 := World.rowIs.of_block hG2 (hb.block G (World.rowIs.lt hG2))
  have hR3 := World.rowIs.of_block hR2 (hb.block R (World.rowIs.lt hR2))
  refine ⟨v', World.rowIs.congr (World.rowIs.set hX3 3 _) fun i hi => ?_, World.rowIs.setOther hG3 (by exact fun e => hXG e.symm) _, World.rowIs.setOther hR3 (by exact fun e => hXR e.symm) _, hv2.kept hk (fun _ h => h), hk2.trans hk⟩
  match i, hi with
  | 0, _ => rfl
  | 1, _ => rfl
  | 2, _ => rfl
  | 3, _ => rfl

set_option maxRecDepth 100000 in
set_option maxHeartbeats 2000000 in
theorem part_read (X G R k : Nat) (t : TypeId) (n : Nat) (f : Nat → Value) (s : ByteArray) (u0 : ByteArray) (c outv v : Value) (rest : List Int) (bad al : Bool) (N : Nat) (w : World)
    (hG : w.rowIs G t n f) (hk : k < n) (hf : f k = .string u0) (hXG : X ≠ G) (hXR : X ≠ R) (hGR : G ≠ R) (hX : w.rowIs X 149 4 (codF c (.pointer (some ⟨R, 0, none⟩)) outv bad))
    (hR : w.rowIs R 196 2 (rdF v)) (hv : SlX w [X, G, R] v (putV s.size ++ (sBytes s ++ rest))) (hget : GetOk s.size) (hs : s.size ≤ 65536) (hrl : rest.length ≤ 500000)
    (eg : ∀ args w, (callFunc N args).run Try.prog w = .ok (.enter N args) w) (hN : ∀ w, Calls Try.prog N #[.string s] w fun e w' => e = .returned (.bool al) ∧ Below w.heap.size w w') :
    Calls Try.prog 126 #[.pointer (some ⟨X, 0, none⟩), .pointer (some ⟨G, k, none⟩), .func (.func N) #[] #[]] w fun e w' =>
      e = .returned (.tuple #[]) ∧ ∃ v', w'.rowIs X 149 4 (codF c (.pointer (some ⟨R, 0, none⟩)) outv (bad || !al)) ∧ w'.rowIs G t n (updF f k (.string s)) ∧ w'.rowIs R 196 2 (rdF v') ∧ SlX w' [X, G, R] v' rest ∧ Kept [X, G, R] w w' := by
  have hc1 : w.cell? ⟨X, 1, none⟩ = some (.pointer (some ⟨R, 0, none⟩)) := World.rowIs.cell hX (i := 1) (by decide)
  have hsl := sBytes_len s
  have hpl : (putV s.size).length ≤ 10 := putV_len10 (by omega)
  have HB := Lib.hid (bytes_any [X, G, R] R 65536 (by simp) v (sBytes s) rest w (by rw [hsl]; exact hget) (by simp only [List.length_append]; rw [hsl]; omega) (by rw [hsl]; exact hs) (by omega) hR (by rw [hsl]; exact hv))
  have HX := Lib.hid hX
  have HG := Lib.hid hG
  have HN := Lib.hid hN
  clear hX hG hN hget hR hv
  go_enter Try.func126, Try.ntmps126
  go_wp2_with fail
  refine HB.out.mono ?_
  rintro e w1 ⟨vp, v', rfl, hown1, hR1, hv1, hk1⟩
  obtain ⟨Ap, cp, rfl, hbyp⟩ := hown1.val
  rw [hsl]
  have hX1 := hk1.row (G := X) (by simp [hXR]) HX.out
  have hG1 := hk1.row (G := G) (by simp [hGR]) HG.out
  have h13 : w1.cell? ⟨X, 3, none⟩ = some (.bool bad) := World.rowIs.cell hX1 (i := 3) (by decide)
  have hf13 : w1.frozen? ⟨X, 3, none⟩ = false := World.rowIs.frozen hX1 3
  have h1g : w1.cell? ⟨G, k, none⟩ = some (.string u0) := by rw [← hf]; exact World.rowIs.cell hG1 hk
  have hf1g : w1.frozen? ⟨G, k, none⟩ = false := World.rowIs.frozen hG1 k
  have hconv : ∀ W, Byt W W.heap.size Ap cp (sBytes s) → (convert 22 9 (.slice Ap s.size cp)).run Try.prog W = .ok (.string s) W := fun W h => by
    have := h.convert hsl
    rwa [str_nums] at this
  have hcv : (convert 22 9 (.slice Ap s.size cp)).run Try.prog (w1.setCell ⟨X, 3, none⟩ (.bool bad)) = .ok (.string s) (w1.setCell ⟨X, 3, none⟩ (.bool bad)) := by
    refine hconv _ (((Kept.refl [X] w1).setCell (p := ⟨X, 3, none⟩) (by simp) _).byt hbyp fun x off hA hm => ?_)
    obtain ⟨A', c', e, _, hlo⟩ := SlB.of_own hown1
    cases e
    have h1 := hlo x off hA
    have h2 := World.rowIs.lt HX.out
    simp at hm
    omega
  obtain ⟨w2, hw2, hX2, hG2, hR2, hv2, hk2⟩ := read_mid (k := k) (u := .string s) hXG hX1 hG1 hk1 hXR hGR hR1 hv1
  clear hconv
  cases bad with
  | true =>
    go_wp2_with fail
    go_end0
    rw [← hw2]
    exact ⟨rfl, read_end (b := true) hXG hXR hX2 hG2 hR2 hv2 hk2 (Below.refl _ _)⟩
  | false =>
    go_wp2_with fail
    rw [← hw2]
    refine (HN.out w2).mono ?_
    rintro e w3 ⟨rfl, hb3⟩
    have hX3 := World.rowIs.of_block hX2 (hb3.block X (World.rowIs.lt hX2))
    have h33 : w3.cell? ⟨X, 3, none⟩ = some (.bool false) := World.rowIs.cell hX3 (i := 3) (by decide)
    have hf33 : w3.frozen? ⟨X, 3, none⟩ = false := World.rowIs.frozen hX3 3
    clear hX3 hw2
    go_wp2_with fail
    go_end0
    exact ⟨rfl, read_end (b := !al) hXG hXR hX2 hG2 hR2 hv2 hk2 hb3⟩
end Go.Proofs.Ytnmhmabifeapkaa.Ord
