/- Walk of request.Read at a command with a key. -/
import Derived.Test.YtnmhmabifeapkaaR7
import Derived.Deep.MidRow
import Derived.Lib.LazyBuf
namespace Go.Proofs.Ytnmhmabifeapkaa.Ord
open Go.RowKit
set_option linter.unusedVariables false

/-- a row given by a list of cells -/
def listF (l : List Value) : Nat → Value := fun i => l.getD i undef
theorem row_list (w : World) (l : List Value) (t : TypeId) : (w.alloc (.cells l.toArray t)).rowIs w.heap.size t l.length (listF l) := by
  have := World.rowIs_alloc w l.toArray t (listF l) (fun i hi => by simp at hi; simp [listF, List.getD, hi])
  simpa using this
def cmdL (op : Int) (s : ByteArray) : List Value := [.int .i64 op, .string s, .slice none 0 0, .slice none 0 0, .slice none 0 0, .int .u64 0, .int .u64 0, .string ⟨#[]⟩, .string ⟨#[]⟩, .string ⟨#[]⟩]

theorem row_cells {w : World} {b n : Nat} {t : TypeId} {f : Nat → Value} (h : w.rowIs b t n f) (l : List Value) (hl : l.length = n) (hf : ∀ i, i < n → f i = l.getD i undef) : CellsAt w ⟨b, 0, none⟩ l := by
  intro j v hj
  have hjn : j < n := by have := (List.getElem?_eq_some_iff.1 hj).1; omega
  rw [Addr.add_mid, Nat.zero_add, World.rowIs.cell h hjn, hf j hjn]
  simp [List.getD, hj]
theorem row_there {w : World} {b n : Nat} {t : TypeId} {f : Nat → Value} (h : w.rowIs b t n f) : w.there b 0 n := fun j hj =>
  ⟨by rw [Nat.zero_add, World.rowIs.cell h hj]; rfl, World.rowIs.frozen h _⟩
theorem store_all {w : World} {b n : Nat} {t : TypeId} {f : Nat → Value} (h : w.rowIs b t n f) (l : List Value) (hl : l.length = n) : (w.setCells b 0 l).rowIs b t n (listF l) := by
  refine World.rowIs.congr (rowIs_setCells l 0 w f h) fun j hj => ?_
  rw [if_pos (by omega)]
  have : j < l.length := by omega
  simp [listF, List.getD, List.getElem?_eq_getElem this]
theorem kept_setCells {L : List Nat} {a : World} {b : Nat} (hb : b ∈ L) : ∀ (vs : List Value) (o : Nat) (w : World), Kept L a w → Kept L a (w.setCells b o vs)
  | [], _, _, h => h
  | v :: r, o, w, h => kept_setCells hb r (o + 1) _ (h.setCell (by exact hb) v)
theorem wpList_store_at2 {P : Program} {ops : Array Oper} {rest : List Oper} {op : Oper} {a : Act} {w : World} {Q : Exit → Act → World → Prop} (hgd : op.guard = none) (ty : TypeId) (x y : Operand) (ho : op.op = .store ty x y)
    (b o : Nat) (cells : Array Value) (hx : a.eval x = .pointer (some ⟨b, o, none⟩)) (hy : a.eval y = .agg cells)
    (ht : w.there b o cells.size) (hi : (P.info? ty).map (·.size) = some cells.size) (h1 : cells.all (·.oneCell') = true)
    (h : ∀ w', w' = w.setCells b o cells.toList → wpList P ops Q rest (a.put op.dst undef) w') : wpList P ops Q (op :: rest) a w :=
  wpList_store_mid hgd ty x y ho b o cells hx hy ht hi h1 (h _ rfl)
theorem cmdL_size (op : Int) (s : ByteArray) : (Try.prog.info? 45).map (·.size) = some (cmdL op s).length := by kernel_rfl
theorem cmdL_sizeA (op : Int) (s : ByteArray) : (Try.prog.info? 45).map (·.size) = some (cmdL op s).toArray.size := by kernel_rfl

theorem results_cell2 {P : Program} {fn : Func} {p u : Tmp} {ty : TypeId} (h : fn.results = #[.cell p ty, .tmp u]) (tmps : Array Value) (w : World) (ad : Addr) (cs : Array Value)
    (hp : tmps.getD p undef = .pointer (some ad)) (hl : (loadVar ty ad).run P w = .ok (.agg cs) w) : (results fn tmps).run P w = .ok (.tuple #[.agg cs, tmps.getD u undef]) w := by
  have hp' : tmps[p]?.getD undef = .pointer (some ad) := by simpa using hp
  simp [results, h, hp', asAddr, hl]

theorem cmdL_one (op : Int) (s : ByteArray) : (cmdL op s).toArray.all (·.oneCell') = true := all_oneCell_toArray fun v hv => by
  simp only [cmdL, List.mem_cons, List.not_mem_nil, or_false] at hv
  rcases hv with rfl | rfl | rfl | rfl | rfl | rfl | rfl | rfl | rfl | rfl <;> rfl

theorem read_start (w : World) (u v : Value) (op : Int) : ∃ W, W = ((w.alloc (.cells #[u, v] 111)).alloc (.cells #[.int .i64 0, .string ⟨#[]⟩, .slice none 0 0, .slice none 0 0, .slice none 0 0, .int .u64 0, .int .u64 0, .string ⟨#[]⟩, .string ⟨#[]⟩, .string ⟨#[]⟩] 45)).alloc (.cells #[.int .i64 op, .string ⟨#[]⟩, .slice none 0 0, .slice none 0 0, .slice none 0 0, .int .u64 0, .int .u64 0, .string ⟨#[]⟩, .string ⟨#[]⟩, .string ⟨#[]⟩] 45) ∧
    W.rowIs (w.heap.size + 1 + 1) 45 10 (listF (cmdL op ⟨#[]⟩)) ∧ W.rowIs (w.heap.size + 1) 45 10 (listF (cmdL 0 ⟨#[]⟩)) ∧ Below w.heap.size w W ∧ W.heap.size = w.heap.size + 3 := by
  refine ⟨_, rfl, ?_, ?_, below3 w _ _ _, by simp⟩
  · have := row_list ((w.alloc (.cells #[u, v] 111)).alloc (.cells (cmdL 0 ⟨#[]⟩).toArray 45)) (cmdL op ⟨#[]⟩) 45
    simpa [cmdL] using this
  · have := World.rowIs.alloc (row_list (w.alloc (.cells #[u, v] 111)) (cmdL 0 ⟨#[]⟩) 45) (.cells (cmdL op ⟨#[]⟩).toArray 45)
    simpa [cmdL] using this

set_option maxRecDepth 100000 in
set_option maxHeartbeats 2000000 in
theorem read_get (s : ByteArray) (A : Option Addr) (k c : Nat) (w : World) (h1 : 0 < s.size) (h2 : s.size ≤ 127) (hk : (putV s.size ++ sBytes s).length = k) (hA : Byt w w.heap.size A c (putV s.size ++ sBytes s)) :
    Calls Try.prog 98 #[.agg #[.int .u8 4, .slice A k c]] w fun e w' => e = .returned (.tuple #[.agg (cmdL 4 s).toArray, .int .i64 0]) ∧ Below w.heap.size w w' := by
  have hpl : (putV s.size).length ≤ 10 := putV_len10 (by omega)
  have hsl := sBytes_len s
  have hkl : k ≤ 200 := by rw [← hk, List.length_append]; omega
  go_enter Try.func98, Try.ntmps98
  go_wp2_with fail
  obtain ⟨W1, hW1, hC1, hD1, hb1, hs1⟩ := read_start w (.int .u8 4) (.slice A k c) 4
  rw [← hW1]
  clear hW1
  refine (new_any A k c _ W1 hk (by omega) ((hA.below hb1 (Nat.le_refl _)).mono (by omega))).mono ?_
  rintro e w2 ⟨R, v2, rfl, hRs, hR2, hv2, hb2⟩
  have hC2 := World.rowIs.of_block hC1 (hb2.block _ (by omega))
  have hD2 := World.rowIs.of_block hD1 (hb2.block _ (by omega))
  clear hC1 hD1
  have hRC : w.heap.size + 1 + 1 ≠ R := by omega
  have hRw := World.rowIs.lt hR2
  have hb2s := hb2.size
  go_wp2_with fail
  have hX3 := row_list w2 [.pointer (some ⟨w.heap.size + 1 + 1, 0, none⟩), .pointer (some ⟨R, 0, none⟩), .slice none 0 0, .bool false] 149
  have hX3 : (w2.alloc (.cells #[.pointer (some ⟨w.heap.size + 1 + 1, 0, none⟩), .pointer (some ⟨R, 0, none⟩), .slice none 0 0, .bool false] 149)).rowIs w2.heap.size 149 4 (codF (.pointer (some ⟨w.heap.size + 1 + 1, 0, none⟩)) (.pointer (some ⟨R, 0, none⟩)) (.slice none 0 0) false) := World.rowIs.congr (by simpa using hX3) fun i hi => by
    match i, hi with
    | 0, _ => rfl
    | 1, _ => rfl
    | 2, _ => rfl
    | 3, _ => rfl
  have hC3 := World.rowIs.alloc hC2 (.cells #[.pointer (some ⟨w.heap.size + 1 + 1, 0, none⟩), .pointer (some ⟨R, 0, none⟩), .slice none 0 0, .bool false] 149)
  have hD3 := World.rowIs.alloc hD2 (.cells #[.pointer (some ⟨w.heap.size + 1 + 1, 0, none⟩), .pointer (some ⟨R, 0, none⟩), .slice none 0 0, .bool false] 149)
  have hR3 := World.rowIs.alloc hR2 (.cells #[.pointer (some ⟨w.heap.size + 1 + 1, 0, none⟩), .pointer (some ⟨R, 0, none⟩), .slice none 0 0, .bool false] 149)
  have hv3 := (hv2 [w2.heap.size, w.heap.size + 1 + 1, R] (fun k hk => by simp at hk; omega)).kept (Kept.of_below (L := []) (below1 w2 (.cells #[.pointer (some ⟨w.heap.size + 1 + 1, 0, none⟩), .pointer (some ⟨R, 0, none⟩), .slice none 0 0, .bool false] 149))) (by simp)
  have hb3 := below1 w2 (.cells #[.pointer (some ⟨w.heap.size + 1 + 1, 0, none⟩), .pointer (some ⟨R, 0, none⟩), .slice none 0 0, .bool false] 149)
  have hs3 : (w2.alloc (.cells #[.pointer (some ⟨w.heap.size + 1 + 1, 0, none⟩), .pointer (some ⟨R, 0, none⟩), .slice none 0 0, .bool false] 149)).heap.size = w2.heap.size + 1 := by simp
  generalize w2.alloc (.cells #[.pointer (some ⟨w.heap.size + 1 + 1, 0, none⟩), .pointer (some ⟨R, 0, none⟩), .slice none 0 0, .bool false] 149) = w3 at *
  refine (parts_get_r w2.heap.size (w.heap.size + 1 + 1) R _ s ⟨#[]⟩ _ v2 [] false w3 h1 (by omega) hC3 rfl rfl (by omega) (by omega) hRC hX3 hR3 (by simpa using hv3) (get_small (by omega)) (by simp)).mono ?_
  rintro e w4 ⟨rfl, v4, hX4, hC4, hR4, hv4, hk4⟩
  have hD4 := hk4.row (by simp; omega) hD3
  obtain ⟨A4, c4, rfl, hby4, _⟩ := hv4
  have hx43 : w4.cell? ⟨w2.heap.size, 3, none⟩ = some (.bool false) := World.rowIs.cell hX4 (i := 3) (by decide)
  have hx41 : w4.cell? ⟨w2.heap.size, 1, none⟩ = some (.pointer (some ⟨R, 0, none⟩)) := World.rowIs.cell hX4 (i := 1) (by decide)
  have hr41 : w4.cell? ⟨R, 1, none⟩ = some (.slice A4 0 c4) := World.rowIs.cell hR4 (i := 1) (by decide)
  have HC4 := Lib.hid hC4
  have HD4 := Lib.hid hD4
  clear hC4 hD4 hX4 hR4 hX3 hC3 hD3 hR3 hv3 hv2 hC2 hD2 hR2
  have HCC := Lib.hid (row_cells HC4.out (cmdL 4 s) rfl fun i hi => by
    match i, hi with
    | 0, _ => rfl
    | 1, _ => rfl
    | 2, _ => rfl
    | 3, _ => rfl
    | 4, _ => rfl
    | 5, _ => rfl
    | 6, _ => rfl
    | 7, _ => rfl
    | 8, _ => rfl
    | 9, _ => rfl)
  have HT4 := Lib.hid (row_there HD4.out)
  go_wp2_with fail
  go_enter Try.func135, Try.ntmps135
  go_wp2_with (first
    | ((with_reducible refine wpList_load_agg (o := ⟨some 24, _, _, _, _, _⟩) rfl 45 _ rfl ⟨w.heap.size + 1 + 1, 0, none⟩ ?_ (cmdL 4 s) _ HCC.out Try.underlying45 rfl (cmdL_size _ _) ?_); (· rfl))
    | ((with_reducible refine wpList_store_at2 (op := ⟨none, _, _, _, _, _⟩) rfl 45 _ _ rfl (w.heap.size + 1) 0 (cmdL 4 s).toArray ?_ ?_ ?_ (cmdL_sizeA _ _) ?_ ?_); (· rfl); (· rfl); (· exact HT4.out); (· exact cmdL_one _ _); intro w5 hw5))
  have hD5 := store_all HD4.out (cmdL 4 s) rfl
  have hc5 := row_cells hD5 (cmdL 4 s) rfl fun i hi => rfl
  have hk5 : Kept [w2.heap.size, w.heap.size + 1 + 1, R, w.heap.size + 1] w3 (w4.setCells (w.heap.size + 1) 0 (cmdL 4 s)) := kept_setCells (by simp) _ _ _ (hk4.mono (by simp))
  refine bodyPost_ret (results_cell2 rfl _ _ ⟨w.heap.size + 1, 0, none⟩ (cmdL 4 s).toArray rfl (run_loadVar_at _ _ _ _ _ hc5 Try.underlying45 rfl (cmdL_size _ _))) rfl ⟨rfl, ?_⟩
  have hbb : Below w.heap.size w w3 := by
    have h5 := hb1.trans (hb2.mono (by omega))
    exact h5.trans (hb3.mono (by omega))
  exact hbb.trans (hk5.below (by omega) (by simp; omega))
end Go.Proofs.Ytnmhmabifeapkaa.Ord
