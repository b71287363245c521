/- Walks of short commands, written and read. -/
import Derived.Test.YtnmhmabifeapkaaM2
import Derived.Deep.MidRow
import Derived.Lib.LazyBuf
import Derived.MapKept
import Derived.Test.YtnmhmabifeapkaaM1
/- Walk of request.Read at a command with a key. -/
namespace Go.Proofs.Ytnmhmabifeapkaa.Ord
open Go.RowKit
set_option linter.unusedVariables false

/-- a row given by a list of cells -/
def listF (l : List Value) : Nat → Value := fun i => l.getD i undef
theorem row_list (w : World) (l : List Value) (t : TypeId) : (w.alloc (.cells l.toArray t)).rowIs w.heap.size t l.length (listF l) := by
  have := World.rowIs_alloc w l.toArray t (listF l) (fun i hi => by simp at hi; simp [listF, List.getD, hi])
  simpa using this
def cmdL (op : Int) (s : ByteArray) : List Value := [.int .i64 op, .string s, .slice none 0 0, .slice none 0 0, .slice none 0 0, .int .u64 0, .int .u64 0, .string ⟨#[]⟩, .string ⟨#[]⟩, .string ⟨#[]⟩]

theorem row_cells {w : World} {b n : Nat} {t : TypeId} {f : Nat → Value} (h : w.rowIs b t n f) (l : List Value) (hl : l.length = n) (hf : ∀ i, i < n → f i = l.getD i undef) : CellsAt w ⟨b, 0, none⟩ l := by
  intro j v hj
  have hjn : j < n := by have := (List.getElem?_eq_some_iff.1 hj).1; omega
  rw [Addr.add_mid, Nat.zero_add, World.rowIs.cell h hjn, hf j hjn]
  simp [List.getD, hj]
theorem row_there {w : World} {b n : Nat} {t : TypeId} {f : Nat → Value} (h : w.rowIs b t n f) : w.there b 0 n := fun j hj =>
  ⟨by rw [Nat.zero_add, World.rowIs.cell h hj]; rfl, World.rowIs.frozen h _⟩
theorem store_all {w : World} {b n : Nat} {t : TypeId} {f : Nat → Value} (h : w.rowIs b t n f) (l : List Value) (hl : l.length = n) : (w.setCells b 0 l).rowIs b t n (listF l) := by
  refine World.rowIs.congr (rowIs_setCells l 0 w f h) fun j hj => ?_
  rw [if_pos (by omega)]
  have : j < l.length := by omega
  simp [listF, List.getD, List.getElem?_eq_getElem this]
theorem kept_setCells {L : List Nat} {a : World} {b : Nat} (hb : b ∈ L) : ∀ (vs : List Value) (o : Nat) (w : World), Kept L a w → Kept L a (w.setCells b o vs)
  | [], _, _, h => h
  | v :: r, o, w, h => kept_setCells hb r (o + 1) _ (h.setCell (by exact hb) v)
theorem wpList_store_at2 {P : Program} {ops : Array Oper} {rest : List Oper} {op : Oper} {a : Act} {w : World} {Q : Exit → Act → World → Prop} (hgd : op.guard = none) (ty : TypeId) (x y : Operand) (ho : op.op = .store ty x y)
    (b o : Nat) (cells : Array Value) (hx : a.eval x = .pointer (some ⟨b, o, none⟩)) (hy : a.eval y = .agg cells)
    (ht : w.there b o cells.size) (hi : (P.info? ty).map (·.size) = some cells.size) (h1 : cells.all (·.oneCell') = true)
    (h : ∀ w', w' = w.setCells b o cells.toList → wpList P ops Q rest (a.put op.dst undef) w') : wpList P ops Q (op :: rest) a w :=
  wpList_store_mid hgd ty x y ho b o cells hx hy ht hi h1 (h _ rfl)
theorem cmdL_size (op : Int) (s : ByteArray) : (Try.prog.info? 45).map (·.size) = some (cmdL op s).length := by kernel_rfl
theorem cmdL_sizeA (op : Int) (s : ByteArray) : (Try.prog.info? 45).map (·.size) = some (cmdL op s).toArray.size := by kernel_rfl

theorem results_cell2 {P : Program} {fn : Func} {p u : Tmp} {ty : TypeId} (h : fn.results = #[.cell p ty, .tmp u]) (tmps : Array Value) (w : World) (ad : Addr) (cs : Array Value)
    (hp : tmps.getD p undef = .pointer (some ad)) (hl : (loadVar ty ad).run P w = .ok (.agg cs) w) : (results fn tmps).run P w = .ok (.tuple #[.agg cs, tmps.getD u undef]) w := by
  have hp' : tmps[p]?.getD undef = .pointer (some ad) := by simpa using hp
  simp [results, h, hp', asAddr, hl]

theorem cmdL_one (op : Int) (s : ByteArray) : (cmdL op s).toArray.all (·.oneCell') = true := all_oneCell_toArray fun v hv => by
  simp only [cmdL, List.mem_cons, List.not_mem_nil, or_false] at hv
  rcases hv with rfl | rfl | rfl | rfl | rfl | rfl | rfl | rfl | rfl | rfl <;> rfl

theorem read_start (w : World) (u v : Value) (op : Int) : ∃ W, W = ((w.alloc (.cells #[u, v] 111)).alloc (.cells #[.int .i64 0, .string ⟨#[]⟩, .slice none 0 0, .slice none 0 0, .slice none 0 0, .int .u64 0, .int .u64 0, .string ⟨#[]⟩, .string ⟨#[]⟩, .string ⟨#[]⟩] 45)).alloc (.cells #[.int .i64 op, .string ⟨#[]⟩, .slice none 0 0, .slice none 0 0, .slice none 0 0, .int .u64 0, .int .u64 0, .string ⟨#[]⟩, .string ⟨#[]⟩, .string ⟨#[]⟩] 45) ∧
    W.rowIs (w.heap.size + 1 + 1) 45 10 (listF (cmdL op ⟨#[]⟩)) ∧ W.rowIs (w.heap.size + 1) 45 10 (listF (cmdL 0 ⟨#[]⟩)) ∧ Below w.heap.size w W ∧ W.heap.size = w.heap.size + 3 := by
  refine ⟨_, rfl, ?_, ?_, below3 w _ _ _, by simp⟩
  · have := row_list ((w.alloc (.cells #[u, v] 111)).alloc (.cells (cmdL 0 ⟨#[]⟩).toArray 45)) (cmdL op ⟨#[]⟩) 45
    simpa [cmdL] using this
  · have := World.rowIs.alloc (row_list (w.alloc (.cells #[u, v] 111)) (cmdL 0 ⟨#[]⟩) 45) (.cells (cmdL op ⟨#[]⟩).toArray 45)
    simpa [cmdL] using this

set_option maxRecDepth 100000 in
set_option maxHeartbeats 2000000 in
theorem read_get (s : ByteArray) (A : Option Addr) (k c : Nat) (w : World) (h1 : 0 < s.size) (h2 : s.size ≤ 127) (hk : (putV s.size ++ sBytes s).length = k) (hA : Byt w w.heap.size A c (putV s.size ++ sBytes s)) :
    Calls Try.prog 98 #[.agg #[.int .u8 4, .slice A k c]] w fun e w' => e = .returned (.tuple #[.agg (cmdL 4 s).toArray, .int .i64 0]) ∧ Below w.heap.size w w' := by
  have hpl : (putV s.size).length ≤ 10 := putV_len10 (by omega)
  have hsl := sBytes_len s
  have hkl : k ≤ 200 := by rw [← hk, List.length_append]; omega
  go_enter Try.func98, Try.ntmps98
  go_wp2_with fail
  obtain ⟨W1, hW1, hC1, hD1, hb1, hs1⟩ := read_start w (.int .u8 4) (.slice A k c) 4
  rw [← hW1]
  clear hW1
  refine (new_any A k c _ W1 hk (by omega) ((hA.below hb1 (Nat.le_refl _)).mono (by omega))).mono ?_
  rintro e w2 ⟨R, v2, rfl, hRs, hR2, hv2, hb2⟩
  have hC2 := World.rowIs.of_block hC1 (hb2.block _ (by omega))
  have hD2 := World.rowIs.of_block hD1 (hb2.block _ (by omega))
  clear hC1 hD1
  have hRC : w.heap.size + 1 + 1 ≠ R := by omega
  have hRw := World.rowIs.lt hR2
  have hb2s := hb2.size
  go_wp2_with fail
  have hX3 := row_list w2 [.pointer (some ⟨w.heap.size + 1 + 1, 0, none⟩), .pointer (some ⟨R, 0, none⟩), .slice none 0 0, .bool false] 149
  have hX3 : (w2.alloc (.cells #[.pointer (some ⟨w.heap.size + 1 + 1, 0, none⟩), .pointer (some ⟨R, 0, none⟩), .slice none 0 0, .bool false] 149)).rowIs w2.heap.size 149 4 (codF (.pointer (some ⟨w.heap.size + 1 + 1, 0, none⟩)) (.pointer (some ⟨R, 0, none⟩)) (.slice none 0 0) false) := World.rowIs.congr (by simpa using hX3) fun i hi => by
    match i, hi with
    | 0, _ => rfl
    | 1, _ => rfl
    | 2, _ => rfl
    | 3, _ => rfl
  have hC3 := World.rowIs.alloc hC2 (.cells #[.pointer (some ⟨w.heap.size + 1 + 1, 0, none⟩), .pointer (some ⟨R, 0, none⟩), .slice none 0 0, .bool false] 149)
  have hD3 := World.rowIs.alloc hD2 (.cells #[.pointer (some ⟨w.heap.size + 1 + 1, 0, none⟩), .pointer (some ⟨R, 0, none⟩), .slice none 0 0, .bool false] 149)
  have hR3 := World.rowIs.alloc hR2 (.cells #[.pointer (some ⟨w.heap.size + 1 + 1, 0, none⟩), .pointer (some ⟨R, 0, none⟩), .slice none 0 0, .bool false] 149)
  have hv3 := (hv2 [w2.heap.size, w.heap.size + 1 + 1, R] (fun k hk => by simp at hk; omega)).kept (Kept.of_below (L := []) (below1 w2 (.cells #[.pointer (some ⟨w.heap.size + 1 + 1, 0, none⟩), .pointer (some ⟨R, 0, none⟩), .slice none 0 0, .bool false] 149))) (by simp)
  have hb3 := below1 w2 (.cells #[.pointer (some ⟨w.heap.size + 1 + 1, 0, none⟩), .pointer (some ⟨R, 0, none⟩), .slice none 0 0, .bool false] 149)
  have hs3 : (w2.alloc (.cells #[.pointer (some ⟨w.heap.size + 1 + 1, 0, none⟩), .pointer (some ⟨R, 0, none⟩), .slice none 0 0, .bool false] 149)).heap.size = w2.heap.size + 1 := by simp
  generalize w2.alloc (.cells #[.pointer (some ⟨w.heap.size + 1 + 1, 0, none⟩), .pointer (some ⟨R, 0, none⟩), .slice none 0 0, .bool false] 149) = w3 at *
  refine (parts_get_r w2.heap.size (w.heap.size + 1 + 1) R _ s ⟨#[]⟩ _ v2 [] false w3 h1 (by omega) hC3 rfl rfl (by omega) (by omega) hRC hX3 hR3 (by simpa using hv3) (get_small (by omega)) (by simp)).mono ?_
  rintro e w4 ⟨rfl, v4, hX4, hC4, hR4, hv4, hk4⟩
  have hD4 := hk4.row (by simp; omega) hD3
  obtain ⟨A4, c4, rfl, hby4, _⟩ := hv4
  have hx43 : w4.cell? ⟨w2.heap.size, 3, none⟩ = some (.bool false) := World.rowIs.cell hX4 (i := 3) (by decide)
  have hx41 : w4.cell? ⟨w2.heap.size, 1, none⟩ = some (.pointer (some ⟨R, 0, none⟩)) := World.rowIs.cell hX4 (i := 1) (by decide)
  have hr41 : w4.cell? ⟨R, 1, none⟩ = some (.slice A4 0 c4) := World.rowIs.cell hR4 (i := 1) (by decide)
  have HC4 := Lib.hid hC4
  have HD4 := Lib.hid hD4
  clear hC4 hD4 hX4 hR4 hX3 hC3 hD3 hR3 hv3 hv2 hC2 hD2 hR2
  have HCC := Lib.hid (row_cells HC4.out (cmdL 4 s) rfl fun i hi => by
    match i, hi with
    | 0, _ => rfl
    | 1, _ => rfl
    | 2, _ => rfl
    | 3, _ => rfl
    | 4, _ => rfl
    | 5, _ => rfl
    | 6, _ => rfl
    | 7, _ => rfl
    | 8, _ => rfl
    | 9, _ => rfl)
  have HT4 := Lib.hid (row_there HD4.out)
  go_wp2_with fail
  go_enter Try.func135, Try.ntmps135
  go_wp2_with (first
    | ((with_reducible refine wpList_load_agg (o := ⟨some 24, _, _, _, _, _⟩) rfl 45 _ rfl ⟨w.heap.size + 1 + 1, 0, none⟩ ?_ (cmdL 4 s) _ HCC.out Try.underlying45 rfl (cmdL_size _ _) ?_); (· rfl))
    | ((with_reducible refine wpList_store_at2 (op := ⟨none, _, _, _, _, _⟩) rfl 45 _ _ rfl (w.heap.size + 1) 0 (cmdL 4 s).toArray ?_ ?_ ?_ (cmdL_sizeA _ _) ?_ ?_); (· rfl); (· rfl); (· exact HT4.out); (· exact cmdL_one _ _); intro w5 hw5))
  have hD5 := store_all HD4.out (cmdL 4 s) rfl
  have hc5 := row_cells hD5 (cmdL 4 s) rfl fun i hi => rfl
  have hk5 : Kept [w2.heap.size, w.heap.size + 1 + 1, R, w.heap.size + 1] w3 (w4.setCells (w.heap.size + 1) 0 (cmdL 4 s)) := kept_setCells (by simp) _ _ _ (hk4.mono (by simp))
  refine bodyPost_ret (results_cell2 rfl _ _ ⟨w.heap.size + 1, 0, none⟩ (cmdL 4 s).toArray rfl (run_loadVar_at _ _ _ _ _ hc5 Try.underlying45 rfl (cmdL_size _ _))) rfl ⟨rfl, ?_⟩
  have hbb : Below w.heap.size w w3 := by
    have h5 := hb1.trans (hb2.mono (by omega))
    exact h5.trans (hb3.mono (by omega))
  exact hbb.trans (hk5.below (by omega) (by simp; omega))
end Go.Proofs.Ytnmhmabifeapkaa.Ord
/- Walks of the commands of short requests: a Get and a Flush. -/

namespace Go.Proofs.Ytnmhmabifeapkaa.Ord
open Go.RowKit
set_option linter.unusedVariables false

theorem set_alloc (W : World) (o o' : Obj) : ({ W.alloc o with heap := (W.alloc o).heap.setIfInBounds W.heap.size o' } : World) = W.alloc o' := by
  have h : (W.heap.push o).setIfInBounds W.heap.size o' = W.heap.push o' := by
    apply Array.ext_getElem?
    intro k
    simp only [Array.getElem?_setIfInBounds, Array.getElem?_push]
    by_cases hk : k = W.heap.size
    · subst hk; simp
    · simp [hk, Ne.symm hk]
  show ({ heap := (W.heap.push o).setIfInBounds W.heap.size o', tape := W.tape, drawn := W.drawn, os := W.os, output := W.output } : World) = { heap := W.heap.push o', tape := W.tape, drawn := W.drawn, os := W.os, output := W.output }
  rw [h]
theorem upd_new (W : World) (n : Nat) (hn : W.heap.size = n) (es : Array MapEntry) (c : Nat) (kk : Int) (v : Value) (hk : Instr.findNow (.int .i64) (.int .i64 kk) es.toList 0 = some none) :
    (Instr.mapUpdate 154 (.map (some n)) (.int .i64 kk) v).run Try.prog (W.alloc (.map es c)) = .ok () (W.alloc (.map (es.push { key := .int .i64 kk, val := v, born := c }) (c + 1))) := by
  subst hn
  have hb : (W.alloc (.map es c)).heap[W.heap.size]? = some (.map es c) := heap_alloc_new W _
  have h1 := Go.MapKept.run_getObj_map (P := Try.prog) hb
  have h2 : (Instr.checkKey false 10000 40 (.int .i64 kk)).run Try.prog (W.alloc (.map es c)) = .ok () (W.alloc (.map es c)) := Go.MapKept.run_checkKey Try.underlying40 (by simp [Go.MapKept.IsKey]) false 9999
  have h3 := Go.MapKept.run_findKey (P := Try.prog) (w := W.alloc (.map es c)) (kt := 40) Try.underlying40 hk
  have h4 := Go.MapKept.run_setObj_map (P := Try.prog) (.map (es.push { key := .int .i64 kk, val := v, born := c }) (c + 1)) hb
  unfold Instr.mapUpdate
  rw [Sem.run_bind, run_underlying Try.underlying154]
  simp only [Result.andThen_ok]
  rw [Sem.run_bind, h1]
  simp only [Result.andThen_ok]
  rw [Sem.run_bind, h2]
  simp only [Result.andThen_ok]
  rw [Sem.run_bind, h3]
  simp only [Result.andThen_ok]
  rw [h4, set_alloc]

theorem look_none (W : World) (n : Nat) (es : Array MapEntry) (c : Nat) (kk : Int) (hb : W.heap[n]? = some (.map es c)) (hk : Instr.findNow (.int .i64) (.int .i64 kk) es.toList 0 = some none) :
    (Instr.lookup 154 (.map (some n)) (.int .i64 kk) true).run Try.prog W = .ok (.tuple #[.nilFunc, .bool false]) W := by
  have h1 := Go.MapKept.run_getObj_map (P := Try.prog) hb
  have h2 : ∀ e, (Instr.checkKey e 10000 40 (.int .i64 kk)).run Try.prog W = .ok () W := fun e => Go.MapKept.run_checkKey Try.underlying40 (by simp [Go.MapKept.IsKey]) e 9999
  have h3 := Go.MapKept.run_findKey (P := Try.prog) (w := W) (kt := 40) Try.underlying40 hk
  unfold Instr.lookup
  rw [Sem.run_bind, run_underlying Try.underlying154]
  simp only [Result.andThen_ok]
  simp only [Sem.run_bind, h1, h2, h3, Result.andThen_ok, Sem.run_pure, Try.zeroValue152, if_true]
theorem look_some (W : World) (n : Nat) (es : Array MapEntry) (c : Nat) (kk : Int) (i : Nat) (v : Value) (hb : W.heap[n]? = some (.map es c)) (hk : Instr.findNow (.int .i64) (.int .i64 kk) es.toList 0 = some (some (i, v))) :
    (Instr.lookup 154 (.map (some n)) (.int .i64 kk) true).run Try.prog W = .ok (.tuple #[v, .bool true]) W := by
  have h1 := Go.MapKept.run_getObj_map (P := Try.prog) hb
  have h2 : ∀ e, (Instr.checkKey e 10000 40 (.int .i64 kk)).run Try.prog W = .ok () W := fun e => Go.MapKept.run_checkKey Try.underlying40 (by simp [Go.MapKept.IsKey]) e 9999
  have h3 := Go.MapKept.run_findKey (P := Try.prog) (w := W) (kt := 40) Try.underlying40 hk
  unfold Instr.lookup
  rw [Sem.run_bind, run_underlying Try.underlying154]
  simp only [Result.andThen_ok]
  simp only [Sem.run_bind, h1, h2, h3, Result.andThen_ok, Sem.run_pure, if_true]

def ents (k : Nat) : Array MapEntry := (([{ key := .int .i64 1, val := .func (.func 104) #[] #[], born := 0 }, { key := .int .i64 2, val := .func (.func 104) #[] #[], born := 1 }, { key := .int .i64 3, val := .func (.func 104) #[] #[], born := 2 }, { key := .int .i64 5, val := .func (.func 105) #[] #[], born := 3 }, { key := .int .i64 6, val := .func (.func 99) #[] #[], born := 4 }, { key := .int .i64 8, val := .func (.func 106) #[] #[], born := 5 }, { key := .int .i64 9, val := .func (.func 106) #[] #[], born := 6 }, { key := .int .i64 10, val := .func (.func 107) #[] #[], born := 7 }, { key := .int .i64 11, val := .func (.func 101) #[] #[], born := 8 }, { key := .int .i64 12, val := .func (.func 101) #[] #[], born := 9 }, { key := .int .i64 14, val := .func (.func 103) #[] #[], born := 10 }, { key := .int .i64 15, val := .func (.func 103) #[] #[], born := 11 }] : List MapEntry).take k).toArray
theorem short_upd (i : Nat) (kk : Int) (v : Value) (hk : Instr.findNow (.int .i64) (.int .i64 kk) (ents i).toList 0 = some none) (he : (ents i).push { key := .int .i64 kk, val := v, born := i } = ents (i + 1)) (W : World) :
    (Instr.mapUpdate 154 (.map (some W.heap.size)) (.int .i64 kk) v).run Try.prog (W.alloc (.map (ents i) i)) = .ok () (W.alloc (.map (ents (i + 1)) (i + 1))) := by
  rw [upd_new W _ rfl _ _ _ _ hk, he]

def keysV : Array Value := #[.string ⟨#[97]⟩, .string ⟨#[98]⟩, .string ⟨#[99]⟩, .string ⟨#[97, 47]⟩, .string ⟨#[97, 47, 49]⟩, .string ⟨#[97, 47, 50]⟩, .string ⟨#[98, 47, 49]⟩, .string ⟨#[120, 47, 121, 47, 122]⟩]
theorem index_key (w : World) : (Instr.index 183 (.agg keysV) (.int .i64 0)).run Try.prog w = .ok (.string ⟨#[97]⟩) w := by
  unfold Instr.index
  simp [asIntOf, run_underlying Try.underlying183, part, Try.isAgg9, Try.sizeOf9, keysV]
set_option maxRecDepth 100000 in
theorem key_zero (w : World) : Calls Try.prog 102 #[.int .i64 0] w fun e w' => e = .returned (.string ⟨#[97]⟩) ∧ w' = w := by
  have hi := index_key w
  unfold keysV at hi
  go_enter Try.func102, Try.ntmps102
  go_wp2_with fail
  go_ret
  exact ⟨rfl, rfl⟩

set_option maxRecDepth 100000 in
set_option maxHeartbeats 2000000 in
theorem short_get (z u : Int) (w : World) : Calls Try.prog 77 #[.int .i64 3, .int .i64 z, .int .i64 u] w fun e w' => e = .returned (.agg (cmdL 4 ⟨#[97]⟩).toArray) ∧ Below w.heap.size w w' := by
  have hmk : ∀ w, (Instr.makeMap 154 none).run Try.prog w = .ok (.map (some w.heap.size)) (w.alloc (.map (ents 0) 0)) := fun _ => rfl
  have u0 := short_upd 0 1 (.func (.func 104) #[] #[]) rfl rfl (w.alloc (.cells (cmdL 0 ⟨#[]⟩).toArray 45))
  have u1 := short_upd 1 2 (.func (.func 104) #[] #[]) rfl rfl (w.alloc (.cells (cmdL 0 ⟨#[]⟩).toArray 45))
  have u2 := short_upd 2 3 (.func (.func 104) #[] #[]) rfl rfl (w.alloc (.cells (cmdL 0 ⟨#[]⟩).toArray 45))
  have u3 := short_upd 3 5 (.func (.func 105) #[] #[]) rfl rfl (w.alloc (.cells (cmdL 0 ⟨#[]⟩).toArray 45))
  have u4 := short_upd 4 6 (.func (.func 99) #[] #[]) rfl rfl (w.alloc (.cells (cmdL 0 ⟨#[]⟩).toArray 45))
  have u5 := short_upd 5 8 (.func (.func 106) #[] #[]) rfl rfl (w.alloc (.cells (cmdL 0 ⟨#[]⟩).toArray 45))
  have u6 := short_upd 6 9 (.func (.func 106) #[] #[]) rfl rfl (w.alloc (.cells (cmdL 0 ⟨#[]⟩).toArray 45))
  have u7 := short_upd 7 10 (.func (.func 107) #[] #[]) rfl rfl (w.alloc (.cells (cmdL 0 ⟨#[]⟩).toArray 45))
  have u8 := short_upd 8 11 (.func (.func 101) #[] #[]) rfl rfl (w.alloc (.cells (cmdL 0 ⟨#[]⟩).toArray 45))
  have u9 := short_upd 9 12 (.func (.func 101) #[] #[]) rfl rfl (w.alloc (.cells (cmdL 0 ⟨#[]⟩).toArray 45))
  have u10 := short_upd 10 14 (.func (.func 103) #[] #[]) rfl rfl (w.alloc (.cells (cmdL 0 ⟨#[]⟩).toArray 45))
  have u11 := short_upd 11 15 (.func (.func 103) #[] #[]) rfl rfl (w.alloc (.cells (cmdL 0 ⟨#[]⟩).toArray 45))
  have hsz : (w.alloc (.cells (cmdL 0 ⟨#[]⟩).toArray 45)).heap.size = w.heap.size + 1 := by simp
  simp only [hsz] at u0 u1 u2 u3 u4 u5 u6 u7 u8 u9 u10 u11
  simp only [cmdL] at u0 u1 u2 u3 u4 u5 u6 u7 u8 u9 u10 u11
  have hsz2 := hsz
  have HSZ := Lib.hid hsz2
  clear hsz hsz2
  go_enter Try.func77, Try.ntmps77
  go_wp2_with fail
  refine (key_zero _).mono ?_
  rintro e w1 ⟨rfl, rfl⟩
  have hlk := look_none (((w.alloc (.cells (cmdL 0 ⟨#[]⟩).toArray 45)).alloc (.map (ents 12) 12)).alloc (.cells (cmdL 4 ⟨#[97]⟩).toArray 45)) (w.heap.size + 1) (ents 12) 12 4 (by rw [heap_alloc_old _ _ (by simp)]; have h5 := heap_alloc_new (w.alloc (.cells (cmdL 0 ⟨#[]⟩).toArray 45)) (.map (ents 12) 12); rwa [HSZ.out] at h5) rfl
  simp only [cmdL] at hlk
  go_wp2_with fail
  refine bodyPost_ret (results_cell_row rfl _ _ w.heap.size 45 (cmdL 4 ⟨#[97]⟩).toArray (0, 0) _ rfl (by rw [heap_alloc_old _ _ (by simp; omega), heap_alloc_old _ _ (by simp)]; exact heap_alloc_new w _) Try.underlying45 rfl (cmdL_sizeA _ _)) rfl ⟨rfl, below3 w _ _ _⟩
set_option maxRecDepth 100000 in
set_option maxHeartbeats 2000000 in
theorem short_flush (z u : Int) (w : World) : Calls Try.prog 77 #[.int .i64 13, .int .i64 z, .int .i64 u] w fun e w' => e = .returned (.agg (cmdL 14 ⟨#[]⟩).toArray) ∧ Below w.heap.size w w' := by
  have hmk : ∀ w, (Instr.makeMap 154 none).run Try.prog w = .ok (.map (some w.heap.size)) (w.alloc (.map (ents 0) 0)) := fun _ => rfl
  have u0 := short_upd 0 1 (.func (.func 104) #[] #[]) rfl rfl (w.alloc (.cells (cmdL 0 ⟨#[]⟩).toArray 45))
  have u1 := short_upd 1 2 (.func (.func 104) #[] #[]) rfl rfl (w.alloc (.cells (cmdL 0 ⟨#[]⟩).toArray 45))
  have u2 := short_upd 2 3 (.func (.func 104) #[] #[]) rfl rfl (w.alloc (.cells (cmdL 0 ⟨#[]⟩).toArray 45))
  have u3 := short_upd 3 5 (.func (.func 105) #[] #[]) rfl rfl (w.alloc (.cells (cmdL 0 ⟨#[]⟩).toArray 45))
  have u4 := short_upd 4 6 (.func (.func 99) #[] #[]) rfl rfl (w.alloc (.cells (cmdL 0 ⟨#[]⟩).toArray 45))
  have u5 := short_upd 5 8 (.func (.func 106) #[] #[]) rfl rfl (w.alloc (.cells (cmdL 0 ⟨#[]⟩).toArray 45))
  have u6 := short_upd 6 9 (.func (.func 106) #[] #[]) rfl rfl (w.alloc (.cells (cmdL 0 ⟨#[]⟩).toArray 45))
  have u7 := short_upd 7 10 (.func (.func 107) #[] #[]) rfl rfl (w.alloc (.cells (cmdL 0 ⟨#[]⟩).toArray 45))
  have u8 := short_upd 8 11 (.func (.func 101) #[] #[]) rfl rfl (w.alloc (.cells (cmdL 0 ⟨#[]⟩).toArray 45))
  have u9 := short_upd 9 12 (.func (.func 101) #[] #[]) rfl rfl (w.alloc (.cells (cmdL 0 ⟨#[]⟩).toArray 45))
  have u10 := short_upd 10 14 (.func (.func 103) #[] #[]) rfl rfl (w.alloc (.cells (cmdL 0 ⟨#[]⟩).toArray 45))
  have u11 := short_upd 11 15 (.func (.func 103) #[] #[]) rfl rfl (w.alloc (.cells (cmdL 0 ⟨#[]⟩).toArray 45))
  have hsz : (w.alloc (.cells (cmdL 0 ⟨#[]⟩).toArray 45)).heap.size = w.heap.size + 1 := by simp
  simp only [hsz] at u0 u1 u2 u3 u4 u5 u6 u7 u8 u9 u10 u11
  simp only [cmdL] at u0 u1 u2 u3 u4 u5 u6 u7 u8 u9 u10 u11
  have hsz2 := hsz
  have HSZ := Lib.hid hsz2
  clear hsz hsz2
  go_enter Try.func77, Try.ntmps77
  go_wp2_with fail
  refine (key_zero _).mono ?_
  rintro e w1 ⟨rfl, rfl⟩
  have hlk := look_some (((w.alloc (.cells (cmdL 0 ⟨#[]⟩).toArray 45)).alloc (.map (ents 12) 12)).alloc (.cells (cmdL 14 ⟨#[97]⟩).toArray 45)) (w.heap.size + 1) (ents 12) 12 14 10 (.func (.func 103) #[] #[]) (by rw [heap_alloc_old _ _ (by simp)]; have h5 := heap_alloc_new (w.alloc (.cells (cmdL 0 ⟨#[]⟩).toArray 45)) (.map (ents 12) 12); rwa [HSZ.out] at h5) rfl
  simp only [cmdL] at hlk
  go_wp2_with fail
  go_enter Try.func103, Try.ntmps103
  go_wp2_with fail
  go_end0
  go_wp2_with fail
  refine bodyPost_ret (results_cell_row rfl _ _ w.heap.size 45 (cmdL 14 ⟨#[]⟩).toArray (0, 0) _ rfl (by rw [heap_alloc_old _ _ (by simp; omega), heap_alloc_old _ _ (by simp)]; exact heap_alloc_new w _) Try.underlying45 rfl (cmdL_sizeA _ _)) rfl ⟨rfl, below3 w _ _ _⟩
end Go.Proofs.Ytnmhmabifeapkaa.Ord
/- Walk of request.Write at a command with a key. -/
namespace Go.Proofs.Ytnmhmabifeapkaa.Ord
open Go.RowKit
set_option linter.unusedVariables false

theorem write_start (w : World) (l : List Value) (hl : l.length = 10) : ∃ W, W = ((w.alloc (.cells l.toArray 45)).alloc (.cells #[.int .u8 0, .slice none 0 0] 111)).alloc (.cells #[.pointer (some ⟨w.heap.size, 0, none⟩), .pointer none, .slice none 0 0, .bool false] 149) ∧
    W.rowIs w.heap.size 45 10 (listF l) ∧ W.rowIs (w.heap.size + 1) 111 2 (listF [.int .u8 0, .slice none 0 0]) ∧ W.rowIs (w.heap.size + 1 + 1) 149 4 (codF (.pointer (some ⟨w.heap.size, 0, none⟩)) (.pointer none) (.slice none 0 0) false) ∧ Below w.heap.size w W ∧ W.heap.size = w.heap.size + 3 := by
  refine ⟨_, rfl, ?_, ?_, ?_, below3 w _ _ _, by simp⟩
  · have := row_list w l 45
    rw [hl] at this
    exact World.rowIs.alloc (World.rowIs.alloc this _) _
  · have := row_list (w.alloc (.cells l.toArray 45)) [.int .u8 0, .slice none 0 0] 111
    exact World.rowIs.alloc (by simpa using this) _
  · have := row_list ((w.alloc (.cells l.toArray 45)).alloc (.cells #[.int .u8 0, .slice none 0 0] 111)) [.pointer (some ⟨w.heap.size, 0, none⟩), .pointer none, .slice none 0 0, .bool false] 149
    refine World.rowIs.congr (by simpa using this) fun i hi => ?_
    match i, hi with
    | 0, _ => rfl
    | 1, _ => rfl
    | 2, _ => rfl
    | 3, _ => rfl

theorem wpList_load_want {P : Program} {ops : Array Oper} {rest : List Oper} {o : Oper} {a : Act} {w : World} {Q : Exit → Act → World → Prop} (ty : TypeId) (x : Operand) (ho : o.op = .load ty x)
    (ad : Addr) (hx : a.eval x = .pointer (some ad)) (cs : List Value) (d : TypeDesc) (hc : CellsAt w ad cs)
    (hu : P.underlying ty = some d) (hd : (match d with | .struct _ | .array _ _ => true | _ => false) = true) (hi : (P.info? ty).map (·.size) = some cs.length)
    (hw : Region.wanted o (yielded ops a.tmps) = true)
    (h : wpList P ops Q rest (a.put o.dst (.agg cs.toArray)) w) : wpList P ops Q (o :: rest) a w := by
  unfold wpList
  rw [if_pos hw]
  exact .inl (wp_load_agg ty x ho ad hx cs d hc hu hd hi h)

set_option maxRecDepth 100000 in
set_option maxHeartbeats 2000000 in
theorem equal_cmd (op : Int) (s : ByteArray) (w : World) : Calls Try.prog 42 #[.agg (cmdL op s).toArray, .agg (cmdL op s).toArray] w fun e w' => e = .returned (.bool true) ∧ Below w.heap.size w w' := by
  have hb := below2 w (.cells (cmdL op s).toArray 45) (.cells (cmdL op s).toArray 45)
  simp only [cmdL] at hb ⊢
  go_enter Try.func42, Try.ntmps42
  go_wp2_with fail
  refine (Go.Proofs.Try.sh_slices_Equal_string_empty _ _ _ _ _ _ (by omega)).mono ?_
  rintro e w1 ⟨rfl, rfl⟩
  go_wp2_with fail
  refine (Go.Proofs.Try.sh_bytes_Equal_all none none 0 _ 0 _ [] [] _ rfl rfl (Lib.BytesIn.nil _ _ _) (Lib.BytesIn.nil _ _ _)).mono ?_
  rintro e w1 ⟨rfl, rfl⟩
  go_wp2_with fail
  refine (Go.Proofs.Try.sh_slices_Equal_string_empty _ _ _ _ _ _ (by omega)).mono ?_
  rintro e w1 ⟨rfl, rfl⟩
  go_wp2_with fail
  go_ret
  exact ⟨rfl, hb⟩

set_option maxRecDepth 100000 in
set_option maxHeartbeats 2000000 in
theorem write_get (s : ByteArray) (h1 : 0 < s.size) (h2 : s.size ≤ 127) (w : World) :
    Calls Try.prog 76 #[.agg (cmdL 4 s).toArray] w fun e w' => ∃ v, e = .returned (.tuple #[.agg #[.int .u8 4, v], .int .i64 0]) ∧ SlX w' [] v (putV s.size ++ sBytes s) ∧ Below w.heap.size w w' := by
  have hsl := sBytes_len s
  have hpl : (putV s.size).length ≤ 10 := putV_len10 (by omega)
  obtain ⟨W1, hW1, hC1, hF1, hX1, hb1, hs1⟩ := write_start w (cmdL 4 s) rfl
  simp only [cmdL] at hW1 ⊢
  go_enter Try.func76, Try.ntmps76
  go_wp2_with fail
  refine (valid_any 4 (by decide) (by decide) _).mono ?_
  rintro e w1 ⟨rfl, rfl⟩
  go_wp2_with fail
  rw [← hW1]
  clear hW1
  refine (parts_get_w (w.heap.size + 1 + 1) w.heap.size _ s none 0 [] false W1 h1 (by omega) hC1 rfl rfl (by omega) hX1 (Byt.nil _ _) (by simp) (by simp)).mono ?_
  rintro e w2 ⟨rfl, v2, hX2, hv2, hk2⟩
  obtain ⟨A2, c2, rfl, hby2, hlo2⟩ := hv2
  have hC2 := hk2.row (by simp; omega) hC1
  have hF2 := hk2.row (by simp) hF1
  have hx22 : w2.cell? ⟨w.heap.size + 1 + 1, 2, none⟩ = some (.slice A2 ([] ++ putV s.size ++ sBytes s).length c2) := World.rowIs.cell hX2 (i := 2) (by decide)
  have hc20 : w2.cell? ⟨w.heap.size, 0, none⟩ = some (.int .i64 4) := World.rowIs.cell hC2 (i := 0) (by decide)
  simp only [List.nil_append] at hx22 hby2
  obtain ⟨k, hk⟩ : ∃ k, (putV s.size ++ sBytes s).length = k := ⟨_, rfl⟩
  rw [hk] at hx22
  have hs2 := hk2.size
  have HX2 := Lib.hid hX2
  have HC2 := Lib.hid hC2
  have HF2 := Lib.hid hF2
  clear hX2 hC2 hF2 hC1 hF1 hX1
  go_wp2_with fail
  have hbA := below1 w2 (.cells #[.int .u8 4, .slice A2 k c2] 111)
  refine (read_get s A2 k c2 _ h1 h2 hk ((hby2.below hbA (Nat.le_refl _)).mono (by simp))).mono ?_
  rintro e w4 ⟨rfl, hb4⟩
  simp only [cmdL]
  have hb24 : Below w2.heap.size w2 w4 := hbA.trans (hb4.mono hbA.size)
  have hs4 := hb24.size
  have hX4 := World.rowIs.of_block HX2.out (hb24.block _ (by omega))
  have hx43 : w4.cell? ⟨w.heap.size + 1 + 1, 3, none⟩ = some (.bool false) := World.rowIs.cell hX4 (i := 3) (by decide)
  have hC4 := World.rowIs.of_block HC2.out (hb24.block _ (by omega))
  have hF4 := World.rowIs.of_block HF2.out (hb24.block _ (by omega))
  have hA3 := row_list w2 [.int .u8 4, .slice A2 k c2] 111
  have hA4 : w4.rowIs w2.heap.size 111 2 (listF [.int .u8 4, .slice A2 k c2]) := World.rowIs.of_block (by simpa using hA3) (hb4.block _ (by simp))
  have hl0 : w.heap.size < w4.heap.size := by omega
  have hl1 : w.heap.size + 1 < w4.heap.size := by omega
  have hl2 : w.heap.size + 1 + 1 < w4.heap.size := by omega
  have hl3 : w2.heap.size < w4.heap.size := World.rowIs.lt hA4
  have hT6 := row_list w4 (cmdL 4 s) 45
  have hb5 := below1 w4 (.cells (cmdL 4 s).toArray 45)
  have hC5 := World.rowIs.alloc hC4 (.cells (cmdL 4 s).toArray 45)
  have hF5 := World.rowIs.alloc hF4 (.cells (cmdL 4 s).toArray 45)
  have hA5 := World.rowIs.alloc hA4 (.cells (cmdL 4 s).toArray 45)
  have HE := Lib.hid (equal_cmd 4 s (w4.alloc (.cells (cmdL 4 s).toArray 45)))
  have HcT := Lib.hid (row_cells hT6 (cmdL 4 s) rfl fun i hi => rfl)
  have HcC := Lib.hid (row_cells hC5 (cmdL 4 s) rfl fun i hi => rfl)
  have HF5 := Lib.hid hF5
  have HA5 := Lib.hid hA5
  have HB5 := Lib.hid hb5
  clear hX4 hC4 hF4 hA3 hA4 hT6 hC5 hF5 hA5 hb5
  simp only [cmdL] at HE HcT HcC HF5 HA5 HB5
  go_wp2_with (first
    | ((with_reducible refine wpList_load_want (o := ⟨some 39, _, _, _, _, _⟩) 45 _ rfl ⟨w4.heap.size, 0, none⟩ ?_ _ _ HcT.out Try.underlying45 rfl ?_ ?_ ?_); (· rfl); (· exact cmdL_size 4 s); (· rfl))
    | ((with_reducible refine wpList_load_want (o := ⟨some 40, _, _, _, _, _⟩) 45 _ rfl ⟨w.heap.size, 0, none⟩ ?_ _ _ HcC.out Try.underlying45 rfl ?_ ?_ ?_); (· rfl); (· exact cmdL_size 4 s); (· rfl)))
  refine HE.out.mono ?_
  rintro e w6 ⟨rfl, hb6⟩
  have hA6 := World.rowIs.of_block HA5.out (hb6.block _ (World.rowIs.lt HA5.out))
  have hF6 := World.rowIs.of_block HF5.out (hb6.block _ (World.rowIs.lt HF5.out))
  have ha60 : w6.cell? ⟨w2.heap.size, 0, none⟩ = some (.int .u8 4) := World.rowIs.cell hA6 (i := 0) (by decide)
  have ha61 : w6.cell? ⟨w2.heap.size, 1, none⟩ = some (.slice A2 k c2) := World.rowIs.cell hA6 (i := 1) (by decide)
  have HT6 := Lib.hid (row_there hF6)
  have HF6 := Lib.hid hF6
  clear hA6 hF6
  go_wp2_with ((with_reducible refine wpList_store_at2 (op := ⟨none, _, _, _, _, _⟩) rfl 111 _ _ rfl (w.heap.size + 1) 0 #[.int .u8 4, .slice A2 k c2] ?_ ?_ ?_ ?_ ?_ ?_); (· rfl); (· rfl); (· exact HT6.out); (· rfl); (· simp [Value.oneCell']); intro w7 hw7)
  have hD7 := store_all HF6.out [.int .u8 4, .slice A2 k c2] rfl
  have hc7 := row_cells hD7 [.int .u8 4, .slice A2 k c2] rfl fun i hi => rfl
  have hk7 : Kept [w.heap.size + 1] w2 (w6.setCells (w.heap.size + 1) 0 [.int .u8 4, .slice A2 k c2]) :=
    kept_setCells (by simp) _ _ _ ((Kept.of_below hb24).trans ((Kept.of_below HB5.out).trans (Kept.of_below hb6)))
  refine bodyPost_ret (results_cell2 rfl _ _ ⟨w.heap.size + 1, 0, none⟩ #[.int .u8 4, .slice A2 k c2] rfl (run_loadVar_at _ _ _ _ _ hc7 Try.underlying111 rfl (by kernel_rfl))) rfl ⟨_, rfl, ⟨A2, c2, by rw [hk], hk7.byt hby2 (fun b off hA hm => ?_), by simp⟩, ?_⟩
  · have := hlo2 b off hA
    simp at hm
    omega
  · exact hb1.trans ((hk2.below (by omega) (by simp; omega)).trans (hk7.below (by omega) (by simp)))
end Go.Proofs.Ytnmhmabifeapkaa.Ord
/- Walks of request.Read and Write at the command without parts; of frame.Write. -/
namespace Go.Proofs.Ytnmhmabifeapkaa.Ord
open Go.RowKit
set_option linter.unusedVariables false

set_option maxRecDepth 100000 in
set_option maxHeartbeats 1000000 in
theorem parts_flush (X C : Nat) (f : Nat → Value) (r outv : Value) (bad : Bool) (w : World) (hC : w.rowIs C 45 10 f) (hf0 : f 0 = .int .i64 14) (hX : w.rowIs X 149 4 (codF (.pointer (some ⟨C, 0, none⟩)) r outv bad)) :
    Calls Try.prog 97 #[.pointer (some ⟨X, 0, none⟩)] w fun e w' => e = .returned (.tuple #[]) ∧ w' = w := by
  have c0 : w.cell? ⟨X, 0, none⟩ = some (.pointer (some ⟨C, 0, none⟩)) := World.rowIs.cell hX (i := 0) (by decide)
  have d0 : w.cell? ⟨C, 0, none⟩ = some (.int .i64 14) := by rw [← hf0]; exact World.rowIs.cell hC (i := 0) (by decide)
  clear hX hC
  go_enter Try.func97, Try.ntmps97
  go_wp2_with fail
  go_end0
  exact ⟨rfl, rfl⟩

set_option maxRecDepth 100000 in
set_option maxHeartbeats 2000000 in
theorem read_flush (w : World) :
    Calls Try.prog 98 #[.agg #[.int .u8 14, .slice none 0 0]] w fun e w' => e = .returned (.tuple #[.agg (cmdL 14 ⟨#[]⟩).toArray, .int .i64 0]) ∧ Below w.heap.size w w' := by
  go_enter Try.func98, Try.ntmps98
  go_wp2_with fail
  obtain ⟨W1, hW1, hC1, hD1, hb1, hs1⟩ := read_start w (.int .u8 14) (.slice none 0 0) 14
  rw [← hW1]
  clear hW1
  refine (new_any none 0 0 [] W1 rfl (by omega) (Byt.nil _ _)).mono ?_
  rintro e w2 ⟨R, v2, rfl, hRs, hR2, hv2, hb2⟩
  have hC2 := World.rowIs.of_block hC1 (hb2.block _ (by omega))
  have hD2 := World.rowIs.of_block hD1 (hb2.block _ (by omega))
  clear hC1 hD1
  have hRC : w.heap.size + 1 + 1 ≠ R := by omega
  have hRw := World.rowIs.lt hR2
  have hb2s := hb2.size
  go_wp2_with fail
  have hX3 := row_list w2 [.pointer (some ⟨w.heap.size + 1 + 1, 0, none⟩), .pointer (some ⟨R, 0, none⟩), .slice none 0 0, .bool false] 149
  have hX3 : (w2.alloc (.cells #[.pointer (some ⟨w.heap.size + 1 + 1, 0, none⟩), .pointer (some ⟨R, 0, none⟩), .slice none 0 0, .bool false] 149)).rowIs w2.heap.size 149 4 (codF (.pointer (some ⟨w.heap.size + 1 + 1, 0, none⟩)) (.pointer (some ⟨R, 0, none⟩)) (.slice none 0 0) false) := World.rowIs.congr (by simpa using hX3) fun i hi => by
    match i, hi with
    | 0, _ => rfl
    | 1, _ => rfl
    | 2, _ => rfl
    | 3, _ => rfl
  have hC3 := World.rowIs.alloc hC2 (.cells #[.pointer (some ⟨w.heap.size + 1 + 1, 0, none⟩), .pointer (some ⟨R, 0, none⟩), .slice none 0 0, .bool false] 149)
  have hD3 := World.rowIs.alloc hD2 (.cells #[.pointer (some ⟨w.heap.size + 1 + 1, 0, none⟩), .pointer (some ⟨R, 0, none⟩), .slice none 0 0, .bool false] 149)
  have hR3 := World.rowIs.alloc hR2 (.cells #[.pointer (some ⟨w.heap.size + 1 + 1, 0, none⟩), .pointer (some ⟨R, 0, none⟩), .slice none 0 0, .bool false] 149)
  have hv3 := (hv2 [w2.heap.size, w.heap.size + 1 + 1, R] (fun k hk => by simp at hk; omega)).kept (Kept.of_below (L := []) (below1 w2 (.cells #[.pointer (some ⟨w.heap.size + 1 + 1, 0, none⟩), .pointer (some ⟨R, 0, none⟩), .slice none 0 0, .bool false] 149))) (by simp)
  have hb3 := below1 w2 (.cells #[.pointer (some ⟨w.heap.size + 1 + 1, 0, none⟩), .pointer (some ⟨R, 0, none⟩), .slice none 0 0, .bool false] 149)
  have hs3 : (w2.alloc (.cells #[.pointer (some ⟨w.heap.size + 1 + 1, 0, none⟩), .pointer (some ⟨R, 0, none⟩), .slice none 0 0, .bool false] 149)).heap.size = w2.heap.size + 1 := by simp
  generalize w2.alloc (.cells #[.pointer (some ⟨w.heap.size + 1 + 1, 0, none⟩), .pointer (some ⟨R, 0, none⟩), .slice none 0 0, .bool false] 149) = w3 at *
  refine (parts_flush w2.heap.size (w.heap.size + 1 + 1) _ _ _ false w3 hC3 rfl hX3).mono ?_
  rintro e w4 ⟨rfl, rfl⟩
  have hX4 := hX3
  have hC4 := hC3
  have hR4 := hR3
  have hD4 := hD3
  obtain ⟨A4, c4, rfl, hby4, _⟩ := hv3
  have hx43 : w4.cell? ⟨w2.heap.size, 3, none⟩ = some (.bool false) := World.rowIs.cell hX4 (i := 3) (by decide)
  have hx41 : w4.cell? ⟨w2.heap.size, 1, none⟩ = some (.pointer (some ⟨R, 0, none⟩)) := World.rowIs.cell hX4 (i := 1) (by decide)
  have hr41 : w4.cell? ⟨R, 1, none⟩ = some (.slice A4 0 c4) := World.rowIs.cell hR4 (i := 1) (by decide)
  have HC4 := Lib.hid hC4
  have HD4 := Lib.hid hD4
  clear hC4 hD4 hX4 hR4 hX3 hC3 hD3 hR3 hv2 hC2 hD2 hR2
  have HCC := Lib.hid (row_cells HC4.out (cmdL 14 ⟨#[]⟩) rfl fun i hi => by
    match i, hi with
    | 0, _ => rfl
    | 1, _ => rfl
    | 2, _ => rfl
    | 3, _ => rfl
    | 4, _ => rfl
    | 5, _ => rfl
    | 6, _ => rfl
    | 7, _ => rfl
    | 8, _ => rfl
    | 9, _ => rfl)
  have HT4 := Lib.hid (row_there HD4.out)
  go_wp2_with fail
  go_enter Try.func135, Try.ntmps135
  go_wp2_with (first
    | ((with_reducible refine wpList_load_agg (o := ⟨some 24, _, _, _, _, _⟩) rfl 45 _ rfl ⟨w.heap.size + 1 + 1, 0, none⟩ ?_ (cmdL 14 ⟨#[]⟩) _ HCC.out Try.underlying45 rfl (cmdL_size _ _) ?_); (· rfl))
    | ((with_reducible refine wpList_store_at2 (op := ⟨none, _, _, _, _, _⟩) rfl 45 _ _ rfl (w.heap.size + 1) 0 (cmdL 14 ⟨#[]⟩).toArray ?_ ?_ ?_ (cmdL_sizeA _ _) ?_ ?_); (· rfl); (· rfl); (· exact HT4.out); (· exact cmdL_one _ _); intro w5 hw5))
  have hD5 := store_all HD4.out (cmdL 14 ⟨#[]⟩) rfl
  have hc5 := row_cells hD5 (cmdL 14 ⟨#[]⟩) rfl fun i hi => rfl
  have hk5 : Kept [w2.heap.size, w.heap.size + 1 + 1, R, w.heap.size + 1] w4 (w4.setCells (w.heap.size + 1) 0 (cmdL 14 ⟨#[]⟩)) := kept_setCells (by simp) _ _ _ (Kept.refl _ _)
  refine bodyPost_ret (results_cell2 rfl _ _ ⟨w.heap.size + 1, 0, none⟩ (cmdL 14 ⟨#[]⟩).toArray rfl (run_loadVar_at _ _ _ _ _ hc5 Try.underlying45 rfl (cmdL_size _ _))) rfl ⟨rfl, ?_⟩
  have hbb : Below w.heap.size w w4 := by
    have h5 := hb1.trans (hb2.mono (by omega))
    exact h5.trans (hb3.mono (by omega))
  exact hbb.trans (hk5.below (by omega) (by simp; omega))
set_option maxRecDepth 100000 in
set_option maxHeartbeats 2000000 in
theorem write_flush (w : World) :
    Calls Try.prog 76 #[.agg (cmdL 14 ⟨#[]⟩).toArray] w fun e w' => e = .returned (.tuple #[.agg #[.int .u8 14, .slice none 0 0], .int .i64 0]) ∧ Below w.heap.size w w' := by
  obtain ⟨W1, hW1, hC1, hF1, hX1, hb1, hs1⟩ := write_start w (cmdL 14 ⟨#[]⟩) rfl
  simp only [cmdL] at hW1 ⊢
  go_enter Try.func76, Try.ntmps76
  go_wp2_with fail
  refine (valid_any 14 (by decide) (by decide) _).mono ?_
  rintro e w1 ⟨rfl, rfl⟩
  go_wp2_with fail
  rw [← hW1]
  clear hW1
  refine (parts_flush (w.heap.size + 1 + 1) w.heap.size _ _ _ false W1 hC1 rfl hX1).mono ?_
  rintro e w2 ⟨rfl, rfl⟩
  replace hs1 : w.heap.size + 3 ≤ w2.heap.size := by omega
  have hX2 := hX1
  have hC2 := hC1
  have hF2 := hF1
  have hx22 : w2.cell? ⟨w.heap.size + 1 + 1, 2, none⟩ = some (.slice none 0 0) := World.rowIs.cell hX2 (i := 2) (by decide)
  have hc20 : w2.cell? ⟨w.heap.size, 0, none⟩ = some (.int .i64 14) := World.rowIs.cell hC2 (i := 0) (by decide)
  have HX2 := Lib.hid hX2
  have HC2 := Lib.hid hC2
  have HF2 := Lib.hid hF2
  clear hX2 hC2 hF2 hC1 hF1 hX1
  go_wp2_with fail
  have hbA := below1 w2 (.cells #[.int .u8 14, .slice none 0 0] 111)
  refine (read_flush _).mono ?_
  rintro e w4 ⟨rfl, hb4⟩
  simp only [cmdL]
  have hb24 : Below w2.heap.size w2 w4 := hbA.trans (hb4.mono hbA.size)
  have hs4 := hb24.size
  have hX4 := World.rowIs.of_block HX2.out (hb24.block _ (by omega))
  have hx43 : w4.cell? ⟨w.heap.size + 1 + 1, 3, none⟩ = some (.bool false) := World.rowIs.cell hX4 (i := 3) (by decide)
  have hC4 := World.rowIs.of_block HC2.out (hb24.block _ (by omega))
  have hF4 := World.rowIs.of_block HF2.out (hb24.block _ (by omega))
  have hA3 := row_list w2 [.int .u8 14, .slice none 0 0] 111
  have hA4 : w4.rowIs w2.heap.size 111 2 (listF [.int .u8 14, .slice none 0 0]) := World.rowIs.of_block (by simpa using hA3) (hb4.block _ (by simp))
  have hl0 : w.heap.size < w4.heap.size := by omega
  have hl1 : w.heap.size + 1 < w4.heap.size := by omega
  have hl2 : w.heap.size + 1 + 1 < w4.heap.size := by omega
  have hl3 : w2.heap.size < w4.heap.size := World.rowIs.lt hA4
  have hT6 := row_list w4 (cmdL 14 ⟨#[]⟩) 45
  have hb5 := below1 w4 (.cells (cmdL 14 ⟨#[]⟩).toArray 45)
  have hC5 := World.rowIs.alloc hC4 (.cells (cmdL 14 ⟨#[]⟩).toArray 45)
  have hF5 := World.rowIs.alloc hF4 (.cells (cmdL 14 ⟨#[]⟩).toArray 45)
  have hA5 := World.rowIs.alloc hA4 (.cells (cmdL 14 ⟨#[]⟩).toArray 45)
  have HE := Lib.hid (equal_cmd 14 ⟨#[]⟩ (w4.alloc (.cells (cmdL 14 ⟨#[]⟩).toArray 45)))
  have HcT := Lib.hid (row_cells hT6 (cmdL 14 ⟨#[]⟩) rfl fun i hi => rfl)
  have HcC := Lib.hid (row_cells hC5 (cmdL 14 ⟨#[]⟩) rfl fun i hi => rfl)
  have HF5 := Lib.hid hF5
  have HA5 := Lib.hid hA5
  have HB5 := Lib.hid hb5
  clear hX4 hC4 hF4 hA3 hA4 hT6 hC5 hF5 hA5 hb5
  simp only [cmdL] at HE HcT HcC HF5 HA5 HB5
  go_wp2_with (first
    | ((with_reducible refine wpList_load_want (o := ⟨some 39, _, _, _, _, _⟩) 45 _ rfl ⟨w4.heap.size, 0, none⟩ ?_ _ _ HcT.out Try.underlying45 rfl ?_ ?_ ?_); (· rfl); (· exact cmdL_size 14 ⟨#[]⟩); (· rfl))
    | ((with_reducible refine wpList_load_want (o := ⟨some 40, _, _, _, _, _⟩) 45 _ rfl ⟨w.heap.size, 0, none⟩ ?_ _ _ HcC.out Try.underlying45 rfl ?_ ?_ ?_); (· rfl); (· exact cmdL_size 14 ⟨#[]⟩); (· rfl)))
  refine HE.out.mono ?_
  rintro e w6 ⟨rfl, hb6⟩
  have hA6 := World.rowIs.of_block HA5.out (hb6.block _ (World.rowIs.lt HA5.out))
  have hF6 := World.rowIs.of_block HF5.out (hb6.block _ (World.rowIs.lt HF5.out))
  have ha60 : w6.cell? ⟨w2.heap.size, 0, none⟩ = some (.int .u8 14) := World.rowIs.cell hA6 (i := 0) (by decide)
  have ha61 : w6.cell? ⟨w2.heap.size, 1, none⟩ = some (.slice none 0 0) := World.rowIs.cell hA6 (i := 1) (by decide)
  have HT6 := Lib.hid (row_there hF6)
  have HF6 := Lib.hid hF6
  clear hA6 hF6
  go_wp2_with ((with_reducible refine wpList_store_at2 (op := ⟨none, _, _, _, _, _⟩) rfl 111 _ _ rfl (w.heap.size + 1) 0 #[.int .u8 14, .slice none 0 0] ?_ ?_ ?_ ?_ ?_ ?_); (· rfl); (· rfl); (· exact HT6.out); (· rfl); (· simp [Value.oneCell']); intro w7 hw7)
  have hD7 := store_all HF6.out [.int .u8 14, .slice none 0 0] rfl
  have hc7 := row_cells hD7 [.int .u8 14, .slice none 0 0] rfl fun i hi => rfl
  have hk7 : Kept [w.heap.size + 1] w2 (w6.setCells (w.heap.size + 1) 0 [.int .u8 14, .slice none 0 0]) :=
    kept_setCells (by simp) _ _ _ ((Kept.of_below hb24).trans ((Kept.of_below HB5.out).trans (Kept.of_below hb6)))
  refine bodyPost_ret (results_cell2 rfl _ _ ⟨w.heap.size + 1, 0, none⟩ #[.int .u8 14, .slice none 0 0] rfl (run_loadVar_at _ _ _ _ _ hc7 Try.underlying111 rfl (by kernel_rfl))) rfl ⟨rfl, ?_⟩
  exact hb1.trans (hk7.below (by omega) (by simp))

end Go.Proofs.Ytnmhmabifeapkaa.Ord
/- Walk of frame.Write. -/
namespace Go.Proofs.Ytnmhmabifeapkaa.Ord
open Go.RowKit
set_option linter.unusedVariables false

theorem f109_name : (Try.f109.name == "runtime.NumGoroutine") = false := by kernel_rfl
theorem f109_body : Try.f109.body.isSome = true := by kernel_rfl

set_option maxRecDepth 100000 in
theorem length_any (code : Int) (A : Option Addr) (k c : Nat) (w : World) (hl : k ≤ 2000) : Calls Try.prog 108 #[.agg #[.int .u8 code, .slice A k c]] w fun e w' => e = .returned (.tuple #[.int .i64 ((k + 1 : Nat) : Int), .int .i64 0]) ∧ Below w.heap.size w w' := by
  have hb := below1 w (.cells #[.int .u8 code, .slice A k c] 111)
  have g : decide ((2097152 : Int) < (k : Int)) = false := by simp; omega
  go_enter Try.func108, Try.ntmps108
  go_wp2_with fail
  go_ret2
  exact ⟨by simp, hb⟩

set_option maxRecDepth 100000 in
set_option maxHeartbeats 8000000 in
theorem frame_any (code : Int) (A : Option Addr) (k c : Nat) (xs : List Int) (w : World) (hk : xs.length = k) (hl : k ≤ 1000) (hA : Byt w w.heap.size A c xs) :
    Calls Try.prog 78 #[.agg #[.int .u8 code, .slice A k c]] w fun e w' => ∃ v, e = .returned (.tuple #[v, .int .i64 0]) ∧ Own8 w' w.heap.size v (putV (k + 1) ++ [code] ++ xs) ∧ Below w.heap.size w w' := by
  have hb1 := below1 w (.cells #[.int .u8 code, .slice A k c] 111)
  have hB1 := row_list w [.int .u8 code, .slice A k c] 111
  go_enter Try.func78, Try.ntmps78
  go_wp2_with fail
  refine (length_any code A k c _ (by omega)).mono ?_
  rintro e w2 ⟨rfl, hb2⟩
  have hB2 := World.rowIs.of_block hB1 (hb2.block _ (by simp))
  have hb02 := hb1.trans (hb2.mono (by simp))
  have hA2 := (hA.below hb02 (Nat.le_refl _)).mono hb02.size
  have hs2 : w.heap.size < w2.heap.size := World.rowIs.lt hB2
  clear hB1 hb1 hb2
  have h20 : w2.cell? ⟨w.heap.size, 0, none⟩ = some (.int .u8 code) := World.rowIs.cell hB2 (i := 0) (by simp)
  have h21 : w2.cell? ⟨w.heap.size, 1, none⟩ = some (.slice A k c) := World.rowIs.cell hB2 (i := 1) (by simp)
  have HB2 := Lib.hid hB2
  have HA2 := Lib.hid hA2
  clear hB2 hA2
  go_wp2_with fail
  have hS0 : (fun W : World => W.cell? ⟨w.heap.size, 0, none⟩ = some (.int .u8 code) ∧ W.cell? ⟨w.heap.size, 1, none⟩ = some (.slice A k c)) w2.drew := ⟨h20, h21⟩
  refine wp_region_held (S := fun W : World => W.cell? ⟨w.heap.size, 0, none⟩ = some (.int .u8 code) ∧ W.cell? ⟨w.heap.size, 1, none⟩ = some (.slice A k c)) (by kernel_rfl) ?_
  change wpAnyH _ _ _ _ _ _ _ _ (World.drew _)
  refine wpAnyH_take (i := 0) (oi := { dst := some 14, op := Op.move (Operand.tmp 4), type := 3, pos := "frame.go:37", after := #[], guard := none }) (v := ?_) rfl (by kernel_rfl) (by kernel_rfl) (by kernel_rfl) (fun _ _ _ h => h) (Or.inl ⟨by rfl, ?_⟩) hS0 ?_
  rotate_left 1
  · intro W hW; go_simp; try with_reducible rfl
  refine wpAnyH_take (i := 1) (oi := { dst := some 15, op := Op.convert 3 42 (Operand.tmp 14), type := 42, pos := "frame.go:37", after := #[{ on := 0, ground := Ground.data }], guard := none }) (v := ?_) rfl (by kernel_rfl) (by kernel_rfl) (by kernel_rfl) (fun _ _ _ h => h) (Or.inl ⟨by rfl, ?_⟩) hS0 ?_
  rotate_left 1
  · intro W hW; go_simp; try with_reducible rfl
  refine wpAnyH_take (i := 3) (oi := { dst := some 17, op := Op.fieldAddr 111 (Operand.tmp 1) 0, type := 0, pos := "frame.go:37", after := #[], guard := none }) (v := ?_) rfl (by kernel_rfl) (by kernel_rfl) (by kernel_rfl) (fun _ _ _ h => h) (Or.inl ⟨by rfl, ?_⟩) hS0 ?_
  rotate_left 1
  · intro W hW; go_simp; try with_reducible rfl
  refine wpAnyH_take (i := 4) (oi := { dst := some 18, op := Op.load 5 (Operand.tmp 17), type := 5, pos := "frame.go:37", after := #[{ on := 3, ground := Ground.data }], guard := none }) (v := ?_) rfl (by kernel_rfl) (by kernel_rfl) (by kernel_rfl) (fun _ _ _ h => h) (Or.inl ⟨by rfl, ?_⟩) hS0 ?_
  rotate_left 1
  · intro W hW; have hx := hW.1; go_simp; try with_reducible rfl
  refine wpAnyH_take (i := 7) (oi := { dst := some 21, op := Op.fieldAddr 111 (Operand.tmp 1) 1, type := 0, pos := "frame.go:37", after := #[], guard := none }) (v := ?_) rfl (by kernel_rfl) (by kernel_rfl) (by kernel_rfl) (fun _ _ _ h => h) (Or.inl ⟨by rfl, ?_⟩) hS0 ?_
  rotate_left 1
  · intro W hW; go_simp; try with_reducible rfl
  refine wpAnyH_take (i := 8) (oi := { dst := some 22, op := Op.load 22 (Operand.tmp 21), type := 22, pos := "frame.go:37", after := #[{ on := 7, ground := Ground.data }], guard := none }) (v := ?_) rfl (by kernel_rfl) (by kernel_rfl) (by kernel_rfl) (fun _ _ _ h => h) (Or.inl ⟨by rfl, ?_⟩) hS0 ?_
  rotate_left 1
  · intro W hW; have hx := hW.2; go_simp; try with_reducible rfl
  refine wpAnyH_all (rs := [2, 5]) (by kernel_rfl) (by simp) ?_
  have hpl2 : ([] ++ putV (k + 1)).length ≤ 10 := by simpa using putV_len10 (n := k + 1) (by omega)
  have hwrap : IntKind.u64.wrap ((k : Int) + 1) = ((k + 1 : Nat) : Int) := by rw [IntKind.wrap_u64]; omega
  have hpl := putV_len10 (n := k + 1) (by omega)
  have rowS : ∀ W : World, W.rowIs w.heap.size 111 2 (listF [.int .u8 code, .slice A k c]) → (fun W : World => W.cell? ⟨w.heap.size, 0, none⟩ = some (.int .u8 code) ∧ W.cell? ⟨w.heap.size, 1, none⟩ = some (.slice A k c)) W := fun W h => ⟨World.rowIs.cell h (i := 0) (by decide), World.rowIs.cell h (i := 1) (by decide)⟩
  have hBd : w2.drew.rowIs w.heap.size 111 2 (listF [.int .u8 code, .slice A k c]) := HB2.out
  have hbd : Below w.heap.size w w2.drew := ⟨hb02.os, hb02.tape, hb02.output, hb02.size, hb02.block⟩
  have hAd : Byt w2.drew w2.drew.heap.size A c xs := HA2.out
  intro i hi
  simp at hi
  rcases hi with rfl | rfl
  · refine wpOp_step (o := { dst := some 16, op := Op.call { callee := Callee.value (Operand.func 109), args := #[Operand.const (Value.slice none 0 0), Operand.tmp 15], argTypes := #[22, 42] }, type := 22, pos := "frame.go:37", after := #[{ on := 1, ground := Ground.data }], guard := none }) rfl (fun K hK => ?_)
    with_reducible refine step_call_any rfl 109 _ _ rfl #[.slice none 0 0, .int .u64 ((k + 1 : Nat) : Int)] ?_ Try.f109 Try.func109 f109_name f109_body _ (put_any none 0 0 [] (k + 1) _ rfl (by omega) (by omega) (Byt.nil _ _)) ?_
    · simp only [List.map_toArray, List.map_cons, List.map_nil]
      first
      | rfl
      | (show #[Value.slice none 0 0, .int .u64 (IntKind.u64.wrap ((k : Int) + 1))] = _; rw [hwrap])
    rintro u3 w3 ⟨hown3, hb3⟩
    obtain ⟨A3, c3, rfl, hby3⟩ := hown3.val
    have hB3 := World.rowIs.of_block hBd (hb3.block _ (World.rowIs.lt hBd))
    refine hK _ _ ⟨rowS _ hB3, ?_⟩
    clear hK K
    simp only [Act.put, List.setIfInBounds_toArray, List.set_cons_succ, List.set_cons_zero]
    refine wpAnyH_all (rs := [5]) (by kernel_rfl) (by simp) ?_
    intro i hi
    obtain rfl : i = 5 := by simpa using hi
    refine wpOp_step (o := { dst := some 19, op := Op.buildSlice 22 1 #[(0, Operand.tmp 18)], type := 22, pos := "frame.go:37", after := #[{ on := 4, ground := Ground.data }], guard := none }) rfl (fun K hK => ?_)
    go_simp
    refine hK _ _ ⟨rowS _ (World.rowIs.alloc hB3 _), ?_⟩
    clear hK K
    have hb03 : Below w.heap.size w w3 := hbd.trans (hb3.mono hbd.size)
    have hA3 := (hAd.below hb3 (Nat.le_refl _)).mono hb3.size
    have hs2d : w.heap.size + 1 ≤ w2.drew.heap.size := hs2
    have HO := Lib.hid (owns_mono (World.ownsRow.alloc hown3.raw (.cells #[.int .u8 code] 5)) hs2d)
    have HS : Src (w3.alloc (.cells #[.int .u8 code] 5)) (some ⟨w3.heap.size, 0, none⟩) 1 1 [.int .u8 code] := .inr ⟨_, rfl, fun j u hj => by
      match j with
      | 0 => simp at hj; subst hj; simp [Addr.add]
      | j + 1 => simp at hj⟩
    have hbW : Below w.heap.size w (w3.alloc (.cells #[.int .u8 code] 5)) := hb03.trans ((below1 w3 _).mono hb03.size)
    have hbW1 : w.heap.size + 1 ≤ (w3.alloc (.cells #[.int .u8 code] 5)).heap.size := World.rowIs.lt (World.rowIs.alloc hB3 _)
    refine wpAnyH_all (rs := [6]) (by kernel_rfl) (by simp) ?_
    intro i hi
    obtain rfl : i = 6 := by simpa using hi
    refine wpOp_step (o := { dst := some 20, op := Op.call { callee := Callee.builtin Builtin.append, args := #[Operand.tmp 16, Operand.tmp 19], argTypes := #[22, 22] }, type := 22, pos := "frame.go:37", after := #[{ on := 2, ground := Ground.data }, { on := 5, ground := Ground.data }, { on := 2, ground := Ground.chain }], guard := none }) rfl (fun K hK => ?_)
    with_reducible refine step_append_src rfl _ _ 22 rfl (w.heap.size + 1) 5 (.int .u8 0) 1 1 Try.underlying22 Try.info5 rfl (by decide) _ _ _ ?_ HO.out _ 1 1 [.int .u8 code] ?_ ?_ HS ?_ ?_ ?_ hbW1 ?_
    · rfl
    · rfl
    · rfl
    · simp [Value.oneCell']
    · unfold maxLen; omega
    · omega
    intro v5 w5 hown5 hb5
    have hB5 := World.rowIs.of_block (World.rowIs.alloc hB3 _) (hb5.block _ (by omega))
    refine hK _ _ ⟨rowS _ hB5, ?_⟩
    clear hK K
    simp only [Act.put, List.setIfInBounds_toArray, List.set_cons_succ, List.set_cons_zero]
    have hb05 := hbW.trans (hb5.mono (by omega))
    have HO5 := Lib.hid hown5
    have HS5 := Lib.hid (show Src w5 A k c (xs.map (Value.int .u8)) by have h := (hA.below hb05 (Nat.le_refl _)).src; rw [hk] at h; exact h)
    have HZ5 := Lib.hid (show w.heap.size + 1 ≤ w5.heap.size from World.rowIs.lt hB5)
    refine wpAnyH_all (rs := [9]) (by kernel_rfl) (by simp) ?_
    intro i hi
    obtain rfl : i = 9 := by simpa using hi
    refine wpOp_step (o := { dst := some 23, op := Op.call { callee := Callee.builtin Builtin.append, args := #[Operand.tmp 20, Operand.tmp 22], argTypes := #[22, 22] }, type := 22, pos := "frame.go:37", after := #[{ on := 6, ground := Ground.data }, { on := 8, ground := Ground.data }, { on := 6, ground := Ground.chain }], guard := none }) rfl (fun K hK => ?_)
    with_reducible refine step_append_src rfl _ _ 22 rfl (w.heap.size + 1) 5 (.int .u8 0) 1 1 Try.underlying22 Try.info5 rfl (by decide) _ _ _ ?_ HO5.out A k c (xs.map (Value.int .u8)) ?_ ?_ HS5.out (bytes_one _) ?_ ?_ HZ5.out ?_
    · rfl
    · rfl
    · simp [hk]
    · unfold maxLen; omega
    · omega
    intro v6 w6 hown6 hb6
    have hB6 := World.rowIs.of_block hB5 (hb6.block _ (by omega))
    have hS6 := rowS _ hB6
    refine hK _ _ ⟨hS6, ?_⟩
    clear hK K
    simp only [Act.put, List.setIfInBounds_toArray, List.set_cons_succ, List.set_cons_zero]
    refine wpAnyH_take (i := 10) (oi := { dst := some 2, op := Op.assign (Operand.tmp 23), type := 22, pos := "frame.go:37", after := #[{ on := 9, ground := Ground.data }, { on := 9, ground := Ground.chain }, { on := 0, ground := Ground.phase }, { on := 1, ground := Ground.phase }, { on := 2, ground := Ground.phase }, { on := 3, ground := Ground.phase }, { on := 4, ground := Ground.phase }, { on := 5, ground := Ground.phase }, { on := 6, ground := Ground.phase }, { on := 7, ground := Ground.phase }, { on := 8, ground := Ground.phase }, { on := 9, ground := Ground.phase }], guard := none }) (v := ?_) rfl (by kernel_rfl) (by kernel_rfl) (by kernel_rfl) (fun _ _ _ h => h) (Or.inl ⟨by rfl, ?_⟩) hS6 ?_
    rotate_left 1
    · intro W hW; go_simp; try with_reducible rfl
    refine wpAnyH_take (i := 11) (oi := { dst := some 3, op := Op.assign (Operand.const (Value.int IntKind.i64 0)), type := 25, pos := "frame.go:37", after := #[{ on := 10, ground := Ground.chain }, { on := 0, ground := Ground.phase }, { on := 1, ground := Ground.phase }, { on := 2, ground := Ground.phase }, { on := 3, ground := Ground.phase }, { on := 4, ground := Ground.phase }, { on := 5, ground := Ground.phase }, { on := 6, ground := Ground.phase }, { on := 7, ground := Ground.phase }, { on := 8, ground := Ground.phase }, { on := 9, ground := Ground.phase }, { on := 10, ground := Ground.phase }], guard := none }) (v := ?_) rfl (by kernel_rfl) (by kernel_rfl) (by kernel_rfl) (fun _ _ _ h => h) (Or.inl ⟨by rfl, ?_⟩) hS6 ?_
    rotate_left 1
    · intro W hW; go_simp; try with_reducible rfl
    refine wpAnyH_done (by kernel_rfl) ?_ _
    simp only [Act.put, List.setIfInBounds_toArray, List.set_cons_succ, List.set_cons_zero]
    go_wp2_with fail
    go_ret2
    refine ⟨v6, rfl, ?_, hb05.trans (hb6.mono (by omega))⟩
    unfold Own8
    have := owns_mono hown6 (show w.heap.size ≤ w.heap.size + 1 by omega)
    simpa [hk, Nat.add_assoc, Nat.add_comm 1 k] using this
  · refine wpOp_step (o := { dst := some 19, op := Op.buildSlice 22 1 #[(0, Operand.tmp 18)], type := 22, pos := "frame.go:37", after := #[{ on := 4, ground := Ground.data }], guard := none }) rfl (fun K hK => ?_)
    go_simp
    have hBa := World.rowIs.alloc hBd (.cells #[.int .u8 code] 5)
    refine hK _ _ ⟨rowS _ hBa, ?_⟩
    clear hK K
    refine wpAnyH_all (rs := [2]) (by kernel_rfl) (by simp) ?_
    intro i hi
    obtain rfl : i = 2 := by simpa using hi
    refine wpOp_step (o := { dst := some 16, op := Op.call { callee := Callee.value (Operand.func 109), args := #[Operand.const (Value.slice none 0 0), Operand.tmp 15], argTypes := #[22, 42] }, type := 22, pos := "frame.go:37", after := #[{ on := 1, ground := Ground.data }], guard := none }) rfl (fun K hK => ?_)
    with_reducible refine step_call_any rfl 109 _ _ rfl #[.slice none 0 0, .int .u64 ((k + 1 : Nat) : Int)] ?_ Try.f109 Try.func109 f109_name f109_body _ (put_any none 0 0 [] (k + 1) _ rfl (by omega) (by omega) (Byt.nil _ _)) ?_
    · simp only [List.map_toArray, List.map_cons, List.map_nil]
      first
      | rfl
      | (show #[Value.slice none 0 0, .int .u64 (IntKind.u64.wrap ((k : Int) + 1))] = _; rw [hwrap])
    rintro u3 w3 ⟨hown3, hb3⟩
    obtain ⟨A3, c3, rfl, hby3⟩ := hown3.val
    have hB3 := World.rowIs.of_block hBa (hb3.block _ (World.rowIs.lt hBa))
    refine hK _ _ ⟨rowS _ hB3, ?_⟩
    clear hK K
    simp only [Act.put, List.setIfInBounds_toArray, List.set_cons_succ, List.set_cons_zero]
    have hba := below1 w2.drew (.cells #[.int .u8 code] 5)
    have hb03 : Below w.heap.size w w3 := (hbd.trans (hba.mono hbd.size)).trans (hb3.mono (by have := hbd.size; simp; omega))
    have hs2d : w.heap.size + 1 ≤ (w2.drew.alloc (.cells #[.int .u8 code] 5)).heap.size := by have : w.heap.size < w2.drew.heap.size := hs2; simp; omega
    have HO := Lib.hid (owns_mono hown3.raw hs2d)
    have HS : Src w3 (some ⟨w2.drew.heap.size, 0, none⟩) 1 1 [.int .u8 code] := .inr ⟨_, rfl, fun j u hj => by
      match j with
      | 0 =>
        simp at hj; subst hj
        rw [hb3.cell (p := (⟨w2.drew.heap.size, 0, none⟩ : Addr).add 0) (by simp [Addr.add])]
        simp [Addr.add]
      | j + 1 => simp at hj⟩
    have hbW : Below w.heap.size w (w3) := hb03
    have hbW1 : w.heap.size + 1 ≤ (w3).heap.size := World.rowIs.lt hB3
    refine wpAnyH_all (rs := [6]) (by kernel_rfl) (by simp) ?_
    intro i hi
    obtain rfl : i = 6 := by simpa using hi
    refine wpOp_step (o := { dst := some 20, op := Op.call { callee := Callee.builtin Builtin.append, args := #[Operand.tmp 16, Operand.tmp 19], argTypes := #[22, 22] }, type := 22, pos := "frame.go:37", after := #[{ on := 2, ground := Ground.data }, { on := 5, ground := Ground.data }, { on := 2, ground := Ground.chain }], guard := none }) rfl (fun K hK => ?_)
    with_reducible refine step_append_src rfl _ _ 22 rfl (w.heap.size + 1) 5 (.int .u8 0) 1 1 Try.underlying22 Try.info5 rfl (by decide) _ _ _ ?_ HO.out _ 1 1 [.int .u8 code] ?_ ?_ HS ?_ ?_ ?_ hbW1 ?_
    · rfl
    · rfl
    · rfl
    · simp [Value.oneCell']
    · unfold maxLen; omega
    · omega
    intro v5 w5 hown5 hb5
    have hB5 := World.rowIs.of_block hB3 (hb5.block _ (by omega))
    refine hK _ _ ⟨rowS _ hB5, ?_⟩
    clear hK K
    simp only [Act.put, List.setIfInBounds_toArray, List.set_cons_succ, List.set_cons_zero]
    have hb05 := hbW.trans (hb5.mono (by omega))
    have HO5 := Lib.hid hown5
    have HS5 := Lib.hid (show Src w5 A k c (xs.map (Value.int .u8)) by have h := (hA.below hb05 (Nat.le_refl _)).src; rw [hk] at h; exact h)
    have HZ5 := Lib.hid (show w.heap.size + 1 ≤ w5.heap.size from World.rowIs.lt hB5)
    refine wpAnyH_all (rs := [9]) (by kernel_rfl) (by simp) ?_
    intro i hi
    obtain rfl : i = 9 := by simpa using hi
    refine wpOp_step (o := { dst := some 23, op := Op.call { callee := Callee.builtin Builtin.append, args := #[Operand.tmp 20, Operand.tmp 22], argTypes := #[22, 22] }, type := 22, pos := "frame.go:37", after := #[{ on := 6, ground := Ground.data }, { on := 8, ground := Ground.data }, { on := 6, ground := Ground.chain }], guard := none }) rfl (fun K hK => ?_)
    with_reducible refine step_append_src rfl _ _ 22 rfl (w.heap.size + 1) 5 (.int .u8 0) 1 1 Try.underlying22 Try.info5 rfl (by decide) _ _ _ ?_ HO5.out A k c (xs.map (Value.int .u8)) ?_ ?_ HS5.out (bytes_one _) ?_ ?_ HZ5.out ?_
    · rfl
    · rfl
    · simp [hk]
    · unfold maxLen; omega
    · omega
    intro v6 w6 hown6 hb6
    have hB6 := World.rowIs.of_block hB5 (hb6.block _ (by omega))
    have hS6 := rowS _ hB6
    refine hK _ _ ⟨hS6, ?_⟩
    clear hK K
    simp only [Act.put, List.setIfInBounds_toArray, List.set_cons_succ, List.set_cons_zero]
    refine wpAnyH_take (i := 10) (oi := { dst := some 2, op := Op.assign (Operand.tmp 23), type := 22, pos := "frame.go:37", after := #[{ on := 9, ground := Ground.data }, { on := 9, ground := Ground.chain }, { on := 0, ground := Ground.phase }, { on := 1, ground := Ground.phase }, { on := 2, ground := Ground.phase }, { on := 3, ground := Ground.phase }, { on := 4, ground := Ground.phase }, { on := 5, ground := Ground.phase }, { on := 6, ground := Ground.phase }, { on := 7, ground := Ground.phase }, { on := 8, ground := Ground.phase }, { on := 9, ground := Ground.phase }], guard := none }) (v := ?_) rfl (by kernel_rfl) (by kernel_rfl) (by kernel_rfl) (fun _ _ _ h => h) (Or.inl ⟨by rfl, ?_⟩) hS6 ?_
    rotate_left 1
    · intro W hW; go_simp; try with_reducible rfl
    refine wpAnyH_take (i := 11) (oi := { dst := some 3, op := Op.assign (Operand.const (Value.int IntKind.i64 0)), type := 25, pos := "frame.go:37", after := #[{ on := 10, ground := Ground.chain }, { on := 0, ground := Ground.phase }, { on := 1, ground := Ground.phase }, { on := 2, ground := Ground.phase }, { on := 3, ground := Ground.phase }, { on := 4, ground := Ground.phase }, { on := 5, ground := Ground.phase }, { on := 6, ground := Ground.phase }, { on := 7, ground := Ground.phase }, { on := 8, ground := Ground.phase }, { on := 9, ground := Ground.phase }, { on := 10, ground := Ground.phase }], guard := none }) (v := ?_) rfl (by kernel_rfl) (by kernel_rfl) (by kernel_rfl) (fun _ _ _ h => h) (Or.inl ⟨by rfl, ?_⟩) hS6 ?_
    rotate_left 1
    · intro W hW; go_simp; try with_reducible rfl
    refine wpAnyH_done (by kernel_rfl) ?_ _
    simp only [Act.put, List.setIfInBounds_toArray, List.set_cons_succ, List.set_cons_zero]
    go_wp2_with fail
    go_ret2
    refine ⟨v6, rfl, ?_, hb05.trans (hb6.mono (by omega))⟩
    unfold Own8
    have := owns_mono hown6 (show w.heap.size ≤ w.heap.size + 1 by omega)
    simpa [hk, Nat.add_assoc, Nat.add_comm 1 k] using this
end Go.Proofs.Ytnmhmabifeapkaa.Ord
