/- Walks of varint.PutBytes, varint.New; frames by a list of blocks; A slice literal of one struct; Steps of a region that draws its order: an append whose source may be nil, empty or another row; a call. Calls as sources; Steps of a region that draws its order: a struct loaded; a slice literal of structs; Frames by a list of blocks; the codec's part, written; Walks of varint.Get at small numbers, GetBytes, the reader's take; Walks of the reader of numbers and bytes. -/
import Derived.Test.YtnjhpgmbfblgaaaGreatMR1
import Derived.Great.BuildSlice
import Derived.Maps.AppendAt
import Derived.Deep.RegionLaw
import Derived.Deep.OwnRows
import Derived.Lib.AppendStr
import Derived.Lib.ConvBytes
import Derived.Deep.Heap
namespace Go.Proofs.YtnjhpgmbfblgaaaGreat.Ord
set_option maxRecDepth 100000
set_option maxHeartbeats 16000000
open Go.RowKit
set_option linter.unusedVariables false
theorem putBytes_any (A A2 : Option Addr) (k c k2 c2 : Nat) (xs ys : List Int) (w : World) (hk : xs.length = k) (hk2 : ys.length = k2) (hl : k <= 1000000) (hl2 : k2 <= 1000000) (hA : Byt w w.heap.size A c xs) (hA2 : Byt w w.heap.size A2 c2 ys) :
  Calls Tryz.prog 361 #[.slice A k c, .slice A2 k2 c2] w fun e w' => ∃ v, e = .returned v /\ Own8 w' w.heap.size v (xs ++ putV k2 ++ ys) /\ Below w.heap.size w w' := by
 have HP := kp (put_any A k c xs k2 w hk (by omega) (by omega) hA)
 have hpl := putV_len10 (n := k2) (by omega)
 have hxl : (xs ++ putV k2).length <= 1000010 := by rw [List.length_append]; omega
 have HK2 := kp hk2
 clear hk2
 have HA2 := kp hA2
 clear hA2
 go_enter Tryz.func361, Tryz.ntmps361
 go_wp2_with fail
 refine HP.out.mono ?_
 rintro e w1 ⟨v1, rfl, hown1, hb1⟩
 have hown := kp hown1.raw
 have hsrc := kp (HA2.out.below hb1 (Nat.le_refl _)).src
 go_wp2_with ((with_reducible refine wpList_append_src (o := ⟨some 11, _, _, _, _, _⟩) rfl _ _ 26 rfl w.heap.size 5 (.int .u8 0) 1 1 Tryz.underlying26 Tryz.info5 rfl (by decide) _ (xs ++ putV k2).length _ ?_ hown.out A2 k2 c2 (ys.map (Value.int .u8)) ?_ ?_ ?_ (bytes_one _) ?_ ?_ hb1.size ?_); (· rfl); (· rfl); (· simp [HK2.out]); (· have := hsrc.out; rw [HK2.out] at this; exact this); (· unfold maxLen; omega); (· omega); intro v2 w2 hown2 _ hb2)
 go_ret
 exact ⟨_, rfl, Own8.app HK2.out.symm hown2, hb1.trans hb2⟩
theorem fold_put : ∀ (l : List Value) (k : Nat) (acc : Array Value), k + l.length = acc.size ->
  ((l.zipIdx k).foldl (fun cs (x : Value × Nat) => cs.setIfInBounds (0 + x.2) x.1) acc).toList = acc.toList.take k ++ l
 | [], k, acc, h => by simp at h; subst h; simp [List.take_of_length_le]
 | v :: l, k, acc, h => by
  rw [List.zipIdx_cons, List.foldl_cons, fold_put l (k + 1) _ (by simp at h ⊢; omega)]
  simp only [List.length_cons] at h
  rw [Nat.zero_add, Array.toList_setIfInBounds, List.take_add_one, List.take_set_of_le (Nat.le_refl _), List.getElem?_set_self (by simp; omega)]
  simp
theorem fill_one (v : Value) (size : Nat) (acc : Array Value) (hs : v.cells.size = size) (ha : acc.size = size) :
  Instr.fill (fun i => some (i * size, size)) acc [(0, v)] = some v.cells := by
 unfold Instr.fill
 simp only [Nat.zero_mul, Nat.zero_add, hs, ha, ne_eq, not_true_eq_false, Nat.lt_irrefl, decide_false, Bool.or_self, Bool.false_eq_true, if_false]
 unfold Instr.fill
 congr 1
 apply Array.toList_inj.1
 have := fold_put v.cells.toList 0 acc (by simp; omega)
 simp only [List.take_zero, List.nil_append, Nat.zero_add] at this
 rw [<- Array.foldl_toList, Array.toList_zipIdx]
 simpa using this

section
variable {P : Program}
theorem wpList_slice_one {ops : Array Oper} {rest : List Oper} {o : Oper} {a : Act} {w : World} {Q : Exit -> Act -> World -> Prop} (hgd : o.guard = none) (t : TypeId) (x : Operand) (ho : o.op = .buildSlice t 1 #[(0, x)])
  (e : TypeId) (z : Value) (size bytes : Nat) (v : Value) (cs : Array Value) (ht : P.underlying t = some (.slice e)) (hinfo : (P.info? e).map (fun i => (i.zero, i.size, i.bytes)) = some (some z, size, bytes))
  (hsz : 0 < size) (hle : size <= 2 ^ 24) (hv : a.eval x = v) (hcs : v.cells = cs) (hs : cs.size = size)
  (h : wpList P ops Q rest (a.put o.dst (.slice (some ⟨w.heap.size, 0, none⟩) 1 1)) (w.alloc (.cells cs e))) : wpList P ops Q (o :: rest) a w := by
 obtain ⟨i, hi, hz, h4, h5⟩ := info_parts hinfo
 refine wpList_buildSlice hgd t e 1 #[(0, x)] ho cs i z ht hi hz (by omega) (by omega) ?_ h
 rw [h4, Nat.one_mul]
 have : ((#[(0, x)] : Array (Nat × Operand)).map fun (i, x) => (i, a.eval x)).toList = [(0, v)] := by simp [hv]
 rw [this, fill_one v size _ (by rw [hcs, hs]) (by simp), hcs]
end
section
variable {P : Program}
end
section
variable {P : Program}
theorem step_slice_own {w : World} {ops : Array Oper} {o : Oper} {a : Act} {K : Act -> World -> Prop} {Q : Exit -> Act -> World -> Prop} {E : Prop} (hgd : o.guard = none) (t e : TypeId) (len : Nat) (parts : Array (Nat × Operand)) (ho : o.op = .buildSlice t len parts)
  (z : Value) (size bytes : Nat) (ht : P.underlying t = some (.slice e)) (hinfo : (P.info? e).map (fun i => (i.zero, i.size, i.bytes)) = some (some z, size, bytes))
  (l : List (Nat × Value)) (xs : List Value) (hl : (parts.map fun (i, x) => (i, a.eval x)).toList = l)
  (hf : Instr.fill (fun i => some (i * size, size)) ((Array.range (len * size)).map (z.cells[· % z.cells.size]!)) l = some xs.toArray)
  (hxs : xs.length = len * size) (hsm : ¬ len * size > 2 ^ 24) (hp : ¬ len * size = 0) (hm : len <= maxLen)
  (h : ∀ w', w'.ownsRow w.heap.size e size (.slice (some ⟨w.heap.size, 0, none⟩) len len) len xs -> RowKit.Below w.heap.size w w' -> K (a.put o.dst (.slice (some ⟨w.heap.size, 0, none⟩) len len)) w') :
  if Region.wanted o (yielded ops a.tmps) = true then Oper.wp P o a w K Q else E := by
 rw [if_pos (show Region.wanted o (yielded ops a.tmps) = true by simp [Region.wanted, hgd])]
 obtain ⟨i, hi, hz, h4, h5⟩ := info_parts hinfo
 subst h4
 refine wp_buildSlice t e len parts ho xs.toArray i z ht hi hz hsm hp (by rw [hl]; exact hf) ?_
 refine h _ ⟨hxs, .inr ⟨w.heap.size, len, xs.toArray, rfl, Nat.le_refl _, heap_alloc_new w _, Nat.le_refl _, hm, by simpa using hxs, ?_⟩⟩ (below1 w _)
 rw [List.take_of_length_le (by simp [hxs])]

/-- a call of any number of operands, at an operation without a guard -/
theorem step_call_any {w : World} {ops : Array Oper} {o : Oper} {a : Act} {K : Act -> World -> Prop} {Q : Exit -> Act -> World -> Prop} {E : Prop} (hgd : o.guard = none) (N : Nat) (xs : Array Operand) (ts : Array TypeId)
  (ho : o.op = .call { callee := .value (.func N), args := xs, argTypes := ts }) (vs : Array Value) (hx : xs.map a.eval = vs)
  (fn : Func) (hfn : P.funcs[N]? = some fn) (hname : (fn.name == "runtime.NumGoroutine") = false) (hbody : fn.body.isSome = true)
  (R : Value -> World -> Prop) (hc : Calls P N vs w fun e w' => ∃ u, e = .returned u /\ R u w')
  (h : ∀ u w', R u w' -> K (a.put o.dst u) w') :
  if Region.wanted o (yielded ops a.tmps) = true then Oper.wp P o a w K Q else E := by
 rw [if_pos (show Region.wanted o (yielded ops a.tmps) = true by simp [Region.wanted, hgd])]
 unfold Oper.wp
 have hf : a.eval (.func N) = .func (.func N) #[] #[] := rfl
 have h1 : fn.name ≠ "runtime.NumGoroutine" := by simpa using hname
 have h2 : fn.body ≠ none := by intro h3; simp [h3] at hbody
 have h3 : (callFunc N vs).run P w = .ok (.enter N vs) w := by simp [callFunc, hfn, h1, h2]
 simp [execOp, ho, resolve, invoke, hx, hf, Deferred.ofValue, h3]
 refine hc.mono ?_
 rintro e w' ⟨u, rfl, hR⟩
 exact h u w' hR
end
/-- all blocks that were there, but some, are as they were -/
structure Kept (L : List Nat) (w w' : World) : Prop where
 os : w'.os = w.os
 tape : w'.tape = w.tape
 output : w'.output = w.output
 size : w.heap.size <= w'.heap.size
 block : ∀ k, k < w.heap.size -> k ∉ L -> w'.heap[k]? = w.heap[k]?
theorem Kept.refl (L : List Nat) (w : World) : Kept L w w := ⟨rfl, rfl, rfl, Nat.le_refl _, fun _ _ _ => rfl⟩
theorem Kept.trans {L : List Nat} {a b c : World} (h : Kept L a b) (k : Kept L b c) : Kept L a c :=
 ⟨k.os.trans h.os, k.tape.trans h.tape, k.output.trans h.output, Nat.le_trans h.size k.size, fun i hi hn => (k.block i (Nat.lt_of_lt_of_le hi h.size) hn).trans (h.block i hi hn)⟩
theorem Kept.mono {L L' : List Nat} {a b : World} (h : Kept L a b) (hL : ∀ k ∈ L, k ∈ L') : Kept L' a b := ⟨h.os, h.tape, h.output, h.size, fun i hi hn => h.block i hi fun hm => hn (hL i hm)⟩
theorem Kept.of_below {L : List Nat} {a b : World} (h : Below a.heap.size a b) : Kept L a b := ⟨h.os, h.tape, h.output, h.size, fun i hi _ => h.block i hi⟩
theorem Kept.below {L : List Nat} {a b : World} {B : Nat} (h : Kept L a b) (hB : B <= a.heap.size) (hL : ∀ k ∈ L, B <= k) : Below B a b :=
 ⟨h.os, h.tape, h.output, h.size, fun i hi => h.block i (by omega) fun hm => absurd (hL i hm) (by omega)⟩
theorem Kept.drew {L : List Nat} {a b : World} (h : Kept L a b) : Kept L a b.drew := ⟨h.os, h.tape, h.output, h.size, h.block⟩
theorem Kept.alloc {L : List Nat} {a b : World} (h : Kept L a b) (o : Obj) : Kept L a (b.alloc o) :=
 h.trans (Kept.of_below (below1 b o))
theorem Kept.setCell {L : List Nat} {a b : World} (h : Kept L a b) {p : Addr} (hp : p.block ∈ L) (v : Value) : Kept L a (b.setCell p v) := by
 refine h.trans ⟨rfl, rfl, rfl, by simp, fun k hk hn => ?_⟩
 exact Go.Deep.blk_setCell_other _ _ _ _ (fun e => hn (by rw [e]; exact hp))
theorem Kept.row {L : List Nat} {a b : World} (h : Kept L a b) {G n : Nat} {t : TypeId} {f : Nat -> Value} (hG : G ∉ L) (hr : a.rowIs G t n f) : b.rowIs G t n f :=
 World.rowIs.of_block hr (h.block G (World.rowIs.lt hr) hG)
theorem Kept.byt {L : List Nat} {a b : World} (h : Kept L a b) {A : Option Addr} {c : Nat} {xs : List Int} (hA : Byt a a.heap.size A c xs) (hn : ∀ x off, A = some ⟨x, off, none⟩ -> x ∉ L) : Byt b b.heap.size A c xs := by
 refine ⟨hA.1, hA.2.1, fun i hi => ?_⟩
 obtain ⟨x, off, h1, h2, h3⟩ := hA.2.2 i hi
 refine ⟨x, off, h1, Nat.lt_of_lt_of_le h2 h.size, fun y hy => ?_⟩
 rw [World.cell?_of_block (w := a) (h.block x h2 (hn x off h1))]
 exact h3 y hy

def sBytes (s : ByteArray) : List Int := s.data.toList.map fun b => (b.toNat : Int)
theorem sBytes_len (s : ByteArray) : (sBytes s).length = s.size := by unfold sBytes; rw [List.length_map, Array.length_toList]; rfl
theorem conv_str (w : World) (s : ByteArray) : ∃ c w', (convert 9 26 (.string s)).run Tryz.prog w = .ok (.slice (some ⟨w.heap.size, 0, none⟩) s.size c) w' /\ Byt w' w'.heap.size (some ⟨w.heap.size, 0, none⟩) c (sBytes s) /\ Below w.heap.size w w' := by
 refine ⟨_, Lib.bytesWorld w 5 s, Lib.run_convert_string_bytes w 9 26 5 s Tryz.underlying9 Tryz.underlying26 Tryz.underlying5, ⟨(fun h => by cases h), by rw [sBytes_len]; exact grownCap_ge _ _ _ _, fun i hi => ⟨w.heap.size, 0, rfl, by rw [Lib.bytesWorld_size]; omega, fun x hx => ?_⟩⟩, ⟨rfl, rfl, rfl, by rw [Lib.bytesWorld_size]; omega, fun k hk => Lib.bytesWorld_at_old w 5 s k hk⟩⟩
 rw [sBytes_len] at hi
 rw [Nat.zero_add, Lib.bytesWorld_cell w 5 s i hi]
 unfold sBytes at hx
 rw [List.getElem?_map] at hx
 obtain ⟨b, hb, rfl⟩ := Option.map_eq_some_iff.1 hx
 simp [List.getD, hb]
def codF (c r out : Value) (bad : Bool) : Nat -> Value
 | 0 => c
 | 1 => r
 | 2 => out
 | _ => .bool bad
/-- a slice of bytes in a value, in blocks from B on -/
def SlB (w : World) (B : Nat) (v : Value) (xs : List Int) : Prop := ∃ A c, v = .slice A xs.length c /\ Byt w w.heap.size A c xs /\ ∀ b off, A = some ⟨b, off, none⟩ -> B <= b
theorem SlB.of_own {w : World} {base : Nat} {v : Value} {xs : List Int} (h : Own8 w base v xs) : SlB w base v xs := by
 obtain ⟨A, c, rfl, hb⟩ := h.val
 refine ⟨A, c, rfl, hb, fun b off hA => ?_⟩
 subst hA
 rcases owns_shape h.raw (by decide) with ⟨h1, _, _⟩ | ⟨g, cap, h1, h2, _⟩
 ·cases h1
 ·cases h1; exact h2
theorem f142_name : (Tryz.f361.name == "runtime.NumGoroutine") = false := by kernel_rfl
theorem f142_body : Tryz.f361.body.isSome = true := by kernel_rfl

theorem part_mid {X G : Nat} {t : TypeId} {n : Nat} {f : Nat -> Value} {c : Value} {A A6 : Option Addr} {ca c6 L : Nat} {o : Nat} {xs : List Int} {bad : Bool} {w w6 : World} {base : Nat} (hL : xs.length = L)
  (hG : w.rowIs G t n f) (hXG : X ≠ G) (hX : w.rowIs X 339 4 (codF c (.pointer none) (.slice A o ca) bad)) (hb6 : Below w.heap.size w w6) (hown : Own8 w6 base (.slice A6 L c6) xs) (hbase : w.heap.size <= base) :
  ∃ w7, w7 = w6.setCell ⟨X, 2, none⟩ (.slice A6 L c6) /\ w7.rowIs X 339 4 (codF c (.pointer none) (.slice A6 L c6) bad) /\ w7.rowIs G t n f /\ Kept [X] w w7 /\ SlB w7 w.heap.size (.slice A6 L c6) xs := by
 have hXlt := World.rowIs.lt hX
 have hX6 : w6.rowIs X 339 4 (codF c (.pointer none) (.slice A o ca) bad) := World.rowIs.of_block hX (hb6.block X hXlt)
 have hG6 : w6.rowIs G t n f := World.rowIs.of_block hG (hb6.block G (World.rowIs.lt hG))
 have hK : Kept [X] w (w6.setCell ⟨X, 2, none⟩ (.slice A6 L c6)) := (Kept.of_below hb6).setCell (by simp) _
 refine ⟨_, rfl, World.rowIs.congr (World.rowIs.set hX6 2 (.slice A6 L c6)) fun i hi => ?_, World.rowIs.setOther hG6 (by exact fun e => hXG e.symm) _, hK, ?_⟩
 ·match i, hi with
  | 0, _ => rfl
  | 1, _ => rfl
  | 2, _ => rfl
  | 3, _ => rfl
 ·obtain ⟨A', c', he, hby, hlo⟩ := SlB.of_own hown
  refine ⟨A', c', he, ?_, fun b off hA => Nat.le_trans hbase (hlo b off hA)⟩
  have hk2 : Kept [X] w6 (w6.setCell ⟨X, 2, none⟩ (.slice A6 L c6)) := (Kept.refl _ _).setCell (by simp) _
  exact hk2.byt hby fun x off hA hm => by
   have h1 := hlo x off hA
   simp at hm
   omega

theorem part_end {X : Nat} {c r v : Value} {b bad : Bool} {w w7 w8 : World} {xs : List Int} (hX7 : w7.rowIs X 339 4 (codF c r v bad)) (hXw : X < w.heap.size) (hK7 : Kept [X] w w7) (hS7 : SlB w7 w.heap.size v xs) (hb8 : Below w7.heap.size w7 w8) :
  (w8.setCell ⟨X, 3, none⟩ (.bool b)).rowIs X 339 4 (codF c r v b) /\ SlB (w8.setCell ⟨X, 3, none⟩ (.bool b)) w.heap.size v xs /\ Kept [X] w (w8.setCell ⟨X, 3, none⟩ (.bool b)) := by
 have hX8 : w8.rowIs X 339 4 (codF c r v bad) := World.rowIs.of_block hX7 (hb8.block X (World.rowIs.lt hX7))
 have hK : Kept [X] w7 (w8.setCell ⟨X, 3, none⟩ (.bool b)) := (Kept.of_below hb8).setCell (by simp) _
 refine ⟨World.rowIs.congr (World.rowIs.set hX8 3 (.bool b)) fun i hi => ?_, ?_, hK7.trans hK⟩
 ·match i, hi with
  | 0, _ => rfl
  | 1, _ => rfl
  | 2, _ => rfl
  | 3, _ => rfl
 ·obtain ⟨A', c', he, hby, hlo⟩ := hS7
  refine ⟨A', c', he, ?_, hlo⟩
  exact hK.byt hby fun x off hA hm => by
   have h1 := hlo x off hA
   simp at hm
   omega

theorem part_write (X G k : Nat) (t : TypeId) (n : Nat) (f : Nat -> Value) (s : ByteArray) (c : Value) (A : Option Addr) (ca : Nat) (out : List Int) (bad al : Bool) (N : Nat) (w : World)
  (hG : w.rowIs G t n f) (hk : k < n) (hf : f k = .string s) (hXG : X ≠ G) (hX : w.rowIs X 339 4 (codF c (.pointer none) (.slice A out.length ca) bad)) (hA : Byt w w.heap.size A ca out) (hAX : ∀ b off, A = some ⟨b, off, none⟩ -> b ≠ X)
  (eg : ∀ args w, (callFunc N args).run Tryz.prog w = .ok (.enter N args) w) (hN : ∀ w, Calls Tryz.prog N #[.string s] w fun e w' => e = .returned (.bool al) /\ Below w.heap.size w w') (hs : s.size <= 100000) (hol : out.length <= 500000) :
  Calls Tryz.prog 307 #[.pointer (some ⟨X, 0, none⟩), .pointer (some ⟨G, k, none⟩), .func (.func N) #[] #[]] w fun e w' =>
   e = .returned (.tuple #[]) /\ ∃ v, w'.rowIs X 339 4 (codF c (.pointer none) v (bad || !al)) /\ SlB w' w.heap.size v (out ++ putV s.size ++ sBytes s) /\ Kept [X] w w' := by
 have hc1 : w.cell? ⟨X, 1, none⟩ = some (.pointer none) := World.rowIs.cell hX (i := 1) (by decide)
 have hc2 : w.cell? ⟨X, 2, none⟩ = some (.slice A out.length ca) := World.rowIs.cell hX (i := 2) (by decide)
 have hc3 : w.cell? ⟨X, 3, none⟩ = some (.bool bad) := World.rowIs.cell hX (i := 3) (by decide)
 have hcs : w.cell? ⟨G, k, none⟩ = some (.string s) := by rw [<- hf]; exact World.rowIs.cell hG hk
 have HX := kp hX
 have HG := kp hG
 have HA := kp hA
 clear hX hG hA
 obtain ⟨L, hL⟩ : ∃ L, (out ++ putV s.size ++ sBytes s).length = L := ⟨_, rfl⟩
 have HL := kp hL
 clear hL
 have HN := kp hN
 clear hN
 go_enter Tryz.func307, Tryz.ntmps307
 go_wp2_with fail
 obtain ⟨c2, W5, hconv, hby5, hb5⟩ := conv_str w.drew s
 have hXlt : X < w.drew.heap.size := World.rowIs.lt HX.out
 have hX5 : W5.rowIs X 339 4 (codF c (.pointer none) (.slice A out.length ca) bad) := World.rowIs.of_block HX.out (hb5.block X hXlt)
 have h52 : W5.cell? ⟨X, 2, none⟩ = some (.slice A out.length ca) := World.rowIs.cell hX5 (i := 2) (by decide)
 have hA5 := kp (HA.out.below (B := w.heap.size) (w' := W5) (B' := w.heap.size) ⟨hb5.os, hb5.tape, hb5.output, hb5.size, hb5.block⟩ (Nat.le_refl _) |>.mono hb5.size)
 have HX5 := kp hX5
 have HB5 := kp hby5
 have hsl := sBytes_len s
 have HC := kp (putBytes_any A (some ⟨w.drew.heap.size, 0, none⟩) out.length ca s.size c2 out (sBytes s) W5 rfl hsl (by omega) (by omega) hA5.out HB5.out)
 clear hX5 hby5
 go_region_law ((with_reducible refine step_call_any (o := ⟨some 22, _, _, _, _, _⟩) rfl 361 _ _ rfl #[.slice A out.length ca, .slice (some ⟨w.drew.heap.size, 0, none⟩) s.size c2] ?_ Tryz.f361 Tryz.func361 f142_name f142_body (fun u w6 => Own8 w6 W5.heap.size u (out ++ putV s.size ++ sBytes s) /\ Below W5.heap.size W5 w6) ?_ ?_); (· simp only [y1, y2, y3]; rfl); (· exact HC.out.mono fun e w' ⟨v, h1, h2, h3⟩ => ⟨v, h1, h2, h3⟩); rintro u6 w6 ⟨hown6, hb6⟩; obtain ⟨A6, c6, rfl, hby6⟩ := hown6.val; rw [HL.out]; rw [HL.out] at hown6; have hX6 := kp (World.rowIs.of_block HX5.out (hb6.block X (World.rowIs.lt HX5.out))); have h62 : w6.cell? ⟨X, 2, none⟩ = some (.slice A out.length ca) := World.rowIs.cell hX6.out (i := 2) (by decide); have hf62 : w6.frozen? ⟨X, 2, none⟩ = false := World.rowIs.frozen hX6.out 2)
 all_goals
  have hbw6 : Below w.heap.size w w6 := by
   have h1 : Below w.heap.size w W5 := ⟨hb5.os, hb5.tape, hb5.output, hb5.size, hb5.block⟩
   exact h1.trans (hb6.mono h1.size)
  obtain ⟨w7, hw7, hX7, hG7, hK7, hS7⟩ := part_mid HL.out HG.out hXG HX.out hbw6 hown6 (by have := hb5.size; exact this)
  rw [<- hw7]
  clear hw7 h62 hf62 hX6 hown6 hby6 hb6 hbw6
  have h73 : w7.cell? ⟨X, 3, none⟩ = some (.bool bad) := World.rowIs.cell hX7 (i := 3) (by decide)
  have hf73 : w7.frozen? ⟨X, 3, none⟩ = false := World.rowIs.frozen hX7 3
  have h7s : w7.cell? ⟨G, k, none⟩ = some (.string s) := by rw [<- hf]; exact World.rowIs.cell hG7 hk
  have HX7 := kp hX7
  have HK7 := kp hK7
  have HS7 := kp hS7
  clear hX7 hG7 hK7 hS7
  have hXw := World.rowIs.lt HX.out
  cases bad with
  | true =>
   go_wp2_with fail
   go_end0
   obtain ⟨h1, h2, h3⟩ := part_end (b := true) HX7.out hXw HK7.out HS7.out (Below.refl _ _)
   exact ⟨rfl, _, h1, h2, h3⟩
  | false =>
   go_wp2_with fail
   refine (HN.out w7).mono ?_
   rintro e w8 ⟨rfl, hb8⟩
   have hX8 := World.rowIs.of_block HX7.out (hb8.block X (World.rowIs.lt HX7.out))
   have h83 : w8.cell? ⟨X, 3, none⟩ = some (.bool false) := World.rowIs.cell hX8 (i := 3) (by decide)
   have hf83 : w8.frozen? ⟨X, 3, none⟩ = false := World.rowIs.frozen hX8 3
   clear hX8
   go_wp2_with fail
   go_end0
   obtain ⟨h1, h2, h3⟩ := part_end (b := !al) HX7.out hXw HK7.out HS7.out hb8
   exact ⟨rfl, _, h1, h2, h3⟩
/-- what Get answers for the bytes of a number -/
def GetOk (n : Nat) : Prop := ∀ (A : Option Addr) (k c : Nat) (rest : List Int) (w : World), (putV n ++ rest).length = k -> k <= 1000000 -> Byt w w.heap.size A c (putV n ++ rest) ->
 Calls Tryz.prog 390 #[.slice A k c] w fun e w' => e = .returned (.tuple #[.int .u64 n, .int .i64 (putV n).length, .int .i64 0]) /\ Below w.heap.size w w'

theorem Byt.at {w : World} {B : Nat} {A : Option Addr} {c : Nat} {xs : List Int} (h : Byt w B A c xs) {i : Nat} (hi : i < xs.length) : ∃ b off, A = some ⟨b, off, none⟩ /\ b < B /\ w.cell? ⟨b, off + i, none⟩ = some (.int .u8 (xs.getD i 0)) := by
 obtain ⟨b, off, h1, h2, h3⟩ := h.2.2 i hi
 exact ⟨b, off, h1, h2, h3 _ (by simp [List.getD, hi])⟩

theorem bclone_any (A : Option Addr) (n c : Nat) (xs : List Int) (w : World) (hn : xs.length = n) (hl : n <= 100000000) (hA : Byt w w.heap.size A c xs) :
  Calls Tryz.prog 403 #[.slice A n c] w fun e w' => ∃ v, e = .returned v /\ Own8 w' w.heap.size v xs /\ Below w.heap.size w w' := by
 subst hn
 cases A with
 | none =>
  have hc0 : c = 0 := hA.1 rfl
  subst hc0
  have hx : xs = [] := by have := hA.2.1; exact List.eq_nil_of_length_eq_zero (by omega)
  subst hx
  have hq := q22
  go_enter Tryz.func403, Tryz.ntmps403
  go_wp2_with fail
  go_ret
  exact ⟨_, rfl, Own8.nil _ _, Below.refl _ _⟩
 | some ad =>
  have hb := below1 w (.cells #[] 5)
  have hsrc := kp (hA.below hb (Nat.le_refl _)).src
  have hown := kp (World.ownsRow_made (e := 5) (size := 1) (base := w.heap.size) w #[] 0 (Nat.le_refl _) (by unfold maxLen; omega) rfl)
  have hs := kp (show w.heap.size <= (w.alloc (.cells #[] 5)).heap.size by simp)
  generalize hN : xs.length = N at *
  have HN := kp hN
  clear hN
  have hq := q22
  go_enter Tryz.func403, Tryz.ntmps403
  go_wp2_with ((with_reducible refine wpList_append_src (o := ⟨some 7, _, _, _, _, _⟩) rfl _ _ 26 rfl w.heap.size 5 (.int .u8 0) 1 1 Tryz.underlying26 Tryz.info5 rfl (by decide) _ _ [] ?_ hown.out (some ad) N c (xs.map (Value.int .u8)) ?_ ?_ hsrc.out (bytes_one _) ?_ ?_ hs.out ?_); (· rfl); (· rfl); (· simp [HN.out]); (· unfold maxLen; omega); (· omega); intro v1 w1 hown1 _ hb1)
  go_ret
  exact ⟨_, rfl, Own8.app HN.out.symm (xs := []) (by simpa using hown1), hb.trans hb1⟩

/-- a part of a slice of bytes -/
theorem Byt.part {w : World} {B b off c : Nat} {xs ys zs : List Int} (h : Byt w B (some ⟨b, off, none⟩) c (xs ++ ys ++ zs)) {m e : Nat} (hm : xs.length = m) (hc : ys.length <= e) {A : Option Addr} (hA : A ≠ none) (hA2 : 0 < e -> A = some ⟨b, off + m, none⟩) : Byt w B A e ys := by
 subst hm
 refine ⟨fun h => absurd h hA, hc, fun i hi => ?_⟩
 obtain ⟨b', off', h1, h2, h3⟩ := h.2.2 (xs.length + i) (by simp; omega)
 cases h1
 refine ⟨b, off + xs.length, hA2 (by omega), h2, fun x hx => ?_⟩
 have := h3 x (by rw [List.append_assoc, List.getElem?_append_right (by omega), Nat.add_sub_cancel_left, List.getElem?_append_left hi]; exact hx)
 rwa [<- Nat.add_assoc] at this

theorem getBytes_any (A : Option Addr) (k c most : Nat) (p rest : List Int) (w : World) (hget : GetOk p.length) (hk : (putV p.length ++ (p ++ rest)).length = k) (hl : k <= 1000000) (hm : p.length <= most) (hm2 : most <= 1000000) (hA : Byt w w.heap.size A c (putV p.length ++ (p ++ rest))) :
  Calls Tryz.prog 393 #[.slice A k c, .int .i64 most] w fun e w' => ∃ v, e = .returned (.tuple #[v, .int .i64 ((putV p.length).length + p.length : Nat), .int .i64 0]) /\ Own8 w' w.heap.size v p /\ Below w.heap.size w w' := by
 have HG := kp (hget A k c (p ++ rest) w hk hl hA)
 have hpos : 0 < (putV p.length).length := by
  by_cases h : p.length <= 127
  ·rw [putV_small h]; simp
  ·rw [putV_more h]; simp
 obtain ⟨b, off, hAe, hb, _⟩ := hA.at (i := 0) (by rw [List.length_append]; omega)
 subst hAe
 have HA := kp hA
 clear hA hget
 obtain ⟨n, hn⟩ : ∃ n, p.length = n := ⟨_, rfl⟩
 obtain ⟨m, hmm⟩ : ∃ m, (putV n).length = m := ⟨_, rfl⟩
 have hkk : m + n <= k := by rw [<- hk, <- hmm, <- hn]; simp [List.length_append]
 rw [hn] at hpos HG hm
 rw [hmm] at hpos HG
 rw [hn, hmm]
 have HN := kp hn
 have HM := kp hmm
 have HK := kp hk
 clear hn hmm hk
 have hc : k <= c := by have := HA.out.2.1; rw [HK.out] at this; exact this
 have h1 : decide ((most : Int) < 0) = false := by simp
 have h2 : decide ((most : Int) < (n : Int)) = false := by simp; omega
 have h3 : decide ((k : Int) - (m : Int) < (n : Int)) = false := by simp; omega
 go_enter Tryz.func393, Tryz.ntmps393
 go_wp2_with fail
 refine HG.out.mono ?_
 rintro e w1 ⟨rfl, hb1⟩
 go_wp2_with fail
 all_goals
  refine (bclone_any _ _ _ p w1 ?_ (by omega) ?_).mono ?_
  ·first | exact HN.out | (rw [HN.out]; omega)
  ·have h5 := HA.out.below hb1 (Nat.le_refl _)
   rw [HN.out, <- List.append_assoc] at h5
   refine (h5.part (e := _) HM.out (by rw [HN.out]; omega) (by simp) (fun h => ?_)).mono hb1.size
   first | rfl | exact absurd h (by omega)
  ·rintro e w2 ⟨v2, rfl, hown2, hb2⟩
   go_wp2_with fail
   go_ret3
   refine ⟨v2, ?_, by unfold Own8; exact owns_mono hown2.raw hb1.size, hb1.trans (hb2.mono hb1.size)⟩
   first | rfl | (simp; done) | (simp; omega)
def rdF (v : Value) : Nat -> Value
 | 0 => .bool true
 | _ => v
/-- a slice of bytes in a value, in none of some blocks -/
def SlX (w : World) (N : List Nat) (v : Value) (xs : List Int) : Prop := ∃ A c, v = .slice A xs.length c /\ Byt w w.heap.size A c xs /\ ∀ b off, A = some ⟨b, off, none⟩ -> b ∉ N
theorem SlX.of_slb {w : World} {B : Nat} {N : List Nat} {v : Value} {xs : List Int} (h : SlB w B v xs) (hN : ∀ k ∈ N, k < B) : SlX w N v xs := by
 obtain ⟨A, c, h1, h2, h3⟩ := h
 exact ⟨A, c, h1, h2, fun b off hA hm => by have := h3 b off hA; have := hN b hm; omega⟩
theorem SlX.kept {w w' : World} {N L : List Nat} {v : Value} {xs : List Int} (h : SlX w N v xs) (hk : Kept L w w') (hL : ∀ k ∈ L, k ∈ N) : SlX w' N v xs := by
 obtain ⟨A, c, h1, h2, h3⟩ := h
 exact ⟨A, c, h1, hk.byt h2 fun x off hA hm => h3 x off hA (hL x hm), h3⟩

theorem new_any (A : Option Addr) (k c : Nat) (xs : List Int) (w : World) (hk : xs.length = k) (hl : k <= 1000000) (hA : Byt w w.heap.size A c xs) :
  Calls Tryz.prog 304 #[.slice A k c] w fun e w' => ∃ R v, e = .returned (.pointer (some ⟨R, 0, none⟩)) /\ w.heap.size <= R /\ w'.rowIs R 440 2 (rdF v) /\ (∀ NL : List Nat, (∀ k ∈ NL, k = R ∨ k < w.heap.size ∨ w'.heap.size <= k) -> SlX w' NL v xs) /\ Below w.heap.size w w' := by
 have HC := kp (clone_any A k c xs w hk (by omega) hA)
 go_enter Tryz.func304, Tryz.ntmps304
 go_wp2_with fail
 refine HC.out.mono ?_
 rintro e w1 ⟨v1, rfl, hown1, hb1⟩
 obtain ⟨A1, c1, rfl, hby1⟩ := hown1.val
 go_wp2_with fail
 go_ret
 have hlt : ∀ b off, A1 = some ⟨b, off, none⟩ -> w.heap.size <= b /\ b < w1.heap.size := fun b off hA => by
  rcases owns_shape hown1.raw (by decide) with ⟨h1, _, _⟩ | ⟨g, cap, h1, h0, h2, _⟩
  ·simp at h1; simp [h1.1] at hA
  ·simp at h1
   rw [h1.1] at hA
   cases hA
   exact ⟨h0, h2⟩
 refine ⟨_, .slice A1 k c1, rfl, hb1.size, World.rowIs_alloc w1 #[.bool true, .slice A1 k c1] 440 _ (fun i hi => ?_), (fun NL hN => ⟨A1, c1, by rw [hk], (hby1.below (below1 w1 _) (Nat.le_refl _)).mono (by simp), fun b off hA hm => by have h5 := hlt b off hA; have h6 := hN b hm; simp at h6; omega⟩), hb1.trans ((below1 w1 _).mono hb1.size)⟩
 match i, hi with
 | 0, _ => rfl
 | 1, _ => rfl

theorem take_end {R : Nat} {NL : List Nat} (hRN : R ∈ NL) {w w1 : World} {A' : Option Addr} {L c' : Nat} {v0 : Value} {rest : List Int} (hR1 : w1.rowIs R 440 2 (rdF v0)) (hbw : Below w.heap.size w w1) (hL : rest.length = L) (hby : Byt w1 w1.heap.size A' c' rest) (hne : ∀ b off, A' = some ⟨b, off, none⟩ -> b ∉ NL) :
  (w1.setCell ⟨R, 1, none⟩ (.slice A' L c')).rowIs R 440 2 (rdF (.slice A' L c')) /\ SlX (w1.setCell ⟨R, 1, none⟩ (.slice A' L c')) NL (.slice A' L c') rest /\ Kept [R] w (w1.setCell ⟨R, 1, none⟩ (.slice A' L c')) := by
 have hk2 : Kept [R] w1 (w1.setCell ⟨R, 1, none⟩ (.slice A' L c')) := (Kept.refl _ _).setCell (by simp) _
 refine ⟨World.rowIs.congr (World.rowIs.set hR1 1 _) (fun i hi => ?_), ⟨A', c', by rw [hL], hk2.byt hby (fun x off hA hm => hne x off hA (by simp at hm; rw [hm]; exact hRN)), hne⟩, (Kept.of_below hbw).trans hk2⟩
 match i, hi with
 | 0, _ => rfl
 | 1, _ => rfl

theorem bytes_any (NL : List Nat) (R most : Nat) (hRN : R ∈ NL) (v : Value) (p rest : List Int) (w : World) (hget : GetOk p.length) (hl : (putV p.length ++ (p ++ rest)).length <= 1000000) (hm : p.length <= most) (hm2 : most <= 1000000)
  (hR : w.rowIs R 440 2 (rdF v)) (hv : SlX w NL v (putV p.length ++ (p ++ rest))) :
  Calls Tryz.prog 364 #[.pointer (some ⟨R, 0, none⟩), .int .i64 most] w fun e w' => ∃ vp v', e = .returned (.tuple #[vp, .int .i64 0]) /\ Own8 w' w.heap.size vp p /\ w'.rowIs R 440 2 (rdF v') /\ SlX w' NL v' rest /\ Kept [R] w w' := by
 obtain ⟨A, c, rfl, hA, hAR⟩ := hv
 have h0 : w.cell? ⟨R, 0, none⟩ = some (.bool true) := World.rowIs.cell hR (i := 0) (by decide)
 have h1 : w.cell? ⟨R, 1, none⟩ = some (.slice A (putV p.length ++ (p ++ rest)).length c) := World.rowIs.cell hR (i := 1) (by decide)
 obtain ⟨k, hk⟩ : ∃ k, (putV p.length ++ (p ++ rest)).length = k := ⟨_, rfl⟩
 have HR := kp hR
 have hbA := below1 w (.cells #[.int .i64 most] 3)
 have HG := kp (getBytes_any A k c most p rest (w.alloc (.cells #[.int .i64 most] 3)) hget hk (by omega) hm hm2 ((hA.below hbA (Nat.le_refl _)).mono (by simp)))
 have hc : k <= c := by have := hA.2.1; rw [hk] at this; exact this
 rw [hk] at h1 hl HR
 have HA := kp hA
 have hRlt := World.rowIs.lt HR.out
 clear hR hA
 obtain ⟨T, hT⟩ : ∃ T, (putV p.length).length + p.length = T := ⟨_, rfl⟩
 have hTk : T <= k := by rw [<- hT, <- hk]; simp [List.length_append]
 have hT0 : 0 < T := by
  rw [<- hT]
  by_cases h : p.length <= 127
  ·rw [putV_small h]; simp; omega
  ·rw [putV_more h]; simp; omega
 have hkr : rest.length = k - T := by rw [<- hT, <- hk]; simp [List.length_append]; omega
 obtain ⟨b, off, hAe, _, _⟩ := HA.out.at (i := 0) (by rw [hk]; omega)
 subst hAe
 rw [hT] at HG
 have HT := kp hT
 have HK := kp hk
 clear hT hk hget
 go_enter Tryz.func364, Tryz.ntmps364
 go_wp2_with fail
 go_enter Tryz.func391, Tryz.ntmps391
 go_wp2_with fail
 go_enter Tryz.func392, Tryz.ntmps392
 go_wp2_with fail
 refine HG.out.mono ?_
 rintro e w1 ⟨v1, rfl, hown1, hb1⟩
 go_wp2_with fail
 go_ret3
 have hRa : (w.alloc (.cells #[.int .i64 most] 3)).rowIs R 440 2 (rdF (.slice (some ⟨b, off, none⟩) k c)) := World.rowIs.alloc HR.out _
 have hR1 := World.rowIs.of_block hRa (hb1.block R (World.rowIs.lt hRa))
 have h11 : w1.cell? ⟨R, 1, none⟩ = some (.slice (some ⟨b, off, none⟩) k c) := World.rowIs.cell hR1 (i := 1) (by decide)
 have hf11 : w1.frozen? ⟨R, 1, none⟩ = false := World.rowIs.frozen hR1 1
 have HR1 := kp hR1
 clear hR1 hRa
 go_wp2_with fail
 all_goals
  go_ret2
  have hbw : Below w.heap.size w w1 := hbA.trans (hb1.mono hbA.size)
  have hby := (HA.out.below hbw (Nat.le_refl _)).mono hbw.size
  have hbt : b ∉ NL := hAR b off rfl
  have h9 : Byt w1 w1.heap.size (some ⟨b, off, none⟩) c ((putV p.length ++ p) ++ rest ++ []) := by simpa using hby
  refine ⟨_, rfl, ?_, _, take_end hRN HR1.out hbw hkr (h9.part (m := T) (by rw [List.length_append]; exact HT.out) (by rw [hkr]; omega) (by simp) (fun h => ?_)) (fun x o hA => ?_)⟩
  ·exact owns_mono (ownsRow_setCell_below hown1.raw (by show R < (w.alloc _).heap.size; simp; omega) _) hbA.size
  ·first | rfl | exact absurd h (by omega)
  ·cases hA; exact hbt
end Go.Proofs.YtnjhpgmbfblgaaaGreat.Ord
