/- A slice literal of one struct; Steps of a region that draws its order: an append whose. -/
import Derived.Test.YtnjhpgmbfblgaaaGreatMR2
import Derived.Great.BuildSlice
import Derived.Maps.AppendAt
import Derived.Deep.RegionLaw
import Derived.Deep.OwnRows
import Derived.Lib.AppendStr
import Derived.Lib.ConvBytes
import Derived.Deep.Heap
import Derived.Laws.BytesArg
import Derived.Lib.LazyBuf
import Derived.Shelf.Bytes.SlEqualAll
import Derived.Deep.MidRow
import Derived.Shelf.Slices.Equal
import Derived.Shelf.Slices.Empties2
import Derived.Test.YtnjhpgmbfblgaaaGreatProg
set_option linter.unusedVariables false
set_option linter.unusedSimpArgs false
namespace Go.Proofs.YtnjhpgmbfblgaaaGreat.Ord
open Go.RowKit
theorem iT_ : ∀ (l : List Value) (k : Nat) (acc : Array Value), k + l.length = acc.size ->
  ((l.zipIdx k).foldl (fun cs (x : Value × Nat) => cs.setIfInBounds (0 + x.2) x.1) acc).toList = acc.toList.take k ++ l
 | [], k, acc, h => by simp at h; subst h; simp [tL]
 | v :: l, k, acc, h => by
  rw [List.zipIdx_cons, List.foldl_cons, iT_ l (k + 1) _ (by simp at h ⊢; omega)]
  simp only [List.length_cons] at h
  rw [Nat.zero_add, Array.toList_setIfInBounds, tA, List.take_set_of_le (lR _), List.getElem?_set_self (by simp; omega)]
  simp
theorem iU_ (v : Value) (size : Nat) (acc : Array Value) (hs : v.cells.size = size) (ha : acc.size = size) :
  Instr.fill (fun i => some (i * size, size)) acc [(0, v)] = some v.cells := by
 unfold Instr.fill
 simp only [Nat.zero_mul, Nat.zero_add, hs, ha, ne_eq, not_true_eq_false, Nat.lt_irrefl, decide_false, Bool.or_self, Bool.false_eq_true, if_false]
 unfold Instr.fill
 congr 1
 apply Array.toList_inj.1
 have := iT_ v.cells.toList 0 acc (by simp; omega)
 simp only [List.take_zero, List.nil_append, Nat.zero_add] at this
 rw [<- Array.foldl_toList, Array.toList_zipIdx]
 simpa using this
section
variable {P : Program}
theorem cm_ {ops : Array Oper} {rest : List Oper} {o : Oper} {a : Act} {w : World} {Q : Exit -> Act -> World -> Prop} (hgd : o.guard = none) (t : TypeId) (x : Operand) (ho : o.op = .buildSlice t 1 #[(0, x)])
  (e : TypeId) (z : Value) (size bytes : Nat) (v : Value) (cs : Array Value) (ht : P.underlying t = some (.slice e)) (hinfo : (P.info? e).map (fun i => (i.zero, i.size, i.bytes)) = some (some z, size, bytes))
  (hsz : 0 < size) (hle : size <= 2 ^ 24) (hv : a.eval x = v) (hcs : v.cells = cs) (hs : cs.size = size)
  (h : wpList P ops Q rest (a.put o.dst (.slice (some ⟨w.heap.size, 0, none⟩) 1 1)) (w.alloc (.cells cs e))) : wpList P ops Q (o :: rest) a w := by
 obtain ⟨i, hi, hz, h4, h5⟩ := info_parts hinfo
 refine wpList_buildSlice hgd t e 1 #[(0, x)] ho cs i z ht hi hz (by omega) (by omega) ?_ h
 rw [h4, Nat.one_mul]
 have : ((#[(0, x)] : Array (Nat × Operand)).map fun (i, x) => (i, a.eval x)).toList = [(0, v)] := by simp [hv]
 rw [this, iU_ v size _ (by rw [hcs, hs]) (by simp), hcs]
end
section
variable {P : Program}
end
section
variable {P : Program}
theorem e8_ {w : World} {ops : Array Oper} {o : Oper} {a : Act} {K : Act -> World -> Prop} {Q : Exit -> Act -> World -> Prop} {E : Prop} (hgd : o.guard = none) (t e : TypeId) (len : Nat) (parts : Array (Nat × Operand)) (ho : o.op = .buildSlice t len parts)
  (z : Value) (size bytes : Nat) (ht : P.underlying t = some (.slice e)) (hinfo : (P.info? e).map (fun i => (i.zero, i.size, i.bytes)) = some (some z, size, bytes))
  (l : List (Nat × Value)) (xs : List Value) (hl : (parts.map fun (i, x) => (i, a.eval x)).toList = l)
  (hf : Instr.fill (fun i => some (i * size, size)) ((Array.range (len * size)).map (z.cells[· % z.cells.size]!)) l = some xs.toArray)
  (hxs : xs.length = len * size) (hsm : ¬ len * size > 2 ^ 24) (hp : ¬ len * size = 0) (hm : len <= maxLen)
  (h : ∀ w', w'.ownsRow w.heap.size e size (.slice (some ⟨w.heap.size, 0, none⟩) len len) len xs -> RowKit.Below w.heap.size w w' -> K (a.put o.dst (.slice (some ⟨w.heap.size, 0, none⟩) len len)) w') :
  if Region.wanted o (yielded ops a.tmps) = true then Oper.wp P o a w K Q else E := by
 rw [if_pos (show Region.wanted o (yielded ops a.tmps) = true by simp [Region.wanted, hgd])]
 obtain ⟨i, hi, hz, h4, h5⟩ := info_parts hinfo
 subst h4
 refine wp_buildSlice t e len parts ho xs.toArray i z ht hi hz hsm hp (by rw [hl]; exact hf) ?_
 refine h _ ⟨hxs, .inr ⟨w.heap.size, len, xs.toArray, rfl, lR _, heap_alloc_new w _, lR _, hm, by simpa using hxs, ?_⟩⟩ (below1 w _)
 rw [tL (by simp [hxs])]
theorem ao_ {w : World} {ops : Array Oper} {o : Oper} {a : Act} {K : Act -> World -> Prop} {Q : Exit -> Act -> World -> Prop} {E : Prop} (hgd : o.guard = none) (N : Nat) (xs : Array Operand) (ts : Array TypeId)
  (ho : o.op = .call { callee := .value (.func N), args := xs, argTypes := ts }) (vs : Array Value) (hx : xs.map a.eval = vs)
  (fn : Func) (hfn : P.funcs[N]? = some fn) (hname : (fn.name == "runtime.NumGoroutine") = false) (hbody : fn.body.isSome = true)
  (R : Value -> World -> Prop) (hc : Calls P N vs w fun e w' => ∃ u, e = .returned u /\ R u w')
  (h : ∀ u w', R u w' -> K (a.put o.dst u) w') :
  if Region.wanted o (yielded ops a.tmps) = true then Oper.wp P o a w K Q else E := by
 rw [if_pos (show Region.wanted o (yielded ops a.tmps) = true by simp [Region.wanted, hgd])]
 unfold Oper.wp
 have hf : a.eval (.func N) = .func (.func N) #[] #[] := rfl
 have h1 : fn.name ≠ "runtime.NumGoroutine" := by simpa using hname
 have h2 : fn.body ≠ none := by intro h3; simp [h3] at hbody
 have h3 : (callFunc N vs).run P w = .ok (.enter N vs) w := by simp [callFunc, hfn, h1, h2]
 simp [execOp, ho, resolve, invoke, hx, hf, Deferred.ofValue, h3]
 refine hc.mono ?_
 rintro e w' ⟨u, rfl, hR⟩
 exact h u w' hR
end
set_option maxRecDepth 100000
set_option maxHeartbeats 16000000
structure Kept (L : List Nat) (w w' : World) : Prop where
 os : w'.os = w.os
 tape : w'.tape = w.tape
 output : w'.output = w.output
 size : w.heap.size <= w'.heap.size
 block : ∀ k, k < w.heap.size -> k ∉ L -> w'.heap[k]? = w.heap[k]?
theorem Kept.refl (L : List Nat) (w : World) : Kept L w w := ⟨rfl, rfl, rfl, lR _, fun _ _ _ => rfl⟩
theorem Kept.trans {L : List Nat} {a b c : World} (h : Kept L a b) (k : Kept L b c) : Kept L a c :=
 ⟨k.os.trans h.os, k.tape.trans h.tape, k.output.trans h.output, lT h.size k.size, fun i hi hn => (k.block i (lL hi h.size) hn).trans (h.block i hi hn)⟩
theorem Kept.mono {L L' : List Nat} {a b : World} (h : Kept L a b) (hL : ∀ k ∈ L, k ∈ L') : Kept L' a b := ⟨h.os, h.tape, h.output, h.size, fun i hi hn => h.block i hi fun hm => hn (hL i hm)⟩
theorem Kept.of_below {L : List Nat} {a b : World} (h : Bw a b) : Kept L a b := ⟨h.os, h.tape, h.output, h.size, fun i hi _ => h.block i hi⟩
theorem Kept.below {L : List Nat} {a b : World} {B : Nat} (h : Kept L a b) (hB : B <= a.heap.size) (hL : ∀ k ∈ L, B <= k) : Below B a b :=
 ⟨h.os, h.tape, h.output, h.size, fun i hi => h.block i (by omega) fun hm => absurd (hL i hm) (by omega)⟩
theorem Kept.drew {L : List Nat} {a b : World} (h : Kept L a b) : Kept L a b.drew := ⟨h.os, h.tape, h.output, h.size, h.block⟩
theorem Kept.alloc {L : List Nat} {a b : World} (h : Kept L a b) (o : Obj) : Kept L a (b.alloc o) :=
 h.trans (Kept.of_below (below1 b o))
theorem Kept.setCell {L : List Nat} {a b : World} (h : Kept L a b) {p : Addr} (hp : p.block ∈ L) (v : Value) : Kept L a (b.setCell p v) := by
 refine h.trans ⟨rfl, rfl, rfl, by simp, fun k hk hn => ?_⟩
 exact Go.Deep.blk_setCell_other _ _ _ _ (fun e => hn (by rw [e]; exact hp))
theorem Kept.row {L : List Nat} {a b : World} (h : Kept L a b) {G n : Nat} {t : TypeId} {f : Nat -> Value} (hG : G ∉ L) (hr : a.rowIs G t n f) : b.rowIs G t n f :=
 World.rowIs.of_block hr (h.block G (World.rowIs.lt hr) hG)
theorem Kept.byt {L : List Nat} {a b : World} (h : Kept L a b) {A : Option Addr} {c : Nat} {xs : List Int} (hA : Byt a a.heap.size A c xs) (hn : ∀ x off, A = some ⟨x, off, none⟩ -> x ∉ L) : Byt b b.heap.size A c xs := by
 refine ⟨hA.1, hA.2.1, fun i hi => ?_⟩
 obtain ⟨x, off, h1, h2, h3⟩ := hA.2.2 i hi
 refine ⟨x, off, h1, lL h2 h.size, fun y hy => ?_⟩
 rw [World.cell?_of_block (w := a) (h.block x h2 (hn x off h1))]
 exact h3 y hy
def aF_ (s : ByteArray) : List Int := s.data.toList.map fun b => (b.toNat : Int)
theorem aG_ (s : ByteArray) : (aF_ s).length = s.size := by unfold aF_; rw [lM_, Array.length_toList]; rfl
theorem dp_ (w : World) (s : ByteArray) : ∃ c w', (convert 9 26 (.string s)).run Tryz.prog w = .ok (.slice (some ⟨w.heap.size, 0, none⟩) s.size c) w' /\ Byt w' w'.heap.size (some ⟨w.heap.size, 0, none⟩) c (aF_ s) /\ Bw w w' := by
 refine ⟨_, Lib.bytesWorld w 5 s, Lib.run_convert_string_bytes w 9 26 5 s Tryz.underlying9 Tryz.underlying26 Tryz.underlying5, ⟨(fun h => by cases h), by rw [aG_]; exact grownCap_ge _ _ _ _, fun i hi => ⟨w.heap.size, 0, rfl, by rw [Lib.bytesWorld_size]; omega, fun x hx => ?_⟩⟩, ⟨rfl, rfl, rfl, by rw [Lib.bytesWorld_size]; omega, fun k hk => Lib.bytesWorld_at_old w 5 s k hk⟩⟩
 rw [aG_] at hi
 rw [Nat.zero_add, Lib.bytesWorld_cell w 5 s i hi]
 unfold aF_ at hx
 rw [gM] at hx
 obtain ⟨b, hb, rfl⟩ := Option.map_eq_some_iff.1 hx
 simp [List.getD, hb]
def codF (c r out : Value) (bad : Bool) : Nat -> Value
 | 0 => c
 | 1 => r
 | 2 => out
 | _ => .bool bad
def SlB (w : World) (B : Nat) (v : Value) (xs : List Int) : Prop := ∃ A c, v = .slice A xs.length c /\ Byt w w.heap.size A c xs /\ ∀ b off, A = some ⟨b, off, none⟩ -> B <= b
theorem SlB.of_own {w : World} {base : Nat} {v : Value} {xs : List Int} (h : Own8 w base v xs) : SlB w base v xs := by
 obtain ⟨A, c, rfl, hb⟩ := h.val
 refine ⟨A, c, rfl, hb, fun b off hA => ?_⟩
 subst hA
 rcases bc_ h.raw (by decide) with ⟨h1, _, _⟩ | ⟨g, cap, h1, h2, _⟩
 ·cases h1
 cases h1; exact h2
theorem hk_ : (Tryz.f361.name == "runtime.NumGoroutine") = false := by kernel_rfl
theorem hl_ : Tryz.f361.body.isSome = true := by kernel_rfl
theorem iK_ {X G : Nat} {t : TypeId} {n : Nat} {f : Nat -> Value} {c : Value} {A A6 : Option Addr} {ca c6 L : Nat} {o : Nat} {xs : List Int} {bad : Bool} {w w6 : World} {base : Nat} (hL : xs.length = L)
  (hG : w.rowIs G t n f) (hXG : X ≠ G) (hX : w.rowIs X 339 4 (codF c (.pointer none) (.slice A o ca) bad)) (hb6 : Bw w w6) (hown : Own8 w6 base (.slice A6 L c6) xs) (hbase : w.heap.size <= base) :
  ∃ w7, w7 = w6.setCell ⟨X, 2, none⟩ (.slice A6 L c6) /\ w7.rowIs X 339 4 (codF c (.pointer none) (.slice A6 L c6) bad) /\ w7.rowIs G t n f /\ Kept [X] w w7 /\ SlB w7 w.heap.size (.slice A6 L c6) xs := by
 have hXlt := World.rowIs.lt hX
 have hX6 : w6.rowIs X 339 4 (codF c (.pointer none) (.slice A o ca) bad) := World.rowIs.of_block hX (hb6.block X hXlt)
 have hG6 : w6.rowIs G t n f := World.rowIs.of_block hG (hb6.block G (World.rowIs.lt hG))
 have hK : Kept [X] w (w6.setCell ⟨X, 2, none⟩ (.slice A6 L c6)) := (Kept.of_below hb6).setCell (by simp) _
 refine ⟨_, rfl, World.rowIs.congr (World.rowIs.set hX6 2 (.slice A6 L c6)) fun i hi => ?_, World.rowIs.setOther hG6 (by exact fun e => hXG e.symm) _, hK, ?_⟩
 ·match i, hi with
  | 0, _ => rfl
  | 1, _ => rfl
  | 2, _ => rfl
  | 3, _ => rfl
 obtain ⟨A', c', he, hby, hlo⟩ := SlB.of_own hown
 refine ⟨A', c', he, ?_, fun b off hA => lT hbase (hlo b off hA)⟩
 have hk2 : Kept [X] w6 (w6.setCell ⟨X, 2, none⟩ (.slice A6 L c6)) := (Kept.refl _ _).setCell (by simp) _
 exact hk2.byt hby fun x off hA hm => by
  have h1 := hlo x off hA
  simp at hm
  omega
theorem d2_ {X : Nat} {c r v : Value} {b bad : Bool} {w w7 w8 : World} {xs : List Int} (hX7 : w7.rowIs X 339 4 (codF c r v bad)) (hXw : X < w.heap.size) (hK7 : Kept [X] w w7) (hS7 : SlB w7 w.heap.size v xs) (hb8 : Bw w7 w8) :
  (w8.setCell ⟨X, 3, none⟩ (.bool b)).rowIs X 339 4 (codF c r v b) /\ SlB (w8.setCell ⟨X, 3, none⟩ (.bool b)) w.heap.size v xs /\ Kept [X] w (w8.setCell ⟨X, 3, none⟩ (.bool b)) := by
 have hX8 : w8.rowIs X 339 4 (codF c r v bad) := World.rowIs.of_block hX7 (hb8.block X (World.rowIs.lt hX7))
 have hK : Kept [X] w7 (w8.setCell ⟨X, 3, none⟩ (.bool b)) := (Kept.of_below hb8).setCell (by simp) _
 refine ⟨World.rowIs.congr (World.rowIs.set hX8 3 (.bool b)) fun i hi => ?_, ?_, hK7.trans hK⟩
 ·match i, hi with
  | 0, _ => rfl
  | 1, _ => rfl
  | 2, _ => rfl
  | 3, _ => rfl
 obtain ⟨A', c', he, hby, hlo⟩ := hS7
 refine ⟨A', c', he, ?_, hlo⟩
 exact hK.byt hby fun x off hA hm => by
  have h1 := hlo x off hA
  simp at hm
  omega
theorem fz_ (X G k : Nat) (t : TypeId) (n : Nat) (f : Nat -> Value) (s : ByteArray) (c : Value) (A : Option Addr) (ca : Nat) (out : List Int) (bad al : Bool) (N : Nat) (w : World)
  (hG : w.rowIs G t n f) (hk : k < n) (hf : f k = .string s) (hXG : X ≠ G) (hX : w.rowIs X 339 4 (codF c (.pointer none) (.slice A out.length ca) bad)) (hA : Byt w w.heap.size A ca out) (hAX : ∀ b off, A = some ⟨b, off, none⟩ -> b ≠ X)
  (eg : ∀ args w, (callFunc N args).run Tryz.prog w = .ok (.enter N args) w) (hN : ∀ w, Calls Tryz.prog N #[.string s] w fun e w' => e = .returned (.bool al) /\ Bw w w') (hs : s.size <= 100000) (hol : out.length <= 500000) :
  Calls Tryz.prog 307 #[.pointer (some ⟨X, 0, none⟩), .pointer (some ⟨G, k, none⟩), .func (.func N) #[] #[]] w fun e w' =>
   e = .returned (.tuple #[]) /\ ∃ v, w'.rowIs X 339 4 (codF c (.pointer none) v (bad || !al)) /\ SlB w' w.heap.size v (out ++ putV s.size ++ aF_ s) /\ Kept [X] w w' := by
 have hc1 : w.cell? ⟨X, 1, none⟩ = some (.pointer none) := World.rowIs.cell hX (i := 1) (by decide)
 have hc2 : w.cell? ⟨X, 2, none⟩ = some (.slice A out.length ca) := World.rowIs.cell hX (i := 2) (by decide)
 have hc3 : w.cell? ⟨X, 3, none⟩ = some (.bool bad) := World.rowIs.cell hX (i := 3) (by decide)
 have hcs : w.cell? ⟨G, k, none⟩ = some (.string s) := by rw [<- hf]; exact World.rowIs.cell hG hk
 obtain ⟨HX, HG, HA⟩ := kq3 hX hG hA
 clear hX hG hA
 obtain ⟨L, hL⟩ := eY ((out ++ putV s.size ++ aF_ s).length)
 have HL := kp hL
 clear hL
 have HN := kp hN
 clear hN
 go_enter Tryz.func307, Tryz.ntmps307
 go_wp2_with fail
 obtain ⟨c2, W5, hconv, hby5, hb5⟩ := dp_ w.drew s
 have hXlt : X < w.drew.heap.size := World.rowIs.lt HX.o
 have hX5 : W5.rowIs X 339 4 (codF c (.pointer none) (.slice A out.length ca) bad) := World.rowIs.of_block HX.o (hb5.block X hXlt)
 have h52 : W5.cell? ⟨X, 2, none⟩ = some (.slice A out.length ca) := World.rowIs.cell hX5 (i := 2) (by decide)
 obtain ⟨hA5, Ab, Ae⟩ := kq3 (HA.o.below (B := w.heap.size) (w' := W5) (B' := w.heap.size) ⟨hb5.os, hb5.tape, hb5.output, hb5.size, hb5.block⟩ (lR _) |>.mono hb5.size) hX5 hby5
 have hsl := aG_ s
 have HC := kp (cu_ A (some ⟨w.drew.heap.size, 0, none⟩) out.length ca s.size c2 out (aF_ s) W5 rfl hsl (by omega) (by omega) hA5.o Ae.o)
 clear hX5 hby5
 go_region_law ((with_reducible refine ao_ (o := ⟨some 22, _, _, _, _, _⟩) rfl 361 _ _ rfl #[.slice A out.length ca, .slice (some ⟨w.drew.heap.size, 0, none⟩) s.size c2] ?_ Tryz.f361 Tryz.func361 hk_ hl_ (fun u w6 => Own8 w6 W5.heap.size u (out ++ putV s.size ++ aF_ s) /\ Bw W5 w6) ?_ ?_); (· simp only [y1, y2, y3]; rfl); (· exact HC.o.mono fun e w' ⟨v, h1, h2, h3⟩ => ⟨v, h1, h2, h3⟩); rintro u6 w6 ⟨hown6, hb6⟩; obtain ⟨A6, c6, rfl, hby6⟩ := hown6.val; rw [HL.o]; rw [HL.o] at hown6; have hX6 := kp (World.rowIs.of_block Ab.o (hb6.block X (World.rowIs.lt Ab.o))); have h62 : w6.cell? ⟨X, 2, none⟩ = some (.slice A out.length ca) := World.rowIs.cell hX6.o (i := 2) (by decide); have hf62 : w6.frozen? ⟨X, 2, none⟩ = false := World.rowIs.frozen hX6.o 2)
 all_goals
  have hbw6 : Bw w w6 := by
   have h1 : Bw w W5 := ⟨hb5.os, hb5.tape, hb5.output, hb5.size, hb5.block⟩
   exact h1.trans (hb6.mono h1.size)
  obtain ⟨w7, hw7, hX7, hG7, hK7, hS7⟩ := iK_ HL.o HG.o hXG HX.o hbw6 hown6 (by have := hb5.size; exact this)
  rw [<- hw7]
  clear hw7 h62 hf62 hX6 hown6 hby6 hb6 hbw6
  have h73 : w7.cell? ⟨X, 3, none⟩ = some (.bool bad) := World.rowIs.cell hX7 (i := 3) (by decide)
  have hf73 : w7.frozen? ⟨X, 3, none⟩ = false := World.rowIs.frozen hX7 3
  have h7s : w7.cell? ⟨G, k, none⟩ = some (.string s) := by rw [<- hf]; exact World.rowIs.cell hG7 hk
  obtain ⟨Aa, Ad, Ac⟩ := kq3 hX7 hK7 hS7
  clear hX7 hG7 hK7 hS7
  have hXw := World.rowIs.lt HX.o
  cases bad with
  | true =>
   go_wp2_with fail
   go_end0
   obtain ⟨h1, h2, h3⟩ := d2_ (b := true) Aa.o hXw Ad.o Ac.o (BR _ _)
   exact ⟨rfl, _, h1, h2, h3⟩
  | false =>
   go_wp2_with fail
   refine (HN.o w7).mono ?_
   rintro e w8 ⟨rfl, hb8⟩
   have hX8 := World.rowIs.of_block Aa.o (hb8.block X (World.rowIs.lt Aa.o))
   have h83 : w8.cell? ⟨X, 3, none⟩ = some (.bool false) := World.rowIs.cell hX8 (i := 3) (by decide)
   have hf83 : w8.frozen? ⟨X, 3, none⟩ = false := World.rowIs.frozen hX8 3
   clear hX8
   go_wp2_with fail
   go_end0
   obtain ⟨h1, h2, h3⟩ := d2_ (b := !al) Aa.o hXw Ad.o Ac.o hb8
   exact ⟨rfl, _, h1, h2, h3⟩
def jZ_ (n : Nat) : Prop := ∀ (A : Option Addr) (k c : Nat) (rest : List Int) (w : World), (putV n ++ rest).length = k -> k <= 1000000 -> Byt w w.heap.size A c (putV n ++ rest) ->
 Calls Tryz.prog 390 #[.slice A k c] w fun e w' => e = .returned (.tuple #[.int .u64 n, .int .i64 (putV n).length, .int .i64 0]) /\ Bw w w'
theorem Byt.at {w : World} {B : Nat} {A : Option Addr} {c : Nat} {xs : List Int} (h : Byt w B A c xs) {i : Nat} (hi : i < xs.length) : ∃ b off, A = some ⟨b, off, none⟩ /\ b < B /\ w.cell? ⟨b, off + i, none⟩ = some (.int .u8 (xs.getD i 0)) := by
 obtain ⟨b, off, h1, h2, h3⟩ := h.2.2 i hi
 exact ⟨b, off, h1, h2, h3 _ (by simp [List.getD, hi])⟩
theorem jW_ (A : Option Addr) (n c : Nat) (xs : List Int) (w : World) (hn : xs.length = n) (hl : n <= 100000000) (hA : Byt w w.heap.size A c xs) :
  Calls Tryz.prog 403 #[.slice A n c] w fun e w' => ∃ v, e = .returned v /\ Own8 w' w.heap.size v xs /\ Bw w w' := by
 subst hn
 cases A with
 | none =>
  have hc0 : c = 0 := hA.1 rfl
  subst hc0
  have hx : xs = [] := by have := hA.2.1; exact eN (by omega)
  subst hx
  have hq := q22
  go_enter Tryz.func403, Tryz.ntmps403
  go_wp2_with fail
  go_ret
  exact ⟨_, rfl, Own8.nil _ _, BR _ _⟩
 | some ad =>
  have hb := below1 w (.cells #[] 5)
  obtain ⟨hsrc, hown, hs⟩ := kq3 (hA.below hb (lR _)).src (World.ownsRow_made (e := 5) (size := 1) (base := w.heap.size) w #[] 0 (lR _) (by unfold maxLen; omega) rfl) (show w.heap.size <= (w.alloc (.cells #[] 5)).heap.size by simp)
  generalize hN : xs.length = N at *
  have HN := kp hN
  clear hN
  have hq := q22
  go_enter Tryz.func403, Tryz.ntmps403
  go_wp2_with ((with_reducible refine ae_ (o := ⟨some 7, _, _, _, _, _⟩) rfl _ _ 26 rfl w.heap.size 5 (.int .u8 0) 1 1 Tryz.underlying26 Tryz.info5 rfl (by decide) _ _ [] ?_ hown.o (some ad) N c (xs.map (Value.int .u8)) ?_ ?_ hsrc.o (eY_ _) ?_ ?_ hs.o ?_); (· rfl); (· rfl); (· simp [HN.o]); (· unfold maxLen; omega); (· omega); intro v1 w1 hown1 _ hb1)
  go_ret
  exact ⟨_, rfl, Own8.app HN.o.symm (xs := []) (by simpa using hown1), hb.trans hb1⟩
theorem Byt.part {w : World} {B b off c : Nat} {xs ys zs : List Int} (h : Byt w B (some ⟨b, off, none⟩) c (xs ++ ys ++ zs)) {m e : Nat} (hm : xs.length = m) (hc : ys.length <= e) {A : Option Addr} (hA : A ≠ none) (hA2 : 0 < e -> A = some ⟨b, off + m, none⟩) : Byt w B A e ys := by
 subst hm
 refine ⟨fun h => absurd h hA, hc, fun i hi => ?_⟩
 obtain ⟨b', off', h1, h2, h3⟩ := h.2.2 (xs.length + i) (by simp; omega)
 cases h1
 refine ⟨b, off + xs.length, hA2 (by omega), h2, fun x hx => ?_⟩
 have := h3 x (by rw [aA, aR (by omega), Nat.add_sub_cancel_left, aL hi]; exact hx)
 rwa [<- Nat.add_assoc] at this
theorem hi_ (A : Option Addr) (k c most : Nat) (p rest : List Int) (w : World) (hget : jZ_ p.length) (hk : (putV p.length ++ (p ++ rest)).length = k) (hl : k <= 1000000) (hm : p.length <= most) (hm2 : most <= 1000000) (hA : Byt w w.heap.size A c (putV p.length ++ (p ++ rest))) :
  Calls Tryz.prog 393 #[.slice A k c, .int .i64 most] w fun e w' => ∃ v, e = .returned (.tuple #[v, .int .i64 ((putV p.length).length + p.length : Nat), .int .i64 0]) /\ Own8 w' w.heap.size v p /\ Bw w w' := by
 have HG := kp (hget A k c (p ++ rest) w hk hl hA)
 have hpos : 0 < (putV p.length).length := by
  by_cases h : p.length <= 127
  ·rw [bp_ h]; simp
  rw [bt_ h]; simp
 obtain ⟨b, off, hAe, hb, _⟩ := hA.at (i := 0) (by rw [lA]; omega)
 subst hAe
 have HA := kp hA
 clear hA hget
 obtain ⟨n, hn⟩ := eY p.length
 obtain ⟨m, hmm⟩ := eY ((putV n).length)
 have hkk : m + n <= k := by rw [<- hk, <- hmm, <- hn]; simp [lA]
 rw [hn] at hpos HG hm
 rw [hmm] at hpos HG
 rw [hn, hmm]
 obtain ⟨HN, HM, HK⟩ := kq3 hn hmm hk
 clear hn hmm hk
 have hc : k <= c := by have := HA.o.2.1; rw [HK.o] at this; exact this
 have h1 : decide ((most : Int) < 0) = false := by simp
 have h2 : decide ((most : Int) < (n : Int)) = false := by simp; omega
 have h3 : decide ((k : Int) - (m : Int) < (n : Int)) = false := by simp; omega
 go_enter Tryz.func393, Tryz.ntmps393
 go_wp2_with fail
 refine HG.o.mono ?_
 rintro e w1 ⟨rfl, hb1⟩
 go_wp2_with fail
 all_goals
  refine (jW_ _ _ _ p w1 ?_ (by omega) ?_).mono ?_
  ·first | exact HN.o | (rw [HN.o]; omega)
  ·have h5 := HA.o.below hb1 (lR _)
   rw [HN.o, <- aA] at h5
   refine (h5.part (e := _) HM.o (by rw [HN.o]; omega) (by simp) (fun h => ?_)).mono hb1.size
   first | rfl | exact absurd h (by omega)
  rintro e w2 ⟨v2, rfl, hown2, hb2⟩
  go_wp2_with fail
  go_ret3
  refine ⟨v2, ?_, by unfold Own8; exact bh_ hown2.raw hb1.size, hb1.trans (hb2.mono hb1.size)⟩
  first | rfl | (simp; done) | (simp; omega)
def rdF (v : Value) : Nat -> Value
 | 0 => .bool true
 | _ => v
def SlX (w : World) (N : List Nat) (v : Value) (xs : List Int) : Prop := ∃ A c, v = .slice A xs.length c /\ Byt w w.heap.size A c xs /\ ∀ b off, A = some ⟨b, off, none⟩ -> b ∉ N
theorem SlX.of_slb {w : World} {B : Nat} {N : List Nat} {v : Value} {xs : List Int} (h : SlB w B v xs) (hN : ∀ k ∈ N, k < B) : SlX w N v xs := by
 obtain ⟨A, c, h1, h2, h3⟩ := h
 exact ⟨A, c, h1, h2, fun b off hA hm => by have := h3 b off hA; have := hN b hm; omega⟩
theorem SlX.kept {w w' : World} {N L : List Nat} {v : Value} {xs : List Int} (h : SlX w N v xs) (hk : Kept L w w') (hL : ∀ k ∈ L, k ∈ N) : SlX w' N v xs := by
 obtain ⟨A, c, h1, h2, h3⟩ := h
 exact ⟨A, c, h1, hk.byt h2 fun x off hA hm => h3 x off hA (hL x hm), h3⟩
theorem kI_ (A : Option Addr) (k c : Nat) (xs : List Int) (w : World) (hk : xs.length = k) (hl : k <= 1000000) (hA : Byt w w.heap.size A c xs) :
  Calls Tryz.prog 304 #[.slice A k c] w fun e w' => ∃ R v, e = .returned (.pointer (some ⟨R, 0, none⟩)) /\ w.heap.size <= R /\ w'.rowIs R 440 2 (rdF v) /\ (∀ NL : List Nat, (∀ k ∈ NL, k = R ∨ k < w.heap.size ∨ w'.heap.size <= k) -> SlX w' NL v xs) /\ Bw w w' := by
 have HC := kp (hp_ A k c xs w hk (by omega) hA)
 go_enter Tryz.func304, Tryz.ntmps304
 go_wp2_with fail
 refine HC.o.mono ?_
 rintro e w1 ⟨v1, rfl, hown1, hb1⟩
 obtain ⟨A1, c1, rfl, hby1⟩ := hown1.val
 go_wp2_with fail
 go_ret
 have hlt : ∀ b off, A1 = some ⟨b, off, none⟩ -> w.heap.size <= b /\ b < w1.heap.size := fun b off hA => by
  rcases bc_ hown1.raw (by decide) with ⟨h1, _, _⟩ | ⟨g, cap, h1, h0, h2, _⟩
  ·simp at h1; simp [h1.1] at hA
  simp at h1
  rw [h1.1] at hA
  cases hA
  exact ⟨h0, h2⟩
 refine ⟨_, .slice A1 k c1, rfl, hb1.size, World.rowIs_alloc w1 #[.bool true, .slice A1 k c1] 440 _ (fun i hi => ?_), (fun NL hN => ⟨A1, c1, by rw [hk], (hby1.below (below1 w1 _) (lR _)).mono (by simp), fun b off hA hm => by have h5 := hlt b off hA; have h6 := hN b hm; simp at h6; omega⟩), hb1.trans ((below1 w1 _).mono hb1.size)⟩
 match i, hi with
 | 0, _ => rfl
 | 1, _ => rfl
theorem iw_ {R : Nat} {NL : List Nat} (hRN : R ∈ NL) {w w1 : World} {A' : Option Addr} {L c' : Nat} {v0 : Value} {rest : List Int} (hR1 : w1.rowIs R 440 2 (rdF v0)) (hbw : Bw w w1) (hL : rest.length = L) (hby : Byt w1 w1.heap.size A' c' rest) (hne : ∀ b off, A' = some ⟨b, off, none⟩ -> b ∉ NL) :
  (w1.setCell ⟨R, 1, none⟩ (.slice A' L c')).rowIs R 440 2 (rdF (.slice A' L c')) /\ SlX (w1.setCell ⟨R, 1, none⟩ (.slice A' L c')) NL (.slice A' L c') rest /\ Kept [R] w (w1.setCell ⟨R, 1, none⟩ (.slice A' L c')) := by
 have hk2 : Kept [R] w1 (w1.setCell ⟨R, 1, none⟩ (.slice A' L c')) := (Kept.refl _ _).setCell (by simp) _
 refine ⟨World.rowIs.congr (World.rowIs.set hR1 1 _) (fun i hi => ?_), ⟨A', c', by rw [hL], hk2.byt hby (fun x off hA hm => hne x off hA (by simp at hm; rw [hm]; exact hRN)), hne⟩, (Kept.of_below hbw).trans hk2⟩
 match i, hi with
 | 0, _ => rfl
 | 1, _ => rfl
theorem hs_ (NL : List Nat) (R most : Nat) (hRN : R ∈ NL) (v : Value) (p rest : List Int) (w : World) (hget : jZ_ p.length) (hl : (putV p.length ++ (p ++ rest)).length <= 1000000) (hm : p.length <= most) (hm2 : most <= 1000000)
  (hR : w.rowIs R 440 2 (rdF v)) (hv : SlX w NL v (putV p.length ++ (p ++ rest))) :
  Calls Tryz.prog 364 #[.pointer (some ⟨R, 0, none⟩), .int .i64 most] w fun e w' => ∃ vp v', e = .returned (.tuple #[vp, .int .i64 0]) /\ Own8 w' w.heap.size vp p /\ w'.rowIs R 440 2 (rdF v') /\ SlX w' NL v' rest /\ Kept [R] w w' := by
 obtain ⟨A, c, rfl, hA, hAR⟩ := hv
 have h0 : w.cell? ⟨R, 0, none⟩ = some (.bool true) := World.rowIs.cell hR (i := 0) (by decide)
 have h1 : w.cell? ⟨R, 1, none⟩ = some (.slice A (putV p.length ++ (p ++ rest)).length c) := World.rowIs.cell hR (i := 1) (by decide)
 obtain ⟨k, hk⟩ := eY ((putV p.length ++ (p ++ rest)).length)
 have HR := kp hR
 have hbA := below1 w (.cells #[.int .i64 most] 3)
 have HG := kp (hi_ A k c most p rest (w.alloc (.cells #[.int .i64 most] 3)) hget hk (by omega) hm hm2 ((hA.below hbA (lR _)).mono (by simp)))
 have hc : k <= c := by have := hA.2.1; rw [hk] at this; exact this
 rw [hk] at h1 hl HR
 have HA := kp hA
 have hRlt := World.rowIs.lt HR.o
 clear hR hA
 obtain ⟨T, hT⟩ := eY ((putV p.length).length + p.length)
 have hTk : T <= k := by rw [<- hT, <- hk]; simp [lA]
 have hT0 : 0 < T := by
  rw [<- hT]
  by_cases h : p.length <= 127
  ·rw [bp_ h]; simp; omega
  rw [bt_ h]; simp; omega
 have hkr : rest.length = k - T := by rw [<- hT, <- hk]; simp [lA]; omega
 obtain ⟨b, off, hAe, _, _⟩ := HA.o.at (i := 0) (by rw [hk]; omega)
 subst hAe
 rw [hT] at HG
 obtain ⟨HT, HK⟩ := kq2 hT hk
 clear hT hk hget
 go_enter Tryz.func364, Tryz.ntmps364
 go_wp2_with fail
 go_enter Tryz.func391, Tryz.ntmps391
 go_wp2_with fail
 go_enter Tryz.func392, Tryz.ntmps392
 go_wp2_with fail
 refine HG.o.mono ?_
 rintro e w1 ⟨v1, rfl, hown1, hb1⟩
 go_wp2_with fail
 go_ret3
 have hRa : (w.alloc (.cells #[.int .i64 most] 3)).rowIs R 440 2 (rdF (.slice (some ⟨b, off, none⟩) k c)) := World.rowIs.alloc HR.o _
 have hR1 := World.rowIs.of_block hRa (hb1.block R (World.rowIs.lt hRa))
 have h11 : w1.cell? ⟨R, 1, none⟩ = some (.slice (some ⟨b, off, none⟩) k c) := World.rowIs.cell hR1 (i := 1) (by decide)
 have hf11 : w1.frozen? ⟨R, 1, none⟩ = false := World.rowIs.frozen hR1 1
 have Aa := kp hR1
 clear hR1 hRa
 go_wp2_with fail
 all_goals
  go_ret2
  have hbw : Bw w w1 := hbA.trans (hb1.mono hbA.size)
  have hby := (HA.o.below hbw (lR _)).mono hbw.size
  have hbt : b ∉ NL := hAR b off rfl
  have h9 : Byt w1 w1.heap.size (some ⟨b, off, none⟩) c ((putV p.length ++ p) ++ rest ++ []) := by simpa using hby
  refine ⟨_, rfl, ?_, _, iw_ hRN Aa.o hbw hkr (h9.part (m := T) (by rw [lA]; exact HT.o) (by rw [hkr]; omega) (by simp) (fun h => ?_)) (fun x o hA => ?_)⟩
  ·exact bh_ (ownsRow_setCell_below hown1.raw (by show R < (w.alloc _).heap.size; simp; omega) _) hbA.size
  ·first | rfl | exact absurd h (by omega)
  cases hA; exact hbt
theorem Byt.convert {w : World} {B : Nat} {A : Option Addr} {c n : Nat} {xs : List Int} (h : Byt w B A c xs) (hn : xs.length = n) : (convert 26 9 (.slice A n c)).run Tryz.prog w = .ok (.string (strOfNums xs)) w := by
 rcases Nat.eq_zero_or_pos n with h0 | h0
 ·subst h0
  obtain rfl : xs = [] := eN hn
  exact run_convert_bytes_zero w 26 5 Tryz.underlying26 Tryz.underlying5 A c 9 Tryz.underlying9
 obtain ⟨b, off, rfl, _, _⟩ := h.at (i := 0) (by omega)
 refine run_convert_bytes_arg (P := Tryz.prog) w 26 5 Tryz.underlying26 Tryz.underlying5 b off n c xs hn (fun i hi => ?_) 9 Tryz.underlying9
 obtain ⟨b', off', e, _, hc⟩ := h.at (i := i) (by omega)
 cases e
 exact hc
theorem str_nums (s : ByteArray) : strOfNums (aF_ s) = s := by
 unfold aF_
 rw [Go.Lib.Lz.strOfNums_map]
def updF (f : Nat -> Value) (k : Nat) (v : Value) : Nat -> Value := fun j => if j = k then v else f j
theorem do_ : ∀ args w, (callFunc 255 args).run Tryz.prog w = .ok (.enter 255 args) w := by
 intro args w
 simp [callFunc, Tryz.func255, Tryz.f255]
theorem j6_ (op : Int) (h1 : 0 < op) (h2 : op < 16) (w : World) : Calls Tryz.prog 235 #[.int .i64 op] w fun e w' => e = .returned (.bool true) /\ w' = w := by
 have g1 : decide ((0 : Int) < op) = true := by simp; omega
 have g2 : decide (op < 16) = true := by simp; omega
 go_enter Tryz.func235, Tryz.ntmps235
 go_wp2_with fail
 go_ret
 exact ⟨rfl, rfl⟩
def au_ (l : List Value) : Nat -> Value := fun i => l.getD i undef
theorem ar_ (w : World) (l : List Value) (t : TypeId) : (w.alloc (.cells l.toArray t)).rowIs w.heap.size t l.length (au_ l) := by
 have := World.rowIs_alloc w l.toArray t (au_ l) (fun i hi => by simp at hi; simp [au_, List.getD, hi])
 simpa using this
def cmdL (op : Int) (s : ByteArray) : List Value := [.int .i64 op, .string s, .slice none 0 0, .slice none 0 0, .slice none 0 0, .int .u64 0, .int .u64 0, .string ⟨#[]⟩, .string ⟨#[]⟩, .string ⟨#[]⟩]
theorem av_ {w : World} {b n : Nat} {t : TypeId} {f : Nat -> Value} (h : w.rowIs b t n f) (l : List Value) (hl : l.length = n) (hf : ∀ i, i < n -> f i = l.getD i undef) : CellsAt w ⟨b, 0, none⟩ l := by
 intro j v hj
 have hjn : j < n := by have := (gS.1 hj).1; omega
 rw [Addr.add_mid, Nat.zero_add, World.rowIs.cell h hjn, hf j hjn]
 simp [List.getD, hj]
theorem cq_ {w : World} {b n : Nat} {t : TypeId} {f : Nat -> Value} (h : w.rowIs b t n f) : w.there b 0 n := fun j hj =>
 ⟨by rw [Nat.zero_add, World.rowIs.cell h hj]; rfl, World.rowIs.frozen h _⟩
theorem aC_ {w : World} {b n : Nat} {t : TypeId} {f : Nat -> Value} (h : w.rowIs b t n f) (l : List Value) (hl : l.length = n) : (w.setCells b 0 l).rowIs b t n (au_ l) := by
 refine World.rowIs.congr (rowIs_setCells l 0 w f h) fun j hj => ?_
 rw [if_pos (by omega)]
 have : j < l.length := by omega
 simp [au_, List.getD, gE this]
theorem am_ {L : List Nat} {a : World} {b : Nat} (hb : b ∈ L) : ∀ (vs : List Value) (o : Nat) (w : World), Kept L a w -> Kept L a (w.setCells b o vs)
 | [], _, _, h => h
 | v :: r, o, w, h => am_ hb r (o + 1) _ (h.setCell (by exact hb) v)
theorem ab_ {P : Program} {ops : Array Oper} {rest : List Oper} {op : Oper} {a : Act} {w : World} {Q : Exit -> Act -> World -> Prop} (hgd : op.guard = none) (ty : TypeId) (x y : Operand) (ho : op.op = .store ty x y)
  (b o : Nat) (cells : Array Value) (hx : a.eval x = .pointer (some ⟨b, o, none⟩)) (hy : a.eval y = .agg cells)
  (ht : w.there b o cells.size) (hi : (P.info? ty).map (·.size) = some cells.size) (h1 : cells.all (·.oneCell') = true)
  (h : ∀ w', w' = w.setCells b o cells.toList -> wpList P ops Q rest (a.put op.dst undef) w') : wpList P ops Q (op :: rest) a w :=
 wpList_store_mid hgd ty x y ho b o cells hx hy ht hi h1 (h _ rfl)
theorem ls_ (op : Int) (s : ByteArray) : (Tryz.prog.info? 36).map (·.size) = some (cmdL op s).length := by kernel_rfl
theorem jT_ (op : Int) (s : ByteArray) : (Tryz.prog.info? 36).map (·.size) = some (cmdL op s).toArray.size := by kernel_rfl
theorem as_ {P : Program} {fn : Func} {p u : Tmp} {ty : TypeId} (h : fn.results = #[.cell p ty, .tmp u]) (tmps : Array Value) (w : World) (ad : Addr) (cs : Array Value)
  (hp : tmps.getD p undef = .pointer (some ad)) (hl : (loadVar ty ad).run P w = .ok (.agg cs) w) : (results fn tmps).run P w = .ok (.tuple #[.agg cs, tmps.getD u undef]) w := by
 have hp' : tmps[p]?.getD undef = .pointer (some ad) := by simpa using hp
 simp [results, h, hp', asAddr, hl]
theorem cmdL_one (op : Int) (s : ByteArray) : (cmdL op s).toArray.all (·.oneCell') = true := all_oneCell_toArray fun v hv => by
 simp only [cmdL, List.mem_cons, List.not_mem_nil, or_false] at hv
 rcases hv with rfl | rfl | rfl | rfl | rfl | rfl | rfl | rfl | rfl | rfl <;> rfl
theorem jp_ (w : World) (u v : Value) (op : Int) : ∃ W, W = ((w.alloc (.cells #[u, v] 270)).alloc (.cells #[.int .i64 0, .string ⟨#[]⟩, .slice none 0 0, .slice none 0 0, .slice none 0 0, .int .u64 0, .int .u64 0, .string ⟨#[]⟩, .string ⟨#[]⟩, .string ⟨#[]⟩] 36)).alloc (.cells #[.int .i64 op, .string ⟨#[]⟩, .slice none 0 0, .slice none 0 0, .slice none 0 0, .int .u64 0, .int .u64 0, .string ⟨#[]⟩, .string ⟨#[]⟩, .string ⟨#[]⟩] 36) /\
  W.rowIs (w.heap.size + 1 + 1) 36 10 (au_ (cmdL op ⟨#[]⟩)) /\ W.rowIs (w.heap.size + 1) 36 10 (au_ (cmdL 0 ⟨#[]⟩)) /\ Bw w W /\ W.heap.size = w.heap.size + 3 := by
 refine ⟨_, rfl, ?_, ?_, dS_ w _ _ _, by simp⟩
 ·have := ar_ ((w.alloc (.cells #[u, v] 270)).alloc (.cells (cmdL 0 ⟨#[]⟩).toArray 36)) (cmdL op ⟨#[]⟩) 36
  simpa [cmdL] using this
 have := World.rowIs.alloc (ar_ (w.alloc (.cells #[u, v] 270)) (cmdL 0 ⟨#[]⟩) 36) (.cells (cmdL op ⟨#[]⟩).toArray 36)
 simpa [cmdL] using this
end Go.Proofs.YtnjhpgmbfblgaaaGreat.Ord
namespace Go.Proofs
open Go.Shelf

end Go.Proofs
namespace Go.Proofs.YtnjhpgmbfblgaaaGreat.Ord
open Go.RowKit
theorem hw_ (w : World) (l : List Value) (hl : l.length = 10) : ∃ W, W = ((w.alloc (.cells l.toArray 36)).alloc (.cells #[.int .u8 0, .slice none 0 0] 270)).alloc (.cells #[.pointer (some ⟨w.heap.size, 0, none⟩), .pointer none, .slice none 0 0, .bool false] 339) /\
  W.rowIs w.heap.size 36 10 (au_ l) /\ W.rowIs (w.heap.size + 1) 270 2 (au_ [.int .u8 0, .slice none 0 0]) /\ W.rowIs (w.heap.size + 1 + 1) 339 4 (codF (.pointer (some ⟨w.heap.size, 0, none⟩)) (.pointer none) (.slice none 0 0) false) /\ Bw w W /\ W.heap.size = w.heap.size + 3 := by
 refine ⟨_, rfl, ?_, ?_, ?_, dS_ w _ _ _, by simp⟩
 ·have := ar_ w l 36
  rw [hl] at this
  exact World.rowIs.alloc (World.rowIs.alloc this _) _
 ·have := ar_ (w.alloc (.cells l.toArray 36)) [.int .u8 0, .slice none 0 0] 270
  exact World.rowIs.alloc (by simpa using this) _
 have := ar_ ((w.alloc (.cells l.toArray 36)).alloc (.cells #[.int .u8 0, .slice none 0 0] 270)) [.pointer (some ⟨w.heap.size, 0, none⟩), .pointer none, .slice none 0 0, .bool false] 339
 refine World.rowIs.congr (by simpa using this) fun i hi => ?_
 match i, hi with
 | 0, _ => rfl
 | 1, _ => rfl
 | 2, _ => rfl
 | 3, _ => rfl
theorem ac_ {P : Program} {ops : Array Oper} {rest : List Oper} {o : Oper} {a : Act} {w : World} {Q : Exit -> Act -> World -> Prop} (ty : TypeId) (x : Operand) (ho : o.op = .load ty x)
  (ad : Addr) (hx : a.eval x = .pointer (some ad)) (cs : List Value) (d : TypeDesc) (hc : CellsAt w ad cs)
  (hu : P.underlying ty = some d) (hd : (match d with | .struct _ | .array _ _ => true | _ => false) = true) (hi : (P.info? ty).map (·.size) = some cs.length)
  (hw : Region.wanted o (yielded ops a.tmps) = true)
  (h : wpList P ops Q rest (a.put o.dst (.agg cs.toArray)) w) : wpList P ops Q (o :: rest) a w := by
 unfold wpList
 rw [if_pos hw]
 exact .inl (d8_ ty x ho ad hx cs d hc hu hd hi h)

end Go.Proofs.YtnjhpgmbfblgaaaGreat.Ord
