/- Walk of the script reader's data; Walk of a script's step; Walk of script.Parse; Lists of. -/
import Derived.Test.YtnjhpgmbfblgaaaGreatMR10
import Derived.Lib.Bytes
import Derived.Test.YtnjhpgmbfblgaaaGreatMR2
set_option linter.unusedVariables false
set_option linter.unusedSimpArgs false
namespace Go.Proofs.YtnjhpgmbfblgaaaGreat.Ord
open Go.RowKit

structure StepR where
 k : Int
 c : Int
 n : Int
 d : List Int
theorem jt_ {w : World} {base : Nat} {e t : TypeId} {size n m Q : Nat} {f : Nat -> Value} {v : Value} {xs : List Value} (h : w.ownsRow base e size v n xs) (hr : w.rowIs Q t m f) (ht : t ≠ e) : v.ownBlock ≠ some Q := by
 intro he
 rcases h.2 with ⟨h1, _⟩ | ⟨g, cap, cur, h1, _, hh, _⟩
 ·subst h1; cases he
 subst h1
 cases he
 obtain ⟨cs, h2, _⟩ := hr
 rw [hh] at h2
 cases h2
 exact ht rfl
theorem bB_ {w : World} {base base' : Nat} {e e' : TypeId} {size size' n n' : Nat} {v v' : Value} {xs xs' : List Value} (h : w.ownsRow base e size v n xs) (h' : w.ownsRow base' e' size' v' n' xs') (ht : e ≠ e') : v.ownBlock = none ∨ v.ownBlock ≠ v'.ownBlock := by
 rcases h.2 with ⟨h1, _⟩ | ⟨g, cap, cur, h1, _, hh, _⟩
 ·subst h1; exact .inl rfl
 right
 subst h1
 intro he
 rcases h'.2 with ⟨h1', _⟩ | ⟨g', cap', cur', h1', _, hh', _⟩
 ·subst h1'; cases he
 subst h1'
 cases he
 rw [hh] at hh'
 cases hh'
 exact ht rfl
theorem Kept.own2 {L : List Nat} {a b : World} (h : Kept L a b) {base : Nat} {e : TypeId} {size : Nat} {v : Value} {n : Nat} {xs : List Value} (hown : a.ownsRow base e size v n xs) (hL : ∀ k ∈ L, v.ownBlock ≠ some k) : b.ownsRow base e size v n xs := by
 refine ⟨hown.1, ?_⟩
 rcases hown.2 with hn | ⟨g, cap, cur, rfl, hb, hgg, rest⟩
 ·exact .inl hn
 refine .inr ⟨g, cap, cur, rfl, hb, ?_, rest⟩
 rw [h.block g (Array.getElem?_eq_some_iff.1 hgg).1 (fun hm => hL g hm rfl)]
 exact hgg
theorem aE_ {P : Program} {fn : Func} {p : Tmp} {ty : TypeId} (h : fn.results = #[.cell p ty]) (tmps : Array Value) (w : World) (ad : Addr) (v : Value)
  (hp : tmps.getD p undef = .pointer (some ad)) (hl : (loadVar ty ad).run P w = .ok v w) : (results fn tmps).run P w = .ok v w := by
 have hp' : tmps[p]?.getD undef = .pointer (some ad) := by simpa using hp
 simp [results, h, hp', asAddr, hl]

theorem fV_ {xs ys : List Int} (hx : ∀ y ∈ xs, 0 <= y /\ y < 256) (hy : ∀ y ∈ ys, 0 <= y /\ y < 256) : ((strOfNums xs).toList == (strOfNums ys).toList) = decide (xs = ys) := by
 rw [Lib.strOfNums_toList, Lib.strOfNums_toList]
 have back : ∀ l : List Int, (∀ y ∈ l, 0 <= y /\ y < 256) -> (Lib.bytesOf l).map (fun b => (b.toNat : Int)) = l := by
  intro l hl
  unfold Lib.bytesOf
  rw [List.map_map]
  conv => rhs; rw [<- List.map_id l]
  refine List.map_congr_left fun y hy => ?_
  have := hl y hy
  simp only [Function.comp_apply, UInt8.toNat_ofNat', id]
  omega
 rw [Bool.eq_iff_iff, beq_iff_eq, decide_eq_true_iff]
 exact ⟨fun h => by rw [<- back xs hx, <- back ys hy, h], fun h => by rw [h]⟩
instance : Inhabited StepR := ⟨⟨0, 0, 0, []⟩⟩
def DatG (w : World) (B : Nat) (d : Value) (xs : List Int) : Prop := (∀ y ∈ xs, 0 <= y /\ y < 256) /\ xs.length <= maxLen /\ ∃ A c, d = .slice A xs.length c /\ Byt w B A c xs
end Go.Proofs.YtnjhpgmbfblgaaaGreat.Ord
namespace Go.Proofs.YtnjhpgmbfblgaaaGreat.Ord
open Go.ChangeShapes Go.WideShapes Go.ChangeAt Go.RowKit Go.Deep
section
variable {H : Type} {enc : TypeId × Value -> H} {w : World} {base : Nat} {spare : Nat -> Bool} {held : Bool}
end
end Go.Proofs.YtnjhpgmbfblgaaaGreat.Ord
namespace Go.Proofs.YtnjhpgmbfblgaaaGreat.Ord
set_option maxRecDepth 100000
set_option maxHeartbeats 16000000
open Go.RowKit
def ElV {α : Type} (enc : α -> Value) (w : World) (B : Nat) (A : Option Addr) (xs : List α) : Prop := ∀ i x, xs[i]? = some x -> ∃ b off, A = some ⟨b, off, none⟩ /\ b < B /\ w.cell? ⟨b, off + i, none⟩ = some (enc x)
theorem ElV.below {α : Type} {enc : α -> Value} {w w' : World} {B B' : Nat} {A : Option Addr} {xs : List α} (h : ElV enc w B A xs) (hb : Below B' w w') (hB : B <= B') : ElV enc w' B A xs := by
 intro i x hi
 obtain ⟨b, off, h1, h2, h3⟩ := h i x hi
 exact ⟨b, off, h1, h2, (hb.cell (p := ⟨b, off + i, none⟩) (by show b < B'; omega)).trans h3⟩
theorem ElV.mono {α : Type} {enc : α -> Value} {w : World} {B B' : Nat} {A : Option Addr} {xs : List α} (h : ElV enc w B A xs) (hB : B <= B') : ElV enc w B' A xs := by
 intro i x hi
 obtain ⟨b, off, h1, h2, h3⟩ := h i x hi
 exact ⟨b, off, h1, by omega, h3⟩
def SlV {α : Type} (enc : α -> Value) (w : World) (B : Nat) (v : Value) (xs : List α) : Prop := xs.length <= maxLen /\ ∃ A c, v = .slice A xs.length c /\ ElV enc w B A xs
theorem SlV.below {α : Type} {enc : α -> Value} {w w' : World} {B B' : Nat} {v : Value} {xs : List α} (h : SlV enc w B v xs) (hb : Below B' w w') (hB : B <= B') : SlV enc w' B v xs := by
 obtain ⟨h1, A, c, h2, h3⟩ := h
 exact ⟨h1, A, c, h2, h3.below hb hB⟩
theorem SlV.mono {α : Type} {enc : α -> Value} {w : World} {B B' : Nat} {v : Value} {xs : List α} (h : SlV enc w B v xs) (hB : B <= B') : SlV enc w B' v xs := by
 obtain ⟨h1, A, c, h2, h3⟩ := h
 exact ⟨h1, A, c, h2, h3.mono hB⟩
theorem DatG.below {B B' : Nat} {w w' : World} {d : Value} {xs : List Int} (h : DatG w B d xs) (hb : Below B' w w') (hB : B <= B') : DatG w' B d xs := by
 obtain ⟨h1, h2, A, c, h3, h4⟩ := h
 exact ⟨h1, h2, A, c, h3, h4.below hb hB⟩
theorem DatG.mono {B B' : Nat} {w : World} {d : Value} {xs : List Int} (h : DatG w B d xs) (hB : B <= B') : DatG w B' d xs := by
 obtain ⟨h1, h2, A, c, h3, h4⟩ := h
 exact ⟨h1, h2, A, c, h3, h4.mono hB⟩
theorem cK_ {α : Type} {xs ys : List α} {n : Nat} (h : xs.length = n) (h' : ys.length = n) (e : ∀ i, i < n -> xs[i]? = ys[i]?) : xs = ys := by
 apply List.ext_getElem?
 intro i
 by_cases hi : i < n
 ·exact e i hi
 rw [List.getElem?_eq_none (by omega), List.getElem?_eq_none (by omega)]
theorem bl_ {x y : ByteArray} (h : x ≠ y) : (x.toList == y.toList) = false := by
 cases hb : (x.toList == y.toList) with
 | false => rfl
 | true => exact absurd (by
  have := eq_of_beq hb
  rw [ByteArray.toList_eq, ByteArray.toList_eq] at this
  cases x; cases y
  exact congrArg ByteArray.mk (Array.toList_inj.1 this)) h
theorem jx_ (X Y : Option Addr) (n m cx cy : Nat) (w : World) (hn : n <= maxLen) (hm : m <= maxLen) (hne : n ≠ m) :
  Calls Tryz.prog 122 #[.slice X n cx, .slice Y m cy] w fun e w' => e = .returned (.bool false) /\ ∃ q, w' = w.drewN q := by
 have hn' : n <= 9223372036854775807 := by unfold maxLen at hn; omega
 have hm' : m <= 9223372036854775807 := by unfold maxLen at hm; omega
 have h1 : ((n : Int) != (m : Int)) = true := by simp; omega
 clear hn hm
 go_enter Tryz.func122, Tryz.ntmps122
 go_wp2_with fail
 go_ret
 exact ⟨rfl, 0, rfl⟩
theorem h3_ (X Y : Option Addr) (xs ys : List Int) (n cx cy : Nat) (w : World) (hx : xs.length = n) (hy : ys.length = n) (hn : n <= maxLen) (hX : ElV (Value.int .u64) w w.heap.size X xs) (hY : ElV (Value.int .u64) w w.heap.size Y ys) :
  Calls Tryz.prog 122 #[.slice X n cx, .slice Y n cy] w fun e w' => e = .returned (.bool (decide (xs = ys))) /\ ∃ q, w' = w.drewN q := by
 have hn' : n <= 9223372036854775807 := by unfold maxLen at hn; omega
 obtain ⟨HN, HM, hX, hY⟩ := kq4 hx hy hX hY
 clear hx hy hn
 have h1 : ((n : Int) != (n : Int)) = false := by simp
 obtain ⟨res, hres⟩ := eY (decide (xs = ys))
 rw [hres]
 have HR := kp hres
 clear hres
 go_enter Tryz.func122, Tryz.ntmps122
 go_wp2_with fail
 go_loopw [13] (fun j wr => ∃ k q : Nat, k <= n /\ j = .int .i64 k /\ (∀ i, i < k -> xs[i]? = ys[i]?) /\ wr = w.drewN q) (fun j _ => n - (intOf j).toNat)
 case atStart => exact ⟨0, 0, Nat.zero_le _, rfl, fun i h => absurd h (by omega), rfl⟩
 obtain ⟨k, q, hk, rfl, hE, rfl⟩ := hrel
 have HE := kp hE
 clear hE
 by_cases hlt : k < n
 ·obtain ⟨x, hx⟩ : ∃ x, xs[k]? = some x := ⟨xs[k]'(by rw [HN.o]; exact hlt), gE _⟩
  obtain ⟨y, hy⟩ : ∃ y, ys[k]? = some y := ⟨ys[k]'(by rw [HM.o]; exact hlt), gE _⟩
  obtain ⟨b, o, rfl, hbX, c1⟩ := hX.o k x hx
  obtain ⟨b', o', rfl, hbY, c2⟩ := hY.o k y hy
  have c1 : (w.drewN q).cell? ⟨b, o + k, none⟩ = some ((Value.int .u64) x) := c1
  have c2 : (w.drewN q).cell? ⟨b', o' + k, none⟩ = some ((Value.int .u64) y) := c2
  obtain ⟨KX, KY⟩ := kq2 hx hy
  clear hx hy
  have hg : decide ((k : Int) < (n : Int)) = true := by simp; omega
  obtain ⟨W, hW⟩ := eY (w.drewN q)
  rw [hW] at c1 c2 ⊢
  have HW := kp hW
  clear hW
  by_cases hxy : x = y
  ·subst hxy
   have h2 : (x != x) = false := by simp
   go_wp2_with fail
   go_quiet (fail)
   go_wp2
   go_roundw
   case rel => exact ⟨k + 1, q + nq, by omega, by go_num, fun i hi => by
    by_cases e : i = k
    ·subst e; rw [KX.o, KY.o]
    exact HE.o i (by omega), by rw [<- HW.o, World.drewN_drewN]⟩
   simp [intOf]; omega
  have h2 : (x != y) = true := by simp [hxy]
  go_wp2_with fail
  go_quiet (fail)
  go_wp2
  go_ret
  refine ⟨ah_ ?_, q + nq, by rw [<- HW.o, World.drewN_drewN]⟩
  rw [<- HR.o, eq_comm, decide_eq_false_iff_not]
  rintro rfl
  rw [KX.o] at KY
  exact hxy (by simpa using KY.o)
 obtain rfl : k = n := by omega
 have hg : decide ((k : Int) < (k : Int)) = false := by simp
 go_wp2_with fail
 go_ret
 refine ⟨ah_ ?_, q, rfl⟩
 rw [<- HR.o, eq_comm, decide_eq_true_iff]
 exact cK_ HN.o HM.o HE.o
theorem jy_ (X Y : Option Addr) (xs ys : List Int) (n m cx cy : Nat) (w : World) (hx : xs.length = n) (hy : ys.length = m) (hn : n <= maxLen) (hm : m <= maxLen) (hX : ElV (Value.int .u64) w w.heap.size X xs) (hY : ElV (Value.int .u64) w w.heap.size Y ys) :
  Calls Tryz.prog 122 #[.slice X n cx, .slice Y m cy] w fun e w' => e = .returned (.bool (decide (xs = ys))) /\ ∃ q, w' = w.drewN q := by
 by_cases h : n = m
 ·subst h
  exact h3_ X Y xs ys n cx cy w hx hy hn hX hY
 have : decide (xs = ys) = false := eF (by rintro rfl; omega)
 rw [this]
 exact jx_ X Y n m cx cy w hn hm h
theorem ja_ (X Y : Option Addr) (n m cx cy : Nat) (w : World) (hn : n <= maxLen) (hm : m <= maxLen) (hne : n ≠ m) :
  Calls Tryz.prog 123 #[.slice X n cx, .slice Y m cy] w fun e w' => e = .returned (.bool false) /\ ∃ q, w' = w.drewN q := by
 have hn' : n <= 9223372036854775807 := by unfold maxLen at hn; omega
 have hm' : m <= 9223372036854775807 := by unfold maxLen at hm; omega
 have h1 : ((n : Int) != (m : Int)) = true := by simp; omega
 clear hn hm
 go_enter Tryz.func123, Tryz.ntmps123
 go_wp2_with fail
 go_ret
 exact ⟨rfl, 0, rfl⟩
theorem hB_ (X Y : Option Addr) (xs ys : List ByteArray) (n cx cy : Nat) (w : World) (hx : xs.length = n) (hy : ys.length = n) (hn : n <= maxLen) (hX : ElV Value.string w w.heap.size X xs) (hY : ElV Value.string w w.heap.size Y ys) :
  Calls Tryz.prog 123 #[.slice X n cx, .slice Y n cy] w fun e w' => e = .returned (.bool (decide (xs = ys))) /\ ∃ q, w' = w.drewN q := by
 have hn' : n <= 9223372036854775807 := by unfold maxLen at hn; omega
 obtain ⟨HN, HM, hX, hY⟩ := kq4 hx hy hX hY
 clear hx hy hn
 have h1 : ((n : Int) != (n : Int)) = false := by simp
 obtain ⟨res, hres⟩ := eY (decide (xs = ys))
 rw [hres]
 have HR := kp hres
 clear hres
 go_enter Tryz.func123, Tryz.ntmps123
 go_wp2_with fail
 go_loopw [5] (fun j wr => ∃ k q : Nat, k <= n /\ j = .int .i64 k /\ (∀ i, i < k -> xs[i]? = ys[i]?) /\ wr = w.drewN q) (fun j _ => n - (intOf j).toNat)
 case atStart => exact ⟨0, 0, Nat.zero_le _, rfl, fun i h => absurd h (by omega), rfl⟩
 obtain ⟨k, q, hk, rfl, hE, rfl⟩ := hrel
 have HE := kp hE
 clear hE
 by_cases hlt : k < n
 ·obtain ⟨x, hx⟩ : ∃ x, xs[k]? = some x := ⟨xs[k]'(by rw [HN.o]; exact hlt), gE _⟩
  obtain ⟨y, hy⟩ : ∃ y, ys[k]? = some y := ⟨ys[k]'(by rw [HM.o]; exact hlt), gE _⟩
  obtain ⟨b, o, rfl, hbX, c1⟩ := hX.o k x hx
  obtain ⟨b', o', rfl, hbY, c2⟩ := hY.o k y hy
  have c1 : (w.drewN q).cell? ⟨b, o + k, none⟩ = some (Value.string x) := c1
  have c2 : (w.drewN q).cell? ⟨b', o' + k, none⟩ = some (Value.string y) := c2
  obtain ⟨KX, KY⟩ := kq2 hx hy
  clear hx hy
  have hg : decide ((k : Int) < (n : Int)) = true := by simp; omega
  obtain ⟨W, hW⟩ := eY (w.drewN q)
  rw [hW] at c1 c2 ⊢
  have HW := kp hW
  clear hW
  by_cases hxy : x = y
  ·subst hxy
   have h2 : (x.toList == x.toList) = true := by simp
   go_wp2_with fail
   go_quiet (fail)
   go_wp2
   go_roundw
   case rel => exact ⟨k + 1, q + nq, by omega, by go_num, fun i hi => by
    by_cases e : i = k
    ·subst e; rw [KX.o, KY.o]
    exact HE.o i (by omega), by rw [<- HW.o, World.drewN_drewN]⟩
   simp [intOf]; omega
  have h2 : (x.toList == y.toList) = false := bl_ hxy
  go_wp2_with fail
  go_quiet (fail)
  go_wp2
  go_ret
  refine ⟨ah_ ?_, q + nq, by rw [<- HW.o, World.drewN_drewN]⟩
  rw [<- HR.o, eq_comm, decide_eq_false_iff_not]
  rintro rfl
  rw [KX.o] at KY
  exact hxy (by simpa using KY.o)
 obtain rfl : k = n := by omega
 have hg : decide ((k : Int) < (k : Int)) = false := by simp
 go_wp2_with fail
 go_ret
 refine ⟨ah_ ?_, q, rfl⟩
 rw [<- HR.o, eq_comm, decide_eq_true_iff]
 exact cK_ HN.o HM.o HE.o
theorem fj_ (X Y : Option Addr) (xs ys : List ByteArray) (n m cx cy : Nat) (w : World) (hx : xs.length = n) (hy : ys.length = m) (hn : n <= maxLen) (hm : m <= maxLen) (hX : ElV Value.string w w.heap.size X xs) (hY : ElV Value.string w w.heap.size Y ys) :
  Calls Tryz.prog 123 #[.slice X n cx, .slice Y m cy] w fun e w' => e = .returned (.bool (decide (xs = ys))) /\ ∃ q, w' = w.drewN q := by
 by_cases h : n = m
 ·subst h
  exact hB_ X Y xs ys n cx cy w hx hy hn hX hY
 have : decide (xs = ys) = false := eF (by rintro rfl; omega)
 rw [this]
 exact ja_ X Y n m cx cy w hn hm h
theorem jb_ (X Y : Option Addr) (n m cx cy : Nat) (w : World) (hn : n <= maxLen) (hm : m <= maxLen) (hne : n ≠ m) :
  Calls Tryz.prog 118 #[.slice X n cx, .slice Y m cy] w fun e w' => e = .returned (.bool false) /\ ∃ q, w' = w.drewN q := by
 have hn' : n <= 9223372036854775807 := by unfold maxLen at hn; omega
 have hm' : m <= 9223372036854775807 := by unfold maxLen at hm; omega
 have h1 : ((n : Int) != (m : Int)) = true := by simp; omega
 clear hn hm
 go_enter Tryz.func118, Tryz.ntmps118
 go_wp2_with fail
 go_ret
 exact ⟨rfl, 0, rfl⟩
theorem hC_ (X Y : Option Addr) (xs ys : List ByteArray) (n cx cy : Nat) (w : World) (hx : xs.length = n) (hy : ys.length = n) (hn : n <= maxLen) (hX : ElV Value.string w w.heap.size X xs) (hY : ElV Value.string w w.heap.size Y ys) :
  Calls Tryz.prog 118 #[.slice X n cx, .slice Y n cy] w fun e w' => e = .returned (.bool (decide (xs = ys))) /\ ∃ q, w' = w.drewN q := by
 have hn' : n <= 9223372036854775807 := by unfold maxLen at hn; omega
 obtain ⟨HN, HM, hX, hY⟩ := kq4 hx hy hX hY
 clear hx hy hn
 have h1 : ((n : Int) != (n : Int)) = false := by simp
 obtain ⟨res, hres⟩ := eY (decide (xs = ys))
 rw [hres]
 have HR := kp hres
 clear hres
 go_enter Tryz.func118, Tryz.ntmps118
 go_wp2_with fail
 go_loopw [13] (fun j wr => ∃ k q : Nat, k <= n /\ j = .int .i64 k /\ (∀ i, i < k -> xs[i]? = ys[i]?) /\ wr = w.drewN q) (fun j _ => n - (intOf j).toNat)
 case atStart => exact ⟨0, 0, Nat.zero_le _, rfl, fun i h => absurd h (by omega), rfl⟩
 obtain ⟨k, q, hk, rfl, hE, rfl⟩ := hrel
 have HE := kp hE
 clear hE
 by_cases hlt : k < n
 ·obtain ⟨x, hx⟩ : ∃ x, xs[k]? = some x := ⟨xs[k]'(by rw [HN.o]; exact hlt), gE _⟩
  obtain ⟨y, hy⟩ : ∃ y, ys[k]? = some y := ⟨ys[k]'(by rw [HM.o]; exact hlt), gE _⟩
  obtain ⟨b, o, rfl, hbX, c1⟩ := hX.o k x hx
  obtain ⟨b', o', rfl, hbY, c2⟩ := hY.o k y hy
  have c1 : (w.drewN q).cell? ⟨b, o + k, none⟩ = some (Value.string x) := c1
  have c2 : (w.drewN q).cell? ⟨b', o' + k, none⟩ = some (Value.string y) := c2
  obtain ⟨KX, KY⟩ := kq2 hx hy
  clear hx hy
  have hg : decide ((k : Int) < (n : Int)) = true := by simp; omega
  obtain ⟨W, hW⟩ := eY (w.drewN q)
  rw [hW] at c1 c2 ⊢
  have HW := kp hW
  clear hW
  by_cases hxy : x = y
  ·subst hxy
   have h2 : (x.toList == x.toList) = true := by simp
   go_wp2_with fail
   go_quiet (fail)
   go_wp2
   go_roundw
   case rel => exact ⟨k + 1, q + nq, by omega, by go_num, fun i hi => by
    by_cases e : i = k
    ·subst e; rw [KX.o, KY.o]
    exact HE.o i (by omega), by rw [<- HW.o, World.drewN_drewN]⟩
   simp [intOf]; omega
  have h2 : (x.toList == y.toList) = false := bl_ hxy
  go_wp2_with fail
  go_quiet (fail)
  go_wp2
  go_ret
  refine ⟨ah_ ?_, q + nq, by rw [<- HW.o, World.drewN_drewN]⟩
  rw [<- HR.o, eq_comm, decide_eq_false_iff_not]
  rintro rfl
  rw [KX.o] at KY
  exact hxy (by simpa using KY.o)
 obtain rfl : k = n := by omega
 have hg : decide ((k : Int) < (k : Int)) = false := by simp
 go_wp2_with fail
 go_ret
 refine ⟨ah_ ?_, q, rfl⟩
 rw [<- HR.o, eq_comm, decide_eq_true_iff]
 exact cK_ HN.o HM.o HE.o
theorem fk_ (X Y : Option Addr) (xs ys : List ByteArray) (n m cx cy : Nat) (w : World) (hx : xs.length = n) (hy : ys.length = m) (hn : n <= maxLen) (hm : m <= maxLen) (hX : ElV Value.string w w.heap.size X xs) (hY : ElV Value.string w w.heap.size Y ys) :
  Calls Tryz.prog 118 #[.slice X n cx, .slice Y m cy] w fun e w' => e = .returned (.bool (decide (xs = ys))) /\ ∃ q, w' = w.drewN q := by
 by_cases h : n = m
 ·subst h
  exact hC_ X Y xs ys n cx cy w hx hy hn hX hY
 have : decide (xs = ys) = false := eF (by rintro rfl; omega)
 rw [this]
 exact jb_ X Y n m cx cy w hn hm h
theorem iq_ (A A' : Option Addr) (n m c c' : Nat) (xs ys : List Int) (w : World) (hn : xs.length = n) (hm : ys.length = m) (hx : ∀ y ∈ xs, 0 <= y /\ y < 256) (hy : ∀ y ∈ ys, 0 <= y /\ y < 256) (hA : Byt w w.heap.size A c xs) (hA' : Byt w w.heap.size A' c' ys) :
  Calls Tryz.prog 119 #[.slice A n c, .slice A' m c'] w fun e w' => e = .returned (.bool (decide (xs = ys))) /\ ∃ q, w' = w.drewN q := by
 have q1 := hA.convert hn
 have q2 := hA'.convert hm
 have hse := fV_ hx hy
 rw [<- hse]
 clear hse hx hy hA hA' hn hm
 generalize strOfNums xs = x at *
 generalize strOfNums ys = y at *
 go_enter Tryz.func119, Tryz.ntmps119
 go_wp2_with fail
 go_ret
 exact ⟨rfl, 0, rfl⟩
structure ItemR where
 mark : Int
 val : List Int
 ver : Int
 dead : Int
def aD_ (m : Int) (v : Value) (r d : Int) : List Value := [.int .i64 m, v, .int .u64 r, .int .u64 d]
def by_ (a b : ItemR) : Bool := a.mark == b.mark && decide (a.val = b.val) && a.ver == b.ver && a.dead == b.dead
theorem item66 (a b : ItemR) (v v' : Value) (w : World) (ha : DatG w w.heap.size v a.val) (hb : DatG w w.heap.size v' b.val) :
  Calls Tryz.prog 121 #[.agg (aD_ a.mark v a.ver a.dead).toArray, .agg (aD_ b.mark v' b.ver b.dead).toArray] w fun e w' => e = .returned (.bool (by_ a b)) /\ Bw w w' := by
 have h2 := dT_ w (.cells (aD_ a.mark v a.ver a.dead).toArray 78) (.cells (aD_ b.mark v' b.ver b.dead).toArray 78)
 obtain ⟨av1, av2, A, c, rfl, av3⟩ := (ha.below h2 (lR _)).mono h2.size
 obtain ⟨bv1, bv2, A', c', rfl, bv3⟩ := (hb.below h2 (lR _)).mono h2.size
 clear ha hb
 obtain ⟨am, av, ar, ad⟩ := a
 obtain ⟨bm, bv, br, bd⟩ := b
 simp only [aD_] at *
 have H41 := kp (iq_ A A' _ _ c c' av bv _ rfl rfl av1 bv1 av3 bv3)
 obtain ⟨res, hres⟩ := eY (by_ ⟨am, av, ar, ad⟩ ⟨bm, bv, br, bd⟩)
 rw [hres]
 simp only [by_] at hres
 obtain ⟨g1, hg1⟩ := eY (decide (av = bv))
 rw [hg1] at hres H41
 clear hg1 av3 bv3 av1 bv1 av2 bv2
 generalize av.length = n1 at *
 generalize bv.length = n2 at *
 clear av bv
 obtain ⟨HR, HB⟩ := kq2 hres h2
 clear hres h2
 go_enter Tryz.func121, Tryz.ntmps121
 cases t0 : (am == bm)
 ·go_wp2_with fail
  go_ret
  exact ⟨ah_ (by rw [<- HR.o]; simp [t0]), HB.o⟩
 go_wp2_with fail
 refine H41.o.mono ?_
 rintro e w1 ⟨rfl, q1, rfl⟩
 cases g1
 ·go_wp2_with fail
  go_ret
  exact ⟨ah_ (by rw [<- HR.o]; simp [t0]), ⟨HB.o.os, HB.o.tape, HB.o.output, HB.o.size, HB.o.block⟩⟩
 cases t2 : (ar == br)
 ·go_wp2_with fail
  go_ret
  exact ⟨ah_ (by rw [<- HR.o]; simp [t0, t2]), ⟨HB.o.os, HB.o.tape, HB.o.output, HB.o.size, HB.o.block⟩⟩
 cases t3 : (ad == bd)
 iterate 2
  ·go_wp2_with fail
   go_ret
   exact ⟨ah_ (by rw [<- HR.o]; simp [t0, t2, t3]), ⟨HB.o.os, HB.o.tape, HB.o.output, HB.o.size, HB.o.block⟩⟩
theorem item69 (a b : ItemR) (v v' : Value) (w : World) (ha : DatG w w.heap.size v a.val) (hb : DatG w w.heap.size v' b.val) :
  Calls Tryz.prog 59 #[.agg (aD_ a.mark v a.ver a.dead).toArray, .agg (aD_ b.mark v' b.ver b.dead).toArray] w fun e w' => e = .returned (.bool (by_ a b)) /\ Bw w w' := by
 have h2 := dT_ w (.cells (aD_ a.mark v a.ver a.dead).toArray 78) (.cells (aD_ b.mark v' b.ver b.dead).toArray 78)
 obtain ⟨av1, av2, A, c, rfl, av3⟩ := (ha.below h2 (lR _)).mono h2.size
 obtain ⟨bv1, bv2, A', c', rfl, bv3⟩ := (hb.below h2 (lR _)).mono h2.size
 clear ha hb
 obtain ⟨am, av, ar, ad⟩ := a
 obtain ⟨bm, bv, br, bd⟩ := b
 simp only [aD_] at *
 have q1 := av3.convert rfl
 have q2 := bv3.convert rfl
 have hse := fV_ av1 bv1
 obtain ⟨res, hres⟩ := eY (by_ ⟨am, av, ar, ad⟩ ⟨bm, bv, br, bd⟩)
 rw [hres]
 simp only [by_] at hres
 rw [<- hse] at hres
 clear hse av3 bv3 av1 bv1 av2 bv2
 generalize strOfNums av = sa at *
 generalize strOfNums bv = sb at *
 generalize av.length = n1 at *
 generalize bv.length = n2 at *
 clear av bv
 obtain ⟨HR, HB⟩ := kq2 hres h2
 clear hres h2
 go_enter Tryz.func59, Tryz.ntmps59
 cases t0 : (am == bm)
 ·go_wp2_with fail
  go_ret
  exact ⟨ah_ (by rw [<- HR.o]; simp [t0]), HB.o⟩
 cases t1 : (sa.toList == sb.toList)
 ·go_wp2_with fail
  go_ret
  exact ⟨ah_ (by rw [<- HR.o]; simp [t0, t1]), HB.o⟩
 cases t2 : (ar == br)
 ·go_wp2_with fail
  go_ret
  exact ⟨ah_ (by rw [<- HR.o]; simp [t0, t1, t2]), HB.o⟩
 cases t3 : (ad == bd)
 ·go_wp2_with fail
  go_ret
  exact ⟨ah_ (by rw [<- HR.o]; simp [t0, t1, t2, t3]), HB.o⟩
 go_wp2_with fail
 go_ret
 exact ⟨ah_ (by rw [<- HR.o]; simp [t0, t1, t2, t3]), HB.o⟩
theorem dr_ (w : World) (l : List Value) (g : Nat) (t : TypeId) (hg : w.heap.size = g) : CellsAt (w.alloc (.cells l.toArray t)) ⟨g, 0, none⟩ l := by
 subst hg
 exact av_ (ar_ w l t) _ rfl fun i hi => rfl
end Go.Proofs.YtnjhpgmbfblgaaaGreat.Ord
