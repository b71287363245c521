/- Walk of the reader's micro: a request decoded, committed, written; Walk of the reader's. -/
import Derived.Test.YtnjhpgmbfblgaaaGreatMH13
import Derived.Deep.RegionHeld
import Derived.Test.YtnjhpgmbfblgaaaGreatMH3
import Derived.Test.YtnjhpgmbfblgaaaGreatMR10
set_option linter.unusedVariables false
set_option linter.unusedSimpArgs false
namespace Go.Proofs.YtnjhpgmbfblgaaaGreat.Ord
open Go.RowKit
section
variable {W W' : World} {lim rb cb b0 pn n : Nat} {v : Value} {ps lr lc ld lp : List Value}
end
theorem kz_ {w : World} {base : Nat} {e : TypeId} {size n : Nat} {v : Value} {xs : List Value} (h : w.ownsRow base e size v n xs) : ∃ A c, v = .slice A n c := by
 rcases h.2 with ⟨rfl, rfl⟩ | ⟨g, cap, cur, rfl, _⟩
 ·exact ⟨_, _, rfl⟩
 exact ⟨_, _, rfl⟩


theorem RowL.drew {w : World} {b : Nat} {t : TypeId} {l : List Value} (h : RowL w b t l) : RowL w.drew b t l := h
def big : Nat := 140737488355328
structure CmdSz (c : CmdR) : Prop where
 key : c.key.size <= big
 keys : ∀ x ∈ c.keys, x.size <= big
 val : c.val.length <= big
 tags : ∀ x ∈ c.tags, x.size <= big
 tag : c.tag.size <= big
 pre : c.pre.size <= big
 chi : c.chi.size <= big
def RespSz (r : RespR) : Prop := ∀ x ∈ r.items, x.val.length <= big
structure Light (c : CmdR) (r : RespR) : Prop where
 nkeys : c.keys.length <= 100
 ntags : c.tags.length <= 100
 nitems : r.items.length <= 100
 nnums : r.nums.length <= 100
 key : c.key.size <= 3000
 val : c.val.length <= 3000
 tag : c.tag.size <= 3000
 pre : c.pre.size <= 3000
 chi : c.chi.size <= 3000
 keys : ∀ x ∈ c.keys, x.size <= 3000
 tags : ∀ x ∈ c.tags, x.size <= 3000
 vals : ∀ x ∈ r.items, x.val.length <= 3000
theorem elv_at {α : Type} {enc : α -> Value} {w : World} {B : Nat} {A : Option Addr} {xs : List α} (h : ElV enc w B A xs) {k : Nat} (hk : k < xs.length) : ∃ b off, A = some ⟨b, off, none⟩ /\ b < B /\ w.cell? ⟨b, off + k, none⟩ = some (enc xs[k]) := h k _ (gE hk)
theorem c5_ {α : Type} {P : α -> Prop} {l : List α} (h : ∀ j (hj : j < l.length), P l[j]) : ∀ x ∈ l, P x := fun x hx => by
 obtain ⟨j, hj, rfl⟩ := List.mem_iff_getElem.1 hx
 exact h j hj


def atI : Option Nat -> Int
 | none => -1
 | some j => j
def connL (ses num a : Int) : List Value := [.bool true, .int .i64 ses, .int .i64 num, .int .i64 a]
def cv : Option ConnS -> Value
 | none => .agg #[.bool false, .int .i64 0, .int .i64 0, .int .i64 0]
 | some c => .agg (connL c.ses c.num (atI c.at_)).toArray
section
variable {w w' : World} {lim mb : Nat} {o : Value} {L : List (CallR × CallV)} {s : St}
end
section
variable {w w' : World} {lim g cap j : Nat} {L : List (CallR × CallV)} {l : List Value}
end
theorem g3_ {w : World} {b : Nat} {f g : Int -> Option Value} (h : MapAt w b f) (h' : MapAt w b g) (k : Int) : f k = g k := by
 obtain ⟨es, c, h1, _, h2⟩ := h
 obtain ⟨es', c', h1', _, h2'⟩ := h'
 rw [h1] at h1'
 cases h1'
 rw [<- h2 k, h2' k]
section
variable {P : Program}
theorem aW_ {w : World} {ops : Array Oper} {rest : List Oper} {o : Oper} {a : Act} {Q : Exit -> Act -> World -> Prop} (hgd : o.guard = none) (T kT eT : TypeId) (x y z : Operand) (ho : o.op = .mapUpdate T x y z)
  (b : Nat) (k : Int) (v : Value) (hx : a.eval x = .map (some b)) (hy : a.eval y = .int .i64 k) (hz : a.eval z = v) (f : Int -> Option Value) (hm : MapAt w b f)
  (hT : P.underlying T = some (.map kT eT)) (hK : P.underlying kT = some (.int .i64))
  (h : ∀ w', Kept [b] w w' -> (∀ g, MapAt w b g -> MapAt w' b (fun k' => if k' = k then some v else g k')) -> wpList P ops Q rest (a.put o.dst undef) w') : wpList P ops Q (o :: rest) a w :=
 wpList_step fun K hK' => ee_ hgd T kT eT x y z ho b k v hx hy hz f hm hT hK fun w' a1 a2 => hK' _ _ (h w' a1 fun g hg => by
  have e : ∀ k, f k = g k := g3_ hm hg
  exact a2.congr fun k' => by simp only [e])
end
set_option maxRecDepth 100000
set_option maxHeartbeats 16000000
theorem jL_ : (Tryz.f233.name == "runtime.NumGoroutine") = false := by kernel_rfl
theorem jM_ : Tryz.f233.body.isSome = true := by kernel_rfl
theorem b5_ (X G k : Nat) (t : TypeId) (n : Nat) (f : Nat -> Value) (m : Nat) (c : Value) (A : Option Addr) (ca : Nat) (out : List Int) (bad : Bool) (w : World)
  (hG : w.rowIs G t n f) (hk : k < n) (hf : f k = .int .u64 m) (hm : m < 18446744073709551616) (hXG : X ≠ G) (hX : w.rowIs X 339 4 (codF c (.pointer none) (.slice A out.length ca) bad)) (hA : Byt w w.heap.size A ca out) (hAX : ∀ b off, A = some ⟨b, off, none⟩ -> b ≠ X) (hol : out.length <= 500000) :
  Calls Tryz.prog 311 #[.pointer (some ⟨X, 0, none⟩), .pointer (some ⟨G, k, none⟩)] w fun e w' =>
   e = .returned (.tuple #[]) /\ ∃ v, w'.rowIs X 339 4 (codF c (.pointer none) v bad) /\ SlB w' w.heap.size v (out ++ putV m) /\ Kept [X] w w' := by
 have hc1 : w.cell? ⟨X, 1, none⟩ = some (.pointer none) := World.rowIs.cell hX (i := 1) (by decide)
 have hc2 : w.cell? ⟨X, 2, none⟩ = some (.slice A out.length ca) := World.rowIs.cell hX (i := 2) (by decide)
 have hcs : w.cell? ⟨G, k, none⟩ = some (.int .u64 m) := by rw [<- hf]; exact World.rowIs.cell hG hk
 obtain ⟨HX, HG, HA⟩ := kq3 hX hG hA
 clear hX hG hA
 obtain ⟨L, hL⟩ := eY ((out ++ putV m).length)
 have HL := kp hL
 clear hL
 have HC := kp (ct_ A out.length ca out m w.drew rfl hm (by omega) (HA.o : Byt w.drew w.drew.heap.size A ca out))
 go_enter Tryz.func311, Tryz.ntmps311
 go_wp2_with fail
 go_region_law ((with_reducible refine ao_ (o := ⟨some 19, _, _, _, _, _⟩) rfl 233 _ _ rfl #[.slice A out.length ca, .int .u64 m] ?_ Tryz.f233 Tryz.func233 jL_ jM_ (fun u w6 => Own8 w6 w.drew.heap.size u (out ++ putV m) /\ Below w.drew.heap.size w.drew w6) ?_ ?_); (· simp only [y1, y2, y3]; rfl); (· exact HC.o.mono fun e w' ⟨v, h1, h2, h3⟩ => ⟨v, h1, h2, h3⟩); rintro u6 w6 ⟨hown6, hb6⟩; obtain ⟨A6, c6, rfl, hby6⟩ := hown6.val; rw [HL.o]; rw [HL.o] at hown6; have hX6 := kp (World.rowIs.of_block HX.o (hb6.block X (World.rowIs.lt HX.o))); have h62 : w6.cell? ⟨X, 2, none⟩ = some (.slice A out.length ca) := World.rowIs.cell hX6.o (i := 2) (by decide); have hf62 : w6.frozen? ⟨X, 2, none⟩ = false := World.rowIs.frozen hX6.o 2)
 all_goals
  have hbw6 : Bw w w6 := ⟨hb6.os, hb6.tape, hb6.output, hb6.size, hb6.block⟩
  obtain ⟨w7, hw7, hX7, hG7, hK7, hS7⟩ := iK_ HL.o HG.o hXG HX.o hbw6 hown6 (lR _)
  rw [<- hw7]
  obtain ⟨Aa, Ac, Ab⟩ := kq3 hX7 hK7 hS7
  clear hw7 h62 hf62 hX6 hown6 hby6 hb6 hbw6 hX7 hG7 hK7 hS7
  go_wp2_with fail
  refine bodyPost_ret (results_none rfl _ _ _) rfl ?_
  exact ⟨rfl, _, Aa.o, Ab.o, Ac.o⟩
theorem bs_ {m : Nat} : 1 <= (putV m).length := by
 by_cases h : m <= 127
 ·rw [bp_ h]; simp
 rw [bt_ h]; simp
theorem jY_ : (List.range 128).all (fun r => bits .and .u8 ((128 + r : Nat) : Int) 127 == (r : Int)) = true := by decide +kernel
theorem and127 {r : Nat} (h : r < 128) : bits .and .u8 ((128 + r : Nat) : Int) 127 = (r : Int) := eq_of_beq (List.all_eq_true.1 jY_ r (List.mem_range.2 h))
theorem kx_ (j : Nat) : 2 ^ (7 * j) = 128 ^ j := by rw [Nat.pow_mul]
theorem iL_ {a m j : Nat} (ha : a < 128 ^ j) (h : a + m * 128 ^ j < 18446744073709551616) : bits .or .u64 (a : Int) (IntKind.u64.wrap ((m : Int) * 2 ^ (7 * j))) = ((a + m * 128 ^ j : Nat) : Int) := by
 have e0 : ((m : Int) * 2 ^ (7 * j)) = ((m * 128 ^ j : Nat) : Int) := by rw [<- kx_]; push_cast; rfl
 have e1 : IntKind.u64.wrap ((m * 128 ^ j : Nat) : Int) = ((m * 128 ^ j : Nat) : Int) := by
  rw [IntKind.wrap_u64]; omega
 rw [e0, e1]
 have e2 : BitVec.ofInt IntKind.u64.bits (a : Int) = BitVec.ofNat 64 a := BitVec.ofInt_natCast (w := 64) a
 have e3 : BitVec.ofInt IntKind.u64.bits ((m * 128 ^ j : Nat) : Int) = BitVec.ofNat 64 (m * 128 ^ j) := BitVec.ofInt_natCast (w := 64) _
 unfold bits
 simp only [e2, e3]
 show IntKind.u64.wrap (((BitVec.ofNat 64 a ||| BitVec.ofNat 64 (m * 128 ^ j)).toNat : Nat) : Int) = _
 rw [BitVec.toNat_or, BitVec.toNat_ofNat, BitVec.toNat_ofNat, Nat.mod_eq_of_lt (show a < 2 ^ 64 by omega), Nat.mod_eq_of_lt (show m * 128 ^ j < 2 ^ 64 by omega)]
 have e4 : a ||| m * 128 ^ j = a + m * 128 ^ j := by
  rw [<- kx_, <- Nat.shiftLeft_eq, Nat.or_comm, <- Nat.shiftLeft_add_eq_or_of_lt (by rw [kx_]; exact ha), Nat.add_comm]
 rw [e4, IntKind.wrap_u64]
 omega
theorem cj_ {n : Nat} (hn : n < 18446744073709551616) : jZ_ n := by
 intro A k c rest w hk hl hA
 obtain ⟨L, hL⟩ := eY ((putV n).length)
 rw [hL]
 have hL10 : L <= 10 := by rw [<- hL]; exact ad_ hn
 have hk1 : L <= k := by rw [<- hk, lA, hL]; omega
 obtain ⟨HA, HL, HN⟩ := kq3 hA hL hn
 clear hA hL hk
 go_enter Tryz.func390, Tryz.ntmps390
 go_wp2_with fail
 go_loopw [2, 9] (fun a i wr => ∃ (j ac m : Nat) (pre : List Int), i = .int .i64 j /\ a = .int .u64 (ac : Int) /\ ac = n % 128 ^ j /\ m = n / 128 ^ j /\ putV n = pre ++ putV m /\ pre.length = j /\ (0 < j -> 0 < m) /\ j < L /\ wr = w) (fun _ i _ => L - (intOf i).toNat)
 case atStart => exact ⟨0, 0, n, [], rfl, rfl, by simp [Nat.mod_one], by simp, rfl, rfl, fun h => absurd h (by omega), by have := HL.o; have := bs_ (m := n); omega, rfl⟩
 obtain ⟨j, ac, m, pre, rfl, rfl, hac, hm, hp, hpl, hpos, hjL, rfl⟩ := hrel
 have hj9 : j <= 9 := by omega
 have hx : (putV n ++ rest)[j]? = (putV m)[0]? := by
  rw [hp, aA, aR (by omega), hpl, Nat.sub_self, aL bs_]
 have hlt : j < (putV n ++ rest).length := by rw [lA, HL.o]; omega
 obtain ⟨b, off, rfl, hb, hc⟩ := HA.o.at (i := j) hlt
 have hget : (putV n ++ rest).getD j 0 = (putV m).headD 0 := by
  rw [List.getD, hx]
  cases hpm : putV m with
  | nil => have := bs_ (m := m); rw [hpm] at this; simp at this
  | cons a l => rfl
 rw [hget] at hc
 have hg0 : decide ((j : Int) < (k : Int)) = true := by simp; omega
 have hpow : 0 < 128 ^ j := Nat.pow_pos (by decide)
 have hsum : ac + m * 128 ^ j = n := by rw [hac, hm]; have := Nat.mod_add_div n (128 ^ j); rw [Nat.mul_comm] at this; exact this
 have haclt : ac < 128 ^ j := by rw [hac]; exact Nat.mod_lt _ hpow
 have hcase : j < 9 ∨ (j = 9 /\ m <= 1) := by
  by_cases h9 : j = 9
  ·right; refine ⟨h9, ?_⟩
   rw [hm, h9]
   omega
  left; omega
 obtain ⟨HM, HP, Af, HS, Ah⟩ := kq5 hm hp hpl hsum haclt
 clear hx hget hlt hm hp hpl hac hsum haclt hpow
 by_cases h127 : m <= 127
 ·rw [bp_ h127] at hc
  simp only [List.headD_cons] at hc
  have hor := iL_ Ah.o (by rw [HS.o]; exact HN.o)
  rw [HS.o] at hor
  have hlen : j + 1 = L := by
   rw [<- HL.o, HP.o, lA, Af.o, bp_ h127]; rfl
  obtain ⟨Ae, Ad⟩ := kq2 hlen hor
  clear hlen hor
  have g3 : decide ((m : Int) < 128) = true := by simp; omega
  by_cases h0 : j = 0
  ·subst h0
   simp only [Nat.add_zero] at hc
   have Aa : bits BinOp.or IntKind.u64 (ac : Int) (IntKind.u64.wrap (m : Int)) = (n : Int) := by simpa using Ad.o
   rw [show IntKind.u64.wrap (m : Int) = (m : Int) by rw [IntKind.wrap_u64]; omega] at Aa
   have Ac := kp Aa
   clear hcase hpos Aa
   go_wp2_with fail
   rw [Ac.o]
   go_ret3
   exact ⟨by rw [<- Ae.o]; rfl, BR _ _⟩
  have g2' : ((m : Int) == 0) = false := by have := hpos (by omega); simp; omega
  by_cases h9 : j = 9
  ·subst h9
   have g1' : decide ((1 : Int) < (m : Int)) = false := by simp; omega
   have Ai := kp Ad.o
   clear hcase hpos h0
   go_wp2_with fail
   rw [show bits BinOp.or IntKind.u64 (ac : Int) (IntKind.u64.wrap ((m : Int) * 9223372036854775808)) = (n : Int) by simpa using Ad.o]
   go_ret3
   exact ⟨by rw [<- Ae.o]; rfl, BR _ _⟩
  have g1 : ((j : Int) == 9) = false := by simp; omega
  have g2 : decide ((0 : Int) < (j : Int)) = true := by simp; omega
  clear hcase
  go_wp2_with fail
  rw [Ad.o]
  go_ret3
  exact ⟨by rw [<- Ae.o]; rfl, BR _ _⟩
 obtain ⟨r, hr⟩ := eY (m % 128)
 rw [bt_ h127, hr] at hc
 simp only [List.headD_cons] at hc
 have hr128 : r < 128 := by rw [<- hr]; exact Nat.mod_lt _ (by decide)
 have hand := and127 hr128
 obtain ⟨cc, hcc⟩ := eY (128 + r)
 rw [hcc] at hc hand
 have hdm : m = r + m / 128 * 128 := by rw [<- hr]; omega
 have hor := iL_ (a := ac) (m := r) (j := j) Ah.o (by
  have := HS.o
  have h2 : r * 128 ^ j <= m * 128 ^ j := Nat.mul_le_mul_right _ (by omega)
  have := HN.o
  omega)
 obtain ⟨ac', hac'⟩ := eY (ac + r * 128 ^ j)
 rw [hac'] at hor
 have g1 : ((j : Int) == 9) = false := by simp; omega
 have g2' : ((cc : Int) == 0) = false := by simp; omega
 have g3 : decide ((cc : Int) < 128) = false := by simp; omega
 obtain ⟨HD, Ag, HR, Ad⟩ := kq4 hdm hac' hr hor
 clear hdm hac' hr hcc hor
 have hrel2 : ac' = n % 128 ^ (j + 1) /\ m / 128 = n / 128 ^ (j + 1) := by
  have e := HS.o
  have e2 : n / 128 ^ (j + 1) = m / 128 := by rw [Nat.pow_succ, <- Nat.div_div_eq_div_mul, <- HM.o]
  refine ⟨?_, e2.symm⟩
  rw [Nat.pow_succ, Nat.mod_mul, <- HM.o, HR.o, <- Ag.o]
  have hpow : 0 < 128 ^ j := Nat.pow_pos (by decide)
  have : n % 128 ^ j = ac := by
   rw [<- e, Nat.mul_comm, Nat.add_mul_mod_self_left]
   exact Nat.mod_eq_of_lt Ah.o
  rw [this, Nat.mul_comm]
 have Ab := kp hrel2
 clear hrel2
 have hjL' : j + 1 < L := by
  have := HL.o
  rw [HP.o, lA, Af.o, bt_ h127, List.length_cons] at this
  have := bs_ (m := m / 128)
  omega
 by_cases h0 : j = 0
 ·subst h0
  simp only [Nat.add_zero] at hc
  have Aa : bits BinOp.or IntKind.u64 (ac : Int) (IntKind.u64.wrap (r : Int)) = (ac' : Int) := by simpa using Ad.o
  rw [show IntKind.u64.wrap (r : Int) = (r : Int) by rw [IntKind.wrap_u64]; omega] at Aa
  have Ac := kp Aa
  clear hcase hpos Aa g1
  go_wp2_with fail
  rw [Ac.o]
  go_roundw
  case rel => exact ⟨1, ac', m / 128, pre ++ [((128 + m % 128 : Nat) : Int)], rfl, rfl, Ab.o.1, Ab.o.2, by rw [HP.o, bt_ h127, aA]; rfl, by simp [Af.o], fun _ => by omega, hjL', by first | trivial | rfl⟩
  simp [intOf]; omega
 have g2 : decide ((0 : Int) < (j : Int)) = true := by simp; omega
 clear hcase
 go_wp2_with fail
 rw [Ad.o]
 go_roundw
 case rel => exact ⟨j + 1, ac', m / 128, pre ++ [((128 + m % 128 : Nat) : Int)], by go_num, rfl, Ab.o.1, Ab.o.2, by rw [HP.o, bt_ h127, aA]; rfl, by simp [Af.o], fun _ => by omega, hjL', by first | trivial | rfl⟩
 simp [intOf]; omega
theorem cv_ (NL : List Nat) (R n : Nat) (hRN : R ∈ NL) (v : Value) (rest : List Int) (w : World) (hget : jZ_ n) (hl : (putV n ++ rest).length <= 1000000)
  (hR : w.rowIs R 440 2 (rdF v)) (hv : SlX w NL v (putV n ++ rest)) :
  Calls Tryz.prog 363 #[.pointer (some ⟨R, 0, none⟩)] w fun e w' => ∃ v', e = .returned (.tuple #[.int .u64 n, .int .i64 0]) /\ w'.rowIs R 440 2 (rdF v') /\ SlX w' NL v' rest /\ Kept [R] w w' := by
 obtain ⟨A, c, rfl, hA, hAR⟩ := hv
 have h0 : w.cell? ⟨R, 0, none⟩ = some (.bool true) := World.rowIs.cell hR (i := 0) (by decide)
 have h1 : w.cell? ⟨R, 1, none⟩ = some (.slice A (putV n ++ rest).length c) := World.rowIs.cell hR (i := 1) (by decide)
 obtain ⟨k, hk⟩ := eY ((putV n ++ rest).length)
 obtain ⟨HR, HG⟩ := kq2 hR (hget A k c rest w hk (by omega) hA)
 have hc : k <= c := by have := hA.2.1; rw [hk] at this; exact this
 rw [hk] at h1 hl HR
 have HA := kp hA
 have hRlt := World.rowIs.lt HR.o
 clear hR hA
 obtain ⟨T, hT⟩ := eY ((putV n).length)
 have hTk : T <= k := by rw [<- hT, <- hk]; simp [lA]
 have hT0 : 0 < T := by rw [<- hT]; exact bs_
 have hkr : rest.length = k - T := by rw [<- hT, <- hk]; simp [lA]
 obtain ⟨b, off, hAe, _, _⟩ := HA.o.at (i := 0) (by rw [hk]; omega)
 subst hAe
 rw [hT] at HG
 obtain ⟨HT, HK, Aa⟩ := kq3 hT hk hkr
 clear hT hk hget hkr
 go_enter Tryz.func363, Tryz.ntmps363
 go_wp2_with fail
 go_enter Tryz.func389, Tryz.ntmps389
 go_wp2_with fail
 refine HG.o.mono ?_
 rintro e w1 ⟨rfl, hb1⟩
 have hR1 := World.rowIs.of_block HR.o (hb1.block R (World.rowIs.lt HR.o))
 have h11 : w1.cell? ⟨R, 1, none⟩ = some (.slice (some ⟨b, off, none⟩) k c) := World.rowIs.cell hR1 (i := 1) (by decide)
 have hf11 : w1.frozen? ⟨R, 1, none⟩ = false := World.rowIs.frozen hR1 1
 have Ab := kp hR1
 clear hR1
 go_wp2_with fail
 all_goals
  go_ret2
  have hby := (HA.o.below hb1 (lR _)).mono hb1.size
  have hbt : b ∉ NL := hAR b off rfl
  have h9 : Byt w1 w1.heap.size (some ⟨b, off, none⟩) c (putV n ++ rest ++ []) := by simpa using hby
  refine ⟨rfl, _, iw_ hRN Ab.o hb1 Aa.o (h9.part (m := T) HT.o (by rw [Aa.o]; omega) (by simp) (fun h => ?_)) (fun x o hA => ?_)⟩
  ·first | rfl | exact absurd h (by omega)
  cases hA; exact hbt
end Go.Proofs.YtnjhpgmbfblgaaaGreat.Ord
