/- The plain law of Valid: what calls fit together; The contract of slices.SortFunc at. -/
import Derived.Test.YtnjhpgmbfblgaaaGreatMH3
import Derived.Shelf.SlSortCmp.WholeK
import Derived.Test.YtnjhpgmbfblgaaaGreatProg
import Derived.Test.YtnjhpgmbfblgaaaGreatMH13
set_option linter.unusedVariables false
set_option linter.unusedSimpArgs false
namespace Go.Proofs.YtnjhpgmbfblgaaaGreat.Ord
theorem fY_ {α : Type} {P : List α -> Prop} (h0 : P []) (h1 : ∀ l x, P l -> P (l ++ [x])) (l : List α) : P l := by
 have : ∀ r : List α, P r.reverse := fun r => by
  induction r with
  | nil => exact h0
  | cons a r ih => rw [List.reverse_cons]; exact h1 _ _ ih
 have h := this l.reverse
 rwa [List.reverse_reverse] at h
structure Okc (single : CallR -> Bool) (pre : List CallR) (x : CallR) : Prop where
 one : single x = true
 ask : ∀ y, pre.getLast? = some y -> y.asked < x.asked
 fresh : ∀ n ∈ [x.asked, x.done, x.told], 0 <= n -> ∀ y ∈ pre, n ≠ y.asked /\ n ≠ y.done /\ n ≠ y.told
 num : x.num = (pre.filter fun y => y.ses == x.ses).length
 told : ∀ y ∈ pre, y.ses = x.ses -> 0 <= y.told
 after : ∀ y, (pre.filter fun y => y.ses == x.ses).getLast? = some y -> y.told < x.asked
def Pair (x y : CallR) : Prop := 0 <= x.done -> 0 <= y.done -> (y.done < x.done -> y.tim <= x.tim) /\ (x.done < y.done -> x.tim <= y.tim)
def Fit (single : CallR -> Bool) (l : List CallR) : Prop := ∀ pre x post, l = pre ++ x :: post -> Okc single pre x
def Timed (l : List CallR) : Prop := ∀ pre x post, l = pre ++ x :: post -> ∀ y ∈ pre, Pair x y
def ValidP (single : CallR -> Bool) (l : List CallR) : Prop := l.length <= 4096 /\ Fit single l /\ Timed l
theorem fr_ {α : Type} {l pre post : List α} {a x : α} (h : l ++ [a] = pre ++ x :: post) : (pre = l /\ x = a /\ post = []) ∨ ∃ q, l = pre ++ x :: q /\ post = q ++ [a] := by
 rcases List.eq_nil_or_concat post with rfl | ⟨q, b, rfl⟩
 ·left
  have := List.append_inj' h rfl
  simp at this
  exact ⟨this.1.symm, this.2.symm, rfl⟩
 right
 refine ⟨q, ?_⟩
 rw [List.concat_eq_append] at h ⊢
 rw [<- List.cons_append, <- aA] at h
 have := List.append_inj' h rfl
 simp at this
 exact ⟨this.1, by rw [this.2]⟩
theorem Fit.nil (single : CallR -> Bool) : Fit single [] := fun pre x post h => by simp at h
theorem Fit.snoc {single : CallR -> Bool} {l : List CallR} {x : CallR} (h : Fit single l) (hx : Okc single l x) : Fit single (l ++ [x]) := fun pre y post e => by
 rcases fr_ e with ⟨rfl, rfl, rfl⟩ | ⟨q, e1, _⟩
 ·exact hx
 exact h pre y q e1
theorem Fit.front {single : CallR -> Bool} {l l' : List CallR} (h : Fit single (l ++ l')) : Fit single l := fun pre x post e => h pre x (post ++ l') (by rw [e]; simp)
theorem Timed.nil : Timed [] := fun pre x post h => by simp at h
theorem Timed.snoc {l : List CallR} {x : CallR} (h : Timed l) (hx : ∀ y ∈ l, Pair x y) : Timed (l ++ [x]) := fun pre y post e => by
 rcases fr_ e with ⟨rfl, rfl, rfl⟩ | ⟨q, e1, _⟩
 ·exact hx
 exact h pre y q e1
theorem Timed.front {l l' : List CallR} (h : Timed (l ++ l')) : Timed l := fun pre x post e => h pre x (post ++ l') (by rw [e]; simp)
def bv_ (l : List CallR) (k : Int) : List CallR := l.filter fun y => y.ses == k
theorem dz_ (l : List CallR) (x : CallR) (k : Int) : bv_ (l ++ [x]) k = if x.ses = k then bv_ l k ++ [x] else bv_ l k := by
 by_cases h : x.ses = k <;> simp [bv_, h]
theorem Fit.last {single : CallR -> Bool} : ∀ {l : List CallR}, Fit single l -> ∀ {k : Int} {y : CallR}, (bv_ l k).getLast? = some y -> y.num + 1 = (bv_ l k).length /\ ∀ z ∈ l, z.ses = k -> z = y ∨ 0 <= z.told := by
 intro l
 induction l using fY_ with
 | h0 => intro _ k y h; simp [bv_] at h
 | h1 l x ih =>
  intro h k y hy
  have hx := h l x [] rfl
  rw [dz_] at hy ⊢
  by_cases e : x.ses = k
  ·rw [if_pos e] at hy ⊢
   simp at hy
   subst hy
   refine ⟨?_, fun z hz hk => ?_⟩
   ·have := hx.num
    subst e
    simp only [lA, List.length_singleton]
    rw [this]
    simp [bv_]
   rcases List.mem_append.1 hz with h1 | h1
   ·exact .inr (hx.told z h1 (by rw [hk, e]))
   simp at h1; exact .inl h1
  rw [if_neg e] at hy ⊢
  obtain ⟨h1, h2⟩ := ih h.front hy
  refine ⟨h1, fun z hz hk => ?_⟩
  rcases List.mem_append.1 hz with h3 | h3
  ·exact h2 z h3 hk
  simp at h3; subst h3; exact absurd hk e
def SesP (l : List CallR) (x : CallR) : Prop := match (bv_ l x.ses).getLast? with
 | none => x.num = 0
 | some y => 0 <= y.told /\ y.told < x.asked /\ x.num = y.num + 1
theorem ses_iff {single : CallR -> Bool} {l : List CallR} (h : Fit single l) (x : CallR) : SesP l x ↔ x.num = (bv_ l x.ses).length /\ (∀ y ∈ l, y.ses = x.ses -> 0 <= y.told) /\ ∀ y, (bv_ l x.ses).getLast? = some y -> y.told < x.asked := by
 unfold SesP
 cases hl : (bv_ l x.ses).getLast? with
 | none =>
  have h0 : bv_ l x.ses = [] := by simpa using hl
  simp only [h0, List.length_nil]
  constructor
  ·intro h1
   refine ⟨by simpa using h1, fun y hy hs => ?_, by simp⟩
   have : y ∈ bv_ l x.ses := by simp [bv_, hy, hs]
   rw [h0] at this
   simp at this
  intro h1; simpa using h1.1
 | some y =>
  obtain ⟨h1, h2⟩ := h.last hl
  have hy : y ∈ bv_ l x.ses := List.mem_of_getLast? hl
  have hy1 : y ∈ l /\ y.ses = x.ses := by simpa [bv_] using hy
  simp only [Option.some.injEq]
  constructor
  ·rintro ⟨a1, a2, a3⟩
   refine ⟨by omega, fun z hz hk => ?_, fun z hz => by subst hz; exact a2⟩
   rcases h2 z hz hk with rfl | h3
   ·exact a1
   exact h3
  rintro ⟨a1, a2, a3⟩
  exact ⟨a2 y hy1.1 hy1.2, a3 y rfl, by omega⟩
theorem Okc.iff {single : CallR -> Bool} {l : List CallR} (h : Fit single l) (x : CallR) : Okc single l x ↔ single x = true /\ (∀ y, l.getLast? = some y -> y.asked < x.asked) /\ (∀ n ∈ [x.asked, x.done, x.told], 0 <= n -> ∀ y ∈ l, n ≠ y.asked /\ n ≠ y.done /\ n ≠ y.told) /\ SesP l x := by
 rw [ses_iff h x]
 exact ⟨fun h1 => ⟨h1.one, h1.ask, h1.fresh, h1.num, h1.told, h1.after⟩, fun ⟨a, b, c, d, e, f⟩ => ⟨a, b, c, d, e, f⟩⟩
def Seen (l : List CallR) (n : Int) : Prop := ∃ y ∈ l, n = y.asked ∨ n = y.done ∨ n = y.told
theorem eJ_ (l : List CallR) (n : Int) : (∀ y ∈ l, n ≠ y.asked /\ n ≠ y.done /\ n ≠ y.told) ↔ ¬ Seen l n := by
 constructor
 ·rintro h ⟨y, hy, h1⟩
  have := h y hy
  rcases h1 with h1 | h1 | h1
  ·exact this.1 h1
  ·exact this.2.1 h1
  exact this.2.2 h1
 intro h y hy
 exact ⟨fun e => h ⟨y, hy, .inl e⟩, fun e => h ⟨y, hy, .inr (.inl e)⟩, fun e => h ⟨y, hy, .inr (.inr e)⟩⟩
theorem Fit.done_ne {single : CallR -> Bool} {l : List CallR} (h : Fit single l) : l.Pairwise fun y x => 0 <= x.done -> y.done ≠ x.done := by
 induction l using fY_ with
 | h0 => exact .nil
 | h1 l x ih =>
  rw [List.pairwise_append]
  refine ⟨ih h.front, by simp, fun y hy z hz h0 e => ?_⟩
  simp at hz
  subst hz
  exact ((h l z [] rfl).fresh z.done (by simp) h0 y hy).2.1 e.symm
def gl_ (l : List CallR) : List CallR := l.filter fun x => decide (0 <= x.done)
theorem gy_ (l : List CallR) : Timed l ↔ l.Pairwise fun y x => Pair x y := by
 induction l using fY_ with
 | h0 => exact ⟨fun _ => .nil, fun _ => Timed.nil⟩
 | h1 l x ih =>
  rw [List.pairwise_append]
  constructor
  ·intro h
   exact ⟨ih.1 h.front, by simp, fun y hy z hz => by simp at hz; subst hz; exact h l z [] rfl y hy⟩
  rintro ⟨h1, _, h2⟩
  exact (ih.2 h1).snoc fun y hy => h2 y hy x (by simp)
theorem hz_ (l : List CallR) : Timed l ↔ (gl_ l).Pairwise fun y x => Pair x y := by
 rw [gy_, gl_, List.pairwise_filter]
 constructor
 ·exact fun h => h.imp fun h _ _ => h
 exact fun h => h.imp fun {a b} h h1 h2 => h (by simpa using h2) (by simpa using h1) h1 h2
theorem gx_ {single : CallR -> Bool} {l d : List CallR} (h : Fit single l) (hp : d.Perm (gl_ l)) (hs : d.Pairwise fun a b => ¬ b.done < a.done) : Timed l ↔ ∀ i (h : i + 1 < d.length), ¬ d[i + 1].tim < d[i].tim := by
 have hne : d.Pairwise fun a b => a.done ≠ b.done := by
  have h1 : (gl_ l).Pairwise fun a b => a.done ≠ b.done := by
   rw [gl_, List.pairwise_filter]
   exact h.done_ne.imp fun {a b} h _ h2 => h (by simpa using h2)
  exact (hp.pairwise_iff fun h => h.symm).2 h1
 have hpos : ∀ x ∈ d, 0 <= x.done := fun x hx => by
  have := hp.mem_iff.1 hx
  simp [gl_] at this
  exact this.2
 have hsym : ∀ {x y : CallR}, Pair x y -> Pair y x := fun h a b => ⟨(h b a).2, (h b a).1⟩
 rw [hz_, <- hp.pairwise_iff (R := fun y x => Pair x y) fun h => hsym h]
 constructor
 ·intro h1 i hi
  have a1 := List.pairwise_iff_getElem.1 h1 i (i + 1) (by omega) hi (by omega)
  have a2 := List.pairwise_iff_getElem.1 hs i (i + 1) (by omega) hi (by omega)
  have a3 := List.pairwise_iff_getElem.1 hne i (i + 1) (by omega) hi (by omega)
  have := (a1 (hpos _ (List.getElem_mem _)) (hpos _ (List.getElem_mem _))).1 (by omega)
  omega
 intro h1
 have hm : ∀ k i (h : i + k < d.length), d[i].tim <= d[i + k].tim := by
  intro k
  induction k with
  | zero => intro i h; exact Int.le_refl _
  | succ k ih =>
   intro i h
   have a := ih i (by omega)
   have b := h1 (i + k) (by omega)
   simp only [Nat.add_assoc] at b ⊢
   omega
 rw [List.pairwise_iff_getElem]
 intro i j hi hj hij _ _
 have a2 := List.pairwise_iff_getElem.1 hs i j hi hj hij
 have a3 := List.pairwise_iff_getElem.1 hne i j hi hj hij
 obtain ⟨k, rfl⟩ : ∃ k, j = i + k := ⟨j - i, by omega⟩
 have := hm k i hj
 exact ⟨fun _ => this, fun h => by omega⟩
end Go.Proofs.YtnjhpgmbfblgaaaGreat.Ord
namespace Go.Proofs
open Go.Shelf
def Tryz.sort61_ren : Go.Shelf.Ren := ⟨fun | 6 => 61 | 15 => 115 | 14 => 114 | 28 => 187 | 29 => 188 | 20 => 179 | 21 => 180 | 22 => 181 | 23 => 182 | 24 => 183 | 25 => 184 | 26 => 185 | 27 => 186 | 46 => 238 | 47 => 239 | 48 => 240 | 49 => 241 | 50 => 242 | 57 => 313 | n => n, fun | 22 => 43 | 24 => 52 | 25 => 126 | 3 => 3 | 39 => 206 | 0 => 0 | 53 => 283 | 55 => 33 | 4 => 4 | 46 => 276 | 45 => 275 | 50 => 280 | 5 => 5 | 9 => 9 | 66 => 342 | 70 => 346 | 76 => 403 | 77 => 90 | n => n, fun | n => n⟩
theorem Tryz.sort61 : Go.Proofs.SlLaysF0.n6 Tryz.prog Tryz.sort61_ren := {
 mixed := by kernel_rfl
 f6 := ⟨Tryz.f61.name, by decide, Tryz.func61.trans (congrArg some (by kernel_rfl))⟩
 f14 := ⟨Tryz.f114.name, by decide, Tryz.func114.trans (congrArg some (by kernel_rfl))⟩
 f15 := Tryz.func115.trans (congrArg some (by kernel_rfl))
 f20 := ⟨Tryz.f179.name, by decide, Tryz.func179.trans (congrArg some (by kernel_rfl))⟩
 f21 := ⟨Tryz.f180.name, by decide, Tryz.func180.trans (congrArg some (by kernel_rfl))⟩
 f22 := ⟨Tryz.f181.name, by decide, Tryz.func181.trans (congrArg some (by kernel_rfl))⟩
 f23 := ⟨Tryz.f182.name, by decide, Tryz.func182.trans (congrArg some (by kernel_rfl))⟩
 f24 := ⟨Tryz.f183.name, by decide, Tryz.func183.trans (congrArg some (by kernel_rfl))⟩
 f25 := ⟨Tryz.f184.name, by decide, Tryz.func184.trans (congrArg some (by kernel_rfl))⟩
 f26 := ⟨Tryz.f185.name, by decide, Tryz.func185.trans (congrArg some (by kernel_rfl))⟩
 f27 := ⟨Tryz.f186.name, by decide, Tryz.func186.trans (congrArg some (by kernel_rfl))⟩
 f28 := Tryz.func187.trans (congrArg some (by kernel_rfl))
 f29 := Tryz.func188.trans (congrArg some (by kernel_rfl))
 f46 := ⟨Tryz.f238.name, by decide, Tryz.func238.trans (congrArg some (by kernel_rfl))⟩
 f47 := Tryz.func239.trans (congrArg some (by kernel_rfl))
 f48 := Tryz.func240.trans (congrArg some (by kernel_rfl))
 f49 := ⟨Tryz.f241.name, by decide, Tryz.func241.trans (congrArg some (by kernel_rfl))⟩
 f50 := ⟨Tryz.f242.name, by decide, Tryz.func242.trans (congrArg some (by kernel_rfl))⟩
 f57 := ⟨Tryz.f313.name, by decide, Tryz.func313.trans (congrArg some (by kernel_rfl))⟩
 t0 := Tryz.underlying0
 a0 := Tryz.isAgg0
 z0 := Tryz.sizeOf0
 v0 := Tryz.zeroValue0
 t3 := Tryz.underlying3
 a3 := Tryz.isAgg3
 z3 := Tryz.sizeOf3
 v3 := Tryz.zeroValue3
 t4 := Tryz.underlying4
 a4 := Tryz.isAgg4
 z4 := Tryz.sizeOf4
 v4 := Tryz.zeroValue4
 t5 := Tryz.underlying5
 a5 := Tryz.isAgg5
 z5 := Tryz.sizeOf5
 v5 := Tryz.zeroValue5
 t9 := Tryz.underlying9
 a9 := Tryz.isAgg9
 z9 := Tryz.sizeOf9
 v9 := Tryz.zeroValue9
 t22 := Tryz.underlying43
 a22 := Tryz.isAgg43
 z22 := Tryz.sizeOf43
 v22 := Tryz.zeroValue43
 t25 := Tryz.underlying126
 a25 := Tryz.isAgg126
 z25 := Tryz.sizeOf126
 v25 := Tryz.zeroValue126
 t39 := Tryz.underlying206
 a39 := Tryz.isAgg206
 z39 := Tryz.sizeOf206
 v39 := Tryz.zeroValue206
 t45 := Tryz.underlying275
 a45 := Tryz.isAgg275
 z45 := Tryz.sizeOf275
 v45 := Tryz.zeroValue275
 t46 := Tryz.underlying276
 a46 := Tryz.isAgg276
 z46 := Tryz.sizeOf276
 v46 := Tryz.zeroValue276
 t50 := Tryz.underlying280
 a50 := Tryz.isAgg280
 z50 := Tryz.sizeOf280
 v50 := Tryz.zeroValue280
 t53 := Tryz.underlying283
 a53 := Tryz.isAgg283
 z53 := Tryz.sizeOf283
 v53 := Tryz.zeroValue283
 t55 := Tryz.underlying33
 a55 := Tryz.isAgg33
 z55 := Tryz.sizeOf33
 v55 := Tryz.zeroValue33
 t66 := Tryz.underlying342
 a66 := Tryz.isAgg342
 z66 := Tryz.sizeOf342
 v66 := Tryz.zeroValue342
 t70 := Tryz.underlying346
 a70 := Tryz.isAgg346
 z70 := Tryz.sizeOf346
 v70 := Tryz.zeroValue346
 t76 := Tryz.underlying403
 a76 := Tryz.isAgg403
 z76 := Tryz.sizeOf403
 v76 := Tryz.zeroValue403
 t77 := Tryz.underlying90
 a77 := Tryz.isAgg90
 z77 := Tryz.sizeOf90
 v77 := Tryz.zeroValue90 }
end Go.Proofs
namespace Go.Proofs.YtnjhpgmbfblgaaaGreat.Ord
set_option maxRecDepth 100000
set_option maxHeartbeats 16000000
open Go.RowKit Go.Shelf Go.Lib Go.Sort
def cmpI (a b : Int) : Int := if a < b then -1 else if b < a then 1 else 0
theorem h6_ (a b : Int) : decide (cmpI a b < 0) = decide (a < b) := by
 unfold cmpI
 by_cases h1 : a < b
 ·simp [h1]
 by_cases h2 : b < a <;> simp [h1, h2]
theorem ho_ (a b : Int) (w : World) : Calls Tryz.prog 63 #[.int .i64 a, .int .i64 b] w fun e w' => e = .returned (.int .i64 (cmpI a b)) /\ w' = w := by
 by_cases h1 : a < b
 ·have g1 : decide (a < b) = true := by simpa using h1
  have hc : cmpI a b = -1 := by unfold cmpI; rw [if_pos h1]
  rw [hc]
  clear hc h1
  go_enter Tryz.func63, Tryz.ntmps63
  go_wp2
  go_ret
  exact ⟨rfl, rfl⟩
 have g1 : decide (a < b) = false := by simpa using h1
 by_cases h2 : b < a
 ·have g2 : decide (b < a) = true := by simpa using h2
  have hc : cmpI a b = 1 := by unfold cmpI; rw [if_neg h1, if_pos h2]
  rw [hc]
  clear hc h1 h2
  go_enter Tryz.func63, Tryz.ntmps63
  go_wp2
  go_ret
  exact ⟨rfl, rfl⟩
 have g2 : decide (b < a) = false := by simpa using h2
 have hc : cmpI a b = 0 := by unfold cmpI; rw [if_neg h1, if_neg h2]
 rw [hc]
 clear hc h1 h2
 go_enter Tryz.func63, Tryz.ntmps63
 go_wp2
 go_ret
 exact ⟨rfl, rfl⟩
theorem lp_ (a b : Int) (w : World) : Calls Tryz.prog 66 #[.int .u64 a, .int .u64 b] w fun e w' => e = .returned (.int .i64 (cmpI a b)) /\ w' = w := by
 by_cases h1 : a < b
 ·have g1 : decide (a < b) = true := by simpa using h1
  have hc : cmpI a b = -1 := by unfold cmpI; rw [if_pos h1]
  rw [hc]
  clear hc h1
  go_enter Tryz.func66, Tryz.ntmps66
  go_wp2
  go_ret
  exact ⟨rfl, rfl⟩
 have g1 : decide (a < b) = false := by simpa using h1
 by_cases h2 : b < a
 ·have g2 : decide (b < a) = true := by simpa using h2
  have hc : cmpI a b = 1 := by unfold cmpI; rw [if_neg h1, if_pos h2]
  rw [hc]
  clear hc h1 h2
  go_enter Tryz.func66, Tryz.ntmps66
  go_wp2
  go_ret
  exact ⟨rfl, rfl⟩
 have g2 : decide (b < a) = false := by simpa using h2
 have hc : cmpI a b = 0 := by unfold cmpI; rw [if_neg h1, if_neg h2]
 rw [hc]
 clear hc h1 h2
 go_enter Tryz.func66, Tryz.ntmps66
 go_wp2
 go_ret
 exact ⟨rfl, rfl⟩
theorem lu_ (x y : CallR) (p q : CallV) (W : World) : Calls Tryz.prog 62 #[.agg (callC x p).toArray, .agg (callC y q).toArray] W fun e w' => e = .returned (.int .i64 (cmpI x.done y.done)) /\ ∃ k os', w' = grow (W.drewN k) os' := by
 have hc := fun W' => ho_ x.done y.done W'
 generalize cmpI x.done y.done = r at hc ⊢
 have e1 : callC x p = [.int .i64 x.ses, .int .i64 x.num, .bool x.bad, .int .i64 x.cmd.op, .string x.cmd.key, p.vk, p.vv, p.vt, .int .u64 x.cmd.life, .int .u64 x.cmd.ver, .string x.cmd.tag, .string x.cmd.pre, .string x.cmd.chi, .int .i64 x.resp.op, .int .i64 x.resp.err, p.vi, .int .u64 x.resp.ver, .int .i64 x.resp.count, p.vn, .int .i64 x.asked, .int .i64 x.done, .int .i64 x.told, .int .u64 x.tim] := rfl
 have e2 : callC y q = [.int .i64 y.ses, .int .i64 y.num, .bool y.bad, .int .i64 y.cmd.op, .string y.cmd.key, q.vk, q.vv, q.vt, .int .u64 y.cmd.life, .int .u64 y.cmd.ver, .string y.cmd.tag, .string y.cmd.pre, .string y.cmd.chi, .int .i64 y.resp.op, .int .i64 y.resp.err, q.vi, .int .u64 y.resp.ver, .int .i64 y.resp.count, q.vn, .int .i64 y.asked, .int .i64 y.done, .int .i64 y.told, .int .u64 y.tim] := rfl
 rw [e1, e2]
 clear e1 e2
 go_enter Tryz.func62, Tryz.ntmps62
 go_wp2_with (go_at_call 63; refine (hc _).mono ?_; rintro e w' ⟨rfl, rfl⟩)
 go_ret
 exact ⟨rfl, 0, _, by rw [alloc_eq_grow, alloc_eq_grow, grow_grow]; rfl⟩
theorem lt_ (x y : CallR) (p q : CallV) (W : World) : Calls Tryz.prog 65 #[.agg (callC x p).toArray, .agg (callC y q).toArray] W fun e w' => e = .returned (.int .i64 (cmpI x.tim y.tim)) /\ ∃ k os', w' = grow (W.drewN k) os' := by
 have hc := fun W' => lp_ x.tim y.tim W'
 generalize cmpI x.tim y.tim = r at hc ⊢
 have e1 : callC x p = [.int .i64 x.ses, .int .i64 x.num, .bool x.bad, .int .i64 x.cmd.op, .string x.cmd.key, p.vk, p.vv, p.vt, .int .u64 x.cmd.life, .int .u64 x.cmd.ver, .string x.cmd.tag, .string x.cmd.pre, .string x.cmd.chi, .int .i64 x.resp.op, .int .i64 x.resp.err, p.vi, .int .u64 x.resp.ver, .int .i64 x.resp.count, p.vn, .int .i64 x.asked, .int .i64 x.done, .int .i64 x.told, .int .u64 x.tim] := rfl
 have e2 : callC y q = [.int .i64 y.ses, .int .i64 y.num, .bool y.bad, .int .i64 y.cmd.op, .string y.cmd.key, q.vk, q.vv, q.vt, .int .u64 y.cmd.life, .int .u64 y.cmd.ver, .string y.cmd.tag, .string y.cmd.pre, .string y.cmd.chi, .int .i64 y.resp.op, .int .i64 y.resp.err, q.vi, .int .u64 y.resp.ver, .int .i64 y.resp.count, q.vn, .int .i64 y.asked, .int .i64 y.done, .int .i64 y.told, .int .u64 y.tim] := rfl
 rw [e1, e2]
 clear e1 e2
 go_enter Tryz.func65, Tryz.ntmps65
 go_wp2_with (go_at_call 66; refine (hc _).mono ?_; rintro e w' ⟨rfl, rfl⟩)
 go_ret
 exact ⟨rfl, 0, _, by rw [alloc_eq_grow, alloc_eq_grow, grow_grow]; rfl⟩
def CallE : Type := { q : CallR × CallV // ∀ v ∈ callC q.1 q.2, v.oneCell' = true }
def CallE.r (x : CallE) : CallR := x.1.1
def CallE.enc (x : CallE) : List Value := callC x.1.1 x.1.2
theorem hr_ {x : CallR} {p : CallV} (h1 : p.vk.oneCell' = true) (h2 : p.vv.oneCell' = true) (h3 : p.vt.oneCell' = true) (h4 : p.vi.oneCell' = true) (h5 : p.vn.oneCell' = true) : ∀ v ∈ callC x p, v.oneCell' = true := by
 have e : callC x p = [.int .i64 x.ses, .int .i64 x.num, .bool x.bad, .int .i64 x.cmd.op, .string x.cmd.key, p.vk, p.vv, p.vt, .int .u64 x.cmd.life, .int .u64 x.cmd.ver, .string x.cmd.tag, .string x.cmd.pre, .string x.cmd.chi, .int .i64 x.resp.op, .int .i64 x.resp.err, p.vi, .int .u64 x.resp.ver, .int .i64 x.resp.count, p.vn, .int .i64 x.asked, .int .i64 x.done, .int .i64 x.told, .int .u64 x.tim] := rfl
 intro v hv
 rw [e] at hv
 simp only [List.mem_cons, List.not_mem_nil, or_false] at hv
 rcases hv with rfl | rfl | rfl | rfl | rfl | rfl | rfl | rfl | rfl | rfl | rfl | rfl | rfl | rfl | rfl | rfl | rfl | rfl | rfl | rfl | rfl | rfl | rfl <;> first | rfl | assumption
instance : Inhabited CallE := ⟨⟨(⟨0, 0, false, ⟨0, ⟨#[]⟩, [], [], [], 0, 0, ⟨#[]⟩, ⟨#[]⟩, ⟨#[]⟩⟩, ⟨0, 0, [], 0, 0, []⟩, 0, 0, 0, 0⟩, ⟨.slice none 0 0, .slice none 0 0, .slice none 0 0, .slice none 0 0, .slice none 0 0⟩), hr_ rfl rfl rfl rfl rfl⟩⟩
theorem CallE.len (x : CallE) : x.enc.length = 23 := rfl
def ht_ (x y : CallE) : Int := cmpI x.r.done y.r.done
theorem dl_ (x y : CallE) : ltOf ht_ x y = decide (x.r.done < y.r.done) := h6_ _ _
theorem swoDone : SWO (ltOf ht_) where
 irrefl x := by rw [dl_]; simp
 trans x y z h1 h2 := by rw [dl_] at *; simp at *; omega
 ntrans x y z h1 h2 := by rw [dl_] at *; simp at *; omega
theorem lq_ (blk off size : Nat) (w : World) : CmpLays Tryz.prog 62 #[] CallE.enc 23 ht_ blk off size w :=
 fun _ _ _ _ x y => lu_ x.1.1 y.1.1 x.1.2 y.1.2 _
theorem sort61 (blk off cap : Nat) (d : Array CallE) (w : World) (hH : HoldsK CallE.enc 23 w blk off d) (hblk : blk < w.heap.size) (hsz : d.size < 4611686018427387904) :
  Calls Tryz.prog 61 #[.slice (some ⟨blk, off, none⟩) d.size cap, .func (.func 62) #[] #[]] w fun e w' => e = .returned (.tuple #[]) /\ ∃ d' n os, PermIn 0 d.size d d' /\ SortedIn (ltOf ht_) 0 d.size d' /\ w' = sortWorldK CallE.enc 23 w blk off n d' os := by
 have eg : ∀ args w, (callFunc 62 args).run Tryz.prog w = .ok (.enter 62 args) w := enters_of Tryz.func62 (by kernel_rfl) rfl
 have hcon := AnyQ.slices_SortFunc Tryz.sort61 23 Tryz.isAgg52 Tryz.sizeOf52 CallE.enc CallE.len (fun x => x.2) ht_ swoDone 62 #[] blk off cap d w eg (lq_ blk off d.size w) hH hblk hsz
 exact hcon
end Go.Proofs.YtnjhpgmbfblgaaaGreat.Ord
namespace Go.Proofs.YtnjhpgmbfblgaaaGreat.Ord
set_option maxRecDepth 100000
set_option maxHeartbeats 16000000
open Go.RowKit Go.Sort
theorem ir_ (w : World) (k : Nat) (os : Array Obj) : Bw w (grow (w.drewN k) os) :=
 ⟨rfl, rfl, rfl, by simp [grow, World.drewN], fun k hk => by simp [grow, World.drewN, Array.getElem?_append, hk]⟩
def RowC (w : World) (B : Nat) (A : Option Addr) (l : List (CallR × CallV)) : Prop :=
 ∀ i x, l[i]? = some x -> ∃ b off, A = some ⟨b, off, none⟩ /\ b < B /\ CellsAt w ⟨b, off + i * 23, none⟩ (callC x.1 x.2)
theorem RowC.below {B B' : Nat} {w w' : World} {A : Option Addr} {l : List (CallR × CallV)} (h : RowC w B A l) (hb : Below B' w w') (hB : B <= B') : RowC w' B' A l := by
 intro i r hi
 obtain ⟨b, off, h1, h2, h3⟩ := h i r hi
 exact ⟨b, off, h1, by omega, h3.below hb (by show b < B'; omega)⟩
def j9_ (l : List (CallR × CallV)) : Bool := decide (∀ i (h : i < l.length - 1), l[i].1.tim <= l[i + 1].1.tim)
theorem cM_ (x : CallR × CallV) : (Tryz.prog.info? 52).map (·.size) = some (callC x.1 x.2).length := jV_ _ _ _ _ _ _ _ _ _ _ _ _ _ _ _ _ _ _ _ _ _ _ _
theorem sorted64 (A : Option Addr) (n c : Nat) (l : List (CallR × CallV)) (w : World) (hn : l.length = n) (hl : n <= 4096) (hA : RowC w w.heap.size A l) :
  Calls Tryz.prog 64 #[.slice A n c, .func (.func 65) #[] #[]] w fun e w' => e = .returned (.bool (j9_ l)) /\ Bw w w' := by
 obtain ⟨HA, HN⟩ := kq2 hA hn
 clear hA hn
 go_enter Tryz.func64, Tryz.ntmps64
 go_wp2_with fail
 go_loopw [5] (fun j wr => ∃ z : Int, -1 <= z /\ z < n /\ j = .int .i64 z /\ (∀ i (h : i + 1 < l.length), z <= i -> l[i].1.tim <= l[i + 1].1.tim) /\ Bw w wr) (fun j _ => (intOf j).toNat)
 case atStart => exact ⟨(n : Int) - 1, by omega, by omega, rfl, fun i h hi => absurd hi (by have := HN.o; omega), BR _ _⟩
 obtain ⟨z, hz1, hz2, rfl, hall, hb⟩ := hrel
 have Aa := kp hall
 clear hall
 by_cases hlt : 0 < z
 ·obtain ⟨k, rfl⟩ : ∃ k : Nat, z = (k : Int) + 1 := ⟨(z - 1).toNat, by omega⟩
  have hg : decide ((0 : Int) < (k : Int) + 1) = true := eT_ (by omega)
  have hk1 : k + 1 < l.length := by rw [HN.o]; omega
  have hk2 : k < l.length := by rw [HN.o]; omega
  obtain ⟨b, off, rfl, hbB, hck⟩ := (HA.o.below hb (lR _)) (k + 1) _ (gE hk1)
  obtain ⟨b', off', he, hbB', hck'⟩ := (HA.o.below hb (lR _)) k _ (gE hk2)
  obtain ⟨rfl, rfl⟩ : b = b' /\ off = off' := by simpa using he
  clear he
  have HR := kp (show l[k + 1] = l[k + 1] from rfl)
  obtain ⟨r, hr⟩ := eY (l[k + 1])
  obtain ⟨s, hs⟩ := eY (l[k])
  rw [hr] at hck
  rw [hs] at hck'
  have h65 := fun W => (lt_ r.1 s.1 r.2 s.2 W).mono fun e w' h => (⟨h.1, by obtain ⟨_, k, os, rfl⟩ := h; exact ir_ _ _ _⟩ : e = .returned (.int .i64 (cmpI r.1.tim s.1.tim)) /\ Bw W w')
  have hc := h6_ r.1.tim s.1.tim
  obtain ⟨t, ht⟩ := eY (cmpI r.1.tim s.1.tim)
  rw [ht] at h65 hc
  have hsz1 := cM_ r
  have hsz2 := cM_ s
  generalize callC r.1 r.2 = l1 at *
  generalize callC s.1 s.2 = l2 at *
  obtain ⟨Hk, Hk', H65, Ad, Ac, HC, Ab⟩ := kq7 hck.regrown hck'.regrown h65 hsz1 hsz2 hc (⟨hr, hs⟩ : l[k + 1] = r /\ l[k] = s)
  have e1 : ((k : Int) + 1).toNat = k + 1 := by omega
  have e2 : IntKind.i64.wrap (k : Int) = (k : Int) := by rw [IntKind.wrap_i64]; omega
  have e3 : (k : Int) + 1 < (n : Int) := hz2
  have e4 : (k : Int) < (n : Int) := by omega
  have e5 : (0 : Int) <= (k : Int) + 1 := by omega
  clear hck hck' h65 hr hs ht hsz1 hsz2 hc HR
  cases hd : decide (t < 0)
  all_goals
   go_wp2_with fail
   refine wp_region_quiet_below (by kernel_rfl) (by kernel_rfl) ?_
   repeat (first
    | ((with_reducible refine ay_ (o := ⟨some 17, _, _, _, _, _⟩) rfl 52 _ rfl ⟨b, off + (k + 1) * 23, none⟩ ?_ l1 _ Hk.o Tryz.underlying52 rfl Ad.o ?_); (· rfl); simp only [Act.put, z1, z2, z3])
    | ((with_reducible refine ay_ (o := ⟨some 22, _, _, _, _, _⟩) rfl 52 _ rfl ⟨b, off + k * 23, none⟩ ?_ l2 _ Hk'.o Tryz.underlying52 rfl Ac.o ?_); (· rfl); simp only [Act.put, z1, z2, z3])
    | go_big_quiet_step ((go_at_call 65; exact Calls.regrown_of (H65.o _))))
   refine wpQuiet_nil ?_
   intro W3 hW3
   have hb3 := hb.trans ((an_ hW3).mono hb.size)
   clear hW3
  ·go_wp2_with fail
   go_roundw
   case rel => exact ⟨k, by omega, by omega, by go_num, fun i h hi => by (by_cases e : i = k; (subst e; rw [Ab.o.1, Ab.o.2]; have := HC.o; rw [hd] at this; have := of_decide_eq_false this.symm; omega); exact Aa.o i h (by omega)), hb3⟩
   simp [intOf]
  go_wp2_with fail
  go_ret
  refine ⟨ah_ ?_, hb3⟩
  refine (eF fun h => ?_).symm
  have h1 := h k (by omega)
  rw [Ab.o.1, Ab.o.2] at h1
  have := HC.o
  rw [hd] at this
  have := of_decide_eq_true this.symm
  omega
 have hg : decide (0 < z) = false := by simp; omega
 go_wp2_with fail
 go_ret
 refine ⟨ah_ ?_, hb⟩
 exact (eT_ fun i h => Aa.o i (by omega) (by omega)).symm
end Go.Proofs.YtnjhpgmbfblgaaaGreat.Ord
namespace Go.Proofs.YtnjhpgmbfblgaaaGreat.Ord
set_option maxRecDepth 100000
set_option maxHeartbeats 16000000
open Go.RowKit Go.Shelf
theorem ins_none (p : Option Addr) (cap : Nat) (fv : Value) (w : World) :
  Calls Tryz.prog 179 #[.slice p 0 cap, .int .i64 0, .int .i64 0, fv] w fun e w' => e = .returned (.tuple #[]) /\ w' = w := by
 go_enter Tryz.func179, Tryz.ntmps179
 go_wp2
 refine wp_loop_rounds 1 ?_
 rw [rounds_succ]
 go_wp2
 go_end0
 exact ⟨rfl, rfl⟩
theorem pdq_none (p : Option Addr) (cap : Nat) (lim : Int) (fv : Value) (w : World) :
  Calls Tryz.prog 114 #[.slice p 0 cap, .int .i64 0, .int .i64 0, .int .i64 lim, fv] w fun e w' => e = .returned (.tuple #[]) /\ w' = w := by
 have hi := fun W => ins_none p cap fv W
 go_enter Tryz.func114, Tryz.ntmps114
 go_wp2
 refine wp_loop_rounds 1 ?_
 rw [rounds_succ]
 go_wp2_with (go_at_call 179; refine (hi _).mono ?_; rintro e w' ⟨rfl, rfl⟩)
 (try simp only [Exit.inBlock, Exit.then]); refine bodyPost_ret (results_none rfl _ _ _) rfl ?_
 exact ⟨rfl, rfl⟩
theorem hE_ (p : Option Addr) (cap : Nat) (fv : Value) (w : World) :
  Calls Tryz.prog 61 #[.slice p 0 cap, fv] w fun e w' => e = .returned (.tuple #[]) /\ w' = w := by
 have hp := fun lim W => pdq_none p cap lim fv W
 have hl : ∀ W, Calls Tryz.prog 115 #[.int .u64 0] W fun e w' => e = .returned (.int .i64 (Lib.bitLen 0 : Nat)) /\ w' = W := fun W => Any.bits_Len (SlLaysF0.n15.bits (P := Tryz.prog) (ρ := Tryz.sort61_ren) { Tryz.sort61 with }) 0 W (by omega) (by omega)
 go_enter Tryz.func61, Tryz.ntmps61
 go_wp2_with (first | (go_at_call 115; refine (hl _).mono ?_; rintro e w' ⟨rfl, rfl⟩) | (go_at_call 114; refine (hp _ _).mono ?_; rintro e w' ⟨rfl, rfl⟩))
 go_end0
 exact ⟨rfl, rfl⟩
theorem eI_ {α : Type} [Inhabited α] {enc : α -> List Value} {k : Nat} {w : World} {g n : Nat} {os : Array Obj} (d : Array α) : w.grownBy (Go.Proofs.sortWorldK enc k w g 0 n d os) (some g) := by
 refine ⟨rfl, rfl, rfl, by unfold Go.Proofs.sortWorldK Go.Sort.putRowK; rw [Go.Sort.size_grow, Go.Sort.size_putRow]; exact Nat.le_add_right _ _, fun k hk hne => ?_⟩
 unfold Go.Proofs.sortWorldK Go.Sort.putRowK
 rw [Go.Sort.heap_grow_old _ _ (by simpa [Go.Sort.ahead] using hk)]
 have : g ≠ k := fun e => hne (by rw [e])
 simp [Go.Sort.putRow, Go.Sort.mapBlock, Go.Sort.ahead, Array.getElem?_modify, this]
abbrev callsV (L : List (CallR × CallV)) : List Value := L.flatMap fun x => callC x.1 x.2
theorem jK_ {w : World} {base g n c : Nat} {zs : List CallE} (h : w.ownsRow base 52 23 (.slice (some ⟨g, 0, none⟩) n c) n (callsV (zs.map fun z => z.1))) (hn : zs.length = n) : Go.Sort.HoldsK CallE.enc 23 w g 0 zs.toArray /\ g < w.heap.size /\ base <= g := by
 rcases h.2 with ⟨h, _⟩ | ⟨g', cap', cur, he, hbase, hh, hnc, hcm, hcs, htake⟩
 ·cases h
 cases he
 refine ⟨fun t ht => ?_, (Array.getElem?_eq_some_iff.1 hh).1, hbase⟩
 rw [Go.Sort.size_flatK] at ht
 have ht' : t < zs.length * 23 := by simpa using ht
 have hi : t / 23 < zs.length := by omega
 have hj : t % 23 < 23 := Nat.mod_lt _ (by omega)
 refine ⟨?_, by simp [World.frozen?, hh]⟩
 rw [Go.Sort.get_flatK _ _ _ _ ht]
 have e1 : zs.toArray[t / 23]! = zs[t / 23] := by simp [hi]
 rw [e1]
 have hl : t % 23 < (zs[t / 23]).enc.length := by rw [CallE.len]; exact hj
 have e2 : ((zs[t / 23]).enc)[t % 23]! = ((zs[t / 23]).enc)[t % 23] := by simp [hl]
 rw [e2]
 have h1 : (callsV (zs.map fun z => z.1))[t / 23 * 23 + t % 23]? = some ((zs[t / 23]).enc)[t % 23] := k2_ (L := zs.map fun z => z.1) (k := t / 23) (x := (zs[t / 23]).1) (by simp [hi]) (j := t % 23) (v := ((zs[t / 23]).enc)[t % 23]) (gE hl)
 rw [show t / 23 * 23 + t % 23 = t by omega] at h1
 rw [<- htake, List.getElem?_take_of_lt (by omega)] at h1
 rw [Nat.zero_add]
 simp only [World.cell?, hh, Option.isSome_none, Bool.false_eq_true, if_false]
 rw [<- Array.getElem?_toList, h1]
 rfl
theorem jk_ {w : World} {g : Nat} {d : Array CallE} (h : Go.Sort.HoldsK CallE.enc 23 w g 0 d) (hg : g < w.heap.size) : RowC w w.heap.size (some ⟨g, 0, none⟩) (d.toList.map fun z => z.1) := by
 intro i x hi
 refine ⟨g, 0, rfl, hg, fun j u hu => ?_⟩
 obtain ⟨z, hz, rfl⟩ : ∃ z, d.toList[i]? = some z /\ z.1 = x := by simpa using hi
 have hi2 := (gS.1 hz).1
 have hj2 : j < 23 := (gS.1 hu).1
 have ht : i * 23 + j < d.size * 23 := by simp at hi2; omega
 have h1 := (h (i * 23 + j) (by rw [Go.Sort.size_flatK]; exact ht)).1
 rw [Go.Sort.get_flatK _ _ _ _ ht, show (i * 23 + j) / 23 = i by omega, show (i * 23 + j) % 23 = j by omega] at h1
 rw [show (⟨g, 0 + i * 23, none⟩ : Addr).add j = ⟨g, 0 + (i * 23 + j), none⟩ by simp [Addr.add], h1]
 have e1 : d[i]! = z := by
  have h2 : d[i]? = some z := by rw [<- Array.getElem?_toList]; exact hz
  rw [getElem!_def, h2]
 have e2 : z.enc[j]! = u := by
  have h2 : z.enc[j]? = some u := hu
  rw [getElem!_def, h2]
 rw [e1, e2]
 rfl
def toE (L : List (CallR × CallV)) (h : ∀ x ∈ L, ∀ v ∈ callC x.1 x.2, v.oneCell' = true) : List CallE := L.pmap (fun x h => (⟨x, h⟩ : CallE)) h
theorem j7_ (L : List (CallR × CallV)) (h : ∀ x ∈ L, ∀ v ∈ callC x.1 x.2, v.oneCell' = true) : (toE L h).map (fun z => z.1) = L := by
 induction L with
 | nil => rfl
 | cons a L ih =>
  show a :: (toE L _).map (fun z => z.1) = a :: L
  rw [ih]
theorem toE_len (L : List (CallR × CallV)) (h : ∀ x ∈ L, ∀ v ∈ callC x.1 x.2, v.oneCell' = true) : (toE L h).length = L.length := by rw [<- lM_ (f := fun z : CallE => z.1), j7_]
theorem sort_row (base : Nat) (L : List (CallR × CallV)) (A : Option Addr) (n c : Nat) (w : World) (hn : L.length = n) (hl : n <= 4096) (h1 : ∀ x ∈ L, ∀ v ∈ callC x.1 x.2, v.oneCell' = true) (ho : w.ownsRow base 52 23 (.slice A n c) n (callsV L)) (hbase : base <= w.heap.size) :
  Calls Tryz.prog 61 #[.slice A n c, .func (.func 62) #[] #[]] w fun e w' => e = .returned (.tuple #[]) /\ ∃ L', L'.Perm L /\ (L'.Pairwise fun a b => ¬ b.1.done < a.1.done) /\ RowC w' w'.heap.size A L' /\ Below base w w' := by
 rcases id ho.2 with ⟨h, h0⟩ | ⟨g, cap, cur, he, hb, hh, hnc, hcm, hcs, htake⟩
 ·cases h
  refine (hE_ _ _ _ w).mono ?_
  rintro e w' ⟨rfl, rfl⟩
  have hL : L = [] := List.length_eq_zero_iff.1 hn
  subst hL
  exact ⟨rfl, [], .nil, .nil, fun i x hi => by simp at hi, BR _ _⟩
 cases he
 have hzs := j7_ L h1
 have hzl : (toE L h1).length = n := by rw [toE_len, hn]
 generalize toE L h1 = zs at hzs hzl
 rw [<- hzs] at ho
 obtain ⟨hH, hg, hbg⟩ := jK_ ho hzl
 have hcon := sort61 g 0 c zs.toArray w hH hg (by simp [hzl]; omega)
 rw [show zs.toArray.size = n by simp [hzl]] at hcon
 refine hcon.mono ?_
 rintro e w' ⟨he, d', m, os, hp, hs, rfl⟩
 have hps : d'.size = n := by rw [hp.1]; simp [hzl]
 have hperm : d'.toList.Perm zs := by
  have h3 := hp.2.2
  have e1 : (d'.extract 0 n) = d' := by rw [<- hps]; simp
  have e2 : (zs.toArray.extract 0 n) = zs.toArray := by rw [<- hzl]; simp
  rw [e1, e2] at h3
  exact h3
 have hgr := eI_ (enc := CallE.enc) (k := 23) (w := w) (g := g) (n := m) (os := os) d'
 refine ⟨he, d'.toList.map (fun z => z.1), ?_, ?_, ?_, ⟨hgr.os, hgr.tape, hgr.output, hgr.size, fun k hk => hgr.block k (by omega) (fun e => by cases e; omega)⟩⟩
 ·rw [<- hzs]; exact hperm.map _
 ·rw [List.pairwise_map, List.pairwise_iff_getElem]
  intro i j hi hj hij
  have h4 := hs i j (Nat.zero_le _) hij (by simp at hj; omega)
  have e1 : d'[i]! = d'.toList[i] := by simp at hi; simp [hi]
  have e2 : d'[j]! = d'.toList[j] := by simp at hj; simp [hj]
  rw [e1, e2, dl_] at h4
  exact of_decide_eq_false h4
 exact jk_ (Go.Proofs.holdsK_sortWorldK_c CallE.enc 23 w g 0 zs.toArray d' m os hH hg (by rw [hps]; simp [hzl])) (Go.Proofs.lt_sortWorldK CallE.enc 23 w g 0 m d' os hg)
end Go.Proofs.YtnjhpgmbfblgaaaGreat.Ord
