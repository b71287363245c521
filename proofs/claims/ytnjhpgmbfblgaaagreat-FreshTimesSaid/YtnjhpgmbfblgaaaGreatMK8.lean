/- What given makes; The drawn region of given, state by state; Walk of given; The plain. -/
import Derived.Test.YtnjhpgmbfblgaaaGreatMP1
import Derived.Test.YtnjhpgmbfblgaaaGreatMP0
import Derived.Test.YtnjhpgmbfblgaaaGreatMK7
set_option linter.unusedVariables false
set_option linter.unusedSimpArgs false
namespace Go.Proofs.YtnjhpgmbfblgaaaGreat.Ord
open Go.RowKit
def getR : CmdR := ⟨4, ⟨#[97]⟩, [], [], [], 0, 0, ⟨#[]⟩, ⟨#[]⟩, ⟨#[]⟩⟩
def misR : RespR := ⟨4, 0, [⟨0, [], 0, 0⟩], 0, 0, []⟩
abbrev nilV : Value := .slice none 0 0
abbrev opsG : Array Oper := #[⟨some 14, .build 28 #[(0, .const (.int .i64 1))], 28, "law.go:22", #[], none⟩,
 ⟨some 15, .build 42 #[(0, .tmp 14)], 42, "law.go:22", #[⟨0, .data⟩], none⟩,
 ⟨some 16, .build 28 #[(0, .const (.int .i64 1))], 28, "law.go:22", #[], none⟩,
 ⟨some 17, .build 42 #[(0, .tmp 16), (2, .const (.int .i64 1))], 42, "law.go:22", #[⟨2, .data⟩], none⟩,
 ⟨some 18, .buildSlice 26 4 #[(0, .const (.int .u8 3)), (1, .const (.int .u8 4)), (2, .const (.int .u8 1)), (3, .const (.int .u8 97))], 26, "law.go:22", #[], none⟩,
 ⟨some 19, .build 28 #[(0, .const (.int .i64 2)), (3, .tmp 18)], 28, "law.go:22", #[⟨4, .data⟩], none⟩,
 ⟨some 20, .build 42 #[(0, .tmp 19), (2, .const (.int .i64 4))], 42, "law.go:22", #[⟨5, .data⟩], none⟩,
 ⟨some 21, .move (.tmp 6), 193, "law.go:22", #[], none⟩,
 ⟨some 22, .load 36 (.tmp 2), 36, "law.go:22", #[], none⟩,
 ⟨some 23, .build 40 #[], 40, "law.go:22", #[], none⟩,
 ⟨some 24, .call ⟨.value (.tmp 21), #[.const (.int .i64 0), .const (.int .i64 1), .tmp 22, .tmp 23], #[3, 30, 36, 40]⟩, 42, "law.go:26", #[⟨7, .data⟩, ⟨8, .data⟩, ⟨9, .data⟩], none⟩,
 ⟨some 25, .move (.tmp 6), 193, "law.go:22", #[], none⟩,
 ⟨some 26, .load 36 (.tmp 2), 36, "law.go:22", #[], none⟩,
 ⟨some 27, .load 40 (.tmp 4), 40, "law.go:22", #[], none⟩,
 ⟨some 28, .call ⟨.value (.tmp 25), #[.const (.int .i64 0), .const (.int .i64 3), .tmp 26, .tmp 27], #[3, 30, 36, 40]⟩, 42, "law.go:27", #[⟨11, .data⟩, ⟨12, .data⟩, ⟨13, .data⟩, ⟨10, .chain⟩], none⟩,
 ⟨some 29, .buildSlice 26 2 #[(0, .const (.int .u8 1)), (1, .const (.int .u8 14))], 26, "law.go:22", #[], none⟩,
 ⟨some 30, .build 28 #[(0, .const (.int .i64 2)), (1, .const (.int .i64 1)), (3, .tmp 29)], 28, "law.go:22", #[⟨15, .data⟩], none⟩,
 ⟨some 31, .build 42 #[(0, .tmp 30), (2, .const (.int .i64 2))], 42, "law.go:22", #[⟨16, .data⟩], none⟩,
 ⟨some 32, .move (.tmp 6), 193, "law.go:22", #[], none⟩,
 ⟨some 33, .load 36 (.tmp 3), 36, "law.go:22", #[], none⟩,
 ⟨some 34, .build 40 #[], 40, "law.go:22", #[], none⟩,
 ⟨some 35, .call ⟨.value (.tmp 32), #[.const (.int .i64 1), .const (.int .i64 1), .tmp 33, .tmp 34], #[3, 30, 36, 40]⟩, 42, "law.go:29", #[⟨18, .data⟩, ⟨19, .data⟩, ⟨20, .data⟩, ⟨14, .chain⟩], none⟩,
 ⟨some 36, .move (.tmp 6), 193, "law.go:22", #[], none⟩,
 ⟨some 37, .build 36 #[], 36, "law.go:22", #[], none⟩,
 ⟨some 38, .load 40 (.tmp 4), 40, "law.go:22", #[], none⟩,
 ⟨some 39, .call ⟨.value (.tmp 36), #[.const (.int .i64 0), .const (.int .i64 4), .tmp 37, .tmp 38], #[3, 30, 36, 40]⟩, 42, "law.go:30", #[⟨22, .data⟩, ⟨23, .data⟩, ⟨24, .data⟩, ⟨21, .chain⟩], none⟩,
 ⟨some 40, .move (.tmp 6), 193, "law.go:22", #[], none⟩,
 ⟨some 41, .load 36 (.tmp 3), 36, "law.go:22", #[], none⟩,
 ⟨some 42, .load 40 (.tmp 5), 40, "law.go:22", #[], none⟩,
 ⟨some 43, .call ⟨.value (.tmp 40), #[.const (.int .i64 1), .const (.int .i64 3), .tmp 41, .tmp 42], #[3, 30, 36, 40]⟩, 42, "law.go:31", #[⟨26, .data⟩, ⟨27, .data⟩, ⟨28, .data⟩, ⟨25, .chain⟩], none⟩,
 ⟨some 44, .buildSlice 22 9 #[(0, .tmp 15), (1, .tmp 17), (2, .tmp 20), (3, .tmp 24), (4, .tmp 28), (5, .tmp 31), (6, .tmp 35), (7, .tmp 39), (8, .tmp 43)], 22, "law.go:22", #[⟨1, .data⟩, ⟨3, .data⟩, ⟨6, .data⟩, ⟨10, .data⟩, ⟨14, .data⟩, ⟨17, .data⟩, ⟨21, .data⟩, ⟨25, .data⟩, ⟨29, .data⟩], none⟩,
 ⟨some 7, .assign (.tmp 44), 22, "law.go:22", #[⟨30, .data⟩, ⟨29, .chain⟩, ⟨0, .phase⟩, ⟨1, .phase⟩, ⟨2, .phase⟩, ⟨3, .phase⟩, ⟨4, .phase⟩, ⟨5, .phase⟩, ⟨6, .phase⟩, ⟨7, .phase⟩, ⟨8, .phase⟩, ⟨9, .phase⟩, ⟨10, .phase⟩, ⟨11, .phase⟩, ⟨12, .phase⟩, ⟨13, .phase⟩, ⟨14, .phase⟩, ⟨15, .phase⟩, ⟨16, .phase⟩, ⟨17, .phase⟩, ⟨18, .phase⟩, ⟨19, .phase⟩, ⟨20, .phase⟩, ⟨21, .phase⟩, ⟨22, .phase⟩, ⟨23, .phase⟩, ⟨24, .phase⟩, ⟨25, .phase⟩, ⟨26, .phase⟩, ⟨27, .phase⟩, ⟨28, .phase⟩, ⟨29, .phase⟩, ⟨30, .phase⟩], none⟩]
theorem g0 : opsG[0]? = some ⟨some 14, .build 28 #[(0, .const (.int .i64 1))], 28, "law.go:22", #[], none⟩ := rfl
theorem g1 : opsG[1]? = some ⟨some 15, .build 42 #[(0, .tmp 14)], 42, "law.go:22", #[⟨0, .data⟩], none⟩ := rfl
theorem g2 : opsG[2]? = some ⟨some 16, .build 28 #[(0, .const (.int .i64 1))], 28, "law.go:22", #[], none⟩ := rfl
theorem g3 : opsG[3]? = some ⟨some 17, .build 42 #[(0, .tmp 16), (2, .const (.int .i64 1))], 42, "law.go:22", #[⟨2, .data⟩], none⟩ := rfl
theorem g4 : opsG[4]? = some ⟨some 18, .buildSlice 26 4 #[(0, .const (.int .u8 3)), (1, .const (.int .u8 4)), (2, .const (.int .u8 1)), (3, .const (.int .u8 97))], 26, "law.go:22", #[], none⟩ := rfl
theorem g5 : opsG[5]? = some ⟨some 19, .build 28 #[(0, .const (.int .i64 2)), (3, .tmp 18)], 28, "law.go:22", #[⟨4, .data⟩], none⟩ := rfl
theorem g6 : opsG[6]? = some ⟨some 20, .build 42 #[(0, .tmp 19), (2, .const (.int .i64 4))], 42, "law.go:22", #[⟨5, .data⟩], none⟩ := rfl
theorem g7 : opsG[7]? = some ⟨some 21, .move (.tmp 6), 193, "law.go:22", #[], none⟩ := rfl
theorem g8 : opsG[8]? = some ⟨some 22, .load 36 (.tmp 2), 36, "law.go:22", #[], none⟩ := rfl
theorem g9 : opsG[9]? = some ⟨some 23, .build 40 #[], 40, "law.go:22", #[], none⟩ := rfl
theorem g10 : opsG[10]? = some ⟨some 24, .call ⟨.value (.tmp 21), #[.const (.int .i64 0), .const (.int .i64 1), .tmp 22, .tmp 23], #[3, 30, 36, 40]⟩, 42, "law.go:26", #[⟨7, .data⟩, ⟨8, .data⟩, ⟨9, .data⟩], none⟩ := rfl
theorem g11 : opsG[11]? = some ⟨some 25, .move (.tmp 6), 193, "law.go:22", #[], none⟩ := rfl
theorem g12 : opsG[12]? = some ⟨some 26, .load 36 (.tmp 2), 36, "law.go:22", #[], none⟩ := rfl
theorem g13 : opsG[13]? = some ⟨some 27, .load 40 (.tmp 4), 40, "law.go:22", #[], none⟩ := rfl
theorem g14 : opsG[14]? = some ⟨some 28, .call ⟨.value (.tmp 25), #[.const (.int .i64 0), .const (.int .i64 3), .tmp 26, .tmp 27], #[3, 30, 36, 40]⟩, 42, "law.go:27", #[⟨11, .data⟩, ⟨12, .data⟩, ⟨13, .data⟩, ⟨10, .chain⟩], none⟩ := rfl
theorem g15 : opsG[15]? = some ⟨some 29, .buildSlice 26 2 #[(0, .const (.int .u8 1)), (1, .const (.int .u8 14))], 26, "law.go:22", #[], none⟩ := rfl
theorem g16 : opsG[16]? = some ⟨some 30, .build 28 #[(0, .const (.int .i64 2)), (1, .const (.int .i64 1)), (3, .tmp 29)], 28, "law.go:22", #[⟨15, .data⟩], none⟩ := rfl
theorem g17 : opsG[17]? = some ⟨some 31, .build 42 #[(0, .tmp 30), (2, .const (.int .i64 2))], 42, "law.go:22", #[⟨16, .data⟩], none⟩ := rfl
theorem g18 : opsG[18]? = some ⟨some 32, .move (.tmp 6), 193, "law.go:22", #[], none⟩ := rfl
theorem g19 : opsG[19]? = some ⟨some 33, .load 36 (.tmp 3), 36, "law.go:22", #[], none⟩ := rfl
theorem g20 : opsG[20]? = some ⟨some 34, .build 40 #[], 40, "law.go:22", #[], none⟩ := rfl
theorem g21 : opsG[21]? = some ⟨some 35, .call ⟨.value (.tmp 32), #[.const (.int .i64 1), .const (.int .i64 1), .tmp 33, .tmp 34], #[3, 30, 36, 40]⟩, 42, "law.go:29", #[⟨18, .data⟩, ⟨19, .data⟩, ⟨20, .data⟩, ⟨14, .chain⟩], none⟩ := rfl
theorem g22 : opsG[22]? = some ⟨some 36, .move (.tmp 6), 193, "law.go:22", #[], none⟩ := rfl

def want0 : CallR := ⟨0, 0, false, getR, misR, 3, 4, 7, 0⟩
section
variable {P : Program}
end
theorem row_up {w w' : World} {A : Option Addr} {L : List (CallR × CallV)} (h : RowCO w w.heap.size A L) (hb : Bw w w') : RowCO w' w'.heap.size A L := fun i x hi => by
 obtain ⟨b, off, h1, h2, h3, h4⟩ := h i x hi
 exact ⟨b, off, h1, lL h2 hb.size, h3.below hb h2, (h4.below hb (lR _)).mono hb.size⟩
section
variable {P : Program}
theorem step_call_want {w : World} {ops : Array Oper} {o : Oper} {a : Act} {K : Act -> World -> Prop} {Q : Exit -> Act -> World -> Prop} {E : Prop} (hw : Region.wanted o (yielded ops a.tmps) = true) (N : Nat) (xs : Array Operand) (ts : Array TypeId)
  (ho : o.op = .call { callee := .value (.func N), args := xs, argTypes := ts }) (vs : Array Value) (hx : xs.map a.eval = vs)
  (fn : Func) (hfn : P.funcs[N]? = some fn) (hname : (fn.name == "runtime.NumGoroutine") = false) (hbody : fn.body.isSome = true)
  (R : Value -> World -> Prop) (hc : Calls P N vs w fun e w' => ∃ u, e = .returned u /\ R u w')
  (h : ∀ u w', R u w' -> K (a.put o.dst u) w') :
  if Region.wanted o (yielded ops a.tmps) = true then Oper.wp P o a w K Q else E := by
 rw [if_pos hw]
 unfold Oper.wp
 have hf : a.eval (.func N) = .func (.func N) #[] #[] := rfl
 have h1 : fn.name ≠ "runtime.NumGoroutine" := by simpa using hname
 have h2 : fn.body ≠ none := by intro h3; simp [h3] at hbody
 have h3 : (callFunc N vs).run P w = .ok (.enter N vs) w := by simp [callFunc, hfn, h1, h2]
 simp [execOp, ho, resolve, invoke, hx, hf, Deferred.ofValue, h3]
 refine hc.mono ?_
 rintro e w' ⟨u, rfl, hR⟩
 exact h u w' hR
theorem step_rows_want {w : World} {ops : Array Oper} {o : Oper} {a : Act} {K : Act -> World -> Prop} {Q : Exit -> Act -> World -> Prop} {E : Prop} (hw : Region.wanted o (yielded ops a.tmps) = true) (t e : TypeId) (len : Nat) (parts : Array (Nat × Operand)) (ho : o.op = .buildSlice t len parts)
  (z : Value) (size bytes : Nat) (ht : P.underlying t = some (.slice e)) (hinfo : (P.info? e).map (fun i => (i.zero, i.size, i.bytes)) = some (some z, size, bytes))
  (Ls : List (List Value)) (hl : (parts.map fun (i, x) => (i, a.eval x)).toList = rowsI 0 Ls) (hLs : ∀ L ∈ Ls, L.length = size) (hlen : Ls.length = len)
  (hsm : len * size <= 2 ^ 24) (hp : 0 < len * size) (hm : len <= maxLen)
  (h : ∀ w', w'.ownsRow w.heap.size e size (.slice (some ⟨w.heap.size, 0, none⟩) len len) len Ls.flatten -> RowKit.Below w.heap.size w w' -> K (a.put o.dst (.slice (some ⟨w.heap.size, 0, none⟩) len len)) w') :
  if Region.wanted o (yielded ops a.tmps) = true then Oper.wp P o a w K Q else E := by
 have h0 := kb_ (w := w) (ops := ops) (o := { o with guard := none }) (a := a) (K := K) (Q := Q) (E := E) rfl t e len parts ho z size bytes ht hinfo Ls hl hLs hlen hsm hp hm h
 rw [if_pos (by simp [Region.wanted])] at h0
 rw [if_pos hw]
 exact h0
end
structure RIn (pre : List CallR) (x : CallR) (n : Nat) (told : Int) : Prop where
 n : n = (bv_ pre x.ses).length
 told : told = ((bv_ pre x.ses).getLast?.map (·.told)).getD (-1)
 all : ∀ y ∈ pre, y.ses = x.ses -> 0 <= y.told
 pair : ∀ y ∈ pre, Pair x y
theorem RIn.nil (x : CallR) : RIn [] x 0 (-1) := ⟨rfl, rfl, fun y h => by simp at h, fun y h => by simp at h⟩
theorem RIn.snoc_eq {pre : List CallR} {x y : CallR} {n : Nat} {told : Int} (h : RIn pre x n told) (hs : y.ses = x.ses) (ht : 0 <= y.told) (hp : Pair x y) : RIn (pre ++ [y]) x (n + 1) y.told := by
 have e : bv_ (pre ++ [y]) x.ses = bv_ pre x.ses ++ [y] := by rw [dz_, if_pos hs]
 refine ⟨by rw [e, lA, h.n]; rfl, by rw [e]; simp, fun z hz hk => ?_, fun z hz => ?_⟩
 ·rcases List.mem_append.1 hz with h1 | h1
  ·exact h.all z h1 hk
  simp at h1; subst h1; exact ht
 rcases List.mem_append.1 hz with h1 | h1
 ·exact h.pair z h1
 simp at h1; subst h1; exact hp
theorem RIn.snoc_ne {pre : List CallR} {x y : CallR} {n : Nat} {told : Int} (h : RIn pre x n told) (hs : y.ses ≠ x.ses) (hp : Pair x y) : RIn (pre ++ [y]) x n told := by
 have e : bv_ (pre ++ [y]) x.ses = bv_ pre x.ses := by rw [dz_, if_neg hs]
 refine ⟨by rw [e, h.n], by rw [e]; exact h.told, fun z hz hk => ?_, fun z hz => ?_⟩
 ·rcases List.mem_append.1 hz with h1 | h1
  ·exact h.all z h1 hk
  simp at h1; subst h1; exact absurd hk hs
 rcases List.mem_append.1 hz with h1 | h1
 ·exact h.pair z h1
 simp at h1; subst h1; exact hp
theorem not_fit {l pre post : List CallR} {x : CallR} (e : l = pre ++ x :: post) (h : ¬ (Okc singleB pre x /\ ∀ y ∈ pre, Pair x y)) : ¬ ValidP singleB l := fun hv => h ⟨hv.2.1 pre x post e, hv.2.2 pre x post e⟩
structure OkA (pre : List CallR) (x : CallR) : Prop where
 one : singleB x = true
 ask : ∀ y, pre.getLast? = some y -> y.asked < x.asked
 fresh : ∀ j, j < 3 -> 0 <= aU_ x j -> ¬ Seen pre (aU_ x j)
theorem lA_ {x : CallR} (h : singleB x = true) : 0 <= x.asked := by
 have ho : rngB x = true := by
  cases e : rngB x
  ·rw [aL_ e] at h; cases h
  rfl
 simp only [rngB, Bool.and_eq_true, stepB_iff] at ho
 omega
theorem OkA.okc {pre : List CallR} {x : CallR} {n : Nat} {told : Int} (h : OkA pre x) (hr : RIn pre x n told) (h1 : x.num = n) (h2 : told < x.asked) : Okc singleB pre x := by
 refine ⟨h.one, h.ask, fun m hm h0 => ?_, by rw [h1, hr.n]; rfl, hr.all, fun y hy => ?_⟩
 ·rw [eJ_]
  simp at hm
  rcases hm with rfl | rfl | rfl
  ·exact h.fresh 0 (by omega) h0
  ·exact h.fresh 1 (by omega) h0
  exact h.fresh 2 (by omega) h0
 have h3 := hr.told
 have h4 : (bv_ pre x.ses).getLast? = some y := hy
 rw [h4] at h3
 simp at h3
 omega
theorem RIn.of_okc {pre : List CallR} {x : CallR} {n : Nat} {told : Int} (hr : RIn pre x n told) (h : Okc singleB pre x) : x.num = n /\ told < x.asked := by
 refine ⟨by rw [h.num, hr.n]; rfl, ?_⟩
 rw [hr.told]
 cases hl : (bv_ pre x.ses).getLast? with
 | none => have := lA_ h.one; simp; omega
 | some y => simpa using h.after y hl
theorem VlPost.no2 {L pre post : List (CallR × CallV)} {x : CallR × CallV} {w w' : World} {e : Ending} (he : e = .returned (.bool false)) (hL : L = pre ++ x :: post) (h : ¬ (Okc singleB (pre.map (·.1)) x.1 /\ ∀ y ∈ pre.map (·.1), Pair x.1 y)) (hb : Bw w w') : VlPost L w e w' :=
 ⟨false, he, ⟨fun h => by (cases h), fun hv => absurd hv (not_fit (by rw [hL, List.map_append, List.map_cons]) h)⟩, hb⟩
structure RInv (w0 : World) (sb : Nat) (pre : List (CallR × CallV)) (w : World) : Prop where
 seen : MapAt w sb (hF_ pre)
 below : Bw w0 w
 size : sb < w.heap.size
theorem pair_dec {x y : CallR} : Pair x y ↔ ¬ (0 <= x.done /\ 0 <= y.done /\ (y.done < x.done /\ x.tim < y.tim ∨ x.done < y.done /\ y.tim < x.tim)) := by
 unfold Pair
 constructor
 ·rintro h ⟨h1, h2, h3 | h3⟩
  ·have := (h h1 h2).1 h3.1; omega
  have := (h h1 h2).2 h3.1; omega
 intro h h1 h2
 refine ⟨fun h3 => ?_, fun h3 => ?_⟩
 ·by_cases h4 : x.tim < y.tim
  ·exact absurd ⟨h1, h2, .inl ⟨h3, h4⟩⟩ h
  omega
 by_cases h4 : y.tim < x.tim
 ·exact absurd ⟨h1, h2, .inr ⟨h3, h4⟩⟩ h
 omega
set_option maxRecDepth 100000
set_option maxHeartbeats 16000000
section
variable {P : Program}
theorem bR_ {w : World} {ops : Array Oper} {o : Oper} {a : Act} {K : Act -> World -> Prop} {Q : Exit -> Act -> World -> Prop} {E : Prop} (hw : Region.wanted o (yielded ops a.tmps) = true) (N : Nat) (xs : Array Operand) (ts : Array TypeId)
  (ho : o.op = .call { callee := .value (.func N), args := xs, argTypes := ts }) (vs : Array Value) (hx : xs.map a.eval = vs)
  (fn : Func) (hfn : P.funcs[N]? = some fn) (hname : (fn.name == "runtime.NumGoroutine") = false) (hbody : fn.body.isSome = true)
  (R : Value -> World -> Prop) (hc : Calls P N vs w fun e w' => ∃ u, e = .returned u /\ R u w')
  (h : ∀ u w', R u w' -> K (a.put o.dst u) w') :
  if Region.wanted o (yielded ops a.tmps) = true then Oper.wp P o a w K Q else E := by
 rw [if_pos hw]
 unfold Oper.wp
 have hf : a.eval (.func N) = .func (.func N) #[] #[] := rfl
 have h1 : fn.name ≠ "runtime.NumGoroutine" := by simpa using hname
 have h2 : fn.body ≠ none := by intro h3; simp [h3] at hbody
 have h3 : (callFunc N vs).run P w = .ok (.enter N vs) w := by simp [callFunc, hfn, h1, h2]
 simp [execOp, ho, resolve, invoke, hx, hf, Deferred.ofValue, h3]
 refine hc.mono ?_
 rintro e w' ⟨u, rfl, hR⟩
 exact h u w' hR
end
theorem lb_ : (Tryz.f174.name == "runtime.NumGoroutine") = false := by decide
theorem lc_ : Tryz.f174.body.isSome = true := rfl
theorem f69_name : (Tryz.f69.name == "runtime.NumGoroutine") = false := by decide
theorem f69_body : Tryz.f69.body.isSome = true := rfl
theorem k9_ : (Tryz.f176.name == "runtime.NumGoroutine") = false := by decide
theorem la_ : Tryz.f176.body.isSome = true := rfl
theorem cE_ {w w' : World} (h : Below w.drew.heap.size w.drew w') : Bw w w' := ⟨h.os, h.tape, h.output, h.size, h.block⟩
theorem fQ_ (a b : CmdR) : cl_ a b = cl_ b a := by
 rw [Bool.eq_iff_iff]
 simp only [cl_, Bool.and_eq_true, beq_iff_eq, decide_eq_true_eq]
 constructor
 all_goals
  rintro ⟨⟨⟨⟨⟨⟨⟨⟨⟨h1, h2⟩, h3⟩, h4⟩, h5⟩, h6⟩, h7⟩, h8⟩, h9⟩, h0⟩
  exact ⟨⟨⟨⟨⟨⟨⟨⟨⟨h1.symm, h2.symm⟩, h3.symm⟩, h4.symm⟩, h5.symm⟩, h6.symm⟩, h7.symm⟩, h8.symm⟩, h9.symm⟩, h0.symm⟩
def VPost (c : CmdR) (w : World) (e : Ending) (w' : World) : Prop := e = .returned (.bool (aJ_ c)) /\ Bw w w'
theorem hN_ (c : CmdR) (op : Int) (hop : c.op = op) (hno : ¬ (1 <= op /\ op <= 15)) (vk vv vt : Value) (w : World) (hok : CmdOk w w.heap.size c vk vv vt) :
  Calls Tryz.prog 110 #[.agg (cmdC c vk vv vt).toArray] w (VPost c w) := by
 obtain ⟨Ak, ck, Av, cv, At, ct, hvk, hvv, hvt⟩ := gn_ hok
 obtain ⟨nk, hnk⟩ := eY c.keys.length
 obtain ⟨nv, hnv⟩ := eY c.val.length
 obtain ⟨nt, hnt⟩ := eY c.tags.length
 rw [hnk] at hvk
 rw [hnv] at hvv
 rw [hnt] at hvt
 have hL : cmdC c vk vv vt = [.int .i64 op, .string c.key, .slice Ak nk ck, .slice Av nv cv, .slice At nt ct, .int .u64 c.life, .int .u64 c.ver, .string c.tag, .string c.pre, .string c.chi] := by subst hvk; subst hvv; subst hvt; rw [<- hop]; rfl
 have HV := kp (gs_ (c := c) (by rw [hop]; exact hno))
 rw [hL]
 have hB := below1 w (.cells [.int .i64 op, .string c.key, .slice Ak nk ck, .slice Av nv cv, .slice At nt ct, .int .u64 c.life, .int .u64 c.ver, .string c.tag, .string c.pre, .string c.chi].toArray 36)
 have HB := kp hB
 clear hok hvk hvv hvt hL hnk hnv hnt hop hB
 by_cases h1 : op < 1
 focus
  have g1 : decide (op < 1) = true := by simp; omega
 rotate_left 1
 focus
  have g1 : decide (op < 1) = false := by simp; omega
  have g2 : decide (15 < op) = true := by simp; omega
 rotate_left 1
 rotate_right 2
 iterate 2
  ·clear hno h1
   go_enter Tryz.func110, Tryz.ntmps110
   go_wp2_with fail
   go_quiet (fail)
   all_goals
    go_wp2_with fail
    go_ret
    exact rb HV.o (HB.o.trans ⟨rfl, rfl, rfl, lR _, fun _ _ => rfl⟩)
theorem ip_ {w : World} {b : Nat} {t : TypeId} {v0 v1 v2 v3 v4 v5 v6 v7 v8 v9 : Value} (h : RowL w b t [v0, v1, v2, v3, v4, v5, v6, v7, v8, v9]) :
  w.cell? ⟨b, 0, none⟩ = some v0 /\ w.cell? ⟨b, 1, none⟩ = some v1 /\ w.cell? ⟨b, 2, none⟩ = some v2 /\ w.cell? ⟨b, 3, none⟩ = some v3 /\ w.cell? ⟨b, 4, none⟩ = some v4 /\ w.cell? ⟨b, 5, none⟩ = some v5 /\ w.cell? ⟨b, 6, none⟩ = some v6 /\ w.cell? ⟨b, 7, none⟩ = some v7 /\ w.cell? ⟨b, 8, none⟩ = some v8 /\ w.cell? ⟨b, 9, none⟩ = some v9 :=
 ⟨h.cell (j := 0) rfl, h.cell (j := 1) rfl, h.cell (j := 2) rfl, h.cell (j := 3) rfl, h.cell (j := 4) rfl, h.cell (j := 5) rfl, h.cell (j := 6) rfl, h.cell (j := 7) rfl, h.cell (j := 8) rfl, h.cell (j := 9) rfl⟩
theorem alw_any (ch : Int) (hc : ch ∈ d4_) (c : CmdR) (vk vv vt : Value) (w : World) (h : AlwPre w c vk vv vt) : Calls Tryz.prog 176 #[.agg (cmdC c vk vv vt).toArray, .int .u8 ch] w (bL_ c ch w) := by
 simp only [d4_, List.mem_cons, List.not_mem_nil, or_false] at hc
 rcases hc with rfl | rfl | rfl | rfl | rfl | rfl | rfl | rfl | rfl
 ·exact alw_k c vk vv vt w h
 ·exact alw_v c vk vv vt w h
 ·exact alw_t c vk vv vt w h
 ·exact alw_l c vk vv vt w h
 ·exact alw_n c vk vv vt w h
 ·exact alw_m c vk vv vt w h
 ·exact alw_g c vk vv vt w h
 ·exact alw_p c vk vv vt w h
 exact alw_c c vk vv vt w h
theorem hu_ {l : List Int} {k : Nat} (h : k < l.length) {f : Int -> Bool} (hf : f (l.getD k 0) = false) : l.all f = false := by
 rw [Bool.eq_false_iff]
 intro h2
 have h3 := List.all_eq_true.1 h2 (l.getD k 0) (by rw [List.getD_eq_getElem?_getD, gE h]; exact List.getElem_mem h)
 rw [hf] at h3
 cases h3
theorem gG_ (c : CmdR) (op : Int) (s : ByteArray) (l : List Int) (hsp : SpellsC s l) (HN : Hid (∀ W, Calls Tryz.prog 175 #[.int .i64 op] W fun e w' => e = .returned (.string s) /\ w' = W)) (hop : c.op = op) (hin : 1 <= op /\ op <= 15) (hs : CmdS c) (hoc : okC c = l.all (alw c)) (vk vv vt : Value) (w : World) (hok : CmdOk w w.heap.size c vk vv vt) :
  Calls Tryz.prog 110 #[.agg (cmdC c vk vv vt).toArray] w (VPost c w) := by
 obtain ⟨Ak, ck, Av, cv, At, ct, hvk, hvv, hvt⟩ := gn_ hok
 obtain ⟨nk, hnk⟩ := eY c.keys.length
 obtain ⟨nv, hnv⟩ := eY c.val.length
 obtain ⟨nt, hnt⟩ := eY c.tags.length
 rw [hnk] at hvk
 rw [hnv] at hvv
 rw [hnt] at hvt
 have hL : cmdC c vk vv vt = [.int .i64 op, .string c.key, .slice Ak nk ck, .slice Av nv cv, .slice At nt ct, .int .u64 c.life, .int .u64 c.ver, .string c.tag, .string c.pre, .string c.chi] := by subst hvk; subst hvv; subst hvt; rw [<- hop]; rfl
 obtain ⟨n, hn⟩ := eY l.length
 have hsz : s.size = n := hsp.size.trans hn
 have hn100 : n <= 100 := by rw [<- hn]; exact hsp.few
 have hB := below1 w (.cells [.int .i64 op, .string c.key, .slice Ak nk ck, .slice Av nv cv, .slice At nt ct, .int .u64 c.life, .int .u64 c.ver, .string c.tag, .string c.pre, .string c.chi].toArray 36)
 have hr := RowL.new w 36 [.int .i64 op, .string c.key, .slice Ak nk ck, .slice Av nv cv, .slice At nt ct, .int .u64 c.life, .int .u64 c.ver, .string c.tag, .string c.pre, .string c.chi]
 obtain ⟨W1, hW1⟩ := eX (w.alloc (.cells [.int .i64 op, .string c.key, .slice Ak nk ck, .slice Av nv cv, .slice At nt ct, .int .u64 c.life, .int .u64 c.ver, .string c.tag, .string c.pre, .string c.chi].toArray 36))
 rw [<- hW1] at hB hr
 have hok1 := (hok.below hB (lR _)).mono hB.size
 obtain ⟨HO, HA, HQ, HR, HB, Al, HS, Am, HV, Ag, Ai, Ae⟩ := kq12 (only174 c (by rw [hop]; exact hin) vk vv vt W1.drew hok1) (fun (ch : Int) (W : World) (F : Calls Tryz.prog 176 #[.agg (cmdC c vk vv vt).toArray, .int .u8 ch] W (bL_ c ch W)) => show Calls Tryz.prog 176 #[.agg #[.int .i64 op, .string c.key, .slice Ak nk ck, .slice Av nv cv, .slice At nt ct, .int .u64 c.life, .int .u64 c.ver, .string c.tag, .string c.pre, .string c.chi], .int .u8 ch] W (bL_ c ch W) by rw [hL] at F; exact F) (fun (vk' vv' vt' : Value) (W : World) (h1 : CmdOk W W.heap.size c vk vv vt) (h2 : CmdOk W W.heap.size (az_ c) vk' vv' vt') => show Calls Tryz.prog 69 #[.agg #[.int .i64 op, .string c.key, .slice Ak nk ck, .slice Av nv cv, .slice At nt ct, .int .u64 c.life, .int .u64 c.ver, .string c.tag, .string c.pre, .string c.chi], .agg (cmdC (az_ c) vk' vv' vt').toArray] W (fun e w' => e = .returned (.bool (cl_ c (az_ c))) /\ Bw W w') by have := cmd44 c (az_ c) vk vv vt vk' vv' vt' W h1 h2; rw [hL] at this; exact this) hr hB hok hs hoc (fun h => gt_ (c := c) (by rw [hop]; exact hin) h) (fun h => fh_ (c := c) h) hsp hn
 have g1 : decide (op < 1) = false := eF (by omega)
 have g2 : decide (15 < op) = false := eF (by omega)
 rw [hL] at HO ⊢
 clear hok hok1 hs hL hoc hop hB hr hvk hvv hvt hnk hnv hnt hsp hn hin
 go_enter Tryz.func110, Tryz.ntmps110
 go_wp2_with fail
 rw [<- hW1]
 clear hW1
 obtain ⟨d0, d1, d2, d3, d4, d5, d6, d7, d8, d9⟩ := ip_ HR.o.drew
 go_region_law (first
  | ((with_reducible refine bR_ (o := ⟨some 16, _, _, _, _, _⟩) ?_ 174 _ _ rfl #[.agg #[.int .i64 op, .string c.key, .slice Ak nk ck, .slice Av nv cv, .slice At nt ct, .int .u64 c.life, .int .u64 c.ver, .string c.tag, .string c.pre, .string c.chi]] ?_ Tryz.f174 Tryz.func174 lb_ lc_ (fun u w6 => ∃ vk' vv' vt', u = .agg (cmdC (az_ c) vk' vv' vt').toArray /\ CmdOk w6 w6.heap.size (az_ c) vk' vv' vt' /\ Below W1.drew.heap.size W1.drew w6) ?_ ?_); (· rfl); (· simp only [y1, y2, y3]; rfl); (· exact HO.o.mono fun e w' ⟨a, b, c, h1, h2, h3⟩ => ⟨_, h1, a, b, c, rfl, h2, h3⟩); rintro u6 w6 ⟨vk6, vv6, vt6, rfl, hok6, hb6⟩; have Af := kp hok6; have Aa := kp hb6; have As := kp (HR.o.of_block (w := W1.drew) (hb6.block _ HR.o.lt)); clear hok6 hb6; obtain ⟨p0, p1, p2, p3, p4, p5, p6, p7, p8, p9⟩ := ip_ As.o; skip)
  | ((with_reducible refine bR_ (o := ⟨some 17, _, _, _, _, _⟩) ?_ 69 _ _ rfl #[.agg #[.int .i64 op, .string c.key, .slice Ak nk ck, .slice Av nv cv, .slice At nt ct, .int .u64 c.life, .int .u64 c.ver, .string c.tag, .string c.pre, .string c.chi], .agg (cmdC (az_ c) vk6 vv6 vt6).toArray] ?_ Tryz.f69 Tryz.func69 f69_name f69_body (fun u w7 => u = .bool (cl_ c (az_ c)) /\ Bw w6 w7) ?_ ?_); (· rfl); (· simp only [y1, y2, y3]; rfl); (· exact (HQ.o vk6 vv6 vt6 w6 (((Al.o.below HB.o (lR _)).mono HB.o.size |>.below (w := W1.drew) Aa.o (lR _)).mono Aa.o.size) Af.o).mono fun e w' ⟨h1, h2⟩ => ⟨_, h1, rfl, h2⟩); rintro u7 w7 ⟨rfl, hb7⟩; have Ap := kp (Aa.o.trans (hb7.mono Aa.o.size)); clear hb7))
 all_goals
  have An : Hid (Bw w w7) := kp (HB.o.trans ((cE_ Ap.o).mono HB.o.size))
  have Aj := kp (HR.o.of_block (w := W1.drew) (Ap.o.block _ HR.o.lt))
  clear d0 d1 d2 d3 d4 d5 d6 d7 d8 d9
  cases hq : cl_ c (az_ c)
  ·have hv : aJ_ c = false := by
    cases hk : okC c
    ·exact Ag.o hk
    rw [HV.o hk, fQ_, hq]
   have Ab := kp hv
   clear hv
   go_wp2_with fail
   go_ret
   exact rb Ab.o An.o
  have Ar := kp (show okC c = true -> aJ_ c = true from fun h => by rw [HV.o h, fQ_, hq])
  have e0 : w7.cell? ⟨w.heap.size, 0, none⟩ = some (.int .i64 op) := Aj.o.cell rfl
  go_wp2_with fail
  refine (HN.o w7).mono ?_
  rintro e w8 ⟨rfl, rfl⟩
  obtain ⟨w7, rfl⟩ := eX w8
  go_wp2_with fail
  go_loopw [4] (fun j wr => ∃ k : Nat, k <= n /\ j = .int .i64 k /\ Hid ((l.take k).all (alw c) = true) /\ RowL wr w.heap.size 36 [.int .i64 op, .string c.key, .slice Ak nk ck, .slice Av nv cv, .slice At nt ct, .int .u64 c.life, .int .u64 c.ver, .string c.tag, .string c.pre, .string c.chi] /\ Bw w wr) (fun j _ => n - (intOf j).toNat)
  case atStart => exact ⟨0, Nat.zero_le _, by go_num, kp rfl, Aj.o, An.o⟩
  obtain ⟨k, hk, rfl, HP, hrw, hbw⟩ := hrel
  obtain ⟨HX, Ac⟩ := kq2 hrw hbw
  clear hrw hbw e0
  by_cases hlt : k < n
  ·have hg : decide ((k : Int) < (n : Int)) = true := eT_ (by omega)
   have hi : 0 <= (k : Int) /\ (k : Int) < (s.size : Int) := by omega
   have hks : k < s.size := by omega
   have hch := Ai.o.all k hks
   have hlet := Ai.o.letters k (by rw [Ae.o]; exact hlt)
   obtain ⟨Ah, Ad⟩ := kq2 (fi_ l (k := k) (by rw [Ae.o]; exact hlt)) (fun (h : alw c (l.getD k 0) = false) => Am.o.trans (hu_ (by rw [Ae.o]; exact hlt) h))
   obtain ⟨ch, hce⟩ := eY (l.getD k 0)
   rw [hce] at hch hlet Ah Ad
   clear hce
   have hidx : ∀ W, (Instr.index 9 (.string s) (.int .i64 (k : Int))).run Tryz.prog W = .ok (.int .u8 ch) W := fun W => by
    rw [run_index_string _ _ _ _ _ Tryz.underlying9, dif_pos hi, <- hch]
    simp
   have hok' := (Al.o.below Ac.o (lR _)).mono Ac.o.size
   have HC := kp (HA.o ch wr.drew (alw_any ch hlet c vk vv vt wr.drew ⟨hok', HS.o⟩))
   clear hok' hi hch hks hlet
   obtain ⟨d0, d1, d2, d3, d4, d5, d6, d7, d8, d9⟩ := ip_ HX.o.drew
   go_wp2_with fail
   go_region_law ((with_reducible refine bR_ (o := ⟨some 33, _, _, _, _, _⟩) ?_ 176 _ _ rfl #[.agg #[.int .i64 op, .string c.key, .slice Ak nk ck, .slice Av nv cv, .slice At nt ct, .int .u64 c.life, .int .u64 c.ver, .string c.tag, .string c.pre, .string c.chi], .int .u8 ch] ?_ Tryz.f176 Tryz.func176 k9_ la_ (fun u w6 => u = .bool (alw c ch) /\ Below wr.drew.heap.size wr.drew w6) ?_ ?_); (· rfl); (· simp only [y1, y2, y3]; rfl); (· exact HC.o.mono fun e w' ⟨h1, h2⟩ => ⟨_, h1, rfl, h2⟩); rintro u6 w6 ⟨rfl, hb6⟩; have Aa := kp hb6; clear hb6)
   all_goals
    have Aq := kp (HX.o.of_block (w := wr.drew) (Aa.o.block _ HX.o.lt))
    have Ao : Hid (Bw w w6) := kp (Ac.o.trans ((cE_ Aa.o).mono Ac.o.size))
    clear d0 d1 d2 d3 d4 d5 d6 d7 d8 d9
    cases ha : alw c ch
    ·have Ab := kp (Ag.o (Ad.o ha))
     go_wp2_with fail
     go_ret
     exact rb Ab.o Ao.o
    have Au := kp (show (l.take (k + 1)).all (alw c) = true by rw [Ah.o, List.all_append, HP.o]; simp [ha])
    go_wp2_with fail
    go_roundw
    case rel => exact ⟨k + 1, by omega, by go_num, Au, Aq.o, Ao.o⟩
    simp [intOf]; omega
  obtain rfl : k = n := by omega
  have hg : decide ((k : Int) < (k : Int)) = false := by simp
  have hlt2 : l.take k = l := by rw [<- Ae.o]; exact List.take_length
  have Ab := kp (Ar.o (by rw [Am.o, <- hlt2]; exact HP.o))
  clear hlt2
  go_wp2_with fail
  go_ret
  exact rb Ab.o Ac.o
theorem cg_ (c : CmdR) (hs : CmdS c) (vk vv vt : Value) (w : World) (hok : CmdOk w w.heap.size c vk vv vt) :
  Calls Tryz.prog 110 #[.agg (cmdC c vk vv vt).toArray] w (VPost c w) := by
 by_cases hr : 1 <= c.op /\ c.op <= 15
 ·have key : ∀ (s : ByteArray) (l : List Int), SpellsC s l -> Hid (∀ W, Calls Tryz.prog 175 #[.int .i64 c.op] W fun e w' => e = .returned (.string s) /\ w' = W) -> okC c = l.all (alw c) -> Calls Tryz.prog 110 #[.agg (cmdC c vk vv vt).toArray] w (VPost c w) := fun s l h1 h2 h3 => gG_ c c.op s l h1 h2 rfl hr hs h3 vk vv vt w hok
  rcases (by omega : (c.op = 1 ∨ c.op = 2) ∨ c.op = 3 ∨ (c.op = 4 ∨ c.op = 7 ∨ c.op = 13) ∨ c.op = 5 ∨ c.op = 6 ∨ (c.op = 8 ∨ c.op = 9) ∨ c.op = 10 ∨ (c.op = 11 ∨ c.op = 12) ∨ (c.op = 14 ∨ c.op = 15)) with ho | ho | ho | ho | ho | ho | ho | ho | ho
  ·exact key _ _ fm_ (kp fun W => gW_ c.op ho W) (by rcases ho with h | h <;> simp [okC, alw, okG, inR, h, Bool.and_assoc])
  ·exact key _ _ fq_ (kp fun W => g0_ c.op ho W) (by have h := ho; simp [okC, alw, okG, inR, h, Bool.and_assoc])
  ·exact key _ _ fo_ (kp fun W => gY_ c.op ho W) (by rcases ho with h | h | h <;> simp [okC, alw, okG, inR, h, Bool.and_assoc])
  ·exact key _ _ eg_ (kp fun W => fD_ c.op ho W) (by have h := ho; simp [okC, alw, okG, inR, h, Bool.and_assoc])
  ·exact key _ _ dH_ (kp fun W => ev_ c.op ho W) (by have h := ho; simp [okC, alw, okG, inR, h, Bool.and_assoc])
  ·exact key _ _ fl_ (kp fun W => gV_ c.op ho W) (by rcases ho with h | h <;> simp [okC, alw, okG, inR, h, Bool.and_assoc])
  ·exact key _ _ fn_ (kp fun W => gX_ c.op ho W) (by have h := ho; simp [okC, alw, okG, inR, h, Bool.and_assoc])
  ·exact key _ _ fp_ (kp fun W => gZ_ c.op ho W) (by rcases ho with h | h <;> simp [okC, alw, okG, inR, h, Bool.and_assoc])
  exact key _ _ ef_ (kp fun W => fC_ c.op ho W) (by rcases ho with h | h <;> simp [okC, alw, okG, inR, h, Bool.and_assoc])
 exact hN_ c _ rfl hr vk vv vt w hok
end Go.Proofs.YtnjhpgmbfblgaaaGreat.Ord
