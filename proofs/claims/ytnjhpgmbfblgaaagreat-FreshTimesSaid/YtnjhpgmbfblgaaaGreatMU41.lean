/- DERIVED: THE SHELF's CONTRACTS AT THIS DUMP, IN PLAIN WORDS (tools/lay-plain.mjs out of. -/
import Derived.Shelf.SortM.Plain
import Derived.Shelf.SortM.SortNone
import Derived.Shelf.SlGeneric
import Derived.Test.YtnjhpgmbfblgaaaGreatProg
import Derived.Test.YtnjhpgmbfblgaaaGreatMU30
import Derived.Test.YtnjhpgmbfblgaaaGreatMU20
import Derived.Test.YtnjhpgmbfblgaaaGreatMU12
import Derived.Lib.SliceRun
import Derived.Test.YtnjhpgmbfblgaaaGreatMU37
set_option linter.unusedVariables false
set_option linter.unusedSimpArgs false
namespace Go.Proofs
open Go.Shelf
def Tryz.sort194_ren : Go.Shelf.Ren := ⟨fun | 6 => 194 | 8 => 115 | 9 => 252 | 19 => 187 | 20 => 188 | 21 => 318 | 22 => 319 | 23 => 320 | 24 => 321 | 25 => 322 | 26 => 323 | 27 => 324 | 28 => 325 | 29 => 326 | 36 => 371 | 31 => 239 | 32 => 240 | 37 => 372 | 38 => 373 | 39 => 374 | 41 => 394 | n => n, fun | 27 => 32 | 29 => 9 | 3 => 3 | 32 => 206 | 26 => 32 | 0 => 0 | 44 => 283 | 46 => 33 | 4 => 4 | 36 => 276 | 35 => 275 | 41 => 280 | 5 => 5 | 9 => 9 | 53 => 342 | 57 => 346 | 63 => 403 | 64 => 90 | n => n, fun | n => n⟩
theorem Tryz.sort194 : Go.Proofs.SlLaysM.n6 Tryz.prog Tryz.sort194_ren := {
 mixed := by kernel_rfl
 f6 := ⟨Tryz.f194.name, by decide, Tryz.func194.trans (congrArg some (by kernel_rfl))⟩
 f8 := Tryz.func115.trans (congrArg some (by kernel_rfl))
 f9 := ⟨Tryz.f252.name, by decide, Tryz.func252.trans (congrArg some (by kernel_rfl))⟩
 f19 := Tryz.func187.trans (congrArg some (by kernel_rfl))
 f20 := Tryz.func188.trans (congrArg some (by kernel_rfl))
 f21 := ⟨Tryz.f318.name, by decide, Tryz.func318.trans (congrArg some (by kernel_rfl))⟩
 f22 := ⟨Tryz.f319.name, by decide, Tryz.func319.trans (congrArg some (by kernel_rfl))⟩
 f23 := ⟨Tryz.f320.name, by decide, Tryz.func320.trans (congrArg some (by kernel_rfl))⟩
 f24 := ⟨Tryz.f321.name, by decide, Tryz.func321.trans (congrArg some (by kernel_rfl))⟩
 f25 := ⟨Tryz.f322.name, by decide, Tryz.func322.trans (congrArg some (by kernel_rfl))⟩
 f26 := ⟨Tryz.f323.name, by decide, Tryz.func323.trans (congrArg some (by kernel_rfl))⟩
 f27 := ⟨Tryz.f324.name, by decide, Tryz.func324.trans (congrArg some (by kernel_rfl))⟩
 f28 := ⟨Tryz.f325.name, by decide, Tryz.func325.trans (congrArg some (by kernel_rfl))⟩
 f29 := ⟨Tryz.f326.name, by decide, Tryz.func326.trans (congrArg some (by kernel_rfl))⟩
 f31 := Tryz.func239.trans (congrArg some (by kernel_rfl))
 f32 := Tryz.func240.trans (congrArg some (by kernel_rfl))
 f36 := ⟨Tryz.f371.name, by decide, Tryz.func371.trans (congrArg some (by kernel_rfl))⟩
 f37 := ⟨Tryz.f372.name, by decide, Tryz.func372.trans (congrArg some (by kernel_rfl))⟩
 f38 := ⟨Tryz.f373.name, by decide, Tryz.func373.trans (congrArg some (by kernel_rfl))⟩
 f39 := ⟨Tryz.f374.name, by decide, Tryz.func374.trans (congrArg some (by kernel_rfl))⟩
 f41 := ⟨Tryz.f394.name, by decide, Tryz.func394.trans (congrArg some (by kernel_rfl))⟩
 t0 := Tryz.underlying0
 a0 := Tryz.isAgg0
 z0 := Tryz.sizeOf0
 v0 := Tryz.zeroValue0
 t3 := Tryz.underlying3
 a3 := Tryz.isAgg3
 z3 := Tryz.sizeOf3
 v3 := Tryz.zeroValue3
 t4 := Tryz.underlying4
 a4 := Tryz.isAgg4
 z4 := Tryz.sizeOf4
 v4 := Tryz.zeroValue4
 t5 := Tryz.underlying5
 a5 := Tryz.isAgg5
 z5 := Tryz.sizeOf5
 v5 := Tryz.zeroValue5
 t9 := Tryz.underlying9
 a9 := Tryz.isAgg9
 z9 := Tryz.sizeOf9
 v9 := Tryz.zeroValue9
 t26 := Tryz.underlying32
 a26 := Tryz.isAgg32
 z26 := Tryz.sizeOf32
 v26 := Tryz.zeroValue32
 t27 := Tryz.underlying32
 a27 := Tryz.isAgg32
 z27 := Tryz.sizeOf32
 v27 := Tryz.zeroValue32
 t29 := Tryz.underlying9
 a29 := Tryz.isAgg9
 z29 := Tryz.sizeOf9
 v29 := Tryz.zeroValue9
 t32 := Tryz.underlying206
 a32 := Tryz.isAgg206
 z32 := Tryz.sizeOf206
 v32 := Tryz.zeroValue206
 t35 := Tryz.underlying275
 a35 := Tryz.isAgg275
 z35 := Tryz.sizeOf275
 v35 := Tryz.zeroValue275
 t36 := Tryz.underlying276
 a36 := Tryz.isAgg276
 z36 := Tryz.sizeOf276
 v36 := Tryz.zeroValue276
 t41 := Tryz.underlying280
 a41 := Tryz.isAgg280
 z41 := Tryz.sizeOf280
 v41 := Tryz.zeroValue280
 t44 := Tryz.underlying283
 a44 := Tryz.isAgg283
 z44 := Tryz.sizeOf283
 v44 := Tryz.zeroValue283
 t46 := Tryz.underlying33
 a46 := Tryz.isAgg33
 z46 := Tryz.sizeOf33
 v46 := Tryz.zeroValue33
 t53 := Tryz.underlying342
 a53 := Tryz.isAgg342
 z53 := Tryz.sizeOf342
 v53 := Tryz.zeroValue342
 t57 := Tryz.underlying346
 a57 := Tryz.isAgg346
 z57 := Tryz.sizeOf346
 v57 := Tryz.zeroValue346
 t63 := Tryz.underlying403
 a63 := Tryz.isAgg403
 z63 := Tryz.sizeOf403
 v63 := Tryz.zeroValue403
 t64 := Tryz.underlying90
 a64 := Tryz.isAgg90
 z64 := Tryz.sizeOf90
 v64 := Tryz.zeroValue90 }
end Go.Proofs
namespace Go.Proofs.YtnjhpgmbfblgaaaGreat.Ord
open Go.RowKit
set_option maxRecDepth 100000
set_option maxHeartbeats 4000000
theorem ci_ {α : Type} [DecidableEq α] : ∀ (K T : List α), K.Nodup -> (∀ k ∈ K, k ∈ T) -> K.length <= T.length
 | [], T, _, _ => Nat.zero_le _
 | k :: K, T, h, hs => by
  have hk := hs k (by simp)
  have h2 := List.nodup_cons.1 h
  have := ci_ K (T.erase k) h2.2 fun q hq => (List.mem_erase_of_ne (show q ≠ k from fun e => h2.1 (by rw [<- e]; exact hq))).2 (hs q (by simp [hq]))
  rw [List.length_erase_of_mem hk] at this
  have hl := List.length_pos_of_mem hk
  simp
  omega
def kT_ (l : List MapEntry) : List ByteArray := l.map fun e => match e.key with
 | .string k => k
 | _ => ⟨#[]⟩
theorem h8_ {l : List MapEntry} (h : lD_ l) : (kT_ l).Nodup := by
 unfold kT_ List.Nodup
 rw [List.pairwise_map]
 refine h.2.imp_of_mem fun {a b} ha hb hne => ?_
 obtain ⟨k, hk⟩ := h.1 a ha
 obtain ⟨q, hq⟩ := h.1 b hb
 rw [hk, hq]
 intro e
 exact hne (by rw [hk, hq]; exact congrArg Value.string e)
theorem MapS.run_len {P : Program} {w : World} {b : Nat} {f : ByteArray -> Option Value} (h : MapS w b f) {T : TypeId} {K E : TypeId} (hT : P.underlying T = some (.map K E)) (L : List ByteArray) (hL : ∀ k v, f k = some v -> k ∈ L) :
  ∃ n : Nat, n <= L.length /\ ∀ ty, (Builtin.len_ #[T] ty #[.map (some b)]).run P w = .ok (.int .i64 n) w := by
 obtain ⟨es, c, hb, hk, hf⟩ := h
 refine ⟨es.size, ?_, fun ty => ?_⟩
 ·have h1 := ci_ (kT_ es.toList) L (h8_ hk.1) fun k hm => by
   unfold kT_ at hm
   obtain ⟨e, he, hek⟩ := List.mem_map.1 hm
   obtain ⟨q, hq⟩ := hk.1.1 e he
   rw [hq] at hek
   subst hek
   exact hL q e.val (by rw [<- hf q]; exact kP_ hk.1 he hq)
  simpa [kT_] using h1
 simp [Builtin.len_, run_underlying hT, Go.MapKept.run_getObj_map hb, goInt, Result.andThen]
section
open Go.Sort Go.Shelf
theorem hg_ {α : Type} [Inhabited α] {enc : α -> Value} {w : World} {g n : Nat} {os : Array Obj} {cur : Array Value} {e : TypeId} {fr : Nat × Nat} (d : Array α) (hb : w.heap[g]? = some (.cells cur e fr)) :
  (grow (putRow enc (Sort.ahead w n) g 0 d) os).heap[g]? = some (.cells (putCells enc 0 d cur) e fr) := by
 have hg : g < w.heap.size := (Array.getElem?_eq_some_iff.1 hb).1
 rw [heap_grow_old _ _ (by simpa using hg)]
 simp [putRow, mapBlock, Sort.ahead, Array.getElem?_modify, hb, onCells]
theorem eH_ {α : Type} [Inhabited α] {enc : α -> Value} {w : World} {g n : Nat} {os : Array Obj} (d : Array α) : w.grownBy (grow (putRow enc (Sort.ahead w n) g 0 d) os) (some g) := by
 refine ⟨rfl, rfl, rfl, by simp, fun k hk hne => ?_⟩
 rw [heap_grow_old _ _ (by simpa using hk)]
 have : g ≠ k := fun e => hne (by rw [e])
 simp [putRow, mapBlock, Sort.ahead, Array.getElem?_modify, this]
theorem e5_ {α : Type} [Inhabited α] {enc : α -> Value} (cur : Array Value) (ts : List α) (h : ts.length <= cur.size) : (putCells enc 0 ts.toArray cur).toList.take ts.length = ts.map enc := by
 apply List.ext_getElem?
 intro j
 by_cases hj : j < ts.length
 ·rw [List.getElem?_take_of_lt hj, Array.getElem?_toList]
  simp [putCells, hj, show j < cur.size by omega]
 rw [List.getElem?_take_eq_none (by omega), List.getElem?_eq_none (by simp; omega)]
theorem kd_ (A : Option Addr) (n c base : Nat) (us : List ByteArray) (w : World) (hn : us.length = n) (hl : n <= 5000) (ho : w.ownsRow base 9 1 (.slice A n c) n (us.map Value.string)) :
  Calls Tryz.prog 194 #[.slice A n c] w fun e w' => e = .returned (.tuple #[]) /\ ∃ us' : List ByteArray, (∀ t, t ∈ us' ↔ t ∈ us) /\ us'.length = n /\ w'.ownsRow base 9 1 (.slice A n c) n (us'.map Value.string) /\ w.grownBy w' (Value.slice A n c).ownBlock := by
 by_cases h0 : n = 0
 ·subst h0
  refine (AnyM.slices_Sort_string_none Tryz.sort194 A c w).mono ?_
  rintro e w' ⟨rfl, rfl⟩
  exact ⟨rfl, us, fun t => Iff.rfl, hn, ho, ⟨rfl, rfl, rfl, lR _, fun _ _ _ => rfl⟩⟩
 obtain ⟨g, cap, cur, hv, hb, hg, h1, h2, h3, h4⟩ := ho.2.resolve_left (fun h => h0 h.2)
 cases hv
 obtain ⟨ss, hss⟩ : ∃ ss : List (List UInt8), us.map (fun u => u.data.toList) = ss := ⟨_, rfl⟩
 have hsl : ss.length = n := by rw [<- hss, lM_, hn]
 have hback : ∀ l : List (List UInt8), (l.map fun x => (⟨x.toArray⟩ : ByteArray)).map Value.string = l.map encStr := fun l => by rw [List.map_map]; rfl
 have hus : us = ss.map fun x => (⟨x.toArray⟩ : ByteArray) := by
  rw [<- hss, List.map_map]
  conv => lhs; rw [<- List.map_id us]
  apply List.map_congr_left
  intro a _
  simp
 have hH : Holds encStr w g 0 ss.toArray := fun j hj => by
  have hj' : j < ss.length := by simpa using hj
  refine ⟨?_, ho.frozenAt _⟩
  rw [ho.cellAt (0 + j) (by omega), hus, hback, gM, Nat.zero_add, gE hj', getElem!_pos ss.toArray j hj]
  simp
 have hgl := (Array.getElem?_eq_some_iff.1 hg).1
 have hcon := AnyM.slices_Sort_string Tryz.sort194 g 0 c ss w hH hgl (by omega)
 rw [hsl] at hcon
 refine Calls.mono (show Calls Tryz.prog 194 #[.slice (some ⟨g, 0, none⟩) n c] w _ from hcon) ?_
 rintro e w' ⟨rfl, q, os, rfl⟩
 obtain ⟨ts, hts⟩ := eY (ss.mergeSort fun x y => decide (x <= y))
 have hp : ts.Perm ss := by rw [<- hts]; exact List.mergeSort_perm _ _
 rw [hts]
 refine ⟨rfl, ts.map fun x => (⟨x.toArray⟩ : ByteArray), fun t => ?_, by rw [lM_, hp.length_eq, hsl], ⟨by rw [lM_, lM_, hp.length_eq, hsl]; omega, .inr ⟨g, c, _, rfl, hb, hg_ ts.toArray hg, h1, h2, by simpa [putCells] using h3, ?_⟩⟩, eH_ ts.toArray⟩
 ·rw [hus]
  exact (hp.map _).mem_iff
 have := e5_ (enc := encStr) cur ts (by rw [hp.length_eq, hsl, h3]; omega)
 rw [hp.length_eq, hsl] at this
 rw [Nat.mul_one, this, hback]
end
theorem tags132 (A : Option Addr) (n c B : Nat) (ts : List ByteArray) (w : World) (hn : ts.length = n) (hl : n <= 16) (hok : ∀ t ∈ ts, a7_ t = true) (hB : B <= w.heap.size) (hA : ElV Value.string w B A ts) :
  Calls Tryz.prog 132 #[.slice A n c] w fun e w' => ∃ (v : Value) (us : List ByteArray), e = .returned (.tuple #[v, .int .i64 0]) /\ w'.ownsRow w.heap.size 9 1 v us.length (us.map Value.string) /\ us.length <= 16 /\ (∀ t, t ∈ us ↔ t ∈ ts) /\ Below w.heap.size w w' := by
 have hn' : n <= 9223372036854775807 := by omega
 obtain ⟨HN, HA, As, HB⟩ := kq4 hn hA hok hB
 clear hA hn hok hB
 have hmm := @run_makeMap Tryz.prog
 have hm0 := MapS.new w
 have Az := kp hm0
 clear hm0
 go_enter Tryz.func132, Tryz.ntmps132
 go_wp2_with fail
 go_loopw [12] (fun s12 wr => ∃ i : Nat, i <= n /\ s12 = .int .i64 i /\ Hid (MapS wr w.heap.size fun k => if hasS (ts.take i) k = true then some (.agg #[]) else none) /\ Hid (Below w.heap.size w wr)) (fun j _ => n - (intOf j).toNat)
 case atStart => exact ⟨0, Nat.zero_le _, by go_num, kp (Az.o.congr fun k => by simp [hasS]), kp (below1 w _)⟩
 obtain ⟨i, hi, rfl, HM, HW⟩ := hrel
 by_cases hlt : i < n
 ·obtain ⟨t, ht⟩ : ∃ t, ts[i]? = some t := ⟨ts[i]'(by rw [HN.o]; exact hlt), gE _⟩
  obtain ⟨b, o, rfl, hbB, c1⟩ := HA.o.below HW.o HB.o i t ht
  have hg : decide ((i : Int) < (n : Int)) = true := eT_ (by omega)
  have hi1 : (i : Int) < (n : Int) := by omega
  obtain ⟨H193, HT⟩ := kq2 (show Calls Tryz.prog 193 #[.string t] wr fun e w' => e = .returned (.bool true) /\ Below wr.heap.size wr w' from (As.o t (mG ht)) ▸ gA_ t wr) ht
  clear ht
  go_wp2_with fail
  refine H193.o.mono ?_
  rintro e w5 ⟨rfl, hb5⟩
  have hm5 := HM.o.of_block (hb5.block _ HM.o.lt)
  obtain ⟨Ay, Ae⟩ := kq2 hm5 (HW.o.trans (hb5.mono HW.o.size))
  clear hb5 hm5 H193
  go_wp2_with ((with_reducible refine b0_ (o := ⟨none, _, _, _, _, _⟩) rfl 288 9 289 _ _ _ rfl w.heap.size t (.agg #[]) ?_ ?_ ?_ _ Ay.o Tryz.underlying288 Tryz.underlying9 ?_); (· rfl); (· rfl); (· rfl); intro w6 hk6 hm6)
  have Ax := kp (hm6.congr (g := fun k => if hasS (ts.take (i + 1)) k = true then some (.agg #[]) else none) fun k => by
   have e2 : (hasS (ts.take (i + 1)) k = true) ↔ (k = t ∨ hasS (ts.take i) k = true) := by
    rw [hasS_iff, hasS_iff, tA, HT.o]
    simp [or_comm]
   by_cases e : k = t
   ·rw [if_pos e, if_pos (e2.2 (.inl e))]
   rw [if_neg e]
   by_cases h : hasS (ts.take i) k = true
   ·rw [if_pos h, if_pos (e2.2 (.inr h))]
   rw [if_neg h, if_neg (fun h2 => (e2.1 h2).elim e h)])
  have Ah := kp (Ae.o.trans (hk6.below Ae.o.size fun b hb => by simp at hb; omega))
  clear hk6 hm6
  go_wp2_with fail
  go_roundw
  case rel => exact ⟨i + 1, by omega, by go_num, Ax, Ah⟩
  simp [intOf]; omega
 obtain rfl : i = n := by omega
 have hg : decide ((i : Int) < (i : Int)) = false := by simp
 have Ab := kp (HM.o.congr (g := fun k => if hasS ts k = true then some (.agg #[]) else none) fun k => by rw [<- HN.o, List.take_length])
 obtain ⟨q, hq, hlen⟩ := Ab.o.run_len (P := Tryz.prog) Tryz.underlying288 ts (fun k v hk => by by_cases h : hasS ts k = true; exact hasS_iff.1 h; simp [h] at hk)
 rw [HN.o] at hq
 have hg2 : decide ((16 : Int) < (q : Int)) = false := eF (by omega)
 obtain ⟨i9, hi9, hz9, hs9, hb9⟩ := info_parts Tryz.info9
 obtain ⟨fT, hfT⟩ : ∃ f : ByteArray -> Option Value, f = fun k => if hasS ts k = true then some (.agg #[]) else none := ⟨_, rfl⟩
 have Bd := kp (show ∀ k v, fT k = some v -> k ∈ ts from fun k v h => by
  rw [hfT] at h
  by_cases e : hasS ts k = true
  ·exact hasS_iff.1 e
  simp [e] at h)
 have Be := kp (show ∀ k ∈ ts, fT k = some (.agg #[]) from fun k hk => by rw [hfT]; simp [hasS_iff.2 hk])
 rw [<- hfT] at Ab
 obtain ⟨M, hM⟩ := eY w.heap.size
 have Aa := kp hM
 rw [hM] at Ab HW hlen ⊢
 clear HM hfT hM
 go_wp2_with (first
  | ((with_reducible refine wpList_make_own _ (o := ⟨some 28, _, _, _, _, _⟩) rfl _ _ 32 rfl M 9 i9 (.string ⟨#[]⟩) 1 Tryz.underlying32 hi9 hz9 hs9 .i64 .i64 q q ?_ ?_ rfl ?_ ?_ ?_ ?_); (· rfl); (· rfl); (· rw [hb9]; omega); (· unfold maxLen; omega); (· exact lT (Nat.le_of_eq Aa.o.symm) HW.o.size); intro w4 ho4 hg4; have Al := kp (Ab.o.of_block (hg4.block _ Ab.o.lt (by simp))); have Af := kp (HW.o.grown hg4 (lT (Nat.le_of_eq Aa.o.symm) HW.o.size) (fun k e => by cases e)); have Aj := kp ho4; clear ho4 hg4 Ab)
  | ((with_reducible refine e4_ (o := ⟨some 30, _, _, _, _, _⟩) rfl _ 288 rfl 9 289 Tryz.underlying288 M fT ?_ Al.o ?_); (· rfl); intro w5 hrg5 hb5 hs5))
 obtain ⟨A4, c4, hA4⟩ : ∃ A c, Value.slice (some ⟨wr.heap.size, 0, none⟩) 0 q = .slice A 0 c := ⟨_, _, rfl⟩
 rw [hA4] at Aj ⊢
 clear hA4
 try go_frame
 obtain ⟨Aw, Ae, Ac⟩ := kq3 ((Kept.of_below (L := []) hb5).own2 Aj.o (by simp)) (Af.o.trans (hb5.mono (lT (Nat.le_of_eq Aa.o.symm) Af.o.size))) (lT (Nat.le_of_eq Aa.o.symm) Af.o.size)
 obtain ⟨r, hr⟩ := eY w4.heap.size
 rw [hr] at hrg5 Ac ⊢
 have Ar := kp hrg5
 clear hr hrg5 hb5 hs5 Aj Af Al HW hg hg2 hlen hq hlt
 go_loopw [7] (fun s7 wr => ∃ (T : List ByteArray) (m c : Nat) (A2 : Option Addr), s7 = .slice A2 m c /\ m <= 16 /\ RngS wr M r fT T /\ Hid (T.length = m) /\ Hid (wr.ownsRow M 9 1 (.slice A2 m c) m (T.map Value.string)) /\ Hid (T.Nodup /\ ∀ k ∈ T, k ∈ ts) /\ Hid (Below M w wr)) (fun _ wr => wr.rangeLeft M r)
 case atStart => exact ⟨[], 0, _, _, rfl, by omega, Ar.o, kp rfl, Aw, kp ⟨List.Pairwise.nil, by simp⟩, Ae⟩
 obtain ⟨T, m, c2, A2, rfl, hm16, hrg, Ai, HO, HT, HW⟩ := hrel
 go_wp2_with (first
  | (at_next; refine fU_ rfl _ rfl M r fT T rfl hrg ?_ ?_)
  | go_in)
 ·intro hl0
  obtain ⟨Ak, HS⟩ := kq2 (show ∀ k ∈ ts, k ∈ T from fun k hk => hl0 k _ (Be.o k hk)) (kd_ A2 m c2 M T wr Ai.o (by omega) HO.o)
  clear hl0
  go_wp2_with fail
  refine HS.o.mono ?_
  rintro e w7 ⟨rfl, us, hu1, hu2, hu3, hu4⟩
  have HP := kp (show w7.ownsRow M 9 1 (.slice A2 m c2) us.length (us.map Value.string) /\ us.length <= 16 /\ (∀ t, t ∈ us ↔ t ∈ ts) /\ Below M w w7 from ⟨by rw [hu2]; exact hu3, by omega, fun t => (hu1 t).trans ⟨fun h => HT.o.2 t h, Ak.o t⟩, HW.o.grown hu4 (lT (Nat.le_of_eq Aa.o.symm) HW.o.size) (fun k e => (HO.o.lt k e).1)⟩)
  clear hu1 hu2 hu3 hu4
  go_wp2_with fail
  go_ret2
  exact ⟨_, us, rfl, Aa.o ▸ HP.o⟩
 intro k v w6 hkv hkT hrg6 hlt6 hg6 hs6 hen
 have hkt := Bd.o k v hkv
 have hnd : (T ++ [k]).Nodup := by
  rw [List.nodup_append]
  exact ⟨HT.o.1, by simp, fun a ha b hb e => by simp at hb; subst hb; exact hkT (e ▸ ha)⟩
 have hsub : ∀ q ∈ T ++ [k], q ∈ ts := fun q hq => by
  rcases List.mem_append.1 hq with h | h
  ·exact HT.o.2 q h
  simp at h; subst h; exact hkt
 have hlen := ci_ _ _ hnd hsub
 rw [lA, Ai.o, HN.o] at hlen
 simp at hlen
 have Ao := kp (And.intro hnd hsub)
 have hnr : (Value.slice A2 m c2).ownBlock ≠ some r := fun e => by
  obtain ⟨o, h1, _, h2⟩ := hrg.walk
  rcases HO.o.2 with ⟨h3, _⟩ | ⟨g, cap, cur, h3, _, h4, _⟩
  ·rw [h3] at e; cases e
  rw [h3] at e
  have : g = r := by simpa [Value.ownBlock] using e
  subst this
  rw [h4] at h1
  cases h1
  cases h2
 have hnM : (Value.slice A2 m c2).ownBlock ≠ some M := hrg.map.ne_own HO.o
 have Av := kp (HO.o.kept hg6 (.inr hnr))
 have hMle : M <= wr.heap.size := lT (Nat.le_of_eq Aa.o.symm) HW.o.size
 obtain ⟨Ah, At, Ap⟩ := kq3 (HW.o.grown hg6 hMle (fun k e => by cases e; exact Ac.o)) (World.ownsRow.alloc Av.o (.cells #[.string k] 9)) (db_ w6 9 (.string k))
 have hb6 := below1 w6 (.cells #[.string k] 9)
 obtain ⟨Ad, Bb, Am⟩ := kq3 (hrg6.of_block (hb6.block _ hrg6.map.lt) (hb6.block _ hrg6.lt)) (bS_ (hb6.block _ hrg6.map.lt) (hb6.block _ hrg6.lt)) (Ah.o.alloc (by omega : M <= w6.heap.size) (.cells #[.string k] 9))
 have hbs : M <= (w6.alloc (.cells #[.string k] 9)).heap.size := by rw [World.size_alloc]; omega
 obtain ⟨Ba, Ag⟩ := kq2 hlt6 (And.intro hnr hnM)
 clear hrg hg6 hs6 hkv hkT hkt hnd hsub hnr hnM hb6 hrg6 hlt6 hMle
 go_wp2_with ((with_reducible refine ae_ (o := ⟨some 38, _, _, _, _, _⟩) rfl _ _ 32 rfl M 9 (.string ⟨#[]⟩) 1 16 Tryz.underlying32 Tryz.info9 ?_ ?_ _ m (T.map Value.string) ?_ At.o (some ⟨w6.heap.size, 0, none⟩) 1 1 [.string k] ?_ ?_ Ap.o ?_ ?_ ?_ hbs ?_); (· rfl); (· decide); (· rfl); (· rfl); (· rfl); (· simp [Value.oneCell']); (· unfold maxLen; omega); (· omega); intro v1 w8 hown8 hg8 hb8; obtain ⟨A1, c1, rfl⟩ := ax_ hown8; have hr8 := Ad.o.of_block (hg8.block _ Ad.o.map.lt (fun e => Ag.o.2 e.symm)) (hg8.block _ Ad.o.lt (fun e => Ag.o.1 e.symm)); have hl8 := (bS_ (hg8.block _ Ad.o.map.lt (fun e => Ag.o.2 e.symm)) (hg8.block _ Ad.o.lt (fun e => Ag.o.1 e.symm))).trans Bb.o; have Aq := kp hr8; have Bc := kp hl8; have Au := kp hown8; have An := kp (Am.o.trans hb8); clear hr8 hl8 hown8 hg8 hb8)
 go_roundw
 case rel => exact ⟨T ++ [k], m + 1, c1, _, rfl, by omega, Aq.o, kp (by rw [lA, Ai.o]; rfl), kp (by rw [List.map_append]; exact Au.o), Ao, An⟩
 rw [Bc.o]; exact Ba.o
theorem MapS.ne_own2 {w : World} {b base n : Nat} {e : TypeId} {size : Nat} {v : Value} {xs : List Value} {f : ByteArray -> Option Value} (h : MapS w b f) (h' : w.ownsRow base e size v n xs) : b ∉ v.ownBlock.toList := fun hm => h.ne_own h' (by simpa using hm)
theorem JI.push {w w' : World} {lim J : Nat} {grace : Int} {ws : List WrR} {es : Edges} {s : JS} (h : JI w lim J grace ws es s) {v' vv vt : Value} {x : WrR} {p : Nat} (hp : RowL w' p 220 (wrL x vv vt)) (hpf : w.heap.size <= p)
  (hk : Kept (J :: s.M :: s.wv.ownBlock.toList) w w') (hJ : RowL w' J 138 [.int .u64 grace, v', .map (some s.M), .map (some s.C)]) (hown : w'.ownsRow lim 217 1 v' (ws.length + 1) ((s.ps ++ [p]).map ptV))
  (hmap : MapS w' s.M fun k' => if k' = x.key then some (ptV p) else (aN_ ws k').map fun i => ptV (s.ps.getD i 0)) (hx1 : DatG w lim vv x.val)
  (hx2 : ∃ ts : List ByteArray, ts.length <= maxLen /\ w.ownsRow lim 9 1 vt ts.length (ts.map Value.string) /\ ∀ t, t ∈ ts ↔ t ∈ x.tags) (hts : ∀ k v b, s.f k = some v -> vt.ownBlock = some b -> v.ownBlock ≠ some b)
  (ht : IsT x.soft /\ IsT x.dl) (hf : ws.length < 5000) (hn : ∀ y ∈ ws, y.gone = 0 -> y.key ≠ x.key) :
  JI w' lim J grace (ws ++ [x]) es ⟨s.M, s.C, s.ps ++ [p], fun i => if i = ws.length then (vv, vt) else s.vals i, s.f, v'⟩ := by
 obtain ⟨q1, q2, q3, q4, q5, q6, q7⟩ := h.p_ne
 have hb : Below lim w w' := hk.below h.lw fun b hb => by
  rcases List.mem_cons.1 hb with rfl | hb
  ·exact h.lJ
  rcases List.mem_cons.1 hb with rfl | hb
  ·exact h.lM
  exact (h.own.lt b (by simpa using hb)).1
 have how : ∀ {base n : Nat} {e : TypeId} {size : Nat} {v : Value} {xs : List Value}, w.ownsRow base e size v n xs -> e ≠ 217 -> e ≠ 138 -> w'.ownsRow base e size v n xs := fun {base n e size v xs} hx he he2 => hk.own2 hx fun b hb hv => by
  rcases List.mem_cons.1 hb with rfl | hb
  ·exact h.row.ne_own hx (fun e => he2 e.symm) hv
  rcases List.mem_cons.1 hb with rfl | hb
  ·exact h.mapM.ne_own hx hv
  rcases bB_ hx h.own he with h3 | h3
  ·rw [h3] at hv; cases hv
  rw [hv] at h3
  simp at hb
  exact h3 hb.symm
 have hCn : s.C ∉ J :: s.M :: s.wv.ownBlock.toList := fun hm => by
  rcases List.mem_cons.1 hm with e | hm
  ·exact h.mapC.ne_row h.row e.symm
  rcases List.mem_cons.1 hm with e | hm
  ·exact h.ne e.symm
  exact h.mapC.ne_own2 h.own hm
 have hpo : ∀ q ∈ s.ps, q ∉ J :: s.M :: s.wv.ownBlock.toList := fun q hq hm => by
  rcases List.mem_cons.1 hm with e | hm
  ·exact q1 (e ▸ hq)
  rcases List.mem_cons.1 hm with e | hm
  ·exact q2 (e ▸ hq)
  exact q4 q hq (by simpa using hm)
 have hkeys : ∀ k, aN_ (ws ++ [x]) k = if x.key = k then some ws.length else aN_ ws k := dA_ ws x
 have hgd : ∀ i, i < ws.length -> (s.ps ++ [p]).getD i 0 = s.ps.getD i 0 := fun i hi => by
  rw [List.getD_eq_getElem?_getD, List.getD_eq_getElem?_getD, aL (by rw [h.len]; exact hi)]
 have hgl : (s.ps ++ [p]).getD ws.length 0 = p := by
  rw [List.getD_eq_getElem?_getD, aR (by rw [h.len]; exact lR _)]
  simp [h.len]
 have old : ∀ (i : Nat) (y : WrR), (ws ++ [x])[i]? = some y -> (i < ws.length /\ ws[i]? = some y) ∨ (i = ws.length /\ y = x) := fun i y hi => by
  rcases Nat.lt_or_ge i ws.length with hl | hl
  ·rw [aL hl] at hi
   exact .inl ⟨hl, hi⟩
  have := (gS.1 hi).1
  simp at this
  obtain rfl : i = ws.length := by omega
  simp at hi
  exact .inr ⟨rfl, hi.symm⟩
 refine ⟨hJ, h.isT, ?_, by simp [h.len], ?_, by simp; omega, h.fewE, ?_, h.mapC.of_block (hk.block _ h.mapC.lt hCn), h.ne, fun i y q hi hq => ?_, fun y hy => ?_, fun i y hi => ?_, fun i y hi => ?_,
  fun k v hfk => how (h.kidsV k v hfk) (by decide) (by decide), h.kidsN, h.sep, fun i y k v b hi hfk => ?_, fun i y hi hg => ?_, h.lJ, h.lM, h.lC, lT h.lw hk.size⟩
 ·rw [lA]
  exact hown
 ·rw [List.nodup_append]
  exact ⟨h.nd, by simp, fun a ha b hb e => by
   simp at hb
   subst hb
   subst e
   have := (q6 a ha).1
   omega⟩
 ·refine hmap.congr fun k => ?_
  rw [hkeys]
  by_cases e : x.key = k
  ·rw [if_pos e.symm, if_pos e]
   simp only [Option.map_some]
   rw [hgl]
  rw [if_neg (fun e2 => e e2.symm), if_neg e]
  cases hl : aN_ ws k with
  | none => rfl
  | some i =>
   obtain ⟨y, hy, _⟩ := bD_ ws k i hl
   simp only [Option.map_some]
   rw [hgd i (gS.1 hy).1]
 ·dsimp only at hq ⊢
  rcases old i y hi with ⟨hl, hi'⟩ | ⟨rfl, rfl⟩
  ·rw [if_neg (by omega)]
   rw [aL (by rw [h.len]; exact hl)] at hq
   exact ⟨hk.row (hpo q (mG hq)) (h.wrs i y q hi' hq).1, (h.wrs i y q hi' hq).2⟩
  rw [if_pos rfl]
  rw [aR (by rw [h.len]; exact lR _)] at hq
  simp [h.len] at hq
  subst hq
  exact ⟨hp, lT h.lw hpf⟩
 ·rcases List.mem_append.1 hy with hy | hy
  ·exact h.times y hy
  simp at hy
  subst hy
  exact ht
 ·dsimp only
  rcases old i y hi with ⟨hl, hi'⟩ | ⟨rfl, rfl⟩
  ·rw [if_neg (by omega)]
   exact (h.vals1 i y hi').below hb (lR _)
  rw [if_pos rfl]
  exact hx1.below hb (lR _)
 ·dsimp only
  rcases old i y hi with ⟨hl, hi'⟩ | ⟨rfl, rfl⟩
  ·rw [if_neg (by omega)]
   obtain ⟨ts, h0, h1, h2⟩ := h.vals2 i y hi'
   exact ⟨ts, h0, how h1 (by decide) (by decide), h2⟩
  rw [if_pos rfl]
  obtain ⟨ts, h0, h1, h2⟩ := hx2
  exact ⟨ts, h0, how h1 (by decide) (by decide), h2⟩
 ·dsimp only
  rcases old i y hi with ⟨hl, hi'⟩ | ⟨rfl, rfl⟩
  ·rw [if_neg (by omega)]
   exact h.tsep i y k v b hi' hfk
  rw [if_pos rfl]
  exact hts k v b hfk
 rw [hkeys]
 rcases old i y hi with ⟨hl, hi'⟩ | ⟨rfl, rfl⟩
 ·rw [if_neg (fun e => hn y (mG hi') hg e.symm)]
  exact h.only i y hi' hg
 rw [if_pos rfl]
theorem JI.setK {w w' : World} {lim J : Nat} {grace : Int} {ws : List WrR} {es es' : Edges} {s : JS} (h : JI w lim J grace ws es s) {k0 : ByteArray} {v' : Value} {L : List Nat}
  (hk : Kept (s.C :: L) w w') (hmap : MapS w' s.C fun k' => if k' = k0 then some v' else s.f k') (hown : w'.ownsRow lim 9 1 v' (kids es' k0).length ((kids es' k0).map Value.string))
  (hoth : ∀ k, k ≠ k0 -> kids es' k = kids es k) (hL : ∀ b ∈ L, (∃ v, s.f k0 = some v /\ v.ownBlock = some b)) (hnew : ∀ b, v'.ownBlock = some b -> w.heap.size <= b ∨ ∃ v, s.f k0 = some v /\ v.ownBlock = some b) (hf : es'.length <= 5000) :
  JI w' lim J grace ws es' { s with f := fun k' => if k' = k0 then some v' else s.f k' } := by
 obtain ⟨q1, q2, q3, q4, q5, q6, q7⟩ := h.p_ne
 have hLk : ∀ b ∈ L, lim <= b /\ b < w.heap.size := fun b hb => by
  obtain ⟨v, h1, h2⟩ := hL b hb
  exact (h.kidsV k0 v h1).lt b h2
 have hb : Below lim w w' := hk.below h.lw fun b hb => by
  rcases List.mem_cons.1 hb with rfl | hb
  ·exact h.lC
  exact (hLk b hb).1
 have hro : ∀ {b : Nat} {t : TypeId} {l : List Value}, RowL w b t l -> t ≠ 9 -> RowL w' b t l := fun {b t l} hr ht => hk.row (fun hm => by
  rcases List.mem_cons.1 hm with e | hm
  ·exact h.mapC.ne_row hr e
  obtain ⟨v, h1, h2⟩ := hL b hm
  exact hr.ne_own (h.kidsV k0 v h1) ht h2) hr
 have how : ∀ {base n : Nat} {e : TypeId} {size : Nat} {v : Value} {xs : List Value}, w.ownsRow base e size v n xs -> (∀ u b, s.f k0 = some u -> u.ownBlock = some b -> v.ownBlock ≠ some b) -> w'.ownsRow base e size v n xs := fun {base n e size v xs} hx hne => hk.own2 hx fun b hb hv => by
  rcases List.mem_cons.1 hb with rfl | hb
  ·exact h.mapC.ne_own hx hv
  obtain ⟨u, h1, h2⟩ := hL b hb
  exact hne u b h1 h2 hv
 refine ⟨hro h.row (by decide), h.isT, how h.own fun u b hu hub hv => ?_, h.len, h.nd, h.few, hf, h.mapM.of_block (hk.block _ h.mapM.lt fun hm => ?_), hmap, h.ne, fun i x p hi hp => ⟨hro (h.wrs i x p hi hp).1 (by decide), (h.wrs i x p hi hp).2⟩, h.times,
  fun i x hi => (h.vals1 i x hi).below hb (lR _), fun i x hi => ?_, fun k v hfk => ?_, fun k hfk => ?_, fun k k' v v1 b hfk hfk' hne hvb => ?_, fun i x k v b hi hfk htb => ?_, h.only, h.lJ, h.lM, h.lC, lT h.lw hk.size⟩
 ·rcases bB_ h.own (h.kidsV k0 u hu) (by decide) with h3 | h3
  ·rw [h3] at hv; cases hv
  exact h3 (hv.trans hub.symm)
 ·rcases List.mem_cons.1 hm with e | hm
  ·exact h.ne e
  obtain ⟨v, h1, h2⟩ := hL _ hm
  exact h.mapM.ne_own (h.kidsV k0 v h1) h2
 ·obtain ⟨ts, h0, h1, h2⟩ := h.vals2 i x hi
  exact ⟨ts, h0, how h1 fun u b hu hub hv => h.tsep i x k0 u b hi hu hv hub, h2⟩
 ·dsimp only at hfk
  by_cases e : k = k0
  ·subst e
   rw [if_pos rfl] at hfk
   cases hfk
   exact hown
  rw [if_neg e] at hfk
  rw [hoth k e]
  exact how (h.kidsV k v hfk) fun u b hu hub hv => h.sep k k0 v u b hfk hu e hv hub
 ·dsimp only at hfk
  by_cases e : k = k0
  ·rw [if_pos e] at hfk; cases hfk
  rw [if_neg e] at hfk
  rw [hoth k e]
  exact h.kidsN k hfk
 ·dsimp only at hfk hfk'
  by_cases e : k = k0
  ·rw [if_pos e] at hfk
   cases hfk
   rw [if_neg (fun e2 => hne (e.trans e2.symm))] at hfk'
   rcases hnew b hvb with h1 | ⟨u, h1, h2⟩
   ·intro hb'
    have := b4_ (h.kidsV k' v1 hfk') hb'
    omega
   exact h.sep k0 k' u v1 b h1 hfk' (fun e2 => hne (e.trans e2)) h2
  rw [if_neg e] at hfk
  by_cases e' : k' = k0
  ·rw [if_pos e'] at hfk'
   cases hfk'
   intro hb'
   rcases hnew b hb' with h1 | ⟨u, h1, h2⟩
   ·have := b4_ (h.kidsV k v hfk) hvb
    omega
   exact h.sep k k0 v u b hfk h1 e hvb h2
  rw [if_neg e'] at hfk'
  exact h.sep k k' v v1 b hfk hfk' hne hvb
 dsimp only at hfk
 by_cases e : k = k0
 ·rw [if_pos e] at hfk
  cases hfk
  intro hb'
  rcases hnew b hb' with h1 | ⟨u, h1, h2⟩
  ·obtain ⟨ts, _, h3, _⟩ := h.vals2 i x hi
   have := b4_ h3 htb
   omega
  exact h.tsep i x k0 u b hi h1 htb h2
 rw [if_neg e] at hfk
 exact h.tsep i x k v b hi hfk htb
theorem i6_ (s chi : ByteArray) (C : Nat) (w : World) (hc : w.cell? ⟨C, 9, none⟩ = some (.string chi)) :
  Calls Tryz.prog 140 #[.string s, .pointer (some ⟨C, 0, none⟩)] w (bX_ (.bool (decide (s = chi))) w) := by
 by_cases h : s = chi
 ·subst h
  have h2 := aQ_ s
  have h3 : decide (s = s) = true := eT_ rfl
  rw [h3]
  clear h3
  go_enter Tryz.func140, Tryz.ntmps140
  go_wp2_with fail
  go_ret
  exact ⟨rfl, rfl⟩
 have h2 : (s.toList == chi.toList) = false := bl_ h
 have h3 : decide (s = chi) = false := eF h
 rw [h3]
 clear h3 h
 go_enter Tryz.func140, Tryz.ntmps140
 go_wp2_with fail
 go_ret
 exact ⟨rfl, rfl⟩
theorem index197 (A : Option Addr) (n c B C : Nat) (xs : List ByteArray) (s : ByteArray) (w : World) (hn : xs.length = n) (hl : n <= maxLen) (hA : ElV Value.string w B A xs) (hc : w.cell? ⟨C, 9, none⟩ = some (.string s)) :
  Calls Tryz.prog 197 #[.slice A n c, .func (.func 140) #[] #[.pointer (some ⟨C, 0, none⟩)]] w fun e w' => ((e = .returned (.int .i64 (-1)) /\ ∀ x ∈ xs, x ≠ s) ∨ ∃ k : Nat, e = .returned (.int .i64 k) /\ k < n /\ xs[k]? = some s /\ s ∉ xs.take k) /\ w' = w := by
 have hn' : n <= 9223372036854775807 := by unfold maxLen at hl; omega
 obtain ⟨HN, HA, HC⟩ := kq3 hn hA (fun (x : ByteArray) => i6_ x s C w hc)
 clear hA hn hl hc
 go_enter Tryz.func197, Tryz.ntmps197
 go_wp2_with fail
 go_loopw [8] (fun j wr => ∃ k : Nat, k <= n /\ j = .int .i64 k /\ Hid (s ∉ xs.take k) /\ wr = w) (fun j _ => n - (intOf j).toNat)
 case atStart => exact ⟨0, Nat.zero_le _, by go_num, kp (by simp), rfl⟩
 obtain ⟨k, hk, rfl, HE, rfl⟩ := hrel
 by_cases hlt : k < n
 ·obtain ⟨x, hx⟩ : ∃ x, xs[k]? = some x := ⟨xs[k]'(by rw [HN.o]; exact hlt), gE _⟩
  obtain ⟨b, o, rfl, hbX, c1⟩ := HA.o k x hx
  have HX := kp hx
  clear hx
  have hg : decide ((k : Int) < (n : Int)) = true := by simp; omega
  have hi1 : (k : Int) < (n : Int) := by omega
  have H1 := kp (HC.o x)
  by_cases hxy : x = s
  ·subst hxy
   have HR := kp (show k < n /\ xs[k]? = some x /\ x ∉ xs.take k from ⟨hlt, HX.o, HE.o⟩)
   rw [show decide (x = x) = true from eT_ rfl] at H1
   go_wp2_with (go_at_call 140; refine H1.o.mono ?_; rintro e w1 ⟨rfl, rfl⟩)
   go_ret
   exact ⟨.inr ⟨k, rfl, HR.o⟩, rfl⟩
  rw [show decide (x = s) = false from eF hxy] at H1
  have Aa := kp (show s ∉ xs.take (k + 1) from by
   rw [tA, HX.o]
   simp only [Option.toList, List.mem_append, List.mem_cons, List.not_mem_nil, or_false, not_or]
   exact ⟨HE.o, fun e => hxy e.symm⟩)
  go_wp2_with (go_at_call 140; refine H1.o.mono ?_; rintro e w1 ⟨rfl, rfl⟩)
  go_roundw
  case rel => exact ⟨k + 1, by omega, by go_num, Aa, trivial⟩
  simp [intOf]; omega
 obtain rfl : k = n := by omega
 have hg : decide ((k : Int) < (k : Int)) = false := by simp
 have HF := kp (show ∀ x ∈ xs, x ≠ s from by
  have h := HE.o
  rw [<- HN.o, List.take_length] at h
  rintro x hx rfl
  exact h hx)
 go_wp2_with fail
 go_ret
 exact ⟨.inl ⟨rfl, HF.o⟩, rfl⟩
def bf_ (s : ByteArray) (xs : List ByteArray) : List ByteArray := xs.filter (fun x => !decide (x = s))
theorem fJ_ {s : ByteArray} {xs : List ByteArray} {i : Nat} {x : ByteArray} (h : xs[i]? = some x) : bf_ s (xs.take (i + 1)) = bf_ s (xs.take i) ++ if x = s then [] else [x] := by
 unfold bf_
 rw [tA, h]
 by_cases g : x = s <;> simp [g]
theorem hc_ {s : ByteArray} {xs : List ByteArray} (h : ∀ x ∈ xs, x ≠ s) : bf_ s xs = xs := by
 unfold bf_
 rw [List.filter_eq_self]
 intro x hx
 simp [h x hx]
theorem b3_ {base g n c : Nat} {e : TypeId} : ∀ (us : List Value) (o m : Nat) (w : World) (xs : List Value), w.ownsRow base e 1 (.slice (some ⟨g, 0, none⟩) n c) n xs -> m <= o -> m <= n -> (w.setCells g o us).ownsRow base e 1 (.slice (some ⟨g, 0, none⟩) m c) m (xs.take m) /\ Kept [g] w (w.setCells g o us)
 | [], o, m, w, xs, h, hm, hn => by
  refine ⟨?_, Kept.refl _ _⟩
  have h1 := h.1
  refine ⟨by rw [List.length_take]; omega, ?_⟩
  rcases h.2 with ⟨h2, _⟩ | ⟨g', cap, cur, h2, h3, h4, h5, h6, h7, h8⟩
  ·cases h2
  cases h2
  refine .inr ⟨g, c, cur, rfl, h3, h4, by omega, h6, h7, ?_⟩
  rw [<- h8, List.take_take]
  congr 1
  omega
 | u :: us, o, m, w, xs, h, hm, hn => by
  have h1 := (h.stored o u).1
  obtain ⟨h2, h3⟩ := b3_ us (o + 1) m (w.setCell ⟨g, o, none⟩ u) (xs.set o u) h1 (by omega) hn
  refine ⟨?_, ((Kept.refl [g] w).setCell (p := ⟨g, o, none⟩) (by simp) u).trans h3⟩
  have e : (xs.set o u).take m = xs.take m := by
   apply List.ext_getElem?
   intro j
   rw [List.getElem?_take, List.getElem?_take]
   split
   ·rw [List.getElem?_set_ne (by omega)]
   rfl
  rw [e] at h2
  exact h2
theorem hn_ (v : Value) (lim C : Nat) (xs : List ByteArray) (s : ByteArray) (w : World) (hl : xs.length <= 5000) (ho : w.ownsRow lim 9 1 v xs.length (xs.map Value.string)) (hc : w.cell? ⟨C, 9, none⟩ = some (.string s)) (hC : v.ownBlock ≠ some C) :
  Calls Tryz.prog 139 #[v, .func (.func 140) #[] #[.pointer (some ⟨C, 0, none⟩)]] w fun e w' => ∃ v', e = .returned v' /\ w'.ownsRow lim 9 1 v' (bf_ s xs).length ((bf_ s xs).map Value.string) /\ Kept v.ownBlock.toList w w' /\ v'.ownBlock = v.ownBlock := by
 obtain ⟨n, hn⟩ := eY xs.length
 rw [hn] at ho hl
 obtain ⟨A, c, rfl⟩ := ax_ ho
 have hA := dC_ (enc := Value.string) (xs := xs) (by rw [hn]; exact ho)
 obtain ⟨A', c', hA', hel, _⟩ := hA
 obtain ⟨rfl, rfl⟩ : A' = A /\ c' = c := by cases hA'; exact ⟨rfl, rfl⟩
 obtain ⟨HI, HN, HO, HC, Af⟩ := kq5 (index197 A' n c' _ C xs s w hn (by unfold maxLen; omega) hel hc) hn ho hc hC
 clear ho hA' hel hc hn hC
 go_enter Tryz.func139, Tryz.ntmps139
 go_wp2_with fail
 refine HI.o.mono ?_
 rintro e w1 ⟨⟨rfl, hno⟩ | ⟨k, rfl, hk, hks, hkt⟩, rfl⟩
 ·have HP := kp (show w1.ownsRow lim 9 1 (.slice A' n c') (bf_ s xs).length ((bf_ s xs).map Value.string) by rw [hc_ hno, HN.o]; exact HO.o)
  clear hno HI
  go_wp2_with fail
  go_ret
  exact ⟨_, rfl, HP.o, Kept.refl _ _, rfl⟩
 have hg0 : ((k : Int) == -1) = false := by simp <;> omega
 obtain ⟨g, rfl⟩ : ∃ g, A' = some ⟨g, 0, none⟩ := by
  rcases HO.o.2 with ⟨_, h2⟩ | ⟨g', cap, cur, h1, _⟩
  ·omega
  cases h1; exact ⟨g', rfl⟩
 have hw1 := kp (show C ≠ g from fun e => Af.o (by rw [e]; rfl))
 have hst : bf_ s (xs.take (k + 1)) = xs.take k := by
  rw [fJ_ hks, if_pos rfl, List.append_nil]
  exact hc_ fun x hx e => hkt (e ▸ hx)
 have Ad := kp hst
 clear hst HI hks hkt
 go_wp2_with fail
 go_loopw [5, 6] (fun s5 s6 wr => ∃ (i j : Nat) (T : List ByteArray), i < j /\ j <= n /\ s5 = .int .i64 i /\ s6 = .int .i64 j /\ Hid (T.length = n /\ T.take i = bf_ s (xs.take j) /\ T.drop j = xs.drop j) /\ Hid (wr.ownsRow lim 9 1 (.slice (some ⟨g, 0, none⟩) n c') n (T.map Value.string)) /\ Hid (Kept [g] w1 wr)) (fun _ j _ => n - (intOf j).toNat)
 case atStart => exact ⟨k, k + 1, xs, by omega, by omega, rfl, by go_num, kp ⟨HN.o, Ad.o.symm, rfl⟩, HO, kp (Kept.refl _ _)⟩
 obtain ⟨i, j, T, hij, hj, rfl, rfl, HT, HW, HK⟩ := hrel
 have k9 : wr.cell? ⟨C, 9, none⟩ = some (.string s) := HK.o.cell (p := ⟨C, 9, none⟩) (by simp; exact hw1.o) HC.o
 by_cases hlt : j < n
 ·have hg : decide ((j : Int) < (n : Int)) = true := eT_ (by omega)
  have hi1 : (j : Int) < (n : Int) := by omega
  have hi2 : (i : Int) < (n : Int) := by omega
  obtain ⟨x, hx⟩ : ∃ x, xs[j]? = some x := ⟨xs[j]'(by rw [HN.o]; exact hlt), gE _⟩
  have hTx : T[j]? = some x := by
   have h1 : (T.drop j)[0]? = (xs.drop j)[0]? := by rw [HT.o.2.2]
   rw [List.getElem?_drop, List.getElem?_drop] at h1
   simpa [hx] using h1
  have e4 : wr.cell? ⟨g, j, none⟩ = some (.string x) := by
   rw [HW.o.cellAt j (by omega), gM, hTx]
   rfl
  obtain ⟨y, e5⟩ : ∃ y, wr.cell? ⟨g, i, none⟩ = some y := by
   rw [HW.o.cellAt i (by omega)]
   exact ⟨_, gE (by simp; have := HT.o.1; omega)⟩
  have f5 := HW.o.frozenAt i
  obtain ⟨HD, Aa, H1⟩ := kq3 (show T.drop (j + 1) = xs.drop (j + 1) by rw [<- List.drop_drop, <- List.drop_drop, HT.o.2.2]) (fJ_ (s := s) hx) (i6_ x s C wr k9)
  clear hx hTx k9
  by_cases hxs : x = s
  ·rw [show decide (x = s) = true from eT_ hxs] at H1
   have Ab := kp (show T.length = n /\ T.take i = bf_ s (xs.take (j + 1)) /\ T.drop (j + 1) = xs.drop (j + 1) from ⟨HT.o.1, by rw [Aa.o, if_pos hxs, List.append_nil]; exact HT.o.2.1, HD.o⟩)
   clear hxs Aa
   go_wp2_with (go_at_call 140; refine H1.o.mono ?_; rintro e w2 ⟨rfl, hw2⟩; subst hw2)
   go_roundw
   case rel => exact ⟨i, j + 1, T, by omega, by omega, rfl, by go_num, Ab, HW, HK⟩
   simp [intOf]; omega
  rw [show decide (x = s) = false from eF hxs] at H1
  have hti : (T.set i x).take (i + 1) = T.take i ++ [x] := by
   have hil : i < T.length := by rw [HT.o.1]; omega
   apply List.ext_getElem?
   intro q
   rw [List.getElem?_take]
   rcases Nat.lt_trichotomy q i with h | h | h
   ·rw [if_pos (by omega), List.getElem?_set_ne (by omega), aL (by simp; omega), List.getElem?_take, if_pos h]
   ·subst h
    rw [if_pos (by omega), List.getElem?_set_self hil, aR (by simp; omega)]
    simp [Nat.min_eq_left (Nat.le_of_lt hil)]
   rw [if_neg (by omega), List.getElem?_eq_none]
   simp
   omega
  obtain ⟨Ab, Ac, Ae⟩ := kq3 (show (T.set i x).length = n /\ (T.set i x).take (i + 1) = bf_ s (xs.take (j + 1)) /\ (T.set i x).drop (j + 1) = xs.drop (j + 1) from ⟨by rw [List.length_set]; exact HT.o.1, by rw [Aa.o, if_neg hxs, hti, HT.o.2.1], by rw [List.drop_set_of_lt (by omega)]; exact HD.o⟩) (show (wr.setCell ⟨g, i, none⟩ (.string x)).ownsRow lim 9 1 (.slice (some ⟨g, 0, none⟩) n c') n ((T.set i x).map Value.string) by rw [List.map_set]; exact (HW.o.stored i (.string x)).1) (show Kept [g] w1 (wr.setCell ⟨g, i, none⟩ (.string x)) from HK.o.setCell (p := ⟨g, i, none⟩) (by simp) _)
  clear hxs Aa hti HW HK HT
  go_wp2_with (go_at_call 140; refine H1.o.mono ?_; rintro e w2 ⟨rfl, hw2⟩; subst hw2)
  go_roundw
  case rel => exact ⟨i + 1, j + 1, _, by omega, by omega, by go_num, by go_num, Ab, Ac, Ae⟩
  simp [intOf]; omega
 obtain rfl : j = n := by omega
 have hg : decide ((j : Int) < (j : Int)) = false := by simp
 have hcl : ∀ ty, (Builtin.clear_ #[32] ty #[.slice (some ⟨g, i, none⟩) (j - i) (c' - i)]).run Tryz.prog wr = .ok (.tuple #[]) (wr.setCells g i (List.replicate (j - i) (.string ⟨#[]⟩))) :=
  fun ty => Lib.run_clear_slice wr 32 9 ty (.string ⟨#[]⟩) Tryz.underlying32 Tryz.zeroValue9 rfl rfl g i _ _ (by omega)
   (fun t ht => by rw [HW.o.cellAt (i + t) (by omega), gE (by simp; have := HT.o.1; omega)]; rfl) (fun t ht => HW.o.frozenAt _)
 have hic : j <= c' := by
  rcases HW.o.2 with ⟨h1, _⟩ | ⟨g', cap, cur, h1, _, _, h3, _⟩
  ·cases h1
  cases h1; omega
 obtain ⟨p1, p2⟩ := b3_ (List.replicate (j - i) (.string ⟨#[]⟩)) i i wr _ HW.o (lR _) (by omega)
 have hke : T.take i = bf_ s xs := by rw [HT.o.2.1, <- HN.o, List.take_length]
 have hkl : (bf_ s xs).length = i := by rw [<- hke, List.length_take, HT.o.1]; omega
 have HP := kp (show (wr.setCells g i (List.replicate (j - i) (.string ⟨#[]⟩))).ownsRow lim 9 1 (.slice (some ⟨g, 0, none⟩) i c') (bf_ s xs).length ((bf_ s xs).map Value.string) /\ Kept [g] w1 (wr.setCells g i (List.replicate (j - i) (.string ⟨#[]⟩))) from ⟨by rw [hkl, <- hke, List.map_take]; exact p1, HK.o.trans p2⟩)
 clear p1 p2 hke hkl HW HK HT
 go_wp2_with fail
 go_ret
 exact ⟨_, rfl, HP.o.1, HP.o.2, rfl⟩
set_option maxHeartbeats 8000000
def dv_ (w : World) (lim J : Nat) (grace : Int) (ws : List WrR) (es : Edges) (x : CallR) (e : Ending) (w' : World) : Prop :=
 e = .returned (.tuple #[]) /\ ∃ ws' es' s', DoS x ws es ws' es' /\ JI w' lim J grace ws' es' s' /\ Below lim w w'
theorem boxL {LX LC : List Value} {x : CallR} {p : CallV} (hX : callC x p = LX) (hC : cmdC x.cmd p.vk p.vv p.vt = LC) :
  LX[17]? = some (.int .i64 x.resp.count) /\ LC[3]? = some p.vv /\ LC[4]? = some p.vt /\ LC[5]? = some (.int .u64 x.cmd.life) /\ LC[7]? = some (.string x.cmd.tag) /\ LC[8]? = some (.string x.cmd.pre) /\ LC[9]? = some (.string x.cmd.chi) := by
 subst hX hC
 exact ⟨rfl, rfl, rfl, rfl, rfl, rfl, rfl⟩
theorem c9_ {x : CallR} (h : x.cmd.op ≠ 8 /\ x.cmd.op ≠ 9 /\ x.cmd.op ≠ 10 /\ x.cmd.op ≠ 14) (ws : List WrR) : ws.map (swp x) = ws := by
 have e : ∀ y, swp x y = y := fun y => by
  unfold swp
  split
  ·rfl
  rw [if_neg (fun h2 => h.2.1 h2.1), if_neg (fun h2 => by rcases h2 with h2 | h2 | h2; exact h.1 h2.1; exact h.2.2.1 h2.1; exact h.2.2.2 h2)]
 rw [List.map_congr_left (g := id) (fun y _ => e y), List.map_id]
theorem hA_ {x : CallR} (pred : WrR -> Bool) (h : x.cmd.op ≠ 9) (h2 : ∀ y : WrR, ((x.cmd.op = 8 /\ hasS y.tags x.cmd.tag = true) ∨ (x.cmd.op = 10 /\ hasP y.key x.cmd.pre = true) ∨ x.cmd.op = 14) ↔ pred y = true) (ws : List WrR) :
  ws.map (swp x) = ws.map fun y => if y.gone = 0 then prgW pred y else y := by
 apply List.map_congr_left
 intro y _
 unfold swp prgW
 by_cases g : y.gone = 0
 ·rw [if_neg (by simpa using g), if_pos g, if_neg (fun e => h e.1)]
  by_cases q : pred y = true
  ·rw [if_pos ((h2 y).2 q), if_pos q]
  rw [if_neg (fun e => q ((h2 y).1 e)), if_neg q]
 rw [if_pos g, if_neg g]
end Go.Proofs.YtnjhpgmbfblgaaaGreat.Ord
