/- Walk of the reference's Below; Walk of the reference's changed; Walk of the reference's. -/
import Derived.Test.YtnjhpgmbfblgaaaGreatMU16
set_option linter.unusedVariables false
set_option linter.unusedSimpArgs false
namespace Go.Proofs.YtnjhpgmbfblgaaaGreat.Ord
open Go.RowKit
set_option maxRecDepth 100000
set_option maxHeartbeats 8000000
theorem kC_ (w : World) (e : TypeId) (l : List Value) (hl : l.length <= maxLen) : (w.alloc (.cells l.toArray e)).ownsRow w.heap.size e 1 (.slice (some ⟨w.heap.size, 0, none⟩) l.length l.length) l.length l :=
 ⟨by simp, .inr ⟨w.heap.size, l.length, l.toArray, rfl, lR _, heap_alloc_new w _, lR _, hl, by simp, by simp⟩⟩
structure BelI (es : Edges) (key : ByteArray) (i : Nat) (T : List ByteArray) : Prop where
 has : key ∈ T
 reach : ∀ x ∈ T, Reach es key x
 done : ∀ j x, j < i -> T[j]? = some x -> ∀ y ∈ kids es x, y ∈ T
 few : T.length + bm_ (key :: es.map (·.2)) T <= es.length + 1
theorem hy_ {U S : List ByteArray} {k : ByteArray} (hk : k ∈ U) (hS : hasS S k = false) : bm_ U (S ++ [k]) < bm_ U S := by
 have h := c7_ hk hS
 have e : bm_ U (S ++ [k]) = bm_ U (k :: S) := by
  unfold bm_
  congr 2
  funext x
  rw [bq_ (T := k :: S) (fun y => by simp [or_comm])]
 omega
theorem BelI.start (es : Edges) (key : ByteArray) : BelI es key 0 [key] :=
 ⟨by simp, fun x hx => by simp at hx; subst hx; exact Reach.refl _ _, fun j x hj => by omega, by
  have h := c7_ (U := key :: es.map (·.2)) (S := []) (k := key) (by simp) rfl
  have : bm_ (key :: es.map (·.2)) [] = es.length + 1 := by
   unfold bm_
   have e : (key :: es.map (·.2)).filter (fun x => !hasS [] x) = key :: es.map (·.2) := List.filter_eq_self.2 (fun a _ => rfl)
   rw [e]
   simp
  simp
  omega⟩
theorem BelI.push {es : Edges} {key : ByteArray} {i : Nat} {T : List ByteArray} (h : BelI es key i T) {a b : ByteArray} (hi : T[i]? = some a) (he : (a, b) ∈ es) (hn : hasS T b = false) : BelI es key i (T ++ [b]) := by
 have hiT := (gS.1 hi).1
 refine ⟨List.mem_append_left _ h.has, fun x hx => ?_, fun j x hj hx y hy => ?_, ?_⟩
 ·rcases List.mem_append.1 hx with hx | hx
  ·exact h.reach x hx
  simp at hx
  subst hx
  exact (h.reach a (mG hi)).trans (Reach.kid (mem_kids.2 he))
 ·rw [aL (by omega)] at hx
  exact List.mem_append_left _ (h.done j x hj hx y hy)
 have := hy_ (U := key :: es.map (·.2)) (k := b) (mM _ (List.mem_map.2 ⟨(a, b), he, rfl⟩)) hn
 have := h.few
 simp
 omega
theorem db_ (w : World) (e : TypeId) (v : Value) : Src (w.alloc (.cells #[v] e)) (some ⟨w.heap.size, 0, none⟩) 1 1 [v] := by
 refine .inr ⟨_, rfl, fun j u hj => ?_⟩
 match j, hj with
 | 0, hj =>
  simp at hj
  subst hj
  go_simp
theorem d7_ (K : Nat) (es : Edges) (key : ByteArray) (w : World) (hE : RdE w w.heap.size K es) (hf : es.length <= 5000) :
  Calls Tryz.prog 144 #[ptV K, .string key] w fun e w' => ∃ (v : Value) (T : List ByteArray), e = .returned v /\ w'.ownsRow w.heap.size 9 1 v T.length (T.map Value.string) /\ T.length <= 5001 /\ (∀ x, x ∈ T ↔ Reach es key x) /\ Bw w w' := by
 have HE := kp hE
 clear hE
 have hq := q32
 obtain ⟨m, hm⟩ := eY es.length
 rw [hm] at hf
 have HM := kp hm
 have hbase : w.heap.size <= w.heap.size := lR _
 clear hm
 unfold ptV
 go_enter Tryz.func144, Tryz.ntmps144
 go_wp2_with fail
 go_loopw [5, 6] (fun s5 s6 wr => ∃ (i n c : Nat) (A : Option Addr) (T : List ByteArray), i <= n /\ n <= 5001 /\ s5 = .slice A n c /\ s6 = .int .i64 i /\ Hid (T.length = n) /\ Hid (BelI es key i T) /\ Hid (wr.ownsRow w.heap.size 9 1 (.slice A n c) n (T.map Value.string)) /\ Hid (Bw w wr)) (fun _ j _ => 6000 - (intOf j).toNat)
 case atStart => exact ⟨0, 1, 1, _, [key], by omega, by omega, rfl, by go_num, kp rfl, kp (BelI.start es key), kp (kC_ w 9 [.string key] (by simp [maxLen])), kp ((BR _ w).alloc (lR _) _)⟩
 obtain ⟨i, n, c, A, T, hi, hn5, rfl, rfl, HN, HI, HO, HB⟩ := hrel
 have hmx : m <= 9223372036854775807 := by omega
 by_cases hlt : i < n
 ·obtain ⟨w5, rfl⟩ := eX wr
  have hg : decide ((i : Int) < (n : Int)) = true := eT_ (by omega)
  obtain ⟨a, ha⟩ : ∃ x, T[i]? = some x := ⟨T[i]'(by rw [HN.o]; exact hlt), gE _⟩
  have HA := kp ha
  clear ha
  go_wp2_with fail
  go_loopw [5, 7] (fun s5 s7 wr => ∃ (q n' c' : Nat) (A' : Option Addr) (T' : List ByteArray), q <= m /\ n' <= 5001 /\ i < n' /\ s5 = .slice A' n' c' /\ s7 = .int .i64 q /\ Hid (T'.length = n') /\ Hid (BelI es key i T') /\ Hid (T'[i]? = some a) /\ Hid (∀ p e, p < q -> es[p]? = some e -> e.1 = a -> e.2 ∈ T') /\ Hid (wr.ownsRow w.heap.size 9 1 (.slice A' n' c') n' (T'.map Value.string)) /\ Hid (Bw w wr)) (fun _ j _ => m - (intOf j).toNat)
  case atStart => exact ⟨0, n, c, A, T, Nat.zero_le _, hn5, hlt, rfl, by go_num, HN, HI, HA, kp (fun p e h => by omega), HO, HB⟩
  obtain ⟨q, n', c', A', T', hq1, hn5', hin, rfl, rfl, Ab, Ad, Af, HD, Ac, Aa⟩ := hrel
  obtain ⟨hK, Ae, ce, e1, hel⟩ := HE.o.below Aa.o (lR _)
  rw [HM.o] at e1
  by_cases hlt2 : q < m
  ·obtain ⟨⟨x, y⟩, hx⟩ : ∃ x, es[q]? = some x := ⟨es[q]'(by rw [HM.o]; exact hlt2), gE _⟩
   obtain ⟨b, rfl, hbB, e2, e3⟩ := hel q _ hx
   have hg2 : decide ((q : Int) < (m : Int)) = true := eT_ (by omega)
   have hi1 : (q : Int) < (m : Int) := by omega
   have hi2 : (i : Int) < (n' : Int) := by omega
   obtain ⟨g, cap, cur, hA', _⟩ := Ac.o.2.resolve_left (fun h => by omega)
   obtain ⟨rfl, rfl⟩ : A' = some ⟨g, 0, none⟩ /\ c' = cap := by cases hA'; exact ⟨rfl, rfl⟩
   have e4 : wr.cell? ⟨g, i, none⟩ = some (.string a) := by
    rw [Ac.o.cellAt i (by omega), gM, Af.o]
    rfl
   have HX := kp hx
   clear hx hel hA' hlt hg hlt2
   by_cases hxa : x = a
   ·subst hxa
    have h2 := aQ_ x
    have hel' := dC_ (enc := Value.string) (xs := T') (by rw [Ab.o]; exact Ac.o)
    obtain ⟨A2, c2, hA2, hel2, _⟩ := hel'
    obtain ⟨rfl, rfl⟩ : A2 = some ⟨g, 0, none⟩ /\ c2 = c' := by cases hA2; exact ⟨rfl, rfl⟩
    obtain ⟨r, hr⟩ := eY (hasS T' y)
    obtain ⟨H147, HR⟩ := kq2 (show ∀ k, Calls Tryz.prog 147 #[.slice (some ⟨g, 0, none⟩) n' c2, .string y] (wr.drewN k) (bX_ (.bool r) (wr.drewN k)) from fun k => hr ▸ jJ_ _ n' c2 _ T' y _ Ab.o (by unfold maxLen; omega) (hel2.below (ag_ wr k) (lR _))) hr
    clear hr hA2 hel2
    go_wp2_with fail
    go_quiet ((go_at_call 147; exact Calls.quiet_of_same (H147.o _)))
    cases r
    case true =>
     have Ag := kp (show ∀ p e, p < q + 1 -> es[p]? = some e -> e.1 = x -> e.2 ∈ T' from fun p e hp he hea => by
      rcases Nat.lt_succ_iff_lt_or_eq.1 hp with h | h
      ·exact HD.o p e h he hea
      subst h
      rw [HX.o] at he
      cases he
      exact hasS_iff.1 HR.o)
     clear H147
     go_wp2_with fail
     go_roundw
     case rel => exact ⟨q + 1, n', _, _, T', by omega, hn5', hin, rfl, by go_num, Ab, Ad, Af, Ag, Ac, kp ⟨Aa.o.os, Aa.o.tape, Aa.o.output, Aa.o.size, Aa.o.block⟩⟩
     simp [intOf]; omega
    case false =>
     have hIP := Ad.o.push Af.o (mG HX.o) HR.o
     have hlen : n' + 1 <= 5001 := by
      have := hIP.few
      rw [HM.o] at this
      simp [Ab.o] at this
      omega
     have Aj := kp hIP
     have Ag := kp (show ∀ p e, p < q + 1 -> es[p]? = some e -> e.1 = x -> e.2 ∈ T' ++ [y] from fun p e hp he hea => by
      rcases Nat.lt_succ_iff_lt_or_eq.1 hp with h | h
      ·exact List.mem_append_left _ (HD.o p e h he hea)
      subst h
      rw [HX.o] at he
      cases he
      simp)
     have hbs : w.heap.size <= ((wr.drewN nq).alloc (.cells #[.string y] 9)).heap.size := lT Aa.o.size (by show wr.heap.size <= _; simp [World.alloc, World.drewN])
     obtain ⟨Am, Al, Ai, Ah⟩ := kq4 (show Bw w ((wr.drewN nq).alloc (.cells #[.string y] 9)) from (show Bw w (wr.drewN nq) from ⟨Aa.o.os, Aa.o.tape, Aa.o.output, Aa.o.size, Aa.o.block⟩).alloc Aa.o.size _) hbs (show ((wr.drewN nq).alloc (.cells #[.string y] 9)).ownsRow w.heap.size 9 1 (.slice (some ⟨g, 0, none⟩) n' c2) n' (T'.map Value.string) from World.ownsRow.alloc Ac.o _) (show Src ((wr.drewN nq).alloc (.cells #[.string y] 9)) (some ⟨wr.heap.size, 0, none⟩) 1 1 [Value.string y] from db_ (wr.drewN nq) 9 (.string y))
     clear H147 hIP hbs
     go_wp2_with ((with_reducible refine ae_ (o := ⟨some 61, _, _, _, _, _⟩) rfl _ _ 32 rfl w.heap.size 9 (.string ⟨#[]⟩) 1 16 Tryz.underlying32 Tryz.info9 ?_ ?_ _ n' (T'.map Value.string) ?_ Ai.o (some ⟨wr.heap.size, 0, none⟩) 1 1 [.string y] ?_ ?_ Ah.o ?_ ?_ ?_ Al.o ?_); (· rfl); (· decide); (· rfl); (· rfl); (· rfl); (· simp [Value.oneCell']); (· unfold maxLen; omega); (· omega); intro v1 w1 hown1 _ hb1; obtain ⟨A1, c1, rfl⟩ := ax_ hown1)
     go_roundw
     case rel => exact ⟨q + 1, n' + 1, c1, _, T' ++ [y], by omega, hlen, by omega, rfl, by go_num, kp (by simp [Ab.o]), Aj, kp (by rw [aL (by rw [Ab.o]; exact hin)]; exact Af.o), Ag, kp (by rw [List.map_append]; exact hown1), kp (Am.o.trans hb1)⟩
     simp [intOf]; omega
   have h2 : (x.toList == a.toList) = false := bl_ hxa
   have Ag := kp (show ∀ p e, p < q + 1 -> es[p]? = some e -> e.1 = a -> e.2 ∈ T' from fun p e hp he hea => by
    rcases Nat.lt_succ_iff_lt_or_eq.1 hp with h | h
    ·exact HD.o p e h he hea
    subst h
    rw [HX.o] at he
    cases he
    exact absurd hea hxa)
   clear hxa
   go_wp2_with fail
   go_quiet (fail)
   go_wp2_with fail
   go_roundw
   case rel => exact ⟨q + 1, n', c', _, T', by omega, hn5', hin, rfl, by go_num, Ab, Ad, Af, Ag, Ac, kp ⟨Aa.o.os, Aa.o.tape, Aa.o.output, Aa.o.size, Aa.o.block⟩⟩
   simp [intOf]; omega
  obtain rfl : q = m := by omega
  have hg2 : decide ((q : Int) < (q : Int)) = false := by simp
  have Ak := kp (show BelI es key (i + 1) T' from ⟨Ad.o.has, Ad.o.reach, fun j x hj hx y hy => by
   rcases Nat.lt_succ_iff_lt_or_eq.1 hj with h | h
   ·exact Ad.o.done j x h hx y hy
   subst h
   rw [Af.o] at hx
   cases hx
   obtain ⟨p, hp⟩ := mI.1 (mem_kids.1 hy)
   have := (gS.1 hp).1
   exact HD.o p _ (by rw [<- HM.o]; exact this) hp rfl, Ad.o.few⟩)
  clear hel hlt
  go_wp2_with fail
  go_roundw
  case rel => exact ⟨i + 1, n', c', _, T', by omega, hn5', rfl, by go_num, Ab, Ak, Ac, Aa⟩
  simp [intOf]; omega
 obtain rfl : i = n := by omega
 have hg : decide ((i : Int) < (i : Int)) = false := by simp
 have HP := kp (show ∀ x, x ∈ T ↔ Reach es key x from fun x => ⟨HI.o.reach x, fun h => h.closed HI.o.has fun y hy z hz => by
  obtain ⟨j, hj⟩ := mI.1 hy
  have := (gS.1 hj).1
  exact HI.o.done j y (by rw [<- HN.o]; exact this) hj z hz⟩)
 go_wp2_with fail
 go_ret
 exact ⟨_, T, rfl, by rw [HN.o]; exact HO.o, by rw [HN.o]; exact hn5, HP.o, HB.o⟩
theorem jA_ {α β : Type} (f : Nat -> α -> β) (l : List α) (i : Nat) (x : α) : (l.set i x).mapIdx f = (l.mapIdx f).set i (f i x) := by
 apply List.ext_getElem?
 intro j
 rw [List.getElem?_mapIdx, List.getElem?_set, List.getElem?_set, List.getElem?_mapIdx, List.length_mapIdx]
 by_cases h : i = j
 ·subst h
  by_cases hl : i < l.length <;> simp [hl]
 simp [h]
section
variable {w w' : World} {lim : LimP} {K : Nat} {grace : Int} {ws : List WrR} {es : Edges} {s : KS}
theorem hO_ {i j : Nat} {x x' : WrR} {v : Value} (hi : ws[i]? = some x) (hj : j < 6) (hr : aP_ s.vals i x' = (aP_ s.vals i x).set j v) : br_ s.vals (ws.set i x') = (br_ s.vals ws).set (i * 6 + j) v := by
 unfold br_
 rw [cB_ 6 _ i j v (aP_ s.vals i x) el_ (by rw [List.getElem?_mapIdx, hi]; rfl) hj, jA_, hr]
theorem KI.set (h : KI w lim K grace ws es s) {g n c : Nat} (hwv : s.wv = .slice (some ⟨g, 0, none⟩) n c) {i j : Nat} {x x' : WrR} {v : Value} (hi : ws[i]? = some x) (hj : j < 6)
  (hr : aP_ s.vals i x' = (aP_ s.vals i x).set j v) (hv : x'.val = x.val /\ x'.tags = x.tags /\ IsT x'.soft /\ IsT x'.dl) : KI (w.setCell ⟨g, i * 6 + j, none⟩ v) lim K grace (ws.set i x') es s /\ Kept [g] w (w.setCell ⟨g, i * 6 + j, none⟩ v) /\ lim <= g := by
 have ho := h.own
 rw [hwv] at ho
 obtain ⟨rfl, _⟩ : n = ws.length /\ True := by
  rcases h.own.2 with ⟨h1, _⟩ | ⟨g', cap, cur, h1, _⟩
  ·rw [hwv] at h1; cases h1
  rw [hwv] at h1; cases h1; exact ⟨rfl, trivial⟩
 have hg : lim <= g /\ g < w.heap.size := ho.lt g rfl
 have hk : Kept [g] w (w.setCell ⟨g, i * 6 + j, none⟩ v) := (Kept.refl _ w).setCell (p := ⟨g, i * 6 + j, none⟩) (by simp) v
 have old : ∀ (k : Nat) (y' : WrR), (ws.set i x')[k]? = some y' -> ∃ y, ws[k]? = some y /\ y'.val = y.val /\ y'.tags = y.tags /\ IsT y'.soft /\ IsT y'.dl := fun k y' hy => by
  rw [List.getElem?_set] at hy
  by_cases e : i = k
  ·subst e
   rw [if_pos rfl] at hy
   by_cases hl : i < ws.length
   ·simp [hl] at hy
    subst hy
    exact ⟨x, hi, hv⟩
   simp [hl] at hy
  rw [if_neg e] at hy
  have := h.times y' (mG hy)
  exact ⟨y', hy, rfl, rfl, this.1, this.2⟩
 have hd : ∀ {v' : Value} {m : Nat} {xs : List Value} {e : TypeId} {size base : Nat}, w.ownsRow base e size v' m xs -> e ≠ 233 -> (w.setCell ⟨g, i * 6 + j, none⟩ v).ownsRow base e size v' m xs := fun hx he => hk.own2 hx fun k hk' => by
  simp at hk'
  subst hk'
  rcases bB_ hx ho he with h1 | h1
  ·rw [h1]; simp
  exact h1
 refine ⟨⟨?_, h.isT, ?_, hd h.ownE (by decide), by simpa using h.few, h.fewE, fun y hy => ?_, fun k y hy => ?_, fun k y hy => ?_, h.lK, lT h.lw hk.size, fun g' l hg' => hk.row (by simp; intro e; exact ((h.fix g' l hg').ne_own ho (by decide)) (by rw [e]; rfl)) (h.fix g' l hg')⟩, hk, hg.1⟩
 ·exact hk.row (by simp; intro e; exact (h.row.ne_own ho (by decide)) (by rw [e]; rfl)) h.row
 ·rw [hwv, List.length_set, hO_ hi hj hr]
  exact (ho.stored (i * 6 + j) v).1
 ·obtain ⟨k, hk2⟩ := mI.1 hy
  obtain ⟨_, _, _, _, h1, h2⟩ := old k y hk2
  exact ⟨h1, h2⟩
 ·obtain ⟨z, h1, h2, _⟩ := old k y hy
  rw [h2]
  exact (h.vals1 k z h1).below (hk.below h.lw fun p hp => by simp at hp; subst hp; exact hg.1) (lR _)
 obtain ⟨z, h1, _, h2, _⟩ := old k y hy
 obtain ⟨ts, t0, t1, t2⟩ := h.vals2 k z h1
 exact ⟨ts, t0, hd t1 (by decide), fun t => by rw [t2, h2]⟩
end
def c3_ (T : List ByteArray) (i : Nat) (ws : List WrR) : List WrR := (ws.take i).map (bC_ T) ++ ws.drop i
theorem jz_ (T : List ByteArray) (ws : List WrR) : c3_ T 0 ws = ws := by simp [c3_]
theorem kK_ (T : List ByteArray) (ws : List WrR) : c3_ T ws.length ws = a2_ T ws := by simp [c3_, a2_]
theorem ex_ (T : List ByteArray) (i : Nat) (ws : List WrR) : (c3_ T i ws).length = ws.length := by
 simp [c3_]
 omega
theorem dh_ {T : List ByteArray} {i : Nat} {ws : List WrR} {x : WrR} (h : ws[i]? = some x) : (c3_ T i ws)[i]? = some x := by
 have hl := (gS.1 h).1
 unfold c3_
 rw [aR (by simp; omega)]
 simp [Nat.min_eq_left (Nat.le_of_lt hl), h]
theorem fF_ {T : List ByteArray} {i : Nat} {ws : List WrR} {x : WrR} (h : ws[i]? = some x) : c3_ T (i + 1) ws = (c3_ T i ws).set i (bC_ T x) := by
 have hl := (gS.1 h).1
 unfold c3_
 rw [tA, h, List.set_append_right _ _ (by simp; omega)]
 have e : ws.drop i = x :: ws.drop (i + 1) := by
  rw [List.drop_eq_getElem_cons hl]
  rw [gE hl] at h
  rw [Option.some.inj h]
 rw [e]
 simp [Nat.min_eq_left (Nat.le_of_lt hl)]
theorem fG_ {T : List ByteArray} {i : Nat} {ws : List WrR} {x : WrR} (h : ws[i]? = some x) (hm : bC_ T x = x) : c3_ T (i + 1) ws = c3_ T i ws := by
 rw [fF_ h, hm]
 apply List.ext_getElem?
 intro j
 rw [List.getElem?_set]
 by_cases e : i = j
 ·subst e
  have hl := (gS.1 (dh_ (T := T) h)).1
  rw [if_pos rfl, dh_ h]
  simp [hl]
 rw [if_neg e]
theorem dE_ (w : World) (lim : LimP) (K : Nat) (grace : Int) (ws : List WrR) (es : Edges) (s : KS) (h : KI w lim K grace ws es s) (A : Option Addr) (n c base : Nat) (T : List ByteArray) (hT : w.ownsRow base 9 1 (.slice A n c) n (T.map Value.string)) (hl : n <= 5001) :
  Calls Tryz.prog 143 #[ptV K, .slice A n c] w fun e w' => e = .returned (.tuple #[]) /\ KI w' lim K grace (a2_ T ws) es s /\ Kept s.wv.ownBlock.toList w w' := by
 obtain ⟨m, hm⟩ := eY ws.length
 have hm5 : m <= 5000 := by rw [<- hm]; exact h.few
 obtain ⟨HM, HH, HT⟩ := kq3 hm h hT
 clear h hm hT
 unfold ptV
 go_enter Tryz.func143, Tryz.ntmps143
 go_wp2_with fail
 go_loopw [4] (fun s4 wr => ∃ (i : Nat), i <= m /\ s4 = .int .i64 i /\ Hid (KI wr lim K grace (c3_ T i ws) es s) /\ Hid (Kept s.wv.ownBlock.toList w wr)) (fun j _ => m - (intOf j).toNat)
 case atStart => exact ⟨0, Nat.zero_le _, by go_num, kp (by rw [jz_]; exact HH.o), kp (Kept.refl _ _)⟩
 obtain ⟨i, hi, rfl, HI, HK⟩ := hrel
 have hmx : m <= 9223372036854775807 := by omega
 have hc1 : wr.cell? ⟨K, 1, none⟩ = some s.wv := HI.o.row.cell (j := 1) rfl
 obtain ⟨A1, c1, hwv⟩ : ∃ A1 c1, s.wv = .slice A1 m c1 := by
  rcases HI.o.own.2 with ⟨h1, h2⟩ | ⟨g', cap, cur, h1, _⟩
  ·rw [ex_, HM.o] at h2
   exact ⟨none, 0, by rw [h1, h2]⟩
  rw [ex_, HM.o] at h1
  exact ⟨_, _, h1⟩
 rw [hwv] at hc1
 have Aa := kp hwv
 clear hwv
 by_cases hlt : i < m
 ·obtain ⟨x, hx⟩ : ∃ x, ws[i]? = some x := ⟨ws[i]'(by rw [HM.o]; exact hlt), gE _⟩
  have hx' := dh_ (T := T) hx
  have hg : decide ((i : Int) < (m : Int)) = true := eT_ (by omega)
  have hi1 : (i : Int) < (m : Int) := by omega
  have ho := HI.o.own
  rw [ex_, HM.o, Aa.o] at ho
  obtain ⟨g, rfl⟩ : ∃ g, A1 = some ⟨g, 0, none⟩ := by
   rcases ho.2 with ⟨_, h2⟩ | ⟨g', cap, cur, h1, _⟩
   ·omega
   cases h1; exact ⟨g', rfl⟩
  have e4 : wr.cell? ⟨g, i * 6 + 4, none⟩ = some (.int .i64 x.gone) := by
   rw [ho.cellAt (i * 6 + 4) (by omega), bo_ hx' (by omega)]
   rfl
  have e0 : wr.cell? ⟨g, i * 6, none⟩ = some (.string x.key) := by
   have := bo_ (s := s) (j := 0) hx' (by omega)
   rw [ho.cellAt (i * 6) (by omega)]
   exact this
  have e5 : wr.frozen? ⟨g, i * 6 + 4, none⟩ = false := ho.frozenAt _
  have HX := kp hx
  clear hx hx' ho hlt
  obtain ⟨gone, hgone⟩ := eY x.gone
  obtain ⟨xk, hxk⟩ := eY x.key
  rw [hgone] at e4
  rw [hxk] at e0
  by_cases hgo : gone = 0
  ·subst hgo
   have hTr := HK.o.own2 HT.o fun k hk => by
    rcases bB_ HT.o HH.o.own (by decide) with h1 | h1
    ·rw [h1]; simp
    intro e
    rw [e] at h1
    simp at hk
    exact h1 hk.symm
   have hTn : T.length = n := by simpa using hTr.1
   obtain ⟨A2, c2, hA2, hel2, _⟩ := dC_ (enc := Value.string) (xs := T) (by rw [hTn]; exact hTr)
   obtain ⟨rfl, rfl⟩ : A2 = A /\ c2 = c := by cases hA2; exact ⟨rfl, rfl⟩
   obtain ⟨r, hr⟩ := eY (hasS T xk)
   obtain ⟨H147, HR, Ac, Ab⟩ := kq4 (hr ▸ jJ_ A2 n c2 _ T xk wr hTn (by unfold maxLen; omega) hel2) hr hgone hxk
   clear hr hgone hxk hTr hA2 hel2 hTn
   go_wp2_with fail
   refine H147.o.mono ?_
   rintro e w5 ⟨rfl, rfl⟩
   obtain ⟨wr, rfl⟩ := eX w5
   clear H147
   cases r
   case false =>
    have HS := kp (fG_ (T := T) HX.o (by unfold bC_; rw [if_neg (fun a => by rw [Ab.o, HR.o] at a; cases a.2)]))
    go_wp2_with fail
    go_roundw
    case rel => exact ⟨i + 1, by omega, by go_num, kp (by rw [HS.o]; exact HI.o), HK⟩
    simp [intOf]; omega
   case true =>
    have hm1 : bC_ T x = { x with gone := 3 } := by unfold bC_; rw [if_pos ⟨Ac.o, by rw [Ab.o]; exact HR.o⟩]
    have ht := HI.o.times x (mG (dh_ HX.o))
    obtain ⟨k1, k2, _⟩ := HI.o.set (j := 4) (v := .int .i64 3) Aa.o (dh_ HX.o) (by omega) (x' := { x with gone := 3 }) rfl ⟨rfl, rfl, ht.1, ht.2⟩
    obtain ⟨K1, K2⟩ := kq2 (show KI (wr.setCell ⟨g, i * 6 + 4, none⟩ (.int .i64 3)) lim K grace (c3_ T (i + 1) ws) es s by rw [fF_ HX.o, hm1]; exact k1) (show Kept s.wv.ownBlock.toList w (wr.setCell ⟨g, i * 6 + 4, none⟩ (.int .i64 3)) from HK.o.trans (k2.mono fun p hp => by rw [Aa.o]; simpa [Value.ownBlock] using hp))
    clear hm1 ht k1 k2
    go_wp2_with fail
    go_roundw
    case rel => exact ⟨i + 1, by omega, by go_num, K1, K2⟩
    simp [intOf]; omega
  have h2 : (gone == 0) = false := by simpa using hgo
  have HS := kp (fG_ (T := T) HX.o (by unfold bC_; rw [if_neg (fun a => hgo (hgone ▸ a.1))]))
  clear hgone hxk
  go_wp2_with fail
  go_roundw
  case rel => exact ⟨i + 1, by omega, by go_num, kp (by rw [HS.o]; exact HI.o), HK⟩
  simp [intOf]; omega
 obtain rfl : i = m := by omega
 have hg : decide ((i : Int) < (i : Int)) = false := by simp
 have HP := kp (show KI wr lim K grace (a2_ T ws) es s by rw [<- kK_, HM.o]; exact HI.o)
 go_wp2_with fail
 go_end0
 exact ⟨rfl, HP.o, HK.o⟩
theorem fX_ {w : World} {base g n cap : Nat} {us : List ByteArray} (h : w.ownsRow base 9 1 (.slice (some ⟨g, 0, none⟩) n cap) n (us.map Value.string)) (lo m c : Nat) (hm : lo + m <= n) : Src w (some ⟨g, lo, none⟩) m c (((us.drop lo).take m).map Value.string) := by
 refine .inr ⟨_, rfl, fun j u hj => ?_⟩
 rw [gM] at hj
 obtain ⟨x, hx, rfl⟩ := Option.map_eq_some_iff.1 hj
 have hj' : j < m := by
  have := (gS.1 hx).1
  simp at this; omega
 rw [List.getElem?_take_of_lt hj', List.getElem?_drop] at hx
 rw [Addr.add_mid, h.cellAt (lo + j) (by omega), gM, hx]
 rfl
theorem jm_ (A : Option Addr) (n c B : Nat) (ts : List ByteArray) (w : World) (hn : ts.length = n) (hl : n <= 16) (hok : ∀ t ∈ ts, a7_ t = true) (hB : B <= w.heap.size) (hA : ElV Value.string w B A ts) :
  Calls Tryz.prog 145 #[.slice A n c] w fun e w' => ∃ (v : Value) (us : List ByteArray), e = .returned (.tuple #[v, .int .i64 0]) /\ w'.ownsRow w.heap.size 9 1 v us.length (us.map Value.string) /\ us.length <= 16 /\ (∀ t, t ∈ us ↔ t ∈ ts) /\ Bw w w' := by
 obtain ⟨HN, HA, Ba, As⟩ := kq4 hn hA hok hB
 clear hn hA hok hB
 go_enter Tryz.func145, Tryz.ntmps145
 go_wp2_with fail
 go_loopw [4, 5] (fun s4 s5 wr => ∃ (i m c0 : Nat) (A0 : Option Addr) (us : List ByteArray), i <= n /\ m <= i /\ s4 = .slice A0 m c0 /\ s5 = .int .i64 i /\ Hid (us.length = m) /\ Hid (∀ t, t ∈ us ↔ t ∈ ts.take i) /\ Hid (wr.ownsRow w.heap.size 9 1 (.slice A0 m c0) m (us.map Value.string)) /\ Hid (Bw w wr)) (fun _ j _ => n - (intOf j).toNat)
 case atStart => exact ⟨0, 0, 0, none, [], by omega, by omega, rfl, by go_num, kp rfl, kp (by simp), kp (World.ownsRow_nil w _ _ _), kp (BR _ _)⟩
 obtain ⟨i, m, c0, A0, us, hi, hmi, rfl, rfl, HL, HM, HO, HB⟩ := hrel
 by_cases hlt : i < n
 ·obtain ⟨x, hx⟩ : ∃ x, ts[i]? = some x := ⟨ts[i]'(by rw [HN.o]; exact hlt), gE _⟩
  obtain ⟨b, o, rfl, hbX, c1⟩ := HA.o i x hx
  have c1 : wr.cell? ⟨b, o + i, none⟩ = some (.string x) := (HB.o.cell (p := ⟨b, o + i, none⟩) (lL hbX As.o)).trans c1
  obtain ⟨HX, HV⟩ := kq2 hx (Ba.o x (mG hx) ▸ hL_ x wr)
  clear hx
  have hg : decide ((i : Int) < (n : Int)) = true := eT_ (by omega)
  have hi1 : (i : Int) < (n : Int) := by omega
  obtain ⟨w5, rfl⟩ := eX wr
  go_wp2_with fail
  refine HV.o.mono ?_
  rintro e w6 ⟨rfl, rfl⟩
  clear HV
  go_wp2_with fail
  go_loopw [6] (fun s6 wr => ∃ (k : Nat), k <= m /\ s6 = .int .i64 k /\ Hid (wr.ownsRow w.heap.size 9 1 (.slice A0 m c0) m (us.map Value.string)) /\ Hid (Bw w wr)) (fun j _ => m - (intOf j).toNat)
  case atStart => exact ⟨0, by omega, by go_num, HO, HB⟩
  obtain ⟨k, hk, rfl, An, Ac⟩ := hrel
  have c2 : wr.cell? ⟨b, o + i, none⟩ = some (.string x) := (Ac.o.cell (p := ⟨b, o + i, none⟩) (lL hbX As.o)).trans ((HB.o.cell (p := ⟨b, o + i, none⟩) (lL hbX As.o)).symm.trans c1)
  by_cases hkm : k < m
  ·obtain ⟨g, cap, cur, hA0, _, _, hmc, hcm, _⟩ := An.o.2.resolve_left (fun h => by omega)
   obtain ⟨rfl, rfl⟩ : A0 = some ⟨g, 0, none⟩ /\ c0 = cap := by cases hA0; exact ⟨rfl, rfl⟩
   obtain ⟨y, hy⟩ : ∃ y, us[k]? = some y := ⟨us[k]'(by rw [HL.o]; exact hkm), gE _⟩
   have c4 : wr.cell? ⟨g, k, none⟩ = some (.string y) := by
    rw [An.o.cellAt k (by omega), gM, hy]
    rfl
   have HY := kp hy
   clear hy hA0
   have hg2 : decide ((k : Int) < (m : Int)) = true := eT_ (by omega)
   have hi2 : (k : Int) < (m : Int) := by omega
   obtain ⟨r, hr⟩ := eY (Op.bytesLess y.toList x.toList)
   go_wp2_with fail
   go_quiet (fail)
   obtain ⟨Ae, Aa⟩ := kq2 (show (wr.drewN nq).ownsRow w.heap.size 9 1 (.slice (some ⟨g, 0, none⟩) m c0) m (us.map Value.string) from An.o) (show Bw w (wr.drewN nq) from ⟨Ac.o.os, Ac.o.tape, Ac.o.output, Ac.o.size, Ac.o.block⟩)
   have c5 : (wr.drewN nq).cell? ⟨b, o + i, none⟩ = some (.string x) := c2
   have c6 : (wr.drewN nq).cell? ⟨g, k, none⟩ = some (.string y) := c4
   obtain ⟨wq, hwq⟩ := eX (wr.drewN nq)
   rw [<- hwq] at Ae Aa c5 c6 ⊢
   clear hwq c2 c4 An Ac hr c1
   cases r
   case true =>
    go_wp2_with fail
    go_roundw
    case rel => exact ⟨k + 1, by omega, by go_num, Ae, Aa⟩
    simp [intOf]; omega
   case false =>
    have g3 : ((k : Int) == (m : Int)) = false := by simp; omega
    by_cases hyx : y = x
    ·subst hyx
     have h2 := aQ_ y
     go_wp2_with fail
     go_quiet (fail)
     have Ak := kp (show ∀ t, t ∈ us ↔ t ∈ ts.take (i + 1) from fun t => by
      rw [tA, HX.o, List.mem_append, HM.o]
      simp only [Option.toList, List.mem_singleton]
      refine ⟨.inl, fun h => ?_⟩
      rcases h with h | h
      ·exact h
      subst h
      exact (HM.o _).1 (mG HY.o))
     go_wp2_with fail
     go_roundw
     case rel => exact ⟨i + 1, m, c0, _, us, by omega, by omega, rfl, by go_num, HL, Ak, Ae, kp ⟨Aa.o.os, Aa.o.tape, Aa.o.output, Aa.o.size, Aa.o.block⟩⟩
     simp [intOf]; omega
    have h2 : (y.toList == x.toList) = false := bl_ hyx
    go_wp2_with fail
    go_quiet (fail)
    obtain ⟨Aj, Ab⟩ := kq2 (show (wq.drewN nq).ownsRow w.heap.size 9 1 (.slice (some ⟨g, 0, none⟩) m c0) m (us.map Value.string) from Ae.o) (show Bw w (wq.drewN nq) from ⟨Aa.o.os, Aa.o.tape, Aa.o.output, Aa.o.size, Aa.o.block⟩)
    have c7 : (wq.drewN nq).cell? ⟨b, o + i, none⟩ = some (.string x) := c5
    obtain ⟨wp, hwp⟩ := eX (wq.drewN nq)
    rw [<- hwp] at Aj Ab c7 ⊢
    clear hwp c5 c6 Ae Aa h2
    have i1 : (k : Int) <= (c0 : Int) := by omega
    obtain ⟨Ao, H1, Af, Ax, Ai, Ap⟩ := kq6 (show Src wp (some ⟨g, 0, none⟩) k c0 ((us.take k).map Value.string) from fX_ Aj.o 0 k c0 (by omega)) (fun xs : List ByteArray => ig_ (enc := Value.string) (fun _ => rfl) xs) (show ((us.take k).map Value.string).length = k * 1 by simp [HL.o] <;> omega) (fun (W : World) (hW : Bw wp W) => (show W.cell? ⟨b, o + i, none⟩ = some (.string x) from (hW.cell (p := ⟨b, o + i, none⟩) (lL hbX (lT As.o Ab.o.size))).trans c7)) (World.ownsRow_nil wp wp.heap.size 9 1) (lR wp.heap.size)
    go_upto_region 12 with ((with_reducible refine ae_ (o := ⟨some 55, _, _, _, _, _⟩) rfl _ _ 32 rfl wp.heap.size 9 (.string ⟨#[]⟩) 1 16 Tryz.underlying32 Tryz.info9 ?_ ?_ _ _ _ ?_ Ai.o (some ⟨g, 0, none⟩) k c0 ((us.take k).map Value.string) ?_ ?_ Ao.o ?_ ?_ ?_ Ap.o ?_); (· rfl); (· decide); (· rfl); (· rfl); (· exact Af.o); (· exact H1.o _); (· unfold maxLen; omega); (· omega); intro v1 w1 hown1 _ hb1; obtain ⟨A1, c1, rfl⟩ := ax_ hown1)
    simp only [Nat.zero_add, List.nil_append] at hown1
    have c8 := Ax.o w1 hb1
    obtain ⟨Ad, Ar, Ag⟩ := kq3 (hb1.alloc hb1.size (.cells #[.string x] 9)) (World.ownsRow.alloc hown1 (.cells #[.string x] 9)) (db_ w1 9 (.string x))
    have Ah := kp (Ad.o.size)
    clear hown1 hb1 Ai Ap Ao Af c7
    go_upto_region 13 with ((with_reducible refine ae_ (o := ⟨some 62, _, _, _, _, _⟩) rfl _ _ 32 rfl wp.heap.size 9 (.string ⟨#[]⟩) 1 16 Tryz.underlying32 Tryz.info9 ?_ ?_ _ _ _ ?_ Ar.o (some ⟨w1.heap.size, 0, none⟩) 1 1 [.string x] ?_ ?_ Ag.o ?_ ?_ ?_ Ah.o ?_); (· rfl); (· decide); (· rfl); (· rfl); (· rfl); (· exact H1.o [x]); (· unfold maxLen; omega); (· omega); intro v2 w2 hown2 _ hb2; obtain ⟨A2, c2, rfl⟩ := ax_ hown2)
    have hb6 := Ad.o.trans hb2
    have Al := kp hb6.size
    have Az := kp (show Src w2 (some ⟨g, k, none⟩) (m - k) (c0 - k) ((us.drop k).map Value.string) from by
     have := fX_ ((Kept.of_below (L := []) hb6).own2 Aj.o (by simp)) k (m - k) (c0 - k) (by omega)
     rwa [tL (by simp [HL.o])] at this)
    obtain ⟨Af, Au, Am⟩ := kq3 (show ((us.drop k).map Value.string).length = (m - k) * 1 by simp [HL.o]) hb6 hown2
    have i2 : (k : Int) <= (m : Int) := by omega
    clear hown2 hb2 hb6 Ag Ah Ar Ad c8
    go_wp2_with ((with_reducible refine ae_ (o := ⟨some 67, _, _, _, _, _⟩) rfl _ _ 32 rfl wp.heap.size 9 (.string ⟨#[]⟩) 1 16 Tryz.underlying32 Tryz.info9 ?_ ?_ _ _ _ ?_ Am.o (some ⟨g, k, none⟩) (m - k) (c0 - k) ((us.drop k).map Value.string) ?_ ?_ Az.o ?_ ?_ ?_ Al.o ?_); (· rfl); (· decide); (· rfl); (· rfl); (· exact Af.o); (· exact H1.o _); (· unfold maxLen; omega); (· omega); intro v3 w3 hown3 _ hb3; obtain ⟨A3, c3, rfl⟩ := ax_ hown3)
    have Ak := kp (show ∀ t, t ∈ us.take k ++ [x] ++ us.drop k ↔ t ∈ ts.take (i + 1) from fun t => by
     rw [tA, HX.o, List.mem_append (s := ts.take i), <- HM.o]
     conv => rhs; rw [<- List.take_append_drop k us]
     simp only [Option.toList, List.mem_append, List.mem_singleton]
     exact ⟨fun h => (by rcases h with (h | h) | h; exact .inl (.inl h); exact .inr h; exact .inl (.inr h)), fun h => (by rcases h with (h | h) | h; exact .inl (.inl h); exact .inr h; exact .inl (.inr h))⟩)
    have Aw := kp (show (us.take k ++ [x] ++ us.drop k).length = k + 1 + (m - k) by simp [HL.o] <;> omega)
    have Aq := kp (show w3.ownsRow w.heap.size 9 1 (.slice A3 (k + 1 + (m - k)) c3) (k + 1 + (m - k)) ((us.take k ++ [x] ++ us.drop k).map Value.string) from by
     simp only [List.map_append, List.map_cons, List.map_nil]
     exact bh_ hown3 Ab.o.size)
    have At := kp (show Bw w w3 from Ab.o.trans ((Au.o.trans hb3).mono Ab.o.size))
    clear hown3 hb3
    go_roundw
    case rel => exact ⟨i + 1, k + 1 + (m - k), c3, A3, _, by omega, by omega, rfl, by go_num, Aw, Ak, Aq, At⟩
    simp [intOf]; omega
  obtain rfl : k = m := by omega
  have hg2 : decide ((k : Int) < (k : Int)) = false := by simp
  have g3 : ((k : Int) == (k : Int)) = true := by simp
  go_wp2_with fail
  go_quiet (fail)
  obtain ⟨Ae, Aa⟩ := kq2 (show (wr.drewN nq).ownsRow w.heap.size 9 1 (.slice A0 k c0) k (us.map Value.string) from An.o) (show Bw w (wr.drewN nq) from ⟨Ac.o.os, Ac.o.tape, Ac.o.output, Ac.o.size, Ac.o.block⟩)
  have c5 : (wr.drewN nq).cell? ⟨b, o + i, none⟩ = some (.string x) := c2
  obtain ⟨wq, hwq⟩ := eX (wr.drewN nq)
  rw [<- hwq] at Ae Aa c5 ⊢
  clear hwq c2 An Ac c1
  go_wp2_with fail
  go_quiet (fail)
  obtain ⟨Aj, Ab⟩ := kq2 (show (wq.drewN nq).ownsRow w.heap.size 9 1 (.slice A0 k c0) k (us.map Value.string) from Ae.o) (show Bw w (wq.drewN nq) from ⟨Aa.o.os, Aa.o.tape, Aa.o.output, Aa.o.size, Aa.o.block⟩)
  have c7 : (wq.drewN nq).cell? ⟨b, o + i, none⟩ = some (.string x) := c5
  obtain ⟨wp, hwp⟩ := eX (wq.drewN nq)
  rw [<- hwp] at Aj Ab c7 ⊢
  clear hwp c5 Ae Aa
  rcases Aj.o.2 with ⟨hA0, hk0⟩ | ⟨g, cap, cur, hA0, _, _, hmc, hcm, _⟩
  ·obtain ⟨rfl, rfl⟩ : A0 = none /\ c0 = 0 := by cases hA0; exact ⟨rfl, rfl⟩
   subst hk0
   obtain rfl : us = [] := eN HL.o
   obtain ⟨H1, Ai, Ad, Ag⟩ := kq4 (fun xs : List ByteArray => ig_ (enc := Value.string) (fun _ => rfl) xs) (World.ownsRow_nil (wp.alloc (.cells #[.string x] 9)) wp.heap.size 9 1) ((BR wp.heap.size wp).alloc (lR _) (.cells #[.string x] 9)) (db_ wp 9 (.string x))
   have Ah := kp (Ad.o.size)
   have Ak := kp (show ∀ t, t ∈ [x] ↔ t ∈ ts.take (i + 1) from fun t => by
    rw [tA, HX.o, List.mem_append (s := ts.take i), <- HM.o]
    simp)
   clear hA0
   go_upto_region 13 with ((with_reducible refine ae_ (o := ⟨some 62, _, _, _, _, _⟩) rfl _ _ 32 rfl wp.heap.size 9 (.string ⟨#[]⟩) 1 16 Tryz.underlying32 Tryz.info9 ?_ ?_ _ _ _ ?_ Ai.o (some ⟨wp.heap.size, 0, none⟩) 1 1 [.string x] ?_ ?_ Ag.o ?_ ?_ ?_ Ah.o ?_); (· rfl); (· decide); (· rfl); (· rfl); (· rfl); (· exact H1.o [x]); (· unfold maxLen; omega); (· omega); intro v2 w2 hown2 _ hb2; obtain ⟨A2, c2, rfl⟩ := ax_ hown2)
   simp only [Nat.zero_add, List.nil_append] at hown2
   obtain ⟨Am, Av, Al, Au⟩ := kq4 hown2 (fun (W : World) => (show Src W none 0 0 [] from .inl ⟨rfl, rfl, fun _ => rfl⟩)) (Ad.o.trans hb2).size (Ad.o.trans hb2)
   clear hown2 hb2
   go_wp2_with ((with_reducible refine ae_ (o := ⟨some 67, _, _, _, _, _⟩) rfl _ _ 32 rfl wp.heap.size 9 (.string ⟨#[]⟩) 1 16 Tryz.underlying32 Tryz.info9 ?_ ?_ _ _ _ ?_ Am.o none 0 0 [] ?_ ?_ (Av.o _) ?_ ?_ ?_ Al.o ?_); (· rfl); (· decide); (· rfl); (· rfl); (· rfl); (· exact H1.o []); (· unfold maxLen; omega); (· omega); intro v3 w3 hown3 _ hb3; obtain ⟨A3, c3, rfl⟩ := ax_ hown3)
   obtain ⟨Aq, At⟩ := kq2 (show w3.ownsRow w.heap.size 9 1 (.slice A3 1 c3) 1 ([x].map Value.string) from bh_ hown3 Ab.o.size) (show Bw w w3 from Ab.o.trans ((Au.o.trans hb3).mono Ab.o.size))
   clear hown3 hb3
   go_roundw
   case rel => exact ⟨i + 1, 1, c3, A3, _, by omega, by omega, rfl, by go_num, kp rfl, Ak, Aq, At⟩
   simp [intOf]; omega
  obtain ⟨rfl, rfl⟩ : A0 = some ⟨g, 0, none⟩ /\ c0 = cap := by cases hA0; exact ⟨rfl, rfl⟩
  have i1 : (k : Int) <= (c0 : Int) := by omega
  clear hA0
  obtain ⟨Ao, H1, Af, Ax, Ai, Ap⟩ := kq6 (show Src wp (some ⟨g, 0, none⟩) k c0 ((us.take k).map Value.string) from fX_ Aj.o 0 k c0 (by omega)) (fun xs : List ByteArray => ig_ (enc := Value.string) (fun _ => rfl) xs) (show ((us.take k).map Value.string).length = k * 1 by simp [HL.o] <;> omega) (fun (W : World) (hW : Bw wp W) => (show W.cell? ⟨b, o + i, none⟩ = some (.string x) from (hW.cell (p := ⟨b, o + i, none⟩) (lL hbX (lT As.o Ab.o.size))).trans c7)) (World.ownsRow_nil wp wp.heap.size 9 1) (lR wp.heap.size)
  go_upto_region 12 with ((with_reducible refine ae_ (o := ⟨some 55, _, _, _, _, _⟩) rfl _ _ 32 rfl wp.heap.size 9 (.string ⟨#[]⟩) 1 16 Tryz.underlying32 Tryz.info9 ?_ ?_ _ _ _ ?_ Ai.o (some ⟨g, 0, none⟩) k c0 ((us.take k).map Value.string) ?_ ?_ Ao.o ?_ ?_ ?_ Ap.o ?_); (· rfl); (· decide); (· rfl); (· rfl); (· exact Af.o); (· exact H1.o _); (· unfold maxLen; omega); (· omega); intro v1 w1 hown1 _ hb1; obtain ⟨A1, c1, rfl⟩ := ax_ hown1)
  simp only [Nat.zero_add, List.nil_append] at hown1
  have c8 := Ax.o w1 hb1
  obtain ⟨Ad, Ar, Ag⟩ := kq3 (hb1.alloc hb1.size (.cells #[.string x] 9)) (World.ownsRow.alloc hown1 (.cells #[.string x] 9)) (db_ w1 9 (.string x))
  have Ah := kp (Ad.o.size)
  clear hown1 hb1 Ai Ap Ao Af c7
  go_upto_region 13 with ((with_reducible refine ae_ (o := ⟨some 62, _, _, _, _, _⟩) rfl _ _ 32 rfl wp.heap.size 9 (.string ⟨#[]⟩) 1 16 Tryz.underlying32 Tryz.info9 ?_ ?_ _ _ _ ?_ Ar.o (some ⟨w1.heap.size, 0, none⟩) 1 1 [.string x] ?_ ?_ Ag.o ?_ ?_ ?_ Ah.o ?_); (· rfl); (· decide); (· rfl); (· rfl); (· rfl); (· exact H1.o [x]); (· unfold maxLen; omega); (· omega); intro v2 w2 hown2 _ hb2; obtain ⟨A2, c2, rfl⟩ := ax_ hown2)
  have hb6 := Ad.o.trans hb2
  obtain ⟨Al, Av, Au, Am⟩ := kq4 hb6.size (fun (W : World) (ad : Addr) (c : Nat) => (show Src W (some ad) 0 c [] from .inl ⟨rfl, rfl, by simp⟩)) hb6 hown2
  have i2 : (k : Int) <= (k : Int) := by omega
  clear hown2 hb2 hb6 Ag Ah Ar Ad c8
  have Aw := kp (show (us ++ [x]).length = k + 1 by simp [HL.o])
  have Ay := kp (show us.take k = us from tL (by rw [HL.o]; omega))
  have Ak := kp (show ∀ t, t ∈ us ++ [x] ↔ t ∈ ts.take (i + 1) from fun t => by
   rw [tA, HX.o, List.mem_append, List.mem_append (s := ts.take i), <- HM.o]
   simp only [Option.toList])
  by_cases hkc : c0 = k
  all_goals
   go_wp2_with (first
    | ((with_reducible refine ae_ (o := ⟨some 67, _, _, _, _, _⟩) rfl _ _ 32 rfl wp.heap.size 9 (.string ⟨#[]⟩) 1 16 Tryz.underlying32 Tryz.info9 ?_ ?_ _ _ _ ?_ Am.o (some ⟨g, 0, none⟩) 0 0 [] ?_ ?_ (Av.o _ _ _) ?_ ?_ ?_ Al.o ?_); (· rfl); (· decide); (· rfl); (· rfl); (· rfl); (· exact H1.o []); (· unfold maxLen; omega); (· omega); intro v3 w3 hown3 _ hb3; obtain ⟨A3, c3, rfl⟩ := ax_ hown3)
    | ((with_reducible refine ae_ (o := ⟨some 67, _, _, _, _, _⟩) rfl _ _ 32 rfl wp.heap.size 9 (.string ⟨#[]⟩) 1 16 Tryz.underlying32 Tryz.info9 ?_ ?_ _ _ _ ?_ Am.o (some ⟨g, k, none⟩) 0 (c0 - k) [] ?_ ?_ (Av.o _ _ _) ?_ ?_ ?_ Al.o ?_); (· rfl); (· decide); (· rfl); (· rfl); (· rfl); (· exact H1.o []); (· unfold maxLen; omega); (· omega); intro v3 w3 hown3 _ hb3; obtain ⟨A3, c3, rfl⟩ := ax_ hown3))
   have Aq := kp (show w3.ownsRow w.heap.size 9 1 (.slice A3 (k + 1) c3) (k + 1) ((us ++ [x]).map Value.string) from by
    have := bh_ hown3 Ab.o.size
    rw [Ay.o] at this
    simpa using this)
   have At := kp (show Bw w w3 from Ab.o.trans ((Au.o.trans hb3).mono Ab.o.size))
   clear hown3 hb3
   go_roundw
   case rel => exact ⟨i + 1, k + 1, c3, A3, _, by omega, by omega, rfl, by go_num, Aw, Ak, Aq, At⟩
   simp [intOf]; omega
 obtain rfl : i = n := by omega
 have hg : decide ((i : Int) < (i : Int)) = false := by simp
 have hg3 : decide ((16 : Int) < (m : Int)) = false := eF (by omega)
 go_wp2_with fail
 go_ret2
 exact ⟨_, us, rfl, by rw [HL.o]; exact HO.o, by rw [HL.o]; omega, fun t => by rw [HM.o, <- HN.o, List.take_length], HB.o⟩
theorem gQ {ops : Array Oper} {i : Nat} {o : Oper} (h : ops.toList[i]? = some o) : ops[i]? = some o := by rwa [Array.getElem?_toList] at h
section
variable {P : Program} {ops : Array Oper} {Q : Exit → Act → World → Prop} {md : Region.Mode} {S : World → Prop} {fuel : Nat} {listed : Array Bool} {a : Act} {w : World}
theorem tp (i : Nat) {oi : Oper} {v : Value} (hi : ops.toList[i]? = some oi) (hw : Region.wanted oi (yielded ops a.tmps) = true) (hS : S w) (h : wpAnyH P md ops Q S fuel (listed.setIfInBounds i true) (a.put oi.dst v) w)
 (hy : ∀ w, S w -> (execOp a.eval oi).run P w = .ok (.value v) w := by intro w hw; go_simp; try with_reducible rfl)
 (hQ : ∀ c a w, Q (.panic c) (a.put oi.dst v) w -> Q (.panic c) a w := by exact fun _ _ _ h => h) (hs : Region.noSelect ops = true := by kernel_rfl) (hf : Region.free md ops listed i = true := by kernel_rfl) (hr : (Region.ready md ops listed).contains i = true := by kernel_rfl) :
 wpAnyH P md ops Q S (fuel + 1) listed a w := wpAnyH_take (gQ hi) hs hf hr hQ (.inl ⟨hw, hy⟩) hS h
theorem tq (i : Nat) {oi : Oper} (v : Value) (hi : ops.toList[i]? = some oi) (hy : YieldsIf P ops S oi v a) (hS : S w) (h : wpAnyH P md ops Q S fuel (listed.setIfInBounds i true) (a.put oi.dst v) w)
 (hQ : ∀ c a w, Q (.panic c) (a.put oi.dst v) w -> Q (.panic c) a w := by exact fun _ _ _ h => h) (hs : Region.noSelect ops = true := by kernel_rfl) (hf : Region.free md ops listed i = true := by kernel_rfl) (hr : (Region.ready md ops listed).contains i = true := by kernel_rfl) :
 wpAnyH P md ops Q S (fuel + 1) listed a w := wpAnyH_take (gQ hi) hs hf hr hQ hy hS h
theorem oQ (i : Nat) {o : Oper} (ho : ops.toList[i]? = some o)
 (h : ∀ K' : Act → World → Prop, Shut (∀ a w, S w → (S w → wpAnyH P md ops Q S fuel (listed.setIfInBounds i true) a w) → K' a w) → if Region.wanted o (yielded ops a.tmps) = true then Oper.wp P o a w K' Q else K' (a.put o.dst undef) w)
 (hr : Region.ready md ops listed = [i] := by kernel_rfl) : wpAnyH P md ops Q S (fuel + 1) listed a w := wpAnyH_ready hr (by simp) (AllReadyH.cons (gQ ho) h AllReadyH.nil)
theorem aQ {i : Nat} {o : Oper} {rs : List Nat} (ho : ops.toList[i]? = some o)
 (h : ∀ K' : Act → World → Prop, Shut (∀ a w, S w → (S w → wpAnyH P md ops Q S fuel (listed.setIfInBounds i true) a w) → K' a w) → if Region.wanted o (yielded ops a.tmps) = true then Oper.wp P o a w K' Q else K' (a.put o.dst undef) w)
 (hs : AllReadyH P md ops Q S fuel listed a w rs) : AllReadyH P md ops Q S fuel listed a w (i :: rs) := AllReadyH.cons (gQ ho) h hs
end
abbrev nev : Int := 18446744073709551615
theorem nev_is : IsT nev := by unfold IsT nev; omega
def newW (x : CallR) : WrR := ⟨x.cmd.key, x.cmd.val, x.cmd.tags, addT x.tim x.cmd.life, nev, 0⟩
def ed_ (ws : List WrR) (k : ByteArray) (d : Int) : List WrR :=
 match aN_ ws k with
 | some i => ws.modify i fun x => { x with dl := d }
 | none => ws
def depE (x : CallR) (es : Edges) : Edges := es.filter (fun e => !decide (e = (x.cmd.key, x.cmd.chi))) ++ if x.cmd.op = 11 then [(x.cmd.key, x.cmd.chi)] else []
def ChgS (es : Edges) (k : ByteArray) (ws ws' : List WrR) : Prop := ∃ T : List ByteArray, (∀ y, y ∈ T ↔ Reach es k y) /\ ws' = a2_ T ws
theorem ChgS.fun {es : Edges} {k : ByteArray} {ws a b : List WrR} (h : ChgS es k ws a) (h' : ChgS es k ws b) : a = b := by
 obtain ⟨T, h1, rfl⟩ := h
 obtain ⟨T', h2, rfl⟩ := h'
 exact h5_ (fun x => (h1 x).trans (h2 x).symm) ws
def MidS (x : CallR) (ws : List WrR) (es : Edges) (ws' : List WrR) (es' : Edges) : Prop :=
 if x.cmd.op = 1 ∨ x.cmd.op = 2 ∨ x.cmd.op = 3 then es' = es /\ ∃ ws1, ChgS es x.cmd.key ws ws1 /\ ws' = ws1 ++ [newW x]
 else if x.cmd.op = 6 then es' = es /\ ws' = if x.resp.count = 1 then ed_ ws x.cmd.key (addT x.tim x.cmd.life) else ws
 else if x.cmd.op = 7 /\ x.resp.count = 1 ∨ x.cmd.op = 13 then es' = es /\ ChgS es x.cmd.key ws ws'
 else if x.cmd.op = 11 ∨ x.cmd.op = 12 then ws' = ws /\ es' = depE x es
 else ws' = ws /\ es' = es
theorem MidS.fun {x : CallR} {ws : List WrR} {es : Edges} {a b : List WrR} {e f : Edges} (h : MidS x ws es a e) (h' : MidS x ws es b f) : a = b /\ e = f := by
 unfold MidS at h h'
 split at h
 ·rw [if_pos (by assumption)] at h'
  obtain ⟨rfl, w1, h1, rfl⟩ := h
  obtain ⟨rfl, w2, h2, rfl⟩ := h'
  exact ⟨by rw [h1.fun h2], rfl⟩
 rw [if_neg (by assumption)] at h'
 split at h
 ·rw [if_pos (by assumption)] at h'
  exact ⟨h.2.trans h'.2.symm, h.1.trans h'.1.symm⟩
 rw [if_neg (by assumption)] at h'
 split at h
 ·rw [if_pos (by assumption)] at h'
  exact ⟨h.2.fun h'.2, h.1.trans h'.1.symm⟩
 rw [if_neg (by assumption)] at h'
 split at h
 ·rw [if_pos (by assumption)] at h'
  exact ⟨h.1.trans h'.1.symm, h.2.trans h'.2.symm⟩
 rw [if_neg (by assumption)] at h'
 exact ⟨h.1.trans h'.1.symm, h.2.trans h'.2.symm⟩
def swp (x : CallR) (y : WrR) : WrR :=
 if y.gone ≠ 0 then y
 else if x.cmd.op = 9 /\ hasS y.tags x.cmd.tag = true /\ y.soft = nev then { y with soft := x.tim }
 else if (x.cmd.op = 8 /\ hasS y.tags x.cmd.tag = true) ∨ (x.cmd.op = 10 /\ hasP y.key x.cmd.pre = true) ∨ x.cmd.op = 14 then { y with gone := 2 }
 else y
def DoS (x : CallR) (ws : List WrR) (es : Edges) (ws' : List WrR) (es' : Edges) : Prop := ∃ ws1, MidS x ws es ws1 es' /\ ws' = ws1.map (swp x)
theorem DoS.fun {x : CallR} {ws : List WrR} {es : Edges} {a b : List WrR} {e f : Edges} (h : DoS x ws es a e) (h' : DoS x ws es b f) : a = b /\ e = f := by
 obtain ⟨w1, h1, rfl⟩ := h
 obtain ⟨w2, h2, rfl⟩ := h'
 obtain ⟨h3, h4⟩ := h1.fun h2
 exact ⟨by rw [h3], h4⟩
def mapP (f : WrR -> WrR) (i : Nat) (ws : List WrR) : List WrR := (ws.take i).map f ++ ws.drop i
theorem dj_ (f : WrR -> WrR) (ws : List WrR) : mapP f 0 ws = ws := by simp [mapP]
theorem d3_ (f : WrR -> WrR) (ws : List WrR) : mapP f ws.length ws = ws.map f := by simp [mapP]
theorem aV_ (f : WrR -> WrR) (i : Nat) (ws : List WrR) : (mapP f i ws).length = ws.length := by
 simp [mapP]
 omega
theorem a8_ {f : WrR -> WrR} {i : Nat} {ws : List WrR} {x : WrR} (h : ws[i]? = some x) : (mapP f i ws)[i]? = some x := by
 have hl := (gS.1 h).1
 unfold mapP
 rw [aR (by simp; omega)]
 simp [Nat.min_eq_left (Nat.le_of_lt hl), h]
theorem cw_ {f : WrR -> WrR} {i : Nat} {ws : List WrR} {x : WrR} (h : ws[i]? = some x) : mapP f (i + 1) ws = (mapP f i ws).set i (f x) := by
 have hl := (gS.1 h).1
 unfold mapP
 rw [tA, h, List.set_append_right _ _ (by simp; omega)]
 have e : ws.drop i = x :: ws.drop (i + 1) := by
  rw [List.drop_eq_getElem_cons hl]
  rw [gE hl] at h
  rw [Option.some.inj h]
 rw [e]
 simp [Nat.min_eq_left (Nat.le_of_lt hl)]
theorem dk_ {f : WrR -> WrR} {i : Nat} {ws : List WrR} {x : WrR} (h : ws[i]? = some x) (hm : f x = x) : mapP f (i + 1) ws = mapP f i ws := by
 rw [cw_ h, hm]
 apply List.ext_getElem?
 intro j
 rw [List.getElem?_set]
 by_cases e : i = j
 ·subst e
  have hl := (gS.1 (a8_ (f := f) h)).1
  rw [if_pos rfl, a8_ h]
  simp [hl]
 rw [if_neg e]
structure CalG (x : CallR) (ws : List WrR) (es : Edges) : Prop where
 tim : IsT x.tim
 life : IsT x.cmd.life
 tags : x.cmd.op = 1 ∨ x.cmd.op = 2 ∨ x.cmd.op = 3 -> x.cmd.tags.length <= 16 /\ ∀ t ∈ x.cmd.tags, a7_ t = true
 there : x.cmd.op = 6 -> x.resp.count = 1 -> ∃ i, aN_ ws x.cmd.key = some i
 few : ws.length < 5000
 fewE : es.length < 5000
end Go.Proofs.YtnjhpgmbfblgaaaGreat.Ord
