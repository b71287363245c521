/- Walks of the parts that read: one item, many items, numbers; Walk of the part that reads. -/
import Derived.Test.YtnjhpgmbfblgaaaGreatMN5
set_option linter.unusedVariables false
set_option linter.unusedSimpArgs false
namespace Go.Proofs.YtnjhpgmbfblgaaaGreat.Ord
set_option maxRecDepth 100000
set_option maxHeartbeats 16000000
open Go.RowKit
def zI : ItemR := ⟨0, [], 0, 0⟩
def zL : List Value := aD_ 0 (.slice none 0 0) 0 0
def cP_ (n : Nat) : List (ItemR × Value) := List.replicate n (zI, .slice none 0 0)
def cd_ (L : List (ItemR × Value)) : List Value := L.flatMap fun p => aD_ p.1.mark p.2 p.1.ver p.1.dead
theorem eG_ (L : List (ItemR × Value)) : (cd_ L).length = L.length * 4 := by
 induction L with
 | nil => rfl
 | cons a L ih =>
  simp only [cd_, List.flatMap_cons, lA] at ih ⊢
  rw [ih]
  simp [aD_]
  omega
theorem id_ (n : Nat) : ∀ i, i < n * 4 -> (cd_ (cP_ n))[i]? = zL[i % 4]? := by
 induction n with
 | zero => intro i h; omega
 | succ n ih =>
  intro i h
  have e : cd_ (cP_ (n + 1)) = zL ++ cd_ (cP_ n) := by simp [cd_, cP_, List.replicate_succ, zL, zI]
  rw [e]
  have hz : zL.length = 4 := rfl
  by_cases h4 : i < 4
  ·rw [aL (by omega), Nat.mod_eq_of_lt h4]
  rw [aR (by omega), hz, ih (i - 4) (by omega)]
  congr 1
  omega
theorem jB_ (w : World) (n : Nat) : RowL (w.alloc (.cells (madeCells #[.int .i64 0, .slice none 0 0, .int .u64 0, .int .u64 0] (n * 4)) 78)) w.heap.size 78 (cd_ (cP_ n)) := by
 refine ⟨_, heap_alloc_new w _, ?_, fun i hi => ?_⟩
 ·simp [eG_, cP_, madeCells]
 rw [eG_] at hi
 have hi : i < n * 4 := by simpa [cP_] using hi
 have h1 := id_ n i hi
 have h4 : i % 4 < 4 := Nat.mod_lt _ (by decide)
 simp only [au_, List.getD]
 rw [h1]
 simp only [madeCells, Array.getElem?_map, Array.getElem?_range, if_pos hi, Option.map_some]
 show some (#[Value.int .i64 0, .slice none 0 0, .int .u64 0, .int .u64 0][i % 4]!) = _
 generalize i % 4 = r at h4
 match r, h4 with
 | 0, _ => rfl
 | 1, _ => rfl
 | 2, _ => rfl
 | 3, _ => rfl
theorem iD_ : (Tryz.prog.info? 78).map (fun i => (i.zero, i.size, i.bytes)) = some (some (.agg #[.int .i64 0, .slice none 0 0, .int .u64 0, .int .u64 0]), 4, 48) := by kernel_rfl
theorem fH_ (w : World) (k : IntKind) (n : Nat) (hn : n <= 1000) (hk : True) :
  (Instr.makeSlice 37 (.int k (n : Int)) (.int k (n : Int))).run Tryz.prog w = .ok (.slice (some ⟨w.heap.size, 0, none⟩) n n) (w.alloc (.cells (madeCells #[.int .i64 0, .slice none 0 0, .int .u64 0, .int .u64 0] (n * 4)) 78)) := by
 obtain ⟨i, hi, hz, h4, h5⟩ := info_parts iD_
 have := run_make w 37 78 i _ Tryz.underlying37 hi hz k k (n : Int) (n : Int) (by omega) (Int.le_refl _) (by rw [h5]; omega) (by omega)
 rw [this, h4]
 simp
 rfl
section
variable {w w' : World} {lo X R : Nat} {x : RespR} {vi vn : Value} {rest : List Int}
theorem XR.setI (h : XR w lo X R x vi vn rest) (n : Nat) (hn0 : 0 < n) :
  XR ((w.alloc (.cells (madeCells #[.int .i64 0, .slice none 0 0, .int .u64 0, .int .u64 0] (n * 4)) 78)).setCell ⟨X, 2, none⟩ (.slice (some ⟨w.heap.size, 0, none⟩) n n)) lo X R { x with items := List.replicate n zI } (.slice (some ⟨w.heap.size, 0, none⟩) n n) vn rest /\
   KX lo X R w ((w.alloc (.cells (madeCells #[.int .i64 0, .slice none 0 0, .int .u64 0, .int .u64 0] (n * 4)) 78)).setCell ⟨X, 2, none⟩ (.slice (some ⟨w.heap.size, 0, none⟩) n n)) := by
 have hm := jB_ w n
 have hb := below1 w (.cells (madeCells #[.int .i64 0, .slice none 0 0, .int .u64 0, .int .u64 0] (n * 4)) 78)
 have hsz : (w.alloc (.cells (madeCells #[.int .i64 0, .slice none 0 0, .int .u64 0, .int .u64 0] (n * 4)) 78)).heap.size = w.heap.size + 1 := by simp
 generalize w.alloc (.cells (madeCells #[.int .i64 0, .slice none 0 0, .int .u64 0, .int .u64 0] (n * 4)) 78) = w1 at *
 have hk : Kept [X] w (w1.setCell ⟨X, 2, none⟩ (.slice (some ⟨w.heap.size, 0, none⟩) n n)) := (Kept.of_below hb).setCell (by simp) _
 have hX := h.hX
 have hRl := h.hR
 have hlo := h.hlo
 have hnums := hk.own2 h.nums fun k hk1 e => by
  simp at hk1
  subst hk1
  have := (h.nums.lt _ e).1
  omega
 refine ⟨⟨?_, h.ne, hX, hRl, lT h.hlo hk.size, ?_, ?_, hnums⟩, KX.of_kept hk h.hlo (fun k hk => by simp at hk; exact .inr (.inl hk))⟩
 ·exact (h.row.of_block (hb.block _ (by omega))).set 2 (.slice (some ⟨w.heap.size, 0, none⟩) n n)
 ·obtain ⟨A, c, h1, h2, h3⟩ := h.rd
  refine ⟨A, c, hk.row (by simp; exact fun e => h.ne e.symm) h1, ⟨h2.1, h2.2.1, fun i hi => ?_⟩, fun b off e hr => ?_⟩
  ·obtain ⟨b, off, e, hlt, hc⟩ := h2.2.2 i hi
   exact ⟨b, off, e, lL hlt hk.size, fun y hy => hk.cell (fun hm => (h3 b off e (by intro h0; rw [h0] at hi; simp at hi)).2.1 (by simpa using hm)) (hc y hy)⟩
  obtain ⟨a1, a2, a3, a4⟩ := h3 b off e hr
  refine ⟨a1, a2, ?_, a4⟩
  obtain ⟨b', off', e', hlt, _⟩ := h2.2.2 0 (List.length_pos_iff.2 hr)
  rw [e] at e'
  cases e'
  simp [Value.ownBlock]
  omega
 refine .inr ⟨w.heap.size, cP_ n, by simp, hlo, ?_, by simp [cP_], fun p hp => ?_, by intro e; have := congrArg List.length e; simp at this; omega⟩
 ·have hk1 : Kept [X] w1 (w1.setCell ⟨X, 2, none⟩ (.slice (some ⟨w.heap.size, 0, none⟩) n n)) := (Kept.refl _ _).setCell (by simp) _
  exact hm.kept hk1 (by simp; omega)
 have : p = (zI, .slice none 0 0) := by simp [cP_] at hp; exact hp.2
 subst this
 exact ⟨none, 0, rfl, Byt.nil _ _, by simp⟩
end
theorem get_one {w : World} {lo X R : Nat} {x : RespR} {vi vn : Value} {rest : List Int} (h : XR w lo X R x vi vn rest) :
  Calls Tryz.prog 359 #[.pointer (some ⟨R, 0, none⟩), .pointer (some ⟨X, 0, none⟩)] w (GetPost w lo X R { x with items := [zI] } rest) := by
 have hm : (Instr.makeSlice 37 (.int .i64 1) (.int .i64 1)).run Tryz.prog w = .ok (.slice (some ⟨w.heap.size, 0, none⟩) 1 1) (w.alloc (.cells (madeCells #[.int .i64 0, .slice none 0 0, .int .u64 0, .int .u64 0] 4) 78)) := fH_ w .i64 1 (by omega) trivial
 have hb := below1 w (.cells (madeCells #[.int .i64 0, .slice none 0 0, .int .u64 0, .int .u64 0] (1 * 4)) 78)
 have hX := h.hX
 have hlo := h.hlo
 have h1 := h.row.of_block (hb.block X (by omega))
 have c2 : (w.alloc (.cells (madeCells #[.int .i64 0, .slice none 0 0, .int .u64 0, .int .u64 0] (1 * 4)) 78)).cell? ⟨X, 2, none⟩ = some vi := h1.cell rfl
 have f2 : (w.alloc (.cells (madeCells #[.int .i64 0, .slice none 0 0, .int .u64 0, .int .u64 0] (1 * 4)) 78)).frozen? ⟨X, 2, none⟩ = false := h1.frozen 2
 have HE := kp (h.setI 1 (by decide))
 simp only [Nat.one_mul] at c2 f2 HE
 clear h hb h1
 go_enter Tryz.func359, Tryz.ntmps359
 go_wp2_with fail
 go_ret
 exact ⟨rfl, HE.o.2, _, _, HE.o.1⟩
theorem get_many {w : World} {lo X R : Nat} {x : RespR} {vi vn : Value} {rest : List Int} (n : Nat) (h0 : 0 < n) (hn : n <= 16) (h : XR w lo X R x vi vn (putV n ++ rest)) (hl : rest.length <= 950000) :
  Calls Tryz.prog 366 #[.pointer (some ⟨R, 0, none⟩), .pointer (some ⟨X, 0, none⟩)] w (GetPost w lo X R { x with items := List.replicate n zI } rest) := by
 obtain ⟨v, h1, h2⟩ := h.ask (bT_ n rest)
 have HN := kp (cX_ (nlX X R vi vn) R n 16 (by simp [nlX]) v rest w (by omega) hl h1 h2)
 rw [show decide (n <= 16) = true by simp; omega] at HN
 have H := kp h
 clear h h1 h2
 go_enter Tryz.func366, Tryz.ntmps366
 go_wp2_with fail
 refine HN.o.mono ?_
 rintro e w2 ⟨rfl, v', h1, h2, h3⟩
 have h4 := H.o.told h3 h1 h2
 have hm := fH_ w2 .u64 n (by omega) trivial
 have hb := below1 w2 (.cells (madeCells #[.int .i64 0, .slice none 0 0, .int .u64 0, .int .u64 0] (n * 4)) 78)
 have hX := h4.hX
 have hlo := h4.hlo
 have h5 := h4.row.of_block (hb.block X (by omega))
 have c2 : (w2.alloc (.cells (madeCells #[.int .i64 0, .slice none 0 0, .int .u64 0, .int .u64 0] (n * 4)) 78)).cell? ⟨X, 2, none⟩ = some vi := h5.cell rfl
 have f2 : (w2.alloc (.cells (madeCells #[.int .i64 0, .slice none 0 0, .int .u64 0, .int .u64 0] (n * 4)) 78)).frozen? ⟨X, 2, none⟩ = false := h5.frozen 2
 obtain ⟨HE, HK⟩ := kq2 (h4.setI n h0) (KX.of_kept (lo := lo) (X := X) (R := R) h3 H.o.hlo (by simp))
 clear h1 h2 h3 h4 hb h5
 go_wp2_with fail
 go_ret
 exact ⟨rfl, HK.o.trans HE.o.2, _, _, HE.o.1⟩
section
variable {P : Program}
theorem d9_ {w : World} {ops : Array Oper} {rest : List Oper} {o : Oper} {a : Act} {Q : Exit -> Act -> World -> Prop} (hgd : o.guard = none) (s x : Operand) (t : TypeId)
  (ho : o.op = .call { callee := .builtin .append, args := #[s, x], argTypes := #[t, t] })
  (base : Nat) (e : TypeId) (z : Value) (size bytes : Nat) (ht : P.underlying t = some (.slice e)) (hinfo : (P.info? e).map (fun i => (i.zero, i.size, i.bytes)) = some (some z, size, bytes))
  (hzs : z.cells.size = size) (hsz : 0 < size)
  (v : Value) (n : Nat) (xs : List Value) (hs : a.eval s = v) (hown : w.ownsRow base e size v n xs)
  (ad : Addr) (m c : Nat) (news : List Value) (hx : a.eval x = .slice (some ad) m c) (hl : news.length = m * size) (hsrc : ∀ j u, news[j]? = some u -> w.cell? (ad.add j) = some u) (h1 : ∀ u ∈ news, u.oneCell' = true)
  (h63 : n + m <= maxLen) (hbytes : (n + m) * bytes <= 140737488355328) (hbase : base <= w.heap.size)
  (h : ∀ v' w', w'.ownsRow base e size v' (n + m) (xs ++ news) -> w.grownBy w' v.ownBlock -> (v'.ownBlock = v.ownBlock ∨ v'.ownBlock = some w.heap.size) -> wpList P ops Q rest (a.put o.dst v') w') : wpList P ops Q (o :: rest) a w :=
 wpList_step fun K hK => a4_ hgd s x t ho base e z size bytes ht hinfo hzs hsz v n xs hs hown ad m c news hx hl hsrc h1 h63 hbytes hbase fun v' w' a1 a2 a3 => hK _ _ (h v' w' a1 a2 a3)
end
theorem h1_ {w : World} {base : Nat} {e : TypeId} {size n : Nat} {v : Value} {xs : List Value} (h : w.ownsRow base e size v n xs) : ∃ A c, v = .slice A n c := by
 rcases h.2 with ⟨h1, h2⟩ | ⟨g, cap, cur, h1, _⟩
 ·exact ⟨none, 0, by rw [h1, h2]⟩
 exact ⟨_, _, h1⟩
theorem kB_ {w : World} {base : Nat} {e : TypeId} {size n k : Nat} {v : Value} {xs : List Value} (h : w.ownsRow base e size v n xs) (hk : k ∈ v.ownBlock.toList) : base <= k := (h.lt k (by simpa using hk)).1
theorem XR.push {w w' : World} {lo X R m : Nat} {x : RespR} {vn vn' : Value} {rest : List Int} (h : XR w lo X R x (.slice none 0 0) vn rest) (hi : x.items = []) (o : Obj)
  (ho : w'.ownsRow lo 33 1 vn' (x.nums.length + 1) (x.nums.map (Value.int .u64) ++ [.int .u64 m])) (hg : (w.alloc o).grownBy w' vn.ownBlock) (hb : vn'.ownBlock = vn.ownBlock ∨ vn'.ownBlock = some (w.alloc o).heap.size) :
  XR (w'.setCell ⟨X, 5, none⟩ vn') lo X R { x with nums := x.nums ++ [(m : Int)] } (.slice none 0 0) vn' rest /\ KX lo X R w (w'.setCell ⟨X, 5, none⟩ vn') := by
 have hX := h.hX
 have hRl := h.hR
 have hlo := h.hlo
 have hk0 : Kept vn.ownBlock.toList w w' := ((Kept.refl _ w).alloc _).trans (aA_ hg)
 have hk : Kept (X :: vn.ownBlock.toList) w (w'.setCell ⟨X, 5, none⟩ vn') := (hk0.mono (by intro k hk; simp [hk])).setCell (by simp) _
 have hown : ∀ k, k ∈ vn.ownBlock.toList -> lo <= k := fun k hk => kB_ h.nums hk
 have hXo : X ∉ vn.ownBlock.toList := fun hm => by have := hown X hm; omega
 have hRo : R ∉ vn.ownBlock.toList := fun hm => by have := hown R hm; omega
 have hrow : RowL w' X 40 (respC x (.slice none 0 0) vn) := h.row.kept hk0 hXo
 refine ⟨⟨?_, h.ne, hX, hRl, lT hlo hk.size, ?_, .inl ⟨hi, rfl⟩, ?_⟩, KX.of_kept hk hlo fun k hk => ?_⟩
 ·exact hrow.set 5 vn'
 ·obtain ⟨A, c, h1, h2, h3⟩ := h.rd
  refine ⟨A, c, hk.row (by simp only [List.mem_cons, not_or]; exact ⟨fun e => h.ne e.symm, hRo⟩) h1, ⟨h2.1, h2.2.1, fun i hi => ?_⟩, fun b off e hr => ?_⟩
  ·obtain ⟨b, off, e, hlt, hc⟩ := h2.2.2 i hi
   refine ⟨b, off, e, lL hlt hk.size, fun y hy => hk.cell (fun hm => ?_) (hc y hy)⟩
   obtain ⟨a1, a2, a3, a4⟩ := h3 b off e (by intro h0; rw [h0] at hi; simp at hi)
   rcases List.mem_cons.1 hm with h | h
   ·exact a2 h
   exact a4 (by simpa using h)
  obtain ⟨a1, a2, a3, a4⟩ := h3 b off e hr
  refine ⟨a1, a2, a3, ?_⟩
  obtain ⟨b', off', e', hlt, _⟩ := h2.2.2 0 (List.length_pos_iff.2 hr)
  rw [e] at e'
  cases e'
  rcases hb with hb | hb
  ·rw [hb]; exact a4
  rw [hb]
  simp
  omega
 ·have hk2 : Kept [X] w' (w'.setCell ⟨X, 5, none⟩ vn') := (Kept.refl _ _).setCell (by simp) _
  have := hk2.own2 ho fun k hk e => by
   simp at hk
   subst hk
   have := (ho.lt _ e).1
   omega
  simpa using this
 rcases List.mem_cons.1 hk with h | h
 ·exact .inr (.inl h)
 exact .inl (hown k h)
theorem get_nums {w : World} {lo X R : Nat} {x : RespR} {vn : Value} {rest : List Int} (xs : List Int) (hxs : ∀ y ∈ xs, 0 <= y /\ y < 18446744073709551616) (hn64 : xs.length <= 64) (hi : x.items = []) (hx0 : x.nums = [])
  (h : XR w lo X R x (.slice none 0 0) vn (putV xs.length ++ (bU_ xs ++ rest))) (hl : rest.length <= 900000) :
  Calls Tryz.prog 368 #[.pointer (some ⟨R, 0, none⟩), .pointer (some ⟨X, 0, none⟩)] w (GetPost w lo X R { x with nums := xs } rest) := by
 obtain ⟨n, hn⟩ := eY xs.length
 rw [hn] at h hn64
 have hnl : ∀ k, (bU_ (xs.drop k)).length <= 1000 := fun k => by
  have h1 := gN_ (l := xs.drop k) fun y hy => hxs y (List.mem_of_mem_drop hy)
  have h2 : (xs.drop k).length <= 64 := by simp; omega
  omega
 have hnl0 := hnl 0
 simp only [List.drop_zero] at hnl0
 obtain ⟨v, h1, h2⟩ := h.ask (bT_ n _)
 have HN := kp (cX_ (nlX X R (.slice none 0 0) vn) R n 64 (by simp [nlX]) v (bU_ xs ++ rest) w (by omega) (by rw [lA]; omega) h1 h2)
 rw [show decide (n <= 64) = true by simp; omega] at HN
 obtain ⟨H, Al, Ad, Ab, HI, Ah⟩ := kq6 h hnl hxs hn hi hx0
 clear h h1 h2 hnl hxs hn hi hx0 hnl0
 go_enter Tryz.func368, Tryz.ntmps368
 go_wp2_with fail
 refine HN.o.mono ?_
 rintro e w2 ⟨rfl, v', h1, h2, h3⟩
 have h4 := H.o.told h3 h1 h2
 obtain ⟨HK, H4⟩ := kq2 (KX.of_kept (lo := lo) (X := X) (R := R) h3 H.o.hlo (by simp)) h4
 clear h1 h2 h3 h4
 go_wp2_with fail
 go_loopw [6, 7] (fun q j wr => q = .bool true /\ ∃ (k : Nat) (vn' : Value), k <= n /\ j = .int .u64 k /\ XR wr lo X R { x with nums := xs.take k } (.slice none 0 0) vn' (bU_ (xs.drop k) ++ rest) /\ KX lo X R w wr) (fun _ j _ => n - (intOf j).toNat)
 case atStart => exact ⟨rfl, 0, vn, Nat.zero_le _, by go_num, by have := H4.o; rw [show ({ x with nums := xs.take 0 } : RespR) = x by simp [<- Ah.o]]; simpa using this, HK.o⟩
 obtain ⟨rfl, k, vn', hk, rfl, hX, hKX⟩ := hrel
 obtain ⟨HX, Ag⟩ := kq2 hX hKX
 clear hX hKX
 by_cases hlt : k < n
 ·have hg : decide ((k : Int) < (n : Int)) = true := by simp; omega
  have hkx : k < xs.length := by rw [Ab.o]; exact hlt
  have hxk := gE hkx
  obtain ⟨y, hye⟩ := eY (xs[k])
  rw [hye] at hxk
  have hym := mG hxk
  obtain ⟨m, rfl⟩ : ∃ m : Nat, y = m := ⟨y.toNat, by have := Ad.o y hym; omega⟩
  have hm2 : m < 18446744073709551616 := by have := Ad.o _ hym; omega
  have hdr : bU_ (xs.drop k) ++ rest = putV m ++ (bU_ (xs.drop (k + 1)) ++ rest) := by
   rw [List.drop_eq_getElem_cons hkx, hye]
   simp [bU_, aA]
  have htk : xs.take (k + 1) = xs.take k ++ [(m : Int)] := by rw [tA, hxk]; rfl
  have htl : (xs.take k).length = k := by simp; omega
  have hX2 := HX.o.cong hdr
  obtain ⟨v, h1, h2⟩ := hX2.ask (bT_ m _)
  have hlk := Al.o (k + 1)
  have h10 := ad_ hm2
  obtain ⟨Am, Ae, Ai, Af⟩ := kq4 (cv_ (nlX X R (.slice none 0 0) vn') R m (by simp [nlX]) v (bU_ (xs.drop (k + 1)) ++ rest) wr (cj_ hm2) (by rw [lA, lA]; omega) h1 h2) hX2 htk htl
  clear hxk hye hym hdr htk hX2 h1 h2 hlk h10 htl
  go_wp2_with fail
  refine Am.o.mono ?_
  rintro e w5 ⟨v5, rfl, h1, h2, h3⟩
  have h5 := Ae.o.told h3 h1 h2
  have hk5 := KX.of_kept (lo := lo) (X := X) (R := R) h3 Ae.o.hlo (by simp)
  have hnu := h5.nums
  simp only [Af.o] at hnu
  obtain ⟨A, c, rfl⟩ := h1_ hnu
  have c5 : (w5.alloc (.cells #[.int .u64 m] 33)).cell? ⟨X, 5, none⟩ = some (.slice A k c) := (h5.row.alloc (.cells #[.int .u64 m] 33)).cell rfl
  have c5' : w5.cell? ⟨X, 5, none⟩ = some (.slice A k c) := h5.row.cell rfl
  obtain ⟨Ak, Aj, Aa, H5, An⟩ := kq5 (World.ownsRow.alloc hnu (.cells #[.int .u64 m] 33)) (fun j u (hj : [Value.int .u64 m][j]? = some u) => (RowL.new w5 33 [.int .u64 m]).cell hj) (show ∀ u ∈ [Value.int .u64 m], u.oneCell' = true by simp [Value.oneCell']) h5 hk5
  have hlo5 := h5.hlo
  have hXl := h5.hX
  clear h1 h2 h3 h5 hk5 hnu
  go_wp2_with ((with_reducible refine d9_ (o := ⟨some 35, _, _, _, _, _⟩) rfl _ _ 38 rfl lo 33 (.int .u64 0) 1 8 Tryz.underlying38 Tryz.info33 ?_ ?_ (.slice A k c) k ((xs.take k).map (Value.int .u64)) ?_ Ak.o ⟨w5.heap.size, 0, none⟩ 1 1 [.int .u64 m] ?_ ?_ ?_ Aa.o ?_ ?_ ?_ ?_); (· rfl); (· decide); (· rfl); (· rfl); (· rfl); (· intro j u hj; rw [Addr.add_mid, Nat.zero_add]; exact Aj.o j u hj); (· unfold maxLen; omega); (· omega); (· simp; omega); intro v9 w9 ho9 hg9 hb9; obtain ⟨A9, c9, rfl⟩ := h1_ ho9; have hkw := (((Kept.refl (Value.slice A k c).ownBlock.toList w5).alloc (.cells #[.int .u64 m] 33)).trans (aA_ hg9)); have hXn : X ∉ (Value.slice A k c).ownBlock.toList := (fun hm => by have := kB_ H5.o.nums hm; omega); have c9x : w9.cell? ⟨X, 5, none⟩ = some (.slice A k c) := (H5.o.row.kept hkw hXn).cell rfl; have f9x : w9.frozen? ⟨X, 5, none⟩ = false := (H5.o.row.kept hkw hXn).frozen 5; have HE := kp (H5.o.push HI.o (.cells #[.int .u64 m] 33) (by simpa [Af.o] using ho9) hg9 hb9); clear ho9 hg9 hb9 hkw hXn)
  go_roundw
  case rel => exact ⟨rfl, k + 1, _, by omega, by go_num, by rw [Ai.o]; exact HE.o.1, Ag.o.trans (An.o.trans HE.o.2)⟩
  simp [intOf]; omega
 obtain rfl : k = n := by omega
 have hg : decide ((k : Int) < (k : Int)) = false := by simp
 have Ac := kp (by have := HX.o; rwa [tL (by rw [Ab.o]; exact lR _), List.drop_of_length_le (by rw [Ab.o]; exact lR _)] at this)
 go_wp2_with fail
 go_ret
 exact ⟨rfl, Ag.o, _, vn', Ac.o⟩
theorem iG_ : ∀ (vs A B : List Value) (o : Nat), putL (A ++ B) (A.length + o) vs = A ++ putL B o vs
 | [], A, B, o => rfl
 | v :: vs, A, B, o => by
  simp only [putL]
  rw [List.set_append_right _ _ (by omega), show A.length + o - A.length = o by omega, show A.length + o + 1 = A.length + (o + 1) by omega, iG_ vs A _ (o + 1)]
theorem hf_ : ∀ (L : List (ItemR × Value)) (k : Nat) (p : ItemR × Value), k < L.length -> putL (cd_ L) (k * 4) (aD_ p.1.mark p.2 p.1.ver p.1.dead) = cd_ (L.set k p)
 | [], k, p, h => by simp at h
 | a :: L, 0, p, h => by simp [cd_, putL, aD_]
 | a :: L, k + 1, p, h => by
  have h1 := hf_ L k p (by simp at h; omega)
  have e : cd_ (a :: L) = aD_ a.1.mark a.2 a.1.ver a.1.dead ++ cd_ L := by simp [cd_]
  have hl : (aD_ a.1.mark a.2 a.1.ver a.1.dead).length = 4 := rfl
  rw [e, show (k + 1) * 4 = (aD_ a.1.mark a.2 a.1.ver a.1.dead).length + k * 4 by rw [hl]; omega, iG_, h1]
  simp [cd_]
theorem XR.setItem {w : World} {lo X R g n k : Nat} {x : RespR} {vn : Value} {rest : List Int} (h : XR w lo X R x (.slice (some ⟨g, 0, none⟩) n n) vn rest) (hn : x.items.length = n) (hk : k < n) (y : ItemR) (vp : Value) (hv : SlG w lo g vp y.val) :
  XR (w.setCells g (k * 4) (aD_ y.mark vp y.ver y.dead)) lo X R { x with items := x.items.set k y } (.slice (some ⟨g, 0, none⟩) n n) vn rest /\ KX lo X R w (w.setCells g (k * 4) (aD_ y.mark vp y.ver y.dead)) := by
 have hX := h.hX
 have hRl := h.hR
 have hlo := h.hlo
 have hK : Kept [g] w (w.setCells g (k * 4) (aD_ y.mark vp y.ver y.dead)) := am_ (by simp) _ _ _ (Kept.refl _ _)
 rcases h.items with ⟨e1, e2⟩ | ⟨g', L, e1, hg, hr, hm, hvs, hnz⟩
 ·simp at e2
 have hg' : g = g' := by simp at e1; exact e1.1
 subst hg'
 have hgl := hr.lt
 have hLn : L.length = n := by rw [<- hn, <- hm, lM_]
 have hr' : RowL (w.setCells g (k * 4) (aD_ y.mark vp y.ver y.dead)) g 78 (cd_ (L.set k (y, vp))) := by
  rw [<- hf_ L k (y, vp) (by omega)]
  exact RowL.setCells _ hr
 refine ⟨⟨h.row.kept hK (by simp; omega), h.ne, hX, hRl, lT hlo hK.size, ?_, .inr ⟨g, L.set k (y, vp), by simp [hn], hg, hr', by rw [List.map_set, hm], fun p hp => ?_, by intro e; have := congrArg List.length e; simp at this; exact hnz this⟩, hK.own2 h.nums fun j hj e => ?_⟩, KX.of_kept hK hlo fun j hj => by simp at hj; exact .inl (by omega)⟩
 ·obtain ⟨A, c, h1, h2, h3⟩ := h.rd
  refine ⟨A, c, hK.row (by simp; omega) h1, ⟨h2.1, h2.2.1, fun i hi => ?_⟩, h3⟩
  obtain ⟨b, off, e, hlt, hc⟩ := h2.2.2 i hi
  refine ⟨b, off, e, lL hlt hK.size, fun z hz => hK.cell (fun hm => ?_) (hc z hz)⟩
  have := (h3 b off e (by intro h0; rw [h0] at hi; simp at hi)).2.2.1
  simp at hm
  exact this (by simp [Value.ownBlock, hm])
 ·rcases List.mem_or_eq_of_mem_set hp with h1 | h1
  ·exact (hvs p h1).kept hK fun j hj => by simp at hj; exact .inr (.inl hj)
  subst h1
  exact hv.kept hK fun j hj => by simp at hj; exact .inr (.inl hj)
 simp at hj
 subst hj
 exact hr.ne_own h.nums (by decide) e
def c2_ (y : ItemR) : ItemR := if y.mark = 0 then zI else y
def dnI (ys : List ItemR) (k : Nat) : List ItemR := (ys.take k).map c2_ ++ List.replicate (ys.length - k) zI
theorem lk_ (ys : List ItemR) {k : Nat} (h : k <= ys.length) : (dnI ys k).length = ys.length := by simp [dnI]; omega
theorem i1_ (ys : List ItemR) {k : Nat} {y : ItemR} (h : ys[k]? = some y) : dnI ys (k + 1) = (dnI ys k).set k (c2_ y) := by
 have hk := (gS.1 h).1
 have hl : ((ys.take k).map c2_).length = k := by simp; omega
 simp only [dnI]
 rw [tA, h, Option.toList_some, List.map_append, List.map_singleton, List.set_append_right _ _ (by omega), hl, Nat.sub_self, show ys.length - k = (ys.length - (k + 1)) + 1 by omega, List.replicate_succ, List.set_cons_zero, aA]
 rfl
theorem ih_ (ys : List ItemR) {k : Nat} {y : ItemR} (h : ys[k]? = some y) (h0 : c2_ y = zI) : dnI ys (k + 1) = dnI ys k := by
 have hk := (gS.1 h).1
 rw [i1_ ys h, h0]
 apply List.ext_getElem?
 intro i
 by_cases e : i = k
 ·subst e
  have hl : ((ys.take i).map c2_).length = i := by simp; omega
  rw [List.getElem?_set_self (by rw [lk_ ys (by omega)]; exact hk)]
  simp only [dnI]
  rw [aR (by omega), hl, Nat.sub_self, show ys.length - i = (ys.length - (i + 1)) + 1 by omega, List.replicate_succ]
  rfl
 rw [List.getElem?_set_ne (fun h => e h.symm)]
theorem get_item {w : World} {lo X R : Nat} {x : RespR} {vi vn : Value} {rest : List Int} (ys : List ItemR) (hs : ∀ y ∈ ys, okI y = true /\ y.val.length <= 3000 /\ (∀ z ∈ y.val, 0 <= z /\ z < 256) /\ (0 <= y.ver /\ y.ver < 18446744073709551616) /\ (0 <= y.dead /\ y.dead < 18446744073709551616))
  (hn16 : ys.length <= 100) (hi : x.items = List.replicate ys.length zI) (h : XR w lo X R x vi vn (bN_ ys ++ rest)) (hl : rest.length <= 500000) :
  Calls Tryz.prog 362 #[.pointer (some ⟨R, 0, none⟩), .pointer (some ⟨X, 0, none⟩)] w (GetPost w lo X R { x with items := ys.map c2_ } rest) := by
 obtain ⟨n, hn⟩ := eY ys.length
 have hil : x.items.length = n := by rw [hi, List.length_replicate, hn]
 have hX0 : XR w lo X R { x with items := dnI ys 0 } vi vn (bN_ (ys.drop 0) ++ rest) := by
  have e : dnI ys 0 = x.items := by rw [hi]; simp [dnI]
  rw [e]
  simpa using h
 have hvi : (n = 0 /\ vi = .slice none 0 0) ∨ ∃ g, vi = .slice (some ⟨g, 0, none⟩) n n := by
  rcases h.items with ⟨e1, e2⟩ | ⟨g, L, e1, _⟩
  ·left; rw [e1] at hil; simp at hil; exact ⟨hil.symm, e2⟩
  right; rw [hil] at e1; exact ⟨g, e1⟩
 have c2 : w.cell? ⟨X, 2, none⟩ = some vi := h.row.cell rfl
 obtain ⟨Ae, HS, HN⟩ := kq3 hX0 hs hn
 clear h hX0 hi hs hil
 rcases hvi with ⟨rfl, rfl⟩ | ⟨g, rfl⟩
 ·have hys : ys = [] := eN hn
  subst hys
  clear hn
  go_enter Tryz.func362, Tryz.ntmps362
  go_wp2_with fail
  go_loopw [20] (fun j wr => j = .int .i64 0 /\ wr = w) (fun j _ => 0)
  case atStart => exact ⟨rfl, rfl⟩
  obtain ⟨rfl, rfl⟩ := hrel
  go_wp2_with fail
  go_ret
  exact ⟨rfl, KX.refl _ _ _ _, _, _, Ae.o⟩
 clear hn
 go_enter Tryz.func362, Tryz.ntmps362
 go_wp2_with fail
 go_loopw [20] (fun j wr => ∃ k : Nat, k <= n /\ j = .int .i64 k /\ XR wr lo X R { x with items := dnI ys k } (.slice (some ⟨g, 0, none⟩) n n) vn (bN_ (ys.drop k) ++ rest) /\ KX lo X R w wr) (fun j _ => n - (intOf j).toNat)
 case atStart => exact ⟨0, Nat.zero_le _, by go_num, Ae.o, KX.refl _ _ _ _⟩
 obtain ⟨k, hk, rfl, hX, hKX⟩ := hrel
 obtain ⟨HX, Ab⟩ := kq2 hX hKX
 clear hX hKX c2
 by_cases hlt : k < n
 ·have hg : decide ((k : Int) < (n : Int)) = true := by simp; omega
  have hkx : k < ys.length := by rw [HN.o]; exact hlt
  have hyk := gE hkx
  obtain ⟨y, hye⟩ := eY (ys[k])
  rw [hye] at hyk
  obtain ⟨hok, hvl, hby, hver, hdead⟩ := HS.o y (mG hyk)
  have hdr : bN_ (ys.drop k) ++ rest = putI y ++ (bN_ (ys.drop (k + 1)) ++ rest) := by
   rw [List.drop_eq_getElem_cons hkx, hye]
   simp [bN_, aA]
  have hrl : (bN_ (ys.drop (k + 1)) ++ rest).length <= 900000 := by
   have h1 := gO_ (l := ys.drop (k + 1)) fun z hz => by
    have hz := HS.o z (List.mem_of_mem_drop hz)
    have : z.mark <= 2 := by have := hz.1; simp [okI] at this; omega
    exact f8_ hz.2.1 hz.2.2.2.1 hz.2.2.2.2 (by omega)
   have h2 : (ys.drop (k + 1)).length <= 100 := by simp; omega
   rw [lA]
   omega
  obtain ⟨r2, hr2⟩ := eY (bN_ (ys.drop (k + 1)) ++ rest)
  rw [hr2] at hdr hrl
  have Af := kp hr2
  have hX2 := HX.o.cong hdr
  have hdz := ih_ ys hyk
  have hds := i1_ ys hyk
  obtain ⟨ym, yv, yr, yd⟩ := y
  simp only at hvl hby hver hdead
  have hm2 : 0 <= ym /\ ym <= 2 := by simp [okI] at hok; omega
  obtain ⟨m, rfl⟩ : ∃ m : Nat, ym = m := ⟨ym.toNat, by omega⟩
  have hm : m <= 2 := by omega
  clear hye hyk hok hdr hr2 hm2
  by_cases hm0 : m = 0
  ·subst hm0
   have hX3 : XR wr lo X R { x with items := dnI ys k } (.slice (some ⟨g, 0, none⟩) n n) vn (putV 0 ++ r2) := hX2.cong (by simp [putI])
   obtain ⟨v, h1, h2⟩ := hX3.ask (bT_ 0 _)
   have HR := kp (cX_ (nlX X R (.slice (some ⟨g, 0, none⟩) n n) vn) R 0 2 (by simp [nlX]) v r2 wr (by decide) (by omega) h1 h2)
   rw [show decide (0 <= 2) = true from rfl] at HR
   obtain ⟨Aa, Ao⟩ := kq2 hX3 (hdz (by simp [c2_]))
   clear hX2 hX3 h1 h2 hdz hds
   go_wp2_with fail
   refine HR.o.mono ?_
   rintro e w3 ⟨rfl, v3, h1, h2, h3⟩
   have h5 := Aa.o.told h3 h1 h2
   have Ac := kp (KX.of_kept (lo := lo) (X := X) (R := R) h3 Aa.o.hlo (by simp))
   have c2 : w3.cell? ⟨X, 2, none⟩ = some (.slice (some ⟨g, 0, none⟩) n n) := h5.row.cell rfl
   have H5 := kp h5
   clear h1 h2 h3 h5
   go_wp2_with fail
   go_roundw
   case rel => exact ⟨k + 1, by omega, by go_num, by rw [Ao.o, Af.o]; exact H5.o, Ab.o.trans Ac.o⟩
   simp [intOf]; omega
  obtain ⟨ver, rfl⟩ : ∃ m : Nat, yr = m := ⟨yr.toNat, by omega⟩
  obtain ⟨dead, rfl⟩ : ∃ m : Nat, yd = m := ⟨yd.toNat, by omega⟩
  have hv2 : ver < 18446744073709551616 := by omega
  have hd2 : dead < 18446744073709551616 := by omega
  have hX3 : XR wr lo X R { x with items := dnI ys k } (.slice (some ⟨g, 0, none⟩) n n) vn (putV m ++ (putV ver ++ (putV dead ++ (putV yv.length ++ (yv ++ r2))))) := hX2.cong (by simp [putI, hm0, aA])
  have a1 := ad_ hv2
  have a2 := ad_ hd2
  have a3 := ad_ (n := yv.length) (by omega)
  obtain ⟨v, h1, h2⟩ := hX3.ask (bT_ m _)
  have HR := kp (cX_ (nlX X R (.slice (some ⟨g, 0, none⟩) n n) vn) R m 2 (by simp [nlX]) v _ wr (by omega) (by simp only [lA]; omega) h1 h2)
  rw [show decide (m <= 2) = true by simp; omega] at HR
  obtain ⟨Aa, Aq, HM, Ak⟩ := kq4 hX3 hds hm hm0
  have hgm : decide ((0 : Int) < (m : Int)) = true := by simp; omega
  have hgm2 : 0 < m := by omega
  have hwm : IntKind.i64.wrap (m : Int) = m := by simp [IntKind.wrap, IntKind.bits, IntKind.signed]; omega
  clear hX2 hX3 h1 h2 hdz hds hm hm0 hver hdead
  go_wp2_with fail
  refine HR.o.mono ?_
  rintro e w3 ⟨rfl, v3, h1, h2, h3⟩
  have h5 := Aa.o.told h3 h1 h2
  have An := kp (KX.of_kept (lo := lo) (X := X) (R := R) h3 Aa.o.hlo (by simp))
  have c2 : w3.cell? ⟨X, 2, none⟩ = some (.slice (some ⟨g, 0, none⟩) n n) := h5.row.cell rfl
  obtain ⟨v, b1, b2⟩ := h5.ask (bT_ ver _)
  obtain ⟨Ag, H3⟩ := kq2 (cv_ (nlX X R (.slice (some ⟨g, 0, none⟩) n n) vn) R ver (by simp [nlX]) v _ w3 (cj_ hv2) (by simp only [lA]; omega) b1 b2) h5
  clear h1 h2 h3 h5 b1 b2
  go_wp2_with fail
  refine Ag.o.mono ?_
  rintro e w4 ⟨v4, rfl, h1, h2, h3⟩
  have h5 := H3.o.told h3 h1 h2
  have Am := kp (KX.of_kept (lo := lo) (X := X) (R := R) h3 H3.o.hlo (by simp))
  obtain ⟨v, b1, b2⟩ := h5.ask (bT_ dead _)
  obtain ⟨Ai, H4⟩ := kq2 (cv_ (nlX X R (.slice (some ⟨g, 0, none⟩) n n) vn) R dead (by simp [nlX]) v _ w4 (cj_ hd2) (by simp only [lA]; omega) b1 b2) h5
  clear h1 h2 h3 h5 b1 b2 c2
  go_wp2_with fail
  refine Ai.o.mono ?_
  rintro e w5 ⟨v5, rfl, h1, h2, h3⟩
  have h5 := H4.o.told h3 h1 h2
  have Ac := kp (KX.of_kept (lo := lo) (X := X) (R := R) h3 H4.o.hlo (by simp))
  obtain ⟨v, b1, b2⟩ := h5.ask (bT_ yv.length _)
  obtain ⟨Aj, H5⟩ := kq2 (hs_ (nlX X R (.slice (some ⟨g, 0, none⟩) n n) vn) R 65536 (by simp [nlX]) v yv r2 w5 (cj_ (by omega)) (by simp only [lA]; omega) (by omega) (by omega) b1 b2) h5
  clear h1 h2 h3 h5 b1 b2
  go_wp2_with fail
  refine Aj.o.mono ?_
  rintro e w6 ⟨vp, v6, rfl, hown, h1, h2, h3⟩
  have h6 := H5.o.told h3 h1 h2
  have Al := kp (KX.of_kept (lo := lo) (X := X) (R := R) h3 H5.o.hlo (by simp))
  have hgb : g < w5.heap.size := by
   rcases H5.o.items with ⟨_, e⟩ | ⟨g', L, e, _, hr, _⟩
   ·simp at e
   cases e; exact hr.lt
  have hXb := H5.o.hX
  have hRb := H5.o.hR
  have hlb := H5.o.hlo
  have hsl : SlG w6 lo g vp yv := by
   obtain ⟨A, c, e, hb, hlo⟩ := SlB.of_own hown
   exact ⟨A, c, e, hb, fun b off e _ => by have := hlo b off e; omega⟩
  obtain ⟨Ap, Lp, cp, rfl, _, _⟩ := hown.gen
  have hln : (dnI ys k).length = n := by rw [lk_ ys (by omega), HN.o]
  have hE := h6.setItem (k := k) hln hlt ⟨(m : Int), yv, (ver : Int), (dead : Int)⟩ (.slice Ap Lp cp) hsl
  obtain ⟨HE, Ah⟩ := kq2 hE (show c2_ ⟨(m : Int), yv, (ver : Int), (dead : Int)⟩ = ⟨(m : Int), yv, (ver : Int), (dead : Int)⟩ by unfold c2_; rw [if_neg (by have := Ak.o; simp; omega)])
  have ht : w6.there g (k * 4) 4 := by
   rcases h6.items with ⟨_, e⟩ | ⟨g', L, e, _, hr, hm, _⟩
   ·simp at e
   have hg' : g = g' := by simp at e; exact e.1
   subst hg'
   refine hr.there ?_
   have h1 : L.length = n := (lM_ _).symm.trans ((congrArg List.length hm).trans hln)
   have h2 := eG_ L
   simp only [cd_] at h2
   rw [h2]
   omega
  have HT := kp ht
  clear h1 h2 h3 h6 hown hE hln hsl ht
  simp only [aD_] at HE
  go_wp2_with ((with_reducible refine ab_ (op := ⟨none, _, _, _, _, _⟩) rfl 78 _ _ rfl g (k * 4) #[.int .i64 m, .slice Ap Lp cp, .int .u64 ver, .int .u64 dead] ?_ ?_ ?_ ?_ ?_ ?_); (· rfl); (· rfl); (· exact HT.o); (· kernel_rfl); (· simp [Value.oneCell']); intro w7 hw7)
  go_roundw
  case rel => exact ⟨k + 1, by omega, by go_num, by rw [Aq.o, Ah.o, Af.o]; exact HE.o.1, Ab.o.trans (An.o.trans (Am.o.trans (Ac.o.trans (Al.o.trans HE.o.2))))⟩
  simp [intOf]; omega
 obtain rfl : k = n := by omega
 have hg : decide ((k : Int) < (k : Int)) = false := by simp
 have c2 : wr.cell? ⟨X, 2, none⟩ = some (.slice (some ⟨g, 0, none⟩) k k) := HX.o.row.cell rfl
 have Ad := kp (by have := HX.o; rwa [show dnI ys k = ys.map c2_ by unfold dnI; rw [tL (by rw [HN.o]; exact lR _), HN.o, Nat.sub_self]; simp, List.drop_of_length_le (by rw [HN.o]; exact lR _)] at this)
 go_wp2_with fail
 go_ret
 exact ⟨rfl, Ab.o, _, _, Ad.o⟩
theorem put_part (p : Part) {w : World} {B Q X : Nat} {r : RespR} {vi vn : Value} {out : List Int} (h : PutPre w B Q X r vi vn out) :
  Calls Tryz.prog (bg_ p) #[.pointer (some ⟨Q, 0, none⟩), .pointer (some ⟨X, 0, none⟩)] w (c6_ w Q p r out) := by
 cases p
 ·exact put_ver h
 ·exact put_cnt h
 ·exact put_one h
 ·exact put_item h
 ·exact put_many h
 exact put_nums h
def getP (p : Part) (r x : RespR) : RespR := match p with
 | .ver => { x with ver := r.ver }
 | .cnt => { x with count := r.count }
 | .one => { x with items := [zI] }
 | .item => { x with items := r.items.map c2_ }
 | .many => { x with items := List.replicate r.items.length zI }
 | .nums => { x with nums := r.nums }
def PreP (p : Part) (r x : RespR) : Prop := match p with
 | .item => x.items = List.replicate r.items.length zI
 | .nums => x.items = [] /\ x.nums = []
 | _ => True
def e3_ (r : RespR) : List Part -> RespR -> Prop
 | [], _ => True
 | p :: ps, x => PreP p r x /\ e3_ r ps (getP p r x)
def ap_ (op err : Int) : RespR := ⟨op, err, [], 0, 0, []⟩
theorem io_ (r : RespR) (hok : (aj_ r.op).all (okP · r) = true) : e3_ r (aj_ r.op) (ap_ r.op 0) := by
 unfold aj_ at hok ⊢
 split
 ·simp [e3_, PreP]
 rename_i h1
 rw [if_neg h1] at hok
 split
 ·rename_i h2
  rw [if_pos h2] at hok
  simp [okP] at hok
  simp [e3_, PreP, getP, ap_, hok.1]
 rename_i h2
 split
 ·simp [e3_, PreP, getP, ap_]
 split <;> simp [e3_, PreP, ap_]
theorem GetPost.cong {w w' : World} {lo X R : Nat} {x x' : RespR} {rest : List Int} {e : Ending} (h : GetPost w lo X R x rest e w') (ex : x = x') : GetPost w lo X R x' rest e w' := by subst ex; exact h
theorem get_part (p : Part) (r : RespR) (hs : RespS r) (hok : okP p r = true) {x : RespR} (hp : PreP p r x) {w : World} {lo X R : Nat} {vi vn : Value} {rest : List Int} (h : XR w lo X R x vi vn (putP p r ++ rest)) (hl : rest.length <= 400000) :
  Calls Tryz.prog (bj_ p) #[.pointer (some ⟨R, 0, none⟩), .pointer (some ⟨X, 0, none⟩)] w (GetPost w lo X R (getP p r x) rest) := by
 cases p
 ·have hv := hs.ver
  refine (get_ver r.ver.toNat (by omega) h (by omega)).mono fun e w' h => h.cong ?_
  simp only [getP]
  rw [show ((r.ver.toNat : Nat) : Int) = r.ver by omega]
 ·simp [okP] at hok
  refine (get_cnt r.count.toNat (by omega) h (by omega)).mono fun e w' h => h.cong ?_
  simp only [getP]
  rw [show ((r.count.toNat : Nat) : Int) = r.count by omega]
 ·exact get_one h
 ·simp [okP] at hok
  exact get_item r.items (fun y hy => ⟨hok y hy, hs.vals y hy, hs.bytes y hy, hs.vers y hy, hs.deads y hy⟩) hs.nitems hp h (by omega)
 ·simp [okP] at hok
  exact get_many r.items.length (by omega) hok.2 h (by omega)
 simp [okP] at hok
 have hvi : vi = .slice none 0 0 := by
  rcases h.items with ⟨_, e⟩ | ⟨_, _, _, _, _, _, _, e⟩
  ·exact e
  exact absurd hp.1 e
 subst hvi
 exact get_nums r.nums hs.nums hok hp.1 hp.2 (h.cong (by simp [putP, aA])) (by omega)
theorem XR.below {w w' : World} {lo X R : Nat} {x : RespR} {vi vn : Value} {rest : List Int} (h : XR w lo X R x vi vn rest) (hb : Bw w w') : XR w' lo X R x vi vn rest := by
 have hk : Kept [] w w' := Kept.of_below hb
 refine ⟨h.row.of_block (hb.block _ h.row.lt), h.ne, h.hX, h.hR, lT h.hlo hb.size, ?_, h.items.kept hk (by simp) h.hX h.hR, hk.own2 h.nums (by simp)⟩
 obtain ⟨A, c, h1, h2, h3⟩ := h.rd
 exact ⟨A, c, hk.row (by simp) h1, (h2.below hb (lR _)).mono hb.size, h3⟩
theorem KX.of_below {w w' : World} (lo X R : Nat) (hb : Bw w w') (hlo : lo <= w.heap.size) : KX lo X R w w' := ⟨hb.os, hb.tape, hb.output, hb.size, fun k hk _ _ => hb.block k (by omega)⟩
theorem iI_ (ps : List Part) {k : Nat} {p : Part} (h : ps[k]? = some p) : (ps.flatMap aq_)[k * 2]? = some (.func (.func (bg_ p)) #[] #[]) /\ (ps.flatMap aq_)[k * 2 + 1]? = some (.func (.func (bj_ p)) #[] #[]) := by
 induction ps generalizing k with
 | nil => simp at h
 | cons a ps ih =>
  cases k with
  | zero => simp at h; subst h; simp [aq_]
  | succ k =>
   have := ih (k := k) (by simpa using h)
   have e1 : (a :: ps).flatMap aq_ = aq_ a ++ ps.flatMap aq_ := by simp
   have hl : (aq_ a).length = 2 := rfl
   rw [e1, aR (by omega), aR (by omega), hl, show (k + 1) * 2 - 2 = k * 2 by omega, show (k + 1) * 2 + 1 - 2 = k * 2 + 1 by omega]
   exact this
theorem iF_ (p : Part) {r : RespR} (hs : RespS r) : (putP p r).length <= 305000 := by
 cases p
 ·have := ad_ (n := r.ver.toNat) (by have := hs.ver; omega); simp only [putP]; omega
 ·have := ad_ (n := r.count.toNat) (by have := hs.count; omega); simp only [putP]; omega
 ·simp [putP]
 ·have := hs.items_len (k := r.items.length); rw [List.take_length] at this; simp only [putP]; omega
 ·have := ad_ (n := r.items.length) (by have := hs.nitems; omega); simp only [putP]; omega
 have h1 := ad_ (n := r.nums.length) (by have := hs.nnums; omega)
 have := hs.nums_len (k := r.nums.length); rw [List.take_length] at this; simp only [putP, lA]; omega
def payP (ps : List Part) (r : RespR) : List Int := ps.flatMap (putP · r)
theorem c0_ (op : Int) : (aj_ op).length <= 2 := by
 unfold aj_
 repeat' split
 all_goals simp
theorem gc_ (r : RespR) (hs : RespS r) (k : Nat) : (payP ((aj_ r.op).drop k) r).length <= 306000 := by
 have hv := ad_ (n := r.ver.toNat) (by have := hs.ver; omega)
 have hc := ad_ (n := r.count.toNat) (by have := hs.count; omega)
 have hi := iF_ .item hs
 have hm := ad_ (n := r.items.length) (by have := hs.nitems; omega)
 have hn := iF_ .nums hs
 simp only [putP] at hi hn
 unfold aj_
 rcases Nat.lt_or_ge k 2 with h | h
 ·obtain rfl | rfl : k = 0 ∨ k = 1 := by omega
  all_goals
   repeat' split
   all_goals simp [payP, putP] at *
   all_goals omega
 have : (payP ((aj_ r.op).drop k) r) = [] := by
  have := c0_ r.op
  rw [List.drop_of_length_le (by omega)]
  rfl
 unfold aj_ at this
 rw [this]
 simp
theorem gb_ (r : RespR) (hs : RespS r) (k : Nat) : (payP ((aj_ r.op).take k) r).length <= 306000 := by
 have h0 := gc_ r hs 0
 have : payP ((aj_ r.op).drop 0) r = payP ((aj_ r.op).take k) r ++ payP ((aj_ r.op).drop k) r := by
  simp only [payP, List.drop_zero]
  rw [<- List.flatMap_append, List.take_append_drop]
 rw [this, lA] at h0
 omega
end Go.Proofs.YtnjhpgmbfblgaaaGreat.Ord
