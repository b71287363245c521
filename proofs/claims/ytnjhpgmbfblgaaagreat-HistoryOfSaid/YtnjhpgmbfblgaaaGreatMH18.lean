/- Traces in memory; the requests of a trace, as both programs answer; what keeps the calls small; Walk of history.Of. -/
import Derived.Test.YtnjhpgmbfblgaaaGreatMS0
import Derived.Test.YtnjhpgmbfblgaaaGreatH16
import Derived.Test.YtnjhpgmbfblgaaaGreatH7
import Derived.Test.YtnjhpgmbfblgaaaGreatMR5
namespace Go.Proofs.YtnjhpgmbfblgaaaGreat.Ord
open Go.RowKit
set_option linter.unusedVariables false
set_option linter.unusedSimpArgs false
def DidsAt (w : World) (B : Nat) (A : Option Addr) (ds : List DidR) : Prop :=
 ∀ i d, ds[i]? = some d -> ∃ b off p, A = some ⟨b, off, none⟩ /\ b < B /\ CellsAt w ⟨b, off + i * 25, none⟩ (didC d p) /\ DidOk w B d p
theorem DidsAt.below {B B' : Nat} {w w' : World} {A : Option Addr} {rs : List DidR} (h : DidsAt w B A rs) (hb : Below B' w w') (hB : B <= B') : DidsAt w' B A rs := by
 intro i r hi
 obtain ⟨b, off, d, h1, h2, h3, h4⟩ := h i r hi
 exact ⟨b, off, d, h1, h2, h3.below hb (by show b < B'; omega), h4.below hb hB⟩
/-- the requests of a trace and the error -/
def ofRes (ds : List DidR) : List CallR × Int :=
 if 4096 < ds.length then ([], 5) else match runOf ds 0 st0 with
  | none => ([], 10)
  | some s => (s.calls, 0)
theorem runOf_append : ∀ (xs ys : List DidR) (i : Nat) (s : St), runOf (xs ++ ys) i s = match runOf xs i s with
  | none => none
  | some s' => runOf ys (i + xs.length) s'
 | [], ys, i, s => by simp [runOf]
 | x :: xs, ys, i, s => by
  simp only [List.cons_append, runOf]
  cases h : stepIf i x s with
  | none => rfl
  | some s' =>
   simp only [runOf_append xs ys (i + 1) s', List.length_cons]
   rw [show i + 1 + xs.length = i + (xs.length + 1) by omega]
theorem runOf_take {ds : List DidR} {k : Nat} {d : DidR} {s : St} (h : runOf (ds.take k) 0 st0 = some s) (hd : ds[k]? = some d) : runOf (ds.take (k + 1)) 0 st0 = stepIf k d s := by
 have hl := (List.getElem?_eq_some_iff.1 hd).1
 rw [List.take_add_one, hd, Option.toList_some, runOf_append, h]
 have e : (ds.take k).length = k := by rw [List.length_take]; omega
 simp only [e, Nat.zero_add, runOf]
 cases stepIf k d s <;> rfl
theorem runOf_none {ds : List DidR} {k : Nat} (h : runOf (ds.take k) 0 st0 = none) : runOf ds 0 st0 = none := by
 have := runOf_append (ds.take k) (ds.drop k) 0 st0
 rw [List.take_append_drop, h] at this
 exact this
theorem runOf_ok : ∀ {ds : List DidR} {i : Nat} {s s' : St}, StOk i s -> runOf ds i s = some s' -> StOk (i + ds.length) s'
 | [], i, s, s', h, e => by cases e; exact h
 | d :: ds, i, s, s', h, e => by
  simp only [runOf] at e
  split at e
  ·cases e
  ·rename_i s1 h1
   have := runOf_ok (h.step h1) e
   rw [List.length_cons, show i + (ds.length + 1) = i + 1 + ds.length by omega]
   exact this
/-- small enough to be copied -/
structure Small (c : CmdR) (r : RespR) : Prop where
 keys : c.keys.length <= 100
 tags : c.tags.length <= 100
 val : c.val.length <= 3000
 items : r.items.length <= 100
 nums : r.nums.length <= 100
 vals : ∀ x ∈ r.items, x.val.length <= 3000
theorem Light.small {c : CmdR} {r : RespR} (h : Light c r) : Small c r := ⟨h.nkeys, h.ntags, h.val, h.nitems, h.nnums, h.vals⟩
theorem small_mix {c c' : CmdR} {r r' : RespR} (h : Small c r) (h' : Small c' r') : Small c r' := ⟨h.keys, h.tags, h.val, h'.items, h'.nums, h'.vals⟩
theorem small0 : Small cmd0 resp0 := ⟨by simp [cmd0], by simp [cmd0], by simp [cmd0], by simp [resp0], by simp [resp0], by simp [resp0]⟩
theorem small_new {c : ConnS} {i : Nat} {d : DidR} (h : Small d.cmd d.resp) : Small (newCall c i d).cmd (newCall c i d).resp := by
 unfold newCall
 split
 ·exact small_mix small0 h
 ·exact small_mix h small0
def AllSmall (l : List CallR) : Prop := ∀ x ∈ l, Small x.cmd x.resp
theorem AllSmall.set {l : List CallR} (h : AllSmall l) (j : Nat) {y : CallR} (hy : Small y.cmd y.resp) : AllSmall (l.set j y) := by
 intro x hx
 rcases List.mem_or_eq_of_mem_set hx with h1 | h1
 ·exact h x h1
 ·subst h1; exact hy
theorem small_micro {i : Nat} {d : DidR} {s s' : St} (h : AllSmall s.calls) (hd : Small d.cmd d.resp) (e : microOf i d s = some s') : AllSmall s'.calls := by
 unfold microOf at e
 split at e
 ·cases e
 ·split at e
  ·split at e
   ·cases e
   ·cases e
    intro x hx
    rcases List.mem_append.1 hx with hx | hx
    ·exact h x hx
    ·simp at hx; subst hx; exact small_new hd
  ·split at e
   ·split at e
    ·cases e
    ·split at e
     ·cases e
     ·rename_i x hx
      split at e
      ·cases e
      ·cases e
       exact h.set _ (small_mix (h x (List.mem_of_getElem? hx)) hd)
   ·split at e
    ·split at e
     ·cases e
     ·split at e
      ·cases e
      ·rename_i x hx
       split at e
       ·cases e
       ·cases e
        exact h.set _ (h x (List.mem_of_getElem? hx))
    ·cases e; exact h
theorem small_step {i : Nat} {d : DidR} {s s' : St} (h : AllSmall s.calls) (hd : Small d.cmd d.resp) (e : stepIf i d s = some s') : AllSmall s'.calls := by
 unfold stepIf at e
 split at e
 ·unfold readOf at e
  split at e
  ·split at e
   ·cases e
   ·cases e; exact h
  ·split at e
   ·split at e
    ·cases e
    ·cases e; exact h
   ·split at e
    ·exact small_micro h hd e
    ·cases e; exact h
 ·cases e; exact h
theorem small_run : ∀ {ds : List DidR} {i : Nat} {s s' : St}, AllSmall s.calls -> (∀ d ∈ ds, Small d.cmd d.resp) -> runOf ds i s = some s' -> AllSmall s'.calls
 | [], i, s, s', h, hd, e => by cases e; exact h
 | d :: ds, i, s, s', h, hd, e => by
  simp only [runOf] at e
  split at e
  ·cases e
  ·rename_i s1 h1
   exact small_run (small_step h (hd d (by simp)) h1) (fun x hx => hd x (by simp [hx])) e
set_option maxRecDepth 100000
set_option maxHeartbeats 16000000
theorem did_sizeA (d : DidR) (p : DidV) : (Tryz.prog.info? 42).map (·.size) = some (didC d p).toArray.size := by
 show _ = some 25
 kernel_rfl
theorem did_one (d : DidR) (p : DidV) (w : World) (B : Nat) (h : DidOk w B d p) : (didC d p).toArray.all (·.oneCell') = true := by
 obtain ⟨⟨_, _, A1, c1, e1, _⟩, ⟨_, _, A2, c2, e2, _⟩, ⟨⟨_, A3, c3, e3, _⟩, ⟨_, _, A4, c4, e4, _⟩, ⟨_, A5, c5, e5, _⟩⟩, ⟨⟨_, A6, c6, e6, _⟩, _, A7, c7, e7, _⟩⟩ := h
 refine all_oneCell_toArray fun v hv => ?_
 simp only [didC, didL, e1, e2, e3, e4, e5, e6, e7, List.mem_cons, List.not_mem_nil, or_false] at hv
 rcases hv with rfl | rfl | rfl | rfl | rfl | rfl | rfl | rfl | rfl | rfl | rfl | rfl | rfl | rfl | rfl | rfl | rfl | rfl | rfl | rfl | rfl | rfl | rfl | rfl | rfl <;> rfl
theorem inv_init (w : World) : Inv ((w.alloc (.map #[] 0)).alloc (.cells #[.map (some w.heap.size), .slice none 0 0, .int .i64 0] 111)) w.heap.size (w.heap.size + 1) w.heap.size (.slice none 0 0) (fun _ => 0) [] st0 := by
 have hm := MapAt.new w
 have hr := RowL.new (w.alloc (.map #[] 0)) 111 [.map (some w.heap.size), .slice none 0 0, .int .i64 0]
 rw [alloc_size1] at hr
 exact ⟨by simp; omega, hr, (hm.of_block (heap_alloc_lt _ _ _ hm.lt)).congr fun k => rfl, fun k c h => by simp [st0] at h, fun k c k' c' h => by simp [st0] at h, ⟨by simp, .inl ⟨rfl, rfl⟩⟩, rfl, List.nodup_nil, fun j x h => by simp [st0] at h, by omega, Nat.le_refl _, fun k c h => by simp [st0] at h, fun b h => by simp at h⟩
theorem stepIf_eq0 {i : Nat} {d : DidR} {s : St} (h : d.err = 0) : stepIf i d s = readOf i d s := by unfold stepIf; rw [if_pos h]
theorem stepIf_ne0 {i : Nat} {d : DidR} {s : St} (h : ¬ d.err = 0) : stepIf i d s = some s := by unfold stepIf; rw [if_neg h]
theorem ofRes_long {ds : List DidR} (h : 4096 < ds.length) : ofRes ds = ([], 5) := by unfold ofRes; rw [if_pos h]
theorem ofRes_no {ds : List DidR} (h : ¬ 4096 < ds.length) (h1 : runOf ds 0 st0 = none) : ofRes ds = ([], 10) := by unfold ofRes; rw [if_neg h, h1]
theorem ofRes_yes {ds : List DidR} {s : St} (h : ¬ 4096 < ds.length) (h1 : runOf ds 0 st0 = some s) : ofRes ds = (s.calls, 0) := by unfold ofRes; rw [if_neg h, h1]
def OfPost (w : World) (ds : List DidR) (e : Ending) (w' : World) : Prop :=
 ∃ A c, e = .returned (.tuple #[.slice A (ofRes ds).1.length c, .int .i64 (ofRes ds).2]) /\ CalsAt w' w'.heap.size A (ofRes ds).1 /\ Below w.heap.size w w'
theorem OfPost.err {w w' : World} {ds : List DidR} {e : Ending} {z : Int} (h : ofRes ds = ([], z)) (he : e = .returned (.tuple #[.slice none 0 0, .int .i64 z])) (hb : Below w.heap.size w w') : OfPost w ds e w' := by
 unfold OfPost
 rw [h]
 exact ⟨none, 0, he, fun i c hi => by simp at hi, hb⟩
theorem OfPost.ok {w w' : World} {ds : List DidR} {e : Ending} {cs : List CallR} {A : Option Addr} {c : Nat} (h : ofRes ds = (cs, 0)) (he : e = .returned (.tuple #[.slice A cs.length c, .int .i64 0])) (hc : CalsAt w' w'.heap.size A cs) (hb : Below w.heap.size w w') : OfPost w ds e w' := by
 unfold OfPost
 rw [h]
 exact ⟨A, c, he, hc, hb⟩

theorem of8 (ds : List DidR) (A : Option Addr) (n c : Nat) (w : World) (hn : ds.length = n) (hl : n <= maxLen) (hA : DidsAt w w.heap.size A ds) (hsm : ∀ d ∈ ds, Small d.cmd d.resp) :
  Calls Tryz.prog 17 #[.slice A n c] w (OfPost w ds) := by
 have hn' : n <= 9223372036854775807 := by unfold maxLen at hl; omega
 by_cases hlong : 4096 < n
 ·have hg : decide (4096 < (n : Int)) = true := by simp; omega
  clear hA
  go_enter Tryz.func17, Tryz.ntmps17
  go_wp2_with fail
  go_ret2
  exact .err (ofRes_long (by omega)) rfl (Below.refl _ _)
 have hg : decide (4096 < (n : Int)) = false := by simp; omega
 have HA := kp hA
 have HN := kp hn
 have HSM := kp hsm
 have HI0 := kp (inv_init w)
 have HB0 := kp (below2 w (.map #[] 0) (.cells #[.map (some w.heap.size), .slice none 0 0, .int .i64 0] 111))
 have hnl : ¬ 4096 < ds.length := by omega
 have HNL := kp hnl
 have hmk : ∀ w, (Instr.makeMap 108 none).run Tryz.prog w = .ok (.map (some w.heap.size)) (w.alloc (.map #[] 0)) := fun _ => rfl
 clear hA hn hsm hnl
 go_enter Tryz.func17, Tryz.ntmps17
 go_upto_region 4 with (fail)
 obtain ⟨W0, hW0⟩ : ∃ W0, (w.alloc (.map #[] 0)).alloc (.cells #[.map (some w.heap.size), .slice none 0 0, .int .i64 0] 111) = W0 := ⟨_, rfl⟩
 rw [hW0] at HI0 HB0 ⊢
 clear hW0
 go_wp2_with fail
 go_loopw [18] (fun j wr => ∃ (k : Nat) (v : Value) (cb : Int -> Nat) (ps : List Nat) (s : St), j = .int .i64 k /\ k <= n /\ runOf (ds.take k) 0 st0 = some s /\ Inv wr w.heap.size (w.heap.size + 1) w.heap.size v cb ps s /\ Below w.heap.size w wr) (fun j _ => n - (intOf j).toNat)
 case atStart => exact ⟨0, _, _, _, st0, by go_num, Nat.zero_le _, rfl, HI0.out, HB0.out⟩
 case round =>
  obtain ⟨k, v, cb, ps, s, rfl, hk, hrun, hinv, hb⟩ := hrel
  have HRUN := kp hrun
  have HINV := kp hinv
  have HB := kp hb
  clear hrun hinv hb
  by_cases hlt : k < n
  ·have hg2 : decide ((k : Int) < (n : Int)) = true := by simp; omega
   have hk1 : k < ds.length := by rw [HN.out]; exact hlt
   obtain ⟨d, hd⟩ : ∃ d, ds[k] = d := ⟨_, rfl⟩
   have hdk := List.getElem?_eq_getElem hk1
   rw [hd] at hdk
   obtain ⟨b, off, p, rfl, hbB, hck, hok⟩ := (HA.out.below HB.out (Nat.le_refl _)) k d hdk
   have HDK := kp hdk
   have hst : StOk k s := by
    have := runOf_ok StOk.init HRUN.out
    rwa [List.length_take, Nat.min_eq_left (by omega), Nat.zero_add] at this
   have H20 := kp (fun W (hW : Below wr.heap.size wr W) => read20_any w.heap.size (w.heap.size + 1) w.heap.size v cb ps s k d p W (HINV.out.below hW) hst (by omega) (hok.2.2.1.below (hW.mono' HINV.out.hlim) (Nat.le_refl _)) (hok.2.2.2.below (hW.mono' HINV.out.hlim) (Nat.le_refl _)))
   have HZ := kp (did_sizeL d p)
   have HZA := kp (did_sizeA d p)
   have H1 := kp (did_one d p _ _ hok)
   have hl4 : (didC d p)[4]? = some (.int .i64 d.err) := rfl
   have hlen : (didC d p).length = 25 := rfl
   clear hd hst hok hdk
   generalize didC d p = l at *
   have Hk := kp hck
   have HL4 := kp hl4
   have HLEN := kp hlen
   clear hck hl4 hlen
   by_cases he : d.err = 0
   ·have hge : (d.err == 0) = true := by simp [he]
    have HE := kp he
    clear he
    go_wp2_with (first
     | ((with_reducible refine wpList_load_agg (o := ⟨some 22, _, _, _, _, _⟩) rfl 42 _ rfl ⟨b, off + k * 25, none⟩ ?_ l _ Hk.out Tryz.underlying42 rfl HZ.out ?_); (· rfl))
     | ((with_reducible refine wpList_store_at2 (op := ⟨none, _, _, _, _, _⟩) rfl 42 _ _ rfl wr.heap.size 0 l.toArray ?_ ?_ ?_ HZA.out H1.out ?_); (· rfl); (· rfl); (· exact there_zero _ _ _ _ HLEN.out); intro w7 hw7; have hx7 : RowL w7 wr.heap.size 42 l /\ Below wr.heap.size wr w7 := (by rw [hw7]; exact stored_zero wr 42 l _ HLEN.out); clear hw7; have c4 := hx7.1.cell HL4.out; have HX7 := kp hx7.1; have HB7 := kp hx7.2; have HC7 := kp hx7.1.cells; clear hx7)
     | ((with_reducible refine wpList_load_agg_w (o := ⟨some 29, _, _, _, _, _⟩) ?_ 42 _ rfl ⟨wr.heap.size, 0, none⟩ ?_ l _ HC7.out Tryz.underlying42 HZ.out ?_); (· rfl); (· rfl)))
    refine (H20.out w7 HB7.out).mono ?_
    intro e w8 hp
    cases hm : readOf k d s with
    | none =>
     rw [hm] at hp
     obtain ⟨rfl, hb8⟩ := hp
     have HB8 := kp hb8
     have HM := kp hm
     clear hb8 hm
     go_wp2_with fail
     go_ret2
     exact .err (ofRes_no HNL.out (runOf_none (k := k + 1) ((runOf_take HRUN.out HDK.out).trans ((stepIf_eq0 HE.out).trans HM.out)))) rfl (HB.out.trans ((HB7.out.mono' HINV.out.hlim).trans HB8.out))
    | some s' =>
     rw [hm] at hp
     obtain ⟨rfl, hb8, v', cb', ps', hi8⟩ := hp
     have HB8 := kp hb8
     have HM := kp hm
     have HI8 := kp hi8
     clear hb8 hm hi8
     go_wp2_with fail
     go_roundw
     case rel => exact ⟨k + 1, v', cb', ps', s', by go_num, by omega, (runOf_take HRUN.out HDK.out).trans ((stepIf_eq0 HE.out).trans HM.out), HI8.out, HB.out.trans ((HB7.out.mono' HINV.out.hlim).trans HB8.out)⟩
     case measure => simp [intOf]; omega
   ·have hge : (d.err == 0) = false := by simp [he]
    have HE := kp he
    clear he
    go_wp2_with (first
     | ((with_reducible refine wpList_load_agg (o := ⟨some 22, _, _, _, _, _⟩) rfl 42 _ rfl ⟨b, off + k * 25, none⟩ ?_ l _ Hk.out Tryz.underlying42 rfl HZ.out ?_); (· rfl))
     | ((with_reducible refine wpList_store_at2 (op := ⟨none, _, _, _, _, _⟩) rfl 42 _ _ rfl wr.heap.size 0 l.toArray ?_ ?_ ?_ HZA.out H1.out ?_); (· rfl); (· rfl); (· exact there_zero _ _ _ _ HLEN.out); intro w7 hw7; have hx7 : RowL w7 wr.heap.size 42 l /\ Below wr.heap.size wr w7 := (by rw [hw7]; exact stored_zero wr 42 l _ HLEN.out); clear hw7; have c4 := hx7.1.cell HL4.out; have HX7 := kp hx7.1; have HB7 := kp hx7.2; clear hx7))
    go_roundw
    case rel => exact ⟨k + 1, v, cb, ps, s, by go_num, by omega, (runOf_take HRUN.out HDK.out).trans (stepIf_ne0 HE.out), HINV.out.below HB7.out, HB.out.trans (HB7.out.mono' HINV.out.hlim)⟩
    case measure => simp [intOf]; omega
  ·obtain rfl : k = n := by omega
   have hg2 : decide ((k : Int) < (k : Int)) = false := by simp
   have hrun2 : runOf ds 0 st0 = some s := by
    have := HRUN.out
    rwa [List.take_of_length_le (by have := HN.out; omega)] at this
   have hst : StOk k s := by
    have := runOf_ok StOk.init hrun2
    rwa [HN.out, Nat.zero_add] at this
   have hcs := small_run (s := st0) (fun x hx => by simp [st0] at hx) HSM.out hrun2
   have r1 : wr.cell? ⟨w.heap.size + 1, 1, none⟩ = some v := HINV.out.row.cell (j := 1) rfl
   have hm1 : ps.length <= 4096 := by have := hst.len; rw [HINV.out.len]; omega
   obtain ⟨A1, c1, rfl⟩ := own_slice HINV.out.own
   obtain ⟨m, hm⟩ : ∃ m, ps.length = m := ⟨_, rfl⟩
   rw [hm] at r1 hm1 HINV
   have HM := kp hm
   have HRES := kp (ofRes_yes HNL.out hrun2)
   have HCS := kp hcs
   clear hm hrun2 hst hcs
   obtain ⟨w2, rfl⟩ : ∃ w2, w2 = wr := ⟨_, rfl⟩
   go_wp2_with fail
   go_loopw [39, 7] (fun j o wr => ∃ (k2 : Nat) (L : List (CallR × CallV)), j = .int .i64 k2 /\ k2 <= m /\ L.length = k2 /\ L.map (·.1) = s.calls.take k2 /\ wr.ownsRow w2.heap.size 52 23 o k2 (L.flatMap fun x => callC x.1 x.2) /\ (∀ x ∈ L, Stab (fun b => o.ownBlock = some b) wr (fun W => CallOk W W.heap.size x.1 x.2)) /\ Below w2.heap.size w2 wr) (fun j _ _ => m - (intOf j).toNat)
   case atStart => exact ⟨0, [], by go_num, Nat.zero_le _, rfl, rfl, ⟨rfl, .inl ⟨rfl, rfl⟩⟩, fun x hx => by simp at hx, Below.refl _ _⟩
   case round =>
    obtain ⟨k2, L, rfl, hk2, hL1, hL2, hown, hst, hbl⟩ := hrel
    obtain ⟨Ao, co, rfl⟩ := own_slice hown
    have HL1 := kp hL1
    have HL2 := kp hL2
    have HOWN := kp hown
    have HST := kp hst
    have HBL := kp hbl
    clear hL1 hL2 hown hst hbl r1
    by_cases hlt2 : k2 < m
    ·have hg3 : decide ((k2 : Int) < (m : Int)) = true := by simp; omega
     have hkc : k2 < s.calls.length := by rw [<- HINV.out.len, HM.out]; exact hlt2
     have hx := List.getElem?_eq_getElem hkc
     obtain ⟨x, hxe⟩ : ∃ x, s.calls[k2] = x := ⟨_, rfl⟩
     rw [hxe] at hx
     obtain ⟨p, hp1, hp2⟩ := HINV.out.call _ _ hx
     rcases owns_shape HINV.out.own (by decide) with ⟨e1, e2, e3⟩ | ⟨g, cap, e1, e2, e3, e4, e5⟩
     ·cases e1; omega
     cases e1
     have hgc : w2.cell? ⟨g, k2, none⟩ = some (.pointer (some ⟨ps.getD k2 0, 0, none⟩)) := by
      rw [HINV.out.own.cellAt k2 (by omega), List.getElem?_map]
      have : k2 < ps.length := by rw [HM.out]; exact hlt2
      simp [List.getD, List.getElem?_eq_getElem this, ptrV]
     have hgw : wr.cell? ⟨g, k2, none⟩ = some (.pointer (some ⟨ps.getD k2 0, 0, none⟩)) := (HBL.out.cell (p := ⟨g, k2, none⟩) e3).trans hgc
     obtain ⟨pa, hpa⟩ : ∃ pa, ps.getD k2 0 = pa := ⟨_, rfl⟩
     rw [hpa] at hgw hp1
     have hrow := hp1.below HBL.out hp1.lt
     have hsmx := HCS.out x (List.mem_of_getElem? hx)
     have H21 := kp (own21 w.heap.size x p wr (hp2.below (HBL.out.mono' HINV.out.hlim) (Nat.le_refl _)) (Nat.le_trans HINV.out.hlim HBL.out.size) (by have := hsmx.keys; omega) (by have := hsmx.tags; omega) (by have := hsmx.val; omega) (by have := hsmx.items; omega) (by have := hsmx.nums; omega) (fun y hy => by have := hsmx.vals y hy; omega))
     have HX := kp hx
     have hszl : (Tryz.prog.info? 52).map (·.size) = some (callC x p).length := call_sizeL _ _ _ _ _ _ _ _ _ _ _ _ _ _ _ _ _ _ _ _ _ _ _
     have HROW := kp hrow.cells
     have HSZ := kp hszl
     clear hgc hpa hp1 hp2 hrow hsmx hx hxe hszl e2 e4 e5
     generalize callC x p = lc at *
     go_wp2_with ((with_reducible refine wpList_load_agg (o := ⟨some 46, _, _, _, _, _⟩) rfl 52 _ rfl ⟨pa, 0, none⟩ ?_ lc _ HROW.out Tryz.underlying52 rfl HSZ.out ?_); (· rfl))
     refine H21.out.mono ?_
     rintro e w8 ⟨p', rfl, hst8, hb8⟩
     have HST8 := kp hst8
     have HB8 := kp hb8
     have hone := call_oneC hst8.now
     have hlc : (callC x p').length = 23 := rfl
     have hfl : ((L ++ [(x, p')]).flatMap fun x => callC x.1 x.2) = (L.flatMap fun x => callC x.1 x.2) ++ callC x p' := by simp
     have HFL := kp hfl
     clear hst8 hb8 hfl
     generalize callC x p' = lo at *
     have hcs : (Value.agg lo.toArray).cells = lo.toArray := rfl
     have hls : lo.toArray.size = 23 := by simpa using hlc
     have HCSZ := kp hcs
     have HLS := kp hls
     have HLC := kp hlc
     have HONE := kp hone
     clear hcs hls hlc hone
     go_wp2_with (first
      | ((with_reducible refine wpList_slice_one (o := ⟨some 48, _, _, _, _, _⟩) rfl 43 _ rfl 52 _ 23 296 (.agg lo.toArray) lo.toArray Tryz.underlying43 q_info52 ?_ ?_ ?_ HCSZ.out HLS.out ?_); (· decide); (· decide); (· rfl))
      | ((with_reducible refine wpList_append_g (o := ⟨some 49, _, _, _, _, _⟩) rfl _ _ 43 rfl w2.heap.size 52 _ 23 296 Tryz.underlying43 q_info52 ?_ ?_ (.slice Ao k2 co) k2 (L.flatMap fun x => callC x.1 x.2) ?_ ?_ ⟨w8.heap.size, 0, none⟩ 1 1 lo ?_ ?_ ?_ HONE.out ?_ ?_ ?_ ?_); (· rfl); (· decide); (· rfl); (· exact (Kept.of_below (L := []) (HB8.out.alloc (Nat.le_trans HB8.out.size (Nat.le_refl _)) _)).own2 HOWN.out (by simp)); (· rfl); (· exact HLC.out); (· intro j u hj; rw [Addr.add_mid, Nat.zero_add]; exact (RowL.new w8 52 lo).cell hj); (· unfold maxLen; omega); (· omega); (· have := HBL.out.size; have := HB8.out.size; simp; omega); intro v9 w9 ho9 hg9 hb9; obtain ⟨A9, c9, rfl⟩ := own_slice ho9; have HO9 := kp ho9; have HG9 := kp hg9; have HB9 := kp hb9; clear ho9 hg9 hb9))
     have hkw : Kept (Value.slice Ao k2 co).ownBlock.toList w8 w9 := ((Kept.refl _ w8).alloc _).trans (kept_of_grown HG9.out)
     have hbw : Below w2.heap.size w2 w9 := HBL.out.trans ((HB8.out.mono' HBL.out.size).trans (hkw.below (Nat.le_trans HBL.out.size HB8.out.size) (fun b hb => own_ge HOWN.out hb)))
     have hnb : ∀ b, (Value.slice A9 (k2 + 1) c9).ownBlock = some b -> (Value.slice Ao k2 co).ownBlock = some b ∨ w8.heap.size <= b := fun b hb => by
      rcases HB9.out with h | h
      ·left; rw [<- h]; exact hb
      ·right
       rw [hb] at h
       cases h
       simp
     have hst : ∀ y ∈ L ++ [(x, p')], Stab (fun b => (Value.slice A9 (k2 + 1) c9).ownBlock = some b) w9 (fun W => CallOk W W.heap.size y.1 y.2) := fun y hy => by
      rcases List.mem_append.1 hy with hy | hy
      ·refine Stab.step (HST.out y hy) ((Kept.of_below HB8.out).trans hkw) (fun b hb => .inl (by simpa using hb)) (fun b hb => ?_)
       rcases hnb b hb with h | h
       ·exact .inl h
       ·exact .inr (Nat.le_trans HB8.out.size h)
      ·simp at hy
       subst hy
       refine Stab.step HST8.out hkw (fun b hb => .inl ?_) (fun b hb => ?_)
       ·have := HOWN.out.lt b (by simpa using hb)
        have := HINV.out.hlim
        constructor <;> omega
       ·rcases hnb b hb with h | h
        ·have := HOWN.out.lt b h
         have := HINV.out.hlim
         exact .inl (by constructor <;> omega)
        ·exact .inr h
     have hown9 : w9.ownsRow w2.heap.size 52 23 (.slice A9 (k2 + 1) c9) (k2 + 1) ((L ++ [(x, p')]).flatMap fun x => callC x.1 x.2) := by rw [HFL.out]; exact HO9.out
     have hmap : (L ++ [(x, p')]).map (·.1) = s.calls.take (k2 + 1) := by
      rw [List.map_append, HL2.out, List.take_add_one, HX.out]
      rfl
     have HST9 := kp hst
     have HOWN9 := kp hown9
     have HMAP := kp hmap
     have HBW := kp hbw
     clear hst hown9 hmap hbw hnb hkw
     go_wp2_with fail
     go_roundw
     case rel => exact ⟨k2 + 1, L ++ [(x, p')], by go_num, by omega, by simp [HL1.out], HMAP.out, HOWN9.out, HST9.out, HBW.out⟩
     case measure => simp [intOf]; omega
    ·obtain rfl : k2 = m := by omega
     have hg3 : decide ((k2 : Int) < (k2 : Int)) = false := by simp
     have hL : L.map (·.1) = s.calls := by
      rw [HL2.out, List.take_of_length_le (by rw [<- HINV.out.len, HM.out]; exact Nat.le_refl _)]
     have hown2 := HOWN.out
     rw [<- HL1.out] at hown2
     obtain ⟨A', c', e', hcals⟩ := cals_own hown2 (fun x hx => (HST.out x hx).now)
     rw [hL] at hcals
     have hlc : s.calls.length = k2 := by rw [<- HINV.out.len, HM.out]
     cases e'
     have HCALS := kp hcals
     have HLC := kp hlc
     clear hL hown2 hcals hlc
     go_wp2_with fail
     go_ret2
     refine .ok (A := Ao) (c := co) HRES.out ?_ HCALS.out (HB.out.trans (HBL.out.mono' HINV.out.hlim))
     rw [HLC.out]
     rfl
end Go.Proofs.YtnjhpgmbfblgaaaGreat.Ord
