/- Walk of the reference's Of; Walk of the closure of given. -/
import Derived.Test.YtnjhpgmbfblgaaaGreatH19
import Derived.Test.YtnjhpgmbfblgaaaGreatH12
import Derived.Test.YtnjhpgmbfblgaaaGreatK7
import Derived.Test.YtnjhpgmbfblgaaaGreatN12
namespace Go.Proofs.YtnjhpgmbfblgaaaGreat.Ord
open Go.RowKit
set_option linter.unusedVariables false
set_option linter.unusedSimpArgs false
theorem cells_mid5 {w : World} {b o : Nat} {l1 l2 l3 : List Value} (h : CellsAt w ⟨b, o, none⟩ (l1 ++ (l2 ++ l3))) : CellsAt w ⟨b, o + l1.length, none⟩ l2 := fun j v hj => by
 have hl := (List.getElem?_eq_some_iff.1 hj).1
 have h1 : (l1 ++ (l2 ++ l3))[l1.length + j]? = some v := by
  rw [List.getElem?_append_right (by omega), Nat.add_sub_cancel_left, List.getElem?_append_left hl, hj]
 have h2 := h (l1.length + j) v h1
 rw [Addr.add_mid] at h2 ⊢
 rw [Nat.add_assoc]
 exact h2
theorem did_cmd {w : World} {b o : Nat} {d : DidR} {p : DidV} (h : CellsAt w ⟨b, o, none⟩ (didC d p)) : CellsAt w ⟨b, o + 8, none⟩ (cmdC d.cmd p.vk p.vv p.vt) :=
 cells_mid5 (l1 := [.int .i64 d.step.k, .int .i64 d.step.c, .int .i64 d.step.n, p.vs, .int .i64 d.err, .int .i64 d.n, p.vd, .int .i64 d.micro]) (l3 := respC d.resp p.vi p.vn ++ [.int .u64 d.when]) h
theorem did_resp {w : World} {b o : Nat} {d : DidR} {p : DidV} (h : CellsAt w ⟨b, o, none⟩ (didC d p)) : CellsAt w ⟨b, o + 18, none⟩ (respC d.resp p.vi p.vn) :=
 cells_mid5 (l1 := [.int .i64 d.step.k, .int .i64 d.step.c, .int .i64 d.step.n, p.vs, .int .i64 d.err, .int .i64 d.n, p.vd, .int .i64 d.micro] ++ cmdC d.cmd p.vk p.vv p.vt) (l3 := [.int .u64 d.when]) h
theorem cmd_oneA {w : World} {B : Nat} {c : CmdR} {vk vv vt : Value} (h : CmdOk w B c vk vv vt) : (cmdC c vk vv vt).toArray.all (·.oneCell') = true := by
 obtain ⟨⟨_, A3, c3, e3, _⟩, ⟨_, _, A4, c4, e4, _⟩, ⟨_, A5, c5, e5, _⟩⟩ := h
 refine all_oneCell_toArray fun v hv => ?_
 simp only [cmdC, e3, e4, e5, List.mem_cons, List.not_mem_nil, or_false] at hv
 rcases hv with rfl | rfl | rfl | rfl | rfl | rfl | rfl | rfl | rfl | rfl <;> rfl
theorem resp_oneA {w : World} {B : Nat} {r : RespR} {vi vn : Value} (h : RespOk w B r vi vn) : (respC r vi vn).toArray.all (·.oneCell') = true := by
 obtain ⟨⟨_, A6, c6, e6, _⟩, _, A7, c7, e7, _⟩ := h
 refine all_oneCell_toArray fun v hv => ?_
 simp only [respC, e6, e7, List.mem_cons, List.not_mem_nil, or_false] at hv
 rcases hv with rfl | rfl | rfl | rfl | rfl | rfl <;> rfl
theorem cmdOk0 (w : World) (B : Nat) : CmdOk w B cmd0 (.slice none 0 0) (.slice none 0 0) (.slice none 0 0) := ⟨slv_nil _ _, datg_nil _ _, slv_nil _ _⟩
theorem respOk0 (w : World) (B : Nat) : RespOk w B resp0 (.slice none 0 0) (.slice none 0 0) := ⟨items_nil _ _, nums_nil _ _⟩
theorem new_ok {w : World} {B : Nat} {c : ConnS} {i : Nat} {d : DidR} {p : DidV} (hc : CmdOk w B d.cmd p.vk p.vv p.vt) (hr : RespOk w B d.resp p.vi p.vn) : CallOk w B (newCall c i d) (newV d p) := by
 unfold newCall newV
 split
 ·exact ⟨cmdOk0 _ _, hr⟩
 ·exact ⟨hc, respOk0 _ _⟩
theorem St.put_same {s : St} {k : Int} {c : ConnS} (h : s.conns k = some c) : s.put k (some c) = s := by
 obtain ⟨f, l, n⟩ := s
 simp only [St.put] at h ⊢
 congr 1
 funext j
 by_cases e : j = k
 ·subst e; simp [h]
 ·simp [e]
theorem conn_sizeA (a b c d : Value) : (Tryz.prog.info? 117).map (·.size) = some #[a, b, c, d].size := by
 show _ = some 4
 kernel_rfl
theorem conn_sizeL (a b c d : Value) : (Tryz.prog.info? 117).map (·.size) = some [a, b, c, d].length := by
 show _ = some 4
 kernel_rfl
theorem conn_one (t : Bool) (a b c : Int) : #[Value.bool t, .int .i64 a, .int .i64 b, .int .i64 c].all (·.oneCell') = true := all_oneCell_toArray (cs := [Value.bool t, .int .i64 a, .int .i64 b, .int .i64 c]) fun v hv => by
 simp only [List.mem_cons, List.not_mem_nil, or_false] at hv
 rcases hv with rfl | rfl | rfl | rfl <;> rfl
theorem refI_init (w : World) : RefI (w.alloc (.map #[] 0)) w.heap.size w.heap.size (.slice none 0 0) [] st0 := by
 have hm := MapAt.new w
 exact ⟨by simp, ⟨_, hm, fun k => rfl⟩, ⟨rfl, .inl ⟨rfl, rfl⟩⟩, rfl, fun x hx => by simp at hx, Nat.le_refl _⟩
/-- a block that was made later is not the row of the calls, nor the map -/
theorem RefI.lt_map {w : World} {lim mb : Nat} {o : Value} {L : List (CallR × CallV)} {s : St} (h : RefI w lim mb o L s) : mb < w.heap.size := by
 obtain ⟨g, h1, h2⟩ := h.map
 exact h1.lt
theorem callZ_one (ses num : Int) (k : Nat) : (callL ses num false 0 ⟨#[]⟩ (.slice none 0 0) (.slice none 0 0) (.slice none 0 0) 0 0 ⟨#[]⟩ ⟨#[]⟩ ⟨#[]⟩ 0 0 (.slice none 0 0) 0 0 (.slice none 0 0) k (-1) (-1) 0).toArray.all (·.oneCell') = true := all_oneCell_toArray fun v hv => by
 simp only [callL, List.mem_cons, List.not_mem_nil, or_false] at hv
 rcases hv with rfl | rfl | rfl | rfl | rfl | rfl | rfl | rfl | rfl | rfl | rfl | rfl | rfl | rfl | rfl | rfl | rfl | rfl | rfl | rfl | rfl | rfl | rfl <;> rfl
theorem _root_.Go.Proofs.YtnjhpgmbfblgaaaGreat.Ord.Kept.drew' {L : List Nat} {w w' : World} (h : Kept L w w') : Kept L w w'.drew := ⟨h.os, h.tape, h.output, h.size, h.block⟩
theorem putL_get : ∀ (vs : List Value) (l : List Value) (o i : Nat), o + vs.length <= i -> (putL l o vs)[i]? = l[i]?
 | [], l, o, i, h => rfl
 | v :: vs, l, o, i, h => by
  simp at h
  show (putL (l.set o v) (o + 1) vs)[i]? = _
  rw [putL_get vs _ (o + 1) i (by omega), List.getElem?_set_ne (by omega)]
theorem RefI.other {w w' : World} {lim mb b : Nat} {o : Value} {L : List (CallR × CallV)} {s : St} (h : RefI w lim mb o L s) (hk : Kept [b] w w') (ho : o.ownBlock ≠ some b) (hm : b ≠ mb) (hb : lim <= b) : RefI w' lim mb o L s := by
 obtain ⟨g, h1, h2⟩ := h.map
 have hB : Below lim w w' := hk.below h.hlim (fun k hk => by simp at hk; subst hk; exact hb)
 exact ⟨Nat.le_trans h.hlim hk.size, ⟨g, h1.kept hk (by simp; exact fun e => hm e.symm), h2⟩, hk.own2 h.own (fun k hk => by simp at hk; subst hk; exact ho), h.calls, fun x hx => (h.ok x hx).below hB (Nat.le_refl _), h.lmb⟩
theorem conn_field (W : World) (t : Bool) (a b c : Int) : (Instr.field 117 (.agg #[.bool t, .int .i64 a, .int .i64 b, .int .i64 c]) 0).run Tryz.prog W = .ok (.bool t) W := by kernel_rfl
set_option maxRecDepth 100000
set_option maxHeartbeats 16000000
/-- a micro step as given makes it -/
def microD (conn m : Int) (c : CmdR) (r : RespR) : DidR := ⟨⟨3, conn, 0, []⟩, 0, 0, [], m, c, r, 0⟩
def microV (vk vv vt vi vn : Value) : DidV := ⟨.slice none 0 0, .slice none 0 0, vk, vv, vt, vi, vn⟩

theorem micro103 (conn m : Int) (c : CmdR) (r : RespR) (vk vv vt vi vn : Value) (w : World) (hc : CmdOk w w.heap.size c vk vv vt) (hr : RespOk w w.heap.size r vi vn) :
  Calls Tryz.prog 103 #[.int .i64 conn, .int .i64 m, .agg (cmdC c vk vv vt).toArray, .agg (respC r vi vn).toArray] w fun e w' => e = .returned (.agg (didC (microD conn m c r) (microV vk vv vt vi vn)).toArray) /\ Below w.heap.size w w' := by
 obtain ⟨h1, h2, h3, h4⟩ := two_boxes w (cmdC c vk vv vt) (respC r vi vn) 36 40
 obtain ⟨op, key, keys, val, tags, life, ver, tag, pre, chi⟩ := c
 obtain ⟨rop, rerr, items, rver, rcount, nums⟩ := r
 obtain ⟨⟨a1, Ak, ck, rfl, a2⟩, ⟨a3, a4, Av, cv, rfl, a5⟩, ⟨a6, At, ct, rfl, a7⟩⟩ := hc
 obtain ⟨⟨b1, Ai, ci, rfl, b2⟩, b3, An, cn, rfl, b4⟩ := hr
 simp only [cmdC, respC] at *
 clear a1 a2 a3 a4 a5 a6 a7 b1 b2 b3 b4
 obtain ⟨W0, hW0⟩ : ∃ W0, (w.alloc (.cells #[.int .i64 op, .string key, .slice Ak keys.length ck, .slice Av val.length cv, .slice At tags.length ct, .int .u64 life, .int .u64 ver, .string tag, .string pre, .string chi] 36)).alloc (.cells #[.int .i64 rop, .int .i64 rerr, .slice Ai items.length ci, .int .u64 rver, .int .i64 rcount, .slice An nums.length cn] 40) = W0 := ⟨_, rfl⟩
 rw [hW0] at h1 h2 h3 h4
 have H1 := kp h1
 have H2 := kp h2
 have H3 := kp h3
 have H4 := kp h4
 have HW := kp hW0
 clear h1 h2 h3 h4 hW0
 go_enter Tryz.func103, Tryz.ntmps103
 go_upto_region 1 with (fail)
 rw [HW.out]
 have hsz := H3.out
 rw [show w.heap.size + 1 + 1 = W0.heap.size by omega]
 obtain ⟨ld, hld⟩ : ∃ ld, didC (microD conn m ⟨op, key, keys, val, tags, life, ver, tag, pre, chi⟩ ⟨rop, rerr, items, rver, rcount, nums⟩) (microV (.slice Ak keys.length ck) (.slice Av val.length cv) (.slice At tags.length ct) (.slice Ai items.length ci) (.slice An nums.length cn)) = ld := ⟨_, rfl⟩
 have HLD := kp hld
 have hlen : ld.length = 25 := by rw [<- hld]; rfl
 have hone : ld.toArray.all (·.oneCell') = true := by
  rw [<- hld]
  refine all_oneCell_toArray fun v hv => ?_
  simp only [didC, didL, microD, microV, List.mem_cons, List.not_mem_nil, or_false] at hv
  rcases hv with rfl | rfl | rfl | rfl | rfl | rfl | rfl | rfl | rfl | rfl | rfl | rfl | rfl | rfl | rfl | rfl | rfl | rfl | rfl | rfl | rfl | rfl | rfl | rfl | rfl <;> rfl
 have hsA : (Tryz.prog.info? 42).map (·.size) = some ld.toArray.size := by rw [<- hld]; exact did_sizeA _ _
 have hsL : (Tryz.prog.info? 42).map (·.size) = some ld.length := by rw [<- hld]; exact did_sizeL _ _
 have HLEN := kp hlen
 have HONE := kp hone
 have HSA := kp hsA
 have HSL := kp hsL
 clear hld hlen hone hsA hsL hsz
 go_wp2_with (first
  | ((with_reducible refine wpList_load_agg (o := ⟨some 12, _, _, _, _, _⟩) rfl 36 _ rfl ⟨w.heap.size, 0, none⟩ ?_ [.int .i64 op, .string key, .slice Ak keys.length ck, .slice Av val.length cv, .slice At tags.length ct, .int .u64 life, .int .u64 ver, .string tag, .string pre, .string chi] _ (H1.out.below (below1 W0 _) (by show w.heap.size < _; have := H3.out; omega)) Tryz.underlying36 rfl (cmd_sizeL _ _ _ _ _ _ _ _ _ _) ?_); (· rfl))
  | ((with_reducible refine wpList_load_agg (o := ⟨some 13, _, _, _, _, _⟩) rfl 40 _ rfl ⟨w.heap.size + 1, 0, none⟩ ?_ [.int .i64 rop, .int .i64 rerr, .slice Ai items.length ci, .int .u64 rver, .int .i64 rcount, .slice An nums.length cn] _ (H2.out.below (below1 W0 _) (by show w.heap.size + 1 < _; have := H3.out; omega)) Tryz.underlying40 rfl (resp_sizeL _ _ _ _ _ _) ?_); (· rfl))
  | ((with_reducible refine wpList_store_at2 (op := ⟨none, _, _, _, _, _⟩) rfl 42 _ _ rfl W0.heap.size 0 ld.toArray ?_ ?_ ?_ HSA.out HONE.out ?_); (· rfl); (· rw [<- HLD.out]; rfl); (· exact there_zero _ _ _ _ HLEN.out); intro w7 hw7; have hx7 : RowL w7 W0.heap.size 42 ld /\ Below W0.heap.size W0 w7 := (by rw [hw7]; exact stored_zero W0 42 ld _ HLEN.out); clear hw7; have HX7 := kp hx7.1; have HB7 := kp hx7.2; clear hx7))
 refine bodyPost_ret (results_cell1 (p := 8) (ty := 42) rfl _ _ ⟨W0.heap.size, 0, none⟩ _ rfl (run_loadVar_at _ _ _ _ _ HX7.out.cells Tryz.underlying42 rfl HSL.out)) rfl ⟨by rw [HLD.out], H4.out.trans (HB7.out.mono (by have := H3.out; omega))⟩
end Go.Proofs.YtnjhpgmbfblgaaaGreat.Ord
