/- Walk of the reference's Write of a request. -/
import Derived.Test.YtnmhmabifeapkaaG9
import Derived.Test.YtnmhmabifeapkaaD9
namespace Go.Proofs.Ytnmhmabifeapkaa.Ord
open Go.RowKit
set_option linter.unusedVariables false

/-- a part as bytes -/
def partB (c : CmdR) (p : UInt8) : List Int :=
  if p = 107 then putS c.key else if p = 118 then putV c.val.length ++ c.val else if p = 116 then putLs c.tags else if p = 108 then putV c.life.toNat else if p = 110 then putV c.ver.toNat
  else if p = 109 then putLs c.keys else if p = 103 then putS c.tag else if p = 112 then putS c.pre else putS c.chi
theorem pay_parts {c : CmdR} (h : CmdV c) : (needsB c.op).flatMap (partB c) = pay c := by
  cases h with
  | set op k val tags life ho hk hv hl ht hn h0 h1 =>
    rw [pay_set ho]
    simp only
    rw [show needsB op = [107, 118, 116, 108] by unfold needsB; rw [if_pos ho]]
    simp [partB, List.append_assoc]
  | cas k val tags life ver hk hv hl ht hn h0 h1 h2 =>
    rw [pay_cas rfl]
    simp [needsB, partB, List.append_assoc]
  | key op k ho hk =>
    rw [pay_key ho]
    simp only
    rw [show needsB op = [107] by unfold needsB; rw [if_neg (by omega), if_neg (by omega), if_pos ho]]
    simp [partB]
  | mget keys hk h1 hn =>
    rw [pay_mget rfl]
    simp [needsB, partB]
  | touch k life hk h0 h1 =>
    rw [pay_touch rfl]
    simp [needsB, partB]
  | tag op t ho ht =>
    rw [pay_tag ho]
    simp only
    rw [show needsB op = [103] by unfold needsB; rw [if_neg (by omega), if_neg (by omega), if_neg (by omega), if_neg (by omega), if_neg (by omega), if_pos ho]]
    simp [partB]
  | pre p hp =>
    rw [pay_pre rfl]
    simp [needsB, partB]
  | dep op k ch ho hk hc =>
    rw [pay_dep ho]
    simp only
    rw [show needsB op = [107, 99] by unfold needsB; rw [if_neg (by omega), if_neg (by omega), if_neg (by omega), if_neg (by omega), if_neg (by omega), if_neg (by omega), if_neg (by omega), if_pos ho]]
    simp [partB]
  | none op ho =>
    rw [pay_none ho]
    simp only
    rw [show needsB op = [] by unfold needsB; rw [if_neg (by omega), if_neg (by omega), if_neg (by omega), if_neg (by omega), if_neg (by omega), if_neg (by omega), if_neg (by omega), if_neg (by omega)]]
    rfl
/-- the parts' sizes -/
structure Sized (c : CmdR) : Prop where
  key : c.key.size ≤ 1000
  tag : c.tag.size ≤ 1000
  pre : c.pre.size ≤ 1000
  chi : c.chi.size ≤ 1000
  keys : c.keys.length ≤ 100 ∧ ∀ s ∈ c.keys, s.size ≤ 1000
  tags : c.tags.length ≤ 100 ∧ ∀ s ∈ c.tags, s.size ≤ 1000
  val : c.val.length ≤ 100000
  life : ∃ n : Nat, c.life = n ∧ n < 18446744073709551616
  ver : ∃ n : Nat, c.ver = n ∧ n < 18446744073709551616
theorem CmdV.sized {c : CmdR} (h : CmdV c) : Sized c := by
  have kk : ∀ s, keyOk s = true → s.size ≤ 1000 := fun s h => by have := keyOk_size h; omega
  have tt : ∀ s, tagOk s = true → s.size ≤ 1000 := fun s h => by have := tagOk_size h; omega
  have e0 : eB.size ≤ 1000 := by decide
  have z0 : ∃ n : Nat, (0 : Int) = n ∧ n < 18446744073709551616 := ⟨0, rfl, by decide⟩
  cases h with
  | set op k val tags life ho hk hv hl ht hn h0 h1 => exact ⟨kk _ hk, e0, e0, e0, ⟨by simp, by simp⟩, ⟨by simp only; omega, fun s hs => tt s (ht s hs)⟩, by simp only; omega, ⟨life, rfl, h1⟩, z0⟩
  | cas k val tags life ver hk hv hl ht hn h0 h1 h2 => exact ⟨kk _ hk, e0, e0, e0, ⟨by simp, by simp⟩, ⟨by simp only; omega, fun s hs => tt s (ht s hs)⟩, by simp only; omega, ⟨life, rfl, h1⟩, ⟨ver, rfl, h2⟩⟩
  | key op k ho hk => exact ⟨kk _ hk, e0, e0, e0, ⟨by simp, by simp⟩, ⟨by simp, by simp⟩, by simp, z0, z0⟩
  | mget keys hk h1 hn => exact ⟨e0, e0, e0, e0, ⟨by simp only; omega, fun s hs => kk s (hk s hs)⟩, ⟨by simp, by simp⟩, by simp, z0, z0⟩
  | touch k life hk h0 h1 => exact ⟨kk _ hk, e0, e0, e0, ⟨by simp, by simp⟩, ⟨by simp, by simp⟩, by simp, ⟨life, rfl, h1⟩, z0⟩
  | tag op t ho ht => exact ⟨e0, tt _ ht, e0, e0, ⟨by simp, by simp⟩, ⟨by simp, by simp⟩, by simp, z0, z0⟩
  | pre p hp => exact ⟨e0, e0, by simp [preOk] at hp; simp only; omega, e0, ⟨by simp, by simp⟩, ⟨by simp, by simp⟩, by simp, z0, z0⟩
  | dep op k ch ho hk hc => exact ⟨kk _ hk, e0, e0, kk _ hc, ⟨by simp, by simp⟩, ⟨by simp, by simp⟩, by simp, z0, z0⟩
  | none op ho => exact ⟨e0, e0, e0, e0, ⟨by simp, by simp⟩, ⟨by simp, by simp⟩, by simp, z0, z0⟩
theorem needsB_mem {op : Int} {p : UInt8} (h : p ∈ needsB op) : p = 107 ∨ p = 118 ∨ p = 116 ∨ p = 108 ∨ p = 110 ∨ p = 109 ∨ p = 103 ∨ p = 112 ∨ p = 99 := by
  unfold needsB at h
  repeat' split at h
  all_goals simp at h
  all_goals first
    | (subst h; simp)
    | (rcases h with rfl | rfl <;> simp)
    | (rcases h with rfl | rfl | rfl | rfl <;> simp)
    | (rcases h with rfl | rfl | rfl | rfl | rfl <;> simp)
theorem bytes81_any (c : CmdR) (vk vv vt : Value) (w : World) (hs : Sized c) (hok : CmdOk w w.heap.size c vk vv vt) (p : UInt8) (hp : p ∈ needsB c.op) :
    Calls Try.prog 81 #[.agg (cmdC c vk vv vt).toArray, .int .u8 (p.toNat : Int)] w fun e w' => ∃ v, e = .returned v ∧ Own8 w' w.heap.size v (partB c p) ∧ Below w.heap.size w w' := by
  obtain ⟨ln, hl1, hl2⟩ := hs.life
  obtain ⟨vn, hv1, hv2⟩ := hs.ver
  rcases needsB_mem hp with rfl | rfl | rfl | rfl | rfl | rfl | rfl | rfl | rfl
  · exact bytes81_k c vk vv vt w hs.key
  · exact bytes81_v c vk vv vt w hs.val hok.2.1
  · exact bytes81_t c vk vv vt w hs.tags.1 hs.tags.2 hok.2.2
  · have := bytes81_l c vk vv vt w ln hl1 hl2
    rw [show partB c 108 = putV ln by simp [partB, hl1]]
    exact this
  · have := bytes81_n c vk vv vt w vn hv1 hv2
    rw [show partB c 110 = putV vn by simp [partB, hv1]]
    exact this
  · exact bytes81_m c vk vv vt w hs.keys.1 hs.keys.2 hok.1
  · exact bytes81_g c vk vv vt w hs.tag
  · exact bytes81_p c vk vv vt w hs.pre
  · exact bytes81_c c vk vv vt w hs.chi

/-- the loop over a command's parts -/
def PartSt (w : World) (c : CmdR) (vk vv vt : Value) (out : List Int) (v : Value) (W : World) : Prop :=
  W.rowIs w.heap.size 45 10 (listF (cmdC c vk vv vt)) ∧ W.rowIs (w.heap.size + 1) 111 2 (listF [.int .u8 0, .slice none 0 0]) ∧ W.rowIs (w.heap.size + 1 + 1) 111 2 (listF [.int .u8 c.op, v]) ∧ Own8 W (w.heap.size + 3) v out ∧ Below w.heap.size w W ∧ w.heap.size + 3 ≤ W.heap.size
theorem part_start (w : World) (c : CmdR) (vk vv vt : Value) : PartSt w c vk vv vt [] (.slice none 0 0) (((w.alloc (.cells (cmdC c vk vv vt).toArray 45)).alloc (.cells #[.int .u8 0, .slice none 0 0] 111)).alloc (.cells #[.int .u8 c.op, .slice none 0 0] 111)) := by
  refine ⟨World.rowIs.alloc (World.rowIs.alloc (row_list w (cmdC c vk vv vt) 45) _) _, ?_, ?_, Own8.nil _ _, below3 w _ _ _, by simp⟩
  · have := row_list (w.alloc (.cells (cmdC c vk vv vt).toArray 45)) [.int .u8 0, .slice none 0 0] 111
    exact World.rowIs.alloc (by simpa using this) _
  · have := row_list ((w.alloc (.cells (cmdC c vk vv vt).toArray 45)).alloc (.cells #[.int .u8 0, .slice none 0 0] 111)) [.int .u8 c.op, .slice none 0 0] 111
    simpa using this

theorem needsB_len (op : Int) : (needsB op).length ≤ 5 := by
  unfold needsB
  repeat' split
  all_goals simp
theorem needs_idx {op : Int} {nd : ByteArray} {i : Nat} {p : UInt8} (hnd : nd = ⟨(needsB op).toArray⟩) (hp : (needsB op)[i]? = some p) (W : World) : (Instr.index 9 (.string nd) (.int .i64 i)).run Try.prog W = .ok (.int .u8 (p.toNat : Int)) W := by
  subst hnd
  have hlt : i < (needsB op).length := (List.getElem?_eq_some_iff.1 hp).1
  have hs : ByteArray.size ⟨(needsB op).toArray⟩ = (needsB op).length := rfl
  rw [run_index_string W 9 _ _ _ Try.underlying9, dif_pos ⟨by omega, by rw [hs]; omega⟩]
  have h2 := (List.getElem?_eq_some_iff.1 hp).2
  congr 3
  rw [← h2]
  rfl
theorem take_flat {α β : Type} (f : α → List β) (l : List α) (k : Nat) : ((l.take k).flatMap f).length ≤ (l.flatMap f).length := by
  have := congrArg (fun l => (List.flatMap f l).length) (List.take_append_drop k l)
  simp only [List.flatMap_append, List.length_append] at this
  omega
theorem PartSt.next {w W w6 : World} {c : CmdR} {vk vv vt v : Value} {out : List Int} (h : PartSt w c vk vv vt out v W) (hb : Below W.drew.heap.size W.drew w6) : PartSt w c vk vv vt out v w6 := by
  obtain ⟨h1, h2, h3, h4, h5, h6⟩ := h
  have hb' : Below W.heap.size W w6 := ⟨hb.os, hb.tape, hb.output, hb.size, hb.block⟩
  exact ⟨World.rowIs.of_block h1 (hb'.block _ (World.rowIs.lt h1)), World.rowIs.of_block h2 (hb'.block _ (World.rowIs.lt h2)), World.rowIs.of_block h3 (hb'.block _ (World.rowIs.lt h3)), (Kept.of_below (L := []) hb').own2 h4.raw (by simp), h5.trans (hb'.mono h5.size), Nat.le_trans h6 hb'.size⟩
theorem PartSt.store {w W w7 : World} {c : CmdR} {vk vv vt v v7 : Value} {out xs : List Int} {L M : Nat} (h : PartSt w c vk vv vt out v W) (hL : out.length = L) (hM : xs.length = M) (hown : w7.ownsRow (w.heap.size + 3) 5 1 v7 (L + M) (out.map (Value.int .u8) ++ xs.map (Value.int .u8))) (hb : Below (w.heap.size + 3) W w7) :
    w7.cell? ⟨w.heap.size + 1 + 1, 1, none⟩ = some v ∧ w7.frozen? ⟨w.heap.size + 1 + 1, 1, none⟩ = false ∧ PartSt w c vk vv vt (out ++ xs) v7 (w7.setCell ⟨w.heap.size + 1 + 1, 1, none⟩ v7) := by
  obtain ⟨h1, h2, h3, h4, h5, h6⟩ := h
  have h7 := World.rowIs.of_block h3 (hb.block _ (by omega))
  have hk : Kept [w.heap.size + 1 + 1] w7 (w7.setCell ⟨w.heap.size + 1 + 1, 1, none⟩ v7) := kept1 _ _ _ _
  have h8 := World.rowIs.of_block h1 (hb.block _ (by omega))
  have h9 := World.rowIs.of_block h2 (hb.block _ (by omega))
  have hbw : Below w.heap.size w w7 := h5.trans (hb.mono (by omega))
  refine ⟨World.rowIs.cell h7 (i := 1) (by decide), World.rowIs.frozen h7 1, hk.row (by simp; omega) h8, hk.row (by simp) h9, World.rowIs.congr (World.rowIs.set h7 1 v7) fun j hj => ?_, hk.own ?_ (by omega), hbw.trans (hk.below hbw.size (by simp; omega)), Nat.le_trans h6 (Nat.le_trans hb.size hk.size)⟩
  · match j, hj with
    | 0, _ => rfl
    | 1, _ => rfl
  · subst hL
    have := Own8.app hM.symm hown
    exact this.raw
theorem f81_name : (Try.f81.name == "runtime.NumGoroutine") = false := by kernel_rfl
theorem f81_body : Try.f81.body.isSome = true := by kernel_rfl
theorem below_drew2 {B : Nat} {a b : World} (h : Below B a b) : Below B a b.drew := ⟨h.os, h.tape, h.output, h.size, h.block⟩

set_option maxRecDepth 100000 in
set_option maxHeartbeats 2000000 in
theorem write62 (c : CmdR) (op : Int) (hop : c.op = op) (vk vv vt : Value) (w : World) (hc : CmdV c) (hok : CmdOk w w.heap.size c vk vv vt) :
    Calls Try.prog 62 #[.agg (cmdC c vk vv vt).toArray] w fun e w' => ∃ A k cap, e = .returned (.agg #[.int .u8 op, .slice A k cap]) ∧ (pay c).length = k ∧ Byt w' w'.heap.size A cap (pay c) ∧ Below w.heap.size w w' := by
  have hr := hc.op_range
  rw [hop] at hr
  have hr1 := hr.1
  have hr2 := hr.2
  have hw8 : op % 256 = op := by omega
  have HST := Lib.hid (part_start w c vk vv vt)
  obtain ⟨W3, hW3⟩ : ∃ W3, ((w.alloc (.cells (cmdC c vk vv vt).toArray 45)).alloc (.cells #[.int .u8 0, .slice none 0 0] 111)).alloc (.cells #[.int .u8 c.op, .slice none 0 0] 111) = W3 := ⟨_, rfl⟩
  rw [hW3] at HST
  have HOP := Lib.hid hop
  simp only [cmdC, hop] at hW3 ⊢
  have HW3 := Lib.hid hW3
  clear hop hW3
  obtain ⟨nd, hnd⟩ : ∃ nd : ByteArray, ⟨(needsB op).toArray⟩ = nd := ⟨_, rfl⟩
  have HN := Lib.hid (fun w => needs80 op hr1 hr2 w)
  rw [hnd] at HN
  have hns : nd.size = (needsB op).length := by rw [← hnd]; rfl
  go_enter Try.func62, Try.ntmps62
  go_wp2_with fail
  rw [HW3.out]
  refine (HN.out _).mono ?_
  rintro e w1 ⟨rfl, rfl⟩
  clear HW3
  go_wp2_with fail
  go_loopw [5] (fun j wr => ∃ (i : Nat) (v : Value), i ≤ nd.size ∧ j = .int .i64 i ∧ PartSt w c vk vv vt (((needsB op).take i).flatMap (partB c)) v wr) (fun j _ => nd.size - (intOf j).toNat)
  case atStart => exact ⟨0, _, Nat.zero_le _, rfl, HST.out⟩
  case round =>
    obtain ⟨i, v, hi, rfl, hP⟩ := hrel
    have hnl : nd.size ≤ 5 := by rw [hns]; exact needsB_len op
    have hf1 : wr.cell? ⟨w.heap.size + 1 + 1, 1, none⟩ = some v := World.rowIs.cell hP.2.2.1 (i := 1) (by decide)
    have hf0 : wr.cell? ⟨w.heap.size + 1 + 1, 0, none⟩ = some (.int .u8 op) := by rw [← HOP.out]; exact World.rowIs.cell hP.2.2.1 (i := 0) (by decide)
    by_cases hlt : i < nd.size
    · have hg : decide ((i : Int) < (nd.size : Int)) = true := by simp; omega
      obtain ⟨p, hp⟩ : ∃ p, (needsB op)[i]? = some p := ⟨(needsB op)[i]'(by omega), List.getElem?_eq_getElem _⟩
      have hidx : ∀ W, (Instr.index 9 (.string nd) (.int .i64 i)).run Try.prog W = .ok (.int .u8 (p.toNat : Int)) W := fun W => needs_idx hnd.symm hp W
      have hmem : p ∈ needsB op := List.mem_iff_getElem?.2 ⟨i, hp⟩
      have hC := hP.1
      have hb0 : wr.cell? ⟨w.heap.size, 0, none⟩ = some (.int .i64 op) := by rw [← HOP.out]; exact World.rowIs.cell hC (i := 0) (by decide)
      have hb1 : wr.cell? ⟨w.heap.size, 1, none⟩ = some (.string c.key) := World.rowIs.cell hC (i := 1) (by decide)
      have hb2 : wr.cell? ⟨w.heap.size, 2, none⟩ = some vk := World.rowIs.cell hC (i := 2) (by decide)
      have hb3 : wr.cell? ⟨w.heap.size, 3, none⟩ = some vv := World.rowIs.cell hC (i := 3) (by decide)
      have hb4 : wr.cell? ⟨w.heap.size, 4, none⟩ = some vt := World.rowIs.cell hC (i := 4) (by decide)
      have hb5 : wr.cell? ⟨w.heap.size, 5, none⟩ = some (.int .u64 c.life) := World.rowIs.cell hC (i := 5) (by decide)
      have hb6 : wr.cell? ⟨w.heap.size, 6, none⟩ = some (.int .u64 c.ver) := World.rowIs.cell hC (i := 6) (by decide)
      have hb7 : wr.cell? ⟨w.heap.size, 7, none⟩ = some (.string c.tag) := World.rowIs.cell hC (i := 7) (by decide)
      have hb8 : wr.cell? ⟨w.heap.size, 8, none⟩ = some (.string c.pre) := World.rowIs.cell hC (i := 8) (by decide)
      have hb9 : wr.cell? ⟨w.heap.size, 9, none⟩ = some (.string c.chi) := World.rowIs.cell hC (i := 9) (by decide)
      obtain ⟨M, hM⟩ : ∃ M, (partB c p).length = M := ⟨_, rfl⟩
      obtain ⟨L, hL⟩ : ∃ L, (((needsB op).take i).flatMap (partB c)).length = L := ⟨_, rfl⟩
      have HTK := Lib.hid (show ((needsB op).take (i + 1)).flatMap (partB c) = ((needsB op).take i).flatMap (partB c) ++ partB c p by rw [List.take_add_one, hp]; simp)
      have hLM : L + M ≤ 100000 := by
        have h1 := take_flat (partB c) (needsB op) (i + 1)
        rw [HTK.out, List.length_append, hL, hM, ← HOP.out, pay_parts hc] at h1
        have := pay_len hc
        omega
      have HM := Lib.hid hM
      have HLL := Lib.hid hL
      clear hM hL
      have HP := Lib.hid hP
      have HB := Lib.hid (bytes81_any c vk vv vt wr.drew hc.sized (show CmdOk wr.drew wr.heap.size c vk vv vt from (hok.below (below_drew2 hP.2.2.2.2.1) (Nat.le_refl _)).mono hP.2.2.2.2.1.size) p (by rw [HOP.out]; exact hmem))
      simp only [cmdC, HOP.out] at HB
      clear hP hC
      go_wp2_with fail
      go_region_law (first
        | ((with_reducible refine step_call_any (o := ⟨some 25, _, _, _, _, _⟩) rfl 81 _ _ rfl #[.agg #[.int .i64 op, .string c.key, vk, vv, vt, .int .u64 c.life, .int .u64 c.ver, .string c.tag, .string c.pre, .string c.chi], .int .u8 (p.toNat : Int)] ?_ Try.f81 Try.func81 f81_name f81_body (fun u w6 => Own8 w6 wr.drew.heap.size u (partB c p) ∧ Below wr.drew.heap.size wr.drew w6) ?_ ?_); (· simp only [List.map_toArray, List.map_cons, List.map_nil]; rfl); (· exact HB.out.mono fun e w' ⟨v, h1, h2, h3⟩ => ⟨v, h1, h2, h3⟩); rintro u6 w6 ⟨hown6, hb6⟩; obtain ⟨A6, c6, rfl, hby6⟩ := hown6.val; rw [HM.out]; have HP6 := Lib.hid (HP.out.next hb6); have h61 : w6.cell? ⟨w.heap.size + 1 + 1, 1, none⟩ = some v := World.rowIs.cell HP6.out.2.2.1 (i := 1) (by decide); have HS6 := Lib.hid hby6.src; rw [HM.out] at HS6; have HO6 := Lib.hid HP6.out.2.2.2.1.raw; rw [HLL.out] at HO6; clear hown6 hb6 hby6)
        | ((with_reducible refine step_append_src (o := ⟨some 26, _, _, _, _, _⟩) rfl _ _ 22 rfl (w.heap.size + 3) 5 (.int .u8 0) 1 1 Try.underlying22 Try.info5 ?_ ?_ v L _ ?_ HO6.out A6 M c6 ((partB c p).map (Value.int .u8)) ?_ ?_ HS6.out (bytes_one _) ?_ ?_ ?_ ?_); (· rfl); (· decide); (· rfl); (· rfl); (· simp [HM.out]); (· unfold maxLen; omega); (· omega); (· exact HP6.out.2.2.2.2.2); intro v7 w7 hown7 hb7; obtain ⟨A7, c7, rfl⟩ := owns_len hown7; have HP7 := Lib.hid (HP6.out.store HLL.out HM.out hown7 hb7); have h71 : w7.cell? ⟨w.heap.size + 1 + 1, 1, none⟩ = some v := HP7.out.1; have h72 : w7.frozen? ⟨w.heap.size + 1 + 1, 1, none⟩ = false := HP7.out.2.1; clear hown7 hb7))
      all_goals
        go_wp2_with fail
        go_roundw
        case rel => exact ⟨i + 1, _, by omega, by go_num, by rw [HTK.out]; exact HP7.out.2.2⟩
        case measure => simp [intOf]; omega
    · obtain rfl : i = nd.size := by omega
      have hg : decide ((nd.size : Int) < (nd.size : Int)) = false := by simp
      have hall : ((needsB op).take nd.size).flatMap (partB c) = pay c := by
        rw [List.take_of_length_le (by omega), ← HOP.out, pay_parts hc]
      rw [hall] at hP
      obtain ⟨A, cap, rfl, hby⟩ := hP.2.2.2.1.val
      obtain ⟨k, hk⟩ : ∃ k, (pay c).length = k := ⟨_, rfl⟩
      rw [hk] at hf1
      have HT := Lib.hid (row_there hP.2.1)
      have HR := Lib.hid hP.2.1
      have HBY := Lib.hid hby
      have HBW := Lib.hid hP.2.2.2.2
      have hlo : ∀ b off, A = some ⟨b, off, none⟩ → w.heap.size + 3 ≤ b := fun b off hA => by
        obtain ⟨A', c', e, _, h⟩ := SlB.of_own hP.2.2.2.1
        cases e
        exact h b off hA
      have HLO := Lib.hid hlo
      clear hP hby hlo hall
      go_wp2_with ((with_reducible refine wpList_store_at2 (op := ⟨none, _, _, _, _, _⟩) rfl 111 _ _ rfl (w.heap.size + 1) 0 #[.int .u8 op, .slice A k cap] ?_ ?_ ?_ ?_ ?_ ?_); (· rfl); (· rfl); (· exact HT.out); (· rfl); (· simp [Value.oneCell']); intro w7 hw7)
      have hD7 := store_all HR.out [.int .u8 op, .slice A k cap] rfl
      have hc7 := row_cells hD7 [.int .u8 op, .slice A k cap] rfl fun i hi => rfl
      have hk7 : Kept [w.heap.size + 1] wr (wr.setCells (w.heap.size + 1) 0 [.int .u8 op, .slice A k cap]) := kept_setCells (by simp) _ _ _ (Kept.refl _ _)
      refine bodyPost_ret (results_cell1 rfl _ _ ⟨w.heap.size + 1, 0, none⟩ (.agg #[.int .u8 op, .slice A k cap]) rfl (run_loadVar_at _ _ _ _ _ hc7 Try.underlying111 rfl (by kernel_rfl))) rfl ⟨A, k, cap, rfl, ?_, hk7.byt HBY.out (fun b off hA hm => ?_), HBW.out.1.trans (hk7.below HBW.out.1.size (by simp))⟩
      · first | exact hk | rfl
      · have := HLO.out b off hA
        simp at hm
        omega
end Go.Proofs.Ytnmhmabifeapkaa.Ord
