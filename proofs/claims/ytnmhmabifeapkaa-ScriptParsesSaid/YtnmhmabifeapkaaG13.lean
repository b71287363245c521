/- Walks of the reference's Short: commands that write. (Printed by wip/tools/genG13.py.) -/
import Derived.Test.YtnmhmabifeapkaaG12
import Derived.Test.YtnmhmabifeapkaaG11
namespace Go.Proofs.Ytnmhmabifeapkaa.Ord
open Go.RowKit
set_option linter.unusedVariables false

/-- bytes are appended to a cell of a command -/
def BytSt (Wb : World) (C : Nat) (F : Value → Nat → Value) (l : List Int) (w : World) (v : Value) : Prop :=
  w.rowIs C 45 10 (F v) ∧ w.ownsRow Wb.heap.size 5 1 v l.length (l.map (Value.int .u8)) ∧ Kept [C] Wb w
theorem BytSt.append {Wb w w3 : World} {C k n : Nat} {F : Value → Nat → Value} {l : List Int} {x : Int} {vt v3 : Value} (hC : C < Wb.heap.size) (h : BytSt Wb C F l w vt) (hk : k < 10) (hn : l.length = n) (hF : F vt k = vt) (hset : ∀ v v' j, j < 10 → (if j = k then v' else F v j) = F v' j)
    (hown : w3.ownsRow Wb.heap.size 5 1 v3 (n + 1) (l.map (Value.int .u8) ++ [.int .u8 x])) (hb : Below Wb.heap.size w w3) : w3.cell? ⟨C, k, none⟩ = some vt ∧ w3.frozen? ⟨C, k, none⟩ = false ∧ BytSt Wb C F (l ++ [x]) (w3.setCell ⟨C, k, none⟩ v3) v3 := by
  have hr3 : w3.rowIs C 45 10 (F vt) := World.rowIs.of_block h.1 (hb.block C hC)
  have hk1 := kept1 w3 C k v3
  refine ⟨by rw [World.rowIs.cell hr3 hk, hF], World.rowIs.frozen hr3 k, World.rowIs.congr (World.rowIs.set hr3 k v3) fun j hj => hset vt v3 j hj, ?_, (h.2.2.then_below hb).trans hk1⟩
  have := hk1.own hown hC
  subst hn
  simpa using this
def valF (op : Int) (s : ByteArray) (life : Int) (v : Value) : Nat → Value := listF (cmdX op s nilV v nilV life 0 ⟨#[]⟩ ⟨#[]⟩ ⟨#[]⟩)
theorem valF_set (op : Int) (s : ByteArray) (life : Int) (v v' : Value) (j : Nat) (hj : j < 10) : (if j = 3 then v' else valF op s life v j) = valF op s life v' j := by
  match j, hj with | 0, _ | 1, _ | 2, _ | 3, _ | 4, _ | 5, _ | 6, _ | 7, _ | 8, _ | 9, _ => rfl

/-- the tags, in slices of their own -/
def chain63 (w : World) : World := (((w.alloc (.cells #[.string ⟨#[116]⟩] 9)).alloc (.cells #[.string ⟨#[117]⟩] 9)).alloc (.cells #[.string ⟨#[116]⟩, .string ⟨#[117]⟩] 9)).alloc (.cells #[.slice none 0 0, .slice (some ⟨w.heap.size, 0, none⟩) 1 1, .slice (some ⟨w.heap.size + 1, 0, none⟩) 1 1, .slice (some ⟨w.heap.size + 1 + 1, 0, none⟩) 2 2] 41)
theorem chain_rows (w : World) : (chain63 w).rowIs w.heap.size 9 1 (listF [.string ⟨#[116]⟩]) ∧ (chain63 w).rowIs (w.heap.size + 1) 9 1 (listF [.string ⟨#[117]⟩]) ∧ (chain63 w).rowIs (w.heap.size + 1 + 1) 9 2 (listF [.string ⟨#[116]⟩, .string ⟨#[117]⟩]) ∧
    (chain63 w).rowIs (w.heap.size + 1 + 1 + 1) 41 4 (listF [.slice none 0 0, .slice (some ⟨w.heap.size, 0, none⟩) 1 1, .slice (some ⟨w.heap.size + 1, 0, none⟩) 1 1, .slice (some ⟨w.heap.size + 1 + 1, 0, none⟩) 2 2]) ∧ Below w.heap.size w (chain63 w) := by
  refine ⟨World.rowIs.alloc (World.rowIs.alloc (World.rowIs.alloc (row_list w [.string ⟨#[116]⟩] 9) _) _) _, World.rowIs.alloc (World.rowIs.alloc ?_ _) _, World.rowIs.alloc ?_ _, ?_, ?_⟩
  · have := row_list (w.alloc (.cells #[.string ⟨#[116]⟩] 9)) [.string ⟨#[117]⟩] 9
    simpa using this
  · have := row_list ((w.alloc (.cells #[.string ⟨#[116]⟩] 9)).alloc (.cells #[.string ⟨#[117]⟩] 9)) [.string ⟨#[116]⟩, .string ⟨#[117]⟩] 9
    simpa using this
  · have := row_list (((w.alloc (.cells #[.string ⟨#[116]⟩] 9)).alloc (.cells #[.string ⟨#[117]⟩] 9)).alloc (.cells #[.string ⟨#[116]⟩, .string ⟨#[117]⟩] 9)) [.slice none 0 0, .slice (some ⟨w.heap.size, 0, none⟩) 1 1, .slice (some ⟨w.heap.size + 1, 0, none⟩) 1 1, .slice (some ⟨w.heap.size + 1 + 1, 0, none⟩) 2 2] 41
    unfold chain63
    simpa using this
  · have h3 := below3 w (.cells #[.string ⟨#[116]⟩] 9) (.cells #[.string ⟨#[117]⟩] 9) (.cells #[.string ⟨#[116]⟩, .string ⟨#[117]⟩] 9)
    exact h3.alloc h3.size _
theorem rowSl {w : World} {G n : Nat} {l : List ByteArray} {N : List Nat} (hn : l.length = n) (h : w.rowIs G 9 n (listF (l.map Value.string))) (hG : G ∉ N) : SlN w N (.slice (some ⟨G, 0, none⟩) n n) l := by
  subst hn
  refine ⟨_, _, rfl, fun i x hx => ⟨G, 0, rfl, World.rowIs.lt h, ?_⟩, fun b off hb _ => by cases hb; exact hG⟩
  have hi := (List.getElem?_eq_some_iff.1 hx).1
  rw [Nat.zero_add, World.rowIs.cell h hi]
  simp [listF, List.getD, List.getElem?_map, hx]
theorem chain_tags (w : World) (m : Nat) (N : List Nat) (hN : ∀ k ∈ N, k < w.heap.size) : ∃ A c, (chain63 w).cell? ⟨w.heap.size + 1 + 1 + 1, m % 4, none⟩ = some (.slice A (tagsN m).length c) ∧ SlN (chain63 w) N (.slice A (tagsN m).length c) (tagsN m) := by
  obtain ⟨h1, h2, h3, h4, h5⟩ := chain_rows w
  have hm : m % 4 < 4 := by omega
  rw [World.rowIs.cell h4 hm]
  unfold tagsN
  rcases mod4 m with h | h | h | h <;> rw [h]
  · exact ⟨none, 0, rfl, SlN.nil _ _⟩
  · exact ⟨_, 1, rfl, rowSl (l := [⟨#[116]⟩]) rfl h1 (fun hm => by have := hN _ hm; omega)⟩
  · exact ⟨_, 1, rfl, rowSl (l := [⟨#[117]⟩]) rfl h2 (fun hm => by have := hN _ hm; omega)⟩
  · exact ⟨_, 2, rfl, rowSl (l := [⟨#[116]⟩, ⟨#[117]⟩]) rfl h3 (fun hm => by have := hN _ hm; omega)⟩
set_option maxRecDepth 100000 in
set_option maxHeartbeats 2000000 in
theorem s63_1 (y z u : Nat) (hy : y < 256) (hz : z < 256) (hu : u < 256) (cm : CmdR) (hcm : ⟨1, keyN (y / 15), [], List.replicate (z % 4) (97 + (u % 16 : Nat)), tagsN (z / 4), (lifeN (z / 16) : Nat), 0, eB, eB, eB⟩ = cm) (hop : 1 + (y : Int) % 15 = 1) (hc : CmdV cm) (w : World) :
    Calls Try.prog 63 #[.int .i64 y, .int .i64 z, .int .i64 u] w fun e w' => ∃ v, e = .returned v ∧ CmdRes cm w' v ∧ Below w.heap.size w w' := by
  obtain ⟨W1, hW1, hT1, hC1, hb1, hs1⟩ := start63 w 1
  simp only [cmdL] at hW1
  have HW1 := Lib.hid hW1
  have HT1 := Lib.hid hT1
  have HC1 := Lib.hid hC1
  have HB1 := Lib.hid hb1
  obtain ⟨j, hj⟩ : ∃ j, y / 15 % 8 = j := ⟨_, rfl⟩
  have hj8 : j < 8 := by omega
  have hij : (y : Int) / 15 % 8 = (j : Int) := by omega
  have HCM := Lib.hid hcm
  clear hcm
  obtain ⟨n, hn⟩ : ∃ n, z % 4 = n := ⟨_, rfl⟩
  have hn4 : n < 4 := by omega
  have hzn : (z : Int) % 4 = (n : Int) := by omega
  have hb8 : (97 + (u : Int) % 16) % 256 = 97 + (u : Int) % 16 := by omega
  obtain ⟨jm, hjm⟩ : ∃ jm, z / 4 % 4 = jm := ⟨_, rfl⟩
  have hjm4 : jm < 4 := by omega
  have hjmi : (jm : Int) < 4 := by omega
  have hijm : (z : Int) / 4 % 4 = (jm : Int) := by omega
  clear hW1 hT1 hC1 hb1
  go_enter Try.func63, Try.ntmps63
  go_wp2_with fail
  rw [HW1.out.symm]
  refine (keys82 W1).mono ?_
  rintro e w2 ⟨G, rfl, hG, hk2, hb2⟩
  have hA : At63 w 1 y G w2 := ⟨World.rowIs.of_block HT1.out (hb2.block _ (World.rowIs.lt HT1.out)), World.rowIs.of_block HC1.out (hb2.block _ (World.rowIs.lt HC1.out)), hk2, by omega, HB1.out.trans (hb2.mono (by omega)), by have := hb2.size; omega⟩
  have hkey : w2.cell? ⟨G, j, none⟩ = some (.string (keyN (y / 15))) := by
    rw [World.rowIs.cell hk2 hj8, ← hj, keyC_get]
  have HA := Lib.hid hA
  have hc0 : w2.cell? ⟨w.heap.size + 1, 0, none⟩ = some (.int .i64 1) := World.rowIs.cell hA.c (i := 0) (by decide)
  clear hk2 hb2 hA
  go_wp2_with fail
  all_goals
    refine (life83 (z / 16) (by omega) w2).mono ?_
    rintro e w3 ⟨rfl, hb3⟩
    have hC3 := World.rowIs.of_block HA.out.c (hb3.block _ (World.rowIs.lt HA.out.c))
    have hcc1 : w3.cell? ⟨w.heap.size + 1, 1, none⟩ = some (.string ⟨#[]⟩) := World.rowIs.cell hC3 (i := 1) (by decide)
    have hff1 : w3.frozen? ⟨w.heap.size + 1, 1, none⟩ = false := World.rowIs.frozen hC3 1
    have hcc5 : w3.cell? ⟨w.heap.size + 1, 5, none⟩ = some (.int .u64 0) := World.rowIs.cell hC3 (i := 5) (by decide)
    have hff5 : w3.frozen? ⟨w.heap.size + 1, 5, none⟩ = false := World.rowIs.frozen hC3 5
    obtain ⟨w4, hw4⟩ : ∃ w4, (w3.setCell ⟨w.heap.size + 1, 1, none⟩ (.string (keyN (y / 15)))).setCell ⟨w.heap.size + 1, 5, none⟩ (.int .u64 (lifeN (z / 16) : Nat)) = w4 := ⟨_, rfl⟩
    have hr4 := set_life (set_key hC3 (keyN (y / 15))) (lifeN (z / 16) : Nat)
    have hk4 := (Kept.of_below (L := [w.heap.size + 1]) hb3).trans ((kept1 w3 (w.heap.size + 1) 1 (.string (keyN (y / 15)))).trans (kept1 _ (w.heap.size + 1) 5 (.int .u64 (lifeN (z / 16) : Nat))))
    rw [hw4] at hr4 hk4
    have hs4 : w.heap.size + 2 ≤ w4.heap.size := Nat.le_trans HA.out.s hk4.size
    have HST := Lib.hid (show BytSt w4 (w.heap.size + 1) (valF 1 (keyN (y / 15)) (lifeN (z / 16) : Nat)) [] w4 nilV from ⟨hr4, World.ownsRow_nil _ _ _ _, Kept.refl _ _⟩)
    have HK4 := Lib.hid hk4
    clear hC3 hb3 hr4 hk4
    go_wp2_with fail
    clear hw4 hcc1 hff1 hcc5 hff5 hkey hc0
    go_loopw [10] (fun q wr => ∃ (i : Nat) (v : Value), i ≤ n ∧ q = .int .i64 i ∧ BytSt w4 (w.heap.size + 1) (valF 1 (keyN (y / 15)) (lifeN (z / 16) : Nat)) (List.replicate i (97 + (u : Int) % 16)) wr v) (fun q _ => n - (intOf q).toNat)
    case atStart => exact ⟨0, nilV, Nat.zero_le _, rfl, HST.out⟩
    case round =>
      obtain ⟨i, v, hi, rfl, hs⟩ := hrel
      by_cases hlt : i < n
      · have hg : decide ((i : Int) < (n : Int)) = true := by simp; omega
        have hcr : wr.cell? ⟨w.heap.size + 1, 3, none⟩ = some v := World.rowIs.cell hs.1 (i := 3) (by decide)
        have HO := Lib.hid (World.ownsRow.alloc hs.2.1 (.cells #[.int .u8 (97 + (u : Int) % 16)] 5))
        have HSR := Lib.hid (src_byte wr (97 + (u : Int) % 16))
        have hsz := hs.2.2.size
        have HS := Lib.hid hs
        have hll : (List.replicate i (97 + (u : Int) % 16)).length ≤ 4 := by rw [List.length_replicate]; omega
        clear hs
        go_wp2_with ((with_reducible refine wpList_append_src (o := ⟨some 50, _, _, _, _, _⟩) rfl _ _ 22 rfl w4.heap.size 5 (.int .u8 0) 1 1 Try.underlying22 Try.info5 ?_ ?_ v _ _ ?_ HO.out (some ⟨wr.heap.size, 0, none⟩) 1 1 [.int .u8 (97 + (u : Int) % 16)] ?_ ?_ HSR.out (one_byte _) ?_ ?_ ?_ ?_); (· rfl); (· decide); (· rfl); (· rfl); (· rfl); (· unfold maxLen; omega); (· omega); (· simp; omega); intro v3 w5 hown5 hg5 hb5; obtain ⟨A3, cc3, rfl⟩ := owns_len hown5; obtain ⟨hc5, hf5, hs5⟩ := HS.out.append (k := 3) (x := 97 + (u : Int) % 16) (by omega) (by decide) rfl rfl (valF_set _ _ _) hown5 (((Below.refl _ _).alloc hsz _).trans hb5); have HS5 := Lib.hid hs5; clear hown5 hg5 hb5 hs5)
        go_roundw
        case rel =>
          have h5 := HS5.out
          rw [List.length_replicate] at h5
          exact ⟨i + 1, _, by omega, by go_num, by rw [List.replicate_succ']; exact h5⟩
        case measure => simp [intOf]; omega
      · obtain rfl : i = n := by omega
        have hg : decide ((i : Int) < (i : Int)) = false := by simp
        obtain ⟨A3, cc3, rfl⟩ := owns_len hs.2.1
        rw [List.length_replicate] at hs
        have HS := Lib.hid hs
        have hsz := hs.2.2.size
        obtain ⟨At, ct, hct, hst⟩ := chain_tags wr (z / 4) [w.heap.size + 1, w.heap.size] (by simp; omega)
        rw [hjm] at hct
        obtain ⟨h1, h2, h3, h4, hbc⟩ := chain_rows wr
        have hCc := World.rowIs.of_block hs.1 (hbc.block _ (World.rowIs.lt hs.1))
        have hcc4 : (chain63 wr).cell? ⟨w.heap.size + 1, 4, none⟩ = some (.slice none 0 0) := World.rowIs.cell hCc (i := 4) (by decide)
        have hff4 : (chain63 wr).frozen? ⟨w.heap.size + 1, 4, none⟩ = false := World.rowIs.frozen hCc 4
        obtain ⟨nt, hnt⟩ : ∃ nt, (tagsN (z / 4)).length = nt := ⟨_, rfl⟩
        rw [hnt] at hct hst
        have hr5 := set_tags hCc (.slice At nt ct)
        have hk5 := (Kept.of_below (L := [w.heap.size + 1]) hbc).trans (kept1 (chain63 wr) (w.heap.size + 1) 4 (.slice At nt ct))
        have ht5 := hst.kept (kept1 (chain63 wr) (w.heap.size + 1) 4 (.slice At nt ct)) (by simp)
        obtain ⟨w5, hw5⟩ : ∃ w5, (chain63 wr).setCell ⟨w.heap.size + 1, 4, none⟩ (.slice At nt ct) = w5 := ⟨_, rfl⟩
        rw [hw5] at hr5 hk5 ht5
        have hv5 := (SlX.of_slb (N := [w.heap.size + 1, w.heap.size]) (SlB.of_own (show Own8 wr w4.heap.size (.slice A3 i cc3) (List.replicate i (97 + (u : Int) % 16)) from HS.out.2.1)) (by simp; omega)).kept hk5 (by simp)
        have hk25 : Kept [w.heap.size + 1] w2 w5 := (HK4.out.trans HS.out.2.2).trans hk5
        have hc50 : w5.cell? ⟨w.heap.size + 1, 0, none⟩ = some (.int .i64 1) := World.rowIs.cell hr5 (i := 0) (by decide)
        have hval : List.replicate (z % 4) (97 + ((u % 16 : Nat) : Int)) = List.replicate i (97 + (u : Int) % 16) := by rw [hn, show ((u % 16 : Nat) : Int) = (u : Int) % 16 by omega]
        have hw55 := hw5
        unfold chain63 at hct hcc4 hff4 hw5
        clear hs h1 h2 h3 h4 hCc hst hbc hw55
        have hrow : w5.rowIs (w.heap.size + 1) 45 10 (listF (cmdC ⟨1, keyN (y / 15), [], List.replicate (z % 4) (97 + (u % 16 : Nat)), tagsN (z / 4), (lifeN (z / 16) : Nat), 0, eB, eB, eB⟩ nilV (.slice A3 i cc3) (.slice At nt ct))) := hr5
        have hkept : Kept [w.heap.size + 1] w2 w5 := hk25
        have hCC := Lib.hid (row_cells hrow _ rfl fun i hi => rfl)
        have hT4 := hkept.row (by simp) HA.out.t
        have HTT := Lib.hid (row_there hT4)
        have HE := Lib.hid (end63 (cm := ⟨1, keyN (y / 15), [], List.replicate (z % 4) (97 + (u % 16 : Nat)), tagsN (z / 4), (lifeN (z / 16) : Nat), 0, eB, eB, eB⟩) (vk := nilV) (vv := .slice A3 i cc3) (vt := .slice At nt ct) (HCM.out ▸ hc) hT4 (SlN.nil _ _) (by show SlX _ _ _ (List.replicate (z % 4) (97 + ((u % 16 : Nat) : Int))); rw [hval]; exact hv5) ht5 (HA.out.b.trans (hkept.below HA.out.b.size (by simp))))
        clear hrow hkept hT4 hval hr5 hk5 ht5 hv5 hk25
        go_wp2_with (first
          | ((with_reducible refine wpList_load_agg (o := ⟨some 132, _, _, _, _, _⟩) rfl 45 _ rfl ⟨w.heap.size + 1, 0, none⟩ ?_ (cmdC ⟨1, keyN (y / 15), [], List.replicate (z % 4) (97 + (u % 16 : Nat)), tagsN (z / 4), (lifeN (z / 16) : Nat), 0, eB, eB, eB⟩ nilV (.slice A3 i cc3) (.slice At nt ct)) _ hCC.out Try.underlying45 rfl (cmdC_size _ _ _ _) ?_); (· rfl))
          | ((with_reducible refine wpList_store_at2 (op := ⟨none, _, _, _, _, _⟩) rfl 45 _ _ rfl w.heap.size 0 (cmdC ⟨1, keyN (y / 15), [], List.replicate (z % 4) (97 + (u % 16 : Nat)), tagsN (z / 4), (lifeN (z / 16) : Nat), 0, eB, eB, eB⟩ nilV (.slice A3 i cc3) (.slice At nt ct)).toArray ?_ ?_ ?_ (cmdC_sizeA _ _ _ _) ?_ ?_); (· rfl); (· rfl); (· exact HTT.out); (· exact cmdC_one _ rfl rfl rfl); intro w5 hw5))
        all_goals exact bodyPost_ret (results_cell1 rfl _ _ ⟨w.heap.size, 0, none⟩ _ rfl HE.out.1) rfl ⟨_, rfl, HCM.out ▸ HE.out.2.1, HE.out.2.2⟩
set_option maxRecDepth 100000 in
set_option maxHeartbeats 2000000 in
theorem s63_2 (y z u : Nat) (hy : y < 256) (hz : z < 256) (hu : u < 256) (cm : CmdR) (hcm : ⟨2, keyN (y / 15), [], List.replicate (z % 4) (97 + (u % 16 : Nat)), tagsN (z / 4), (lifeN (z / 16) : Nat), 0, eB, eB, eB⟩ = cm) (hop : 1 + (y : Int) % 15 = 2) (hc : CmdV cm) (w : World) :
    Calls Try.prog 63 #[.int .i64 y, .int .i64 z, .int .i64 u] w fun e w' => ∃ v, e = .returned v ∧ CmdRes cm w' v ∧ Below w.heap.size w w' := by
  obtain ⟨W1, hW1, hT1, hC1, hb1, hs1⟩ := start63 w 2
  simp only [cmdL] at hW1
  have HW1 := Lib.hid hW1
  have HT1 := Lib.hid hT1
  have HC1 := Lib.hid hC1
  have HB1 := Lib.hid hb1
  obtain ⟨j, hj⟩ : ∃ j, y / 15 % 8 = j := ⟨_, rfl⟩
  have hj8 : j < 8 := by omega
  have hij : (y : Int) / 15 % 8 = (j : Int) := by omega
  have HCM := Lib.hid hcm
  clear hcm
  obtain ⟨n, hn⟩ : ∃ n, z % 4 = n := ⟨_, rfl⟩
  have hn4 : n < 4 := by omega
  have hzn : (z : Int) % 4 = (n : Int) := by omega
  have hb8 : (97 + (u : Int) % 16) % 256 = 97 + (u : Int) % 16 := by omega
  obtain ⟨jm, hjm⟩ : ∃ jm, z / 4 % 4 = jm := ⟨_, rfl⟩
  have hjm4 : jm < 4 := by omega
  have hjmi : (jm : Int) < 4 := by omega
  have hijm : (z : Int) / 4 % 4 = (jm : Int) := by omega
  clear hW1 hT1 hC1 hb1
  go_enter Try.func63, Try.ntmps63
  go_wp2_with fail
  rw [HW1.out.symm]
  refine (keys82 W1).mono ?_
  rintro e w2 ⟨G, rfl, hG, hk2, hb2⟩
  have hA : At63 w 2 y G w2 := ⟨World.rowIs.of_block HT1.out (hb2.block _ (World.rowIs.lt HT1.out)), World.rowIs.of_block HC1.out (hb2.block _ (World.rowIs.lt HC1.out)), hk2, by omega, HB1.out.trans (hb2.mono (by omega)), by have := hb2.size; omega⟩
  have hkey : w2.cell? ⟨G, j, none⟩ = some (.string (keyN (y / 15))) := by
    rw [World.rowIs.cell hk2 hj8, ← hj, keyC_get]
  have HA := Lib.hid hA
  have hc0 : w2.cell? ⟨w.heap.size + 1, 0, none⟩ = some (.int .i64 2) := World.rowIs.cell hA.c (i := 0) (by decide)
  clear hk2 hb2 hA
  go_wp2_with fail
  all_goals
    refine (life83 (z / 16) (by omega) w2).mono ?_
    rintro e w3 ⟨rfl, hb3⟩
    have hC3 := World.rowIs.of_block HA.out.c (hb3.block _ (World.rowIs.lt HA.out.c))
    have hcc1 : w3.cell? ⟨w.heap.size + 1, 1, none⟩ = some (.string ⟨#[]⟩) := World.rowIs.cell hC3 (i := 1) (by decide)
    have hff1 : w3.frozen? ⟨w.heap.size + 1, 1, none⟩ = false := World.rowIs.frozen hC3 1
    have hcc5 : w3.cell? ⟨w.heap.size + 1, 5, none⟩ = some (.int .u64 0) := World.rowIs.cell hC3 (i := 5) (by decide)
    have hff5 : w3.frozen? ⟨w.heap.size + 1, 5, none⟩ = false := World.rowIs.frozen hC3 5
    obtain ⟨w4, hw4⟩ : ∃ w4, (w3.setCell ⟨w.heap.size + 1, 1, none⟩ (.string (keyN (y / 15)))).setCell ⟨w.heap.size + 1, 5, none⟩ (.int .u64 (lifeN (z / 16) : Nat)) = w4 := ⟨_, rfl⟩
    have hr4 := set_life (set_key hC3 (keyN (y / 15))) (lifeN (z / 16) : Nat)
    have hk4 := (Kept.of_below (L := [w.heap.size + 1]) hb3).trans ((kept1 w3 (w.heap.size + 1) 1 (.string (keyN (y / 15)))).trans (kept1 _ (w.heap.size + 1) 5 (.int .u64 (lifeN (z / 16) : Nat))))
    rw [hw4] at hr4 hk4
    have hs4 : w.heap.size + 2 ≤ w4.heap.size := Nat.le_trans HA.out.s hk4.size
    have HST := Lib.hid (show BytSt w4 (w.heap.size + 1) (valF 2 (keyN (y / 15)) (lifeN (z / 16) : Nat)) [] w4 nilV from ⟨hr4, World.ownsRow_nil _ _ _ _, Kept.refl _ _⟩)
    have HK4 := Lib.hid hk4
    clear hC3 hb3 hr4 hk4
    go_wp2_with fail
    clear hw4 hcc1 hff1 hcc5 hff5 hkey hc0
    go_loopw [10] (fun q wr => ∃ (i : Nat) (v : Value), i ≤ n ∧ q = .int .i64 i ∧ BytSt w4 (w.heap.size + 1) (valF 2 (keyN (y / 15)) (lifeN (z / 16) : Nat)) (List.replicate i (97 + (u : Int) % 16)) wr v) (fun q _ => n - (intOf q).toNat)
    case atStart => exact ⟨0, nilV, Nat.zero_le _, rfl, HST.out⟩
    case round =>
      obtain ⟨i, v, hi, rfl, hs⟩ := hrel
      by_cases hlt : i < n
      · have hg : decide ((i : Int) < (n : Int)) = true := by simp; omega
        have hcr : wr.cell? ⟨w.heap.size + 1, 3, none⟩ = some v := World.rowIs.cell hs.1 (i := 3) (by decide)
        have HO := Lib.hid (World.ownsRow.alloc hs.2.1 (.cells #[.int .u8 (97 + (u : Int) % 16)] 5))
        have HSR := Lib.hid (src_byte wr (97 + (u : Int) % 16))
        have hsz := hs.2.2.size
        have HS := Lib.hid hs
        have hll : (List.replicate i (97 + (u : Int) % 16)).length ≤ 4 := by rw [List.length_replicate]; omega
        clear hs
        go_wp2_with ((with_reducible refine wpList_append_src (o := ⟨some 50, _, _, _, _, _⟩) rfl _ _ 22 rfl w4.heap.size 5 (.int .u8 0) 1 1 Try.underlying22 Try.info5 ?_ ?_ v _ _ ?_ HO.out (some ⟨wr.heap.size, 0, none⟩) 1 1 [.int .u8 (97 + (u : Int) % 16)] ?_ ?_ HSR.out (one_byte _) ?_ ?_ ?_ ?_); (· rfl); (· decide); (· rfl); (· rfl); (· rfl); (· unfold maxLen; omega); (· omega); (· simp; omega); intro v3 w5 hown5 hg5 hb5; obtain ⟨A3, cc3, rfl⟩ := owns_len hown5; obtain ⟨hc5, hf5, hs5⟩ := HS.out.append (k := 3) (x := 97 + (u : Int) % 16) (by omega) (by decide) rfl rfl (valF_set _ _ _) hown5 (((Below.refl _ _).alloc hsz _).trans hb5); have HS5 := Lib.hid hs5; clear hown5 hg5 hb5 hs5)
        go_roundw
        case rel =>
          have h5 := HS5.out
          rw [List.length_replicate] at h5
          exact ⟨i + 1, _, by omega, by go_num, by rw [List.replicate_succ']; exact h5⟩
        case measure => simp [intOf]; omega
      · obtain rfl : i = n := by omega
        have hg : decide ((i : Int) < (i : Int)) = false := by simp
        obtain ⟨A3, cc3, rfl⟩ := owns_len hs.2.1
        rw [List.length_replicate] at hs
        have HS := Lib.hid hs
        have hsz := hs.2.2.size
        obtain ⟨At, ct, hct, hst⟩ := chain_tags wr (z / 4) [w.heap.size + 1, w.heap.size] (by simp; omega)
        rw [hjm] at hct
        obtain ⟨h1, h2, h3, h4, hbc⟩ := chain_rows wr
        have hCc := World.rowIs.of_block hs.1 (hbc.block _ (World.rowIs.lt hs.1))
        have hcc4 : (chain63 wr).cell? ⟨w.heap.size + 1, 4, none⟩ = some (.slice none 0 0) := World.rowIs.cell hCc (i := 4) (by decide)
        have hff4 : (chain63 wr).frozen? ⟨w.heap.size + 1, 4, none⟩ = false := World.rowIs.frozen hCc 4
        obtain ⟨nt, hnt⟩ : ∃ nt, (tagsN (z / 4)).length = nt := ⟨_, rfl⟩
        rw [hnt] at hct hst
        have hr5 := set_tags hCc (.slice At nt ct)
        have hk5 := (Kept.of_below (L := [w.heap.size + 1]) hbc).trans (kept1 (chain63 wr) (w.heap.size + 1) 4 (.slice At nt ct))
        have ht5 := hst.kept (kept1 (chain63 wr) (w.heap.size + 1) 4 (.slice At nt ct)) (by simp)
        obtain ⟨w5, hw5⟩ : ∃ w5, (chain63 wr).setCell ⟨w.heap.size + 1, 4, none⟩ (.slice At nt ct) = w5 := ⟨_, rfl⟩
        rw [hw5] at hr5 hk5 ht5
        have hv5 := (SlX.of_slb (N := [w.heap.size + 1, w.heap.size]) (SlB.of_own (show Own8 wr w4.heap.size (.slice A3 i cc3) (List.replicate i (97 + (u : Int) % 16)) from HS.out.2.1)) (by simp; omega)).kept hk5 (by simp)
        have hk25 : Kept [w.heap.size + 1] w2 w5 := (HK4.out.trans HS.out.2.2).trans hk5
        have hc50 : w5.cell? ⟨w.heap.size + 1, 0, none⟩ = some (.int .i64 2) := World.rowIs.cell hr5 (i := 0) (by decide)
        have hval : List.replicate (z % 4) (97 + ((u % 16 : Nat) : Int)) = List.replicate i (97 + (u : Int) % 16) := by rw [hn, show ((u % 16 : Nat) : Int) = (u : Int) % 16 by omega]
        have hw55 := hw5
        unfold chain63 at hct hcc4 hff4 hw5
        clear hs h1 h2 h3 h4 hCc hst hbc hw55
        have hrow : w5.rowIs (w.heap.size + 1) 45 10 (listF (cmdC ⟨2, keyN (y / 15), [], List.replicate (z % 4) (97 + (u % 16 : Nat)), tagsN (z / 4), (lifeN (z / 16) : Nat), 0, eB, eB, eB⟩ nilV (.slice A3 i cc3) (.slice At nt ct))) := hr5
        have hkept : Kept [w.heap.size + 1] w2 w5 := hk25
        have hCC := Lib.hid (row_cells hrow _ rfl fun i hi => rfl)
        have hT4 := hkept.row (by simp) HA.out.t
        have HTT := Lib.hid (row_there hT4)
        have HE := Lib.hid (end63 (cm := ⟨2, keyN (y / 15), [], List.replicate (z % 4) (97 + (u % 16 : Nat)), tagsN (z / 4), (lifeN (z / 16) : Nat), 0, eB, eB, eB⟩) (vk := nilV) (vv := .slice A3 i cc3) (vt := .slice At nt ct) (HCM.out ▸ hc) hT4 (SlN.nil _ _) (by show SlX _ _ _ (List.replicate (z % 4) (97 + ((u % 16 : Nat) : Int))); rw [hval]; exact hv5) ht5 (HA.out.b.trans (hkept.below HA.out.b.size (by simp))))
        clear hrow hkept hT4 hval hr5 hk5 ht5 hv5 hk25
        go_wp2_with (first
          | ((with_reducible refine wpList_load_agg (o := ⟨some 132, _, _, _, _, _⟩) rfl 45 _ rfl ⟨w.heap.size + 1, 0, none⟩ ?_ (cmdC ⟨2, keyN (y / 15), [], List.replicate (z % 4) (97 + (u % 16 : Nat)), tagsN (z / 4), (lifeN (z / 16) : Nat), 0, eB, eB, eB⟩ nilV (.slice A3 i cc3) (.slice At nt ct)) _ hCC.out Try.underlying45 rfl (cmdC_size _ _ _ _) ?_); (· rfl))
          | ((with_reducible refine wpList_store_at2 (op := ⟨none, _, _, _, _, _⟩) rfl 45 _ _ rfl w.heap.size 0 (cmdC ⟨2, keyN (y / 15), [], List.replicate (z % 4) (97 + (u % 16 : Nat)), tagsN (z / 4), (lifeN (z / 16) : Nat), 0, eB, eB, eB⟩ nilV (.slice A3 i cc3) (.slice At nt ct)).toArray ?_ ?_ ?_ (cmdC_sizeA _ _ _ _) ?_ ?_); (· rfl); (· rfl); (· exact HTT.out); (· exact cmdC_one _ rfl rfl rfl); intro w5 hw5))
        all_goals exact bodyPost_ret (results_cell1 rfl _ _ ⟨w.heap.size, 0, none⟩ _ rfl HE.out.1) rfl ⟨_, rfl, HCM.out ▸ HE.out.2.1, HE.out.2.2⟩
set_option maxRecDepth 100000 in
set_option maxHeartbeats 2000000 in
theorem s63_3 (y z u : Nat) (hy : y < 256) (hz : z < 256) (hu : u < 256) (cm : CmdR) (hcm : ⟨3, keyN (y / 15), [], List.replicate (z % 4) (97 + (u % 16 : Nat)), tagsN (z / 4), (lifeN (z / 16) : Nat), ((u / 16 : Nat) : Int), eB, eB, eB⟩ = cm) (hop : 1 + (y : Int) % 15 = 3) (hc : CmdV cm) (w : World) :
    Calls Try.prog 63 #[.int .i64 y, .int .i64 z, .int .i64 u] w fun e w' => ∃ v, e = .returned v ∧ CmdRes cm w' v ∧ Below w.heap.size w w' := by
  obtain ⟨W1, hW1, hT1, hC1, hb1, hs1⟩ := start63 w 3
  simp only [cmdL] at hW1
  have HW1 := Lib.hid hW1
  have HT1 := Lib.hid hT1
  have HC1 := Lib.hid hC1
  have HB1 := Lib.hid hb1
  obtain ⟨j, hj⟩ : ∃ j, y / 15 % 8 = j := ⟨_, rfl⟩
  have hj8 : j < 8 := by omega
  have hij : (y : Int) / 15 % 8 = (j : Int) := by omega
  have HCM := Lib.hid hcm
  clear hcm
  obtain ⟨n, hn⟩ : ∃ n, z % 4 = n := ⟨_, rfl⟩
  have hn4 : n < 4 := by omega
  have hzn : (z : Int) % 4 = (n : Int) := by omega
  have hb8 : (97 + (u : Int) % 16) % 256 = 97 + (u : Int) % 16 := by omega
  obtain ⟨jm, hjm⟩ : ∃ jm, z / 4 % 4 = jm := ⟨_, rfl⟩
  have hjm4 : jm < 4 := by omega
  have hjmi : (jm : Int) < 4 := by omega
  have hijm : (z : Int) / 4 % 4 = (jm : Int) := by omega
  clear hW1 hT1 hC1 hb1
  go_enter Try.func63, Try.ntmps63
  go_wp2_with fail
  rw [HW1.out.symm]
  refine (keys82 W1).mono ?_
  rintro e w2 ⟨G, rfl, hG, hk2, hb2⟩
  have hA : At63 w 3 y G w2 := ⟨World.rowIs.of_block HT1.out (hb2.block _ (World.rowIs.lt HT1.out)), World.rowIs.of_block HC1.out (hb2.block _ (World.rowIs.lt HC1.out)), hk2, by omega, HB1.out.trans (hb2.mono (by omega)), by have := hb2.size; omega⟩
  have hkey : w2.cell? ⟨G, j, none⟩ = some (.string (keyN (y / 15))) := by
    rw [World.rowIs.cell hk2 hj8, ← hj, keyC_get]
  have HA := Lib.hid hA
  have hc0 : w2.cell? ⟨w.heap.size + 1, 0, none⟩ = some (.int .i64 3) := World.rowIs.cell hA.c (i := 0) (by decide)
  clear hk2 hb2 hA
  go_wp2_with fail
  all_goals
    refine (life83 (z / 16) (by omega) w2).mono ?_
    rintro e w3 ⟨rfl, hb3⟩
    have hC3 := World.rowIs.of_block HA.out.c (hb3.block _ (World.rowIs.lt HA.out.c))
    have hcc1 : w3.cell? ⟨w.heap.size + 1, 1, none⟩ = some (.string ⟨#[]⟩) := World.rowIs.cell hC3 (i := 1) (by decide)
    have hff1 : w3.frozen? ⟨w.heap.size + 1, 1, none⟩ = false := World.rowIs.frozen hC3 1
    have hcc5 : w3.cell? ⟨w.heap.size + 1, 5, none⟩ = some (.int .u64 0) := World.rowIs.cell hC3 (i := 5) (by decide)
    have hff5 : w3.frozen? ⟨w.heap.size + 1, 5, none⟩ = false := World.rowIs.frozen hC3 5
    obtain ⟨w4, hw4⟩ : ∃ w4, (w3.setCell ⟨w.heap.size + 1, 1, none⟩ (.string (keyN (y / 15)))).setCell ⟨w.heap.size + 1, 5, none⟩ (.int .u64 (lifeN (z / 16) : Nat)) = w4 := ⟨_, rfl⟩
    have hr4 := set_life (set_key hC3 (keyN (y / 15))) (lifeN (z / 16) : Nat)
    have hk4 := (Kept.of_below (L := [w.heap.size + 1]) hb3).trans ((kept1 w3 (w.heap.size + 1) 1 (.string (keyN (y / 15)))).trans (kept1 _ (w.heap.size + 1) 5 (.int .u64 (lifeN (z / 16) : Nat))))
    rw [hw4] at hr4 hk4
    have hs4 : w.heap.size + 2 ≤ w4.heap.size := Nat.le_trans HA.out.s hk4.size
    have HST := Lib.hid (show BytSt w4 (w.heap.size + 1) (valF 3 (keyN (y / 15)) (lifeN (z / 16) : Nat)) [] w4 nilV from ⟨hr4, World.ownsRow_nil _ _ _ _, Kept.refl _ _⟩)
    have HK4 := Lib.hid hk4
    clear hC3 hb3 hr4 hk4
    go_wp2_with fail
    clear hw4 hcc1 hff1 hcc5 hff5 hkey hc0
    go_loopw [10] (fun q wr => ∃ (i : Nat) (v : Value), i ≤ n ∧ q = .int .i64 i ∧ BytSt w4 (w.heap.size + 1) (valF 3 (keyN (y / 15)) (lifeN (z / 16) : Nat)) (List.replicate i (97 + (u : Int) % 16)) wr v) (fun q _ => n - (intOf q).toNat)
    case atStart => exact ⟨0, nilV, Nat.zero_le _, rfl, HST.out⟩
    case round =>
      obtain ⟨i, v, hi, rfl, hs⟩ := hrel
      by_cases hlt : i < n
      · have hg : decide ((i : Int) < (n : Int)) = true := by simp; omega
        have hcr : wr.cell? ⟨w.heap.size + 1, 3, none⟩ = some v := World.rowIs.cell hs.1 (i := 3) (by decide)
        have HO := Lib.hid (World.ownsRow.alloc hs.2.1 (.cells #[.int .u8 (97 + (u : Int) % 16)] 5))
        have HSR := Lib.hid (src_byte wr (97 + (u : Int) % 16))
        have hsz := hs.2.2.size
        have HS := Lib.hid hs
        have hll : (List.replicate i (97 + (u : Int) % 16)).length ≤ 4 := by rw [List.length_replicate]; omega
        clear hs
        go_wp2_with ((with_reducible refine wpList_append_src (o := ⟨some 50, _, _, _, _, _⟩) rfl _ _ 22 rfl w4.heap.size 5 (.int .u8 0) 1 1 Try.underlying22 Try.info5 ?_ ?_ v _ _ ?_ HO.out (some ⟨wr.heap.size, 0, none⟩) 1 1 [.int .u8 (97 + (u : Int) % 16)] ?_ ?_ HSR.out (one_byte _) ?_ ?_ ?_ ?_); (· rfl); (· decide); (· rfl); (· rfl); (· rfl); (· unfold maxLen; omega); (· omega); (· simp; omega); intro v3 w5 hown5 hg5 hb5; obtain ⟨A3, cc3, rfl⟩ := owns_len hown5; obtain ⟨hc5, hf5, hs5⟩ := HS.out.append (k := 3) (x := 97 + (u : Int) % 16) (by omega) (by decide) rfl rfl (valF_set _ _ _) hown5 (((Below.refl _ _).alloc hsz _).trans hb5); have HS5 := Lib.hid hs5; clear hown5 hg5 hb5 hs5)
        go_roundw
        case rel =>
          have h5 := HS5.out
          rw [List.length_replicate] at h5
          exact ⟨i + 1, _, by omega, by go_num, by rw [List.replicate_succ']; exact h5⟩
        case measure => simp [intOf]; omega
      · obtain rfl : i = n := by omega
        have hg : decide ((i : Int) < (i : Int)) = false := by simp
        obtain ⟨A3, cc3, rfl⟩ := owns_len hs.2.1
        rw [List.length_replicate] at hs
        have HS := Lib.hid hs
        have hsz := hs.2.2.size
        obtain ⟨At, ct, hct, hst⟩ := chain_tags wr (z / 4) [w.heap.size + 1, w.heap.size] (by simp; omega)
        rw [hjm] at hct
        obtain ⟨h1, h2, h3, h4, hbc⟩ := chain_rows wr
        have hCc := World.rowIs.of_block hs.1 (hbc.block _ (World.rowIs.lt hs.1))
        have hcc4 : (chain63 wr).cell? ⟨w.heap.size + 1, 4, none⟩ = some (.slice none 0 0) := World.rowIs.cell hCc (i := 4) (by decide)
        have hff4 : (chain63 wr).frozen? ⟨w.heap.size + 1, 4, none⟩ = false := World.rowIs.frozen hCc 4
        obtain ⟨nt, hnt⟩ : ∃ nt, (tagsN (z / 4)).length = nt := ⟨_, rfl⟩
        rw [hnt] at hct hst
        have hr5 := set_tags hCc (.slice At nt ct)
        have hk5 := (Kept.of_below (L := [w.heap.size + 1]) hbc).trans (kept1 (chain63 wr) (w.heap.size + 1) 4 (.slice At nt ct))
        have ht5 := hst.kept (kept1 (chain63 wr) (w.heap.size + 1) 4 (.slice At nt ct)) (by simp)
        obtain ⟨w5, hw5⟩ : ∃ w5, (chain63 wr).setCell ⟨w.heap.size + 1, 4, none⟩ (.slice At nt ct) = w5 := ⟨_, rfl⟩
        rw [hw5] at hr5 hk5 ht5
        have hv5 := (SlX.of_slb (N := [w.heap.size + 1, w.heap.size]) (SlB.of_own (show Own8 wr w4.heap.size (.slice A3 i cc3) (List.replicate i (97 + (u : Int) % 16)) from HS.out.2.1)) (by simp; omega)).kept hk5 (by simp)
        have hk25 : Kept [w.heap.size + 1] w2 w5 := (HK4.out.trans HS.out.2.2).trans hk5
        have hc50 : w5.cell? ⟨w.heap.size + 1, 0, none⟩ = some (.int .i64 3) := World.rowIs.cell hr5 (i := 0) (by decide)
        have hval : List.replicate (z % 4) (97 + ((u % 16 : Nat) : Int)) = List.replicate i (97 + (u : Int) % 16) := by rw [hn, show ((u % 16 : Nat) : Int) = (u : Int) % 16 by omega]
        have hw55 := hw5
        unfold chain63 at hct hcc4 hff4 hw5
        clear hs h1 h2 h3 h4 hCc hst hbc hw55
        have hc56 : w5.cell? ⟨w.heap.size + 1, 6, none⟩ = some (.int .u64 0) := World.rowIs.cell hr5 (i := 6) (by decide)
        have hf56 : w5.frozen? ⟨w.heap.size + 1, 6, none⟩ = false := World.rowIs.frozen hr5 6
        have hr6 := set_ver hr5 ((u / 16 : Nat) : Int)
        have hk6 := kept1 w5 (w.heap.size + 1) 6 (.int .u64 ((u / 16 : Nat) : Int))
        obtain ⟨w6, hw6⟩ : ∃ w6, w5.setCell ⟨w.heap.size + 1, 6, none⟩ (.int .u64 ((u / 16 : Nat) : Int)) = w6 := ⟨_, rfl⟩
        rw [hw6] at hr6 hk6
        have hu16 : ((u / 16 : Nat) : Int) = (u : Int) / 16 := by omega
        rw [hu16] at hw6
        have hrow : w6.rowIs (w.heap.size + 1) 45 10 (listF (cmdC ⟨3, keyN (y / 15), [], List.replicate (z % 4) (97 + (u % 16 : Nat)), tagsN (z / 4), (lifeN (z / 16) : Nat), ((u / 16 : Nat) : Int), eB, eB, eB⟩ nilV (.slice A3 i cc3) (.slice At nt ct))) := hr6
        have hkept : Kept [w.heap.size + 1] w2 w6 := hk25.trans hk6
        have hCC := Lib.hid (row_cells hrow _ rfl fun i hi => rfl)
        have hT4 := hkept.row (by simp) HA.out.t
        have HTT := Lib.hid (row_there hT4)
        have HE := Lib.hid (end63 (cm := ⟨3, keyN (y / 15), [], List.replicate (z % 4) (97 + (u % 16 : Nat)), tagsN (z / 4), (lifeN (z / 16) : Nat), ((u / 16 : Nat) : Int), eB, eB, eB⟩) (vk := nilV) (vv := .slice A3 i cc3) (vt := .slice At nt ct) (HCM.out ▸ hc) hT4 (SlN.nil _ _) (by show SlX _ _ _ (List.replicate (z % 4) (97 + ((u % 16 : Nat) : Int))); rw [hval]; exact hv5.kept hk6 (by simp)) (ht5.kept hk6 (by simp)) (HA.out.b.trans (hkept.below HA.out.b.size (by simp))))
        clear hrow hkept hT4 hval hr6 hk6 hr5 hk5 ht5 hv5 hk25
        go_wp2_with (first
          | ((with_reducible refine wpList_load_agg (o := ⟨some 132, _, _, _, _, _⟩) rfl 45 _ rfl ⟨w.heap.size + 1, 0, none⟩ ?_ (cmdC ⟨3, keyN (y / 15), [], List.replicate (z % 4) (97 + (u % 16 : Nat)), tagsN (z / 4), (lifeN (z / 16) : Nat), ((u / 16 : Nat) : Int), eB, eB, eB⟩ nilV (.slice A3 i cc3) (.slice At nt ct)) _ hCC.out Try.underlying45 rfl (cmdC_size _ _ _ _) ?_); (· rfl))
          | ((with_reducible refine wpList_store_at2 (op := ⟨none, _, _, _, _, _⟩) rfl 45 _ _ rfl w.heap.size 0 (cmdC ⟨3, keyN (y / 15), [], List.replicate (z % 4) (97 + (u % 16 : Nat)), tagsN (z / 4), (lifeN (z / 16) : Nat), ((u / 16 : Nat) : Int), eB, eB, eB⟩ nilV (.slice A3 i cc3) (.slice At nt ct)).toArray ?_ ?_ ?_ (cmdC_sizeA _ _ _ _) ?_ ?_); (· rfl); (· rfl); (· exact HTT.out); (· exact cmdC_one _ rfl rfl rfl); intro w5 hw5))
        all_goals exact bodyPost_ret (results_cell1 rfl _ _ ⟨w.heap.size, 0, none⟩ _ rfl HE.out.1) rfl ⟨_, rfl, HCM.out ▸ HE.out.2.1, HE.out.2.2⟩
end Go.Proofs.Ytnmhmabifeapkaa.Ord
