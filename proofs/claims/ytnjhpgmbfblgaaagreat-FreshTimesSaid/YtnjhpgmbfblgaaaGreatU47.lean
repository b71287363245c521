/- Walk of the program's do: the. -/
import Derived.Test.YtnjhpgmbfblgaaaGreatMU46
import Derived.Deep.DeepCutAuto
import Derived.Deep.CutBlock
import Derived.Deep.RegionHeld
set_option linter.unusedVariables false
set_option linter.unusedSimpArgs false
namespace Go.Proofs.YtnjhpgmbfblgaaaGreat.Ord
open Go.RowKit
set_option maxRecDepth 100000
set_option maxHeartbeats 8000000
theorem n139 : (Tryz.f139.name == "runtime.NumGoroutine") = false := by decide
theorem b139 : Tryz.f139.body.isSome = true := rfl
theorem g9_ (es : Edges) (k c : ByteArray) : kids (bG_ k c es) k = bf_ c (kids es k) := by
 unfold kids bG_ bf_
 rw [List.filter_filter, List.filter_map, List.filter_filter]
 congr 1
 apply List.filter_congr
 intro e _
 obtain ⟨a, b⟩ := e
 by_cases h1 : a = k <;> by_cases h2 : b = c <;> simp [h1, h2]
theorem cy_ (es : Edges) (k c k' : ByteArray) (h : k' ≠ k) : kids (bG_ k c es) k' = kids es k' := by
 unfold kids bG_
 rw [List.filter_filter]
 congr 1
 apply List.filter_congr
 intro e _
 obtain ⟨a, b⟩ := e
 by_cases h1 : a = k'
 ·subst h1
  simp [h]
 simp [h1]
theorem g8_ (es : Edges) (k c k' : ByteArray) : kids (es ++ [(k, c)]) k' = kids es k' ++ if k = k' then [c] else [] := by
 unfold kids
 rw [List.filter_append, List.map_append]
 congr 1
 by_cases h : k = k' <;> simp [h]
theorem own_none {w : World} {base : Nat} {e : TypeId} {size : Nat} : w.ownsRow base e size (.slice none 0 0) 0 [] := ⟨by simp, .inl ⟨rfl, rfl⟩⟩
theorem JI.kid0 {w : World} {lim J : Nat} {grace : Int} {ws : List WrR} {es : Edges} {s : JS} (h : JI w lim J grace ws es s) {key : ByteArray} {v0 : Value} (hv : (s.f key).getD (.slice none 0 0) = v0) : w.ownsRow lim 9 1 v0 (kids es key).length ((kids es key).map Value.string) := by
 cases hf : s.f key with
 | none =>
  rw [hf] at hv
  subst hv
  rw [h.kidsN key hf]
  exact own_none
 | some v =>
  rw [hf] at hv
  subst hv
  exact h.kidsV key v hf
theorem i2_ {wc W7 w8 : World} {lim J : Nat} {grace : Int} {ws : List WrR} {es es' : Edges} {s : JS} (h : JI wc lim J grace ws es s) {key : ByteArray} {v0 v2 : Value} (hv : (s.f key).getD (.slice none 0 0) = v0) (hk7 : Kept v0.ownBlock.toList wc W7)
  (hown : W7.ownsRow lim 9 1 v2 (kids es' key).length ((kids es' key).map Value.string)) (hnew : v2.ownBlock = v0.ownBlock ∨ ∃ b, v2.ownBlock = some b /\ wc.heap.size <= b) (hk8 : Kept [s.C] W7 w8) (hm8 : MapS w8 s.C fun k' => if k' = key then some v2 else s.f k')
  (hmC : MapS W7 s.C s.f) (hoth : ∀ k, k ≠ key -> kids es' k = kids es k) (hf : es'.length <= 5000) : JI w8 lim J grace ws es' { s with f := fun k' => if k' = key then some v2 else s.f k' } /\ Below lim wc w8 := by
 have h0 : ∀ b, v0.ownBlock = some b -> ∃ v, s.f key = some v /\ v.ownBlock = some b := fun b hb => by
  cases hf : s.f key with
  | none =>
   rw [hf] at hv
   subst hv
   cases hb
  | some v =>
   rw [hf] at hv
   subst hv
   exact ⟨_, rfl, hb⟩
 have hk : Kept (s.C :: v0.ownBlock.toList) wc w8 := (hk7.mono fun b hb => mM _ hb).trans (hk8.mono fun b hb => by simp at hb; subst hb; exact List.mem_cons_self ..)
 refine ⟨h.setK hk hm8 (hk8.own2 hown fun b hb he => ?_) hoth (fun b hb => h0 b (by simpa using hb)) (fun b hb => ?_) hf, hk.below h.lw fun b hb => ?_⟩
 ·simp at hb
  subst hb
  exact hmC.ne_own hown he
 ·rcases hnew with h1 | ⟨b', h1, h2⟩
  ·exact .inr (h0 b (h1 ▸ hb))
  rw [h1] at hb
  cases hb
  exact .inl h2
 rcases List.mem_cons.1 hb with rfl | hb
 ·exact h.lC
 obtain ⟨v, h1, h2⟩ := h0 b (by simpa using hb)
 exact ((h.kidsV key v h1).lt b h2).1
theorem do73de (w : World) (lim J : Nat) (grace : Int) (ws : List WrR) (es : Edges) (s : JS) (h : JI w lim J grace ws es s) (x : CallR) (p : CallV) (hx : CallOk w lim x p) (hg : CalG x ws es) (hcl : x.cmd.op = 12 ∨ x.cmd.op = 11) :
  Calls Tryz.prog 73 #[ptV J, .agg (callC x p).toArray] w (dv_ w lim J grace ws es x) := by
 refine pre73 w lim J grace ws es s h x p hx _ ?_
 intro LX LC X C FB op key tim cnt wc hp
 obtain ⟨Ao, Ae, Af, Ay, Bh, Ba, Ab, HJ, Bk, Bo, Bn, Bl, Ax, Ah, Ak⟩ := hp
 intros
 conv => arg 2; dsimp only [restD, sndC, Tryz.f73, Option.getD]
 obtain ⟨HG, Bi⟩ := kq2 hg hcl
 clear h hx hg hcl
 have c0 := Ax.o _ Ab.o
 have c1 := Ah.o _ Ab.o
 have x22 := Ak.o _ Ba.o
 obtain ⟨wb, rfl⟩ := eX wc
 rcases (show op = 12 ∨ op = 11 by rw [<- Ae.o]; exact Bi.o) with rfl | rfl
 all_goals
  obtain ⟨chi, hchi⟩ := eY x.cmd.chi
  have Aw := kp (fun (W : World) (h : RowL W C 36 LC) => (show W.cell? ⟨C, 9, none⟩ = some (.string chi) from hchi ▸ h.cell Ao.o.2.2.2.2.2.2))
  obtain ⟨v0, hv0⟩ := eY ((s.f key).getD (.slice none 0 0))
  obtain ⟨Aa, HJd⟩ := kq2 hv0 (HJ.o.below (ag_ wb 1))
  have Ai := kp (show MapS wb.drew s.C s.f from HJd.o.mapC)
  have hkl := d5_ es key
  have hes := HG.o.fewE
  have As := kp (hn_ v0 lim C (kids es key) chi wb.drew (by omega) (HJd.o.kid0 hv0) (Aw.o _ Ab.o) (Ab.o.ne_own (HJ.o.kid0 hv0) (by decide)))
  have Az := kp (fun (W : World) (hk : Kept v0.ownBlock.toList wb.drew W) => (show W.cell? ⟨J, 3, none⟩ = some (.map (some s.C)) /\ W.cell? ⟨C, 1, none⟩ = some (.string key) /\ MapS W s.C s.f from
   ⟨RowL.cell (hk.row (fun hm => HJd.o.row.ne_own (HJd.o.kid0 Aa.o) (by decide) (by simpa using hm)) HJd.o.row) (j := 3) rfl, Ah.o W (hk.row (fun hm => (show RowL wb.drew C 36 LC from Ab.o).ne_own (HJd.o.kid0 Aa.o) (by decide) (by simpa using hm)) Ab.o), Ai.o.of_block (hk.block _ Ai.o.lt fun hm => Ai.o.ne_own (HJd.o.kid0 Aa.o) (by simpa using hm))⟩))
  have j3 : wb.cell? ⟨J, 3, none⟩ = some (.map (some s.C)) := HJ.o.row.cell (j := 3) rfl
  have Bj := kp hchi
 focus
  have Ac : depE x es = bG_ key chi es := by rw [lm_ Ae.o, Af.o, hchi]
 rotate_left 1
 have Ac : depE x es = bG_ key chi es ++ [(key, chi)] := by rw [ln_ Ae.o, Af.o, hchi]
 rotate_left 1
 all_goals
  obtain ⟨Ac, Bg, Ap⟩ := kq3 Ac (show DoS x ws es ws (depE x es) from ⟨ws, by unfold MidS; rw [Ae.o, if_neg (by omega), if_neg (by omega), if_neg (by omega), if_pos (by omega)]; exact ⟨rfl, rfl⟩, (c9_ (by rw [Ae.o]; omega) ws).symm⟩) (gm_ (x := x) hes)
 focus
  obtain ⟨Ad, Aq⟩ := kq2 (show ∀ k, k ≠ key -> kids (depE x es) k = kids es k from fun k hk => by rw [Ac.o]; exact cy_ es key chi k hk) (show kids (depE x es) key = bf_ chi (kids es key) by rw [Ac.o]; exact g9_ es key chi)
 rotate_left 1
 obtain ⟨Ad, Aq⟩ := kq2 (show ∀ k, k ≠ key -> kids (depE x es) k = kids es k from fun k hk => by rw [Ac.o]; rw [g8_, cy_ es key chi k hk, if_neg (fun e => hk e.symm), List.append_nil]) (show kids (depE x es) key = bf_ chi (kids es key) ++ [chi] by rw [Ac.o]; rw [g8_, g9_, if_pos rfl])
 rotate_left 1
 all_goals
  clear hv0 hchi hkl hes x22
  go_upto_region 32 with (fail)
  go_cut [11] (fun s11 W' => W'.ownsRow lim 9 1 s11 (bf_ chi (kids es key)).length ((bf_ chi (kids es key)).map Value.string) /\ Kept v0.ownBlock.toList wb W' /\ s11.ownBlock = v0.ownBlock)
  case first =>
   refine wp_region_held_drew (S := fun W => W.cell? ⟨J, 3, none⟩ = some (.map (some s.C)) /\ W.cell? ⟨C, 1, none⟩ = some (.string key) /\ MapS W s.C s.f) (by kernel_rfl) ⟨j3, c1, Ai.o⟩ (fun hS => ?_)
   have HS := kp hS
   clear hS
   refine tp 0 rfl rfl HS.o ?_
   simp only [Act.put, z1, z2, z3]
   refine tp 1 rfl rfl HS.o ?_
   simp only [Act.put, z1, z2, z3]
   refine tp 2 rfl rfl HS.o ?_
   simp only [Act.put, z1, z2, z3]
   refine tq 3 ?_ rfl (Or.inl ⟨by rfl, ?_⟩) HS.o ?_
   rotate_left 1
   ·intro w hw; have q := hw.1; go_simp; try with_reducible rfl
   simp only [Act.put, z1, z2, z3]
   refine tp 4 rfl rfl HS.o ?_
   simp only [Act.put, z1, z2, z3]
   refine tq 5 ?_ rfl (Or.inl ⟨by rfl, ?_⟩) HS.o ?_
   rotate_left 1
   ·intro w hw; have q := hw.2.1; go_simp; try with_reducible rfl
   simp only [Act.put, z1, z2, z3]
   refine tq 6 ?_ rfl (Or.inl ⟨by rfl, ?_⟩) HS.o ?_
   rotate_left 1
   ·intro w hw; have q := hw.2.2.run_lookup Tryz.underlying135 Tryz.underlying9 (.slice none 0 0) (Tryz.zeroValue32 w) key; rw [Aa.o] at q; go_simp; try with_reducible rfl
   simp only [Act.put, z1, z2, z3]
   refine tp 7 rfl rfl HS.o ?_
   simp only [Act.put, z1, z2, z3]
   refine oQ 8 rfl (fun KK hK => ?_)
   with_reducible refine ao_ rfl 139 _ _ rfl #[v0, .func (.func 140) #[] #[.pointer (some ⟨C, 0, none⟩)]] ?_ Tryz.f139 Tryz.func139 n139 b139 (fun u w6 => w6.ownsRow lim 9 1 u (bf_ chi (kids es key)).length ((bf_ chi (kids es key)).map Value.string) /\ Kept v0.ownBlock.toList wb.drew w6 /\ u.ownBlock = v0.ownBlock) ?_ ?_
   ·simp only [y1, y2, y3]; rfl
   ·exact As.o.mono fun e w' ⟨v', h1, h2, h3, h4⟩ => ⟨_, h1, h2, h3, h4⟩
   rintro u w6 ⟨ho6, hk6, he6⟩
   have hS := Az.o w6 hk6
   obtain ⟨Bc, Ag, Bf⟩ := kq3 ho6 hk6 he6
   clear ho6 hk6 he6
   refine hK.o _ _ hS (fun _ => ?_)
   clear hK KK HS
   have HS := kp hS
   clear hS
   try simp only [Act.put, z1, z2, z3]
   refine tp 9 rfl rfl HS.o ?_
   simp only [Act.put, z1, z2, z3]
   refine wpAnyH_done (by kernel_rfl) ?_ _
   go_wp2_with fail
   go_meet
   case rel => exact ⟨Bc.o, ⟨Ag.o.os, Ag.o.tape, Ag.o.output, Ag.o.size, Ag.o.block⟩, Bf.o⟩
  obtain ⟨ho1, hk1, he1⟩ := hcut
  obtain ⟨w6, rfl⟩ := eX wc
  obtain ⟨Bm, Bd⟩ := kq2 ho1 hk1
  have hb6 : Below lim wb w6 := hk1.below HJ.o.lw fun b hb => ((HJ.o.kid0 Aa.o).lt b (by simpa using hb)).1
  have hC6 : RowL w6 C 36 LC := hk1.row (fun hm => Ab.o.ne_own (HJ.o.kid0 Aa.o) (by decide) (by simpa using hm)) Ab.o
  have hJ6 := hk1.row (fun hm => HJ.o.row.ne_own (HJ.o.kid0 Aa.o) (by decide) (by simpa using hm)) HJ.o.row
  have hM6 : MapS w6 s.C s.f := HJ.o.mapC.of_block (hk1.block _ HJ.o.mapC.lt fun hm => HJ.o.mapC.ne_own (HJ.o.kid0 Aa.o) (by simpa using hm))
  have c06 := Ax.o _ hC6
  have c16 := Ah.o _ hC6
  obtain ⟨At, Av, An⟩ := kq3 hC6 hJ6 hM6
 focus
  obtain ⟨v2, hv2⟩ := eX u11
  rw [<- hv2] at ho1 he1 ⊢
  clear hv2
  go_upto_region 35 with (fail)
  obtain ⟨w7, rfl⟩ := eX w6
  have hk7 : Kept v0.ownBlock.toList wb w7.drew := ⟨hk1.os, hk1.tape, hk1.output, hk1.size, hk1.block⟩
  have hown7 : w7.drew.ownsRow lim 9 1 v2 (kids (depE x es) key).length ((kids (depE x es) key).map Value.string) := by rw [Aq.o]; exact ho1
  have hnew7 : v2.ownBlock = v0.ownBlock ∨ ∃ b, v2.ownBlock = some b /\ wb.heap.size <= b := .inl he1
  have hM7 := An.o
  have hJ7 := Av.o
  have hC7 := At.o
  clear ho1 hk1 he1 hb6 c06 c16
 rotate_left 1
 focus
  obtain ⟨n1, hn1⟩ := eY ((bf_ chi (kids es key)).length)
  have hn15 : n1 <= 5000 := by
   rw [<- hn1]
   unfold bf_
   have h1 := List.length_filter_le (fun x => !decide (x = chi)) (kids es key)
   have h2 := d5_ es key
   have h3 := HG.o.fewE
   omega
  rw [hn1] at ho1
  obtain ⟨A1, cp1, rfl⟩ := ax_ ho1
  have hA := below1 w6 (.cells #[.string chi] 9)
  obtain ⟨Bb, Am⟩ := kq2 (show (w6.alloc (.cells #[.string chi] 9)).ownsRow lim 9 1 (.slice A1 n1 cp1) n1 ((bf_ chi (kids es key)).map Value.string) from World.ownsRow.alloc ho1 _) (fun (j : Nat) (u : Value) (hj : ([.string chi] : List Value)[j]? = some u) => (show (w6.alloc (.cells #[.string chi] 9)).cell? ((⟨w6.heap.size, 0, none⟩ : Addr).add j) = some u by rw [Addr.add_mid, Nat.zero_add]; exact (RowL.new w6 9 [.string chi]).cell hj))
  have hbs : lim <= (w6.alloc (.cells #[.string chi] 9)).heap.size := lT (lT HJ.o.lw hb6.size) hA.size
  have k9 := Aw.o w6 At.o
  have Be := kp (fun (v2 : Value) (w7 : World) (hown : w7.ownsRow lim 9 1 v2 (n1 + 1) ((bf_ chi (kids es key)).map Value.string ++ [.string chi])) (hg : (w6.alloc (.cells #[.string chi] 9)).grownBy w7 (Value.slice A1 n1 cp1).ownBlock) (hne : v2.ownBlock = (Value.slice A1 n1 cp1).ownBlock ∨ v2.ownBlock = some (w6.alloc (.cells #[.string chi] 9)).heap.size) =>
   (show Kept v0.ownBlock.toList wb w7.drew /\ w7.drew.ownsRow lim 9 1 v2 (kids (depE x es) key).length ((kids (depE x es) key).map Value.string) /\ (v2.ownBlock = v0.ownBlock ∨ ∃ b, v2.ownBlock = some b /\ wb.heap.size <= b) /\ MapS w7 s.C s.f /\ RowL w7 J 138 [.int .u64 grace, s.wv, .map (some s.M), .map (some s.C)] /\ RowL w7 C 36 LC by
    have hkA : Kept v0.ownBlock.toList w6 w7 := (Kept.of_below hA).trans (he1 ▸ aA_ hg)
    have hkk := Bd.o.trans hkA
    have hlt : ∀ b ∈ v0.ownBlock.toList, b ≠ s.C /\ b ≠ J /\ b ≠ C := fun b hb => by
     have hb' : v0.ownBlock = some b := by simpa using hb
     exact ⟨fun e => HJ.o.mapC.ne_own (HJ.o.kid0 Aa.o) (e ▸ hb'), fun e => HJ.o.row.ne_own (HJ.o.kid0 Aa.o) (by decide) (e ▸ hb'), fun e => Ab.o.ne_own (HJ.o.kid0 Aa.o) (by decide) (e ▸ hb')⟩
    refine ⟨⟨hkk.os, hkk.tape, hkk.output, hkk.size, hkk.block⟩, ?_, ?_, An.o.of_block (hkA.block _ An.o.lt fun hm => (hlt _ hm).1 rfl), hkA.row (fun hm => (hlt _ hm).2.1 rfl) Av.o, hkA.row (fun hm => (hlt _ hm).2.2 rfl) At.o⟩
    ·rw [Aq.o, lA, List.map_append, hn1]
     exact hown
    rcases hne with h | h
    ·exact .inl (h.trans he1)
    exact .inr ⟨_, h, lT hb6.size hA.size⟩))
  clear ho1 hA hn1 he1 hk1 hb6
  go_wp2_with ((with_reducible refine co_ (o := ⟨some 147, _, _, _, _, _⟩) rfl _ _ 32 rfl lim 9 (.string ⟨#[]⟩) 1 16 Tryz.underlying32 Tryz.info9 ?_ ?_ (.slice A1 n1 cp1) n1 _ ?_ Bb.o ⟨w6.heap.size, 0, none⟩ 1 1 [.string chi] ?_ ?_ Am.o ?_ ?_ ?_ hbs ?_); (· rfl); (· decide); (· rfl); (· rfl); (· rfl); (· simp [Value.oneCell']); (· unfold maxLen; omega); (· omega); intro v2 w7 hown7a hg7 hne7; have Au := kp (Be.o v2 w7 hown7a hg7 hne7); obtain ⟨A7, cp7, rfl⟩ := ax_ hown7a; clear hown7a hg7 hne7)
  obtain ⟨v2, hv2⟩ := eX (Value.slice A7 (n1 + 1) cp7)
  rw [<- hv2] at Au ⊢
  clear hv2
  obtain ⟨hk7, hown7, hnew7, hM7, hJ7, hC7⟩ := Au.o
  clear c06 c16 k9 hbs
 rotate_left 1
 all_goals
  have Aj := kp (show MapS w7.drew s.C s.f from hM7)
  have Al := kp (fun (w8 : World) (hk8 : Kept [s.C] w7.drew w8) => (show w8.cell? ⟨J, 3, none⟩ = some (.map (some s.C)) /\ w8.cell? ⟨C, 1, none⟩ = some (.string key) from
   ⟨RowL.cell (hk8.row (by simp; exact fun e => Aj.o.ne_row (show RowL w7.drew J 138 _ from hJ7) e) (show RowL w7.drew J 138 _ from hJ7)) (j := 3) rfl, Ah.o w8 (hk8.row (by simp; exact fun e => Aj.o.ne_row (show RowL w7.drew C 36 LC from hC7) e) hC7)⟩))
  have Ar := kp (fun (w8 : World) (hk8 : Kept [s.C] w7.drew w8) (hm8 : MapS w8 s.C fun k' => if k' = key then some v2 else s.f k') => i2_ HJ.o Aa.o (v2 := v2) (es' := depE x es) (W7 := w7.drew) hk7 hown7 hnew7 hk8 hm8 Aj.o Ad.o Ap.o)
  have j37 : w7.cell? ⟨J, 3, none⟩ = some (.map (some s.C)) := RowL.cell hJ7 (j := 3) rfl
  have c17 : w7.cell? ⟨C, 1, none⟩ = some (.string key) := Ah.o _ hC7
  clear hk7 hown7 hnew7 hM7 hJ7 hC7
  refine wp_region_held_drew (S := fun W => W.cell? ⟨J, 3, none⟩ = some (.map (some s.C)) /\ W.cell? ⟨C, 1, none⟩ = some (.string key)) (by kernel_rfl) ⟨j37, c17⟩ (fun hS => ?_)
  have HS := kp hS
  clear hS
  refine tp 0 rfl rfl HS.o ?_
  simp only [Act.put, z1, z2, z3]
  refine tp 1 rfl rfl HS.o ?_
  simp only [Act.put, z1, z2, z3]
  refine tp 2 rfl rfl HS.o ?_
  simp only [Act.put, z1, z2, z3]
  refine tq 3 ?_ rfl (Or.inl ⟨by rfl, ?_⟩) HS.o ?_
  rotate_left 1
  ·intro w hw; have q := hw.1; go_simp; try with_reducible rfl
  simp only [Act.put, z1, z2, z3]
  refine tp 4 rfl rfl HS.o ?_
  simp only [Act.put, z1, z2, z3]
  refine tq 5 ?_ rfl (Or.inl ⟨by rfl, ?_⟩) HS.o ?_
  rotate_left 1
  ·intro w hw; have q := hw.2; go_simp; try with_reducible rfl
  simp only [Act.put, z1, z2, z3]
  refine tp 6 rfl rfl HS.o ?_
  simp only [Act.put, z1, z2, z3]
  refine oQ 7 rfl (fun KK hK => ?_)
  with_reducible refine bK_ rfl 135 9 32 _ _ _ rfl s.C key v2 ?_ ?_ ?_ s.f Aj.o Tryz.underlying135 Tryz.underlying9 ?_
  ·rfl
  ·rfl
  ·rfl
  intro w8 hk8 hm8
  have hS := Al.o w8 hk8
  have HP := kp (Ar.o w8 hk8 hm8)
  clear hk8 hm8
  refine hK.o _ _ hS (fun _ => ?_)
  clear hK KK HS
  have HS := kp hS
  clear hS
  try simp only [Act.put, z1, z2, z3]
  refine wpAnyH_done (by kernel_rfl) ?_ _
  go_wp2_with fail
  go_end0
  exact ⟨rfl, ws, _, _, Bg.o, HP.o.1, Bk.o.trans HP.o.2⟩
theorem do73d (w : World) (lim J : Nat) (grace : Int) (ws : List WrR) (es : Edges) (s : JS) (h : JI w lim J grace ws es s) (x : CallR) (p : CallV) (hx : CallOk w lim x p) (hg : CalG x ws es) (hcl : x.cmd.op = 12) :
  Calls Tryz.prog 73 #[ptV J, .agg (callC x p).toArray] w (dv_ w lim J grace ws es x) :=
 do73de w lim J grace ws es s h x p hx hg (.inl hcl)
theorem do73e (w : World) (lim J : Nat) (grace : Int) (ws : List WrR) (es : Edges) (s : JS) (h : JI w lim J grace ws es s) (x : CallR) (p : CallV) (hx : CallOk w lim x p) (hg : CalG x ws es) (hcl : x.cmd.op = 11) :
  Calls Tryz.prog 73 #[ptV J, .agg (callC x p).toArray] w (dv_ w lim J grace ws es x) :=
 do73de w lim J grace ws es s h x p hx hg (.inr hcl)
end Go.Proofs.YtnjhpgmbfblgaaaGreat.Ord
