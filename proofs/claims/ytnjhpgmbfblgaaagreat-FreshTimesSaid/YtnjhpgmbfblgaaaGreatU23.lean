/- Walk of the reference's Do: a. -/
import Derived.Test.YtnjhpgmbfblgaaaGreatMU79
set_option linter.unusedVariables false
set_option linter.unusedSimpArgs false
namespace Go.Proofs.YtnjhpgmbfblgaaaGreat.Ord
open Go.RowKit
set_option maxRecDepth 100000
set_option maxHeartbeats 8000000
theorem refDo75a (w : World) (lim : LimP) (K : Nat) (grace : Int) (ws : List WrR) (es : Edges) (s : KS) (h : KI w lim K grace ws es s) (x : CallR) (p : CallV) (hx : CallOk w lim x p) (hg : CalG x ws es) (hcl : x.cmd.op = 1 ∨ x.cmd.op = 2 ∨ x.cmd.op = 3) :
  Calls Tryz.prog 75 #[ptV K, .agg (callC x p).toArray] w (PostR w lim K grace ws es x) := by
 refine pre75 w lim K grace ws es s h x p hx ?_
 intro Ak At Av ck ct cv vi vn nk nv nt op key life tag pre chi tim cnt ver LX LC C X W2 hp
 have Bb := kp hp
 obtain ⟨hnk, hnv, hnt, hop, hkey, hlife, htag, hpre, hchi, htim, hcnt, hver, Ay, HV, hB, Ai, Bj, Aq, Ag, Am, Ab, Bh, Af, Al, Bg, Aj, Bn, Bm, Bl⟩ := hp
 intros
 conv => arg 2; dsimp only [restR, sndC, Tryz.f75, Option.getD]
 obtain ⟨HH, HG, Bf⟩ := kq3 h hg hcl
 have hw := h.lw
 clear h hx hg hcl
 have d0 := Bh.o _ Ag.o
 go_upto_block 0 with (fail)
 clear d0
 go_cut [15] (fun s15 W' => Hid (∃ ws' es' s', MidS x ws es ws' es' /\ KI W' lim K grace ws' es' s' /\ RowL W' X 52 LX /\ RowL W' C 36 LC /\ Below lim w W'))
 case first =>
  obtain ⟨Bc, Bk, Bi⟩ := kq3 Ai.o.fewE (show ∀ W, KI W lim K grace ws es s -> RowL W X 52 LX -> RowL W C 36 LC -> Below lim w W -> MidS x ws es ws es -> ∃ ws' es' s', MidS x ws es ws' es' /\ KI W lim K grace ws' es' s' /\ RowL W X 52 LX /\ RowL W C 36 LC /\ Below lim w W from fun W a b c d e => ⟨ws, es, s, e, a, b, c, d⟩) (show Below lim w W2 from hB.o.mono hw)
  have x17 := Am.o W2 Aq.o
  have k1 := Af.o W2 Ag.o
  obtain ⟨Ae, Ar, Ad, Be⟩ := kq4 (fun (W : World) (hW : KI W lim K grace ws es s) => d7_ K es key W hW.rdE Bc.o) hop hkey hcnt
  have h123 : op = 1 ∨ op = 2 ∨ op = 3 := Ar.o ▸ Bf.o
  have hit : IsT tim := htim ▸ HG.o.tim
  have hil : IsT life := hlife ▸ HG.o.life
  obtain ⟨d, hd⟩ := eY (addT tim life)
  have hdt : IsT d := hd ▸ gp_ hit hil
  have H146 := kp (fun W => hd ▸ en_ tim life hit hil W)
  have htg := HG.o.tags (by rw [Ar.o]; exact h123)
  have hn16 : nt <= 16 := by rw [<- hnt]; exact htg.1
  obtain ⟨An, Ba, H123, Ah, Bd, H1⟩ := kq6 htg.2 hnt h123 (show newW x = ⟨key, x.cmd.val, x.cmd.tags, d, nev, 0⟩ by unfold newW; rw [Ad.o, htim, hlife, hd]) hdt (Ae.o W2 Ai.o)
  clear hd hdt htg hit hil
  go_step
  go_step
  go_cut [16] (fun s16 W' => s16 = .bool true /\ W' = W2)
  case first =>
   rcases h123 with rfl | rfl | rfl
   all_goals
    go_wp2_with fail
    go_meet
    case rel => exact ⟨rfl, rfl⟩
  obtain ⟨rfl, hwc⟩ := hcut
  subst wc
  go_upto_region 7 with (fail)
  refine H1.o.mono ?_
  rintro e w3 ⟨v, T, rfl, t1, t2, t3, t4⟩
  obtain ⟨A1, c1, rfl⟩ := ax_ t1
  obtain ⟨n1, hn1⟩ := eY T.length
  rw [hn1] at t1 t2 ⊢
  have K3 := kp (Ai.o.below t4)
  obtain ⟨H2, R3, Az⟩ := kq3 (dE_ w3 lim K grace ws es s K3.o A1 n1 c1 W2.heap.size T t1 t2) (show RowL w3 X 52 LX /\ RowL w3 C 36 LC /\ Below lim w w3 from ⟨Aq.o.below t4 Aq.o.lt, Ag.o.below t4 Ag.o.lt, Bi.o.trans (t4.mono Ai.o.lw)⟩) t3
  clear t1 t2 t3 t4 hn1 H1 Ae
  go_upto_region 7 with (fail)
  refine H2.o.mono ?_
  rintro e w4 ⟨rfl, u1, u2⟩
  obtain ⟨K4, R4⟩ := kq2 u1 (show RowL w4 X 52 LX /\ RowL w4 C 36 LC /\ Below lim w w4 from ⟨K3.o.row_kept u2 R3.o.1 (by decide), K3.o.row_kept u2 R3.o.2.1 (by decide), R3.o.2.2.trans (K3.o.below_kept u2)⟩)
  have H145 := kp (jm_ At nt ct lim x.cmd.tags w4 Ba.o hn16 An.o K4.o.lw (Ay.o.below R4.o.2.2 (lR _)))
  have k4 := Bg.o w4 R4.o.2.1
  clear u1 u2 H2 K3 R3
  go_upto_region 8 with (fail)
  refine H145.o.mono ?_
  rintro e w5 ⟨v5, us, rfl, t1, t2, t3, t4⟩
  obtain ⟨A5, c5, rfl⟩ := ax_ t1
  obtain ⟨n5, hn5⟩ := eY us.length
  have hx2 : ∃ ts : List ByteArray, ts.length <= maxLen /\ w5.ownsRow lim 9 1 (.slice A5 us.length c5) ts.length (ts.map Value.string) /\ ∀ t, t ∈ ts ↔ t ∈ x.cmd.tags := ⟨us, by unfold maxLen; omega, bh_ t1 K4.o.lw, t3⟩
  rw [hn5] at hx2 ⊢
  obtain ⟨K5, R5, Ax⟩ := kq3 (K4.o.below t4) (show RowL w5 X 52 LX /\ RowL w5 C 36 LC /\ Below lim w w5 from ⟨R4.o.1.below t4 R4.o.1.lt, R4.o.2.1.below t4 R4.o.2.1.lt, R4.o.2.2.trans (t4.mono K4.o.lw)⟩) hx2
  clear t1 t2 t3 t4 hn5 hx2 H145 K4 R4 k4
  go_upto_region 8 with (fail)
  obtain ⟨n, hn⟩ := eY ((a2_ T ws).length)
  have hnw : n < 5000 := by rw [<- hn]; simpa [a2_] using HG.o.few
  obtain ⟨Aw, cw, hwv⟩ : ∃ Aw cw, s.wv = .slice Aw n cw := by
   rcases K5.o.own.2 with ⟨h1, h2⟩ | ⟨g', cap, cur, h1, _⟩
   ·rw [hn] at h2
    exact ⟨none, 0, by rw [h1, h2]⟩
   rw [hn] at h1
   exact ⟨_, _, h1⟩
  obtain ⟨KD, RD⟩ := kq2 (K5.o.below (ag_ w5 1)) (show RowL w5.drew X 52 LX /\ RowL w5.drew C 36 LC /\ Below lim w w5.drew from ⟨R5.o.1.below (ag_ w5 1) R5.o.1.lt, R5.o.2.1.below (ag_ w5 1) R5.o.2.1.lt, R5.o.2.2.trans ((ag_ w5 1).mono K5.o.lw)⟩)
  have p1 : w5.drew.cell? ⟨K, 1, none⟩ = some (.slice Aw n cw) := hwv ▸ KD.o.row.cell (j := 1) rfl
  have ho : w5.drew.ownsRow lim 233 6 (.slice Aw n cw) n (br_ s.vals (a2_ T ws)) := by have := KD.o.own; rw [hwv, hn] at this; exact this
  have hbA := below1 w5.drew (.cells #[.string key, .slice Av nv cv, .slice A5 n5 c5, .int .u64 d, .int .i64 0, .int .u64 18446744073709551615] 233)
  have p2 := (hbA.cell (p := ⟨K, 1, none⟩) KD.o.row.lt).trans p1
  have hrA := RowL.new w5.drew 233 [.string key, .slice Av nv cv, .slice A5 n5 c5, .int .u64 d, .int .i64 0, .int .u64 18446744073709551615]
  have yy1 := Af.o w5 R5.o.2.1
  have yy3 := Al.o w5 R5.o.2.1
  have y5 := Aj.o w5 R5.o.2.1
  have y22 := Ab.o w5 R5.o.1
  obtain ⟨As, Ap, Au⟩ := kq3 ((Kept.of_below (L := []) hbA).own2 ho (by simp)) (fun (j : Nat) (u : Value) (hj : ([.string key, .slice Av nv cv, .slice A5 n5 c5, .int .u64 d, .int .i64 0, .int .u64 18446744073709551615] : List Value)[j]? = some u) => (show (w5.drew.alloc (.cells #[.string key, .slice Av nv cv, .slice A5 n5 c5, .int .u64 d, .int .i64 0, .int .u64 18446744073709551615] 233)).cell? ((⟨w5.drew.heap.size, 0, none⟩ : Addr).add j) = some u by rw [Addr.add_mid, Nat.zero_add]; exact hrA.cell hj)) (show lim <= (w5.drew.alloc (.cells #[.string key, .slice Av nv cv, .slice A5 n5 c5, .int .u64 d, .int .i64 0, .int .u64 18446744073709551615] 233)).heap.size from lT KD.o.lw hbA.size)
  have hSB : (fun W : World => W.cell? ⟨C, 1, none⟩ = some (.string key) /\ W.cell? ⟨C, 3, none⟩ = some (.slice Av nv cv) /\ W.cell? ⟨C, 5, none⟩ = some (.int .u64 life) /\ W.cell? ⟨X, 22, none⟩ = some (.int .u64 tim)) (w5.drew.alloc (.cells #[.string key, .slice Av nv cv, .slice A5 n5 c5, .int .u64 d, .int .i64 0, .int .u64 18446744073709551615] 233)) := ⟨Af.o _ (RD.o.2.1.alloc _), Al.o _ (RD.o.2.1.alloc _), Aj.o _ (RD.o.2.1.alloc _), Ab.o _ (RD.o.1.alloc _)⟩
  have Ao := kp hSB
  have Ac := kp (fun (v6 : Value) (w6 : World) (hown6 : w6.ownsRow lim 233 6 v6 (n + 1) (br_ s.vals (a2_ T ws) ++ [.string key, .slice Av nv cv, .slice A5 n5 c5, .int .u64 d, .int .i64 0, .int .u64 18446744073709551615])) (hg6 : (w5.drew.alloc (.cells #[.string key, .slice Av nv cv, .slice A5 n5 c5, .int .u64 d, .int .i64 0, .int .u64 18446744073709551615] 233)).grownBy w6 (Value.slice Aw n cw).ownBlock) => (show (fun W : World => W.cell? ⟨C, 1, none⟩ = some (.string key) /\ W.cell? ⟨C, 3, none⟩ = some (.slice Av nv cv) /\ W.cell? ⟨C, 5, none⟩ = some (.int .u64 life) /\ W.cell? ⟨X, 22, none⟩ = some (.int .u64 tim)) w6 /\ w6.cell? ⟨K, 1, none⟩ = some (.slice Aw n cw) /\ w6.frozen? ⟨K, 1, none⟩ = false /\ (fun W : World => W.cell? ⟨C, 1, none⟩ = some (.string key) /\ W.cell? ⟨C, 3, none⟩ = some (.slice Av nv cv) /\ W.cell? ⟨C, 5, none⟩ = some (.int .u64 life) /\ W.cell? ⟨X, 22, none⟩ = some (.int .u64 tim)) (w6.setCell ⟨K, 1, none⟩ v6) /\ ∃ ws' es' s', MidS x ws es ws' es' /\ KI (w6.setCell ⟨K, 1, none⟩ v6) lim K grace ws' es' s' /\ RowL (w6.setCell ⟨K, 1, none⟩ v6) X 52 LX /\ RowL (w6.setCell ⟨K, 1, none⟩ v6) C 36 LC /\ Below lim w (w6.setCell ⟨K, 1, none⟩ v6) by
   have hk6 : Kept s.wv.ownBlock.toList w5.drew w6 := (Kept.of_below hbA).trans (by rw [hwv]; exact aA_ hg6)
   have hr6 := KD.o.row_kept hk6 KD.o.row (by decide)
   have e1 := KD.o.row_kept hk6 RD.o.1 (by decide)
   have e2 := KD.o.row_kept hk6 RD.o.2.1 (by decide)
   obtain ⟨i1, i2⟩ := KD.o.push (x := newW x) (vv := .slice Av nv cv) (vt := .slice A5 n5 c5) (by rw [hn, Ah.o]; exact hown6) hk6 (by rw [Ah.o]; exact HV.o.below RD.o.2.2 (lR _)) (by rw [Ah.o]; obtain ⟨ts, zz1, zz2, zz3⟩ := Ax.o; exact ⟨ts, zz1, (Kept.of_below (L := []) (ag_ w5 1)).own2 zz2 (by simp), zz3⟩) (by rw [Ah.o]; exact ⟨nev_is, Bd.o⟩) (by rw [hn]; exact hnw)
   have f1 := KD.o.row_kept2 i2 RD.o.1 (by decide) (by decide)
   have f2 := KD.o.row_kept2 i2 RD.o.2.1 (by decide) (by decide)
   refine ⟨⟨Af.o _ e2, Al.o _ e2, Aj.o _ e2, Ab.o _ e1⟩, hwv ▸ hr6.cell (j := 1) rfl, hr6.frozen 1, ⟨Af.o _ f2, Al.o _ f2, Aj.o _ f2, Ab.o _ f1⟩, _, _, _, ?_, i1, f1, f2, RD.o.2.2.trans (KD.o.below_kept2 i2)⟩
   unfold MidS
   rw [Ar.o, if_pos H123.o, Ad.o]
   exact ⟨rfl, _, ⟨T, Az.o, rfl⟩, rfl⟩))
  clear ho hbA hrA hwv hn h123 hSB
  refine wp_region_held_drew (S := fun W => W.cell? ⟨C, 1, none⟩ = some (.string key) /\ W.cell? ⟨C, 3, none⟩ = some (.slice Av nv cv) /\ W.cell? ⟨C, 5, none⟩ = some (.int .u64 life) /\ W.cell? ⟨X, 22, none⟩ = some (.int .u64 tim)) (by kernel_rfl) ⟨yy1, yy3, y5, y22⟩ (fun hS => ?_)
  have HS := kp hS
  clear hS
  refine tp 0 rfl rfl HS.o ?_
  simp only [Act.put, z1, z2, z3]
  refine tp 1 rfl rfl HS.o ?_
  simp only [Act.put, z1, z2, z3]
  refine tp 2 rfl rfl HS.o ?_
  simp only [Act.put, z1, z2, z3]
  refine tp 3 rfl rfl HS.o ?_
  simp only [Act.put, z1, z2, z3]
  refine tp 5 rfl rfl HS.o ?_
  simp only [Act.put, z1, z2, z3]
  refine tq 6 ?_ rfl (Or.inl ⟨by rfl, ?_⟩) HS.o ?_
  rotate_left 1
  ·intro w hw; have q := hw.1; go_simp; try with_reducible rfl
  simp only [Act.put, z1, z2, z3]
  refine tp 7 rfl rfl HS.o ?_
  simp only [Act.put, z1, z2, z3]
  refine tq 8 ?_ rfl (Or.inl ⟨by rfl, ?_⟩) HS.o ?_
  rotate_left 1
  ·intro w hw; have q := hw.2.1; go_simp; try with_reducible rfl
  simp only [Act.put, z1, z2, z3]
  refine tp 9 rfl rfl HS.o ?_
  simp only [Act.put, z1, z2, z3]
  refine tp 10 rfl rfl HS.o ?_
  simp only [Act.put, z1, z2, z3]
  refine tq 11 ?_ rfl (Or.inl ⟨by rfl, ?_⟩) HS.o ?_
  rotate_left 1
  ·intro w hw; have q := hw.2.2.2; go_simp; try with_reducible rfl
  simp only [Act.put, z1, z2, z3]
  refine tp 12 rfl rfl HS.o ?_
  simp only [Act.put, z1, z2, z3]
  refine tq 13 ?_ rfl (Or.inl ⟨by rfl, ?_⟩) HS.o ?_
  rotate_left 1
  ·intro w hw; have q := hw.2.2.1; go_simp; try with_reducible rfl
  simp only [Act.put, z1, z2, z3]
  refine wpAnyH_ready (rs := [4, 14]) (by kernel_rfl) (by simp) ?_
  refine aQ rfl (fun KK hK => ?_) (aQ rfl (fun KK hK => ?_) (AllReadyH.nil))
  ·
   have q := p1
   with_reducible refine aw_ rfl (w' := w5.drew) (.slice Aw n cw) ?_ ?_
   ·go_simp; try with_reducible rfl
   have hS := HS.o
   refine hK.o _ _ hS (fun _ => ?_)
   clear hK KK HS
   have HS := kp hS
   clear hS
   try simp only [Act.put, z1, z2, z3]
   refine oQ 14 rfl (fun KK hK => ?_)
   with_reducible refine ao_ rfl 146 _ _ rfl #[.int .u64 tim, .int .u64 life] ?_ Tryz.f146 Tryz.func146 n146 b146 (fun u w6 => u = .int .u64 d /\ w6 = w5.drew) ?_ ?_
   ·simp only [y1, y2, y3]; rfl
   ·exact (H146.o _).mono fun e w' ⟨h1, h2⟩ => ⟨_, h1, rfl, h2⟩
   rintro u w6 ⟨rfl, rfl⟩
   have hS := HS.o
   refine hK.o _ _ hS (fun _ => ?_)
   clear hK KK HS
   have HS := kp hS
   clear hS
   try simp only [Act.put, z1, z2, z3]
   refine tp 15 rfl rfl HS.o ?_
   simp only [Act.put, z1, z2, z3]
   refine oQ 16 rfl (fun KK hK => ?_)
   with_reducible refine aZ_ rfl 142 _ rfl 233 (.agg #[.string ⟨#[]⟩, .slice none 0 0, .slice none 0 0, .int .u64 0, .int .i64 0, .int .u64 0]) 6 88 (.agg #[.string key, .slice Av nv cv, .slice A5 n5 c5, .int .u64 d, .int .i64 0, .int .u64 18446744073709551615]) #[.string key, .slice Av nv cv, .slice A5 n5 c5, .int .u64 d, .int .i64 0, .int .u64 18446744073709551615] cF_ ca_ (by decide) (by decide) ?_ rfl rfl ?_
   ·rfl
   have hS := Ao.o
   refine hK.o _ _ hS (fun _ => ?_)
   clear hK KK HS
   have HS := kp hS
   clear hS
   try simp only [Act.put, z1, z2, z3]
   refine oQ 17 rfl (fun KK hK => ?_)
   with_reducible refine a4_ rfl _ _ 142 rfl lim 233 (.agg #[.string ⟨#[]⟩, .slice none 0 0, .slice none 0 0, .int .u64 0, .int .i64 0, .int .u64 0]) 6 88 cF_ ca_ ?_ ?_ (.slice Aw n cw) n (br_ s.vals (a2_ T ws)) ?_ ?_ ⟨w5.drew.heap.size, 0, none⟩ 1 1 [.string key, .slice Av nv cv, .slice A5 n5 c5, .int .u64 d, .int .i64 0, .int .u64 18446744073709551615] ?_ ?_ ?_ ?_ ?_ ?_ ?_ ?_
   ·rfl
   ·decide
   ·rfl
   ·exact As.o
   ·rfl
   ·rfl
   ·exact Ap.o
   ·intro u hu; simp only [List.mem_cons, List.not_mem_nil, or_false] at hu; rcases hu with rfl | rfl | rfl | rfl | rfl | rfl <;> rfl
   ·unfold maxLen; omega
   ·omega
   ·exact Au.o
   intro v6 w6 hown6 hg6 _
   have Aa := kp (Ac.o v6 w6 hown6 hg6)
   obtain ⟨A6, c6, rfl⟩ := bO_ hown6
   have hS := Aa.o.1
   refine hK.o _ _ hS (fun _ => ?_)
   clear hK KK HS
   have HS := kp hS
   clear hS
   try simp only [Act.put, z1, z2, z3]
   refine tp 18 rfl rfl HS.o ?_
   simp only [Act.put, z1, z2, z3]
   refine tp 19 rfl rfl HS.o ?_
   simp only [Act.put, z1, z2, z3]
   refine oQ 20 rfl (fun KK hK => ?_)
   have q1 := Aa.o.2.1
   have q2 := Aa.o.2.2.1
   have hS := Aa.o.2.2.2.1
   with_reducible refine da_ rfl (w' := w6.setCell ⟨K, 1, none⟩ (.slice A6 (n + 1) c6)) ?_ ?_
   ·go_simp; try with_reducible rfl
   refine hK.o _ _ hS (fun _ => ?_)
   clear hK KK HS
   have HS := kp hS
   clear hS
   try simp only [Act.put, z1, z2, z3]
   refine wpAnyH_done (by kernel_rfl) ?_ _
   go_wp2_with fail
   go_meet
   case rel => exact kp Aa.o.2.2.2.2
  ·
   with_reducible refine ao_ rfl 146 _ _ rfl #[.int .u64 tim, .int .u64 life] ?_ Tryz.f146 Tryz.func146 n146 b146 (fun u w6 => u = .int .u64 d /\ w6 = w5.drew) ?_ ?_
   ·simp only [y1, y2, y3]; rfl
   ·exact (H146.o _).mono fun e w' ⟨h1, h2⟩ => ⟨_, h1, rfl, h2⟩
   rintro u w6 ⟨rfl, rfl⟩
   have hS := HS.o
   refine hK.o _ _ hS (fun _ => ?_)
   clear hK KK HS
   have HS := kp hS
   clear hS
   try simp only [Act.put, z1, z2, z3]
   refine tp 15 rfl rfl HS.o ?_
   simp only [Act.put, z1, z2, z3]
   refine wpAnyH_ready (rs := [4, 16]) (by kernel_rfl) (by simp) ?_
   refine aQ rfl (fun KK hK => ?_) (aQ rfl (fun KK hK => ?_) (AllReadyH.nil))
   ·
    have q := p1
    with_reducible refine aw_ rfl (w' := w5.drew) (.slice Aw n cw) ?_ ?_
    ·go_simp; try with_reducible rfl
    have hS := HS.o
    refine hK.o _ _ hS (fun _ => ?_)
    clear hK KK HS
    have HS := kp hS
    clear hS
    try simp only [Act.put, z1, z2, z3]
    refine oQ 16 rfl (fun KK hK => ?_)
    with_reducible refine aZ_ rfl 142 _ rfl 233 (.agg #[.string ⟨#[]⟩, .slice none 0 0, .slice none 0 0, .int .u64 0, .int .i64 0, .int .u64 0]) 6 88 (.agg #[.string key, .slice Av nv cv, .slice A5 n5 c5, .int .u64 d, .int .i64 0, .int .u64 18446744073709551615]) #[.string key, .slice Av nv cv, .slice A5 n5 c5, .int .u64 d, .int .i64 0, .int .u64 18446744073709551615] cF_ ca_ (by decide) (by decide) ?_ rfl rfl ?_
    ·rfl
    have hS := Ao.o
    refine hK.o _ _ hS (fun _ => ?_)
    clear hK KK HS
    have HS := kp hS
    clear hS
    try simp only [Act.put, z1, z2, z3]
    refine oQ 17 rfl (fun KK hK => ?_)
    with_reducible refine a4_ rfl _ _ 142 rfl lim 233 (.agg #[.string ⟨#[]⟩, .slice none 0 0, .slice none 0 0, .int .u64 0, .int .i64 0, .int .u64 0]) 6 88 cF_ ca_ ?_ ?_ (.slice Aw n cw) n (br_ s.vals (a2_ T ws)) ?_ ?_ ⟨w5.drew.heap.size, 0, none⟩ 1 1 [.string key, .slice Av nv cv, .slice A5 n5 c5, .int .u64 d, .int .i64 0, .int .u64 18446744073709551615] ?_ ?_ ?_ ?_ ?_ ?_ ?_ ?_
    ·rfl
    ·decide
    ·rfl
    ·exact As.o
    ·rfl
    ·rfl
    ·exact Ap.o
    ·intro u hu; simp only [List.mem_cons, List.not_mem_nil, or_false] at hu; rcases hu with rfl | rfl | rfl | rfl | rfl | rfl <;> rfl
    ·unfold maxLen; omega
    ·omega
    ·exact Au.o
    intro v6 w6 hown6 hg6 _
    have Aa := kp (Ac.o v6 w6 hown6 hg6)
    obtain ⟨A6, c6, rfl⟩ := bO_ hown6
    have hS := Aa.o.1
    refine hK.o _ _ hS (fun _ => ?_)
    clear hK KK HS
    have HS := kp hS
    clear hS
    try simp only [Act.put, z1, z2, z3]
    refine tp 18 rfl rfl HS.o ?_
    simp only [Act.put, z1, z2, z3]
    refine tp 19 rfl rfl HS.o ?_
    simp only [Act.put, z1, z2, z3]
    refine oQ 20 rfl (fun KK hK => ?_)
    have q1 := Aa.o.2.1
    have q2 := Aa.o.2.2.1
    have hS := Aa.o.2.2.2.1
    with_reducible refine da_ rfl (w' := w6.setCell ⟨K, 1, none⟩ (.slice A6 (n + 1) c6)) ?_ ?_
    ·go_simp; try with_reducible rfl
    refine hK.o _ _ hS (fun _ => ?_)
    clear hK KK HS
    have HS := kp hS
    clear hS
    try simp only [Act.put, z1, z2, z3]
    refine wpAnyH_done (by kernel_rfl) ?_ _
    go_wp2_with fail
    go_meet
    case rel => exact kp Aa.o.2.2.2.2
   ·
    with_reducible refine aZ_ rfl 142 _ rfl 233 (.agg #[.string ⟨#[]⟩, .slice none 0 0, .slice none 0 0, .int .u64 0, .int .i64 0, .int .u64 0]) 6 88 (.agg #[.string key, .slice Av nv cv, .slice A5 n5 c5, .int .u64 d, .int .i64 0, .int .u64 18446744073709551615]) #[.string key, .slice Av nv cv, .slice A5 n5 c5, .int .u64 d, .int .i64 0, .int .u64 18446744073709551615] cF_ ca_ (by decide) (by decide) ?_ rfl rfl ?_
    ·rfl
    have hS := Ao.o
    refine hK.o _ _ hS (fun _ => ?_)
    clear hK KK HS
    have HS := kp hS
    clear hS
    try simp only [Act.put, z1, z2, z3]
    refine oQ 4 rfl (fun KK hK => ?_)
    have q : (w5.alloc (.cells #[.string key, .slice Av nv cv, .slice A5 n5 c5, .int .u64 d, .int .i64 0, .int .u64 18446744073709551615] 233)).cell? ⟨K, 1, none⟩ = some (.slice Aw n cw) := p2
    with_reducible refine aw_ rfl (w' := w5.drew.alloc (.cells #[.string key, .slice Av nv cv, .slice A5 n5 c5, .int .u64 d, .int .i64 0, .int .u64 18446744073709551615] 233)) (.slice Aw n cw) ?_ ?_
    ·go_simp; try with_reducible rfl
    have hS := HS.o
    refine hK.o _ _ hS (fun _ => ?_)
    clear hK KK HS
    have HS := kp hS
    clear hS
    try simp only [Act.put, z1, z2, z3]
    refine oQ 17 rfl (fun KK hK => ?_)
    with_reducible refine a4_ rfl _ _ 142 rfl lim 233 (.agg #[.string ⟨#[]⟩, .slice none 0 0, .slice none 0 0, .int .u64 0, .int .i64 0, .int .u64 0]) 6 88 cF_ ca_ ?_ ?_ (.slice Aw n cw) n (br_ s.vals (a2_ T ws)) ?_ ?_ ⟨w5.drew.heap.size, 0, none⟩ 1 1 [.string key, .slice Av nv cv, .slice A5 n5 c5, .int .u64 d, .int .i64 0, .int .u64 18446744073709551615] ?_ ?_ ?_ ?_ ?_ ?_ ?_ ?_
    ·rfl
    ·decide
    ·rfl
    ·exact As.o
    ·rfl
    ·rfl
    ·exact Ap.o
    ·intro u hu; simp only [List.mem_cons, List.not_mem_nil, or_false] at hu; rcases hu with rfl | rfl | rfl | rfl | rfl | rfl <;> rfl
    ·unfold maxLen; omega
    ·omega
    ·exact Au.o
    intro v6 w6 hown6 hg6 _
    have Aa := kp (Ac.o v6 w6 hown6 hg6)
    obtain ⟨A6, c6, rfl⟩ := bO_ hown6
    have hS := Aa.o.1
    refine hK.o _ _ hS (fun _ => ?_)
    clear hK KK HS
    have HS := kp hS
    clear hS
    try simp only [Act.put, z1, z2, z3]
    refine tp 18 rfl rfl HS.o ?_
    simp only [Act.put, z1, z2, z3]
    refine tp 19 rfl rfl HS.o ?_
    simp only [Act.put, z1, z2, z3]
    refine oQ 20 rfl (fun KK hK => ?_)
    have q1 := Aa.o.2.1
    have q2 := Aa.o.2.2.1
    have hS := Aa.o.2.2.2.1
    with_reducible refine da_ rfl (w' := w6.setCell ⟨K, 1, none⟩ (.slice A6 (n + 1) c6)) ?_ ?_
    ·go_simp; try with_reducible rfl
    refine hK.o _ _ hS (fun _ => ?_)
    clear hK KK HS
    have HS := kp hS
    clear hS
    try simp only [Act.put, z1, z2, z3]
    refine wpAnyH_done (by kernel_rfl) ?_ _
    go_wp2_with fail
    go_meet
    case rel => exact kp Aa.o.2.2.2.2
 refine (by assumption : ∀ (a : Act) (w1 : World), Code.wp Tryz.prog tailR (bodyPost Tryz.prog Tryz.f75 (PostR w lim K grace ws es x)) a w1 -> _) _ _ ?_
 exact tail75 w wc lim K grace ws es s x _ _ _ _ _ _ _ _ _ _ _ _ _ _ _ _ _ _ _ _ _ _ _ _ _ Bb.o HG.o hcut _ _ _ _ _ _ _ _ _ _ _ _ _ _ _ _ _ _ _ _ _ _ _ _ _ _ _ _ _ _ _ _ _ _ _ _ _ _ _ _ _ _ _ _ _ _ _ _ _ _ _ _ _ _ _ _ _ _ _ _ _ _ _ _ _ _ _ _ _ _ _ _ _ _ _ _ _ _ _ _ _ _ _ _ _ _ _ _ _ _ _ _ _ _ _ _ _ _ _ _ _ _ _ _ _ _ _ _ _ _ _ _ _ _ _ _ _ _ _ _ _ _ _ _ _ _ _ _ _ _ _ _ _ _ _ _ _ _ _ _ _ _ _ _ _ _ _ _ _ _ _ _ _ _ _ _ _ _ _ _ _ _ _ _ _ _ _ _ _ _ _ _ _ _ _ _ _ _ _ _ _ _ _ _ _ _ _ _ _ _ _ _ _ _ _ _ _ _ _ _ _ _ _ _ _ _ _ _ _ _
end Go.Proofs.YtnjhpgmbfblgaaaGreat.Ord
