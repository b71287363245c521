/- Walk of the reference's Do: touch, delete, invalidate; Walk of the reference's Do: the. -/
import Derived.Test.YtnjhpgmbfblgaaaGreatMU79
import Derived.Test.YtnjhpgmbfblgaaaGreatU23
set_option linter.unusedVariables false
set_option linter.unusedSimpArgs false
namespace Go.Proofs.YtnjhpgmbfblgaaaGreat.Ord
open Go.RowKit
set_option maxRecDepth 100000
set_option maxHeartbeats 8000000
theorem refDo75b (w : World) (lim : LimP) (K : Nat) (grace : Int) (ws : List WrR) (es : Edges) (s : KS) (h : KI w lim K grace ws es s) (x : CallR) (p : CallV) (hx : CallOk w lim x p) (hg : CalG x ws es) (hcl : x.cmd.op = 6 ∨ x.cmd.op = 7 ∨ x.cmd.op = 13) :
  Calls Tryz.prog 75 #[ptV K, .agg (callC x p).toArray] w (PostR w lim K grace ws es x) := by
 refine pre75 w lim K grace ws es s h x p hx ?_
 intro Ak At Av ck ct cv vi vn nk nv nt op key life tag pre chi tim cnt ver LX LC C X W2 hp
 have Ao := kp hp
 obtain ⟨hnk, hnv, hnt, hop, hkey, hlife, htag, hpre, hchi, htim, hcnt, hver, Aw, HV, hB, Aa, Au, Ad, Ac, Aj, Ai, As, Ar, Bb, Ba, Aq, Az, Ay, Ax⟩ := hp
 intros
 conv => arg 2; dsimp only [restR, sndC, Tryz.f75, Option.getD]
 obtain ⟨HH, HG, Am⟩ := kq3 h hg hcl
 have hw := h.lw
 clear h hx hg hcl
 have d0 := As.o _ Ac.o
 go_upto_block 0 with (fail)
 clear d0
 go_cut [15] (fun s15 W' => Hid (∃ ws' es' s', MidS x ws es ws' es' /\ KI W' lim K grace ws' es' s' /\ RowL W' X 52 LX /\ RowL W' C 36 LC /\ Below lim w W'))
 case first =>
  obtain ⟨Ap, An, Ah⟩ := kq3 Aa.o.fewE (show ∀ W, KI W lim K grace ws es s -> RowL W X 52 LX -> RowL W C 36 LC -> Below lim w W -> MidS x ws es ws es -> ∃ ws' es' s', MidS x ws es ws' es' /\ KI W lim K grace ws' es' s' /\ RowL W X 52 LX /\ RowL W C 36 LC /\ Below lim w W from fun W a b c d e => ⟨ws, es, s, e, a, b, c, d⟩) (show Below lim w W2 from hB.o.mono hw)
  have x17 := Aj.o W2 Ad.o
  have k1 := Ar.o W2 Ac.o
  obtain ⟨Ag, Ae, Af, Ab⟩ := kq4 (fun (W : World) (hW : KI W lim K grace ws es s) => d7_ K es key W hW.rdE Ap.o) hop hkey hcnt
  have h123 : ¬ (op = 1 ∨ op = 2 ∨ op = 3) := by have := Am.o; rw [Ae.o] at this; omega
  have h1112 : ¬ (op = 11 ∨ op = 12) := by have := Am.o; rw [Ae.o] at this; omega
  by_cases h6 : op = 6
  ·subst h6
   by_cases hc1 : cnt = 1
   ·subst hc1
    obtain ⟨i, hi⟩ := HG.o.there Ae.o Ab.o
    obtain ⟨y, hy, -⟩ := bD_ ws _ i hi
    have hto := gw_ (d := addT tim life) hi hy
    rw [Af.o] at hi hto
    have H87 := kp (hi ▸ em_ K grace ws key W2.heap.size W2 Aa.o.rd)
    have hit : IsT tim := htim ▸ HG.o.tim
    have hil : IsT life := hlife ▸ HG.o.life
    obtain ⟨d, hd⟩ := eY (addT tim life)
    rw [hd] at hto
    have hdt : IsT d := hd ▸ gp_ hit hil
    have H146 := kp (fun W => hd ▸ en_ tim life hit hil W)
    obtain ⟨n, hn⟩ := eY ws.length
    have hlt : i < n := by rw [<- hn]; exact (gS.1 hy).1
    have hn5 : n <= 5000 := by rw [<- hn]; exact Aa.o.few
    have ho := Aa.o.own
    obtain ⟨g, cg, hwv⟩ : ∃ g cg, s.wv = .slice (some ⟨g, 0, none⟩) n cg := by
     rcases ho.2 with ⟨_, h2⟩ | ⟨g', cap, cur, h1, _⟩
     ·omega
     exact ⟨g', cap, by rw [h1, hn]⟩
    have w1c : W2.cell? ⟨K, 1, none⟩ = some s.wv := Aa.o.row.cell (j := 1) rfl
    rw [hwv] at w1c
    rw [hwv, hn] at ho
    have zz3 := ho.frozenAt (i * 6 + 3)
    have e3 : W2.cell? ⟨g, i * 6 + 3, none⟩ = some (.int .u64 y.dl) := by
     rw [ho.cellAt (i * 6 + 3) (by omega), bo_ hy (by omega)]
     rfl
    have x22 := Ai.o W2 Ad.o
    have k5 := Aq.o W2 Ac.o
    have hyt := Aa.o.times y (mG hy)
    obtain ⟨u1, u2, u3⟩ := Aa.o.set (j := 3) (v := .int .u64 d) hwv hy (by omega) (x' := { y with dl := d }) rfl ⟨rfl, rfl, hyt.1, hdt⟩
    have hKg : Kept s.wv.ownBlock.toList W2 (W2.setCell ⟨g, i * 6 + 3, none⟩ (.int .u64 d)) := u2.mono fun p hp => by rw [hwv]; simpa [Value.ownBlock] using hp
    have HP := kp (show ∃ ws' es' s', MidS x ws es ws' es' /\ KI (W2.setCell ⟨g, i * 6 + 3, none⟩ (.int .u64 d)) lim K grace ws' es' s' /\ RowL (W2.setCell ⟨g, i * 6 + 3, none⟩ (.int .u64 d)) X 52 LX /\ RowL (W2.setCell ⟨g, i * 6 + 3, none⟩ (.int .u64 d)) C 36 LC /\ Below lim w (W2.setCell ⟨g, i * 6 + 3, none⟩ (.int .u64 d)) from ⟨_, es, s, by unfold MidS; rw [Ae.o, Af.o, Ab.o, htim, hlife, hd, if_neg (by omega), if_pos rfl, if_pos rfl]; exact ⟨rfl, hto.symm⟩, u1, Aa.o.row_kept hKg Ad.o (by decide), Aa.o.row_kept hKg Ac.o (by decide), Ah.o.trans (Aa.o.below_kept hKg)⟩)
    have hi1 : (i : Int) < (n : Int) := by omega
    have hmx : n <= 9223372036854775807 := by omega
    have hlN : jG_ (some i) = (i : Int) := rfl
    rw [hlN] at H87
    clear hi hy hto hd hdt hit hil ho u1 u2 u3 hKg hyt hlN hwv
    go_wp2_with fail
    refine H87.o.mono ?_
    rintro e w3 ⟨rfl, hw3⟩
    subst hw3
    clear H87
    go_wp2_with fail
    go_region_law ((with_reducible refine ao_ (o := ⟨some 71, _, _, _, _, _⟩) rfl 146 _ _ rfl #[.int .u64 tim, .int .u64 life] ?_ Tryz.f146 Tryz.func146 n146 b146 (fun u w6 => u = .int .u64 d /\ w6 = w3.drew) ?_ ?_); (· simp only [y1, y2, y3]; rfl); (· exact (H146.o _).mono fun e w' ⟨h1, h2⟩ => ⟨_, h1, rfl, h2⟩); rintro u w6 ⟨rfl, rfl⟩)
    all_goals
     go_wp2_with fail
     go_meet
     case rel =>
      obtain ⟨a1, a2, a3, a4, a5, a6, a7, a8⟩ := HP.o
      exact kp ⟨a1, a2, a3, a4, a5.below (ag_ _ 1), a6.below (ag_ _ 1) a6.lt, a7.below (ag_ _ 1) a7.lt, a8.trans ((ag_ _ 1).mono a5.lw)⟩
   have gc : (cnt == 1) = false := by simpa using hc1
   have H87 := kp (em_ K grace ws key W2.heap.size W2 Aa.o.rd)
   obtain ⟨li, hli⟩ := eY (jG_ (aN_ ws key))
   rw [hli] at H87
   have HP := kp (An.o W2 Aa.o Ad.o Ac.o Ah.o (by unfold MidS; rw [Ae.o, Ab.o]; simp [hc1]))
   clear hc1 hli
   go_wp2_with fail
   refine H87.o.mono ?_
   rintro e w3 ⟨rfl, hw3⟩
   subst hw3
   clear H87
   go_wp2_with fail
   go_meet
   case rel => exact HP
  by_cases h7 : op = 7
  ·subst h7
   by_cases hc1 : cnt = 1
   ·subst hc1
    have H1 := kp (Ag.o W2 Aa.o)
    go_wp2_with fail
    refine H1.o.mono ?_
    rintro e w3 ⟨v, T, rfl, t1, t2, t3, t4⟩
    obtain ⟨A1, c1, rfl⟩ := ax_ t1
    obtain ⟨n1, hn1⟩ := eY T.length
    rw [hn1] at t1 t2 ⊢
    have K3 := kp (Aa.o.below t4)
    obtain ⟨H2, R3, Al⟩ := kq3 (dE_ w3 lim K grace ws es s K3.o A1 n1 c1 W2.heap.size T t1 t2) (show RowL w3 X 52 LX /\ RowL w3 C 36 LC /\ Below lim w w3 from ⟨Ad.o.below t4 Ad.o.lt, Ac.o.below t4 Ac.o.lt, Ah.o.trans (t4.mono Aa.o.lw)⟩) t3
    clear t1 t2 t3 t4 hn1 H1 Ag
    go_wp2_with fail
    refine H2.o.mono ?_
    rintro e w4 ⟨rfl, u1, u2⟩
    have HP := kp (show ∃ ws' es' s', MidS x ws es ws' es' /\ KI w4 lim K grace ws' es' s' /\ RowL w4 X 52 LX /\ RowL w4 C 36 LC /\ Below lim w w4 from ⟨a2_ T ws, es, s, by unfold MidS; rw [Ae.o, Af.o]; simp [Ab.o]; exact ⟨T, Al.o, rfl⟩, u1, K3.o.row_kept u2 R3.o.1 (by decide), K3.o.row_kept u2 R3.o.2.1 (by decide), R3.o.2.2.trans (K3.o.below_kept u2)⟩)
    clear u1 u2 H2
    go_wp2_with fail
    go_meet
    case rel => exact HP
   have gc : (cnt == 1) = false := by simpa using hc1
   have HP := kp (An.o W2 Aa.o Ad.o Ac.o Ah.o (by unfold MidS; rw [Ae.o, Ab.o]; simp [hc1]))
   clear hc1
   go_wp2_with fail
   go_meet
   case rel => exact HP
  by_cases h13 : op = 13
  ·subst h13
   have H1 := kp (Ag.o W2 Aa.o)
   go_wp2_with fail
   refine H1.o.mono ?_
   rintro e w3 ⟨v, T, rfl, t1, t2, t3, t4⟩
   obtain ⟨A1, c1, rfl⟩ := ax_ t1
   obtain ⟨n1, hn1⟩ := eY T.length
   rw [hn1] at t1 t2 ⊢
   have K3 := kp (Aa.o.below t4)
   obtain ⟨H2, R3, Al⟩ := kq3 (dE_ w3 lim K grace ws es s K3.o A1 n1 c1 W2.heap.size T t1 t2) (show RowL w3 X 52 LX /\ RowL w3 C 36 LC /\ Below lim w w3 from ⟨Ad.o.below t4 Ad.o.lt, Ac.o.below t4 Ac.o.lt, Ah.o.trans (t4.mono Aa.o.lw)⟩) t3
   clear t1 t2 t3 t4 hn1 H1 Ag
   go_wp2_with fail
   refine H2.o.mono ?_
   rintro e w4 ⟨rfl, u1, u2⟩
   have HP := kp (show ∃ ws' es' s', MidS x ws es ws' es' /\ KI w4 lim K grace ws' es' s' /\ RowL w4 X 52 LX /\ RowL w4 C 36 LC /\ Below lim w w4 from ⟨a2_ T ws, es, s, by unfold MidS; rw [Ae.o, Af.o]; simp; exact ⟨T, Al.o, rfl⟩, u1, K3.o.row_kept u2 R3.o.1 (by decide), K3.o.row_kept u2 R3.o.2.1 (by decide), R3.o.2.2.trans (K3.o.below_kept u2)⟩)
   clear u1 u2 H2
   go_wp2_with fail
   go_meet
   case rel => exact HP
  exact absurd (Ae.o ▸ Am.o) (by omega)
 refine (by assumption : ∀ (a : Act) (w1 : World), Code.wp Tryz.prog tailR (bodyPost Tryz.prog Tryz.f75 (PostR w lim K grace ws es x)) a w1 -> _) _ _ ?_
 exact tail75 w wc lim K grace ws es s x _ _ _ _ _ _ _ _ _ _ _ _ _ _ _ _ _ _ _ _ _ _ _ _ _ Ao.o HG.o hcut _ _ _ _ _ _ _ _ _ _ _ _ _ _ _ _ _ _ _ _ _ _ _ _ _ _ _ _ _ _ _ _ _ _ _ _ _ _ _ _ _ _ _ _ _ _ _ _ _ _ _ _ _ _ _ _ _ _ _ _ _ _ _ _ _ _ _ _ _ _ _ _ _ _ _ _ _ _ _ _ _ _ _ _ _ _ _ _ _ _ _ _ _ _ _ _ _ _ _ _ _ _ _ _ _ _ _ _ _ _ _ _ _ _ _ _ _ _ _ _ _ _ _ _ _ _ _ _ _ _ _ _ _ _ _ _ _ _ _ _ _ _ _ _ _ _ _ _ _ _ _ _ _ _ _ _ _ _ _ _ _ _ _ _ _ _ _ _ _ _ _ _ _ _ _ _ _ _ _ _ _ _ _ _ _ _ _ _ _ _ _ _ _ _ _ _ _ _ _ _ _ _ _ _ _ _ _ _ _ _
theorem refDo75c (w : World) (lim : LimP) (K : Nat) (grace : Int) (ws : List WrR) (es : Edges) (s : KS) (h : KI w lim K grace ws es s) (x : CallR) (p : CallV) (hx : CallOk w lim x p) (hg : CalG x ws es) (hcl : x.cmd.op = 11 ∨ x.cmd.op = 12) :
  Calls Tryz.prog 75 #[ptV K, .agg (callC x p).toArray] w (PostR w lim K grace ws es x) := by
 refine pre75 w lim K grace ws es s h x p hx ?_
 intro Ak At Av ck ct cv vi vn nk nv nt op key life tag pre chi tim cnt ver LX LC C X W2 hp
 have Ax := kp hp
 obtain ⟨hnk, hnv, hnt, hop, hkey, hlife, htag, hpre, hchi, htim, hcnt, hver, Bf, HV, hB, Af, Be, Am, Ab, Aj, Au, As, Ar, Bl, Bk, Bj, Bi, Bh, Bb⟩ := hp
 intros
 conv => arg 2; dsimp only [restR, sndC, Tryz.f75, Option.getD]
 obtain ⟨HH, HG, Ba⟩ := kq3 h hg hcl
 have hw := h.lw
 clear h hx hg hcl
 have d0 := As.o _ Ab.o
 go_upto_block 0 with (fail)
 clear d0
 go_cut [15] (fun s15 W' => Hid (∃ ws' es' s', MidS x ws es ws' es' /\ KI W' lim K grace ws' es' s' /\ RowL W' X 52 LX /\ RowL W' C 36 LC /\ Below lim w W'))
 case first =>
  obtain ⟨Ay, Bg, Bd⟩ := kq3 Af.o.fewE (show ∀ W, KI W lim K grace ws es s -> RowL W X 52 LX -> RowL W C 36 LC -> Below lim w W -> MidS x ws es ws es -> ∃ ws' es' s', MidS x ws es ws' es' /\ KI W lim K grace ws' es' s' /\ RowL W X 52 LX /\ RowL W C 36 LC /\ Below lim w W from fun W a b c d e => ⟨ws, es, s, e, a, b, c, d⟩) (show Below lim w W2 from hB.o.mono hw)
  have x17 := Aj.o W2 Am.o
  have k1 := Ar.o W2 Ab.o
  obtain ⟨Bc, Ah, Ac, Az⟩ := kq4 (fun (W : World) (hW : KI W lim K grace ws es s) => d7_ K es key W hW.rdE Ay.o) hop hkey hcnt
  have h1112 : op = 11 ∨ op = 12 := Ah.o ▸ Ba.o
  have g1 : (op == 1) = false := by simp; omega
  have g2 : (op == 2) = false := by simp; omega
  have g3 : (op == 3) = false := by simp; omega
  have g6 : (op == 6) = false := by simp; omega
  have g7 : (op == 7) = false := by simp; omega
  have g13 : (op == 13) = false := by simp; omega
  rcases h1112 with rfl | rfl
  all_goals
   obtain ⟨m, hm⟩ := eY es.length
   have hm5 : m < 5000 := by rw [<- hm]; exact HG.o.fewE
   have HM := kp hm
   have Aw := kp Af.o.rdE
   have Aa := kp (fun (W : World) (v' : Value) (hB : Below W2.heap.size W2 W) (ho : W.ownsRow W2.heap.size 239 2 v' (depE x es).length (bE_ (depE x es))) => (show W.cell? ⟨K, 2, none⟩ = some s.ev /\ W.frozen? ⟨K, 2, none⟩ = false /\ ∃ ws' es' s', MidS x ws es ws' es' /\ KI (W.setCell ⟨K, 2, none⟩ v') lim K grace ws' es' s' /\ RowL (W.setCell ⟨K, 2, none⟩ v') X 52 LX /\ RowL (W.setCell ⟨K, 2, none⟩ v') C 36 LC /\ Below lim w (W.setCell ⟨K, 2, none⟩ v') by
    have K2 := Af.o.below hB
    obtain ⟨i1, i2⟩ := K2.setE ho Af.o.lw (gm_ HG.o.fewE)
    have hb2 : Below lim w W := Bd.o.trans (hB.mono Af.o.lw)
    have e1 := Am.o.below hB Am.o.lt
    have e2 := Ab.o.below hB Ab.o.lt
    refine ⟨K2.row.cell (j := 2) rfl, K2.row.frozen 2, ws, _, _, ?_, i1, i2.row (by simpa using e1.ne K2.row (by decide)) e1, i2.row (by simpa using e2.ne K2.row (by decide)) e2, hb2.trans (i2.below K2.lw fun b hb => by simp at hb; subst hb; exact K2.lK)⟩
    unfold MidS
    rw [Ah.o, if_neg (by omega), if_neg (by omega), if_neg (by omega), if_pos (by omega)]
    exact ⟨rfl, rfl⟩))
   have Ag := kp hchi
   obtain ⟨B0, hB0⟩ := eY W2.heap.size
   have Aq := kp hB0
   rw [hB0] at Aa
   clear hm hB0
   go_wp2_with fail
   go_loopw [8, 9] (fun s8 s9 wr => ∃ (i n c : Nat) (A : Option Addr), i <= m /\ n <= i /\ s8 = .slice A n c /\ s9 = .int .i64 i /\ Hid ((bG_ key chi (es.take i)).length = n) /\ Hid (wr.ownsRow B0 239 2 (.slice A n c) n (bE_ (bG_ key chi (es.take i)))) /\ Hid (Below B0 W2 wr)) (fun _ j _ => m - (intOf j).toNat)
   case atStart => exact ⟨0, 0, 0, none, Nat.zero_le _, lR _, rfl, by go_num, kp rfl, kp ⟨by simp [bE_, bG_], .inl ⟨rfl, rfl⟩⟩, kp (BR _ _)⟩
   case' round =>
    obtain ⟨i, n, c, A, hi, hn, rfl, rfl, HN, HO, HB⟩ := hrel
    have hmx : m <= 9223372036854775807 := by omega
    have hBs : B0 <= W2.heap.size := Nat.le_of_eq Aq.o.symm
    obtain ⟨-, Ae, ce, e1, hel⟩ := Aw.o.below HB.o (Nat.le_of_eq Aq.o)
    rw [HM.o] at e1
    have r2 := Ab.o.below HB.o (Aq.o ▸ Ab.o.lt)
    have k1 := Ar.o wr r2
    have k9 := Bb.o wr r2
    by_cases hlt : i < m
    ·obtain ⟨⟨a, b⟩, hx⟩ : ∃ x, es[i]? = some x := ⟨es[i]'(by rw [HM.o]; exact hlt), gE _⟩
     obtain ⟨be, rfl, hbB, e2, e3⟩ := hel i _ hx
     dsimp only at e2 e3
     have hg : decide ((i : Int) < (m : Int)) = true := eT_ (by omega)
     have hi1 : (i : Int) < (m : Int) := by omega
     obtain ⟨Ai, HQ⟩ := kq2 (jH_ (k := key) (c := chi) hx) (fun (W : World) => eq239 a b key chi W)
     clear hel hx
     by_cases hab : (a, b) = (key, chi)
     ·obtain ⟨ha, hb⟩ := Prod.mk.injEq _ _ _ _ ▸ hab
      subst ha hb
      have Ad := kp (show bG_ a b (es.take (i + 1)) = bG_ a b (es.take i) by rw [Ai.o, if_pos rfl, List.append_nil])
      have hcmp : (a.toList == a.toList && b.toList == b.toList) = true := by rw [aQ_, aQ_]; rfl
      have heq : ∀ W, (Op.equalIn 10000 239 (.agg #[.string a, .string b]) (.agg #[.string a, .string b])).run Tryz.prog W = .ok true W := fun W => hcmp ▸ HQ.o W
      clear hcmp
      clear Ai hab
      go_wp2_with fail
      go_quiet (fail)
      go_wp2_with fail
      go_roundw
      case rel => exact ⟨i + 1, n, c, A, by omega, by omega, rfl, by go_num, kp (by rw [Ad.o]; exact HN.o), kp (by rw [Ad.o]; exact HO.o), kp ⟨HB.o.os, HB.o.tape, HB.o.output, HB.o.size, HB.o.block⟩⟩
      simp [intOf]; omega
     have Ad := kp (show bG_ key chi (es.take (i + 1)) = bG_ key chi (es.take i) ++ [(a, b)] by rw [Ai.o, if_neg hab])
     have hcmp : (a.toList == key.toList && b.toList == chi.toList) = false := by
      cases h1 : (a.toList == key.toList && b.toList == chi.toList)
      ·rfl
      rw [Bool.and_eq_true] at h1
      exfalso
      apply hab
      have h2 : a = key := Classical.byContradiction fun h => by rw [bl_ h] at h1; cases h1.1
      have h3 : b = chi := Classical.byContradiction fun h => by rw [bl_ h] at h1; cases h1.2
      rw [h2, h3]
     have heq : ∀ W, (Op.equalIn 10000 239 (.agg #[.string a, .string b]) (.agg #[.string key, .string chi])).run Tryz.prog W = .ok false W := fun W => hcmp ▸ HQ.o W
     clear Ai hab hcmp
     go_wp2_with fail
     go_quiet (fail)
     have hbs : B0 <= ((wr.drewN nq).alloc (.cells #[.string a, .string b] 239)).heap.size := lT (lT hBs HB.o.size) (by rw [World.size_alloc]; exact Nat.le_succ _)
     obtain ⟨Ap, Ao, An, Al⟩ := kq4 (show Below B0 W2 ((wr.drewN nq).alloc (.cells #[.string a, .string b] 239)) from (show Below B0 W2 (wr.drewN nq) from ⟨HB.o.os, HB.o.tape, HB.o.output, HB.o.size, HB.o.block⟩).alloc (lT hBs HB.o.size) _) hbs (show ((wr.drewN nq).alloc (.cells #[.string a, .string b] 239)).ownsRow B0 239 2 (.slice A n c) n (bE_ (bG_ key chi (es.take i))) from World.ownsRow.alloc HO.o _) (show Src ((wr.drewN nq).alloc (.cells #[.string a, .string b] 239)) (some ⟨wr.heap.size, 0, none⟩) 1 1 [.string a, .string b] from ix_ (wr.drewN nq) 239 [.string a, .string b])
     clear hbs
     go_wp2_with ((with_reducible refine ae_ (o := ⟨some 128, _, _, _, _, _⟩) rfl _ _ 143 rfl B0 239 (.agg #[.string ⟨#[]⟩, .string ⟨#[]⟩]) 2 32 iC_ gL_ ?_ ?_ _ n (bE_ (bG_ key chi (es.take i))) ?_ An.o (some ⟨wr.heap.size, 0, none⟩) 1 1 [.string a, .string b] ?_ ?_ Al.o ?_ ?_ ?_ Ao.o ?_); (· rfl); (· decide); (· rfl); (· rfl); (· rfl); (· intro u hu; simp only [List.mem_cons, List.not_mem_nil, or_false] at hu; rcases hu with rfl | rfl <;> rfl); (· unfold maxLen; omega); (· omega); intro v1 w1 hown1 _ hb1; obtain ⟨A1, c1, rfl⟩ := bO_ hown1)
     go_roundw
     case rel => exact ⟨i + 1, n + 1, c1, _, by omega, by omega, rfl, by go_num, kp (by rw [Ad.o, lA, HN.o]; rfl), kp (by rw [Ad.o, dR_]; exact hown1), kp (Ap.o.trans hb1)⟩
     simp [intOf]; omega
    obtain rfl : i = m := by omega
    have hg : decide ((i : Int) < (i : Int)) = false := by simp
    have htk : es.take i = es := by rw [<- HM.o]; exact List.take_length
    rw [htk] at HN HO
    clear hel htk hlt
    have k0 := As.o wr r2
  ·have hbs : B0 <= ((wr).alloc (.cells #[.string key, .string chi] 239)).heap.size := lT (lT hBs HB.o.size) (by rw [World.size_alloc]; exact Nat.le_succ _)
   obtain ⟨Ap, Ao, An, Al⟩ := kq4 (show Below B0 W2 ((wr).alloc (.cells #[.string key, .string chi] 239)) from (show Below B0 W2 (wr) from ⟨HB.o.os, HB.o.tape, HB.o.output, HB.o.size, HB.o.block⟩).alloc (lT hBs HB.o.size) _) hbs (show ((wr).alloc (.cells #[.string key, .string chi] 239)).ownsRow B0 239 2 (.slice A n c) n (bE_ (bG_ key chi es)) from World.ownsRow.alloc HO.o _) (show Src ((wr).alloc (.cells #[.string key, .string chi] 239)) (some ⟨wr.heap.size, 0, none⟩) 1 1 [.string key, .string chi] from ix_ (wr) 239 [.string key, .string chi])
   clear hbs
   go_wp2_with ((with_reducible refine ae_ (o := ⟨some 139, _, _, _, _, _⟩) rfl _ _ 143 rfl B0 239 (.agg #[.string ⟨#[]⟩, .string ⟨#[]⟩]) 2 32 iC_ gL_ ?_ ?_ _ n (bE_ (bG_ key chi es)) ?_ An.o (some ⟨wr.heap.size, 0, none⟩) 1 1 [.string key, .string chi] ?_ ?_ Al.o ?_ ?_ ?_ Ao.o ?_); (· rfl); (· decide); (· rfl); (· rfl); (· rfl); (· intro u hu; simp only [List.mem_cons, List.not_mem_nil, or_false] at hu; rcases hu with rfl | rfl <;> rfl); (· unfold maxLen; omega); (· omega); intro v1 w1 hown1 _ hb1; obtain ⟨A1, c1, rfl⟩ := bO_ hown1; have hd11 : depE x es = bG_ key chi es ++ [(key, chi)] := (by rw [ln_ Ah.o, Ac.o, Ag.o]); have hP := Aa.o w1 (.slice A1 (n + 1) c1) (Ap.o.trans hb1) (by rw [hd11, lA, HN.o, dR_]; exact hown1); have HP := kp hP.2.2; have p2 := hP.1; have f2 := hP.2.1; clear hP hd11)
   go_meet
   case rel => exact HP
  have hd12 : depE x es = bG_ key chi es := by rw [lm_ Ah.o, Ac.o, Ag.o]
  have hP := Aa.o wr (.slice A n c) HB.o (by rw [hd12, HN.o]; exact HO.o)
  have HP := kp hP.2.2
  have p2 := hP.1
  have f2 := hP.2.1
  clear hP hd12
  go_wp2_with fail
  go_meet
  case rel => exact HP
 refine (by assumption : ∀ (a : Act) (w1 : World), Code.wp Tryz.prog tailR (bodyPost Tryz.prog Tryz.f75 (PostR w lim K grace ws es x)) a w1 -> _) _ _ ?_
 exact tail75 w wc lim K grace ws es s x _ _ _ _ _ _ _ _ _ _ _ _ _ _ _ _ _ _ _ _ _ _ _ _ _ Ax.o HG.o hcut _ _ _ _ _ _ _ _ _ _ _ _ _ _ _ _ _ _ _ _ _ _ _ _ _ _ _ _ _ _ _ _ _ _ _ _ _ _ _ _ _ _ _ _ _ _ _ _ _ _ _ _ _ _ _ _ _ _ _ _ _ _ _ _ _ _ _ _ _ _ _ _ _ _ _ _ _ _ _ _ _ _ _ _ _ _ _ _ _ _ _ _ _ _ _ _ _ _ _ _ _ _ _ _ _ _ _ _ _ _ _ _ _ _ _ _ _ _ _ _ _ _ _ _ _ _ _ _ _ _ _ _ _ _ _ _ _ _ _ _ _ _ _ _ _ _ _ _ _ _ _ _ _ _ _ _ _ _ _ _ _ _ _ _ _ _ _ _ _ _ _ _ _ _ _ _ _ _ _ _ _ _ _ _ _ _ _ _ _ _ _ _ _ _ _ _ _ _ _ _ _ _ _ _ _ _ _ _ _ _
theorem refDo75d (w : World) (lim : LimP) (K : Nat) (grace : Int) (ws : List WrR) (es : Edges) (s : KS) (h : KI w lim K grace ws es s) (x : CallR) (p : CallV) (hx : CallOk w lim x p) (hg : CalG x ws es) (hcl : ¬ (x.cmd.op = 1 ∨ x.cmd.op = 2 ∨ x.cmd.op = 3) /\ ¬ (x.cmd.op = 6 ∨ x.cmd.op = 7 ∨ x.cmd.op = 13) /\ ¬ (x.cmd.op = 11 ∨ x.cmd.op = 12)) :
  Calls Tryz.prog 75 #[ptV K, .agg (callC x p).toArray] w (PostR w lim K grace ws es x) := by
 refine pre75 w lim K grace ws es s h x p hx ?_
 intro Ak At Av ck ct cv vi vn nk nv nt op key life tag pre chi tim cnt ver LX LC C X W2 hp
 have Ai := kp hp
 obtain ⟨hnk, hnv, hnt, hop, hkey, hlife, htag, hpre, hchi, htim, hcnt, hver, As, HV, hB, Af, Ar, Ae, Ad, Ac, Ag, Ap, Ao, Ba, Az, Ay, Ax, Aw, Au⟩ := hp
 intros
 conv => arg 2; dsimp only [restR, sndC, Tryz.f75, Option.getD]
 obtain ⟨HH, HG, Ab⟩ := kq3 h hg hcl
 have hw := h.lw
 clear h hx hg hcl
 have d0 := Ap.o _ Ad.o
 go_upto_block 0 with (fail)
 clear d0
 go_cut [15] (fun s15 W' => Hid (∃ ws' es' s', MidS x ws es ws' es' /\ KI W' lim K grace ws' es' s' /\ RowL W' X 52 LX /\ RowL W' C 36 LC /\ Below lim w W'))
 case first =>
  obtain ⟨Aj, Al, Aq⟩ := kq3 Af.o.fewE (show ∀ W, KI W lim K grace ws es s -> RowL W X 52 LX -> RowL W C 36 LC -> Below lim w W -> MidS x ws es ws es -> ∃ ws' es' s', MidS x ws es ws' es' /\ KI W lim K grace ws' es' s' /\ RowL W X 52 LX /\ RowL W C 36 LC /\ Below lim w W from fun W a b c d e => ⟨ws, es, s, e, a, b, c, d⟩) (show Below lim w W2 from hB.o.mono hw)
  have x17 := Ac.o W2 Ae.o
  have k1 := Ao.o W2 Ad.o
  obtain ⟨An, Aa, Ah, Am⟩ := kq4 (fun (W : World) (hW : KI W lim K grace ws es s) => d7_ K es key W hW.rdE Aj.o) hop hkey hcnt
  have h123 : ¬ (op = 1 ∨ op = 2 ∨ op = 3) := by have := Ab.o; rw [Aa.o] at this; omega
  have h6 : ¬ op = 6 := by have := Ab.o; rw [Aa.o] at this; omega
  have h7 : ¬ op = 7 := by have := Ab.o; rw [Aa.o] at this; omega
  have h13 : ¬ op = 13 := by have := Ab.o; rw [Aa.o] at this; omega
  have h1112 : ¬ (op = 11 ∨ op = 12) := by have := Ab.o; rw [Aa.o] at this; omega
  have g1 : (op == 1) = false := by simp; omega
  have g2 : (op == 2) = false := by simp; omega
  have g3 : (op == 3) = false := by simp; omega
  have g6 : (op == 6) = false := by simp; omega
  have g7 : (op == 7) = false := by simp; omega
  have g13 : (op == 13) = false := by simp; omega
  have g11 : (op == 11) = false := by simp; omega
  have g12 : (op == 12) = false := by simp; omega
  have HP := kp (Al.o W2 Af.o Ae.o Ad.o Aq.o (by unfold MidS; rw [Aa.o, if_neg h123, if_neg h6, if_neg (by rintro (h | h); exact h7 h.1; exact h13 h), if_neg h1112]; exact ⟨rfl, rfl⟩))
  go_wp2_with fail
  go_meet
  case rel => exact HP
 refine (by assumption : ∀ (a : Act) (w1 : World), Code.wp Tryz.prog tailR (bodyPost Tryz.prog Tryz.f75 (PostR w lim K grace ws es x)) a w1 -> _) _ _ ?_
 exact tail75 w wc lim K grace ws es s x _ _ _ _ _ _ _ _ _ _ _ _ _ _ _ _ _ _ _ _ _ _ _ _ _ Ai.o HG.o hcut _ _ _ _ _ _ _ _ _ _ _ _ _ _ _ _ _ _ _ _ _ _ _ _ _ _ _ _ _ _ _ _ _ _ _ _ _ _ _ _ _ _ _ _ _ _ _ _ _ _ _ _ _ _ _ _ _ _ _ _ _ _ _ _ _ _ _ _ _ _ _ _ _ _ _ _ _ _ _ _ _ _ _ _ _ _ _ _ _ _ _ _ _ _ _ _ _ _ _ _ _ _ _ _ _ _ _ _ _ _ _ _ _ _ _ _ _ _ _ _ _ _ _ _ _ _ _ _ _ _ _ _ _ _ _ _ _ _ _ _ _ _ _ _ _ _ _ _ _ _ _ _ _ _ _ _ _ _ _ _ _ _ _ _ _ _ _ _ _ _ _ _ _ _ _ _ _ _ _ _ _ _ _ _ _ _ _ _ _ _ _ _ _ _ _ _ _ _ _ _ _ _ _ _ _ _ _ _ _ _
theorem refDo75 (w : World) (lim : LimP) (K : Nat) (grace : Int) (ws : List WrR) (es : Edges) (s : KS) (h : KI w lim K grace ws es s) (x : CallR) (p : CallV) (hx : CallOk w lim x p) (hg : CalG x ws es) :
  Calls Tryz.prog 75 #[ptV K, .agg (callC x p).toArray] w fun e w' => e = .returned (.tuple #[]) /\ ∃ ws' es' s', DoS x ws es ws' es' /\ KI w' lim K grace ws' es' s' /\ Below lim w w' := by
 by_cases ha : x.cmd.op = 1 ∨ x.cmd.op = 2 ∨ x.cmd.op = 3
 ·exact refDo75a w lim K grace ws es s h x p hx hg ha
 by_cases hb : x.cmd.op = 6 ∨ x.cmd.op = 7 ∨ x.cmd.op = 13
 ·exact refDo75b w lim K grace ws es s h x p hx hg hb
 by_cases hc : x.cmd.op = 11 ∨ x.cmd.op = 12
 ·exact refDo75c w lim K grace ws es s h x p hx hg hc
 exact refDo75d w lim K grace ws es s h x p hx hg ⟨ha, hb, hc⟩
end Go.Proofs.YtnjhpgmbfblgaaaGreat.Ord
