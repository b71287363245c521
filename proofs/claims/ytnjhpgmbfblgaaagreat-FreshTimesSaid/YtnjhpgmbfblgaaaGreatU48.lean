/- Walk of the program's do: a. -/
import Derived.Test.YtnjhpgmbfblgaaaGreatMU46
import Derived.Deep.DeepCutAuto
import Derived.Deep.CutBlock
import Derived.Test.YtnjhpgmbfblgaaaGreatU45
import Derived.Deep.RegionHeld
set_option linter.unusedVariables false
set_option linter.unusedSimpArgs false
namespace Go.Proofs.YtnjhpgmbfblgaaaGreat.Ord
open Go.RowKit
set_option maxRecDepth 100000
set_option maxHeartbeats 8000000
theorem set_done {w5 w6 w8 w10 : World} {lim J : Nat} {grace : Int} {ws : List WrR} {es : Edges} {s : JS} (h : JI w5 lim J grace ws es s) {v' vv vt : Value} {x : WrR} {p : Nat} (hp : RowL w6 p 220 (wrL x vv vt)) (hpf : w5.heap.size <= p) (hb : Bw w5 w6)
  (hk8 : Kept s.wv.ownBlock.toList w6 w8) (hown : w8.ownsRow lim 217 1 v' (ws.length + 1) (s.ps.map ptV ++ [ptV p])) (hk10 : Kept [s.M] (w8.setCell ⟨J, 1, none⟩ v') w10)
  (hmap : MapS w10 s.M fun k' => if k' = x.key then some (ptV p) else (aN_ ws k').map fun i => ptV (s.ps.getD i 0)) (hx1 : DatG w5 lim vv x.val)
  (hx2 : ∃ ts : List ByteArray, ts.length <= maxLen /\ w5.ownsRow lim 9 1 vt ts.length (ts.map Value.string) /\ ∀ t, t ∈ ts ↔ t ∈ x.tags) (hts : ∀ k v b, s.f k = some v -> vt.ownBlock = some b -> v.ownBlock ≠ some b)
  (ht : IsT x.soft /\ IsT x.dl) (hf : ws.length < 5000) (hn : ∀ y ∈ ws, y.gone = 0 -> y.key ≠ x.key) :
  JI w10 lim J grace (ws ++ [x]) es ⟨s.M, s.C, s.ps ++ [p], fun i => if i = ws.length then (vv, vt) else s.vals i, s.f, v'⟩ /\ Below lim w5 w10 := by
 have h6 := h.below hb
 have hkJ : Kept (J :: s.wv.ownBlock.toList) w6 (w8.setCell ⟨J, 1, none⟩ v') := (hk8.mono fun b hb => mM _ hb).setCell (by simp) v'
 have hJn : J ∉ s.wv.ownBlock.toList := fun hm => h6.row.ne_own h6.own (by decide) (by simpa using hm)
 have hJ8 : RowL w8 J 138 [.int .u64 grace, s.wv, .map (some s.M), .map (some s.C)] := hk8.row hJn h6.row
 have hJM : J ∉ [s.M] := by simpa using fun e : J = s.M => h6.mapM.ne_row h6.row e
 have hpn : p ∉ J :: s.wv.ownBlock.toList := fun hm => by
  rcases List.mem_cons.1 hm with e | hm
  ·exact hp.ne h6.row (by decide) e
  exact hp.ne_own h6.own (by decide) (by simpa using hm)
 have hpM : p ∉ [s.M] := by simpa using fun e : p = s.M => h6.mapM.ne_row hp e
 have hkA : Kept (J :: s.M :: s.wv.ownBlock.toList) w6 w10 := (hkJ.mono fun b hb => by
   rcases List.mem_cons.1 hb with rfl | hb
   ·simp
   exact mM _ (mM _ hb)).trans (hk10.mono fun b hb => by simp at hb; subst hb; simp)
 have hk : Kept (J :: s.M :: s.wv.ownBlock.toList) w5 w10 := (Kept.of_below hb).trans hkA
 have hown9 : (w8.setCell ⟨J, 1, none⟩ v').ownsRow lim 217 1 v' (ws.length + 1) (s.ps.map ptV ++ [ptV p]) := Go.ownsRow_setCell_other hown (hJ8.ne_own hown (by decide)) v'
 have hM9 : MapS (w8.setCell ⟨J, 1, none⟩ v') s.M fun k => (aN_ ws k).map fun i => ptV (s.ps.getD i 0) := h6.mapM.of_block (hkJ.block _ h6.mapM.lt fun hm => by
  rcases List.mem_cons.1 hm with e | hm
  ·exact h6.mapM.ne_row h6.row e.symm
  exact h6.mapM.ne_own h6.own (by simpa using hm))
 refine ⟨h.push (hk10.row hpM (hkJ.row hpn hp)) hpf hk (hk10.row hJM (hJ8.setCell 1 v' _ rfl)) (hk10.own2 (by rw [List.map_append]; exact hown9) fun b hb he => ?_) hmap hx1 hx2 hts ht hf hn, hk.below h.lw fun b hb => ?_⟩
 ·simp at hb
  subst hb
  exact hM9.ne_own hown9 he
 rcases List.mem_cons.1 hb with rfl | hb
 ·exact h.lJ
 rcases List.mem_cons.1 hb with rfl | hb
 ·exact h.lM
 exact (h.own.lt b (by simpa using hb)).1
theorem eo_ : (Tryz.prog.info? 217).map (fun i => (i.zero, i.size, i.bytes)) = some (some (.pointer none), 1, 8) := by kernel_rfl
theorem f6_ : Tryz.prog.underlying 136 = some (.slice 217) := by kernel_rfl
theorem do73a (w : World) (lim J : Nat) (grace : Int) (ws : List WrR) (es : Edges) (s : JS) (h : JI w lim J grace ws es s) (x : CallR) (p : CallV) (hx : CallOk w lim x p) (hg : CalG x ws es) (hcl : x.cmd.op = 1 ∨ x.cmd.op = 2 ∨ x.cmd.op = 3) :
  Calls Tryz.prog 73 #[ptV J, .agg (callC x p).toArray] w (dv_ w lim J grace ws es x) := by
 refine pre73 w lim J grace ws es s h x p hx _ ?_
 intro LX LC X C FB op key tim cnt wc hp
 obtain ⟨Ae, Ap, Ai, Af, Br, Bc, Ao, HJ, Bv, Cd, Cc, Al, Bt, Ac, Ad⟩ := hp
 intros
 conv => arg 2; dsimp only [restD, sndC, Tryz.f73, Option.getD]
 obtain ⟨HG, Ak⟩ := kq2 hg hcl
 clear h hx hg hcl
 have c0 := Bt.o _ Ao.o
 have c1 := Ac.o _ Ao.o
 have x22 := Ad.o _ Bc.o
 obtain ⟨wb, rfl⟩ := eX wc
 have h123 : op = 1 ∨ op = 2 ∨ op = 3 := by have := Ak.o; rw [Ap.o] at this; exact this
 obtain ⟨life, hlife⟩ := eY x.cmd.life
 have hit : IsT tim := Af.o ▸ HG.o.tim
 have hil : IsT life := hlife ▸ HG.o.life
 obtain ⟨d, hd⟩ := eY (addT tim life)
 have hdt : IsT d := hd ▸ gp_ hit hil
 have H133 := kp (fun W => hd ▸ lB_ tim life hit hil W)
 have htg := HG.o.tags Ak.o
 obtain ⟨-, -, ⟨hml, At, ct, et, helt⟩⟩ := Al.o.1
 obtain ⟨hvr, hvm, Av, cv, ev, hby⟩ := Al.o.1.2.1
 obtain ⟨nt, hnt⟩ := eY x.cmd.tags.length
 obtain ⟨nv, hnv⟩ := eY x.cmd.val.length
 have hn16 : nt <= 16 := by rw [<- hnt]; exact htg.1
 rw [hnt] at et
 rw [hnv] at ev
 have Am := kp htg.2
 have Ah := kp (show newW x = ⟨key, x.cmd.val, x.cmd.tags, d, nev, 0⟩ by unfold newW; rw [Ai.o, Af.o, hlife, hd])
 have Bp := kp hdt
 have Bo := kp ev
 have Bm := kp hnt
 have Ar := kp helt
 have Bf := kp (fun (W : World) (h : RowL W C 36 LC) => (show W.cell? ⟨C, 3, none⟩ = some (.slice Av nv cv) from ev ▸ h.cell Ae.o.2.1))
 have Bs := kp (fun (W : World) (h : RowL W C 36 LC) => (show W.cell? ⟨C, 4, none⟩ = some (.slice At nt ct) from et ▸ h.cell Ae.o.2.2.1))
 have Be := kp (fun (W : World) (h : RowL W C 36 LC) => (show W.cell? ⟨C, 5, none⟩ = some (.int .u64 life) from hlife ▸ h.cell Ae.o.2.2.2.1))
 have Bn := kp (fun (W W' : World) (ws' : List WrR) (hJ : JI W lim J grace ws' es s) (hk : Kept s.ps W W') (h1 : RowL W X 52 LX) (h2 : RowL W C 36 LC) => (show RowL W' X 52 LX /\ RowL W' C 36 LC from
  ⟨hk.row (fun hm => by obtain ⟨i, hi⟩ := mI.1 hm; exact h1.ne (hJ.wrs i _ _ (gE (by rw [<- hJ.len]; exact (gS.1 hi).1)) hi).1 (by decide) rfl) h1,
   hk.row (fun hm => by obtain ⟨i, hi⟩ := mI.1 hm; exact h2.ne (hJ.wrs i _ _ (gE (by rw [<- hJ.len]; exact (gS.1 hi).1)) hi).1 (by decide) rfl) h2⟩))
 have H1 := kp (fR_ wb lim J grace ws es s HJ.o key)
 unfold ptV at H1
 clear hd hdt htg hit hil hvr hby et ev hlife hnt hnv helt hml hvm
 go_upto_block 0 with (fail)
 go_step
 go_step
 go_cut [21] (fun s21 W' => s21 = .bool true /\ W' = wb)
 case first =>
  rcases h123 with rfl | rfl | rfl
  all_goals
   go_wp2_with fail
   go_meet
   case rel => exact ⟨rfl, rfl⟩
 case rest =>
 obtain ⟨rfl, hwc⟩ := hcut
 subst wc
 go_upto_region 8 with (fail)
 refine H1.o.mono ?_
 rintro e w3 ⟨rfl, T, hT, hj3, hb3, hk3⟩
 obtain ⟨hx3, hc3⟩ := Bn.o wb w3 ws HJ.o hk3 Bc.o Ao.o
 obtain ⟨H132, Bb, Aj, Ba, HC3r, Bz, Ax⟩ := kq7 (tags132 At nt ct lim x.cmd.tags w3 Bm.o hn16 Am.o hj3.lw (Ar.o.below hb3 (lR _))) hT hj3 hx3 hc3 (Bv.o.trans hb3) hb3
 have k4 := Bs.o w3 hc3
 clear hT hj3 hb3 hk3 hx3 hc3 H1
 go_upto_region 8 with (fail)
 go_upto_region 9 with (fail)
 refine H132.o.mono ?_
 rintro e w5 ⟨v5, us, rfl, t1, t2, t3, t4⟩
 obtain ⟨A5, c5, rfl⟩ := ax_ t1
 obtain ⟨n5, hn5⟩ := eY us.length
 have hx2 : ∃ ts : List ByteArray, ts.length <= maxLen /\ w5.ownsRow lim 9 1 (.slice A5 us.length c5) ts.length (ts.map Value.string) /\ ∀ t, t ∈ ts ↔ t ∈ x.cmd.tags := ⟨us, by unfold maxLen; omega, bh_ t1 Aj.o.lw, t3⟩
 have htf : ∀ b, (Value.slice A5 us.length c5).ownBlock = some b -> w3.heap.size <= b := fun b hb => (t1.lt b hb).1
 rw [hn5] at hx2 htf ⊢
 obtain ⟨Bg, Bh, Bd, Az, HC5r, Ay, Au⟩ := kq7 hx2 htf (Aj.o.below t4) (Ba.o.below t4 Ba.o.lt) (HC3r.o.below t4 HC3r.o.lt) (Bz.o.trans (t4.mono Aj.o.lw)) (Ax.o.trans (t4.mono Aj.o.lw))
 have yy1 := Ac.o w5 HC5r.o
 have yy3 := Bf.o w5 HC5r.o
 have y5 := Be.o w5 HC5r.o
 have y22 := Ad.o w5 Az.o
 clear t1 t2 t3 t4 hn5 hx2 htf H132 k4
 go_upto_region 9 with (fail)
 go_cut [9] (fun s9 W' => ∃ p, s9 = .pointer (some ⟨p, 0, none⟩) /\ (RowL W' p 220 [.string key, .slice Av nv cv, .slice A5 n5 c5, .int .u64 d, .int .u64 18446744073709551615, .int .i64 0] /\ w5.heap.size <= p /\ Bw w5 W'))
 case first =>
  have hbA := below1 w5.drew (.cells #[.string key, .slice Av nv cv, .slice A5 n5 c5, .int .u64 d, .int .u64 18446744073709551615, .int .i64 0] 220)
  have Bu := kp (show RowL (w5.drew.alloc (.cells #[.string key, .slice Av nv cv, .slice A5 n5 c5, .int .u64 d, .int .u64 18446744073709551615, .int .i64 0] 220)) w5.heap.size 220 [.string key, .slice Av nv cv, .slice A5 n5 c5, .int .u64 d, .int .u64 18446744073709551615, .int .i64 0] /\ w5.heap.size <= w5.heap.size /\ Bw w5 (w5.drew.alloc (.cells #[.string key, .slice Av nv cv, .slice A5 n5 c5, .int .u64 d, .int .u64 18446744073709551615, .int .i64 0] 220)) from ⟨RowL.new w5.drew 220 _, lR _, ⟨hbA.os, hbA.tape, hbA.output, hbA.size, hbA.block⟩⟩)
  have hSB : (fun W : World => W.cell? ⟨C, 1, none⟩ = some (.string key) /\ W.cell? ⟨C, 3, none⟩ = some (.slice Av nv cv) /\ W.cell? ⟨C, 5, none⟩ = some (.int .u64 life) /\ W.cell? ⟨X, 22, none⟩ = some (.int .u64 tim)) (w5.drew.alloc (.cells #[.string key, .slice Av nv cv, .slice A5 n5 c5, .int .u64 d, .int .u64 18446744073709551615, .int .i64 0] 220)) :=
   ⟨Ac.o _ ((show RowL w5.drew C 36 LC from HC5r.o).alloc _), Bf.o _ ((show RowL w5.drew C 36 LC from HC5r.o).alloc _), Be.o _ ((show RowL w5.drew C 36 LC from HC5r.o).alloc _), Ad.o _ ((show RowL w5.drew X 52 LX from Az.o).alloc _)⟩
  have Bi := kp hSB
  clear hbA hSB
  refine wp_region_held_drew (S := fun W => W.cell? ⟨C, 1, none⟩ = some (.string key) /\ W.cell? ⟨C, 3, none⟩ = some (.slice Av nv cv) /\ W.cell? ⟨C, 5, none⟩ = some (.int .u64 life) /\ W.cell? ⟨X, 22, none⟩ = some (.int .u64 tim)) (by kernel_rfl) ⟨yy1, yy3, y5, y22⟩ (fun hS => ?_)
  have HS := kp hS
  clear hS
  refine tp 0 rfl rfl HS.o ?_
  simp only [Act.put, z1, z2, z3]
  refine tq 1 ?_ rfl (Or.inl ⟨by rfl, ?_⟩) HS.o ?_
  rotate_left 1
  ·intro w hw; have q := hw.1; go_simp; try with_reducible rfl
  simp only [Act.put, z1, z2, z3]
  refine tp 2 rfl rfl HS.o ?_
  simp only [Act.put, z1, z2, z3]
  refine tq 3 ?_ rfl (Or.inl ⟨by rfl, ?_⟩) HS.o ?_
  rotate_left 1
  ·intro w hw; have q := hw.2.1; go_simp; try with_reducible rfl
  simp only [Act.put, z1, z2, z3]
  refine tp 4 rfl rfl HS.o ?_
  simp only [Act.put, z1, z2, z3]
  refine tp 5 rfl rfl HS.o ?_
  simp only [Act.put, z1, z2, z3]
  refine tq 6 ?_ rfl (Or.inl ⟨by rfl, ?_⟩) HS.o ?_
  rotate_left 1
  ·intro w hw; have q := hw.2.2.2; go_simp; try with_reducible rfl
  simp only [Act.put, z1, z2, z3]
  refine tp 7 rfl rfl HS.o ?_
  simp only [Act.put, z1, z2, z3]
  refine tq 8 ?_ rfl (Or.inl ⟨by rfl, ?_⟩) HS.o ?_
  rotate_left 1
  ·intro w hw; have q := hw.2.2.1; go_simp; try with_reducible rfl
  simp only [Act.put, z1, z2, z3]
  refine oQ 9 rfl (fun KK hK => ?_)
  with_reducible refine ao_ rfl 133 _ _ rfl #[.int .u64 tim, .int .u64 life] ?_ Tryz.f133 Tryz.func133 n133 b133 (fun u w6 => u = .int .u64 d /\ w6 = w5.drew) ?_ ?_
  ·simp only [y1, y2, y3]; rfl
  ·exact (H133.o _).mono fun e w' ⟨h1, h2⟩ => ⟨_, h1, rfl, h2⟩
  rintro u w6 ⟨rfl, rfl⟩
  have hS := HS.o
  refine hK.o _ _ hS (fun _ => ?_)
  clear hK KK HS
  have HS := kp hS
  clear hS
  try simp only [Act.put, z1, z2, z3]
  refine tp 10 rfl rfl HS.o ?_
  simp only [Act.put, z1, z2, z3]
  refine oQ 11 rfl (fun KK hK => ?_)
  go_simp
  have hS := Bi.o
  refine hK.o _ _ hS (fun _ => ?_)
  clear hK KK HS
  have HS := kp hS
  clear hS
  try simp only [Act.put, z1, z2, z3]
  refine tp 12 rfl rfl HS.o ?_
  simp only [Act.put, z1, z2, z3]
  refine wpAnyH_done (by kernel_rfl) ?_ _
  go_wp2_with fail
  go_meet
  case rel => exact ⟨_, rfl, Bu.o⟩
 case rest =>
 obtain ⟨p, rfl, hp6, hpf, hb6⟩ := hcut
 obtain ⟨w6, rfl⟩ := eX wc
 obtain ⟨Bk, Bj, By, Aa⟩ := kq4 hp6 hpf hb6 (Bd.o.below hb6)
 have hC6 := HC5r.o.below hb6 HC5r.o.lt
 have Ce := kp hC6
 obtain ⟨n, hn⟩ := eY ((a2_ T ws).length)
 have hnw : n < 5000 := by rw [<- hn]; simpa [a2_] using HG.o.few
 obtain ⟨Aw, cw, hwv⟩ : ∃ Aw cw, s.wv = .slice Aw n cw := by
  rcases Aa.o.own.2 with ⟨h1, h2⟩ | ⟨g', cap, cur, h1, _⟩
  ·rw [hn] at h2
   exact ⟨none, 0, by rw [h1, h2]⟩
  rw [hn] at h1
  exact ⟨_, _, h1⟩
 obtain ⟨fm, hfm⟩ : ∃ fm : ByteArray -> Option Value, fm = fun k => (aN_ (a2_ T ws) k).map fun i => ptV (s.ps.getD i 0) := ⟨_, rfl⟩
 obtain ⟨Cb, Ca⟩ := kq2 hfm (show MapS w6.drew s.M fm by rw [hfm]; exact Aa.o.mapM)
 have p1 : w6.cell? ⟨J, 1, none⟩ = some (.slice Aw n cw) := by rw [<- hwv]; exact Aa.o.row.cell (j := 1) rfl
 have m2 : w6.cell? ⟨J, 2, none⟩ = some (.map (some s.M)) := Aa.o.row.cell (j := 2) rfl
 have c16 := Ac.o w6 hC6
 have hbA := below1 w6.drew (.cells #[.pointer (some ⟨p, 0, none⟩)] 217)
 have p2 : (w6.alloc (.cells #[.pointer (some ⟨p, 0, none⟩)] 217)).cell? ⟨J, 1, none⟩ = some (.slice Aw n cw) := ((below1 w6 _).cell (p := ⟨J, 1, none⟩) Aa.o.row.lt).trans p1
 have ho : w6.drew.ownsRow lim 217 1 (.slice Aw n cw) n (s.ps.map ptV) := by have := Aa.o.own; rw [hwv, hn] at this; exact this
 have Bl := kp (show (w6.drew.alloc (.cells #[.pointer (some ⟨p, 0, none⟩)] 217)).ownsRow lim 217 1 (.slice Aw n cw) n (s.ps.map ptV) from World.ownsRow.alloc ho _)
 have An := kp (fun (j : Nat) (u : Value) (hj : ([.pointer (some ⟨p, 0, none⟩)] : List Value)[j]? = some u) => (show (w6.drew.alloc (.cells #[.pointer (some ⟨p, 0, none⟩)] 217)).cell? ((⟨w6.drew.heap.size, 0, none⟩ : Addr).add j) = some u by rw [Addr.add_mid, Nat.zero_add]; exact (RowL.new w6.drew 217 [.pointer (some ⟨p, 0, none⟩)]).cell hj))
 have Bx := kp (show lim <= (w6.drew.alloc (.cells #[.pointer (some ⟨p, 0, none⟩)] 217)).heap.size from lT Aa.o.lw hbA.size)
 have Ag := kp (show (w6.drew.alloc (.cells #[.pointer (some ⟨p, 0, none⟩)] 217)).cell? ⟨J, 2, none⟩ = some (.map (some s.M)) /\ (w6.drew.alloc (.cells #[.pointer (some ⟨p, 0, none⟩)] 217)).cell? ⟨C, 1, none⟩ = some (.string key) from
  ⟨RowL.cell ((show RowL w6.drew J 138 _ from Aa.o.row).alloc _) (j := 2) rfl, Ac.o _ ((show RowL w6.drew C 36 LC from hC6).alloc _)⟩)
 have Bq := kp (show DoS x ws es (a2_ T ws ++ [newW x]) es from ⟨_, by unfold MidS; rw [Ap.o, if_pos (by have := Ak.o; rw [Ap.o] at this; exact this), Ai.o]; exact ⟨rfl, _, ⟨T, Bb.o, rfl⟩, rfl⟩, (c9_ (by have := Ak.o; omega) _).symm⟩)
 have HT := kp (fun (v8 : Value) (w8 : World) (hown8 : w8.ownsRow lim 217 1 v8 (n + 1) (s.ps.map ptV ++ [.pointer (some ⟨p, 0, none⟩)])) (hg8 : (w6.drew.alloc (.cells #[.pointer (some ⟨p, 0, none⟩)] 217)).grownBy w8 (Value.slice Aw n cw).ownBlock) =>
  (show (w8.cell? ⟨J, 2, none⟩ = some (.map (some s.M)) /\ w8.cell? ⟨C, 1, none⟩ = some (.string key)) /\ w8.cell? ⟨J, 1, none⟩ = some (.slice Aw n cw) /\ w8.frozen? ⟨J, 1, none⟩ = false /\ ((w8.setCell ⟨J, 1, none⟩ v8).cell? ⟨J, 2, none⟩ = some (.map (some s.M)) /\ (w8.setCell ⟨J, 1, none⟩ v8).cell? ⟨C, 1, none⟩ = some (.string key)) /\ MapS (w8.setCell ⟨J, 1, none⟩ v8) s.M fm /\
   (∀ w10, Kept [s.M] (w8.setCell ⟨J, 1, none⟩ v8) w10 -> w10.cell? ⟨J, 2, none⟩ = some (.map (some s.M)) /\ w10.cell? ⟨C, 1, none⟩ = some (.string key)) /\
   (∀ w10, Kept [s.M] (w8.setCell ⟨J, 1, none⟩ v8) w10 -> MapS w10 s.M (fun k' => if k' = key then some (.pointer (some ⟨p, 0, none⟩)) else fm k') -> JI w10 lim J grace (a2_ T ws ++ [newW x]) es ⟨s.M, s.C, s.ps ++ [p], fun i => if i = (a2_ T ws).length then (.slice Av nv cv, .slice A5 n5 c5) else s.vals i, s.f, v8⟩ /\ Below lim w5 w10) by
  have hk8 : Kept s.wv.ownBlock.toList w6 w8 := by
   have := (Kept.of_below hbA).trans (by rw [hwv]; exact aA_ hg8 : Kept s.wv.ownBlock.toList _ w8)
   exact ⟨this.os, this.tape, this.output, this.size, this.block⟩
  have hJn : J ∉ s.wv.ownBlock.toList := fun hm => Aa.o.row.ne_own Aa.o.own (by decide) (by simpa using hm)
  have hJ8 : RowL w8 J 138 [.int .u64 grace, s.wv, .map (some s.M), .map (some s.C)] := hk8.row hJn Aa.o.row
  have hC8 : RowL w8 C 36 LC := hk8.row (fun hm => hC6.ne_own Aa.o.own (by decide) (by simpa using hm)) hC6
  have hM8 : MapS w8 s.M fm := by rw [hfm]; exact Aa.o.mapM.of_block (hk8.block _ Aa.o.mapM.lt fun hm => Aa.o.mapM.ne_own Aa.o.own (by simpa using hm))
  have hJ9 := hJ8.setCell 1 v8 _ rfl
  have hC9 : RowL (w8.setCell ⟨J, 1, none⟩ v8) C 36 LC := hC8.setOther (hC8.ne hJ8 (by decide)) v8
  have hM9 : MapS (w8.setCell ⟨J, 1, none⟩ v8) s.M fm := hM8.of_block (Below.heap_setCell w8 ⟨J, 1, none⟩ v8 s.M (fun e => hM8.ne_row hJ8 e.symm))
  have hJM : J ∉ [s.M] := by simpa using fun e : J = s.M => hM9.ne_row hJ9 e
  have hCM : C ∉ [s.M] := by simpa using fun e : C = s.M => hM9.ne_row hC9 e
  refine ⟨⟨hJ8.cell (j := 2) rfl, Ac.o _ hC8⟩, by rw [<- hwv]; exact hJ8.cell (j := 1) rfl, hJ8.frozen 1, ⟨hJ9.cell (j := 2) rfl, Ac.o _ hC9⟩, hM9, fun w10 hk => ⟨RowL.cell (hk.row hJM hJ9) (j := 2) rfl, Ac.o _ (hk.row hCM hC9)⟩, fun w10 hk hm => ?_⟩
  have hkn : (newW x).key = key := by rw [Ah.o]
  refine set_done Bd.o (x := newW x) (w6 := w6) (w8 := w8) (vv := .slice Av nv cv) (vt := .slice A5 n5 c5) (by rw [Ah.o]; exact Bk.o) Bj.o By.o hk8 (by rw [hn]; exact hown8) hk (by rw [hkn]; rw [hfm] at hm; exact hm) (by rw [Ah.o, <- Bo.o]; exact Al.o.1.2.1.below (Au.o) (lR _)) (by rw [Ah.o]; exact Bg.o) (fun k v b hf hb he => ?_) (by rw [Ah.o]; exact ⟨nev_is, Bp.o⟩) (by rw [hn]; exact hnw) (fun y hy hg => ?_)
  ·have h1 := Bh.o b hb
   have h2 := b4_ (Aj.o.kidsV k v hf) he
   omega
  rw [hkn]
  intro e
  unfold a2_ at hy
  obtain ⟨z, hz, rfl⟩ := List.mem_map.1 hy
  have hzT : z.key ∈ T := by
   rw [Bb.o]
   have : (bC_ T z).key = z.key := by unfold bC_; split <;> rfl
   rw [<- e, this]
   exact Reach.refl _ _
  unfold bC_ at hg
  by_cases q : z.gone = 0 /\ hasS T z.key = true
  ·rw [if_pos q] at hg
   simp at hg
  rw [if_neg q] at hg
  exact q ⟨hg, hasS_iff.2 hzT⟩))
 clear hbA ho hp6 hpf hb6 hfm hwv hn hC6
 go_upto_region 10 with (fail)
 refine wp_region_held_drew (S := fun W => W.cell? ⟨J, 2, none⟩ = some (.map (some s.M)) /\ W.cell? ⟨C, 1, none⟩ = some (.string key)) (by kernel_rfl) ⟨m2, c16⟩ (fun hS => ?_)
 have HS := kp hS
 clear hS
 refine tp 0 rfl rfl HS.o ?_
 simp only [Act.put, z1, z2, z3]
 refine tp 1 rfl rfl HS.o ?_
 simp only [Act.put, z1, z2, z3]
 refine tp 2 rfl rfl HS.o ?_
 simp only [Act.put, z1, z2, z3]
 refine tp 3 rfl rfl HS.o ?_
 simp only [Act.put, z1, z2, z3]
 refine tq 4 ?_ rfl (Or.inl ⟨by rfl, ?_⟩) HS.o ?_
 rotate_left 1
 ·intro w hw; have q := hw.1; go_simp; try with_reducible rfl
 simp only [Act.put, z1, z2, z3]
 refine tp 5 rfl rfl HS.o ?_
 simp only [Act.put, z1, z2, z3]
 refine tq 6 ?_ rfl (Or.inl ⟨by rfl, ?_⟩) HS.o ?_
 rotate_left 1
 ·intro w hw; have q := hw.2; go_simp; try with_reducible rfl
 simp only [Act.put, z1, z2, z3]
 refine tp 7 rfl rfl HS.o ?_
 simp only [Act.put, z1, z2, z3]
 refine tp 8 rfl rfl HS.o ?_
 simp only [Act.put, z1, z2, z3]
 refine tp 9 rfl rfl HS.o ?_
 simp only [Act.put, z1, z2, z3]
 refine tp 11 rfl rfl HS.o ?_
 simp only [Act.put, z1, z2, z3]
 refine tp 14 rfl rfl HS.o ?_
 simp only [Act.put, z1, z2, z3]
 refine wpAnyH_ready (rs := [10, 12]) (by kernel_rfl) (by simp) ?_
 refine aQ rfl (fun KK hK => ?_) (aQ rfl (fun KK hK => ?_) (AllReadyH.nil))
 focus
  have q := p1
  with_reducible refine aw_ rfl (w' := w6.drew) (.slice Aw n cw) ?_ ?_
  ·go_simp; try with_reducible rfl
  have hS := HS.o
  refine hK.o _ _ hS (fun _ => ?_)
  clear hK KK HS
  have HS := kp hS
  clear hS
  try simp only [Act.put, z1, z2, z3]
  refine oQ 12 rfl (fun KK hK => ?_)
  with_reducible refine aZ_ rfl 136 _ rfl 217 (.pointer none) 1 8 (.pointer (some ⟨p, 0, none⟩)) #[.pointer (some ⟨p, 0, none⟩)] f6_ eo_ (by decide) (by decide) ?_ rfl rfl ?_
  ·rfl
  have hS := Ag.o
  refine hK.o _ _ hS (fun _ => ?_)
  clear hK KK HS
  have HS := kp hS
  clear hS
  try simp only [Act.put, z1, z2, z3]
 rotate_left 1
 with_reducible refine aZ_ rfl 136 _ rfl 217 (.pointer none) 1 8 (.pointer (some ⟨p, 0, none⟩)) #[.pointer (some ⟨p, 0, none⟩)] f6_ eo_ (by decide) (by decide) ?_ rfl rfl ?_
 ·rfl
 have hS := Ag.o
 refine hK.o _ _ hS (fun _ => ?_)
 clear hK KK HS
 have HS := kp hS
 clear hS
 try simp only [Act.put, z1, z2, z3]
 refine oQ 10 rfl (fun KK hK => ?_)
 have q : (w6.alloc (.cells #[.pointer (some ⟨p, 0, none⟩)] 217)).cell? ⟨J, 1, none⟩ = some (.slice Aw n cw) := p2
 with_reducible refine aw_ rfl (w' := w6.drew.alloc (.cells #[.pointer (some ⟨p, 0, none⟩)] 217)) (.slice Aw n cw) ?_ ?_
 ·go_simp; try with_reducible rfl
 have hS := HS.o
 refine hK.o _ _ hS (fun _ => ?_)
 clear hK KK HS
 have HS := kp hS
 clear hS
 try simp only [Act.put, z1, z2, z3]
 all_goals
  refine oQ 13 rfl (fun KK hK => ?_)
  with_reducible refine a4_ rfl _ _ 136 rfl lim 217 (.pointer none) 1 8 f6_ eo_ ?_ ?_ (.slice Aw n cw) n (s.ps.map ptV) ?_ ?_ ⟨w6.drew.heap.size, 0, none⟩ 1 1 [.pointer (some ⟨p, 0, none⟩)] ?_ ?_ ?_ ?_ ?_ ?_ ?_ ?_
  ·rfl
  ·decide
  ·rfl
  ·exact Bl.o
  ·rfl
  ·rfl
  ·exact An.o
  ·simp [Value.oneCell']
  ·unfold maxLen; omega
  ·omega
  ·exact Bx.o
  intro v8 w8 hown8 hg8 _
  have Ab := kp (HT.o v8 w8 hown8 hg8)
  obtain ⟨A8, c8, rfl⟩ := bO_ hown8
  clear hown8 hg8
  have hS := Ab.o.1
  refine hK.o _ _ hS (fun _ => ?_)
  clear hK KK HS
  have HS := kp hS
  clear hS
  try simp only [Act.put, z1, z2, z3]
  refine tp 15 rfl rfl HS.o ?_
  simp only [Act.put, z1, z2, z3]
  refine tp 16 rfl rfl HS.o ?_
  simp only [Act.put, z1, z2, z3]
  refine oQ 17 rfl (fun KK hK => ?_)
  have q1 := Ab.o.2.1
  have q2 := Ab.o.2.2.1
  have hS := Ab.o.2.2.2.1
  with_reducible refine da_ rfl (w' := w8.setCell ⟨J, 1, none⟩ (.slice A8 (n + 1) c8)) ?_ ?_
  ·go_simp; try with_reducible rfl
  refine hK.o _ _ hS (fun _ => ?_)
  clear hK KK HS
  have HS := kp hS
  clear hS
  try simp only [Act.put, z1, z2, z3]
  refine oQ 18 rfl (fun KK hK => ?_)
  have hm9 := Ab.o.2.2.2.2.1
  obtain ⟨w9, hw9⟩ := eX (w8.setCell ⟨J, 1, none⟩ (.slice A8 (n + 1) c8))
  rw [<- hw9] at hm9 Ab ⊢
  clear hw9
  with_reducible refine e9_ rfl 134 9 217 _ _ rfl s.M key ?_ ?_ fm hm9 Tryz.underlying134 Tryz.underlying9 (.pointer none) (Tryz.zeroValue217 _) ?_
  ·rfl
  ·rfl
  intro v9 born w10 hk10 he10
  have hS := Ab.o.2.2.2.2.2.1 w10 hk10
  obtain ⟨Aq, As⟩ := kq2 hk10 he10
  clear hk10 he10 hm9
  refine hK.o _ _ hS (fun _ => ?_)
  clear hK KK HS
  have HS := kp hS
  clear hS
  try simp only [Act.put, z1, z2, z3]
  refine tp 19 rfl rfl HS.o ?_
  simp only [Act.put, z1, z2, z3]
  refine oQ 20 rfl (fun KK hK => ?_)
  with_reducible refine dV_ rfl 134 _ _ _ rfl s.M born key (.pointer (some ⟨p, 0, none⟩)) ?_ ?_ ?_ fm As.o ?_
  ·rfl
  ·rfl
  ·rfl
  intro w11 hk11 hm11
  have hk12 := Aq.o.trans hk11
  have hS := Ab.o.2.2.2.2.2.1 w11 hk12
  have HP := kp (Ab.o.2.2.2.2.2.2 w11 hk12 hm11)
  clear hk11 hm11 hk12
  refine hK.o _ _ hS (fun _ => ?_)
  clear hK KK HS
  have HS := kp hS
  clear hS
  try simp only [Act.put, z1, z2, z3]
  refine wpAnyH_done (by kernel_rfl) ?_ _
  go_wp2_with fail
  go_end0
  exact ⟨rfl, _, es, _, Bq.o, HP.o.1, Ay.o.trans HP.o.2⟩
end Go.Proofs.YtnjhpgmbfblgaaaGreat.Ord
