/- A drawn region within a round at the widest fence: walked as a plain one; Walk of the. -/
import Derived.Test.YtnjhpgmbfblgaaaGreatMU30
import Derived.OrdersIn
import Derived.Test.YtnjhpgmbfblgaaaGreatMU41
import Derived.Deep.DeepCutAuto
import Derived.Deep.CutBlock
import Derived.Test.YtnjhpgmbfblgaaaGreatMU46
import Derived.Test.YtnjhpgmbfblgaaaGreatU47
import Derived.Test.YtnjhpgmbfblgaaaGreatU48
set_option linter.unusedVariables false
set_option linter.unusedSimpArgs false
namespace Go.Proofs.YtnjhpgmbfblgaaaGreat.Ord
open Go.RowKit
set_option maxRecDepth 100000
set_option maxHeartbeats 8000000
theorem es_ {P : Program} {Q : Exit -> Act -> World -> Prop} {n l : Nat} (hL : ¬ LetsOut Q) {o : Oper} (hd : ∀ c, o.op ≠ .defer c) {a : Act} {w : World} {K K2 : Act -> World -> Prop} (hK : ∀ a w, K a w -> K2 a w) (h : o.wp P a w K Q ∨ (o.asks P a w /\ LetsOut Q)) :
  o.wpIn (Fence.wide.inRound l) n P a w K2 Q := by
 rcases h with h | h
 ·refine ⟨fun _ _ => trivial, ?_⟩
  rw [Oper.semAt_eq _ _ _ hd]
  unfold Oper.wp at h
  generalize (execOp a.eval o).run P w = r at h
  cases r with
  | ok x w' =>
   cases x with
   | value v => exact hK _ _ h
   | skip => exact hK _ _ h
   | defer d => exact hK _ _ h
   | enter f args =>
    refine ⟨fun hh => (by cases hh), ?_⟩
    refine (callsIn_wide.2 h).mono ?_
    intro e w2 he
    cases e <;> first | exact hK _ _ he | exact he
   | row r args =>
    refine ⟨fun hh => (by cases hh), ?_⟩
    intro c cs _
    obtain ⟨v, w2, h1, h2⟩ := h c cs
    exact ⟨v, w2, hK _ _ h1, stepsIn_wide.2 h2⟩
   | _ => exact h.elim
  | halt x w' => cases x <;> first | exact h | exact h.elim
 exact absurd h.2 hL
theorem bk_ {P : Program} {md : Region.Mode} {ops : Array Oper} {Q : Exit -> Act -> World -> Prop} {n l : Nat} (hL : ¬ LetsOut Q) (hd : ∀ (i : Nat) (o : Oper), ops[i]? = some o -> ∀ c, o.op ≠ .defer c) :
  ∀ (fuel : Nat) (listed : Array Bool) (a : Act) (w : World), wpAny P md ops Q fuel listed a w -> wpAnyIn (Fence.wide.inRound l) n P md ops Q fuel listed a w
 | 0, _, _, _, h => h
 | fuel + 1, listed, a, w, h => by
  refine ⟨h.1, fun i hi => ?_⟩
  have hh := h.2 i hi
  unfold wpOp at hh
  unfold wpOpIn
  cases ho : ops[i]? with
  | none =>
   rw [ho] at hh
   exact bk_ hL hd fuel _ _ _ hh
  | some o =>
   rw [ho] at hh
   dsimp only at hh ⊢
   split
   ·rename_i hw
    rw [if_pos hw] at hh
    exact es_ hL (hd i o ho) (fun a w => bk_ hL hd fuel _ a w) hh
   rename_i hw
   rw [if_neg hw] at hh
   exact ⟨fun _ _ => trivial, bk_ hL hd fuel _ _ _ hh⟩
theorem cn_ {P : Program} {id : Nat} {ops : Array Oper} {Q : Exit -> Act -> World -> Prop} {n l : Nat} {a : Act} {w : World} (hm : P.follows .mixedOrders = true) (hd : ops.toList.all (fun o => match o.op with | .defer _ => false | _ => true) = true)
  (h : wpAny P .any ops (Exit.then (Q .normal) (fun _ _ _ => False)) ops.size (Array.replicate ops.size false) a w.drew) : (Code.region id ops true).wpIn (Fence.wide.inRound l) n P Q a w := by
 have h2 := bk_ (n := n) (l := l) (by rintro ⟨_, _, h⟩; exact h) (fun i o ho c hc => by
  have h3 := List.all_eq_true.1 hd o (by simpa using Array.mem_of_getElem? ho)
  rw [hc] at h3
  cases h3) _ _ _ _ h
 exact Go.wpIn_mono (Q := Exit.then (Q .normal) (fun _ _ _ => False)) (wpIn_region_any hm h2) (fun e a w h => by cases e <;> first | exact h | exact h.elim)
attribute [local go_sem] Oper.semAt_some
theorem gr_ {P : Program} {c : Code} {K : Act -> World -> Prop} {Q : Exit -> Act -> World -> Prop} {a : Act} {w : World} (h : c.wp P (Exit.then K (fun _ _ _ => False)) a w) : c.wp P (Exit.then K Q) a w := by
 refine wp_mono h ?_
 intro e a w h
 cases e <;> first | exact h | exact False.elim h
def cT_ (tag : ByteArray) (tim : Int) (y : WrR) : WrR := if hasS y.tags tag = true then { y with soft := min y.soft tim } else y
theorem je_ (tag : ByteArray) (tim : Int) (y : WrR) : (cT_ tag tim y).key = y.key /\ (cT_ tag tim y).val = y.val /\ (cT_ tag tim y).tags = y.tags /\ (cT_ tag tim y).dl = y.dl /\ (cT_ tag tim y).gone = y.gone := by
 unfold cT_
 split <;> exact ⟨rfl, rfl, rfl, rfl, rfl⟩
theorem jf_ (tag : ByteArray) (tim : Int) (y : WrR) : cT_ tag tim (cT_ tag tim y) = cT_ tag tim y := by
 unfold cT_
 by_cases h : hasS y.tags tag = true
 ·rw [if_pos h, if_pos h]
  dsimp only
  have : min (min y.soft tim) tim = min y.soft tim := by omega
  rw [this]
 rw [if_neg h, if_neg h]
theorem swp_soft {x : CallR} (h : x.cmd.op = 9) (ht : IsT x.tim) (ws : List WrR) (hs : ∀ y ∈ ws, y.gone = 0 -> y.soft = nev ∨ y.soft <= x.tim) : ws.map (swp x) = ws.map fun y => if y.gone = 0 then cT_ x.cmd.tag x.tim y else y := by
 apply List.map_congr_left
 intro y hy
 unfold swp cT_
 have hn : x.tim <= nev := by have := ht; unfold IsT at this; unfold nev; omega
 by_cases g : y.gone = 0
 ·rw [if_neg (by simpa using g), if_pos g]
  by_cases q : hasS y.tags x.cmd.tag = true
  ·rw [if_pos q]
   rcases hs y hy g with e | e
   ·rw [if_pos ⟨h, q, e⟩, e]
    have : min nev x.tim = x.tim := by omega
    rw [this]
   by_cases e2 : y.soft = nev
   ·rw [if_pos ⟨h, q, e2⟩, e2]
    have : min nev x.tim = x.tim := by omega
    rw [this]
   rw [if_neg (fun h => e2 h.2.2), if_neg (by rw [h]; intro h; rcases h with h | h | h; omega; omega; omega)]
   have : min y.soft x.tim = y.soft := by omega
   rw [this]
  rw [if_neg q, if_neg (fun h => q h.2.1), if_neg (by rw [h]; intro h; rcases h with h | h | h; omega; omega; omega)]
 rw [if_pos g, if_neg g]
theorem do73s (w : World) (lim J : Nat) (grace : Int) (ws : List WrR) (es : Edges) (s : JS) (h : JI w lim J grace ws es s) (x : CallR) (p : CallV) (hx : CallOk w lim x p) (hg : CalG x ws es) (hcl : x.cmd.op = 9 /\ ∀ y ∈ ws, y.gone = 0 -> y.soft = nev ∨ y.soft <= x.tim) :
  Calls Tryz.prog 73 #[ptV J, .agg (callC x p).toArray] w (dv_ w lim J grace ws es x) := by
 obtain ⟨LX, hLX⟩ := eY (callC x p)
 obtain ⟨LC, hLC⟩ := eY (cmdC x.cmd p.vk p.vv p.vt)
 obtain ⟨Aa, HH, HG, HX, Bb, Af⟩ := kq6 (boxF hLX hLC rfl hx) h hg hx hcl (boxL hLX hLC)
 have hlw := h.lw
 rw [hLX]
 clear hLX hLC h hx hg hcl
 obtain ⟨op, hop⟩ := eY x.cmd.op
 obtain ⟨key, hkey⟩ := eY x.cmd.key
 obtain ⟨tim, htim⟩ := eY x.tim
 obtain ⟨cnt, hcnt⟩ := eY x.resp.count
 obtain ⟨Ak, Ap, Am, At⟩ := kq4 hop hkey htim hcnt
 obtain ⟨X, hX⟩ := eY w.heap.size
 obtain ⟨W2, hW2⟩ := eX (w.alloc (.cells LX.toArray 52))
 have hX0 : RowL W2 X 52 LX := by rw [hW2, <- hX]; exact RowL.new w 52 LX
 have hb0 : Bw w W2 := by rw [hW2]; exact below1 w _
 have Ah := kp hb0
 clear hb0
 unfold ptV
 refine (callsIn_wide (n := 6)).1 (callsIn_of_wp_marks Tryz.func73 rfl trivial ?_ rfl)
 refine wpIn_wide.2 ?_
 simp only [Tryz.ntmps73, zS, List.length_cons, List.length_nil, Nat.reduceAdd, Nat.reduceSub, Array.replicate_succ, Array.replicate_zero, List.push_toArray, List.append_toArray, List.nil_append, List.cons_append]
 go_upto_region 1 with (fail)
 rw [<- hW2]
 try rw [hX]
 obtain ⟨V0, hV0⟩ := eX W2.drew
 have Aw := kp (show Bw w V0 by rw [hV0]; exact ⟨Ah.o.os, Ah.o.tape, Ah.o.output, Ah.o.size, Ah.o.block⟩)
 have hX1 : RowL V0 X 52 LX := by rw [hV0]; exact hX0
 have Be := kp hX
 clear hX hW2
 go_cut [4, 5] from 12 (fun s4 s5 W' => ∃ C, s4 = .pointer (some ⟨C, 0, none⟩) /\ s5 = .bool (cnt == 1) /\ RowL W' X 52 LX /\ RowL W' C 36 LC /\ Bw V0 W')
 case first =>
  refine gr_ ?_
  obtain ⟨An, Ac, Bn, Bl, Bk⟩ := kq5 (fun (W : World) (h : RowL W X 52 LX) => (show CellsAt W ⟨X, 3, none⟩ LC /\ W.cell? ⟨X, 17, none⟩ = some (.int .i64 cnt) from ⟨(Aa.o.sx W X h).1, At.o ▸ h.cell Af.o.1⟩)) Aa.o.sz1 Aa.o.len.1 Aa.o.one.1 Aa.o.put.1
  refine wp_region_held_drew (S := fun W => CellsAt W ⟨X, 3, none⟩ LC /\ W.cell? ⟨X, 17, none⟩ = some (.int .i64 cnt)) (by kernel_rfl) (An.o _ hX0) (fun hS => ?_)
  rw [<- hV0] at hS ⊢
  have HS := kp hS
  clear hS hX0 hV0
  refine tp 0 rfl rfl HS.o ?_
  simp only [Act.put, z1, z2, z3]
  refine tq 1 (.agg LC.toArray) rfl (yields_aggU rfl 36 _ rfl ⟨X, 3, none⟩ rfl LC _ (fun W hW => hW.1) Tryz.underlying36 Ac.o) HS.o ?_
  simp only [Act.put, z1, z2, z3]
  refine tp 2 rfl rfl HS.o ?_
  simp only [Act.put, z1, z2, z3]
  refine tp 3 rfl rfl HS.o ?_
  simp only [Act.put, z1, z2, z3]
  refine tq 4 ?_ rfl (Or.inl ⟨by rfl, ?_⟩) HS.o ?_
  rotate_left 1
  ·intro w hw; have q := hw.2; go_simp; try with_reducible rfl
  simp only [Act.put, z1, z2, z3]
  refine tp 5 rfl rfl HS.o ?_
  simp only [Act.put, z1, z2, z3]
  refine oQ 6 rfl (fun KK hK => ?_)
  with_reducible refine aw_ rfl (w' := V0.alloc (.cells ([.int .i64 0, .string ⟨#[]⟩, .slice none 0 0, .slice none 0 0, .slice none 0 0, .int .u64 0, .int .u64 0, .string ⟨#[]⟩, .string ⟨#[]⟩, .string ⟨#[]⟩] : List Value).toArray 36)) (.pointer (some ⟨V0.heap.size, 0, none⟩)) ?_ ?_
  ·go_simp; try with_reducible rfl
  have hC := RowL.new V0 36 [.int .i64 0, .string ⟨#[]⟩, .slice none 0 0, .slice none 0 0, .slice none 0 0, .int .u64 0, .int .u64 0, .string ⟨#[]⟩, .string ⟨#[]⟩, .string ⟨#[]⟩]
  have hX := hX1.alloc (.cells ([.int .i64 0, .string ⟨#[]⟩, .slice none 0 0, .slice none 0 0, .slice none 0 0, .int .u64 0, .int .u64 0, .string ⟨#[]⟩, .string ⟨#[]⟩, .string ⟨#[]⟩] : List Value).toArray 36)
  have hB := (BR V0.heap.size V0).alloc (lR _) (.cells ([.int .i64 0, .string ⟨#[]⟩, .slice none 0 0, .slice none 0 0, .slice none 0 0, .int .u64 0, .int .u64 0, .string ⟨#[]⟩, .string ⟨#[]⟩, .string ⟨#[]⟩] : List Value).toArray 36)
  obtain ⟨C, hCe⟩ := eY V0.heap.size
  have hLC := kp (show V0.heap.size <= C from Nat.le_of_eq hCe)
  rw [hCe] at hC ⊢
  clear hCe
  obtain ⟨V1, hN⟩ := eX (V0.alloc (.cells ([.int .i64 0, .string ⟨#[]⟩, .slice none 0 0, .slice none 0 0, .slice none 0 0, .int .u64 0, .int .u64 0, .string ⟨#[]⟩, .string ⟨#[]⟩, .string ⟨#[]⟩] : List Value).toArray 36))
  rw [<- hN] at hC hX hB ⊢
  clear hN
  have hS := An.o _ hX
  refine hK.o _ _ hS (fun _ => ?_)
  clear hK KK HS
  have HS := kp hS
  clear hS
  try simp only [Act.put, z1, z2, z3]
  refine oQ 7 rfl (fun KK hK => ?_)
  with_reducible refine al_ rfl 36 _ _ rfl C 0 LC.toArray ?_ ?_ ?_ ?_ ?_ ?_
  ·rfl
  ·rfl
  ·exact hC.there (by rw [Nat.zero_add, zS, Bn.o]; decide)
  ·rw [zS]; exact Ac.o
  ·exact Bl.o
  have nC := hC.setCells (o := 0) LC
  rw [Bk.o] at nC
  have nX := hX.setCellsOther (vs := LC) (o := 0) (hX.ne hC (by decide))
  have nB := hB.trans (ai_ LC 0 V1 (B := V0.heap.size) (b := C) hLC.o)
  obtain ⟨V2, hN⟩ := eX (V1.setCells C 0 LC)
  rw [<- hN] at nC nX nB ⊢
  clear hN hX hB hC
  have hS := An.o _ nX
  refine hK.o _ _ hS (fun _ => ?_)
  clear hK KK HS
  have HS := kp hS
  clear hS
  try simp only [Act.put, z1, z2, z3]
  refine tp 8 rfl rfl HS.o ?_
  simp only [Act.put, z1, z2, z3]
  refine wpAnyH_done (by kernel_rfl) ?_ _
  go_wp2_with fail
  go_meet
  case rel => exact ⟨C, rfl, rfl, nX, nC, nB⟩
 case rest =>
 obtain ⟨C, rfl, rfl, hX2, hC2, hB2⟩ := hcut
 obtain ⟨Av, Bc, Au⟩ := kq3 hX2 hC2 (Aw.o.trans (hB2.mono Aw.o.size))
 clear hX2 hC2 hB2 hX0 hX1 hV0
 go_upto_region 2 with (fail)
 obtain ⟨wq, rfl⟩ := eX wc
 go_cut [6] from 12 (fun s6 W' => ∃ FB, s6 = .pointer (some ⟨FB, 0, none⟩) /\ W'.cell? ⟨FB, 0, none⟩ = some (.func (.func 129) #[] #[.pointer (some ⟨C, 0, none⟩)]) /\ wq.heap.size <= FB /\ FB < W'.heap.size /\ Bw wq W')
 case first =>
  go_wp2_with fail
  go_meet
  case rel => exact ⟨_, rfl, by simp, lR _, by simp, (BR _ wq).alloc (lR _) _⟩
 case rest =>
 obtain ⟨FB, rfl, hFB, hFl, hFs, hbw⟩ := hcut
 obtain ⟨Ao, Aj⟩ := kq2 (Av.o.below hbw Av.o.lt) (Bc.o.below hbw Bc.o.lt)
 have hbB : Bw w wc := Au.o.trans (hbw.mono Au.o.size)
 obtain ⟨Bv, HJ, Bd, Ba, As⟩ := kq5 hbB (HH.o.below hbB) (hbB.mono hlw) hFB (And.intro (show lim <= FB from lT (lT hlw Au.o.size) hFl) hFs)
 obtain ⟨Bs, Bu, Br, Bq, Ab⟩ := kq5 (HX.o.below (Bd.o) (lR _)) (show lim <= X by rw [<- Be.o]; exact hlw) (fun (W : World) (h : RowL W C 36 LC) => (show W.cell? ⟨C, 0, none⟩ = some (.int .i64 op) from Ak.o ▸ h.cell Aa.o.c0)) (fun (W : World) (h : RowL W C 36 LC) => (show W.cell? ⟨C, 1, none⟩ = some (.string key) from Ap.o ▸ h.cell Aa.o.c1)) (fun (W : World) (h : RowL W X 52 LX) => (show W.cell? ⟨X, 22, none⟩ = some (.int .u64 tim) from Am.o ▸ h.cell Aa.o.atX))
 clear hbw hFl hFs hbB hFB
 have c0 := Br.o _ Aj.o
 have c1 := Bq.o _ Aj.o
 have x22 := Ab.o _ Ao.o
 obtain rfl : op = 9 := by rw [<- Ak.o]; exact Bb.o.1
 have Ar := As
 obtain ⟨f, hf⟩ := eY (cT_ x.cmd.tag x.tim)
 obtain ⟨HF, Bp, As⟩ := kq3 hf (fun y => (show (f y).key = y.key /\ (f y).val = y.val /\ (f y).tags = y.tags /\ (f y).dl = y.dl /\ (f y).gone = y.gone from hf ▸ je_ _ _ y)) (fun y => (show f (f y) = f y from hf ▸ jf_ _ _ y))
 clear hf
 have Ay := kp (fun (W : World) (y : WrR) (i p : Nat) (T : List Nat) (hJ : JI W lim J grace (bA_ f T ws) es s) (hy : (bA_ f T ws)[i]? = some y) (hp : s.ps[i]? = some p) (hc : RowL W C 36 LC) =>
  (show Calls Tryz.prog 129 #[ptV p, .pointer (some ⟨C, 0, none⟩)] W (DrwB (.bool (hasS y.tags x.cmd.tag)) W) from by
   obtain ⟨ts, t0, t1, t2⟩ := hJ.vals2 i y hy
   rw [<- bq_ t2]
   exact tag129 p C _ ts x.cmd.tag W ((hJ.wrs i y p hy hp).1.cell (j := 2) rfl) (b7_ t1 t0) (hc.cell Af.o.2.2.2.2.1)))
 unfold ptV at Ay
 have hMl := HJ.o.mapM.lt
 have hCl := HJ.o.mapC.lt
 have hlw2 := HJ.o.lw
 have Bg := kp (fun q (hq : q ∈ s.ps) => (show X ≠ q from fun e => by
  obtain ⟨i, hi⟩ := mI.1 hq
  have hil : i < ws.length := by rw [<- HJ.o.len]; exact (gS.1 hi).1
  exact Ao.o.ne (HJ.o.wrs i _ q (gE hil) hi).1 (by decide) e))
 have Bm := kp (fun q (hq : q ∈ s.ps) => (show FB ≠ q from fun e => by
  obtain ⟨i, hi⟩ := mI.1 hq
  have hil : i < ws.length := by rw [<- HJ.o.len]; exact (gS.1 hi).1
  have h2 := (HJ.o.wrs i _ q (gE hil) hi).1.cell (j := 0) rfl
  rw [<- e, Ba.o] at h2
  cases h2))
 go_wp2_with (go_at_call 135; refine (callsIn_wide.1 (eS_ Fence.wide 6 trivial rfl J wc)).mono ?_; rintro e w' ⟨rfl, rfl⟩)
 obtain ⟨W0, hW0⟩ := eY (wc.alloc (.cells #[ptV J] 133))
 rw [hW0]
 have hs0 : W0.heap.size = wc.heap.size + 1 := by rw [<- hW0]; simp
 have hb0 : Bw wc W0 := by rw [<- hW0]; exact (BR _ wc).alloc (lR _) _
 have hff2 := Ar.o
 have hOwn := PrgI.own (w := wc) (lim := lim) (J := J) (grace := grace) (f := f) (ws := ws) (es := es) (s := s) (C := C) (B3 := FB) (Bj := wc.heap.size) (B := W0.heap.size) (LC := LC) (g := .func (.func 129) #[] #[.pointer (some ⟨C, 0, none⟩)]) ⟨by omega, by omega, by omega, by omega⟩
 have HO := kp hOwn
 have h00 : PrgI wc W0 lim J grace f ws es s C FB wc.heap.size LC (.func (.func 129) #[] #[.pointer (some ⟨C, 0, none⟩)]) [] := ⟨by rw [dF_]; exact HJ.o.below hb0, Aj.o.below hb0 Aj.o.lt, (hb0.cell (p := ⟨FB, 0, none⟩) hff2.2).trans Ba.o, by rw [<- hW0]; simp [ptV], Kept.of_below hb0⟩
 have H00 := kp h00
 clear hOwn h00 hW0
 refine (wpIn_wide (n := 6)).1 (b8_ (α := IxW ws) rfl (by omega) (gf := 195) (lb := #[.pointer (some ⟨wc.heap.size, 0, none⟩)]) rfl trivial (enters_of Tryz.func195 (by kernel_rfl) rfl) (encs := fun x : IxW ws => #[ptV (s.ps.getD x.1 0)]) (fun _ => rfl)
  (fun xs => ∀ (i : Nat) (y : WrR), ws[i]? = some y -> (i ∈ xs.map (·.1) ↔ y.gone = 0)) (fun T W => PrgI wc W lim J grace f ws es s C FB wc.heap.size LC (.func (.func 129) #[] #[.pointer (some ⟨C, 0, none⟩)]) (T.map (·.1))) HO.o H00.o ?seq ?a1 ?assign ?body ?done)
 case seq =>
  intro l Jv W hsz hA hJI hY hJ0
  exact eR_ Fence.wide _ trivial rfl (by omega) l wc.heap.size J lim grace f (fun y => (Bp.o y).1) ws es s Jv W hA (fun pre W1 h1 => ⟨(hJI pre W1 h1).ji, (hJI pre W1 h1).bj, by omega⟩) hY hJ0
 case assign =>
  intro l x W K hK
  gi_wp2
  exact hK
 case body =>
  rintro l T ⟨i, hil⟩ W hI
  obtain ⟨y, hy⟩ : ∃ y, ws[i]? = some y := ⟨_, gE hil⟩
  obtain ⟨pp, hp⟩ := eY (s.ps.getD i 0)
  have hpi : s.ps[i]? = some pp := by
   rw [<- hp, List.getD_eq_getElem?_getD, gE (by rw [HH.o.len]; exact hil)]
   rfl
  obtain ⟨yy2, hy2⟩ := eY (if i ∈ T.map (·.1) then f y else y)
  have hya := dt_ (f := f) (T := T.map (·.1)) hy
  rw [hy2] at hya
  have hsn := e1_ (T := T.map (·.1)) hy As.o
  rw [hy2] at hsn
  have R1 := Ay.o W yy2 i pp _ hI.ji hya hpi hI.rc
  obtain ⟨r, hr⟩ := eY (hasS yy2.tags x.cmd.tag)
  rw [hr] at R1
  have b3 := hI.b3
  obtain ⟨HI, Ad, Ai, Ae, HR⟩ := kq5 hI hsn hya hpi hr
  obtain ⟨sf, hsf⟩ := eY yy2.soft
  have c4 : W.cell? ⟨pp, 4, none⟩ = some (.int .u64 sf) := hsf ▸ (hI.ji.wrs i yy2 pp hya hpi).1.cell (j := 4) rfl
  have z4 : W.frozen? ⟨pp, 4, none⟩ = false := (hI.ji.wrs i yy2 pp hya hpi).1.frozen 4
  have xw := Ab.o W (hI.kp.row (fun hm => Bg.o X hm rfl) Ao.o)
  dsimp only
  first | rw [hp] | (rw [hpi]; simp only [Option.getD_some])
  try unfold ptV
  obtain ⟨R2, Ax⟩ := kq2 R1 hsf
  clear hI hsn hya hpi hy2 hr R1 hsf c0 c1 x22
  obtain ⟨Bh, Bi⟩ := kq2 (HJ.o.p_ne.2.2.2.2.2.1 pp (mG Ae.o)).1 (mG Ae.o)
  cases r
  ·have hfy : f yy2 = yy2 := by rw [<- HF.o]; unfold cT_; rw [if_neg (by simp only [HR.o]; simp)]
   rw [hfy] at Ad
   have Bf := kp (Ad.o.trans (iz_ Ai.o))
   clear hfy Ad
   gi_wp2_with (refine ⟨trivial, ?_⟩; gi_at_call 129; refine (CallsIn.inRound l (callsIn_wide.2 R2.o)).mono ?_; rintro e w' ⟨rfl, q, rfl⟩)
   have hd := ag_ W q
   refine ⟨⟨hd.size, fun k o hk ho => hk⟩, ⟨?_, HI.o.rc.below hd HI.o.rc.lt, HI.o.b3, HI.o.bj, HI.o.kp.trans (Kept.of_below hd)⟩⟩
   rw [List.map_append, List.map_cons, List.map_nil, Bf.o]
   exact HI.o.ji.below hd
  have hfy : f yy2 = { yy2 with soft := min yy2.soft x.tim } := by rw [<- HF.o]; unfold cT_; rw [if_pos (by first | rfl | (simp only [HR.o]))]
  rw [hfy, Ax.o, htim] at Ad
  gi_wp2_with (refine ⟨trivial, ?_⟩; gi_at_call 129; refine (CallsIn.inRound l (callsIn_wide.2 R2.o)).mono ?_; rintro e w' ⟨rfl, q, rfl⟩)
  refine cn_ rfl rfl ?_
  refine wpAny_take (i := 0) (v := ?_) rfl (by kernel_rfl) (by kernel_rfl) (by kernel_rfl) (fun _ _ _ h => h) (Or.inl ⟨by rfl, ?_⟩) ?_
  rotate_left 1
  ·intro w; go_simp; try with_reducible rfl
  simp only [Act.put, z1, z2, z3]
  refine wpAny_take (i := 1) (v := ?_) rfl (by kernel_rfl) (by kernel_rfl) (by kernel_rfl) (fun _ _ _ h => h) (Or.inl ⟨by rfl, ?_⟩) ?_
  rotate_left 1
  ·intro w; go_simp; try with_reducible rfl
  simp only [Act.put, z1, z2, z3]
  refine wpAny_take (i := 2) (v := ?_) rfl (by kernel_rfl) (by kernel_rfl) (by kernel_rfl) (fun _ _ _ h => h) (Or.inl ⟨by rfl, ?_⟩) ?_
  rotate_left 1
  ·intro w; go_simp; try with_reducible rfl
  simp only [Act.put, z1, z2, z3]
  refine wpAny_take (i := 3) (v := ?_) rfl (by kernel_rfl) (by kernel_rfl) (by kernel_rfl) (fun _ _ _ h => h) (Or.inl ⟨by rfl, ?_⟩) ?_
  rotate_left 1
  ·intro w; go_simp; try with_reducible rfl
  simp only [Act.put, z1, z2, z3]
  refine wpAny_take (i := 5) (v := ?_) rfl (by kernel_rfl) (by kernel_rfl) (by kernel_rfl) (fun _ _ _ h => h) (Or.inl ⟨by rfl, ?_⟩) ?_
  rotate_left 1
  ·intro w; go_simp; try with_reducible rfl
  simp only [Act.put, z1, z2, z3]
  have hd := ag_ W (q + 1)
  have hJ2 := HI.o.ji.below hd
  have htm := hJ2.times yy2 (mG Ai.o)
  have hmt : IsT (min sf tim) := by
   have h1 := htm.1
   have h2 := HG.o.tim
   rw [Ax.o] at h1
   rw [htim] at h2
   unfold IsT at *
   omega
  obtain ⟨s1, s2, s3⟩ := hJ2.setW Ai.o Ae.o (j := 4) (v := .int .u64 (min sf tim)) (x' := { yy2 with soft := min sf tim }) rfl ⟨rfl, rfl, rfl, fun h => h, hmt, htm.2⟩
  have ko := KeepsOthers.setCell (W.drewN (q + 1)) ⟨pp, 4, none⟩ (.int .u64 (min sf tim))
  have hCp : C ≠ pp := HI.o.rc.ne (hJ2.wrs i yy2 pp Ai.o Ae.o).1 (by decide)
  have hnf := Bm.o pp (mG Ae.o)
  have Ag := kp (show PrgI wc ((W.drewN (q + 1)).setCell ⟨pp, 4, none⟩ (.int .u64 (min sf tim))) lim J grace f ws es s C FB wc.heap.size LC (.func (.func 129) #[] #[.pointer (some ⟨C, 0, none⟩)]) (List.map (fun x => x.val) (T ++ [⟨i, hil⟩])) from
   ⟨by rw [List.map_append, List.map_cons, List.map_nil, Ad.o]; exact s1, s2.row (by simpa using hCp) (HI.o.rc.below hd HI.o.rc.lt), s2.cell (p := ⟨FB, 0, none⟩) (by simp; omega) HI.o.b3, s2.cell (p := ⟨wc.heap.size, 0, none⟩) (by simp; have := Bh.o; omega) HI.o.bj, (HI.o.kp.trans (Kept.of_below hd)).trans (s2.mono fun b hb => by simp at hb; subst hb; exact Bi.o)⟩)
  have Al := kp ko
  clear hd hJ2 htm hmt s1 s2 s3 ko hCp hnf
  refine wpAny_ready (rs := [4, 6]) (by kernel_rfl) (by simp) ?_
  refine AllReady.cons rfl (fun KK hK => ?_) ?_
  ·go_simp
   refine hK _ _ ?_
   clear hK KK
   refine wpAny_ready (rs := [6]) (by kernel_rfl) (by simp) ?_
   refine AllReady.cons rfl (fun KK hK => ?_) AllReady.nil
   go_simp
   refine hK _ _ ?_
   clear hK KK
   refine wpAny_ready (rs := [7]) (by kernel_rfl) (by simp) ?_
   refine AllReady.cons rfl (fun KK hK => ?_) AllReady.nil
   go_simp
   refine hK _ _ ?_
   clear hK KK
   refine wpAny_take (i := 8) (v := ?_) rfl (by kernel_rfl) (by kernel_rfl) (by kernel_rfl) (fun _ _ _ h => h) (Or.inl ⟨by rfl, ?_⟩) ?_
   rotate_left 1
   ·intro w; go_simp; try with_reducible rfl
   simp only [Act.put, z1, z2, z3]
   refine wpAny_take (i := 9) (v := ?_) rfl (by kernel_rfl) (by kernel_rfl) (by kernel_rfl) (fun _ _ _ h => h) (Or.inl ⟨by rfl, ?_⟩) ?_
   rotate_left 1
   ·intro w; go_simp; try with_reducible rfl
   simp only [Act.put, z1, z2, z3]
   refine wpAny_ready (rs := [10]) (by kernel_rfl) (by simp) ?_
   refine AllReady.cons rfl (fun KK hK => ?_) AllReady.nil
   go_simp
   refine hK _ _ ?_
   clear hK KK
   refine wpAny_done (by kernel_rfl) ?_ _
   exact ⟨⟨Al.o.size, Al.o.same⟩, Ag.o⟩
  refine AllReady.cons rfl (fun KK hK => ?_) AllReady.nil
  go_simp
  refine hK _ _ ?_
  clear hK KK
  refine wpAny_ready (rs := [4]) (by kernel_rfl) (by simp) ?_
  refine AllReady.cons rfl (fun KK hK => ?_) AllReady.nil
  go_simp
  refine hK _ _ ?_
  clear hK KK
  refine wpAny_ready (rs := [7]) (by kernel_rfl) (by simp) ?_
  refine AllReady.cons rfl (fun KK hK => ?_) AllReady.nil
  go_simp
  refine hK _ _ ?_
  clear hK KK
  refine wpAny_take (i := 8) (v := ?_) rfl (by kernel_rfl) (by kernel_rfl) (by kernel_rfl) (fun _ _ _ h => h) (Or.inl ⟨by rfl, ?_⟩) ?_
  rotate_left 1
  ·intro w; go_simp; try with_reducible rfl
  simp only [Act.put, z1, z2, z3]
  refine wpAny_take (i := 9) (v := ?_) rfl (by kernel_rfl) (by kernel_rfl) (by kernel_rfl) (fun _ _ _ h => h) (Or.inl ⟨by rfl, ?_⟩) ?_
  rotate_left 1
  ·intro w; go_simp; try with_reducible rfl
  simp only [Act.put, z1, z2, z3]
  refine wpAny_ready (rs := [10]) (by kernel_rfl) (by simp) ?_
  refine AllReady.cons rfl (fun KK hK => ?_) AllReady.nil
  go_simp
  refine hK _ _ ?_
  clear hK KK
  refine wpAny_done (by kernel_rfl) ?_ _
  exact ⟨⟨Al.o.size, Al.o.same⟩, Ag.o⟩
 case done =>
  rintro D xs W hD hS hI hK
  obtain ⟨Az, Bt, Bo, Aq⟩ := kq4 (HO.o.putObj (.deferred none) hI hD hK rfl) hS hK (fS_ (f := f) hS)
  clear hS hI hK
  gi_wp2
  refine ⟨by simp, .inl ⟨_, _, rfl, run_takeDeferred Bo.o, ?_⟩⟩
  have hj := Az.o.ji
  rw [Aq.o, <- HF.o] at hj
  exact ⟨_, results_none rfl _ _ _, rfl, _, es, s, ⟨ws, by unfold MidS; rw [Ak.o, if_neg (by omega), if_neg (by omega), if_neg (by omega), if_neg (by omega)]; exact ⟨rfl, rfl⟩, (swp_soft Ak.o HG.o.tim ws Bb.o.2).symm⟩, hj, Bd.o.trans (Az.o.kp.below HJ.o.lw fun q hq => (HJ.o.p_ne.2.2.2.2.2.1 q hq).2)⟩
theorem do73 (w : World) (lim J : Nat) (grace : Int) (ws : List WrR) (es : Edges) (s : JS) (h : JI w lim J grace ws es s) (x : CallR) (p : CallV) (hx : CallOk w lim x p) (hg : CalG x ws es)
  (hs : x.cmd.op = 9 -> ∀ y ∈ ws, y.gone = 0 -> y.soft = nev ∨ y.soft <= x.tim) :
  Calls Tryz.prog 73 #[ptV J, .agg (callC x p).toArray] w (dv_ w lim J grace ws es x) := by
 by_cases h1 : x.cmd.op = 1 ∨ x.cmd.op = 2 ∨ x.cmd.op = 3
 ·exact do73a w lim J grace ws es s h x p hx hg h1
 by_cases h2 : x.cmd.op = 6
 ·exact do73t w lim J grace ws es s h x p hx hg h2
 by_cases h3 : x.cmd.op = 7 ∨ x.cmd.op = 13
 ·exact do73i w lim J grace ws es s h x p hx hg h3
 by_cases h4 : x.cmd.op = 8 ∨ x.cmd.op = 10 ∨ x.cmd.op = 14
 ·exact do73p w lim J grace ws es s h x p hx hg h4
 by_cases h5 : x.cmd.op = 9
 ·exact do73s w lim J grace ws es s h x p hx hg ⟨h5, hs h5⟩
 by_cases h6 : x.cmd.op = 11
 ·exact do73e w lim J grace ws es s h x p hx hg h6
 by_cases h7 : x.cmd.op = 12
 ·exact do73d w lim J grace ws es s h x p hx hg h7
 exact do73z w lim J grace ws es s h x p hx hg (by omega)
end Go.Proofs.YtnjhpgmbfblgaaaGreat.Ord
