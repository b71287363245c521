/- The laws of Check: a judge that was just made; what is answered; The common beginning of. -/
import Derived.Test.YtnjhpgmbfblgaaaGreatMU30
import Derived.Test.YtnjhpgmbfblgaaaGreatMU51
import Derived.Test.YtnjhpgmbfblgaaaGreatU40
import Derived.Test.YtnjhpgmbfblgaaaGreatMU46
import Derived.Test.YtnjhpgmbfblgaaaGreatMU37
set_option linter.unusedVariables false
set_option linter.unusedSimpArgs false
namespace Go.Proofs.YtnjhpgmbfblgaaaGreat.Ord
open Go.RowKit
set_option maxRecDepth 100000
set_option maxHeartbeats 4000000
def atR (r : Option (Nat × Int)) : Int := match r with
 | none => -1
 | some x => (x.1 : Int)
def fltR (r : Option (Nat × Int)) : Int := match r with
 | none => 0
 | some x => x.2
structure RowG (w : World) (A : Option Addr) (L : List (CallR × CallV)) : Prop where
 row : RowCO w w.heap.size A L
 small : ∀ x ∈ L, CallS x.1
 rng : ∀ x ∈ L, Rng x.1 /\ IsT x.1.tim
 cap : ∀ x ∈ L, CapI x.1 x.2
 len : L.length <= 4096
def ChkP (grace : Int) (L : List (CallR × CallV)) (r : Option (Nat × Int)) : Prop := ∃ ys, aO_ (toL L) = some ys /\ RunC grace (L.map (·.1)) ys [] [] r
theorem ChkP.fun {grace : Int} {L : List (CallR × CallV)} {r r' : Option (Nat × Int)} (h : ChkP grace L r) (h' : ChkP grace L r') : r = r' := by
 obtain ⟨ys, h1, h2⟩ := h
 obtain ⟨zs, h3, h4⟩ := h'
 rw [h1] at h3
 cases h3
 exact h2.fun h4
theorem RowCO.mono {B B' : Nat} {w : World} {A : Option Addr} {L : List (CallR × CallV)} (h : RowCO w B A L) (hB : B <= B') : RowCO w B' A L := fun i x hi => by
 obtain ⟨b, off, h1, h2, h3, h4⟩ := h i x hi
 exact ⟨b, off, h1, by omega, h3, h4.mono hB⟩
def lF_ (grace : Int) (L : List (CallR × CallV)) (w : World) (bad : Value) (ok : Value) (e : Ending) (w' : World) : Prop :=
 (¬ ValidP singleB (L.map (·.1)) -> e = .returned (.tuple #[.int .i64 0, .int .i64 0, bad])) /\
 (ValidP singleB (L.map (·.1)) -> ∃ r, ChkP grace L r /\ e = .returned (.tuple #[.int .i64 (atR r), .int .i64 (fltR r), ok])) /\ Bw w w'
theorem JI.start (W : World) (grace : Int) (hg : IsT grace) : JI (((W.alloc (.map #[] 0)).alloc (.map #[] 0)).alloc (.cells #[.int .u64 grace, .slice none 0 0, .map (some W.heap.size), .map (some (W.heap.size + 1))] 138)) W.heap.size (W.heap.size + 2) grace [] []
  ⟨W.heap.size, W.heap.size + 1, [], fun _ => (.slice none 0 0, .slice none 0 0), fun _ => none, .slice none 0 0⟩ := by
 have m1 := MapS.new W
 have m2 := MapS.new (W.alloc (.map #[] 0))
 have r := RowL.new ((W.alloc (.map #[] 0)).alloc (.map #[] 0)) 138 [.int .u64 grace, .slice none 0 0, .map (some W.heap.size), .map (some (W.heap.size + 1))]
 have e2 : ((W.alloc (.map #[] 0)).alloc (.map #[] 0)).heap.size = W.heap.size + 2 := by simp
 have e1 : (W.alloc (.map #[] 0)).heap.size = W.heap.size + 1 := by simp
 rw [e2] at r
 rw [e1] at m2
 have b1 : Below (W.heap.size + 1) (W.alloc (.map #[] 0)) (((W.alloc (.map #[] 0)).alloc (.map #[] 0)).alloc (.cells #[.int .u64 grace, .slice none 0 0, .map (some W.heap.size), .map (some (W.heap.size + 1))] 138)) :=
  ((BR _ _).alloc (by simp) _).alloc (by rw [e2]; omega) _
 have b2 : Below (W.heap.size + 2) ((W.alloc (.map #[] 0)).alloc (.map #[] 0)) (((W.alloc (.map #[] 0)).alloc (.map #[] 0)).alloc (.cells #[.int .u64 grace, .slice none 0 0, .map (some W.heap.size), .map (some (W.heap.size + 1))] 138)) :=
  (BR _ _).alloc (by rw [e2]; exact lR _) _
 exact ⟨r, hg, World.ownsRow_nil _ _ _ _, rfl, List.nodup_nil, by simp, by simp, (m1.of_block (b1.block _ (by omega))).congr fun k => rfl, m2.of_block (b2.block _ (by omega)), by show W.heap.size ≠ W.heap.size + 1; omega,
  fun i x p hi => (by simp at hi), fun x hx => (by simp at hx), fun i x hi => (by simp at hi), fun i x hi => (by simp at hi), fun k v hk => (by cases hk), fun k _ => rfl, fun k k' v v' b hk => (by cases hk), fun i x k v b hi => (by simp at hi), fun i x hi => (by simp at hi),
  by omega, lR _, by show W.heap.size <= W.heap.size + 1; omega, by rw [World.size_alloc, e2]; omega⟩
set_option maxHeartbeats 8000000
noncomputable def restR : Code := sndC (sndC (Tryz.f75.body.getD .ret))
noncomputable def tailR : Code := sndC restR
structure PreR (w : World) (lim : LimP) (K : Nat) (grace : Int) (ws : List WrR) (es : Edges) (s : KS) (x : CallR) (Ak At Av : Option Addr) (ck ct cv : Nat) (vi vn : Value) (nk nv nt : Nat) (op : Int) (key : ByteArray) (life : Int) (tag pre chi : ByteArray) (tim cnt ver : Int) (LX LC : List Value) (C X : Nat) (W2 : World) : Prop where
 f0 : x.cmd.keys.length = nk
 f1 : x.cmd.val.length = nv
 f2 : x.cmd.tags.length = nt
 f3 : x.cmd.op = op
 f4 : x.cmd.key = key
 f5 : x.cmd.life = life
 f6 : x.cmd.tag = tag
 f7 : x.cmd.pre = pre
 f8 : x.cmd.chi = chi
 f9 : x.tim = tim
 f10 : x.resp.count = cnt
 f11 : x.cmd.ver = ver
 f12 : Hid (ElV Value.string w lim At x.cmd.tags)
 f13 : Hid (DatG w lim (.slice Av nv cv) x.cmd.val)
 f14 : Hid (Bw w W2)
 f15 : Hid (KI W2 lim K grace ws es s)
 f16 : Hid (lim.n <= X /\ lim.n <= C)
 f17 : Hid (RowL W2 X 52 LX)
 f18 : Hid (RowL W2 C 36 LC)
 f19 : Hid (∀ W : World, RowL W X 52 LX -> W.cell? ⟨X, 17, none⟩ = some (.int .i64 cnt))
 f20 : Hid (∀ W : World, RowL W X 52 LX -> W.cell? ⟨X, 22, none⟩ = some (.int .u64 tim))
 f21 : Hid (∀ W : World, RowL W C 36 LC -> W.cell? ⟨C, 0, none⟩ = some (.int .i64 op))
 f22 : Hid (∀ W : World, RowL W C 36 LC -> W.cell? ⟨C, 1, none⟩ = some (.string key))
 f23 : Hid (∀ W : World, RowL W C 36 LC -> W.cell? ⟨C, 3, none⟩ = some (.slice Av nv cv))
 f24 : Hid (∀ W : World, RowL W C 36 LC -> W.cell? ⟨C, 4, none⟩ = some (.slice At nt ct))
 f25 : Hid (∀ W : World, RowL W C 36 LC -> W.cell? ⟨C, 5, none⟩ = some (.int .u64 life))
 f26 : Hid (∀ W : World, RowL W C 36 LC -> W.cell? ⟨C, 7, none⟩ = some (.string tag))
 f27 : Hid (∀ W : World, RowL W C 36 LC -> W.cell? ⟨C, 8, none⟩ = some (.string pre))
 f28 : Hid (∀ W : World, RowL W C 36 LC -> W.cell? ⟨C, 9, none⟩ = some (.string chi))
def PostR (w : World) (lim : LimP) (K : Nat) (grace : Int) (ws : List WrR) (es : Edges) (x : CallR) : Ending -> World -> Prop := fun e w' => e = .returned (.tuple #[]) /\ ∃ ws' es' s', DoS x ws es ws' es' /\ KI w' lim K grace ws' es' s' /\ Below lim w w'
theorem pre75 (w : World) (lim : LimP) (K : Nat) (grace : Int) (ws : List WrR) (es : Edges) (s : KS) (h : KI w lim K grace ws es s) (x : CallR) (p : CallV) (hx : CallOk w lim x p)
  (hk : ∀ (Ak At Av : Option Addr) (ck ct cv : Nat) (vi vn : Value) (nk nv nt : Nat) (op : Int) (key : ByteArray) (life : Int) (tag pre chi : ByteArray) (tim cnt ver : Int) (LX LC : List Value) (C X : Nat) (W2 : World), PreR w lim K grace ws es s x Ak At Av ck ct cv vi vn nk nv nt op key life tag pre chi tim cnt ver LX LC C X W2 -> ∀ u12 u13 u14 u17 u18 u19 u20 u21 u22 u23 u24 u25 u26 u27 u28 u29 u30 u31 u32 u33 u34 u35 u36 u37 u38 u39 u40 u41 u42 u43 u44 u45 u46 u47 u48 u49 u50 u51 u53 u54 u55 u56 u57 u58 u59 u60 u61 u62 u63 u64 u65 u66 u67 u68 u69 u70 u71 u72 u73 u75 u76 u77 u78 u79 u80 u81 u82 u83 u84 u85 u87 u88 u89 u90 u91 u92 u93 u95 u96 u97 u98 u99 u100 u101 u102 u103 u104 u105 u106 u107 u108 u109 u110 u111 u112 u113 u114 u115 u116 u117 u118 u119 u120 u121 u122 u123 u124 u125 u126 u127 u128 u129 u130 u131 u132 u133 u134 u135 u136 u137 u138 u139 u140 u141 u142 u143 u144 u145 u146 u147 u148 u149 u150 u151 u152 u153 u154 u155 u156 u157 u158 u159 u160 u161 u162 u164 u165 u166 u167 u168 u169 u170 u171 u172 u173 u174 u175 u176 u177 u178 u179 u180 u181 u182 u183 u184 u185 u186 u187 u189 u190 u191 u192 u193 u194 u195 u196 u197 u198 u199 u200 u201 u202 u203 u204 u205 u206 u207 u208 u209 u210 u211 u212 u213 u214 u215 u216 u217 u218 : Value,
   Code.wp Tryz.prog restR (bodyPost Tryz.prog Tryz.f75 (PostR w lim K grace ws es x)) ⟨#[.pointer (some ⟨K, 0, none⟩), .agg #[.int .i64 x.ses, .int .i64 x.num, .bool x.bad, .int .i64 op, .string key, .slice Ak nk ck, .slice Av nv cv, .slice At nt ct, .int .u64 life, .int .u64 ver, .string tag, .string pre, .string chi, .int .i64 x.resp.op, .int .i64 x.resp.err, vi, .int .u64 x.resp.ver, .int .i64 cnt, vn, .int .i64 x.asked, .int .i64 x.done, .int .i64 x.told, .int .u64 tim], undef, .pointer (some ⟨X, 0, none⟩), .pointer (some ⟨C, 0, none⟩), undef, undef, undef, undef, undef, undef, undef, u12, u13, u14, undef, undef, u17, u18, u19, u20, u21, u22, u23, u24, u25, u26, u27, u28, u29, u30, u31, u32, u33, u34, u35, u36, u37, u38, u39, u40, u41, u42, u43, u44, u45, u46, u47, u48, u49, u50, u51, undef, u53, u54, u55, u56, u57, u58, u59, u60, u61, u62, u63, u64, u65, u66, u67, u68, u69, u70, u71, u72, u73, undef, u75, u76, u77, u78, u79, u80, u81, u82, u83, u84, u85, undef, u87, u88, u89, u90, u91, u92, u93, undef, u95, u96, u97, u98, u99, u100, u101, u102, u103, u104, u105, u106, u107, u108, u109, u110, u111, u112, u113, u114, u115, u116, u117, u118, u119, u120, u121, u122, u123, u124, u125, u126, u127, u128, u129, u130, u131, u132, u133, u134, u135, u136, u137, u138, u139, u140, u141, u142, u143, u144, u145, u146, u147, u148, u149, u150, u151, u152, u153, u154, u155, u156, u157, u158, u159, u160, u161, u162, undef, u164, u165, u166, u167, u168, u169, u170, u171, u172, u173, u174, u175, u176, u177, u178, u179, u180, u181, u182, u183, u184, u185, u186, u187, undef, u189, u190, u191, u192, u193, u194, u195, u196, u197, u198, u199, u200, u201, u202, u203, u204, u205, u206, u207, u208, u209, u210, u211, u212, u213, u214, u215, u216, u217, u218], []⟩ W2) :
  Calls Tryz.prog 75 #[ptV K, .agg (callC x p).toArray] w (PostR w lim K grace ws es x) := by
 have HK := kp hk
 clear hk
 have HH := kp h
 obtain ⟨⟨⟨s1, Ak, ck, ek, hk1⟩, hv1, ⟨s4, At, ct, et, ht1⟩⟩, -⟩ := hx
 have hv0 := hv1
 obtain ⟨-, -, Av, cv, ev, -⟩ := hv0
 have Ad := kp ht1
 have hw := h.lw
 clear h hk1 s1 s4 ht1
 obtain ⟨⟨vk, vv, vt, vi, vn⟩, hp⟩ : ∃ q, p = q := ⟨_, rfl⟩
 subst hp
 dsimp only at ek ev et hv1
 subst ek ev et
 obtain ⟨nk, hnk⟩ := eY x.cmd.keys.length
 obtain ⟨nv, hnv⟩ := eY x.cmd.val.length
 obtain ⟨nt, hnt⟩ := eY x.cmd.tags.length
 obtain ⟨op, hop⟩ := eY x.cmd.op
 obtain ⟨key, hkey⟩ := eY x.cmd.key
 obtain ⟨life, hlife⟩ := eY x.cmd.life
 obtain ⟨tag, htag⟩ := eY x.cmd.tag
 obtain ⟨pre, hpre⟩ := eY x.cmd.pre
 obtain ⟨chi, hchi⟩ := eY x.cmd.chi
 obtain ⟨tim, htim⟩ := eY x.tim
 obtain ⟨cnt, hcnt⟩ := eY x.resp.count
 obtain ⟨ver, hver⟩ := eY x.cmd.ver
 unfold ptV callC fd_
 dsimp only
 have HV := kp hv1
 clear hv1
 rw [hnv] at HV
 rw [hnk, hnv, hnt, hop, hkey, hlife, htag, hpre, hchi, htim, hcnt, hver]
 obtain ⟨W2, hW2⟩ := eX ((w.alloc (.cells #[.int .i64 x.ses, .int .i64 x.num, .bool x.bad, .int .i64 op, .string key, .slice Ak nk ck, .slice Av nv cv, .slice At nt ct, .int .u64 life, .int .u64 ver, .string tag, .string pre, .string chi, .int .i64 x.resp.op, .int .i64 x.resp.err, vi, .int .u64 x.resp.ver, .int .i64 cnt, vn, .int .i64 x.asked, .int .i64 x.done, .int .i64 x.told, .int .u64 tim] 52)).alloc (.cells #[.int .i64 op, .string key, .slice Ak nk ck, .slice Av nv cv, .slice At nt ct, .int .u64 life, .int .u64 ver, .string tag, .string pre, .string chi] 36))
 go_enter Tryz.func75, Tryz.ntmps75
 go_upto_region 1 with (fail)
 go_cut [4] (fun s4 W' => s4 = .pointer (some ⟨w.heap.size + 1, 0, none⟩) /\ W' = W2)
 case first =>
  go_wp2_with fail
  go_meet
  case rel => exact ⟨by simp, by rw [hW2]⟩
 case rest =>
 obtain ⟨rfl, rfl⟩ := hcut
 obtain ⟨W2, rfl⟩ := eX wc
 obtain ⟨LX, hLX⟩ : ∃ L : List Value, [.int .i64 x.ses, .int .i64 x.num, .bool x.bad, .int .i64 op, .string key, .slice Ak nk ck, .slice Av nv cv, .slice At nt ct, .int .u64 life, .int .u64 ver, .string tag, .string pre, .string chi, .int .i64 x.resp.op, .int .i64 x.resp.err, vi, .int .u64 x.resp.ver, .int .i64 cnt, vn, .int .i64 x.asked, .int .i64 x.done, .int .i64 x.told, .int .u64 tim] = L := ⟨_, rfl⟩
 obtain ⟨LC, hLC⟩ : ∃ L : List Value, [.int .i64 op, .string key, .slice Ak nk ck, .slice Av nv cv, .slice At nt ct, .int .u64 life, .int .u64 ver, .string tag, .string pre, .string chi] = L := ⟨_, rfl⟩
 obtain ⟨hr1, hr2, hb⟩ := box2 w LX LC W2 (by rw [<- hLX, <- hLC]; exact hW2)
 obtain ⟨hB, Ag⟩ := kq2 hb (HH.o.below hb)
 clear hW2 hb
 obtain ⟨C, hC⟩ := eY (w.heap.size + 1)
 obtain ⟨X, hX⟩ := eY w.heap.size
 rw [hC] at hr2 ⊢
 rw [hX] at hr1 ⊢
 obtain ⟨Ac, Af, Ae, Ab, Aa, Ap, Ao, An, Am, Al, Aj, Ai⟩ := kq12 (show lim <= X /\ lim <= C by omega) hr1 hr2 (fun (W : World) (h : RowL W X 52 LX) => (show W.cell? ⟨X, 17, none⟩ = some (.int .i64 cnt) from h.cell (j := 17) (by rw [<- hLX]; rfl))) (fun (W : World) (h : RowL W X 52 LX) => (show W.cell? ⟨X, 22, none⟩ = some (.int .u64 tim) from h.cell (j := 22) (by rw [<- hLX]; rfl))) (fun (W : World) (h : RowL W C 36 LC) => (show W.cell? ⟨C, 0, none⟩ = some (.int .i64 op) from h.cell (j := 0) (by rw [<- hLC]; rfl))) (fun (W : World) (h : RowL W C 36 LC) => (show W.cell? ⟨C, 1, none⟩ = some (.string key) from h.cell (j := 1) (by rw [<- hLC]; rfl))) (fun (W : World) (h : RowL W C 36 LC) => (show W.cell? ⟨C, 3, none⟩ = some (.slice Av nv cv) from h.cell (j := 3) (by rw [<- hLC]; rfl))) (fun (W : World) (h : RowL W C 36 LC) => (show W.cell? ⟨C, 4, none⟩ = some (.slice At nt ct) from h.cell (j := 4) (by rw [<- hLC]; rfl))) (fun (W : World) (h : RowL W C 36 LC) => (show W.cell? ⟨C, 5, none⟩ = some (.int .u64 life) from h.cell (j := 5) (by rw [<- hLC]; rfl))) (fun (W : World) (h : RowL W C 36 LC) => (show W.cell? ⟨C, 7, none⟩ = some (.string tag) from h.cell (j := 7) (by rw [<- hLC]; rfl))) (fun (W : World) (h : RowL W C 36 LC) => (show W.cell? ⟨C, 8, none⟩ = some (.string pre) from h.cell (j := 8) (by rw [<- hLC]; rfl)))
 have Ah := kp (fun (W : World) (h : RowL W C 36 LC) => (show W.cell? ⟨C, 9, none⟩ = some (.string chi) from h.cell (j := 9) (by rw [<- hLC]; rfl)))
 clear hC hX hr1 hr2 hLX hLC
 refine (by assumption : ∀ (a : Act) (w1 : World), Code.wp Tryz.prog restR (bodyPost Tryz.prog Tryz.f75 (PostR w lim K grace ws es x)) a w1 -> _) _ _ ?_
 exact HK.o _ _ _ _ _ _ _ _ _ _ _ _ _ _ _ _ _ _ _ _ _ _ _ _ _ ⟨hnk, hnv, hnt, hop, hkey, hlife, htag, hpre, hchi, htim, hcnt, hver, Ad, HV, hB, Ag, Ac, Af, Ae, Ab, Aa, Ap, Ao, An, Am, Al, Aj, Ai, Ah⟩ _ _ _ _ _ _ _ _ _ _ _ _ _ _ _ _ _ _ _ _ _ _ _ _ _ _ _ _ _ _ _ _ _ _ _ _ _ _ _ _ _ _ _ _ _ _ _ _ _ _ _ _ _ _ _ _ _ _ _ _ _ _ _ _ _ _ _ _ _ _ _ _ _ _ _ _ _ _ _ _ _ _ _ _ _ _ _ _ _ _ _ _ _ _ _ _ _ _ _ _ _ _ _ _ _ _ _ _ _ _ _ _ _ _ _ _ _ _ _ _ _ _ _ _ _ _ _ _ _ _ _ _ _ _ _ _ _ _ _ _ _ _ _ _ _ _ _ _ _ _ _ _ _ _ _ _ _ _ _ _ _ _ _ _ _ _ _ _ _ _ _ _ _ _ _ _ _ _ _ _ _ _ _ _ _ _ _ _ _ _ _ _ _ _ _ _ _ _ _
theorem tail75 (w wc : World) (lim : LimP) (K : Nat) (grace : Int) (ws : List WrR) (es : Edges) (s : KS) (x : CallR) (Ak At Av : Option Addr) (ck ct cv : Nat) (vi vn : Value) (nk nv nt : Nat) (op : Int) (key : ByteArray) (life : Int) (tag pre chi : ByteArray) (tim cnt ver : Int) (LX LC : List Value) (C X : Nat) (W2 : World) (hp : PreR w lim K grace ws es s x Ak At Av ck ct cv vi vn nk nv nt op key life tag pre chi tim cnt ver LX LC C X W2) (hg : CalG x ws es)
  (hcut : Hid (∃ ws' es' s', MidS x ws es ws' es' /\ KI wc lim K grace ws' es' s' /\ RowL wc X 52 LX /\ RowL wc C 36 LC /\ Below lim w wc)) (u5 u6 u7 u8 u9 u12 u13 u14 u15 u16 u17 u18 u19 u20 u21 u22 u23 u24 u25 u26 u27 u28 u29 u30 u31 u32 u33 u34 u35 u36 u37 u38 u39 u40 u41 u42 u43 u44 u45 u46 u47 u48 u49 u50 u51 u52 u53 u54 u55 u56 u57 u58 u59 u60 u61 u62 u63 u64 u65 u66 u67 u68 u69 u70 u71 u72 u73 u74 u75 u76 u77 u78 u79 u80 u81 u82 u83 u84 u85 u86 u87 u88 u89 u90 u91 u92 u93 u94 u95 u96 u97 u98 u99 u100 u101 u102 u103 u104 u105 u106 u107 u108 u109 u110 u111 u112 u113 u114 u115 u116 u117 u118 u119 u120 u121 u122 u123 u124 u125 u126 u127 u128 u129 u130 u131 u132 u133 u134 u135 u136 u137 u138 u139 u140 u141 u142 u143 u144 u145 u146 u147 u148 u149 u150 u151 u152 u153 u154 u155 u156 u157 u158 u159 u160 u161 u162 u164 u165 u166 u167 u168 u169 u170 u171 u172 u173 u174 u175 u176 u177 u178 u179 u180 u181 u182 u183 u184 u185 u186 u187 u189 u190 u191 u192 u193 u194 u195 u196 u197 u198 u199 u200 u201 u202 u203 u204 u205 u206 u207 u208 u209 u210 u211 u212 u213 u214 u215 u216 u217 u218 : Value) :
  Code.wp Tryz.prog tailR (bodyPost Tryz.prog Tryz.f75 (PostR w lim K grace ws es x)) ⟨#[.pointer (some ⟨K, 0, none⟩), .agg #[.int .i64 x.ses, .int .i64 x.num, .bool x.bad, .int .i64 op, .string key, .slice Ak nk ck, .slice Av nv cv, .slice At nt ct, .int .u64 life, .int .u64 ver, .string tag, .string pre, .string chi, .int .i64 x.resp.op, .int .i64 x.resp.err, vi, .int .u64 x.resp.ver, .int .i64 cnt, vn, .int .i64 x.asked, .int .i64 x.done, .int .i64 x.told, .int .u64 tim], undef, .pointer (some ⟨X, 0, none⟩), .pointer (some ⟨C, 0, none⟩), u5, u6, u7, u8, u9, undef, undef, u12, u13, u14, u15, u16, u17, u18, u19, u20, u21, u22, u23, u24, u25, u26, u27, u28, u29, u30, u31, u32, u33, u34, u35, u36, u37, u38, u39, u40, u41, u42, u43, u44, u45, u46, u47, u48, u49, u50, u51, u52, u53, u54, u55, u56, u57, u58, u59, u60, u61, u62, u63, u64, u65, u66, u67, u68, u69, u70, u71, u72, u73, u74, u75, u76, u77, u78, u79, u80, u81, u82, u83, u84, u85, u86, u87, u88, u89, u90, u91, u92, u93, u94, u95, u96, u97, u98, u99, u100, u101, u102, u103, u104, u105, u106, u107, u108, u109, u110, u111, u112, u113, u114, u115, u116, u117, u118, u119, u120, u121, u122, u123, u124, u125, u126, u127, u128, u129, u130, u131, u132, u133, u134, u135, u136, u137, u138, u139, u140, u141, u142, u143, u144, u145, u146, u147, u148, u149, u150, u151, u152, u153, u154, u155, u156, u157, u158, u159, u160, u161, u162, undef, u164, u165, u166, u167, u168, u169, u170, u171, u172, u173, u174, u175, u176, u177, u178, u179, u180, u181, u182, u183, u184, u185, u186, u187, undef, u189, u190, u191, u192, u193, u194, u195, u196, u197, u198, u199, u200, u201, u202, u203, u204, u205, u206, u207, u208, u209, u210, u211, u212, u213, u214, u215, u216, u217, u218], []⟩ wc := by
 obtain ⟨hnk, hnv, hnt, hop, hkey, hlife, htag, hpre, hchi, htim, hcnt, hver, An, HV, hB, Ba, Bf, Au, Aa, Ap, Aj, Be, Bl, Bk, Bj, Bi, Bd, Bc, Bh⟩ := hp
 have HG := kp hg
 clear hg
 conv => arg 2; dsimp only [tailR, restR, sndC, Tryz.f75, Option.getD]
 unfold PostR
 obtain ⟨ws1, es1, s1, hm, hk, q1, q2, hbw⟩ := hcut.o
 have Al := kp hm
 clear hcut hm Au Aa Ba hB
 obtain ⟨m, hlen⟩ := eY ws1.length
 have hm5 : m <= 5000 := by rw [<- hlen]; exact hk.few
 obtain ⟨HL, Ao, HQ⟩ := kq3 hlen hk (show RowL wc X 52 LX /\ RowL wc C 36 LC /\ Below lim w wc from ⟨q1, q2, hbw⟩)
 clear hlen hk q1 q2 hbw
 go_wp2_with fail
 go_loopw [10] (fun s10 wr => ∃ (i : Nat), i <= m /\ s10 = .int .i64 i /\ Hid (KI wr lim K grace (mapP (swp x) i ws1) es1 s1) /\ Hid (RowL wr X 52 LX /\ RowL wr C 36 LC /\ Below lim w wr)) (fun j _ => m - (intOf j).toNat)
 case atStart => exact ⟨0, Nat.zero_le _, by go_num, kp (by rw [dj_]; exact Ao.o), HQ⟩
 obtain ⟨i, hi, rfl, HI, HR⟩ := hrel
 clear Ao HQ
 have hmx : m <= 9223372036854775807 := by omega
 have hc1 : wr.cell? ⟨K, 1, none⟩ = some s1.wv := HI.o.row.cell (j := 1) rfl
 obtain ⟨A1, c1, hwv⟩ : ∃ A1 c1, s1.wv = .slice A1 m c1 := by
  rcases HI.o.own.2 with ⟨h1, h2⟩ | ⟨g', cap, cur, h1, _⟩
  ·rw [aV_, HL.o] at h2
   exact ⟨none, 0, by rw [h1, h2]⟩
  rw [aV_, HL.o] at h1
  exact ⟨_, _, h1⟩
 rw [hwv] at hc1
 have Ah := kp hwv
 clear hwv
 by_cases hlt : i < m
 ·obtain ⟨y, hy⟩ : ∃ y, ws1[i]? = some y := ⟨ws1[i]'(by rw [HL.o]; exact hlt), gE _⟩
  have hy' := a8_ (f := swp x) hy
  have hg : decide ((i : Int) < (m : Int)) = true := eT_ (by omega)
  have hi1 : (i : Int) < (m : Int) := by omega
  have ho := HI.o.own
  rw [aV_, HL.o, Ah.o] at ho
  obtain ⟨g, rfl⟩ : ∃ g, A1 = some ⟨g, 0, none⟩ := by
   rcases ho.2 with ⟨_, h2⟩ | ⟨g', cap, cur, h1, _⟩
   ·omega
   cases h1; exact ⟨g', rfl⟩
  obtain ⟨ts, t0, t1, t2⟩ := HI.o.vals2 i y hy'
  have hvd := HI.o.vals1 i y hy'
  obtain ⟨⟨v1, v2⟩, hv⟩ : ∃ v, s1.vals i = v := ⟨_, rfl⟩
  rw [hv] at t1 hvd
  dsimp only at t1 hvd
  obtain ⟨-, -, Ay, cy, hvy, -⟩ := hvd
  subst hvy
  obtain ⟨tl, Aq, cq, hvt, hel⟩ := b7_ t1 t0
  subst hvt
  obtain ⟨nv2, hnv2⟩ := eY y.val.length
  obtain ⟨nt2, hnt2⟩ := eY ts.length
  obtain ⟨yk, hyk⟩ := eY y.key
  obtain ⟨dl, hdl⟩ := eY y.dl
  obtain ⟨gone, hgo⟩ := eY y.gone
  obtain ⟨soft, hso⟩ := eY y.soft
  rw [hnv2, hnt2] at hv
  have hrow : aP_ s1.vals i y = [.string yk, .slice Ay nv2 cy, .slice Aq nt2 cq, .int .u64 dl, .int .i64 gone, .int .u64 soft] := by
   unfold aP_
   rw [hv, hyk, hdl, hgo, hso]
   rfl
  have hcat : CellsAt wr ⟨g, i * 6, none⟩ [.string yk, .slice Ay nv2 cy, .slice Aq nt2 cq, .int .u64 dl, .int .i64 gone, .int .u64 soft] := fun j v hj => by
   have hj6 : j < 6 := (gS.1 hj).1
   rw [Addr.add_mid, ho.cellAt (i * 6 + j) (by omega), bo_ hy' hj6, hrow]
   exact hj
  obtain ⟨e0, e1, e2, e3, e4, e5⟩ := cR_ hcat
  have hb9 := below1 wr (.cells #[.string ⟨#[]⟩, .slice none 0 0, .slice none 0 0, .int .u64 0, .int .i64 0, .int .u64 0] 233)
  obtain ⟨wb, hwb⟩ := eX (wr.alloc (.cells #[.string yk, .slice Ay nv2 cy, .slice Aq nt2 cq, .int .u64 dl, .int .i64 gone, .int .u64 soft] 233))
  obtain ⟨HY, Bb, Bg, As, Ar, Az, Ai⟩ := kq7 hy hel hrow t2 (show nt2 <= maxLen by rw [<- hnt2]; exact t0) hnt2 (show y.key = yk /\ y.gone = gone /\ y.soft = soft from ⟨hyk, hgo, hso⟩)
  clear hy hy' ho t0 t1 t2 hv tl hel hnv2 hnt2 hyk hdl hgo hso hrow hcat hb9 hlt
  go_upto_region 33 with (fail)
  rw [<- hwb]
  have hbb : Bw wr wb := by rw [hwb]; exact below1 wr _
  have hry : RowL wb wr.heap.size 233 [.string yk, .slice Ay nv2 cy, .slice Aq nt2 cq, .int .u64 dl, .int .i64 gone, .int .u64 soft] := by rw [hwb]; exact RowL.new wr 233 [.string yk, .slice Ay nv2 cy, .slice Aq nt2 cq, .int .u64 dl, .int .i64 gone, .int .u64 soft]
  have Ab := kp (HI.o.below hbb)
  have hr2 : RowL wb X 52 LX /\ RowL wb C 36 LC /\ Below lim w wb := ⟨HR.o.1.below hbb HR.o.1.lt, HR.o.2.1.below hbb HR.o.2.1.lt, HR.o.2.2.trans (hbb.mono (lT HI.o.lw (lR _)))⟩
  have Aa := kp hr2
  have H147 := kp (show ∀ z, Calls Tryz.prog 147 #[.slice Aq nt2 cq, .string z] wb (bX_ (.bool (hasS y.tags z)) wb) from fun z => bq_ As.o z ▸ jJ_ Aq nt2 cq _ ts z wb Az.o Ar.o (Bb.o.below hbb (lR _)))
  have Ac := kp (show swp x y = y -> KI wb lim K grace (mapP (swp x) (i + 1) ws1) es1 s1 from fun h => by rw [dk_ HY.o h]; exact Ab.o)
  have Ad := kp (show ∀ (W : World), Bw wb W -> ∀ (j : Nat) (v : Value) (y' : WrR), j < 6 -> swp x y = y' -> aP_ s1.vals i y' = (aP_ s1.vals i y).set j v -> y'.val = y.val /\ y'.tags = y.tags /\ IsT y'.soft /\ IsT y'.dl -> KI (W.setCell ⟨g, i * 6 + j, none⟩ v) lim K grace (mapP (swp x) (i + 1) ws1) es1 s1 /\ RowL (W.setCell ⟨g, i * 6 + j, none⟩ v) X 52 LX /\ RowL (W.setCell ⟨g, i * 6 + j, none⟩ v) C 36 LC /\ Below lim w (W.setCell ⟨g, i * 6 + j, none⟩ v) from fun W hW j v y' hj hs hr hv => by
   obtain ⟨k1, k2, k3⟩ := (Ab.o.below hW).set (j := j) (v := v) Ah.o (a8_ HY.o) hj hr hv
   have ho := (Ab.o.below hW).own
   rw [Ah.o] at ho
   have n1 : X ∉ [g] := by
    simp only [List.mem_singleton]
    intro e
    exact ((Aa.o.1.below hW Aa.o.1.lt).ne_own ho (by decide)) (by rw [e]; rfl)
   have n2 : C ∉ [g] := by
    simp only [List.mem_singleton]
    intro e
    exact ((Aa.o.2.1.below hW Aa.o.2.1.lt).ne_own ho (by decide)) (by rw [e]; rfl)
   refine ⟨by rw [cw_ HY.o, hs]; exact k1, k2.row n1 (Aa.o.1.below hW Aa.o.1.lt), k2.row n2 (Aa.o.2.1.below hW Aa.o.2.1.lt), (Aa.o.2.2.trans (hW.mono Ab.o.lw)).trans (k2.below (Ab.o.below hW).lw fun b hb => by simp at hb; subst hb; exact k3)⟩)
  have f0 := hry.cell (j := 0) rfl
  have f2 := hry.cell (j := 2) rfl
  have f4 := hry.cell (j := 4) rfl
  have f5 := hry.cell (j := 5) rfl
  have x22 := Aj.o wb Aa.o.1
  have k0 := Be.o wb Aa.o.2.1
  have k7 := Bd.o wb Aa.o.2.1
  have k8 := Bc.o wb Aa.o.2.1
  have hc2 : wb.cell? ⟨K, 1, none⟩ = some (.slice (some ⟨g, 0, none⟩) m c1) := (hbb.cell (p := ⟨K, 1, none⟩) HI.o.row.lt).trans hc1
  have ho := Ab.o.own
  rw [aV_, HL.o, Ah.o] at ho
  have z4 := ho.frozenAt (i * 6 + 4)
  have z5 := ho.frozenAt (i * 6 + 5)
  obtain ⟨g4, hg4⟩ : ∃ e, wb.cell? ⟨g, i * 6 + 4, none⟩ = some e := ⟨_, (hbb.cell (p := ⟨g, i * 6 + 4, none⟩) (b4_ HI.o.own (by rw [Ah.o]; rfl))).trans e4⟩
  obtain ⟨g5, hg5⟩ : ∃ e, wb.cell? ⟨g, i * 6 + 5, none⟩ = some e := ⟨_, (hbb.cell (p := ⟨g, i * 6 + 5, none⟩) (b4_ HI.o.own (by rw [Ah.o]; rfl))).trans e5⟩
  obtain ⟨Ax, An, Aw, Am⟩ := kq4 hop htag hpre htim
  clear hwb hbb hry hr2 e0 e1 e2 e3 e4 e5 hc1 ho HI HR
  obtain ⟨Y, hY⟩ := eY wr.heap.size
  rw [hY] at f0 f2 f4 f5 ⊢
  clear hY
  by_cases hgn : gone = 0
  ·subst hgn
   have hsg : ¬ y.gone ≠ 0 := fun h => h Ai.o.2.1
   have Ae := kp (show swp x y = if op = 9 /\ hasS y.tags tag = true /\ soft = nev then { y with soft := tim } else if (op = 8 /\ hasS y.tags tag = true) ∨ (op = 10 /\ hasP yk pre = true) ∨ op = 14 then { y with gone := 2 } else y by
    unfold swp
    rw [if_neg hsg, Ax.o, An.o, Aw.o, Am.o, Ai.o.1, Ai.o.2.2])
   by_cases h9 : op = 9
   ·subst h9
    obtain ⟨r, hr⟩ := eY (hasS y.tags tag)
    have H1 := kp (H147.o tag)
    rw [hr] at H1
    have Af := kp hr
    clear H147 hr
    go_wp2_with fail
    refine H1.o.mono ?_
    rintro e w6 ⟨rfl, hw6⟩
    subst hw6
    clear H1
    cases r
    case true =>
     by_cases hso : soft = nev
     ·subst hso
      have Ag := kp (show swp x y = { y with soft := tim } by rw [Ae.o]; simp [Af.o])
      obtain ⟨k1, k2⟩ := Ad.o w6.drew (ag_ w6 1) 5 (.int .u64 tim) _ (by omega) Ag.o rfl ⟨rfl, rfl, Am.o ▸ HG.o.tim, (Ab.o.times y (mG (a8_ HY.o))).2⟩
      obtain ⟨K1, K2⟩ := kq2 k1 k2
      clear k1 k2 Ac Ad hsg Ab Aa
      go_wp2_with fail
      go_region_law (fail)
      all_goals
       go_wp2_with fail
       go_roundw
       case rel => exact ⟨i + 1, by omega, by go_num, K1, K2⟩
       simp [intOf]; omega
     have g5 : (soft == 18446744073709551615) = false := by simpa using hso
     have HK := kp (Ac.o (by rw [Ae.o, if_neg (fun h => hso h.2.2), if_neg (fun h => by rcases h with h | h | h; omega; omega; omega)]))
     clear Ac Ad
     go_wp2_with fail
     go_roundw
     case rel => exact ⟨i + 1, by omega, by go_num, HK, Aa⟩
     simp [intOf]; omega
    case false =>
     have HK := kp (Ac.o (by rw [Ae.o, if_neg (fun h => by rw [Af.o] at h; cases h.2.1), if_neg (fun h => by rcases h with h | h | h; omega; omega; omega)]))
     clear Ac Ad
     go_wp2_with fail
     go_roundw
     case rel => exact ⟨i + 1, by omega, by go_num, HK, Aa⟩
     simp [intOf]; omega
   by_cases h8 : op = 8
   ·subst h8
    obtain ⟨r, hr⟩ := eY (hasS y.tags tag)
    have H1 := kp (H147.o tag)
    rw [hr] at H1
    have Af := kp hr
    clear H147 hr
    go_wp2_with fail
    refine H1.o.mono ?_
    rintro e w6 ⟨rfl, hw6⟩
    subst hw6
    clear H1
    cases r
    case true =>
     have Ag := kp (show swp x y = { y with gone := 2 } by rw [Ae.o]; simp [Af.o])
     obtain ⟨k1, k2⟩ := Ad.o _ (BR _ _) 4 (.int .i64 2) _ (by omega) Ag.o rfl ⟨rfl, rfl, (Ab.o.times y (mG (a8_ HY.o))).1, (Ab.o.times y (mG (a8_ HY.o))).2⟩
     obtain ⟨K1, K2⟩ := kq2 k1 k2
     clear k1 k2 Ac Ad hsg Ab Aa
     go_wp2_with fail
     go_roundw
     case rel => exact ⟨i + 1, by omega, by go_num, K1, K2⟩
     simp [intOf]; omega
    case false =>
     have HK := kp (Ac.o (by rw [Ae.o, if_neg (by rintro ⟨h, _⟩; omega), if_neg (fun h => by rcases h with h | h | h; rw [Af.o] at h; cases h.2; omega; omega)]))
     clear Ac Ad
     go_wp2_with fail
     go_roundw
     case rel => exact ⟨i + 1, by omega, by go_num, HK, Aa⟩
     simp [intOf]; omega
   by_cases h10 : op = 10
   ·subst h10
    obtain ⟨r, hr⟩ := eY (hasP yk pre)
    have H1 := kp (kn_ yk pre wb)
    rw [hr] at H1
    have Af := kp hr
    clear H147 hr
    go_wp2_with fail
    refine H1.o.mono ?_
    rintro e w6 ⟨rfl, hw6⟩
    subst hw6
    clear H1
    cases r
    case true =>
     have Ag := kp (show swp x y = { y with gone := 2 } by rw [Ae.o]; simp [Af.o])
     obtain ⟨k1, k2⟩ := Ad.o _ (BR _ _) 4 (.int .i64 2) _ (by omega) Ag.o rfl ⟨rfl, rfl, (Ab.o.times y (mG (a8_ HY.o))).1, (Ab.o.times y (mG (a8_ HY.o))).2⟩
     obtain ⟨K1, K2⟩ := kq2 k1 k2
     clear k1 k2 Ac Ad hsg Ab Aa
     go_wp2_with fail
     go_roundw
     case rel => exact ⟨i + 1, by omega, by go_num, K1, K2⟩
     simp [intOf]; omega
    case false =>
     have HK := kp (Ac.o (by rw [Ae.o, if_neg (by rintro ⟨h, _⟩; omega), if_neg (fun h => by rcases h with h | h | h; omega; rw [Af.o] at h; cases h.2; omega)]))
     clear Ac Ad
     go_wp2_with fail
     go_roundw
     case rel => exact ⟨i + 1, by omega, by go_num, HK, Aa⟩
     simp [intOf]; omega
   by_cases h14 : op = 14
   ·subst h14
    have Ag := kp (show swp x y = { y with gone := 2 } by rw [Ae.o, if_neg (by rintro ⟨h, _⟩; omega), if_pos (.inr (.inr rfl))])
    obtain ⟨k1, k2⟩ := Ad.o _ (BR _ _) 4 (.int .i64 2) _ (by omega) Ag.o rfl ⟨rfl, rfl, (Ab.o.times y (mG (a8_ HY.o))).1, (Ab.o.times y (mG (a8_ HY.o))).2⟩
    obtain ⟨K1, K2⟩ := kq2 k1 k2
    clear k1 k2 Ac Ad H147 hsg Ab Aa
    go_wp2_with fail
    go_roundw
    case rel => exact ⟨i + 1, by omega, by go_num, K1, K2⟩
    simp [intOf]; omega
   have g9 : (op == 9) = false := by simpa using h9
   have g8 : (op == 8) = false := by simpa using h8
   have g10 : (op == 10) = false := by simpa using h10
   have g14 : (op == 14) = false := by simpa using h14
   have HK := kp (Ac.o (by rw [Ae.o, if_neg (fun h => h9 h.1), if_neg (fun h => by rcases h with h | h | h; exact h8 h.1; exact h10 h.1; exact h14 h)]))
   clear H147 Ac Ad h9 h8 h10 h14
   go_wp2_with fail
   go_roundw
   case rel => exact ⟨i + 1, by omega, by go_num, HK, Aa⟩
   simp [intOf]; omega
  have h2 : (gone != 0) = true := by simpa using hgn
  have HK := kp (Ac.o (by unfold swp; rw [if_pos (by rw [Ai.o.2.1]; exact hgn)]))
  clear H147 Ac Ad
  go_wp2_with fail
  go_roundw
  case rel => exact ⟨i + 1, by omega, by go_num, HK, Aa⟩
  simp [intOf]; omega
 obtain rfl : i = m := by omega
 have hg : decide ((i : Int) < (i : Int)) = false := by simp
 have HP := kp (show ∃ ws' es' s', DoS x ws es ws' es' /\ KI wr lim K grace ws' es' s' /\ Below lim w wr from ⟨_, es1, s1, ⟨ws1, Al.o, rfl⟩, by rw [<- d3_, HL.o]; exact HI.o, HR.o.2.2⟩)
 go_wp2_with fail
 go_end0
 exact ⟨rfl, HP.o⟩
end Go.Proofs.YtnjhpgmbfblgaaaGreat.Ord
