/- Walk of the law's known: its. -/
import Derived.Test.YtnjhpgmbfblgaaaGreatU73
set_option linter.unusedVariables false
set_option linter.unusedSimpArgs false
namespace Go.Proofs.YtnjhpgmbfblgaaaGreat.Ord
open Go.RowKit
set_option maxRecDepth 100000
set_option maxHeartbeats 8000000
theorem n33 : (Tryz.f33.name == "runtime.NumGoroutine") = false := by decide
theorem n34 : (Tryz.f34.name == "runtime.NumGoroutine") = false := by decide
theorem n35 : (Tryz.f35.name == "runtime.NumGoroutine") = false := by decide
theorem k_begin {ops : Array Oper} {Q : Exit -> Act -> World -> Prop} {id : Nat} {a : Act} {V0 : World} (h : Bw V0 V0.drew -> wpAnyH Tryz.prog .any ops Q (Bw V0) ops.size (Array.replicate ops.size false) a V0.drew) : (Code.region id ops true).wp Tryz.prog Q a V0 :=
 wp_region_held_drew (by kernel_rfl) (below_drewn (BR _ _)) h
theorem slvK_one (s : ByteArray) (w : World) {B : Nat} (hB : w.heap.size < B) : SlV Value.string (w.alloc (.cells #[.string s] 9)) B (.slice (some ⟨w.heap.size, 0, none⟩) 1 1) [s] :=
 ⟨by show 1 <= maxLen; unfold maxLen; omega, _, 1, rfl, fun i x h => by
  have hi : i = 0 := by
   have := (gS.1 h).1
   simpa using this
  subst hi
  cases h
  exact ⟨w.heap.size, 0, rfl, hB, by simp⟩⟩
def zSaid : List Value := [.int .i64 0, .string ⟨#[]⟩, .slice none 0 0, .slice none 0 0, .slice none 0 0, .int .u64 0, .int .u64 0, .string ⟨#[]⟩, .string ⟨#[]⟩, .string ⟨#[]⟩, .int .i64 0, .int .i64 0, .slice none 0 0, .int .u64 0, .int .i64 0, .slice none 0 0, .int .u64 0]
theorem two_said (W : World) : RowL ((W.alloc (.cells zSaid.toArray 73)).alloc (.cells zSaid.toArray 73)) W.heap.size 73 zSaid /\ RowL ((W.alloc (.cells zSaid.toArray 73)).alloc (.cells zSaid.toArray 73)) (W.heap.size + 1) 73 zSaid /\ Bw W ((W.alloc (.cells zSaid.toArray 73)).alloc (.cells zSaid.toArray 73)) := by
 have h2 := RowL.new (W.alloc (.cells zSaid.toArray 73)) 73 zSaid
 rw [World.size_alloc] at h2
 exact ⟨(RowL.new W 73 zSaid).alloc _, h2, dT_ W _ _⟩
theorem SaidIn.one {W : World} {L : List Value} {s : SaidR} (h : SaidIn W L s) : L.toArray.all (·.oneCell') = true := by
 obtain ⟨p, _, _, h1⟩ := h
 exact all_oneCell_toArray h1
theorem known29 (w : World) : Calls Tryz.prog 29 #[] w fun e w' => e = .returned (.bool true) /\ Bw w w' := by
 have hb0 := below1 w (.cells #[.string ⟨#[116]⟩] 9)
 go_enter Tryz.func29, Tryz.ntmps29
 go_upto_region 1 with (fail)
 go_upto_region 2 with (first
  | (go_at_call 33; refine (say33 bX 1 0 _ [bT] _ (by decide) (slvK_one bT w (by simp))).mono ?_; rintro e W1 ⟨u, rfl, LX, rfl, hxi, hb1⟩)
  | (go_at_call 34; refine (say34 1 bX 1 3 _ (by decide)).mono ?_; rintro e W2 ⟨u, rfl, LY, rfl, hyi, hb2⟩; obtain ⟨t1, t2, t3⟩ := two_said W2; have Az := kp hxi.one; have Ay := kp hyi.one; have Ad := kp hxi.len; have Ae := kp hyi.len; have Al := kp t1; have Ak := kp t2; have Aw := kp t3; have Aa := kp (hxi.below hb2); have Ab := kp hyi; have Ai := kp (hb0.trans ((hb1.trans (hb2.mono hb1.size)).mono hb0.size)); clear hxi hyi t1 t2 t3 hb1 hb2)
  | ((with_reducible refine ab_ (op := ⟨none, _, _, _, _, _⟩) rfl 73 _ _ rfl W2.heap.size 0 LX.toArray ?_ ?_ ?_ ?_ Az.o ?_); (· rfl); (· rfl); (· exact Al.o.there (by rw [Nat.zero_add, zS, Ad.o]; decide)); (· rw [zS]; exact q73 LX Ad.o); intro w9 hw9)
  | ((with_reducible refine ab_ (op := ⟨none, _, _, _, _, _⟩) rfl 73 _ _ rfl (W2.heap.size + 1) 0 LY.toArray ?_ ?_ ?_ ?_ Ay.o ?_); (· rfl); (· rfl); (· rw [hw9]; exact (Ak.o.setCellsOther (by omega)).there (by rw [Nat.zero_add, zS, Ae.o]; decide)); (· rw [zS]; exact q73 LY Ae.o); intro w10 hw10))
 obtain ⟨X, hX⟩ := eY W2.heap.size
 obtain ⟨Y, hY⟩ := eY (W2.heap.size + 1)
 have h9 : RowL w9 X 73 LX := by rw [hw9, <- hX]; have := Al.o.setCells (o := 0) LX; rw [show putL zSaid 0 LX = LX from f1_ LX Ad.o] at this; exact this
 have h10 : RowL w10 Y 73 LY := by rw [hw10, hw9, <- hY]; have := (Ak.o.setCellsOther (b' := W2.heap.size) (vs := LX) (o := 0) (by omega)).setCells (o := 0) LY; rw [show putL zSaid 0 LY = LY from f1_ LY Ae.o] at this; exact this
 have h11 : RowL w10 X 73 LX := by rw [hw10]; exact h9.setCellsOther (by omega)
 have hb9 : Bw W2 w10 := by rw [hw10, hw9]; exact (Aw.o.trans (ai_ LX 0 _ (lR _))).trans (ai_ LY 0 _ (by omega))
 obtain ⟨HX, HY, Aa, Ab, Ac⟩ := kq5 h11 h10 (Aa.o.below hb9) (Ab.o.below hb9) (Ai.o.trans (hb9.mono Ai.o.size))
 rw [hY, hX]
 clear hX hY hw9 hw10 h9 h10 h11 hb9 hb0 Al Ak Aw Ai Az Ay
 refine k_begin (fun hS => ?_)
 have HS := kp hS
 clear hS
 refine k_load 0 HS.o HX.o Ad.o rfl rfl rfl (fun _ _ _ h => h) ?_
 simp only [Act.put, z1, z2, z3]
 refine k_load 1 HS.o HY.o Ae.o rfl rfl rfl (fun _ _ _ h => h) ?_
 simp only [Act.put, z1, z2, z3]
 refine k_chk 2 3 HS.o (.cons (Aa.o.below HS.o) (.cons (Ab.o.below HS.o) .nil)) run1 rfl rfl rfl (fun _ => rfl) (fun _ => by simp only [y1, y2, y3]; rfl) ?_
 intro W21 v hb hS
 have HS := kp hS
 clear hb hS
 simp only [Act.put, z1, z2, z3]
 refine k_pure 4 HS.o rfl rfl (fun _ _ _ h => h) ?_
 simp only [Act.put, z1, z2, z3]
 refine k_pure 5 HS.o rfl rfl (fun _ _ _ h => h) ?_
 simp only [Act.put, z1, z2, z3]
 refine k_load 6 HS.o HX.o Ad.o rfl rfl rfl (fun _ _ _ h => h) ?_
 simp only [Act.put, z1, z2, z3]
 refine k_pure 7 (v := .agg #[.int .i64 8, .string ⟨#[]⟩, .slice none 0 0, .slice none 0 0, .slice none 0 0, .int .u64 0, .int .u64 0, .string ⟨#[116]⟩, .string ⟨#[]⟩, .string ⟨#[]⟩]) HS.o rfl rfl (fun _ _ _ h => h) ?_
 simp only [Act.put, z1, z2, z3]
 refine k_load 9 HS.o HY.o Ae.o rfl rfl rfl (fun _ _ _ h => h) ?_
 simp only [Act.put, z1, z2, z3]
 refine k_say 8 HS.o rfl (say35 8 eB0 bT eB0 eB0 1 _) Tryz.func35 n35 rfl rfl ?_
 intro M22 W22 hM22 hb hS
 obtain ⟨Au, HS⟩ := kq2 hM22 hS
 clear hM22 hb hS
 simp only [Act.put, z1, z2, z3]
 refine k_chk 10 11 HS.o (.cons (Aa.o.below HS.o) (.cons Au.o (.cons (Ab.o.below HS.o) .nil))) run2 rfl rfl rfl (fun _ => rfl) (fun _ => by simp only [y1, y2, y3]; rfl) ?_
 intro W23 v hb hS
 have HS := kp hS
 clear hb hS
 simp only [Act.put, z1, z2, z3]
 refine k_pure 12 HS.o rfl rfl (fun _ _ _ h => h) ?_
 simp only [Act.put, z1, z2, z3]
 refine k_pure 13 HS.o rfl rfl (fun _ _ _ h => h) ?_
 simp only [Act.put, z1, z2, z3]
 refine k_pure 14 HS.o rfl rfl (fun _ _ _ h => h) ?_
 simp only [Act.put, z1, z2, z3]
 refine k_load 15 HS.o HX.o Ad.o rfl rfl rfl (fun _ _ _ h => h) ?_
 simp only [Act.put, z1, z2, z3]
 refine k_pure 16 (v := .agg #[.int .i64 10, .string ⟨#[]⟩, .slice none 0 0, .slice none 0 0, .slice none 0 0, .int .u64 0, .int .u64 0, .string ⟨#[]⟩, .string ⟨#[97]⟩, .string ⟨#[]⟩]) HS.o rfl rfl (fun _ _ _ h => h) ?_
 simp only [Act.put, z1, z2, z3]
 refine k_load 18 HS.o HY.o Ae.o rfl rfl rfl (fun _ _ _ h => h) ?_
 simp only [Act.put, z1, z2, z3]
 refine k_say 17 HS.o rfl (say35 10 eB0 eB0 kA eB0 1 _) Tryz.func35 n35 rfl rfl ?_
 intro M24 W24 hM24 hb hS
 obtain ⟨At, HS⟩ := kq2 hM24 hS
 clear hM24 hb hS
 simp only [Act.put, z1, z2, z3]
 refine k_chk 19 20 HS.o (.cons (Aa.o.below HS.o) (.cons At.o (.cons (Ab.o.below HS.o) .nil))) run3 rfl rfl rfl (fun _ => rfl) (fun _ => by simp only [y1, y2, y3]; rfl) ?_
 intro W25 v hb hS
 have HS := kp hS
 clear hb hS
 simp only [Act.put, z1, z2, z3]
 refine k_pure 21 HS.o rfl rfl (fun _ _ _ h => h) ?_
 simp only [Act.put, z1, z2, z3]
 refine k_pure 22 HS.o rfl rfl (fun _ _ _ h => h) ?_
 simp only [Act.put, z1, z2, z3]
 refine k_pure 23 HS.o rfl rfl (fun _ _ _ h => h) ?_
 simp only [Act.put, z1, z2, z3]
 refine k_load 24 HS.o HX.o Ad.o rfl rfl rfl (fun _ _ _ h => h) ?_
 simp only [Act.put, z1, z2, z3]
 refine k_pure 25 (v := .agg #[.int .i64 14, .string ⟨#[]⟩, .slice none 0 0, .slice none 0 0, .slice none 0 0, .int .u64 0, .int .u64 0, .string ⟨#[]⟩, .string ⟨#[]⟩, .string ⟨#[]⟩]) HS.o rfl rfl (fun _ _ _ h => h) ?_
 simp only [Act.put, z1, z2, z3]
 refine k_load 27 HS.o HY.o Ae.o rfl rfl rfl (fun _ _ _ h => h) ?_
 simp only [Act.put, z1, z2, z3]
 refine k_say 26 HS.o rfl (say35 14 eB0 eB0 eB0 eB0 1 _) Tryz.func35 n35 rfl rfl ?_
 intro M26 W26 hM26 hb hS
 obtain ⟨As, HS⟩ := kq2 hM26 hS
 clear hM26 hb hS
 simp only [Act.put, z1, z2, z3]
 refine k_chk 28 29 HS.o (.cons (Aa.o.below HS.o) (.cons As.o (.cons (Ab.o.below HS.o) .nil))) run4 rfl rfl rfl (fun _ => rfl) (fun _ => by simp only [y1, y2, y3]; rfl) ?_
 intro W27 v hb hS
 have HS := kp hS
 clear hb hS
 simp only [Act.put, z1, z2, z3]
 refine k_pure 30 HS.o rfl rfl (fun _ _ _ h => h) ?_
 simp only [Act.put, z1, z2, z3]
 refine k_pure 31 HS.o rfl rfl (fun _ _ _ h => h) ?_
 simp only [Act.put, z1, z2, z3]
 refine wpAnyH_done (by kernel_rfl) ?_ _
 obtain ⟨HX, HY, Aa, Ab, Ac⟩ := kq5 (HX.o.below HS.o HX.o.lt) (HY.o.below HS.o HY.o.lt) (Aa.o.below HS.o) (Ab.o.below HS.o) (Ac.o.trans (HS.o.mono Ac.o.size))
 clear HS
 go_upto_region 4 with (fail)
 go_upto_region 5 with (first
  | (go_at_call 35; refine (say35 9 eB0 bT eB0 eB0 1 _).mono ?_; rintro e W3 ⟨u, rfl, LZ, rfl, hzi, hb3⟩; have Ax := kp hzi.one; have Ah := kp hzi.len; have Aj := kp hzi; have Av := kp hb3; have HT := kp (RowL.new W3 73 zSaid); clear hzi hb3)
  | ((with_reducible refine ab_ (op := ⟨none, _, _, _, _, _⟩) rfl 73 _ _ rfl W3.heap.size 0 LZ.toArray ?_ ?_ ?_ ?_ Ax.o ?_); (· rfl); (· rfl); (· exact HT.o.there (by rw [Nat.zero_add, zS, Ah.o]; decide)); (· rw [zS]; exact q73 LZ Ah.o); intro w12 hw12))
 obtain ⟨Z, hZ⟩ := eY W3.heap.size
 have h12 : RowL w12 Z 73 LZ := by rw [hw12, <- hZ]; have := HT.o.setCells (o := 0) LZ; rw [show putL zSaid 0 LZ = LZ from f1_ LZ Ah.o] at this; exact this
 have hb12 : Bw W3 w12 := by rw [hw12]; exact (below1 W3 _).trans (ai_ LZ 0 _ (lR _))
 obtain ⟨HZ, Aj, HS⟩ := kq3 h12 (Aj.o.below hb12) (Av.o.trans (hb12.mono Av.o.size))
 rw [hZ]
 clear hZ h12 hw12 hb12 Ax HT Av
 obtain ⟨HX, HY, Aa, Ab, Ac⟩ := kq5 (HX.o.below HS.o HX.o.lt) (HY.o.below HS.o HY.o.lt) (Aa.o.below HS.o) (Ab.o.below HS.o) (Ac.o.trans (HS.o.mono Ac.o.size))
 clear HS
 refine k_begin (fun hS => ?_)
 have HS := kp hS
 clear hS
 refine k_load 0 HS.o HX.o Ad.o rfl rfl rfl (fun _ _ _ h => h) ?_
 simp only [Act.put, z1, z2, z3]
 refine k_load 1 HS.o HZ.o Ah.o rfl rfl rfl (fun _ _ _ h => h) ?_
 simp only [Act.put, z1, z2, z3]
 refine k_load 2 HS.o HY.o Ae.o rfl rfl rfl (fun _ _ _ h => h) ?_
 simp only [Act.put, z1, z2, z3]
 refine k_chk 3 4 HS.o (.cons (Aa.o.below HS.o) (.cons (Aj.o.below HS.o) (.cons (Ab.o.below HS.o) .nil))) run5 rfl rfl rfl (fun _ => rfl) (fun _ => by simp only [y1, y2, y3]; rfl) ?_
 intro W51 v hb hS
 have HS := kp hS
 clear hb hS
 simp only [Act.put, z1, z2, z3]
 refine k_pure 5 HS.o rfl rfl (fun _ _ _ h => h) ?_
 simp only [Act.put, z1, z2, z3]
 refine k_pure 6 HS.o rfl rfl (fun _ _ _ h => h) ?_
 simp only [Act.put, z1, z2, z3]
 refine k_load 7 HS.o HX.o Ad.o rfl rfl rfl (fun _ _ _ h => h) ?_
 simp only [Act.put, z1, z2, z3]
 refine k_load 8 HS.o HZ.o Ah.o rfl rfl rfl (fun _ _ _ h => h) ?_
 simp only [Act.put, z1, z2, z3]
 refine k_say 9 HS.o rfl (say34 2 bX 1 3 _ (by decide)) Tryz.func34 n34 rfl rfl ?_
 intro M52 W52 hM52 hb hS
 obtain ⟨Ar, HS⟩ := kq2 hM52 hS
 clear hM52 hb hS
 simp only [Act.put, z1, z2, z3]
 refine k_chk 10 11 HS.o (.cons (Aa.o.below HS.o) (.cons (Aj.o.below HS.o) (.cons Ar.o .nil))) run6 rfl rfl rfl (fun _ => rfl) (fun _ => by simp only [y1, y2, y3]; rfl) ?_
 intro W53 v hb hS
 have HS := kp hS
 clear hb hS
 simp only [Act.put, z1, z2, z3]
 refine k_pure 12 HS.o rfl rfl (fun _ _ _ h => h) ?_
 simp only [Act.put, z1, z2, z3]
 refine k_pure 13 HS.o rfl rfl (fun _ _ _ h => h) ?_
 simp only [Act.put, z1, z2, z3]
 refine k_pure 14 HS.o rfl rfl (fun _ _ _ h => h) ?_
 simp only [Act.put, z1, z2, z3]
 refine k_load 15 HS.o HX.o Ad.o rfl rfl rfl (fun _ _ _ h => h) ?_
 simp only [Act.put, z1, z2, z3]
 refine k_load 16 HS.o HZ.o Ah.o rfl rfl rfl (fun _ _ _ h => h) ?_
 simp only [Act.put, z1, z2, z3]
 refine k_say 17 HS.o rfl (say34 2 bX 1 6 _ (by decide)) Tryz.func34 n34 rfl rfl ?_
 intro M54 W54 hM54 hb hS
 obtain ⟨Aq, HS⟩ := kq2 hM54 hS
 clear hM54 hb hS
 simp only [Act.put, z1, z2, z3]
 refine k_chk 18 19 HS.o (.cons (Aa.o.below HS.o) (.cons (Aj.o.below HS.o) (.cons Aq.o .nil))) run7 rfl rfl rfl (fun _ => rfl) (fun _ => by simp only [y1, y2, y3]; rfl) ?_
 intro W55 v hb hS
 have HS := kp hS
 clear hb hS
 simp only [Act.put, z1, z2, z3]
 refine k_pure 20 HS.o rfl rfl (fun _ _ _ h => h) ?_
 simp only [Act.put, z1, z2, z3]
 refine k_pure 21 HS.o rfl rfl (fun _ _ _ h => h) ?_
 simp only [Act.put, z1, z2, z3]
 refine k_pure 22 HS.o rfl rfl (fun _ _ _ h => h) ?_
 simp only [Act.put, z1, z2, z3]
 refine k_load 23 HS.o HX.o Ad.o rfl rfl rfl (fun _ _ _ h => h) ?_
 simp only [Act.put, z1, z2, z3]
 refine k_load 24 HS.o HZ.o Ah.o rfl rfl rfl (fun _ _ _ h => h) ?_
 simp only [Act.put, z1, z2, z3]
 refine k_say 25 HS.o rfl (say33 bY 2 2 (.slice none 0 0) [] _ (by decide) (slv_nil2 _ _ _)) Tryz.func33 n33 rfl rfl ?_
 intro M56 W56 hM56 hb hS
 obtain ⟨Ag, HS⟩ := kq2 hM56 hS
 clear hM56 hb hS
 simp only [Act.put, z1, z2, z3]
 refine k_say 26 HS.o rfl (say34 2 bX 1 3 _ (by decide)) Tryz.func34 n34 rfl rfl ?_
 intro M57 W57 hM57 hb hS
 obtain ⟨Ap, Ag, HS⟩ := kq3 hM57 (Ag.o.below hb) hS
 clear hM57 hb hS
 simp only [Act.put, z1, z2, z3]
 refine k_chk 27 28 HS.o (.cons (Aa.o.below HS.o) (.cons (Aj.o.below HS.o) (.cons Ag.o (.cons Ap.o .nil)))) run8 rfl rfl rfl (fun _ => rfl) (fun _ => by simp only [y1, y2, y3]; rfl) ?_
 intro W58 v hb hS
 have HS := kp hS
 clear hb hS
 simp only [Act.put, z1, z2, z3]
 refine k_pure 29 HS.o rfl rfl (fun _ _ _ h => h) ?_
 simp only [Act.put, z1, z2, z3]
 refine k_pure 30 HS.o rfl rfl (fun _ _ _ h => h) ?_
 simp only [Act.put, z1, z2, z3]
 refine wpAnyH_done (by kernel_rfl) ?_ _
 obtain ⟨HX, HY, Aa, Ab, Ac⟩ := kq5 (HX.o.below HS.o HX.o.lt) (HY.o.below HS.o HY.o.lt) (Aa.o.below HS.o) (Ab.o.below HS.o) (Ac.o.trans (HS.o.mono Ac.o.size))
 clear HS
 go_upto_region 7 with (fail)
 refine k_begin (fun hS => ?_)
 have HS := kp hS
 clear hS
 refine k_pure 0 (v := .agg #[.int .i64 11, .string ⟨#[98]⟩, .slice none 0 0, .slice none 0 0, .slice none 0 0, .int .u64 0, .int .u64 0, .string ⟨#[]⟩, .string ⟨#[]⟩, .string ⟨#[97]⟩]) HS.o rfl rfl (fun _ _ _ h => h) ?_
 simp only [Act.put, z1, z2, z3]
 refine k_load 2 HS.o HX.o Ad.o rfl rfl rfl (fun _ _ _ h => h) ?_
 simp only [Act.put, z1, z2, z3]
 refine k_pure 3 (v := .agg #[.int .i64 13, .string ⟨#[98]⟩, .slice none 0 0, .slice none 0 0, .slice none 0 0, .int .u64 0, .int .u64 0, .string ⟨#[]⟩, .string ⟨#[]⟩, .string ⟨#[]⟩]) HS.o rfl rfl (fun _ _ _ h => h) ?_
 simp only [Act.put, z1, z2, z3]
 refine k_load 5 HS.o HY.o Ae.o rfl rfl rfl (fun _ _ _ h => h) ?_
 simp only [Act.put, z1, z2, z3]
 refine k_say 1 HS.o rfl (say35 11 bB eB0 eB0 kA 0 _) Tryz.func35 n35 rfl rfl ?_
 intro M71 W71 hM71 hb hS
 obtain ⟨Af, HS⟩ := kq2 hM71 hS
 clear hM71 hb hS
 simp only [Act.put, z1, z2, z3]
 refine k_say 4 HS.o rfl (say35 13 bB eB0 eB0 eB0 1 _) Tryz.func35 n35 rfl rfl ?_
 intro M72 W72 hM72 hb hS
 obtain ⟨Ao, Af, HS⟩ := kq3 hM72 (Af.o.below hb) hS
 clear hM72 hb hS
 simp only [Act.put, z1, z2, z3]
 refine k_chk 6 7 HS.o (.cons Af.o (.cons (Aa.o.below HS.o) (.cons Ao.o (.cons (Ab.o.below HS.o) .nil)))) run9 rfl rfl rfl (fun _ => rfl) (fun _ => by simp only [y1, y2, y3]; rfl) ?_
 intro W73 v hb hS
 have HS := kp hS
 clear hb hS
 simp only [Act.put, z1, z2, z3]
 refine k_pure 8 HS.o rfl rfl (fun _ _ _ h => h) ?_
 simp only [Act.put, z1, z2, z3]
 refine wpAnyH_done (by kernel_rfl) ?_ _
 obtain ⟨HX, Aa, Ac⟩ := kq3 (HX.o.below HS.o HX.o.lt) (Aa.o.below HS.o) (Ac.o.trans (HS.o.mono Ac.o.size))
 clear HS
 go_upto_region 9 with (fail)
 refine k_begin (fun hS => ?_)
 have HS := kp hS
 clear hS
 refine k_say 0 HS.o rfl (say33 bX 2 0 (.slice none 0 0) [] _ (by decide) (slv_nil2 _ _ _)) Tryz.func33 n33 rfl rfl ?_
 intro M91 W91 hM91 hb hS
 obtain ⟨An, HS⟩ := kq2 hM91 hS
 clear hM91 hb hS
 simp only [Act.put, z1, z2, z3]
 refine k_chk 1 2 HS.o (.cons An.o .nil) run10 rfl rfl rfl (fun _ => rfl) (fun _ => by simp only [y1, y2, y3]; rfl) ?_
 intro W92 v hb hS
 have HS := kp hS
 clear hb hS
 simp only [Act.put, z1, z2, z3]
 refine k_pure 3 HS.o rfl rfl (fun _ _ _ h => h) ?_
 simp only [Act.put, z1, z2, z3]
 refine k_load 4 HS.o HX.o Ad.o rfl rfl rfl (fun _ _ _ h => h) ?_
 simp only [Act.put, z1, z2, z3]
 refine k_say 5 HS.o rfl (say34 1 bY 1 3 _ (by decide)) Tryz.func34 n34 rfl rfl ?_
 intro M93 W93 hM93 hb hS
 obtain ⟨Am, HS⟩ := kq2 hM93 hS
 clear hM93 hb hS
 simp only [Act.put, z1, z2, z3]
 refine k_chk 6 7 HS.o (.cons (Aa.o.below HS.o) (.cons Am.o .nil)) run11 rfl rfl rfl (fun _ => rfl) (fun _ => by simp only [y1, y2, y3]; rfl) ?_
 intro W94 v hb hS
 have HS := kp hS
 clear hb hS
 simp only [Act.put, z1, z2, z3]
 refine k_pure 8 HS.o rfl rfl (fun _ _ _ h => h) ?_
 simp only [Act.put, z1, z2, z3]
 refine k_pure 9 HS.o rfl rfl (fun _ _ _ h => h) ?_
 simp only [Act.put, z1, z2, z3]
 refine wpAnyH_done (by kernel_rfl) ?_ _
 go_wp2_with fail
 go_ret
 exact ⟨rfl, Ac.o.trans (HS.o.mono Ac.o.size)⟩
end Go.Proofs.YtnjhpgmbfblgaaaGreat.Ord
