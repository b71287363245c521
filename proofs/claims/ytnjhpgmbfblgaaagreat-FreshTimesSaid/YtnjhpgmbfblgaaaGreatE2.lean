/- Commands; walks of the two functions that compare. -/
import Derived.Test.YtnjhpgmbfblgaaaGreatMR25
set_option linter.unusedVariables false
set_option linter.unusedSimpArgs false
namespace Go.Proofs.YtnjhpgmbfblgaaaGreat.Ord
set_option maxRecDepth 100000
set_option maxHeartbeats 16000000
open Go.RowKit
structure CmdR where
 op : Int
 key : ByteArray
 keys : List ByteArray
 val : List Int
 tags : List ByteArray
 life : Int
 ver : Int
 tag : ByteArray
 pre : ByteArray
 chi : ByteArray
def cmdC (c : CmdR) (vk vv vt : Value) : List Value := [.int .i64 c.op, .string c.key, vk, vv, vt, .int .u64 c.life, .int .u64 c.ver, .string c.tag, .string c.pre, .string c.chi]
def CmdOk (w : World) (B : Nat) (c : CmdR) (vk vv vt : Value) : Prop := SlV Value.string w B vk c.keys /\ DatG w B vv c.val /\ SlV Value.string w B vt c.tags
theorem CmdOk.below {B B' : Nat} {w w' : World} {c : CmdR} {vk vv vt : Value} (h : CmdOk w B c vk vv vt) (hb : Below B' w w') (hB : B <= B') : CmdOk w' B c vk vv vt := ⟨h.1.below hb hB, h.2.1.below hb hB, h.2.2.below hb hB⟩
theorem CmdOk.mono {B B' : Nat} {w : World} {c : CmdR} {vk vv vt : Value} (h : CmdOk w B c vk vv vt) (hB : B <= B') : CmdOk w B' c vk vv vt := ⟨h.1.mono hB, h.2.1.mono hB, h.2.2.mono hB⟩
def cl_ (a b : CmdR) : Bool := a.op == b.op && (a.key.toList == b.key.toList) && decide (a.keys = b.keys) && decide (a.val = b.val) && decide (a.tags = b.tags) && a.life == b.life && a.ver == b.ver && (a.tag.toList == b.tag.toList) && (a.pre.toList == b.pre.toList) && (a.chi.toList == b.chi.toList)
theorem i5_ {w : World} {a b : CmdR} {vk vv vt vk' vv' vt' : Value} (ha : CmdOk w w.heap.size a vk vv vt) (hb : CmdOk w w.heap.size b vk' vv' vt') : ∃ W, W = (w.alloc (.cells (cmdC a vk vv vt).toArray 36)).alloc (.cells (cmdC b vk' vv' vt').toArray 36) /\ CmdOk W W.heap.size a vk vv vt /\ CmdOk W W.heap.size b vk' vv' vt' /\ Bw w W :=
 have h2 := dT_ w (.cells (cmdC a vk vv vt).toArray 36) (.cells (cmdC b vk' vv' vt').toArray 36)
 ⟨_, rfl, (ha.below h2 (lR _)).mono h2.size, (hb.below h2 (lR _)).mono h2.size, h2⟩
theorem cmd42 (a b : CmdR) (vk vv vt vk' vv' vt' : Value) (w : World) (ha : CmdOk w w.heap.size a vk vv vt) (hb : CmdOk w w.heap.size b vk' vv' vt') :
  Calls Tryz.prog 67 #[.agg (cmdC a vk vv vt).toArray, .agg (cmdC b vk' vv' vt').toArray] w fun e w' => e = .returned (.bool (cl_ a b)) /\ Bw w w' := by
 obtain ⟨W0, hW0, ⟨⟨ak1, A1, c1, rfl, ak2⟩, ⟨av1, av2, A2, c2, rfl, av3⟩, ⟨at1, A3, c3, rfl, at2⟩⟩, ⟨⟨bk1, A4, c4, rfl, bk2⟩, ⟨bv1, bv2, A5, c5, rfl, bv3⟩, ⟨bt1, A6, c6, rfl, bt2⟩⟩, hbw⟩ := i5_ ha hb
 clear ha hb
 obtain ⟨ao, ak, aks, av, ats, al, ar, ag, ap, ac⟩ := a
 obtain ⟨bo, bk, bks, bv, bts, bl, br, bg, bp, bc⟩ := b
 simp only [cmdC] at *
 obtain ⟨H64k, H64t, H41⟩ := kq3 (fun q => fk_ A1 A4 aks bks _ _ c1 c4 (W0.drewN q) rfl rfl ak1 bk1 ak2 bk2) (fun q => fk_ A3 A6 ats bts _ _ c3 c6 (W0.drewN q) rfl rfl at1 bt1 at2 bt2) (fun q => iq_ A2 A5 _ _ c2 c5 av bv (W0.drewN q) rfl rfl av1 bv1 av3 bv3)
 obtain ⟨res, hres⟩ := eY (cl_ ⟨ao, ak, aks, av, ats, al, ar, ag, ap, ac⟩ ⟨bo, bk, bks, bv, bts, bl, br, bg, bp, bc⟩)
 rw [hres]
 simp only [cl_] at hres
 obtain ⟨g3, hg3⟩ := eY (decide (av = bv))
 rw [hg3] at hres H41
 clear hg3
 obtain ⟨g2, hg2⟩ := eY (decide (aks = bks))
 obtain ⟨g4, hg4⟩ := eY (decide (ats = bts))
 rw [hg2, hg4] at hres
 rw [hg2] at H64k
 rw [hg4] at H64t
 clear hg2 hg4 ak1 ak2 av1 av2 av3 at1 at2 bk1 bk2 bv1 bv2 bv3 bt1 bt2
 generalize aks.length = n1 at *
 generalize av.length = n2 at *
 generalize ats.length = n3 at *
 generalize bks.length = n4 at *
 generalize bv.length = n5 at *
 generalize bts.length = n6 at *
 clear aks av ats bks bv bts
 obtain ⟨HR, HB⟩ := kq2 hres hbw
 clear hres hbw
 subst hW0
 go_enter Tryz.func67, Tryz.ntmps67
 cases t0 : (ao == bo)
 ·go_wp2_with fail
  go_ret
  exact ⟨ah_ (by rw [<- HR.o]; simp [t0]), HB.o⟩
 cases t1 : (ak.toList == bk.toList)
 ·go_wp2_with fail
  go_ret
  exact ⟨ah_ (by rw [<- HR.o]; simp [t0, t1]), HB.o⟩
 go_wp2_with fail
 refine (H64k.o 0).mono ?_
 rintro e w1 ⟨rfl, q1, rfl⟩
 cases g2
 ·go_wp2_with fail
  go_ret
  exact ⟨ah_ (by rw [<- HR.o]; simp [t0, t1]), ⟨HB.o.os, HB.o.tape, HB.o.output, HB.o.size, HB.o.block⟩⟩
 go_wp2_with fail
 refine (H41.o q1).mono ?_
 rintro e w2 ⟨rfl, q2, rfl⟩
 cases g3
 ·go_wp2_with fail
  go_ret
  exact ⟨ah_ (by rw [<- HR.o]; simp [t0, t1]), ⟨HB.o.os, HB.o.tape, HB.o.output, HB.o.size, HB.o.block⟩⟩
 go_wp2_with fail
 refine (H64t.o _).mono ?_
 rintro e w3 ⟨rfl, q3, rfl⟩
 cases g4
 ·go_wp2_with fail
  go_ret
  exact ⟨ah_ (by rw [<- HR.o]; simp [t0, t1]), ⟨HB.o.os, HB.o.tape, HB.o.output, HB.o.size, HB.o.block⟩⟩
 cases t5 : (al == bl)
 ·go_wp2_with fail
  go_ret
  exact ⟨ah_ (by rw [<- HR.o]; simp [t0, t1, t5]), ⟨HB.o.os, HB.o.tape, HB.o.output, HB.o.size, HB.o.block⟩⟩
 cases t6 : (ar == br)
 ·go_wp2_with fail
  go_ret
  exact ⟨ah_ (by rw [<- HR.o]; simp [t0, t1, t5, t6]), ⟨HB.o.os, HB.o.tape, HB.o.output, HB.o.size, HB.o.block⟩⟩
 cases t7 : (ag.toList == bg.toList)
 ·go_wp2_with fail
  go_ret
  exact ⟨ah_ (by rw [<- HR.o]; simp [t0, t1, t5, t6, t7]), ⟨HB.o.os, HB.o.tape, HB.o.output, HB.o.size, HB.o.block⟩⟩
 cases t8 : (ap.toList == bp.toList)
 ·go_wp2_with fail
  go_ret
  exact ⟨ah_ (by rw [<- HR.o]; simp [t0, t1, t5, t6, t7, t8]), ⟨HB.o.os, HB.o.tape, HB.o.output, HB.o.size, HB.o.block⟩⟩
 cases t9 : (ac.toList == bc.toList)
 iterate 2
  ·go_wp2_with fail
   go_ret
   exact ⟨ah_ (by rw [<- HR.o]; simp [t0, t1, t5, t6, t7, t8, t9]), ⟨HB.o.os, HB.o.tape, HB.o.output, HB.o.size, HB.o.block⟩⟩
theorem cmd44 (a b : CmdR) (vk vv vt vk' vv' vt' : Value) (w : World) (ha : CmdOk w w.heap.size a vk vv vt) (hb : CmdOk w w.heap.size b vk' vv' vt') :
  Calls Tryz.prog 69 #[.agg (cmdC a vk vv vt).toArray, .agg (cmdC b vk' vv' vt').toArray] w fun e w' => e = .returned (.bool (cl_ a b)) /\ Bw w w' := by
 obtain ⟨W0, hW0, ⟨⟨ak1, A1, c1, rfl, ak2⟩, ⟨av1, av2, A2, c2, rfl, av3⟩, ⟨at1, A3, c3, rfl, at2⟩⟩, ⟨⟨bk1, A4, c4, rfl, bk2⟩, ⟨bv1, bv2, A5, c5, rfl, bv3⟩, ⟨bt1, A6, c6, rfl, bt2⟩⟩, hbw⟩ := i5_ ha hb
 clear ha hb
 obtain ⟨ao, ak, aks, av, ats, al, ar, ag, ap, ac⟩ := a
 obtain ⟨bo, bk, bks, bv, bts, bl, br, bg, bp, bc⟩ := b
 simp only [cmdC] at *
 obtain ⟨H64k, H64t, Ab, Aa⟩ := kq4 (fun q => fj_ A1 A4 aks bks _ _ c1 c4 (W0.drewN q) rfl rfl ak1 bk1 ak2 bk2) (fun q => fj_ A3 A6 ats bts _ _ c3 c6 (W0.drewN q) rfl rfl at1 bt1 at2 bt2) (fun q => Byt.convert (w := W0.drewN q) (B := W0.heap.size) (n := av.length) av3 rfl) (fun q => Byt.convert (w := W0.drewN q) (B := W0.heap.size) (n := bv.length) bv3 rfl)
 have hse := fV_ av1 bv1
 obtain ⟨res, hres⟩ := eY (cl_ ⟨ao, ak, aks, av, ats, al, ar, ag, ap, ac⟩ ⟨bo, bk, bks, bv, bts, bl, br, bg, bp, bc⟩)
 rw [hres]
 simp only [cl_] at hres
 rw [<- hse] at hres
 clear hse
 generalize strOfNums av = sa at *
 generalize strOfNums bv = sb at *
 obtain ⟨g2, hg2⟩ := eY (decide (aks = bks))
 obtain ⟨g4, hg4⟩ := eY (decide (ats = bts))
 rw [hg2, hg4] at hres
 rw [hg2] at H64k
 rw [hg4] at H64t
 clear hg2 hg4 ak1 ak2 av1 av2 av3 at1 at2 bk1 bk2 bv1 bv2 bv3 bt1 bt2
 generalize aks.length = n1 at *
 generalize av.length = n2 at *
 generalize ats.length = n3 at *
 generalize bks.length = n4 at *
 generalize bv.length = n5 at *
 generalize bts.length = n6 at *
 clear aks av ats bks bv bts
 obtain ⟨HR, HB⟩ := kq2 hres hbw
 clear hres hbw
 subst hW0
 go_enter Tryz.func69, Tryz.ntmps69
 cases t0 : (ao == bo)
 ·go_wp2_with fail
  go_ret
  exact ⟨ah_ (by rw [<- HR.o]; simp [t0]), HB.o⟩
 cases t1 : (ak.toList == bk.toList)
 ·go_wp2_with fail
  go_ret
  exact ⟨ah_ (by rw [<- HR.o]; simp [t0, t1]), HB.o⟩
 go_wp2_with fail
 refine (H64k.o 0).mono ?_
 rintro e w1 ⟨rfl, q1, rfl⟩
 have e1 := Ab.o q1
 have e2 := Aa.o q1
 cases g2
 ·go_wp2_with fail
  go_ret
  exact ⟨ah_ (by rw [<- HR.o]; simp [t0, t1]), ⟨HB.o.os, HB.o.tape, HB.o.output, HB.o.size, HB.o.block⟩⟩
 cases t3 : (sa.toList == sb.toList)
 ·go_wp2_with fail
  go_ret
  exact ⟨ah_ (by rw [<- HR.o]; simp [t0, t1, t3]), ⟨HB.o.os, HB.o.tape, HB.o.output, HB.o.size, HB.o.block⟩⟩
 go_wp2_with fail
 refine (H64t.o _).mono ?_
 rintro e w3 ⟨rfl, q3, rfl⟩
 cases g4
 ·go_wp2_with fail
  go_ret
  exact ⟨ah_ (by rw [<- HR.o]; simp [t0, t1, t3]), ⟨HB.o.os, HB.o.tape, HB.o.output, HB.o.size, HB.o.block⟩⟩
 cases t5 : (al == bl)
 ·go_wp2_with fail
  go_ret
  exact ⟨ah_ (by rw [<- HR.o]; simp [t0, t1, t3, t5]), ⟨HB.o.os, HB.o.tape, HB.o.output, HB.o.size, HB.o.block⟩⟩
 cases t6 : (ar == br)
 ·go_wp2_with fail
  go_ret
  exact ⟨ah_ (by rw [<- HR.o]; simp [t0, t1, t3, t5, t6]), ⟨HB.o.os, HB.o.tape, HB.o.output, HB.o.size, HB.o.block⟩⟩
 cases t7 : (ag.toList == bg.toList)
 ·go_wp2_with fail
  go_ret
  exact ⟨ah_ (by rw [<- HR.o]; simp [t0, t1, t3, t5, t6, t7]), ⟨HB.o.os, HB.o.tape, HB.o.output, HB.o.size, HB.o.block⟩⟩
 cases t8 : (ap.toList == bp.toList)
 ·go_wp2_with fail
  go_ret
  exact ⟨ah_ (by rw [<- HR.o]; simp [t0, t1, t3, t5, t6, t7, t8]), ⟨HB.o.os, HB.o.tape, HB.o.output, HB.o.size, HB.o.block⟩⟩
 cases t9 : (ac.toList == bc.toList)
 iterate 2
  ·go_wp2_with fail
   go_ret
   exact ⟨ah_ (by rw [<- HR.o]; simp [t0, t1, t3, t5, t6, t7, t8, t9]), ⟨HB.o.os, HB.o.tape, HB.o.output, HB.o.size, HB.o.block⟩⟩
end Go.Proofs.YtnjhpgmbfblgaaaGreat.Ord
