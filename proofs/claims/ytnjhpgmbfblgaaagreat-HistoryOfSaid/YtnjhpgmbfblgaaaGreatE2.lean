/- Commands; walks of the two functions that compare commands. -/
import Derived.Test.YtnjhpgmbfblgaaaGreatMR25
namespace Go.Proofs.YtnjhpgmbfblgaaaGreat.Ord
set_option maxRecDepth 100000
set_option maxHeartbeats 16000000
open Go.RowKit
set_option linter.unusedVariables false
structure CmdR where
 op : Int
 key : ByteArray
 keys : List ByteArray
 val : List Int
 tags : List ByteArray
 life : Int
 ver : Int
 tag : ByteArray
 pre : ByteArray
 chi : ByteArray
def cmdC (c : CmdR) (vk vv vt : Value) : List Value := [.int .i64 c.op, .string c.key, vk, vv, vt, .int .u64 c.life, .int .u64 c.ver, .string c.tag, .string c.pre, .string c.chi]
def CmdOk (w : World) (B : Nat) (c : CmdR) (vk vv vt : Value) : Prop := SlV Value.string w B vk c.keys /\ DatG w B vv c.val /\ SlV Value.string w B vt c.tags
theorem CmdOk.below {B B' : Nat} {w w' : World} {c : CmdR} {vk vv vt : Value} (h : CmdOk w B c vk vv vt) (hb : Below B' w w') (hB : B <= B') : CmdOk w' B c vk vv vt := ⟨h.1.below hb hB, h.2.1.below hb hB, h.2.2.below hb hB⟩
theorem CmdOk.mono {B B' : Nat} {w : World} {c : CmdR} {vk vv vt : Value} (h : CmdOk w B c vk vv vt) (hB : B <= B') : CmdOk w B' c vk vv vt := ⟨h.1.mono hB, h.2.1.mono hB, h.2.2.mono hB⟩
def cmdEq (a b : CmdR) : Bool := a.op == b.op && (a.key.toList == b.key.toList) && decide (a.keys = b.keys) && decide (a.val = b.val) && decide (a.tags = b.tags) && a.life == b.life && a.ver == b.ver && (a.tag.toList == b.tag.toList) && (a.pre.toList == b.pre.toList) && (a.chi.toList == b.chi.toList)

/-- two commands, boxed: what the walk of a comparison needs -/
theorem cmd_open {w : World} {a b : CmdR} {vk vv vt vk' vv' vt' : Value} (ha : CmdOk w w.heap.size a vk vv vt) (hb : CmdOk w w.heap.size b vk' vv' vt') : ∃ W, W = (w.alloc (.cells (cmdC a vk vv vt).toArray 36)).alloc (.cells (cmdC b vk' vv' vt').toArray 36) /\ CmdOk W W.heap.size a vk vv vt /\ CmdOk W W.heap.size b vk' vv' vt' /\ Below w.heap.size w W :=
 have h2 := below2 w (.cells (cmdC a vk vv vt).toArray 36) (.cells (cmdC b vk' vv' vt').toArray 36)
 ⟨_, rfl, (ha.below h2 (Nat.le_refl _)).mono h2.size, (hb.below h2 (Nat.le_refl _)).mono h2.size, h2⟩

theorem cmd42 (a b : CmdR) (vk vv vt vk' vv' vt' : Value) (w : World) (ha : CmdOk w w.heap.size a vk vv vt) (hb : CmdOk w w.heap.size b vk' vv' vt') :
  Calls Tryz.prog 67 #[.agg (cmdC a vk vv vt).toArray, .agg (cmdC b vk' vv' vt').toArray] w fun e w' => e = .returned (.bool (cmdEq a b)) /\ Below w.heap.size w w' := by
 obtain ⟨W0, hW0, ⟨⟨ak1, A1, c1, rfl, ak2⟩, ⟨av1, av2, A2, c2, rfl, av3⟩, ⟨at1, A3, c3, rfl, at2⟩⟩, ⟨⟨bk1, A4, c4, rfl, bk2⟩, ⟨bv1, bv2, A5, c5, rfl, bv3⟩, ⟨bt1, A6, c6, rfl, bt2⟩⟩, hbw⟩ := cmd_open ha hb
 clear ha hb
 obtain ⟨ao, ak, aks, av, ats, al, ar, ag, ap, ac⟩ := a
 obtain ⟨bo, bk, bks, bv, bts, bl, br, bg, bp, bc⟩ := b
 simp only [cmdC] at *
 have H64k := kp (fun q => strs64_any A1 A4 aks bks _ _ c1 c4 (W0.drewN q) rfl rfl ak1 bk1 ak2 bk2)
 have H64t := kp (fun q => strs64_any A3 A6 ats bts _ _ c3 c6 (W0.drewN q) rfl rfl at1 bt1 at2 bt2)
 have H41 := kp (fun q => bytes41 A2 A5 _ _ c2 c5 av bv (W0.drewN q) rfl rfl av1 bv1 av3 bv3)
 obtain ⟨res, hres⟩ : ∃ res, cmdEq ⟨ao, ak, aks, av, ats, al, ar, ag, ap, ac⟩ ⟨bo, bk, bks, bv, bts, bl, br, bg, bp, bc⟩ = res := ⟨_, rfl⟩
 rw [hres]
 simp only [cmdEq] at hres
 obtain ⟨g3, hg3⟩ : ∃ g3, decide (av = bv) = g3 := ⟨_, rfl⟩
 rw [hg3] at hres H41
 clear hg3
 obtain ⟨g2, hg2⟩ : ∃ g2, decide (aks = bks) = g2 := ⟨_, rfl⟩
 obtain ⟨g4, hg4⟩ : ∃ g4, decide (ats = bts) = g4 := ⟨_, rfl⟩
 rw [hg2, hg4] at hres
 rw [hg2] at H64k
 rw [hg4] at H64t
 clear hg2 hg4 ak1 ak2 av1 av2 av3 at1 at2 bk1 bk2 bv1 bv2 bv3 bt1 bt2
 generalize aks.length = n1 at *
 generalize av.length = n2 at *
 generalize ats.length = n3 at *
 generalize bks.length = n4 at *
 generalize bv.length = n5 at *
 generalize bts.length = n6 at *
 clear aks av ats bks bv bts
 have HR := kp hres
 have HB := kp hbw
 clear hres hbw
 subst hW0
 go_enter Tryz.func67, Tryz.ntmps67
 cases t0 : (ao == bo)
 ·go_wp2_with fail
  go_ret
  exact ⟨ret_bool (by rw [<- HR.out]; simp [t0]), HB.out⟩
 ·cases t1 : (ak.toList == bk.toList)
  ·go_wp2_with fail
   go_ret
   exact ⟨ret_bool (by rw [<- HR.out]; simp [t0, t1]), HB.out⟩
  ·go_wp2_with fail
   refine (H64k.out 0).mono ?_
   rintro e w1 ⟨rfl, q1, rfl⟩
   cases g2
   ·go_wp2_with fail
    go_ret
    exact ⟨ret_bool (by rw [<- HR.out]; simp [t0, t1]), ⟨HB.out.os, HB.out.tape, HB.out.output, HB.out.size, HB.out.block⟩⟩
   ·go_wp2_with fail
    refine (H41.out q1).mono ?_
    rintro e w2 ⟨rfl, q2, rfl⟩
    cases g3
    ·go_wp2_with fail
     go_ret
     exact ⟨ret_bool (by rw [<- HR.out]; simp [t0, t1]), ⟨HB.out.os, HB.out.tape, HB.out.output, HB.out.size, HB.out.block⟩⟩
    ·go_wp2_with fail
     refine (H64t.out _).mono ?_
     rintro e w3 ⟨rfl, q3, rfl⟩
     cases g4
     ·go_wp2_with fail
      go_ret
      exact ⟨ret_bool (by rw [<- HR.out]; simp [t0, t1]), ⟨HB.out.os, HB.out.tape, HB.out.output, HB.out.size, HB.out.block⟩⟩
     ·cases t5 : (al == bl)
      ·go_wp2_with fail
       go_ret
       exact ⟨ret_bool (by rw [<- HR.out]; simp [t0, t1, t5]), ⟨HB.out.os, HB.out.tape, HB.out.output, HB.out.size, HB.out.block⟩⟩
      ·cases t6 : (ar == br)
       ·go_wp2_with fail
        go_ret
        exact ⟨ret_bool (by rw [<- HR.out]; simp [t0, t1, t5, t6]), ⟨HB.out.os, HB.out.tape, HB.out.output, HB.out.size, HB.out.block⟩⟩
       ·cases t7 : (ag.toList == bg.toList)
        ·go_wp2_with fail
         go_ret
         exact ⟨ret_bool (by rw [<- HR.out]; simp [t0, t1, t5, t6, t7]), ⟨HB.out.os, HB.out.tape, HB.out.output, HB.out.size, HB.out.block⟩⟩
        ·cases t8 : (ap.toList == bp.toList)
         ·go_wp2_with fail
          go_ret
          exact ⟨ret_bool (by rw [<- HR.out]; simp [t0, t1, t5, t6, t7, t8]), ⟨HB.out.os, HB.out.tape, HB.out.output, HB.out.size, HB.out.block⟩⟩
         ·cases t9 : (ac.toList == bc.toList)
          iterate 2
           ·go_wp2_with fail
            go_ret
            exact ⟨ret_bool (by rw [<- HR.out]; simp [t0, t1, t5, t6, t7, t8, t9]), ⟨HB.out.os, HB.out.tape, HB.out.output, HB.out.size, HB.out.block⟩⟩

theorem cmd44 (a b : CmdR) (vk vv vt vk' vv' vt' : Value) (w : World) (ha : CmdOk w w.heap.size a vk vv vt) (hb : CmdOk w w.heap.size b vk' vv' vt') :
  Calls Tryz.prog 69 #[.agg (cmdC a vk vv vt).toArray, .agg (cmdC b vk' vv' vt').toArray] w fun e w' => e = .returned (.bool (cmdEq a b)) /\ Below w.heap.size w w' := by
 obtain ⟨W0, hW0, ⟨⟨ak1, A1, c1, rfl, ak2⟩, ⟨av1, av2, A2, c2, rfl, av3⟩, ⟨at1, A3, c3, rfl, at2⟩⟩, ⟨⟨bk1, A4, c4, rfl, bk2⟩, ⟨bv1, bv2, A5, c5, rfl, bv3⟩, ⟨bt1, A6, c6, rfl, bt2⟩⟩, hbw⟩ := cmd_open ha hb
 clear ha hb
 obtain ⟨ao, ak, aks, av, ats, al, ar, ag, ap, ac⟩ := a
 obtain ⟨bo, bk, bks, bv, bts, bl, br, bg, bp, bc⟩ := b
 simp only [cmdC] at *
 have H64k := kp (fun q => strs68_any A1 A4 aks bks _ _ c1 c4 (W0.drewN q) rfl rfl ak1 bk1 ak2 bk2)
 have H64t := kp (fun q => strs68_any A3 A6 ats bts _ _ c3 c6 (W0.drewN q) rfl rfl at1 bt1 at2 bt2)
 have HQ1 := kp (fun q => Byt.convert (w := W0.drewN q) (B := W0.heap.size) (n := av.length) av3 rfl)
 have HQ2 := kp (fun q => Byt.convert (w := W0.drewN q) (B := W0.heap.size) (n := bv.length) bv3 rfl)
 have hse := str_beq av1 bv1
 obtain ⟨res, hres⟩ : ∃ res, cmdEq ⟨ao, ak, aks, av, ats, al, ar, ag, ap, ac⟩ ⟨bo, bk, bks, bv, bts, bl, br, bg, bp, bc⟩ = res := ⟨_, rfl⟩
 rw [hres]
 simp only [cmdEq] at hres
 rw [<- hse] at hres
 clear hse
 generalize strOfNums av = sa at *
 generalize strOfNums bv = sb at *
 obtain ⟨g2, hg2⟩ : ∃ g2, decide (aks = bks) = g2 := ⟨_, rfl⟩
 obtain ⟨g4, hg4⟩ : ∃ g4, decide (ats = bts) = g4 := ⟨_, rfl⟩
 rw [hg2, hg4] at hres
 rw [hg2] at H64k
 rw [hg4] at H64t
 clear hg2 hg4 ak1 ak2 av1 av2 av3 at1 at2 bk1 bk2 bv1 bv2 bv3 bt1 bt2
 generalize aks.length = n1 at *
 generalize av.length = n2 at *
 generalize ats.length = n3 at *
 generalize bks.length = n4 at *
 generalize bv.length = n5 at *
 generalize bts.length = n6 at *
 clear aks av ats bks bv bts
 have HR := kp hres
 have HB := kp hbw
 clear hres hbw
 subst hW0
 go_enter Tryz.func69, Tryz.ntmps69
 cases t0 : (ao == bo)
 ·go_wp2_with fail
  go_ret
  exact ⟨ret_bool (by rw [<- HR.out]; simp [t0]), HB.out⟩
 ·cases t1 : (ak.toList == bk.toList)
  ·go_wp2_with fail
   go_ret
   exact ⟨ret_bool (by rw [<- HR.out]; simp [t0, t1]), HB.out⟩
  ·go_wp2_with fail
   refine (H64k.out 0).mono ?_
   rintro e w1 ⟨rfl, q1, rfl⟩
   have e1 := HQ1.out q1
   have e2 := HQ2.out q1
   cases g2
   ·go_wp2_with fail
    go_ret
    exact ⟨ret_bool (by rw [<- HR.out]; simp [t0, t1]), ⟨HB.out.os, HB.out.tape, HB.out.output, HB.out.size, HB.out.block⟩⟩
   ·cases t3 : (sa.toList == sb.toList)
    ·go_wp2_with fail
     go_ret
     exact ⟨ret_bool (by rw [<- HR.out]; simp [t0, t1, t3]), ⟨HB.out.os, HB.out.tape, HB.out.output, HB.out.size, HB.out.block⟩⟩
    ·go_wp2_with fail
     refine (H64t.out _).mono ?_
     rintro e w3 ⟨rfl, q3, rfl⟩
     cases g4
     ·go_wp2_with fail
      go_ret
      exact ⟨ret_bool (by rw [<- HR.out]; simp [t0, t1, t3]), ⟨HB.out.os, HB.out.tape, HB.out.output, HB.out.size, HB.out.block⟩⟩
     ·cases t5 : (al == bl)
      ·go_wp2_with fail
       go_ret
       exact ⟨ret_bool (by rw [<- HR.out]; simp [t0, t1, t3, t5]), ⟨HB.out.os, HB.out.tape, HB.out.output, HB.out.size, HB.out.block⟩⟩
      ·cases t6 : (ar == br)
       ·go_wp2_with fail
        go_ret
        exact ⟨ret_bool (by rw [<- HR.out]; simp [t0, t1, t3, t5, t6]), ⟨HB.out.os, HB.out.tape, HB.out.output, HB.out.size, HB.out.block⟩⟩
       ·cases t7 : (ag.toList == bg.toList)
        ·go_wp2_with fail
         go_ret
         exact ⟨ret_bool (by rw [<- HR.out]; simp [t0, t1, t3, t5, t6, t7]), ⟨HB.out.os, HB.out.tape, HB.out.output, HB.out.size, HB.out.block⟩⟩
        ·cases t8 : (ap.toList == bp.toList)
         ·go_wp2_with fail
          go_ret
          exact ⟨ret_bool (by rw [<- HR.out]; simp [t0, t1, t3, t5, t6, t7, t8]), ⟨HB.out.os, HB.out.tape, HB.out.output, HB.out.size, HB.out.block⟩⟩
         ·cases t9 : (ac.toList == bc.toList)
          iterate 2
           ·go_wp2_with fail
            go_ret
            exact ⟨ret_bool (by rw [<- HR.out]; simp [t0, t1, t3, t5, t6, t7, t8, t9]), ⟨HB.out.os, HB.out.tape, HB.out.output, HB.out.size, HB.out.block⟩⟩
end Go.Proofs.YtnjhpgmbfblgaaaGreat.Ord
