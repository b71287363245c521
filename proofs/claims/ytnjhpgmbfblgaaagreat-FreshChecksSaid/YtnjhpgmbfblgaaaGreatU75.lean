/- Walk of the law. -/
import Derived.Test.YtnjhpgmbfblgaaaGreatU74
import Derived.Test.YtnjhpgmbfblgaaaGreatU67
import Derived.Test.YtnjhpgmbfblgaaaGreatMU69
set_option linter.unusedVariables false
set_option linter.unusedSimpArgs false
namespace Go.Proofs.YtnjhpgmbfblgaaaGreat.Ord
open Go.RowKit
set_option maxRecDepth 100000
set_option maxHeartbeats 8000000
def CalsG (L : List (CallR × CallV)) : Prop := ∀ x ∈ L, (Rng x.1 /\ CmdSz x.1.cmd /\ RespSz x.1.resp) /\ IsT x.1.tim /\ CapI x.1 x.2
theorem CalsG.row {w : World} {A : Option Addr} {L : List (CallR × CallV)} (h : CalsG L) (hA : RowCO w w.heap.size A L) (hl : L.length <= 60) (hs : ∀ x ∈ L, Light x.1.cmd x.1.resp) : RowG w A L :=
 ⟨hA, fun x hx => callS_of (hs x hx) (h x hx).1.1, fun x hx => ⟨(h x hx).1.1, (h x hx).2.1⟩, fun x hx => (h x hx).2.2, by omega⟩
theorem law6 (cfg : List Value) (grace : Int) (hgr : IsT grace) (hg : cfg[5]? = some (.int .u64 grace)) (hcl : (Tryz.prog.info? 62).map (·.size) = some cfg.length)
  (L : List (CallR × CallV)) (A : Option Addr) (n c : Nat) (w : World) (hn : L.length = n) (hl : n <= maxLen) (hA : RowCO w w.heap.size A L) (hG : CalsG L) :
  Calls Tryz.prog 6 #[.agg cfg.toArray, .slice A n c] w (LawP w) := by
 obtain ⟨W0, hW0⟩ := eY (w.alloc (.cells cfg.toArray 62))
 have hb0 : Bw w W0 := by rw [<- hW0]; exact below1 w _
 have hr0 : RowL W0 w.heap.size 62 cfg := by rw [<- hW0]; exact RowL.new w 62 cfg
 obtain ⟨Ag, HC, Aj⟩ := kq3 (row_up hA hb0) (fun W (hW : Bw W0 W) => (hr0.below hW hr0.lt).cells) (fun W (hW : Bw W0 W) => (hr0.below hW hr0.lt).cell hg)
 obtain ⟨HL, H30, H31, Ae, Ak, Al⟩ := kq6 (fun W (hW : Bw W0 W) => light28 L A n c W hn hl (row_up Ag.o hW) (fun x hx => (hG x hx).1.2)) (fun W (hW : Bw W0 W) (h6 : n <= 60) (hs : ∀ x ∈ L, Light x.1.cmd x.1.resp) => check30 cfg grace hgr hg L A n c W hn (hG.row (row_up Ag.o hW) (by omega) hs)) (fun W (hW : Bw W0 W) (h6 : n <= 60) (hs : ∀ x ∈ L, Light x.1.cmd x.1.resp) => refCheck31 grace hgr L A n c W hn (hG.row (row_up Ag.o hW) (by omega) hs)) hb0 hW0 hcl
 clear hb0 hr0 hW0 hA hG hg hcl hgr hn
 go_enter Tryz.func6, Tryz.ntmps6
 go_upto_region 1 with (fail)
 rw [Ak.o]
 go_wp2_with fail
 refine (HL.o W0 (BR _ _)).mono ?_
 rintro e w1 ⟨t, rfl, hlt, hb1⟩
 obtain ⟨Ah, Ab⟩ := kq2 hlt hb1
 clear hlt hb1
 cases t
 ·go_wp2_with (go_at_call 29; refine (known29 w1).mono ?_; rintro e w2 ⟨rfl, hb2⟩)
  go_ret
  exact ⟨rfl, Ae.o.trans ((Ab.o.trans (hb2.mono Ab.o.size)).mono Ae.o.size)⟩
 have Ad := kp (Ah.o rfl)
 clear Ah
 have Ai := kp (HC.o _ Ab.o)
 go_wp2_with ((with_reducible refine wpList_load_agg (o := ⟨some 16, _, _, _, _, _⟩) rfl 62 _ rfl ⟨w.heap.size, 0, none⟩ ?_ cfg _ Ai.o Tryz.underlying62 rfl Al.o ?_); (· rfl))
 refine (H30.o w1 Ab.o Ad.o.1 Ad.o.2).mono ?_
 rintro e w2 ⟨hno, hyes, hb2⟩
 have Af := kp (Ab.o.trans (hb2.mono Ab.o.size))
 have hc5 := Aj.o _ Af.o
 obtain ⟨H31', Aa⟩ := kq2 (H31.o w2 Af.o Ad.o.1 Ad.o.2) (Ae.o.trans (Af.o.mono Ae.o.size))
 clear hb2 HC Aj HL H30 H31 Ab Ai
 by_cases hv : ValidP singleB (L.map (·.1))
 ·obtain ⟨r, hr, rfl⟩ := hyes hv
  obtain ⟨HR, HV⟩ := kq2 hr hv
  clear hno hyes hr hv
  go_wp2_with fail
  refine H31'.o.mono ?_
  rintro e w3 ⟨hno, hyes, hb3⟩
  obtain ⟨r', hr', rfl⟩ := hyes HV.o
  obtain rfl := HR.o.fun hr'
  have Ac := kp hb3
  clear hno hyes hr' hb3
  obtain ⟨ra, hra⟩ := eY (atR r)
  obtain ⟨rf, hrf⟩ := eY (fltR r)
  rw [hra, hrf]
  have hea : (ra == ra) = true := by simp
  have hef : (rf == rf) = true := by simp
  go_wp2_with (go_at_call 29; refine (known29 w3).mono ?_; rintro e w4 ⟨rfl, hb4⟩)
  go_ret
  exact ⟨rfl, Aa.o.trans ((Ac.o.trans (hb4.mono Ac.o.size)).mono Aa.o.size)⟩
 have HV := kp hv
 obtain rfl := hno hv
 clear hno hyes hv
 go_wp2_with fail
 refine H31'.o.mono ?_
 rintro e w3 ⟨hno, hyes, hb3⟩
 obtain rfl := hno HV.o
 have Ac := kp hb3
 clear hno hyes hb3
 go_wp2_with (go_at_call 29; refine (known29 w3).mono ?_; rintro e w4 ⟨rfl, hb4⟩)
 go_ret
 exact ⟨rfl, Aa.o.trans ((Ac.o.trans (hb4.mono Ac.o.size)).mono Aa.o.size)⟩
end Go.Proofs.YtnjhpgmbfblgaaaGreat.Ord
