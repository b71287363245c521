/- Walk of the program's do. -/
import Derived.Test.YtnjhpgmbfblgaaaGreatMU46
import Derived.Deep.DeepCutAuto
import Derived.Deep.CutBlock
set_option linter.unusedVariables false
set_option linter.unusedSimpArgs false
namespace Go.Proofs.YtnjhpgmbfblgaaaGreat.Ord
open Go.RowKit
set_option maxRecDepth 100000
set_option maxHeartbeats 8000000
theorem n133 : (Tryz.f133.name == "runtime.NumGoroutine") = false := by decide
theorem b133 : Tryz.f133.body.isSome = true := rfl
theorem do73t (w : World) (lim J : Nat) (grace : Int) (ws : List WrR) (es : Edges) (s : JS) (h : JI w lim J grace ws es s) (x : CallR) (p : CallV) (hx : CallOk w lim x p) (hg : CalG x ws es) (hcl : x.cmd.op = 6) :
  Calls Tryz.prog 73 #[ptV J, .agg (callC x p).toArray] w (dv_ w lim J grace ws es x) := by
 refine pre73 w lim J grace ws es s h x p hx _ ?_
 intro LX LC X C FB op key tim cnt wc hp
 obtain ⟨Ag, Ab, Ad, Ac, Aa, Ai, Af, HJ, Ah, Ao, An, Am, Al, Ak, Ae⟩ := hp
 intros
 conv => arg 2; dsimp only [restD, sndC, Tryz.f73, Option.getD]
 obtain ⟨HG, Aj⟩ := kq2 hg hcl
 clear h hx hg hcl
 have c0 := Al.o _ Af.o
 have c1 := Ak.o _ Af.o
 have x22 := Ae.o _ Ai.o
 obtain rfl : op = 6 := by rw [<- Ab.o]; exact Aj.o
 by_cases hc1 : cnt = 1
 ·subst hc1
  obtain ⟨life, hlife⟩ := eY x.cmd.life
  obtain ⟨i, hi⟩ := HG.o.there Ab.o Aa.o
  obtain ⟨y, hy, -⟩ := bD_ ws _ i hi
  have hto := gw_ (d := addT tim life) hi hy
  rw [Ad.o] at hi hto
  have hit : IsT tim := Ac.o ▸ HG.o.tim
  have hil : IsT life := hlife ▸ HG.o.life
  obtain ⟨d, hd⟩ := eY (addT tim life)
  rw [hd] at hto
  have hdt : IsT d := hd ▸ gp_ hit hil
  have H133 := kp (fun W => hd ▸ lB_ tim life hit hil W)
  obtain ⟨q, hq⟩ := eY (s.ps.getD i 0)
  have hil2 := (gS.1 hy).1
  have hpi : s.ps[i]? = some q := by
   rw [<- hq, List.getD_eq_getElem?_getD, gE (by rw [HJ.o.len]; exact hil2)]
   rfl
  have hlk0 := (HJ.o.below (ag_ wc 1)).mapM.run_lookup Tryz.underlying134 Tryz.underlying9 (.pointer none) (Tryz.zeroValue217 _) key
  have hlk : (Instr.lookup 134 (.map (some s.M)) (.string key) false).run Tryz.prog wc.drew = .ok (.pointer (some ⟨q, 0, none⟩)) wc.drew := by
   rw [hi] at hlk0
   simp only [Option.map_some, Option.getD_some] at hlk0
   rw [hq] at hlk0
   exact hlk0
  have j2 : wc.cell? ⟨J, 2, none⟩ = some (.map (some s.M)) := HJ.o.row.cell (j := 2) rfl
  have k5 : wc.cell? ⟨C, 5, none⟩ = some (.int .u64 life) := hlife ▸ Af.o.cell Ag.o.2.2.2.1
  have hrow := (HJ.o.wrs i y q hy hpi).1
  have e3 : wc.cell? ⟨q, 3, none⟩ = some (.int .u64 y.dl) := hrow.cell (j := 3) rfl
  have z3 : wc.frozen? ⟨q, 3, none⟩ = false := hrow.frozen 3
  have hyt := HJ.o.times y (mG hy)
  obtain ⟨u1, u2, u3⟩ := HJ.o.setW hy hpi (j := 3) (v := .int .u64 d) (x' := { y with dl := d }) rfl ⟨rfl, rfl, rfl, id, hyt.1, hdt⟩
  have HP := kp (show DoS x ws es (ws.set i { y with dl := d }) es /\ JI (wc.setCell ⟨q, 3, none⟩ (.int .u64 d)) lim J grace (ws.set i { y with dl := d }) es s /\ Below lim w (wc.setCell ⟨q, 3, none⟩ (.int .u64 d)) from ⟨⟨_, by unfold MidS; rw [Ab.o, if_neg (by omega), if_pos rfl, if_pos Aa.o, Ad.o, Ac.o, hlife, hd]; exact ⟨rfl, hto.symm⟩, (c9_ (by rw [Ab.o]; omega) _).symm⟩, u1, Ah.o.trans (u2.below HJ.o.lw fun b hb => by simp at hb; subst hb; exact u3)⟩)
  clear hi hy hto hd hdt hit hil u1 u2 u3 hyt hrow hlk0 hpi hq hil2 hlife
  go_wp2_with fail
  go_region_law ((with_reducible refine ao_ (o := ⟨some 80, _, _, _, _, _⟩) rfl 133 _ _ rfl #[.int .u64 tim, .int .u64 life] ?_ Tryz.f133 Tryz.func133 n133 b133 (fun u w6 => u = .int .u64 d /\ w6 = wc.drew) ?_ ?_); (· simp only [y1, y2, y3]; rfl); (· exact (H133.o _).mono fun e w' ⟨h1, h2⟩ => ⟨_, h1, rfl, h2⟩); rintro u w6 ⟨rfl, rfl⟩)
  all_goals
   go_wp2_with fail
   go_end0
   exact ⟨rfl, _, es, s, HP.o.1, HP.o.2.1.below (ag_ _ 1), HP.o.2.2.trans ((ag_ _ 1).mono HP.o.2.1.lw)⟩
 have gc : (cnt == 1) = false := by simpa using hc1
 have HP := kp (show DoS x ws es ws es from ⟨ws, by unfold MidS; rw [Ab.o, if_neg (by omega), if_pos rfl, if_neg (by rw [Aa.o]; exact hc1)]; exact ⟨rfl, rfl⟩, (c9_ (by rw [Ab.o]; omega) ws).symm⟩)
 clear hc1 c1 x22
 go_wp2_with fail
 go_end0
 exact ⟨rfl, ws, es, s, HP.o, HJ.o, Ah.o⟩
end Go.Proofs.YtnjhpgmbfblgaaaGreat.Ord
