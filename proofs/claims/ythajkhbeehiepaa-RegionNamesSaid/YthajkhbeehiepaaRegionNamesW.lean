/-
  The walk of rallentandolaw14.RegionNames, by the engine.
-/
import Derived.Test.YthajkhbeehiepaaAlive14
namespace Go.Proofs.Ythajkhbeehiepaa
set_option linter.unusedVariables false
set_option linter.unusedSimpArgs false
set_option maxRecDepth 100000
open Go.RowKit Go.Proofs.Ythajkhbeehiepaa.Eng Enc

theorem regionNames_walk (w : World) : Calls Try.prog 3 #[] w fun e w' => e = .returned (.bool true) ∧ Below w.heap.size w w' := by
  refine fun_eq 0 w Try.func3 (args := []) rfl rfl ?_
  (first
    | (refine CallI.to1 (at14_any 2 10 (by simp [inK]) (by simp [inK])) fun w2 => ?_)
    | (refine Branch.yes rfl ?_)
    | (refine Branch.no rfl ?_)
    | (refine Branch.mk (fun hb => ?_) (fun hb => ?_))
    | (refine NewI.mk fun nb hnb => ?_)
    | (refine Need.mk (by show _ ∧ _; omega) ?_)
    | (refine Need.mk (by omega) ?_)
    | (refine Need.mk ?_ ?_)
    | (refine EndI.mk fun w1 h1 => ?_))
  (first
    | (refine CallI.to1 (at14_any 3 9 (by simp [inK]) (by simp [inK])) fun w2 => ?_)
    | (refine Branch.yes rfl ?_)
    | (refine Branch.no rfl ?_)
    | (refine Branch.mk (fun hb => ?_) (fun hb => ?_))
    | (refine NewI.mk fun nb hnb => ?_)
    | (refine Need.mk (by show _ ∧ _; omega) ?_)
    | (refine Need.mk (by omega) ?_)
    | (refine Need.mk ?_ ?_)
    | (refine EndI.mk fun w1 h1 => ?_))
  (first
    | (refine CallI.to1 (at14_any 4 8 (by simp [inK]) (by simp [inK])) fun w2 => ?_)
    | (refine Branch.yes rfl ?_)
    | (refine Branch.no rfl ?_)
    | (refine Branch.mk (fun hb => ?_) (fun hb => ?_))
    | (refine NewI.mk fun nb hnb => ?_)
    | (refine Need.mk (by show _ ∧ _; omega) ?_)
    | (refine Need.mk (by omega) ?_)
    | (refine Need.mk ?_ ?_)
    | (refine EndI.mk fun w1 h1 => ?_))
  refine NewI.mk fun b1 hb1 => ?_
  refine LoopI.rounds 4 ?_
  refine Branch.yes rfl ?_
  refine Need.mk (by simp only [inK]; omega) ?_
  have q0 := fun w => rpoint_any 24 2 w
  rw [show Rg.askPoint 24 2 = (atP 2 10, 0) by decide +kernel] at q0
  refine CallI.to1 q0 fun w0 => ?_
  refine NewI.mk fun c0 hc0 => ?_
  refine DrawI.go (.tk 0 (.tk 1 (.tk 2 (.tk 3 (.tk 4 (.tk 5 (.tk 6 (.ev 7 (.tk 8 .done))))))))) (by kernel_rfl) fun v0 h0 => ?_
  refine Branch.no rfl ?_
  refine Need.mk (by decide) ?_
  refine GenV.to (fun w => run_neq_ptG _ _ (atP 2 10) (atP 2 10) w) fun u0 k0 => ?_
  refine Branch.no (by simp) ?_
  refine Need.mk (by simp only [inK]; omega) ?_
  refine Branch.yes rfl ?_
  refine Need.mk (by simp only [inK]; omega) ?_
  have q1 := fun w => rpoint_any 25 2 w
  rw [show Rg.askPoint 25 2 = (atP 3 9, 0) by decide +kernel] at q1
  refine CallI.to1 q1 fun w1 => ?_
  refine NewI.mk fun c1 hc1 => ?_
  refine DrawI.go (.tk 0 (.tk 1 (.tk 2 (.tk 3 (.tk 4 (.tk 5 (.tk 6 (.ev 7 (.tk 8 .done))))))))) (by kernel_rfl) fun v1 h1 => ?_
  refine Branch.no rfl ?_
  refine Need.mk (by decide) ?_
  refine GenV.to (fun w => run_neq_ptG _ _ (atP 3 9) (atP 3 9) w) fun u1 k1 => ?_
  refine Branch.no (by simp) ?_
  refine Need.mk (by simp only [inK]; omega) ?_
  refine Branch.yes rfl ?_
  refine Need.mk (by simp only [inK]; omega) ?_
  have q2 := fun w => rpoint_any 26 2 w
  rw [show Rg.askPoint 26 2 = (atP 4 8, 0) by decide +kernel] at q2
  refine CallI.to1 q2 fun w2 => ?_
  refine NewI.mk fun c2 hc2 => ?_
  refine DrawI.go (.tk 0 (.tk 1 (.tk 2 (.tk 3 (.tk 4 (.tk 5 (.tk 6 (.ev 7 (.tk 8 .done))))))))) (by kernel_rfl) fun v2 h2 => ?_
  refine Branch.no rfl ?_
  refine Need.mk (by decide) ?_
  refine GenV.to (fun w => run_neq_ptG _ _ (atP 4 8) (atP 4 8) w) fun u2 k2 => ?_
  refine Branch.no (by simp) ?_
  refine Need.mk (by simp only [inK]; omega) ?_
  refine Branch.no rfl ?_
  have q3 := fun w => rpoint_any 5 2 w
  rw [show Rg.askPoint 5 2 = (Rg.zero, 6) by decide +kernel] at q3
  refine CallI.to1 q3 fun w3 => ?_
  refine NewI.mk fun c3 hc3 => ?_
  have q4 := fun w => rpoint_any 75 2 w
  rw [show Rg.askPoint 75 2 = (Rg.zero, 2) by decide +kernel] at q4
  refine CallI.to1 q4 fun w4 => ?_
  refine NewI.mk fun c4 hc4 => ?_
  have q5 := fun w => many_any 17 w
  rw [show Rg.many 17 = (0, 2) by decide +kernel] at q5
  refine CallI.to1 q5 fun w5 => ?_
  (first
    | (refine CallI.to1 (at14_any 3 3 (by simp [inK]) (by simp [inK])) fun w2 => ?_)
    | (refine Branch.yes rfl ?_)
    | (refine Branch.no rfl ?_)
    | (refine Branch.mk (fun hb => ?_) (fun hb => ?_))
    | (refine NewI.mk fun nb hnb => ?_)
    | (refine Need.mk (by show _ ∧ _; omega) ?_)
    | (refine Need.mk (by omega) ?_)
    | (refine Need.mk ?_ ?_)
    | (refine EndI.mk fun w1 h1 => ?_))
  have i6 : (atP 3 3).ins := atP_ins (by simp [inK]) (by simp [inK])
  have q6 := fun w => rnumber_any (atP 3 3) 2 i6 w
  rw [show Rg.askNumber (atP 3 3) 2 = (0, 6) by decide +kernel] at q6
  refine CallI.to1 q6 fun w6 => ?_
  (first
    | (refine CallI.to1 (alive14_any) fun w2 => ?_)
    | (refine Branch.yes rfl ?_)
    | (refine Branch.no rfl ?_)
    | (refine Branch.mk (fun hb => ?_) (fun hb => ?_))
    | (refine NewI.mk fun nb hnb => ?_)
    | (refine Need.mk (by show _ ∧ _; omega) ?_)
    | (refine Need.mk (by omega) ?_)
    | (refine Need.mk ?_ ?_)
    | (refine EndI.mk fun w1 h1 => ?_))
  refine Branch.yes rfl ?_
  refine Branch.yes (by decide) ?_
  refine Branch.yes (by decide) ?_
  refine Branch.yes (by decide) ?_
  exact EndI.mk fun w9 h9 => rfl
end Go.Proofs.Ythajkhbeehiepaa
