/-
  rallentandolaw14.at and alive: the chapter's first examples.
-/
import Derived.Test.YthajkhbeehiepaaReg2
namespace Go.Proofs.Ythajkhbeehiepaa
set_option linter.unusedVariables false
set_option linter.unusedSimpArgs false
set_option maxRecDepth 100000
open Go.RowKit Go.Proofs.Ythajkhbeehiepaa.Eng Enc

theorem at14_any (t u : Int) (ht : inK .i64 t) (hu : inK .i64 u) (w : World) :
    Calls Try.prog 7 #[.int .i64 t, .int .i64 u] w fun e w' => e = .returned (.agg #[.int .i64 (Fr.of t 6).1.num, .int .i64 (Fr.of t 6).1.den, .int .i64 (Fr.of u 6).1.num, .int .i64 (Fr.of u 6).1.den]) ∧ Below w.heap.size w w' := by
  refine fun_eq 0 w Try.func7 (args := [.val (.int .i64 t), .val (.int .i64 u)]) rfl rfl ?_
  refine NewI.mk fun b1 hb1 => ?_
  (first
    | (refine CallI.to1 (rof_any t 6 ht (by simp only [inK]; omega)) fun w2 => ?_)
    | (refine Branch.yes rfl ?_)
    | (refine Branch.no rfl ?_)
    | (refine Branch.mk (fun hb => ?_) (fun hb => ?_))
    | (refine NewI.mk fun nb hnb => ?_)
    | (refine Need.mk (by show _ ∧ _; omega) ?_)
    | (refine Need.mk (by omega) ?_)
    | (refine Need.mk ?_ ?_)
    | (refine EndI.mk fun w1 h1 => ?_))
  refine NewI.mk fun b2 hb2 => ?_
  (first
    | (refine CallI.to1 (rof_any u 6 hu (by simp only [inK]; omega)) fun w2 => ?_)
    | (refine Branch.yes rfl ?_)
    | (refine Branch.no rfl ?_)
    | (refine Branch.mk (fun hb => ?_) (fun hb => ?_))
    | (refine NewI.mk fun nb hnb => ?_)
    | (refine Need.mk (by show _ ∧ _; omega) ?_)
    | (refine Need.mk (by omega) ?_)
    | (refine Need.mk ?_ ?_)
    | (refine EndI.mk fun w1 h1 => ?_))
  refine NewI.mk fun b3 hb3 => ?_
  exact EndI.mk fun w3 h3 => rfl
/-- a point of sixths. -/
def atP (t u : Int) : Pt := ⟨(Fr.of t 6).1, (Fr.of u 6).1⟩
theorem atP_ins {t u : Int} (ht : inK .i64 t) (hu : inK .i64 u) : (atP t u).ins := ⟨Fr.of_ins ht, Fr.of_ins hu⟩
theorem at_any14 (t u : Int) (q : Pt) (e : atP t u = q) (ht : inK .i64 t := by simp [inK]) (hu : inK .i64 u := by simp [inK]) (w : World) :
    Calls Try.prog 7 #[.int .i64 t, .int .i64 u] w fun e w' => e = .returned (.agg #[.int .i64 q.t.num, .int .i64 q.t.den, .int .i64 q.u.num, .int .i64 q.u.den]) ∧ Below w.heap.size w w' := by
  subst e; exact at14_any t u ht hu w
theorem alive14_any (w : World) : Calls Try.prog 11 #[] w fun e w' => e = .returned (.bool true) ∧ Below w.heap.size w w' := by
  refine fun_eq 0 w Try.func11 (args := []) rfl rfl ?_
  have m2 := fun w => many_any 2 w
  rw [show Rg.many 2 = (75, 0) by decide +kernel] at m2
  refine CallI.to1 m2 fun w1 => ?_
  have i1 : (atP 0 3).ins := atP_ins (by simp [inK]) (by simp [inK])
  have i2 : (atP 2 10).ins := atP_ins (by simp [inK]) (by simp [inK])
  (first
    | (refine CallI.to1 (at14_any 0 3 (by simp [inK]) (by simp [inK])) fun w2 => ?_)
    | (refine Branch.yes rfl ?_)
    | (refine Branch.no rfl ?_)
    | (refine Branch.mk (fun hb => ?_) (fun hb => ?_))
    | (refine NewI.mk fun nb hnb => ?_)
    | (refine Need.mk (by show _ ∧ _; omega) ?_)
    | (refine Need.mk (by omega) ?_)
    | (refine Need.mk ?_ ?_)
    | (refine EndI.mk fun w1 h1 => ?_))
  have q1 := fun w => rnumber_any (atP 0 3) 2 i1 w
  rw [show Rg.askNumber (atP 0 3) 2 = (4, 0) by decide +kernel] at q1
  refine CallI.to1 q1 fun w2 => ?_
  (first
    | (refine CallI.to1 (at14_any 2 10 (by simp [inK]) (by simp [inK])) fun w2 => ?_)
    | (refine Branch.yes rfl ?_)
    | (refine Branch.no rfl ?_)
    | (refine Branch.mk (fun hb => ?_) (fun hb => ?_))
    | (refine NewI.mk fun nb hnb => ?_)
    | (refine Need.mk (by show _ ∧ _; omega) ?_)
    | (refine Need.mk (by omega) ?_)
    | (refine Need.mk ?_ ?_)
    | (refine EndI.mk fun w1 h1 => ?_))
  have q2 := fun w => rnumber_any (atP 2 10) 2 i2 w
  rw [show Rg.askNumber (atP 2 10) 2 = (24, 0) by decide +kernel] at q2
  refine CallI.to1 q2 fun w3 => ?_
  refine Branch.yes (by decide) ?_
  refine Branch.yes (by decide) ?_
  refine Branch.yes (by decide) ?_
  refine Branch.yes (by decide) ?_
  refine Branch.yes (by decide) ?_
  exact EndI.mk fun w4 h4 => rfl

end Go.Proofs.Ythajkhbeehiepaa
