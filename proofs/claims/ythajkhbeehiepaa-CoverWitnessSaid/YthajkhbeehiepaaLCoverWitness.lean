/-
  rallentando/rallentandolaw12.CoverWitness: the law.
-/
import Derived.Test.YthajkhbeehiepaaMCoverWitness3
import Derived.Test.YthajkhbeehiepaaMCoverWitness5
namespace Go.Proofs.Ythajkhbeehiepaa
set_option linter.unusedVariables false
open Go.ChangeShapes Go.WideShapes Go.ChangeAt Go.RowKit Go.Deep

set_option maxRecDepth 100000 in
theorem coverWitness_lifted (os : Os) (started : os.Started) (H : Type) (enc : TypeId × Value → H) :
    ReturnsInHanded {} Try.checked os 5 .any (Rows.coverWitnessSpec.pre6 enc Try.prog Try.f5 Rows.coverWitnessRow.domain false) (Rows.coverWitnessSpec.post enc Try.prog Try.f5 false true false false) := by
  refine returnsInHanded_of_change (C := Try.checked) own started (by kernel_rfl) Try.func5
    (ChangeSpec.witness6 (enc := enc) (C := Try.checked) false ⟨#[], #[.agg #[.int .i64 0, .int .i64 0, .int .i64 0, .int .i64 0, .int .i64 0, .int .i64 0], .slice none 0 0, .agg #[.int .i64 0, .int .i64 0, .int .i64 0, .int .i64 0, .int .i64 0, .int .i64 0]], []⟩ 8 (by kernel_rfl) (by kernel_rfl) (by kernel_rfl) (by kernel_rfl)) ?_
  intro W base args ds gs before hval0 hW _ _
  have hval : ∀ (j : Nat) t v, Try.f5.params[j]? = some t → args[j]? = some v → Value.okWide Try.prog W .any base t v := hval0
  have hW' := hW
  obtain ⟨p, q, hA0, hV, rfl, hfz, hnd⟩ := hW
  have hA : DataW.TrodAll enc Try.prog W 0 (fun _ => true) true Try.f5.params.toList args.toList ds p := hA0
  rw [Try.params5] at hA hval
  obtain ⟨v0, vs0, d0, ds0, p0_, q0_, hargs, rfl, rfl, h0, r0⟩ := trodAll_cons hA
  obtain ⟨v1, vs1, d1, ds1, p1_, q1_, rfl, rfl, rfl, h1, r1⟩ := trodAll_cons r0
  obtain ⟨v2, vs2, d2, ds2, p2_, q2_, rfl, rfl, rfl, h2, r2⟩ := trodAll_cons r1
  obtain ⟨rfl, rfl, rfl⟩ := trodAll_nil r2
  obtain rfl : args = #[v0, v1, v2] := by cases args; simp_all
  obtain ⟨rfl, rfl⟩ := trodVars_none hV
  obtain ⟨z0, rfl, G0⟩ := open_agg (opens_zn Try.underlying37 (by kernel_rfl) Try.underlying35 (by kernel_rfl)) (.inr ⟨_, _, Try.underlying37⟩) (hval 0 37 v0 rfl rfl) h0
  obtain ⟨x1, L1, c1, rfl, S1, G1⟩ := open_lst Try.underlying43 (opens_zn Try.underlying37 (by kernel_rfl) Try.underlying35 (by kernel_rfl)) (hval 1 43 v1 rfl rfl) h1
  obtain ⟨z2, rfl, G2⟩ := open_agg (opens_zn Try.underlying37 (by kernel_rfl) Try.underlying35 (by kernel_rfl)) (.inr ⟨_, _, Try.underlying37⟩) (hval 2 37 v2 rfl rfl) h2
  clear hA0 hval0
  exact (coverWitness_walk z0 L1 z2 x1 c1 W S1).mono fun e W' ⟨he, hg⟩ => ⟨_, he, law_post laidOut (by kernel_rfl) rfl rfl Try.underlying4 hW' rfl hg⟩

set_option maxRecDepth 100000 in
theorem coverWitness_over : Rows.coverWitnessRow.holds Try.pinned (OpenSpec.ofChange Rows.coverWitnessSpec) :=
  OpenClaim.holds_of_wide 5 Try.f5 rfl rfl rfl rfl rfl rfl rfl ⟨rfl, rfl, rfl, rfl, rfl⟩ rfl rfl rfl rfl rfl (by kernel_rfl) Try.func5 (by kernel_rfl)
    (of_decide_eq_true (by kernel_rfl)) (by unfold Func.isWrapper; first | (rw [if_pos (by decide +kernel)]; kernel_rfl) | (rw [if_neg (by decide +kernel)]; exact ⟨rfl, rfl⟩))
    (fun os started H enc _ => coverWitness_lifted os started H enc)

theorem coverWitness.proved : Rows.CoverWitnessSaid := coverWitness_over
#print axioms coverWitness.proved
end Go.Proofs.Ythajkhbeehiepaa
