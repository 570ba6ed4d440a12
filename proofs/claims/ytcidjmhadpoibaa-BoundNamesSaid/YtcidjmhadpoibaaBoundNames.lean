/-
  BoundNames: the law returns true at every input.
-/
import Derived.Test.YtcidjmhadpoibaaLaw
import Derived.Test.YtcidjmhadpoibaaAlive02
namespace Go.Proofs.Ytcidjmhadpoibaa.boundNames
set_option linter.unusedVariables false
open Go.ChangeShapes Go.WideShapes Go.ChangeAt Go.RowKit

set_option maxHeartbeats 1000000 in
theorem walk (w : World) : Calls Try.prog 11 #[] w fun e w' => e = .returned (.bool true) ∧ Below w.heap.size w w' := by
  have hB := Below.refl w.heap.size w
  have h1 : Bd.made (-5) true = (-10, 0) := by decide
  have h2 : Bd.add 7 (-10) = (-4, 0) := by decide
  have h3 : Bd.not 7 = (-6, 0) := by decide
  have h4 : Bd.not 0 = (1, 0) := by decide
  have h5 : Bd.not 9223372036854775807 = (0, 6) := by decide
  have h6 : Bd.made 4611686018427387904 true = (0, 10) := by decide
  have h7 : Bd.keeps 3 7 = (true, 0) := by decide
  have h8 : Bd.keeps 3 6 = (false, 0) := by decide
  go_enter Try.func11, Try.ntmps11
  go_wp2_with (first
    | (go_at_call 27; refine (from_here (alive02_any _) (by assumption)).mono ?_; rintro e w' ⟨rfl, hB1⟩)
    | (go_at_call 29; refine (from_here (less_any _ _) (by assumption)).mono ?_; rintro e w' ⟨rfl, hB1⟩)
    | (go_at_call 33; refine (from_here (badd_any _ _ _) (by assumption)).mono ?_; rintro e w' ⟨rfl, hB1⟩)
    | (go_at_call 32; refine (from_here (bnot_any _ _) (by assumption)).mono ?_; rintro e w' ⟨rfl, hB1⟩)
    | (go_at_call 31; refine (from_here (bkeeps_any _ _ _) (by assumption)).mono ?_; rintro e w' ⟨rfl, hB1⟩))
  go_ret
  exact ⟨rfl, by assumption⟩

set_option maxRecDepth 100000 in
theorem lifted (os : Os) (started : os.Started) (H : Type) (enc : TypeId × Value → H) :
    ReturnsInHanded {} Try.checked os 11 .any (Rows.boundNamesSpec.pre6 enc Try.prog Try.f11 Rows.boundNamesRow.domain false) (Rows.boundNamesSpec.post enc Try.prog Try.f11 false true false false) := by
  refine returnsInHanded_of_change (C := Try.checked) own started (by kernel_rfl) Try.func11
    (ChangeSpec.witness6 (enc := enc) (C := Try.checked) false ⟨#[], #[], []⟩ 8 (by kernel_rfl) (by kernel_rfl) (by kernel_rfl) (by kernel_rfl)) ?_
  intro W base args ds gs before hval0 hW _ _
  have hval : ∀ (j : Nat) t v, Try.f11.params[j]? = some t → args[j]? = some v → Value.okWide Try.prog W .any base t v := hval0
  have hW' := hW
  obtain ⟨p, q, hA0, hV, rfl, hfz, hnd⟩ := hW
  have hA : DataW.TrodAll enc Try.prog W 0 (fun _ => true) true Try.f11.params.toList args.toList ds p := hA0
  rw [Try.params11] at hA hval
  obtain ⟨rfl, rfl, rfl⟩ := trodAll_none hA
  obtain ⟨rfl, rfl⟩ := trodVars_none hV
  clear hA0 hval0
  exact (walk W).mono fun e W' ⟨he, hg⟩ => ⟨_, he, law_post laidOut (by kernel_rfl) rfl rfl Try.underlying4 hW' rfl hg⟩

theorem over : Rows.boundNamesRow.holds Try.pinned (OpenSpec.ofChange Rows.boundNamesSpec) :=
  OpenClaim.holds_of_wide 11 Try.f11 rfl rfl rfl rfl rfl rfl rfl ⟨rfl, rfl, rfl, rfl, rfl⟩ rfl rfl rfl rfl rfl (by kernel_rfl) Try.func11 (by kernel_rfl)
    (of_decide_eq_true (by kernel_rfl)) (by unfold Func.isWrapper; first | (rw [if_pos (by decide +kernel)]; kernel_rfl) | (rw [if_neg (by decide +kernel)]; exact ⟨rfl, rfl⟩))
    (fun os started H enc _ => lifted os started H enc)

/-- the given statement. -/
theorem proved : Rows.BoundNamesSaid := over
#print axioms proved
end Go.Proofs.Ytcidjmhadpoibaa.boundNames
