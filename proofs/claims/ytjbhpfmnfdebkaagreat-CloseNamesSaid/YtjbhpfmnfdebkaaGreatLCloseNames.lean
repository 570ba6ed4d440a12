/-
  rallentando/rallentandolaw25.CloseNames: the law.
-/
import Derived.Test.YtjbhpfmnfdebkaaGreatLCloseNames3
import Derived.Test.YtjbhpfmnfdebkaaGreatLCloseNames6
/-
  rallentando/rallentandolaw25.CloseNames: the law.
-/
namespace Go.Proofs.YtjbhpfmnfdebkaaGreat
set_option linter.unusedVariables false
open Go.ChangeShapes Go.WideShapes Go.ChangeAt Go.RowKit Go.Deep

set_option maxRecDepth 100000 in
theorem closeNames_lifted (os : Os) (started : os.Started) (H : Type) (enc : TypeId × Value → H) :
    ReturnsInHanded {} Tryz.checked os 9 .any (Rows.closeNamesSpec.pre6 enc Tryz.prog Tryz.f9 Rows.closeNamesRow.domain false) (Rows.closeNamesSpec.post enc Tryz.prog Tryz.f9 false true false false) := by
  refine returnsInHanded_of_change (C := Tryz.checked) own started (by kernel_rfl) Tryz.func9
    (ChangeSpec.witness6 (enc := enc) (C := Tryz.checked) false ⟨#[], #[], []⟩ 8 (by kernel_rfl) (by kernel_rfl) (by kernel_rfl) (by kernel_rfl)) ?_
  intro W base args ds gs before hval0 hW _ _
  have hval : ∀ (j : Nat) t v, Tryz.f9.params[j]? = some t → args[j]? = some v → Value.okWide Tryz.prog W .any base t v := hval0
  have hW' := hW
  obtain ⟨p, q, hA0, hV, rfl, hfz, hnd⟩ := hW
  have hA : DataW.TrodAll enc Tryz.prog W 0 (fun _ => true) true Tryz.f9.params.toList args.toList ds p := hA0
  rw [Tryz.params9] at hA hval
  obtain ⟨hargs, rfl, rfl⟩ := trodAll_nil hA
  obtain rfl : args = #[] := by cases args; simp_all
  obtain ⟨rfl, rfl⟩ := trodVars_none hV
  clear hA0 hval0
  exact (closeNames_walk W).mono fun e W' ⟨he, hg⟩ => ⟨_, he, law_post laidOut (by kernel_rfl) rfl rfl Tryz.underlying4 hW' rfl hg⟩

set_option maxRecDepth 100000 in
theorem closeNames_k1 : (Rows.closeNamesRow.inPlace == Tryz.pinned.checked.prog.inPlace 9) = true := by kernel_rfl
set_option maxRecDepth 100000 in
theorem closeNames_k2 : (Rows.closeNamesRow.unfollowed == Tryz.pinned.checked.prog.unfollowed 9) = true := by kernel_rfl
set_option maxRecDepth 100000 in
theorem closeNames_k3 : (Rows.closeNamesRow.recurses == Tryz.pinned.checked.prog.recurses 9) = true := by kernel_rfl
set_option maxRecDepth 100000 in
theorem closeNames_k4 : (Rows.closeNamesRow.named == Tryz.pinned.checked.prog.varsNamed 9) = true := by kernel_rfl
set_option maxRecDepth 100000 in
theorem closeNames_closed : joinedFacts Tryz.pinned.checked.prog 9 Tryz.f9 Rows.closeNamesSpec Rows.closeNamesRow = true := by
  unfold joinedFacts
  rw [closeNames_k1, closeNames_k2, closeNames_k3, closeNames_k4]
  kernel_rfl
set_option maxRecDepth 100000 in
theorem closeNames_over : Rows.closeNamesRow.holds Tryz.pinned (OpenSpec.ofChange Rows.closeNamesSpec) :=
  OpenClaim.holds_of_wide 9 Tryz.f9 rfl rfl rfl rfl rfl rfl rfl ⟨rfl, rfl, rfl, rfl, rfl⟩ rfl rfl rfl rfl rfl (by kernel_rfl) Tryz.func9 closeNames_closed
    (of_decide_eq_true (by kernel_rfl)) (by unfold Func.isWrapper; first | (rw [if_pos (by decide +kernel)]; kernel_rfl) | (rw [if_neg (by decide +kernel)]; exact ⟨rfl, rfl⟩))
    (fun os started H enc _ => closeNames_lifted os started H enc)

theorem closeNames.proved : Rows.CloseNamesSaid := closeNames_over
#print axioms closeNames.proved
end Go.Proofs.YtjbhpfmnfdebkaaGreat

