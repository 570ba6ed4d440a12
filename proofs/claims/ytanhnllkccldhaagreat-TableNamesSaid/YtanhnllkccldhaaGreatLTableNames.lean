/-
  rallentando/rallentandolaw24.TableNames: the law.
-/
import Derived.Test.YtanhnllkccldhaaGreatLTableNames6
import Derived.Test.YtanhnllkccldhaaGreatLTableNames7
namespace Go.Proofs.YtanhnllkccldhaaGreat
set_option linter.unusedVariables false
open Go.ChangeShapes Go.WideShapes Go.ChangeAt Go.RowKit Go.Deep
set_option maxRecDepth 100000 in
theorem tableNames_lifted (os : Os) (started : os.Started) (H : Type) (enc : TypeId × Value → H) :
 ReturnsInHanded {} Tryz.checked os 7 .any (Rows.tableNamesSpec.pre6 enc Tryz.prog Tryz.f7 Rows.tableNamesRow.domain false) (Rows.tableNamesSpec.post enc Tryz.prog Tryz.f7 false true false false) := by
 refine returnsInHanded_of_change (C := Tryz.checked) own started (by kernel_rfl) Tryz.func7
  (ChangeSpec.witness6 (enc := enc) (C := Tryz.checked) false ⟨#[], #[], []⟩ 8 (by kernel_rfl) (by kernel_rfl) (by kernel_rfl) (by kernel_rfl)) ?_
 intro W base args ds gs before hval0 hW _ _
 have hval : ∀ (j : Nat) t v, Tryz.f7.params[j]? = some t → args[j]? = some v → Value.okWide Tryz.prog W .any base t v := hval0
 have hW' := hW
 obtain ⟨p, q, hA0, hV, rfl, hfz, hnd⟩ := hW
 have hA : DataW.TrodAll enc Tryz.prog W 0 (fun _ => true) true Tryz.f7.params.toList args.toList ds p := hA0
 rw [Tryz.params7] at hA hval
 obtain ⟨hargs, rfl, rfl⟩ := trodAll_nil hA
 obtain rfl : args = #[] := by cases args; simp_all
 obtain ⟨rfl, rfl⟩ := trodVars_none hV
 clear hA0 hval0
 exact (tableNames_walk W).mono fun e W' ⟨he, hg⟩ => ⟨_, he, law_post laidOut (by kernel_rfl) rfl rfl Tryz.underlying4 hW' rfl hg⟩
set_option maxRecDepth 100000 in
theorem tableNames_k1 : (Rows.tableNamesRow.inPlace == Tryz.pinned.checked.prog.inPlace 7) = true := by kernel_rfl
set_option maxRecDepth 100000 in
theorem tableNames_k2 : (Rows.tableNamesRow.unfollowed == Tryz.pinned.checked.prog.unfollowed 7) = true := by kernel_rfl
set_option maxRecDepth 100000 in
theorem tableNames_k3 : (Rows.tableNamesRow.recurses == Tryz.pinned.checked.prog.recurses 7) = true := by kernel_rfl
set_option maxRecDepth 100000 in
theorem tableNames_k4 : (Rows.tableNamesRow.named == Tryz.pinned.checked.prog.varsNamed 7) = true := by kernel_rfl
set_option maxRecDepth 100000 in
theorem tableNames_closed : joinedFacts Tryz.pinned.checked.prog 7 Tryz.f7 Rows.tableNamesSpec Rows.tableNamesRow = true := by
 unfold joinedFacts
 rw [tableNames_k1, tableNames_k2, tableNames_k3, tableNames_k4]
 kernel_rfl
set_option maxRecDepth 100000 in
theorem tableNames_over : Rows.tableNamesRow.holds Tryz.pinned (OpenSpec.ofChange Rows.tableNamesSpec) :=
 OpenClaim.holds_of_wide 7 Tryz.f7 rfl rfl rfl rfl rfl rfl rfl ⟨rfl, rfl, rfl, rfl, rfl⟩ rfl rfl rfl rfl rfl (by kernel_rfl) Tryz.func7 tableNames_closed
  (of_decide_eq_true (by kernel_rfl)) (by unfold Func.isWrapper; first | (rw [if_pos (by decide +kernel)]; kernel_rfl) | (rw [if_neg (by decide +kernel)]; exact ⟨rfl, rfl⟩))
  (fun os started H enc _ => tableNames_lifted os started H enc)
theorem tableNames.proved : Rows.TableNamesSaid := tableNames_over
#print axioms tableNames.proved
end Go.Proofs.YtanhnllkccldhaaGreat
