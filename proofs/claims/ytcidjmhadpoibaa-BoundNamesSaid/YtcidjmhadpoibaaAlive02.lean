/-
  The chapter's first examples, as the laws of chapter 2 ask them (alive).
-/
import Derived.Test.YtcidjmhadpoibaaBound
namespace Go.Proofs.Ytcidjmhadpoibaa
set_option linter.unusedVariables false
open Go.RowKit

theorem alive02_any (w : World) : Calls Try.prog 27 #[] w fun e w' => e = .returned (.bool true) ∧ Below w.heap.size w w' := by
  have hB := Below.refl w.heap.size w
  have h1 : Bd.made 3 false = (7, 0) := by decide
  have h2 : Bd.made 3 true = (6, 0) := by decide
  have h3 : Bd.made (-1) false = (-1, 0) := by decide
  go_enter Try.func27, Try.ntmps27
  go_wp2_with (first
    | (go_at_call 28; refine (from_here (most_any _ _) (by assumption)).mono ?_; rintro e w' ⟨rfl, hB1⟩)
    | (go_at_call 29; refine (from_here (less_any _ _) (by assumption)).mono ?_; rintro e w' ⟨rfl, hB1⟩))
  go_ret
  exact ⟨rfl, by assumption⟩

end Go.Proofs.Ytcidjmhadpoibaa
