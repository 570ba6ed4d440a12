/-
  The chapter's first examples, as the laws of chapter 1 ask them (alive), and how a call's world is told of the first one.
-/
import Derived.Test.YtcidjmhadpoibaaRefNum
namespace Go.Proofs.Ytcidjmhadpoibaa
set_option linter.unusedVariables false
open Go.RowKit

/-- a call that turns nothing below its own heap turns nothing below an earlier one. -/
theorem from_here {P : Program} {f : FuncId} {args : Array Value} {w W0 : World} {x : Ending} (h : Calls P f args w (fun e w' => e = x ∧ Below w.heap.size w w')) (h0 : Below W0.heap.size W0 w) :
    Calls P f args w (fun e w' => e = x ∧ Below W0.heap.size W0 w') := h.mono fun _ _ ⟨he, hb⟩ => ⟨he, h0.trans (hb.mono h0.size)⟩

theorem alive01_any (w : World) : Calls Try.prog 16 #[] w fun e w' => e = .returned (.bool true) ∧ Below w.heap.size w w' := by
  have hB := Below.refl w.heap.size w
  have h1 : Num.add 2 (-5) = (-3, 0) := by decide
  have h2 : Num.add 2305843009213693952 1 = (0, 10) := by decide
  have h3 : Num.sub (-2305843009213693952) 1 = (0, 10) := by decide
  go_enter Try.func16, Try.ntmps16
  go_wp2_with (first | (go_at_call 17; refine (from_here (add_any _ _ _) (by assumption)).mono ?_; rintro e w' ⟨rfl, hB⟩) | (go_at_call 19; refine (from_here (sub_any _ _ _) (by assumption)).mono ?_; rintro e w' ⟨rfl, hB⟩))
  go_ret
  exact ⟨rfl, by assumption⟩

end Go.Proofs.Ytcidjmhadpoibaa
