/-
  Small laws that all walks of this seat share: a call's world told of an earlier one; results of two and three values.
-/
import Derived.Test.YtdecibfnhceloaaGreatRows
import Derived.WalkKit
import Derived.Below
import Derived.Lib.Hide
import Derived.Deep.QuietTactic
import Derived.BigQuiet
import Derived.WalkSmall
namespace Go.Proofs.YtdecibfnhceloaaGreat
set_option linter.unusedVariables false
open Go.RowKit

/-- a call that turns nothing below its own heap turns nothing below an earlier one. -/
theorem from_here {P : Program} {f : FuncId} {args : Array Value} {w W0 : World} {x : Ending} (h : Calls P f args w (fun e w' => e = x ∧ Below w.heap.size w w')) (h0 : Below W0.heap.size W0 w) :
    Calls P f args w (fun e w' => e = x ∧ Below W0.heap.size W0 w') := h.mono fun _ _ ⟨he, hb⟩ => ⟨he, h0.trans (hb.mono h0.size)⟩

theorem below_al {W w : World} {o : Obj} (h : Below W.heap.size W w) : Below W.heap.size W (w.alloc o) := h.alloc h.size o
theorem below_dr {W w : World} (h : Below W.heap.size W w) : Below W.heap.size W w.drew := h.drew
theorem below_drn {W w : World} {n : Nat} (h : Below W.heap.size W w) : Below W.heap.size W (w.drewN n) := h.trans ⟨rfl, rfl, rfl, Nat.le_refl _, fun _ _ => rfl⟩
theorem ret_int {k : IntKind} {a b : Int} (h : a = b) : Ending.returned (.int k a) = Ending.returned (.int k b) := by rw [h]
theorem tup2 {k : IntKind} {a b c d : Int} {x : Int × Int} (h : x = (a, b)) (h1 : c = a) (h2 : d = b) : Ending.returned (.tuple #[.int k c, .int k d]) = Ending.returned (.tuple #[.int k x.1, .int k x.2]) := by rw [h, h1, h2]

theorem tup3 {k : IntKind} {a c : Int} {b : Bool} {d f : Int} {g : Bool} {x : Int × Bool × Int} (h : x = (a, b, c)) (h1 : d = a) (h2 : g = b) (h3 : f = c) : Ending.returned (.tuple #[.int k d, .bool g, .int k f]) = Ending.returned (.tuple #[.int k x.1, .bool x.2.1, .int k x.2.2]) := by rw [h, h1, h2, h3]

theorem btup {k : IntKind} {c d : Int} {a b : Bool} {x : Bool × Int} (h : x = (a, d)) (h1 : b = a) (h2 : c = d) : Ending.returned (.tuple #[.bool b, .int k c]) = Ending.returned (.tuple #[.bool x.1, .int k x.2]) := by rw [h, h1, h2]

theorem ibtup {k : IntKind} {c d : Int} {a b : Bool} {x : Int × Bool} (h : x = (d, a)) (h1 : b = a) (h2 : c = d) : Ending.returned (.tuple #[.int k c, .bool b]) = Ending.returned (.tuple #[.int k x.1, .bool x.2]) := by rw [h, h1, h2]

end Go.Proofs.YtdecibfnhceloaaGreat
