/-
  The contract of num.Check at every number.
-/
import Derived.Test.YtdecibfnhceloaaGreatKit
import Derived.Test.YtdecibfnhceloaaGreatPlainNum
namespace Go.Proofs.YtdecibfnhceloaaGreat
set_option linter.unusedVariables false
open Go.RowKit

theorem check_yes (a : Int) (h1 : -2305843009213693952 ≤ a) (h2 : a ≤ 2305843009213693952) (w : World) :
    Calls Tryz.prog 101 #[.int .i64 a] w fun e w' => e = .returned (.int .i64 0) ∧ w = w' := by
  go_enter Tryz.func101, Tryz.ntmps101
  go_wp2
  go_ret
  exact ⟨rfl, rfl⟩

theorem check_no (a : Int) (h : a < -2305843009213693952 ∨ 2305843009213693952 < a) (w : World) :
    Calls Tryz.prog 101 #[.int .i64 a] w fun e w' => e = .returned (.int .i64 10) ∧ w = w' := by
  rcases h with h | h
  · go_enter Tryz.func101, Tryz.ntmps101
    go_wp2
    go_ret
    exact ⟨rfl, rfl⟩
  · have h' : ¬ a < -2305843009213693952 := by omega
    go_enter Tryz.func101, Tryz.ntmps101
    go_wp2
    go_ret
    exact ⟨rfl, rfl⟩


theorem check_any (a : Int) (w : World) :
    Calls Tryz.prog 101 #[.int .i64 a] w fun e w' => e = .returned (.int .i64 (Num.chk a)) ∧ w = w' := by
  by_cases h : Num.okB a = true
  · rw [Num.chk_yes h]; exact check_yes a (Num.okB_iff.1 h).1 (Num.okB_iff.1 h).2 w
  · rw [Num.chk_no (by simpa using h)]; exact check_no a (Num.okB_no.1 (by simpa using h)) w

end Go.Proofs.YtdecibfnhceloaaGreat
