/-
  NumNames: the law returns true at every input.
-/
import Derived.Test.YtcidjmhadpoibaaLaw
import Derived.Test.YtcidjmhadpoibaaAlive01
namespace Go.Proofs.Ytcidjmhadpoibaa.numNames
set_option linter.unusedVariables false
open Go.ChangeShapes Go.WideShapes Go.ChangeAt Go.RowKit

theorem ints_three (w : World) (a b c : Int) (t : TypeId) : Ints (w.alloc (.cells #[.int .i64 a, .int .i64 b, .int .i64 c] t)).heap.size (w.alloc (.cells #[.int .i64 a, .int .i64 b, .int .i64 c] t)) (.slice (some ⟨w.heap.size, 0, none⟩) 3 3) [a, b, c] :=
  .inr ⟨w.heap.size, 0, 3, rfl, by simp, fun j hj => by
    have hj' : j < 3 := hj
    match j, hj' with
    | 0, _ => simp
    | 1, _ => simp
    | 2, _ => simp⟩

set_option maxHeartbeats 1000000 in
theorem walk (w : World) : Calls Try.prog 6 #[] w fun e w' => e = .returned (.bool true) ∧ Below w.heap.size w w' := by
  have hB := Below.refl w.heap.size w
  have h0 : Num.sumFrom 0 [] = (0, 0) := by decide
  have h1 : Num.sumFrom 0 [2305843009213693952, -1, 1] = (2305843009213693952, 0) := by decide
  have h2 : Num.sumFrom 0 [2305843009213693952, 1, -1] = (0, 10) := by decide
  have h3 : Num.neg (-2305843009213693952) = (2305843009213693952, 0) := by decide
  have h4 : Num.clamp (-9223372036854775808) = -2305843009213693952 := by decide
  go_enter Try.func6, Try.ntmps6
  go_wp2_with (first
      | (go_at_call 16; refine (from_here (alive01_any _) (by assumption)).mono ?_; rintro e w1 ⟨rfl, hB⟩)
      | (go_at_call 14; refine (from_here (sum_any none 0 0 [] (by simp) _ (.inl ⟨_, _, rfl, fun _ => rfl, rfl⟩)) (by assumption)).mono ?_; rintro e w1 ⟨rfl, hB⟩)
      | (go_at_call 14; refine (from_here (sum_any _ _ _ [2305843009213693952, -1, 1] (by simp) _ (ints_three _ _ _ _ _)) ((by assumption : Below _ _ _).alloc (by assumption : Below _ _ _).size _)).mono ?_; rintro e w1 ⟨rfl, hB⟩)
      | (go_at_call 14; refine (from_here (sum_any _ _ _ [2305843009213693952, 1, -1] (by simp) _ (ints_three _ _ _ _ _)) ((by assumption : Below _ _ _).alloc (by assumption : Below _ _ _).size _)).mono ?_; rintro e w1 ⟨rfl, hB⟩)
      | (go_at_call 20; refine (neg_any _ _).mono ?_; rintro e w1 ⟨rfl, rfl⟩)
      | (go_at_call 21; refine (clamp_any _ _).mono ?_; rintro e w1 ⟨rfl, rfl⟩))
  go_ret
  exact ⟨rfl, by assumption⟩

set_option maxRecDepth 100000 in
theorem lifted (os : Os) (started : os.Started) (H : Type) (enc : TypeId × Value → H) :
    ReturnsInHanded {} Try.checked os 6 .any (Rows.numNamesSpec.pre6 enc Try.prog Try.f6 Rows.numNamesRow.domain false) (Rows.numNamesSpec.post enc Try.prog Try.f6 false true false false) := by
  refine returnsInHanded_of_change (C := Try.checked) own started (by kernel_rfl) Try.func6
    (ChangeSpec.witness6 (enc := enc) (C := Try.checked) false ⟨#[], #[], []⟩ 8 (by kernel_rfl) (by kernel_rfl) (by kernel_rfl) (by kernel_rfl)) ?_
  intro W base args ds gs before hval0 hW _ _
  have hval : ∀ (j : Nat) t v, Try.f6.params[j]? = some t → args[j]? = some v → Value.okWide Try.prog W .any base t v := hval0
  have hW' := hW
  obtain ⟨p, q, hA0, hV, rfl, hfz, hnd⟩ := hW
  have hA : DataW.TrodAll enc Try.prog W 0 (fun _ => true) true Try.f6.params.toList args.toList ds p := hA0
  rw [Try.params6] at hA hval
  obtain ⟨rfl, rfl, rfl⟩ := trodAll_none hA
  obtain ⟨rfl, rfl⟩ := trodVars_none hV
  clear hA0 hval0
  exact (walk W).mono fun e W' ⟨he, hg⟩ => ⟨_, he, law_post laidOut (by kernel_rfl) rfl rfl Try.underlying4 hW' rfl hg⟩

theorem over : Rows.numNamesRow.holds Try.pinned (OpenSpec.ofChange Rows.numNamesSpec) :=
  OpenClaim.holds_of_wide 6 Try.f6 rfl rfl rfl rfl rfl rfl rfl ⟨rfl, rfl, rfl, rfl, rfl⟩ rfl rfl rfl rfl rfl (by kernel_rfl) Try.func6 (by kernel_rfl)
    (of_decide_eq_true (by kernel_rfl)) (by unfold Func.isWrapper; first | (rw [if_pos (by decide +kernel)]; kernel_rfl) | (rw [if_neg (by decide +kernel)]; exact ⟨rfl, rfl⟩))
    (fun os started H enc _ => lifted os started H enc)

/-- the given statement. -/
theorem proved : Rows.NumNamesSaid := over
#print axioms proved
end Go.Proofs.Ytcidjmhadpoibaa.numNames
