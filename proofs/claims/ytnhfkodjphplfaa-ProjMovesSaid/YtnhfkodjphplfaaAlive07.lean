/-
  The chapter's first examples (rallentandolaw07.alive), by the engine: they are so.
-/
import Derived.Test.YtnhfkodjphplfaaDrop
import Derived.Test.YtnhfkodjphplfaaGrow
import Derived.Test.YtnhfkodjphplfaaSame04
namespace Go.Proofs.Ytnhfkodjphplfaa
set_option linter.unusedVariables false
set_option linter.unusedSimpArgs false
set_option maxRecDepth 100000
open Go.RowKit Go.Proofs.Ytnhfkodjphplfaa.Eng Enc

theorem of07_any (n : Int) (a : Option Addr) (len cap : Nat) (w : World) :
    Calls Try.prog 17 #[.int .i64 n, .slice a len cap] w fun e w' => e = .returned (.agg #[.int .i64 n, .slice a len cap]) ∧ Below w.heap.size w w' := by
  refine fun_eq 0 w Try.func17 (args := [.val (.int .i64 n), .val (.slice a len cap)]) rfl rfl ?_
  repeat' (first
    | (refine Branch.yes rfl ?_)
    | (refine Branch.no rfl ?_)
    | (refine Branch.mk (fun hb => ?_) (fun hb => ?_))
    | (refine NewI.mk fun nb hnb => ?_)
    | (refine Need.mk (by show _ ∧ _; omega) ?_)
    | (refine Need.mk (by omega) ?_)
    | (refine Need.mk ?_ ?_)
    | (refine EndI.mk fun w1 h1 => ?_))
  rfl
theorem is07_any (m n e : Int) (L M : List Int) (a b : Option Addr) (ca cb : Nat) (w : World) (hA : Sl w.heap.size w (.slice a L.length ca) L) (hB : Sl w.heap.size w (.slice b M.length cb) M) :
    Calls Try.prog 18 #[.agg #[.int .i64 m, .slice a L.length ca], .int .i64 e, .agg #[.int .i64 n, .slice b M.length cb]] w fun e' w' => e' = .returned (.bool (decide (e = 0) && sameB m n L M)) ∧ Below w.heap.size w w' := by
  refine fun_eq 0 w Try.func18 (args := [.agg [.val (.int .i64 m), .val (.slice a L.length ca)], .val (.int .i64 e), .agg [.val (.int .i64 n), .val (.slice b M.length cb)]]) rfl rfl ?_
  repeat' (first
    | (apply CallI.use1; (focus (exact fun w1 h1 => same04_any m n L M a b ca cb w1 (Sl.at h1 hA) (Sl.at h1 hB))); intro w1 w2 h1 hB)
    | (refine Branch.yes rfl ?_)
    | (refine Branch.no rfl ?_)
    | (refine Branch.mk (fun hb => ?_) (fun hb => ?_))
    | (refine NewI.mk fun nb hnb => ?_)
    | (refine Need.mk (by show _ ∧ _; omega) ?_)
    | (refine Need.mk (by omega) ?_)
    | (refine Need.mk ?_ ?_)
    | (refine EndI.mk fun w1 h1 => ?_))
  all_goals simp_all

theorem alive07_any (w : World) : Calls Try.prog 9 #[] w fun e w' => e = .returned (.bool true) ∧ Below w.heap.size w w' := by
  refine fun_eq 0 w Try.func9 (args := []) rfl rfl ?_
  refine NewI.mk fun b1 hb1 => ?_
  (first
    | (apply CallI.use1; (focus (exact fun w1 h1 => of07_any 2 _ _ _ w1)); intro w1 w2 h1 hB)
    | (refine Branch.yes rfl ?_)
    | (refine Branch.no rfl ?_)
    | (refine Branch.mk (fun hb => ?_) (fun hb => ?_))
    | (refine NewI.mk fun nb hnb => ?_)
    | (refine Need.mk (by show _ ∧ _; omega) ?_)
    | (refine Need.mk (by omega) ?_)
    | (refine Need.mk ?_ ?_)
    | (refine EndI.mk fun w1 h1 => ?_))
  have hg := fun (a : Option Addr) (cap : Nat) (w : World) => grow_any 2 a cap [1, -3, 9, 1] w
  have eg : Proj.grow 2 [1, -3, 9, 1] = (3, [1, -3, 9223372036854775807, 9, 1, 9223372036854775807, 9223372036854775807, 9223372036854775807, 1], 0) := by decide
  rw [eg] at hg
  apply CallI.use
  · exact fun w3 h3 => hg _ _ w3 (Sl.own (l := [1, -3, 9, 1]) h3 0 rfl rfl rfl (Nat.le_refl _) (by simp [maxLen]))
  rintro v w3 w4 h3 hB4 ⟨a1, c1, rfl, hF1⟩
  refine NewI.mk fun b2 hb2 => ?_
  refine NewI.mk fun b3 hb3 => ?_
  have hw4 : Below w.heap.size w w4 := h3.below.trans (hB4.mono h3.below.size)
  apply CallI.use1
  · exact fun w1 h1 => of07_any 3 _ _ _ w1
  intro w1' w2' h1' hB2'
  have k2 := h1'.next hw4 (Below.refl _ _) (by intro b hb; simp at hb; subst hb; exact hb2) hB2'
  have hd := fun (a : Option Addr) (cap : Nat) (w : World) => drop_any 3 a cap [1, -3, 9223372036854775807, 9, 1, 9223372036854775807, 9223372036854775807, 3, 1] 1 w
  have ed : Proj.drop 3 [1, -3, 9223372036854775807, 9, 1, 9223372036854775807, 9223372036854775807, 3, 1] 1 = (2, [1, 9223372036854775807, 11, 1], 0) := by decide
  rw [ed] at hd
  apply CallI.use
  · exact fun w5 h5 => hd _ _ w5 (Sl.own (l := [1, -3, 9223372036854775807, 9, 1, 9223372036854775807, 9223372036854775807, 3, 1]) h5 2 rfl rfl rfl (Nat.le_refl _) (by simp [maxLen]))
  rintro v w5 w6 h5 hB6 ⟨a2, c2, rfl, hF2⟩
  have k6 := h5.next hw4 k2 (by simp) hB6
  have hw6 : Below w.heap.size w w6 := h5.below.trans (hB6.mono h5.below.size)
  refine NewI.mk fun b4 hb4 => ?_
  refine DrawI.go (.tk 0 (.tk 1 (.ev 2 (.ev 3 (.ev 4 (.tk 5 (.tk 6 (.tk 7 (.ev 8 (.ev 9 (.ev 10 (.tk 11 (.tk 12 .done))))))))))))) (by kernel_rfl) fun w7 h7 => ?_
  have k7 := h7.from hw4 k6 (by intro b hb; simp at hb; subst hb; exact Nat.le_trans k6.size hb4)
  have m7 := h7.from hw6 (Below.refl _ _) (by intro b hb; simp at hb; subst hb; exact hb4)
  refine NewI.mk fun b5 hb5 => ?_
  apply CallI.use1
  · exact fun w8 h8 => of07_any 3 _ _ _ w8
  intro w8 w9 h8 hB9
  have k9 := h8.next hw4 k7 (by simp) hB9
  have m9 := h8.next hw6 m7 (by simp) hB9
  apply CallI.use1
  · intro w10 h10
    exact is07_any 3 3 0 [1, -3, 9223372036854775807, 9, 1, 9223372036854775807, 9223372036854775807, 9223372036854775807, 1] [1, -3, 9223372036854775807, 9, 1, 9223372036854775807, 9223372036854775807, 9223372036854775807, 1] a1 _ c1 9 w10
      ((hF1.sl).go (h10.from hw4 k9 (by simp)) (h10.from hw4 k9 (by simp)).size) (Sl.own (l := [1, -3, 9223372036854775807, 9, 1, 9223372036854775807, 9223372036854775807, 9223372036854775807, 1]) h10 4 rfl rfl rfl (Nat.le_refl _) (by simp [maxLen]))
  intro w10 w11 h10 hB11
  have m11 := h10.next hw6 m9 (by simp) hB11
  refine Branch.yes (by decide) ?_
  refine NewI.mk fun b6 hb6 => ?_
  apply CallI.use1
  · exact fun w8 h8 => of07_any 2 _ _ _ w8
  intro w12 w13 h12 hB13
  have m13 := h12.next hw6 m11 (by simp) hB13
  apply CallI.use1
  · intro w14 h14
    exact is07_any 2 2 0 [1, 9223372036854775807, 11, 1] [1, 9223372036854775807, 11, 1] a2 _ c2 4 w14
      ((hF2.sl).go (h14.from hw6 m13 (by simp)) (h14.from hw6 m13 (by simp)).size) (Sl.own (l := [1, 9223372036854775807, 11, 1]) h14 5 rfl rfl rfl (Nat.le_refl _) (by simp [maxLen]))
  intro w14 w15 h14 hB15
  exact EndI.mk fun w16 h16 => congrArg Value.bool (by decide)
end Go.Proofs.Ytnhfkodjphplfaa
