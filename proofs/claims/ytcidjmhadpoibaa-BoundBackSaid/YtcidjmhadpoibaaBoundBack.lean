/-
  BoundBack: the law returns true at every input.
-/
import Derived.Test.YtcidjmhadpoibaaLaw
import Derived.Test.YtcidjmhadpoibaaAlive02
namespace Go.Proofs.Ytcidjmhadpoibaa.boundBack
set_option linter.unusedVariables false
open Go.ChangeShapes Go.WideShapes Go.ChangeAt Go.RowKit

set_option maxRecDepth 100000 in
set_option maxHeartbeats 4000000 in
theorem walk (b : Int) (wb : (Lit.int .i64 b).wf = true) (c : Int) (wc : (Lit.int .i64 c).wf = true) (d : Int) (wd : (Lit.int .i64 d).wf = true) (w : World) :
    Calls Try.prog 9 #[.int .i64 b, .int .i64 c, .int .i64 d] w fun e w' => e = .returned (.bool true) ∧ Below w.heap.size w w' := by
  clear wb wc wd
  have hB := Below.refl w.heap.size w
  -- what Most, Less and the calls on them give
  have hc : (Bd.made c false = (0, 10) ∧ Bd.made c true = (0, 10) ∧ Num.chk c = 10) ∨
      (Bd.made c false = (Bd.mk c false, 0) ∧ Bd.made c true = (Bd.mk c true, 0) ∧ Num.chk c = 0 ∧ Bd.value (Bd.mk c false) = (c, false, 0) ∧ Bd.value (Bd.mk c true) = (c, true, 0) ∧ decide (Bd.mk c false ≤ Bd.mk c true) = false ∧
        ((Bd.keeps d (Bd.mk c false) = (false, 10) ∧ Bd.keeps d (Bd.mk c true) = (false, 10)) ∨ (Bd.keeps d (Bd.mk c false) = (decide (d ≤ c), 0) ∧ Bd.keeps d (Bd.mk c true) = (decide (d < c), 0)))) := by
    cases h : Num.okB c with
    | false => exact .inl ⟨Bd.made_no h, Bd.made_no h, Num.chk_no h⟩
    | true =>
      refine .inr ⟨Bd.made_yes h, Bd.made_yes h, Num.chk_yes h, Bd.value_made h, Bd.value_made h, by simp [Bd.mk]; omega, ?_⟩
      cases hd : Num.okB d with
      | false => exact .inl ⟨Bd.keeps_over hd, Bd.keeps_over hd⟩
      | true => exact .inr ⟨Bd.keeps_made h hd, Bd.keeps_made h hd⟩
  have hb : (Bd.value b = (0, false, 8) ∨ Bd.value b = (0, false, 6)) ∨ (Bd.value b = (b / 2, false, 0) ∧ Bd.made (b / 2) false = (b, 0)) ∨ (Bd.value b = (b / 2, true, 0) ∧ Bd.made (b / 2) true = (b, 0)) := by
    cases h : Bd.may b with
    | false => exact .inl (.inl (Bd.value_bad h))
    | true =>
      by_cases hn : b = 9223372036854775807
      · subst hn; exact .inl (.inr Bd.value_none)
      · have h1 := Bd.value_yes h hn
        have h2 := Bd.made_yes (s := Bd.st b) (Bd.okB_of_may h hn)
        rw [Bd.mk_self] at h2
        cases hs : Bd.st b with
        | false => rw [hs] at h1 h2; exact .inr (.inl ⟨h1, h2⟩)
        | true => rw [hs] at h1 h2; exact .inr (.inr ⟨h1, h2⟩)
  rcases hc with ⟨c1, c2, c3⟩ | ⟨c1, c2, c3, c4, c5, c6, ⟨c7, c8⟩ | ⟨c7, c8⟩⟩
  · rcases hb with (b1 | b1) | ⟨b1, b2⟩ | ⟨b1, b2⟩
    all_goals
      go_enter Try.func9, Try.ntmps9
      go_wp2_with (first
        | (go_at_call 27; refine (from_here (alive02_any _) (by assumption)).mono ?_; rintro e w' ⟨rfl, hB1⟩)
        | (go_at_call 28; refine (from_here (most_any _ _) (by assumption)).mono ?_; rintro e w' ⟨rfl, hB1⟩)
        | (go_at_call 29; refine (from_here (less_any _ _) (by assumption)).mono ?_; rintro e w' ⟨rfl, hB1⟩)
        | (go_at_call 30; refine (from_here (value_any _ _) (by assumption)).mono ?_; rintro e w' ⟨rfl, hB1⟩)
        | (go_at_call 33; refine (from_here (badd_any _ _ _) (by assumption)).mono ?_; rintro e w' ⟨rfl, hB1⟩)
        | (go_at_call 32; refine (from_here (bnot_any _ _) (by assumption)).mono ?_; rintro e w' ⟨rfl, hB1⟩)
        | (go_at_call 31; refine (from_here (bkeeps_any _ _ _) (by assumption)).mono ?_; rintro e w' ⟨rfl, hB1⟩)
        | (go_at_call 17; refine (from_here (add_any _ _ _) (by assumption)).mono ?_; rintro e w' ⟨rfl, hB1⟩)
        | (go_at_call 18; refine (check_any _ _).mono ?_; rintro e w' ⟨rfl, rfl⟩))
      go_ret
      exact ⟨rfl, by assumption⟩
  · rcases hb with (b1 | b1) | ⟨b1, b2⟩ | ⟨b1, b2⟩
    all_goals
      go_enter Try.func9, Try.ntmps9
      go_wp2_with (first
        | (go_at_call 27; refine (from_here (alive02_any _) (by assumption)).mono ?_; rintro e w' ⟨rfl, hB1⟩)
        | (go_at_call 28; refine (from_here (most_any _ _) (by assumption)).mono ?_; rintro e w' ⟨rfl, hB1⟩)
        | (go_at_call 29; refine (from_here (less_any _ _) (by assumption)).mono ?_; rintro e w' ⟨rfl, hB1⟩)
        | (go_at_call 30; refine (from_here (value_any _ _) (by assumption)).mono ?_; rintro e w' ⟨rfl, hB1⟩)
        | (go_at_call 33; refine (from_here (badd_any _ _ _) (by assumption)).mono ?_; rintro e w' ⟨rfl, hB1⟩)
        | (go_at_call 32; refine (from_here (bnot_any _ _) (by assumption)).mono ?_; rintro e w' ⟨rfl, hB1⟩)
        | (go_at_call 31; refine (from_here (bkeeps_any _ _ _) (by assumption)).mono ?_; rintro e w' ⟨rfl, hB1⟩)
        | (go_at_call 17; refine (from_here (add_any _ _ _) (by assumption)).mono ?_; rintro e w' ⟨rfl, hB1⟩)
        | (go_at_call 18; refine (check_any _ _).mono ?_; rintro e w' ⟨rfl, rfl⟩))
      go_ret
      exact ⟨rfl, by assumption⟩
  · rcases hb with (b1 | b1) | ⟨b1, b2⟩ | ⟨b1, b2⟩
    all_goals
      go_enter Try.func9, Try.ntmps9
      go_wp2_with (first
        | (go_at_call 27; refine (from_here (alive02_any _) (by assumption)).mono ?_; rintro e w' ⟨rfl, hB1⟩)
        | (go_at_call 28; refine (from_here (most_any _ _) (by assumption)).mono ?_; rintro e w' ⟨rfl, hB1⟩)
        | (go_at_call 29; refine (from_here (less_any _ _) (by assumption)).mono ?_; rintro e w' ⟨rfl, hB1⟩)
        | (go_at_call 30; refine (from_here (value_any _ _) (by assumption)).mono ?_; rintro e w' ⟨rfl, hB1⟩)
        | (go_at_call 33; refine (from_here (badd_any _ _ _) (by assumption)).mono ?_; rintro e w' ⟨rfl, hB1⟩)
        | (go_at_call 32; refine (from_here (bnot_any _ _) (by assumption)).mono ?_; rintro e w' ⟨rfl, hB1⟩)
        | (go_at_call 31; refine (from_here (bkeeps_any _ _ _) (by assumption)).mono ?_; rintro e w' ⟨rfl, hB1⟩)
        | (go_at_call 17; refine (from_here (add_any _ _ _) (by assumption)).mono ?_; rintro e w' ⟨rfl, hB1⟩)
        | (go_at_call 18; refine (check_any _ _).mono ?_; rintro e w' ⟨rfl, rfl⟩))
      go_ret
      exact ⟨rfl, by assumption⟩

set_option maxRecDepth 100000 in
theorem lifted (os : Os) (started : os.Started) (H : Type) (enc : TypeId × Value → H) :
    ReturnsInHanded {} Try.checked os 9 .any (Rows.boundBackSpec.pre6 enc Try.prog Try.f9 Rows.boundBackRow.domain false) (Rows.boundBackSpec.post enc Try.prog Try.f9 false true false false) := by
  refine returnsInHanded_of_change (C := Try.checked) own started (by kernel_rfl) Try.func9
    (ChangeSpec.witness6 (enc := enc) (C := Try.checked) false ⟨#[], #[.int .i64 0, .int .i64 0, .int .i64 0], []⟩ 8 (by kernel_rfl) (by kernel_rfl) (by kernel_rfl) (by kernel_rfl)) ?_
  intro W base args ds gs before hval0 hW _ _
  have hval : ∀ (j : Nat) t v, Try.f9.params[j]? = some t → args[j]? = some v → Value.okWide Try.prog W .any base t v := hval0
  have hW' := hW
  obtain ⟨p, q, hA0, hV, rfl, hfz, hnd⟩ := hW
  have hA : DataW.TrodAll enc Try.prog W 0 (fun _ => true) true Try.f9.params.toList args.toList ds p := hA0
  rw [Try.params9] at hA hval
  obtain ⟨v0, vs0, d0, ds0, p0, q0, hargs, rfl, rfl, h0, r0⟩ := trodAll_cons hA
  obtain ⟨v1, vs1, d1, ds1, p1, q1, rfl, rfl, rfl, h1, r1⟩ := trodAll_cons r0
  obtain ⟨v2, vs2, d2, ds2, p2, q2, rfl, rfl, rfl, h2, r2⟩ := trodAll_cons r1
  obtain ⟨rfl, rfl, rfl⟩ := trodAll_nil r2
  obtain rfl : args = #[v0, v1, v2] := by cases args; simp_all
  obtain ⟨rfl, rfl⟩ := trodVars_none hV
  obtain ⟨a0, rfl, rfl, rfl, w0⟩ := open_int Try.underlying38 (hval 0 38 v0 rfl rfl) h0
  obtain ⟨a1, rfl, rfl, rfl, w1⟩ := open_int Try.underlying3 (hval 1 3 v1 rfl rfl) h1
  obtain ⟨a2, rfl, rfl, rfl, w2⟩ := open_int Try.underlying3 (hval 2 3 v2 rfl rfl) h2
  clear hA0 hval0
  exact (walk a0 w0 a1 w1 a2 w2 W).mono fun e W' ⟨he, hg⟩ => ⟨_, he, law_post laidOut (by kernel_rfl) rfl rfl Try.underlying4 hW' rfl hg⟩

theorem over : Rows.boundBackRow.holds Try.pinned (OpenSpec.ofChange Rows.boundBackSpec) :=
  OpenClaim.holds_of_wide 9 Try.f9 rfl rfl rfl rfl rfl rfl rfl ⟨rfl, rfl, rfl, rfl, rfl⟩ rfl rfl rfl rfl rfl (by kernel_rfl) Try.func9 (by kernel_rfl)
    (of_decide_eq_true (by kernel_rfl)) (by unfold Func.isWrapper; first | (rw [if_pos (by decide +kernel)]; kernel_rfl) | (rw [if_neg (by decide +kernel)]; exact ⟨rfl, rfl⟩))
    (fun os started H enc _ => lifted os started H enc)

/-- the given statement. -/
theorem proved : Rows.BoundBackSaid := over
#print axioms proved
end Go.Proofs.Ytcidjmhadpoibaa.boundBack
