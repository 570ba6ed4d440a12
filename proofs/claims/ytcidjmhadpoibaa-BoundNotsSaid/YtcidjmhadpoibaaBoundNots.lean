/-
  BoundNots: the law returns true at every input.
-/
import Derived.Test.YtcidjmhadpoibaaLaw
import Derived.Test.YtcidjmhadpoibaaAlive02
namespace Go.Proofs.Ytcidjmhadpoibaa.boundNots
set_option linter.unusedVariables false
open Go.ChangeShapes Go.WideShapes Go.ChangeAt Go.RowKit

set_option maxRecDepth 100000 in
set_option maxHeartbeats 4000000 in
theorem walk (a : Int) (wa : (Lit.int .i64 a).wf = true) (b : Int) (wb : (Lit.int .i64 b).wf = true) (d : Int) (wd : (Lit.int .i64 d).wf = true) (w : World) :
    Calls Try.prog 10 #[.int .i64 a, .int .i64 b, .int .i64 d] w fun e w' => e = .returned (.bool true) ∧ Below w.heap.size w w' := by
  clear wa wb wd
  have hB := Below.refl w.heap.size w
  have h0 : ((∃ x z : Int, Bd.keeps d a = (false, z) ∧ (z == 0) = false) ∨ (∃ x, Bd.keeps d a = (x, 0) ∧ Num.okB d = true ∧ Bd.may a = true)) := by
    cases hd : Num.okB d with
    | false => exact .inl ⟨0, 10, Bd.keeps_over hd, by decide⟩
    | true =>
      cases ha : Bd.may a with
      | false => exact .inl ⟨0, 8, Bd.keeps_bad hd ha, by decide⟩
      | true => exact .inr ⟨_, Bd.keeps_yes hd ha, rfl, rfl⟩
  have h1 : ((∃ z : Int, Bd.keeps d b = (false, z) ∧ (z == 0) = false) ∨ (∃ y, Bd.keeps d b = (y, 0))) := by
    cases hd : Num.okB d with
    | false => exact .inl ⟨10, Bd.keeps_over hd, by decide⟩
    | true =>
      cases ha : Bd.may b with
      | false => exact .inl ⟨8, Bd.keeps_bad hd ha, by decide⟩
      | true => exact .inr ⟨_, Bd.keeps_yes hd ha⟩
  rcases h0 with ⟨_, z, k1, z1⟩ | ⟨x, k1, hd, ha⟩
  · clear h1
    have z2 : (z != 0) = true := by simpa using z1
    go_enter Try.func10, Try.ntmps10
    go_wp2_with (first
      | (go_at_call 27; refine (from_here (alive02_any _) (by assumption)).mono ?_; rintro e w' ⟨rfl, hB1⟩)
      | (go_at_call 28; refine (from_here (most_any _ _) (by assumption)).mono ?_; rintro e w' ⟨rfl, hB1⟩)
      | (go_at_call 29; refine (from_here (less_any _ _) (by assumption)).mono ?_; rintro e w' ⟨rfl, hB1⟩)
      | (go_at_call 30; refine (from_here (value_any _ _) (by assumption)).mono ?_; rintro e w' ⟨rfl, hB1⟩)
      | (go_at_call 33; refine (from_here (badd_any _ _ _) (by assumption)).mono ?_; rintro e w' ⟨rfl, hB1⟩)
      | (go_at_call 32; refine (from_here (bnot_any _ _) (by assumption)).mono ?_; rintro e w' ⟨rfl, hB1⟩)
      | (go_at_call 31; refine (from_here (bkeeps_any _ _ _) (by assumption)).mono ?_; rintro e w' ⟨rfl, hB1⟩)
      | (go_at_call 17; refine (from_here (add_any _ _ _) (by assumption)).mono ?_; rintro e w' ⟨rfl, hB1⟩)
      | (go_at_call 18; refine (check_any _ _).mono ?_; rintro e w' ⟨rfl, rfl⟩))
    go_ret
    exact ⟨rfl, by assumption⟩
  · rcases h1 with ⟨z, k2, z1⟩ | ⟨y, k2⟩
    · have z2 : (z != 0) = true := by simpa using z1
      clear hd ha
      go_enter Try.func10, Try.ntmps10
      go_wp2_with (first
        | (go_at_call 27; refine (from_here (alive02_any _) (by assumption)).mono ?_; rintro e w' ⟨rfl, hB1⟩)
        | (go_at_call 28; refine (from_here (most_any _ _) (by assumption)).mono ?_; rintro e w' ⟨rfl, hB1⟩)
        | (go_at_call 29; refine (from_here (less_any _ _) (by assumption)).mono ?_; rintro e w' ⟨rfl, hB1⟩)
        | (go_at_call 30; refine (from_here (value_any _ _) (by assumption)).mono ?_; rintro e w' ⟨rfl, hB1⟩)
        | (go_at_call 33; refine (from_here (badd_any _ _ _) (by assumption)).mono ?_; rintro e w' ⟨rfl, hB1⟩)
        | (go_at_call 32; refine (from_here (bnot_any _ _) (by assumption)).mono ?_; rintro e w' ⟨rfl, hB1⟩)
        | (go_at_call 31; refine (from_here (bkeeps_any _ _ _) (by assumption)).mono ?_; rintro e w' ⟨rfl, hB1⟩)
        | (go_at_call 17; refine (from_here (add_any _ _ _) (by assumption)).mono ?_; rintro e w' ⟨rfl, hB1⟩)
        | (go_at_call 18; refine (check_any _ _).mono ?_; rintro e w' ⟨rfl, rfl⟩))
      go_ret
      exact ⟨rfl, by assumption⟩
    · -- what is kept by a is kept by b, where a is at most b
      have hm : a ≤ b → x = true → y = true := fun h e => by
        subst e
        have := Bd.keeps_mono h k1 (by rw [k2])
        rw [k2] at this
        simpa using this
      by_cases hn : a = 9223372036854775807
      · have hx : x = true := by
          have o := Num.okB_iff.1 hd
          rw [Bd.keeps_yes hd ha] at k1
          simp only [Prod.mk.injEq, and_true] at k1
          rw [← k1, hn]
          simp [Bd.mk]; omega
        subst hx
        subst hn
        have n1 : Bd.not 9223372036854775807 = (0, 6) := by decide
        clear hd ha
        by_cases hab : 9223372036854775807 ≤ b
        · obtain rfl := hm hab rfl
          clear hm
          go_enter Try.func10, Try.ntmps10
          go_wp2_with (first
            | (go_at_call 27; refine (from_here (alive02_any _) (by assumption)).mono ?_; rintro e w' ⟨rfl, hB1⟩)
            | (go_at_call 28; refine (from_here (most_any _ _) (by assumption)).mono ?_; rintro e w' ⟨rfl, hB1⟩)
            | (go_at_call 29; refine (from_here (less_any _ _) (by assumption)).mono ?_; rintro e w' ⟨rfl, hB1⟩)
            | (go_at_call 30; refine (from_here (value_any _ _) (by assumption)).mono ?_; rintro e w' ⟨rfl, hB1⟩)
            | (go_at_call 33; refine (from_here (badd_any _ _ _) (by assumption)).mono ?_; rintro e w' ⟨rfl, hB1⟩)
            | (go_at_call 32; refine (from_here (bnot_any _ _) (by assumption)).mono ?_; rintro e w' ⟨rfl, hB1⟩)
            | (go_at_call 31; refine (from_here (bkeeps_any _ _ _) (by assumption)).mono ?_; rintro e w' ⟨rfl, hB1⟩)
            | (go_at_call 17; refine (from_here (add_any _ _ _) (by assumption)).mono ?_; rintro e w' ⟨rfl, hB1⟩)
            | (go_at_call 18; refine (check_any _ _).mono ?_; rintro e w' ⟨rfl, rfl⟩))
          go_ret
          exact ⟨rfl, by assumption⟩
        · clear hm
          cases y
          all_goals
            go_enter Try.func10, Try.ntmps10
            go_wp2_with (first
              | (go_at_call 27; refine (from_here (alive02_any _) (by assumption)).mono ?_; rintro e w' ⟨rfl, hB1⟩)
              | (go_at_call 28; refine (from_here (most_any _ _) (by assumption)).mono ?_; rintro e w' ⟨rfl, hB1⟩)
              | (go_at_call 29; refine (from_here (less_any _ _) (by assumption)).mono ?_; rintro e w' ⟨rfl, hB1⟩)
              | (go_at_call 30; refine (from_here (value_any _ _) (by assumption)).mono ?_; rintro e w' ⟨rfl, hB1⟩)
              | (go_at_call 33; refine (from_here (badd_any _ _ _) (by assumption)).mono ?_; rintro e w' ⟨rfl, hB1⟩)
              | (go_at_call 32; refine (from_here (bnot_any _ _) (by assumption)).mono ?_; rintro e w' ⟨rfl, hB1⟩)
              | (go_at_call 31; refine (from_here (bkeeps_any _ _ _) (by assumption)).mono ?_; rintro e w' ⟨rfl, hB1⟩)
              | (go_at_call 17; refine (from_here (add_any _ _ _) (by assumption)).mono ?_; rintro e w' ⟨rfl, hB1⟩)
              | (go_at_call 18; refine (check_any _ _).mono ?_; rintro e w' ⟨rfl, rfl⟩))
            go_ret
            exact ⟨rfl, by assumption⟩
      · obtain ⟨n1, n2⟩ := Bd.not_not ha hn
        have n3 := Bd.keeps_not ha hn hd
        rw [k1] at n3
        have hn1 : (a == 9223372036854775807) = false := by simpa using hn
        generalize Bd.mk (-(a / 2)) (!(Bd.st a)) = na at n1 n2 n3
        have o := Num.okB_iff.1 hd
        obtain ⟨o1, o2⟩ := o
        clear hd ha hn
        by_cases hab : a ≤ b
        · cases x with
          | true =>
            obtain rfl := hm hab rfl
            clear hm
            go_enter Try.func10, Try.ntmps10
            go_wp2_with (first
              | (go_at_call 27; refine (from_here (alive02_any _) (by assumption)).mono ?_; rintro e w' ⟨rfl, hB1⟩)
              | (go_at_call 28; refine (from_here (most_any _ _) (by assumption)).mono ?_; rintro e w' ⟨rfl, hB1⟩)
              | (go_at_call 29; refine (from_here (less_any _ _) (by assumption)).mono ?_; rintro e w' ⟨rfl, hB1⟩)
              | (go_at_call 30; refine (from_here (value_any _ _) (by assumption)).mono ?_; rintro e w' ⟨rfl, hB1⟩)
              | (go_at_call 33; refine (from_here (badd_any _ _ _) (by assumption)).mono ?_; rintro e w' ⟨rfl, hB1⟩)
              | (go_at_call 32; refine (from_here (bnot_any _ _) (by assumption)).mono ?_; rintro e w' ⟨rfl, hB1⟩)
              | (go_at_call 31; refine (from_here (bkeeps_any _ _ _) (by assumption)).mono ?_; rintro e w' ⟨rfl, hB1⟩)
              | (go_at_call 17; refine (from_here (add_any _ _ _) (by assumption)).mono ?_; rintro e w' ⟨rfl, hB1⟩)
              | (go_at_call 18; refine (check_any _ _).mono ?_; rintro e w' ⟨rfl, rfl⟩))
            go_ret
            exact ⟨rfl, by assumption⟩
          | false =>
            clear hm
            cases y
            all_goals
              go_enter Try.func10, Try.ntmps10
              go_wp2_with (first
                | (go_at_call 27; refine (from_here (alive02_any _) (by assumption)).mono ?_; rintro e w' ⟨rfl, hB1⟩)
                | (go_at_call 28; refine (from_here (most_any _ _) (by assumption)).mono ?_; rintro e w' ⟨rfl, hB1⟩)
                | (go_at_call 29; refine (from_here (less_any _ _) (by assumption)).mono ?_; rintro e w' ⟨rfl, hB1⟩)
                | (go_at_call 30; refine (from_here (value_any _ _) (by assumption)).mono ?_; rintro e w' ⟨rfl, hB1⟩)
                | (go_at_call 33; refine (from_here (badd_any _ _ _) (by assumption)).mono ?_; rintro e w' ⟨rfl, hB1⟩)
                | (go_at_call 32; refine (from_here (bnot_any _ _) (by assumption)).mono ?_; rintro e w' ⟨rfl, hB1⟩)
                | (go_at_call 31; refine (from_here (bkeeps_any _ _ _) (by assumption)).mono ?_; rintro e w' ⟨rfl, hB1⟩)
                | (go_at_call 17; refine (from_here (add_any _ _ _) (by assumption)).mono ?_; rintro e w' ⟨rfl, hB1⟩)
                | (go_at_call 18; refine (check_any _ _).mono ?_; rintro e w' ⟨rfl, rfl⟩))
              go_ret
              exact ⟨rfl, by assumption⟩
        · clear hm
          cases x
          all_goals
            cases y
            all_goals
              go_enter Try.func10, Try.ntmps10
              go_wp2_with (first
                | (go_at_call 27; refine (from_here (alive02_any _) (by assumption)).mono ?_; rintro e w' ⟨rfl, hB1⟩)
                | (go_at_call 28; refine (from_here (most_any _ _) (by assumption)).mono ?_; rintro e w' ⟨rfl, hB1⟩)
                | (go_at_call 29; refine (from_here (less_any _ _) (by assumption)).mono ?_; rintro e w' ⟨rfl, hB1⟩)
                | (go_at_call 30; refine (from_here (value_any _ _) (by assumption)).mono ?_; rintro e w' ⟨rfl, hB1⟩)
                | (go_at_call 33; refine (from_here (badd_any _ _ _) (by assumption)).mono ?_; rintro e w' ⟨rfl, hB1⟩)
                | (go_at_call 32; refine (from_here (bnot_any _ _) (by assumption)).mono ?_; rintro e w' ⟨rfl, hB1⟩)
                | (go_at_call 31; refine (from_here (bkeeps_any _ _ _) (by assumption)).mono ?_; rintro e w' ⟨rfl, hB1⟩)
                | (go_at_call 17; refine (from_here (add_any _ _ _) (by assumption)).mono ?_; rintro e w' ⟨rfl, hB1⟩)
                | (go_at_call 18; refine (check_any _ _).mono ?_; rintro e w' ⟨rfl, rfl⟩))
              go_ret
              exact ⟨rfl, by assumption⟩

set_option maxRecDepth 100000 in
theorem lifted (os : Os) (started : os.Started) (H : Type) (enc : TypeId × Value → H) :
    ReturnsInHanded {} Try.checked os 10 .any (Rows.boundNotsSpec.pre6 enc Try.prog Try.f10 Rows.boundNotsRow.domain false) (Rows.boundNotsSpec.post enc Try.prog Try.f10 false true false false) := by
  refine returnsInHanded_of_change (C := Try.checked) own started (by kernel_rfl) Try.func10
    (ChangeSpec.witness6 (enc := enc) (C := Try.checked) false ⟨#[], #[.int .i64 0, .int .i64 0, .int .i64 0], []⟩ 8 (by kernel_rfl) (by kernel_rfl) (by kernel_rfl) (by kernel_rfl)) ?_
  intro W base args ds gs before hval0 hW _ _
  have hval : ∀ (j : Nat) t v, Try.f10.params[j]? = some t → args[j]? = some v → Value.okWide Try.prog W .any base t v := hval0
  have hW' := hW
  obtain ⟨p, q, hA0, hV, rfl, hfz, hnd⟩ := hW
  have hA : DataW.TrodAll enc Try.prog W 0 (fun _ => true) true Try.f10.params.toList args.toList ds p := hA0
  rw [Try.params10] at hA hval
  obtain ⟨v0, vs0, d0, ds0, p0, q0, hargs, rfl, rfl, h0, r0⟩ := trodAll_cons hA
  obtain ⟨v1, vs1, d1, ds1, p1, q1, rfl, rfl, rfl, h1, r1⟩ := trodAll_cons r0
  obtain ⟨v2, vs2, d2, ds2, p2, q2, rfl, rfl, rfl, h2, r2⟩ := trodAll_cons r1
  obtain ⟨rfl, rfl, rfl⟩ := trodAll_nil r2
  obtain rfl : args = #[v0, v1, v2] := by cases args; simp_all
  obtain ⟨rfl, rfl⟩ := trodVars_none hV
  obtain ⟨a0, rfl, rfl, rfl, w0⟩ := open_int Try.underlying38 (hval 0 38 v0 rfl rfl) h0
  obtain ⟨a1, rfl, rfl, rfl, w1⟩ := open_int Try.underlying38 (hval 1 38 v1 rfl rfl) h1
  obtain ⟨a2, rfl, rfl, rfl, w2⟩ := open_int Try.underlying3 (hval 2 3 v2 rfl rfl) h2
  clear hA0 hval0
  exact (walk a0 w0 a1 w1 a2 w2 W).mono fun e W' ⟨he, hg⟩ => ⟨_, he, law_post laidOut (by kernel_rfl) rfl rfl Try.underlying4 hW' rfl hg⟩

theorem over : Rows.boundNotsRow.holds Try.pinned (OpenSpec.ofChange Rows.boundNotsSpec) :=
  OpenClaim.holds_of_wide 10 Try.f10 rfl rfl rfl rfl rfl rfl rfl ⟨rfl, rfl, rfl, rfl, rfl⟩ rfl rfl rfl rfl rfl (by kernel_rfl) Try.func10 (by kernel_rfl)
    (of_decide_eq_true (by kernel_rfl)) (by unfold Func.isWrapper; first | (rw [if_pos (by decide +kernel)]; kernel_rfl) | (rw [if_neg (by decide +kernel)]; exact ⟨rfl, rfl⟩))
    (fun os started H enc _ => lifted os started H enc)

/-- the given statement. -/
theorem proved : Rows.BoundNotsSaid := over
#print axioms proved
end Go.Proofs.Ytcidjmhadpoibaa.boundNots
