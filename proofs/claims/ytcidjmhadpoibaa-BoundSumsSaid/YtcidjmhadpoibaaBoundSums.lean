/-
  BoundSums: the law returns true at every input.
-/
import Derived.Test.YtcidjmhadpoibaaLaw
import Derived.Test.YtcidjmhadpoibaaAlive02
namespace Go.Proofs.Ytcidjmhadpoibaa.boundSums
set_option linter.unusedVariables false
open Go.ChangeShapes Go.WideShapes Go.ChangeAt Go.RowKit

set_option maxRecDepth 100000 in
set_option maxHeartbeats 4000000 in
theorem walk_ok (a b c x y s : Int) (hs : Bd.add a b = (s, 0)) (w : World) :
    Calls Try.prog 13 #[.int .i64 a, .int .i64 b, .int .i64 c, .int .i64 x, .int .i64 y] w fun e w' => e = .returned (.bool true) ∧ Below w.heap.size w w' := by
  have hB := Below.refl w.heap.size w
  have hs2 : Bd.add b a = (s, 0) := by rw [Bd.add_comm]; exact hs
  -- the differences: both kept, and their sum, or not
  have hk : (∃ n, Bd.keeps x a = (true, 0) ∧ Bd.keeps y b = (true, 0) ∧ Num.add x y = (n, 0) ∧ Bd.keeps n s = (true, 0)) ∨
      (∃ o1 o2 : Bool, ∃ g h n i : Int, Bd.keeps x a = (o1, g) ∧ Bd.keeps y b = (o2, h) ∧ Num.add x y = (n, i) ∧ ((g == 0) = false ∨ (g = 0 ∧ (h == 0) = false) ∨ (g = 0 ∧ h = 0 ∧ (i == 0) = false) ∨ (g = 0 ∧ h = 0 ∧ i = 0 ∧ o1 = false) ∨ (g = 0 ∧ h = 0 ∧ i = 0 ∧ o1 = true ∧ o2 = false))) := by
    rcases h1 : Bd.keeps x a with ⟨o1, g⟩
    rcases h2 : Bd.keeps y b with ⟨o2, h⟩
    rcases h3 : Num.add x y with ⟨n, i⟩
    by_cases g0 : g = 0
    · by_cases e0 : h = 0
      · by_cases i0 : i = 0
        · subst g0; subst e0; subst i0
          cases o1 with
          | false => exact .inr ⟨_, _, _, _, _, _, rfl, rfl, rfl, .inr (.inr (.inr (.inl ⟨rfl, rfl, rfl, rfl⟩)))⟩
          | true =>
            cases o2 with
            | false => exact .inr ⟨_, _, _, _, _, _, rfl, rfl, rfl, .inr (.inr (.inr (.inr ⟨rfl, rfl, rfl, rfl, rfl⟩)))⟩
            | true => exact .inl ⟨n, rfl, rfl, rfl, Bd.add_keeps hs h1 h2 h3⟩
        · exact .inr ⟨_, _, _, _, _, _, rfl, rfl, rfl, .inr (.inr (.inl ⟨g0, e0, by simpa using i0⟩))⟩
      · exact .inr ⟨_, _, _, _, _, _, rfl, rfl, rfl, .inr (.inl ⟨g0, by simpa using e0⟩)⟩
    · exact .inr ⟨_, _, _, _, _, _, rfl, rfl, rfl, .inl (by simpa using g0)⟩
  -- the third bound
  have hc : (∃ p q, Bd.add s c = (p, 0) ∧ Bd.add b c = (q, 0) ∧ Bd.add a q = (p, 0)) ∨ (∃ p k q l : Int, Bd.add s c = (p, k) ∧ Bd.add b c = (q, l) ∧ ((k != 0) = true ∨ (k = 0 ∧ (l != 0) = true))) := by
    rcases h1 : Bd.add s c with ⟨p, k⟩
    rcases h2 : Bd.add b c with ⟨q, l⟩
    by_cases k0 : k = 0
    · by_cases l0 : l = 0
      · subst k0; subst l0
        exact .inl ⟨p, q, rfl, rfl, Bd.add_assoc hs h1 h2⟩
      · exact .inr ⟨_, _, _, _, rfl, rfl, .inr ⟨k0, by simpa using l0⟩⟩
    · exact .inr ⟨_, _, _, _, rfl, rfl, .inl (by simpa using k0)⟩
  rcases hk with ⟨n, k1, k2, k3, k4⟩ | ⟨o1, o2, g, h, n, i, k1, k2, k3, k4 | ⟨rfl, k4⟩ | ⟨rfl, rfl, k4⟩ | ⟨rfl, rfl, rfl, rfl⟩ | ⟨rfl, rfl, rfl, rfl, rfl⟩⟩
  all_goals
    rcases hc with ⟨p, q, c1, c2, c3⟩ | ⟨p, k, q, l, c1, c2, c3 | ⟨rfl, c3⟩⟩
    all_goals
      go_enter Try.func13, Try.ntmps13
      go_wp2_with (first
        | (go_at_call 27; refine (from_here (alive02_any _) (by assumption)).mono ?_; rintro e w' ⟨rfl, hB1⟩)
        | (go_at_call 28; refine (from_here (most_any _ _) (by assumption)).mono ?_; rintro e w' ⟨rfl, hB1⟩)
        | (go_at_call 29; refine (from_here (less_any _ _) (by assumption)).mono ?_; rintro e w' ⟨rfl, hB1⟩)
        | (go_at_call 30; refine (from_here (value_any _ _) (by assumption)).mono ?_; rintro e w' ⟨rfl, hB1⟩)
        | (go_at_call 33; refine (from_here (badd_any _ _ _) (by assumption)).mono ?_; rintro e w' ⟨rfl, hB1⟩)
        | (go_at_call 32; refine (from_here (bnot_any _ _) (by assumption)).mono ?_; rintro e w' ⟨rfl, hB1⟩)
        | (go_at_call 31; refine (from_here (bkeeps_any _ _ _) (by assumption)).mono ?_; rintro e w' ⟨rfl, hB1⟩)
        | (go_at_call 17; refine (from_here (add_any _ _ _) (by assumption)).mono ?_; rintro e w' ⟨rfl, hB1⟩)
        | (go_at_call 18; refine (check_any _ _).mono ?_; rintro e w' ⟨rfl, rfl⟩))
      go_ret
      exact ⟨rfl, by assumption⟩

theorem walk (a : Int) (wa : (Lit.int .i64 a).wf = true) (b : Int) (wb : (Lit.int .i64 b).wf = true) (c : Int) (wc : (Lit.int .i64 c).wf = true) (x : Int) (wx : (Lit.int .i64 x).wf = true) (y : Int) (wy : (Lit.int .i64 y).wf = true) (w : World) :
    Calls Try.prog 13 #[.int .i64 a, .int .i64 b, .int .i64 c, .int .i64 x, .int .i64 y] w fun e w' => e = .returned (.bool true) ∧ Below w.heap.size w w' := by
  clear wa wb wc wx wy
  rcases h : Bd.add a b with ⟨s, e⟩
  by_cases h0 : e = 0
  · subst h0
    exact walk_ok a b c x y s h w
  · have hB := Below.refl w.heap.size w
    have hs : s = 0 := by have := Bd.add_err (a := a) (b := b) (by rw [h]; exact h0); rw [h] at this; exact this
    subst hs
    have h2 : Bd.add b a = (0, e) := by rw [Bd.add_comm]; exact h
    have h3 : (e != 0) = true := by simpa using h0
    clear h0
    go_enter Try.func13, Try.ntmps13
    go_wp2_with (first
      | (go_at_call 27; refine (from_here (alive02_any _) (by assumption)).mono ?_; rintro e w' ⟨rfl, hB1⟩)
      | (go_at_call 28; refine (from_here (most_any _ _) (by assumption)).mono ?_; rintro e w' ⟨rfl, hB1⟩)
      | (go_at_call 29; refine (from_here (less_any _ _) (by assumption)).mono ?_; rintro e w' ⟨rfl, hB1⟩)
      | (go_at_call 30; refine (from_here (value_any _ _) (by assumption)).mono ?_; rintro e w' ⟨rfl, hB1⟩)
      | (go_at_call 33; refine (from_here (badd_any _ _ _) (by assumption)).mono ?_; rintro e w' ⟨rfl, hB1⟩)
      | (go_at_call 32; refine (from_here (bnot_any _ _) (by assumption)).mono ?_; rintro e w' ⟨rfl, hB1⟩)
      | (go_at_call 31; refine (from_here (bkeeps_any _ _ _) (by assumption)).mono ?_; rintro e w' ⟨rfl, hB1⟩)
      | (go_at_call 17; refine (from_here (add_any _ _ _) (by assumption)).mono ?_; rintro e w' ⟨rfl, hB1⟩)
      | (go_at_call 18; refine (check_any _ _).mono ?_; rintro e w' ⟨rfl, rfl⟩))
    go_ret
    exact ⟨rfl, by assumption⟩

set_option maxRecDepth 100000 in
theorem lifted (os : Os) (started : os.Started) (H : Type) (enc : TypeId × Value → H) :
    ReturnsInHanded {} Try.checked os 13 .any (Rows.boundSumsSpec.pre6 enc Try.prog Try.f13 Rows.boundSumsRow.domain false) (Rows.boundSumsSpec.post enc Try.prog Try.f13 false true false false) := by
  refine returnsInHanded_of_change (C := Try.checked) own started (by kernel_rfl) Try.func13
    (ChangeSpec.witness6 (enc := enc) (C := Try.checked) false ⟨#[], #[.int .i64 0, .int .i64 0, .int .i64 0, .int .i64 0, .int .i64 0], []⟩ 8 (by kernel_rfl) (by kernel_rfl) (by kernel_rfl) (by kernel_rfl)) ?_
  intro W base args ds gs before hval0 hW _ _
  have hval : ∀ (j : Nat) t v, Try.f13.params[j]? = some t → args[j]? = some v → Value.okWide Try.prog W .any base t v := hval0
  have hW' := hW
  obtain ⟨p, q, hA0, hV, rfl, hfz, hnd⟩ := hW
  have hA : DataW.TrodAll enc Try.prog W 0 (fun _ => true) true Try.f13.params.toList args.toList ds p := hA0
  rw [Try.params13] at hA hval
  obtain ⟨v0, vs0, d0, ds0, p0, q0, hargs, rfl, rfl, h0, r0⟩ := trodAll_cons hA
  obtain ⟨v1, vs1, d1, ds1, p1, q1, rfl, rfl, rfl, h1, r1⟩ := trodAll_cons r0
  obtain ⟨v2, vs2, d2, ds2, p2, q2, rfl, rfl, rfl, h2, r2⟩ := trodAll_cons r1
  obtain ⟨v3, vs3, d3, ds3, p3, q3, rfl, rfl, rfl, h3, r3⟩ := trodAll_cons r2
  obtain ⟨v4, vs4, d4, ds4, p4, q4, rfl, rfl, rfl, h4, r4⟩ := trodAll_cons r3
  obtain ⟨rfl, rfl, rfl⟩ := trodAll_nil r4
  obtain rfl : args = #[v0, v1, v2, v3, v4] := by cases args; simp_all
  obtain ⟨rfl, rfl⟩ := trodVars_none hV
  obtain ⟨a0, rfl, rfl, rfl, w0⟩ := open_int Try.underlying38 (hval 0 38 v0 rfl rfl) h0
  obtain ⟨a1, rfl, rfl, rfl, w1⟩ := open_int Try.underlying38 (hval 1 38 v1 rfl rfl) h1
  obtain ⟨a2, rfl, rfl, rfl, w2⟩ := open_int Try.underlying38 (hval 2 38 v2 rfl rfl) h2
  obtain ⟨a3, rfl, rfl, rfl, w3⟩ := open_int Try.underlying3 (hval 3 3 v3 rfl rfl) h3
  obtain ⟨a4, rfl, rfl, rfl, w4⟩ := open_int Try.underlying3 (hval 4 3 v4 rfl rfl) h4
  clear hA0 hval0
  exact (walk a0 w0 a1 w1 a2 w2 a3 w3 a4 w4 W).mono fun e W' ⟨he, hg⟩ => ⟨_, he, law_post laidOut (by kernel_rfl) rfl rfl Try.underlying4 hW' rfl hg⟩

theorem over : Rows.boundSumsRow.holds Try.pinned (OpenSpec.ofChange Rows.boundSumsSpec) :=
  OpenClaim.holds_of_wide 13 Try.f13 rfl rfl rfl rfl rfl rfl rfl ⟨rfl, rfl, rfl, rfl, rfl⟩ rfl rfl rfl rfl rfl (by kernel_rfl) Try.func13 (by kernel_rfl)
    (of_decide_eq_true (by kernel_rfl)) (by unfold Func.isWrapper; first | (rw [if_pos (by decide +kernel)]; kernel_rfl) | (rw [if_neg (by decide +kernel)]; exact ⟨rfl, rfl⟩))
    (fun os started H enc _ => lifted os started H enc)

/-- the given statement. -/
theorem proved : Rows.BoundSumsSaid := over
#print axioms proved
end Go.Proofs.Ytcidjmhadpoibaa.boundSums
