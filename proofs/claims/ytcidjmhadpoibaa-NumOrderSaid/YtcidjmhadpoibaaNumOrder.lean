/-
  NumOrder: the law returns true at every input.
-/
import Derived.Test.YtcidjmhadpoibaaLaw
import Derived.Test.YtcidjmhadpoibaaAlive01
namespace Go.Proofs.Ytcidjmhadpoibaa.numOrder
set_option linter.unusedVariables false
open Go.ChangeShapes Go.WideShapes Go.ChangeAt Go.RowKit

theorem walk (a : Int) (wa : (Lit.int .i64 a).wf = true) (b : Int) (wb : (Lit.int .i64 b).wf = true) (w : World) :
    Calls Try.prog 4 #[.int .i64 a, .int .i64 b] w fun e w' => e = .returned (.bool true) ∧ Below w.heap.size w w' := by
  clear wa wb
  have hB := Below.refl w.heap.size w
  cases ha : Num.okB a with
  | false =>
    have h1 : Num.add a b = (0, 10) := Num.add_no (.inl ha)
    have h2 : Num.add b a = (0, 10) := Num.add_no (.inr (.inl ha))
    have h3 := Num.chk_no ha
    clear ha
    go_enter Try.func4, Try.ntmps4
    go_wp2_with (first
      | (go_at_call 16; refine (from_here (alive01_any _) (by assumption)).mono ?_; rintro e w' ⟨rfl, hB⟩)
      | (go_at_call 17; refine (from_here (add_any _ _ _) (by assumption)).mono ?_; rintro e w' ⟨rfl, hB⟩)
      | (go_at_call 19; refine (from_here (sub_any _ _ _) (by assumption)).mono ?_; rintro e w' ⟨rfl, hB⟩)
      | (go_at_call 20; refine (neg_any _ _).mono ?_; rintro e w' ⟨rfl, rfl⟩)
      | (go_at_call 18; refine (check_any _ _).mono ?_; rintro e w' ⟨rfl, rfl⟩))
    go_ret
    exact ⟨rfl, by assumption⟩
  | true =>
   cases hb : Num.okB b with
   | false =>
    have h1 : Num.add a b = (0, 10) := Num.add_no (.inr (.inl hb))
    have h2 : Num.add b a = (0, 10) := Num.add_no (.inl hb)
    have h3 := Num.chk_yes ha
    have h4 := Num.chk_no hb
    clear ha hb
    go_enter Try.func4, Try.ntmps4
    go_wp2_with (first
      | (go_at_call 16; refine (from_here (alive01_any _) (by assumption)).mono ?_; rintro e w' ⟨rfl, hB⟩)
      | (go_at_call 17; refine (from_here (add_any _ _ _) (by assumption)).mono ?_; rintro e w' ⟨rfl, hB⟩)
      | (go_at_call 19; refine (from_here (sub_any _ _ _) (by assumption)).mono ?_; rintro e w' ⟨rfl, hB⟩)
      | (go_at_call 20; refine (neg_any _ _).mono ?_; rintro e w' ⟨rfl, rfl⟩)
      | (go_at_call 18; refine (check_any _ _).mono ?_; rintro e w' ⟨rfl, rfl⟩))
    go_ret
    exact ⟨rfl, by assumption⟩
   | true =>
    have h3 := Num.chk_yes ha
    have h4 := Num.chk_yes hb
    obtain ⟨a1, a2⟩ := Num.okB_iff.1 ha
    obtain ⟨b1, b2⟩ := Num.okB_iff.1 hb
    cases hc : Num.okB (a + b) with
    | false =>
     have h1 : Num.add a b = (0, 10) := Num.add_no (.inr (.inr hc))
     have h2 : Num.add b a = (0, 10) := Num.add_no (.inr (.inr (by rw [Int.add_comm]; exact hc)))
     have h5 := Num.okB_no.1 hc
     clear ha hb hc
     by_cases h6 : 2305843009213693952 < a + b
     · clear h5
       go_enter Try.func4, Try.ntmps4
       go_wp2_with (first
         | (go_at_call 16; refine (from_here (alive01_any _) (by assumption)).mono ?_; rintro e w' ⟨rfl, hB⟩)
         | (go_at_call 17; refine (from_here (add_any _ _ _) (by assumption)).mono ?_; rintro e w' ⟨rfl, hB⟩)
         | (go_at_call 19; refine (from_here (sub_any _ _ _) (by assumption)).mono ?_; rintro e w' ⟨rfl, hB⟩)
         | (go_at_call 20; refine (neg_any _ _).mono ?_; rintro e w' ⟨rfl, rfl⟩)
         | (go_at_call 18; refine (check_any _ _).mono ?_; rintro e w' ⟨rfl, rfl⟩))
       go_ret
       exact ⟨rfl, by assumption⟩
     · have h7 : a + b < -2305843009213693952 := by omega
       clear h5
       go_enter Try.func4, Try.ntmps4
       go_wp2_with (first
         | (go_at_call 16; refine (from_here (alive01_any _) (by assumption)).mono ?_; rintro e w' ⟨rfl, hB⟩)
         | (go_at_call 17; refine (from_here (add_any _ _ _) (by assumption)).mono ?_; rintro e w' ⟨rfl, hB⟩)
         | (go_at_call 19; refine (from_here (sub_any _ _ _) (by assumption)).mono ?_; rintro e w' ⟨rfl, hB⟩)
         | (go_at_call 20; refine (neg_any _ _).mono ?_; rintro e w' ⟨rfl, rfl⟩)
         | (go_at_call 18; refine (check_any _ _).mono ?_; rintro e w' ⟨rfl, rfl⟩))
       go_ret
       exact ⟨rfl, by assumption⟩
    | true =>
     have h1 : Num.add a b = (a + b, 0) := Num.add_yes ha hb hc
     have h2 : Num.add b a = (a + b, 0) := by rw [Num.add_yes hb ha (by rw [Int.add_comm]; exact hc), Int.add_comm]
     have h5 : Num.sub (a + b) b = (a, 0) := Num.sub_back ha hb hc
     have h6 : Num.sub a (-b) = (a + b, 0) := by rw [Num.sub_yes ha (by rw [Num.okB_neg]; exact hb) (by rw [Int.sub_neg]; exact hc), Int.sub_neg]
     have h7 := Num.chk_yes hc
     have h8 := Num.neg_yes hb
     clear ha hc
     go_enter Try.func4, Try.ntmps4
     go_wp2_with (first
       | (go_at_call 16; refine (from_here (alive01_any _) (by assumption)).mono ?_; rintro e w' ⟨rfl, hB⟩)
       | (go_at_call 17; refine (from_here (add_any _ _ _) (by assumption)).mono ?_; rintro e w' ⟨rfl, hB⟩)
       | (go_at_call 19; refine (from_here (sub_any _ _ _) (by assumption)).mono ?_; rintro e w' ⟨rfl, hB⟩)
       | (go_at_call 20; refine (neg_any _ _).mono ?_; rintro e w' ⟨rfl, rfl⟩)
       | (go_at_call 18; refine (check_any _ _).mono ?_; rintro e w' ⟨rfl, rfl⟩))
     go_ret
     exact ⟨rfl, by assumption⟩

set_option maxRecDepth 100000 in
theorem lifted (os : Os) (started : os.Started) (H : Type) (enc : TypeId × Value → H) :
    ReturnsInHanded {} Try.checked os 4 .any (Rows.numOrderSpec.pre6 enc Try.prog Try.f4 Rows.numOrderRow.domain false) (Rows.numOrderSpec.post enc Try.prog Try.f4 false true false false) := by
  refine returnsInHanded_of_change (C := Try.checked) own started (by kernel_rfl) Try.func4
    (ChangeSpec.witness6 (enc := enc) (C := Try.checked) false ⟨#[], #[.int .i64 0, .int .i64 0], []⟩ 8 (by kernel_rfl) (by kernel_rfl) (by kernel_rfl) (by kernel_rfl)) ?_
  intro W base args ds gs before hval0 hW _ _
  have hval : ∀ (j : Nat) t v, Try.f4.params[j]? = some t → args[j]? = some v → Value.okWide Try.prog W .any base t v := hval0
  have hW' := hW
  obtain ⟨p, q, hA0, hV, rfl, hfz, hnd⟩ := hW
  have hA : DataW.TrodAll enc Try.prog W 0 (fun _ => true) true Try.f4.params.toList args.toList ds p := hA0
  rw [Try.params4] at hA hval
  obtain ⟨v0, vs0, d0, ds0, p0, q0, hargs, rfl, rfl, h0, r0⟩ := trodAll_cons hA
  obtain ⟨v1, vs1, d1, ds1, p1, q1, rfl, rfl, rfl, h1, r1⟩ := trodAll_cons r0
  obtain ⟨rfl, rfl, rfl⟩ := trodAll_nil r1
  obtain rfl : args = #[v0, v1] := by cases args; simp_all
  obtain ⟨rfl, rfl⟩ := trodVars_none hV
  obtain ⟨a0, rfl, rfl, rfl, w0⟩ := open_int Try.underlying3 (hval 0 3 v0 rfl rfl) h0
  obtain ⟨a1, rfl, rfl, rfl, w1⟩ := open_int Try.underlying3 (hval 1 3 v1 rfl rfl) h1
  clear hA0 hval0
  exact (walk a0 w0 a1 w1 W).mono fun e W' ⟨he, hg⟩ => ⟨_, he, law_post laidOut (by kernel_rfl) rfl rfl Try.underlying4 hW' rfl hg⟩

theorem over : Rows.numOrderRow.holds Try.pinned (OpenSpec.ofChange Rows.numOrderSpec) :=
  OpenClaim.holds_of_wide 4 Try.f4 rfl rfl rfl rfl rfl rfl rfl ⟨rfl, rfl, rfl, rfl, rfl⟩ rfl rfl rfl rfl rfl (by kernel_rfl) Try.func4 (by kernel_rfl)
    (of_decide_eq_true (by kernel_rfl)) (by unfold Func.isWrapper; first | (rw [if_pos (by decide +kernel)]; kernel_rfl) | (rw [if_neg (by decide +kernel)]; exact ⟨rfl, rfl⟩))
    (fun os started H enc _ => lifted os started H enc)

/-- the given statement. -/
theorem proved : Rows.NumOrderSaid := over
#print axioms proved
end Go.Proofs.Ytcidjmhadpoibaa.numOrder
