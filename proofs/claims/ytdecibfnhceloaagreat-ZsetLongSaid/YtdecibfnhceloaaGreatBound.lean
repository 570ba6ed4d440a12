/-
  The contracts of package bound at every bound and number: of, told, Check, made, Value, Add.
-/
import Derived.Test.YtdecibfnhceloaaGreatChk
import Derived.Test.YtdecibfnhceloaaGreatPlainBound
import Derived.Deep.QuietTactic
import Derived.BigQuiet
import Derived.WalkSmall
namespace Go.Proofs.YtdecibfnhceloaaGreat
set_option linter.unusedVariables false
open Go.RowKit

theorem of_any (b : Int) (w : World) :
    Calls Tryz.prog 99 #[.int .i64 b] w fun e w' => e = .returned (.agg #[.int .i64 (b / 2), .bool (Bd.st b)]) ∧ Below w.heap.size w w' := by
  have h1 := i64_and1 b
  go_enter Tryz.func99, Tryz.ntmps99
  go_wp2
  exact bodyPost_ret (v := .agg #[.int .i64 (b / 2), .bool (Bd.st b)]) (by simp [results, Tryz.results99, Bd.st, go_sem]) rfl ⟨rfl, (Below.refl _ _).alloc (Nat.le_refl _) _⟩

theorem told_any (c : Int) (s : Bool) (h : Num.okB c = true) (w : World) :
    Calls Tryz.prog 115 #[.agg #[.int .i64 c, .bool s]] w fun e w' => e = .returned (.int .i64 (Bd.mk c s)) ∧ Below w.heap.size w w' := by
  obtain ⟨c1, c2⟩ := Num.okB_iff.1 h
  have h1 := i64_or1 c (by omega) (by omega)
  clear h
  cases s
  · go_enter Tryz.func115, Tryz.ntmps115
    go_wp2
    go_ret
    exact ⟨ret_int (by simp [Bd.mk]), (Below.refl _ _).alloc (Nat.le_refl _) _⟩
  · go_enter Tryz.func115, Tryz.ntmps115
    go_wp2
    go_ret
    exact ⟨ret_int (by simp [Bd.mk]), (Below.refl _ _).alloc (Nat.le_refl _) _⟩

theorem made_any (c : Int) (s : Bool) (w : World) :
    Calls Tryz.prog 100 #[.agg #[.int .i64 c, .bool s]] w fun e w' => e = .returned (.tuple #[.int .i64 (Bd.made c s).1, .int .i64 (Bd.made c s).2]) ∧ Below w.heap.size w w' := by
  have hB := (Below.refl w.heap.size w).alloc (Nat.le_refl _) (.cells #[.int .i64 c, .bool s] 148)
  cases h : Num.okB c with
  | true =>
    have e1 := Num.chk_yes h
    have hr := Lib.hid (Bd.made_yes (s := s) h)
    have H := Lib.hid h
    clear h
    go_enter Tryz.func100, Tryz.ntmps100
    go_wp2_with (first
      | (go_at_call 101; refine (check_any _ _).mono ?_; rintro e w' ⟨rfl, rfl⟩)
      | (go_at_call 115; refine (from_here (told_any _ _ H.out _) hB).mono ?_; rintro e w' ⟨rfl, hB1⟩))
    go_ret2
    exact ⟨tup2 hr.out rfl rfl, by assumption⟩
  | false =>
    have e1 := Num.chk_no h
    have hr := Lib.hid (Bd.made_no (s := s) h)
    clear h
    go_enter Tryz.func100, Tryz.ntmps100
    go_wp2_with (first
      | (go_at_call 101; refine (check_any _ _).mono ?_; rintro e w' ⟨rfl, rfl⟩))
    go_ret2
    exact ⟨tup2 hr.out rfl rfl, by assumption⟩

theorem field_c (c : Int) (s : Bool) : ∀ w : World, (Instr.field 148 (.agg #[.int .i64 c, .bool s]) 0).run Tryz.prog w = .ok (.int .i64 c) w := fun _ => by kernel_rfl

theorem bcheck_any (b : Int) (w : World) :
    Calls Tryz.prog 88 #[.int .i64 b] w fun e w' => e = .returned (.int .i64 (Bd.chk b)) ∧ Below w.heap.size w w' := by
  have hB := Below.refl w.heap.size w
  by_cases hn : b = 9223372036854775807
  · subst hn
    have hr := Lib.hid (Bd.chk_yes Bd.may_none)
    go_enter Tryz.func88, Tryz.ntmps88
    go_wp2
    go_ret
    exact ⟨ret_int hr.out.symm, by assumption⟩
  · have hn1 : (b == 9223372036854775807) = false := by simpa using hn
    have hn2 : (b != 9223372036854775807) = true := by simpa using hn
    have hf := field_c (b / 2) (Bd.st b)
    cases h : Num.okB (b / 2) with
    | true =>
      have e1 := Num.chk_yes h
      have hr := Lib.hid (Bd.chk_yes (Bd.may_of h))
      clear h hn
      go_enter Tryz.func88, Tryz.ntmps88
      go_wp2_with (first
        | (go_at_call 101; refine (check_any _ _).mono ?_; rintro e w' ⟨rfl, rfl⟩)
        | (go_at_call 99; refine (from_here (of_any _ _) (by assumption)).mono ?_; rintro e w' ⟨rfl, hB1⟩))
      go_ret
      exact ⟨ret_int hr.out.symm, by assumption⟩
    | false =>
      have e1 := Num.chk_no h
      have hr := Lib.hid (Bd.chk_no (b := b) (by simp [Bd.may, h, hn]))
      clear h hn
      go_enter Tryz.func88, Tryz.ntmps88
      go_wp2_with (first
        | (go_at_call 101; refine (check_any _ _).mono ?_; rintro e w' ⟨rfl, rfl⟩)
        | (go_at_call 99; refine (from_here (of_any _ _) (by assumption)).mono ?_; rintro e w' ⟨rfl, hB1⟩))
      go_ret
      exact ⟨ret_int hr.out.symm, by assumption⟩

theorem value_any (b : Int) (w : World) :
    Calls Tryz.prog 82 #[.int .i64 b] w fun e w' => e = .returned (.tuple #[.int .i64 (Bd.value b).1, .bool (Bd.value b).2.1, .int .i64 (Bd.value b).2.2]) ∧ Below w.heap.size w w' := by
  have hB := Below.refl w.heap.size w
  cases h : Bd.may b with
  | false =>
    have e1 := Bd.chk_no h
    have hr := Lib.hid (Bd.value_bad h)
    clear h
    go_enter Tryz.func82, Tryz.ntmps82
    go_wp2_with (go_at_call 88; refine (from_here (bcheck_any _ _) (by assumption)).mono ?_; rintro e w' ⟨rfl, hB1⟩)
    go_ret3
    exact ⟨tup3 hr.out rfl rfl rfl, by assumption⟩
  | true =>
    have e1 := Bd.chk_yes h
    by_cases hn : b = 9223372036854775807
    · subst hn
      have hr := Lib.hid Bd.value_none
      clear h
      go_enter Tryz.func82, Tryz.ntmps82
      go_wp2_with (go_at_call 88; refine (from_here (bcheck_any _ _) (by assumption)).mono ?_; rintro e w' ⟨rfl, hB1⟩)
      go_ret3
      exact ⟨tup3 hr.out rfl rfl rfl, by assumption⟩
    · have hn1 : (b == 9223372036854775807) = false := by simpa using hn
      have hr := Lib.hid (Bd.value_yes h hn)
      clear h hn
      go_enter Tryz.func82, Tryz.ntmps82
      go_wp2_with (first
        | (go_at_call 88; refine (from_here (bcheck_any _ _) (by assumption)).mono ?_; rintro e w' ⟨rfl, hB1⟩)
        | (go_at_call 99; refine (from_here (of_any _ _) (by assumption)).mono ?_; rintro e w' ⟨rfl, hB2⟩))
      go_quiet (fail)
      go_wp2
      go_ret3
      exact ⟨tup3 hr.out rfl rfl rfl, below_drewN (hB2.alloc hB2.size _) _⟩

theorem badd_any (a b : Int) (w : World) :
    Calls Tryz.prog 84 #[.int .i64 a, .int .i64 b] w fun e w' => e = .returned (.tuple #[.int .i64 (Bd.add a b).1, .int .i64 (Bd.add a b).2]) ∧ Below w.heap.size w w' := by
  have hB := Below.refl w.heap.size w
  cases ha : Bd.may a with
  | false =>
    have e1 := Bd.chk_no ha
    have hr := Lib.hid (Bd.add_bad (b := b) (.inl ha))
    clear ha
    go_enter Tryz.func84, Tryz.ntmps84
    go_wp2_with (go_at_call 88; refine (from_here (bcheck_any _ _) (by assumption)).mono ?_; rintro e w' ⟨rfl, hB1⟩)
    go_ret2
    exact ⟨tup2 hr.out rfl rfl, by assumption⟩
  | true =>
    have e1 := Bd.chk_yes ha
    cases hb : Bd.may b with
    | false =>
      have e2 := Bd.chk_no hb
      have hr := Lib.hid (Bd.add_bad (a := a) (.inr hb))
      clear ha hb
      go_enter Tryz.func84, Tryz.ntmps84
      go_wp2_with (go_at_call 88; refine (from_here (bcheck_any _ _) (by assumption)).mono ?_; rintro e w' ⟨rfl, hB1⟩)
      go_ret2
      exact ⟨tup2 hr.out rfl rfl, by assumption⟩
    | true =>
      have e2 := Bd.chk_yes hb
      by_cases na : a = 9223372036854775807
      · have hr := Lib.hid (Bd.add_none ha hb (.inl na))
        subst na
        clear ha hb
        go_enter Tryz.func84, Tryz.ntmps84
        go_wp2_with (go_at_call 88; refine (from_here (bcheck_any _ _) (by assumption)).mono ?_; rintro e w' ⟨rfl, hB1⟩)
        go_ret2
        exact ⟨tup2 hr.out rfl rfl, by assumption⟩
      · have na1 : (a == 9223372036854775807) = false := by simpa using na
        by_cases nb : b = 9223372036854775807
        · have hr := Lib.hid (Bd.add_none ha hb (.inr nb))
          subst nb
          clear ha hb na
          go_enter Tryz.func84, Tryz.ntmps84
          go_wp2_with (go_at_call 88; refine (from_here (bcheck_any _ _) (by assumption)).mono ?_; rintro e w' ⟨rfl, hB1⟩)
          go_ret2
          exact ⟨tup2 hr.out rfl rfl, by assumption⟩
        · have nb1 : (b == 9223372036854775807) = false := by simpa using nb
          have hr := Lib.hid (Bd.add_yes ha hb na nb)
          obtain ⟨a1, a2⟩ := Num.okB_iff.1 (Bd.okB_of_may ha na)
          obtain ⟨b1, b2⟩ := Num.okB_iff.1 (Bd.okB_of_may hb nb)
          clear ha hb na nb
          cases hs : Bd.st a
          all_goals
            go_enter Tryz.func84, Tryz.ntmps84
            go_wp2_with (first
              | (go_at_call 88; refine (from_here (bcheck_any _ _) (by assumption)).mono ?_; rintro e w' ⟨rfl, hB1⟩)
              | (go_at_call 99; refine (from_here (of_any _ _) (by assumption)).mono ?_; rintro e w' ⟨rfl, hB1⟩)
              | (go_at_call 100; refine (from_here (made_any _ _ _) (by repeat (first | assumption | apply below_al))).mono ?_; rintro e w' ⟨rfl, hB3⟩))
            go_ret2
            exact ⟨by rw [hr.out, hs]; rfl, by assumption⟩

end Go.Proofs.YtdecibfnhceloaaGreat
