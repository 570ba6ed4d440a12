/-
  The contracts of package bound at every bound and number: of, told, Check, made, Most, Less, Value, Add, Not, Keeps.
-/
import Derived.Test.YtcidjmhadpoibaaNumMore
import Derived.Test.YtcidjmhadpoibaaPlainBound
import Derived.Deep.QuietTactic
import Derived.BigQuiet
import Derived.WalkSmall
namespace Go.Proofs.Ytcidjmhadpoibaa
set_option linter.unusedVariables false
open Go.RowKit

theorem of_any (b : Int) (w : World) :
    Calls Try.prog 45 #[.int .i64 b] w fun e w' => e = .returned (.agg #[.int .i64 (b / 2), .bool (Bd.st b)]) ∧ Below w.heap.size w w' := by
  have h1 := i64_and1 b
  go_enter Try.func45, Try.ntmps45
  go_wp2
  exact bodyPost_ret (v := .agg #[.int .i64 (b / 2), .bool (Bd.st b)]) (by simp [results, Try.results45, Bd.st, go_sem]) rfl ⟨rfl, (Below.refl _ _).alloc (Nat.le_refl _) _⟩

theorem told_any (c : Int) (s : Bool) (h : Num.okB c = true) (w : World) :
    Calls Try.prog 54 #[.agg #[.int .i64 c, .bool s]] w fun e w' => e = .returned (.int .i64 (Bd.mk c s)) ∧ Below w.heap.size w w' := by
  obtain ⟨c1, c2⟩ := Num.okB_iff.1 h
  have h1 := i64_or1 c (by omega) (by omega)
  clear h
  cases s
  · go_enter Try.func54, Try.ntmps54
    go_wp2
    go_ret
    exact ⟨ret_int (by simp [Bd.mk]), (Below.refl _ _).alloc (Nat.le_refl _) _⟩
  · go_enter Try.func54, Try.ntmps54
    go_wp2
    go_ret
    exact ⟨ret_int (by simp [Bd.mk]), (Below.refl _ _).alloc (Nat.le_refl _) _⟩

theorem made_any (c : Int) (s : Bool) (w : World) :
    Calls Try.prog 44 #[.agg #[.int .i64 c, .bool s]] w fun e w' => e = .returned (.tuple #[.int .i64 (Bd.made c s).1, .int .i64 (Bd.made c s).2]) ∧ Below w.heap.size w w' := by
  have hB := (Below.refl w.heap.size w).alloc (Nat.le_refl _) (.cells #[.int .i64 c, .bool s] 66)
  cases h : Num.okB c with
  | true =>
    have e1 := Num.chk_yes h
    have hr := Lib.hid (Bd.made_yes (s := s) h)
    have H := Lib.hid h
    clear h
    go_enter Try.func44, Try.ntmps44
    go_wp2_with (first
      | (go_at_call 18; refine (check_any _ _).mono ?_; rintro e w' ⟨rfl, rfl⟩)
      | (go_at_call 54; refine (from_here (told_any _ _ H.out _) hB).mono ?_; rintro e w' ⟨rfl, hB1⟩))
    go_ret2
    exact ⟨tup2 hr.out rfl rfl, by assumption⟩
  | false =>
    have e1 := Num.chk_no h
    have hr := Lib.hid (Bd.made_no (s := s) h)
    clear h
    go_enter Try.func44, Try.ntmps44
    go_wp2_with (first
      | (go_at_call 18; refine (check_any _ _).mono ?_; rintro e w' ⟨rfl, rfl⟩))
    go_ret2
    exact ⟨tup2 hr.out rfl rfl, by assumption⟩

theorem field_c (c : Int) (s : Bool) : ∀ w : World, (Instr.field 66 (.agg #[.int .i64 c, .bool s]) 0).run Try.prog w = .ok (.int .i64 c) w := fun _ => by kernel_rfl

theorem bcheck_any (b : Int) (w : World) :
    Calls Try.prog 40 #[.int .i64 b] w fun e w' => e = .returned (.int .i64 (Bd.chk b)) ∧ Below w.heap.size w w' := by
  have hB := Below.refl w.heap.size w
  by_cases hn : b = 9223372036854775807
  · subst hn
    have hr := Lib.hid (Bd.chk_yes Bd.may_none)
    go_enter Try.func40, Try.ntmps40
    go_wp2
    go_ret
    exact ⟨ret_int hr.out.symm, by assumption⟩
  · have hn1 : (b == 9223372036854775807) = false := by simpa using hn
    have hn2 : (b != 9223372036854775807) = true := by simpa using hn
    have hf := field_c (b / 2) (Bd.st b)
    cases h : Num.okB (b / 2) with
    | true =>
      have e1 := Num.chk_yes h
      have hr := Lib.hid (Bd.chk_yes (Bd.may_of h))
      clear h hn
      go_enter Try.func40, Try.ntmps40
      go_wp2_with (first
        | (go_at_call 18; refine (check_any _ _).mono ?_; rintro e w' ⟨rfl, rfl⟩)
        | (go_at_call 45; refine (from_here (of_any _ _) (by assumption)).mono ?_; rintro e w' ⟨rfl, hB1⟩))
      go_ret
      exact ⟨ret_int hr.out.symm, by assumption⟩
    | false =>
      have e1 := Num.chk_no h
      have hr := Lib.hid (Bd.chk_no (b := b) (by simp [Bd.may, h, hn]))
      clear h hn
      go_enter Try.func40, Try.ntmps40
      go_wp2_with (first
        | (go_at_call 18; refine (check_any _ _).mono ?_; rintro e w' ⟨rfl, rfl⟩)
        | (go_at_call 45; refine (from_here (of_any _ _) (by assumption)).mono ?_; rintro e w' ⟨rfl, hB1⟩))
      go_ret
      exact ⟨ret_int hr.out.symm, by assumption⟩

theorem most_any (c : Int) (w : World) :
    Calls Try.prog 28 #[.int .i64 c] w fun e w' => e = .returned (.tuple #[.int .i64 (Bd.made c false).1, .int .i64 (Bd.made c false).2]) ∧ Below w.heap.size w w' := by
  go_enter Try.func28, Try.ntmps28
  go_wp2_with (go_at_call 44; refine (made_any _ _ _).mono ?_; rintro e w' ⟨rfl, hB1⟩)
  go_ret2
  exact ⟨rfl, by assumption⟩

theorem less_any (c : Int) (w : World) :
    Calls Try.prog 29 #[.int .i64 c] w fun e w' => e = .returned (.tuple #[.int .i64 (Bd.made c true).1, .int .i64 (Bd.made c true).2]) ∧ Below w.heap.size w w' := by
  go_enter Try.func29, Try.ntmps29
  go_wp2_with (go_at_call 44; refine (made_any _ _ _).mono ?_; rintro e w' ⟨rfl, hB1⟩)
  go_ret2
  exact ⟨rfl, by assumption⟩

theorem tup3 {k : IntKind} {a c : Int} {b : Bool} {d f : Int} {g : Bool} {x : Int × Bool × Int} (h : x = (a, b, c)) (h1 : d = a) (h2 : g = b) (h3 : f = c) : Ending.returned (.tuple #[.int k d, .bool g, .int k f]) = Ending.returned (.tuple #[.int k x.1, .bool x.2.1, .int k x.2.2]) := by rw [h, h1, h2, h3]

theorem value_any (b : Int) (w : World) :
    Calls Try.prog 30 #[.int .i64 b] w fun e w' => e = .returned (.tuple #[.int .i64 (Bd.value b).1, .bool (Bd.value b).2.1, .int .i64 (Bd.value b).2.2]) ∧ Below w.heap.size w w' := by
  have hB := Below.refl w.heap.size w
  cases h : Bd.may b with
  | false =>
    have e1 := Bd.chk_no h
    have hr := Lib.hid (Bd.value_bad h)
    clear h
    go_enter Try.func30, Try.ntmps30
    go_wp2_with (go_at_call 40; refine (from_here (bcheck_any _ _) (by assumption)).mono ?_; rintro e w' ⟨rfl, hB1⟩)
    go_ret3
    exact ⟨tup3 hr.out rfl rfl rfl, by assumption⟩
  | true =>
    have e1 := Bd.chk_yes h
    by_cases hn : b = 9223372036854775807
    · subst hn
      have hr := Lib.hid Bd.value_none
      clear h
      go_enter Try.func30, Try.ntmps30
      go_wp2_with (go_at_call 40; refine (from_here (bcheck_any _ _) (by assumption)).mono ?_; rintro e w' ⟨rfl, hB1⟩)
      go_ret3
      exact ⟨tup3 hr.out rfl rfl rfl, by assumption⟩
    · have hn1 : (b == 9223372036854775807) = false := by simpa using hn
      have hr := Lib.hid (Bd.value_yes h hn)
      clear h hn
      go_enter Try.func30, Try.ntmps30
      go_wp2_with (first
        | (go_at_call 40; refine (from_here (bcheck_any _ _) (by assumption)).mono ?_; rintro e w' ⟨rfl, hB1⟩)
        | (go_at_call 45; refine (from_here (of_any _ _) (by assumption)).mono ?_; rintro e w' ⟨rfl, hB2⟩))
      go_quiet (fail)
      go_wp2
      go_ret3
      exact ⟨tup3 hr.out rfl rfl rfl, below_drewN (hB2.alloc hB2.size _) _⟩

theorem badd_any (a b : Int) (w : World) :
    Calls Try.prog 33 #[.int .i64 a, .int .i64 b] w fun e w' => e = .returned (.tuple #[.int .i64 (Bd.add a b).1, .int .i64 (Bd.add a b).2]) ∧ Below w.heap.size w w' := by
  have hB := Below.refl w.heap.size w
  cases ha : Bd.may a with
  | false =>
    have e1 := Bd.chk_no ha
    have hr := Lib.hid (Bd.add_bad (b := b) (.inl ha))
    clear ha
    go_enter Try.func33, Try.ntmps33
    go_wp2_with (go_at_call 40; refine (from_here (bcheck_any _ _) (by assumption)).mono ?_; rintro e w' ⟨rfl, hB1⟩)
    go_ret2
    exact ⟨tup2 hr.out rfl rfl, by assumption⟩
  | true =>
    have e1 := Bd.chk_yes ha
    cases hb : Bd.may b with
    | false =>
      have e2 := Bd.chk_no hb
      have hr := Lib.hid (Bd.add_bad (a := a) (.inr hb))
      clear ha hb
      go_enter Try.func33, Try.ntmps33
      go_wp2_with (go_at_call 40; refine (from_here (bcheck_any _ _) (by assumption)).mono ?_; rintro e w' ⟨rfl, hB1⟩)
      go_ret2
      exact ⟨tup2 hr.out rfl rfl, by assumption⟩
    | true =>
      have e2 := Bd.chk_yes hb
      by_cases na : a = 9223372036854775807
      · have hr := Lib.hid (Bd.add_none ha hb (.inl na))
        subst na
        clear ha hb
        go_enter Try.func33, Try.ntmps33
        go_wp2_with (go_at_call 40; refine (from_here (bcheck_any _ _) (by assumption)).mono ?_; rintro e w' ⟨rfl, hB1⟩)
        go_ret2
        exact ⟨tup2 hr.out rfl rfl, by assumption⟩
      · have na1 : (a == 9223372036854775807) = false := by simpa using na
        by_cases nb : b = 9223372036854775807
        · have hr := Lib.hid (Bd.add_none ha hb (.inr nb))
          subst nb
          clear ha hb na
          go_enter Try.func33, Try.ntmps33
          go_wp2_with (go_at_call 40; refine (from_here (bcheck_any _ _) (by assumption)).mono ?_; rintro e w' ⟨rfl, hB1⟩)
          go_ret2
          exact ⟨tup2 hr.out rfl rfl, by assumption⟩
        · have nb1 : (b == 9223372036854775807) = false := by simpa using nb
          have hr := Lib.hid (Bd.add_yes ha hb na nb)
          obtain ⟨a1, a2⟩ := Num.okB_iff.1 (Bd.okB_of_may ha na)
          obtain ⟨b1, b2⟩ := Num.okB_iff.1 (Bd.okB_of_may hb nb)
          clear ha hb na nb
          cases hs : Bd.st a
          all_goals
            go_enter Try.func33, Try.ntmps33
            go_wp2_with (first
              | (go_at_call 40; refine (from_here (bcheck_any _ _) (by assumption)).mono ?_; rintro e w' ⟨rfl, hB1⟩)
              | (go_at_call 45; refine (from_here (of_any _ _) (by assumption)).mono ?_; rintro e w' ⟨rfl, hB1⟩)
              | (go_at_call 44; refine (from_here (made_any _ _ _) (by repeat (first | assumption | apply below_al))).mono ?_; rintro e w' ⟨rfl, hB3⟩))
            go_ret2
            exact ⟨by rw [hr.out, hs]; rfl, by assumption⟩

theorem bnot_any (b : Int) (w : World) :
    Calls Try.prog 32 #[.int .i64 b] w fun e w' => e = .returned (.tuple #[.int .i64 (Bd.not b).1, .int .i64 (Bd.not b).2]) ∧ Below w.heap.size w w' := by
  have hB := Below.refl w.heap.size w
  cases h : Bd.may b with
  | false =>
    have e1 := Bd.value_bad h
    have hr := Lib.hid (Bd.not_bad (b := b) (by rw [e1]; decide))
    clear h
    go_enter Try.func32, Try.ntmps32
    go_wp2_with (go_at_call 30; refine (from_here (value_any _ _) (by assumption)).mono ?_; rintro e w' ⟨rfl, hB1⟩)
    go_ret2
    exact ⟨by rw [hr.out, e1]; rfl, by assumption⟩
  | true =>
    by_cases hn : b = 9223372036854775807
    · subst hn
      have e1 := Bd.value_none
      have hr := Lib.hid (Bd.not_bad (b := 9223372036854775807) (by rw [e1]; decide))
      clear h
      go_enter Try.func32, Try.ntmps32
      go_wp2_with (go_at_call 30; refine (from_here (value_any _ _) (by assumption)).mono ?_; rintro e w' ⟨rfl, hB1⟩)
      go_ret2
      exact ⟨by rw [hr.out, e1]; rfl, by assumption⟩
    · have e1 := Bd.value_yes h hn
      have hr := Lib.hid (Bd.not_yes h hn)
      obtain ⟨b1, b2⟩ := Num.okB_iff.1 (Bd.okB_of_may h hn)
      clear h hn
      go_enter Try.func32, Try.ntmps32
      go_wp2_with (first
        | (go_at_call 30; refine (from_here (value_any _ _) (by assumption)).mono ?_; rintro e w' ⟨rfl, hB1⟩)
        | (go_at_call 44; refine (from_here (made_any _ _ _) (by assumption)).mono ?_; rintro e w' ⟨rfl, hB3⟩))
      go_ret2
      exact ⟨by rw [hr.out]; rfl, by assumption⟩

theorem btup {k : IntKind} {c d : Int} {a b : Bool} {x : Bool × Int} (h : x = (a, d)) (h1 : b = a) (h2 : c = d) : Ending.returned (.tuple #[.bool b, .int k c]) = Ending.returned (.tuple #[.bool x.1, .int k x.2]) := by rw [h, h1, h2]

theorem bkeeps_any (d b : Int) (w : World) :
    Calls Try.prog 31 #[.int .i64 d, .int .i64 b] w fun e w' => e = .returned (.tuple #[.bool (Bd.keeps d b).1, .int .i64 (Bd.keeps d b).2]) ∧ Below w.heap.size w w' := by
  have hB := Below.refl w.heap.size w
  cases hd : Num.okB d with
  | false =>
    have e1 := Bd.made_no (s := false) hd
    have hr := Lib.hid (Bd.keeps_over (b := b) hd)
    clear hd
    go_enter Try.func31, Try.ntmps31
    go_wp2_with (go_at_call 28; refine (from_here (most_any _ _) (by assumption)).mono ?_; rintro e w' ⟨rfl, hB1⟩)
    go_ret2
    exact ⟨btup hr.out rfl rfl, by assumption⟩
  | true =>
    have e1 := Bd.made_yes (s := false) hd
    cases h : Bd.may b with
    | false =>
      have e2 := Bd.chk_no h
      have hr := Lib.hid (Bd.keeps_bad hd h)
      clear hd h
      go_enter Try.func31, Try.ntmps31
      go_wp2_with (first
        | (go_at_call 28; refine (from_here (most_any _ _) (by assumption)).mono ?_; rintro e w' ⟨rfl, hB1⟩)
        | (go_at_call 40; refine (from_here (bcheck_any _ _) (by assumption)).mono ?_; rintro e w' ⟨rfl, hB1⟩))
      go_ret2
      exact ⟨btup hr.out rfl rfl, by assumption⟩
    | true =>
      have e2 := Bd.chk_yes h
      have hr := Lib.hid (Bd.keeps_yes hd h)
      clear hd h
      go_enter Try.func31, Try.ntmps31
      go_wp2_with (first
        | (go_at_call 28; refine (from_here (most_any _ _) (by assumption)).mono ?_; rintro e w' ⟨rfl, hB1⟩)
        | (go_at_call 40; refine (from_here (bcheck_any _ _) (by assumption)).mono ?_; rintro e w' ⟨rfl, hB1⟩))
      go_ret2
      exact ⟨btup hr.out rfl rfl, by assumption⟩

end Go.Proofs.Ytcidjmhadpoibaa
