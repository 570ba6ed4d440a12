/-
  The contracts of the reference of chapter 2 (rallentandoref02), at every bound that is an int64, and every number.
-/
import Derived.Test.YtcidjmhadpoibaaRefNum
import Derived.Test.YtcidjmhadpoibaaBound
namespace Go.Proofs.Ytcidjmhadpoibaa
set_option linter.unusedVariables false
open Go.RowKit

theorem tmod2_even {b : Int} (h : b % 2 = 0) : b.tmod 2 = 0 := Int.tmod_eq_zero_of_dvd (Int.dvd_of_emod_eq_zero h)
theorem tmod2_odd {b : Int} (h : ¬ b % 2 = 0) : (b.tmod 2 == 0) = false := by
  simp only [beq_eq_false_iff_ne, ne_eq]
  intro e
  exact h (Int.emod_eq_zero_of_dvd (Int.dvd_of_tmod_eq_zero e))
theorem tdiv2_even {b : Int} (h : b % 2 = 0) : b.tdiv 2 = b / 2 := by
  obtain ⟨k, rfl⟩ := Int.dvd_of_emod_eq_zero h
  rw [Int.mul_tdiv_cancel_left _ (by decide), Int.mul_ediv_cancel_left _ (by decide)]

theorem rnumber_any (b : Int) (hlo : -9223372036854775808 ≤ b) (hhi : b ≤ 9223372036854775807) (w : World) :
    Calls Try.prog 48 #[.int .i64 b] w fun e w' => e = .returned (.int .i64 (b / 2)) ∧ w = w' := by
  by_cases h : b % 2 = 0
  · have h1 := tmod2_even h
    have h2 := Lib.hid (tdiv2_even h)
    clear h
    go_enter Try.func48, Try.ntmps48
    go_wp2
    go_ret
    exact ⟨ret_int h2.out, rfl⟩
  · have h1 := tmod2_odd h
    have h3 : (b.tmod 2 != 0) = true := by simp only [bne, h1]; rfl
    have h2 := Lib.hid (show (b - 1).tdiv 2 = b / 2 by rw [tdiv2_even (by omega)]; omega)
    have h4 : -9223372036854775808 ≤ b - 1 := by omega
    clear h
    go_enter Try.func48, Try.ntmps48
    go_wp2
    go_ret
    exact ⟨ret_int h2.out, rfl⟩

theorem rstrict_any (b : Int) (w : World) :
    Calls Try.prog 49 #[.int .i64 b] w fun e w' => e = .returned (.bool (Bd.st b)) ∧ w = w' := by
  by_cases h : b % 2 = 0
  · have h1 := tmod2_even h
    have hr := Lib.hid (show Bd.st b = true by simp [Bd.st, h])
    clear h
    go_enter Try.func49, Try.ntmps49
    go_wp2
    go_ret
    exact ⟨by rw [hr.out]; rfl, rfl⟩
  · have h1 := tmod2_odd h
    have hr := Lib.hid (show Bd.st b = false by simp [Bd.st, h])
    clear h
    go_enter Try.func49, Try.ntmps49
    go_wp2
    go_ret
    exact ⟨by rw [hr.out]; rfl, rfl⟩

theorem rmade_any (c : Int) (s : Bool) (h1 : -4611686018427387904 ≤ c) (h2 : c ≤ 4611686018427387903) (w : World) :
    Calls Try.prog 46 #[.int .i64 c, .bool s] w fun e w' => e = .returned (.int .i64 (Bd.mk c s)) ∧ w = w' := by
  cases s
  all_goals
    go_enter Try.func46, Try.ntmps46
    go_wp2
    go_ret
    exact ⟨ret_int (by simp [Bd.mk]; omega), rfl⟩

theorem rbmay_any (b : Int) (hlo : -9223372036854775808 ≤ b) (hhi : b ≤ 9223372036854775807) (w : World) :
    Calls Try.prog 47 #[.int .i64 b] w fun e w' => e = .returned (.bool (Bd.may b)) ∧ w = w' := by
  by_cases hn : b = 9223372036854775807
  · subst hn
    have hr := Lib.hid Bd.may_none
    go_enter Try.func47, Try.ntmps47
    go_wp2
    go_ret
    exact ⟨by rw [hr.out]; rfl, rfl⟩
  · have hn1 : (b == 9223372036854775807) = false := by simpa using hn
    have hr := Lib.hid (show Bd.may b = Num.okB (b / 2) by simp [Bd.may, hn1])
    clear hn
    go_enter Try.func47, Try.ntmps47
    go_wp2_with (first
      | (go_at_call 48; refine (rnumber_any _ hlo hhi _).mono ?_; rintro e w' ⟨rfl, rfl⟩)
      | (go_at_call 43; refine (may_any _ _).mono ?_; rintro e w' ⟨rfl, rfl⟩))
    go_ret
    exact ⟨by rw [hr.out]; rfl, rfl⟩

theorem rbcheck_any (b : Int) (hlo : -9223372036854775808 ≤ b) (hhi : b ≤ 9223372036854775807) (w : World) :
    Calls Try.prog 41 #[.int .i64 b] w fun e w' => e = .returned (.int .i64 (Bd.chk b)) ∧ w = w' := by
  cases h : Bd.may b with
  | true =>
    have hr := Lib.hid (Bd.chk_yes h)
    go_enter Try.func41, Try.ntmps41
    go_wp2_with (go_at_call 47; refine (rbmay_any _ hlo hhi _).mono ?_; rintro e w' ⟨rfl, rfl⟩)
    go_ret
    exact ⟨ret_int hr.out.symm, rfl⟩
  | false =>
    have hr := Lib.hid (Bd.chk_no h)
    go_enter Try.func41, Try.ntmps41
    go_wp2_with (go_at_call 47; refine (rbmay_any _ hlo hhi _).mono ?_; rintro e w' ⟨rfl, rfl⟩)
    go_ret
    exact ⟨ret_int hr.out.symm, rfl⟩

theorem rmost_any (c : Int) (w : World) :
    Calls Try.prog 34 #[.int .i64 c] w fun e w' => e = .returned (.tuple #[.int .i64 (Bd.made c false).1, .int .i64 (Bd.made c false).2]) ∧ w = w' := by
  cases h : Num.okB c with
  | true =>
    obtain ⟨c1, c2⟩ := Num.okB_iff.1 h
    have hr := Lib.hid (Bd.made_yes (s := false) h)
    go_enter Try.func34, Try.ntmps34
    go_wp2_with (first
      | (go_at_call 43; refine (may_any _ _).mono ?_; rintro e w' ⟨rfl, rfl⟩)
      | (go_at_call 46; refine (rmade_any _ _ (by omega) (by omega) _).mono ?_; rintro e w' ⟨rfl, rfl⟩))
    go_ret2
    exact ⟨tup2 hr.out rfl rfl, rfl⟩
  | false =>
    have hr := Lib.hid (Bd.made_no (s := false) h)
    go_enter Try.func34, Try.ntmps34
    go_wp2_with (go_at_call 43; refine (may_any _ _).mono ?_; rintro e w' ⟨rfl, rfl⟩)
    go_ret2
    exact ⟨tup2 hr.out rfl rfl, rfl⟩

theorem rless_any (c : Int) (w : World) :
    Calls Try.prog 35 #[.int .i64 c] w fun e w' => e = .returned (.tuple #[.int .i64 (Bd.made c true).1, .int .i64 (Bd.made c true).2]) ∧ w = w' := by
  cases h : Num.okB c with
  | true =>
    obtain ⟨c1, c2⟩ := Num.okB_iff.1 h
    have hr := Lib.hid (Bd.made_yes (s := true) h)
    go_enter Try.func35, Try.ntmps35
    go_wp2_with (first
      | (go_at_call 43; refine (may_any _ _).mono ?_; rintro e w' ⟨rfl, rfl⟩)
      | (go_at_call 46; refine (rmade_any _ _ (by omega) (by omega) _).mono ?_; rintro e w' ⟨rfl, rfl⟩))
    go_ret2
    exact ⟨tup2 hr.out rfl rfl, rfl⟩
  | false =>
    have hr := Lib.hid (Bd.made_no (s := true) h)
    go_enter Try.func35, Try.ntmps35
    go_wp2_with (go_at_call 43; refine (may_any _ _).mono ?_; rintro e w' ⟨rfl, rfl⟩)
    go_ret2
    exact ⟨tup2 hr.out rfl rfl, rfl⟩

theorem rvalue_any (b : Int) (hlo : -9223372036854775808 ≤ b) (hhi : b ≤ 9223372036854775807) (w : World) :
    Calls Try.prog 36 #[.int .i64 b] w fun e w' => e = .returned (.tuple #[.int .i64 (Bd.value b).1, .bool (Bd.value b).2.1, .int .i64 (Bd.value b).2.2]) ∧ w = w' := by
  cases h : Bd.may b with
  | false =>
    have hr := Lib.hid (Bd.value_bad h)
    go_enter Try.func36, Try.ntmps36
    go_wp2_with (go_at_call 47; refine (rbmay_any _ hlo hhi _).mono ?_; rintro e w' ⟨rfl, rfl⟩)
    go_ret3
    exact ⟨tup3 hr.out rfl rfl rfl, rfl⟩
  | true =>
    by_cases hn : b = 9223372036854775807
    · subst hn
      have hr := Lib.hid Bd.value_none
      go_enter Try.func36, Try.ntmps36
      go_wp2_with (go_at_call 47; refine (rbmay_any _ hlo hhi _).mono ?_; rintro e w' ⟨rfl, rfl⟩)
      go_ret3
      exact ⟨tup3 hr.out rfl rfl rfl, rfl⟩
    · have hn1 : (b == 9223372036854775807) = false := by simpa using hn
      have hr := Lib.hid (Bd.value_yes h hn)
      clear hn
      go_enter Try.func36, Try.ntmps36
      go_wp2_with (first
        | (go_at_call 47; refine (rbmay_any _ hlo hhi _).mono ?_; rintro e w' ⟨rfl, rfl⟩)
        | (go_at_call 48; refine (rnumber_any _ hlo hhi _).mono ?_; rintro e w' ⟨rfl, rfl⟩)
        | (go_at_call 49; refine (rstrict_any _ _).mono ?_; rintro e w' ⟨rfl, rfl⟩))
      go_ret3
      exact ⟨tup3 hr.out rfl rfl rfl, rfl⟩

/-- Sum: the sum, and whether it may be, of two bounds that may be. -/
def Bd.sum (a b : Int) : Int × Bool :=
  if a = 9223372036854775807 ∨ b = 9223372036854775807 then (9223372036854775807, true) else if Num.okB (a / 2 + b / 2) then (Bd.mk (a / 2 + b / 2) (Bd.st a || Bd.st b), true) else (0, false)

theorem ibtup {k : IntKind} {c d : Int} {a b : Bool} {x : Int × Bool} (h : x = (d, a)) (h1 : b = a) (h2 : c = d) : Ending.returned (.tuple #[.int k c, .bool b]) = Ending.returned (.tuple #[.int k x.1, .bool x.2]) := by rw [h, h1, h2]

theorem rbsum_any (a b : Int) (ha : Bd.may a = true) (hb : Bd.may b = true) (alo : -9223372036854775808 ≤ a) (ahi : a ≤ 9223372036854775807) (blo : -9223372036854775808 ≤ b) (bhi : b ≤ 9223372036854775807) (w : World) :
    Calls Try.prog 50 #[.int .i64 a, .int .i64 b] w fun e w' => e = .returned (.tuple #[.int .i64 (Bd.sum a b).1, .bool (Bd.sum a b).2]) ∧ w = w' := by
  by_cases na : a = 9223372036854775807
  · have hr := Lib.hid (show Bd.sum a b = (9223372036854775807, true) by simp [Bd.sum, na])
    subst na
    clear ha hb
    go_enter Try.func50, Try.ntmps50
    go_wp2
    go_ret2
    exact ⟨ibtup hr.out rfl rfl, rfl⟩
  · have na1 : (a == 9223372036854775807) = false := by simpa using na
    by_cases nb : b = 9223372036854775807
    · have hr := Lib.hid (show Bd.sum a b = (9223372036854775807, true) by simp [Bd.sum, nb])
      subst nb
      clear ha hb na
      go_enter Try.func50, Try.ntmps50
      go_wp2
      go_ret2
      exact ⟨ibtup hr.out rfl rfl, rfl⟩
    · have nb1 : (b == 9223372036854775807) = false := by simpa using nb
      obtain ⟨a1, a2⟩ := Num.okB_iff.1 (Bd.okB_of_may ha na)
      obtain ⟨b1, b2⟩ := Num.okB_iff.1 (Bd.okB_of_may hb nb)
      cases hs : Num.okB (a / 2 + b / 2) with
      | false =>
        have hr := Lib.hid (show Bd.sum a b = (0, false) by simp [Bd.sum, na, nb, hs])
        clear ha hb na nb
        go_enter Try.func50, Try.ntmps50
        go_wp2_with (first
          | (go_at_call 48; refine (rnumber_any _ (by assumption) (by assumption) _).mono ?_; rintro e w' ⟨rfl, rfl⟩)
          | (go_at_call 43; refine (may_any _ _).mono ?_; rintro e w' ⟨rfl, rfl⟩))
        go_ret2
        exact ⟨ibtup hr.out rfl rfl, rfl⟩
      | true =>
        have hr := Lib.hid (show Bd.sum a b = (Bd.mk (a / 2 + b / 2) (Bd.st a || Bd.st b), true) by simp [Bd.sum, na, nb, hs])
        obtain ⟨s1, s2⟩ := Num.okB_iff.1 hs
        clear ha hb na nb
        cases hst : Bd.st a
        all_goals
          go_enter Try.func50, Try.ntmps50
          go_wp2_with (first
            | (go_at_call 48; refine (rnumber_any _ (by assumption) (by assumption) _).mono ?_; rintro e w' ⟨rfl, rfl⟩)
            | (go_at_call 49; refine (rstrict_any _ _).mono ?_; rintro e w' ⟨rfl, rfl⟩)
            | (go_at_call 46; refine (rmade_any _ _ (by omega) (by omega) _).mono ?_; rintro e w' ⟨rfl, rfl⟩)
            | (go_at_call 43; refine (may_any _ _).mono ?_; rintro e w' ⟨rfl, rfl⟩))
          go_ret2
          exact ⟨ibtup hr.out rfl (by rw [hst]; rfl), rfl⟩

theorem Bd.add_sum {a b : Int} (ha : Bd.may a = true) (hb : Bd.may b = true) : Bd.add a b = if (Bd.sum a b).2 then ((Bd.sum a b).1, 0) else (0, 10) := by
  by_cases h : a = 9223372036854775807 ∨ b = 9223372036854775807
  · simp [Bd.add, Bd.sum, ha, hb, h]
  · cases hs : Num.okB (a / 2 + b / 2) <;> simp [Bd.add, Bd.sum, ha, hb, h, Bd.made, hs]

theorem rbadd_any (a b : Int) (alo : -9223372036854775808 ≤ a) (ahi : a ≤ 9223372036854775807) (blo : -9223372036854775808 ≤ b) (bhi : b ≤ 9223372036854775807) (w : World) :
    Calls Try.prog 37 #[.int .i64 a, .int .i64 b] w fun e w' => e = .returned (.tuple #[.int .i64 (Bd.add a b).1, .int .i64 (Bd.add a b).2]) ∧ w = w' := by
  cases ha : Bd.may a with
  | false =>
    have hr := Lib.hid (Bd.add_bad (b := b) (.inl ha))
    go_enter Try.func37, Try.ntmps37
    go_wp2_with (go_at_call 47; refine (rbmay_any _ (by assumption) (by assumption) _).mono ?_; rintro e w' ⟨rfl, rfl⟩)
    go_ret2
    exact ⟨tup2 hr.out rfl rfl, rfl⟩
  | true =>
    cases hb : Bd.may b with
    | false =>
      have hr := Lib.hid (Bd.add_bad (a := a) (.inr hb))
      go_enter Try.func37, Try.ntmps37
      go_wp2_with (go_at_call 47; refine (rbmay_any _ (by assumption) (by assumption) _).mono ?_; rintro e w' ⟨rfl, rfl⟩)
      go_ret2
      exact ⟨tup2 hr.out rfl rfl, rfl⟩
    | true =>
      have HA := Lib.hid ha
      have HB := Lib.hid hb
      have hr := Lib.hid (Bd.add_sum ha hb)
      cases hs : (Bd.sum a b).2 with
      | false =>
        have HS := Lib.hid hs
        go_enter Try.func37, Try.ntmps37
        go_wp2_with (first
          | (go_at_call 47; refine (rbmay_any _ (by assumption) (by assumption) _).mono ?_; rintro e w' ⟨rfl, rfl⟩)
          | (go_at_call 50; refine (rbsum_any _ _ HA.out HB.out (by assumption) (by assumption) (by assumption) (by assumption) _).mono ?_; rintro e w' ⟨rfl, rfl⟩))
        go_ret2
        exact ⟨by rw [hr.out, HS.out]; rfl, rfl⟩
      | true =>
        have HS := Lib.hid hs
        go_enter Try.func37, Try.ntmps37
        go_wp2_with (first
          | (go_at_call 47; refine (rbmay_any _ (by assumption) (by assumption) _).mono ?_; rintro e w' ⟨rfl, rfl⟩)
          | (go_at_call 50; refine (rbsum_any _ _ HA.out HB.out (by assumption) (by assumption) (by assumption) (by assumption) _).mono ?_; rintro e w' ⟨rfl, rfl⟩))
        go_ret2
        exact ⟨by rw [hr.out, HS.out]; rfl, rfl⟩

theorem rother_any (b : Int) (h1 : -4611686018427387903 ≤ b / 2) (h2 : b / 2 ≤ 4611686018427387903) (w : World) :
    Calls Try.prog 51 #[.int .i64 b] w fun e w' => e = .returned (.int .i64 (Bd.mk (-(b / 2)) (!(Bd.st b)))) ∧ w = w' := by
  go_enter Try.func51, Try.ntmps51
  go_wp2_with (first
    | (go_at_call 48; refine (rnumber_any _ (by omega) (by omega) _).mono ?_; rintro e w' ⟨rfl, rfl⟩)
    | (go_at_call 49; refine (rstrict_any _ _).mono ?_; rintro e w' ⟨rfl, rfl⟩)
    | (go_at_call 46; refine (rmade_any _ _ (by omega) (by omega) _).mono ?_; rintro e w' ⟨rfl, rfl⟩))
  go_ret
  exact ⟨rfl, rfl⟩

theorem rbnot_any (b : Int) (hlo : -9223372036854775808 ≤ b) (hhi : b ≤ 9223372036854775807) (w : World) :
    Calls Try.prog 38 #[.int .i64 b] w fun e w' => e = .returned (.tuple #[.int .i64 (Bd.not b).1, .int .i64 (Bd.not b).2]) ∧ w = w' := by
  cases h : Bd.may b with
  | false =>
    have e1 := Bd.value_bad h
    have hr := Lib.hid (Bd.not_bad (b := b) (by rw [e1]; decide))
    clear h
    go_enter Try.func38, Try.ntmps38
    go_wp2_with (go_at_call 36; refine (rvalue_any _ hlo hhi _).mono ?_; rintro e w' ⟨rfl, rfl⟩)
    go_ret2
    exact ⟨by rw [hr.out, e1]; rfl, rfl⟩
  | true =>
    by_cases hn : b = 9223372036854775807
    · subst hn
      have e1 := Bd.value_none
      have hr := Lib.hid (Bd.not_bad (b := 9223372036854775807) (by rw [e1]; decide))
      clear h
      go_enter Try.func38, Try.ntmps38
      go_wp2_with (go_at_call 36; refine (rvalue_any _ hlo hhi _).mono ?_; rintro e w' ⟨rfl, rfl⟩)
      go_ret2
      exact ⟨by rw [hr.out, e1]; rfl, rfl⟩
    · have e1 := Bd.value_yes h hn
      have ho := Bd.okB_of_may h hn
      have hr := Lib.hid ((Bd.not_yes h hn).trans (Bd.made_yes (by rw [Num.okB_neg]; exact ho)))
      obtain ⟨b1, b2⟩ := Num.okB_iff.1 ho
      clear h hn ho
      go_enter Try.func38, Try.ntmps38
      go_wp2_with (first
        | (go_at_call 36; refine (rvalue_any _ hlo hhi _).mono ?_; rintro e w' ⟨rfl, rfl⟩)
        | (go_at_call 51; refine (rother_any _ (by omega) (by omega) _).mono ?_; rintro e w' ⟨rfl, rfl⟩))
      go_ret2
      exact ⟨by rw [hr.out]; rfl, rfl⟩

/-- is a bound kept by a difference? -/
def Bd.kept (d b : Int) : Bool := if b = 9223372036854775807 then true else decide (d < b / 2) || (decide (d = b / 2) && !(Bd.st b))
theorem Bd.keeps_kept {d b : Int} (hd : Num.okB d = true) (hb : Bd.may b = true) : Bd.keeps d b = (Bd.kept d b, 0) := by
  have h1 := Num.okB_iff.1 hd
  rw [Bd.keeps_yes hd hb]
  by_cases hn : b = 9223372036854775807
  · subst hn
    have : Bd.mk d false ≤ 9223372036854775807 := by simp only [Bd.mk]; split <;> omega
    simp [Bd.kept, this]
  · congr 1
    rw [Bd.kept, if_neg hn]
    by_cases hp : b % 2 = 0
    · have e1 : Bd.st b = true := by simp [Bd.st, hp]
      rw [e1, Bool.eq_iff_iff]
      simp only [Bd.mk, Bool.false_eq_true, if_false, decide_eq_true_eq, Bool.not_true, Bool.and_false, Bool.or_false]
      omega
    · have e1 : Bd.st b = false := by simp [Bd.st, hp]
      rw [e1, Bool.eq_iff_iff]
      simp only [Bd.mk, Bool.false_eq_true, if_false, decide_eq_true_eq, Bool.not_false, Bool.and_true, Bool.or_eq_true]
      omega

theorem rkept_any (d b : Int) (hlo : -9223372036854775808 ≤ b) (hhi : b ≤ 9223372036854775807) (w : World) :
    Calls Try.prog 52 #[.int .i64 d, .int .i64 b] w fun e w' => e = .returned (.bool (Bd.kept d b)) ∧ w = w' := by
  by_cases hn : b = 9223372036854775807
  · have hr := Lib.hid (show Bd.kept d b = true by simp [Bd.kept, hn])
    subst hn
    go_enter Try.func52, Try.ntmps52
    go_wp2
    go_ret
    exact ⟨by rw [hr.out]; rfl, rfl⟩
  · have hn1 : (b == 9223372036854775807) = false := by simpa using hn
    by_cases h1 : d < b / 2
    · have hr := Lib.hid (show Bd.kept d b = true by simp [Bd.kept, hn, h1])
      clear hn
      go_enter Try.func52, Try.ntmps52
      go_wp2_with (go_at_call 48; refine (rnumber_any _ hlo hhi _).mono ?_; rintro e w' ⟨rfl, rfl⟩)
      go_ret
      exact ⟨by rw [hr.out]; rfl, rfl⟩
    · have h1b : decide (d < b / 2) = false := by simpa using h1
      by_cases h2 : d = b / 2
      · have hr := Lib.hid (show Bd.kept d b = !(Bd.st b) by simp [Bd.kept, hn, h2])
        have h3 : (d == b / 2) = true := by simpa using h2
        clear hn h2 h1
        go_enter Try.func52, Try.ntmps52
        go_wp2_with (first
          | (go_at_call 48; refine (rnumber_any _ hlo hhi _).mono ?_; rintro e w' ⟨rfl, rfl⟩)
          | (go_at_call 49; refine (rstrict_any _ _).mono ?_; rintro e w' ⟨rfl, rfl⟩))
        go_ret
        exact ⟨by rw [hr.out]; rfl, rfl⟩
      · have hr := Lib.hid (show Bd.kept d b = false by simp [Bd.kept, hn, h1, h2])
        have h3 : (d == b / 2) = false := by simpa using h2
        clear hn h2 h1
        go_enter Try.func52, Try.ntmps52
        go_wp2_with (first
          | (go_at_call 48; refine (rnumber_any _ hlo hhi _).mono ?_; rintro e w' ⟨rfl, rfl⟩)
          | (go_at_call 49; refine (rstrict_any _ _).mono ?_; rintro e w' ⟨rfl, rfl⟩))
        go_ret
        exact ⟨by rw [hr.out]; rfl, rfl⟩

theorem rkeeps_any (d b : Int) (hlo : -9223372036854775808 ≤ b) (hhi : b ≤ 9223372036854775807) (w : World) :
    Calls Try.prog 39 #[.int .i64 d, .int .i64 b] w fun e w' => e = .returned (.tuple #[.bool (Bd.keeps d b).1, .int .i64 (Bd.keeps d b).2]) ∧ w = w' := by
  cases hd : Num.okB d with
  | false =>
    have hr := Lib.hid (Bd.keeps_over (b := b) hd)
    go_enter Try.func39, Try.ntmps39
    go_wp2_with (go_at_call 43; refine (may_any _ _).mono ?_; rintro e w' ⟨rfl, rfl⟩)
    go_ret2
    exact ⟨btup hr.out rfl rfl, rfl⟩
  | true =>
    cases h : Bd.may b with
    | false =>
      have hr := Lib.hid (Bd.keeps_bad hd h)
      go_enter Try.func39, Try.ntmps39
      go_wp2_with (first
        | (go_at_call 43; refine (may_any _ _).mono ?_; rintro e w' ⟨rfl, rfl⟩)
        | (go_at_call 47; refine (rbmay_any _ hlo hhi _).mono ?_; rintro e w' ⟨rfl, rfl⟩))
      go_ret2
      exact ⟨btup hr.out rfl rfl, rfl⟩
    | true =>
      have hr := Lib.hid (Bd.keeps_kept hd h)
      go_enter Try.func39, Try.ntmps39
      go_wp2_with (first
        | (go_at_call 43; refine (may_any _ _).mono ?_; rintro e w' ⟨rfl, rfl⟩)
        | (go_at_call 52; refine (rkept_any _ _ hlo hhi _).mono ?_; rintro e w' ⟨rfl, rfl⟩)
        | (go_at_call 47; refine (rbmay_any _ hlo hhi _).mono ?_; rintro e w' ⟨rfl, rfl⟩))
      go_ret2
      exact ⟨btup hr.out rfl rfl, rfl⟩

end Go.Proofs.Ytcidjmhadpoibaa
