/-
  The contracts of the reference of chapter 1 (rallentandoref01): what May, Check, Add, Sub, Neg, Clamp and Sum give at every argument.
-/
import Derived.Test.YtcidjmhadpoibaaNumMore
namespace Go.Proofs.Ytcidjmhadpoibaa
set_option linter.unusedVariables false
open Go.RowKit

theorem may_any (a : Int) (w : World) :
    Calls Try.prog 43 #[.int .i64 a] w fun e w' => e = .returned (.bool (Num.okB a)) ∧ w = w' := by
  by_cases h1 : -2305843009213693952 ≤ a
  · by_cases h2 : a ≤ 2305843009213693952
    · have hr := Lib.hid (Num.okB_iff.2 ⟨h1, h2⟩)
      go_enter Try.func43, Try.ntmps43
      go_wp2
      go_ret
      exact ⟨by rw [hr.out]; rfl, rfl⟩
    · have hr := Lib.hid (Num.okB_no.2 (.inr (Int.not_le.1 h2)))
      go_enter Try.func43, Try.ntmps43
      go_wp2
      go_ret
      exact ⟨by rw [hr.out]; rfl, rfl⟩
  · have hr := Lib.hid (Num.okB_no.2 (.inl (Int.not_le.1 h1)))
    go_enter Try.func43, Try.ntmps43
    go_wp2
    go_ret
    exact ⟨by rw [hr.out]; rfl, rfl⟩

theorem rcheck_any (a : Int) (w : World) :
    Calls Try.prog 25 #[.int .i64 a] w fun e w' => e = .returned (.int .i64 (Num.chk a)) ∧ w = w' := by
  cases h : Num.okB a with
  | true =>
    have hr := Lib.hid (Num.chk_yes h)
    go_enter Try.func25, Try.ntmps25
    go_wp2_with (go_at_call 43; refine (may_any _ _).mono ?_; rintro e w' ⟨rfl, rfl⟩)
    go_ret
    exact ⟨by rw [hr.out]; rfl, rfl⟩
  | false =>
    have hr := Lib.hid (Num.chk_no h)
    go_enter Try.func25, Try.ntmps25
    go_wp2_with (go_at_call 43; refine (may_any _ _).mono ?_; rintro e w' ⟨rfl, rfl⟩)
    go_ret
    exact ⟨by rw [hr.out]; rfl, rfl⟩

theorem rneg_any (a : Int) (w : World) :
    Calls Try.prog 24 #[.int .i64 a] w fun e w' => e = .returned (.tuple #[.int .i64 (Num.neg a).1, .int .i64 (Num.neg a).2]) ∧ w = w' := by
  cases h : Num.okB a with
  | true =>
    obtain ⟨h1, h2⟩ := Num.okB_iff.1 h
    have hr := Lib.hid (Num.neg_yes h)
    go_enter Try.func24, Try.ntmps24
    go_wp2_with (go_at_call 43; refine (may_any _ _).mono ?_; rintro e w' ⟨rfl, rfl⟩)
    go_ret2
    exact ⟨tup2 hr.out (by omega) rfl, rfl⟩
  | false =>
    have hr := Lib.hid (Num.neg_no h)
    go_enter Try.func24, Try.ntmps24
    go_wp2_with (go_at_call 43; refine (may_any _ _).mono ?_; rintro e w' ⟨rfl, rfl⟩)
    go_ret2
    exact ⟨tup2 hr.out rfl rfl, rfl⟩

theorem radd_any (a b : Int) (w : World) :
    Calls Try.prog 22 #[.int .i64 a, .int .i64 b] w fun e w' => e = .returned (.tuple #[.int .i64 (Num.add a b).1, .int .i64 (Num.add a b).2]) ∧ w = w' := by
  cases h1 : Num.okB a with
  | false =>
    have hr := Lib.hid (Num.add_no (a := a) (b := b) (.inl h1))
    go_enter Try.func22, Try.ntmps22
    go_wp2_with (go_at_call 43; refine (may_any _ _).mono ?_; rintro e w' ⟨rfl, rfl⟩)
    go_ret2
    exact ⟨tup2 hr.out rfl rfl, rfl⟩
  | true =>
    cases h2 : Num.okB b with
    | false =>
      have hr := Lib.hid (Num.add_no (a := a) (b := b) (.inr (.inl h2)))
      go_enter Try.func22, Try.ntmps22
      go_wp2_with (go_at_call 43; refine (may_any _ _).mono ?_; rintro e w' ⟨rfl, rfl⟩)
      go_ret2
      exact ⟨tup2 hr.out rfl rfl, rfl⟩
    | true =>
      obtain ⟨a1, a2⟩ := Num.okB_iff.1 h1
      obtain ⟨b1, b2⟩ := Num.okB_iff.1 h2
      cases h3 : Num.okB (a + b) with
      | false =>
        have hr := Lib.hid (Num.add_no (a := a) (b := b) (.inr (.inr h3)))
        go_enter Try.func22, Try.ntmps22
        go_wp2_with (go_at_call 43; refine (may_any _ _).mono ?_; rintro e w' ⟨rfl, rfl⟩)
        go_ret2
        exact ⟨tup2 hr.out rfl rfl, rfl⟩
      | true =>
        have hr := Lib.hid (Num.add_yes (a := a) (b := b) h1 h2 h3)
        go_enter Try.func22, Try.ntmps22
        go_wp2_with (go_at_call 43; refine (may_any _ _).mono ?_; rintro e w' ⟨rfl, rfl⟩)
        go_ret2
        exact ⟨tup2 hr.out rfl rfl, rfl⟩

theorem rsub_any (a b : Int) (w : World) :
    Calls Try.prog 23 #[.int .i64 a, .int .i64 b] w fun e w' => e = .returned (.tuple #[.int .i64 (Num.sub a b).1, .int .i64 (Num.sub a b).2]) ∧ w = w' := by
  cases h1 : Num.okB a with
  | false =>
    have hr := Lib.hid (Num.sub_no (a := a) (b := b) (.inl h1))
    go_enter Try.func23, Try.ntmps23
    go_wp2_with (go_at_call 43; refine (may_any _ _).mono ?_; rintro e w' ⟨rfl, rfl⟩)
    go_ret2
    exact ⟨tup2 hr.out rfl rfl, rfl⟩
  | true =>
    cases h2 : Num.okB b with
    | false =>
      have hr := Lib.hid (Num.sub_no (a := a) (b := b) (.inr (.inl h2)))
      go_enter Try.func23, Try.ntmps23
      go_wp2_with (go_at_call 43; refine (may_any _ _).mono ?_; rintro e w' ⟨rfl, rfl⟩)
      go_ret2
      exact ⟨tup2 hr.out rfl rfl, rfl⟩
    | true =>
      obtain ⟨a1, a2⟩ := Num.okB_iff.1 h1
      obtain ⟨b1, b2⟩ := Num.okB_iff.1 h2
      cases h3 : Num.okB (a - b) with
      | false =>
        have hr := Lib.hid (Num.sub_no (a := a) (b := b) (.inr (.inr h3)))
        go_enter Try.func23, Try.ntmps23
        go_wp2_with (go_at_call 43; refine (may_any _ _).mono ?_; rintro e w' ⟨rfl, rfl⟩)
        go_ret2
        exact ⟨tup2 hr.out rfl rfl, rfl⟩
      | true =>
        have hr := Lib.hid (Num.sub_yes (a := a) (b := b) h1 h2 h3)
        go_enter Try.func23, Try.ntmps23
        go_wp2_with (go_at_call 43; refine (may_any _ _).mono ?_; rintro e w' ⟨rfl, rfl⟩)
        go_ret2
        exact ⟨tup2 hr.out rfl rfl, rfl⟩

theorem rclamp_any (a : Int) (w : World) :
    Calls Try.prog 26 #[.int .i64 a] w fun e w' => e = .returned (.int .i64 (Num.clamp a)) ∧ w = w' := by
  by_cases h1 : a < -2305843009213693952
  · have h2 : a ≤ 2305843009213693952 := by omega
    go_enter Try.func26, Try.ntmps26
    go_wp2
    go_ret
    exact ⟨ret_int (by rw [Num.clamp, if_pos (by omega)]), rfl⟩
  · by_cases h2 : 2305843009213693952 < a
    · go_enter Try.func26, Try.ntmps26
      go_wp2
      go_ret
      exact ⟨ret_int (by rw [Num.clamp, if_neg (by omega), if_pos (by omega)]), rfl⟩
    · go_enter Try.func26, Try.ntmps26
      go_wp2
      go_ret
      exact ⟨ret_int (by rw [Num.clamp, if_neg (by omega), if_neg (by omega)]), rfl⟩

set_option maxHeartbeats 400000 in
theorem rsum_any (a : Option Addr) (len cap : Nat) (zs : List Int) (hlen : zs.length = len) (hbig : zs.length ≤ 10000) (w : World) (hI : Ints w.heap.size w (.slice a len cap) zs) :
    Calls Try.prog 15 #[.slice a len cap] w fun e w' => e = .returned (.tuple #[.int .i64 (Num.sumFrom 0 zs).1, .int .i64 (Num.sumFrom 0 zs).2]) ∧ w = w' := by
  rcases hI with ⟨a', cap', he, _, rfl⟩ | ⟨b, off, cap', he, hb, hc⟩
  · injection he with h1 h2 h3
    subst h1; subst h2; subst h3
    clear hlen hbig
    go_enter Try.func15, Try.ntmps15
    go_wp2
    go_loop [4, 5] (fun t i => i = .int .i64 0 ∧ t = .int .i64 0) (fun _ _ => 0)
    case atStart => exact ⟨rfl, rfl⟩
    case round =>
      obtain ⟨rfl, rfl⟩ := hrel
      go_wp2
      go_ret2
      exact ⟨rfl, rfl⟩
  · injection he with h1 h2 h3
    subst h1; subst h2; subst h3
    clear hlen
    go_enter Try.func15, Try.ntmps15
    go_wp2
    go_loop [4, 5] (fun t i => ∃ (k : Nat) (s : Int), k ≤ zs.length ∧ t = .int .i64 s ∧ i = .int .i64 k ∧ Num.sumFrom 0 zs = Num.sumFrom s (zs.drop k) ∧ Num.okB s = true) (fun _ i => zs.length - (intOf i).toNat)
    case atStart => exact ⟨0, 0, Nat.zero_le _, rfl, rfl, by simp, rfl⟩
    case round =>
      obtain ⟨k, s, hk, rfl, rfl, hO, hs⟩ := hrel
      have HO := Lib.hid hO; clear hO
      have HS := Lib.hid hs; clear hs
      by_cases hlt : k < zs.length
      · have hcx := hc k hlt
        clear hc
        obtain ⟨x, hx⟩ : ∃ x, zs[k]?.getD 0 = x := ⟨_, rfl⟩
        have hd : zs.drop k = x :: zs.drop (k + 1) := by rw [List.drop_eq_getElem_cons hlt, ← hx]; simp [hlt]
        rw [hx] at hcx
        have HD := Lib.hid hd; clear hd
        clear hx
        cases h : Num.okB x && Num.okB (s + x) with
        | true =>
          have ha : Num.okB x = true ∧ Num.okB (s + x) = true := by simpa using h
          have hr := Num.add_yes HS.out ha.1 ha.2
          have HR := Lib.hid hr
          have h1 : (Num.add s x).1 = s + x := by rw [hr]
          have h2 : (Num.add s x).2 = 0 := by rw [hr]
          have HA := Lib.hid ha
          have HH := Lib.hid h
          clear hr ha h
          go_wp2_with (go_at_call 22; refine (radd_any _ _ _).mono ?_; rintro e w' ⟨rfl, rfl⟩)
          go_round
          case rel => exact ⟨k + 1, s + x, by omega, rfl, by go_num, by rw [HO.out, HD.out, Num.sumFrom, if_pos HH.out], HA.out.2⟩
          case measure => simp [intOf]; omega
        | false =>
          have hr : Num.add s x = (0, 10) := Num.add_no (by simp at h; right; cases hx : Num.okB x <;> simp_all)
          have HR := Lib.hid hr
          have h1 : (Num.add s x).1 = 0 := by rw [hr]
          have h2 : (Num.add s x).2 = 10 := by rw [hr]
          have HH := Lib.hid h
          clear hr h
          go_wp2_with (go_at_call 22; refine (radd_any _ _ _).mono ?_; rintro e w' ⟨rfl, rfl⟩)
          go_ret2
          exact ⟨tup2 (by rw [HO.out, HD.out, Num.sumFrom, if_neg (by rw [HH.out]; simp)]) rfl rfl, rfl⟩
      · obtain rfl : k = zs.length := by omega
        have hd : zs.drop zs.length = [] := by simp
        have HD := Lib.hid hd; clear hd
        go_wp2
        go_ret2
        exact ⟨tup2 (by rw [HO.out, HD.out, Num.sumFrom]) rfl rfl, rfl⟩

end Go.Proofs.Ytcidjmhadpoibaa
