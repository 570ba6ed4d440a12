/-
  The contracts of num.Add, Neg, Sub and Clamp, at every argument.
-/
import Derived.Test.YtcidjmhadpoibaaNum
namespace Go.Proofs.Ytcidjmhadpoibaa
set_option linter.unusedVariables false
open Go.RowKit

/-- a call that turns nothing below its own heap turns nothing below an earlier one. -/
theorem from_here {P : Program} {f : FuncId} {args : Array Value} {w W0 : World} {x : Ending} (h : Calls P f args w (fun e w' => e = x ∧ Below w.heap.size w w')) (h0 : Below W0.heap.size W0 w) :
    Calls P f args w (fun e w' => e = x ∧ Below W0.heap.size W0 w') := h.mono fun _ _ ⟨he, hb⟩ => ⟨he, h0.trans (hb.mono h0.size)⟩

theorem below_al {W w : World} {o : Obj} (h : Below W.heap.size W w) : Below W.heap.size W (w.alloc o) := h.alloc h.size o
theorem below_dr {W w : World} (h : Below W.heap.size W w) : Below W.heap.size W w.drew := h.drew
theorem below_drn {W w : World} {n : Nat} (h : Below W.heap.size W w) : Below W.heap.size W (w.drewN n) := h.trans ⟨rfl, rfl, rfl, Nat.le_refl _, fun _ _ => rfl⟩
theorem ints_two (w : World) (a b : Int) (t : TypeId) : Ints (w.alloc (.cells #[.int .i64 a, .int .i64 b] t)).heap.size (w.alloc (.cells #[.int .i64 a, .int .i64 b] t)) (.slice (some ⟨w.heap.size, 0, none⟩) 2 2) [a, b] :=
  .inr ⟨w.heap.size, 0, 2, rfl, by simp, fun j hj => by
    have hj' : j < 2 := hj
    match j, hj' with
    | 0, _ => simp
    | 1, _ => simp⟩
theorem ret_int {k : IntKind} {a b : Int} (h : a = b) : Ending.returned (.int k a) = Ending.returned (.int k b) := by rw [h]
theorem tup2 {k : IntKind} {a b c d : Int} {x : Int × Int} (h : x = (a, b)) (h1 : c = a) (h2 : d = b) : Ending.returned (.tuple #[.int k c, .int k d]) = Ending.returned (.tuple #[.int k x.1, .int k x.2]) := by rw [h, h1, h2]

theorem add_any (a b : Int) (w : World) :
    Calls Try.prog 17 #[.int .i64 a, .int .i64 b] w fun e w' => e = .returned (.tuple #[.int .i64 (Num.add a b).1, .int .i64 (Num.add a b).2]) ∧ Below w.heap.size w w' := by
  cases h : Num.okB a with
  | true =>
    have e1 := Num.chk_yes h
    have HS := Lib.hid (Num.add_of_sum (b := b) h)
    clear h
    go_enter Try.func17, Try.ntmps17
    go_wp2_with (first | (go_at_call 18; refine (check_any _ _).mono ?_; rintro e w' ⟨rfl, rfl⟩) | (go_at_call 14; refine (sum_any _ _ _ [a, b] (by simp) _ (ints_two _ _ _ _)).mono ?_; rintro e w' ⟨rfl, hB⟩))
    go_ret2
    exact ⟨tup2 HS.out.symm rfl rfl, ((Below.refl _ w).alloc (Nat.le_refl _) _).trans (hB.mono (by simp))⟩
  | false =>
    have e1 := Num.chk_no h
    have HS := Lib.hid (Num.add_no (a := a) (b := b) (.inl h))
    clear h
    go_enter Try.func17, Try.ntmps17
    go_wp2_with (go_at_call 18; refine (check_any _ _).mono ?_; rintro e w' ⟨rfl, rfl⟩)
    go_ret2
    exact ⟨tup2 HS.out rfl rfl, Below.refl _ _⟩

theorem neg_any (a : Int) (w : World) :
    Calls Try.prog 20 #[.int .i64 a] w fun e w' => e = .returned (.tuple #[.int .i64 (Num.neg a).1, .int .i64 (Num.neg a).2]) ∧ w = w' := by
  cases h : Num.okB a with
  | true =>
    have e1 := Num.chk_yes h
    obtain ⟨h1, h2⟩ := Num.okB_iff.1 h
    have hr := Lib.hid (Num.neg_yes h)
    clear h
    go_enter Try.func20, Try.ntmps20
    go_wp2_with (go_at_call 18; refine (check_any _ _).mono ?_; rintro e w' ⟨rfl, rfl⟩)
    go_ret2
    exact ⟨tup2 hr.out rfl rfl, rfl⟩
  | false =>
    have e1 := Num.chk_no h
    have hr := Lib.hid (Num.neg_no h)
    clear h
    go_enter Try.func20, Try.ntmps20
    go_wp2_with (go_at_call 18; refine (check_any _ _).mono ?_; rintro e w' ⟨rfl, rfl⟩)
    go_ret2
    exact ⟨tup2 hr.out rfl rfl, rfl⟩

theorem clamp_any (a : Int) (w : World) :
    Calls Try.prog 21 #[.int .i64 a] w fun e w' => e = .returned (.int .i64 (Num.clamp a)) ∧ w = w' := by
  by_cases h1 : a < -2305843009213693952
  · go_enter Try.func21, Try.ntmps21
    go_wp2
    go_ret
    exact ⟨by simp [Num.clamp, h1], rfl⟩
  · by_cases h2 : 2305843009213693952 < a
    · go_enter Try.func21, Try.ntmps21
      go_wp2
      go_ret
      exact ⟨by simp [Num.clamp, h1, h2], rfl⟩
    · go_enter Try.func21, Try.ntmps21
      go_wp2
      go_ret
      exact ⟨ret_int (by rw [Num.clamp, if_neg (by omega), if_neg (by omega)]), rfl⟩

theorem sub_any (a b : Int) (w : World) :
    Calls Try.prog 19 #[.int .i64 a, .int .i64 b] w fun e w' => e = .returned (.tuple #[.int .i64 (Num.sub a b).1, .int .i64 (Num.sub a b).2]) ∧ Below w.heap.size w w' := by
  cases h : Num.okB b with
  | true =>
    have e1 := Num.neg_yes h
    have HS : Hid (Num.sub a b = Num.add a (-b)) := Lib.hid (by simp [Num.sub, h])
    go_enter Try.func19, Try.ntmps19
    go_wp2_with (first | (go_at_call 20; refine (neg_any _ _).mono ?_; rintro e w' ⟨rfl, rfl⟩) | (go_at_call 17; refine (add_any _ _ _).mono ?_; rintro e w' ⟨rfl, hB⟩))
    go_ret2
    exact ⟨tup2 (show Num.sub a b = ((Num.add a (-b)).1, (Num.add a (-b)).2) from HS.out) rfl rfl, hB⟩
  | false =>
    have e1 := Num.neg_no h
    have HS := Lib.hid (show Num.sub a b = (0, 10) by simp [Num.sub, h])
    go_enter Try.func19, Try.ntmps19
    go_wp2_with (first | (go_at_call 20; refine (neg_any _ _).mono ?_; rintro e w' ⟨rfl, rfl⟩))
    go_ret2
    exact ⟨tup2 HS.out rfl rfl, Below.refl _ _⟩

end Go.Proofs.Ytcidjmhadpoibaa
