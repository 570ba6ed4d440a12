/-
  Plain laws of bounds of differences: a bound's number and strictness, sums, not a bound, and what keeps one. No program is in sight, but for three laws on the bits of an int64.
-/
import Derived.Laws.BitsLemmas
import Derived.Test.YtdecibfnhceloaaGreatPlainNum
namespace Go.Proofs.YtdecibfnhceloaaGreat
set_option linter.unusedVariables false

theorem i64_and1 (n : Int) : bits .and .i64 n 1 = n % 2 := by
  have h1 : (BitVec.ofInt 64 1).toNat = 2 ^ 1 - 1 := by decide
  have key : (BitVec.ofInt 64 n &&& BitVec.ofInt 64 1).toNat = (n % ((2 ^ 64 : Nat) : Int)).toNat % 2 ^ 1 := by
    rw [BitVec.toNat_and, BitVec.toNat_ofInt, h1, Nat.and_two_pow_sub_one_eq_mod]
  show IntKind.i64.wrap ((BitVec.ofInt 64 n &&& BitVec.ofInt 64 1).toNat : Nat) = n % 2
  rw [key, IntKind.wrap_i64]
  omega

theorem i64_or1 (c : Int) (h1 : -4611686018427387904 ≤ c) (h2 : c ≤ 4611686018427387903) : bits .or .i64 (c * 2) 1 = c * 2 + 1 := by
  rw [Int.mul_comm c 2]
  have e1 : (BitVec.ofInt 64 1).toNat = 1 := by decide
  obtain ⟨m, hm⟩ : ∃ m : Nat, ((2 * c) % ((2 ^ 64 : Nat) : Int)).toNat = 2 * m := ⟨(((2 * c) % ((2 ^ 64 : Nat) : Int)).toNat) / 2, by omega⟩
  have or1 : 2 * m ||| 1 = 2 * m + 1 := by
    have := Nat.shiftLeft_add_eq_or_of_lt (b := 1) (i := 1) (by decide) m
    rw [Nat.shiftLeft_eq] at this
    rw [Nat.mul_comm 2 m]
    simpa using this.symm
  have key : (BitVec.ofInt 64 (2 * c) ||| BitVec.ofInt 64 1).toNat = 2 * m + 1 := by
    rw [BitVec.toNat_or, BitVec.toNat_ofInt, e1, hm, or1]
  show IntKind.i64.wrap ((BitVec.ofInt 64 (2 * c) ||| BitVec.ofInt 64 1).toNat : Nat) = 2 * c + 1
  rw [key, IntKind.wrap_i64]
  omega

namespace Bd
open Num

/-- is a bound (that is not None) strict? -/
def st (b : Int) : Bool := b % 2 == 0
/-- may a bound be? -/
def may (b : Int) : Bool := b == 9223372036854775807 || okB (b / 2)
/-- Check's error. -/
def chk (b : Int) : Int := if may b then 0 else 8
/-- a number's bound. -/
def mk (c : Int) (s : Bool) : Int := if s then c * 2 else c * 2 + 1
def made (c : Int) (s : Bool) : Int × Int := if okB c then (mk c s, 0) else (0, 10)
def value (b : Int) : Int × Bool × Int := if may b then (if b = 9223372036854775807 then (0, false, 6) else (b / 2, st b, 0)) else (0, false, 8)
def add (a b : Int) : Int × Int :=
  if may a && may b then (if a = 9223372036854775807 ∨ b = 9223372036854775807 then (9223372036854775807, 0) else made (a / 2 + b / 2) (st a || st b)) else (0, 8)
def not (b : Int) : Int × Int := if (value b).2.2 = 0 then made (-(value b).1) (!(value b).2.1) else (0, (value b).2.2)
def keeps (d b : Int) : Bool × Int := if okB d then (if may b then (decide (mk d false ≤ b), 0) else (false, 8)) else (false, 10)

theorem chk_yes {b : Int} (h : may b = true) : chk b = 0 := by simp [chk, h]
theorem chk_no {b : Int} (h : may b = false) : chk b = 8 := by simp [chk, h]
theorem may_none : may 9223372036854775807 = true := by decide
theorem may_of {b : Int} (h : okB (b / 2) = true) : may b = true := by simp [may, h]
theorem made_yes {c : Int} {s : Bool} (h : okB c = true) : made c s = (mk c s, 0) := by simp [made, h]
theorem made_no {c : Int} {s : Bool} (h : okB c = false) : made c s = (0, 10) := by simp [made, h]
theorem value_bad {b : Int} (h : may b = false) : value b = (0, false, 8) := by simp [value, h]
theorem value_none : value 9223372036854775807 = (0, false, 6) := by decide
theorem value_yes {b : Int} (h : may b = true) (hn : b ≠ 9223372036854775807) : value b = (b / 2, st b, 0) := by simp [value, h, hn]
theorem okB_of_may {b : Int} (h : may b = true) (hn : b ≠ 9223372036854775807) : okB (b / 2) = true := by simpa [may, hn] using h
theorem add_bad {a b : Int} (h : may a = false ∨ may b = false) : add a b = (0, 8) := by rcases h with h | h <;> simp [add, h]
theorem add_none {a b : Int} (ha : may a = true) (hb : may b = true) (h : a = 9223372036854775807 ∨ b = 9223372036854775807) : add a b = (9223372036854775807, 0) := by simp [add, ha, hb, h]
theorem add_yes {a b : Int} (ha : may a = true) (hb : may b = true) (na : a ≠ 9223372036854775807) (nb : b ≠ 9223372036854775807) : add a b = made (a / 2 + b / 2) (st a || st b) := by simp [add, ha, hb, na, nb]
theorem not_bad {b : Int} (h : (value b).2.2 ≠ 0) : not b = (0, (value b).2.2) := by simp [not, h]
theorem not_yes {b : Int} (h : may b = true) (hn : b ≠ 9223372036854775807) : not b = made (-(b / 2)) (!(st b)) := by simp [not, value_yes h hn]
theorem keeps_over {d b : Int} (h : okB d = false) : keeps d b = (false, 10) := by simp [keeps, h]
theorem keeps_bad {d b : Int} (h : okB d = true) (hb : may b = false) : keeps d b = (false, 8) := by simp [keeps, h, hb]
theorem keeps_yes {d b : Int} (h : okB d = true) (hb : may b = true) : keeps d b = (decide (mk d false ≤ b), 0) := by simp [keeps, h, hb]

/-- a bound is made of its number and its strictness. -/
theorem mk_self (b : Int) : mk (b / 2) (st b) = b := by
  unfold mk st
  by_cases h : b % 2 = 0
  · simp [h]; omega
  · simp [h]; omega
theorem half_mk (c : Int) (s : Bool) : mk c s / 2 = c := by cases s <;> simp [mk] <;> omega
theorem st_mk (c : Int) (s : Bool) : st (mk c s) = s := by cases s <;> simp [mk, st] <;> omega

theorem may_made {c : Int} {s : Bool} (h : okB c = true) : may (mk c s) = true := may_of (by rw [half_mk]; exact h)
theorem made_ne {c : Int} {s : Bool} (h : okB c = true) : mk c s ≠ 9223372036854775807 := by
  have := okB_iff.1 h
  cases s <;> simp [mk] <;> omega
theorem value_made {c : Int} {s : Bool} (h : okB c = true) : value (mk c s) = (c, s, 0) := by rw [value_yes (may_made h) (made_ne h), half_mk, st_mk]
theorem keeps_made {c d : Int} {s : Bool} (h : okB c = true) (hd : okB d = true) : keeps d (mk c s) = (if s then decide (d < c) else decide (d ≤ c), 0) := by
  rw [keeps_yes hd (may_made h)]
  congr 1
  cases s
  · simp only [mk, Bool.false_eq_true, if_false]; rw [decide_eq_decide]; omega
  · simp only [mk, Bool.false_eq_true, if_false, if_true]; rw [decide_eq_decide]; omega
theorem not_not {a : Int} (h : may a = true) (hn : a ≠ 9223372036854775807) : not a = (mk (-(a / 2)) (!(st a)), 0) ∧ not (mk (-(a / 2)) (!(st a))) = (a, 0) := by
  have ho := okB_of_may h hn
  have ho2 : okB (-(a / 2)) = true := by rw [okB_neg]; exact ho
  refine ⟨by rw [not_yes h hn, made_yes ho2], ?_⟩
  rw [not_yes (may_made ho2) (made_ne ho2), half_mk, st_mk, Int.neg_neg, Bool.not_not, made_yes ho, mk_self]
theorem keeps_not {a d : Int} (h : may a = true) (hn : a ≠ 9223372036854775807) (hd : okB d = true) : keeps (-d) (mk (-(a / 2)) (!(st a))) = (!(keeps d a).1, 0) := by
  have ho := okB_of_may h hn
  have ho2 : okB (-(a / 2)) = true := by rw [okB_neg]; exact ho
  rw [keeps_made ho2 (by rw [okB_neg]; exact hd), keeps_yes hd h]
  congr 1
  conv => rhs; rw [← mk_self a]
  cases hs : st a
  · simp only [mk, Bool.not_false, Bool.false_eq_true, if_true, if_false]
    rw [← decide_not, decide_eq_decide]; omega
  · simp only [mk, Bool.not_true, Bool.false_eq_true, if_true, if_false]
    rw [← decide_not, decide_eq_decide]; omega
theorem keeps_mono {a b d : Int} (h : a ≤ b) (ha : keeps d a = (true, 0)) (hb : (keeps d b).2 = 0) : keeps d b = (true, 0) := by
  cases hd : okB d with
  | false => rw [keeps_over hd] at ha; cases ha
  | true =>
    cases h1 : may a with
    | false => rw [keeps_bad hd h1] at ha; cases ha
    | true =>
      cases h2 : may b with
      | false => rw [keeps_bad hd h2] at hb; cases hb
      | true =>
        rw [keeps_yes hd h1] at ha
        rw [keeps_yes hd h2]
        simp only [Prod.mk.injEq, decide_eq_true_eq, and_true] at ha
        simp only [Prod.mk.injEq, decide_eq_true_eq, and_true]
        omega

/-- when a sum is answered. -/
theorem add_ok {a b s : Int} (h : add a b = (s, 0)) : may a = true ∧ may b = true ∧
    (((a = 9223372036854775807 ∨ b = 9223372036854775807) ∧ s = 9223372036854775807) ∨ (a ≠ 9223372036854775807 ∧ b ≠ 9223372036854775807 ∧ okB (a / 2 + b / 2) = true ∧ s = mk (a / 2 + b / 2) (st a || st b))) := by
  cases ha : may a with
  | false => rw [add_bad (.inl ha)] at h; cases h
  | true =>
    cases hb : may b with
    | false => rw [add_bad (.inr hb)] at h; cases h
    | true =>
      refine ⟨rfl, rfl, ?_⟩
      by_cases hn : a = 9223372036854775807 ∨ b = 9223372036854775807
      · rw [add_none ha hb hn] at h
        simp only [Prod.mk.injEq, and_true] at h
        exact .inl ⟨hn, h.symm⟩
      · have na : a ≠ 9223372036854775807 := fun e => hn (.inl e)
        have nb : b ≠ 9223372036854775807 := fun e => hn (.inr e)
        rw [add_yes ha hb na nb] at h
        cases ho : okB (a / 2 + b / 2) with
        | false => rw [made_no ho] at h; cases h
        | true =>
          rw [made_yes ho] at h
          simp only [Prod.mk.injEq, and_true] at h
          exact .inr ⟨na, nb, rfl, h.symm⟩
theorem add_err {a b : Int} (h : (add a b).2 ≠ 0) : (add a b).1 = 0 := by
  unfold add at *
  split
  · rename_i h1
    rw [if_pos h1] at h
    split
    · rename_i h2; rw [if_pos h2] at h; exact absurd rfl h
    · rename_i h2
      rw [if_neg h2] at h
      unfold made at *
      split
      · rename_i h3; rw [if_pos h3] at h; exact absurd rfl h
      · rfl
  · rfl
theorem add_comm (a b : Int) : add a b = add b a := by
  unfold add
  rw [Bool.and_comm (may a), Int.add_comm (a / 2), Bool.or_comm (st a)]
  split
  · by_cases h : a = 9223372036854775807 ∨ b = 9223372036854775807
    · rw [if_pos h, if_pos (Or.symm h)]
    · rw [if_neg h, if_neg (fun e => h (Or.symm e))]
  · rfl
theorem may_add {a b s : Int} (h : add a b = (s, 0)) : may s = true := by
  obtain ⟨_, _, ⟨_, rfl⟩ | ⟨_, _, ho, rfl⟩⟩ := add_ok h
  · exact may_none
  · exact may_made ho
theorem add_assoc {a b c s p q : Int} (h1 : add a b = (s, 0)) (h2 : add s c = (p, 0)) (h3 : add b c = (q, 0)) : add a q = (p, 0) := by
  obtain ⟨ma, mb, c1⟩ := add_ok h1
  obtain ⟨ms, mc, c2⟩ := add_ok h2
  obtain ⟨_, _, c3⟩ := add_ok h3
  have mq := may_add h3
  by_cases na : a = 9223372036854775807
  · rw [add_none ma mq (.inl na)]
    rcases c1 with ⟨_, e1⟩ | ⟨n, _⟩
    · rcases c2 with ⟨_, rfl⟩ | ⟨n, _⟩
      · rfl
      · exact absurd e1 n
    · exact absurd na n
  · rcases c3 with ⟨hn, e3⟩ | ⟨nb, nc, o3, e3⟩
    · rw [add_none ma mq (.inr e3)]
      rcases c2 with ⟨_, rfl⟩ | ⟨ns, nc, _⟩
      · rfl
      · rcases hn with hb | hc
        · rcases c1 with ⟨_, e1⟩ | ⟨_, nb, _⟩
          · exact absurd e1 ns
          · exact absurd hb nb
        · exact absurd hc nc
    · rcases c1 with ⟨h, _⟩ | ⟨_, _, o1, e1⟩
      · rcases h with h | h
        · exact absurd h na
        · exact absurd h nb
      · subst e1
        subst e3
        rcases c2 with ⟨h, _⟩ | ⟨_, _, o2, e2⟩
        · rcases h with h | h
          · exact absurd h (made_ne o1)
          · exact absurd h nc
        · rw [half_mk, st_mk] at e2
          rw [half_mk] at o2
          rw [add_yes ma mq na (made_ne o3), half_mk, st_mk, ← Int.add_assoc, ← Bool.or_assoc, made_yes o2, e2]
theorem add_keeps {a b s x y n : Int} (h : add a b = (s, 0)) (hx : keeps x a = (true, 0)) (hy : keeps y b = (true, 0)) (hn : Num.add x y = (n, 0)) : keeps n s = (true, 0) := by
  obtain ⟨ma, mb, c1⟩ := add_ok h
  have ms := may_add h
  cases ox : okB x with
  | false => rw [keeps_over ox] at hx; cases hx
  | true =>
  cases oy : okB y with
  | false => rw [keeps_over oy] at hy; cases hy
  | true =>
  cases on : okB (x + y) with
  | false => rw [Num.add_no (.inr (.inr on))] at hn; cases hn
  | true =>
  rw [Num.add_yes ox oy on] at hn
  simp only [Prod.mk.injEq, and_true] at hn
  subst hn
  rw [keeps_yes on ms]
  have b3 := okB_iff.1 on
  rw [keeps_yes ox ma] at hx
  rw [keeps_yes oy mb] at hy
  simp only [Prod.mk.injEq, decide_eq_true_eq, and_true] at hx hy
  simp only [Prod.mk.injEq, decide_eq_true_eq, and_true]
  rcases c1 with ⟨_, rfl⟩ | ⟨_, _, o1, rfl⟩
  · simp only [mk, Bool.false_eq_true, if_false]; omega
  · rw [← mk_self a] at hx
    rw [← mk_self b] at hy
    cases h1 : st a <;> cases h2 : st b <;> simp only [h1, h2, mk, Bool.or_self, Bool.or_true, Bool.or_false, Bool.false_eq_true, if_true, if_false] at hx hy ⊢ <;> omega

end Bd
end Go.Proofs.YtdecibfnhceloaaGreat
