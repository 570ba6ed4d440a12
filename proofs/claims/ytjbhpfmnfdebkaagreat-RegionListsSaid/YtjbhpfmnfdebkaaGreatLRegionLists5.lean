/-
  Merged texts of this law (each with its own head below).
-/
import Derived.Test.YtjbhpfmnfdebkaaGreatLRegionLists3
import Derived.Test.YtjbhpfmnfdebkaaGreatLRegionLists4
import Derived.Test.YtjbhpfmnfdebkaaGreatLRegionLists1
import Derived.Deep.QuietTactic
import Derived.BigQuiet
import Derived.Sort.Grow
import Derived.Lib.SliceRun
import Derived.RangeFuncBox
import Derived.RangeFuncBound
import Derived.RangeFuncLeaves
import Derived.Shelf.Abstract
import Derived.WalkKit
import Derived.OwnWalkIn
import Derived.TacticsInMore
import Derived.LoopNIn
import Derived.LoopIn
import Derived.Shelf.SlSortCmp.NoneTotal
import Derived.Ground.SlsfProg
import Derived.Test.YtjbhpfmnfdebkaaGreatProg
import Derived.Sort.OwnSorted
import Derived.Shelf.Spec.SlicesGrow
import Derived.Ground.Names8Prog
import Derived.Laws.StructEq
import Derived.Maps.AppendAt
/-
  The document's answer of layer 3, by the engine: Low, Part, common, alone, May.
-/
namespace Go.Proofs.YtjbhpfmnfdebkaaGreat
set_option linter.unusedVariables false
set_option linter.unusedSimpArgs false
set_option maxRecDepth 100000
open Go.RowKit Go.Proofs.YtjbhpfmnfdebkaaGreat.Eng Enc

theorem rlow03_any (n d : Int) (hd : 1 ≤ d) (hn : inK .i64 n) (w : World) :
    Calls Tryz.prog 241 #[.int .i64 n, .int .i64 d] w fun e w' => e = .returned (.int .i64 (n / d)) ∧ Below w.heap.size w w' := by
  refine fun_eq 0 w Tryz.func241 (args := [.val (.int .i64 n), .val (.int .i64 d)]) rfl rfl ?_
  obtain ⟨k1, k2⟩ := Fr.floor_eq (n := n) hd
  have k3 : inK .i64 (n.tdiv d) ∧ (n.tmod d < 0 → inK .i64 (n.tdiv d - 1)) := by
    have hq := Fr.ediv_in hd hn
    refine ⟨?_, fun h => by rw [(k1 h).1]; exact hq⟩
    by_cases h : n.tmod d < 0
    · have e := (k1 h).1
      have h0 : n < 0 := by
        rcases Int.lt_or_le n 0 with h | h'
        · exact h
        · have := Int.tmod_nonneg d h'; omega
      have : n / d < 0 := Int.ediv_neg_of_neg_of_pos h0 (by omega)
      simp only [inK] at hq ⊢; omega
    · rw [(k2 h).1]; exact hq
  refine Need.mk ⟨by omega, k3.1⟩ ?_
  refine Need.mk (by omega) ?_
  refine Branch.mk (fun hb => ?_) (fun hb => ?_)
  · obtain ⟨e1, e2⟩ := k1 (by simpa using hb)
    refine Need.mk (k3.2 (by simpa using hb)) ?_
    exact EndI.mk fun w1 h1 => by rw [e1]
  · obtain ⟨e1, e2⟩ := k2 (by simpa using hb)
    exact EndI.mk fun w1 h1 => by rw [e1]
theorem rpart03_any (n d : Int) (hd : 1 ≤ d) (hd2 : inK .i64 d) (w : World) :
    Calls Tryz.prog 239 #[.int .i64 n, .int .i64 d] w fun e w' => e = .returned (.int .i64 (n % d)) ∧ Below w.heap.size w w' := by
  refine fun_eq 0 w Tryz.func239 (args := [.val (.int .i64 n), .val (.int .i64 d)]) rfl rfl ?_
  obtain ⟨k1, k2⟩ := Fr.floor_eq (n := n) hd
  have k4 := Int.emod_nonneg n (by omega : d ≠ 0)
  have k5 := Int.emod_lt_of_pos n (by omega : 0 < d)
  refine Need.mk (by omega) ?_
  refine Branch.mk (fun hb => ?_) (fun hb => ?_)
  · obtain ⟨e1, e2⟩ := k1 (by simpa using hb)
    refine Need.mk ?_ ?_
    · simp only [inK] at hd2 ⊢; omega
    exact EndI.mk fun w1 h1 => by rw [e2]
  · obtain ⟨e1, e2⟩ := k2 (by simpa using hb)
    exact EndI.mk fun w1 h1 => by rw [e2]
theorem rcommon03_any (a b : Nat) (ha : a < 9223372036854775808) (hb : b < 9223372036854775808) (w : World) :
    Calls Tryz.prog 272 #[.int .i64 (a : Nat), .int .i64 (b : Nat)] w fun e w' => e = .returned (.int .i64 (Nat.gcd a b : Nat)) ∧ Below w.heap.size w w' := by
  refine fun_eq 0 w Tryz.func272 (args := [.val (.int .i64 (a : Nat)), .val (.int .i64 (b : Nat))]) rfl rfl ?_
  refine LoopI.invC (α := (Nat × Nat) × World) (fun y => [(0, .val (.int .i64 y.1.1)), (1, .val (.int .i64 y.1.2))]) (fun y => y.2) (fun y => y.1.1 < 9223372036854775808 ∧ y.1.2 < 9223372036854775808 ∧ Nat.gcd y.1.1 y.1.2 = Nat.gcd a b) (fun y => y.1.2) ?_ ?_
  · intro w1 h1
    exact ⟨((a, b), w1), Cov.mk (by repeat' (first | exact trivial | refine And.intro rfl ?_)) rfl rfl rfl rfl rfl, rfl, ha, hb, rfl⟩
  rintro ⟨⟨x, y⟩, W⟩ ⟨hx, hy, hg⟩
  refine Branch.mk (fun hc => ?_) (fun hc => ?_)
  · have hy0 : 0 < y := by
      have : ¬ y = 0 := by simpa using hc
      omega
    have em : ((x : Int)).tmod y = ((x % y : Nat) : Int) := rfl
    have hm : x % y < y := Nat.mod_lt _ hy0
    refine DrawI.go (.tk 0 (.tk 1 (.tk 2 (.tk 3 (.tk 4 (.tk 5 .done)))))) (by kernel_rfl) fun w1 h1 => ?_
    refine Need.mk ?_ ?_
    · show (y : Int) ≠ 0
      omega
    refine EndI.mk fun w2 h2 => ⟨((y, x % y), w2), Cov.mk (by repeat' (first | exact trivial | refine And.intro rfl ?_)) rfl rfl rfl rfl rfl, rfl, ⟨hy, ?_, ?_⟩, hm⟩
    · exact Nat.lt_trans hm hy
    · refine Eq.trans ?_ hg
      show Nat.gcd y (x % y) = Nat.gcd x y
      rw [Nat.gcd_comm x y, Nat.gcd_comm y (x % y)]; exact (Nat.gcd_rec y x).symm
  · refine EndI.mk fun w1 h1 => ?_
    have hy0 : y = 0 := by simpa using hc
    subst hy0
    rw [← hg]
    simp
/-- the numbers of a fraction have no common divisor but one. -/
def Fr.alone (n d : Int) : Bool := decide (((Nat.gcd (n % d).toNat d.toNat : Nat) : Int) = 1)
theorem ralone_any (n d : Int) (hd : 1 ≤ d) (hd2 : inK .i64 d) (w : World) :
    Calls Tryz.prog 273 #[.agg #[.int .i64 n, .int .i64 d]] w fun e w' => e = .returned (.bool (Fr.alone n d)) ∧ Below w.heap.size w w' := by
  refine fun_eq 0 w Tryz.func273 (args := [.agg [.val (.int .i64 n), .val (.int .i64 d)]]) rfl rfl ?_
  have k4 := Int.emod_nonneg n (by omega : d ≠ 0)
  have k5 := Int.emod_lt_of_pos n (by omega : 0 < d)
  have hc : ∀ w, Calls Tryz.prog 272 #[.int .i64 (n % d), .int .i64 d] w fun e w' => e = .returned (.int .i64 (Nat.gcd (n % d).toNat d.toNat : Nat)) ∧ Below w.heap.size w w' := fun w => by
    simp only [inK] at hd2
    have h := rcommon03_any (n % d).toNat d.toNat (by omega) (by omega) w
    rwa [Int.toNat_of_nonneg k4, Int.toNat_of_nonneg (by omega)] at h
  refine NewI.mk fun b1 hb1 => ?_
  refine DrawI.go (.tk 0 (.tk 1 (.tk 2 (.tk 3 (.tk 5 (.tk 6 (.ev 4 (.ev 7 (.tk 8 (.tk 9 .done)))))))))) (by kernel_rfl) fun w1 h1 => ?_
  apply CallI.use1
  focus (exact fun w2 h2 => rpart03_any n d hd hd2 w2)
  intro w2 v2 h2 hB2
  apply CallI.use1
  focus (exact fun w3 h3 => hc w3)
  intro w3 v3 h3 hB3
  exact EndI.mk fun w9 h9 => rfl
theorem Fr.alone_gcd {n d : Int} (hd : 1 ≤ d) : Fr.alone n d = decide (Nat.gcd n.natAbs d.natAbs = 1) := by
  unfold Fr.alone
  have e : Nat.gcd (n % d).toNat d.toNat = Nat.gcd n.natAbs d.natAbs := by
    have h3 : Int.gcd n d = Int.gcd (n % d) d := by
      conv => lhs; rw [← Int.emod_add_mul_ediv n d, Int.mul_comm d, Int.gcd_add_mul_right_left]
    have h4 := Int.emod_nonneg n (by omega : d ≠ 0)
    have h5 : Nat.gcd n.natAbs d.natAbs = Nat.gcd (n % d).natAbs d.natAbs := h3
    rw [h5, show (n % d).natAbs = (n % d).toNat by omega, show d.natAbs = d.toNat by omega]
  rw [e, decide_eq_decide]
  omega
theorem rmay03_any (x : Rt) (hx : x.ins) (w : World) :
    Calls Tryz.prog 238 #[.agg #[.int .i64 x.num, .int .i64 x.den]] w fun e w' => e = .returned (.bool x.ok) ∧ Below w.heap.size w w' := by
  obtain ⟨n, d⟩ := x
  obtain ⟨hn, hd⟩ := hx
  simp only at hn hd
  unfold Rt.ok Fr.okB Fr.inB
  simp only
  refine fun_eq 0 w Tryz.func238 (args := [.agg [.val (.int .i64 n), .val (.int .i64 d)]]) rfl rfl ?_
  refine NewI.mk fun b1 hb1 => ?_
  refine Branch.mk (fun z1 => ?_) (fun z1 => ?_)
  · have h1 : d < 1 := of_decide_eq_true z1
    refine EndI.mk fun w9 h9 => ?_
    rw [decide_eq_false (by omega : ¬ 1 ≤ d)]; rfl
  have h1 : 1 ≤ d := by have := of_decide_eq_false z1; omega
  refine Branch.mk (fun z2 => ?_) (fun z2 => ?_)
  · have h2 : 1048576 < d := of_decide_eq_true z2
    refine EndI.mk fun w9 h9 => ?_
    rw [decide_eq_false (by omega : ¬ d ≤ 1048576)]; simp
  have h2 : d ≤ 1048576 := by have := of_decide_eq_false z2; omega
  have k4 := Int.emod_nonneg n (by omega : d ≠ 0)
  have k5 := Int.emod_lt_of_pos n (by omega : 0 < d)
  rw [decide_eq_true h1, decide_eq_true h2]
  apply CallI.use1
  focus (exact fun w3 h3 => ralone_any n d h1 hd w3)
  intro w3 v3 h3 hB3
  rw [Fr.alone_gcd h1]
  refine Branch.mk (fun z3 => ?_) (fun z3 => ?_)
  · have h3 : decide (n.natAbs.gcd d.natAbs = 1) = false := by simpa using z3
    refine EndI.mk fun w9 h9 => ?_
    rw [h3]; simp
  have h3 : decide (n.natAbs.gcd d.natAbs = 1) = true := by simpa using z3
  rw [h3]
  clear z1 z2 z3 h3
  apply CallI.use1
  focus (exact fun w4 h4 => rlow03_any n d h1 hn w4)
  intro w4 v4 h4 hB4
  refine Branch.mk (fun z4 => ?_) (fun z4 => ?_)
  · have h4 : -2305843009213693952 ≤ n / d := of_decide_eq_true z4
    rw [decide_eq_true h4]
    refine Branch.mk (fun z5 => ?_) (fun z5 => ?_)
    · have h5 : n / d < 2305843009213693952 := of_decide_eq_true z5
      refine EndI.mk fun w9 h9 => ?_
      rw [decide_eq_true h5]; rfl
    have h5 : ¬ n / d < 2305843009213693952 := of_decide_eq_false z5
    rw [decide_eq_false h5]
    refine Branch.mk (fun z6 => ?_) (fun z6 => ?_)
    · rw [z6]
      apply CallI.use1
      focus (exact fun w5 h5 => rpart03_any n d h1 hd w5)
      intro w5 v5 h5 hB5
      exact EndI.mk fun w9 h9 => by simp
    · rw [z6]
      exact EndI.mk fun w9 h9 => rfl
  · have h4 : ¬ -2305843009213693952 ≤ n / d := of_decide_eq_false z4
    refine EndI.mk fun w9 h9 => ?_
    rw [decide_eq_false h4]; rfl
theorem cmpR_low {a b : Rt} (ha : a.ok = true) (hb : b.ok = true) : Fr.cmpR a b = if a.num / a.den = b.num / b.den then cmpI (a.num % a.den * b.den) (b.num % b.den * a.den) else cmpI (a.num / a.den) (b.num / b.den) := by
  have h1 := Fr.ok_bd ha
  have h2 := Fr.ok_bd hb
  have e1 := Int.emod_add_mul_ediv a.num a.den
  have e2 := Int.emod_add_mul_ediv b.num b.den
  unfold Fr.cmpR cmpI
  generalize a.num / a.den = x at *
  generalize b.num / b.den = y at *
  generalize a.num % a.den = r at *
  generalize b.num % b.den = s at *
  rw [← e1, ← e2]
  generalize a.den = p at *
  generalize b.den = q at *
  have hpq : 0 < p * q := Int.mul_pos (by omega) (by omega)
  have hr : r * q < p * q := Int.mul_lt_mul_of_pos_right (by omega) (by omega)
  have hr0 : 0 ≤ r * q := Int.mul_nonneg (by omega) (by omega)
  have hs : s * p < q * p := Int.mul_lt_mul_of_pos_right (by omega) (by omega)
  have hs0 : 0 ≤ s * p := Int.mul_nonneg (by omega) (by omega)
  have E1 : (r + p * x) * q = r * q + x * (p * q) := by grind
  have E2 : (s + q * y) * p = s * p + y * (p * q) := by grind
  rw [Int.mul_comm q p] at hs
  rw [E1, E2]
  generalize r * q = R at *
  generalize s * p = S at *
  generalize p * q = D at *
  by_cases h : x = y
  · subst h
    rw [if_pos rfl]
    generalize x * D = T
    split <;> split <;> (try split) <;> (try split) <;> omega
  rw [if_neg h]
  by_cases h' : x < y
  · have : (x + 1) * D ≤ y * D := Int.mul_le_mul_of_nonneg_right (by omega) (by omega)
    rw [Int.add_mul] at this
    generalize x * D = X at *
    generalize y * D = Y at *
    rw [if_pos (by omega), if_pos h']
  · have : (y + 1) * D ≤ x * D := Int.mul_le_mul_of_nonneg_right (by omega) (by omega)
    rw [Int.add_mul] at this
    generalize x * D = X at *
    generalize y * D = Y at *
    rw [if_neg (by omega), if_pos (by omega), if_neg h', if_pos (by omega)]
theorem rcompared_any (a b : Rt) (ha : a.ok = true) (hb : b.ok = true) (hai : a.ins) (hbi : b.ins) (w : World) :
    Calls Tryz.prog 232 #[.agg #[.int .i64 a.num, .int .i64 a.den], .agg #[.int .i64 b.num, .int .i64 b.den]] w fun e w' => e = .returned (.int .i64 (Fr.cmpR a b)) ∧ Below w.heap.size w w' := by
  rw [cmpR_low ha hb]
  have h1 := Fr.ok_bd ha
  have h2 := Fr.ok_bd hb
  have m1 := Fr.mul_bd (u := a.num % a.den) (v := b.den) (m := 1048576) (n := 1048576) (by omega) (by omega) (by omega) (by omega)
  have m2 := Fr.mul_bd (u := b.num % b.den) (v := a.den) (m := 1048576) (n := 1048576) (by omega) (by omega) (by omega) (by omega)
  refine fun_eq 0 w Tryz.func232 (args := [.agg [.val (.int .i64 a.num), .val (.int .i64 a.den)], .agg [.val (.int .i64 b.num), .val (.int .i64 b.den)]]) rfl rfl ?_
  refine NewI.mk fun b1 hb1 => ?_
  refine NewI.mk fun b2 hb2 => ?_
  apply CallI.use1
  focus (exact fun w4 h4 => rlow03_any a.num a.den h1.1 hai.1 w4)
  intro w4 v4 h4 hB4
  apply CallI.use1
  focus (exact fun w5 h5 => rlow03_any b.num b.den h2.1 hbi.1 w5)
  intro w5 v5 h5 hB5
  have fin : ∀ x y : Int, (if x < y then (-1 : Int) else if y < x then 1 else 0) = cmpI x y := fun x y => rfl
  refine Branch.mk (fun z1 => ?_) (fun z1 => ?_)
  · have he : a.num / a.den = b.num / b.den := of_decide_eq_true z1
    rw [if_pos he]
    refine DrawI.go (.tk 0 (.tk 1 (.tk 2 (.tk 3 (.tk 5 (.tk 6 (.ev 4 (.tk 7 (.tk 8 .done))))))))) (by kernel_rfl) fun w6 h6 => ?_
    apply CallI.use1
    focus (exact fun w6 h6 => rpart03_any a.num a.den h1.1 hai.2 w6)
    intro w7 v7 h7 hB7
    refine Need.mk (by simp only [inK]; omega) ?_
    refine DrawI.go (.tk 0 (.tk 1 (.tk 2 (.tk 3 (.tk 5 (.tk 6 (.ev 4 (.tk 7 (.tk 8 .done))))))))) (by kernel_rfl) fun w8 h8 => ?_
    apply CallI.use1
    focus (exact fun w6 h6 => rpart03_any b.num b.den h2.1 hbi.2 w6)
    intro w9 v9 h9 hB9
    refine Need.mk (by simp only [inK]; omega) ?_
    unfold cmpI
    refine Branch.mk (fun z2 => ?_) (fun z2 => ?_)
    · rw [if_pos (of_decide_eq_true z2)]
      exact EndI.mk fun w9 h9 => rfl
    rw [if_neg (of_decide_eq_false z2)]
    refine Branch.mk (fun z3 => ?_) (fun z3 => ?_)
    · rw [if_pos (of_decide_eq_true z3)]
      exact EndI.mk fun w9 h9 => rfl
    rw [if_neg (of_decide_eq_false z3)]
    exact EndI.mk fun w9 h9 => rfl
  · rw [if_neg (of_decide_eq_false z1)]
    unfold cmpI
    refine Branch.mk (fun z2 => ?_) (fun z2 => ?_)
    · rw [if_pos (of_decide_eq_true z2)]
      exact EndI.mk fun w9 h9 => rfl
    rw [if_neg (of_decide_eq_false z2)]
    refine Branch.mk (fun z3 => ?_) (fun z3 => ?_)
    · rw [if_pos (of_decide_eq_true z3)]
      exact EndI.mk fun w9 h9 => rfl
    rw [if_neg (of_decide_eq_false z3)]
    exact EndI.mk fun w9 h9 => rfl
end Go.Proofs.YtjbhpfmnfdebkaaGreat

/-
  What the document's answer of layer 14 reckons, in the program's words: parts, places, numbers, times.
-/
namespace Go.Proofs.YtjbhpfmnfdebkaaGreat
set_option linter.unusedVariables false
set_option linter.unusedSimpArgs false
open Go.RowKit Go.Proofs.YtjbhpfmnfdebkaaGreat.Eng Enc
namespace Rg
theorem den_one {a : Rt} (ha : a.ok = true) : a.num % a.den = 0 ↔ a.den = 1 := by
  have oa := Fr.ok_bd ha
  constructor
  · intro h
    have hg0 : Nat.gcd a.num.natAbs a.den.natAbs = 1 := by
      have h := ha
      simp only [Rt.ok, Fr.okB, Bool.and_eq_true, decide_eq_true_eq] at h
      exact h.2
    have hd : a.den ∣ a.num := Int.dvd_of_emod_eq_zero h
    have hg : Int.gcd a.num a.den = a.den.natAbs := Int.gcd_eq_right_iff_dvd (by omega) |>.2 hd |> fun h => by
      have : (Int.gcd a.num a.den : Int) = a.den := h
      omega
    have : Int.gcd a.num a.den = 1 := hg0
    omega
  · intro h; rw [h]; omega
theorem floor_ok {a : Rt} (ha : a.ok = true) : (Fr.floor a).1 = a.num / a.den := by unfold Fr.floor; rw [if_pos ha]
theorem place_den {a : Rt} (ha : a.ok = true) : place a = if a.den = 1 then 2 * a.num else 2 * (Fr.floor a).1 + 1 := by
  unfold place
  rw [part_eq ha, floor_ok ha]
  simp only
  by_cases h : a.den = 1
  · rw [if_pos ((den_one ha).2 h), if_pos h, h]; simp
  · rw [if_neg (fun h' => h ((den_one ha).1 h')), if_neg h]
theorem part_num {a : Rt} (ha : a.ok = true) : a.num - (Fr.floor a).1 * a.den = (part a).num ∧ (part a).den = a.den := by
  rw [part_eq ha, floor_ok ha]
  have := Int.mul_ediv_add_emod a.num a.den
  rw [Int.mul_comm] at this
  exact ⟨by simp only; omega, rfl⟩
theorem odd_den {a : Rt} (ha : a.ok = true) : place a % 2 = 1 ↔ a.den ≠ 1 := by
  rw [place_den ha]
  split <;> omega
theorem place_neg {a : Rt} (ha : a.ok = true) : place a < 0 ↔ a.num < 0 := by
  have oa := Fr.ok_bd ha
  rw [place_den ha, floor_ok ha]
  split
  · omega
  · have h1 : a.num / a.den < 0 ↔ a.num < 0 := by
      constructor
      · intro h
        rcases Int.lt_or_le a.num 0 with h' | h'
        · exact h'
        · have := Int.ediv_nonneg h' (by omega : 0 ≤ a.den); omega
      · intro h; exact Int.ediv_neg_of_neg_of_pos h (by omega)
    omega
theorem ofI_ok {k : Int} (h : -1000 ≤ k ∧ k ≤ 1000) : (⟨k, 1⟩ : Rt).ok = true := by
  show Fr.okB _ _ = true
  unfold Fr.okB
  have : Fr.inB k 1 = true := Fr.in_iff.2 (by simp; omega)
  rw [this]; simp
theorem place_top {a : Rt} (ha : a.ok = true) {long : Int} (hl : 1 ≤ long ∧ long ≤ 16) : sides long ≤ place a ↔ 0 < Fr.cmpR a ⟨long, 1⟩ := by
  have oa := Fr.ok_bd ha
  have hr : (0 < Fr.cmpR a ⟨long, 1⟩) ↔ long * a.den < a.num := by
    unfold Fr.cmpR cmpI
    simp only [Int.mul_one]
    split
    · omega
    · split <;> omega
  rw [hr, place_den ha, floor_ok ha]
  have e := Int.mul_ediv_add_emod a.num a.den
  rw [Int.mul_comm] at e
  unfold sides
  split
  · rename_i h; rw [h]; omega
  · rename_i h
    have hn : a.num % a.den ≠ 0 := fun h' => h ((den_one ha).1 h')
    generalize a.num / a.den = q at *
    generalize a.num % a.den = r at *
    generalize a.den = d at *
    generalize a.num = x at *
    constructor
    · intro h1
      have : long * d ≤ q * d := Int.mul_le_mul_of_nonneg_right (by omega) (by omega)
      omega
    · intro h1
      rcases Int.lt_or_le q long with h2 | h2
      · have : (q + 1) * d ≤ long * d := Int.mul_le_mul_of_nonneg_right (by omega) (by omega)
        rw [Int.add_mul] at this
        omega
      · omega
theorem cmp_ok {a b : Rt} (ha : a.ok = true) (hb : b.ok = true) : (Fr.cmp a b).1 = Fr.cmpR a b := by unfold Fr.cmp; rw [if_pos ⟨ha, hb⟩]
/-- the number, as the document reckons it. -/
theorem number_doc {p : Pt} (ht : p.t.ok = true) (hu : p.u.ok = true) {long : Int} (hl : 1 ≤ long ∧ long ≤ 16) :
    number p long = if 0 ≤ Fr.cmpR p.t p.u ∨ p.t.num < 0 ∨ 0 < Fr.cmpR p.u ⟨long, 1⟩ then -1 else 3 * (place p.t * (2 * long + 1) + place p.u) + (if p.t.den ≠ 1 ∧ p.u.den ≠ 1 then 1 + Fr.cmpR (part p.t) (part p.u) else 1) := by
  unfold number order
  rw [cmp_ok ht hu, cmp_ok (part_ok ht) (part_ok hu)]
  simp only [place_neg ht, place_top hu hl, odd_den ht, odd_den hu]
  rfl
/-- the fractions that are drawn. -/
def Three (pa d : Int) : Prop := (pa = 1 ∧ d = 2) ∨ (pa = 1 ∧ d = 3) ∨ (pa = 2 ∧ d = 3)
theorem of_low {n d : Int} (hd : 1 ≤ d ∧ d ≤ 10) (hn : -20000 ≤ n ∧ n ≤ 20000) (hg : Int.gcd n d = 1) : Fr.of n d = (⟨n, d⟩, 0) ∧ (⟨n, d⟩ : Rt).ok = true := by
  have hq : -20000 ≤ n / d ∧ n / d ≤ 20000 := by
    constructor
    · exact Int.le_ediv_of_mul_le (by omega) (by
        have : -20000 * d ≤ -20000 * 1 := Int.mul_le_mul_of_nonpos_left (by omega) (by omega)
        omega)
    · rcases Int.lt_or_le n 0 with h | h
      · have := Int.ediv_neg_of_neg_of_pos h (by omega : 0 < d); omega
      · have := Int.ediv_le_self d h; omega
  have hok : Fr.okB n d = true := by
    unfold Fr.okB
    have : Fr.inB n d = true := Fr.in_iff.2 (by omega)
    have hg' : Nat.gcd n.natAbs d.natAbs = 1 := hg
    rw [this, decide_eq_true hg']
    simp; omega
  refine ⟨?_, hok⟩
  unfold Fr.of Fr.low
  rw [if_neg (by omega), hg]
  simp only [Int.cast_ofNat_Int, Int.ediv_one]
  rw [if_pos hok]
theorem time_doc {pl pa d : Int} (h : 0 ≤ pl ∧ pl ≤ 1000) (h3 : Three pa d) : time pl pa d = (if pl % 2 = 0 then ⟨pl / 2, 1⟩ else ⟨pl / 2 * d + pa, d⟩) ∧ (time pl pa d).ok = true := by
  unfold time
  split
  · have := of_low (n := pl / 2) (d := 1) (by omega) (by omega) (by simp)
    rw [this.1]; exact ⟨rfl, this.2⟩
  · have hg : Int.gcd (pl / 2 * d + pa) d = 1 := by
      rw [Int.add_comm, Int.gcd_add_mul_right_left]
      rcases h3 with ⟨rfl, rfl⟩ | ⟨rfl, rfl⟩ | ⟨rfl, rfl⟩ <;> decide
    have := of_low (n := pl / 2 * d + pa) (d := d) (by rcases h3 with ⟨rfl, rfl⟩ | ⟨rfl, rfl⟩ | ⟨rfl, rfl⟩ <;> omega) (by rcases h3 with ⟨rfl, rfl⟩ | ⟨rfl, rfl⟩ | ⟨rfl, rfl⟩ <;> omega) hg
    rw [this.1]; exact ⟨rfl, this.2⟩
theorem parts_three {r : Int} (h : 0 ≤ r ∧ r < 3) : Three (parts r).1 (parts r).2.2 ∧ Three (parts r).2.1 (parts r).2.2 := by
  rcases (by omega : r = 0 ∨ r = 1 ∨ r = 2) with rfl | rfl | rfl <;> simp [parts, Three]
end Rg
end Go.Proofs.YtjbhpfmnfdebkaaGreat

/-
  The document's answer of layer 14: numbers and points, by the engine.
-/
namespace Go.Proofs.YtjbhpfmnfdebkaaGreat
set_option linter.unusedVariables false
set_option linter.unusedSimpArgs false
set_option maxRecDepth 100000
open Go.RowKit Go.Proofs.YtjbhpfmnfdebkaaGreat.Eng Enc

theorem rfloor03_any (a : Rt) (ha : a.ins) (w : World) :
    Calls Tryz.prog 244 #[.agg #[.int .i64 a.num, .int .i64 a.den]] w fun e w' => e = .returned (.tuple #[.int .i64 (Fr.floor a).1, .bool (a.ok && decide (a.den = 1)), .int .i64 (Fr.floor a).2.2]) ∧ Below w.heap.size w w' := by
  refine fun_eq 0 w Tryz.func244 (args := [.agg [.val (.int .i64 a.num), .val (.int .i64 a.den)]]) rfl rfl ?_
  refine NewI.mk fun b1 hb1 => ?_
  (first
    | (refine CallI.to1 (rmay03_any a ha) fun w2 => ?_)
    | (refine Branch.yes rfl ?_)
    | (refine Branch.no rfl ?_)
    | (refine Branch.mk (fun hb => ?_) (fun hb => ?_))
    | (refine NewI.mk fun nb hnb => ?_)
    | (refine Need.mk (by show _ ∧ _; omega) ?_)
    | (refine Need.mk (by omega) ?_)
    | (refine Need.mk ?_ ?_)
    | (refine EndI.mk fun w1 h1 => ?_))
  unfold Fr.floor
  refine Branch.mk (fun hc => ?_) (fun hc => ?_)
  · have hno : a.ok = false := by simpa using hc
    rw [hno]
    exact EndI.mk fun w3 h3 => rfl
  · have hok : a.ok = true := by simpa using hc
    have oa := Fr.ok_bd hok
    rw [if_pos hok, hok]
    refine DrawI.go (.tk 0 (.tk 1 (.tk 2 (.tk 3 (.tk 5 (.tk 6 (.tk 7 (.ev 4 (.tk 8 (.tk 9 (.tk 10 .done))))))))))) (by kernel_rfl) fun w1 h1 => ?_
    (first
      | (refine CallI.to1 (rlow03_any a.num a.den oa.1 ha.1) fun w2 => ?_)
      | (refine Branch.yes rfl ?_)
      | (refine Branch.no rfl ?_)
      | (refine Branch.mk (fun hb => ?_) (fun hb => ?_))
      | (refine NewI.mk fun nb hnb => ?_)
      | (refine Need.mk (by show _ ∧ _; omega) ?_)
      | (refine Need.mk (by omega) ?_)
      | (refine Need.mk ?_ ?_)
      | (refine EndI.mk fun w1 h1 => ?_))
    exact EndI.mk fun w3 h3 => rfl
theorem rfits14_any (long : Int) (w : World) : Calls Tryz.prog 104 #[.int .i64 long] w fun e w' => e = .returned (.bool (Rg.fits long)) ∧ Below w.heap.size w w' := by
  refine fun_eq 0 w Tryz.func104 (args := [.val (.int .i64 long)]) rfl rfl ?_
  unfold Rg.fits
  refine Branch.mk (fun hc => ?_) (fun hc => ?_)
  · refine EndI.mk fun w3 h3 => ?_
    have : decide (1 ≤ long) = true := hc
    rw [this]; rfl
  · refine EndI.mk fun w3 h3 => ?_
    have : decide (1 ≤ long) = false := hc
    rw [this]; rfl
theorem rcount14_any (long : Int) (h : 1 ≤ long ∧ long ≤ 16) (w : World) : Calls Tryz.prog 100 #[.int .i64 long] w fun e w' => e = .returned (.int .i64 (3 * (2 * long + 1) * (2 * long + 1))) ∧ Below w.heap.size w w' := by
  refine fun_eq 0 w Tryz.func100 (args := [.val (.int .i64 long)]) rfl rfl ?_
  have hm := Fr.mul_bd (u := 3 * (2 * long + 1)) (v := 2 * long + 1) (m := 99) (n := 33) (by omega) (by omega) (by omega) (by omega)
  refine Need.mk (by simp only [inK]; omega) ?_
  refine Need.mk (by simp only [inK]; omega) ?_
  refine Need.mk (by simp only [inK]; omega) ?_
  refine Need.mk (by simp only [inK]; omega) ?_
  refine Need.mk (by simp only [inK]; omega) ?_
  refine Need.mk (by simp only [inK]; omega) ?_
  exact EndI.mk fun w3 h3 => rfl
theorem Rg.many_doc {long : Int} (hl : 1 ≤ long ∧ long ≤ 16) : Rg.many long = (3 * (2 * long + 1) * (2 * long + 1), 0) := by
  unfold Rg.many; rw [if_pos (Rg.fits_iff.2 hl)]; rfl
theorem rwhole14_any (a : Rt) (ha : a.ins) (w : World) :
    Calls Tryz.prog 181 #[.agg #[.int .i64 a.num, .int .i64 a.den]] w fun e w' => e = .returned (.int .i64 (Fr.floor a).1) ∧ Below w.heap.size w w' := by
  refine fun_eq 0 w Tryz.func181 (args := [.agg [.val (.int .i64 a.num), .val (.int .i64 a.den)]]) rfl rfl ?_
  refine NewI.mk fun b1 hb1 => ?_
  (first
    | (refine CallI.to1 (rfloor03_any a ha) fun w2 => ?_)
    | (refine Branch.yes rfl ?_)
    | (refine Branch.no rfl ?_)
    | (refine Branch.mk (fun hb => ?_) (fun hb => ?_))
    | (refine NewI.mk fun nb hnb => ?_)
    | (refine Need.mk (by show _ ∧ _; omega) ?_)
    | (refine Need.mk (by omega) ?_)
    | (refine Need.mk ?_ ?_)
    | (refine EndI.mk fun w1 h1 => ?_))
  exact EndI.mk fun w3 h3 => rfl
theorem rpart14_any (a : Rt) (ha : a.ins) (hok : a.ok = true) (hn : 0 ≤ a.num) (w : World) :
    Calls Tryz.prog 233 #[.agg #[.int .i64 a.num, .int .i64 a.den]] w fun e w' => e = .returned (.agg #[.int .i64 (Rg.part a).num, .int .i64 (Rg.part a).den]) ∧ Below w.heap.size w w' := by
  refine fun_eq 0 w Tryz.func233 (args := [.agg [.val (.int .i64 a.num), .val (.int .i64 a.den)]]) rfl rfl ?_
  have hp := Rg.part_num hok
  have oa := Fr.ok_bd hok
  have hm : 0 ≤ (Fr.floor a).1 * a.den ∧ (Fr.floor a).1 * a.den ≤ a.num ∧ a.num < (Fr.floor a).1 * a.den + a.den := by
    rw [Rg.floor_ok hok]
    have := Int.mul_ediv_add_emod a.num a.den
    rw [Int.mul_comm] at this
    have h0 := Int.mul_nonneg (Int.ediv_nonneg hn (by omega : 0 ≤ a.den)) (by omega : 0 ≤ a.den)
    omega
  have h2 := ha.1
  simp only [inK] at h2
  refine NewI.mk fun b1 hb1 => ?_
  refine NewI.mk fun b2 hb2 => ?_
  refine DrawI.wr (.tk 0 (.tk 1 (.tk 2 (.tk 4 (.tk 5 (.tk 8 (.tk 9 (.ev 3 (.tk 6 (.tk 7 (.tk 10 (.ev 11 .done)))))))))))) [1] [] (by kernel_rfl) rfl (by simp) fun w1 h1 => ?_
  (first
    | (refine CallI.to1 (rwhole14_any a ha) fun w2 => ?_)
    | (refine Branch.yes rfl ?_)
    | (refine Branch.no rfl ?_)
    | (refine Branch.mk (fun hb => ?_) (fun hb => ?_))
    | (refine NewI.mk fun nb hnb => ?_)
    | (refine Need.mk (by show _ ∧ _; omega) ?_)
    | (refine Need.mk (by omega) ?_)
    | (refine Need.mk ?_ ?_)
    | (refine EndI.mk fun w1 h1 => ?_))
  refine Need.mk (by simp only [inK]; omega) ?_
  refine Need.mk (by simp only [inK]; omega) ?_
  exact EndI.mk fun w3 h3 => by rw [hp.1, hp.2]
theorem rplace14_any (a : Rt) (ha : a.ins) (hok : a.ok = true) (hpl : 0 ≤ Rg.place a ∧ Rg.place a ≤ 1000) (w : World) :
    Calls Tryz.prog 234 #[.agg #[.int .i64 a.num, .int .i64 a.den]] w fun e w' => e = .returned (.int .i64 (Rg.place a)) ∧ Below w.heap.size w w' := by
  refine fun_eq 0 w Tryz.func234 (args := [.agg [.val (.int .i64 a.num), .val (.int .i64 a.den)]]) rfl rfl ?_
  refine NewI.mk fun b1 hb1 => ?_
  rw [Rg.place_den hok] at hpl ⊢
  refine Branch.mk (fun hc => ?_) (fun hc => ?_)
  · have h1 : a.den = 1 := by simpa using hc
    rw [if_pos h1] at hpl ⊢
    refine Need.mk (by simp only [inK]; omega) ?_
    exact EndI.mk fun w3 h3 => rfl
  · have h1 : ¬ a.den = 1 := by simpa using hc
    rw [if_neg h1] at hpl ⊢
    (first
      | (refine CallI.to1 (rwhole14_any a ha) fun w2 => ?_)
      | (refine Branch.yes rfl ?_)
      | (refine Branch.no rfl ?_)
      | (refine Branch.mk (fun hb => ?_) (fun hb => ?_))
      | (refine NewI.mk fun nb hnb => ?_)
      | (refine Need.mk (by show _ ∧ _; omega) ?_)
      | (refine Need.mk (by omega) ?_)
      | (refine Need.mk ?_ ?_)
      | (refine EndI.mk fun w1 h1 => ?_))
    refine Need.mk (by simp only [inK]; omega) ?_
    refine Need.mk (by simp only [inK]; omega) ?_
    exact EndI.mk fun w3 h3 => rfl
theorem rnumber14_any (p : Pt) (long : Int) (hp : p.ins) (ht : p.t.ok = true) (hu : p.u.ok = true) (hl : 1 ≤ long ∧ long ≤ 16) (w : World) :
    Calls Tryz.prog 170 #[.agg #[.int .i64 p.t.num, .int .i64 p.t.den, .int .i64 p.u.num, .int .i64 p.u.den], .int .i64 long] w fun e w' => e = .returned (.int .i64 (Rg.number p long)) ∧ Below w.heap.size w w' := by
  refine fun_eq 0 w Tryz.func170 (args := [.agg [.val (.int .i64 p.t.num), .val (.int .i64 p.t.den), .val (.int .i64 p.u.num), .val (.int .i64 p.u.den)], .val (.int .i64 long)]) rfl rfl ?_
  refine NewI.mk fun b1 hb1 => ?_
  have hlo : (⟨long, 1⟩ : Rt).ok = true := Rg.ofI_ok (by omega)
  have hli : (⟨long, 1⟩ : Rt).ins := ⟨by simp only [inK]; omega, by simp only [inK]; omega⟩
  rw [Rg.number_doc ht hu hl]
  (first
    | (refine CallI.to1 (rcompared_any p.t p.u ht hu hp.1 hp.2) fun w2 => ?_)
    | (refine Branch.yes rfl ?_)
    | (refine Branch.no rfl ?_)
    | (refine Branch.mk (fun hb => ?_) (fun hb => ?_))
    | (refine NewI.mk fun nb hnb => ?_)
    | (refine Need.mk (by show _ ∧ _; omega) ?_)
    | (refine Need.mk (by omega) ?_)
    | (refine Need.mk ?_ ?_)
    | (refine EndI.mk fun w1 h1 => ?_))
  refine Branch.mk (fun hc => ?_) (fun hc => ?_)
  · rw [if_pos (.inl (by simpa using hc))]
    exact EndI.mk fun w3 h3 => rfl
  have c1 : ¬ 0 ≤ Fr.cmpR p.t p.u := by simpa using hc
  refine Branch.mk (fun hc2 => ?_) (fun hc2 => ?_)
  · rw [if_pos (.inr (.inl (by simpa using hc2)))]
    exact EndI.mk fun w3 h3 => rfl
  have c2 : ¬ p.t.num < 0 := by simpa using hc2
  (first
    | (refine CallI.to1 (rcompared_any p.u ⟨long, 1⟩ hu hlo hp.2 hli) fun w2 => ?_)
    | (refine Branch.yes rfl ?_)
    | (refine Branch.no rfl ?_)
    | (refine Branch.mk (fun hb => ?_) (fun hb => ?_))
    | (refine NewI.mk fun nb hnb => ?_)
    | (refine Need.mk (by show _ ∧ _; omega) ?_)
    | (refine Need.mk (by omega) ?_)
    | (refine Need.mk ?_ ?_)
    | (refine EndI.mk fun w1 h1 => ?_))
  refine Branch.mk (fun hc3 => ?_) (fun hc3 => ?_)
  · rw [if_pos (.inr (.inr (by simpa using hc3)))]
    exact EndI.mk fun w3 h3 => rfl
  have c3 : ¬ 0 < Fr.cmpR p.u ⟨long, 1⟩ := by simpa using hc3
  rw [if_neg (by omega)]
  have hcmp : (Fr.cmp p.t p.u).1 < 0 := by rw [Rg.cmp_ok ht hu]; omega
  have hpt : 0 ≤ Rg.place p.t := by have := Rg.place_neg ht; omega
  have hpu : Rg.place p.u < Rg.sides long := by have := Rg.place_top hu hl; omega
  have hpb := Rg.place_bd hcmp
  have hs : 3 ≤ Rg.sides long ∧ Rg.sides long ≤ 33 := by unfold Rg.sides; omega
  have hnu : 0 ≤ p.u.num := by
    have h1 := Fr.ok_bd ht
    have h2 := Fr.ok_bd hu
    have h3 := (Rg.cmp_lt hcmp).2.2
    rcases Int.lt_or_le p.u.num 0 with h | h
    · have h4 : 0 ≤ p.t.num * p.u.den := Int.mul_nonneg (by omega) (by omega)
      have h5 : p.u.num * p.t.den ≤ 0 := Int.mul_nonpos_of_nonpos_of_nonneg (by omega) (by omega)
      omega
    · exact h
  have hpu0 : 0 ≤ Rg.place p.u := by have := Rg.place_neg hu; omega
  have hm := Fr.mul_bd (u := Rg.place p.t) (v := 2 * long + 1) (m := 34) (n := 33) (by omega) (by omega) (by omega) (by omega)
  have hcc : -1 ≤ Fr.cmpR (Rg.part p.t) (Rg.part p.u) ∧ Fr.cmpR (Rg.part p.t) (Rg.part p.u) ≤ 1 := by
    unfold Fr.cmpR cmpI
    split
    · omega
    · split <;> omega
  have fin : ∀ (o : Int), 0 ≤ o ∧ o ≤ 2 → ∀ w : World, True := fun _ _ _ => trivial
  refine Branch.mk (fun hc4 => ?_) (fun hc4 => ?_)
  · have d1 : p.t.den ≠ 1 := by simpa using hc4
    refine Branch.mk (fun hc5 => ?_) (fun hc5 => ?_)
    · have d2 : p.u.den ≠ 1 := by simpa using hc5
      rw [if_pos ⟨d1, d2⟩]
      refine DrawI.go (.tk 0 (.tk 1 (.tk 3 (.tk 4 (.ev 2 (.ev 5 (.ev 6 (.tk 7 (.tk 8 .done))))))))) (by kernel_rfl) fun w1 h1 => ?_
      (first
        | (refine CallI.to1 (rpart14_any p.t hp.1 ht (by omega)) fun w2 => ?_)
        | (refine Branch.yes rfl ?_)
        | (refine Branch.no rfl ?_)
        | (refine Branch.mk (fun hb => ?_) (fun hb => ?_))
        | (refine NewI.mk fun nb hnb => ?_)
        | (refine Need.mk (by show _ ∧ _; omega) ?_)
        | (refine Need.mk (by omega) ?_)
        | (refine Need.mk ?_ ?_)
        | (refine EndI.mk fun w1 h1 => ?_))
      (first
        | (refine CallI.to1 (rpart14_any p.u hp.2 hu hnu) fun w2 => ?_)
        | (refine Branch.yes rfl ?_)
        | (refine Branch.no rfl ?_)
        | (refine Branch.mk (fun hb => ?_) (fun hb => ?_))
        | (refine NewI.mk fun nb hnb => ?_)
        | (refine Need.mk (by show _ ∧ _; omega) ?_)
        | (refine Need.mk (by omega) ?_)
        | (refine Need.mk ?_ ?_)
        | (refine EndI.mk fun w1 h1 => ?_))
      (first
        | (refine CallI.to1 (rcompared_any (Rg.part p.t) (Rg.part p.u) (Rg.part_ok ht) (Rg.part_ok hu) (Rg.part_ins _) (Rg.part_ins _)) fun w2 => ?_)
        | (refine Branch.yes rfl ?_)
        | (refine Branch.no rfl ?_)
        | (refine Branch.mk (fun hb => ?_) (fun hb => ?_))
        | (refine NewI.mk fun nb hnb => ?_)
        | (refine Need.mk (by show _ ∧ _; omega) ?_)
        | (refine Need.mk (by omega) ?_)
        | (refine Need.mk ?_ ?_)
        | (refine EndI.mk fun w1 h1 => ?_))
      refine Need.mk (by simp only [inK]; omega) ?_
      refine DrawI.go (.tk 0 (.tk 1 (.tk 3 (.tk 4 (.tk 5 (.tk 7 (.tk 8 (.tk 12 (.ev 2 (.tk 6 (.ev 9 (.tk 10 (.tk 11 (.tk 13 (.tk 14 .done))))))))))))))) (by kernel_rfl) fun w1 h1 => ?_
      refine Need.mk (by simp only [inK]; omega) ?_
      refine Need.mk (by simp only [inK]; omega) ?_
      (first
        | (refine CallI.to1 (rplace14_any p.t hp.1 ht (by omega)) fun w2 => ?_)
        | (refine Branch.yes rfl ?_)
        | (refine Branch.no rfl ?_)
        | (refine Branch.mk (fun hb => ?_) (fun hb => ?_))
        | (refine NewI.mk fun nb hnb => ?_)
        | (refine Need.mk (by show _ ∧ _; omega) ?_)
        | (refine Need.mk (by omega) ?_)
        | (refine Need.mk ?_ ?_)
        | (refine EndI.mk fun w1 h1 => ?_))
      refine Need.mk (by simp only [inK]; omega) ?_
      (first
        | (refine CallI.to1 (rplace14_any p.u hp.2 hu (by omega)) fun w2 => ?_)
        | (refine Branch.yes rfl ?_)
        | (refine Branch.no rfl ?_)
        | (refine Branch.mk (fun hb => ?_) (fun hb => ?_))
        | (refine NewI.mk fun nb hnb => ?_)
        | (refine Need.mk (by show _ ∧ _; omega) ?_)
        | (refine Need.mk (by omega) ?_)
        | (refine Need.mk ?_ ?_)
        | (refine EndI.mk fun w1 h1 => ?_))
      refine Need.mk (by simp only [inK]; omega) ?_
      refine Need.mk (by simp only [inK]; omega) ?_
      refine Need.mk (by simp only [inK]; omega) ?_
      exact EndI.mk fun w3 h3 => rfl
    · have d2 : ¬ p.u.den ≠ 1 := by simpa using hc5
      rw [if_neg (fun h => d2 h.2)]
      refine DrawI.go (.tk 0 (.tk 1 (.tk 3 (.tk 4 (.tk 5 (.tk 7 (.tk 8 (.tk 12 (.ev 2 (.tk 6 (.ev 9 (.tk 10 (.tk 11 (.tk 13 (.tk 14 .done))))))))))))))) (by kernel_rfl) fun w1 h1 => ?_
      refine Need.mk (by simp only [inK]; omega) ?_
      refine Need.mk (by simp only [inK]; omega) ?_
      (first
        | (refine CallI.to1 (rplace14_any p.t hp.1 ht (by omega)) fun w2 => ?_)
        | (refine Branch.yes rfl ?_)
        | (refine Branch.no rfl ?_)
        | (refine Branch.mk (fun hb => ?_) (fun hb => ?_))
        | (refine NewI.mk fun nb hnb => ?_)
        | (refine Need.mk (by show _ ∧ _; omega) ?_)
        | (refine Need.mk (by omega) ?_)
        | (refine Need.mk ?_ ?_)
        | (refine EndI.mk fun w1 h1 => ?_))
      refine Need.mk (by simp only [inK]; omega) ?_
      (first
        | (refine CallI.to1 (rplace14_any p.u hp.2 hu (by omega)) fun w2 => ?_)
        | (refine Branch.yes rfl ?_)
        | (refine Branch.no rfl ?_)
        | (refine Branch.mk (fun hb => ?_) (fun hb => ?_))
        | (refine NewI.mk fun nb hnb => ?_)
        | (refine Need.mk (by show _ ∧ _; omega) ?_)
        | (refine Need.mk (by omega) ?_)
        | (refine Need.mk ?_ ?_)
        | (refine EndI.mk fun w1 h1 => ?_))
      refine Need.mk (by simp only [inK]; omega) ?_
      refine Need.mk (by simp only [inK]; omega) ?_
      refine Need.mk (by simp only [inK]; omega) ?_
      exact EndI.mk fun w3 h3 => rfl
  · have d1 : ¬ p.t.den ≠ 1 := by simpa using hc4
    rw [if_neg (fun h => d1 h.1)]
    refine DrawI.go (.tk 0 (.tk 1 (.tk 3 (.tk 4 (.tk 5 (.tk 7 (.tk 8 (.tk 12 (.ev 2 (.tk 6 (.ev 9 (.tk 10 (.tk 11 (.tk 13 (.tk 14 .done))))))))))))))) (by kernel_rfl) fun w1 h1 => ?_
    refine Need.mk (by simp only [inK]; omega) ?_
    refine Need.mk (by simp only [inK]; omega) ?_
    (first
      | (refine CallI.to1 (rplace14_any p.t hp.1 ht (by omega)) fun w2 => ?_)
      | (refine Branch.yes rfl ?_)
      | (refine Branch.no rfl ?_)
      | (refine Branch.mk (fun hb => ?_) (fun hb => ?_))
      | (refine NewI.mk fun nb hnb => ?_)
      | (refine Need.mk (by show _ ∧ _; omega) ?_)
      | (refine Need.mk (by omega) ?_)
      | (refine Need.mk ?_ ?_)
      | (refine EndI.mk fun w1 h1 => ?_))
    refine Need.mk (by simp only [inK]; omega) ?_
    (first
      | (refine CallI.to1 (rplace14_any p.u hp.2 hu (by omega)) fun w2 => ?_)
      | (refine Branch.yes rfl ?_)
      | (refine Branch.no rfl ?_)
      | (refine Branch.mk (fun hb => ?_) (fun hb => ?_))
      | (refine NewI.mk fun nb hnb => ?_)
      | (refine Need.mk (by show _ ∧ _; omega) ?_)
      | (refine Need.mk (by omega) ?_)
      | (refine Need.mk ?_ ?_)
      | (refine EndI.mk fun w1 h1 => ?_))
    refine Need.mk (by simp only [inK]; omega) ?_
    refine Need.mk (by simp only [inK]; omega) ?_
    refine Need.mk (by simp only [inK]; omega) ?_
    exact EndI.mk fun w3 h3 => rfl
end Go.Proofs.YtjbhpfmnfdebkaaGreat

/-
  A region's zone in closed form: what is gone through, case by case, in the texts Zones6 and on.
-/
namespace Go.Proofs.YtjbhpfmnfdebkaaGreat
open Go.RowKit Go.Proofs.YtjbhpfmnfdebkaaGreat.Eng Enc
namespace Rg
def pt3 (T U r : Int) : Pt := ⟨time T (parts r).1 (parts r).2.2, time U (parts r).2.1 (parts r).2.2⟩
def good3 (T U r : Int) : Bool := decide ((Fr.cmp (pt3 T U r).t (pt3 T U r).u).1 < 0) && decide (place (pt3 T U r).t = T) && decide (place (pt3 T U r).u = U) && decide (order (pt3 T U r) = r)
end Rg
end Go.Proofs.YtjbhpfmnfdebkaaGreat

/-
  A region's zone by the document: what is gone through, case by case, in the texts ZonesR0 and on.
-/
namespace Go.Proofs.YtjbhpfmnfdebkaaGreat
open Go.RowKit Go.Proofs.YtjbhpfmnfdebkaaGreat.Eng Enc
namespace Rg
/-- a span's bounds, by the document. -/
def ab (s : Sp) : Int := if s.op = true then 9223372036854775807 else Bd.mk s.hi s.hs
def be (s : Sp) : Int := Bd.mk (0 - s.lo) s.ls
def raw (t u d : Sp) : Zn := ⟨ab t, be t, ab u, be u, ab d, be d⟩
end Rg
end Go.Proofs.YtjbhpfmnfdebkaaGreat

/-
  A region's zone by the document: the cases of some places.
-/
namespace Go.Proofs.YtjbhpfmnfdebkaaGreat
set_option maxRecDepth 100000
namespace Rg
end Rg
end Go.Proofs.YtjbhpfmnfdebkaaGreat

/-
  A region's zone by the document: the cases of some places.
-/
namespace Go.Proofs.YtjbhpfmnfdebkaaGreat
set_option maxRecDepth 100000
namespace Rg
end Rg
end Go.Proofs.YtjbhpfmnfdebkaaGreat

/-
  A region's zone by the document: the cases of some places.
-/
namespace Go.Proofs.YtjbhpfmnfdebkaaGreat
set_option maxRecDepth 100000
namespace Rg
end Rg
end Go.Proofs.YtjbhpfmnfdebkaaGreat

/-
  A region's zone by the document: the cases of some places.
-/
namespace Go.Proofs.YtjbhpfmnfdebkaaGreat
set_option maxRecDepth 100000
namespace Rg
end Rg
end Go.Proofs.YtjbhpfmnfdebkaaGreat

/-
  A region's zone by the document, of all places.
-/
namespace Go.Proofs.YtjbhpfmnfdebkaaGreat
set_option linter.unusedVariables false
namespace Rg
end Rg
end Go.Proofs.YtjbhpfmnfdebkaaGreat

/-
  A region's zone in closed form: the cases of some places.
-/
namespace Go.Proofs.YtjbhpfmnfdebkaaGreat
set_option maxRecDepth 100000
namespace Rg
end Rg
end Go.Proofs.YtjbhpfmnfdebkaaGreat

/-
  A region's zone in closed form: the cases of some places.
-/
namespace Go.Proofs.YtjbhpfmnfdebkaaGreat
set_option maxRecDepth 100000
namespace Rg
end Rg
end Go.Proofs.YtjbhpfmnfdebkaaGreat

/-
  A region's zone in closed form: the cases of some places.
-/
namespace Go.Proofs.YtjbhpfmnfdebkaaGreat
set_option maxRecDepth 100000
namespace Rg
end Rg
end Go.Proofs.YtjbhpfmnfdebkaaGreat

/-
  A region's zone in closed form: the cases of some places.
-/
namespace Go.Proofs.YtjbhpfmnfdebkaaGreat
set_option maxRecDepth 100000
namespace Rg
end Rg
end Go.Proofs.YtjbhpfmnfdebkaaGreat

/-
  A region's zone in closed form: the cases of some places.
-/
namespace Go.Proofs.YtjbhpfmnfdebkaaGreat
set_option maxRecDepth 100000
namespace Rg
end Rg
end Go.Proofs.YtjbhpfmnfdebkaaGreat

/-
  A region's zone in closed form: the cases of some places.
-/
namespace Go.Proofs.YtjbhpfmnfdebkaaGreat
set_option maxRecDepth 100000
namespace Rg
end Rg
end Go.Proofs.YtjbhpfmnfdebkaaGreat

/-
  A region's zone in closed form: the cases of some places.
-/
namespace Go.Proofs.YtjbhpfmnfdebkaaGreat
set_option maxRecDepth 100000
namespace Rg
end Rg
end Go.Proofs.YtjbhpfmnfdebkaaGreat

/-
  A region's zone in closed form: the cases of some places.
-/
namespace Go.Proofs.YtjbhpfmnfdebkaaGreat
set_option maxRecDepth 100000
namespace Rg
end Rg
end Go.Proofs.YtjbhpfmnfdebkaaGreat

/-
  A region's zone in closed form: the cases of some places.
-/
namespace Go.Proofs.YtjbhpfmnfdebkaaGreat
set_option maxRecDepth 100000
namespace Rg
end Rg
end Go.Proofs.YtjbhpfmnfdebkaaGreat

/-
  A region's zone in closed form: the cases of some places.
-/
namespace Go.Proofs.YtjbhpfmnfdebkaaGreat
set_option maxRecDepth 100000
namespace Rg
end Rg
end Go.Proofs.YtjbhpfmnfdebkaaGreat

/-
  A region's zone in closed form: the cases of some places.
-/
namespace Go.Proofs.YtjbhpfmnfdebkaaGreat
set_option maxRecDepth 100000
namespace Rg
end Rg
end Go.Proofs.YtjbhpfmnfdebkaaGreat

/-
  A region's zone in closed form, of all places.
-/
namespace Go.Proofs.YtjbhpfmnfdebkaaGreat
set_option linter.unusedVariables false
namespace Rg
end Rg
end Go.Proofs.YtjbhpfmnfdebkaaGreat

/-
  The plain law of RegionZones, all of it.
-/
namespace Go.Proofs.YtjbhpfmnfdebkaaGreat
set_option linter.unusedVariables false
open Go.RowKit Go.Proofs.YtjbhpfmnfdebkaaGreat.Eng Enc
namespace Rg
end Rg
end Go.Proofs.YtjbhpfmnfdebkaaGreat

/-
  The document's own closing: the least simple way between two clocks; it is the closing of XPlainDbm.
-/
namespace Go.Proofs.YtjbhpfmnfdebkaaGreat
set_option linter.unusedVariables false
set_option linter.unusedSimpArgs false
namespace Dbm
/-- is a clock among some (bits)? -/
def inS (S k : Nat) : Bool := decide (S / 2 ^ k % 2 = 1)
def pc (S : Nat) : Nat := (if inS S 0 then 1 else 0) + (if inS S 1 then 1 else 0) + (if inS S 2 then 1 else 0) + (if inS S 3 then 1 else 0)
theorem inS_less {S k a : Nat} (hk : inS S k = true) (hS : S < 16) (hk4 : k < 4) (ha : a < 4) : (inS (S - 2 ^ k) a = true ↔ inS S a = true ∧ a ≠ k) ∧ pc (S - 2 ^ k) + 1 = pc S := by
  have key : ∀ S : Fin 16, ∀ k a : Fin 4, inS S.1 k.1 = true → (inS (S.1 - 2 ^ k.1) a.1 = true ↔ inS S.1 a.1 = true ∧ a.1 ≠ k.1) ∧ pc (S.1 - 2 ^ k.1) + 1 = pc S.1 := by decide +kernel
  exact key ⟨S, hS⟩ ⟨k, hk4⟩ ⟨a, ha⟩ hk
theorem inS_zero {S k : Nat} (hS : S < 16) (hp : pc S = 0) (hk : k < 4) : inS S k = false := by
  have key : ∀ S : Fin 16, ∀ k : Fin 4, pc S.1 = 0 → inS S.1 k.1 = false := by decide +kernel
  exact key ⟨S, hS⟩ ⟨k, hk⟩ hp
def cand (N : Nat) (L : List Int) (i : Nat) (rc : Nat → Int) (k : Nat) : Int := (Bd.add (L[i * N + k]?.getD 0) (rc k)).1
def pstep (sk : Nat → Bool) (cd : Nat → Int) (best : Int) (k : Nat) : Int := if sk k = true then best else if cd k < best then cd k else best
def skip (i j S k : Nat) : Bool := !(inS S k) || decide (k = i) || decide (k = j)
/-- the least sum of bounds by clocks among some, no clock twice; as deep as there are clocks. -/
def pth (N : Nat) (L : List Int) : Nat → Nat → Nat → Nat → Int
  | 0, i, j, _ => L[i * N + j]?.getD 0
  | f + 1, i, j, S => (List.range N).foldl (pstep (skip i j S) (cand N L i fun k => pth N L f k j (S - 2 ^ k))) (L[i * N + j]?.getD 0)
theorem fold_min {sk : Nat → Bool} {cd : Nat → Int} {G : Int → Prop} : ∀ (l : List Nat) (b : Int), G b → (∀ k, k ∈ l → sk k = false → G (cd k)) →
    G (l.foldl (pstep sk cd) b) ∧ l.foldl (pstep sk cd) b ≤ b ∧ ∀ k, k ∈ l → sk k = false → l.foldl (pstep sk cd) b ≤ cd k
  | [], b, hb, _ => ⟨hb, Int.le_refl _, by simp⟩
  | k :: l, b, hb, hc => by
    rw [List.foldl_cons]
    have hs : G (pstep sk cd b k) ∧ pstep sk cd b k ≤ b ∧ (sk k = false → pstep sk cd b k ≤ cd k) := by
      unfold pstep
      by_cases h1 : sk k = true
      · rw [if_pos h1]; exact ⟨hb, Int.le_refl _, fun h => by rw [h1] at h; cases h⟩
      · rw [if_neg h1]
        have h1' : sk k = false := by simpa using h1
        by_cases h2 : cd k < b
        · rw [if_pos h2]; exact ⟨hc k (by simp) h1', by omega, fun _ => Int.le_refl _⟩
        · rw [if_neg h2]; exact ⟨hb, Int.le_refl _, fun _ => by omega⟩
    obtain ⟨k1, k2, k3⟩ := fold_min l (pstep sk cd b k) hs.1 (fun a ha => hc a (by simp [ha]))
    refine ⟨k1, by omega, fun a ha hsa => ?_⟩
    rcases List.mem_cons.1 ha with rfl | ha
    · have := hs.2.2 hsa; omega
    · exact k3 a ha hsa
theorem le_ole {m : Int} (hm : m ≤ 2305843009213693952) {u v : Int} (hu : lim m u) (hv : lim m v) (h : u ≤ v) : ole (ob u) (ob v) :=
  not_olt.1 fun h2 => by have := (lt_iff hm hv hu).2 h2; omega
structure POk (N : Nat) (L : List Int) (i j S f : Nat) (v : Int) : Prop where
  lim : Dbm.lim 1152921504606846976 v
  wit : ∀ u, ob v = some u → ∃ mid : List Nat, mid.Nodup ∧ i ∉ mid ∧ j ∉ mid ∧ (∀ a, a ∈ mid → a < N ∧ inS S a = true) ∧ way (mx N L) (i :: (mid ++ [j])) = some u
  low : ∀ mid : List Nat, mid.Nodup → i ∉ mid → j ∉ mid → (∀ a, a ∈ mid → a < N ∧ inS S a = true) → mid.length ≤ f → ole (ob v) (way (mx N L) (i :: (mid ++ [j])))
section
variable {N : Nat} {L : List Int}
theorem mx_lim (h0 : chk N L = 0) : ∀ i j v, i < N → j < N → mx N L i j = some v → -288230376151711744 ≤ v / 2 ∧ v / 2 ≤ 288230376151711744 := fun i j v hi hj hv => by
  obtain ⟨c1, c2, c3, c4⟩ := chk_iff.1 h0
  have hL : L.length = N * N := by exact_mod_cast c3
  obtain ⟨e1, e2⟩ := mx_some hv
  have := chk_lim h0 (i * N + j) (by rw [hL]; exact place_lt hi hj)
  rw [e1] at this
  exact this.resolve_left e2
theorem way_lim3 (h0 : chk N L = 0) {i j : Nat} (hi : i < N) (hj : j < N) {mid : List Nat} (hn : mid.Nodup) (him : i ∉ mid) (hm : ∀ a, a ∈ mid → a < N) {u : Int} (hu : way (mx N L) (i :: (mid ++ [j])) = some u) : -1152921504606846976 ≤ u / 2 ∧ u / 2 ≤ 1152921504606846976 := by
  obtain ⟨c1, c2, c3, c4⟩ := chk_iff.1 h0
  have hlt : ∀ a ∈ i :: (mid ++ [j]), a < N := by
    intro a ha
    simp only [List.mem_cons, List.mem_append, List.not_mem_nil, or_false] at ha
    rcases ha with rfl | ha | rfl
    · exact hi
    · exact hm a ha
    · exact hj
  have hw := way_lim (by omega) (mx_lim h0) _ u hlt hu
  have hl := nodup_len N (i :: mid) (List.nodup_cons.2 ⟨him, hn⟩) (fun a ha => by rcases List.mem_cons.1 ha with rfl | ha; exact hi; exact hm a ha)
  have hl' : ((i :: (mid ++ [j])).length - 1 : Nat) ≤ 4 := by simp at hl ⊢; omega
  generalize ((i :: (mid ++ [j])).length - 1 : Nat) = x at hw hl'
  omega
theorem ob_lim {v m : Int} (h : ∀ u, ob v = some u → -m ≤ u / 2 ∧ u / 2 ≤ m) : lim m v := by
  by_cases hv : v = NO
  · exact .inl hv
  · exact .inr (h v (by unfold ob; rw [if_neg hv]))
theorem pth_ok (h0 : chk N L = 0) : ∀ (f i j S : Nat), i < N → j < N → S < 16 → inS S i = false → POk N L i j S f (pth N L f i j S)
  | 0, i, j, S, hi, hj, hS, hiS => by
    have hw : ∀ u, ob (pth N L 0 i j S) = some u → way (mx N L) (i :: ([] ++ [j])) = some u := fun u hu => by rw [List.nil_append, way_two]; exact hu
    refine ⟨ob_lim fun u hu => way_lim3 h0 hi hj (by simp) (by simp) (by simp) (hw u hu), fun u hu => ⟨[], by simp, by simp, by simp, by simp, hw u hu⟩, fun mid _ _ _ _ hl => ?_⟩
    have : mid = [] := List.eq_nil_of_length_eq_zero (by omega)
    subst this
    rw [List.nil_append, way_two]
    exact ole_refl _
  | f + 1, i, j, S, hi, hj, hS, hiS => by
    obtain ⟨c1, c2, c3, c4⟩ := chk_iff.1 h0
    have hN4 : N ≤ 4 := by omega
    have hL : L.length = N * N := by exact_mod_cast c3
    let G : Int → Prop := fun v => ∀ u, ob v = some u → ∃ mid : List Nat, mid.Nodup ∧ i ∉ mid ∧ j ∉ mid ∧ (∀ a, a ∈ mid → a < N ∧ inS S a = true) ∧ way (mx N L) (i :: (mid ++ [j])) = some u
    have Glim : ∀ v, G v → lim 1152921504606846976 v := fun v hv => ob_lim fun u hu => by
      obtain ⟨mid, m1, m2, m3, m4, m5⟩ := hv u hu
      exact way_lim3 h0 hi hj m1 m2 (fun a ha => (m4 a ha).1) m5
    have hsk : ∀ k, k < N → skip i j S k = false → inS S k = true ∧ k ≠ i ∧ k ≠ j := fun k hk h => by
      unfold skip at h
      simpa [and_assoc] using h
    have rc : ∀ k, k < N → skip i j S k = false → POk N L k j (S - 2 ^ k) f (pth N L f k j (S - 2 ^ k)) := fun k hk h => by
      obtain ⟨h1, h2, h3⟩ := hsk k hk h
      have hl := inS_less (a := k) h1 hS (by omega) (by omega)
      refine pth_ok h0 f k j (S - 2 ^ k) hk hj (Nat.lt_of_le_of_lt (Nat.sub_le _ _) hS) ?_
      cases hh : inS (S - 2 ^ k) k with
      | false => rfl
      | true => exact absurd rfl ((hl.1.1 hh).2)
    have cdE : ∀ k, k < N → skip i j S k = false → ob (cand N L i (fun k => pth N L f k j (S - 2 ^ k)) k) = oadd (mx N L i k) (ob (pth N L f k j (S - 2 ^ k))) := fun k hk h => by
      have l1 : lim 1152921504606846976 (L[i * N + k]?.getD 0) := lim_mono (chk_lim h0 (i * N + k) (by rw [hL]; exact place_lt hi hk)) (by omega)
      exact (add_eq l1 (rc k hk h).lim).1
    have cdG : ∀ k, k ∈ List.range N → skip i j S k = false → G (cand N L i (fun k => pth N L f k j (S - 2 ^ k)) k) := fun k hk h u hu => by
      have hk := List.mem_range.1 hk
      obtain ⟨h1, h2, h3⟩ := hsk k hk h
      rw [cdE k hk h] at hu
      cases he : mx N L i k with
      | none => rw [he] at hu; cases hu
      | some x =>
        cases hp : ob (pth N L f k j (S - 2 ^ k)) with
        | none => rw [he, hp] at hu; cases hu
        | some y =>
          obtain ⟨mid, m1, m2, m3, m4, m5⟩ := (rc k hk h).wit y hp
          have hl := fun a (ha : a < 4) => (inS_less (a := a) h1 hS (by omega) ha).1
          have hin : ∀ a, a ∈ mid → a < N ∧ inS S a = true ∧ a ≠ k := fun a ha => ⟨(m4 a ha).1, (hl a (by have := (m4 a ha).1; omega)).1 (m4 a ha).2⟩
          refine ⟨k :: mid, List.nodup_cons.2 ⟨m2, m1⟩, ?_, ?_, ?_, ?_⟩
          · intro hm
            rcases List.mem_cons.1 hm with rfl | hm
            · exact h2 rfl
            · have := (hin i hm).2.1; rw [hiS] at this; cases this
          · intro hm
            rcases List.mem_cons.1 hm with rfl | hm
            · exact h3 rfl
            · exact m3 hm
          · intro a ha
            rcases List.mem_cons.1 ha with rfl | ha
            · exact ⟨hk, h1⟩
            · exact ⟨(hin a ha).1, (hin a ha).2.1⟩
          · show oadd (mx N L i k) (way (mx N L) (k :: (mid ++ [j]))) = some u
            rw [m5, he]
            rw [he, hp] at hu
            exact hu
    have b0 : G (L[i * N + j]?.getD 0) := fun u hu => ⟨[], by simp, by simp, by simp, by simp, by rw [List.nil_append, way_two]; exact hu⟩
    obtain ⟨k1, k2, k3⟩ := fold_min (sk := skip i j S) (cd := cand N L i fun k => pth N L f k j (S - 2 ^ k)) (G := G) (List.range N) _ b0 cdG
    refine ⟨Glim _ k1, k1, fun mid m1 m2 m3 m4 hl => ?_⟩
    cases mid with
    | nil =>
      rw [List.nil_append, way_two]
      exact le_ole (by omega) (Glim _ k1) (Glim _ b0) k2
    | cons k mid =>
      have hkN := (m4 k (by simp)).1
      have hkS := (m4 k (by simp)).2
      have hki : k ≠ i := fun e => m2 (by simp [e])
      have hkj : k ≠ j := fun e => m3 (by simp [e])
      have hs : skip i j S k = false := by unfold skip; simp [hkS, hki, hkj]
      have h1 := k3 k (List.mem_range.2 hkN) hs
      have h2 := le_ole (m := 1152921504606846976) (by omega) (Glim _ k1) (Glim _ (cdG k (List.mem_range.2 hkN) hs)) h1
      rw [cdE k hkN hs] at h2
      refine ole_trans h2 ?_
      show ole _ (oadd (mx N L i k) (way (mx N L) (k :: (mid ++ [j]))))
      have hnd := List.nodup_cons.1 m1
      refine oadd_mono (ole_refl _) ((rc k hkN hs).low mid hnd.2 hnd.1 (fun h => m3 (by simp [h])) (fun a ha => ?_) (by simp at hl; omega))
      have ha4 := m4 a (by simp [ha])
      exact ⟨ha4.1, (inS_less hkS hS (by omega) (by omega)).1.2 ⟨ha4.2, fun e => hnd.1 (e ▸ ha)⟩⟩
end
end Dbm
end Go.Proofs.YtjbhpfmnfdebkaaGreat

/-
  The document's own closing is the closing of XPlainDbm.
-/
namespace Go.Proofs.YtjbhpfmnfdebkaaGreat
set_option linter.unusedVariables false
set_option linter.unusedSimpArgs false
namespace Dbm
def full (N i : Nat) : Nat := 2 ^ N - 1 - 2 ^ i
theorem full_ok {N i : Nat} (hN : N ≤ 4) (hi : i < N) : full N i < 16 ∧ inS (full N i) i = false ∧ pc (full N i) ≤ N ∧ ∀ a, a < N → a ≠ i → inS (full N i) a = true := by
  have key : ∀ N : Fin 5, ∀ i a : Fin 4, i.1 < N.1 → full N.1 i.1 < 16 ∧ inS (full N.1 i.1) i.1 = false ∧ pc (full N.1 i.1) ≤ N.1 ∧ (a.1 < N.1 → a.1 ≠ i.1 → inS (full N.1 i.1) a.1 = true) := by decide +kernel
  have k := fun a ha => key ⟨N, by omega⟩ ⟨i, by omega⟩ ⟨a, ha⟩ hi
  have k0 := k 0 (by omega)
  exact ⟨k0.1, k0.2.1, k0.2.2.1, fun a ha => (k a (by omega)).2.2.2 ha⟩
def closedR (N : Nat) (L : List Int) : Option (List Int) :=
  if (List.range N).all (fun i => decide (1 ≤ pth N L N i i (full N i))) = true then some ((List.range (N * N)).map fun p => if p / N = p % N then 1 else pth N L N (p / N) (p % N) (full N (p / N))) else none
/-- no clock behind itself. -/
def dis : List Nat → Prop
  | a :: b :: t => a ≠ b ∧ dis (b :: t)
  | _ => True
theorem dis_way {N : Nat} {L L1 : List Int} (h : ∀ i j, i < N → j < N → i ≠ j → L1[i * N + j]?.getD 0 = L[i * N + j]?.getD 0) : ∀ (p : List Nat), dis p → (∀ a, a ∈ p → a < N) → way (mx N L1) p = way (mx N L) p
  | [], _, _ => rfl
  | [_], _, _ => rfl
  | a :: b :: t, hd, hp => by
    have h1 : mx N L1 a b = mx N L a b := by unfold mx; rw [h a b (hp a (by simp)) (hp b (by simp)) hd.1]
    simp only [way, h1, dis_way h (b :: t) hd.2 (fun c hc => hp c (List.mem_cons_of_mem a hc))]
theorem dis_simple : ∀ (mid : List Nat) (i j : Nat), mid.Nodup → i ∉ mid → j ∉ mid → (i ≠ j ∨ mid ≠ []) → dis (i :: (mid ++ [j]))
  | [], i, j, _, _, _, h => ⟨h.resolve_right (fun h => h rfl), trivial⟩
  | k :: mid, i, j, hn, hi, hj, _ => by
    have hnd := List.nodup_cons.1 hn
    exact ⟨fun e => hi (by simp [e]), dis_simple mid k j hnd.2 hnd.1 (fun h => hj (by simp [h])) (.inl fun e => hj (by simp [e]))⟩
/-- there and back again is no less than 0, where no simple way round is. -/
theorem cyc_ok {N n : Nat} {E M : Mx} (inv : Inv N n E M) (hn : n < N) (H : ∀ i mid, i < N → mid.Nodup → i ∉ mid → (∀ a, a ∈ mid → a < N) → ole (some 1) (way E (i :: (mid ++ [i])))) :
    ∀ (m : Nat) (p q : List Nat) (i : Nat), p.length + q.length ≤ m → (i :: (p ++ [n])).Nodup → (n :: (q ++ [i])).Nodup → (∀ a, a ∈ p → a < n) → (∀ a, a ∈ q → a < n) → i < N → ole (some 1) (oadd (way E (i :: (p ++ [n]))) (way E (n :: (q ++ [i]))))
  | m, p, q, i, hm, hp, hq, hpn, hqn, hi => by
    have hp' := List.nodup_cons.1 hp
    have hq' := List.nodup_cons.1 hq
    have hpa := List.nodup_append.1 hp'.2
    have hqa := List.nodup_append.1 hq'.2
    have hip : i ∉ p := fun h => hp'.1 (List.mem_append.2 (.inl h))
    have hin : i ≠ n := fun h => hp'.1 (List.mem_append.2 (.inr (by simp [h])))
    have hnq : n ∉ q := fun h => hq'.1 (List.mem_append.2 (.inl h))
    have hnp : n ∉ p := fun h => hpa.2.2 n h n (by simp) rfl
    have hiq : i ∉ q := fun h => hqa.2.2 i h i (by simp) rfl
    by_cases hd : ∃ v, v ∈ p ∧ v ∈ q
    · obtain ⟨v, hv1, hv2⟩ := hd
      obtain ⟨p1, p2, rfl⟩ := List.append_of_mem hv1
      obtain ⟨q1, q2, rfl⟩ := List.append_of_mem hv2
      have hvn : v < n := hpn v hv1
      have e1 : way E (i :: ((p1 ++ v :: p2) ++ [n])) = oadd (way E (i :: (p1 ++ [v]))) (way E (v :: (p2 ++ [n]))) := by
        have := way_split E (i :: p1) v (p2 ++ [n])
        simpa using this
      have e2 : way E (n :: ((q1 ++ v :: q2) ++ [i])) = oadd (way E (n :: (q1 ++ [v]))) (way E (v :: (q2 ++ [i]))) := by
        have := way_split E (n :: q1) v (q2 ++ [i])
        simpa using this
      have e3 : way E (i :: ((p1 ++ v :: q2) ++ [i])) = oadd (way E (i :: (p1 ++ [v]))) (way E (v :: (q2 ++ [i]))) := by
        have := way_split E (i :: p1) v (q2 ++ [i])
        simpa using this
      have h1 : ole (some 1) (way E (i :: ((p1 ++ v :: q2) ++ [i]))) := by
        have := inv.le_way (by omega) (p1 ++ v :: q2) i i hi hi (fun a ha => by
          rcases List.mem_append.1 ha with h | h
          · exact hpn a (List.mem_append.2 (.inl h))
          · rcases List.mem_cons.1 h with rfl | h
            · exact hvn
            · exact hqn a (List.mem_append.2 (.inr (List.mem_cons_of_mem _ h))))
        rwa [inv.diag i hi] at this
      have hm' : p2.length + q1.length < p1.length + (p2.length + 1) + (q1.length + (q2.length + 1)) := by omega
      have h2 : ole (some 1) (oadd (way E (v :: (p2 ++ [n]))) (way E (n :: (q1 ++ [v])))) := by
        match m, hm with
        | 0, hm => simp at hm
        | m + 1, hm =>
          refine cyc_ok inv hn H m p2 q1 v (by simp at hm; omega) ?_ ?_ (fun a ha => hpn a (by simp [ha])) (fun a ha => hqn a (by simp [ha])) (by omega)
          · refine hp'.2.sublist ?_
            have : (p1 ++ v :: p2) ++ [n] = p1 ++ (v :: (p2 ++ [n])) := by simp
            rw [this]; exact List.sublist_append_right _ _
          · refine hq.sublist ?_
            have : (q1 ++ v :: q2) ++ [i] = (q1 ++ [v]) ++ (q2 ++ [i]) := by simp
            rw [this]; exact List.Sublist.cons_cons n (List.sublist_append_left _ _)
      rw [e1, e2]
      generalize way E (i :: (p1 ++ [v])) = A at *
      generalize way E (v :: (p2 ++ [n])) = B at *
      generalize way E (n :: (q1 ++ [v])) = C at *
      generalize way E (v :: (q2 ++ [i])) = D at *
      have e4 : oadd (oadd A B) (oadd C D) = oadd (oadd A D) (oadd B C) := by
        rw [oadd_assoc, oadd_comm C D, ← oadd_assoc B D C, oadd_comm B D, oadd_assoc D B C, ← oadd_assoc A D]
      rw [e4, ← e3]
      have := oadd_mono h1 h2
      rwa [oadd_one] at this
    · have h1 := H i (p ++ n :: q) hi (List.nodup_append.2 ⟨hpa.1, List.nodup_cons.2 ⟨hnq, hqa.1⟩, fun a ha b hb e => by
          subst e
          rcases List.mem_cons.1 hb with rfl | hb
          · exact hnp ha
          · exact hd ⟨a, ha, hb⟩⟩) (fun h => by
          rcases List.mem_append.1 h with h | h
          · exact hip h
          · rcases List.mem_cons.1 h with h | h
            · exact hin h
            · exact hiq h) (fun a ha => by
          rcases List.mem_append.1 ha with h | h
          · have := hpn a h; omega
          · rcases List.mem_cons.1 h with rfl | h
            · exact hn
            · have := hqn a h; omega)
      have e := way_split E (i :: p) n (q ++ [i])
      have e' : way E (i :: ((p ++ n :: q) ++ [i])) = oadd (way E (i :: (p ++ [n]))) (way E (n :: (q ++ [i]))) := by simpa using e
      rwa [e'] at h1
theorem there_back {N n : Nat} {E M : Mx} (inv : Inv N n E M) (hn : n < N) (H : ∀ i mid, i < N → mid.Nodup → i ∉ mid → (∀ a, a ∈ mid → a < N) → ole (some 1) (way E (i :: (mid ++ [i])))) (i : Nat) (hi : i < N) : ole (some 1) (oadd (M i n) (M n i)) := by
  by_cases hin : i = n
  · subst hin; rw [inv.diag i hi, oadd_one]; exact ole_refl _
  cases h1 : M i n with
  | none => trivial
  | some u =>
    cases h2 : M n i with
    | none => trivial
    | some v =>
      obtain ⟨p, p1, p2, p3⟩ := inv.wit i n hi hn hin u h1
      obtain ⟨q, q1, q2, q3⟩ := inv.wit n i hn hi (fun e => hin e.symm) v h2
      have := cyc_ok inv hn H (p.length + q.length) p q i (Nat.le_refl _) p1 q1 p2 q2 hi
      rwa [p3, q3] at this
end Dbm
end Go.Proofs.YtjbhpfmnfdebkaaGreat

/-
  The document's own closing is the closing of XPlainDbm: both ways.
-/
namespace Go.Proofs.YtjbhpfmnfdebkaaGreat
set_option linter.unusedVariables false
set_option linter.unusedSimpArgs false
namespace Dbm
section
variable {N : Nat} {L : List Int}
theorem pth_full (h0 : chk N L = 0) {i j : Nat} (hi : i < N) (hj : j < N) : POk N L i j (full N i) N (pth N L N i j (full N i)) := by
  obtain ⟨c1, c2, c3, c4⟩ := chk_iff.1 h0
  obtain ⟨f1, f2, _, _⟩ := full_ok (N := N) (i := i) (by omega) hi
  exact pth_ok h0 N i j (full N i) hi hj f1 f2
theorem low_full (h0 : chk N L = 0) {i j : Nat} (hi : i < N) (hj : j < N) {mid : List Nat} (hn : mid.Nodup) (him : i ∉ mid) (hjm : j ∉ mid) (hm : ∀ a, a ∈ mid → a < N) : ole (ob (pth N L N i j (full N i))) (way (mx N L) (i :: (mid ++ [j]))) := by
  obtain ⟨c1, c2, c3, c4⟩ := chk_iff.1 h0
  obtain ⟨_, _, _, f4⟩ := full_ok (N := N) (i := i) (by omega) hi
  exact (pth_full h0 hi hj).low mid hn him hjm (fun a ha => ⟨hm a ha, f4 a (hm a ha) (fun e => him (e ▸ ha))⟩) (nodup_len N mid hn hm)
theorem ole_one {v : Int} (h : 1 ≤ v) : ole (some 1) (ob v) := by
  unfold ob; split
  · trivial
  · exact h
theorem one_of_ole {v : Int} (h : ole (some 1) (ob v)) : 1 ≤ v := by
  unfold ob at h
  split at h
  · rename_i e; rw [e]; decide
  · exact h
theorem diag_some (hL : L.length = N * N) (hd : ∀ i, i < N → 1 ≤ L[i * N + i]?.getD 0) : ∀ n, n ≤ N → ∃ Ln, (List.range n).foldlM (diag1 N) L = some Ln := by
  intro n
  induction n with
  | zero => intro _; exact ⟨L, rfl⟩
  | succ n ih =>
    intro hn
    obtain ⟨Ln, hLn⟩ := ih (by omega)
    obtain ⟨a1, a2, a3⟩ := diag_spec hL n Ln (by omega) hLn
    refine ⟨Ln.set (n * N + n) 1, ?_⟩
    have h1 : Ln[n * N + n]?.getD 0 = L[n * N + n]?.getD 0 := by rw [a3 n n (by omega) (by omega), if_neg (by omega)]
    have h2 := hd n (by omega)
    rw [List.range_succ, List.foldlM_append, hLn]
    have h3 : diag1 N Ln n = some (Ln.set (n * N + n) 1) := by unfold diag1; rw [if_neg (by omega)]
    simp [h3]
theorem stage_some {L1 : List Int} (hN4 : N ≤ 4) (a1 : L1.length = N * N) (hd1 : ∀ i, i < N → mx N L1 i i = some 1) (hE : ∀ i j v, i < N → j < N → mx N L1 i j = some v → -288230376151711744 ≤ v / 2 ∧ v / 2 ≤ 288230376151711744)
    (H : ∀ i mid, i < N → mid.Nodup → i ∉ mid → (∀ a, a ∈ mid → a < N) → ole (some 1) (way (mx N L1) (i :: (mid ++ [i])))) : ∀ n, n ≤ N → ∃ Cn, (List.range n).foldlM (stage N) L1 = some Cn := by
  intro n
  induction n with
  | zero => intro _; exact ⟨L1, rfl⟩
  | succ n ih =>
    intro hn
    obtain ⟨Cn, hCn⟩ := ih (by omega)
    obtain ⟨b1, b2⟩ := fold_inv hN4 a1 hd1 hE n Cn (by omega) hCn
    have hq := inv_lim b2 (by omega) hN4 hE
    have hq' : ∀ q, q < N * N → lim 1152921504606846976 (Cn[q]?.getD 0) := fun q h => lim_mono (hq q h) (by omega)
    have hkk := (mx_some (b2.diag n (by omega))).1
    have hok : diagOk N (thrL N n Cn) = true := by
      unfold diagOk
      rw [List.all_eq_true]
      intro i hi
      have hi := List.mem_range.1 hi
      have ht := thrL_mx (k := n) (by omega) b1 hkk hq' hi hi
      have h1 : thr n (mx N Cn) i i = some 1 := by
        rcases thr_cases n (mx N Cn) i i with e | ⟨_, e⟩
        · rw [e]; exact b2.diag i hi
        · exfalso
          rw [b2.diag i hi] at e
          exact olt_irrefl e (there_back b2 (by omega) H i hi)
      rw [h1] at ht
      rw [(mx_some ht).1]; decide
    refine ⟨thrL N n Cn, ?_⟩
    rw [List.range_succ, List.foldlM_append, hCn]
    have h3 : stage N Cn n = some (thrL N n Cn) := by unfold stage; rw [if_pos hok]
    simp [h3]
theorem closedR_eq (h0 : chk N L = 0) : closedR N L = closeL N L := by
  obtain ⟨c1, c2, c3, c4⟩ := chk_iff.1 h0
  have hN4 : N ≤ 4 := by omega
  have hL : L.length = N * N := by exact_mod_cast c3
  cases hC : closeL N L with
  | some C =>
    obtain ⟨L1, a2, a3, inv, hl, hE⟩ := close_inv h0 hC
    have hoff : ∀ i j, i < N → j < N → i ≠ j → L1[i * N + j]?.getD 0 = L[i * N + j]?.getD 0 := fun i j hi hj h => by rw [a3 i j hi hj, if_neg h]
    have hw : ∀ i j mid, i < N → j < N → mid.Nodup → i ∉ mid → j ∉ mid → (∀ a, a ∈ mid → a < N) → (i ≠ j ∨ mid ≠ []) → way (mx N L1) (i :: (mid ++ [j])) = way (mx N L) (i :: (mid ++ [j])) := fun i j mid hi hj hn him hjm hm h =>
      dis_way hoff _ (dis_simple mid i j hn him hjm h) (fun a ha => by
        simp only [List.mem_cons, List.mem_append, List.not_mem_nil, or_false] at ha
        rcases ha with rfl | ha | rfl
        · exact hi
        · exact hm a ha
        · exact hj)
    have hne : ∀ i j, i < N → j < N → i ≠ j → mx N C i j = ob (pth N L N i j (full N i)) := fun i j hi hj hij => by
      have hp := pth_full h0 hi hj
      refine ole_antisymm ?_ ?_
      · cases hv : ob (pth N L N i j (full N i)) with
        | none => cases mx N C i j <;> trivial
        | some u =>
          obtain ⟨mid, m1, m2, m3, m4, m5⟩ := hp.wit u hv
          rw [← m5, ← hw i j mid hi hj m1 m2 m3 (fun a ha => (m4 a ha).1) (.inl hij)]
          exact inv.le_way (Nat.le_refl _) mid i j hi hj (fun a ha => (m4 a ha).1)
      · cases hv : mx N C i j with
        | none => cases ob (pth N L N i j (full N i)) <;> trivial
        | some u =>
          obtain ⟨mid, m1, m2, m3⟩ := inv.wit i j hi hj hij u hv
          have n1 := List.nodup_cons.1 m1
          have n2 := List.nodup_append.1 n1.2
          have him : i ∉ mid := fun h => n1.1 (List.mem_append.2 (.inl h))
          have hjm : j ∉ mid := fun h => n2.2.2 j h j (by simp) rfl
          rw [← m3, hw i j mid hi hj n2.1 him hjm m2 (.inl hij)]
          exact low_full h0 hi hj n2.1 him hjm m2
    have hdg : ∀ i, i < N → 1 ≤ pth N L N i i (full N i) := fun i hi => by
      have hp := pth_full h0 hi hi
      apply one_of_ole
      cases hv : ob (pth N L N i i (full N i)) with
      | none => trivial
      | some u =>
        obtain ⟨mid, m1, m2, m3, m4, m5⟩ := hp.wit u hv
        cases mid with
        | nil =>
          rw [List.nil_append, way_two] at m5
          have := a2 i hi
          rw [(mx_some m5).1] at this
          exact this
        | cons k mid =>
          rw [← m5, ← hw i i (k :: mid) hi hi m1 m2 m3 (fun a ha => (m4 a ha).1) (.inr (by simp))]
          have := inv.le_way (Nat.le_refl _) (k :: mid) i i hi hi (fun a ha => (m4 a ha).1)
          rwa [inv.diag i hi] at this
    unfold closedR
    rw [if_pos (by rw [List.all_eq_true]; intro i hi; simpa using hdg i (List.mem_range.1 hi))]
    congr 1
    apply List.ext_getElem
    · simp [hl]
    · intro q hq1 hq2
      have hq : q < N * N := by rw [← hl]; exact hq2
      have hdi := div_lt hq
      have hmo := mod_lt hq
      simp only [List.getElem_map, List.getElem_range]
      have hCq : C[q]?.getD 0 = C[q] := by rw [List.getElem?_eq_getElem hq2]; rfl
      by_cases e : q / N = q % N
      · rw [if_pos e]
        have := (mx_some (inv.diag (q / N) hdi)).1
        rw [show q / N * N + q / N = q by have := div_mod (N := N) (p := q); omega, hCq] at this
        exact this.symm
      · rw [if_neg e]
        have := hne (q / N) (q % N) hdi hmo e
        unfold mx at this
        rw [div_mod, hCq] at this
        exact (ob_inj this).symm
  | none =>
    unfold closedR
    rw [if_neg]
    intro hall
    rw [List.all_eq_true] at hall
    have hdg : ∀ i, i < N → 1 ≤ pth N L N i i (full N i) := fun i hi => by simpa using hall i (List.mem_range.2 hi)
    have H0 : ∀ i mid, i < N → mid.Nodup → i ∉ mid → (∀ a, a ∈ mid → a < N) → ole (some 1) (way (mx N L) (i :: (mid ++ [i]))) := fun i mid hi hn him hm =>
      ole_trans (ole_one (hdg i hi)) (low_full h0 hi hi hn him him hm)
    have hd : ∀ i, i < N → 1 ≤ L[i * N + i]?.getD 0 := fun i hi => by
      have := H0 i [] hi (by simp) (by simp) (by simp)
      rw [List.nil_append, way_two] at this
      exact one_of_ole this
    obtain ⟨L1, hL1⟩ := diag_some hL hd N (Nat.le_refl _)
    obtain ⟨a1, a2, a3⟩ := diag_spec hL N L1 (Nat.le_refl _) hL1
    have a3' : ∀ i j, i < N → j < N → L1[i * N + j]?.getD 0 = if i = j then 1 else L[i * N + j]?.getD 0 := fun i j hi hj => by
      rw [a3 i j hi hj]
      by_cases e : i = j
      · rw [if_pos ⟨e, hi⟩, if_pos e]
      · rw [if_neg (fun h => e h.1), if_neg e]
    have hd1 : ∀ i, i < N → mx N L1 i i = some 1 := fun i hi => by unfold mx; rw [a3' i i hi hi, if_pos rfl]; rfl
    have hE : ∀ i j v, i < N → j < N → mx N L1 i j = some v → -288230376151711744 ≤ v / 2 ∧ v / 2 ≤ 288230376151711744 := fun i j v hi hj hv => by
      obtain ⟨e1, e2⟩ := mx_some hv
      rw [a3' i j hi hj] at e1
      split at e1
      · subst e1; decide
      · have := chk_lim h0 (i * N + j) (by rw [hL]; exact place_lt hi hj)
        rw [e1] at this
        exact this.resolve_left e2
    have hoff : ∀ i j, i < N → j < N → i ≠ j → L1[i * N + j]?.getD 0 = L[i * N + j]?.getD 0 := fun i j hi hj h => by rw [a3' i j hi hj, if_neg h]
    have H1 : ∀ i mid, i < N → mid.Nodup → i ∉ mid → (∀ a, a ∈ mid → a < N) → ole (some 1) (way (mx N L1) (i :: (mid ++ [i]))) := fun i mid hi hn him hm => by
      cases mid with
      | nil => rw [List.nil_append, way_two, hd1 i hi]; exact ole_refl _
      | cons k mid =>
        rw [dis_way hoff _ (dis_simple (k :: mid) i i hn him him (.inr (by simp))) (fun a ha => by
          simp only [List.mem_cons, List.mem_append, List.not_mem_nil, or_false] at ha
          rcases ha with rfl | (rfl | ha) | rfl
          · exact hi
          · exact hm a (by simp)
          · exact hm a (by simp [ha])
          · exact hi)]
        exact H0 i (k :: mid) hi hn him hm
    obtain ⟨Cn, hCn⟩ := stage_some hN4 a1 hd1 hE H1 N (Nat.le_refl _)
    unfold closeL at hC
    rw [hL1, Option.bind_some, hCn] at hC
    cases hC
end
end Dbm
end Go.Proofs.YtjbhpfmnfdebkaaGreat

/-
  The contract of rallentandoref01.May at every number.
-/
namespace Go.Proofs.YtjbhpfmnfdebkaaGreat
set_option linter.unusedVariables false
open Go.RowKit

theorem may_any (a : Int) (w : World) :
    Calls Tryz.prog 294 #[.int .i64 a] w fun e w' => e = .returned (.bool (Num.okB a)) ∧ w = w' := by
  by_cases h1 : -2305843009213693952 ≤ a
  · by_cases h2 : a ≤ 2305843009213693952
    · have hr := Lib.hid (Num.okB_iff.2 ⟨h1, h2⟩)
      go_enter Tryz.func294, Tryz.ntmps294
      go_wp2
      go_ret
      exact ⟨by rw [hr.out]; rfl, rfl⟩
    · have hr := Lib.hid (Num.okB_no.2 (.inr (Int.not_le.1 h2)))
      go_enter Tryz.func294, Tryz.ntmps294
      go_wp2
      go_ret
      exact ⟨by rw [hr.out]; rfl, rfl⟩
  · have hr := Lib.hid (Num.okB_no.2 (.inl (Int.not_le.1 h1)))
    go_enter Tryz.func294, Tryz.ntmps294
    go_wp2
    go_ret
    exact ⟨by rw [hr.out]; rfl, rfl⟩

end Go.Proofs.YtjbhpfmnfdebkaaGreat

/-
  The contracts of the reference of chapter 2 (rallentandoref02), at every bound that is an int64, and every number.
-/
namespace Go.Proofs.YtjbhpfmnfdebkaaGreat
set_option linter.unusedVariables false
open Go.RowKit

theorem tmod2_even {b : Int} (h : b % 2 = 0) : b.tmod 2 = 0 := Int.tmod_eq_zero_of_dvd (Int.dvd_of_emod_eq_zero h)
theorem tmod2_odd {b : Int} (h : ¬ b % 2 = 0) : (b.tmod 2 == 0) = false := by
  simp only [beq_eq_false_iff_ne, ne_eq]
  intro e
  exact h (Int.emod_eq_zero_of_dvd (Int.dvd_of_tmod_eq_zero e))
theorem tdiv2_even {b : Int} (h : b % 2 = 0) : b.tdiv 2 = b / 2 := by
  obtain ⟨k, rfl⟩ := Int.dvd_of_emod_eq_zero h
  rw [Int.mul_tdiv_cancel_left _ (by decide), Int.mul_ediv_cancel_left _ (by decide)]

theorem rnumber_any (b : Int) (hlo : -9223372036854775808 ≤ b) (hhi : b ≤ 9223372036854775807) (w : World) :
    Calls Tryz.prog 95 #[.int .i64 b] w fun e w' => e = .returned (.int .i64 (b / 2)) ∧ w = w' := by
  by_cases h : b % 2 = 0
  · have h1 := tmod2_even h
    have h2 := Lib.hid (tdiv2_even h)
    clear h
    go_enter Tryz.func95, Tryz.ntmps95
    go_wp2
    go_ret
    exact ⟨ret_int h2.out, rfl⟩
  · have h1 := tmod2_odd h
    have h3 : (b.tmod 2 != 0) = true := by simp only [bne, h1]; rfl
    have h2 := Lib.hid (show (b - 1).tdiv 2 = b / 2 by rw [tdiv2_even (by omega)]; omega)
    have h4 : -9223372036854775808 ≤ b - 1 := by omega
    clear h
    go_enter Tryz.func95, Tryz.ntmps95
    go_wp2
    go_ret
    exact ⟨ret_int h2.out, rfl⟩

theorem rstrict_any (b : Int) (w : World) :
    Calls Tryz.prog 270 #[.int .i64 b] w fun e w' => e = .returned (.bool (Bd.st b)) ∧ w = w' := by
  by_cases h : b % 2 = 0
  · have h1 := tmod2_even h
    have hr := Lib.hid (show Bd.st b = true by simp [Bd.st, h])
    clear h
    go_enter Tryz.func270, Tryz.ntmps270
    go_wp2
    go_ret
    exact ⟨by rw [hr.out]; rfl, rfl⟩
  · have h1 := tmod2_odd h
    have hr := Lib.hid (show Bd.st b = false by simp [Bd.st, h])
    clear h
    go_enter Tryz.func270, Tryz.ntmps270
    go_wp2
    go_ret
    exact ⟨by rw [hr.out]; rfl, rfl⟩

theorem rmade_any (c : Int) (s : Bool) (h1 : -4611686018427387904 ≤ c) (h2 : c ≤ 4611686018427387903) (w : World) :
    Calls Tryz.prog 274 #[.int .i64 c, .bool s] w fun e w' => e = .returned (.int .i64 (Bd.mk c s)) ∧ w = w' := by
  cases s
  all_goals
    go_enter Tryz.func274, Tryz.ntmps274
    go_wp2
    go_ret
    exact ⟨ret_int (by simp [Bd.mk]; omega), rfl⟩

/-- Sum: the sum, and whether it may be, of two bounds that may be. -/
def Bd.sum (a b : Int) : Int × Bool :=
  if a = 9223372036854775807 ∨ b = 9223372036854775807 then (9223372036854775807, true) else if Num.okB (a / 2 + b / 2) then (Bd.mk (a / 2 + b / 2) (Bd.st a || Bd.st b), true) else (0, false)

theorem rbsum_any (a b : Int) (ha : Bd.may a = true) (hb : Bd.may b = true) (alo : -9223372036854775808 ≤ a) (ahi : a ≤ 9223372036854775807) (blo : -9223372036854775808 ≤ b) (bhi : b ≤ 9223372036854775807) (w : World) :
    Calls Tryz.prog 271 #[.int .i64 a, .int .i64 b] w fun e w' => e = .returned (.tuple #[.int .i64 (Bd.sum a b).1, .bool (Bd.sum a b).2]) ∧ w = w' := by
  by_cases na : a = 9223372036854775807
  · have hr := Lib.hid (show Bd.sum a b = (9223372036854775807, true) by simp [Bd.sum, na])
    subst na
    clear ha hb
    go_enter Tryz.func271, Tryz.ntmps271
    go_wp2
    go_ret2
    exact ⟨ibtup hr.out rfl rfl, rfl⟩
  · have na1 : (a == 9223372036854775807) = false := by simpa using na
    by_cases nb : b = 9223372036854775807
    · have hr := Lib.hid (show Bd.sum a b = (9223372036854775807, true) by simp [Bd.sum, nb])
      subst nb
      clear ha hb na
      go_enter Tryz.func271, Tryz.ntmps271
      go_wp2
      go_ret2
      exact ⟨ibtup hr.out rfl rfl, rfl⟩
    · have nb1 : (b == 9223372036854775807) = false := by simpa using nb
      obtain ⟨a1, a2⟩ := Num.okB_iff.1 (Bd.okB_of_may ha na)
      obtain ⟨b1, b2⟩ := Num.okB_iff.1 (Bd.okB_of_may hb nb)
      cases hs : Num.okB (a / 2 + b / 2) with
      | false =>
        have hr := Lib.hid (show Bd.sum a b = (0, false) by simp [Bd.sum, na, nb, hs])
        clear ha hb na nb
        go_enter Tryz.func271, Tryz.ntmps271
        go_wp2_with (first
          | (go_at_call 95; refine (rnumber_any _ (by assumption) (by assumption) _).mono ?_; rintro e w' ⟨rfl, rfl⟩)
          | (go_at_call 294; refine (may_any _ _).mono ?_; rintro e w' ⟨rfl, rfl⟩))
        go_ret2
        exact ⟨ibtup hr.out rfl rfl, rfl⟩
      | true =>
        have hr := Lib.hid (show Bd.sum a b = (Bd.mk (a / 2 + b / 2) (Bd.st a || Bd.st b), true) by simp [Bd.sum, na, nb, hs])
        obtain ⟨s1, s2⟩ := Num.okB_iff.1 hs
        clear ha hb na nb
        cases hst : Bd.st a
        all_goals
          go_enter Tryz.func271, Tryz.ntmps271
          go_wp2_with (first
            | (go_at_call 95; refine (rnumber_any _ (by assumption) (by assumption) _).mono ?_; rintro e w' ⟨rfl, rfl⟩)
            | (go_at_call 270; refine (rstrict_any _ _).mono ?_; rintro e w' ⟨rfl, rfl⟩)
            | (go_at_call 274; refine (rmade_any _ _ (by omega) (by omega) _).mono ?_; rintro e w' ⟨rfl, rfl⟩)
            | (go_at_call 294; refine (may_any _ _).mono ?_; rintro e w' ⟨rfl, rfl⟩))
          go_ret2
          exact ⟨ibtup hr.out rfl (by rw [hst]; rfl), rfl⟩

theorem Bd.add_sum {a b : Int} (ha : Bd.may a = true) (hb : Bd.may b = true) : Bd.add a b = if (Bd.sum a b).2 then ((Bd.sum a b).1, 0) else (0, 10) := by
  by_cases h : a = 9223372036854775807 ∨ b = 9223372036854775807
  · simp [Bd.add, Bd.sum, ha, hb, h]
  · cases hs : Num.okB (a / 2 + b / 2) <;> simp [Bd.add, Bd.sum, ha, hb, h, Bd.made, hs]

end Go.Proofs.YtjbhpfmnfdebkaaGreat

/-
  The document's answer of layer 4, by the engine: May, path, Closed.
-/
namespace Go.Proofs.YtjbhpfmnfdebkaaGreat
set_option linter.unusedVariables false
set_option linter.unusedSimpArgs false
set_option maxRecDepth 100000
open Go.RowKit Go.Proofs.YtjbhpfmnfdebkaaGreat.Eng Enc

namespace Dbm
def int64 (b : Int) : Prop := -9223372036854775808 ≤ b ∧ b ≤ 9223372036854775807
end Dbm
theorem atB {w0 : Base} {hp : List LB} {r L : List Nat} {w w1 : World} (h : At w0 hp r L w w1) (hL : ∀ b, b ∈ L → w.heap.size ≤ b) : Below w.heap.size w w1 :=
  ⟨h.below.os.trans h.base.os.symm, h.below.tape.trans h.base.tape.symm, h.below.output.trans h.base.output.symm, h.size, fun k hk => h.step k hk fun hm => by have := hL k hm; omega⟩
theorem rmay04_any (n : Int) (L : List Int) (hn : Dbm.int64 n) (hL : ∀ b, b ∈ L → Dbm.int64 b) (a : Option Addr) (cap : Nat) (w : World) (hS : Sl w.heap.size w (.slice a L.length cap) L) :
    Calls Tryz.prog 173 #[.agg #[.int .i64 n, .slice a L.length cap]] w fun e w' => e = .returned (.bool (decide (Dbm.chk n L = 0))) ∧ Below w.heap.size w w' := by
  refine fun_eq 0 w Tryz.func173 (args := [.agg [.val (.int .i64 n), .val (.slice a L.length cap)]]) rfl rfl ?_
  obtain ⟨_, _, hfe, hcap1, hcap2, _⟩ := hS.form
  injection hfe with _ _ hfe
  subst hfe
  unfold maxLen at hcap2
  refine NewI.mk fun b1 hb1 => ?_
  have no : ¬ (1 ≤ n ∧ n ≤ 4 ∧ (L.length : Int) = n * n ∧ L.any (fun b => !(Dbm.mayC b)) = false) → decide (Dbm.chk n L = 0) = false := fun h => decide_eq_false (fun e => h (Dbm.chk_iff.1 e))
  refine Branch.mk (fun z1 => ?_) (fun z1 => ?_)
  · have h1 : n < 1 := of_decide_eq_true z1
    rw [no (by omega)]
    exact EndI.mk fun w9 h9 => rfl
  have h1 : ¬ n < 1 := of_decide_eq_false z1
  refine Branch.mk (fun z2 => ?_) (fun z2 => ?_)
  · have h2 : 4 < n := of_decide_eq_true z2
    rw [no (by omega)]
    exact EndI.mk fun w9 h9 => rfl
  have h2 : ¬ 4 < n := of_decide_eq_false z2
  have hnn : 0 ≤ n * n ∧ n * n ≤ 16 := by
    have : n = 1 ∨ n = 2 ∨ n = 3 ∨ n = 4 := by omega
    rcases this with rfl | rfl | rfl | rfl <;> decide
  refine Need.mk (by simp only [inK]; omega) ?_
  refine Branch.mk (fun z3 => ?_) (fun z3 => ?_)
  · have h3 : (L.length : Int) ≠ n * n := of_decide_eq_true z3
    rw [no (fun h => h3 h.2.2.1)]
    exact EndI.mk fun w9 h9 => rfl
  have h3 : (L.length : Int) = n * n := by have := of_decide_eq_false z3; omega
  refine LoopI.invC (α := Nat × World) (fun y => [(3, .val (.int .i64 y.1))]) (fun y => y.2) (fun y => y.1 ≤ L.length ∧ Below w.heap.size w y.2 ∧ ∀ b, b ∈ L.take y.1 → Dbm.mayC b = true) (fun y => L.length - y.1) ?_ ?_
  · intro w1 h1
    exact ⟨(0, w1), Cov.mk (by repeat' (first | exact trivial | refine And.intro rfl ?_)) rfl rfl rfl rfl rfl, rfl, Nat.zero_le _, h1.below, by simp⟩
  rintro ⟨k, V⟩ ⟨hk, hV, hall⟩
  simp only at hk hV hall
  refine Branch.mk (fun z4 => ?_) (fun z4 => ?_)
  · have hlt : k < L.length := by have := of_decide_eq_true z4; simp only at this; omega
    have hx := List.getElem?_eq_getElem (l := L) (i := k) hlt
    generalize L[k] = x at hx
    have hxi := hL x (List.mem_of_getElem? hx)
    have hSV := hS.go hV hV.size
    refine hSV.idx hx fun ad had => ?_
    refine hSV.ld1 hx had (Below.refl _ _) (by simp) ?_
    have bad : Dbm.mayC x = false → decide (Dbm.chk n L = 0) = false := fun h => no (fun h4 => by
      have := List.any_eq_false.1 h4.2.2.2 x (List.mem_of_getElem? hx)
      simp [h] at this)
    have good : Dbm.mayC x = true → ∀ b, b ∈ L.take (k + 1) → Dbm.mayC b = true := fun h b hb => by
      rw [List.take_add_one, hx] at hb
      rcases List.mem_append.1 hb with hb | hb
      · exact hall b hb
      · rw [List.mem_singleton.1 hb]; exact h
    refine Branch.mk (fun z5 => ?_) (fun z5 => ?_)
    · have hne : x ≠ 9223372036854775807 := of_decide_eq_true z5
      have hmC : Dbm.mayC x = (decide (-288230376151711744 ≤ x / 2) && decide (x / 2 ≤ 288230376151711744)) := by unfold Dbm.mayC; simp [hne]
      refine CallI.to0 (fun w => rnumber_any x hxi.1 hxi.2 w) fun w2 => ?_
      refine Branch.mk (fun z6 => ?_) (fun z6 => ?_)
      · have h6 : x / 2 < -288230376151711744 := of_decide_eq_true z6
        rw [bad (by rw [hmC]; simp; omega)]
        exact EndI.mk fun w9 h9 => rfl
      have h6 : ¬ x / 2 < -288230376151711744 := of_decide_eq_false z6
      refine CallI.to0 (fun w => rnumber_any x hxi.1 hxi.2 w) fun w3 => ?_
      refine Branch.mk (fun z7 => ?_) (fun z7 => ?_)
      · have h7 : 288230376151711744 < x / 2 := of_decide_eq_true z7
        rw [bad (by rw [hmC]; simp; omega)]
        exact EndI.mk fun w9 h9 => rfl
      have h7 : ¬ 288230376151711744 < x / 2 := of_decide_eq_false z7
      refine Need.mk (by simp only [inK]; omega) (EndI.mk fun w9 h9 => ⟨(k + 1, w9), Cov.mk (by repeat' (first | exact trivial | refine And.intro rfl ?_)) rfl rfl rfl rfl rfl, rfl, ⟨hlt, h9.below, good (by rw [hmC]; simp; omega)⟩, by simp only; omega⟩)
    · have heq : x = 9223372036854775807 := by have := of_decide_eq_false z5; simpa using this
      refine Need.mk (by simp only [inK]; omega) (EndI.mk fun w9 h9 => ⟨(k + 1, w9), Cov.mk (by repeat' (first | exact trivial | refine And.intro rfl ?_)) rfl rfl rfl rfl rfl, rfl, ⟨hlt, h9.below, good (by rw [heq]; decide)⟩, by simp only; omega⟩)
  · have hge : k = L.length := by have := of_decide_eq_false z4; simp only at this; omega
    subst hge
    rw [List.take_length] at hall
    have hc : Dbm.chk n L = 0 := Dbm.chk_iff.2 ⟨by omega, by omega, h3, by rw [List.any_eq_false]; intro b hb; simp [hall b hb]⟩
    refine EndI.mk fun w9 h9 => ?_
    rw [decide_eq_true hc]
section
variable {N : Nat} {L : List Int}
theorem lim_int64 {v : Int} (h : Dbm.lim 1152921504606846976 v) : Dbm.int64 v ∧ Bd.may v = true := by
  rcases h with h | h
  · rw [h]; exact ⟨by unfold Dbm.NO Dbm.int64; omega, by decide⟩
  · exact ⟨by unfold Dbm.int64; omega, Bd.may_of (Num.okB_iff.2 (by omega))⟩
/-- Sum is the program's sum where bounds are far enough below what may be. -/
theorem sum_add {u v : Int} (hu : Dbm.lim 1152921504606846976 u) (hv : Dbm.lim 1152921504606846976 v) : Bd.sum u v = ((Bd.add u v).1, true) := by
  have h := Bd.add_sum (lim_int64 hu).2 (lim_int64 hv).2
  have h2 : (Bd.sum u v).2 = true := by
    unfold Bd.sum
    split
    · rfl
    · rename_i hn
      have hu' := hu.resolve_left (fun e => hn (.inl e))
      have hv' := hv.resolve_left (fun e => hn (.inr e))
      rw [if_pos (Num.okB_iff.2 (by omega))]
  rw [h, if_pos h2]
  exact Prod.ext rfl h2
theorem pathStep_any (h0 : Dbm.chk N L = 0) (a : Option Addr) (cap : Nat) (i j S : Nat) (hi : i < N) (hj : j < N) (hS16 : S < 16) (p : Nat → Int) (hp : ∀ k, k < N → Dbm.skip i j S k = false → Dbm.lim 1152921504606846976 (p k)) (w : World) (hS : Sl w.heap.size w (.slice a L.length cap) L)
    (hcall : ∀ k, k < N → Dbm.skip i j S k = false → ∀ w1, Sl w1.heap.size w1 (.slice a L.length cap) L → Calls Tryz.prog 236 #[.agg #[.int .i64 N, .slice a L.length cap], .int .i64 k, .int .i64 j, .int .i64 (S - 2 ^ k : Nat)] w1 fun e w' => e = .returned (.int .i64 (p k)) ∧ Below w1.heap.size w1 w') :
    Calls Tryz.prog 236 #[.agg #[.int .i64 N, .slice a L.length cap], .int .i64 i, .int .i64 j, .int .i64 S] w fun e w' => e = .returned (.int .i64 ((List.range N).foldl (Dbm.pstep (Dbm.skip i j S) (Dbm.cand N L i p)) (L[i * N + j]?.getD 0))) ∧ Below w.heap.size w w' := by
  obtain ⟨c1, c2, c3, c4⟩ := Dbm.chk_iff.1 h0
  have hN4 : N ≤ 4 := by omega
  have hLN : L.length = N * N := by exact_mod_cast c3
  have hNN : N * N ≤ 16 := Nat.mul_le_mul hN4 hN4
  refine fun_eq 0 w Tryz.func236 (args := [.agg [.val (.int .i64 N), .val (.slice a L.length cap)], .val (.int .i64 i), .val (.int .i64 j), .val (.int .i64 S)]) rfl rfl ?_
  have hpl := fun k (hk : k < N) => Dbm.place_lt (N := N) (i := i) (j := k) hi hk
  have hget := fun k (hk : k < N) => show L[i * N + k]? = some (L[i * N + k]?.getD 0) by rw [List.getElem?_eq_getElem (by rw [hLN]; exact hpl k hk)]; rfl
  have hiN : ((i : Int) * (N : Int)) = ((i * N : Nat) : Int) := (Int.natCast_mul i N).symm
  have hiN16 : i * N < 16 := by have := hpl j hj; omega
  refine NewI.mk fun b1 hb1 => ?_
  refine Need.mk (by rw [hiN]; simp only [inK]; omega) ?_
  have hpj := hpl j hj
  refine Need.mk (by rw [hiN]; simp only [inK]; omega) ?_
  refine hS.idx (k := i * N + j) (hget j hj) fun ad had => ?_
  refine hS.ld1 (k := i * N + j) (hget j hj) had (Below.refl _ _) (by simp) ?_
  refine LoopI.invC (α := (Nat × Int) × World) (fun y => [(10, .val (.int .i64 y.1.1)), (9, .val (.int .i64 y.1.2))]) (fun y => y.2) (fun y => y.1.1 ≤ N ∧ Below w.heap.size w y.2 ∧ y.1.2 = (List.range y.1.1).foldl (Dbm.pstep (Dbm.skip i j S) (Dbm.cand N L i p)) (L[i * N + j]?.getD 0)) (fun y => N - y.1.1) ?_ ?_
  · intro w1 h1
    exact ⟨((0, L[i * N + j]?.getD 0), w1), Cov.mk (by repeat' (first | exact trivial | refine And.intro rfl ?_)) rfl rfl rfl rfl rfl, rfl, Nat.zero_le _, h1.below, rfl⟩
  rintro ⟨⟨k, best⟩, V⟩ ⟨hk, hV, hbest⟩
  simp only at hk hV hbest
  refine Branch.mk (fun z1 => ?_) (fun z1 => ?_)
  · have hlt : k < N := by have := of_decide_eq_true z1; simp only at this; omega
    have hnext : (List.range (k + 1)).foldl (Dbm.pstep (Dbm.skip i j S) (Dbm.cand N L i p)) (L[i * N + j]?.getD 0) = Dbm.pstep (Dbm.skip i j S) (Dbm.cand N L i p) best k := by
      rw [List.range_succ, List.foldl_append, ← hbest]; rfl
    have hbit : bits .and .i64 ((S : Int) / 2 ^ ((k : Int).toNat)) 1 = ((S / 2 ^ k % 2 : Nat) : Int) := by
      rw [i64_and1, Int.toNat_natCast]; norm_cast
    have hsame : Dbm.skip i j S k = true → (List.range (k + 1)).foldl (Dbm.pstep (Dbm.skip i j S) (Dbm.cand N L i p)) (L[i * N + j]?.getD 0) = best := fun h => by rw [hnext]; unfold Dbm.pstep; rw [if_pos h]
    refine Need.mk (by simp only [Int.toNat_natCast, IntKind.bits]; omega) ?_
    conv => whnf
    rw [hbit]
    refine Branch.mk (fun z2 => ?_) (fun z2 => ?_)
    · have h2 : Dbm.inS S k = false := by have := of_decide_eq_true z2; unfold Dbm.inS; simp; omega
      refine Need.mk (by simp only [inK]; omega) (EndI.mk fun w9 h9 => ⟨((k + 1, best), w9), Cov.mk (by repeat' (first | exact trivial | refine And.intro rfl ?_)) rfl rfl rfl rfl rfl, rfl, ⟨hlt, h9.below, (hsame (by simp [Dbm.skip, h2])).symm⟩, by simp only; omega⟩)
    have h2 : Dbm.inS S k = true := by have := of_decide_eq_false z2; unfold Dbm.inS; simp; omega
    refine Branch.mk (fun z3 => ?_) (fun z3 => ?_)
    · have h3 : k = i := by have := of_decide_eq_true z3; simp only at this; omega
      refine Need.mk (by simp only [inK]; omega) (EndI.mk fun w9 h9 => ⟨((k + 1, best), w9), Cov.mk (by repeat' (first | exact trivial | refine And.intro rfl ?_)) rfl rfl rfl rfl rfl, rfl, ⟨hlt, h9.below, (hsame (by simp [Dbm.skip, h3])).symm⟩, by simp only; omega⟩)
    have h3 : k ≠ i := by have := of_decide_eq_false z3; simp only at this; omega
    refine Branch.mk (fun z4 => ?_) (fun z4 => ?_)
    · have h4 : k = j := by have := of_decide_eq_true z4; simp only at this; omega
      refine Need.mk (by simp only [inK]; omega) (EndI.mk fun w9 h9 => ⟨((k + 1, best), w9), Cov.mk (by repeat' (first | exact trivial | refine And.intro rfl ?_)) rfl rfl rfl rfl rfl, rfl, ⟨hlt, h9.below, (hsame (by simp [Dbm.skip, h4])).symm⟩, by simp only; omega⟩)
    have h4 : k ≠ j := by have := of_decide_eq_false z4; simp only at this; omega
    have hsk : Dbm.skip i j S k = false := by simp [Dbm.skip, h2, h3, h4]
    have hSk : 2 ^ k ≤ S ∧ 2 ^ k ≤ 8 := by
      have key : ∀ S : Fin 16, ∀ k : Fin 4, Dbm.inS S.1 k.1 = true → 2 ^ k.1 ≤ S.1 ∧ 2 ^ k.1 ≤ 8 := by decide +kernel
      exact key ⟨S, hS16⟩ ⟨k, by omega⟩ h2
    have hpow : (2 : Int) ^ ((k : Int).toNat) = ((2 ^ k : Nat) : Int) := by rw [Int.toNat_natCast]; norm_cast
    have hc := hcall k hlt hsk
    generalize hP : 2 ^ k = P at hSk hpow hc
    have hsub : (S : Int) - 1 * (P : Int) = ((S - P : Nat) : Int) := by omega
    refine DrawI.go (.tk 0 (.tk 1 (.tk 2 (.tk 3 (.tk 4 (.tk 5 (.tk 6 (.tk 7 (.tk 8 (.tk 9 (.tk 10 (.tk 11 (.tk 12 (.tk 13 (.tk 14 (.tk 15 (.tk 16 (.ev 17 (.ev 18 (.tk 19 (.tk 20 (.tk 21 (.tk 22 (.tk 23 .done)))))))))))))))))))))))) (by kernel_rfl) fun w2 h2' => ?_
    have hpk := hpl k hlt
    have hw2 : Below w.heap.size w w2 := hV.trans (h2'.go.mono hV.size)
    have hS2 := hS.go hw2 hw2.size
    refine Need.mk (by rw [hiN]; simp only [inK]; omega) ?_
    refine Need.mk (by rw [hiN]; simp only [inK]; omega) ?_
    refine hS2.idx (k := i * N + k) (hget k hlt) fun ad2 had2 => ?_
    refine hS2.ld1 (k := i * N + k) (hget k hlt) had2 (Below.refl _ _) (by simp) ?_
    refine Need.mk (by rw [hpow]; simp only [Int.toNat_natCast, IntKind.bits, inK]; omega) ?_
    conv => whnf
    rw [hpow]
    refine Need.mk (by rw [hsub]; simp only [inK]; omega) ?_
    conv => whnf
    rw [hsub]
    apply CallI.use1
    focus (exact fun w3 h3 => hc w3 (hS.go h3.below h3.below.size))
    intro w3 v3 h3' hB3
    have hlu : Dbm.lim 1152921504606846976 (L[i * N + k]?.getD 0) := Dbm.lim_mono (Dbm.chk_lim h0 (i * N + k) (by rw [hLN]; exact hpk)) (by omega)
    have hlp := hp k hlt hsk
    have hsum := fun w => rbsum_any (L[i * N + k]?.getD 0) (p k) (lim_int64 hlu).2 (lim_int64 hlp).2 (lim_int64 hlu).1.1 (lim_int64 hlu).1.2 (lim_int64 hlp).1.1 (lim_int64 hlp).1.2 w
    rw [sum_add hlu hlp] at hsum
    refine CallI.to0 (fun w => hsum w) fun w4 => ?_
    refine Branch.yes rfl ?_
    refine Branch.mk (fun z5 => ?_) (fun z5 => ?_)
    · have h5 : Dbm.cand N L i p k < best := of_decide_eq_true z5
      refine Need.mk (by simp only [inK]; omega) (EndI.mk fun w9 h9 => ⟨((k + 1, Dbm.cand N L i p k), w9), Cov.mk (by repeat' (first | exact trivial | refine And.intro rfl ?_)) rfl rfl rfl rfl rfl, rfl, ⟨hlt, h9.below, ?_⟩, by simp only; omega⟩)
      simp only
      rw [hnext]; unfold Dbm.pstep; rw [if_neg (by simp [hsk]), if_pos h5]
    · have h5 : ¬ Dbm.cand N L i p k < best := of_decide_eq_false z5
      refine Need.mk (by simp only [inK]; omega) (EndI.mk fun w9 h9 => ⟨((k + 1, best), w9), Cov.mk (by repeat' (first | exact trivial | refine And.intro rfl ?_)) rfl rfl rfl rfl rfl, rfl, ⟨hlt, h9.below, ?_⟩, by simp only; omega⟩)
      simp only
      rw [hnext]; unfold Dbm.pstep; rw [if_neg (by simp [hsk]), if_neg h5]
  · have hge : k = N := by have := of_decide_eq_false z1; simp only at this; omega
    subst hge
    refine EndI.mk fun w9 h9 => ?_
    rw [hbest]
theorem path_any (h0 : Dbm.chk N L = 0) (a : Option Addr) (cap : Nat) : ∀ (f i j S : Nat), i < N → j < N → S < 16 → Dbm.inS S i = false → Dbm.pc S ≤ f → ∀ w, Sl w.heap.size w (.slice a L.length cap) L →
    Calls Tryz.prog 236 #[.agg #[.int .i64 N, .slice a L.length cap], .int .i64 i, .int .i64 j, .int .i64 S] w fun e w' => e = .returned (.int .i64 (Dbm.pth N L f i j S)) ∧ Below w.heap.size w w'
  | 0, i, j, S, hi, hj, hS, hiS, hf, w, hSl => by
    obtain ⟨c1, c2, c3, c4⟩ := Dbm.chk_iff.1 h0
    have hsk : ∀ k, k < N → Dbm.skip i j S k = true := fun k hk => by
      have := Dbm.inS_zero hS (by omega) (show k < 4 by omega)
      simp [Dbm.skip, this]
    have hno : ∀ k, k < N → Dbm.skip i j S k = false → False := fun k hk h => by rw [hsk k hk] at h; cases h
    have hfold : ∀ n, n ≤ N → (List.range n).foldl (Dbm.pstep (Dbm.skip i j S) (Dbm.cand N L i fun _ => 0)) (L[i * N + j]?.getD 0) = L[i * N + j]?.getD 0 := by
      intro n
      induction n with
      | zero => intro _; rfl
      | succ n ih =>
        intro hn
        rw [List.range_succ, List.foldl_append, ih (by omega)]
        show Dbm.pstep _ _ _ n = _
        unfold Dbm.pstep; rw [if_pos (hsk n (by omega))]
    have h := pathStep_any h0 a cap i j S hi hj hS (fun _ => 0) (fun k hk h => (hno k hk h).elim) w hSl (fun k hk h => (hno k hk h).elim)
    rw [hfold N (Nat.le_refl _)] at h
    exact h
  | f + 1, i, j, S, hi, hj, hS, hiS, hf, w, hSl => by
    obtain ⟨c1, c2, c3, c4⟩ := Dbm.chk_iff.1 h0
    have hin : ∀ k, k < N → Dbm.skip i j S k = false → Dbm.inS S k = true ∧ Dbm.inS (S - 2 ^ k) k = false ∧ Dbm.pc (S - 2 ^ k) ≤ f := fun k hk h => by
      have h1 : Dbm.inS S k = true := by unfold Dbm.skip at h; simp at h; exact h.1.1
      have h2 := Dbm.inS_less (a := k) h1 hS (by omega) (by omega)
      refine ⟨h1, ?_, by omega⟩
      cases hh : Dbm.inS (S - 2 ^ k) k with
      | false => rfl
      | true => exact absurd rfl ((h2.1.1 hh).2)
    exact pathStep_any h0 a cap i j S hi hj hS (fun k => Dbm.pth N L f k j (S - 2 ^ k)) (fun k hk h => (Dbm.pth_ok h0 f k j (S - 2 ^ k) hk hj (Nat.lt_of_le_of_lt (Nat.sub_le _ _) hS) (hin k hk h).2.1).lim) w hSl
      (fun k hk h w1 hS1 => path_any h0 a cap f k j (S - 2 ^ k) hk hj (Nat.lt_of_le_of_lt (Nat.sub_le _ _) hS) (hin k hk h).2.1 (hin k hk h).2.2 w1 hS1)
end
end Go.Proofs.YtjbhpfmnfdebkaaGreat

/-
  The document's answer of layer 4, by the engine: Closed.
-/
namespace Go.Proofs.YtjbhpfmnfdebkaaGreat
set_option linter.unusedVariables false
set_option linter.unusedSimpArgs false
set_option maxRecDepth 100000
open Go.RowKit Go.Proofs.YtjbhpfmnfdebkaaGreat.Eng Enc

namespace Dbm
def ent (N : Nat) (L : List Int) (q : Nat) : Int := if q / N = q % N then 1 else pth N L N (q / N) (q % N) (full N (q / N))
def ents (N : Nat) (L : List Int) (p : Nat) : List Int := (List.range p).map (ent N L)
theorem ents_len (N : Nat) (L : List Int) (p : Nat) : (ents N L p).length = p := by simp [ents]
theorem ents_succ (N : Nat) (L : List Int) (p : Nat) : ents N L (p + 1) = ents N L p ++ [ent N L p] := by simp [ents, List.range_succ]
/-- what the document's closing answers: clocks, bounds, whether there is one. -/
def rc (N : Nat) (L : List Int) : Int × List Int × Bool := match closeL N L with | some C => (N, C, true) | none => (0, [], false)
theorem rc_no {N : Nat} {L : List Int} (h0 : chk N L = 0) {i : Nat} (hi : i < N) (h : pth N L N i i (full N i) < 1) : rc N L = (0, [], false) := by
  have : closedR N L = none := by
    unfold closedR
    rw [if_neg]
    intro hall
    have := (List.all_eq_true.1 hall) i (List.mem_range.2 hi)
    simp at this; omega
  unfold rc; rw [← closedR_eq h0, this]
theorem rc_yes {N : Nat} {L : List Int} (h0 : chk N L = 0) (h : ∀ i, i < N → 1 ≤ pth N L N i i (full N i)) : rc N L = ((N : Int), ents N L (N * N), true) := by
  have : closedR N L = some (ents N L (N * N)) := by
    unfold closedR
    rw [if_pos (by rw [List.all_eq_true]; intro i hi; simpa using h i (List.mem_range.1 hi))]
    rfl
  unfold rc; rw [← closedR_eq h0, this]
theorem full_bits {N i : Nat} (hN : N ≤ 4) (hi : i < N) : bits .andNot .i64 (1 * 2 ^ ((N : Int).toNat) - 1) (1 * 2 ^ ((i : Int).toNat)) = ((full N i : Nat) : Int) ∧ full N i ≤ 15 := by
  have key : ∀ N : Fin 5, ∀ i : Fin 4, i.1 < N.1 → bits .andNot .i64 (1 * 2 ^ (((N.1 : Nat) : Int).toNat) - 1) (1 * 2 ^ (((i.1 : Nat) : Int).toNat)) = ((full N.1 i.1 : Nat) : Int) ∧ full N.1 i.1 ≤ 15 := by decide +kernel
  exact key ⟨N, by omega⟩ ⟨i, by omega⟩ hi
theorem shl_one {N : Nat} (hN : N ≤ 4) : (1 : Int) * 2 ^ ((N : Int).toNat) ≤ 16 ∧ 1 ≤ (1 : Int) * 2 ^ ((N : Int).toNat) := by
  have key : ∀ N : Fin 5, (1 : Int) * 2 ^ (((N.1 : Nat) : Int).toNat) ≤ 16 ∧ 1 ≤ (1 : Int) * 2 ^ (((N.1 : Nat) : Int).toNat) := by decide +kernel
  exact key ⟨N, by omega⟩
end Dbm
section
variable {N : Nat} {L : List Int}
theorem rclosed_any (h0 : Dbm.chk N L = 0) (a : Option Addr) (cap : Nat) (w : World) (hS : Sl w.heap.size w (.slice a L.length cap) L) :
    Calls Tryz.prog 174 #[.agg #[.int .i64 N, .slice a L.length cap]] w (Ret w fun v w' => ∃ a' c', v = .tuple #[.agg #[.int .i64 (Dbm.rc N L).1, .slice a' (Dbm.rc N L).2.1.length c'], .bool (Dbm.rc N L).2.2] ∧ Own 102 w.heap.size w' (.slice a' (Dbm.rc N L).2.1.length c') (Dbm.rc N L).2.1) := by
  obtain ⟨c1, c2, c3, c4⟩ := Dbm.chk_iff.1 h0
  have hN4 : N ≤ 4 := by omega
  have hLN : L.length = N * N := by exact_mod_cast c3
  have hNN : N * N ≤ 16 := Nat.mul_le_mul hN4 hN4
  refine fun_ret 0 w Tryz.func174 (args := [.agg [.val (.int .i64 N), .val (.slice a L.length cap)]]) rfl rfl ?_
  refine NewI.mk fun b1 hb1 => ?_
  refine NewI.mk fun b2 hb2 => ?_
  refine NewI.mk fun b3 hb3 => ?_
  obtain ⟨X, hX1, hX2, hX3, hXw, hXm⟩ : ∃ X, b1 < X ∧ b2 < X ∧ b3 < X ∧ w.heap.size ≤ X ∧ ∀ n, b1 < n → b2 < n → b3 < n → w.heap.size ≤ n → X ≤ n := ⟨max (max (max b1 b2) b3 + 1) w.heap.size, by omega, by omega, by omega, by omega, fun n h1 h2 h3 h4 => by omega⟩
  refine LoopI.inv (α := Nat × World × Value) (fun y => [(5, .val (.int .i64 y.1))]) (fun y => [⟨[.val (.int .i64 N), .val (.slice a L.length cap)], 99⟩, ⟨[.val (.int .i64 0), .val (.slice none 0 0)], 99⟩, ⟨[.val (.int .i64 N), .val y.2.2], 99⟩]) (fun y => y.2.1)
    (fun y => y.1 ≤ N ∧ Below w.heap.size w y.2.1 ∧ X ≤ y.2.1.heap.size ∧ Own 102 X y.2.1 y.2.2 (Dbm.ents N L (y.1 * N)) ∧ ∀ i, i < y.1 → 1 ≤ Dbm.pth N L N i i (Dbm.full N i)) (fun y => N - y.1) ?_ ?_
  · intro w1 h1
    exact ⟨(0, w1, .slice none 0 0), Cov.mk (by repeat' (first | exact trivial | refine And.intro rfl ?_)) rfl rfl rfl rfl rfl, rfl, Nat.zero_le _, h1.below, hXm _ (h1.lt b1 (by simp)) (h1.lt b2 (by simp)) (h1.lt b3 (by simp)) h1.below.size, by simp only [Nat.zero_mul]; exact Own.nil, fun i hi => by simp at hi⟩
  rintro ⟨i, V, sv⟩ ⟨hi, hV, hXV, hO, hd⟩
  simp only at hi hV hXV hO hd
  refine Branch.mk (fun z1 => ?_) (fun z1 => ?_)
  · have hiN : i < N := by have := of_decide_eq_true z1; simp only at this; omega
    refine LoopI.inv (α := Nat × World × Value) (fun y => [(6, .val (.int .i64 y.1))]) (fun y => [⟨[.val (.int .i64 N), .val (.slice a L.length cap)], 99⟩, ⟨[.val (.int .i64 0), .val (.slice none 0 0)], 99⟩, ⟨[.val (.int .i64 N), .val y.2.2], 99⟩]) (fun y => y.2.1)
      (fun y => y.1 ≤ N ∧ Below w.heap.size w y.2.1 ∧ X ≤ y.2.1.heap.size ∧ Own 102 X y.2.1 y.2.2 (Dbm.ents N L (i * N + y.1)) ∧ (i < y.1 → 1 ≤ Dbm.pth N L N i i (Dbm.full N i))) (fun y => N - y.1) ?_ ?_
    · intro w1 h1
      exact ⟨(0, w1, sv), Cov.mk (by repeat' (first | exact trivial | refine And.intro rfl ?_)) rfl rfl rfl rfl rfl, rfl, Nat.zero_le _, h1.below, Nat.le_trans hXV h1.size, hO.at h1 (by simp), fun h => by simp at h⟩
    rintro ⟨j, U, tv⟩ ⟨hj, hU, hXU, hO2, hd2⟩
    simp only at hj hU hXU hO2 hd2
    refine Branch.mk (fun z2 => ?_) (fun z2 => ?_)
    · have hjN : j < N := by have := of_decide_eq_true z2; simp only at this; omega
      obtain ⟨fb, fb15⟩ := Dbm.full_bits hN4 hiN
      obtain ⟨f1, f2, f3, _⟩ := Dbm.full_ok (N := N) (i := i) hN4 hiN
      have sN := Dbm.shl_one hN4
      have si := Dbm.shl_one (N := i) (by omega)
      refine DrawI.go (.tk 0 (.tk 1 (.tk 2 (.tk 3 (.tk 4 (.tk 5 (.tk 6 (.tk 7 .done)))))))) (by kernel_rfl) fun w2 h2 => ?_
      refine Need.mk ⟨by omega, by simp only [Int.toNat_natCast, IntKind.bits]; omega, by simp only [inK]; omega⟩ ?_
      refine Need.mk (by simp only [inK]; omega) ?_
      refine Need.mk ⟨by simp only; omega, by simp only [Int.toNat_natCast, IntKind.bits]; omega, by simp only [inK]; omega⟩ ?_
      conv => whnf
      rw [fb]
      apply CallI.use1
      focus (exact fun w3 h3 => path_any h0 a cap N i j (Dbm.full N i) hiN hjN f1 f2 f3 w3 (hS.go h3.below h3.below.size))
      intro w3 v3 h3 hB3
      have hv3 : Below w.heap.size w v3 := h3.below.trans (hB3.mono h3.below.size)
      have hO3 := (hO2.below ((atB h2 (by simp)))).below (atB h3 (by simp)) |>.below hB3
      have hXv3 : X ≤ v3.heap.size := Nat.le_trans hXU (Nat.le_trans h2.size (Nat.le_trans h3.size hB3.size))
      have hq1 : (i * N + j) / N = i := Dbm.place_div hjN
      have hq2 : (i * N + j) % N = j := Dbm.place_mod hjN
      have hpl : i * N + j < N * N := Dbm.place_lt hiN hjN
      have hb1 : b1 < v3.heap.size := by omega
      refine Branch.mk (fun z3 => ?_) (fun z3 => ?_)
      · have hij : i = j := by have := of_decide_eq_true z3; simp only at this; omega
        refine Branch.mk (fun z4 => ?_) (fun z4 => ?_)
        · have hlt1 := of_decide_eq_true z4
          rw [Dbm.rc_no h0 hiN (by rw [← hij] at hlt1; exact hlt1)]
          exact EndI.mk fun w9 h9 => ⟨_, _, rfl, Own.nil⟩
        have hge1 : 1 ≤ Dbm.pth N L N i i (Dbm.full N i) := by have := of_decide_eq_false z4; rw [← hij] at this; omega
        have hent : Dbm.ent N L (i * N + j) = 1 := by unfold Dbm.ent; rw [hq1, hq2, if_pos hij]
        have hes : Dbm.ents N L (i * N + (j + 1)) = Dbm.ents N L (i * N + j) ++ [1] := by rw [← Nat.add_assoc, Dbm.ents_succ, hent]
        refine NewI.mk fun b5 hb5 => ?_
        have hb5' : v3.heap.size ≤ b5 := hb5
        have hr : ∀ g, tv.ownBlock = some g → w.heap.size ≤ g ∧ g ∉ [b1, b2, b3, b5] := fun g hg => by
          have := hO3.lt g hg
          refine ⟨Nat.le_trans hXw this.1, fun hm => ?_⟩
          simp only [List.mem_cons, List.not_mem_nil, or_false] at hm
          omega
        refine GenN.app (α := Int) elB (Dbm.ents N L (i * N + j)) [(1 : Int)] X (fun w5 h5 => hO3.below h5.go) (fun w5 h5 => src_own h5 3 rfl rfl rfl rfl) (by rw [Dbm.ents_len]; unfold maxLen; simp; omega) (by rw [Dbm.ents_len]; simp; omega) (fun w5 h5 => Nat.le_trans hXv3 h5.size)
          (fun w5 w6 h5 hg => keep_grown h5 hg hr) fun sv' w5 w6 h5 hg hO' => ?_
        obtain ⟨a', c', rfl⟩ := hO'.form
        rw [← hes] at hO' ⊢
        have hX6 : X ≤ w6.heap.size := Nat.le_trans hXv3 (Nat.le_trans h5.size hg.size)
        refine Need.mk (by simp only [inK]; omega) (EndI.mk fun w7 h7 => ⟨(j + 1, w7, .slice a' (Dbm.ents N L (i * N + (j + 1))).length c'), Cov.mk (by repeat' (first | exact trivial | refine And.intro rfl ?_)) rfl rfl rfl rfl rfl, rfl, ⟨hjN, h7.below, Nat.le_trans hX6 h7.size, ?_, fun h => hge1⟩, by simp only; omega⟩)
        exact hO'.at h7 (by intro b hb; simp at hb; subst hb; exact hX3)
      · have hij : i ≠ j := by have := of_decide_eq_false z3; simp only at this; omega
        have hent : Dbm.ent N L (i * N + j) = Dbm.pth N L N i j (Dbm.full N i) := by unfold Dbm.ent; rw [hq1, hq2, if_neg hij]
        have hes : Dbm.ents N L (i * N + (j + 1)) = Dbm.ents N L (i * N + j) ++ [Dbm.pth N L N i j (Dbm.full N i)] := by rw [← Nat.add_assoc, Dbm.ents_succ, hent]
        refine NewI.mk fun b5 hb5 => ?_
        have hb5' : v3.heap.size ≤ b5 := hb5
        have hr : ∀ g, tv.ownBlock = some g → w.heap.size ≤ g ∧ g ∉ [b1, b2, b3, b5] := fun g hg => by
          have := hO3.lt g hg
          refine ⟨Nat.le_trans hXw this.1, fun hm => ?_⟩
          simp only [List.mem_cons, List.not_mem_nil, or_false] at hm
          omega
        refine GenN.app (α := Int) elB (Dbm.ents N L (i * N + j)) [Dbm.pth N L N i j (Dbm.full N i)] X (fun w5 h5 => hO3.below h5.go) (fun w5 h5 => src_own h5 3 rfl rfl rfl rfl) (by rw [Dbm.ents_len]; unfold maxLen; simp; omega) (by rw [Dbm.ents_len]; simp; omega) (fun w5 h5 => Nat.le_trans hXv3 h5.size)
          (fun w5 w6 h5 hg => keep_grown h5 hg hr) fun sv' w5 w6 h5 hg hO' => ?_
        obtain ⟨a', c', rfl⟩ := hO'.form
        rw [← hes] at hO' ⊢
        have hX6 : X ≤ w6.heap.size := Nat.le_trans hXv3 (Nat.le_trans h5.size hg.size)
        refine Need.mk (by simp only [inK]; omega) (EndI.mk fun w7 h7 => ⟨(j + 1, w7, .slice a' (Dbm.ents N L (i * N + (j + 1))).length c'), Cov.mk (by repeat' (first | exact trivial | refine And.intro rfl ?_)) rfl rfl rfl rfl rfl, rfl, ⟨hjN, h7.below, Nat.le_trans hX6 h7.size, ?_, fun h => hd2 (by simp only at h; omega)⟩, by simp only; omega⟩)
        exact hO'.at h7 (by intro b hb; simp at hb; subst hb; exact hX3)
    · have hge : j = N := by have := of_decide_eq_false z2; simp only at this; omega
      subst hge
      have hnx : i * j + j = (i + 1) * j := by rw [Nat.add_mul, Nat.one_mul]
      refine Need.mk (by simp only [inK]; omega) (EndI.mk fun w9 h9 => ⟨(i + 1, w9, tv), Cov.mk (by repeat' (first | exact trivial | refine And.intro rfl ?_)) rfl rfl rfl rfl rfl, rfl, ⟨hiN, h9.below, Nat.le_trans hXU h9.size, ?_, fun k hk => ?_⟩, by simp only; omega⟩)
      · simp only; rw [← hnx]; exact hO2.at h9 (by simp)
      · by_cases hki : k = i
        · subst hki; exact hd2 hiN
        · exact hd k (by simp only at hk; omega)
  · have hge : i = N := by have := of_decide_eq_false z1; simp only at this; omega
    subst hge
    rw [Dbm.rc_yes h0 hd]
    obtain ⟨a', c', rfl⟩ := hO.form
    refine EndI.mk fun w9 h9 => ⟨a', c', rfl, ?_⟩
    exact (hO.at h9 (by intro b hb; simp at hb; subst hb; exact hX2)).lower hXw
end
end Go.Proofs.YtjbhpfmnfdebkaaGreat

/-
  Plain laws: the lesser bounds of two matrices, one by one. No program is in sight.
-/
namespace Go.Proofs.YtjbhpfmnfdebkaaGreat
set_option linter.unusedVariables false
namespace Dbm
def lessr (L M : List Int) : List Int := (List.range L.length).map fun q => min (L[q]?.getD 0) (M[q]?.getD 0)
end Dbm
namespace Tg
/-- what two matrices have in common. -/
def meet (n : Int) (L : List Int) (m : Int) (M : List Int) : Int × List Int × Int :=
  if Dbm.chk n L ≠ 0 ∨ Dbm.chk m M ≠ 0 then (0, [], 8) else if n ≠ m then (0, [], 40) else Dbm.close n (Dbm.lessr L M)
end Tg
end Go.Proofs.YtjbhpfmnfdebkaaGreat

/-
  The document's answer of layer 5, by the engine: the lesser bounds of two matrices, what they have in common.
-/
namespace Go.Proofs.YtjbhpfmnfdebkaaGreat
set_option linter.unusedVariables false
set_option linter.unusedSimpArgs false
set_option maxRecDepth 100000
open Go.RowKit Go.Proofs.YtjbhpfmnfdebkaaGreat.Eng Enc

end Go.Proofs.YtjbhpfmnfdebkaaGreat

/-
  The contract of the document's comparison of matrices (rallentandoref04.Same), by the engine.
-/
namespace Go.Proofs.YtjbhpfmnfdebkaaGreat
set_option linter.unusedVariables false
set_option linter.unusedSimpArgs false
set_option maxRecDepth 100000
open Go.RowKit Go.Proofs.YtjbhpfmnfdebkaaGreat.Eng Enc

def sameB (m n : Int) (L M : List Int) : Bool := decide (m = n) && decide (L = M)
theorem same04_any (m n : Int) (L M : List Int) (a b : Option Addr) (ca cb : Nat) (w : World) (hA : Sl w.heap.size w (.slice a L.length ca) L) (hB : Sl w.heap.size w (.slice b M.length cb) M) :
    Calls Tryz.prog 175 #[.agg #[.int .i64 m, .slice a L.length ca], .agg #[.int .i64 n, .slice b M.length cb]] w fun e w' => e = .returned (.bool (sameB m n L M)) ∧ Below w.heap.size w w' := by
  obtain ⟨_, _, ea, hca, hma, _⟩ := hA.form
  injection ea with e1 e2 e3
  subst e1; subst e3
  unfold maxLen at hma
  refine fun_eq 0 w Tryz.func175 (args := [.agg [.val (.int .i64 m), .val (.slice a L.length ca)], .agg [.val (.int .i64 n), .val (.slice b M.length cb)]]) rfl rfl ?_
  refine NewI.mk fun b1 hb1 => ?_
  refine NewI.mk fun b2 hb2 => ?_
  refine Branch.mk (fun hc => ?_) (fun hc => ?_)
  · refine EndI.mk fun w1 h1 => ?_
    have : m ≠ n := by simpa using hc
    simp [sameB, this]
  have hmn : m = n := by simpa using hc
  refine Branch.mk (fun hc => ?_) (fun hc => ?_)
  · refine EndI.mk fun w1 h1 => ?_
    have h1 : (L.length : Int) ≠ M.length := by simpa using hc
    have : L ≠ M := fun e => h1 (by rw [e])
    simp [sameB, this]
  have hlm : L.length = M.length := by have : (L.length : Int) = M.length := by simpa using hc
                                       omega
  refine LoopI.invC (α := Nat × World) (fun y => [(5, .val (.int .i64 y.1))]) (fun y => y.2) (fun y => y.1 ≤ L.length ∧ Below w.heap.size w y.2 ∧ ∀ j, j < y.1 → L[j]? = M[j]?) (fun y => L.length - y.1) ?_ ?_
  · intro w1 h1
    exact ⟨(0, w1), Cov.mk (by repeat' (first | exact trivial | refine And.intro rfl ?_)) rfl rfl rfl rfl rfl, rfl, Nat.zero_le _, h1.below, fun j hj => by omega⟩
  rintro ⟨k, W⟩ ⟨hk, hW, hall⟩
  refine Branch.mk (fun hb => ?_) (fun hb => ?_)
  · have hlt : k < L.length := by simpa using hb
    have hkm : k < M.length := by omega
    refine DrawI.go (.tk 0 (.tk 1 (.tk 2 (.tk 3 (.tk 4 (.tk 5 (.tk 6 (.tk 7 (.tk 8 (.tk 9 (.tk 10 .done))))))))))) (by kernel_rfl) fun w2 h2 => ?_
    refine hA.idx (List.getElem?_eq_getElem hlt) fun ad had => ?_
    refine hA.ld1 (List.getElem?_eq_getElem hlt) had h2.below (by simp) ?_
    refine hB.idx (List.getElem?_eq_getElem hkm) fun bd hbd => ?_
    refine hB.ld1 (List.getElem?_eq_getElem hkm) hbd h2.below (by simp) ?_
    refine Branch.mk (fun hc => ?_) (fun hc => ?_)
    · refine EndI.mk fun w3 h3 => ?_
      have h1 : L[k] ≠ M[k] := by simpa using hc
      have : L ≠ M := fun e => by subst e; exact h1 rfl
      simp [sameB, this]
    · have h1 : L[k] = M[k] := by simpa using hc
      refine Need.mk (by show _ ∧ _; omega) (EndI.mk fun w3 h3 => ⟨(k + 1, w3), Cov.mk (by repeat' (first | exact trivial | refine And.intro rfl ?_)) rfl rfl rfl rfl rfl, rfl, ⟨hlt, h3.below, fun j hj => ?_⟩, by simp only; omega⟩)
      by_cases hjk : j = k
      · subst hjk; rw [List.getElem?_eq_getElem hlt, List.getElem?_eq_getElem hkm, h1]
      · exact hall j (by omega)
  · have hge : k = L.length := by have : ¬ k < L.length := by simpa using hb
                                  omega
    refine EndI.mk fun w3 h3 => ?_
    have : L = M := by
      apply List.ext_getElem?
      intro j
      rcases Nat.lt_or_ge j L.length with h | h
      · exact hall j (by omega)
      · rw [List.getElem?_eq_none h, List.getElem?_eq_none (by omega)]
    simp [sameB, this, hmn]
end Go.Proofs.YtjbhpfmnfdebkaaGreat

/-
  The contract of bound.Not, by the engine.
-/
namespace Go.Proofs.YtjbhpfmnfdebkaaGreat
set_option linter.unusedVariables false
set_option linter.unusedSimpArgs false
set_option maxRecDepth 100000
open Go.RowKit Go.Proofs.YtjbhpfmnfdebkaaGreat.Eng Enc

end Go.Proofs.YtjbhpfmnfdebkaaGreat

/-
  The contracts of zone.Matrix, minus.other, minus.with, by the engine.
-/
namespace Go.Proofs.YtjbhpfmnfdebkaaGreat
set_option linter.unusedVariables false
set_option linter.unusedSimpArgs false
set_option maxRecDepth 100000
open Go.RowKit Go.Proofs.YtjbhpfmnfdebkaaGreat.Eng Enc

namespace Zo
def mat (z : Zn) : Int × List Int × Int := if Dbm.chk 3 (matL z) = 0 then (3, matL z, 0) else (0, [], 8)
def get (z : Zn) (i : Nat) : Int := if i = 0 then z.a else if i = 1 then z.b else if i = 2 then z.c else if i = 3 then z.d else if i = 4 then z.e else z.f
def set (z : Zn) (i : Nat) (x : Int) : Zn :=
  if i = 0 then { z with a := x } else if i = 1 then { z with b := x } else if i = 2 then { z with c := x } else if i = 3 then { z with d := x } else if i = 4 then { z with e := x } else { z with f := x }
end Zo
namespace Mi
/-- a zone with a bound more, as it is; closed. -/
def cut (z : Zn) (i : Nat) (b : Int) : Zn := Zo.set z i (min (Zo.get z i) b)
def wth (z : Zn) (i : Nat) (b : Int) : Zn × Int := if Dbm.chk 3 (Zo.matL (cut z i b)) = 0 then Zo.of 3 (Zo.matL (cut z i b)) else (Zo.nought, 8)
def other (i : Nat) : Nat := if i % 2 = 0 then i + 1 else i - 1
end Mi

end Go.Proofs.YtjbhpfmnfdebkaaGreat

/-
  zone.Cmp: its contract, the world told exactly (blocks laid, draws made).
-/
namespace Go.Proofs.YtjbhpfmnfdebkaaGreat
set_option linter.unusedVariables false
set_option linter.unusedSimpArgs false
set_option maxRecDepth 100000
open Go.RowKit Go.Shelf

namespace Zo
/-- which of two zones comes first: by the first bound in which they part. -/
def cmp (x y : Zn) : Int :=
  if cmpI x.a y.a ≠ 0 then cmpI x.a y.a else if cmpI x.b y.b ≠ 0 then cmpI x.b y.b else if cmpI x.c y.c ≠ 0 then cmpI x.c y.c
  else if cmpI x.d y.d ≠ 0 then cmpI x.d y.d else if cmpI x.e y.e ≠ 0 then cmpI x.e y.e else if cmpI x.f y.f ≠ 0 then cmpI x.f y.f else 0
end Zo
end Go.Proofs.YtjbhpfmnfdebkaaGreat

/-
  The document's answer of layer 8, by the engine: Full, Short, May, Cmp.
-/
namespace Go.Proofs.YtjbhpfmnfdebkaaGreat
set_option linter.unusedVariables false
set_option linter.unusedSimpArgs false
set_option maxRecDepth 100000
open Go.RowKit Go.Proofs.YtjbhpfmnfdebkaaGreat.Eng Enc

theorem rfull_any (z : Zn) (w : World) :
    Calls Tryz.prog 172 #[.agg #[.int .i64 z.a, .int .i64 z.b, .int .i64 z.c, .int .i64 z.d, .int .i64 z.e, .int .i64 z.f]] w (Ret w fun v w' => ∃ a' c', v = .agg #[.int .i64 3, .slice a' (Zo.matL z).length c'] ∧ Sl w'.heap.size w' (.slice a' (Zo.matL z).length c') (Zo.matL z)) := by
  refine fun_ret 0 w Tryz.func172 (args := [.agg [.val (.int .i64 z.a), .val (.int .i64 z.b), .val (.int .i64 z.c), .val (.int .i64 z.d), .val (.int .i64 z.e), .val (.int .i64 z.f)]]) rfl rfl ?_
  refine NewI.mk fun b1 hb1 => ?_
  refine NewI.mk fun b2 hb2 => ?_
  refine Need.mk (by decide) ?_
  refine Need.mk (by decide) ?_
  refine Need.mk (by decide) ?_
  refine Need.mk (by decide) ?_
  refine Need.mk (by decide) ?_
  refine Need.mk (by decide) ?_
  refine NewI.mk fun b3 hb3 => ?_
  exact EndI.mk fun w9 h9 => ⟨_, _, rfl, Sl.own (l := Zo.matL z) h9 2 rfl rfl rfl (Nat.le_refl _) (by simp [maxLen, Zo.matL])⟩
namespace Zo
def i64 (z : Zn) : Prop := ∀ b, b ∈ matL z → Dbm.int64 b
theorem close_rc {L : List Int} (h0 : Dbm.chk 3 L = 0) : (Dbm.close 3 L = (3, L, 0) ∧ Dbm.rc 3 L = (3, L, true)) ∨ Dbm.close 3 L ≠ (3, L, 0) ∧ ((Dbm.rc 3 L).2.2 = false ∨ (Dbm.rc 3 L).2.1 ≠ L) := by
  have hcl : Dbm.close 3 L = (match Dbm.closeL 3 L with | some L' => (3, L', 0) | none => (0, [], 6)) := by unfold Dbm.close; rw [if_pos h0]; rfl
  unfold Dbm.rc
  cases hC : Dbm.closeL 3 L with
  | none =>
    rw [hC] at hcl
    right
    rw [hcl]
    exact ⟨by simp, .inl rfl⟩
  | some C =>
    rw [hC] at hcl
    rw [hcl]
    by_cases e : C = L
    · subst e; left; exact ⟨rfl, rfl⟩
    · right; exact ⟨fun h => e (by simpa using h), .inr e⟩
theorem chk_rc (z : Zn) : (Dbm.chk 3 (matL z) = 0 ∧ chk z = 0 ∧ Dbm.rc 3 (matL z) = (3, matL z, true)) ∨ chk z ≠ 0 ∧ (Dbm.chk 3 (matL z) ≠ 0 ∨ Dbm.chk 3 (matL z) = 0 ∧ ((Dbm.rc 3 (matL z)).2.2 = false ∨ (Dbm.rc 3 (matL z)).2.1 ≠ matL z)) := by
  have hk : chk z = 0 ↔ Dbm.close 3 (matL z) = (3, matL z, 0) := chk_eq
  generalize matL z = L at hk ⊢
  by_cases h0 : Dbm.chk 3 L = 0
  · rcases close_rc h0 with ⟨h1, h2⟩ | ⟨h1, h2⟩
    · exact .inl ⟨h0, hk.2 h1, h2⟩
    · exact .inr ⟨fun h => h1 (hk.1 h), .inr ⟨h0, h2⟩⟩
  · right
    refine ⟨fun h => ?_, .inl h0⟩
    have := hk.1 h
    unfold Dbm.close at this
    rw [if_neg h0] at this
    simp at this
end Zo
theorem rzmay_any (z : Zn) (hz : Zo.i64 z) (w : World) :
    Calls Tryz.prog 105 #[.agg #[.int .i64 z.a, .int .i64 z.b, .int .i64 z.c, .int .i64 z.d, .int .i64 z.e, .int .i64 z.f]] w fun e w' => e = .returned (.bool (decide (Zo.chk z = 0))) ∧ Below w.heap.size w w' := by
  refine fun_eq 0 w Tryz.func105 (args := [.agg [.val (.int .i64 z.a), .val (.int .i64 z.b), .val (.int .i64 z.c), .val (.int .i64 z.d), .val (.int .i64 z.e), .val (.int .i64 z.f)]]) rfl rfl ?_
  refine NewI.mk fun b1 hb1 => ?_
  apply CallI.use
  focus (exact fun w1 h1 => rfull_any z w1)
  rintro v w1 v1 h1 hB1 ⟨a1, c1, rfl, hS1⟩
  refine NewI.mk fun b2 hb2 => ?_
  have hb2' : v1.heap.size ≤ b2 := hb2
  apply CallI.use1
  focus (exact fun w2 h2 => rmay04_any 3 (Zo.matL z) ⟨by omega, by omega⟩ hz a1 c1 w2 (hS1.go (atB h2 (by simp; omega)) h2.size))
  intro w2 v2 h2 hB2
  have hS2 := (hS1.go (atB h2 (by simp; omega)) h2.size).go hB2 hB2.size
  rcases Zo.chk_rc z with ⟨h0, hc, hr⟩ | ⟨hc, hor⟩
  · rw [h0, hc]
    have hrc := fun w h => rclosed_any (N := 3) (L := Zo.matL z) h0 a1 c1 w h
    rw [hr] at hrc
    refine Branch.no rfl ?_
    apply CallI.use
    focus (exact fun w3 h3 => hrc w3 (hS2.go (atB h3 (by simp)) h3.size))
    rintro v w3 v3 h3 hB3 ⟨a3, c3, rfl, hO3⟩
    have hS3 := (hS2.go (atB h3 (by simp)) h3.size).go hB3 hB3.size
    refine NewI.mk fun b3 hb3 => ?_
    have hb3' : v3.heap.size ≤ b3 := hb3
    refine Branch.yes rfl ?_
    apply CallI.use1
    focus (exact fun w4 h4 => same04_any 3 3 (Zo.matL z) (Zo.matL z) a3 a1 c3 c1 w4 (hO3.below (atB h4 (by simp; omega))).sl (hS3.go (atB h4 (by simp; omega)) h4.size))
    intro w4 v4 h4 hB4
    refine EndI.mk fun w9 h9 => ?_
    simp [sameB]
  · rw [decide_eq_false hc]
    rcases hor with h0 | ⟨h0, hor⟩
    · rw [decide_eq_false h0]
      refine Branch.yes rfl ?_
      exact EndI.mk fun w9 h9 => rfl
    · rw [decide_eq_true h0]
      have hrc := fun w h => rclosed_any (N := 3) (L := Zo.matL z) h0 a1 c1 w h
      generalize Dbm.rc 3 (Zo.matL z) = R at hrc hor
      obtain ⟨n3, C, is⟩ := R
      simp only at hrc hor
      refine Branch.no rfl ?_
      apply CallI.use
      focus (exact fun w3 h3 => hrc w3 (hS2.go (atB h3 (by simp)) h3.size))
      rintro v w3 v3 h3 hB3 ⟨a3, c3, rfl, hO3⟩
      have hS3 := (hS2.go (atB h3 (by simp)) h3.size).go hB3 hB3.size
      refine NewI.mk fun b3 hb3 => ?_
      have hb3' : v3.heap.size ≤ b3 := hb3
      refine Branch.mk (fun z1 => ?_) (fun z1 => ?_)
      · have hne : C ≠ Zo.matL z := hor.resolve_left (fun h => by rw [h] at z1; cases z1)
        apply CallI.use1
        focus (exact fun w4 h4 => same04_any n3 3 C (Zo.matL z) a3 a1 c3 c1 w4 (hO3.below (atB h4 (by simp; omega))).sl (hS3.go (atB h4 (by simp; omega)) h4.size))
        intro w4 v4 h4 hB4
        refine EndI.mk fun w9 h9 => ?_
        simp [sameB, hne]
      · exact EndI.mk fun w9 h9 => rfl
end Go.Proofs.YtjbhpfmnfdebkaaGreat

/-
  Ranges over functions whose iterator writes a box of its own (a variable that it holds), in the run; rounds may lay blocks where they take their variables.
-/
namespace Go.Proofs.YtjbhpfmnfdebkaaGreat.Eng
set_option linter.unusedVariables false
set_option linter.unusedSimpArgs false
open Go Go.RowKit Go.Shelf Go.Proofs

/-- an iterator's contract: it may turn block Bx, and lay blocks; what it is asked of, J, stays through that. -/
def SeqStopsB {α : Type} (n : Nat) (P : Program) (g : Nat) (lb : Array Value) (encs : α → Array Value) (Kp : World → World → Prop) (S Sp : List α → Prop) (N Bx n₀ : Nat) (w : World) : Prop :=
  ∀ (l : Nat) (J Jx : List α → World → Prop) (W : World), Below w.heap.size w W → (∀ pre A B, J pre A → A.grownBy B (some Bx) → J pre B) → (∀ pre A B, Jx pre A → A.grownBy B none → Jx pre B) →
    (∀ pre x W1, J pre W1 → pre.length < N → YieldAt Fence.wide (n - 1) P l (encs x) W1 fun e W' => (e = .returned (.bool true) ∧ J (pre ++ [x]) W' ∧ Kp W1 W') ∨ (e = .returned (.bool false) ∧ Jx (pre ++ [x]) W' ∧ Below n₀ W1 W')) →
    J [] W → CallsIn Fence.wide n P g (#[.func (.yield l) #[] #[]] ++ lb) W fun e W' => (∃ v, e = .returned v) ∧ ((∃ xs, S xs ∧ J xs W') ∨ (∃ pre, Sp pre ∧ Jx pre W'))

/-- the two blocks of a range's book-keeping: the loop's record, the rounds' deferred calls. -/
def Kept2 (B : Nat) (o : Loop) (W : World) : Prop := W.heap[B + 1]? = some (.loop o) ∧ W.heap[B]? = some (.deferred (some []))
theorem Kept2.turn {B : Nat} {o : Loop} {A C : World} {row : Option Nat} (h : Kept2 B o A) (hg : A.grownBy C row) (hr : ∀ r, row = some r → r < B) : Kept2 B o C :=
  ⟨(hg.block _ (Array.getElem?_eq_some_iff.1 h.1).1 (fun e => by have := hr _ e.symm; omega)).trans h.1, (hg.block _ (Array.getElem?_eq_some_iff.1 h.2).1 (fun e => by have := hr _ e.symm; omega)).trans h.2⟩
theorem Kept2.from {B : Nat} {o : Loop} {A C : World} (h : Kept2 B o A) (hk : KeepsFrom B A C) : Kept2 B o C := ⟨hk.same _ _ (by omega) h.1 rfl, hk.same _ _ (Nat.le_refl _) h.2 rfl⟩
theorem Kept2.put {B : Nat} {o : Loop} {A : World} (h : Kept2 B o A) (o' : Loop) : Kept2 B o' (A.putObj (B + 1) (.loop o')) :=
  ⟨World.putObj_heap_same (Array.getElem?_eq_some_iff.1 h.1).1, (World.putObj_heap_other (by omega)).trans h.2⟩

/-- what a row may be that the caller's invariant abides. -/
def RowB (B Bx : Nat) (A : World) (row : Option Nat) : Prop := ∀ r, row = some r → r = Bx ∨ (B ≤ r ∧ ∃ o : Obj, A.heap[r]? = some o ∧ o.isCells = false)

theorem below_between {n : Nat} {X A C : World} (h1 : Below n X A) (h2 : Below n X C) (hs : A.heap.size ≤ C.heap.size) : Below n A C :=
  ⟨h2.os.trans h1.os.symm, h2.tape.trans h1.tape.symm, h2.output.trans h1.output.symm, hs, fun k hk => (h2.block k hk).trans (h1.block k hk).symm⟩
theorem range_law {n : Nat} {P : Program} {α : Type} {g : Operand} {ps : Array Tmp} {x y : Code} {Q : Exit → Act → World → Prop} {a : Act} {w : World} (h1 : 1 ≤ n) {gf : Nat} {lb : Array Value}
    (hg : a.eval g = .func (.func gf) #[] lb) (eg : ∀ args w, (callFunc gf args).run P w = .ok (.enter gf args) w) {encs : α → Array Value} {Kp : World → World → Prop} {S Sp : List α → Prop} {N Bx n₀ : Nat}
    (hseq : SeqStopsB (n - 1) P gf lb encs Kp S Sp N Bx n₀ w) (hBx : Bx < w.heap.size) (hKt : ∀ {A B C : World}, Kp A B → Kp B C → Kp A C)
    (hKb : ∀ (W : World) (l : Nat) (o o' : Obj), w.heap.size ≤ l → W.heap[l]? = some o → o.isCells = false → o.isWalk = false → Kp W (W.putObj l o')) (hps : ∀ z, (encs z).size = ps.size)
    (I : List α → World → Prop) (Ix : Code → List α → World → Prop) (Ax : List α → α → Act → World → Prop) (hI : ∀ pre A B row, I pre A → A.grownBy B row → RowB w.heap.size Bx A row → I pre B) (hIx : ∀ c, OwnFrom w.heap.size (Ix c))
    (hAx : ∀ pre z a', OwnFrom w.heap.size (fun (_ : Unit) W => Ax pre z a' W)) (h0 : I [] w) (hIB : ∀ pre A, I pre A → Below n₀ w A) (hIxB : ∀ c pre A, Ix c pre A → Below n₀ w A)
    (hassign : ∀ (l : Nat) (pre : List α) (z : α) (W : World), I pre W → pre.length < N →
      x.wpIn (Fence.wide.inRound l) (n - 1 - 1) P (fun e a' W' => e = .normal ∧ KeepsFrom w.heap.size W W' ∧ Kp W W' ∧ I pre W' ∧ Ax pre z a' W') { tmps := (ps.zip (encs z)).foldl (fun t (p, v) => t.setIfInBounds p v) a.tmps, defers := [] } W)
    (hbody : ∀ (l : Nat) (pre : List α) (z : α) (a' : Act) (W : World), I pre W → Ax pre z a' W → pre.length < N → y.wpIn (Fence.wide.inRound l) (n - 1 - 1) P (ownPostG w.heap.size Kp I Ix (pre ++ [z]) W) a' W)
    (hdone : ∀ (D : Nat) (xs : List α) (W : World), w.heap.size ≤ D → S xs → I xs W → W.heap[D]? = some (.deferred (some [])) → Q .normal { a with defers := { target := .collected D, args := #[] } :: a.defers } W)
    (hstop : ∀ (D : Nat) (c : Code) (pre : List α) (W : World), w.heap.size ≤ D → Sp pre → Ix c pre W → W.heap[D]? = some (.deferred (some [])) → c.wpIn Fence.wide n P Q { a with defers := { target := .collected D, args := #[] } :: a.defers } W) :
    (Code.rangeFunc g ps x y).wpIn Fence.wide n P Q a w := by
  refine wpIn_rangeFunc fun fn hfn => ?_
  have hro : Fence.wide.round = none := rfl
  rw [hro]
  let lp : LoopState → Option Code → Loop := fun st pe => { state := st, pending := pe, fn, tmps := a.tmps, params := ps, assign := x, body := y, defers := w.heap.size }
  have two : Kept2 w.heap.size (lp .ready none) ((w.alloc (.deferred (some []))).alloc (.loop (lp .ready none))) := by
    constructor
    · have := World.alloc_heap_new (w.alloc (.deferred (some []))) (.loop (lp .ready none))
      rwa [World.size_alloc] at this
    · exact (Below.heap_alloc _ _ _ (by simp)).trans (World.alloc_heap_new w _)
  have g1 : w.grownBy (w.alloc (.deferred (some []))) none := World.grownBy_alloc w _ none
  have g2 : (w.alloc (.deferred (some []))).grownBy ((w.alloc (.deferred (some []))).alloc (.loop (lp .ready none))) none := World.grownBy_alloc _ _ none
  have hI1 : I [] ((w.alloc (.deferred (some []))).alloc (.loop (lp .ready none))) := hI _ _ _ none (hI _ _ _ none h0 g1 (fun r e => nomatch e)) g2 (fun r e => nomatch e)
  have hb1 : Below w.heap.size w ((w.alloc (.deferred (some []))).alloc (.loop (lp .ready none))) := (((Below.refl _ w).alloc (Nat.le_refl _) _).alloc (by simp) _)
  have hent : (Instr.enterLoop fn a.tmps ps x y none).run P w = .ok (w.heap.size + 1, [{ target := .collected w.heap.size, args := #[] }]) ((w.alloc (.deferred (some []))).alloc (.loop (lp .ready none))) := run_enterLoop_outer _ _ _ _ _
  generalize (w.alloc (.deferred (some []))).alloc (.loop (lp .ready none)) = W1 at *
  refine ⟨w.heap.size + 1, [{ target := .collected w.heap.size, args := #[] }], W1, { target := .fn (.func gf) lb, args := #[.func (.yield (w.heap.size + 1)) #[] #[]] }, W1, gf,
    #[.func (.yield (w.heap.size + 1)) #[] #[]] ++ lb, W1, hent, by simp only [resolve, hg]; simp [go_sem], fun f' _ => trivial, by simp [invoke, go_sem, eg], fun _ => h1, ?_⟩
  have hS1 : W1.heap.size ≥ w.heap.size := hb1.size
  refine (hseq (w.heap.size + 1) (fun pre W => I pre W ∧ Kept2 w.heap.size (lp .ready none) W) (fun pre W => ∃ c, Ix c pre W ∧ Kept2 w.heap.size (lp .done (some c)) W) W1 hb1
    (fun pre A C h hgr => ⟨hI _ _ _ _ h.1 hgr (fun r e => .inl (by injection e with e; exact e.symm)), h.2.turn hgr (fun r e => by injection e with e; omega)⟩)
    (fun pre A C h hgr => by obtain ⟨c, hc, hk⟩ := h; exact ⟨c, hIx c _ _ _ _ hc hgr (fun r e => nomatch e), hk.turn hgr (fun r e => nomatch e)⟩) ?_ ⟨hI1, two⟩).mono ?_
  · -- a round
    rintro pre z W ⟨hi, hk⟩ hlen
    refine ⟨fn, _, x, y, run_yield (P := P) (args := encs z) hk.1 (hps z), roundIn_of_wpIn hfn (wpIn_mono (hassign (w.heap.size + 1) pre z W hi hlen) ?_)⟩
    rintro e a' Wa ⟨rfl, kf, kp, hia, hax⟩
    have hka := hk.from kf
    refine ⟨_, run_beginRound hka.1 rfl, ?_⟩
    have hkb := hka.put { lp .ready none with state := .busy }
    have rowL : ∀ {A : World} {o : Loop}, Kept2 w.heap.size o A → RowB w.heap.size Bx A (some (w.heap.size + 1)) := fun {A} {o} h r e => .inr (by injection e with e; subst e; exact ⟨by omega, _, h.1, rfl⟩)
    have own : ∀ {A : World} {o : Loop}, Kept2 w.heap.size o A → ∀ r, some (w.heap.size + 1) = some r → w.heap.size ≤ r ∧ ∃ o' : Obj, A.heap[r]? = some o' ∧ o'.isCells = false := fun {A} {o} h r e => by injection e with e; subst e; exact ⟨by omega, _, h.1, rfl⟩
    have kpb : Kp Wa (Wa.putObj (w.heap.size + 1) (.loop { lp .ready none with state := .busy })) := hKb _ _ _ _ (by omega) hka.1 rfl rfl
    refine wpIn_mono (hbody (w.heap.size + 1) pre z a' _ (hI _ _ _ _ hia (grownBy_putObj' _ _ _) (rowL hka)) (hAx pre z a' () _ _ _ hax (grownBy_putObj' _ _ _) (own hka)) hlen) ?_
    intro e a3 W3 hp
    have fin : ∀ (jump : Option Code), KeepsFrom w.heap.size (Wa.putObj (w.heap.size + 1) (.loop { lp .ready none with state := .busy })) W3 →
        (Instr.endRound (w.heap.size + 1) jump).run P W3 = .ok (.bool jump.isNone) (W3.putObj (w.heap.size + 1) (.loop (lp (if jump.isNone then .ready else .done) jump))) ∧ Kept2 w.heap.size { lp .ready none with state := .busy } W3 := fun jump k3 => by
      have h3 := hkb.from k3
      exact ⟨run_endRound (P := P) jump h3.1, h3⟩
    have bel : ∀ (jump : Option Code) {c : Code}, Ix c (pre ++ [z]) W3 → Kept2 w.heap.size { lp .ready none with state := .busy } W3 → KeepsFrom w.heap.size (Wa.putObj (w.heap.size + 1) (.loop { lp .ready none with state := .busy })) W3 →
        Below n₀ W (W3.putObj (w.heap.size + 1) (.loop (lp (if jump.isNone then .ready else .done) jump))) := fun jump {c} i3 h3 k3 =>
      below_between (hIB _ _ hi) (hIxB _ _ _ (hIx c _ _ _ _ i3 (grownBy_putObj' _ _ _) (own h3))) (by
        have := k3.size
        have := kf.size
        simp only [World.putObj_size] at *
        omega)
    cases e with
    | normal =>
      obtain ⟨k3, p3, i3⟩ := hp
      obtain ⟨hr, h3⟩ := fin none k3
      exact ⟨_, _, hr, .inl ⟨rfl, ⟨hI _ _ _ _ i3 (grownBy_putObj' _ _ _) (rowL h3), h3.put _⟩, hKt kp (hKt (hKt kpb p3) (hKb _ _ _ _ (by omega) h3.1 rfl rfl))⟩⟩
    | ret =>
      obtain ⟨k3, i3⟩ := hp
      obtain ⟨hr, h3⟩ := fin (some .ret) k3
      exact ⟨_, _, hr, .inr ⟨rfl, ⟨.ret, hIx _ _ _ _ _ i3 (grownBy_putObj' _ _ _) (own h3), h3.put _⟩, bel _ i3 h3 k3⟩⟩
    | exit id =>
      obtain ⟨k3, i3⟩ := hp
      obtain ⟨hr, h3⟩ := fin (some (.exit id)) k3
      exact ⟨_, _, hr, .inr ⟨rfl, ⟨.exit id, hIx _ _ _ _ _ i3 (grownBy_putObj' _ _ _) (own h3), h3.put _⟩, bel _ i3 h3 k3⟩⟩
    | goto t =>
      obtain ⟨k3, i3⟩ := hp
      obtain ⟨hr, h3⟩ := fin (some (.goto t)) k3
      exact ⟨_, _, hr, .inr ⟨rfl, ⟨.goto t, hIx _ _ _ _ _ i3 (grownBy_putObj' _ _ _) (own h3), h3.put _⟩, bel _ i3 h3 k3⟩⟩
    | panic ch => exact hp.elim
    | outgrown => exact hp.elim
  · -- behind the iterator
    rintro e W2 ⟨⟨v, rfl⟩, ⟨xs, hS, hi, hk⟩ | ⟨pre, hSp, c, hi, hk⟩⟩
    · have hput := hk.put (lp .ready none)
      exact ⟨none, _, run_endLoop (P := P) hk.1 (by simp [lp]), hdone _ xs _ (Nat.le_refl _) hS (hI _ _ _ _ hi (grownBy_putObj' _ _ _) (fun r e => .inr (by injection e with e; subst e; exact ⟨by omega, _, hk.1, rfl⟩))) ((World.putObj_heap_other (by omega)).trans hk.2)⟩
    · exact ⟨some c, _, run_endLoop (P := P) hk.1 (by simp [lp]), hstop _ c pre _ (Nat.le_refl _) hSp (hIx c _ _ _ _ hi (grownBy_putObj' _ _ _) (fun r e => by injection e with e; subst e; exact ⟨by omega, _, hk.1, rfl⟩)) ((World.putObj_heap_other (by omega)).trans hk.2)⟩

section
variable {cx : Cx} {w0 : Base}
theorem rel_turn {s : St} {a : Act} {W W' : World} {B Bx : Nat} {row : Option Nat} (hR : Rel w0 s a W) (hB : w0.B ≤ B) (hBx0 : w0.B ≤ Bx) (hBxr : Bx ∉ s.r) (hg : W.grownBy W' row) (hr : RowB B Bx W row) : Keep w0 s.r W W' := by
  have hne : ∀ k, row = some k → w0.B ≤ k ∧ k ∉ s.r := fun k e => by
    rcases hr k e with rfl | ⟨hk, o, ho, hc⟩
    · exact ⟨hBx0, hBxr⟩
    · refine ⟨Nat.le_trans hB hk, fun hb => ?_⟩
      obtain ⟨i, hi, hib⟩ := List.getElem_of_mem hb
      have hil : i < s.hp.length := by rw [← hR.len]; exact hi
      have h1 := hR.blk [] i k (s.hp[i]) (by rw [List.getElem?_eq_getElem hi, hib]) (by rw [hget_eq, List.getElem?_eq_getElem hil])
      rw [h1] at ho; injection ho with ho; subst ho; cases hc
  refine ⟨⟨hg.os, hg.tape, hg.output, hg.size, fun k hk => hg.block k (Nat.lt_of_lt_of_le hk (Nat.le_trans w0.le hR.at_.below.size)) fun e => ?_⟩, fun b hb => hg.block b (hR.at_.lt b hb) fun e => (hne b e.symm).2 hb⟩
  have := (hne k e.symm).1; omega

/-- A RANGE OVER A FUNCTION whose iterator writes its own box; rounds take their variables into blocks of their own. -/
theorem rangeB (hcx : CxOk cx) {n : Nat} (h1 : 1 ≤ n) {s : St} {a : Act} {w : World} (hR : Rel w0 s a w) {g : Operand} {ps : Array Tmp} {x y : Code} {K : Exit → St → Prop} {gf : Nat} {lb : Array Value}
    (hg : ev s.fr g = .val (.func (.func gf) #[] lb)) (eg : Enters cx.P gf)
    {α : Type} {encs : α → List Value} {Kp : World → World → Prop} {S Sp : List α → Prop} {N Bx : Nat} (hseq : SeqStopsB (n - 1) cx.P gf lb (fun x => (encs x).toArray) Kp S Sp N Bx w0.B w) (hBx : Bx < w.heap.size) (hBx0 : w0.B ≤ Bx) (hBxr : Bx ∉ s.r)
    (hKt : ∀ {A B C : World}, Kp A B → Kp B C → Kp A C) (hKb : ∀ (W : World) (l : Nat) (o o' : Obj), w.heap.size ≤ l → W.heap[l]? = some o → o.isCells = false → o.isWalk = false → Kp W (W.putObj l o'))
    (hps : ∀ x, (encs x).length = ps.size)
    {γ : Type} (hpf : γ → List LB) (Φ : List α → γ → World → Prop) (hΦ : ∀ c pre A B row, Φ pre c A → A.grownBy B row → RowB w.heap.size Bx A row → Φ pre c B) (c0 : γ) (hp0 : hpf c0 = s.hp) (hΦ0 : Φ [] c0 w)
    (Ix : Code → List α → γ → World → Prop) (hpx : Code → γ → List LB) (hIx : ∀ c q, OwnFrom w.heap.size (fun pre W => Ix c pre q W))
    (frx : α → Fr) (hpa : α → List LB) (Ψ : γ → List Nat → Prop)
    (hassign : ∀ l pre z c W, Φ pre c W → Below w0.B w0.W W → w.heap.size ≤ W.heap.size → pre.length < N → codeD (Fence.wide.inRound l) (n - 1 - 1) cx w0 x
      (fun e s' => e = .normal ∧ s'.on fun fr2 hp2 r2 L2 w2 df2 => ∃ bs, bs.length = (hpa z).length ∧ Ψ c bs ∧ Need (fr2 = frx z ∧ hp2 = hpf c ++ hpa z ∧ r2 = s.r ++ bs ∧ df2 = []) (EndI w0 hp2 r2 L2 w2 undef fun _ w1 => KeepsFrom w.heap.size W w1 ∧ Kp W w1 ∧ Φ pre c w1)) ⟨setP s.fr ps.toList (encs z), hpf c, s.r, [], W, []⟩)
    (hbody : ∀ l pre x c bs W, bs.length = (hpa x).length → Ψ c bs → Φ pre c W → Below w0.B w0.W W → w.heap.size ≤ W.heap.size → pre.length < N → codeD (Fence.wide.inRound l) (n - 1 - 1) cx w0 y
      (fun e s' => match e with
        | .normal => s'.on fun fr2 hp2 r2 L2 w2 df2 => ∃ c', Need (CovH (hpf c') s.r ⟨fr2, hp2, r2, L2, w2, df2⟩) (EndI w0 hp2 r2 L2 w2 undef fun _ w1 => KeepsFrom w.heap.size W w1 ∧ Kp W w1 ∧ Φ (pre ++ [x]) c' w1)
        | .ret => s'.on fun fr2 hp2 r2 L2 w2 df2 => ∃ c', Need (CovH (hpx .ret c') s.r ⟨fr2, hp2, r2, L2, w2, df2⟩) (EndI w0 hp2 r2 L2 w2 undef fun _ w1 => KeepsFrom w.heap.size W w1 ∧ Ix .ret (pre ++ [x]) c' w1)
        | .exit id => s'.on fun fr2 hp2 r2 L2 w2 df2 => ∃ c', Need (CovH (hpx (.exit id) c') s.r ⟨fr2, hp2, r2, L2, w2, df2⟩) (EndI w0 hp2 r2 L2 w2 undef fun _ w1 => KeepsFrom w.heap.size W w1 ∧ Ix (.exit id) (pre ++ [x]) c' w1)
        | _ => False) ⟨frx x, hpf c ++ hpa x, s.r ++ bs, [], W, []⟩)
    (hdone : ∀ D xs c W, w.heap.size ≤ D → S xs → Φ xs c W → W.heap[D]? = some (.deferred (some [])) → K .normal ⟨s.fr, hpf c, s.r, [], W, { target := .collected D, args := #[] } :: s.df⟩)
    (hstop : ∀ D c e pre q W, w.heap.size ≤ D → Sp pre → Ix c pre q W → exitOf c = some e → W.heap[D]? = some (.deferred (some [])) → K e ⟨s.fr, hpx c q, s.r, [], W, { target := .collected D, args := #[] } :: s.df⟩) :
    (Code.rangeFunc g ps x y).wpIn Fence.wide n cx.P (fun e a' w' => ∃ s', Rel w0 s' a' w' ∧ K e s') a w := by
  have hev := hR.ev1 hg (by simp) []
  simp only [SV.den] at hev
  have hB : w0.B ≤ w.heap.size := Nat.le_trans w0.le hR.at_.below.size
  have withD : ∀ {hp : List LB} {W : World} (D : Nat), Rel w0 ⟨s.fr, hp, s.r, [], W, s.df⟩ a W → Rel w0 ⟨s.fr, hp, s.r, [], W, { target := .collected D, args := #[] } :: s.df⟩ { a with defers := { target := .collected D, args := #[] } :: a.defers } W := fun {hp} {W} D h =>
    ⟨congrArg (_ :: ·) h.df, h.fits, ⟨h.at_.below, h.at_.size, h.at_.step, h.at_.blk, h.at_.fresh, h.at_.lt, h.at_.base⟩, h.blk, h.nod, h.len⟩
  have inner : ∀ {hp : List LB} {W : World} {a' : Act} {fr : Fr}, Rel w0 ⟨s.fr, hp, s.r, [], W, s.df⟩ a W → a'.defers = [] → (∀ t, Fits (s.r ++ t) fr a'.tmps) → Rel w0 ⟨fr, hp, s.r, [], W, []⟩ a' W := fun {hp} {W} {a'} {fr} h hd hf =>
    ⟨hd, hf, ⟨h.at_.below, h.at_.size, h.at_.step, h.at_.blk, h.at_.fresh, h.at_.lt, h.at_.base⟩, h.blk, h.nod, h.len⟩
  have rowO : ∀ {A : World} {row : Option Nat}, (∀ r, row = some r → w.heap.size ≤ r ∧ ∃ o : Obj, A.heap[r]? = some o ∧ o.isCells = false) → RowB w.heap.size Bx A row := fun h r e => .inr (h r e)
  refine range_law h1 hev eg hseq hBx hKt hKb (fun z => by simp [hps]) (fun pre W => ∃ c, Rel w0 ⟨s.fr, hpf c, s.r, [], W, s.df⟩ a W ∧ w.heap.size ≤ W.heap.size ∧ Φ pre c W)
    (fun c pre W => (∃ e, exitOf c = some e) ∧ ∃ q, Rel w0 ⟨s.fr, hpx c q, s.r, [], W, s.df⟩ a W ∧ Ix c pre q W ∧ w.heap.size ≤ W.heap.size)
    (fun pre z a' W => ∃ c bs, (bs.length = (hpa z).length ∧ Ψ c bs) ∧ Rel w0 ⟨s.fr, hpf c, s.r, [], W, s.df⟩ a W ∧ Rel w0 ⟨frx z, hpf c ++ hpa z, s.r ++ bs, [], W, []⟩ a' W ∧ w.heap.size ≤ W.heap.size ∧ Φ pre c W) ?_ ?_ ?_ ?_ (fun pre A ⟨c, hr, hs, hf⟩ => below_between hR.at_.below hr.at_.below hs) (fun c pre A ⟨_, q, hr, hx, hs⟩ => below_between hR.at_.below hr.at_.below hs) ?_ ?_ ?_ ?_
  · rintro pre A C row ⟨c, hr, hs, hf⟩ hgr hrow
    exact ⟨c, hr.keep (rel_turn hr hB hBx0 hBxr hgr hrow), Nat.le_trans hs hgr.size, hΦ c pre A C row hf hgr hrow⟩
  · rintro c pre A C row ⟨h0, q, hr, hx, hs⟩ hgr hrow
    exact ⟨h0, q, hr.keep (grown_keep hr hB hgr hrow), hIx c q pre A C row hx hgr hrow, Nat.le_trans hs hgr.size⟩
  · rintro pre z a' _ A C row ⟨c, bs, hl, hr, hr2, hs, hf⟩ hgr hrow
    exact ⟨c, bs, hl, hr.keep (grown_keep hr hB hgr hrow), hr2.keep (grown_keep hr2 hB hgr hrow), Nat.le_trans hs hgr.size, hΦ c pre A C row hf hgr (rowO hrow)⟩
  · refine ⟨c0, ?_, Nat.le_refl _, hΦ0⟩
    have h0 := hR.keep keep_refl
    rw [hp0]; exact h0
  · rintro l pre z W ⟨c, hr, hs, hf⟩ hN
    have hr1 := rel_sets (w0 := w0) (s := ⟨s.fr, hpf c, s.r, [], W, []⟩) (a := ⟨a.tmps, []⟩) (inner hr rfl hr.fits) ps.toList (encs z)
    have e1 : (ps.zip (encs z).toArray).foldl (fun (t : Array Value) (x : Nat × Value) => t.setIfInBounds x.1 x.2) a.tmps = sets a.tmps ps.toList (encs z) := by
      rw [← sets_eq]
    show x.wpIn _ _ _ _ ({ tmps := (ps.zip (encs z).toArray).foldl (fun (t : Array Value) (x : Nat × Value) => t.setIfInBounds x.1 x.2) a.tmps, defers := [] } : Act) W
    rw [e1]
    refine codeD_round hcx l _ _ _ _ _ W _ (hassign l pre z c W hf hr.at_.below hs hN) hr1 ?_
    rintro e s' a' W' ⟨rfl, hK⟩ hR'
    obtain ⟨fr2, hp2, r2, L2, w2, df2⟩ := s'
    rw [St.on_eq] at hK
    obtain ⟨bs, hl, hψ, ⟨e1, e2, e3, e4⟩, h2⟩ := hK
    simp only at e1 e2 e3 e4
    subst e1; subst e2; subst e3; subst e4
    obtain ⟨k1, k2, k3⟩ := h2.h W' hR'.at_
    have hcov : Keep w0 s.r W W' := by
      refine ⟨?_, fun b hb => ?_⟩
      · exact ⟨hR'.at_.below.os.trans hr.at_.below.os.symm, hR'.at_.below.tape.trans hr.at_.below.tape.symm, hR'.at_.below.output.trans hr.at_.below.output.symm, k1.size, fun k hk => (hR'.at_.below.block k hk).trans (hr.at_.below.block k hk).symm⟩
      · obtain ⟨i, hi, hib⟩ := List.getElem_of_mem hb
        have hil : i < (hpf c).length := by have := hr.len; simp only at this; omega
        have g1 := hr.blk [] i b (hpf c)[i] (by show s.r[i]? = _; rw [List.getElem?_eq_getElem hi, hib]) (by show hget (hpf c) i = _; rw [hget_eq, List.getElem?_eq_getElem hil])
        have g2 := hR'.blk [] i b (hpf c)[i] (by show (s.r ++ bs)[i]? = _; rw [List.getElem?_append_left hi, List.getElem?_eq_getElem hi, hib]) (by show hget (hpf c ++ hpa z) i = _; rw [hget_eq, List.getElem?_append_left hil, List.getElem?_eq_getElem hil])
        have g3 := hr.blk bs i b (hpf c)[i] (by show s.r[i]? = _; rw [List.getElem?_eq_getElem hi, hib]) (by show hget (hpf c) i = _; rw [hget_eq, List.getElem?_eq_getElem hil])
        simp only [List.append_nil] at g1 g2
        rw [g2, ← g3]
    exact ⟨rfl, k1, k2, ⟨c, hr.keep hcov, Nat.le_trans hs k1.size, k3⟩, c, bs, ⟨hl, hψ⟩, hr.keep hcov, hR'.keep keep_refl, Nat.le_trans hs k1.size, k3⟩
  · rintro l pre z a' W _ ⟨c, bs, hl, hr, hr2, hs, hf⟩ hN
    refine codeD_round hcx l _ y _ _ _ W _ (hbody l pre z c bs W hl.1 hl.2 hf hr.at_.below hs hN) hr2 ?_
    intro e s' a2 w1 hK hR'
    cases e with
    | normal =>
      simp only [St.on_eq] at hK
      obtain ⟨c', h1, h2⟩ := hK
      obtain ⟨h3, h4, h5⟩ := h2.h w1 hR'.at_
      exact ⟨h3, h4, c', covH_rel (s := ⟨s.fr, hpf c, s.r, [], W, s.df⟩) hr hR' h1, Nat.le_trans hs h3.size, h5⟩
    | ret =>
      simp only [St.on_eq] at hK
      obtain ⟨c', h1, h2⟩ := hK
      obtain ⟨h3, h5⟩ := h2.h w1 hR'.at_
      exact ⟨h3, ⟨_, rfl⟩, c', covH_rel (s := ⟨s.fr, hpf c, s.r, [], W, s.df⟩) hr hR' h1, h5, Nat.le_trans hs h3.size⟩
    | exit id =>
      simp only [St.on_eq] at hK
      obtain ⟨c', h1, h2⟩ := hK
      obtain ⟨h3, h5⟩ := h2.h w1 hR'.at_
      exact ⟨h3, ⟨_, rfl⟩, c', covH_rel (s := ⟨s.fr, hpf c, s.r, [], W, s.df⟩) hr hR' h1, h5, Nat.le_trans hs h3.size⟩
    | goto l => exact hK.elim
    | panic ch => exact hK.elim
    | outgrown => exact hK.elim
  · rintro D xs W hD hS ⟨c, hr, hs, hf⟩ hd
    exact ⟨_, withD D hr, hdone D xs c W hD hS hf hd⟩
  · intro D c pre W hD hS hI hd
    obtain ⟨⟨e, he⟩, q, hRx, hix, hs⟩ := hI
    have hk := hstop D c e pre q W hD hS hix he hd
    cases c <;> simp only [exitOf] at he <;> try (cases he; done)
    · injection he with he; subst he; exact wpIn_exit ⟨_, withD D hRx, hk⟩
    · injection he with he; subst he; exact wpIn_ret ⟨_, withD D hRx, hk⟩
/-- the like where the frame that a round begins with is told by what its variables are. -/
theorem rangeBu (hcx : CxOk cx) {n : Nat} (h1 : 1 ≤ n) {s : St} {a : Act} {w : World} (hR : Rel w0 s a w) {g : Operand} {ps : Array Tmp} {x y : Code} {K : Exit → St → Prop} {gf : Nat} {lb : Array Value}
    (hg : ev s.fr g = .val (.func (.func gf) #[] lb)) (eg : Enters cx.P gf)
    {α : Type} {encs : α → List Value} {Kp : World → World → Prop} {S Sp : List α → Prop} {N Bx : Nat} (hseq : SeqStopsB (n - 1) cx.P gf lb (fun x => (encs x).toArray) Kp S Sp N Bx w0.B w) (hBx : Bx < w.heap.size) (hBx0 : w0.B ≤ Bx) (hBxr : Bx ∉ s.r)
    (hKt : ∀ {A B C : World}, Kp A B → Kp B C → Kp A C) (hKb : ∀ (W : World) (l : Nat) (o o' : Obj), w.heap.size ≤ l → W.heap[l]? = some o → o.isCells = false → o.isWalk = false → Kp W (W.putObj l o'))
    (hps : ∀ x, (encs x).length = ps.size)
    {γ : Type} (hpf : γ → List LB) (Φ : List α → γ → World → Prop) (hΦ : ∀ c pre A B row, Φ pre c A → A.grownBy B row → RowB w.heap.size Bx A row → Φ pre c B) (c0 : γ) (hp0 : hpf c0 = s.hp) (hΦ0 : Φ [] c0 w)
    (Ix : Code → List α → γ → World → Prop) (hpx : Code → γ → List LB) (hIx : ∀ c q, OwnFrom w.heap.size (fun pre W => Ix c pre q W))
    (upd : α → List (Nat × SV)) (hpa : α → List LB) (Ψ : γ → List Nat → Prop)
    (hassign : ∀ l pre z c W, Φ pre c W → Below w0.B w0.W W → w.heap.size ≤ W.heap.size → pre.length < N → codeD (Fence.wide.inRound l) (n - 1 - 1) cx w0 x
      (fun e s' => e = .normal ∧ s'.on fun fr2 hp2 r2 L2 w2 df2 => ∃ bs, bs.length = (hpa z).length ∧ Ψ c bs ∧ Need (fr2 = setM (setP s.fr ps.toList (encs z)) (upd z) ∧ hp2 = hpf c ++ hpa z ∧ r2 = s.r ++ bs ∧ df2 = []) (EndI w0 hp2 r2 L2 w2 undef fun _ w1 => KeepsFrom w.heap.size W w1 ∧ Kp W w1 ∧ Φ pre c w1)) ⟨setP s.fr ps.toList (encs z), hpf c, s.r, [], W, []⟩)
    (hbody : ∀ l pre x c bs W, bs.length = (hpa x).length → Ψ c bs → Φ pre c W → Below w0.B w0.W W → w.heap.size ≤ W.heap.size → pre.length < N → codeD (Fence.wide.inRound l) (n - 1 - 1) cx w0 y
      (fun e s' => match e with
        | .normal => s'.on fun fr2 hp2 r2 L2 w2 df2 => ∃ c', Need (CovH (hpf c') s.r ⟨fr2, hp2, r2, L2, w2, df2⟩) (EndI w0 hp2 r2 L2 w2 undef fun _ w1 => KeepsFrom w.heap.size W w1 ∧ Kp W w1 ∧ Φ (pre ++ [x]) c' w1)
        | .ret => s'.on fun fr2 hp2 r2 L2 w2 df2 => ∃ c', Need (CovH (hpx .ret c') s.r ⟨fr2, hp2, r2, L2, w2, df2⟩) (EndI w0 hp2 r2 L2 w2 undef fun _ w1 => KeepsFrom w.heap.size W w1 ∧ Ix .ret (pre ++ [x]) c' w1)
        | .exit id => s'.on fun fr2 hp2 r2 L2 w2 df2 => ∃ c', Need (CovH (hpx (.exit id) c') s.r ⟨fr2, hp2, r2, L2, w2, df2⟩) (EndI w0 hp2 r2 L2 w2 undef fun _ w1 => KeepsFrom w.heap.size W w1 ∧ Ix (.exit id) (pre ++ [x]) c' w1)
        | _ => False) ⟨setM (setP s.fr ps.toList (encs x)) (upd x), hpf c ++ hpa x, s.r ++ bs, [], W, []⟩)
    (hdone : ∀ D xs c W, w.heap.size ≤ D → S xs → Φ xs c W → W.heap[D]? = some (.deferred (some [])) → K .normal ⟨s.fr, hpf c, s.r, [], W, { target := .collected D, args := #[] } :: s.df⟩)
    (hstop : ∀ D c e pre q W, w.heap.size ≤ D → Sp pre → Ix c pre q W → exitOf c = some e → W.heap[D]? = some (.deferred (some [])) → K e ⟨s.fr, hpx c q, s.r, [], W, { target := .collected D, args := #[] } :: s.df⟩) :
    (Code.rangeFunc g ps x y).wpIn Fence.wide n cx.P (fun e a' w' => ∃ s', Rel w0 s' a' w' ∧ K e s') a w :=
  rangeB hcx h1 hR hg eg hseq hBx hBx0 hBxr (fun h k => hKt h k) hKb hps hpf Φ hΦ c0 hp0 hΦ0 Ix hpx hIx (fun z => setM (setP s.fr ps.toList (encs z)) (upd z)) hpa Ψ hassign hbody hdone hstop
end
end Go.Proofs.YtjbhpfmnfdebkaaGreat.Eng

/-
  The contract of minus.parts: an iterator that writes the zone that it holds; by the engine.
-/
namespace Go.Proofs.YtjbhpfmnfdebkaaGreat
set_option linter.unusedVariables false
set_option linter.unusedSimpArgs false
set_option maxRecDepth 100000
open Go.RowKit Go.Proofs.YtjbhpfmnfdebkaaGreat.Eng Enc

namespace Mi
/-- what is told, from a place on, of the parts of one zone that are not another one's. -/
def go (b : Zn) : List Nat → Zn → List (Zn × Int)
  | [], _ => []
  | i :: l, a =>
    if (Bd.not (Zo.get b i)).2 ≠ 0 then go b l a
    else (if (wth a (other i) (Bd.not (Zo.get b i)).1).2 = 6 then [] else [wth a (other i) (Bd.not (Zo.get b i)).1]) ++
      (if (wth a i (Zo.get b i)).2 = 6 then [] else (if (wth a i (Zo.get b i)).2 = 0 then [] else [wth a i (Zo.get b i)]) ++ go b l (wth a i (Zo.get b i)).1)
def parts (a b : Zn) : List (Zn × Int) := go b [0, 1, 2, 3, 4, 5] a
/-- a block that holds a zone. -/
def Holds (W : World) (B : Nat) (z : Zn) : Prop := W.heap[B]? = some (.cells #[.int .i64 z.a, .int .i64 z.b, .int .i64 z.c, .int .i64 z.d, .int .i64 z.e, .int .i64 z.f] 104 (0, 0))
theorem Holds.lt {W : World} {B : Nat} {z : Zn} (h : Holds W B z) : B < W.heap.size := (Array.getElem?_eq_some_iff.1 h).1
theorem Holds.cells {W : World} {B : Nat} {z : Zn} (h : Holds W B z) (j : Nat) (c : Value) (hj : [Value.int .i64 z.a, .int .i64 z.b, .int .i64 z.c, .int .i64 z.d, .int .i64 z.e, .int .i64 z.f][j]? = some c) : W.cell? ((⟨B, 0, none⟩ : Addr).add j) = some c := by
  rw [addr_addL, Nat.zero_add]
  have hj6 := (List.getElem?_eq_some_iff.1 hj).1
  simp only [List.length_cons, List.length_nil] at hj6
  have : j = 0 ∨ j = 1 ∨ j = 2 ∨ j = 3 ∨ j = 4 ∨ j = 5 := by omega
  have h' : W.heap[B]? = _ := h
  rcases this with rfl | rfl | rfl | rfl | rfl | rfl <;> (simp at hj; subst hj; simp [World.cell?, h'])
theorem Holds.below {W W' : World} {B : Nat} {z : Zn} (h : Holds W B z) (hB : Below W.heap.size W W') : Holds W' B z := (hB.block B h.lt).trans h
theorem Holds.same {W W' : World} {B : Nat} {z : Zn} (h : Holds W B z) (e : W'.heap[B]? = W.heap[B]?) : Holds W' B z := e.trans h
end Mi
theorem at_grown {w0 : Base} {hp : List LB} {r L : List Nat} {w w1 : World} (h : At w0 hp r L w w1) (hL : ∀ b, b ∈ L → w.heap.size ≤ b) (row : Option Nat) : w.grownBy w1 row :=
  ⟨h.below.os.trans h.base.os.symm, h.below.tape.trans h.base.tape.symm, h.below.output.trans h.base.output.symm, h.size, fun k hk _ => h.step k hk fun hm => by have := hL k hm; omega⟩
theorem at_below {w0 : Base} {hp : List LB} {r L : List Nat} {w w1 : World} (h : At w0 hp r L w w1) (hL : ∀ b, b ∈ L → w.heap.size ≤ b) : Below w.heap.size w w1 :=
  ⟨h.below.os.trans h.base.os.symm, h.below.tape.trans h.base.tape.symm, h.below.output.trans h.base.output.symm, h.size, fun k hk => h.step k hk fun hm => by have := hL k hm; omega⟩
/-- where the iterator stands: what its two boxes hold, what the caller's rounds have come to. -/
structure Mi.Sit (n₀ Ba Bb : Nat) (W : World) (x b : Zn) (Jp : World → Prop) (X : World) : Prop where
  below : Below n₀ W X
  size : W.heap.size ≤ X.heap.size
  ha : Mi.Holds X Ba x
  hb : Mi.Holds X Bb b
  j : Jp X
section
variable {n₀ Ba Bb : Nat} {W X Y : World} {x b : Zn} {Jp : World → Prop}
open Mi
theorem Mi.Sit.go (h : Sit n₀ Ba Bb W x b Jp X) (hn : n₀ ≤ W.heap.size) (hJ : ∀ A B, Jp A → A.grownBy B (some Ba) → Jp B) (hB : Below X.heap.size X Y) : Sit n₀ Ba Bb W x b Jp Y :=
  ⟨h.below.trans (hB.mono (Nat.le_trans hn h.size)), Nat.le_trans h.size hB.size, h.ha.below hB, h.hb.below hB, hJ _ _ h.j (below_grown hB _)⟩
theorem Mi.Sit.at {w0 : Base} {hp : List LB} {r L : List Nat} (h : Sit n₀ Ba Bb W x b Jp X) (hn : n₀ ≤ W.heap.size) (hJ : ∀ A B, Jp A → A.grownBy B (some Ba) → Jp B) (h1 : At w0 hp r L X Y) (hL : ∀ b, b ∈ L → X.heap.size ≤ b) : Sit n₀ Ba Bb W x b Jp Y :=
  h.go hn hJ (at_below h1 hL)
end

end Go.Proofs.YtjbhpfmnfdebkaaGreat

/-
  The contract of minus.Minus, by the engine.
-/
namespace Go.Proofs.YtjbhpfmnfdebkaaGreat
set_option linter.unusedVariables false
set_option linter.unusedSimpArgs false
set_option maxRecDepth 100000
open Go.RowKit Go.Proofs.YtjbhpfmnfdebkaaGreat.Eng Enc

namespace Mi
def minus (a b : Zn) : List Zn × Int :=
  if Zo.chk a = 0 ∧ Zo.chk b = 0 then (match (parts a b).find? (fun x => decide (x.2 ≠ 0)) with | some x => ([], x.2) | none => ((parts a b).map (·.1), 0)) else ([], 8)
end Mi
end Go.Proofs.YtjbhpfmnfdebkaaGreat

/-
  The contract of minus.Left, by the engine.
-/
namespace Go.Proofs.YtjbhpfmnfdebkaaGreat
set_option linter.unusedVariables false
set_option linter.unusedSimpArgs false
set_option maxRecDepth 100000
open Go.RowKit Go.Proofs.YtjbhpfmnfdebkaaGreat.Eng Enc

namespace Mi
/-- those of some zones that are not one's, behind those that there are. -/
def inner (b : Zn) : List Zn → List Zn → List Zn × Int
  | [], next => (next, 0)
  | z :: t, next => if (minus z b).2 ≠ 0 then ([], (minus z b).2) else if 4096 < (next ++ (minus z b).1).length then ([], 4) else inner b t (next ++ (minus z b).1)
def outer : List Zn → List Zn → List Zn × Int
  | [], out => (out, 0)
  | b :: l, out => if (inner b out []).2 ≠ 0 then ([], (inner b out []).2) else outer l (inner b out []).1
def left (a : Zn) (l : List Zn) : List Zn × Int :=
  if Zo.chk a ≠ 0 then ([], 8) else if l.any (fun b => decide (Zo.chk b ≠ 0)) = true then ([], 8) else outer l [a]
theorem inner_cons (b z : Zn) (t next : List Zn) : inner b (z :: t) next = if (minus z b).2 ≠ 0 then ([], (minus z b).2) else if 4096 < (next ++ (minus z b).1).length then ([], 4) else inner b t (next ++ (minus z b).1) := rfl
theorem outer_cons (b : Zn) (l out : List Zn) : outer (b :: l) out = if (inner b out []).2 ≠ 0 then ([], (inner b out []).2) else outer l (inner b out []).1 := rfl
end Mi
section
variable {α : Type} [Enc α] {w0 : Base} {l : List World} {hp : List LB} {r r0 L : List Nat} {w w1 w2 : World} {e : TypeId} {base : Nat} {v sv : Value} {xs : List α}
end
end Go.Proofs.YtjbhpfmnfdebkaaGreat

/-
  slices.IndexFunc and ContainsFunc at a list of api.Zone: with a function that answers p of an element, and goes from T k to T (k + 1).
-/
namespace Go.Proofs.YtjbhpfmnfdebkaaGreat
set_option linter.unusedVariables false
set_option linter.unusedSimpArgs false
set_option maxRecDepth 100000
open Go.RowKit Go.Proofs.YtjbhpfmnfdebkaaGreat.Eng Enc

end Go.Proofs.YtjbhpfmnfdebkaaGreat

/-
  slices.Clone at a list of api.Zone: a row of the call's own that shows the same list.
-/
namespace Go.Proofs.YtjbhpfmnfdebkaaGreat
set_option linter.unusedVariables false
set_option linter.unusedSimpArgs false
set_option maxRecDepth 100000
open Go.RowKit Go.Proofs.YtjbhpfmnfdebkaaGreat.Eng Enc

end Go.Proofs.YtjbhpfmnfdebkaaGreat

/-
  The contracts of cover.checked and cover.In, by the engine.
-/
namespace Go.Proofs.YtjbhpfmnfdebkaaGreat
set_option linter.unusedVariables false
set_option linter.unusedSimpArgs false
set_option maxRecDepth 100000
open Go.RowKit Go.Proofs.YtjbhpfmnfdebkaaGreat.Eng Enc

namespace Cv
def odd (z : Zn) : Bool := decide (Zo.chk z ≠ 0)
/-- the error of lists of zones. -/
def checked (ls : List (List Zn)) : Int := if ls.any (fun l => decide (4096 < l.length)) = true then 4 else if ls.any (fun l => l.any odd) = true then 8 else 0
def in_ (z : Zn) (l : List Zn) : Bool × Int :=
  if checked [l, [z]] = 0 then (decide ((Mi.left z l).2 = 0) && decide ((Mi.left z l).1.length = 0), (Mi.left z l).2) else (false, checked [l, [z]])
end Cv
end Go.Proofs.YtjbhpfmnfdebkaaGreat

/-
  The contract of rat.Mid, by the engine.
-/
namespace Go.Proofs.YtjbhpfmnfdebkaaGreat
set_option linter.unusedVariables false
set_option linter.unusedSimpArgs false
set_option maxRecDepth 100000
open Go.RowKit Go.Proofs.YtjbhpfmnfdebkaaGreat.Eng Enc

end Go.Proofs.YtjbhpfmnfdebkaaGreat

/-
  The contract of incl.Pick and what it calls, by the engine.
-/
namespace Go.Proofs.YtjbhpfmnfdebkaaGreat
set_option linter.unusedVariables false
set_option linter.unusedSimpArgs false
set_option maxRecDepth 100000
open Go.RowKit Go.Proofs.YtjbhpfmnfdebkaaGreat.Eng Enc

def Incl.End.val (x : Incl.End) : Value := .agg #[.bool x.is, .int .i64 x.at_.num, .int .i64 x.at_.den, .bool x.strict]

end Go.Proofs.YtjbhpfmnfdebkaaGreat

/-
  What is picked of a closed matrix of three clocks keeps it: sums of small fractions are exact, each end holds what it should. No program is in sight.
-/
namespace Go.Proofs.YtjbhpfmnfdebkaaGreat
set_option linter.unusedVariables false
set_option linter.unusedSimpArgs false
namespace Fr
/-- a small fraction: what it is divided by is at most D, its value at most M. -/
structure Sm (D M : Int) (a : Rt) : Prop where
  ok : a.ok = true
  den : a.den ≤ D
  lo : -(M * a.den) ≤ a.num
  hi : a.num ≤ M * a.den
theorem Sm.mono {D D' M M' : Int} {a : Rt} (h : Sm D M a) (hD : D ≤ D') (hM : M ≤ M') : Sm D' M' a := by
  have o := ok_bd h.ok
  have hm : M * a.den ≤ M' * a.den := Int.mul_le_mul_of_nonneg_right hM (by omega)
  exact ⟨h.ok, Int.le_trans h.den hD, by have := h.lo; omega, by have := h.hi; omega⟩
theorem v_den {a : Rt} (ha : a.ok = true) : (a.den : Rat) ≠ 0 := by
  have oa := ok_bd ha
  intro h; have : a.den = 0 := by exact_mod_cast h
  omega
/-- a fraction in lowest terms out of a great one. -/
theorem low_sm {T D M d : Int} (hD : 1 ≤ D) (hd : D ≤ d) (hd2 : d ≤ 1048576) (hM : 0 ≤ M) (hM2 : M < 2305843009213693952) (hMd : M * d ≤ 9223372036854775807) (h1 : -(M * D) ≤ T) (h2 : T ≤ M * D) :
    okB (T / Int.gcd T D) (D / Int.gcd T D) = true ∧ inI (T / Int.gcd T D) = true ∧ Sm d M ⟨T / Int.gcd T D, D / Int.gcd T D⟩ ∧ T / Int.gcd T D * D = T * (D / Int.gcd T D) := by
  have hg : 1 ≤ (Int.gcd T D : Int) := by
    have : 0 < Int.gcd T D := Int.gcd_pos_of_ne_zero_right _ (by omega)
    omega
  have d1 : (Int.gcd T D : Int) ∣ T := Int.gcd_dvd_left ..
  have d2 : (Int.gcd T D : Int) ∣ D := Int.gcd_dvd_right ..
  have hcop : Int.gcd (T / Int.gcd T D) (D / Int.gcd T D) = 1 := Int.gcd_ediv_gcd_ediv_gcd (i := T) (j := D) (by omega)
  generalize (Int.gcd T D : Int) = g at *
  obtain ⟨u, rfl⟩ := d1
  obtain ⟨x, rfl⟩ := d2
  rw [Int.mul_ediv_cancel_left _ (by omega), Int.mul_ediv_cancel_left _ (by omega)] at *
  have hx : 1 ≤ x := by
    rcases Int.lt_or_le 0 x with h | h
    · omega
    · have := Int.mul_nonpos_of_nonneg_of_nonpos (a := g) (b := x) (by omega) h
      omega
  have hxd : x ≤ d := by
    have := Int.mul_le_mul_of_nonneg_right hg (show 0 ≤ x by omega)
    omega
  have k1 : -(M * x) ≤ u := by
    refine Int.le_of_mul_le_mul_left (a := g) ?_ (by omega)
    rw [Int.mul_neg, Int.mul_left_comm]; exact h1
  have k2 : u ≤ M * x := by
    refine Int.le_of_mul_le_mul_left (a := g) ?_ (by omega)
    rw [Int.mul_left_comm g M x]; exact h2
  have hMx : M * x ≤ M * d := Int.mul_le_mul_of_nonneg_left hxd hM
  have hin : inB u x = true := by
    apply in_iff.2
    have a1 : -M ≤ u / x := by
      refine (Int.le_ediv_iff_mul_le (by omega)).2 ?_
      rw [Int.neg_mul]; exact k1
    have a2 : u / x ≤ M := by
      have := Int.ediv_le_ediv (c := x) (by omega) k2
      rwa [Int.mul_ediv_cancel _ (by omega)] at this
    omega
  have hok : okB u x = true := by
    unfold okB
    rw [hin]
    have hc2 : Nat.gcd u.natAbs x.natAbs = 1 := hcop
    simp only [hc2]; simp; omega
  refine ⟨hok, ?_, ⟨hok, hxd, k1, k2⟩, ?_⟩
  · unfold inI; simp; omega
  · rw [Int.mul_left_comm, ← Int.mul_assoc]
theorem v_of_mul {a : Rt} (ha : a.ok = true) {T D : Int} (hD : 1 ≤ D) (h : a.num * D = T * a.den) : v a * (D : Rat) = T := by
  have h1 := v_den ha
  have h2 : (a.num : Rat) * (D : Rat) = (T : Rat) * (a.den : Rat) := by exact_mod_cast h
  unfold v
  grind
theorem sum_sm {a b : Rt} {k Da Db Ma Mb d M : Int} (ha : Sm Da Ma a) (hb : Sm Db Mb b) (hk : k = 1 ∨ k = 2) (hMa : 0 ≤ Ma) (hMb : 0 ≤ Mb) (hd : Da * Db * k ≤ d) (hd2 : d ≤ 1048576) (hM : Ma + Mb ≤ M * k) (hM2 : M < 2305843009213693952) (hMd : M * d ≤ 9223372036854775807) :
    (sum a b k).2 = 0 ∧ Sm d M (sum a b k).1 ∧ v (sum a b k).1 * (k : Rat) = v a + v b := by
  have oa := ok_bd ha.ok
  have ob := ok_bd hb.ok
  have hM0 : 0 ≤ M := by rcases hk with rfl | rfl <;> omega
  have e1 : a.den * b.den ≤ Da * Db := Int.mul_le_mul ha.den hb.den (by omega) (by have := ha.den; omega)
  have e2 : 1 ≤ a.den * b.den := by
    have := Int.mul_le_mul (a := 1) (b := 1) oa.1 ob.1 (by omega) (by omega)
    omega
  have hdn : 1 ≤ dn a b k ∧ dn a b k ≤ d := by
    unfold dn
    rcases hk with rfl | rfl <;> omega
  have hT : -(M * dn a b k) ≤ tn a b ∧ tn a b ≤ M * dn a b k := by
    have p1 : a.num * b.den ≤ Ma * a.den * b.den := Int.mul_le_mul_of_nonneg_right ha.hi (by omega)
    have p2 : b.num * a.den ≤ Mb * b.den * a.den := Int.mul_le_mul_of_nonneg_right hb.hi (by omega)
    have p3 : -(Ma * a.den) * b.den ≤ a.num * b.den := Int.mul_le_mul_of_nonneg_right ha.lo (by omega)
    have p4 : -(Mb * b.den) * a.den ≤ b.num * a.den := Int.mul_le_mul_of_nonneg_right hb.lo (by omega)
    have p5 : (Ma + Mb) * (a.den * b.den) ≤ M * k * (a.den * b.den) := Int.mul_le_mul_of_nonneg_right hM (by omega)
    have q1 : M * dn a b k = M * k * (a.den * b.den) := by unfold dn; grind
    have q2 : Ma * a.den * b.den + Mb * b.den * a.den = (Ma + Mb) * (a.den * b.den) := by grind
    have q3 : -(Ma * a.den) * b.den + -(Mb * b.den) * a.den = -((Ma + Mb) * (a.den * b.den)) := by grind
    rw [q1]; unfold tn
    omega
  obtain ⟨l1, l2, l3, l4⟩ := low_sm hdn.1 hdn.2 hd2 hM0 hM2 hMd hT.1 hT.2
  unfold sum
  rw [if_pos ⟨l1, l2⟩]
  refine ⟨rfl, l3, ?_⟩
  have hv := v_of_mul l3.ok hdn.1 l4
  have h1 := v_den ha.ok
  have h2 := v_den hb.ok
  simp only at hv ⊢
  have hk0 : (k : Rat) ≠ 0 := by rcases hk with rfl | rfl <;> decide
  generalize v (⟨tn a b / Int.gcd (tn a b) (dn a b k), dn a b k / Int.gcd (tn a b) (dn a b k)⟩ : Rt) = x at *
  unfold dn tn at hv
  push_cast at hv
  unfold v
  grind
theorem of_sm {c M : Int} (h : -M ≤ c ∧ c ≤ M) (hM : M < 2305843009213693952) : Sm 1 M (of c 1).1 ∧ v (of c 1).1 = c := by
  have hok : okB c 1 = true := by
    unfold okB
    have : inB c 1 = true := in_iff.2 (by simp; omega)
    rw [this]; simp
  have e : of c 1 = (⟨c, 1⟩, 0) := by
    unfold of low
    have hg : Int.gcd c 1 = 1 := by simp
    rw [if_neg (by omega), hg]
    simp only [Int.cast_ofNat_Int, Int.ediv_one]
    rw [if_pos hok]
  rw [e]
  refine ⟨⟨hok, by simp, by simp; omega, by simp; omega⟩, ?_⟩
  show (c : Rat) / ((1 : Int) : Rat) = c
  have h1 : ((1 : Int) : Rat) = 1 := rfl
  rw [h1]; grind
theorem shift_sm {a : Rt} {D M c m d : Int} (ha : Sm D M a) (hM : 0 ≤ M) (hc : -m ≤ c ∧ c ≤ m) (hd : D ≤ d) (hd2 : d ≤ 1048576) (hM2 : M + m < 2305843009213693952) (hMd : (M + m) * d ≤ 9223372036854775807) : Sm d (M + m) (shift a c) ∧ v (shift a c) = v a + c := by
  obtain ⟨h1, h2⟩ := of_sm hc (by omega)
  have h := sum_sm (k := 1) (d := d) (M := M + m) ha h1 (.inl rfl) hM (by omega) (by omega) hd2 (by omega) hM2 hMd
  unfold shift add
  rw [if_pos ⟨ha.ok, h1.ok⟩]
  refine ⟨h.2.1, ?_⟩
  have := h.2.2
  rw [h2] at this
  grind
theorem mid_sm {a b : Rt} {D M d : Int} (ha : Sm D M a) (hb : Sm D M b) (hM : 0 ≤ M) (hd : D * D * 2 ≤ d) (hd2 : d ≤ 1048576) (hM2 : M < 2305843009213693952) (hMd : M * d ≤ 9223372036854775807) : Sm d M (mid a b).1 ∧ v (mid a b).1 * 2 = v a + v b := by
  have h := sum_sm (k := 2) (d := d) (M := M) ha hb (.inr rfl) hM hM hd hd2 (by omega) hM2 hMd
  unfold mid
  rw [if_pos ⟨ha.ok, hb.ok⟩]
  exact ⟨h.2.1, by have := h.2.2; exact_mod_cast this⟩
theorem cmp_v {a b : Rt} (ha : a.ok = true) (hb : b.ok = true) : ((cmp a b).1 < 0 ∧ v a < v b) ∨ ((cmp a b).1 = 0 ∧ v a = v b) ∨ (0 < (cmp a b).1 ∧ v b < v a) := by
  unfold cmp
  rw [if_pos ⟨ha, hb⟩]
  simp only
  have hD := den_pos ha hb
  have hs := v_sub ha hb
  have key : ∀ x : Int, (v a - v b) * ((a.den * b.den : Int) : Rat) = ((a.num * b.den - b.num * a.den : Int) : Rat) := fun _ => by
    rw [hs]
    exact Rat.div_mul_cancel (by intro h; rw [h] at hD; exact absurd hD (by decide))
  have k0 := key 0
  unfold cmpR cmpI
  split
  · rename_i h
    refine .inl ⟨by omega, ?_⟩
    have : ((a.num * b.den - b.num * a.den : Int) : Rat) < 0 := by exact_mod_cast (by omega : a.num * b.den - b.num * a.den < 0)
    rw [← k0] at this
    rcases Classical.em (v a < v b) with hh | hh
    · exact hh
    · have h2 : 0 ≤ v a - v b := by grind
      have := Rat.mul_nonneg h2 (Rat.le_of_lt hD)
      grind
  · split
    · rename_i h
      refine .inr (.inr ⟨by omega, ?_⟩)
      have : (0 : Rat) < ((a.num * b.den - b.num * a.den : Int) : Rat) := by exact_mod_cast (by omega : 0 < a.num * b.den - b.num * a.den)
      rw [← k0] at this
      rcases Classical.em (v b < v a) with hh | hh
      · exact hh
      · have h2 : 0 ≤ v b - v a := by grind
        have := Rat.mul_nonneg h2 (Rat.le_of_lt hD)
        grind
    · refine .inr (.inl ⟨rfl, ?_⟩)
      have : ((a.num * b.den - b.num * a.den : Int) : Rat) = 0 := by exact_mod_cast (by omega : a.num * b.den - b.num * a.den = 0)
      rw [this] at k0
      rcases Rat.mul_eq_zero.1 k0 with h | h
      · grind
      · rw [h] at hD; exact absurd hD (by decide)
end Fr

namespace Incl
open Fr Dbm
/-- what a lower, an upper end says of a time. -/
def loQ (E : End) (x : Rat) : Prop := E.is = true → (if E.strict = true then v E.at_ < x else v E.at_ ≤ x)
def hiQ (E : End) (x : Rat) : Prop := E.is = true → (if E.strict = true then x < v E.at_ else x ≤ v E.at_)
/-- by what bound an end stands where it stands (s: the sign). -/
def Att (P : Rat → Int → Prop) (s : Int) (E : End) : Prop := E.is = true → ∃ r b, P r b ∧ b ≠ NO ∧ v E.at_ = r - (s : Rat) * ((b / 2 : Int) : Rat) ∧ (E.strict = true ↔ Bd.st b = true)
structure EOk (D M : Int) (P : Rat → Int → Prop) (s : Int) (E : End) : Prop where
  sm : E.is = true → Sm D M E.at_
  att : Att P s E
theorem value_no : Bd.value NO = (0, false, 6) := by decide
theorem value_of {b : Int} (h : lim 288230376151711744 b) (hn : b ≠ NO) : Bd.value b = (b / 2, Bd.st b, 0) := by
  have hb := h.resolve_left hn
  have hm : Bd.may b = true := by
    unfold Bd.may Num.okB
    simp; right; omega
  have hn' : ¬ b = 9223372036854775807 := hn
  unfold Bd.value
  rw [if_pos hm, if_neg hn']
theorem near_lo {P : Rat → Int → Prop} {E : End} {D M Dr Mr b : Int} {r : Rt} (hE : EOk D M P 1 E) (hr : Sm Dr Mr r) (hMr : 0 ≤ Mr) (hDr : Dr ≤ D) (hD : D ≤ 1048576) (hMM : Mr + 288230376151711744 ≤ M) (hM2 : M < 2305843009213693952) (hMd : M * D ≤ 9223372036854775807) (hb : lim 288230376151711744 b) (hP : P (v r) b) :
    EOk D M P 1 (nearer E b r 1) ∧ ∀ x, loQ (nearer E b r 1) x ↔ (loQ E x ∧ satO (v r - x) (ob b)) := by
  unfold nearer
  by_cases hn : b = NO
  · subst hn
    rw [value_no]
    rw [if_pos (by decide)]
    refine ⟨hE, fun x => ⟨fun h => ⟨h, ?_⟩, fun h => h.1⟩⟩
    simp [ob, satO]
  have hbb := hb.resolve_left hn
  rw [value_of hb hn]
  simp only [ne_eq, not_true_eq_false, if_false]
  have hDp : 1 ≤ D := by have := (ok_bd hr.ok).1; have := hr.den; omega
  have hMd2 : (Mr + 288230376151711744) * D ≤ 9223372036854775807 := Int.le_trans (Int.mul_le_mul_of_nonneg_right hMM (by omega)) hMd
  obtain ⟨s1, s2⟩ := shift_sm (c := -1 * (b / 2)) (m := 288230376151711744) (d := D) hr hMr (by omega) hDr hD (by omega) hMd2
  have s1 := s1.mono (Int.le_refl D) hMM
  have s3 : v (shift r (-1 * (b / 2))) = v r - ((b / 2 : Int) : Rat) := by rw [s2]; push_cast; grind
  generalize shift r (-1 * (b / 2)) = at_ at *
  have hob : ob b = some b := by unfold ob; rw [if_neg hn]
  rw [hob]
  have hnew : EOk D M P 1 ⟨true, at_, Bd.st b⟩ := ⟨fun _ => s1, fun _ => ⟨v r, b, hP, hn, by rw [s3]; push_cast; grind, Iff.rfl⟩⟩
  have hsat : ∀ x, satO (v r - x) (some b) ↔ (if Bd.st b = true then v at_ < x else v at_ ≤ x) := fun x => by
    simp only [satO, s3]
    cases Bd.st b <;> simp <;> constructor <;> intro h <;> grind
  by_cases hi : E.is = false
  · rw [if_pos (.inl hi)]
    refine ⟨hnew, fun x => ?_⟩
    rw [hsat]
    unfold loQ
    rw [hi]; simp
  have hi : E.is = true := by simpa using hi
  have hc := cmp_v s1.ok (hE.sm hi).ok
  rcases hc with ⟨c1, c2⟩ | ⟨c1, c2⟩ | ⟨c1, c2⟩
  · rw [if_neg (by rw [hi]; simp; omega), if_neg (by omega)]
    refine ⟨hE, fun x => ⟨fun h => ⟨h, ?_⟩, fun h => h.1⟩⟩
    rw [hsat]
    have h' := h hi
    split at h' <;> split <;> grind
  · rw [if_neg (by rw [hi, c1]; simp), if_pos c1]
    refine ⟨⟨fun _ => hE.sm hi, fun _ => ?_⟩, fun x => ?_⟩
    · obtain ⟨r', b', p1, p2, p3, p4⟩ := hE.att hi
      cases hs : Bd.st b
      · exact ⟨r', b', p1, p2, p3, by simp only [Bool.or_false]; exact p4⟩
      · exact ⟨v r, b, hP, hn, by simp only; rw [← c2, s3]; push_cast; grind, by simp [hs]⟩
    · rw [hsat]
      unfold loQ
      simp only [hi, true_implies]
      cases hs : E.strict <;> cases hs2 : Bd.st b <;> simp <;> rw [c2] <;> (try constructor) <;> grind
  · rw [if_pos (.inr (by omega))]
    refine ⟨hnew, fun x => ?_⟩
    rw [hsat]
    unfold loQ
    simp only [hi, true_implies]
    constructor
    · intro h
      refine ⟨?_, h⟩
      split at h <;> split <;> grind
    · exact fun h => h.2
theorem near_hi {P : Rat → Int → Prop} {E : End} {D M Dr Mr b : Int} {r : Rt} (hE : EOk D M P (-1) E) (hr : Sm Dr Mr r) (hMr : 0 ≤ Mr) (hDr : Dr ≤ D) (hD : D ≤ 1048576) (hMM : Mr + 288230376151711744 ≤ M) (hM2 : M < 2305843009213693952) (hMd : M * D ≤ 9223372036854775807) (hb : lim 288230376151711744 b) (hP : P (v r) b) :
    EOk D M P (-1) (nearer E b r (-1)) ∧ ∀ x, hiQ (nearer E b r (-1)) x ↔ (hiQ E x ∧ satO (x - v r) (ob b)) := by
  unfold nearer
  by_cases hn : b = NO
  · subst hn
    rw [value_no]
    rw [if_pos (by decide)]
    refine ⟨hE, fun x => ⟨fun h => ⟨h, ?_⟩, fun h => h.1⟩⟩
    simp [ob, satO]
  have hbb := hb.resolve_left hn
  rw [value_of hb hn]
  simp only [ne_eq, not_true_eq_false, if_false]
  have hDp : 1 ≤ D := by have := (ok_bd hr.ok).1; have := hr.den; omega
  have hMd2 : (Mr + 288230376151711744) * D ≤ 9223372036854775807 := Int.le_trans (Int.mul_le_mul_of_nonneg_right hMM (by omega)) hMd
  obtain ⟨s1, s2⟩ := shift_sm (c := - -1 * (b / 2)) (m := 288230376151711744) (d := D) hr hMr (by omega) hDr hD (by omega) hMd2
  have s1 := s1.mono (Int.le_refl D) hMM
  have s3 : v (shift r (- -1 * (b / 2))) = v r + ((b / 2 : Int) : Rat) := by rw [s2]; push_cast; grind
  generalize shift r (- -1 * (b / 2)) = at_ at *
  have hob : ob b = some b := by unfold ob; rw [if_neg hn]
  rw [hob]
  have hnew : EOk D M P (-1) ⟨true, at_, Bd.st b⟩ := ⟨fun _ => s1, fun _ => ⟨v r, b, hP, hn, by rw [s3]; push_cast; grind, Iff.rfl⟩⟩
  have hsat : ∀ x, satO (x - v r) (some b) ↔ (if Bd.st b = true then x < v at_ else x ≤ v at_) := fun x => by
    simp only [satO, s3]
    cases Bd.st b <;> simp <;> constructor <;> intro h <;> grind
  by_cases hi : E.is = false
  · rw [if_pos (.inl hi)]
    refine ⟨hnew, fun x => ?_⟩
    rw [hsat]
    unfold hiQ
    rw [hi]; simp
  have hi : E.is = true := by simpa using hi
  have hc := cmp_v s1.ok (hE.sm hi).ok
  rcases hc with ⟨c1, c2⟩ | ⟨c1, c2⟩ | ⟨c1, c2⟩
  · rw [if_pos (.inr (by omega))]
    refine ⟨hnew, fun x => ?_⟩
    rw [hsat]
    unfold hiQ
    simp only [hi, true_implies]
    constructor
    · intro h
      refine ⟨?_, h⟩
      split at h <;> split <;> grind
    · exact fun h => h.2
  · rw [if_neg (by rw [hi, c1]; simp), if_pos c1]
    refine ⟨⟨fun _ => hE.sm hi, fun _ => ?_⟩, fun x => ?_⟩
    · obtain ⟨r', b', p1, p2, p3, p4⟩ := hE.att hi
      cases hs : Bd.st b
      · exact ⟨r', b', p1, p2, p3, by simp only [Bool.or_false]; exact p4⟩
      · exact ⟨v r, b, hP, hn, by simp only; rw [← c2, s3]; push_cast; grind, by simp [hs]⟩
    · rw [hsat]
      unfold hiQ
      simp only [hi, true_implies]
      cases hs : E.strict <;> cases hs2 : Bd.st b <;> simp <;> rw [c2] <;> (try constructor) <;> grind
  · rw [if_neg (by rw [hi]; simp; omega), if_neg (by omega)]
    refine ⟨hE, fun x => ⟨fun h => ⟨h, ?_⟩, fun h => h.1⟩⟩
    rw [hsat]
    have h' := h hi
    split at h' <;> split <;> grind
theorem st_bsum (u v : Int) : Bd.st (bsum u v) = true ↔ (Bd.st u = true ∨ Bd.st v = true) := by
  rw [st_iff, st_iff, st_iff]
  unfold bsum
  rcases parity u with h1 | h1 <;> rcases parity v with h2 | h2 <;> rw [h1, h2] <;> constructor <;> intro h <;> omega
/-- the ends leave room. -/
theorem ends_room {P Q : Rat → Int → Prop} {l h : End} {D M : Int} (hl : EOk D M P 1 l) (hh : EOk D M Q (-1) h) (hc : ∀ r b r' b', P r b → Q r' b' → b ≠ NO → b' ≠ NO → satO (r - r') (some (bsum b b'))) (h1 : l.is = true) (h2 : h.is = true) :
    v l.at_ ≤ v h.at_ ∧ ((l.strict = true ∨ h.strict = true) → v l.at_ < v h.at_) := by
  obtain ⟨r, b, p1, p2, p3, p4⟩ := hl.att h1
  obtain ⟨r', b', q1, q2, q3, q4⟩ := hh.att h2
  have hs := hc r b r' b' p1 q1 p2 q2
  have hst := st_bsum b b'
  rw [← p4, ← q4] at hst
  simp only [satO, bsum_half] at hs
  rw [p3, q3]
  push_cast at hs ⊢
  generalize ((b / 2 : Int) : Rat) = x at *
  generalize ((b' / 2 : Int) : Rat) = y at *
  split at hs
  · rename_i hk
    exact ⟨by grind, fun _ => by grind⟩
  · rename_i hk
    exact ⟨by grind, fun hh => absurd (hst.2 hh) hk⟩
theorem choose_ok {P Q : Rat → Int → Prop} {l h : End} {D M : Int} (hl : EOk D M P 1 l) (hh : EOk D M Q (-1) h) (hc : ∀ r b r' b', P r b → Q r' b' → b ≠ NO → b' ≠ NO → satO (r - r') (some (bsum b b')))
    (hD : 1 ≤ D) (hD2 : D * D * 2 ≤ 1048576) (hM : 0 ≤ M) (hM2 : M + 1 < 2305843009213693952) (hMd : (M + 1) * (D * D * 2) ≤ 9223372036854775807) :
    Sm (D * D * 2) (M + 1) (choose l h) ∧ loQ l (v (choose l h)) ∧ hiQ h (v (choose l h)) := by
  have hDD : D ≤ D * D * 2 := by
    have := Int.mul_le_mul_of_nonneg_right hD (show 0 ≤ D by omega)
    omega
  have hroom := ends_room hl hh hc
  unfold choose
  split
  · rename_i h1
    refine ⟨(hl.sm h1.1).mono hDD (by omega), fun _ => by rw [h1.2]; simp, fun h2 => ?_⟩
    obtain ⟨r1, r2⟩ := hroom h1.1 h2
    split
    · exact r2 (.inr (by assumption))
    · exact r1
  · rename_i n1
    split
    · rename_i h2
      refine ⟨(hh.sm h2.1).mono hDD (by omega), fun h1 => ?_, fun _ => by rw [h2.2]; simp⟩
      obtain ⟨r1, r2⟩ := hroom h1 h2.1
      split
      · exact r2 (.inl (by assumption))
      · exact r1
    · rename_i n2
      split
      · rename_i h3
        obtain ⟨r1, r2⟩ := hroom h3.1 h3.2
        have s1 : l.strict = true := by
          cases hs : l.strict
          · exact absurd ⟨h3.1, hs⟩ n1
          · rfl
        have r3 := r2 (.inl s1)
        obtain ⟨m1, m2⟩ := mid_sm (d := D * D * 2) (hl.sm h3.1) (hh.sm h3.2) hM (Int.le_refl _) hD2 (by omega) (Int.le_trans (Int.mul_le_mul_of_nonneg_right (show M ≤ M + 1 by omega) (by omega)) hMd)
        refine ⟨m1.mono (Int.le_refl _) (by omega), fun _ => ?_, fun _ => ?_⟩
        · split <;> grind
        · split <;> grind
      · rename_i n3
        split
        · rename_i h1
          have h2 : h.is = false := by
            cases hs : h.is
            · rfl
            · exact absurd ⟨h1, hs⟩ n3
          obtain ⟨m1, m2⟩ := shift_sm (c := 1) (m := 1) (d := D * D * 2) (hl.sm h1) hM (by omega) hDD hD2 hM2 hMd
          refine ⟨m1, fun _ => ?_, fun hh2 => by rw [h2] at hh2; cases hh2⟩
          rw [m2]
          split <;> grind
        · rename_i n4
          have h1 : l.is = false := by simpa using n4
          split
          · rename_i h2
            obtain ⟨m1, m2⟩ := shift_sm (c := -1) (m := 1) (d := D * D * 2) (hh.sm h2) hM (by omega) hDD hD2 hM2 hMd
            refine ⟨m1, fun hh2 => absurd hh2 (by rw [h1]; decide), fun _ => ?_⟩
            rw [m2]
            split <;> grind
          · rename_i n5
            have h2 : h.is = false := by simpa using n5
            refine ⟨⟨by decide, by simp only; omega, by simp only; omega, by simp only; omega⟩, fun hh2 => absurd hh2 (by rw [h1]; decide), fun hh2 => absurd hh2 (by rw [h2]; decide)⟩
theorem ends_ok {n : Nat} {C : List Int} {so : List Rt} {D M Dr Mr : Int} (hso : ∀ j, j < so.length → Sm Dr Mr (so[j]?.getD ⟨0, 1⟩)) (hMr : 0 ≤ Mr) (hDr : Dr ≤ D) (hD : D ≤ 1048576) (hMM : Mr + 288230376151711744 ≤ M) (hM2 : M < 2305843009213693952) (hMd : M * D ≤ 9223372036854775807)
    (hb : ∀ j, j < so.length → lim 288230376151711744 (C[j * n + so.length]?.getD 0) ∧ lim 288230376151711744 (C[so.length * n + j]?.getD 0)) : ∀ k, k ≤ so.length →
    (EOk D M (fun r b => ∃ j, j < so.length ∧ r = v (so[j]?.getD ⟨0, 1⟩) ∧ b = C[j * n + so.length]?.getD 0) 1 (ends n C so k).1 ∧ ∀ x, loQ (ends n C so k).1 x ↔ ∀ j, j < k → satO (v (so[j]?.getD ⟨0, 1⟩) - x) (ob (C[j * n + so.length]?.getD 0))) ∧
    (EOk D M (fun r b => ∃ j, j < so.length ∧ r = v (so[j]?.getD ⟨0, 1⟩) ∧ b = C[so.length * n + j]?.getD 0) (-1) (ends n C so k).2 ∧ ∀ x, hiQ (ends n C so k).2 x ↔ ∀ j, j < k → satO (x - v (so[j]?.getD ⟨0, 1⟩)) (ob (C[so.length * n + j]?.getD 0)))
  | 0, _ => by
    exact ⟨⟨⟨fun h => by simp [ends, End.none] at h, fun h => by simp [ends, End.none] at h⟩, fun x => ⟨fun _ j hj => by omega, fun _ h => by simp [ends, End.none] at h⟩⟩, ⟨⟨fun h => by simp [ends, End.none] at h, fun h => by simp [ends, End.none] at h⟩, fun x => ⟨fun _ j hj => by omega, fun _ h => by simp [ends, End.none] at h⟩⟩⟩
  | k + 1, hk => by
    obtain ⟨⟨l1, l2⟩, ⟨h1, h2⟩⟩ := ends_ok hso hMr hDr hD hMM hM2 hMd hb k (by omega)
    obtain ⟨a1, a2⟩ := near_lo l1 (hso k (by omega)) hMr hDr hD hMM hM2 hMd (hb k (by omega)).1 ⟨k, by omega, rfl, rfl⟩
    obtain ⟨b1, b2⟩ := near_hi h1 (hso k (by omega)) hMr hDr hD hMM hM2 hMd (hb k (by omega)).2 ⟨k, by omega, rfl, rfl⟩
    have key : ∀ (p : Nat → Prop), (∀ j, j < k + 1 → p j) ↔ ((∀ j, j < k → p j) ∧ p k) := fun p => by
      constructor
      · exact fun h => ⟨fun j hj => h j (by omega), h k (by omega)⟩
      · rintro ⟨h, h'⟩ j hj
        rcases Nat.lt_succ_iff_lt_or_eq.1 hj with hj | rfl
        · exact h j hj
        · exact h'
    refine ⟨⟨a1, fun x => ?_⟩, ⟨b1, fun x => ?_⟩⟩
    · show loQ (nearer _ _ _ 1) x ↔ _
      rw [a2, l2, key (fun j => satO (v (so[j]?.getD ⟨0, 1⟩) - x) (ob (C[j * n + so.length]?.getD 0)))]
    · show hiQ (nearer _ _ _ (-1)) x ↔ _
      rw [b2, h2, key (fun j => satO (x - v (so[j]?.getD ⟨0, 1⟩)) (ob (C[so.length * n + j]?.getD 0)))]
/-- one clock more. -/
theorem pick_ok {N : Nat} {C : List Int} {so : List Rt} {D M : Int} (hC : Clo N C) (hlim : ∀ i j, i < N → j < N → lim 288230376151711744 (C[i * N + j]?.getD 0)) (hm : so.length < N) (hso : ∀ j, j < so.length → Sm D M (so[j]?.getD ⟨0, 1⟩))
    (hf : ∀ i j, i < so.length → j < so.length → satO (v (so[i]?.getD ⟨0, 1⟩) - v (so[j]?.getD ⟨0, 1⟩)) (mx N C i j)) (hM : 0 ≤ M) (hD : 1 ≤ D) (hD2 : D * D * 2 ≤ 1048576) (hM2 : M + 288230376151711744 + 1 < 2305843009213693952) (hMd : (M + 288230376151711744 + 1) * (D * D * 2) ≤ 9223372036854775807) :
    Sm (D * D * 2) (M + 288230376151711744 + 1) (pick N C so) ∧ ∀ j, j < so.length → satO (v (so[j]?.getD ⟨0, 1⟩) - v (pick N C so)) (mx N C j so.length) ∧ satO (v (pick N C so) - v (so[j]?.getD ⟨0, 1⟩)) (mx N C so.length j) := by
  have hDD : D ≤ D * D * 2 := by
    have := Int.mul_le_mul_of_nonneg_right hD (show 0 ≤ D by omega)
    omega
  have hq : (M + 288230376151711744) * D ≤ 9223372036854775807 := Int.le_trans (Int.mul_le_mul (show M + 288230376151711744 ≤ M + 288230376151711744 + 1 by omega) hDD (by omega) (by omega)) hMd
  obtain ⟨⟨l1, l2⟩, ⟨h1, h2⟩⟩ := ends_ok (n := N) (C := C) (D := D) (M := M + 288230376151711744) hso hM (Int.le_refl _) (by omega) (Int.le_refl _) (by omega) hq (fun j hj => ⟨hlim j _ (by omega) hm, hlim _ j hm (by omega)⟩) so.length (Nat.le_refl _)
  have hc : ∀ r b r' b', (∃ j, j < so.length ∧ r = v (so[j]?.getD ⟨0, 1⟩) ∧ b = C[j * N + so.length]?.getD 0) → (∃ j, j < so.length ∧ r' = v (so[j]?.getD ⟨0, 1⟩) ∧ b' = C[so.length * N + j]?.getD 0) → b ≠ NO → b' ≠ NO → satO (r - r') (some (bsum b b')) := by
    rintro r b r' b' ⟨j, hj, rfl, rfl⟩ ⟨i, hi, rfl, rfl⟩ n1 n2
    have ht := hC.tri j i so.length (by omega) (by omega) hm
    have := satO_mono ht (hf j i hj hi)
    have e1 : mx N C j so.length = some (C[j * N + so.length]?.getD 0) := by unfold mx ob; rw [if_neg n1]
    have e2 : mx N C so.length i = some (C[so.length * N + i]?.getD 0) := by unfold mx ob; rw [if_neg n2]
    rw [e1, e2] at this
    exact this
  obtain ⟨c1, c2, c3⟩ := choose_ok l1 h1 hc hD hD2 (by omega) hM2 hMd
  exact ⟨c1, fun j hj => ⟨(l2 _).1 c2 j hj, (h2 _).1 c3 j hj⟩⟩
/-- what is picked of a closed matrix of three clocks keeps it. -/
theorem picks_in {C : List Int} (hc : chk 3 C = 0) (hC : Clo 3 C) : ∃ t u : Rt, picks 3 C = ([t, u], 0) ∧ t.ok = true ∧ u.ok = true ∧ Fits 3 (mx 3 C) (tvs [t, u]) := by
  have hlen : C.length = 9 := hC.len
  have hlim : ∀ i j, i < 3 → j < 3 → lim 288230376151711744 (C[i * 3 + j]?.getD 0) := fun i j hi hj => chk_lim hc _ (by omega)
  have s0 : Sm 1 0 ⟨0, 1⟩ := ⟨by decide, by decide, by decide, by decide⟩
  have v0 : v ⟨0, 1⟩ = 0 := by
    show ((0 : Int) : Rat) / ((1 : Int) : Rat) = 0
    have h1 : ((1 : Int) : Rat) = 1 := rfl
    have h2 : ((0 : Int) : Rat) = 0 := rfl
    rw [h1, h2]; grind
  have d1 : ∀ i, i < 3 → satO 0 (mx 3 C i i) := fun i hi => by
    unfold mx ob
    rw [hC.diag i hi]
    exact satO_zero.2 (by omega)
  obtain ⟨a1, a2⟩ := pick_ok (so := [⟨0, 1⟩]) (D := 1) (M := 0) hC hlim (by decide) (fun j hj => by
      have hj : j < 1 := hj
      have e0 : j = 0 := by omega
      rw [e0]; exact s0)
    (fun i j hi hj => by
      have hi : i < 1 := hi
      have hj : j < 1 := hj
      have e0 : i = 0 := by omega
      have e1 : j = 0 := by omega
      rw [e0, e1, Rat.sub_self]; exact d1 0 (by decide)) (by decide) (by decide) (by decide) (by decide) (by decide)
  generalize ht : pick 3 C [⟨0, 1⟩] = t at *
  have b1 := a2 0 (by decide)
  have a1' : Sm 2 288230376151711745 t := a1
  have s0' := s0.mono (show (1 : Int) ≤ 2 by decide) (show (0 : Int) ≤ 288230376151711745 by decide)
  obtain ⟨c1, c2⟩ := pick_ok (so := [⟨0, 1⟩, t]) (D := 2) (M := 288230376151711745) hC hlim (by simp) (fun j hj => by
      have hj : j < 2 := hj
      have : j = 0 ∨ j = 1 := by omega
      rcases this with rfl | rfl
      · exact s0'
      · exact a1')
    (fun i j hi hj => by
      have hi : i < 2 := hi
      have hj : j < 2 := hj
      have : i = 0 ∨ i = 1 := by omega
      have : j = 0 ∨ j = 1 := by omega
      rcases ‹i = 0 ∨ _› with rfl | rfl <;> rcases ‹j = 0 ∨ _› with rfl | rfl
      · rw [Rat.sub_self]; exact d1 0 (by decide)
      · exact b1.1
      · exact b1.2
      · rw [Rat.sub_self]; exact d1 1 (by decide)) (by decide) (by decide) (by decide) (by decide) (by decide)
  generalize hu : pick 3 C [⟨0, 1⟩, t] = u at *
  have b2 := c2 0 (by simp)
  have b3 := c2 1 (by simp)
  have hp : picked 3 C = [t, u] := by
    unfold picked
    show (sofar 3 C 2).drop 1 = _
    simp only [sofar, List.singleton_append, List.cons_append, List.nil_append, ht, hu, List.drop_succ_cons, List.drop_zero]
  refine ⟨t, u, ?_, a1.ok, c1.ok, ?_⟩
  · unfold picks
    rw [if_pos hc]
    have e3 : Int.toNat 3 = 3 := rfl
    rw [e3, hC.close]
    simp only [hp]
  · intro i j hi hj
    have : i = 0 ∨ i = 1 ∨ i = 2 := by omega
    have : j = 0 ∨ j = 1 ∨ j = 2 := by omega
    rcases ‹i = 0 ∨ _› with rfl | rfl | rfl <;> rcases ‹j = 0 ∨ _› with rfl | rfl | rfl
    · rw [Rat.sub_self]; exact d1 0 (by decide)
    · exact b1.1
    · exact b2.1
    · exact b1.2
    · rw [Rat.sub_self]; exact d1 1 (by decide)
    · exact b3.1
    · exact b2.2
    · exact b3.2
    · rw [Rat.sub_self]; exact d1 2 (by decide)
end Incl
end Go.Proofs.YtjbhpfmnfdebkaaGreat

/-
  The contracts of zone.Pick and cover.Witness, by the engine.
-/
namespace Go.Proofs.YtjbhpfmnfdebkaaGreat
set_option linter.unusedVariables false
set_option linter.unusedSimpArgs false
set_option maxRecDepth 100000
open Go.RowKit Go.Proofs.YtjbhpfmnfdebkaaGreat.Eng Enc

namespace Zo
theorem clo {z : Zn} (h : chk z = 0) : Dbm.chk 3 (matL z) = 0 ∧ Dbm.Clo 3 (matL z) := by
  have hk := chk_eq.1 h
  unfold Dbm.close at hk
  split at hk
  · rename_i h0
    split at hk
    · rename_i C hC
      have : C = matL z := by simpa using hk
      subst this
      exact ⟨h0, Dbm.close_clo h0 hC⟩
    · simp at hk
  · simp at hk
def pick (z : Zn) : Pt × Int := if chk z = 0 then (match (Incl.picks 3 (matL z)).1 with | [t, u] => (⟨t, u⟩, 0) | _ => (⟨⟨0, 0⟩, ⟨0, 0⟩⟩, 0)) else (⟨⟨0, 0⟩, ⟨0, 0⟩⟩, 8)
end Zo
namespace Cv
def witness (z : Zn) (l : List Zn) : Pt × Int :=
  if checked [l, [z]] = 0 then (if (Mi.left z l).2 = 0 then (match (Mi.left z l).1 with | [] => (⟨⟨0, 0⟩, ⟨0, 0⟩⟩, 6) | x :: _ => Zo.pick x) else (⟨⟨0, 0⟩, ⟨0, 0⟩⟩, (Mi.left z l).2)) else (⟨⟨0, 0⟩, ⟨0, 0⟩⟩, checked [l, [z]])
end Cv
end Go.Proofs.YtjbhpfmnfdebkaaGreat

/-
  What the examples and the questions of chapter 12 mean, in plain words. No program is in sight.
-/
namespace Go.Proofs.YtjbhpfmnfdebkaaGreat
set_option linter.unusedVariables false
namespace Cv
def of (lo hi : Int) : Zn := (Zo.make ⟨lo, false, hi, false, false⟩ ⟨0, false, 4, false, false⟩ ⟨0, true, 0, false, true⟩).1
end Cv
namespace Cv
def among (l : List Zn) (p : Pt) : Bool × Bool := if l.any (fun b => decide ((Zo.has b p).2 ≠ 0)) = true then (false, false) else (l.any (fun b => (Zo.has b p).1), true)
end Cv
end Go.Proofs.YtjbhpfmnfdebkaaGreat

/-
  What is left of zones, as sets of points; the plain law of CoverWitness.
-/
namespace Go.Proofs.YtjbhpfmnfdebkaaGreat
set_option linter.unusedVariables false
set_option linter.unusedSimpArgs false
open Go.RowKit Go.Proofs.YtjbhpfmnfdebkaaGreat.Eng Enc
namespace Mi
open Dbm
/-- times that are a zone's. -/
def Fz (z : Zn) (t : Nat → Rat) : Prop := Fits 3 (mx 3 (Zo.matL z)) t
/-- the difference that a zone's bound speaks of. -/
def dif (i : Nat) (t : Nat → Rat) : Rat := if i = 0 then t 1 - t 0 else if i = 1 then t 0 - t 1 else if i = 2 then t 2 - t 0 else if i = 3 then t 0 - t 2 else if i = 4 then t 2 - t 1 else t 1 - t 2
theorem six {k : Nat} (h : k < 6) : k = 0 ∨ k = 1 ∨ k = 2 ∨ k = 3 ∨ k = 4 ∨ k = 5 := by omega
theorem fz_iff (z : Zn) (t : Nat → Rat) : Fz z t ↔ ∀ i, i < 6 → satO (dif i t) (ob (Zo.get z i)) := by
  have o1 : ob 1 = some 1 := by decide
  constructor
  · intro h i hi
    rcases six hi with rfl | rfl | rfl | rfl | rfl | rfl
    · exact h 1 0 (by decide) (by decide)
    · exact h 0 1 (by decide) (by decide)
    · exact h 2 0 (by decide) (by decide)
    · exact h 0 2 (by decide) (by decide)
    · exact h 2 1 (by decide) (by decide)
    · exact h 1 2 (by decide) (by decide)
  · intro h i j hi hj
    have : i = 0 ∨ i = 1 ∨ i = 2 := by omega
    have : j = 0 ∨ j = 1 ∨ j = 2 := by omega
    rcases ‹i = 0 ∨ _› with rfl | rfl | rfl <;> rcases ‹j = 0 ∨ _› with rfl | rfl | rfl
    · rw [Rat.sub_self]; show satO 0 (ob 1); rw [o1]; exact satO_zero.2 (by omega)
    · exact h 1 (by decide)
    · exact h 3 (by decide)
    · exact h 0 (by decide)
    · rw [Rat.sub_self]; show satO 0 (ob 1); rw [o1]; exact satO_zero.2 (by omega)
    · exact h 5 (by decide)
    · exact h 2 (by decide)
    · exact h 4 (by decide)
    · rw [Rat.sub_self]; show satO 0 (ob 1); rw [o1]; exact satO_zero.2 (by omega)
theorem satO_min (d : Rat) (x b : Int) : (x = NO ∨ x < NO) → (b = NO ∨ b < NO) → (satO d (ob (min x b)) ↔ satO d (ob x) ∧ satO d (ob b)) := by
  intro hx hb
  have mono : ∀ u v : Int, u ≤ v → (v = NO ∨ v < NO) → satO d (ob u) → satO d (ob v) := fun u v huv hv h => by
    refine satO_mono ?_ h
    unfold ob
    split
    · rename_i hu
      have : v = NO := by omega
      rw [if_pos this]; trivial
    · split
      · trivial
      · exact huv
  rcases Int.le_total x b with h | h
  · rw [Int.min_eq_left h]
    exact ⟨fun k => ⟨k, mono _ _ h hb k⟩, fun k => k.1⟩
  · rw [Int.min_eq_right h]
    exact ⟨fun k => ⟨mono _ _ h hx k, k⟩, fun k => k.2⟩
theorem get_set (z : Zn) {i j : Nat} (hi : i < 6) (hj : j < 6) (x : Int) : Zo.get (Zo.set z i x) j = if j = i then x else Zo.get z j := by
  rcases six hi with rfl | rfl | rfl | rfl | rfl | rfl <;> rcases six hj with rfl | rfl | rfl | rfl | rfl | rfl <;> rfl
theorem lim_lt {m b : Int} (h : lim m b) (hm : m ≤ 2305843009213693951) : b = NO ∨ b < NO := by
  rcases h with h | h
  · exact .inl h
  · right; unfold NO; omega
theorem get_lim {z : Zn} (h : chk 3 (Zo.matL z) = 0) {i : Nat} (hi : i < 6) : lim 288230376151711744 (Zo.get z i) := by
  have g : ∀ q, q < 9 → lim 288230376151711744 ((Zo.matL z)[q]?.getD 0) := fun q hq => chk_lim h q hq
  rcases six hi with rfl | rfl | rfl | rfl | rfl | rfl
  · exact g 3 (by decide)
  · exact g 1 (by decide)
  · exact g 6 (by decide)
  · exact g 2 (by decide)
  · exact g 7 (by decide)
  · exact g 5 (by decide)
theorem cut_fz {z : Zn} (hz : chk 3 (Zo.matL z) = 0) {i : Nat} (hi : i < 6) {b : Int} (hb : b = NO ∨ b < NO) (t : Nat → Rat) : Fz (cut z i b) t ↔ Fz z t ∧ satO (dif i t) (ob b) := by
  have hm := satO_min (dif i t) (Zo.get z i) b (lim_lt (get_lim hz hi) (by omega)) hb
  rw [fz_iff, fz_iff]
  unfold cut
  constructor
  · intro h
    have hi' := h i hi
    rw [get_set z hi hi, if_pos rfl] at hi'
    refine ⟨fun j hj => ?_, (hm.1 hi').2⟩
    by_cases e : j = i
    · subst e; exact (hm.1 hi').1
    · have := h j hj
      rwa [get_set z hi hj, if_neg e] at this
  · rintro ⟨h1, h2⟩ j hj
    rw [get_set z hi hj]
    by_cases e : j = i
    · subst e; rw [if_pos rfl]; exact hm.2 ⟨h1 j hj, h2⟩
    · rw [if_neg e]; exact h1 j hj
/-- a zone out of a matrix. -/
theorem of_ok {L : List Int} (h : (Zo.of 3 L).2 = 0) : Zo.chk (Zo.of 3 L).1 = 0 ∧ ∀ t, Fz (Zo.of 3 L).1 t ↔ Fits 3 (mx 3 L) t := by
  unfold Zo.of at h ⊢
  by_cases h0 : chk 3 L = 0
  case neg => rw [if_neg h0] at h; cases h
  rw [if_pos h0, if_pos rfl] at h ⊢
  have hcl : close 3 L = (match closeL 3 L with | some L' => (3, L', 0) | none => (0, [], 6)) := by unfold close; rw [if_pos h0]; rfl
  cases hC : closeL 3 L with
  | none => rw [hC] at hcl; rw [hcl] at h; rw [if_neg (by decide)] at h; cases h
  | some C =>
    rw [hC] at hcl
    rw [hcl] at h ⊢
    rw [if_pos rfl] at h ⊢
    unfold Zo.told at h ⊢
    by_cases h1 : chk 3 C = 0
    case neg =>
      have : (if chk 3 C = 0 then (Zo.ofL C, (0 : Int)) else (Zo.nought, 8)).2 = 0 := h
      rw [if_neg h1] at this; cases this
    have e1 : (if chk 3 C = 0 then (Zo.ofL C, (0 : Int)) else (Zo.nought, 8)) = (Zo.ofL C, 0) := if_pos h1
    show Zo.chk (if chk 3 C = 0 then (Zo.ofL C, (0 : Int)) else (Zo.nought, 8)).1 = 0 ∧ ∀ t, Fz (if chk 3 C = 0 then (Zo.ofL C, (0 : Int)) else (Zo.nought, 8)).1 t ↔ _
    rw [e1]
    have clo := close_clo h0 hC
    have hm : Zo.matL (Zo.ofL C) = C := by
      have hlen : C.length = 9 := clo.len
      have d0 := clo.diag 0 (by decide)
      have d1 := clo.diag 1 (by decide)
      have d2 := clo.diag 2 (by decide)
      match C, hlen with
      | [c0, c1, c2, c3, c4, c5, c6, c7, c8], _ =>
        simp at d0 d1 d2
        subst d0; subst d1; subst d2
        rfl
    refine ⟨?_, fun t => ?_⟩
    · unfold Zo.chk
      rw [hm]
      have : close 3 C = (3, C, 0) := by
        unfold close
        rw [if_pos h1]
        show (match closeL 3 C with | some L' => ((3 : Int), L', (0 : Int)) | none => (0, [], 6)) = _
        rw [clo.close]
      rw [if_pos this]
    · unfold Fz
      rw [hm]
      exact close_fits h0 hC t
theorem wth_ok {z : Zn} (hz : chk 3 (Zo.matL z) = 0) {i : Nat} (hi : i < 6) {b : Int} (hb : b = NO ∨ b < NO) (h : (wth z i b).2 = 0) : Zo.chk (wth z i b).1 = 0 ∧ ∀ t, Fz (wth z i b).1 t ↔ Fz z t ∧ satO (dif i t) (ob b) := by
  unfold wth at h ⊢
  by_cases h0 : chk 3 (Zo.matL (cut z i b)) = 0
  case neg => rw [if_neg h0] at h; cases h
  rw [if_pos h0] at h ⊢
  obtain ⟨h1, h2⟩ := of_ok h
  exact ⟨h1, fun t => (h2 t).trans (cut_fz hz hi hb t)⟩
theorem dif_other {i : Nat} (hi : i < 6) (t : Nat → Rat) : dif (other i) t = - dif i t := by
  rcases six hi with rfl | rfl | rfl | rfl | rfl | rfl <;> simp [dif, other] <;> grind
theorem not_lt {b : Int} (h : (Bd.not b).2 = 0) (hl : lim 288230376151711744 b) : b ≠ NO ∧ (Bd.not b).1 < NO ∧ ∀ d : Rat, satO (-d) (ob (Bd.not b).1) ↔ ¬ satO d (ob b) := by
  unfold Bd.not at h ⊢
  by_cases hn : b = NO
  · subst hn
    rw [Incl.value_no] at h
    rw [if_neg (by decide)] at h; cases h
  rw [Incl.value_of hl hn] at h ⊢
  simp only [if_true] at h ⊢
  have hb := hl.resolve_left hn
  have hok : Num.okB (-(b / 2)) = true := Num.okB_iff.2 (by omega)
  unfold Bd.made at h ⊢
  rw [if_pos hok] at h ⊢
  simp only
  refine ⟨hn, ?_, fun d => ?_⟩
  · unfold Bd.mk NO; split <;> omega
  · have hob : ob b = some b := by unfold ob; rw [if_neg hn]
    rw [hob]
    have hm : Bd.mk (-(b / 2)) (!Bd.st b) < NO ∧ -1000000000000000000 ≤ Bd.mk (-(b / 2)) (!Bd.st b) := by unfold Bd.mk NO; split <;> omega
    have hob2 : ob (Bd.mk (-(b / 2)) (!Bd.st b)) = some (Bd.mk (-(b / 2)) (!Bd.st b)) := by unfold ob; rw [if_neg (by omega)]
    rw [hob2]
    simp only [satO]
    cases hs : Bd.st b
    · have e1 : Bd.mk (-(b / 2)) (!false) = -(b / 2) * 2 := rfl
      have e2 : Bd.st (-(b / 2) * 2) = true := (st_iff _).2 (by omega)
      have e3 : -(b / 2) * 2 / 2 = -(b / 2) := by omega
      rw [e1, e2, e3, Rat.intCast_neg]
      simp only [Bool.false_eq_true, if_true, if_false]
      constructor <;> intro h <;> grind
    · have e1 : Bd.mk (-(b / 2)) (!true) = -(b / 2) * 2 + 1 := rfl
      have e2 : Bd.st (-(b / 2) * 2 + 1) = false := by
        cases hh : Bd.st (-(b / 2) * 2 + 1)
        · rfl
        · have := (st_iff _).1 hh; omega
      have e3 : (-(b / 2) * 2 + 1) / 2 = -(b / 2) := by omega
      rw [e1, e2, e3, Rat.intCast_neg]
      simp only [Bool.false_eq_true, if_true, if_false]
      constructor <;> intro h <;> grind
/-- each of what is told is of the one, and breaks one of the other's bounds. -/
theorem go_ok {b : Zn} (hb : chk 3 (Zo.matL b) = 0) : ∀ (l : List Nat) (x : Zn), (∀ i, i ∈ l → i < 6) → chk 3 (Zo.matL x) = 0 → (∀ y, y ∈ go b l x → y.2 = 0) →
    ∀ y, y ∈ go b l x → Zo.chk y.1 = 0 ∧ ∀ t, Fz y.1 t → Fz x t ∧ ∃ i, i < 6 ∧ ¬ satO (dif i t) (ob (Zo.get b i))
  | [], x, _, _, _, y, hy => by simp [go] at hy
  | i :: l, x, hl, hx, h0, y, hy => by
    have hi := hl i (by simp)
    have hll : ∀ j, j ∈ l → j < 6 := fun j hj => hl j (by simp [hj])
    unfold go at h0 hy
    by_cases hn : (Bd.not (Zo.get b i)).2 ≠ 0
    · rw [if_pos hn] at h0 hy
      exact go_ok hb l x hll hx h0 y hy
    rw [if_neg hn] at h0 hy
    have hn : (Bd.not (Zo.get b i)).2 = 0 := by simpa using hn
    obtain ⟨n1, n2, n3⟩ := not_lt hn (get_lim hb hi)
    have ho : other i < 6 := by unfold other; split <;> omega
    rcases List.mem_append.1 hy with hy' | hy'
    · by_cases h6 : (wth x (other i) (Bd.not (Zo.get b i)).1).2 = 6
      · rw [if_pos h6] at hy'; simp at hy'
      · rw [if_neg h6] at hy'
        have e := List.mem_singleton.1 hy'
        have hz := h0 _ (by rw [if_neg h6]; exact List.mem_append.2 (.inl (List.mem_singleton.2 rfl)))
        obtain ⟨w1, w2⟩ := wth_ok hx ho (.inr n2) hz
        rw [e]
        refine ⟨w1, fun t ht => ?_⟩
        obtain ⟨k1, k2⟩ := (w2 t).1 ht
        rw [dif_other hi] at k2
        exact ⟨k1, i, hi, (n3 _).1 k2⟩
    · by_cases h6 : (wth x i (Zo.get b i)).2 = 6
      · rw [if_pos h6] at hy'; simp at hy'
      · rw [if_neg h6] at hy' h0
        have hz : (wth x i (Zo.get b i)).2 = 0 := by
          by_cases e : (wth x i (Zo.get b i)).2 = 0
          · exact e
          · exact h0 _ (List.mem_append.2 (.inr (List.mem_append.2 (.inl (by rw [if_neg e]; exact List.mem_singleton.2 rfl)))))
        rw [if_pos hz, List.nil_append] at hy' h0
        obtain ⟨w1, w2⟩ := wth_ok hx hi (lim_lt (get_lim hb hi) (by omega)) hz
        obtain ⟨g1, g2⟩ := go_ok hb l _ hll (Zo.clo w1).1 (fun y hy => h0 y (List.mem_append.2 (.inr hy))) y hy'
        refine ⟨g1, fun t ht => ?_⟩
        obtain ⟨k1, k2⟩ := g2 t ht
        exact ⟨((w2 t).1 k1).1, k2⟩
/-- zones that may be, and lie in a set. -/
def Within (S : (Nat → Rat) → Prop) (l : List Zn) : Prop := ∀ z, z ∈ l → Zo.chk z = 0 ∧ ∀ t, Fz z t → S t
theorem minus_ok {a b : Zn} (ha : Zo.chk a = 0) (hb : Zo.chk b = 0) (h : (minus a b).2 = 0) : Within (fun t => Fz a t ∧ ¬ Fz b t) (minus a b).1 := by
  unfold minus at h ⊢
  rw [if_pos ⟨ha, hb⟩] at h ⊢
  cases hf : (parts a b).find? (fun x => decide (x.2 ≠ 0)) with
  | some x =>
    rw [hf] at h
    have := List.find?_some hf
    simp at this h
    exact absurd h this
  | none =>
    have h0 : ∀ y, y ∈ parts a b → y.2 = 0 := fun y hy => by have := List.find?_eq_none.1 hf y hy; simpa using this
    intro z hz
    simp only [List.mem_map] at hz
    obtain ⟨y, hy, rfl⟩ := hz
    obtain ⟨g1, g2⟩ := go_ok (Zo.clo hb).1 [0, 1, 2, 3, 4, 5] a (by simp) (Zo.clo ha).1 h0 y hy
    refine ⟨g1, fun t ht => ?_⟩
    obtain ⟨k1, i, hi, k2⟩ := g2 t ht
    exact ⟨k1, fun hbt => k2 ((fz_iff b t).1 hbt i hi)⟩
theorem inner_ok {b : Zn} (hb : Zo.chk b = 0) {A : (Nat → Rat) → Prop} : ∀ (out next : List Zn), Within A out → Within (fun t => A t ∧ ¬ Fz b t) next → (inner b out next).2 = 0 → Within (fun t => A t ∧ ¬ Fz b t) (inner b out next).1
  | [], next, _, hn, _ => hn
  | z :: t, next, ho, hn, h => by
    rw [inner_cons] at h ⊢
    by_cases h1 : (minus z b).2 ≠ 0
    · rw [if_pos h1] at h; exact absurd h h1
    rw [if_neg h1] at h ⊢
    by_cases h2 : 4096 < (next ++ (minus z b).1).length
    · rw [if_pos h2] at h; cases h
    rw [if_neg h2] at h ⊢
    obtain ⟨z1, z2⟩ := ho z (by simp)
    refine inner_ok hb t _ (fun y hy => ho y (by simp [hy])) (fun y hy => ?_) h
    rcases List.mem_append.1 hy with hy | hy
    · exact hn y hy
    · obtain ⟨k1, k2⟩ := minus_ok z1 hb (by simpa using h1) y hy
      exact ⟨k1, fun t ht => ⟨z2 t (k2 t ht).1, (k2 t ht).2⟩⟩
theorem outer_ok : ∀ (l out : List Zn) {A : (Nat → Rat) → Prop}, (∀ b, b ∈ l → Zo.chk b = 0) → Within A out → (outer l out).2 = 0 → Within (fun t => A t ∧ ∀ b, b ∈ l → ¬ Fz b t) (outer l out).1
  | [], out, A, _, ho, _ => fun z hz => ⟨(ho z hz).1, fun t ht => ⟨(ho z hz).2 t ht, by simp⟩⟩
  | b :: l, out, A, hl, ho, h => by
    rw [outer_cons] at h ⊢
    by_cases h1 : (inner b out []).2 ≠ 0
    · rw [if_pos h1] at h; exact absurd h h1
    rw [if_neg h1] at h ⊢
    have hi := inner_ok (hl b (by simp)) out [] ho (fun z hz => by simp at hz) (by simpa using h1)
    have ho' := outer_ok l _ (fun y hy => hl y (by simp [hy])) hi h
    intro z hz
    obtain ⟨k1, k2⟩ := ho' z hz
    refine ⟨k1, fun t ht => ?_⟩
    obtain ⟨⟨q1, q2⟩, q3⟩ := k2 t ht
    refine ⟨q1, fun y hy => ?_⟩
    rcases List.mem_cons.1 hy with rfl | hy
    · exact q2
    · exact q3 y hy
theorem left_ok {a : Zn} {l : List Zn} (h : (left a l).2 = 0) : Zo.chk a = 0 ∧ (∀ b, b ∈ l → Zo.chk b = 0) ∧ left a l = outer l [a] ∧ Within (fun t => Fz a t ∧ ∀ b, b ∈ l → ¬ Fz b t) (left a l).1 := by
  unfold left at h ⊢
  by_cases ha : Zo.chk a ≠ 0
  · rw [if_pos ha] at h; cases h
  rw [if_neg ha] at h ⊢
  have ha : Zo.chk a = 0 := by simpa using ha
  by_cases hl : l.any (fun b => decide (Zo.chk b ≠ 0)) = true
  · rw [if_pos hl] at h; cases h
  rw [if_neg hl] at h ⊢
  have hl : ∀ b, b ∈ l → Zo.chk b = 0 := fun b hb => by
    rcases Classical.em (Zo.chk b = 0) with e | e
    · exact e
    · exact absurd (List.any_eq_true.2 ⟨b, hb, by simpa using e⟩) hl
  exact ⟨ha, hl, rfl, outer_ok l [a] hl (fun z hz => by rw [List.mem_singleton.1 hz]; exact ⟨ha, fun t ht => ht⟩) h⟩
end Mi
theorem Zo.pick_ok {z : Zn} (hz : Zo.chk z = 0) : (Zo.pick z).2 = 0 ∧ (Zo.pick z).1.t.ok = true ∧ (Zo.pick z).1.u.ok = true ∧ Mi.Fz z (Dbm.tvs [(Zo.pick z).1.t, (Zo.pick z).1.u]) := by
  obtain ⟨c1, c2⟩ := Zo.clo hz
  obtain ⟨t, u, hp, ht, hu, hf⟩ := Incl.picks_in c1 c2
  unfold Zo.pick
  rw [if_pos hz, hp]
  exact ⟨rfl, ht, hu, hf⟩
namespace Cv
/-- what the law of witnesses wants. -/
structure WitLaw (z : Zn) (l : List Zn) (more : Zn) : Prop where
  err : (in_ z l).2 ≠ 0 → (witness z l).2 = (in_ z l).2 ∧ (in_ z l).1 = false
  yes : (in_ z l).2 = 0 → (in_ z l).1 = true → (witness z l).2 = 6 ∧ ((in_ z (l ++ [more])).2 = 0 → (in_ z (l ++ [more])).1 = true)
  no : (in_ z l).2 = 0 → (in_ z l).1 = false → (witness z l).2 = 0 ∧ Zo.has z (witness z l).1 = (true, 0) ∧ among l (witness z l).1 = (false, true)
  ins : (witness z l).1.ins
theorem in_split (z : Zn) (l : List Zn) : (checked [l, [z]] ≠ 0 ∧ in_ z l = (false, checked [l, [z]])) ∨ (checked [l, [z]] = 0 ∧ in_ z l = (decide ((Mi.left z l).2 = 0) && decide ((Mi.left z l).1.length = 0), (Mi.left z l).2)) := by
  unfold in_
  by_cases h : checked [l, [z]] = 0
  · right; rw [if_pos h]; exact ⟨h, rfl⟩
  · left; rw [if_neg h]; exact ⟨h, rfl⟩
end Cv
end Go.Proofs.YtjbhpfmnfdebkaaGreat

/-
  What is left of zones is all that is not the others' (the other half of XPlainWit); what cover.In tells, in points.
-/
namespace Go.Proofs.YtjbhpfmnfdebkaaGreat
set_option linter.unusedVariables false
set_option linter.unusedSimpArgs false
open Go.RowKit Go.Proofs.YtjbhpfmnfdebkaaGreat.Eng Enc
namespace Mi
open Dbm
theorem of_none {L : List Int} (h : (Zo.of 3 L).2 = 6) (t : Nat → Rat) : ¬ Fits 3 (mx 3 L) t := by
  intro ht
  unfold Zo.of at h
  by_cases h0 : chk 3 L = 0
  case neg => rw [if_neg h0] at h; cases h
  rw [if_pos h0, if_pos rfl] at h
  obtain ⟨C, hC⟩ := close_some h0 ht
  have hcl : close 3 L = (3, C, 0) := by
    unfold close; rw [if_pos h0]
    show (match closeL 3 L with | some L' => ((3 : Int), L', (0 : Int)) | none => (0, [], 6)) = _
    rw [hC]
  rw [hcl] at h
  rw [if_pos rfl] at h
  unfold Zo.told at h
  by_cases h1 : chk 3 C = 0
  · have : (if chk 3 C = 0 then (Zo.ofL C, (0 : Int)) else (Zo.nought, 8)).2 = 6 := h
    rw [if_pos h1] at this; cases this
  · have : (if chk 3 C = 0 then (Zo.ofL C, (0 : Int)) else (Zo.nought, 8)).2 = 6 := h
    rw [if_neg h1] at this; cases this
theorem wth_none {z : Zn} (hz : chk 3 (Zo.matL z) = 0) {i : Nat} (hi : i < 6) {b : Int} (hb : b = NO ∨ b < NO) (h : (wth z i b).2 = 6) (t : Nat → Rat) : ¬ (Fz z t ∧ satO (dif i t) (ob b)) := by
  unfold wth at h
  by_cases h0 : chk 3 (Zo.matL (cut z i b)) = 0
  case neg => rw [if_neg h0] at h; cases h
  rw [if_pos h0] at h
  intro ht
  exact of_none h t ((cut_fz hz hi hb t).2 ht)
theorem not_err {b : Int} (h : (Bd.not b).2 ≠ 0) (hl : lim 288230376151711744 b) : b = NO := by
  by_cases hn : b = NO
  · exact hn
  exfalso
  apply h
  unfold Bd.not
  rw [Incl.value_of hl hn]
  have hb := hl.resolve_left hn
  have hok : Num.okB (-(b / 2)) = true := Num.okB_iff.2 (by omega)
  simp only [if_true]
  unfold Bd.made
  rw [if_pos hok]
theorem go_all {b : Zn} (hb : chk 3 (Zo.matL b) = 0) : ∀ (l : List Nat) (x : Zn), (∀ i, i ∈ l → i < 6) → chk 3 (Zo.matL x) = 0 → (∀ y, y ∈ go b l x → y.2 = 0) →
    ∀ t, Fz x t → (∃ i, i ∈ l ∧ ¬ satO (dif i t) (ob (Zo.get b i))) → ∃ y, y ∈ go b l x ∧ Fz y.1 t
  | [], x, _, _, _, t, _, ⟨i, hi, _⟩ => by simp at hi
  | i :: l, x, hl, hx, h0, t, ht, hi0 => by
    have hi := hl i (by simp)
    have hll : ∀ j, j ∈ l → j < 6 := fun j hj => hl j (by simp [hj])
    unfold go at h0 ⊢
    by_cases hn : (Bd.not (Zo.get b i)).2 ≠ 0
    · rw [if_pos hn] at h0 ⊢
      have hno := not_err hn (get_lim hb hi)
      obtain ⟨j, hj, hs⟩ := hi0
      rcases List.mem_cons.1 hj with rfl | hj
      · exfalso; apply hs; rw [hno]; trivial
      · exact go_all hb l x hll hx h0 t ht ⟨j, hj, hs⟩
    rw [if_neg hn] at h0 ⊢
    have hn : (Bd.not (Zo.get b i)).2 = 0 := by simpa using hn
    obtain ⟨n1, n2, n3⟩ := not_lt hn (get_lim hb hi)
    have ho : other i < 6 := by unfold other; split <;> omega
    by_cases hs : satO (dif i t) (ob (Zo.get b i))
    · have h6 : (wth x i (Zo.get b i)).2 ≠ 6 := fun e => wth_none hx hi (lim_lt (get_lim hb hi) (by omega)) e t ⟨ht, hs⟩
      rw [if_neg h6] at h0 ⊢
      have hz : (wth x i (Zo.get b i)).2 = 0 := by
        by_cases e : (wth x i (Zo.get b i)).2 = 0
        · exact e
        · exact h0 _ (List.mem_append.2 (.inr (List.mem_append.2 (.inl (by rw [if_neg e]; exact List.mem_singleton.2 rfl)))))
      rw [if_pos hz, List.nil_append] at h0 ⊢
      obtain ⟨w1, w2⟩ := wth_ok hx hi (lim_lt (get_lim hb hi) (by omega)) hz
      obtain ⟨j, hj, hsj⟩ := hi0
      rcases List.mem_cons.1 hj with rfl | hj
      · exact absurd hs hsj
      obtain ⟨y, hy, hyt⟩ := go_all hb l _ hll (Zo.clo w1).1 (fun y hy => h0 y (List.mem_append.2 (.inr hy))) t ((w2 t).2 ⟨ht, hs⟩) ⟨j, hj, hsj⟩
      exact ⟨y, List.mem_append.2 (.inr hy), hyt⟩
    · have hsn : satO (dif (other i) t) (ob (Bd.not (Zo.get b i)).1) := by rw [dif_other hi]; exact (n3 _).2 hs
      have h6 : (wth x (other i) (Bd.not (Zo.get b i)).1).2 ≠ 6 := fun e => wth_none hx ho (.inr n2) e t ⟨ht, hsn⟩
      rw [if_neg h6] at h0 ⊢
      have hm : wth x (other i) (Bd.not (Zo.get b i)).1 ∈ [wth x (other i) (Bd.not (Zo.get b i)).1] ++ (if (wth x i (Zo.get b i)).2 = 6 then [] else (if (wth x i (Zo.get b i)).2 = 0 then [] else [wth x i (Zo.get b i)]) ++ go b l (wth x i (Zo.get b i)).1) := List.mem_append.2 (.inl (List.mem_singleton.2 rfl))
      obtain ⟨w1, w2⟩ := wth_ok hx ho (.inr n2) (h0 _ hm)
      exact ⟨_, hm, (w2 t).2 ⟨ht, hsn⟩⟩
theorem minus_all {a b : Zn} (ha : Zo.chk a = 0) (hb : Zo.chk b = 0) (h : (minus a b).2 = 0) {t : Nat → Rat} (ht : Fz a t) (hn : ¬ Fz b t) : ∃ y, y ∈ (minus a b).1 ∧ Fz y t := by
  unfold minus at h ⊢
  rw [if_pos ⟨ha, hb⟩] at h ⊢
  cases hf : (parts a b).find? (fun x => decide (x.2 ≠ 0)) with
  | some x =>
    rw [hf] at h
    have := List.find?_some hf
    simp at this h
    exact absurd h this
  | none =>
    have h0 : ∀ y, y ∈ parts a b → y.2 = 0 := fun y hy => by have := List.find?_eq_none.1 hf y hy; simpa using this
    have hex : ∃ i, i < 6 ∧ ¬ satO (dif i t) (ob (Zo.get b i)) := by
      apply Classical.byContradiction
      intro hall
      exact hn ((fz_iff b t).2 fun i hi => Classical.byContradiction fun hs => hall ⟨i, hi, hs⟩)
    obtain ⟨i, hi, hs⟩ := hex
    obtain ⟨y, hy, hyt⟩ := go_all (Zo.clo hb).1 [0, 1, 2, 3, 4, 5] a (by simp) (Zo.clo ha).1 h0 t ht ⟨i, by rcases six hi with rfl | rfl | rfl | rfl | rfl | rfl <;> simp, hs⟩
    exact ⟨y.1, List.mem_map.2 ⟨y, hy, rfl⟩, hyt⟩
theorem inner_all {b : Zn} (hb : Zo.chk b = 0) : ∀ (out next : List Zn), (∀ z, z ∈ out → Zo.chk z = 0) → (inner b out next).2 = 0 → ∀ t, ((∃ y, y ∈ next ∧ Fz y t) ∨ ((∃ y, y ∈ out ∧ Fz y t) ∧ ¬ Fz b t)) → ∃ y, y ∈ (inner b out next).1 ∧ Fz y t
  | [], next, _, _, t, h => by
    rcases h with h | ⟨⟨y, hy, _⟩, _⟩
    · exact h
    · simp at hy
  | z :: o, next, ho, h, t, hm => by
    rw [inner_cons] at h ⊢
    by_cases h1 : (minus z b).2 ≠ 0
    · rw [if_pos h1] at h; exact absurd h h1
    rw [if_neg h1] at h ⊢
    by_cases h2 : 4096 < (next ++ (minus z b).1).length
    · rw [if_pos h2] at h; cases h
    rw [if_neg h2] at h ⊢
    refine inner_all hb o _ (fun y hy => ho y (by simp [hy])) h t ?_
    rcases hm with ⟨y, hy, hyt⟩ | ⟨⟨y, hy, hyt⟩, hnb⟩
    · exact .inl ⟨y, List.mem_append.2 (.inl hy), hyt⟩
    · rcases List.mem_cons.1 hy with rfl | hy
      · obtain ⟨x, hx, hxt⟩ := minus_all (ho y (by simp)) hb (by simpa using h1) hyt hnb
        exact .inl ⟨x, List.mem_append.2 (.inr hx), hxt⟩
      · exact .inr ⟨⟨y, hy, hyt⟩, hnb⟩
theorem outer_all : ∀ (l out : List Zn), (∀ b, b ∈ l → Zo.chk b = 0) → (∀ b, b ∈ out → Zo.chk b = 0) → (outer l out).2 = 0 → ∀ t, (∃ y, y ∈ out ∧ Fz y t) → (∀ b, b ∈ l → ¬ Fz b t) → ∃ y, y ∈ (outer l out).1 ∧ Fz y t
  | [], out, _, _, _, t, h, _ => h
  | b :: l, out, hl, ho, h, t, hm, hn => by
    rw [outer_cons] at h ⊢
    by_cases h1 : (inner b out []).2 ≠ 0
    · rw [if_pos h1] at h; exact absurd h h1
    rw [if_neg h1] at h ⊢
    have hb := hl b (by simp)
    have hi := inner_ok hb (A := fun _ => True) out [] (fun z hz => ⟨ho z hz, fun _ _ => trivial⟩) (fun z hz => by simp at hz) (by simpa using h1)
    exact outer_all l _ (fun y hy => hl y (by simp [hy])) (fun y hy => (hi y hy).1) h t (inner_all hb out [] ho (by simpa using h1) t (.inr ⟨hm, hn b (by simp)⟩)) fun y hy => hn y (by simp [hy])
theorem left_all {a : Zn} {l : List Zn} (h : (left a l).2 = 0) {t : Nat → Rat} (ht : Fz a t) (hn : ∀ b, b ∈ l → ¬ Fz b t) : ∃ y, y ∈ (left a l).1 ∧ Fz y t := by
  obtain ⟨ha, hl, hlo, _⟩ := left_ok h
  rw [hlo] at h ⊢
  exact outer_all l [a] hl (fun b hb => by rw [List.mem_singleton.1 hb]; exact ha) h t ⟨a, by simp, ht⟩ hn
theorem fz_ex {z : Zn} (hz : Zo.chk z = 0) : ∃ t, Fz z t := ⟨_, (Zo.pick_ok hz).2.2.2⟩
end Mi
namespace Cv
open Mi
/-- all points of a zone are of some. -/
def Cov (z : Zn) (l : List Zn) : Prop := ∀ t, Fz z t → ∃ b, b ∈ l ∧ Fz b t
theorem Cov.mono {z : Zn} {l m : List Zn} (h : Cov z l) (hs : ∀ x, x ∈ l → x ∈ m) : Cov z m := fun t ht => by
  obtain ⟨b, hb, hbt⟩ := h t ht
  exact ⟨b, hs b hb, hbt⟩
theorem in_ok {z : Zn} {l : List Zn} (h : (in_ z l).2 = 0) : Zo.chk z = 0 ∧ (∀ b, b ∈ l → Zo.chk b = 0) ∧ ((in_ z l).1 = true ↔ Cov z l) := by
  rcases in_split z l with ⟨h0, e⟩ | ⟨h0, e⟩
  · rw [e] at h; exact absurd h h0
  rw [e] at h ⊢
  simp only at h
  obtain ⟨ha, hl, hlo, hw⟩ := left_ok h
  refine ⟨ha, hl, ?_⟩
  simp only [h, decide_true, Bool.true_and, decide_eq_true_eq]
  constructor
  · intro hlen t ht
    apply Classical.byContradiction
    intro hno
    obtain ⟨y, hy, _⟩ := left_all h ht fun b hb hbt => hno ⟨b, hb, hbt⟩
    rw [List.eq_nil_of_length_eq_zero hlen] at hy
    simp at hy
  · intro hc
    cases hx : (left z l).1 with
    | nil => rfl
    | cons x r =>
      exfalso
      obtain ⟨x1, x2⟩ := hw x (by rw [hx]; simp)
      obtain ⟨t, ht⟩ := fz_ex x1
      obtain ⟨q1, q2⟩ := x2 t ht
      obtain ⟨b, hb, hbt⟩ := hc t q1
      exact q2 b hb hbt
end Cv
end Go.Proofs.YtjbhpfmnfdebkaaGreat

/-
  rallentandoref02.Other: not a bound.
-/
namespace Go.Proofs.YtjbhpfmnfdebkaaGreat
set_option linter.unusedVariables false
open Go.RowKit

end Go.Proofs.YtjbhpfmnfdebkaaGreat

/-
  The document's answer of layer 11, by the engine: With, Less, Rest.
-/
namespace Go.Proofs.YtjbhpfmnfdebkaaGreat
set_option linter.unusedVariables false
set_option linter.unusedSimpArgs false
set_option maxRecDepth 100000
open Go.RowKit Go.Proofs.YtjbhpfmnfdebkaaGreat.Eng Enc

namespace Mi
open Dbm
end Mi
end Go.Proofs.YtjbhpfmnfdebkaaGreat

/-
  slices.Values at []api.Zone: its contract (as XValues, at zones).
-/
namespace Go.Proofs.YtjbhpfmnfdebkaaGreat
set_option linter.unusedVariables false
open Go.RowKit Go.Shelf Go.Proofs.YtjbhpfmnfdebkaaGreat.Eng
attribute [local go_sem] Oper.semAt_some

namespace VZ
end VZ
open VZ
end Go.Proofs.YtjbhpfmnfdebkaaGreat

/-
  slices.AppendSeq, Collect over slices.Values, at api.Zone, by the engine.
-/
namespace Go.Proofs.YtjbhpfmnfdebkaaGreat
set_option linter.unusedVariables false
set_option linter.unusedSimpArgs false
set_option maxRecDepth 100000
open Go.RowKit Go.Proofs.YtjbhpfmnfdebkaaGreat.Eng Enc

end Go.Proofs.YtjbhpfmnfdebkaaGreat

/-
  DERIVED: THE SHELF's CONTRACTS AT THIS DUMP, IN PLAIN WORDS (tools/lay-plain.mjs out of 'YtjbhpfmnfdebkaaGreatShelf0.lean', which tools/lay-shelf.mjs wrote): THE SAME DECLARATIONS UNDER THE SAME NAMES: 'import', 'namespace', 'open', 'def', 'theorem' AND NOTHING ELSE: no command of the shelf's: FOR A HAND-IN. Each laying: the table of numbers ('.._ren') and one theorem, a field a fact of the dump's own or the kernel's comparison; each contract: ONE APPLICATION.
-/
namespace Go.Proofs
open Go.Shelf
end Go.Proofs

/-
  slices.SortFunc by zone.Cmp at a row of the run's own; slices.SortedFunc over slices.Values.
-/
namespace Go.Proofs.YtjbhpfmnfdebkaaGreat
set_option linter.unusedVariables false
set_option linter.unusedSimpArgs false
set_option maxRecDepth 100000
open Go.RowKit Go.Proofs.YtjbhpfmnfdebkaaGreat.Eng Enc Go.Shelf Go.Sort

namespace Zo
instance inhZn : Inhabited Zn := ⟨⟨0, 0, 0, 0, 0, 0⟩⟩
def Lt (x y : Zn) : Prop := x.a < y.a ∨ x.a = y.a ∧ (x.b < y.b ∨ x.b = y.b ∧ (x.c < y.c ∨ x.c = y.c ∧ (x.d < y.d ∨ x.d = y.d ∧ (x.e < y.e ∨ x.e = y.e ∧ (x.f < y.f ∨ x.f = y.f ∧ False)))))
theorem cmpI_lt (x y : Int) : cmpI x y < 0 ↔ x < y := by unfold cmpI; split <;> (try split) <;> omega
theorem cmpI_eq (x y : Int) : cmpI x y = 0 ↔ x = y := by unfold cmpI; split <;> (try split) <;> omega
theorem step_lt {x y c : Int} {P : Prop} (h : c < 0 ↔ P) : (if cmpI x y ≠ 0 then cmpI x y else c) < 0 ↔ (x < y ∨ x = y ∧ P) := by
  have h1 := cmpI_lt x y
  have h2 := cmpI_eq x y
  by_cases hc : cmpI x y = 0
  · rw [if_neg (by simp [hc]), h]
    have := h2.1 hc
    constructor
    · intro hp; exact .inr ⟨this, hp⟩
    · rintro (hl | ⟨_, hp⟩)
      · omega
      · exact hp
  · rw [if_pos hc, h1]
    constructor
    · exact .inl
    · rintro (hl | ⟨he, _⟩)
      · exact hl
      · exact absurd (h2.2 he) hc
theorem cmp_lt (x y : Zn) : cmp x y < 0 ↔ Lt x y := by
  unfold cmp Lt
  exact step_lt (step_lt (step_lt (step_lt (step_lt (step_lt (by simp))))))
theorem lex_trans {x y z : Int} {P Q R : Prop} (h : P → Q → R) : (x < y ∨ x = y ∧ P) → (y < z ∨ y = z ∧ Q) → (x < z ∨ x = z ∧ R) := by
  rintro (h1 | ⟨h1, hp⟩) (h2 | ⟨h2, hq⟩)
  · left; omega
  · left; omega
  · left; omega
  · right; exact ⟨by omega, h hp hq⟩
theorem lex_ntrans {x y z : Int} {P Q R : Prop} (h : ¬ P → ¬ Q → ¬ R) : ¬ (x < y ∨ x = y ∧ P) → ¬ (y < z ∨ y = z ∧ Q) → ¬ (x < z ∨ x = z ∧ R) := by
  intro h1 h2
  have a1 : ¬ x < y := fun h => h1 (.inl h)
  have a2 : ¬ y < z := fun h => h2 (.inl h)
  rintro (h3 | ⟨h3, hr⟩)
  · omega
  · have e1 : x = y := by omega
    have e2 : y = z := by omega
    exact h (fun hp => h1 (.inr ⟨e1, hp⟩)) (fun hq => h2 (.inr ⟨e2, hq⟩)) hr
theorem lex_tot {x y : Int} {P Q E : Prop} (h : ¬ P → ¬ Q → E) : ¬ (x < y ∨ x = y ∧ P) → ¬ (y < x ∨ y = x ∧ Q) → x = y ∧ E := by
  intro h1 h2
  have a1 : ¬ x < y := fun h => h1 (.inl h)
  have a2 : ¬ y < x := fun h => h2 (.inl h)
  have e1 : x = y := by omega
  exact ⟨e1, h (fun hp => h1 (.inr ⟨e1, hp⟩)) (fun hq => h2 (.inr ⟨e1.symm, hq⟩))⟩
theorem Lt.irrefl (x : Zn) : ¬ Lt x x := by unfold Lt; simp
theorem Lt.trans {x y z : Zn} : Lt x y → Lt y z → Lt x z := by
  unfold Lt
  exact lex_trans (lex_trans (lex_trans (lex_trans (lex_trans (lex_trans fun h _ => h)))))
theorem Lt.ntrans {x y z : Zn} : ¬ Lt x y → ¬ Lt y z → ¬ Lt x z := by
  unfold Lt
  exact lex_ntrans (lex_ntrans (lex_ntrans (lex_ntrans (lex_ntrans (lex_ntrans fun h _ => h)))))
theorem Lt.tot {x y : Zn} (h1 : ¬ Lt x y) (h2 : ¬ Lt y x) : x = y := by
  unfold Lt at h1 h2
  obtain ⟨e1, e2, e3, e4, e5, e6, _⟩ := lex_tot (lex_tot (lex_tot (lex_tot (lex_tot (lex_tot (E := True) fun _ _ => trivial))))) h1 h2
  cases x; cases y; simp_all
theorem lt_iff (x y : Zn) : ltOf cmp x y = true ↔ Lt x y := by unfold ltOf; simp [cmp_lt]
theorem lt_niff (x y : Zn) : ltOf cmp x y = false ↔ ¬ Lt x y := by unfold ltOf; simp [← cmp_lt]
theorem tot (x y : Zn) (h1 : ltOf cmp x y = false) (h2 : ltOf cmp y x = false) : x = y := Lt.tot ((lt_niff x y).1 h1) ((lt_niff y x).1 h2)
def sort (l : List Zn) : List Zn := l.mergeSort fun x y => !(ltOf cmp) y x
theorem sort_perm (l : List Zn) : (sort l).Perm l := List.mergeSort_perm l _
theorem sort_sorted (l : List Zn) : (sort l).Pairwise fun x y => ¬ Lt y x := by
  have h := List.pairwise_mergeSort (le := fun x y => !(ltOf cmp) y x) (fun x y z h1 h2 => by
    simp only [Bool.not_eq_eq_eq_not, Bool.not_true] at *
    exact (lt_niff z x).2 (Lt.ntrans ((lt_niff z y).1 h2) ((lt_niff y x).1 h1))) (fun x y => by
    simp only [Bool.or_eq_true, Bool.not_eq_eq_eq_not, Bool.not_true]
    by_cases h : Lt y x
    · exact .inr ((lt_niff x y).2 fun k => Lt.irrefl _ (h.trans k))
    · exact .inl ((lt_niff y x).2 h)) l
  refine h.imp fun {x y} hxy => ?_
  simp only [Bool.not_eq_eq_eq_not, Bool.not_true] at hxy
  exact (lt_niff y x).1 hxy
end Zo

end Go.Proofs.YtjbhpfmnfdebkaaGreat

/-
  Of zones that follow one another and are the same, one: the plain law of slices.Compact.
-/
namespace Go.Proofs.YtjbhpfmnfdebkaaGreat
set_option linter.unusedVariables false
set_option linter.unusedSimpArgs false
namespace Cv
/-- each of those that follow one another once. -/
def cpt : List Zn → List Zn
  | [] => []
  | x :: l => if l.head? = some x then cpt l else x :: cpt l
theorem cpt_cons (x : Zn) (l : List Zn) : cpt (x :: l) = if l.head? = some x then cpt l else x :: cpt l := rfl
theorem cpt_mem (l : List Zn) (x : Zn) : x ∈ cpt l ↔ x ∈ l := by
  induction l with
  | nil => simp [cpt]
  | cons y l ih =>
    rw [cpt_cons, List.mem_cons, ← ih]
    split
    · rename_i h
      have hy : y ∈ l := List.mem_of_mem_head? (by rw [h]; rfl)
      constructor
      · exact .inr
      · rintro (rfl | h2)
        · exact ih.2 hy
        · exact h2
    · rw [List.mem_cons]
end Cv
end Go.Proofs.YtjbhpfmnfdebkaaGreat

/-
  What is wanted of zones: sorted, each once, without those that the others cover; the plain laws.
-/
namespace Go.Proofs.YtjbhpfmnfdebkaaGreat
set_option linter.unusedVariables false
set_option linter.unusedSimpArgs false
open Go.RowKit Go.Proofs.YtjbhpfmnfdebkaaGreat.Eng Enc
namespace Cv
open Mi Zo
theorem cpt_strict {l : List Zn} (h : l.Pairwise fun x y => ¬ Lt y x) : (cpt l).Pairwise Lt := by
  induction l with
  | nil => simp [cpt]
  | cons x l ih =>
    rw [List.pairwise_cons] at h
    have h2 := ih h.2
    rw [cpt_cons]
    split
    · exact h2
    · rename_i hne
      rw [List.pairwise_cons]
      refine ⟨fun z hz => ?_, h2⟩
      have hz' := (cpt_mem l z).1 hz
      cases l with
      | nil => simp at hz'
      | cons y m =>
        have hyx : y ≠ x := fun e => hne (by simp [e])
        have hxy : Lt x y := by
          have h3 := h.1 y (by simp)
          apply Classical.byContradiction
          intro h4
          exact hyx (Lt.tot h3 h4)
        rcases List.mem_cons.1 hz' with rfl | hz'
        · exact hxy
        · have h5 := (List.pairwise_cons.1 h.2).1 z hz'
          apply Classical.byContradiction
          intro h6
          exact Lt.ntrans h6 h5 hxy
theorem strict_eq : ∀ {l m : List Zn}, l.Pairwise Lt → m.Pairwise Lt → (∀ x, x ∈ l ↔ x ∈ m) → l = m
  | [], [], _, _, _ => rfl
  | [], y :: m, _, _, h => by have := (h y).2 (by simp); simp at this
  | x :: l, [], _, _, h => by have := (h x).1 (by simp); simp at this
  | x :: l, y :: m, hl, hm, h => by
    rw [List.pairwise_cons] at hl hm
    have e : x = y := by
      rcases List.mem_cons.1 ((h x).1 (by simp)) with e | hx
      · exact e
      · rcases List.mem_cons.1 ((h y).2 (by simp)) with e | hy
        · exact e.symm
        · exact absurd ((hl.1 y hy).trans (hm.1 x hx)) (Lt.irrefl x)
    subst e
    congr 1
    refine strict_eq hl.2 hm.2 fun z => ?_
    constructor
    · intro hz
      rcases List.mem_cons.1 ((h z).1 (by simp [hz])) with rfl | hz'
      · exact absurd (hl.1 z hz) (Lt.irrefl z)
      · exact hz'
    · intro hz
      rcases List.mem_cons.1 ((h z).2 (by simp [hz])) with rfl | hz'
      · exact absurd (hm.1 z hz) (Lt.irrefl z)
      · exact hz'
def sorted (l : List Zn) : List Zn := cpt (sort l)
theorem sorted_strict (l : List Zn) : (sorted l).Pairwise Lt := cpt_strict (sort_sorted l)
theorem sorted_mem (l : List Zn) (x : Zn) : x ∈ sorted l ↔ x ∈ l := (cpt_mem _ x).trans (sort_perm l).mem_iff
theorem sorted_self {l : List Zn} (h : l.Pairwise Lt) : sorted l = l := strict_eq (sorted_strict l) h (sorted_mem l)
/-- those that the others cover go, from behind. -/
def pgo : Nat → List Zn → List Zn × Int
  | 0, out => (out, 0)
  | i + 1, out => match out[i]? with
    | none => (out, 0)
    | some z => if (in_ z (out.eraseIdx i)).2 ≠ 0 then ([], (in_ z (out.eraseIdx i)).2) else if (in_ z (out.eraseIdx i)).1 = true then pgo i (out.eraseIdx i) else pgo i out
theorem pgo_succ {i : Nat} {out : List Zn} {z : Zn} (h : out[i]? = some z) : pgo (i + 1) out = if (in_ z (out.eraseIdx i)).2 ≠ 0 then ([], (in_ z (out.eraseIdx i)).2) else if (in_ z (out.eraseIdx i)).1 = true then pgo i (out.eraseIdx i) else pgo i out := by
  rw [pgo, h]
def prune (l : List Zn) : List Zn × Int := if checked [l] ≠ 0 then ([], checked [l]) else pgo (sorted l).length (sorted l)
/-- no one from a place on is covered by the others. -/
def Bare (n : Nat) (out : List Zn) : Prop := ∀ j z, n ≤ j → out[j]? = some z → ¬ Cov z (out.eraseIdx j)
theorem pgo_self {n : Nat} : ∀ {out : List Zn}, n ≤ out.length → (pgo n out).2 = 0 → Bare 0 out → pgo n out = (out, 0) := by
  induction n with
  | zero => intro out _ _ _; rfl
  | succ i ih =>
    intro out hn h hb
    have ho := List.getElem?_eq_getElem (l := out) (i := i) (by omega)
    generalize out[i] = z at ho
    rw [pgo_succ ho] at h ⊢
    by_cases h1 : (in_ z (out.eraseIdx i)).2 ≠ 0
    · rw [if_pos h1] at h; exact absurd h h1
    rw [if_neg h1] at h ⊢
    obtain ⟨_, _, hcov⟩ := in_ok (z := z) (l := out.eraseIdx i) (by simpa using h1)
    have h2 : ¬ (in_ z (out.eraseIdx i)).1 = true := fun h2 => hb i z (Nat.zero_le _) ho (hcov.1 h2)
    rw [if_neg h2] at h ⊢
    exact ih (by omega) h hb
/-- what is wanted: of the zones, in order, no one covered by the others, with the same points. -/
structure Wanted (l m : List Zn) : Prop where
  chk : ∀ z, z ∈ l → Zo.chk z = 0
  len : l.length ≤ 4096
  mem : ∀ z, z ∈ m → z ∈ l
  strict : m.Pairwise Lt
  bare : Bare 0 m
  pts : ∀ t, (∃ b, b ∈ l ∧ Fz b t) ↔ ∃ b, b ∈ m ∧ Fz b t
  mlen : m.length ≤ l.length
theorem Wanted.again {l m : List Zn} (h : Wanted l m) (h2 : (prune m).2 = 0) : (prune m).1 = m := by
  unfold prune at h2 ⊢
  by_cases h1 : checked [m] ≠ 0
  · rw [if_pos h1] at h2; exact absurd h2 h1
  rw [if_neg h1] at h2 ⊢
  rw [sorted_self h.strict] at h2 ⊢
  rw [pgo_self (Nat.le_refl _) h2 h.bare]
end Cv
end Go.Proofs.YtjbhpfmnfdebkaaGreat

/-
  The plain law of CoverPrunes; what cover.All tells.
-/
namespace Go.Proofs.YtjbhpfmnfdebkaaGreat
set_option linter.unusedVariables false
set_option linter.unusedSimpArgs false
open Go.RowKit Go.Proofs.YtjbhpfmnfdebkaaGreat.Eng Enc
namespace Cv
open Mi Zo
def misses (b : List Zn) (z : Zn) : Bool := decide ((in_ z b).2 ≠ 0) || !(in_ z b).1
def allGo (b : List Zn) : List Zn → Bool × Int
  | [] => (true, 0)
  | z :: a => if misses b z = true then (false, (in_ z b).2) else allGo b a
def all_ (a b : List Zn) : Bool × Int := if checked [a, b] ≠ 0 then (false, checked [a, b]) else allGo b a
/-- the error of the last zone that was asked, of so many. -/
def told (b l : List Zn) : Nat → Int
  | 0 => 0
  | k + 1 => match l[k]? with | some z => (in_ z b).2 | none => 0
/-- what the law of what is wanted asks. -/
structure PrunesLaw (l : List Zn) (p : Pt) : Prop where
  among : (Cv.among l p).2 = true → (Cv.among (prune l).1 p).2 = true → (Cv.among l p).1 = (Cv.among (prune l).1 p).1
  order : ∀ i x y, (prune l).1[i]? = some x → (prune l).1[i + 1]? = some y → Zo.cmp x y < 0
  bare : ∀ i z, (prune l).1[i]? = some z → (in_ z ((prune l).1.take i ++ (prune l).1.drop (i + 1))).2 = 0 → (in_ z ((prune l).1.take i ++ (prune l).1.drop (i + 1))).1 = false
  all : (all_ l (prune l).1).2 = 0 → (all_ l (prune l).1).1 = true
  again : (prune (prune l).1).2 = 0 → (prune (prune l).1).1 = (prune l).1
end Cv
end Go.Proofs.YtjbhpfmnfdebkaaGreat

/-
  DERIVED: THE SHELF's CONTRACTS AT THIS DUMP, IN PLAIN WORDS (tools/lay-plain.mjs out of 'YtjbhpfmnfdebkaaGreatShelf0.lean', which tools/lay-shelf.mjs wrote): THE SAME DECLARATIONS UNDER THE SAME NAMES: 'import', 'namespace', 'open', 'def', 'theorem' AND NOTHING ELSE: no command of the shelf's: FOR A HAND-IN. Each laying: the table of numbers ('.._ren') and one theorem, a field a fact of the dump's own or the kernel's comparison; each contract: ONE APPLICATION.
-/
namespace Go.Proofs
open Go.Shelf
end Go.Proofs

/-
  The contracts of slices.Grow (of nothing) and slices.Concat, at zones, by the engine.
-/
namespace Go.Proofs.YtjbhpfmnfdebkaaGreat
set_option linter.unusedVariables false
set_option linter.unusedSimpArgs false
set_option maxRecDepth 100000
open Go.RowKit Go.Proofs.YtjbhpfmnfdebkaaGreat.Eng Enc

end Go.Proofs.YtjbhpfmnfdebkaaGreat

/-
  == and != at two zones.
-/
namespace Go.Proofs.YtjbhpfmnfdebkaaGreat
set_option linter.unusedVariables false
set_option linter.unusedSimpArgs false
set_option maxRecDepth 100000
open Go.RowKit Go.Proofs.YtjbhpfmnfdebkaaGreat.Eng Enc

end Go.Proofs.YtjbhpfmnfdebkaaGreat

/-
  slices.Delete at a list of api.Zone: in place.
-/
namespace Go.Proofs.YtjbhpfmnfdebkaaGreat
set_option linter.unusedVariables false
set_option linter.unusedSimpArgs false
set_option maxRecDepth 100000
open Go.RowKit Go.Proofs.YtjbhpfmnfdebkaaGreat.Eng Enc

end Go.Proofs.YtjbhpfmnfdebkaaGreat

/-
  slices.Compact at a list of zones: in place.
-/
namespace Go.Proofs.YtjbhpfmnfdebkaaGreat
set_option linter.unusedVariables false
set_option linter.unusedSimpArgs false
set_option maxRecDepth 100000
open Go.RowKit Go.Proofs.YtjbhpfmnfdebkaaGreat.Eng Enc

end Go.Proofs.YtjbhpfmnfdebkaaGreat

/-
  The contract of cover.Prune, by the engine.
-/
namespace Go.Proofs.YtjbhpfmnfdebkaaGreat
set_option linter.unusedVariables false
set_option linter.unusedSimpArgs false
set_option maxRecDepth 100000
open Go.RowKit Go.Proofs.YtjbhpfmnfdebkaaGreat.Eng Enc

end Go.Proofs.YtjbhpfmnfdebkaaGreat

/-
  An append to a row of the run's own: the row stays where it is, or is new.
-/
namespace Go.Proofs.YtjbhpfmnfdebkaaGreat
set_option linter.unusedVariables false
open Go.RowKit Go.Proofs.YtjbhpfmnfdebkaaGreat.Eng Enc Builtin

theorem run_append_at {P : Program} {w : World} {t ty e : TypeId} {sz bytes : Nat} (hE : ElOk P t e sz bytes) (base : Nat) (v : Value) (n : Nat) (xs : List Value) (hown : w.ownsRow base e sz v n xs)
    (sv : Value) (m : Nat) (news : List Value) (hsrc : SrcC w sv sz m news) (h1 : ∀ u ∈ news, u.oneCell' = true) (h63 : n + m ≤ maxLen) (hbytes : (n + m) * bytes ≤ 140737488355328) (hbase : base ≤ w.heap.size) :
    ∃ v' w', (Builtin.append_ #[t, t] ty #[v, sv]).run P w = .ok v' w' ∧ w'.ownsRow base e sz v' (n + m) (xs ++ news) ∧ w.grownBy w' v.ownBlock ∧ (v'.ownBlock = v.ownBlock ∨ v'.ownBlock = some w.heap.size) := by
  obtain ⟨ht, ⟨i, z, hi, hz, hs, hb, hzs⟩, hp⟩ := hE
  obtain ⟨hl, ⟨rfl, rfl⟩ | ⟨ad, c, rfl, hc⟩⟩ := hsrc
  · have hn : news = [] := List.eq_nil_of_length_eq_zero (by simpa using hl)
    subst hn
    exact ⟨v, w, run_append_owned_none w base t ty e i sz ht hi v n xs hown, by simpa using hown, ⟨rfl, rfl, rfl, Nat.le_refl _, fun _ _ _ => rfl⟩, .inl rfl⟩
  · obtain ⟨v', w', a1, a2, a3, _, a4⟩ := run_append_own_at w base t ty e i z sz bytes ht hi hz hs hb hzs hp v n xs hown ad m c news hl hc h1 h63 hbytes hbase
    exact ⟨v', w', a1, a2, a3, a4⟩
theorem GenN.appAt {α : Type} [Enc α] {P : Program} {w0 : Base} {kp : List Nat → World → World → Prop} {hp : List LB} {r L : List Nat} {w : World} {K : Value → World → Prop} {t ty e : TypeId} {bytes : Nat} {consts : Array Bool} {v sv : Value}
    (hE : ElOk P t e (size α) bytes) (l m : List α) (base : Nat) (hown : ∀ w1, At w0 hp r L w w1 → Own e base w1 v l) (hsrc : ∀ w1, At w0 hp r L w w1 → SrcC w1 sv (size α) m.length (cellsL m))
    (h63 : l.length + m.length ≤ maxLen) (hbytes : (l.length + m.length) * bytes ≤ 140737488355328) (hbase : ∀ w1, At w0 hp r L w w1 → base ≤ w1.heap.size)
    (hkp : ∀ w1 w2, At w0 hp r L w w1 → w1.grownBy w2 v.ownBlock → kp r w1 w2) (hk : ∀ v' w1 w2, At w0 hp r L w w1 → w1.grownBy w2 v.ownBlock → Own e base w2 v' (l ++ m) → (v'.ownBlock = v.ownBlock ∨ v'.ownBlock = some w1.heap.size) → K v' w2) :
    GenN P w0 kp (builtin .append #[t, t] ty consts #[v, sv]) hp r L w K := ⟨fun w1 h1 => by
  obtain ⟨v', w2, hrun, ho, hg, hat⟩ := run_append_at (ty := ty) hE base v _ _ (hown w1 h1) sv _ _ (hsrc w1 h1) (cellsL_one m) h63 hbytes (hbase w1 h1)
  refine ⟨v', w2, ?_, hkp w1 w2 h1 hg, hk v' w1 w2 h1 hg ?_ hat⟩
  · simp only [builtin, Sem.run_bind, hrun, Result.andThen, Sem.run_pure]
  · unfold Own; rw [cellsL_append, List.length_append]; exact ho⟩
end Go.Proofs.YtjbhpfmnfdebkaaGreat

/-
  The contracts of zset.checked, Of, come, by the engine.
-/
namespace Go.Proofs.YtjbhpfmnfdebkaaGreat
set_option linter.unusedVariables false
set_option linter.unusedSimpArgs false
set_option maxRecDepth 100000
open Go.RowKit Go.Proofs.YtjbhpfmnfdebkaaGreat.Eng Enc

namespace Zs
/-- what zones come to, behind what there is. -/
def come (f : Zn → Zn × Int) : List Zn → List Zn → List Zn × Int
  | out, [] => Cv.prune out
  | out, x :: l => if (f x).2 = 0 then come f (out ++ [(f x).1]) l else if (f x).2 = 6 then come f out l else ([], (f x).2)
end Zs
/-- all that stood there stands, but one row. -/
def KeptBut (row : Option Nat) (w W : World) : Prop := w.heap.size ≤ W.heap.size ∧ ∀ k, k < w.heap.size → some k ≠ row → W.heap[k]? = w.heap[k]?
theorem KeptBut.refl (row : Option Nat) (w : World) : KeptBut row w w := ⟨Nat.le_refl _, fun _ _ _ => rfl⟩
theorem KeptBut.go {row : Option Nat} {w W X : World} (h : KeptBut row w W) (hB : Below W.heap.size W X) : KeptBut row w X :=
  ⟨Nat.le_trans h.1 hB.size, fun k hk hr => (hB.block k (Nat.lt_of_lt_of_le hk h.1)).trans (h.2 k hk hr)⟩
theorem KeptBut.at {w0 : Base} {hp : List LB} {r L : List Nat} {row : Option Nat} {w W X : World} (h : KeptBut row w W) (h1 : At w0 hp r L W X) (hL : ∀ b, b ∈ L → w.heap.size ≤ b) : KeptBut row w X :=
  ⟨Nat.le_trans h.1 h1.size, fun k hk hr => (h1.step k (Nat.lt_of_lt_of_le hk h.1) (fun hm => by have := hL k hm; omega)).trans (h.2 k hk hr)⟩
theorem Own.atNe {α : Type} [Enc α] {w0 : Base} {hp : List LB} {r L : List Nat} {e : TypeId} {base : Nat} {w w1 : World} {v : Value} {l : List α} (h : Own e base w v l) (h1 : At w0 hp r L w w1) (hL : ∀ g, v.ownBlock = some g → g ∉ L) : Own e base w1 v l := by
  obtain ⟨hl, h0 | ⟨g, cap, cur, e1, e2, e3, e4⟩⟩ := id h
  · exact ⟨hl, .inl h0⟩
  · have hg := (Array.getElem?_eq_some_iff.1 e3).1
    exact ⟨hl, .inr ⟨g, cap, cur, e1, e2, (h1.step g hg (hL g (by rw [e1]; rfl))).trans e3, e4⟩⟩
end Go.Proofs.YtjbhpfmnfdebkaaGreat

/-
  The contract of comp.Comp's put, by the engine.
-/
namespace Go.Proofs.YtjbhpfmnfdebkaaGreat
set_option linter.unusedVariables false
set_option linter.unusedSimpArgs false
set_option maxRecDepth 100000
open Go.RowKit Go.Proofs.YtjbhpfmnfdebkaaGreat.Eng Enc

namespace Cmp
/-- the place of a zone's bound number k in a matrix of four clocks, by the three clocks it is put on. -/
def pl (c0 c1 c2 : Nat) (k : Nat) : Nat := 4 * (if k / 3 = 0 then c0 else if k / 3 = 1 then c1 else c2) + (if k % 3 = 0 then c0 else if k % 3 = 1 then c1 else c2)
def put (c0 c1 c2 : Nat) (M L : List Int) : Nat → List Int
  | 0 => L
  | k + 1 => (put c0 c1 c2 M L k).set (pl c0 c1 c2 k) (min ((put c0 c1 c2 M L k)[pl c0 c1 c2 k]?.getD 0) (M[k]?.getD 0))
end Cmp
/-- where the rounds of put stand. -/
structure Cmp.At (B g g1 cap : Nat) (M0 : List Int) (X : World) (row : List Int) : Prop where
  box : X.heap[B]? = some (.cells #[.int .i64 4, .slice (some ⟨g, 0, none⟩) 16 cap] 99 (0, 0))
  row : RowAt TB X g row
  mat : RowAt TB X g1 M0
section
variable {B g g1 cap : Nat} {M0 : List Int} {X Y : World} {row : List Int}
theorem Cmp.At.to (h : Cmp.At B g g1 cap M0 X row) (k : ∀ j, j = B ∨ j = g ∨ j = g1 → Y.heap[j]? = X.heap[j]?) : Cmp.At B g g1 cap M0 Y row :=
  ⟨(k B (.inl rfl)).trans h.box, h.row.kept (k g (.inr (.inl rfl))), h.mat.kept (k g1 (.inr (.inr rfl)))⟩
theorem Cmp.At.at {w0 : Base} {hp : List LB} {r L : List Nat} (h : Cmp.At B g g1 cap M0 X row) (h1 : Eng.At w0 hp r L X Y) (hL : ∀ b, b ∈ L → b ≠ B ∧ b ≠ g ∧ b ≠ g1) : Cmp.At B g g1 cap M0 Y row :=
  h.to fun j hj => h1.step j (by rcases hj with rfl | rfl | rfl; exact lt_cellsM h.box; exact h.row.lt; exact h.mat.lt) (fun hm => by have := hL j hm; rcases hj with rfl | rfl | rfl <;> omega)
theorem Cmp.At.set (h : Cmp.At B g g1 cap M0 X row) {j : Nat} (hj : j < row.length) (x : Int) (h1 : g ≠ B) (h2 : g1 ≠ g) : Cmp.At B g g1 cap M0 (X.setCell ⟨g, j, none⟩ (.int .i64 x)) (row.set j x) :=
  ⟨(setCell_neM (fun e => h1 e.symm)).trans h.box, h.row.set hj x, h.mat.kept (setCell_neM h2)⟩
theorem Cmp.At.cell (h : Cmp.At B g g1 cap M0 X row) : X.cell? ⟨B, 1, none⟩ = some (.slice (some ⟨g, 0, none⟩) 16 cap) := by simp [World.cell?, h.box]
end
end Go.Proofs.YtjbhpfmnfdebkaaGreat

/-
  The contract of tight.Meet, by the engine.
-/
namespace Go.Proofs.YtjbhpfmnfdebkaaGreat
set_option linter.unusedVariables false
set_option linter.unusedSimpArgs false
set_option maxRecDepth 100000
open Go.RowKit Go.Proofs.YtjbhpfmnfdebkaaGreat.Eng Enc

end Go.Proofs.YtjbhpfmnfdebkaaGreat

