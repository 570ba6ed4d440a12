/-
  The contracts of package rat that compare: product, compare, Cmp, by the engine.
-/
import Derived.Test.YthajkhbeehiepaaPlainSum
import Derived.Test.YthajkhbeehiepaaShMul
import Derived.Test.YthajkhbeehiepaaStay
namespace Go.Proofs.Ythajkhbeehiepaa
set_option linter.unusedVariables false
set_option linter.unusedSimpArgs false
set_option maxRecDepth 100000
open Go.RowKit Go.Proofs.Ythajkhbeehiepaa.Eng Enc

theorem mul64_any (x y : Nat) (hx : x < 18446744073709551616) (hy : y < 18446744073709551616) (w : World) :
    Calls Try.prog 129 #[.int .u64 x, .int .u64 y] w fun e w' => e = .returned (.tuple #[.int .u64 ((x * y / 18446744073709551616 : Nat) : Int), .int .u64 ((x * y % 18446744073709551616 : Nat) : Int)]) ∧ w = w' :=
  (Any.bits_Mul64 Try.mul64 x y hx hy w).mono fun e w' ⟨h1, h2⟩ => ⟨h1, h2.symm⟩

theorem tupP {a b c d : Int} (h : a = c) (k : b = d) : Value.tuple #[.int .i64 a, .int .u64 b] = .tuple #[.int .i64 c, .int .u64 d] := by rw [h, k]
theorem sub64_run (x y b : Nat) (hb : b ≤ 1) (w : World) : (callFunc 130 #[.int .u64 x, .int .u64 y, .int .u64 b]).run Try.prog w = .ok (.value (.tuple #[.int .u64 (((x + 18446744073709551616 - y - b) % 18446744073709551616 : Nat) : Int), .int .u64 ((if x < y + b then 1 else 0 : Nat) : Int)])) w := by
  rw [run_callFunc_extern Try.func130 (by kernel_rfl) (by kernel_rfl) (by kernel_rfl) (e := sub64Entry) (by kernel_rfl), run_sub64 x y b hb]; rfl

theorem product_any (a b : Int) (ha : inK .i64 a) (hb : inK .i64 b) (w : World) :
    Calls Try.prog 100 #[.int .i64 a, .int .i64 b] w fun e w' => e = .returned (.tuple #[.int .i64 (a * b / 18446744073709551616), .int .u64 (a * b % 18446744073709551616)]) ∧ Below w.heap.size w w' := by
  refine fun_eqW 0 w Try.func100 (args := [.val (.int .i64 a), .val (.int .i64 b)]) rfl rfl ?_
  simp only [inK] at ha hb
  (first
    | (refine CallI.to1 (size_any a ha) fun w2 => ?_)
    | (refine Branch.yes rfl ?_)
    | (refine Branch.no rfl ?_)
    | (refine Branch.mk (fun hb => ?_) (fun hb => ?_))
    | (refine NewI.mk fun nb hnb => ?_)
    | (refine Need.mk (by show _ ∧ _; omega) ?_)
    | (refine Need.mk (by omega) ?_)
    | (refine Need.mk ?_ ?_)
    | (refine EndI.mk fun w1 h1 => ?_))
  (first
    | (refine CallI.to1 (size_any b hb) fun w2 => ?_)
    | (refine Branch.yes rfl ?_)
    | (refine Branch.no rfl ?_)
    | (refine Branch.mk (fun hb => ?_) (fun hb => ?_))
    | (refine NewI.mk fun nb hnb => ?_)
    | (refine Need.mk (by show _ ∧ _; omega) ?_)
    | (refine Need.mk (by omega) ?_)
    | (refine Need.mk ?_ ?_)
    | (refine EndI.mk fun w1 h1 => ?_))
  refine CallI.to0 (mul64_any a.natAbs b.natAbs (by omega) (by omega)) fun w2 => ?_
  have hP : a.natAbs * b.natAbs ≤ 9223372036854775808 * 9223372036854775808 := Nat.mul_le_mul (by omega) (by omega)
  have habs : (a * b).natAbs = a.natAbs * b.natAbs := Int.natAbs_mul a b
  have hneg : a * b < 0 → (a < 0 ↔ ¬ b < 0) := fun h => by
    constructor
    · intro h1 h2
      have := Int.mul_pos_of_neg_of_neg h1 h2; omega
    · intro h1
      rcases Int.lt_or_le a 0 with h2 | h2
      · exact h2
      · have := Int.mul_nonneg h2 (by omega : 0 ≤ b); omega
  have hpos : 0 < a * b → (a < 0 ↔ b < 0) := fun h => by
    rcases Int.lt_or_le a 0 with h1 | h1 <;> rcases Int.lt_or_le b 0 with h2 | h2
    · simp [h1, h2]
    · have := Int.mul_nonpos_of_nonpos_of_nonneg (Int.le_of_lt h1) h2; omega
    · have := Int.mul_nonpos_of_nonneg_of_nonpos h1 (Int.le_of_lt h2); omega
    · omega
  generalize a.natAbs * b.natAbs = Q at *
  generalize a * b = Z at *
  refine Branch.mk (fun hc => ?_) (fun hc => ?_)
  · have hs : ¬ (a < 0 ↔ b < 0) := by simpa using hc
    refine GenN.to (fun w1 => sub64_run 0 (Q % 18446744073709551616) 0 (by decide) w1) fun w3 h3 => ?_
    refine GenN.to (fun w1 => sub64_run 0 (Q / 18446744073709551616) (if 0 < Q % 18446744073709551616 + 0 then 1 else 0) (by split <;> decide) w1) fun w4 h4 => ?_
    refine EndI.mk fun w5 h5 => ?_
    have hZ : Z = -(Q : Int) := by
      rcases Int.lt_or_le 0 Z with h | h
      · exact absurd (hpos h) hs
      · omega
    refine tupP ?_ ?_
    · split <;> omega
    · omega
  · have hs : (a < 0 ↔ b < 0) := by simpa using hc
    have hZ : Z = (Q : Int) := by
      rcases Int.lt_or_le Z 0 with h | h
      · have := hneg h; omega
      · omega
    refine EndI.mk fun w5 h5 => ?_
    refine tupP ?_ ?_
    · omega
    · omega

theorem nanU_any (a : Int) (w : World) : Calls Try.prog 141 #[.int .u64 a] w fun e w' => e = .returned (.bool false) ∧ Below w.heap.size w w' := by
  refine fun_eq 0 w Try.func141 (args := [.val (.int .u64 a)]) rfl rfl ?_
  repeat' (first
    | (refine Branch.yes rfl ?_)
    | (refine Branch.no rfl ?_)
    | (refine Branch.mk (fun hb => ?_) (fun hb => ?_))
    | (refine NewI.mk fun nb hnb => ?_)
    | (refine Need.mk (by show _ ∧ _; omega) ?_)
    | (refine Need.mk (by omega) ?_)
    | (refine Need.mk ?_ ?_)
    | (refine EndI.mk fun w1 h1 => ?_))
  simp
theorem cmpU_any (a b : Int) (w : World) : Calls Try.prog 131 #[.int .u64 a, .int .u64 b] w fun e w' => e = .returned (.int .i64 (cmpI a b)) ∧ Below w.heap.size w w' := by
  refine fun_eq 0 w Try.func131 (args := [.val (.int .u64 a), .val (.int .u64 b)]) rfl rfl ?_
  repeat' (first
    | (refine CallI.to1 (nanU_any _) fun w2 => ?_)
    | (refine Branch.yes rfl ?_)
    | (refine Branch.no rfl ?_)
    | (refine Branch.mk (fun hb => ?_) (fun hb => ?_))
    | (refine NewI.mk fun nb hnb => ?_)
    | (refine Need.mk (by show _ ∧ _; omega) ?_)
    | (refine Need.mk (by omega) ?_)
    | (refine Need.mk ?_ ?_)
    | (refine EndI.mk fun w1 h1 => ?_))
  all_goals
    simp only [decide_eq_true_eq, decide_eq_false_iff_not] at *
    simp [cmpI, *]
theorem firstU_any (a b : Int) (fid : FuncId) (caps : Array Value) (en : Enters Try.prog fid) (c : Int) (w : World)
    (hcall : ∀ W, Below w.heap.size w W → Calls Try.prog fid caps W fun e W' => e = .returned (.int .i64 c) ∧ Below W.heap.size W W') :
    Calls Try.prog 102 #[.int .u64 a, .int .u64 b, .func (.func fid) #[] caps] w fun e w' => e = .returned (.int .i64 (if cmpI a b ≠ 0 then cmpI a b else c)) ∧ Below w.heap.size w w' := by
  refine fun_eq 0 w Try.func102 (args := [.val (.int .u64 a), .val (.int .u64 b), .val (.func (.func fid) #[] caps)]) rfl rfl ?_
  apply CallI.use1
  · exact fun w1 h1 => cmpU_any a b w1
  intro w1 w2 h1 hB2
  refine Branch.mk (fun hc => ?_) (fun hc => ?_)
  · refine EndI.mk fun w3 h3 => ?_
    rw [if_pos (by simpa using hc)]
  refine Need.mk en ?_
  apply CallI.use1
  · exact fun w3 h3 => hcall w3 h3.below
  intro w3 w4 h3 hB4
  refine EndI.mk fun w3 h3 => ?_
  rw [if_neg (by simpa using hc)]
theorem zero_any (w : World) : Calls Try.prog 103 #[] w fun e w' => e = .returned (.int .i64 0) ∧ Below w.heap.size w w' := by
  refine fun_eq 0 w Try.func103 (args := []) rfl rfl ?_
  repeat' (first
    | (refine Branch.yes rfl ?_)
    | (refine Branch.no rfl ?_)
    | (refine Branch.mk (fun hb => ?_) (fun hb => ?_))
    | (refine NewI.mk fun nb hnb => ?_)
    | (refine Need.mk (by show _ ∧ _; omega) ?_)
    | (refine Need.mk (by omega) ?_)
    | (refine Need.mk ?_ ?_)
    | (refine EndI.mk fun w1 h1 => ?_))
  rfl
theorem compare1_any (p q : Nat) (l m : Int) (w : World) (hp : w.cell? ⟨p, 0, none⟩ = some (.int .u64 l)) (hq : w.cell? ⟨q, 0, none⟩ = some (.int .u64 m)) :
    Calls Try.prog 101 #[.pointer (some ⟨p, 0, none⟩), .pointer (some ⟨q, 0, none⟩)] w fun e w' => e = .returned (.int .i64 (cmpI l m)) ∧ Below w.heap.size w w' := by
  refine fun_eq 0 w Try.func101 (args := [.val (.pointer (some ⟨p, 0, none⟩)), .val (.pointer (some ⟨q, 0, none⟩))]) rfl rfl ?_
  refine LoadI.mk ⟨_, ⟨hp, by simp⟩, ?_⟩
  refine LoadI.mk ⟨_, ⟨hq, by simp⟩, ?_⟩
  apply CallI.use1
  · exact fun w1 h1 => firstU_any l m 103 #[] Try.call103 0 w1 fun W _ => zero_any W
  intro w1 w2 h1 hB2
  refine EndI.mk fun w3 h3 => ?_
  split
  · rfl
  · rename_i h
    rw [Decidable.not_not] at h
    rw [h]
theorem cmp_words (P Q : Int) : (if cmpI (P / 18446744073709551616) (Q / 18446744073709551616) ≠ 0 then cmpI (P / 18446744073709551616) (Q / 18446744073709551616) else cmpI (P % 18446744073709551616) (Q % 18446744073709551616)) = cmpI P Q := by
  have e1 := Int.mul_ediv_add_emod P 18446744073709551616
  have e2 := Int.mul_ediv_add_emod Q 18446744073709551616
  have h1 := Int.emod_nonneg P (b := 18446744073709551616) (by decide)
  have h2 := Int.emod_lt_of_pos P (b := 18446744073709551616) (by decide)
  have h3 := Int.emod_nonneg Q (b := 18446744073709551616) (by decide)
  have h4 := Int.emod_lt_of_pos Q (b := 18446744073709551616) (by decide)
  generalize P / 18446744073709551616 = p at *
  generalize Q / 18446744073709551616 = q at *
  generalize P % 18446744073709551616 = r at *
  generalize Q % 18446744073709551616 = s at *
  subst e1; subst e2
  have lt : ∀ {x y : Int}, x < y → cmpI x y = -1 := fun h => if_pos h
  have gt : ∀ {x y : Int}, y < x → cmpI x y = 1 := fun h => by unfold cmpI; rw [if_neg (by omega), if_pos h]
  have eq : ∀ x : Int, cmpI x x = 0 := fun x => by unfold cmpI; rw [if_neg (by omega), if_neg (by omega)]
  rcases Int.lt_trichotomy p q with h | h | h
  · rw [lt h, if_pos (by decide), lt (by omega)]
  · subst h
    rw [eq p, if_neg (by decide)]
    rcases Int.lt_trichotomy r s with h | h | h
    · rw [lt h, lt (by omega)]
    · subst h; rw [eq, eq]
    · rw [gt h, gt (by omega)]
  · rw [gt h, if_pos (by decide), gt (by omega)]
theorem compare_any (a b : Rt) (ha : a.ins) (hb : b.ins) (w : World) :
    Calls Try.prog 73 #[.agg #[.int .i64 a.num, .int .i64 a.den], .agg #[.int .i64 b.num, .int .i64 b.den]] w fun e w' => e = .returned (.int .i64 (Fr.cmpR a b)) ∧ Below w.heap.size w w' := by
  refine fun_eq 0 w Try.func73 (args := [.agg [.val (.int .i64 a.num), .val (.int .i64 a.den)], .agg [.val (.int .i64 b.num), .val (.int .i64 b.den)]]) rfl rfl ?_
  refine NewI.mk fun b1 hb1 => ?_
  refine NewI.mk fun b2 hb2 => ?_
  (first
    | (apply CallI.use1; (focus (exact fun w1 h1 => product_any a.num b.den ha.1 hb.2 w1)); intro w1 w2 h1 hB)
    | (refine Branch.yes rfl ?_)
    | (refine Branch.no rfl ?_)
    | (refine Branch.mk (fun hb => ?_) (fun hb => ?_))
    | (refine NewI.mk fun nb hnb => ?_)
    | (refine Need.mk (by show _ ∧ _; omega) ?_)
    | (refine Need.mk (by omega) ?_)
    | (refine Need.mk ?_ ?_)
    | (refine EndI.mk fun w1 h1 => ?_))
  refine NewI.mk fun b3 hb3 => ?_
  apply CallI.use1
  · exact fun w3 h3 => product_any b.num a.den hb.1 ha.2 w3
  intro w3 w4 h3 hB4
  refine NewI.mk fun b4 hb4 => ?_
  apply CallI.use1
  · exact fun w5 h5 => first_any _ _ 101 #[.pointer (some ⟨b3, 0, none⟩), .pointer (some ⟨b4, 0, none⟩)] Try.call101 (cmpI (a.num * b.den % 18446744073709551616) (b.num * a.den % 18446744073709551616)) w5 fun W hW =>
      compare1_any b3 b4 _ _ W ((hW.cell (p := ⟨b3, 0, none⟩) (h5.lt b3 (by simp))).trans (h5.own (i := 2) (o := 0) rfl rfl rfl)) ((hW.cell (p := ⟨b4, 0, none⟩) (h5.lt b4 (by simp))).trans (h5.own (i := 3) (o := 0) rfl rfl rfl))
  intro w5 w6 h5 hB6
  refine EndI.mk fun w7 h7 => ?_
  rw [cmp_words]; rfl
theorem two_all (a b : Rt) : (if [a, b].all Rt.ok = true then (0 : Int) else 8) = if a.ok = true ∧ b.ok = true then 0 else 8 := by simp
theorem rcmp_any (a b : Rt) (ha : a.ins) (hb : b.ins) (w : World) :
    Calls Try.prog 47 #[.agg #[.int .i64 a.num, .int .i64 a.den], .agg #[.int .i64 b.num, .int .i64 b.den]] w fun e w' => e = .returned (.tuple #[.int .i64 (Fr.cmp a b).1, .int .i64 (Fr.cmp a b).2]) ∧ Below w.heap.size w w' := by
  refine fun_eq 0 w Try.func47 (args := [.agg [.val (.int .i64 a.num), .val (.int .i64 a.den)], .agg [.val (.int .i64 b.num), .val (.int .i64 b.den)]]) rfl rfl ?_
  refine NewI.mk fun b1 hb1 => ?_
  refine NewI.mk fun b2 hb2 => ?_
  refine NewI.mk fun b3 hb3 => ?_
  apply CallI.use1
  · exact fun w1 h1 => rchecked_any [a, b] (by intro y hy; simp at hy; rcases hy with rfl | rfl <;> assumption) _ _ w1 (Sl.own (l := [a, b]) h1 2 rfl rfl rfl (Nat.le_refl _) (by simp [maxLen]))
  intro w1 w2 h1 hB2
  rw [two_all]
  refine Branch.mk (fun hc => ?_) (fun hc => ?_)
  · refine EndI.mk fun w3 h3 => ?_
    have hno : ¬ (a.ok = true ∧ b.ok = true) := fun h => by rw [if_pos h] at hc; cases hc
    rw [Fr.cmp, if_neg hno, if_neg hno]
  have hok : a.ok = true ∧ b.ok = true := by
    by_cases h : a.ok = true ∧ b.ok = true
    · exact h
    · rw [if_neg h] at hc; cases hc
  apply CallI.use1
  · exact fun w3 h3 => compare_any a b ha hb w3
  intro w3 w4 h3 hB4
  refine EndI.mk fun w5 h5 => ?_
  rw [Fr.cmp, if_pos hok]
end Go.Proofs.Ythajkhbeehiepaa
