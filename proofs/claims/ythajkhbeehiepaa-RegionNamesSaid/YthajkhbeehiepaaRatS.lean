/-
  The contracts of package rat that make fractions: low, Of, sum, Add, by the engine.
-/
import Derived.Test.YthajkhbeehiepaaRatC
namespace Go.Proofs.Ythajkhbeehiepaa
set_option linter.unusedVariables false
set_option linter.unusedSimpArgs false
set_option maxRecDepth 100000
open Go.RowKit Go.Proofs.Ythajkhbeehiepaa.Eng Enc

theorem div_in {n g : Int} (hn : inK .i64 n) (hg : 1 ≤ g) : inK .i64 (n / g) := Fr.ediv_in hg hn
theorem gcdI_any (x y : Int) (a b : Nat) (hx : x = a) (hy : y = b) (ha : a < 18446744073709551616) (hb : b < 18446744073709551616) (w : World) :
    Calls Try.prog 44 #[.int .u64 x, .int .u64 y] w fun e w' => e = .returned (.int .u64 (Nat.gcd a b)) ∧ Below w.heap.size w w' := by
  subst hx; subst hy; exact gcd_any a b ha hb w
theorem low_any (n d : Int) (hd : 1 ≤ d) (hn : inK .i64 n) (hd2 : inK .i64 d) (w : World) :
    Calls Try.prog 41 #[.int .i64 n, .int .i64 d] w fun e w' => e = .returned (.tuple #[.agg #[.int .i64 (Fr.low n d).1.num, .int .i64 (Fr.low n d).1.den], .int .i64 (Fr.low n d).2]) ∧ Below w.heap.size w w' := by
  refine fun_eq 0 w Try.func41 (args := [.val (.int .i64 n), .val (.int .i64 d)]) rfl rfl ?_
  have hn' := hn
  have hd' := hd2
  simp only [inK] at hn' hd'
  refine NewI.mk fun b1 hb1 => ?_
  (first
    | (refine CallI.to1 (size_any n hn) fun w2 => ?_)
    | (refine Branch.yes rfl ?_)
    | (refine Branch.no rfl ?_)
    | (refine Branch.mk (fun hb => ?_) (fun hb => ?_))
    | (refine NewI.mk fun nb hnb => ?_)
    | (refine Need.mk (by show _ ∧ _; omega) ?_)
    | (refine Need.mk (by omega) ?_)
    | (refine Need.mk ?_ ?_)
    | (refine EndI.mk fun w1 h1 => ?_))
  obtain ⟨D, rfl⟩ : ∃ D : Nat, d = D := ⟨d.toNat, by omega⟩
  (first
    | (refine CallI.to1 (gcdI_any _ _ n.natAbs D rfl (by omega) (by omega) (by omega)) fun w2 => ?_)
    | (refine Branch.yes rfl ?_)
    | (refine Branch.no rfl ?_)
    | (refine Branch.mk (fun hb => ?_) (fun hb => ?_))
    | (refine NewI.mk fun nb hnb => ?_)
    | (refine Need.mk (by show _ ∧ _; omega) ?_)
    | (refine Need.mk (by omega) ?_)
    | (refine Need.mk ?_ ?_)
    | (refine EndI.mk fun w1 h1 => ?_))
  have hgD : (Nat.gcd n.natAbs D : Int) ∣ (D : Int) := Int.natCast_dvd_natCast.2 (Nat.gcd_dvd_right ..)
  have hgn : (Nat.gcd n.natAbs D : Int) ∣ n := Int.ofNat_dvd_left.2 (Nat.gcd_dvd_left ..)
  have hg1 : 1 ≤ (Nat.gcd n.natAbs D : Int) := by
    have : 0 < Nat.gcd n.natAbs D := Nat.gcd_pos_of_pos_right _ (by omega)
    omega
  have hgle : (Nat.gcd n.natAbs D : Int) ≤ D := Int.le_of_dvd (by omega) hgD
  have hl : Fr.low n D = if Fr.okB (n / (Nat.gcd n.natAbs D : Int)) ((D : Int) / (Nat.gcd n.natAbs D : Int)) = true then (⟨n / (Nat.gcd n.natAbs D : Int), (D : Int) / (Nat.gcd n.natAbs D : Int)⟩, 0) else (⟨0, 0⟩, 10) := rfl
  rw [hl]
  generalize (Nat.gcd n.natAbs D : Int) = g at *
  have e1 : n.tdiv g = n / g := Int.tdiv_eq_ediv_of_dvd hgn
  have e2 : (D : Int).tdiv g = (D : Int) / g := Int.tdiv_eq_ediv_of_dvd hgD
  conv => whnf
  rw [show (g + 9223372036854775808) % 18446744073709551616 - 9223372036854775808 = g by omega]
  refine DrawI.go (.tk 0 (.tk 1 (.tk 2 (.tk 3 (.tk 4 (.tk 5 (.tk 6 (.ev 7 (.ev 8 .done))))))))) (by kernel_rfl) fun w1 h1 => ?_
  refine Need.mk ⟨by omega, by rw [e1]; exact div_in hn hg1⟩ ?_
  refine Need.mk ⟨by omega, by rw [e2]; exact div_in hd2 hg1⟩ ?_
  rw [e1, e2]
  refine NewI.mk fun b2 hb2 => ?_
  apply CallI.use1
  · exact fun w3 h3 => rcheck_any (n / g) (D / g) (div_in hn hg1) (div_in hd2 hg1) w3
  intro w3 w4 h3 hB4
  refine Branch.mk (fun hc => ?_) (fun hc => ?_)
  · refine EndI.mk fun w5 h5 => ?_
    rw [if_pos (Fr.chk_eq.1 (by simpa using hc))]
  · refine EndI.mk fun w5 h5 => ?_
    rw [if_neg (fun h => by rw [Fr.chk_yes h] at hc; cases hc)]
theorem rof_any (n d : Int) (hn : inK .i64 n) (hd2 : inK .i64 d) (w : World) :
    Calls Try.prog 20 #[.int .i64 n, .int .i64 d] w fun e w' => e = .returned (.tuple #[.agg #[.int .i64 (Fr.of n d).1.num, .int .i64 (Fr.of n d).1.den], .int .i64 (Fr.of n d).2]) ∧ Below w.heap.size w w' := by
  refine fun_eq 0 w Try.func20 (args := [.val (.int .i64 n), .val (.int .i64 d)]) rfl rfl ?_
  refine NewI.mk fun b1 hb1 => ?_
  unfold Fr.of
  refine Branch.mk (fun hc => ?_) (fun hc => ?_)
  · refine EndI.mk fun w5 h5 => ?_
    rw [if_pos (by simpa using hc)]
  have hd : ¬ d < 1 := by simpa using hc
  rw [if_neg hd]
  (first
    | (refine CallI.to1 (low_any n d (by omega) hn hd2) fun w2 => ?_)
    | (refine Branch.yes rfl ?_)
    | (refine Branch.no rfl ?_)
    | (refine Branch.mk (fun hb => ?_) (fun hb => ?_))
    | (refine NewI.mk fun nb hnb => ?_)
    | (refine Need.mk (by show _ ∧ _; omega) ?_)
    | (refine Need.mk (by omega) ?_)
    | (refine Need.mk ?_ ?_)
    | (refine EndI.mk fun w1 h1 => ?_))
  exact EndI.mk fun w5 h5 => rfl

theorem sum_any (a b : Rt) (k : Int) (ha : a.ok = true) (hb : b.ok = true) (ia : a.ins) (ib : b.ins) (hk : k = 1 ∨ k = 2) (w : World) :
    Calls Try.prog 99 #[.agg #[.int .i64 a.num, .int .i64 a.den], .agg #[.int .i64 b.num, .int .i64 b.den], .int .i64 k] w fun e w' => e = .returned (.tuple #[.agg #[.int .i64 (Fr.sum a b k).1.num, .int .i64 (Fr.sum a b k).1.den], .int .i64 (Fr.sum a b k).2]) ∧ Below w.heap.size w w' := by
  refine fun_eqW 0 w Try.func99 (args := [.agg [.val (.int .i64 a.num), .val (.int .i64 a.den)], .agg [.val (.int .i64 b.num), .val (.int .i64 b.den)], .val (.int .i64 k)]) rfl rfl ?_
  have oa := Fr.ok_bd ha
  have ob := Fr.ok_bd hb
  have hd := Fr.dn_pos ha hb hk
  obtain ⟨s1, s2, s3, s4, s5, s6, s7, s8⟩ := Fr.sum_bd ha hb hk
  have hfin := Fr.finish_sum ha hb hk
  obtain ⟨hg, _, _, hp, hd1, hd2⟩ := Fr.red (T := Fr.tn a b) (W := Fr.sW a b k) (D := Fr.sDen a b * k) (p := Fr.sPart a b k) (by omega) (by omega) (Fr.sum_split ha hb hk)
  have hk1 : 1 ≤ k := by omega
  refine NewI.mk fun b1 hb1 => ?_
  refine NewI.mk fun b2 hb2 => ?_
  refine NewI.mk fun b3 hb3 => ?_
  apply CallI.use1
  · exact fun w1 h1 => floor_any a.num a.den oa.1 ia.1 ia.2 w1
  intro w1 w2 h1 hB2
  apply CallI.use1
  · exact fun w3 h3 => floor_any b.num b.den ob.1 ib.1 ib.2 w3
  intro w3 w4 h3 hB4
  refine DrawI.go (.tk 0 (.tk 1 (.tk 2 (.tk 3 (.tk 4 (.tk 5 (.tk 6 (.tk 7 (.tk 8 (.tk 9 (.tk 10 (.tk 11 (.tk 12 (.tk 13 .done)))))))))))))) (by kernel_rfl) fun w5 h5 => ?_
  refine Wr.fit (by have := s1; unfold Fr.sWhole at this; omega) ?_
  refine Wr.fit (by omega) ?_
  refine Wr.fit (by omega) ?_
  refine Wr.fit (by omega) ?_
  refine Wr.fit (by have := hd; unfold Fr.sDen at this; omega) ?_
  apply CallI.use1
  · exact fun w3 h3 => floor_any (Fr.sWhole a b) k (by omega) (by simp only [inK]; omega) (by simp only [inK]; omega) w3
  intro w6 w7 h6 hB7
  refine Wr.fit (by have := s4; unfold Fr.sDen at this; omega) ?_
  refine Wr.fit (by have := s5; unfold Fr.sRest2 Fr.sRest Fr.sDen at this; omega) ?_
  refine Wr.fit (by have := hd; unfold Fr.sDen at this; omega) ?_
  apply CallI.use1
  · exact fun w3 h3 => floor_any (Fr.sRest2 a b k) (Fr.sDen a b * k) (by omega) (by simp only [inK]; omega) (by simp only [inK]; omega) w3
  intro w8 w9 h8 hB9
  refine Wr.fit (by have := hd; unfold Fr.sDen at this; omega) ?_
  apply CallI.use1
  · exact fun w3 h3 => gcdI_any _ _ (Fr.sPart a b k).natAbs (Fr.sDen a b * k).natAbs (by show Fr.sPart a b k % 18446744073709551616 = _; omega) (by show Fr.sDen a b * k % 18446744073709551616 = _; omega) (by omega) (by omega) w3
  intro w10 w11 h10 hB11
  conv => whnf
  rw [show (((Nat.gcd (Fr.sPart a b k).natAbs (Fr.sDen a b * k).natAbs : Nat) : Int) + 9223372036854775808) % 18446744073709551616 - 9223372036854775808 = Int.gcd (Fr.sPart a b k) (Fr.sDen a b * k) by
    have hle : (Int.gcd (Fr.sPart a b k) (Fr.sDen a b * k) : Int) ≤ Fr.sDen a b * k := Int.le_of_dvd (by omega) (Int.gcd_dvd_right ..)
    show ((Int.gcd (Fr.sPart a b k) (Fr.sDen a b * k) : Int) + 9223372036854775808) % 18446744073709551616 - 9223372036854775808 = _
    omega]
  have t1 : (Fr.sPart a b k).tdiv (Int.gcd (Fr.sPart a b k) (Fr.sDen a b * k)) = Fr.sPart a b k / (Int.gcd (Fr.sPart a b k) (Fr.sDen a b * k)) := Int.tdiv_eq_ediv_of_dvd (Int.gcd_dvd_left ..)
  have t2 : (a.den * b.den * k).tdiv (Int.gcd (Fr.sPart a b k) (Fr.sDen a b * k)) = Fr.sDen a b * k / (Int.gcd (Fr.sPart a b k) (Fr.sDen a b * k)) := Int.tdiv_eq_ediv_of_dvd (Int.gcd_dvd_right ..)
  refine DrawI.go (.tk 0 (.tk 1 (.tk 2 (.tk 3 (.tk 4 (.tk 5 (.tk 6 (.tk 7 (.tk 8 (.tk 9 .done)))))))))) (by kernel_rfl) fun w12 h12 => ?_
  refine Need.mk ⟨by omega, by show inK .i64 ((Fr.sPart a b k).tdiv _); rw [t1]; simp only [inK]; omega⟩ ?_
  refine Wr.fit (by have := hd; unfold Fr.sDen at this; omega) ?_
  refine Need.mk ⟨by omega, by rw [t2]; simp only [inK]; omega⟩ ?_
  rw [show ((Fr.sRest2 a b k) % (Fr.sDen a b * k)) = Fr.sPart a b k from rfl, t1, t2]
  rw [← hfin]
  have hW : -4611686018427387904 ≤ Fr.sW a b k ∧ Fr.sW a b k ≤ 4611689316962271232 := by unfold Fr.sW; omega
  generalize Fr.sPart a b k / (Int.gcd (Fr.sPart a b k) (Fr.sDen a b * k) : Int) = p at *
  generalize Fr.sDen a b * k / (Int.gcd (Fr.sPart a b k) (Fr.sDen a b * k) : Int) = d at *
  clear t1 t2 hfin
  unfold Fr.finish
  refine Branch.mk (fun hc => ?_) (fun hc => ?_)
  · refine EndI.mk fun w5 h5 => ?_
    rw [if_pos (by simpa using hc)]
  have hd20 : ¬ 1048576 < d := by simpa using hc
  rw [if_neg hd20]
  refine Wr.fit (by have := hW; unfold Fr.sW at this; omega) ?_
  refine CallI.to0 (check_any (Fr.sW a b k)) fun w14 => ?_
  conv => whnf
  rw [show Fr.sWhole a b / k + Fr.sRest2 a b k / (Fr.sDen a b * k) = Fr.sW a b k from rfl]
  generalize Fr.sW a b k = W at *
  refine Branch.mk (fun hc => ?_) (fun hc => ?_)
  · refine EndI.mk fun w5 h5 => ?_
    rw [if_pos (by simpa using hc)]
  have hW0 : Num.chk W = 0 := by simpa using hc
  rw [if_neg (by omega)]
  have hWb : -2305843009213693952 ≤ W ∧ W ≤ 2305843009213693952 := by
    rcases hk : Num.okB W with _ | _
    · rw [Num.chk_no hk] at hW0; cases hW0
    · exact Num.okB_iff.1 hk
  refine Branch.mk (fun hneg => ?_) (fun hneg => ?_)
  · have hn : W < 0 := by simpa using hneg
    refine Wr.fit (by omega) ?_
    refine Wr.fit (by omega) ?_
    have hP : (W + 1) * d + (p - d) = W * d + p := by grind
    have hs : (W + 1) * d ≤ 0 := Int.mul_nonpos_of_nonpos_of_nonneg (by omega) (by omega)
    apply CallI.use1
    · exact fun w3 h3 => product_any (W + 1) d (by simp only [inK]; omega) (by simp only [inK]; omega) w3
    intro w15 w16 h15 hB16
    generalize (W + 1) * d = P at *
    generalize W * d = WD at *
    have hsg : (0 ≤ P ∧ 0 ≤ p - d) ∨ (P ≤ 0 ∧ p - d < 0) := by omega
    have hqb : -1048576 ≤ p - d ∧ p - d ≤ 1048576 := by omega
    generalize p - d = q at *
    rw [← hP]
    refine Wr.mk ?_
    refine Need.mk (by decide) ?_
    conv => whnf
    rw [show (2 : Int) ^ Int.toNat 63 = 9223372036854775808 by decide, show (P % 18446744073709551616 + 9223372036854775808) % 18446744073709551616 - 9223372036854775808 = Fr.il P from rfl]
    refine Branch.mk (fun hc2 => ?_) (fun hc2 => ?_)
    · refine EndI.mk fun w5 h5 => ?_
      rw [if_neg (fun h => by rw [Fr.il_ne (P := P) (by simpa using hc2) (by omega)] at h; cases h)]
    obtain ⟨hil, hPb⟩ := Fr.il_eq (P := P) (by simpa using hc2)
    rw [hil]
    refine Branch.mk (fun hc3 => ?_) (fun hc3 => ?_)
    · refine Branch.mk (fun hc4 => ?_) (fun hc4 => ?_)
      · refine EndI.mk fun w5 h5 => ?_
        rw [if_neg]
        intro h
        simp only [Fr.inI, Bool.and_eq_true, decide_eq_true_eq] at h
        have hc4 : q ≠ 0 := by simpa using hc4
        simp at hc3
        omega
      · have hq0 : q = 0 := by simpa using hc4
        subst hq0
        rw [if_pos (by simp only [Fr.inI, Bool.and_eq_true, decide_eq_true_eq]; omega)]
        rw [show (P + 0 + 9223372036854775808) % 18446744073709551616 - 9223372036854775808 = P + 0 by omega]
        apply CallI.use1
        · exact fun w3 h3 => low_any (P + 0) d (by omega) (by simp only [inK]; omega) (by simp only [inK]; omega) w3
        intro w17 w18 h17 hB18
        exact EndI.mk fun w19 h19 => rfl
    · simp at hc3
      rw [if_pos (by simp only [Fr.inI, Bool.and_eq_true, decide_eq_true_eq]; omega)]
      rw [show (P + q + 9223372036854775808) % 18446744073709551616 - 9223372036854775808 = P + q by omega]
      apply CallI.use1
      · exact fun w3 h3 => low_any (P + q) d (by omega) (by simp only [inK]; omega) (by simp only [inK]; omega) w3
      intro w17 w18 h17 hB18
      exact EndI.mk fun w19 h19 => rfl
  · have hn : 0 ≤ W := by have : ¬ W < 0 := by simpa using hneg
                          omega
    have hs : 0 ≤ W * d := Int.mul_nonneg hn (by omega)
    apply CallI.use1
    · exact fun w3 h3 => product_any W d (by simp only [inK]; omega) (by simp only [inK]; omega) w3
    intro w15 w16 h15 hB16
    have hsg : (0 ≤ W * d ∧ 0 ≤ p) ∨ (W * d ≤ 0 ∧ p < 0) := by omega
    have hpb : -1048576 ≤ p ∧ p ≤ 1048576 := by omega
    generalize W * d = P at *
    refine Wr.mk ?_
    refine Need.mk (by decide) ?_
    conv => whnf
    rw [show (2 : Int) ^ Int.toNat 63 = 9223372036854775808 by decide, show (P % 18446744073709551616 + 9223372036854775808) % 18446744073709551616 - 9223372036854775808 = Fr.il P from rfl]
    refine Branch.mk (fun hc2 => ?_) (fun hc2 => ?_)
    · refine EndI.mk fun w5 h5 => ?_
      rw [if_neg (fun h => by rw [Fr.il_ne (P := P) (by simpa using hc2) (by omega)] at h; cases h)]
    obtain ⟨hil, hPb⟩ := Fr.il_eq (P := P) (by simpa using hc2)
    rw [hil]
    refine Branch.mk (fun hc3 => ?_) (fun hc3 => ?_)
    · refine Branch.mk (fun hc4 => ?_) (fun hc4 => ?_)
      · refine EndI.mk fun w5 h5 => ?_
        rw [if_neg]
        intro h
        simp only [Fr.inI, Bool.and_eq_true, decide_eq_true_eq] at h
        have hc4 : p ≠ 0 := by simpa using hc4
        simp at hc3
        omega
      · have hp0 : p = 0 := by simpa using hc4
        subst hp0
        rw [if_pos (by simp only [Fr.inI, Bool.and_eq_true, decide_eq_true_eq]; omega)]
        rw [show (P + 0 + 9223372036854775808) % 18446744073709551616 - 9223372036854775808 = P + 0 by omega]
        apply CallI.use1
        · exact fun w3 h3 => low_any (P + 0) d (by omega) (by simp only [inK]; omega) (by simp only [inK]; omega) w3
        intro w17 w18 h17 hB18
        exact EndI.mk fun w19 h19 => rfl
    · simp at hc3
      rw [if_pos (by simp only [Fr.inI, Bool.and_eq_true, decide_eq_true_eq]; omega)]
      rw [show (P + p + 9223372036854775808) % 18446744073709551616 - 9223372036854775808 = P + p by omega]
      apply CallI.use1
      · exact fun w3 h3 => low_any (P + p) d (by omega) (by simp only [inK]; omega) (by simp only [inK]; omega) w3
      intro w17 w18 h17 hB18
      exact EndI.mk fun w19 h19 => rfl

theorem radd_any (a b : Rt) (ha : a.ins) (hb : b.ins) (w : World) :
    Calls Try.prog 71 #[.agg #[.int .i64 a.num, .int .i64 a.den], .agg #[.int .i64 b.num, .int .i64 b.den]] w fun e w' => e = .returned (.tuple #[.agg #[.int .i64 (Fr.add a b).1.num, .int .i64 (Fr.add a b).1.den], .int .i64 (Fr.add a b).2]) ∧ Below w.heap.size w w' := by
  refine fun_eq 0 w Try.func71 (args := [.agg [.val (.int .i64 a.num), .val (.int .i64 a.den)], .agg [.val (.int .i64 b.num), .val (.int .i64 b.den)]]) rfl rfl ?_
  refine NewI.mk fun b1 hb1 => ?_
  refine NewI.mk fun b2 hb2 => ?_
  refine NewI.mk fun b3 hb3 => ?_
  refine NewI.mk fun b4 hb4 => ?_
  apply CallI.use1
  · exact fun w1 h1 => rchecked_any [a, b] (by intro y hy; simp at hy; rcases hy with rfl | rfl <;> assumption) _ _ w1 (Sl.own (l := [a, b]) h1 3 rfl rfl rfl (Nat.le_refl _) (by simp [maxLen]))
  intro w1 w2 h1 hB2
  rw [two_all]
  refine Branch.mk (fun hc => ?_) (fun hc => ?_)
  · refine EndI.mk fun w3 h3 => ?_
    have hno : ¬ (a.ok = true ∧ b.ok = true) := fun h => by rw [if_pos h] at hc; cases hc
    rw [Fr.add, if_neg hno, if_neg hno]
  have hok : a.ok = true ∧ b.ok = true := by
    by_cases h : a.ok = true ∧ b.ok = true
    · exact h
    · rw [if_neg h] at hc; cases hc
  apply CallI.use1
  · exact fun w3 h3 => sum_any a b 1 hok.1 hok.2 ha hb (.inl rfl) w3
  intro w3 w4 h3 hB4
  refine EndI.mk fun w5 h5 => ?_
  rw [Fr.add, if_pos hok]
end Go.Proofs.Ythajkhbeehiepaa
