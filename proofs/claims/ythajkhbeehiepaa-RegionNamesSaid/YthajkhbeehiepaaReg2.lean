/-
  The contracts of package region: points, by the engine.
-/
import Derived.Test.YthajkhbeehiepaaReg
namespace Go.Proofs.Ythajkhbeehiepaa
set_option linter.unusedVariables false
set_option linter.unusedSimpArgs false
set_option maxRecDepth 100000
open Go.RowKit Go.Proofs.Ythajkhbeehiepaa.Eng Enc

theorem index_parts (r : Int) (h : 0 ≤ r ∧ r < 3) (w : World) :
    (Instr.index 84 (.agg #[.int .i64 1, .int .i64 2, .int .i64 3, .int .i64 1, .int .i64 1, .int .i64 2, .int .i64 2, .int .i64 1, .int .i64 3]) (.int .i64 r)).run Try.prog w = .ok (.agg #[.int .i64 (Rg.parts r).1, .int .i64 (Rg.parts r).2.1, .int .i64 (Rg.parts r).2.2]) w := by
  rcases (by omega : r = 0 ∨ r = 1 ∨ r = 2) with rfl | rfl | rfl <;> kernel_rfl
theorem point_any (n long : Int) (hl : 1 ≤ long ∧ long ≤ 16) (hn : 0 ≤ n ∧ n < (Rg.many long).1) (w : World) :
    Calls Try.prog 21 #[.int .i64 n, .int .i64 long] w fun e w' => e = .returned (.tuple #[.agg #[.int .i64 (Rg.pt n long).t.num, .int .i64 (Rg.pt n long).t.den, .int .i64 (Rg.pt n long).u.num, .int .i64 (Rg.pt n long).u.den], .bool (Rg.point n long).2]) ∧ Below w.heap.size w w' := by
  refine fun_eq 0 w Try.func21 (args := [.val (.int .i64 n), .val (.int .i64 long)]) rfl rfl ?_
  have hs : 3 ≤ Rg.sides long ∧ Rg.sides long ≤ 33 := by unfold Rg.sides; omega
  have hmany : (Rg.many long).1 = 3 * Rg.sides long * Rg.sides long := by unfold Rg.many; rw [if_pos (Rg.fits_iff.2 hl)]
  have hm := Fr.mul_bd (u := 3 * Rg.sides long) (v := Rg.sides long) (m := 99) (n := 33) (by omega) (by omega) (by omega) (by omega)
  have e1 : n.tdiv 3 = n / 3 := Int.tdiv_eq_ediv_of_nonneg hn.1
  have e2 : (n / 3).tdiv (Rg.sides long) = n / 3 / Rg.sides long := Int.tdiv_eq_ediv_of_nonneg (by omega)
  have e3 : (n / 3).tmod (Rg.sides long) = n / 3 % Rg.sides long := Int.tmod_eq_emod_of_nonneg (by omega)
  have e4 : n.tmod 3 = n % 3 := Int.tmod_eq_emod_of_nonneg hn.1
  have ht : 0 ≤ n / 3 / Rg.sides long ∧ n / 3 / Rg.sides long ≤ 1000 := by
    have h1 : 0 ≤ n / 3 / Rg.sides long := Int.ediv_nonneg (by omega) (by omega)
    have h2 : n / 3 / Rg.sides long < Rg.sides long := by
      refine Int.ediv_lt_of_lt_mul (by omega) ?_
      have : n < 3 * (Rg.sides long * Rg.sides long) := by rw [← Int.mul_assoc, ← hmany]; exact hn.2
      omega
    omega
  have hu : 0 ≤ n / 3 % Rg.sides long ∧ n / 3 % Rg.sides long ≤ 1000 := by
    have h1 := Int.emod_nonneg (n / 3) (b := Rg.sides long) (by omega)
    have h2 := Int.emod_lt_of_pos (n / 3) (b := Rg.sides long) (by omega)
    omega
  refine NewI.mk fun b1 hb1 => ?_
  refine DrawI.go (.tk 0 (.tk 1 (.tk 2 (.tk 5 (.tk 6 (.tk 7 (.ev 3 (.tk 4 (.ev 8 (.tk 9 (.tk 10 (.tk 11 .done)))))))))))) (by kernel_rfl) fun w1 h1 => ?_
  have n1 : (3 : Int) ≠ 0 ∧ inK .i64 (n.tdiv 3) := ⟨by decide, by rw [e1]; simp only [inK]; omega⟩
  refine Need.mk n1 ?_
  refine Need.mk n1 ?_
  (first
    | (refine CallI.to1 (sides_any long hl) fun w2 => ?_)
    | (refine Branch.yes rfl ?_)
    | (refine Branch.no rfl ?_)
    | (refine Branch.mk (fun hb => ?_) (fun hb => ?_))
    | (refine NewI.mk fun nb hnb => ?_)
    | (refine Need.mk (by show _ ∧ _; omega) ?_)
    | (refine Need.mk (by omega) ?_)
    | (refine Need.mk ?_ ?_)
    | (refine EndI.mk fun w1 h1 => ?_))
  refine Need.mk ⟨by omega, by show inK .i64 ((n.tdiv 3).tdiv (Rg.sides long)); rw [e1, e2]; simp only [inK]; omega⟩ ?_
  (first
    | (refine CallI.to1 (sides_any long hl) fun w2 => ?_)
    | (refine Branch.yes rfl ?_)
    | (refine Branch.no rfl ?_)
    | (refine Branch.mk (fun hb => ?_) (fun hb => ?_))
    | (refine NewI.mk fun nb hnb => ?_)
    | (refine Need.mk (by show _ ∧ _; omega) ?_)
    | (refine Need.mk (by omega) ?_)
    | (refine Need.mk ?_ ?_)
    | (refine EndI.mk fun w1 h1 => ?_))
  refine Need.mk (by omega) ?_
  refine Need.mk (by decide) ?_
  conv => whnf
  rw [e1, e2, e3, e4]
  refine GenV.to (fun w3 => index_parts (n % 3) (by omega) w3) fun w3 h3 => ?_
  have hpar : (0 ≤ (Rg.parts (n % 3)).1 ∧ (Rg.parts (n % 3)).1 ≤ 10) ∧ (0 ≤ (Rg.parts (n % 3)).2.1 ∧ (Rg.parts (n % 3)).2.1 ≤ 10) ∧ (1 ≤ (Rg.parts (n % 3)).2.2 ∧ (Rg.parts (n % 3)).2.2 ≤ 10) := by
    unfold Rg.parts; split
    · simp
    · split <;> simp
  refine NewI.mk fun b2 hb2 => ?_
  refine DrawI.go (.tk 0 (.tk 1 (.tk 2 (.tk 3 (.tk 4 (.tk 6 (.tk 7 (.tk 8 (.tk 9 (.tk 10 (.two 5 (.two 11 (.tk 12 (.ev 13 (.ev 14 .done))) 13 (.ev 11 (.tk 12 (.ev 14 .done)))) 13 (.ev 5 (.ev 11 (.tk 12 (.ev 14 .done))))))))))))))) (by kernel_rfl) fun w4 h4 => ?_
  refine Need.mk (by decide) ?_
  refine Need.mk (by decide) ?_
  refine Need.mk (by decide) ?_
  refine Need.mk (by decide) ?_
  have c1 := fun w => time_any (n / 3 / Rg.sides long) (Rg.parts (n % 3)).1 (Rg.parts (n % 3)).2.2 ht hpar.1 hpar.2.2 w
  have c2 := fun w => time_any (n / 3 % Rg.sides long) (Rg.parts (n % 3)).2.1 (Rg.parts (n % 3)).2.2 hu hpar.2.1 hpar.2.2 w
  have hins : (Rg.pt n long).ins := ⟨Rg.time_ins ht hpar.1 hpar.2.2, Rg.time_ins hu hpar.2.1 hpar.2.2⟩
  refine Both.mk ?_ ?_
  · refine CallI.to1 c1 fun w5 => ?_
    refine Both.mk ?_ ?_
    · refine CallI.to1 c2 fun w6 => ?_
      refine NewI.mk fun b3 hb3 => ?_
      refine DrawI.wr (.tk 0 (.tk 1 (.tk 2 (.tk 4 (.ev 3 (.tk 5 (.ev 6 (.tk 7 .done)))))))) [0] [] (by kernel_rfl) rfl (by simp) fun w7 h7 => ?_
      refine CallI.to1 (fun w => number_any (Rg.pt n long) long hins hl w) fun w8 => ?_
      exact EndI.mk fun w9 h9 => rfl
    · refine NewI.mk fun b3 hb3 => ?_
      refine CallI.to1 c2 fun w6 => ?_
      refine DrawI.wr (.tk 0 (.tk 1 (.tk 2 (.tk 4 (.ev 3 (.tk 5 (.ev 6 (.tk 7 .done)))))))) [0] [] (by kernel_rfl) rfl (by simp) fun w7 h7 => ?_
      refine CallI.to1 (fun w => number_any (Rg.pt n long) long hins hl w) fun w8 => ?_
      exact EndI.mk fun w9 h9 => rfl
  · refine NewI.mk fun b3 hb3 => ?_
    refine CallI.to1 c1 fun w5 => ?_
    refine CallI.to1 c2 fun w6 => ?_
    refine DrawI.wr (.tk 0 (.tk 1 (.tk 2 (.tk 4 (.ev 3 (.tk 5 (.ev 6 (.tk 7 .done)))))))) [0] [] (by kernel_rfl) rfl (by simp) fun w7 h7 => ?_
    refine CallI.to1 (fun w => number_any (Rg.pt n long) long hins hl w) fun w8 => ?_
    exact EndI.mk fun w9 h9 => rfl

theorem rpoint_any (n long : Int) (w : World) :
    Calls Try.prog 8 #[.int .i64 n, .int .i64 long] w fun e w' => e = .returned (.tuple #[.agg #[.int .i64 (Rg.askPoint n long).1.t.num, .int .i64 (Rg.askPoint n long).1.t.den, .int .i64 (Rg.askPoint n long).1.u.num, .int .i64 (Rg.askPoint n long).1.u.den], .int .i64 (Rg.askPoint n long).2]) ∧ Below w.heap.size w w' := by
  refine fun_eq 0 w Try.func8 (args := [.val (.int .i64 n), .val (.int .i64 long)]) rfl rfl ?_
  refine NewI.mk fun b1 hb1 => ?_
  (first
    | (refine CallI.to1 (many_any long) fun w2 => ?_)
    | (refine Branch.yes rfl ?_)
    | (refine Branch.no rfl ?_)
    | (refine Branch.mk (fun hb => ?_) (fun hb => ?_))
    | (refine NewI.mk fun nb hnb => ?_)
    | (refine Need.mk (by show _ ∧ _; omega) ?_)
    | (refine Need.mk (by omega) ?_)
    | (refine Need.mk ?_ ?_)
    | (refine EndI.mk fun w1 h1 => ?_))
  unfold Rg.askPoint
  refine Branch.mk (fun hc => ?_) (fun hc => ?_)
  · refine EndI.mk fun w3 h3 => ?_
    rw [if_pos (.inl (by simpa using hc))]; rfl
  have hm : (Rg.many long).2 = 0 := by simpa using hc
  refine Branch.mk (fun hc2 => ?_) (fun hc2 => ?_)
  · refine EndI.mk fun w3 h3 => ?_
    rw [if_pos (.inr (.inl (by simpa using hc2)))]; rfl
  have h0 : ¬ n < 0 := by simpa using hc2
  refine Branch.mk (fun hc3 => ?_) (fun hc3 => ?_)
  · refine EndI.mk fun w3 h3 => ?_
    rw [if_pos (.inr (.inr (by simpa using hc3)))]; rfl
  have h1 : ¬ (Rg.many long).1 ≤ n := by simpa using hc3
  rw [if_neg (by omega)]
  have hl : 1 ≤ long ∧ long ≤ 16 := by
    cases hf : Rg.fits long with
    | true => exact Rg.fits_iff.1 hf
    | false => unfold Rg.many at hm; rw [hf] at hm; cases hm
  (first
    | (refine CallI.to1 (point_any n long hl (by omega)) fun w2 => ?_)
    | (refine Branch.yes rfl ?_)
    | (refine Branch.no rfl ?_)
    | (refine Branch.mk (fun hb => ?_) (fun hb => ?_))
    | (refine NewI.mk fun nb hnb => ?_)
    | (refine Need.mk (by show _ ∧ _; omega) ?_)
    | (refine Need.mk (by omega) ?_)
    | (refine Need.mk ?_ ?_)
    | (refine EndI.mk fun w1 h1 => ?_))
  refine NewI.mk fun b2 hb2 => ?_
  refine Branch.mk (fun hc4 => ?_) (fun hc4 => ?_)
  · refine EndI.mk fun w3 h3 => ?_
    rw [if_neg (by have h4 : (Rg.point n long).2 = false := by simpa using hc4
                   rw [h4]; simp)]; rfl
  · refine EndI.mk fun w3 h3 => ?_
    rw [if_pos (by simpa using hc4)]
theorem run_neq_pt (p q : Pt) (w : World) : (binOp .neq 25 (.agg #[.int .i64 p.t.num, .int .i64 p.t.den, .int .i64 p.u.num, .int .i64 p.u.den]) (.agg #[.int .i64 q.t.num, .int .i64 q.t.den, .int .i64 q.u.num, .int .i64 q.u.den])).run Try.prog w = .ok (.bool (decide (p ≠ q))) w := by
  have u3 := Try.underlying3
  have a3 := Try.isAgg3
  have z3 := Try.sizeOf3
  have hS : Try.prog.underlying 25 = some (.struct (Try.prog.fieldsOf 25)) := by kernel_rfl
  have hp : Try.prog.stoodInHeld 25 = false := by kernel_rfl
  rw [run_neq_struct, show (10000 : Nat) = 9999 + 1 from rfl, run_equalIn_agg w 9999 25 _ _ hS hp]
  simp only [Program.fieldsOf, Try.underlying25]
  go_simp
  have hpq : p = q ↔ (p.t.num = q.t.num ∧ p.t.den = q.t.den ∧ p.u.num = q.u.num ∧ p.u.den = q.u.den) := by
    obtain ⟨⟨a, b⟩, c, d⟩ := p
    obtain ⟨⟨a', b'⟩, c', d'⟩ := q
    simp only [Pt.mk.injEq, Rt.mk.injEq, and_assoc]
  simp only [hpq]
  repeat' split
  all_goals simp_all

theorem run_neq_ptG (x y : Operand) (p q : Pt) (w : World) : (do eqGuard .neq 25 x y (.agg #[.int .i64 p.t.num, .int .i64 p.t.den, .int .i64 p.u.num, .int .i64 p.u.den]) (.agg #[.int .i64 q.t.num, .int .i64 q.t.den, .int .i64 q.u.num, .int .i64 q.u.den]); binOp .neq 25 (.agg #[.int .i64 p.t.num, .int .i64 p.t.den, .int .i64 p.u.num, .int .i64 p.u.den]) (.agg #[.int .i64 q.t.num, .int .i64 q.t.den, .int .i64 q.u.num, .int .i64 q.u.den]) : Sem Value).run Try.prog w = .ok (.bool (decide (p ≠ q))) w := by
  have hg : (eqGuard .neq 25 x y (.agg #[.int .i64 p.t.num, .int .i64 p.t.den, .int .i64 p.u.num, .int .i64 p.u.den]) (.agg #[.int .i64 q.t.num, .int .i64 q.t.den, .int .i64 q.u.num, .int .i64 q.u.den])).run Try.prog w = .ok () w := run_eqGuard_agg _ _ _ _ _ _ _ (by kernel_rfl)
  rw [Sem.run_bind, hg]
  exact run_neq_pt p q w

end Go.Proofs.Ythajkhbeehiepaa
