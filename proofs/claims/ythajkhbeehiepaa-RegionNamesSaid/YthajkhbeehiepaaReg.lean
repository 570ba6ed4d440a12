/-
  The contracts of package region: numbers and points, by the engine.
-/
import Derived.Test.YthajkhbeehiepaaPlainReg
import Derived.Test.YthajkhbeehiepaaRatS
import Derived.Laws.StructEq
namespace Go.Proofs.Ythajkhbeehiepaa
set_option linter.unusedVariables false
set_option linter.unusedSimpArgs false
set_option maxRecDepth 100000
open Go.RowKit Go.Proofs.Ythajkhbeehiepaa.Eng Enc

theorem rfloor_any (a : Rt) (ha : a.ins) (w : World) :
    Calls Try.prog 70 #[.agg #[.int .i64 a.num, .int .i64 a.den]] w fun e w' => e = .returned (.tuple #[.int .i64 (Fr.floor a).1, .bool (Fr.floor a).2.1, .int .i64 (Fr.floor a).2.2]) ∧ Below w.heap.size w w' := by
  refine fun_eq 0 w Try.func70 (args := [.agg [.val (.int .i64 a.num), .val (.int .i64 a.den)]]) rfl rfl ?_
  refine NewI.mk fun b1 hb1 => ?_
  (first
    | (refine CallI.to1 (rcheck_any a.num a.den ha.1 ha.2) fun w2 => ?_)
    | (refine Branch.yes rfl ?_)
    | (refine Branch.no rfl ?_)
    | (refine Branch.mk (fun hb => ?_) (fun hb => ?_))
    | (refine NewI.mk fun nb hnb => ?_)
    | (refine Need.mk (by show _ ∧ _; omega) ?_)
    | (refine Need.mk (by omega) ?_)
    | (refine Need.mk ?_ ?_)
    | (refine EndI.mk fun w1 h1 => ?_))
  unfold Fr.floor
  refine Branch.mk (fun hc => ?_) (fun hc => ?_)
  · refine EndI.mk fun w3 h3 => ?_
    have hno : ¬ a.ok = true := fun h => by
      have : Fr.chk a.num a.den = 0 := Fr.chk_yes h
      rw [this] at hc; cases hc
    rw [if_neg hno]
    have : Fr.chk a.num a.den = 8 := Fr.chk_no (by cases h : Fr.okB a.num a.den; rfl; exact absurd h hno)
    rw [this]
  have hok : a.ok = true := Fr.chk_eq.1 (by simpa using hc)
  have oa := Fr.ok_bd hok
  rw [if_pos hok]
  (first
    | (refine CallI.to1 (floor_any a.num a.den oa.1 ha.1 ha.2) fun w2 => ?_)
    | (refine Branch.yes rfl ?_)
    | (refine Branch.no rfl ?_)
    | (refine Branch.mk (fun hb => ?_) (fun hb => ?_))
    | (refine NewI.mk fun nb hnb => ?_)
    | (refine Need.mk (by show _ ∧ _; omega) ?_)
    | (refine Need.mk (by omega) ?_)
    | (refine Need.mk ?_ ?_)
    | (refine EndI.mk fun w1 h1 => ?_))
  exact EndI.mk fun w3 h3 => rfl

theorem fits_any (long : Int) (w : World) : Calls Try.prog 22 #[.int .i64 long] w fun e w' => e = .returned (.bool (Rg.fits long)) ∧ Below w.heap.size w w' := by
  refine fun_eq 0 w Try.func22 (args := [.val (.int .i64 long)]) rfl rfl ?_
  unfold Rg.fits
  refine Branch.mk (fun hc => ?_) (fun hc => ?_)
  · refine EndI.mk fun w3 h3 => ?_
    have : decide (1 ≤ long) = true := hc
    rw [this]; rfl
  · refine EndI.mk fun w3 h3 => ?_
    have : decide (1 ≤ long) = false := hc
    rw [this]; rfl
theorem sides_any (long : Int) (h : 1 ≤ long ∧ long ≤ 16) (w : World) : Calls Try.prog 23 #[.int .i64 long] w fun e w' => e = .returned (.int .i64 (Rg.sides long)) ∧ Below w.heap.size w w' := by
  refine fun_eq 0 w Try.func23 (args := [.val (.int .i64 long)]) rfl rfl ?_
  refine Need.mk (by simp only [inK]; omega) ?_
  refine Need.mk (by simp only [inK]; omega) ?_
  exact EndI.mk fun w3 h3 => rfl
theorem many_any (long : Int) (w : World) : Calls Try.prog 9 #[.int .i64 long] w fun e w' => e = .returned (.tuple #[.int .i64 (Rg.many long).1, .int .i64 (Rg.many long).2]) ∧ Below w.heap.size w w' := by
  refine fun_eq 0 w Try.func9 (args := [.val (.int .i64 long)]) rfl rfl ?_
  (first
    | (refine CallI.to1 (fits_any long) fun w2 => ?_)
    | (refine Branch.yes rfl ?_)
    | (refine Branch.no rfl ?_)
    | (refine Branch.mk (fun hb => ?_) (fun hb => ?_))
    | (refine NewI.mk fun nb hnb => ?_)
    | (refine Need.mk (by show _ ∧ _; omega) ?_)
    | (refine Need.mk (by omega) ?_)
    | (refine Need.mk ?_ ?_)
    | (refine EndI.mk fun w1 h1 => ?_))
  unfold Rg.many
  refine Branch.mk (fun hc => ?_) (fun hc => ?_)
  · refine EndI.mk fun w3 h3 => ?_
    have : Rg.fits long = false := by simpa using hc
    rw [if_neg (by rw [this]; simp)]
  have hf : Rg.fits long = true := by simpa using hc
  have hl := Rg.fits_iff.1 hf
  rw [if_pos hf]
  have hs : 3 ≤ Rg.sides long ∧ Rg.sides long ≤ 33 := by unfold Rg.sides; omega
  (first
    | (refine CallI.to1 (sides_any long hl) fun w2 => ?_)
    | (refine Branch.yes rfl ?_)
    | (refine Branch.no rfl ?_)
    | (refine Branch.mk (fun hb => ?_) (fun hb => ?_))
    | (refine NewI.mk fun nb hnb => ?_)
    | (refine Need.mk (by show _ ∧ _; omega) ?_)
    | (refine Need.mk (by omega) ?_)
    | (refine Need.mk ?_ ?_)
    | (refine EndI.mk fun w1 h1 => ?_))
  refine Need.mk (by simp only [inK]; omega) ?_
  (first
    | (refine CallI.to1 (sides_any long hl) fun w2 => ?_)
    | (refine Branch.yes rfl ?_)
    | (refine Branch.no rfl ?_)
    | (refine Branch.mk (fun hb => ?_) (fun hb => ?_))
    | (refine NewI.mk fun nb hnb => ?_)
    | (refine Need.mk (by show _ ∧ _; omega) ?_)
    | (refine Need.mk (by omega) ?_)
    | (refine Need.mk ?_ ?_)
    | (refine EndI.mk fun w1 h1 => ?_))
  have hm := Fr.mul_bd (u := 3 * Rg.sides long) (v := Rg.sides long) (m := 99) (n := 33) (by omega) (by omega) (by omega) (by omega)
  refine Need.mk (by simp only [inK]; omega) ?_
  exact EndI.mk fun w3 h3 => rfl
theorem place_any (a : Rt) (ha : a.ins) (w : World) :
    Calls Try.prog 46 #[.agg #[.int .i64 a.num, .int .i64 a.den]] w fun e w' => e = .returned (.tuple #[.int .i64 (Rg.place a), .agg #[.int .i64 (Rg.part a).num, .int .i64 (Rg.part a).den]]) ∧ Below w.heap.size w w' := by
  refine fun_eq 0 w Try.func46 (args := [.agg [.val (.int .i64 a.num), .val (.int .i64 a.den)]]) rfl rfl ?_
  have hb := Rg.floor_bd a
  refine NewI.mk fun b1 hb1 => ?_
  refine NewI.mk fun b2 hb2 => ?_
  (first
    | (refine CallI.to1 (rfloor_any a ha) fun w2 => ?_)
    | (refine Branch.yes rfl ?_)
    | (refine Branch.no rfl ?_)
    | (refine Branch.mk (fun hb => ?_) (fun hb => ?_))
    | (refine NewI.mk fun nb hnb => ?_)
    | (refine Need.mk (by show _ ∧ _; omega) ?_)
    | (refine Need.mk (by omega) ?_)
    | (refine Need.mk ?_ ?_)
    | (refine EndI.mk fun w1 h1 => ?_))
  refine Need.mk (by simp only [inK]; omega) ?_
  (first
    | (refine CallI.to1 (rof_any (-(Fr.floor a).1) 1 (by simp only [inK]; omega) (by simp only [inK]; omega)) fun w2 => ?_)
    | (refine Branch.yes rfl ?_)
    | (refine Branch.no rfl ?_)
    | (refine Branch.mk (fun hb => ?_) (fun hb => ?_))
    | (refine NewI.mk fun nb hnb => ?_)
    | (refine Need.mk (by show _ ∧ _; omega) ?_)
    | (refine Need.mk (by omega) ?_)
    | (refine Need.mk ?_ ?_)
    | (refine EndI.mk fun w1 h1 => ?_))
  refine NewI.mk fun b3 hb3 => ?_
  (first
    | (refine CallI.to1 (radd_any a (Fr.of (-(Fr.floor a).1) 1).1 ha (Fr.of_ins (by simp only [inK]; omega))) fun w2 => ?_)
    | (refine Branch.yes rfl ?_)
    | (refine Branch.no rfl ?_)
    | (refine Branch.mk (fun hb => ?_) (fun hb => ?_))
    | (refine NewI.mk fun nb hnb => ?_)
    | (refine Need.mk (by show _ ∧ _; omega) ?_)
    | (refine Need.mk (by omega) ?_)
    | (refine Need.mk ?_ ?_)
    | (refine EndI.mk fun w1 h1 => ?_))
  refine NewI.mk fun b4 hb4 => ?_
  unfold Rg.place Rg.part
  refine Branch.mk (fun hc => ?_) (fun hc => ?_)
  · rw [if_pos (by simpa using hc)]
    refine DrawI.wr (.tk 0 (.tk 1 (.tk 2 (.tk 3 (.ev 4 .done))))) [1] [] (by kernel_rfl) rfl (by simp) fun w5 h5 => ?_
    refine Need.mk (by simp only [inK]; omega) ?_
    exact EndI.mk fun w3 h3 => rfl
  · rw [if_neg (by simpa using hc)]
    refine DrawI.wr (.tk 0 (.tk 1 (.tk 2 (.tk 3 (.tk 4 (.ev 5 .done)))))) [1] [] (by kernel_rfl) rfl (by simp) fun w5 h5 => ?_
    refine Need.mk (by simp only [inK]; omega) ?_
    refine Need.mk (by simp only [inK]; omega) ?_
    exact EndI.mk fun w3 h3 => rfl
theorem number_any (p : Pt) (long : Int) (hp : p.ins) (hl : 1 ≤ long ∧ long ≤ 16) (w : World) :
    Calls Try.prog 25 #[.agg #[.int .i64 p.t.num, .int .i64 p.t.den, .int .i64 p.u.num, .int .i64 p.u.den], .int .i64 long] w fun e w' => e = .returned (.int .i64 (Rg.number p long)) ∧ Below w.heap.size w w' := by
  refine fun_eq 0 w Try.func25 (args := [.agg [.val (.int .i64 p.t.num), .val (.int .i64 p.t.den), .val (.int .i64 p.u.num), .val (.int .i64 p.u.den)], .val (.int .i64 long)]) rfl rfl ?_
  refine NewI.mk fun b1 hb1 => ?_
  (first
    | (refine CallI.to1 (place_any p.t hp.1) fun w2 => ?_)
    | (refine Branch.yes rfl ?_)
    | (refine Branch.no rfl ?_)
    | (refine Branch.mk (fun hb => ?_) (fun hb => ?_))
    | (refine NewI.mk fun nb hnb => ?_)
    | (refine Need.mk (by show _ ∧ _; omega) ?_)
    | (refine Need.mk (by omega) ?_)
    | (refine Need.mk ?_ ?_)
    | (refine EndI.mk fun w1 h1 => ?_))
  refine NewI.mk fun b2 hb2 => ?_
  (first
    | (refine CallI.to1 (place_any p.u hp.2) fun w2 => ?_)
    | (refine Branch.yes rfl ?_)
    | (refine Branch.no rfl ?_)
    | (refine Branch.mk (fun hb => ?_) (fun hb => ?_))
    | (refine NewI.mk fun nb hnb => ?_)
    | (refine Need.mk (by show _ ∧ _; omega) ?_)
    | (refine Need.mk (by omega) ?_)
    | (refine Need.mk ?_ ?_)
    | (refine EndI.mk fun w1 h1 => ?_))
  refine NewI.mk fun b3 hb3 => ?_
  (first
    | (refine CallI.to1 (rcmp_any p.t p.u hp.1 hp.2) fun w2 => ?_)
    | (refine Branch.yes rfl ?_)
    | (refine Branch.no rfl ?_)
    | (refine Branch.mk (fun hb => ?_) (fun hb => ?_))
    | (refine NewI.mk fun nb hnb => ?_)
    | (refine Need.mk (by show _ ∧ _; omega) ?_)
    | (refine Need.mk (by omega) ?_)
    | (refine Need.mk ?_ ?_)
    | (refine EndI.mk fun w1 h1 => ?_))
  unfold Rg.number
  refine Branch.mk (fun hc => ?_) (fun hc => ?_)
  · refine EndI.mk fun w3 h3 => ?_
    rw [if_pos (.inl (by simpa using hc))]
  have hcmp : (Fr.cmp p.t p.u).1 < 0 := by have : ¬ 0 ≤ (Fr.cmp p.t p.u).1 := by simpa using hc
                                           omega
  refine Branch.mk (fun hc2 => ?_) (fun hc2 => ?_)
  · refine EndI.mk fun w3 h3 => ?_
    rw [if_pos (.inr (.inl (by simpa using hc2)))]
  have ht : ¬ Rg.place p.t < 0 := by simpa using hc2
  (first
    | (refine CallI.to1 (sides_any long hl) fun w2 => ?_)
    | (refine Branch.yes rfl ?_)
    | (refine Branch.no rfl ?_)
    | (refine Branch.mk (fun hb => ?_) (fun hb => ?_))
    | (refine NewI.mk fun nb hnb => ?_)
    | (refine Need.mk (by show _ ∧ _; omega) ?_)
    | (refine Need.mk (by omega) ?_)
    | (refine Need.mk ?_ ?_)
    | (refine EndI.mk fun w1 h1 => ?_))
  refine Branch.mk (fun hc3 => ?_) (fun hc3 => ?_)
  · refine EndI.mk fun w3 h3 => ?_
    rw [if_pos (.inr (.inr (by simpa using hc3)))]
  have hu : ¬ Rg.sides long ≤ Rg.place p.u := by simpa using hc3
  rw [if_neg (by omega)]
  have hpb := Rg.place_bd hcmp
  have hs : 3 ≤ Rg.sides long ∧ Rg.sides long ≤ 33 := by unfold Rg.sides; omega
  have hm := Fr.mul_bd (u := Rg.place p.t) (v := Rg.sides long) (m := 33) (n := 33) (by omega) (by omega) (by omega) (by omega)
  have hcc := Fr.cmp_cases (Rg.part p.t) (Rg.part p.u)
  unfold Rg.order
  refine Branch.mk (fun hc4 => ?_) (fun hc4 => ?_)
  · have ho : Rg.place p.t % 2 = 1 ∧ Rg.place p.u % 2 = 1 := (i64_and_odd _ _).1 (by simpa using hc4)
    rw [if_pos ho]
    (first
      | (refine CallI.to1 (rcmp_any (Rg.part p.t) (Rg.part p.u) (Rg.part_ins _) (Rg.part_ins _)) fun w2 => ?_)
      | (refine Branch.yes rfl ?_)
      | (refine Branch.no rfl ?_)
      | (refine Branch.mk (fun hb => ?_) (fun hb => ?_))
      | (refine NewI.mk fun nb hnb => ?_)
      | (refine Need.mk (by show _ ∧ _; omega) ?_)
      | (refine Need.mk (by omega) ?_)
      | (refine Need.mk ?_ ?_)
      | (refine EndI.mk fun w1 h1 => ?_))
    refine Need.mk (by simp only [inK]; omega) ?_
    (first
      | (refine CallI.to1 (sides_any long hl) fun w2 => ?_)
      | (refine Branch.yes rfl ?_)
      | (refine Branch.no rfl ?_)
      | (refine Branch.mk (fun hb => ?_) (fun hb => ?_))
      | (refine NewI.mk fun nb hnb => ?_)
      | (refine Need.mk (by show _ ∧ _; omega) ?_)
      | (refine Need.mk (by omega) ?_)
      | (refine Need.mk ?_ ?_)
      | (refine EndI.mk fun w1 h1 => ?_))
    refine Need.mk (by simp only [inK]; omega) ?_
    refine Need.mk (by simp only [inK]; omega) ?_
    refine Need.mk (by simp only [inK]; omega) ?_
    refine Need.mk (by simp only [inK]; omega) ?_
    exact EndI.mk fun w3 h3 => rfl
  · have ho : ¬ (Rg.place p.t % 2 = 1 ∧ Rg.place p.u % 2 = 1) := fun h => by
      have := (i64_and_odd _ _).2 h
      have h2 : ¬ bits .and .i64 (bits .and .i64 (Rg.place p.t) (Rg.place p.u)) 1 = 1 := by simpa using hc4
      exact h2 this
    rw [if_neg ho]
    (first
      | (refine CallI.to1 (sides_any long hl) fun w2 => ?_)
      | (refine Branch.yes rfl ?_)
      | (refine Branch.no rfl ?_)
      | (refine Branch.mk (fun hb => ?_) (fun hb => ?_))
      | (refine NewI.mk fun nb hnb => ?_)
      | (refine Need.mk (by show _ ∧ _; omega) ?_)
      | (refine Need.mk (by omega) ?_)
      | (refine Need.mk ?_ ?_)
      | (refine EndI.mk fun w1 h1 => ?_))
    refine Need.mk (by simp only [inK]; omega) ?_
    refine Need.mk (by simp only [inK]; omega) ?_
    refine Need.mk (by simp only [inK]; omega) ?_
    refine Need.mk (by simp only [inK]; omega) ?_
    exact EndI.mk fun w3 h3 => rfl
theorem rnumber_any (p : Pt) (long : Int) (hp : p.ins) (w : World) :
    Calls Try.prog 10 #[.agg #[.int .i64 p.t.num, .int .i64 p.t.den, .int .i64 p.u.num, .int .i64 p.u.den], .int .i64 long] w fun e w' => e = .returned (.tuple #[.int .i64 (Rg.askNumber p long).1, .int .i64 (Rg.askNumber p long).2]) ∧ Below w.heap.size w w' := by
  refine fun_eq 0 w Try.func10 (args := [.agg [.val (.int .i64 p.t.num), .val (.int .i64 p.t.den), .val (.int .i64 p.u.num), .val (.int .i64 p.u.den)], .val (.int .i64 long)]) rfl rfl ?_
  refine NewI.mk fun b1 hb1 => ?_
  (first
    | (refine CallI.to1 (fits_any long) fun w2 => ?_)
    | (refine Branch.yes rfl ?_)
    | (refine Branch.no rfl ?_)
    | (refine Branch.mk (fun hb => ?_) (fun hb => ?_))
    | (refine NewI.mk fun nb hnb => ?_)
    | (refine Need.mk (by show _ ∧ _; omega) ?_)
    | (refine Need.mk (by omega) ?_)
    | (refine Need.mk ?_ ?_)
    | (refine EndI.mk fun w1 h1 => ?_))
  unfold Rg.askNumber
  refine Branch.mk (fun hc => ?_) (fun hc => ?_)
  · refine EndI.mk fun w3 h3 => ?_
    have : Rg.fits long = false := by simpa using hc
    rw [if_neg (by rw [this]; simp)]
  have hf : Rg.fits long = true := by simpa using hc
  rw [if_pos hf]
  have okc : ∀ (a : Rt), Fr.chk a.num a.den = 0 ↔ a.ok = true := fun a => Fr.chk_eq
  (first
    | (refine CallI.to1 (rcheck_any p.t.num p.t.den hp.1.1 hp.1.2) fun w2 => ?_)
    | (refine Branch.yes rfl ?_)
    | (refine Branch.no rfl ?_)
    | (refine Branch.mk (fun hb => ?_) (fun hb => ?_))
    | (refine NewI.mk fun nb hnb => ?_)
    | (refine Need.mk (by show _ ∧ _; omega) ?_)
    | (refine Need.mk (by omega) ?_)
    | (refine Need.mk ?_ ?_)
    | (refine EndI.mk fun w1 h1 => ?_))
  refine Branch.mk (fun hc2 => ?_) (fun hc2 => ?_)
  · refine EndI.mk fun w3 h3 => ?_
    rw [if_neg (fun h => by rw [(okc _).2 h.1] at hc2; cases hc2)]
  (first
    | (refine CallI.to1 (rcheck_any p.u.num p.u.den hp.2.1 hp.2.2) fun w2 => ?_)
    | (refine Branch.yes rfl ?_)
    | (refine Branch.no rfl ?_)
    | (refine Branch.mk (fun hb => ?_) (fun hb => ?_))
    | (refine NewI.mk fun nb hnb => ?_)
    | (refine Need.mk (by show _ ∧ _; omega) ?_)
    | (refine Need.mk (by omega) ?_)
    | (refine Need.mk ?_ ?_)
    | (refine EndI.mk fun w1 h1 => ?_))
  refine Branch.mk (fun hc3 => ?_) (fun hc3 => ?_)
  · refine EndI.mk fun w3 h3 => ?_
    rw [if_neg (fun h => by rw [(okc _).2 h.2] at hc3; cases hc3)]
  rw [if_pos ⟨(okc _).1 (by simpa using hc2), (okc _).1 (by simpa using hc3)⟩]
  (first
    | (refine CallI.to1 (number_any p long hp (Rg.fits_iff.1 hf)) fun w2 => ?_)
    | (refine Branch.yes rfl ?_)
    | (refine Branch.no rfl ?_)
    | (refine Branch.mk (fun hb => ?_) (fun hb => ?_))
    | (refine NewI.mk fun nb hnb => ?_)
    | (refine Need.mk (by show _ ∧ _; omega) ?_)
    | (refine Need.mk (by omega) ?_)
    | (refine Need.mk ?_ ?_)
    | (refine EndI.mk fun w1 h1 => ?_))
  refine Branch.mk (fun hc4 => ?_) (fun hc4 => ?_)
  · refine EndI.mk fun w3 h3 => ?_
    rw [if_pos (by simpa using hc4)]
  · refine EndI.mk fun w3 h3 => ?_
    rw [if_neg (by simpa using hc4)]
theorem time_any (pl pa of_ : Int) (h : 0 ≤ pl ∧ pl ≤ 1000) (hp : 0 ≤ pa ∧ pa ≤ 10) (ho : 1 ≤ of_ ∧ of_ ≤ 10) (w : World) :
    Calls Try.prog 42 #[.int .i64 pl, .int .i64 pa, .int .i64 of_] w fun e w' => e = .returned (.agg #[.int .i64 (Rg.time pl pa of_).num, .int .i64 (Rg.time pl pa of_).den]) ∧ Below w.heap.size w w' := by
  refine fun_eq 0 w Try.func42 (args := [.val (.int .i64 pl), .val (.int .i64 pa), .val (.int .i64 of_)]) rfl rfl ?_
  have hm := Fr.mul_bd (u := pl / 2) (v := of_) (m := 1000) (n := 10) (by omega) (by omega) (by omega) (by omega)
  have e2 : pl.tdiv 2 = pl / 2 := Int.tdiv_eq_ediv_of_nonneg h.1
  refine NewI.mk fun b1 hb1 => ?_
  unfold Rg.time
  refine Branch.mk (fun hc => ?_) (fun hc => ?_)
  · have he : pl % 2 = 0 := by rw [← i64_and1]; simpa using hc
    rw [if_pos he]
    refine Need.mk ⟨by decide, by show inK .i64 (pl.tdiv 2); rw [e2]; simp only [inK]; omega⟩ ?_
    refine Need.mk (by show inK .i64 (pl.tdiv 2 * 1); rw [e2]; simp only [inK]; omega) ?_
    refine Need.mk (by show inK .i64 (pl.tdiv 2 * 1 + 0); rw [e2]; simp only [inK]; omega) ?_
    conv => whnf
    rw [show pl.tdiv 2 * 1 + 0 = pl / 2 by rw [e2]; omega]
    (first
      | (refine CallI.to1 (rof_any (pl / 2) 1 (by simp only [inK]; omega) (by simp only [inK]; omega)) fun w2 => ?_)
      | (refine Branch.yes rfl ?_)
      | (refine Branch.no rfl ?_)
      | (refine Branch.mk (fun hb => ?_) (fun hb => ?_))
      | (refine NewI.mk fun nb hnb => ?_)
      | (refine Need.mk (by show _ ∧ _; omega) ?_)
      | (refine Need.mk (by omega) ?_)
      | (refine Need.mk ?_ ?_)
      | (refine EndI.mk fun w1 h1 => ?_))
    refine NewI.mk fun b2 hb2 => ?_
    exact EndI.mk fun w3 h3 => rfl
  · have he : ¬ pl % 2 = 0 := by rw [← i64_and1]; simpa using hc
    rw [if_neg he]
    refine Need.mk ⟨by decide, by show inK .i64 (pl.tdiv 2); rw [e2]; simp only [inK]; omega⟩ ?_
    refine Need.mk (by show inK .i64 (pl.tdiv 2 * of_); rw [e2]; simp only [inK]; omega) ?_
    refine Need.mk (by show inK .i64 (pl.tdiv 2 * of_ + pa); rw [e2]; simp only [inK]; omega) ?_
    conv => whnf
    rw [show pl.tdiv 2 * of_ + pa = pl / 2 * of_ + pa by rw [e2]]
    (first
      | (refine CallI.to1 (rof_any (pl / 2 * of_ + pa) of_ (by simp only [inK]; omega) (by simp only [inK]; omega)) fun w2 => ?_)
      | (refine Branch.yes rfl ?_)
      | (refine Branch.no rfl ?_)
      | (refine Branch.mk (fun hb => ?_) (fun hb => ?_))
      | (refine NewI.mk fun nb hnb => ?_)
      | (refine Need.mk (by show _ ∧ _; omega) ?_)
      | (refine Need.mk (by omega) ?_)
      | (refine Need.mk ?_ ?_)
      | (refine EndI.mk fun w1 h1 => ?_))
    refine NewI.mk fun b2 hb2 => ?_
    exact EndI.mk fun w3 h3 => rfl
end Go.Proofs.Ythajkhbeehiepaa
