/-
  The walk of rallentandolaw07.ProjGrows, by the engine.
-/
import Derived.Test.YtnhfkodjphplfaaAlive07
import Derived.Test.YtnhfkodjphplfaaPlainGrow
import Derived.Test.YtnhfkodjphplfaaKeeps
import Derived.Test.YtnhfkodjphplfaaSl2
namespace Go.Proofs.Ytnhfkodjphplfaa
set_option linter.unusedVariables false
set_option linter.unusedSimpArgs false
set_option maxRecDepth 100000
open Go.RowKit Go.Proofs.Ytnhfkodjphplfaa.Eng Enc

theorem below_grown {n : Nat} {W w1 w2 : World} {row : Option Nat} (hB : Below n W w1) (hg : w1.grownBy w2 row) (hr : ∀ k, row = some k → n ≤ k) (hn : n ≤ w1.heap.size) : Below n W w2 :=
  ⟨hg.os.trans hB.os, hg.tape.trans hB.tape, hg.output.trans hB.output, Nat.le_trans hB.size hg.size, fun k hk => (hg.block k (Nat.lt_of_lt_of_le hk hn) (fun e => absurd (hr k e.symm) (Nat.not_le.2 hk))).trans (hB.block k hk)⟩
theorem projGrows_walk (n : Int) (a : Option Addr) (cap : Nat) (L : List Int) (T : List Rt) (at_ : Option Addr) (ct : Nat) (m : Rt) (hT : ∀ x ∈ T, x.ins) (hm : m.ins) (w : World) (hS : Sl w.heap.size w (.slice a L.length cap) L) (hST : Sl w.heap.size w (.slice at_ T.length ct) T) :
    Calls Try.prog 4 #[.agg #[.int .i64 n, .slice a L.length cap], .slice at_ T.length ct, .agg #[.int .i64 m.num, .int .i64 m.den]] w fun e w' => e = .returned (.bool true) ∧ Below w.heap.size w w' := by
  refine fun_eq 0 w Try.func4 (args := [.agg [.val (.int .i64 n), .val (.slice a L.length cap)], .val (.slice at_ T.length ct), .agg [.val (.int .i64 m.num), .val (.int .i64 m.den)]]) rfl rfl ?_
  refine NewI.mk fun b1 hb1 => ?_
  refine NewI.mk fun b2 hb2 => ?_
  apply CallI.use1
  · exact fun w1 h1 => alive07_any w1
  intro w1 w2 h1 hB2
  refine Branch.mk (fun hc => ?_) (fun hc => ?_)
  · exact EndI.mk fun _ _ => rfl
  refine Branch.mk (fun hc' => ?_) (fun hc' => ?_)
  · exact EndI.mk fun _ _ => rfl
  have hTl : T.length ≤ 100 := by simp only [decide_eq_false_iff_not] at hc'; omega
  refine Branch.no rfl ?_
  apply CallI.use
  · exact fun w3 h3 => grow_any n a cap L w3 (Sl.at h3 hS)
  rintro v w3 w4 h3 hB4 ⟨a1, c1, rfl, hF1⟩
  have hw4 : Below w.heap.size w w4 := h3.below.trans (hB4.mono h3.below.size)
  refine NewI.mk fun b3 hb3 => ?_
  refine Branch.mk (fun hc1 => ?_) (fun hc1 => ?_)
  · refine EndI.mk fun w5 h5 => ?_
    rw [Proj.grow_err (by simpa using hc1)]; rfl
  have hg : (Proj.grow n L).2.2 = 0 := by simpa using hc1
  have L3 : ∀ b, b ∈ [b3] → w4.heap.size ≤ b := by intro b hb; simp at hb; subst hb; exact hb3
  apply CallI.use
  · exact fun w5 h5 => drop_any _ a1 c1 _ n w5 ((hF1.sl).go (h5.from hw4 (Below.refl _ _) L3) (h5.from hw4 (Below.refl _ _) L3).size)
  rintro v w5 w6 h5 hB6 ⟨a2, c2, rfl, hF2⟩
  have k6 := h5.next hw4 (Below.refl _ _) L3 hB6
  have hw6 : Below w.heap.size w w6 := h5.below.trans (hB6.mono h5.below.size)
  refine NewI.mk fun b4 hb4 => ?_
  apply CallI.use
  · exact fun w7 h7 => close_any n a cap L w7 (Sl.at h7 hS)
  rintro v w7 w8 h7 hB8 ⟨a3, c3, rfl, hF3⟩
  have L4 : ∀ b, b ∈ [b4] → w6.heap.size ≤ b := by intro b hb; simp at hb; subst hb; exact hb4
  have L4' : ∀ b, b ∈ [b4] → w4.heap.size ≤ b := fun b hb => Nat.le_trans k6.size (L4 b hb)
  have m8 := h7.next hw6 (Below.refl _ _) L4 hB8
  have k8 := h7.next hw4 k6 L4' hB8
  have hw8 : Below w.heap.size w w8 := h7.below.trans (hB8.mono h7.below.size)
  refine NewI.mk fun b5 hb5 => ?_
  have L5 : ∀ b, b ∈ [b5] → w8.heap.size ≤ b := by intro b hb; simp at hb; subst hb; exact hb5
  have L5' : ∀ b, b ∈ [b5] → w6.heap.size ≤ b := fun b hb => Nat.le_trans m8.size (L5 b hb)
  have L5'' : ∀ b, b ∈ [b5] → w4.heap.size ≤ b := fun b hb => Nat.le_trans k8.size (L5 b hb)
  have hgd := Proj.grow_drop hg
  refine Branch.no (by rw [hgd]; simp) ?_
  apply CallI.use1
  · exact fun w9 h9 => same04_any _ _ _ _ a2 a3 c2 c3 w9 ((hF2.sl).go (h9.from hw6 m8 L5') (h9.from hw6 m8 L5').size) ((hF3.sl).go (h9.from hw8 (Below.refl _ _) L5) (h9.from hw8 (Below.refl _ _) L5).size)
  intro w9 w10 h9 hB10
  have k10 := h9.next hw4 k8 L5'' hB10
  refine Branch.no (by rw [hgd]; simp [sameB]) ?_
  apply CallI.use
  · exact fun w11 h11 => dkeeps_any n a cap L T at_ ct w11 hT (Sl.at h11 hS) (Sl.at h11 hST)
  rintro v w11 w12 h11 hB12 rfl
  have k12 := h11.next hw4 k10 (by simp) hB12
  have hw12 : Below w.heap.size w w12 := h11.below.trans (hB12.mono h11.below.size)
  refine DrawI.go (.tk 0 (.tk 2 (.tk 4 (.two 1 (.two 3 (.ev 5 (.ev 6 (.ev 7 (.tk 8 (.tk 9 (.tk 10 (.tk 11 (.tk 12 .done)))))))) 5 (.ev 3 (.ev 6 (.ev 7 (.tk 8 (.tk 9 (.tk 10 (.tk 11 (.tk 12 .done))))))))) 5 (.ev 1 (.ev 3 (.ev 6 (.ev 7 (.tk 8 (.tk 9 (.tk 10 (.tk 11 (.tk 12 .done))))))))))))) (by kernel_rfl) fun w13 h13 => ?_
  have B13 := h13.from hw4 k12 (by simp)
  have hTm : ∀ x ∈ T ++ [m], x.ins := by
    intro x hx
    rcases List.mem_append.1 hx with h | h
    · exact hT x h
    · rw [List.mem_singleton.1 h]; exact hm
  have fin : ∀ (g : Bool × Int), g = Dbm.keeps (Proj.grow n L).1 (Proj.grow n L).2.1 (T ++ [m]) → (Dbm.keeps n L T).2 = 0 → g.2 = 0 → (Dbm.keeps n L T).1 = g.1 := fun g e h1 h2 => by
    subst e
    exact Proj.grow_keeps hg h1 h2
  have B13w : Below w.heap.size w w13 := h13.below
  by_cases hT0 : T = []
  · subst hT0
    refine Both.mk ?_ ?_
    · refine NewI.mk fun b6 hb6 => ?_
      refine Both.mk ?_ ?_
      · refine GenN.appNil (α := Rt) elR (fun w14 h14 => by exact (Sl.at h14 hST).src) fun w14 h14 => ?_
        refine NewI.mk fun b7 hb7 => ?_
        refine GenN.appF (α := Rt) elR [] [m] w.heap.size rfl (fun w15 h15 => Own.own (l := ([] : List Rt)) h15 5 rfl rfl rfl (Nat.le_trans B13w.size hb6)) (fun w15 h15 => src_own h15 6 rfl rfl rfl rfl) (by unfold maxLen; simp) (by simp) (fun w15 h15 => h15.below.size) ?_
        intro v w15 w16 h15 hB16 hO
        obtain ⟨av, cv, rfl⟩ := hO.form
        have hb7' : w4.heap.size ≤ b7 := Nat.le_trans (B13.size) (Nat.le_trans h14.size hb7)
        have E16 : Below w4.heap.size w4 w16 := (h15.from hw4 (h14.from hw4 B13 (by first | (simp; done) | (intro b hb; simp only [List.mem_cons, List.not_mem_nil, or_false] at hb; have := B13.size; have h6 : w13.heap.size ≤ b6 := hb6; have h7 : w4.heap.size ≤ b7 := hb7'; omega))) (by first | (simp; done) | (intro b hb; simp only [List.mem_cons, List.not_mem_nil, or_false] at hb; have := B13.size; have h6 : w13.heap.size ≤ b6 := hb6; have h7 : w4.heap.size ≤ b7 := hb7'; omega))).trans (hB16.mono (h15.from hw4 (h14.from hw4 B13 (by first | (simp; done) | (intro b hb; simp only [List.mem_cons, List.not_mem_nil, or_false] at hb; have := B13.size; have h6 : w13.heap.size ≤ b6 := hb6; have h7 : w4.heap.size ≤ b7 := hb7'; omega))) (by first | (simp; done) | (intro b hb; simp only [List.mem_cons, List.not_mem_nil, or_false] at hb; have := B13.size; have h6 : w13.heap.size ≤ b6 := hb6; have h7 : w4.heap.size ≤ b7 := hb7'; omega))).size)
        have hSO : Sl w16.heap.size w16 (.slice av ([m] : List Rt).length cv) [m] := hO.sl
        apply CallI.use
        · exact fun w18 h18 => dkeeps_any _ a1 c1 _ [m] av cv w18 hTm ((hF1.sl).go (h18.from hw4 E16 (by first | (simp; done) | (intro b hb; simp only [List.mem_cons, List.not_mem_nil, or_false] at hb; have := B13.size; have h6 : w13.heap.size ≤ b6 := hb6; have h7 : w4.heap.size ≤ b7 := hb7'; omega))) (h18.from hw4 E16 (by first | (simp; done) | (intro b hb; simp only [List.mem_cons, List.not_mem_nil, or_false] at hb; have := B13.size; have h6 : w13.heap.size ≤ b6 := hb6; have h7 : w4.heap.size ≤ b7 := hb7'; omega))).size) (hSO.go h18.go h18.go.size)
        rintro v w18 w19 h18 hB19 rfl
        refine Branch.mk (fun e1 => ?_) (fun e1 => ?_)
        · exact EndI.mk fun _ _ => rfl
        refine Branch.mk (fun e2 => ?_) (fun e2 => ?_)
        · exact EndI.mk fun _ _ => rfl
        refine EndI.mk fun _ _ => ?_
        rw [show (Dbm.keeps n L _).1 = _ from fin _ rfl (by simpa using e1) (by simpa using e2)]
        simp
      · refine NewI.mk fun b7 hb7 => ?_
        refine GenN.appNil (α := Rt) elR (fun w14 h14 => by exact (Sl.at h14 hST).src) fun w14 h14 => ?_
        refine GenN.appF (α := Rt) elR [] [m] w.heap.size rfl (fun w15 h15 => Own.own (l := ([] : List Rt)) h15 5 rfl rfl rfl (Nat.le_trans B13w.size hb6)) (fun w15 h15 => src_own h15 6 rfl rfl rfl rfl) (by unfold maxLen; simp) (by simp) (fun w15 h15 => h15.below.size) ?_
        intro v w15 w16 h15 hB16 hO
        obtain ⟨av, cv, rfl⟩ := hO.form
        have hb7' : w4.heap.size ≤ b7 := Nat.le_trans (B13.size) hb7
        have E16 : Below w4.heap.size w4 w16 := (h15.from hw4 (h14.from hw4 B13 (by first | (simp; done) | (intro b hb; simp only [List.mem_cons, List.not_mem_nil, or_false] at hb; have := B13.size; have h6 : w13.heap.size ≤ b6 := hb6; have h7 : w4.heap.size ≤ b7 := hb7'; omega))) (by first | (simp; done) | (intro b hb; simp only [List.mem_cons, List.not_mem_nil, or_false] at hb; have := B13.size; have h6 : w13.heap.size ≤ b6 := hb6; have h7 : w4.heap.size ≤ b7 := hb7'; omega))).trans (hB16.mono (h15.from hw4 (h14.from hw4 B13 (by first | (simp; done) | (intro b hb; simp only [List.mem_cons, List.not_mem_nil, or_false] at hb; have := B13.size; have h6 : w13.heap.size ≤ b6 := hb6; have h7 : w4.heap.size ≤ b7 := hb7'; omega))) (by first | (simp; done) | (intro b hb; simp only [List.mem_cons, List.not_mem_nil, or_false] at hb; have := B13.size; have h6 : w13.heap.size ≤ b6 := hb6; have h7 : w4.heap.size ≤ b7 := hb7'; omega))).size)
        have hSO : Sl w16.heap.size w16 (.slice av ([m] : List Rt).length cv) [m] := hO.sl
        apply CallI.use
        · exact fun w18 h18 => dkeeps_any _ a1 c1 _ [m] av cv w18 hTm ((hF1.sl).go (h18.from hw4 E16 (by first | (simp; done) | (intro b hb; simp only [List.mem_cons, List.not_mem_nil, or_false] at hb; have := B13.size; have h6 : w13.heap.size ≤ b6 := hb6; have h7 : w4.heap.size ≤ b7 := hb7'; omega))) (h18.from hw4 E16 (by first | (simp; done) | (intro b hb; simp only [List.mem_cons, List.not_mem_nil, or_false] at hb; have := B13.size; have h6 : w13.heap.size ≤ b6 := hb6; have h7 : w4.heap.size ≤ b7 := hb7'; omega))).size) (hSO.go h18.go h18.go.size)
        rintro v w18 w19 h18 hB19 rfl
        refine Branch.mk (fun e1 => ?_) (fun e1 => ?_)
        · exact EndI.mk fun _ _ => rfl
        refine Branch.mk (fun e2 => ?_) (fun e2 => ?_)
        · exact EndI.mk fun _ _ => rfl
        refine EndI.mk fun _ _ => ?_
        rw [show (Dbm.keeps n L _).1 = _ from fin _ rfl (by simpa using e1) (by simpa using e2)]
        simp
    · refine NewI.mk fun b7 hb7 => ?_
      refine NewI.mk fun b6 hb6 => ?_
      refine GenN.appNil (α := Rt) elR (fun w14 h14 => by exact (Sl.at h14 hST).src) fun w14 h14 => ?_
      refine GenN.appF (α := Rt) elR [] [m] w.heap.size rfl (fun w15 h15 => Own.own (l := ([] : List Rt)) h15 6 rfl rfl rfl (Nat.le_trans B13w.size hb6)) (fun w15 h15 => src_own h15 5 rfl rfl rfl rfl) (by unfold maxLen; simp) (by simp) (fun w15 h15 => h15.below.size) ?_
      intro v w15 w16 h15 hB16 hO
      obtain ⟨av, cv, rfl⟩ := hO.form
      have hb7' : w4.heap.size ≤ b7 := Nat.le_trans (B13.size) hb7
      have E16 : Below w4.heap.size w4 w16 := (h15.from hw4 (h14.from hw4 B13 (by first | (simp; done) | (intro b hb; simp only [List.mem_cons, List.not_mem_nil, or_false] at hb; have := B13.size; have h6 : w13.heap.size ≤ b6 := hb6; have h7 : w4.heap.size ≤ b7 := hb7'; omega))) (by first | (simp; done) | (intro b hb; simp only [List.mem_cons, List.not_mem_nil, or_false] at hb; have := B13.size; have h6 : w13.heap.size ≤ b6 := hb6; have h7 : w4.heap.size ≤ b7 := hb7'; omega))).trans (hB16.mono (h15.from hw4 (h14.from hw4 B13 (by first | (simp; done) | (intro b hb; simp only [List.mem_cons, List.not_mem_nil, or_false] at hb; have := B13.size; have h6 : w13.heap.size ≤ b6 := hb6; have h7 : w4.heap.size ≤ b7 := hb7'; omega))) (by first | (simp; done) | (intro b hb; simp only [List.mem_cons, List.not_mem_nil, or_false] at hb; have := B13.size; have h6 : w13.heap.size ≤ b6 := hb6; have h7 : w4.heap.size ≤ b7 := hb7'; omega))).size)
      have hSO : Sl w16.heap.size w16 (.slice av ([m] : List Rt).length cv) [m] := hO.sl
      apply CallI.use
      · exact fun w18 h18 => dkeeps_any _ a1 c1 _ [m] av cv w18 hTm ((hF1.sl).go (h18.from hw4 E16 (by first | (simp; done) | (intro b hb; simp only [List.mem_cons, List.not_mem_nil, or_false] at hb; have := B13.size; have h6 : w13.heap.size ≤ b6 := hb6; have h7 : w4.heap.size ≤ b7 := hb7'; omega))) (h18.from hw4 E16 (by first | (simp; done) | (intro b hb; simp only [List.mem_cons, List.not_mem_nil, or_false] at hb; have := B13.size; have h6 : w13.heap.size ≤ b6 := hb6; have h7 : w4.heap.size ≤ b7 := hb7'; omega))).size) (hSO.go h18.go h18.go.size)
      rintro v w18 w19 h18 hB19 rfl
      refine Branch.mk (fun e1 => ?_) (fun e1 => ?_)
      · exact EndI.mk fun _ _ => rfl
      refine Branch.mk (fun e2 => ?_) (fun e2 => ?_)
      · exact EndI.mk fun _ _ => rfl
      refine EndI.mk fun _ _ => ?_
      rw [show (Dbm.keeps n L _).1 = _ from fin _ rfl (by simpa using e1) (by simpa using e2)]
      simp
  · refine Both.mk ?_ ?_
    · refine NewI.mk fun b6 hb6 => ?_
      refine Both.mk ?_ ?_
      · refine GenN.appN (α := Rt) elR [] T w.heap.size rfl (fun w14 h14 => Own.own (l := ([] : List Rt)) h14 5 rfl rfl rfl (Nat.le_trans B13w.size hb6)) (fun w14 h14 => by exact (Sl.at h14 hST).src) hT0 (by unfold maxLen; simp; omega) (by simp; omega) ?_
        intro v w14 w15 h14 hB15 hO
        have hw15 : Below w.heap.size w w15 := h14.below.trans (hB15.mono h14.below.size)
        refine NewI.mk fun b7 hb7 => ?_
        have hL7 : ∀ b, b ∈ [b7] → w15.heap.size ≤ b := by intro b hb; simp at hb; subst hb; exact hb7
        have hr : ∀ k, v.ownBlock = some k → w.heap.size ≤ k ∧ k ∉ [b1, b2, b3, b4, b5, b6, b7] ∧ (k ∈ ([] : List Nat) ∨ w13.heap.size ≤ k) := by
          intro k hk
          have hlt := hO.lt k hk
          refine ⟨Nat.le_trans h14.below.size hlt.1, fun hm => ?_, .inr (Nat.le_trans h14.size hlt.1)⟩
          have l1 := h14.lt b1 (by simp)
          have l2 := h14.lt b2 (by simp)
          have l3 := h14.lt b3 (by simp)
          have l4 := h14.lt b4 (by simp)
          have l5 := h14.lt b5 (by simp)
          have l6 := h14.lt b6 (by simp)
          simp only [List.mem_cons, List.not_mem_nil, or_false] at hm
          omega
        refine GenN.app (α := Rt) elR ([] ++ T) [m] w14.heap.size (fun w16 h16 => hO.below (h16.from hw15 (Below.refl _ _) (by first | exact hL7 | simp))) (fun w16 h16 => src_own h16 6 rfl rfl rfl rfl) (by unfold maxLen; simp; omega) (by simp; omega) (fun w16 h16 => Nat.le_trans hB15.size h16.size) (fun w16 w17 h16 hg' => kpD_grown h16 hg' hr) ?_
        intro v2 w16 w17 h16 hg' hO2
        obtain ⟨av, cv, rfl⟩ := hO2.form
        have hb7' : w4.heap.size ≤ b7 := Nat.le_trans (B13.size) (Nat.le_trans h14.size (Nat.le_trans hB15.size hb7))
        have E14 := h14.from hw4 B13 (by first | (simp; done) | (intro b hb; simp only [List.mem_cons, List.not_mem_nil, or_false] at hb; have := B13.size; have h6 : w13.heap.size ≤ b6 := hb6; have h7 : w4.heap.size ≤ b7 := hb7'; omega))
        have E15 := E14.trans (hB15.mono E14.size)
        have E16 := h16.from hw4 E15 (by first | (simp; done) | (intro b hb; simp only [List.mem_cons, List.not_mem_nil, or_false] at hb; have := B13.size; have h6 : w13.heap.size ≤ b6 := hb6; have h7 : w4.heap.size ≤ b7 := hb7'; omega))
        have E17 : Below w4.heap.size w4 w17 := below_grown E16 hg' (fun k hk => Nat.le_trans E14.size (hO.lt k hk).1) E16.size
        have hSO : Sl w17.heap.size w17 (.slice av (T ++ [m]).length cv) (T ++ [m]) := hO2.sl
        apply CallI.use
        · exact fun w18 h18 => dkeeps_any _ a1 c1 _ (T ++ [m]) av cv w18 hTm ((hF1.sl).go (h18.from hw4 E17 (by first | (simp; done) | (intro b hb; simp only [List.mem_cons, List.not_mem_nil, or_false] at hb; have := B13.size; have h6 : w13.heap.size ≤ b6 := hb6; have h7 : w4.heap.size ≤ b7 := hb7'; omega))) (h18.from hw4 E17 (by first | (simp; done) | (intro b hb; simp only [List.mem_cons, List.not_mem_nil, or_false] at hb; have := B13.size; have h6 : w13.heap.size ≤ b6 := hb6; have h7 : w4.heap.size ≤ b7 := hb7'; omega))).size) (hSO.go h18.go h18.go.size)
        rintro v w18 w19 h18 hB19 rfl
        refine Branch.mk (fun e1 => ?_) (fun e1 => ?_)
        · exact EndI.mk fun _ _ => rfl
        refine Branch.mk (fun e2 => ?_) (fun e2 => ?_)
        · exact EndI.mk fun _ _ => rfl
        refine EndI.mk fun _ _ => ?_
        rw [show (Dbm.keeps n L _).1 = _ from fin _ rfl (by simpa using e1) (by simpa using e2)]
        simp
      · refine NewI.mk fun b7 hb7 => ?_
        refine GenN.appN (α := Rt) elR [] T w.heap.size rfl (fun w14 h14 => Own.own (l := ([] : List Rt)) h14 5 rfl rfl rfl (Nat.le_trans B13w.size hb6)) (fun w14 h14 => by exact (Sl.at h14 hST).src) hT0 (by unfold maxLen; simp; omega) (by simp; omega) ?_
        intro v w14 w15 h14 hB15 hO
        have hw15 : Below w.heap.size w w15 := h14.below.trans (hB15.mono h14.below.size)
        have hL7 : ∀ b, b ∈ ([] : List Nat) → w15.heap.size ≤ b := by simp
        have hr : ∀ k, v.ownBlock = some k → w.heap.size ≤ k ∧ k ∉ [b1, b2, b3, b4, b5, b6, b7] ∧ (k ∈ ([] : List Nat) ∨ w13.heap.size ≤ k) := by
          intro k hk
          have hlt := hO.lt k hk
          refine ⟨Nat.le_trans h14.below.size hlt.1, fun hm => ?_, .inr (Nat.le_trans h14.size hlt.1)⟩
          have l1 := h14.lt b1 (by simp)
          have l2 := h14.lt b2 (by simp)
          have l3 := h14.lt b3 (by simp)
          have l4 := h14.lt b4 (by simp)
          have l5 := h14.lt b5 (by simp)
          have l6 := h14.lt b6 (by simp)
          have l7 := h14.lt b7 (by simp)
          simp only [List.mem_cons, List.not_mem_nil, or_false] at hm
          omega
        refine GenN.app (α := Rt) elR ([] ++ T) [m] w14.heap.size (fun w16 h16 => hO.below (h16.from hw15 (Below.refl _ _) (by first | exact hL7 | simp))) (fun w16 h16 => src_own h16 6 rfl rfl rfl rfl) (by unfold maxLen; simp; omega) (by simp; omega) (fun w16 h16 => Nat.le_trans hB15.size h16.size) (fun w16 w17 h16 hg' => kpD_grown h16 hg' hr) ?_
        intro v2 w16 w17 h16 hg' hO2
        obtain ⟨av, cv, rfl⟩ := hO2.form
        have hb7' : w4.heap.size ≤ b7 := Nat.le_trans (B13.size) hb7
        have E14 := h14.from hw4 B13 (by first | (simp; done) | (intro b hb; simp only [List.mem_cons, List.not_mem_nil, or_false] at hb; have := B13.size; have h6 : w13.heap.size ≤ b6 := hb6; have h7 : w4.heap.size ≤ b7 := hb7'; omega))
        have E15 := E14.trans (hB15.mono E14.size)
        have E16 := h16.from hw4 E15 (by first | (simp; done) | (intro b hb; simp only [List.mem_cons, List.not_mem_nil, or_false] at hb; have := B13.size; have h6 : w13.heap.size ≤ b6 := hb6; have h7 : w4.heap.size ≤ b7 := hb7'; omega))
        have E17 : Below w4.heap.size w4 w17 := below_grown E16 hg' (fun k hk => Nat.le_trans E14.size (hO.lt k hk).1) E16.size
        have hSO : Sl w17.heap.size w17 (.slice av (T ++ [m]).length cv) (T ++ [m]) := hO2.sl
        apply CallI.use
        · exact fun w18 h18 => dkeeps_any _ a1 c1 _ (T ++ [m]) av cv w18 hTm ((hF1.sl).go (h18.from hw4 E17 (by first | (simp; done) | (intro b hb; simp only [List.mem_cons, List.not_mem_nil, or_false] at hb; have := B13.size; have h6 : w13.heap.size ≤ b6 := hb6; have h7 : w4.heap.size ≤ b7 := hb7'; omega))) (h18.from hw4 E17 (by first | (simp; done) | (intro b hb; simp only [List.mem_cons, List.not_mem_nil, or_false] at hb; have := B13.size; have h6 : w13.heap.size ≤ b6 := hb6; have h7 : w4.heap.size ≤ b7 := hb7'; omega))).size) (hSO.go h18.go h18.go.size)
        rintro v w18 w19 h18 hB19 rfl
        refine Branch.mk (fun e1 => ?_) (fun e1 => ?_)
        · exact EndI.mk fun _ _ => rfl
        refine Branch.mk (fun e2 => ?_) (fun e2 => ?_)
        · exact EndI.mk fun _ _ => rfl
        refine EndI.mk fun _ _ => ?_
        rw [show (Dbm.keeps n L _).1 = _ from fin _ rfl (by simpa using e1) (by simpa using e2)]
        simp
    · refine NewI.mk fun b7 hb7 => ?_
      refine NewI.mk fun b6 hb6 => ?_
      refine GenN.appN (α := Rt) elR [] T w.heap.size rfl (fun w14 h14 => Own.own (l := ([] : List Rt)) h14 6 rfl rfl rfl (Nat.le_trans B13w.size hb6)) (fun w14 h14 => by exact (Sl.at h14 hST).src) hT0 (by unfold maxLen; simp; omega) (by simp; omega) ?_
      intro v w14 w15 h14 hB15 hO
      have hw15 : Below w.heap.size w w15 := h14.below.trans (hB15.mono h14.below.size)
      have hL7 : ∀ b, b ∈ ([] : List Nat) → w15.heap.size ≤ b := by simp
      have hr : ∀ k, v.ownBlock = some k → w.heap.size ≤ k ∧ k ∉ [b1, b2, b3, b4, b5, b7, b6] ∧ (k ∈ ([] : List Nat) ∨ w13.heap.size ≤ k) := by
        intro k hk
        have hlt := hO.lt k hk
        refine ⟨Nat.le_trans h14.below.size hlt.1, fun hm => ?_, .inr (Nat.le_trans h14.size hlt.1)⟩
        have l1 := h14.lt b1 (by simp)
        have l2 := h14.lt b2 (by simp)
        have l3 := h14.lt b3 (by simp)
        have l4 := h14.lt b4 (by simp)
        have l5 := h14.lt b5 (by simp)
        have l6 := h14.lt b6 (by simp)
        have l7 := h14.lt b7 (by simp)
        simp only [List.mem_cons, List.not_mem_nil, or_false] at hm
        omega
      refine GenN.app (α := Rt) elR ([] ++ T) [m] w14.heap.size (fun w16 h16 => hO.below (h16.from hw15 (Below.refl _ _) (by first | exact hL7 | simp))) (fun w16 h16 => src_own h16 5 rfl rfl rfl rfl) (by unfold maxLen; simp; omega) (by simp; omega) (fun w16 h16 => Nat.le_trans hB15.size h16.size) (fun w16 w17 h16 hg' => kpD_grown h16 hg' hr) ?_
      intro v2 w16 w17 h16 hg' hO2
      obtain ⟨av, cv, rfl⟩ := hO2.form
      have hb7' : w4.heap.size ≤ b7 := Nat.le_trans (B13.size) hb7
      have E14 := h14.from hw4 B13 (by first | (simp; done) | (intro b hb; simp only [List.mem_cons, List.not_mem_nil, or_false] at hb; have := B13.size; have h6 : w13.heap.size ≤ b6 := hb6; have h7 : w4.heap.size ≤ b7 := hb7'; omega))
      have E15 := E14.trans (hB15.mono E14.size)
      have E16 := h16.from hw4 E15 (by first | (simp; done) | (intro b hb; simp only [List.mem_cons, List.not_mem_nil, or_false] at hb; have := B13.size; have h6 : w13.heap.size ≤ b6 := hb6; have h7 : w4.heap.size ≤ b7 := hb7'; omega))
      have E17 : Below w4.heap.size w4 w17 := below_grown E16 hg' (fun k hk => Nat.le_trans E14.size (hO.lt k hk).1) E16.size
      have hSO : Sl w17.heap.size w17 (.slice av (T ++ [m]).length cv) (T ++ [m]) := hO2.sl
      apply CallI.use
      · exact fun w18 h18 => dkeeps_any _ a1 c1 _ (T ++ [m]) av cv w18 hTm ((hF1.sl).go (h18.from hw4 E17 (by first | (simp; done) | (intro b hb; simp only [List.mem_cons, List.not_mem_nil, or_false] at hb; have := B13.size; have h6 : w13.heap.size ≤ b6 := hb6; have h7 : w4.heap.size ≤ b7 := hb7'; omega))) (h18.from hw4 E17 (by first | (simp; done) | (intro b hb; simp only [List.mem_cons, List.not_mem_nil, or_false] at hb; have := B13.size; have h6 : w13.heap.size ≤ b6 := hb6; have h7 : w4.heap.size ≤ b7 := hb7'; omega))).size) (hSO.go h18.go h18.go.size)
      rintro v w18 w19 h18 hB19 rfl
      refine Branch.mk (fun e1 => ?_) (fun e1 => ?_)
      · exact EndI.mk fun _ _ => rfl
      refine Branch.mk (fun e2 => ?_) (fun e2 => ?_)
      · exact EndI.mk fun _ _ => rfl
      refine EndI.mk fun _ _ => ?_
      rw [show (Dbm.keeps n L _).1 = _ from fin _ rfl (by simpa using e1) (by simpa using e2)]
      simp
end Go.Proofs.Ytnhfkodjphplfaa
