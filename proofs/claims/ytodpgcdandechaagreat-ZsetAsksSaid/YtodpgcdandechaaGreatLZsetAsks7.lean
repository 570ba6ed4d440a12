/-
  Merged texts of this law (each with its own head below).
-/
import Derived.Test.YtodpgcdandechaaGreatLZsetAsks6
import Derived.Test.YtodpgcdandechaaGreatLZsetAsks3
import Derived.Test.YtodpgcdandechaaGreatLZsetAsks5
import Derived.Test.YtodpgcdandechaaGreatLZsetAsks4
/-
  The document's answers of layers 5 and 10: spans and windows of a zone, by the engine.
-/
namespace Go.Proofs.YtodpgcdandechaaGreat
set_option linter.unusedVariables false
set_option linter.unusedSimpArgs false
set_option maxRecDepth 100000
open Go.RowKit Go.Proofs.YtodpgcdandechaaGreat.Eng Enc

theorem Wn.fit_of {s : Sp} (h : Wn.spMay s = true) : s.fit := by
  unfold Wn.spMay at h
  simp only [Bool.and_eq_true, decide_eq_true_eq] at h
  refine ⟨h.1, ?_⟩
  by_cases ho : s.op = true
  · exact .inl ho
  · rw [if_neg ho] at h
    simp at h
    exact .inr (by omega)
theorem rmayspan_any (s : Sp) (w : World) :
    Calls Tryz.prog 82 #[.agg #[.int .i64 s.lo, .bool s.ls, .int .i64 s.hi, .bool s.hs, .bool s.op]] w fun e w' => e = .returned (.bool (Wn.spMay s)) ∧ Below w.heap.size w w' := by
  refine fun_eq 0 w Tryz.func82 (args := [.agg [.val (.int .i64 s.lo), .val (.bool s.ls), .val (.int .i64 s.hi), .val (.bool s.hs), .val (.bool s.op)]]) rfl rfl ?_
  refine NewI.mk fun b1 hb1 => ?_
  unfold Wn.spMay
  refine Branch.mk (fun z1 => ?_) (fun z1 => ?_)
  · have h1 : s.lo < -288230376151711744 := of_decide_eq_true z1
    rw [decide_eq_false (by omega : ¬ -288230376151711744 ≤ s.lo)]
    exact EndI.mk fun w9 h9 => by simp
  have h1 : ¬ s.lo < -288230376151711744 := of_decide_eq_false z1
  rw [decide_eq_true (by omega : -288230376151711744 ≤ s.lo)]
  refine Branch.mk (fun z2 => ?_) (fun z2 => ?_)
  · have h2 : 288230376151711744 < s.lo := of_decide_eq_true z2
    rw [decide_eq_false (by omega : ¬ s.lo ≤ 288230376151711744)]
    exact EndI.mk fun w9 h9 => by simp
  have h2 : ¬ 288230376151711744 < s.lo := of_decide_eq_false z2
  rw [decide_eq_true (by omega : s.lo ≤ 288230376151711744)]
  refine Branch.mk (fun z3 => ?_) (fun z3 => ?_)
  · rw [if_pos z3]
    refine Branch.mk (fun z4 => ?_) (fun z4 => ?_)
    · exact EndI.mk fun w9 h9 => by rw [z4]; simp
    · exact EndI.mk fun w9 h9 => by rw [z4]; simp
  · rw [if_neg (by rw [z3]; simp)]
    refine Branch.mk (fun z4 => ?_) (fun z4 => ?_)
    · exact EndI.mk fun w9 h9 => by rw [z4]; simp
    · exact EndI.mk fun w9 h9 => by rw [z4]; simp
theorem rtold10_any (L : List Int) (h0 : Dbm.chk 3 L = 0) (a : Option Addr) (ca : Nat) (w : World) (hS : Sl w.heap.size w (.slice a (Dbm.rc 3 L).2.1.length ca) (Dbm.rc 3 L).2.1) :
    Calls Tryz.prog 177 #[.agg #[.int .i64 (Dbm.rc 3 L).1, .slice a (Dbm.rc 3 L).2.1.length ca], .bool (Dbm.rc 3 L).2.2] w fun e w' => e = .returned (.tuple #[.agg #[.int .i64 (Zo.of 3 L).1.a, .int .i64 (Zo.of 3 L).1.b, .int .i64 (Zo.of 3 L).1.c, .int .i64 (Zo.of 3 L).1.d, .int .i64 (Zo.of 3 L).1.e, .int .i64 (Zo.of 3 L).1.f], .int .i64 (Zo.of 3 L).2]) ∧ Below w.heap.size w w' := by
  have hor := Zo.of_rc h0
  generalize Dbm.rc 3 L = R at hS hor ⊢
  generalize Zo.of 3 L = W at hor ⊢
  obtain ⟨n3, C, is⟩ := R
  simp only at hS hor ⊢
  refine fun_eq 0 w Tryz.func177 (args := [.agg [.val (.int .i64 n3), .val (.slice a C.length ca)], .val (.bool is)]) rfl rfl ?_
  have st := Stay.first (w := w)
  refine NewI.mk fun b1 hb1 => ?_
  refine NewI.mk fun b2 hb2 => ?_
  rcases hor with ⟨e1, e2⟩ | ⟨e1, e2, e3, e5, e4⟩
  · subst e1; subst e2
    refine Branch.yes rfl ?_
    exact EndI.mk fun w9 h9 => rfl
  · subst e1; subst e2
    refine Branch.no rfl ?_
    apply CallI.use1
    focus (exact fun w3 h3 => rmay04_any 3 C ⟨by omega, by omega⟩ e5 a ca w3 (hS.st (st.at h3 (fun x hx => by simp at hx <;> omega))))
    intro w3 v3 h3 hB3
    have st := st.next h3 (fun x hx => by simp at hx <;> omega) hB3
    by_cases hk : Dbm.chk 3 C = 0
    · rw [decide_eq_true hk]
      unfold Zo.told at e4
      rw [if_pos hk] at e4
      subst e4
      refine Branch.no rfl ?_
      apply CallI.use1
      focus (exact fun w4 h4 => rshort_any 3 a ca C e3 w4 (hS.st (st.at h4 (fun x hx => by simp at hx <;> omega))))
      intro w4 v4 h4 hB4
      have st := st.next h4 (fun x hx => by simp at hx <;> omega) hB4
      exact EndI.mk fun w9 h9 => rfl
    · rw [decide_eq_false hk]
      unfold Zo.told at e4
      rw [if_neg hk] at e4
      subst e4
      refine Branch.yes rfl ?_
      exact EndI.mk fun w9 h9 => rfl
theorem rspanned_any (z : Zn) (hz : Zo.chk z = 0) (s : Sp) (hs : Wn.spMay s = true) (w : World) :
    Calls Tryz.prog 101 #[.agg #[.int .i64 z.a, .int .i64 z.b, .int .i64 z.c, .int .i64 z.d, .int .i64 z.e, .int .i64 z.f], .agg #[.int .i64 s.lo, .bool s.ls, .int .i64 s.hi, .bool s.hs, .bool s.op]] w fun e w' => e = .returned (.tuple #[.agg #[.int .i64 (Wn.within z s).1.a, .int .i64 (Wn.within z s).1.b, .int .i64 (Wn.within z s).1.c, .int .i64 (Wn.within z s).1.d, .int .i64 (Wn.within z s).1.e, .int .i64 (Wn.within z s).1.f], .int .i64 (Wn.within z s).2]) ∧ Below w.heap.size w w' := by
  rw [Wn.within_doc hz hs]
  have hf := Wn.fit_of hs
  have h0 := Zo.chk_lessr (Zo.clo hz).1 (Wn.chk_only (Wn.ab_lim hs) (.inr (Wn.be_lim hs))).1
  refine fun_eq 0 w Tryz.func101 (args := [.agg [.val (.int .i64 z.a), .val (.int .i64 z.b), .val (.int .i64 z.c), .val (.int .i64 z.d), .val (.int .i64 z.e), .val (.int .i64 z.f)], .agg [.val (.int .i64 s.lo), .val (.bool s.ls), .val (.int .i64 s.hi), .val (.bool s.hs), .val (.bool s.op)]]) rfl rfl ?_
  refine NewI.mk fun b1 hb1 => ?_
  refine NewI.mk fun b2 hb2 => ?_
  refine NewI.mk fun b3 hb3 => ?_
  refine DrawI.go (.tk 0 (.tk 2 (.two 1 (.two 3 (.tk 4 (.two 5 (.ev 6 (.ev 7 .done)) 6 (.ev 5 (.ev 7 .done)))) 6 (.ev 3 (.tk 4 (.ev 5 (.ev 7 .done))))) 6 (.ev 1 (.ev 3 (.tk 4 (.ev 5 (.ev 7 .done)))))))) (by kernel_rfl) fun w1 h1 => ?_
  refine Both.mk ?_ ?_
  · skip
    refine CallI.to1 (fun w => rabove_any s hf w) fun w2 => ?_
    refine Both.mk ?_ ?_
    · skip
      refine CallI.to1 (fun w => rbelow_any s hf w) fun w3 => ?_
      refine Both.mk ?_ ?_
      · skip
        apply CallI.use
        focus (exact fun w4 h4 => rfullO_any ⟨9223372036854775807, 9223372036854775807, 9223372036854775807, 9223372036854775807, Rg.ab s, Rg.be s⟩ w4)
        rintro v w4 v4 h4 hB4 ⟨a4, c4, rfl, hO4⟩
        refine NewI.mk fun b4 hb4 => ?_
        have hn4 : b4 < w4.heap.size ∨ v4.heap.size ≤ b4 := .inr hb4
        refine DrawI.wr (.tk 0 (.tk 2 (.ev 1 (.ev 3 (.tk 4 (.tk 5 (.ev 6 (.tk 7 (.tk 8 (.ev 9 (.tk 10 .done))))))))))) [2] [] (by kernel_rfl) rfl (by simp) fun w6 h6 => ?_
        have hO6 := hO4.atNe h6 (fun g hg hm => by have := hO4.lt g hg; simp at hm; omega)
        have st := Stay.start h6.below
        apply CallI.use
        focus (exact fun w7 h7 => rfull_any z w7)
        rintro v w7 v7 h7 hB7 ⟨a7, c7, rfl, hS7⟩
        have st := st.next h7 (fun x hx => by simp at hx <;> omega) hB7
        have hcom := fun w h k => rcommon_any 3 3 a7 a4 c7 c4 (Zo.matL z) _ h0 (Nat.le_refl 9) w h k
        apply CallI.use
        focus (exact fun w8 h8 => hcom w8 (hS7.st (st.at h8 (fun x hx => by simp at hx <;> omega))) ((hO6.st (st.at h8 (fun x hx => by simp at hx <;> omega))).sl))
        rintro v w8 v8 h8 hB8 ⟨a8, c8, rfl, hO8⟩
        have st := st.next h8 (fun x hx => by simp at hx <;> omega) hB8
        apply CallI.use1
        focus (exact fun w9 h9 => rtold10_any _ h0 a8 c8 w9 ((hO8.st (st.at h9 (fun x hx => by simp at hx <;> omega))).sl))
        intro w9 v9 h9 hB9
        have st := st.next h9 (fun x hx => by simp at hx <;> omega) hB9
        exact EndI.mk fun w9 h9 => rfl
      · refine NewI.mk fun b4 hb4 => ?_
        apply CallI.use
        focus (exact fun w4 h4 => rfullO_any ⟨9223372036854775807, 9223372036854775807, 9223372036854775807, 9223372036854775807, Rg.ab s, Rg.be s⟩ w4)
        rintro v w4 v4 h4 hB4 ⟨a4, c4, rfl, hO4⟩
        have hn4 : b4 < w4.heap.size ∨ v4.heap.size ≤ b4 := .inl (h4.lt b4 (by simp))
        refine DrawI.wr (.tk 0 (.tk 2 (.ev 1 (.ev 3 (.tk 4 (.tk 5 (.ev 6 (.tk 7 (.tk 8 (.ev 9 (.tk 10 .done))))))))))) [2] [] (by kernel_rfl) rfl (by simp) fun w6 h6 => ?_
        have hO6 := hO4.atNe h6 (fun g hg hm => by have := hO4.lt g hg; simp at hm; omega)
        have st := Stay.start h6.below
        apply CallI.use
        focus (exact fun w7 h7 => rfull_any z w7)
        rintro v w7 v7 h7 hB7 ⟨a7, c7, rfl, hS7⟩
        have st := st.next h7 (fun x hx => by simp at hx <;> omega) hB7
        have hcom := fun w h k => rcommon_any 3 3 a7 a4 c7 c4 (Zo.matL z) _ h0 (Nat.le_refl 9) w h k
        apply CallI.use
        focus (exact fun w8 h8 => hcom w8 (hS7.st (st.at h8 (fun x hx => by simp at hx <;> omega))) ((hO6.st (st.at h8 (fun x hx => by simp at hx <;> omega))).sl))
        rintro v w8 v8 h8 hB8 ⟨a8, c8, rfl, hO8⟩
        have st := st.next h8 (fun x hx => by simp at hx <;> omega) hB8
        apply CallI.use1
        focus (exact fun w9 h9 => rtold10_any _ h0 a8 c8 w9 ((hO8.st (st.at h9 (fun x hx => by simp at hx <;> omega))).sl))
        intro w9 v9 h9 hB9
        have st := st.next h9 (fun x hx => by simp at hx <;> omega) hB9
        exact EndI.mk fun w9 h9 => rfl
    · refine NewI.mk fun b4 hb4 => ?_
      refine CallI.to1 (fun w => rbelow_any s hf w) fun w3 => ?_
      apply CallI.use
      focus (exact fun w4 h4 => rfullO_any ⟨9223372036854775807, 9223372036854775807, 9223372036854775807, 9223372036854775807, Rg.ab s, Rg.be s⟩ w4)
      rintro v w4 v4 h4 hB4 ⟨a4, c4, rfl, hO4⟩
      have hn4 : b4 < w4.heap.size ∨ v4.heap.size ≤ b4 := .inl (h4.lt b4 (by simp))
      refine DrawI.wr (.tk 0 (.tk 2 (.ev 1 (.ev 3 (.tk 4 (.tk 5 (.ev 6 (.tk 7 (.tk 8 (.ev 9 (.tk 10 .done))))))))))) [2] [] (by kernel_rfl) rfl (by simp) fun w6 h6 => ?_
      have hO6 := hO4.atNe h6 (fun g hg hm => by have := hO4.lt g hg; simp at hm; omega)
      have st := Stay.start h6.below
      apply CallI.use
      focus (exact fun w7 h7 => rfull_any z w7)
      rintro v w7 v7 h7 hB7 ⟨a7, c7, rfl, hS7⟩
      have st := st.next h7 (fun x hx => by simp at hx <;> omega) hB7
      have hcom := fun w h k => rcommon_any 3 3 a7 a4 c7 c4 (Zo.matL z) _ h0 (Nat.le_refl 9) w h k
      apply CallI.use
      focus (exact fun w8 h8 => hcom w8 (hS7.st (st.at h8 (fun x hx => by simp at hx <;> omega))) ((hO6.st (st.at h8 (fun x hx => by simp at hx <;> omega))).sl))
      rintro v w8 v8 h8 hB8 ⟨a8, c8, rfl, hO8⟩
      have st := st.next h8 (fun x hx => by simp at hx <;> omega) hB8
      apply CallI.use1
      focus (exact fun w9 h9 => rtold10_any _ h0 a8 c8 w9 ((hO8.st (st.at h9 (fun x hx => by simp at hx <;> omega))).sl))
      intro w9 v9 h9 hB9
      have st := st.next h9 (fun x hx => by simp at hx <;> omega) hB9
      exact EndI.mk fun w9 h9 => rfl
  · refine NewI.mk fun b4 hb4 => ?_
    refine CallI.to1 (fun w => rabove_any s hf w) fun w2 => ?_
    refine CallI.to1 (fun w => rbelow_any s hf w) fun w3 => ?_
    apply CallI.use
    focus (exact fun w4 h4 => rfullO_any ⟨9223372036854775807, 9223372036854775807, 9223372036854775807, 9223372036854775807, Rg.ab s, Rg.be s⟩ w4)
    rintro v w4 v4 h4 hB4 ⟨a4, c4, rfl, hO4⟩
    have hn4 : b4 < w4.heap.size ∨ v4.heap.size ≤ b4 := .inl (h4.lt b4 (by simp))
    refine DrawI.wr (.tk 0 (.tk 2 (.ev 1 (.ev 3 (.tk 4 (.tk 5 (.ev 6 (.tk 7 (.tk 8 (.ev 9 (.tk 10 .done))))))))))) [2] [] (by kernel_rfl) rfl (by simp) fun w6 h6 => ?_
    have hO6 := hO4.atNe h6 (fun g hg hm => by have := hO4.lt g hg; simp at hm; omega)
    have st := Stay.start h6.below
    apply CallI.use
    focus (exact fun w7 h7 => rfull_any z w7)
    rintro v w7 v7 h7 hB7 ⟨a7, c7, rfl, hS7⟩
    have st := st.next h7 (fun x hx => by simp at hx <;> omega) hB7
    have hcom := fun w h k => rcommon_any 3 3 a7 a4 c7 c4 (Zo.matL z) _ h0 (Nat.le_refl 9) w h k
    apply CallI.use
    focus (exact fun w8 h8 => hcom w8 (hS7.st (st.at h8 (fun x hx => by simp at hx <;> omega))) ((hO6.st (st.at h8 (fun x hx => by simp at hx <;> omega))).sl))
    rintro v w8 v8 h8 hB8 ⟨a8, c8, rfl, hO8⟩
    have st := st.next h8 (fun x hx => by simp at hx <;> omega) hB8
    apply CallI.use1
    focus (exact fun w9 h9 => rtold10_any _ h0 a8 c8 w9 ((hO8.st (st.at h9 (fun x hx => by simp at hx <;> omega))).sl))
    intro w9 v9 h9 hB9
    have st := st.next h9 (fun x hx => by simp at hx <;> omega) hB9
    exact EndI.mk fun w9 h9 => rfl
theorem rwindowed_any (z : Zn) (hz : Zo.chk z = 0) (lo hi : Int) (hf : Wn.fits lo = true ∧ Wn.fits hi = true ∧ lo < hi) (w : World) :
    Calls Tryz.prog 104 #[.agg #[.int .i64 z.a, .int .i64 z.b, .int .i64 z.c, .int .i64 z.d, .int .i64 z.e, .int .i64 z.f], .int .i64 lo, .int .i64 hi] w fun e w' => e = .returned (.tuple #[.agg #[.int .i64 (Wn.window z lo hi).1.a, .int .i64 (Wn.window z lo hi).1.b, .int .i64 (Wn.window z lo hi).1.c, .int .i64 (Wn.window z lo hi).1.d, .int .i64 (Wn.window z lo hi).1.e, .int .i64 (Wn.window z lo hi).1.f], .int .i64 (Wn.window z lo hi).2]) ∧ Below w.heap.size w w' := by
  have k1 := Wn.fits_iff.1 hf.1
  have k2 := Wn.fits_iff.1 hf.2.1
  have e1 : (Bd.made hi false).1 = Bd.mk hi false := by
    unfold Bd.made Num.okB
    rw [if_pos (by simp; omega)]
  have e2 : (Bd.made (-lo) true).1 = Bd.mk (0 - lo) true := by
    unfold Bd.made Num.okB
    rw [if_pos (by simp; omega), Int.zero_sub]
  have b1' : -288230376151711744 ≤ Bd.mk hi false / 2 ∧ Bd.mk hi false / 2 ≤ 288230376151711744 := by unfold Bd.mk; simp; omega
  have b2' : -288230376151711744 ≤ Bd.mk (0 - lo) true / 2 ∧ Bd.mk (0 - lo) true / 2 ≤ 288230376151711744 := by unfold Bd.mk; simp; omega
  have hw : Wn.window z lo hi = Zo.of 3 (Dbm.lessr (Zo.matL z) (Zo.matL ⟨9223372036854775807, 9223372036854775807, Bd.mk hi false, Bd.mk (0 - lo) true, 9223372036854775807, 9223372036854775807⟩)) := by
    unfold Wn.window
    rw [if_pos hz, if_pos hf, e1, e2]
    exact (Wn.with_only hz (.inr b1') (.inr b2')).2
  rw [hw]
  have h0 := Zo.chk_lessr (Zo.clo hz).1 (Wn.chk_only (.inr b1') (.inr b2')).2
  refine fun_eq 0 w Tryz.func104 (args := [.agg [.val (.int .i64 z.a), .val (.int .i64 z.b), .val (.int .i64 z.c), .val (.int .i64 z.d), .val (.int .i64 z.e), .val (.int .i64 z.f)], .val (.int .i64 lo), .val (.int .i64 hi)]) rfl rfl ?_
  refine NewI.mk fun b1 hb1 => ?_
  refine NewI.mk fun b3 hb3 => ?_
  refine CallI.to0 (fun w => rmade_any hi false (by omega) (by omega) w) fun w2 => ?_
  refine Need.mk (by simp only [inK]; omega) ?_
  refine CallI.to0 (fun w => rmade_any (0 - lo) true (by omega) (by omega) w) fun w3 => ?_
  apply CallI.use
  focus (exact fun w4 h4 => rfull_any ⟨9223372036854775807, 9223372036854775807, Bd.mk hi false, Bd.mk (0 - lo) true, 9223372036854775807, 9223372036854775807⟩ w4)
  rintro v w4 v4 h4 hB4 ⟨a4, c4, rfl, hS4⟩
  have hb4 : Below w.heap.size w v4 := h4.below.trans (hB4.mono h4.below.size)
  refine NewI.mk fun b4 hb4' => ?_
  refine DrawI.wr (.tk 0 (.tk 2 (.ev 1 (.ev 3 (.tk 4 (.tk 5 (.ev 6 (.tk 7 (.tk 8 (.ev 9 (.tk 10 .done))))))))))) [1] [] (by kernel_rfl) rfl (by simp) fun w6 h6 => ?_
  have st := (Stay.start hb4).at h6 (fun x hx => by simp at hx <;> omega)
  apply CallI.use
  focus (exact fun w7 h7 => rfull_any z w7)
  rintro v w7 v7 h7 hB7 ⟨a7, c7, rfl, hS7⟩
  have st := st.next h7 (fun x hx => by simp at hx <;> omega) hB7
  have hcom := fun w h k => rcommon_any 3 3 a7 a4 c7 c4 (Zo.matL z) _ h0 (Nat.le_refl 9) w h k
  apply CallI.use
  focus (exact fun w8 h8 => hcom w8 (hS7.st (st.at h8 (fun x hx => by simp at hx <;> omega))) (hS4.st (st.at h8 (fun x hx => by simp at hx <;> omega))))
  rintro v w8 v8 h8 hB8 ⟨a8, c8, rfl, hO8⟩
  have st := st.next h8 (fun x hx => by simp at hx <;> omega) hB8
  apply CallI.use1
  focus (exact fun w9 h9 => rtold10_any _ h0 a8 c8 w9 ((hO8.st (st.at h9 (fun x hx => by simp at hx <;> omega))).sl))
  intro w9 v9 h9 hB9
  have st := st.next h9 (fun x hx => by simp at hx <;> omega) hB9
  exact EndI.mk fun w9 h9 => rfl
end Go.Proofs.YtodpgcdandechaaGreat

/-
  Plain laws of compositions: the points of two zones one behind the other. No program is in sight.
-/
namespace Go.Proofs.YtodpgcdandechaaGreat
set_option linter.unusedVariables false
set_option linter.unusedSimpArgs false
open Go.RowKit Go.Proofs.YtodpgcdandechaaGreat.Eng Enc
namespace Dbm
def LoQ (a : Rat × Bool) (s : Rat) : Prop := if a.2 = true then a.1 < s else a.1 ≤ s
def HiQ (a : Rat × Bool) (s : Rat) : Prop := if a.2 = true then s < a.1 else s ≤ a.1
theorem LoQ.mono {a b : Rat × Bool} {s : Rat} (h : LoQ a s) (hb : b.1 < a.1 ∨ (b.1 = a.1 ∧ (b.2 = true → a.2 = true))) : LoQ b s := by
  unfold LoQ at *
  split <;> split at h <;> rcases hb with hb | ⟨hb, hc⟩ <;> first | grind | (rename_i k1 k2; exact absurd (hc k1) k2)
theorem HiQ.mono {a b : Rat × Bool} {s : Rat} (h : HiQ a s) (hb : a.1 < b.1 ∨ (b.1 = a.1 ∧ (b.2 = true → a.2 = true))) : HiQ b s := by
  unfold HiQ at *
  split <;> split at h <;> rcases hb with hb | ⟨hb, hc⟩ <;> first | grind | (rename_i k1 k2; exact absurd (hc k1) k2)
end Dbm
end Go.Proofs.YtodpgcdandechaaGreat

/-
  Plain laws of clocks that come and go: a matrix without a clock is closed again, and of two clocks that go it turns nothing which goes first. No program is in sight.
-/
namespace Go.Proofs.YtodpgcdandechaaGreat.Proj
set_option linter.unusedVariables false
open Go.Proofs.YtodpgcdandechaaGreat.Dbm

theorem sk_lt {N k j : Nat} (hj : j < N - 1) : sk k j < N := by unfold sk; split <;> omega
theorem dropL_len (N k : Nat) (C : List Int) : (dropL N k C).length = (N - 1) * (N - 1) := by simp [dropL]
theorem dropL_get {N k : Nat} (C : List Int) {i j : Nat} (hi : i < N - 1) (hj : j < N - 1) : (dropL N k C)[i * (N - 1) + j]?.getD 0 = C[sk k i * N + sk k j]?.getD 0 := by
  unfold dropL
  rw [List.getElem?_map, List.getElem?_range (place_lt hi hj)]
  simp only [Option.map_some, Option.getD_some]
  unfold dropAt
  rw [place_div hj, place_mod hj]
theorem clo_drop {N k : Nat} {C : List Int} (h : Clo N C) : Clo (N - 1) (dropL N k C) := by
  have hm : ∀ i j, i < N - 1 → j < N - 1 → mx (N - 1) (dropL N k C) i j = mx N C (sk k i) (sk k j) := fun i j hi hj => by
    unfold mx; rw [dropL_get C hi hj]
  refine ⟨dropL_len _ _ _, fun i hi => ?_, fun i j a hi hj ha => ?_, fun i j hi hj => ?_⟩
  · rw [dropL_get C hi hi]; exact h.diag _ (sk_lt hi)
  · rw [hm i j hi hj, hm i a hi ha, hm a j ha hj]
    exact h.tri _ _ _ (sk_lt hi) (sk_lt hj) (sk_lt ha)
  · rw [dropL_get C hi hj]; exact h.lim _ _ (sk_lt hi) (sk_lt hj)
theorem ext_get {A B : List Int} {n : Nat} (ha : A.length = n) (hb : B.length = n) (h : ∀ q, q < n → A[q]?.getD 0 = B[q]?.getD 0) : A = B := by
  apply List.ext_getElem?
  intro q
  rcases Nat.lt_or_ge q n with hq | hq
  · have := h q hq
    rw [List.getElem?_eq_getElem (by omega), List.getElem?_eq_getElem (by omega)] at this ⊢
    exact congrArg some this
  · rw [List.getElem?_eq_none (by omega), List.getElem?_eq_none (by omega)]
theorem sk_sk {j k i : Nat} (hjk : j < k) : sk j (sk (k - 1) i) = sk k (sk j i) := by
  unfold sk
  by_cases h1 : i < k - 1 <;> by_cases h2 : i < j <;> simp only [h1, h2, if_true, if_false] <;> (repeat' split) <;> omega
theorem dropL_dropL {N j k : Nat} (C : List Int) (hjk : j < k) : dropL (N - 1) (k - 1) (dropL N j C) = dropL (N - 1) j (dropL N k C) := by
  refine ext_get (dropL_len _ _ _) (dropL_len _ _ _) fun q hq => ?_
  have h1 := div_lt hq
  have h2 := mod_lt hq
  rw [← div_mod (p := q) (N := N - 1 - 1)]
  rw [dropL_get _ h1 h2, dropL_get _ h1 h2, dropL_get _ (sk_lt h1) (sk_lt h2), dropL_get _ (sk_lt h1) (sk_lt h2), sk_sk hjk, sk_sk hjk]

/-- a clock goes, where one may. -/
theorem drop_ok {n : Int} {L : List Int} {k : Int} (h : (drop n L k).2.2 = 0) : chk n L = 0 ∧ 1 ≤ k ∧ k < n ∧ ∃ C, closeL n.toNat L = some C ∧ drop n L k = (n - 1, dropL n.toNat k.toNat C, 0) := by
  unfold drop at h ⊢
  split at h
  · rename_i h0
    split at h
    · cases h
    · rename_i h1
      split at h
      · rename_i C hC
        refine ⟨h0, by omega, by omega, C, hC, ?_⟩
        rw [if_pos h0, if_neg h1]
      · cases h
  · cases h
theorem drop_closed {N K : Nat} {A : List Int} (h0 : chk N A = 0) (hA : Clo N A) (h1 : 1 ≤ K) (h2 : K < N) : drop N A K = ((N : Int) - 1, dropL N K A, 0) := by
  unfold drop
  rw [if_pos h0, if_neg (by omega), Int.toNat_natCast, Int.toNat_natCast, hA.close]
/-- of two clocks that go it turns nothing which goes first. -/
theorem two {n : Int} {L : List Int} {j k : Int} (hjk : j < k) (ha : (drop n L j).2.2 = 0) (hb : (drop n L k).2.2 = 0) (ca : chk (drop n L j).1 (drop n L j).2.1 = 0) (cb : chk (drop n L k).1 (drop n L k).2.1 = 0) :
    drop (drop n L j).1 (drop n L j).2.1 (k - 1) = drop (drop n L k).1 (drop n L k).2.1 j := by
  obtain ⟨h0, j1, j2, C, hC, ea⟩ := drop_ok ha
  obtain ⟨_, k1, k2, C', hC', eb⟩ := drop_ok hb
  rw [hC] at hC'; injection hC' with hC'; subst hC'
  obtain ⟨N, rfl⟩ : ∃ N : Nat, n = N := ⟨n.toNat, by omega⟩
  obtain ⟨J, rfl⟩ : ∃ J : Nat, j = J := ⟨j.toNat, by omega⟩
  obtain ⟨K, rfl⟩ : ∃ K : Nat, k = K := ⟨k.toNat, by omega⟩
  rw [Int.toNat_natCast] at hC
  have hclo := close_clo h0 hC
  rw [ea] at ca ⊢
  rw [eb] at cb ⊢
  simp only [Int.toNat_natCast] at ca cb ⊢
  have en : (N : Int) - 1 = ((N - 1 : Nat) : Int) := by omega
  have ek : (K : Int) - 1 = ((K - 1 : Nat) : Int) := by omega
  rw [en] at ca cb ⊢
  rw [ek, drop_closed ca (clo_drop hclo) (by omega) (by omega), drop_closed cb (clo_drop hclo) (by omega) (by omega), dropL_dropL C (by omega)]
end Go.Proofs.YtodpgcdandechaaGreat.Proj

/-
  Plain laws of compositions, ended: the points of two zones one behind the other. No program is in sight.
-/
namespace Go.Proofs.YtodpgcdandechaaGreat
set_option linter.unusedVariables false
set_option linter.unusedSimpArgs false
open Go.RowKit Go.Proofs.YtodpgcdandechaaGreat.Eng Enc
namespace Dbm
end Dbm
namespace Cmp
open Dbm Mi
/-- three times. -/
def t3 (x y z : Rat) (i : Nat) : Rat := if i = 0 then x else if i = 1 then y else z
end Cmp
namespace Zs
open Mi Dbm Cmp
end Zs
end Go.Proofs.YtodpgcdandechaaGreat

/-
  The document's answer: ref09.Comp, by the engine.
-/
namespace Go.Proofs.YtodpgcdandechaaGreat
set_option linter.unusedVariables false
set_option linter.unusedSimpArgs false
set_option maxRecDepth 100000
open Go.RowKit Go.Proofs.YtodpgcdandechaaGreat.Eng Enc

namespace Cmp
open Dbm
end Cmp
end Go.Proofs.YtodpgcdandechaaGreat

/-
  Compositions by the document's closing. No program is in sight.
-/
namespace Go.Proofs.YtodpgcdandechaaGreat
set_option linter.unusedVariables false
set_option linter.unusedSimpArgs false
open Go.RowKit Go.Proofs.YtodpgcdandechaaGreat.Eng Enc
namespace Cmp
open Dbm
end Cmp
end Go.Proofs.YtodpgcdandechaaGreat

/-
  The document's answer: ref09.Comp, by the engine (the second part).
-/
namespace Go.Proofs.YtodpgcdandechaaGreat
set_option linter.unusedVariables false
set_option linter.unusedSimpArgs false
set_option maxRecDepth 100000
open Go.RowKit Go.Proofs.YtodpgcdandechaaGreat.Eng Enc

end Go.Proofs.YtodpgcdandechaaGreat

/-
  The document's answer of layer 11, by the engine: Less.
-/
namespace Go.Proofs.YtodpgcdandechaaGreat
set_option linter.unusedVariables false
set_option linter.unusedSimpArgs false
set_option maxRecDepth 100000
open Go.RowKit Go.Proofs.YtodpgcdandechaaGreat.Eng Enc

namespace Mi
open Dbm
theorem minus_err {a b : Zn} (ha : Zo.chk a = 0) (hb : Zo.chk b = 0) {p q : List (Zn × Int)} {y : Zn × Int} (h : p ++ y :: q = parts a b) (hp : ∀ x, x ∈ p → x.2 = 0) (hy : y.2 ≠ 0) : minus a b = ([], y.2) := by
  have hf : (parts a b).find? (fun x => decide (x.2 ≠ 0)) = some y := by
    rw [← h, List.find?_append, List.find?_eq_none.2 (fun x hx => by simp [hp x hx])]
    simp [hy]
  unfold minus
  rw [if_pos ⟨ha, hb⟩, hf]
theorem minus_fin {a b : Zn} (ha : Zo.chk a = 0) (hb : Zo.chk b = 0) {p : List (Zn × Int)} (h : p = parts a b) (hp : ∀ x, x ∈ p → x.2 = 0) : minus a b = (p.map (·.1), 0) := by
  have hf : (parts a b).find? (fun x => decide (x.2 ≠ 0)) = none := by
    rw [← h]; exact List.find?_eq_none.2 (fun x hx => by simp [hp x hx])
  unfold minus
  rw [if_pos ⟨ha, hb⟩, hf, h]
theorem of_cases (L : List Int) : (Zo.of 3 L).2 = 0 ∨ (Zo.of 3 L).2 = 6 ∨ (Zo.of 3 L).2 = 8 := by
  unfold Zo.of
  by_cases h0 : chk 3 L = 0
  · rw [if_pos h0, if_pos rfl]
    have hcl : close 3 L = (match closeL 3 L with | some L' => (3, L', 0) | none => (0, [], 6)) := by unfold close; rw [if_pos h0]; rfl
    cases hC : closeL 3 L with
    | none => rw [hC] at hcl; rw [hcl]; right; left; rfl
    | some C =>
      rw [hC] at hcl; rw [hcl]
      show (Zo.told C).2 = 0 ∨ _
      unfold Zo.told
      split
      · exact .inl rfl
      · exact .inr (.inr rfl)
  · rw [if_neg h0]; exact .inr (.inr rfl)
theorem wth_cases (z : Zn) (i : Nat) (b : Int) : (wth z i b).2 = 0 ∨ (wth z i b).2 = 6 ∨ (wth z i b).2 = 8 := by
  unfold wth
  split
  · exact of_cases _
  · exact .inr (.inr rfl)
theorem cell_get (b : Zn) {k : Nat} (hk : k < 6) : [Value.int .i64 b.a, .int .i64 b.b, .int .i64 b.c, .int .i64 b.d, .int .i64 b.e, .int .i64 b.f][k]? = some (.int .i64 (Zo.get b k)) := by
  rcases six hk with rfl | rfl | rfl | rfl | rfl | rfl <;> rfl
theorem not_no {b : Int} (h : b = NO) : (Bd.not b).2 ≠ 0 := by subst h; decide
theorem not_mayC {b : Int} (hl : lim 288230376151711744 b) (hn : b ≠ NO) : Bd.not b = (Bd.mk (-(b / 2)) (!(Bd.st b)), 0) ∧ mayC (Bd.not b).1 = true := by
  have hb := hl.resolve_left hn
  have e : Bd.not b = (Bd.mk (-(b / 2)) (!(Bd.st b)), 0) := by
    unfold Bd.not
    rw [Incl.value_of hl hn]
    have hok : Num.okB (-(b / 2)) = true := Num.okB_iff.2 (by omega)
    simp only [if_true]
    unfold Bd.made
    rw [if_pos hok]
  refine ⟨e, ?_⟩
  rw [e]
  unfold mayC
  rw [Bd.half_mk]
  simp; omega
theorem lim_mayC {b : Int} (h : lim 288230376151711744 b) : mayC b = true := by
  unfold mayC
  rcases h with h | h
  · rw [h]; rfl
  · simp; omega
/-- where Less stands. -/
structure LSit (w w2 V : World) (Bb : Nat) (b : Zn) (sv : Value) (out : List Zn) (X : World) : Prop where
  below : Below w.heap.size w X
  size : w2.heap.size ≤ X.heap.size
  size0 : V.heap.size ≤ X.heap.size
  ha : Holds X Bb b
  own : Own 39 w2.heap.size X sv out
section
variable {w w2 V X Y : World} {Bb : Nat} {b : Zn} {sv : Value} {out : List Zn}
theorem LSit.at {hp : List LB} {r L : List Nat} (s : LSit w w2 V Bb b sv out X) (h : At ⟨w, w.heap.size, Nat.le_refl _⟩ hp r L X Y) (hL : ∀ x, x ∈ L → X.heap.size ≤ x ∨ x ≠ Bb ∧ sv.ownBlock ≠ some x) : LSit w w2 V Bb b sv out Y := by
  refine ⟨h.below, Nat.le_trans s.size h.size, Nat.le_trans s.size0 h.size, s.ha.same (h.step Bb s.ha.lt fun hm => ?_), ?_⟩
  · rcases hL _ hm with h1 | h1
    · have := s.ha.lt; omega
    · exact h1.1 rfl
  · obtain ⟨hl, h0 | ⟨g, cap, cur, e1, e2, e3, e4⟩⟩ := s.own
    · exact ⟨hl, .inl h0⟩
    · have hg := (Array.getElem?_eq_some_iff.1 e3).1
      refine ⟨hl, .inr ⟨g, cap, cur, e1, e2, (h.step g hg (fun e => ?_)).trans e3, e4⟩⟩
      rcases hL g e with h1 | h1
      · omega
      · exact h1.2 (by rw [e1]; rfl)
theorem LSit.go (s : LSit w w2 V Bb b sv out X) (hw : w.heap.size ≤ w2.heap.size) (hB : Below X.heap.size X Y) : LSit w w2 V Bb b sv out Y :=
  ⟨s.below.trans (hB.mono s.below.size), Nat.le_trans s.size hB.size, Nat.le_trans s.size0 hB.size, s.ha.below hB, s.own.below hB⟩
theorem LSit.grow {Z : World} {tv : Value} {out2 : List Zn} (s : LSit w w2 V Bb b sv out Y) (hw : w.heap.size ≤ w2.heap.size) (hBb : sv.ownBlock ≠ some Bb) (hg : Y.grownBy Z sv.ownBlock) (hO : Own 39 w2.heap.size Z tv out2) : LSit w w2 V Bb b tv out2 Z :=
  ⟨⟨hg.os.trans s.below.os, hg.tape.trans s.below.tape, hg.output.trans s.below.output, Nat.le_trans s.below.size hg.size, fun k hk => (hg.block k (Nat.lt_of_lt_of_le hk s.below.size) (fun e => by have := (s.own.lt k e.symm).1; omega)).trans (s.below.block k hk)⟩,
    Nat.le_trans s.size hg.size, Nat.le_trans s.size0 hg.size, s.ha.same (hg.block Bb s.ha.lt (fun e => hBb e.symm)), hO⟩
end
end Mi
set_option maxHeartbeats 40000000 in
theorem rless_any (a b : Zn) (ha : Zo.chk a = 0) (hb : Zo.chk b = 0) (w : World) :
    Calls Tryz.prog 282 #[.agg #[.int .i64 a.a, .int .i64 a.b, .int .i64 a.c, .int .i64 a.d, .int .i64 a.e, .int .i64 a.f], .agg #[.int .i64 b.a, .int .i64 b.b, .int .i64 b.c, .int .i64 b.d, .int .i64 b.e, .int .i64 b.f]] w (Ret w fun v w' => ∃ a' c', v = .tuple #[.slice a' (Mi.minus a b).1.length c', .int .i64 (Mi.minus a b).2] ∧ Own 39 w.heap.size w' (.slice a' (Mi.minus a b).1.length c') (Mi.minus a b).1) := by
  refine fun_ret 0 w Tryz.func282 (args := [.agg [.val (.int .i64 a.a), .val (.int .i64 a.b), .val (.int .i64 a.c), .val (.int .i64 a.d), .val (.int .i64 a.e), .val (.int .i64 a.f)], .agg [.val (.int .i64 b.a), .val (.int .i64 b.b), .val (.int .i64 b.c), .val (.int .i64 b.d), .val (.int .i64 b.e), .val (.int .i64 b.f)]]) rfl rfl ?_
  refine NewI.mk fun b1 hb1 => ?_
  have hb1' : w.heap.size ≤ b1 := hb1
  refine NewI.frn fun w1 h1 => ?_
  have hbox : (w1.alloc (.cells #[.int .i64 b.a, .int .i64 b.b, .int .i64 b.c, .int .i64 b.d, .int .i64 b.e, .int .i64 b.f] 39)).heap[w1.heap.size]? = some (.cells #[.int .i64 b.a, .int .i64 b.b, .int .i64 b.c, .int .i64 b.d, .int .i64 b.e, .int .i64 b.f] 39 (0, 0)) := World.alloc_heap_new w1 _
  have hw1 : Below w.heap.size w (w1.alloc (.cells #[.int .i64 b.a, .int .i64 b.b, .int .i64 b.c, .int .i64 b.d, .int .i64 b.e, .int .i64 b.f] 39)) := h1.below.alloc h1.below.size _
  have hwB : w.heap.size ≤ w1.heap.size := h1.below.size
  have hb1w : b1 < w1.heap.size := h1.lt b1 (by simp)
  generalize hgB : w1.heap.size = Bb at hbox hwB hb1w
  generalize w1.alloc (.cells #[.int .i64 b.a, .int .i64 b.b, .int .i64 b.c, .int .i64 b.d, .int .i64 b.e, .int .i64 b.f] 39) = w2 at hbox hw1
  have hw2s := hw1.size
  have hbox : Mi.Holds w2 Bb b := hbox
  have hBb : Bb < w2.heap.size := hbox.lt
  refine LoopI.inv (α := (Nat × Zn × List (Zn × Int)) × World × Value) (fun y => [(7, .val (.int .i64 y.1.1)), (6, .val y.2.2)]) (fun y => [⟨[.val (.int .i64 y.1.2.1.a), .val (.int .i64 y.1.2.1.b), .val (.int .i64 y.1.2.1.c), .val (.int .i64 y.1.2.1.d), .val (.int .i64 y.1.2.1.e), .val (.int .i64 y.1.2.1.f)], 39⟩]) (fun y => y.2.1)
    (fun y => y.1.1 ≤ 6 ∧ Below w.heap.size w y.2.1 ∧ w2.heap.size ≤ y.2.1.heap.size ∧ Mi.Holds y.2.1 Bb b ∧ Own 39 w2.heap.size y.2.1 y.2.2 (y.1.2.2.map (·.1)) ∧ Zo.chk y.1.2.1 = 0 ∧ (∀ x : Zn × Int, x ∈ y.1.2.2 → x.2 = 0) ∧ y.1.2.2.length ≤ 2 * y.1.1 ∧ y.1.2.2 ++ Mi.go b ([0, 1, 2, 3, 4, 5].drop y.1.1) y.1.2.1 = Mi.parts a b) (fun y => 6 - y.1.1) ?_ ?_
  · intro w3 h3
    have g3 := atB h3 (by simp)
    exact ⟨((0, a, []), w3, .slice none 0 0), Cov.mk (by repeat' (first | exact trivial | refine And.intro rfl ?_)) rfl rfl rfl rfl rfl, rfl, Nat.zero_le _, h3.below, g3.size, hbox.below g3, Own.nil, ha, by simp, by simp, rfl⟩
  rintro ⟨⟨k, x, pre⟩, V, sv⟩ ⟨hk, hV, hV2, hbx, hO, hx, hz, hpl, hpre⟩
  simp only at hk hV hV2 hbx hO hx hz hpl hpre
  refine Branch.mk (fun z1 => ?_) (fun z1 => ?_)
  · have hlt : k < 6 := by have := of_decide_eq_true z1; simp only at this; omega
    have hbl := Mi.get_lim (Zo.clo hb).1 hlt
    have hbm := Mi.lim_mayC hbl
    have hx0 := (Zo.clo hx).1
    have hok : Mi.other k < 6 := by unfold Mi.other; split <;> omega
    have hrow := fun g (h : sv.ownBlock = some g) => hO.lt g h
    rw [Mi.drop_six hlt] at hpre
    have n1 : sv.ownBlock ≠ some b1 := fun e => by have := (hrow b1 e).1; omega
    have nB : sv.ownBlock ≠ some Bb := fun e => by have := (hrow Bb e).1; omega
    have sit : Mi.LSit w w2 V Bb b sv (pre.map (·.1)) V := ⟨hV, hV2, Nat.le_refl _, hbx, hO⟩
    refine Need.mk (by simp only; omega) ?_
    refine LoadI.mk ⟨_, ⟨by rw [show (((k : Nat) : Int).toNat * 1) = k by simp]; exact sit.ha.cells k _ (Mi.cell_get b hlt), by simp⟩, ?_⟩
    refine Branch.mk (fun z2 => ?_) (fun z2 => ?_)
    · have hno : Zo.get b k = Dbm.NO := of_decide_eq_true z2
      rw [Mi.go, if_pos (Mi.not_no hno)] at hpre
      refine Need.mk (by simp only [inK]; omega) (EndI.mk fun w9 h9 => ⟨((k + 1, x, pre), w9, sv), Cov.mk (by repeat' (first | exact trivial | refine And.intro rfl ?_)) rfl rfl rfl rfl rfl, rfl, ?_, by simp only; omega⟩)
      have sit9 := sit.at h9 (by simp)
      exact ⟨hlt, sit9.below, sit9.size, sit9.ha, sit9.own, hx, hz, by simp only; omega, hpre⟩
    have hne : Zo.get b k ≠ Dbm.NO := of_decide_eq_false z2
    obtain ⟨hn1, hnm⟩ := Mi.not_mayC hbl hne
    rw [Mi.go, if_neg (by rw [hn1]; simp)] at hpre
    have hbn := hbl.resolve_left hne
    have hother : ∀ w, Calls Tryz.prog 298 #[.int .i64 (Zo.get b k)] w fun e w' => e = .returned (.int .i64 (Bd.not (Zo.get b k)).1) ∧ Below w.heap.size w w' := fun w => by
      refine (rother02_any (Zo.get b k) (by omega) (by omega) w).mono ?_
      rintro e w' ⟨rfl, rfl⟩
      rw [hn1]
      exact ⟨rfl, Below.refl _ _⟩
    generalize hr1v : Mi.wth x (Mi.other k) (Bd.not (Zo.get b k)).1 = r1 at hpre
    generalize hr2v : Mi.wth x k (Zo.get b k) = r2 at hpre
    have hc1 := Mi.wth_cases x (Mi.other k) (Bd.not (Zo.get b k)).1
    have hc2 := Mi.wth_cases x k (Zo.get b k)
    have hr2 : r2.2 = 0 → Zo.chk r2.1 = 0 := fun h => by rw [← hr2v] at h ⊢; exact (Mi.wth_ok hx0 hlt (Mi.lim_lt hbl (by omega)) h).1
    rw [hr1v] at hc1
    rw [hr2v] at hc2
    refine DrawI.go (.tk 0 (.tk 1 (.tk 3 (.tk 4 (.tk 5 (.two 2 (.two 6 (.two 7 (.tk 8 (.tk 9 (.tk 10 (.ev 11 (.ev 12 (.tk 13 .done)))))) 11 (.ev 7 (.tk 8 (.tk 9 (.tk 10 (.ev 12 (.tk 13 .done))))))) 11 (.ev 6 (.ev 7 (.tk 8 (.tk 9 (.tk 10 (.ev 12 (.tk 13 .done)))))))) 11 (.ev 2 (.ev 6 (.ev 7 (.tk 8 (.tk 9 (.tk 10 (.ev 12 (.tk 13 .done)))))))))))))) (by kernel_rfl) fun w3 h3 => ?_
    have sit := sit.at h3 (by simp)
    refine Need.mk (by simp only; omega) ?_
    refine LoadI.mk ⟨_, ⟨by rw [show (((k : Nat) : Int).toNat * 1) = k by simp]; exact sit.ha.cells k _ (Mi.cell_get b hlt), by simp⟩, ?_⟩
    refine Both.mk ?_ ?_
    · skip
      apply CallI.use1
      focus (exact fun w3 h3 => rother11_any k hlt w3)
      intro w3 v3 h3 hB3
      have sit := (sit.at h3 (fun x hx => by simp at hx <;> first | omega | (subst hx; exact .inr ⟨by omega, by assumption⟩) | (rcases hx with rfl | rfl <;> first | exact .inl (by omega) | exact .inr ⟨by omega, by assumption⟩))).go hw2s hB3
      refine Both.mk ?_ ?_
      · skip
        apply CallI.use1
        focus (exact fun w4 h4 => hother w4)
        intro w4 v4 h4 hB4
        have sit := (sit.at h4 (fun x hx => by simp at hx <;> first | omega | (subst hx; exact .inr ⟨by omega, by assumption⟩) | (rcases hx with rfl | rfl <;> first | exact .inl (by omega) | exact .inr ⟨by omega, by assumption⟩))).go hw2s hB4
        refine Both.mk ?_ ?_
        · skip
          apply CallI.use1
          focus (exact fun w5 h5 => rwith_any x hx0 (Mi.other k) hok (Bd.not (Zo.get b k)).1 hnm w5)
          intro w5 v5 h5 hB5
          have sit := (sit.at h5 (fun x hx => by simp at hx <;> first | omega | (subst hx; exact .inr ⟨by omega, by assumption⟩) | (rcases hx with rfl | rfl <;> first | exact .inl (by omega) | exact .inr ⟨by omega, by assumption⟩))).go hw2s hB5
          rw [hr1v]
          refine NewI.mk fun b9 hb9 => ?_
          have hb9' := Nat.le_trans sit.size0 hb9
          have n9 : sv.ownBlock ≠ some b9 := fun e => by have := (hrow b9 e).2; omega
          have m9 := hbx.lt
          refine Branch.mk (fun z3 => ?_) (fun z3 => ?_)
          · have e8 : r1.2 = 8 := by simpa using z3
            rw [if_neg (by omega)] at hpre
            rw [Mi.minus_err ha hb (p := pre) (y := r1) (by rw [← hpre]; simp; rfl) hz (by omega), e8]
            exact EndI.mk fun w9 h9 => ⟨_, _, rfl, Own.nil⟩
          have e8 : ¬ r1.2 = 8 := by simpa using z3
          refine Branch.mk (fun z4 => ?_) (fun z4 => ?_)
          · have e0 : r1.2 = 0 := by simpa using z4
            rw [if_neg (by omega)] at hpre
            obtain ⟨pre1, hpre1⟩ : ∃ p, p = pre ++ [r1] := ⟨_, rfl⟩
            have hp1 : pre1 ++ (if r2.2 = 6 then [] else (if r2.2 = 0 then [] else [r2]) ++ Mi.go b ([0, 1, 2, 3, 4, 5].drop (k + 1)) r2.1) = Mi.parts a b := by rw [hpre1, List.append_assoc]; exact hpre
            have hz1 : ∀ x : Zn × Int, x ∈ pre1 → x.2 = 0 := fun y hy => by
              rw [hpre1] at hy
              rcases List.mem_append.1 hy with hy | hy
              · exact hz y hy
              · rw [List.mem_singleton.1 hy]; exact e0
            have hpl1 : pre1.length ≤ 2 * k + 1 := by rw [hpre1]; simp; omega
            refine NewI.mk fun b10 hb10 => ?_
            have hb10' := Nat.le_trans sit.size0 hb10
            refine GenN.app (α := Zn) elZ (pre.map (·.1)) [r1.1] w2.heap.size (fun w5 h5 => (sit.at h5 (fun x hx => by simp at hx <;> first | omega | (subst hx; exact .inr ⟨by omega, by assumption⟩) | (rcases hx with rfl | rfl <;> first | exact .inl (by omega) | exact .inr ⟨by omega, by assumption⟩))).own) (fun w5 h5 => src_own h5 2 rfl rfl rfl rfl) (by unfold maxLen; simp; omega) (by simp; omega) (fun w5 h5 => Nat.le_trans sit.size h5.size)
              (fun w5 w6 h5 hg => keep_grown h5 hg (fun g hg' => ⟨Nat.le_trans hw2s (hrow g hg').1, fun hm => by have := hrow g hg'; simp at hm; omega⟩)) fun tv w5 w6 h5 hg hO' => ?_
            obtain ⟨at_, ct, rfl⟩ := hO'.form
            have emap : pre.map (·.1) ++ [r1.1] = pre1.map (·.1) := by rw [hpre1]; simp
            rw [emap] at hO' ⊢
            have sit := (sit.at h5 (fun x hx => by simp at hx <;> first | omega | (subst hx; exact .inr ⟨by omega, by assumption⟩) | (rcases hx with rfl | rfl <;> first | exact .inl (by omega) | exact .inr ⟨by omega, by assumption⟩))).grow hw2s nB hg hO'
            have n1 : (Value.slice at_ (pre1.map (·.1)).length ct).ownBlock ≠ some b1 := fun e => by have := (sit.own.lt b1 e).1; omega
            generalize Value.slice at_ (pre1.map (·.1)).length ct = tv at sit n1 ⊢
            refine DrawI.go (.tk 0 (.tk 1 (.tk 2 (.tk 3 (.tk 4 (.two 5 (.tk 6 (.tk 7 (.tk 8 (.ev 9 (.ev 10 (.tk 11 .done)))))) 9 (.ev 5 (.tk 6 (.tk 7 (.tk 8 (.ev 10 (.tk 11 .done)))))))))))) (by kernel_rfl) fun w8 h8 => ?_
            have sit := sit.at h8 (fun x hx => by simp at hx <;> first | omega | (subst hx; exact .inr ⟨by omega, by assumption⟩) | (rcases hx with rfl | rfl <;> first | exact .inl (by omega) | exact .inr ⟨by omega, by assumption⟩))
            refine Need.mk (by simp only; omega) ?_
            refine LoadI.mk ⟨_, ⟨by rw [show (((k : Nat) : Int).toNat * 1) = k by simp]; exact sit.ha.cells k _ (Mi.cell_get b hlt), by simp⟩, ?_⟩
            refine Both.mk ?_ ?_
            · skip
              apply CallI.use1
              focus (exact fun w6 h6 => rwith_any x hx0 k hlt (Zo.get b k) hbm w6)
              intro w6 v6 h6 hB6
              have sit := (sit.at h6 (fun x hx => by simp at hx <;> first | omega | (subst hx; exact .inr ⟨by omega, by assumption⟩) | (rcases hx with rfl | rfl <;> first | exact .inl (by omega) | exact .inr ⟨by omega, by assumption⟩))).go hw2s hB6
              rw [hr2v]
              refine NewI.mk fun b11 hb11 => ?_
              have hb11' := Nat.le_trans sit.size0 hb11
              have n11 : tv.ownBlock ≠ some b11 := fun e => by have := (sit.own.lt b11 e).2; omega
              have m11 := sit.ha.lt
              refine Branch.mk (fun z5 => ?_) (fun z5 => ?_)
              · have e6 : r2.2 = 6 := by simpa using z5
                rw [if_pos e6, List.append_nil] at hp1
                rw [Mi.minus_fin ha hb hp1 hz1]
                obtain ⟨ao, co, rfl⟩ := sit.own.form
                exact EndI.mk fun w9 h9 => ⟨ao, co, rfl, ((sit.at h9 (fun x hx => by simp at hx <;> first | omega | (subst hx; exact .inr ⟨by omega, by assumption⟩) | (rcases hx with rfl | rfl <;> first | exact .inl (by omega) | exact .inr ⟨by omega, by assumption⟩))).own).lower hw2s⟩
              have e6 : ¬ r2.2 = 6 := by simpa using z5
              rw [if_neg e6] at hp1
              refine Branch.mk (fun z6 => ?_) (fun z6 => ?_)
              · have e0 : ¬ r2.2 = 0 := by simpa using z6
                rw [if_neg e0] at hp1
                rw [Mi.minus_err ha hb (p := pre1) (y := r2) (q := Mi.go b ([0, 1, 2, 3, 4, 5].drop (k + 1)) r2.1) (by rw [← hp1]; simp) hz1 e0]
                exact EndI.mk fun w9 h9 => ⟨_, _, rfl, Own.nil⟩
              have e0 : r2.2 = 0 := by simpa using z6
              rw [if_pos e0, List.nil_append] at hp1
              refine Need.mk (by simp only [inK]; omega) (EndI.mk fun w9 h9 => ⟨((k + 1, r2.1, pre1), w9, tv), Cov.mk (by repeat' (first | exact trivial | refine And.intro rfl ?_)) rfl rfl rfl rfl rfl, rfl, ?_, by simp only; omega⟩)
              have sit9 := sit.at h9 (fun x hx => by simp at hx <;> first | omega | (subst hx; exact .inr ⟨by omega, by assumption⟩) | (rcases hx with rfl | rfl <;> first | exact .inl (by omega) | exact .inr ⟨by omega, by assumption⟩))
              exact ⟨hlt, sit9.below, sit9.size, sit9.ha, sit9.own, hr2 e0, hz1, by simp only; omega, hp1⟩
            · skip
              refine NewI.mk fun b11 hb11 => ?_
              have hb11' := Nat.le_trans sit.size0 hb11
              have n11 : tv.ownBlock ≠ some b11 := fun e => by have := (sit.own.lt b11 e).2; omega
              have m11 := sit.ha.lt
              apply CallI.use1
              focus (exact fun w6 h6 => rwith_any x hx0 k hlt (Zo.get b k) hbm w6)
              intro w6 v6 h6 hB6
              have sit := (sit.at h6 (fun x hx => by simp at hx <;> first | omega | (subst hx; exact .inr ⟨by omega, by assumption⟩) | (rcases hx with rfl | rfl <;> first | exact .inl (by omega) | exact .inr ⟨by omega, by assumption⟩))).go hw2s hB6
              rw [hr2v]
              refine Branch.mk (fun z5 => ?_) (fun z5 => ?_)
              · have e6 : r2.2 = 6 := by simpa using z5
                rw [if_pos e6, List.append_nil] at hp1
                rw [Mi.minus_fin ha hb hp1 hz1]
                obtain ⟨ao, co, rfl⟩ := sit.own.form
                exact EndI.mk fun w9 h9 => ⟨ao, co, rfl, ((sit.at h9 (fun x hx => by simp at hx <;> first | omega | (subst hx; exact .inr ⟨by omega, by assumption⟩) | (rcases hx with rfl | rfl <;> first | exact .inl (by omega) | exact .inr ⟨by omega, by assumption⟩))).own).lower hw2s⟩
              have e6 : ¬ r2.2 = 6 := by simpa using z5
              rw [if_neg e6] at hp1
              refine Branch.mk (fun z6 => ?_) (fun z6 => ?_)
              · have e0 : ¬ r2.2 = 0 := by simpa using z6
                rw [if_neg e0] at hp1
                rw [Mi.minus_err ha hb (p := pre1) (y := r2) (q := Mi.go b ([0, 1, 2, 3, 4, 5].drop (k + 1)) r2.1) (by rw [← hp1]; simp) hz1 e0]
                exact EndI.mk fun w9 h9 => ⟨_, _, rfl, Own.nil⟩
              have e0 : r2.2 = 0 := by simpa using z6
              rw [if_pos e0, List.nil_append] at hp1
              refine Need.mk (by simp only [inK]; omega) (EndI.mk fun w9 h9 => ⟨((k + 1, r2.1, pre1), w9, tv), Cov.mk (by repeat' (first | exact trivial | refine And.intro rfl ?_)) rfl rfl rfl rfl rfl, rfl, ?_, by simp only; omega⟩)
              have sit9 := sit.at h9 (fun x hx => by simp at hx <;> first | omega | (subst hx; exact .inr ⟨by omega, by assumption⟩) | (rcases hx with rfl | rfl <;> first | exact .inl (by omega) | exact .inr ⟨by omega, by assumption⟩))
              exact ⟨hlt, sit9.below, sit9.size, sit9.ha, sit9.own, hr2 e0, hz1, by simp only; omega, hp1⟩
          · have e0 : ¬ r1.2 = 0 := by simpa using z4
            have e6 : r1.2 = 6 := by omega
            rw [if_pos e6, List.nil_append] at hpre
            obtain ⟨pre1, hpre1⟩ : ∃ p, p = pre := ⟨_, rfl⟩
            rw [← hpre1] at hpre hz sit
            have hp1 := hpre
            have hz1 := hz
            have hpl1 : pre1.length ≤ 2 * k + 1 := by rw [hpre1]; omega
            generalize sv = tv at sit n1 n9 ⊢
            refine DrawI.go (.tk 0 (.tk 1 (.tk 2 (.tk 3 (.tk 4 (.two 5 (.tk 6 (.tk 7 (.tk 8 (.ev 9 (.ev 10 (.tk 11 .done)))))) 9 (.ev 5 (.tk 6 (.tk 7 (.tk 8 (.ev 10 (.tk 11 .done)))))))))))) (by kernel_rfl) fun w8 h8 => ?_
            have sit := sit.at h8 (fun x hx => by simp at hx <;> first | omega | (subst hx; exact .inr ⟨by omega, by assumption⟩) | (rcases hx with rfl | rfl <;> first | exact .inl (by omega) | exact .inr ⟨by omega, by assumption⟩))
            refine Need.mk (by simp only; omega) ?_
            refine LoadI.mk ⟨_, ⟨by rw [show (((k : Nat) : Int).toNat * 1) = k by simp]; exact sit.ha.cells k _ (Mi.cell_get b hlt), by simp⟩, ?_⟩
            refine Both.mk ?_ ?_
            · skip
              apply CallI.use1
              focus (exact fun w6 h6 => rwith_any x hx0 k hlt (Zo.get b k) hbm w6)
              intro w6 v6 h6 hB6
              have sit := (sit.at h6 (fun x hx => by simp at hx <;> first | omega | (subst hx; exact .inr ⟨by omega, by assumption⟩) | (rcases hx with rfl | rfl <;> first | exact .inl (by omega) | exact .inr ⟨by omega, by assumption⟩))).go hw2s hB6
              rw [hr2v]
              refine NewI.mk fun b11 hb11 => ?_
              have hb11' := Nat.le_trans sit.size0 hb11
              have n11 : tv.ownBlock ≠ some b11 := fun e => by have := (sit.own.lt b11 e).2; omega
              have m11 := sit.ha.lt
              refine Branch.mk (fun z5 => ?_) (fun z5 => ?_)
              · have e6 : r2.2 = 6 := by simpa using z5
                rw [if_pos e6, List.append_nil] at hp1
                rw [Mi.minus_fin ha hb hp1 hz1]
                obtain ⟨ao, co, rfl⟩ := sit.own.form
                exact EndI.mk fun w9 h9 => ⟨ao, co, rfl, ((sit.at h9 (fun x hx => by simp at hx <;> first | omega | (subst hx; exact .inr ⟨by omega, by assumption⟩) | (rcases hx with rfl | rfl <;> first | exact .inl (by omega) | exact .inr ⟨by omega, by assumption⟩))).own).lower hw2s⟩
              have e6 : ¬ r2.2 = 6 := by simpa using z5
              rw [if_neg e6] at hp1
              refine Branch.mk (fun z6 => ?_) (fun z6 => ?_)
              · have e0 : ¬ r2.2 = 0 := by simpa using z6
                rw [if_neg e0] at hp1
                rw [Mi.minus_err ha hb (p := pre1) (y := r2) (q := Mi.go b ([0, 1, 2, 3, 4, 5].drop (k + 1)) r2.1) (by rw [← hp1]; simp) hz1 e0]
                exact EndI.mk fun w9 h9 => ⟨_, _, rfl, Own.nil⟩
              have e0 : r2.2 = 0 := by simpa using z6
              rw [if_pos e0, List.nil_append] at hp1
              refine Need.mk (by simp only [inK]; omega) (EndI.mk fun w9 h9 => ⟨((k + 1, r2.1, pre1), w9, tv), Cov.mk (by repeat' (first | exact trivial | refine And.intro rfl ?_)) rfl rfl rfl rfl rfl, rfl, ?_, by simp only; omega⟩)
              have sit9 := sit.at h9 (fun x hx => by simp at hx <;> first | omega | (subst hx; exact .inr ⟨by omega, by assumption⟩) | (rcases hx with rfl | rfl <;> first | exact .inl (by omega) | exact .inr ⟨by omega, by assumption⟩))
              exact ⟨hlt, sit9.below, sit9.size, sit9.ha, sit9.own, hr2 e0, hz1, by simp only; omega, hp1⟩
            · skip
              refine NewI.mk fun b11 hb11 => ?_
              have hb11' := Nat.le_trans sit.size0 hb11
              have n11 : tv.ownBlock ≠ some b11 := fun e => by have := (sit.own.lt b11 e).2; omega
              have m11 := sit.ha.lt
              apply CallI.use1
              focus (exact fun w6 h6 => rwith_any x hx0 k hlt (Zo.get b k) hbm w6)
              intro w6 v6 h6 hB6
              have sit := (sit.at h6 (fun x hx => by simp at hx <;> first | omega | (subst hx; exact .inr ⟨by omega, by assumption⟩) | (rcases hx with rfl | rfl <;> first | exact .inl (by omega) | exact .inr ⟨by omega, by assumption⟩))).go hw2s hB6
              rw [hr2v]
              refine Branch.mk (fun z5 => ?_) (fun z5 => ?_)
              · have e6 : r2.2 = 6 := by simpa using z5
                rw [if_pos e6, List.append_nil] at hp1
                rw [Mi.minus_fin ha hb hp1 hz1]
                obtain ⟨ao, co, rfl⟩ := sit.own.form
                exact EndI.mk fun w9 h9 => ⟨ao, co, rfl, ((sit.at h9 (fun x hx => by simp at hx <;> first | omega | (subst hx; exact .inr ⟨by omega, by assumption⟩) | (rcases hx with rfl | rfl <;> first | exact .inl (by omega) | exact .inr ⟨by omega, by assumption⟩))).own).lower hw2s⟩
              have e6 : ¬ r2.2 = 6 := by simpa using z5
              rw [if_neg e6] at hp1
              refine Branch.mk (fun z6 => ?_) (fun z6 => ?_)
              · have e0 : ¬ r2.2 = 0 := by simpa using z6
                rw [if_neg e0] at hp1
                rw [Mi.minus_err ha hb (p := pre1) (y := r2) (q := Mi.go b ([0, 1, 2, 3, 4, 5].drop (k + 1)) r2.1) (by rw [← hp1]; simp) hz1 e0]
                exact EndI.mk fun w9 h9 => ⟨_, _, rfl, Own.nil⟩
              have e0 : r2.2 = 0 := by simpa using z6
              rw [if_pos e0, List.nil_append] at hp1
              refine Need.mk (by simp only [inK]; omega) (EndI.mk fun w9 h9 => ⟨((k + 1, r2.1, pre1), w9, tv), Cov.mk (by repeat' (first | exact trivial | refine And.intro rfl ?_)) rfl rfl rfl rfl rfl, rfl, ?_, by simp only; omega⟩)
              have sit9 := sit.at h9 (fun x hx => by simp at hx <;> first | omega | (subst hx; exact .inr ⟨by omega, by assumption⟩) | (rcases hx with rfl | rfl <;> first | exact .inl (by omega) | exact .inr ⟨by omega, by assumption⟩))
              exact ⟨hlt, sit9.below, sit9.size, sit9.ha, sit9.own, hr2 e0, hz1, by simp only; omega, hp1⟩
        · skip
          refine NewI.mk fun b9 hb9 => ?_
          have hb9' := Nat.le_trans sit.size0 hb9
          have n9 : sv.ownBlock ≠ some b9 := fun e => by have := (hrow b9 e).2; omega
          have m9 := hbx.lt
          apply CallI.use1
          focus (exact fun w5 h5 => rwith_any x hx0 (Mi.other k) hok (Bd.not (Zo.get b k)).1 hnm w5)
          intro w5 v5 h5 hB5
          have sit := (sit.at h5 (fun x hx => by simp at hx <;> first | omega | (subst hx; exact .inr ⟨by omega, by assumption⟩) | (rcases hx with rfl | rfl <;> first | exact .inl (by omega) | exact .inr ⟨by omega, by assumption⟩))).go hw2s hB5
          rw [hr1v]
          refine Branch.mk (fun z3 => ?_) (fun z3 => ?_)
          · have e8 : r1.2 = 8 := by simpa using z3
            rw [if_neg (by omega)] at hpre
            rw [Mi.minus_err ha hb (p := pre) (y := r1) (by rw [← hpre]; simp; rfl) hz (by omega), e8]
            exact EndI.mk fun w9 h9 => ⟨_, _, rfl, Own.nil⟩
          have e8 : ¬ r1.2 = 8 := by simpa using z3
          refine Branch.mk (fun z4 => ?_) (fun z4 => ?_)
          · have e0 : r1.2 = 0 := by simpa using z4
            rw [if_neg (by omega)] at hpre
            obtain ⟨pre1, hpre1⟩ : ∃ p, p = pre ++ [r1] := ⟨_, rfl⟩
            have hp1 : pre1 ++ (if r2.2 = 6 then [] else (if r2.2 = 0 then [] else [r2]) ++ Mi.go b ([0, 1, 2, 3, 4, 5].drop (k + 1)) r2.1) = Mi.parts a b := by rw [hpre1, List.append_assoc]; exact hpre
            have hz1 : ∀ x : Zn × Int, x ∈ pre1 → x.2 = 0 := fun y hy => by
              rw [hpre1] at hy
              rcases List.mem_append.1 hy with hy | hy
              · exact hz y hy
              · rw [List.mem_singleton.1 hy]; exact e0
            have hpl1 : pre1.length ≤ 2 * k + 1 := by rw [hpre1]; simp; omega
            refine NewI.mk fun b10 hb10 => ?_
            have hb10' := Nat.le_trans sit.size0 hb10
            refine GenN.app (α := Zn) elZ (pre.map (·.1)) [r1.1] w2.heap.size (fun w5 h5 => (sit.at h5 (fun x hx => by simp at hx <;> first | omega | (subst hx; exact .inr ⟨by omega, by assumption⟩) | (rcases hx with rfl | rfl <;> first | exact .inl (by omega) | exact .inr ⟨by omega, by assumption⟩))).own) (fun w5 h5 => src_own h5 2 rfl rfl rfl rfl) (by unfold maxLen; simp; omega) (by simp; omega) (fun w5 h5 => Nat.le_trans sit.size h5.size)
              (fun w5 w6 h5 hg => keep_grown h5 hg (fun g hg' => ⟨Nat.le_trans hw2s (hrow g hg').1, fun hm => by have := hrow g hg'; simp at hm; omega⟩)) fun tv w5 w6 h5 hg hO' => ?_
            obtain ⟨at_, ct, rfl⟩ := hO'.form
            have emap : pre.map (·.1) ++ [r1.1] = pre1.map (·.1) := by rw [hpre1]; simp
            rw [emap] at hO' ⊢
            have sit := (sit.at h5 (fun x hx => by simp at hx <;> first | omega | (subst hx; exact .inr ⟨by omega, by assumption⟩) | (rcases hx with rfl | rfl <;> first | exact .inl (by omega) | exact .inr ⟨by omega, by assumption⟩))).grow hw2s nB hg hO'
            have n1 : (Value.slice at_ (pre1.map (·.1)).length ct).ownBlock ≠ some b1 := fun e => by have := (sit.own.lt b1 e).1; omega
            generalize Value.slice at_ (pre1.map (·.1)).length ct = tv at sit n1 ⊢
            refine DrawI.go (.tk 0 (.tk 1 (.tk 2 (.tk 3 (.tk 4 (.two 5 (.tk 6 (.tk 7 (.tk 8 (.ev 9 (.ev 10 (.tk 11 .done)))))) 9 (.ev 5 (.tk 6 (.tk 7 (.tk 8 (.ev 10 (.tk 11 .done)))))))))))) (by kernel_rfl) fun w8 h8 => ?_
            have sit := sit.at h8 (fun x hx => by simp at hx <;> first | omega | (subst hx; exact .inr ⟨by omega, by assumption⟩) | (rcases hx with rfl | rfl <;> first | exact .inl (by omega) | exact .inr ⟨by omega, by assumption⟩))
            refine Need.mk (by simp only; omega) ?_
            refine LoadI.mk ⟨_, ⟨by rw [show (((k : Nat) : Int).toNat * 1) = k by simp]; exact sit.ha.cells k _ (Mi.cell_get b hlt), by simp⟩, ?_⟩
            refine Both.mk ?_ ?_
            · skip
              apply CallI.use1
              focus (exact fun w6 h6 => rwith_any x hx0 k hlt (Zo.get b k) hbm w6)
              intro w6 v6 h6 hB6
              have sit := (sit.at h6 (fun x hx => by simp at hx <;> first | omega | (subst hx; exact .inr ⟨by omega, by assumption⟩) | (rcases hx with rfl | rfl <;> first | exact .inl (by omega) | exact .inr ⟨by omega, by assumption⟩))).go hw2s hB6
              rw [hr2v]
              refine NewI.mk fun b11 hb11 => ?_
              have hb11' := Nat.le_trans sit.size0 hb11
              have n11 : tv.ownBlock ≠ some b11 := fun e => by have := (sit.own.lt b11 e).2; omega
              have m11 := sit.ha.lt
              refine Branch.mk (fun z5 => ?_) (fun z5 => ?_)
              · have e6 : r2.2 = 6 := by simpa using z5
                rw [if_pos e6, List.append_nil] at hp1
                rw [Mi.minus_fin ha hb hp1 hz1]
                obtain ⟨ao, co, rfl⟩ := sit.own.form
                exact EndI.mk fun w9 h9 => ⟨ao, co, rfl, ((sit.at h9 (fun x hx => by simp at hx <;> first | omega | (subst hx; exact .inr ⟨by omega, by assumption⟩) | (rcases hx with rfl | rfl <;> first | exact .inl (by omega) | exact .inr ⟨by omega, by assumption⟩))).own).lower hw2s⟩
              have e6 : ¬ r2.2 = 6 := by simpa using z5
              rw [if_neg e6] at hp1
              refine Branch.mk (fun z6 => ?_) (fun z6 => ?_)
              · have e0 : ¬ r2.2 = 0 := by simpa using z6
                rw [if_neg e0] at hp1
                rw [Mi.minus_err ha hb (p := pre1) (y := r2) (q := Mi.go b ([0, 1, 2, 3, 4, 5].drop (k + 1)) r2.1) (by rw [← hp1]; simp) hz1 e0]
                exact EndI.mk fun w9 h9 => ⟨_, _, rfl, Own.nil⟩
              have e0 : r2.2 = 0 := by simpa using z6
              rw [if_pos e0, List.nil_append] at hp1
              refine Need.mk (by simp only [inK]; omega) (EndI.mk fun w9 h9 => ⟨((k + 1, r2.1, pre1), w9, tv), Cov.mk (by repeat' (first | exact trivial | refine And.intro rfl ?_)) rfl rfl rfl rfl rfl, rfl, ?_, by simp only; omega⟩)
              have sit9 := sit.at h9 (fun x hx => by simp at hx <;> first | omega | (subst hx; exact .inr ⟨by omega, by assumption⟩) | (rcases hx with rfl | rfl <;> first | exact .inl (by omega) | exact .inr ⟨by omega, by assumption⟩))
              exact ⟨hlt, sit9.below, sit9.size, sit9.ha, sit9.own, hr2 e0, hz1, by simp only; omega, hp1⟩
            · skip
              refine NewI.mk fun b11 hb11 => ?_
              have hb11' := Nat.le_trans sit.size0 hb11
              have n11 : tv.ownBlock ≠ some b11 := fun e => by have := (sit.own.lt b11 e).2; omega
              have m11 := sit.ha.lt
              apply CallI.use1
              focus (exact fun w6 h6 => rwith_any x hx0 k hlt (Zo.get b k) hbm w6)
              intro w6 v6 h6 hB6
              have sit := (sit.at h6 (fun x hx => by simp at hx <;> first | omega | (subst hx; exact .inr ⟨by omega, by assumption⟩) | (rcases hx with rfl | rfl <;> first | exact .inl (by omega) | exact .inr ⟨by omega, by assumption⟩))).go hw2s hB6
              rw [hr2v]
              refine Branch.mk (fun z5 => ?_) (fun z5 => ?_)
              · have e6 : r2.2 = 6 := by simpa using z5
                rw [if_pos e6, List.append_nil] at hp1
                rw [Mi.minus_fin ha hb hp1 hz1]
                obtain ⟨ao, co, rfl⟩ := sit.own.form
                exact EndI.mk fun w9 h9 => ⟨ao, co, rfl, ((sit.at h9 (fun x hx => by simp at hx <;> first | omega | (subst hx; exact .inr ⟨by omega, by assumption⟩) | (rcases hx with rfl | rfl <;> first | exact .inl (by omega) | exact .inr ⟨by omega, by assumption⟩))).own).lower hw2s⟩
              have e6 : ¬ r2.2 = 6 := by simpa using z5
              rw [if_neg e6] at hp1
              refine Branch.mk (fun z6 => ?_) (fun z6 => ?_)
              · have e0 : ¬ r2.2 = 0 := by simpa using z6
                rw [if_neg e0] at hp1
                rw [Mi.minus_err ha hb (p := pre1) (y := r2) (q := Mi.go b ([0, 1, 2, 3, 4, 5].drop (k + 1)) r2.1) (by rw [← hp1]; simp) hz1 e0]
                exact EndI.mk fun w9 h9 => ⟨_, _, rfl, Own.nil⟩
              have e0 : r2.2 = 0 := by simpa using z6
              rw [if_pos e0, List.nil_append] at hp1
              refine Need.mk (by simp only [inK]; omega) (EndI.mk fun w9 h9 => ⟨((k + 1, r2.1, pre1), w9, tv), Cov.mk (by repeat' (first | exact trivial | refine And.intro rfl ?_)) rfl rfl rfl rfl rfl, rfl, ?_, by simp only; omega⟩)
              have sit9 := sit.at h9 (fun x hx => by simp at hx <;> first | omega | (subst hx; exact .inr ⟨by omega, by assumption⟩) | (rcases hx with rfl | rfl <;> first | exact .inl (by omega) | exact .inr ⟨by omega, by assumption⟩))
              exact ⟨hlt, sit9.below, sit9.size, sit9.ha, sit9.own, hr2 e0, hz1, by simp only; omega, hp1⟩
          · have e0 : ¬ r1.2 = 0 := by simpa using z4
            have e6 : r1.2 = 6 := by omega
            rw [if_pos e6, List.nil_append] at hpre
            obtain ⟨pre1, hpre1⟩ : ∃ p, p = pre := ⟨_, rfl⟩
            rw [← hpre1] at hpre hz sit
            have hp1 := hpre
            have hz1 := hz
            have hpl1 : pre1.length ≤ 2 * k + 1 := by rw [hpre1]; omega
            generalize sv = tv at sit n1 n9 ⊢
            refine DrawI.go (.tk 0 (.tk 1 (.tk 2 (.tk 3 (.tk 4 (.two 5 (.tk 6 (.tk 7 (.tk 8 (.ev 9 (.ev 10 (.tk 11 .done)))))) 9 (.ev 5 (.tk 6 (.tk 7 (.tk 8 (.ev 10 (.tk 11 .done)))))))))))) (by kernel_rfl) fun w8 h8 => ?_
            have sit := sit.at h8 (fun x hx => by simp at hx <;> first | omega | (subst hx; exact .inr ⟨by omega, by assumption⟩) | (rcases hx with rfl | rfl <;> first | exact .inl (by omega) | exact .inr ⟨by omega, by assumption⟩))
            refine Need.mk (by simp only; omega) ?_
            refine LoadI.mk ⟨_, ⟨by rw [show (((k : Nat) : Int).toNat * 1) = k by simp]; exact sit.ha.cells k _ (Mi.cell_get b hlt), by simp⟩, ?_⟩
            refine Both.mk ?_ ?_
            · skip
              apply CallI.use1
              focus (exact fun w6 h6 => rwith_any x hx0 k hlt (Zo.get b k) hbm w6)
              intro w6 v6 h6 hB6
              have sit := (sit.at h6 (fun x hx => by simp at hx <;> first | omega | (subst hx; exact .inr ⟨by omega, by assumption⟩) | (rcases hx with rfl | rfl <;> first | exact .inl (by omega) | exact .inr ⟨by omega, by assumption⟩))).go hw2s hB6
              rw [hr2v]
              refine NewI.mk fun b11 hb11 => ?_
              have hb11' := Nat.le_trans sit.size0 hb11
              have n11 : tv.ownBlock ≠ some b11 := fun e => by have := (sit.own.lt b11 e).2; omega
              have m11 := sit.ha.lt
              refine Branch.mk (fun z5 => ?_) (fun z5 => ?_)
              · have e6 : r2.2 = 6 := by simpa using z5
                rw [if_pos e6, List.append_nil] at hp1
                rw [Mi.minus_fin ha hb hp1 hz1]
                obtain ⟨ao, co, rfl⟩ := sit.own.form
                exact EndI.mk fun w9 h9 => ⟨ao, co, rfl, ((sit.at h9 (fun x hx => by simp at hx <;> first | omega | (subst hx; exact .inr ⟨by omega, by assumption⟩) | (rcases hx with rfl | rfl <;> first | exact .inl (by omega) | exact .inr ⟨by omega, by assumption⟩))).own).lower hw2s⟩
              have e6 : ¬ r2.2 = 6 := by simpa using z5
              rw [if_neg e6] at hp1
              refine Branch.mk (fun z6 => ?_) (fun z6 => ?_)
              · have e0 : ¬ r2.2 = 0 := by simpa using z6
                rw [if_neg e0] at hp1
                rw [Mi.minus_err ha hb (p := pre1) (y := r2) (q := Mi.go b ([0, 1, 2, 3, 4, 5].drop (k + 1)) r2.1) (by rw [← hp1]; simp) hz1 e0]
                exact EndI.mk fun w9 h9 => ⟨_, _, rfl, Own.nil⟩
              have e0 : r2.2 = 0 := by simpa using z6
              rw [if_pos e0, List.nil_append] at hp1
              refine Need.mk (by simp only [inK]; omega) (EndI.mk fun w9 h9 => ⟨((k + 1, r2.1, pre1), w9, tv), Cov.mk (by repeat' (first | exact trivial | refine And.intro rfl ?_)) rfl rfl rfl rfl rfl, rfl, ?_, by simp only; omega⟩)
              have sit9 := sit.at h9 (fun x hx => by simp at hx <;> first | omega | (subst hx; exact .inr ⟨by omega, by assumption⟩) | (rcases hx with rfl | rfl <;> first | exact .inl (by omega) | exact .inr ⟨by omega, by assumption⟩))
              exact ⟨hlt, sit9.below, sit9.size, sit9.ha, sit9.own, hr2 e0, hz1, by simp only; omega, hp1⟩
            · skip
              refine NewI.mk fun b11 hb11 => ?_
              have hb11' := Nat.le_trans sit.size0 hb11
              have n11 : tv.ownBlock ≠ some b11 := fun e => by have := (sit.own.lt b11 e).2; omega
              have m11 := sit.ha.lt
              apply CallI.use1
              focus (exact fun w6 h6 => rwith_any x hx0 k hlt (Zo.get b k) hbm w6)
              intro w6 v6 h6 hB6
              have sit := (sit.at h6 (fun x hx => by simp at hx <;> first | omega | (subst hx; exact .inr ⟨by omega, by assumption⟩) | (rcases hx with rfl | rfl <;> first | exact .inl (by omega) | exact .inr ⟨by omega, by assumption⟩))).go hw2s hB6
              rw [hr2v]
              refine Branch.mk (fun z5 => ?_) (fun z5 => ?_)
              · have e6 : r2.2 = 6 := by simpa using z5
                rw [if_pos e6, List.append_nil] at hp1
                rw [Mi.minus_fin ha hb hp1 hz1]
                obtain ⟨ao, co, rfl⟩ := sit.own.form
                exact EndI.mk fun w9 h9 => ⟨ao, co, rfl, ((sit.at h9 (fun x hx => by simp at hx <;> first | omega | (subst hx; exact .inr ⟨by omega, by assumption⟩) | (rcases hx with rfl | rfl <;> first | exact .inl (by omega) | exact .inr ⟨by omega, by assumption⟩))).own).lower hw2s⟩
              have e6 : ¬ r2.2 = 6 := by simpa using z5
              rw [if_neg e6] at hp1
              refine Branch.mk (fun z6 => ?_) (fun z6 => ?_)
              · have e0 : ¬ r2.2 = 0 := by simpa using z6
                rw [if_neg e0] at hp1
                rw [Mi.minus_err ha hb (p := pre1) (y := r2) (q := Mi.go b ([0, 1, 2, 3, 4, 5].drop (k + 1)) r2.1) (by rw [← hp1]; simp) hz1 e0]
                exact EndI.mk fun w9 h9 => ⟨_, _, rfl, Own.nil⟩
              have e0 : r2.2 = 0 := by simpa using z6
              rw [if_pos e0, List.nil_append] at hp1
              refine Need.mk (by simp only [inK]; omega) (EndI.mk fun w9 h9 => ⟨((k + 1, r2.1, pre1), w9, tv), Cov.mk (by repeat' (first | exact trivial | refine And.intro rfl ?_)) rfl rfl rfl rfl rfl, rfl, ?_, by simp only; omega⟩)
              have sit9 := sit.at h9 (fun x hx => by simp at hx <;> first | omega | (subst hx; exact .inr ⟨by omega, by assumption⟩) | (rcases hx with rfl | rfl <;> first | exact .inl (by omega) | exact .inr ⟨by omega, by assumption⟩))
              exact ⟨hlt, sit9.below, sit9.size, sit9.ha, sit9.own, hr2 e0, hz1, by simp only; omega, hp1⟩
      · skip
        refine NewI.mk fun b9 hb9 => ?_
        have hb9' := Nat.le_trans sit.size0 hb9
        have n9 : sv.ownBlock ≠ some b9 := fun e => by have := (hrow b9 e).2; omega
        have m9 := hbx.lt
        apply CallI.use1
        focus (exact fun w4 h4 => hother w4)
        intro w4 v4 h4 hB4
        have sit := (sit.at h4 (fun x hx => by simp at hx <;> first | omega | (subst hx; exact .inr ⟨by omega, by assumption⟩) | (rcases hx with rfl | rfl <;> first | exact .inl (by omega) | exact .inr ⟨by omega, by assumption⟩))).go hw2s hB4
        apply CallI.use1
        focus (exact fun w5 h5 => rwith_any x hx0 (Mi.other k) hok (Bd.not (Zo.get b k)).1 hnm w5)
        intro w5 v5 h5 hB5
        have sit := (sit.at h5 (fun x hx => by simp at hx <;> first | omega | (subst hx; exact .inr ⟨by omega, by assumption⟩) | (rcases hx with rfl | rfl <;> first | exact .inl (by omega) | exact .inr ⟨by omega, by assumption⟩))).go hw2s hB5
        rw [hr1v]
        refine Branch.mk (fun z3 => ?_) (fun z3 => ?_)
        · have e8 : r1.2 = 8 := by simpa using z3
          rw [if_neg (by omega)] at hpre
          rw [Mi.minus_err ha hb (p := pre) (y := r1) (by rw [← hpre]; simp; rfl) hz (by omega), e8]
          exact EndI.mk fun w9 h9 => ⟨_, _, rfl, Own.nil⟩
        have e8 : ¬ r1.2 = 8 := by simpa using z3
        refine Branch.mk (fun z4 => ?_) (fun z4 => ?_)
        · have e0 : r1.2 = 0 := by simpa using z4
          rw [if_neg (by omega)] at hpre
          obtain ⟨pre1, hpre1⟩ : ∃ p, p = pre ++ [r1] := ⟨_, rfl⟩
          have hp1 : pre1 ++ (if r2.2 = 6 then [] else (if r2.2 = 0 then [] else [r2]) ++ Mi.go b ([0, 1, 2, 3, 4, 5].drop (k + 1)) r2.1) = Mi.parts a b := by rw [hpre1, List.append_assoc]; exact hpre
          have hz1 : ∀ x : Zn × Int, x ∈ pre1 → x.2 = 0 := fun y hy => by
            rw [hpre1] at hy
            rcases List.mem_append.1 hy with hy | hy
            · exact hz y hy
            · rw [List.mem_singleton.1 hy]; exact e0
          have hpl1 : pre1.length ≤ 2 * k + 1 := by rw [hpre1]; simp; omega
          refine NewI.mk fun b10 hb10 => ?_
          have hb10' := Nat.le_trans sit.size0 hb10
          refine GenN.app (α := Zn) elZ (pre.map (·.1)) [r1.1] w2.heap.size (fun w5 h5 => (sit.at h5 (fun x hx => by simp at hx <;> first | omega | (subst hx; exact .inr ⟨by omega, by assumption⟩) | (rcases hx with rfl | rfl <;> first | exact .inl (by omega) | exact .inr ⟨by omega, by assumption⟩))).own) (fun w5 h5 => src_own h5 2 rfl rfl rfl rfl) (by unfold maxLen; simp; omega) (by simp; omega) (fun w5 h5 => Nat.le_trans sit.size h5.size)
            (fun w5 w6 h5 hg => keep_grown h5 hg (fun g hg' => ⟨Nat.le_trans hw2s (hrow g hg').1, fun hm => by have := hrow g hg'; simp at hm; omega⟩)) fun tv w5 w6 h5 hg hO' => ?_
          obtain ⟨at_, ct, rfl⟩ := hO'.form
          have emap : pre.map (·.1) ++ [r1.1] = pre1.map (·.1) := by rw [hpre1]; simp
          rw [emap] at hO' ⊢
          have sit := (sit.at h5 (fun x hx => by simp at hx <;> first | omega | (subst hx; exact .inr ⟨by omega, by assumption⟩) | (rcases hx with rfl | rfl <;> first | exact .inl (by omega) | exact .inr ⟨by omega, by assumption⟩))).grow hw2s nB hg hO'
          have n1 : (Value.slice at_ (pre1.map (·.1)).length ct).ownBlock ≠ some b1 := fun e => by have := (sit.own.lt b1 e).1; omega
          generalize Value.slice at_ (pre1.map (·.1)).length ct = tv at sit n1 ⊢
          refine DrawI.go (.tk 0 (.tk 1 (.tk 2 (.tk 3 (.tk 4 (.two 5 (.tk 6 (.tk 7 (.tk 8 (.ev 9 (.ev 10 (.tk 11 .done)))))) 9 (.ev 5 (.tk 6 (.tk 7 (.tk 8 (.ev 10 (.tk 11 .done)))))))))))) (by kernel_rfl) fun w8 h8 => ?_
          have sit := sit.at h8 (fun x hx => by simp at hx <;> first | omega | (subst hx; exact .inr ⟨by omega, by assumption⟩) | (rcases hx with rfl | rfl <;> first | exact .inl (by omega) | exact .inr ⟨by omega, by assumption⟩))
          refine Need.mk (by simp only; omega) ?_
          refine LoadI.mk ⟨_, ⟨by rw [show (((k : Nat) : Int).toNat * 1) = k by simp]; exact sit.ha.cells k _ (Mi.cell_get b hlt), by simp⟩, ?_⟩
          refine Both.mk ?_ ?_
          · skip
            apply CallI.use1
            focus (exact fun w6 h6 => rwith_any x hx0 k hlt (Zo.get b k) hbm w6)
            intro w6 v6 h6 hB6
            have sit := (sit.at h6 (fun x hx => by simp at hx <;> first | omega | (subst hx; exact .inr ⟨by omega, by assumption⟩) | (rcases hx with rfl | rfl <;> first | exact .inl (by omega) | exact .inr ⟨by omega, by assumption⟩))).go hw2s hB6
            rw [hr2v]
            refine NewI.mk fun b11 hb11 => ?_
            have hb11' := Nat.le_trans sit.size0 hb11
            have n11 : tv.ownBlock ≠ some b11 := fun e => by have := (sit.own.lt b11 e).2; omega
            have m11 := sit.ha.lt
            refine Branch.mk (fun z5 => ?_) (fun z5 => ?_)
            · have e6 : r2.2 = 6 := by simpa using z5
              rw [if_pos e6, List.append_nil] at hp1
              rw [Mi.minus_fin ha hb hp1 hz1]
              obtain ⟨ao, co, rfl⟩ := sit.own.form
              exact EndI.mk fun w9 h9 => ⟨ao, co, rfl, ((sit.at h9 (fun x hx => by simp at hx <;> first | omega | (subst hx; exact .inr ⟨by omega, by assumption⟩) | (rcases hx with rfl | rfl <;> first | exact .inl (by omega) | exact .inr ⟨by omega, by assumption⟩))).own).lower hw2s⟩
            have e6 : ¬ r2.2 = 6 := by simpa using z5
            rw [if_neg e6] at hp1
            refine Branch.mk (fun z6 => ?_) (fun z6 => ?_)
            · have e0 : ¬ r2.2 = 0 := by simpa using z6
              rw [if_neg e0] at hp1
              rw [Mi.minus_err ha hb (p := pre1) (y := r2) (q := Mi.go b ([0, 1, 2, 3, 4, 5].drop (k + 1)) r2.1) (by rw [← hp1]; simp) hz1 e0]
              exact EndI.mk fun w9 h9 => ⟨_, _, rfl, Own.nil⟩
            have e0 : r2.2 = 0 := by simpa using z6
            rw [if_pos e0, List.nil_append] at hp1
            refine Need.mk (by simp only [inK]; omega) (EndI.mk fun w9 h9 => ⟨((k + 1, r2.1, pre1), w9, tv), Cov.mk (by repeat' (first | exact trivial | refine And.intro rfl ?_)) rfl rfl rfl rfl rfl, rfl, ?_, by simp only; omega⟩)
            have sit9 := sit.at h9 (fun x hx => by simp at hx <;> first | omega | (subst hx; exact .inr ⟨by omega, by assumption⟩) | (rcases hx with rfl | rfl <;> first | exact .inl (by omega) | exact .inr ⟨by omega, by assumption⟩))
            exact ⟨hlt, sit9.below, sit9.size, sit9.ha, sit9.own, hr2 e0, hz1, by simp only; omega, hp1⟩
          · skip
            refine NewI.mk fun b11 hb11 => ?_
            have hb11' := Nat.le_trans sit.size0 hb11
            have n11 : tv.ownBlock ≠ some b11 := fun e => by have := (sit.own.lt b11 e).2; omega
            have m11 := sit.ha.lt
            apply CallI.use1
            focus (exact fun w6 h6 => rwith_any x hx0 k hlt (Zo.get b k) hbm w6)
            intro w6 v6 h6 hB6
            have sit := (sit.at h6 (fun x hx => by simp at hx <;> first | omega | (subst hx; exact .inr ⟨by omega, by assumption⟩) | (rcases hx with rfl | rfl <;> first | exact .inl (by omega) | exact .inr ⟨by omega, by assumption⟩))).go hw2s hB6
            rw [hr2v]
            refine Branch.mk (fun z5 => ?_) (fun z5 => ?_)
            · have e6 : r2.2 = 6 := by simpa using z5
              rw [if_pos e6, List.append_nil] at hp1
              rw [Mi.minus_fin ha hb hp1 hz1]
              obtain ⟨ao, co, rfl⟩ := sit.own.form
              exact EndI.mk fun w9 h9 => ⟨ao, co, rfl, ((sit.at h9 (fun x hx => by simp at hx <;> first | omega | (subst hx; exact .inr ⟨by omega, by assumption⟩) | (rcases hx with rfl | rfl <;> first | exact .inl (by omega) | exact .inr ⟨by omega, by assumption⟩))).own).lower hw2s⟩
            have e6 : ¬ r2.2 = 6 := by simpa using z5
            rw [if_neg e6] at hp1
            refine Branch.mk (fun z6 => ?_) (fun z6 => ?_)
            · have e0 : ¬ r2.2 = 0 := by simpa using z6
              rw [if_neg e0] at hp1
              rw [Mi.minus_err ha hb (p := pre1) (y := r2) (q := Mi.go b ([0, 1, 2, 3, 4, 5].drop (k + 1)) r2.1) (by rw [← hp1]; simp) hz1 e0]
              exact EndI.mk fun w9 h9 => ⟨_, _, rfl, Own.nil⟩
            have e0 : r2.2 = 0 := by simpa using z6
            rw [if_pos e0, List.nil_append] at hp1
            refine Need.mk (by simp only [inK]; omega) (EndI.mk fun w9 h9 => ⟨((k + 1, r2.1, pre1), w9, tv), Cov.mk (by repeat' (first | exact trivial | refine And.intro rfl ?_)) rfl rfl rfl rfl rfl, rfl, ?_, by simp only; omega⟩)
            have sit9 := sit.at h9 (fun x hx => by simp at hx <;> first | omega | (subst hx; exact .inr ⟨by omega, by assumption⟩) | (rcases hx with rfl | rfl <;> first | exact .inl (by omega) | exact .inr ⟨by omega, by assumption⟩))
            exact ⟨hlt, sit9.below, sit9.size, sit9.ha, sit9.own, hr2 e0, hz1, by simp only; omega, hp1⟩
        · have e0 : ¬ r1.2 = 0 := by simpa using z4
          have e6 : r1.2 = 6 := by omega
          rw [if_pos e6, List.nil_append] at hpre
          obtain ⟨pre1, hpre1⟩ : ∃ p, p = pre := ⟨_, rfl⟩
          rw [← hpre1] at hpre hz sit
          have hp1 := hpre
          have hz1 := hz
          have hpl1 : pre1.length ≤ 2 * k + 1 := by rw [hpre1]; omega
          generalize sv = tv at sit n1 n9 ⊢
          refine DrawI.go (.tk 0 (.tk 1 (.tk 2 (.tk 3 (.tk 4 (.two 5 (.tk 6 (.tk 7 (.tk 8 (.ev 9 (.ev 10 (.tk 11 .done)))))) 9 (.ev 5 (.tk 6 (.tk 7 (.tk 8 (.ev 10 (.tk 11 .done)))))))))))) (by kernel_rfl) fun w8 h8 => ?_
          have sit := sit.at h8 (fun x hx => by simp at hx <;> first | omega | (subst hx; exact .inr ⟨by omega, by assumption⟩) | (rcases hx with rfl | rfl <;> first | exact .inl (by omega) | exact .inr ⟨by omega, by assumption⟩))
          refine Need.mk (by simp only; omega) ?_
          refine LoadI.mk ⟨_, ⟨by rw [show (((k : Nat) : Int).toNat * 1) = k by simp]; exact sit.ha.cells k _ (Mi.cell_get b hlt), by simp⟩, ?_⟩
          refine Both.mk ?_ ?_
          · skip
            apply CallI.use1
            focus (exact fun w6 h6 => rwith_any x hx0 k hlt (Zo.get b k) hbm w6)
            intro w6 v6 h6 hB6
            have sit := (sit.at h6 (fun x hx => by simp at hx <;> first | omega | (subst hx; exact .inr ⟨by omega, by assumption⟩) | (rcases hx with rfl | rfl <;> first | exact .inl (by omega) | exact .inr ⟨by omega, by assumption⟩))).go hw2s hB6
            rw [hr2v]
            refine NewI.mk fun b11 hb11 => ?_
            have hb11' := Nat.le_trans sit.size0 hb11
            have n11 : tv.ownBlock ≠ some b11 := fun e => by have := (sit.own.lt b11 e).2; omega
            have m11 := sit.ha.lt
            refine Branch.mk (fun z5 => ?_) (fun z5 => ?_)
            · have e6 : r2.2 = 6 := by simpa using z5
              rw [if_pos e6, List.append_nil] at hp1
              rw [Mi.minus_fin ha hb hp1 hz1]
              obtain ⟨ao, co, rfl⟩ := sit.own.form
              exact EndI.mk fun w9 h9 => ⟨ao, co, rfl, ((sit.at h9 (fun x hx => by simp at hx <;> first | omega | (subst hx; exact .inr ⟨by omega, by assumption⟩) | (rcases hx with rfl | rfl <;> first | exact .inl (by omega) | exact .inr ⟨by omega, by assumption⟩))).own).lower hw2s⟩
            have e6 : ¬ r2.2 = 6 := by simpa using z5
            rw [if_neg e6] at hp1
            refine Branch.mk (fun z6 => ?_) (fun z6 => ?_)
            · have e0 : ¬ r2.2 = 0 := by simpa using z6
              rw [if_neg e0] at hp1
              rw [Mi.minus_err ha hb (p := pre1) (y := r2) (q := Mi.go b ([0, 1, 2, 3, 4, 5].drop (k + 1)) r2.1) (by rw [← hp1]; simp) hz1 e0]
              exact EndI.mk fun w9 h9 => ⟨_, _, rfl, Own.nil⟩
            have e0 : r2.2 = 0 := by simpa using z6
            rw [if_pos e0, List.nil_append] at hp1
            refine Need.mk (by simp only [inK]; omega) (EndI.mk fun w9 h9 => ⟨((k + 1, r2.1, pre1), w9, tv), Cov.mk (by repeat' (first | exact trivial | refine And.intro rfl ?_)) rfl rfl rfl rfl rfl, rfl, ?_, by simp only; omega⟩)
            have sit9 := sit.at h9 (fun x hx => by simp at hx <;> first | omega | (subst hx; exact .inr ⟨by omega, by assumption⟩) | (rcases hx with rfl | rfl <;> first | exact .inl (by omega) | exact .inr ⟨by omega, by assumption⟩))
            exact ⟨hlt, sit9.below, sit9.size, sit9.ha, sit9.own, hr2 e0, hz1, by simp only; omega, hp1⟩
          · skip
            refine NewI.mk fun b11 hb11 => ?_
            have hb11' := Nat.le_trans sit.size0 hb11
            have n11 : tv.ownBlock ≠ some b11 := fun e => by have := (sit.own.lt b11 e).2; omega
            have m11 := sit.ha.lt
            apply CallI.use1
            focus (exact fun w6 h6 => rwith_any x hx0 k hlt (Zo.get b k) hbm w6)
            intro w6 v6 h6 hB6
            have sit := (sit.at h6 (fun x hx => by simp at hx <;> first | omega | (subst hx; exact .inr ⟨by omega, by assumption⟩) | (rcases hx with rfl | rfl <;> first | exact .inl (by omega) | exact .inr ⟨by omega, by assumption⟩))).go hw2s hB6
            rw [hr2v]
            refine Branch.mk (fun z5 => ?_) (fun z5 => ?_)
            · have e6 : r2.2 = 6 := by simpa using z5
              rw [if_pos e6, List.append_nil] at hp1
              rw [Mi.minus_fin ha hb hp1 hz1]
              obtain ⟨ao, co, rfl⟩ := sit.own.form
              exact EndI.mk fun w9 h9 => ⟨ao, co, rfl, ((sit.at h9 (fun x hx => by simp at hx <;> first | omega | (subst hx; exact .inr ⟨by omega, by assumption⟩) | (rcases hx with rfl | rfl <;> first | exact .inl (by omega) | exact .inr ⟨by omega, by assumption⟩))).own).lower hw2s⟩
            have e6 : ¬ r2.2 = 6 := by simpa using z5
            rw [if_neg e6] at hp1
            refine Branch.mk (fun z6 => ?_) (fun z6 => ?_)
            · have e0 : ¬ r2.2 = 0 := by simpa using z6
              rw [if_neg e0] at hp1
              rw [Mi.minus_err ha hb (p := pre1) (y := r2) (q := Mi.go b ([0, 1, 2, 3, 4, 5].drop (k + 1)) r2.1) (by rw [← hp1]; simp) hz1 e0]
              exact EndI.mk fun w9 h9 => ⟨_, _, rfl, Own.nil⟩
            have e0 : r2.2 = 0 := by simpa using z6
            rw [if_pos e0, List.nil_append] at hp1
            refine Need.mk (by simp only [inK]; omega) (EndI.mk fun w9 h9 => ⟨((k + 1, r2.1, pre1), w9, tv), Cov.mk (by repeat' (first | exact trivial | refine And.intro rfl ?_)) rfl rfl rfl rfl rfl, rfl, ?_, by simp only; omega⟩)
            have sit9 := sit.at h9 (fun x hx => by simp at hx <;> first | omega | (subst hx; exact .inr ⟨by omega, by assumption⟩) | (rcases hx with rfl | rfl <;> first | exact .inl (by omega) | exact .inr ⟨by omega, by assumption⟩))
            exact ⟨hlt, sit9.below, sit9.size, sit9.ha, sit9.own, hr2 e0, hz1, by simp only; omega, hp1⟩
    · skip
      refine NewI.mk fun b9 hb9 => ?_
      have hb9' := Nat.le_trans sit.size0 hb9
      have n9 : sv.ownBlock ≠ some b9 := fun e => by have := (hrow b9 e).2; omega
      have m9 := hbx.lt
      apply CallI.use1
      focus (exact fun w3 h3 => rother11_any k hlt w3)
      intro w3 v3 h3 hB3
      have sit := (sit.at h3 (fun x hx => by simp at hx <;> first | omega | (subst hx; exact .inr ⟨by omega, by assumption⟩) | (rcases hx with rfl | rfl <;> first | exact .inl (by omega) | exact .inr ⟨by omega, by assumption⟩))).go hw2s hB3
      apply CallI.use1
      focus (exact fun w4 h4 => hother w4)
      intro w4 v4 h4 hB4
      have sit := (sit.at h4 (fun x hx => by simp at hx <;> first | omega | (subst hx; exact .inr ⟨by omega, by assumption⟩) | (rcases hx with rfl | rfl <;> first | exact .inl (by omega) | exact .inr ⟨by omega, by assumption⟩))).go hw2s hB4
      apply CallI.use1
      focus (exact fun w5 h5 => rwith_any x hx0 (Mi.other k) hok (Bd.not (Zo.get b k)).1 hnm w5)
      intro w5 v5 h5 hB5
      have sit := (sit.at h5 (fun x hx => by simp at hx <;> first | omega | (subst hx; exact .inr ⟨by omega, by assumption⟩) | (rcases hx with rfl | rfl <;> first | exact .inl (by omega) | exact .inr ⟨by omega, by assumption⟩))).go hw2s hB5
      rw [hr1v]
      refine Branch.mk (fun z3 => ?_) (fun z3 => ?_)
      · have e8 : r1.2 = 8 := by simpa using z3
        rw [if_neg (by omega)] at hpre
        rw [Mi.minus_err ha hb (p := pre) (y := r1) (by rw [← hpre]; simp; rfl) hz (by omega), e8]
        exact EndI.mk fun w9 h9 => ⟨_, _, rfl, Own.nil⟩
      have e8 : ¬ r1.2 = 8 := by simpa using z3
      refine Branch.mk (fun z4 => ?_) (fun z4 => ?_)
      · have e0 : r1.2 = 0 := by simpa using z4
        rw [if_neg (by omega)] at hpre
        obtain ⟨pre1, hpre1⟩ : ∃ p, p = pre ++ [r1] := ⟨_, rfl⟩
        have hp1 : pre1 ++ (if r2.2 = 6 then [] else (if r2.2 = 0 then [] else [r2]) ++ Mi.go b ([0, 1, 2, 3, 4, 5].drop (k + 1)) r2.1) = Mi.parts a b := by rw [hpre1, List.append_assoc]; exact hpre
        have hz1 : ∀ x : Zn × Int, x ∈ pre1 → x.2 = 0 := fun y hy => by
          rw [hpre1] at hy
          rcases List.mem_append.1 hy with hy | hy
          · exact hz y hy
          · rw [List.mem_singleton.1 hy]; exact e0
        have hpl1 : pre1.length ≤ 2 * k + 1 := by rw [hpre1]; simp; omega
        refine NewI.mk fun b10 hb10 => ?_
        have hb10' := Nat.le_trans sit.size0 hb10
        refine GenN.app (α := Zn) elZ (pre.map (·.1)) [r1.1] w2.heap.size (fun w5 h5 => (sit.at h5 (fun x hx => by simp at hx <;> first | omega | (subst hx; exact .inr ⟨by omega, by assumption⟩) | (rcases hx with rfl | rfl <;> first | exact .inl (by omega) | exact .inr ⟨by omega, by assumption⟩))).own) (fun w5 h5 => src_own h5 2 rfl rfl rfl rfl) (by unfold maxLen; simp; omega) (by simp; omega) (fun w5 h5 => Nat.le_trans sit.size h5.size)
          (fun w5 w6 h5 hg => keep_grown h5 hg (fun g hg' => ⟨Nat.le_trans hw2s (hrow g hg').1, fun hm => by have := hrow g hg'; simp at hm; omega⟩)) fun tv w5 w6 h5 hg hO' => ?_
        obtain ⟨at_, ct, rfl⟩ := hO'.form
        have emap : pre.map (·.1) ++ [r1.1] = pre1.map (·.1) := by rw [hpre1]; simp
        rw [emap] at hO' ⊢
        have sit := (sit.at h5 (fun x hx => by simp at hx <;> first | omega | (subst hx; exact .inr ⟨by omega, by assumption⟩) | (rcases hx with rfl | rfl <;> first | exact .inl (by omega) | exact .inr ⟨by omega, by assumption⟩))).grow hw2s nB hg hO'
        have n1 : (Value.slice at_ (pre1.map (·.1)).length ct).ownBlock ≠ some b1 := fun e => by have := (sit.own.lt b1 e).1; omega
        generalize Value.slice at_ (pre1.map (·.1)).length ct = tv at sit n1 ⊢
        refine DrawI.go (.tk 0 (.tk 1 (.tk 2 (.tk 3 (.tk 4 (.two 5 (.tk 6 (.tk 7 (.tk 8 (.ev 9 (.ev 10 (.tk 11 .done)))))) 9 (.ev 5 (.tk 6 (.tk 7 (.tk 8 (.ev 10 (.tk 11 .done)))))))))))) (by kernel_rfl) fun w8 h8 => ?_
        have sit := sit.at h8 (fun x hx => by simp at hx <;> first | omega | (subst hx; exact .inr ⟨by omega, by assumption⟩) | (rcases hx with rfl | rfl <;> first | exact .inl (by omega) | exact .inr ⟨by omega, by assumption⟩))
        refine Need.mk (by simp only; omega) ?_
        refine LoadI.mk ⟨_, ⟨by rw [show (((k : Nat) : Int).toNat * 1) = k by simp]; exact sit.ha.cells k _ (Mi.cell_get b hlt), by simp⟩, ?_⟩
        refine Both.mk ?_ ?_
        · skip
          apply CallI.use1
          focus (exact fun w6 h6 => rwith_any x hx0 k hlt (Zo.get b k) hbm w6)
          intro w6 v6 h6 hB6
          have sit := (sit.at h6 (fun x hx => by simp at hx <;> first | omega | (subst hx; exact .inr ⟨by omega, by assumption⟩) | (rcases hx with rfl | rfl <;> first | exact .inl (by omega) | exact .inr ⟨by omega, by assumption⟩))).go hw2s hB6
          rw [hr2v]
          refine NewI.mk fun b11 hb11 => ?_
          have hb11' := Nat.le_trans sit.size0 hb11
          have n11 : tv.ownBlock ≠ some b11 := fun e => by have := (sit.own.lt b11 e).2; omega
          have m11 := sit.ha.lt
          refine Branch.mk (fun z5 => ?_) (fun z5 => ?_)
          · have e6 : r2.2 = 6 := by simpa using z5
            rw [if_pos e6, List.append_nil] at hp1
            rw [Mi.minus_fin ha hb hp1 hz1]
            obtain ⟨ao, co, rfl⟩ := sit.own.form
            exact EndI.mk fun w9 h9 => ⟨ao, co, rfl, ((sit.at h9 (fun x hx => by simp at hx <;> first | omega | (subst hx; exact .inr ⟨by omega, by assumption⟩) | (rcases hx with rfl | rfl <;> first | exact .inl (by omega) | exact .inr ⟨by omega, by assumption⟩))).own).lower hw2s⟩
          have e6 : ¬ r2.2 = 6 := by simpa using z5
          rw [if_neg e6] at hp1
          refine Branch.mk (fun z6 => ?_) (fun z6 => ?_)
          · have e0 : ¬ r2.2 = 0 := by simpa using z6
            rw [if_neg e0] at hp1
            rw [Mi.minus_err ha hb (p := pre1) (y := r2) (q := Mi.go b ([0, 1, 2, 3, 4, 5].drop (k + 1)) r2.1) (by rw [← hp1]; simp) hz1 e0]
            exact EndI.mk fun w9 h9 => ⟨_, _, rfl, Own.nil⟩
          have e0 : r2.2 = 0 := by simpa using z6
          rw [if_pos e0, List.nil_append] at hp1
          refine Need.mk (by simp only [inK]; omega) (EndI.mk fun w9 h9 => ⟨((k + 1, r2.1, pre1), w9, tv), Cov.mk (by repeat' (first | exact trivial | refine And.intro rfl ?_)) rfl rfl rfl rfl rfl, rfl, ?_, by simp only; omega⟩)
          have sit9 := sit.at h9 (fun x hx => by simp at hx <;> first | omega | (subst hx; exact .inr ⟨by omega, by assumption⟩) | (rcases hx with rfl | rfl <;> first | exact .inl (by omega) | exact .inr ⟨by omega, by assumption⟩))
          exact ⟨hlt, sit9.below, sit9.size, sit9.ha, sit9.own, hr2 e0, hz1, by simp only; omega, hp1⟩
        · skip
          refine NewI.mk fun b11 hb11 => ?_
          have hb11' := Nat.le_trans sit.size0 hb11
          have n11 : tv.ownBlock ≠ some b11 := fun e => by have := (sit.own.lt b11 e).2; omega
          have m11 := sit.ha.lt
          apply CallI.use1
          focus (exact fun w6 h6 => rwith_any x hx0 k hlt (Zo.get b k) hbm w6)
          intro w6 v6 h6 hB6
          have sit := (sit.at h6 (fun x hx => by simp at hx <;> first | omega | (subst hx; exact .inr ⟨by omega, by assumption⟩) | (rcases hx with rfl | rfl <;> first | exact .inl (by omega) | exact .inr ⟨by omega, by assumption⟩))).go hw2s hB6
          rw [hr2v]
          refine Branch.mk (fun z5 => ?_) (fun z5 => ?_)
          · have e6 : r2.2 = 6 := by simpa using z5
            rw [if_pos e6, List.append_nil] at hp1
            rw [Mi.minus_fin ha hb hp1 hz1]
            obtain ⟨ao, co, rfl⟩ := sit.own.form
            exact EndI.mk fun w9 h9 => ⟨ao, co, rfl, ((sit.at h9 (fun x hx => by simp at hx <;> first | omega | (subst hx; exact .inr ⟨by omega, by assumption⟩) | (rcases hx with rfl | rfl <;> first | exact .inl (by omega) | exact .inr ⟨by omega, by assumption⟩))).own).lower hw2s⟩
          have e6 : ¬ r2.2 = 6 := by simpa using z5
          rw [if_neg e6] at hp1
          refine Branch.mk (fun z6 => ?_) (fun z6 => ?_)
          · have e0 : ¬ r2.2 = 0 := by simpa using z6
            rw [if_neg e0] at hp1
            rw [Mi.minus_err ha hb (p := pre1) (y := r2) (q := Mi.go b ([0, 1, 2, 3, 4, 5].drop (k + 1)) r2.1) (by rw [← hp1]; simp) hz1 e0]
            exact EndI.mk fun w9 h9 => ⟨_, _, rfl, Own.nil⟩
          have e0 : r2.2 = 0 := by simpa using z6
          rw [if_pos e0, List.nil_append] at hp1
          refine Need.mk (by simp only [inK]; omega) (EndI.mk fun w9 h9 => ⟨((k + 1, r2.1, pre1), w9, tv), Cov.mk (by repeat' (first | exact trivial | refine And.intro rfl ?_)) rfl rfl rfl rfl rfl, rfl, ?_, by simp only; omega⟩)
          have sit9 := sit.at h9 (fun x hx => by simp at hx <;> first | omega | (subst hx; exact .inr ⟨by omega, by assumption⟩) | (rcases hx with rfl | rfl <;> first | exact .inl (by omega) | exact .inr ⟨by omega, by assumption⟩))
          exact ⟨hlt, sit9.below, sit9.size, sit9.ha, sit9.own, hr2 e0, hz1, by simp only; omega, hp1⟩
      · have e0 : ¬ r1.2 = 0 := by simpa using z4
        have e6 : r1.2 = 6 := by omega
        rw [if_pos e6, List.nil_append] at hpre
        obtain ⟨pre1, hpre1⟩ : ∃ p, p = pre := ⟨_, rfl⟩
        rw [← hpre1] at hpre hz sit
        have hp1 := hpre
        have hz1 := hz
        have hpl1 : pre1.length ≤ 2 * k + 1 := by rw [hpre1]; omega
        generalize sv = tv at sit n1 n9 ⊢
        refine DrawI.go (.tk 0 (.tk 1 (.tk 2 (.tk 3 (.tk 4 (.two 5 (.tk 6 (.tk 7 (.tk 8 (.ev 9 (.ev 10 (.tk 11 .done)))))) 9 (.ev 5 (.tk 6 (.tk 7 (.tk 8 (.ev 10 (.tk 11 .done)))))))))))) (by kernel_rfl) fun w8 h8 => ?_
        have sit := sit.at h8 (fun x hx => by simp at hx <;> first | omega | (subst hx; exact .inr ⟨by omega, by assumption⟩) | (rcases hx with rfl | rfl <;> first | exact .inl (by omega) | exact .inr ⟨by omega, by assumption⟩))
        refine Need.mk (by simp only; omega) ?_
        refine LoadI.mk ⟨_, ⟨by rw [show (((k : Nat) : Int).toNat * 1) = k by simp]; exact sit.ha.cells k _ (Mi.cell_get b hlt), by simp⟩, ?_⟩
        refine Both.mk ?_ ?_
        · skip
          apply CallI.use1
          focus (exact fun w6 h6 => rwith_any x hx0 k hlt (Zo.get b k) hbm w6)
          intro w6 v6 h6 hB6
          have sit := (sit.at h6 (fun x hx => by simp at hx <;> first | omega | (subst hx; exact .inr ⟨by omega, by assumption⟩) | (rcases hx with rfl | rfl <;> first | exact .inl (by omega) | exact .inr ⟨by omega, by assumption⟩))).go hw2s hB6
          rw [hr2v]
          refine NewI.mk fun b11 hb11 => ?_
          have hb11' := Nat.le_trans sit.size0 hb11
          have n11 : tv.ownBlock ≠ some b11 := fun e => by have := (sit.own.lt b11 e).2; omega
          have m11 := sit.ha.lt
          refine Branch.mk (fun z5 => ?_) (fun z5 => ?_)
          · have e6 : r2.2 = 6 := by simpa using z5
            rw [if_pos e6, List.append_nil] at hp1
            rw [Mi.minus_fin ha hb hp1 hz1]
            obtain ⟨ao, co, rfl⟩ := sit.own.form
            exact EndI.mk fun w9 h9 => ⟨ao, co, rfl, ((sit.at h9 (fun x hx => by simp at hx <;> first | omega | (subst hx; exact .inr ⟨by omega, by assumption⟩) | (rcases hx with rfl | rfl <;> first | exact .inl (by omega) | exact .inr ⟨by omega, by assumption⟩))).own).lower hw2s⟩
          have e6 : ¬ r2.2 = 6 := by simpa using z5
          rw [if_neg e6] at hp1
          refine Branch.mk (fun z6 => ?_) (fun z6 => ?_)
          · have e0 : ¬ r2.2 = 0 := by simpa using z6
            rw [if_neg e0] at hp1
            rw [Mi.minus_err ha hb (p := pre1) (y := r2) (q := Mi.go b ([0, 1, 2, 3, 4, 5].drop (k + 1)) r2.1) (by rw [← hp1]; simp) hz1 e0]
            exact EndI.mk fun w9 h9 => ⟨_, _, rfl, Own.nil⟩
          have e0 : r2.2 = 0 := by simpa using z6
          rw [if_pos e0, List.nil_append] at hp1
          refine Need.mk (by simp only [inK]; omega) (EndI.mk fun w9 h9 => ⟨((k + 1, r2.1, pre1), w9, tv), Cov.mk (by repeat' (first | exact trivial | refine And.intro rfl ?_)) rfl rfl rfl rfl rfl, rfl, ?_, by simp only; omega⟩)
          have sit9 := sit.at h9 (fun x hx => by simp at hx <;> first | omega | (subst hx; exact .inr ⟨by omega, by assumption⟩) | (rcases hx with rfl | rfl <;> first | exact .inl (by omega) | exact .inr ⟨by omega, by assumption⟩))
          exact ⟨hlt, sit9.below, sit9.size, sit9.ha, sit9.own, hr2 e0, hz1, by simp only; omega, hp1⟩
        · skip
          refine NewI.mk fun b11 hb11 => ?_
          have hb11' := Nat.le_trans sit.size0 hb11
          have n11 : tv.ownBlock ≠ some b11 := fun e => by have := (sit.own.lt b11 e).2; omega
          have m11 := sit.ha.lt
          apply CallI.use1
          focus (exact fun w6 h6 => rwith_any x hx0 k hlt (Zo.get b k) hbm w6)
          intro w6 v6 h6 hB6
          have sit := (sit.at h6 (fun x hx => by simp at hx <;> first | omega | (subst hx; exact .inr ⟨by omega, by assumption⟩) | (rcases hx with rfl | rfl <;> first | exact .inl (by omega) | exact .inr ⟨by omega, by assumption⟩))).go hw2s hB6
          rw [hr2v]
          refine Branch.mk (fun z5 => ?_) (fun z5 => ?_)
          · have e6 : r2.2 = 6 := by simpa using z5
            rw [if_pos e6, List.append_nil] at hp1
            rw [Mi.minus_fin ha hb hp1 hz1]
            obtain ⟨ao, co, rfl⟩ := sit.own.form
            exact EndI.mk fun w9 h9 => ⟨ao, co, rfl, ((sit.at h9 (fun x hx => by simp at hx <;> first | omega | (subst hx; exact .inr ⟨by omega, by assumption⟩) | (rcases hx with rfl | rfl <;> first | exact .inl (by omega) | exact .inr ⟨by omega, by assumption⟩))).own).lower hw2s⟩
          have e6 : ¬ r2.2 = 6 := by simpa using z5
          rw [if_neg e6] at hp1
          refine Branch.mk (fun z6 => ?_) (fun z6 => ?_)
          · have e0 : ¬ r2.2 = 0 := by simpa using z6
            rw [if_neg e0] at hp1
            rw [Mi.minus_err ha hb (p := pre1) (y := r2) (q := Mi.go b ([0, 1, 2, 3, 4, 5].drop (k + 1)) r2.1) (by rw [← hp1]; simp) hz1 e0]
            exact EndI.mk fun w9 h9 => ⟨_, _, rfl, Own.nil⟩
          have e0 : r2.2 = 0 := by simpa using z6
          rw [if_pos e0, List.nil_append] at hp1
          refine Need.mk (by simp only [inK]; omega) (EndI.mk fun w9 h9 => ⟨((k + 1, r2.1, pre1), w9, tv), Cov.mk (by repeat' (first | exact trivial | refine And.intro rfl ?_)) rfl rfl rfl rfl rfl, rfl, ?_, by simp only; omega⟩)
          have sit9 := sit.at h9 (fun x hx => by simp at hx <;> first | omega | (subst hx; exact .inr ⟨by omega, by assumption⟩) | (rcases hx with rfl | rfl <;> first | exact .inl (by omega) | exact .inr ⟨by omega, by assumption⟩))
          exact ⟨hlt, sit9.below, sit9.size, sit9.ha, sit9.own, hr2 e0, hz1, by simp only; omega, hp1⟩
  · have hge : k = 6 := by have := of_decide_eq_false z1; simp only at this; omega
    subst hge
    have hp : pre = Mi.parts a b := by simpa [Mi.go] using hpre
    rw [Mi.minus_fin ha hb hp hz]
    obtain ⟨ao, co, rfl⟩ := hO.form
    exact EndI.mk fun w9 h9 => ⟨ao, co, rfl, (hO.below (atB h9 (by simp))).lower hw1.size⟩
end Go.Proofs.YtodpgcdandechaaGreat

/-
  The document's answer of layer 11, by the engine: Rest.
-/
namespace Go.Proofs.YtodpgcdandechaaGreat
set_option linter.unusedVariables false
set_option linter.unusedSimpArgs false
set_option maxRecDepth 100000
open Go.RowKit Go.Proofs.YtodpgcdandechaaGreat.Eng Enc

theorem Mi.minus_chk {x b : Zn} (hx : Zo.chk x = 0) (hb : Zo.chk b = 0) (h : (Mi.minus x b).2 = 0) : ∀ y, y ∈ (Mi.minus x b).1 → Zo.chk y = 0 := fun y hy => (Mi.minus_ok hx hb h y hy).1
open Mi in
theorem rrest_any (z : Zn) (hz : Zo.chk z = 0) (l : List Zn) (hl : ∀ b, b ∈ l → Zo.chk b = 0) (a : Option Addr) (cap : Nat) (w : World) (hS : Sl w.heap.size w (.slice a l.length cap) l) :
    Calls Tryz.prog 256 #[.agg #[.int .i64 z.a, .int .i64 z.b, .int .i64 z.c, .int .i64 z.d, .int .i64 z.e, .int .i64 z.f], .slice a l.length cap] w (Ret w fun v w' => ∃ a' c', v = .tuple #[.slice a' (Mi.outer l [z]).1.length c', .int .i64 (Mi.outer l [z]).2] ∧ Sl w'.heap.size w' (.slice a' (Mi.outer l [z]).1.length c') (Mi.outer l [z]).1) := by
  refine fun_ret 0 w Tryz.func256 (args := [.agg [.val (.int .i64 z.a), .val (.int .i64 z.b), .val (.int .i64 z.c), .val (.int .i64 z.d), .val (.int .i64 z.e), .val (.int .i64 z.f)], .val (.slice a l.length cap)]) rfl rfl ?_
  obtain ⟨_, _, hfe, hcap1, hcap2, _⟩ := hS.form
  injection hfe with _ _ hfe
  subst hfe
  unfold maxLen at hcap2
  refine NewI.mk fun b1 hb1 => ?_
  refine NewI.mk fun b2 hb2 => ?_
  have hb2w : w.heap.size ≤ b2 := hb2
  refine LoopI.invC (α := Nat × World × Value × List Zn) (fun y => [(7, .val (.int .i64 y.1)), (6, .val y.2.2.1)]) (fun y => y.2.1)
    (fun y => y.1 ≤ l.length ∧ Below w.heap.size w y.2.1 ∧ Sl y.2.1.heap.size y.2.1 y.2.2.1 y.2.2.2 ∧ y.2.2.2.length ≤ 4096 ∧ (∀ x, x ∈ y.2.2.2 → Zo.chk x = 0) ∧ b1 < y.2.1.heap.size ∧ b2 < y.2.1.heap.size ∧ outer l [z] = outer (l.drop y.1) y.2.2.2) (fun y => l.length - y.1) ?_ ?_
  · intro w3 h3
    exact ⟨(0, w3, .slice (some ⟨b2, 0, none⟩) 1 1, [z]), Cov.mk (by repeat' (first | exact trivial | refine And.intro rfl ?_)) rfl rfl rfl rfl rfl, rfl, Nat.zero_le _, h3.below, Sl.own (l := [z]) h3 1 rfl rfl rfl (Nat.le_refl _) (by simp [maxLen]), by simp, by simp [hz], h3.lt b1 (by simp), h3.lt b2 (by simp), rfl⟩
  rintro ⟨i, V2, ov, out⟩ ⟨hi, hV2, hSo, hol, hoc, hq1, hq2, heq⟩
  simp only at hi hV2 hSo hol hoc hq1 hq2 heq
  obtain ⟨ao, co, rfl, _⟩ := hSo.form
  refine Branch.mk (fun hc3 => ?_) (fun hc3 => ?_)
  · have hlt : i < l.length := by have := of_decide_eq_true hc3; simp only at this; omega
    have hg := List.getElem?_eq_getElem (l := l) (i := i) hlt
    have hd := List.drop_eq_getElem_cons hlt
    generalize l[i] = b at hg hd
    have hbc := hl b (List.mem_of_getElem? hg)
    rw [hd, outer_cons] at heq
    have st2 := Stay.start (w0 := ⟨w, w.heap.size, Nat.le_refl _⟩) hV2
    refine LoopI.invC (α := Nat × World × Value × List Zn) (fun y => [(9, .val (.int .i64 y.1)), (8, .val y.2.2.1)]) (fun y => y.2.1)
      (fun y => y.1 ≤ out.length ∧ (∃ base, Lp ⟨w, w.heap.size, Nat.le_refl _⟩ [V2] [b1, b2] 39 base y.2.1 y.2.2.1 y.2.2.2) ∧ y.2.2.2.length ≤ 4096 ∧ (∀ x, x ∈ y.2.2.2 → Zo.chk x = 0) ∧ inner b out [] = inner b (out.drop y.1) y.2.2.2) (fun y => out.length - y.1) ?_ ?_
    · intro w5 h5
      exact ⟨(0, w5, .slice none 0 0, []), Cov.mk (by repeat' (first | exact trivial | refine And.intro rfl ?_)) rfl rfl rfl rfl rfl, rfl, Nat.zero_le _, ⟨_, Lp.start st2 h5 (fun x hx => by simp at hx <;> omega)⟩, by simp, by simp, rfl⟩
    rintro ⟨j, V5, nv, next⟩ ⟨hj, ⟨base, lp⟩, hnl, hnc, hin⟩
    simp only at hj lp hnl hnc hin
    obtain ⟨an, cn, rfl⟩ := lp.own.form
    refine Branch.mk (fun hc4 => ?_) (fun hc4 => ?_)
    · have hlt2 : j < out.length := by have := of_decide_eq_true hc4; simp only at this; omega
      have hg2 := List.getElem?_eq_getElem (l := out) (i := j) hlt2
      have hd2 := List.drop_eq_getElem_cons hlt2
      generalize out[j] = x at hg2 hd2
      have hxc := hoc x (List.mem_of_getElem? hg2)
      rw [hd2, inner_cons] at hin
      refine DrawI.go (.tk 0 (.tk 1 (.tk 2 (.tk 3 (.tk 4 (.tk 5 (.tk 6 (.tk 7 (.ev 8 (.tk 9 (.tk 10 (.tk 11 (.tk 12 (.tk 13 .done)))))))))))))) (by kernel_rfl) fun w4 h4 => ?_
      have lp4 := lp.at h4 (by simp)
      have hSo5 := hSo.st lp4.st
      have hS5 := hS.go h4.below h4.below.size
      refine hSo5.idx hg2 fun ad2 had2 => ?_
      refine hSo5.ld hg2 had2 (Below.refl _ _) (by simp) ?_
      refine hS5.idx hg fun ad had => ?_
      refine hS5.ld hg had (Below.refl _ _) (by simp) ?_
      apply CallI.use
      focus (exact fun w6 h6 => rless_any x b hxc hbc w6)
      rintro v w6 v6 h6 hB6 ⟨am, cm, rfl, hOm⟩
      have lp6 := (lp4.at h6 (by simp)).go hB6
      have hml := minus_len x b
      refine Branch.mk (fun hc5 => ?_) (fun hc5 => ?_)
      · have he : (minus x b).2 ≠ 0 := by simpa using hc5
        rw [if_pos he] at hin
        rw [hin, if_pos he] at heq
        rw [heq]
        exact EndI.mk fun w9 h9 => ⟨_, _, rfl, Sl.nil⟩
      have he : (minus x b).2 = 0 := by simpa using hc5
      rw [if_neg (by simp [he])] at hin
      have hmc := Mi.minus_chk hxc hbc he
      have h66 := h6.size
      have h67 := hB6.size
      refine GenN.appR (α := Zn) elZ lp6 (fun y hy hm => by have h1 := lp.own.lt y hy; have q1 := lp.blk b1 (by simp); have q2 := lp.blk b2 (by simp); simp at hm; omega) (by simp) (minus x b).1 (fun w8 h8 => (hOm.sl.go h8.go h8.size).src) (by omega) (by decide) fun a' c' w8 w9 h8 lp9 hsz hbl => ?_
      refine Branch.mk (fun hc6 => ?_) (fun hc6 => ?_)
      · have h4 : 4096 < (next ++ (minus x b).1).length := by have : (4096 : Int) < (next ++ (minus x b).1).length := by simpa using hc6
                                                              omega
        rw [if_pos h4] at hin
        rw [hin, if_pos (by decide)] at heq
        rw [heq]
        exact EndI.mk fun w9 h9 => ⟨_, _, rfl, Sl.nil⟩
      have h4 : ¬ 4096 < (next ++ (minus x b).1).length := by have : ¬ (4096 : Int) < (next ++ (minus x b).1).length := by simpa using hc6
                                                              omega
      rw [if_neg h4] at hin
      have ho : (out.length : Int) ≤ 4096 := by omega
      refine Need.mk (by simp only [inK]; omega) (EndI.mk fun w10 h10 => ⟨(j + 1, w10, .slice a' (next ++ (minus x b).1).length c', next ++ (minus x b).1), Cov.mk (by repeat' (first | exact trivial | refine And.intro rfl ?_)) rfl rfl rfl rfl rfl, rfl, ⟨hlt2, ⟨base, ?_⟩, Nat.le_of_not_lt h4, fun y hy => (List.mem_append.1 hy).elim (hnc y) (hmc y), hin⟩, by simp only; omega⟩)
      exact lp9.at h10 (by simp)
    · have hge2 : j = out.length := by have := of_decide_eq_false hc4; simp only at this; omega
      subst hge2
      rw [List.drop_length] at hin
      have hin : inner b out [] = (next, 0) := hin
      rw [hin, if_neg (by simp)] at heq
      have hs5 := lp.size
      have q1 := lp.blk b1 (by simp)
      have q2 := lp.blk b2 (by simp)
      refine Need.mk (by simp only [inK]; omega) (EndI.mk fun w10 h10 => ⟨(i + 1, w10, .slice an next.length cn, next), Cov.mk (by repeat' (first | exact trivial | refine And.intro rfl ?_)) rfl rfl rfl rfl rfl, rfl, ⟨hlt, h10.below, (lp.at h10 (by simp)).own.sl, hnl, hnc, Nat.lt_of_lt_of_le (Nat.lt_of_lt_of_le q1 hs5) h10.size, Nat.lt_of_lt_of_le (Nat.lt_of_lt_of_le q2 hs5) h10.size, heq⟩, by simp only; omega⟩)
  · have hge : i = l.length := by have := of_decide_eq_false hc3; simp only at this; omega
    subst hge
    rw [List.drop_length] at heq
    rw [heq]
    exact EndI.mk fun w9 h9 => ⟨_, _, rfl, hSo.go h9.go h9.size⟩
end Go.Proofs.YtodpgcdandechaaGreat

/-
  The document's answer of layer 12, by the engine: Check, Covered, In, AllCovered, All.
-/
namespace Go.Proofs.YtodpgcdandechaaGreat
set_option linter.unusedVariables false
set_option linter.unusedSimpArgs false
set_option maxRecDepth 100000
open Go.RowKit Go.Proofs.YtodpgcdandechaaGreat.Eng Enc

namespace Cv
theorem checked_two {a b : List Zn} : (a.length ≤ 4096 ∧ b.length ≤ 4096 ∧ (∀ z, z ∈ a → Zo.chk z = 0) ∧ (∀ z, z ∈ b → Zo.chk z = 0) → checked [a, b] = 0) ∧ (4096 < a.length ∨ 4096 < b.length → checked [a, b] = 4) ∧ (a.length ≤ 4096 → b.length ≤ 4096 → ((∃ z, z ∈ a ∧ Zo.chk z ≠ 0) ∨ ∃ z, z ∈ b ∧ Zo.chk z ≠ 0) → checked [a, b] = 8) := by
  unfold checked
  simp only [List.any_cons, List.any_nil, Bool.or_false, Bool.or_eq_true, decide_eq_true_eq]
  have ho : ∀ l : List Zn, l.any odd = true ↔ ∃ z, z ∈ l ∧ Zo.chk z ≠ 0 := fun l => by
    rw [List.any_eq_true]
    simp [odd]
  simp only [ho]
  refine ⟨fun ⟨h1, h2, h3, h4⟩ => ?_, fun h => ?_, fun h1 h2 h3 => ?_⟩
  · rw [if_neg (by omega), if_neg]
    rintro (⟨z, hz, hc⟩ | ⟨z, hz, hc⟩)
    · exact hc (h3 z hz)
    · exact hc (h4 z hz)
  · rw [if_pos h]
  · rw [if_neg (by omega), if_pos h3]
theorem checked_zero {a b : List Zn} (h : checked [a, b] = 0) : a.length ≤ 4096 ∧ b.length ≤ 4096 ∧ (∀ z, z ∈ a → Zo.chk z = 0) ∧ ∀ z, z ∈ b → Zo.chk z = 0 := by
  obtain ⟨c1, c2, c3⟩ := checked_two (a := a) (b := b)
  have h1 : a.length ≤ 4096 := by
    apply Classical.byContradiction; intro hn; rw [c2 (.inl (by omega))] at h; cases h
  have h2 : b.length ≤ 4096 := by
    apply Classical.byContradiction; intro hn; rw [c2 (.inr (by omega))] at h; cases h
  refine ⟨h1, h2, fun z hz => ?_, fun z hz => ?_⟩
  · apply Classical.byContradiction; intro hn; rw [c3 h1 h2 (.inl ⟨z, hz, hn⟩)] at h; cases h
  · apply Classical.byContradiction; intro hn; rw [c3 h1 h2 (.inr ⟨z, hz, hn⟩)] at h; cases h
/-- the document's cover, of what may be. -/
def covered (z : Zn) (l : List Zn) : Bool × Int := (decide ((Mi.outer l [z]).2 = 0) && decide ((Mi.outer l [z]).1.length = 0), (Mi.outer l [z]).2)
theorem left_outer {z : Zn} {l : List Zn} (hz : Zo.chk z = 0) (hl : ∀ b, b ∈ l → Zo.chk b = 0) : Mi.left z l = Mi.outer l [z] := by
  unfold Mi.left
  rw [if_neg (by simp [hz]), if_neg (by rw [List.any_eq_true]; rintro ⟨x, hx, h⟩; simp [hl x hx] at h)]
theorem covered_in {z : Zn} {l : List Zn} (h4 : l.length ≤ 4096) (hz : Zo.chk z = 0) (hl : ∀ b, b ∈ l → Zo.chk b = 0) : covered z l = in_ z l := by
  unfold in_ covered
  rw [checked_two.1 ⟨h4, by simp, hl, by simp [hz]⟩, if_pos rfl, left_outer hz hl]
end Cv
theorem rcheck12_any (l m : List Zn) (hl : ∀ z, z ∈ l → Zo.i64 z) (hm : ∀ z, z ∈ m → Zo.i64 z) (a b : Option Addr) (ca cb : Nat) (w : World) (hS : Sl w.heap.size w (.slice a l.length ca) l) (hT : Sl w.heap.size w (.slice b m.length cb) m) :
    Calls Tryz.prog 89 #[.slice a l.length ca, .slice b m.length cb] w fun e w' => e = .returned (.int .i64 (Cv.checked [l, m])) ∧ Below w.heap.size w w' := by
  obtain ⟨k1, k2, k3⟩ := Cv.checked_two (a := l) (b := m)
  refine fun_eq 0 w Tryz.func89 (args := [.val (.slice a l.length ca), .val (.slice b m.length cb)]) rfl rfl ?_
  refine Branch.mk (fun z1 => ?_) (fun z1 => ?_)
  · have h1 : 4096 < l.length := by have := of_decide_eq_true z1; omega
    rw [k2 (.inl h1)]
    exact EndI.mk fun w9 h9 => rfl
  have h1 : l.length ≤ 4096 := by have := of_decide_eq_false z1; omega
  refine Branch.mk (fun z2 => ?_) (fun z2 => ?_)
  · have h2 : 4096 < m.length := by have := of_decide_eq_true z2; omega
    rw [k2 (.inr h2)]
    exact EndI.mk fun w9 h9 => rfl
  have h2 : m.length ≤ 4096 := by have := of_decide_eq_false z2; omega
  refine LoopI.invC (α := Nat × World) (fun y => [(5, .val (.int .i64 y.1))]) (fun y => y.2) (fun y => y.1 ≤ l.length ∧ Below w.heap.size w y.2 ∧ ∀ z, z ∈ l.take y.1 → Zo.chk z = 0) (fun y => l.length - y.1) ?_ ?_
  · intro w1 h1
    exact ⟨(0, w1), Cov.mk (by repeat' (first | exact trivial | refine And.intro rfl ?_)) rfl rfl rfl rfl rfl, rfl, Nat.zero_le _, h1.below, by simp⟩
  rintro ⟨k, V⟩ ⟨hk, hV, hall⟩
  simp only at hk hV hall
  refine Branch.mk (fun z3 => ?_) (fun z3 => ?_)
  · have hlt : k < l.length := by have := of_decide_eq_true z3; simp only at this; omega
    have hx := List.getElem?_eq_getElem (l := l) (i := k) hlt
    generalize l[k] = x at hx
    have hSV := hS.go hV hV.size
    refine hSV.idx hx fun ad had => ?_
    refine hSV.ld hx had (Below.refl _ _) (by simp) ?_
    apply CallI.use1
    focus (exact fun w3 h3 => rzmay_any x (hl x (List.mem_of_getElem? hx)) w3)
    intro w3 v3 h3 hB3
    by_cases hc : Zo.chk x = 0
    · rw [decide_eq_true hc]
      refine Branch.no rfl ?_
      refine Need.mk (by simp only [inK]; omega) (EndI.mk fun w9 h9 => ⟨(k + 1, w9), Cov.mk (by repeat' (first | exact trivial | refine And.intro rfl ?_)) rfl rfl rfl rfl rfl, rfl, ⟨hlt, h9.below, fun y hy => ?_⟩, by simp only; omega⟩)
      simp only at hy
      rw [List.take_add_one, hx] at hy
      rcases List.mem_append.1 hy with hy | hy
      · exact hall y hy
      · rw [List.mem_singleton.1 hy]; exact hc
    · rw [decide_eq_false hc]
      refine Branch.yes rfl ?_
      rw [k3 h1 h2 (.inl ⟨x, List.mem_of_getElem? hx, hc⟩)]
      exact EndI.mk fun w9 h9 => rfl
  have hge : k = l.length := by have := of_decide_eq_false z3; simp only at this; omega
  subst hge
  rw [List.take_length] at hall
  refine LoopI.invC (α := Nat × World) (fun y => [(6, .val (.int .i64 y.1))]) (fun y => y.2) (fun y => y.1 ≤ m.length ∧ Below w.heap.size w y.2 ∧ ∀ z, z ∈ m.take y.1 → Zo.chk z = 0) (fun y => m.length - y.1) ?_ ?_
  · intro w1 h1
    exact ⟨(0, w1), Cov.mk (by repeat' (first | exact trivial | refine And.intro rfl ?_)) rfl rfl rfl rfl rfl, rfl, Nat.zero_le _, h1.below, by simp⟩
  rintro ⟨k, V2⟩ ⟨hk2, hV2, hall2⟩
  simp only at hk2 hV2 hall2
  refine Branch.mk (fun z4 => ?_) (fun z4 => ?_)
  · have hlt : k < m.length := by have := of_decide_eq_true z4; simp only at this; omega
    have hx := List.getElem?_eq_getElem (l := m) (i := k) hlt
    generalize m[k] = x at hx
    have hSV := hT.go hV2 hV2.size
    refine hSV.idx hx fun ad had => ?_
    refine hSV.ld hx had (Below.refl _ _) (by simp) ?_
    apply CallI.use1
    focus (exact fun w3 h3 => rzmay_any x (hm x (List.mem_of_getElem? hx)) w3)
    intro w3 v3 h3 hB3
    by_cases hc : Zo.chk x = 0
    · rw [decide_eq_true hc]
      refine Branch.no rfl ?_
      refine Need.mk (by simp only [inK]; omega) (EndI.mk fun w9 h9 => ⟨(k + 1, w9), Cov.mk (by repeat' (first | exact trivial | refine And.intro rfl ?_)) rfl rfl rfl rfl rfl, rfl, ⟨hlt, h9.below, fun y hy => ?_⟩, by simp only; omega⟩)
      simp only at hy
      rw [List.take_add_one, hx] at hy
      rcases List.mem_append.1 hy with hy | hy
      · exact hall2 y hy
      · rw [List.mem_singleton.1 hy]; exact hc
    · rw [decide_eq_false hc]
      refine Branch.yes rfl ?_
      rw [k3 h1 h2 (.inr ⟨x, List.mem_of_getElem? hx, hc⟩)]
      exact EndI.mk fun w9 h9 => rfl
  have hge2 : k = m.length := by have := of_decide_eq_false z4; simp only at this; omega
  subst hge2
  rw [List.take_length] at hall2
  rw [k1 ⟨h1, h2, hall, hall2⟩]
  exact EndI.mk fun w9 h9 => rfl
theorem rcovered_any (z : Zn) (hz : Zo.chk z = 0) (l : List Zn) (hl : ∀ b, b ∈ l → Zo.chk b = 0) (a : Option Addr) (cap : Nat) (w : World) (hS : Sl w.heap.size w (.slice a l.length cap) l) :
    Calls Tryz.prog 231 #[.agg #[.int .i64 z.a, .int .i64 z.b, .int .i64 z.c, .int .i64 z.d, .int .i64 z.e, .int .i64 z.f], .slice a l.length cap] w fun e w' => e = .returned (.tuple #[.bool (Cv.covered z l).1, .int .i64 (Cv.covered z l).2]) ∧ Below w.heap.size w w' := by
  refine fun_eq 0 w Tryz.func231 (args := [.agg [.val (.int .i64 z.a), .val (.int .i64 z.b), .val (.int .i64 z.c), .val (.int .i64 z.d), .val (.int .i64 z.e), .val (.int .i64 z.f)], .val (.slice a l.length cap)]) rfl rfl ?_
  refine NewI.mk fun b1 hb1 => ?_
  apply CallI.use
  focus (exact fun w2 h2 => rrest_any z hz l hl a cap w2 (hS.go h2.below h2.below.size))
  rintro v w2 v2 h2 hB2 ⟨a2, c2, rfl, hS2⟩
  unfold Cv.covered
  generalize Mi.outer l [z] = X at *
  obtain ⟨x, e⟩ := X
  refine Branch.mk (fun hc2 => ?_) (fun hc2 => ?_)
  · have h1 : e = 0 := by simpa using hc2
    subst h1
    exact EndI.mk fun w3 h3 => by simp
  · have h1 : ¬ e = 0 := by simpa using hc2
    exact EndI.mk fun w3 h3 => by simp [h1]
end Go.Proofs.YtodpgcdandechaaGreat

/-
  The document's answer of layer 12, by the engine: AllCovered, All, without; the order of zones.
-/
namespace Go.Proofs.YtodpgcdandechaaGreat
set_option linter.unusedVariables false
set_option linter.unusedSimpArgs false
set_option maxRecDepth 100000
open Go.RowKit Go.Proofs.YtodpgcdandechaaGreat.Eng Enc

theorem rallcov_any (l m : List Zn) (hl : ∀ z, z ∈ l → Zo.chk z = 0) (hm : ∀ z, z ∈ m → Zo.chk z = 0) (hm4 : m.length ≤ 4096) (a b : Option Addr) (ca cb : Nat) (w : World) (hS : Sl w.heap.size w (.slice a l.length ca) l) (hT : Sl w.heap.size w (.slice b m.length cb) m) :
    Calls Tryz.prog 184 #[.slice a l.length ca, .slice b m.length cb] w fun e w' => e = .returned (.tuple #[.bool (Cv.allGo m l).1, .int .i64 (Cv.allGo m l).2]) ∧ Below w.heap.size w w' := by
  refine fun_eq 0 w Tryz.func184 (args := [.val (.slice a l.length ca), .val (.slice b m.length cb)]) rfl rfl ?_
  obtain ⟨_, _, hfe, hcap1, hcap2, _⟩ := hS.form
  injection hfe with _ _ hfe
  subst hfe
  unfold maxLen at hcap2
  refine LoopI.invC (α := Nat × World) (fun y => [(6, .val (.int .i64 y.1))]) (fun y => y.2) (fun y => y.1 ≤ l.length ∧ Below w.heap.size w y.2 ∧ Cv.allGo m l = Cv.allGo m (l.drop y.1)) (fun y => l.length - y.1) ?_ ?_
  · intro w1 h1
    exact ⟨(0, w1), Cov.mk (by repeat' (first | exact trivial | refine And.intro rfl ?_)) rfl rfl rfl rfl rfl, rfl, Nat.zero_le _, h1.below, rfl⟩
  rintro ⟨k, V⟩ ⟨hk, hV, heq⟩
  simp only at hk hV heq
  refine Branch.mk (fun z3 => ?_) (fun z3 => ?_)
  · have hlt : k < l.length := by have := of_decide_eq_true z3; simp only at this; omega
    have hx := List.getElem?_eq_getElem (l := l) (i := k) hlt
    have hd := List.drop_eq_getElem_cons hlt
    generalize l[k] = x at hx hd
    have hxc := hl x (List.mem_of_getElem? hx)
    rw [hd, Cv.allGo] at heq
    have hSV := hS.go hV hV.size
    refine hSV.idx hx fun ad had => ?_
    refine hSV.ld hx had (Below.refl _ _) (by simp) ?_
    have hcv := fun w h => rcovered_any x hxc m hm b cb w h
    rw [Cv.covered_in hm4 hxc hm] at hcv
    apply CallI.use1
    focus (exact fun w3 h3 => hcv w3 (hT.go h3.below h3.below.size))
    intro w3 v3 h3 hB3
    unfold Cv.misses at heq
    generalize Cv.in_ x m = I at heq
    obtain ⟨is, e⟩ := I
    simp only at heq
    refine Branch.mk (fun z4 => ?_) (fun z4 => ?_)
    · have he : e ≠ 0 := of_decide_eq_true z4
      rw [if_pos (by simp [he])] at heq
      rw [heq]
      exact EndI.mk fun w9 h9 => rfl
    have he : e = 0 := by have := of_decide_eq_false z4; simpa using this
    subst he
    refine Branch.mk (fun z5 => ?_) (fun z5 => ?_)
    · have hi : is = false := by simpa using z5
      subst hi
      rw [if_pos (by simp)] at heq
      rw [heq]
      exact EndI.mk fun w9 h9 => rfl
    · have hi : is = true := by simpa using z5
      subst hi
      rw [if_neg (by simp)] at heq
      refine Need.mk (by simp only [inK]; omega) (EndI.mk fun w9 h9 => ⟨(k + 1, w9), Cov.mk (by repeat' (first | exact trivial | refine And.intro rfl ?_)) rfl rfl rfl rfl rfl, rfl, ⟨hlt, h9.below, heq⟩, by simp only; omega⟩)
  · have hge : k = l.length := by have := of_decide_eq_false z3; simp only at this; omega
    subst hge
    rw [List.drop_length] at heq
    rw [heq]
    exact EndI.mk fun w9 h9 => rfl
theorem rall12_any (l m : List Zn) (hl : ∀ z, z ∈ l → Zo.i64 z) (hm : ∀ z, z ∈ m → Zo.i64 z) (a b : Option Addr) (ca cb : Nat) (w : World) (hS : Sl w.heap.size w (.slice a l.length ca) l) (hT : Sl w.heap.size w (.slice b m.length cb) m) :
    Calls Tryz.prog 106 #[.slice a l.length ca, .slice b m.length cb] w fun e w' => e = .returned (.tuple #[.bool (Cv.all_ l m).1, .int .i64 (Cv.all_ l m).2]) ∧ Below w.heap.size w w' := by
  refine fun_eq 0 w Tryz.func106 (args := [.val (.slice a l.length ca), .val (.slice b m.length cb)]) rfl rfl ?_
  apply CallI.use1
  focus (exact fun w2 h2 => rcheck12_any l m hl hm a b ca cb w2 (hS.go h2.below h2.below.size) (hT.go h2.below h2.below.size))
  intro w2 v2 h2 hB2
  unfold Cv.all_
  refine Branch.mk (fun z1 => ?_) (fun z1 => ?_)
  · have h0 : Cv.checked [l, m] ≠ 0 := of_decide_eq_true z1
    rw [if_pos h0]
    exact EndI.mk fun w9 h9 => rfl
  have h0 : Cv.checked [l, m] = 0 := by have := of_decide_eq_false z1; simpa using this
  rw [if_neg (by simp [h0])]
  obtain ⟨h4, hm4, hlc, hmc⟩ := Cv.checked_zero h0
  apply CallI.use1
  focus (exact fun w3 h3 => rallcov_any l m hlc hmc hm4 a b ca cb w3 (hS.go h3.below h3.below.size) (hT.go h3.below h3.below.size))
  intro w3 v3 h3 hB3
  exact EndI.mk fun w9 h9 => rfl
theorem erase_step {l : List Zn} {k i : Nat} {x : Zn} (hx : l[k]? = some x) : (l.take (k + 1)).eraseIdx i = if k = i then (l.take k).eraseIdx i else (l.take k).eraseIdx i ++ [x] := by
  have hk := (List.getElem?_eq_some_iff.1 hx).1
  have hl : (l.take k).length = k := by rw [List.length_take]; omega
  rw [List.take_add_one, hx]
  show (l.take k ++ [x]).eraseIdx i = _
  by_cases h1 : i < k
  · rw [if_neg (by omega), List.eraseIdx_append_of_lt_length (by omega)]
  · by_cases h2 : k = i
    · subst h2
      have h3 : (l.take k).eraseIdx k = l.take k := List.eraseIdx_of_length_le (by omega)
      rw [if_pos rfl, List.eraseIdx_append_of_length_le (by omega), hl, Nat.sub_self, h3]
      simp
    · rw [if_neg h2, List.eraseIdx_of_length_le (by rw [List.length_append, hl]; simp; omega), List.eraseIdx_of_length_le (by omega)]
theorem rwithout_any (l : List Zn) (i : Nat) (hlen : l.length ≤ 4096) (a : Option Addr) (ca : Nat) (w : World) (hS : Sl w.heap.size w (.slice a l.length ca) l) :
    Calls Tryz.prog 232 #[.slice a l.length ca, .int .i64 (i : Nat)] w (Ret w fun v w' => Own 39 w.heap.size w' v (l.eraseIdx i)) := by
  refine fun_ret 0 w Tryz.func232 (args := [.val (.slice a l.length ca), .val (.int .i64 (i : Nat))]) rfl rfl ?_
  have st := Stay.first (w := w)
  refine LoopI.invC (α := Nat × World × Value) (fun y => [(6, .val (.int .i64 y.1)), (5, .val y.2.2)]) (fun y => y.2.1) (fun y => y.1 ≤ l.length ∧ Below w.heap.size w y.2.1 ∧ ∃ base, Lp ⟨w, w.heap.size, Nat.le_refl _⟩ [w] [] 39 base y.2.1 y.2.2 ((l.take y.1).eraseIdx i)) (fun y => l.length - y.1) ?_ ?_
  · intro w1 h1
    exact ⟨(0, w1, .slice none 0 0), Cov.mk (by repeat' (first | exact trivial | refine And.intro rfl ?_)) rfl rfl rfl rfl rfl, rfl, Nat.zero_le _, h1.below, _, by simp only [List.take_zero, List.eraseIdx_nil]; exact Lp.start st h1 (by simp)⟩
  rintro ⟨k, V, ov⟩ ⟨hk, hV, base, lp⟩
  simp only at hk hV lp
  obtain ⟨ao, co, rfl⟩ := lp.own.form
  have hle : ((l.take k).eraseIdx i).length ≤ k := by
    have := List.length_eraseIdx_le (l.take k) i
    rw [List.length_take] at this; omega
  refine Branch.mk (fun z3 => ?_) (fun z3 => ?_)
  · have hlt : k < l.length := by have := of_decide_eq_true z3; simp only at this; omega
    have hx := List.getElem?_eq_getElem (l := l) (i := k) hlt
    generalize l[k] = x at hx
    have hes := erase_step (i := i) hx
    refine Branch.mk (fun z4 => ?_) (fun z4 => ?_)
    · have hne : k ≠ i := by have := of_decide_eq_true z4; simp only at this; omega
      rw [if_neg hne] at hes
      have hSV := hS.go hV hV.size
      refine hSV.idx hx fun ad had => ?_
      refine hSV.ld hx had (Below.refl _ _) (by simp) ?_
      refine NewI.mk fun b1 hb1 => ?_
      have hb1' : V.heap.size ≤ b1 := hb1
      refine GenN.appL (α := Zn) elZ lp (fun y hy => .inr (by simp at hy; omega)) (by simp) [x] (fun w8 h8 => src_own h8 0 rfl rfl rfl rfl) (by simp; omega) (by decide) fun a' c' w8 w9 h8 lp9 hsz hbl => ?_
      rw [← hes] at lp9 ⊢
      refine Need.mk (by simp only [inK]; omega) (EndI.mk fun w10 h10 => ⟨(k + 1, w10, .slice a' ((l.take (k + 1)).eraseIdx i).length c'), Cov.mk (by repeat' (first | exact trivial | refine And.intro rfl ?_)) rfl rfl rfl rfl rfl, rfl, ⟨hlt, h10.below, base, lp9.at h10 (by simp)⟩, by simp only; omega⟩)
    · have he : k = i := by have := of_decide_eq_false z4; simp only at this; omega
      rw [if_pos he] at hes
      rw [← hes] at lp ⊢
      refine Need.mk (by simp only [inK]; omega) (EndI.mk fun w10 h10 => ⟨(k + 1, w10, .slice ao ((l.take (k + 1)).eraseIdx i).length co), Cov.mk (by repeat' (first | exact trivial | refine And.intro rfl ?_)) rfl rfl rfl rfl rfl, rfl, ⟨hlt, h10.below, base, lp.at h10 (by simp)⟩, by simp only; omega⟩)
  · have hge : k = l.length := by have := of_decide_eq_false z3; simp only at this; omega
    subst hge
    rw [List.take_length] at lp ⊢
    refine EndI.mk fun w10 h10 => (lp.at h10 (by simp)).own.lower ?_
    exact lp.anc w (by simp)
end Go.Proofs.YtodpgcdandechaaGreat

/-
  The document's answer of layer 8, by the engine: Cmp.
-/
namespace Go.Proofs.YtodpgcdandechaaGreat
set_option linter.unusedVariables false
set_option linter.unusedSimpArgs false
set_option maxRecDepth 100000
open Go.RowKit Go.Proofs.YtodpgcdandechaaGreat.Eng Enc

theorem cmp_if (x y : Zn) : Zo.cmp x y = if x.a < y.a then -1 else if y.a < x.a then 1 else if x.b < y.b then -1 else if y.b < x.b then 1 else if x.c < y.c then -1 else if y.c < x.c then 1 else if x.d < y.d then -1 else if y.d < x.d then 1 else if x.e < y.e then -1 else if y.e < x.e then 1 else if x.f < y.f then -1 else if y.f < x.f then 1 else 0 := by
  have one : ∀ (a b t : Int), (if cmpI a b ≠ 0 then cmpI a b else t) = if a < b then -1 else if b < a then 1 else t := by
    intro a b t
    unfold cmpI
    split <;> (try split) <;> simp_all
  unfold Zo.cmp
  rw [one, one, one, one, one, one]
theorem rcmp08_any (x y : Zn) (w : World) :
    Calls Tryz.prog 255 #[.agg #[.int .i64 x.a, .int .i64 x.b, .int .i64 x.c, .int .i64 x.d, .int .i64 x.e, .int .i64 x.f], .agg #[.int .i64 y.a, .int .i64 y.b, .int .i64 y.c, .int .i64 y.d, .int .i64 y.e, .int .i64 y.f]] w fun e w' => e = .returned (.int .i64 (Zo.cmp x y)) ∧ Below w.heap.size w w' := by
  refine fun_eq 0 w Tryz.func255 (args := [.agg [.val (.int .i64 x.a), .val (.int .i64 x.b), .val (.int .i64 x.c), .val (.int .i64 x.d), .val (.int .i64 x.e), .val (.int .i64 x.f)], .agg [.val (.int .i64 y.a), .val (.int .i64 y.b), .val (.int .i64 y.c), .val (.int .i64 y.d), .val (.int .i64 y.e), .val (.int .i64 y.f)]]) rfl rfl ?_
  refine NewI.mk fun b1 hb1 => ?_
  refine NewI.mk fun b2 hb2 => ?_
  refine LoopI.rounds 7 ?_
  rw [cmp_if]
  obtain ⟨xa, xb, xc, xd, xe, xf⟩ := x
  obtain ⟨ya, yb, yc, yd, ye, yf⟩ := y
  refine Branch.yes rfl ?_
  refine DrawI.go (.tk 0 (.tk 1 (.tk 2 (.tk 3 (.tk 4 (.tk 5 (.tk 6 .done))))))) (by kernel_rfl) fun w1 h1 => ?_
  refine Need.mk (by decide) ?_
  refine Need.mk (by decide) ?_
  refine Branch.mk (fun z1 => ?_) (fun z1 => ?_)
  · have hl : xa < ya := of_decide_eq_true z1
    simp only [if_pos hl]
    exact EndI.mk fun w9 h9 => rfl
  have hl : ¬ xa < ya := of_decide_eq_false z1
  simp only [if_neg hl]
  clear z1 hl
  refine DrawI.go (.tk 0 (.tk 1 (.tk 2 (.tk 3 (.tk 4 (.tk 5 (.tk 6 .done))))))) (by kernel_rfl) fun w1 h1 => ?_
  refine Need.mk (by decide) ?_
  refine Need.mk (by decide) ?_
  refine Branch.mk (fun z1 => ?_) (fun z1 => ?_)
  · have hl : ya < xa := of_decide_eq_true z1
    simp only [if_pos hl]
    exact EndI.mk fun w9 h9 => rfl
  have hl : ¬ ya < xa := of_decide_eq_false z1
  simp only [if_neg hl]
  clear z1 hl
  refine Need.mk (by simp only [inK]; omega) ?_
  refine Branch.yes rfl ?_
  refine DrawI.go (.tk 0 (.tk 1 (.tk 2 (.tk 3 (.tk 4 (.tk 5 (.tk 6 .done))))))) (by kernel_rfl) fun w1 h1 => ?_
  refine Need.mk (by decide) ?_
  refine Need.mk (by decide) ?_
  refine Branch.mk (fun z1 => ?_) (fun z1 => ?_)
  · have hl : xb < yb := of_decide_eq_true z1
    simp only [if_pos hl]
    exact EndI.mk fun w9 h9 => rfl
  have hl : ¬ xb < yb := of_decide_eq_false z1
  simp only [if_neg hl]
  clear z1 hl
  refine DrawI.go (.tk 0 (.tk 1 (.tk 2 (.tk 3 (.tk 4 (.tk 5 (.tk 6 .done))))))) (by kernel_rfl) fun w1 h1 => ?_
  refine Need.mk (by decide) ?_
  refine Need.mk (by decide) ?_
  refine Branch.mk (fun z1 => ?_) (fun z1 => ?_)
  · have hl : yb < xb := of_decide_eq_true z1
    simp only [if_pos hl]
    exact EndI.mk fun w9 h9 => rfl
  have hl : ¬ yb < xb := of_decide_eq_false z1
  simp only [if_neg hl]
  clear z1 hl
  refine Need.mk (by simp only [inK]; omega) ?_
  refine Branch.yes rfl ?_
  refine DrawI.go (.tk 0 (.tk 1 (.tk 2 (.tk 3 (.tk 4 (.tk 5 (.tk 6 .done))))))) (by kernel_rfl) fun w1 h1 => ?_
  refine Need.mk (by decide) ?_
  refine Need.mk (by decide) ?_
  refine Branch.mk (fun z1 => ?_) (fun z1 => ?_)
  · have hl : xc < yc := of_decide_eq_true z1
    simp only [if_pos hl]
    exact EndI.mk fun w9 h9 => rfl
  have hl : ¬ xc < yc := of_decide_eq_false z1
  simp only [if_neg hl]
  clear z1 hl
  refine DrawI.go (.tk 0 (.tk 1 (.tk 2 (.tk 3 (.tk 4 (.tk 5 (.tk 6 .done))))))) (by kernel_rfl) fun w1 h1 => ?_
  refine Need.mk (by decide) ?_
  refine Need.mk (by decide) ?_
  refine Branch.mk (fun z1 => ?_) (fun z1 => ?_)
  · have hl : yc < xc := of_decide_eq_true z1
    simp only [if_pos hl]
    exact EndI.mk fun w9 h9 => rfl
  have hl : ¬ yc < xc := of_decide_eq_false z1
  simp only [if_neg hl]
  clear z1 hl
  refine Need.mk (by simp only [inK]; omega) ?_
  refine Branch.yes rfl ?_
  refine DrawI.go (.tk 0 (.tk 1 (.tk 2 (.tk 3 (.tk 4 (.tk 5 (.tk 6 .done))))))) (by kernel_rfl) fun w1 h1 => ?_
  refine Need.mk (by decide) ?_
  refine Need.mk (by decide) ?_
  refine Branch.mk (fun z1 => ?_) (fun z1 => ?_)
  · have hl : xd < yd := of_decide_eq_true z1
    simp only [if_pos hl]
    exact EndI.mk fun w9 h9 => rfl
  have hl : ¬ xd < yd := of_decide_eq_false z1
  simp only [if_neg hl]
  clear z1 hl
  refine DrawI.go (.tk 0 (.tk 1 (.tk 2 (.tk 3 (.tk 4 (.tk 5 (.tk 6 .done))))))) (by kernel_rfl) fun w1 h1 => ?_
  refine Need.mk (by decide) ?_
  refine Need.mk (by decide) ?_
  refine Branch.mk (fun z1 => ?_) (fun z1 => ?_)
  · have hl : yd < xd := of_decide_eq_true z1
    simp only [if_pos hl]
    exact EndI.mk fun w9 h9 => rfl
  have hl : ¬ yd < xd := of_decide_eq_false z1
  simp only [if_neg hl]
  clear z1 hl
  refine Need.mk (by simp only [inK]; omega) ?_
  refine Branch.yes rfl ?_
  refine DrawI.go (.tk 0 (.tk 1 (.tk 2 (.tk 3 (.tk 4 (.tk 5 (.tk 6 .done))))))) (by kernel_rfl) fun w1 h1 => ?_
  refine Need.mk (by decide) ?_
  refine Need.mk (by decide) ?_
  refine Branch.mk (fun z1 => ?_) (fun z1 => ?_)
  · have hl : xe < ye := of_decide_eq_true z1
    simp only [if_pos hl]
    exact EndI.mk fun w9 h9 => rfl
  have hl : ¬ xe < ye := of_decide_eq_false z1
  simp only [if_neg hl]
  clear z1 hl
  refine DrawI.go (.tk 0 (.tk 1 (.tk 2 (.tk 3 (.tk 4 (.tk 5 (.tk 6 .done))))))) (by kernel_rfl) fun w1 h1 => ?_
  refine Need.mk (by decide) ?_
  refine Need.mk (by decide) ?_
  refine Branch.mk (fun z1 => ?_) (fun z1 => ?_)
  · have hl : ye < xe := of_decide_eq_true z1
    simp only [if_pos hl]
    exact EndI.mk fun w9 h9 => rfl
  have hl : ¬ ye < xe := of_decide_eq_false z1
  simp only [if_neg hl]
  clear z1 hl
  refine Need.mk (by simp only [inK]; omega) ?_
  refine Branch.yes rfl ?_
  refine DrawI.go (.tk 0 (.tk 1 (.tk 2 (.tk 3 (.tk 4 (.tk 5 (.tk 6 .done))))))) (by kernel_rfl) fun w1 h1 => ?_
  refine Need.mk (by decide) ?_
  refine Need.mk (by decide) ?_
  refine Branch.mk (fun z1 => ?_) (fun z1 => ?_)
  · have hl : xf < yf := of_decide_eq_true z1
    simp only [if_pos hl]
    exact EndI.mk fun w9 h9 => rfl
  have hl : ¬ xf < yf := of_decide_eq_false z1
  simp only [if_neg hl]
  clear z1 hl
  refine DrawI.go (.tk 0 (.tk 1 (.tk 2 (.tk 3 (.tk 4 (.tk 5 (.tk 6 .done))))))) (by kernel_rfl) fun w1 h1 => ?_
  refine Need.mk (by decide) ?_
  refine Need.mk (by decide) ?_
  refine Branch.mk (fun z1 => ?_) (fun z1 => ?_)
  · have hl : yf < xf := of_decide_eq_true z1
    simp only [if_pos hl]
    exact EndI.mk fun w9 h9 => rfl
  have hl : ¬ yf < xf := of_decide_eq_false z1
  simp only [if_neg hl]
  clear z1 hl
  refine Need.mk (by simp only [inK]; omega) ?_
  refine Branch.no rfl ?_
  exact EndI.mk fun w9 h9 => rfl
end Go.Proofs.YtodpgcdandechaaGreat

/-
  The least of a list behind a place: what the document's Sorted takes; plain.
-/
namespace Go.Proofs.YtodpgcdandechaaGreat
set_option linter.unusedVariables false
set_option linter.unusedSimpArgs false
open Go.RowKit

namespace Cv
open Zo
/-- x comes behind all of out. -/
def Nx (out : List Zn) (x : Zn) : Prop := ∀ y, out.getLast? = some y → Lt y x
/-- what the inner scan has found among the first i. -/
def Sc (l out : List Zn) (i : Nat) (b : Int) : Prop :=
  (b = -1 ∧ ∀ k x, k < i → l[k]? = some x → ¬ Nx out x) ∨
  (∃ j y, b = (j : Nat) ∧ j < i ∧ l[j]? = some y ∧ Nx out y ∧ ∀ k x, k < i → l[k]? = some x → Nx out x → ¬ Lt x y)
theorem Sc.start (l out : List Zn) : Sc l out 0 (-1) := .inl ⟨rfl, fun k x h => by omega⟩
theorem Sc.skip {l out : List Zn} {i : Nat} {b : Int} {x : Zn} (h : Sc l out i b) (hx : l[i]? = some x) (hn : ¬ Nx out x) : Sc l out (i + 1) b := by
  rcases h with ⟨rfl, h⟩ | ⟨j, y, rfl, hj, hy, hn2, h⟩
  · refine .inl ⟨rfl, fun k x' hk hx' => ?_⟩
    by_cases e : k = i
    · subst e; rw [hx] at hx'; cases hx'; exact hn
    · exact h k x' (by omega) hx'
  · refine .inr ⟨j, y, rfl, by omega, hy, hn2, fun k x' hk hx' hn' => ?_⟩
    by_cases e : k = i
    · subst e; rw [hx] at hx'; cases hx'; exact absurd hn' hn
    · exact h k x' (by omega) hx' hn'
theorem Sc.first {l out : List Zn} {i : Nat} {x : Zn} (h : Sc l out i (-1)) (hx : l[i]? = some x) (hn : Nx out x) : Sc l out (i + 1) (i : Nat) := by
  rcases h with ⟨_, h⟩ | ⟨j, y, e, _⟩
  · refine .inr ⟨i, x, rfl, by omega, hx, hn, fun k x' hk hx' hn' => ?_⟩
    by_cases e : k = i
    · subst e; rw [hx] at hx'; cases hx'; exact Lt.irrefl _
    · exact absurd hn' (h k x' (by omega) hx')
  · omega
theorem Sc.keep {l out : List Zn} {i j : Nat} {x y : Zn} (h : Sc l out i (j : Nat)) (hx : l[i]? = some x) (hy : l[j]? = some y) (hn : ¬ Lt x y) : Sc l out (i + 1) (j : Nat) := by
  rcases h with ⟨e, _⟩ | ⟨j', y', e, hj, hy', hn2, h⟩
  · omega
  · have : j' = j := by omega
    subst this
    rw [hy] at hy'; cases hy'
    refine .inr ⟨j', y, rfl, by omega, hy, hn2, fun k x' hk hx' hn' => ?_⟩
    by_cases e : k = i
    · subst e; rw [hx] at hx'; cases hx'; exact hn
    · exact h k x' (by omega) hx' hn'
theorem Sc.less {l out : List Zn} {i j : Nat} {x y : Zn} (h : Sc l out i (j : Nat)) (hx : l[i]? = some x) (hy : l[j]? = some y) (hN : Nx out x) (hn : Lt x y) : Sc l out (i + 1) (i : Nat) := by
  rcases h with ⟨e, _⟩ | ⟨j', y', e, hj, hy', hn2, h⟩
  · omega
  · have : j' = j := by omega
    subst this
    rw [hy] at hy'; cases hy'
    refine .inr ⟨i, x, rfl, by omega, hx, hN, fun k x' hk hx' hn' hlt => ?_⟩
    by_cases e : k = i
    · subst e; rw [hx] at hx'; cases hx'; exact Lt.irrefl _ hlt
    · exact h k x' (by omega) hx' hn' (Lt.trans hlt hn)
theorem last_take {S : List Zn} {p : Nat} (hp : p ≤ S.length) : (S.take p).getLast? = if p = 0 then none else S[p - 1]? := by
  rw [List.getLast?_eq_getElem?, List.length_take, Nat.min_eq_left hp]
  by_cases h : p = 0
  · subst h; simp
  · rw [if_neg h, List.getElem?_take, if_pos (by omega)]
theorem strict_at {S : List Zn} (h : S.Pairwise Lt) {i j : Nat} {x y : Zn} (hx : S[i]? = some x) (hy : S[j]? = some y) (hij : i < j) : Lt x y := by
  obtain ⟨h1, rfl⟩ := List.getElem?_eq_some_iff.1 hx
  obtain ⟨h2, rfl⟩ := List.getElem?_eq_some_iff.1 hy
  exact List.pairwise_iff_getElem.1 h i j h1 h2 hij
theorem nx_at {S : List Zn} (h : S.Pairwise Lt) {p j : Nat} {x : Zn} (hp : p ≤ S.length) (hx : S[j]? = some x) : Nx (S.take p) x ↔ p ≤ j := by
  unfold Nx
  rw [last_take hp]
  constructor
  · intro hn
    by_cases e : p = 0
    · omega
    rw [if_neg e] at hn
    obtain ⟨y, hy⟩ : ∃ y, S[p - 1]? = some y := ⟨_, List.getElem?_eq_getElem (by omega)⟩
    have hlt := hn y hy
    refine Nat.le_of_not_lt fun hj => ?_
    by_cases e2 : j = p - 1
    · subst e2; rw [hx] at hy; cases hy; exact Lt.irrefl _ hlt
    · exact Lt.irrefl _ (Lt.trans hlt (strict_at h hx hy (by omega)))
  · intro hpj y hy
    by_cases e : p = 0
    · rw [if_pos e] at hy; cases hy
    · rw [if_neg e] at hy
      exact strict_at h hy hx (by omega)
theorem Sc.done {l : List Zn} {p : Nat} (hp : p ≤ (sorted l).length) (h : Sc l ((sorted l).take p) l.length (-1)) : (sorted l).take p = sorted l := by
  rcases h with ⟨_, h⟩ | ⟨j, y, e, _⟩
  · refine List.take_of_length_le (Nat.le_of_not_lt fun hlt => ?_)
    have hx := List.getElem?_eq_getElem hlt
    obtain ⟨k, hk⟩ := List.mem_iff_getElem?.1 ((sorted_mem l _).1 (List.mem_of_getElem? hx))
    exact h k _ (List.getElem?_eq_some_iff.1 hk).1 hk ((nx_at (sorted_strict l) hp hx).2 (Nat.le_refl _))
  · omega
theorem Sc.more {l : List Zn} {p j : Nat} {y : Zn} (hp : p ≤ (sorted l).length) (h : Sc l ((sorted l).take p) l.length (j : Nat)) (hy : l[j]? = some y) : (sorted l)[p]? = some y := by
  rcases h with ⟨e, _⟩ | ⟨j', y', e, hj, hy', hn2, h⟩
  · omega
  · have : j' = j := by omega
    subst this
    rw [hy] at hy'; cases hy'
    obtain ⟨q, hq⟩ := List.mem_iff_getElem?.1 ((sorted_mem l y).2 (List.mem_of_getElem? hy))
    have hpq := (nx_at (sorted_strict l) hp hq).1 hn2
    by_cases e : p = q
    · rw [e]; exact hq
    have hql := (List.getElem?_eq_some_iff.1 hq).1
    have hx := List.getElem?_eq_getElem (l := sorted l) (i := p) (by omega)
    obtain ⟨k, hk⟩ := List.mem_iff_getElem?.1 ((sorted_mem l _).1 (List.mem_of_getElem? hx))
    exact absurd (strict_at (sorted_strict l) hx hq (by omega)) (h k _ (List.getElem?_eq_some_iff.1 hk).1 hk ((nx_at (sorted_strict l) hp hx).2 (Nat.le_refl _)))
end Cv
end Go.Proofs.YtodpgcdandechaaGreat

/-
  The document's answer of layer 12, by the engine: Sorted.
-/
namespace Go.Proofs.YtodpgcdandechaaGreat
set_option linter.unusedVariables false
set_option linter.unusedSimpArgs false
set_option maxRecDepth 100000
open Go.RowKit Go.Proofs.YtodpgcdandechaaGreat.Eng Enc

namespace Zo
theorem cmpI_gt (x y : Int) : 0 < cmpI x y ↔ y < x := by unfold cmpI; split <;> (try split) <;> omega
theorem step_gt {x y c : Int} {P : Prop} (h : 0 < c ↔ P) : 0 < (if cmpI x y ≠ 0 then cmpI x y else c) ↔ (y < x ∨ y = x ∧ P) := by
  have h1 := cmpI_gt x y
  have h2 := cmpI_eq x y
  by_cases hc : cmpI x y = 0
  · rw [if_neg (by simp [hc]), h]
    have := h2.1 hc
    constructor
    · intro hp; exact .inr ⟨this.symm, hp⟩
    · rintro (hl | ⟨_, hp⟩)
      · omega
      · exact hp
  · rw [if_pos hc, h1]
    constructor
    · exact .inl
    · rintro (hl | ⟨he, _⟩)
      · exact hl
      · exact absurd (h2.2 he.symm) hc
theorem cmp_gt (x y : Zn) : 0 < cmp x y ↔ Lt y x := by
  unfold cmp Lt
  exact step_gt (step_gt (step_gt (step_gt (step_gt (step_gt (by simp))))))
end Zo
namespace Cv
theorem Sc.neg {l out : List Zn} {i : Nat} {b : Int} (h : Sc l out i b) (hb : b < 0) : b = -1 := by
  rcases h with ⟨rfl, _⟩ | ⟨j, y, rfl, _⟩ <;> omega
theorem Sc.pos {l out : List Zn} {i : Nat} {b : Int} (h : Sc l out i b) (hb : ¬ b < 0) : ∃ j y, b = (j : Nat) ∧ j < i ∧ l[j]? = some y := by
  rcases h with ⟨rfl, _⟩ | ⟨j, y, rfl, hj, hy, _⟩
  · omega
  · exact ⟨j, y, rfl, hj, hy⟩
end Cv
theorem rsorted_any (l : List Zn) (hlen : l.length ≤ 4096) (a : Option Addr) (ca : Nat) (w : World) (hS : Sl w.heap.size w (.slice a l.length ca) l) :
    Calls Tryz.prog 230 #[.slice a l.length ca] w (Ret w fun v w' => Own 39 w.heap.size w' v (Cv.sorted l)) := by
  refine fun_ret 0 w Tryz.func230 (args := [.val (.slice a l.length ca)]) rfl rfl ?_
  have st := Stay.first (w := w)
  have hsl : (Cv.sorted l).length ≤ 4096 := Nat.le_trans (Cv.sorted_len l) hlen
  refine LoopI.invC (α := Nat × World × Value) (fun y => [(3, .val y.2.2)]) (fun y => y.2.1) (fun y => y.1 ≤ (Cv.sorted l).length ∧ Below w.heap.size w y.2.1 ∧ ∃ base, Lp ⟨w, w.heap.size, Nat.le_refl _⟩ [w] [] 39 base y.2.1 y.2.2 ((Cv.sorted l).take y.1)) (fun y => (Cv.sorted l).length - y.1) ?_ ?_
  · intro w1 h1
    exact ⟨(0, w1, .slice none 0 0), Cov.mk (by repeat' (first | exact trivial | refine And.intro rfl ?_)) rfl rfl rfl rfl rfl, rfl, Nat.zero_le _, h1.below, _, by simp only [List.take_zero]; exact Lp.start st h1 (by simp)⟩
  rintro ⟨p, V, ov⟩ ⟨hp, hV, base, lp0⟩
  simp only at hp hV lp0
  obtain ⟨ao, co, rfl⟩ := lp0.own.form
  have hlenT : ((Cv.sorted l).take p).length = p := by rw [List.length_take, Nat.min_eq_left hp]
  generalize hout : (Cv.sorted l).take p = out at *
  refine LoopI.invC (α := Nat × World × Int) (fun y => [(4, .val (.int .i64 y.2.2)), (5, .val (.int .i64 y.1))]) (fun y => y.2.1) (fun y => y.1 ≤ l.length ∧ Below w.heap.size w y.2.1 ∧ Lp ⟨w, w.heap.size, Nat.le_refl _⟩ [w] [] 39 base y.2.1 (.slice ao out.length co) out ∧ Cv.Sc l out y.1 y.2.2) (fun y => l.length - y.1) ?_ ?_
  · intro w1 h1
    exact ⟨(0, w1, -1), Cov.mk (by repeat' (first | exact trivial | refine And.intro rfl ?_)) rfl rfl rfl rfl rfl, rfl, Nat.zero_le _, h1.below, lp0.at h1 (by simp), Cv.Sc.start _ _⟩
  rintro ⟨k, U, best⟩ ⟨hk, hU, lp, hSc⟩
  simp only at hk hU lp hSc
  have hSU := hS.go hU hU.size
  refine Branch.mk (fun z3 => ?_) (fun z3 => ?_)
  · have hlt : k < l.length := by have := of_decide_eq_true z3; simp only at this; omega
    have hx := List.getElem?_eq_getElem (l := l) (i := k) hlt
    generalize l[k] = x at hx
    refine DrawI.go (.tk 0 (.tk 1 (.tk 2 (.tk 3 (.tk 4 (.tk 5 (.tk 6 (.tk 7 (.tk 8 (.tk 9 (.tk 10 (.tk 11 (.tk 12 (.tk 13 (.ev 14 (.tk 15 (.tk 16 (.tk 17 .done)))))))))))))))))) (by kernel_rfl) fun w2 h2 => ?_
    refine Branch.mk (fun z4 => ?_) (fun z4 => ?_)
    · have hz : out.length = 0 := by have := of_decide_eq_true z4; omega
      have hN : Cv.Nx out x := fun y hy => by rw [List.length_eq_zero_iff.1 hz] at hy; cases hy
      refine DrawI.go (.tk 0 (.tk 1 (.tk 2 (.tk 3 (.tk 4 (.tk 5 (.tk 6 (.tk 7 (.tk 8 (.tk 9 (.tk 10 (.tk 11 (.tk 12 (.ev 13 (.tk 14 (.tk 15 (.tk 16 .done))))))))))))))))) (by kernel_rfl) fun w4 h4 => ?_
      have lpT := (lp.at h2 (by simp)).at h4 (by simp)
      have hST := hS.go h4.below h4.below.size
      refine Branch.mk (fun z6 => ?_) (fun z6 => ?_)
      · have hb : best = -1 := hSc.neg (of_decide_eq_true z6)
        subst hb
        have hSc2 := hSc.first hx hN
        refine Need.mk (by simp only [inK]; omega) (EndI.mk fun w10 h10 => ⟨(k + 1, w10, (k : Nat)), Cov.mk (by repeat' (first | exact trivial | refine And.intro rfl ?_)) rfl rfl rfl rfl rfl, rfl, ⟨hlt, h10.below, lpT.at h10 (by simp), hSc2⟩, by simp only; omega⟩)
      · obtain ⟨j, y2, rfl, hjk, hy2⟩ := hSc.pos (of_decide_eq_false z6)
        refine hST.idx hx fun ad5 had5 => ?_
        refine hST.ld hx had5 (Below.refl _ _) (by simp) ?_
        refine hST.idx hy2 fun ad6 had6 => ?_
        refine hST.ld hy2 had6 (Below.refl _ _) (by simp) ?_
        apply CallI.use1
        focus (exact fun w5 h5 => rcmp08_any x y2 w5)
        intro w5 v5 h5 hB5
        refine Branch.mk (fun z7 => ?_) (fun z7 => ?_)
        · have hl : Zo.Lt x y2 := (Zo.cmp_lt x y2).1 (of_decide_eq_true z7)
          have hSc2 := hSc.less hx hy2 hN hl
          refine Need.mk (by simp only [inK]; omega) (EndI.mk fun w10 h10 => ⟨(k + 1, w10, (k : Nat)), Cov.mk (by repeat' (first | exact trivial | refine And.intro rfl ?_)) rfl rfl rfl rfl rfl, rfl, ⟨hlt, h10.below, ((lpT.at h5 (by simp)).go hB5).at h10 (by simp), hSc2⟩, by simp only; omega⟩)
        · have hl : ¬ Zo.Lt x y2 := fun h => of_decide_eq_false z7 ((Zo.cmp_lt x y2).2 h)
          have hSc2 := hSc.keep hx hy2 hl
          refine Need.mk (by simp only [inK]; omega) (EndI.mk fun w10 h10 => ⟨(k + 1, w10, (j : Nat)), Cov.mk (by repeat' (first | exact trivial | refine And.intro rfl ?_)) rfl rfl rfl rfl rfl, rfl, ⟨hlt, h10.below, ((lpT.at h5 (by simp)).go hB5).at h10 (by simp), hSc2⟩, by simp only; omega⟩)
    · have hz : out.length ≠ 0 := by have := of_decide_eq_false z4; omega
      have hSw := hSU.go h2.go h2.go.size
      refine hSw.idx hx fun ad had => ?_
      refine hSw.ld hx had (Below.refl _ _) (by simp) ?_
      refine Need.mk (by simp only [inK]; omega) ?_
      have hlpw := lp.at h2 (by simp)
      obtain ⟨y, hy⟩ : ∃ y, out[out.length - 1]? = some y := ⟨_, List.getElem?_eq_getElem (by omega)⟩
      have hix : ((out.length : Nat) : Int) - 1 = ((out.length - 1 : Nat) : Int) := by omega
      conv => whnf
      rw [hix]
      refine hlpw.own.sl.idx (k := out.length - 1) hy fun ad2 had2 => ?_
      refine hlpw.own.sl.ld hy had2 (Below.refl _ _) (by simp) ?_
      apply CallI.use1
      focus (exact fun w3 h3 => rcmp08_any x y w3)
      intro w3 v3 h3 hB3
      have hNx : Cv.Nx out x ↔ 0 < Zo.cmp x y := by
        rw [Zo.cmp_gt]
        unfold Cv.Nx
        rw [List.getLast?_eq_getElem?, hy]
        exact ⟨fun h => h y rfl, fun h y2 e => by cases e; exact h⟩
      refine DrawI.go (.tk 0 (.tk 1 (.tk 2 (.tk 3 (.tk 4 (.tk 5 (.tk 6 (.tk 7 (.tk 8 (.tk 9 (.tk 10 (.tk 11 (.tk 12 (.ev 13 (.tk 14 (.tk 15 (.tk 16 .done))))))))))))))))) (by kernel_rfl) fun w4 h4 => ?_
      have lpT := ((hlpw.at h3 (by simp)).go hB3).at h4 (by simp)
      refine Branch.mk (fun z5 => ?_) (fun z5 => ?_)
      · have hN := hNx.2 (of_decide_eq_true z5)
        have hST := hS.go h4.below h4.below.size
        refine Branch.mk (fun z6 => ?_) (fun z6 => ?_)
        · have hb : best = -1 := hSc.neg (of_decide_eq_true z6)
          subst hb
          have hSc2 := hSc.first hx hN
          refine Need.mk (by simp only [inK]; omega) (EndI.mk fun w10 h10 => ⟨(k + 1, w10, (k : Nat)), Cov.mk (by repeat' (first | exact trivial | refine And.intro rfl ?_)) rfl rfl rfl rfl rfl, rfl, ⟨hlt, h10.below, lpT.at h10 (by simp), hSc2⟩, by simp only; omega⟩)
        · obtain ⟨j, y2, rfl, hjk, hy2⟩ := hSc.pos (of_decide_eq_false z6)
          refine hST.idx hx fun ad5 had5 => ?_
          refine hST.ld hx had5 (Below.refl _ _) (by simp) ?_
          refine hST.idx hy2 fun ad6 had6 => ?_
          refine hST.ld hy2 had6 (Below.refl _ _) (by simp) ?_
          apply CallI.use1
          focus (exact fun w5 h5 => rcmp08_any x y2 w5)
          intro w5 v5 h5 hB5
          refine Branch.mk (fun z7 => ?_) (fun z7 => ?_)
          · have hl : Zo.Lt x y2 := (Zo.cmp_lt x y2).1 (of_decide_eq_true z7)
            have hSc2 := hSc.less hx hy2 hN hl
            refine Need.mk (by simp only [inK]; omega) (EndI.mk fun w10 h10 => ⟨(k + 1, w10, (k : Nat)), Cov.mk (by repeat' (first | exact trivial | refine And.intro rfl ?_)) rfl rfl rfl rfl rfl, rfl, ⟨hlt, h10.below, ((lpT.at h5 (by simp)).go hB5).at h10 (by simp), hSc2⟩, by simp only; omega⟩)
          · have hl : ¬ Zo.Lt x y2 := fun h => of_decide_eq_false z7 ((Zo.cmp_lt x y2).2 h)
            have hSc2 := hSc.keep hx hy2 hl
            refine Need.mk (by simp only [inK]; omega) (EndI.mk fun w10 h10 => ⟨(k + 1, w10, (j : Nat)), Cov.mk (by repeat' (first | exact trivial | refine And.intro rfl ?_)) rfl rfl rfl rfl rfl, rfl, ⟨hlt, h10.below, ((lpT.at h5 (by simp)).go hB5).at h10 (by simp), hSc2⟩, by simp only; omega⟩)
      · have hN : ¬ Cv.Nx out x := fun h => of_decide_eq_false z5 (hNx.1 h)
        have hSc2 := hSc.skip hx hN
        refine Need.mk (by simp only [inK]; omega) (EndI.mk fun w10 h10 => ⟨(k + 1, w10, best), Cov.mk (by repeat' (first | exact trivial | refine And.intro rfl ?_)) rfl rfl rfl rfl rfl, rfl, ⟨hlt, h10.below, lpT.at h10 (by simp), hSc2⟩, by simp only; omega⟩)
  · have hge : k = l.length := by have := of_decide_eq_false z3; simp only at this; omega
    subst hge
    refine Branch.mk (fun z4 => ?_) (fun z4 => ?_)
    · have hb : best = -1 := hSc.neg (of_decide_eq_true z4)
      subst hb
      have he : out = Cv.sorted l := by rw [← hout] at hSc ⊢; exact hSc.done hp
      rw [he] at lp
      refine EndI.mk fun w10 h10 => ?_
      have := (lp.at h10 (by simp)).own.lower (lp.anc w (by simp))
      rw [← he] at this ⊢
      exact this
    · obtain ⟨j, y, rfl, hjk, hy⟩ := hSc.pos (of_decide_eq_false z4)
      have hm : (Cv.sorted l)[p]? = some y := by rw [← hout] at hSc; exact hSc.more hp hy
      have hpl := (List.getElem?_eq_some_iff.1 hm).1
      have htk : (Cv.sorted l).take (p + 1) = out ++ [y] := by rw [List.take_add_one, hm, hout]; rfl
      refine hSU.idx hy fun ad had => ?_
      refine hSU.ld hy had (Below.refl _ _) (by simp) ?_
      refine NewI.mk fun b1 hb1 => ?_
      have hb1' : U.heap.size ≤ b1 := hb1
      refine GenN.appL (α := Zn) elZ lp (fun y hy => .inr (by simp at hy; omega)) (by simp) [y] (fun w8 h8 => src_own h8 0 rfl rfl rfl rfl) (by simp; omega) (by decide) fun a' c' w8 w9 h8 lp9 hsz hbl => ?_
      refine EndI.mk fun w10 h10 => ⟨(p + 1, w10, .slice a' (out ++ [y]).length c'), Cov.mk (by repeat' (first | exact trivial | refine And.intro rfl ?_)) rfl rfl rfl rfl rfl, rfl, ⟨hpl, h10.below, base, by simp only [htk]; exact lp9.at h10 (by simp)⟩, by simp only; omega⟩
end Go.Proofs.YtodpgcdandechaaGreat

/-
  The document's answer of layer 12, by the engine: Wanted, Prune.
-/
namespace Go.Proofs.YtodpgcdandechaaGreat
set_option linter.unusedVariables false
set_option linter.unusedSimpArgs false
set_option maxRecDepth 100000
open Go.RowKit Go.Proofs.YtodpgcdandechaaGreat.Eng Enc

end Go.Proofs.YtodpgcdandechaaGreat

/-
  The document's answer of layer 12, by the engine: what Prune answers is a row of its own.
-/
namespace Go.Proofs.YtodpgcdandechaaGreat
set_option linter.unusedVariables false
set_option linter.unusedSimpArgs false
set_option maxRecDepth 100000
open Go.RowKit Go.Proofs.YtodpgcdandechaaGreat.Eng Enc

theorem rwantedO_any (l : List Zn) (hl : ∀ z, z ∈ l → Zo.chk z = 0) (hlen : l.length ≤ 4096) (a : Option Addr) (ca : Nat) (w : World) (hS : Sl w.heap.size w (.slice a l.length ca) l) :
    Calls Tryz.prog 175 #[.slice a l.length ca] w (Ret w fun v w' => ∃ a' c', v = .tuple #[.slice a' (Cv.pgo (Cv.sorted l).length (Cv.sorted l)).1.length c', .int .i64 (Cv.pgo (Cv.sorted l).length (Cv.sorted l)).2] ∧ Own TZ w.heap.size w' (.slice a' (Cv.pgo (Cv.sorted l).length (Cv.sorted l)).1.length c') (Cv.pgo (Cv.sorted l).length (Cv.sorted l)).1) := by
  refine fun_ret 0 w Tryz.func175 (args := [.val (.slice a l.length ca)]) rfl rfl ?_
  have hsl : (Cv.sorted l).length ≤ 4096 := Nat.le_trans (Cv.sorted_len l) hlen
  have hsc : ∀ z, z ∈ Cv.sorted l → Zo.chk z = 0 := fun z hz => hl z ((Cv.sorted_mem l z).1 hz)
  apply CallI.use
  focus (exact fun w1 h1 => rsorted_any l hlen a ca w1 (hS.go h1.below h1.below.size))
  rintro v w1 v1 h1 hB1 hO1
  obtain ⟨a1, c1, rfl⟩ := hO1.form
  generalize Cv.sorted l = S at *
  refine Need.mk (by simp only [inK]; omega) ?_
  refine LoopI.invC (α := Int × World × Value × List Zn) (fun y => [(5, .val (.int .i64 y.1)), (4, .val y.2.2.1)]) (fun y => y.2.1) (fun y => -1 ≤ y.1 ∧ y.1 < y.2.2.2.length ∧ y.2.2.2.length ≤ 4096 ∧ Below w.heap.size w y.2.1 ∧ Own TZ w.heap.size y.2.1 y.2.2.1 y.2.2.2 ∧ (∀ z, z ∈ y.2.2.2 → Zo.chk z = 0) ∧ Cv.pgo S.length S = Cv.pgo (y.1 + 1).toNat y.2.2.2) (fun y => (y.1 + 1).toNat) ?_ ?_
  · intro w2 h2
    exact ⟨((S.length : Int) - 1, w2, .slice a1 S.length c1, S), Cov.mk (by repeat' (first | exact trivial | refine And.intro rfl ?_)) rfl rfl rfl rfl rfl, rfl, by simp only; omega, by simp only; omega, hsl, h2.below, (hO1.lower h1.below.size).below h2.go, hsc, by simp⟩
  rintro ⟨i, V, ov, out⟩ ⟨hi, hi2, ho4, hV, hSo, hoc, heq⟩
  simp only at hi hi2 ho4 hV hSo hoc heq
  obtain ⟨ao, co, rfl⟩ := hSo.form
  refine Branch.mk (fun z3 => ?_) (fun z3 => ?_)
  · have hge : 0 ≤ i := by have := of_decide_eq_true z3; exact this
    obtain ⟨k, rfl⟩ := Int.eq_ofNat_of_zero_le hge
    have hlt : k < out.length := by omega
    have hx := List.getElem?_eq_getElem (l := out) (i := k) hlt
    generalize out[k] = x at hx
    have hxc := hoc x (List.mem_of_getElem? hx)
    rw [show (((k : Nat) : Int) + 1).toNat = k + 1 by omega, Cv.pgo_succ hx] at heq
    refine DrawI.go (.tk 0 (.tk 1 (.tk 2 (.tk 3 (.tk 4 (.tk 5 (.ev 6 (.ev 7 (.tk 8 (.tk 9 (.tk 10 (.tk 11 (.tk 12 .done))))))))))))) (by kernel_rfl) fun w3 h3 => ?_
    have hO3 := hSo.below h3.go
    have hS3 := hO3.sl
    refine hS3.idx hx fun ad had => ?_
    refine hS3.ld hx had (Below.refl _ _) (by simp) ?_
    apply CallI.use
    focus (exact fun w4 h4 => rwithout_any out k ho4 ao co w4 (hS3.go h4.go h4.go.size))
    rintro v w4 v4 h4 hB4 hO4
    obtain ⟨a4, c4, rfl⟩ := hO4.form
    have hec : ∀ z, z ∈ out.eraseIdx k → Zo.chk z = 0 := fun z hz => hoc z (List.mem_of_mem_eraseIdx hz)
    have hel : (out.eraseIdx k).length ≤ 4096 := by have := List.length_eraseIdx_le out k; omega
    have hcv := fun w h => rcovered_any x hxc (out.eraseIdx k) hec a4 c4 w h
    rw [Cv.covered_in hel hxc hec] at hcv
    apply CallI.use1
    focus (exact fun w5 h5 => hcv w5 (hO4.sl.go h5.go h5.go.size))
    intro w5 v5 h5 hB5
    generalize Cv.in_ x (out.eraseIdx k) = I at heq
    obtain ⟨is, e⟩ := I
    simp only at heq
    have hOv := (((hO3.below h4.go).below hB4).below h5.go).below hB5
    refine Branch.mk (fun z4 => ?_) (fun z4 => ?_)
    · have he : e ≠ 0 := of_decide_eq_true z4
      rw [if_pos he] at heq
      rw [heq]
      exact EndI.mk fun w9 h9 => ⟨_, _, rfl, Own.nil⟩
    have he : e = 0 := by have := of_decide_eq_false z4; simpa using this
    subst he
    rw [if_neg (by simp)] at heq
    refine Branch.mk (fun z5 => ?_) (fun z5 => ?_)
    · have hi : is = true := by simpa using z5
      subst hi
      rw [if_pos rfl] at heq
      apply CallI.use
      focus (exact fun w6 h6 => rwithout_any out k ho4 ao co w6 (hOv.below h6.go).sl)
      rintro v w6 v6 h6 hB6 hO6
      obtain ⟨a6, c6, rfl⟩ := hO6.form
      have hle : (out.eraseIdx k).length = out.length - 1 := List.length_eraseIdx_of_lt hlt
      refine Need.mk (by simp only [inK]; omega) (EndI.mk fun w10 h10 => ⟨(((k : Nat) : Int) - 1, w10, .slice a6 (out.eraseIdx k).length c6, out.eraseIdx k), Cov.mk (by repeat' (first | exact trivial | refine And.intro rfl ?_)) rfl rfl rfl rfl rfl, rfl, ⟨by simp only; omega, by simp only; omega, hel, h10.below, (hO6.lower h6.below.size).below h10.go, hec, by rw [heq]; simp⟩, by simp only; omega⟩)
    · have hi : is = false := by simpa using z5
      subst hi
      rw [if_neg (by simp)] at heq
      refine Need.mk (by simp only [inK]; omega) (EndI.mk fun w10 h10 => ⟨(((k : Nat) : Int) - 1, w10, .slice ao out.length co, out), Cov.mk (by repeat' (first | exact trivial | refine And.intro rfl ?_)) rfl rfl rfl rfl rfl, rfl, ⟨by simp only; omega, by simp only; omega, ho4, h10.below, hOv.below h10.go, hoc, by rw [heq]; simp⟩, by simp only; omega⟩)
  · have hlt : i = -1 := by have := of_decide_eq_false z3; omega
    subst hlt
    rw [show ((-1 : Int) + 1).toNat = 0 by omega, Cv.pgo] at heq
    rw [heq]
    exact EndI.mk fun w9 h9 => ⟨_, _, rfl, hSo.below h9.go⟩

theorem rprune12O_any (l : List Zn) (hl : ∀ z, z ∈ l → Zo.i64 z) (a : Option Addr) (ca : Nat) (w : World) (hS : Sl w.heap.size w (.slice a l.length ca) l) :
    Calls Tryz.prog 95 #[.slice a l.length ca] w (Ret w fun v w' => ∃ a' c', v = .tuple #[.slice a' (Cv.prune l).1.length c', .int .i64 (Cv.prune l).2] ∧ Own TZ w.heap.size w' (.slice a' (Cv.prune l).1.length c') (Cv.prune l).1) := by
  refine fun_ret 0 w Tryz.func95 (args := [.val (.slice a l.length ca)]) rfl rfl ?_
  have hone : Cv.checked [l, []] = Cv.checked [l] := by
    unfold Cv.checked
    simp
  apply CallI.use1
  focus (exact fun w1 h1 => rcheck12_any l [] hl (by simp) a none ca 0 w1 (hS.go h1.below h1.below.size) (Sl.nil ..))
  intro w1 v1 h1 hB1
  rw [hone]
  unfold Cv.prune
  refine Branch.mk (fun z3 => ?_) (fun z3 => ?_)
  · have he : Cv.checked [l] ≠ 0 := of_decide_eq_true z3
    rw [if_pos he]
    exact EndI.mk fun w9 h9 => ⟨_, _, rfl, Own.nil⟩
  have he : Cv.checked [l] = 0 := by have := of_decide_eq_false z3; simpa using this
  rw [if_neg (by simp [he])]
  obtain ⟨hlen, hc⟩ := Cv.checked_one.1 he
  have hS1 := (hS.go h1.below h1.below.size).go hB1 hB1.size
  apply CallI.use
  focus (exact fun w2 h2 => rwantedO_any l hc hlen a ca w2 (hS1.go h2.go h2.go.size))
  rintro v w2 v2 h2 hB2 ⟨a2, c2, rfl, hO2⟩
  exact EndI.mk fun w9 h9 => ⟨_, _, rfl, (hO2.lower h2.below.size).below h9.go⟩
end Go.Proofs.YtodpgcdandechaaGreat

/-
  rallentandoref11.Same: whether two lists of zones are the same.
-/
namespace Go.Proofs.YtodpgcdandechaaGreat
set_option linter.unusedVariables false
set_option linter.unusedSimpArgs false
set_option maxRecDepth 100000
open Go.RowKit Go.Proofs.YtodpgcdandechaaGreat.Eng Enc

theorem same11_any (l m : List Zn) (a : Option Addr) (cap : Nat) (b : Option Addr) (cb : Nat) (w : World) (hS : Sl w.heap.size w (.slice a l.length cap) l) (hT : Sl w.heap.size w (.slice b m.length cb) m) :
    Calls Tryz.prog 35 #[.slice a l.length cap, .slice b m.length cb] w fun e w' => e = .returned (.bool (decide (l = m))) ∧ Below w.heap.size w w' := by
  refine fun_eq 0 w Tryz.func35 (args := [.val (.slice a l.length cap), .val (.slice b m.length cb)]) rfl rfl ?_
  obtain ⟨_, _, hfe, hcap1, hcap2, _⟩ := hS.form
  injection hfe with _ _ hfe
  subst hfe
  unfold maxLen at hcap2
  refine Branch.mk (fun hc => ?_) (fun hc => ?_)
  · have hne : l.length ≠ m.length := by have := of_decide_eq_true hc; omega
    refine EndI.mk fun w9 h9 => ?_
    rw [decide_eq_false (fun e => hne (by rw [e]))]
  have hlm : l.length = m.length := by have := of_decide_eq_false hc; omega
  refine LoopI.invC (α := Nat × World) (fun y => [(5, .val (.int .i64 y.1))]) (fun y => y.2) (fun y => y.1 ≤ l.length ∧ Below w.heap.size w y.2 ∧ l.take y.1 = m.take y.1) (fun y => l.length - y.1) ?_ ?_
  · intro w1 h1
    exact ⟨(0, w1), Cov.mk (by repeat' (first | exact trivial | refine And.intro rfl ?_)) rfl rfl rfl rfl rfl, rfl, Nat.zero_le _, h1.below, rfl⟩
  rintro ⟨k, V⟩ ⟨hk, hV, hall⟩
  simp only at hk hV hall
  refine Branch.mk (fun hc2 => ?_) (fun hc2 => ?_)
  · have hlt : k < l.length := by have := of_decide_eq_true hc2; simp only at this; omega
    have hx := List.getElem?_eq_getElem (l := l) (i := k) hlt
    have hy := List.getElem?_eq_getElem (l := m) (i := k) (by omega)
    generalize l[k] = x at hx
    generalize m[k]'(by omega) = y at hy
    refine DrawI.go (.tk 0 (.tk 1 (.tk 2 (.tk 3 (.tk 4 (.tk 5 (.tk 6 (.tk 7 (.ev 8 .done))))))))) (by kernel_rfl) fun w4 h4 => ?_
    have hg4 : Below V.heap.size V w4 := h4.go
    have hw4 := hV.trans (hg4.mono hV.size)
    have hS4 := hS.go hw4 hw4.size
    have hT4 := hT.go hw4 hw4.size
    refine hS4.idx hx fun ad had => ?_
    refine hS4.ld hx had (Below.refl _ _) (by simp) ?_
    refine hT4.idx hy fun ad2 had2 => ?_
    refine hT4.ld hy had2 (Below.refl _ _) (by simp) ?_
    refine GenV.to (x := .bool (decide (x ≠ y))) (fun w => run_neq_znG _ _ x y w) fun w5 h5 => ?_
    refine Branch.mk (fun hc3 => ?_) (fun hc3 => ?_)
    · have hne : x ≠ y := by simpa using hc3
      refine EndI.mk fun w9 h9 => ?_
      rw [decide_eq_false (fun e => hne (by rw [e, hy] at hx; injection hx with hx; exact hx.symm))]
    · have he : x = y := by simpa using hc3
      refine Need.mk (by simp only [inK]; omega) (EndI.mk fun w9 h9 => ⟨(k + 1, w9), Cov.mk (by repeat' (first | exact trivial | refine And.intro rfl ?_)) rfl rfl rfl rfl rfl, rfl, ⟨hlt, h9.below, ?_⟩, by simp only; omega⟩)
      simp only
      rw [List.take_add_one, List.take_add_one, hall, hx, hy, he]
  · have hge : k = l.length := by have := of_decide_eq_false hc2; simp only at this; omega
    subst hge
    rw [List.take_length, hlm, List.take_length] at hall
    refine EndI.mk fun w9 h9 => ?_
    rw [decide_eq_true hall]
end Go.Proofs.YtodpgcdandechaaGreat

/-
  The document's answer of layer 13: sets of zones, by the engine.
-/
namespace Go.Proofs.YtodpgcdandechaaGreat
set_option linter.unusedVariables false
set_option linter.unusedSimpArgs false
set_option maxRecDepth 100000
open Go.RowKit Go.Proofs.YtodpgcdandechaaGreat.Eng Enc

namespace Zs
theorem chk_i64 {z : Zn} (h : Zo.chk z = 0) : Zo.i64 z := Mi.clo_int64 (Zo.clo h).2
end Zs
theorem rof13_any (l : List Zn) (hl : ∀ z, z ∈ l → Zo.i64 z) (a : Option Addr) (ca : Nat) (w : World) (hS : Sl w.heap.size w (.slice a l.length ca) l) :
    Calls Tryz.prog 34 #[.slice a l.length ca] w (Ret w fun v w' => ∃ a' c', v = .tuple #[.slice a' (Cv.prune l).1.length c', .int .i64 (Cv.prune l).2] ∧ Own TZ w.heap.size w' (.slice a' (Cv.prune l).1.length c') (Cv.prune l).1) := by
  refine fun_ret 0 w Tryz.func34 (args := [.val (.slice a l.length ca)]) rfl rfl ?_
  apply CallI.use
  focus (exact fun w2 h2 => rprune12O_any l hl a ca w2 (hS.go h2.below h2.below.size))
  rintro v w2 v2 h2 hB2 ⟨a2, c2, rfl, hO2⟩
  exact EndI.mk fun w9 h9 => ⟨a2, c2, rfl, (hO2.lower h2.below.size).below (at_belowM h9 (by simp))⟩
end Go.Proofs.YtodpgcdandechaaGreat

/-
  The document's answers of layers 3, 4 and 8: what times keep, by the engine.
-/
namespace Go.Proofs.YtodpgcdandechaaGreat
set_option linter.unusedVariables false
set_option linter.unusedSimpArgs false
set_option maxRecDepth 100000
open Go.RowKit Go.Proofs.YtodpgcdandechaaGreat.Eng Enc

namespace Fr
theorem keeps_no {a b : Rt} (ha : a.ok = true) (hb : b.ok = true) {x : Int} (hx : Bd.may x = true) : (keeps a b x).1 = if x = 9223372036854775807 then true else kept a b x := by
  unfold keeps
  rw [ha, hb, hx]
  simp only [Bool.and_self, if_true]
  split <;> rfl
/-- by whole parts first, then by what is left over. -/
theorem kept_doc (a b : Rt) (x : Int) : kept a b x = if a.num / a.den - b.num / b.den ≠ x / 2 then decide (a.num / a.den - b.num / b.den < x / 2) else decide (a.num % a.den * b.den < b.num % b.den * a.den) || (decide (a.num % a.den * b.den = b.num % b.den * a.den) && !(Bd.st x)) := by
  unfold kept sign rest
  generalize a.num / a.den - b.num / b.den = n
  generalize x / 2 = c
  generalize a.num % a.den * b.den = p
  generalize b.num % b.den * a.den = q
  by_cases h : n = c
  · have e : cmpI n c = 0 := by unfold cmpI; split; omega; split; omega; rfl
    rw [if_neg (by rw [e]; decide), if_neg (by omega)]
    unfold cmpI
    by_cases h1 : p < q
    · rw [if_pos h1]; simp [h1]
    · rw [if_neg h1]
      by_cases h2 : q < p
      · rw [if_pos h2]
        have : ¬ p = q := by omega
        simp [h1, this]
      · rw [if_neg h2]
        have : p = q := by omega
        simp [this]
  · have e : cmpI n c ≠ 0 := by unfold cmpI; split; decide; split; decide; omega
    rw [if_pos e, if_pos h]
    unfold cmpI
    by_cases h1 : n < c
    · rw [if_pos h1]; simp [h1]
    · rw [if_neg h1, if_pos (by omega)]; simp [h1]
end Fr
theorem rkept03_any (a b : Rt) (ha : a.ok = true) (hb : b.ok = true) (ia : a.ins) (ib : b.ins) (x : Int) (hx : Bd.may x = true) (ix : inK .i64 x) (w : World) :
    Calls Tryz.prog 217 #[.agg #[.int .i64 a.num, .int .i64 a.den], .agg #[.int .i64 b.num, .int .i64 b.den], .int .i64 x] w fun e w' => e = .returned (.bool (Fr.keeps a b x).1) ∧ Below w.heap.size w w' := by
  rw [Fr.keeps_no ha hb hx]
  refine fun_eq 0 w Tryz.func217 (args := [.agg [.val (.int .i64 a.num), .val (.int .i64 a.den)], .agg [.val (.int .i64 b.num), .val (.int .i64 b.den)], .val (.int .i64 x)]) rfl rfl ?_
  have o1 := Fr.ok_bd ha
  have o2 := Fr.ok_bd hb
  have ix' := ix
  simp only [inK] at ix'
  have m1 := Fr.mul_bd (u := a.num % a.den) (v := b.den) (m := 1048576) (n := 1048576) (by omega) (by omega) (by omega) (by omega)
  have m2 := Fr.mul_bd (u := b.num % b.den) (v := a.den) (m := 1048576) (n := 1048576) (by omega) (by omega) (by omega) (by omega)
  refine NewI.mk fun b1 hb1 => ?_
  refine NewI.mk fun b2 hb2 => ?_
  refine Branch.mk (fun z1 => ?_) (fun z1 => ?_)
  · rw [if_pos (of_decide_eq_true z1)]
    exact EndI.mk fun w9 h9 => rfl
  rw [if_neg (of_decide_eq_false z1), Fr.kept_doc]
  refine CallI.to0 (fun w => rnumber_any x ix'.1 ix'.2 w) fun w2 => ?_
  refine DrawI.go (.tk 0 (.tk 1 (.tk 2 (.tk 3 (.tk 5 (.tk 6 (.tk 7 (.tk 8 (.ev 4 (.ev 9 (.tk 10 (.tk 11 .done)))))))))))) (by kernel_rfl) fun w3 h3 => ?_
  refine CallI.to1 (fun w => rlow03_any a.num a.den o1.1 ia.1 w) fun w4 => ?_
  refine CallI.to1 (fun w => rlow03_any b.num b.den o2.1 ib.1 w) fun w5 => ?_
  refine Need.mk (by simp only [inK]; omega) ?_
  refine Branch.mk (fun z2 => ?_) (fun z2 => ?_)
  · rw [if_pos (of_decide_eq_true z2)]
    exact EndI.mk fun w9 h9 => rfl
  rw [if_neg (of_decide_eq_false z2)]
  refine DrawI.go (.tk 0 (.tk 1 (.tk 2 (.tk 3 (.tk 5 (.tk 6 (.ev 4 (.tk 7 (.tk 8 .done))))))))) (by kernel_rfl) fun w6 h6 => ?_
  refine CallI.to1 (fun w => rpart03_any a.num a.den o1.1 ia.2 w) fun w7 => ?_
  refine Need.mk (by simp only [inK]; omega) ?_
  refine DrawI.go (.tk 0 (.tk 1 (.tk 2 (.tk 3 (.tk 5 (.tk 6 (.ev 4 (.tk 7 (.tk 8 .done))))))))) (by kernel_rfl) fun w8 h8 => ?_
  refine CallI.to1 (fun w => rpart03_any b.num b.den o2.1 ib.2 w) fun w9 => ?_
  refine Need.mk (by simp only [inK]; omega) ?_
  refine Branch.mk (fun z3 => ?_) (fun z3 => ?_)
  · exact EndI.mk fun w9 h9 => by rw [z3]; rfl
  rw [z3]
  refine Branch.mk (fun z4 => ?_) (fun z4 => ?_)
  · refine CallI.to0 (fun w => rstrict_any x w) fun w2 => ?_
    exact EndI.mk fun w9 h9 => by rw [z4]; simp
  · exact EndI.mk fun w9 h9 => by rw [z4]; simp
/-- one place of what times keep. -/
def Dbm.kp (L : List Int) (M : List Rt) (i j : Nat) : Bool := (Fr.keeps (M[i]?.getD ⟨0, 1⟩) (M[j]?.getD ⟨0, 1⟩) (L[i * 3 + j]?.getD 0)).1
theorem rkept04_any (L : List Int) (hL : L.length = 9) (hm : ∀ q, q < 9 → Bd.may (L[q]?.getD 0) = true ∧ inK .i64 (L[q]?.getD 0)) (t u : Rt) (ht : t.ok = true) (hu : u.ok = true) (it : t.ins) (iu : u.ins) (a b : Option Addr) (ca cb : Nat) (w : World) (hS : Sl w.heap.size w (.slice a L.length ca) L) (hT : Sl w.heap.size w (.slice b 2 cb) [t, u]) :
    Calls Tryz.prog 204 #[.agg #[.int .i64 3, .slice a L.length ca], .slice b 2 cb] w fun e w' => e = .returned (.bool (Dbm.keptL 3 L [t, u])) ∧ Below w.heap.size w w' := by
  have hK : Dbm.keptL 3 L [t, u] = true ↔ ∀ i j, i < 3 → j < 3 → Dbm.kp L [⟨0, 1⟩, t, u] i j = true := Dbm.keptK
  have oz : (⟨0, 1⟩ : Rt).ok = true := by decide
  have iz : (⟨0, 1⟩ : Rt).ins := ⟨by simp [inK], by simp [inK]⟩
  have hM : ∀ i, i < 3 → ∃ x, ([⟨0, 1⟩, t, u] : List Rt)[i]? = some x ∧ x.ok = true ∧ x.ins := fun i hi => by
    rcases (by omega : i = 0 ∨ i = 1 ∨ i = 2) with rfl | rfl | rfl
    · exact ⟨_, rfl, oz, iz⟩
    · exact ⟨_, rfl, ht, it⟩
    · exact ⟨_, rfl, hu, iu⟩
  generalize hKL : Dbm.keptL 3 L [t, u] = KL at hK ⊢
  refine fun_eq 0 w Tryz.func204 (args := [.agg [.val (.int .i64 3), .val (.slice a L.length ca)], .val (.slice b 2 cb)]) rfl rfl ?_
  refine NewI.mk fun b1 hb1 => ?_
  refine NewI.mk fun b2 hb2 => ?_
  refine GenN.appN (α := Rt) elR [⟨0, 1⟩] [t, u] w.heap.size rfl (fun w5 h5 => Own.own (l := [(⟨0, 1⟩ : Rt)]) h5 1 rfl rfl rfl hb2 (n := 1) rfl (by simp [maxLen])) (fun w5 h5 => (hT.go h5.below h5.below.size).src) (by simp) (by simp [maxLen]) (by simp) fun v5 w5 w6 h5 hB5 hO => ?_
  obtain ⟨a5, c5, rfl⟩ := hO.form
  have hw6 : Below w.heap.size w w6 := h5.below.trans (hB5.mono h5.below.size)
  have hO : Own TR w5.heap.size w6 (.slice a5 3 c5) [(⟨0, 1⟩ : Rt), t, u] := hO
  refine LoopI.invC (α := Nat × World) (fun y => [(6, .val (.int .i64 y.1))]) (fun y => y.2) (fun y => y.1 ≤ 3 ∧ Below w.heap.size w y.2 ∧ Own TR w5.heap.size y.2 (.slice a5 3 c5) [(⟨0, 1⟩ : Rt), t, u] ∧ ∀ i j, i < y.1 → j < 3 → Dbm.kp L [⟨0, 1⟩, t, u] i j = true) (fun y => 3 - y.1) ?_ ?_
  · intro w7 h7
    exact ⟨(0, w7), Cov.mk (by repeat' (first | exact trivial | refine And.intro rfl ?_)) rfl rfl rfl rfl rfl, rfl, Nat.zero_le _, h7.below, hO.below (at_belowM h7 (by simp)), by simp⟩
  rintro ⟨i, V⟩ ⟨hi, hV, hOV, hq⟩
  simp only at hi hV hOV hq
  refine Branch.mk (fun z1 => ?_) (fun z1 => ?_)
  · have hi3 : i < 3 := by have := of_decide_eq_true z1; simp only at this; omega
    refine LoopI.invC (α := Nat × World) (fun y => [(7, .val (.int .i64 y.1))]) (fun y => y.2) (fun y => y.1 ≤ 3 ∧ Below w.heap.size w y.2 ∧ Own TR w5.heap.size y.2 (.slice a5 3 c5) [(⟨0, 1⟩ : Rt), t, u] ∧ ∀ j, j < y.1 → Dbm.kp L [⟨0, 1⟩, t, u] i j = true) (fun y => 3 - y.1) ?_ ?_
    · intro w7 h7
      exact ⟨(0, w7), Cov.mk (by repeat' (first | exact trivial | refine And.intro rfl ?_)) rfl rfl rfl rfl rfl, rfl, Nat.zero_le _, h7.below, hOV.below (at_belowM h7 (by simp)), by simp⟩
    rintro ⟨j, U⟩ ⟨hj, hU, hOU, hq2⟩
    simp only at hj hU hOU hq2
    refine Branch.mk (fun z2 => ?_) (fun z2 => ?_)
    · have hj3 : j < 3 := by have := of_decide_eq_true z2; simp only at this; omega
      obtain ⟨x, hx, ox, ixx⟩ := hM i hi3
      obtain ⟨y, hy, oy, iy⟩ := hM j hj3
      have hb := List.getElem?_eq_getElem (l := L) (i := i * 3 + j) (by omega)
      obtain ⟨bm, bi⟩ := hm (i * 3 + j) (by omega)
      have hkp : Dbm.kp L [⟨0, 1⟩, t, u] i j = (Fr.keeps x y (L[i * 3 + j]'(by omega))).1 := by unfold Dbm.kp; rw [hx, hy, hb]; rfl
      rw [hb] at bm bi
      simp only [Option.getD_some] at bm bi
      generalize L[i * 3 + j]'(by omega) = q at hb bm bi hkp
      refine DrawI.go (.tk 0 (.tk 1 (.tk 2 (.tk 3 (.tk 4 (.tk 5 (.tk 6 (.tk 7 (.tk 8 (.tk 9 (.tk 10 (.tk 11 (.tk 12 (.tk 13 (.tk 14 (.tk 15 (.tk 16 (.tk 17 (.ev 18 (.tk 19 .done)))))))))))))))))))) (by kernel_rfl) fun w8 h8 => ?_
      have hO8 := hOU.below (at_belowM h8 (by simp))
      have hS8 : Sl w8.heap.size w8 (.slice a5 3 c5) [(⟨0, 1⟩ : Rt), t, u] := hO8.sl
      have hL8 : Sl w8.heap.size w8 (.slice a L.length ca) L := hS.go h8.below h8.below.size
      have eij : (i : Int) * 3 = ((i * 3 : Nat) : Int) := rfl
      refine hS8.idx hx fun ad had => ?_
      refine hS8.ld hx had (Below.refl _ _) (by simp) ?_
      refine hS8.idx hy fun ad2 had2 => ?_
      refine hS8.ld hy had2 (Below.refl _ _) (by simp) ?_
      refine Need.mk (by simp only; rw [eij]; simp only [inK]; omega) ?_
      refine Need.mk (by simp only; rw [eij]; simp only [inK]; omega) ?_
      refine hL8.idx hb fun ad3 had3 => ?_
      refine hL8.ld1 hb had3 (Below.refl _ _) (by simp) ?_
      apply CallI.use1
      focus (exact fun w9 h9 => rkept03_any x y ox oy ixx iy q bm bi w9)
      intro w9 v9 h9 hB9
      rw [← hkp]
      have hO9 := (hO8.below (at_belowM h9 (by simp))).below hB9
      refine Branch.mk (fun z3 => ?_) (fun z3 => ?_)
      · have hf : Dbm.kp L [⟨0, 1⟩, t, u] i j = false := by simpa using z3
        refine EndI.mk fun w10 h10 => ?_
        have : KL = false := by
          cases KL with
          | false => rfl
          | true => rw [hK.1 rfl i j hi3 hj3] at hf; cases hf
        rw [this]
      · have ht' : Dbm.kp L [⟨0, 1⟩, t, u] i j = true := by simpa using z3
        refine Need.mk (by simp only [inK]; omega) (EndI.mk fun w10 h10 => ⟨(j + 1, w10), Cov.mk (by repeat' (first | exact trivial | refine And.intro rfl ?_)) rfl rfl rfl rfl rfl, rfl, ⟨hj3, h10.below, hO9.below (at_belowM h10 (by simp)), fun j' hj' => ?_⟩, by simp only; omega⟩)
        by_cases e : j' = j
        · subst e; exact ht'
        · exact hq2 j' (by simp only at hj'; omega)
    · have hge : j = 3 := by have := of_decide_eq_false z2; simp only at this; omega
      subst hge
      refine Need.mk (by simp only [inK]; omega) (EndI.mk fun w10 h10 => ⟨(i + 1, w10), Cov.mk (by repeat' (first | exact trivial | refine And.intro rfl ?_)) rfl rfl rfl rfl rfl, rfl, ⟨hi3, h10.below, hOU.below (at_belowM h10 (by simp)), fun i' j' hi' hj' => ?_⟩, by simp only; omega⟩)
      by_cases e : i' = i
      · subst e; exact hq2 j' hj'
      · exact hq i' j' (by simp only at hi'; omega) hj'
  · have hge : i = 3 := by have := of_decide_eq_false z1; simp only at this; omega
    subst hge
    refine EndI.mk fun w10 h10 => ?_
    rw [hK.2 hq]
theorem rinside_any (z : Zn) (hz : Zo.chk z = 0) (p : Pt) (hp : p.ins) (ht : p.t.ok = true) (hu : p.u.ok = true) (w : World) :
    Calls Tryz.prog 135 #[.agg #[.int .i64 z.a, .int .i64 z.b, .int .i64 z.c, .int .i64 z.d, .int .i64 z.e, .int .i64 z.f], .agg #[.int .i64 p.t.num, .int .i64 p.t.den, .int .i64 p.u.num, .int .i64 p.u.den]] w fun e w' => e = .returned (.bool (Dbm.keptL 3 (Zo.matL z) [p.t, p.u])) ∧ Below w.heap.size w w' := by
  refine fun_eq 0 w Tryz.func135 (args := [.agg [.val (.int .i64 z.a), .val (.int .i64 z.b), .val (.int .i64 z.c), .val (.int .i64 z.d), .val (.int .i64 z.e), .val (.int .i64 z.f)], .agg [.val (.int .i64 p.t.num), .val (.int .i64 p.t.den), .val (.int .i64 p.u.num), .val (.int .i64 p.u.den)]]) rfl rfl ?_
  refine NewI.mk fun b1 hb1 => ?_
  refine NewI.mk fun b2 hb2 => ?_
  refine DrawI.go (.tk 0 (.tk 2 (.tk 3 (.tk 4 (.tk 5 (.two 1 (.ev 6 (.ev 7 (.tk 8 .done))) 6 (.ev 1 (.ev 7 (.tk 8 .done))))))))) (by kernel_rfl) fun w1 h1 => ?_
  have hc0 : Dbm.chk 3 (Zo.matL z) = 0 := by
    have hk := Zo.chk_eq.1 hz
    rcases Classical.em (Dbm.chk 3 (Zo.matL z) = 0) with h | h
    · exact h
    · exfalso
      unfold Dbm.close at hk
      rw [if_neg h] at hk
      simp at hk
  have hm : ∀ q, q < 9 → Bd.may ((Zo.matL z)[q]?.getD 0) = true ∧ inK .i64 ((Zo.matL z)[q]?.getD 0) := fun q hq => by
    have h := Dbm.chk_lim hc0 q hq
    refine ⟨Dbm.may_limK (Dbm.lim_mono h (by omega)), ?_⟩
    simp only [inK]
    rcases h with h | h
    · rw [h]; unfold Dbm.NO; omega
    · omega
  refine Both.mk ?_ ?_
  · apply CallI.use
    focus (exact fun w2 h2 => rfull_any z w2)
    rintro v w2 v2 h2 hB2 ⟨a2, c2, rfl, hS2⟩
    refine NewI.mk fun b3 hb3 => ?_
    apply CallI.use1
    focus (exact fun w3 h3 => rkept04_any (Zo.matL z) rfl hm p.t p.u ht hu hp.1 hp.2 a2 _ c2 _ w3 (hS2.go (at_belowM h3 (by simp)) h3.size) (Sl.own (l := [p.t, p.u]) h3 2 rfl rfl rfl (Nat.le_refl _) (by simp [maxLen])))
    intro w3 v3 h3 hB3
    exact EndI.mk fun w9 h9 => rfl
  · refine NewI.mk fun b3 hb3 => ?_
    apply CallI.use
    focus (exact fun w2 h2 => rfull_any z w2)
    rintro v w2 v2 h2 hB2 ⟨a2, c2, rfl, hS2⟩
    apply CallI.use1
    focus (exact fun w3 h3 => rkept04_any (Zo.matL z) rfl hm p.t p.u ht hu hp.1 hp.2 a2 _ c2 _ w3 (hS2.go (at_belowM h3 (by simp)) h3.size) (Sl.own (l := [p.t, p.u]) h3 2 rfl rfl rfl (Nat.le_refl _) (by simp [maxLen])))
    intro w3 v3 h3 hB3
    exact EndI.mk fun w9 h9 => rfl
end Go.Proofs.YtodpgcdandechaaGreat

/-
  The document's answer of layer 13: spans, windows, and what is asked, by the engine.
-/
namespace Go.Proofs.YtodpgcdandechaaGreat
set_option linter.unusedVariables false
set_option linter.unusedSimpArgs false
set_option maxRecDepth 100000
open Go.RowKit Go.Proofs.YtodpgcdandechaaGreat.Eng Enc

theorem Cv.checked_nil (l : List Zn) : Cv.checked [l, []] = Cv.checked [l] := by
  unfold Cv.checked
  simp
namespace Zs
theorem within_doc {l : List Zn} {s : Sp} (h0 : Cv.checked [l] = 0) : within l s = if Wn.spMay s = true then come (fun z => Wn.within z s) [] l else ([], 8) := by
  unfold within each
  rw [if_pos h0]
  simp only
  by_cases hs : Wn.spMay s = true
  · have := Wn.free_within hs
    rw [if_pos hs, if_neg (by omega)]
  · have hb : Wn.spMay s = false := by simpa using hs
    have e8 : Wn.within Zs.free s = (Zo.nought, 8) := by
      unfold Wn.within
      rw [if_pos Zs.free_chk, Wn.btw_bad hb, if_neg (by decide)]
    rw [if_neg hs, e8, if_pos ⟨by decide, by decide⟩]
theorem window_doc {l : List Zn} {lo hi : Int} (h0 : Cv.checked [l] = 0) : window l lo hi = if Wn.fits lo = true ∧ Wn.fits hi = true ∧ lo < hi then come (fun z => Wn.window z lo hi) [] l else ([], 2) := by
  unfold window each
  rw [if_pos h0]
  simp only
  by_cases hs : Wn.fits lo = true ∧ Wn.fits hi = true ∧ lo < hi
  · have := Wn.free_window hs
    rw [if_pos hs, if_neg (by omega)]
  · have e2 : Wn.window Zs.free lo hi = (Zo.nought, 2) := by
      unfold Wn.window
      rw [if_pos Zs.free_chk, if_neg hs]
    rw [if_neg hs, e2, if_pos ⟨by decide, by decide⟩]
end Zs
theorem rcheck1_any (l : List Zn) (hl : ∀ z, z ∈ l → Zo.i64 z) (a : Option Addr) (ca : Nat) (w : World) (hS : Sl w.heap.size w (.slice a l.length ca) l) :
    Calls Tryz.prog 89 #[.slice a l.length ca, .slice none 0 0] w fun e w' => e = .returned (.int .i64 (Cv.checked [l])) ∧ Below w.heap.size w w' := by
  rw [← Cv.checked_nil]
  exact rcheck12_any l [] hl (by simp) a none ca 0 w hS (Sl.nil ..)
theorem rwithin13_any (l : List Zn) (hl : ∀ z, z ∈ l → Zo.i64 z) (s : Sp) (a : Option Addr) (ca : Nat) (w : World) (hS : Sl w.heap.size w (.slice a l.length ca) l) :
    Calls Tryz.prog 39 #[.slice a l.length ca, .agg #[.int .i64 s.lo, .bool s.ls, .int .i64 s.hi, .bool s.hs, .bool s.op]] w (Ret w fun v w' => ∃ a' c', v = .tuple #[.slice a' (Zs.within l s).1.length c', .int .i64 (Zs.within l s).2] ∧ Own TZ w.heap.size w' (.slice a' (Zs.within l s).1.length c') (Zs.within l s).1) := by
  refine fun_ret 0 w Tryz.func39 (args := [.val (.slice a l.length ca), .agg [.val (.int .i64 s.lo), .val (.bool s.ls), .val (.int .i64 s.hi), .val (.bool s.hs), .val (.bool s.op)]]) rfl rfl ?_
  have st := Stay.first (w := w)
  refine NewI.mk fun b1 hb1 => ?_
  have hb1' : w.heap.size ≤ b1 := hb1
  apply CallI.use1
  focus (exact fun w2 h2 => rcheck1_any l hl a ca w2 (hS.st (st.at h2 (fun x hx => by simp at hx <;> omega))))
  intro w2 v2 h2 hB2
  have st := st.next h2 (fun x hx => by simp at hx <;> omega) hB2
  refine Branch.mk (fun hc => ?_) (fun hc => ?_)
  · have h0 : Cv.checked [l] ≠ 0 := of_decide_eq_true hc
    have e : Zs.within l s = ([], Cv.checked [l]) := by
      unfold Zs.within Zs.each
      rw [if_neg h0]
    rw [e]
    exact EndI.mk fun w9 h9 => ⟨_, _, rfl, Own.nil⟩
  have h0 : Cv.checked [l] = 0 := by have := of_decide_eq_false hc; simpa using this
  rw [Zs.within_doc h0]
  obtain ⟨hl4, hlc⟩ := Cv.checked_one.1 h0
  apply CallI.use1
  focus (exact fun w3 h3 => rmayspan_any s w3)
  intro w3 v3 h3 hB3
  have st := st.next h3 (fun x hx => by simp at hx <;> omega) hB3
  refine Branch.mk (fun hc2 => ?_) (fun hc2 => ?_)
  · have hb : Wn.spMay s = false := by simpa using hc2
    rw [if_neg (by rw [hb]; simp)]
    exact EndI.mk fun w9 h9 => ⟨_, _, rfl, Own.nil⟩
  have hs : Wn.spMay s = true := by simpa using hc2
  rw [if_pos hs]
  have hcall : ∀ x, Zo.chk x = 0 → ∀ W, Calls Tryz.prog 101 #[.agg #[.int .i64 x.a, .int .i64 x.b, .int .i64 x.c, .int .i64 x.d, .int .i64 x.e, .int .i64 x.f], .agg #[.int .i64 s.lo, .bool s.ls, .int .i64 s.hi, .bool s.hs, .bool s.op]] W fun e W' => e = .returned (.tuple #[.agg #[.int .i64 (Wn.within x s).1.a, .int .i64 (Wn.within x s).1.b, .int .i64 (Wn.within x s).1.c, .int .i64 (Wn.within x s).1.d, .int .i64 (Wn.within x s).1.e, .int .i64 (Wn.within x s).1.f], .int .i64 (Wn.within x s).2]) ∧ Below W.heap.size W W' := fun x hx W => rspanned_any x hx s hs W
  have hfc : ∀ x, Zo.chk x = 0 → (Wn.within x s).2 = 0 → Zo.chk (Wn.within x s).1 = 0 := fun x hx h => ((Wn.within_ok hx).1 h).1
  refine LoopI.invC (α := Nat × World × Value × List Zn) (fun y => [(8, .val (.int .i64 y.1)), (7, .val y.2.2.1)]) (fun y => y.2.1)
    (fun y => y.1 ≤ l.length ∧ Below w.heap.size w y.2.1 ∧ Own TZ w.heap.size y.2.1 y.2.2.1 y.2.2.2 ∧ (∀ g, y.2.2.1.ownBlock = some g → v2.heap.size ≤ g) ∧ v2.heap.size ≤ y.2.1.heap.size ∧ y.2.2.2.length ≤ y.1 ∧ (∀ z, z ∈ y.2.2.2 → Zo.chk z = 0) ∧ Zs.come (fun z => Wn.within z s) [] l = Zs.come (fun z => Wn.within z s) y.2.2.2 (l.drop y.1)) (fun y => l.length - y.1) ?_ ?_
  · intro w4 h4
    exact ⟨(0, w4, .slice none 0 0, []), Cov.mk (by repeat' (first | exact trivial | refine And.intro rfl ?_)) rfl rfl rfl rfl rfl, rfl, Nat.zero_le _, h4.below, Own.nil, (fun g hg => nomatch hg), Nat.le_trans (by have := h3.size; have := hB3.size; omega) h4.size, by simp, by simp, rfl⟩
  rintro ⟨k, U, tv, ou⟩ ⟨hk, hU, hOU, hbt, hvu, hul, hui, hce⟩
  simp only at hk hU hOU hbt hvu hul hui hce
  refine Branch.mk (fun z2 => ?_) (fun z2 => ?_)
  · have hkN : k < l.length := by have := of_decide_eq_true z2; simp only at this; omega
    have hy := List.getElem?_eq_getElem (l := l) (i := k) hkN
    have hdm : l.drop k = l[k]'hkN :: l.drop (k + 1) := List.drop_eq_getElem_cons hkN
    have hxc := hlc _ (List.getElem_mem hkN)
    generalize l[k]'hkN = x at hy hdm hxc
    rw [hdm, Zs.come_cons] at hce
    have hfi := hfc x hxc
    refine DrawI.go (.tk 0 (.tk 1 (.tk 2 (.tk 3 (.tk 4 (.two 5 (.tk 6 (.tk 7 (.tk 8 (.ev 9 (.ev 10 (.tk 11 .done)))))) 9 (.ev 5 (.tk 6 (.tk 7 (.tk 8 (.ev 10 (.tk 11 .done)))))))))))) (by kernel_rfl) fun w3 h3 => ?_
    have hO3 := hOU.below (at_belowM h3 (by simp))
    have hS3 : Sl w3.heap.size w3 (.slice a l.length ca) l := hS.go h3.below h3.below.size
    have hu3 := h3.size
    refine hS3.idx hy fun ad had => ?_
    refine hS3.ld hy had (Below.refl _ _) (by simp) ?_
    have hrow : ∀ g, tv.ownBlock = some g → w.heap.size ≤ g ∧ v2.heap.size ≤ g ∧ g < U.heap.size := fun g hg => ⟨(hOU.lt g hg).1, hbt g hg, (hOU.lt g hg).2⟩
    have huw := hU.size
    refine Both.mk ?_ ?_
    · skip
      apply CallI.use1
      focus (exact fun w4 h4 => hcall x hxc w4)
      intro w4 v4 h4 hB4
      have hOE := (hO3.atNe h4 (fun g hg hm => by have := hrow g hg; simp at hm <;> omega)).below hB4
      have huE : U.heap.size ≤ v4.heap.size := Nat.le_trans hu3 (Nat.le_trans h4.size hB4.size)
      refine NewI.mk fun b12 hb12 => ?_
      have hbg : U.heap.size ≤ b12 := Nat.le_trans huE hb12
      have hb1v : b1 < v2.heap.size := Nat.lt_of_lt_of_le (h2.lt b1 (by simp)) hB2.size
      obtain ⟨at_, ct, rfl⟩ := hOE.form
      generalize hR : Wn.within x s = R at hOE hce hfi ⊢
      obtain ⟨rz, re⟩ := R
      simp only at hce hfi ⊢
      refine Branch.mk (fun hc5 => ?_) (fun hc5 => ?_)
      · have h7 : ¬ re = 0 := of_decide_eq_true hc5
        rw [if_neg h7] at hce
        refine Branch.mk (fun hc6 => ?_) (fun hc6 => ?_)
        · have h6 : ¬ re = 6 := of_decide_eq_true hc6
          rw [if_neg h6] at hce
          rw [hce]
          exact EndI.mk fun w9 h9 => ⟨_, _, rfl, Own.nil⟩
        have h6 : re = 6 := by have := of_decide_eq_false hc6; simpa using this
        rw [if_pos h6] at hce
        refine Branch.no (by rw [h6]; rfl) ?_
        refine Need.mk (by simp only [inK]; omega) (EndI.mk fun w9 h9 => ?_)
        exact ⟨(k + 1, w9, .slice at_ ou.length ct, ou), Cov.mk (by repeat' (first | exact trivial | refine And.intro rfl ?_)) rfl rfl rfl rfl rfl, rfl, ⟨hkN, h9.below, hOE.atNe h9 (fun g hg hm => by have := hrow g hg; simp at hm <;> omega), hbt, Nat.le_trans hvu (Nat.le_trans huE h9.size), by simp only; omega, hui, hce⟩, by simp only; omega⟩
      have h7 : re = 0 := by have := of_decide_eq_false hc5; simpa using this
      rw [if_pos h7] at hce
      have hfc2 := hfi h7
      refine Branch.yes (by rw [h7]; rfl) ?_
      refine NewI.mk fun b13 hb13 => ?_
      have hb13g : U.heap.size ≤ b13 := Nat.le_trans huE hb13
      have hnr : ∀ g, (Value.slice at_ ou.length ct).ownBlock = some g → w.heap.size ≤ g ∧ g ∉ [b1, b12, b13] := fun g hg => by
        have h5 := hrow g hg
        refine ⟨h5.1, fun hm => ?_⟩
        simp only [List.mem_cons, List.not_mem_nil, or_false] at hm
        omega
      refine GenN.appAt (α := Zn) elZ ou [rz] w.heap.size (fun w5 h5 => hOE.atNe h5 (fun g hg hm => (hnr g hg).2 (by simp at hm ⊢ <;> omega))) (fun w5 h5 => src_own h5 2 rfl rfl rfl rfl) (by unfold maxLen; simp; omega) (by simp; omega) (fun w5 h5 => h5.below.size) (fun w5 w6 h5 hg => keep_grown h5 hg hnr) fun v1 w5 w6 h5 hg hO1 hat => ?_
      have hs5 := h5.size
      have hs6 := hg.size
      have hr1 : ∀ g, v1.ownBlock = some g → v2.heap.size ≤ g := fun g hgg => by
        rcases hat with e | e
        · rw [e] at hgg; exact (hrow g hgg).2.1
        · rw [e] at hgg
          injection hgg with hgg
          omega
      refine Need.mk (by simp only [inK]; omega) (EndI.mk fun w7 h7 => ?_)
      refine ⟨(k + 1, w7, v1, ou ++ [rz]), Cov.mk (by repeat' (first | exact trivial | refine And.intro rfl ?_)) rfl rfl rfl rfl rfl, rfl, ⟨hkN, h7.below, hO1.atNe h7 (fun g hgg hm => by simp at hm), hr1, Nat.le_trans hvu (Nat.le_trans huE (Nat.le_trans h5.size (Nat.le_trans hg.size h7.size))), by simp; omega, fun z hz => ?_, hce⟩, by simp only; omega⟩
      rcases List.mem_append.1 hz with h | h
      · exact hui z h
      · rw [List.mem_singleton.1 h]; exact hfc2
    · skip
      refine NewI.mk fun b12 hb12 => ?_
      have hbg : U.heap.size ≤ b12 := Nat.le_trans hu3 hb12
      apply CallI.use1
      focus (exact fun w4 h4 => hcall x hxc w4)
      intro w4 v4 h4 hB4
      have hOE := (hO3.atNe h4 (fun g hg hm => by have := hrow g hg; simp at hm <;> omega)).below hB4
      have huE : U.heap.size ≤ v4.heap.size := Nat.le_trans hu3 (Nat.le_trans h4.size hB4.size)
      have hb1v : b1 < v2.heap.size := Nat.lt_of_lt_of_le (h2.lt b1 (by simp)) hB2.size
      obtain ⟨at_, ct, rfl⟩ := hOE.form
      generalize hR : Wn.within x s = R at hOE hce hfi ⊢
      obtain ⟨rz, re⟩ := R
      simp only at hce hfi ⊢
      refine Branch.mk (fun hc5 => ?_) (fun hc5 => ?_)
      · have h7 : ¬ re = 0 := of_decide_eq_true hc5
        rw [if_neg h7] at hce
        refine Branch.mk (fun hc6 => ?_) (fun hc6 => ?_)
        · have h6 : ¬ re = 6 := of_decide_eq_true hc6
          rw [if_neg h6] at hce
          rw [hce]
          exact EndI.mk fun w9 h9 => ⟨_, _, rfl, Own.nil⟩
        have h6 : re = 6 := by have := of_decide_eq_false hc6; simpa using this
        rw [if_pos h6] at hce
        refine Branch.no (by rw [h6]; rfl) ?_
        refine Need.mk (by simp only [inK]; omega) (EndI.mk fun w9 h9 => ?_)
        exact ⟨(k + 1, w9, .slice at_ ou.length ct, ou), Cov.mk (by repeat' (first | exact trivial | refine And.intro rfl ?_)) rfl rfl rfl rfl rfl, rfl, ⟨hkN, h9.below, hOE.atNe h9 (fun g hg hm => by have := hrow g hg; simp at hm <;> omega), hbt, Nat.le_trans hvu (Nat.le_trans huE h9.size), by simp only; omega, hui, hce⟩, by simp only; omega⟩
      have h7 : re = 0 := by have := of_decide_eq_false hc5; simpa using this
      rw [if_pos h7] at hce
      have hfc2 := hfi h7
      refine Branch.yes (by rw [h7]; rfl) ?_
      refine NewI.mk fun b13 hb13 => ?_
      have hb13g : U.heap.size ≤ b13 := Nat.le_trans huE hb13
      have hnr : ∀ g, (Value.slice at_ ou.length ct).ownBlock = some g → w.heap.size ≤ g ∧ g ∉ [b1, b12, b13] := fun g hg => by
        have h5 := hrow g hg
        refine ⟨h5.1, fun hm => ?_⟩
        simp only [List.mem_cons, List.not_mem_nil, or_false] at hm
        omega
      refine GenN.appAt (α := Zn) elZ ou [rz] w.heap.size (fun w5 h5 => hOE.atNe h5 (fun g hg hm => (hnr g hg).2 (by simp at hm ⊢ <;> omega))) (fun w5 h5 => src_own h5 2 rfl rfl rfl rfl) (by unfold maxLen; simp; omega) (by simp; omega) (fun w5 h5 => h5.below.size) (fun w5 w6 h5 hg => keep_grown h5 hg hnr) fun v1 w5 w6 h5 hg hO1 hat => ?_
      have hs5 := h5.size
      have hs6 := hg.size
      have hr1 : ∀ g, v1.ownBlock = some g → v2.heap.size ≤ g := fun g hgg => by
        rcases hat with e | e
        · rw [e] at hgg; exact (hrow g hgg).2.1
        · rw [e] at hgg
          injection hgg with hgg
          omega
      refine Need.mk (by simp only [inK]; omega) (EndI.mk fun w7 h7 => ?_)
      refine ⟨(k + 1, w7, v1, ou ++ [rz]), Cov.mk (by repeat' (first | exact trivial | refine And.intro rfl ?_)) rfl rfl rfl rfl rfl, rfl, ⟨hkN, h7.below, hO1.atNe h7 (fun g hgg hm => by simp at hm), hr1, Nat.le_trans hvu (Nat.le_trans huE (Nat.le_trans h5.size (Nat.le_trans hg.size h7.size))), by simp; omega, fun z hz => ?_, hce⟩, by simp only; omega⟩
      rcases List.mem_append.1 hz with h | h
      · exact hui z h
      · rw [List.mem_singleton.1 h]; exact hfc2
  · have hge : k = l.length := by have := of_decide_eq_false z2; simp only at this; omega
    subst hge
    rw [List.drop_length] at hce
    change Zs.come (fun z => Wn.within z s) [] l = Cv.prune ou at hce
    rw [hce]
    obtain ⟨at_, ct, rfl⟩ := hOU.form
    apply CallI.use
    focus (exact fun w4 h4 => rof13_any ou (fun z hz => Zs.chk_i64 (hui z hz)) at_ ct w4 (hOU.below (at_belowM h4 (by simp))).sl)
    rintro v w4 v4 h4 hB4 ⟨a4, c4, rfl, hO4⟩
    exact EndI.mk fun w9 h9 => ⟨a4, c4, rfl, (hO4.lower h4.below.size).below (at_belowM h9 (by simp))⟩
theorem rwindow13_any (l : List Zn) (hl : ∀ z, z ∈ l → Zo.i64 z) (lo hi : Int) (a : Option Addr) (ca : Nat) (w : World) (hS : Sl w.heap.size w (.slice a l.length ca) l) :
    Calls Tryz.prog 41 #[.slice a l.length ca, .int .i64 lo, .int .i64 hi] w (Ret w fun v w' => ∃ a' c', v = .tuple #[.slice a' (Zs.window l lo hi).1.length c', .int .i64 (Zs.window l lo hi).2] ∧ Own TZ w.heap.size w' (.slice a' (Zs.window l lo hi).1.length c') (Zs.window l lo hi).1) := by
  refine fun_ret 0 w Tryz.func41 (args := [.val (.slice a l.length ca), .val (.int .i64 lo), .val (.int .i64 hi)]) rfl rfl ?_
  have st := Stay.first (w := w)
  apply CallI.use1
  focus (exact fun w2 h2 => rcheck1_any l hl a ca w2 (hS.st (st.at h2 (fun x hx => by simp at hx <;> omega))))
  intro w2 v2 h2 hB2
  have st := st.next h2 (fun x hx => by simp at hx <;> omega) hB2
  refine Branch.mk (fun hc => ?_) (fun hc => ?_)
  · have h0 : Cv.checked [l] ≠ 0 := of_decide_eq_true hc
    have e : Zs.window l lo hi = ([], Cv.checked [l]) := by
      unfold Zs.window Zs.each
      rw [if_neg h0]
    rw [e]
    exact EndI.mk fun w9 h9 => ⟨_, _, rfl, Own.nil⟩
  have h0 : Cv.checked [l] = 0 := by have := of_decide_eq_false hc; simpa using this
  rw [Zs.window_doc h0]
  obtain ⟨hl4, hlc⟩ := Cv.checked_one.1 h0
  refine Branch.mk (fun hc2 => ?_) (fun hc2 => ?_)
  · have hb : lo < -288230376151711744 := of_decide_eq_true hc2
    rw [if_neg (fun h => by have := (Wn.fits_iff.1 h.1).1; omega)]
    exact EndI.mk fun w9 h9 => ⟨_, _, rfl, Own.nil⟩
  have hb1 : ¬ lo < -288230376151711744 := of_decide_eq_false hc2
  refine Branch.mk (fun hc3 => ?_) (fun hc3 => ?_)
  · have hb : 288230376151711744 < hi := of_decide_eq_true hc3
    rw [if_neg (fun h => by have := (Wn.fits_iff.1 h.2.1).2; omega)]
    exact EndI.mk fun w9 h9 => ⟨_, _, rfl, Own.nil⟩
  have hb2 : ¬ 288230376151711744 < hi := of_decide_eq_false hc3
  refine Branch.mk (fun hc4 => ?_) (fun hc4 => ?_)
  · have hb : hi ≤ lo := of_decide_eq_true hc4
    rw [if_neg (fun h => by have := h.2.2; omega)]
    exact EndI.mk fun w9 h9 => ⟨_, _, rfl, Own.nil⟩
  have hb3 : ¬ hi ≤ lo := of_decide_eq_false hc4
  have hs : Wn.fits lo = true ∧ Wn.fits hi = true ∧ lo < hi := ⟨Wn.fits_iff.2 (by omega), Wn.fits_iff.2 (by omega), by omega⟩
  rw [if_pos hs]
  have hcall : ∀ x, Zo.chk x = 0 → ∀ W, Calls Tryz.prog 104 #[.agg #[.int .i64 x.a, .int .i64 x.b, .int .i64 x.c, .int .i64 x.d, .int .i64 x.e, .int .i64 x.f], .int .i64 lo, .int .i64 hi] W fun e W' => e = .returned (.tuple #[.agg #[.int .i64 (Wn.window x lo hi).1.a, .int .i64 (Wn.window x lo hi).1.b, .int .i64 (Wn.window x lo hi).1.c, .int .i64 (Wn.window x lo hi).1.d, .int .i64 (Wn.window x lo hi).1.e, .int .i64 (Wn.window x lo hi).1.f], .int .i64 (Wn.window x lo hi).2]) ∧ Below W.heap.size W W' := fun x hx W => rwindowed_any x hx lo hi hs W
  have hfc : ∀ x, Zo.chk x = 0 → (Wn.window x lo hi).2 = 0 → Zo.chk (Wn.window x lo hi).1 = 0 := fun x hx h => ((Wn.window_ok hx).1 h).2.1
  refine LoopI.invC (α := Nat × World × Value × List Zn) (fun y => [(10, .val (.int .i64 y.1)), (9, .val y.2.2.1)]) (fun y => y.2.1)
    (fun y => y.1 ≤ l.length ∧ Below w.heap.size w y.2.1 ∧ Own TZ w.heap.size y.2.1 y.2.2.1 y.2.2.2 ∧ (∀ g, y.2.2.1.ownBlock = some g → v2.heap.size ≤ g) ∧ v2.heap.size ≤ y.2.1.heap.size ∧ y.2.2.2.length ≤ y.1 ∧ (∀ z, z ∈ y.2.2.2 → Zo.chk z = 0) ∧ Zs.come (fun z => Wn.window z lo hi) [] l = Zs.come (fun z => Wn.window z lo hi) y.2.2.2 (l.drop y.1)) (fun y => l.length - y.1) ?_ ?_
  · intro w4 h4
    exact ⟨(0, w4, .slice none 0 0, []), Cov.mk (by repeat' (first | exact trivial | refine And.intro rfl ?_)) rfl rfl rfl rfl rfl, rfl, Nat.zero_le _, h4.below, Own.nil, (fun g hg => nomatch hg), h4.size, by simp, by simp, rfl⟩
  rintro ⟨k, U, tv, ou⟩ ⟨hk, hU, hOU, hbt, hvu, hul, hui, hce⟩
  simp only at hk hU hOU hbt hvu hul hui hce
  refine Branch.mk (fun z2 => ?_) (fun z2 => ?_)
  · have hkN : k < l.length := by have := of_decide_eq_true z2; simp only at this; omega
    have hy := List.getElem?_eq_getElem (l := l) (i := k) hkN
    have hdm : l.drop k = l[k]'hkN :: l.drop (k + 1) := List.drop_eq_getElem_cons hkN
    have hxc := hlc _ (List.getElem_mem hkN)
    generalize l[k]'hkN = x at hy hdm hxc
    rw [hdm, Zs.come_cons] at hce
    have hfi := hfc x hxc
    have hO3 := hOU
    have hS3 : Sl U.heap.size U (.slice a l.length ca) l := hS.go hU hU.size
    have hu3 : U.heap.size ≤ U.heap.size := Nat.le_refl _
    refine hS3.idx hy fun ad had => ?_
    refine hS3.ld hy had (Below.refl _ _) (by simp) ?_
    have hrow : ∀ g, tv.ownBlock = some g → w.heap.size ≤ g ∧ v2.heap.size ≤ g ∧ g < U.heap.size := fun g hg => ⟨(hOU.lt g hg).1, hbt g hg, (hOU.lt g hg).2⟩
    have huw := hU.size
    apply CallI.use1
    focus (exact fun w4 h4 => hcall x hxc w4)
    intro w4 v4 h4 hB4
    have hOE := (hO3.atNe h4 (fun g hg hm => by have := hrow g hg; simp at hm <;> omega)).below hB4
    have huE : U.heap.size ≤ v4.heap.size := Nat.le_trans hu3 (Nat.le_trans h4.size hB4.size)
    refine NewI.mk fun b12 hb12 => ?_
    have hbg : U.heap.size ≤ b12 := Nat.le_trans huE hb12
    obtain ⟨at_, ct, rfl⟩ := hOE.form
    generalize hR : Wn.window x lo hi = R at hOE hce hfi ⊢
    obtain ⟨rz, re⟩ := R
    simp only at hce hfi ⊢
    refine Branch.mk (fun hc5 => ?_) (fun hc5 => ?_)
    · have h7 : ¬ re = 0 := of_decide_eq_true hc5
      rw [if_neg h7] at hce
      refine Branch.mk (fun hc6 => ?_) (fun hc6 => ?_)
      · have h6 : ¬ re = 6 := of_decide_eq_true hc6
        rw [if_neg h6] at hce
        rw [hce]
        exact EndI.mk fun w9 h9 => ⟨_, _, rfl, Own.nil⟩
      have h6 : re = 6 := by have := of_decide_eq_false hc6; simpa using this
      rw [if_pos h6] at hce
      refine Branch.no (by rw [h6]; rfl) ?_
      refine Need.mk (by simp only [inK]; omega) (EndI.mk fun w9 h9 => ?_)
      exact ⟨(k + 1, w9, .slice at_ ou.length ct, ou), Cov.mk (by repeat' (first | exact trivial | refine And.intro rfl ?_)) rfl rfl rfl rfl rfl, rfl, ⟨hkN, h9.below, hOE.atNe h9 (fun g hg hm => by have := hrow g hg; simp at hm <;> omega), hbt, Nat.le_trans hvu (Nat.le_trans huE h9.size), by simp only; omega, hui, hce⟩, by simp only; omega⟩
    have h7 : re = 0 := by have := of_decide_eq_false hc5; simpa using this
    rw [if_pos h7] at hce
    have hfc2 := hfi h7
    refine Branch.yes (by rw [h7]; rfl) ?_
    refine NewI.mk fun b13 hb13 => ?_
    have hb13g : U.heap.size ≤ b13 := Nat.le_trans huE hb13
    have hnr : ∀ g, (Value.slice at_ ou.length ct).ownBlock = some g → w.heap.size ≤ g ∧ g ∉ [b12, b13] := fun g hg => by
      have h5 := hrow g hg
      refine ⟨h5.1, fun hm => ?_⟩
      simp only [List.mem_cons, List.not_mem_nil, or_false] at hm
      omega
    refine GenN.appAt (α := Zn) elZ ou [rz] w.heap.size (fun w5 h5 => hOE.atNe h5 (fun g hg hm => (hnr g hg).2 (by simp at hm ⊢ <;> omega))) (fun w5 h5 => src_own h5 1 rfl rfl rfl rfl) (by unfold maxLen; simp; omega) (by simp; omega) (fun w5 h5 => h5.below.size) (fun w5 w6 h5 hg => keep_grown h5 hg hnr) fun v1 w5 w6 h5 hg hO1 hat => ?_
    have hs5 := h5.size
    have hs6 := hg.size
    have hr1 : ∀ g, v1.ownBlock = some g → v2.heap.size ≤ g := fun g hgg => by
      rcases hat with e | e
      · rw [e] at hgg; exact (hrow g hgg).2.1
      · rw [e] at hgg
        injection hgg with hgg
        omega
    refine Need.mk (by simp only [inK]; omega) (EndI.mk fun w7 h7 => ?_)
    refine ⟨(k + 1, w7, v1, ou ++ [rz]), Cov.mk (by repeat' (first | exact trivial | refine And.intro rfl ?_)) rfl rfl rfl rfl rfl, rfl, ⟨hkN, h7.below, hO1.atNe h7 (fun g hgg hm => by simp at hm), hr1, Nat.le_trans hvu (Nat.le_trans huE (Nat.le_trans h5.size (Nat.le_trans hg.size h7.size))), by simp; omega, fun z hz => ?_, hce⟩, by simp only; omega⟩
    rcases List.mem_append.1 hz with h | h
    · exact hui z h
    · rw [List.mem_singleton.1 h]; exact hfc2
  · have hge : k = l.length := by have := of_decide_eq_false z2; simp only at this; omega
    subst hge
    rw [List.drop_length] at hce
    change Zs.come (fun z => Wn.window z lo hi) [] l = Cv.prune ou at hce
    rw [hce]
    obtain ⟨at_, ct, rfl⟩ := hOU.form
    apply CallI.use
    focus (exact fun w4 h4 => rof13_any ou (fun z hz => Zs.chk_i64 (hui z hz)) at_ ct w4 (hOU.below (at_belowM h4 (by simp))).sl)
    rintro v w4 v4 h4 hB4 ⟨a4, c4, rfl, hO4⟩
    exact EndI.mk fun w9 h9 => ⟨a4, c4, rfl, (hO4.lower h4.below.size).below (at_belowM h9 (by simp))⟩
theorem rin13_any (l m : List Zn) (hl : ∀ z, z ∈ l → Zo.i64 z) (hm : ∀ z, z ∈ m → Zo.i64 z) (a b : Option Addr) (ca cb : Nat) (w : World) (hS : Sl w.heap.size w (.slice a l.length ca) l) (hT : Sl w.heap.size w (.slice b m.length cb) m) :
    Calls Tryz.prog 43 #[.slice a l.length ca, .slice b m.length cb] w fun e w' => e = .returned (.tuple #[.bool (Cv.all_ l m).1, .int .i64 (Cv.all_ l m).2]) ∧ Below w.heap.size w w' := by
  refine fun_eq 0 w Tryz.func43 (args := [.val (.slice a l.length ca), .val (.slice b m.length cb)]) rfl rfl ?_
  have st := Stay.first (w := w)
  apply CallI.use1
  focus (exact fun w2 h2 => rall12_any l m hl hm a b ca cb w2 (hS.st (st.at h2 (fun x hx => by simp at hx <;> omega))) (hT.st (st.at h2 (fun x hx => by simp at hx <;> omega))))
  intro w2 v2 h2 hB2
  have st := st.next h2 (fun x hx => by simp at hx <;> omega) hB2
  exact EndI.mk fun w9 h9 => rfl
theorem rsame13_any (l m : List Zn) (hl : ∀ z, z ∈ l → Zo.i64 z) (hm : ∀ z, z ∈ m → Zo.i64 z) (a b : Option Addr) (ca cb : Nat) (w : World) (hS : Sl w.heap.size w (.slice a l.length ca) l) (hT : Sl w.heap.size w (.slice b m.length cb) m) :
    Calls Tryz.prog 45 #[.slice a l.length ca, .slice b m.length cb] w fun e w' => e = .returned (.tuple #[.bool (Zs.same l m).1, .int .i64 (Zs.same l m).2]) ∧ Below w.heap.size w w' := by
  refine fun_eq 0 w Tryz.func45 (args := [.val (.slice a l.length ca), .val (.slice b m.length cb)]) rfl rfl ?_
  have st := Stay.first (w := w)
  apply CallI.use1
  focus (exact fun w2 h2 => rin13_any l m hl hm a b ca cb w2 (hS.st (st.at h2 (fun x hx => by simp at hx <;> omega))) (hT.st (st.at h2 (fun x hx => by simp at hx <;> omega))))
  intro w2 v2 h2 hB2
  have st := st.next h2 (fun x hx => by simp at hx <;> omega) hB2
  unfold Zs.same
  refine Branch.mk (fun hc => ?_) (fun hc => ?_)
  · have h0 : (Cv.all_ l m).2 ≠ 0 := of_decide_eq_true hc
    rw [if_neg (fun h => h0 h.1)]
    exact EndI.mk fun w9 h9 => rfl
  have h0 : (Cv.all_ l m).2 = 0 := by have := of_decide_eq_false hc; simpa using this
  refine Branch.mk (fun hc2 => ?_) (fun hc2 => ?_)
  · have h1 : (Cv.all_ l m).1 = false := by simpa using hc2
    rw [if_neg (fun h => by rw [h1] at h; cases h.2)]
    exact EndI.mk fun w9 h9 => rfl
  have h1 : (Cv.all_ l m).1 = true := by simpa using hc2
  rw [if_pos ⟨h0, h1⟩]
  apply CallI.use1
  focus (exact fun w3 h3 => rin13_any m l hm hl b a cb ca w3 (hT.st (st.at h3 (fun x hx => by simp at hx <;> omega))) (hS.st (st.at h3 (fun x hx => by simp at hx <;> omega))))
  intro w3 v3 h3 hB3
  have st := st.next h3 (fun x hx => by simp at hx <;> omega) hB3
  exact EndI.mk fun w9 h9 => rfl
theorem rholds_any (l : List Zn) (hl : ∀ z, z ∈ l → Zo.chk z = 0) (hlen : l.length ≤ 4096) (p : Pt) (hp : p.ins) (ht : p.t.ok = true) (hu : p.u.ok = true) (a : Option Addr) (ca : Nat) (w : World) (hS : Sl w.heap.size w (.slice a l.length ca) l) :
    Calls Tryz.prog 107 #[.slice a l.length ca, .agg #[.int .i64 p.t.num, .int .i64 p.t.den, .int .i64 p.u.num, .int .i64 p.u.den]] w fun e w' => e = .returned (.bool (l.any fun z => Dbm.keptL 3 (Zo.matL z) [p.t, p.u])) ∧ Below w.heap.size w w' := by
  refine fun_eq 0 w Tryz.func107 (args := [.val (.slice a l.length ca), .agg [.val (.int .i64 p.t.num), .val (.int .i64 p.t.den), .val (.int .i64 p.u.num), .val (.int .i64 p.u.den)]]) rfl rfl ?_
  refine NewI.mk fun b1 hb1 => ?_
  refine LoopI.invC (α := Nat × World) (fun y => [(5, .val (.int .i64 y.1))]) (fun y => y.2) (fun y => y.1 ≤ l.length ∧ Below w.heap.size w y.2 ∧ (l.take y.1).any (fun z => Dbm.keptL 3 (Zo.matL z) [p.t, p.u]) = false) (fun y => l.length - y.1) ?_ ?_
  · intro w4 h4
    exact ⟨(0, w4), Cov.mk (by repeat' (first | exact trivial | refine And.intro rfl ?_)) rfl rfl rfl rfl rfl, rfl, Nat.zero_le _, h4.below, by simp⟩
  rintro ⟨k, U⟩ ⟨hk, hU, hq⟩
  simp only at hk hU hq
  refine Branch.mk (fun z2 => ?_) (fun z2 => ?_)
  · have hkN : k < l.length := by have := of_decide_eq_true z2; simp only at this; omega
    have hy := List.getElem?_eq_getElem (l := l) (i := k) hkN
    have hxc := hl _ (List.getElem_mem hkN)
    generalize l[k]'hkN = x at hy hxc
    refine DrawI.go (.tk 0 (.tk 1 (.tk 2 (.tk 3 (.tk 4 (.ev 5 .done)))))) (by kernel_rfl) fun w3 h3 => ?_
    have hS3 : Sl w3.heap.size w3 (.slice a l.length ca) l := hS.go h3.below h3.below.size
    refine hS3.idx hy fun ad had => ?_
    refine hS3.ld hy had (Below.refl _ _) (by simp) ?_
    apply CallI.use1
    focus (exact fun w4 h4 => rinside_any x hxc p hp ht hu w4)
    intro w4 v4 h4 hB4
    refine Branch.mk (fun z3 => ?_) (fun z3 => ?_)
    · refine EndI.mk fun w9 h9 => ?_
      have : (l.any fun z => Dbm.keptL 3 (Zo.matL z) [p.t, p.u]) = true := List.any_eq_true.2 ⟨x, List.mem_of_getElem? hy, z3⟩
      rw [this]
    · refine Need.mk (by simp only [inK]; omega) (EndI.mk fun w9 h9 => ⟨(k + 1, w9), Cov.mk (by repeat' (first | exact trivial | refine And.intro rfl ?_)) rfl rfl rfl rfl rfl, rfl, ⟨hkN, h9.below, ?_⟩, by simp only; omega⟩)
      simp only
      rw [List.take_add_one, hy, List.any_append, hq]
      simp [z3]
  · have hge : k = l.length := by have := of_decide_eq_false z2; simp only at this; omega
    subst hge
    rw [List.take_length] at hq
    refine EndI.mk fun w9 h9 => ?_
    rw [hq]
theorem Zs.has_doc {l : List Zn} (h0 : Cv.checked [l] = 0) (p : Pt) : Zs.has l p = if p.t.ok = true ∧ p.u.ok = true then (l.any (fun z => Dbm.keptL 3 (Zo.matL z) [p.t, p.u]), 0) else (false, 8) := by
  obtain ⟨_, hc⟩ := Cv.checked_one.1 h0
  have kept : ∀ z, Zo.chk z = 0 → p.t.ok = true ∧ p.u.ok = true → Zo.has z p = (Dbm.keptL 3 (Zo.matL z) [p.t, p.u], 0) := fun z hz hp => by
    have hc0 := (Zo.clo hz).1
    unfold Zo.has
    rw [if_pos ⟨hz, hp⟩]
    unfold Dbm.keeps
    rw [if_pos ⟨hc0, by simp [hp.1, hp.2]⟩, if_pos (by simp)]
    rfl
  unfold Zs.has
  rw [if_pos h0]
  by_cases hp : p.t.ok = true ∧ p.u.ok = true
  · rw [kept _ Zs.free_chk hp, if_pos rfl, if_pos hp]
    congr 1
    rw [Bool.eq_iff_iff, List.any_eq_true, List.any_eq_true]
    constructor
    · rintro ⟨z, hz, h⟩
      rw [kept z (hc z hz) hp] at h
      exact ⟨z, hz, by simpa using h⟩
    · rintro ⟨z, hz, h⟩
      exact ⟨z, hz, by rw [kept z (hc z hz) hp]; simpa using h⟩
  · have : Zo.has Zs.free p = (false, 8) := by
      unfold Zo.has
      rw [if_neg (fun h => hp h.2)]
    rw [this, if_neg (by decide), if_neg hp]
theorem rhas13_any (l : List Zn) (hl : ∀ z, z ∈ l → Zo.i64 z) (p : Pt) (hp : p.ins) (a : Option Addr) (ca : Nat) (w : World) (hS : Sl w.heap.size w (.slice a l.length ca) l) :
    Calls Tryz.prog 46 #[.slice a l.length ca, .agg #[.int .i64 p.t.num, .int .i64 p.t.den, .int .i64 p.u.num, .int .i64 p.u.den]] w fun e w' => e = .returned (.tuple #[.bool (Zs.has l p).1, .int .i64 (Zs.has l p).2]) ∧ Below w.heap.size w w' := by
  refine fun_eq 0 w Tryz.func46 (args := [.val (.slice a l.length ca), .agg [.val (.int .i64 p.t.num), .val (.int .i64 p.t.den), .val (.int .i64 p.u.num), .val (.int .i64 p.u.den)]]) rfl rfl ?_
  have st := Stay.first (w := w)
  refine NewI.mk fun b1 hb1 => ?_
  apply CallI.use1
  focus (exact fun w2 h2 => rcheck1_any l hl a ca w2 (hS.st (st.at h2 (fun x hx => by simp at hx <;> omega))))
  intro w2 v2 h2 hB2
  have st := st.next h2 (fun x hx => by simp at hx <;> omega) hB2
  refine Branch.mk (fun hc => ?_) (fun hc => ?_)
  · have h0 : Cv.checked [l] ≠ 0 := of_decide_eq_true hc
    unfold Zs.has
    rw [if_neg h0]
    exact EndI.mk fun w9 h9 => rfl
  have h0 : Cv.checked [l] = 0 := by have := of_decide_eq_false hc; simpa using this
  obtain ⟨hl4, hlc⟩ := Cv.checked_one.1 h0
  rw [Zs.has_doc h0]
  apply CallI.use1
  focus (exact fun w3 h3 => rmaypoint_any p hp w3)
  intro w3 v3 h3 hB3
  have st := st.next h3 (fun x hx => by simp at hx <;> omega) hB3
  refine Branch.mk (fun hc2 => ?_) (fun hc2 => ?_)
  · have : (p.t.ok && p.u.ok) = false := by revert hc2; cases p.t.ok <;> cases p.u.ok <;> simp
    rw [if_neg (fun h => by rw [h.1, h.2] at this; cases this)]
    exact EndI.mk fun w9 h9 => rfl
  have hok : p.t.ok = true ∧ p.u.ok = true := by simpa using hc2
  rw [if_pos hok]
  apply CallI.use1
  focus (exact fun w4 h4 => rholds_any l hlc hl4 p hp hok.1 hok.2 a ca w4 (hS.st (st.at h4 (fun x hx => by simp at hx <;> omega))))
  intro w4 v4 h4 hB4
  have st := st.next h4 (fun x hx => by simp at hx <;> omega) hB4
  exact EndI.mk fun w9 h9 => rfl
end Go.Proofs.YtodpgcdandechaaGreat

