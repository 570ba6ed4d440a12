/-
  rallentando/rallentandolaw13.ZsetWindows: the law.
-/
import Derived.Test.YtgjeeghhhfpkoaaGreatB7
import Derived.Test.YtgjeeghhhfpkoaaGreatB9
import Derived.Test.YtgjeeghhhfpkoaaGreatB8
/-
  The walk of rallentandolaw13.ZsetWindows, by the engine.
-/
namespace Go.Proofs.YtgjeeghhhfpkoaaGreat
set_option linter.unusedVariables false
set_option linter.unusedSimpArgs false
set_option maxRecDepth 100000
open Go.RowKit Go.Proofs.YtgjeeghhhfpkoaaGreat.Eng Enc

namespace Zs
open Mi
structure WindowsLaw (l : List Zn) (s : Sp) (lo mid hi : Int) : Prop where
  one : (window l lo mid).2 = 0 → (window l mid hi).2 = 0 → (window l lo hi).2 = 0 → (or (window l lo mid).1 (window l mid hi).1).2 = 0 → (same (or (window l lo mid).1 (window l mid hi).1).1 (window l lo hi).1).2 = 0 → (same (or (window l lo mid).1 (window l mid hi).1).1 (window l lo hi).1).1 = true
  two : (window l lo mid).2 = 0 → (within (window l lo mid).1 s).2 = 0 → (within l s).2 = 0 → (window (within l s).1 lo mid).2 = 0 → (same (within (window l lo mid).1 s).1 (window (within l s).1 lo mid).1).2 = 0 → (same (within (window l lo mid).1 s).1 (window (within l s).1 lo mid).1).1 = true
  three : (window l lo mid).2 = 0 → (within (window l lo mid).1 s).2 = 0 → (Cv.all_ (within (window l lo mid).1 s).1 l).2 = 0 → (Cv.all_ (within (window l lo mid).1 s).1 l).1 = true
theorem windowsLaw (l : List Zn) (s : Sp) (lo mid hi : Int) : WindowsLaw l s lo mid hi where
  one := fun h1 h2 h3 h4 h => same_pts h fun t => by
    obtain ⟨k1, _, p1⟩ := window_pts h1
    obtain ⟨k2, _, p2⟩ := window_pts h2
    obtain ⟨k3, _, p3⟩ := window_pts h3
    rw [(or_ok h4).2.2 t, p1 t, p2 t, p3 t]
    have q1 : (lo : Rat) < (mid : Rat) := Rat.intCast_lt_intCast.2 k1
    have q2 : (mid : Rat) < (hi : Rat) := Rat.intCast_lt_intCast.2 k2
    unfold Wn.InW
    constructor
    · rintro (⟨hp, h5, h6⟩ | ⟨hp, h5, h6⟩)
      · exact ⟨hp, h5, by grind⟩
      · exact ⟨hp, by grind, h6⟩
    · rintro ⟨hp, h5, h6⟩
      rcases Classical.em (t 2 - t 0 ≤ (mid : Rat)) with h7 | h7
      · exact .inl ⟨hp, h5, h7⟩
      · exact .inr ⟨hp, by grind, h6⟩
  two := fun h1 h2 h3 h4 h => same_pts h fun t => by
    rw [(within_pts h2).2 t, (window_pts h1).2.2 t, (window_pts h4).2.2 t, (within_pts h3).2 t]
    constructor
    · rintro ⟨⟨a, b⟩, c⟩; exact ⟨⟨a, c⟩, b⟩
    · rintro ⟨⟨a, c⟩, b⟩; exact ⟨⟨a, b⟩, c⟩
  three := fun h1 h2 h => all_pts h fun t ht => (((window_pts h1).2.2 t).1 (((within_pts h2).2 t).1 ht).1).1
end Zs
set_option maxHeartbeats 8000000 in
theorem zsetWindows_walk (l : List Zn) (s : Sp) (hs : s.ins) (lo mid hi : Int) (h1i : inK .i64 lo) (h2i : inK .i64 mid) (h3i : inK .i64 hi) (a : Option Addr) (ca : Nat) (w : World) (hS : Sl w.heap.size w (.slice a l.length ca) l) :
    Calls Tryz.prog 9 #[.slice a l.length ca, .agg #[.int .i64 s.lo, .bool s.ls, .int .i64 s.hi, .bool s.hs, .bool s.op], .int .i64 lo, .int .i64 mid, .int .i64 hi] w fun e w' => e = .returned (.bool true) ∧ Below w.heap.size w w' := by
  refine fun_eq 0 w Tryz.func9 (args := [.val (.slice a l.length ca), .agg [.val (.int .i64 s.lo), .val (.bool s.ls), .val (.int .i64 s.hi), .val (.bool s.hs), .val (.bool s.op)], .val (.int .i64 lo), .val (.int .i64 mid), .val (.int .i64 hi)]) rfl rfl ?_
  have st := Stay.first (w := w)
  refine NewI.mk fun b1 hb1 => ?_
  have law := Zs.windowsLaw l s lo mid hi
  apply CallI.use1
  focus (exact fun w1 h1 => alive13_any w1)
  intro w1 v1 h1 hB1
  have st := st.next h1 (fun x hx => by simp at hx <;> omega) hB1
  refine Branch.mk (fun hc => ?_) (fun hc => ?_)
  · exact EndI.mk fun w9 h9 => rfl
  refine Branch.no rfl ?_
  apply CallI.use
  focus (exact fun w4 h4 => zswindow_any l lo mid h1i h2i a ca w4 (hS.st (st.at h4 (fun x hx => by simp at hx <;> omega))))
  rintro v w4 v4 h4 hB4 ⟨a4, c4, rfl, hO4⟩
  have st := st.next h4 (fun x hx => by simp at hx <;> omega) hB4
  apply CallI.use
  focus (exact fun w5 h5 => zswindow_any l mid hi h2i h3i a ca w5 (hS.st (st.at h5 (fun x hx => by simp at hx <;> omega))))
  rintro v w5 v5 h5 hB5 ⟨a5, c5, rfl, hO5⟩
  have st := st.next h5 (fun x hx => by simp at hx <;> omega) hB5
  apply CallI.use
  focus (exact fun w6 h6 => zswindow_any l lo hi h1i h3i a ca w6 (hS.st (st.at h6 (fun x hx => by simp at hx <;> omega))))
  rintro v w6 v6 h6 hB6 ⟨a6, c6, rfl, hO6⟩
  have st := st.next h6 (fun x hx => by simp at hx <;> omega) hB6
  refine Branch.mk (fun y1 => ?_) (fun y1 => ?_)
  · refine Branch.mk (fun y2 => ?_) (fun y2 => ?_)
    · refine Branch.mk (fun y3 => ?_) (fun y3 => ?_)
      · skip
        apply CallI.use
        focus (exact fun w9 h9 => zsor_any (Zs.window l lo mid).1 (Zs.window l mid hi).1 a4 a5 c4 c5 w9 ((hO4.st (st.at h9 (fun x hx => by simp at hx <;> omega))).sl) ((hO5.st (st.at h9 (fun x hx => by simp at hx <;> omega))).sl))
        rintro v w9 v9 h9 hB9 ⟨a9, c9, rfl, hO9⟩
        have st := st.next h9 (fun x hx => by simp at hx <;> omega) hB9
        apply CallI.use1
        focus (exact fun w10 h10 => zssame_any (Zs.or (Zs.window l lo mid).1 (Zs.window l mid hi).1).1 (Zs.window l lo hi).1 a9 a6 c9 c6 w10 ((hO9.st (st.at h10 (fun x hx => by simp at hx <;> omega))).sl) ((hO6.st (st.at h10 (fun x hx => by simp at hx <;> omega))).sl))
        intro w10 v10 h10 hB10
        have st := st.next h10 (fun x hx => by simp at hx <;> omega) hB10
        refine Branch.mk (fun y4 => ?_) (fun y4 => ?_)
        · refine Branch.mk (fun y5 => ?_) (fun y5 => ?_)
          · refine Branch.no (by rw [law.one (of_decide_eq_true y1) (of_decide_eq_true y2) (of_decide_eq_true y3) (of_decide_eq_true y4) (of_decide_eq_true y5)]; rfl) ?_
            apply CallI.use
            focus (exact fun w14 h14 => zswithin_any (Zs.window l lo mid).1 s hs a4 c4 w14 ((hO4.st (st.at h14 (fun x hx => by simp at hx <;> omega))).sl))
            rintro v w14 v14 h14 hB14 ⟨a14, c14, rfl, hO14⟩
            have st := st.next h14 (fun x hx => by simp at hx <;> omega) hB14
            apply CallI.use
            focus (exact fun w15 h15 => zswithin_any l s hs a ca w15 (hS.st (st.at h15 (fun x hx => by simp at hx <;> omega))))
            rintro v w15 v15 h15 hB15 ⟨a15, c15, rfl, hO15⟩
            have st := st.next h15 (fun x hx => by simp at hx <;> omega) hB15
            apply CallI.use
            focus (exact fun w16 h16 => zswindow_any (Zs.within l s).1 lo mid h1i h2i a15 c15 w16 ((hO15.st (st.at h16 (fun x hx => by simp at hx <;> omega))).sl))
            rintro v w16 v16 h16 hB16 ⟨a16, c16, rfl, hO16⟩
            have st := st.next h16 (fun x hx => by simp at hx <;> omega) hB16
            refine Branch.mk (fun z1 => ?_) (fun z1 => ?_)
            · exact EndI.mk fun w9 h9 => rfl
            have e1 : (Zs.window l lo mid).2 = 0 := by simpa using z1
            refine Branch.mk (fun z2 => ?_) (fun z2 => ?_)
            · exact EndI.mk fun w9 h9 => rfl
            have e2 : (Zs.within (Zs.window l lo mid).1 s).2 = 0 := by simpa using z2
            refine Branch.mk (fun z3 => ?_) (fun z3 => ?_)
            · exact EndI.mk fun w9 h9 => rfl
            have e3 : (Zs.within l s).2 = 0 := by simpa using z3
            refine Branch.mk (fun z4 => ?_) (fun z4 => ?_)
            · exact EndI.mk fun w9 h9 => rfl
            have e4 : (Zs.window (Zs.within l s).1 lo mid).2 = 0 := by simpa using z4
            have l1 := law.two e1 e2 e3 e4
            have l2 := law.three e1 e2
            apply CallI.use1
            focus (exact fun w17 h17 => zssame_any (Zs.within (Zs.window l lo mid).1 s).1 (Zs.window (Zs.within l s).1 lo mid).1 a14 a16 c14 c16 w17 ((hO14.st (st.at h17 (fun x hx => by simp at hx <;> omega))).sl) ((hO16.st (st.at h17 (fun x hx => by simp at hx <;> omega))).sl))
            intro w17 v17 h17 hB17
            have st := st.next h17 (fun x hx => by simp at hx <;> omega) hB17
            apply CallI.use1
            focus (exact fun w18 h18 => zsin_any (Zs.within (Zs.window l lo mid).1 s).1 l a14 a c14 ca w18 ((hO14.st (st.at h18 (fun x hx => by simp at hx <;> omega))).sl) (hS.st (st.at h18 (fun x hx => by simp at hx <;> omega))))
            intro w18 v18 h18 hB18
            have st := st.next h18 (fun x hx => by simp at hx <;> omega) hB18
            generalize Zs.same (Zs.within (Zs.window l lo mid).1 s).1 (Zs.window (Zs.within l s).1 lo mid).1 = X1 at *
            generalize Cv.all_ (Zs.within (Zs.window l lo mid).1 s).1 l = X2 at *
            obtain ⟨x1, f1⟩ := X1
            obtain ⟨x2, f2⟩ := X2
            simp only at l1 l2
            by_cases y1 : f1 = 0
            · refine Branch.no (by simp [y1]) ?_
              simp only
              rw [l1 y1]
              refine Branch.yes rfl ?_
              by_cases y3 : f2 = 0
              · refine Branch.no (by simp [y3]) ?_
                simp only
                rw [l2 y3]
                exact EndI.mk fun w9 h9 => rfl
              · refine Branch.yes (by simp [y3]) ?_
                exact EndI.mk fun w9 h9 => rfl
            · refine Branch.yes (by simp [y1]) ?_
              by_cases y3 : f2 = 0
              · refine Branch.no (by simp [y3]) ?_
                simp only
                rw [l2 y3]
                exact EndI.mk fun w9 h9 => rfl
              · refine Branch.yes (by simp [y3]) ?_
                exact EndI.mk fun w9 h9 => rfl
          · skip
            apply CallI.use
            focus (exact fun w14 h14 => zswithin_any (Zs.window l lo mid).1 s hs a4 c4 w14 ((hO4.st (st.at h14 (fun x hx => by simp at hx <;> omega))).sl))
            rintro v w14 v14 h14 hB14 ⟨a14, c14, rfl, hO14⟩
            have st := st.next h14 (fun x hx => by simp at hx <;> omega) hB14
            apply CallI.use
            focus (exact fun w15 h15 => zswithin_any l s hs a ca w15 (hS.st (st.at h15 (fun x hx => by simp at hx <;> omega))))
            rintro v w15 v15 h15 hB15 ⟨a15, c15, rfl, hO15⟩
            have st := st.next h15 (fun x hx => by simp at hx <;> omega) hB15
            apply CallI.use
            focus (exact fun w16 h16 => zswindow_any (Zs.within l s).1 lo mid h1i h2i a15 c15 w16 ((hO15.st (st.at h16 (fun x hx => by simp at hx <;> omega))).sl))
            rintro v w16 v16 h16 hB16 ⟨a16, c16, rfl, hO16⟩
            have st := st.next h16 (fun x hx => by simp at hx <;> omega) hB16
            refine Branch.mk (fun z1 => ?_) (fun z1 => ?_)
            · exact EndI.mk fun w9 h9 => rfl
            have e1 : (Zs.window l lo mid).2 = 0 := by simpa using z1
            refine Branch.mk (fun z2 => ?_) (fun z2 => ?_)
            · exact EndI.mk fun w9 h9 => rfl
            have e2 : (Zs.within (Zs.window l lo mid).1 s).2 = 0 := by simpa using z2
            refine Branch.mk (fun z3 => ?_) (fun z3 => ?_)
            · exact EndI.mk fun w9 h9 => rfl
            have e3 : (Zs.within l s).2 = 0 := by simpa using z3
            refine Branch.mk (fun z4 => ?_) (fun z4 => ?_)
            · exact EndI.mk fun w9 h9 => rfl
            have e4 : (Zs.window (Zs.within l s).1 lo mid).2 = 0 := by simpa using z4
            have l1 := law.two e1 e2 e3 e4
            have l2 := law.three e1 e2
            apply CallI.use1
            focus (exact fun w17 h17 => zssame_any (Zs.within (Zs.window l lo mid).1 s).1 (Zs.window (Zs.within l s).1 lo mid).1 a14 a16 c14 c16 w17 ((hO14.st (st.at h17 (fun x hx => by simp at hx <;> omega))).sl) ((hO16.st (st.at h17 (fun x hx => by simp at hx <;> omega))).sl))
            intro w17 v17 h17 hB17
            have st := st.next h17 (fun x hx => by simp at hx <;> omega) hB17
            apply CallI.use1
            focus (exact fun w18 h18 => zsin_any (Zs.within (Zs.window l lo mid).1 s).1 l a14 a c14 ca w18 ((hO14.st (st.at h18 (fun x hx => by simp at hx <;> omega))).sl) (hS.st (st.at h18 (fun x hx => by simp at hx <;> omega))))
            intro w18 v18 h18 hB18
            have st := st.next h18 (fun x hx => by simp at hx <;> omega) hB18
            generalize Zs.same (Zs.within (Zs.window l lo mid).1 s).1 (Zs.window (Zs.within l s).1 lo mid).1 = X1 at *
            generalize Cv.all_ (Zs.within (Zs.window l lo mid).1 s).1 l = X2 at *
            obtain ⟨x1, f1⟩ := X1
            obtain ⟨x2, f2⟩ := X2
            simp only at l1 l2
            by_cases y1 : f1 = 0
            · refine Branch.no (by simp [y1]) ?_
              simp only
              rw [l1 y1]
              refine Branch.yes rfl ?_
              by_cases y3 : f2 = 0
              · refine Branch.no (by simp [y3]) ?_
                simp only
                rw [l2 y3]
                exact EndI.mk fun w9 h9 => rfl
              · refine Branch.yes (by simp [y3]) ?_
                exact EndI.mk fun w9 h9 => rfl
            · refine Branch.yes (by simp [y1]) ?_
              by_cases y3 : f2 = 0
              · refine Branch.no (by simp [y3]) ?_
                simp only
                rw [l2 y3]
                exact EndI.mk fun w9 h9 => rfl
              · refine Branch.yes (by simp [y3]) ?_
                exact EndI.mk fun w9 h9 => rfl
        · skip
          apply CallI.use
          focus (exact fun w14 h14 => zswithin_any (Zs.window l lo mid).1 s hs a4 c4 w14 ((hO4.st (st.at h14 (fun x hx => by simp at hx <;> omega))).sl))
          rintro v w14 v14 h14 hB14 ⟨a14, c14, rfl, hO14⟩
          have st := st.next h14 (fun x hx => by simp at hx <;> omega) hB14
          apply CallI.use
          focus (exact fun w15 h15 => zswithin_any l s hs a ca w15 (hS.st (st.at h15 (fun x hx => by simp at hx <;> omega))))
          rintro v w15 v15 h15 hB15 ⟨a15, c15, rfl, hO15⟩
          have st := st.next h15 (fun x hx => by simp at hx <;> omega) hB15
          apply CallI.use
          focus (exact fun w16 h16 => zswindow_any (Zs.within l s).1 lo mid h1i h2i a15 c15 w16 ((hO15.st (st.at h16 (fun x hx => by simp at hx <;> omega))).sl))
          rintro v w16 v16 h16 hB16 ⟨a16, c16, rfl, hO16⟩
          have st := st.next h16 (fun x hx => by simp at hx <;> omega) hB16
          refine Branch.mk (fun z1 => ?_) (fun z1 => ?_)
          · exact EndI.mk fun w9 h9 => rfl
          have e1 : (Zs.window l lo mid).2 = 0 := by simpa using z1
          refine Branch.mk (fun z2 => ?_) (fun z2 => ?_)
          · exact EndI.mk fun w9 h9 => rfl
          have e2 : (Zs.within (Zs.window l lo mid).1 s).2 = 0 := by simpa using z2
          refine Branch.mk (fun z3 => ?_) (fun z3 => ?_)
          · exact EndI.mk fun w9 h9 => rfl
          have e3 : (Zs.within l s).2 = 0 := by simpa using z3
          refine Branch.mk (fun z4 => ?_) (fun z4 => ?_)
          · exact EndI.mk fun w9 h9 => rfl
          have e4 : (Zs.window (Zs.within l s).1 lo mid).2 = 0 := by simpa using z4
          have l1 := law.two e1 e2 e3 e4
          have l2 := law.three e1 e2
          apply CallI.use1
          focus (exact fun w17 h17 => zssame_any (Zs.within (Zs.window l lo mid).1 s).1 (Zs.window (Zs.within l s).1 lo mid).1 a14 a16 c14 c16 w17 ((hO14.st (st.at h17 (fun x hx => by simp at hx <;> omega))).sl) ((hO16.st (st.at h17 (fun x hx => by simp at hx <;> omega))).sl))
          intro w17 v17 h17 hB17
          have st := st.next h17 (fun x hx => by simp at hx <;> omega) hB17
          apply CallI.use1
          focus (exact fun w18 h18 => zsin_any (Zs.within (Zs.window l lo mid).1 s).1 l a14 a c14 ca w18 ((hO14.st (st.at h18 (fun x hx => by simp at hx <;> omega))).sl) (hS.st (st.at h18 (fun x hx => by simp at hx <;> omega))))
          intro w18 v18 h18 hB18
          have st := st.next h18 (fun x hx => by simp at hx <;> omega) hB18
          generalize Zs.same (Zs.within (Zs.window l lo mid).1 s).1 (Zs.window (Zs.within l s).1 lo mid).1 = X1 at *
          generalize Cv.all_ (Zs.within (Zs.window l lo mid).1 s).1 l = X2 at *
          obtain ⟨x1, f1⟩ := X1
          obtain ⟨x2, f2⟩ := X2
          simp only at l1 l2
          by_cases y1 : f1 = 0
          · refine Branch.no (by simp [y1]) ?_
            simp only
            rw [l1 y1]
            refine Branch.yes rfl ?_
            by_cases y3 : f2 = 0
            · refine Branch.no (by simp [y3]) ?_
              simp only
              rw [l2 y3]
              exact EndI.mk fun w9 h9 => rfl
            · refine Branch.yes (by simp [y3]) ?_
              exact EndI.mk fun w9 h9 => rfl
          · refine Branch.yes (by simp [y1]) ?_
            by_cases y3 : f2 = 0
            · refine Branch.no (by simp [y3]) ?_
              simp only
              rw [l2 y3]
              exact EndI.mk fun w9 h9 => rfl
            · refine Branch.yes (by simp [y3]) ?_
              exact EndI.mk fun w9 h9 => rfl
      · skip
        apply CallI.use
        focus (exact fun w14 h14 => zswithin_any (Zs.window l lo mid).1 s hs a4 c4 w14 ((hO4.st (st.at h14 (fun x hx => by simp at hx <;> omega))).sl))
        rintro v w14 v14 h14 hB14 ⟨a14, c14, rfl, hO14⟩
        have st := st.next h14 (fun x hx => by simp at hx <;> omega) hB14
        apply CallI.use
        focus (exact fun w15 h15 => zswithin_any l s hs a ca w15 (hS.st (st.at h15 (fun x hx => by simp at hx <;> omega))))
        rintro v w15 v15 h15 hB15 ⟨a15, c15, rfl, hO15⟩
        have st := st.next h15 (fun x hx => by simp at hx <;> omega) hB15
        apply CallI.use
        focus (exact fun w16 h16 => zswindow_any (Zs.within l s).1 lo mid h1i h2i a15 c15 w16 ((hO15.st (st.at h16 (fun x hx => by simp at hx <;> omega))).sl))
        rintro v w16 v16 h16 hB16 ⟨a16, c16, rfl, hO16⟩
        have st := st.next h16 (fun x hx => by simp at hx <;> omega) hB16
        refine Branch.mk (fun z1 => ?_) (fun z1 => ?_)
        · exact EndI.mk fun w9 h9 => rfl
        have e1 : (Zs.window l lo mid).2 = 0 := by simpa using z1
        refine Branch.mk (fun z2 => ?_) (fun z2 => ?_)
        · exact EndI.mk fun w9 h9 => rfl
        have e2 : (Zs.within (Zs.window l lo mid).1 s).2 = 0 := by simpa using z2
        refine Branch.mk (fun z3 => ?_) (fun z3 => ?_)
        · exact EndI.mk fun w9 h9 => rfl
        have e3 : (Zs.within l s).2 = 0 := by simpa using z3
        refine Branch.mk (fun z4 => ?_) (fun z4 => ?_)
        · exact EndI.mk fun w9 h9 => rfl
        have e4 : (Zs.window (Zs.within l s).1 lo mid).2 = 0 := by simpa using z4
        have l1 := law.two e1 e2 e3 e4
        have l2 := law.three e1 e2
        apply CallI.use1
        focus (exact fun w17 h17 => zssame_any (Zs.within (Zs.window l lo mid).1 s).1 (Zs.window (Zs.within l s).1 lo mid).1 a14 a16 c14 c16 w17 ((hO14.st (st.at h17 (fun x hx => by simp at hx <;> omega))).sl) ((hO16.st (st.at h17 (fun x hx => by simp at hx <;> omega))).sl))
        intro w17 v17 h17 hB17
        have st := st.next h17 (fun x hx => by simp at hx <;> omega) hB17
        apply CallI.use1
        focus (exact fun w18 h18 => zsin_any (Zs.within (Zs.window l lo mid).1 s).1 l a14 a c14 ca w18 ((hO14.st (st.at h18 (fun x hx => by simp at hx <;> omega))).sl) (hS.st (st.at h18 (fun x hx => by simp at hx <;> omega))))
        intro w18 v18 h18 hB18
        have st := st.next h18 (fun x hx => by simp at hx <;> omega) hB18
        generalize Zs.same (Zs.within (Zs.window l lo mid).1 s).1 (Zs.window (Zs.within l s).1 lo mid).1 = X1 at *
        generalize Cv.all_ (Zs.within (Zs.window l lo mid).1 s).1 l = X2 at *
        obtain ⟨x1, f1⟩ := X1
        obtain ⟨x2, f2⟩ := X2
        simp only at l1 l2
        by_cases y1 : f1 = 0
        · refine Branch.no (by simp [y1]) ?_
          simp only
          rw [l1 y1]
          refine Branch.yes rfl ?_
          by_cases y3 : f2 = 0
          · refine Branch.no (by simp [y3]) ?_
            simp only
            rw [l2 y3]
            exact EndI.mk fun w9 h9 => rfl
          · refine Branch.yes (by simp [y3]) ?_
            exact EndI.mk fun w9 h9 => rfl
        · refine Branch.yes (by simp [y1]) ?_
          by_cases y3 : f2 = 0
          · refine Branch.no (by simp [y3]) ?_
            simp only
            rw [l2 y3]
            exact EndI.mk fun w9 h9 => rfl
          · refine Branch.yes (by simp [y3]) ?_
            exact EndI.mk fun w9 h9 => rfl
    · skip
      apply CallI.use
      focus (exact fun w14 h14 => zswithin_any (Zs.window l lo mid).1 s hs a4 c4 w14 ((hO4.st (st.at h14 (fun x hx => by simp at hx <;> omega))).sl))
      rintro v w14 v14 h14 hB14 ⟨a14, c14, rfl, hO14⟩
      have st := st.next h14 (fun x hx => by simp at hx <;> omega) hB14
      apply CallI.use
      focus (exact fun w15 h15 => zswithin_any l s hs a ca w15 (hS.st (st.at h15 (fun x hx => by simp at hx <;> omega))))
      rintro v w15 v15 h15 hB15 ⟨a15, c15, rfl, hO15⟩
      have st := st.next h15 (fun x hx => by simp at hx <;> omega) hB15
      apply CallI.use
      focus (exact fun w16 h16 => zswindow_any (Zs.within l s).1 lo mid h1i h2i a15 c15 w16 ((hO15.st (st.at h16 (fun x hx => by simp at hx <;> omega))).sl))
      rintro v w16 v16 h16 hB16 ⟨a16, c16, rfl, hO16⟩
      have st := st.next h16 (fun x hx => by simp at hx <;> omega) hB16
      refine Branch.mk (fun z1 => ?_) (fun z1 => ?_)
      · exact EndI.mk fun w9 h9 => rfl
      have e1 : (Zs.window l lo mid).2 = 0 := by simpa using z1
      refine Branch.mk (fun z2 => ?_) (fun z2 => ?_)
      · exact EndI.mk fun w9 h9 => rfl
      have e2 : (Zs.within (Zs.window l lo mid).1 s).2 = 0 := by simpa using z2
      refine Branch.mk (fun z3 => ?_) (fun z3 => ?_)
      · exact EndI.mk fun w9 h9 => rfl
      have e3 : (Zs.within l s).2 = 0 := by simpa using z3
      refine Branch.mk (fun z4 => ?_) (fun z4 => ?_)
      · exact EndI.mk fun w9 h9 => rfl
      have e4 : (Zs.window (Zs.within l s).1 lo mid).2 = 0 := by simpa using z4
      have l1 := law.two e1 e2 e3 e4
      have l2 := law.three e1 e2
      apply CallI.use1
      focus (exact fun w17 h17 => zssame_any (Zs.within (Zs.window l lo mid).1 s).1 (Zs.window (Zs.within l s).1 lo mid).1 a14 a16 c14 c16 w17 ((hO14.st (st.at h17 (fun x hx => by simp at hx <;> omega))).sl) ((hO16.st (st.at h17 (fun x hx => by simp at hx <;> omega))).sl))
      intro w17 v17 h17 hB17
      have st := st.next h17 (fun x hx => by simp at hx <;> omega) hB17
      apply CallI.use1
      focus (exact fun w18 h18 => zsin_any (Zs.within (Zs.window l lo mid).1 s).1 l a14 a c14 ca w18 ((hO14.st (st.at h18 (fun x hx => by simp at hx <;> omega))).sl) (hS.st (st.at h18 (fun x hx => by simp at hx <;> omega))))
      intro w18 v18 h18 hB18
      have st := st.next h18 (fun x hx => by simp at hx <;> omega) hB18
      generalize Zs.same (Zs.within (Zs.window l lo mid).1 s).1 (Zs.window (Zs.within l s).1 lo mid).1 = X1 at *
      generalize Cv.all_ (Zs.within (Zs.window l lo mid).1 s).1 l = X2 at *
      obtain ⟨x1, f1⟩ := X1
      obtain ⟨x2, f2⟩ := X2
      simp only at l1 l2
      by_cases y1 : f1 = 0
      · refine Branch.no (by simp [y1]) ?_
        simp only
        rw [l1 y1]
        refine Branch.yes rfl ?_
        by_cases y3 : f2 = 0
        · refine Branch.no (by simp [y3]) ?_
          simp only
          rw [l2 y3]
          exact EndI.mk fun w9 h9 => rfl
        · refine Branch.yes (by simp [y3]) ?_
          exact EndI.mk fun w9 h9 => rfl
      · refine Branch.yes (by simp [y1]) ?_
        by_cases y3 : f2 = 0
        · refine Branch.no (by simp [y3]) ?_
          simp only
          rw [l2 y3]
          exact EndI.mk fun w9 h9 => rfl
        · refine Branch.yes (by simp [y3]) ?_
          exact EndI.mk fun w9 h9 => rfl
  · skip
    apply CallI.use
    focus (exact fun w14 h14 => zswithin_any (Zs.window l lo mid).1 s hs a4 c4 w14 ((hO4.st (st.at h14 (fun x hx => by simp at hx <;> omega))).sl))
    rintro v w14 v14 h14 hB14 ⟨a14, c14, rfl, hO14⟩
    have st := st.next h14 (fun x hx => by simp at hx <;> omega) hB14
    apply CallI.use
    focus (exact fun w15 h15 => zswithin_any l s hs a ca w15 (hS.st (st.at h15 (fun x hx => by simp at hx <;> omega))))
    rintro v w15 v15 h15 hB15 ⟨a15, c15, rfl, hO15⟩
    have st := st.next h15 (fun x hx => by simp at hx <;> omega) hB15
    apply CallI.use
    focus (exact fun w16 h16 => zswindow_any (Zs.within l s).1 lo mid h1i h2i a15 c15 w16 ((hO15.st (st.at h16 (fun x hx => by simp at hx <;> omega))).sl))
    rintro v w16 v16 h16 hB16 ⟨a16, c16, rfl, hO16⟩
    have st := st.next h16 (fun x hx => by simp at hx <;> omega) hB16
    refine Branch.mk (fun z1 => ?_) (fun z1 => ?_)
    · exact EndI.mk fun w9 h9 => rfl
    have e1 : (Zs.window l lo mid).2 = 0 := by simpa using z1
    refine Branch.mk (fun z2 => ?_) (fun z2 => ?_)
    · exact EndI.mk fun w9 h9 => rfl
    have e2 : (Zs.within (Zs.window l lo mid).1 s).2 = 0 := by simpa using z2
    refine Branch.mk (fun z3 => ?_) (fun z3 => ?_)
    · exact EndI.mk fun w9 h9 => rfl
    have e3 : (Zs.within l s).2 = 0 := by simpa using z3
    refine Branch.mk (fun z4 => ?_) (fun z4 => ?_)
    · exact EndI.mk fun w9 h9 => rfl
    have e4 : (Zs.window (Zs.within l s).1 lo mid).2 = 0 := by simpa using z4
    have l1 := law.two e1 e2 e3 e4
    have l2 := law.three e1 e2
    apply CallI.use1
    focus (exact fun w17 h17 => zssame_any (Zs.within (Zs.window l lo mid).1 s).1 (Zs.window (Zs.within l s).1 lo mid).1 a14 a16 c14 c16 w17 ((hO14.st (st.at h17 (fun x hx => by simp at hx <;> omega))).sl) ((hO16.st (st.at h17 (fun x hx => by simp at hx <;> omega))).sl))
    intro w17 v17 h17 hB17
    have st := st.next h17 (fun x hx => by simp at hx <;> omega) hB17
    apply CallI.use1
    focus (exact fun w18 h18 => zsin_any (Zs.within (Zs.window l lo mid).1 s).1 l a14 a c14 ca w18 ((hO14.st (st.at h18 (fun x hx => by simp at hx <;> omega))).sl) (hS.st (st.at h18 (fun x hx => by simp at hx <;> omega))))
    intro w18 v18 h18 hB18
    have st := st.next h18 (fun x hx => by simp at hx <;> omega) hB18
    generalize Zs.same (Zs.within (Zs.window l lo mid).1 s).1 (Zs.window (Zs.within l s).1 lo mid).1 = X1 at *
    generalize Cv.all_ (Zs.within (Zs.window l lo mid).1 s).1 l = X2 at *
    obtain ⟨x1, f1⟩ := X1
    obtain ⟨x2, f2⟩ := X2
    simp only at l1 l2
    by_cases y1 : f1 = 0
    · refine Branch.no (by simp [y1]) ?_
      simp only
      rw [l1 y1]
      refine Branch.yes rfl ?_
      by_cases y3 : f2 = 0
      · refine Branch.no (by simp [y3]) ?_
        simp only
        rw [l2 y3]
        exact EndI.mk fun w9 h9 => rfl
      · refine Branch.yes (by simp [y3]) ?_
        exact EndI.mk fun w9 h9 => rfl
    · refine Branch.yes (by simp [y1]) ?_
      by_cases y3 : f2 = 0
      · refine Branch.no (by simp [y3]) ?_
        simp only
        rw [l2 y3]
        exact EndI.mk fun w9 h9 => rfl
      · refine Branch.yes (by simp [y3]) ?_
        exact EndI.mk fun w9 h9 => rfl
end Go.Proofs.YtgjeeghhhfpkoaaGreat

/-
  rallentando/rallentandolaw13.ZsetWindows: the law.
-/
namespace Go.Proofs.YtgjeeghhhfpkoaaGreat
set_option linter.unusedVariables false
open Go.ChangeShapes Go.WideShapes Go.ChangeAt Go.RowKit Go.Deep

set_option maxRecDepth 100000 in
theorem zsetWindows_lifted (os : Os) (started : os.Started) (H : Type) (enc : TypeId × Value → H) :
    ReturnsInHanded {} Tryz.checked os 9 .any (Rows.zsetWindowsSpec.pre6 enc Tryz.prog Tryz.f9 Rows.zsetWindowsRow.domain false) (Rows.zsetWindowsSpec.post enc Tryz.prog Tryz.f9 false true false false) := by
  refine returnsInHanded_of_change (C := Tryz.checked) own started (by kernel_rfl) Tryz.func9
    (ChangeSpec.witness6 (enc := enc) (C := Tryz.checked) false ⟨#[], #[.slice none 0 0, .agg #[.int .i64 0, .bool false, .int .i64 0, .bool false, .bool false], .int .i64 0, .int .i64 0, .int .i64 0], []⟩ 8 (by kernel_rfl) (by kernel_rfl) (by kernel_rfl) (by kernel_rfl)) ?_
  intro W base args ds gs before hval0 hW _ _
  have hval : ∀ (j : Nat) t v, Tryz.f9.params[j]? = some t → args[j]? = some v → Value.okWide Tryz.prog W .any base t v := hval0
  have hW' := hW
  obtain ⟨p, q, hA0, hV, rfl, hfz, hnd⟩ := hW
  have hA : DataW.TrodAll enc Tryz.prog W 0 (fun _ => true) true Tryz.f9.params.toList args.toList ds p := hA0
  rw [Tryz.params9] at hA hval
  obtain ⟨v0, vs0, d0, ds0, p0_, q0_, hargs, rfl, rfl, h0, r0⟩ := trodAll_cons hA
  obtain ⟨v1, vs1, d1, ds1, p1_, q1_, rfl, rfl, rfl, h1, r1⟩ := trodAll_cons r0
  obtain ⟨v2, vs2, d2, ds2, p2_, q2_, rfl, rfl, rfl, h2, r2⟩ := trodAll_cons r1
  obtain ⟨v3, vs3, d3, ds3, p3_, q3_, rfl, rfl, rfl, h3, r3⟩ := trodAll_cons r2
  obtain ⟨v4, vs4, d4, ds4, p4_, q4_, rfl, rfl, rfl, h4, r4⟩ := trodAll_cons r3
  obtain ⟨rfl, rfl, rfl⟩ := trodAll_nil r4
  obtain rfl : args = #[v0, v1, v2, v3, v4] := by cases args; simp_all
  obtain ⟨rfl, rfl⟩ := trodVars_none hV
  obtain ⟨x0, L0, c0, rfl, S0, G0⟩ := open_lst Tryz.underlying45 (opens_zn Tryz.underlying39 (by kernel_rfl) Tryz.underlying37 (by kernel_rfl)) (hval 0 45 v0 rfl rfl) h0
  obtain ⟨z1, rfl, G1⟩ := open_agg (opens_sp Tryz.underlying64 (by kernel_rfl) rfl rfl rfl rfl rfl (by kernel_rfl) (by kernel_rfl) (by kernel_rfl) (by kernel_rfl) (by kernel_rfl) Tryz.underlying3 Tryz.underlying4 Tryz.underlying3 Tryz.underlying4 Tryz.underlying4) (.inl ⟨_, Tryz.underlying64⟩) (hval 1 64 v1 rfl rfl) h1
  obtain ⟨a2, rfl, rfl, rfl, w2⟩ := open_int Tryz.underlying3 (hval 2 3 v2 rfl rfl) h2
  obtain ⟨a3, rfl, rfl, rfl, w3⟩ := open_int Tryz.underlying3 (hval 3 3 v3 rfl rfl) h3
  obtain ⟨a4, rfl, rfl, rfl, w4⟩ := open_int Tryz.underlying3 (hval 4 3 v4 rfl rfl) h4
  clear hA0 hval0
  exact (zsetWindows_walk L0 z1 G1 a2 a3 a4 (inK_wf w2) (inK_wf w3) (inK_wf w4) x0 c0 W S0).mono fun e W' ⟨he, hg⟩ => ⟨_, he, law_post laidOut (by kernel_rfl) rfl rfl Tryz.underlying4 hW' rfl hg⟩

set_option maxRecDepth 100000 in
theorem zsetWindows_k1 : (Rows.zsetWindowsRow.inPlace == Tryz.pinned.checked.prog.inPlace 9) = true := by kernel_rfl
set_option maxRecDepth 100000 in
theorem zsetWindows_k2 : (Rows.zsetWindowsRow.unfollowed == Tryz.pinned.checked.prog.unfollowed 9) = true := by kernel_rfl
set_option maxRecDepth 100000 in
theorem zsetWindows_k3 : (Rows.zsetWindowsRow.recurses == Tryz.pinned.checked.prog.recurses 9) = true := by kernel_rfl
set_option maxRecDepth 100000 in
theorem zsetWindows_k4 : (Rows.zsetWindowsRow.named == Tryz.pinned.checked.prog.varsNamed 9) = true := by kernel_rfl
set_option maxRecDepth 100000 in
theorem zsetWindows_closed : joinedFacts Tryz.pinned.checked.prog 9 Tryz.f9 Rows.zsetWindowsSpec Rows.zsetWindowsRow = true := by
  unfold joinedFacts
  rw [zsetWindows_k1, zsetWindows_k2, zsetWindows_k3, zsetWindows_k4]
  kernel_rfl
set_option maxRecDepth 100000 in
theorem zsetWindows_over : Rows.zsetWindowsRow.holds Tryz.pinned (OpenSpec.ofChange Rows.zsetWindowsSpec) :=
  OpenClaim.holds_of_wide 9 Tryz.f9 rfl rfl rfl rfl rfl rfl rfl ⟨rfl, rfl, rfl, rfl, rfl⟩ rfl rfl rfl rfl rfl (by kernel_rfl) Tryz.func9 zsetWindows_closed
    (of_decide_eq_true (by kernel_rfl)) (by unfold Func.isWrapper; first | (rw [if_pos (by decide +kernel)]; kernel_rfl) | (rw [if_neg (by decide +kernel)]; exact ⟨rfl, rfl⟩))
    (fun os started H enc _ => zsetWindows_lifted os started H enc)

theorem zsetWindows.proved : Rows.ZsetWindowsSaid := zsetWindows_over
#print axioms zsetWindows.proved
end Go.Proofs.YtgjeeghhhfpkoaaGreat

