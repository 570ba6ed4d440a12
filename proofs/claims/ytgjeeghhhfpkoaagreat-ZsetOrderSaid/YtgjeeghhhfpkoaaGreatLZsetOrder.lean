/-
  rallentando/rallentandolaw13.ZsetOrder: the law.
-/
import Derived.Test.YtgjeeghhhfpkoaaGreatB7
import Derived.Test.YtgjeeghhhfpkoaaGreatB8
import Derived.Test.YtgjeeghhhfpkoaaGreatB3
/-
  The walk of rallentandolaw13.ZsetOrder, by the engine.
-/
namespace Go.Proofs.YtgjeeghhhfpkoaaGreat
set_option linter.unusedVariables false
set_option linter.unusedSimpArgs false
set_option maxRecDepth 100000
open Go.RowKit Go.Proofs.YtgjeeghhhfpkoaaGreat.Eng Enc

namespace Zs
open Mi
structure OrderLaw (l m : List Zn) : Prop where
  both : (and l m).2 = 0 → (and m l).2 = 0 → (same (and l m).1 (and m l).1).2 = 0 → (same (and l m).1 (and m l).1).1 = true
  own : (same l l).2 = 0 → (same l l).1 = true
  one : (or l m).2 = 0 → (Cv.all_ l (or l m).1).2 = 0 → (Cv.all_ l (or l m).1).1 = true
  two : (and l m).2 = 0 → (Cv.all_ (and l m).1 m).2 = 0 → (Cv.all_ (and l m).1 m).1 = true
  three : (or l m).2 = 0 → (and l m).2 = 0 → (Cv.all_ (and l m).1 (or l m).1).2 = 0 → (Cv.all_ (and l m).1 (or l m).1).1 = true
theorem orderLaw (l m : List Zn) : OrderLaw l m where
  both := fun h1 h2 h => same_pts h fun t => by rw [(and_ok h1).2.2 t, (and_ok h2).2.2 t]; exact And.comm
  own := fun h => same_pts h fun t => Iff.rfl
  one := fun h1 h => all_pts h fun t ht => ((or_ok h1).2.2 t).2 (.inl ht)
  two := fun h1 h => all_pts h fun t ht => (((and_ok h1).2.2 t).1 ht).2
  three := fun h1 h2 h => all_pts h fun t ht => ((or_ok h1).2.2 t).2 (.inl (((and_ok h2).2.2 t).1 ht).1)
end Zs
set_option maxHeartbeats 8000000 in
theorem zsetOrder_walk (l m : List Zn) (a b : Option Addr) (ca cb : Nat) (w : World) (hS : Sl w.heap.size w (.slice a l.length ca) l) (hT : Sl w.heap.size w (.slice b m.length cb) m) :
    Calls Tryz.prog 6 #[.slice a l.length ca, .slice b m.length cb] w fun e w' => e = .returned (.bool true) ∧ Below w.heap.size w w' := by
  refine fun_eq 0 w Tryz.func6 (args := [.val (.slice a l.length ca), .val (.slice b m.length cb)]) rfl rfl ?_
  have st := Stay.first (w := w)
  apply CallI.use1
  focus (exact fun w1 h1 => alive13_any w1)
  intro w1 v1 h1 hB1
  have st := st.next h1 (fun x hx => by simp at hx <;> omega) hB1
  refine Branch.mk (fun hc => ?_) (fun hc => ?_)
  · exact EndI.mk fun w9 h9 => rfl
  refine Branch.mk (fun hc2 => ?_) (fun hc2 => ?_)
  · exact EndI.mk fun w9 h9 => rfl
  refine Branch.no rfl ?_
  apply CallI.use
  focus (exact fun w4 h4 => zsor_any l m a b ca cb w4 (hS.st (st.at h4 (fun x hx => by simp at hx <;> omega))) (hT.st (st.at h4 (fun x hx => by simp at hx <;> omega))))
  rintro v w4 v4 h4 hB4 ⟨a4, c4, rfl, hO4⟩
  have st := st.next h4 (fun x hx => by simp at hx <;> omega) hB4
  apply CallI.use
  focus (exact fun w5 h5 => zsor_any m l b a cb ca w5 (hT.st (st.at h5 (fun x hx => by simp at hx <;> omega))) (hS.st (st.at h5 (fun x hx => by simp at hx <;> omega))))
  rintro v w5 v5 h5 hB5 ⟨a5, c5, rfl, hO5⟩
  have st := st.next h5 (fun x hx => by simp at hx <;> omega) hB5
  apply CallI.use
  focus (exact fun w6 h6 => zsand_any l m a b ca cb w6 (hS.st (st.at h6 (fun x hx => by simp at hx <;> omega))) (hT.st (st.at h6 (fun x hx => by simp at hx <;> omega))))
  rintro v w6 v6 h6 hB6 ⟨a6, c6, rfl, hO6⟩
  have st := st.next h6 (fun x hx => by simp at hx <;> omega) hB6
  apply CallI.use
  focus (exact fun w7 h7 => zsand_any m l b a cb ca w7 (hT.st (st.at h7 (fun x hx => by simp at hx <;> omega))) (hS.st (st.at h7 (fun x hx => by simp at hx <;> omega))))
  rintro v w7 v7 h7 hB7 ⟨a7, c7, rfl, hO7⟩
  have st := st.next h7 (fun x hx => by simp at hx <;> omega) hB7
  have law := Zs.orderLaw l m
  rw [Zs.or_comm m l] at *
  refine Branch.no (by simp) ?_
  apply CallI.use1
  focus (exact fun w8 h8 => same11_any (Zs.or l m).1 (Zs.or l m).1 a4 c4 a5 c5 w8 ((hO4.st (st.at h8 (fun x hx => by simp at hx <;> omega))).sl) ((hO5.st (st.at h8 (fun x hx => by simp at hx <;> omega))).sl))
  intro w8 v8 h8 hB8
  have st := st.next h8 (fun x hx => by simp at hx <;> omega) hB8
  refine Branch.no (by simp) ?_
  refine Branch.mk (fun y1 => ?_) (fun y1 => ?_)
  · refine Branch.mk (fun y2 => ?_) (fun y2 => ?_)
    · skip
      apply CallI.use1
      focus (exact fun w9 h9 => zssame_any (Zs.and l m).1 (Zs.and m l).1 a6 a7 c6 c7 w9 ((hO6.st (st.at h9 (fun x hx => by simp at hx <;> omega))).sl) ((hO7.st (st.at h9 (fun x hx => by simp at hx <;> omega))).sl))
      intro w9 v9 h9 hB9
      have st := st.next h9 (fun x hx => by simp at hx <;> omega) hB9
      refine Branch.mk (fun y3 => ?_) (fun y3 => ?_)
      · refine Branch.no (by rw [law.both (of_decide_eq_true y1) (of_decide_eq_true y2) (of_decide_eq_true y3)]; rfl) ?_
        apply CallI.use1
        focus (exact fun w14 h14 => zssame_any l l a a ca ca w14 (hS.st (st.at h14 (fun x hx => by simp at hx <;> omega))) (hS.st (st.at h14 (fun x hx => by simp at hx <;> omega))))
        intro w14 v14 h14 hB14
        have st := st.next h14 (fun x hx => by simp at hx <;> omega) hB14
        refine Branch.mk (fun z1 => ?_) (fun z1 => ?_)
        · refine Branch.no (by rw [law.own (of_decide_eq_true z1)]; rfl) ?_
          refine Branch.mk (fun z2 => ?_) (fun z2 => ?_)
          · exact EndI.mk fun w9 h9 => rfl
          have e1 : (Zs.or l m).2 = 0 := by simpa using z2
          refine Branch.mk (fun z3 => ?_) (fun z3 => ?_)
          · exact EndI.mk fun w9 h9 => rfl
          have e2 : (Zs.and l m).2 = 0 := by simpa using z3
          have l1 := law.one e1
          have l2 := law.two e2
          have l3 := law.three e1 e2
          apply CallI.use1
          focus (exact fun w15 h15 => zsin_any l (Zs.or l m).1 a a4 ca c4 w15 (hS.st (st.at h15 (fun x hx => by simp at hx <;> omega))) ((hO4.st (st.at h15 (fun x hx => by simp at hx <;> omega))).sl))
          intro w15 v15 h15 hB15
          have st := st.next h15 (fun x hx => by simp at hx <;> omega) hB15
          apply CallI.use1
          focus (exact fun w16 h16 => zsin_any (Zs.and l m).1 m a6 b c6 cb w16 ((hO6.st (st.at h16 (fun x hx => by simp at hx <;> omega))).sl) (hT.st (st.at h16 (fun x hx => by simp at hx <;> omega))))
          intro w16 v16 h16 hB16
          have st := st.next h16 (fun x hx => by simp at hx <;> omega) hB16
          apply CallI.use1
          focus (exact fun w17 h17 => zsin_any (Zs.and l m).1 (Zs.or l m).1 a6 a4 c6 c4 w17 ((hO6.st (st.at h17 (fun x hx => by simp at hx <;> omega))).sl) ((hO4.st (st.at h17 (fun x hx => by simp at hx <;> omega))).sl))
          intro w17 v17 h17 hB17
          have st := st.next h17 (fun x hx => by simp at hx <;> omega) hB17
          generalize Cv.all_ l (Zs.or l m).1 = X1 at *
          generalize Cv.all_ (Zs.and l m).1 m = X2 at *
          generalize Cv.all_ (Zs.and l m).1 (Zs.or l m).1 = X3 at *
          obtain ⟨x1, f1⟩ := X1
          obtain ⟨x2, f2⟩ := X2
          obtain ⟨x3, f3⟩ := X3
          simp only at l1 l2 l3
          by_cases y1 : f1 = 0
          · refine Branch.no (by simp [y1]) ?_
            simp only
            rw [l1 y1]
            refine Branch.yes rfl ?_
            by_cases y2 : f2 = 0
            · refine Branch.no (by simp [y2]) ?_
              simp only
              rw [l2 y2]
              refine Branch.yes rfl ?_
              by_cases y3 : f3 = 0
              · refine Branch.no (by simp [y3]) ?_
                simp only
                rw [l3 y3]
                exact EndI.mk fun w9 h9 => rfl
              · refine Branch.yes (by simp [y3]) ?_
                exact EndI.mk fun w9 h9 => rfl
            · refine Branch.yes (by simp [y2]) ?_
              by_cases y3 : f3 = 0
              · refine Branch.no (by simp [y3]) ?_
                simp only
                rw [l3 y3]
                exact EndI.mk fun w9 h9 => rfl
              · refine Branch.yes (by simp [y3]) ?_
                exact EndI.mk fun w9 h9 => rfl
          · refine Branch.yes (by simp [y1]) ?_
            by_cases y2 : f2 = 0
            · refine Branch.no (by simp [y2]) ?_
              simp only
              rw [l2 y2]
              refine Branch.yes rfl ?_
              by_cases y3 : f3 = 0
              · refine Branch.no (by simp [y3]) ?_
                simp only
                rw [l3 y3]
                exact EndI.mk fun w9 h9 => rfl
              · refine Branch.yes (by simp [y3]) ?_
                exact EndI.mk fun w9 h9 => rfl
            · refine Branch.yes (by simp [y2]) ?_
              by_cases y3 : f3 = 0
              · refine Branch.no (by simp [y3]) ?_
                simp only
                rw [l3 y3]
                exact EndI.mk fun w9 h9 => rfl
              · refine Branch.yes (by simp [y3]) ?_
                exact EndI.mk fun w9 h9 => rfl
        · skip
          refine Branch.mk (fun z2 => ?_) (fun z2 => ?_)
          · exact EndI.mk fun w9 h9 => rfl
          have e1 : (Zs.or l m).2 = 0 := by simpa using z2
          refine Branch.mk (fun z3 => ?_) (fun z3 => ?_)
          · exact EndI.mk fun w9 h9 => rfl
          have e2 : (Zs.and l m).2 = 0 := by simpa using z3
          have l1 := law.one e1
          have l2 := law.two e2
          have l3 := law.three e1 e2
          apply CallI.use1
          focus (exact fun w15 h15 => zsin_any l (Zs.or l m).1 a a4 ca c4 w15 (hS.st (st.at h15 (fun x hx => by simp at hx <;> omega))) ((hO4.st (st.at h15 (fun x hx => by simp at hx <;> omega))).sl))
          intro w15 v15 h15 hB15
          have st := st.next h15 (fun x hx => by simp at hx <;> omega) hB15
          apply CallI.use1
          focus (exact fun w16 h16 => zsin_any (Zs.and l m).1 m a6 b c6 cb w16 ((hO6.st (st.at h16 (fun x hx => by simp at hx <;> omega))).sl) (hT.st (st.at h16 (fun x hx => by simp at hx <;> omega))))
          intro w16 v16 h16 hB16
          have st := st.next h16 (fun x hx => by simp at hx <;> omega) hB16
          apply CallI.use1
          focus (exact fun w17 h17 => zsin_any (Zs.and l m).1 (Zs.or l m).1 a6 a4 c6 c4 w17 ((hO6.st (st.at h17 (fun x hx => by simp at hx <;> omega))).sl) ((hO4.st (st.at h17 (fun x hx => by simp at hx <;> omega))).sl))
          intro w17 v17 h17 hB17
          have st := st.next h17 (fun x hx => by simp at hx <;> omega) hB17
          generalize Cv.all_ l (Zs.or l m).1 = X1 at *
          generalize Cv.all_ (Zs.and l m).1 m = X2 at *
          generalize Cv.all_ (Zs.and l m).1 (Zs.or l m).1 = X3 at *
          obtain ⟨x1, f1⟩ := X1
          obtain ⟨x2, f2⟩ := X2
          obtain ⟨x3, f3⟩ := X3
          simp only at l1 l2 l3
          by_cases y1 : f1 = 0
          · refine Branch.no (by simp [y1]) ?_
            simp only
            rw [l1 y1]
            refine Branch.yes rfl ?_
            by_cases y2 : f2 = 0
            · refine Branch.no (by simp [y2]) ?_
              simp only
              rw [l2 y2]
              refine Branch.yes rfl ?_
              by_cases y3 : f3 = 0
              · refine Branch.no (by simp [y3]) ?_
                simp only
                rw [l3 y3]
                exact EndI.mk fun w9 h9 => rfl
              · refine Branch.yes (by simp [y3]) ?_
                exact EndI.mk fun w9 h9 => rfl
            · refine Branch.yes (by simp [y2]) ?_
              by_cases y3 : f3 = 0
              · refine Branch.no (by simp [y3]) ?_
                simp only
                rw [l3 y3]
                exact EndI.mk fun w9 h9 => rfl
              · refine Branch.yes (by simp [y3]) ?_
                exact EndI.mk fun w9 h9 => rfl
          · refine Branch.yes (by simp [y1]) ?_
            by_cases y2 : f2 = 0
            · refine Branch.no (by simp [y2]) ?_
              simp only
              rw [l2 y2]
              refine Branch.yes rfl ?_
              by_cases y3 : f3 = 0
              · refine Branch.no (by simp [y3]) ?_
                simp only
                rw [l3 y3]
                exact EndI.mk fun w9 h9 => rfl
              · refine Branch.yes (by simp [y3]) ?_
                exact EndI.mk fun w9 h9 => rfl
            · refine Branch.yes (by simp [y2]) ?_
              by_cases y3 : f3 = 0
              · refine Branch.no (by simp [y3]) ?_
                simp only
                rw [l3 y3]
                exact EndI.mk fun w9 h9 => rfl
              · refine Branch.yes (by simp [y3]) ?_
                exact EndI.mk fun w9 h9 => rfl
      · skip
        apply CallI.use1
        focus (exact fun w14 h14 => zssame_any l l a a ca ca w14 (hS.st (st.at h14 (fun x hx => by simp at hx <;> omega))) (hS.st (st.at h14 (fun x hx => by simp at hx <;> omega))))
        intro w14 v14 h14 hB14
        have st := st.next h14 (fun x hx => by simp at hx <;> omega) hB14
        refine Branch.mk (fun z1 => ?_) (fun z1 => ?_)
        · refine Branch.no (by rw [law.own (of_decide_eq_true z1)]; rfl) ?_
          refine Branch.mk (fun z2 => ?_) (fun z2 => ?_)
          · exact EndI.mk fun w9 h9 => rfl
          have e1 : (Zs.or l m).2 = 0 := by simpa using z2
          refine Branch.mk (fun z3 => ?_) (fun z3 => ?_)
          · exact EndI.mk fun w9 h9 => rfl
          have e2 : (Zs.and l m).2 = 0 := by simpa using z3
          have l1 := law.one e1
          have l2 := law.two e2
          have l3 := law.three e1 e2
          apply CallI.use1
          focus (exact fun w15 h15 => zsin_any l (Zs.or l m).1 a a4 ca c4 w15 (hS.st (st.at h15 (fun x hx => by simp at hx <;> omega))) ((hO4.st (st.at h15 (fun x hx => by simp at hx <;> omega))).sl))
          intro w15 v15 h15 hB15
          have st := st.next h15 (fun x hx => by simp at hx <;> omega) hB15
          apply CallI.use1
          focus (exact fun w16 h16 => zsin_any (Zs.and l m).1 m a6 b c6 cb w16 ((hO6.st (st.at h16 (fun x hx => by simp at hx <;> omega))).sl) (hT.st (st.at h16 (fun x hx => by simp at hx <;> omega))))
          intro w16 v16 h16 hB16
          have st := st.next h16 (fun x hx => by simp at hx <;> omega) hB16
          apply CallI.use1
          focus (exact fun w17 h17 => zsin_any (Zs.and l m).1 (Zs.or l m).1 a6 a4 c6 c4 w17 ((hO6.st (st.at h17 (fun x hx => by simp at hx <;> omega))).sl) ((hO4.st (st.at h17 (fun x hx => by simp at hx <;> omega))).sl))
          intro w17 v17 h17 hB17
          have st := st.next h17 (fun x hx => by simp at hx <;> omega) hB17
          generalize Cv.all_ l (Zs.or l m).1 = X1 at *
          generalize Cv.all_ (Zs.and l m).1 m = X2 at *
          generalize Cv.all_ (Zs.and l m).1 (Zs.or l m).1 = X3 at *
          obtain ⟨x1, f1⟩ := X1
          obtain ⟨x2, f2⟩ := X2
          obtain ⟨x3, f3⟩ := X3
          simp only at l1 l2 l3
          by_cases y1 : f1 = 0
          · refine Branch.no (by simp [y1]) ?_
            simp only
            rw [l1 y1]
            refine Branch.yes rfl ?_
            by_cases y2 : f2 = 0
            · refine Branch.no (by simp [y2]) ?_
              simp only
              rw [l2 y2]
              refine Branch.yes rfl ?_
              by_cases y3 : f3 = 0
              · refine Branch.no (by simp [y3]) ?_
                simp only
                rw [l3 y3]
                exact EndI.mk fun w9 h9 => rfl
              · refine Branch.yes (by simp [y3]) ?_
                exact EndI.mk fun w9 h9 => rfl
            · refine Branch.yes (by simp [y2]) ?_
              by_cases y3 : f3 = 0
              · refine Branch.no (by simp [y3]) ?_
                simp only
                rw [l3 y3]
                exact EndI.mk fun w9 h9 => rfl
              · refine Branch.yes (by simp [y3]) ?_
                exact EndI.mk fun w9 h9 => rfl
          · refine Branch.yes (by simp [y1]) ?_
            by_cases y2 : f2 = 0
            · refine Branch.no (by simp [y2]) ?_
              simp only
              rw [l2 y2]
              refine Branch.yes rfl ?_
              by_cases y3 : f3 = 0
              · refine Branch.no (by simp [y3]) ?_
                simp only
                rw [l3 y3]
                exact EndI.mk fun w9 h9 => rfl
              · refine Branch.yes (by simp [y3]) ?_
                exact EndI.mk fun w9 h9 => rfl
            · refine Branch.yes (by simp [y2]) ?_
              by_cases y3 : f3 = 0
              · refine Branch.no (by simp [y3]) ?_
                simp only
                rw [l3 y3]
                exact EndI.mk fun w9 h9 => rfl
              · refine Branch.yes (by simp [y3]) ?_
                exact EndI.mk fun w9 h9 => rfl
        · skip
          refine Branch.mk (fun z2 => ?_) (fun z2 => ?_)
          · exact EndI.mk fun w9 h9 => rfl
          have e1 : (Zs.or l m).2 = 0 := by simpa using z2
          refine Branch.mk (fun z3 => ?_) (fun z3 => ?_)
          · exact EndI.mk fun w9 h9 => rfl
          have e2 : (Zs.and l m).2 = 0 := by simpa using z3
          have l1 := law.one e1
          have l2 := law.two e2
          have l3 := law.three e1 e2
          apply CallI.use1
          focus (exact fun w15 h15 => zsin_any l (Zs.or l m).1 a a4 ca c4 w15 (hS.st (st.at h15 (fun x hx => by simp at hx <;> omega))) ((hO4.st (st.at h15 (fun x hx => by simp at hx <;> omega))).sl))
          intro w15 v15 h15 hB15
          have st := st.next h15 (fun x hx => by simp at hx <;> omega) hB15
          apply CallI.use1
          focus (exact fun w16 h16 => zsin_any (Zs.and l m).1 m a6 b c6 cb w16 ((hO6.st (st.at h16 (fun x hx => by simp at hx <;> omega))).sl) (hT.st (st.at h16 (fun x hx => by simp at hx <;> omega))))
          intro w16 v16 h16 hB16
          have st := st.next h16 (fun x hx => by simp at hx <;> omega) hB16
          apply CallI.use1
          focus (exact fun w17 h17 => zsin_any (Zs.and l m).1 (Zs.or l m).1 a6 a4 c6 c4 w17 ((hO6.st (st.at h17 (fun x hx => by simp at hx <;> omega))).sl) ((hO4.st (st.at h17 (fun x hx => by simp at hx <;> omega))).sl))
          intro w17 v17 h17 hB17
          have st := st.next h17 (fun x hx => by simp at hx <;> omega) hB17
          generalize Cv.all_ l (Zs.or l m).1 = X1 at *
          generalize Cv.all_ (Zs.and l m).1 m = X2 at *
          generalize Cv.all_ (Zs.and l m).1 (Zs.or l m).1 = X3 at *
          obtain ⟨x1, f1⟩ := X1
          obtain ⟨x2, f2⟩ := X2
          obtain ⟨x3, f3⟩ := X3
          simp only at l1 l2 l3
          by_cases y1 : f1 = 0
          · refine Branch.no (by simp [y1]) ?_
            simp only
            rw [l1 y1]
            refine Branch.yes rfl ?_
            by_cases y2 : f2 = 0
            · refine Branch.no (by simp [y2]) ?_
              simp only
              rw [l2 y2]
              refine Branch.yes rfl ?_
              by_cases y3 : f3 = 0
              · refine Branch.no (by simp [y3]) ?_
                simp only
                rw [l3 y3]
                exact EndI.mk fun w9 h9 => rfl
              · refine Branch.yes (by simp [y3]) ?_
                exact EndI.mk fun w9 h9 => rfl
            · refine Branch.yes (by simp [y2]) ?_
              by_cases y3 : f3 = 0
              · refine Branch.no (by simp [y3]) ?_
                simp only
                rw [l3 y3]
                exact EndI.mk fun w9 h9 => rfl
              · refine Branch.yes (by simp [y3]) ?_
                exact EndI.mk fun w9 h9 => rfl
          · refine Branch.yes (by simp [y1]) ?_
            by_cases y2 : f2 = 0
            · refine Branch.no (by simp [y2]) ?_
              simp only
              rw [l2 y2]
              refine Branch.yes rfl ?_
              by_cases y3 : f3 = 0
              · refine Branch.no (by simp [y3]) ?_
                simp only
                rw [l3 y3]
                exact EndI.mk fun w9 h9 => rfl
              · refine Branch.yes (by simp [y3]) ?_
                exact EndI.mk fun w9 h9 => rfl
            · refine Branch.yes (by simp [y2]) ?_
              by_cases y3 : f3 = 0
              · refine Branch.no (by simp [y3]) ?_
                simp only
                rw [l3 y3]
                exact EndI.mk fun w9 h9 => rfl
              · refine Branch.yes (by simp [y3]) ?_
                exact EndI.mk fun w9 h9 => rfl
    · skip
      apply CallI.use1
      focus (exact fun w14 h14 => zssame_any l l a a ca ca w14 (hS.st (st.at h14 (fun x hx => by simp at hx <;> omega))) (hS.st (st.at h14 (fun x hx => by simp at hx <;> omega))))
      intro w14 v14 h14 hB14
      have st := st.next h14 (fun x hx => by simp at hx <;> omega) hB14
      refine Branch.mk (fun z1 => ?_) (fun z1 => ?_)
      · refine Branch.no (by rw [law.own (of_decide_eq_true z1)]; rfl) ?_
        refine Branch.mk (fun z2 => ?_) (fun z2 => ?_)
        · exact EndI.mk fun w9 h9 => rfl
        have e1 : (Zs.or l m).2 = 0 := by simpa using z2
        refine Branch.mk (fun z3 => ?_) (fun z3 => ?_)
        · exact EndI.mk fun w9 h9 => rfl
        have e2 : (Zs.and l m).2 = 0 := by simpa using z3
        have l1 := law.one e1
        have l2 := law.two e2
        have l3 := law.three e1 e2
        apply CallI.use1
        focus (exact fun w15 h15 => zsin_any l (Zs.or l m).1 a a4 ca c4 w15 (hS.st (st.at h15 (fun x hx => by simp at hx <;> omega))) ((hO4.st (st.at h15 (fun x hx => by simp at hx <;> omega))).sl))
        intro w15 v15 h15 hB15
        have st := st.next h15 (fun x hx => by simp at hx <;> omega) hB15
        apply CallI.use1
        focus (exact fun w16 h16 => zsin_any (Zs.and l m).1 m a6 b c6 cb w16 ((hO6.st (st.at h16 (fun x hx => by simp at hx <;> omega))).sl) (hT.st (st.at h16 (fun x hx => by simp at hx <;> omega))))
        intro w16 v16 h16 hB16
        have st := st.next h16 (fun x hx => by simp at hx <;> omega) hB16
        apply CallI.use1
        focus (exact fun w17 h17 => zsin_any (Zs.and l m).1 (Zs.or l m).1 a6 a4 c6 c4 w17 ((hO6.st (st.at h17 (fun x hx => by simp at hx <;> omega))).sl) ((hO4.st (st.at h17 (fun x hx => by simp at hx <;> omega))).sl))
        intro w17 v17 h17 hB17
        have st := st.next h17 (fun x hx => by simp at hx <;> omega) hB17
        generalize Cv.all_ l (Zs.or l m).1 = X1 at *
        generalize Cv.all_ (Zs.and l m).1 m = X2 at *
        generalize Cv.all_ (Zs.and l m).1 (Zs.or l m).1 = X3 at *
        obtain ⟨x1, f1⟩ := X1
        obtain ⟨x2, f2⟩ := X2
        obtain ⟨x3, f3⟩ := X3
        simp only at l1 l2 l3
        by_cases y1 : f1 = 0
        · refine Branch.no (by simp [y1]) ?_
          simp only
          rw [l1 y1]
          refine Branch.yes rfl ?_
          by_cases y2 : f2 = 0
          · refine Branch.no (by simp [y2]) ?_
            simp only
            rw [l2 y2]
            refine Branch.yes rfl ?_
            by_cases y3 : f3 = 0
            · refine Branch.no (by simp [y3]) ?_
              simp only
              rw [l3 y3]
              exact EndI.mk fun w9 h9 => rfl
            · refine Branch.yes (by simp [y3]) ?_
              exact EndI.mk fun w9 h9 => rfl
          · refine Branch.yes (by simp [y2]) ?_
            by_cases y3 : f3 = 0
            · refine Branch.no (by simp [y3]) ?_
              simp only
              rw [l3 y3]
              exact EndI.mk fun w9 h9 => rfl
            · refine Branch.yes (by simp [y3]) ?_
              exact EndI.mk fun w9 h9 => rfl
        · refine Branch.yes (by simp [y1]) ?_
          by_cases y2 : f2 = 0
          · refine Branch.no (by simp [y2]) ?_
            simp only
            rw [l2 y2]
            refine Branch.yes rfl ?_
            by_cases y3 : f3 = 0
            · refine Branch.no (by simp [y3]) ?_
              simp only
              rw [l3 y3]
              exact EndI.mk fun w9 h9 => rfl
            · refine Branch.yes (by simp [y3]) ?_
              exact EndI.mk fun w9 h9 => rfl
          · refine Branch.yes (by simp [y2]) ?_
            by_cases y3 : f3 = 0
            · refine Branch.no (by simp [y3]) ?_
              simp only
              rw [l3 y3]
              exact EndI.mk fun w9 h9 => rfl
            · refine Branch.yes (by simp [y3]) ?_
              exact EndI.mk fun w9 h9 => rfl
      · skip
        refine Branch.mk (fun z2 => ?_) (fun z2 => ?_)
        · exact EndI.mk fun w9 h9 => rfl
        have e1 : (Zs.or l m).2 = 0 := by simpa using z2
        refine Branch.mk (fun z3 => ?_) (fun z3 => ?_)
        · exact EndI.mk fun w9 h9 => rfl
        have e2 : (Zs.and l m).2 = 0 := by simpa using z3
        have l1 := law.one e1
        have l2 := law.two e2
        have l3 := law.three e1 e2
        apply CallI.use1
        focus (exact fun w15 h15 => zsin_any l (Zs.or l m).1 a a4 ca c4 w15 (hS.st (st.at h15 (fun x hx => by simp at hx <;> omega))) ((hO4.st (st.at h15 (fun x hx => by simp at hx <;> omega))).sl))
        intro w15 v15 h15 hB15
        have st := st.next h15 (fun x hx => by simp at hx <;> omega) hB15
        apply CallI.use1
        focus (exact fun w16 h16 => zsin_any (Zs.and l m).1 m a6 b c6 cb w16 ((hO6.st (st.at h16 (fun x hx => by simp at hx <;> omega))).sl) (hT.st (st.at h16 (fun x hx => by simp at hx <;> omega))))
        intro w16 v16 h16 hB16
        have st := st.next h16 (fun x hx => by simp at hx <;> omega) hB16
        apply CallI.use1
        focus (exact fun w17 h17 => zsin_any (Zs.and l m).1 (Zs.or l m).1 a6 a4 c6 c4 w17 ((hO6.st (st.at h17 (fun x hx => by simp at hx <;> omega))).sl) ((hO4.st (st.at h17 (fun x hx => by simp at hx <;> omega))).sl))
        intro w17 v17 h17 hB17
        have st := st.next h17 (fun x hx => by simp at hx <;> omega) hB17
        generalize Cv.all_ l (Zs.or l m).1 = X1 at *
        generalize Cv.all_ (Zs.and l m).1 m = X2 at *
        generalize Cv.all_ (Zs.and l m).1 (Zs.or l m).1 = X3 at *
        obtain ⟨x1, f1⟩ := X1
        obtain ⟨x2, f2⟩ := X2
        obtain ⟨x3, f3⟩ := X3
        simp only at l1 l2 l3
        by_cases y1 : f1 = 0
        · refine Branch.no (by simp [y1]) ?_
          simp only
          rw [l1 y1]
          refine Branch.yes rfl ?_
          by_cases y2 : f2 = 0
          · refine Branch.no (by simp [y2]) ?_
            simp only
            rw [l2 y2]
            refine Branch.yes rfl ?_
            by_cases y3 : f3 = 0
            · refine Branch.no (by simp [y3]) ?_
              simp only
              rw [l3 y3]
              exact EndI.mk fun w9 h9 => rfl
            · refine Branch.yes (by simp [y3]) ?_
              exact EndI.mk fun w9 h9 => rfl
          · refine Branch.yes (by simp [y2]) ?_
            by_cases y3 : f3 = 0
            · refine Branch.no (by simp [y3]) ?_
              simp only
              rw [l3 y3]
              exact EndI.mk fun w9 h9 => rfl
            · refine Branch.yes (by simp [y3]) ?_
              exact EndI.mk fun w9 h9 => rfl
        · refine Branch.yes (by simp [y1]) ?_
          by_cases y2 : f2 = 0
          · refine Branch.no (by simp [y2]) ?_
            simp only
            rw [l2 y2]
            refine Branch.yes rfl ?_
            by_cases y3 : f3 = 0
            · refine Branch.no (by simp [y3]) ?_
              simp only
              rw [l3 y3]
              exact EndI.mk fun w9 h9 => rfl
            · refine Branch.yes (by simp [y3]) ?_
              exact EndI.mk fun w9 h9 => rfl
          · refine Branch.yes (by simp [y2]) ?_
            by_cases y3 : f3 = 0
            · refine Branch.no (by simp [y3]) ?_
              simp only
              rw [l3 y3]
              exact EndI.mk fun w9 h9 => rfl
            · refine Branch.yes (by simp [y3]) ?_
              exact EndI.mk fun w9 h9 => rfl
  · skip
    apply CallI.use1
    focus (exact fun w14 h14 => zssame_any l l a a ca ca w14 (hS.st (st.at h14 (fun x hx => by simp at hx <;> omega))) (hS.st (st.at h14 (fun x hx => by simp at hx <;> omega))))
    intro w14 v14 h14 hB14
    have st := st.next h14 (fun x hx => by simp at hx <;> omega) hB14
    refine Branch.mk (fun z1 => ?_) (fun z1 => ?_)
    · refine Branch.no (by rw [law.own (of_decide_eq_true z1)]; rfl) ?_
      refine Branch.mk (fun z2 => ?_) (fun z2 => ?_)
      · exact EndI.mk fun w9 h9 => rfl
      have e1 : (Zs.or l m).2 = 0 := by simpa using z2
      refine Branch.mk (fun z3 => ?_) (fun z3 => ?_)
      · exact EndI.mk fun w9 h9 => rfl
      have e2 : (Zs.and l m).2 = 0 := by simpa using z3
      have l1 := law.one e1
      have l2 := law.two e2
      have l3 := law.three e1 e2
      apply CallI.use1
      focus (exact fun w15 h15 => zsin_any l (Zs.or l m).1 a a4 ca c4 w15 (hS.st (st.at h15 (fun x hx => by simp at hx <;> omega))) ((hO4.st (st.at h15 (fun x hx => by simp at hx <;> omega))).sl))
      intro w15 v15 h15 hB15
      have st := st.next h15 (fun x hx => by simp at hx <;> omega) hB15
      apply CallI.use1
      focus (exact fun w16 h16 => zsin_any (Zs.and l m).1 m a6 b c6 cb w16 ((hO6.st (st.at h16 (fun x hx => by simp at hx <;> omega))).sl) (hT.st (st.at h16 (fun x hx => by simp at hx <;> omega))))
      intro w16 v16 h16 hB16
      have st := st.next h16 (fun x hx => by simp at hx <;> omega) hB16
      apply CallI.use1
      focus (exact fun w17 h17 => zsin_any (Zs.and l m).1 (Zs.or l m).1 a6 a4 c6 c4 w17 ((hO6.st (st.at h17 (fun x hx => by simp at hx <;> omega))).sl) ((hO4.st (st.at h17 (fun x hx => by simp at hx <;> omega))).sl))
      intro w17 v17 h17 hB17
      have st := st.next h17 (fun x hx => by simp at hx <;> omega) hB17
      generalize Cv.all_ l (Zs.or l m).1 = X1 at *
      generalize Cv.all_ (Zs.and l m).1 m = X2 at *
      generalize Cv.all_ (Zs.and l m).1 (Zs.or l m).1 = X3 at *
      obtain ⟨x1, f1⟩ := X1
      obtain ⟨x2, f2⟩ := X2
      obtain ⟨x3, f3⟩ := X3
      simp only at l1 l2 l3
      by_cases y1 : f1 = 0
      · refine Branch.no (by simp [y1]) ?_
        simp only
        rw [l1 y1]
        refine Branch.yes rfl ?_
        by_cases y2 : f2 = 0
        · refine Branch.no (by simp [y2]) ?_
          simp only
          rw [l2 y2]
          refine Branch.yes rfl ?_
          by_cases y3 : f3 = 0
          · refine Branch.no (by simp [y3]) ?_
            simp only
            rw [l3 y3]
            exact EndI.mk fun w9 h9 => rfl
          · refine Branch.yes (by simp [y3]) ?_
            exact EndI.mk fun w9 h9 => rfl
        · refine Branch.yes (by simp [y2]) ?_
          by_cases y3 : f3 = 0
          · refine Branch.no (by simp [y3]) ?_
            simp only
            rw [l3 y3]
            exact EndI.mk fun w9 h9 => rfl
          · refine Branch.yes (by simp [y3]) ?_
            exact EndI.mk fun w9 h9 => rfl
      · refine Branch.yes (by simp [y1]) ?_
        by_cases y2 : f2 = 0
        · refine Branch.no (by simp [y2]) ?_
          simp only
          rw [l2 y2]
          refine Branch.yes rfl ?_
          by_cases y3 : f3 = 0
          · refine Branch.no (by simp [y3]) ?_
            simp only
            rw [l3 y3]
            exact EndI.mk fun w9 h9 => rfl
          · refine Branch.yes (by simp [y3]) ?_
            exact EndI.mk fun w9 h9 => rfl
        · refine Branch.yes (by simp [y2]) ?_
          by_cases y3 : f3 = 0
          · refine Branch.no (by simp [y3]) ?_
            simp only
            rw [l3 y3]
            exact EndI.mk fun w9 h9 => rfl
          · refine Branch.yes (by simp [y3]) ?_
            exact EndI.mk fun w9 h9 => rfl
    · skip
      refine Branch.mk (fun z2 => ?_) (fun z2 => ?_)
      · exact EndI.mk fun w9 h9 => rfl
      have e1 : (Zs.or l m).2 = 0 := by simpa using z2
      refine Branch.mk (fun z3 => ?_) (fun z3 => ?_)
      · exact EndI.mk fun w9 h9 => rfl
      have e2 : (Zs.and l m).2 = 0 := by simpa using z3
      have l1 := law.one e1
      have l2 := law.two e2
      have l3 := law.three e1 e2
      apply CallI.use1
      focus (exact fun w15 h15 => zsin_any l (Zs.or l m).1 a a4 ca c4 w15 (hS.st (st.at h15 (fun x hx => by simp at hx <;> omega))) ((hO4.st (st.at h15 (fun x hx => by simp at hx <;> omega))).sl))
      intro w15 v15 h15 hB15
      have st := st.next h15 (fun x hx => by simp at hx <;> omega) hB15
      apply CallI.use1
      focus (exact fun w16 h16 => zsin_any (Zs.and l m).1 m a6 b c6 cb w16 ((hO6.st (st.at h16 (fun x hx => by simp at hx <;> omega))).sl) (hT.st (st.at h16 (fun x hx => by simp at hx <;> omega))))
      intro w16 v16 h16 hB16
      have st := st.next h16 (fun x hx => by simp at hx <;> omega) hB16
      apply CallI.use1
      focus (exact fun w17 h17 => zsin_any (Zs.and l m).1 (Zs.or l m).1 a6 a4 c6 c4 w17 ((hO6.st (st.at h17 (fun x hx => by simp at hx <;> omega))).sl) ((hO4.st (st.at h17 (fun x hx => by simp at hx <;> omega))).sl))
      intro w17 v17 h17 hB17
      have st := st.next h17 (fun x hx => by simp at hx <;> omega) hB17
      generalize Cv.all_ l (Zs.or l m).1 = X1 at *
      generalize Cv.all_ (Zs.and l m).1 m = X2 at *
      generalize Cv.all_ (Zs.and l m).1 (Zs.or l m).1 = X3 at *
      obtain ⟨x1, f1⟩ := X1
      obtain ⟨x2, f2⟩ := X2
      obtain ⟨x3, f3⟩ := X3
      simp only at l1 l2 l3
      by_cases y1 : f1 = 0
      · refine Branch.no (by simp [y1]) ?_
        simp only
        rw [l1 y1]
        refine Branch.yes rfl ?_
        by_cases y2 : f2 = 0
        · refine Branch.no (by simp [y2]) ?_
          simp only
          rw [l2 y2]
          refine Branch.yes rfl ?_
          by_cases y3 : f3 = 0
          · refine Branch.no (by simp [y3]) ?_
            simp only
            rw [l3 y3]
            exact EndI.mk fun w9 h9 => rfl
          · refine Branch.yes (by simp [y3]) ?_
            exact EndI.mk fun w9 h9 => rfl
        · refine Branch.yes (by simp [y2]) ?_
          by_cases y3 : f3 = 0
          · refine Branch.no (by simp [y3]) ?_
            simp only
            rw [l3 y3]
            exact EndI.mk fun w9 h9 => rfl
          · refine Branch.yes (by simp [y3]) ?_
            exact EndI.mk fun w9 h9 => rfl
      · refine Branch.yes (by simp [y1]) ?_
        by_cases y2 : f2 = 0
        · refine Branch.no (by simp [y2]) ?_
          simp only
          rw [l2 y2]
          refine Branch.yes rfl ?_
          by_cases y3 : f3 = 0
          · refine Branch.no (by simp [y3]) ?_
            simp only
            rw [l3 y3]
            exact EndI.mk fun w9 h9 => rfl
          · refine Branch.yes (by simp [y3]) ?_
            exact EndI.mk fun w9 h9 => rfl
        · refine Branch.yes (by simp [y2]) ?_
          by_cases y3 : f3 = 0
          · refine Branch.no (by simp [y3]) ?_
            simp only
            rw [l3 y3]
            exact EndI.mk fun w9 h9 => rfl
          · refine Branch.yes (by simp [y3]) ?_
            exact EndI.mk fun w9 h9 => rfl
end Go.Proofs.YtgjeeghhhfpkoaaGreat

/-
  rallentando/rallentandolaw13.ZsetOrder: the law.
-/
namespace Go.Proofs.YtgjeeghhhfpkoaaGreat
set_option linter.unusedVariables false
open Go.ChangeShapes Go.WideShapes Go.ChangeAt Go.RowKit Go.Deep

set_option maxRecDepth 100000 in
theorem zsetOrder_lifted (os : Os) (started : os.Started) (H : Type) (enc : TypeId × Value → H) :
    ReturnsInHanded {} Tryz.checked os 6 .any (Rows.zsetOrderSpec.pre6 enc Tryz.prog Tryz.f6 Rows.zsetOrderRow.domain false) (Rows.zsetOrderSpec.post enc Tryz.prog Tryz.f6 false true false false) := by
  refine returnsInHanded_of_change (C := Tryz.checked) own started (by kernel_rfl) Tryz.func6
    (ChangeSpec.witness6 (enc := enc) (C := Tryz.checked) false ⟨#[], #[.slice none 0 0, .slice none 0 0], []⟩ 8 (by kernel_rfl) (by kernel_rfl) (by kernel_rfl) (by kernel_rfl)) ?_
  intro W base args ds gs before hval0 hW _ _
  have hval : ∀ (j : Nat) t v, Tryz.f6.params[j]? = some t → args[j]? = some v → Value.okWide Tryz.prog W .any base t v := hval0
  have hW' := hW
  obtain ⟨p, q, hA0, hV, rfl, hfz, hnd⟩ := hW
  have hA : DataW.TrodAll enc Tryz.prog W 0 (fun _ => true) true Tryz.f6.params.toList args.toList ds p := hA0
  rw [Tryz.params6] at hA hval
  obtain ⟨v0, vs0, d0, ds0, p0_, q0_, hargs, rfl, rfl, h0, r0⟩ := trodAll_cons hA
  obtain ⟨v1, vs1, d1, ds1, p1_, q1_, rfl, rfl, rfl, h1, r1⟩ := trodAll_cons r0
  obtain ⟨rfl, rfl, rfl⟩ := trodAll_nil r1
  obtain rfl : args = #[v0, v1] := by cases args; simp_all
  obtain ⟨rfl, rfl⟩ := trodVars_none hV
  obtain ⟨x0, L0, c0, rfl, S0, G0⟩ := open_lst Tryz.underlying45 (opens_zn Tryz.underlying39 (by kernel_rfl) Tryz.underlying37 (by kernel_rfl)) (hval 0 45 v0 rfl rfl) h0
  obtain ⟨x1, L1, c1, rfl, S1, G1⟩ := open_lst Tryz.underlying45 (opens_zn Tryz.underlying39 (by kernel_rfl) Tryz.underlying37 (by kernel_rfl)) (hval 1 45 v1 rfl rfl) h1
  clear hA0 hval0
  exact (zsetOrder_walk L0 L1 x0 x1 c0 c1 W S0 S1).mono fun e W' ⟨he, hg⟩ => ⟨_, he, law_post laidOut (by kernel_rfl) rfl rfl Tryz.underlying4 hW' rfl hg⟩

set_option maxRecDepth 100000 in
theorem zsetOrder_k1 : (Rows.zsetOrderRow.inPlace == Tryz.pinned.checked.prog.inPlace 6) = true := by kernel_rfl
set_option maxRecDepth 100000 in
theorem zsetOrder_k2 : (Rows.zsetOrderRow.unfollowed == Tryz.pinned.checked.prog.unfollowed 6) = true := by kernel_rfl
set_option maxRecDepth 100000 in
theorem zsetOrder_k3 : (Rows.zsetOrderRow.recurses == Tryz.pinned.checked.prog.recurses 6) = true := by kernel_rfl
set_option maxRecDepth 100000 in
theorem zsetOrder_k4 : (Rows.zsetOrderRow.named == Tryz.pinned.checked.prog.varsNamed 6) = true := by kernel_rfl
set_option maxRecDepth 100000 in
theorem zsetOrder_closed : joinedFacts Tryz.pinned.checked.prog 6 Tryz.f6 Rows.zsetOrderSpec Rows.zsetOrderRow = true := by
  unfold joinedFacts
  rw [zsetOrder_k1, zsetOrder_k2, zsetOrder_k3, zsetOrder_k4]
  kernel_rfl
set_option maxRecDepth 100000 in
theorem zsetOrder_over : Rows.zsetOrderRow.holds Tryz.pinned (OpenSpec.ofChange Rows.zsetOrderSpec) :=
  OpenClaim.holds_of_wide 6 Tryz.f6 rfl rfl rfl rfl rfl rfl rfl ⟨rfl, rfl, rfl, rfl, rfl⟩ rfl rfl rfl rfl rfl (by kernel_rfl) Tryz.func6 zsetOrder_closed
    (of_decide_eq_true (by kernel_rfl)) (by unfold Func.isWrapper; first | (rw [if_pos (by decide +kernel)]; kernel_rfl) | (rw [if_neg (by decide +kernel)]; exact ⟨rfl, rfl⟩))
    (fun os started H enc _ => zsetOrder_lifted os started H enc)

theorem zsetOrder.proved : Rows.ZsetOrderSaid := zsetOrder_over
#print axioms zsetOrder.proved
end Go.Proofs.YtgjeeghhhfpkoaaGreat

