/-
  rallentando/rallentandolaw25.CloseLeast: the law.
-/
import Derived.Test.YtjbhpfmnfdebkaaGreatLCloseLeast7
import Derived.Test.YtjbhpfmnfdebkaaGreatLCloseLeast3
/-
  The walk of rallentandolaw25.CloseLeast, by the engine.
-/
namespace Go.Proofs.YtjbhpfmnfdebkaaGreat
set_option linter.unusedVariables false
set_option linter.unusedSimpArgs false
set_option maxRecDepth 100000
open Go.RowKit Go.Proofs.YtjbhpfmnfdebkaaGreat.Eng Enc

theorem Sl.idxE {α : Type} [Enc α] {n : Nat} {W : World} {a : Option Addr} {m cap : Nat} {l : List α} (h : Sl n W (.slice a m cap) l) {k : Nat} {x : α} (hk : l[k]? = some x) {i : Int} (hi : i = (k : Int)) {K : Addr → Prop} (hK : ∀ ad, a = some ad → K ad) : IdxI a i (m : Int) K := by
  subst hi; exact h.idx hk hK
theorem Sl.ldvE {α : Type} [Enc α] {n : Nat} {W w : World} {L : List Nat} {a : Option Addr} {ad : Addr} {m cap : Nat} {l : List α} (h : Sl n W (.slice a m cap) l) {k : Nat} {x : α} (hk : l[k]? = some x) {i : Int} (hi : i = (k : Int)) {v : Value} (hv : enc x = [v]) (had : a = some ad) (hB : Below n W w) (hL : ∀ b, b ∈ L → n ≤ b) {K : Value → Prop} (hK : K v) :
    LoadI w L (ad.add (i.toNat * 1)) K := by
  subst hi; exact h.ldv hk hv had hB hL hK
namespace Cl
theorem in_yes {long : Int} (hl : 1 ≤ long ∧ long ≤ 6) {a b : List Zn} (ha : Good long a) (hb : Good long b) (h : ∀ t, Zs.Pts a t → Zs.Pts b t) : Cv.all_ a b = (true, 0) := Prod.ext ((in_good hl ha hb).2.2 h) (in_good hl ha hb).1
theorem in_no {long : Int} (hl : 1 ≤ long ∧ long ≤ 6) {a b : List Zn} (ha : Good long a) (hb : Good long b) (h : ∃ t, Zs.Pts a t ∧ ¬ Zs.Pts b t) : Cv.all_ a b = (false, 0) := Prod.ext (Bool.eq_false_iff.2 fun k => by
  obtain ⟨t, h1, h2⟩ := h
  exact h2 ((in_good hl ha hb).2.1 k t h1)) (in_good hl ha hb).1
/-- the row that shows the k-th list. -/
theorem Rows.get {n₁ : Nat} {W : World} {ss : List Svl} {ls : List (List Zn)} (h : Rows n₁ W ss ls) (he : ss.length = ls.length) {k : Nat} {l : List Zn} (hk : ls[k]? = some l) : ∃ a c, ss[k]? = some ⟨a, l.length, c⟩ ∧ Own TZ n₁ W (.slice a l.length c) l := by
  have h1 := (List.getElem?_eq_some_iff.1 hk).1
  have h2 := List.getElem?_eq_getElem (l := ss) (i := k) (by omega)
  generalize ss[k]'(by omega) = s at h2
  have h3 := h k s l h2 hk
  obtain ⟨a, c, e⟩ := id h3.form
  injection e with e1 e2 e3
  obtain ⟨sa, sl, sc⟩ := s
  simp only at e1 e2 e3 h3
  subst e2
  exact ⟨sa, sc, h2, h3⟩
end Cl
set_option maxHeartbeats 8000000 in
open Cl in
theorem closeLeast_walk (old p : List Zn) (io : ∀ z, z ∈ old → Zo.i64 z) (ip : ∀ z, z ∈ p → Zo.i64 z) (cz cr : Int) (a b : Option Addr) (ca cb : Nat) (w : World) (hS : Sl w.heap.size w (.slice a old.length ca) old) (hT : Sl w.heap.size w (.slice b p.length cb) p) :
    Calls Tryz.prog 11 #[.slice a old.length ca, .slice b p.length cb, .agg #[.int .i64 cz, .int .i64 cr]] w fun e w' => e = .returned (.bool true) ∧ Below w.heap.size w w' := by
  refine fun_eq 0 w Tryz.func11 (args := [.val (.slice a old.length ca), .val (.slice b p.length cb), .agg [.val (.int .i64 cz), .val (.int .i64 cr)]]) rfl rfl ?_
  have st := Stay.first (w := w)
  refine NewI.mk fun b1 hb1 => ?_
  apply CallI.use1
  focus (exact fun w1 h1 => alive25_any w1)
  intro w1 v1 h1 hB1
  have st := st.next h1 (fun x hx => by simp at hx <;> omega) hB1
  apply CallI.use1
  focus (exact fun w2 h2 => great25_any old p io ip a b ca cb w2 (hS.st (st.at h2 (fun x hx => by simp at hx <;> omega))) (hT.st (st.at h2 (fun x hx => by simp at hx <;> omega))))
  intro w2 v2 h2 hB2
  have st := st.next h2 (fun x hx => by simp at hx <;> omega) hB2
  refine Branch.mk (fun h1 => ?_) (fun h1 => ?_)
  · exact EndI.mk fun w9 h9 => rfl
  have hng : great old p = false := by simpa using h1
  refine Branch.no rfl ?_
  have hc := fun (w : World) hs ht => cclose_any old p cz cr a b ca cb w hs ht
  have hr := fun (w : World) hs ht => crounds_any old p cz cr a b ca cb w hs ht
  rcases close_fin hng with ⟨e, k1, k2, k3⟩ | ⟨l, ls, k1, k2, k3, ho, hp, hf⟩
  · rw [k1] at hc
    rw [k2] at hr
    apply CallI.use
    focus (exact fun w3 h3 => hc w3 (hS.st (st.at h3 (fun x hx => by simp at hx <;> omega))) (hT.st (st.at h3 (fun x hx => by simp at hx <;> omega))))
    rintro v w3 v3 h3 hB3 ⟨a3, c3, rfl, hO3⟩
    have st := st.next h3 (fun x hx => by simp at hx <;> omega) hB3
    apply CallI.use
    focus (exact fun w4 h4 => hr w4 (hS.st (st.at h4 (fun x hx => by simp at hx <;> omega))) (hT.st (st.at h4 (fun x hx => by simp at hx <;> omega))))
    rintro v w4 v4 h4 hB4 ⟨a4, c4, ss, rfl, hsl, hO4, hR4⟩
    have st := st.next h4 (fun x hx => by simp at hx <;> omega) hB4
    refine Branch.yes (by simpa using k3) ?_
    refine Branch.yes rfl ?_
    exact EndI.mk fun w9 h9 => by simp
  have hl := (great_no hng).2.1
  rw [k1] at hc
  rw [k2] at hr
  apply CallI.use
  focus (exact fun w3 h3 => hc w3 (hS.st (st.at h3 (fun x hx => by simp at hx <;> omega))) (hT.st (st.at h3 (fun x hx => by simp at hx <;> omega))))
  rintro v w3 v3 h3 hB3 ⟨a3, c3, rfl, hO3⟩
  have st := st.next h3 (fun x hx => by simp at hx <;> omega) hB3
  apply CallI.use
  focus (exact fun w4 h4 => hr w4 (hS.st (st.at h4 (fun x hx => by simp at hx <;> omega))) (hT.st (st.at h4 (fun x hx => by simp at hx <;> omega))))
  rintro v w4 v4 h4 hB4 ⟨a4, c4, ss, rfl, hsl, hO4, hR4⟩
  have st := st.next h4 (fun x hx => by simp at hx <;> omega) hB4
  simp only at hsl hR4
  refine Branch.no rfl ?_
  refine Branch.no rfl ?_
  obtain ⟨i1, i2⟩ := in_good hl hp hf.gl
  have e1 : Cv.all_ p l = (true, 0) := Prod.ext (i2.2 hf.part) i1
  obtain ⟨x1, x2, x3⟩ := comp_good hl hf.gl hp
  obtain ⟨y1, y2, y3⟩ := comp_good hl ho hp
  obtain ⟨j1, j2⟩ := in_good hl x2 hf.gl
  obtain ⟨j3, j4⟩ := in_good hl y2 hf.gl
  have e2 : Cv.all_ (Zs.comp l p).1 l = (true, 0) := Prod.ext (j2.2 fun t h => hf.shut t ((x3 t).1 h)) j1
  have e3 : Cv.all_ (Zs.comp old p).1 l = (true, 0) := Prod.ext (j4.2 fun t h => hf.old t ((y3 t).1 h)) j3
  have hi1 := fun (w : World) (a3 : Option Addr) (c3 : Nat) hs ht => zsin_any p l b a3 cb c3 w hs ht
  rw [e1] at hi1
  apply CallI.use1
  focus (exact fun w5 h5 => hi1 w5 a3 c3 (hT.st (st.at h5 (fun x hx => by simp at hx <;> omega))) ((hO3.st (st.at h5 (fun x hx => by simp at hx <;> omega))).sl))
  intro w5 v5 h5 hB5
  have st := st.next h5 (fun x hx => by simp at hx <;> omega) hB5
  have hcx := fun (w : World) (a3 : Option Addr) (c3 : Nat) hs ht => zscomp_any l p a3 b c3 cb w hs ht
  rw [x1] at hcx
  have hcy := fun (w : World) hs ht => zscomp_any old p a b ca cb w hs ht
  rw [y1] at hcy
  generalize (Zs.comp l p).1 = X at hcx e2
  generalize (Zs.comp old p).1 = Y at hcy e3
  apply CallI.use
  focus (exact fun w6 h6 => hcx w6 a3 c3 ((hO3.st (st.at h6 (fun x hx => by simp at hx <;> omega))).sl) (hT.st (st.at h6 (fun x hx => by simp at hx <;> omega))))
  rintro v w6 v6 h6 hB6 ⟨a6, c6, rfl, hO6⟩
  have st := st.next h6 (fun x hx => by simp at hx <;> omega) hB6
  apply CallI.use
  focus (exact fun w7 h7 => hcy w7 (hS.st (st.at h7 (fun x hx => by simp at hx <;> omega))) (hT.st (st.at h7 (fun x hx => by simp at hx <;> omega))))
  rintro v w7 v7 h7 hB7 ⟨a7, c7, rfl, hO7⟩
  have st := st.next h7 (fun x hx => by simp at hx <;> omega) hB7
  refine Branch.no rfl ?_
  refine Branch.no rfl ?_
  refine Branch.no rfl ?_
  have hi2 := fun (w : World) (a6 a3 : Option Addr) (c6 c3 : Nat) hs ht => zsin_any X l a6 a3 c6 c3 w hs ht
  rw [e2] at hi2
  have hi3 := fun (w : World) (a6 a3 : Option Addr) (c6 c3 : Nat) hs ht => zsin_any Y l a6 a3 c6 c3 w hs ht
  rw [e3] at hi3
  apply CallI.use1
  focus (exact fun w8 h8 => hi2 w8 a6 a3 c6 c3 ((hO6.st (st.at h8 (fun x hx => by simp at hx <;> omega))).sl) ((hO3.st (st.at h8 (fun x hx => by simp at hx <;> omega))).sl))
  intro w8 v8 h8 hB8
  have st := st.next h8 (fun x hx => by simp at hx <;> omega) hB8
  apply CallI.use1
  focus (exact fun w9 h9 => hi3 w9 a7 a3 c7 c3 ((hO7.st (st.at h9 (fun x hx => by simp at hx <;> omega))).sl) ((hO3.st (st.at h9 (fun x hx => by simp at hx <;> omega))).sl))
  intro w9 v9 h9 hB9
  have st := st.next h9 (fun x hx => by simp at hx <;> omega) hB9
  iterate 5 refine Branch.no rfl ?_
  refine Branch.no (by simp [hsl]) ?_
  have S3 := ((hO3.st st).sl)
  have S4 := ((hO4.st st).sl)
  have R4 : Cl.Rows w4.heap.size v9 ss ls := Cl.Rows.below hR4 (st.get (by simp))
  have hw49 : w4.heap.size ≤ v9.heap.size := by have := (st.get (X := w4) (by simp)).size; exact this
  obtain ⟨_, _, hfe, hcap1, hcap2, _⟩ := id S4.form
  injection hfe with _ _ hfe
  subst hfe
  unfold maxLen at hcap2
  refine LoopI.invC (α := Nat × World) (fun y => [(23, .val (.int .i64 y.1))]) (fun y => y.2) (fun y => 1 ≤ y.1 ∧ y.1 ≤ ls.length + 1 ∧ Below v9.heap.size v9 y.2 ∧ v9.heap.size ≤ y.2.heap.size) (fun y => ls.length + 1 - y.1) ?_ ?_
  · intro w10 h10
    exact ⟨(1, w10), Cov.mk (by repeat' (first | exact trivial | refine And.intro rfl ?_)) rfl rfl rfl rfl rfl, rfl, Nat.le_refl _, by simp, at_belowM h10 (by simp), (at_belowM h10 (by simp)).size⟩
  rintro ⟨m, U⟩ ⟨hm1, hm2, hU, hUs⟩
  simp only at hm1 hm2 hU hUs
  refine Branch.mk (fun z1 => ?_) (fun z1 => ?_)
  · have hlt : m < ls.length := by have := of_decide_eq_true z1; simp only at this; omega
    have hA := List.getElem?_eq_getElem (l := ls) (i := m - 1) (by omega)
    have hB := List.getElem?_eq_getElem (l := ls) (i := m) hlt
    generalize ls[m - 1]'(by omega) = A at hA
    generalize ls[m]'hlt = B at hB
    obtain ⟨sA, cA, gA, oA⟩ := Cl.Rows.get R4 hsl hA
    obtain ⟨sB, cB, gB, oB⟩ := Cl.Rows.get R4 hsl hB
    have em : (m : Int) - 1 = ((m - 1 : Nat) : Int) := by omega
    obtain ⟨up, dn⟩ := hf.step (m - 1) A B hA (by rw [Nat.sub_add_cancel hm1]; exact hB)
    have u1 := in_yes hl (hf.gs A (List.mem_of_getElem? hA)) (hf.gs B (List.mem_of_getElem? hB)) up
    have u2 := in_no hl (hf.gs B (List.mem_of_getElem? hB)) (hf.gs A (List.mem_of_getElem? hA)) dn
    refine DrawI.go (.tk 0 (.tk 1 (.tk 2 (.tk 3 (.tk 4 (.tk 5 (.tk 6 (.tk 7 (.tk 8 (.ev 9 (.tk 10 (.tk 11 (.tk 12 (.tk 13 (.tk 14 .done))))))))))))))) (by kernel_rfl) fun w3 h3 => ?_
    have b3 : Below v9.heap.size v9 w3 := hU.trans ((at_belowM h3 (by simp)).mono hUs)
    have S43 := S4.go b3 b3.size
    refine Need.mk (by simp only [inK]; omega) ?_
    refine S43.idxE gA em fun ad had => ?_
    refine S43.ldvE gA em (v := .slice sA A.length cA) rfl had (Below.refl _ _) (by simp) ?_
    refine S43.idx gB fun ad2 had2 => ?_
    refine S43.ldv gB (v := .slice sB B.length cB) rfl had2 (Below.refl _ _) (by simp) ?_
    have hiu := fun (w : World) hs ht => zsin_any A B sA sB cA cB w hs ht
    rw [u1] at hiu
    apply CallI.use1
    focus (exact fun w5 h5 => hiu w5 (Sl.go ((oA.below b3).sl) (at_belowM h5 (by simp)) (at_belowM h5 (by simp)).size) (Sl.go ((oB.below b3).sl) (at_belowM h5 (by simp)) (at_belowM h5 (by simp)).size))
    intro w5 v5 h5 hB5
    have hs5 := (at_belowM h5 (by simp)).size
    have b5 : Below v9.heap.size v9 v5 := (b3.trans ((at_belowM h5 (by simp)).mono b3.size)).trans (hB5.mono (Nat.le_trans b3.size hs5))
    refine DrawI.go (.tk 0 (.tk 1 (.tk 2 (.tk 3 (.tk 4 (.tk 5 (.tk 6 (.tk 7 (.tk 8 (.ev 9 (.tk 10 (.tk 11 (.tk 12 (.tk 13 (.tk 14 .done))))))))))))))) (by kernel_rfl) fun w6 h6 => ?_
    have b6 : Below v9.heap.size v9 w6 := b5.trans ((at_belowM h6 (by simp)).mono b5.size)
    have S46 := S4.go b6 b6.size
    refine S46.idx gB fun ad3 had3 => ?_
    refine S46.ldv gB (v := .slice sB B.length cB) rfl had3 (Below.refl _ _) (by simp) ?_
    refine Need.mk (by simp only [inK]; omega) ?_
    refine S46.idxE gA em fun ad4 had4 => ?_
    refine S46.ldvE gA em (v := .slice sA A.length cA) rfl had4 (Below.refl _ _) (by simp) ?_
    have hid := fun (w : World) hs ht => zsin_any B A sB sA cB cA w hs ht
    rw [u2] at hid
    apply CallI.use1
    focus (exact fun w7 h7 => hid w7 (Sl.go ((oB.below b6).sl) (at_belowM h7 (by simp)) (at_belowM h7 (by simp)).size) (Sl.go ((oA.below b6).sl) (at_belowM h7 (by simp)) (at_belowM h7 (by simp)).size))
    intro w7 v7 h7 hB7
    have hs7 := (at_belowM h7 (by simp)).size
    have b7 : Below v9.heap.size v9 v7 := (b6.trans ((at_belowM h7 (by simp)).mono b6.size)).trans (hB7.mono (Nat.le_trans b6.size hs7))
    iterate 4 refine Branch.no rfl ?_
    refine Need.mk (by simp only [inK]; omega) (EndI.mk fun w9 h9 => ⟨(m + 1, w9), Cov.mk (by repeat' (first | exact trivial | refine And.intro rfl ?_)) rfl rfl rfl rfl rfl, rfl, ⟨by omega, by omega, b7.trans ((at_belowM h9 (by simp)).mono b7.size), Nat.le_trans b7.size (at_belowM h9 (by simp)).size⟩, by simp only; omega⟩)
  · refine Branch.mk (fun z2 => ?_) (fun z2 => ?_)
    · have h0 : ls = [] := by have := of_decide_eq_true z2; simp only at this; exact List.eq_nil_of_length_eq_zero (by omega)
      have := hf.nil h0
      subst this
      refine Branch.yes rfl ?_
      exact EndI.mk fun w9 h9 => rfl
    have hne : ls ≠ [] := fun h => by subst h; simp at z2
    have hpos : 0 < ls.length := List.length_pos_iff.2 hne
    obtain ⟨sL, cL, gL, oL⟩ := Cl.Rows.get R4 hsl (hf.last hne)
    have el : (ls.length : Int) - 1 = ((ls.length - 1 : Nat) : Int) := by omega
    have u3 := in_yes hl hf.gl hf.gl fun t h => h
    have hiu := fun (w : World) (a1 a2 : Option Addr) (c1 c2 : Nat) hs ht => zsin_any l l a1 a2 c1 c2 w hs ht
    rw [u3] at hiu
    have S4U := S4.go hU hU.size
    refine Need.mk (by simp only [inK]; omega) ?_
    refine S4U.idxE gL el fun ad had => ?_
    refine S4U.ldvE gL el (v := .slice sL l.length cL) rfl had (Below.refl _ _) (by simp) ?_
    apply CallI.use1
    focus (exact fun w5 h5 => hiu w5 a3 sL c3 cL (Sl.go (S3.go hU hU.size) (at_belowM h5 (by simp)) (at_belowM h5 (by simp)).size) (Sl.go ((oL.below hU).sl) (at_belowM h5 (by simp)) (at_belowM h5 (by simp)).size))
    intro w5 v5 h5 hB5
    have hs5 := (at_belowM h5 (by simp)).size
    have b5 : Below v9.heap.size v9 v5 := (hU.trans ((at_belowM h5 (by simp)).mono hU.size)).trans (hB5.mono (Nat.le_trans hU.size hs5))
    have S45 := S4.go b5 b5.size
    refine Need.mk (by simp only [inK]; omega) ?_
    refine S45.idxE gL el fun ad2 had2 => ?_
    refine S45.ldvE gL el (v := .slice sL l.length cL) rfl had2 (Below.refl _ _) (by simp) ?_
    apply CallI.use1
    focus (exact fun w6 h6 => hiu w6 sL a3 cL c3 (Sl.go ((oL.below b5).sl) (at_belowM h6 (by simp)) (at_belowM h6 (by simp)).size) (Sl.go (S3.go b5 b5.size) (at_belowM h6 (by simp)) (at_belowM h6 (by simp)).size))
    intro w6 v6 h6 hB6
    iterate 4 refine Branch.yes rfl ?_
    exact EndI.mk fun w9 h9 => rfl
end Go.Proofs.YtjbhpfmnfdebkaaGreat

/-
  rallentando/rallentandolaw25.CloseLeast: the law.
-/
namespace Go.Proofs.YtjbhpfmnfdebkaaGreat
set_option linter.unusedVariables false
open Go.ChangeShapes Go.WideShapes Go.ChangeAt Go.RowKit Go.Deep

set_option maxRecDepth 100000 in
theorem closeLeast_lifted (os : Os) (started : os.Started) (H : Type) (enc : TypeId × Value → H) :
    ReturnsInHanded {} Tryz.checked os 11 .any (Rows.closeLeastSpec.pre6 enc Tryz.prog Tryz.f11 Rows.closeLeastRow.domain false) (Rows.closeLeastSpec.post enc Tryz.prog Tryz.f11 false true false false) := by
  refine returnsInHanded_of_change (C := Tryz.checked) own started (by kernel_rfl) Tryz.func11
    (ChangeSpec.witness6 (enc := enc) (C := Tryz.checked) false ⟨#[], #[.slice none 0 0, .slice none 0 0, .agg #[.int .i64 0, .int .i64 0]], []⟩ 8 (by kernel_rfl) (by kernel_rfl) (by kernel_rfl) (by kernel_rfl)) ?_
  intro W base args ds gs before hval0 hW _ _
  have hval : ∀ (j : Nat) t v, Tryz.f11.params[j]? = some t → args[j]? = some v → Value.okWide Tryz.prog W .any base t v := hval0
  have hW' := hW
  obtain ⟨p, q, hA0, hV, rfl, hfz, hnd⟩ := hW
  have hA : DataW.TrodAll enc Tryz.prog W 0 (fun _ => true) true Tryz.f11.params.toList args.toList ds p := hA0
  rw [Tryz.params11] at hA hval
  obtain ⟨v0, vs0, d0, ds0, p0_, q0_, hargs, rfl, rfl, h0, r0⟩ := trodAll_cons hA
  obtain ⟨v1, vs1, d1, ds1, p1_, q1_, rfl, rfl, rfl, h1, r1⟩ := trodAll_cons r0
  obtain ⟨v2, vs2, d2, ds2, p2_, q2_, rfl, rfl, rfl, h2, r2⟩ := trodAll_cons r1
  obtain ⟨rfl, rfl, rfl⟩ := trodAll_nil r2
  obtain rfl : args = #[v0, v1, v2] := by cases args; simp_all
  obtain ⟨rfl, rfl⟩ := trodVars_none hV
  obtain ⟨x0, L0, c0, rfl, S0, G0⟩ := open_lst Tryz.underlying22 (opens_zn Tryz.underlying104 (by kernel_rfl) Tryz.underlying102 (by kernel_rfl)) (hval 0 22 v0 rfl rfl) h0
  obtain ⟨x1, L1, c1, rfl, S1, G1⟩ := open_lst Tryz.underlying22 (opens_zn Tryz.underlying104 (by kernel_rfl) Tryz.underlying102 (by kernel_rfl)) (hval 1 22 v1 rfl rfl) h1
  obtain ⟨p2, q2, rfl, wp2, wq2⟩ := open_rt Tryz.underlying70 (by kernel_rfl) rfl rfl (by kernel_rfl) (by kernel_rfl) Tryz.underlying3 Tryz.underlying3 (hval 2 70 v2 rfl rfl) h2
  clear hA0 hval0
  exact (closeLeast_walk L0 L1 (fun z hz => Cl.ins_i64 (G0 z hz)) (fun z hz => Cl.ins_i64 (G1 z hz)) p2 q2 x0 x1 c0 c1 W S0 S1).mono fun e W' ⟨he, hg⟩ => ⟨_, he, law_post laidOut (by kernel_rfl) rfl rfl Tryz.underlying4 hW' rfl hg⟩

set_option maxRecDepth 100000 in
theorem closeLeast_k1 : (Rows.closeLeastRow.inPlace == Tryz.pinned.checked.prog.inPlace 11) = true := by kernel_rfl
set_option maxRecDepth 100000 in
theorem closeLeast_k2 : (Rows.closeLeastRow.unfollowed == Tryz.pinned.checked.prog.unfollowed 11) = true := by kernel_rfl
set_option maxRecDepth 100000 in
theorem closeLeast_k3 : (Rows.closeLeastRow.recurses == Tryz.pinned.checked.prog.recurses 11) = true := by kernel_rfl
set_option maxRecDepth 100000 in
theorem closeLeast_k4 : (Rows.closeLeastRow.named == Tryz.pinned.checked.prog.varsNamed 11) = true := by kernel_rfl
set_option maxRecDepth 100000 in
theorem closeLeast_closed : joinedFacts Tryz.pinned.checked.prog 11 Tryz.f11 Rows.closeLeastSpec Rows.closeLeastRow = true := by
  unfold joinedFacts
  rw [closeLeast_k1, closeLeast_k2, closeLeast_k3, closeLeast_k4]
  kernel_rfl
set_option maxRecDepth 100000 in
theorem closeLeast_over : Rows.closeLeastRow.holds Tryz.pinned (OpenSpec.ofChange Rows.closeLeastSpec) :=
  OpenClaim.holds_of_wide 11 Tryz.f11 rfl rfl rfl rfl rfl rfl rfl ⟨rfl, rfl, rfl, rfl, rfl⟩ rfl rfl rfl rfl rfl (by kernel_rfl) Tryz.func11 closeLeast_closed
    (of_decide_eq_true (by kernel_rfl)) (by unfold Func.isWrapper; first | (rw [if_pos (by decide +kernel)]; kernel_rfl) | (rw [if_neg (by decide +kernel)]; exact ⟨rfl, rfl⟩))
    (fun os started H enc _ => closeLeast_lifted os started H enc)

theorem closeLeast.proved : Rows.CloseLeastSaid := closeLeast_over
#print axioms closeLeast.proved
end Go.Proofs.YtjbhpfmnfdebkaaGreat

