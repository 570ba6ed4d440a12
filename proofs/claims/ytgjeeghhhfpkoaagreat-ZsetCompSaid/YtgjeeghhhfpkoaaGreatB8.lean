/-
  Merged texts of this seat (each with its own head below).
-/
import Derived.Test.YtgjeeghhhfpkoaaGreatB6
/-
  rallentandoref11.Same: whether two lists of zones are the same.
-/
namespace Go.Proofs.YtgjeeghhhfpkoaaGreat
set_option linter.unusedVariables false
set_option linter.unusedSimpArgs false
set_option maxRecDepth 100000
open Go.RowKit Go.Proofs.YtgjeeghhhfpkoaaGreat.Eng Enc

theorem same11_any (l m : List Zn) (a : Option Addr) (cap : Nat) (b : Option Addr) (cb : Nat) (w : World) (hS : Sl w.heap.size w (.slice a l.length cap) l) (hT : Sl w.heap.size w (.slice b m.length cb) m) :
    Calls Tryz.prog 33 #[.slice a l.length cap, .slice b m.length cb] w fun e w' => e = .returned (.bool (decide (l = m))) ∧ Below w.heap.size w w' := by
  refine fun_eq 0 w Tryz.func33 (args := [.val (.slice a l.length cap), .val (.slice b m.length cb)]) rfl rfl ?_
  obtain ⟨_, _, hfe, hcap1, hcap2, _⟩ := hS.form
  injection hfe with _ _ hfe
  subst hfe
  unfold maxLen at hcap2
  refine Branch.mk (fun hc => ?_) (fun hc => ?_)
  · have hne : l.length ≠ m.length := by have := of_decide_eq_true hc; omega
    refine EndI.mk fun w9 h9 => ?_
    rw [decide_eq_false (fun e => hne (by rw [e]))]
  have hlm : l.length = m.length := by have := of_decide_eq_false hc; omega
  refine LoopI.invC (α := Nat × World) (fun y => [(5, .val (.int .i64 y.1))]) (fun y => y.2) (fun y => y.1 ≤ l.length ∧ Below w.heap.size w y.2 ∧ l.take y.1 = m.take y.1) (fun y => l.length - y.1) ?_ ?_
  · intro w1 h1
    exact ⟨(0, w1), Cov.mk (by repeat' (first | exact trivial | refine And.intro rfl ?_)) rfl rfl rfl rfl rfl, rfl, Nat.zero_le _, h1.below, rfl⟩
  rintro ⟨k, V⟩ ⟨hk, hV, hall⟩
  simp only at hk hV hall
  refine Branch.mk (fun hc2 => ?_) (fun hc2 => ?_)
  · have hlt : k < l.length := by have := of_decide_eq_true hc2; simp only at this; omega
    have hx := List.getElem?_eq_getElem (l := l) (i := k) hlt
    have hy := List.getElem?_eq_getElem (l := m) (i := k) (by omega)
    generalize l[k] = x at hx
    generalize m[k]'(by omega) = y at hy
    refine DrawI.go (.tk 0 (.tk 1 (.tk 2 (.tk 3 (.tk 4 (.tk 5 (.tk 6 (.tk 7 (.ev 8 .done))))))))) (by kernel_rfl) fun w4 h4 => ?_
    have hg4 : Below V.heap.size V w4 := h4.go
    have hw4 := hV.trans (hg4.mono hV.size)
    have hS4 := hS.go hw4 hw4.size
    have hT4 := hT.go hw4 hw4.size
    refine hS4.idx hx fun ad had => ?_
    refine hS4.ld hx had (Below.refl _ _) (by simp) ?_
    refine hT4.idx hy fun ad2 had2 => ?_
    refine hT4.ld hy had2 (Below.refl _ _) (by simp) ?_
    refine GenV.to (x := .bool (decide (x ≠ y))) (fun w => run_neq_znG _ _ x y w) fun w5 h5 => ?_
    refine Branch.mk (fun hc3 => ?_) (fun hc3 => ?_)
    · have hne : x ≠ y := by simpa using hc3
      refine EndI.mk fun w9 h9 => ?_
      rw [decide_eq_false (fun e => hne (by rw [e, hy] at hx; injection hx with hx; exact hx.symm))]
    · have he : x = y := by simpa using hc3
      refine Need.mk (by simp only [inK]; omega) (EndI.mk fun w9 h9 => ⟨(k + 1, w9), Cov.mk (by repeat' (first | exact trivial | refine And.intro rfl ?_)) rfl rfl rfl rfl rfl, rfl, ⟨hlt, h9.below, ?_⟩, by simp only; omega⟩)
      simp only
      rw [List.take_add_one, List.take_add_one, hall, hx, hy, he]
  · have hge : k = l.length := by have := of_decide_eq_false hc2; simp only at this; omega
    subst hge
    rw [List.take_length, hlm, List.take_length] at hall
    refine EndI.mk fun w9 h9 => ?_
    rw [decide_eq_true hall]
end Go.Proofs.YtgjeeghhhfpkoaaGreat

/-
  Plain laws of sets with the same points. No program is in sight.
-/
namespace Go.Proofs.YtgjeeghhhfpkoaaGreat
set_option linter.unusedVariables false
open Go.RowKit Go.Proofs.YtgjeeghhhfpkoaaGreat.Eng Enc
namespace Zs
open Mi
theorem checked_comm (l m : List Zn) : Cv.checked [l, m] = Cv.checked [m, l] := by
  unfold Cv.checked
  simp only [List.any_cons, List.any_nil, Bool.or_false]
  rw [Bool.or_comm (decide (4096 < l.length)), Bool.or_comm (l.any Cv.odd)]
theorem or_comm (l m : List Zn) : or l m = or m l := by
  unfold or
  rw [checked_comm]
  by_cases h0 : Cv.checked [m, l] = 0
  · rw [if_pos h0, if_pos h0]
    obtain ⟨h1, h2⟩ := checked_len h0
    unfold Cv.prune
    by_cases hl : l.length + m.length ≤ 4096
    · exact Cv.prune_order (fun x => by simp only [List.mem_append]; exact Or.comm) (by rw [List.length_append]; omega) (by rw [List.length_append]; omega)
    · have k1 : Cv.checked [l ++ m] = 4 := by
        unfold Cv.checked
        rw [if_pos]
        simp only [List.any_cons, List.any_nil, Bool.or_false, decide_eq_true_eq, List.length_append]; omega
      have k2 : Cv.checked [m ++ l] = 4 := by
        unfold Cv.checked
        rw [if_pos]
        simp only [List.any_cons, List.any_nil, Bool.or_false, decide_eq_true_eq, List.length_append]; omega
      rw [k1, k2]
      rfl
  · rw [if_neg h0, if_neg h0]
theorem all_pts {l m : List Zn} (h : (Cv.all_ l m).2 = 0) (hp : ∀ t, Pts l t → Pts m t) : (Cv.all_ l m).1 = true := (Cv.all_ok h).2 fun z hz t ht => hp t ⟨z, hz, ht⟩
theorem same_pts {l m : List Zn} (h : (same l m).2 = 0) (hp : ∀ t, Pts l t ↔ Pts m t) : (same l m).1 = true := by
  unfold same at h ⊢
  by_cases h1 : (Cv.all_ l m).2 = 0 ∧ (Cv.all_ l m).1 = true
  · rw [if_pos h1] at h ⊢
    exact all_pts h fun t => (hp t).2
  · rw [if_neg h1] at h
    exact absurd ⟨h, all_pts h fun t => (hp t).1⟩ h1
theorem same_back {l m : List Zn} (h : (same l m).2 = 0) (h1 : (same l m).1 = true) (hl : Cv.checked [l, m] = 0) : ∀ t, Pts l t ↔ Pts m t := by
  unfold same at h h1
  by_cases h2 : (Cv.all_ l m).2 = 0 ∧ (Cv.all_ l m).1 = true
  · rw [if_pos h2] at h h1
    exact fun t => ⟨fun ⟨z, hz, ht⟩ => (Cv.all_ok h2.1).1 h2.2 z hz t ht, fun ⟨z, hz, ht⟩ => (Cv.all_ok h).1 h1 z hz t ht⟩
  · rw [if_neg h2] at h1; cases h1
end Zs
end Go.Proofs.YtgjeeghhhfpkoaaGreat

