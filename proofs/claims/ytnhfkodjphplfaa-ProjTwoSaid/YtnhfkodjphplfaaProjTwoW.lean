/-
  The walk of rallentandolaw07.ProjTwo, by the engine.
-/
import Derived.Test.YtnhfkodjphplfaaAlive07
import Derived.Test.YtnhfkodjphplfaaPlainProj
namespace Go.Proofs.Ytnhfkodjphplfaa
set_option linter.unusedVariables false
set_option linter.unusedSimpArgs false
set_option maxRecDepth 100000
open Go.RowKit Go.Proofs.Ytnhfkodjphplfaa.Eng Enc

theorem projTwo_walk (n j k : Int) (a : Option Addr) (cap : Nat) (L : List Int) (hk : inK .i64 k) (w : World) (hS : Sl w.heap.size w (.slice a L.length cap) L) :
    Calls Try.prog 3 #[.agg #[.int .i64 n, .slice a L.length cap], .int .i64 j, .int .i64 k] w fun e w' => e = .returned (.bool true) ∧ Below w.heap.size w w' := by
  refine fun_eq 0 w Try.func3 (args := [.agg [.val (.int .i64 n), .val (.slice a L.length cap)], .val (.int .i64 j), .val (.int .i64 k)]) rfl rfl ?_
  refine NewI.mk fun b1 hb1 => ?_
  apply CallI.use1
  · exact fun w1 h1 => alive07_any w1
  intro w1 w2 h1 hB2
  refine Branch.mk (fun hc => ?_) (fun hc => ?_)
  · exact EndI.mk fun _ _ => rfl
  refine Branch.mk (fun hjk => ?_) (fun hjk => ?_)
  · exact EndI.mk fun _ _ => rfl
  have hjk' : j < k := by simpa using hjk
  refine Branch.no rfl ?_
  apply CallI.use
  · exact fun w3 h3 => drop_any n a cap L j w3 (Sl.at h3 hS)
  rintro v w3 w4 h3 hB4 ⟨a1, c1, rfl, hF1⟩
  have hw4 : Below w.heap.size w w4 := h3.below.trans (hB4.mono h3.below.size)
  refine NewI.mk fun b2 hb2 => ?_
  apply CallI.use
  · exact fun w5 h5 => drop_any n a cap L k w5 (Sl.at h5 hS)
  rintro v w5 w6 h5 hB6 ⟨a2, c2, rfl, hF2⟩
  have k6 := h5.next hw4 (Below.refl _ _) (by intro b hb; simp at hb; subst hb; exact hb2) hB6
  have hw6 : Below w.heap.size w w6 := h5.below.trans (hB6.mono h5.below.size)
  refine NewI.mk fun b3 hb3 => ?_
  have L3 : ∀ b, b ∈ [b3] → w6.heap.size ≤ b := by intro b hb; simp at hb; subst hb; exact hb3
  have L3' : ∀ b, b ∈ [b3] → w4.heap.size ≤ b := fun b hb => Nat.le_trans k6.size (L3 b hb)
  refine Branch.mk (fun hc1 => ?_) (fun hc1 => ?_)
  · exact EndI.mk fun _ _ => rfl
  refine Branch.mk (fun hc2 => ?_) (fun hc2 => ?_)
  · exact EndI.mk fun _ _ => rfl
  apply CallI.use1
  · exact fun w7 h7 => dcheck_any _ a1 c1 _ w7 ((hF1.sl).go (h7.from hw4 k6 L3') (h7.from hw4 k6 L3').size)
  intro w7 w8 h7 hB8
  have k8 := h7.next hw4 k6 L3' hB8
  have m8 := h7.next hw6 (Below.refl _ _) L3 hB8
  refine Branch.mk (fun hc3 => ?_) (fun hc3 => ?_)
  · exact EndI.mk fun _ _ => rfl
  apply CallI.use1
  · exact fun w9 h9 => dcheck_any _ a2 c2 _ w9 ((hF2.sl).go (h9.from hw6 m8 (by simp)) (h9.from hw6 m8 (by simp)).size)
  intro w9 w10 h9 hB10
  have k10 := h9.next hw4 k8 (by simp) hB10
  have m10 := h9.next hw6 m8 (by simp) hB10
  refine Branch.mk (fun hc4 => ?_) (fun hc4 => ?_)
  · exact EndI.mk fun _ _ => rfl
  have htwo := Proj.two hjk' (by simpa using hc1) (by simpa using hc2) (by simpa using hc3) (by simpa using hc4)
  have hk1 := (Proj.drop_ok (n := n) (L := L) (k := k) (by simpa using hc2)).2.1
  refine Need.mk (by obtain ⟨x, y⟩ := hk; show _ ∧ _; omega) ?_
  apply CallI.use
  · exact fun w11 h11 => drop_any _ a1 c1 _ (k - 1) w11 ((hF1.sl).go (h11.from hw4 k10 (by simp)) (h11.from hw4 k10 (by simp)).size)
  rintro v w11 w12 h11 hB12 ⟨a3, c3, rfl, hF3⟩
  have m12 := h11.next hw6 m10 (by simp) hB12
  have hw12 : Below w.heap.size w w12 := h11.below.trans (hB12.mono h11.below.size)
  refine NewI.mk fun b4 hb4 => ?_
  apply CallI.use
  · exact fun w13 h13 => drop_any _ a2 c2 _ j w13 ((hF2.sl).go (h13.from hw6 m12 (by intro b hb; simp at hb; subst hb; exact Nat.le_trans m12.size hb4)) (h13.from hw6 m12 (by intro b hb; simp at hb; subst hb; exact Nat.le_trans m12.size hb4)).size)
  rintro v w13 w14 h13 hB14 ⟨a4, c4, rfl, hF4⟩
  have n14 := h13.next hw12 (Below.refl _ _) (by intro b hb; simp at hb; subst hb; exact hb4) hB14
  have hw14 : Below w.heap.size w w14 := h13.below.trans (hB14.mono h13.below.size)
  refine NewI.mk fun b5 hb5 => ?_
  have L5 : ∀ b, b ∈ [b5] → w14.heap.size ≤ b := by intro b hb; simp at hb; subst hb; exact hb5
  have L5' : ∀ b, b ∈ [b5] → w12.heap.size ≤ b := fun b hb => Nat.le_trans n14.size (L5 b hb)
  refine Branch.yes (by rw [htwo]; simp) ?_
  apply CallI.use1
  · exact fun w15 h15 => same04_any _ _ _ _ a3 a4 c3 c4 w15 ((hF3.sl).go (h15.from hw12 n14 L5') (h15.from hw12 n14 L5').size) ((hF4.sl).go (h15.from hw14 (Below.refl _ _) L5) (h15.from hw14 (Below.refl _ _) L5).size)
  intro w15 w16 h15 hB16
  refine EndI.mk fun w17 h17 => ?_
  rw [htwo]
  simp [sameB]
end Go.Proofs.Ytnhfkodjphplfaa
