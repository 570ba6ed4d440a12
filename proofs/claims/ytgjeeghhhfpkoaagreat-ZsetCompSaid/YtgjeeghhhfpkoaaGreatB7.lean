/-
  Merged texts of this seat (each with its own head below).
-/
import Derived.Test.YtgjeeghhhfpkoaaGreatB5
import Derived.Test.YtgjeeghhhfpkoaaGreatB6
/-
  The plain facts of CoverNames.
-/
namespace Go.Proofs.YtgjeeghhhfpkoaaGreat
set_option linter.unusedVariables false
set_option linter.unusedSimpArgs false
open Go.RowKit Go.Proofs.YtgjeeghhhfpkoaaGreat.Eng Enc
namespace Cv
open Mi Zo
theorem nm_lt1 : Lt (of 0 1) (of 1 4) := (cmp_lt _ _).1 (by decide +kernel)
theorem nm_lt2 : Lt (of 1 4) (of 0 4) := (cmp_lt _ _).1 (by decide +kernel)
theorem nm_cmp : Zo.cmp (of 0 1) (of 1 4) = -1 := by decide +kernel
theorem nm_sort1 : sorted [of 0 4, of 0 1, of 1 4] = [of 0 1, of 1 4, of 0 4] := by
  refine strict_eq (sorted_strict _) ?_ fun x => ?_
  · simp only [List.pairwise_cons, List.mem_cons, List.not_mem_nil, or_false, forall_eq_or_imp, forall_eq, List.Pairwise.nil, and_true]
    exact ⟨⟨nm_lt1, nm_lt1.trans nm_lt2⟩, nm_lt2, fun _ h => h.elim⟩
  · rw [sorted_mem]
    simp only [List.mem_cons, List.not_mem_nil, or_false]
    constructor
    · rintro (h | h | h) <;> simp [h]
    · rintro (h | h | h) <;> simp [h]
theorem nm_sort2 : sorted [of 1 4, of 0 1, of 1 4] = [of 0 1, of 1 4] := by
  refine strict_eq (sorted_strict _) ?_ fun x => ?_
  · simp only [List.pairwise_cons, List.mem_cons, List.not_mem_nil, or_false, forall_eq, List.Pairwise.nil, and_true]
    exact ⟨nm_lt1, fun _ h => h.elim⟩
  · rw [sorted_mem]
    simp only [List.mem_cons, List.not_mem_nil, or_false]
    constructor
    · rintro (h | h | h) <;> simp [h]
    · rintro (h | h) <;> simp [h]
theorem nm_prune1 : prune [of 0 4, of 0 1, of 1 4] = ([of 0 1, of 1 4], 0) := by
  unfold prune
  rw [nm_sort1]
  decide +kernel
theorem nm_prune2 : prune [of 1 4, of 0 1, of 1 4] = ([of 0 1, of 1 4], 0) := by
  unfold prune
  rw [nm_sort2]
  decide +kernel
theorem nm_wit1 : witness (of 0 4) [of 0 1] = (⟨⟨5, 2⟩, ⟨4, 1⟩⟩, 0) := by
  have h1 : checked [[of 0 1], [of 0 4]] = 0 := by decide +kernel
  have h2 : (left (of 0 4) [of 0 1]).2 = 0 := by decide +kernel
  have h3 : (left (of 0 4) [of 0 1]).1 = [(left (of 0 4) [of 0 1]).1.headD (of 0 4)] := by decide +kernel
  unfold witness
  rw [if_pos h1, if_pos h2, h3]
  show Zo.pick ((left (of 0 4) [of 0 1]).1.headD (of 0 4)) = _
  decide +kernel
theorem nm_wit2 : witness (of 0 4) [of 0 4] = (⟨⟨0, 0⟩, ⟨0, 0⟩⟩, 6) := by decide +kernel
end Cv
end Go.Proofs.YtgjeeghhhfpkoaaGreat

/-
  rallentandolaw13's helpers: of, alive, wanted; by the engine.
-/
namespace Go.Proofs.YtgjeeghhhfpkoaaGreat
set_option linter.unusedVariables false
set_option linter.unusedSimpArgs false
set_option maxRecDepth 100000
open Go.RowKit Go.Proofs.YtgjeeghhhfpkoaaGreat.Eng Enc

namespace Zs
open Cv
theorem nm_or : or [of 0 1, of 1 4] [of 0 4] = ([of 0 1, of 1 4], 0) := by
  unfold or
  rw [if_pos (by decide +kernel), prune_order (m := [of 0 4, of 0 1, of 1 4]) (fun x => by simp only [List.cons_append, List.nil_append, List.mem_cons, List.not_mem_nil, or_false]; constructor <;> (rintro (h | h | h) <;> simp [h])) (by simp) (by simp)]
  exact nm_prune1
theorem prune_one (z : Zn) (h0 : checked [[z]] = 0) (h : in_ z [] = (false, 0)) : prune [z] = ([z], 0) := by
  unfold prune
  rw [if_neg (by rw [h0]; simp), sorted_self (List.pairwise_singleton _ _)]
  show pgo 1 [z] = _
  rw [pgo_succ (z := z) rfl]
  show (if (in_ z []).2 ≠ 0 then _ else if (in_ z []).1 = true then _ else pgo 0 [z]) = _
  rw [h]
  rfl
theorem nm_and : and [of 0 1] [of 1 4] = ([of 1 1], 0) := by
  have h1 : Zo.meet (of 0 1) (of 1 4) = (of 1 1, 0) := by decide +kernel
  have h2 : prune [of 1 1] = ([of 1 1], 0) := prune_one _ (by decide +kernel) (by decide +kernel)
  unfold and paired
  rw [if_pos (by decide +kernel), pairGo_cons, come_cons, h1]
  show (if (prune [of 1 1]).2 = 0 then pairGo Zo.meet [of 1 4] (prune [of 1 1]).1 [] else _) = _
  rw [h2]; rfl
end Zs
theorem eql_sameZ (p q : Operand) (x : Zn) (w : World) : (do eqGuard .eql 39 p q (.agg #[.int .i64 x.a, .int .i64 x.b, .int .i64 x.c, .int .i64 x.d, .int .i64 x.e, .int .i64 x.f]) (.agg #[.int .i64 x.a, .int .i64 x.b, .int .i64 x.c, .int .i64 x.d, .int .i64 x.e, .int .i64 x.f]); binOp .eql 39 (.agg #[.int .i64 x.a, .int .i64 x.b, .int .i64 x.c, .int .i64 x.d, .int .i64 x.e, .int .i64 x.f]) (.agg #[.int .i64 x.a, .int .i64 x.b, .int .i64 x.c, .int .i64 x.d, .int .i64 x.e, .int .i64 x.f]) : Sem Value).run Tryz.prog w = .ok (.bool true) w := by
  rw [run_eql_znG]; simp
theorem of13_any (lo hi : Int) (h1 : inK .i64 lo) (h2 : inK .i64 hi) (w : World) :
    Calls Tryz.prog 57 #[.int .i64 lo, .int .i64 hi] w fun e w' => e = .returned (.agg #[.int .i64 (Cv.of lo hi).a, .int .i64 (Cv.of lo hi).b, .int .i64 (Cv.of lo hi).c, .int .i64 (Cv.of lo hi).d, .int .i64 (Cv.of lo hi).e, .int .i64 (Cv.of lo hi).f]) ∧ Below w.heap.size w w' := by
  refine fun_eq 0 w Tryz.func57 (args := [.val (.int .i64 lo), .val (.int .i64 hi)]) rfl rfl ?_
  refine NewI.mk fun b1 hb1 => ?_
  refine CallI.to1 (fun w => make_any ⟨lo, false, hi, false, false⟩ ⟨0, false, 4, false, false⟩ ⟨0, true, 0, false, true⟩ ⟨h1, h2⟩ ⟨by simp only [inK]; omega, by simp only [inK]; omega⟩ ⟨by simp only [inK]; omega, by simp only [inK]; omega⟩ w) fun w2 => ?_
  refine NewI.mk fun b2 hb2 => ?_
  exact EndI.mk fun w9 h9 => rfl
theorem alive13_any (w : World) : Calls Tryz.prog 36 #[] w fun e w' => e = .returned (.bool true) ∧ Below w.heap.size w w' := by
  refine fun_eq 0 w Tryz.func36 (args := []) rfl rfl ?_
  have ho : ∀ w, Calls Tryz.prog 57 #[.int .i64 0, .int .i64 1] w fun e w' => e = .returned (.agg #[.int .i64 (Cv.of 0 1).a, .int .i64 (Cv.of 0 1).b, .int .i64 (Cv.of 0 1).c, .int .i64 (Cv.of 0 1).d, .int .i64 (Cv.of 0 1).e, .int .i64 (Cv.of 0 1).f]) ∧ Below w.heap.size w w' := fun w => of13_any 0 1 (by simp only [inK]; omega) (by simp only [inK]; omega) w
  have ho2 : ∀ w, Calls Tryz.prog 57 #[.int .i64 1, .int .i64 4] w fun e w' => e = .returned (.agg #[.int .i64 (Cv.of 1 4).a, .int .i64 (Cv.of 1 4).b, .int .i64 (Cv.of 1 4).c, .int .i64 (Cv.of 1 4).d, .int .i64 (Cv.of 1 4).e, .int .i64 (Cv.of 1 4).f]) ∧ Below w.heap.size w w' := fun w => of13_any 1 4 (by simp only [inK]; omega) (by simp only [inK]; omega) w
  have ho3 : ∀ w, Calls Tryz.prog 57 #[.int .i64 0, .int .i64 4] w fun e w' => e = .returned (.agg #[.int .i64 (Cv.of 0 4).a, .int .i64 (Cv.of 0 4).b, .int .i64 (Cv.of 0 4).c, .int .i64 (Cv.of 0 4).d, .int .i64 (Cv.of 0 4).e, .int .i64 (Cv.of 0 4).f]) ∧ Below w.heap.size w w' := fun w => of13_any 0 4 (by simp only [inK]; omega) (by simp only [inK]; omega) w
  have ho4 : ∀ w, Calls Tryz.prog 57 #[.int .i64 1, .int .i64 1] w fun e w' => e = .returned (.agg #[.int .i64 (Cv.of 1 1).a, .int .i64 (Cv.of 1 1).b, .int .i64 (Cv.of 1 1).c, .int .i64 (Cv.of 1 1).d, .int .i64 (Cv.of 1 1).e, .int .i64 (Cv.of 1 1).f]) ∧ Below w.heap.size w w' := fun w => of13_any 1 1 (by simp only [inK]; omega) (by simp only [inK]; omega) w
  refine CallI.to1 ho fun w1 => ?_
  refine CallI.to1 ho2 fun w2 => ?_
  refine NewI.mk fun b1 hb1 => ?_
  have hb1' : w2.heap.size ≤ b1 := hb1
  refine CallI.to1 ho3 fun w3 => ?_
  refine NewI.mk fun b2 hb2 => ?_
  have hor := fun (w : World) a b ca cb h1 h2 => zsor_any [Cv.of 0 1, Cv.of 1 4] [Cv.of 0 4] a b ca cb w h1 h2
  rw [Zs.nm_or] at hor
  have hand := fun (w : World) a b ca cb h1 h2 => zsand_any [Cv.of 0 1] [Cv.of 1 4] a b ca cb w h1 h2
  rw [Zs.nm_and] at hand
  apply CallI.use
  focus (exact fun w4 h4 => hor w4 _ _ _ _ (Sl.own (l := [Cv.of 0 1, Cv.of 1 4]) h4 0 rfl rfl rfl (Nat.le_refl _) (by simp [maxLen])) (Sl.own (l := [Cv.of 0 4]) h4 1 rfl rfl rfl (Nat.le_refl _) (by simp [maxLen])))
  rintro v w4 v4 h4 hB4 ⟨a4, c4, rfl, hO4⟩
  apply CallI.use1
  focus (exact fun w5 h5 => ho w5)
  intro w5 v5 h5 hB5
  have hO5 := (hO4.below (at_belowM h5 (by simp))).below hB5
  refine NewI.mk fun b3 hb3 => ?_
  have hb3' : v5.heap.size ≤ b3 := hb3
  apply CallI.use1
  focus (exact fun w6 h6 => ho2 w6)
  intro w6 v6 h6 hB6
  have hO6 := (hO5.below (at_belowM h6 (by simp <;> omega))).below hB6
  refine NewI.mk fun b4 hb4 => ?_
  have hb4' : v6.heap.size ≤ b4 := hb4
  have hs6 := h6.size
  have hs6' := hB6.size
  apply CallI.use
  focus (exact fun w7 h7 => hand w7 _ _ _ _ (Sl.own (l := [Cv.of 0 1]) h7 2 rfl rfl rfl (Nat.le_refl _) (by simp [maxLen])) (Sl.own (l := [Cv.of 1 4]) h7 3 rfl rfl rfl (Nat.le_refl _) (by simp [maxLen])))
  rintro v w7 v7 h7 hB7 ⟨a7, c7, rfl, hO7⟩
  have hO6' := (hO6.below (at_belowM h7 (by simp <;> omega))).below hB7
  refine DrawI.go (.tk 0 (.tk 1 (.tk 2 (.tk 3 (.tk 4 (.tk 5 (.tk 6 (.tk 7 (.tk 8 (.tk 9 (.tk 10 (.ev 11 (.ev 12 (.tk 13 (.tk 14 (.tk 15 (.tk 16 (.tk 17 (.ev 18 (.ev 19 (.tk 20 (.tk 21 (.tk 22 (.tk 23 (.tk 24 (.tk 25 (.tk 26 (.tk 27 (.tk 28 (.tk 29 (.tk 30 (.tk 31 (.tk 32 (.tk 33 (.ev 34 (.ev 35 (.tk 36 (.tk 37 .done)))))))))))))))))))))))))))))))))))))) (by kernel_rfl) fun w8 h8 => ?_
  have g8 := at_belowM h8 (by simp)
  have hOa := hO6'.below g8
  have hOb := hO7.below g8
  refine Branch.yes rfl ?_
  refine Branch.yes rfl ?_
  refine (hOa.sl).idx (k := 0) (x := Cv.of 0 1) rfl fun ad had => ?_
  refine (hOa.sl).ld (k := 0) (x := Cv.of 0 1) rfl had (Below.refl _ _) (by simp) ?_
  apply CallI.use1
  focus (exact fun w9 h9 => ho w9)
  intro w9 v9 h9 hB9
  refine GenV.to (fun w => eql_sameZ _ _ (Cv.of 0 1) w) fun w10 h10 => ?_
  refine Branch.yes rfl ?_
  refine (hOa.sl).idx (k := 1) (x := Cv.of 1 4) rfl fun ad2 had2 => ?_
  refine (hOa.sl).ld (k := 1) (x := Cv.of 1 4) rfl had2 (Below.refl _ _) (by simp) ?_
  apply CallI.use1
  focus (exact fun w11 h11 => ho2 w11)
  intro w11 v11 h11 hB11
  refine GenV.to (fun w => eql_sameZ _ _ (Cv.of 1 4) w) fun w12 h12 => ?_
  refine Branch.yes rfl ?_
  refine Branch.yes rfl ?_
  refine Branch.yes rfl ?_
  refine (hOb.sl).idx (k := 0) (x := Cv.of 1 1) rfl fun ad3 had3 => ?_
  refine (hOb.sl).ld (k := 0) (x := Cv.of 1 1) rfl had3 (Below.refl _ _) (by simp) ?_
  apply CallI.use1
  focus (exact fun w13 h13 => ho4 w13)
  intro w13 v13 h13 hB13
  refine GenV.to (fun w => eql_sameZ _ _ (Cv.of 1 1) w) fun w14 h14 => ?_
  exact EndI.mk fun w15 h15 => rfl
namespace Zs
def wanted (l : List Zn) : Bool := decide ((Cv.prune l).2 ≠ 0) || decide (check l = 0)
theorem Fine.wanted {l : List Zn} (h : Fine l) : wanted l = true := by
  unfold Zs.wanted check
  by_cases h0 : (Cv.prune l).2 = 0
  · rw [if_pos ⟨h0, h.2.2 h0⟩]; simp
  · simp [h0]
end Zs
theorem wanted13_any (l : List Zn) (a : Option Addr) (cap : Nat) (w : World) (hS : Sl w.heap.size w (.slice a l.length cap) l) :
    Calls Tryz.prog 64 #[.slice a l.length cap] w fun e w' => e = .returned (.bool (Zs.wanted l)) ∧ Below w.heap.size w w' := by
  refine fun_eq 0 w Tryz.func64 (args := [.val (.slice a l.length cap)]) rfl rfl ?_
  apply CallI.use
  focus (exact fun w2 h2 => zsof_any l a cap w2 (hS.go h2.below h2.below.size))
  rintro v w2 v2 h2 hB2 ⟨a2, c2, rfl, hO2⟩
  unfold Zs.wanted
  refine Branch.mk (fun hc => ?_) (fun hc => ?_)
  · exact EndI.mk fun w9 h9 => by rw [hc]; rfl
  apply CallI.use1
  focus (exact fun w3 h3 => zscheck_any l a cap w3 (hS.go h3.below h3.below.size))
  intro w3 v3 h3 hB3
  exact EndI.mk fun w9 h9 => by rw [hc]; rfl
end Go.Proofs.YtgjeeghhhfpkoaaGreat

