/-
  rallentando/rallentandolaw13.ZsetNames: the law.
-/
import Derived.Test.YtgjeeghhhfpkoaaGreatB7
import Derived.Test.YtgjeeghhhfpkoaaGreatB3
/-
  The walk of rallentandolaw13.ZsetNames, by the engine.
-/
namespace Go.Proofs.YtgjeeghhhfpkoaaGreat
set_option linter.unusedVariables false
set_option linter.unusedSimpArgs false
set_option maxRecDepth 100000
open Go.RowKit Go.Proofs.YtgjeeghhhfpkoaaGreat.Eng Enc

namespace Zs
open Cv
def wantZ : Zn := (Zo.make ⟨0, false, 1, false, false⟩ ⟨1, true, 4, false, false⟩ ⟨0, true, 0, false, true⟩).1
theorem nm_want : Zo.make ⟨0, false, 1, false, false⟩ ⟨1, true, 4, false, false⟩ ⟨0, true, 0, false, true⟩ = (wantZ, 0) := by decide +kernel
theorem nm_same : same [of 0 4] [of 0 1, of 1 4] = (true, 0) := by decide +kernel
theorem nm_comp : comp [of 0 1] [of 1 4] = ([wantZ], 0) := by
  have h1 : Cmp.comp (of 0 1) (of 1 4) = (wantZ, 0) := by decide +kernel
  have h2 : prune [wantZ] = ([wantZ], 0) := prune_one _ (by decide +kernel) (by decide +kernel)
  unfold comp paired
  rw [if_pos (by decide +kernel), pairGo_cons, come_cons, h1]
  show (if (prune [wantZ]).2 = 0 then pairGo Cmp.comp [of 1 4] (prune [wantZ]).1 [] else _) = _
  rw [h2]; rfl
theorem nm_sort : sorted [of 0 1, of 0 4] = [of 0 1, of 0 4] := by
  refine sorted_self ?_
  simp only [List.pairwise_cons, List.mem_cons, List.not_mem_nil, or_false, forall_eq, List.Pairwise.nil, and_true]
  exact ⟨nm_lt1.trans nm_lt2, fun _ h => h.elim⟩
theorem nm_odd : check [of 0 1, of 0 4] = 8 := by
  have h : prune [of 0 1, of 0 4] = ([of 0 4], 0) := by
    unfold prune
    rw [nm_sort]
    decide +kernel
  unfold check
  rw [h]
  decide +kernel
theorem nm_nil : check [] = 0 := by
  have h : prune [] = ([], 0) := by
    unfold prune
    rw [sorted_self List.Pairwise.nil]
    decide +kernel
  unfold check
  rw [h]
  decide
end Zs
set_option maxHeartbeats 4000000 in
theorem zsetNames_walk (w : World) :
    Calls Tryz.prog 11 #[] w fun e w' => e = .returned (.bool true) ∧ Below w.heap.size w w' := by
  refine fun_eq 0 w Tryz.func11 (args := []) rfl rfl ?_
  have ho : ∀ w, Calls Tryz.prog 57 #[.int .i64 0, .int .i64 1] w fun e w' => e = .returned (.agg #[.int .i64 (Cv.of 0 1).a, .int .i64 (Cv.of 0 1).b, .int .i64 (Cv.of 0 1).c, .int .i64 (Cv.of 0 1).d, .int .i64 (Cv.of 0 1).e, .int .i64 (Cv.of 0 1).f]) ∧ Below w.heap.size w w' := fun w => of13_any 0 1 (by simp only [inK]; omega) (by simp only [inK]; omega) w
  have ho2 : ∀ w, Calls Tryz.prog 57 #[.int .i64 1, .int .i64 4] w fun e w' => e = .returned (.agg #[.int .i64 (Cv.of 1 4).a, .int .i64 (Cv.of 1 4).b, .int .i64 (Cv.of 1 4).c, .int .i64 (Cv.of 1 4).d, .int .i64 (Cv.of 1 4).e, .int .i64 (Cv.of 1 4).f]) ∧ Below w.heap.size w w' := fun w => of13_any 1 4 (by simp only [inK]; omega) (by simp only [inK]; omega) w
  have ho3 : ∀ w, Calls Tryz.prog 57 #[.int .i64 0, .int .i64 4] w fun e w' => e = .returned (.agg #[.int .i64 (Cv.of 0 4).a, .int .i64 (Cv.of 0 4).b, .int .i64 (Cv.of 0 4).c, .int .i64 (Cv.of 0 4).d, .int .i64 (Cv.of 0 4).e, .int .i64 (Cv.of 0 4).f]) ∧ Below w.heap.size w w' := fun w => of13_any 0 4 (by simp only [inK]; omega) (by simp only [inK]; omega) w
  have hsm := fun (w : World) a b ca cb h1 h2 => zssame_any [Cv.of 0 4] [Cv.of 0 1, Cv.of 1 4] a b ca cb w h1 h2
  rw [Zs.nm_same] at hsm
  have hcm := fun (w : World) a b ca cb h1 h2 => zscomp_any [Cv.of 0 1] [Cv.of 1 4] a b ca cb w h1 h2
  rw [Zs.nm_comp] at hcm
  have hmk := fun (w : World) => make_any ⟨0, false, 1, false, false⟩ ⟨1, true, 4, false, false⟩ ⟨0, true, 0, false, true⟩ ⟨by simp only [inK]; omega, by simp only [inK]; omega⟩ ⟨by simp only [inK]; omega, by simp only [inK]; omega⟩ ⟨by simp only [inK]; omega, by simp only [inK]; omega⟩ w
  rw [Zs.nm_want] at hmk
  have hod := fun (w : World) a ca h1 => zscheck_any [Cv.of 0 1, Cv.of 0 4] a ca w h1
  rw [Zs.nm_odd] at hod
  have hnl := fun (w : World) a ca h1 => zscheck_any [] a ca w h1
  rw [Zs.nm_nil] at hnl
  refine CallI.to1 ho3 fun w1 => ?_
  refine NewI.mk fun b1 hb1 => ?_
  refine CallI.to1 ho fun w2 => ?_
  refine CallI.to1 ho2 fun w3 => ?_
  refine NewI.mk fun b2 hb2 => ?_
  apply CallI.use1
  focus (exact fun w4 h4 => hsm w4 _ _ _ _ (Sl.own (l := [Cv.of 0 4]) h4 0 rfl rfl rfl (Nat.le_refl _) (by simp [maxLen])) (Sl.own (l := [Cv.of 0 1, Cv.of 1 4]) h4 1 rfl rfl rfl (Nat.le_refl _) (by simp [maxLen])))
  intro w4 v4 h4 hB4
  refine CallI.to1 ho fun w5 => ?_
  refine NewI.mk fun b3 hb3 => ?_
  refine CallI.to1 ho2 fun w6 => ?_
  refine NewI.mk fun b4 hb4 => ?_
  apply CallI.use
  focus (exact fun w7 h7 => hcm w7 _ _ _ _ (Sl.own (l := [Cv.of 0 1]) h7 2 rfl rfl rfl (Nat.le_refl _) (by simp [maxLen])) (Sl.own (l := [Cv.of 1 4]) h7 3 rfl rfl rfl (Nat.le_refl _) (by simp [maxLen])))
  rintro v w7 v7 h7 hB7 ⟨a7, c7, rfl, hO7⟩
  apply CallI.use1
  focus (exact fun w8 h8 => hmk w8)
  intro w8 v8 h8 hB8
  have hO8 := (hO7.below (at_belowM h8 (by simp))).below hB8
  refine NewI.mk fun b5 hb5 => ?_
  have hb5' : v8.heap.size ≤ b5 := hb5
  apply CallI.use1
  focus (exact fun w9 h9 => ho w9)
  intro w9 v9 h9 hB9
  have hO9 := (hO8.below (at_belowM h9 (by simp <;> omega))).below hB9
  apply CallI.use1
  focus (exact fun w10 h10 => ho3 w10)
  intro w10 v10 h10 hB10
  have hO10 := (hO9.below (at_belowM h10 (by simp <;> omega))).below hB10
  refine NewI.mk fun b6 hb6 => ?_
  have hb6' : v10.heap.size ≤ b6 := hb6
  apply CallI.use1
  focus (exact fun w11 h11 => hod w11 _ _ (Sl.own (l := [Cv.of 0 1, Cv.of 0 4]) h11 5 rfl rfl rfl (Nat.le_refl _) (by simp [maxLen])))
  intro w11 v11 h11 hB11
  have hO11 := (hO10.below (at_belowM h11 (by simp <;> omega))).below hB11
  refine DrawI.go (.ev 0 (.tk 1 (.tk 2 (.tk 3 (.tk 4 (.tk 5 (.tk 6 (.tk 7 (.tk 8 (.tk 9 (.tk 10 (.tk 11 (.tk 12 (.tk 13 (.tk 14 (.tk 15 (.tk 16 (.tk 17 (.tk 18 (.tk 19 (.tk 20 (.tk 21 (.tk 22 (.tk 23 (.tk 24 (.tk 25 (.ev 26 (.tk 27 (.tk 28 (.tk 29 (.tk 30 (.tk 31 (.tk 32 (.ev 33 (.tk 34 (.tk 35 (.tk 36 .done))))))))))))))))))))))))))))))))))))) (by kernel_rfl) fun w12 h12 => ?_
  have hO12 := hO11.below (at_belowM h12 (by simp <;> omega))
  apply CallI.use1
  focus (exact fun w13 h13 => alive13_any w13)
  intro w13 v13 h13 hB13
  refine Branch.yes rfl ?_
  refine Branch.yes rfl ?_
  refine Branch.yes rfl ?_
  refine Branch.yes rfl ?_
  refine Branch.yes rfl ?_
  refine Branch.yes rfl ?_
  refine (hO12.sl).idx (k := 0) (x := Zs.wantZ) rfl fun ad had => ?_
  refine (hO12.sl).ld (k := 0) (x := Zs.wantZ) rfl had (Below.refl _ _) (by simp) ?_
  refine GenV.to (fun w => eql_sameZ _ _ Zs.wantZ w) fun w14 h14 => ?_
  refine Branch.yes rfl ?_
  refine Branch.yes rfl ?_
  apply CallI.use1
  focus (exact fun w15 h15 => hnl w15 none 0 Sl.nil)
  intro w15 v15 h15 hB15
  exact EndI.mk fun w16 h16 => rfl
end Go.Proofs.YtgjeeghhhfpkoaaGreat

/-
  rallentando/rallentandolaw13.ZsetNames: the law.
-/
namespace Go.Proofs.YtgjeeghhhfpkoaaGreat
set_option linter.unusedVariables false
open Go.ChangeShapes Go.WideShapes Go.ChangeAt Go.RowKit Go.Deep

set_option maxRecDepth 100000 in
theorem zsetNames_lifted (os : Os) (started : os.Started) (H : Type) (enc : TypeId × Value → H) :
    ReturnsInHanded {} Tryz.checked os 11 .any (Rows.zsetNamesSpec.pre6 enc Tryz.prog Tryz.f11 Rows.zsetNamesRow.domain false) (Rows.zsetNamesSpec.post enc Tryz.prog Tryz.f11 false true false false) := by
  refine returnsInHanded_of_change (C := Tryz.checked) own started (by kernel_rfl) Tryz.func11
    (ChangeSpec.witness6 (enc := enc) (C := Tryz.checked) false ⟨#[], #[], []⟩ 8 (by kernel_rfl) (by kernel_rfl) (by kernel_rfl) (by kernel_rfl)) ?_
  intro W base args ds gs before hval0 hW _ _
  have hval : ∀ (j : Nat) t v, Tryz.f11.params[j]? = some t → args[j]? = some v → Value.okWide Tryz.prog W .any base t v := hval0
  have hW' := hW
  obtain ⟨p, q, hA0, hV, rfl, hfz, hnd⟩ := hW
  have hA : DataW.TrodAll enc Tryz.prog W 0 (fun _ => true) true Tryz.f11.params.toList args.toList ds p := hA0
  rw [Tryz.params11] at hA hval
  obtain ⟨hargs, rfl, rfl⟩ := trodAll_nil hA
  obtain rfl : args = #[] := by cases args; simp_all
  obtain ⟨rfl, rfl⟩ := trodVars_none hV
  clear hA0 hval0
  exact (zsetNames_walk W).mono fun e W' ⟨he, hg⟩ => ⟨_, he, law_post laidOut (by kernel_rfl) rfl rfl Tryz.underlying4 hW' rfl hg⟩

set_option maxRecDepth 100000 in
theorem zsetNames_k1 : (Rows.zsetNamesRow.inPlace == Tryz.pinned.checked.prog.inPlace 11) = true := by kernel_rfl
set_option maxRecDepth 100000 in
theorem zsetNames_k2 : (Rows.zsetNamesRow.unfollowed == Tryz.pinned.checked.prog.unfollowed 11) = true := by kernel_rfl
set_option maxRecDepth 100000 in
theorem zsetNames_k3 : (Rows.zsetNamesRow.recurses == Tryz.pinned.checked.prog.recurses 11) = true := by kernel_rfl
set_option maxRecDepth 100000 in
theorem zsetNames_k4 : (Rows.zsetNamesRow.named == Tryz.pinned.checked.prog.varsNamed 11) = true := by kernel_rfl
set_option maxRecDepth 100000 in
theorem zsetNames_closed : joinedFacts Tryz.pinned.checked.prog 11 Tryz.f11 Rows.zsetNamesSpec Rows.zsetNamesRow = true := by
  unfold joinedFacts
  rw [zsetNames_k1, zsetNames_k2, zsetNames_k3, zsetNames_k4]
  kernel_rfl
set_option maxRecDepth 100000 in
theorem zsetNames_over : Rows.zsetNamesRow.holds Tryz.pinned (OpenSpec.ofChange Rows.zsetNamesSpec) :=
  OpenClaim.holds_of_wide 11 Tryz.f11 rfl rfl rfl rfl rfl rfl rfl ⟨rfl, rfl, rfl, rfl, rfl⟩ rfl rfl rfl rfl rfl (by kernel_rfl) Tryz.func11 zsetNames_closed
    (of_decide_eq_true (by kernel_rfl)) (by unfold Func.isWrapper; first | (rw [if_pos (by decide +kernel)]; kernel_rfl) | (rw [if_neg (by decide +kernel)]; exact ⟨rfl, rfl⟩))
    (fun os started H enc _ => zsetNames_lifted os started H enc)

theorem zsetNames.proved : Rows.ZsetNamesSaid := zsetNames_over
#print axioms zsetNames.proved
end Go.Proofs.YtgjeeghhhfpkoaaGreat

