/-
  rallentando/rallentandolaw12.CoverTells: the law.
-/
import Derived.Test.YtgjeeghhhfpkoaaGreatMCoverTells3
import Derived.Test.YtgjeeghhhfpkoaaGreatMCoverTells8
namespace Go.Proofs.YtgjeeghhhfpkoaaGreat
set_option linter.unusedVariables false
open Go.ChangeShapes Go.WideShapes Go.ChangeAt Go.RowKit Go.Deep

set_option maxRecDepth 100000 in
theorem coverTells_lifted (os : Os) (started : os.Started) (H : Type) (enc : TypeId × Value → H) :
    ReturnsInHanded {} Tryz.checked os 8 .any (Rows.coverTellsSpec.pre6 enc Tryz.prog Tryz.f8 Rows.coverTellsRow.domain false) (Rows.coverTellsSpec.post enc Tryz.prog Tryz.f8 false true false false) := by
  refine returnsInHanded_of_change (C := Tryz.checked) own started (by kernel_rfl) Tryz.func8
    (ChangeSpec.witness6 (enc := enc) (C := Tryz.checked) false ⟨#[], #[.agg #[.int .i64 0, .int .i64 0, .int .i64 0, .int .i64 0, .int .i64 0, .int .i64 0], .slice none 0 0, .slice none 0 0], []⟩ 8 (by kernel_rfl) (by kernel_rfl) (by kernel_rfl) (by kernel_rfl)) ?_
  intro W base args ds gs before hval0 hW _ _
  have hval : ∀ (j : Nat) t v, Tryz.f8.params[j]? = some t → args[j]? = some v → Value.okWide Tryz.prog W .any base t v := hval0
  have hW' := hW
  obtain ⟨p, q, hA0, hV, rfl, hfz, hnd⟩ := hW
  have hA : DataW.TrodAll enc Tryz.prog W 0 (fun _ => true) true Tryz.f8.params.toList args.toList ds p := hA0
  rw [Tryz.params8] at hA hval
  obtain ⟨v0, vs0, d0, ds0, p0_, q0_, hargs, rfl, rfl, h0, r0⟩ := trodAll_cons hA
  obtain ⟨v1, vs1, d1, ds1, p1_, q1_, rfl, rfl, rfl, h1, r1⟩ := trodAll_cons r0
  obtain ⟨v2, vs2, d2, ds2, p2_, q2_, rfl, rfl, rfl, h2, r2⟩ := trodAll_cons r1
  obtain ⟨rfl, rfl, rfl⟩ := trodAll_nil r2
  obtain rfl : args = #[v0, v1, v2] := by cases args; simp_all
  obtain ⟨rfl, rfl⟩ := trodVars_none hV
  obtain ⟨z0, rfl, G0⟩ := open_agg (opens_zn Tryz.underlying39 (by kernel_rfl) Tryz.underlying37 (by kernel_rfl)) (.inr ⟨_, _, Tryz.underlying39⟩) (hval 0 39 v0 rfl rfl) h0
  obtain ⟨x1, L1, c1, rfl, S1, G1⟩ := open_lst Tryz.underlying45 (opens_zn Tryz.underlying39 (by kernel_rfl) Tryz.underlying37 (by kernel_rfl)) (hval 1 45 v1 rfl rfl) h1
  obtain ⟨x2, L2, c2, rfl, S2, G2⟩ := open_lst Tryz.underlying45 (opens_zn Tryz.underlying39 (by kernel_rfl) Tryz.underlying37 (by kernel_rfl)) (hval 2 45 v2 rfl rfl) h2
  clear hA0 hval0
  exact (coverTells_walk z0 (ins_i64 G0) L1 L2 (fun z hz => ins_i64 (G1 z hz)) (fun z hz => ins_i64 (G2 z hz)) x1 x2 c1 c2 W S1 S2).mono fun e W' ⟨he, hg⟩ => ⟨_, he, law_post laidOut (by kernel_rfl) rfl rfl Tryz.underlying4 hW' rfl hg⟩

set_option maxRecDepth 100000 in
theorem coverTells_k1 : (Rows.coverTellsRow.inPlace == Tryz.pinned.checked.prog.inPlace 8) = true := by kernel_rfl
set_option maxRecDepth 100000 in
theorem coverTells_k2 : (Rows.coverTellsRow.unfollowed == Tryz.pinned.checked.prog.unfollowed 8) = true := by kernel_rfl
set_option maxRecDepth 100000 in
theorem coverTells_k3 : (Rows.coverTellsRow.recurses == Tryz.pinned.checked.prog.recurses 8) = true := by kernel_rfl
set_option maxRecDepth 100000 in
theorem coverTells_k4 : (Rows.coverTellsRow.named == Tryz.pinned.checked.prog.varsNamed 8) = true := by kernel_rfl
set_option maxRecDepth 100000 in
theorem coverTells_closed : joinedFacts Tryz.pinned.checked.prog 8 Tryz.f8 Rows.coverTellsSpec Rows.coverTellsRow = true := by
  unfold joinedFacts
  rw [coverTells_k1, coverTells_k2, coverTells_k3, coverTells_k4]
  kernel_rfl
set_option maxRecDepth 100000 in
theorem coverTells_over : Rows.coverTellsRow.holds Tryz.pinned (OpenSpec.ofChange Rows.coverTellsSpec) :=
  OpenClaim.holds_of_wide 8 Tryz.f8 rfl rfl rfl rfl rfl rfl rfl ⟨rfl, rfl, rfl, rfl, rfl⟩ rfl rfl rfl rfl rfl (by kernel_rfl) Tryz.func8 coverTells_closed
    (of_decide_eq_true (by kernel_rfl)) (by unfold Func.isWrapper; first | (rw [if_pos (by decide +kernel)]; kernel_rfl) | (rw [if_neg (by decide +kernel)]; exact ⟨rfl, rfl⟩))
    (fun os started H enc _ => coverTells_lifted os started H enc)

theorem coverTells.proved : Rows.CoverTellsSaid := coverTells_over
#print axioms coverTells.proved
end Go.Proofs.YtgjeeghhhfpkoaaGreat
