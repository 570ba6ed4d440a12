/-
  rallentando/rallentandolaw14.RegionTells: the law.
-/
import Derived.Test.YtodpgcdandechaaGreatB8
import Derived.Test.YtodpgcdandechaaGreatB7
import Derived.Test.YtodpgcdandechaaGreatB4
import Derived.Test.YtodpgcdandechaaGreatB3
/-
  The walk of rallentandolaw14.RegionTells, by the engine.
-/
namespace Go.Proofs.YtodpgcdandechaaGreat
set_option linter.unusedVariables false
set_option linter.unusedSimpArgs false
set_option maxRecDepth 100000
open Go.RowKit Go.Proofs.YtodpgcdandechaaGreat.Eng Enc

theorem regionTells_walk (p : Pt) (n long : Int) (hp : p.ins) (hn : inK .i64 n) (w : World) :
    Calls Tryz.prog 3 #[.agg #[.int .i64 p.t.num, .int .i64 p.t.den, .int .i64 p.u.num, .int .i64 p.u.den], .int .i64 n, .int .i64 long] w fun e w' => e = .returned (.bool true) ∧ Below w.heap.size w w' := by
  refine fun_eq 0 w Tryz.func3 (args := [.agg [.val (.int .i64 p.t.num), .val (.int .i64 p.t.den), .val (.int .i64 p.u.num), .val (.int .i64 p.u.den)], .val (.int .i64 n), .val (.int .i64 long)]) rfl rfl ?_
  refine NewI.mk fun b1 hb1 => ?_
  refine CallI.to1 (fun w => many_any long w) fun w1 => ?_
  refine CallI.to1 (fun w => rmany14_any long w) fun w2 => ?_
  refine CallI.to1 (fun w => gnumber_any p long hp w) fun w3 => ?_
  refine CallI.to1 (fun w => rasknumber14_any p long hp w) fun w4 => ?_
  refine CallI.to1 (fun w => rpoint_any n long w) fun w5 => ?_
  refine NewI.mk fun b2 hb2 => ?_
  refine CallI.to1 (fun w => rpoint14_any n long w) fun w6 => ?_
  refine NewI.mk fun b3 hb3 => ?_
  refine CallI.to1 (fun w => rzone_any n long hn w) fun w7 => ?_
  refine NewI.mk fun b4 hb4 => ?_
  refine CallI.to1 (fun w => rzone14_any n long w) fun w8 => ?_
  refine NewI.mk fun b5 hb5 => ?_
  refine Branch.yes (by simp) ?_
  refine Branch.yes (by simp) ?_
  refine Branch.yes (by simp) ?_
  refine Branch.yes (by simp) ?_
  refine GenV.to (fun w => run_eql_ptG _ _ (Rg.askPoint n long).1 (Rg.askPoint n long).1 w) fun u0 k0 => ?_
  refine Branch.yes (by simp) ?_
  refine Branch.yes (by simp) ?_
  refine GenV.to (fun w => run_eql_znG _ _ (Rg.zone n long).1 (Rg.zone n long).1 w) fun u1 k1 => ?_
  refine Branch.yes (by simp) ?_
  exact EndI.mk fun w9 h9 => by simp
end Go.Proofs.YtodpgcdandechaaGreat

/-
  rallentando/rallentandolaw14.RegionTells: the law.
-/
namespace Go.Proofs.YtodpgcdandechaaGreat
set_option linter.unusedVariables false
open Go.ChangeShapes Go.WideShapes Go.ChangeAt Go.RowKit Go.Deep

set_option maxRecDepth 100000 in
theorem regionTells_lifted (os : Os) (started : os.Started) (H : Type) (enc : TypeId × Value → H) :
    ReturnsInHanded {} Tryz.checked os 3 .any (Rows.regionTellsSpec.pre6 enc Tryz.prog Tryz.f3 Rows.regionTellsRow.domain false) (Rows.regionTellsSpec.post enc Tryz.prog Tryz.f3 false true false false) := by
  refine returnsInHanded_of_change (C := Tryz.checked) own started (by kernel_rfl) Tryz.func3
    (ChangeSpec.witness6 (enc := enc) (C := Tryz.checked) false ⟨#[], #[.agg #[.int .i64 0, .int .i64 0, .int .i64 0, .int .i64 0], .int .i64 0, .int .i64 0], []⟩ 8 (by kernel_rfl) (by kernel_rfl) (by kernel_rfl) (by kernel_rfl)) ?_
  intro W base args ds gs before hval0 hW _ _
  have hval : ∀ (j : Nat) t v, Tryz.f3.params[j]? = some t → args[j]? = some v → Value.okWide Tryz.prog W .any base t v := hval0
  have hW' := hW
  obtain ⟨p, q, hA0, hV, rfl, hfz, hnd⟩ := hW
  have hA : DataW.TrodAll enc Tryz.prog W 0 (fun _ => true) true Tryz.f3.params.toList args.toList ds p := hA0
  rw [Tryz.params3] at hA hval
  obtain ⟨v0, vs0, d0, ds0, p0_, q0_, hargs, rfl, rfl, h0, r0⟩ := trodAll_cons hA
  obtain ⟨v1, vs1, d1, ds1, p1_, q1_, rfl, rfl, rfl, h1, r1⟩ := trodAll_cons r0
  obtain ⟨v2, vs2, d2, ds2, p2_, q2_, rfl, rfl, rfl, h2, r2⟩ := trodAll_cons r1
  obtain ⟨rfl, rfl, rfl⟩ := trodAll_nil r2
  obtain rfl : args = #[v0, v1, v2] := by cases args; simp_all
  obtain ⟨rfl, rfl⟩ := trodVars_none hV
  obtain ⟨z0, rfl, G0⟩ := open_agg (opens_pt Tryz.underlying25 (by kernel_rfl) rfl rfl (opens_rt Tryz.underlying23 (by kernel_rfl) rfl rfl (by kernel_rfl) (by kernel_rfl) Tryz.underlying3 Tryz.underlying3) (opens_rt Tryz.underlying23 (by kernel_rfl) rfl rfl (by kernel_rfl) (by kernel_rfl) Tryz.underlying3 Tryz.underlying3)) (.inl ⟨_, Tryz.underlying25⟩) (hval 0 25 v0 rfl rfl) h0
  obtain ⟨a1, rfl, rfl, rfl, w1⟩ := open_int Tryz.underlying3 (hval 1 3 v1 rfl rfl) h1
  obtain ⟨a2, rfl, rfl, rfl, w2⟩ := open_int Tryz.underlying3 (hval 2 3 v2 rfl rfl) h2
  clear hA0 hval0
  exact (regionTells_walk z0 a1 a2 G0 (inK_wf w1) W).mono fun e W' ⟨he, hg⟩ => ⟨_, he, law_post laidOut (by kernel_rfl) rfl rfl Tryz.underlying4 hW' rfl hg⟩

set_option maxRecDepth 100000 in
theorem regionTells_k1 : (Rows.regionTellsRow.inPlace == Tryz.pinned.checked.prog.inPlace 3) = true := by kernel_rfl
set_option maxRecDepth 100000 in
theorem regionTells_k2 : (Rows.regionTellsRow.unfollowed == Tryz.pinned.checked.prog.unfollowed 3) = true := by kernel_rfl
set_option maxRecDepth 100000 in
theorem regionTells_k3 : (Rows.regionTellsRow.recurses == Tryz.pinned.checked.prog.recurses 3) = true := by kernel_rfl
set_option maxRecDepth 100000 in
theorem regionTells_k4 : (Rows.regionTellsRow.named == Tryz.pinned.checked.prog.varsNamed 3) = true := by kernel_rfl
set_option maxRecDepth 100000 in
theorem regionTells_closed : joinedFacts Tryz.pinned.checked.prog 3 Tryz.f3 Rows.regionTellsSpec Rows.regionTellsRow = true := by
  unfold joinedFacts
  rw [regionTells_k1, regionTells_k2, regionTells_k3, regionTells_k4]
  kernel_rfl
set_option maxRecDepth 100000 in
theorem regionTells_over : Rows.regionTellsRow.holds Tryz.pinned (OpenSpec.ofChange Rows.regionTellsSpec) :=
  OpenClaim.holds_of_wide 3 Tryz.f3 rfl rfl rfl rfl rfl rfl rfl ⟨rfl, rfl, rfl, rfl, rfl⟩ rfl rfl rfl rfl rfl (by kernel_rfl) Tryz.func3 regionTells_closed
    (of_decide_eq_true (by kernel_rfl)) (by unfold Func.isWrapper; first | (rw [if_pos (by decide +kernel)]; kernel_rfl) | (rw [if_neg (by decide +kernel)]; exact ⟨rfl, rfl⟩))
    (fun os started H enc _ => regionTells_lifted os started H enc)

theorem regionTells.proved : Rows.RegionTellsSaid := regionTells_over
#print axioms regionTells.proved
end Go.Proofs.YtodpgcdandechaaGreat

