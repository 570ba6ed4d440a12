/-
  rallentando/rallentandolaw13.ZsetPoints: the law.
-/
import Derived.Test.YtgjeeghhhfpkoaaGreatB7
import Derived.Test.YtgjeeghhhfpkoaaGreatB3
/-
  The walk of rallentandolaw13.ZsetPoints, by the engine.
-/
namespace Go.Proofs.YtgjeeghhhfpkoaaGreat
set_option linter.unusedVariables false
set_option linter.unusedSimpArgs false
set_option maxRecDepth 100000
open Go.RowKit Go.Proofs.YtgjeeghhhfpkoaaGreat.Eng Enc

namespace Zs
/-- a set has its points. -/
theorem points_law {l m : List Zn} {p : Pt} (h1 : (has l p).2 = 0) (h2 : (has m p).2 = 0) :
    ((or l m).2 = 0 → (has (or l m).1 p).2 = 0 ∧ (has (or l m).1 p).1 = ((has l p).1 || (has m p).1) ∧ wanted (or l m).1 = true) ∧
    ((and l m).2 = 0 → (has (and l m).1 p).2 = 0 ∧ (has (and l m).1 p).1 = ((has l p).1 && (has m p).1) ∧ wanted (and l m).1 = true) := by
  obtain ⟨_, ht, hu, k1⟩ := has_ok h1
  obtain ⟨_, _, _, k2⟩ := has_ok h2
  constructor
  · intro h
    obtain ⟨_, hf, hp⟩ := or_ok h
    have he := has_err0 hf ht hu
    obtain ⟨_, _, _, k3⟩ := has_ok he
    refine ⟨he, ?_, hf.wanted⟩
    rw [Bool.eq_iff_iff, k3, hp, Bool.or_eq_true, k1, k2]
  · intro h
    obtain ⟨_, hf, hp⟩ := and_ok h
    have he := has_err0 hf ht hu
    obtain ⟨_, _, _, k3⟩ := has_ok he
    refine ⟨he, ?_, hf.wanted⟩
    rw [Bool.eq_iff_iff, k3, hp, Bool.and_eq_true, k1, k2]
end Zs
set_option maxHeartbeats 2000000 in
theorem zsetPoints_walk (l m : List Zn) (p : Pt) (hp : p.ins) (a b : Option Addr) (ca cb : Nat) (w : World) (hS : Sl w.heap.size w (.slice a l.length ca) l) (hT : Sl w.heap.size w (.slice b m.length cb) m) :
    Calls Tryz.prog 13 #[.slice a l.length ca, .slice b m.length cb, .agg #[.int .i64 p.t.num, .int .i64 p.t.den, .int .i64 p.u.num, .int .i64 p.u.den]] w fun e w' => e = .returned (.bool true) ∧ Below w.heap.size w w' := by
  refine fun_eq 0 w Tryz.func13 (args := [.val (.slice a l.length ca), .val (.slice b m.length cb), .agg [.val (.int .i64 p.t.num), .val (.int .i64 p.t.den), .val (.int .i64 p.u.num), .val (.int .i64 p.u.den)]]) rfl rfl ?_
  have st := Stay.first (w := w)
  refine NewI.mk fun b1 hb1 => ?_
  apply CallI.use1
  focus (exact fun w1 h1 => alive13_any w1)
  intro w1 v1 h1 hB1
  have st := st.next h1 (fun x hx => by simp at hx <;> omega) hB1
  refine Branch.mk (fun hc => ?_) (fun hc => ?_)
  · exact EndI.mk fun w9 h9 => rfl
  refine Branch.mk (fun hc2 => ?_) (fun hc2 => ?_)
  · exact EndI.mk fun w9 h9 => rfl
  refine Branch.no rfl ?_
  apply CallI.use1
  focus (exact fun w2 h2 => zshas_any l p hp a ca w2 (hS.st (st.at h2 (fun x hx => by simp at hx <;> omega))))
  intro w2 v2 h2 hB2
  have st := st.next h2 (fun x hx => by simp at hx <;> omega) hB2
  apply CallI.use1
  focus (exact fun w3 h3 => zshas_any m p hp b cb w3 (hT.st (st.at h3 (fun x hx => by simp at hx <;> omega))))
  intro w3 v3 h3 hB3
  have st := st.next h3 (fun x hx => by simp at hx <;> omega) hB3
  refine Branch.mk (fun hc3 => ?_) (fun hc3 => ?_)
  · exact EndI.mk fun w9 h9 => rfl
  have e1 : (Zs.has l p).2 = 0 := by simpa using hc3
  refine Branch.mk (fun hc4 => ?_) (fun hc4 => ?_)
  · exact EndI.mk fun w9 h9 => rfl
  have e2 : (Zs.has m p).2 = 0 := by simpa using hc4
  obtain ⟨k1, k2⟩ := Zs.points_law e1 e2
  apply CallI.use
  focus (exact fun w4 h4 => zsor_any l m a b ca cb w4 (hS.st (st.at h4 (fun x hx => by simp at hx <;> omega))) (hT.st (st.at h4 (fun x hx => by simp at hx <;> omega))))
  rintro v w4 v4 h4 hB4 ⟨a4, c4, rfl, hO4⟩
  have st := st.next h4 (fun x hx => by simp at hx <;> omega) hB4
  apply CallI.use
  focus (exact fun w5 h5 => zsand_any l m a b ca cb w5 (hS.st (st.at h5 (fun x hx => by simp at hx <;> omega))) (hT.st (st.at h5 (fun x hx => by simp at hx <;> omega))))
  rintro v w5 v5 h5 hB5 ⟨a5, c5, rfl, hO5⟩
  have st := st.next h5 (fun x hx => by simp at hx <;> omega) hB5
  apply CallI.use1
  focus (exact fun w6 h6 => zshas_any (Zs.or l m).1 p hp a4 c4 w6 ((hO4.st (st.at h6 (fun x hx => by simp at hx <;> omega))).sl))
  intro w6 v6 h6 hB6
  have st := st.next h6 (fun x hx => by simp at hx <;> omega) hB6
  apply CallI.use1
  focus (exact fun w7 h7 => zshas_any (Zs.and l m).1 p hp a5 c5 w7 ((hO5.st (st.at h7 (fun x hx => by simp at hx <;> omega))).sl))
  intro w7 v7 h7 hB7
  have st := st.next h7 (fun x hx => by simp at hx <;> omega) hB7
  generalize Zs.or l m = X at *
  generalize Zs.and l m = Y at *
  obtain ⟨x, ex⟩ := X
  obtain ⟨y, ey⟩ := Y
  simp only at k1 k2 hO4 hO5
  have hw6 := fun (w : World) (h : Sl w.heap.size w (.slice a4 x.length c4) x) => wanted13_any x a4 c4 w h
  have hw7 := fun (w : World) (h : Sl w.heap.size w (.slice a5 y.length c5) y) => wanted13_any y a5 c5 w h
  clear hc hc2 hc3 hc4 hS hT
  generalize Zs.has l p = HL at *
  generalize Zs.has m p = HM at *
  obtain ⟨A, ea⟩ := HL
  obtain ⟨B, eb⟩ := HM
  simp only at k1 k2
  by_cases hx : ex = 0
  · obtain ⟨i1, i2, i3⟩ := k1 hx
    rw [i3] at hw6
    simp only
    rw [i1, i2]
    refine Branch.yes (by simp [hx]) ?_
    refine Branch.no rfl ?_
    by_cases hy : ey = 0
    · obtain ⟨j1, j2, j3⟩ := k2 hy
      rw [j3] at hw7
      rw [j1, j2]
      cases A <;> cases B
      all_goals (
        repeat (first | (refine Branch.no rfl ?_) | (refine Branch.yes rfl ?_))
        apply CallI.use1
        focus (exact fun w8 h8 => hw6 w8 ((hO4.st (st.at h8 (fun x hx => by simp at hx <;> omega))).sl))
        intro w8 v8 h8 hB8
        have st := st.next h8 (fun x hx => by simp at hx <;> omega) hB8
        refine Branch.no rfl ?_
        refine Branch.no (by simp [hy]) ?_
        repeat (first | (refine Branch.yes rfl ?_) | (refine Branch.no rfl ?_))
        apply CallI.use1
        focus (exact fun w9 h9 => hw7 w9 ((hO5.st (st.at h9 (fun x hx => by simp at hx <;> omega))).sl))
        intro w9 v9 h9 hB9
        have st := st.next h9 (fun x hx => by simp at hx <;> omega) hB9
        exact EndI.mk fun w9 h9 => rfl)
    · cases A <;> cases B
      all_goals (
        repeat (first | (refine Branch.no rfl ?_) | (refine Branch.yes rfl ?_))
        apply CallI.use1
        focus (exact fun w8 h8 => hw6 w8 ((hO4.st (st.at h8 (fun x hx => by simp at hx <;> omega))).sl))
        intro w8 v8 h8 hB8
        have st := st.next h8 (fun x hx => by simp at hx <;> omega) hB8
        refine Branch.no rfl ?_
        refine Branch.yes (by simp [hy]) ?_
        exact EndI.mk fun w9 h9 => rfl)
  · refine Branch.no (by simp [hx]) ?_
    by_cases hy : ey = 0
    · obtain ⟨j1, j2, j3⟩ := k2 hy
      rw [j3] at hw7
      simp only
      rw [j1, j2]
      refine Branch.no (by simp [hy]) ?_
      cases A <;> cases B
      all_goals (
        repeat (first | (refine Branch.yes rfl ?_) | (refine Branch.no rfl ?_))
        apply CallI.use1
        focus (exact fun w9 h9 => hw7 w9 ((hO5.st (st.at h9 (fun x hx => by simp at hx <;> omega))).sl))
        intro w9 v9 h9 hB9
        have st := st.next h9 (fun x hx => by simp at hx <;> omega) hB9
        exact EndI.mk fun w9 h9 => rfl)
    · refine Branch.yes (by simp [hy]) ?_
      exact EndI.mk fun w9 h9 => rfl
end Go.Proofs.YtgjeeghhhfpkoaaGreat

/-
  rallentando/rallentandolaw13.ZsetPoints: the law.
-/
namespace Go.Proofs.YtgjeeghhhfpkoaaGreat
set_option linter.unusedVariables false
open Go.ChangeShapes Go.WideShapes Go.ChangeAt Go.RowKit Go.Deep

set_option maxRecDepth 100000 in
theorem zsetPoints_lifted (os : Os) (started : os.Started) (H : Type) (enc : TypeId × Value → H) :
    ReturnsInHanded {} Tryz.checked os 13 .any (Rows.zsetPointsSpec.pre6 enc Tryz.prog Tryz.f13 Rows.zsetPointsRow.domain false) (Rows.zsetPointsSpec.post enc Tryz.prog Tryz.f13 false true false false) := by
  refine returnsInHanded_of_change (C := Tryz.checked) own started (by kernel_rfl) Tryz.func13
    (ChangeSpec.witness6 (enc := enc) (C := Tryz.checked) false ⟨#[], #[.slice none 0 0, .slice none 0 0, .agg #[.int .i64 0, .int .i64 0, .int .i64 0, .int .i64 0]], []⟩ 8 (by kernel_rfl) (by kernel_rfl) (by kernel_rfl) (by kernel_rfl)) ?_
  intro W base args ds gs before hval0 hW _ _
  have hval : ∀ (j : Nat) t v, Tryz.f13.params[j]? = some t → args[j]? = some v → Value.okWide Tryz.prog W .any base t v := hval0
  have hW' := hW
  obtain ⟨p, q, hA0, hV, rfl, hfz, hnd⟩ := hW
  have hA : DataW.TrodAll enc Tryz.prog W 0 (fun _ => true) true Tryz.f13.params.toList args.toList ds p := hA0
  rw [Tryz.params13] at hA hval
  obtain ⟨v0, vs0, d0, ds0, p0_, q0_, hargs, rfl, rfl, h0, r0⟩ := trodAll_cons hA
  obtain ⟨v1, vs1, d1, ds1, p1_, q1_, rfl, rfl, rfl, h1, r1⟩ := trodAll_cons r0
  obtain ⟨v2, vs2, d2, ds2, p2_, q2_, rfl, rfl, rfl, h2, r2⟩ := trodAll_cons r1
  obtain ⟨rfl, rfl, rfl⟩ := trodAll_nil r2
  obtain rfl : args = #[v0, v1, v2] := by cases args; simp_all
  obtain ⟨rfl, rfl⟩ := trodVars_none hV
  obtain ⟨x0, L0, c0, rfl, S0, G0⟩ := open_lst Tryz.underlying45 (opens_zn Tryz.underlying39 (by kernel_rfl) Tryz.underlying37 (by kernel_rfl)) (hval 0 45 v0 rfl rfl) h0
  obtain ⟨x1, L1, c1, rfl, S1, G1⟩ := open_lst Tryz.underlying45 (opens_zn Tryz.underlying39 (by kernel_rfl) Tryz.underlying37 (by kernel_rfl)) (hval 1 45 v1 rfl rfl) h1
  obtain ⟨z2, rfl, G2⟩ := open_agg (opens_pt Tryz.underlying25 (by kernel_rfl) rfl rfl (opens_rt Tryz.underlying23 (by kernel_rfl) rfl rfl (by kernel_rfl) (by kernel_rfl) Tryz.underlying3 Tryz.underlying3) (opens_rt Tryz.underlying23 (by kernel_rfl) rfl rfl (by kernel_rfl) (by kernel_rfl) Tryz.underlying3 Tryz.underlying3)) (.inl ⟨_, Tryz.underlying25⟩) (hval 2 25 v2 rfl rfl) h2
  clear hA0 hval0
  exact (zsetPoints_walk L0 L1 z2 G2 x0 x1 c0 c1 W S0 S1).mono fun e W' ⟨he, hg⟩ => ⟨_, he, law_post laidOut (by kernel_rfl) rfl rfl Tryz.underlying4 hW' rfl hg⟩

set_option maxRecDepth 100000 in
theorem zsetPoints_k1 : (Rows.zsetPointsRow.inPlace == Tryz.pinned.checked.prog.inPlace 13) = true := by kernel_rfl
set_option maxRecDepth 100000 in
theorem zsetPoints_k2 : (Rows.zsetPointsRow.unfollowed == Tryz.pinned.checked.prog.unfollowed 13) = true := by kernel_rfl
set_option maxRecDepth 100000 in
theorem zsetPoints_k3 : (Rows.zsetPointsRow.recurses == Tryz.pinned.checked.prog.recurses 13) = true := by kernel_rfl
set_option maxRecDepth 100000 in
theorem zsetPoints_k4 : (Rows.zsetPointsRow.named == Tryz.pinned.checked.prog.varsNamed 13) = true := by kernel_rfl
set_option maxRecDepth 100000 in
theorem zsetPoints_closed : joinedFacts Tryz.pinned.checked.prog 13 Tryz.f13 Rows.zsetPointsSpec Rows.zsetPointsRow = true := by
  unfold joinedFacts
  rw [zsetPoints_k1, zsetPoints_k2, zsetPoints_k3, zsetPoints_k4]
  kernel_rfl
set_option maxRecDepth 100000 in
theorem zsetPoints_over : Rows.zsetPointsRow.holds Tryz.pinned (OpenSpec.ofChange Rows.zsetPointsSpec) :=
  OpenClaim.holds_of_wide 13 Tryz.f13 rfl rfl rfl rfl rfl rfl rfl ⟨rfl, rfl, rfl, rfl, rfl⟩ rfl rfl rfl rfl rfl (by kernel_rfl) Tryz.func13 zsetPoints_closed
    (of_decide_eq_true (by kernel_rfl)) (by unfold Func.isWrapper; first | (rw [if_pos (by decide +kernel)]; kernel_rfl) | (rw [if_neg (by decide +kernel)]; exact ⟨rfl, rfl⟩))
    (fun os started H enc _ => zsetPoints_lifted os started H enc)

theorem zsetPoints.proved : Rows.ZsetPointsSaid := zsetPoints_over
#print axioms zsetPoints.proved
end Go.Proofs.YtgjeeghhhfpkoaaGreat

