/-
  rallentando/rallentandolaw13.ZsetAsks: the law.
-/
import Derived.Test.YtodpgcdandechaaGreatLZsetAsks7
import Derived.Test.YtodpgcdandechaaGreatLZsetAsks3
import Derived.Test.YtodpgcdandechaaGreatLZsetAsks4
/-
  The walk of rallentandolaw13.ZsetAsks, by the engine.
-/
namespace Go.Proofs.YtodpgcdandechaaGreat
set_option linter.unusedVariables false
set_option linter.unusedSimpArgs false
set_option maxRecDepth 100000
open Go.RowKit Go.Proofs.YtodpgcdandechaaGreat.Eng Enc

namespace Zs
theorem ins_i64 {z : Zn} (h : Zn.ins z) : Zo.i64 z := by
  obtain ⟨h1, h2, h3, h4, h5, h6⟩ := h
  simp only [inK] at h1 h2 h3 h4 h5 h6
  intro b hb
  unfold Zo.matL at hb
  unfold Dbm.int64
  simp only [List.mem_cons, List.not_mem_nil, or_false] at hb
  omega
end Zs
theorem zsetAsks_walk (l m : List Zn) (hl : ∀ z, z ∈ l → Zo.i64 z) (hm : ∀ z, z ∈ m → Zo.i64 z) (s : Sp) (hs : s.ins) (lo hi : Int) (hlo : inK .i64 lo) (hhi : inK .i64 hi) (p : Pt) (hp : p.ins) (a b : Option Addr) (ca cb : Nat) (w : World) (hS : Sl w.heap.size w (.slice a l.length ca) l) (hT : Sl w.heap.size w (.slice b m.length cb) m) :
    Calls Tryz.prog 7 #[.slice a l.length ca, .slice b m.length cb, .agg #[.int .i64 s.lo, .bool s.ls, .int .i64 s.hi, .bool s.hs, .bool s.op], .int .i64 lo, .int .i64 hi, .agg #[.int .i64 p.t.num, .int .i64 p.t.den, .int .i64 p.u.num, .int .i64 p.u.den]] w fun e w' => e = .returned (.bool true) ∧ Below w.heap.size w w' := by
  refine fun_eq 0 w Tryz.func7 (args := [.val (.slice a l.length ca), .val (.slice b m.length cb), .agg [.val (.int .i64 s.lo), .val (.bool s.ls), .val (.int .i64 s.hi), .val (.bool s.hs), .val (.bool s.op)], .val (.int .i64 lo), .val (.int .i64 hi), .agg [.val (.int .i64 p.t.num), .val (.int .i64 p.t.den), .val (.int .i64 p.u.num), .val (.int .i64 p.u.den)]]) rfl rfl ?_
  have st := Stay.first (w := w)
  refine NewI.mk fun b1 hb1 => ?_
  refine NewI.mk fun b2 hb2 => ?_
  refine Branch.mk (fun hc => ?_) (fun hc => ?_)
  · exact EndI.mk fun w9 h9 => rfl
  refine Branch.mk (fun hc2 => ?_) (fun hc2 => ?_)
  · exact EndI.mk fun w9 h9 => rfl
  apply CallI.use
  focus (exact fun w11 h11 => zswithin_any l s hs a ca w11 (hS.st (st.at h11 (fun x hx => by simp at hx <;> omega))))
  rintro v w11 v11 h11 hB11 ⟨a1, c1, rfl, hO1⟩
  have st := st.next h11 (fun x hx => by simp at hx <;> omega) hB11
  apply CallI.use
  focus (exact fun w12 h12 => rwithin13_any l hl s a ca w12 (hS.st (st.at h12 (fun x hx => by simp at hx <;> omega))))
  rintro v w12 v12 h12 hB12 ⟨a2, c2, rfl, hO2⟩
  have st := st.next h12 (fun x hx => by simp at hx <;> omega) hB12
  apply CallI.use
  focus (exact fun w13 h13 => zswindow_any l lo hi hlo hhi a ca w13 (hS.st (st.at h13 (fun x hx => by simp at hx <;> omega))))
  rintro v w13 v13 h13 hB13 ⟨a3, c3, rfl, hO3⟩
  have st := st.next h13 (fun x hx => by simp at hx <;> omega) hB13
  apply CallI.use
  focus (exact fun w14 h14 => rwindow13_any l hl lo hi a ca w14 (hS.st (st.at h14 (fun x hx => by simp at hx <;> omega))))
  rintro v w14 v14 h14 hB14 ⟨a4, c4, rfl, hO4⟩
  have st := st.next h14 (fun x hx => by simp at hx <;> omega) hB14
  apply CallI.use1
  focus (exact fun w15 h15 => zsin_any l m a b ca cb w15 (hS.st (st.at h15 (fun x hx => by simp at hx <;> omega))) (hT.st (st.at h15 (fun x hx => by simp at hx <;> omega))))
  intro w15 v15 h15 hB15
  have st := st.next h15 (fun x hx => by simp at hx <;> omega) hB15
  apply CallI.use1
  focus (exact fun w16 h16 => rin13_any l m hl hm a b ca cb w16 (hS.st (st.at h16 (fun x hx => by simp at hx <;> omega))) (hT.st (st.at h16 (fun x hx => by simp at hx <;> omega))))
  intro w16 v16 h16 hB16
  have st := st.next h16 (fun x hx => by simp at hx <;> omega) hB16
  apply CallI.use1
  focus (exact fun w17 h17 => zssame_any l m a b ca cb w17 (hS.st (st.at h17 (fun x hx => by simp at hx <;> omega))) (hT.st (st.at h17 (fun x hx => by simp at hx <;> omega))))
  intro w17 v17 h17 hB17
  have st := st.next h17 (fun x hx => by simp at hx <;> omega) hB17
  apply CallI.use1
  focus (exact fun w18 h18 => rsame13_any l m hl hm a b ca cb w18 (hS.st (st.at h18 (fun x hx => by simp at hx <;> omega))) (hT.st (st.at h18 (fun x hx => by simp at hx <;> omega))))
  intro w18 v18 h18 hB18
  have st := st.next h18 (fun x hx => by simp at hx <;> omega) hB18
  apply CallI.use1
  focus (exact fun w19 h19 => zshas_any l p hp a ca w19 (hS.st (st.at h19 (fun x hx => by simp at hx <;> omega))))
  intro w19 v19 h19 hB19
  have st := st.next h19 (fun x hx => by simp at hx <;> omega) hB19
  apply CallI.use1
  focus (exact fun w20 h20 => rhas13_any l hl p hp a ca w20 (hS.st (st.at h20 (fun x hx => by simp at hx <;> omega))))
  intro w20 v20 h20 hB20
  have st := st.next h20 (fun x hx => by simp at hx <;> omega) hB20
  apply CallI.use1
  focus (exact fun w21 h21 => same11_any (Zs.within l s).1 (Zs.within l s).1 a1 c1 a2 c2 w21 ((hO1.st (st.at h21 (fun x hx => by simp at hx <;> omega))).sl) ((hO2.st (st.at h21 (fun x hx => by simp at hx <;> omega))).sl))
  intro w21 v21 h21 hB21
  have st := st.next h21 (fun x hx => by simp at hx <;> omega) hB21
  refine Branch.yes (by simp) ?_
  refine Branch.yes (by simp) ?_
  apply CallI.use1
  focus (exact fun w22 h22 => same11_any (Zs.window l lo hi).1 (Zs.window l lo hi).1 a3 c3 a4 c4 w22 ((hO3.st (st.at h22 (fun x hx => by simp at hx <;> omega))).sl) ((hO4.st (st.at h22 (fun x hx => by simp at hx <;> omega))).sl))
  intro w22 v22 h22 hB22
  have st := st.next h22 (fun x hx => by simp at hx <;> omega) hB22
  refine Branch.yes (by simp) ?_
  refine Branch.yes (by simp) ?_
  refine Branch.yes (by simp) ?_
  refine Branch.yes (by simp) ?_
  refine Branch.yes (by simp) ?_
  refine Branch.yes (by simp) ?_
  refine Branch.yes (by simp) ?_
  exact EndI.mk fun w9 h9 => by simp
end Go.Proofs.YtodpgcdandechaaGreat

/-
  rallentando/rallentandolaw13.ZsetAsks: the law.
-/
namespace Go.Proofs.YtodpgcdandechaaGreat
set_option linter.unusedVariables false
open Go.ChangeShapes Go.WideShapes Go.ChangeAt Go.RowKit Go.Deep

set_option maxRecDepth 100000 in
theorem zsetAsks_lifted (os : Os) (started : os.Started) (H : Type) (enc : TypeId × Value → H) :
    ReturnsInHanded {} Tryz.checked os 7 .any (Rows.zsetAsksSpec.pre6 enc Tryz.prog Tryz.f7 Rows.zsetAsksRow.domain false) (Rows.zsetAsksSpec.post enc Tryz.prog Tryz.f7 false true false false) := by
  refine returnsInHanded_of_change (C := Tryz.checked) own started (by kernel_rfl) Tryz.func7
    (ChangeSpec.witness6 (enc := enc) (C := Tryz.checked) false ⟨#[], #[.slice none 0 0, .slice none 0 0, .agg #[.int .i64 0, .bool false, .int .i64 0, .bool false, .bool false], .int .i64 0, .int .i64 0, .agg #[.int .i64 0, .int .i64 0, .int .i64 0, .int .i64 0]], []⟩ 8 (by kernel_rfl) (by kernel_rfl) (by kernel_rfl) (by kernel_rfl)) ?_
  intro W base args ds gs before hval0 hW _ _
  have hval : ∀ (j : Nat) t v, Tryz.f7.params[j]? = some t → args[j]? = some v → Value.okWide Tryz.prog W .any base t v := hval0
  have hW' := hW
  obtain ⟨p, q, hA0, hV, rfl, hfz, hnd⟩ := hW
  have hA : DataW.TrodAll enc Tryz.prog W 0 (fun _ => true) true Tryz.f7.params.toList args.toList ds p := hA0
  rw [Tryz.params7] at hA hval
  obtain ⟨v0, vs0, d0, ds0, p0_, q0_, hargs, rfl, rfl, h0, r0⟩ := trodAll_cons hA
  obtain ⟨v1, vs1, d1, ds1, p1_, q1_, rfl, rfl, rfl, h1, r1⟩ := trodAll_cons r0
  obtain ⟨v2, vs2, d2, ds2, p2_, q2_, rfl, rfl, rfl, h2, r2⟩ := trodAll_cons r1
  obtain ⟨v3, vs3, d3, ds3, p3_, q3_, rfl, rfl, rfl, h3, r3⟩ := trodAll_cons r2
  obtain ⟨v4, vs4, d4, ds4, p4_, q4_, rfl, rfl, rfl, h4, r4⟩ := trodAll_cons r3
  obtain ⟨v5, vs5, d5, ds5, p5_, q5_, rfl, rfl, rfl, h5, r5⟩ := trodAll_cons r4
  obtain ⟨rfl, rfl, rfl⟩ := trodAll_nil r5
  obtain rfl : args = #[v0, v1, v2, v3, v4, v5] := by cases args; simp_all
  obtain ⟨rfl, rfl⟩ := trodVars_none hV
  obtain ⟨x0, L0, c0, rfl, S0, G0⟩ := open_lst Tryz.underlying45 (opens_zn Tryz.underlying39 (by kernel_rfl) Tryz.underlying37 (by kernel_rfl)) (hval 0 45 v0 rfl rfl) h0
  obtain ⟨x1, L1, c1, rfl, S1, G1⟩ := open_lst Tryz.underlying45 (opens_zn Tryz.underlying39 (by kernel_rfl) Tryz.underlying37 (by kernel_rfl)) (hval 1 45 v1 rfl rfl) h1
  obtain ⟨z2, rfl, G2⟩ := open_agg (opens_sp Tryz.underlying54 (by kernel_rfl) rfl rfl rfl rfl rfl (by kernel_rfl) (by kernel_rfl) (by kernel_rfl) (by kernel_rfl) (by kernel_rfl) Tryz.underlying3 Tryz.underlying4 Tryz.underlying3 Tryz.underlying4 Tryz.underlying4) (.inl ⟨_, Tryz.underlying54⟩) (hval 2 54 v2 rfl rfl) h2
  obtain ⟨a3, rfl, rfl, rfl, w3⟩ := open_int Tryz.underlying3 (hval 3 3 v3 rfl rfl) h3
  obtain ⟨a4, rfl, rfl, rfl, w4⟩ := open_int Tryz.underlying3 (hval 4 3 v4 rfl rfl) h4
  obtain ⟨z5, rfl, G5⟩ := open_agg (opens_pt Tryz.underlying25 (by kernel_rfl) rfl rfl (opens_rt Tryz.underlying23 (by kernel_rfl) rfl rfl (by kernel_rfl) (by kernel_rfl) Tryz.underlying3 Tryz.underlying3) (opens_rt Tryz.underlying23 (by kernel_rfl) rfl rfl (by kernel_rfl) (by kernel_rfl) Tryz.underlying3 Tryz.underlying3)) (.inl ⟨_, Tryz.underlying25⟩) (hval 5 25 v5 rfl rfl) h5
  clear hA0 hval0
  exact (zsetAsks_walk L0 L1 (fun z hz => Zs.ins_i64 (G0 z hz)) (fun z hz => Zs.ins_i64 (G1 z hz)) z2 G2 a3 a4 (inK_wf w3) (inK_wf w4) z5 G5 x0 x1 c0 c1 W S0 S1).mono fun e W' ⟨he, hg⟩ => ⟨_, he, law_post laidOut (by kernel_rfl) rfl rfl Tryz.underlying4 hW' rfl hg⟩

set_option maxRecDepth 100000 in
theorem zsetAsks_k1 : (Rows.zsetAsksRow.inPlace == Tryz.pinned.checked.prog.inPlace 7) = true := by kernel_rfl
set_option maxRecDepth 100000 in
theorem zsetAsks_k2 : (Rows.zsetAsksRow.unfollowed == Tryz.pinned.checked.prog.unfollowed 7) = true := by kernel_rfl
set_option maxRecDepth 100000 in
theorem zsetAsks_k3 : (Rows.zsetAsksRow.recurses == Tryz.pinned.checked.prog.recurses 7) = true := by kernel_rfl
set_option maxRecDepth 100000 in
theorem zsetAsks_k4 : (Rows.zsetAsksRow.named == Tryz.pinned.checked.prog.varsNamed 7) = true := by kernel_rfl
set_option maxRecDepth 100000 in
theorem zsetAsks_closed : joinedFacts Tryz.pinned.checked.prog 7 Tryz.f7 Rows.zsetAsksSpec Rows.zsetAsksRow = true := by
  unfold joinedFacts
  rw [zsetAsks_k1, zsetAsks_k2, zsetAsks_k3, zsetAsks_k4]
  kernel_rfl
set_option maxRecDepth 100000 in
theorem zsetAsks_over : Rows.zsetAsksRow.holds Tryz.pinned (OpenSpec.ofChange Rows.zsetAsksSpec) :=
  OpenClaim.holds_of_wide 7 Tryz.f7 rfl rfl rfl rfl rfl rfl rfl ⟨rfl, rfl, rfl, rfl, rfl⟩ rfl rfl rfl rfl rfl (by kernel_rfl) Tryz.func7 zsetAsks_closed
    (of_decide_eq_true (by kernel_rfl)) (by unfold Func.isWrapper; first | (rw [if_pos (by decide +kernel)]; kernel_rfl) | (rw [if_neg (by decide +kernel)]; exact ⟨rfl, rfl⟩))
    (fun os started H enc _ => zsetAsks_lifted os started H enc)

theorem zsetAsks.proved : Rows.ZsetAsksSaid := zsetAsks_over
#print axioms zsetAsks.proved
end Go.Proofs.YtodpgcdandechaaGreat

