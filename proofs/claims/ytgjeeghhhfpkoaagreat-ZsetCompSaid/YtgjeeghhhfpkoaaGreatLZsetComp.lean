/-
  rallentando/rallentandolaw13.ZsetComp: the law.
-/
import Derived.Test.YtgjeeghhhfpkoaaGreatB7
import Derived.Test.YtgjeeghhhfpkoaaGreatB8
import Derived.Test.YtgjeeghhhfpkoaaGreatB10
import Derived.Test.YtgjeeghhhfpkoaaGreatB3
/-
  The walk of rallentandolaw13.ZsetComp, by the engine.
-/
namespace Go.Proofs.YtgjeeghhhfpkoaaGreat
set_option linter.unusedVariables false
set_option linter.unusedSimpArgs false
set_option maxRecDepth 100000
open Go.RowKit Go.Proofs.YtgjeeghhhfpkoaaGreat.Eng Enc

namespace Zs
open Mi
theorem compLaw (l m n : List Zn) (h1 : (or l m).2 = 0) (h2 : (comp (or l m).1 n).2 = 0) (h3 : (comp l n).2 = 0) (h4 : (comp m n).2 = 0) (h5 : (or (comp l n).1 (comp m n).1).2 = 0)
    (h6 : (same (comp (or l m).1 n).1 (or (comp l n).1 (comp m n).1).1).2 = 0) : (same (comp (or l m).1 n).1 (or (comp l n).1 (comp m n).1).1).1 = true := by
  refine same_pts h6 fun t => ?_
  rw [(or_ok h5).2.2 t, (comp_pts h3).2 t, (comp_pts h4).2 t, (comp_pts h2).2 t]
  have ho := (or_ok h1).2.2
  unfold Cmp.Thru
  constructor
  · rintro ⟨s, k1, k2⟩
    rcases (ho _).1 k1 with k | k
    · exact .inl ⟨s, k, k2⟩
    · exact .inr ⟨s, k, k2⟩
  · rintro (⟨s, k1, k2⟩ | ⟨s, k1, k2⟩)
    · exact ⟨s, (ho _).2 (.inl k1), k2⟩
    · exact ⟨s, (ho _).2 (.inr k1), k2⟩
end Zs
set_option maxHeartbeats 8000000 in
theorem zsetComp_walk (l m n : List Zn) (a b c : Option Addr) (ca cb cc : Nat) (w : World) (hS : Sl w.heap.size w (.slice a l.length ca) l) (hT : Sl w.heap.size w (.slice b m.length cb) m) (hU : Sl w.heap.size w (.slice c n.length cc) n) :
    Calls Tryz.prog 10 #[.slice a l.length ca, .slice b m.length cb, .slice c n.length cc] w fun e w' => e = .returned (.bool true) ∧ Below w.heap.size w w' := by
  refine fun_eq 0 w Tryz.func10 (args := [.val (.slice a l.length ca), .val (.slice b m.length cb), .val (.slice c n.length cc)]) rfl rfl ?_
  have st := Stay.first (w := w)
  apply CallI.use1
  focus (exact fun w1 h1 => alive13_any w1)
  intro w1 v1 h1 hB1
  have st := st.next h1 (fun x hx => by simp at hx <;> omega) hB1
  refine Branch.mk (fun hc => ?_) (fun hc => ?_)
  · exact EndI.mk fun w9 h9 => rfl
  refine Branch.mk (fun hc2 => ?_) (fun hc2 => ?_)
  · exact EndI.mk fun w9 h9 => rfl
  refine Branch.mk (fun hc3 => ?_) (fun hc3 => ?_)
  · exact EndI.mk fun w9 h9 => rfl
  refine Branch.no rfl ?_
  apply CallI.use
  focus (exact fun w4 h4 => zsor_any l m a b ca cb w4 (hS.st (st.at h4 (fun x hx => by simp at hx <;> omega))) (hT.st (st.at h4 (fun x hx => by simp at hx <;> omega))))
  rintro v w4 v4 h4 hB4 ⟨a4, c4, rfl, hO4⟩
  have st := st.next h4 (fun x hx => by simp at hx <;> omega) hB4
  apply CallI.use
  focus (exact fun w5 h5 => zscomp_any (Zs.or l m).1 n a4 c c4 cc w5 ((hO4.st (st.at h5 (fun x hx => by simp at hx <;> omega))).sl) (hU.st (st.at h5 (fun x hx => by simp at hx <;> omega))))
  rintro v w5 v5 h5 hB5 ⟨a5, c5, rfl, hO5⟩
  have st := st.next h5 (fun x hx => by simp at hx <;> omega) hB5
  apply CallI.use
  focus (exact fun w6 h6 => zscomp_any l n a c ca cc w6 (hS.st (st.at h6 (fun x hx => by simp at hx <;> omega))) (hU.st (st.at h6 (fun x hx => by simp at hx <;> omega))))
  rintro v w6 v6 h6 hB6 ⟨a6, c6, rfl, hO6⟩
  have st := st.next h6 (fun x hx => by simp at hx <;> omega) hB6
  apply CallI.use
  focus (exact fun w7 h7 => zscomp_any m n b c cb cc w7 (hT.st (st.at h7 (fun x hx => by simp at hx <;> omega))) (hU.st (st.at h7 (fun x hx => by simp at hx <;> omega))))
  rintro v w7 v7 h7 hB7 ⟨a7, c7, rfl, hO7⟩
  have st := st.next h7 (fun x hx => by simp at hx <;> omega) hB7
  have law := Zs.compLaw l m n
  refine Branch.mk (fun z1 => ?_) (fun z1 => ?_)
  · exact EndI.mk fun w9 h9 => rfl
  refine Branch.mk (fun z2 => ?_) (fun z2 => ?_)
  · exact EndI.mk fun w9 h9 => rfl
  refine Branch.mk (fun z3 => ?_) (fun z3 => ?_)
  · exact EndI.mk fun w9 h9 => rfl
  refine Branch.mk (fun z4 => ?_) (fun z4 => ?_)
  · exact EndI.mk fun w9 h9 => rfl
  apply CallI.use
  focus (exact fun w8 h8 => zsor_any (Zs.comp l n).1 (Zs.comp m n).1 a6 a7 c6 c7 w8 ((hO6.st (st.at h8 (fun x hx => by simp at hx <;> omega))).sl) ((hO7.st (st.at h8 (fun x hx => by simp at hx <;> omega))).sl))
  rintro v w8 v8 h8 hB8 ⟨a8, c8, rfl, hO8⟩
  have st := st.next h8 (fun x hx => by simp at hx <;> omega) hB8
  apply CallI.use1
  focus (exact fun w9 h9 => zssame_any (Zs.comp (Zs.or l m).1 n).1 (Zs.or (Zs.comp l n).1 (Zs.comp m n).1).1 a5 a8 c5 c8 w9 ((hO5.st (st.at h9 (fun x hx => by simp at hx <;> omega))).sl) ((hO8.st (st.at h9 (fun x hx => by simp at hx <;> omega))).sl))
  intro w9 v9 h9 hB9
  have st := st.next h9 (fun x hx => by simp at hx <;> omega) hB9
  have law := law (by simpa using z1) (by simpa using z2) (by simpa using z3) (by simpa using z4)
  refine Branch.mk (fun z5 => ?_) (fun z5 => ?_)
  · exact EndI.mk fun w9 h9 => rfl
  refine Branch.mk (fun z6 => ?_) (fun z6 => ?_)
  · exact EndI.mk fun w9 h9 => rfl
  have law := law (by simpa using z5) (by simpa using z6)
  rw [law]
  exact EndI.mk fun w9 h9 => rfl
end Go.Proofs.YtgjeeghhhfpkoaaGreat

/-
  rallentando/rallentandolaw13.ZsetComp: the law.
-/
namespace Go.Proofs.YtgjeeghhhfpkoaaGreat
set_option linter.unusedVariables false
open Go.ChangeShapes Go.WideShapes Go.ChangeAt Go.RowKit Go.Deep

set_option maxRecDepth 100000 in
theorem zsetComp_lifted (os : Os) (started : os.Started) (H : Type) (enc : TypeId × Value → H) :
    ReturnsInHanded {} Tryz.checked os 10 .any (Rows.zsetCompSpec.pre6 enc Tryz.prog Tryz.f10 Rows.zsetCompRow.domain false) (Rows.zsetCompSpec.post enc Tryz.prog Tryz.f10 false true false false) := by
  refine returnsInHanded_of_change (C := Tryz.checked) own started (by kernel_rfl) Tryz.func10
    (ChangeSpec.witness6 (enc := enc) (C := Tryz.checked) false ⟨#[], #[.slice none 0 0, .slice none 0 0, .slice none 0 0], []⟩ 8 (by kernel_rfl) (by kernel_rfl) (by kernel_rfl) (by kernel_rfl)) ?_
  intro W base args ds gs before hval0 hW _ _
  have hval : ∀ (j : Nat) t v, Tryz.f10.params[j]? = some t → args[j]? = some v → Value.okWide Tryz.prog W .any base t v := hval0
  have hW' := hW
  obtain ⟨p, q, hA0, hV, rfl, hfz, hnd⟩ := hW
  have hA : DataW.TrodAll enc Tryz.prog W 0 (fun _ => true) true Tryz.f10.params.toList args.toList ds p := hA0
  rw [Tryz.params10] at hA hval
  obtain ⟨v0, vs0, d0, ds0, p0_, q0_, hargs, rfl, rfl, h0, r0⟩ := trodAll_cons hA
  obtain ⟨v1, vs1, d1, ds1, p1_, q1_, rfl, rfl, rfl, h1, r1⟩ := trodAll_cons r0
  obtain ⟨v2, vs2, d2, ds2, p2_, q2_, rfl, rfl, rfl, h2, r2⟩ := trodAll_cons r1
  obtain ⟨rfl, rfl, rfl⟩ := trodAll_nil r2
  obtain rfl : args = #[v0, v1, v2] := by cases args; simp_all
  obtain ⟨rfl, rfl⟩ := trodVars_none hV
  obtain ⟨x0, L0, c0, rfl, S0, G0⟩ := open_lst Tryz.underlying45 (opens_zn Tryz.underlying39 (by kernel_rfl) Tryz.underlying37 (by kernel_rfl)) (hval 0 45 v0 rfl rfl) h0
  obtain ⟨x1, L1, c1, rfl, S1, G1⟩ := open_lst Tryz.underlying45 (opens_zn Tryz.underlying39 (by kernel_rfl) Tryz.underlying37 (by kernel_rfl)) (hval 1 45 v1 rfl rfl) h1
  obtain ⟨x2, L2, c2, rfl, S2, G2⟩ := open_lst Tryz.underlying45 (opens_zn Tryz.underlying39 (by kernel_rfl) Tryz.underlying37 (by kernel_rfl)) (hval 2 45 v2 rfl rfl) h2
  clear hA0 hval0
  exact (zsetComp_walk L0 L1 L2 x0 x1 x2 c0 c1 c2 W S0 S1 S2).mono fun e W' ⟨he, hg⟩ => ⟨_, he, law_post laidOut (by kernel_rfl) rfl rfl Tryz.underlying4 hW' rfl hg⟩

set_option maxRecDepth 100000 in
theorem zsetComp_k1 : (Rows.zsetCompRow.inPlace == Tryz.pinned.checked.prog.inPlace 10) = true := by kernel_rfl
set_option maxRecDepth 100000 in
theorem zsetComp_k2 : (Rows.zsetCompRow.unfollowed == Tryz.pinned.checked.prog.unfollowed 10) = true := by kernel_rfl
set_option maxRecDepth 100000 in
theorem zsetComp_k3 : (Rows.zsetCompRow.recurses == Tryz.pinned.checked.prog.recurses 10) = true := by kernel_rfl
set_option maxRecDepth 100000 in
theorem zsetComp_k4 : (Rows.zsetCompRow.named == Tryz.pinned.checked.prog.varsNamed 10) = true := by kernel_rfl
set_option maxRecDepth 100000 in
theorem zsetComp_closed : joinedFacts Tryz.pinned.checked.prog 10 Tryz.f10 Rows.zsetCompSpec Rows.zsetCompRow = true := by
  unfold joinedFacts
  rw [zsetComp_k1, zsetComp_k2, zsetComp_k3, zsetComp_k4]
  kernel_rfl
set_option maxRecDepth 100000 in
theorem zsetComp_over : Rows.zsetCompRow.holds Tryz.pinned (OpenSpec.ofChange Rows.zsetCompSpec) :=
  OpenClaim.holds_of_wide 10 Tryz.f10 rfl rfl rfl rfl rfl rfl rfl ⟨rfl, rfl, rfl, rfl, rfl⟩ rfl rfl rfl rfl rfl (by kernel_rfl) Tryz.func10 zsetComp_closed
    (of_decide_eq_true (by kernel_rfl)) (by unfold Func.isWrapper; first | (rw [if_pos (by decide +kernel)]; kernel_rfl) | (rw [if_neg (by decide +kernel)]; exact ⟨rfl, rfl⟩))
    (fun os started H enc _ => zsetComp_lifted os started H enc)

theorem zsetComp.proved : Rows.ZsetCompSaid := zsetComp_over
#print axioms zsetComp.proved
end Go.Proofs.YtgjeeghhhfpkoaaGreat

