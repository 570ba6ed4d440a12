/-
  rallentando/rallentandolaw25.CloseAgain: the law.
-/
import Derived.Test.YtjbhpfmnfdebkaaGreatLCloseAgain7
import Derived.Test.YtjbhpfmnfdebkaaGreatLCloseAgain3
/-
  rallentandolaw25: great; the walk of CloseAgain; by the engine.
-/
namespace Go.Proofs.YtjbhpfmnfdebkaaGreat
set_option linter.unusedVariables false
set_option linter.unusedSimpArgs false
set_option maxRecDepth 100000
open Go.RowKit Go.Proofs.YtjbhpfmnfdebkaaGreat.Eng Enc

namespace Cl
theorem ins_i64 {z : Zn} (h : Zn.ins z) : Zo.i64 z := by
  obtain ⟨h1, h2, h3, h4, h5, h6⟩ := h
  simp only [inK] at h1 h2 h3 h4 h5 h6
  intro b hb
  unfold Zo.matL at hb
  unfold Dbm.int64
  simp only [List.mem_cons, List.not_mem_nil, or_false] at hb
  omega
end Cl
theorem great25_any (old p : List Zn) (io : ∀ z, z ∈ old → Zo.i64 z) (ip : ∀ z, z ∈ p → Zo.i64 z) (a b : Option Addr) (ca cb : Nat) (w : World) (hS : Sl w.heap.size w (.slice a old.length ca) old) (hT : Sl w.heap.size w (.slice b p.length cb) p) :
    Calls Tryz.prog 45 #[.slice a old.length ca, .slice b p.length cb] w fun e w' => e = .returned (.bool (Cl.great old p)) ∧ Below w.heap.size w w' := by
  refine fun_eq 0 w Tryz.func45 (args := [.val (.slice a old.length ca), .val (.slice b p.length cb)]) rfl rfl ?_
  have st := Stay.first (w := w)
  unfold Cl.great
  have e1 : (decide ((old.length : Int) > 40)) = decide (40 < old.length) := by rw [decide_eq_decide]; omega
  have e2 : (decide ((p.length : Int) > 40)) = decide (40 < p.length) := by rw [decide_eq_decide]; omega
  refine Branch.mk (fun h1 => ?_) (fun h1 => ?_)
  · have h1 := e1.symm.trans h1
    exact EndI.mk fun w9 h9 => by rw [h1]; rfl
  have h1 := e1.symm.trans h1
  rw [h1]
  refine Branch.mk (fun h2 => ?_) (fun h2 => ?_)
  · have h2 := e2.symm.trans h2
    exact EndI.mk fun w9 h9 => by rw [h2]; rfl
  have h2 := e2.symm.trans h2
  rw [h2]
  apply CallI.use1
  focus (exact fun w2 h2 => rlong24_any old io a ca w2 (hS.st (st.at h2 (fun x hx => by simp at hx <;> omega))))
  intro w2 v2 h2 hB2
  have st := st.next h2 (fun x hx => by simp at hx <;> omega) hB2
  refine Branch.mk (fun h3 => ?_) (fun h3 => ?_)
  · have h3 : decide (6 < Tb.lng 0 old) = true := h3
    exact EndI.mk fun w9 h9 => by rw [h3]; rfl
  have h3 : decide (6 < Tb.lng 0 old) = false := h3
  rw [h3]
  apply CallI.use1
  focus (exact fun w3 h3 => rlong24_any p ip b cb w3 (hT.st (st.at h3 (fun x hx => by simp at hx <;> omega))))
  intro w3 v3 h3 hB3
  have st := st.next h3 (fun x hx => by simp at hx <;> omega) hB3
  exact EndI.mk fun w9 h9 => by rfl
set_option maxHeartbeats 4000000 in
open Cl in
theorem closeAgain_walk (old p : List Zn) (io : ∀ z, z ∈ old → Zo.i64 z) (ip : ∀ z, z ∈ p → Zo.i64 z) (cz cr : Int) (a b : Option Addr) (ca cb : Nat) (w : World) (hS : Sl w.heap.size w (.slice a old.length ca) old) (hT : Sl w.heap.size w (.slice b p.length cb) p) :
    Calls Tryz.prog 10 #[.slice a old.length ca, .slice b p.length cb, .agg #[.int .i64 cz, .int .i64 cr]] w fun e w' => e = .returned (.bool true) ∧ Below w.heap.size w w' := by
  refine fun_eq 0 w Tryz.func10 (args := [.val (.slice a old.length ca), .val (.slice b p.length cb), .agg [.val (.int .i64 cz), .val (.int .i64 cr)]]) rfl rfl ?_
  have st := Stay.first (w := w)
  refine NewI.mk fun b1 hb1 => ?_
  apply CallI.use1
  focus (exact fun w1 h1 => alive25_any w1)
  intro w1 v1 h1 hB1
  have st := st.next h1 (fun x hx => by simp at hx <;> omega) hB1
  apply CallI.use1
  focus (exact fun w2 h2 => great25_any old p io ip a b ca cb w2 (hS.st (st.at h2 (fun x hx => by simp at hx <;> omega))) (hT.st (st.at h2 (fun x hx => by simp at hx <;> omega))))
  intro w2 v2 h2 hB2
  have st := st.next h2 (fun x hx => by simp at hx <;> omega) hB2
  refine Branch.mk (fun h1 => ?_) (fun h1 => ?_)
  · exact EndI.mk fun w9 h9 => rfl
  have hng : great old p = false := by simpa using h1
  refine Branch.no rfl ?_
  have hc := fun (w : World) hs ht => cclose_any old p cz cr a b ca cb w hs ht
  rcases close_fin hng with ⟨e, k1, _, k3⟩ | ⟨l, ls, k1, _, k3, ho, hp, hf⟩
  · rw [k1] at hc
    apply CallI.use
    focus (exact fun w3 h3 => hc w3 (hS.st (st.at h3 (fun x hx => by simp at hx <;> omega))) (hT.st (st.at h3 (fun x hx => by simp at hx <;> omega))))
    rintro v w3 v3 h3 hB3 ⟨a3, c3, rfl, hO3⟩
    have st := st.next h3 (fun x hx => by simp at hx <;> omega) hB3
    refine Branch.yes (by simpa using k3) ?_
    refine Branch.yes rfl ?_
    refine Branch.yes rfl ?_
    exact EndI.mk fun w9 h9 => rfl
  have hl := (great_no hng).2.1
  rw [k1] at hc
  apply CallI.use
  focus (exact fun w3 h3 => hc w3 (hS.st (st.at h3 (fun x hx => by simp at hx <;> omega))) (hT.st (st.at h3 (fun x hx => by simp at hx <;> omega))))
  rintro v w3 v3 h3 hB3 ⟨a3, c3, rfl, hO3⟩
  have st := st.next h3 (fun x hx => by simp at hx <;> omega) hB3
  refine Branch.no rfl ?_
  have hd := fun (w : World) (a3 : Option Addr) (c3 : Nat) hs ht => cclose_any l p 4096 4096 a3 b c3 cb w hs ht
  have hag := close_again hl hp hf
  generalize close l p 4096 4096 = Q at hd hag
  obtain ⟨m, k, f⟩ := Q
  simp only at hag
  apply CallI.use
  focus (exact fun w4 h4 => hd w4 a3 c3 ((hO3.st (st.at h4 (fun x hx => by simp at hx <;> omega))).sl) (hT.st (st.at h4 (fun x hx => by simp at hx <;> omega))))
  rintro v w4 v4 h4 hB4 ⟨a4, c4, rfl, hO4⟩
  have st := st.next h4 (fun x hx => by simp at hx <;> omega) hB4
  refine Branch.mk (fun h4 => ?_) (fun h4 => ?_)
  · exact EndI.mk fun w9 h9 => rfl
  obtain ⟨g1, g2⟩ := hag (by simpa using h4)
  have hin := fun (w : World) (a4 a3 : Option Addr) (c4 c3 : Nat) hs ht => zsin_any m l a4 a3 c4 c3 w hs ht
  rw [g1] at hin
  apply CallI.use1
  focus (exact fun w5 h5 => hin w5 a4 a3 c4 c3 ((hO4.st (st.at h5 (fun x hx => by simp at hx <;> omega))).sl) ((hO3.st (st.at h5 (fun x hx => by simp at hx <;> omega))).sl))
  intro w5 v5 h5 hB5
  have st := st.next h5 (fun x hx => by simp at hx <;> omega) hB5
  have hn := fun (w : World) hs => cclose_any old [] cz cr a none ca 0 w hs Sl.nil
  rw [close_none hl k3 ho] at hn
  apply CallI.use
  focus (exact fun w6 h6 => hn w6 (hS.st (st.at h6 (fun x hx => by simp at hx <;> omega))))
  rintro v w6 v6 h6 hB6 ⟨a6, c6, rfl, hO6⟩
  have st := st.next h6 (fun x hx => by simp at hx <;> omega) hB6
  refine Branch.yes rfl ?_
  refine Branch.yes rfl ?_
  refine Branch.yes rfl ?_
  refine Branch.yes (by simpa using g2) ?_
  refine Branch.yes rfl ?_
  exact EndI.mk fun w9 h9 => rfl
end Go.Proofs.YtjbhpfmnfdebkaaGreat

/-
  rallentando/rallentandolaw25.CloseAgain: the law.
-/
namespace Go.Proofs.YtjbhpfmnfdebkaaGreat
set_option linter.unusedVariables false
open Go.ChangeShapes Go.WideShapes Go.ChangeAt Go.RowKit Go.Deep

set_option maxRecDepth 100000 in
theorem closeAgain_lifted (os : Os) (started : os.Started) (H : Type) (enc : TypeId × Value → H) :
    ReturnsInHanded {} Tryz.checked os 10 .any (Rows.closeAgainSpec.pre6 enc Tryz.prog Tryz.f10 Rows.closeAgainRow.domain false) (Rows.closeAgainSpec.post enc Tryz.prog Tryz.f10 false true false false) := by
  refine returnsInHanded_of_change (C := Tryz.checked) own started (by kernel_rfl) Tryz.func10
    (ChangeSpec.witness6 (enc := enc) (C := Tryz.checked) false ⟨#[], #[.slice none 0 0, .slice none 0 0, .agg #[.int .i64 0, .int .i64 0]], []⟩ 8 (by kernel_rfl) (by kernel_rfl) (by kernel_rfl) (by kernel_rfl)) ?_
  intro W base args ds gs before hval0 hW _ _
  have hval : ∀ (j : Nat) t v, Tryz.f10.params[j]? = some t → args[j]? = some v → Value.okWide Tryz.prog W .any base t v := hval0
  have hW' := hW
  obtain ⟨p, q, hA0, hV, rfl, hfz, hnd⟩ := hW
  have hA : DataW.TrodAll enc Tryz.prog W 0 (fun _ => true) true Tryz.f10.params.toList args.toList ds p := hA0
  rw [Tryz.params10] at hA hval
  obtain ⟨v0, vs0, d0, ds0, p0_, q0_, hargs, rfl, rfl, h0, r0⟩ := trodAll_cons hA
  obtain ⟨v1, vs1, d1, ds1, p1_, q1_, rfl, rfl, rfl, h1, r1⟩ := trodAll_cons r0
  obtain ⟨v2, vs2, d2, ds2, p2_, q2_, rfl, rfl, rfl, h2, r2⟩ := trodAll_cons r1
  obtain ⟨rfl, rfl, rfl⟩ := trodAll_nil r2
  obtain rfl : args = #[v0, v1, v2] := by cases args; simp_all
  obtain ⟨rfl, rfl⟩ := trodVars_none hV
  obtain ⟨x0, L0, c0, rfl, S0, G0⟩ := open_lst Tryz.underlying22 (opens_zn Tryz.underlying104 (by kernel_rfl) Tryz.underlying102 (by kernel_rfl)) (hval 0 22 v0 rfl rfl) h0
  obtain ⟨x1, L1, c1, rfl, S1, G1⟩ := open_lst Tryz.underlying22 (opens_zn Tryz.underlying104 (by kernel_rfl) Tryz.underlying102 (by kernel_rfl)) (hval 1 22 v1 rfl rfl) h1
  obtain ⟨p2, q2, rfl, wp2, wq2⟩ := open_rt Tryz.underlying70 (by kernel_rfl) rfl rfl (by kernel_rfl) (by kernel_rfl) Tryz.underlying3 Tryz.underlying3 (hval 2 70 v2 rfl rfl) h2
  clear hA0 hval0
  exact (closeAgain_walk L0 L1 (fun z hz => Cl.ins_i64 (G0 z hz)) (fun z hz => Cl.ins_i64 (G1 z hz)) p2 q2 x0 x1 c0 c1 W S0 S1).mono fun e W' ⟨he, hg⟩ => ⟨_, he, law_post laidOut (by kernel_rfl) rfl rfl Tryz.underlying4 hW' rfl hg⟩

set_option maxRecDepth 100000 in
theorem closeAgain_k1 : (Rows.closeAgainRow.inPlace == Tryz.pinned.checked.prog.inPlace 10) = true := by kernel_rfl
set_option maxRecDepth 100000 in
theorem closeAgain_k2 : (Rows.closeAgainRow.unfollowed == Tryz.pinned.checked.prog.unfollowed 10) = true := by kernel_rfl
set_option maxRecDepth 100000 in
theorem closeAgain_k3 : (Rows.closeAgainRow.recurses == Tryz.pinned.checked.prog.recurses 10) = true := by kernel_rfl
set_option maxRecDepth 100000 in
theorem closeAgain_k4 : (Rows.closeAgainRow.named == Tryz.pinned.checked.prog.varsNamed 10) = true := by kernel_rfl
set_option maxRecDepth 100000 in
theorem closeAgain_closed : joinedFacts Tryz.pinned.checked.prog 10 Tryz.f10 Rows.closeAgainSpec Rows.closeAgainRow = true := by
  unfold joinedFacts
  rw [closeAgain_k1, closeAgain_k2, closeAgain_k3, closeAgain_k4]
  kernel_rfl
set_option maxRecDepth 100000 in
theorem closeAgain_over : Rows.closeAgainRow.holds Tryz.pinned (OpenSpec.ofChange Rows.closeAgainSpec) :=
  OpenClaim.holds_of_wide 10 Tryz.f10 rfl rfl rfl rfl rfl rfl rfl ⟨rfl, rfl, rfl, rfl, rfl⟩ rfl rfl rfl rfl rfl (by kernel_rfl) Tryz.func10 closeAgain_closed
    (of_decide_eq_true (by kernel_rfl)) (by unfold Func.isWrapper; first | (rw [if_pos (by decide +kernel)]; kernel_rfl) | (rw [if_neg (by decide +kernel)]; exact ⟨rfl, rfl⟩))
    (fun os started H enc _ => closeAgain_lifted os started H enc)

theorem closeAgain.proved : Rows.CloseAgainSaid := closeAgain_over
#print axioms closeAgain.proved
end Go.Proofs.YtjbhpfmnfdebkaaGreat

