/-
  rallentando/rallentandolaw14.RegionLists: the law.
-/
import Derived.Test.YtjbhpfmnfdebkaaGreatLRegionLists7
import Derived.Test.YtjbhpfmnfdebkaaGreatLRegionLists4
/-
  The walk of RegionLists.
-/
namespace Go.Proofs.YtjbhpfmnfdebkaaGreat
set_option linter.unusedVariables false
set_option linter.unusedSimpArgs false
set_option maxRecDepth 100000
open Go.RowKit Go.Proofs.YtjbhpfmnfdebkaaGreat.Eng Enc

/-- a row of ints that may be written, whatever it holds. -/
def RowI (base : Nat) (W : World) (a : Option Addr) (n : Nat) : Prop := 0 < n → ∃ g l, a = some ⟨g, 0, none⟩ ∧ base ≤ g ∧ l.length = n ∧ RowAt TKi W g l
theorem Rg.ins_i64 {z : Zn} (h : Zn.ins z) : Zo.i64 z := by
  obtain ⟨h1, h2, h3, h4, h5, h6⟩ := h
  simp only [inK] at h1 h2 h3 h4 h5 h6
  intro b hb
  unfold Zo.matL at hb
  unfold Dbm.int64
  simp only [List.mem_cons, List.not_mem_nil, or_false] at hb
  omega
theorem RowI.own {base : Nat} {W : World} {a : Option Addr} {c : Nat} {l : List Int} (h : Own TKi base W (.slice a l.length c) l) : RowI base W a l.length := fun hn => by
  obtain ⟨g, e1, e2, e3⟩ := h.row hn
  exact ⟨g, l, e1, e2, rfl, e3⟩
theorem RowI.below {base : Nat} {W X : World} {a : Option Addr} {n : Nat} (h : RowI base W a n) (hB : Below W.heap.size W X) : RowI base X a n := fun hn => by
  obtain ⟨g, l, e1, e2, e3, e4⟩ := h hn
  exact ⟨g, l, e1, e2, e3, e4.below hB e4.lt⟩
set_option maxHeartbeats 4000000 in
theorem regionLists_walk (l : List Zn) (al : Option Addr) (cl : Nat) (hl : ∀ z, z ∈ l → Zo.i64 z) (a : List Int) (aa : Option Addr) (ca : Nat) (ha : ∀ x, x ∈ a → inK .i64 x) (b : List Int) (ab : Option Addr) (cb : Nat) (hb : ∀ x, x ∈ b → inK .i64 x)
    (s : Sp) (hs : s.ins) (lo hi long : Int) (hlo : inK .i64 lo) (hhi : inK .i64 hi) (w : World) (hSL : Sl w.heap.size w (.slice al l.length cl) l) (hSA : Sl w.heap.size w (.slice aa a.length ca) a) (hSB : Sl w.heap.size w (.slice ab b.length cb) b) :
    Calls Tryz.prog 6 #[.slice al l.length cl, .slice aa a.length ca, .slice ab b.length cb, .agg #[.int .i64 s.lo, .bool s.ls, .int .i64 s.hi, .bool s.hs, .bool s.op], .int .i64 lo, .int .i64 hi, .int .i64 long] w fun e w' => e = .returned (.bool true) ∧ Below w.heap.size w w' := by
  refine fun_eqW 0 w Tryz.func6 (args := [.val (.slice al l.length cl), .val (.slice aa a.length ca), .val (.slice ab b.length cb), .agg [.val (.int .i64 s.lo), .val (.bool s.ls), .val (.int .i64 s.hi), .val (.bool s.hs), .val (.bool s.op)], .val (.int .i64 lo), .val (.int .i64 hi), .val (.int .i64 long)]) rfl rfl ?_
  have st := Stay.first (w := w)
  refine NewI.mk fun b1 hb1 => ?_
  refine Branch.mk (fun z1 => ?_) (fun z1 => ?_)
  · exact EndI.mk fun w9 h9 => rfl
  refine Branch.mk (fun z2 => ?_) (fun z2 => ?_)
  · exact EndI.mk fun w9 h9 => rfl
  refine Branch.mk (fun z3 => ?_) (fun z3 => ?_)
  · exact EndI.mk fun w9 h9 => rfl
  have n1 : l.length ≤ 5 := by have := of_decide_eq_false z1; omega
  have n2 : a.length ≤ 500 := by have := of_decide_eq_false z2; omega
  have n3 : b.length ≤ 500 := by have := of_decide_eq_false z3; omega
  clear z1 z2 z3
  refine Branch.mk (fun z4 => Branch.mk (fun z5 => EndI.mk fun w9 h9 => rfl) (fun z5 => ?_)) (fun z4 => ?_)
  all_goals (
    refine GenN.app (α := Int) elIn [] a w.heap.size (fun w5 h5 => Own.nil) (fun w5 h5 => (hSA.go h5.below h5.below.size).src) (by unfold maxLen; simp; omega) (by simp; omega) (fun w5 h5 => h5.below.size) (fun w5 w6 h5 hg => keep_grown h5 hg (fun k hk => by cases hk)) fun v1 w5 w6 h5 hg hO6 => ?_
    rw [List.nil_append] at hO6
    obtain ⟨ao, co, rfl⟩ := hO6.form
    have hB6 : Below w5.heap.size w5 w6 := ⟨hg.os, hg.tape, hg.output, hg.size, fun k hk => hg.block k hk (by simp [Value.ownBlock])⟩
    have st := st.next h5 (fun x hx => by simp at hx <;> omega) hB6
    apply CallI.use
    focus (exact fun w7 h7 => rlist_any l (by omega) long al cl w7 (hSL.st (st.at h7 (fun x hx => by simp at hx <;> omega))))
    rintro v w7 v7 h7 hB7 ⟨a7, c7, rfl, hO7⟩
    have st := st.next h7 (fun x hx => by simp at hx <;> omega) hB7
    apply CallI.use
    focus (exact fun w8 h8 => rasklist_any l hl (by omega) long al cl w8 (hSL.st (st.at h8 (fun x hx => by simp at hx <;> omega))))
    rintro v w8 v8 h8 hB8 ⟨a8, c8, rfl, hO8⟩
    have st := st.next h8 (fun x hx => by simp at hx <;> omega) hB8
    apply CallI.use
    focus (exact fun w9 h9 => regComp_any a b (by omega) (by omega) ha hb long ao ab co cb w9 ((hO6.st (st.at h9 (fun x hx => by simp at hx <;> omega))).sl) (hSB.st (st.at h9 (fun x hx => by simp at hx <;> omega))))
    rintro v w9 v9 h9 hB9 ⟨a9, c9, rfl, hO9⟩
    have st := st.next h9 (fun x hx => by simp at hx <;> omega) hB9
    apply CallI.use
    focus (exact fun w10 h10 => raskcomp_any a b (by omega) (by omega) long aa ab ca cb w10 (hSA.st (st.at h10 (fun x hx => by simp at hx <;> omega))) (hSB.st (st.at h10 (fun x hx => by simp at hx <;> omega))))
    rintro v w10 v10 h10 hB10 ⟨a10, c10, rfl, hO10⟩
    have st := st.next h10 (fun x hx => by simp at hx <;> omega) hB10
    apply CallI.use
    focus (exact fun w11 h11 => regWithin_any a (by omega) ha s hs long ao co w11 ((hO6.st (st.at h11 (fun x hx => by simp at hx <;> omega))).sl))
    rintro v w11 v11 h11 hB11 ⟨a11, c11, rfl, hO11⟩
    have st := st.next h11 (fun x hx => by simp at hx <;> omega) hB11
    apply CallI.use
    focus (exact fun w12 h12 => raskwithin_any a (by omega) s long aa ca w12 (hSA.st (st.at h12 (fun x hx => by simp at hx <;> omega))))
    rintro v w12 v12 h12 hB12 ⟨a12, c12, rfl, hO12⟩
    have st := st.next h12 (fun x hx => by simp at hx <;> omega) hB12
    apply CallI.use
    focus (exact fun w13 h13 => regWindow_any a (by omega) ha lo hi hlo hhi long ao co w13 ((hO6.st (st.at h13 (fun x hx => by simp at hx <;> omega))).sl))
    rintro v w13 v13 h13 hB13 ⟨a13, c13, rfl, hO13⟩
    have st := st.next h13 (fun x hx => by simp at hx <;> omega) hB13
    apply CallI.use
    focus (exact fun w14 h14 => raskwindow_any a (by omega) lo hi long aa ca w14 (hSA.st (st.at h14 (fun x hx => by simp at hx <;> omega))))
    rintro v w14 v14 h14 hB14 ⟨a14, c14, rfl, hO14⟩
    have st := st.next h14 (fun x hx => by simp at hx <;> omega) hB14
    apply CallI.use1
    focus (exact fun w15 h15 => rsame14_any _ _ a7 c7 a8 c8 w15 ((hO7.st (st.at h15 (fun x hx => by simp at hx <;> omega))).sl) ((hO8.st (st.at h15 (fun x hx => by simp at hx <;> omega))).sl))
    intro w15 v15 h15 hB15
    have st := st.next h15 (fun x hx => by simp at hx <;> omega) hB15
    refine Branch.yes (decide_eq_true rfl) ?_
    refine Branch.yes (decide_eq_true rfl) ?_
    apply CallI.use1
    focus (exact fun w16 h16 => rsame14_any _ _ a9 c9 a10 c10 w16 ((hO9.st (st.at h16 (fun x hx => by simp at hx <;> omega))).sl) ((hO10.st (st.at h16 (fun x hx => by simp at hx <;> omega))).sl))
    intro w16 v16 h16 hB16
    have st := st.next h16 (fun x hx => by simp at hx <;> omega) hB16
    refine Branch.yes (decide_eq_true rfl) ?_
    refine Branch.yes (decide_eq_true rfl) ?_
    apply CallI.use1
    focus (exact fun w17 h17 => rsame14_any _ _ a11 c11 a12 c12 w17 ((hO11.st (st.at h17 (fun x hx => by simp at hx <;> omega))).sl) ((hO12.st (st.at h17 (fun x hx => by simp at hx <;> omega))).sl))
    intro w17 v17 h17 hB17
    have st := st.next h17 (fun x hx => by simp at hx <;> omega) hB17
    refine Branch.yes (decide_eq_true rfl) ?_
    refine Branch.yes (decide_eq_true rfl) ?_
    apply CallI.use1
    focus (exact fun w18 h18 => rsame14_any _ _ a13 c13 a14 c14 w18 ((hO13.st (st.at h18 (fun x hx => by simp at hx <;> omega))).sl) ((hO14.st (st.at h18 (fun x hx => by simp at hx <;> omega))).sl))
    intro w18 v18 h18 hB18
    have st := st.next h18 (fun x hx => by simp at hx <;> omega) hB18
    refine Branch.yes (decide_eq_true rfl) ?_
    have hOa : Own TKi w.heap.size v18 (.slice ao a.length co) a := hO6.st st
    have g6 : ∀ g, (Value.slice ao a.length co).ownBlock = some g → g < w11.heap.size := fun g hg => by
      have h1 := (hO6.lt g hg).2
      have y7 := h7.size; have y7' := hB7.size; have y8 := h8.size; have y8' := hB8.size; have y9 := h9.size; have y9' := hB9.size; have y10 := h10.size; have y10' := hB10.size; have y11 := h11.size
      omega
    have hR : RowI w11.heap.size v18 a11 (Rg.within a s long).1.length := (RowI.own hO11).below (st.get (by simp))
    have hb11 : b1 < w11.heap.size := h11.lt b1 (by simp)
    have hw11 : w.heap.size ≤ w11.heap.size := h11.below.size
    have ml : (Rg.within a s long).1.length ≤ 9223372036854775807 := by obtain ⟨_, _, _, q1, q2, _⟩ := hO11.sl.form; unfold maxLen at q2; omega
    refine LoopI.invC (α := Nat × World) (fun y => [(33, .val (.int .i64 y.1))]) (fun y => y.2) (fun y => y.1 ≤ (Rg.within a s long).1.length ∧ Below w.heap.size w y.2 ∧ Own TKi w.heap.size y.2 (.slice ao a.length co) a ∧ RowI w11.heap.size y.2 a11 (Rg.within a s long).1.length) (fun y => (Rg.within a s long).1.length - y.1) ?_ ?_
    · intro w1 h1
      have hB := at_belowM h1 (by simp)
      exact ⟨(0, w1), Cov.mk (by repeat' (first | exact trivial | refine And.intro rfl ?_)) rfl rfl rfl rfl rfl, rfl, Nat.zero_le _, h1.below, hOa.below hB, hR.below hB⟩
    rintro ⟨i, U⟩ ⟨hi, hU, hOU, hRU⟩
    simp only at hi hU hOU hRU
    refine Branch.mk (fun z3 => ?_) (fun z3 => ?_)
    · have hlt : i < (Rg.within a s long).1.length := by have := of_decide_eq_true z3; simp only at this; omega
      obtain ⟨g, m, ea, hge, hll, hrow⟩ := hRU (by omega)
      have hnr : ∀ b, b ∈ [b1] → b ≠ g := fun b hb e => by have := List.mem_singleton.1 hb; omega
      have hil : i < m.length := by omega
      refine IdxI.mk ⟨⟨g, 0, none⟩, ⟨ea, by simp, by simpa using hlt⟩, ?_⟩
      have ead : (⟨g, 0, none⟩ : Addr).add ((i : Int).toNat * 1) = ⟨g, i, none⟩ := by simp [addr_addL]
      refine LoadI.mk ⟨.int .i64 (m[i]?.getD 0), ⟨by rw [show ((⟨g, 0, none⟩ : Addr).add ((((i, U).1 : Nat) : Int).toNat * 1)) = ⟨g, i, none⟩ from ead]; exact hrow.cell hil, by simp⟩, ?_⟩
      refine Wr.mk ?_
      refine IdxI.mk ⟨⟨g, 0, none⟩, ⟨ea, by simp, by simpa using hlt⟩, ?_⟩
      refine StoreI.mk fun w5 h5 => ?_
      rw [show ((⟨g, 0, none⟩ : Addr).add ((((i, U).1 : Nat) : Int).toNat * 1)) = ⟨g, i, none⟩ from ead]
      have hB5 := at_belowM h5 (by simp)
      have r5 := hrow.below hB5 hrow.lt
      have hgw : w.heap.size ≤ g := Nat.le_trans hw11 hge
      refine ⟨⟨⟨_, r5.cell hil⟩, r5.frozen _⟩, keep_set hgw hnr, ?_⟩
      generalize hval : ((m[i]?.getD 0 + 1 + 9223372036854775808) % 18446744073709551616 - 9223372036854775808) = nv
      have hw5 := below_setCellM (B := g) (o := i) (u := .int .i64 nv) h5.below hgw
      have hO5 := (hOU.below hB5).setCellM (B := g) (o := i) (u := .int .i64 nv) (fun q hq => by have := g6 q hq; omega)
      have hR8' : RowI w11.heap.size (w5.setCell ⟨g, i, none⟩ (.int .i64 nv)) a11 (Rg.within a s long).1.length := fun _ => ⟨g, _, ea, hge, by rw [List.length_set]; exact hll, r5.set hil nv⟩
      generalize w5.setCell ⟨g, i, none⟩ (.int .i64 nv) = w6 at *
      refine Wr.fit (by omega) (EndI.mk fun w7 h7 => ?_)
      have hB7 := at_belowM h7 (by simp)
      exact ⟨(i + 1, w7), Cov.mk (by repeat' (first | exact trivial | refine And.intro rfl ?_)) rfl rfl rfl rfl rfl, rfl, ⟨hlt, h7.below, hO5.below hB7, hR8'.below hB7⟩, by simp only; omega⟩
    refine Branch.yes (decide_eq_true rfl) ?_
    apply CallI.use1
    focus (exact fun w5 h5 => rsame14_any a a ao co aa ca w5 ((hOU.below (at_belowM h5 (by simp))).sl) (hSA.go h5.below h5.below.size))
    intro w5 v5 h5 hB5
    exact EndI.mk fun w9 h9 => by simp)
end Go.Proofs.YtjbhpfmnfdebkaaGreat

/-
  rallentando/rallentandolaw14.RegionLists: the law.
-/
namespace Go.Proofs.YtjbhpfmnfdebkaaGreat
set_option linter.unusedVariables false
open Go.ChangeShapes Go.WideShapes Go.ChangeAt Go.RowKit Go.Deep

set_option maxRecDepth 100000 in
theorem regionLists_lifted (os : Os) (started : os.Started) (H : Type) (enc : TypeId × Value → H) :
    ReturnsInHanded {} Tryz.checked os 6 .any (Rows.regionListsSpec.pre6 enc Tryz.prog Tryz.f6 Rows.regionListsRow.domain false) (Rows.regionListsSpec.post enc Tryz.prog Tryz.f6 false true false false) := by
  refine returnsInHanded_of_change (C := Tryz.checked) own started (by kernel_rfl) Tryz.func6
    (ChangeSpec.witness6 (enc := enc) (C := Tryz.checked) false ⟨#[], #[.slice none 0 0, .slice none 0 0, .slice none 0 0, .agg #[.int .i64 0, .bool false, .int .i64 0, .bool false, .bool false], .int .i64 0, .int .i64 0, .int .i64 0], []⟩ 8 (by kernel_rfl) (by kernel_rfl) (by kernel_rfl) (by kernel_rfl)) ?_
  intro W base args ds gs before hval0 hW _ _
  have hval : ∀ (j : Nat) t v, Tryz.f6.params[j]? = some t → args[j]? = some v → Value.okWide Tryz.prog W .any base t v := hval0
  have hW' := hW
  obtain ⟨p, q, hA0, hV, rfl, hfz, hnd⟩ := hW
  have hA : DataW.TrodAll enc Tryz.prog W 0 (fun _ => true) true Tryz.f6.params.toList args.toList ds p := hA0
  rw [Tryz.params6] at hA hval
  obtain ⟨v0, vs0, d0, ds0, p0_, q0_, hargs, rfl, rfl, h0, r0⟩ := trodAll_cons hA
  obtain ⟨v1, vs1, d1, ds1, p1_, q1_, rfl, rfl, rfl, h1, r1⟩ := trodAll_cons r0
  obtain ⟨v2, vs2, d2, ds2, p2_, q2_, rfl, rfl, rfl, h2, r2⟩ := trodAll_cons r1
  obtain ⟨v3, vs3, d3, ds3, p3_, q3_, rfl, rfl, rfl, h3, r3⟩ := trodAll_cons r2
  obtain ⟨v4, vs4, d4, ds4, p4_, q4_, rfl, rfl, rfl, h4, r4⟩ := trodAll_cons r3
  obtain ⟨v5, vs5, d5, ds5, p5_, q5_, rfl, rfl, rfl, h5, r5⟩ := trodAll_cons r4
  obtain ⟨v6, vs6, d6, ds6, p6_, q6_, rfl, rfl, rfl, h6, r6⟩ := trodAll_cons r5
  obtain ⟨rfl, rfl, rfl⟩ := trodAll_nil r6
  obtain rfl : args = #[v0, v1, v2, v3, v4, v5, v6] := by cases args; simp_all
  obtain ⟨rfl, rfl⟩ := trodVars_none hV
  obtain ⟨x0, L0, c0, rfl, S0, G0⟩ := open_lst Tryz.underlying22 (opens_zn Tryz.underlying104 (by kernel_rfl) Tryz.underlying102 (by kernel_rfl)) (hval 0 22 v0 rfl rfl) h0
  obtain ⟨x1, L1, c1, rfl, S1, G1⟩ := open_lst Tryz.underlying41 (opens_int Tryz.underlying3 (by kernel_rfl)) (hval 1 41 v1 rfl rfl) h1
  obtain ⟨x2, L2, c2, rfl, S2, G2⟩ := open_lst Tryz.underlying41 (opens_int Tryz.underlying3 (by kernel_rfl)) (hval 2 41 v2 rfl rfl) h2
  obtain ⟨z3, rfl, G3⟩ := open_agg (opens_sp Tryz.underlying32 (by kernel_rfl) rfl rfl rfl rfl rfl (by kernel_rfl) (by kernel_rfl) (by kernel_rfl) (by kernel_rfl) (by kernel_rfl) Tryz.underlying3 Tryz.underlying4 Tryz.underlying3 Tryz.underlying4 Tryz.underlying4) (.inl ⟨_, Tryz.underlying32⟩) (hval 3 32 v3 rfl rfl) h3
  obtain ⟨a4, rfl, rfl, rfl, w4⟩ := open_int Tryz.underlying3 (hval 4 3 v4 rfl rfl) h4
  obtain ⟨a5, rfl, rfl, rfl, w5⟩ := open_int Tryz.underlying3 (hval 5 3 v5 rfl rfl) h5
  obtain ⟨a6, rfl, rfl, rfl, w6⟩ := open_int Tryz.underlying3 (hval 6 3 v6 rfl rfl) h6
  clear hA0 hval0
  exact (regionLists_walk L0 x0 c0 (fun z hz => Rg.ins_i64 (G0 z hz)) L1 x1 c1 G1 L2 x2 c2 G2 z3 G3 a4 a5 a6 (inK_wf w4) (inK_wf w5) W S0 S1 S2).mono fun e W' ⟨he, hg⟩ => ⟨_, he, law_post laidOut (by kernel_rfl) rfl rfl Tryz.underlying4 hW' rfl hg⟩

set_option maxRecDepth 100000 in
theorem regionLists_k1 : (Rows.regionListsRow.inPlace == Tryz.pinned.checked.prog.inPlace 6) = true := by kernel_rfl
set_option maxRecDepth 100000 in
theorem regionLists_k2 : (Rows.regionListsRow.unfollowed == Tryz.pinned.checked.prog.unfollowed 6) = true := by kernel_rfl
set_option maxRecDepth 100000 in
theorem regionLists_k3 : (Rows.regionListsRow.recurses == Tryz.pinned.checked.prog.recurses 6) = true := by kernel_rfl
set_option maxRecDepth 100000 in
theorem regionLists_k4 : (Rows.regionListsRow.named == Tryz.pinned.checked.prog.varsNamed 6) = true := by kernel_rfl
set_option maxRecDepth 100000 in
theorem regionLists_closed : joinedFacts Tryz.pinned.checked.prog 6 Tryz.f6 Rows.regionListsSpec Rows.regionListsRow = true := by
  unfold joinedFacts
  rw [regionLists_k1, regionLists_k2, regionLists_k3, regionLists_k4]
  kernel_rfl
set_option maxRecDepth 100000 in
theorem regionLists_over : Rows.regionListsRow.holds Tryz.pinned (OpenSpec.ofChange Rows.regionListsSpec) :=
  OpenClaim.holds_of_wide 6 Tryz.f6 rfl rfl rfl rfl rfl rfl rfl ⟨rfl, rfl, rfl, rfl, rfl⟩ rfl rfl rfl rfl rfl (by kernel_rfl) Tryz.func6 regionLists_closed
    (of_decide_eq_true (by kernel_rfl)) (by unfold Func.isWrapper; first | (rw [if_pos (by decide +kernel)]; kernel_rfl) | (rw [if_neg (by decide +kernel)]; exact ⟨rfl, rfl⟩))
    (fun os started H enc _ => regionLists_lifted os started H enc)

theorem regionLists.proved : Rows.RegionListsSaid := regionLists_over
#print axioms regionLists.proved
end Go.Proofs.YtjbhpfmnfdebkaaGreat

