/-
  rallentando/rallentandolaw13.ZsetTells: the law.
-/
import Derived.Test.YtodpgcdandechaaGreatLZsetTells7
import Derived.Test.YtodpgcdandechaaGreatLZsetTells6
import Derived.Test.YtodpgcdandechaaGreatLZsetTells5
import Derived.Test.YtodpgcdandechaaGreatLZsetTells3
/-
  The walk of rallentandolaw13.ZsetTells, by the engine.
-/
namespace Go.Proofs.YtodpgcdandechaaGreat
set_option linter.unusedVariables false
set_option linter.unusedSimpArgs false
set_option maxRecDepth 100000
open Go.RowKit Go.Proofs.YtodpgcdandechaaGreat.Eng Enc

namespace Zs
theorem ins_i64 {z : Zn} (h : Zn.ins z) : Zo.i64 z := by
  obtain ⟨h1, h2, h3, h4, h5, h6⟩ := h
  simp only [inK] at h1 h2 h3 h4 h5 h6
  intro b hb
  unfold Zo.matL at hb
  unfold Dbm.int64
  simp only [List.mem_cons, List.not_mem_nil, or_false] at hb
  omega
end Zs
theorem zsetTells_walk (l m : List Zn) (hl : ∀ z, z ∈ l → Zo.i64 z) (hm : ∀ z, z ∈ m → Zo.i64 z) (a b : Option Addr) (ca cb : Nat) (w : World) (hS : Sl w.heap.size w (.slice a l.length ca) l) (hT : Sl w.heap.size w (.slice b m.length cb) m) :
    Calls Tryz.prog 6 #[.slice a l.length ca, .slice b m.length cb] w fun e w' => e = .returned (.bool true) ∧ Below w.heap.size w w' := by
  refine fun_eqW 0 w Tryz.func6 (args := [.val (.slice a l.length ca), .val (.slice b m.length cb)]) rfl rfl ?_
  have st := Stay.first (w := w)
  refine Branch.mk (fun hc => ?_) (fun hc => ?_)
  · exact EndI.mk fun w9 h9 => rfl
  have h6 : l.length ≤ 4 := by have := of_decide_eq_false hc; omega
  refine Branch.mk (fun hc2 => ?_) (fun hc2 => ?_)
  · exact EndI.mk fun w9 h9 => rfl
  have h6' : m.length ≤ 4 := by have := of_decide_eq_false hc2; omega
  refine GenN.app (α := Zn) elZ [] l w.heap.size (fun w5 h5 => Own.nil) (fun w5 h5 => (hS.go h5.below h5.below.size).src) (by unfold maxLen; simp; omega) (by simp; omega) (fun w5 h5 => h5.below.size) (fun w5 w6 h5 hg => keep_grown h5 hg (fun k hk => by cases hk)) fun v1 w5 w6 h5 hg hO1 => ?_
  rw [List.nil_append] at hO1
  obtain ⟨a1, c1, rfl⟩ := hO1.form
  have st := (st.at h5 (fun x hx => by simp at hx <;> omega)).go h5.below.size h5.below (grown_belowM (Below.refl _ _) hg (fun k hk => by cases hk) (Nat.le_refl _))
  have hO1 : Own TZ w.heap.size w6 (.slice a1 l.length c1) l := hO1
  have hg1 : ∀ k, (Value.slice a1 l.length c1).ownBlock = some k → k < w6.heap.size := fun k hk => (hO1.lt k hk).2
  apply CallI.use
  focus (exact fun w15 h15 => zsor_any l m a1 b c1 cb w15 ((hO1.st (st.at h15 (fun x hx => by simp at hx <;> omega))).sl) (hT.st (st.at h15 (fun x hx => by simp at hx <;> omega))))
  rintro v w15 v15 h15 hB15 ⟨a2, c2, rfl, hO2⟩
  have st := st.next h15 (fun x hx => by simp at hx <;> omega) hB15
  apply CallI.use
  focus (exact fun w16 h16 => ror13_any l m hl hm a b ca cb w16 (hS.st (st.at h16 (fun x hx => by simp at hx <;> omega))) (hT.st (st.at h16 (fun x hx => by simp at hx <;> omega))))
  rintro v w16 v16 h16 hB16 ⟨a3, c3, rfl, hO3⟩
  have st := st.next h16 (fun x hx => by simp at hx <;> omega) hB16
  apply CallI.use
  focus (exact fun w17 h17 => zsand_any l m a1 b c1 cb w17 ((hO1.st (st.at h17 (fun x hx => by simp at hx <;> omega))).sl) (hT.st (st.at h17 (fun x hx => by simp at hx <;> omega))))
  rintro v w17 v17 h17 hB17 ⟨a4, c4, rfl, hO4⟩
  have st := st.next h17 (fun x hx => by simp at hx <;> omega) hB17
  apply CallI.use
  focus (exact fun w18 h18 => rand13_any l m hl hm a b ca cb w18 (hS.st (st.at h18 (fun x hx => by simp at hx <;> omega))) (hT.st (st.at h18 (fun x hx => by simp at hx <;> omega))))
  rintro v w18 v18 h18 hB18 ⟨a5, c5, rfl, hO5⟩
  have st := st.next h18 (fun x hx => by simp at hx <;> omega) hB18
  apply CallI.use
  focus (exact fun w19 h19 => zscomp_any l m a1 b c1 cb w19 ((hO1.st (st.at h19 (fun x hx => by simp at hx <;> omega))).sl) (hT.st (st.at h19 (fun x hx => by simp at hx <;> omega))))
  rintro v w19 v19 h19 hB19 ⟨a6, c6, rfl, hO6⟩
  have st := st.next h19 (fun x hx => by simp at hx <;> omega) hB19
  apply CallI.use
  focus (exact fun w20 h20 => rcomp13_any l m hl hm a b ca cb w20 (hS.st (st.at h20 (fun x hx => by simp at hx <;> omega))) (hT.st (st.at h20 (fun x hx => by simp at hx <;> omega))))
  rintro v w20 v20 h20 hB20 ⟨a7, c7, rfl, hO7⟩
  have st := st.next h20 (fun x hx => by simp at hx <;> omega) hB20
  apply CallI.use
  focus (exact fun w21 h21 => zsof_any l a1 c1 w21 ((hO1.st (st.at h21 (fun x hx => by simp at hx <;> omega))).sl))
  rintro v w21 v21 h21 hB21 ⟨a8, c8, rfl, hO8⟩
  have st := st.next h21 (fun x hx => by simp at hx <;> omega) hB21
  apply CallI.use
  focus (exact fun w22 h22 => rof13_any l hl a ca w22 (hS.st (st.at h22 (fun x hx => by simp at hx <;> omega))))
  rintro v w22 v22 h22 hB22 ⟨a9, c9, rfl, hO9⟩
  have st := st.next h22 (fun x hx => by simp at hx <;> omega) hB22
  apply CallI.use1
  focus (exact fun w23 h23 => same11_any (Zs.or l m).1 (Zs.or l m).1 a2 c2 a3 c3 w23 ((hO2.st (st.at h23 (fun x hx => by simp at hx <;> omega))).sl) ((hO3.st (st.at h23 (fun x hx => by simp at hx <;> omega))).sl))
  intro w23 v23 h23 hB23
  have st := st.next h23 (fun x hx => by simp at hx <;> omega) hB23
  refine Branch.yes (by simp) ?_
  refine Branch.yes (by simp) ?_
  apply CallI.use1
  focus (exact fun w24 h24 => same11_any (Zs.and l m).1 (Zs.and l m).1 a4 c4 a5 c5 w24 ((hO4.st (st.at h24 (fun x hx => by simp at hx <;> omega))).sl) ((hO5.st (st.at h24 (fun x hx => by simp at hx <;> omega))).sl))
  intro w24 v24 h24 hB24
  have st := st.next h24 (fun x hx => by simp at hx <;> omega) hB24
  refine Branch.yes (by simp) ?_
  refine Branch.yes (by simp) ?_
  apply CallI.use1
  focus (exact fun w25 h25 => same11_any (Zs.comp l m).1 (Zs.comp l m).1 a6 c6 a7 c7 w25 ((hO6.st (st.at h25 (fun x hx => by simp at hx <;> omega))).sl) ((hO7.st (st.at h25 (fun x hx => by simp at hx <;> omega))).sl))
  intro w25 v25 h25 hB25
  have st := st.next h25 (fun x hx => by simp at hx <;> omega) hB25
  refine Branch.yes (by simp) ?_
  apply CallI.use1
  focus (exact fun w26 h26 => same11_any (Cv.prune l).1 (Cv.prune l).1 a8 c8 a9 c9 w26 ((hO8.st (st.at h26 (fun x hx => by simp at hx <;> omega))).sl) ((hO9.st (st.at h26 (fun x hx => by simp at hx <;> omega))).sl))
  intro w26 v26 h26 hB26
  have st := st.next h26 (fun x hx => by simp at hx <;> omega) hB26
  refine Branch.yes (by simp) ?_
  refine Branch.yes (by simp) ?_
  apply CallI.use1
  focus (exact fun w27 h27 => zscheck_any l a1 c1 w27 ((hO1.st (st.at h27 (fun x hx => by simp at hx <;> omega))).sl))
  intro w27 v27 h27 hB27
  have st := st.next h27 (fun x hx => by simp at hx <;> omega) hB27
  apply CallI.use1
  focus (exact fun w28 h28 => rcheck13_any l hl a ca w28 (hS.st (st.at h28 (fun x hx => by simp at hx <;> omega))))
  intro w28 v28 h28 hB28
  have st := st.next h28 (fun x hx => by simp at hx <;> omega) hB28
  have hck : Zs.check l = if (Cv.prune l).2 = 0 ∧ l = (Cv.prune l).1 then 0 else 8 := by unfold Zs.check; simp only [eq_comm (a := l)]
  rw [← hck]
  have hOk : Own TZ w15.heap.size v28 (.slice a2 (Zs.or l m).1.length c2) (Zs.or l m).1 := hO2.st st
  have hO1u : Own TZ w.heap.size v28 (.slice a1 l.length c1) l := hO1.st st
  have hg1 : ∀ k, (Value.slice a1 l.length c1).ownBlock = some k → k < w15.heap.size := fun k hk => Nat.lt_of_lt_of_le (hg1 k hk) h15.size
  have hsz := (st.get (X := v15) (by simp)).size
  generalize (Zs.or l m).1 = K at *
  obtain ⟨gk, hgk⟩ : ∃ gk : Nat, 0 < K.length → a2 = some ⟨gk, 0, none⟩ ∧ ZRow v28 gk c2 K.length ∧ w15.heap.size ≤ gk ∧ gk < v15.heap.size := by
    by_cases hn : 0 < K.length
    · obtain ⟨_, ⟨e, h0⟩ | ⟨g, cap, cur, e, _⟩⟩ := id hO2
      · omega
      · injection e with e1 e2 e3
        subst e1; subst e3
        refine ⟨g, fun _ => ⟨rfl, (ZRow.of hOk).1, (ZRow.of hOk).2.1, (ZRow.of hO2).2.2⟩⟩
    · exact ⟨0, fun h => absurd h hn⟩
  refine LoopI.invC (α := Nat × World) (fun y => [(24, .val (.int .i64 y.1))]) (fun y => y.2) (fun y => y.1 ≤ K.length ∧ Below w.heap.size w y.2 ∧ Own TZ w.heap.size y.2 (.slice a1 l.length c1) l ∧ (0 < K.length → ZRow y.2 gk c2 K.length)) (fun y => K.length - y.1) ?_ ?_
  · intro w1 h1
    exact ⟨(0, w1), Cov.mk (by repeat' (first | exact trivial | refine And.intro rfl ?_)) rfl rfl rfl rfl rfl, rfl, Nat.zero_le _, h1.below, hO1u.at h1 (by simp), fun hn => (hgk hn).2.1.at h1 (by simp)⟩
  rintro ⟨k, U⟩ ⟨hk, hU, hOU, hRU⟩
  simp only at hk hU hOU hRU
  refine Branch.mk (fun z3 => ?_) (fun z3 => ?_)
  · have hlt : k < K.length := by have := of_decide_eq_true z3; simp only at this; omega
    obtain ⟨rfl, _, hge, hgl⟩ := hgk (by omega)
    have hRU := hRU (by omega)
    have hwg : w.heap.size ≤ gk := Nat.le_trans h15.below.size hge
    have hmx := hRU.max
    have hle := hRU.le
    unfold maxLen at hmx
    refine DrawI.wr (.tk 0 (.tk 1 (.tk 2 (.tk 3 (.tk 6 (.ev 4 (.tk 5 (.tk 7 (.ev 8 .done))))))))) [] [gk] (by kernel_rfl) rfl (by intro b hb hm; simp at hb hm <;> omega) fun w2 h2 => ?_
    have hR2 := hRU.at h2 (by simp)
    refine IdxI.mk ⟨_, ⟨rfl, by simp, by simpa using hlt⟩, ?_⟩
    refine Need.mk (by decide) ?_
    refine IdxI.mk ⟨_, ⟨rfl, by simp, by simpa using hlt⟩, ?_⟩
    obtain ⟨x, hx⟩ := hR2.cell (j := k * 6) (by omega)
    have had : ((⟨gk, 0, none⟩ : Addr).add ((k : Int).toNat * 6)).add (Int.toNat 0 * 1) = ⟨gk, k * 6, none⟩ := by simp [Addr.add]; omega
    refine LoadI.mk ⟨_, ⟨by rw [had]; exact hx, by simp⟩, ?_⟩
    refine Wr.mk ?_
    refine Need.mk (by decide) ?_
    refine StoreI.mk fun w3 h3 => ?_
    rw [had]
    have hR3 := hR2.at h3 (by simp)
    have hO3 := (hOU.at h2 (by simp)).at h3 (by simp)
    have hw3 := h3.below
    obtain ⟨x', hx'⟩ := hR3.cell (j := k * 6) (by omega)
    refine ⟨⟨⟨_, hx'⟩, hR3.frozen _⟩, fun hs => ⟨⟨below_setCellM (Below.refl _ _) hwg, fun b hb => setCell_neM (by simp at hb <;> omega)⟩, fun j hj hm => setCell_neM (by simpa using hm)⟩, ?_⟩
    have hR4 := hR3.set (j := k * 6) (by omega) ((x + 1 + 9223372036854775808) % 18446744073709551616 - 9223372036854775808)
    have hO4 := hO3.setCellM (B := gk) (o := k * 6) (u := .int .i64 ((x + 1 + 9223372036854775808) % 18446744073709551616 - 9223372036854775808)) (fun g hg => by have := hg1 g hg; omega)
    have hw4 := below_setCellM (B := gk) (o := k * 6) (u := .int .i64 ((x + 1 + 9223372036854775808) % 18446744073709551616 - 9223372036854775808)) hw3 hwg
    generalize w3.setCell ⟨gk, k * 6, none⟩ _ = w4 at *
    refine Wr.fit (by omega) (EndI.mk fun w7 h7 => ⟨(k + 1, w7), Cov.mk (by repeat' (first | exact trivial | refine And.intro rfl ?_)) rfl rfl rfl rfl rfl, rfl, ⟨hlt, h7.below, hO4.at h7 (by simp), fun _ => hR4.at h7 (by simp)⟩, by simp only; omega⟩)
  · have hge : k = K.length := by have := of_decide_eq_false z3; simp only at this; omega
    subst hge
    refine Branch.yes (by simp) ?_
    refine Branch.yes (by simp) ?_
    apply CallI.use1
    focus (exact fun w5 h5 => same11_any l l a1 c1 a ca w5 (hOU.at h5 (by simp)).sl (hS.go h5.below h5.below.size))
    intro w5 v5 h5 hB5
    exact EndI.mk fun w9 h9 => by simp
end Go.Proofs.YtodpgcdandechaaGreat

/-
  rallentando/rallentandolaw13.ZsetTells: the law.
-/
namespace Go.Proofs.YtodpgcdandechaaGreat
set_option linter.unusedVariables false
open Go.ChangeShapes Go.WideShapes Go.ChangeAt Go.RowKit Go.Deep

set_option maxRecDepth 100000 in
theorem zsetTells_lifted (os : Os) (started : os.Started) (H : Type) (enc : TypeId × Value → H) :
    ReturnsInHanded {} Tryz.checked os 6 .any (Rows.zsetTellsSpec.pre6 enc Tryz.prog Tryz.f6 Rows.zsetTellsRow.domain false) (Rows.zsetTellsSpec.post enc Tryz.prog Tryz.f6 false true false false) := by
  refine returnsInHanded_of_change (C := Tryz.checked) own started (by kernel_rfl) Tryz.func6
    (ChangeSpec.witness6 (enc := enc) (C := Tryz.checked) false ⟨#[], #[.slice none 0 0, .slice none 0 0], []⟩ 8 (by kernel_rfl) (by kernel_rfl) (by kernel_rfl) (by kernel_rfl)) ?_
  intro W base args ds gs before hval0 hW _ _
  have hval : ∀ (j : Nat) t v, Tryz.f6.params[j]? = some t → args[j]? = some v → Value.okWide Tryz.prog W .any base t v := hval0
  have hW' := hW
  obtain ⟨p, q, hA0, hV, rfl, hfz, hnd⟩ := hW
  have hA : DataW.TrodAll enc Tryz.prog W 0 (fun _ => true) true Tryz.f6.params.toList args.toList ds p := hA0
  rw [Tryz.params6] at hA hval
  obtain ⟨v0, vs0, d0, ds0, p0_, q0_, hargs, rfl, rfl, h0, r0⟩ := trodAll_cons hA
  obtain ⟨v1, vs1, d1, ds1, p1_, q1_, rfl, rfl, rfl, h1, r1⟩ := trodAll_cons r0
  obtain ⟨rfl, rfl, rfl⟩ := trodAll_nil r1
  obtain rfl : args = #[v0, v1] := by cases args; simp_all
  obtain ⟨rfl, rfl⟩ := trodVars_none hV
  obtain ⟨x0, L0, c0, rfl, S0, G0⟩ := open_lst Tryz.underlying45 (opens_zn Tryz.underlying39 (by kernel_rfl) Tryz.underlying37 (by kernel_rfl)) (hval 0 45 v0 rfl rfl) h0
  obtain ⟨x1, L1, c1, rfl, S1, G1⟩ := open_lst Tryz.underlying45 (opens_zn Tryz.underlying39 (by kernel_rfl) Tryz.underlying37 (by kernel_rfl)) (hval 1 45 v1 rfl rfl) h1
  clear hA0 hval0
  exact (zsetTells_walk L0 L1 (fun z hz => Zs.ins_i64 (G0 z hz)) (fun z hz => Zs.ins_i64 (G1 z hz)) x0 x1 c0 c1 W S0 S1).mono fun e W' ⟨he, hg⟩ => ⟨_, he, law_post laidOut (by kernel_rfl) rfl rfl Tryz.underlying4 hW' rfl hg⟩

set_option maxRecDepth 100000 in
theorem zsetTells_k1 : (Rows.zsetTellsRow.inPlace == Tryz.pinned.checked.prog.inPlace 6) = true := by kernel_rfl
set_option maxRecDepth 100000 in
theorem zsetTells_k2 : (Rows.zsetTellsRow.unfollowed == Tryz.pinned.checked.prog.unfollowed 6) = true := by kernel_rfl
set_option maxRecDepth 100000 in
theorem zsetTells_k3 : (Rows.zsetTellsRow.recurses == Tryz.pinned.checked.prog.recurses 6) = true := by kernel_rfl
set_option maxRecDepth 100000 in
theorem zsetTells_k4 : (Rows.zsetTellsRow.named == Tryz.pinned.checked.prog.varsNamed 6) = true := by kernel_rfl
set_option maxRecDepth 100000 in
theorem zsetTells_closed : joinedFacts Tryz.pinned.checked.prog 6 Tryz.f6 Rows.zsetTellsSpec Rows.zsetTellsRow = true := by
  unfold joinedFacts
  rw [zsetTells_k1, zsetTells_k2, zsetTells_k3, zsetTells_k4]
  kernel_rfl
set_option maxRecDepth 100000 in
theorem zsetTells_over : Rows.zsetTellsRow.holds Tryz.pinned (OpenSpec.ofChange Rows.zsetTellsSpec) :=
  OpenClaim.holds_of_wide 6 Tryz.f6 rfl rfl rfl rfl rfl rfl rfl ⟨rfl, rfl, rfl, rfl, rfl⟩ rfl rfl rfl rfl rfl (by kernel_rfl) Tryz.func6 zsetTells_closed
    (of_decide_eq_true (by kernel_rfl)) (by unfold Func.isWrapper; first | (rw [if_pos (by decide +kernel)]; kernel_rfl) | (rw [if_neg (by decide +kernel)]; exact ⟨rfl, rfl⟩))
    (fun os started H enc _ => zsetTells_lifted os started H enc)

theorem zsetTells.proved : Rows.ZsetTellsSaid := zsetTells_over
#print axioms zsetTells.proved
end Go.Proofs.YtodpgcdandechaaGreat

