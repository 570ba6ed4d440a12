/-
  rallentando/rallentandolaw14.RegionPoints: the law.
-/
import Derived.Test.YtodpgcdandechaaGreatLRegionPoints4
import Derived.Test.YtodpgcdandechaaGreatLRegionPoints5
import Derived.Test.YtodpgcdandechaaGreatLRegionPoints3
/-
  The walk of rallentandolaw14.RegionPoints, by the engine.
-/
namespace Go.Proofs.YtodpgcdandechaaGreat
set_option linter.unusedVariables false
set_option linter.unusedSimpArgs false
set_option maxRecDepth 100000
open Go.RowKit Go.Proofs.YtodpgcdandechaaGreat.Eng Enc

namespace Rg
theorem has_kept {z : Zn} (hz : Zo.chk z = 0) {p : Pt} (ht : p.t.ok = true) (hu : p.u.ok = true) : (Zo.has z p).1 = Dbm.keptL 3 (Zo.matL z) [p.t, p.u] := by
  have hc0 := (Zo.clo hz).1
  unfold Zo.has
  rw [if_pos ⟨hz, ht, hu⟩]
  unfold Dbm.keeps
  rw [if_pos ⟨hc0, by simp [ht, hu]⟩, if_pos (by simp)]
  rfl
theorem may_of_chk {z : Zn} (hz : Zo.chk z = 0) : ∀ x, x < 9 → Bd.may ((Zo.matL z)[x]?.getD 0) = true := fun x hx =>
  Dbm.may_limK (Dbm.lim_mono (Dbm.chk_lim (Zo.clo hz).1 x hx) (by omega))
/-- the stage's theorem: a pair is in one of some zones just if its region is among theirs. -/
theorem points_law {l : List Zn} (hl : ∀ z, z ∈ l → Zo.chk z = 0) {p : Pt} {long : Int} (h : (askNumber p long).2 = 0) : inL l long (askNumber p long).1 = l.any fun z => Dbm.keptL 3 (Zo.matL z) [p.t, p.u] := by
  unfold askNumber at h ⊢
  by_cases hf : fits long = true
  case neg => rw [if_neg hf] at h; cases h
  rw [if_pos hf] at h ⊢
  by_cases hok : p.t.ok = true ∧ p.u.ok = true
  case neg => rw [if_neg hok] at h; cases h
  rw [if_pos hok] at h ⊢
  by_cases hn : number p long < 0
  · rw [if_pos hn] at h; cases h
  rw [if_neg hn]
  simp only
  obtain ⟨_, r1, r2, r3, r4, r5, r6, r7, r8⟩ := rep_of (p := p) (fits_iff.1 hf) (by omega)
  unfold inL isR
  rw [decide_eq_true r2, decide_eq_true r3, r1]
  simp only [Bool.true_and]
  rw [Bool.eq_iff_iff, List.any_eq_true, List.any_eq_true]
  have same : ∀ z, z ∈ l → (Zo.has z (pt (number p long) long)).1 = Dbm.keptL 3 (Zo.matL z) [p.t, p.u] := fun z hz => by
    rw [has_kept (hl z hz) r4 r5]
    exact kept_same r4 r5 hok.1 hok.2 r6 r7 r8 (may_of_chk (hl z hz))
  constructor
  · rintro ⟨z, hz, k⟩; exact ⟨z, hz, by rw [← same z hz]; exact k⟩
  · rintro ⟨z, hz, k⟩; exact ⟨z, hz, by rw [same z hz]; exact k⟩
end Rg
theorem regionPoints_walk (l : List Zn) (p : Pt) (hp : p.ins) (long : Int) (a : Option Addr) (ca : Nat) (w : World) (hS : Sl w.heap.size w (.slice a l.length ca) l) :
    Calls Tryz.prog 4 #[.slice a l.length ca, .agg #[.int .i64 p.t.num, .int .i64 p.t.den, .int .i64 p.u.num, .int .i64 p.u.den], .int .i64 long] w fun e w' => e = .returned (.bool true) ∧ Below w.heap.size w w' := by
  refine fun_eq 0 w Tryz.func4 (args := [.val (.slice a l.length ca), .agg [.val (.int .i64 p.t.num), .val (.int .i64 p.t.den), .val (.int .i64 p.u.num), .val (.int .i64 p.u.den)], .val (.int .i64 long)]) rfl rfl ?_
  have st := Stay.first (w := w)
  refine NewI.mk fun b1 hb1 => ?_
  apply CallI.use1
  focus (exact fun w2 h2 => alive14_any w2)
  intro w2 v2 h2 hB2
  have st := st.next h2 (fun x hx => by simp at hx <;> omega) hB2
  refine Branch.mk (fun hc => ?_) (fun hc => ?_)
  · exact EndI.mk fun w9 h9 => rfl
  have h3 : l.length ≤ 3 := by have := of_decide_eq_false hc; omega
  refine Branch.mk (fun hc2 => ?_) (fun hc2 => ?_)
  · exact EndI.mk fun w9 h9 => rfl
  refine Branch.no rfl ?_
  apply CallI.use1
  focus (exact fun w3 h3 => gnumber_any p long hp w3)
  intro w3 v3 h3 hB3
  have st := st.next h3 (fun x hx => by simp at hx <;> omega) hB3
  apply CallI.use
  focus (exact fun w4 h4 => rlist_any l (by omega) long a ca w4 (hS.st (st.at h4 (fun x hx => by simp at hx <;> omega))))
  rintro v w4 v4 h4 hB4 ⟨a4, c4, rfl, hO4⟩
  have st := st.next h4 (fun x hx => by simp at hx <;> omega) hB4
  apply CallI.use1
  focus (exact fun w5 h5 => zshas_any l p hp a ca w5 (hS.st (st.at h5 (fun x hx => by simp at hx <;> omega))))
  intro w5 v5 h5 hB5
  have st := st.next h5 (fun x hx => by simp at hx <;> omega) hB5
  refine Branch.mk (fun z1 => ?_) (fun z1 => ?_)
  · exact EndI.mk fun w9 h9 => rfl
  have e1 : (Rg.askNumber p long).2 = 0 := by simpa using z1
  refine Branch.mk (fun z2 => ?_) (fun z2 => ?_)
  · exact EndI.mk fun w9 h9 => rfl
  have e2 : (Rg.list l long).2 = 0 := by simpa using z2
  refine Branch.mk (fun z3 => ?_) (fun z3 => ?_)
  · exact EndI.mk fun w9 h9 => rfl
  have e3 : (Zs.has l p).2 = 0 := by simpa using z3
  have hck : Cv.checked [l] = 0 := by
    rcases Classical.em (Cv.checked [l] = 0) with h | h
    · exact h
    · unfold Zs.has at e3; rw [if_neg h] at e3; exact absurd e3 h
  obtain ⟨_, hlc⟩ := Cv.checked_one.1 hck
  have hmany : (Rg.many long).2 = 0 := by
    rcases Classical.em ((Rg.many long).2 = 0) with h | h
    · exact h
    · unfold Rg.list at e2; rw [if_pos h] at e2; exact absurd e2 h
  have hnb : ¬ (l.any (fun z => decide (Zo.chk z ≠ 0)) = true) := fun h => by
    obtain ⟨z, hz, k⟩ := List.any_eq_true.1 h
    simp [hlc z hz] at k
  have hlist : (Rg.list l long).1 = Rg.up long (Rg.inL l long) := by
    unfold Rg.list
    rw [if_neg (by rw [hmany]; simp), if_neg hnb]
  have hfin : decide ((Rg.askNumber p long).1 ∈ (Rg.list l long).1) = (Zs.has l p).1 := by
    rw [Zs.has_doc hck]
    have hok : p.t.ok = true ∧ p.u.ok = true := by
      rcases Classical.em (p.t.ok = true ∧ p.u.ok = true) with h | h
      · exact h
      · rw [Zs.has_doc hck, if_neg h] at e3; cases e3
    rw [if_pos hok, hlist, ← Rg.points_law hlc e1]
    rw [Bool.eq_iff_iff, decide_eq_true_eq]
    exact Rg.mem_up (fun x hx => Rg.inL_in hx) _
  generalize (Rg.askNumber p long).1 = n at hfin ⊢
  generalize (Rg.list l long).1 = m at hfin hO4 ⊢
  have hS4 : Sl v5.heap.size v5 (.slice a4 m.length c4) m := (hO4.st st).sl
  have hmx : m.length ≤ 9223372036854775807 := by obtain ⟨_, _, _, q1, q2, _⟩ := hS4.form; unfold maxLen at q2; omega
  refine LoopI.invC (α := Nat × Bool × World) (fun y => [(15, .val (.int .i64 y.1)), (14, .val (.bool y.2.1))]) (fun y => y.2.2) (fun y => y.1 ≤ m.length ∧ Below v5.heap.size v5 y.2.2 ∧ Below w.heap.size w y.2.2 ∧ (y.2.1 = true ↔ n ∈ m.take y.1)) (fun y => m.length - y.1) ?_ ?_
  · intro w6 h6
    exact ⟨(0, false, w6), Cov.mk (by repeat' (first | exact trivial | refine And.intro rfl ?_)) rfl rfl rfl rfl rfl, rfl, Nat.zero_le _, at_belowM h6 (by simp), h6.below, by simp⟩
  rintro ⟨i, th, U⟩ ⟨hi, hU, hwU, hth⟩
  simp only at hi hU hwU hth
  refine Branch.mk (fun z4 => ?_) (fun z4 => ?_)
  · have hiN : i < m.length := by have := of_decide_eq_true z4; simp only at this; omega
    have hy := List.getElem?_eq_getElem (l := m) (i := i) hiN
    have hts : m.take (i + 1) = m.take i ++ [m[i]'hiN] := by rw [List.take_add_one, hy]; rfl
    generalize m[i]'hiN = x at hy hts
    refine Branch.mk (fun z5 => ?_) (fun z5 => ?_)
    · refine Need.mk (by simp only [inK]; omega) (EndI.mk fun w9 h9 => ⟨(i + 1, true, w9), Cov.mk (by repeat' (first | exact trivial | refine And.intro rfl ?_)) rfl rfl rfl rfl rfl, rfl, ⟨hiN, hU.trans ((at_belowM h9 (by simp)).mono hU.size), h9.below, ?_⟩, by simp only; omega⟩)
      rw [hts]
      simp [hth.1 z5]
    · have hf : ¬ n ∈ m.take i := fun h => by rw [hth.2 h] at z5; cases z5
      refine hS4.idx hy fun ad2 had2 => ?_
      refine hS4.ld1 hy had2 hU (by simp) ?_
      refine Need.mk (by simp only [inK]; omega) (EndI.mk fun w9 h9 => ⟨(i + 1, decide (x = n), w9), Cov.mk (by repeat' (first | exact trivial | refine And.intro rfl ?_)) rfl rfl rfl rfl rfl, rfl, ⟨hiN, hU.trans ((at_belowM h9 (by simp)).mono hU.size), h9.below, ?_⟩, by simp only; omega⟩)
      simp only
      rw [hts, List.mem_append, List.mem_singleton]
      simp [hf, eq_comm]
  · have hge : i = m.length := by have := of_decide_eq_false z4; simp only at this; omega
    subst hge
    rw [List.take_of_length_le (Nat.le_refl _)] at hth
    refine EndI.mk fun w9 h9 => ?_
    have hb : th = (Zs.has l p).1 := by
      rw [← hfin, Bool.eq_iff_iff, decide_eq_true_eq]; exact hth
    rw [hb]
    simp
end Go.Proofs.YtodpgcdandechaaGreat

/-
  rallentando/rallentandolaw14.RegionPoints: the law.
-/
namespace Go.Proofs.YtodpgcdandechaaGreat
set_option linter.unusedVariables false
open Go.ChangeShapes Go.WideShapes Go.ChangeAt Go.RowKit Go.Deep

set_option maxRecDepth 100000 in
theorem regionPoints_lifted (os : Os) (started : os.Started) (H : Type) (enc : TypeId × Value → H) :
    ReturnsInHanded {} Tryz.checked os 4 .any (Rows.regionPointsSpec.pre6 enc Tryz.prog Tryz.f4 Rows.regionPointsRow.domain false) (Rows.regionPointsSpec.post enc Tryz.prog Tryz.f4 false true false false) := by
  refine returnsInHanded_of_change (C := Tryz.checked) own started (by kernel_rfl) Tryz.func4
    (ChangeSpec.witness6 (enc := enc) (C := Tryz.checked) false ⟨#[], #[.slice none 0 0, .agg #[.int .i64 0, .int .i64 0, .int .i64 0, .int .i64 0], .int .i64 0], []⟩ 8 (by kernel_rfl) (by kernel_rfl) (by kernel_rfl) (by kernel_rfl)) ?_
  intro W base args ds gs before hval0 hW _ _
  have hval : ∀ (j : Nat) t v, Tryz.f4.params[j]? = some t → args[j]? = some v → Value.okWide Tryz.prog W .any base t v := hval0
  have hW' := hW
  obtain ⟨p, q, hA0, hV, rfl, hfz, hnd⟩ := hW
  have hA : DataW.TrodAll enc Tryz.prog W 0 (fun _ => true) true Tryz.f4.params.toList args.toList ds p := hA0
  rw [Tryz.params4] at hA hval
  obtain ⟨v0, vs0, d0, ds0, p0_, q0_, hargs, rfl, rfl, h0, r0⟩ := trodAll_cons hA
  obtain ⟨v1, vs1, d1, ds1, p1_, q1_, rfl, rfl, rfl, h1, r1⟩ := trodAll_cons r0
  obtain ⟨v2, vs2, d2, ds2, p2_, q2_, rfl, rfl, rfl, h2, r2⟩ := trodAll_cons r1
  obtain ⟨rfl, rfl, rfl⟩ := trodAll_nil r2
  obtain rfl : args = #[v0, v1, v2] := by cases args; simp_all
  obtain ⟨rfl, rfl⟩ := trodVars_none hV
  obtain ⟨x0, L0, c0, rfl, S0, G0⟩ := open_lst Tryz.underlying45 (opens_zn Tryz.underlying39 (by kernel_rfl) Tryz.underlying37 (by kernel_rfl)) (hval 0 45 v0 rfl rfl) h0
  obtain ⟨z1, rfl, G1⟩ := open_agg (opens_pt Tryz.underlying25 (by kernel_rfl) rfl rfl (opens_rt Tryz.underlying23 (by kernel_rfl) rfl rfl (by kernel_rfl) (by kernel_rfl) Tryz.underlying3 Tryz.underlying3) (opens_rt Tryz.underlying23 (by kernel_rfl) rfl rfl (by kernel_rfl) (by kernel_rfl) Tryz.underlying3 Tryz.underlying3)) (.inl ⟨_, Tryz.underlying25⟩) (hval 1 25 v1 rfl rfl) h1
  obtain ⟨a2, rfl, rfl, rfl, w2⟩ := open_int Tryz.underlying3 (hval 2 3 v2 rfl rfl) h2
  clear hA0 hval0
  exact (regionPoints_walk L0 z1 G1 a2 x0 c0 W S0).mono fun e W' ⟨he, hg⟩ => ⟨_, he, law_post laidOut (by kernel_rfl) rfl rfl Tryz.underlying4 hW' rfl hg⟩

set_option maxRecDepth 100000 in
theorem regionPoints_k1 : (Rows.regionPointsRow.inPlace == Tryz.pinned.checked.prog.inPlace 4) = true := by kernel_rfl
set_option maxRecDepth 100000 in
theorem regionPoints_k2 : (Rows.regionPointsRow.unfollowed == Tryz.pinned.checked.prog.unfollowed 4) = true := by kernel_rfl
set_option maxRecDepth 100000 in
theorem regionPoints_k3 : (Rows.regionPointsRow.recurses == Tryz.pinned.checked.prog.recurses 4) = true := by kernel_rfl
set_option maxRecDepth 100000 in
theorem regionPoints_k4 : (Rows.regionPointsRow.named == Tryz.pinned.checked.prog.varsNamed 4) = true := by kernel_rfl
set_option maxRecDepth 100000 in
theorem regionPoints_closed : joinedFacts Tryz.pinned.checked.prog 4 Tryz.f4 Rows.regionPointsSpec Rows.regionPointsRow = true := by
  unfold joinedFacts
  rw [regionPoints_k1, regionPoints_k2, regionPoints_k3, regionPoints_k4]
  kernel_rfl
set_option maxRecDepth 100000 in
theorem regionPoints_over : Rows.regionPointsRow.holds Tryz.pinned (OpenSpec.ofChange Rows.regionPointsSpec) :=
  OpenClaim.holds_of_wide 4 Tryz.f4 rfl rfl rfl rfl rfl rfl rfl ⟨rfl, rfl, rfl, rfl, rfl⟩ rfl rfl rfl rfl rfl (by kernel_rfl) Tryz.func4 regionPoints_closed
    (of_decide_eq_true (by kernel_rfl)) (by unfold Func.isWrapper; first | (rw [if_pos (by decide +kernel)]; kernel_rfl) | (rw [if_neg (by decide +kernel)]; exact ⟨rfl, rfl⟩))
    (fun os started H enc _ => regionPoints_lifted os started H enc)

theorem regionPoints.proved : Rows.RegionPointsSaid := regionPoints_over
#print axioms regionPoints.proved
end Go.Proofs.YtodpgcdandechaaGreat

