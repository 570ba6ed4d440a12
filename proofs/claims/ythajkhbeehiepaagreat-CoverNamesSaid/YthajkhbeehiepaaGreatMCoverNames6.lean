/-
  Merged texts of this seat (each with its own head below).
-/
import Derived.Test.YthajkhbeehiepaaGreatMCoverNames5
import Derived.Test.YthajkhbeehiepaaGreatMCoverNames4
import Derived.Laws.StructEq
import Derived.Test.YthajkhbeehiepaaGreatMCoverNames3
/-
  What is wanted of zones: sorted, each once, without those that the others cover; the plain laws.
-/
namespace Go.Proofs.YthajkhbeehiepaaGreat
set_option linter.unusedVariables false
set_option linter.unusedSimpArgs false
open Go.RowKit Go.Proofs.YthajkhbeehiepaaGreat.Eng Enc
namespace Cv
open Mi Zo
theorem cpt_strict {l : List Zn} (h : l.Pairwise fun x y => ¬ Lt y x) : (cpt l).Pairwise Lt := by
  induction l with
  | nil => simp [cpt]
  | cons x l ih =>
    rw [List.pairwise_cons] at h
    have h2 := ih h.2
    rw [cpt_cons]
    split
    · exact h2
    · rename_i hne
      rw [List.pairwise_cons]
      refine ⟨fun z hz => ?_, h2⟩
      have hz' := (cpt_mem l z).1 hz
      cases l with
      | nil => simp at hz'
      | cons y m =>
        have hyx : y ≠ x := fun e => hne (by simp [e])
        have hxy : Lt x y := by
          have h3 := h.1 y (by simp)
          apply Classical.byContradiction
          intro h4
          exact hyx (Lt.tot h3 h4)
        rcases List.mem_cons.1 hz' with rfl | hz'
        · exact hxy
        · have h5 := (List.pairwise_cons.1 h.2).1 z hz'
          apply Classical.byContradiction
          intro h6
          exact Lt.ntrans h6 h5 hxy
theorem strict_eq : ∀ {l m : List Zn}, l.Pairwise Lt → m.Pairwise Lt → (∀ x, x ∈ l ↔ x ∈ m) → l = m
  | [], [], _, _, _ => rfl
  | [], y :: m, _, _, h => by have := (h y).2 (by simp); simp at this
  | x :: l, [], _, _, h => by have := (h x).1 (by simp); simp at this
  | x :: l, y :: m, hl, hm, h => by
    rw [List.pairwise_cons] at hl hm
    have e : x = y := by
      rcases List.mem_cons.1 ((h x).1 (by simp)) with e | hx
      · exact e
      · rcases List.mem_cons.1 ((h y).2 (by simp)) with e | hy
        · exact e.symm
        · exact absurd ((hl.1 y hy).trans (hm.1 x hx)) (Lt.irrefl x)
    subst e
    congr 1
    refine strict_eq hl.2 hm.2 fun z => ?_
    constructor
    · intro hz
      rcases List.mem_cons.1 ((h z).1 (by simp [hz])) with rfl | hz'
      · exact absurd (hl.1 z hz) (Lt.irrefl z)
      · exact hz'
    · intro hz
      rcases List.mem_cons.1 ((h z).2 (by simp [hz])) with rfl | hz'
      · exact absurd (hm.1 z hz) (Lt.irrefl z)
      · exact hz'
def sorted (l : List Zn) : List Zn := cpt (sort l)
theorem sorted_strict (l : List Zn) : (sorted l).Pairwise Lt := cpt_strict (sort_sorted l)
theorem sorted_mem (l : List Zn) (x : Zn) : x ∈ sorted l ↔ x ∈ l := (cpt_mem _ x).trans (sort_perm l).mem_iff
theorem sorted_self {l : List Zn} (h : l.Pairwise Lt) : sorted l = l := strict_eq (sorted_strict l) h (sorted_mem l)
theorem sorted_len (l : List Zn) : (sorted l).length ≤ l.length := by
  have := cpt_len (sort l); rw [sort_len] at this; exact this
/-- those that the others cover go, from behind. -/
def pgo : Nat → List Zn → List Zn × Int
  | 0, out => (out, 0)
  | i + 1, out => match out[i]? with
    | none => (out, 0)
    | some z => if (in_ z (out.eraseIdx i)).2 ≠ 0 then ([], (in_ z (out.eraseIdx i)).2) else if (in_ z (out.eraseIdx i)).1 = true then pgo i (out.eraseIdx i) else pgo i out
theorem pgo_succ {i : Nat} {out : List Zn} {z : Zn} (h : out[i]? = some z) : pgo (i + 1) out = if (in_ z (out.eraseIdx i)).2 ≠ 0 then ([], (in_ z (out.eraseIdx i)).2) else if (in_ z (out.eraseIdx i)).1 = true then pgo i (out.eraseIdx i) else pgo i out := by
  rw [pgo, h]
def prune (l : List Zn) : List Zn × Int := if checked [l] ≠ 0 then ([], checked [l]) else pgo (sorted l).length (sorted l)
theorem prune_order {l m : List Zn} (h : ∀ x, x ∈ l ↔ x ∈ m) (hl : l.length ≤ 4096) (hm : m.length ≤ 4096) : prune l = prune m := by
  have e1 : sorted l = sorted m := strict_eq (sorted_strict l) (sorted_strict m) fun x => by rw [sorted_mem, sorted_mem]; exact h x
  have e2 : l.any odd = m.any odd := by
    rw [Bool.eq_iff_iff, List.any_eq_true, List.any_eq_true]
    exact ⟨fun ⟨x, hx, hp⟩ => ⟨x, (h x).1 hx, hp⟩, fun ⟨x, hx, hp⟩ => ⟨x, (h x).2 hx, hp⟩⟩
  have e3 : checked [l] = checked [m] := by
    unfold checked
    have d1 : decide (4096 < l.length) = false := by simp; omega
    have d2 : decide (4096 < m.length) = false := by simp; omega
    by_cases ho : m.any odd = true <;> simp only [List.any_cons, List.any_nil, d1, d2, e2, ho, if_pos, if_neg] <;> rfl
  unfold prune
  rw [e3, e1]
theorem pgo_err {n : Nat} : ∀ {out : List Zn}, (pgo n out).2 ≠ 0 → (pgo n out).1 = [] := by
  induction n with
  | zero => intro out h; exact absurd rfl h
  | succ i ih =>
    intro out h
    cases ho : out[i]? with
    | none => rw [pgo, ho] at h; exact absurd rfl h
    | some z =>
      rw [pgo_succ ho] at h ⊢
      by_cases h1 : (in_ z (out.eraseIdx i)).2 ≠ 0
      · rw [if_pos h1]
      · rw [if_neg h1] at h ⊢
        by_cases h2 : (in_ z (out.eraseIdx i)).1 = true
        · rw [if_pos h2] at h ⊢; exact ih h
        · rw [if_neg h2] at h ⊢; exact ih h
theorem prune_err {l : List Zn} (h : (prune l).2 ≠ 0) : (prune l).1 = [] := by
  unfold prune at h ⊢
  by_cases h1 : checked [l] ≠ 0
  · rw [if_pos h1]
  · rw [if_neg h1] at h ⊢; exact pgo_err h
/-- no one from a place on is covered by the others. -/
def Bare (n : Nat) (out : List Zn) : Prop := ∀ j z, n ≤ j → out[j]? = some z → ¬ Cov z (out.eraseIdx j)
theorem mem_erase {l : List Zn} {i : Nat} {x : Zn} : x ∈ l.eraseIdx i ↔ ∃ j, j ≠ i ∧ l[j]? = some x := by
  rw [List.mem_eraseIdx_iff_getElem?]
theorem pgo_ok {n : Nat} : ∀ {out : List Zn}, n ≤ out.length → (pgo n out).2 = 0 → Bare n out → (∀ z, z ∈ out → Zo.chk z = 0) → (pgo n out).1.Sublist out ∧ Bare 0 (pgo n out).1 ∧ ∀ t, (∃ b, b ∈ out ∧ Fz b t) → ∃ b, b ∈ (pgo n out).1 ∧ Fz b t := by
  induction n with
  | zero => intro out _ _ hb _; exact ⟨List.Sublist.refl _, hb, fun t h => h⟩
  | succ i ih =>
    intro out hn h hb hc
    have ho := List.getElem?_eq_getElem (l := out) (i := i) (by omega)
    generalize out[i] = z at ho
    rw [pgo_succ ho] at h ⊢
    by_cases h1 : (in_ z (out.eraseIdx i)).2 ≠ 0
    · rw [if_pos h1] at h; exact absurd h h1
    rw [if_neg h1] at h ⊢
    obtain ⟨_, _, hcov⟩ := in_ok (z := z) (l := out.eraseIdx i) (by simpa using h1)
    by_cases h2 : (in_ z (out.eraseIdx i)).1 = true
    · rw [if_pos h2] at h ⊢
      have hsub := List.eraseIdx_sublist out i
      have hbare : Bare i (out.eraseIdx i) := fun j x hj hx hcv => by
        have hx' : out[j + 1]? = some x := by
          rw [List.getElem?_eraseIdx] at hx
          rwa [if_neg (by omega)] at hx
        refine hb (j + 1) x (by omega) hx' (hcv.mono fun y hy => ?_)
        obtain ⟨q, hq, hqy⟩ := mem_erase.1 hy
        rw [List.getElem?_eraseIdx] at hqy
        split at hqy
        · exact mem_erase.2 ⟨q, by omega, hqy⟩
        · exact mem_erase.2 ⟨q + 1, by omega, hqy⟩
      obtain ⟨k1, k2, k3⟩ := ih (out := out.eraseIdx i) (by rw [List.length_eraseIdx]; split <;> omega) h hbare (fun x hx => hc x (hsub.mem hx))
      refine ⟨k1.trans hsub, k2, fun t ht => k3 t ?_⟩
      obtain ⟨b, hb1, hb2⟩ := ht
      obtain ⟨j, hj⟩ := List.mem_iff_getElem?.1 hb1
      by_cases hji : j = i
      · subst hji
        rw [ho] at hj; injection hj with hj; subst hj
        exact hcov.1 h2 t hb2
      · exact ⟨b, mem_erase.2 ⟨j, hji, hj⟩, hb2⟩
    · rw [if_neg h2] at h ⊢
      refine ih (by omega) h (fun j x hj hx => ?_) hc
      by_cases hji : j = i
      · subst hji
        rw [ho] at hx; injection hx with hx; subst hx
        exact fun hcv => h2 (hcov.2 hcv)
      · exact hb j x (by omega) hx
theorem pgo_self {n : Nat} : ∀ {out : List Zn}, n ≤ out.length → (pgo n out).2 = 0 → Bare 0 out → pgo n out = (out, 0) := by
  induction n with
  | zero => intro out _ _ _; rfl
  | succ i ih =>
    intro out hn h hb
    have ho := List.getElem?_eq_getElem (l := out) (i := i) (by omega)
    generalize out[i] = z at ho
    rw [pgo_succ ho] at h ⊢
    by_cases h1 : (in_ z (out.eraseIdx i)).2 ≠ 0
    · rw [if_pos h1] at h; exact absurd h h1
    rw [if_neg h1] at h ⊢
    obtain ⟨_, _, hcov⟩ := in_ok (z := z) (l := out.eraseIdx i) (by simpa using h1)
    have h2 : ¬ (in_ z (out.eraseIdx i)).1 = true := fun h2 => hb i z (Nat.zero_le _) ho (hcov.1 h2)
    rw [if_neg h2] at h ⊢
    exact ih (by omega) h hb
theorem checked_one {l : List Zn} : checked [l] = 0 ↔ l.length ≤ 4096 ∧ ∀ z, z ∈ l → Zo.chk z = 0 := by
  unfold checked
  simp only [List.any_cons, List.any_nil, Bool.or_false, decide_eq_true_eq]
  by_cases h1 : 4096 < l.length
  · rw [if_pos h1]; constructor
    · intro h; cases h
    · intro h; omega
  · rw [if_neg h1]
    by_cases h2 : l.any odd = true
    · rw [if_pos h2]
      constructor
      · intro h; cases h
      · intro h
        obtain ⟨z, hz, ho⟩ := List.any_eq_true.1 h2
        simp [odd, h.2 z hz] at ho
    · rw [if_neg h2]
      refine ⟨fun _ => ⟨by omega, fun z hz => ?_⟩, fun _ => rfl⟩
      apply Classical.byContradiction
      intro h3
      exact h2 (List.any_eq_true.2 ⟨z, hz, by simpa [odd] using h3⟩)
/-- what is wanted: of the zones, in order, no one covered by the others, with the same points. -/
structure Wanted (l m : List Zn) : Prop where
  chk : ∀ z, z ∈ l → Zo.chk z = 0
  len : l.length ≤ 4096
  mem : ∀ z, z ∈ m → z ∈ l
  strict : m.Pairwise Lt
  bare : Bare 0 m
  pts : ∀ t, (∃ b, b ∈ l ∧ Fz b t) ↔ ∃ b, b ∈ m ∧ Fz b t
  mlen : m.length ≤ l.length
theorem prune_ok {l : List Zn} (h : (prune l).2 = 0) : Wanted l (prune l).1 := by
  unfold prune at h ⊢
  by_cases h1 : checked [l] ≠ 0
  · rw [if_pos h1] at h; exact absurd h h1
  rw [if_neg h1] at h ⊢
  obtain ⟨hl, hc⟩ := checked_one.1 (by simpa using h1)
  obtain ⟨k1, k2, k3⟩ := pgo_ok (Nat.le_refl _) h (fun j z hj hz => by have := (List.getElem?_eq_some_iff.1 hz).1; omega) (fun z hz => hc z ((sorted_mem l z).1 hz))
  have hmem : ∀ z, z ∈ (pgo (sorted l).length (sorted l)).1 → z ∈ l := fun z hz => (sorted_mem l z).1 (k1.mem hz)
  refine ⟨hc, hl, hmem, (sorted_strict l).sublist k1, k2, fun t => ⟨fun ⟨b, hb, hbt⟩ => k3 t ⟨b, (sorted_mem l b).2 hb, hbt⟩, fun ⟨b, hb, hbt⟩ => ⟨b, hmem b hb, hbt⟩⟩, Nat.le_trans k1.length_le (sorted_len l)⟩
theorem Wanted.again {l m : List Zn} (h : Wanted l m) (h2 : (prune m).2 = 0) : (prune m).1 = m := by
  unfold prune at h2 ⊢
  by_cases h1 : checked [m] ≠ 0
  · rw [if_pos h1] at h2; exact absurd h2 h1
  rw [if_neg h1] at h2 ⊢
  rw [sorted_self h.strict] at h2 ⊢
  rw [pgo_self (Nat.le_refl _) h2 h.bare]
end Cv
end Go.Proofs.YthajkhbeehiepaaGreat

/-
  == and != at two zones.
-/
namespace Go.Proofs.YthajkhbeehiepaaGreat
set_option linter.unusedVariables false
set_option linter.unusedSimpArgs false
set_option maxRecDepth 100000
open Go.RowKit Go.Proofs.YthajkhbeehiepaaGreat.Eng Enc

theorem equalZ (d : Nat) (x y : Zn) (w : World) : (Op.equalIn (d + 1 + 1) 39 (.agg #[.int .i64 x.a, .int .i64 x.b, .int .i64 x.c, .int .i64 x.d, .int .i64 x.e, .int .i64 x.f]) (.agg #[.int .i64 y.a, .int .i64 y.b, .int .i64 y.c, .int .i64 y.d, .int .i64 y.e, .int .i64 y.f])).run Tryz.prog w = .ok (decide (x = y)) w := by
  have hu := Tryz.underlying39
  have hb := Tryz.underlying37
  have hs := Tryz.sizeOf37
  have ha := Tryz.isAgg37
  rw [Op.equalIn]
  simp only [Sem.run_bind, run_underlying hu, Result.andThen_ok, hs]
  have hpart : ∀ (vs : Array Value) (k : Nat) (v : Value), vs[k]? = some v → (part 37 vs k).run Tryz.prog w = .ok v w := fun vs k v h => by
    simp [part, Sem.run_bind, ha, hs, Result.andThen_ok, h]
  have he : ∀ a b : Int, (Op.equalIn (d + 1) 37 (.int .i64 a) (.int .i64 b)).run Tryz.prog w = .ok (a == b) w := fun a b => run_equalIn_int w d _ _ _ a b hb
  rw [Std.Legacy.Range.forIn_eq_forIn_range']
  simp [Std.Legacy.Range.size, List.range', Sem.run_bind, hpart, he, Result.andThen_ok]
  have hxy : x = y ↔ (x.a = y.a ∧ x.b = y.b ∧ x.c = y.c ∧ x.d = y.d ∧ x.e = y.e ∧ x.f = y.f) := by
    cases x; cases y; simp
  simp only [hxy]
  repeat' split
  all_goals simp_all
theorem run_eql_zn (x y : Zn) (w : World) : (binOp .eql 39 (.agg #[.int .i64 x.a, .int .i64 x.b, .int .i64 x.c, .int .i64 x.d, .int .i64 x.e, .int .i64 x.f]) (.agg #[.int .i64 y.a, .int .i64 y.b, .int .i64 y.c, .int .i64 y.d, .int .i64 y.e, .int .i64 y.f])).run Tryz.prog w = .ok (.bool (decide (x = y))) w := by
  rw [run_eql_struct, show (10000 : Nat) = 9998 + 1 + 1 from rfl, equalZ]; rfl
theorem run_neq_zn (x y : Zn) (w : World) : (binOp .neq 39 (.agg #[.int .i64 x.a, .int .i64 x.b, .int .i64 x.c, .int .i64 x.d, .int .i64 x.e, .int .i64 x.f]) (.agg #[.int .i64 y.a, .int .i64 y.b, .int .i64 y.c, .int .i64 y.d, .int .i64 y.e, .int .i64 y.f])).run Tryz.prog w = .ok (.bool (decide (x ≠ y))) w := by
  rw [run_neq_struct, show (10000 : Nat) = 9998 + 1 + 1 from rfl, equalZ]
  simp [Result.andThen]
theorem run_eql_znG (p q : Operand) (x y : Zn) (w : World) : (do eqGuard .eql 39 p q (.agg #[.int .i64 x.a, .int .i64 x.b, .int .i64 x.c, .int .i64 x.d, .int .i64 x.e, .int .i64 x.f]) (.agg #[.int .i64 y.a, .int .i64 y.b, .int .i64 y.c, .int .i64 y.d, .int .i64 y.e, .int .i64 y.f]); binOp .eql 39 (.agg #[.int .i64 x.a, .int .i64 x.b, .int .i64 x.c, .int .i64 x.d, .int .i64 x.e, .int .i64 x.f]) (.agg #[.int .i64 y.a, .int .i64 y.b, .int .i64 y.c, .int .i64 y.d, .int .i64 y.e, .int .i64 y.f]) : Sem Value).run Tryz.prog w = .ok (.bool (decide (x = y))) w := by
  have hg : (eqGuard .eql 39 p q (.agg #[.int .i64 x.a, .int .i64 x.b, .int .i64 x.c, .int .i64 x.d, .int .i64 x.e, .int .i64 x.f]) (.agg #[.int .i64 y.a, .int .i64 y.b, .int .i64 y.c, .int .i64 y.d, .int .i64 y.e, .int .i64 y.f])).run Tryz.prog w = .ok () w := run_eqGuard_agg _ _ _ _ _ _ _ (by kernel_rfl)
  rw [Sem.run_bind, hg]
  exact run_eql_zn x y w
theorem run_neq_znG (p q : Operand) (x y : Zn) (w : World) : (do eqGuard .neq 39 p q (.agg #[.int .i64 x.a, .int .i64 x.b, .int .i64 x.c, .int .i64 x.d, .int .i64 x.e, .int .i64 x.f]) (.agg #[.int .i64 y.a, .int .i64 y.b, .int .i64 y.c, .int .i64 y.d, .int .i64 y.e, .int .i64 y.f]); binOp .neq 39 (.agg #[.int .i64 x.a, .int .i64 x.b, .int .i64 x.c, .int .i64 x.d, .int .i64 x.e, .int .i64 x.f]) (.agg #[.int .i64 y.a, .int .i64 y.b, .int .i64 y.c, .int .i64 y.d, .int .i64 y.e, .int .i64 y.f]) : Sem Value).run Tryz.prog w = .ok (.bool (decide (x ≠ y))) w := by
  have hg : (eqGuard .neq 39 p q (.agg #[.int .i64 x.a, .int .i64 x.b, .int .i64 x.c, .int .i64 x.d, .int .i64 x.e, .int .i64 x.f]) (.agg #[.int .i64 y.a, .int .i64 y.b, .int .i64 y.c, .int .i64 y.d, .int .i64 y.e, .int .i64 y.f])).run Tryz.prog w = .ok () w := run_eqGuard_agg _ _ _ _ _ _ _ (by kernel_rfl)
  rw [Sem.run_bind, hg]
  exact run_neq_zn x y w
end Go.Proofs.YthajkhbeehiepaaGreat

/-
  slices.Delete at a list of api.Zone: in place.
-/
namespace Go.Proofs.YthajkhbeehiepaaGreat
set_option linter.unusedVariables false
set_option linter.unusedSimpArgs false
set_option maxRecDepth 100000
open Go.RowKit Go.Proofs.YthajkhbeehiepaaGreat.Eng Enc

theorem elDZ : ElOk Tryz.prog 45 39 6 48 := elOk (z := .agg #[.int .i64 0, .int .i64 0, .int .i64 0, .int .i64 0, .int .i64 0, .int .i64 0]) Tryz.underlying45 (by kernel_rfl) rfl (by decide)
theorem tyDZ : TyOk Tryz.prog 39 ⟨[.int .i64 0, .int .i64 0, .int .i64 0, .int .i64 0, .int .i64 0, .int .i64 0], true⟩ := tyOk_agg Tryz.zeroValue39 Tryz.sizeOf39 Tryz.isAgg39 rfl
theorem deleteZ_any (l : List Zn) (g cap base i j : Nat) (e0 : TypeId) (he : e0 = 39) (hij : i < j) (hj : j ≤ l.length) (B : Nat) (w : World) (hB : B ≤ w.heap.size) (hg : B ≤ g) (hO : Own e0 base w (.slice (some ⟨g, 0, none⟩) l.length cap) l) (hlen : l.length ≤ 1000000) :
    Calls Tryz.prog 100 #[.slice (some ⟨g, 0, none⟩) l.length cap, .int .i64 i, .int .i64 j] w fun e w' => ∃ v, e = .returned v ∧ Below B w w' ∧ v = .slice (some ⟨g, 0, none⟩) (i + (l.length - j)) cap ∧ Own e0 base w' (.slice (some ⟨g, 0, none⟩) (i + (l.length - j)) cap) (l.take i ++ l.drop j) ∧ w.grownBy w' (some g) := by
  subst he
  obtain ⟨_, hbg, hgl, cur0, _, hcap, hmax, _, _⟩ := hO.at0
  have hm : cap ≤ 9223372036854775807 := by unfold maxLen at hmax; omega
  refine fun_at 0 B w hB Tryz.func100 (args := [.val (.slice (some ⟨g, 0, none⟩) l.length cap), .val (.int .i64 i), .val (.int .i64 j)]) rfl rfl ?_
  refine Need.mk ⟨by omega, by omega, by omega, by omega⟩ ?_
  refine Branch.no (by simp; omega) ?_
  refine DrawI.wr (.tk 0 (.tk 1 (.tk 2 (.tk 3 (.tk 4 (.tk 5 (.ev 6 (.tk 7 .done)))))))) [] [g] (by kernel_rfl) rfl (fun _ h => by cases h) fun w1 h1 => ?_
  refine Need.mk ⟨by omega, by omega, by omega⟩ ?_
  refine Need.mk ⟨by omega, by omega, by omega⟩ ?_
  have hdl : (l.drop j).length = l.length - j := by simp
  have hil : (l.take i).length = i := by simp; omega
  refine GenN.mk fun w2 h2 => ?_
  have k2 := h1.go.trans (h2.go.mono h1.size)
  have hO2 : Own 39 base w2 (.slice (some ⟨g, 0, none⟩) l.length cap) l := hO.below k2
  have hT := hO2.take i (by omega)
  have hs0 := (hO2.sl).sub j l.length hj (Nat.le_refl _)
  rw [List.take_of_length_le (by simp)] at hs0
  obtain ⟨hl, hs⟩ := hs0.src
  have happ : ∃ w', (Builtin.append_ #[45, 45] 45 #[.slice (some ⟨g, 0, none⟩) i cap, .slice (if cap = j then some ⟨g, 0, none⟩ else (some (⟨g, 0, none⟩ : Addr)).map (·.add (j * size Zn))) (l.length - j) (cap - j)]).run Tryz.prog w2 = .ok (.slice (some ⟨g, 0, none⟩) (i + (l.length - j)) cap) w' ∧
      Own 39 base w' (.slice (some ⟨g, 0, none⟩) (i + (l.length - j)) cap) (l.take i ++ l.drop j) ∧ w2.grownBy w' (some g) := by
    obtain ⟨ht, ⟨inf, z, hi, hz, hss, hb, hzs⟩, hp⟩ := elDZ
    have hown : w2.ownsRow base 39 (size Zn) (.slice (some ⟨g, 0, none⟩) i cap) i (cellsL (l.take i)) := by have := hT; unfold Own at this; rwa [hil] at this
    rcases hs with ⟨e0, hm0⟩ | ⟨ad, c, e0, hc⟩
    · split at e0 <;> simp at e0
    · rw [e0]
      rw [hdl] at hl ⊢
      obtain ⟨w', a1, a2, a3⟩ := run_append_fits (P := Tryz.prog) w2 base 45 45 39 inf (size Zn) ht hi hss g i cap (cellsL (l.take i)) hown ad (l.length - j) c (cellsL (l.drop j)) hl hc (cellsL_one _) (by omega)
      refine ⟨w', a1, ?_, a3⟩
      unfold Own
      rw [cellsL_append, List.length_append, hil, hdl]; exact a2
  obtain ⟨w3, hr3, hO3, hg3⟩ := happ
  refine ⟨.slice (some ⟨g, 0, none⟩) (i + (l.length - j)) cap, w3, ?_, kpD_grown h2 hg3 (fun k hk => by injection hk with hk; subst hk; exact ⟨hg, by simp, .inl (by simp [locs])⟩), ?_⟩
  · exact run_value hr3
  have hnl : (l.take i ++ l.drop j).length = i + (l.length - j) := by rw [List.length_append, hil, hdl]
  refine Need.mk ⟨by omega, by omega, by omega⟩ ?_
  refine GenN.mk fun w4 h4 => ?_
  have hO4 := hO3.below h4.go
  have g4 : w.grownBy w4 (some g) := grown_below (grown_trans (grown_below (grown_refl w (some g)) k2) hg3) h4.go
  obtain ⟨_, _, hgl4, cur, hc4, _, _, hs4, _⟩ := hO4.at0
  have hlo : i + (l.length - j) < l.length := by omega
  have hroom : (i + (l.length - j)) * size Zn + (j - i) * size Zn ≤ cur.size := by
    rw [hs4, ← Nat.add_mul]; exact Nat.mul_le_mul_right _ (by omega)
  obtain ⟨vs, hvl, hrun⟩ := run_clear (P := Tryz.prog) (c := cap - (i + (l.length - j))) elDZ.ht tyDZ (by decide) (o := (i + (l.length - j)) * size Zn) (n := j - i) hc4 hroom (by omega)
  have hvl' : vs.length = (j - i) * size Zn := hvl
  refine ⟨_, _, hrun _ _ _ ?_, ⟨below_setRow (Below.refl _ _) hg _, fun b hb => by cases hb⟩, ?_⟩
  · show Value.slice (if cap = _ then _ else _) _ _ = _
    rw [if_neg (by simp only [Int.toNat_natCast]; omega)]
    simp only [Int.toNat_natCast, Option.map_some, addr_addL, Nat.zero_add, Value.slice.injEq, true_and]
    exact ⟨rfl, by omega, trivial⟩
  refine EndI.mk fun w5 h5 => ?_
  refine ⟨rfl, (hO4.setRow hc4 _ vs (by rw [hnl]; exact Nat.le_refl _) (by rw [hvl']; exact hroom)).below h5.go, ?_⟩
  exact grown_below (grown_trans g4 (grown_setRow w4 g _)) h5.go
end Go.Proofs.YthajkhbeehiepaaGreat

/-
  slices.Compact at a list of zones: in place.
-/
namespace Go.Proofs.YthajkhbeehiepaaGreat
set_option linter.unusedVariables false
set_option linter.unusedSimpArgs false
set_option maxRecDepth 100000
open Go.RowKit Go.Proofs.YthajkhbeehiepaaGreat.Eng Enc

theorem compactZ_few (v : Value) (l : List Zn) (a : Option Addr) (cap : Nat) (hl : l.length < 2) (w : World) :
    Calls Tryz.prog 97 #[.slice a l.length cap] w fun e w' => e = .returned (.slice a l.length cap) ∧ Below w.heap.size w w' := by
  refine fun_eq 0 w Tryz.func97 (args := [.val (.slice a l.length cap)]) rfl rfl ?_
  refine Branch.yes (by simp; omega) ?_
  exact EndI.mk fun w9 h9 => rfl
theorem compactZ_any (l : List Zn) (g cap base : Nat) (h2 : 2 ≤ l.length) (B : Nat) (w : World) (hB : B ≤ w.heap.size) (hg : B ≤ g) (hO : Own 39 base w (.slice (some ⟨g, 0, none⟩) l.length cap) l) (hlen : l.length ≤ 1000000) :
    Calls Tryz.prog 97 #[.slice (some ⟨g, 0, none⟩) l.length cap] w fun e w' => ∃ v, e = .returned v ∧ Below B w w' ∧ v = .slice (some ⟨g, 0, none⟩) (Cv.cpt l).length cap ∧ Own 39 base w' (.slice (some ⟨g, 0, none⟩) (Cv.cpt l).length cap) (Cv.cpt l) ∧ w.grownBy w' (some g) := by
  obtain ⟨_, hbg, hgl, cur0, _, hcap, hmax, _, _⟩ := hO.at0
  have hm : cap ≤ 9223372036854775807 := by unfold maxLen at hmax; omega
  refine fun_at 0 B w hB Tryz.func97 (args := [.val (.slice (some ⟨g, 0, none⟩) l.length cap)]) rfl rfl ?_
  refine Branch.no (by simp; omega) ?_
  refine LoopI.invC (α := Nat × World) (fun y => [(3, .val (.int .i64 (y.1 + 1 : Nat)))]) (fun y => y.2) (fun y => y.1 + 1 ≤ l.length ∧ Below w.heap.size w y.2 ∧ ∀ j x y0, j < y.1 → l[j]? = some y0 → l[j + 1]? = some x → x ≠ y0) (fun y => l.length - y.1) ?_ ?_
  · intro w1 h1
    exact ⟨(0, w1), Cov.mk (by repeat' (first | exact trivial | refine And.intro rfl ?_)) rfl rfl rfl rfl rfl, rfl, by omega, h1.go, fun j x y hj => by omega⟩
  rintro ⟨k, V⟩ ⟨hk, hV, hall⟩
  simp only at hk hV hall
  refine Branch.mk (fun hc => ?_) (fun hc => ?_)
  · have hlt : k + 1 < l.length := by simp only at hc; have := of_decide_eq_true hc; omega
    refine DrawI.go (.tk 0 (.tk 1 (.tk 2 (.tk 3 (.tk 4 (.tk 5 (.tk 6 (.tk 7 (.tk 8 (.ev 9 .done)))))))))) (by kernel_rfl) fun w2 h2 => ?_
    have hV2 : Below w.heap.size w w2 := hV.trans (h2.go.mono hV.size)
    have hO2 := hO.below hV2
    have hS2 := hO2.sl
    have hx := List.getElem?_eq_getElem (l := l) (i := k + 1) hlt
    have hy := List.getElem?_eq_getElem (l := l) (i := k) (by omega)
    generalize l[k + 1] = x at hx
    generalize l[k]'(by omega) = y at hy
    refine hS2.idx hx fun ad had => ?_
    refine hS2.ld hx had (Below.refl _ _) (by simp) ?_
    refine Need.mk (by simp only [inK]; omega) ?_
    conv => whnf
    rw [show (((k + 1 : Nat) : Int) - 1) = ((k : Nat) : Int) by omega]
    refine hS2.idx hy fun ad2 had2 => ?_
    refine hS2.ld hy had2 (Below.refl _ _) (by simp) ?_
    refine GenV.to (x := .bool (decide (x = y))) (fun w => run_eql_znG _ _ x y w) fun w3 h3 => ?_
    have hV3 : Below w.heap.size w w3 := hV2.trans (h3.go.mono hV2.size)
    refine Branch.mk (fun hc2 => ?_) (fun hc2 => ?_)
    · have hxy : x = y := by simpa using hc2
      have hnd : Cv.cpt (l.take (k + 2)) = l.take (k + 1) := by
        rw [Cv.cpt_step hy hx, if_pos hxy]
        refine Cv.cpt_all fun j x y hy hx => ?_
        rw [List.getElem?_take] at hy hx
        split at hx
        · rename_i hj
          rw [if_pos (by omega)] at hy
          exact hall j x y (by omega) hy hx
        · cases hx
      refine Need.mk ⟨by omega, by omega, by omega⟩ ?_
      refine LoopI.invC (α := (Nat × Nat × List Zn) × World) (fun y => [(3, .val (.int .i64 (y.1.1 : Nat))), (5, .val (.int .i64 (y.1.2.1 + 1 : Nat)))]) (fun y => y.2)
        (fun y => k + 1 + y.1.2.1 + 1 ≤ l.length ∧ y.1.1 ≤ k + 1 + y.1.2.1 ∧ 1 ≤ y.1.1 ∧ y.1.2.2.length = l.length ∧ (∀ j, k + 1 + y.1.2.1 ≤ j → y.1.2.2[j]? = l[j]?) ∧ y.1.2.2.take y.1.1 = Cv.cpt (l.take (k + 1 + y.1.2.1 + 1)) ∧ Own 39 base y.2 (.slice (some ⟨g, 0, none⟩) l.length cap) y.1.2.2 ∧ Below B w y.2 ∧ w.grownBy y.2 (some g)) (fun y => l.length - y.1.2.1) ?_ ?_
      · intro w4 h4
        have h4' : Below w.heap.size w w4 := hV3.trans (h4.go.mono hV3.size)
        exact ⟨((k + 1, 0, l), w4), Cov.mk (by repeat' (first | exact trivial | refine And.intro rfl ?_)) rfl rfl rfl rfl rfl, rfl, ⟨by show k + 1 + 0 + 1 ≤ l.length; omega, by show k + 1 ≤ k + 1 + 0; omega, by show 1 ≤ k + 1; omega, rfl, fun _ _ => rfl, hnd.symm, hO.below h4', h4'.mono hB, below_grown h4' _⟩⟩
      rintro ⟨⟨kw, q, m⟩, U⟩ ⟨i1, i2, i3, i4, i5, i6, i7, i8, i9⟩
      simp only at i1 i2 i3 i4 i5 i6 i7 i8 i9
      refine Branch.mk (fun hc3 => ?_) (fun hc3 => ?_)
      · have hlt2 : k + 1 + q + 1 < l.length := by simp only at hc3; have := of_decide_eq_true hc3; omega
        refine DrawI.go (.tk 0 (.tk 1 (.tk 2 (.tk 3 (.tk 4 (.tk 5 (.tk 6 (.tk 7 (.tk 8 (.ev 9 .done)))))))))) (by kernel_rfl) fun w5 h5 => ?_
        have hg5 : Below U.heap.size U w5 := h5.go
        have j7 := i7.below hg5
        have hT := fun (X : World) (hX : Own 39 base X (.slice (some ⟨g, 0, none⟩) l.length cap) m) => (hX.sl).sub (k + 1) l.length (by omega) (by omega)
        have eT : ∀ j z, m[k + 1 + j]? = some z → ((m.drop (k + 1)).take (l.length - (k + 1)))[j]? = some z := fun j z hz => by
          have := (List.getElem?_eq_some_iff.1 hz).1
          rw [List.getElem?_take, if_pos (by omega), List.getElem?_drop]; exact hz
        have hx1 := List.getElem?_eq_getElem (l := l) (i := k + 1 + (q + 1)) (by omega)
        have hy1 := List.getElem?_eq_getElem (l := l) (i := k + 1 + q) (by omega)
        generalize l[k + 1 + (q + 1)]'(by omega) = x1 at hx1
        generalize l[k + 1 + q]'(by omega) = y1 at hy1
        have hS5 := hT w5 j7
        refine hS5.idx (eT (q + 1) x1 ((i5 _ (by omega)).trans hx1)) fun ad3 had3 => ?_
        refine hS5.ld (eT (q + 1) x1 ((i5 _ (by omega)).trans hx1)) had3 (Below.refl _ _) (by simp) ?_
        refine Need.mk (by simp only [inK]; omega) ?_
        conv => whnf
        rw [show (((q + 1 : Nat) : Int) - 1) = ((q : Nat) : Int) by omega]
        refine hS5.idx (eT q y1 ((i5 _ (by omega)).trans hy1)) fun ad4 had4 => ?_
        refine hS5.ld (eT q y1 ((i5 _ (by omega)).trans hy1)) had4 (Below.refl _ _) (by simp) ?_
        refine GenV.to (x := .bool (decide (x1 ≠ y1))) (fun w => run_neq_znG _ _ x1 y1 w) fun w6 h6 => ?_
        have hg6 : Below w5.heap.size w5 w6 := h6.go
        have j8 := j7.below hg6
        have hcp := Cv.cpt_step (l := l) (k := k + 1 + q) hy1 (by rw [Nat.add_assoc]; exact hx1)
        have hU6 : Below U.heap.size U w6 := hg5.trans (hg6.mono hg5.size)
        have hUs : B ≤ U.heap.size := Nat.le_trans hB i8.size
        refine Branch.mk (fun hc4 => ?_) (fun hc4 => ?_)
        · have hne : x1 ≠ y1 := by simpa using hc4
          rw [if_neg hne] at hcp
          have hS6 := hT w6 j8
          refine hS6.idx (eT (q + 1) x1 ((i5 _ (by omega)).trans hx1)) fun ad5 had5 => ?_
          refine hS6.ld (eT (q + 1) x1 ((i5 _ (by omega)).trans hx1)) had5 (Below.refl _ _) (by simp) ?_
          have hmk := List.getElem?_eq_getElem (l := m) (i := kw) (by omega)
          refine (j8.sl).idx hmk fun ad6 had6 => ?_
          injection had6 with had6; subst had6
          refine Need.mk rfl ?_
          refine ⟨fun w7 h7 => ?_⟩
          have hg7 : Below w6.heap.size w6 w7 := h7.go
          have j9 := j8.below hg7
          obtain ⟨_, _, _, cur, hcur, _, _, hcs, _⟩ := j9.at0
          have eo : (⟨g, 0, none⟩ : Addr).add ((kw : Int).toNat * 6) = ⟨g, kw * 6, none⟩ := by rw [addr_addL, Nat.zero_add, Int.toNat_natCast]
          have hset := j9.set hcur kw (by omega) x1
          have hU7 : Below U.heap.size U w7 := hU6.trans (hg7.mono hU6.size)
          refine ⟨g, kw * 6, cur, _, eo, hcur, ?_, ⟨below_setRow (Below.refl _ _) hg _, fun b hb => by cases hb⟩, ?_⟩
          · have := Nat.mul_le_mul_right 6 (show kw + 1 ≤ cap by omega)
            have hcs' : cur.size = cap * 6 := hcs
            show kw * 6 + 6 ≤ cur.size
            omega
          have hg8 : w.grownBy (w7.setRow g (cur.toList.take (kw * size Zn) ++ enc x1 ++ cur.toList.drop (kw * size Zn + (enc x1).length)).toArray) (some g) := grown_trans (grown_below i9 hU7) (grown_setRow _ _ _)
          have hb8 : Below B w (w7.setRow g (cur.toList.take (kw * size Zn) ++ enc x1 ++ cur.toList.drop (kw * size Zn + (enc x1).length)).toArray) := below_setRow (i8.trans (hU7.mono hUs)) hg _
          refine Need.mk (by simp only [inK]; omega) ?_
          refine Need.mk (by simp only [inK]; omega) (EndI.mk fun w9 h9 => ⟨((kw + 1, q + 1, m.set kw x1), w9), Cov.mk (by repeat' (first | exact trivial | refine And.intro rfl ?_)) rfl rfl rfl rfl rfl, rfl, ?_, by simp only; omega⟩)
          have h9g := h9.go
          refine ⟨by simp only; omega, by simp only; omega, by simp only; omega, by simp only [List.length_set]; exact i4, fun j hj => ?_, ?_, hset.below h9g, hb8.trans (h9g.mono (Nat.le_trans hB hb8.size)), grown_below hg8 h9g⟩
          · simp only at hj ⊢
            rw [List.getElem?_set_ne (by omega)]; exact i5 j (by omega)
          · simp only
            rw [← Nat.add_assoc, hcp, ← i6, List.take_add_one, List.getElem?_set_self (by omega), List.take_set_of_le (by omega)]; rfl
        · have heq : x1 = y1 := by simpa using hc4
          rw [if_pos heq] at hcp
          refine Need.mk (by simp only [inK]; omega) (EndI.mk fun w9 h9 => ⟨((kw, q + 1, m), w9), Cov.mk (by repeat' (first | exact trivial | refine And.intro rfl ?_)) rfl rfl rfl rfl rfl, rfl, ?_, by simp only; omega⟩)
          have hU9 : Below U.heap.size U w9 := hU6.trans (h9.go.mono hU6.size)
          exact ⟨by simp only; omega, by simp only; omega, i3, i4, fun j hj => i5 j (by simp only at hj; omega), by simp only; rw [i6, ← Nat.add_assoc, hcp], i7.below hU9, i8.trans (hU9.mono hUs), grown_below i9 hU9⟩
      · have hge : k + 1 + q + 1 = l.length := by simp only at hc3; have := of_decide_eq_false hc3; omega
        rw [hge, List.take_length] at i6
        have hlk : (Cv.cpt l).length = kw := by rw [← i6, List.length_take]; omega
        have hkw : kw < l.length := by omega
        rw [hlk]
        refine Need.mk (by refine ⟨?_, ?_, ?_⟩ <;> (try simp only) <;> omega) ?_
        refine GenN.mk fun w4 h4 => ?_
        have hO4 := i7.below h4.go
        have g4 : w.grownBy w4 (some g) := grown_below i9 h4.go
        have b4 : Below B w w4 := i8.trans (h4.go.mono (Nat.le_trans hB i8.size))
        obtain ⟨_, _, hgl4, cur, hc4, _, _, hs4, _⟩ := hO4.at0
        have hroom : kw * size Zn + (l.length - kw) * size Zn ≤ cur.size := by
          rw [hs4, ← Nat.add_mul]; exact Nat.mul_le_mul_right _ (by omega)
        obtain ⟨vs, hvl, hrun⟩ := run_clear (P := Tryz.prog) (c := cap - kw) elDZ.ht tyDZ (by decide) (o := kw * size Zn) (n := l.length - kw) hc4 hroom (by omega)
        have hvl' : vs.length = (l.length - kw) * size Zn := hvl
        refine ⟨_, _, hrun _ _ _ ?_, ⟨below_setRow (Below.refl _ _) hg _, fun b hb => by cases hb⟩, ?_⟩
        · show Value.slice (if cap = _ then _ else _) _ _ = _
          rw [if_neg (by simp only [Int.toNat_natCast]; omega)]
          simp only [Int.toNat_natCast, Option.map_some, addr_addL, Nat.zero_add, Value.slice.injEq, true_and]
          exact ⟨rfl, trivial⟩
        have hml : (m.take kw).length = kw := by rw [List.length_take]; omega
        have hO4' := hO4
        rw [← i4] at hO4'
        have hOt := hO4'.take kw (by omega)
        rw [i6] at hOt
        refine Need.mk (by refine ⟨?_, ?_, ?_⟩ <;> (try simp only) <;> omega) ?_
        refine EndI.mk fun w5 h5 => ?_
        refine ⟨rfl, (hOt.setRow hc4 _ vs (by rw [hlk]; exact Nat.le_refl _) (by rw [hvl']; exact hroom)).below h5.go, ?_⟩
        exact grown_below (grown_trans g4 (grown_setRow w4 g _)) h5.go
    · have hxy : x ≠ y := by simpa using hc2
      refine Need.mk (by simp only [inK]; omega) (EndI.mk fun w9 h9 => ⟨(k + 1, w9), Cov.mk (by repeat' (first | exact trivial | refine And.intro rfl ?_)) rfl rfl rfl rfl rfl, rfl, ⟨hlt, hV3.trans (h9.go.mono hV3.size), fun j x' y' hj hy' hx' => ?_⟩, by simp only; omega⟩)
      by_cases hjk : j = k
      · subst hjk; rw [hy] at hy'; rw [hx] at hx'; injection hy' with e1; injection hx' with e2; subst e1; subst e2; exact hxy
      · exact hall j x' y' (by omega) hy' hx'
  · have hge : k + 1 = l.length := by simp only at hc; have := of_decide_eq_false hc; omega
    have hall' : Cv.cpt l = l := Cv.cpt_all fun j x y hy hx => hall j x y (by have := (List.getElem?_eq_some_iff.1 hx).1; omega) hy hx
    rw [hall']
    refine EndI.mk fun w9 h9 => ?_
    have h9' : Below w.heap.size w w9 := hV.trans (h9.go.mono hV.size)
    exact ⟨rfl, hO.below h9', below_grown h9' _⟩
end Go.Proofs.YthajkhbeehiepaaGreat

/-
  The contract of cover.Prune, by the engine.
-/
namespace Go.Proofs.YthajkhbeehiepaaGreat
set_option linter.unusedVariables false
set_option linter.unusedSimpArgs false
set_option maxRecDepth 100000
open Go.RowKit Go.Proofs.YthajkhbeehiepaaGreat.Eng Enc

theorem compactZ_own (l : List Zn) (v : Value) (base B : Nat) (w : World) (hB : B ≤ w.heap.size) (hBb : B ≤ base) (hO : Own 39 base w v l) (hlen : l.length ≤ 1000000) :
    Calls Tryz.prog 97 #[v] w fun e w' => ∃ v', e = .returned v' ∧ Below B w w' ∧ Own 39 base w' v' (Cv.cpt l) ∧ w.grownBy w' v.ownBlock := by
  have hl1 : l.length < 2 → Cv.cpt l = l := fun h => Cv.cpt_all fun j x y hy hx => by have := (List.getElem?_eq_some_iff.1 hx).1; omega
  obtain ⟨a, c, rfl⟩ := hO.form
  by_cases h2 : l.length < 2
  · refine (compactZ_few (.slice a l.length c) l a c h2 w).mono ?_
    rintro e w' ⟨rfl, hB'⟩
    exact ⟨_, rfl, hB'.mono hB, by rw [hl1 h2]; exact hO.below hB', below_grown hB' _⟩
  · obtain ⟨_, ⟨e, h0⟩ | ⟨g, cap, cur, e, hbg, _⟩⟩ := id hO
    · omega
    injection e with e1 e2 e3
    subst e1; subst e3
    refine (compactZ_any l g c base (by omega) B w hB (by omega) hO hlen).mono ?_
    rintro e w' ⟨v, rfl, hB', rfl, hO', hg⟩
    exact ⟨_, rfl, hB', hO', hg⟩
theorem prune_any (l : List Zn) (a : Option Addr) (cap : Nat) (w : World) (hS : Sl w.heap.size w (.slice a l.length cap) l) :
    Calls Tryz.prog 35 #[.slice a l.length cap] w (Ret w fun v w' => ∃ a' c', v = .tuple #[.slice a' (Cv.prune l).1.length c', .int .i64 (Cv.prune l).2] ∧ Own 39 w.heap.size w' (.slice a' (Cv.prune l).1.length c') (Cv.prune l).1) := by
  refine fun_ret 9 w Tryz.func35 (args := [.val (.slice a l.length cap)]) rfl rfl ?_
  refine NewI.mk fun b2 hb2 => ?_
  apply CallI.use1
  · exact fun w1 h1 => checked_any [⟨a, l.length, cap⟩] [l] _ _ w1 (shown_one (hS.go h1.below h1.below.size) rfl) (Sl.own (l := [(⟨a, l.length, cap⟩ : Svl)]) h1 0 rfl rfl rfl (Nat.le_refl _) (by simp [maxLen]))
  intro w1 v1 h1 hB1
  have hv1 : Below w.heap.size w v1 := h1.below.trans (hB1.mono h1.below.size)
  unfold Cv.prune
  refine Branch.mk (fun hc => ?_) (fun hc => ?_)
  · have h0 : Cv.checked [l] ≠ 0 := by simpa using hc
    rw [if_pos h0]
    exact EndI.mk fun w3 h3 => ⟨_, _, rfl, Own.nil⟩
  have h0 : Cv.checked [l] = 0 := by simpa using hc
  rw [if_neg (by simp [h0])]
  obtain ⟨hl4, _⟩ := Cv.checked_one.1 h0
  apply CallI.mk
  intro w3 h3
  refine (callsIn_wide.1 (valuesZ_in 9 a l.length cap w3)).mono ?_
  rintro e w4 ⟨rfl, rfl⟩
  have hB4 : Below w3.heap.size w3 (w3.alloc (.cells #[.slice a l.length cap] 45)) := below_al (Below.refl _ _)
  refine ⟨h3.keep hB4, _, rfl, ?_⟩
  have hBs : (w3.alloc (.cells #[.slice a l.length cap] 45)).cell? ⟨w3.heap.size, 0, none⟩ = some (.slice a l.length cap) := by simp
  have hsz : w3.heap.size < (w3.alloc (.cells #[.slice a l.length cap] 45)).heap.size := by simp
  have hw3 : Below w.heap.size w w3 := h3.below
  have hw4 := hw3.trans (hB4.mono hw3.size)
  have hb3 := h3.lt b2 (by simp)
  have hw3s := hw3.size
  generalize w3.alloc (.cells #[.slice a l.length cap] 45) = w4 at hBs hsz hw4 hB4
  generalize hgs : w3.heap.size = Bs at hBs hsz hb3 hw3s
  refine CallI.mk fun w5 h5 => ?_
  have hg5 : Below w4.heap.size w4 w5 := at_below h5 (by simp)
  have hw5 := hw4.trans (hg5.mono hw4.size)
  refine (sortedZ_any Bs a cap l (by omega) w5 ((hg5.cell (p := ⟨Bs, 0, none⟩) hsz).trans hBs) (hS.go hw5 hw5.size)).mono ?_
  rintro e w6 ⟨v6, rfl, hB6, hO6⟩
  refine ⟨⟨hB6.mono hw3s, fun b hb => hB6.block b (by simp at hb; subst hb; exact hb3)⟩, _, rfl, ?_⟩
  have hw6 := hw5.trans (hB6.mono hw3s)
  have hg5s := hg5.size
  have hl6 : (Zo.sort l).length = l.length := Zo.sort_len l
  obtain ⟨a6, c6, rfl⟩ := hO6.form
  refine CallI.mk fun w7 h7 => ?_
  have hg7 : Below w6.heap.size w6 w7 := at_below h7 (by simp)
  refine (compactZ_own (Zo.sort l) _ w5.heap.size w5.heap.size w7 (Nat.le_trans hB6.size hg7.size) (Nat.le_refl _) (hO6.below hg7) (by omega)).mono ?_
  rintro e w8 ⟨v8, rfl, hB8, hO8, hg8⟩
  refine ⟨⟨hB8.mono hw5.size, fun b hb => hB8.block b (by simp at hb; subst hb; omega)⟩, _, rfl, ?_⟩
  have hw7 := hw6.trans (hg7.mono hw6.size)
  have hw8 := hw7.trans (hB8.mono hw5.size)
  change Own 39 w5.heap.size w8 v8 (Cv.sorted l) at hO8
  have hls : (Cv.sorted l).length ≤ l.length := Cv.sorted_len l
  obtain ⟨a8, c8, rfl⟩ := hO8.form
  generalize hso : Cv.sorted l = so at hO8 hls ⊢
  refine Need.mk (by simp only [inK]; omega) ?_
  refine LoopI.invC (α := Int × Value × List Zn × World) (fun y => [(6, .val (.int .i64 y.1)), (5, .val y.2.1)]) (fun y => y.2.2.2)
    (fun y => -1 ≤ y.1 ∧ y.1 < y.2.2.1.length ∧ y.2.2.1.length ≤ 4096 ∧ Own 39 w.heap.size y.2.2.2 y.2.1 y.2.2.1 ∧ Below w.heap.size w y.2.2.2 ∧ Cv.pgo so.length so = Cv.pgo (y.1 + 1).toNat y.2.2.1) (fun y => (y.1 + 1).toNat) ?_ ?_
  · intro w9 h9
    have hg9 : Below w8.heap.size w8 w9 := at_below h9 (by simp)
    exact ⟨((so.length : Int) - 1, .slice a8 so.length c8, so, w9), Cov.mk (by repeat' (first | exact trivial | refine And.intro rfl ?_)) rfl rfl rfl rfl rfl, rfl, by show -1 ≤ (so.length : Int) - 1; omega, by show (so.length : Int) - 1 < so.length; omega, by show so.length ≤ 4096; omega, (hO8.below hg9).lower hw5.size, hw8.trans (hg9.mono hw8.size), by show _ = Cv.pgo ((so.length : Int) - 1 + 1).toNat so; rw [show ((so.length : Int) - 1 + 1).toNat = so.length by omega]⟩
  rintro ⟨t, ov, out, U⟩ ⟨i1, i2, i3, i4, i5, i6⟩
  simp only at i1 i2 i3 i4 i5 i6
  obtain ⟨ao, co, rfl⟩ := i4.form
  refine Branch.mk (fun hc2 => ?_) (fun hc2 => ?_)
  · have ht0 : 0 ≤ t := by simp only at hc2; exact of_decide_eq_true hc2
    obtain ⟨m, rfl⟩ : ∃ m : Nat, t = m := ⟨t.toNat, by omega⟩
    have hm : m < out.length := by omega
    have hgm := List.getElem?_eq_getElem (l := out) (i := m) hm
    generalize out[m] = z at hgm
    rw [show ((m : Int) + 1).toNat = m + 1 by omega, Cv.pgo_succ hgm] at i6
    apply CallI.use
    focus (exact fun w10 h10 => cloneZ_any out ao co w10 ((i4.sl).go h10.go h10.size) (by omega))
    rintro v w10 v10 h10 hB10 hO10
    have hg10 : Below U.heap.size U w10 := at_below h10 (by simp)
    have hU10 := i5.trans (hg10.mono i5.size)
    obtain ⟨ag, cg, rfl⟩ := hO10.form
    obtain ⟨g, rfl⟩ : ∃ g, ag = some ⟨g, 0, none⟩ := by
      obtain ⟨_, ⟨e, h0⟩ | ⟨g, cap, cur, e, _⟩⟩ := id hO10
      · omega
      · injection e with e1 e2 e3; exact ⟨g, e1⟩
    have hgb := (hO10.lt g rfl).1
    refine Need.mk (by simp only [inK]; omega) ?_
    refine CallI.mk fun w11 h11 => ?_
    have hg11 : Below v10.heap.size v10 w11 := at_below h11 (by simp)
    refine (deleteZ_any out g cg w10.heap.size m (m + 1) _ rfl (by omega) (by omega) w10.heap.size w11 (Nat.le_trans hB10.size hg11.size) hgb (hO10.below hg11) (by omega)).mono ?_
    rintro e w12 ⟨v, rfl, hB12, rfl, hO12, _⟩
    refine ⟨⟨hB12.mono hU10.size, fun b hb => hB12.block b (by have := h10.lt b hb; exact this)⟩, _, rfl, ?_⟩
    have hU12 := (hU10.trans (hB10.mono hU10.size)).trans (hg11.mono (Nat.le_trans hU10.size hB10.size)) |>.trans (hB12.mono hU10.size)
    have hel : (out.take m ++ out.drop (m + 1)) = out.eraseIdx m := (List.eraseIdx_eq_take_drop_succ out m).symm
    have hell : m + (out.length - (m + 1)) = (out.eraseIdx m).length := by rw [List.length_eraseIdx, if_pos hm]; omega
    rw [hel, hell] at hO12
    rw [hell]
    have hUU : Below U.heap.size U w12 := ((hg10.trans (hB10.mono hg10.size)).trans (hg11.mono (Nat.le_trans hg10.size hB10.size))).trans (hB12.mono hg10.size)
    have j4 := i4.below hUU
    refine (j4.sl).idx hgm fun ad had => ?_
    refine (j4.sl).ld hgm had (Below.refl _ _) (by simp) ?_
    apply CallI.use1
    focus (exact fun w13 h13 => cin_any z (out.eraseIdx m) (some ⟨g, 0, none⟩) cg w13 ((hO12.below (at_below h13 (by simp))).sl))
    intro w13 v13 h13 hB13
    have hg13 : Below w12.heap.size w12 w13 := at_below h13 (by simp)
    have hU13 : Below w12.heap.size w12 v13 := hg13.trans (hB13.mono hg13.size)
    generalize hI : Cv.in_ z (out.eraseIdx m) = I at *
    obtain ⟨is, e⟩ := I
    simp only at i6
    refine Branch.mk (fun hc3 => ?_) (fun hc3 => ?_)
    · have he : e ≠ 0 := by simpa using hc3
      rw [if_pos he] at i6
      rw [i6]
      exact EndI.mk fun w9 h9 => ⟨_, _, rfl, Own.nil⟩
    have he : e = 0 := by simpa using hc3
    subst he
    rw [if_neg (by simp)] at i6
    refine Branch.mk (fun hc4 => ?_) (fun hc4 => ?_)
    · have his : is = true := by simpa using hc4
      subst his
      rw [if_pos rfl] at i6
      refine Need.mk (by simp only [inK]; omega) (EndI.mk fun w9 h9 => ⟨((m : Int) - 1, .slice (some ⟨g, 0, none⟩) (out.eraseIdx m).length cg, out.eraseIdx m, w9), Cov.mk (by repeat' (first | exact trivial | refine And.intro rfl ?_)) rfl rfl rfl rfl rfl, rfl, ?_, ?_⟩)
      · have hg9 : Below v13.heap.size v13 w9 := at_below h9 (by simp)
        have hle : (out.eraseIdx m).length = out.length - 1 := by rw [List.length_eraseIdx, if_pos hm]
        refine ⟨by simp only; omega, by simp only; omega, by simp only; omega, ?_, ?_, ?_⟩
        · exact ((hO12.below hU13).below hg9).lower hU10.size
        · exact (hU12.trans (hU13.mono hU12.size)).trans (hg9.mono (Nat.le_trans hU12.size hU13.size))
        · simp only; rw [i6, show ((m : Int) - 1 + 1).toNat = m by omega]
      · simp only; omega
    · have his : is = false := by simpa using hc4
      subst his
      rw [if_neg (by simp)] at i6
      refine Need.mk (by simp only [inK]; omega) (EndI.mk fun w9 h9 => ⟨((m : Int) - 1, .slice ao out.length co, out, w9), Cov.mk (by repeat' (first | exact trivial | refine And.intro rfl ?_)) rfl rfl rfl rfl rfl, rfl, ?_, ?_⟩)
      · have hg9 : Below v13.heap.size v13 w9 := at_below h9 (by simp)
        refine ⟨by simp only; omega, by simp only; omega, by simp only; omega, ?_, ?_, ?_⟩
        · exact (j4.below hU13).below hg9
        · exact (hU12.trans (hU13.mono hU12.size)).trans (hg9.mono (Nat.le_trans hU12.size hU13.size))
        · simp only; rw [i6, show ((m : Int) - 1 + 1).toNat = m by omega]
      · simp only; omega
  · have htm : t = -1 := by simp only at hc2; have := of_decide_eq_false hc2; omega
    subst htm
    have hp : Cv.pgo so.length so = (out, 0) := i6
    rw [hp]
    exact EndI.mk fun w9 h9 => ⟨_, _, rfl, i4.below (at_below h9 (by simp))⟩
end Go.Proofs.YthajkhbeehiepaaGreat

/-
  The plain facts of CoverNames.
-/
namespace Go.Proofs.YthajkhbeehiepaaGreat
set_option linter.unusedVariables false
set_option linter.unusedSimpArgs false
open Go.RowKit Go.Proofs.YthajkhbeehiepaaGreat.Eng Enc
namespace Cv
open Mi Zo
theorem nm_lt1 : Lt (of 0 1) (of 1 4) := (cmp_lt _ _).1 (by decide +kernel)
theorem nm_lt2 : Lt (of 1 4) (of 0 4) := (cmp_lt _ _).1 (by decide +kernel)
theorem nm_cmp : Zo.cmp (of 0 1) (of 1 4) = -1 := by decide +kernel
theorem nm_sort1 : sorted [of 0 4, of 0 1, of 1 4] = [of 0 1, of 1 4, of 0 4] := by
  refine strict_eq (sorted_strict _) ?_ fun x => ?_
  · simp only [List.pairwise_cons, List.mem_cons, List.not_mem_nil, or_false, forall_eq_or_imp, forall_eq, List.Pairwise.nil, and_true]
    exact ⟨⟨nm_lt1, nm_lt1.trans nm_lt2⟩, nm_lt2, fun _ h => h.elim⟩
  · rw [sorted_mem]
    simp only [List.mem_cons, List.not_mem_nil, or_false]
    constructor
    · rintro (h | h | h) <;> simp [h]
    · rintro (h | h | h) <;> simp [h]
theorem nm_sort2 : sorted [of 1 4, of 0 1, of 1 4] = [of 0 1, of 1 4] := by
  refine strict_eq (sorted_strict _) ?_ fun x => ?_
  · simp only [List.pairwise_cons, List.mem_cons, List.not_mem_nil, or_false, forall_eq, List.Pairwise.nil, and_true]
    exact ⟨nm_lt1, fun _ h => h.elim⟩
  · rw [sorted_mem]
    simp only [List.mem_cons, List.not_mem_nil, or_false]
    constructor
    · rintro (h | h | h) <;> simp [h]
    · rintro (h | h) <;> simp [h]
theorem nm_prune1 : prune [of 0 4, of 0 1, of 1 4] = ([of 0 1, of 1 4], 0) := by
  unfold prune
  rw [nm_sort1]
  decide +kernel
theorem nm_prune2 : prune [of 1 4, of 0 1, of 1 4] = ([of 0 1, of 1 4], 0) := by
  unfold prune
  rw [nm_sort2]
  decide +kernel
theorem nm_wit1 : witness (of 0 4) [of 0 1] = (⟨⟨5, 2⟩, ⟨4, 1⟩⟩, 0) := by
  have h1 : checked [[of 0 1], [of 0 4]] = 0 := by decide +kernel
  have h2 : (left (of 0 4) [of 0 1]).2 = 0 := by decide +kernel
  have h3 : (left (of 0 4) [of 0 1]).1 = [(left (of 0 4) [of 0 1]).1.headD (of 0 4)] := by decide +kernel
  unfold witness
  rw [if_pos h1, if_pos h2, h3]
  show Zo.pick ((left (of 0 4) [of 0 1]).1.headD (of 0 4)) = _
  decide +kernel
theorem nm_wit2 : witness (of 0 4) [of 0 4] = (⟨⟨0, 0⟩, ⟨0, 0⟩⟩, 6) := by decide +kernel
end Cv
end Go.Proofs.YthajkhbeehiepaaGreat

/-
  == at two points.
-/
namespace Go.Proofs.YthajkhbeehiepaaGreat
set_option linter.unusedVariables false
set_option linter.unusedSimpArgs false
set_option maxRecDepth 100000
open Go.RowKit Go.Proofs.YthajkhbeehiepaaGreat.Eng Enc

theorem run_eql_pt (p q : Pt) (w : World) : (binOp .eql 25 (.agg #[.int .i64 p.t.num, .int .i64 p.t.den, .int .i64 p.u.num, .int .i64 p.u.den]) (.agg #[.int .i64 q.t.num, .int .i64 q.t.den, .int .i64 q.u.num, .int .i64 q.u.den])).run Tryz.prog w = .ok (.bool (decide (p = q))) w := by
  have u3 := Tryz.underlying3
  have a3 := Tryz.isAgg3
  have z3 := Tryz.sizeOf3
  have hS : Tryz.prog.underlying 25 = some (.struct (Tryz.prog.fieldsOf 25)) := by kernel_rfl
  have hp : Tryz.prog.stoodInHeld 25 = false := by kernel_rfl
  rw [run_eql_struct, show (10000 : Nat) = 9999 + 1 from rfl, run_equalIn_agg w 9999 25 _ _ hS hp]
  simp only [Program.fieldsOf, Tryz.underlying25]
  go_simp
  have hpq : p = q ↔ (p.t.num = q.t.num ∧ p.t.den = q.t.den ∧ p.u.num = q.u.num ∧ p.u.den = q.u.den) := by
    obtain ⟨⟨a, b⟩, c, d⟩ := p
    obtain ⟨⟨a', b'⟩, c', d'⟩ := q
    simp only [Pt.mk.injEq, Rt.mk.injEq, and_assoc]
  simp only [hpq]
  repeat' split
  all_goals simp_all

theorem run_eql_ptG (x y : Operand) (p q : Pt) (w : World) : (do eqGuard .eql 25 x y (.agg #[.int .i64 p.t.num, .int .i64 p.t.den, .int .i64 p.u.num, .int .i64 p.u.den]) (.agg #[.int .i64 q.t.num, .int .i64 q.t.den, .int .i64 q.u.num, .int .i64 q.u.den]); binOp .eql 25 (.agg #[.int .i64 p.t.num, .int .i64 p.t.den, .int .i64 p.u.num, .int .i64 p.u.den]) (.agg #[.int .i64 q.t.num, .int .i64 q.t.den, .int .i64 q.u.num, .int .i64 q.u.den]) : Sem Value).run Tryz.prog w = .ok (.bool (decide (p = q))) w := by
  have hg : (eqGuard .eql 25 x y (.agg #[.int .i64 p.t.num, .int .i64 p.t.den, .int .i64 p.u.num, .int .i64 p.u.den]) (.agg #[.int .i64 q.t.num, .int .i64 q.t.den, .int .i64 q.u.num, .int .i64 q.u.den])).run Tryz.prog w = .ok () w := run_eqGuard_agg _ _ _ _ _ _ _ (by kernel_rfl)
  rw [Sem.run_bind, hg]
  exact run_eql_pt p q w

end Go.Proofs.YthajkhbeehiepaaGreat

/-
  The walk of rallentandolaw12.CoverNames, by the engine.
-/
namespace Go.Proofs.YthajkhbeehiepaaGreat
set_option linter.unusedVariables false
set_option linter.unusedSimpArgs false
set_option maxRecDepth 100000
open Go.RowKit Go.Proofs.YthajkhbeehiepaaGreat.Eng Enc

theorem zcmpN_any (x y : Zn) (w : World) : Calls Tryz.prog 37 #[.agg #[.int .i64 x.a, .int .i64 x.b, .int .i64 x.c, .int .i64 x.d, .int .i64 x.e, .int .i64 x.f], .agg #[.int .i64 y.a, .int .i64 y.b, .int .i64 y.c, .int .i64 y.d, .int .i64 y.e, .int .i64 y.f]] w fun e w' => e = .returned (.int .i64 (Zo.cmp x y)) ∧ Below w.heap.size w w' :=
  (zcmp_at x y w).mono fun e w' ⟨he, q, os, hw⟩ => ⟨he, by rw [hw]; exact ⟨rfl, rfl, rfl, by simp, fun k hk => by rw [Go.Sort.heap_grow_old _ _ (by simpa using hk)]; rfl⟩⟩
theorem eql_selfZ (p q : Operand) (x : Zn) (w : World) : (do eqGuard .eql 39 p q (.agg #[.int .i64 x.a, .int .i64 x.b, .int .i64 x.c, .int .i64 x.d, .int .i64 x.e, .int .i64 x.f]) (.agg #[.int .i64 x.a, .int .i64 x.b, .int .i64 x.c, .int .i64 x.d, .int .i64 x.e, .int .i64 x.f]); binOp .eql 39 (.agg #[.int .i64 x.a, .int .i64 x.b, .int .i64 x.c, .int .i64 x.d, .int .i64 x.e, .int .i64 x.f]) (.agg #[.int .i64 x.a, .int .i64 x.b, .int .i64 x.c, .int .i64 x.d, .int .i64 x.e, .int .i64 x.f]) : Sem Value).run Tryz.prog w = .ok (.bool true) w := by
  rw [run_eql_znG]; simp
theorem eql_selfP (x y : Operand) (p : Pt) (w : World) : (do eqGuard .eql 25 x y (.agg #[.int .i64 p.t.num, .int .i64 p.t.den, .int .i64 p.u.num, .int .i64 p.u.den]) (.agg #[.int .i64 p.t.num, .int .i64 p.t.den, .int .i64 p.u.num, .int .i64 p.u.den]); binOp .eql 25 (.agg #[.int .i64 p.t.num, .int .i64 p.t.den, .int .i64 p.u.num, .int .i64 p.u.den]) (.agg #[.int .i64 p.t.num, .int .i64 p.t.den, .int .i64 p.u.num, .int .i64 p.u.den]) : Sem Value).run Tryz.prog w = .ok (.bool true) w := by
  rw [run_eql_ptG]; simp
set_option maxHeartbeats 4000000 in
theorem coverNames_walk (w : World) :
    Calls Tryz.prog 10 #[] w fun e w' => e = .returned (.bool true) ∧ Below w.heap.size w w' := by
  refine fun_eq 0 w Tryz.func10 (args := []) rfl rfl ?_
  refine CallI.to1 (fun w => of12_any 0 4 (by simp only [inK]; omega) (by simp only [inK]; omega) w) fun w1 => ?_
  refine CallI.to1 (fun w => of12_any 0 1 (by simp only [inK]; omega) (by simp only [inK]; omega) w) fun w2 => ?_
  refine CallI.to1 (fun w => of12_any 1 4 (by simp only [inK]; omega) (by simp only [inK]; omega) w) fun w3 => ?_
  refine NewI.mk fun b1 hb1 => ?_
  refine NewI.mk fun b2 hb2 => ?_
  refine NewI.mk fun b3 hb3 => ?_
  refine NewI.mk fun b4 hb4 => ?_
  have p1 := fun (w : World) a cap h => prune_any [Cv.of 0 4, Cv.of 0 1, Cv.of 1 4] a cap w h
  rw [Cv.nm_prune1] at p1
  have p2 := fun (w : World) a cap h => prune_any [Cv.of 1 4, Cv.of 0 1, Cv.of 1 4] a cap w h
  rw [Cv.nm_prune2] at p2
  have p3 := fun (w : World) a cap h => cwitness_any (Cv.of 0 4) [Cv.of 0 1] a cap w h
  rw [Cv.nm_wit1] at p3
  have p4 := fun (w : World) a cap h => cwitness_any (Cv.of 0 4) [Cv.of 0 4] a cap w h
  rw [Cv.nm_wit2] at p4
  apply CallI.use
  focus (exact fun w4 h4 => p1 w4 _ _ (Sl.own (l := [Cv.of 0 4, Cv.of 0 1, Cv.of 1 4]) h4 3 rfl rfl rfl (Nat.le_refl _) (by simp [maxLen])))
  rintro v w4 v4 h4 hB4 ⟨a4, c4, rfl, hO4⟩
  refine NewI.mk fun b5 hb5 => ?_
  apply CallI.use
  focus (exact fun w5 h5 => p2 w5 _ _ (Sl.own (l := [Cv.of 1 4, Cv.of 0 1, Cv.of 1 4]) h5 4 rfl rfl rfl (Nat.le_refl _) (by simp [maxLen])))
  rintro v w5 v5 h5 hB5 ⟨a5, c5, rfl, hO5⟩
  have hO4 := (hO4.below (at_below h5 (by simp))).below hB5
  refine NewI.mk fun b6 hb6 => ?_
  apply CallI.use1
  focus (exact fun w6 h6 => p3 w6 _ _ (Sl.own (l := [Cv.of 0 1]) h6 5 rfl rfl rfl (Nat.le_refl _) (by simp [maxLen])))
  intro w6 v6 h6 hB6
  have hO4 := (hO4.below (at_below h6 (by simp))).below hB6
  have hO5 := (hO5.below (at_below h6 (by simp))).below hB6
  refine NewI.mk fun b7 hb7 => ?_
  refine NewI.mk fun b8 hb8 => ?_
  apply CallI.use1
  focus (exact fun w7 h7 => p4 w7 _ _ (Sl.own (l := [Cv.of 0 4]) h7 7 rfl rfl rfl (Nat.le_refl _) (by simp [maxLen])))
  intro w7 v7 h7 hB7
  have hO4 := (hO4.below (at_below h7 (by intro b hb; simp at hb; subst hb; exact hb7))).below hB7
  have hO5 := (hO5.below (at_below h7 (by intro b hb; simp at hb; subst hb; exact hb7))).below hB7
  refine NewI.mk fun b9 hb9 => ?_
  refine DrawI.go (.tk 0 (.tk 1 (.tk 2 (.tk 3 (.tk 4 (.tk 5 (.tk 6 (.tk 7 (.tk 8 (.tk 9 (.tk 10 (.tk 11 (.ev 12 (.tk 13 (.tk 14 (.tk 15 (.tk 16 (.tk 17 (.tk 18 (.ev 19 (.tk 20 (.tk 21 (.tk 22 (.tk 23 (.tk 24 (.tk 25 (.tk 26 (.tk 27 (.tk 28 (.tk 29 (.tk 30 (.tk 31 (.tk 32 (.tk 33 (.tk 34 (.tk 35 (.tk 36 (.ev 37 (.tk 38 (.tk 39 (.tk 40 .done))))))))))))))))))))))))))))))))))))))))) (by kernel_rfl) fun w8 h8 => ?_
  have g8 := at_below h8 (by intro b hb; simp at hb; subst hb; exact hb9)
  have hO4 := hO4.below g8
  have hO5 := hO5.below g8
  refine Branch.yes rfl ?_
  refine Branch.yes rfl ?_
  refine (hO4.sl).idx (k := 0) (x := Cv.of 0 1) rfl fun ad had => ?_
  refine (hO4.sl).ld (k := 0) (x := Cv.of 0 1) rfl had (Below.refl _ _) (by simp) ?_
  refine GenV.to (fun w => eql_selfZ _ _ (Cv.of 0 1) w) fun w9 h9 => ?_
  refine Branch.yes rfl ?_
  refine (hO4.sl).idx (k := 1) (x := Cv.of 1 4) rfl fun ad2 had2 => ?_
  refine (hO4.sl).ld (k := 1) (x := Cv.of 1 4) rfl had2 (Below.refl _ _) (by simp) ?_
  refine GenV.to (fun w => eql_selfZ _ _ (Cv.of 1 4) w) fun w10 h10 => ?_
  refine Branch.yes rfl ?_
  refine Branch.yes rfl ?_
  refine Branch.yes rfl ?_
  refine (hO5.sl).idx (k := 0) (x := Cv.of 0 1) rfl fun ad3 had3 => ?_
  refine (hO5.sl).ld (k := 0) (x := Cv.of 0 1) rfl had3 (Below.refl _ _) (by simp) ?_
  refine (hO5.sl).idx (k := 1) (x := Cv.of 1 4) rfl fun ad4 had4 => ?_
  refine (hO5.sl).ld (k := 1) (x := Cv.of 1 4) rfl had4 (Below.refl _ _) (by simp) ?_
  have cm := fun w => zcmpN_any (Cv.of 0 1) (Cv.of 1 4) w
  rw [Cv.nm_cmp] at cm
  refine CallI.to1 (fun w => cm w) fun w11 => ?_
  refine CallI.to1 alive12_any fun w12 => ?_
  repeat' (first | (refine Branch.yes rfl ?_) | (refine GenV.to (fun w => eql_selfP _ _ (⟨⟨5, 2⟩, ⟨4, 1⟩⟩ : Pt) w) fun w13 h13 => ?_) | (refine EndI.mk fun w14 h14 => ?_))
  all_goals first | rfl | skip
end Go.Proofs.YthajkhbeehiepaaGreat

