/-
  Merged texts of this seat (each with its own head below).
-/
import Derived.Test.YtgjeeghhhfpkoaaGreatB3
import Derived.Test.YtgjeeghhhfpkoaaGreatB4
import Derived.Test.YtgjeeghhhfpkoaaGreatB6
/-
  How arguments are opened: spans.
-/
namespace Go.Proofs.YtgjeeghhhfpkoaaGreat
set_option linter.unusedVariables false
open Go.ChangeShapes Go.WideShapes Go.ChangeAt Go.RowKit Go.Deep Go.Proofs.YtgjeeghhhfpkoaaGreat.Eng

section
variable {H : Type} {en : TypeId × Value → H} {P : Program}
theorem trod_struct5 {w : World} {base : Nat} {spare : Nat → Bool} {held : Bool} {t : TypeId} {f0 f1 f2 f3 f4 : Field} {fuel : Nat} {cs : List Value} {x : DataW H × List MemPlace} (ht : P.underlying t = some (.struct #[f0, f1, f2, f3, f4])) (h : DataW.trod en P w base spare held fuel t cs = some x) :
    ∃ y0 y1 y2 y3 y4 n, cs.length = P.cellsOf t ∧ DataW.trod en P w base spare held n f0.type ((cs.drop f0.offset).take (P.cellsOf f0.type)) = some y0 ∧ DataW.trod en P w base spare held n f1.type ((cs.drop f1.offset).take (P.cellsOf f1.type)) = some y1 ∧
      DataW.trod en P w base spare held n f2.type ((cs.drop f2.offset).take (P.cellsOf f2.type)) = some y2 ∧ DataW.trod en P w base spare held n f3.type ((cs.drop f3.offset).take (P.cellsOf f3.type)) = some y3 ∧ DataW.trod en P w base spare held n f4.type ((cs.drop f4.offset).take (P.cellsOf f4.type)) = some y4 := by
  obtain ⟨xs, n, _, rfl, hl, hlen, hf⟩ := DataW.trod_struct ht h
  match xs, hlen with
  | [y0, y1, y2, y3, y4], _ => exact ⟨y0, y1, y2, y3, y4, n, hl, by simpa using hf 0 f0 rfl, by simpa using hf 1 f1 rfl, by simpa using hf 2 f2 rfl, by simpa using hf 3 f3 rfl, by simpa using hf 4 f4 rfl⟩
theorem opens_sp {e : TypeId} {f0 f1 f2 f3 f4 : Field} (he : P.underlying e = some (.struct #[f0, f1, f2, f3, f4])) (hc : P.cellsOf e = 5) (o0 : f0.offset = 0) (o1 : f1.offset = 1) (o2 : f2.offset = 2) (o3 : f3.offset = 3) (o4 : f4.offset = 4)
    (c0 : P.cellsOf f0.type = 1) (c1 : P.cellsOf f1.type = 1) (c2 : P.cellsOf f2.type = 1) (c3 : P.cellsOf f3.type = 1) (c4 : P.cellsOf f4.type = 1)
    (t0 : P.underlying f0.type = some (.int .i64)) (t1 : P.underlying f1.type = some .bool) (t2 : P.underlying f2.type = some (.int .i64)) (t3 : P.underlying f3.type = some .bool) (t4 : P.underlying f4.type = some .bool) : Opens en P e Sp Sp.ins := by
  refine ⟨hc, fun W b sp hl fuel cs x h => ?_⟩
  obtain ⟨y0, y1, y2, y3, y4, n, hlen, k0, k1, k2, k3, k4⟩ := trod_struct5 he h
  rw [hc] at hlen
  match cs, hlen with
  | [p0, p1, p2, p3, p4], _ =>
    rw [o0, c0] at k0
    rw [o1, c1] at k1
    rw [o2, c2] at k2
    rw [o3, c3] at k3
    rw [o4, c4] at k4
    obtain ⟨m0, e0, _, w0⟩ := DataW.trod_int t0 k0
    obtain ⟨m1, e1, _⟩ := DataW.trod_bool t1 k1
    obtain ⟨m2, e2, _, w2⟩ := DataW.trod_int t2 k2
    obtain ⟨m3, e3, _⟩ := DataW.trod_bool t3 k3
    obtain ⟨m4, e4, _⟩ := DataW.trod_bool t4 k4
    simp at e0 e1 e2 e3 e4
    subst e0; subst e1; subst e2; subst e3; subst e4
    exact ⟨⟨m0, m1, m2, m3, m4⟩, rfl, inK_wf w0, inK_wf w2⟩
end
end Go.Proofs.YtgjeeghhhfpkoaaGreat

/-
  Plain laws of windows and spans: the points of what is in one. No program is in sight.
-/
namespace Go.Proofs.YtgjeeghhhfpkoaaGreat
set_option linter.unusedVariables false
set_option linter.unusedSimpArgs false
open Go.RowKit Go.Proofs.YtgjeeghhhfpkoaaGreat.Eng Enc
namespace Wn
open Mi Dbm
theorem min_lt {x b : Int} (hx : x = NO ∨ x < NO) (hb : b = NO ∨ b < NO) : min x b = NO ∨ min x b < NO := by omega
theorem less_get (z : Zn) {i j : Nat} (hi : i < 6) (hj : j < 6) (x : Int) : Zo.get (less z i x) j = if j = i then min (Zo.get z i) x else Zo.get z j := get_set z hi hj _
/-- a zone with two bounds more has just the points that keep them. -/
theorem less2_fz {z : Zn} (hz : Zo.chk z = 0) {i j : Nat} (hi : i < 6) (hj : j < 6) (hij : i ≠ j) {x y : Int} (hx : x = NO ∨ x < NO) (hy : y = NO ∨ y < NO) (t : Nat → Rat) :
    Fz (less (less z i x) j y) t ↔ Fz z t ∧ satO (dif i t) (ob x) ∧ satO (dif j t) (ob y) := by
  have hc := (Zo.clo hz).1
  rw [fz_iff, fz_iff]
  have g : ∀ k, k < 6 → Zo.get (less (less z i x) j y) k = if k = j then min (Zo.get z j) y else if k = i then min (Zo.get z i) x else Zo.get z k := fun k hk => by
    rw [less_get _ hj hk]
    by_cases h : k = j
    · rw [if_pos h, if_pos h, less_get _ hi hj, if_neg (fun e => hij e.symm)]
    · rw [if_neg h, if_neg h, less_get _ hi hk]
  have hm := fun (k : Nat) (hk : k < 6) (b : Int) hb => satO_min (dif k t) (Zo.get z k) b (lim_lt (get_lim hc hk) (by omega)) hb
  constructor
  · intro h
    have h1 := h i hi
    have h2 := h j hj
    rw [g i hi, if_neg hij, if_pos rfl] at h1
    rw [g j hj, if_pos rfl] at h2
    refine ⟨fun k hk => ?_, ((hm i hi x hx).1 h1).2, ((hm j hj y hy).1 h2).2⟩
    have h3 := h k hk
    rw [g k hk] at h3
    by_cases e1 : k = j
    · subst e1; exact ((hm k hk y hy).1 h2).1
    · rw [if_neg e1] at h3
      by_cases e2 : k = i
      · subst e2; exact ((hm k hk x hx).1 h1).1
      · rw [if_neg e2] at h3; exact h3
  · rintro ⟨h, h1, h2⟩ k hk
    rw [g k hk]
    by_cases e1 : k = j
    · subst e1; rw [if_pos rfl]; exact (hm k hk y hy).2 ⟨h k hk, h2⟩
    · rw [if_neg e1]
      by_cases e2 : k = i
      · subst e2; rw [if_pos rfl]; exact (hm k hk x hx).2 ⟨h k hk, h1⟩
      · rw [if_neg e2]; exact h k hk
theorem with2_ok {z : Zn} (hz : Zo.chk z = 0) {i j : Nat} (hi : i < 6) (hj : j < 6) (hij : i ≠ j) {x y : Int} (hx : x = NO ∨ x < NO) (hy : y = NO ∨ y < NO) :
    ((with2 z i x j y).2 = 0 → Zo.chk (with2 z i x j y).1 = 0 ∧ ∀ t, Fz (with2 z i x j y).1 t ↔ Fz z t ∧ satO (dif i t) (ob x) ∧ satO (dif j t) (ob y)) ∧
    ((with2 z i x j y).2 = 6 → ∀ t, ¬ (Fz z t ∧ satO (dif i t) (ob x) ∧ satO (dif j t) (ob y))) := by
  have hp := less2_fz hz hi hj hij hx hy
  unfold with2
  generalize less (less z i x) j y = q at hp ⊢
  unfold Zo.mat
  by_cases hq : Dbm.chk 3 (Zo.matL q) = 0
  · rw [if_pos hq]
    show ((if (0 : Int) = 0 then Zo.of 3 (Zo.matL q) else _).2 = 0 → _) ∧ ((if (0 : Int) = 0 then Zo.of 3 (Zo.matL q) else _).2 = 6 → _)
    rw [if_pos rfl]
    constructor
    · intro h
      obtain ⟨h1, h2⟩ := of_ok h
      exact ⟨h1, fun t => (h2 t).trans (hp t)⟩
    · intro h t ht
      exact of_none h t ((hp t).2 ht)
  · rw [if_neg hq]
    show ((if (8 : Int) = 0 then Zo.of 0 [] else (Zo.nought, 8)).2 = 0 → _) ∧ ((if (8 : Int) = 0 then Zo.of 0 [] else (Zo.nought, 8)).2 = 6 → _)
    rw [if_neg (by decide)]
    exact ⟨fun h => absurd h (by decide), fun h => absurd h (by decide)⟩
/-- u in a window. -/
def InW (lo hi : Int) (t : Nat → Rat) : Prop := (lo : Rat) < t 2 - t 0 ∧ t 2 - t 0 ≤ (hi : Rat)
theorem fits_iff {n : Int} : fits n = true ↔ -288230376151711744 ≤ n ∧ n ≤ 288230376151711744 := by simp [fits]
theorem window_ok {z : Zn} {lo hi : Int} (hz : Zo.chk z = 0) :
    ((window z lo hi).2 = 0 → (fits lo = true ∧ fits hi = true ∧ lo < hi) ∧ Zo.chk (window z lo hi).1 = 0 ∧ ∀ t, Fz (window z lo hi).1 t ↔ Fz z t ∧ InW lo hi t) ∧
    ((window z lo hi).2 = 6 → (fits lo = true ∧ fits hi = true ∧ lo < hi) ∧ ∀ t, ¬ (Fz z t ∧ InW lo hi t)) := by
  unfold window
  rw [if_pos hz]
  by_cases hf : fits lo = true ∧ fits hi = true ∧ lo < hi
  · rw [if_pos hf]
    obtain ⟨f1, f2, f3⟩ := hf
    have k1 := fits_iff.1 f1
    have k2 := fits_iff.1 f2
    have e1 : (Bd.made hi false).1 = hi * 2 + 1 := by
      unfold Bd.made Num.okB
      rw [if_pos (by simp; omega)]; rfl
    have e2 : (Bd.made (-lo) true).1 = -lo * 2 := by
      unfold Bd.made Num.okB
      rw [if_pos (by simp; omega)]; rfl
    have hx : hi * 2 + 1 = NO ∨ hi * 2 + 1 < NO := by unfold NO; omega
    have hy : -lo * 2 = NO ∨ -lo * 2 < NO := by unfold NO; omega
    obtain ⟨w1, w2⟩ := with2_ok hz (i := 2) (j := 3) (by decide) (by decide) (by decide) hx hy
    have hin : ∀ t, satO (dif 2 t) (ob (hi * 2 + 1)) ∧ satO (dif 3 t) (ob (-lo * 2)) ↔ InW lo hi t := fun t => by
      have o1 : ob (hi * 2 + 1) = some (hi * 2 + 1) := by unfold ob; rw [if_neg (by unfold NO; omega)]
      have o2 : ob (-lo * 2) = some (-lo * 2) := by unfold ob; rw [if_neg (by unfold NO; omega)]
      rw [o1, o2]
      unfold satO Bd.st
      simp only
      rw [if_neg (by simp <;> omega), if_pos (by simp), show (hi * 2 + 1) / 2 = hi by omega, show -lo * 2 / 2 = -lo by omega]
      show t 2 - t 0 ≤ _ ∧ t 0 - t 2 < _ ↔ _
      unfold InW
      rw [Rat.intCast_neg]
      constructor
      · rintro ⟨h1, h2⟩; exact ⟨by grind, h1⟩
      · rintro ⟨h1, h2⟩; exact ⟨h2, by grind⟩
    rw [e1, e2]
    refine ⟨fun h => ⟨⟨f1, f2, f3⟩, (w1 h).1, fun t => ((w1 h).2 t).trans (by rw [hin])⟩, fun h => ⟨⟨f1, f2, f3⟩, fun t ht => w2 h t (by rw [hin]; exact ht)⟩⟩
  · rw [if_neg hf]
    exact ⟨fun h => absurd h (by decide), fun h => absurd h (by decide)⟩
/-- what a span says of times. -/
def InS (s : Sp) (t : Nat → Rat) : Prop := (Zo.btw s).2.2 = 0 ∧ satO (dif 4 t) (ob ((Zo.btw s).2.1[2]?.getD 0)) ∧ satO (dif 5 t) (ob ((Zo.btw s).2.1[1]?.getD 0))
theorem btw_lt (s : Sp) (k : Nat) (hk : k < 4) : (Zo.btw s).2.1[k]?.getD 0 = NO ∨ (Zo.btw s).2.1[k]?.getD 0 < NO := by
  unfold Zo.btw Tg.between
  have z0 : ∀ q : Nat, ([] : List Int)[q]?.getD 0 = NO ∨ ([] : List Int)[q]?.getD 0 < NO := fun q => .inr (by simp [NO])
  split
  · split
    · split
      · unfold Dbm.close
        split
        · rename_i h0
          split
          · rename_i L hL
            have hc : Clo 2 L := close_clo (N := 2) h0 hL
            have := hc.lim (k / 2) (k % 2) (by omega) (by omega)
            rw [Nat.div_add_mod' k 2] at this
            exact lim_lt this (by omega)
          · exact z0 k
        · exact z0 k
      · exact z0 k
    · exact z0 k
  · exact z0 k
theorem within_ok {z : Zn} {s : Sp} (hz : Zo.chk z = 0) :
    ((within z s).2 = 0 → Zo.chk (within z s).1 = 0 ∧ ∀ t, Fz (within z s).1 t ↔ Fz z t ∧ InS s t) ∧ ((within z s).2 = 6 → ∀ t, ¬ (Fz z t ∧ InS s t)) := by
  unfold within InS
  rw [if_pos hz]
  have b2 := btw_lt s 2 (by decide)
  have b1 := btw_lt s 1 (by decide)
  generalize Zo.btw s = X at *
  obtain ⟨n, D, e⟩ := X
  simp only at b1 b2 ⊢
  by_cases he : e = 0
  · rw [if_pos he]
    obtain ⟨w1, w2⟩ := with2_ok hz (i := 4) (j := 5) (by decide) (by decide) (by decide) b2 b1
    exact ⟨fun h => ⟨(w1 h).1, fun t => ((w1 h).2 t).trans ⟨fun k => ⟨k.1, he, k.2⟩, fun k => ⟨k.1, k.2.2⟩⟩⟩, fun h t ht => w2 h t ⟨ht.1, ht.2.2⟩⟩
  · rw [if_neg he]
    exact ⟨fun h => absurd h he, fun h t ht => he ht.2.1⟩
end Wn
namespace Zs
open Mi Dbm
theorem checked1 {l : List Zn} (h : Cv.checked [l] = 0) : ∀ z, z ∈ l → Zo.chk z = 0 := (checked_ok.1 h l (by simp)).2
theorem each_ok {f : Zn → Zn × Int} {l : List Zn} (h : (each f l).2 = 0) : Cv.checked [l] = 0 ∧ ((f free).2 = 0 ∨ (f free).2 = 6) ∧ Fine (each f l).1 ∧ (∀ x, x ∈ l → (f x).2 = 0 ∨ (f x).2 = 6) ∧ ∀ t, Pts (each f l).1 t ↔ ∃ x, x ∈ l ∧ (f x).2 = 0 ∧ Fz (f x).1 t := by
  unfold each at h ⊢
  by_cases h0 : Cv.checked [l] = 0
  case neg => rw [if_neg h0] at h; exact absurd h h0
  rw [if_pos h0] at h ⊢
  by_cases h1 : (f free).2 ≠ 0 ∧ (f free).2 ≠ 6
  · rw [if_pos h1] at h; exact absurd h h1.1
  rw [if_neg h1] at h ⊢
  obtain ⟨⟨m, hm1, hm2⟩, k2, k3⟩ := come_ok f l [] h
  refine ⟨h0, by omega, by rw [hm2]; exact fine_prune hm1, k2, fun t => (k3 t).trans ⟨fun k => k.elim (fun ⟨z, hz, _⟩ => (nomatch hz)) id, .inr⟩⟩
theorem window_pts {l : List Zn} {lo hi : Int} (h : (window l lo hi).2 = 0) : lo < hi ∧ Fine (window l lo hi).1 ∧ ∀ t, Pts (window l lo hi).1 t ↔ Pts l t ∧ Wn.InW lo hi t := by
  obtain ⟨h0, h1, h2, h3, h4⟩ := each_ok h
  have hc := checked1 h0
  obtain ⟨f1, f2⟩ := Wn.window_ok (lo := lo) (hi := hi) free_chk
  have hlt : lo < hi := by
    rcases h1 with h1 | h1
    · exact (f1 h1).1.2.2
    · exact (f2 h1).1.2.2
  refine ⟨hlt, h2, fun t => (h4 t).trans ?_⟩
  constructor
  · rintro ⟨x, hx, he, hf⟩
    have := (((Wn.window_ok (hc x hx)).1 he).2.2 t).1 hf
    exact ⟨⟨x, hx, this.1⟩, this.2⟩
  · rintro ⟨⟨x, hx, hf⟩, hw⟩
    rcases h3 x hx with he | he
    · exact ⟨x, hx, he, (((Wn.window_ok (hc x hx)).1 he).2.2 t).2 ⟨hf, hw⟩⟩
    · exact absurd ⟨hf, hw⟩ (((Wn.window_ok (hc x hx)).2 he).2 t)
theorem within_pts {l : List Zn} {s : Sp} (h : (within l s).2 = 0) : Fine (within l s).1 ∧ ∀ t, Pts (within l s).1 t ↔ Pts l t ∧ Wn.InS s t := by
  obtain ⟨h0, h1, h2, h3, h4⟩ := each_ok h
  have hc := checked1 h0
  refine ⟨h2, fun t => (h4 t).trans ?_⟩
  constructor
  · rintro ⟨x, hx, he, hf⟩
    have := (((Wn.within_ok (hc x hx)).1 he).2 t).1 hf
    exact ⟨⟨x, hx, this.1⟩, this.2⟩
  · rintro ⟨⟨x, hx, hf⟩, hw⟩
    rcases h3 x hx with he | he
    · exact ⟨x, hx, he, (((Wn.within_ok (hc x hx)).1 he).2 t).2 ⟨hf, hw⟩⟩
    · exact absurd ⟨hf, hw⟩ ((Wn.within_ok (hc x hx)).2 he t)
end Zs
end Go.Proofs.YtgjeeghhhfpkoaaGreat

