/-
  Merged texts of this law (each with its own head below).
-/
import Derived.Test.YtanhnllkccldhaaGreatLCloseDoes6
import Derived.Test.YtanhnllkccldhaaGreatLCloseDoes4
import Derived.Test.YtanhnllkccldhaaGreatLCloseDoes5
namespace Go.Proofs.YtanhnllkccldhaaGreat
set_option linter.unusedVariables false
set_option linter.unusedSimpArgs false
open Go.RowKit Go.Proofs.YtanhnllkccldhaaGreat.Eng Enc
namespace Dbm
theorem satO_lo {x y : Rat} {v : Int} : satO (x - y) (some v) ↔ LoQ (x - ((v / 2 : Int) : Rat), Bd.st v) y := by
 unfold satO LoQ
 simp only
 split <;> constructor <;> intro h <;> grind
theorem satO_hi {x y : Rat} {v : Int} : satO (y - x) (some v) ↔ HiQ (x + ((v / 2 : Int) : Rat), Bd.st v) y := by
 unfold satO HiQ
 simp only
 split <;> constructor <;> intro h <;> grind
theorem extend {N k : Nat} {C : List Int} (hc : Clo N C) (hk : k < N) {u : Nat → Rat} (h : ∀ i j, i < N → j < N → i ≠ k → j ≠ k → satO (u i - u j) (mx N C i j)) :
 ∃ s, Fits N (mx N C) (fun i => if i = k then s else u i) := by
 obtain ⟨s, h1, h2⟩ := room ((List.range N).filterMap fun i => if i = k then none else (mx N C i k).map fun v => (u i - ((v / 2 : Int) : Rat), Bd.st v))
  ((List.range N).filterMap fun i => if i = k then none else (mx N C k i).map fun v => (u i + ((v / 2 : Int) : Rat), Bd.st v)) (by
  intro a ha b hb
  obtain ⟨i, hi, ea⟩ := List.mem_filterMap.1 ha
  obtain ⟨j, hj, eb⟩ := List.mem_filterMap.1 hb
  have hi := List.mem_range.1 hi
  have hj := List.mem_range.1 hj
  by_cases ci : i = k
  ·rw [if_pos ci] at ea; cases ea
  by_cases cj : j = k
  ·rw [if_pos cj] at eb; cases eb
  rw [if_neg ci] at ea
  rw [if_neg cj] at eb
  have ht := satO_mono (hc.tri i j k hi hj hk) (h i j hi hj ci cj)
  cases hv : mx N C i k with
  | none => rw [hv] at ea; cases ea
  | some v =>
    cases hw : mx N C k j with
    | none => rw [hw] at eb; cases eb
    | some w =>
      rw [hv] at ea ht
      rw [hw] at eb ht
      injection ea with ea
      injection eb with eb
      subst ea eb
      simp only [oadd, satO] at ht
      rw [bsum_half, Rat.intCast_add] at ht
      simp only
      by_cases hs : Bd.st (bsum v w) = true
      ·rw [if_pos hs] at ht
       rw [if_pos (by have := (Incl.st_bsum v w).1 hs; rw [Bool.or_eq_true]; exact this)]
       grind
      ·rw [if_neg hs] at ht
       rw [if_neg (by rw [Bool.or_eq_true]; exact fun k => hs ((Incl.st_bsum v w).2 k))]
       grind)
 refine ⟨s, fun i j hi hj => ?_⟩
 simp only
 by_cases ci : i = k
 ·by_cases cj : j = k
  ·rw [if_pos ci, if_pos cj, Rat.sub_self]
   have : mx N C i j = some 1 := by rw [ci, cj]; unfold mx; rw [hc.diag k hk]; rfl
   rw [this]; exact satO_zero.2 (by omega)
  ·rw [if_pos ci, if_neg cj]
   subst ci
   cases hv : mx N C i j with
   | none => trivial
   | some v => exact satO_hi.2 (h2 _ (List.mem_filterMap.2 ⟨j, List.mem_range.2 hj, by rw [if_neg cj, hv]; rfl⟩))
 ·by_cases cj : j = k
  ·rw [if_neg ci, if_pos cj]
   subst cj
   cases hv : mx N C i j with
   | none => trivial
   | some v => exact satO_lo.2 (h1 _ (List.mem_filterMap.2 ⟨i, List.mem_range.2 hi, by rw [if_neg ci, hv]; rfl⟩))
  ·rw [if_neg ci, if_neg cj]; exact h i j hi hj ci cj
end Dbm
namespace Cmp
open Dbm Mi
def cl (c0 c1 c2 i : Nat) : Nat := if i = 0 then c0 else if i = 1 then c1 else c2
theorem pl_eq (c0 c1 c2 k : Nat) : pl c0 c1 c2 k = cl c0 c1 c2 (k / 3) * 4 + cl c0 c1 c2 (k % 3) := by unfold pl cl; omega
theorem cl_lt {c0 c1 c2 : Nat} (h0 : c0 < 4) (h1 : c1 < 4) (h2 : c2 < 4) (i : Nat) : cl c0 c1 c2 i < 4 := by unfold cl; split <;> (try split) <;> assumption
theorem put_all {c0 c1 c2 : Nat} (p : Int → Prop) (hm : ∀ x y, p x → p y → p (min x y)) {M L : List Int} (hM : ∀ q, q < M.length → p (M[q]?.getD 0)) (hL : ∀ q, q < L.length → p (L[q]?.getD 0)) (hc : ∀ k, pl c0 c1 c2 k < L.length) :
 ∀ k, k ≤ M.length → ∀ q, q < L.length → p ((put c0 c1 c2 M L k)[q]?.getD 0)
 | 0, _, q, hq => hL q hq
 | k + 1, hk, q, hq => by
   have ih := put_all p hm hM hL hc k (by omega)
   show p (((put c0 c1 c2 M L k).set (pl c0 c1 c2 k) _)[q]?.getD 0)
   rw [List.getElem?_set]
   by_cases e : pl c0 c1 c2 k = q
   ·rw [if_pos e, if_pos (by rw [put_len]; exact e ▸ hc k)]
    exact hm _ _ (ih _ (hc k)) (hM k (by omega))
   ·rw [if_neg e]; exact ih q hq
theorem put_fits {c0 c1 c2 : Nat} (h0 : c0 < 4) (h1 : c1 < 4) (h2 : c2 < 4) {M L : List Int} (hl : L.length = 16) (hM : ∀ q, q < M.length → M[q]?.getD 0 = NO ∨ M[q]?.getD 0 < NO) (hL : ∀ q, q < L.length → L[q]?.getD 0 = NO ∨ L[q]?.getD 0 < NO) (T : Nat → Rat) :
 ∀ k, k ≤ M.length → (Fits 4 (mx 4 (put c0 c1 c2 M L k)) T ↔ Fits 4 (mx 4 L) T ∧ ∀ q, q < k → satO (T (cl c0 c1 c2 (q / 3)) - T (cl c0 c1 c2 (q % 3))) (ob (M[q]?.getD 0)))
 | 0, _ => ⟨fun h => ⟨h, fun q hq => absurd hq (by omega)⟩, fun h => h.1⟩
 | k + 1, hk => by
   have ih := put_fits h0 h1 h2 hl hM hL T k (by omega)
   have hc : ∀ k, pl c0 c1 c2 k < L.length := fun k => by
    rw [pl_eq, hl]
    have := cl_lt h0 h1 h2 (k / 3)
    have := cl_lt h0 h1 h2 (k % 3)
    omega
   have hno := put_all (c0 := c0) (c1 := c1) (c2 := c2) (fun x => x = NO ∨ x < NO) (fun x y (hx : x = NO ∨ x < NO) (hy : y = NO ∨ y < NO) => (by omega : min x y = NO ∨ min x y < NO)) hM hL hc k (by omega)
   have a1 := cl_lt h0 h1 h2 (k / 3)
   have a2 := cl_lt h0 h1 h2 (k % 3)
   have hmin := satO_min (T (cl c0 c1 c2 (k / 3)) - T (cl c0 c1 c2 (k % 3))) _ _ (hno _ (hc k)) (hM k (by omega))
   have hg : ∀ i j, i < 4 → j < 4 → (put c0 c1 c2 M L (k + 1))[i * 4 + j]?.getD 0 = if i = cl c0 c1 c2 (k / 3) ∧ j = cl c0 c1 c2 (k % 3) then min ((put c0 c1 c2 M L k)[pl c0 c1 c2 k]?.getD 0) (M[k]?.getD 0) else (put c0 c1 c2 M L k)[i * 4 + j]?.getD 0 := fun i j hi hj => by
    show (((put c0 c1 c2 M L k).set (pl c0 c1 c2 k) _)[i * 4 + j]?.getD 0) = _
    rw [List.getElem?_set]
    by_cases e : i = cl c0 c1 c2 (k / 3) ∧ j = cl c0 c1 c2 (k % 3)
    ·rw [if_pos e, if_pos (by rw [pl_eq, e.1, e.2]), if_pos (by rw [put_len]; exact hc k)]; rfl
    ·rw [if_neg e, if_neg (by rw [pl_eq]; omega)]
   constructor
   ·intro h
    have h1' := h _ _ a1 a2
    unfold mx at h1'
    rw [hg _ _ a1 a2, if_pos ⟨rfl, rfl⟩] at h1'
    have hb := hmin.1 h1'
    have hf : Fits 4 (mx 4 (put c0 c1 c2 M L k)) T := fun i j hi hj => by
     have h3 := h i j hi hj
     unfold mx at h3 ⊢
     rw [hg i j hi hj] at h3
     by_cases e : i = cl c0 c1 c2 (k / 3) ∧ j = cl c0 c1 c2 (k % 3)
     ·obtain ⟨rfl, rfl⟩ := e
      rw [← pl_eq]; exact hb.1
     ·rw [if_neg e] at h3; exact h3
    refine ⟨(ih.1 hf).1, fun q hq => ?_⟩
    by_cases e : q = k
    ·subst e; exact hb.2
    ·exact (ih.1 hf).2 q (by omega)
   ·rintro ⟨h, hq⟩ i j hi hj
    have hf := ih.2 ⟨h, fun q hq' => hq q (by omega)⟩
    unfold mx
    rw [hg i j hi hj]
    by_cases e : i = cl c0 c1 c2 (k / 3) ∧ j = cl c0 c1 c2 (k % 3)
    ·rw [if_pos e]
     obtain ⟨rfl, rfl⟩ := e
     refine hmin.2 ⟨?_, hq k (by omega)⟩
     have := hf _ _ hi hj
     unfold mx at this
     rwa [← pl_eq] at this
    ·rw [if_neg e]; exact hf i j hi hj
def t3 (x y z : Rat) (i : Nat) : Rat := if i = 0 then x else if i = 1 then y else z
theorem fits3 {M : List Int} (c0 c1 c2 : Nat) (T : Nat → Rat) : (∀ q, q < 9 → satO (T (cl c0 c1 c2 (q / 3)) - T (cl c0 c1 c2 (q % 3))) (ob (M[q]?.getD 0))) ↔ Fits 3 (mx 3 M) (t3 (T c0) (T c1) (T c2)) := by
 have e : ∀ i, T (cl c0 c1 c2 i) = t3 (T c0) (T c1) (T c2) i := fun i => by unfold cl t3; split <;> (try split) <;> rfl
 constructor
 ·intro h i j hi hj
  have := h (i * 3 + j) (by omega)
  rw [show (i * 3 + j) / 3 = i by omega, show (i * 3 + j) % 3 = j by omega, e, e] at this
  exact this
 ·intro h q hq
  have := h (q / 3) (q % 3) (by omega) (by omega)
  unfold mx at this
  rw [show q / 3 * 3 + q % 3 = q by omega] at this
  rw [e, e]; exact this
theorem top_get : ∀ i, i < 4 → ∀ j, j < 4 → mx 4 (topL 4) i j = if i = j then some 1 else none := by decide
theorem top_fits (T : Nat → Rat) : Fits 4 (mx 4 (topL 4)) T := fun i j hi hj => by
 rw [top_get i hi j hj]
 by_cases e : i = j
 ·rw [if_pos e, e, Rat.sub_self]; exact satO_zero.2 (by omega)
 ·rw [if_neg e]; trivial
theorem top_may : ∀ q, q < (topL 4).length → mayC ((topL 4)[q]?.getD 0) = true := by decide
theorem top_no : ∀ q, q < (topL 4).length → (topL 4)[q]?.getD 0 = NO ∨ (topL 4)[q]?.getD 0 < NO := by decide
theorem z_may {z : Zn} (hz : Dbm.chk 3 (Zo.matL z) = 0) : ∀ q, q < (Zo.matL z).length → mayC ((Zo.matL z)[q]?.getD 0) = true := fun q hq => by
 obtain ⟨a1, a2, a3, a4⟩ := chk_iff.1 hz
 rw [List.any_eq_false] at a4
 have e1 := List.getElem?_eq_getElem hq
 have k1 := a4 _ (List.getElem_mem hq)
 rw [e1]
 simpa using k1
theorem z_no {z : Zn} (hz : Dbm.chk 3 (Zo.matL z) = 0) : ∀ q, q < (Zo.matL z).length → (Zo.matL z)[q]?.getD 0 = NO ∨ (Zo.matL z)[q]?.getD 0 < NO := fun q hq => lim_lt (chk_lim hz q hq) (by decide)
theorem mat_chk {a b : Zn} (ha : Zo.chk a = 0) (hb : Zo.chk b = 0) : Dbm.chk 4 (mat a b) = 0 := by
 have ca := (Zo.clo ha).1
 have cb := (Zo.clo hb).1
 have h1 := put_all (c0 := 0) (c1 := 1) (c2 := 2) (fun x => mayC x = true) (fun x y => Zo.mayC_min) (z_may ca) top_may (fun k => by rw [pl_eq]; have := cl_lt (c0 := 0) (c1 := 1) (c2 := 2) (by omega) (by omega) (by omega) (k / 3); have := cl_lt (c0 := 0) (c1 := 1) (c2 := 2) (by omega) (by omega) (by omega) (k % 3); show _ < 16; omega) 9 (Nat.le_refl _)
 have l1 : (put 0 1 2 (Zo.matL a) (topL 4) 9).length = 16 := by rw [put_len]; rfl
 have h2 := put_all (c0 := 0) (c1 := 2) (c2 := 3) (L := put 0 1 2 (Zo.matL a) (topL 4) 9) (fun x => mayC x = true) (fun x y => Zo.mayC_min) (z_may cb) (fun q hq => h1 q (by rw [l1] at hq; exact hq)) (fun k => by rw [pl_eq, l1]; have := cl_lt (c0 := 0) (c1 := 2) (c2 := 3) (by omega) (by omega) (by omega) (k / 3); have := cl_lt (c0 := 0) (c1 := 2) (c2 := 3) (by omega) (by omega) (by omega) (k % 3); omega) 9 (Nat.le_refl _)
 refine chk_iff.2 ⟨by decide, by decide, by rw [mat_len]; rfl, ?_⟩
 rw [List.any_eq_false]
 intro x hx
 obtain ⟨q, hq, rfl⟩ := List.getElem_of_mem hx
 have hq' : q < (put 0 1 2 (Zo.matL a) (topL 4) 9).length := by rw [l1]; rw [mat_len] at hq; exact hq
 have := h2 q hq'
 change mayC ((mat a b)[q]?.getD 0) = true at this
 rw [List.getElem?_eq_getElem hq] at this
 simp only [Option.getD_some] at this
 simp [this]
theorem mat_fits {a b : Zn} (ha : Zo.chk a = 0) (hb : Zo.chk b = 0) (T : Nat → Rat) : Fits 4 (mx 4 (mat a b)) T ↔ Fz a (t3 (T 0) (T 1) (T 2)) ∧ Fz b (t3 (T 0) (T 2) (T 3)) := by
 have ca := (Zo.clo ha).1
 have cb := (Zo.clo hb).1
 have l1 : (put 0 1 2 (Zo.matL a) (topL 4) 9).length = 16 := by rw [put_len]; rfl
 have hno := put_all (c0 := 0) (c1 := 1) (c2 := 2) (fun x => x = NO ∨ x < NO) (fun x y (hx : x = NO ∨ x < NO) (hy : y = NO ∨ y < NO) => (by omega : min x y = NO ∨ min x y < NO)) (z_no ca) top_no (fun k => by rw [pl_eq]; have := cl_lt (c0 := 0) (c1 := 1) (c2 := 2) (by omega) (by omega) (by omega) (k / 3); have := cl_lt (c0 := 0) (c1 := 1) (c2 := 2) (by omega) (by omega) (by omega) (k % 3); show _ < 16; omega) 9 (Nat.le_refl _)
 have f2 := put_fits (c0 := 0) (c1 := 2) (c2 := 3) (by omega) (by omega) (by omega) l1 (z_no cb) (fun q hq => hno q (by rw [l1] at hq; exact hq)) T 9 (Nat.le_refl _)
 have f1 := put_fits (c0 := 0) (c1 := 1) (c2 := 2) (L := topL 4) (by omega) (by omega) (by omega) rfl (z_no ca) top_no T 9 (Nat.le_refl _)
 rw [fits3] at f1 f2
 show Fits 4 (mx 4 (put 0 2 3 (Zo.matL b) (put 0 1 2 (Zo.matL a) (topL 4) 9) 9)) T ↔ _
 rw [f2, f1]
 exact ⟨fun h => ⟨h.1.2, h.2⟩, fun h => ⟨⟨top_fits T, h.1⟩, h.2⟩⟩
def Thru (P Q : (Nat → Rat) → Prop) (t : Nat → Rat) : Prop := ∃ s, P (t3 (t 0) (t 1) s) ∧ Q (t3 (t 0) s (t 2))
theorem drop_fits {a b : Zn} (ha : Zo.chk a = 0) (hb : Zo.chk b = 0) :
 ((Proj.drop 4 (mat a b) 2).2.2 = 0 → ∀ t, Fits 3 (mx 3 (Proj.drop 4 (mat a b) 2).2.1) t ↔ Thru (Fz a) (Fz b) t) ∧
 ((Proj.drop 4 (mat a b) 2).2.2 = 6 → ∀ t, ¬ Thru (Fz a) (Fz b) t) := by
 have h0 := mat_chk ha hb
 have hT : ∀ (t : Nat → Rat) s, Fits 4 (mx 4 (mat a b)) (fun i => if i = 0 then t 0 else if i = 1 then t 1 else if i = 2 then s else t 2) ↔ Fz a (t3 (t 0) (t 1) s) ∧ Fz b (t3 (t 0) s (t 2)) := fun t s => mat_fits ha hb _
 generalize mat a b = L at h0 hT ⊢
 constructor
 ·intro h t
  obtain ⟨_, _, _, C, hC, e⟩ := Proj.drop_ok h
  rw [e]
  have hC : closeL 4 L = some C := hC
  have hclo : Clo 4 C := close_clo (N := 4) h0 hC
  have hf := fun T => close_fits (N := 4) h0 hC T
  have hg : ∀ i j, i < 3 → j < 3 → mx 3 (Proj.dropL 4 2 C) i j = mx 4 C (Proj.sk 2 i) (Proj.sk 2 j) := fun i j hi hj => by unfold mx; rw [Proj.dropL_get (N := 4) C hi hj]
  show Fits 3 (mx 3 (Proj.dropL 4 2 C)) t ↔ _
  constructor
  ·intro ht
   obtain ⟨s, hs⟩ := extend hclo (k := 2) (by omega) (u := fun i => if i = 3 then t 2 else t i) (fun i j hi hj h1 h2 => by
    have k := ht (if i = 3 then 2 else i) (if j = 3 then 2 else j) (by split <;> omega) (by split <;> omega)
    rw [hg _ _ (by split <;> omega) (by split <;> omega)] at k
    have ei : Proj.sk 2 (if i = 3 then 2 else i) = i := by unfold Proj.sk; repeat' split
                                                           all_goals omega
    have ej : Proj.sk 2 (if j = 3 then 2 else j) = j := by unfold Proj.sk; repeat' split
                                                           all_goals omega
    rw [ei, ej] at k
    show satO ((if i = 3 then t 2 else t i) - (if j = 3 then t 2 else t j)) (mx 4 C i j)
    have q : ∀ i, t (if i = 3 then 2 else i) = if i = 3 then t 2 else t i := fun i => by split <;> rfl
    rw [← q, ← q]; exact k)
   refine ⟨s, (hT t s).1 ((hf _).1 fun i j hi hj => ?_)⟩
   have k : satO ((if i = 2 then s else if i = 3 then t 2 else t i) - (if j = 2 then s else if j = 3 then t 2 else t j)) (mx 4 C i j) := hs i j hi hj
   have q : ∀ i, i < 4 → (if i = 0 then t 0 else if i = 1 then t 1 else if i = 2 then s else t 2) = if i = 2 then s else if i = 3 then t 2 else t i := fun i hi => by
    have : i = 0 ∨ i = 1 ∨ i = 2 ∨ i = 3 := by omega
    rcases this with rfl | rfl | rfl | rfl <;> rfl
   show satO ((if i = 0 then t 0 else if i = 1 then t 1 else if i = 2 then s else t 2) - (if j = 0 then t 0 else if j = 1 then t 1 else if j = 2 then s else t 2)) (mx 4 C i j)
   rw [q i hi, q j hj]; exact k
  ·rintro ⟨s, hs⟩ i j hi hj
   have k := (hf _).2 ((hT t s).2 hs) (Proj.sk 2 i) (Proj.sk 2 j) (Proj.sk_lt (N := 4) hi) (Proj.sk_lt (N := 4) hj)
   rw [hg i j hi hj]
   have q : ∀ i, i < 3 → (if Proj.sk 2 i = 0 then t 0 else if Proj.sk 2 i = 1 then t 1 else if Proj.sk 2 i = 2 then s else t 2) = t i := fun i hi => by
    have : i = 0 ∨ i = 1 ∨ i = 2 := by omega
    rcases this with rfl | rfl | rfl <;> rfl
   change satO ((if Proj.sk 2 i = 0 then t 0 else if Proj.sk 2 i = 1 then t 1 else if Proj.sk 2 i = 2 then s else t 2) - (if Proj.sk 2 j = 0 then t 0 else if Proj.sk 2 j = 1 then t 1 else if Proj.sk 2 j = 2 then s else t 2)) (mx 4 C (Proj.sk 2 i) (Proj.sk 2 j)) at k
   rw [q i hi, q j hj] at k; exact k
 ·rintro h t ⟨s, hs⟩
  obtain ⟨C, hC⟩ := close_some (N := 4) h0 ((hT t s).2 hs)
  unfold Proj.drop at h
  rw [if_pos h0, if_neg (by omega)] at h
  change (match closeL 4 L with | some c => ((4 : Int) - 1, Proj.dropL 4 2 c, (0 : Int)) | none => (0, [], 6)).2.2 = 6 at h
  rw [hC] at h
  cases h
theorem comp_ok {a b : Zn} (ha : Zo.chk a = 0) (hb : Zo.chk b = 0) :
 ((comp a b).2 = 0 → Zo.chk (comp a b).1 = 0 ∧ ∀ t, Fz (comp a b).1 t ↔ Thru (Fz a) (Fz b) t) ∧ ((comp a b).2 = 6 → ∀ t, ¬ Thru (Fz a) (Fz b) t) := by
 obtain ⟨d1, d2⟩ := drop_fits ha hb
 unfold comp
 rw [if_pos ⟨ha, hb⟩]
 generalize mat a b = L at d1 d2 ⊢
 by_cases he : (Proj.drop 4 L 2).2.2 = 0
 ·rw [if_pos he]
  obtain ⟨_, _, _, C, hC, e⟩ := Proj.drop_ok he
  have e3 : (Proj.drop 4 L 2).1 = 3 := by rw [e]; rfl
  rw [e3]
  exact ⟨fun h => ⟨(of_ok h).1, fun t => ((of_ok h).2 t).trans (d1 he t)⟩, fun h t ht => of_none h t ((d1 he t).2 ht)⟩
 ·rw [if_neg he]
  exact ⟨fun h => absurd h he, fun h => d2 h⟩
end Cmp
namespace Zs
open Mi Dbm Cmp
theorem comp_pts {l m : List Zn} (h : (comp l m).2 = 0) : Fine (comp l m).1 ∧ ∀ t, Pts (comp l m).1 t ↔ Thru (Pts l) (Pts m) t := by
 obtain ⟨h0, h2, h3, h4⟩ := paired_ok h
 obtain ⟨c1, c2⟩ := checked2 h0
 refine ⟨h2, fun t => (h4 t).trans ?_⟩
 constructor
 ·rintro ⟨x, y, hx, hy, he, hf⟩
  obtain ⟨s, h5, h6⟩ := (((comp_ok (c1 x hx) (c2 y hy)).1 he).2 t).1 hf
  exact ⟨s, ⟨x, hx, h5⟩, ⟨y, hy, h6⟩⟩
 ·rintro ⟨s, ⟨x, hx, h5⟩, ⟨y, hy, h6⟩⟩
  rcases h3 x y hx hy with he | he
  ·exact ⟨x, y, hx, hy, he, (((comp_ok (c1 x hx) (c2 y hy)).1 he).2 t).2 ⟨s, h5, h6⟩⟩
  ·exact absurd ⟨s, h5, h6⟩ ((comp_ok (c1 x hx) (c2 y hy)).2 he t)
end Zs
namespace Ky
open Dbm Mi Cv Zs Cmp
theorem put_next (c0 c1 c2 : Nat) (M L : List Int) (k : Nat) : put c0 c1 c2 M L (k + 1) = (put c0 c1 c2 M L k).set (Cmp.pl c0 c1 c2 k) (min ((put c0 c1 c2 M L k)[Cmp.pl c0 c1 c2 k]?.getD 0) (M[k]?.getD 0)) := rfl
theorem top_eq : topL 4 = [1, NO, NO, NO, NO, 1, NO, NO, NO, NO, 1, NO, NO, NO, NO, 1] := by decide
theorem mat_eq (a b : Zn) : mat a b = [min (min 1 1) (1), min NO a.b, min (min NO a.d) (b.b), min NO b.d, min NO a.a, min 1 1, min NO a.f, NO, min (min NO a.c) (b.a), min NO a.e, min (min 1 1) (1), min NO b.f, min NO b.c, NO, min NO b.e, min 1 1] := by
 unfold mat
 rw [top_eq]
 have a1 : put 0 1 2 (Zo.matL a) [1, NO, NO, NO, NO, 1, NO, NO, NO, NO, 1, NO, NO, NO, NO, 1] 1 = [min 1 1, NO, NO, NO, NO, 1, NO, NO, NO, NO, 1, NO, NO, NO, NO, 1] := by rfl
 have a2 : put 0 1 2 (Zo.matL a) [1, NO, NO, NO, NO, 1, NO, NO, NO, NO, 1, NO, NO, NO, NO, 1] 2 = [min 1 1, min NO a.b, NO, NO, NO, 1, NO, NO, NO, NO, 1, NO, NO, NO, NO, 1] := by rw [put_next, a1]; rfl
 have a3 : put 0 1 2 (Zo.matL a) [1, NO, NO, NO, NO, 1, NO, NO, NO, NO, 1, NO, NO, NO, NO, 1] 3 = [min 1 1, min NO a.b, min NO a.d, NO, NO, 1, NO, NO, NO, NO, 1, NO, NO, NO, NO, 1] := by rw [put_next, a2]; rfl
 have a4 : put 0 1 2 (Zo.matL a) [1, NO, NO, NO, NO, 1, NO, NO, NO, NO, 1, NO, NO, NO, NO, 1] 4 = [min 1 1, min NO a.b, min NO a.d, NO, min NO a.a, 1, NO, NO, NO, NO, 1, NO, NO, NO, NO, 1] := by rw [put_next, a3]; rfl
 have a5 : put 0 1 2 (Zo.matL a) [1, NO, NO, NO, NO, 1, NO, NO, NO, NO, 1, NO, NO, NO, NO, 1] 5 = [min 1 1, min NO a.b, min NO a.d, NO, min NO a.a, min 1 1, NO, NO, NO, NO, 1, NO, NO, NO, NO, 1] := by rw [put_next, a4]; rfl
 have a6 : put 0 1 2 (Zo.matL a) [1, NO, NO, NO, NO, 1, NO, NO, NO, NO, 1, NO, NO, NO, NO, 1] 6 = [min 1 1, min NO a.b, min NO a.d, NO, min NO a.a, min 1 1, min NO a.f, NO, NO, NO, 1, NO, NO, NO, NO, 1] := by rw [put_next, a5]; rfl
 have a7 : put 0 1 2 (Zo.matL a) [1, NO, NO, NO, NO, 1, NO, NO, NO, NO, 1, NO, NO, NO, NO, 1] 7 = [min 1 1, min NO a.b, min NO a.d, NO, min NO a.a, min 1 1, min NO a.f, NO, min NO a.c, NO, 1, NO, NO, NO, NO, 1] := by rw [put_next, a6]; rfl
 have a8 : put 0 1 2 (Zo.matL a) [1, NO, NO, NO, NO, 1, NO, NO, NO, NO, 1, NO, NO, NO, NO, 1] 8 = [min 1 1, min NO a.b, min NO a.d, NO, min NO a.a, min 1 1, min NO a.f, NO, min NO a.c, min NO a.e, 1, NO, NO, NO, NO, 1] := by rw [put_next, a7]; rfl
 have a9 : put 0 1 2 (Zo.matL a) [1, NO, NO, NO, NO, 1, NO, NO, NO, NO, 1, NO, NO, NO, NO, 1] 9 = [min 1 1, min NO a.b, min NO a.d, NO, min NO a.a, min 1 1, min NO a.f, NO, min NO a.c, min NO a.e, min 1 1, NO, NO, NO, NO, 1] := by rw [put_next, a8]; rfl
 rw [a9]
 have b1 : put 0 2 3 (Zo.matL b) [min 1 1, min NO a.b, min NO a.d, NO, min NO a.a, min 1 1, min NO a.f, NO, min NO a.c, min NO a.e, min 1 1, NO, NO, NO, NO, 1] 1 = [min (min 1 1) (1), min NO a.b, min NO a.d, NO, min NO a.a, min 1 1, min NO a.f, NO, min NO a.c, min NO a.e, min 1 1, NO, NO, NO, NO, 1] := by rfl
 have b2 : put 0 2 3 (Zo.matL b) [min 1 1, min NO a.b, min NO a.d, NO, min NO a.a, min 1 1, min NO a.f, NO, min NO a.c, min NO a.e, min 1 1, NO, NO, NO, NO, 1] 2 = [min (min 1 1) (1), min NO a.b, min (min NO a.d) (b.b), NO, min NO a.a, min 1 1, min NO a.f, NO, min NO a.c, min NO a.e, min 1 1, NO, NO, NO, NO, 1] := by rw [put_next, b1]; rfl
 have b3 : put 0 2 3 (Zo.matL b) [min 1 1, min NO a.b, min NO a.d, NO, min NO a.a, min 1 1, min NO a.f, NO, min NO a.c, min NO a.e, min 1 1, NO, NO, NO, NO, 1] 3 = [min (min 1 1) (1), min NO a.b, min (min NO a.d) (b.b), min NO b.d, min NO a.a, min 1 1, min NO a.f, NO, min NO a.c, min NO a.e, min 1 1, NO, NO, NO, NO, 1] := by rw [put_next, b2]; rfl
 have b4 : put 0 2 3 (Zo.matL b) [min 1 1, min NO a.b, min NO a.d, NO, min NO a.a, min 1 1, min NO a.f, NO, min NO a.c, min NO a.e, min 1 1, NO, NO, NO, NO, 1] 4 = [min (min 1 1) (1), min NO a.b, min (min NO a.d) (b.b), min NO b.d, min NO a.a, min 1 1, min NO a.f, NO, min (min NO a.c) (b.a), min NO a.e, min 1 1, NO, NO, NO, NO, 1] := by rw [put_next, b3]; rfl
 have b5 : put 0 2 3 (Zo.matL b) [min 1 1, min NO a.b, min NO a.d, NO, min NO a.a, min 1 1, min NO a.f, NO, min NO a.c, min NO a.e, min 1 1, NO, NO, NO, NO, 1] 5 = [min (min 1 1) (1), min NO a.b, min (min NO a.d) (b.b), min NO b.d, min NO a.a, min 1 1, min NO a.f, NO, min (min NO a.c) (b.a), min NO a.e, min (min 1 1) (1), NO, NO, NO, NO, 1] := by rw [put_next, b4]; rfl
 have b6 : put 0 2 3 (Zo.matL b) [min 1 1, min NO a.b, min NO a.d, NO, min NO a.a, min 1 1, min NO a.f, NO, min NO a.c, min NO a.e, min 1 1, NO, NO, NO, NO, 1] 6 = [min (min 1 1) (1), min NO a.b, min (min NO a.d) (b.b), min NO b.d, min NO a.a, min 1 1, min NO a.f, NO, min (min NO a.c) (b.a), min NO a.e, min (min 1 1) (1), min NO b.f, NO, NO, NO, 1] := by rw [put_next, b5]; rfl
 have b7 : put 0 2 3 (Zo.matL b) [min 1 1, min NO a.b, min NO a.d, NO, min NO a.a, min 1 1, min NO a.f, NO, min NO a.c, min NO a.e, min 1 1, NO, NO, NO, NO, 1] 7 = [min (min 1 1) (1), min NO a.b, min (min NO a.d) (b.b), min NO b.d, min NO a.a, min 1 1, min NO a.f, NO, min (min NO a.c) (b.a), min NO a.e, min (min 1 1) (1), min NO b.f, min NO b.c, NO, NO, 1] := by rw [put_next, b6]; rfl
 have b8 : put 0 2 3 (Zo.matL b) [min 1 1, min NO a.b, min NO a.d, NO, min NO a.a, min 1 1, min NO a.f, NO, min NO a.c, min NO a.e, min 1 1, NO, NO, NO, NO, 1] 8 = [min (min 1 1) (1), min NO a.b, min (min NO a.d) (b.b), min NO b.d, min NO a.a, min 1 1, min NO a.f, NO, min (min NO a.c) (b.a), min NO a.e, min (min 1 1) (1), min NO b.f, min NO b.c, NO, min NO b.e, 1] := by rw [put_next, b7]; rfl
 have b9 : put 0 2 3 (Zo.matL b) [min 1 1, min NO a.b, min NO a.d, NO, min NO a.a, min 1 1, min NO a.f, NO, min NO a.c, min NO a.e, min 1 1, NO, NO, NO, NO, 1] 9 = [min (min 1 1) (1), min NO a.b, min (min NO a.d) (b.b), min NO b.d, min NO a.a, min 1 1, min NO a.f, NO, min (min NO a.c) (b.a), min NO a.e, min (min 1 1) (1), min NO b.f, min NO b.c, NO, min NO b.e, min 1 1] := by rw [put_next, b8]; rfl
 rw [b9]
theorem tri_le {N : Nat} {C : List Int} (clo : Clo N C) {i j a : Nat} (hi : i < N) (hj : j < N) (ha : a < N) {u v : Int} (hu : C[i * N + a]?.getD 0 ≤ u) (hv : C[a * N + j]?.getD 0 ≤ v) (hun : u < NO) (hvn : v < NO) : C[i * N + j]?.getD 0 ≤ bsum u v := by
 have h1 := clo.tri i j a hi hj ha
 have m2 : mx N C i a = some (C[i * N + a]?.getD 0) := by unfold mx ob; rw [if_neg (by omega)]
 have m3 : mx N C a j = some (C[a * N + j]?.getD 0) := by unfold mx ob; rw [if_neg (by omega)]
 rw [m2, m3] at h1
 cases hw : mx N C i j with
 | none => rw [hw] at h1; exact h1.elim
 | some x =>
   rw [hw] at h1
   rw [(mx_some hw).1]
   exact Int.le_trans h1 (bsum_mono hu hv)
theorem comp_mt {long : Int} (hl : 1 ≤ long ∧ long ≤ 16) {a b : Zn} (ha : Mt long a) (hb : Mt long b) : (Cmp.comp a b).2 = 6 ∨ ((Cmp.comp a b).2 = 0 ∧ Mt long (Cmp.comp a b).1) := by
 have h0 := mat_chk ha.chk hb.chk
 have sa := ha.sm hl
 have sb := hb.sm hl
 have hN : (100 : Int) < NO := by decide
 unfold Cmp.comp
 rw [if_pos ⟨ha.chk, hb.chk⟩]
 have hLe := mat_eq a b
 generalize mat a b = L at h0 hLe ⊢
 have hdrop : Proj.drop 4 L 2 = (match closeL 4 L with | some c => (3, Proj.dropL 4 2 c, 0) | none => (0, [], 6)) := by
  unfold Proj.drop
  rw [if_pos h0, if_neg (by decide)]; rfl
 rw [hdrop]
 cases hC : closeL 4 L with
 | none => left; rfl
 | some C =>
   have clo : Clo 4 C := close_clo (N := 4) h0 hC
   obtain ⟨L1, q2, q3, inv, hlen, hE⟩ := close_inv (N := 4) h0 hC
   have low : ∀ i j v, i < 4 → j < 4 → i ≠ j → L[i * 4 + j]?.getD 0 ≤ v → v < NO → C[i * 4 + j]?.getD 0 ≤ v := fun i j v hi hj hne hv hvn => by
    have h1 := inv.low i j hi hj
    have h3 : mx 4 L1 i j = some (L[i * 4 + j]?.getD 0) := by
     unfold mx ob
     rw [q3 i j hi hj, if_neg hne, if_neg (by omega)]
    rw [h3] at h1
    cases hw : mx 4 C i j with
    | none => rw [hw] at h1; exact h1.elim
    | some x =>
      rw [hw] at h1
      rw [(mx_some hw).1]
      exact Int.le_trans h1 hv
   rw [hLe] at low
   have a0 : a.a ≤ 100 := sa 0 (by decide)
   have a4 : a.e ≤ 100 := sa 4 (by decide)
   have b3 : b.d ≤ 100 := sb 3 (by decide)
   have b4 : b.e ≤ 100 := sb 4 (by decide)
   have ab := ha.b
   have af := ha.f
   have bf := hb.f
   have bc := hb.c
   have c01 := low 0 1 1 (by decide) (by decide) (by decide) (by show min NO a.b ≤ 1; omega) (by decide)
   have c10 := low 1 0 100 (by decide) (by decide) (by decide) (by show min NO a.a ≤ 100; omega) hN
   have c03 := low 0 3 100 (by decide) (by decide) (by decide) (by show min NO b.d ≤ 100; omega) hN
   have c30 := low 3 0 (2 * long + 1) (by decide) (by decide) (by decide) (by show min NO b.c ≤ 2 * long + 1; omega) (by omega)
   have c12 := low 1 2 0 (by decide) (by decide) (by decide) (by show min NO a.f ≤ 0; omega) (by decide)
   have c21 := low 2 1 100 (by decide) (by decide) (by decide) (by show min NO a.e ≤ 100; omega) hN
   have c23 := low 2 3 0 (by decide) (by decide) (by decide) (by show min NO b.f ≤ 0; omega) (by decide)
   have c32 := low 3 2 100 (by decide) (by decide) (by decide) (by show min NO b.e ≤ 100; omega) hN
   have c13 := tri_le clo (i := 1) (j := 3) (a := 2) (by decide) (by decide) (by decide) c12 c23 (by decide) (by decide)
   have c31 := tri_le clo (i := 3) (j := 1) (a := 2) (by decide) (by decide) (by decide) c32 c21 hN hN
   have d13 : bsum 0 0 = 0 := by decide
   have d31 : bsum 100 100 = 200 := by decide
   rw [d13] at c13
   rw [d31] at c31
   have hlow2 : ∀ i j, i < 4 → j < 4 → C[i * 4 + j]?.getD 0 ≤ 200 → C[j * 4 + i]?.getD 0 ≤ 200 → mayC (C[i * 4 + j]?.getD 0) = true := fun i j hi hj h1 h2 => by
    have h3 := clo.tri i i j hi hi hj
    have hn2 : (200 : Int) < NO := by decide
    have m1 : mx 4 C i i = some 1 := by unfold mx; rw [clo.diag i hi]; rfl
    have m2 : mx 4 C i j = some (C[i * 4 + j]?.getD 0) := by unfold mx ob; rw [if_neg (by omega)]
    have m3 : mx 4 C j i = some (C[j * 4 + i]?.getD 0) := by unfold mx ob; rw [if_neg (by omega)]
    rw [m1, m2, m3] at h3
    have h4 : (1 : Int) ≤ bsum (C[i * 4 + j]?.getD 0) (C[j * 4 + i]?.getD 0) := h3
    have h5 := bsum_half (C[i * 4 + j]?.getD 0) (C[j * 4 + i]?.getD 0)
    exact mayC_iff.2 (.inr (by omega))
   have g01 := hlow2 0 1 (by decide) (by decide) (by omega) (by omega)
   have g10 := hlow2 1 0 (by decide) (by decide) (by omega) (by omega)
   have g03 := hlow2 0 3 (by decide) (by decide) (by omega) (by omega)
   have g30 := hlow2 3 0 (by decide) (by decide) (by omega) (by omega)
   have g13 := hlow2 1 3 (by decide) (by decide) (by omega) (by omega)
   have g31 := hlow2 3 1 (by decide) (by decide) (by omega) (by omega)
   have z0 := clo.diag 0 (by decide)
   have z1 := clo.diag 1 (by decide)
   have z3 := clo.diag 3 (by decide)
   have m1 : mayC 1 = true := by decide
   have hD : Proj.dropL 4 2 C = [C[0 * 4 + 0]?.getD 0, C[0 * 4 + 1]?.getD 0, C[0 * 4 + 3]?.getD 0, C[1 * 4 + 0]?.getD 0, C[1 * 4 + 1]?.getD 0, C[1 * 4 + 3]?.getD 0, C[3 * 4 + 0]?.getD 0, C[3 * 4 + 1]?.getD 0, C[3 * 4 + 3]?.getD 0] := rfl
   have hcD : chk 3 (Proj.dropL 4 2 C) = 0 := by
    refine chk_iff.2 ⟨by decide, by decide, by rw [hD]; rfl, ?_⟩
    rw [hD, z0, z1, z3]
    simp only [List.any_cons, List.any_nil, g01, g10, g03, g30, g13, g31, m1, Bool.not_true, Bool.or_false]
   show (Zo.of 3 (Proj.dropL 4 2 C)).2 = 6 ∨ ((Zo.of 3 (Proj.dropL 4 2 C)).2 = 0 ∧ Mt long (Zo.of 3 (Proj.dropL 4 2 C)).1)
   have hsm : ∀ i j, i < 3 → j < 3 → i ≠ j → (Proj.dropL 4 2 C)[i * 3 + j]?.getD 0 ≤ 200 := fun i j hi hj hne => by
    rw [hD]
    rcases (by omega : i = 0 ∨ i = 1 ∨ i = 2) with rfl | rfl | rfl <;> rcases (by omega : j = 0 ∨ j = 1 ∨ j = 2) with rfl | rfl | rfl <;> first
     | exact absurd rfl hne
     | exact Int.le_trans c01 (by decide)
     | exact Int.le_trans c03 (by decide)
     | exact Int.le_trans c10 (by decide)
     | exact Int.le_trans c13 (by decide)
     | exact Int.le_trans c31 (by decide)
     | (refine Int.le_trans c30 ?_; omega)
   rcases of_sm hcD (S := 200) (by omega) hsm with h | ⟨h1, h2, h3⟩
   ·exact .inl h
   ·refine .inr ⟨h1, ⟨(of_ok h1).1, ?_, ?_, ?_⟩⟩
    ·exact Int.le_trans (h3 0 1 (by decide) (by decide) (by decide)) c01
    ·exact Int.le_trans (h3 1 2 (by decide) (by decide) (by decide)) c13
    ·exact Int.le_trans (h3 2 0 (by decide) (by decide) (by decide)) c30
structure Ml (long : Int) (l : List Zn) : Prop where
 mt : ∀ z, z ∈ l → Mt long z
 bare : Bare 0 l
theorem Ml.len {long : Int} (hl : 1 ≤ long ∧ long ≤ 16) {l : List Zn} (h : Ml long l) : l.length ≤ (regs long).length := bare_len hl h.mt h.bare
theorem Ml.len4 {long : Int} (hl : 1 ≤ long ∧ long ≤ 16) {l : List Zn} (h : Ml long l) : l.length ≤ 3267 := Nat.le_trans (h.len hl) (regs_len hl)
theorem Ml.nil {long : Int} : Ml long [] := ⟨fun z hz => (nomatch hz), fun j z _ hz => by simp at hz⟩
theorem prune_ml {long : Int} (hl : 1 ≤ long ∧ long ≤ 16) {l : List Zn} (hlen : l.length ≤ 4096) (hm : ∀ z, z ∈ l → Mt long z) : (prune l).2 = 0 ∧ Ml long (prune l).1 := by
 have h := prune_sm hl hlen hm
 have hw := prune_ok h
 exact ⟨h, fun z hz => hm z (hw.mem z hz), hw.bare⟩
theorem come_sm {long : Int} (hl : 1 ≤ long ∧ long ≤ 16) (f : Zn → Zn × Int) : ∀ (l out : List Zn), (∀ x, x ∈ l → (f x).2 = 6 ∨ ((f x).2 = 0 ∧ Mt long (f x).1)) → (∀ z, z ∈ out → Mt long z) → out.length + l.length ≤ 4096 →
 (come f out l).2 = 0 ∧ Ml long (come f out l).1
 | [], out, _, ho, hlen => prune_ml hl (by simpa using hlen) ho
 | x :: l, out, hf, ho, hlen => by
   rw [come_cons]
   simp only [List.length_cons] at hlen
   rcases hf x (by simp) with h | ⟨h, hm⟩
   ·rw [if_neg (by rw [h]; decide), if_pos h]
    exact come_sm hl f l out (fun y hy => hf y (by simp [hy])) ho (by omega)
   ·rw [if_pos h]
    refine come_sm hl f l _ (fun y hy => hf y (by simp [hy])) (fun z hz => ?_) (by simp; omega)
    rcases List.mem_append.1 hz with hz | hz
    ·exact ho z hz
    ·rw [List.mem_singleton.1 hz]; exact hm
theorem pairGo_sm {long : Int} (hl : 1 ≤ long ∧ long ≤ 16) (f : Zn → Zn → Zn × Int) (b : List Zn) (hb : b.length ≤ 800) : ∀ (a out : List Zn), (∀ x y, x ∈ a → y ∈ b → (f x y).2 = 6 ∨ ((f x y).2 = 0 ∧ Mt long (f x y).1)) → Ml long out →
 (pairGo f b out a).2 = 0 ∧ Ml long (pairGo f b out a).1
 | [], out, _, ho => ⟨rfl, ho⟩
 | x :: a, out, hf, ho => by
   have h1 := ho.len4 hl
   obtain ⟨c1, c2⟩ := come_sm hl (f x) b out (fun y hy => hf x y (by simp) hy) ho.mt (by omega)
   rw [pairGo_cons, if_pos c1]
   exact pairGo_sm hl f b hb a _ (fun y z hy hz => hf y z (by simp [hy]) hz) c2
theorem paired_sm {long : Int} (hl : 1 ≤ long ∧ long ≤ 16) (f : Zn → Zn → Zn × Int) {a b : List Zn} (ha : ∀ z, z ∈ a → Zo.chk z = 0) (hb : ∀ z, z ∈ b → Zo.chk z = 0) (hla : a.length ≤ 4096) (hlb : b.length ≤ 800) (hf : ∀ x y, x ∈ a → y ∈ b → (f x y).2 = 6 ∨ ((f x y).2 = 0 ∧ Mt long (f x y).1)) :
 (paired f a b).2 = 0 ∧ Ml long (paired f a b).1 := by
 unfold paired
 rw [if_pos (checked_two hla (by omega) ha hb)]
 exact pairGo_sm hl f b hlb a [] hf Ml.nil
theorem comp_ml {long : Int} (hl : 1 ≤ long ∧ long ≤ 16) {a b : List Zn} (ha : ∀ z, z ∈ a → Mt long z) (hb : ∀ z, z ∈ b → Mt long z) (hla : a.length ≤ 4096) (hlb : b.length ≤ 800) : (Zs.comp a b).2 = 0 ∧ Ml long (Zs.comp a b).1 :=
 paired_sm hl _ (fun z hz => (ha z hz).chk) (fun z hz => (hb z hz).chk) hla hlb fun x y hx hy => comp_mt hl (ha x hx) (hb y hy)
theorem or_ml {long : Int} (hl : 1 ≤ long ∧ long ≤ 16) {a b : List Zn} (ha : ∀ z, z ∈ a → Mt long z) (hb : ∀ z, z ∈ b → Mt long z) (hlen : a.length + b.length ≤ 4096) : (Zs.or a b).2 = 0 ∧ Ml long (Zs.or a b).1 := by
 unfold Zs.or
 rw [if_pos (checked_two (by omega) (by omega) (fun z hz => (ha z hz).chk) (fun z hz => (hb z hz).chk))]
 refine prune_ml hl (by simp; omega) fun z hz => ?_
 rcases List.mem_append.1 hz with hz | hz
 ·exact ha z hz
 ·exact hb z hz
end Ky
end Go.Proofs.YtanhnllkccldhaaGreat
namespace Go.Proofs.YtanhnllkccldhaaGreat
set_option linter.unusedVariables false
set_option linter.unusedSimpArgs false
set_option maxRecDepth 100000
open Go.RowKit Go.Proofs.YtanhnllkccldhaaGreat.Eng Enc
namespace Cl
def oddZ (z : Zn) : Bool := decide (1 < z.b) || decide (0 < z.f)
def odd (l : List Zn) : Bool := l.any oddZ
def chk (old part : List Zn) (cz cr : Int) : Int :=
 if ¬ (1 ≤ cz ∧ cz ≤ 4096) ∨ ¬ (1 ≤ cr ∧ cr ≤ 4096) then 2 else if Zs.check old ≠ 0 ∨ Zs.check part ≠ 0 ∨ odd old = true ∨ odd part = true then 8 else 0
def longer (l by_ part : List Zn) (cz : Int) : List Zn × List Zn × Int :=
 if (Zs.comp by_ part).2 ≠ 0 ∨ cz < ((Zs.comp by_ part).1.length : Int) then ([], [], 300)
 else if (Zs.or l (Zs.comp by_ part).1).2 ≠ 0 ∨ cz < ((Zs.or l (Zs.comp by_ part).1).1.length : Int) then ([], [], 300)
 else ((Zs.or l (Zs.comp by_ part).1).1, (Zs.comp by_ part).1, 0)
end Cl
theorem codd1_any (z : Zn) (w : World) : Calls Tryz.prog 134 #[.agg #[.int .i64 z.a, .int .i64 z.b, .int .i64 z.c, .int .i64 z.d, .int .i64 z.e, .int .i64 z.f]] w fun e w' => e = .returned (.bool (Cl.oddZ z)) ∧ Below w.heap.size w w' := by
 refine fun_eq 0 w Tryz.func134 (args := [.agg [.val (.int .i64 z.a), .val (.int .i64 z.b), .val (.int .i64 z.c), .val (.int .i64 z.d), .val (.int .i64 z.e), .val (.int .i64 z.f)]]) rfl rfl ?_
 refine NewI.mk fun b1 hb1 => ?_
 unfold Cl.oddZ
 refine Need.mk ⟨by decide, by decide⟩ ?_
 refine Branch.mk (fun h => ?_) (fun h => ?_)
 ·exact EndI.mk fun w9 h9 => by rw [h]; rfl
 ·refine Need.mk ⟨by decide, by decide⟩ ?_
  exact EndI.mk fun w9 h9 => by rw [h]; rfl
theorem clodd_any (l : List Zn) (a : Option Addr) (cap : Nat) (w : World) (hS : Sl w.heap.size w (.slice a l.length cap) l) : Calls Tryz.prog 90 #[.slice a l.length cap] w fun e w' => e = .returned (.bool (Cl.odd l)) ∧ Below w.heap.size w w' := by
 refine fun_eq 0 w Tryz.func90 (args := [.val (.slice a l.length cap)]) rfl rfl ?_
 apply CallI.use1
 focus (exact fun w3 h3 => containsZ_pure l Cl.oddZ a cap 134 #[] w3 (Sl.at h3 hS) Tryz.call134 fun x W hx _ => codd1_any x W)
 intro w3 v3 h3 hB3
 exact EndI.mk fun w9 h9 => rfl
theorem cbetween_any (n m : Int) (w : World) : Calls Tryz.prog 88 #[.int .i64 n, .int .i64 m] w fun e w' => e = .returned (.bool (decide (1 ≤ n ∧ n ≤ m))) ∧ Below w.heap.size w w' := by
 refine fun_eq 0 w Tryz.func88 (args := [.val (.int .i64 n), .val (.int .i64 m)]) rfl rfl ?_
 refine Branch.mk (fun h => ?_) (fun h => ?_)
 ·have h1 : 1 ≤ n := of_decide_eq_true h
  exact EndI.mk fun w9 h9 => by congr 1; rw [decide_eq_decide]; omega
 ·have h1 : ¬ 1 ≤ n := of_decide_eq_false h
  exact EndI.mk fun w9 h9 => by rw [decide_eq_false (by omega)]
theorem cchecked_any (old part : List Zn) (cz cr : Int) (ao ap : Option Addr) (co cp : Nat) (w : World) (hO : Sl w.heap.size w (.slice ao old.length co) old) (hP : Sl w.heap.size w (.slice ap part.length cp) part) :
 Calls Tryz.prog 52 #[.slice ao old.length co, .slice ap part.length cp, .agg #[.int .i64 cz, .int .i64 cr]] w fun e w' => e = .returned (.int .i64 (Cl.chk old part cz cr)) ∧ Below w.heap.size w w' := by
 refine fun_eq 0 w Tryz.func52 (args := [.val (.slice ao old.length co), .val (.slice ap part.length cp), .agg [.val (.int .i64 cz), .val (.int .i64 cr)]]) rfl rfl ?_
 have st := Stay.first (w := w)
 refine NewI.mk fun b1 hb1 => ?_
 unfold Cl.chk
 apply CallI.use1
 focus (exact fun w2 h2 => cbetween_any cz 4096 w2)
 intro w2 v2 h2 hB2
 have st := st.nx h2 hB2
 by_cases h1 : 1 ≤ cz ∧ cz ≤ 4096
 case neg =>
  rw [if_pos (.inl h1)]
  refine Branch.yes (by rw [decide_eq_false h1]; rfl) ?_
  exact EndI.mk fun w9 h9 => rfl
 refine Branch.no (by rw [decide_eq_true h1]; rfl) ?_
 apply CallI.use1
 focus (exact fun w3 h3 => cbetween_any cr 4096 w3)
 intro w3 v3 h3 hB3
 have st := st.nx h3 hB3
 by_cases h2 : 1 ≤ cr ∧ cr ≤ 4096
 case neg =>
  rw [if_pos (.inr h2)]
  refine Branch.yes (by rw [decide_eq_false h2]; rfl) ?_
  exact EndI.mk fun w9 h9 => rfl
 refine Branch.no (by rw [decide_eq_true h2]; rfl) ?_
 rw [if_neg (fun h => h.elim (fun k => k h1) (fun k => k h2))]
 apply CallI.use1
 focus (exact fun w4 h4 => zscheck_any old ao co w4 (hO.st (st.at h4)))
 intro w4 v4 h4 hB4
 have st := st.nx h4 hB4
 refine Branch.mk (fun h3 => ?_) (fun h3 => ?_)
 ·rw [if_pos (.inl (of_decide_eq_true h3))]
  exact EndI.mk fun w9 h9 => rfl
 apply CallI.use1
 focus (exact fun w5 h5 => zscheck_any part ap cp w5 (hP.st (st.at h5)))
 intro w5 v5 h5 hB5
 have st := st.nx h5 hB5
 refine Branch.mk (fun h4 => ?_) (fun h4 => ?_)
 ·rw [if_pos (.inr (.inl (of_decide_eq_true h4)))]
  exact EndI.mk fun w9 h9 => rfl
 apply CallI.use1
 focus (exact fun w6 h6 => clodd_any old ao co w6 (hO.st (st.at h6)))
 intro w6 v6 h6 hB6
 have st := st.nx h6 hB6
 refine Branch.mk (fun h5 => ?_) (fun h5 => ?_)
 ·rw [if_pos (.inr (.inr (.inl h5)))]
  exact EndI.mk fun w9 h9 => rfl
 apply CallI.use1
 focus (exact fun w7 h7 => clodd_any part ap cp w7 (hP.st (st.at h7)))
 intro w7 v7 h7 hB7
 have st := st.nx h7 hB7
 refine Branch.mk (fun h6 => ?_) (fun h6 => ?_)
 ·rw [if_pos (.inr (.inr (.inr h6)))]
  exact EndI.mk fun w9 h9 => rfl
 rw [if_neg (fun h => by
  have h3 := of_decide_eq_false h3
  have h4 := of_decide_eq_false h4
  rcases h with h | h | h | h
  ·exact h3 h
  ·exact h4 h
  ·rw [h5] at h; cases h
  ·rw [h6] at h; cases h)]
 exact EndI.mk fun w9 h9 => rfl
theorem clonger_any (l by_ part : List Zn) (cz : Int) (al ab ap : Option Addr) (cl cb cp : Nat) (w : World) (hL : Sl w.heap.size w (.slice al l.length cl) l) (hB : Sl w.heap.size w (.slice ab by_.length cb) by_) (hP : Sl w.heap.size w (.slice ap part.length cp) part) :
 Calls Tryz.prog 92 #[.slice al l.length cl, .slice ab by_.length cb, .slice ap part.length cp, .int .i64 cz] w (Ret w fun v w' => ∃ a1 c1 a2 c2, v = .tuple #[.slice a1 (Cl.longer l by_ part cz).1.length c1, .slice a2 (Cl.longer l by_ part cz).2.1.length c2, .int .i64 (Cl.longer l by_ part cz).2.2] ∧
  Own TZ w.heap.size w' (.slice a1 (Cl.longer l by_ part cz).1.length c1) (Cl.longer l by_ part cz).1 ∧ Own TZ w.heap.size w' (.slice a2 (Cl.longer l by_ part cz).2.1.length c2) (Cl.longer l by_ part cz).2.1) := by
 refine fun_ret 0 w Tryz.func92 (args := [.val (.slice al l.length cl), .val (.slice ab by_.length cb), .val (.slice ap part.length cp), .val (.int .i64 cz)]) rfl rfl ?_
 have st := Stay.first (w := w)
 unfold Cl.longer
 apply CallI.use
 focus (exact fun w2 h2 => zscomp_any by_ part ab ap cb cp w2 (hB.st (st.at h2)) (hP.st (st.at h2)))
 rintro v w2 v2 h2 hB2 ⟨a2, c2, rfl, hO2⟩
 have st := st.nx h2 hB2
 refine Branch.mk (fun z1 => ?_) (fun z1 => ?_)
 ·rw [if_pos (.inl (of_decide_eq_true z1))]
  exact EndI.mk fun w9 h9 => ⟨_, _, _, _, rfl, Own.nil, Own.nil⟩
 have z1' := of_decide_eq_false z1
 refine Branch.mk (fun z2 => ?_) (fun z2 => ?_)
 ·rw [if_pos (.inr (of_decide_eq_true z2))]
  exact EndI.mk fun w9 h9 => ⟨_, _, _, _, rfl, Own.nil, Own.nil⟩
 have z2' := of_decide_eq_false z2
 rw [if_neg (fun h => h.elim z1' z2')]
 apply CallI.use
 focus (exact fun w3 h3 => zsor_any l (Zs.comp by_ part).1 al a2 cl c2 w3 (hL.st (st.at h3)) ((hO2.st (st.at h3)).sl))
 rintro v w3 v3 h3 hB3 ⟨a3, c3, rfl, hO3⟩
 have st := st.nx h3 hB3
 refine Branch.mk (fun z3 => ?_) (fun z3 => ?_)
 ·rw [if_pos (.inl (of_decide_eq_true z3))]
  exact EndI.mk fun w9 h9 => ⟨_, _, _, _, rfl, Own.nil, Own.nil⟩
 have z3' := of_decide_eq_false z3
 refine Branch.mk (fun z4 => ?_) (fun z4 => ?_)
 ·rw [if_pos (.inr (of_decide_eq_true z4))]
  exact EndI.mk fun w9 h9 => ⟨_, _, _, _, rfl, Own.nil, Own.nil⟩
 have z4' := of_decide_eq_false z4
 rw [if_neg (fun h => h.elim z3' z4')]
 exact EndI.mk fun w9 h9 => ⟨_, _, _, _, rfl, (hO3.lower h3.below.size).below (at_belowM h9 (by simp)), ((hO2.st st).lower h2.below.size).below (at_belowM h9 (by simp))⟩
end Go.Proofs.YtanhnllkccldhaaGreat
namespace Go.Proofs.YtanhnllkccldhaaGreat.Eng
set_option linter.unusedVariables false
set_option linter.unusedSimpArgs false
open Go Go.RowKit Go.Shelf Go.Proofs
def SeqStopsV {α : Type} (n : Nat) (P : Program) (g : Nat) (lb : Array Value) (encs : α → Array Value) (V : α → World → Prop) (Kp : World → World → Prop) (S Sp : List α → Prop) (N Bx n₀ : Nat) (w : World) : Prop :=
 ∀ (l : Nat) (J Jx : List α → World → Prop) (W : World), Below w.heap.size w W → (∀ pre A B, J pre A → A.grownBy B (some Bx) → J pre B) → (∀ pre A B, Jx pre A → A.grownBy B none → Jx pre B) →
  (∀ pre x W1, J pre W1 → V x W1 → pre.length < N → YieldAt Fence.wide (n - 1) P l (encs x) W1 fun e W' => (e = .returned (.bool true) ∧ J (pre ++ [x]) W' ∧ Kp W1 W') ∨ (e = .returned (.bool false) ∧ Jx (pre ++ [x]) W' ∧ Below n₀ W1 W')) →
  J [] W → CallsIn Fence.wide n P g (#[.func (.yield l) #[] #[]] ++ lb) W fun e W' => (∃ v, e = .returned v) ∧ ((∃ xs, S xs ∧ J xs W') ∨ (∃ pre, Sp pre ∧ Jx pre W'))
theorem range_lawV {n : Nat} {P : Program} {α : Type} {g : Operand} {ps : Array Tmp} {x y : Code} {Q : Exit → Act → World → Prop} {a : Act} {w : World} (h1 : 1 ≤ n) {gf : Nat} {lb : Array Value}
 (hg : a.eval g = .func (.func gf) #[] lb) (eg : ∀ args w, (callFunc gf args).run P w = .ok (.enter gf args) w) {encs : α → Array Value} {Kp : World → World → Prop} {S Sp : List α → Prop} {N Bx n₀ : Nat}
 {V : α → World → Prop} (hseq : SeqStopsV (n - 1) P gf lb encs V Kp S Sp N Bx n₀ w) (hBx : Bx < w.heap.size) (hKt : ∀ {A B C : World}, Kp A B → Kp B C → Kp A C)
 (hKb : ∀ (W : World) (l : Nat) (o o' : Obj), w.heap.size ≤ l → W.heap[l]? = some o → o.isCells = false → o.isWalk = false → Kp W (W.putObj l o')) (hps : ∀ z, (encs z).size = ps.size)
 (I : List α → World → Prop) (Ix : Code → List α → World → Prop) (Ax : List α → α → Act → World → Prop) (hI : ∀ pre A B row, I pre A → A.grownBy B row → RowB w.heap.size Bx A row → I pre B) (hIx : ∀ c, OwnFrom w.heap.size (Ix c))
 (hAx : ∀ pre z a', OwnFrom w.heap.size (fun (_ : Unit) W => Ax pre z a' W)) (h0 : I [] w) (hIB : ∀ pre A, I pre A → Below n₀ w A) (hIxB : ∀ c pre A, Ix c pre A → Below n₀ w A)
 (hassign : ∀ (l : Nat) (pre : List α) (z : α) (W : World), I pre W → V z W → pre.length < N →
   x.wpIn (Fence.wide.inRound l) (n - 1 - 1) P (fun e a' W' => e = .normal ∧ KeepsFrom w.heap.size W W' ∧ Kp W W' ∧ I pre W' ∧ Ax pre z a' W') { tmps := (ps.zip (encs z)).foldl (fun t (p, v) => t.setIfInBounds p v) a.tmps, defers := [] } W)
 (hbody : ∀ (l : Nat) (pre : List α) (z : α) (a' : Act) (W : World), I pre W → Ax pre z a' W → pre.length < N → y.wpIn (Fence.wide.inRound l) (n - 1 - 1) P (ownPostG w.heap.size Kp I Ix (pre ++ [z]) W) a' W)
 (hdone : ∀ (D : Nat) (xs : List α) (W : World), w.heap.size ≤ D → S xs → I xs W → W.heap[D]? = some (.deferred (some [])) → Q .normal { a with defers := { target := .collected D, args := #[] } :: a.defers } W)
 (hstop : ∀ (D : Nat) (c : Code) (pre : List α) (W : World), w.heap.size ≤ D → Sp pre → Ix c pre W → W.heap[D]? = some (.deferred (some [])) → c.wpIn Fence.wide n P Q { a with defers := { target := .collected D, args := #[] } :: a.defers } W) :
 (Code.rangeFunc g ps x y).wpIn Fence.wide n P Q a w := by
 refine wpIn_rangeFunc fun fn hfn => ?_
 have hro : Fence.wide.round = none := rfl
 rw [hro]
 let lp : LoopState → Option Code → Loop := fun st pe => { state := st, pending := pe, fn, tmps := a.tmps, params := ps, assign := x, body := y, defers := w.heap.size }
 have two : Kept2 w.heap.size (lp .ready none) ((w.alloc (.deferred (some []))).alloc (.loop (lp .ready none))) := by
  constructor
  ·have := World.alloc_heap_new (w.alloc (.deferred (some []))) (.loop (lp .ready none))
   rwa [World.size_alloc] at this
  ·exact (Below.heap_alloc _ _ _ (by simp)).trans (World.alloc_heap_new w _)
 have g1 : w.grownBy (w.alloc (.deferred (some []))) none := World.grownBy_alloc w _ none
 have g2 : (w.alloc (.deferred (some []))).grownBy ((w.alloc (.deferred (some []))).alloc (.loop (lp .ready none))) none := World.grownBy_alloc _ _ none
 have hI1 : I [] ((w.alloc (.deferred (some []))).alloc (.loop (lp .ready none))) := hI _ _ _ none (hI _ _ _ none h0 g1 (fun r e => nomatch e)) g2 (fun r e => nomatch e)
 have hb1 : Below w.heap.size w ((w.alloc (.deferred (some []))).alloc (.loop (lp .ready none))) := (((Below.refl _ w).alloc (Nat.le_refl _) _).alloc (by simp) _)
 have hent : (Instr.enterLoop fn a.tmps ps x y none).run P w = .ok (w.heap.size + 1, [{ target := .collected w.heap.size, args := #[] }]) ((w.alloc (.deferred (some []))).alloc (.loop (lp .ready none))) := run_enterLoop_outer _ _ _ _ _
 generalize (w.alloc (.deferred (some []))).alloc (.loop (lp .ready none)) = W1 at *
 refine ⟨w.heap.size + 1, [{ target := .collected w.heap.size, args := #[] }], W1, { target := .fn (.func gf) lb, args := #[.func (.yield (w.heap.size + 1)) #[] #[]] }, W1, gf,
  #[.func (.yield (w.heap.size + 1)) #[] #[]] ++ lb, W1, hent, by simp only [resolve, hg]; simp [go_sem], fun f' _ => trivial, by simp [invoke, go_sem, eg], fun _ => h1, ?_⟩
 have hS1 : W1.heap.size ≥ w.heap.size := hb1.size
 refine (hseq (w.heap.size + 1) (fun pre W => I pre W ∧ Kept2 w.heap.size (lp .ready none) W) (fun pre W => ∃ c, Ix c pre W ∧ Kept2 w.heap.size (lp .done (some c)) W) W1 hb1
  (fun pre A C h hgr => ⟨hI _ _ _ _ h.1 hgr (fun r e => .inl (by injection e with e; exact e.symm)), h.2.turn hgr (fun r e => by injection e with e; omega)⟩)
  (fun pre A C h hgr => by obtain ⟨c, hc, hk⟩ := h; exact ⟨c, hIx c _ _ _ _ hc hgr (fun r e => nomatch e), hk.turn hgr (fun r e => nomatch e)⟩) ?_ ⟨hI1, two⟩).mono ?_
 ·-- a round
  rintro pre z W ⟨hi, hk⟩ hvz hlen
  refine ⟨fn, _, x, y, run_yield (P := P) (args := encs z) hk.1 (hps z), roundIn_of_wpIn hfn (wpIn_mono (hassign (w.heap.size + 1) pre z W hi hvz hlen) ?_)⟩
  rintro e a' Wa ⟨rfl, kf, kp, hia, hax⟩
  have hka := hk.from kf
  refine ⟨_, run_beginRound hka.1 rfl, ?_⟩
  have hkb := hka.put { lp .ready none with state := .busy }
  have rowL : ∀ {A : World} {o : Loop}, Kept2 w.heap.size o A → RowB w.heap.size Bx A (some (w.heap.size + 1)) := fun {A} {o} h r e => .inr (by injection e with e; subst e; exact ⟨by omega, _, h.1, rfl⟩)
  have own : ∀ {A : World} {o : Loop}, Kept2 w.heap.size o A → ∀ r, some (w.heap.size + 1) = some r → w.heap.size ≤ r ∧ ∃ o' : Obj, A.heap[r]? = some o' ∧ o'.isCells = false := fun {A} {o} h r e => by injection e with e; subst e; exact ⟨by omega, _, h.1, rfl⟩
  have kpb : Kp Wa (Wa.putObj (w.heap.size + 1) (.loop { lp .ready none with state := .busy })) := hKb _ _ _ _ (by omega) hka.1 rfl rfl
  refine wpIn_mono (hbody (w.heap.size + 1) pre z a' _ (hI _ _ _ _ hia (grownBy_putObj' _ _ _) (rowL hka)) (hAx pre z a' () _ _ _ hax (grownBy_putObj' _ _ _) (own hka)) hlen) ?_
  intro e a3 W3 hp
  have fin : ∀ (jump : Option Code), KeepsFrom w.heap.size (Wa.putObj (w.heap.size + 1) (.loop { lp .ready none with state := .busy })) W3 →
   (Instr.endRound (w.heap.size + 1) jump).run P W3 = .ok (.bool jump.isNone) (W3.putObj (w.heap.size + 1) (.loop (lp (if jump.isNone then .ready else .done) jump))) ∧ Kept2 w.heap.size { lp .ready none with state := .busy } W3 := fun jump k3 => by
   have h3 := hkb.from k3
   exact ⟨run_endRound (P := P) jump h3.1, h3⟩
  have bel : ∀ (jump : Option Code) {c : Code}, Ix c (pre ++ [z]) W3 → Kept2 w.heap.size { lp .ready none with state := .busy } W3 → KeepsFrom w.heap.size (Wa.putObj (w.heap.size + 1) (.loop { lp .ready none with state := .busy })) W3 →
   Below n₀ W (W3.putObj (w.heap.size + 1) (.loop (lp (if jump.isNone then .ready else .done) jump))) := fun jump {c} i3 h3 k3 =>
   below_between (hIB _ _ hi) (hIxB _ _ _ (hIx c _ _ _ _ i3 (grownBy_putObj' _ _ _) (own h3))) (by
    have := k3.size
    have := kf.size
    simp only [World.putObj_size] at *
    omega)
  cases e with
  | normal =>
    obtain ⟨k3, p3, i3⟩ := hp
    obtain ⟨hr, h3⟩ := fin none k3
    exact ⟨_, _, hr, .inl ⟨rfl, ⟨hI _ _ _ _ i3 (grownBy_putObj' _ _ _) (rowL h3), h3.put _⟩, hKt kp (hKt (hKt kpb p3) (hKb _ _ _ _ (by omega) h3.1 rfl rfl))⟩⟩
  | ret =>
    obtain ⟨k3, i3⟩ := hp
    obtain ⟨hr, h3⟩ := fin (some .ret) k3
    exact ⟨_, _, hr, .inr ⟨rfl, ⟨.ret, hIx _ _ _ _ _ i3 (grownBy_putObj' _ _ _) (own h3), h3.put _⟩, bel _ i3 h3 k3⟩⟩
  | exit id =>
    obtain ⟨k3, i3⟩ := hp
    obtain ⟨hr, h3⟩ := fin (some (.exit id)) k3
    exact ⟨_, _, hr, .inr ⟨rfl, ⟨.exit id, hIx _ _ _ _ _ i3 (grownBy_putObj' _ _ _) (own h3), h3.put _⟩, bel _ i3 h3 k3⟩⟩
  | goto t =>
    obtain ⟨k3, i3⟩ := hp
    obtain ⟨hr, h3⟩ := fin (some (.goto t)) k3
    exact ⟨_, _, hr, .inr ⟨rfl, ⟨.goto t, hIx _ _ _ _ _ i3 (grownBy_putObj' _ _ _) (own h3), h3.put _⟩, bel _ i3 h3 k3⟩⟩
  | panic ch => exact hp.elim
  | outgrown => exact hp.elim
 ·-- behind the iterator
  rintro e W2 ⟨⟨v, rfl⟩, ⟨xs, hS, hi, hk⟩ | ⟨pre, hSp, c, hi, hk⟩⟩
  ·have hput := hk.put (lp .ready none)
   exact ⟨none, _, run_endLoop (P := P) hk.1 (by simp [lp]), hdone _ xs _ (Nat.le_refl _) hS (hI _ _ _ _ hi (grownBy_putObj' _ _ _) (fun r e => .inr (by injection e with e; subst e; exact ⟨by omega, _, hk.1, rfl⟩))) ((World.putObj_heap_other (by omega)).trans hk.2)⟩
  ·exact ⟨some c, _, run_endLoop (P := P) hk.1 (by simp [lp]), hstop _ c pre _ (Nat.le_refl _) hSp (hIx c _ _ _ _ hi (grownBy_putObj' _ _ _) (fun r e => by injection e with e; subst e; exact ⟨by omega, _, hk.1, rfl⟩)) ((World.putObj_heap_other (by omega)).trans hk.2)⟩
section
variable {cx : Cx} {w0 : Base}
theorem rangeV (hcx : CxOk cx) {n : Nat} (h1 : 1 ≤ n) {s : St} {a : Act} {w : World} (hR : Rel w0 s a w) {g : Operand} {ps : Array Tmp} {x y : Code} {K : Exit → St → Prop} {gf : Nat} {lb : Array Value}
 (hg : ev s.fr g = .val (.func (.func gf) #[] lb)) (eg : Enters cx.P gf)
 {α : Type} {encs : α → List Value} {Kp : World → World → Prop} {S Sp : List α → Prop} {N Bx : Nat} {V : α → World → Prop} (hseq : SeqStopsV (n - 1) cx.P gf lb (fun x => (encs x).toArray) V Kp S Sp N Bx w0.B w) (hVo : ∀ z, OwnFrom w.heap.size (fun (_ : Unit) W => V z W)) (hBx : Bx < w.heap.size) (hBx0 : w0.B ≤ Bx) (hBxr : Bx ∉ s.r)
 (hKt : ∀ {A B C : World}, Kp A B → Kp B C → Kp A C) (hKb : ∀ (W : World) (l : Nat) (o o' : Obj), w.heap.size ≤ l → W.heap[l]? = some o → o.isCells = false → o.isWalk = false → Kp W (W.putObj l o'))
 (hps : ∀ x, (encs x).length = ps.size)
 {γ : Type} (hpf : γ → List LB) (Φ : List α → γ → World → Prop) (hΦ : ∀ c pre A B row, Φ pre c A → A.grownBy B row → RowB w.heap.size Bx A row → Φ pre c B) (c0 : γ) (hp0 : hpf c0 = s.hp) (hΦ0 : Φ [] c0 w)
 (Ix : Code → List α → γ → World → Prop) (hpx : Code → γ → List LB) (hIx : ∀ c q, OwnFrom w.heap.size (fun pre W => Ix c pre q W))
 (frx : α → Fr) (hpa : α → List LB) (Ψ : γ → List Nat → Prop)
 (hassign : ∀ l pre z c W, Φ pre c W → V z W → Below w0.B w0.W W → w.heap.size ≤ W.heap.size → pre.length < N → codeD (Fence.wide.inRound l) (n - 1 - 1) cx w0 x
   (fun e s' => e = .normal ∧ s'.on fun fr2 hp2 r2 L2 w2 df2 => ∃ bs, bs.length = (hpa z).length ∧ Ψ c bs ∧ Need (fr2 = frx z ∧ hp2 = hpf c ++ hpa z ∧ r2 = s.r ++ bs ∧ df2 = []) (EndI w0 hp2 r2 L2 w2 undef fun _ w1 => KeepsFrom w.heap.size W w1 ∧ Kp W w1 ∧ Φ pre c w1 ∧ V z w1)) ⟨setP s.fr ps.toList (encs z), hpf c, s.r, [], W, []⟩)
 (hbody : ∀ l pre x c bs W, bs.length = (hpa x).length → Ψ c bs → Φ pre c W → V x W → Below w0.B w0.W W → w.heap.size ≤ W.heap.size → pre.length < N → codeD (Fence.wide.inRound l) (n - 1 - 1) cx w0 y
   (fun e s' => match e with
     | .normal => s'.on fun fr2 hp2 r2 L2 w2 df2 => ∃ c', Need (CovH (hpf c') s.r ⟨fr2, hp2, r2, L2, w2, df2⟩) (EndI w0 hp2 r2 L2 w2 undef fun _ w1 => KeepsFrom w.heap.size W w1 ∧ Kp W w1 ∧ Φ (pre ++ [x]) c' w1)
     | .ret => s'.on fun fr2 hp2 r2 L2 w2 df2 => ∃ c', Need (CovH (hpx .ret c') s.r ⟨fr2, hp2, r2, L2, w2, df2⟩) (EndI w0 hp2 r2 L2 w2 undef fun _ w1 => KeepsFrom w.heap.size W w1 ∧ Ix .ret (pre ++ [x]) c' w1)
     | .exit id => s'.on fun fr2 hp2 r2 L2 w2 df2 => ∃ c', Need (CovH (hpx (.exit id) c') s.r ⟨fr2, hp2, r2, L2, w2, df2⟩) (EndI w0 hp2 r2 L2 w2 undef fun _ w1 => KeepsFrom w.heap.size W w1 ∧ Ix (.exit id) (pre ++ [x]) c' w1)
     | _ => False) ⟨frx x, hpf c ++ hpa x, s.r ++ bs, [], W, []⟩)
 (hdone : ∀ D xs c W, w.heap.size ≤ D → S xs → Φ xs c W → W.heap[D]? = some (.deferred (some [])) → K .normal ⟨s.fr, hpf c, s.r, [], W, { target := .collected D, args := #[] } :: s.df⟩)
 (hstop : ∀ D c e pre q W, w.heap.size ≤ D → Sp pre → Ix c pre q W → exitOf c = some e → W.heap[D]? = some (.deferred (some [])) → K e ⟨s.fr, hpx c q, s.r, [], W, { target := .collected D, args := #[] } :: s.df⟩) :
 (Code.rangeFunc g ps x y).wpIn Fence.wide n cx.P (fun e a' w' => ∃ s', Rel w0 s' a' w' ∧ K e s') a w := by
 have hev := hR.ev1 hg (by simp) []
 simp only [SV.den] at hev
 have hB : w0.B ≤ w.heap.size := Nat.le_trans w0.le hR.at_.below.size
 have withD : ∀ {hp : List LB} {W : World} (D : Nat), Rel w0 ⟨s.fr, hp, s.r, [], W, s.df⟩ a W → Rel w0 ⟨s.fr, hp, s.r, [], W, { target := .collected D, args := #[] } :: s.df⟩ { a with defers := { target := .collected D, args := #[] } :: a.defers } W := fun {hp} {W} D h =>
  ⟨congrArg (_ :: ·) h.df, h.fits, ⟨h.at_.below, h.at_.size, h.at_.step, h.at_.blk, h.at_.fresh, h.at_.lt, h.at_.base⟩, h.blk, h.nod, h.len⟩
 have inner : ∀ {hp : List LB} {W : World} {a' : Act} {fr : Fr}, Rel w0 ⟨s.fr, hp, s.r, [], W, s.df⟩ a W → a'.defers = [] → (∀ t, Fits (s.r ++ t) fr a'.tmps) → Rel w0 ⟨fr, hp, s.r, [], W, []⟩ a' W := fun {hp} {W} {a'} {fr} h hd hf =>
  ⟨hd, hf, ⟨h.at_.below, h.at_.size, h.at_.step, h.at_.blk, h.at_.fresh, h.at_.lt, h.at_.base⟩, h.blk, h.nod, h.len⟩
 have rowO : ∀ {A : World} {row : Option Nat}, (∀ r, row = some r → w.heap.size ≤ r ∧ ∃ o : Obj, A.heap[r]? = some o ∧ o.isCells = false) → RowB w.heap.size Bx A row := fun h r e => .inr (h r e)
 refine range_lawV h1 hev eg hseq hBx hKt hKb (fun z => by simp [hps]) (fun pre W => ∃ c, Rel w0 ⟨s.fr, hpf c, s.r, [], W, s.df⟩ a W ∧ w.heap.size ≤ W.heap.size ∧ Φ pre c W)
  (fun c pre W => (∃ e, exitOf c = some e) ∧ ∃ q, Rel w0 ⟨s.fr, hpx c q, s.r, [], W, s.df⟩ a W ∧ Ix c pre q W ∧ w.heap.size ≤ W.heap.size)
  (fun pre z a' W => V z W ∧ ∃ c bs, (bs.length = (hpa z).length ∧ Ψ c bs) ∧ Rel w0 ⟨s.fr, hpf c, s.r, [], W, s.df⟩ a W ∧ Rel w0 ⟨frx z, hpf c ++ hpa z, s.r ++ bs, [], W, []⟩ a' W ∧ w.heap.size ≤ W.heap.size ∧ Φ pre c W) ?_ ?_ ?_ ?_ (fun pre A ⟨c, hr, hs, hf⟩ => below_between hR.at_.below hr.at_.below hs) (fun c pre A ⟨_, q, hr, hx, hs⟩ => below_between hR.at_.below hr.at_.below hs) ?_ ?_ ?_ ?_
 ·rintro pre A C row ⟨c, hr, hs, hf⟩ hgr hrow
  exact ⟨c, hr.keep (rel_turn hr hB hBx0 hBxr hgr hrow), Nat.le_trans hs hgr.size, hΦ c pre A C row hf hgr hrow⟩
 ·rintro c pre A C row ⟨h0, q, hr, hx, hs⟩ hgr hrow
  exact ⟨h0, q, hr.keep (grown_keep hr hB hgr hrow), hIx c q pre A C row hx hgr hrow, Nat.le_trans hs hgr.size⟩
 ·rintro pre z a' _ A C row ⟨hvz, c, bs, hl, hr, hr2, hs, hf⟩ hgr hrow
  exact ⟨hVo z () A C row hvz hgr hrow, c, bs, hl, hr.keep (grown_keep hr hB hgr hrow), hr2.keep (grown_keep hr2 hB hgr hrow), Nat.le_trans hs hgr.size, hΦ c pre A C row hf hgr (rowO hrow)⟩
 ·refine ⟨c0, ?_, Nat.le_refl _, hΦ0⟩
  have h0 := hR.keep keep_refl
  rw [hp0]; exact h0
 ·rintro l pre z W ⟨c, hr, hs, hf⟩ hvz hN
  have hr1 := rel_sets (w0 := w0) (s := ⟨s.fr, hpf c, s.r, [], W, []⟩) (a := ⟨a.tmps, []⟩) (inner hr rfl hr.fits) ps.toList (encs z)
  have e1 : (ps.zip (encs z).toArray).foldl (fun (t : Array Value) (x : Nat × Value) => t.setIfInBounds x.1 x.2) a.tmps = sets a.tmps ps.toList (encs z) := by
   rw [← sets_eq]
  show x.wpIn _ _ _ _ ({ tmps := (ps.zip (encs z).toArray).foldl (fun (t : Array Value) (x : Nat × Value) => t.setIfInBounds x.1 x.2) a.tmps, defers := [] } : Act) W
  rw [e1]
  refine codeD_round hcx l _ _ _ _ _ W _ (hassign l pre z c W hf hvz hr.at_.below hs hN) hr1 ?_
  rintro e s' a' W' ⟨rfl, hK⟩ hR'
  obtain ⟨fr2, hp2, r2, L2, w2, df2⟩ := s'
  rw [St.on_eq] at hK
  obtain ⟨bs, hl, hψ, ⟨e1, e2, e3, e4⟩, h2⟩ := hK
  simp only at e1 e2 e3 e4
  subst e1; subst e2; subst e3; subst e4
  obtain ⟨k1, k2, k3, k4⟩ := h2.h W' hR'.at_
  have hcov : Keep w0 s.r W W' := by
   refine ⟨?_, fun b hb => ?_⟩
   ·exact ⟨hR'.at_.below.os.trans hr.at_.below.os.symm, hR'.at_.below.tape.trans hr.at_.below.tape.symm, hR'.at_.below.output.trans hr.at_.below.output.symm, k1.size, fun k hk => (hR'.at_.below.block k hk).trans (hr.at_.below.block k hk).symm⟩
   ·obtain ⟨i, hi, hib⟩ := List.getElem_of_mem hb
    have hil : i < (hpf c).length := by have := hr.len; simp only at this; omega
    have g1 := hr.blk [] i b (hpf c)[i] (by show s.r[i]? = _; rw [List.getElem?_eq_getElem hi, hib]) (by show hget (hpf c) i = _; rw [hget_eq, List.getElem?_eq_getElem hil])
    have g2 := hR'.blk [] i b (hpf c)[i] (by show (s.r ++ bs)[i]? = _; rw [List.getElem?_append_left hi, List.getElem?_eq_getElem hi, hib]) (by show hget (hpf c ++ hpa z) i = _; rw [hget_eq, List.getElem?_append_left hil, List.getElem?_eq_getElem hil])
    have g3 := hr.blk bs i b (hpf c)[i] (by show s.r[i]? = _; rw [List.getElem?_eq_getElem hi, hib]) (by show hget (hpf c) i = _; rw [hget_eq, List.getElem?_eq_getElem hil])
    simp only [List.append_nil] at g1 g2
    rw [g2, ← g3]
  exact ⟨rfl, k1, k2, ⟨c, hr.keep hcov, Nat.le_trans hs k1.size, k3⟩, k4, c, bs, ⟨hl, hψ⟩, hr.keep hcov, hR'.keep keep_refl, Nat.le_trans hs k1.size, k3⟩
 ·rintro l pre z a' W _ ⟨hvz, c, bs, hl, hr, hr2, hs, hf⟩ hN
  refine codeD_round hcx l _ y _ _ _ W _ (hbody l pre z c bs W hl.1 hl.2 hf hvz hr.at_.below hs hN) hr2 ?_
  intro e s' a2 w1 hK hR'
  cases e with
  | normal =>
    simp only [St.on_eq] at hK
    obtain ⟨c', h1, h2⟩ := hK
    obtain ⟨h3, h4, h5⟩ := h2.h w1 hR'.at_
    exact ⟨h3, h4, c', covH_rel (s := ⟨s.fr, hpf c, s.r, [], W, s.df⟩) hr hR' h1, Nat.le_trans hs h3.size, h5⟩
  | ret =>
    simp only [St.on_eq] at hK
    obtain ⟨c', h1, h2⟩ := hK
    obtain ⟨h3, h5⟩ := h2.h w1 hR'.at_
    exact ⟨h3, ⟨_, rfl⟩, c', covH_rel (s := ⟨s.fr, hpf c, s.r, [], W, s.df⟩) hr hR' h1, h5, Nat.le_trans hs h3.size⟩
  | exit id =>
    simp only [St.on_eq] at hK
    obtain ⟨c', h1, h2⟩ := hK
    obtain ⟨h3, h5⟩ := h2.h w1 hR'.at_
    exact ⟨h3, ⟨_, rfl⟩, c', covH_rel (s := ⟨s.fr, hpf c, s.r, [], W, s.df⟩) hr hR' h1, h5, Nat.le_trans hs h3.size⟩
  | goto l => exact hK.elim
  | panic ch => exact hK.elim
  | outgrown => exact hK.elim
 ·rintro D xs W hD hS ⟨c, hr, hs, hf⟩ hd
  exact ⟨_, withD D hr, hdone D xs c W hD hS hf hd⟩
 ·intro D c pre W hD hS hI hd
  obtain ⟨⟨e, he⟩, q, hRx, hix, hs⟩ := hI
  have hk := hstop D c e pre q W hD hS hix he hd
  cases c <;> simp only [exitOf] at he <;> try (cases he; done)
  ·injection he with he; subst he; exact wpIn_exit ⟨_, withD D hRx, hk⟩
  ·injection he with he; subst he; exact wpIn_ret ⟨_, withD D hRx, hk⟩
theorem rangeVu (hcx : CxOk cx) {n : Nat} (h1 : 1 ≤ n) {s : St} {a : Act} {w : World} (hR : Rel w0 s a w) {g : Operand} {ps : Array Tmp} {x y : Code} {K : Exit → St → Prop} {gf : Nat} {lb : Array Value}
 (hg : ev s.fr g = .val (.func (.func gf) #[] lb)) (eg : Enters cx.P gf)
 {α : Type} {encs : α → List Value} {Kp : World → World → Prop} {S Sp : List α → Prop} {N Bx : Nat} {V : α → World → Prop} (hseq : SeqStopsV (n - 1) cx.P gf lb (fun x => (encs x).toArray) V Kp S Sp N Bx w0.B w) (hVo : ∀ z, OwnFrom w.heap.size (fun (_ : Unit) W => V z W)) (hBx : Bx < w.heap.size) (hBx0 : w0.B ≤ Bx) (hBxr : Bx ∉ s.r)
 (hKt : ∀ {A B C : World}, Kp A B → Kp B C → Kp A C) (hKb : ∀ (W : World) (l : Nat) (o o' : Obj), w.heap.size ≤ l → W.heap[l]? = some o → o.isCells = false → o.isWalk = false → Kp W (W.putObj l o'))
 (hps : ∀ x, (encs x).length = ps.size)
 {γ : Type} (hpf : γ → List LB) (Φ : List α → γ → World → Prop) (hΦ : ∀ c pre A B row, Φ pre c A → A.grownBy B row → RowB w.heap.size Bx A row → Φ pre c B) (c0 : γ) (hp0 : hpf c0 = s.hp) (hΦ0 : Φ [] c0 w)
 (Ix : Code → List α → γ → World → Prop) (hpx : Code → γ → List LB) (hIx : ∀ c q, OwnFrom w.heap.size (fun pre W => Ix c pre q W))
 (upd : α → List (Nat × SV)) (hpa : α → List LB) (Ψ : γ → List Nat → Prop)
 (hassign : ∀ l pre z c W, Φ pre c W → V z W → Below w0.B w0.W W → w.heap.size ≤ W.heap.size → pre.length < N → codeD (Fence.wide.inRound l) (n - 1 - 1) cx w0 x
   (fun e s' => e = .normal ∧ s'.on fun fr2 hp2 r2 L2 w2 df2 => ∃ bs, bs.length = (hpa z).length ∧ Ψ c bs ∧ Need (fr2 = setM (setP s.fr ps.toList (encs z)) (upd z) ∧ hp2 = hpf c ++ hpa z ∧ r2 = s.r ++ bs ∧ df2 = []) (EndI w0 hp2 r2 L2 w2 undef fun _ w1 => KeepsFrom w.heap.size W w1 ∧ Kp W w1 ∧ Φ pre c w1 ∧ V z w1)) ⟨setP s.fr ps.toList (encs z), hpf c, s.r, [], W, []⟩)
 (hbody : ∀ l pre x c bs W, bs.length = (hpa x).length → Ψ c bs → Φ pre c W → V x W → Below w0.B w0.W W → w.heap.size ≤ W.heap.size → pre.length < N → codeD (Fence.wide.inRound l) (n - 1 - 1) cx w0 y
   (fun e s' => match e with
     | .normal => s'.on fun fr2 hp2 r2 L2 w2 df2 => ∃ c', Need (CovH (hpf c') s.r ⟨fr2, hp2, r2, L2, w2, df2⟩) (EndI w0 hp2 r2 L2 w2 undef fun _ w1 => KeepsFrom w.heap.size W w1 ∧ Kp W w1 ∧ Φ (pre ++ [x]) c' w1)
     | .ret => s'.on fun fr2 hp2 r2 L2 w2 df2 => ∃ c', Need (CovH (hpx .ret c') s.r ⟨fr2, hp2, r2, L2, w2, df2⟩) (EndI w0 hp2 r2 L2 w2 undef fun _ w1 => KeepsFrom w.heap.size W w1 ∧ Ix .ret (pre ++ [x]) c' w1)
     | .exit id => s'.on fun fr2 hp2 r2 L2 w2 df2 => ∃ c', Need (CovH (hpx (.exit id) c') s.r ⟨fr2, hp2, r2, L2, w2, df2⟩) (EndI w0 hp2 r2 L2 w2 undef fun _ w1 => KeepsFrom w.heap.size W w1 ∧ Ix (.exit id) (pre ++ [x]) c' w1)
     | _ => False) ⟨setM (setP s.fr ps.toList (encs x)) (upd x), hpf c ++ hpa x, s.r ++ bs, [], W, []⟩)
 (hdone : ∀ D xs c W, w.heap.size ≤ D → S xs → Φ xs c W → W.heap[D]? = some (.deferred (some [])) → K .normal ⟨s.fr, hpf c, s.r, [], W, { target := .collected D, args := #[] } :: s.df⟩)
 (hstop : ∀ D c e pre q W, w.heap.size ≤ D → Sp pre → Ix c pre q W → exitOf c = some e → W.heap[D]? = some (.deferred (some [])) → K e ⟨s.fr, hpx c q, s.r, [], W, { target := .collected D, args := #[] } :: s.df⟩) :
 (Code.rangeFunc g ps x y).wpIn Fence.wide n cx.P (fun e a' w' => ∃ s', Rel w0 s' a' w' ∧ K e s') a w :=
 rangeV hcx h1 hR hg eg hseq hVo hBx hBx0 hBxr (fun h k => hKt h k) hKb hps hpf Φ hΦ c0 hp0 hΦ0 Ix hpx hIx (fun z => setM (setP s.fr ps.toList (encs z)) (upd z)) hpa Ψ hassign hbody hdone hstop
end
end Go.Proofs.YtanhnllkccldhaaGreat.Eng
namespace Go.Proofs.YtanhnllkccldhaaGreat
set_option linter.unusedVariables false
set_option linter.unusedSimpArgs false
set_option maxRecDepth 100000
open Go.RowKit Go.Proofs.YtanhnllkccldhaaGreat.Eng Enc
namespace Cl
def go (part : List Zn) (cz : Int) : Nat → List Zn → List Zn → List (List Zn × Int)
 | 0, all, _ => if all.length = 0 then [] else [([], 301)]
 | k + 1, all, last => if all.length = 0 then [] else (all, 0) :: (if (longer all last part cz).2.2 ≠ 0 then [([], (longer all last part cz).2.2)] else if (Cv.all_ (longer all last part cz).2.1 all).1 = true then [] else go part cz k (longer all last part cz).1 (longer all last part cz).2.1)
theorem go_succ (part : List Zn) (cz : Int) (k : Nat) (all last : List Zn) : go part cz (k + 1) all last = if all.length = 0 then [] else (all, 0) :: (if (longer all last part cz).2.2 ≠ 0 then [([], (longer all last part cz).2.2)] else if (Cv.all_ (longer all last part cz).2.1 all).1 = true then [] else go part cz k (longer all last part cz).1 (longer all last part cz).2.1) := rfl
theorem go_len (part : List Zn) (cz : Int) : ∀ (k : Nat) (all last : List Zn), (go part cz k all last).length ≤ k + 1
 | 0, all, last => by unfold go; split <;> simp
 | k + 1, all, last => by
   rw [go_succ]
   split
   ·simp
   ·simp only [List.length_cons]
    split
    ·simp
    ·split
     ·simp
     ·have := go_len part cz k (longer all last part cz).1 (longer all last part cz).2.1
      omega
def seq (old part : List Zn) (cz cr : Int) : List (List Zn × Int) :=
 if cz < (part.length : Int) then [([], 300)] else if (longer part old part cz).2.2 ≠ 0 then [([], (longer part old part cz).2.2)] else go part cz cr.toNat (longer part old part cz).1 (longer part old part cz).1
structure RV where
 a : Option Addr
 c : Nat
 l : List Zn
 e : Int
def encV (x : RV) : List Value := [.slice x.a x.l.length x.c, .int .i64 x.e]
def rv (x : RV) : List Zn × Int := (x.l, x.e)
def V (n₁ : Nat) (x : RV) (W : World) : Prop := Own TZ n₁ W (.slice x.a x.l.length x.c) x.l
def KpR (n₀ n₁ : Nat) (R : List Nat) (W W' : World) : Prop := Below n₀ W W' ∧ (∀ k, k < n₁ → k ∉ R → W'.heap[k]? = W.heap[k]?) ∧ ∀ (k : Nat) (cs : Array Value) (f : Nat × Nat), W.heap[k]? = some (.cells cs TZ f) → W'.heap[k]? = W.heap[k]?
theorem V.kp {n₀ n₁ : Nat} {R : List Nat} {x : RV} {W X : World} (h : V n₁ x W) (k : KpR n₀ n₁ R W X) : V n₁ x X := by
 obtain ⟨hl, h0 | ⟨g, cap, cur, e1, e2, e3, e4⟩⟩ := h
 ·exact ⟨hl, .inl h0⟩
 ·exact ⟨hl, .inr ⟨g, cap, cur, e1, e2, (k.2.2 g _ _ e3).trans e3, e4⟩⟩
abbrev TZs : TypeId := 22
abbrev TCaps : TypeId := 54
structure Rd (n₀ n₁ Bo Bp Bc : Nat) (vo vp : Value) (cz cr : Int) (W X : World) : Prop where
 below : Below n₀ W X
 size : n₁ ≤ X.heap.size
 bo : X.heap[Bo]? = some (.cells #[vo] TZs (0, 0))
 bp : X.heap[Bp]? = some (.cells #[vp] TZs (0, 0))
 bc : X.heap[Bc]? = some (.cells #[.int .i64 cz, .int .i64 cr] TCaps (0, 0))
theorem Rd.go {n₀ n₁ Bo Bp Bc : Nat} {vo vp : Value} {cz cr : Int} {W X Y : World} (h : Rd n₀ n₁ Bo Bp Bc vo vp cz cr W X) (hn : n₀ ≤ n₁) (hB : Below X.heap.size X Y) : Rd n₀ n₁ Bo Bp Bc vo vp cz cr W Y :=
 ⟨h.below.trans (hB.mono (Nat.le_trans hn h.size)), Nat.le_trans h.size hB.size, (hB.block _ (Array.getElem?_eq_some_iff.1 h.bo).1).trans h.bo, (hB.block _ (Array.getElem?_eq_some_iff.1 h.bp).1).trans h.bp, (hB.block _ (Array.getElem?_eq_some_iff.1 h.bc).1).trans h.bc⟩
theorem Rd.kp {n₀ n₁ Bo Bp Bc : Nat} {vo vp : Value} {cz cr : Int} {R : List Nat} {W X Y : World} (h : Rd n₀ n₁ Bo Bp Bc vo vp cz cr W X) (h1 : Bo < n₁ ∧ Bo ∉ R) (h2 : Bp < n₁ ∧ Bp ∉ R) (h3 : Bc < n₁ ∧ Bc ∉ R) (k : KpR n₀ n₁ R X Y) : Rd n₀ n₁ Bo Bp Bc vo vp cz cr W Y :=
 ⟨h.below.trans k.1, Nat.le_trans h.size k.1.size, (k.2.1 _ h1.1 h1.2).trans h.bo, (k.2.1 _ h2.1 h2.2).trans h.bp, (k.2.1 _ h3.1 h3.2).trans h.bc⟩
end Cl
theorem Cl.Rd.cell {n₀ n₁ Bo Bp Bc : Nat} {vo vp : Value} {cz cr : Int} {W X : World} (h : Cl.Rd n₀ n₁ Bo Bp Bc vo vp cz cr W X) : X.cell? ⟨Bo, 0, none⟩ = some vo ∧ X.cell? ⟨Bp, 0, none⟩ = some vp ∧ X.cell? ((⟨Bc, 0, none⟩ : Addr).add 0) = some (.int .i64 cz) ∧ X.cell? ((⟨Bc, 0, none⟩ : Addr).add 1) = some (.int .i64 cr) := by
 refine ⟨?_, ?_, ?_, ?_⟩
 ·simp [World.cell?, h.bo]
 ·simp [World.cell?, h.bp]
 ·simp [World.cell?, Addr.add, h.bc]
 ·simp [World.cell?, Addr.add, h.bc]
theorem crounds_at (ao ap : Option Addr) (lo lp co cp : Nat) (cz cr : Int) (w : World) :
 Calls Tryz.prog 53 #[.slice ao lo co, .slice ap lp cp, .agg #[.int .i64 cz, .int .i64 cr]] w fun e w' => e = .returned (.func (.func 91) #[] #[.pointer (some ⟨w.heap.size + 1, 0, none⟩), .pointer (some ⟨w.heap.size + 2, 0, none⟩), .pointer (some ⟨w.heap.size, 0, none⟩)]) ∧ w' = ((w.alloc (.cells #[.slice ao lo co] Cl.TZs)).alloc (.cells #[.slice ap lp cp] Cl.TZs)).alloc (.cells #[.int .i64 cz, .int .i64 cr] Cl.TCaps) := by
 go_enter Tryz.func53, Tryz.ntmps53
 go_wp2
 go_ret
 exact ⟨by simp, rfl⟩
set_option maxHeartbeats 4000000 in
open Cl in
theorem rounds_stops (n Bo Bp Bc n₀ n₁ : Nat) (R : List Nat) (old part : List Zn) (ao ap : Option Addr) (co cp : Nat) (cz cr : Int) (hcz : 1 ≤ cz ∧ cz ≤ 4096) (hcr : 1 ≤ cr ∧ cr ≤ 4096) (w : World) (hn : n₀ ≤ n₁) (hn1 : n₁ ≤ w.heap.size)
 (hRo : Bo < n₁ ∧ Bo ∉ R) (hRp : Bp < n₁ ∧ Bp ∉ R) (hRc : Bc < n₁ ∧ Bc ∉ R)
 (ho : w.heap[Bo]? = some (.cells #[.slice ao old.length co] TZs (0, 0))) (hp : w.heap[Bp]? = some (.cells #[.slice ap part.length cp] TZs (0, 0))) (hc : w.heap[Bc]? = some (.cells #[.int .i64 cz, .int .i64 cr] TCaps (0, 0)))
 (hO : Sl n₀ w (.slice ao old.length co) old) (hP : Sl n₀ w (.slice ap part.length cp) part) :
 SeqStopsV n Tryz.prog 91 #[.pointer (some ⟨Bp, 0, none⟩), .pointer (some ⟨Bc, 0, none⟩), .pointer (some ⟨Bo, 0, none⟩)] (fun x => (encV x).toArray) (V n₁) (KpR n₀ n₁ R) (fun xs => xs.map rv = seq old part cz cr) (fun pre => pre.map rv <+: seq old part cz cr) 4100 Bc n₀ w := fun l J Jx W hW hJ hJx hY h0 => by
 have hsz := hW.size
 have hn0 : n₀ ≤ W.heap.size := by omega
 refine (fun_in n n₀ W hn0 Tryz.func91 (args := [.val (.func (.yield l) #[] #[]), .val (.pointer (some ⟨Bp, 0, none⟩)), .val (.pointer (some ⟨Bc, 0, none⟩)), .val (.pointer (some ⟨Bo, 0, none⟩))]) (R := fun _ W' => (∃ xs : List RV, xs.map rv = seq old part cz cr ∧ J xs W') ∨ (∃ pre : List RV, pre.map rv <+: seq old part cz cr ∧ Jx pre W')) rfl rfl ?_).mono ?_
 case refine_2 =>
  rintro e W' ⟨v, rfl, _, h⟩
  exact ⟨⟨_, rfl⟩, h⟩
 have hOW := hO.below (hW.mono (by omega))
 have hPW := hP.below (hW.mono (by omega))
 have rd : Rd n₀ n₁ Bo Bp Bc (.slice ao old.length co) (.slice ap part.length cp) cz cr W W := ⟨Below.refl _ _, by omega, (hW.block _ (by omega)).trans ho, (hW.block _ (by omega)).trans hp, (hW.block _ (by omega)).trans hc⟩
 have slO : ∀ X, Below n₀ W X → n₀ ≤ X.heap.size → Sl X.heap.size X (.slice ao old.length co) old := fun X hX hs => hOW.go hX hs
 have slP : ∀ X, Below n₀ W X → n₀ ≤ X.heap.size → Sl X.heap.size X (.slice ap part.length cp) part := fun X hX hs => hPW.go hX hs
 have jg : ∀ {pre A B}, J pre A → Below A.heap.size A B → J pre B := fun {pre A B} h hB => hJ _ _ _ h (below_grown hB _)
 have atB : ∀ {hp : List LB} {X Y : World}, At ⟨W, n₀, hn0⟩ hp [] [] X Y → Below X.heap.size X Y := fun {hp X Y} h => at_below h (by simp)
 unfold seq
 obtain ⟨c1, c2, c3, c4⟩ := rd.cell
 refine LoadI.mk ⟨_, ⟨c2, by simp⟩, ?_⟩
 refine LoadI.mk ⟨_, ⟨c3, by simp⟩, ?_⟩
 refine Branch.mk (fun z1 => ?_) (fun z1 => ?_)
 ·rw [if_pos (of_decide_eq_true z1)]
  refine ⟨fun w5 h5 => ?_⟩
  have hB5 := atB h5
  refine (hY [] ⟨none, 0, [], 300⟩ w5 (jg h0 hB5) Own.nil (by simp)).mono ?_
  rintro e v5 (⟨rfl, hj6, hk5⟩ | ⟨rfl, hx5, hk5⟩)
  ·refine ⟨_, rfl, (rd.go hn hB5).below.trans hk5.1, ?_⟩
   exact EndI.mk fun w6 h6 => .inl ⟨[⟨none, 0, [], 300⟩], rfl, jg hj6 (atB h6)⟩
  ·refine ⟨_, rfl, (rd.go hn hB5).below.trans hk5, ?_⟩
   exact EndI.mk fun w6 h6 => .inr ⟨[⟨none, 0, [], 300⟩], List.prefix_refl _, hJx _ _ _ hx5 (at_grown h6 (by simp) _)⟩
 rw [if_neg (of_decide_eq_false z1)]
 refine LoadI.mk ⟨_, ⟨c2, by simp⟩, ?_⟩
 refine LoadI.mk ⟨_, ⟨c1, by simp⟩, ?_⟩
 refine LoadI.mk ⟨_, ⟨c2, by simp⟩, ?_⟩
 refine LoadI.mk ⟨_, ⟨c3, by simp⟩, ?_⟩
 apply CallI.use
 focus (exact fun w3 h3 => clonger_any part old part cz ap ao ap cp co cp w3 (slP w3 (rd.go hn (atB h3)).below (Nat.le_trans hn (rd.go hn (atB h3)).size)) (slO w3 (rd.go hn (atB h3)).below (Nat.le_trans hn (rd.go hn (atB h3)).size)) (slP w3 (rd.go hn (atB h3)).below (Nat.le_trans hn (rd.go hn (atB h3)).size)))
 rintro v w3 v3 h3 hB3 ⟨a1, k1, a2, k2, rfl, hO1, hO2⟩
 have rd3 := (rd.go hn (atB h3)).go hn hB3
 have j3 := jg (jg h0 (atB h3)) hB3
 have hs3 := (rd.go hn (atB h3)).size
 generalize longer part old part cz = Y at hO1 hO2 ⊢
 obtain ⟨A, Mo, E⟩ := Y
 simp only at hO1 hO2 ⊢
 refine Branch.mk (fun z2 => ?_) (fun z2 => ?_)
 ·rw [if_pos (of_decide_eq_true z2)]
  refine ⟨fun w5 h5 => ?_⟩
  have hB5 := atB h5
  refine (hY [] ⟨none, 0, [], E⟩ w5 (jg j3 hB5) Own.nil (by simp)).mono ?_
  rintro e v5 (⟨rfl, hj6, hk5⟩ | ⟨rfl, hx5, hk5⟩)
  ·refine ⟨_, rfl, (rd3.go hn hB5).below.trans hk5.1, ?_⟩
   exact EndI.mk fun w6 h6 => .inl ⟨[⟨none, 0, [], E⟩], rfl, jg hj6 (atB h6)⟩
  ·refine ⟨_, rfl, (rd3.go hn hB5).below.trans hk5, ?_⟩
   exact EndI.mk fun w6 h6 => .inr ⟨[⟨none, 0, [], E⟩], List.prefix_refl _, hJx _ _ _ hx5 (at_grown h6 (by simp) _)⟩
 rw [if_neg (of_decide_eq_false z2)]
 obtain ⟨K, hK⟩ : ∃ K : Nat, cr = K := ⟨cr.toNat, by omega⟩
 subst hK
 rw [Int.toNat_natCast]
 refine LoopI.invC (α := (Nat × RV × RV × List RV) × World) (fun y => [(5, .val (.slice y.1.2.1.a y.1.2.1.l.length y.1.2.1.c)), (8, .val (.slice y.1.2.2.1.a y.1.2.2.1.l.length y.1.2.2.1.c)), (9, .val (.int .i64 y.1.1))]) (fun y => y.2)
  (fun y => y.1.1 ≤ K ∧ Rd n₀ n₁ Bo Bp Bc (.slice ao old.length co) (.slice ap part.length cp) cz K W y.2 ∧ V n₁ y.1.2.1 y.2 ∧ V n₁ y.1.2.2.1 y.2 ∧ J y.1.2.2.2 y.2 ∧ y.1.2.2.2.length = y.1.1 ∧ y.1.2.2.2.map rv ++ go part cz (K - y.1.1) y.1.2.1.l y.1.2.2.1.l = go part cz K A A) (fun y => K + 1 - y.1.1) ?_ ?_
 ·intro w5 h5
  have hV := (hO1.lower hs3).below (atB h5)
  exact ⟨((0, ⟨a1, k1, A, 0⟩, ⟨a1, k1, A, 0⟩, []), w5), Cov.au rfl rfl rfl rfl rfl, rfl, Nat.zero_le _, rd3.go hn (atB h5), hV, hV, jg j3 (atB h5), rfl, rfl⟩
 rintro ⟨⟨m, all, last, pre⟩, U⟩ ⟨hm, rdU, hVa, hVl, hj, hlen, hseq⟩
 simp only at hm rdU hVa hVl hj hlen hseq
 obtain ⟨d1, d2, d3, d4⟩ := rdU.cell
 have hglen := go_len part cz K A A
 refine Branch.mk (fun z3 => ?_) (fun z3 => ?_)
 ·have hpos : all.l.length ≠ 0 := by have := of_decide_eq_true z3; simp only at this; omega
  refine LoadI.mk ⟨_, ⟨d4, by simp⟩, ?_⟩
  refine Branch.mk (fun z4 => ?_) (fun z4 => ?_)
  ·have hmK : m = K := by have := of_decide_eq_true z4; simp only at this; omega
   subst hmK
   have hgo : go part cz (m - m) all.l last.l = [([], 301)] := by rw [Nat.sub_self]; unfold go; rw [if_neg hpos]
   rw [hgo] at hseq
   refine ⟨fun w5 h5 => ?_⟩
   have hB5 := atB h5
   refine (hY pre ⟨none, 0, [], 301⟩ w5 (jg hj hB5) Own.nil (by omega)).mono ?_
   rintro e v5 (⟨rfl, hj6, hk5⟩ | ⟨rfl, hx5, hk5⟩)
   ·refine ⟨_, rfl, (rdU.go hn hB5).below.trans hk5.1, ?_⟩
    exact EndI.mk fun w6 h6 => .inl ⟨pre ++ [⟨none, 0, [], 301⟩], by rw [List.map_append]; exact hseq, jg hj6 (atB h6)⟩
   ·refine ⟨_, rfl, (rdU.go hn hB5).below.trans hk5, ?_⟩
    exact EndI.mk fun w6 h6 => .inr ⟨pre ++ [⟨none, 0, [], 301⟩], by rw [List.map_append]; exact ⟨[], by rw [List.append_nil]; exact hseq⟩, hJx _ _ _ hx5 (at_grown h6 (by simp) _)⟩
  have hlt : m < K := by have := of_decide_eq_false z4; simp only at this; omega
  obtain ⟨d, hd⟩ : ∃ d, K - m = d + 1 := ⟨K - m - 1, by omega⟩
  rw [hd, go_succ, if_neg hpos] at hseq
  refine ⟨fun w5 h5 => ?_⟩
  have hB5 := atB h5
  refine (hY pre ⟨all.a, all.c, all.l, 0⟩ w5 (jg hj hB5) (Own.below hVa hB5) (by omega)).mono ?_
  have hmap : (pre ++ [(⟨all.a, all.c, all.l, 0⟩ : RV)]).map rv = pre.map rv ++ [(all.l, 0)] := by rw [List.map_append]; rfl
  rintro e v5 (⟨rfl, hj6, hk5⟩ | ⟨rfl, hx5, hk5⟩)
  case inr =>
   refine ⟨_, rfl, (rdU.go hn hB5).below.trans hk5, ?_⟩
   refine Branch.yes rfl ?_
   exact EndI.mk fun w6 h6 => .inr ⟨pre ++ [⟨all.a, all.c, all.l, 0⟩], by rw [hmap]; exact ⟨_, by rw [List.append_assoc]; exact hseq⟩, hJx _ _ _ hx5 (at_grown h6 (by simp) _)⟩
  refine ⟨_, rfl, (rdU.go hn hB5).below.trans hk5.1, ?_⟩
  refine Branch.no rfl ?_
  have rd5 := (rdU.go hn hB5).kp hRo hRp hRc hk5
  have hVa5 : V n₁ all v5 := V.kp (Own.below hVa hB5) hk5
  have hVl5 : V n₁ last v5 := V.kp (Own.below hVl hB5) hk5
  obtain ⟨e1, e2, e3, e4⟩ := rd5.cell
  refine LoadI.mk ⟨_, ⟨e2, by simp⟩, ?_⟩
  refine LoadI.mk ⟨_, ⟨e3, by simp⟩, ?_⟩
  apply CallI.use
  focus (exact fun w7 h7 => clonger_any all.l last.l part cz all.a last.a ap all.c last.c cp w7 (Sl.go (Own.sl hVa5) (atB h7) (atB h7).size) (Sl.go (Own.sl hVl5) (atB h7) (atB h7).size) (slP w7 (rd5.go hn (atB h7)).below (Nat.le_trans hn (rd5.go hn (atB h7)).size)))
  rintro v w7 v7 h7 hB7 ⟨a3, k3, a4, k4, rfl, hO3, hO4⟩
  have rd7 := (rd5.go hn (atB h7)).go hn hB7
  have j7 := jg (jg hj6 (atB h7)) hB7
  have hs7 := (rd5.go hn (atB h7)).size
  have hVa7 : V n₁ all v7 := Own.below (Own.below hVa5 (atB h7)) hB7
  generalize longer all.l last.l part cz = Y2 at hO3 hO4 hseq ⊢
  obtain ⟨A2, M2, E2⟩ := Y2
  simp only at hO3 hO4 hseq ⊢
  refine Branch.mk (fun z5 => ?_) (fun z5 => ?_)
  ·rw [if_pos (of_decide_eq_true z5)] at hseq
   refine ⟨fun w8 h8 => ?_⟩
   have hB8 := atB h8
   have hmap2 : (pre ++ [(⟨all.a, all.c, all.l, 0⟩ : RV)] ++ [(⟨none, 0, [], E2⟩ : RV)]).map rv = pre.map rv ++ [(all.l, 0), ([], E2)] := by rw [List.map_append, hmap, List.append_assoc]; rfl
   refine (hY (pre ++ [⟨all.a, all.c, all.l, 0⟩]) ⟨none, 0, [], E2⟩ w8 (jg j7 hB8) Own.nil (by simp; omega)).mono ?_
   rintro e v8 (⟨rfl, hj9, hk8⟩ | ⟨rfl, hx8, hk8⟩)
   ·refine ⟨_, rfl, (rd7.go hn hB8).below.trans hk8.1, ?_⟩
    exact EndI.mk fun w6 h6 => .inl ⟨_, by rw [hmap2]; exact hseq, jg hj9 (atB h6)⟩
   ·refine ⟨_, rfl, (rd7.go hn hB8).below.trans hk8, ?_⟩
    exact EndI.mk fun w6 h6 => .inr ⟨_, by rw [hmap2]; exact ⟨[], by rw [List.append_nil]; exact hseq⟩, hJx _ _ _ hx8 (at_grown h6 (by simp) _)⟩
  rw [if_neg (of_decide_eq_false z5)] at hseq
  apply CallI.use1
  focus (exact fun w8 h8 => zsin_any M2 all.l a4 all.a k4 all.c w8 (Sl.go (Own.sl hO4) (atB h8) (atB h8).size) (Sl.go (Own.sl hVa7) (atB h8) (atB h8).size))
  intro w8 v8 h8 hB8
  have hB78 : Below v7.heap.size v7 v8 := (atB h8).trans (hB8.mono (atB h8).size)
  refine Branch.mk (fun z6 => ?_) (fun z6 => ?_)
  ·rw [if_pos z6] at hseq
   exact EndI.mk fun w6 h6 => .inl ⟨pre ++ [⟨all.a, all.c, all.l, 0⟩], by rw [hmap]; exact hseq, jg (jg j7 hB78) (atB h6)⟩
  rw [if_neg (by rw [z6]; decide)] at hseq
  refine Need.mk (by simp only [inK]; omega) (EndI.mk fun w9 h9 => ⟨((m + 1, ⟨a3, k3, A2, 0⟩, ⟨a4, k4, M2, 0⟩, pre ++ [⟨all.a, all.c, all.l, 0⟩]), w9), Cov.au rfl rfl rfl rfl rfl, rfl, ⟨hlt, ?_, ?_, ?_, ?_, ?_, ?_⟩, by simp only; omega⟩)
  ·exact (rd7.go hn hB78).go hn (atB h9)
  ·exact ((hO3.lower hs7).below hB78).below (atB h9)
  ·exact ((hO4.lower hs7).below hB78).below (atB h9)
  ·exact jg (jg j7 hB78) (atB h9)
  ·simp [hlen]
  ·rw [hmap, show K - (m + 1) = d by omega, List.append_assoc]
   exact hseq
 ·have h0l : all.l.length = 0 := by have := of_decide_eq_false z3; simp only at this; omega
  have hgo : go part cz (K - m) all.l last.l = [] := by unfold go; split <;> rw [if_pos h0l]
  rw [hgo, List.append_nil] at hseq
  exact EndI.mk fun w6 h6 => .inl ⟨pre, hseq, jg hj (atB h6)⟩
end Go.Proofs.YtanhnllkccldhaaGreat
namespace Go.Proofs.YtanhnllkccldhaaGreat
set_option linter.unusedVariables false
set_option linter.unusedSimpArgs false
set_option maxRecDepth 100000
open Go.RowKit Go.Shelf Go.Proofs.YtanhnllkccldhaaGreat.Eng Enc
namespace Cl
def lastS (s : List (List Zn × Int)) : List Zn := ((s.getLast?).map (·.1)).getD []
def close (old part : List Zn) (cz cr : Int) : List Zn × Int × Int :=
 if chk old part cz cr ≠ 0 then ([], 0, chk old part cz cr) else (match (seq old part cz cr).find? (fun x => decide (x.2 ≠ 0)) with
  | some x => ([], 0, x.2)
  | none => ((Cv.prune (lastS (seq old part cz cr))).1, (seq old part cz cr).length, (Cv.prune (lastS (seq old part cz cr))).2))
def rounds (old part : List Zn) (cz cr : Int) : List (List Zn) × Int :=
 if chk old part cz cr ≠ 0 then ([], chk old part cz cr) else (match (seq old part cz cr).find? (fun x => decide (x.2 ≠ 0)) with
  | some x => ([], x.2)
  | none => ((seq old part cz cr).map (fun x => (Cv.prune x.1).1), 0))
theorem chk_zero {old part : List Zn} {cz cr : Int} (h : chk old part cz cr = 0) : (1 ≤ cz ∧ cz ≤ 4096) ∧ (1 ≤ cr ∧ cr ≤ 4096) := by
 unfold chk at h
 split at h
 ·cases h
 ·rename_i h1
  simp only [not_or, Classical.not_not] at h1
  exact h1
theorem V.own {n₁ : Nat} (z : RV) : OwnFrom n₁ (fun (_ : Unit) W => V n₁ z W) := fun _ A C row h hg hr => by
 obtain ⟨hl, h0 | ⟨g, cap, cur, e1, e2, e3, e4⟩⟩ := id h
 ·exact ⟨hl, .inl h0⟩
 ·refine ⟨hl, .inr ⟨g, cap, cur, e1, e2, (hg.block g (Array.getElem?_eq_some_iff.1 e3).1 (fun e => ?_)).trans e3, e4⟩⟩
  obtain ⟨_, o, ho, hc⟩ := hr g e.symm
  rw [e3] at ho; injection ho with ho; subst ho; cases hc
theorem lastS_app (s : List (List Zn × Int)) (x : List Zn × Int) : lastS (s ++ [x]) = x.1 := by unfold lastS; simp
theorem own_turn {α : Type} [Enc α] {e : TypeId} {n₁ B Bx : Nat} {A C : World} {row : Option Nat} {v : Value} {l : List α} (h : Own e n₁ A v l) (hg : A.grownBy C row) (hr : RowB B Bx A row) (hx : Bx < n₁) : Own e n₁ C v l := by
 obtain ⟨hl, h0 | ⟨g, cap, cur, e1, e2, e3, e4⟩⟩ := id h
 ·exact ⟨hl, .inl h0⟩
 ·refine ⟨hl, .inr ⟨g, cap, cur, e1, e2, (hg.block g (Array.getElem?_eq_some_iff.1 e3).1 (fun e => ?_)).trans e3, e4⟩⟩
  rcases hr g e.symm with h | ⟨_, o, ho, hc⟩
  ·omega
  ·rw [e3] at ho; injection ho with ho; subst ho; cases hc
end Cl
set_option maxHeartbeats 4000000 in
open Cl in
theorem cclose_any (old part : List Zn) (cz cr : Int) (ao ap : Option Addr) (co cp : Nat) (w : World) (hO : Sl w.heap.size w (.slice ao old.length co) old) (hP : Sl w.heap.size w (.slice ap part.length cp) part) :
 Calls Tryz.prog 24 #[.slice ao old.length co, .slice ap part.length cp, .agg #[.int .i64 cz, .int .i64 cr]] w (Ret w fun v w' => ∃ a' c', v = .tuple #[.slice a' (Cl.close old part cz cr).1.length c', .int .i64 (Cl.close old part cz cr).2.1, .int .i64 (Cl.close old part cz cr).2.2] ∧ Own TZ w.heap.size w' (.slice a' (Cl.close old part cz cr).1.length c') (Cl.close old part cz cr).1) := by
 refine fun_at 9 w.heap.size w (Nat.le_refl _) Tryz.func24 (args := [.val (.slice ao old.length co), .val (.slice ap part.length cp), .agg [.val (.int .i64 cz), .val (.int .i64 cr)]]) rfl rfl ?_
 refine NewI.mk fun b5 hb5 => ?_
 refine NewI.mk fun b6 hb6 => ?_
 refine NewI.mk fun b7 hb7 => ?_
 refine NewI.mk fun b8 hb8 => ?_
 have e5 : w.heap.size ≤ b5 := hb5
 have e6 : w.heap.size ≤ b6 := hb6
 have e7 : w.heap.size ≤ b7 := hb7
 have e8 : w.heap.size ≤ b8 := hb8
 apply CallI.use1
 focus (exact fun w3 h3 => cchecked_any old part cz cr ao ap co cp w3 (Sl.at h3 hO) (Sl.at h3 hP))
 intro w3 v3 h3 hB3
 unfold Cl.close
 refine Branch.mk (fun z1 => ?_) (fun z1 => ?_)
 ·rw [if_pos (of_decide_eq_true z1)]
  exact EndI.mk fun w9 h9 => ⟨_, _, rfl, Own.nil⟩
 have h0 : chk old part cz cr = 0 := by simpa using z1
 obtain ⟨hcz, hcr⟩ := chk_zero h0
 rw [if_neg (by rw [h0]; simp), h0]
 have lb : ∀ b, b ∈ [b5, b6, b7, b8] → b < w3.heap.size := fun b hb => h3.lt b hb
 have hw3 : w.heap.size ≤ w3.heap.size := h3.below.size
 have hs3 := hB3.size
 apply CallI.mk
 intro w7 h7
 refine (crounds_at ao ap old.length part.length co cp cz cr w7).mono ?_
 rintro e w8 ⟨rfl, rfl⟩
 have q1 : Below w7.heap.size w7 (w7.alloc (.cells #[.slice ao old.length co] TZs)) := below_al (Below.refl _ _)
 have g1 := World.alloc_heap_new w7 (.cells #[.slice ao old.length co] TZs)
 have s1 : (w7.alloc (.cells #[.slice ao old.length co] TZs)).heap.size = w7.heap.size + 1 := by simp
 generalize w7.alloc (.cells #[.slice ao old.length co] TZs) = x1 at q1 g1 s1 ⊢
 have q2 : Below x1.heap.size x1 (x1.alloc (.cells #[.slice ap part.length cp] TZs)) := below_al (Below.refl _ _)
 have g2 := World.alloc_heap_new x1 (.cells #[.slice ap part.length cp] TZs)
 have s2 : (x1.alloc (.cells #[.slice ap part.length cp] TZs)).heap.size = x1.heap.size + 1 := by simp
 generalize x1.alloc (.cells #[.slice ap part.length cp] TZs) = x2 at q2 g2 s2 ⊢
 have q3 : Below x2.heap.size x2 (x2.alloc (.cells #[.int .i64 cz, .int .i64 cr] TCaps)) := below_al (Below.refl _ _)
 have g3 := World.alloc_heap_new x2 (.cells #[.int .i64 cz, .int .i64 cr] TCaps)
 have s3 : (x2.alloc (.cells #[.int .i64 cz, .int .i64 cr] TCaps)).heap.size = x2.heap.size + 1 := by simp
 generalize x2.alloc (.cells #[.int .i64 cz, .int .i64 cr] TCaps) = w8 at q3 g3 s3 ⊢
 have hB8 : Below w7.heap.size w7 w8 := (q1.trans (q2.mono (by omega))).trans (q3.mono (by omega))
 refine ⟨h7.keep hB8, _, rfl, ?_⟩
 have k1 : w8.heap[w7.heap.size]? = some (.cells #[.slice ao old.length co] TZs (0, 0)) := (q3.block _ (by omega)).trans ((q2.block _ (by omega)).trans g1)
 have k2 : w8.heap[w7.heap.size + 1]? = some (.cells #[.slice ap part.length cp] TZs (0, 0)) := (q3.block _ (by omega)).trans (by rw [← s1]; exact g2)
 have k3 : w8.heap[w7.heap.size + 2]? = some (.cells #[.int .i64 cz, .int .i64 cr] TCaps (0, 0)) := by rw [show w7.heap.size + 2 = x2.heap.size by omega]; exact g3
 have lb7 : ∀ b, b ∈ [b5, b6, b7, b8] → b < w7.heap.size := fun b hb => h7.lt b hb
 have hw7 : w.heap.size ≤ w7.heap.size := h7.below.size
 have hw8 : Below w.heap.size w w8 := h7.below.trans (hB8.mono hw7)
 have s8 : w8.heap.size = w7.heap.size + 3 := by omega
 generalize w7.heap.size = B0 at k1 k2 k3 lb7 hw7 s8 ⊢
 refine RawI.mk fun ac w10 hR => ?_
 have h10 := hR.at_
 have hB10 : Below w8.heap.size w8 w10 := at_below h10 (by simp)
 have hsz10 : w8.heap.size ≤ w10.heap.size := hB10.size
 have hw10 : Below w.heap.size w w10 := hw8.trans (hB10.mono (by omega))
 have nR : ∀ q, B0 ≤ q → q ∉ [b5, b6, b7, b8] := fun q hq hm => by have := lb7 q hm; omega
 have hseq := rounds_stops 8 B0 (B0 + 1) (B0 + 2) w.heap.size w10.heap.size [b5, b6, b7, b8] old part ao ap co cp cz cr hcz hcr w10 (by omega) (Nat.le_refl _) ⟨by omega, nR _ (by omega)⟩ ⟨by omega, nR _ (by omega)⟩ ⟨by omega, nR _ (by omega)⟩ ((hB10.block _ (by omega)).trans k1) ((hB10.block _ (by omega)).trans k2) ((hB10.block _ (by omega)).trans k3) (hO.below hw10) (hP.below hw10)
 refine rangeVu (α := RV) (encs := encV) cxOk (by decide) hR rfl Tryz.call91 hseq (fun z => V.own z) (by omega) (by show w.heap.size ≤ B0 + 2; omega) (nR _ (by omega))
  ?kt ?kb (fun x => rfl)
  (γ := Value × Int) (fun c => [⟨[.val (.int .i64 cz), .val (.int .i64 cr)], TCaps⟩, ⟨[.val c.1], TZs⟩, ⟨[.val (.int .i64 c.2)], 3⟩, ⟨[.val (.int .i64 0)], 28⟩])
  (fun (pre : List RV) (c : Value × Int) W => (∀ x : RV, x ∈ pre → x.e = 0) ∧ c.2 = pre.length ∧ Own TZ w10.heap.size W c.1 (lastS (pre.map rv))) ?phi (.slice none 0 0, 0) rfl ⟨by simp, rfl, Own.nil⟩
  (fun (c : Code) (pre : List RV) (q : Value × Int) (W : World) => c = .ret ∧ ∃ (pre0 : List RV) (x : RV), pre = pre0 ++ [x] ∧ (∀ y : RV, y ∈ pre0 → y.e = 0) ∧ x.e ≠ 0 ∧ q.2 = x.e)
  (fun _ q => [⟨[.val (.int .i64 cz), .val (.int .i64 cr)], TCaps⟩, ⟨[.val (.slice none 0 0)], TZs⟩, ⟨[.val (.int .i64 0)], 3⟩, ⟨[.val (.int .i64 q.2)], 28⟩])
  (fun c q pre A B row h hg hr => h) (fun z => [(9, .val (.slice z.a z.l.length z.c)), (10, .val (.int .i64 z.e))]) (fun z => []) (fun c bs => True) ?asg ?body ?done ?stop
 case kt =>
  exact fun h k => ⟨h.1.trans k.1, fun q hq hm => (k.2.1 q hq hm).trans (h.2.1 q hq hm), fun q cs f hq => (k.2.2 q cs f ((h.2.2 q cs f hq).trans hq)).trans (h.2.2 q cs f hq)⟩
 case kb =>
  intro W l o o' hl ho h1 h2
  refine ⟨⟨rfl, rfl, rfl, by simp, fun k hk => World.putObj_heap_other (by omega)⟩, fun q hq _ => World.putObj_heap_other (by omega), fun q cs f hq => World.putObj_heap_other (fun e => ?_)⟩
  subst e
  rw [ho] at hq; injection hq with hq; subst hq; cases h1
 case phi =>
  rintro c pre A C row ⟨hz, hn, hOw⟩ hg hr
  exact ⟨hz, hn, own_turn hOw hg hr (by omega)⟩
 case asg =>
  intro l pre z c W hΦ hV hBW hsW hN
  refine ⟨rfl, [], rfl, trivial, Need.mk ⟨rfl, rfl, (List.append_nil _).symm, rfl⟩ (EndI.mk fun w9 h9 => ?_)⟩
  have hg := at_below h9 (by simp)
  exact ⟨below_keepsFrom hg _, ⟨hg.mono (by omega), fun q hq _ => hg.block q (by omega), fun q cs f hq => hg.block q (Array.getElem?_eq_some_iff.1 hq).1⟩, ⟨hΦ.1, hΦ.2.1, hΦ.2.2.below hg⟩, Own.below hV hg⟩
 case body =>
  intro l pre x c bs W hbs hψ hΦ hV hBW hsW hN
  obtain rfl := List.eq_nil_of_length_eq_zero hbs
  obtain ⟨hz, hn, hOw⟩ := hΦ
  refine Branch.mk (fun z3 => ?_) (fun z3 => ?_)
  ·have hx : x.e ≠ 0 := by simpa using z3
   refine ⟨(c.1, x.e), Need.mk (CovH.mk rfl rfl rfl) (EndI.mk fun w9 h9 => ?_)⟩
   refine ⟨⟨h9.size, fun k o hk ho hcl => (h9.step k (Array.getElem?_eq_some_iff.1 ho).1 (fun hm => ?_)).trans ho⟩, rfl, pre, x, rfl, hz, hx, rfl⟩
   have m6 := lb7 b6 (by simp); have m7 := lb7 b7 (by simp); have m8 := lb7 b8 (by simp)
   simp at hm
   omega
  ·have hx : x.e = 0 := by simpa using z3
   refine DrawI.wr (.tk 0 (.two 1 (.tk 2 (.ev 3 (.ev 4 .done))) 3 (.ev 1 (.tk 2 (.ev 4 .done))))) [1, 2] [] (by kernel_rfl) rfl (by simp) fun w11 h11 => ?_
   have hn1 : inK .i64 (c.2 + 1) := by rw [hn]; simp only [inK]; omega
   have fin : ∀ w9, Below w.heap.size w w9 → W.heap.size ≤ w9.heap.size → (∀ k, k < W.heap.size → k ∉ [b6, b7] → w9.heap[k]? = W.heap[k]?) →
    KeepsFrom w10.heap.size W w9 ∧ KpR w.heap.size w10.heap.size [b5, b6, b7, b8] W w9 ∧ (∀ y : RV, y ∈ pre ++ [x] → y.e = 0) ∧ c.2 + 1 = ((pre ++ [x]).length : Int) ∧ Own TZ w10.heap.size w9 (.slice x.a x.l.length x.c) (lastS ((pre ++ [x]).map rv)) := fun w9 h1 h2 h3 => by
    have m6 := lb7 b6 (by simp); have m7 := lb7 b7 (by simp)
    have t6 : ∃ cs, W.heap[b6]? = some (.cells cs TZs (0, 0)) := ⟨_, (h11.step b6 (by omega) (by simp)).symm.trans (h11.blk 1 b6 _ rfl rfl)⟩
    have t7 : ∃ cs, W.heap[b7]? = some (.cells cs 3 (0, 0)) := ⟨_, (h11.step b7 (by omega) (by simp)).symm.trans (h11.blk 2 b7 _ rfl rfl)⟩
    have big : ∀ q, w10.heap.size ≤ q → q ∉ [b6, b7] := fun q hq hm => by simp at hm; omega
    refine ⟨⟨h2, fun k o hk ho hcl => (h3 k (Array.getElem?_eq_some_iff.1 ho).1 (big k hk)).trans ho⟩, ⟨below_between (X := w) hBW h1 h2, fun q hq hm => h3 q (by omega) (fun hm2 => hm (by simp at hm2 ⊢; omega)), fun q cs f hq => h3 q (Array.getElem?_eq_some_iff.1 hq).1 (fun hm => ?_)⟩, fun y hy => ?_, by simp [hn], ?_⟩
    ·obtain ⟨_, t6⟩ := t6
     obtain ⟨_, t7⟩ := t7
     simp at hm
     rcases hm with rfl | rfl
     ·rw [t6] at hq; injection hq with hq; injection hq with _ hq; exact absurd hq (by decide)
     ·rw [t7] at hq; injection hq with hq; injection hq with _ hq; exact absurd hq (by decide)
    ·rcases List.mem_append.1 hy with hy | hy
     ·exact hz y hy
     ·rw [List.mem_singleton.1 hy]; exact hx
    ·have e1 : lastS ((pre ++ [x]).map rv) = x.l := by rw [List.map_append]; exact lastS_app _ _
     rw [e1]
     obtain ⟨hl, h0 | ⟨g, cap, cur, e1, e2, e3, e4⟩⟩ := hV
     ·exact ⟨hl, .inl h0⟩
     ·exact ⟨hl, .inr ⟨g, cap, cur, e1, e2, (h3 g (Array.getElem?_eq_some_iff.1 e3).1 (big g e2)).trans e3, e4⟩⟩
   refine Both.mk ?_ ?_
   all_goals
    refine Need.mk hn1 ?_
    refine ⟨(.slice x.a x.l.length x.c, c.2 + 1), Need.mk (CovH.mk rfl rfl rfl) (EndI.mk fun w9 h9 => ?_)⟩
    have hs11 := h11.size
    refine fin w9 h9.below (Nat.le_trans h11.size h9.size) fun k hk hm => (h9.step k (Nat.lt_of_lt_of_le hk h11.size) (fun hm2 => hm (by simp at hm2 ⊢; omega))).trans (h11.step k hk (by simp))
 case done =>
  rintro D xs c W hD hSx ⟨hz, hn, hOw⟩ hmark
  have hDW : D < W.heap.size := (Array.getElem?_eq_some_iff.1 hmark).1
  have hf : (seq old part cz cr).find? (fun x => decide (x.2 ≠ 0)) = none := by
   rw [← hSx, List.find?_eq_none]
   intro y hy
   obtain ⟨x, hx, rfl⟩ := List.mem_map.1 hy
   simp [rv, hz x hx]
  rw [hf]
  rw [hSx] at hOw
  have hxl : (xs.length : Int) = (seq old part cz cr).length := by rw [← hSx, List.length_map]
  rw [hxl] at hn
  obtain ⟨a', c', hcc⟩ := hOw.form
  obtain ⟨c1, c2⟩ := c
  simp only at hOw hcc hn
  subst hcc
  subst hn
  have m5 := lb7 b5 (by simp); have m6 := lb7 b6 (by simp); have m7 := lb7 b7 (by simp); have m8 := lb7 b8 (by simp)
  apply CallI.use
  focus (exact fun w3 h3 => zsof_any (lastS (seq old part cz cr)) a' c' w3 (Sl.go hOw.sl (at_below h3 (by simp)) (at_below h3 (by simp)).size))
  rintro v w12 v12 h12 hB12 ⟨a12, c12, rfl, hO12⟩
  have hm12 : v12.heap[D]? = some (.deferred (some [])) := (hB12.block D (Nat.lt_of_lt_of_le hDW h12.size)).trans ((h12.step D hDW (by simp)).trans hmark)
  have hD12 : D < v12.heap.size := (Array.getElem?_eq_some_iff.1 hm12).1
  have hDb : D ∉ [b8, b6] := fun hm => by simp at hm; omega
  refine EndM.mk fun w13 h13 => ⟨⟨by show w.heap.size ≤ D; omega, (h13.step D hD12 hDb).trans hm12⟩, fun w14 hu => ?_⟩
  have hs12 : W.heap.size ≤ w12.heap.size := h12.size
  have hO13 := hO12.at h13 (fun b hb => by simp at hb; omega)
  refine ⟨_, _, rfl, (Own.kept (row := some D) hO13 ⟨hu.2.1, hu.2.2.1, hu.2.2.2.1, by rw [hu.1]; exact Nat.le_refl _, fun k _ hk => hu.2.2.2.2 k (fun e => hk (by rw [e]))⟩ ?_).lower h12.below.size⟩
  obtain ⟨_, ⟨e, _⟩ | ⟨g, cp, cur, e, _, hgb, _⟩⟩ := id hO13
  ·rw [e]; exact .inl rfl
  ·rw [e]
   refine .inr (fun e' => ?_)
   injection e' with e'
   subst e'
   have := (h13.step _ hD12 hDb).trans hm12
   rw [hgb] at this; cases this
 case stop =>
  rintro D cd e pre q W hD hSp ⟨rfl, pre0, x, rfl, hz, hx, hq⟩ hex hmark
  have hDW : D < W.heap.size := (Array.getElem?_eq_some_iff.1 hmark).1
  obtain ⟨t, ht⟩ := hSp
  have hf : (seq old part cz cr).find? (fun x => decide (x.2 ≠ 0)) = some (rv x) := by
   rw [← ht, List.map_append, List.append_assoc, List.find?_append, List.find?_eq_none.2 (fun y hy => by
    obtain ⟨z, hz', rfl⟩ := List.mem_map.1 hy
    simp [rv, hz z hz'])]
   simp [rv, hx]
  rw [hf]
  injection hex with hex
  subst hex
  refine EndM.mk fun w10 h10 => ⟨⟨by show w.heap.size ≤ D; omega, (h10.step D hDW (by simp)).trans hmark⟩, fun w11 hu => ?_⟩
  exact ⟨_, _, by rw [hq]; rfl, Own.nil⟩
end Go.Proofs.YtanhnllkccldhaaGreat
namespace Go.Proofs.YtanhnllkccldhaaGreat
set_option linter.unusedVariables false
set_option linter.unusedSimpArgs false
open Go.RowKit Go.Proofs.YtanhnllkccldhaaGreat.Eng Enc
namespace Cl
open Cv Zs Ky Cmp
theorem regs6 {long : Int} (hl : 1 ≤ long ∧ long ≤ 6) : (regs long).length ≤ 507 := by
 unfold regs Rg.up
 rw [List.length_map]
 refine Nat.le_trans (List.length_filter_le _ _) ?_
 rw [List.length_range, Rg.many_doc (by omega)]
 have hm := Fr.mul_bd (u := 3 * (2 * long + 1)) (v := 2 * long + 1) (m := 39) (n := 13) (by omega) (by omega) (by omega) (by omega)
 simp only
 omega
structure Good (long : Int) (l : List Zn) : Prop where
 ml : Ml long l
 same : Cv.prune l = (l, 0)
theorem Good.len {long : Int} (hl : 1 ≤ long ∧ long ≤ 6) {l : List Zn} (h : Good long l) : l.length ≤ 507 := Nat.le_trans (h.ml.len (by omega)) (regs6 hl)
theorem Good.chk {long : Int} {l : List Zn} (h : Good long l) (z : Zn) (hz : z ∈ l) : Zo.chk z = 0 := (h.ml.mt z hz).chk
theorem good_of {long : Int} (hl : 1 ≤ long ∧ long ≤ 6) {l : List Zn} (hlen : l.length ≤ 4096) (h : Ml long l) (hf : Fine l) : Good long l := by
 have h1 := prune_ml (long := long) (by omega) hlen h.mt
 exact ⟨h, Prod.ext (hf.2.2 h1.1) h1.1⟩
theorem good_nil {long : Int} : Good long [] := ⟨Ml.nil, by
 unfold Cv.prune
 rw [Cv.sorted_self List.Pairwise.nil]
 decide +kernel⟩
theorem ml_nil {long : Int} {l : List Zn} (h : Ml long l) (hp : ∀ t, ¬ Pts l t) : l = [] := by
 refine List.eq_nil_iff_forall_not_mem.2 fun z hz => ?_
 obtain ⟨j, hj⟩ := List.getElem?_of_mem hz
 refine h.bare j z (Nat.zero_le _) hj fun t ht => ?_
 exact absurd ⟨z, hz, ht⟩ (hp t)
theorem or_good {long : Int} (hl : 1 ≤ long ∧ long ≤ 6) {a b : List Zn} (ha : Good long a) (hb : Good long b) : (Zs.or a b).2 = 0 ∧ Good long (Zs.or a b).1 ∧ ∀ t, Pts (Zs.or a b).1 t ↔ Pts a t ∨ Pts b t := by
 have h1 := ha.len hl
 have h2 := hb.len hl
 obtain ⟨h3, h4⟩ := or_ml (long := long) (by omega) ha.ml.mt hb.ml.mt (by omega)
 obtain ⟨_, h5, h6⟩ := or_ok h3
 exact ⟨h3, good_of hl h5.1 h4 h5, h6⟩
theorem comp_good {long : Int} (hl : 1 ≤ long ∧ long ≤ 6) {a b : List Zn} (ha : Good long a) (hb : Good long b) : (Zs.comp a b).2 = 0 ∧ Good long (Zs.comp a b).1 ∧ ∀ t, Pts (Zs.comp a b).1 t ↔ Thru (Pts a) (Pts b) t := by
 have h1 := ha.len hl
 have h2 := hb.len hl
 obtain ⟨h3, h4⟩ := comp_ml (long := long) (by omega) ha.ml.mt hb.ml.mt (by omega) (by omega)
 obtain ⟨h5, h6⟩ := comp_pts h3
 exact ⟨h3, good_of hl h5.1 h4 h5, h6⟩
theorem in_good {long : Int} (hl : 1 ≤ long ∧ long ≤ 6) {a b : List Zn} (ha : Good long a) (hb : Good long b) : (all_ a b).2 = 0 ∧ ((all_ a b).1 = true ↔ ∀ t, Pts a t → Pts b t) := by
 have h1 := ha.len hl
 have h2 := hb.len hl
 have h3 := all_sm (long := long) (by omega) ha.ml.mt hb.chk (by omega) (by omega)
 refine ⟨h3, (all_ok h3).trans ⟨fun h t ⟨z, hz, ht⟩ => h z hz t ht, fun h z hz t ht => h t ⟨z, hz, ht⟩⟩⟩
theorem good_check {long : Int} (hl : 1 ≤ long ∧ long ≤ 6) {l : List Zn} (hc : Zs.check l = 0) (ho : odd l = false) (hz : ∀ z, z ∈ l → z.c ≤ 2 * long + 1) : Good long l := by
 unfold Zs.check at hc
 split at hc
 case isFalse => cases hc
 rename_i h
 have hw := Cv.prune_ok h.1
 have hm : ∀ z, z ∈ l → Mt long z := fun z hzm => by
  unfold odd at ho
  have h1 := List.any_eq_false.1 ho z hzm
  unfold oddZ at h1
  simp only [Bool.or_eq_true, decide_eq_true_eq, not_or] at h1
  exact ⟨hw.chk z hzm, by omega, by omega, hz z hzm⟩
 have h2 := (prune_ml (long := long) (by omega) hw.len hm).2
 rw [h.2] at h2
 exact ⟨h2, Prod.ext h.2 h.1⟩
theorem good_check0 {long : Int} {l : List Zn} (h : Good long l) : Zs.check l = 0 := by
 unfold Zs.check
 rw [h.same, if_pos ⟨rfl, rfl⟩]
theorem good_odd {long : Int} {l : List Zn} (h : Good long l) : odd l = false := by
 unfold odd
 rw [List.any_eq_false]
 intro z hz
 have := h.ml.mt z hz
 unfold oddZ
 simp only [Bool.or_eq_true, decide_eq_true_eq, not_or]
 have h1 := this.b
 have h2 := this.f
 omega
theorem longer_good {long : Int} (hl : 1 ≤ long ∧ long ≤ 6) {a b p : List Zn} (cz : Int) (ha : Good long a) (hb : Good long b) (hp : Good long p) :
 (longer a b p cz = ([], [], 300) ∧ cz < ((regs long).length : Int)) ∨
 ((longer a b p cz).2.2 = 0 ∧ Good long (longer a b p cz).1 ∧ Good long (longer a b p cz).2.1 ∧ (∀ t, Pts (longer a b p cz).1 t ↔ Pts a t ∨ Thru (Pts b) (Pts p) t) ∧ ∀ t, Pts (longer a b p cz).2.1 t ↔ Thru (Pts b) (Pts p) t) := by
 obtain ⟨c1, c2, c3⟩ := comp_good hl hb hp
 obtain ⟨o1, o2, o3⟩ := or_good hl ha c2
 have l1 := c2.ml.len (by omega)
 have l2 := o2.ml.len (by omega)
 unfold longer
 by_cases h1 : cz < ((Zs.comp b p).1.length : Int)
 ·rw [if_pos (.inr h1)]
  exact .inl ⟨rfl, by omega⟩
 rw [if_neg (fun h => h.elim (fun k => k c1) h1)]
 by_cases h2 : cz < ((Zs.or a (Zs.comp b p).1).1.length : Int)
 ·rw [if_pos (.inr h2)]
  exact .inl ⟨rfl, by omega⟩
 rw [if_neg (fun h => h.elim (fun k => k o1) h2)]
 exact .inr ⟨rfl, o2, c2, fun t => by rw [o3 t, c3 t], c3⟩
def Nx (p a b : List Zn) : Prop := (∀ t, Pts b t ↔ Pts a t ∨ Thru (Pts a) (Pts p) t) ∧ ∃ t, Pts b t ∧ ¬ Pts a t
def Ch (p : List Zn) : List Zn → List (List Zn) → Prop
 | _, [] => True
 | a, b :: l => Nx p a b ∧ Ch p b l
def lst : List Zn → List (List Zn) → List Zn
 | a, [] => a
 | _, b :: l => lst b l
def Shut (p a : List Zn) : Prop := ∀ t, Thru (Pts a) (Pts p) t → Pts a t
theorem thru_mono {P Q R : (Nat → Rat) → Prop} (h : ∀ t, P t → Q t) (t : Nat → Rat) (ht : Thru P R t) : Thru Q R t := by
 obtain ⟨s, h1, h2⟩ := ht
 exact ⟨s, h _ h1, h2⟩
theorem go_good {long : Int} (hl : 1 ≤ long ∧ long ≤ 6) {p : List Zn} (cz : Int) (hp : Good long p) : ∀ (k : Nat) (all last : List Zn), Good long all → Good long last → all ≠ [] → (∀ t, Pts last t → Pts all t) → (∀ t, Thru (Pts all) (Pts p) t → Pts all t ∨ Thru (Pts last) (Pts p) t) →
 ∃ ls tail, go p cz k all last = ls.map (fun l => (l, (0 : Int))) ++ tail ∧
  ((tail = [] ∧ (∀ l, l ∈ ls → Good long l) ∧ ∃ ms, ls = all :: ms ∧ Ch p all ms ∧ Shut p (lst all ms) ∧ ms.length + 1 ≤ k) ∨ (tail = [([], 300)] ∧ cz < ((regs long).length : Int)) ∨ (tail = [([], 301)] ∧ ∃ ms, Ch p all ms ∧ ms.length = k ∧ ∀ l, l ∈ all :: ms → Good long l))
 | 0, all, last, ha, hla, hne, hsub, hH => by
   refine ⟨[], [([], 301)], ?_, .inr (.inr ⟨rfl, [], trivial, rfl, fun l h => by rw [List.mem_singleton.1 h]; exact ha⟩)⟩
   unfold go
   rw [if_neg (by simpa using hne)]; rfl
 | k + 1, all, last, ha, hla, hne, hsub, hH => by
   rw [go_succ, if_neg (by simpa using hne)]
   rcases longer_good hl cz ha hla hp with ⟨h1, h2⟩ | ⟨h1, h2, h3, h4, h5⟩
   ·rw [h1, if_pos (by simp)]
    exact ⟨[all], [([], 300)], rfl, .inr (.inl ⟨rfl, h2⟩)⟩
   rw [if_neg (by rw [h1]; simp)]
   generalize (longer all last p cz).1 = A at h2 h4 ⊢
   generalize (longer all last p cz).2.1 = M at h3 h5 ⊢
   obtain ⟨i1, i2⟩ := in_good hl h3 ha
   by_cases hin : (all_ M all).1 = true
   ·rw [if_pos hin]
    refine ⟨[all], [], rfl, .inl ⟨rfl, fun l hlm => by rw [List.mem_singleton.1 hlm]; exact ha, [], rfl, trivial, fun t ht => ?_, by simp⟩⟩
    rcases hH t ht with h | h
    ·exact h
    ·exact i2.1 hin t ((h5 t).2 h)
   ·rw [if_neg hin]
    have hx : ∃ t, Pts M t ∧ ¬ Pts all t := by
     apply Classical.byContradiction
     intro h
     exact hin (i2.2 fun t ht => Classical.byContradiction fun hn => h ⟨t, ht, hn⟩)
    have hnx : Nx p all A := by
     refine ⟨fun t => (h4 t).trans ⟨?_, ?_⟩, ?_⟩
     ·rintro (h | h)
      ·exact .inl h
      ·exact .inr (thru_mono hsub t h)
     ·rintro (h | h)
      ·exact .inl h
      ·exact hH t h
     ·obtain ⟨t, h, hn⟩ := hx
      exact ⟨t, (h4 t).2 (.inr ((h5 t).1 h)), hn⟩
    have hA : A ≠ [] := by
     rintro rfl
     obtain ⟨_, t, ⟨z, hz, _⟩, _⟩ := hnx
     cases hz
    obtain ⟨ls, tail, e, h⟩ := go_good hl cz hp k A M h2 h3 hA (fun t ht => (h4 t).2 (.inr ((h5 t).1 ht))) fun t ht => by
     obtain ⟨s, q1, q2⟩ := ht
     rcases (h4 _).1 q1 with q | q
     ·exact .inl ((hnx.1 t).2 (.inr ⟨s, q, q2⟩))
     ·exact .inr ⟨s, (h5 _).2 q, q2⟩
    refine ⟨all :: ls, tail, by rw [e]; rfl, ?_⟩
    rcases h with ⟨rfl, hg, ms, rfl, h6, h7, h9⟩ | h | ⟨rfl, ms, h6, h7, h8⟩
    ·exact .inl ⟨rfl, fun l hlm => (List.mem_cons.1 hlm).elim (fun e => e ▸ ha) (hg l), A :: ms, rfl, ⟨hnx, h6⟩, h7, by simp; omega⟩
    ·exact .inr (.inl h)
    ·exact .inr (.inr ⟨rfl, A :: ms, ⟨hnx, h6⟩, by simp [h7], fun l hlm => (List.mem_cons.1 hlm).elim (fun e => e ▸ ha) (h8 l)⟩)
def First (old p a : List Zn) : Prop := ∀ t, Pts a t ↔ Pts p t ∨ Thru (Pts old) (Pts p) t
theorem seq_good {long : Int} (hl : 1 ≤ long ∧ long ≤ 6) {old p : List Zn} (cz cr : Int) (ho : Good long old) (hp : Good long p) :
 ∃ ls tail, seq old p cz cr = ls.map (fun l => (l, (0 : Int))) ++ tail ∧
  ((tail = [] ∧ (∀ l, l ∈ ls → Good long l) ∧ ((ls = [] ∧ First old p []) ∨ ∃ a ms, ls = a :: ms ∧ a ≠ [] ∧ First old p a ∧ Ch p a ms ∧ Shut p (lst a ms) ∧ ms.length + 1 ≤ cr.toNat)) ∨ (tail = [([], 300)] ∧ cz < ((regs long).length : Int)) ∨ (tail = [([], 301)] ∧ ∃ a ms, a ≠ [] ∧ First old p a ∧ Ch p a ms ∧ ms.length = cr.toNat ∧ ∀ l, l ∈ a :: ms → Good long l)) := by
 unfold seq
 by_cases h0 : cz < (p.length : Int)
 ·rw [if_pos h0]
  have := hp.ml.len (by omega)
  exact ⟨[], [([], 300)], rfl, .inr (.inl ⟨rfl, by omega⟩)⟩
 rw [if_neg h0]
 rcases longer_good hl cz hp ho hp with ⟨h1, h2⟩ | ⟨h1, h2, h3, h4, h5⟩
 ·rw [h1, if_pos (by simp)]
  exact ⟨[], [([], 300)], rfl, .inr (.inl ⟨rfl, h2⟩)⟩
 rw [if_neg (by rw [h1]; simp)]
 generalize (longer p old p cz).1 = A at h2 h4 ⊢
 by_cases hA : A = []
 ·subst hA
  refine ⟨[], [], ?_, .inl ⟨rfl, fun l hlm => (nomatch hlm), .inl ⟨rfl, h4⟩⟩⟩
  cases cr.toNat <;> rfl
 ·obtain ⟨ls, tail, e, h⟩ := go_good hl cz hp cr.toNat A A h2 h2 hA (fun t h => h) fun t h => .inr h
  refine ⟨ls, tail, e, ?_⟩
  rcases h with ⟨h6, hg, ms, h7, h8, h9, h10⟩ | h | ⟨h6, ms, h7, h8, h9⟩
  ·exact .inl ⟨h6, hg, .inr ⟨A, ms, h7, hA, h4, h8, h9, h10⟩⟩
  ·exact .inr (.inl h)
  ·exact .inr (.inr ⟨h6, A, ms, hA, h4, h7, h8, h9⟩)
theorem find_ls (ls : List (List Zn)) (tail : List (List Zn × Int)) : (ls.map (fun l => (l, (0 : Int))) ++ tail).find? (fun x => decide (x.2 ≠ 0)) = tail.find? (fun x => decide (x.2 ≠ 0)) := by
 rw [List.find?_append, List.find?_eq_none.2 (fun x hx => by
  obtain ⟨l, _, rfl⟩ := List.mem_map.1 hx
  simp)]
 rfl
theorem lst_mem : ∀ (a : List Zn) (ms : List (List Zn)), lst a ms ∈ a :: ms
 | a, [] => by simp [lst]
 | a, b :: ms => List.mem_cons_of_mem _ (lst_mem b ms)
theorem lst_last : ∀ (a : List Zn) (ms : List (List Zn)), (a :: ms).getLast? = some (lst a ms)
 | a, [] => rfl
 | a, b :: ms => by rw [List.getLast?_cons_cons]; exact lst_last b ms
theorem close_good {long : Int} (hl : 1 ≤ long ∧ long ≤ 6) {old p : List Zn} (cz cr : Int) (h0 : chk old p cz cr = 0) (ho : Good long old) (hp : Good long p) :
 (∃ e, close old p cz cr = ([], 0, e) ∧ rounds old p cz cr = ([], e) ∧ e ≠ 0 ∧ ((e = 300 ∧ cz < ((regs long).length : Int)) ∨ (e = 301 ∧ ∃ a ms, a ≠ [] ∧ First old p a ∧ Ch p a ms ∧ ms.length = cr.toNat ∧ ∀ l, l ∈ a :: ms → Good long l))) ∨
 (close old p cz cr = ([], 0, 0) ∧ rounds old p cz cr = ([], 0) ∧ First old p []) ∨
 (∃ a ms, close old p cz cr = (lst a ms, (ms.length : Int) + 1, 0) ∧ rounds old p cz cr = (a :: ms, 0) ∧ a ≠ [] ∧ First old p a ∧ Ch p a ms ∧ Shut p (lst a ms) ∧ (∀ l, l ∈ a :: ms → Good long l) ∧ ms.length + 1 ≤ cr.toNat) := by
 obtain ⟨ls, tail, e, h⟩ := seq_good hl cz cr ho hp
 unfold close rounds
 rw [if_neg (by rw [h0]; simp), if_neg (by rw [h0]; simp), e, find_ls]
 rcases h with ⟨rfl, hg, ⟨rfl, h1⟩ | ⟨a, ms, rfl, h1, h2, h3, h4, h10⟩⟩ | ⟨rfl, h1⟩ | ⟨rfl, h1⟩
 ·refine .inr (.inl ⟨?_, rfl, h1⟩)
  have := (good_nil (long := long)).same
  show ((Cv.prune []).1, _, (Cv.prune []).2) = _
  rw [this]; rfl
 ·refine .inr (.inr ⟨a, ms, ?_, ?_, h1, h2, h3, h4, hg, h10⟩)
  ·have h5 := (hg _ (lst_mem a ms)).same
   have h6 : lastS ((a :: ms).map (fun l => (l, (0 : Int))) ++ []) = lst a ms := by
    unfold lastS
    rw [List.append_nil, List.getLast?_map, lst_last]; rfl
   rw [h6, h5]
   simp
  ·show (_, (0 : Int)) = _
   rw [List.append_nil, List.map_map]
   congr 1
   refine (List.map_congr_left fun l hlm => ?_).trans (List.map_id _)
   show (Cv.prune l).1 = l
   rw [(hg l hlm).same]
 ·exact .inl ⟨300, rfl, rfl, by decide, .inl ⟨rfl, h1⟩⟩
 ·exact .inl ⟨301, rfl, rfl, by decide, .inr ⟨rfl, h1⟩⟩
end Cl
end Go.Proofs.YtanhnllkccldhaaGreat
namespace Go.Proofs.YtanhnllkccldhaaGreat
set_option linter.unusedVariables false
set_option linter.unusedSimpArgs false
set_option maxRecDepth 100000
open Go.RowKit Go.Proofs.YtanhnllkccldhaaGreat.Eng Enc
namespace Cmp
open Dbm
end Cmp
end Go.Proofs.YtanhnllkccldhaaGreat
namespace Go.Proofs.YtanhnllkccldhaaGreat
set_option linter.unusedVariables false
set_option linter.unusedSimpArgs false
open Go.RowKit Go.Proofs.YtanhnllkccldhaaGreat.Eng Enc
namespace Cmp
open Dbm
end Cmp
end Go.Proofs.YtanhnllkccldhaaGreat
namespace Go.Proofs.YtanhnllkccldhaaGreat
set_option linter.unusedVariables false
set_option linter.unusedSimpArgs false
set_option maxRecDepth 100000
open Go.RowKit Go.Proofs.YtanhnllkccldhaaGreat.Eng Enc
namespace Mi
open Dbm
theorem minus_err {a b : Zn} (ha : Zo.chk a = 0) (hb : Zo.chk b = 0) {p q : List (Zn × Int)} {y : Zn × Int} (h : p ++ y :: q = parts a b) (hp : ∀ x, x ∈ p → x.2 = 0) (hy : y.2 ≠ 0) : minus a b = ([], y.2) := by
 have hf : (parts a b).find? (fun x => decide (x.2 ≠ 0)) = some y := by
  rw [← h, List.find?_append, List.find?_eq_none.2 (fun x hx => by simp [hp x hx])]
  simp [hy]
 unfold minus
 rw [if_pos ⟨ha, hb⟩, hf]
theorem minus_fin {a b : Zn} (ha : Zo.chk a = 0) (hb : Zo.chk b = 0) {p : List (Zn × Int)} (h : p = parts a b) (hp : ∀ x, x ∈ p → x.2 = 0) : minus a b = (p.map (·.1), 0) := by
 have hf : (parts a b).find? (fun x => decide (x.2 ≠ 0)) = none := by
  rw [← h]; exact List.find?_eq_none.2 (fun x hx => by simp [hp x hx])
 unfold minus
 rw [if_pos ⟨ha, hb⟩, hf, h]
theorem of_cases (L : List Int) : (Zo.of 3 L).2 = 0 ∨ (Zo.of 3 L).2 = 6 ∨ (Zo.of 3 L).2 = 8 := by
 unfold Zo.of
 by_cases h0 : chk 3 L = 0
 ·rw [if_pos h0, if_pos rfl]
  have hcl : close 3 L = (match closeL 3 L with | some L' => (3, L', 0) | none => (0, [], 6)) := by unfold close; rw [if_pos h0]; rfl
  cases hC : closeL 3 L with
  | none => rw [hC] at hcl; rw [hcl]; right; left; rfl
  | some C =>
    rw [hC] at hcl; rw [hcl]
    show (Zo.told C).2 = 0 ∨ _
    unfold Zo.told
    split
    ·exact .inl rfl
    ·exact .inr (.inr rfl)
 ·rw [if_neg h0]; exact .inr (.inr rfl)
theorem wth_cases (z : Zn) (i : Nat) (b : Int) : (wth z i b).2 = 0 ∨ (wth z i b).2 = 6 ∨ (wth z i b).2 = 8 := by
 unfold wth
 split
 ·exact of_cases _
 ·exact .inr (.inr rfl)
theorem cell_get (b : Zn) {k : Nat} (hk : k < 6) : [Value.int .i64 b.a, .int .i64 b.b, .int .i64 b.c, .int .i64 b.d, .int .i64 b.e, .int .i64 b.f][k]? = some (.int .i64 (Zo.get b k)) := by
 rcases six hk with rfl | rfl | rfl | rfl | rfl | rfl <;> rfl
theorem not_no {b : Int} (h : b = NO) : (Bd.not b).2 ≠ 0 := by subst h; decide
theorem not_mayC {b : Int} (hl : lim 288230376151711744 b) (hn : b ≠ NO) : Bd.not b = (Bd.mk (-(b / 2)) (!(Bd.st b)), 0) ∧ mayC (Bd.not b).1 = true := by
 have hb := hl.resolve_left hn
 have e : Bd.not b = (Bd.mk (-(b / 2)) (!(Bd.st b)), 0) := by
  unfold Bd.not
  rw [Incl.value_of hl hn]
  have hok : Num.okB (-(b / 2)) = true := Num.okB_iff.2 (by omega)
  simp only [if_true]
  unfold Bd.made
  rw [if_pos hok]
 refine ⟨e, ?_⟩
 rw [e]
 unfold mayC
 rw [Bd.half_mk]
 simp; omega
theorem lim_mayC {b : Int} (h : lim 288230376151711744 b) : mayC b = true := by
 unfold mayC
 rcases h with h | h
 ·rw [h]; rfl
 ·simp; omega
structure LSit (w w2 V : World) (Bb : Nat) (b : Zn) (sv : Value) (out : List Zn) (X : World) : Prop where
 below : Below w.heap.size w X
 size : w2.heap.size ≤ X.heap.size
 size0 : V.heap.size ≤ X.heap.size
 ha : Holds X Bb b
 own : Own 86 w2.heap.size X sv out
section
variable {w w2 V X Y : World} {Bb : Nat} {b : Zn} {sv : Value} {out : List Zn}
theorem LSit.at {hp : List LB} {r L : List Nat} (s : LSit w w2 V Bb b sv out X) (h : At ⟨w, w.heap.size, Nat.le_refl _⟩ hp r L X Y) (hL : ∀ x, x ∈ L → X.heap.size ≤ x ∨ x ≠ Bb ∧ sv.ownBlock ≠ some x) : LSit w w2 V Bb b sv out Y := by
 refine ⟨h.below, Nat.le_trans s.size h.size, Nat.le_trans s.size0 h.size, s.ha.same (h.step Bb s.ha.lt fun hm => ?_), ?_⟩
 ·rcases hL _ hm with h1 | h1
  ·have := s.ha.lt; omega
  ·exact h1.1 rfl
 ·obtain ⟨hl, h0 | ⟨g, cap, cur, e1, e2, e3, e4⟩⟩ := s.own
  ·exact ⟨hl, .inl h0⟩
  ·have hg := (Array.getElem?_eq_some_iff.1 e3).1
   refine ⟨hl, .inr ⟨g, cap, cur, e1, e2, (h.step g hg (fun e => ?_)).trans e3, e4⟩⟩
   rcases hL g e with h1 | h1
   ·omega
   ·exact h1.2 (by rw [e1]; rfl)
theorem LSit.go (s : LSit w w2 V Bb b sv out X) (hw : w.heap.size ≤ w2.heap.size) (hB : Below X.heap.size X Y) : LSit w w2 V Bb b sv out Y :=
 ⟨s.below.trans (hB.mono s.below.size), Nat.le_trans s.size hB.size, Nat.le_trans s.size0 hB.size, s.ha.below hB, s.own.below hB⟩
theorem LSit.grow {Z : World} {tv : Value} {out2 : List Zn} (s : LSit w w2 V Bb b sv out Y) (hw : w.heap.size ≤ w2.heap.size) (hBb : sv.ownBlock ≠ some Bb) (hg : Y.grownBy Z sv.ownBlock) (hO : Own 86 w2.heap.size Z tv out2) : LSit w w2 V Bb b tv out2 Z :=
 ⟨⟨hg.os.trans s.below.os, hg.tape.trans s.below.tape, hg.output.trans s.below.output, Nat.le_trans s.below.size hg.size, fun k hk => (hg.block k (Nat.lt_of_lt_of_le hk s.below.size) (fun e => by have := (s.own.lt k e.symm).1; omega)).trans (s.below.block k hk)⟩,
  Nat.le_trans s.size hg.size, Nat.le_trans s.size0 hg.size, s.ha.same (hg.block Bb s.ha.lt (fun e => hBb e.symm)), hO⟩
end
end Mi
set_option maxHeartbeats 40000000 in
theorem rless_any (a b : Zn) (ha : Zo.chk a = 0) (hb : Zo.chk b = 0) (w : World) :
 Calls Tryz.prog 228 #[.agg #[.int .i64 a.a, .int .i64 a.b, .int .i64 a.c, .int .i64 a.d, .int .i64 a.e, .int .i64 a.f], .agg #[.int .i64 b.a, .int .i64 b.b, .int .i64 b.c, .int .i64 b.d, .int .i64 b.e, .int .i64 b.f]] w (Ret w fun v w' => ∃ a' c', v = .tuple #[.slice a' (Mi.minus a b).1.length c', .int .i64 (Mi.minus a b).2] ∧ Own 86 w.heap.size w' (.slice a' (Mi.minus a b).1.length c') (Mi.minus a b).1) := by
 refine fun_ret 0 w Tryz.func228 (args := [.agg [.val (.int .i64 a.a), .val (.int .i64 a.b), .val (.int .i64 a.c), .val (.int .i64 a.d), .val (.int .i64 a.e), .val (.int .i64 a.f)], .agg [.val (.int .i64 b.a), .val (.int .i64 b.b), .val (.int .i64 b.c), .val (.int .i64 b.d), .val (.int .i64 b.e), .val (.int .i64 b.f)]]) rfl rfl ?_
 refine NewI.mk fun b1 hb1 => ?_
 have hb1' : w.heap.size ≤ b1 := hb1
 refine NewI.frn fun w1 h1 => ?_
 have hbox : (w1.alloc (.cells #[.int .i64 b.a, .int .i64 b.b, .int .i64 b.c, .int .i64 b.d, .int .i64 b.e, .int .i64 b.f] 86)).heap[w1.heap.size]? = some (.cells #[.int .i64 b.a, .int .i64 b.b, .int .i64 b.c, .int .i64 b.d, .int .i64 b.e, .int .i64 b.f] 86 (0, 0)) := World.alloc_heap_new w1 _
 have hw1 : Below w.heap.size w (w1.alloc (.cells #[.int .i64 b.a, .int .i64 b.b, .int .i64 b.c, .int .i64 b.d, .int .i64 b.e, .int .i64 b.f] 86)) := h1.below.alloc h1.below.size _
 have hwB : w.heap.size ≤ w1.heap.size := h1.below.size
 have hb1w : b1 < w1.heap.size := h1.lt b1 (by simp)
 generalize hgB : w1.heap.size = Bb at hbox hwB hb1w
 generalize w1.alloc (.cells #[.int .i64 b.a, .int .i64 b.b, .int .i64 b.c, .int .i64 b.d, .int .i64 b.e, .int .i64 b.f] 86) = w2 at hbox hw1
 have hw2s := hw1.size
 have hbox : Mi.Holds w2 Bb b := hbox
 have hBb : Bb < w2.heap.size := hbox.lt
 refine LoopI.inv (α := (Nat × Zn × List (Zn × Int)) × World × Value) (fun y => [(7, .val (.int .i64 y.1.1)), (6, .val y.2.2)]) (fun y => [⟨[.val (.int .i64 y.1.2.1.a), .val (.int .i64 y.1.2.1.b), .val (.int .i64 y.1.2.1.c), .val (.int .i64 y.1.2.1.d), .val (.int .i64 y.1.2.1.e), .val (.int .i64 y.1.2.1.f)], 86⟩]) (fun y => y.2.1)
  (fun y => y.1.1 ≤ 6 ∧ Below w.heap.size w y.2.1 ∧ w2.heap.size ≤ y.2.1.heap.size ∧ Mi.Holds y.2.1 Bb b ∧ Own 86 w2.heap.size y.2.1 y.2.2 (y.1.2.2.map (·.1)) ∧ Zo.chk y.1.2.1 = 0 ∧ (∀ x : Zn × Int, x ∈ y.1.2.2 → x.2 = 0) ∧ y.1.2.2.length ≤ 2 * y.1.1 ∧ y.1.2.2 ++ Mi.go b ([0, 1, 2, 3, 4, 5].drop y.1.1) y.1.2.1 = Mi.parts a b) (fun y => 6 - y.1.1) ?_ ?_
 ·intro w3 h3
  have g3 := atB h3 (by simp)
  exact ⟨((0, a, []), w3, .slice none 0 0), Cov.au rfl rfl rfl rfl rfl, rfl, Nat.zero_le _, h3.below, g3.size, hbox.below g3, Own.nil, ha, by simp, by simp, rfl⟩
 rintro ⟨⟨k, x, pre⟩, V, sv⟩ ⟨hk, hV, hV2, hbx, hO, hx, hz, hpl, hpre⟩
 simp only at hk hV hV2 hbx hO hx hz hpl hpre
 refine Branch.mk (fun z1 => ?_) (fun z1 => ?_)
 ·have hlt : k < 6 := by have := of_decide_eq_true z1; simp only at this; omega
  have hbl := Mi.get_lim (Zo.clo hb).1 hlt
  have hbm := Mi.lim_mayC hbl
  have hx0 := (Zo.clo hx).1
  have hok : Mi.other k < 6 := by unfold Mi.other; split <;> omega
  have hrow := fun g (h : sv.ownBlock = some g) => hO.lt g h
  rw [Mi.drop_six hlt] at hpre
  have n1 : sv.ownBlock ≠ some b1 := fun e => by have := (hrow b1 e).1; omega
  have nB : sv.ownBlock ≠ some Bb := fun e => by have := (hrow Bb e).1; omega
  have sit : Mi.LSit w w2 V Bb b sv (pre.map (·.1)) V := ⟨hV, hV2, Nat.le_refl _, hbx, hO⟩
  refine Need.mk (by simp only; omega) ?_
  refine LoadI.mk ⟨_, ⟨by rw [show (((k : Nat) : Int).toNat * 1) = k by simp]; exact sit.ha.cells k _ (Mi.cell_get b hlt), by simp⟩, ?_⟩
  refine Branch.mk (fun z2 => ?_) (fun z2 => ?_)
  ·have hno : Zo.get b k = Dbm.NO := of_decide_eq_true z2
   rw [Mi.go, if_pos (Mi.not_no hno)] at hpre
   refine Need.mk (by simp only [inK]; omega) (EndI.mk fun w9 h9 => ⟨((k + 1, x, pre), w9, sv), Cov.au rfl rfl rfl rfl rfl, rfl, ?_, by simp only; omega⟩)
   have sit9 := sit.at h9 (by simp)
   exact ⟨hlt, sit9.below, sit9.size, sit9.ha, sit9.own, hx, hz, by simp only; omega, hpre⟩
  have hne : Zo.get b k ≠ Dbm.NO := of_decide_eq_false z2
  obtain ⟨hn1, hnm⟩ := Mi.not_mayC hbl hne
  rw [Mi.go, if_neg (by rw [hn1]; simp)] at hpre
  have hbn := hbl.resolve_left hne
  have hother : ∀ w, Calls Tryz.prog 241 #[.int .i64 (Zo.get b k)] w fun e w' => e = .returned (.int .i64 (Bd.not (Zo.get b k)).1) ∧ Below w.heap.size w w' := fun w => by
   refine (rother02_any (Zo.get b k) (by omega) (by omega) w).mono ?_
   rintro e w' ⟨rfl, rfl⟩
   rw [hn1]
   exact ⟨rfl, Below.refl _ _⟩
  generalize hr1v : Mi.wth x (Mi.other k) (Bd.not (Zo.get b k)).1 = r1 at hpre
  generalize hr2v : Mi.wth x k (Zo.get b k) = r2 at hpre
  have hc1 := Mi.wth_cases x (Mi.other k) (Bd.not (Zo.get b k)).1
  have hc2 := Mi.wth_cases x k (Zo.get b k)
  have hr2 : r2.2 = 0 → Zo.chk r2.1 = 0 := fun h => by rw [← hr2v] at h ⊢; exact (Mi.wth_ok hx0 hlt (Mi.lim_lt hbl (by omega)) h).1
  rw [hr1v] at hc1
  rw [hr2v] at hc2
  refine DrawI.go (.tk 0 (.tk 1 (.tk 3 (.tk 4 (.tk 5 (.two 2 (.two 6 (.two 7 (.tk 8 (.tk 9 (.tk 10 (.ev 11 (.ev 12 (.tk 13 .done)))))) 11 (.ev 7 (.tk 8 (.tk 9 (.tk 10 (.ev 12 (.tk 13 .done))))))) 11 (.ev 6 (.ev 7 (.tk 8 (.tk 9 (.tk 10 (.ev 12 (.tk 13 .done)))))))) 11 (.ev 2 (.ev 6 (.ev 7 (.tk 8 (.tk 9 (.tk 10 (.ev 12 (.tk 13 .done)))))))))))))) (by kernel_rfl) fun w3 h3 => ?_
  have sit := sit.at h3 (by simp)
  refine Need.mk (by simp only; omega) ?_
  refine LoadI.mk ⟨_, ⟨by rw [show (((k : Nat) : Int).toNat * 1) = k by simp]; exact sit.ha.cells k _ (Mi.cell_get b hlt), by simp⟩, ?_⟩
  refine Both.mk ?_ ?_
  apply CallI.use1
  focus (exact fun w3 h3 => rother11_any k hlt w3)
  intro w3 v3 h3 hB3
  have sit := (sit.at h3 (fun x hx => by simp at hx <;> first | omega | (subst hx; exact .inr ⟨by omega, by assumption⟩) | (rcases hx with rfl | rfl <;> first | exact .inl (by omega) | exact .inr ⟨by omega, by assumption⟩))).go hw2s hB3
  refine Both.mk ?_ ?_
  apply CallI.use1
  focus (exact fun w4 h4 => hother w4)
  intro w4 v4 h4 hB4
  have sit := (sit.at h4 (fun x hx => by simp at hx <;> first | omega | (subst hx; exact .inr ⟨by omega, by assumption⟩) | (rcases hx with rfl | rfl <;> first | exact .inl (by omega) | exact .inr ⟨by omega, by assumption⟩))).go hw2s hB4
  refine Both.mk ?_ ?_
  apply CallI.use1
  focus (exact fun w5 h5 => rwith_any x hx0 (Mi.other k) hok (Bd.not (Zo.get b k)).1 hnm w5)
  intro w5 v5 h5 hB5
  have sit := (sit.at h5 (fun x hx => by simp at hx <;> first | omega | (subst hx; exact .inr ⟨by omega, by assumption⟩) | (rcases hx with rfl | rfl <;> first | exact .inl (by omega) | exact .inr ⟨by omega, by assumption⟩))).go hw2s hB5
  rw [hr1v]
  refine NewI.mk fun b9 hb9 => ?_
  have hb9' := Nat.le_trans sit.size0 hb9
  have n9 : sv.ownBlock ≠ some b9 := fun e => by have := (hrow b9 e).2; omega
  have m9 := hbx.lt
  rotate_left
  refine NewI.mk fun b9 hb9 => ?_
  have hb9' := Nat.le_trans sit.size0 hb9
  have n9 : sv.ownBlock ≠ some b9 := fun e => by have := (hrow b9 e).2; omega
  have m9 := hbx.lt
  apply CallI.use1
  focus (exact fun w5 h5 => rwith_any x hx0 (Mi.other k) hok (Bd.not (Zo.get b k)).1 hnm w5)
  intro w5 v5 h5 hB5
  have sit := (sit.at h5 (fun x hx => by simp at hx <;> first | omega | (subst hx; exact .inr ⟨by omega, by assumption⟩) | (rcases hx with rfl | rfl <;> first | exact .inl (by omega) | exact .inr ⟨by omega, by assumption⟩))).go hw2s hB5
  rw [hr1v]
  rotate_left
  refine NewI.mk fun b9 hb9 => ?_
  have hb9' := Nat.le_trans sit.size0 hb9
  have n9 : sv.ownBlock ≠ some b9 := fun e => by have := (hrow b9 e).2; omega
  have m9 := hbx.lt
  apply CallI.use1
  focus (exact fun w4 h4 => hother w4)
  intro w4 v4 h4 hB4
  have sit := (sit.at h4 (fun x hx => by simp at hx <;> first | omega | (subst hx; exact .inr ⟨by omega, by assumption⟩) | (rcases hx with rfl | rfl <;> first | exact .inl (by omega) | exact .inr ⟨by omega, by assumption⟩))).go hw2s hB4
  apply CallI.use1
  focus (exact fun w5 h5 => rwith_any x hx0 (Mi.other k) hok (Bd.not (Zo.get b k)).1 hnm w5)
  intro w5 v5 h5 hB5
  have sit := (sit.at h5 (fun x hx => by simp at hx <;> first | omega | (subst hx; exact .inr ⟨by omega, by assumption⟩) | (rcases hx with rfl | rfl <;> first | exact .inl (by omega) | exact .inr ⟨by omega, by assumption⟩))).go hw2s hB5
  rw [hr1v]
  rotate_left
  refine NewI.mk fun b9 hb9 => ?_
  have hb9' := Nat.le_trans sit.size0 hb9
  have n9 : sv.ownBlock ≠ some b9 := fun e => by have := (hrow b9 e).2; omega
  have m9 := hbx.lt
  apply CallI.use1
  focus (exact fun w3 h3 => rother11_any k hlt w3)
  intro w3 v3 h3 hB3
  have sit := (sit.at h3 (fun x hx => by simp at hx <;> first | omega | (subst hx; exact .inr ⟨by omega, by assumption⟩) | (rcases hx with rfl | rfl <;> first | exact .inl (by omega) | exact .inr ⟨by omega, by assumption⟩))).go hw2s hB3
  apply CallI.use1
  focus (exact fun w4 h4 => hother w4)
  intro w4 v4 h4 hB4
  have sit := (sit.at h4 (fun x hx => by simp at hx <;> first | omega | (subst hx; exact .inr ⟨by omega, by assumption⟩) | (rcases hx with rfl | rfl <;> first | exact .inl (by omega) | exact .inr ⟨by omega, by assumption⟩))).go hw2s hB4
  apply CallI.use1
  focus (exact fun w5 h5 => rwith_any x hx0 (Mi.other k) hok (Bd.not (Zo.get b k)).1 hnm w5)
  intro w5 v5 h5 hB5
  have sit := (sit.at h5 (fun x hx => by simp at hx <;> first | omega | (subst hx; exact .inr ⟨by omega, by assumption⟩) | (rcases hx with rfl | rfl <;> first | exact .inl (by omega) | exact .inr ⟨by omega, by assumption⟩))).go hw2s hB5
  rw [hr1v]
  all_goals
   refine Branch.mk (fun z3 => ?_) (fun z3 => ?_)
   ·have e8 : r1.2 = 8 := by simpa using z3
    rw [if_neg (by omega)] at hpre
    rw [Mi.minus_err ha hb (p := pre) (y := r1) (by rw [← hpre]; simp; rfl) hz (by omega), e8]
    exact EndI.mk fun w9 h9 => ⟨_, _, rfl, Own.nil⟩
   have e8 : ¬ r1.2 = 8 := by simpa using z3
   refine Branch.mk (fun z4 => ?_) (fun z4 => ?_)
   have e0 : r1.2 = 0 := by simpa using z4
   rw [if_neg (by omega)] at hpre
   obtain ⟨pre1, hpre1⟩ : ∃ p, p = pre ++ [r1] := ⟨_, rfl⟩
   have hp1 : pre1 ++ (if r2.2 = 6 then [] else (if r2.2 = 0 then [] else [r2]) ++ Mi.go b ([0, 1, 2, 3, 4, 5].drop (k + 1)) r2.1) = Mi.parts a b := by rw [hpre1, List.append_assoc]; exact hpre
   have hz1 : ∀ x : Zn × Int, x ∈ pre1 → x.2 = 0 := fun y hy => by
    rw [hpre1] at hy
    rcases List.mem_append.1 hy with hy | hy
    ·exact hz y hy
    ·rw [List.mem_singleton.1 hy]; exact e0
   have hpl1 : pre1.length ≤ 2 * k + 1 := by rw [hpre1]; simp; omega
   refine NewI.mk fun b10 hb10 => ?_
   have hb10' := Nat.le_trans sit.size0 hb10
   refine GenN.app (α := Zn) elZ (pre.map (·.1)) [r1.1] w2.heap.size (fun w5 h5 => (sit.at h5 (fun x hx => by simp at hx <;> first | omega | (subst hx; exact .inr ⟨by omega, by assumption⟩) | (rcases hx with rfl | rfl <;> first | exact .inl (by omega) | exact .inr ⟨by omega, by assumption⟩))).own) (fun w5 h5 => src_own h5 2 rfl rfl rfl rfl) (by unfold maxLen; simp; omega) (by simp; omega) (fun w5 h5 => Nat.le_trans sit.size h5.size)
    (fun w5 w6 h5 hg => keep_grown h5 hg (fun g hg' => ⟨Nat.le_trans hw2s (hrow g hg').1, fun hm => by have := hrow g hg'; simp at hm; omega⟩)) fun tv w5 w6 h5 hg hO' => ?_
   obtain ⟨at_, ct, rfl⟩ := hO'.form
   have emap : pre.map (·.1) ++ [r1.1] = pre1.map (·.1) := by rw [hpre1]; simp
   rw [emap] at hO' ⊢
   have sit := (sit.at h5 (fun x hx => by simp at hx <;> first | omega | (subst hx; exact .inr ⟨by omega, by assumption⟩) | (rcases hx with rfl | rfl <;> first | exact .inl (by omega) | exact .inr ⟨by omega, by assumption⟩))).grow hw2s nB hg hO'
   have n1 : (Value.slice at_ (pre1.map (·.1)).length ct).ownBlock ≠ some b1 := fun e => by have := (sit.own.lt b1 e).1; omega
   generalize Value.slice at_ (pre1.map (·.1)).length ct = tv at sit n1 ⊢
   rotate_left
   have e0 : ¬ r1.2 = 0 := by simpa using z4
   have e6 : r1.2 = 6 := by omega
   rw [if_pos e6, List.nil_append] at hpre
   obtain ⟨pre1, hpre1⟩ : ∃ p, p = pre := ⟨_, rfl⟩
   rw [← hpre1] at hpre hz sit
   have hp1 := hpre
   have hz1 := hz
   have hpl1 : pre1.length ≤ 2 * k + 1 := by rw [hpre1]; omega
   generalize sv = tv at sit n1 n9 ⊢
  all_goals
   refine DrawI.go (.tk 0 (.tk 1 (.tk 2 (.tk 3 (.tk 4 (.two 5 (.tk 6 (.tk 7 (.tk 8 (.ev 9 (.ev 10 (.tk 11 .done)))))) 9 (.ev 5 (.tk 6 (.tk 7 (.tk 8 (.ev 10 (.tk 11 .done)))))))))))) (by kernel_rfl) fun w8 h8 => ?_
   have sit := sit.at h8 (fun x hx => by simp at hx <;> first | omega | (subst hx; exact .inr ⟨by omega, by assumption⟩) | (rcases hx with rfl | rfl <;> first | exact .inl (by omega) | exact .inr ⟨by omega, by assumption⟩))
   refine Need.mk (by simp only; omega) ?_
   refine LoadI.mk ⟨_, ⟨by rw [show (((k : Nat) : Int).toNat * 1) = k by simp]; exact sit.ha.cells k _ (Mi.cell_get b hlt), by simp⟩, ?_⟩
   refine Both.mk ?_ ?_
   apply CallI.use1
   focus (exact fun w6 h6 => rwith_any x hx0 k hlt (Zo.get b k) hbm w6)
   intro w6 v6 h6 hB6
   have sit := (sit.at h6 (fun x hx => by simp at hx <;> first | omega | (subst hx; exact .inr ⟨by omega, by assumption⟩) | (rcases hx with rfl | rfl <;> first | exact .inl (by omega) | exact .inr ⟨by omega, by assumption⟩))).go hw2s hB6
   rw [hr2v]
   refine NewI.mk fun b11 hb11 => ?_
   have hb11' := Nat.le_trans sit.size0 hb11
   have n11 : tv.ownBlock ≠ some b11 := fun e => by have := (sit.own.lt b11 e).2; omega
   have m11 := sit.ha.lt
   rotate_left
   refine NewI.mk fun b11 hb11 => ?_
   have hb11' := Nat.le_trans sit.size0 hb11
   have n11 : tv.ownBlock ≠ some b11 := fun e => by have := (sit.own.lt b11 e).2; omega
   have m11 := sit.ha.lt
   apply CallI.use1
   focus (exact fun w6 h6 => rwith_any x hx0 k hlt (Zo.get b k) hbm w6)
   intro w6 v6 h6 hB6
   have sit := (sit.at h6 (fun x hx => by simp at hx <;> first | omega | (subst hx; exact .inr ⟨by omega, by assumption⟩) | (rcases hx with rfl | rfl <;> first | exact .inl (by omega) | exact .inr ⟨by omega, by assumption⟩))).go hw2s hB6
   rw [hr2v]
  all_goals
   refine Branch.mk (fun z5 => ?_) (fun z5 => ?_)
   ·have e6 : r2.2 = 6 := by simpa using z5
    rw [if_pos e6, List.append_nil] at hp1
    rw [Mi.minus_fin ha hb hp1 hz1]
    obtain ⟨ao, co, rfl⟩ := sit.own.form
    exact EndI.mk fun w9 h9 => ⟨ao, co, rfl, ((sit.at h9 (fun x hx => by simp at hx <;> first | omega | (subst hx; exact .inr ⟨by omega, by assumption⟩) | (rcases hx with rfl | rfl <;> first | exact .inl (by omega) | exact .inr ⟨by omega, by assumption⟩))).own).lower hw2s⟩
   have e6 : ¬ r2.2 = 6 := by simpa using z5
   rw [if_neg e6] at hp1
   refine Branch.mk (fun z6 => ?_) (fun z6 => ?_)
   ·have e0 : ¬ r2.2 = 0 := by simpa using z6
    rw [if_neg e0] at hp1
    rw [Mi.minus_err ha hb (p := pre1) (y := r2) (q := Mi.go b ([0, 1, 2, 3, 4, 5].drop (k + 1)) r2.1) (by rw [← hp1]; simp) hz1 e0]
    exact EndI.mk fun w9 h9 => ⟨_, _, rfl, Own.nil⟩
   have e0 : r2.2 = 0 := by simpa using z6
   rw [if_pos e0, List.nil_append] at hp1
   refine Need.mk (by simp only [inK]; omega) (EndI.mk fun w9 h9 => ⟨((k + 1, r2.1, pre1), w9, tv), Cov.au rfl rfl rfl rfl rfl, rfl, ?_, by simp only; omega⟩)
   have sit9 := sit.at h9 (fun x hx => by simp at hx <;> first | omega | (subst hx; exact .inr ⟨by omega, by assumption⟩) | (rcases hx with rfl | rfl <;> first | exact .inl (by omega) | exact .inr ⟨by omega, by assumption⟩))
   exact ⟨hlt, sit9.below, sit9.size, sit9.ha, sit9.own, hr2 e0, hz1, by simp only; omega, hp1⟩
 ·have hge : k = 6 := by have := of_decide_eq_false z1; simp only at this; omega
  subst hge
  have hp : pre = Mi.parts a b := by simpa [Mi.go] using hpre
  rw [Mi.minus_fin ha hb hp hz]
  obtain ⟨ao, co, rfl⟩ := hO.form
  exact EndI.mk fun w9 h9 => ⟨ao, co, rfl, (hO.below (atB h9 (by simp))).lower hw1.size⟩
theorem Mi.minus_chk {x b : Zn} (hx : Zo.chk x = 0) (hb : Zo.chk b = 0) (h : (Mi.minus x b).2 = 0) : ∀ y, y ∈ (Mi.minus x b).1 → Zo.chk y = 0 := fun y hy => (Mi.minus_ok hx hb h y hy).1
open Mi in
theorem rrest_any (z : Zn) (hz : Zo.chk z = 0) (l : List Zn) (hl : ∀ b, b ∈ l → Zo.chk b = 0) (a : Option Addr) (cap : Nat) (w : World) (hS : Sl w.heap.size w (.slice a l.length cap) l) :
 Calls Tryz.prog 214 #[.agg #[.int .i64 z.a, .int .i64 z.b, .int .i64 z.c, .int .i64 z.d, .int .i64 z.e, .int .i64 z.f], .slice a l.length cap] w (Ret w fun v w' => ∃ a' c', v = .tuple #[.slice a' (Mi.outer l [z]).1.length c', .int .i64 (Mi.outer l [z]).2] ∧ Sl w'.heap.size w' (.slice a' (Mi.outer l [z]).1.length c') (Mi.outer l [z]).1) := by
 refine fun_ret 0 w Tryz.func214 (args := [.agg [.val (.int .i64 z.a), .val (.int .i64 z.b), .val (.int .i64 z.c), .val (.int .i64 z.d), .val (.int .i64 z.e), .val (.int .i64 z.f)], .val (.slice a l.length cap)]) rfl rfl ?_
 obtain ⟨_, _, hfe, hcap1, hcap2, _⟩ := hS.form
 injection hfe with _ _ hfe
 subst hfe
 unfold maxLen at hcap2
 refine NewI.mk fun b1 hb1 => ?_
 refine NewI.mk fun b2 hb2 => ?_
 have hb2w : w.heap.size ≤ b2 := hb2
 refine LoopI.invC (α := Nat × World × Value × List Zn) (fun y => [(7, .val (.int .i64 y.1)), (6, .val y.2.2.1)]) (fun y => y.2.1)
  (fun y => y.1 ≤ l.length ∧ Below w.heap.size w y.2.1 ∧ Sl y.2.1.heap.size y.2.1 y.2.2.1 y.2.2.2 ∧ y.2.2.2.length ≤ 4096 ∧ (∀ x, x ∈ y.2.2.2 → Zo.chk x = 0) ∧ b1 < y.2.1.heap.size ∧ b2 < y.2.1.heap.size ∧ outer l [z] = outer (l.drop y.1) y.2.2.2) (fun y => l.length - y.1) ?_ ?_
 ·intro w3 h3
  exact ⟨(0, w3, .slice (some ⟨b2, 0, none⟩) 1 1, [z]), Cov.au rfl rfl rfl rfl rfl, rfl, Nat.zero_le _, h3.below, Sl.own (l := [z]) h3 1 rfl rfl rfl (Nat.le_refl _) (by simp [maxLen]), by simp, by simp [hz], h3.lt b1 (by simp), h3.lt b2 (by simp), rfl⟩
 rintro ⟨i, V2, ov, out⟩ ⟨hi, hV2, hSo, hol, hoc, hq1, hq2, heq⟩
 simp only at hi hV2 hSo hol hoc hq1 hq2 heq
 obtain ⟨ao, co, rfl, _⟩ := hSo.form
 refine Branch.mk (fun hc3 => ?_) (fun hc3 => ?_)
 ·have hlt : i < l.length := by have := of_decide_eq_true hc3; simp only at this; omega
  have hg := List.getElem?_eq_getElem (l := l) (i := i) hlt
  have hd := List.drop_eq_getElem_cons hlt
  generalize l[i] = b at hg hd
  have hbc := hl b (List.mem_of_getElem? hg)
  rw [hd, outer_cons] at heq
  have st2 := Stay.start (w0 := ⟨w, w.heap.size, Nat.le_refl _⟩) hV2
  refine LoopI.invC (α := Nat × World × Value × List Zn) (fun y => [(9, .val (.int .i64 y.1)), (8, .val y.2.2.1)]) (fun y => y.2.1)
   (fun y => y.1 ≤ out.length ∧ (∃ base, Lp ⟨w, w.heap.size, Nat.le_refl _⟩ [V2] [b1, b2] 86 base y.2.1 y.2.2.1 y.2.2.2) ∧ y.2.2.2.length ≤ 4096 ∧ (∀ x, x ∈ y.2.2.2 → Zo.chk x = 0) ∧ inner b out [] = inner b (out.drop y.1) y.2.2.2) (fun y => out.length - y.1) ?_ ?_
  ·intro w5 h5
   exact ⟨(0, w5, .slice none 0 0, []), Cov.au rfl rfl rfl rfl rfl, rfl, Nat.zero_le _, ⟨_, Lp.start st2 h5 (fun x hx => by simp at hx <;> omega)⟩, by simp, by simp, rfl⟩
  rintro ⟨j, V5, nv, next⟩ ⟨hj, ⟨base, lp⟩, hnl, hnc, hin⟩
  simp only at hj lp hnl hnc hin
  obtain ⟨an, cn, rfl⟩ := lp.own.form
  refine Branch.mk (fun hc4 => ?_) (fun hc4 => ?_)
  ·have hlt2 : j < out.length := by have := of_decide_eq_true hc4; simp only at this; omega
   have hg2 := List.getElem?_eq_getElem (l := out) (i := j) hlt2
   have hd2 := List.drop_eq_getElem_cons hlt2
   generalize out[j] = x at hg2 hd2
   have hxc := hoc x (List.mem_of_getElem? hg2)
   rw [hd2, inner_cons] at hin
   refine DrawI.go (.tk 0 (.tk 1 (.tk 2 (.tk 3 (.tk 4 (.tk 5 (.tk 6 (.tk 7 (.ev 8 (.tk 9 (.tk 10 (.tk 11 (.tk 12 (.tk 13 .done)))))))))))))) (by kernel_rfl) fun w4 h4 => ?_
   have lp4 := lp.at h4 (by simp)
   have hSo5 := hSo.st lp4.st
   have hS5 := hS.go h4.below h4.below.size
   refine hSo5.idx hg2 fun ad2 had2 => ?_
   refine hSo5.ld hg2 had2 (Below.refl _ _) (by simp) ?_
   refine hS5.idx hg fun ad had => ?_
   refine hS5.ld hg had (Below.refl _ _) (by simp) ?_
   apply CallI.use
   focus (exact fun w6 h6 => rless_any x b hxc hbc w6)
   rintro v w6 v6 h6 hB6 ⟨am, cm, rfl, hOm⟩
   have lp6 := (lp4.at h6 (by simp)).go hB6
   have hml := minus_len x b
   refine Branch.mk (fun hc5 => ?_) (fun hc5 => ?_)
   ·have he : (minus x b).2 ≠ 0 := by simpa using hc5
    rw [if_pos he] at hin
    rw [hin, if_pos he] at heq
    rw [heq]
    exact EndI.mk fun w9 h9 => ⟨_, _, rfl, Sl.nil⟩
   have he : (minus x b).2 = 0 := by simpa using hc5
   rw [if_neg (by simp [he])] at hin
   have hmc := Mi.minus_chk hxc hbc he
   have h66 := h6.size
   have h67 := hB6.size
   refine GenN.appR (α := Zn) elZ lp6 (fun y hy hm => by have h1 := lp.own.lt y hy; have q1 := lp.blk b1 (by simp); have q2 := lp.blk b2 (by simp); simp at hm; omega) (by simp) (minus x b).1 (fun w8 h8 => (hOm.sl.go h8.go h8.size).src) (by omega) (by decide) fun a' c' w8 w9 h8 lp9 hsz hbl => ?_
   refine Branch.mk (fun hc6 => ?_) (fun hc6 => ?_)
   ·have h4 : 4096 < (next ++ (minus x b).1).length := by have : (4096 : Int) < (next ++ (minus x b).1).length := by simpa using hc6
                                                          omega
    rw [if_pos h4] at hin
    rw [hin, if_pos (by decide)] at heq
    rw [heq]
    exact EndI.mk fun w9 h9 => ⟨_, _, rfl, Sl.nil⟩
   have h4 : ¬ 4096 < (next ++ (minus x b).1).length := by have : ¬ (4096 : Int) < (next ++ (minus x b).1).length := by simpa using hc6
                                                           omega
   rw [if_neg h4] at hin
   have ho : (out.length : Int) ≤ 4096 := by omega
   refine Need.mk (by simp only [inK]; omega) (EndI.mk fun w10 h10 => ⟨(j + 1, w10, .slice a' (next ++ (minus x b).1).length c', next ++ (minus x b).1), Cov.au rfl rfl rfl rfl rfl, rfl, ⟨hlt2, ⟨base, ?_⟩, Nat.le_of_not_lt h4, fun y hy => (List.mem_append.1 hy).elim (hnc y) (hmc y), hin⟩, by simp only; omega⟩)
   exact lp9.at h10 (by simp)
  ·have hge2 : j = out.length := by have := of_decide_eq_false hc4; simp only at this; omega
   subst hge2
   rw [List.drop_length] at hin
   have hin : inner b out [] = (next, 0) := hin
   rw [hin, if_neg (by simp)] at heq
   have hs5 := lp.size
   have q1 := lp.blk b1 (by simp)
   have q2 := lp.blk b2 (by simp)
   refine Need.mk (by simp only [inK]; omega) (EndI.mk fun w10 h10 => ⟨(i + 1, w10, .slice an next.length cn, next), Cov.au rfl rfl rfl rfl rfl, rfl, ⟨hlt, h10.below, (lp.at h10 (by simp)).own.sl, hnl, hnc, Nat.lt_of_lt_of_le (Nat.lt_of_lt_of_le q1 hs5) h10.size, Nat.lt_of_lt_of_le (Nat.lt_of_lt_of_le q2 hs5) h10.size, heq⟩, by simp only; omega⟩)
 ·have hge : i = l.length := by have := of_decide_eq_false hc3; simp only at this; omega
  subst hge
  rw [List.drop_length] at heq
  rw [heq]
  exact EndI.mk fun w9 h9 => ⟨_, _, rfl, hSo.go h9.go h9.size⟩
namespace Cv
theorem checked_two {a b : List Zn} : (a.length ≤ 4096 ∧ b.length ≤ 4096 ∧ (∀ z, z ∈ a → Zo.chk z = 0) ∧ (∀ z, z ∈ b → Zo.chk z = 0) → checked [a, b] = 0) ∧ (4096 < a.length ∨ 4096 < b.length → checked [a, b] = 4) ∧ (a.length ≤ 4096 → b.length ≤ 4096 → ((∃ z, z ∈ a ∧ Zo.chk z ≠ 0) ∨ ∃ z, z ∈ b ∧ Zo.chk z ≠ 0) → checked [a, b] = 8) := by
 unfold checked
 simp only [List.any_cons, List.any_nil, Bool.or_false, Bool.or_eq_true, decide_eq_true_eq]
 have ho : ∀ l : List Zn, l.any odd = true ↔ ∃ z, z ∈ l ∧ Zo.chk z ≠ 0 := fun l => by
  rw [List.any_eq_true]
  simp [odd]
 simp only [ho]
 refine ⟨fun ⟨h1, h2, h3, h4⟩ => ?_, fun h => ?_, fun h1 h2 h3 => ?_⟩
 ·rw [if_neg (by omega), if_neg]
  rintro (⟨z, hz, hc⟩ | ⟨z, hz, hc⟩)
  ·exact hc (h3 z hz)
  ·exact hc (h4 z hz)
 ·rw [if_pos h]
 ·rw [if_neg (by omega), if_pos h3]
def covered (z : Zn) (l : List Zn) : Bool × Int := (decide ((Mi.outer l [z]).2 = 0) && decide ((Mi.outer l [z]).1.length = 0), (Mi.outer l [z]).2)
theorem left_outer {z : Zn} {l : List Zn} (hz : Zo.chk z = 0) (hl : ∀ b, b ∈ l → Zo.chk b = 0) : Mi.left z l = Mi.outer l [z] := by
 unfold Mi.left
 rw [if_neg (by simp [hz]), if_neg (by rw [List.any_eq_true]; rintro ⟨x, hx, h⟩; simp [hl x hx] at h)]
theorem covered_in {z : Zn} {l : List Zn} (h4 : l.length ≤ 4096) (hz : Zo.chk z = 0) (hl : ∀ b, b ∈ l → Zo.chk b = 0) : covered z l = in_ z l := by
 unfold in_ covered
 rw [checked_two.1 ⟨h4, by simp, hl, by simp [hz]⟩, if_pos rfl, left_outer hz hl]
end Cv
theorem rcheck12_any (l m : List Zn) (hl : ∀ z, z ∈ l → Zo.i64 z) (hm : ∀ z, z ∈ m → Zo.i64 z) (a b : Option Addr) (ca cb : Nat) (w : World) (hS : Sl w.heap.size w (.slice a l.length ca) l) (hT : Sl w.heap.size w (.slice b m.length cb) m) :
 Calls Tryz.prog 174 #[.slice a l.length ca, .slice b m.length cb] w fun e w' => e = .returned (.int .i64 (Cv.checked [l, m])) ∧ Below w.heap.size w w' := by
 obtain ⟨k1, k2, k3⟩ := Cv.checked_two (a := l) (b := m)
 refine fun_eq 0 w Tryz.func174 (args := [.val (.slice a l.length ca), .val (.slice b m.length cb)]) rfl rfl ?_
 refine Branch.mk (fun z1 => ?_) (fun z1 => ?_)
 ·have h1 : 4096 < l.length := by have := of_decide_eq_true z1; omega
  rw [k2 (.inl h1)]
  exact EndI.mk fun w9 h9 => rfl
 have h1 : l.length ≤ 4096 := by have := of_decide_eq_false z1; omega
 refine Branch.mk (fun z2 => ?_) (fun z2 => ?_)
 ·have h2 : 4096 < m.length := by have := of_decide_eq_true z2; omega
  rw [k2 (.inr h2)]
  exact EndI.mk fun w9 h9 => rfl
 have h2 : m.length ≤ 4096 := by have := of_decide_eq_false z2; omega
 refine LoopI.invC (α := Nat × World) (fun y => [(5, .val (.int .i64 y.1))]) (fun y => y.2) (fun y => y.1 ≤ l.length ∧ Below w.heap.size w y.2 ∧ ∀ z, z ∈ l.take y.1 → Zo.chk z = 0) (fun y => l.length - y.1) ?_ ?_
 ·intro w1 h1
  exact ⟨(0, w1), Cov.au rfl rfl rfl rfl rfl, rfl, Nat.zero_le _, h1.below, by simp⟩
 rintro ⟨k, V⟩ ⟨hk, hV, hall⟩
 simp only at hk hV hall
 refine Branch.mk (fun z3 => ?_) (fun z3 => ?_)
 ·have hlt : k < l.length := by have := of_decide_eq_true z3; simp only at this; omega
  have hx := List.getElem?_eq_getElem (l := l) (i := k) hlt
  generalize l[k] = x at hx
  have hSV := hS.go hV hV.size
  refine hSV.idx hx fun ad had => ?_
  refine hSV.ld hx had (Below.refl _ _) (by simp) ?_
  apply CallI.use1
  focus (exact fun w3 h3 => rzmay_any x (hl x (List.mem_of_getElem? hx)) w3)
  intro w3 v3 h3 hB3
  by_cases hc : Zo.chk x = 0
  ·rw [decide_eq_true hc]
   refine Branch.no rfl ?_
   refine Need.mk (by simp only [inK]; omega) (EndI.mk fun w9 h9 => ⟨(k + 1, w9), Cov.au rfl rfl rfl rfl rfl, rfl, ⟨hlt, h9.below, fun y hy => ?_⟩, by simp only; omega⟩)
   simp only at hy
   rw [List.take_add_one, hx] at hy
   rcases List.mem_append.1 hy with hy | hy
   ·exact hall y hy
   ·rw [List.mem_singleton.1 hy]; exact hc
  ·rw [decide_eq_false hc]
   refine Branch.yes rfl ?_
   rw [k3 h1 h2 (.inl ⟨x, List.mem_of_getElem? hx, hc⟩)]
   exact EndI.mk fun w9 h9 => rfl
 have hge : k = l.length := by have := of_decide_eq_false z3; simp only at this; omega
 subst hge
 rw [List.take_length] at hall
 refine LoopI.invC (α := Nat × World) (fun y => [(6, .val (.int .i64 y.1))]) (fun y => y.2) (fun y => y.1 ≤ m.length ∧ Below w.heap.size w y.2 ∧ ∀ z, z ∈ m.take y.1 → Zo.chk z = 0) (fun y => m.length - y.1) ?_ ?_
 ·intro w1 h1
  exact ⟨(0, w1), Cov.au rfl rfl rfl rfl rfl, rfl, Nat.zero_le _, h1.below, by simp⟩
 rintro ⟨k, V2⟩ ⟨hk2, hV2, hall2⟩
 simp only at hk2 hV2 hall2
 refine Branch.mk (fun z4 => ?_) (fun z4 => ?_)
 ·have hlt : k < m.length := by have := of_decide_eq_true z4; simp only at this; omega
  have hx := List.getElem?_eq_getElem (l := m) (i := k) hlt
  generalize m[k] = x at hx
  have hSV := hT.go hV2 hV2.size
  refine hSV.idx hx fun ad had => ?_
  refine hSV.ld hx had (Below.refl _ _) (by simp) ?_
  apply CallI.use1
  focus (exact fun w3 h3 => rzmay_any x (hm x (List.mem_of_getElem? hx)) w3)
  intro w3 v3 h3 hB3
  by_cases hc : Zo.chk x = 0
  ·rw [decide_eq_true hc]
   refine Branch.no rfl ?_
   refine Need.mk (by simp only [inK]; omega) (EndI.mk fun w9 h9 => ⟨(k + 1, w9), Cov.au rfl rfl rfl rfl rfl, rfl, ⟨hlt, h9.below, fun y hy => ?_⟩, by simp only; omega⟩)
   simp only at hy
   rw [List.take_add_one, hx] at hy
   rcases List.mem_append.1 hy with hy | hy
   ·exact hall2 y hy
   ·rw [List.mem_singleton.1 hy]; exact hc
  ·rw [decide_eq_false hc]
   refine Branch.yes rfl ?_
   rw [k3 h1 h2 (.inr ⟨x, List.mem_of_getElem? hx, hc⟩)]
   exact EndI.mk fun w9 h9 => rfl
 have hge2 : k = m.length := by have := of_decide_eq_false z4; simp only at this; omega
 subst hge2
 rw [List.take_length] at hall2
 rw [k1 ⟨h1, h2, hall, hall2⟩]
 exact EndI.mk fun w9 h9 => rfl
theorem rcovered_any (z : Zn) (hz : Zo.chk z = 0) (l : List Zn) (hl : ∀ b, b ∈ l → Zo.chk b = 0) (a : Option Addr) (cap : Nat) (w : World) (hS : Sl w.heap.size w (.slice a l.length cap) l) :
 Calls Tryz.prog 199 #[.agg #[.int .i64 z.a, .int .i64 z.b, .int .i64 z.c, .int .i64 z.d, .int .i64 z.e, .int .i64 z.f], .slice a l.length cap] w fun e w' => e = .returned (.tuple #[.bool (Cv.covered z l).1, .int .i64 (Cv.covered z l).2]) ∧ Below w.heap.size w w' := by
 refine fun_eq 0 w Tryz.func199 (args := [.agg [.val (.int .i64 z.a), .val (.int .i64 z.b), .val (.int .i64 z.c), .val (.int .i64 z.d), .val (.int .i64 z.e), .val (.int .i64 z.f)], .val (.slice a l.length cap)]) rfl rfl ?_
 refine NewI.mk fun b1 hb1 => ?_
 apply CallI.use
 focus (exact fun w2 h2 => rrest_any z hz l hl a cap w2 (hS.go h2.below h2.below.size))
 rintro v w2 v2 h2 hB2 ⟨a2, c2, rfl, hS2⟩
 unfold Cv.covered
 generalize Mi.outer l [z] = X at *
 obtain ⟨x, e⟩ := X
 refine Branch.mk (fun hc2 => ?_) (fun hc2 => ?_)
 ·have h1 : e = 0 := by simpa using hc2
  subst h1
  exact EndI.mk fun w3 h3 => by simp
 ·have h1 : ¬ e = 0 := by simpa using hc2
  exact EndI.mk fun w3 h3 => by simp [h1]
theorem erase_step {l : List Zn} {k i : Nat} {x : Zn} (hx : l[k]? = some x) : (l.take (k + 1)).eraseIdx i = if k = i then (l.take k).eraseIdx i else (l.take k).eraseIdx i ++ [x] := by
 have hk := (List.getElem?_eq_some_iff.1 hx).1
 have hl : (l.take k).length = k := by rw [List.length_take]; omega
 rw [List.take_add_one, hx]
 show (l.take k ++ [x]).eraseIdx i = _
 by_cases h1 : i < k
 ·rw [if_neg (by omega), List.eraseIdx_append_of_lt_length (by omega)]
 ·by_cases h2 : k = i
  ·subst h2
   have h3 : (l.take k).eraseIdx k = l.take k := List.eraseIdx_of_length_le (by omega)
   rw [if_pos rfl, List.eraseIdx_append_of_length_le (by omega), hl, Nat.sub_self, h3]
   simp
  ·rw [if_neg h2, List.eraseIdx_of_length_le (by rw [List.length_append, hl]; simp; omega), List.eraseIdx_of_length_le (by omega)]
theorem rwithout_any (l : List Zn) (i : Nat) (hlen : l.length ≤ 4096) (a : Option Addr) (ca : Nat) (w : World) (hS : Sl w.heap.size w (.slice a l.length ca) l) :
 Calls Tryz.prog 200 #[.slice a l.length ca, .int .i64 (i : Nat)] w (Ret w fun v w' => Own 86 w.heap.size w' v (l.eraseIdx i)) := by
 refine fun_ret 0 w Tryz.func200 (args := [.val (.slice a l.length ca), .val (.int .i64 (i : Nat))]) rfl rfl ?_
 have st := Stay.first (w := w)
 refine LoopI.invC (α := Nat × World × Value) (fun y => [(6, .val (.int .i64 y.1)), (5, .val y.2.2)]) (fun y => y.2.1) (fun y => y.1 ≤ l.length ∧ Below w.heap.size w y.2.1 ∧ ∃ base, Lp ⟨w, w.heap.size, Nat.le_refl _⟩ [w] [] 86 base y.2.1 y.2.2 ((l.take y.1).eraseIdx i)) (fun y => l.length - y.1) ?_ ?_
 ·intro w1 h1
  exact ⟨(0, w1, .slice none 0 0), Cov.au rfl rfl rfl rfl rfl, rfl, Nat.zero_le _, h1.below, _, by simp only [List.take_zero, List.eraseIdx_nil]; exact Lp.start st h1 (by simp)⟩
 rintro ⟨k, V, ov⟩ ⟨hk, hV, base, lp⟩
 simp only at hk hV lp
 obtain ⟨ao, co, rfl⟩ := lp.own.form
 have hle : ((l.take k).eraseIdx i).length ≤ k := by
  have := List.length_eraseIdx_le (l.take k) i
  rw [List.length_take] at this; omega
 refine Branch.mk (fun z3 => ?_) (fun z3 => ?_)
 ·have hlt : k < l.length := by have := of_decide_eq_true z3; simp only at this; omega
  have hx := List.getElem?_eq_getElem (l := l) (i := k) hlt
  generalize l[k] = x at hx
  have hes := erase_step (i := i) hx
  refine Branch.mk (fun z4 => ?_) (fun z4 => ?_)
  ·have hne : k ≠ i := by have := of_decide_eq_true z4; simp only at this; omega
   rw [if_neg hne] at hes
   have hSV := hS.go hV hV.size
   refine hSV.idx hx fun ad had => ?_
   refine hSV.ld hx had (Below.refl _ _) (by simp) ?_
   refine NewI.mk fun b1 hb1 => ?_
   have hb1' : V.heap.size ≤ b1 := hb1
   refine GenN.appL (α := Zn) elZ lp (fun y hy => .inr (by simp at hy; omega)) (by simp) [x] (fun w8 h8 => src_own h8 0 rfl rfl rfl rfl) (by simp; omega) (by decide) fun a' c' w8 w9 h8 lp9 hsz hbl => ?_
   rw [← hes] at lp9 ⊢
   refine Need.mk (by simp only [inK]; omega) (EndI.mk fun w10 h10 => ⟨(k + 1, w10, .slice a' ((l.take (k + 1)).eraseIdx i).length c'), Cov.au rfl rfl rfl rfl rfl, rfl, ⟨hlt, h10.below, base, lp9.at h10 (by simp)⟩, by simp only; omega⟩)
  ·have he : k = i := by have := of_decide_eq_false z4; simp only at this; omega
   rw [if_pos he] at hes
   rw [← hes] at lp ⊢
   refine Need.mk (by simp only [inK]; omega) (EndI.mk fun w10 h10 => ⟨(k + 1, w10, .slice ao ((l.take (k + 1)).eraseIdx i).length co), Cov.au rfl rfl rfl rfl rfl, rfl, ⟨hlt, h10.below, base, lp.at h10 (by simp)⟩, by simp only; omega⟩)
 ·have hge : k = l.length := by have := of_decide_eq_false z3; simp only at this; omega
  subst hge
  rw [List.take_length] at lp ⊢
  refine EndI.mk fun w10 h10 => (lp.at h10 (by simp)).own.lower ?_
  exact lp.anc w (by simp)
theorem cmp_if (x y : Zn) : Zo.cmp x y = if x.a < y.a then -1 else if y.a < x.a then 1 else if x.b < y.b then -1 else if y.b < x.b then 1 else if x.c < y.c then -1 else if y.c < x.c then 1 else if x.d < y.d then -1 else if y.d < x.d then 1 else if x.e < y.e then -1 else if y.e < x.e then 1 else if x.f < y.f then -1 else if y.f < x.f then 1 else 0 := by
 have one : ∀ (a b t : Int), (if cmpI a b ≠ 0 then cmpI a b else t) = if a < b then -1 else if b < a then 1 else t := by
  intro a b t
  unfold cmpI
  split <;> (try split) <;> simp_all
 unfold Zo.cmp
 rw [one, one, one, one, one, one]
theorem rcmp08_any (x y : Zn) (w : World) :
 Calls Tryz.prog 213 #[.agg #[.int .i64 x.a, .int .i64 x.b, .int .i64 x.c, .int .i64 x.d, .int .i64 x.e, .int .i64 x.f], .agg #[.int .i64 y.a, .int .i64 y.b, .int .i64 y.c, .int .i64 y.d, .int .i64 y.e, .int .i64 y.f]] w fun e w' => e = .returned (.int .i64 (Zo.cmp x y)) ∧ Below w.heap.size w w' := by
 refine fun_eq 0 w Tryz.func213 (args := [.agg [.val (.int .i64 x.a), .val (.int .i64 x.b), .val (.int .i64 x.c), .val (.int .i64 x.d), .val (.int .i64 x.e), .val (.int .i64 x.f)], .agg [.val (.int .i64 y.a), .val (.int .i64 y.b), .val (.int .i64 y.c), .val (.int .i64 y.d), .val (.int .i64 y.e), .val (.int .i64 y.f)]]) rfl rfl ?_
 refine NewI.mk fun b1 hb1 => ?_
 refine NewI.mk fun b2 hb2 => ?_
 refine LoopI.rounds 7 ?_
 rw [cmp_if]
 obtain ⟨xa, xb, xc, xd, xe, xf⟩ := x
 obtain ⟨ya, yb, yc, yd, ye, yf⟩ := y
 refine Branch.yes rfl ?_
 refine DrawI.go (.tk 0 (.tk 1 (.tk 2 (.tk 3 (.tk 4 (.tk 5 (.tk 6 .done))))))) (by kernel_rfl) fun w1 h1 => ?_
 refine Need.mk (by decide) ?_
 refine Need.mk (by decide) ?_
 refine Branch.mk (fun z1 => ?_) (fun z1 => ?_)
 ·have hl : xa < ya := of_decide_eq_true z1
  simp only [if_pos hl]
  exact EndI.mk fun w9 h9 => rfl
 have hl : ¬ xa < ya := of_decide_eq_false z1
 simp only [if_neg hl]
 clear z1 hl
 refine DrawI.go (.tk 0 (.tk 1 (.tk 2 (.tk 3 (.tk 4 (.tk 5 (.tk 6 .done))))))) (by kernel_rfl) fun w1 h1 => ?_
 refine Need.mk (by decide) ?_
 refine Need.mk (by decide) ?_
 refine Branch.mk (fun z1 => ?_) (fun z1 => ?_)
 ·have hl : ya < xa := of_decide_eq_true z1
  simp only [if_pos hl]
  exact EndI.mk fun w9 h9 => rfl
 have hl : ¬ ya < xa := of_decide_eq_false z1
 simp only [if_neg hl]
 clear z1 hl
 refine Need.mk (by simp only [inK]; omega) ?_
 refine Branch.yes rfl ?_
 refine DrawI.go (.tk 0 (.tk 1 (.tk 2 (.tk 3 (.tk 4 (.tk 5 (.tk 6 .done))))))) (by kernel_rfl) fun w1 h1 => ?_
 refine Need.mk (by decide) ?_
 refine Need.mk (by decide) ?_
 refine Branch.mk (fun z1 => ?_) (fun z1 => ?_)
 ·have hl : xb < yb := of_decide_eq_true z1
  simp only [if_pos hl]
  exact EndI.mk fun w9 h9 => rfl
 have hl : ¬ xb < yb := of_decide_eq_false z1
 simp only [if_neg hl]
 clear z1 hl
 refine DrawI.go (.tk 0 (.tk 1 (.tk 2 (.tk 3 (.tk 4 (.tk 5 (.tk 6 .done))))))) (by kernel_rfl) fun w1 h1 => ?_
 refine Need.mk (by decide) ?_
 refine Need.mk (by decide) ?_
 refine Branch.mk (fun z1 => ?_) (fun z1 => ?_)
 ·have hl : yb < xb := of_decide_eq_true z1
  simp only [if_pos hl]
  exact EndI.mk fun w9 h9 => rfl
 have hl : ¬ yb < xb := of_decide_eq_false z1
 simp only [if_neg hl]
 clear z1 hl
 refine Need.mk (by simp only [inK]; omega) ?_
 refine Branch.yes rfl ?_
 refine DrawI.go (.tk 0 (.tk 1 (.tk 2 (.tk 3 (.tk 4 (.tk 5 (.tk 6 .done))))))) (by kernel_rfl) fun w1 h1 => ?_
 refine Need.mk (by decide) ?_
 refine Need.mk (by decide) ?_
 refine Branch.mk (fun z1 => ?_) (fun z1 => ?_)
 ·have hl : xc < yc := of_decide_eq_true z1
  simp only [if_pos hl]
  exact EndI.mk fun w9 h9 => rfl
 have hl : ¬ xc < yc := of_decide_eq_false z1
 simp only [if_neg hl]
 clear z1 hl
 refine DrawI.go (.tk 0 (.tk 1 (.tk 2 (.tk 3 (.tk 4 (.tk 5 (.tk 6 .done))))))) (by kernel_rfl) fun w1 h1 => ?_
 refine Need.mk (by decide) ?_
 refine Need.mk (by decide) ?_
 refine Branch.mk (fun z1 => ?_) (fun z1 => ?_)
 ·have hl : yc < xc := of_decide_eq_true z1
  simp only [if_pos hl]
  exact EndI.mk fun w9 h9 => rfl
 have hl : ¬ yc < xc := of_decide_eq_false z1
 simp only [if_neg hl]
 clear z1 hl
 refine Need.mk (by simp only [inK]; omega) ?_
 refine Branch.yes rfl ?_
 refine DrawI.go (.tk 0 (.tk 1 (.tk 2 (.tk 3 (.tk 4 (.tk 5 (.tk 6 .done))))))) (by kernel_rfl) fun w1 h1 => ?_
 refine Need.mk (by decide) ?_
 refine Need.mk (by decide) ?_
 refine Branch.mk (fun z1 => ?_) (fun z1 => ?_)
 ·have hl : xd < yd := of_decide_eq_true z1
  simp only [if_pos hl]
  exact EndI.mk fun w9 h9 => rfl
 have hl : ¬ xd < yd := of_decide_eq_false z1
 simp only [if_neg hl]
 clear z1 hl
 refine DrawI.go (.tk 0 (.tk 1 (.tk 2 (.tk 3 (.tk 4 (.tk 5 (.tk 6 .done))))))) (by kernel_rfl) fun w1 h1 => ?_
 refine Need.mk (by decide) ?_
 refine Need.mk (by decide) ?_
 refine Branch.mk (fun z1 => ?_) (fun z1 => ?_)
 ·have hl : yd < xd := of_decide_eq_true z1
  simp only [if_pos hl]
  exact EndI.mk fun w9 h9 => rfl
 have hl : ¬ yd < xd := of_decide_eq_false z1
 simp only [if_neg hl]
 clear z1 hl
 refine Need.mk (by simp only [inK]; omega) ?_
 refine Branch.yes rfl ?_
 refine DrawI.go (.tk 0 (.tk 1 (.tk 2 (.tk 3 (.tk 4 (.tk 5 (.tk 6 .done))))))) (by kernel_rfl) fun w1 h1 => ?_
 refine Need.mk (by decide) ?_
 refine Need.mk (by decide) ?_
 refine Branch.mk (fun z1 => ?_) (fun z1 => ?_)
 ·have hl : xe < ye := of_decide_eq_true z1
  simp only [if_pos hl]
  exact EndI.mk fun w9 h9 => rfl
 have hl : ¬ xe < ye := of_decide_eq_false z1
 simp only [if_neg hl]
 clear z1 hl
 refine DrawI.go (.tk 0 (.tk 1 (.tk 2 (.tk 3 (.tk 4 (.tk 5 (.tk 6 .done))))))) (by kernel_rfl) fun w1 h1 => ?_
 refine Need.mk (by decide) ?_
 refine Need.mk (by decide) ?_
 refine Branch.mk (fun z1 => ?_) (fun z1 => ?_)
 ·have hl : ye < xe := of_decide_eq_true z1
  simp only [if_pos hl]
  exact EndI.mk fun w9 h9 => rfl
 have hl : ¬ ye < xe := of_decide_eq_false z1
 simp only [if_neg hl]
 clear z1 hl
 refine Need.mk (by simp only [inK]; omega) ?_
 refine Branch.yes rfl ?_
 refine DrawI.go (.tk 0 (.tk 1 (.tk 2 (.tk 3 (.tk 4 (.tk 5 (.tk 6 .done))))))) (by kernel_rfl) fun w1 h1 => ?_
 refine Need.mk (by decide) ?_
 refine Need.mk (by decide) ?_
 refine Branch.mk (fun z1 => ?_) (fun z1 => ?_)
 ·have hl : xf < yf := of_decide_eq_true z1
  simp only [if_pos hl]
  exact EndI.mk fun w9 h9 => rfl
 have hl : ¬ xf < yf := of_decide_eq_false z1
 simp only [if_neg hl]
 clear z1 hl
 refine DrawI.go (.tk 0 (.tk 1 (.tk 2 (.tk 3 (.tk 4 (.tk 5 (.tk 6 .done))))))) (by kernel_rfl) fun w1 h1 => ?_
 refine Need.mk (by decide) ?_
 refine Need.mk (by decide) ?_
 refine Branch.mk (fun z1 => ?_) (fun z1 => ?_)
 ·have hl : yf < xf := of_decide_eq_true z1
  simp only [if_pos hl]
  exact EndI.mk fun w9 h9 => rfl
 have hl : ¬ yf < xf := of_decide_eq_false z1
 simp only [if_neg hl]
 clear z1 hl
 refine Need.mk (by simp only [inK]; omega) ?_
 refine Branch.no rfl ?_
 exact EndI.mk fun w9 h9 => rfl
end Go.Proofs.YtanhnllkccldhaaGreat
namespace Go.Proofs.YtanhnllkccldhaaGreat
set_option linter.unusedVariables false
set_option linter.unusedSimpArgs false
open Go.RowKit
namespace Cv
open Zo
def Nx (out : List Zn) (x : Zn) : Prop := ∀ y, out.getLast? = some y → Lt y x
def Sc (l out : List Zn) (i : Nat) (b : Int) : Prop :=
 (b = -1 ∧ ∀ k x, k < i → l[k]? = some x → ¬ Nx out x) ∨
 (∃ j y, b = (j : Nat) ∧ j < i ∧ l[j]? = some y ∧ Nx out y ∧ ∀ k x, k < i → l[k]? = some x → Nx out x → ¬ Lt x y)
theorem Sc.start (l out : List Zn) : Sc l out 0 (-1) := .inl ⟨rfl, fun k x h => by omega⟩
theorem Sc.skip {l out : List Zn} {i : Nat} {b : Int} {x : Zn} (h : Sc l out i b) (hx : l[i]? = some x) (hn : ¬ Nx out x) : Sc l out (i + 1) b := by
 rcases h with ⟨rfl, h⟩ | ⟨j, y, rfl, hj, hy, hn2, h⟩
 ·refine .inl ⟨rfl, fun k x' hk hx' => ?_⟩
  by_cases e : k = i
  ·subst e; rw [hx] at hx'; cases hx'; exact hn
  ·exact h k x' (by omega) hx'
 ·refine .inr ⟨j, y, rfl, by omega, hy, hn2, fun k x' hk hx' hn' => ?_⟩
  by_cases e : k = i
  ·subst e; rw [hx] at hx'; cases hx'; exact absurd hn' hn
  ·exact h k x' (by omega) hx' hn'
theorem Sc.first {l out : List Zn} {i : Nat} {x : Zn} (h : Sc l out i (-1)) (hx : l[i]? = some x) (hn : Nx out x) : Sc l out (i + 1) (i : Nat) := by
 rcases h with ⟨_, h⟩ | ⟨j, y, e, _⟩
 ·refine .inr ⟨i, x, rfl, by omega, hx, hn, fun k x' hk hx' hn' => ?_⟩
  by_cases e : k = i
  ·subst e; rw [hx] at hx'; cases hx'; exact Lt.irrefl _
  ·exact absurd hn' (h k x' (by omega) hx')
 ·omega
theorem Sc.keep {l out : List Zn} {i j : Nat} {x y : Zn} (h : Sc l out i (j : Nat)) (hx : l[i]? = some x) (hy : l[j]? = some y) (hn : ¬ Lt x y) : Sc l out (i + 1) (j : Nat) := by
 rcases h with ⟨e, _⟩ | ⟨j', y', e, hj, hy', hn2, h⟩
 ·omega
 ·have : j' = j := by omega
  subst this
  rw [hy] at hy'; cases hy'
  refine .inr ⟨j', y, rfl, by omega, hy, hn2, fun k x' hk hx' hn' => ?_⟩
  by_cases e : k = i
  ·subst e; rw [hx] at hx'; cases hx'; exact hn
  ·exact h k x' (by omega) hx' hn'
theorem Sc.less {l out : List Zn} {i j : Nat} {x y : Zn} (h : Sc l out i (j : Nat)) (hx : l[i]? = some x) (hy : l[j]? = some y) (hN : Nx out x) (hn : Lt x y) : Sc l out (i + 1) (i : Nat) := by
 rcases h with ⟨e, _⟩ | ⟨j', y', e, hj, hy', hn2, h⟩
 ·omega
 ·have : j' = j := by omega
  subst this
  rw [hy] at hy'; cases hy'
  refine .inr ⟨i, x, rfl, by omega, hx, hN, fun k x' hk hx' hn' hlt => ?_⟩
  by_cases e : k = i
  ·subst e; rw [hx] at hx'; cases hx'; exact Lt.irrefl _ hlt
  ·exact h k x' (by omega) hx' hn' (Lt.trans hlt hn)
theorem last_take {S : List Zn} {p : Nat} (hp : p ≤ S.length) : (S.take p).getLast? = if p = 0 then none else S[p - 1]? := by
 rw [List.getLast?_eq_getElem?, List.length_take, Nat.min_eq_left hp]
 by_cases h : p = 0
 ·subst h; simp
 ·rw [if_neg h, List.getElem?_take, if_pos (by omega)]
theorem strict_at {S : List Zn} (h : S.Pairwise Lt) {i j : Nat} {x y : Zn} (hx : S[i]? = some x) (hy : S[j]? = some y) (hij : i < j) : Lt x y := by
 obtain ⟨h1, rfl⟩ := List.getElem?_eq_some_iff.1 hx
 obtain ⟨h2, rfl⟩ := List.getElem?_eq_some_iff.1 hy
 exact List.pairwise_iff_getElem.1 h i j h1 h2 hij
theorem nx_at {S : List Zn} (h : S.Pairwise Lt) {p j : Nat} {x : Zn} (hp : p ≤ S.length) (hx : S[j]? = some x) : Nx (S.take p) x ↔ p ≤ j := by
 unfold Nx
 rw [last_take hp]
 constructor
 ·intro hn
  by_cases e : p = 0
  ·omega
  rw [if_neg e] at hn
  obtain ⟨y, hy⟩ : ∃ y, S[p - 1]? = some y := ⟨_, List.getElem?_eq_getElem (by omega)⟩
  have hlt := hn y hy
  refine Nat.le_of_not_lt fun hj => ?_
  by_cases e2 : j = p - 1
  ·subst e2; rw [hx] at hy; cases hy; exact Lt.irrefl _ hlt
  ·exact Lt.irrefl _ (Lt.trans hlt (strict_at h hx hy (by omega)))
 ·intro hpj y hy
  by_cases e : p = 0
  ·rw [if_pos e] at hy; cases hy
  ·rw [if_neg e] at hy
   exact strict_at h hy hx (by omega)
theorem Sc.done {l : List Zn} {p : Nat} (hp : p ≤ (sorted l).length) (h : Sc l ((sorted l).take p) l.length (-1)) : (sorted l).take p = sorted l := by
 rcases h with ⟨_, h⟩ | ⟨j, y, e, _⟩
 ·refine List.take_of_length_le (Nat.le_of_not_lt fun hlt => ?_)
  have hx := List.getElem?_eq_getElem hlt
  obtain ⟨k, hk⟩ := List.mem_iff_getElem?.1 ((sorted_mem l _).1 (List.mem_of_getElem? hx))
  exact h k _ (List.getElem?_eq_some_iff.1 hk).1 hk ((nx_at (sorted_strict l) hp hx).2 (Nat.le_refl _))
 ·omega
theorem Sc.more {l : List Zn} {p j : Nat} {y : Zn} (hp : p ≤ (sorted l).length) (h : Sc l ((sorted l).take p) l.length (j : Nat)) (hy : l[j]? = some y) : (sorted l)[p]? = some y := by
 rcases h with ⟨e, _⟩ | ⟨j', y', e, hj, hy', hn2, h⟩
 ·omega
 ·have : j' = j := by omega
  subst this
  rw [hy] at hy'; cases hy'
  obtain ⟨q, hq⟩ := List.mem_iff_getElem?.1 ((sorted_mem l y).2 (List.mem_of_getElem? hy))
  have hpq := (nx_at (sorted_strict l) hp hq).1 hn2
  by_cases e : p = q
  ·rw [e]; exact hq
  have hql := (List.getElem?_eq_some_iff.1 hq).1
  have hx := List.getElem?_eq_getElem (l := sorted l) (i := p) (by omega)
  obtain ⟨k, hk⟩ := List.mem_iff_getElem?.1 ((sorted_mem l _).1 (List.mem_of_getElem? hx))
  exact absurd (strict_at (sorted_strict l) hx hq (by omega)) (h k _ (List.getElem?_eq_some_iff.1 hk).1 hk ((nx_at (sorted_strict l) hp hx).2 (Nat.le_refl _)))
end Cv
end Go.Proofs.YtanhnllkccldhaaGreat
namespace Go.Proofs.YtanhnllkccldhaaGreat
set_option linter.unusedVariables false
set_option linter.unusedSimpArgs false
set_option maxRecDepth 100000
open Go.RowKit Go.Proofs.YtanhnllkccldhaaGreat.Eng Enc
namespace Zo
theorem cmpI_gt (x y : Int) : 0 < cmpI x y ↔ y < x := by unfold cmpI; split <;> (try split) <;> omega
theorem step_gt {x y c : Int} {P : Prop} (h : 0 < c ↔ P) : 0 < (if cmpI x y ≠ 0 then cmpI x y else c) ↔ (y < x ∨ y = x ∧ P) := by
 have h1 := cmpI_gt x y
 have h2 := cmpI_eq x y
 by_cases hc : cmpI x y = 0
 ·rw [if_neg (by simp [hc]), h]
  have := h2.1 hc
  constructor
  ·intro hp; exact .inr ⟨this.symm, hp⟩
  ·rintro (hl | ⟨_, hp⟩)
   ·omega
   ·exact hp
 ·rw [if_pos hc, h1]
  constructor
  ·exact .inl
  ·rintro (hl | ⟨he, _⟩)
   ·exact hl
   ·exact absurd (h2.2 he.symm) hc
theorem cmp_gt (x y : Zn) : 0 < cmp x y ↔ Lt y x := by
 unfold cmp Lt
 exact step_gt (step_gt (step_gt (step_gt (step_gt (step_gt (by simp))))))
end Zo
namespace Cv
theorem Sc.neg {l out : List Zn} {i : Nat} {b : Int} (h : Sc l out i b) (hb : b < 0) : b = -1 := by
 rcases h with ⟨rfl, _⟩ | ⟨j, y, rfl, _⟩ <;> omega
theorem Sc.pos {l out : List Zn} {i : Nat} {b : Int} (h : Sc l out i b) (hb : ¬ b < 0) : ∃ j y, b = (j : Nat) ∧ j < i ∧ l[j]? = some y := by
 rcases h with ⟨rfl, _⟩ | ⟨j, y, rfl, hj, hy, _⟩
 ·omega
 ·exact ⟨j, y, rfl, hj, hy⟩
end Cv
theorem rsorted_any (l : List Zn) (hlen : l.length ≤ 4096) (a : Option Addr) (ca : Nat) (w : World) (hS : Sl w.heap.size w (.slice a l.length ca) l) :
 Calls Tryz.prog 198 #[.slice a l.length ca] w (Ret w fun v w' => Own 86 w.heap.size w' v (Cv.sorted l)) := by
 refine fun_ret 0 w Tryz.func198 (args := [.val (.slice a l.length ca)]) rfl rfl ?_
 have st := Stay.first (w := w)
 have hsl : (Cv.sorted l).length ≤ 4096 := Nat.le_trans (Cv.sorted_len l) hlen
 refine LoopI.invC (α := Nat × World × Value) (fun y => [(3, .val y.2.2)]) (fun y => y.2.1) (fun y => y.1 ≤ (Cv.sorted l).length ∧ Below w.heap.size w y.2.1 ∧ ∃ base, Lp ⟨w, w.heap.size, Nat.le_refl _⟩ [w] [] 86 base y.2.1 y.2.2 ((Cv.sorted l).take y.1)) (fun y => (Cv.sorted l).length - y.1) ?_ ?_
 ·intro w1 h1
  exact ⟨(0, w1, .slice none 0 0), Cov.au rfl rfl rfl rfl rfl, rfl, Nat.zero_le _, h1.below, _, by simp only [List.take_zero]; exact Lp.start st h1 (by simp)⟩
 rintro ⟨p, V, ov⟩ ⟨hp, hV, base, lp0⟩
 simp only at hp hV lp0
 obtain ⟨ao, co, rfl⟩ := lp0.own.form
 have hlenT : ((Cv.sorted l).take p).length = p := by rw [List.length_take, Nat.min_eq_left hp]
 generalize hout : (Cv.sorted l).take p = out at *
 refine LoopI.invC (α := Nat × World × Int) (fun y => [(4, .val (.int .i64 y.2.2)), (5, .val (.int .i64 y.1))]) (fun y => y.2.1) (fun y => y.1 ≤ l.length ∧ Below w.heap.size w y.2.1 ∧ Lp ⟨w, w.heap.size, Nat.le_refl _⟩ [w] [] 86 base y.2.1 (.slice ao out.length co) out ∧ Cv.Sc l out y.1 y.2.2) (fun y => l.length - y.1) ?_ ?_
 ·intro w1 h1
  exact ⟨(0, w1, -1), Cov.au rfl rfl rfl rfl rfl, rfl, Nat.zero_le _, h1.below, lp0.at h1 (by simp), Cv.Sc.start _ _⟩
 rintro ⟨k, U, best⟩ ⟨hk, hU, lp, hSc⟩
 simp only at hk hU lp hSc
 have hSU := hS.go hU hU.size
 refine Branch.mk (fun z3 => ?_) (fun z3 => ?_)
 ·have hlt : k < l.length := by have := of_decide_eq_true z3; simp only at this; omega
  have hx := List.getElem?_eq_getElem (l := l) (i := k) hlt
  generalize l[k] = x at hx
  refine DrawI.go (.tk 0 (.tk 1 (.tk 2 (.tk 3 (.tk 4 (.tk 5 (.tk 6 (.tk 7 (.tk 8 (.tk 9 (.tk 10 (.tk 11 (.tk 12 (.tk 13 (.ev 14 (.tk 15 (.tk 16 (.tk 17 .done)))))))))))))))))) (by kernel_rfl) fun w2 h2 => ?_
  refine Branch.mk (fun z4 => ?_) (fun z4 => ?_)
  ·have hz : out.length = 0 := by have := of_decide_eq_true z4; omega
   have hN : Cv.Nx out x := fun y hy => by rw [List.length_eq_zero_iff.1 hz] at hy; cases hy
   refine DrawI.go (.tk 0 (.tk 1 (.tk 2 (.tk 3 (.tk 4 (.tk 5 (.tk 6 (.tk 7 (.tk 8 (.tk 9 (.tk 10 (.tk 11 (.tk 12 (.ev 13 (.tk 14 (.tk 15 (.tk 16 .done))))))))))))))))) (by kernel_rfl) fun w4 h4 => ?_
   have lpT := (lp.at h2 (by simp)).at h4 (by simp)
   have hST := hS.go h4.below h4.below.size
   refine Branch.mk (fun z6 => ?_) (fun z6 => ?_)
   ·have hb : best = -1 := hSc.neg (of_decide_eq_true z6)
    subst hb
    have hSc2 := hSc.first hx hN
    refine Need.mk (by simp only [inK]; omega) (EndI.mk fun w10 h10 => ⟨(k + 1, w10, (k : Nat)), Cov.au rfl rfl rfl rfl rfl, rfl, ⟨hlt, h10.below, lpT.at h10 (by simp), hSc2⟩, by simp only; omega⟩)
   ·obtain ⟨j, y2, rfl, hjk, hy2⟩ := hSc.pos (of_decide_eq_false z6)
    refine hST.idx hx fun ad5 had5 => ?_
    refine hST.ld hx had5 (Below.refl _ _) (by simp) ?_
    refine hST.idx hy2 fun ad6 had6 => ?_
    refine hST.ld hy2 had6 (Below.refl _ _) (by simp) ?_
    apply CallI.use1
    focus (exact fun w5 h5 => rcmp08_any x y2 w5)
    intro w5 v5 h5 hB5
    refine Branch.mk (fun z7 => ?_) (fun z7 => ?_)
    ·have hl : Zo.Lt x y2 := (Zo.cmp_lt x y2).1 (of_decide_eq_true z7)
     have hSc2 := hSc.less hx hy2 hN hl
     refine Need.mk (by simp only [inK]; omega) (EndI.mk fun w10 h10 => ⟨(k + 1, w10, (k : Nat)), Cov.au rfl rfl rfl rfl rfl, rfl, ⟨hlt, h10.below, ((lpT.at h5 (by simp)).go hB5).at h10 (by simp), hSc2⟩, by simp only; omega⟩)
    ·have hl : ¬ Zo.Lt x y2 := fun h => of_decide_eq_false z7 ((Zo.cmp_lt x y2).2 h)
     have hSc2 := hSc.keep hx hy2 hl
     refine Need.mk (by simp only [inK]; omega) (EndI.mk fun w10 h10 => ⟨(k + 1, w10, (j : Nat)), Cov.au rfl rfl rfl rfl rfl, rfl, ⟨hlt, h10.below, ((lpT.at h5 (by simp)).go hB5).at h10 (by simp), hSc2⟩, by simp only; omega⟩)
  ·have hz : out.length ≠ 0 := by have := of_decide_eq_false z4; omega
   have hSw := hSU.go h2.go h2.go.size
   refine hSw.idx hx fun ad had => ?_
   refine hSw.ld hx had (Below.refl _ _) (by simp) ?_
   refine Need.mk (by simp only [inK]; omega) ?_
   have hlpw := lp.at h2 (by simp)
   obtain ⟨y, hy⟩ : ∃ y, out[out.length - 1]? = some y := ⟨_, List.getElem?_eq_getElem (by omega)⟩
   have hix : ((out.length : Nat) : Int) - 1 = ((out.length - 1 : Nat) : Int) := by omega
   conv => whnf
   rw [hix]
   refine hlpw.own.sl.idx (k := out.length - 1) hy fun ad2 had2 => ?_
   refine hlpw.own.sl.ld hy had2 (Below.refl _ _) (by simp) ?_
   apply CallI.use1
   focus (exact fun w3 h3 => rcmp08_any x y w3)
   intro w3 v3 h3 hB3
   have hNx : Cv.Nx out x ↔ 0 < Zo.cmp x y := by
    rw [Zo.cmp_gt]
    unfold Cv.Nx
    rw [List.getLast?_eq_getElem?, hy]
    exact ⟨fun h => h y rfl, fun h y2 e => by cases e; exact h⟩
   refine DrawI.go (.tk 0 (.tk 1 (.tk 2 (.tk 3 (.tk 4 (.tk 5 (.tk 6 (.tk 7 (.tk 8 (.tk 9 (.tk 10 (.tk 11 (.tk 12 (.ev 13 (.tk 14 (.tk 15 (.tk 16 .done))))))))))))))))) (by kernel_rfl) fun w4 h4 => ?_
   have lpT := ((hlpw.at h3 (by simp)).go hB3).at h4 (by simp)
   refine Branch.mk (fun z5 => ?_) (fun z5 => ?_)
   ·have hN := hNx.2 (of_decide_eq_true z5)
    have hST := hS.go h4.below h4.below.size
    refine Branch.mk (fun z6 => ?_) (fun z6 => ?_)
    ·have hb : best = -1 := hSc.neg (of_decide_eq_true z6)
     subst hb
     have hSc2 := hSc.first hx hN
     refine Need.mk (by simp only [inK]; omega) (EndI.mk fun w10 h10 => ⟨(k + 1, w10, (k : Nat)), Cov.au rfl rfl rfl rfl rfl, rfl, ⟨hlt, h10.below, lpT.at h10 (by simp), hSc2⟩, by simp only; omega⟩)
    ·obtain ⟨j, y2, rfl, hjk, hy2⟩ := hSc.pos (of_decide_eq_false z6)
     refine hST.idx hx fun ad5 had5 => ?_
     refine hST.ld hx had5 (Below.refl _ _) (by simp) ?_
     refine hST.idx hy2 fun ad6 had6 => ?_
     refine hST.ld hy2 had6 (Below.refl _ _) (by simp) ?_
     apply CallI.use1
     focus (exact fun w5 h5 => rcmp08_any x y2 w5)
     intro w5 v5 h5 hB5
     refine Branch.mk (fun z7 => ?_) (fun z7 => ?_)
     ·have hl : Zo.Lt x y2 := (Zo.cmp_lt x y2).1 (of_decide_eq_true z7)
      have hSc2 := hSc.less hx hy2 hN hl
      refine Need.mk (by simp only [inK]; omega) (EndI.mk fun w10 h10 => ⟨(k + 1, w10, (k : Nat)), Cov.au rfl rfl rfl rfl rfl, rfl, ⟨hlt, h10.below, ((lpT.at h5 (by simp)).go hB5).at h10 (by simp), hSc2⟩, by simp only; omega⟩)
     ·have hl : ¬ Zo.Lt x y2 := fun h => of_decide_eq_false z7 ((Zo.cmp_lt x y2).2 h)
      have hSc2 := hSc.keep hx hy2 hl
      refine Need.mk (by simp only [inK]; omega) (EndI.mk fun w10 h10 => ⟨(k + 1, w10, (j : Nat)), Cov.au rfl rfl rfl rfl rfl, rfl, ⟨hlt, h10.below, ((lpT.at h5 (by simp)).go hB5).at h10 (by simp), hSc2⟩, by simp only; omega⟩)
   ·have hN : ¬ Cv.Nx out x := fun h => of_decide_eq_false z5 (hNx.1 h)
    have hSc2 := hSc.skip hx hN
    refine Need.mk (by simp only [inK]; omega) (EndI.mk fun w10 h10 => ⟨(k + 1, w10, best), Cov.au rfl rfl rfl rfl rfl, rfl, ⟨hlt, h10.below, lpT.at h10 (by simp), hSc2⟩, by simp only; omega⟩)
 ·have hge : k = l.length := by have := of_decide_eq_false z3; simp only at this; omega
  subst hge
  refine Branch.mk (fun z4 => ?_) (fun z4 => ?_)
  ·have hb : best = -1 := hSc.neg (of_decide_eq_true z4)
   subst hb
   have he : out = Cv.sorted l := by rw [← hout] at hSc ⊢; exact hSc.done hp
   rw [he] at lp
   refine EndI.mk fun w10 h10 => ?_
   have := (lp.at h10 (by simp)).own.lower (lp.anc w (by simp))
   rw [← he] at this ⊢
   exact this
  ·obtain ⟨j, y, rfl, hjk, hy⟩ := hSc.pos (of_decide_eq_false z4)
   have hm : (Cv.sorted l)[p]? = some y := by rw [← hout] at hSc; exact hSc.more hp hy
   have hpl := (List.getElem?_eq_some_iff.1 hm).1
   have htk : (Cv.sorted l).take (p + 1) = out ++ [y] := by rw [List.take_add_one, hm, hout]; rfl
   refine hSU.idx hy fun ad had => ?_
   refine hSU.ld hy had (Below.refl _ _) (by simp) ?_
   refine NewI.mk fun b1 hb1 => ?_
   have hb1' : U.heap.size ≤ b1 := hb1
   refine GenN.appL (α := Zn) elZ lp (fun y hy => .inr (by simp at hy; omega)) (by simp) [y] (fun w8 h8 => src_own h8 0 rfl rfl rfl rfl) (by simp; omega) (by decide) fun a' c' w8 w9 h8 lp9 hsz hbl => ?_
   refine EndI.mk fun w10 h10 => ⟨(p + 1, w10, .slice a' (out ++ [y]).length c'), Cov.au rfl rfl rfl rfl rfl, rfl, ⟨hpl, h10.below, base, by simp only [htk]; exact lp9.at h10 (by simp)⟩, by simp only; omega⟩
theorem rwantedO_any (l : List Zn) (hl : ∀ z, z ∈ l → Zo.chk z = 0) (hlen : l.length ≤ 4096) (a : Option Addr) (ca : Nat) (w : World) (hS : Sl w.heap.size w (.slice a l.length ca) l) :
 Calls Tryz.prog 175 #[.slice a l.length ca] w (Ret w fun v w' => ∃ a' c', v = .tuple #[.slice a' (Cv.pgo (Cv.sorted l).length (Cv.sorted l)).1.length c', .int .i64 (Cv.pgo (Cv.sorted l).length (Cv.sorted l)).2] ∧ Own TZ w.heap.size w' (.slice a' (Cv.pgo (Cv.sorted l).length (Cv.sorted l)).1.length c') (Cv.pgo (Cv.sorted l).length (Cv.sorted l)).1) := by
 refine fun_ret 0 w Tryz.func175 (args := [.val (.slice a l.length ca)]) rfl rfl ?_
 have hsl : (Cv.sorted l).length ≤ 4096 := Nat.le_trans (Cv.sorted_len l) hlen
 have hsc : ∀ z, z ∈ Cv.sorted l → Zo.chk z = 0 := fun z hz => hl z ((Cv.sorted_mem l z).1 hz)
 apply CallI.use
 focus (exact fun w1 h1 => rsorted_any l hlen a ca w1 (hS.go h1.below h1.below.size))
 rintro v w1 v1 h1 hB1 hO1
 obtain ⟨a1, c1, rfl⟩ := hO1.form
 generalize Cv.sorted l = S at *
 refine Need.mk (by simp only [inK]; omega) ?_
 refine LoopI.invC (α := Int × World × Value × List Zn) (fun y => [(5, .val (.int .i64 y.1)), (4, .val y.2.2.1)]) (fun y => y.2.1) (fun y => -1 ≤ y.1 ∧ y.1 < y.2.2.2.length ∧ y.2.2.2.length ≤ 4096 ∧ Below w.heap.size w y.2.1 ∧ Own TZ w.heap.size y.2.1 y.2.2.1 y.2.2.2 ∧ (∀ z, z ∈ y.2.2.2 → Zo.chk z = 0) ∧ Cv.pgo S.length S = Cv.pgo (y.1 + 1).toNat y.2.2.2) (fun y => (y.1 + 1).toNat) ?_ ?_
 ·intro w2 h2
  exact ⟨((S.length : Int) - 1, w2, .slice a1 S.length c1, S), Cov.au rfl rfl rfl rfl rfl, rfl, by simp only; omega, by simp only; omega, hsl, h2.below, (hO1.lower h1.below.size).below h2.go, hsc, by simp⟩
 rintro ⟨i, V, ov, out⟩ ⟨hi, hi2, ho4, hV, hSo, hoc, heq⟩
 simp only at hi hi2 ho4 hV hSo hoc heq
 obtain ⟨ao, co, rfl⟩ := hSo.form
 refine Branch.mk (fun z3 => ?_) (fun z3 => ?_)
 ·have hge : 0 ≤ i := by have := of_decide_eq_true z3; exact this
  obtain ⟨k, rfl⟩ := Int.eq_ofNat_of_zero_le hge
  have hlt : k < out.length := by omega
  have hx := List.getElem?_eq_getElem (l := out) (i := k) hlt
  generalize out[k] = x at hx
  have hxc := hoc x (List.mem_of_getElem? hx)
  rw [show (((k : Nat) : Int) + 1).toNat = k + 1 by omega, Cv.pgo_succ hx] at heq
  refine DrawI.go (.tk 0 (.tk 1 (.tk 2 (.tk 3 (.tk 4 (.tk 5 (.ev 6 (.ev 7 (.tk 8 (.tk 9 (.tk 10 (.tk 11 (.tk 12 .done))))))))))))) (by kernel_rfl) fun w3 h3 => ?_
  have hO3 := hSo.below h3.go
  have hS3 := hO3.sl
  refine hS3.idx hx fun ad had => ?_
  refine hS3.ld hx had (Below.refl _ _) (by simp) ?_
  apply CallI.use
  focus (exact fun w4 h4 => rwithout_any out k ho4 ao co w4 (hS3.go h4.go h4.go.size))
  rintro v w4 v4 h4 hB4 hO4
  obtain ⟨a4, c4, rfl⟩ := hO4.form
  have hec : ∀ z, z ∈ out.eraseIdx k → Zo.chk z = 0 := fun z hz => hoc z (List.mem_of_mem_eraseIdx hz)
  have hel : (out.eraseIdx k).length ≤ 4096 := by have := List.length_eraseIdx_le out k; omega
  have hcv := fun w h => rcovered_any x hxc (out.eraseIdx k) hec a4 c4 w h
  rw [Cv.covered_in hel hxc hec] at hcv
  apply CallI.use1
  focus (exact fun w5 h5 => hcv w5 (hO4.sl.go h5.go h5.go.size))
  intro w5 v5 h5 hB5
  generalize Cv.in_ x (out.eraseIdx k) = I at heq
  obtain ⟨is, e⟩ := I
  simp only at heq
  have hOv := (((hO3.below h4.go).below hB4).below h5.go).below hB5
  refine Branch.mk (fun z4 => ?_) (fun z4 => ?_)
  ·have he : e ≠ 0 := of_decide_eq_true z4
   rw [if_pos he] at heq
   rw [heq]
   exact EndI.mk fun w9 h9 => ⟨_, _, rfl, Own.nil⟩
  have he : e = 0 := by have := of_decide_eq_false z4; simpa using this
  subst he
  rw [if_neg (by simp)] at heq
  refine Branch.mk (fun z5 => ?_) (fun z5 => ?_)
  ·have hi : is = true := by simpa using z5
   subst hi
   rw [if_pos rfl] at heq
   apply CallI.use
   focus (exact fun w6 h6 => rwithout_any out k ho4 ao co w6 (hOv.below h6.go).sl)
   rintro v w6 v6 h6 hB6 hO6
   obtain ⟨a6, c6, rfl⟩ := hO6.form
   have hle : (out.eraseIdx k).length = out.length - 1 := List.length_eraseIdx_of_lt hlt
   refine Need.mk (by simp only [inK]; omega) (EndI.mk fun w10 h10 => ⟨(((k : Nat) : Int) - 1, w10, .slice a6 (out.eraseIdx k).length c6, out.eraseIdx k), Cov.au rfl rfl rfl rfl rfl, rfl, ⟨by simp only; omega, by simp only; omega, hel, h10.below, (hO6.lower h6.below.size).below h10.go, hec, by rw [heq]; simp⟩, by simp only; omega⟩)
  ·have hi : is = false := by simpa using z5
   subst hi
   rw [if_neg (by simp)] at heq
   refine Need.mk (by simp only [inK]; omega) (EndI.mk fun w10 h10 => ⟨(((k : Nat) : Int) - 1, w10, .slice ao out.length co, out), Cov.au rfl rfl rfl rfl rfl, rfl, ⟨by simp only; omega, by simp only; omega, ho4, h10.below, hOv.below h10.go, hoc, by rw [heq]; simp⟩, by simp only; omega⟩)
 ·have hlt : i = -1 := by have := of_decide_eq_false z3; omega
  subst hlt
  rw [show ((-1 : Int) + 1).toNat = 0 by omega, Cv.pgo] at heq
  rw [heq]
  exact EndI.mk fun w9 h9 => ⟨_, _, rfl, hSo.below h9.go⟩
theorem rprune12O_any (l : List Zn) (hl : ∀ z, z ∈ l → Zo.i64 z) (a : Option Addr) (ca : Nat) (w : World) (hS : Sl w.heap.size w (.slice a l.length ca) l) :
 Calls Tryz.prog 128 #[.slice a l.length ca] w (Ret w fun v w' => ∃ a' c', v = .tuple #[.slice a' (Cv.prune l).1.length c', .int .i64 (Cv.prune l).2] ∧ Own TZ w.heap.size w' (.slice a' (Cv.prune l).1.length c') (Cv.prune l).1) := by
 refine fun_ret 0 w Tryz.func128 (args := [.val (.slice a l.length ca)]) rfl rfl ?_
 have hone : Cv.checked [l, []] = Cv.checked [l] := by
  unfold Cv.checked
  simp
 apply CallI.use1
 focus (exact fun w1 h1 => rcheck12_any l [] hl (by simp) a none ca 0 w1 (hS.go h1.below h1.below.size) (Sl.nil ..))
 intro w1 v1 h1 hB1
 rw [hone]
 unfold Cv.prune
 refine Branch.mk (fun z3 => ?_) (fun z3 => ?_)
 ·have he : Cv.checked [l] ≠ 0 := of_decide_eq_true z3
  rw [if_pos he]
  exact EndI.mk fun w9 h9 => ⟨_, _, rfl, Own.nil⟩
 have he : Cv.checked [l] = 0 := by have := of_decide_eq_false z3; simpa using this
 rw [if_neg (by simp [he])]
 obtain ⟨hlen, hc⟩ := Cv.checked_one.1 he
 have hS1 := (hS.go h1.below h1.below.size).go hB1 hB1.size
 apply CallI.use
 focus (exact fun w2 h2 => rwantedO_any l hc hlen a ca w2 (hS1.go h2.go h2.go.size))
 rintro v w2 v2 h2 hB2 ⟨a2, c2, rfl, hO2⟩
 exact EndI.mk fun w9 h9 => ⟨_, _, rfl, (hO2.lower h2.below.size).below h9.go⟩
theorem same11_any (l m : List Zn) (a : Option Addr) (cap : Nat) (b : Option Addr) (cb : Nat) (w : World) (hS : Sl w.heap.size w (.slice a l.length cap) l) (hT : Sl w.heap.size w (.slice b m.length cb) m) :
 Calls Tryz.prog 83 #[.slice a l.length cap, .slice b m.length cb] w fun e w' => e = .returned (.bool (decide (l = m))) ∧ Below w.heap.size w w' := by
 refine fun_eq 0 w Tryz.func83 (args := [.val (.slice a l.length cap), .val (.slice b m.length cb)]) rfl rfl ?_
 obtain ⟨_, _, hfe, hcap1, hcap2, _⟩ := hS.form
 injection hfe with _ _ hfe
 subst hfe
 unfold maxLen at hcap2
 refine Branch.mk (fun hc => ?_) (fun hc => ?_)
 ·have hne : l.length ≠ m.length := by have := of_decide_eq_true hc; omega
  refine EndI.mk fun w9 h9 => ?_
  rw [decide_eq_false (fun e => hne (by rw [e]))]
 have hlm : l.length = m.length := by have := of_decide_eq_false hc; omega
 refine LoopI.invC (α := Nat × World) (fun y => [(5, .val (.int .i64 y.1))]) (fun y => y.2) (fun y => y.1 ≤ l.length ∧ Below w.heap.size w y.2 ∧ l.take y.1 = m.take y.1) (fun y => l.length - y.1) ?_ ?_
 ·intro w1 h1
  exact ⟨(0, w1), Cov.au rfl rfl rfl rfl rfl, rfl, Nat.zero_le _, h1.below, rfl⟩
 rintro ⟨k, V⟩ ⟨hk, hV, hall⟩
 simp only at hk hV hall
 refine Branch.mk (fun hc2 => ?_) (fun hc2 => ?_)
 ·have hlt : k < l.length := by have := of_decide_eq_true hc2; simp only at this; omega
  have hx := List.getElem?_eq_getElem (l := l) (i := k) hlt
  have hy := List.getElem?_eq_getElem (l := m) (i := k) (by omega)
  generalize l[k] = x at hx
  generalize m[k]'(by omega) = y at hy
  refine DrawI.go (.tk 0 (.tk 1 (.tk 2 (.tk 3 (.tk 4 (.tk 5 (.tk 6 (.tk 7 (.ev 8 .done))))))))) (by kernel_rfl) fun w4 h4 => ?_
  have hg4 : Below V.heap.size V w4 := h4.go
  have hw4 := hV.trans (hg4.mono hV.size)
  have hS4 := hS.go hw4 hw4.size
  have hT4 := hT.go hw4 hw4.size
  refine hS4.idx hx fun ad had => ?_
  refine hS4.ld hx had (Below.refl _ _) (by simp) ?_
  refine hT4.idx hy fun ad2 had2 => ?_
  refine hT4.ld hy had2 (Below.refl _ _) (by simp) ?_
  refine GenV.to (x := .bool (decide (x ≠ y))) (fun w => run_neq_znG _ _ x y w) fun w5 h5 => ?_
  refine Branch.mk (fun hc3 => ?_) (fun hc3 => ?_)
  ·have hne : x ≠ y := by simpa using hc3
   refine EndI.mk fun w9 h9 => ?_
   rw [decide_eq_false (fun e => hne (by rw [e, hy] at hx; injection hx with hx; exact hx.symm))]
  ·have he : x = y := by simpa using hc3
   refine Need.mk (by simp only [inK]; omega) (EndI.mk fun w9 h9 => ⟨(k + 1, w9), Cov.au rfl rfl rfl rfl rfl, rfl, ⟨hlt, h9.below, ?_⟩, by simp only; omega⟩)
   simp only
   rw [List.take_add_one, List.take_add_one, hall, hx, hy, he]
 ·have hge : k = l.length := by have := of_decide_eq_false hc2; simp only at this; omega
  subst hge
  rw [List.take_length, hlm, List.take_length] at hall
  refine EndI.mk fun w9 h9 => ?_
  rw [decide_eq_true hall]
namespace Zs
theorem chk_i64 {z : Zn} (h : Zo.chk z = 0) : Zo.i64 z := Mi.clo_int64 (Zo.clo h).2
end Zs
theorem rof13_any (l : List Zn) (hl : ∀ z, z ∈ l → Zo.i64 z) (a : Option Addr) (ca : Nat) (w : World) (hS : Sl w.heap.size w (.slice a l.length ca) l) :
 Calls Tryz.prog 82 #[.slice a l.length ca] w (Ret w fun v w' => ∃ a' c', v = .tuple #[.slice a' (Cv.prune l).1.length c', .int .i64 (Cv.prune l).2] ∧ Own TZ w.heap.size w' (.slice a' (Cv.prune l).1.length c') (Cv.prune l).1) := by
 refine fun_ret 0 w Tryz.func82 (args := [.val (.slice a l.length ca)]) rfl rfl ?_
 apply CallI.use
 focus (exact fun w2 h2 => rprune12O_any l hl a ca w2 (hS.go h2.below h2.below.size))
 rintro v w2 v2 h2 hB2 ⟨a2, c2, rfl, hO2⟩
 exact EndI.mk fun w9 h9 => ⟨a2, c2, rfl, (hO2.lower h2.below.size).below (at_belowM h9 (by simp))⟩
theorem rmay13_any (l : List Zn) (hl : ∀ z, z ∈ l → Zo.i64 z) (a : Option Addr) (ca : Nat) (w : World) (hS : Sl w.heap.size w (.slice a l.length ca) l) :
 Calls Tryz.prog 46 #[.slice a l.length ca] w fun e w' => e = .returned (.bool (decide ((Cv.prune l).2 = 0) && decide (l = (Cv.prune l).1))) ∧ Below w.heap.size w w' := by
 refine fun_eq 0 w Tryz.func46 (args := [.val (.slice a l.length ca)]) rfl rfl ?_
 have st := Stay.first (w := w)
 apply CallI.use
 focus (exact fun w2 h2 => rof13_any l hl a ca w2 (hS.st (st.at h2)))
 rintro v w2 v2 h2 hB2 ⟨a2, c2, rfl, hO2⟩
 have st := st.nx h2 hB2
 refine Branch.mk (fun hc => ?_) (fun hc => ?_)
 ·skip
  apply CallI.use1
  focus (exact fun w3 h3 => same11_any l (Cv.prune l).1 a ca a2 c2 w3 (hS.st (st.at h3)) ((hO2.st (st.at h3)).sl))
  intro w3 v3 h3 hB3
  have st := st.nx h3 hB3
  exact EndI.mk fun w9 h9 => by rw [hc]; rfl
 ·exact EndI.mk fun w9 h9 => by rw [hc]; rfl
theorem Sl.ldx {α : Type} [Enc α] {n : Nat} {W w : World} {L : List Nat} {a : Option Addr} {ad : Addr} {m cap : Nat} {l : List α} (h : Sl n W (.slice a m cap) l) {k : Nat} {x : α} (hk : l[k]? = some x) (had : a = some ad) (hB : Below n W w) (hL : ∀ b, b ∈ L → n ≤ b) {i : Nat} {c : Value} (hc : (enc x)[i]? = some c) {K : Value → Prop} (hK : K c) :
 LoadI w L ((ad.add ((k : Int).toNat * size α)).add i) K := by
 subst had
 obtain ⟨h1, h2⟩ := h.cell hk hB
 refine ⟨⟨_, ⟨h2 i c hc, fun e => ?_⟩, hK⟩⟩
 have hb : ∀ (q : Addr) (j : Nat), (q.add j).block = q.block := fun q j => by unfold Addr.add; split <;> rfl
 rw [hb, hb] at e
 have := hL _ e; omega
namespace Tb
def lng : Int → List Zn → Int
 | o, [] => o
 | o, z :: l => if z.c = 9223372036854775807 then 7 else lng (max o (min 7 (z.c / 2))) l
theorem lng_cons (o : Int) (z : Zn) (l : List Zn) : lng o (z :: l) = if z.c = 9223372036854775807 then 7 else lng (max o (min 7 (z.c / 2))) l := rfl
theorem lng_ge : ∀ (l : List Zn) (o : Int), o ≤ 7 → o ≤ lng o l ∧ lng o l ≤ 7
 | [], o, h => ⟨Int.le_refl _, h⟩
 | z :: l, o, h => by
   rw [lng_cons]
   split
   ·exact ⟨h, by omega⟩
   ·have := lng_ge l (max o (min 7 (z.c / 2))) (by omega)
    omega
theorem lng_mem : ∀ (l : List Zn) (o : Int), o ≤ 7 → lng o l ≤ 6 → ∀ z, z ∈ l → z.c ≤ 2 * lng o l + 1
 | [], o, _, _, z, hz => (nomatch hz)
 | x :: l, o, ho, h, z, hz => by
   rw [lng_cons] at h ⊢
   split at h
   ·omega
   ·rename_i hn
    rw [if_neg hn]
    rcases List.mem_cons.1 hz with rfl | hz
    ·have := lng_ge l (max o (min 7 (z.c / 2))) (by omega)
     omega
    ·exact lng_mem l _ (by omega) h z hz
def may (l : List Zn) : Bool := !Cl.odd l && (decide ((Cv.prune l).2 = 0) && decide (l = (Cv.prune l).1))
end Tb
set_option maxHeartbeats 1000000 in
theorem rlong24_any (l : List Zn) (hi : ∀ z, z ∈ l → Zo.i64 z) (a : Option Addr) (cap : Nat) (w : World) (hS : Sl w.heap.size w (.slice a l.length cap) l) :
 Calls Tryz.prog 14 #[.slice a l.length cap] w fun e w' => e = .returned (.int .i64 (Tb.lng 0 l)) ∧ Below w.heap.size w w' := by
 refine fun_eq 0 w Tryz.func14 (args := [.val (.slice a l.length cap)]) rfl rfl ?_
 obtain ⟨_, _, hfe, hcap1, hcap2, _⟩ := hS.form
 injection hfe with _ _ hfe
 subst hfe
 unfold maxLen at hcap2
 refine LoopI.invC (α := Nat × Int × World) (fun y => [(3, .val (.int .i64 y.2.1)), (4, .val (.int .i64 y.1))]) (fun y => y.2.2) (fun y => y.1 ≤ l.length ∧ Below w.heap.size w y.2.2 ∧ (0 ≤ y.2.1 ∧ y.2.1 ≤ 7) ∧ Tb.lng y.2.1 (l.drop y.1) = Tb.lng 0 l) (fun y => l.length - y.1) ?_ ?_
 ·intro w1 h1
  exact ⟨(0, 0, w1), Cov.au rfl rfl rfl rfl rfl, rfl, Nat.zero_le _, h1.below, by simp, rfl⟩
 rintro ⟨k, o, V⟩ ⟨hk, hV, ho, hall⟩
 simp only at hk hV ho hall
 refine Branch.mk (fun hc2 => ?_) (fun hc2 => ?_)
 ·have hlt : k < l.length := by have := of_decide_eq_true hc2; simp only at this; omega
  have hx := List.getElem?_eq_getElem (l := l) (i := k) hlt
  have hdm : l.drop k = l[k]'hlt :: l.drop (k + 1) := List.drop_eq_getElem_cons hlt
  have hxi := hi _ (List.getElem_mem hlt)
  generalize l[k]'hlt = x at hx hdm hxi
  have hxc : -9223372036854775808 ≤ x.c ∧ x.c ≤ 9223372036854775807 := hxi x.c (by simp [Zo.matL])
  rw [hdm, Tb.lng_cons] at hall
  have hS4 := hS.go hV hV.size
  refine hS4.idx hx fun ad had => ?_
  refine Need.mk (by decide) ?_
  refine hS4.ldx hx had (Below.refl _ _) (by simp) (i := 2) (c := .int .i64 x.c) rfl ?_
  refine Branch.mk (fun hc3 => ?_) (fun hc3 => ?_)
  ·have hn : x.c = 9223372036854775807 := by simpa using hc3
   rw [if_pos hn] at hall
   refine EndI.mk fun w9 h9 => ?_
   rw [hall]
  ·have hn : ¬ x.c = 9223372036854775807 := by simpa using hc3
   rw [if_neg hn] at hall
   apply CallI.use1
   focus (exact fun w4 h4 => (rnumber_any x.c hxc.1 hxc.2 w4).mono fun e w' ⟨he, hw⟩ => ⟨he, hw ▸ Below.refl _ _⟩)
   intro w4 v4 h4 hB4
   have hml : maxL o [minL 7 [x.c / 2]] = max o (min 7 (x.c / 2)) := by simp only [maxL, minL, List.foldl_cons, List.foldl_nil]; omega
   rw [← hml] at hall
   refine Need.mk (by simp only [inK]; omega) (EndI.mk fun w9 h9 => ⟨(k + 1, maxL o [minL 7 [x.c / 2]], w9), Cov.au rfl rfl rfl rfl rfl, rfl, ⟨hlt, h9.below, by simp only; rw [hml]; omega, hall⟩, by simp only; omega⟩)
 ·have hge : k = l.length := by have := of_decide_eq_false hc2; simp only at this; omega
  subst hge
  rw [List.drop_length] at hall
  refine EndI.mk fun w9 h9 => ?_
  rw [← hall]; rfl
set_option maxHeartbeats 1000000 in
theorem rmaylist_any (l : List Zn) (hi : ∀ z, z ∈ l → Zo.i64 z) (a : Option Addr) (cap : Nat) (w : World) (hS : Sl w.heap.size w (.slice a l.length cap) l) :
 Calls Tryz.prog 18 #[.slice a l.length cap] w fun e w' => e = .returned (.bool (Tb.may l)) ∧ Below w.heap.size w w' := by
 refine fun_eq 0 w Tryz.func18 (args := [.val (.slice a l.length cap)]) rfl rfl ?_
 obtain ⟨_, _, hfe, hcap1, hcap2, _⟩ := hS.form
 injection hfe with _ _ hfe
 subst hfe
 unfold maxLen at hcap2
 refine LoopI.invC (α := Nat × World) (fun y => [(3, .val (.int .i64 y.1))]) (fun y => y.2) (fun y => y.1 ≤ l.length ∧ Below w.heap.size w y.2 ∧ (l.drop y.1).any Cl.oddZ = l.any Cl.oddZ) (fun y => l.length - y.1) ?_ ?_
 ·intro w1 h1
  exact ⟨(0, w1), Cov.au rfl rfl rfl rfl rfl, rfl, Nat.zero_le _, h1.below, rfl⟩
 rintro ⟨k, V⟩ ⟨hk, hV, hall⟩
 simp only at hk hV hall
 refine Branch.mk (fun hc2 => ?_) (fun hc2 => ?_)
 ·have hlt : k < l.length := by have := of_decide_eq_true hc2; simp only at this; omega
  have hx := List.getElem?_eq_getElem (l := l) (i := k) hlt
  have hdm : l.drop k = l[k]'hlt :: l.drop (k + 1) := List.drop_eq_getElem_cons hlt
  generalize l[k]'hlt = x at hx hdm
  rw [hdm, List.any_cons] at hall
  have hS4 := hS.go hV hV.size
  have yes : Cl.oddZ x = true → Tb.may l = false := fun h => by
   rw [h, Bool.true_or] at hall
   unfold Tb.may Cl.odd
   rw [← hall]; rfl
  refine hS4.idx hx fun ad had => ?_
  refine Need.mk (by decide) ?_
  refine hS4.ldx hx had (Below.refl _ _) (by simp) (i := 1) (c := .int .i64 x.b) rfl ?_
  refine Branch.mk (fun hc3 => ?_) (fun hc3 => ?_)
  ·rw [yes (by unfold Cl.oddZ; simp at hc3; simp [hc3])]
   exact EndI.mk fun w9 h9 => rfl
  ·refine hS4.idx hx fun ad2 had2 => ?_
   refine Need.mk (by decide) ?_
   refine hS4.ldx hx had2 (Below.refl _ _) (by simp) (i := 5) (c := .int .i64 x.f) rfl ?_
   refine Branch.mk (fun hc4 => ?_) (fun hc4 => ?_)
   ·rw [yes (by unfold Cl.oddZ; simp at hc4; simp [hc4])]
    exact EndI.mk fun w9 h9 => rfl
   ·have hn : Cl.oddZ x = false := by unfold Cl.oddZ; simp at hc3 hc4; simp [hc3, hc4]
    rw [hn, Bool.false_or] at hall
    refine Need.mk (by simp only [inK]; omega) (EndI.mk fun w9 h9 => ⟨(k + 1, w9), Cov.au rfl rfl rfl rfl rfl, rfl, ⟨hlt, h9.below, hall⟩, by simp only; omega⟩)
 ·have hge : k = l.length := by have := of_decide_eq_false hc2; simp only at this; omega
  subst hge
  rw [List.drop_length] at hall
  apply CallI.use1
  focus (exact fun w4 h4 => rmay13_any l hi a cap w4 (hS.go h4.below h4.below.size))
  intro w4 v4 h4 hB4
  refine EndI.mk fun w9 h9 => ?_
  unfold Tb.may Cl.odd
  rw [← hall]; rfl
end Go.Proofs.YtanhnllkccldhaaGreat
namespace Go.Proofs.YtanhnllkccldhaaGreat
set_option linter.unusedVariables false
set_option linter.unusedSimpArgs false
open Go.RowKit Go.Proofs.YtanhnllkccldhaaGreat.Eng Enc
namespace Cl
open Cv Zs Ky Cmp
def great (old p : List Zn) : Bool := decide (40 < old.length) || decide (40 < p.length) || decide (6 < Tb.lng 0 old) || decide (6 < Tb.lng 0 p)
def longOf (old p : List Zn) : Int := max 1 (max (Tb.lng 0 old) (Tb.lng 0 p))
theorem great_no {old p : List Zn} (h : great old p = false) : (old.length ≤ 40 ∧ p.length ≤ 40) ∧ (1 ≤ longOf old p ∧ longOf old p ≤ 6) ∧ (∀ z, z ∈ old → z.c ≤ 2 * longOf old p + 1) ∧ ∀ z, z ∈ p → z.c ≤ 2 * longOf old p + 1 := by
 unfold great at h
 simp only [Bool.or_eq_false_iff, decide_eq_false_iff_not] at h
 obtain ⟨⟨⟨h1, h2⟩, h3⟩, h4⟩ := h
 unfold longOf
 have g3 := Tb.lng_ge old 0 (by omega)
 have g4 := Tb.lng_ge p 0 (by omega)
 refine ⟨⟨by omega, by omega⟩, by omega, fun z hz => ?_, fun z hz => ?_⟩
 ·have := Tb.lng_mem old 0 (by omega) (by omega) z hz
  omega
 ·have := Tb.lng_mem p 0 (by omega) (by omega) z hz
  omega
theorem chk_good {old p : List Zn} {cz cr : Int} (hg : great old p = false) (h : chk old p cz cr = 0) : Good (longOf old p) old ∧ Good (longOf old p) p := by
 obtain ⟨_, h2, h3, h4⟩ := great_no hg
 unfold chk at h
 split at h
 ·cases h
 split at h
 ·cases h
 rename_i h5
 simp only [not_or, Classical.not_not, Bool.not_eq_true] at h5
 exact ⟨good_check h2 h5.1 h5.2.2.1 h3, good_check h2 h5.2.1 h5.2.2.2 h4⟩
structure Fin (long : Int) (old p l : List Zn) (ls : List (List Zn)) : Prop where
 gl : Good long l
 gs : ∀ x, x ∈ ls → Good long x
 part : ∀ t, Pts p t → Pts l t
 shut : Shut p l
 old : ∀ t, Thru (Pts old) (Pts p) t → Pts l t
 nil : ls = [] → l = []
 last : ls ≠ [] → ls[ls.length - 1]? = some l
 step : ∀ (m : Nat) (a b : List Zn), ls[m]? = some a → ls[m + 1]? = some b → (∀ t, Pts a t → Pts b t) ∧ ∃ t, Pts b t ∧ ¬ Pts a t
theorem lst_get (a : List Zn) (ms : List (List Zn)) : (a :: ms)[(a :: ms).length - 1]? = some (lst a ms) := by
 rw [← List.getLast?_eq_getElem?]
 exact lst_last a ms
end Cl
end Go.Proofs.YtanhnllkccldhaaGreat
namespace Go.Proofs.YtanhnllkccldhaaGreat
set_option linter.unusedVariables false
set_option linter.unusedSimpArgs false
set_option maxRecDepth 100000
open Go.RowKit Go.Proofs.YtanhnllkccldhaaGreat.Eng Enc
instance encBool : Enc Bool := ⟨fun x => [.bool x], 1, fun _ => rfl, by decide, fun _ v hv => by rw [List.mem_singleton.1 hv]; rfl, fun x => .bool x⟩
abbrev TBo : TypeId := 4
theorem elBo : ElOk Tryz.prog 98 TBo 1 1 := elOk (z := .bool false) Tryz.underlying98 (by kernel_rfl) rfl (by decide)
theorem infoBo : (Tryz.prog.info? TBo).map (fun i => i.zero.map fun v => v.cells.toList) = some (some [Value.bool false]) := by kernel_rfl
theorem elIn : ElOk Tryz.prog 48 TKi 1 8 := elOk (z := .int .i64 0) Tryz.underlying48 (by kernel_rfl) rfl (by decide)
theorem cellsBool (l : List Bool) : cellsL l = l.map Value.bool := by
 induction l with
 | nil => rfl
 | cons x l ih => simp only [cellsL, ih, List.map_cons]; rfl
def BRow (W : World) (g : Nat) (l : List Bool) : Prop := ∃ cur : Array Value, W.heap[g]? = some (.cells cur TBo (0, 0)) ∧ ∀ (k : Nat) (x : Bool), l[k]? = some x → cur[k]? = some (.bool x)
theorem BRow.lt {W : World} {g : Nat} {l : List Bool} (h : BRow W g l) : g < W.heap.size := by
 obtain ⟨cur, c, _⟩ := h
 exact (Array.getElem?_eq_some_iff.1 c).1
theorem BRow.kept {W X : World} {g : Nat} {l : List Bool} (h : BRow W g l) (e : X.heap[g]? = W.heap[g]?) : BRow X g l := by
 obtain ⟨cur, c, d⟩ := h
 exact ⟨cur, e.trans c, d⟩
theorem BRow.below {W X : World} {g : Nat} {l : List Bool} (h : BRow W g l) (hB : Below W.heap.size W X) : BRow X g l := h.kept (hB.block _ h.lt)
theorem BRow.at {w0 : Base} {hp : List LB} {r L : List Nat} {w w1 : World} {g : Nat} {l : List Bool} (h : BRow w g l) (h1 : At w0 hp r L w w1) (hL : g ∉ L) : BRow w1 g l := h.kept (h1.step g h.lt hL)
theorem BRow.cell {W : World} {g : Nat} {l : List Bool} (h : BRow W g l) {k : Nat} {x : Bool} (hk : l[k]? = some x) : W.cell? ⟨g, k, none⟩ = some (.bool x) := by
 obtain ⟨cur, c, d⟩ := h
 simp [World.cell?, c, d k x hk]
theorem BRow.frozen {W : World} {g : Nat} {l : List Bool} (h : BRow W g l) (j : Nat) : W.frozen? ⟨g, j, none⟩ = false := by
 obtain ⟨cur, c, _⟩ := h
 simp [World.frozen?, c]
theorem BRow.set {W : World} {g : Nat} {l : List Bool} (h : BRow W g l) {k : Nat} (hk : k < l.length) (x : Bool) : BRow (W.setCell ⟨g, k, none⟩ (.bool x)) g (l.set k x) := by
 obtain ⟨cur, c, d⟩ := h
 have hks : k < cur.size := by
  have := d k _ (List.getElem?_eq_getElem hk)
  exact (Array.getElem?_eq_some_iff.1 this).1
 refine ⟨cur.setIfInBounds k (.bool x), ?_, fun i y hi => ?_⟩
 ·simp only [World.setCell]
  rw [Array.getElem?_modify, if_pos rfl, c]
  rfl
 ·by_cases hik : i = k
  ·subst hik
   rw [List.getElem?_set_self hk] at hi
   injection hi with hi; subst hi
   simp [hks]
  ·rw [List.getElem?_set_ne (fun h => hik h.symm)] at hi
   rw [Array.getElem?_setIfInBounds_ne (fun h => hik h.symm)]
   exact d i y hi
theorem BRow.other {W : World} {g q j : Nat} {l : List Bool} {v : Value} (h : BRow W g l) (hne : g ≠ q) : BRow (W.setCell ⟨q, j, none⟩ v) g l := h.kept (setCell_neM hne)
theorem BRow.of {base : Nat} {W : World} {a : Option Addr} {c : Nat} {l : List Bool} (h : Own TBo base W (.slice a l.length c) l) (hn : 0 < l.length) : ∃ g, a = some ⟨g, 0, none⟩ ∧ base ≤ g ∧ l.length ≤ c ∧ c ≤ maxLen ∧ BRow W g l := by
 obtain ⟨hl, ⟨e, h0⟩ | ⟨g, cap, cur, e1, e2, e3, e4, e5, e6, e7⟩⟩ := h
 ·omega
 ·injection e1 with e1 e1' e1''
  subst e1''
  refine ⟨g, e1, e2, e4, e5, cur, e3, fun k x hk => ?_⟩
  rw [cellsBool] at e7
  have e7' : cur.toList.take l.length = l.map Value.bool := by simpa [Enc.size] using e7
  have h1 : (cur.toList.take l.length)[k]? = some (.bool x) := by rw [e7', List.getElem?_map, hk]; rfl
  rw [List.getElem?_take] at h1
  split at h1
  ·rw [← h1, Array.getElem?_toList]
  ·cases h1
theorem BRow.sl {W : World} {g c : Nat} {l : List Bool} (h : BRow W g l) (h1 : l.length ≤ c) (h2 : c ≤ maxLen) : Sl W.heap.size W (.slice (some ⟨g, 0, none⟩) l.length c) l := by
 refine ⟨_, _, rfl, h1, h2, (fun e => nomatch e), fun k x hk => ⟨g, 0, rfl, h.lt, fun i c hi => ?_⟩⟩
 have hc := h.cell hk
 match i, hi with
 | 0, hi =>
   injection hi with hi; subst hi
   rw [show 0 + (k * size Bool + 0) = k by show 0 + (k * 1 + 0) = k; omega]
   exact hc
theorem rsame14_any (l m : List Int) (a : Option Addr) (cap : Nat) (b : Option Addr) (cb : Nat) (w : World) (hS : Sl w.heap.size w (.slice a l.length cap) l) (hT : Sl w.heap.size w (.slice b m.length cb) m) :
 Calls Tryz.prog 22 #[.slice a l.length cap, .slice b m.length cb] w fun e w' => e = .returned (.bool (decide (l = m))) ∧ Below w.heap.size w w' := by
 refine fun_eq 0 w Tryz.func22 (args := [.val (.slice a l.length cap), .val (.slice b m.length cb)]) rfl rfl ?_
 obtain ⟨_, _, hfe, hcap1, hcap2, _⟩ := hS.form
 injection hfe with _ _ hfe
 subst hfe
 unfold maxLen at hcap2
 refine Branch.mk (fun hc => ?_) (fun hc => ?_)
 ·have hne : l.length ≠ m.length := by have := of_decide_eq_true hc; omega
  refine EndI.mk fun w9 h9 => ?_
  rw [decide_eq_false (fun e => hne (by rw [e]))]
 have hlm : l.length = m.length := by have := of_decide_eq_false hc; omega
 refine LoopI.invC (α := Nat × World) (fun y => [(5, .val (.int .i64 y.1))]) (fun y => y.2) (fun y => y.1 ≤ l.length ∧ Below w.heap.size w y.2 ∧ l.take y.1 = m.take y.1) (fun y => l.length - y.1) ?_ ?_
 ·intro w1 h1
  exact ⟨(0, w1), Cov.au rfl rfl rfl rfl rfl, rfl, Nat.zero_le _, h1.below, rfl⟩
 rintro ⟨k, V⟩ ⟨hk, hV, hall⟩
 simp only at hk hV hall
 refine Branch.mk (fun hc2 => ?_) (fun hc2 => ?_)
 ·have hlt : k < l.length := by have := of_decide_eq_true hc2; simp only at this; omega
  have hx := List.getElem?_eq_getElem (l := l) (i := k) hlt
  have hy := List.getElem?_eq_getElem (l := m) (i := k) (by omega)
  generalize l[k] = x at hx
  generalize m[k]'(by omega) = y at hy
  refine DrawI.go (.tk 0 (.tk 1 (.tk 2 (.tk 3 (.tk 4 (.tk 5 (.tk 6 (.tk 7 (.tk 8 .done))))))))) (by kernel_rfl) fun w4 h4 => ?_
  have hg4 : Below V.heap.size V w4 := h4.go
  have hw4 := hV.trans (hg4.mono hV.size)
  have hS4 := hS.go hw4 hw4.size
  have hT4 := hT.go hw4 hw4.size
  refine hS4.idx hx fun ad had => ?_
  refine hS4.ld1 hx had (Below.refl _ _) (by simp) ?_
  refine hT4.idx hy fun ad2 had2 => ?_
  refine hT4.ld1 hy had2 (Below.refl _ _) (by simp) ?_
  refine Branch.mk (fun hc3 => ?_) (fun hc3 => ?_)
  ·have hne : x ≠ y := by simpa using hc3
   refine EndI.mk fun w9 h9 => ?_
   rw [decide_eq_false (fun e => hne (by rw [e, hy] at hx; injection hx with hx; exact hx.symm))]
  ·have he : x = y := by simpa using hc3
   refine Need.mk (by simp only [inK]; omega) (EndI.mk fun w9 h9 => ⟨(k + 1, w9), Cov.au rfl rfl rfl rfl rfl, rfl, ⟨hlt, h9.below, ?_⟩, by simp only; omega⟩)
   simp only
   rw [List.take_add_one, List.take_add_one, hall, hx, hy, he]
 ·have hge : k = l.length := by have := of_decide_eq_false hc2; simp only at this; omega
  subst hge
  rw [List.take_length, hlm, List.take_length] at hall
  refine EndI.mk fun w9 h9 => ?_
  rw [decide_eq_true hall]
namespace Rg
def pkTo (s : List Bool) (k : Nat) : List Int := ((List.range k).filter fun n => s[n]?.getD false).map Int.ofNat
theorem pkTo_step {s : List Bool} {k : Nat} {x : Bool} (hx : s[k]? = some x) : pkTo s (k + 1) = if x = true then pkTo s k ++ [(k : Int)] else pkTo s k := by
 unfold pkTo
 rw [List.range_succ, List.filter_append, List.map_append]
 simp only [List.filter_cons, List.filter_nil, hx, Option.getD_some]
 cases x <;> simp
theorem pkTo_len (s : List Bool) (k : Nat) : (pkTo s k).length ≤ k := by
 unfold pkTo
 rw [List.length_map]
 have := List.length_filter_le (fun n => s[n]?.getD false) (List.range k)
 rw [List.length_range] at this; exact this
end Rg
theorem rpick14_any (s : List Bool) (hlen : s.length ≤ 4096) (a : Option Addr) (ca : Nat) (w : World) (hS : Sl w.heap.size w (.slice a s.length ca) s) :
 Calls Tryz.prog 51 #[.slice a s.length ca] w (Ret w fun v w' => Own TKi w.heap.size w' v (Rg.pkTo s s.length)) := by
 refine fun_ret 0 w Tryz.func51 (args := [.val (.slice a s.length ca)]) rfl rfl ?_
 have st := Stay.first (w := w)
 refine LoopI.invC (α := Nat × World × Value) (fun y => [(4, .val (.int .i64 y.1)), (3, .val y.2.2)]) (fun y => y.2.1) (fun y => y.1 ≤ s.length ∧ Below w.heap.size w y.2.1 ∧ ∃ base, Lp ⟨w, w.heap.size, Nat.le_refl _⟩ [w] [] TKi base y.2.1 y.2.2 (Rg.pkTo s y.1)) (fun y => s.length - y.1) ?_ ?_
 ·intro w1 h1
  exact ⟨(0, w1, .slice none 0 0), Cov.au rfl rfl rfl rfl rfl, rfl, Nat.zero_le _, h1.below, _, Lp.start st h1 (by simp)⟩
 rintro ⟨k, V, ov⟩ ⟨hk, hV, base, lp⟩
 simp only at hk hV lp
 obtain ⟨ao, co, rfl⟩ := lp.own.form
 have hle := Rg.pkTo_len s k
 refine Branch.mk (fun z3 => ?_) (fun z3 => ?_)
 ·have hlt : k < s.length := by have := of_decide_eq_true z3; simp only at this; omega
  have hx := List.getElem?_eq_getElem (l := s) (i := k) hlt
  generalize s[k] = x at hx
  have hes := Rg.pkTo_step hx
  have hSV := hS.go hV hV.size
  refine hSV.idx hx fun ad had => ?_
  refine hSV.ldv hx rfl had (Below.refl _ _) (by simp) ?_
  refine Branch.mk (fun z4 => ?_) (fun z4 => ?_)
  ·rw [if_pos z4] at hes
   refine NewI.mk fun b1 hb1 => ?_
   have hb1' : V.heap.size ≤ b1 := hb1
   refine GenN.appL (α := Int) elIn lp (fun y hy => .inr (by simp at hy; omega)) (by simp) [(k : Int)] (fun w8 h8 => src_own h8 0 rfl rfl rfl rfl) (by simp; omega) (by decide) fun a' c' w8 w9 h8 lp9 hsz hbl => ?_
   rw [← hes] at lp9 ⊢
   refine Need.mk (by simp only [inK]; omega) (EndI.mk fun w10 h10 => ⟨(k + 1, w10, .slice a' (Rg.pkTo s (k + 1)).length c'), Cov.au rfl rfl rfl rfl rfl, rfl, ⟨hlt, h10.below, base, lp9.at h10 (by simp)⟩, by simp only; omega⟩)
  ·rw [if_neg (by rw [z4]; decide)] at hes
   rw [← hes] at lp ⊢
   refine Need.mk (by simp only [inK]; omega) (EndI.mk fun w10 h10 => ⟨(k + 1, w10, .slice ao (Rg.pkTo s (k + 1)).length co), Cov.au rfl rfl rfl rfl rfl, rfl, ⟨hlt, h10.below, base, lp.at h10 (by simp)⟩, by simp only; omega⟩)
 ·have hge : k = s.length := by have := of_decide_eq_false z3; simp only at this; omega
  subst hge
  refine EndI.mk fun w10 h10 => (lp.at h10 (by simp)).own.lower ?_
  exact lp.anc w (by simp)
namespace Rg
def mks (l : List Int) (M k : Nat) : List Bool := (List.range M).map fun n : Nat => decide ((n : Int) ∈ l.take k)
theorem mks_len (l : List Int) (M k : Nat) : (mks l M k).length = M := by simp [mks]
theorem mks_get {l : List Int} {M k n : Nat} (h : n < M) : (mks l M k)[n]? = some (decide ((n : Int) ∈ l.take k)) := by
 unfold mks
 rw [List.getElem?_map, List.getElem?_range h]; rfl
theorem mks_zero (l : List Int) (M : Nat) : mks l M 0 = List.replicate M false := by
 unfold mks
 simp only [List.take_zero, List.not_mem_nil, decide_false, List.map_const', List.length_range]
theorem mks_step {l : List Int} {M k : Nat} {x : Int} (hx : l[k]? = some x) : mks l M (k + 1) = if 0 ≤ x ∧ x < (M : Int) then (mks l M k).set x.toNat true else mks l M k := by
 have ht : l.take (k + 1) = l.take k ++ [x] := by rw [List.take_add_one, hx]; rfl
 apply List.ext_getElem?
 intro n
 by_cases hn : n < M
 ·rw [mks_get hn, ht]
  split
  ·by_cases e : x.toNat = n
   ·subst e
    rw [List.getElem?_set_self (by rw [mks_len]; exact hn)]
    congr 1
    rw [decide_eq_true]
    rw [List.mem_append, List.mem_singleton]; right; omega
   ·rw [List.getElem?_set_ne e, mks_get hn]
    congr 1
    rw [decide_eq_decide, List.mem_append, List.mem_singleton]
    constructor
    ·rintro (h | h)
     ·exact h
     ·omega
    ·exact .inl
  ·rw [mks_get hn]
   congr 1
   rw [decide_eq_decide, List.mem_append, List.mem_singleton]
   constructor
   ·rintro (h | h)
    ·exact h
    ·omega
   ·exact .inl
 ·rw [List.getElem?_eq_none (by rw [mks_len]; omega)]
  split
  ·rw [List.getElem?_eq_none (by rw [List.length_set, mks_len]; omega)]
  ·rw [List.getElem?_eq_none (by rw [mks_len]; omega)]
end Rg
def BOwn (base : Nat) (W : World) (v : Value) (s : List Bool) : Prop := ∃ g c, v = .slice (some ⟨g, 0, none⟩) s.length c ∧ s.length ≤ c ∧ c ≤ maxLen ∧ base ≤ g ∧ BRow W g s
theorem BOwn.sl {base : Nat} {W : World} {v : Value} {s : List Bool} (h : BOwn base W v s) : Sl W.heap.size W v s := by
 obtain ⟨g, c, rfl, h1, h2, h3, h4⟩ := h
 exact h4.sl h1 h2
theorem rmarks14_any (l : List Int) (hlen : l.length ≤ 1000000) (long : Int) (hl : 1 ≤ long ∧ long ≤ 16) (M : Nat) (hM : 3 * (2 * long + 1) * (2 * long + 1) = M) (a : Option Addr) (ca : Nat) (w : World) (hS : Sl w.heap.size w (.slice a l.length ca) l) :
 Calls Tryz.prog 95 #[.slice a l.length ca, .int .i64 long] w (Ret w fun v w' => BOwn w.heap.size w' v (Rg.mks l M l.length)) := by
 refine fun_ret 0 w Tryz.func95 (args := [.val (.slice a l.length ca), .val (.int .i64 long)]) rfl rfl ?_
 have st := Stay.first (w := w)
 have hmm := Fr.mul_bd (u := 3 * (2 * long + 1)) (v := 2 * long + 1) (m := 99) (n := 33) (by omega) (by omega) (by omega) (by omega)
 have hM4 : M ≤ 3267 := by omega
 have hM0 : 0 < M := by
  have h : 9 * 3 ≤ 3 * (2 * long + 1) * (2 * long + 1) := Int.mul_le_mul (by omega) (by omega) (by omega) (by omega)
  omega
 apply CallI.use1
 focus (exact fun w2 h2 => rcount14_any long hl w2)
 intro w2 v2 h2 hB2
 have st := st.nx h2 hB2
 rw [hM]
 refine GenV.mks (α := Bool) elBo false infoBo M rfl (by simp [Enc.size]; omega) (by omega) fun v w3 v3 h3 hB3 hOw => ?_
 have st := st.nx h3 hB3
 obtain ⟨ab, cb, rfl⟩ := hOw.form
 have hBk := Rg.mks_zero l M
 rw [← hBk] at hOw ⊢
 obtain ⟨g, rfl, hgb, hcb1, hcb2, hRow⟩ := BRow.of hOw (by rw [Rg.mks_len]; omega)
 have hgw : w.heap.size ≤ g := by have := h3.below.size; simp only at this; omega
 rw [Rg.mks_len] at hcb1 ⊢
 refine LoopI.invC (α := Nat × World) (fun y => [(6, .val (.int .i64 y.1))]) (fun y => y.2) (fun y => y.1 ≤ l.length ∧ Below w.heap.size w y.2 ∧ BRow y.2 g (Rg.mks l M y.1)) (fun y => l.length - y.1) ?_ ?_
 ·intro w5 h5
  exact ⟨(0, w5), Cov.au rfl rfl rfl rfl rfl, rfl, Nat.zero_le _, h5.below, hRow.at h5 (by simp)⟩
 rintro ⟨k, W⟩ ⟨hk, hW, hRk⟩
 simp only at hk hW hRk
 refine Branch.mk (fun hb => ?_) (fun hb => ?_)
 ·have hlt : k < l.length := by have := of_decide_eq_true hb; simp only at this; omega
  have hx := List.getElem?_eq_getElem (l := l) (i := k) hlt
  generalize l[k] = x at hx
  have hes := Rg.mks_step (M := M) hx
  have hSW := hS.go hW hW.size
  refine hSW.idx hx fun ad had => ?_
  refine hSW.ld1 hx had (Below.refl _ _) (by simp) ?_
  refine Branch.mk (fun z1 => ?_) (fun z1 => ?_)
  ·have z1' : 0 ≤ x := of_decide_eq_true z1
   refine hSW.idx hx fun ad had => ?_
   refine hSW.ld1 hx had (Below.refl _ _) (by simp) ?_
   refine Branch.mk (fun z2 => ?_) (fun z2 => ?_)
   ·have z2' : x < M := of_decide_eq_true z2
    rw [if_pos ⟨z1', z2'⟩] at hes
    refine hSW.idx hx fun ad had => ?_
    refine hSW.ld1 hx had (Below.refl _ _) (by simp) ?_
    obtain ⟨f, rfl⟩ : ∃ f : Nat, x = f := ⟨x.toNat, by omega⟩
    refine IdxI.mk ⟨_, ⟨rfl, by omega, by omega⟩, ?_⟩
    refine StoreI.mk fun w5 h5 => ?_
    have r5 := hRk.at h5 (by simp)
    rw [show ((⟨g, 0, none⟩ : Addr).add ((f : Int).toNat * 1)) = ⟨g, f, none⟩ by simp [addr_addL]]
    have hfl : f < (Rg.mks l M k).length := by rw [Rg.mks_len]; omega
    refine ⟨⟨⟨_, r5.cell (List.getElem?_eq_getElem hfl)⟩, r5.frozen _⟩, keep_set hgw (by simp), ?_⟩
    have r6 := r5.set hfl true
    have B6 : Below w.heap.size w (w5.setCell ⟨g, f, none⟩ (.bool true)) := h5.below.setCell (p := ⟨g, f, none⟩) hgw _
    generalize w5.setCell ⟨g, f, none⟩ (.bool true) = w6 at r6 B6
    rw [Int.toNat_natCast] at hes
    rw [← hes] at r6
    exact Need.mk (by simp only [inK]; omega) (EndI.mk fun w7 h7 => ⟨(k + 1, w7), Cov.au rfl rfl rfl rfl rfl, rfl, ⟨hlt, h7.below, r6.at h7 (by simp)⟩, by simp only; omega⟩)
   ·rw [if_neg (fun h => absurd (decide_eq_true h.2) (by rw [z2]; decide))] at hes
    rw [← hes] at hRk
    exact Need.mk (by simp only [inK]; omega) (EndI.mk fun w7 h7 => ⟨(k + 1, w7), Cov.au rfl rfl rfl rfl rfl, rfl, ⟨hlt, h7.below, hRk.at h7 (by simp)⟩, by simp only; omega⟩)
  ·rw [if_neg (fun h => absurd (decide_eq_true h.1) (by rw [z1]; decide))] at hes
   rw [← hes] at hRk
   exact Need.mk (by simp only [inK]; omega) (EndI.mk fun w7 h7 => ⟨(k + 1, w7), Cov.au rfl rfl rfl rfl rfl, rfl, ⟨hlt, h7.below, hRk.at h7 (by simp)⟩, by simp only; omega⟩)
 ·have hge : k = l.length := by have := of_decide_eq_false hb; simp only at this; omega
  subst hge
  exact EndI.mk fun w7 h7 => ⟨g, cb, by rw [Rg.mks_len], by rw [Rg.mks_len]; exact hcb1, hcb2, hgw, hRk.at h7 (by simp)⟩
namespace Fr
def made (W p d : Int) : Rt × Bool :=
 if 1048576 < d ∨ 2305843009213693952 < W ∨ W < -2305843009213693952 then (⟨0, 0⟩, false)
 else if inI (W * d + p) = true then (⟨W * d + p, d⟩, okB (W * d + p) d) else (⟨0, 0⟩, false)
end Fr
theorem rcommonI_any (P D : Int) (hP : 0 ≤ P) (hD : 0 ≤ D) (h1 : inK .i64 P) (h2 : inK .i64 D) (w : World) :
 Calls Tryz.prog 185 #[.int .i64 P, .int .i64 D] w fun e w' => e = .returned (.int .i64 (Int.gcd P D : Nat)) ∧ Below w.heap.size w w' := by
 simp only [inK] at h1 h2
 have h := rcommon03_any P.natAbs D.natAbs (by omega) (by omega) w
 rwa [show ((P.natAbs : Nat) : Int) = P by omega, show ((D.natAbs : Nat) : Int) = D by omega] at h
namespace Fr
end Fr
namespace Rg
def six (n : Nat) : Rt := ⟨(n : Int).tdiv (Int.gcd ((n : Int) % 6) 6 : Nat), (6 : Int).tdiv (Int.gcd ((n : Int) % 6) 6 : Nat)⟩
theorem six_all : ((List.range 97).all fun n : Nat => decide (Fr.of (n : Int) 6 = (six n, 0)) && (six n).ok && decide (1 ≤ Int.gcd ((n : Int) % 6) 6) && decide (Int.gcd ((n : Int) % 6) 6 ≤ 6)) = true := by decide +kernel
theorem six_at {n : Nat} (hn : n < 97) : Fr.of (n : Int) 6 = (six n, 0) ∧ (six n).ok = true ∧ 1 ≤ Int.gcd ((n : Int) % 6) 6 ∧ Int.gcd ((n : Int) % 6) 6 ≤ 6 := by
 have := List.all_eq_true.1 six_all n (List.mem_range.2 hn)
 simp only [Bool.and_eq_true, decide_eq_true_eq] at this
 exact ⟨this.1.1.1, this.1.1.2, this.1.2, this.2⟩
theorem six_ins {n : Nat} (hn : n < 97) : (six n).ins := by
 obtain ⟨h1, h2, h3, h4⟩ := six_at hn
 have e6 : (6 : Int).tdiv (Int.gcd ((n : Int) % 6) 6 : Nat) = 6 / (Int.gcd ((n : Int) % 6) 6 : Nat) := Int.tdiv_eq_ediv_of_nonneg (by omega)
 have en : (n : Int).tdiv (Int.gcd ((n : Int) % 6) 6 : Nat) = n / (Int.gcd ((n : Int) % 6) 6 : Nat) := Int.tdiv_eq_ediv_of_nonneg (by omega)
 have b6 : 0 ≤ (6 : Int) / (Int.gcd ((n : Int) % 6) 6 : Nat) ∧ (6 : Int) / (Int.gcd ((n : Int) % 6) 6 : Nat) ≤ 6 := ⟨Int.ediv_nonneg (by omega) (by omega), Int.ediv_le_self _ (by omega)⟩
 have bn : 0 ≤ (n : Int) / (Int.gcd ((n : Int) % 6) 6 : Nat) ∧ (n : Int) / (Int.gcd ((n : Int) % 6) 6 : Nat) ≤ n := ⟨Int.ediv_nonneg (by omega) (by omega), Int.ediv_le_self _ (by omega)⟩
 unfold six
 exact ⟨by rw [en]; simp only [inK]; omega, by rw [e6]; simp only [inK]; omega⟩
end Rg
theorem rsix03_any (n : Nat) (hn : n < 97) (w : World) :
 Calls Tryz.prog 143 #[.int .i64 (n : Int), .int .i64 6] w fun e w' => e = .returned (.tuple #[.agg #[.int .i64 (Rg.six n).num, .int .i64 (Rg.six n).den], .int .i64 0]) ∧ Below w.heap.size w w' := by
 refine fun_eq 0 w Tryz.func143 (args := [.val (.int .i64 n), .val (.int .i64 6)]) rfl rfl ?_
 obtain ⟨h1, h2, h3, h4⟩ := Rg.six_at hn
 have hgi : inK .i64 ((Int.gcd ((n : Int) % 6) 6 : Nat) : Int) := by simp only [inK]; omega
 refine NewI.mk fun b1 hb1 => ?_
 refine Branch.no (by decide) ?_
 (first
   | (refine CallI.to1 (rpart03_any (n : Int) 6 (by omega) (by simp only [inK]; omega)) fun w2 => ?_)
   | (refine Branch.yes rfl ?_)
   | (refine Branch.no rfl ?_)
   | (refine Branch.mk (fun hb => ?_) (fun hb => ?_))
   | (refine NewI.mk fun nb hnb => ?_)
   | (refine Need.mk (by show _ ∧ _; omega) ?_)
   | (refine Need.mk (by omega) ?_)
   | (refine Need.mk ?_ ?_)
   | (refine EndI.mk fun w1 h1 => ?_))
 (first
   | (refine CallI.to1 (rcommonI_any ((n : Int) % 6) 6 (by omega) (by omega) (by simp only [inK]; omega) (by simp only [inK]; omega)) fun w2 => ?_)
   | (refine Branch.yes rfl ?_)
   | (refine Branch.no rfl ?_)
   | (refine Branch.mk (fun hb => ?_) (fun hb => ?_))
   | (refine NewI.mk fun nb hnb => ?_)
   | (refine Need.mk (by show _ ∧ _; omega) ?_)
   | (refine Need.mk (by omega) ?_)
   | (refine Need.mk ?_ ?_)
   | (refine EndI.mk fun w1 h1 => ?_))
 have e6 : (6 : Int).tdiv (Int.gcd ((n : Int) % 6) 6 : Nat) = 6 / (Int.gcd ((n : Int) % 6) 6 : Nat) := Int.tdiv_eq_ediv_of_nonneg (by omega)
 have en : (n : Int).tdiv (Int.gcd ((n : Int) % 6) 6 : Nat) = n / (Int.gcd ((n : Int) % 6) 6 : Nat) := Int.tdiv_eq_ediv_of_nonneg (by omega)
 have b6 : 0 ≤ (6 : Int) / (Int.gcd ((n : Int) % 6) 6 : Nat) ∧ (6 : Int) / (Int.gcd ((n : Int) % 6) 6 : Nat) ≤ 6 := ⟨Int.ediv_nonneg (by omega) (by omega), Int.ediv_le_self _ (by omega)⟩
 have bn : 0 ≤ (n : Int) / (Int.gcd ((n : Int) % 6) 6 : Nat) ∧ (n : Int) / (Int.gcd ((n : Int) % 6) 6 : Nat) ≤ n := ⟨Int.ediv_nonneg (by omega) (by omega), Int.ediv_le_self _ (by omega)⟩
 refine Need.mk ⟨by omega, by rw [e6]; simp only [inK]; omega⟩ ?_
 refine Branch.no (by rw [e6]; simp; omega) ?_
 refine DrawI.go (.tk 0 (.tk 1 (.tk 2 (.tk 3 (.tk 4 (.tk 5 (.tk 6 (.ev 7 (.ev 8 .done))))))))) (by kernel_rfl) fun w1 h1 => ?_
 refine Need.mk ⟨by omega, by rw [en]; simp only [inK]; omega⟩ ?_
 refine Need.mk ⟨by omega, by rw [e6]; simp only [inK]; omega⟩ ?_
 refine NewI.mk fun b2 hb2 => ?_
 apply CallI.use1
 focus (exact fun w5 h5 => rmay03_any (Rg.six n) (Rg.six_ins hn) w5)
 intro w5 v5 h5 hB5
 refine Branch.no (by rw [h2]; rfl) ?_
 exact EndI.mk fun w9 h9 => rfl
end Go.Proofs.YtanhnllkccldhaaGreat
