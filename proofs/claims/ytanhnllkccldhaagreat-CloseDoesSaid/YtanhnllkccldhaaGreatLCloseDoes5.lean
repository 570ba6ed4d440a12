/-
  Merged texts of this law (each with its own head below).
-/
import Derived.Test.YtanhnllkccldhaaGreatLCloseDoes4
import Derived.Test.YtanhnllkccldhaaGreatLCloseDoes3
import Derived.Laws.StructEq
import Derived.Test.YtanhnllkccldhaaGreatLCloseDoes1
import Derived.RangeFuncBox
import Derived.RangeFuncBound
import Derived.RangeFuncLeaves
import Derived.Shelf.Abstract
import Derived.WalkKit
import Derived.OwnWalkIn
import Derived.TacticsInMore
import Derived.LoopNIn
import Derived.LoopIn
import Derived.Deep.QuietTactic
import Derived.BigQuiet
import Derived.Sort.Grow
import Derived.Shelf.SlSortCmp.NoneTotal
import Derived.Ground.SlsfProg
import Derived.Test.YtanhnllkccldhaaGreatProg
import Derived.Sort.OwnSorted
import Derived.Maps.Own
import Derived.Maps.Views
import Derived.Lib.SlKeysI
import Derived.Shelf.SlIterI.Nil
import Derived.Shelf.SlIterI.Sorted
import Derived.Shelf.SlIterI.Collect
import Derived.Shelf.SortM.Plain
import Derived.Shelf.SortM.SortNone
import Derived.Ground.GgzProg
import Derived.Ground.SlgmProg
namespace Go.Proofs.YtanhnllkccldhaaGreat
set_option linter.unusedVariables false
set_option linter.unusedSimpArgs false
open Go.RowKit Go.Proofs.YtanhnllkccldhaaGreat.Eng Enc
namespace Ky
open Dbm Mi
def fr (x : Rat) : Rat := x - (x.floor : Rat)
theorem fr_nonneg (x : Rat) : 0 ≤ fr x := by unfold fr; have := Rat.floor_le x; grind
theorem fr_lt (x : Rat) : fr x < 1 := by unfold fr; have := Rat.lt_floor_add_one x; rw [Rat.intCast_add] at this; have h : ((1 : Int) : Rat) = 1 := rfl; rw [h] at this; grind
theorem eq_fr (x : Rat) : x = (x.floor : Rat) + fr x := by unfold fr; grind
theorem le_key (x y : Rat) (c : Int) : x - y ≤ (c : Rat) ↔ x.floor - y.floor < c ∨ (x.floor - y.floor = c ∧ fr x ≤ fr y) := by
 have e1 := eq_fr x
 have e2 := eq_fr y
 have a1 := fr_nonneg x
 have a2 := fr_nonneg y
 have b1 := fr_lt x
 have b2 := fr_lt y
 have e3 : ((x.floor - y.floor : Int) : Rat) = (x.floor : Rat) - (y.floor : Rat) := Rat.intCast_sub ..
 rcases Int.lt_trichotomy (x.floor - y.floor) c with h | h | h
 ·have h1 : ((x.floor - y.floor + 1 : Int) : Rat) ≤ (c : Rat) := by exact_mod_cast (by omega : x.floor - y.floor + 1 ≤ c)
  rw [Rat.intCast_add, e3] at h1
  have h2 : ((1 : Int) : Rat) = 1 := rfl
  rw [h2] at h1
  exact ⟨fun _ => .inl h, fun _ => by grind⟩
 ·have h1 : ((x.floor - y.floor : Int) : Rat) = (c : Rat) := by rw [h]
  rw [e3] at h1
  constructor
  ·intro k; exact .inr ⟨h, by grind⟩
  ·rintro (k | ⟨_, k⟩)
   ·omega
   ·grind
 ·have h1 : ((c + 1 : Int) : Rat) ≤ ((x.floor - y.floor : Int) : Rat) := by exact_mod_cast (by omega : c + 1 ≤ x.floor - y.floor)
  rw [Rat.intCast_add, e3] at h1
  have h2 : ((1 : Int) : Rat) = 1 := rfl
  rw [h2] at h1
  constructor
  ·intro k; exfalso; grind
  ·rintro (k | ⟨k, _⟩) <;> omega
theorem lt_key (x y : Rat) (c : Int) : x - y < (c : Rat) ↔ x.floor - y.floor < c ∨ (x.floor - y.floor = c ∧ fr x < fr y) := by
 have e1 := eq_fr x
 have e2 := eq_fr y
 have a1 := fr_nonneg x
 have a2 := fr_nonneg y
 have b1 := fr_lt x
 have b2 := fr_lt y
 have e3 : ((x.floor - y.floor : Int) : Rat) = (x.floor : Rat) - (y.floor : Rat) := Rat.intCast_sub ..
 rcases Int.lt_trichotomy (x.floor - y.floor) c with h | h | h
 ·have h1 : ((x.floor - y.floor + 1 : Int) : Rat) ≤ (c : Rat) := by exact_mod_cast (by omega : x.floor - y.floor + 1 ≤ c)
  rw [Rat.intCast_add, e3] at h1
  have h2 : ((1 : Int) : Rat) = 1 := rfl
  rw [h2] at h1
  exact ⟨fun _ => .inl h, fun _ => by grind⟩
 ·have h1 : ((x.floor - y.floor : Int) : Rat) = (c : Rat) := by rw [h]
  rw [e3] at h1
  constructor
  ·intro k; exact .inr ⟨h, by grind⟩
  ·rintro (k | ⟨_, k⟩)
   ·omega
   ·grind
 ·have h1 : ((c + 1 : Int) : Rat) ≤ ((x.floor - y.floor : Int) : Rat) := by exact_mod_cast (by omega : c + 1 ≤ x.floor - y.floor)
  rw [Rat.intCast_add, e3] at h1
  have h2 : ((1 : Int) : Rat) = 1 := rfl
  rw [h2] at h1
  constructor
  ·intro k; exfalso; grind
  ·rintro (k | ⟨k, _⟩) <;> omega
theorem sat_key {x y x' y' : Rat} (h1 : x.floor - y.floor = x'.floor - y'.floor) (h2 : fr x ≤ fr y ↔ fr x' ≤ fr y') (h3 : fr y ≤ fr x ↔ fr y' ≤ fr x') (b : OB) : satO (x - y) b ↔ satO (x' - y') b := by
 cases b with
 | none => exact Iff.rfl
 | some v =>
   unfold satO
   simp only
   split
   ·rw [lt_key, lt_key, h1]
    have : fr x < fr y ↔ fr x' < fr y' := by rw [← Rat.not_le, ← Rat.not_le, h3]
    rw [this]
   ·rw [le_key, le_key, h1, h2]
structure Alike (t t' : Nat → Rat) : Prop where
 fl : ∀ i, i < 3 → (t i).floor - (t 0).floor = (t' i).floor - (t' 0).floor
 le : ∀ i j, i < 3 → j < 3 → (fr (t i) ≤ fr (t j) ↔ fr (t' i) ≤ fr (t' j))
theorem Alike.fz {t t' : Nat → Rat} (h : Alike t t') (z : Zn) : Fz z t ↔ Fz z t' := by
 constructor
 ·intro k i j hi hj
  exact (sat_key (by have := h.fl i hi; have := h.fl j hj; omega) (h.le i j hi hj) (h.le j i hj hi) _).1 (k i j hi hj)
 ·intro k i j hi hj
  exact (sat_key (by have := h.fl i hi; have := h.fl j hj; omega) (h.le i j hi hj) (h.le j i hj hi) _).2 (k i j hi hj)
theorem fr_int (n : Int) : fr (n : Rat) = 0 := by unfold fr; rw [Rat.floor_intCast]; grind
theorem fz_shift (z : Zn) (t : Nat → Rat) (c : Rat) : Fz z t ↔ Fz z (fun i => t i - c) := by
 unfold Fz Dbm.Fits
 constructor
 ·intro h i j hi hj
  have := h i j hi hj
  rwa [show t i - c - (t j - c) = t i - t j by grind]
 ·intro h i j hi hj
  have := h i j hi hj
  rwa [show t i - c - (t j - c) = t i - t j by grind] at this
theorem sixth_of {p q r : Rat} (hp : p = 0 ∨ p = 1/3 ∨ p = 1/2 ∨ p = 2/3) (hq : q = 0 ∨ q = 1/3 ∨ q = 1/2 ∨ q = 2/3) (hpq : (p = 1/2 → q = 0 ∨ q = 1/2) ∧ (q = 1/2 → p = 0 ∨ p = 1/2)) (h0 : 0 ≤ r) (h1 : r < 1) :
 ∃ g : Nat, g < 6 ∧ ((r ≤ p ↔ (g : Rat) / 6 ≤ p) ∧ (p ≤ r ↔ p ≤ (g : Rat) / 6) ∧ (r ≤ q ↔ (g : Rat) / 6 ≤ q) ∧ (q ≤ r ↔ q ≤ (g : Rat) / 6) ∧ (r ≤ 0 ↔ (g : Rat) / 6 ≤ 0)) := by
 have c0 : ((0 : Nat) : Rat) / 6 = 0 := by decide +kernel
 have c1 : ((1 : Nat) : Rat) / 6 = 1/6 := by decide +kernel
 have c2 : ((2 : Nat) : Rat) / 6 = 1/3 := by decide +kernel
 have c3 : ((3 : Nat) : Rat) / 6 = 1/2 := by decide +kernel
 have c4 : ((4 : Nat) : Rat) / 6 = 2/3 := by decide +kernel
 have c5 : ((5 : Nat) : Rat) / 6 = 5/6 := by decide +kernel
 by_cases e0 : r = 0
 ·exact ⟨0, by omega, by rw [c0, e0]; exact ⟨Iff.rfl, Iff.rfl, Iff.rfl, Iff.rfl, Iff.rfl⟩⟩
 by_cases e1 : r = p
 ·rcases hp with rfl | rfl | rfl | rfl
  ·exact absurd e1 e0
  ·exact ⟨2, by omega, by rw [c2, e1]; exact ⟨Iff.rfl, Iff.rfl, Iff.rfl, Iff.rfl, Iff.rfl⟩⟩
  ·exact ⟨3, by omega, by rw [c3, e1]; exact ⟨Iff.rfl, Iff.rfl, Iff.rfl, Iff.rfl, Iff.rfl⟩⟩
  ·exact ⟨4, by omega, by rw [c4, e1]; exact ⟨Iff.rfl, Iff.rfl, Iff.rfl, Iff.rfl, Iff.rfl⟩⟩
 by_cases e2 : r = q
 ·rcases hq with rfl | rfl | rfl | rfl
  ·exact absurd e2 e0
  ·exact ⟨2, by omega, by rw [c2, e2]; exact ⟨Iff.rfl, Iff.rfl, Iff.rfl, Iff.rfl, Iff.rfl⟩⟩
  ·exact ⟨3, by omega, by rw [c3, e2]; exact ⟨Iff.rfl, Iff.rfl, Iff.rfl, Iff.rfl, Iff.rfl⟩⟩
  ·exact ⟨4, by omega, by rw [c4, e2]; exact ⟨Iff.rfl, Iff.rfl, Iff.rfl, Iff.rfl, Iff.rfl⟩⟩
 have hr0 : 0 < r := by grind
 by_cases l1 : r < 1/3
 ·refine ⟨1, by omega, ?_⟩
  rw [c1]
  rcases hp with rfl | rfl | rfl | rfl <;> rcases hq with rfl | rfl | rfl | rfl <;> grind
 by_cases l2 : r < 2/3
 ·by_cases l3 : r < 1/2
  ·by_cases k : p = 1/2 ∨ q = 1/2
   ·refine ⟨1, by omega, ?_⟩
    rw [c1]
    rcases hp with rfl | rfl | rfl | rfl <;> rcases hq with rfl | rfl | rfl | rfl <;> grind
   ·refine ⟨3, by omega, ?_⟩
    rw [c3]
    rcases hp with rfl | rfl | rfl | rfl <;> rcases hq with rfl | rfl | rfl | rfl <;> grind
  ·by_cases k : p = 1/2 ∨ q = 1/2
   ·refine ⟨5, by omega, ?_⟩
    rw [c5]
    rcases hp with rfl | rfl | rfl | rfl <;> rcases hq with rfl | rfl | rfl | rfl <;> grind
   ·refine ⟨3, by omega, ?_⟩
    rw [c3]
    rcases hp with rfl | rfl | rfl | rfl <;> rcases hq with rfl | rfl | rfl | rfl <;> grind
 ·refine ⟨5, by omega, ?_⟩
  rw [c5]
  rcases hp with rfl | rfl | rfl | rfl <;> rcases hq with rfl | rfl | rfl | rfl <;> grind
theorem fl_add {n : Int} {g : Rat} (h0 : 0 ≤ g) (h1 : g < 1) : ((n : Rat) + g).floor = n ∧ fr ((n : Rat) + g) = g := by
 have hf : ((n : Rat) + g).floor = n := by
  apply Int.le_antisymm
  ·have : ((n : Rat) + g).floor < n + 1 := Rat.floor_lt_iff.2 (by rw [Rat.intCast_add]; have h : ((1 : Int) : Rat) = 1 := rfl; rw [h]; grind)
   omega
  ·exact Rat.le_floor_iff.2 (by grind)
 exact ⟨hf, by unfold fr; rw [hf]; grind⟩
end Ky
end Go.Proofs.YtanhnllkccldhaaGreat
namespace Go.Proofs.YtanhnllkccldhaaGreat
set_option linter.unusedVariables false
set_option linter.unusedSimpArgs false
set_option maxRecDepth 100000
open Go.RowKit Go.Proofs.YtanhnllkccldhaaGreat.Eng Enc
namespace Rg
def around (pl : Int) : Sp := if pl % 2 = 0 then ⟨pl.tdiv 2, false, pl.tdiv 2, false, false⟩ else ⟨pl.tdiv 2, true, pl.tdiv 2 + 1, true, false⟩
def diff (n long : Int) : Sp :=
 if (n / 3 / sides long) % 2 = 1 ∧ (n / 3 % sides long) % 2 = 1 then around (n / 3 % sides long - n / 3 / sides long + 1 - n % 3) else ⟨-16, false, 16, false, false⟩
def zone (n long : Int) : Zn × Int :=
 if (askPoint n long).2 = 0 then Zo.make (around (n / 3 / sides long)) (around (n / 3 % sides long)) (diff n long) else (Zo.nought, (askPoint n long).2)
end Rg
structure ZonesLaw (n : Int) (p : Pt) (long : Int) : Prop where
 ins : (Rg.askPoint n long).1.ins
 same : (Rg.zone n long).2 = (Rg.askPoint n long).2
 own : (Rg.askPoint n long).2 = 0 → Rg.askNumber (Rg.askPoint n long).1 long = (n, 0)
 has : (Rg.askPoint n long).2 = 0 → Zo.has (Rg.zone n long).1 (Rg.askPoint n long).1 = (true, 0)
 any : (Rg.askPoint n long).2 = 0 → (Zo.has (Rg.zone n long).1 p).2 = 0 → (Zo.has (Rg.zone n long).1 p).1 = (decide ((Rg.askNumber p long).2 = 0) && decide ((Rg.askNumber p long).1 = n))
end Go.Proofs.YtanhnllkccldhaaGreat
namespace Go.Proofs.YtanhnllkccldhaaGreat
set_option linter.unusedVariables false
set_option linter.unusedSimpArgs false
open Go.RowKit Go.Proofs.YtanhnllkccldhaaGreat.Eng Enc
namespace Rg
theorem cmp_three (a b : Rt) : (Fr.cmp a b).1 = -1 ∨ (Fr.cmp a b).1 = 0 ∨ (Fr.cmp a b).1 = 1 := by
 unfold Fr.cmp
 split
 ·show cmpI _ _ = -1 ∨ cmpI _ _ = 0 ∨ cmpI _ _ = 1
  unfold cmpI
  split
  ·exact .inl rfl
  ·split
   ·exact .inr (.inr rfl)
   ·exact .inr (.inl rfl)
 ·exact .inr (.inl rfl)
theorem order_three (p : Pt) : 0 ≤ order p ∧ order p ≤ 2 := by
 have := cmp_three (part p.t) (part p.u)
 unfold order
 split <;> omega
theorem number_back {p : Pt} {n long : Int} (h : number p long = n) (h0 : 0 ≤ n) (hl : 1 ≤ long ∧ long ≤ 16) :
 (Fr.cmp p.t p.u).1 < 0 ∧ place p.t = n / 3 / sides long ∧ place p.u = n / 3 % sides long ∧ order p = n % 3 := by
 have hs : 3 ≤ sides long ∧ sides long ≤ 33 := by unfold sides; omega
 have ho := order_three p
 unfold number at h
 split at h
 ·omega
 ·rename_i hc
  have h1 : (Fr.cmp p.t p.u).1 < 0 := by omega
  have h2 : 0 ≤ place p.t := by omega
  have h3 : place p.u < sides long := by omega
  have h4 : 0 ≤ place p.u := by
   have hf := floor_le h1
   unfold place at h2 ⊢
   split at h2 <;> split <;> omega
  have e3 : n / 3 = place p.t * sides long + place p.u := by omega
  refine ⟨h1, ?_, ?_, by omega⟩
  ·rw [e3, Int.add_comm, Int.add_mul_ediv_right _ _ (by omega), Int.ediv_eq_zero_of_lt h4 h3]; omega
  ·rw [e3, Int.add_comm, Int.add_mul_emod_self_right, Int.emod_eq_of_lt h4 h3]
end Rg
namespace Rg
theorem of_one {f : Int} (h : -2305843009213693952 ≤ f ∧ f ≤ 2305843009213693952) : Fr.of f 1 = (⟨f, 1⟩, 0) := by
 unfold Fr.of Fr.low
 have hg : Int.gcd f 1 = 1 := by simp
 have hok : Fr.okB f 1 = true := by
  unfold Fr.okB
  have : Fr.inB f 1 = true := Fr.in_iff.2 (by simp; omega)
  rw [this]; simp
 rw [if_neg (by omega), hg]
 simp only [Int.cast_ofNat_Int, Int.ediv_one]
 rw [if_pos hok]
theorem part_eq {a : Rt} (ha : a.ok = true) : part a = ⟨a.num % a.den, a.den⟩ := by
 have oa := Fr.ok_bd ha
 have hf : (Fr.floor a).1 = a.num / a.den := by unfold Fr.floor; rw [if_pos ha]
 unfold part
 rw [hf, of_one (by omega)]
 have hok : (⟨-(a.num / a.den), 1⟩ : Rt).ok = true := by
  show Fr.okB _ _ = true
  unfold Fr.okB
  have : Fr.inB (-(a.num / a.den)) 1 = true := Fr.in_iff.2 (by simp; omega)
  rw [this]; simp
 have hg0 : Nat.gcd a.num.natAbs a.den.natAbs = 1 := by
  have h := ha
  simp only [Rt.ok, Fr.okB, Bool.and_eq_true, decide_eq_true_eq] at h
  exact h.2
 have hg : Int.gcd (a.num % a.den) a.den = 1 := by
  have h1 : Int.gcd a.num a.den = 1 := hg0
  have h2 : Int.gcd (a.num % a.den + a.num / a.den * a.den) a.den = Int.gcd (a.num % a.den) a.den := Int.gcd_add_mul_right_left ..
  have h3 : a.num % a.den + a.num / a.den * a.den = a.num := by
   have := Int.mul_ediv_add_emod a.num a.den
   rw [Int.mul_comm] at this; omega
  rw [h3] at h2
  rw [← h2]; exact h1
 have htn : Fr.tn a ⟨-(a.num / a.den), 1⟩ = a.num % a.den := by
  unfold Fr.tn
  have := Int.mul_ediv_add_emod a.num a.den
  simp only [Int.mul_one, Int.neg_mul]
  rw [Int.mul_comm (a.num / a.den) a.den]; omega
 have hdn : Fr.dn a ⟨-(a.num / a.den), 1⟩ 1 = a.den := by unfold Fr.dn; simp
 unfold Fr.add
 rw [if_pos ⟨ha, hok⟩]
 unfold Fr.sum
 rw [htn, hdn, hg]
 simp only [Int.cast_ofNat_Int, Int.ediv_one]
 rw [if_pos]
 refine ⟨?_, ?_⟩
 ·unfold Fr.okB
  have : Fr.inB (a.num % a.den) a.den = true := Fr.in_iff.2 (by rw [Int.ediv_eq_zero_of_lt oa.2.2.2.2.1 oa.2.2.2.2.2]; omega)
  rw [this]
  have hg' : Nat.gcd (a.num % a.den).natAbs a.den.natAbs = 1 := hg
  simp only [hg']
  simp; omega
 ·unfold Fr.inI; simp; omega
theorem part_ok {a : Rt} (ha : a.ok = true) : (part a).ok = true := by
 have oa := Fr.ok_bd ha
 rw [part_eq ha]
 have hg0 : Nat.gcd a.num.natAbs a.den.natAbs = 1 := by
  have h := ha
  simp only [Rt.ok, Fr.okB, Bool.and_eq_true, decide_eq_true_eq] at h
  exact h.2
 have hg : Int.gcd (a.num % a.den) a.den = 1 := by
  have h1 : Int.gcd a.num a.den = 1 := hg0
  have h2 : Int.gcd (a.num % a.den + a.num / a.den * a.den) a.den = Int.gcd (a.num % a.den) a.den := Int.gcd_add_mul_right_left ..
  have h3 : a.num % a.den + a.num / a.den * a.den = a.num := by
   have := Int.mul_ediv_add_emod a.num a.den
   rw [Int.mul_comm] at this; omega
  rw [h3] at h2
  rw [← h2]; exact h1
 show Fr.okB _ _ = true
 unfold Fr.okB
 have : Fr.inB (a.num % a.den) a.den = true := Fr.in_iff.2 (by rw [Int.ediv_eq_zero_of_lt oa.2.2.2.2.1 oa.2.2.2.2.2]; omega)
 rw [this]
 have hg' : Nat.gcd (a.num % a.den).natAbs a.den.natAbs = 1 := hg
 simp only [hg']
 simp; omega
def rX (t u : Rt) : Int := t.num % t.den * u.den
theorem place_eq {t u : Rt} (ht : t.ok = true) (hu : u.ok = true) : place t = 2 * (t.num / t.den) + (if rX t u = 0 then 0 else 1) := by
 have ot := Fr.ok_bd ht
 have ou := Fr.ok_bd hu
 have hf : (Fr.floor t).1 = t.num / t.den := by unfold Fr.floor; rw [if_pos ht]
 unfold place
 rw [part_eq ht, hf]
 simp only
 have : t.num % t.den = 0 ↔ rX t u = 0 := by
  unfold rX
  rw [Int.mul_eq_zero]
  constructor
  ·exact .inl
  ·rintro (h | h)
   ·exact h
   ·omega
 by_cases h : t.num % t.den = 0
 ·rw [if_pos h, if_pos (this.1 h)]; omega
 ·rw [if_neg h, if_neg (fun hh => h (this.2 hh))]
theorem cmp_part {t u : Rt} (ht : t.ok = true) (hu : u.ok = true) : (Fr.cmp (part t) (part u)).1 = cmpI (rX t u) (rX u t) := by
 unfold Fr.cmp
 rw [if_pos ⟨part_ok ht, part_ok hu⟩]
 unfold Fr.cmpR
 rw [part_eq ht, part_eq hu]
 rfl
theorem rX_bd {t u : Rt} (ht : t.ok = true) (hu : u.ok = true) : 0 ≤ rX t u := by
 have ot := Fr.ok_bd ht
 have ou := Fr.ok_bd hu
 exact Int.mul_nonneg ot.2.2.2.2.1 (by omega)
theorem cmp_iff {t u : Rt} (ht : t.ok = true) (hu : u.ok = true) : (Fr.cmp t u).1 < 0 ↔ t.num / t.den < u.num / u.den ∨ (t.num / t.den = u.num / u.den ∧ rX t u < rX u t) := by
 have h := (Fr.sign_eq ht hu 0).1
 have e : (Fr.cmp t u).1 < 0 ↔ t.num * u.den < u.num * t.den := by
  unfold Fr.cmp; rw [if_pos ⟨ht, hu⟩]; exact Fr.cmpI_lt
 rw [e]
 rw [Int.zero_mul] at h
 have : t.num * u.den < u.num * t.den ↔ t.num * u.den - u.num * t.den < 0 := by omega
 rw [this, ← h]
 unfold Fr.sign Fr.rest
 show (if cmpI _ 0 ≠ 0 then cmpI _ 0 else cmpI (rX t u) (rX u t)) < 0 ↔ _
 generalize rX t u = x
 generalize rX u t = y
 generalize t.num / t.den = a
 generalize u.num / u.den = b
 unfold cmpI
 split <;> split <;> omega
def may3 (T U r : Int) : Bool := decide (0 ≤ T) && decide (T ≤ U) && decide (U ≤ 32) && decide (0 ≤ r) && decide (r ≤ 2) && (decide (T < U) || (decide (T % 2 = 1) && decide (r = 0))) && (decide (T % 2 = 1 ∧ U % 2 = 1) || decide (r = 1))
end Rg
end Go.Proofs.YtanhnllkccldhaaGreat
namespace Go.Proofs.YtanhnllkccldhaaGreat
open Go.RowKit Go.Proofs.YtanhnllkccldhaaGreat.Eng Enc
namespace Rg
def pt3 (T U r : Int) : Pt := ⟨time T (parts r).1 (parts r).2.2, time U (parts r).2.1 (parts r).2.2⟩
def good3 (T U r : Int) : Bool := decide ((Fr.cmp (pt3 T U r).t (pt3 T U r).u).1 < 0) && decide (place (pt3 T U r).t = T) && decide (place (pt3 T U r).u = U) && decide (order (pt3 T U r) = r)
end Rg
end Go.Proofs.YtanhnllkccldhaaGreat
namespace Go.Proofs.YtanhnllkccldhaaGreat
set_option maxRecDepth 100000
namespace Rg
end Rg
namespace Rg
end Rg
namespace Rg
end Rg
namespace Rg
end Rg
namespace Rg
end Rg
namespace Rg
end Rg
namespace Rg
end Rg
namespace Rg
end Rg
namespace Rg
end Rg
namespace Rg
end Rg
namespace Rg
end Rg
end Go.Proofs.YtanhnllkccldhaaGreat
namespace Go.Proofs.YtanhnllkccldhaaGreat
set_option linter.unusedVariables false
namespace Rg
end Rg
end Go.Proofs.YtanhnllkccldhaaGreat
namespace Go.Proofs.YtanhnllkccldhaaGreat
set_option linter.unusedVariables false
open Go.RowKit Go.Proofs.YtanhnllkccldhaaGreat.Eng Enc
namespace Rg
end Rg
end Go.Proofs.YtanhnllkccldhaaGreat
namespace Go.Proofs.YtanhnllkccldhaaGreat
set_option linter.unusedVariables false
set_option linter.unusedSimpArgs false
set_option maxRecDepth 100000
open Go.RowKit Go.Proofs.YtanhnllkccldhaaGreat.Eng Enc
namespace Rg
def mg (T : Int) : Bool := (List.range 33).all fun U : Nat => (List.range 3).all fun r : Nat => !(may3 T U r) || good3 T U r
theorem mg_0 : ((List.range 17).all fun T : Nat => mg T) = true := by decide +kernel
theorem mg_1 : ((List.range 16).all fun T : Nat => mg ((T : Int) + 17)) = true := by decide +kernel
theorem may_good {T U r : Int} (hT : 0 ≤ T ∧ T < 33) (h : may3 T U r = true) : good3 T U r = true := by
 have h0 := h
 simp only [may3, Bool.and_eq_true, Bool.or_eq_true, decide_eq_true_eq] at h0
 have hm : mg T = true := by
  by_cases h17 : T < 17
  ·have := List.all_eq_true.1 mg_0 T.toNat (List.mem_range.2 (by omega))
   rwa [Int.toNat_of_nonneg hT.1] at this
  ·have := List.all_eq_true.1 mg_1 (T - 17).toNat (List.mem_range.2 (by omega))
   rwa [show ((T - 17).toNat : Int) + 17 = T by omega] at this
 have h1 := List.all_eq_true.1 hm U.toNat (List.mem_range.2 (by omega))
 have h2 := List.all_eq_true.1 h1 r.toNat (List.mem_range.2 (by omega))
 rw [Int.toNat_of_nonneg (by omega), Int.toNat_of_nonneg (by omega), h] at h2
 simpa using h2
theorem rep_of {p : Pt} {long : Int} (hl : 1 ≤ long ∧ long ≤ 16) (hp : 0 ≤ number p long) : may3 (place p.t) (place p.u) (order p) = true ∧ (point (number p long) long).2 = true ∧ 0 ≤ number p long ∧ number p long < (many long).1 ∧
 (pt (number p long) long).t.ok = true ∧ (pt (number p long) long).u.ok = true ∧ place (pt (number p long) long).t = place p.t ∧ place (pt (number p long) long).u = place p.u ∧ order (pt (number p long) long) = order p := by
 have hs : 3 ≤ sides long ∧ sides long ≤ 33 := by unfold sides; omega
 have hnum := hp
 obtain ⟨k1, k2, k3, k4⟩ := number_back (p := p) rfl hp hl
 obtain ⟨ht, hu, _⟩ := cmp_lt k1
 have hk1 := (cmp_iff ht hu).1 k1
 have hcd : ¬ (0 ≤ (Fr.cmp p.t p.u).1 ∨ place p.t < 0 ∨ sides long ≤ place p.u) := fun h => by
  unfold number at hp; rw [if_pos h] at hp; omega
 have hmy : may3 (place p.t) (place p.u) (order p) = true := by
  have ho : 0 ≤ order p ∧ order p ≤ 2 := order_three p
  have x1 := rX_bd ht hu
  have x2 := rX_bd hu ht
  have e1 := place_eq ht hu
  have e2 := place_eq hu ht
  have hor : ((place p.t % 2 = 1 ∧ place p.u % 2 = 1) ∧ order p = 1 + cmpI (rX p.t p.u) (rX p.u p.t)) ∨ (¬ (place p.t % 2 = 1 ∧ place p.u % 2 = 1) ∧ order p = 1) := by
   unfold order
   by_cases h : place p.t % 2 = 1 ∧ place p.u % 2 = 1
   ·rw [if_pos h, cmp_part ht hu]; exact .inl ⟨h, rfl⟩
   ·rw [if_neg h]; exact .inr ⟨h, rfl⟩
  have hcc : (rX p.t p.u < rX p.u p.t ∧ cmpI (rX p.t p.u) (rX p.u p.t) = -1) ∨ (rX p.t p.u = rX p.u p.t ∧ cmpI (rX p.t p.u) (rX p.u p.t) = 0) ∨ (rX p.u p.t < rX p.t p.u ∧ cmpI (rX p.t p.u) (rX p.u p.t) = 1) := by unfold cmpI; split <;> (try split) <;> omega
  simp only [may3, Bool.and_eq_true, Bool.or_eq_true, decide_eq_true_eq]
  generalize order p = o at *
  generalize cmpI (rX p.t p.u) (rX p.u p.t) = c at *
  generalize rX p.t p.u = x at *
  generalize rX p.u p.t = y at *
  generalize p.t.num / p.t.den = A at *
  generalize p.u.num / p.u.den = B at *
  generalize place p.t = T at *
  generalize place p.u = U at *
  split at e1 <;> split at e2 <;> omega
 have hT : 0 ≤ place p.t ∧ place p.t < 33 := by
  simp only [may3, Bool.and_eq_true, Bool.or_eq_true, decide_eq_true_eq] at hmy
  omega
 have hg := may_good hT hmy
 have hpt : pt (number p long) long = pt3 (place p.t) (place p.u) (order p) := by
  unfold pt pt3
  rw [← k2, ← k3, ← k4]
 unfold good3 at hg
 simp only [Bool.and_eq_true, decide_eq_true_eq] at hg
 obtain ⟨⟨⟨g1, g2⟩, g3⟩, g4⟩ := hg
 rw [← hpt] at g1 g2 g3 g4
 obtain ⟨o1, o2, _⟩ := cmp_lt g1
 have hval : number p long = 3 * (place p.t * sides long + place p.u) + order p := by
  conv => lhs; unfold number
  rw [if_neg hcd]
 have hsame : number (pt (number p long) long) long = number p long := by
  have hun : ∀ q : Pt, (Fr.cmp q.t q.u).1 < 0 → place q.t = place p.t → place q.u = place p.u → order q = order p → number q long = 3 * (place p.t * sides long + place p.u) + order p := fun q q1 q2 q3 q4 => by
   unfold number
   rw [q2, q3, q4, if_neg (by omega)]
  rw [hun _ g1 g2 g3 g4, hval]
 have hmn : number p long < (many long).1 := by
  have e : number p long = 3 * (place p.t * sides long + place p.u) + order p := by
   conv => lhs; unfold number
   rw [if_neg hcd]
  have hm : (many long).1 = 3 * sides long * sides long := by unfold many; rw [if_pos (fits_iff.2 hl)]
  have ho : 0 ≤ order p ∧ order p ≤ 2 := order_three p
  have h1 : place p.t < sides long := by
   simp only [may3, Bool.and_eq_true, Bool.or_eq_true, decide_eq_true_eq] at hmy
   omega
  have h2 : place p.t * sides long ≤ (sides long - 1) * sides long := Int.mul_le_mul_of_nonneg_right (by omega) (by omega)
  rw [Int.sub_mul, Int.one_mul] at h2
  rw [e, hm, Int.mul_assoc]
  omega
 exact ⟨hmy, by unfold point; simpa using hsame, hp, hmn, o1, o2, g2, g3, g4⟩
end Rg
theorem rlow03_any (n d : Int) (hd : 1 ≤ d) (hn : inK .i64 n) (w : World) :
 Calls Tryz.prog 147 #[.int .i64 n, .int .i64 d] w fun e w' => e = .returned (.int .i64 (n / d)) ∧ Below w.heap.size w w' := by
 refine fun_eq 0 w Tryz.func147 (args := [.val (.int .i64 n), .val (.int .i64 d)]) rfl rfl ?_
 obtain ⟨k1, k2⟩ := Fr.floor_eq (n := n) hd
 have k3 : inK .i64 (n.tdiv d) ∧ (n.tmod d < 0 → inK .i64 (n.tdiv d - 1)) := by
  have hq := Fr.ediv_in hd hn
  refine ⟨?_, fun h => by rw [(k1 h).1]; exact hq⟩
  by_cases h : n.tmod d < 0
  ·have e := (k1 h).1
   have h0 : n < 0 := by
    rcases Int.lt_or_le n 0 with h | h'
    ·exact h
    ·have := Int.tmod_nonneg d h'; omega
   have : n / d < 0 := Int.ediv_neg_of_neg_of_pos h0 (by omega)
   simp only [inK] at hq ⊢; omega
  ·rw [(k2 h).1]; exact hq
 refine Need.mk ⟨by omega, k3.1⟩ ?_
 refine Need.mk (by omega) ?_
 refine Branch.mk (fun hb => ?_) (fun hb => ?_)
 ·obtain ⟨e1, e2⟩ := k1 (by simpa using hb)
  refine Need.mk (k3.2 (by simpa using hb)) ?_
  exact EndI.mk fun w1 h1 => by rw [e1]
 ·obtain ⟨e1, e2⟩ := k2 (by simpa using hb)
  exact EndI.mk fun w1 h1 => by rw [e1]
theorem rpart03_any (n d : Int) (hd : 1 ≤ d) (hd2 : inK .i64 d) (w : World) :
 Calls Tryz.prog 145 #[.int .i64 n, .int .i64 d] w fun e w' => e = .returned (.int .i64 (n % d)) ∧ Below w.heap.size w w' := by
 refine fun_eq 0 w Tryz.func145 (args := [.val (.int .i64 n), .val (.int .i64 d)]) rfl rfl ?_
 obtain ⟨k1, k2⟩ := Fr.floor_eq (n := n) hd
 have k4 := Int.emod_nonneg n (by omega : d ≠ 0)
 have k5 := Int.emod_lt_of_pos n (by omega : 0 < d)
 refine Need.mk (by omega) ?_
 refine Branch.mk (fun hb => ?_) (fun hb => ?_)
 ·obtain ⟨e1, e2⟩ := k1 (by simpa using hb)
  refine Need.mk ?_ ?_
  ·simp only [inK] at hd2 ⊢; omega
  exact EndI.mk fun w1 h1 => by rw [e2]
 ·obtain ⟨e1, e2⟩ := k2 (by simpa using hb)
  exact EndI.mk fun w1 h1 => by rw [e2]
theorem rcommon03_any (a b : Nat) (ha : a < 9223372036854775808) (hb : b < 9223372036854775808) (w : World) :
 Calls Tryz.prog 185 #[.int .i64 (a : Nat), .int .i64 (b : Nat)] w fun e w' => e = .returned (.int .i64 (Nat.gcd a b : Nat)) ∧ Below w.heap.size w w' := by
 refine fun_eq 0 w Tryz.func185 (args := [.val (.int .i64 (a : Nat)), .val (.int .i64 (b : Nat))]) rfl rfl ?_
 refine LoopI.invC (α := (Nat × Nat) × World) (fun y => [(0, .val (.int .i64 y.1.1)), (1, .val (.int .i64 y.1.2))]) (fun y => y.2) (fun y => y.1.1 < 9223372036854775808 ∧ y.1.2 < 9223372036854775808 ∧ Nat.gcd y.1.1 y.1.2 = Nat.gcd a b) (fun y => y.1.2) ?_ ?_
 ·intro w1 h1
  exact ⟨((a, b), w1), Cov.au rfl rfl rfl rfl rfl, rfl, ha, hb, rfl⟩
 rintro ⟨⟨x, y⟩, W⟩ ⟨hx, hy, hg⟩
 refine Branch.mk (fun hc => ?_) (fun hc => ?_)
 ·have hy0 : 0 < y := by
   have : ¬ y = 0 := by simpa using hc
   omega
  have em : ((x : Int)).tmod y = ((x % y : Nat) : Int) := rfl
  have hm : x % y < y := Nat.mod_lt _ hy0
  refine DrawI.go (.tk 0 (.tk 1 (.tk 2 (.tk 3 (.tk 4 (.tk 5 .done)))))) (by kernel_rfl) fun w1 h1 => ?_
  refine Need.mk ?_ ?_
  ·show (y : Int) ≠ 0
   omega
  refine EndI.mk fun w2 h2 => ⟨((y, x % y), w2), Cov.au rfl rfl rfl rfl rfl, rfl, ⟨hy, ?_, ?_⟩, hm⟩
  ·exact Nat.lt_trans hm hy
  ·refine Eq.trans ?_ hg
   show Nat.gcd y (x % y) = Nat.gcd x y
   rw [Nat.gcd_comm x y, Nat.gcd_comm y (x % y)]; exact (Nat.gcd_rec y x).symm
 ·refine EndI.mk fun w1 h1 => ?_
  have hy0 : y = 0 := by simpa using hc
  subst hy0
  rw [← hg]
  simp
def Fr.alone (n d : Int) : Bool := decide (((Nat.gcd (n % d).toNat d.toNat : Nat) : Int) = 1)
theorem ralone_any (n d : Int) (hd : 1 ≤ d) (hd2 : inK .i64 d) (w : World) :
 Calls Tryz.prog 186 #[.agg #[.int .i64 n, .int .i64 d]] w fun e w' => e = .returned (.bool (Fr.alone n d)) ∧ Below w.heap.size w w' := by
 refine fun_eq 0 w Tryz.func186 (args := [.agg [.val (.int .i64 n), .val (.int .i64 d)]]) rfl rfl ?_
 have k4 := Int.emod_nonneg n (by omega : d ≠ 0)
 have k5 := Int.emod_lt_of_pos n (by omega : 0 < d)
 have hc : ∀ w, Calls Tryz.prog 185 #[.int .i64 (n % d), .int .i64 d] w fun e w' => e = .returned (.int .i64 (Nat.gcd (n % d).toNat d.toNat : Nat)) ∧ Below w.heap.size w w' := fun w => by
  simp only [inK] at hd2
  have h := rcommon03_any (n % d).toNat d.toNat (by omega) (by omega) w
  rwa [Int.toNat_of_nonneg k4, Int.toNat_of_nonneg (by omega)] at h
 refine NewI.mk fun b1 hb1 => ?_
 refine DrawI.go (.tk 0 (.tk 1 (.tk 2 (.tk 3 (.tk 5 (.tk 6 (.ev 4 (.ev 7 (.tk 8 (.tk 9 .done)))))))))) (by kernel_rfl) fun w1 h1 => ?_
 apply CallI.use1
 focus (exact fun w2 h2 => rpart03_any n d hd hd2 w2)
 intro w2 v2 h2 hB2
 apply CallI.use1
 focus (exact fun w3 h3 => hc w3)
 intro w3 v3 h3 hB3
 exact EndI.mk fun w9 h9 => rfl
theorem Fr.alone_gcd {n d : Int} (hd : 1 ≤ d) : Fr.alone n d = decide (Nat.gcd n.natAbs d.natAbs = 1) := by
 unfold Fr.alone
 have e : Nat.gcd (n % d).toNat d.toNat = Nat.gcd n.natAbs d.natAbs := by
  have h3 : Int.gcd n d = Int.gcd (n % d) d := by
   conv => lhs; rw [← Int.emod_add_mul_ediv n d, Int.mul_comm d, Int.gcd_add_mul_right_left]
  have h4 := Int.emod_nonneg n (by omega : d ≠ 0)
  have h5 : Nat.gcd n.natAbs d.natAbs = Nat.gcd (n % d).natAbs d.natAbs := h3
  rw [h5, show (n % d).natAbs = (n % d).toNat by omega, show d.natAbs = d.toNat by omega]
 rw [e, decide_eq_decide]
 omega
theorem rmay03_any (x : Rt) (hx : x.ins) (w : World) :
 Calls Tryz.prog 144 #[.agg #[.int .i64 x.num, .int .i64 x.den]] w fun e w' => e = .returned (.bool x.ok) ∧ Below w.heap.size w w' := by
 obtain ⟨n, d⟩ := x
 obtain ⟨hn, hd⟩ := hx
 simp only at hn hd
 unfold Rt.ok Fr.okB Fr.inB
 simp only
 refine fun_eq 0 w Tryz.func144 (args := [.agg [.val (.int .i64 n), .val (.int .i64 d)]]) rfl rfl ?_
 refine NewI.mk fun b1 hb1 => ?_
 refine Branch.mk (fun z1 => ?_) (fun z1 => ?_)
 ·have h1 : d < 1 := of_decide_eq_true z1
  refine EndI.mk fun w9 h9 => ?_
  rw [decide_eq_false (by omega : ¬ 1 ≤ d)]; rfl
 have h1 : 1 ≤ d := by have := of_decide_eq_false z1; omega
 refine Branch.mk (fun z2 => ?_) (fun z2 => ?_)
 ·have h2 : 1048576 < d := of_decide_eq_true z2
  refine EndI.mk fun w9 h9 => ?_
  rw [decide_eq_false (by omega : ¬ d ≤ 1048576)]; simp
 have h2 : d ≤ 1048576 := by have := of_decide_eq_false z2; omega
 have k4 := Int.emod_nonneg n (by omega : d ≠ 0)
 have k5 := Int.emod_lt_of_pos n (by omega : 0 < d)
 rw [decide_eq_true h1, decide_eq_true h2]
 apply CallI.use1
 focus (exact fun w3 h3 => ralone_any n d h1 hd w3)
 intro w3 v3 h3 hB3
 rw [Fr.alone_gcd h1]
 refine Branch.mk (fun z3 => ?_) (fun z3 => ?_)
 ·have h3 : decide (n.natAbs.gcd d.natAbs = 1) = false := by simpa using z3
  refine EndI.mk fun w9 h9 => ?_
  rw [h3]; simp
 have h3 : decide (n.natAbs.gcd d.natAbs = 1) = true := by simpa using z3
 rw [h3]
 clear z1 z2 z3 h3
 apply CallI.use1
 focus (exact fun w4 h4 => rlow03_any n d h1 hn w4)
 intro w4 v4 h4 hB4
 refine Branch.mk (fun z4 => ?_) (fun z4 => ?_)
 ·have h4 : -2305843009213693952 ≤ n / d := of_decide_eq_true z4
  rw [decide_eq_true h4]
  refine Branch.mk (fun z5 => ?_) (fun z5 => ?_)
  ·have h5 : n / d < 2305843009213693952 := of_decide_eq_true z5
   refine EndI.mk fun w9 h9 => ?_
   rw [decide_eq_true h5]; rfl
  have h5 : ¬ n / d < 2305843009213693952 := of_decide_eq_false z5
  rw [decide_eq_false h5]
  refine Branch.mk (fun z6 => ?_) (fun z6 => ?_)
  ·rw [z6]
   apply CallI.use1
   focus (exact fun w5 h5 => rpart03_any n d h1 hd w5)
   intro w5 v5 h5 hB5
   exact EndI.mk fun w9 h9 => by simp
  ·rw [z6]
   exact EndI.mk fun w9 h9 => rfl
 ·have h4 : ¬ -2305843009213693952 ≤ n / d := of_decide_eq_false z4
  refine EndI.mk fun w9 h9 => ?_
  rw [decide_eq_false h4]; rfl
theorem cmpR_low {a b : Rt} (ha : a.ok = true) (hb : b.ok = true) : Fr.cmpR a b = if a.num / a.den = b.num / b.den then cmpI (a.num % a.den * b.den) (b.num % b.den * a.den) else cmpI (a.num / a.den) (b.num / b.den) := by
 have h1 := Fr.ok_bd ha
 have h2 := Fr.ok_bd hb
 have e1 := Int.emod_add_mul_ediv a.num a.den
 have e2 := Int.emod_add_mul_ediv b.num b.den
 unfold Fr.cmpR cmpI
 generalize a.num / a.den = x at *
 generalize b.num / b.den = y at *
 generalize a.num % a.den = r at *
 generalize b.num % b.den = s at *
 rw [← e1, ← e2]
 generalize a.den = p at *
 generalize b.den = q at *
 have hpq : 0 < p * q := Int.mul_pos (by omega) (by omega)
 have hr : r * q < p * q := Int.mul_lt_mul_of_pos_right (by omega) (by omega)
 have hr0 : 0 ≤ r * q := Int.mul_nonneg (by omega) (by omega)
 have hs : s * p < q * p := Int.mul_lt_mul_of_pos_right (by omega) (by omega)
 have hs0 : 0 ≤ s * p := Int.mul_nonneg (by omega) (by omega)
 have E1 : (r + p * x) * q = r * q + x * (p * q) := by grind
 have E2 : (s + q * y) * p = s * p + y * (p * q) := by grind
 rw [Int.mul_comm q p] at hs
 rw [E1, E2]
 generalize r * q = R at *
 generalize s * p = S at *
 generalize p * q = D at *
 by_cases h : x = y
 ·subst h
  rw [if_pos rfl]
  generalize x * D = T
  split <;> split <;> (try split) <;> (try split) <;> omega
 rw [if_neg h]
 by_cases h' : x < y
 ·have : (x + 1) * D ≤ y * D := Int.mul_le_mul_of_nonneg_right (by omega) (by omega)
  rw [Int.add_mul] at this
  generalize x * D = X at *
  generalize y * D = Y at *
  rw [if_pos (by omega), if_pos h']
 ·have : (y + 1) * D ≤ x * D := Int.mul_le_mul_of_nonneg_right (by omega) (by omega)
  rw [Int.add_mul] at this
  generalize x * D = X at *
  generalize y * D = Y at *
  rw [if_neg (by omega), if_pos (by omega), if_neg h', if_pos (by omega)]
theorem rcompared_any (a b : Rt) (ha : a.ok = true) (hb : b.ok = true) (hai : a.ins) (hbi : b.ins) (w : World) :
 Calls Tryz.prog 129 #[.agg #[.int .i64 a.num, .int .i64 a.den], .agg #[.int .i64 b.num, .int .i64 b.den]] w fun e w' => e = .returned (.int .i64 (Fr.cmpR a b)) ∧ Below w.heap.size w w' := by
 rw [cmpR_low ha hb]
 have h1 := Fr.ok_bd ha
 have h2 := Fr.ok_bd hb
 have m1 := Fr.mul_bd (u := a.num % a.den) (v := b.den) (m := 1048576) (n := 1048576) (by omega) (by omega) (by omega) (by omega)
 have m2 := Fr.mul_bd (u := b.num % b.den) (v := a.den) (m := 1048576) (n := 1048576) (by omega) (by omega) (by omega) (by omega)
 refine fun_eq 0 w Tryz.func129 (args := [.agg [.val (.int .i64 a.num), .val (.int .i64 a.den)], .agg [.val (.int .i64 b.num), .val (.int .i64 b.den)]]) rfl rfl ?_
 refine NewI.mk fun b1 hb1 => ?_
 refine NewI.mk fun b2 hb2 => ?_
 apply CallI.use1
 focus (exact fun w4 h4 => rlow03_any a.num a.den h1.1 hai.1 w4)
 intro w4 v4 h4 hB4
 apply CallI.use1
 focus (exact fun w5 h5 => rlow03_any b.num b.den h2.1 hbi.1 w5)
 intro w5 v5 h5 hB5
 have fin : ∀ x y : Int, (if x < y then (-1 : Int) else if y < x then 1 else 0) = cmpI x y := fun x y => rfl
 refine Branch.mk (fun z1 => ?_) (fun z1 => ?_)
 ·have he : a.num / a.den = b.num / b.den := of_decide_eq_true z1
  rw [if_pos he]
  refine DrawI.go (.tk 0 (.tk 1 (.tk 2 (.tk 3 (.tk 5 (.tk 6 (.ev 4 (.tk 7 (.tk 8 .done))))))))) (by kernel_rfl) fun w6 h6 => ?_
  apply CallI.use1
  focus (exact fun w6 h6 => rpart03_any a.num a.den h1.1 hai.2 w6)
  intro w7 v7 h7 hB7
  refine Need.mk (by simp only [inK]; omega) ?_
  refine DrawI.go (.tk 0 (.tk 1 (.tk 2 (.tk 3 (.tk 5 (.tk 6 (.ev 4 (.tk 7 (.tk 8 .done))))))))) (by kernel_rfl) fun w8 h8 => ?_
  apply CallI.use1
  focus (exact fun w6 h6 => rpart03_any b.num b.den h2.1 hbi.2 w6)
  intro w9 v9 h9 hB9
  refine Need.mk (by simp only [inK]; omega) ?_
  unfold cmpI
  refine Branch.mk (fun z2 => ?_) (fun z2 => ?_)
  ·rw [if_pos (of_decide_eq_true z2)]
   exact EndI.mk fun w9 h9 => rfl
  rw [if_neg (of_decide_eq_false z2)]
  refine Branch.mk (fun z3 => ?_) (fun z3 => ?_)
  ·rw [if_pos (of_decide_eq_true z3)]
   exact EndI.mk fun w9 h9 => rfl
  rw [if_neg (of_decide_eq_false z3)]
  exact EndI.mk fun w9 h9 => rfl
 ·rw [if_neg (of_decide_eq_false z1)]
  unfold cmpI
  refine Branch.mk (fun z2 => ?_) (fun z2 => ?_)
  ·rw [if_pos (of_decide_eq_true z2)]
   exact EndI.mk fun w9 h9 => rfl
  rw [if_neg (of_decide_eq_false z2)]
  refine Branch.mk (fun z3 => ?_) (fun z3 => ?_)
  ·rw [if_pos (of_decide_eq_true z3)]
   exact EndI.mk fun w9 h9 => rfl
  rw [if_neg (of_decide_eq_false z3)]
  exact EndI.mk fun w9 h9 => rfl
end Go.Proofs.YtanhnllkccldhaaGreat
namespace Go.Proofs.YtanhnllkccldhaaGreat
set_option linter.unusedVariables false
set_option linter.unusedSimpArgs false
open Go.RowKit Go.Proofs.YtanhnllkccldhaaGreat.Eng Enc
namespace Rg
theorem den_one {a : Rt} (ha : a.ok = true) : a.num % a.den = 0 ↔ a.den = 1 := by
 have oa := Fr.ok_bd ha
 constructor
 ·intro h
  have hg0 : Nat.gcd a.num.natAbs a.den.natAbs = 1 := by
   have h := ha
   simp only [Rt.ok, Fr.okB, Bool.and_eq_true, decide_eq_true_eq] at h
   exact h.2
  have hd : a.den ∣ a.num := Int.dvd_of_emod_eq_zero h
  have hg : Int.gcd a.num a.den = a.den.natAbs := Int.gcd_eq_right_iff_dvd (by omega) |>.2 hd |> fun h => by
   have : (Int.gcd a.num a.den : Int) = a.den := h
   omega
  have : Int.gcd a.num a.den = 1 := hg0
  omega
 ·intro h; rw [h]; omega
theorem floor_ok {a : Rt} (ha : a.ok = true) : (Fr.floor a).1 = a.num / a.den := by unfold Fr.floor; rw [if_pos ha]
theorem place_den {a : Rt} (ha : a.ok = true) : place a = if a.den = 1 then 2 * a.num else 2 * (Fr.floor a).1 + 1 := by
 unfold place
 rw [part_eq ha, floor_ok ha]
 simp only
 by_cases h : a.den = 1
 ·rw [if_pos ((den_one ha).2 h), if_pos h, h]; simp
 ·rw [if_neg (fun h' => h ((den_one ha).1 h')), if_neg h]
theorem part_num {a : Rt} (ha : a.ok = true) : a.num - (Fr.floor a).1 * a.den = (part a).num ∧ (part a).den = a.den := by
 rw [part_eq ha, floor_ok ha]
 have := Int.mul_ediv_add_emod a.num a.den
 rw [Int.mul_comm] at this
 exact ⟨by simp only; omega, rfl⟩
theorem odd_den {a : Rt} (ha : a.ok = true) : place a % 2 = 1 ↔ a.den ≠ 1 := by
 rw [place_den ha]
 split <;> omega
theorem place_neg {a : Rt} (ha : a.ok = true) : place a < 0 ↔ a.num < 0 := by
 have oa := Fr.ok_bd ha
 rw [place_den ha, floor_ok ha]
 split
 ·omega
 ·have h1 : a.num / a.den < 0 ↔ a.num < 0 := by
   constructor
   ·intro h
    rcases Int.lt_or_le a.num 0 with h' | h'
    ·exact h'
    ·have := Int.ediv_nonneg h' (by omega : 0 ≤ a.den); omega
   ·intro h; exact Int.ediv_neg_of_neg_of_pos h (by omega)
  omega
theorem ofI_ok {k : Int} (h : -1000 ≤ k ∧ k ≤ 1000) : (⟨k, 1⟩ : Rt).ok = true := by
 show Fr.okB _ _ = true
 unfold Fr.okB
 have : Fr.inB k 1 = true := Fr.in_iff.2 (by simp; omega)
 rw [this]; simp
theorem place_top {a : Rt} (ha : a.ok = true) {long : Int} (hl : 1 ≤ long ∧ long ≤ 16) : sides long ≤ place a ↔ 0 < Fr.cmpR a ⟨long, 1⟩ := by
 have oa := Fr.ok_bd ha
 have hr : (0 < Fr.cmpR a ⟨long, 1⟩) ↔ long * a.den < a.num := by
  unfold Fr.cmpR cmpI
  simp only [Int.mul_one]
  split
  ·omega
  ·split <;> omega
 rw [hr, place_den ha, floor_ok ha]
 have e := Int.mul_ediv_add_emod a.num a.den
 rw [Int.mul_comm] at e
 unfold sides
 split
 ·rename_i h; rw [h]; omega
 ·rename_i h
  have hn : a.num % a.den ≠ 0 := fun h' => h ((den_one ha).1 h')
  generalize a.num / a.den = q at *
  generalize a.num % a.den = r at *
  generalize a.den = d at *
  generalize a.num = x at *
  constructor
  ·intro h1
   have : long * d ≤ q * d := Int.mul_le_mul_of_nonneg_right (by omega) (by omega)
   omega
  ·intro h1
   rcases Int.lt_or_le q long with h2 | h2
   ·have : (q + 1) * d ≤ long * d := Int.mul_le_mul_of_nonneg_right (by omega) (by omega)
    rw [Int.add_mul] at this
    omega
   ·omega
theorem cmp_ok {a b : Rt} (ha : a.ok = true) (hb : b.ok = true) : (Fr.cmp a b).1 = Fr.cmpR a b := by unfold Fr.cmp; rw [if_pos ⟨ha, hb⟩]
theorem number_doc {p : Pt} (ht : p.t.ok = true) (hu : p.u.ok = true) {long : Int} (hl : 1 ≤ long ∧ long ≤ 16) :
 number p long = if 0 ≤ Fr.cmpR p.t p.u ∨ p.t.num < 0 ∨ 0 < Fr.cmpR p.u ⟨long, 1⟩ then -1 else 3 * (place p.t * (2 * long + 1) + place p.u) + (if p.t.den ≠ 1 ∧ p.u.den ≠ 1 then 1 + Fr.cmpR (part p.t) (part p.u) else 1) := by
 unfold number order
 rw [cmp_ok ht hu, cmp_ok (part_ok ht) (part_ok hu)]
 simp only [place_neg ht, place_top hu hl, odd_den ht, odd_den hu]
 rfl
def Three (pa d : Int) : Prop := (pa = 1 ∧ d = 2) ∨ (pa = 1 ∧ d = 3) ∨ (pa = 2 ∧ d = 3)
theorem of_low {n d : Int} (hd : 1 ≤ d ∧ d ≤ 10) (hn : -20000 ≤ n ∧ n ≤ 20000) (hg : Int.gcd n d = 1) : Fr.of n d = (⟨n, d⟩, 0) ∧ (⟨n, d⟩ : Rt).ok = true := by
 have hq : -20000 ≤ n / d ∧ n / d ≤ 20000 := by
  constructor
  ·exact Int.le_ediv_of_mul_le (by omega) (by
    have : -20000 * d ≤ -20000 * 1 := Int.mul_le_mul_of_nonpos_left (by omega) (by omega)
    omega)
  ·rcases Int.lt_or_le n 0 with h | h
   ·have := Int.ediv_neg_of_neg_of_pos h (by omega : 0 < d); omega
   ·have := Int.ediv_le_self d h; omega
 have hok : Fr.okB n d = true := by
  unfold Fr.okB
  have : Fr.inB n d = true := Fr.in_iff.2 (by omega)
  have hg' : Nat.gcd n.natAbs d.natAbs = 1 := hg
  rw [this, decide_eq_true hg']
  simp; omega
 refine ⟨?_, hok⟩
 unfold Fr.of Fr.low
 rw [if_neg (by omega), hg]
 simp only [Int.cast_ofNat_Int, Int.ediv_one]
 rw [if_pos hok]
theorem time_doc {pl pa d : Int} (h : 0 ≤ pl ∧ pl ≤ 1000) (h3 : Three pa d) : time pl pa d = (if pl % 2 = 0 then ⟨pl / 2, 1⟩ else ⟨pl / 2 * d + pa, d⟩) ∧ (time pl pa d).ok = true := by
 unfold time
 split
 ·have := of_low (n := pl / 2) (d := 1) (by omega) (by omega) (by simp)
  rw [this.1]; exact ⟨rfl, this.2⟩
 ·have hg : Int.gcd (pl / 2 * d + pa) d = 1 := by
   rw [Int.add_comm, Int.gcd_add_mul_right_left]
   rcases h3 with ⟨rfl, rfl⟩ | ⟨rfl, rfl⟩ | ⟨rfl, rfl⟩ <;> decide
  have := of_low (n := pl / 2 * d + pa) (d := d) (by rcases h3 with ⟨rfl, rfl⟩ | ⟨rfl, rfl⟩ | ⟨rfl, rfl⟩ <;> omega) (by rcases h3 with ⟨rfl, rfl⟩ | ⟨rfl, rfl⟩ | ⟨rfl, rfl⟩ <;> omega) hg
  rw [this.1]; exact ⟨rfl, this.2⟩
theorem parts_three {r : Int} (h : 0 ≤ r ∧ r < 3) : Three (parts r).1 (parts r).2.2 ∧ Three (parts r).2.1 (parts r).2.2 := by
 rcases (by omega : r = 0 ∨ r = 1 ∨ r = 2) with rfl | rfl | rfl <;> simp [parts, Three]
end Rg
namespace Ky
open Dbm Mi
def pl (x : Rat) : Int := if fr x = 0 then 2 * x.floor else 2 * x.floor + 1
def od (x y : Rat) : Int := if fr x = 0 ∨ fr y = 0 then 1 else if fr x < fr y then 0 else if fr x = fr y then 1 else 2
theorem pl_two {x y : Rat} (h : pl x = pl y) : x.floor = y.floor ∧ (fr x = 0 ↔ fr y = 0) := by
 unfold pl at h
 by_cases h1 : fr x = 0 <;> by_cases h2 : fr y = 0 <;> simp only [h1, h2, if_true, if_false] at h
 ·exact ⟨by omega, by simp [h1, h2]⟩
 ·omega
 ·omega
 ·exact ⟨by omega, by simp [h1, h2]⟩
theorem od_le {x y x' y' : Rat} (hx : fr x = 0 ↔ fr x' = 0) (hy : fr y = 0 ↔ fr y' = 0) (h : od x y = od x' y') : (fr x ≤ fr y ↔ fr x' ≤ fr y') ∧ (fr y ≤ fr x ↔ fr y' ≤ fr x') := by
 have a1 := fr_nonneg x
 have a2 := fr_nonneg y
 have a3 := fr_nonneg x'
 have a4 := fr_nonneg y'
 unfold od at h
 by_cases h1 : fr x = 0
 ·have h1' := hx.1 h1
  by_cases h2 : fr y = 0
  ·have h2' := hy.1 h2
   rw [h1, h2, h1', h2']
   exact ⟨Iff.rfl, Iff.rfl⟩
  ·have h2' : ¬ fr y' = 0 := fun e => h2 (hy.2 e)
   rw [h1, h1']
   exact ⟨⟨fun _ => a4, fun _ => a2⟩, ⟨fun k => absurd (by grind) h2, fun k => absurd (by grind) h2'⟩⟩
 ·have h1' : ¬ fr x' = 0 := fun e => h1 (hx.2 e)
  by_cases h2 : fr y = 0
  ·have h2' := hy.1 h2
   rw [h2, h2']
   exact ⟨⟨fun k => absurd (by grind) h1, fun k => absurd (by grind) h1'⟩, ⟨fun _ => a3, fun _ => a1⟩⟩
  ·have h2' : ¬ fr y' = 0 := fun e => h2 (hy.2 e)
   simp only [h1, h2, h1', h2', or_self, if_false] at h
   by_cases k1 : fr x < fr y <;> by_cases k2 : fr x' < fr y' <;> simp only [k1, k2, if_true, if_false] at h
   ·grind
   ·split at h <;> omega
   ·split at h <;> omega
   ·by_cases k3 : fr x = fr y <;> by_cases k4 : fr x' = fr y' <;> simp only [k3, k4, if_true, if_false] at h
    ·grind
    ·omega
    ·omega
    ·grind
theorem alike_of {t t' : Nat → Rat} (h0 : t 0 = 0) (h0' : t' 0 = 0) (h1 : pl (t 1) = pl (t' 1)) (h2 : pl (t 2) = pl (t' 2)) (h3 : od (t 1) (t 2) = od (t' 1) (t' 2)) : Alike t t' := by
 obtain ⟨a1, a2⟩ := pl_two h1
 obtain ⟨b1, b2⟩ := pl_two h2
 obtain ⟨c1, c2⟩ := od_le a2 b2 h3
 have z : fr (0 : Rat) = 0 := fr_int 0
 have n1 := fr_nonneg (t 1)
 have n2 := fr_nonneg (t 2)
 have n3 := fr_nonneg (t' 1)
 have n4 := fr_nonneg (t' 2)
 have e1 : ∀ x : Rat, 0 ≤ x → (x ≤ 0 ↔ x = 0) := fun x hx => ⟨fun h => by grind, fun h => by grind⟩
 refine ⟨fun i hi => ?_, fun i j hi hj => ?_⟩
 ·rw [h0, h0']
  rcases (by omega : i = 0 ∨ i = 1 ∨ i = 2) with rfl | rfl | rfl
  ·rw [h0, h0']
  ·rw [a1]
  ·rw [b1]
 ·rcases (by omega : i = 0 ∨ i = 1 ∨ i = 2) with rfl | rfl | rfl <;> rcases (by omega : j = 0 ∨ j = 1 ∨ j = 2) with rfl | rfl | rfl
  ·exact ⟨fun _ => Rat.le_refl, fun _ => Rat.le_refl⟩
  ·rw [h0, h0', z]; exact ⟨fun _ => n3, fun _ => n1⟩
  ·rw [h0, h0', z]; exact ⟨fun _ => n4, fun _ => n2⟩
  ·rw [h0, h0', z, e1 _ n1, e1 _ n3]; exact a2
  ·exact ⟨fun _ => Rat.le_refl, fun _ => Rat.le_refl⟩
  ·exact c1
  ·rw [h0, h0', z, e1 _ n2, e1 _ n4]; exact b2
  ·exact c2
  ·exact ⟨fun _ => Rat.le_refl, fun _ => Rat.le_refl⟩
theorem v_parts {a : Rt} (ha : a.ok = true) : (Fr.v a).floor = a.num / a.den ∧ fr (Fr.v a) = ((a.num % a.den : Int) : Rat) / ((a.den : Int) : Rat) ∧ (0 : Rat) < ((a.den : Int) : Rat) := by
 have oa := Fr.ok_bd ha
 have hd : (0 : Rat) < ((a.den : Int) : Rat) := by exact_mod_cast (by omega : 0 < a.den)
 have hd0 : ((a.den : Int) : Rat) ≠ 0 := by grind
 have e1 : (a.num : Rat) = ((a.num / a.den : Int) : Rat) * (a.den : Rat) + ((a.num % a.den : Int) : Rat) := by
  rw [← Rat.intCast_mul, ← Rat.intCast_add]
  congr 1
  have := Int.mul_ediv_add_emod a.num a.den
  rw [Int.mul_comm] at this
  omega
 have e2 : Fr.v a = ((a.num / a.den : Int) : Rat) + ((a.num % a.den : Int) : Rat) / ((a.den : Int) : Rat) := by
  unfold Fr.v
  rw [e1]
  grind
 have g0 : (0 : Rat) ≤ ((a.num % a.den : Int) : Rat) / ((a.den : Int) : Rat) := by
  rw [← Rat.not_lt, Rat.div_lt_iff hd, Rat.zero_mul]
  have : (0 : Rat) ≤ ((a.num % a.den : Int) : Rat) := by exact_mod_cast oa.2.2.2.2.1
  grind
 have g1 : ((a.num % a.den : Int) : Rat) / ((a.den : Int) : Rat) < 1 := by
  rw [Rat.div_lt_iff hd, Rat.one_mul]
  exact_mod_cast oa.2.2.2.2.2
 obtain ⟨f1, f2⟩ := fl_add (n := a.num / a.den) g0 g1
 rw [e2]
 exact ⟨f1, f2, hd⟩
theorem fr_v_zero {a : Rt} (ha : a.ok = true) : fr (Fr.v a) = 0 ↔ a.num % a.den = 0 := by
 obtain ⟨_, h2, h3⟩ := v_parts ha
 rw [h2]
 constructor
 ·intro h
  have h4 : ((a.num % a.den : Int) : Rat) = 0 := by
   have h5 : ((a.den : Int) : Rat) ≠ 0 := by grind
   grind
  exact_mod_cast h4
 ·intro h
  rw [h, Rat.intCast_zero, Rat.div_def, Rat.zero_mul]
theorem pl_place {a : Rt} (ha : a.ok = true) : pl (Fr.v a) = Rg.place a := by
 have oa := Fr.ok_bd ha
 unfold pl
 rw [Rg.place_den ha, (v_parts ha).1, Rg.floor_ok ha]
 by_cases h : a.den = 1
 ·rw [if_pos ((fr_v_zero ha).2 ((Rg.den_one ha).2 h)), if_pos h, h, Int.ediv_one]
 ·rw [if_neg (fun e => h ((Rg.den_one ha).1 ((fr_v_zero ha).1 e))), if_neg h]
theorem fr_v_lt {a b : Rt} (ha : a.ok = true) (hb : b.ok = true) : (fr (Fr.v a) < fr (Fr.v b) ↔ Rg.rX a b < Rg.rX b a) ∧ (fr (Fr.v a) = fr (Fr.v b) ↔ Rg.rX a b = Rg.rX b a) := by
 obtain ⟨_, a2, a3⟩ := v_parts ha
 obtain ⟨_, b2, b3⟩ := v_parts hb
 rw [a2, b2]
 unfold Rg.rX
 generalize a.num % a.den = r
 generalize b.num % b.den = s
 have key : ∀ x y : Int, ((r : Rat) / ((a.den : Int) : Rat) < (s : Rat) / ((b.den : Int) : Rat) ↔ r * b.den < s * a.den) := fun _ _ => by
  rw [Rat.div_lt_iff a3]
  have e : (s : Rat) / ((b.den : Int) : Rat) * ((a.den : Int) : Rat) = ((s * a.den : Int) : Rat) / ((b.den : Int) : Rat) := by rw [Rat.intCast_mul]; grind
  rw [e, Rat.lt_div_iff b3, ← Rat.intCast_mul, Rat.intCast_lt_intCast]
 have key2 : ((s : Rat) / ((b.den : Int) : Rat) < (r : Rat) / ((a.den : Int) : Rat) ↔ s * a.den < r * b.den) := by
  rw [Rat.div_lt_iff b3]
  have e : (r : Rat) / ((a.den : Int) : Rat) * ((b.den : Int) : Rat) = ((r * b.den : Int) : Rat) / ((a.den : Int) : Rat) := by rw [Rat.intCast_mul]; grind
  rw [e, Rat.lt_div_iff a3, ← Rat.intCast_mul, Rat.intCast_lt_intCast]
 have key1 := key 0 0
 refine ⟨key1, ⟨fun h => ?_, fun h => ?_⟩⟩
 ·have h1 : ¬ r * b.den < s * a.den := fun k => by have := key1.2 k; grind
  have h2 : ¬ s * a.den < r * b.den := fun k => by have := key2.2 k; grind
  omega
 ·have h1 : ¬ (r : Rat) / ((a.den : Int) : Rat) < (s : Rat) / ((b.den : Int) : Rat) := fun k => by have := key1.1 k; omega
  have h2 : ¬ (s : Rat) / ((b.den : Int) : Rat) < (r : Rat) / ((a.den : Int) : Rat) := fun k => by have := key2.1 k; omega
  grind
theorem od_order {p : Pt} (ht : p.t.ok = true) (hu : p.u.ok = true) : od (Fr.v p.t) (Fr.v p.u) = Rg.order p := by
 obtain ⟨l1, l2⟩ := fr_v_lt ht hu
 have o1 := Rg.odd_den ht
 have o2 := Rg.odd_den hu
 unfold od Rg.order
 have z1 := (fr_v_zero ht).trans (Rg.den_one ht)
 have z2 := (fr_v_zero hu).trans (Rg.den_one hu)
 by_cases h1 : p.t.den = 1
 ·rw [if_pos (.inl (z1.2 h1)), if_neg (fun h => o1.1 h.1 h1)]
 by_cases h2 : p.u.den = 1
 ·rw [if_pos (.inr (z2.2 h2)), if_neg (fun h => o2.1 h.2 h2)]
 rw [if_neg (fun h => h.elim (fun e => h1 (z1.1 e)) (fun e => h2 (z2.1 e))), if_pos (show Rg.place p.t % 2 = 1 ∧ Rg.place p.u % 2 = 1 from ⟨o1.2 h1, o2.2 h2⟩), Rg.cmp_part ht hu]
 unfold cmpI
 by_cases k1 : Rg.rX p.t p.u < Rg.rX p.u p.t
 ·rw [if_pos (l1.2 k1), if_pos k1]; rfl
 ·rw [if_neg (fun h => k1 (l1.1 h)), if_neg k1]
  by_cases k2 : Rg.rX p.t p.u = Rg.rX p.u p.t
  ·rw [if_pos (l2.2 k2), if_neg (by omega)]; rfl
  ·rw [if_neg (fun h => k2 (l2.1 h)), if_pos (by omega)]; rfl
theorem tvs_zero (l : List Rt) : Dbm.tvs l 0 = 0 := by
 show Fr.v ⟨0, 1⟩ = 0
 decide +kernel
theorem key_pt {t : Nat → Rat} {long : Int} (hl : 1 ≤ long ∧ long ≤ 16) (h0 : t 0 = 0) (hT : 0 ≤ t 1) (hlt : t 1 < t 2) (hU : t 2 ≤ (long : Rat)) :
 ∃ n : Int, 0 ≤ n ∧ n < (Rg.many long).1 ∧ (Rg.point n long).2 = true ∧ (Rg.pt n long).t.ok = true ∧ (Rg.pt n long).u.ok = true ∧ Alike t (Dbm.tvs [(Rg.pt n long).t, (Rg.pt n long).u]) := by
 have hs : Rg.sides long = 2 * long + 1 := rfl
 have e1 := eq_fr (t 1)
 have e2 := eq_fr (t 2)
 have n1 := fr_nonneg (t 1)
 have n2 := fr_nonneg (t 2)
 have u1 := fr_lt (t 1)
 have u2 := fr_lt (t 2)
 have f1 : 0 ≤ (t 1).floor := Rat.le_floor_iff.2 (by rw [Rat.intCast_zero]; exact hT)
 have f2 : (t 2).floor ≤ long := by
  have := Rat.floor_le (t 2)
  have h : ((t 2).floor : Rat) ≤ (long : Rat) := by grind
  exact_mod_cast h
 have f3 : (t 1).floor ≤ (t 2).floor := by
  have h1 := Rat.floor_le (t 1)
  exact Rat.le_floor_iff.2 (by grind)
 have f4 : (t 2).floor = long → fr (t 2) = 0 := fun h => by
  rw [h] at e2; grind
 have f5 : (t 1).floor = (t 2).floor → fr (t 1) < fr (t 2) := fun h => by
  rw [h] at e1; grind
 have c1 : (fr (t 1) = 0 ∧ pl (t 1) = 2 * (t 1).floor) ∨ (fr (t 1) ≠ 0 ∧ pl (t 1) = 2 * (t 1).floor + 1) := by
  unfold pl
  by_cases z : fr (t 1) = 0
  ·exact .inl ⟨z, if_pos z⟩
  ·exact .inr ⟨z, if_neg z⟩
 have c2 : (fr (t 2) = 0 ∧ pl (t 2) = 2 * (t 2).floor) ∨ (fr (t 2) ≠ 0 ∧ pl (t 2) = 2 * (t 2).floor + 1) := by
  unfold pl
  by_cases z : fr (t 2) = 0
  ·exact .inl ⟨z, if_pos z⟩
  ·exact .inr ⟨z, if_neg z⟩
 have c3 : ((fr (t 1) = 0 ∨ fr (t 2) = 0) ∧ od (t 1) (t 2) = 1) ∨ ((fr (t 1) ≠ 0 ∧ fr (t 2) ≠ 0) ∧ ((fr (t 1) < fr (t 2) ∧ od (t 1) (t 2) = 0) ∨ (¬ fr (t 1) < fr (t 2) ∧ (od (t 1) (t 2) = 1 ∨ od (t 1) (t 2) = 2)))) := by
  unfold od
  by_cases z : fr (t 1) = 0 ∨ fr (t 2) = 0
  ·exact .inl ⟨z, if_pos z⟩
  ·rw [if_neg z]
   refine .inr ⟨⟨fun e => z (.inl e), fun e => z (.inr e)⟩, ?_⟩
   by_cases k : fr (t 1) < fr (t 2)
   ·exact .inl ⟨k, if_pos k⟩
   ·rw [if_neg k]
    refine .inr ⟨k, ?_⟩
    split
    ·exact .inl rfl
    ·exact .inr rfl
 have f6 : (t 1).floor = (t 2).floor → fr (t 2) ≠ 0 := fun h e => by have := f5 h; grind
 have hmay : Rg.may3 (pl (t 1)) (pl (t 2)) (od (t 1) (t 2)) = true := by
  simp only [Rg.may3, Bool.and_eq_true, Bool.or_eq_true, decide_eq_true_eq]
  rcases c1 with ⟨a1, a2⟩ | ⟨a1, a2⟩ <;> rcases c2 with ⟨b1, b2⟩ | ⟨b1, b2⟩
  ·have h6 : (t 1).floor ≠ (t 2).floor := fun h => f6 h b1
   rcases c3 with ⟨_, d⟩ | ⟨⟨d, _⟩, _⟩
   ·omega
   ·exact absurd a1 d
  ·have h4 : (t 2).floor ≠ long := fun h => b1 (f4 h)
   rcases c3 with ⟨_, d⟩ | ⟨⟨d, _⟩, _⟩
   ·omega
   ·exact absurd a1 d
  ·have h6 : (t 1).floor ≠ (t 2).floor := fun h => f6 h b1
   rcases c3 with ⟨_, d⟩ | ⟨⟨_, d⟩, _⟩
   ·omega
   ·exact absurd b1 d
  ·have h4 : (t 2).floor ≠ long := fun h => b1 (f4 h)
   rcases c3 with ⟨d, _⟩ | ⟨_, ⟨_, d⟩ | ⟨d1, d2⟩⟩
   ·rcases d with d | d
    ·exact absurd d a1
    ·exact absurd d b1
   ·omega
   ·have h6 : (t 1).floor ≠ (t 2).floor := fun h => d1 (f5 h)
    omega
 have hTb : 0 ≤ pl (t 1) ∧ pl (t 1) < 33 := by
  simp only [Rg.may3, Bool.and_eq_true, Bool.or_eq_true, decide_eq_true_eq] at hmay
  omega
 have hUb : pl (t 2) < Rg.sides long := by
  rw [hs]
  unfold pl
  split
  ·omega
  ·rename_i z2
   have : (t 2).floor ≠ long := fun h => z2 (f4 h)
   omega
 have hg := Rg.may_good hTb hmay
 unfold Rg.good3 at hg
 simp only [Bool.and_eq_true, decide_eq_true_eq] at hg
 obtain ⟨⟨⟨g1, g2⟩, g3⟩, g4⟩ := hg
 have hnum : Rg.number (Rg.pt3 (pl (t 1)) (pl (t 2)) (od (t 1) (t 2))) long = 3 * (pl (t 1) * Rg.sides long + pl (t 2)) + od (t 1) (t 2) := by
  unfold Rg.number
  rw [if_neg (by rw [g2, g3]; omega), g2, g3, g4]
 have hpos : 0 ≤ 3 * (pl (t 1) * Rg.sides long + pl (t 2)) + od (t 1) (t 2) := by
  have h1 : 0 ≤ pl (t 1) * Rg.sides long := Int.mul_nonneg hTb.1 (by rw [hs]; omega)
  have h2 : pl (t 1) ≤ pl (t 2) := by
   simp only [Rg.may3, Bool.and_eq_true, Bool.or_eq_true, decide_eq_true_eq] at hmay
   omega
  omega
 obtain ⟨r1, r2, r3, r4, r5, r6, r7, r8, r9⟩ := Rg.rep_of hl (p := Rg.pt3 (pl (t 1)) (pl (t 2)) (od (t 1) (t 2))) (by rw [hnum]; exact hpos)
 refine ⟨_, r3, r4, r2, r5, r6, alike_of h0 (tvs_zero _) ?_ ?_ ?_⟩
 ·exact ((pl_place r5).trans (r7.trans g2)).symm
 ·exact ((pl_place r6).trans (r8.trans g3)).symm
 ·exact ((od_order r5 r6).trans (r9.trans g4)).symm
end Ky
end Go.Proofs.YtanhnllkccldhaaGreat
namespace Go.Proofs.YtanhnllkccldhaaGreat
set_option linter.unusedVariables false
open Go.RowKit Go.Shelf Go.Proofs.YtanhnllkccldhaaGreat.Eng
attribute [local go_sem] Oper.semAt_some
namespace VZ
def firstN {α : Type} (f : Nat → α) (k : Nat) : List α := (List.range k).map f
theorem firstN_succ {α : Type} (f : Nat → α) (k : Nat) : firstN f (k + 1) = firstN f k ++ [f k] := by simp [firstN, List.range_succ]
theorem firstN_len {α : Type} (f : Nat → α) (k : Nat) : (firstN f k).length = k := by simp [firstN]
def nth (zs : List Zn) (j : Nat) : Zn := zs[j]?.getD ⟨0, 0, 0, 0, 0, 0⟩
theorem firstN_take (zs : List Zn) {k : Nat} (hk : k ≤ zs.length) : firstN (nth zs) k = zs.take k := by
 apply List.ext_getElem
 ·simp [firstN, hk]
 ·intro i h1 h2
  have : i < zs.length := by simp [firstN] at h1; omega
  simp [firstN, nth, this]
end VZ
open VZ
theorem grown_anyV {X Y : World} (h : X.grownBy Y none) (row : Option Nat) : X.grownBy Y row := ⟨h.os, h.tape, h.output, h.size, fun k hk _ => h.block k hk (fun e => nomatch e)⟩
set_option maxRecDepth 100000 in
set_option maxHeartbeats 2000000 in
theorem valuesZ1_in (n : Nat) (hn : 1 ≤ n) (l Bs n₀ b off len cap : Nat) (f : Nat → Zn) (hreach : len * 48 ≤ 140737488351232) (hb : b < n₀) (J Jx : List Zn → World → Prop) (hJg : ∀ pre A B, J pre A → A.grownBy B none → J pre B)
 (hY : ∀ pre x W, J pre W → pre.length < len → YieldAt Fence.wide (n - 1) Tryz.prog l #[.agg #[.int .i64 x.a, .int .i64 x.b, .int .i64 x.c, .int .i64 x.d, .int .i64 x.e, .int .i64 x.f]] W fun e W' =>
   (e = .returned (.bool true) ∧ J (pre ++ [x]) W' ∧ Below n₀ W W') ∨ (e = .returned (.bool false) ∧ Jx (pre ++ [x]) W'))
 (W : World) (hn0 : n₀ ≤ W.heap.size) (hBs : W.cell? ⟨Bs, 0, none⟩ = some (.slice (some ⟨b, off, none⟩) len cap))
 (c0 : ∀ j, j < len → W.cell? ⟨b, off + j * 6, none⟩ = some (.int .i64 (f j).a)) (c1 : ∀ j, j < len → W.cell? ⟨b, off + j * 6 + 1, none⟩ = some (.int .i64 (f j).b))
 (c2 : ∀ j, j < len → W.cell? ⟨b, off + j * 6 + 2, none⟩ = some (.int .i64 (f j).c)) (c3 : ∀ j, j < len → W.cell? ⟨b, off + j * 6 + 3, none⟩ = some (.int .i64 (f j).d))
 (c4 : ∀ j, j < len → W.cell? ⟨b, off + j * 6 + 4, none⟩ = some (.int .i64 (f j).e)) (c5 : ∀ j, j < len → W.cell? ⟨b, off + j * 6 + 5, none⟩ = some (.int .i64 (f j).f)) (h0 : J [] W) :
 CallsIn Fence.wide n Tryz.prog 182 #[.func (.yield l) #[] #[], .pointer (some ⟨Bs, 0, none⟩)] W fun e W' => (∃ v, e = .returned v) ∧
  ((∃ ys, ys = firstN f len ∧ J ys W') ∨ (∃ pre, (∃ k, k ≤ len ∧ pre = firstN f k) ∧ Jx pre W')) := by
 refine callsIn_of_wp Tryz.func182 rfl trivial ?_ rfl
 simp only [Tryz.ntmps182, List.size_toArray, List.length_cons, List.length_nil, Nat.reduceAdd, Nat.reduceSub, Array.replicate_succ, Array.replicate_zero, List.push_toArray, List.append_toArray, List.nil_append, List.cons_append]
 gi_wp2
 gi_loopw [7] (fun i wr => ∃ k : Nat, k ≤ len ∧ i = .int .i64 k ∧ J (firstN f k) wr ∧ Below n₀ W wr)
  (fun i _ => len - (intOf i).toNat)
 case atStart => exact ⟨0, Nat.zero_le _, rfl, h0, Below.refl _ _⟩
 case round =>
  obtain ⟨k, hk, rfl, hJs, hnx⟩ := hrel
  have g0 : k < len → wr.cell? ⟨b, off + k * 6, none⟩ = some (.int .i64 (f k).a) := fun h => (hnx.cell (p := ⟨b, off + k * 6, none⟩) hb).trans (c0 k h)
  have g1 : k < len → wr.cell? ⟨b, off + k * 6 + 1, none⟩ = some (.int .i64 (f k).b) := fun h => (hnx.cell (p := ⟨b, off + k * 6 + 1, none⟩) hb).trans (c1 k h)
  have g2 : k < len → wr.cell? ⟨b, off + k * 6 + 2, none⟩ = some (.int .i64 (f k).c) := fun h => (hnx.cell (p := ⟨b, off + k * 6 + 2, none⟩) hb).trans (c2 k h)
  have g3 : k < len → wr.cell? ⟨b, off + k * 6 + 3, none⟩ = some (.int .i64 (f k).d) := fun h => (hnx.cell (p := ⟨b, off + k * 6 + 3, none⟩) hb).trans (c3 k h)
  have g4 : k < len → wr.cell? ⟨b, off + k * 6 + 4, none⟩ = some (.int .i64 (f k).e) := fun h => (hnx.cell (p := ⟨b, off + k * 6 + 4, none⟩) hb).trans (c4 k h)
  have g5 : k < len → wr.cell? ⟨b, off + k * 6 + 5, none⟩ = some (.int .i64 (f k).f) := fun h => (hnx.cell (p := ⟨b, off + k * 6 + 5, none⟩) hb).trans (c5 k h)
  clear c0 c1 c2 c3 c4 c5
  by_cases hlt : k < len
  ·obtain ⟨fn, tmps, assign, body, hy, hR⟩ := hY _ (f k) (wr.alloc (.cells #[.int .i64 (f k).a, .int .i64 (f k).b, .int .i64 (f k).c, .int .i64 (f k).d, .int .i64 (f k).e, .int .i64 (f k).f] 86)) (hJg _ _ _ hJs (World.grownBy_alloc _ _ none)) (by rw [firstN_len]; exact hlt)
   have g0 := g0 hlt
   have g1 := g1 hlt
   have g2 := g2 hlt
   have g3 := g3 hlt
   have g4 := g4 hlt
   have g5 := g5 hlt
   gi_wp2
   refine hR.mono ?_
   rintro e W3 (⟨rfl, hJ3, hk3⟩ | ⟨rfl, hJx3⟩)
   ·gi_wp2
    go_roundw
    case rel => exact ⟨k + 1, by omega, by simp, by rw [firstN_succ]; exact hJ3, hnx.trans (((Below.refl n₀ wr).alloc (Nat.le_trans hn0 hnx.size) _).trans hk3)⟩
    case measure => simp [intOf]; omega
   ·gi_wp2
    refine bodyPost_ret (results_none rfl _ _ _) rfl ?_
    exact ⟨⟨_, rfl⟩, .inr ⟨_, ⟨k + 1, by omega, (firstN_succ _ _).symm⟩, hJx3⟩⟩
  ·obtain rfl : k = len := by omega
   gi_wp2
   go_end0
   exact ⟨⟨_, rfl⟩, .inl ⟨_, rfl, hJs⟩⟩
set_option maxRecDepth 100000 in
set_option maxHeartbeats 1000000 in
theorem valuesZ1_nil_in (n : Nat) (l Bs : Nat) (a : Option Addr) (cap : Nat) (J : List Zn → World → Prop) (W : World) (hBs : W.cell? ⟨Bs, 0, none⟩ = some (.slice a 0 cap)) (h0 : J [] W) :
 CallsIn Fence.wide n Tryz.prog 182 #[.func (.yield l) #[] #[], .pointer (some ⟨Bs, 0, none⟩)] W fun e W' => (∃ v, e = .returned v) ∧ J [] W' := by
 refine callsIn_of_wp Tryz.func182 rfl trivial ?_ rfl
 simp only [Tryz.ntmps182, List.size_toArray, List.length_cons, List.length_nil, Nat.reduceAdd, Nat.reduceSub, Array.replicate_succ, Array.replicate_zero, List.push_toArray, List.append_toArray, List.nil_append, List.cons_append]
 gi_wp2
 gi_loopw [7] (fun i wr => i = .int .i64 0 ∧ J [] wr) (fun _ _ => 0)
 case atStart => exact ⟨rfl, h0⟩
 case round =>
  obtain ⟨rfl, hJs⟩ := hrel
  gi_wp2
  go_end0
  exact ⟨⟨_, rfl⟩, hJs⟩
set_option maxHeartbeats 1000000 in
theorem valuesZ_in (n : Nat) (a : Option Addr) (len cap : Nat) (w : World) :
 CallsIn Fence.wide n Tryz.prog 139 #[.slice a len cap] w fun e w' => e = .returned (.func (.func 182) #[] #[.pointer (some ⟨w.heap.size, 0, none⟩)]) ∧ w' = w.alloc (.cells #[.slice a len cap] 22) := by
 refine callsIn_of_wp Tryz.func139 rfl trivial ?_ rfl
 simp only [Tryz.ntmps139, List.size_toArray, List.length_cons, List.length_nil, Nat.reduceAdd, Nat.reduceSub, Array.replicate_succ, Array.replicate_zero, List.push_toArray, List.append_toArray, List.nil_append, List.cons_append]
 gi_wp2
 go_ret
 exact ⟨rfl, rfl⟩
theorem valuesZ_stops (n : Nat) (hn : 1 ≤ n) (Bs n₀ : Nat) (a : Option Addr) (cap : Nat) (zs : List Zn) (hreach : zs.length * 48 ≤ 140737488351232) (w : World) (hBs : Bs < w.heap.size) (hn₀ : n₀ ≤ w.heap.size)
 (hc : w.cell? ⟨Bs, 0, none⟩ = some (.slice a zs.length cap)) (hI : Sl n₀ w (.slice a zs.length cap) zs) :
 SeqStopsK Fence.wide n Tryz.prog 182 #[.pointer (some ⟨Bs, 0, none⟩)] (fun x : Zn => #[.agg #[.int .i64 x.a, .int .i64 x.b, .int .i64 x.c, .int .i64 x.d, .int .i64 x.e, .int .i64 x.f]]) (Below n₀) (fun ys => ys = zs) (fun pre => pre <+: zs) zs.length w := fun l J Jx W hW hJa _ hY h0 => by
 have hc' := (hW.cell (p := ⟨Bs, 0, none⟩) hBs).trans hc
 have hI' := hI.below (hW.mono hn₀)
 by_cases hz : zs = []
 ·subst hz
  exact (valuesZ1_nil_in n l Bs a cap J W hc' h0).mono fun e W' ⟨he, hj⟩ => ⟨he, .inl ⟨_, rfl, hj⟩⟩
 ·have hp : 0 < zs.length := List.length_pos_iff.2 hz
  obtain ⟨a', cap', e0, _, _, _, h4⟩ := hI'
  injection e0 with e1 e2 e3
  subst e1; subst e3
  obtain ⟨b, off, rfl, hb, _⟩ := h4 0 _ (List.getElem?_eq_getElem hp)
  have hcs : ∀ j, j < zs.length → ∀ i v, (Enc.enc (nth zs j))[i]? = some v → W.cell? ⟨b, off + j * 6 + i, none⟩ = some v := fun j hj i v hv => by
   obtain ⟨b', o', e, _, hcell⟩ := h4 j _ (List.getElem?_eq_getElem hj)
   injection e with e; injection e with e1 e2
   subst e1; subst e2
   have e5 : nth zs j = zs[j] := by unfold nth; rw [List.getElem?_eq_getElem hj]; rfl
   rw [e5] at hv
   have := hcell i v hv
   rwa [← Nat.add_assoc] at this
  refine (valuesZ1_in n hn l Bs n₀ b off zs.length cap (nth zs) hreach hb J Jx (fun pre A B h hg => hJa pre A B none h hg (fun r e => nomatch e)) hY W (Nat.le_trans hn₀ hW.size) hc' (fun j hj => hcs j hj 0 _ rfl) (fun j hj => hcs j hj 1 _ rfl) (fun j hj => hcs j hj 2 _ rfl) (fun j hj => hcs j hj 3 _ rfl) (fun j hj => hcs j hj 4 _ rfl) (fun j hj => hcs j hj 5 _ rfl) h0).mono ?_
  rintro e W' ⟨he, ⟨ys, rfl, hj⟩ | ⟨pre, ⟨k, hk, rfl⟩, hj⟩⟩
  ·exact ⟨he, .inl ⟨_, by rw [firstN_take zs (Nat.le_refl _), List.take_length], hj⟩⟩
  ·exact ⟨he, .inr ⟨_, by rw [firstN_take zs hk]; exact List.take_prefix _ _, hj⟩⟩
theorem valuesZ_stopsB (n : Nat) (hn : 1 ≤ n) (Bs n₀ n1 : Nat) (a : Option Addr) (cap : Nat) (zs : List Zn) (hreach : zs.length * 48 ≤ 140737488351232) (w : World) (hBs : Bs < w.heap.size) (hn₀ : n₀ ≤ w.heap.size)
 (hc : w.cell? ⟨Bs, 0, none⟩ = some (.slice a zs.length cap)) (hI : Sl n₀ w (.slice a zs.length cap) zs) :
 SeqStopsB n Tryz.prog 182 #[.pointer (some ⟨Bs, 0, none⟩)] (fun x : Zn => #[.agg #[.int .i64 x.a, .int .i64 x.b, .int .i64 x.c, .int .i64 x.d, .int .i64 x.e, .int .i64 x.f]]) (Below n₀) (fun ys => ys = zs) (fun pre => pre <+: zs) zs.length Bs n1 w := fun l J Jx W hW hJa _ hY h0 => by
 have hc' := (hW.cell (p := ⟨Bs, 0, none⟩) hBs).trans hc
 have hI' := hI.below (hW.mono hn₀)
 by_cases hz : zs = []
 ·subst hz
  exact (valuesZ1_nil_in n l Bs a cap J W hc' h0).mono fun e W' ⟨he, hj⟩ => ⟨he, .inl ⟨_, rfl, hj⟩⟩
 ·have hp : 0 < zs.length := List.length_pos_iff.2 hz
  obtain ⟨a', cap', e0, _, _, _, h4⟩ := hI'
  injection e0 with e1 e2 e3
  subst e1; subst e3
  obtain ⟨b, off, rfl, hb, _⟩ := h4 0 _ (List.getElem?_eq_getElem hp)
  have hcs : ∀ j, j < zs.length → ∀ i v, (Enc.enc (nth zs j))[i]? = some v → W.cell? ⟨b, off + j * 6 + i, none⟩ = some v := fun j hj i v hv => by
   obtain ⟨b', o', e, _, hcell⟩ := h4 j _ (List.getElem?_eq_getElem hj)
   injection e with e; injection e with e1 e2
   subst e1; subst e2
   have e5 : nth zs j = zs[j] := by unfold nth; rw [List.getElem?_eq_getElem hj]; rfl
   rw [e5] at hv
   have := hcell i v hv
   rwa [← Nat.add_assoc] at this
  refine (valuesZ1_in n hn l Bs n₀ b off zs.length cap (nth zs) hreach hb J Jx (fun pre A B h hg => hJa pre A B h (grown_anyV hg _)) (fun pre x W1 hj hl => (hY pre x W1 hj hl).mono fun e W' h => h.imp id fun h => ⟨h.1, h.2.1⟩) W (Nat.le_trans hn₀ hW.size) hc' (fun j hj => hcs j hj 0 _ rfl) (fun j hj => hcs j hj 1 _ rfl) (fun j hj => hcs j hj 2 _ rfl) (fun j hj => hcs j hj 3 _ rfl) (fun j hj => hcs j hj 4 _ rfl) (fun j hj => hcs j hj 5 _ rfl) h0).mono ?_
  rintro e W' ⟨he, ⟨ys, rfl, hj⟩ | ⟨pre, ⟨k, hk, rfl⟩, hj⟩⟩
  ·exact ⟨he, .inl ⟨_, by rw [firstN_take zs (Nat.le_refl _), List.take_length], hj⟩⟩
  ·exact ⟨he, .inr ⟨_, by rw [firstN_take zs hk]; exact List.take_prefix _ _, hj⟩⟩
end Go.Proofs.YtanhnllkccldhaaGreat
namespace Go.Proofs.YtanhnllkccldhaaGreat
set_option linter.unusedVariables false
set_option linter.unusedSimpArgs false
set_option maxRecDepth 100000
open Go.RowKit Go.Proofs.YtanhnllkccldhaaGreat.Eng Enc
theorem appendSeqZ_any (Bs : Nat) (a : Option Addr) (cap : Nat) (zs : List Zn) (hlen : zs.length ≤ 1000000) (w : World) (hc : w.cell? ⟨Bs, 0, none⟩ = some (.slice a zs.length cap)) (hS : Sl w.heap.size w (.slice a zs.length cap) zs) :
 Calls Tryz.prog 202 #[.slice none 0 0, .func (.func 182) #[] #[.pointer (some ⟨Bs, 0, none⟩)]] w fun e w' => ∃ v, e = .returned v ∧ Below Bs w w' ∧ Own 86 w.heap.size w' v zs := by
 have hBs : Bs < w.heap.size := World.block_lt_of_cell? _ _ hc
 refine fun_at 9 Bs w (Nat.le_of_lt hBs) Tryz.func202 (args := [.val (.slice none 0 0), .val (.func (.func 182) #[] #[.pointer (some ⟨Bs, 0, none⟩)])]) rfl rfl ?_
 refine NewI.mk fun b1 hb1 => ?_
 have hb1' : w.heap.size ≤ b1 := hb1
 refine RawI.mk fun ac w7 hR => ?_
 have h7 := hR.at_
 have hg7 : Below w.heap.size w w7 := at_below h7 (by simp)
 have hl1 := h7.lt b1 (by simp)
 have hc7 : w7.cell? ⟨Bs, 0, none⟩ = some (.slice a zs.length cap) := (hg7.cell (p := ⟨Bs, 0, none⟩) hBs).trans hc
 have hw7 := hg7.size
 refine rangeBu cxOk (by decide) hR rfl Tryz.call182 (valuesZ_stopsB 8 (by omega) Bs w.heap.size Bs a cap zs (by omega) w7 (by omega) hw7 hc7 (hS.below hg7)) (encs := fun x : Zn => [.agg #[.int .i64 x.a, .int .i64 x.b, .int .i64 x.c, .int .i64 x.d, .int .i64 x.e, .int .i64 x.f]]) (by omega) (Nat.le_refl Bs) (fun hm => by simp at hm; omega)
  (fun h k => h.trans k) ?_ (fun x => rfl)
  (γ := Value) (fun c => [⟨[.val c], 22⟩])
  (fun (pre : List Zn) (c : Value) W => Own 86 w7.heap.size W c pre) ?_ (.slice none 0 0) rfl Own.nil
  (fun (c : Code) (pre : List Zn) (q : Value) (W : World) => False)
  (fun _ q => [])
  (fun c q pre A B row h hg hr => h) (fun z => [(5, .loc 1 0)]) (fun z => [⟨[.val (.int .i64 z.a), .val (.int .i64 z.b), .val (.int .i64 z.c), .val (.int .i64 z.d), .val (.int .i64 z.e), .val (.int .i64 z.f)], 86⟩]) (fun c bs => ∀ k, c.ownBlock = some k → k ∉ bs) ?asg ?body ?done (fun _ _ _ _ _ _ _ _ h => h.elim)
 case asg =>
  intro l pre z c W hΦ hBW hsW hN
  refine NewI.mk fun b5 hb5 => ?_
  refine ⟨rfl, [b5], rfl, fun k hk hm => by have := hΦ.lt k hk; have hb5 : W.heap.size ≤ b5 := hb5; simp at hm; omega, Need.mk ⟨rfl, rfl, rfl, rfl⟩ (EndI.mk fun w9 h9 => ?_)⟩
  have hg := at_below h9 (fun b hb => by simp at hb; subst hb; exact hb5)
  exact ⟨below_keepsFrom hg _, hg.mono (by omega), hΦ.below hg⟩
 ·exact fun W l o o' hl ho h1 h2 => ⟨rfl, rfl, rfl, by simp, fun k hk => World.putObj_heap_other (by omega)⟩
 ·rintro c pre A C row hO hg hr
  have hO : Own 86 w7.heap.size A c pre := hO
  refine Own.kept hO hg ?_
  obtain ⟨_, ⟨e, _⟩ | ⟨g, cp, cur, e, hbg, hgb, _⟩⟩ := id hO
  ·rw [e]; exact .inl rfl
  ·rw [e]
   refine .inr (fun e' => ?_)
   rcases hr g e'.symm with h | ⟨_, o, ho, hcl⟩
   ·omega
   ·rw [hgb] at ho; cases ho; cases hcl
 case body =>
  intro l pre x c bs W hbs hψ hO hBW hsW hN
  have hO : Own 86 w7.heap.size W c pre := hO
  obtain ⟨b5, rfl⟩ := List.length_eq_one_iff.1 hbs
  refine NewI.mk fun b6 hb6 => ?_
  have hb6' : W.heap.size ≤ b6 := hb6
  have hr : ∀ k, c.ownBlock = some k → Bs ≤ k ∧ k ∉ [b1, b5, b6] := fun k hk => by
   have hkk := hO.lt k hk
   have h5 := hψ k hk
   simp at h5
   refine ⟨by omega, fun hm => ?_⟩
   simp only [List.mem_cons, List.not_mem_nil, or_false] at hm
   omega
  refine GenN.app (α := Zn) elZ pre [x] w7.heap.size (fun w5 h5 => hO.below h5.go) (fun w5 h5 => src_own h5 2 rfl rfl rfl rfl) (by unfold maxLen; simp; omega) (by simp; omega) (fun w5 h5 => Nat.le_trans hsW h5.size)
   (fun w5 w6 h5 hg => keep_grown h5 hg hr) fun sv' w5 w6 h5 hg hO' => ?_
  obtain ⟨a', c', rfl⟩ := hO'.form
  refine ⟨.slice a' (pre ++ [x]).length c', ?_⟩
  refine Need.mk (CovH.mk rfl rfl rfl) (EndI.mk fun w9 h9 => ?_)
  have hW9 : W.heap.size ≤ w9.heap.size := Nat.le_trans h5.size (Nat.le_trans hg.size h9.size)
  have keep1 : ∀ k, k < W.heap.size → k ≠ b1 → c.ownBlock ≠ some k → w9.heap[k]? = W.heap[k]? := fun k hkW h3 hrow => by
   refine (h9.step k (Nat.lt_of_lt_of_le hkW (Nat.le_trans h5.size hg.size)) (fun hm => ?_)).trans ((hg.block k (Nat.lt_of_lt_of_le hkW h5.size) (fun e => hrow e.symm)).trans (h5.go.block k hkW))
   simp at hm; omega
  have row : ∀ k, k < w7.heap.size → c.ownBlock ≠ some k := fun k hk e => by have := hO.lt k e; omega
  refine ⟨⟨hW9, fun k o hk7 hk hcl => ?_⟩, ?_, ?_⟩
  ·have hkW : k < W.heap.size := (Array.getElem?_eq_some_iff.1 hk).1
   refine (keep1 k hkW (by omega) (fun e => ?_)).trans hk
   obtain ⟨_, ⟨e0, _⟩ | ⟨g, cp, cur, e0, _, hgb, _⟩⟩ := id hO
   ·rw [e0] at e; cases e
   ·rw [e0] at e
    injection e with e
    subst e
    rw [hgb] at hk; cases hk; cases hcl
  ·have hb9 := h9.below
   exact ⟨hb9.os.trans hBW.os.symm, hb9.tape.trans hBW.tape.symm, hb9.output.trans hBW.output.symm, hW9, fun k hk => keep1 k (by omega) (by omega) (row k (by omega))⟩
  ·exact hO'.at h9 (fun b hb => by simp at hb; subst hb; exact hl1)
 case done =>
  rintro D xs c W hD hSx hO hmark
  have hO : Own 86 w7.heap.size W c xs := hO
  subst hSx
  have hDW : D < W.heap.size := (Array.getElem?_eq_some_iff.1 hmark).1
  obtain ⟨a', c', rfl⟩ := hO.form
  refine EndM.mk fun w10 h10 => ⟨⟨show Bs ≤ D by omega, (h10.step D hDW (by simp)).trans hmark⟩, fun w11 hu => ?_⟩
  have hO10 := hO.at h10 (by simp)
  refine (Own.kept (row := some D) hO10 ⟨hu.2.1, hu.2.2.1, hu.2.2.2.1, by rw [hu.1]; exact Nat.le_refl _, fun k _ hk => hu.2.2.2.2 k (fun e => hk (by rw [e]))⟩ ?_).lower hw7
  obtain ⟨_, ⟨e, _⟩ | ⟨g, cp, cur, e, _, hgb, _⟩⟩ := id hO10
  ·rw [e]; exact .inl rfl
  ·rw [e]
   refine .inr (fun e' => ?_)
   injection e' with e'
   subst e'
   have := (h10.step _ hDW (by simp)).trans hmark
   rw [hgb] at this; cases this
theorem collectZ_any (Bs : Nat) (a : Option Addr) (cap : Nat) (zs : List Zn) (hlen : zs.length ≤ 1000000) (w : World) (hc : w.cell? ⟨Bs, 0, none⟩ = some (.slice a zs.length cap)) (hS : Sl w.heap.size w (.slice a zs.length cap) zs) :
 Calls Tryz.prog 180 #[.func (.func 182) #[] #[.pointer (some ⟨Bs, 0, none⟩)]] w fun e w' => ∃ v, e = .returned v ∧ Below Bs w w' ∧ Own 86 w.heap.size w' v zs := by
 have hBs : Bs < w.heap.size := World.block_lt_of_cell? _ _ hc
 refine fun_at 0 Bs w (Nat.le_of_lt hBs) Tryz.func180 (args := [.val (.func (.func 182) #[] #[.pointer (some ⟨Bs, 0, none⟩)])]) rfl rfl ?_
 refine CallI.mk fun w1 h1 => ?_
 have hg1 : Below w.heap.size w w1 := h1.go
 refine (appendSeqZ_any Bs a cap zs hlen w1 ((hg1.cell (p := ⟨Bs, 0, none⟩) hBs).trans hc) (hS.go hg1 hg1.size)).mono ?_
 rintro e w2 ⟨v, rfl, hB2, hO⟩
 refine ⟨⟨hB2, by simp⟩, _, rfl, ?_⟩
 obtain ⟨a', c', rfl⟩ := hO.form
 exact EndI.mk fun w3 h3 => (hO.at h3 (by simp)).lower hg1.size
end Go.Proofs.YtanhnllkccldhaaGreat
namespace Go.Proofs.YtanhnllkccldhaaGreat
set_option linter.unusedVariables false
set_option linter.unusedSimpArgs false
set_option maxRecDepth 100000
open Go.RowKit Go.Shelf
namespace Zo
def cmp (x y : Zn) : Int :=
 if cmpI x.a y.a ≠ 0 then cmpI x.a y.a else if cmpI x.b y.b ≠ 0 then cmpI x.b y.b else if cmpI x.c y.c ≠ 0 then cmpI x.c y.c
 else if cmpI x.d y.d ≠ 0 then cmpI x.d y.d else if cmpI x.e y.e ≠ 0 then cmpI x.e y.e else if cmpI x.f y.f ≠ 0 then cmpI x.f y.f else 0
end Zo
theorem nanB_at (a : Int) (w : World) : Calls Tryz.prog 225 #[.int .i64 a] w fun e w' => e = .returned (.bool false) ∧ w' = w := by
 go_enter Tryz.func225, Tryz.ntmps225
 go_wp2
 go_ret
 exact ⟨by simp, rfl⟩
theorem cmpB_at (x y : Int) (w : World) : Calls Tryz.prog 205 #[.int .i64 x, .int .i64 y] w fun e w' => e = .returned (.int .i64 (cmpI x y)) ∧ w' = w := by
 have key : (x < y ∧ cmpI x y = -1) ∨ (¬ x < y ∧ y < x ∧ cmpI x y = 1) ∨ (¬ x < y ∧ ¬ y < x ∧ cmpI x y = 0) := by unfold cmpI; split <;> (try split) <;> omega
 rcases key with ⟨h1, h⟩ | ⟨h1, h2, h⟩ | ⟨h1, h2, h⟩
 all_goals (rw [h]; clear h)
 all_goals (go_enter Tryz.func205, Tryz.ntmps205)
 all_goals (go_wp2_with (go_at_call 225; refine (nanB_at _ _).mono ?_; rintro e w' ⟨rfl, rfl⟩))
 all_goals (go_ret; exact ⟨rfl, rfl⟩)
set_option maxHeartbeats 2000000 in
theorem compareB_at (bx b_y : Nat) (x y : Zn) (w : World)
 (x0 : w.cell? ⟨bx, 0, none⟩ = some (.int .i64 x.a)) (x1 : w.cell? ⟨bx, 1, none⟩ = some (.int .i64 x.b)) (x2 : w.cell? ⟨bx, 2, none⟩ = some (.int .i64 x.c)) (x3 : w.cell? ⟨bx, 3, none⟩ = some (.int .i64 x.d)) (x4 : w.cell? ⟨bx, 4, none⟩ = some (.int .i64 x.e)) (x5 : w.cell? ⟨bx, 5, none⟩ = some (.int .i64 x.f))
 (y0 : w.cell? ⟨b_y, 0, none⟩ = some (.int .i64 y.a)) (y1 : w.cell? ⟨b_y, 1, none⟩ = some (.int .i64 y.b)) (y2 : w.cell? ⟨b_y, 2, none⟩ = some (.int .i64 y.c)) (y3 : w.cell? ⟨b_y, 3, none⟩ = some (.int .i64 y.d)) (y4 : w.cell? ⟨b_y, 4, none⟩ = some (.int .i64 y.e)) (y5 : w.cell? ⟨b_y, 5, none⟩ = some (.int .i64 y.f)) :
 Calls Tryz.prog 183 #[.slice (some ⟨bx, 0, none⟩) 6 6, .slice (some ⟨b_y, 0, none⟩) 6 6] w fun e w' => e = .returned (.int .i64 (Zo.cmp x y)) ∧ w' = w := by
 unfold Zo.cmp
 by_cases h0 : cmpI x.a y.a = 0
 case neg =>
  rw [if_pos h0]
  have q0 := fun W => cmpB_at x.a y.a W
  generalize cmpI x.a y.a = c at *
  go_enter Tryz.func183, Tryz.ntmps183
  go_wp2
  refine wp_loop_rounds 1 ?_
  rw [rounds_succ]
  go_wp2_with (go_at_call 205; refine (q0 _).mono ?_; rintro e w' ⟨rfl, rfl⟩)
  go_ret
  exact ⟨rfl, rfl⟩
 rw [if_neg (by simp [h0])]
 by_cases h1 : cmpI x.b y.b = 0
 case neg =>
  rw [if_pos h1]
  have q0 := fun W => cmpB_at x.a y.a W
  rw [h0] at q0
  have q1 := fun W => cmpB_at x.b y.b W
  generalize cmpI x.b y.b = c at *
  go_enter Tryz.func183, Tryz.ntmps183
  go_wp2
  refine wp_loop_rounds 2 ?_
  rw [rounds_succ]
  go_wp2_with (go_at_call 205; refine (q0 _).mono ?_; rintro e w' ⟨rfl, rfl⟩)
  rw [rounds_succ]
  go_wp2_with (go_at_call 205; refine (q1 _).mono ?_; rintro e w' ⟨rfl, rfl⟩)
  go_ret
  exact ⟨rfl, rfl⟩
 rw [if_neg (by simp [h1])]
 by_cases h2 : cmpI x.c y.c = 0
 case neg =>
  rw [if_pos h2]
  have q0 := fun W => cmpB_at x.a y.a W
  rw [h0] at q0
  have q1 := fun W => cmpB_at x.b y.b W
  rw [h1] at q1
  have q2 := fun W => cmpB_at x.c y.c W
  generalize cmpI x.c y.c = c at *
  go_enter Tryz.func183, Tryz.ntmps183
  go_wp2
  refine wp_loop_rounds 3 ?_
  rw [rounds_succ]
  go_wp2_with (go_at_call 205; refine (q0 _).mono ?_; rintro e w' ⟨rfl, rfl⟩)
  rw [rounds_succ]
  go_wp2_with (go_at_call 205; refine (q1 _).mono ?_; rintro e w' ⟨rfl, rfl⟩)
  rw [rounds_succ]
  go_wp2_with (go_at_call 205; refine (q2 _).mono ?_; rintro e w' ⟨rfl, rfl⟩)
  go_ret
  exact ⟨rfl, rfl⟩
 rw [if_neg (by simp [h2])]
 by_cases h3 : cmpI x.d y.d = 0
 case neg =>
  rw [if_pos h3]
  have q0 := fun W => cmpB_at x.a y.a W
  rw [h0] at q0
  have q1 := fun W => cmpB_at x.b y.b W
  rw [h1] at q1
  have q2 := fun W => cmpB_at x.c y.c W
  rw [h2] at q2
  have q3 := fun W => cmpB_at x.d y.d W
  generalize cmpI x.d y.d = c at *
  go_enter Tryz.func183, Tryz.ntmps183
  go_wp2
  refine wp_loop_rounds 4 ?_
  rw [rounds_succ]
  go_wp2_with (go_at_call 205; refine (q0 _).mono ?_; rintro e w' ⟨rfl, rfl⟩)
  rw [rounds_succ]
  go_wp2_with (go_at_call 205; refine (q1 _).mono ?_; rintro e w' ⟨rfl, rfl⟩)
  rw [rounds_succ]
  go_wp2_with (go_at_call 205; refine (q2 _).mono ?_; rintro e w' ⟨rfl, rfl⟩)
  rw [rounds_succ]
  go_wp2_with (go_at_call 205; refine (q3 _).mono ?_; rintro e w' ⟨rfl, rfl⟩)
  go_ret
  exact ⟨rfl, rfl⟩
 rw [if_neg (by simp [h3])]
 by_cases h4 : cmpI x.e y.e = 0
 case neg =>
  rw [if_pos h4]
  have q0 := fun W => cmpB_at x.a y.a W
  rw [h0] at q0
  have q1 := fun W => cmpB_at x.b y.b W
  rw [h1] at q1
  have q2 := fun W => cmpB_at x.c y.c W
  rw [h2] at q2
  have q3 := fun W => cmpB_at x.d y.d W
  rw [h3] at q3
  have q4 := fun W => cmpB_at x.e y.e W
  generalize cmpI x.e y.e = c at *
  go_enter Tryz.func183, Tryz.ntmps183
  go_wp2
  refine wp_loop_rounds 5 ?_
  rw [rounds_succ]
  go_wp2_with (go_at_call 205; refine (q0 _).mono ?_; rintro e w' ⟨rfl, rfl⟩)
  rw [rounds_succ]
  go_wp2_with (go_at_call 205; refine (q1 _).mono ?_; rintro e w' ⟨rfl, rfl⟩)
  rw [rounds_succ]
  go_wp2_with (go_at_call 205; refine (q2 _).mono ?_; rintro e w' ⟨rfl, rfl⟩)
  rw [rounds_succ]
  go_wp2_with (go_at_call 205; refine (q3 _).mono ?_; rintro e w' ⟨rfl, rfl⟩)
  rw [rounds_succ]
  go_wp2_with (go_at_call 205; refine (q4 _).mono ?_; rintro e w' ⟨rfl, rfl⟩)
  go_ret
  exact ⟨rfl, rfl⟩
 rw [if_neg (by simp [h4])]
 by_cases h5 : cmpI x.f y.f = 0
 case neg =>
  rw [if_pos h5]
  have q0 := fun W => cmpB_at x.a y.a W
  rw [h0] at q0
  have q1 := fun W => cmpB_at x.b y.b W
  rw [h1] at q1
  have q2 := fun W => cmpB_at x.c y.c W
  rw [h2] at q2
  have q3 := fun W => cmpB_at x.d y.d W
  rw [h3] at q3
  have q4 := fun W => cmpB_at x.e y.e W
  rw [h4] at q4
  have q5 := fun W => cmpB_at x.f y.f W
  generalize cmpI x.f y.f = c at *
  go_enter Tryz.func183, Tryz.ntmps183
  go_wp2
  refine wp_loop_rounds 6 ?_
  rw [rounds_succ]
  go_wp2_with (go_at_call 205; refine (q0 _).mono ?_; rintro e w' ⟨rfl, rfl⟩)
  rw [rounds_succ]
  go_wp2_with (go_at_call 205; refine (q1 _).mono ?_; rintro e w' ⟨rfl, rfl⟩)
  rw [rounds_succ]
  go_wp2_with (go_at_call 205; refine (q2 _).mono ?_; rintro e w' ⟨rfl, rfl⟩)
  rw [rounds_succ]
  go_wp2_with (go_at_call 205; refine (q3 _).mono ?_; rintro e w' ⟨rfl, rfl⟩)
  rw [rounds_succ]
  go_wp2_with (go_at_call 205; refine (q4 _).mono ?_; rintro e w' ⟨rfl, rfl⟩)
  rw [rounds_succ]
  go_wp2_with (go_at_call 205; refine (q5 _).mono ?_; rintro e w' ⟨rfl, rfl⟩)
  go_ret
  exact ⟨rfl, rfl⟩
 rw [if_neg (by simp [h5])]
 have q0 := fun W => cmpB_at x.a y.a W
 rw [h0] at q0
 have q1 := fun W => cmpB_at x.b y.b W
 rw [h1] at q1
 have q2 := fun W => cmpB_at x.c y.c W
 rw [h2] at q2
 have q3 := fun W => cmpB_at x.d y.d W
 rw [h3] at q3
 have q4 := fun W => cmpB_at x.e y.e W
 rw [h4] at q4
 have q5 := fun W => cmpB_at x.f y.f W
 rw [h5] at q5
 go_enter Tryz.func183, Tryz.ntmps183
 go_wp2
 refine wp_loop_rounds 7 ?_
 rw [rounds_succ]
 go_wp2_with (go_at_call 205; refine (q0 _).mono ?_; rintro e w' ⟨rfl, rfl⟩)
 rw [rounds_succ]
 go_wp2_with (go_at_call 205; refine (q1 _).mono ?_; rintro e w' ⟨rfl, rfl⟩)
 rw [rounds_succ]
 go_wp2_with (go_at_call 205; refine (q2 _).mono ?_; rintro e w' ⟨rfl, rfl⟩)
 rw [rounds_succ]
 go_wp2_with (go_at_call 205; refine (q3 _).mono ?_; rintro e w' ⟨rfl, rfl⟩)
 rw [rounds_succ]
 go_wp2_with (go_at_call 205; refine (q4 _).mono ?_; rintro e w' ⟨rfl, rfl⟩)
 rw [rounds_succ]
 go_wp2_with (go_at_call 205; refine (q5 _).mono ?_; rintro e w' ⟨rfl, rfl⟩)
 rw [rounds_succ]
 go_wp2
 go_ret
 exact ⟨rfl, rfl⟩
theorem zcmp_at (x y : Zn) (w : World) : Calls Tryz.prog 140 #[.agg #[.int .i64 x.a, .int .i64 x.b, .int .i64 x.c, .int .i64 x.d, .int .i64 x.e, .int .i64 x.f], .agg #[.int .i64 y.a, .int .i64 y.b, .int .i64 y.c, .int .i64 y.d, .int .i64 y.e, .int .i64 y.f]] w fun e w' => e = .returned (.int .i64 (Zo.cmp x y)) ∧ ∃ q os', w' = Go.Sort.grow (w.drewN q) os' := by
 have hcon := fun W x0 x1 x2 x3 x4 x5 y0 y1 y2 y3 y4 y5 => compareB_at w.heap.size (w.heap.size + 1) x y W x0 x1 x2 x3 x4 x5 y0 y1 y2 y3 y4 y5
 generalize Zo.cmp x y = c at *
 go_enter Tryz.func140, Tryz.ntmps140
 go_wp2
 go_quiet ((go_at_call 183; exact Calls.quiet_of_same (hcon _ (by simp) (by simp) (by simp) (by simp) (by simp) (by simp) (by simp) (by simp) (by simp) (by simp) (by simp) (by simp))))
 go_wp2
 go_ret
 exact ⟨rfl, _, _, by rw [Go.Sort.alloc_eq_grow, Go.Sort.alloc_eq_grow, Go.Sort.grow_grow]; rfl⟩
end Go.Proofs.YtanhnllkccldhaaGreat
namespace Go.Proofs
open Go.Shelf
def Tryz.sortZ_ren : Go.Shelf.Ren := ⟨fun | 6 => 181 | 15 => 204 | 14 => 203 | 28 => 223 | 29 => 224 | 20 => 215 | 21 => 216 | 22 => 217 | 23 => 218 | 24 => 219 | 25 => 220 | 26 => 221 | 27 => 222 | 46 => 229 | 47 => 230 | 48 => 231 | 49 => 232 | 50 => 233 | 57 => 242 | n => n, fun | 22 => 22 | 24 => 86 | 25 => 182 | 3 => 3 | 39 => 244 | 0 => 0 | 53 => 262 | 55 => 169 | 4 => 4 | 46 => 255 | 45 => 254 | 50 => 259 | 5 => 5 | 9 => 9 | 66 => 269 | 70 => 273 | 76 => 283 | 77 => 214 | n => n, fun | n => n⟩
theorem Tryz.sortZ : Go.Proofs.SlLaysF0.n6 Tryz.prog Tryz.sortZ_ren := {
 mixed := by kernel_rfl
 f6 := ⟨Tryz.f181.name, by decide, Tryz.func181.trans (congrArg some (by kernel_rfl))⟩
 f14 := ⟨Tryz.f203.name, by decide, Tryz.func203.trans (congrArg some (by kernel_rfl))⟩
 f15 := Tryz.func204.trans (congrArg some (by kernel_rfl))
 f20 := ⟨Tryz.f215.name, by decide, Tryz.func215.trans (congrArg some (by kernel_rfl))⟩
 f21 := ⟨Tryz.f216.name, by decide, Tryz.func216.trans (congrArg some (by kernel_rfl))⟩
 f22 := ⟨Tryz.f217.name, by decide, Tryz.func217.trans (congrArg some (by kernel_rfl))⟩
 f23 := ⟨Tryz.f218.name, by decide, Tryz.func218.trans (congrArg some (by kernel_rfl))⟩
 f24 := ⟨Tryz.f219.name, by decide, Tryz.func219.trans (congrArg some (by kernel_rfl))⟩
 f25 := ⟨Tryz.f220.name, by decide, Tryz.func220.trans (congrArg some (by kernel_rfl))⟩
 f26 := ⟨Tryz.f221.name, by decide, Tryz.func221.trans (congrArg some (by kernel_rfl))⟩
 f27 := ⟨Tryz.f222.name, by decide, Tryz.func222.trans (congrArg some (by kernel_rfl))⟩
 f28 := Tryz.func223.trans (congrArg some (by kernel_rfl))
 f29 := Tryz.func224.trans (congrArg some (by kernel_rfl))
 f46 := ⟨Tryz.f229.name, by decide, Tryz.func229.trans (congrArg some (by kernel_rfl))⟩
 f47 := Tryz.func230.trans (congrArg some (by kernel_rfl))
 f48 := Tryz.func231.trans (congrArg some (by kernel_rfl))
 f49 := ⟨Tryz.f232.name, by decide, Tryz.func232.trans (congrArg some (by kernel_rfl))⟩
 f50 := ⟨Tryz.f233.name, by decide, Tryz.func233.trans (congrArg some (by kernel_rfl))⟩
 f57 := ⟨Tryz.f242.name, by decide, Tryz.func242.trans (congrArg some (by kernel_rfl))⟩
 t0 := Tryz.underlying0
 a0 := Tryz.isAgg0
 z0 := Tryz.sizeOf0
 v0 := Tryz.zeroValue0
 t3 := Tryz.underlying3
 a3 := Tryz.isAgg3
 z3 := Tryz.sizeOf3
 v3 := Tryz.zeroValue3
 t4 := Tryz.underlying4
 a4 := Tryz.isAgg4
 z4 := Tryz.sizeOf4
 v4 := Tryz.zeroValue4
 t5 := Tryz.underlying5
 a5 := Tryz.isAgg5
 z5 := Tryz.sizeOf5
 v5 := Tryz.zeroValue5
 t9 := Tryz.underlying9
 a9 := Tryz.isAgg9
 z9 := Tryz.sizeOf9
 v9 := Tryz.zeroValue9
 t22 := Tryz.underlying22
 a22 := Tryz.isAgg22
 z22 := Tryz.sizeOf22
 v22 := Tryz.zeroValue22
 t25 := Tryz.underlying182
 a25 := Tryz.isAgg182
 z25 := Tryz.sizeOf182
 v25 := Tryz.zeroValue182
 t39 := Tryz.underlying244
 a39 := Tryz.isAgg244
 z39 := Tryz.sizeOf244
 v39 := Tryz.zeroValue244
 t45 := Tryz.underlying254
 a45 := Tryz.isAgg254
 z45 := Tryz.sizeOf254
 v45 := Tryz.zeroValue254
 t46 := Tryz.underlying255
 a46 := Tryz.isAgg255
 z46 := Tryz.sizeOf255
 v46 := Tryz.zeroValue255
 t50 := Tryz.underlying259
 a50 := Tryz.isAgg259
 z50 := Tryz.sizeOf259
 v50 := Tryz.zeroValue259
 t53 := Tryz.underlying262
 a53 := Tryz.isAgg262
 z53 := Tryz.sizeOf262
 v53 := Tryz.zeroValue262
 t55 := Tryz.underlying169
 a55 := Tryz.isAgg169
 z55 := Tryz.sizeOf169
 v55 := Tryz.zeroValue169
 t66 := Tryz.underlying269
 a66 := Tryz.isAgg269
 z66 := Tryz.sizeOf269
 v66 := Tryz.zeroValue269
 t70 := Tryz.underlying273
 a70 := Tryz.isAgg273
 z70 := Tryz.sizeOf273
 v70 := Tryz.zeroValue273
 t76 := Tryz.underlying283
 a76 := Tryz.isAgg283
 z76 := Tryz.sizeOf283
 v76 := Tryz.zeroValue283
 t77 := Tryz.underlying214
 a77 := Tryz.isAgg214
 z77 := Tryz.sizeOf214
 v77 := Tryz.zeroValue214 }
end Go.Proofs
namespace Go.Proofs.YtanhnllkccldhaaGreat
set_option linter.unusedVariables false
set_option linter.unusedSimpArgs false
set_option maxRecDepth 100000
open Go.RowKit Go.Proofs.YtanhnllkccldhaaGreat.Eng Enc Go.Shelf Go.Sort
namespace Zo
instance inhZn : Inhabited Zn := ⟨⟨0, 0, 0, 0, 0, 0⟩⟩
def Lt (x y : Zn) : Prop := x.a < y.a ∨ x.a = y.a ∧ (x.b < y.b ∨ x.b = y.b ∧ (x.c < y.c ∨ x.c = y.c ∧ (x.d < y.d ∨ x.d = y.d ∧ (x.e < y.e ∨ x.e = y.e ∧ (x.f < y.f ∨ x.f = y.f ∧ False)))))
theorem cmpI_lt (x y : Int) : cmpI x y < 0 ↔ x < y := by unfold cmpI; split <;> (try split) <;> omega
theorem cmpI_eq (x y : Int) : cmpI x y = 0 ↔ x = y := by unfold cmpI; split <;> (try split) <;> omega
theorem step_lt {x y c : Int} {P : Prop} (h : c < 0 ↔ P) : (if cmpI x y ≠ 0 then cmpI x y else c) < 0 ↔ (x < y ∨ x = y ∧ P) := by
 have h1 := cmpI_lt x y
 have h2 := cmpI_eq x y
 by_cases hc : cmpI x y = 0
 ·rw [if_neg (by simp [hc]), h]
  have := h2.1 hc
  constructor
  ·intro hp; exact .inr ⟨this, hp⟩
  ·rintro (hl | ⟨_, hp⟩)
   ·omega
   ·exact hp
 ·rw [if_pos hc, h1]
  constructor
  ·exact .inl
  ·rintro (hl | ⟨he, _⟩)
   ·exact hl
   ·exact absurd (h2.2 he) hc
theorem cmp_lt (x y : Zn) : cmp x y < 0 ↔ Lt x y := by
 unfold cmp Lt
 exact step_lt (step_lt (step_lt (step_lt (step_lt (step_lt (by simp))))))
theorem lex_trans {x y z : Int} {P Q R : Prop} (h : P → Q → R) : (x < y ∨ x = y ∧ P) → (y < z ∨ y = z ∧ Q) → (x < z ∨ x = z ∧ R) := by
 rintro (h1 | ⟨h1, hp⟩) (h2 | ⟨h2, hq⟩)
 ·left; omega
 ·left; omega
 ·left; omega
 ·right; exact ⟨by omega, h hp hq⟩
theorem lex_ntrans {x y z : Int} {P Q R : Prop} (h : ¬ P → ¬ Q → ¬ R) : ¬ (x < y ∨ x = y ∧ P) → ¬ (y < z ∨ y = z ∧ Q) → ¬ (x < z ∨ x = z ∧ R) := by
 intro h1 h2
 have a1 : ¬ x < y := fun h => h1 (.inl h)
 have a2 : ¬ y < z := fun h => h2 (.inl h)
 rintro (h3 | ⟨h3, hr⟩)
 ·omega
 ·have e1 : x = y := by omega
  have e2 : y = z := by omega
  exact h (fun hp => h1 (.inr ⟨e1, hp⟩)) (fun hq => h2 (.inr ⟨e2, hq⟩)) hr
theorem lex_tot {x y : Int} {P Q E : Prop} (h : ¬ P → ¬ Q → E) : ¬ (x < y ∨ x = y ∧ P) → ¬ (y < x ∨ y = x ∧ Q) → x = y ∧ E := by
 intro h1 h2
 have a1 : ¬ x < y := fun h => h1 (.inl h)
 have a2 : ¬ y < x := fun h => h2 (.inl h)
 have e1 : x = y := by omega
 exact ⟨e1, h (fun hp => h1 (.inr ⟨e1, hp⟩)) (fun hq => h2 (.inr ⟨e1.symm, hq⟩))⟩
theorem Lt.irrefl (x : Zn) : ¬ Lt x x := by unfold Lt; simp
theorem Lt.trans {x y z : Zn} : Lt x y → Lt y z → Lt x z := by
 unfold Lt
 exact lex_trans (lex_trans (lex_trans (lex_trans (lex_trans (lex_trans fun h _ => h)))))
theorem Lt.ntrans {x y z : Zn} : ¬ Lt x y → ¬ Lt y z → ¬ Lt x z := by
 unfold Lt
 exact lex_ntrans (lex_ntrans (lex_ntrans (lex_ntrans (lex_ntrans (lex_ntrans fun h _ => h)))))
theorem Lt.tot {x y : Zn} (h1 : ¬ Lt x y) (h2 : ¬ Lt y x) : x = y := by
 unfold Lt at h1 h2
 obtain ⟨e1, e2, e3, e4, e5, e6, _⟩ := lex_tot (lex_tot (lex_tot (lex_tot (lex_tot (lex_tot (E := True) fun _ _ => trivial))))) h1 h2
 cases x; cases y; simp_all
theorem lt_iff (x y : Zn) : ltOf cmp x y = true ↔ Lt x y := by unfold ltOf; simp [cmp_lt]
theorem lt_niff (x y : Zn) : ltOf cmp x y = false ↔ ¬ Lt x y := by unfold ltOf; simp [← cmp_lt]
theorem swo : SWO (ltOf cmp) where
 irrefl x := (lt_niff x x).2 (Lt.irrefl x)
 trans x y z h1 h2 := (lt_iff x z).2 (((lt_iff x y).1 h1).trans ((lt_iff y z).1 h2))
 ntrans x y z h1 h2 := (lt_niff x z).2 (Lt.ntrans ((lt_niff x y).1 h1) ((lt_niff y z).1 h2))
theorem tot (x y : Zn) (h1 : ltOf cmp x y = false) (h2 : ltOf cmp y x = false) : x = y := Lt.tot ((lt_niff x y).1 h1) ((lt_niff y x).1 h2)
def sort (l : List Zn) : List Zn := l.mergeSort fun x y => !(ltOf cmp) y x
theorem sort_len (l : List Zn) : (sort l).length = l.length := List.length_mergeSort _
theorem sort_perm (l : List Zn) : (sort l).Perm l := List.mergeSort_perm l _
theorem sort_sorted (l : List Zn) : (sort l).Pairwise fun x y => ¬ Lt y x := by
 have h := List.pairwise_mergeSort (le := fun x y => !(ltOf cmp) y x) (fun x y z h1 h2 => by
  simp only [Bool.not_eq_eq_eq_not, Bool.not_true] at *
  exact (lt_niff z x).2 (Lt.ntrans ((lt_niff z y).1 h2) ((lt_niff y x).1 h1))) (fun x y => by
  simp only [Bool.or_eq_true, Bool.not_eq_eq_eq_not, Bool.not_true]
  by_cases h : Lt y x
  ·exact .inr ((lt_niff x y).2 fun k => Lt.irrefl _ (h.trans k))
  ·exact .inl ((lt_niff y x).2 h)) l
 refine h.imp fun {x y} hxy => ?_
 simp only [Bool.not_eq_eq_eq_not, Bool.not_true] at hxy
 exact (lt_niff y x).1 hxy
end Zo
theorem zcmpLays (blk off size : Nat) (w : World) : CmpLays Tryz.prog 140 #[] (Enc.enc (α := Zn)) 6 Zo.cmp blk off size w := fun m os dk _ x y => by
 refine (zcmp_at x y (sortWorldK Enc.enc 6 w blk off m dk os)).mono ?_
 rintro e w' ⟨rfl, q, os', rfl⟩
 exact ⟨rfl, q, os', rfl⟩
theorem flat_list {α : Type} [Enc α] [Inhabited α] (l : List α) : (flatK Enc.enc (size α) l.toArray).toList = cellsL l := by
 have h1 : (flatK (Enc.enc (α := α)) (size α) l.toArray).size = l.length * size α := by simp
 apply List.ext_getElem?
 intro t
 by_cases ht : t < l.length * size α
 ·have hp : 0 < size α := Enc.pos
  have hd : t / size α < l.length := (Nat.div_lt_iff_lt_mul hp).2 ht
  have hm : t % size α < size α := Nat.mod_lt _ hp
  have h2 := get_flatK (Enc.enc (α := α)) (size α) l.toArray t (by simpa using ht)
  rw [getElem!_pos _ t (by rw [h1]; exact ht)] at h2
  rw [Array.getElem?_toList, Array.getElem?_eq_getElem (by rw [h1]; exact ht), h2]
  have e1 : l.toArray[t / size α]! = l[t / size α] := by rw [getElem!_pos _ _ (by simpa using hd)]; simp
  rw [e1]
  have hc := cellsL_get l (List.getElem?_eq_getElem hd) (i := t % size α) (c := (Enc.enc l[t / size α])[t % size α]!) (by rw [getElem!_pos _ _ (by rw [Enc.len]; exact hm)]; exact List.getElem?_eq_getElem _)
  rw [← hc]
  congr 1
  rw [Nat.mul_comm]; exact Nat.div_add_mod t (size α)
 ·rw [List.getElem?_eq_none (by rw [Array.length_toList, h1]; omega), List.getElem?_eq_none (by rw [cellsL_len]; omega)]
theorem heap_sortedA {w : World} {g n : Nat} {os : Array Obj} {cur : Array Value} {e : TypeId} {fr : Nat × Nat} (d : Array Value) (hb : w.heap[g]? = some (.cells cur e fr)) :
 (grow (putRow id (Sort.ahead w n) g 0 d) os).heap[g]? = some (.cells (putCells id 0 d cur) e fr) := by
 have hg : g < w.heap.size := (Array.getElem?_eq_some_iff.1 hb).1
 rw [heap_grow_old _ _ (by simpa using hg)]
 simp [putRow, mapBlock, Sort.ahead, Array.getElem?_modify, hb, onCells]
theorem grownBy_sortedA {w : World} {g n : Nat} {os : Array Obj} (d : Array Value) : w.grownBy (grow (putRow id (Sort.ahead w n) g 0 d) os) (some g) := by
 refine ⟨rfl, rfl, rfl, by simp, fun k hk hne => ?_⟩
 rw [heap_grow_old _ _ (by simpa using hk)]
 have : g ≠ k := fun e => hne (by rw [e])
 simp [putRow, mapBlock, Sort.ahead, Array.getElem?_modify, this]
theorem take_putCellsA (cur d : Array Value) (h : d.size ≤ cur.size) : (putCells id 0 d cur).toList.take d.size = d.toList := by
 apply List.ext_getElem?
 intro j
 by_cases hj : j < d.size
 ·rw [List.getElem?_take_of_lt hj, Array.getElem?_toList]
  simp [putCells, hj, show j < cur.size by omega]
 ·rw [List.getElem?_take_eq_none (by omega), List.getElem?_eq_none (by simp; omega)]
theorem holds_flat {w : World} {g : Nat} {cur d : Array Value} {e : TypeId} (hb : w.heap[g]? = some (.cells cur e (0, 0))) (ht : cur.toList.take d.size = d.toList) : Holds id w g 0 d := by
 intro j hj
 refine ⟨?_, by simp [World.frozen?, hb]⟩
 have h1 : (cur.toList.take d.size)[j]? = d.toList[j]? := by rw [ht]
 rw [List.getElem?_take_of_lt hj] at h1
 simp only [World.cell?, hb, Nat.zero_add]
 simp only [Option.isSome_none, Bool.false_eq_true, if_false]
 rw [← Array.getElem?_toList, h1]
 simp [hj]
theorem sortZ_own (base : Nat) (v : Value) (l : List Zn) (hl : l.length ≤ 1000000) (w : World) (hO : Own 86 base w v l) :
 Calls Tryz.prog 181 #[v, .func (.func 140) #[] #[]] w fun e w' => e = .returned (.tuple #[]) ∧ Own 86 base w' v (Zo.sort l) ∧ w.grownBy w' v.ownBlock := by
 obtain ⟨hc, ⟨rfl, h0⟩ | ⟨g, cap, cur, rfl, hb, hg, hn, hm, hs, ht⟩⟩ := id hO
 ·obtain rfl := List.eq_nil_of_length_eq_zero h0
  refine (AnyF.slices_SortFunc_none Tryz.sortZ none 0 _ w).mono ?_
  rintro e w' ⟨rfl, rfl⟩
  exact ⟨rfl, by rw [show Zo.sort [] = [] by simp [Zo.sort]]; exact hO, rfl, rfl, rfl, Nat.le_refl _, fun _ _ _ => rfl⟩
 ·have hf := flat_list l
  have hfs : (flatK (Enc.enc (α := Zn)) 6 l.toArray).size = l.length * 6 := by simp
  have hH : HoldsK (Enc.enc (α := Zn)) 6 w g 0 l.toArray := holds_flat hg (by rw [hfs]; exact ht.trans hf.symm)
  refine (AnyQ.slices_SortFunc_total Tryz.sortZ 6 Tryz.isAgg86 Tryz.sizeOf86 (Enc.enc (α := Zn)) (fun x => rfl) (fun x v hv => Enc.one x v hv) Zo.cmp Zo.swo 140 #[] g 0 cap l.toArray w Tryz.call140 (zcmpLays g 0 _ w) hH (Array.getElem?_eq_some_iff.1 hg).1 (by simp; omega) Zo.tot).mono ?_
  rintro e w' ⟨rfl, n, os, rfl⟩
  have hlen : (Zo.sort l).length = l.length := Zo.sort_len l
  refine ⟨rfl, ?_, grownBy_sortedA _⟩
  have hf2 := flat_list (Zo.sort l)
  have hfs2 : (flatK (Enc.enc (α := Zn)) 6 (Zo.sort l).toArray).size = l.length * 6 := by simp [hlen]
  have hsz : cur.size = cap * 6 := hs
  refine ⟨by rw [cellsL_len, hlen], .inr ⟨g, cap, _, by rw [hlen], hb, heap_sortedA _ hg, by rw [hlen]; exact hn, hm, ?_, ?_⟩⟩
  ·rw [show size Zn = 6 from rfl, ← hsz]; simp [putCells]
  ·rw [hlen, ← hf2]
   have h6 := take_putCellsA cur (flatK (Enc.enc (α := Zn)) 6 (Zo.sort l).toArray) (by rw [hfs2, hsz]; omega)
   rw [hfs2] at h6
   exact h6
theorem sortedZ_any (Bs : Nat) (a : Option Addr) (cap : Nat) (zs : List Zn) (hlen : zs.length ≤ 1000000) (w : World) (hc : w.cell? ⟨Bs, 0, none⟩ = some (.slice a zs.length cap)) (hS : Sl w.heap.size w (.slice a zs.length cap) zs) :
 Calls Tryz.prog 138 #[.func (.func 182) #[] #[.pointer (some ⟨Bs, 0, none⟩)], .func (.func 140) #[] #[]] w fun e w' => ∃ v, e = .returned v ∧ Below Bs w w' ∧ Own 86 w.heap.size w' v (Zo.sort zs) := by
 have hBs : Bs < w.heap.size := World.block_lt_of_cell? _ _ hc
 refine fun_at 0 Bs w (Nat.le_of_lt hBs) Tryz.func138 (args := [.val (.func (.func 182) #[] #[.pointer (some ⟨Bs, 0, none⟩)]), .val (.func (.func 140) #[] #[])]) rfl rfl ?_
 refine CallI.mk fun w1 h1 => ?_
 have hg1 : Below w.heap.size w w1 := h1.go
 refine (collectZ_any Bs a cap zs hlen w1 ((hg1.cell (p := ⟨Bs, 0, none⟩) hBs).trans hc) (hS.go hg1 hg1.size)).mono ?_
 rintro e w2 ⟨v, rfl, hB2, hO⟩
 refine ⟨⟨hB2, by simp⟩, _, rfl, ?_⟩
 obtain ⟨a', c', rfl⟩ := hO.form
 refine CallI.mk fun w3 h3 => (sortZ_own w1.heap.size _ zs hlen w3 (hO.at h3 (by simp))).mono ?_
 rintro e w4 ⟨rfl, hO4, hg⟩
 have hlen2 : (Zo.sort zs).length = zs.length := Zo.sort_len zs
 refine ⟨keep_grown h3 hg fun k hk => ⟨by have h5 := (hO.lt k hk).1; have := hg1.size; show Bs ≤ k; omega, by simp⟩, _, rfl, ?_⟩
 exact EndI.mk fun w5 h5 => (hO4.at h5 (by simp)).lower hg1.size
end Go.Proofs.YtanhnllkccldhaaGreat
namespace Go.Proofs.YtanhnllkccldhaaGreat
set_option linter.unusedVariables false
set_option linter.unusedSimpArgs false
namespace Cv
def cpt : List Zn → List Zn
 | [] => []
 | x :: l => if l.head? = some x then cpt l else x :: cpt l
theorem cpt_cons (x : Zn) (l : List Zn) : cpt (x :: l) = if l.head? = some x then cpt l else x :: cpt l := rfl
theorem cpt_mem (l : List Zn) (x : Zn) : x ∈ cpt l ↔ x ∈ l := by
 induction l with
 | nil => simp [cpt]
 | cons y l ih =>
   rw [cpt_cons, List.mem_cons, ← ih]
   split
   ·rename_i h
    have hy : y ∈ l := List.mem_of_mem_head? (by rw [h]; rfl)
    constructor
    ·exact .inr
    ·rintro (rfl | h2)
     ·exact ih.2 hy
     ·exact h2
   ·rw [List.mem_cons]
theorem cpt_len (l : List Zn) : (cpt l).length ≤ l.length := by
 induction l with
 | nil => simp [cpt]
 | cons x l ih => rw [cpt_cons]; split <;> simp only [List.length_cons] <;> omega
theorem cpt_snoc (p : List Zn) (y x : Zn) : cpt (p ++ [y] ++ [x]) = if x = y then cpt (p ++ [y]) else cpt (p ++ [y]) ++ [x] := by
 induction p with
 | nil =>
   simp only [List.nil_append, List.cons_append, cpt_cons, List.head?_cons, List.head?_nil, Option.some.injEq]
   by_cases h : x = y
   ·subst h; simp [cpt]
   ·simp [h, cpt]
 | cons a p ih =>
   simp only [List.cons_append, cpt_cons]
   have hh : (p ++ [y] ++ [x]).head? = (p ++ [y]).head? := by cases p <;> rfl
   rw [hh, ih]
   split <;> split <;> simp_all
theorem cpt_step {l : List Zn} {k : Nat} {x y : Zn} (hy : l[k]? = some y) (hx : l[k + 1]? = some x) : cpt (l.take (k + 2)) = if x = y then cpt (l.take (k + 1)) else cpt (l.take (k + 1)) ++ [x] := by
 have e1 : l.take (k + 1) = l.take k ++ [y] := by rw [List.take_add_one, hy]; rfl
 have e2 : l.take (k + 2) = l.take k ++ [y] ++ [x] := by rw [show k + 2 = k + 1 + 1 from rfl, List.take_add_one, hx, e1]; rfl
 rw [e1, e2, cpt_snoc]
theorem cpt_all {l : List Zn} (h : ∀ k x y, l[k]? = some y → l[k + 1]? = some x → x ≠ y) : cpt l = l := by
 induction l with
 | nil => rfl
 | cons a l ih =>
   rw [cpt_cons, ih fun k x y hy hx => h (k + 1) x y hy hx]
   split
   ·rename_i hh
    cases l with
    | nil => cases hh
    | cons b l => simp at hh; exact absurd hh (h 0 b a rfl rfl)
   ·rfl
end Cv
end Go.Proofs.YtanhnllkccldhaaGreat
namespace Go.Proofs.YtanhnllkccldhaaGreat
set_option linter.unusedVariables false
set_option linter.unusedSimpArgs false
open Go.RowKit Go.Proofs.YtanhnllkccldhaaGreat.Eng Enc
namespace Cv
open Mi Zo
theorem cpt_strict {l : List Zn} (h : l.Pairwise fun x y => ¬ Lt y x) : (cpt l).Pairwise Lt := by
 induction l with
 | nil => simp [cpt]
 | cons x l ih =>
   rw [List.pairwise_cons] at h
   have h2 := ih h.2
   rw [cpt_cons]
   split
   ·exact h2
   ·rename_i hne
    rw [List.pairwise_cons]
    refine ⟨fun z hz => ?_, h2⟩
    have hz' := (cpt_mem l z).1 hz
    cases l with
    | nil => simp at hz'
    | cons y m =>
      have hyx : y ≠ x := fun e => hne (by simp [e])
      have hxy : Lt x y := by
       have h3 := h.1 y (by simp)
       apply Classical.byContradiction
       intro h4
       exact hyx (Lt.tot h3 h4)
      rcases List.mem_cons.1 hz' with rfl | hz'
      ·exact hxy
      ·have h5 := (List.pairwise_cons.1 h.2).1 z hz'
       apply Classical.byContradiction
       intro h6
       exact Lt.ntrans h6 h5 hxy
theorem strict_eq : ∀ {l m : List Zn}, l.Pairwise Lt → m.Pairwise Lt → (∀ x, x ∈ l ↔ x ∈ m) → l = m
 | [], [], _, _, _ => rfl
 | [], y :: m, _, _, h => by have := (h y).2 (by simp); simp at this
 | x :: l, [], _, _, h => by have := (h x).1 (by simp); simp at this
 | x :: l, y :: m, hl, hm, h => by
   rw [List.pairwise_cons] at hl hm
   have e : x = y := by
    rcases List.mem_cons.1 ((h x).1 (by simp)) with e | hx
    ·exact e
    ·rcases List.mem_cons.1 ((h y).2 (by simp)) with e | hy
     ·exact e.symm
     ·exact absurd ((hl.1 y hy).trans (hm.1 x hx)) (Lt.irrefl x)
   subst e
   congr 1
   refine strict_eq hl.2 hm.2 fun z => ?_
   constructor
   ·intro hz
    rcases List.mem_cons.1 ((h z).1 (by simp [hz])) with rfl | hz'
    ·exact absurd (hl.1 z hz) (Lt.irrefl z)
    ·exact hz'
   ·intro hz
    rcases List.mem_cons.1 ((h z).2 (by simp [hz])) with rfl | hz'
    ·exact absurd (hm.1 z hz) (Lt.irrefl z)
    ·exact hz'
def sorted (l : List Zn) : List Zn := cpt (sort l)
theorem sorted_strict (l : List Zn) : (sorted l).Pairwise Lt := cpt_strict (sort_sorted l)
theorem sorted_mem (l : List Zn) (x : Zn) : x ∈ sorted l ↔ x ∈ l := (cpt_mem _ x).trans (sort_perm l).mem_iff
theorem sorted_self {l : List Zn} (h : l.Pairwise Lt) : sorted l = l := strict_eq (sorted_strict l) h (sorted_mem l)
theorem sorted_len (l : List Zn) : (sorted l).length ≤ l.length := by
 have := cpt_len (sort l); rw [sort_len] at this; exact this
def pgo : Nat → List Zn → List Zn × Int
 | 0, out => (out, 0)
 | i + 1, out => match out[i]? with
   | none => (out, 0)
   | some z => if (in_ z (out.eraseIdx i)).2 ≠ 0 then ([], (in_ z (out.eraseIdx i)).2) else if (in_ z (out.eraseIdx i)).1 = true then pgo i (out.eraseIdx i) else pgo i out
theorem pgo_succ {i : Nat} {out : List Zn} {z : Zn} (h : out[i]? = some z) : pgo (i + 1) out = if (in_ z (out.eraseIdx i)).2 ≠ 0 then ([], (in_ z (out.eraseIdx i)).2) else if (in_ z (out.eraseIdx i)).1 = true then pgo i (out.eraseIdx i) else pgo i out := by
 rw [pgo, h]
def prune (l : List Zn) : List Zn × Int := if checked [l] ≠ 0 then ([], checked [l]) else pgo (sorted l).length (sorted l)
def Bare (n : Nat) (out : List Zn) : Prop := ∀ j z, n ≤ j → out[j]? = some z → ¬ Cov z (out.eraseIdx j)
theorem mem_erase {l : List Zn} {i : Nat} {x : Zn} : x ∈ l.eraseIdx i ↔ ∃ j, j ≠ i ∧ l[j]? = some x := by
 rw [List.mem_eraseIdx_iff_getElem?]
theorem pgo_ok {n : Nat} : ∀ {out : List Zn}, n ≤ out.length → (pgo n out).2 = 0 → Bare n out → (∀ z, z ∈ out → Zo.chk z = 0) → (pgo n out).1.Sublist out ∧ Bare 0 (pgo n out).1 ∧ ∀ t, (∃ b, b ∈ out ∧ Fz b t) → ∃ b, b ∈ (pgo n out).1 ∧ Fz b t := by
 induction n with
 | zero => intro out _ _ hb _; exact ⟨List.Sublist.refl _, hb, fun t h => h⟩
 | succ i ih =>
   intro out hn h hb hc
   have ho := List.getElem?_eq_getElem (l := out) (i := i) (by omega)
   generalize out[i] = z at ho
   rw [pgo_succ ho] at h ⊢
   by_cases h1 : (in_ z (out.eraseIdx i)).2 ≠ 0
   ·rw [if_pos h1] at h; exact absurd h h1
   rw [if_neg h1] at h ⊢
   obtain ⟨_, _, hcov⟩ := in_ok (z := z) (l := out.eraseIdx i) (by simpa using h1)
   by_cases h2 : (in_ z (out.eraseIdx i)).1 = true
   ·rw [if_pos h2] at h ⊢
    have hsub := List.eraseIdx_sublist out i
    have hbare : Bare i (out.eraseIdx i) := fun j x hj hx hcv => by
     have hx' : out[j + 1]? = some x := by
      rw [List.getElem?_eraseIdx] at hx
      rwa [if_neg (by omega)] at hx
     refine hb (j + 1) x (by omega) hx' (hcv.mono fun y hy => ?_)
     obtain ⟨q, hq, hqy⟩ := mem_erase.1 hy
     rw [List.getElem?_eraseIdx] at hqy
     split at hqy
     ·exact mem_erase.2 ⟨q, by omega, hqy⟩
     ·exact mem_erase.2 ⟨q + 1, by omega, hqy⟩
    obtain ⟨k1, k2, k3⟩ := ih (out := out.eraseIdx i) (by rw [List.length_eraseIdx]; split <;> omega) h hbare (fun x hx => hc x (hsub.mem hx))
    refine ⟨k1.trans hsub, k2, fun t ht => k3 t ?_⟩
    obtain ⟨b, hb1, hb2⟩ := ht
    obtain ⟨j, hj⟩ := List.mem_iff_getElem?.1 hb1
    by_cases hji : j = i
    ·subst hji
     rw [ho] at hj; injection hj with hj; subst hj
     exact hcov.1 h2 t hb2
    ·exact ⟨b, mem_erase.2 ⟨j, hji, hj⟩, hb2⟩
   ·rw [if_neg h2] at h ⊢
    refine ih (by omega) h (fun j x hj hx => ?_) hc
    by_cases hji : j = i
    ·subst hji
     rw [ho] at hx; injection hx with hx; subst hx
     exact fun hcv => h2 (hcov.2 hcv)
    ·exact hb j x (by omega) hx
theorem pgo_self {n : Nat} : ∀ {out : List Zn}, n ≤ out.length → (pgo n out).2 = 0 → Bare 0 out → pgo n out = (out, 0) := by
 induction n with
 | zero => intro out _ _ _; rfl
 | succ i ih =>
   intro out hn h hb
   have ho := List.getElem?_eq_getElem (l := out) (i := i) (by omega)
   generalize out[i] = z at ho
   rw [pgo_succ ho] at h ⊢
   by_cases h1 : (in_ z (out.eraseIdx i)).2 ≠ 0
   ·rw [if_pos h1] at h; exact absurd h h1
   rw [if_neg h1] at h ⊢
   obtain ⟨_, _, hcov⟩ := in_ok (z := z) (l := out.eraseIdx i) (by simpa using h1)
   have h2 : ¬ (in_ z (out.eraseIdx i)).1 = true := fun h2 => hb i z (Nat.zero_le _) ho (hcov.1 h2)
   rw [if_neg h2] at h ⊢
   exact ih (by omega) h hb
theorem checked_one {l : List Zn} : checked [l] = 0 ↔ l.length ≤ 4096 ∧ ∀ z, z ∈ l → Zo.chk z = 0 := by
 unfold checked
 simp only [List.any_cons, List.any_nil, Bool.or_false, decide_eq_true_eq]
 by_cases h1 : 4096 < l.length
 ·rw [if_pos h1]; constructor
  ·intro h; cases h
  ·intro h; omega
 ·rw [if_neg h1]
  by_cases h2 : l.any odd = true
  ·rw [if_pos h2]
   constructor
   ·intro h; cases h
   ·intro h
    obtain ⟨z, hz, ho⟩ := List.any_eq_true.1 h2
    simp [odd, h.2 z hz] at ho
  ·rw [if_neg h2]
   refine ⟨fun _ => ⟨by omega, fun z hz => ?_⟩, fun _ => rfl⟩
   apply Classical.byContradiction
   intro h3
   exact h2 (List.any_eq_true.2 ⟨z, hz, by simpa [odd] using h3⟩)
structure Wanted (l m : List Zn) : Prop where
 chk : ∀ z, z ∈ l → Zo.chk z = 0
 len : l.length ≤ 4096
 mem : ∀ z, z ∈ m → z ∈ l
 strict : m.Pairwise Lt
 bare : Bare 0 m
 pts : ∀ t, (∃ b, b ∈ l ∧ Fz b t) ↔ ∃ b, b ∈ m ∧ Fz b t
 mlen : m.length ≤ l.length
theorem prune_ok {l : List Zn} (h : (prune l).2 = 0) : Wanted l (prune l).1 := by
 unfold prune at h ⊢
 by_cases h1 : checked [l] ≠ 0
 ·rw [if_pos h1] at h; exact absurd h h1
 rw [if_neg h1] at h ⊢
 obtain ⟨hl, hc⟩ := checked_one.1 (by simpa using h1)
 obtain ⟨k1, k2, k3⟩ := pgo_ok (Nat.le_refl _) h (fun j z hj hz => by have := (List.getElem?_eq_some_iff.1 hz).1; omega) (fun z hz => hc z ((sorted_mem l z).1 hz))
 have hmem : ∀ z, z ∈ (pgo (sorted l).length (sorted l)).1 → z ∈ l := fun z hz => (sorted_mem l z).1 (k1.mem hz)
 refine ⟨hc, hl, hmem, (sorted_strict l).sublist k1, k2, fun t => ⟨fun ⟨b, hb, hbt⟩ => k3 t ⟨b, (sorted_mem l b).2 hb, hbt⟩, fun ⟨b, hb, hbt⟩ => ⟨b, hmem b hb, hbt⟩⟩, Nat.le_trans k1.length_le (sorted_len l)⟩
theorem Wanted.again {l m : List Zn} (h : Wanted l m) (h2 : (prune m).2 = 0) : (prune m).1 = m := by
 unfold prune at h2 ⊢
 by_cases h1 : checked [m] ≠ 0
 ·rw [if_pos h1] at h2; exact absurd h2 h1
 rw [if_neg h1] at h2 ⊢
 rw [sorted_self h.strict] at h2 ⊢
 rw [pgo_self (Nat.le_refl _) h2 h.bare]
end Cv
namespace Cv
open Mi Zo
def misses (b : List Zn) (z : Zn) : Bool := decide ((in_ z b).2 ≠ 0) || !(in_ z b).1
def allGo (b : List Zn) : List Zn → Bool × Int
 | [] => (true, 0)
 | z :: a => if misses b z = true then (false, (in_ z b).2) else allGo b a
def all_ (a b : List Zn) : Bool × Int := if checked [a, b] ≠ 0 then (false, checked [a, b]) else allGo b a
def told (b l : List Zn) : Nat → Int
 | 0 => 0
 | k + 1 => match l[k]? with | some z => (in_ z b).2 | none => 0
theorem allGo_eq (b : List Zn) : ∀ l, allGo b l = (!(l.any (misses b)), told b l (cntF (misses b) l))
 | [] => rfl
 | z :: a => by
   rw [allGo, List.any_cons, cntF]
   by_cases hm : misses b z = true
   ·rw [if_pos hm, if_pos hm, hm]; rfl
   ·rw [if_neg hm, if_neg hm, allGo_eq b a]
    have hm' : misses b z = false := by simpa using hm
    rw [hm', Bool.false_or]
    congr 1
    have he : (in_ z b).2 = 0 := by unfold misses at hm'; simp at hm'; exact hm'.1
    cases hc : cntF (misses b) a with
    | zero => simp [told, he]
    | succ k => simp [told]
theorem allGo_ok {b : List Zn} : ∀ {a : List Zn}, (allGo b a).2 = 0 → ((allGo b a).1 = true ↔ ∀ z, z ∈ a → Cov z b)
 | [], _ => by simp [allGo]
 | z :: a, h => by
   rw [allGo] at h ⊢
   by_cases hm : misses b z = true
   ·rw [if_pos hm] at h ⊢
    simp only at h
    obtain ⟨_, _, hc⟩ := in_ok h
    constructor
    ·intro h1; cases h1
    ·intro hall
     have h1 := hc.2 (hall z (by simp))
     unfold misses at hm
     rw [h1, h] at hm
     simp at hm
   ·rw [if_neg hm] at h ⊢
    have he : (in_ z b).2 = 0 ∧ (in_ z b).1 = true := by
     unfold misses at hm
     simpa using hm
    obtain ⟨_, _, hc⟩ := in_ok he.1
    rw [allGo_ok h]
    constructor
    ·intro hall x hx
     rcases List.mem_cons.1 hx with rfl | hx
     ·exact hc.1 he.2
     ·exact hall x hx
    ·exact fun hall x hx => hall x (by simp [hx])
theorem all_ok {a b : List Zn} (h : (all_ a b).2 = 0) : (all_ a b).1 = true ↔ ∀ z, z ∈ a → Cov z b := by
 unfold all_ at h ⊢
 by_cases h1 : checked [a, b] ≠ 0
 ·rw [if_pos h1] at h; exact absurd h h1
 ·rw [if_neg h1] at h ⊢; exact allGo_ok h
structure PrunesLaw (l : List Zn) (p : Pt) : Prop where
 among : (Cv.among l p).2 = true → (Cv.among (prune l).1 p).2 = true → (Cv.among l p).1 = (Cv.among (prune l).1 p).1
 order : ∀ i x y, (prune l).1[i]? = some x → (prune l).1[i + 1]? = some y → Zo.cmp x y < 0
 bare : ∀ i z, (prune l).1[i]? = some z → (in_ z ((prune l).1.take i ++ (prune l).1.drop (i + 1))).2 = 0 → (in_ z ((prune l).1.take i ++ (prune l).1.drop (i + 1))).1 = false
 all : (all_ l (prune l).1).2 = 0 → (all_ l (prune l).1).1 = true
 again : (prune (prune l).1).2 = 0 → (prune (prune l).1).1 = (prune l).1
end Cv
theorem grown_belowM {n : Nat} {W w1 w2 : World} {row : Option Nat} (hB : Below n W w1) (hg : w1.grownBy w2 row) (hr : ∀ k, row = some k → n ≤ k) (hn : n ≤ w1.heap.size) : Below n W w2 :=
 ⟨hg.os.trans hB.os, hg.tape.trans hB.tape, hg.output.trans hB.output, Nat.le_trans hB.size hg.size, fun k hk => (hg.block k (Nat.lt_of_lt_of_le hk hn) (fun e => absurd (hr k e.symm) (Nat.not_le.2 hk))).trans (hB.block k hk)⟩
structure ZRow (W : World) (g cap n : Nat) : Prop where
 le : n ≤ cap
 max : cap ≤ maxLen
 row : ∃ cur : Array Value, W.heap[g]? = some (.cells cur TZ (0, 0)) ∧ cur.size = cap * 6 ∧ ∀ j, j < n * 6 → ∃ x, cur[j]? = some (.int .i64 x)
theorem cellsL_zn : ∀ (l : List Zn) (j : Nat), j < l.length * 6 → ∃ x, (cellsL l)[j]? = some (.int .i64 x)
 | [], j, h => by simp at h
 | z :: l, j, h => by
   have hlen : (enc z).length = 6 := rfl
   rw [List.length_cons] at h
   by_cases hj : j < 6
   ·have : j = 0 ∨ j = 1 ∨ j = 2 ∨ j = 3 ∨ j = 4 ∨ j = 5 := by omega
    have hx : (cellsL (z :: l))[j]? = (enc z)[j]? := by
     show (enc z ++ cellsL l)[j]? = _
     rw [List.getElem?_append_left (by rw [hlen]; exact hj)]
    rw [hx]
    rcases this with rfl | rfl | rfl | rfl | rfl | rfl
    ·exact ⟨z.a, rfl⟩
    ·exact ⟨z.b, rfl⟩
    ·exact ⟨z.c, rfl⟩
    ·exact ⟨z.d, rfl⟩
    ·exact ⟨z.e, rfl⟩
    ·exact ⟨z.f, rfl⟩
   ·obtain ⟨x, hx⟩ := cellsL_zn l (j - 6) (by omega)
    refine ⟨x, ?_⟩
    show (enc z ++ cellsL l)[j]? = _
    rw [List.getElem?_append_right (by rw [hlen]; omega), hlen]
    exact hx
theorem ZRow.of {base : Nat} {W : World} {g n cap : Nat} {l : List Zn} (h : Own TZ base W (.slice (some ⟨g, 0, none⟩) n cap) l) : ZRow W g cap n ∧ base ≤ g ∧ g < W.heap.size := by
 obtain ⟨rfl, hb, hlt, cur', hg, hn, hm, hs, ht⟩ := h.at0
 refine ⟨⟨hn, hm, cur', hg, hs, fun j hj => ?_⟩, hb, hlt⟩
 obtain ⟨x, hx⟩ := cellsL_zn l j hj
 refine ⟨x, ?_⟩
 have h1 : (cur'.toList.take (l.length * 6))[j]? = some (.int .i64 x) := by
  have : cur'.toList.take (l.length * size Zn) = cellsL l := ht
  rw [show l.length * 6 = l.length * size Zn from rfl, this]; exact hx
 rw [List.getElem?_take] at h1
 rw [if_pos hj] at h1
 rw [← h1, Array.getElem?_toList]
theorem ZRow.kept {W X : World} {g cap n : Nat} (h : ZRow W g cap n) (e : X.heap[g]? = W.heap[g]?) : ZRow X g cap n := by
 obtain ⟨a, b, cur, c⟩ := h
 exact ⟨a, b, cur, e.trans c.1, c.2⟩
theorem ZRow.lt {W : World} {g cap n : Nat} (h : ZRow W g cap n) : g < W.heap.size := by
 obtain ⟨_, _, cur, c, _⟩ := h
 exact (Array.getElem?_eq_some_iff.1 c).1
theorem ZRow.at {w0 : Base} {hp : List LB} {r L : List Nat} {w w1 : World} {g cap n : Nat} (h : ZRow w g cap n) (h1 : At w0 hp r L w w1) (hL : g ∉ L) : ZRow w1 g cap n := h.kept (h1.step g h.lt hL)
theorem ZRow.below {W X : World} {g cap n : Nat} (h : ZRow W g cap n) (hB : Below W.heap.size W X) : ZRow X g cap n := h.kept (hB.block _ h.lt)
theorem ZRow.cell {W : World} {g cap n : Nat} (h : ZRow W g cap n) {j : Nat} (hj : j < n * 6) : ∃ x, W.cell? ⟨g, j, none⟩ = some (.int .i64 x) := by
 obtain ⟨_, _, cur, c, _, d⟩ := h
 obtain ⟨x, hx⟩ := d j hj
 refine ⟨x, ?_⟩
 simp [World.cell?, c, hx]
theorem ZRow.set {W : World} {g cap n : Nat} (h : ZRow W g cap n) {j : Nat} (hj : j < n * 6) (x : Int) : ZRow (W.setCell ⟨g, j, none⟩ (.int .i64 x)) g cap n := by
 obtain ⟨a, b, cur, c, d, e⟩ := h
 refine ⟨a, b, cur.setIfInBounds j (.int .i64 x), ?_, by simp [d], fun i hi => ?_⟩
 ·simp only [World.setCell]
  rw [Array.getElem?_modify, if_pos rfl, c]
  rfl
 ·by_cases hij : i = j
  ·subst hij
   refine ⟨x, ?_⟩
   have : i < cur.size := by rw [d]; have := Nat.mul_le_mul_right 6 a; omega
   simp [this]
  ·obtain ⟨y, hy⟩ := e i hi
   refine ⟨y, ?_⟩
   rw [Array.getElem?_setIfInBounds_ne (fun h => hij h.symm)]; exact hy
theorem setCell_neM {W : World} {B o k : Nat} {u : Value} (h : k ≠ B) : (W.setCell ⟨B, o, none⟩ u).heap[k]? = W.heap[k]? := Below.heap_setCell _ _ _ _ (by simpa using h)
theorem at_belowM {w0 : Base} {hp : List LB} {r L : List Nat} {w w1 : World} (h : At w0 hp r L w w1) (hL : ∀ b, b ∈ L → w.heap.size ≤ b) : Below w.heap.size w w1 :=
 ⟨h.below.os.trans h.base.os.symm, h.below.tape.trans h.base.tape.symm, h.below.output.trans h.base.output.symm, h.size, fun k hk => h.step k hk fun hm => by have := hL k hm; omega⟩
theorem cell_oneM {W : World} {B : Nat} {v : Value} {t : TypeId} (h : W.heap[B]? = some (.cells #[v] t (0, 0))) : W.cell? ⟨B, 0, none⟩ = some v := by simp [World.cell?, h]
theorem lt_cellsM {W : World} {B : Nat} {o : Obj} (h : W.heap[B]? = some o) : B < W.heap.size := (Array.getElem?_eq_some_iff.1 h).1
end Go.Proofs.YtanhnllkccldhaaGreat
namespace Go.Proofs.YtanhnllkccldhaaGreat
set_option linter.unusedVariables false
set_option linter.unusedSimpArgs false
set_option maxRecDepth 100000
open Go.RowKit Go.Proofs.YtanhnllkccldhaaGreat.Eng Enc
abbrev TKi : TypeId := 3
def MSet (W : World) (b n : Nat) (f : Int → Bool) : Prop :=
 ∃ D : DataW Unit, W.ownsMap Tryz.prog TKi (plainElem Tryz.prog TKi) b n D ∧ Maps.Tidy D ∧ ∀ x : Int, D.atKey (.int .i64 x) (.lit (.int .i64 0)) = .lit (.int .i64 (if f x = true then 1 else 0)) ∧ Maps.has D (.int .i64 x) = f x
theorem MSet.lt {W : World} {b n : Nat} {f : Int → Bool} (h : MSet W b n f) : b < W.heap.size := by
 obtain ⟨D, h1, _⟩ := h; exact h1.lt
theorem MSet.kept {W X : World} {b n : Nat} {f : Int → Bool} (h : MSet W b n f) (e : X.heap[b]? = W.heap[b]?) : MSet X b n f := by
 obtain ⟨D, ⟨es, clock, hb, F, hs, hD⟩, h2, h3⟩ := h
 exact ⟨D, ⟨es, clock, e.trans hb, F, hs, hD⟩, h2, h3⟩
theorem MSet.below {W X : World} {b n : Nat} {f : Int → Bool} (h : MSet W b n f) (hB : Below W.heap.size W X) : MSet X b n f := h.kept (hB.block b h.lt)
theorem MSet.at {w0 : Base} {hp : List LB} {r L : List Nat} {w w1 : World} {b n : Nat} {f : Int → Bool} (h : MSet w b n f) (h1 : At w0 hp r L w w1) (hL : b ∉ L) : MSet w1 b n f := h.kept (h1.step b h.lt hL)
theorem MSet.made (w : World) : MSet (w.alloc (.map #[] 0)) w.heap.size 0 (fun _ => false) :=
 ⟨.map [], World.ownsMap_made w _ _ _, Maps.tidy_empty, fun x => ⟨by simp [DataW.atKey], by simp [Maps.has_eq]⟩⟩
namespace Rg
def isR (long : Int) (x : Int) : Bool := decide (0 ≤ x) && decide (x < (many long).1) && (point x long).2
def inL (l : List Zn) (long : Int) (x : Int) : Bool := isR long x && l.any fun z => (Zo.has z (pt x long)).1
def up (long : Int) (p : Int → Bool) : List Int := ((List.range (many long).1.toNat).filter fun n : Nat => p (n : Int)).map Int.ofNat
theorem mem_up {long : Int} {p : Int → Bool} (h : ∀ x, p x = true → 0 ≤ x ∧ x < (many long).1) (x : Int) : x ∈ up long p ↔ p x = true := by
 unfold up
 rw [List.mem_map]
 constructor
 ·rintro ⟨k, hk, rfl⟩
  exact (List.mem_filter.1 hk).2
 ·intro hx
  obtain ⟨h0, h1⟩ := h x hx
  refine ⟨x.toNat, List.mem_filter.2 ⟨List.mem_range.2 (by omega), ?_⟩, Int.toNat_of_nonneg h0⟩
  show p ((x.toNat : Nat) : Int) = true
  rw [Int.toNat_of_nonneg h0]; exact hx
theorem up_rising (long : Int) (p : Int → Bool) : (up long p).Pairwise fun x y => x < y := by
 unfold up
 rw [List.pairwise_map]
 exact (List.pairwise_lt_range.filter _).imp fun h => Int.ofNat_lt.2 h
theorem inL_in {l : List Zn} {long x : Int} (h : inL l long x = true) : 0 ≤ x ∧ x < (many long).1 := by
 unfold inL isR at h
 simp only [Bool.and_eq_true, decide_eq_true_eq] at h
 exact h.1.1
end Rg
theorem rfloor03_any (a : Rt) (ha : a.ins) (w : World) :
 Calls Tryz.prog 201 #[.agg #[.int .i64 a.num, .int .i64 a.den]] w fun e w' => e = .returned (.tuple #[.int .i64 (Fr.floor a).1, .bool (a.ok && decide (a.den = 1)), .int .i64 (Fr.floor a).2.2]) ∧ Below w.heap.size w w' := by
 refine fun_eq 0 w Tryz.func201 (args := [.agg [.val (.int .i64 a.num), .val (.int .i64 a.den)]]) rfl rfl ?_
 refine NewI.mk fun b1 hb1 => ?_
 (first
   | (refine CallI.to1 (rmay03_any a ha) fun w2 => ?_)
   | (refine Branch.yes rfl ?_)
   | (refine Branch.no rfl ?_)
   | (refine Branch.mk (fun hb => ?_) (fun hb => ?_))
   | (refine NewI.mk fun nb hnb => ?_)
   | (refine Need.mk (by show _ ∧ _; omega) ?_)
   | (refine Need.mk (by omega) ?_)
   | (refine Need.mk ?_ ?_)
   | (refine EndI.mk fun w1 h1 => ?_))
 unfold Fr.floor
 refine Branch.mk (fun hc => ?_) (fun hc => ?_)
 ·have hno : a.ok = false := by simpa using hc
  rw [hno]
  exact EndI.mk fun w3 h3 => rfl
 ·have hok : a.ok = true := by simpa using hc
  have oa := Fr.ok_bd hok
  rw [if_pos hok, hok]
  refine DrawI.go (.tk 0 (.tk 1 (.tk 2 (.tk 3 (.tk 5 (.tk 6 (.tk 7 (.ev 4 (.tk 8 (.tk 9 (.tk 10 .done))))))))))) (by kernel_rfl) fun w1 h1 => ?_
  (first
    | (refine CallI.to1 (rlow03_any a.num a.den oa.1 ha.1) fun w2 => ?_)
    | (refine Branch.yes rfl ?_)
    | (refine Branch.no rfl ?_)
    | (refine Branch.mk (fun hb => ?_) (fun hb => ?_))
    | (refine NewI.mk fun nb hnb => ?_)
    | (refine Need.mk (by show _ ∧ _; omega) ?_)
    | (refine Need.mk (by omega) ?_)
    | (refine Need.mk ?_ ?_)
    | (refine EndI.mk fun w1 h1 => ?_))
  exact EndI.mk fun w3 h3 => rfl
theorem rcount14_any (long : Int) (h : 1 ≤ long ∧ long ≤ 16) (w : World) : Calls Tryz.prog 48 #[.int .i64 long] w fun e w' => e = .returned (.int .i64 (3 * (2 * long + 1) * (2 * long + 1))) ∧ Below w.heap.size w w' := by
 refine fun_eq 0 w Tryz.func48 (args := [.val (.int .i64 long)]) rfl rfl ?_
 have hm := Fr.mul_bd (u := 3 * (2 * long + 1)) (v := 2 * long + 1) (m := 99) (n := 33) (by omega) (by omega) (by omega) (by omega)
 refine Need.mk (by simp only [inK]; omega) ?_
 refine Need.mk (by simp only [inK]; omega) ?_
 refine Need.mk (by simp only [inK]; omega) ?_
 refine Need.mk (by simp only [inK]; omega) ?_
 refine Need.mk (by simp only [inK]; omega) ?_
 refine Need.mk (by simp only [inK]; omega) ?_
 exact EndI.mk fun w3 h3 => rfl
theorem Rg.many_doc {long : Int} (hl : 1 ≤ long ∧ long ≤ 16) : Rg.many long = (3 * (2 * long + 1) * (2 * long + 1), 0) := by
 unfold Rg.many; rw [if_pos (Rg.fits_iff.2 hl)]; rfl
theorem rwhole14_any (a : Rt) (ha : a.ins) (w : World) :
 Calls Tryz.prog 176 #[.agg #[.int .i64 a.num, .int .i64 a.den]] w fun e w' => e = .returned (.int .i64 (Fr.floor a).1) ∧ Below w.heap.size w w' := by
 refine fun_eq 0 w Tryz.func176 (args := [.agg [.val (.int .i64 a.num), .val (.int .i64 a.den)]]) rfl rfl ?_
 refine NewI.mk fun b1 hb1 => ?_
 (first
   | (refine CallI.to1 (rfloor03_any a ha) fun w2 => ?_)
   | (refine Branch.yes rfl ?_)
   | (refine Branch.no rfl ?_)
   | (refine Branch.mk (fun hb => ?_) (fun hb => ?_))
   | (refine NewI.mk fun nb hnb => ?_)
   | (refine Need.mk (by show _ ∧ _; omega) ?_)
   | (refine Need.mk (by omega) ?_)
   | (refine Need.mk ?_ ?_)
   | (refine EndI.mk fun w1 h1 => ?_))
 exact EndI.mk fun w3 h3 => rfl
theorem rpart14_any (a : Rt) (ha : a.ins) (hok : a.ok = true) (hn : 0 ≤ a.num) (w : World) :
 Calls Tryz.prog 130 #[.agg #[.int .i64 a.num, .int .i64 a.den]] w fun e w' => e = .returned (.agg #[.int .i64 (Rg.part a).num, .int .i64 (Rg.part a).den]) ∧ Below w.heap.size w w' := by
 refine fun_eq 0 w Tryz.func130 (args := [.agg [.val (.int .i64 a.num), .val (.int .i64 a.den)]]) rfl rfl ?_
 have hp := Rg.part_num hok
 have oa := Fr.ok_bd hok
 have hm : 0 ≤ (Fr.floor a).1 * a.den ∧ (Fr.floor a).1 * a.den ≤ a.num ∧ a.num < (Fr.floor a).1 * a.den + a.den := by
  rw [Rg.floor_ok hok]
  have := Int.mul_ediv_add_emod a.num a.den
  rw [Int.mul_comm] at this
  have h0 := Int.mul_nonneg (Int.ediv_nonneg hn (by omega : 0 ≤ a.den)) (by omega : 0 ≤ a.den)
  omega
 have h2 := ha.1
 simp only [inK] at h2
 refine NewI.mk fun b1 hb1 => ?_
 refine NewI.mk fun b2 hb2 => ?_
 refine DrawI.wr (.tk 0 (.tk 1 (.tk 2 (.tk 4 (.tk 5 (.tk 8 (.tk 9 (.ev 3 (.tk 6 (.tk 7 (.tk 10 (.ev 11 .done)))))))))))) [1] [] (by kernel_rfl) rfl (by simp) fun w1 h1 => ?_
 (first
   | (refine CallI.to1 (rwhole14_any a ha) fun w2 => ?_)
   | (refine Branch.yes rfl ?_)
   | (refine Branch.no rfl ?_)
   | (refine Branch.mk (fun hb => ?_) (fun hb => ?_))
   | (refine NewI.mk fun nb hnb => ?_)
   | (refine Need.mk (by show _ ∧ _; omega) ?_)
   | (refine Need.mk (by omega) ?_)
   | (refine Need.mk ?_ ?_)
   | (refine EndI.mk fun w1 h1 => ?_))
 refine Need.mk (by simp only [inK]; omega) ?_
 refine Need.mk (by simp only [inK]; omega) ?_
 exact EndI.mk fun w3 h3 => by rw [hp.1, hp.2]
theorem rplace14_any (a : Rt) (ha : a.ins) (hok : a.ok = true) (hpl : 0 ≤ Rg.place a ∧ Rg.place a ≤ 1000) (w : World) :
 Calls Tryz.prog 131 #[.agg #[.int .i64 a.num, .int .i64 a.den]] w fun e w' => e = .returned (.int .i64 (Rg.place a)) ∧ Below w.heap.size w w' := by
 refine fun_eq 0 w Tryz.func131 (args := [.agg [.val (.int .i64 a.num), .val (.int .i64 a.den)]]) rfl rfl ?_
 refine NewI.mk fun b1 hb1 => ?_
 rw [Rg.place_den hok] at hpl ⊢
 refine Branch.mk (fun hc => ?_) (fun hc => ?_)
 ·have h1 : a.den = 1 := by simpa using hc
  rw [if_pos h1] at hpl ⊢
  refine Need.mk (by simp only [inK]; omega) ?_
  exact EndI.mk fun w3 h3 => rfl
 ·have h1 : ¬ a.den = 1 := by simpa using hc
  rw [if_neg h1] at hpl ⊢
  (first
    | (refine CallI.to1 (rwhole14_any a ha) fun w2 => ?_)
    | (refine Branch.yes rfl ?_)
    | (refine Branch.no rfl ?_)
    | (refine Branch.mk (fun hb => ?_) (fun hb => ?_))
    | (refine NewI.mk fun nb hnb => ?_)
    | (refine Need.mk (by show _ ∧ _; omega) ?_)
    | (refine Need.mk (by omega) ?_)
    | (refine Need.mk ?_ ?_)
    | (refine EndI.mk fun w1 h1 => ?_))
  refine Need.mk (by simp only [inK]; omega) ?_
  refine Need.mk (by simp only [inK]; omega) ?_
  exact EndI.mk fun w3 h3 => rfl
theorem rnumber14_any (p : Pt) (long : Int) (hp : p.ins) (ht : p.t.ok = true) (hu : p.u.ok = true) (hl : 1 ≤ long ∧ long ≤ 16) (w : World) :
 Calls Tryz.prog 85 #[.agg #[.int .i64 p.t.num, .int .i64 p.t.den, .int .i64 p.u.num, .int .i64 p.u.den], .int .i64 long] w fun e w' => e = .returned (.int .i64 (Rg.number p long)) ∧ Below w.heap.size w w' := by
 refine fun_eq 0 w Tryz.func85 (args := [.agg [.val (.int .i64 p.t.num), .val (.int .i64 p.t.den), .val (.int .i64 p.u.num), .val (.int .i64 p.u.den)], .val (.int .i64 long)]) rfl rfl ?_
 refine NewI.mk fun b1 hb1 => ?_
 have hlo : (⟨long, 1⟩ : Rt).ok = true := Rg.ofI_ok (by omega)
 have hli : (⟨long, 1⟩ : Rt).ins := ⟨by simp only [inK]; omega, by simp only [inK]; omega⟩
 rw [Rg.number_doc ht hu hl]
 (first
   | (refine CallI.to1 (rcompared_any p.t p.u ht hu hp.1 hp.2) fun w2 => ?_)
   | (refine Branch.yes rfl ?_)
   | (refine Branch.no rfl ?_)
   | (refine Branch.mk (fun hb => ?_) (fun hb => ?_))
   | (refine NewI.mk fun nb hnb => ?_)
   | (refine Need.mk (by show _ ∧ _; omega) ?_)
   | (refine Need.mk (by omega) ?_)
   | (refine Need.mk ?_ ?_)
   | (refine EndI.mk fun w1 h1 => ?_))
 refine Branch.mk (fun hc => ?_) (fun hc => ?_)
 ·rw [if_pos (.inl (by simpa using hc))]
  exact EndI.mk fun w3 h3 => rfl
 have c1 : ¬ 0 ≤ Fr.cmpR p.t p.u := by simpa using hc
 refine Branch.mk (fun hc2 => ?_) (fun hc2 => ?_)
 ·rw [if_pos (.inr (.inl (by simpa using hc2)))]
  exact EndI.mk fun w3 h3 => rfl
 have c2 : ¬ p.t.num < 0 := by simpa using hc2
 (first
   | (refine CallI.to1 (rcompared_any p.u ⟨long, 1⟩ hu hlo hp.2 hli) fun w2 => ?_)
   | (refine Branch.yes rfl ?_)
   | (refine Branch.no rfl ?_)
   | (refine Branch.mk (fun hb => ?_) (fun hb => ?_))
   | (refine NewI.mk fun nb hnb => ?_)
   | (refine Need.mk (by show _ ∧ _; omega) ?_)
   | (refine Need.mk (by omega) ?_)
   | (refine Need.mk ?_ ?_)
   | (refine EndI.mk fun w1 h1 => ?_))
 refine Branch.mk (fun hc3 => ?_) (fun hc3 => ?_)
 ·rw [if_pos (.inr (.inr (by simpa using hc3)))]
  exact EndI.mk fun w3 h3 => rfl
 have c3 : ¬ 0 < Fr.cmpR p.u ⟨long, 1⟩ := by simpa using hc3
 rw [if_neg (by omega)]
 have hcmp : (Fr.cmp p.t p.u).1 < 0 := by rw [Rg.cmp_ok ht hu]; omega
 have hpt : 0 ≤ Rg.place p.t := by have := Rg.place_neg ht; omega
 have hpu : Rg.place p.u < Rg.sides long := by have := Rg.place_top hu hl; omega
 have hpb := Rg.place_bd hcmp
 have hs : 3 ≤ Rg.sides long ∧ Rg.sides long ≤ 33 := by unfold Rg.sides; omega
 have hnu : 0 ≤ p.u.num := by
  have h1 := Fr.ok_bd ht
  have h2 := Fr.ok_bd hu
  have h3 := (Rg.cmp_lt hcmp).2.2
  rcases Int.lt_or_le p.u.num 0 with h | h
  ·have h4 : 0 ≤ p.t.num * p.u.den := Int.mul_nonneg (by omega) (by omega)
   have h5 : p.u.num * p.t.den ≤ 0 := Int.mul_nonpos_of_nonpos_of_nonneg (by omega) (by omega)
   omega
  ·exact h
 have hpu0 : 0 ≤ Rg.place p.u := by have := Rg.place_neg hu; omega
 have hm := Fr.mul_bd (u := Rg.place p.t) (v := 2 * long + 1) (m := 34) (n := 33) (by omega) (by omega) (by omega) (by omega)
 have hcc : -1 ≤ Fr.cmpR (Rg.part p.t) (Rg.part p.u) ∧ Fr.cmpR (Rg.part p.t) (Rg.part p.u) ≤ 1 := by
  unfold Fr.cmpR cmpI
  split
  ·omega
  ·split <;> omega
 have fin : ∀ (o : Int), 0 ≤ o ∧ o ≤ 2 → ∀ w : World, True := fun _ _ _ => trivial
 refine Branch.mk (fun hc4 => ?_) (fun hc4 => ?_)
 ·have d1 : p.t.den ≠ 1 := by simpa using hc4
  refine Branch.mk (fun hc5 => ?_) (fun hc5 => ?_)
  ·have d2 : p.u.den ≠ 1 := by simpa using hc5
   rw [if_pos ⟨d1, d2⟩]
   refine DrawI.go (.tk 0 (.tk 1 (.tk 3 (.tk 4 (.ev 2 (.ev 5 (.ev 6 (.tk 7 (.tk 8 .done))))))))) (by kernel_rfl) fun w1 h1 => ?_
   (first
     | (refine CallI.to1 (rpart14_any p.t hp.1 ht (by omega)) fun w2 => ?_)
     | (refine Branch.yes rfl ?_)
     | (refine Branch.no rfl ?_)
     | (refine Branch.mk (fun hb => ?_) (fun hb => ?_))
     | (refine NewI.mk fun nb hnb => ?_)
     | (refine Need.mk (by show _ ∧ _; omega) ?_)
     | (refine Need.mk (by omega) ?_)
     | (refine Need.mk ?_ ?_)
     | (refine EndI.mk fun w1 h1 => ?_))
   (first
     | (refine CallI.to1 (rpart14_any p.u hp.2 hu hnu) fun w2 => ?_)
     | (refine Branch.yes rfl ?_)
     | (refine Branch.no rfl ?_)
     | (refine Branch.mk (fun hb => ?_) (fun hb => ?_))
     | (refine NewI.mk fun nb hnb => ?_)
     | (refine Need.mk (by show _ ∧ _; omega) ?_)
     | (refine Need.mk (by omega) ?_)
     | (refine Need.mk ?_ ?_)
     | (refine EndI.mk fun w1 h1 => ?_))
   (first
     | (refine CallI.to1 (rcompared_any (Rg.part p.t) (Rg.part p.u) (Rg.part_ok ht) (Rg.part_ok hu) (Rg.part_ins _) (Rg.part_ins _)) fun w2 => ?_)
     | (refine Branch.yes rfl ?_)
     | (refine Branch.no rfl ?_)
     | (refine Branch.mk (fun hb => ?_) (fun hb => ?_))
     | (refine NewI.mk fun nb hnb => ?_)
     | (refine Need.mk (by show _ ∧ _; omega) ?_)
     | (refine Need.mk (by omega) ?_)
     | (refine Need.mk ?_ ?_)
     | (refine EndI.mk fun w1 h1 => ?_))
   refine Need.mk (by simp only [inK]; omega) ?_
   refine DrawI.go (.tk 0 (.tk 1 (.tk 3 (.tk 4 (.tk 5 (.tk 7 (.tk 8 (.tk 12 (.ev 2 (.tk 6 (.ev 9 (.tk 10 (.tk 11 (.tk 13 (.tk 14 .done))))))))))))))) (by kernel_rfl) fun w1 h1 => ?_
   refine Need.mk (by simp only [inK]; omega) ?_
   refine Need.mk (by simp only [inK]; omega) ?_
   (first
     | (refine CallI.to1 (rplace14_any p.t hp.1 ht (by omega)) fun w2 => ?_)
     | (refine Branch.yes rfl ?_)
     | (refine Branch.no rfl ?_)
     | (refine Branch.mk (fun hb => ?_) (fun hb => ?_))
     | (refine NewI.mk fun nb hnb => ?_)
     | (refine Need.mk (by show _ ∧ _; omega) ?_)
     | (refine Need.mk (by omega) ?_)
     | (refine Need.mk ?_ ?_)
     | (refine EndI.mk fun w1 h1 => ?_))
   refine Need.mk (by simp only [inK]; omega) ?_
   (first
     | (refine CallI.to1 (rplace14_any p.u hp.2 hu (by omega)) fun w2 => ?_)
     | (refine Branch.yes rfl ?_)
     | (refine Branch.no rfl ?_)
     | (refine Branch.mk (fun hb => ?_) (fun hb => ?_))
     | (refine NewI.mk fun nb hnb => ?_)
     | (refine Need.mk (by show _ ∧ _; omega) ?_)
     | (refine Need.mk (by omega) ?_)
     | (refine Need.mk ?_ ?_)
     | (refine EndI.mk fun w1 h1 => ?_))
   refine Need.mk (by simp only [inK]; omega) ?_
   refine Need.mk (by simp only [inK]; omega) ?_
   refine Need.mk (by simp only [inK]; omega) ?_
   exact EndI.mk fun w3 h3 => rfl
  ·have d2 : ¬ p.u.den ≠ 1 := by simpa using hc5
   rw [if_neg (fun h => d2 h.2)]
   refine DrawI.go (.tk 0 (.tk 1 (.tk 3 (.tk 4 (.tk 5 (.tk 7 (.tk 8 (.tk 12 (.ev 2 (.tk 6 (.ev 9 (.tk 10 (.tk 11 (.tk 13 (.tk 14 .done))))))))))))))) (by kernel_rfl) fun w1 h1 => ?_
   refine Need.mk (by simp only [inK]; omega) ?_
   refine Need.mk (by simp only [inK]; omega) ?_
   (first
     | (refine CallI.to1 (rplace14_any p.t hp.1 ht (by omega)) fun w2 => ?_)
     | (refine Branch.yes rfl ?_)
     | (refine Branch.no rfl ?_)
     | (refine Branch.mk (fun hb => ?_) (fun hb => ?_))
     | (refine NewI.mk fun nb hnb => ?_)
     | (refine Need.mk (by show _ ∧ _; omega) ?_)
     | (refine Need.mk (by omega) ?_)
     | (refine Need.mk ?_ ?_)
     | (refine EndI.mk fun w1 h1 => ?_))
   refine Need.mk (by simp only [inK]; omega) ?_
   (first
     | (refine CallI.to1 (rplace14_any p.u hp.2 hu (by omega)) fun w2 => ?_)
     | (refine Branch.yes rfl ?_)
     | (refine Branch.no rfl ?_)
     | (refine Branch.mk (fun hb => ?_) (fun hb => ?_))
     | (refine NewI.mk fun nb hnb => ?_)
     | (refine Need.mk (by show _ ∧ _; omega) ?_)
     | (refine Need.mk (by omega) ?_)
     | (refine Need.mk ?_ ?_)
     | (refine EndI.mk fun w1 h1 => ?_))
   refine Need.mk (by simp only [inK]; omega) ?_
   refine Need.mk (by simp only [inK]; omega) ?_
   refine Need.mk (by simp only [inK]; omega) ?_
   exact EndI.mk fun w3 h3 => rfl
 ·have d1 : ¬ p.t.den ≠ 1 := by simpa using hc4
  rw [if_neg (fun h => d1 h.1)]
  refine DrawI.go (.tk 0 (.tk 1 (.tk 3 (.tk 4 (.tk 5 (.tk 7 (.tk 8 (.tk 12 (.ev 2 (.tk 6 (.ev 9 (.tk 10 (.tk 11 (.tk 13 (.tk 14 .done))))))))))))))) (by kernel_rfl) fun w1 h1 => ?_
  refine Need.mk (by simp only [inK]; omega) ?_
  refine Need.mk (by simp only [inK]; omega) ?_
  (first
    | (refine CallI.to1 (rplace14_any p.t hp.1 ht (by omega)) fun w2 => ?_)
    | (refine Branch.yes rfl ?_)
    | (refine Branch.no rfl ?_)
    | (refine Branch.mk (fun hb => ?_) (fun hb => ?_))
    | (refine NewI.mk fun nb hnb => ?_)
    | (refine Need.mk (by show _ ∧ _; omega) ?_)
    | (refine Need.mk (by omega) ?_)
    | (refine Need.mk ?_ ?_)
    | (refine EndI.mk fun w1 h1 => ?_))
  refine Need.mk (by simp only [inK]; omega) ?_
  (first
    | (refine CallI.to1 (rplace14_any p.u hp.2 hu (by omega)) fun w2 => ?_)
    | (refine Branch.yes rfl ?_)
    | (refine Branch.no rfl ?_)
    | (refine Branch.mk (fun hb => ?_) (fun hb => ?_))
    | (refine NewI.mk fun nb hnb => ?_)
    | (refine Need.mk (by show _ ∧ _; omega) ?_)
    | (refine Need.mk (by omega) ?_)
    | (refine Need.mk ?_ ?_)
    | (refine EndI.mk fun w1 h1 => ?_))
  refine Need.mk (by simp only [inK]; omega) ?_
  refine Need.mk (by simp only [inK]; omega) ?_
  refine Need.mk (by simp only [inK]; omega) ?_
  exact EndI.mk fun w3 h3 => rfl
end Go.Proofs.YtanhnllkccldhaaGreat
namespace Go.Proofs.YtanhnllkccldhaaGreat
open Go.RowKit Go.Proofs.YtanhnllkccldhaaGreat.Eng Enc
namespace Rg
end Rg
end Go.Proofs.YtanhnllkccldhaaGreat
namespace Go.Proofs.YtanhnllkccldhaaGreat
set_option maxRecDepth 100000
namespace Rg
end Rg
namespace Rg
end Rg
namespace Rg
end Rg
namespace Rg
end Rg
end Go.Proofs.YtanhnllkccldhaaGreat
namespace Go.Proofs.YtanhnllkccldhaaGreat
set_option linter.unusedVariables false
namespace Rg
end Rg
end Go.Proofs.YtanhnllkccldhaaGreat
namespace Go.Proofs.YtanhnllkccldhaaGreat
set_option linter.unusedVariables false
set_option linter.unusedSimpArgs false
namespace Dbm
def inS (S k : Nat) : Bool := decide (S / 2 ^ k % 2 = 1)
def pc (S : Nat) : Nat := (if inS S 0 then 1 else 0) + (if inS S 1 then 1 else 0) + (if inS S 2 then 1 else 0) + (if inS S 3 then 1 else 0)
theorem inS_less {S k a : Nat} (hk : inS S k = true) (hS : S < 16) (hk4 : k < 4) (ha : a < 4) : (inS (S - 2 ^ k) a = true ↔ inS S a = true ∧ a ≠ k) ∧ pc (S - 2 ^ k) + 1 = pc S := by
 have key : ∀ S : Fin 16, ∀ k a : Fin 4, inS S.1 k.1 = true → (inS (S.1 - 2 ^ k.1) a.1 = true ↔ inS S.1 a.1 = true ∧ a.1 ≠ k.1) ∧ pc (S.1 - 2 ^ k.1) + 1 = pc S.1 := by decide +kernel
 exact key ⟨S, hS⟩ ⟨k, hk4⟩ ⟨a, ha⟩ hk
theorem inS_zero {S k : Nat} (hS : S < 16) (hp : pc S = 0) (hk : k < 4) : inS S k = false := by
 have key : ∀ S : Fin 16, ∀ k : Fin 4, pc S.1 = 0 → inS S.1 k.1 = false := by decide +kernel
 exact key ⟨S, hS⟩ ⟨k, hk⟩ hp
def cand (N : Nat) (L : List Int) (i : Nat) (rc : Nat → Int) (k : Nat) : Int := (Bd.add (L[i * N + k]?.getD 0) (rc k)).1
def pstep (sk : Nat → Bool) (cd : Nat → Int) (best : Int) (k : Nat) : Int := if sk k = true then best else if cd k < best then cd k else best
def skip (i j S k : Nat) : Bool := !(inS S k) || decide (k = i) || decide (k = j)
def pth (N : Nat) (L : List Int) : Nat → Nat → Nat → Nat → Int
 | 0, i, j, _ => L[i * N + j]?.getD 0
 | f + 1, i, j, S => (List.range N).foldl (pstep (skip i j S) (cand N L i fun k => pth N L f k j (S - 2 ^ k))) (L[i * N + j]?.getD 0)
theorem fold_min {sk : Nat → Bool} {cd : Nat → Int} {G : Int → Prop} : ∀ (l : List Nat) (b : Int), G b → (∀ k, k ∈ l → sk k = false → G (cd k)) →
 G (l.foldl (pstep sk cd) b) ∧ l.foldl (pstep sk cd) b ≤ b ∧ ∀ k, k ∈ l → sk k = false → l.foldl (pstep sk cd) b ≤ cd k
 | [], b, hb, _ => ⟨hb, Int.le_refl _, by simp⟩
 | k :: l, b, hb, hc => by
   rw [List.foldl_cons]
   have hs : G (pstep sk cd b k) ∧ pstep sk cd b k ≤ b ∧ (sk k = false → pstep sk cd b k ≤ cd k) := by
    unfold pstep
    by_cases h1 : sk k = true
    ·rw [if_pos h1]; exact ⟨hb, Int.le_refl _, fun h => by rw [h1] at h; cases h⟩
    ·rw [if_neg h1]
     have h1' : sk k = false := by simpa using h1
     by_cases h2 : cd k < b
     ·rw [if_pos h2]; exact ⟨hc k (by simp) h1', by omega, fun _ => Int.le_refl _⟩
     ·rw [if_neg h2]; exact ⟨hb, Int.le_refl _, fun _ => by omega⟩
   obtain ⟨k1, k2, k3⟩ := fold_min l (pstep sk cd b k) hs.1 (fun a ha => hc a (by simp [ha]))
   refine ⟨k1, by omega, fun a ha hsa => ?_⟩
   rcases List.mem_cons.1 ha with rfl | ha
   ·have := hs.2.2 hsa; omega
   ·exact k3 a ha hsa
theorem le_ole {m : Int} (hm : m ≤ 2305843009213693952) {u v : Int} (hu : lim m u) (hv : lim m v) (h : u ≤ v) : ole (ob u) (ob v) :=
 not_olt.1 fun h2 => by have := (lt_iff hm hv hu).2 h2; omega
structure POk (N : Nat) (L : List Int) (i j S f : Nat) (v : Int) : Prop where
 lim : Dbm.lim 1152921504606846976 v
 wit : ∀ u, ob v = some u → ∃ mid : List Nat, mid.Nodup ∧ i ∉ mid ∧ j ∉ mid ∧ (∀ a, a ∈ mid → a < N ∧ inS S a = true) ∧ way (mx N L) (i :: (mid ++ [j])) = some u
 low : ∀ mid : List Nat, mid.Nodup → i ∉ mid → j ∉ mid → (∀ a, a ∈ mid → a < N ∧ inS S a = true) → mid.length ≤ f → ole (ob v) (way (mx N L) (i :: (mid ++ [j])))
section
variable {N : Nat} {L : List Int}
theorem mx_lim (h0 : chk N L = 0) : ∀ i j v, i < N → j < N → mx N L i j = some v → -288230376151711744 ≤ v / 2 ∧ v / 2 ≤ 288230376151711744 := fun i j v hi hj hv => by
 obtain ⟨c1, c2, c3, c4⟩ := chk_iff.1 h0
 have hL : L.length = N * N := by exact_mod_cast c3
 obtain ⟨e1, e2⟩ := mx_some hv
 have := chk_lim h0 (i * N + j) (by rw [hL]; exact place_lt hi hj)
 rw [e1] at this
 exact this.resolve_left e2
theorem way_lim3 (h0 : chk N L = 0) {i j : Nat} (hi : i < N) (hj : j < N) {mid : List Nat} (hn : mid.Nodup) (him : i ∉ mid) (hm : ∀ a, a ∈ mid → a < N) {u : Int} (hu : way (mx N L) (i :: (mid ++ [j])) = some u) : -1152921504606846976 ≤ u / 2 ∧ u / 2 ≤ 1152921504606846976 := by
 obtain ⟨c1, c2, c3, c4⟩ := chk_iff.1 h0
 have hlt : ∀ a ∈ i :: (mid ++ [j]), a < N := by
  intro a ha
  simp only [List.mem_cons, List.mem_append, List.not_mem_nil, or_false] at ha
  rcases ha with rfl | ha | rfl
  ·exact hi
  ·exact hm a ha
  ·exact hj
 have hw := way_lim (by omega) (mx_lim h0) _ u hlt hu
 have hl := nodup_len N (i :: mid) (List.nodup_cons.2 ⟨him, hn⟩) (fun a ha => by rcases List.mem_cons.1 ha with rfl | ha; exact hi; exact hm a ha)
 have hl' : ((i :: (mid ++ [j])).length - 1 : Nat) ≤ 4 := by simp at hl ⊢; omega
 generalize ((i :: (mid ++ [j])).length - 1 : Nat) = x at hw hl'
 omega
theorem ob_lim {v m : Int} (h : ∀ u, ob v = some u → -m ≤ u / 2 ∧ u / 2 ≤ m) : lim m v := by
 by_cases hv : v = NO
 ·exact .inl hv
 ·exact .inr (h v (by unfold ob; rw [if_neg hv]))
theorem pth_ok (h0 : chk N L = 0) : ∀ (f i j S : Nat), i < N → j < N → S < 16 → inS S i = false → POk N L i j S f (pth N L f i j S)
 | 0, i, j, S, hi, hj, hS, hiS => by
   have hw : ∀ u, ob (pth N L 0 i j S) = some u → way (mx N L) (i :: ([] ++ [j])) = some u := fun u hu => by rw [List.nil_append, way_two]; exact hu
   refine ⟨ob_lim fun u hu => way_lim3 h0 hi hj (by simp) (by simp) (by simp) (hw u hu), fun u hu => ⟨[], by simp, by simp, by simp, by simp, hw u hu⟩, fun mid _ _ _ _ hl => ?_⟩
   have : mid = [] := List.eq_nil_of_length_eq_zero (by omega)
   subst this
   rw [List.nil_append, way_two]
   exact ole_refl _
 | f + 1, i, j, S, hi, hj, hS, hiS => by
   obtain ⟨c1, c2, c3, c4⟩ := chk_iff.1 h0
   have hN4 : N ≤ 4 := by omega
   have hL : L.length = N * N := by exact_mod_cast c3
   let G : Int → Prop := fun v => ∀ u, ob v = some u → ∃ mid : List Nat, mid.Nodup ∧ i ∉ mid ∧ j ∉ mid ∧ (∀ a, a ∈ mid → a < N ∧ inS S a = true) ∧ way (mx N L) (i :: (mid ++ [j])) = some u
   have Glim : ∀ v, G v → lim 1152921504606846976 v := fun v hv => ob_lim fun u hu => by
    obtain ⟨mid, m1, m2, m3, m4, m5⟩ := hv u hu
    exact way_lim3 h0 hi hj m1 m2 (fun a ha => (m4 a ha).1) m5
   have hsk : ∀ k, k < N → skip i j S k = false → inS S k = true ∧ k ≠ i ∧ k ≠ j := fun k hk h => by
    unfold skip at h
    simpa [and_assoc] using h
   have rc : ∀ k, k < N → skip i j S k = false → POk N L k j (S - 2 ^ k) f (pth N L f k j (S - 2 ^ k)) := fun k hk h => by
    obtain ⟨h1, h2, h3⟩ := hsk k hk h
    have hl := inS_less (a := k) h1 hS (by omega) (by omega)
    refine pth_ok h0 f k j (S - 2 ^ k) hk hj (Nat.lt_of_le_of_lt (Nat.sub_le _ _) hS) ?_
    cases hh : inS (S - 2 ^ k) k with
    | false => rfl
    | true => exact absurd rfl ((hl.1.1 hh).2)
   have cdE : ∀ k, k < N → skip i j S k = false → ob (cand N L i (fun k => pth N L f k j (S - 2 ^ k)) k) = oadd (mx N L i k) (ob (pth N L f k j (S - 2 ^ k))) := fun k hk h => by
    have l1 : lim 1152921504606846976 (L[i * N + k]?.getD 0) := lim_mono (chk_lim h0 (i * N + k) (by rw [hL]; exact place_lt hi hk)) (by omega)
    exact (add_eq l1 (rc k hk h).lim).1
   have cdG : ∀ k, k ∈ List.range N → skip i j S k = false → G (cand N L i (fun k => pth N L f k j (S - 2 ^ k)) k) := fun k hk h u hu => by
    have hk := List.mem_range.1 hk
    obtain ⟨h1, h2, h3⟩ := hsk k hk h
    rw [cdE k hk h] at hu
    cases he : mx N L i k with
    | none => rw [he] at hu; cases hu
    | some x =>
      cases hp : ob (pth N L f k j (S - 2 ^ k)) with
      | none => rw [he, hp] at hu; cases hu
      | some y =>
        obtain ⟨mid, m1, m2, m3, m4, m5⟩ := (rc k hk h).wit y hp
        have hl := fun a (ha : a < 4) => (inS_less (a := a) h1 hS (by omega) ha).1
        have hin : ∀ a, a ∈ mid → a < N ∧ inS S a = true ∧ a ≠ k := fun a ha => ⟨(m4 a ha).1, (hl a (by have := (m4 a ha).1; omega)).1 (m4 a ha).2⟩
        refine ⟨k :: mid, List.nodup_cons.2 ⟨m2, m1⟩, ?_, ?_, ?_, ?_⟩
        ·intro hm
         rcases List.mem_cons.1 hm with rfl | hm
         ·exact h2 rfl
         ·have := (hin i hm).2.1; rw [hiS] at this; cases this
        ·intro hm
         rcases List.mem_cons.1 hm with rfl | hm
         ·exact h3 rfl
         ·exact m3 hm
        ·intro a ha
         rcases List.mem_cons.1 ha with rfl | ha
         ·exact ⟨hk, h1⟩
         ·exact ⟨(hin a ha).1, (hin a ha).2.1⟩
        ·show oadd (mx N L i k) (way (mx N L) (k :: (mid ++ [j]))) = some u
         rw [m5, he]
         rw [he, hp] at hu
         exact hu
   have b0 : G (L[i * N + j]?.getD 0) := fun u hu => ⟨[], by simp, by simp, by simp, by simp, by rw [List.nil_append, way_two]; exact hu⟩
   obtain ⟨k1, k2, k3⟩ := fold_min (sk := skip i j S) (cd := cand N L i fun k => pth N L f k j (S - 2 ^ k)) (G := G) (List.range N) _ b0 cdG
   refine ⟨Glim _ k1, k1, fun mid m1 m2 m3 m4 hl => ?_⟩
   cases mid with
   | nil =>
     rw [List.nil_append, way_two]
     exact le_ole (by omega) (Glim _ k1) (Glim _ b0) k2
   | cons k mid =>
     have hkN := (m4 k (by simp)).1
     have hkS := (m4 k (by simp)).2
     have hki : k ≠ i := fun e => m2 (by simp [e])
     have hkj : k ≠ j := fun e => m3 (by simp [e])
     have hs : skip i j S k = false := by unfold skip; simp [hkS, hki, hkj]
     have h1 := k3 k (List.mem_range.2 hkN) hs
     have h2 := le_ole (m := 1152921504606846976) (by omega) (Glim _ k1) (Glim _ (cdG k (List.mem_range.2 hkN) hs)) h1
     rw [cdE k hkN hs] at h2
     refine ole_trans h2 ?_
     show ole _ (oadd (mx N L i k) (way (mx N L) (k :: (mid ++ [j]))))
     have hnd := List.nodup_cons.1 m1
     refine oadd_mono (ole_refl _) ((rc k hkN hs).low mid hnd.2 hnd.1 (fun h => m3 (by simp [h])) (fun a ha => ?_) (by simp at hl; omega))
     have ha4 := m4 a (by simp [ha])
     exact ⟨ha4.1, (inS_less hkS hS (by omega) (by omega)).1.2 ⟨ha4.2, fun e => hnd.1 (e ▸ ha)⟩⟩
end
end Dbm
namespace Dbm
def full (N i : Nat) : Nat := 2 ^ N - 1 - 2 ^ i
theorem full_ok {N i : Nat} (hN : N ≤ 4) (hi : i < N) : full N i < 16 ∧ inS (full N i) i = false ∧ pc (full N i) ≤ N ∧ ∀ a, a < N → a ≠ i → inS (full N i) a = true := by
 have key : ∀ N : Fin 5, ∀ i a : Fin 4, i.1 < N.1 → full N.1 i.1 < 16 ∧ inS (full N.1 i.1) i.1 = false ∧ pc (full N.1 i.1) ≤ N.1 ∧ (a.1 < N.1 → a.1 ≠ i.1 → inS (full N.1 i.1) a.1 = true) := by decide +kernel
 have k := fun a ha => key ⟨N, by omega⟩ ⟨i, by omega⟩ ⟨a, ha⟩ hi
 have k0 := k 0 (by omega)
 exact ⟨k0.1, k0.2.1, k0.2.2.1, fun a ha => (k a (by omega)).2.2.2 ha⟩
def closedR (N : Nat) (L : List Int) : Option (List Int) :=
 if (List.range N).all (fun i => decide (1 ≤ pth N L N i i (full N i))) = true then some ((List.range (N * N)).map fun p => if p / N = p % N then 1 else pth N L N (p / N) (p % N) (full N (p / N))) else none
def dis : List Nat → Prop
 | a :: b :: t => a ≠ b ∧ dis (b :: t)
 | _ => True
theorem dis_way {N : Nat} {L L1 : List Int} (h : ∀ i j, i < N → j < N → i ≠ j → L1[i * N + j]?.getD 0 = L[i * N + j]?.getD 0) : ∀ (p : List Nat), dis p → (∀ a, a ∈ p → a < N) → way (mx N L1) p = way (mx N L) p
 | [], _, _ => rfl
 | [_], _, _ => rfl
 | a :: b :: t, hd, hp => by
   have h1 : mx N L1 a b = mx N L a b := by unfold mx; rw [h a b (hp a (by simp)) (hp b (by simp)) hd.1]
   simp only [way, h1, dis_way h (b :: t) hd.2 (fun c hc => hp c (List.mem_cons_of_mem a hc))]
theorem dis_simple : ∀ (mid : List Nat) (i j : Nat), mid.Nodup → i ∉ mid → j ∉ mid → (i ≠ j ∨ mid ≠ []) → dis (i :: (mid ++ [j]))
 | [], i, j, _, _, _, h => ⟨h.resolve_right (fun h => h rfl), trivial⟩
 | k :: mid, i, j, hn, hi, hj, _ => by
   have hnd := List.nodup_cons.1 hn
   exact ⟨fun e => hi (by simp [e]), dis_simple mid k j hnd.2 hnd.1 (fun h => hj (by simp [h])) (.inl fun e => hj (by simp [e]))⟩
theorem cyc_ok {N n : Nat} {E M : Mx} (inv : Inv N n E M) (hn : n < N) (H : ∀ i mid, i < N → mid.Nodup → i ∉ mid → (∀ a, a ∈ mid → a < N) → ole (some 1) (way E (i :: (mid ++ [i])))) :
 ∀ (m : Nat) (p q : List Nat) (i : Nat), p.length + q.length ≤ m → (i :: (p ++ [n])).Nodup → (n :: (q ++ [i])).Nodup → (∀ a, a ∈ p → a < n) → (∀ a, a ∈ q → a < n) → i < N → ole (some 1) (oadd (way E (i :: (p ++ [n]))) (way E (n :: (q ++ [i]))))
 | m, p, q, i, hm, hp, hq, hpn, hqn, hi => by
   have hp' := List.nodup_cons.1 hp
   have hq' := List.nodup_cons.1 hq
   have hpa := List.nodup_append.1 hp'.2
   have hqa := List.nodup_append.1 hq'.2
   have hip : i ∉ p := fun h => hp'.1 (List.mem_append.2 (.inl h))
   have hin : i ≠ n := fun h => hp'.1 (List.mem_append.2 (.inr (by simp [h])))
   have hnq : n ∉ q := fun h => hq'.1 (List.mem_append.2 (.inl h))
   have hnp : n ∉ p := fun h => hpa.2.2 n h n (by simp) rfl
   have hiq : i ∉ q := fun h => hqa.2.2 i h i (by simp) rfl
   by_cases hd : ∃ v, v ∈ p ∧ v ∈ q
   ·obtain ⟨v, hv1, hv2⟩ := hd
    obtain ⟨p1, p2, rfl⟩ := List.append_of_mem hv1
    obtain ⟨q1, q2, rfl⟩ := List.append_of_mem hv2
    have hvn : v < n := hpn v hv1
    have e1 : way E (i :: ((p1 ++ v :: p2) ++ [n])) = oadd (way E (i :: (p1 ++ [v]))) (way E (v :: (p2 ++ [n]))) := by
     have := way_split E (i :: p1) v (p2 ++ [n])
     simpa using this
    have e2 : way E (n :: ((q1 ++ v :: q2) ++ [i])) = oadd (way E (n :: (q1 ++ [v]))) (way E (v :: (q2 ++ [i]))) := by
     have := way_split E (n :: q1) v (q2 ++ [i])
     simpa using this
    have e3 : way E (i :: ((p1 ++ v :: q2) ++ [i])) = oadd (way E (i :: (p1 ++ [v]))) (way E (v :: (q2 ++ [i]))) := by
     have := way_split E (i :: p1) v (q2 ++ [i])
     simpa using this
    have h1 : ole (some 1) (way E (i :: ((p1 ++ v :: q2) ++ [i]))) := by
     have := inv.le_way (by omega) (p1 ++ v :: q2) i i hi hi (fun a ha => by
      rcases List.mem_append.1 ha with h | h
      ·exact hpn a (List.mem_append.2 (.inl h))
      ·rcases List.mem_cons.1 h with rfl | h
       ·exact hvn
       ·exact hqn a (List.mem_append.2 (.inr (List.mem_cons_of_mem _ h))))
     rwa [inv.diag i hi] at this
    have hm' : p2.length + q1.length < p1.length + (p2.length + 1) + (q1.length + (q2.length + 1)) := by omega
    have h2 : ole (some 1) (oadd (way E (v :: (p2 ++ [n]))) (way E (n :: (q1 ++ [v])))) := by
     match m, hm with
     | 0, hm => simp at hm
     | m + 1, hm =>
       refine cyc_ok inv hn H m p2 q1 v (by simp at hm; omega) ?_ ?_ (fun a ha => hpn a (by simp [ha])) (fun a ha => hqn a (by simp [ha])) (by omega)
       ·refine hp'.2.sublist ?_
        have : (p1 ++ v :: p2) ++ [n] = p1 ++ (v :: (p2 ++ [n])) := by simp
        rw [this]; exact List.sublist_append_right _ _
       ·refine hq.sublist ?_
        have : (q1 ++ v :: q2) ++ [i] = (q1 ++ [v]) ++ (q2 ++ [i]) := by simp
        rw [this]; exact List.Sublist.cons_cons n (List.sublist_append_left _ _)
    rw [e1, e2]
    generalize way E (i :: (p1 ++ [v])) = A at *
    generalize way E (v :: (p2 ++ [n])) = B at *
    generalize way E (n :: (q1 ++ [v])) = C at *
    generalize way E (v :: (q2 ++ [i])) = D at *
    have e4 : oadd (oadd A B) (oadd C D) = oadd (oadd A D) (oadd B C) := by
     rw [oadd_assoc, oadd_comm C D, ← oadd_assoc B D C, oadd_comm B D, oadd_assoc D B C, ← oadd_assoc A D]
    rw [e4, ← e3]
    have := oadd_mono h1 h2
    rwa [oadd_one] at this
   ·have h1 := H i (p ++ n :: q) hi (List.nodup_append.2 ⟨hpa.1, List.nodup_cons.2 ⟨hnq, hqa.1⟩, fun a ha b hb e => by
     subst e
     rcases List.mem_cons.1 hb with rfl | hb
     ·exact hnp ha
     ·exact hd ⟨a, ha, hb⟩⟩) (fun h => by
     rcases List.mem_append.1 h with h | h
     ·exact hip h
     ·rcases List.mem_cons.1 h with h | h
      ·exact hin h
      ·exact hiq h) (fun a ha => by
     rcases List.mem_append.1 ha with h | h
     ·have := hpn a h; omega
     ·rcases List.mem_cons.1 h with rfl | h
      ·exact hn
      ·have := hqn a h; omega)
    have e := way_split E (i :: p) n (q ++ [i])
    have e' : way E (i :: ((p ++ n :: q) ++ [i])) = oadd (way E (i :: (p ++ [n]))) (way E (n :: (q ++ [i]))) := by simpa using e
    rwa [e'] at h1
theorem there_back {N n : Nat} {E M : Mx} (inv : Inv N n E M) (hn : n < N) (H : ∀ i mid, i < N → mid.Nodup → i ∉ mid → (∀ a, a ∈ mid → a < N) → ole (some 1) (way E (i :: (mid ++ [i])))) (i : Nat) (hi : i < N) : ole (some 1) (oadd (M i n) (M n i)) := by
 by_cases hin : i = n
 ·subst hin; rw [inv.diag i hi, oadd_one]; exact ole_refl _
 cases h1 : M i n with
 | none => trivial
 | some u =>
   cases h2 : M n i with
   | none => trivial
   | some v =>
     obtain ⟨p, p1, p2, p3⟩ := inv.wit i n hi hn hin u h1
     obtain ⟨q, q1, q2, q3⟩ := inv.wit n i hn hi (fun e => hin e.symm) v h2
     have := cyc_ok inv hn H (p.length + q.length) p q i (Nat.le_refl _) p1 q1 p2 q2 hi
     rwa [p3, q3] at this
end Dbm
namespace Dbm
section
variable {N : Nat} {L : List Int}
theorem pth_full (h0 : chk N L = 0) {i j : Nat} (hi : i < N) (hj : j < N) : POk N L i j (full N i) N (pth N L N i j (full N i)) := by
 obtain ⟨c1, c2, c3, c4⟩ := chk_iff.1 h0
 obtain ⟨f1, f2, _, _⟩ := full_ok (N := N) (i := i) (by omega) hi
 exact pth_ok h0 N i j (full N i) hi hj f1 f2
theorem low_full (h0 : chk N L = 0) {i j : Nat} (hi : i < N) (hj : j < N) {mid : List Nat} (hn : mid.Nodup) (him : i ∉ mid) (hjm : j ∉ mid) (hm : ∀ a, a ∈ mid → a < N) : ole (ob (pth N L N i j (full N i))) (way (mx N L) (i :: (mid ++ [j]))) := by
 obtain ⟨c1, c2, c3, c4⟩ := chk_iff.1 h0
 obtain ⟨_, _, _, f4⟩ := full_ok (N := N) (i := i) (by omega) hi
 exact (pth_full h0 hi hj).low mid hn him hjm (fun a ha => ⟨hm a ha, f4 a (hm a ha) (fun e => him (e ▸ ha))⟩) (nodup_len N mid hn hm)
theorem ole_one {v : Int} (h : 1 ≤ v) : ole (some 1) (ob v) := by
 unfold ob; split
 ·trivial
 ·exact h
theorem one_of_ole {v : Int} (h : ole (some 1) (ob v)) : 1 ≤ v := by
 unfold ob at h
 split at h
 ·rename_i e; rw [e]; decide
 ·exact h
theorem diag_some (hL : L.length = N * N) (hd : ∀ i, i < N → 1 ≤ L[i * N + i]?.getD 0) : ∀ n, n ≤ N → ∃ Ln, (List.range n).foldlM (diag1 N) L = some Ln := by
 intro n
 induction n with
 | zero => intro _; exact ⟨L, rfl⟩
 | succ n ih =>
   intro hn
   obtain ⟨Ln, hLn⟩ := ih (by omega)
   obtain ⟨a1, a2, a3⟩ := diag_spec hL n Ln (by omega) hLn
   refine ⟨Ln.set (n * N + n) 1, ?_⟩
   have h1 : Ln[n * N + n]?.getD 0 = L[n * N + n]?.getD 0 := by rw [a3 n n (by omega) (by omega), if_neg (by omega)]
   have h2 := hd n (by omega)
   rw [List.range_succ, List.foldlM_append, hLn]
   have h3 : diag1 N Ln n = some (Ln.set (n * N + n) 1) := by unfold diag1; rw [if_neg (by omega)]
   simp [h3]
theorem stage_some {L1 : List Int} (hN4 : N ≤ 4) (a1 : L1.length = N * N) (hd1 : ∀ i, i < N → mx N L1 i i = some 1) (hE : ∀ i j v, i < N → j < N → mx N L1 i j = some v → -288230376151711744 ≤ v / 2 ∧ v / 2 ≤ 288230376151711744)
 (H : ∀ i mid, i < N → mid.Nodup → i ∉ mid → (∀ a, a ∈ mid → a < N) → ole (some 1) (way (mx N L1) (i :: (mid ++ [i])))) : ∀ n, n ≤ N → ∃ Cn, (List.range n).foldlM (stage N) L1 = some Cn := by
 intro n
 induction n with
 | zero => intro _; exact ⟨L1, rfl⟩
 | succ n ih =>
   intro hn
   obtain ⟨Cn, hCn⟩ := ih (by omega)
   obtain ⟨b1, b2⟩ := fold_inv hN4 a1 hd1 hE n Cn (by omega) hCn
   have hq := inv_lim b2 (by omega) hN4 hE
   have hq' : ∀ q, q < N * N → lim 1152921504606846976 (Cn[q]?.getD 0) := fun q h => lim_mono (hq q h) (by omega)
   have hkk := (mx_some (b2.diag n (by omega))).1
   have hok : diagOk N (thrL N n Cn) = true := by
    unfold diagOk
    rw [List.all_eq_true]
    intro i hi
    have hi := List.mem_range.1 hi
    have ht := thrL_mx (k := n) (by omega) b1 hkk hq' hi hi
    have h1 : thr n (mx N Cn) i i = some 1 := by
     rcases thr_cases n (mx N Cn) i i with e | ⟨_, e⟩
     ·rw [e]; exact b2.diag i hi
     ·exfalso
      rw [b2.diag i hi] at e
      exact olt_irrefl e (there_back b2 (by omega) H i hi)
    rw [h1] at ht
    rw [(mx_some ht).1]; decide
   refine ⟨thrL N n Cn, ?_⟩
   rw [List.range_succ, List.foldlM_append, hCn]
   have h3 : stage N Cn n = some (thrL N n Cn) := by unfold stage; rw [if_pos hok]
   simp [h3]
theorem closedR_eq (h0 : chk N L = 0) : closedR N L = closeL N L := by
 obtain ⟨c1, c2, c3, c4⟩ := chk_iff.1 h0
 have hN4 : N ≤ 4 := by omega
 have hL : L.length = N * N := by exact_mod_cast c3
 cases hC : closeL N L with
 | some C =>
   obtain ⟨L1, a2, a3, inv, hl, hE⟩ := close_inv h0 hC
   have hoff : ∀ i j, i < N → j < N → i ≠ j → L1[i * N + j]?.getD 0 = L[i * N + j]?.getD 0 := fun i j hi hj h => by rw [a3 i j hi hj, if_neg h]
   have hw : ∀ i j mid, i < N → j < N → mid.Nodup → i ∉ mid → j ∉ mid → (∀ a, a ∈ mid → a < N) → (i ≠ j ∨ mid ≠ []) → way (mx N L1) (i :: (mid ++ [j])) = way (mx N L) (i :: (mid ++ [j])) := fun i j mid hi hj hn him hjm hm h =>
    dis_way hoff _ (dis_simple mid i j hn him hjm h) (fun a ha => by
     simp only [List.mem_cons, List.mem_append, List.not_mem_nil, or_false] at ha
     rcases ha with rfl | ha | rfl
     ·exact hi
     ·exact hm a ha
     ·exact hj)
   have hne : ∀ i j, i < N → j < N → i ≠ j → mx N C i j = ob (pth N L N i j (full N i)) := fun i j hi hj hij => by
    have hp := pth_full h0 hi hj
    refine ole_antisymm ?_ ?_
    ·cases hv : ob (pth N L N i j (full N i)) with
     | none => cases mx N C i j <;> trivial
     | some u =>
       obtain ⟨mid, m1, m2, m3, m4, m5⟩ := hp.wit u hv
       rw [← m5, ← hw i j mid hi hj m1 m2 m3 (fun a ha => (m4 a ha).1) (.inl hij)]
       exact inv.le_way (Nat.le_refl _) mid i j hi hj (fun a ha => (m4 a ha).1)
    ·cases hv : mx N C i j with
     | none => cases ob (pth N L N i j (full N i)) <;> trivial
     | some u =>
       obtain ⟨mid, m1, m2, m3⟩ := inv.wit i j hi hj hij u hv
       have n1 := List.nodup_cons.1 m1
       have n2 := List.nodup_append.1 n1.2
       have him : i ∉ mid := fun h => n1.1 (List.mem_append.2 (.inl h))
       have hjm : j ∉ mid := fun h => n2.2.2 j h j (by simp) rfl
       rw [← m3, hw i j mid hi hj n2.1 him hjm m2 (.inl hij)]
       exact low_full h0 hi hj n2.1 him hjm m2
   have hdg : ∀ i, i < N → 1 ≤ pth N L N i i (full N i) := fun i hi => by
    have hp := pth_full h0 hi hi
    apply one_of_ole
    cases hv : ob (pth N L N i i (full N i)) with
    | none => trivial
    | some u =>
      obtain ⟨mid, m1, m2, m3, m4, m5⟩ := hp.wit u hv
      cases mid with
      | nil =>
        rw [List.nil_append, way_two] at m5
        have := a2 i hi
        rw [(mx_some m5).1] at this
        exact this
      | cons k mid =>
        rw [← m5, ← hw i i (k :: mid) hi hi m1 m2 m3 (fun a ha => (m4 a ha).1) (.inr (by simp))]
        have := inv.le_way (Nat.le_refl _) (k :: mid) i i hi hi (fun a ha => (m4 a ha).1)
        rwa [inv.diag i hi] at this
   unfold closedR
   rw [if_pos (by rw [List.all_eq_true]; intro i hi; simpa using hdg i (List.mem_range.1 hi))]
   congr 1
   apply List.ext_getElem
   ·simp [hl]
   ·intro q hq1 hq2
    have hq : q < N * N := by rw [← hl]; exact hq2
    have hdi := div_lt hq
    have hmo := mod_lt hq
    simp only [List.getElem_map, List.getElem_range]
    have hCq : C[q]?.getD 0 = C[q] := by rw [List.getElem?_eq_getElem hq2]; rfl
    by_cases e : q / N = q % N
    ·rw [if_pos e]
     have := (mx_some (inv.diag (q / N) hdi)).1
     rw [show q / N * N + q / N = q by have := div_mod (N := N) (p := q); omega, hCq] at this
     exact this.symm
    ·rw [if_neg e]
     have := hne (q / N) (q % N) hdi hmo e
     unfold mx at this
     rw [div_mod, hCq] at this
     exact (ob_inj this).symm
 | none =>
   unfold closedR
   rw [if_neg]
   intro hall
   rw [List.all_eq_true] at hall
   have hdg : ∀ i, i < N → 1 ≤ pth N L N i i (full N i) := fun i hi => by simpa using hall i (List.mem_range.2 hi)
   have H0 : ∀ i mid, i < N → mid.Nodup → i ∉ mid → (∀ a, a ∈ mid → a < N) → ole (some 1) (way (mx N L) (i :: (mid ++ [i]))) := fun i mid hi hn him hm =>
    ole_trans (ole_one (hdg i hi)) (low_full h0 hi hi hn him him hm)
   have hd : ∀ i, i < N → 1 ≤ L[i * N + i]?.getD 0 := fun i hi => by
    have := H0 i [] hi (by simp) (by simp) (by simp)
    rw [List.nil_append, way_two] at this
    exact one_of_ole this
   obtain ⟨L1, hL1⟩ := diag_some hL hd N (Nat.le_refl _)
   obtain ⟨a1, a2, a3⟩ := diag_spec hL N L1 (Nat.le_refl _) hL1
   have a3' : ∀ i j, i < N → j < N → L1[i * N + j]?.getD 0 = if i = j then 1 else L[i * N + j]?.getD 0 := fun i j hi hj => by
    rw [a3 i j hi hj]
    by_cases e : i = j
    ·rw [if_pos ⟨e, hi⟩, if_pos e]
    ·rw [if_neg (fun h => e h.1), if_neg e]
   have hd1 : ∀ i, i < N → mx N L1 i i = some 1 := fun i hi => by unfold mx; rw [a3' i i hi hi, if_pos rfl]; rfl
   have hE : ∀ i j v, i < N → j < N → mx N L1 i j = some v → -288230376151711744 ≤ v / 2 ∧ v / 2 ≤ 288230376151711744 := fun i j v hi hj hv => by
    obtain ⟨e1, e2⟩ := mx_some hv
    rw [a3' i j hi hj] at e1
    split at e1
    ·subst e1; decide
    ·have := chk_lim h0 (i * N + j) (by rw [hL]; exact place_lt hi hj)
     rw [e1] at this
     exact this.resolve_left e2
   have hoff : ∀ i j, i < N → j < N → i ≠ j → L1[i * N + j]?.getD 0 = L[i * N + j]?.getD 0 := fun i j hi hj h => by rw [a3' i j hi hj, if_neg h]
   have H1 : ∀ i mid, i < N → mid.Nodup → i ∉ mid → (∀ a, a ∈ mid → a < N) → ole (some 1) (way (mx N L1) (i :: (mid ++ [i]))) := fun i mid hi hn him hm => by
    cases mid with
    | nil => rw [List.nil_append, way_two, hd1 i hi]; exact ole_refl _
    | cons k mid =>
      rw [dis_way hoff _ (dis_simple (k :: mid) i i hn him him (.inr (by simp))) (fun a ha => by
       simp only [List.mem_cons, List.mem_append, List.not_mem_nil, or_false] at ha
       rcases ha with rfl | (rfl | ha) | rfl
       ·exact hi
       ·exact hm a (by simp)
       ·exact hm a (by simp [ha])
       ·exact hi)]
      exact H0 i (k :: mid) hi hn him hm
   obtain ⟨Cn, hCn⟩ := stage_some hN4 a1 hd1 hE H1 N (Nat.le_refl _)
   unfold closeL at hC
   rw [hL1, Option.bind_some, hCn] at hC
   cases hC
end
end Dbm
end Go.Proofs.YtanhnllkccldhaaGreat
namespace Go.Proofs.YtanhnllkccldhaaGreat
set_option linter.unusedVariables false
open Go.RowKit
theorem may_any (a : Int) (w : World) :
 Calls Tryz.prog 243 #[.int .i64 a] w fun e w' => e = .returned (.bool (Num.okB a)) ∧ w = w' := by
 by_cases h1 : -2305843009213693952 ≤ a
 ·by_cases h2 : a ≤ 2305843009213693952
  ·have hr := Lib.hid (Num.okB_iff.2 ⟨h1, h2⟩)
   go_enter Tryz.func243, Tryz.ntmps243
   go_wp2
   go_ret
   exact ⟨by rw [hr.out]; rfl, rfl⟩
  ·have hr := Lib.hid (Num.okB_no.2 (.inr (Int.not_le.1 h2)))
   go_enter Tryz.func243, Tryz.ntmps243
   go_wp2
   go_ret
   exact ⟨by rw [hr.out]; rfl, rfl⟩
 ·have hr := Lib.hid (Num.okB_no.2 (.inl (Int.not_le.1 h1)))
  go_enter Tryz.func243, Tryz.ntmps243
  go_wp2
  go_ret
  exact ⟨by rw [hr.out]; rfl, rfl⟩
theorem tmod2_even {b : Int} (h : b % 2 = 0) : b.tmod 2 = 0 := Int.tmod_eq_zero_of_dvd (Int.dvd_of_emod_eq_zero h)
theorem tmod2_odd {b : Int} (h : ¬ b % 2 = 0) : (b.tmod 2 == 0) = false := by
 simp only [beq_eq_false_iff_ne, ne_eq]
 intro e
 exact h (Int.emod_eq_zero_of_dvd (Int.dvd_of_tmod_eq_zero e))
theorem tdiv2_even {b : Int} (h : b % 2 = 0) : b.tdiv 2 = b / 2 := by
 obtain ⟨k, rfl⟩ := Int.dvd_of_emod_eq_zero h
 rw [Int.mul_tdiv_cancel_left _ (by decide), Int.mul_ediv_cancel_left _ (by decide)]
theorem rnumber_any (b : Int) (hlo : -9223372036854775808 ≤ b) (hhi : b ≤ 9223372036854775807) (w : World) :
 Calls Tryz.prog 42 #[.int .i64 b] w fun e w' => e = .returned (.int .i64 (b / 2)) ∧ w = w' := by
 by_cases h : b % 2 = 0
 ·have h1 := tmod2_even h
  have h2 := Lib.hid (tdiv2_even h)
  clear h
  go_enter Tryz.func42, Tryz.ntmps42
  go_wp2
  go_ret
  exact ⟨ret_int h2.out, rfl⟩
 ·have h1 := tmod2_odd h
  have h3 : (b.tmod 2 != 0) = true := by simp only [bne, h1]; rfl
  have h2 := Lib.hid (show (b - 1).tdiv 2 = b / 2 by rw [tdiv2_even (by omega)]; omega)
  have h4 : -9223372036854775808 ≤ b - 1 := by omega
  clear h
  go_enter Tryz.func42, Tryz.ntmps42
  go_wp2
  go_ret
  exact ⟨ret_int h2.out, rfl⟩
theorem rstrict_any (b : Int) (w : World) :
 Calls Tryz.prog 177 #[.int .i64 b] w fun e w' => e = .returned (.bool (Bd.st b)) ∧ w = w' := by
 by_cases h : b % 2 = 0
 ·have h1 := tmod2_even h
  have hr := Lib.hid (show Bd.st b = true by simp [Bd.st, h])
  clear h
  go_enter Tryz.func177, Tryz.ntmps177
  go_wp2
  go_ret
  exact ⟨by rw [hr.out]; rfl, rfl⟩
 ·have h1 := tmod2_odd h
  have hr := Lib.hid (show Bd.st b = false by simp [Bd.st, h])
  clear h
  go_enter Tryz.func177, Tryz.ntmps177
  go_wp2
  go_ret
  exact ⟨by rw [hr.out]; rfl, rfl⟩
theorem rmade_any (c : Int) (s : Bool) (h1 : -4611686018427387904 ≤ c) (h2 : c ≤ 4611686018427387903) (w : World) :
 Calls Tryz.prog 187 #[.int .i64 c, .bool s] w fun e w' => e = .returned (.int .i64 (Bd.mk c s)) ∧ w = w' := by
 cases s
 all_goals
  go_enter Tryz.func187, Tryz.ntmps187
  go_wp2
  go_ret
  exact ⟨ret_int (by simp [Bd.mk]; omega), rfl⟩
def Bd.sum (a b : Int) : Int × Bool :=
 if a = 9223372036854775807 ∨ b = 9223372036854775807 then (9223372036854775807, true) else if Num.okB (a / 2 + b / 2) then (Bd.mk (a / 2 + b / 2) (Bd.st a || Bd.st b), true) else (0, false)
theorem rbsum_any (a b : Int) (ha : Bd.may a = true) (hb : Bd.may b = true) (alo : -9223372036854775808 ≤ a) (ahi : a ≤ 9223372036854775807) (blo : -9223372036854775808 ≤ b) (bhi : b ≤ 9223372036854775807) (w : World) :
 Calls Tryz.prog 238 #[.int .i64 a, .int .i64 b] w fun e w' => e = .returned (.tuple #[.int .i64 (Bd.sum a b).1, .bool (Bd.sum a b).2]) ∧ w = w' := by
 by_cases na : a = 9223372036854775807
 ·have hr := Lib.hid (show Bd.sum a b = (9223372036854775807, true) by simp [Bd.sum, na])
  subst na
  clear ha hb
  go_enter Tryz.func238, Tryz.ntmps238
  go_wp2
  go_ret2
  exact ⟨ibtup hr.out rfl rfl, rfl⟩
 ·have na1 : (a == 9223372036854775807) = false := by simpa using na
  by_cases nb : b = 9223372036854775807
  ·have hr := Lib.hid (show Bd.sum a b = (9223372036854775807, true) by simp [Bd.sum, nb])
   subst nb
   clear ha hb na
   go_enter Tryz.func238, Tryz.ntmps238
   go_wp2
   go_ret2
   exact ⟨ibtup hr.out rfl rfl, rfl⟩
  ·have nb1 : (b == 9223372036854775807) = false := by simpa using nb
   obtain ⟨a1, a2⟩ := Num.okB_iff.1 (Bd.okB_of_may ha na)
   obtain ⟨b1, b2⟩ := Num.okB_iff.1 (Bd.okB_of_may hb nb)
   cases hs : Num.okB (a / 2 + b / 2) with
   | false =>
     have hr := Lib.hid (show Bd.sum a b = (0, false) by simp [Bd.sum, na, nb, hs])
     clear ha hb na nb
     go_enter Tryz.func238, Tryz.ntmps238
     go_wp2_with (first
      | (go_at_call 42; refine (rnumber_any _ (by assumption) (by assumption) _).mono ?_; rintro e w' ⟨rfl, rfl⟩)
      | (go_at_call 243; refine (may_any _ _).mono ?_; rintro e w' ⟨rfl, rfl⟩))
     go_ret2
     exact ⟨ibtup hr.out rfl rfl, rfl⟩
   | true =>
     have hr := Lib.hid (show Bd.sum a b = (Bd.mk (a / 2 + b / 2) (Bd.st a || Bd.st b), true) by simp [Bd.sum, na, nb, hs])
     obtain ⟨s1, s2⟩ := Num.okB_iff.1 hs
     clear ha hb na nb
     cases hst : Bd.st a
     all_goals
      go_enter Tryz.func238, Tryz.ntmps238
      go_wp2_with (first
       | (go_at_call 42; refine (rnumber_any _ (by assumption) (by assumption) _).mono ?_; rintro e w' ⟨rfl, rfl⟩)
       | (go_at_call 177; refine (rstrict_any _ _).mono ?_; rintro e w' ⟨rfl, rfl⟩)
       | (go_at_call 187; refine (rmade_any _ _ (by omega) (by omega) _).mono ?_; rintro e w' ⟨rfl, rfl⟩)
       | (go_at_call 243; refine (may_any _ _).mono ?_; rintro e w' ⟨rfl, rfl⟩))
      go_ret2
      exact ⟨ibtup hr.out rfl (by rw [hst]; rfl), rfl⟩
theorem Bd.add_sum {a b : Int} (ha : Bd.may a = true) (hb : Bd.may b = true) : Bd.add a b = if (Bd.sum a b).2 then ((Bd.sum a b).1, 0) else (0, 10) := by
 by_cases h : a = 9223372036854775807 ∨ b = 9223372036854775807
 ·simp [Bd.add, Bd.sum, ha, hb, h]
 ·cases hs : Num.okB (a / 2 + b / 2) <;> simp [Bd.add, Bd.sum, ha, hb, h, Bd.made, hs]
end Go.Proofs.YtanhnllkccldhaaGreat
namespace Go.Proofs.YtanhnllkccldhaaGreat
set_option linter.unusedVariables false
set_option linter.unusedSimpArgs false
set_option maxRecDepth 100000
open Go.RowKit Go.Proofs.YtanhnllkccldhaaGreat.Eng Enc
namespace Dbm
def int64 (b : Int) : Prop := -9223372036854775808 ≤ b ∧ b ≤ 9223372036854775807
end Dbm
theorem atB {w0 : Base} {hp : List LB} {r L : List Nat} {w w1 : World} (h : At w0 hp r L w w1) (hL : ∀ b, b ∈ L → w.heap.size ≤ b) : Below w.heap.size w w1 :=
 ⟨h.below.os.trans h.base.os.symm, h.below.tape.trans h.base.tape.symm, h.below.output.trans h.base.output.symm, h.size, fun k hk => h.step k hk fun hm => by have := hL k hm; omega⟩
theorem rmay04_any (n : Int) (L : List Int) (hn : Dbm.int64 n) (hL : ∀ b, b ∈ L → Dbm.int64 b) (a : Option Addr) (cap : Nat) (w : World) (hS : Sl w.heap.size w (.slice a L.length cap) L) :
 Calls Tryz.prog 210 #[.agg #[.int .i64 n, .slice a L.length cap]] w fun e w' => e = .returned (.bool (decide (Dbm.chk n L = 0))) ∧ Below w.heap.size w w' := by
 refine fun_eq 0 w Tryz.func210 (args := [.agg [.val (.int .i64 n), .val (.slice a L.length cap)]]) rfl rfl ?_
 obtain ⟨_, _, hfe, hcap1, hcap2, _⟩ := hS.form
 injection hfe with _ _ hfe
 subst hfe
 unfold maxLen at hcap2
 refine NewI.mk fun b1 hb1 => ?_
 have no : ¬ (1 ≤ n ∧ n ≤ 4 ∧ (L.length : Int) = n * n ∧ L.any (fun b => !(Dbm.mayC b)) = false) → decide (Dbm.chk n L = 0) = false := fun h => decide_eq_false (fun e => h (Dbm.chk_iff.1 e))
 refine Branch.mk (fun z1 => ?_) (fun z1 => ?_)
 ·have h1 : n < 1 := of_decide_eq_true z1
  rw [no (by omega)]
  exact EndI.mk fun w9 h9 => rfl
 have h1 : ¬ n < 1 := of_decide_eq_false z1
 refine Branch.mk (fun z2 => ?_) (fun z2 => ?_)
 ·have h2 : 4 < n := of_decide_eq_true z2
  rw [no (by omega)]
  exact EndI.mk fun w9 h9 => rfl
 have h2 : ¬ 4 < n := of_decide_eq_false z2
 have hnn : 0 ≤ n * n ∧ n * n ≤ 16 := by
  have : n = 1 ∨ n = 2 ∨ n = 3 ∨ n = 4 := by omega
  rcases this with rfl | rfl | rfl | rfl <;> decide
 refine Need.mk (by simp only [inK]; omega) ?_
 refine Branch.mk (fun z3 => ?_) (fun z3 => ?_)
 ·have h3 : (L.length : Int) ≠ n * n := of_decide_eq_true z3
  rw [no (fun h => h3 h.2.2.1)]
  exact EndI.mk fun w9 h9 => rfl
 have h3 : (L.length : Int) = n * n := by have := of_decide_eq_false z3; omega
 refine LoopI.invC (α := Nat × World) (fun y => [(3, .val (.int .i64 y.1))]) (fun y => y.2) (fun y => y.1 ≤ L.length ∧ Below w.heap.size w y.2 ∧ ∀ b, b ∈ L.take y.1 → Dbm.mayC b = true) (fun y => L.length - y.1) ?_ ?_
 ·intro w1 h1
  exact ⟨(0, w1), Cov.au rfl rfl rfl rfl rfl, rfl, Nat.zero_le _, h1.below, by simp⟩
 rintro ⟨k, V⟩ ⟨hk, hV, hall⟩
 simp only at hk hV hall
 refine Branch.mk (fun z4 => ?_) (fun z4 => ?_)
 ·have hlt : k < L.length := by have := of_decide_eq_true z4; simp only at this; omega
  have hx := List.getElem?_eq_getElem (l := L) (i := k) hlt
  generalize L[k] = x at hx
  have hxi := hL x (List.mem_of_getElem? hx)
  have hSV := hS.go hV hV.size
  refine hSV.idx hx fun ad had => ?_
  refine hSV.ld1 hx had (Below.refl _ _) (by simp) ?_
  have bad : Dbm.mayC x = false → decide (Dbm.chk n L = 0) = false := fun h => no (fun h4 => by
   have := List.any_eq_false.1 h4.2.2.2 x (List.mem_of_getElem? hx)
   simp [h] at this)
  have good : Dbm.mayC x = true → ∀ b, b ∈ L.take (k + 1) → Dbm.mayC b = true := fun h b hb => by
   rw [List.take_add_one, hx] at hb
   rcases List.mem_append.1 hb with hb | hb
   ·exact hall b hb
   ·rw [List.mem_singleton.1 hb]; exact h
  refine Branch.mk (fun z5 => ?_) (fun z5 => ?_)
  ·have hne : x ≠ 9223372036854775807 := of_decide_eq_true z5
   have hmC : Dbm.mayC x = (decide (-288230376151711744 ≤ x / 2) && decide (x / 2 ≤ 288230376151711744)) := by unfold Dbm.mayC; simp [hne]
   refine CallI.to0 (fun w => rnumber_any x hxi.1 hxi.2 w) fun w2 => ?_
   refine Branch.mk (fun z6 => ?_) (fun z6 => ?_)
   ·have h6 : x / 2 < -288230376151711744 := of_decide_eq_true z6
    rw [bad (by rw [hmC]; simp; omega)]
    exact EndI.mk fun w9 h9 => rfl
   have h6 : ¬ x / 2 < -288230376151711744 := of_decide_eq_false z6
   refine CallI.to0 (fun w => rnumber_any x hxi.1 hxi.2 w) fun w3 => ?_
   refine Branch.mk (fun z7 => ?_) (fun z7 => ?_)
   ·have h7 : 288230376151711744 < x / 2 := of_decide_eq_true z7
    rw [bad (by rw [hmC]; simp; omega)]
    exact EndI.mk fun w9 h9 => rfl
   have h7 : ¬ 288230376151711744 < x / 2 := of_decide_eq_false z7
   refine Need.mk (by simp only [inK]; omega) (EndI.mk fun w9 h9 => ⟨(k + 1, w9), Cov.au rfl rfl rfl rfl rfl, rfl, ⟨hlt, h9.below, good (by rw [hmC]; simp; omega)⟩, by simp only; omega⟩)
  ·have heq : x = 9223372036854775807 := by have := of_decide_eq_false z5; simpa using this
   refine Need.mk (by simp only [inK]; omega) (EndI.mk fun w9 h9 => ⟨(k + 1, w9), Cov.au rfl rfl rfl rfl rfl, rfl, ⟨hlt, h9.below, good (by rw [heq]; decide)⟩, by simp only; omega⟩)
 ·have hge : k = L.length := by have := of_decide_eq_false z4; simp only at this; omega
  subst hge
  rw [List.take_length] at hall
  have hc : Dbm.chk n L = 0 := Dbm.chk_iff.2 ⟨by omega, by omega, h3, by rw [List.any_eq_false]; intro b hb; simp [hall b hb]⟩
  refine EndI.mk fun w9 h9 => ?_
  rw [decide_eq_true hc]
section
variable {N : Nat} {L : List Int}
theorem lim_int64 {v : Int} (h : Dbm.lim 1152921504606846976 v) : Dbm.int64 v ∧ Bd.may v = true := by
 rcases h with h | h
 ·rw [h]; exact ⟨by unfold Dbm.NO Dbm.int64; omega, by decide⟩
 ·exact ⟨by unfold Dbm.int64; omega, Bd.may_of (Num.okB_iff.2 (by omega))⟩
theorem sum_add {u v : Int} (hu : Dbm.lim 1152921504606846976 u) (hv : Dbm.lim 1152921504606846976 v) : Bd.sum u v = ((Bd.add u v).1, true) := by
 have h := Bd.add_sum (lim_int64 hu).2 (lim_int64 hv).2
 have h2 : (Bd.sum u v).2 = true := by
  unfold Bd.sum
  split
  ·rfl
  ·rename_i hn
   have hu' := hu.resolve_left (fun e => hn (.inl e))
   have hv' := hv.resolve_left (fun e => hn (.inr e))
   rw [if_pos (Num.okB_iff.2 (by omega))]
 rw [h, if_pos h2]
 exact Prod.ext rfl h2
theorem pathStep_any (h0 : Dbm.chk N L = 0) (a : Option Addr) (cap : Nat) (i j S : Nat) (hi : i < N) (hj : j < N) (hS16 : S < 16) (p : Nat → Int) (hp : ∀ k, k < N → Dbm.skip i j S k = false → Dbm.lim 1152921504606846976 (p k)) (w : World) (hS : Sl w.heap.size w (.slice a L.length cap) L)
 (hcall : ∀ k, k < N → Dbm.skip i j S k = false → ∀ w1, Sl w1.heap.size w1 (.slice a L.length cap) L → Calls Tryz.prog 227 #[.agg #[.int .i64 N, .slice a L.length cap], .int .i64 k, .int .i64 j, .int .i64 (S - 2 ^ k : Nat)] w1 fun e w' => e = .returned (.int .i64 (p k)) ∧ Below w1.heap.size w1 w') :
 Calls Tryz.prog 227 #[.agg #[.int .i64 N, .slice a L.length cap], .int .i64 i, .int .i64 j, .int .i64 S] w fun e w' => e = .returned (.int .i64 ((List.range N).foldl (Dbm.pstep (Dbm.skip i j S) (Dbm.cand N L i p)) (L[i * N + j]?.getD 0))) ∧ Below w.heap.size w w' := by
 obtain ⟨c1, c2, c3, c4⟩ := Dbm.chk_iff.1 h0
 have hN4 : N ≤ 4 := by omega
 have hLN : L.length = N * N := by exact_mod_cast c3
 have hNN : N * N ≤ 16 := Nat.mul_le_mul hN4 hN4
 refine fun_eq 0 w Tryz.func227 (args := [.agg [.val (.int .i64 N), .val (.slice a L.length cap)], .val (.int .i64 i), .val (.int .i64 j), .val (.int .i64 S)]) rfl rfl ?_
 have hpl := fun k (hk : k < N) => Dbm.place_lt (N := N) (i := i) (j := k) hi hk
 have hget := fun k (hk : k < N) => show L[i * N + k]? = some (L[i * N + k]?.getD 0) by rw [List.getElem?_eq_getElem (by rw [hLN]; exact hpl k hk)]; rfl
 have hiN : ((i : Int) * (N : Int)) = ((i * N : Nat) : Int) := (Int.natCast_mul i N).symm
 have hiN16 : i * N < 16 := by have := hpl j hj; omega
 refine NewI.mk fun b1 hb1 => ?_
 refine Need.mk (by rw [hiN]; simp only [inK]; omega) ?_
 have hpj := hpl j hj
 refine Need.mk (by rw [hiN]; simp only [inK]; omega) ?_
 refine hS.idx (k := i * N + j) (hget j hj) fun ad had => ?_
 refine hS.ld1 (k := i * N + j) (hget j hj) had (Below.refl _ _) (by simp) ?_
 refine LoopI.invC (α := (Nat × Int) × World) (fun y => [(10, .val (.int .i64 y.1.1)), (9, .val (.int .i64 y.1.2))]) (fun y => y.2) (fun y => y.1.1 ≤ N ∧ Below w.heap.size w y.2 ∧ y.1.2 = (List.range y.1.1).foldl (Dbm.pstep (Dbm.skip i j S) (Dbm.cand N L i p)) (L[i * N + j]?.getD 0)) (fun y => N - y.1.1) ?_ ?_
 ·intro w1 h1
  exact ⟨((0, L[i * N + j]?.getD 0), w1), Cov.au rfl rfl rfl rfl rfl, rfl, Nat.zero_le _, h1.below, rfl⟩
 rintro ⟨⟨k, best⟩, V⟩ ⟨hk, hV, hbest⟩
 simp only at hk hV hbest
 refine Branch.mk (fun z1 => ?_) (fun z1 => ?_)
 ·have hlt : k < N := by have := of_decide_eq_true z1; simp only at this; omega
  have hnext : (List.range (k + 1)).foldl (Dbm.pstep (Dbm.skip i j S) (Dbm.cand N L i p)) (L[i * N + j]?.getD 0) = Dbm.pstep (Dbm.skip i j S) (Dbm.cand N L i p) best k := by
   rw [List.range_succ, List.foldl_append, ← hbest]; rfl
  have hbit : bits .and .i64 ((S : Int) / 2 ^ ((k : Int).toNat)) 1 = ((S / 2 ^ k % 2 : Nat) : Int) := by
   rw [i64_and1, Int.toNat_natCast]; norm_cast
  have hsame : Dbm.skip i j S k = true → (List.range (k + 1)).foldl (Dbm.pstep (Dbm.skip i j S) (Dbm.cand N L i p)) (L[i * N + j]?.getD 0) = best := fun h => by rw [hnext]; unfold Dbm.pstep; rw [if_pos h]
  refine Need.mk (by simp only [Int.toNat_natCast, IntKind.bits]; omega) ?_
  conv => whnf
  rw [hbit]
  refine Branch.mk (fun z2 => ?_) (fun z2 => ?_)
  ·have h2 : Dbm.inS S k = false := by have := of_decide_eq_true z2; unfold Dbm.inS; simp; omega
   refine Need.mk (by simp only [inK]; omega) (EndI.mk fun w9 h9 => ⟨((k + 1, best), w9), Cov.au rfl rfl rfl rfl rfl, rfl, ⟨hlt, h9.below, (hsame (by simp [Dbm.skip, h2])).symm⟩, by simp only; omega⟩)
  have h2 : Dbm.inS S k = true := by have := of_decide_eq_false z2; unfold Dbm.inS; simp; omega
  refine Branch.mk (fun z3 => ?_) (fun z3 => ?_)
  ·have h3 : k = i := by have := of_decide_eq_true z3; simp only at this; omega
   refine Need.mk (by simp only [inK]; omega) (EndI.mk fun w9 h9 => ⟨((k + 1, best), w9), Cov.au rfl rfl rfl rfl rfl, rfl, ⟨hlt, h9.below, (hsame (by simp [Dbm.skip, h3])).symm⟩, by simp only; omega⟩)
  have h3 : k ≠ i := by have := of_decide_eq_false z3; simp only at this; omega
  refine Branch.mk (fun z4 => ?_) (fun z4 => ?_)
  ·have h4 : k = j := by have := of_decide_eq_true z4; simp only at this; omega
   refine Need.mk (by simp only [inK]; omega) (EndI.mk fun w9 h9 => ⟨((k + 1, best), w9), Cov.au rfl rfl rfl rfl rfl, rfl, ⟨hlt, h9.below, (hsame (by simp [Dbm.skip, h4])).symm⟩, by simp only; omega⟩)
  have h4 : k ≠ j := by have := of_decide_eq_false z4; simp only at this; omega
  have hsk : Dbm.skip i j S k = false := by simp [Dbm.skip, h2, h3, h4]
  have hSk : 2 ^ k ≤ S ∧ 2 ^ k ≤ 8 := by
   have key : ∀ S : Fin 16, ∀ k : Fin 4, Dbm.inS S.1 k.1 = true → 2 ^ k.1 ≤ S.1 ∧ 2 ^ k.1 ≤ 8 := by decide +kernel
   exact key ⟨S, hS16⟩ ⟨k, by omega⟩ h2
  have hpow : (2 : Int) ^ ((k : Int).toNat) = ((2 ^ k : Nat) : Int) := by rw [Int.toNat_natCast]; norm_cast
  have hc := hcall k hlt hsk
  generalize hP : 2 ^ k = P at hSk hpow hc
  have hsub : (S : Int) - 1 * (P : Int) = ((S - P : Nat) : Int) := by omega
  refine DrawI.go (.tk 0 (.tk 1 (.tk 2 (.tk 3 (.tk 4 (.tk 5 (.tk 6 (.tk 7 (.tk 8 (.tk 9 (.tk 10 (.tk 11 (.tk 12 (.tk 13 (.tk 14 (.tk 15 (.tk 16 (.ev 17 (.ev 18 (.tk 19 (.tk 20 (.tk 21 (.tk 22 (.tk 23 .done)))))))))))))))))))))))) (by kernel_rfl) fun w2 h2' => ?_
  have hpk := hpl k hlt
  have hw2 : Below w.heap.size w w2 := hV.trans (h2'.go.mono hV.size)
  have hS2 := hS.go hw2 hw2.size
  refine Need.mk (by rw [hiN]; simp only [inK]; omega) ?_
  refine Need.mk (by rw [hiN]; simp only [inK]; omega) ?_
  refine hS2.idx (k := i * N + k) (hget k hlt) fun ad2 had2 => ?_
  refine hS2.ld1 (k := i * N + k) (hget k hlt) had2 (Below.refl _ _) (by simp) ?_
  refine Need.mk (by rw [hpow]; simp only [Int.toNat_natCast, IntKind.bits, inK]; omega) ?_
  conv => whnf
  rw [hpow]
  refine Need.mk (by rw [hsub]; simp only [inK]; omega) ?_
  conv => whnf
  rw [hsub]
  apply CallI.use1
  focus (exact fun w3 h3 => hc w3 (hS.go h3.below h3.below.size))
  intro w3 v3 h3' hB3
  have hlu : Dbm.lim 1152921504606846976 (L[i * N + k]?.getD 0) := Dbm.lim_mono (Dbm.chk_lim h0 (i * N + k) (by rw [hLN]; exact hpk)) (by omega)
  have hlp := hp k hlt hsk
  have hsum := fun w => rbsum_any (L[i * N + k]?.getD 0) (p k) (lim_int64 hlu).2 (lim_int64 hlp).2 (lim_int64 hlu).1.1 (lim_int64 hlu).1.2 (lim_int64 hlp).1.1 (lim_int64 hlp).1.2 w
  rw [sum_add hlu hlp] at hsum
  refine CallI.to0 (fun w => hsum w) fun w4 => ?_
  refine Branch.yes rfl ?_
  refine Branch.mk (fun z5 => ?_) (fun z5 => ?_)
  ·have h5 : Dbm.cand N L i p k < best := of_decide_eq_true z5
   refine Need.mk (by simp only [inK]; omega) (EndI.mk fun w9 h9 => ⟨((k + 1, Dbm.cand N L i p k), w9), Cov.au rfl rfl rfl rfl rfl, rfl, ⟨hlt, h9.below, ?_⟩, by simp only; omega⟩)
   simp only
   rw [hnext]; unfold Dbm.pstep; rw [if_neg (by simp [hsk]), if_pos h5]
  ·have h5 : ¬ Dbm.cand N L i p k < best := of_decide_eq_false z5
   refine Need.mk (by simp only [inK]; omega) (EndI.mk fun w9 h9 => ⟨((k + 1, best), w9), Cov.au rfl rfl rfl rfl rfl, rfl, ⟨hlt, h9.below, ?_⟩, by simp only; omega⟩)
   simp only
   rw [hnext]; unfold Dbm.pstep; rw [if_neg (by simp [hsk]), if_neg h5]
 ·have hge : k = N := by have := of_decide_eq_false z1; simp only at this; omega
  subst hge
  refine EndI.mk fun w9 h9 => ?_
  rw [hbest]
theorem path_any (h0 : Dbm.chk N L = 0) (a : Option Addr) (cap : Nat) : ∀ (f i j S : Nat), i < N → j < N → S < 16 → Dbm.inS S i = false → Dbm.pc S ≤ f → ∀ w, Sl w.heap.size w (.slice a L.length cap) L →
 Calls Tryz.prog 227 #[.agg #[.int .i64 N, .slice a L.length cap], .int .i64 i, .int .i64 j, .int .i64 S] w fun e w' => e = .returned (.int .i64 (Dbm.pth N L f i j S)) ∧ Below w.heap.size w w'
 | 0, i, j, S, hi, hj, hS, hiS, hf, w, hSl => by
   obtain ⟨c1, c2, c3, c4⟩ := Dbm.chk_iff.1 h0
   have hsk : ∀ k, k < N → Dbm.skip i j S k = true := fun k hk => by
    have := Dbm.inS_zero hS (by omega) (show k < 4 by omega)
    simp [Dbm.skip, this]
   have hno : ∀ k, k < N → Dbm.skip i j S k = false → False := fun k hk h => by rw [hsk k hk] at h; cases h
   have hfold : ∀ n, n ≤ N → (List.range n).foldl (Dbm.pstep (Dbm.skip i j S) (Dbm.cand N L i fun _ => 0)) (L[i * N + j]?.getD 0) = L[i * N + j]?.getD 0 := by
    intro n
    induction n with
    | zero => intro _; rfl
    | succ n ih =>
      intro hn
      rw [List.range_succ, List.foldl_append, ih (by omega)]
      show Dbm.pstep _ _ _ n = _
      unfold Dbm.pstep; rw [if_pos (hsk n (by omega))]
   have h := pathStep_any h0 a cap i j S hi hj hS (fun _ => 0) (fun k hk h => (hno k hk h).elim) w hSl (fun k hk h => (hno k hk h).elim)
   rw [hfold N (Nat.le_refl _)] at h
   exact h
 | f + 1, i, j, S, hi, hj, hS, hiS, hf, w, hSl => by
   obtain ⟨c1, c2, c3, c4⟩ := Dbm.chk_iff.1 h0
   have hin : ∀ k, k < N → Dbm.skip i j S k = false → Dbm.inS S k = true ∧ Dbm.inS (S - 2 ^ k) k = false ∧ Dbm.pc (S - 2 ^ k) ≤ f := fun k hk h => by
    have h1 : Dbm.inS S k = true := by unfold Dbm.skip at h; simp at h; exact h.1.1
    have h2 := Dbm.inS_less (a := k) h1 hS (by omega) (by omega)
    refine ⟨h1, ?_, by omega⟩
    cases hh : Dbm.inS (S - 2 ^ k) k with
    | false => rfl
    | true => exact absurd rfl ((h2.1.1 hh).2)
   exact pathStep_any h0 a cap i j S hi hj hS (fun k => Dbm.pth N L f k j (S - 2 ^ k)) (fun k hk h => (Dbm.pth_ok h0 f k j (S - 2 ^ k) hk hj (Nat.lt_of_le_of_lt (Nat.sub_le _ _) hS) (hin k hk h).2.1).lim) w hSl
    (fun k hk h w1 hS1 => path_any h0 a cap f k j (S - 2 ^ k) hk hj (Nat.lt_of_le_of_lt (Nat.sub_le _ _) hS) (hin k hk h).2.1 (hin k hk h).2.2 w1 hS1)
end
namespace Dbm
def ent (N : Nat) (L : List Int) (q : Nat) : Int := if q / N = q % N then 1 else pth N L N (q / N) (q % N) (full N (q / N))
def ents (N : Nat) (L : List Int) (p : Nat) : List Int := (List.range p).map (ent N L)
theorem ents_len (N : Nat) (L : List Int) (p : Nat) : (ents N L p).length = p := by simp [ents]
theorem ents_succ (N : Nat) (L : List Int) (p : Nat) : ents N L (p + 1) = ents N L p ++ [ent N L p] := by simp [ents, List.range_succ]
def rc (N : Nat) (L : List Int) : Int × List Int × Bool := match closeL N L with | some C => (N, C, true) | none => (0, [], false)
theorem rc_no {N : Nat} {L : List Int} (h0 : chk N L = 0) {i : Nat} (hi : i < N) (h : pth N L N i i (full N i) < 1) : rc N L = (0, [], false) := by
 have : closedR N L = none := by
  unfold closedR
  rw [if_neg]
  intro hall
  have := (List.all_eq_true.1 hall) i (List.mem_range.2 hi)
  simp at this; omega
 unfold rc; rw [← closedR_eq h0, this]
theorem rc_yes {N : Nat} {L : List Int} (h0 : chk N L = 0) (h : ∀ i, i < N → 1 ≤ pth N L N i i (full N i)) : rc N L = ((N : Int), ents N L (N * N), true) := by
 have : closedR N L = some (ents N L (N * N)) := by
  unfold closedR
  rw [if_pos (by rw [List.all_eq_true]; intro i hi; simpa using h i (List.mem_range.1 hi))]
  rfl
 unfold rc; rw [← closedR_eq h0, this]
theorem full_bits {N i : Nat} (hN : N ≤ 4) (hi : i < N) : bits .andNot .i64 (1 * 2 ^ ((N : Int).toNat) - 1) (1 * 2 ^ ((i : Int).toNat)) = ((full N i : Nat) : Int) ∧ full N i ≤ 15 := by
 have key : ∀ N : Fin 5, ∀ i : Fin 4, i.1 < N.1 → bits .andNot .i64 (1 * 2 ^ (((N.1 : Nat) : Int).toNat) - 1) (1 * 2 ^ (((i.1 : Nat) : Int).toNat)) = ((full N.1 i.1 : Nat) : Int) ∧ full N.1 i.1 ≤ 15 := by decide +kernel
 exact key ⟨N, by omega⟩ ⟨i, by omega⟩ hi
theorem shl_one {N : Nat} (hN : N ≤ 4) : (1 : Int) * 2 ^ ((N : Int).toNat) ≤ 16 ∧ 1 ≤ (1 : Int) * 2 ^ ((N : Int).toNat) := by
 have key : ∀ N : Fin 5, (1 : Int) * 2 ^ (((N.1 : Nat) : Int).toNat) ≤ 16 ∧ 1 ≤ (1 : Int) * 2 ^ (((N.1 : Nat) : Int).toNat) := by decide +kernel
 exact key ⟨N, by omega⟩
end Dbm
section
variable {N : Nat} {L : List Int}
theorem rclosed_any (h0 : Dbm.chk N L = 0) (a : Option Addr) (cap : Nat) (w : World) (hS : Sl w.heap.size w (.slice a L.length cap) L) :
 Calls Tryz.prog 211 #[.agg #[.int .i64 N, .slice a L.length cap]] w (Ret w fun v w' => ∃ a' c', v = .tuple #[.agg #[.int .i64 (Dbm.rc N L).1, .slice a' (Dbm.rc N L).2.1.length c'], .bool (Dbm.rc N L).2.2] ∧ Own 84 w.heap.size w' (.slice a' (Dbm.rc N L).2.1.length c') (Dbm.rc N L).2.1) := by
 obtain ⟨c1, c2, c3, c4⟩ := Dbm.chk_iff.1 h0
 have hN4 : N ≤ 4 := by omega
 have hLN : L.length = N * N := by exact_mod_cast c3
 have hNN : N * N ≤ 16 := Nat.mul_le_mul hN4 hN4
 refine fun_ret 0 w Tryz.func211 (args := [.agg [.val (.int .i64 N), .val (.slice a L.length cap)]]) rfl rfl ?_
 refine NewI.mk fun b1 hb1 => ?_
 refine NewI.mk fun b2 hb2 => ?_
 refine NewI.mk fun b3 hb3 => ?_
 obtain ⟨X, hX1, hX2, hX3, hXw, hXm⟩ : ∃ X, b1 < X ∧ b2 < X ∧ b3 < X ∧ w.heap.size ≤ X ∧ ∀ n, b1 < n → b2 < n → b3 < n → w.heap.size ≤ n → X ≤ n := ⟨max (max (max b1 b2) b3 + 1) w.heap.size, by omega, by omega, by omega, by omega, fun n h1 h2 h3 h4 => by omega⟩
 refine LoopI.inv (α := Nat × World × Value) (fun y => [(5, .val (.int .i64 y.1))]) (fun y => [⟨[.val (.int .i64 N), .val (.slice a L.length cap)], 81⟩, ⟨[.val (.int .i64 0), .val (.slice none 0 0)], 81⟩, ⟨[.val (.int .i64 N), .val y.2.2], 81⟩]) (fun y => y.2.1)
  (fun y => y.1 ≤ N ∧ Below w.heap.size w y.2.1 ∧ X ≤ y.2.1.heap.size ∧ Own 84 X y.2.1 y.2.2 (Dbm.ents N L (y.1 * N)) ∧ ∀ i, i < y.1 → 1 ≤ Dbm.pth N L N i i (Dbm.full N i)) (fun y => N - y.1) ?_ ?_
 ·intro w1 h1
  exact ⟨(0, w1, .slice none 0 0), Cov.au rfl rfl rfl rfl rfl, rfl, Nat.zero_le _, h1.below, hXm _ (h1.lt b1 (by simp)) (h1.lt b2 (by simp)) (h1.lt b3 (by simp)) h1.below.size, by simp only [Nat.zero_mul]; exact Own.nil, fun i hi => by simp at hi⟩
 rintro ⟨i, V, sv⟩ ⟨hi, hV, hXV, hO, hd⟩
 simp only at hi hV hXV hO hd
 refine Branch.mk (fun z1 => ?_) (fun z1 => ?_)
 ·have hiN : i < N := by have := of_decide_eq_true z1; simp only at this; omega
  refine LoopI.inv (α := Nat × World × Value) (fun y => [(6, .val (.int .i64 y.1))]) (fun y => [⟨[.val (.int .i64 N), .val (.slice a L.length cap)], 81⟩, ⟨[.val (.int .i64 0), .val (.slice none 0 0)], 81⟩, ⟨[.val (.int .i64 N), .val y.2.2], 81⟩]) (fun y => y.2.1)
   (fun y => y.1 ≤ N ∧ Below w.heap.size w y.2.1 ∧ X ≤ y.2.1.heap.size ∧ Own 84 X y.2.1 y.2.2 (Dbm.ents N L (i * N + y.1)) ∧ (i < y.1 → 1 ≤ Dbm.pth N L N i i (Dbm.full N i))) (fun y => N - y.1) ?_ ?_
  ·intro w1 h1
   exact ⟨(0, w1, sv), Cov.au rfl rfl rfl rfl rfl, rfl, Nat.zero_le _, h1.below, Nat.le_trans hXV h1.size, hO.at h1 (by simp), fun h => by simp at h⟩
  rintro ⟨j, U, tv⟩ ⟨hj, hU, hXU, hO2, hd2⟩
  simp only at hj hU hXU hO2 hd2
  refine Branch.mk (fun z2 => ?_) (fun z2 => ?_)
  ·have hjN : j < N := by have := of_decide_eq_true z2; simp only at this; omega
   obtain ⟨fb, fb15⟩ := Dbm.full_bits hN4 hiN
   obtain ⟨f1, f2, f3, _⟩ := Dbm.full_ok (N := N) (i := i) hN4 hiN
   have sN := Dbm.shl_one hN4
   have si := Dbm.shl_one (N := i) (by omega)
   refine DrawI.go (.tk 0 (.tk 1 (.tk 2 (.tk 3 (.tk 4 (.tk 5 (.tk 6 (.tk 7 .done)))))))) (by kernel_rfl) fun w2 h2 => ?_
   refine Need.mk ⟨by omega, by simp only [Int.toNat_natCast, IntKind.bits]; omega, by simp only [inK]; omega⟩ ?_
   refine Need.mk (by simp only [inK]; omega) ?_
   refine Need.mk ⟨by simp only; omega, by simp only [Int.toNat_natCast, IntKind.bits]; omega, by simp only [inK]; omega⟩ ?_
   conv => whnf
   rw [fb]
   apply CallI.use1
   focus (exact fun w3 h3 => path_any h0 a cap N i j (Dbm.full N i) hiN hjN f1 f2 f3 w3 (hS.go h3.below h3.below.size))
   intro w3 v3 h3 hB3
   have hv3 : Below w.heap.size w v3 := h3.below.trans (hB3.mono h3.below.size)
   have hO3 := (hO2.below ((atB h2 (by simp)))).below (atB h3 (by simp)) |>.below hB3
   have hXv3 : X ≤ v3.heap.size := Nat.le_trans hXU (Nat.le_trans h2.size (Nat.le_trans h3.size hB3.size))
   have hq1 : (i * N + j) / N = i := Dbm.place_div hjN
   have hq2 : (i * N + j) % N = j := Dbm.place_mod hjN
   have hpl : i * N + j < N * N := Dbm.place_lt hiN hjN
   have hb1 : b1 < v3.heap.size := by omega
   refine Branch.mk (fun z3 => ?_) (fun z3 => ?_)
   ·have hij : i = j := by have := of_decide_eq_true z3; simp only at this; omega
    refine Branch.mk (fun z4 => ?_) (fun z4 => ?_)
    ·have hlt1 := of_decide_eq_true z4
     rw [Dbm.rc_no h0 hiN (by rw [← hij] at hlt1; exact hlt1)]
     exact EndI.mk fun w9 h9 => ⟨_, _, rfl, Own.nil⟩
    have hge1 : 1 ≤ Dbm.pth N L N i i (Dbm.full N i) := by have := of_decide_eq_false z4; rw [← hij] at this; omega
    have hent : Dbm.ent N L (i * N + j) = 1 := by unfold Dbm.ent; rw [hq1, hq2, if_pos hij]
    have hes : Dbm.ents N L (i * N + (j + 1)) = Dbm.ents N L (i * N + j) ++ [1] := by rw [← Nat.add_assoc, Dbm.ents_succ, hent]
    refine NewI.mk fun b5 hb5 => ?_
    have hb5' : v3.heap.size ≤ b5 := hb5
    have hr : ∀ g, tv.ownBlock = some g → w.heap.size ≤ g ∧ g ∉ [b1, b2, b3, b5] := fun g hg => by
     have := hO3.lt g hg
     refine ⟨Nat.le_trans hXw this.1, fun hm => ?_⟩
     simp only [List.mem_cons, List.not_mem_nil, or_false] at hm
     omega
    refine GenN.app (α := Int) elB (Dbm.ents N L (i * N + j)) [(1 : Int)] X (fun w5 h5 => hO3.below h5.go) (fun w5 h5 => src_own h5 3 rfl rfl rfl rfl) (by rw [Dbm.ents_len]; unfold maxLen; simp; omega) (by rw [Dbm.ents_len]; simp; omega) (fun w5 h5 => Nat.le_trans hXv3 h5.size)
     (fun w5 w6 h5 hg => keep_grown h5 hg hr) fun sv' w5 w6 h5 hg hO' => ?_
    obtain ⟨a', c', rfl⟩ := hO'.form
    rw [← hes] at hO' ⊢
    have hX6 : X ≤ w6.heap.size := Nat.le_trans hXv3 (Nat.le_trans h5.size hg.size)
    refine Need.mk (by simp only [inK]; omega) (EndI.mk fun w7 h7 => ⟨(j + 1, w7, .slice a' (Dbm.ents N L (i * N + (j + 1))).length c'), Cov.au rfl rfl rfl rfl rfl, rfl, ⟨hjN, h7.below, Nat.le_trans hX6 h7.size, ?_, fun h => hge1⟩, by simp only; omega⟩)
    exact hO'.at h7 (by intro b hb; simp at hb; subst hb; exact hX3)
   ·have hij : i ≠ j := by have := of_decide_eq_false z3; simp only at this; omega
    have hent : Dbm.ent N L (i * N + j) = Dbm.pth N L N i j (Dbm.full N i) := by unfold Dbm.ent; rw [hq1, hq2, if_neg hij]
    have hes : Dbm.ents N L (i * N + (j + 1)) = Dbm.ents N L (i * N + j) ++ [Dbm.pth N L N i j (Dbm.full N i)] := by rw [← Nat.add_assoc, Dbm.ents_succ, hent]
    refine NewI.mk fun b5 hb5 => ?_
    have hb5' : v3.heap.size ≤ b5 := hb5
    have hr : ∀ g, tv.ownBlock = some g → w.heap.size ≤ g ∧ g ∉ [b1, b2, b3, b5] := fun g hg => by
     have := hO3.lt g hg
     refine ⟨Nat.le_trans hXw this.1, fun hm => ?_⟩
     simp only [List.mem_cons, List.not_mem_nil, or_false] at hm
     omega
    refine GenN.app (α := Int) elB (Dbm.ents N L (i * N + j)) [Dbm.pth N L N i j (Dbm.full N i)] X (fun w5 h5 => hO3.below h5.go) (fun w5 h5 => src_own h5 3 rfl rfl rfl rfl) (by rw [Dbm.ents_len]; unfold maxLen; simp; omega) (by rw [Dbm.ents_len]; simp; omega) (fun w5 h5 => Nat.le_trans hXv3 h5.size)
     (fun w5 w6 h5 hg => keep_grown h5 hg hr) fun sv' w5 w6 h5 hg hO' => ?_
    obtain ⟨a', c', rfl⟩ := hO'.form
    rw [← hes] at hO' ⊢
    have hX6 : X ≤ w6.heap.size := Nat.le_trans hXv3 (Nat.le_trans h5.size hg.size)
    refine Need.mk (by simp only [inK]; omega) (EndI.mk fun w7 h7 => ⟨(j + 1, w7, .slice a' (Dbm.ents N L (i * N + (j + 1))).length c'), Cov.au rfl rfl rfl rfl rfl, rfl, ⟨hjN, h7.below, Nat.le_trans hX6 h7.size, ?_, fun h => hd2 (by simp only at h; omega)⟩, by simp only; omega⟩)
    exact hO'.at h7 (by intro b hb; simp at hb; subst hb; exact hX3)
  ·have hge : j = N := by have := of_decide_eq_false z2; simp only at this; omega
   subst hge
   have hnx : i * j + j = (i + 1) * j := by rw [Nat.add_mul, Nat.one_mul]
   refine Need.mk (by simp only [inK]; omega) (EndI.mk fun w9 h9 => ⟨(i + 1, w9, tv), Cov.au rfl rfl rfl rfl rfl, rfl, ⟨hiN, h9.below, Nat.le_trans hXU h9.size, ?_, fun k hk => ?_⟩, by simp only; omega⟩)
   ·simp only; rw [← hnx]; exact hO2.at h9 (by simp)
   ·by_cases hki : k = i
    ·subst hki; exact hd2 hiN
    ·exact hd k (by simp only at hk; omega)
 ·have hge : i = N := by have := of_decide_eq_false z1; simp only at this; omega
  subst hge
  rw [Dbm.rc_yes h0 hd]
  obtain ⟨a', c', rfl⟩ := hO.form
  refine EndI.mk fun w9 h9 => ⟨a', c', rfl, ?_⟩
  exact (hO.at h9 (by intro b hb; simp at hb; subst hb; exact hX2)).lower hXw
end
end Go.Proofs.YtanhnllkccldhaaGreat
namespace Go.Proofs.YtanhnllkccldhaaGreat
set_option linter.unusedVariables false
namespace Dbm
def lessr (L M : List Int) : List Int := (List.range L.length).map fun q => min (L[q]?.getD 0) (M[q]?.getD 0)
theorem lessr_len (L M : List Int) : (lessr L M).length = L.length := by simp [lessr]
def lessTo (L M : List Int) (k : Nat) : List Int := (List.range L.length).map fun q => if q < k then min (L[q]?.getD 0) (M[q]?.getD 0) else L[q]?.getD 0
theorem lessTo_len (L M : List Int) (k : Nat) : (lessTo L M k).length = L.length := by simp [lessTo]
theorem lessTo_zero (L M : List Int) : lessTo L M 0 = L := by
 apply List.ext_getElem
 ·simp [lessTo]
 ·intro i h1 h2; simp [lessTo, h2]
theorem lessTo_all (L M : List Int) : lessTo L M L.length = lessr L M := by
 unfold lessTo lessr
 exact List.map_congr_left fun q hq => by rw [if_pos (List.mem_range.1 hq)]
theorem lessTo_get (L M : List Int) {k : Nat} (hk : k < L.length) : (lessTo L M k)[k]?.getD 0 = L[k]?.getD 0 := by
 unfold lessTo
 rw [List.getElem?_map, List.getElem?_range hk]
 simp
theorem lessTo_succ (L M : List Int) {k : Nat} (hk : k < L.length) : lessTo L M (k + 1) = (lessTo L M k).set k (min (L[k]?.getD 0) (M[k]?.getD 0)) := by
 apply List.ext_getElem
 ·simp [lessTo]
 ·intro i h1 h2
  have hi : i < L.length := by simpa [lessTo] using h1
  rw [List.getElem_set]
  simp only [lessTo, List.getElem_map, List.getElem_range]
  by_cases e : k = i
  ·subst e; rw [if_pos rfl, if_pos (by omega)]
  ·rw [if_neg e]
   by_cases h : i < k
   ·rw [if_pos h, if_pos (by omega)]
   ·rw [if_neg h, if_neg (by omega)]
end Dbm
namespace Tg
end Tg
end Go.Proofs.YtanhnllkccldhaaGreat
namespace Go.Proofs.YtanhnllkccldhaaGreat
set_option linter.unusedVariables false
set_option linter.unusedSimpArgs false
set_option maxRecDepth 100000
open Go.RowKit Go.Proofs.YtanhnllkccldhaaGreat.Eng Enc
theorem ld1_row {n : Nat} {W w : World} {L : List Nat} {a : Option Addr} {ad : Addr} {m cap : Nat} {l : List Int} (h : Sl n W (.slice a m cap) l) {k : Nat} {x : Int} (hk : l[k]? = some x) (had : a = some ad) (hB : Below n W w) (hL : ∀ b, b ∈ L → n ≤ b) {K : Value → Prop} (hK : K (.int .i64 x)) :
 LoadI w L (ad.add ((k : Int).toNat * 1)) K := by
 subst had
 obtain ⟨h1, h2⟩ := h.cell hk hB
 have h3 := h2 0 (.int .i64 x) rfl
 have e0 : ∀ q : Addr, q.add 0 = q := fun q => by simp [Addr.add]
 rw [e0] at h3
 refine ⟨⟨_, ⟨h3, fun e => ?_⟩, hK⟩⟩
 have hb : (ad.add ((k : Int).toNat * 1)).block = ad.block := by unfold Addr.add; split <;> rfl
 rw [hb] at e
 have := hL _ e; omega
theorem rtwin_any (n : Int) (a : Option Addr) (cap : Nat) (L : List Int) (hlen : L.length ≤ 1000000) (w : World) (hS : Sl w.heap.size w (.slice a L.length cap) L) :
 Calls Tryz.prog 248 #[.agg #[.int .i64 n, .slice a L.length cap]] w (Ret w fun v w' => ∃ a' c', v = .agg #[.int .i64 n, .slice a' L.length c'] ∧ Own TB w.heap.size w' (.slice a' L.length c') L) := by
 refine fun_ret 0 w Tryz.func248 (args := [.agg [.val (.int .i64 n), .val (.slice a L.length cap)]]) rfl rfl ?_
 refine NewI.mk fun b1 hb1 => ?_
 refine NewI.mk fun b2 hb2 => ?_
 refine DrawI.wr (.tk 0 (.tk 1 (.tk 2 (.tk 3 (.ev 4 (.tk 5 (.ev 6 .done))))))) [1] [] (by kernel_rfl) rfl (by simp) fun w1 h1 => ?_
 have hlb : ∀ b, b ∈ [b1, b2] → b < w1.heap.size := fun b hb => h1.lt b hb
 refine GenN.app (α := Int) elB [] L w1.heap.size (fun w5 h5 => Own.nil) (fun w5 h5 => (hS.go h5.below h5.below.size).src) (by unfold maxLen; simp; omega) (by simp; omega) (fun w5 h5 => h5.size) (fun w5 w6 h5 hg => kpD_grown h5 hg (fun k hk => by cases hk)) fun v1 w5 w6 h5 hg hO1 => ?_
 rw [List.nil_append] at hO1
 obtain ⟨a1, c1, rfl⟩ := hO1.form
 refine EndI.mk fun w9 h9 => ⟨a1, c1, rfl, ?_⟩
 exact (hO1.at h9 (by intro b hb; rw [List.mem_singleton.1 hb]; exact hlb b2 (by simp))).lower h1.below.size
theorem rlesser_any (n m : Int) (a b : Option Addr) (cap cb : Nat) (L M : List Int) (hpos : 0 < L.length) (hlen : L.length ≤ 1000000) (hLM : L.length ≤ M.length) (w : World) (hS : Sl w.heap.size w (.slice a L.length cap) L) (hT : Sl w.heap.size w (.slice b M.length cb) M) :
 Calls Tryz.prog 247 #[.agg #[.int .i64 n, .slice a L.length cap], .agg #[.int .i64 m, .slice b M.length cb]] w (Ret w fun v w' => ∃ a' c', v = .agg #[.int .i64 n, .slice a' (Dbm.lessr L M).length c'] ∧ Sl w'.heap.size w' (.slice a' (Dbm.lessr L M).length c') (Dbm.lessr L M)) := by
 refine fun_ret 0 w Tryz.func247 (args := [.agg [.val (.int .i64 n), .val (.slice a L.length cap)], .agg [.val (.int .i64 m), .val (.slice b M.length cb)]]) rfl rfl ?_
 refine NewI.mk fun b1 hb1 => ?_
 refine NewI.mk fun b2 hb2 => ?_
 refine NewI.mk fun b3 hb3 => ?_
 apply CallI.use
 focus (exact fun w3 h3 => rtwin_any n a cap L hlen w3 (hS.go h3.below h3.below.size))
 rintro v w3 w4 h3 hB4 ⟨a', cap', rfl, hO⟩
 have hgb : ∀ b, b ∈ [b1, b2, b3] → b < w3.heap.size := fun b hb => h3.lt b hb
 have hwb : w.heap.size ≤ w3.heap.size := h3.below.size
 refine NewI.mk fun b4 hb4 => ?_
 have hb4' : w4.heap.size ≤ b4 := hb4
 obtain ⟨g, rfl, hg, hr⟩ := hO.row hpos
 obtain ⟨_, ⟨h0, _⟩ | ⟨g', c', cur', e0, _, hgc, hlc, hm, hs, _⟩⟩ := id hO
 ·cases h0
 injection e0 with e0 e1 e2
 injection e0 with e0; injection e0 with e0; subst e0; subst e2
 have hglt := hr.lt
 have hgr : ∀ b, b ∈ [b1, b2, b3, b4] → b ≠ g := fun b hb e => by
  simp only [List.mem_cons, List.not_mem_nil, or_false] at hb
  have h1 := hgb b1 (by simp)
  have h2 := hgb b2 (by simp)
  have h3 := hgb b3 (by simp)
  omega
 have hgw : w.heap.size ≤ g := Nat.le_trans hwb hg
 have hw4 : Below w.heap.size w w4 := h3.below.trans (hB4.mono hwb)
 refine LoopI.invC (α := Nat × World) (fun y => [(6, .val (.int .i64 y.1))]) (fun y => y.2) (fun y => y.1 ≤ L.length ∧ Below w.heap.size w y.2 ∧ RowAt TB y.2 g (Dbm.lessTo L M y.1)) (fun y => L.length - y.1) ?_ ?_
 ·intro w5 h5
  exact ⟨(0, w5), Cov.au rfl rfl rfl rfl rfl, rfl, Nat.zero_le _, h5.below, by simp only [Dbm.lessTo_zero]; exact hr.at h5 (fun hm => by simp at hm; exact hgr b4 (by simp) hm.symm)⟩
 rintro ⟨k, V⟩ ⟨hk, hV, hR⟩
 simp only at hk hV hR
 have hll := Dbm.lessTo_len L M k
 refine Branch.mk (fun z1 => ?_) (fun z1 => ?_)
 ·have hlt : k < L.length := by have := of_decide_eq_true z1; simp only at this; omega
  have hy := List.getElem?_eq_getElem (l := M) (i := k) (by omega)
  generalize hyv : M[k]'(by omega) = y at hy
  have hM : M[k]?.getD 0 = y := by rw [hy]; rfl
  have hTV := hT.go hV hV.size
  refine DrawI.go (.tk 0 (.tk 1 (.tk 2 (.tk 3 (.tk 4 (.tk 5 (.tk 6 (.tk 7 (.tk 8 (.tk 9 (.tk 10 .done))))))))))) (by kernel_rfl) fun w5 h5 => ?_
  have r5 := hR.at h5 (by simp)
  have hT5 := hTV.go h5.go h5.size
  refine hT5.idx hy fun ad had => ?_
  refine hT5.ld1 hy had (Below.refl _ _) (by simp) ?_
  refine IdxI.mk ⟨_, ⟨rfl, by simp only; omega, by simp only; omega⟩, ?_⟩
  have ead : (⟨g, 0, none⟩ : Addr).add ((k : Int).toNat * 1) = ⟨g, k, none⟩ := by simp [addr_addL]
  refine LoadI.mk ⟨_, ⟨by rw [show ((⟨g, 0, none⟩ : Addr).add ((((k, V).1 : Nat) : Int).toNat * 1)) = ⟨g, k, none⟩ from ead]; exact r5.cell (j := k) (by omega), by simp⟩, ?_⟩
  rw [Dbm.lessTo_get L M hlt]
  refine Branch.mk (fun z2 => ?_) (fun z2 => ?_)
  ·have hlt2 : y < L[k]?.getD 0 := of_decide_eq_true z2
   refine DrawI.wr (.tk 0 (.tk 1 (.tk 2 (.tk 3 (.tk 4 (.tk 5 (.tk 6 (.tk 7 (.tk 8 (.ev 9 .done)))))))))) [] [g] (by kernel_rfl) rfl (fun b hb h => hgr b hb (by simpa using h)) fun w6 h6 => ?_
   have r6 := r5.at h6 (by simp)
   have hT6 := hT5.go h6.go h6.size
   refine hT6.idx hy fun ad2 had2 => ?_
   refine ld1_row hT hy had2 h6.below (fun b hb => by rw [List.mem_singleton.1 hb]; exact hgw) ?_
   refine IdxI.mk ⟨_, ⟨rfl, by simp only; omega, by simp only; omega⟩, ?_⟩
   refine StoreI.mk fun w7 h7 => ?_
   have r7 := r6.at h7 (by simp)
   rw [show ((⟨g, 0, none⟩ : Addr).add ((((k, V).1 : Nat) : Int).toNat * 1)) = ⟨g, k, none⟩ from ead]
   refine ⟨⟨⟨_, r7.cell (j := k) (by omega)⟩, r7.frozen _⟩, Zo.kpD_set hgw hgr (by simp [locs]), ?_⟩
   refine Need.mk (by simp only [inK]; omega) (EndI.mk fun w9 h9 => ⟨(k + 1, w9), Cov.au rfl rfl rfl rfl rfl, rfl, ⟨hlt, h9.below, ?_⟩, by simp only; omega⟩)
   show RowAt TB w9 g (Dbm.lessTo L M (k + 1))
   rw [Dbm.lessTo_succ L M hlt, hM, show min (L[k]?.getD 0) y = y by omega]
   exact (r7.set (by omega) _).at h9 (by simp)
  ·have hge2 : ¬ y < L[k]?.getD 0 := of_decide_eq_false z2
   refine Need.mk (by simp only [inK]; omega) (EndI.mk fun w9 h9 => ⟨(k + 1, w9), Cov.au rfl rfl rfl rfl rfl, rfl, ⟨hlt, h9.below, ?_⟩, by simp only; omega⟩)
   show RowAt TB w9 g (Dbm.lessTo L M (k + 1))
   have e1 : Dbm.lessTo L M (k + 1) = Dbm.lessTo L M k := by
    rw [Dbm.lessTo_succ L M hlt, hM, show min (L[k]?.getD 0) y = L[k]?.getD 0 by omega]
    apply List.ext_getElem?
    intro i
    by_cases e : i = k
    ·subst e
     have h1 : (Dbm.lessTo L M i)[i]? = some ((Dbm.lessTo L M i)[i]?.getD 0) := by rw [List.getElem?_eq_getElem (by omega)]; rfl
     rw [List.getElem?_set_self (by omega), h1, Dbm.lessTo_get L M hlt]
    ·rw [List.getElem?_set_ne (fun h => e h.symm)]
   rw [e1]
   exact r5.at h9 (by simp)
 ·have hge : k = L.length := by have := of_decide_eq_false z1; simp only at this; omega
  subst hge
  rw [Dbm.lessTo_all] at hR
  have hlr := Dbm.lessr_len L M
  refine EndI.mk fun w9 h9 => ⟨_, cap', by rw [hlr], ?_⟩
  exact Fresh.sl (e := TB) (base := w.heap.size) (.inr ⟨g, cap', rfl, by omega, hm, hgw, hR.at h9 (fun hm => hgr b3 (by simp) (List.mem_singleton.1 hm).symm)⟩)
theorem rcommon_any (N : Nat) (m : Int) (a b : Option Addr) (cap cb : Nat) (L M : List Int) (h0 : Dbm.chk N (Dbm.lessr L M) = 0) (hLM : L.length ≤ M.length) (w : World) (hS : Sl w.heap.size w (.slice a L.length cap) L) (hT : Sl w.heap.size w (.slice b M.length cb) M) :
 Calls Tryz.prog 245 #[.agg #[.int .i64 N, .slice a L.length cap], .agg #[.int .i64 m, .slice b M.length cb]] w (Ret w fun v w' => ∃ a' c', v = .tuple #[.agg #[.int .i64 (Dbm.rc N (Dbm.lessr L M)).1, .slice a' (Dbm.rc N (Dbm.lessr L M)).2.1.length c'], .bool (Dbm.rc N (Dbm.lessr L M)).2.2] ∧ Own TB w.heap.size w' (.slice a' (Dbm.rc N (Dbm.lessr L M)).2.1.length c') (Dbm.rc N (Dbm.lessr L M)).2.1) := by
 obtain ⟨c1, c2, c3, c4⟩ := Dbm.chk_iff.1 h0
 have hlr := Dbm.lessr_len L M
 have hN : N = 1 ∨ N = 2 ∨ N = 3 ∨ N = 4 := by omega
 have hLpos : 0 < L.length ∧ L.length ≤ 16 := by rcases hN with rfl | rfl | rfl | rfl <;> simp at c3 <;> omega
 refine fun_ret 0 w Tryz.func245 (args := [.agg [.val (.int .i64 N), .val (.slice a L.length cap)], .agg [.val (.int .i64 m), .val (.slice b M.length cb)]]) rfl rfl ?_
 refine NewI.mk fun b1 hb1 => ?_
 refine NewI.mk fun b2 hb2 => ?_
 refine NewI.mk fun b3 hb3 => ?_
 apply CallI.use
 focus (exact fun w1 h1 => rlesser_any N m a b cap cb L M hLpos.1 (by omega) hLM w1 (hS.go h1.below h1.below.size) (hT.go h1.below h1.below.size))
 rintro v w1 v1 h1 hB1 ⟨a1, c1', rfl, hS1⟩
 apply CallI.use
 focus (exact fun w2 h2 => rclosed_any h0 a1 c1' w2 (hS1.go (atB h2 (by simp)) h2.size))
 rintro v w2 v2 h2 hB2 ⟨a2, c2', rfl, hO2⟩
 refine EndI.mk fun w9 h9 => ⟨a2, c2', rfl, ?_⟩
 exact (hO2.at h9 (fun b hb => by rw [List.mem_singleton.1 hb]; exact h2.lt b3 (by simp))).lower h2.below.size
def sameB (m n : Int) (L M : List Int) : Bool := decide (m = n) && decide (L = M)
theorem same04_any (m n : Int) (L M : List Int) (a b : Option Addr) (ca cb : Nat) (w : World) (hA : Sl w.heap.size w (.slice a L.length ca) L) (hB : Sl w.heap.size w (.slice b M.length cb) M) :
 Calls Tryz.prog 212 #[.agg #[.int .i64 m, .slice a L.length ca], .agg #[.int .i64 n, .slice b M.length cb]] w fun e w' => e = .returned (.bool (sameB m n L M)) ∧ Below w.heap.size w w' := by
 obtain ⟨_, _, ea, hca, hma, _⟩ := hA.form
 injection ea with e1 e2 e3
 subst e1; subst e3
 unfold maxLen at hma
 refine fun_eq 0 w Tryz.func212 (args := [.agg [.val (.int .i64 m), .val (.slice a L.length ca)], .agg [.val (.int .i64 n), .val (.slice b M.length cb)]]) rfl rfl ?_
 refine NewI.mk fun b1 hb1 => ?_
 refine NewI.mk fun b2 hb2 => ?_
 refine Branch.mk (fun hc => ?_) (fun hc => ?_)
 ·refine EndI.mk fun w1 h1 => ?_
  have : m ≠ n := by simpa using hc
  simp [sameB, this]
 have hmn : m = n := by simpa using hc
 refine Branch.mk (fun hc => ?_) (fun hc => ?_)
 ·refine EndI.mk fun w1 h1 => ?_
  have h1 : (L.length : Int) ≠ M.length := by simpa using hc
  have : L ≠ M := fun e => h1 (by rw [e])
  simp [sameB, this]
 have hlm : L.length = M.length := by have : (L.length : Int) = M.length := by simpa using hc
                                      omega
 refine LoopI.invC (α := Nat × World) (fun y => [(5, .val (.int .i64 y.1))]) (fun y => y.2) (fun y => y.1 ≤ L.length ∧ Below w.heap.size w y.2 ∧ ∀ j, j < y.1 → L[j]? = M[j]?) (fun y => L.length - y.1) ?_ ?_
 ·intro w1 h1
  exact ⟨(0, w1), Cov.au rfl rfl rfl rfl rfl, rfl, Nat.zero_le _, h1.below, fun j hj => by omega⟩
 rintro ⟨k, W⟩ ⟨hk, hW, hall⟩
 refine Branch.mk (fun hb => ?_) (fun hb => ?_)
 ·have hlt : k < L.length := by simpa using hb
  have hkm : k < M.length := by omega
  refine DrawI.go (.tk 0 (.tk 1 (.tk 2 (.tk 3 (.tk 4 (.tk 5 (.tk 6 (.tk 7 (.tk 8 (.tk 9 (.tk 10 .done))))))))))) (by kernel_rfl) fun w2 h2 => ?_
  refine hA.idx (List.getElem?_eq_getElem hlt) fun ad had => ?_
  refine hA.ld1 (List.getElem?_eq_getElem hlt) had h2.below (by simp) ?_
  refine hB.idx (List.getElem?_eq_getElem hkm) fun bd hbd => ?_
  refine hB.ld1 (List.getElem?_eq_getElem hkm) hbd h2.below (by simp) ?_
  refine Branch.mk (fun hc => ?_) (fun hc => ?_)
  ·refine EndI.mk fun w3 h3 => ?_
   have h1 : L[k] ≠ M[k] := by simpa using hc
   have : L ≠ M := fun e => by subst e; exact h1 rfl
   simp [sameB, this]
  ·have h1 : L[k] = M[k] := by simpa using hc
   refine Need.mk (by show _ ∧ _; omega) (EndI.mk fun w3 h3 => ⟨(k + 1, w3), Cov.au rfl rfl rfl rfl rfl, rfl, ⟨hlt, h3.below, fun j hj => ?_⟩, by simp only; omega⟩)
   by_cases hjk : j = k
   ·subst hjk; rw [List.getElem?_eq_getElem hlt, List.getElem?_eq_getElem hkm, h1]
   ·exact hall j (by omega)
 ·have hge : k = L.length := by have : ¬ k < L.length := by simpa using hb
                                omega
  refine EndI.mk fun w3 h3 => ?_
  have : L = M := by
   apply List.ext_getElem?
   intro j
   rcases Nat.lt_or_ge j L.length with h | h
   ·exact hall j (by omega)
   ·rw [List.getElem?_eq_none h, List.getElem?_eq_none (by omega)]
  simp [sameB, this, hmn]
theorem rfull_any (z : Zn) (w : World) :
 Calls Tryz.prog 87 #[.agg #[.int .i64 z.a, .int .i64 z.b, .int .i64 z.c, .int .i64 z.d, .int .i64 z.e, .int .i64 z.f]] w (Ret w fun v w' => ∃ a' c', v = .agg #[.int .i64 3, .slice a' (Zo.matL z).length c'] ∧ Sl w'.heap.size w' (.slice a' (Zo.matL z).length c') (Zo.matL z)) := by
 refine fun_ret 0 w Tryz.func87 (args := [.agg [.val (.int .i64 z.a), .val (.int .i64 z.b), .val (.int .i64 z.c), .val (.int .i64 z.d), .val (.int .i64 z.e), .val (.int .i64 z.f)]]) rfl rfl ?_
 refine NewI.mk fun b1 hb1 => ?_
 refine NewI.mk fun b2 hb2 => ?_
 refine Need.mk (by decide) ?_
 refine Need.mk (by decide) ?_
 refine Need.mk (by decide) ?_
 refine Need.mk (by decide) ?_
 refine Need.mk (by decide) ?_
 refine Need.mk (by decide) ?_
 refine NewI.mk fun b3 hb3 => ?_
 exact EndI.mk fun w9 h9 => ⟨_, _, rfl, Sl.own (l := Zo.matL z) h9 2 rfl rfl rfl (Nat.le_refl _) (by simp [maxLen, Zo.matL])⟩
theorem rshort_any (n : Int) (a : Option Addr) (cap : Nat) (L : List Int) (hL : L.length = 9) (w : World) (hS : Sl w.heap.size w (.slice a L.length cap) L) :
 Calls Tryz.prog 246 #[.agg #[.int .i64 n, .slice a L.length cap]] w fun e w' => e = .returned (.agg #[.int .i64 (Zo.ofL L).a, .int .i64 (Zo.ofL L).b, .int .i64 (Zo.ofL L).c, .int .i64 (Zo.ofL L).d, .int .i64 (Zo.ofL L).e, .int .i64 (Zo.ofL L).f]) ∧ Below w.heap.size w w' := by
 refine fun_eq 0 w Tryz.func246 (args := [.agg [.val (.int .i64 n), .val (.slice a L.length cap)]]) rfl rfl ?_
 have g : ∀ k, k < 9 → L[k]? = some (L[k]?.getD 0) := fun k hk => by rw [List.getElem?_eq_getElem (by omega)]; rfl
 refine NewI.mk fun b1 hb1 => ?_
 refine NewI.mk fun b2 hb2 => ?_
 refine DrawI.wr (.tk 0 (.tk 1 (.tk 2 (.tk 3 (.tk 4 (.tk 5 (.tk 6 (.tk 7 (.tk 8 (.tk 9 (.tk 10 (.tk 11 (.tk 12 (.tk 13 (.tk 14 (.tk 15 (.tk 16 (.tk 17 (.tk 18 (.ev 19 .done)))))))))))))))))))) [1] [] (by kernel_rfl) rfl (by simp) fun w1 h1 => ?_
 have hlb2 : b2 < w1.heap.size := h1.lt b2 (by simp)
 have hw1 : w.heap.size ≤ b2 := hb2
 have hB1 := h1.below
 refine (hS.go hB1 hB1.size).idx (k := 3) (g 3 (by omega)) fun ad3 had3 => ?_
 refine ld1_row hS (k := 3) (g 3 (by omega)) had3 hB1 (fun b hb => by simp [locs] at hb; omega) ?_
 refine (hS.go hB1 hB1.size).idx (k := 1) (g 1 (by omega)) fun ad1 had1 => ?_
 refine ld1_row hS (k := 1) (g 1 (by omega)) had1 hB1 (fun b hb => by simp [locs] at hb; omega) ?_
 refine (hS.go hB1 hB1.size).idx (k := 6) (g 6 (by omega)) fun ad6 had6 => ?_
 refine ld1_row hS (k := 6) (g 6 (by omega)) had6 hB1 (fun b hb => by simp [locs] at hb; omega) ?_
 refine (hS.go hB1 hB1.size).idx (k := 2) (g 2 (by omega)) fun ad2 had2 => ?_
 refine ld1_row hS (k := 2) (g 2 (by omega)) had2 hB1 (fun b hb => by simp [locs] at hb; omega) ?_
 refine (hS.go hB1 hB1.size).idx (k := 7) (g 7 (by omega)) fun ad7 had7 => ?_
 refine ld1_row hS (k := 7) (g 7 (by omega)) had7 hB1 (fun b hb => by simp [locs] at hb; omega) ?_
 refine (hS.go hB1 hB1.size).idx (k := 5) (g 5 (by omega)) fun ad5 had5 => ?_
 refine ld1_row hS (k := 5) (g 5 (by omega)) had5 hB1 (fun b hb => by simp [locs] at hb; omega) ?_
 exact EndI.mk fun w9 h9 => rfl
namespace Zo
def i64 (z : Zn) : Prop := ∀ b, b ∈ matL z → Dbm.int64 b
theorem close_rc {L : List Int} (h0 : Dbm.chk 3 L = 0) : (Dbm.close 3 L = (3, L, 0) ∧ Dbm.rc 3 L = (3, L, true)) ∨ Dbm.close 3 L ≠ (3, L, 0) ∧ ((Dbm.rc 3 L).2.2 = false ∨ (Dbm.rc 3 L).2.1 ≠ L) := by
 have hcl : Dbm.close 3 L = (match Dbm.closeL 3 L with | some L' => (3, L', 0) | none => (0, [], 6)) := by unfold Dbm.close; rw [if_pos h0]; rfl
 unfold Dbm.rc
 cases hC : Dbm.closeL 3 L with
 | none =>
   rw [hC] at hcl
   right
   rw [hcl]
   exact ⟨by simp, .inl rfl⟩
 | some C =>
   rw [hC] at hcl
   rw [hcl]
   by_cases e : C = L
   ·subst e; left; exact ⟨rfl, rfl⟩
   ·right; exact ⟨fun h => e (by simpa using h), .inr e⟩
theorem chk_rc (z : Zn) : (Dbm.chk 3 (matL z) = 0 ∧ chk z = 0 ∧ Dbm.rc 3 (matL z) = (3, matL z, true)) ∨ chk z ≠ 0 ∧ (Dbm.chk 3 (matL z) ≠ 0 ∨ Dbm.chk 3 (matL z) = 0 ∧ ((Dbm.rc 3 (matL z)).2.2 = false ∨ (Dbm.rc 3 (matL z)).2.1 ≠ matL z)) := by
 have hk : chk z = 0 ↔ Dbm.close 3 (matL z) = (3, matL z, 0) := chk_eq
 generalize matL z = L at hk ⊢
 by_cases h0 : Dbm.chk 3 L = 0
 ·rcases close_rc h0 with ⟨h1, h2⟩ | ⟨h1, h2⟩
  ·exact .inl ⟨h0, hk.2 h1, h2⟩
  ·exact .inr ⟨fun h => h1 (hk.1 h), .inr ⟨h0, h2⟩⟩
 ·right
  refine ⟨fun h => ?_, .inl h0⟩
  have := hk.1 h
  unfold Dbm.close at this
  rw [if_neg h0] at this
  simp at this
end Zo
theorem rzmay_any (z : Zn) (hz : Zo.i64 z) (w : World) :
 Calls Tryz.prog 197 #[.agg #[.int .i64 z.a, .int .i64 z.b, .int .i64 z.c, .int .i64 z.d, .int .i64 z.e, .int .i64 z.f]] w fun e w' => e = .returned (.bool (decide (Zo.chk z = 0))) ∧ Below w.heap.size w w' := by
 refine fun_eq 0 w Tryz.func197 (args := [.agg [.val (.int .i64 z.a), .val (.int .i64 z.b), .val (.int .i64 z.c), .val (.int .i64 z.d), .val (.int .i64 z.e), .val (.int .i64 z.f)]]) rfl rfl ?_
 refine NewI.mk fun b1 hb1 => ?_
 apply CallI.use
 focus (exact fun w1 h1 => rfull_any z w1)
 rintro v w1 v1 h1 hB1 ⟨a1, c1, rfl, hS1⟩
 refine NewI.mk fun b2 hb2 => ?_
 have hb2' : v1.heap.size ≤ b2 := hb2
 apply CallI.use1
 focus (exact fun w2 h2 => rmay04_any 3 (Zo.matL z) ⟨by omega, by omega⟩ hz a1 c1 w2 (hS1.go (atB h2 (by simp; omega)) h2.size))
 intro w2 v2 h2 hB2
 have hS2 := (hS1.go (atB h2 (by simp; omega)) h2.size).go hB2 hB2.size
 rcases Zo.chk_rc z with ⟨h0, hc, hr⟩ | ⟨hc, hor⟩
 ·rw [h0, hc]
  have hrc := fun w h => rclosed_any (N := 3) (L := Zo.matL z) h0 a1 c1 w h
  rw [hr] at hrc
  refine Branch.no rfl ?_
  apply CallI.use
  focus (exact fun w3 h3 => hrc w3 (hS2.go (atB h3 (by simp)) h3.size))
  rintro v w3 v3 h3 hB3 ⟨a3, c3, rfl, hO3⟩
  have hS3 := (hS2.go (atB h3 (by simp)) h3.size).go hB3 hB3.size
  refine NewI.mk fun b3 hb3 => ?_
  have hb3' : v3.heap.size ≤ b3 := hb3
  refine Branch.yes rfl ?_
  apply CallI.use1
  focus (exact fun w4 h4 => same04_any 3 3 (Zo.matL z) (Zo.matL z) a3 a1 c3 c1 w4 (hO3.below (atB h4 (by simp; omega))).sl (hS3.go (atB h4 (by simp; omega)) h4.size))
  intro w4 v4 h4 hB4
  refine EndI.mk fun w9 h9 => ?_
  simp [sameB]
 ·rw [decide_eq_false hc]
  rcases hor with h0 | ⟨h0, hor⟩
  ·rw [decide_eq_false h0]
   refine Branch.yes rfl ?_
   exact EndI.mk fun w9 h9 => rfl
  ·rw [decide_eq_true h0]
   have hrc := fun w h => rclosed_any (N := 3) (L := Zo.matL z) h0 a1 c1 w h
   generalize Dbm.rc 3 (Zo.matL z) = R at hrc hor
   obtain ⟨n3, C, is⟩ := R
   simp only at hrc hor
   refine Branch.no rfl ?_
   apply CallI.use
   focus (exact fun w3 h3 => hrc w3 (hS2.go (atB h3 (by simp)) h3.size))
   rintro v w3 v3 h3 hB3 ⟨a3, c3, rfl, hO3⟩
   have hS3 := (hS2.go (atB h3 (by simp)) h3.size).go hB3 hB3.size
   refine NewI.mk fun b3 hb3 => ?_
   have hb3' : v3.heap.size ≤ b3 := hb3
   refine Branch.mk (fun z1 => ?_) (fun z1 => ?_)
   ·have hne : C ≠ Zo.matL z := hor.resolve_left (fun h => by rw [h] at z1; cases z1)
    apply CallI.use1
    focus (exact fun w4 h4 => same04_any n3 3 C (Zo.matL z) a3 a1 c3 c1 w4 (hO3.below (atB h4 (by simp; omega))).sl (hS3.go (atB h4 (by simp; omega)) h4.size))
    intro w4 v4 h4 hB4
    refine EndI.mk fun w9 h9 => ?_
    simp [sameB, hne]
   ·exact EndI.mk fun w9 h9 => rfl
end Go.Proofs.YtanhnllkccldhaaGreat
namespace Go.Proofs.YtanhnllkccldhaaGreat
set_option linter.unusedVariables false
open Go.RowKit
theorem rother02_any (b : Int) (h1 : -4611686018427387903 ≤ b / 2) (h2 : b / 2 ≤ 4611686018427387903) (w : World) :
 Calls Tryz.prog 241 #[.int .i64 b] w fun e w' => e = .returned (.int .i64 (Bd.mk (-(b / 2)) (!(Bd.st b)))) ∧ w = w' := by
 go_enter Tryz.func241, Tryz.ntmps241
 go_wp2_with (first
  | (go_at_call 42; refine (rnumber_any _ (by omega) (by omega) _).mono ?_; rintro e w' ⟨rfl, rfl⟩)
  | (go_at_call 177; refine (rstrict_any _ _).mono ?_; rintro e w' ⟨rfl, rfl⟩)
  | (go_at_call 187; refine (rmade_any _ _ (by omega) (by omega) _).mono ?_; rintro e w' ⟨rfl, rfl⟩))
 go_ret
 exact ⟨rfl, rfl⟩
end Go.Proofs.YtanhnllkccldhaaGreat
