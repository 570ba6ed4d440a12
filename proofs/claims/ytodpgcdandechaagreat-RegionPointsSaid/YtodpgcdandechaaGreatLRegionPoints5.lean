/-
  Merged texts of this law (each with its own head below).
-/
import Derived.Test.YtodpgcdandechaaGreatLRegionPoints3
import Derived.Test.YtodpgcdandechaaGreatLRegionPoints4
import Derived.Lib.SliceRun
import Derived.Test.YtodpgcdandechaaGreatLRegionPoints1
import Derived.RangeFuncBox
import Derived.RangeFuncBound
import Derived.RangeFuncLeaves
import Derived.Shelf.Abstract
import Derived.WalkKit
import Derived.OwnWalkIn
import Derived.TacticsInMore
import Derived.LoopNIn
import Derived.LoopIn
import Derived.Deep.QuietTactic
import Derived.BigQuiet
import Derived.Sort.Grow
import Derived.Shelf.SlSortCmp.NoneTotal
import Derived.Ground.SlsfProg
import Derived.Test.YtodpgcdandechaaGreatProg
import Derived.Sort.OwnSorted
import Derived.Shelf.Spec.SlicesGrow
import Derived.Ground.Names8Prog
import Derived.Laws.StructEq
import Derived.Maps.AppendAt
/-
  slices.IndexFunc and ContainsFunc at a list of api.Zone: with a function that answers p of an element, and goes from T k to T (k + 1).
-/
namespace Go.Proofs.YtodpgcdandechaaGreat
set_option linter.unusedVariables false
set_option linter.unusedSimpArgs false
set_option maxRecDepth 100000
open Go.RowKit Go.Proofs.YtodpgcdandechaaGreat.Eng Enc

theorem indexZ_any (l : List Zn) (p : Zn → Bool) (a : Option Addr) (cap : Nat) (fid : FuncId) (caps : Array Value) (B : Nat) (w : World) (hB : B ≤ w.heap.size) (hS : Sl B w (.slice a l.length cap) l)
    (T : Nat → World → Prop) (h0 : T 0 w) (hst : ∀ k W W', T k W → Below W.heap.size W W' → T k W') (en : Enters Tryz.prog fid)
    (hcall : ∀ k x W, l[k]? = some x → Below B w W → T k W → Calls Tryz.prog fid (val x :: caps.toList).toArray W fun e W' => e = .returned (.bool (p x)) ∧ Below B W W' ∧ T (k + 1) W') :
    Calls Tryz.prog 132 #[.slice a l.length cap, .func (.func fid) #[] caps] w fun e w' => ∃ v, e = .returned v ∧ Below B w w' ∧ v = .int .i64 (idxF p l) ∧ T (cntF p l) w' := by
  obtain ⟨a', cap', e', hcap, hmax, _⟩ := hS.form
  injection e' with e1 e2 e3
  subst e1; subst e3
  unfold maxLen at hmax
  refine fun_at 0 B w hB Tryz.func132 (args := [.val (.slice a l.length cap), .val (.func (.func fid) #[] caps)]) rfl rfl ?_
  refine LoopI.inv (α := Nat × World) (fun x => [(8, .val (.int .i64 x.1))]) (fun _ => []) (fun x => x.2) (fun x => x.1 ≤ l.length ∧ T x.1 x.2 ∧ Below B w x.2 ∧ ∀ j y, j < x.1 → l[j]? = some y → p y = false) (fun x => l.length - x.1) ?_ ?_
  · intro w1 h1
    exact ⟨(0, w1), Cov.mk (by repeat' (first | exact trivial | refine And.intro rfl ?_)) rfl rfl rfl rfl rfl, rfl, Nat.zero_le _, hst _ _ _ h0 h1.go, h1.below, fun j y hj => by omega⟩
  · rintro ⟨k, W⟩ ⟨hk, hT, hBw, hno⟩
    refine Branch.mk (fun hb => ?_) (fun hb => ?_)
    · have hlt : k < l.length := by simpa using hb
      obtain ⟨x, hx⟩ : ∃ x, l[k]? = some x := ⟨l[k], List.getElem?_eq_getElem hlt⟩
      refine hS.idx hx fun ad had => ?_
      refine hS.ld hx had hBw (by simp) ?_
      refine Need.mk en ?_
      refine CallI.mk fun w1 h1 => ?_
      have hT1 := hst _ _ _ hT h1.go
      refine (hcall k x w1 hx h1.below hT1).mono ?_
      rintro e w2 ⟨rfl, hB2, hT2⟩
      refine ⟨⟨hB2, by simp⟩, _, rfl, ?_⟩
      refine Branch.mk (fun hp => ?_) (fun hp => ?_)
      · refine EndI.mk fun w3 h3 => ?_
        obtain ⟨i1, i2⟩ := idxF_at p l k x hx hp hno
        refine ⟨by rw [i1], by rw [i2]; exact hst _ _ _ hT2 h3.go⟩
      · refine Need.mk (by show _ ∧ _; omega) (EndI.mk fun w3 h3 => ?_)
        refine ⟨(k + 1, w3), Cov.mk (by repeat' (first | exact trivial | refine And.intro rfl ?_)) rfl rfl rfl rfl rfl, rfl, ⟨hlt, hst _ _ _ hT2 h3.go, h3.below, fun j y hj hy => ?_⟩, by simp only; omega⟩
        by_cases hjk : j = k
        · subst hjk; rw [hx] at hy; injection hy with hy; subst hy; exact hp
        · exact hno j y (by omega) hy
    · have hge : k = l.length := by have : ¬ k < l.length := by simpa using hb
                                    omega
      subst hge
      refine EndI.mk fun w3 h3 => ?_
      obtain ⟨i1, i2⟩ := idxF_none p l fun j y hy => hno j y (List.getElem?_eq_some_iff.1 hy).1 hy
      exact ⟨by rw [i1], by rw [i2]; exact hst _ _ _ hT h3.go⟩

theorem containsZ_any (l : List Zn) (p : Zn → Bool) (a : Option Addr) (cap : Nat) (fid : FuncId) (caps : Array Value) (B : Nat) (w : World) (hB : B ≤ w.heap.size) (hS : Sl B w (.slice a l.length cap) l)
    (T : Nat → World → Prop) (h0 : T 0 w) (hst : ∀ k W W', T k W → Below W.heap.size W W' → T k W') (en : Enters Tryz.prog fid)
    (hcall : ∀ k x W, l[k]? = some x → Below B w W → T k W → Calls Tryz.prog fid (val x :: caps.toList).toArray W fun e W' => e = .returned (.bool (p x)) ∧ Below B W W' ∧ T (k + 1) W') :
    Calls Tryz.prog 68 #[.slice a l.length cap, .func (.func fid) #[] caps] w fun e w' => ∃ v, e = .returned v ∧ Below B w w' ∧ v = .bool (l.any p) ∧ T (cntF p l) w' := by
  refine fun_at 0 B w hB Tryz.func68 (args := [.val (.slice a l.length cap), .val (.func (.func fid) #[] caps)]) rfl rfl ?_
  refine CallI.mk fun w1 h1 => ?_
  have hB1 : B ≤ w1.heap.size := Nat.le_trans hB h1.size
  refine (indexZ_any l p a cap fid caps B w1 hB1 (hS.below h1.below) T (hst _ _ _ h0 h1.go) hst en fun k x W hx hW hT => hcall k x W hx (h1.below.trans hW) hT).mono ?_
  rintro e w2 ⟨v, rfl, hB2, rfl, hT⟩
  refine ⟨⟨hB2, by simp⟩, _, rfl, ?_⟩
  refine EndI.mk fun w3 h3 => ⟨?_, hst _ _ _ hT h3.go⟩
  rw [← idxF_any]

/-- with a function that leaves the memory alone. -/
theorem containsZ_pure (l : List Zn) (p : Zn → Bool) (a : Option Addr) (cap : Nat) (fid : FuncId) (caps : Array Value) (w : World) (hS : Sl w.heap.size w (.slice a l.length cap) l) (en : Enters Tryz.prog fid)
    (hcall : ∀ x W, x ∈ l → Below w.heap.size w W → Calls Tryz.prog fid (val x :: caps.toList).toArray W fun e W' => e = .returned (.bool (p x)) ∧ Below W.heap.size W W') :
    Calls Tryz.prog 68 #[.slice a l.length cap, .func (.func fid) #[] caps] w fun e w' => e = .returned (.bool (l.any p)) ∧ Below w.heap.size w w' := by
  refine (containsZ_any l p a cap fid caps w.heap.size w (Nat.le_refl _) hS (fun _ _ => True) trivial (fun _ _ _ _ _ => trivial) en fun k x W hx hB _ => ?_).mono ?_
  · refine (hcall x W (List.mem_of_getElem? hx) hB).mono ?_
    rintro e W' ⟨rfl, hB'⟩
    exact ⟨rfl, hB'.mono hB.size, trivial⟩
  · rintro e w' ⟨v, rfl, hB, rfl, _⟩
    exact ⟨rfl, hB⟩
end Go.Proofs.YtodpgcdandechaaGreat

/-
  slices.Clone at a list of api.Zone: a row of the call's own that shows the same list.
-/
namespace Go.Proofs.YtodpgcdandechaaGreat
set_option linter.unusedVariables false
set_option linter.unusedSimpArgs false
set_option maxRecDepth 100000
open Go.RowKit Go.Proofs.YtodpgcdandechaaGreat.Eng Enc

end Go.Proofs.YtodpgcdandechaaGreat

/-
  The contracts of cover.checked and cover.In, by the engine.
-/
namespace Go.Proofs.YtodpgcdandechaaGreat
set_option linter.unusedVariables false
set_option linter.unusedSimpArgs false
set_option maxRecDepth 100000
open Go.RowKit Go.Proofs.YtodpgcdandechaaGreat.Eng Enc

namespace Cv
def odd (z : Zn) : Bool := decide (Zo.chk z ≠ 0)
/-- the error of lists of zones. -/
def checked (ls : List (List Zn)) : Int := if ls.any (fun l => decide (4096 < l.length)) = true then 4 else if ls.any (fun l => l.any odd) = true then 8 else 0
def in_ (z : Zn) (l : List Zn) : Bool × Int :=
  if checked [l, [z]] = 0 then (decide ((Mi.left z l).2 = 0) && decide ((Mi.left z l).1.length = 0), (Mi.left z l).2) else (false, checked [l, [z]])
end Cv
/-- lists of zones, each as it is shown. -/
def Shown (n : Nat) (W : World) (ss : List Svl) (ls : List (List Zn)) : Prop := ss.length = ls.length ∧ ∀ (k : Nat) (s : Svl) (l : List Zn), ss[k]? = some s → ls[k]? = some l → Sl n W (.slice s.a s.len s.cap) l ∧ s.len = l.length
theorem shown_one {n : Nat} {W : World} {s : Svl} {l : List Zn} (h1 : Sl n W (.slice s.a s.len s.cap) l) (e1 : s.len = l.length) : Shown n W [s] [l] := by
  refine ⟨rfl, fun k s' l' hs hl => ?_⟩
  have hk : k < 1 := (List.getElem?_eq_some_iff.1 hs).1
  have : k = 0 := by omega
  subst this
  simp at hs hl; subst hs; subst hl; exact ⟨h1, e1⟩
end Go.Proofs.YtodpgcdandechaaGreat

/-
  The contract of rat.Mid, by the engine.
-/
namespace Go.Proofs.YtodpgcdandechaaGreat
set_option linter.unusedVariables false
set_option linter.unusedSimpArgs false
set_option maxRecDepth 100000
open Go.RowKit Go.Proofs.YtodpgcdandechaaGreat.Eng Enc

end Go.Proofs.YtodpgcdandechaaGreat

/-
  The contract of incl.Pick and what it calls, by the engine.
-/
namespace Go.Proofs.YtodpgcdandechaaGreat
set_option linter.unusedVariables false
set_option linter.unusedSimpArgs false
set_option maxRecDepth 100000
open Go.RowKit Go.Proofs.YtodpgcdandechaaGreat.Eng Enc

def Incl.End.val (x : Incl.End) : Value := .agg #[.bool x.is, .int .i64 x.at_.num, .int .i64 x.at_.den, .bool x.strict]

end Go.Proofs.YtodpgcdandechaaGreat

/-
  What is picked of a closed matrix of three clocks keeps it: sums of small fractions are exact, each end holds what it should. No program is in sight.
-/
namespace Go.Proofs.YtodpgcdandechaaGreat
set_option linter.unusedVariables false
set_option linter.unusedSimpArgs false
namespace Fr
/-- a small fraction: what it is divided by is at most D, its value at most M. -/
structure Sm (D M : Int) (a : Rt) : Prop where
  ok : a.ok = true
  den : a.den ≤ D
  lo : -(M * a.den) ≤ a.num
  hi : a.num ≤ M * a.den
theorem Sm.mono {D D' M M' : Int} {a : Rt} (h : Sm D M a) (hD : D ≤ D') (hM : M ≤ M') : Sm D' M' a := by
  have o := ok_bd h.ok
  have hm : M * a.den ≤ M' * a.den := Int.mul_le_mul_of_nonneg_right hM (by omega)
  exact ⟨h.ok, Int.le_trans h.den hD, by have := h.lo; omega, by have := h.hi; omega⟩
theorem v_den {a : Rt} (ha : a.ok = true) : (a.den : Rat) ≠ 0 := by
  have oa := ok_bd ha
  intro h; have : a.den = 0 := by exact_mod_cast h
  omega
/-- a fraction in lowest terms out of a great one. -/
theorem low_sm {T D M d : Int} (hD : 1 ≤ D) (hd : D ≤ d) (hd2 : d ≤ 1048576) (hM : 0 ≤ M) (hM2 : M < 2305843009213693952) (hMd : M * d ≤ 9223372036854775807) (h1 : -(M * D) ≤ T) (h2 : T ≤ M * D) :
    okB (T / Int.gcd T D) (D / Int.gcd T D) = true ∧ inI (T / Int.gcd T D) = true ∧ Sm d M ⟨T / Int.gcd T D, D / Int.gcd T D⟩ ∧ T / Int.gcd T D * D = T * (D / Int.gcd T D) := by
  have hg : 1 ≤ (Int.gcd T D : Int) := by
    have : 0 < Int.gcd T D := Int.gcd_pos_of_ne_zero_right _ (by omega)
    omega
  have d1 : (Int.gcd T D : Int) ∣ T := Int.gcd_dvd_left ..
  have d2 : (Int.gcd T D : Int) ∣ D := Int.gcd_dvd_right ..
  have hcop : Int.gcd (T / Int.gcd T D) (D / Int.gcd T D) = 1 := Int.gcd_ediv_gcd_ediv_gcd (i := T) (j := D) (by omega)
  generalize (Int.gcd T D : Int) = g at *
  obtain ⟨u, rfl⟩ := d1
  obtain ⟨x, rfl⟩ := d2
  rw [Int.mul_ediv_cancel_left _ (by omega), Int.mul_ediv_cancel_left _ (by omega)] at *
  have hx : 1 ≤ x := by
    rcases Int.lt_or_le 0 x with h | h
    · omega
    · have := Int.mul_nonpos_of_nonneg_of_nonpos (a := g) (b := x) (by omega) h
      omega
  have hxd : x ≤ d := by
    have := Int.mul_le_mul_of_nonneg_right hg (show 0 ≤ x by omega)
    omega
  have k1 : -(M * x) ≤ u := by
    refine Int.le_of_mul_le_mul_left (a := g) ?_ (by omega)
    rw [Int.mul_neg, Int.mul_left_comm]; exact h1
  have k2 : u ≤ M * x := by
    refine Int.le_of_mul_le_mul_left (a := g) ?_ (by omega)
    rw [Int.mul_left_comm g M x]; exact h2
  have hMx : M * x ≤ M * d := Int.mul_le_mul_of_nonneg_left hxd hM
  have hin : inB u x = true := by
    apply in_iff.2
    have a1 : -M ≤ u / x := by
      refine (Int.le_ediv_iff_mul_le (by omega)).2 ?_
      rw [Int.neg_mul]; exact k1
    have a2 : u / x ≤ M := by
      have := Int.ediv_le_ediv (c := x) (by omega) k2
      rwa [Int.mul_ediv_cancel _ (by omega)] at this
    omega
  have hok : okB u x = true := by
    unfold okB
    rw [hin]
    have hc2 : Nat.gcd u.natAbs x.natAbs = 1 := hcop
    simp only [hc2]; simp; omega
  refine ⟨hok, ?_, ⟨hok, hxd, k1, k2⟩, ?_⟩
  · unfold inI; simp; omega
  · rw [Int.mul_left_comm, ← Int.mul_assoc]
theorem v_of_mul {a : Rt} (ha : a.ok = true) {T D : Int} (hD : 1 ≤ D) (h : a.num * D = T * a.den) : v a * (D : Rat) = T := by
  have h1 := v_den ha
  have h2 : (a.num : Rat) * (D : Rat) = (T : Rat) * (a.den : Rat) := by exact_mod_cast h
  unfold v
  grind
theorem sum_sm {a b : Rt} {k Da Db Ma Mb d M : Int} (ha : Sm Da Ma a) (hb : Sm Db Mb b) (hk : k = 1 ∨ k = 2) (hMa : 0 ≤ Ma) (hMb : 0 ≤ Mb) (hd : Da * Db * k ≤ d) (hd2 : d ≤ 1048576) (hM : Ma + Mb ≤ M * k) (hM2 : M < 2305843009213693952) (hMd : M * d ≤ 9223372036854775807) :
    (sum a b k).2 = 0 ∧ Sm d M (sum a b k).1 ∧ v (sum a b k).1 * (k : Rat) = v a + v b := by
  have oa := ok_bd ha.ok
  have ob := ok_bd hb.ok
  have hM0 : 0 ≤ M := by rcases hk with rfl | rfl <;> omega
  have e1 : a.den * b.den ≤ Da * Db := Int.mul_le_mul ha.den hb.den (by omega) (by have := ha.den; omega)
  have e2 : 1 ≤ a.den * b.den := by
    have := Int.mul_le_mul (a := 1) (b := 1) oa.1 ob.1 (by omega) (by omega)
    omega
  have hdn : 1 ≤ dn a b k ∧ dn a b k ≤ d := by
    unfold dn
    rcases hk with rfl | rfl <;> omega
  have hT : -(M * dn a b k) ≤ tn a b ∧ tn a b ≤ M * dn a b k := by
    have p1 : a.num * b.den ≤ Ma * a.den * b.den := Int.mul_le_mul_of_nonneg_right ha.hi (by omega)
    have p2 : b.num * a.den ≤ Mb * b.den * a.den := Int.mul_le_mul_of_nonneg_right hb.hi (by omega)
    have p3 : -(Ma * a.den) * b.den ≤ a.num * b.den := Int.mul_le_mul_of_nonneg_right ha.lo (by omega)
    have p4 : -(Mb * b.den) * a.den ≤ b.num * a.den := Int.mul_le_mul_of_nonneg_right hb.lo (by omega)
    have p5 : (Ma + Mb) * (a.den * b.den) ≤ M * k * (a.den * b.den) := Int.mul_le_mul_of_nonneg_right hM (by omega)
    have q1 : M * dn a b k = M * k * (a.den * b.den) := by unfold dn; grind
    have q2 : Ma * a.den * b.den + Mb * b.den * a.den = (Ma + Mb) * (a.den * b.den) := by grind
    have q3 : -(Ma * a.den) * b.den + -(Mb * b.den) * a.den = -((Ma + Mb) * (a.den * b.den)) := by grind
    rw [q1]; unfold tn
    omega
  obtain ⟨l1, l2, l3, l4⟩ := low_sm hdn.1 hdn.2 hd2 hM0 hM2 hMd hT.1 hT.2
  unfold sum
  rw [if_pos ⟨l1, l2⟩]
  refine ⟨rfl, l3, ?_⟩
  have hv := v_of_mul l3.ok hdn.1 l4
  have h1 := v_den ha.ok
  have h2 := v_den hb.ok
  simp only at hv ⊢
  have hk0 : (k : Rat) ≠ 0 := by rcases hk with rfl | rfl <;> decide
  generalize v (⟨tn a b / Int.gcd (tn a b) (dn a b k), dn a b k / Int.gcd (tn a b) (dn a b k)⟩ : Rt) = x at *
  unfold dn tn at hv
  push_cast at hv
  unfold v
  grind
theorem of_sm {c M : Int} (h : -M ≤ c ∧ c ≤ M) (hM : M < 2305843009213693952) : Sm 1 M (of c 1).1 ∧ v (of c 1).1 = c := by
  have hok : okB c 1 = true := by
    unfold okB
    have : inB c 1 = true := in_iff.2 (by simp; omega)
    rw [this]; simp
  have e : of c 1 = (⟨c, 1⟩, 0) := by
    unfold of low
    have hg : Int.gcd c 1 = 1 := by simp
    rw [if_neg (by omega), hg]
    simp only [Int.cast_ofNat_Int, Int.ediv_one]
    rw [if_pos hok]
  rw [e]
  refine ⟨⟨hok, by simp, by simp; omega, by simp; omega⟩, ?_⟩
  show (c : Rat) / ((1 : Int) : Rat) = c
  have h1 : ((1 : Int) : Rat) = 1 := rfl
  rw [h1]; grind
theorem shift_sm {a : Rt} {D M c m d : Int} (ha : Sm D M a) (hM : 0 ≤ M) (hc : -m ≤ c ∧ c ≤ m) (hd : D ≤ d) (hd2 : d ≤ 1048576) (hM2 : M + m < 2305843009213693952) (hMd : (M + m) * d ≤ 9223372036854775807) : Sm d (M + m) (shift a c) ∧ v (shift a c) = v a + c := by
  obtain ⟨h1, h2⟩ := of_sm hc (by omega)
  have h := sum_sm (k := 1) (d := d) (M := M + m) ha h1 (.inl rfl) hM (by omega) (by omega) hd2 (by omega) hM2 hMd
  unfold shift add
  rw [if_pos ⟨ha.ok, h1.ok⟩]
  refine ⟨h.2.1, ?_⟩
  have := h.2.2
  rw [h2] at this
  grind
theorem mid_sm {a b : Rt} {D M d : Int} (ha : Sm D M a) (hb : Sm D M b) (hM : 0 ≤ M) (hd : D * D * 2 ≤ d) (hd2 : d ≤ 1048576) (hM2 : M < 2305843009213693952) (hMd : M * d ≤ 9223372036854775807) : Sm d M (mid a b).1 ∧ v (mid a b).1 * 2 = v a + v b := by
  have h := sum_sm (k := 2) (d := d) (M := M) ha hb (.inr rfl) hM hM hd hd2 (by omega) hM2 hMd
  unfold mid
  rw [if_pos ⟨ha.ok, hb.ok⟩]
  exact ⟨h.2.1, by have := h.2.2; exact_mod_cast this⟩
theorem cmp_v {a b : Rt} (ha : a.ok = true) (hb : b.ok = true) : ((cmp a b).1 < 0 ∧ v a < v b) ∨ ((cmp a b).1 = 0 ∧ v a = v b) ∨ (0 < (cmp a b).1 ∧ v b < v a) := by
  unfold cmp
  rw [if_pos ⟨ha, hb⟩]
  simp only
  have hD := den_pos ha hb
  have hs := v_sub ha hb
  have key : ∀ x : Int, (v a - v b) * ((a.den * b.den : Int) : Rat) = ((a.num * b.den - b.num * a.den : Int) : Rat) := fun _ => by
    rw [hs]
    exact Rat.div_mul_cancel (by intro h; rw [h] at hD; exact absurd hD (by decide))
  have k0 := key 0
  unfold cmpR cmpI
  split
  · rename_i h
    refine .inl ⟨by omega, ?_⟩
    have : ((a.num * b.den - b.num * a.den : Int) : Rat) < 0 := by exact_mod_cast (by omega : a.num * b.den - b.num * a.den < 0)
    rw [← k0] at this
    rcases Classical.em (v a < v b) with hh | hh
    · exact hh
    · have h2 : 0 ≤ v a - v b := by grind
      have := Rat.mul_nonneg h2 (Rat.le_of_lt hD)
      grind
  · split
    · rename_i h
      refine .inr (.inr ⟨by omega, ?_⟩)
      have : (0 : Rat) < ((a.num * b.den - b.num * a.den : Int) : Rat) := by exact_mod_cast (by omega : 0 < a.num * b.den - b.num * a.den)
      rw [← k0] at this
      rcases Classical.em (v b < v a) with hh | hh
      · exact hh
      · have h2 : 0 ≤ v b - v a := by grind
        have := Rat.mul_nonneg h2 (Rat.le_of_lt hD)
        grind
    · refine .inr (.inl ⟨rfl, ?_⟩)
      have : ((a.num * b.den - b.num * a.den : Int) : Rat) = 0 := by exact_mod_cast (by omega : a.num * b.den - b.num * a.den = 0)
      rw [this] at k0
      rcases Rat.mul_eq_zero.1 k0 with h | h
      · grind
      · rw [h] at hD; exact absurd hD (by decide)
end Fr

namespace Incl
open Fr Dbm
/-- what a lower, an upper end says of a time. -/
def loQ (E : End) (x : Rat) : Prop := E.is = true → (if E.strict = true then v E.at_ < x else v E.at_ ≤ x)
def hiQ (E : End) (x : Rat) : Prop := E.is = true → (if E.strict = true then x < v E.at_ else x ≤ v E.at_)
/-- by what bound an end stands where it stands (s: the sign). -/
def Att (P : Rat → Int → Prop) (s : Int) (E : End) : Prop := E.is = true → ∃ r b, P r b ∧ b ≠ NO ∧ v E.at_ = r - (s : Rat) * ((b / 2 : Int) : Rat) ∧ (E.strict = true ↔ Bd.st b = true)
structure EOk (D M : Int) (P : Rat → Int → Prop) (s : Int) (E : End) : Prop where
  sm : E.is = true → Sm D M E.at_
  att : Att P s E
theorem value_no : Bd.value NO = (0, false, 6) := by decide
theorem value_of {b : Int} (h : lim 288230376151711744 b) (hn : b ≠ NO) : Bd.value b = (b / 2, Bd.st b, 0) := by
  have hb := h.resolve_left hn
  have hm : Bd.may b = true := by
    unfold Bd.may Num.okB
    simp; right; omega
  have hn' : ¬ b = 9223372036854775807 := hn
  unfold Bd.value
  rw [if_pos hm, if_neg hn']
theorem near_lo {P : Rat → Int → Prop} {E : End} {D M Dr Mr b : Int} {r : Rt} (hE : EOk D M P 1 E) (hr : Sm Dr Mr r) (hMr : 0 ≤ Mr) (hDr : Dr ≤ D) (hD : D ≤ 1048576) (hMM : Mr + 288230376151711744 ≤ M) (hM2 : M < 2305843009213693952) (hMd : M * D ≤ 9223372036854775807) (hb : lim 288230376151711744 b) (hP : P (v r) b) :
    EOk D M P 1 (nearer E b r 1) ∧ ∀ x, loQ (nearer E b r 1) x ↔ (loQ E x ∧ satO (v r - x) (ob b)) := by
  unfold nearer
  by_cases hn : b = NO
  · subst hn
    rw [value_no]
    rw [if_pos (by decide)]
    refine ⟨hE, fun x => ⟨fun h => ⟨h, ?_⟩, fun h => h.1⟩⟩
    simp [ob, satO]
  have hbb := hb.resolve_left hn
  rw [value_of hb hn]
  simp only [ne_eq, not_true_eq_false, if_false]
  have hDp : 1 ≤ D := by have := (ok_bd hr.ok).1; have := hr.den; omega
  have hMd2 : (Mr + 288230376151711744) * D ≤ 9223372036854775807 := Int.le_trans (Int.mul_le_mul_of_nonneg_right hMM (by omega)) hMd
  obtain ⟨s1, s2⟩ := shift_sm (c := -1 * (b / 2)) (m := 288230376151711744) (d := D) hr hMr (by omega) hDr hD (by omega) hMd2
  have s1 := s1.mono (Int.le_refl D) hMM
  have s3 : v (shift r (-1 * (b / 2))) = v r - ((b / 2 : Int) : Rat) := by rw [s2]; push_cast; grind
  generalize shift r (-1 * (b / 2)) = at_ at *
  have hob : ob b = some b := by unfold ob; rw [if_neg hn]
  rw [hob]
  have hnew : EOk D M P 1 ⟨true, at_, Bd.st b⟩ := ⟨fun _ => s1, fun _ => ⟨v r, b, hP, hn, by rw [s3]; push_cast; grind, Iff.rfl⟩⟩
  have hsat : ∀ x, satO (v r - x) (some b) ↔ (if Bd.st b = true then v at_ < x else v at_ ≤ x) := fun x => by
    simp only [satO, s3]
    cases Bd.st b <;> simp <;> constructor <;> intro h <;> grind
  by_cases hi : E.is = false
  · rw [if_pos (.inl hi)]
    refine ⟨hnew, fun x => ?_⟩
    rw [hsat]
    unfold loQ
    rw [hi]; simp
  have hi : E.is = true := by simpa using hi
  have hc := cmp_v s1.ok (hE.sm hi).ok
  rcases hc with ⟨c1, c2⟩ | ⟨c1, c2⟩ | ⟨c1, c2⟩
  · rw [if_neg (by rw [hi]; simp; omega), if_neg (by omega)]
    refine ⟨hE, fun x => ⟨fun h => ⟨h, ?_⟩, fun h => h.1⟩⟩
    rw [hsat]
    have h' := h hi
    split at h' <;> split <;> grind
  · rw [if_neg (by rw [hi, c1]; simp), if_pos c1]
    refine ⟨⟨fun _ => hE.sm hi, fun _ => ?_⟩, fun x => ?_⟩
    · obtain ⟨r', b', p1, p2, p3, p4⟩ := hE.att hi
      cases hs : Bd.st b
      · exact ⟨r', b', p1, p2, p3, by simp only [Bool.or_false]; exact p4⟩
      · exact ⟨v r, b, hP, hn, by simp only; rw [← c2, s3]; push_cast; grind, by simp [hs]⟩
    · rw [hsat]
      unfold loQ
      simp only [hi, true_implies]
      cases hs : E.strict <;> cases hs2 : Bd.st b <;> simp <;> rw [c2] <;> (try constructor) <;> grind
  · rw [if_pos (.inr (by omega))]
    refine ⟨hnew, fun x => ?_⟩
    rw [hsat]
    unfold loQ
    simp only [hi, true_implies]
    constructor
    · intro h
      refine ⟨?_, h⟩
      split at h <;> split <;> grind
    · exact fun h => h.2
theorem near_hi {P : Rat → Int → Prop} {E : End} {D M Dr Mr b : Int} {r : Rt} (hE : EOk D M P (-1) E) (hr : Sm Dr Mr r) (hMr : 0 ≤ Mr) (hDr : Dr ≤ D) (hD : D ≤ 1048576) (hMM : Mr + 288230376151711744 ≤ M) (hM2 : M < 2305843009213693952) (hMd : M * D ≤ 9223372036854775807) (hb : lim 288230376151711744 b) (hP : P (v r) b) :
    EOk D M P (-1) (nearer E b r (-1)) ∧ ∀ x, hiQ (nearer E b r (-1)) x ↔ (hiQ E x ∧ satO (x - v r) (ob b)) := by
  unfold nearer
  by_cases hn : b = NO
  · subst hn
    rw [value_no]
    rw [if_pos (by decide)]
    refine ⟨hE, fun x => ⟨fun h => ⟨h, ?_⟩, fun h => h.1⟩⟩
    simp [ob, satO]
  have hbb := hb.resolve_left hn
  rw [value_of hb hn]
  simp only [ne_eq, not_true_eq_false, if_false]
  have hDp : 1 ≤ D := by have := (ok_bd hr.ok).1; have := hr.den; omega
  have hMd2 : (Mr + 288230376151711744) * D ≤ 9223372036854775807 := Int.le_trans (Int.mul_le_mul_of_nonneg_right hMM (by omega)) hMd
  obtain ⟨s1, s2⟩ := shift_sm (c := - -1 * (b / 2)) (m := 288230376151711744) (d := D) hr hMr (by omega) hDr hD (by omega) hMd2
  have s1 := s1.mono (Int.le_refl D) hMM
  have s3 : v (shift r (- -1 * (b / 2))) = v r + ((b / 2 : Int) : Rat) := by rw [s2]; push_cast; grind
  generalize shift r (- -1 * (b / 2)) = at_ at *
  have hob : ob b = some b := by unfold ob; rw [if_neg hn]
  rw [hob]
  have hnew : EOk D M P (-1) ⟨true, at_, Bd.st b⟩ := ⟨fun _ => s1, fun _ => ⟨v r, b, hP, hn, by rw [s3]; push_cast; grind, Iff.rfl⟩⟩
  have hsat : ∀ x, satO (x - v r) (some b) ↔ (if Bd.st b = true then x < v at_ else x ≤ v at_) := fun x => by
    simp only [satO, s3]
    cases Bd.st b <;> simp <;> constructor <;> intro h <;> grind
  by_cases hi : E.is = false
  · rw [if_pos (.inl hi)]
    refine ⟨hnew, fun x => ?_⟩
    rw [hsat]
    unfold hiQ
    rw [hi]; simp
  have hi : E.is = true := by simpa using hi
  have hc := cmp_v s1.ok (hE.sm hi).ok
  rcases hc with ⟨c1, c2⟩ | ⟨c1, c2⟩ | ⟨c1, c2⟩
  · rw [if_pos (.inr (by omega))]
    refine ⟨hnew, fun x => ?_⟩
    rw [hsat]
    unfold hiQ
    simp only [hi, true_implies]
    constructor
    · intro h
      refine ⟨?_, h⟩
      split at h <;> split <;> grind
    · exact fun h => h.2
  · rw [if_neg (by rw [hi, c1]; simp), if_pos c1]
    refine ⟨⟨fun _ => hE.sm hi, fun _ => ?_⟩, fun x => ?_⟩
    · obtain ⟨r', b', p1, p2, p3, p4⟩ := hE.att hi
      cases hs : Bd.st b
      · exact ⟨r', b', p1, p2, p3, by simp only [Bool.or_false]; exact p4⟩
      · exact ⟨v r, b, hP, hn, by simp only; rw [← c2, s3]; push_cast; grind, by simp [hs]⟩
    · rw [hsat]
      unfold hiQ
      simp only [hi, true_implies]
      cases hs : E.strict <;> cases hs2 : Bd.st b <;> simp <;> rw [c2] <;> (try constructor) <;> grind
  · rw [if_neg (by rw [hi]; simp; omega), if_neg (by omega)]
    refine ⟨hE, fun x => ⟨fun h => ⟨h, ?_⟩, fun h => h.1⟩⟩
    rw [hsat]
    have h' := h hi
    split at h' <;> split <;> grind
theorem st_bsum (u v : Int) : Bd.st (bsum u v) = true ↔ (Bd.st u = true ∨ Bd.st v = true) := by
  rw [st_iff, st_iff, st_iff]
  unfold bsum
  rcases parity u with h1 | h1 <;> rcases parity v with h2 | h2 <;> rw [h1, h2] <;> constructor <;> intro h <;> omega
/-- the ends leave room. -/
theorem ends_room {P Q : Rat → Int → Prop} {l h : End} {D M : Int} (hl : EOk D M P 1 l) (hh : EOk D M Q (-1) h) (hc : ∀ r b r' b', P r b → Q r' b' → b ≠ NO → b' ≠ NO → satO (r - r') (some (bsum b b'))) (h1 : l.is = true) (h2 : h.is = true) :
    v l.at_ ≤ v h.at_ ∧ ((l.strict = true ∨ h.strict = true) → v l.at_ < v h.at_) := by
  obtain ⟨r, b, p1, p2, p3, p4⟩ := hl.att h1
  obtain ⟨r', b', q1, q2, q3, q4⟩ := hh.att h2
  have hs := hc r b r' b' p1 q1 p2 q2
  have hst := st_bsum b b'
  rw [← p4, ← q4] at hst
  simp only [satO, bsum_half] at hs
  rw [p3, q3]
  push_cast at hs ⊢
  generalize ((b / 2 : Int) : Rat) = x at *
  generalize ((b' / 2 : Int) : Rat) = y at *
  split at hs
  · rename_i hk
    exact ⟨by grind, fun _ => by grind⟩
  · rename_i hk
    exact ⟨by grind, fun hh => absurd (hst.2 hh) hk⟩
theorem choose_ok {P Q : Rat → Int → Prop} {l h : End} {D M : Int} (hl : EOk D M P 1 l) (hh : EOk D M Q (-1) h) (hc : ∀ r b r' b', P r b → Q r' b' → b ≠ NO → b' ≠ NO → satO (r - r') (some (bsum b b')))
    (hD : 1 ≤ D) (hD2 : D * D * 2 ≤ 1048576) (hM : 0 ≤ M) (hM2 : M + 1 < 2305843009213693952) (hMd : (M + 1) * (D * D * 2) ≤ 9223372036854775807) :
    Sm (D * D * 2) (M + 1) (choose l h) ∧ loQ l (v (choose l h)) ∧ hiQ h (v (choose l h)) := by
  have hDD : D ≤ D * D * 2 := by
    have := Int.mul_le_mul_of_nonneg_right hD (show 0 ≤ D by omega)
    omega
  have hroom := ends_room hl hh hc
  unfold choose
  split
  · rename_i h1
    refine ⟨(hl.sm h1.1).mono hDD (by omega), fun _ => by rw [h1.2]; simp, fun h2 => ?_⟩
    obtain ⟨r1, r2⟩ := hroom h1.1 h2
    split
    · exact r2 (.inr (by assumption))
    · exact r1
  · rename_i n1
    split
    · rename_i h2
      refine ⟨(hh.sm h2.1).mono hDD (by omega), fun h1 => ?_, fun _ => by rw [h2.2]; simp⟩
      obtain ⟨r1, r2⟩ := hroom h1 h2.1
      split
      · exact r2 (.inl (by assumption))
      · exact r1
    · rename_i n2
      split
      · rename_i h3
        obtain ⟨r1, r2⟩ := hroom h3.1 h3.2
        have s1 : l.strict = true := by
          cases hs : l.strict
          · exact absurd ⟨h3.1, hs⟩ n1
          · rfl
        have r3 := r2 (.inl s1)
        obtain ⟨m1, m2⟩ := mid_sm (d := D * D * 2) (hl.sm h3.1) (hh.sm h3.2) hM (Int.le_refl _) hD2 (by omega) (Int.le_trans (Int.mul_le_mul_of_nonneg_right (show M ≤ M + 1 by omega) (by omega)) hMd)
        refine ⟨m1.mono (Int.le_refl _) (by omega), fun _ => ?_, fun _ => ?_⟩
        · split <;> grind
        · split <;> grind
      · rename_i n3
        split
        · rename_i h1
          have h2 : h.is = false := by
            cases hs : h.is
            · rfl
            · exact absurd ⟨h1, hs⟩ n3
          obtain ⟨m1, m2⟩ := shift_sm (c := 1) (m := 1) (d := D * D * 2) (hl.sm h1) hM (by omega) hDD hD2 hM2 hMd
          refine ⟨m1, fun _ => ?_, fun hh2 => by rw [h2] at hh2; cases hh2⟩
          rw [m2]
          split <;> grind
        · rename_i n4
          have h1 : l.is = false := by simpa using n4
          split
          · rename_i h2
            obtain ⟨m1, m2⟩ := shift_sm (c := -1) (m := 1) (d := D * D * 2) (hh.sm h2) hM (by omega) hDD hD2 hM2 hMd
            refine ⟨m1, fun hh2 => absurd hh2 (by rw [h1]; decide), fun _ => ?_⟩
            rw [m2]
            split <;> grind
          · rename_i n5
            have h2 : h.is = false := by simpa using n5
            refine ⟨⟨by decide, by simp only; omega, by simp only; omega, by simp only; omega⟩, fun hh2 => absurd hh2 (by rw [h1]; decide), fun hh2 => absurd hh2 (by rw [h2]; decide)⟩
theorem ends_ok {n : Nat} {C : List Int} {so : List Rt} {D M Dr Mr : Int} (hso : ∀ j, j < so.length → Sm Dr Mr (so[j]?.getD ⟨0, 1⟩)) (hMr : 0 ≤ Mr) (hDr : Dr ≤ D) (hD : D ≤ 1048576) (hMM : Mr + 288230376151711744 ≤ M) (hM2 : M < 2305843009213693952) (hMd : M * D ≤ 9223372036854775807)
    (hb : ∀ j, j < so.length → lim 288230376151711744 (C[j * n + so.length]?.getD 0) ∧ lim 288230376151711744 (C[so.length * n + j]?.getD 0)) : ∀ k, k ≤ so.length →
    (EOk D M (fun r b => ∃ j, j < so.length ∧ r = v (so[j]?.getD ⟨0, 1⟩) ∧ b = C[j * n + so.length]?.getD 0) 1 (ends n C so k).1 ∧ ∀ x, loQ (ends n C so k).1 x ↔ ∀ j, j < k → satO (v (so[j]?.getD ⟨0, 1⟩) - x) (ob (C[j * n + so.length]?.getD 0))) ∧
    (EOk D M (fun r b => ∃ j, j < so.length ∧ r = v (so[j]?.getD ⟨0, 1⟩) ∧ b = C[so.length * n + j]?.getD 0) (-1) (ends n C so k).2 ∧ ∀ x, hiQ (ends n C so k).2 x ↔ ∀ j, j < k → satO (x - v (so[j]?.getD ⟨0, 1⟩)) (ob (C[so.length * n + j]?.getD 0)))
  | 0, _ => by
    exact ⟨⟨⟨fun h => by simp [ends, End.none] at h, fun h => by simp [ends, End.none] at h⟩, fun x => ⟨fun _ j hj => by omega, fun _ h => by simp [ends, End.none] at h⟩⟩, ⟨⟨fun h => by simp [ends, End.none] at h, fun h => by simp [ends, End.none] at h⟩, fun x => ⟨fun _ j hj => by omega, fun _ h => by simp [ends, End.none] at h⟩⟩⟩
  | k + 1, hk => by
    obtain ⟨⟨l1, l2⟩, ⟨h1, h2⟩⟩ := ends_ok hso hMr hDr hD hMM hM2 hMd hb k (by omega)
    obtain ⟨a1, a2⟩ := near_lo l1 (hso k (by omega)) hMr hDr hD hMM hM2 hMd (hb k (by omega)).1 ⟨k, by omega, rfl, rfl⟩
    obtain ⟨b1, b2⟩ := near_hi h1 (hso k (by omega)) hMr hDr hD hMM hM2 hMd (hb k (by omega)).2 ⟨k, by omega, rfl, rfl⟩
    have key : ∀ (p : Nat → Prop), (∀ j, j < k + 1 → p j) ↔ ((∀ j, j < k → p j) ∧ p k) := fun p => by
      constructor
      · exact fun h => ⟨fun j hj => h j (by omega), h k (by omega)⟩
      · rintro ⟨h, h'⟩ j hj
        rcases Nat.lt_succ_iff_lt_or_eq.1 hj with hj | rfl
        · exact h j hj
        · exact h'
    refine ⟨⟨a1, fun x => ?_⟩, ⟨b1, fun x => ?_⟩⟩
    · show loQ (nearer _ _ _ 1) x ↔ _
      rw [a2, l2, key (fun j => satO (v (so[j]?.getD ⟨0, 1⟩) - x) (ob (C[j * n + so.length]?.getD 0)))]
    · show hiQ (nearer _ _ _ (-1)) x ↔ _
      rw [b2, h2, key (fun j => satO (x - v (so[j]?.getD ⟨0, 1⟩)) (ob (C[so.length * n + j]?.getD 0)))]
/-- one clock more. -/
theorem pick_ok {N : Nat} {C : List Int} {so : List Rt} {D M : Int} (hC : Clo N C) (hlim : ∀ i j, i < N → j < N → lim 288230376151711744 (C[i * N + j]?.getD 0)) (hm : so.length < N) (hso : ∀ j, j < so.length → Sm D M (so[j]?.getD ⟨0, 1⟩))
    (hf : ∀ i j, i < so.length → j < so.length → satO (v (so[i]?.getD ⟨0, 1⟩) - v (so[j]?.getD ⟨0, 1⟩)) (mx N C i j)) (hM : 0 ≤ M) (hD : 1 ≤ D) (hD2 : D * D * 2 ≤ 1048576) (hM2 : M + 288230376151711744 + 1 < 2305843009213693952) (hMd : (M + 288230376151711744 + 1) * (D * D * 2) ≤ 9223372036854775807) :
    Sm (D * D * 2) (M + 288230376151711744 + 1) (pick N C so) ∧ ∀ j, j < so.length → satO (v (so[j]?.getD ⟨0, 1⟩) - v (pick N C so)) (mx N C j so.length) ∧ satO (v (pick N C so) - v (so[j]?.getD ⟨0, 1⟩)) (mx N C so.length j) := by
  have hDD : D ≤ D * D * 2 := by
    have := Int.mul_le_mul_of_nonneg_right hD (show 0 ≤ D by omega)
    omega
  have hq : (M + 288230376151711744) * D ≤ 9223372036854775807 := Int.le_trans (Int.mul_le_mul (show M + 288230376151711744 ≤ M + 288230376151711744 + 1 by omega) hDD (by omega) (by omega)) hMd
  obtain ⟨⟨l1, l2⟩, ⟨h1, h2⟩⟩ := ends_ok (n := N) (C := C) (D := D) (M := M + 288230376151711744) hso hM (Int.le_refl _) (by omega) (Int.le_refl _) (by omega) hq (fun j hj => ⟨hlim j _ (by omega) hm, hlim _ j hm (by omega)⟩) so.length (Nat.le_refl _)
  have hc : ∀ r b r' b', (∃ j, j < so.length ∧ r = v (so[j]?.getD ⟨0, 1⟩) ∧ b = C[j * N + so.length]?.getD 0) → (∃ j, j < so.length ∧ r' = v (so[j]?.getD ⟨0, 1⟩) ∧ b' = C[so.length * N + j]?.getD 0) → b ≠ NO → b' ≠ NO → satO (r - r') (some (bsum b b')) := by
    rintro r b r' b' ⟨j, hj, rfl, rfl⟩ ⟨i, hi, rfl, rfl⟩ n1 n2
    have ht := hC.tri j i so.length (by omega) (by omega) hm
    have := satO_mono ht (hf j i hj hi)
    have e1 : mx N C j so.length = some (C[j * N + so.length]?.getD 0) := by unfold mx ob; rw [if_neg n1]
    have e2 : mx N C so.length i = some (C[so.length * N + i]?.getD 0) := by unfold mx ob; rw [if_neg n2]
    rw [e1, e2] at this
    exact this
  obtain ⟨c1, c2, c3⟩ := choose_ok l1 h1 hc hD hD2 (by omega) hM2 hMd
  exact ⟨c1, fun j hj => ⟨(l2 _).1 c2 j hj, (h2 _).1 c3 j hj⟩⟩
/-- what is picked of a closed matrix of three clocks keeps it. -/
theorem picks_in {C : List Int} (hc : chk 3 C = 0) (hC : Clo 3 C) : ∃ t u : Rt, picks 3 C = ([t, u], 0) ∧ t.ok = true ∧ u.ok = true ∧ Fits 3 (mx 3 C) (tvs [t, u]) := by
  have hlen : C.length = 9 := hC.len
  have hlim : ∀ i j, i < 3 → j < 3 → lim 288230376151711744 (C[i * 3 + j]?.getD 0) := fun i j hi hj => chk_lim hc _ (by omega)
  have s0 : Sm 1 0 ⟨0, 1⟩ := ⟨by decide, by decide, by decide, by decide⟩
  have v0 : v ⟨0, 1⟩ = 0 := by
    show ((0 : Int) : Rat) / ((1 : Int) : Rat) = 0
    have h1 : ((1 : Int) : Rat) = 1 := rfl
    have h2 : ((0 : Int) : Rat) = 0 := rfl
    rw [h1, h2]; grind
  have d1 : ∀ i, i < 3 → satO 0 (mx 3 C i i) := fun i hi => by
    unfold mx ob
    rw [hC.diag i hi]
    exact satO_zero.2 (by omega)
  obtain ⟨a1, a2⟩ := pick_ok (so := [⟨0, 1⟩]) (D := 1) (M := 0) hC hlim (by decide) (fun j hj => by
      have hj : j < 1 := hj
      have e0 : j = 0 := by omega
      rw [e0]; exact s0)
    (fun i j hi hj => by
      have hi : i < 1 := hi
      have hj : j < 1 := hj
      have e0 : i = 0 := by omega
      have e1 : j = 0 := by omega
      rw [e0, e1, Rat.sub_self]; exact d1 0 (by decide)) (by decide) (by decide) (by decide) (by decide) (by decide)
  generalize ht : pick 3 C [⟨0, 1⟩] = t at *
  have b1 := a2 0 (by decide)
  have a1' : Sm 2 288230376151711745 t := a1
  have s0' := s0.mono (show (1 : Int) ≤ 2 by decide) (show (0 : Int) ≤ 288230376151711745 by decide)
  obtain ⟨c1, c2⟩ := pick_ok (so := [⟨0, 1⟩, t]) (D := 2) (M := 288230376151711745) hC hlim (by simp) (fun j hj => by
      have hj : j < 2 := hj
      have : j = 0 ∨ j = 1 := by omega
      rcases this with rfl | rfl
      · exact s0'
      · exact a1')
    (fun i j hi hj => by
      have hi : i < 2 := hi
      have hj : j < 2 := hj
      have : i = 0 ∨ i = 1 := by omega
      have : j = 0 ∨ j = 1 := by omega
      rcases ‹i = 0 ∨ _› with rfl | rfl <;> rcases ‹j = 0 ∨ _› with rfl | rfl
      · rw [Rat.sub_self]; exact d1 0 (by decide)
      · exact b1.1
      · exact b1.2
      · rw [Rat.sub_self]; exact d1 1 (by decide)) (by decide) (by decide) (by decide) (by decide) (by decide)
  generalize hu : pick 3 C [⟨0, 1⟩, t] = u at *
  have b2 := c2 0 (by simp)
  have b3 := c2 1 (by simp)
  have hp : picked 3 C = [t, u] := by
    unfold picked
    show (sofar 3 C 2).drop 1 = _
    simp only [sofar, List.singleton_append, List.cons_append, List.nil_append, ht, hu, List.drop_succ_cons, List.drop_zero]
  refine ⟨t, u, ?_, a1.ok, c1.ok, ?_⟩
  · unfold picks
    rw [if_pos hc]
    have e3 : Int.toNat 3 = 3 := rfl
    rw [e3, hC.close]
    simp only [hp]
  · intro i j hi hj
    have : i = 0 ∨ i = 1 ∨ i = 2 := by omega
    have : j = 0 ∨ j = 1 ∨ j = 2 := by omega
    rcases ‹i = 0 ∨ _› with rfl | rfl | rfl <;> rcases ‹j = 0 ∨ _› with rfl | rfl | rfl
    · rw [Rat.sub_self]; exact d1 0 (by decide)
    · exact b1.1
    · exact b2.1
    · exact b1.2
    · rw [Rat.sub_self]; exact d1 1 (by decide)
    · exact b3.1
    · exact b2.2
    · exact b3.2
    · rw [Rat.sub_self]; exact d1 2 (by decide)
end Incl
end Go.Proofs.YtodpgcdandechaaGreat

/-
  The contracts of zone.Pick and cover.Witness, by the engine.
-/
namespace Go.Proofs.YtodpgcdandechaaGreat
set_option linter.unusedVariables false
set_option linter.unusedSimpArgs false
set_option maxRecDepth 100000
open Go.RowKit Go.Proofs.YtodpgcdandechaaGreat.Eng Enc

namespace Zo
theorem clo {z : Zn} (h : chk z = 0) : Dbm.chk 3 (matL z) = 0 ∧ Dbm.Clo 3 (matL z) := by
  have hk := chk_eq.1 h
  unfold Dbm.close at hk
  split at hk
  · rename_i h0
    split at hk
    · rename_i C hC
      have : C = matL z := by simpa using hk
      subst this
      exact ⟨h0, Dbm.close_clo h0 hC⟩
    · simp at hk
  · simp at hk
def pick (z : Zn) : Pt × Int := if chk z = 0 then (match (Incl.picks 3 (matL z)).1 with | [t, u] => (⟨t, u⟩, 0) | _ => (⟨⟨0, 0⟩, ⟨0, 0⟩⟩, 0)) else (⟨⟨0, 0⟩, ⟨0, 0⟩⟩, 8)
end Zo
namespace Cv
def witness (z : Zn) (l : List Zn) : Pt × Int :=
  if checked [l, [z]] = 0 then (if (Mi.left z l).2 = 0 then (match (Mi.left z l).1 with | [] => (⟨⟨0, 0⟩, ⟨0, 0⟩⟩, 6) | x :: _ => Zo.pick x) else (⟨⟨0, 0⟩, ⟨0, 0⟩⟩, (Mi.left z l).2)) else (⟨⟨0, 0⟩, ⟨0, 0⟩⟩, checked [l, [z]])
end Cv
end Go.Proofs.YtodpgcdandechaaGreat

/-
  What the examples and the questions of chapter 12 mean, in plain words. No program is in sight.
-/
namespace Go.Proofs.YtodpgcdandechaaGreat
set_option linter.unusedVariables false
namespace Cv
def of (lo hi : Int) : Zn := (Zo.make ⟨lo, false, hi, false, false⟩ ⟨0, false, 4, false, false⟩ ⟨0, true, 0, false, true⟩).1
end Cv
namespace Cv
def among (l : List Zn) (p : Pt) : Bool × Bool := if l.any (fun b => decide ((Zo.has b p).2 ≠ 0)) = true then (false, false) else (l.any (fun b => (Zo.has b p).1), true)
end Cv
end Go.Proofs.YtodpgcdandechaaGreat

/-
  What is left of zones, as sets of points; the plain law of CoverWitness.
-/
namespace Go.Proofs.YtodpgcdandechaaGreat
set_option linter.unusedVariables false
set_option linter.unusedSimpArgs false
open Go.RowKit Go.Proofs.YtodpgcdandechaaGreat.Eng Enc
namespace Mi
open Dbm
/-- times that are a zone's. -/
def Fz (z : Zn) (t : Nat → Rat) : Prop := Fits 3 (mx 3 (Zo.matL z)) t
/-- the difference that a zone's bound speaks of. -/
def dif (i : Nat) (t : Nat → Rat) : Rat := if i = 0 then t 1 - t 0 else if i = 1 then t 0 - t 1 else if i = 2 then t 2 - t 0 else if i = 3 then t 0 - t 2 else if i = 4 then t 2 - t 1 else t 1 - t 2
theorem six {k : Nat} (h : k < 6) : k = 0 ∨ k = 1 ∨ k = 2 ∨ k = 3 ∨ k = 4 ∨ k = 5 := by omega
theorem fz_iff (z : Zn) (t : Nat → Rat) : Fz z t ↔ ∀ i, i < 6 → satO (dif i t) (ob (Zo.get z i)) := by
  have o1 : ob 1 = some 1 := by decide
  constructor
  · intro h i hi
    rcases six hi with rfl | rfl | rfl | rfl | rfl | rfl
    · exact h 1 0 (by decide) (by decide)
    · exact h 0 1 (by decide) (by decide)
    · exact h 2 0 (by decide) (by decide)
    · exact h 0 2 (by decide) (by decide)
    · exact h 2 1 (by decide) (by decide)
    · exact h 1 2 (by decide) (by decide)
  · intro h i j hi hj
    have : i = 0 ∨ i = 1 ∨ i = 2 := by omega
    have : j = 0 ∨ j = 1 ∨ j = 2 := by omega
    rcases ‹i = 0 ∨ _› with rfl | rfl | rfl <;> rcases ‹j = 0 ∨ _› with rfl | rfl | rfl
    · rw [Rat.sub_self]; show satO 0 (ob 1); rw [o1]; exact satO_zero.2 (by omega)
    · exact h 1 (by decide)
    · exact h 3 (by decide)
    · exact h 0 (by decide)
    · rw [Rat.sub_self]; show satO 0 (ob 1); rw [o1]; exact satO_zero.2 (by omega)
    · exact h 5 (by decide)
    · exact h 2 (by decide)
    · exact h 4 (by decide)
    · rw [Rat.sub_self]; show satO 0 (ob 1); rw [o1]; exact satO_zero.2 (by omega)
theorem satO_min (d : Rat) (x b : Int) : (x = NO ∨ x < NO) → (b = NO ∨ b < NO) → (satO d (ob (min x b)) ↔ satO d (ob x) ∧ satO d (ob b)) := by
  intro hx hb
  have mono : ∀ u v : Int, u ≤ v → (v = NO ∨ v < NO) → satO d (ob u) → satO d (ob v) := fun u v huv hv h => by
    refine satO_mono ?_ h
    unfold ob
    split
    · rename_i hu
      have : v = NO := by omega
      rw [if_pos this]; trivial
    · split
      · trivial
      · exact huv
  rcases Int.le_total x b with h | h
  · rw [Int.min_eq_left h]
    exact ⟨fun k => ⟨k, mono _ _ h hb k⟩, fun k => k.1⟩
  · rw [Int.min_eq_right h]
    exact ⟨fun k => ⟨mono _ _ h hx k, k⟩, fun k => k.2⟩
theorem get_set (z : Zn) {i j : Nat} (hi : i < 6) (hj : j < 6) (x : Int) : Zo.get (Zo.set z i x) j = if j = i then x else Zo.get z j := by
  rcases six hi with rfl | rfl | rfl | rfl | rfl | rfl <;> rcases six hj with rfl | rfl | rfl | rfl | rfl | rfl <;> rfl
theorem lim_lt {m b : Int} (h : lim m b) (hm : m ≤ 2305843009213693951) : b = NO ∨ b < NO := by
  rcases h with h | h
  · exact .inl h
  · right; unfold NO; omega
theorem get_lim {z : Zn} (h : chk 3 (Zo.matL z) = 0) {i : Nat} (hi : i < 6) : lim 288230376151711744 (Zo.get z i) := by
  have g : ∀ q, q < 9 → lim 288230376151711744 ((Zo.matL z)[q]?.getD 0) := fun q hq => chk_lim h q hq
  rcases six hi with rfl | rfl | rfl | rfl | rfl | rfl
  · exact g 3 (by decide)
  · exact g 1 (by decide)
  · exact g 6 (by decide)
  · exact g 2 (by decide)
  · exact g 7 (by decide)
  · exact g 5 (by decide)
theorem cut_fz {z : Zn} (hz : chk 3 (Zo.matL z) = 0) {i : Nat} (hi : i < 6) {b : Int} (hb : b = NO ∨ b < NO) (t : Nat → Rat) : Fz (cut z i b) t ↔ Fz z t ∧ satO (dif i t) (ob b) := by
  have hm := satO_min (dif i t) (Zo.get z i) b (lim_lt (get_lim hz hi) (by omega)) hb
  rw [fz_iff, fz_iff]
  unfold cut
  constructor
  · intro h
    have hi' := h i hi
    rw [get_set z hi hi, if_pos rfl] at hi'
    refine ⟨fun j hj => ?_, (hm.1 hi').2⟩
    by_cases e : j = i
    · subst e; exact (hm.1 hi').1
    · have := h j hj
      rwa [get_set z hi hj, if_neg e] at this
  · rintro ⟨h1, h2⟩ j hj
    rw [get_set z hi hj]
    by_cases e : j = i
    · subst e; rw [if_pos rfl]; exact hm.2 ⟨h1 j hj, h2⟩
    · rw [if_neg e]; exact h1 j hj
/-- a zone out of a matrix. -/
theorem of_ok {L : List Int} (h : (Zo.of 3 L).2 = 0) : Zo.chk (Zo.of 3 L).1 = 0 ∧ ∀ t, Fz (Zo.of 3 L).1 t ↔ Fits 3 (mx 3 L) t := by
  unfold Zo.of at h ⊢
  by_cases h0 : chk 3 L = 0
  case neg => rw [if_neg h0] at h; cases h
  rw [if_pos h0, if_pos rfl] at h ⊢
  have hcl : close 3 L = (match closeL 3 L with | some L' => (3, L', 0) | none => (0, [], 6)) := by unfold close; rw [if_pos h0]; rfl
  cases hC : closeL 3 L with
  | none => rw [hC] at hcl; rw [hcl] at h; rw [if_neg (by decide)] at h; cases h
  | some C =>
    rw [hC] at hcl
    rw [hcl] at h ⊢
    rw [if_pos rfl] at h ⊢
    unfold Zo.told at h ⊢
    by_cases h1 : chk 3 C = 0
    case neg =>
      have : (if chk 3 C = 0 then (Zo.ofL C, (0 : Int)) else (Zo.nought, 8)).2 = 0 := h
      rw [if_neg h1] at this; cases this
    have e1 : (if chk 3 C = 0 then (Zo.ofL C, (0 : Int)) else (Zo.nought, 8)) = (Zo.ofL C, 0) := if_pos h1
    show Zo.chk (if chk 3 C = 0 then (Zo.ofL C, (0 : Int)) else (Zo.nought, 8)).1 = 0 ∧ ∀ t, Fz (if chk 3 C = 0 then (Zo.ofL C, (0 : Int)) else (Zo.nought, 8)).1 t ↔ _
    rw [e1]
    have clo := close_clo h0 hC
    have hm : Zo.matL (Zo.ofL C) = C := by
      have hlen : C.length = 9 := clo.len
      have d0 := clo.diag 0 (by decide)
      have d1 := clo.diag 1 (by decide)
      have d2 := clo.diag 2 (by decide)
      match C, hlen with
      | [c0, c1, c2, c3, c4, c5, c6, c7, c8], _ =>
        simp at d0 d1 d2
        subst d0; subst d1; subst d2
        rfl
    refine ⟨?_, fun t => ?_⟩
    · unfold Zo.chk
      rw [hm]
      have : close 3 C = (3, C, 0) := by
        unfold close
        rw [if_pos h1]
        show (match closeL 3 C with | some L' => ((3 : Int), L', (0 : Int)) | none => (0, [], 6)) = _
        rw [clo.close]
      rw [if_pos this]
    · unfold Fz
      rw [hm]
      exact close_fits h0 hC t
theorem wth_ok {z : Zn} (hz : chk 3 (Zo.matL z) = 0) {i : Nat} (hi : i < 6) {b : Int} (hb : b = NO ∨ b < NO) (h : (wth z i b).2 = 0) : Zo.chk (wth z i b).1 = 0 ∧ ∀ t, Fz (wth z i b).1 t ↔ Fz z t ∧ satO (dif i t) (ob b) := by
  unfold wth at h ⊢
  by_cases h0 : chk 3 (Zo.matL (cut z i b)) = 0
  case neg => rw [if_neg h0] at h; cases h
  rw [if_pos h0] at h ⊢
  obtain ⟨h1, h2⟩ := of_ok h
  exact ⟨h1, fun t => (h2 t).trans (cut_fz hz hi hb t)⟩
theorem dif_other {i : Nat} (hi : i < 6) (t : Nat → Rat) : dif (other i) t = - dif i t := by
  rcases six hi with rfl | rfl | rfl | rfl | rfl | rfl <;> simp [dif, other] <;> grind
theorem not_lt {b : Int} (h : (Bd.not b).2 = 0) (hl : lim 288230376151711744 b) : b ≠ NO ∧ (Bd.not b).1 < NO ∧ ∀ d : Rat, satO (-d) (ob (Bd.not b).1) ↔ ¬ satO d (ob b) := by
  unfold Bd.not at h ⊢
  by_cases hn : b = NO
  · subst hn
    rw [Incl.value_no] at h
    rw [if_neg (by decide)] at h; cases h
  rw [Incl.value_of hl hn] at h ⊢
  simp only [if_true] at h ⊢
  have hb := hl.resolve_left hn
  have hok : Num.okB (-(b / 2)) = true := Num.okB_iff.2 (by omega)
  unfold Bd.made at h ⊢
  rw [if_pos hok] at h ⊢
  simp only
  refine ⟨hn, ?_, fun d => ?_⟩
  · unfold Bd.mk NO; split <;> omega
  · have hob : ob b = some b := by unfold ob; rw [if_neg hn]
    rw [hob]
    have hm : Bd.mk (-(b / 2)) (!Bd.st b) < NO ∧ -1000000000000000000 ≤ Bd.mk (-(b / 2)) (!Bd.st b) := by unfold Bd.mk NO; split <;> omega
    have hob2 : ob (Bd.mk (-(b / 2)) (!Bd.st b)) = some (Bd.mk (-(b / 2)) (!Bd.st b)) := by unfold ob; rw [if_neg (by omega)]
    rw [hob2]
    simp only [satO]
    cases hs : Bd.st b
    · have e1 : Bd.mk (-(b / 2)) (!false) = -(b / 2) * 2 := rfl
      have e2 : Bd.st (-(b / 2) * 2) = true := (st_iff _).2 (by omega)
      have e3 : -(b / 2) * 2 / 2 = -(b / 2) := by omega
      rw [e1, e2, e3, Rat.intCast_neg]
      simp only [Bool.false_eq_true, if_true, if_false]
      constructor <;> intro h <;> grind
    · have e1 : Bd.mk (-(b / 2)) (!true) = -(b / 2) * 2 + 1 := rfl
      have e2 : Bd.st (-(b / 2) * 2 + 1) = false := by
        cases hh : Bd.st (-(b / 2) * 2 + 1)
        · rfl
        · have := (st_iff _).1 hh; omega
      have e3 : (-(b / 2) * 2 + 1) / 2 = -(b / 2) := by omega
      rw [e1, e2, e3, Rat.intCast_neg]
      simp only [Bool.false_eq_true, if_true, if_false]
      constructor <;> intro h <;> grind
/-- each of what is told is of the one, and breaks one of the other's bounds. -/
theorem go_ok {b : Zn} (hb : chk 3 (Zo.matL b) = 0) : ∀ (l : List Nat) (x : Zn), (∀ i, i ∈ l → i < 6) → chk 3 (Zo.matL x) = 0 → (∀ y, y ∈ go b l x → y.2 = 0) →
    ∀ y, y ∈ go b l x → Zo.chk y.1 = 0 ∧ ∀ t, Fz y.1 t → Fz x t ∧ ∃ i, i < 6 ∧ ¬ satO (dif i t) (ob (Zo.get b i))
  | [], x, _, _, _, y, hy => by simp [go] at hy
  | i :: l, x, hl, hx, h0, y, hy => by
    have hi := hl i (by simp)
    have hll : ∀ j, j ∈ l → j < 6 := fun j hj => hl j (by simp [hj])
    unfold go at h0 hy
    by_cases hn : (Bd.not (Zo.get b i)).2 ≠ 0
    · rw [if_pos hn] at h0 hy
      exact go_ok hb l x hll hx h0 y hy
    rw [if_neg hn] at h0 hy
    have hn : (Bd.not (Zo.get b i)).2 = 0 := by simpa using hn
    obtain ⟨n1, n2, n3⟩ := not_lt hn (get_lim hb hi)
    have ho : other i < 6 := by unfold other; split <;> omega
    rcases List.mem_append.1 hy with hy' | hy'
    · by_cases h6 : (wth x (other i) (Bd.not (Zo.get b i)).1).2 = 6
      · rw [if_pos h6] at hy'; simp at hy'
      · rw [if_neg h6] at hy'
        have e := List.mem_singleton.1 hy'
        have hz := h0 _ (by rw [if_neg h6]; exact List.mem_append.2 (.inl (List.mem_singleton.2 rfl)))
        obtain ⟨w1, w2⟩ := wth_ok hx ho (.inr n2) hz
        rw [e]
        refine ⟨w1, fun t ht => ?_⟩
        obtain ⟨k1, k2⟩ := (w2 t).1 ht
        rw [dif_other hi] at k2
        exact ⟨k1, i, hi, (n3 _).1 k2⟩
    · by_cases h6 : (wth x i (Zo.get b i)).2 = 6
      · rw [if_pos h6] at hy'; simp at hy'
      · rw [if_neg h6] at hy' h0
        have hz : (wth x i (Zo.get b i)).2 = 0 := by
          by_cases e : (wth x i (Zo.get b i)).2 = 0
          · exact e
          · exact h0 _ (List.mem_append.2 (.inr (List.mem_append.2 (.inl (by rw [if_neg e]; exact List.mem_singleton.2 rfl)))))
        rw [if_pos hz, List.nil_append] at hy' h0
        obtain ⟨w1, w2⟩ := wth_ok hx hi (lim_lt (get_lim hb hi) (by omega)) hz
        obtain ⟨g1, g2⟩ := go_ok hb l _ hll (Zo.clo w1).1 (fun y hy => h0 y (List.mem_append.2 (.inr hy))) y hy'
        refine ⟨g1, fun t ht => ?_⟩
        obtain ⟨k1, k2⟩ := g2 t ht
        exact ⟨((w2 t).1 k1).1, k2⟩
/-- zones that may be, and lie in a set. -/
def Within (S : (Nat → Rat) → Prop) (l : List Zn) : Prop := ∀ z, z ∈ l → Zo.chk z = 0 ∧ ∀ t, Fz z t → S t
theorem minus_ok {a b : Zn} (ha : Zo.chk a = 0) (hb : Zo.chk b = 0) (h : (minus a b).2 = 0) : Within (fun t => Fz a t ∧ ¬ Fz b t) (minus a b).1 := by
  unfold minus at h ⊢
  rw [if_pos ⟨ha, hb⟩] at h ⊢
  cases hf : (parts a b).find? (fun x => decide (x.2 ≠ 0)) with
  | some x =>
    rw [hf] at h
    have := List.find?_some hf
    simp at this h
    exact absurd h this
  | none =>
    have h0 : ∀ y, y ∈ parts a b → y.2 = 0 := fun y hy => by have := List.find?_eq_none.1 hf y hy; simpa using this
    intro z hz
    simp only [List.mem_map] at hz
    obtain ⟨y, hy, rfl⟩ := hz
    obtain ⟨g1, g2⟩ := go_ok (Zo.clo hb).1 [0, 1, 2, 3, 4, 5] a (by simp) (Zo.clo ha).1 h0 y hy
    refine ⟨g1, fun t ht => ?_⟩
    obtain ⟨k1, i, hi, k2⟩ := g2 t ht
    exact ⟨k1, fun hbt => k2 ((fz_iff b t).1 hbt i hi)⟩
theorem inner_ok {b : Zn} (hb : Zo.chk b = 0) {A : (Nat → Rat) → Prop} : ∀ (out next : List Zn), Within A out → Within (fun t => A t ∧ ¬ Fz b t) next → (inner b out next).2 = 0 → Within (fun t => A t ∧ ¬ Fz b t) (inner b out next).1
  | [], next, _, hn, _ => hn
  | z :: t, next, ho, hn, h => by
    rw [inner_cons] at h ⊢
    by_cases h1 : (minus z b).2 ≠ 0
    · rw [if_pos h1] at h; exact absurd h h1
    rw [if_neg h1] at h ⊢
    by_cases h2 : 4096 < (next ++ (minus z b).1).length
    · rw [if_pos h2] at h; cases h
    rw [if_neg h2] at h ⊢
    obtain ⟨z1, z2⟩ := ho z (by simp)
    refine inner_ok hb t _ (fun y hy => ho y (by simp [hy])) (fun y hy => ?_) h
    rcases List.mem_append.1 hy with hy | hy
    · exact hn y hy
    · obtain ⟨k1, k2⟩ := minus_ok z1 hb (by simpa using h1) y hy
      exact ⟨k1, fun t ht => ⟨z2 t (k2 t ht).1, (k2 t ht).2⟩⟩
theorem outer_ok : ∀ (l out : List Zn) {A : (Nat → Rat) → Prop}, (∀ b, b ∈ l → Zo.chk b = 0) → Within A out → (outer l out).2 = 0 → Within (fun t => A t ∧ ∀ b, b ∈ l → ¬ Fz b t) (outer l out).1
  | [], out, A, _, ho, _ => fun z hz => ⟨(ho z hz).1, fun t ht => ⟨(ho z hz).2 t ht, by simp⟩⟩
  | b :: l, out, A, hl, ho, h => by
    rw [outer_cons] at h ⊢
    by_cases h1 : (inner b out []).2 ≠ 0
    · rw [if_pos h1] at h; exact absurd h h1
    rw [if_neg h1] at h ⊢
    have hi := inner_ok (hl b (by simp)) out [] ho (fun z hz => by simp at hz) (by simpa using h1)
    have ho' := outer_ok l _ (fun y hy => hl y (by simp [hy])) hi h
    intro z hz
    obtain ⟨k1, k2⟩ := ho' z hz
    refine ⟨k1, fun t ht => ?_⟩
    obtain ⟨⟨q1, q2⟩, q3⟩ := k2 t ht
    refine ⟨q1, fun y hy => ?_⟩
    rcases List.mem_cons.1 hy with rfl | hy
    · exact q2
    · exact q3 y hy
theorem left_ok {a : Zn} {l : List Zn} (h : (left a l).2 = 0) : Zo.chk a = 0 ∧ (∀ b, b ∈ l → Zo.chk b = 0) ∧ left a l = outer l [a] ∧ Within (fun t => Fz a t ∧ ∀ b, b ∈ l → ¬ Fz b t) (left a l).1 := by
  unfold left at h ⊢
  by_cases ha : Zo.chk a ≠ 0
  · rw [if_pos ha] at h; cases h
  rw [if_neg ha] at h ⊢
  have ha : Zo.chk a = 0 := by simpa using ha
  by_cases hl : l.any (fun b => decide (Zo.chk b ≠ 0)) = true
  · rw [if_pos hl] at h; cases h
  rw [if_neg hl] at h ⊢
  have hl : ∀ b, b ∈ l → Zo.chk b = 0 := fun b hb => by
    rcases Classical.em (Zo.chk b = 0) with e | e
    · exact e
    · exact absurd (List.any_eq_true.2 ⟨b, hb, by simpa using e⟩) hl
  exact ⟨ha, hl, rfl, outer_ok l [a] hl (fun z hz => by rw [List.mem_singleton.1 hz]; exact ⟨ha, fun t ht => ht⟩) h⟩
end Mi
theorem Zo.pick_ok {z : Zn} (hz : Zo.chk z = 0) : (Zo.pick z).2 = 0 ∧ (Zo.pick z).1.t.ok = true ∧ (Zo.pick z).1.u.ok = true ∧ Mi.Fz z (Dbm.tvs [(Zo.pick z).1.t, (Zo.pick z).1.u]) := by
  obtain ⟨c1, c2⟩ := Zo.clo hz
  obtain ⟨t, u, hp, ht, hu, hf⟩ := Incl.picks_in c1 c2
  unfold Zo.pick
  rw [if_pos hz, hp]
  exact ⟨rfl, ht, hu, hf⟩
namespace Cv
/-- what the law of witnesses wants. -/
structure WitLaw (z : Zn) (l : List Zn) (more : Zn) : Prop where
  err : (in_ z l).2 ≠ 0 → (witness z l).2 = (in_ z l).2 ∧ (in_ z l).1 = false
  yes : (in_ z l).2 = 0 → (in_ z l).1 = true → (witness z l).2 = 6 ∧ ((in_ z (l ++ [more])).2 = 0 → (in_ z (l ++ [more])).1 = true)
  no : (in_ z l).2 = 0 → (in_ z l).1 = false → (witness z l).2 = 0 ∧ Zo.has z (witness z l).1 = (true, 0) ∧ among l (witness z l).1 = (false, true)
  ins : (witness z l).1.ins
theorem in_split (z : Zn) (l : List Zn) : (checked [l, [z]] ≠ 0 ∧ in_ z l = (false, checked [l, [z]])) ∨ (checked [l, [z]] = 0 ∧ in_ z l = (decide ((Mi.left z l).2 = 0) && decide ((Mi.left z l).1.length = 0), (Mi.left z l).2)) := by
  unfold in_
  by_cases h : checked [l, [z]] = 0
  · right; rw [if_pos h]; exact ⟨h, rfl⟩
  · left; rw [if_neg h]; exact ⟨h, rfl⟩
end Cv
end Go.Proofs.YtodpgcdandechaaGreat

/-
  What is left of zones is all that is not the others' (the other half of XPlainWit); what cover.In tells, in points.
-/
namespace Go.Proofs.YtodpgcdandechaaGreat
set_option linter.unusedVariables false
set_option linter.unusedSimpArgs false
open Go.RowKit Go.Proofs.YtodpgcdandechaaGreat.Eng Enc
namespace Mi
open Dbm
theorem of_none {L : List Int} (h : (Zo.of 3 L).2 = 6) (t : Nat → Rat) : ¬ Fits 3 (mx 3 L) t := by
  intro ht
  unfold Zo.of at h
  by_cases h0 : chk 3 L = 0
  case neg => rw [if_neg h0] at h; cases h
  rw [if_pos h0, if_pos rfl] at h
  obtain ⟨C, hC⟩ := close_some h0 ht
  have hcl : close 3 L = (3, C, 0) := by
    unfold close; rw [if_pos h0]
    show (match closeL 3 L with | some L' => ((3 : Int), L', (0 : Int)) | none => (0, [], 6)) = _
    rw [hC]
  rw [hcl] at h
  rw [if_pos rfl] at h
  unfold Zo.told at h
  by_cases h1 : chk 3 C = 0
  · have : (if chk 3 C = 0 then (Zo.ofL C, (0 : Int)) else (Zo.nought, 8)).2 = 6 := h
    rw [if_pos h1] at this; cases this
  · have : (if chk 3 C = 0 then (Zo.ofL C, (0 : Int)) else (Zo.nought, 8)).2 = 6 := h
    rw [if_neg h1] at this; cases this
theorem wth_none {z : Zn} (hz : chk 3 (Zo.matL z) = 0) {i : Nat} (hi : i < 6) {b : Int} (hb : b = NO ∨ b < NO) (h : (wth z i b).2 = 6) (t : Nat → Rat) : ¬ (Fz z t ∧ satO (dif i t) (ob b)) := by
  unfold wth at h
  by_cases h0 : chk 3 (Zo.matL (cut z i b)) = 0
  case neg => rw [if_neg h0] at h; cases h
  rw [if_pos h0] at h
  intro ht
  exact of_none h t ((cut_fz hz hi hb t).2 ht)
theorem not_err {b : Int} (h : (Bd.not b).2 ≠ 0) (hl : lim 288230376151711744 b) : b = NO := by
  by_cases hn : b = NO
  · exact hn
  exfalso
  apply h
  unfold Bd.not
  rw [Incl.value_of hl hn]
  have hb := hl.resolve_left hn
  have hok : Num.okB (-(b / 2)) = true := Num.okB_iff.2 (by omega)
  simp only [if_true]
  unfold Bd.made
  rw [if_pos hok]
theorem go_all {b : Zn} (hb : chk 3 (Zo.matL b) = 0) : ∀ (l : List Nat) (x : Zn), (∀ i, i ∈ l → i < 6) → chk 3 (Zo.matL x) = 0 → (∀ y, y ∈ go b l x → y.2 = 0) →
    ∀ t, Fz x t → (∃ i, i ∈ l ∧ ¬ satO (dif i t) (ob (Zo.get b i))) → ∃ y, y ∈ go b l x ∧ Fz y.1 t
  | [], x, _, _, _, t, _, ⟨i, hi, _⟩ => by simp at hi
  | i :: l, x, hl, hx, h0, t, ht, hi0 => by
    have hi := hl i (by simp)
    have hll : ∀ j, j ∈ l → j < 6 := fun j hj => hl j (by simp [hj])
    unfold go at h0 ⊢
    by_cases hn : (Bd.not (Zo.get b i)).2 ≠ 0
    · rw [if_pos hn] at h0 ⊢
      have hno := not_err hn (get_lim hb hi)
      obtain ⟨j, hj, hs⟩ := hi0
      rcases List.mem_cons.1 hj with rfl | hj
      · exfalso; apply hs; rw [hno]; trivial
      · exact go_all hb l x hll hx h0 t ht ⟨j, hj, hs⟩
    rw [if_neg hn] at h0 ⊢
    have hn : (Bd.not (Zo.get b i)).2 = 0 := by simpa using hn
    obtain ⟨n1, n2, n3⟩ := not_lt hn (get_lim hb hi)
    have ho : other i < 6 := by unfold other; split <;> omega
    by_cases hs : satO (dif i t) (ob (Zo.get b i))
    · have h6 : (wth x i (Zo.get b i)).2 ≠ 6 := fun e => wth_none hx hi (lim_lt (get_lim hb hi) (by omega)) e t ⟨ht, hs⟩
      rw [if_neg h6] at h0 ⊢
      have hz : (wth x i (Zo.get b i)).2 = 0 := by
        by_cases e : (wth x i (Zo.get b i)).2 = 0
        · exact e
        · exact h0 _ (List.mem_append.2 (.inr (List.mem_append.2 (.inl (by rw [if_neg e]; exact List.mem_singleton.2 rfl)))))
      rw [if_pos hz, List.nil_append] at h0 ⊢
      obtain ⟨w1, w2⟩ := wth_ok hx hi (lim_lt (get_lim hb hi) (by omega)) hz
      obtain ⟨j, hj, hsj⟩ := hi0
      rcases List.mem_cons.1 hj with rfl | hj
      · exact absurd hs hsj
      obtain ⟨y, hy, hyt⟩ := go_all hb l _ hll (Zo.clo w1).1 (fun y hy => h0 y (List.mem_append.2 (.inr hy))) t ((w2 t).2 ⟨ht, hs⟩) ⟨j, hj, hsj⟩
      exact ⟨y, List.mem_append.2 (.inr hy), hyt⟩
    · have hsn : satO (dif (other i) t) (ob (Bd.not (Zo.get b i)).1) := by rw [dif_other hi]; exact (n3 _).2 hs
      have h6 : (wth x (other i) (Bd.not (Zo.get b i)).1).2 ≠ 6 := fun e => wth_none hx ho (.inr n2) e t ⟨ht, hsn⟩
      rw [if_neg h6] at h0 ⊢
      have hm : wth x (other i) (Bd.not (Zo.get b i)).1 ∈ [wth x (other i) (Bd.not (Zo.get b i)).1] ++ (if (wth x i (Zo.get b i)).2 = 6 then [] else (if (wth x i (Zo.get b i)).2 = 0 then [] else [wth x i (Zo.get b i)]) ++ go b l (wth x i (Zo.get b i)).1) := List.mem_append.2 (.inl (List.mem_singleton.2 rfl))
      obtain ⟨w1, w2⟩ := wth_ok hx ho (.inr n2) (h0 _ hm)
      exact ⟨_, hm, (w2 t).2 ⟨ht, hsn⟩⟩
theorem minus_all {a b : Zn} (ha : Zo.chk a = 0) (hb : Zo.chk b = 0) (h : (minus a b).2 = 0) {t : Nat → Rat} (ht : Fz a t) (hn : ¬ Fz b t) : ∃ y, y ∈ (minus a b).1 ∧ Fz y t := by
  unfold minus at h ⊢
  rw [if_pos ⟨ha, hb⟩] at h ⊢
  cases hf : (parts a b).find? (fun x => decide (x.2 ≠ 0)) with
  | some x =>
    rw [hf] at h
    have := List.find?_some hf
    simp at this h
    exact absurd h this
  | none =>
    have h0 : ∀ y, y ∈ parts a b → y.2 = 0 := fun y hy => by have := List.find?_eq_none.1 hf y hy; simpa using this
    have hex : ∃ i, i < 6 ∧ ¬ satO (dif i t) (ob (Zo.get b i)) := by
      apply Classical.byContradiction
      intro hall
      exact hn ((fz_iff b t).2 fun i hi => Classical.byContradiction fun hs => hall ⟨i, hi, hs⟩)
    obtain ⟨i, hi, hs⟩ := hex
    obtain ⟨y, hy, hyt⟩ := go_all (Zo.clo hb).1 [0, 1, 2, 3, 4, 5] a (by simp) (Zo.clo ha).1 h0 t ht ⟨i, by rcases six hi with rfl | rfl | rfl | rfl | rfl | rfl <;> simp, hs⟩
    exact ⟨y.1, List.mem_map.2 ⟨y, hy, rfl⟩, hyt⟩
theorem inner_all {b : Zn} (hb : Zo.chk b = 0) : ∀ (out next : List Zn), (∀ z, z ∈ out → Zo.chk z = 0) → (inner b out next).2 = 0 → ∀ t, ((∃ y, y ∈ next ∧ Fz y t) ∨ ((∃ y, y ∈ out ∧ Fz y t) ∧ ¬ Fz b t)) → ∃ y, y ∈ (inner b out next).1 ∧ Fz y t
  | [], next, _, _, t, h => by
    rcases h with h | ⟨⟨y, hy, _⟩, _⟩
    · exact h
    · simp at hy
  | z :: o, next, ho, h, t, hm => by
    rw [inner_cons] at h ⊢
    by_cases h1 : (minus z b).2 ≠ 0
    · rw [if_pos h1] at h; exact absurd h h1
    rw [if_neg h1] at h ⊢
    by_cases h2 : 4096 < (next ++ (minus z b).1).length
    · rw [if_pos h2] at h; cases h
    rw [if_neg h2] at h ⊢
    refine inner_all hb o _ (fun y hy => ho y (by simp [hy])) h t ?_
    rcases hm with ⟨y, hy, hyt⟩ | ⟨⟨y, hy, hyt⟩, hnb⟩
    · exact .inl ⟨y, List.mem_append.2 (.inl hy), hyt⟩
    · rcases List.mem_cons.1 hy with rfl | hy
      · obtain ⟨x, hx, hxt⟩ := minus_all (ho y (by simp)) hb (by simpa using h1) hyt hnb
        exact .inl ⟨x, List.mem_append.2 (.inr hx), hxt⟩
      · exact .inr ⟨⟨y, hy, hyt⟩, hnb⟩
theorem outer_all : ∀ (l out : List Zn), (∀ b, b ∈ l → Zo.chk b = 0) → (∀ b, b ∈ out → Zo.chk b = 0) → (outer l out).2 = 0 → ∀ t, (∃ y, y ∈ out ∧ Fz y t) → (∀ b, b ∈ l → ¬ Fz b t) → ∃ y, y ∈ (outer l out).1 ∧ Fz y t
  | [], out, _, _, _, t, h, _ => h
  | b :: l, out, hl, ho, h, t, hm, hn => by
    rw [outer_cons] at h ⊢
    by_cases h1 : (inner b out []).2 ≠ 0
    · rw [if_pos h1] at h; exact absurd h h1
    rw [if_neg h1] at h ⊢
    have hb := hl b (by simp)
    have hi := inner_ok hb (A := fun _ => True) out [] (fun z hz => ⟨ho z hz, fun _ _ => trivial⟩) (fun z hz => by simp at hz) (by simpa using h1)
    exact outer_all l _ (fun y hy => hl y (by simp [hy])) (fun y hy => (hi y hy).1) h t (inner_all hb out [] ho (by simpa using h1) t (.inr ⟨hm, hn b (by simp)⟩)) fun y hy => hn y (by simp [hy])
theorem left_all {a : Zn} {l : List Zn} (h : (left a l).2 = 0) {t : Nat → Rat} (ht : Fz a t) (hn : ∀ b, b ∈ l → ¬ Fz b t) : ∃ y, y ∈ (left a l).1 ∧ Fz y t := by
  obtain ⟨ha, hl, hlo, _⟩ := left_ok h
  rw [hlo] at h ⊢
  exact outer_all l [a] hl (fun b hb => by rw [List.mem_singleton.1 hb]; exact ha) h t ⟨a, by simp, ht⟩ hn
theorem fz_ex {z : Zn} (hz : Zo.chk z = 0) : ∃ t, Fz z t := ⟨_, (Zo.pick_ok hz).2.2.2⟩
end Mi
namespace Cv
open Mi
/-- all points of a zone are of some. -/
def Cov (z : Zn) (l : List Zn) : Prop := ∀ t, Fz z t → ∃ b, b ∈ l ∧ Fz b t
theorem Cov.mono {z : Zn} {l m : List Zn} (h : Cov z l) (hs : ∀ x, x ∈ l → x ∈ m) : Cov z m := fun t ht => by
  obtain ⟨b, hb, hbt⟩ := h t ht
  exact ⟨b, hs b hb, hbt⟩
theorem in_ok {z : Zn} {l : List Zn} (h : (in_ z l).2 = 0) : Zo.chk z = 0 ∧ (∀ b, b ∈ l → Zo.chk b = 0) ∧ ((in_ z l).1 = true ↔ Cov z l) := by
  rcases in_split z l with ⟨h0, e⟩ | ⟨h0, e⟩
  · rw [e] at h; exact absurd h h0
  rw [e] at h ⊢
  simp only at h
  obtain ⟨ha, hl, hlo, hw⟩ := left_ok h
  refine ⟨ha, hl, ?_⟩
  simp only [h, decide_true, Bool.true_and, decide_eq_true_eq]
  constructor
  · intro hlen t ht
    apply Classical.byContradiction
    intro hno
    obtain ⟨y, hy, _⟩ := left_all h ht fun b hb hbt => hno ⟨b, hb, hbt⟩
    rw [List.eq_nil_of_length_eq_zero hlen] at hy
    simp at hy
  · intro hc
    cases hx : (left z l).1 with
    | nil => rfl
    | cons x r =>
      exfalso
      obtain ⟨x1, x2⟩ := hw x (by rw [hx]; simp)
      obtain ⟨t, ht⟩ := fz_ex x1
      obtain ⟨q1, q2⟩ := x2 t ht
      obtain ⟨b, hb, hbt⟩ := hc t q1
      exact q2 b hb hbt
end Cv
end Go.Proofs.YtodpgcdandechaaGreat

/-
  slices.Values at []api.Zone: its contract (as XValues, at zones).
-/
namespace Go.Proofs.YtodpgcdandechaaGreat
set_option linter.unusedVariables false
open Go.RowKit Go.Shelf Go.Proofs.YtodpgcdandechaaGreat.Eng
attribute [local go_sem] Oper.semAt_some

namespace VZ
end VZ
open VZ
end Go.Proofs.YtodpgcdandechaaGreat

/-
  slices.AppendSeq, Collect over slices.Values, at api.Zone, by the engine.
-/
namespace Go.Proofs.YtodpgcdandechaaGreat
set_option linter.unusedVariables false
set_option linter.unusedSimpArgs false
set_option maxRecDepth 100000
open Go.RowKit Go.Proofs.YtodpgcdandechaaGreat.Eng Enc

end Go.Proofs.YtodpgcdandechaaGreat

/-
  zone.Cmp: its contract, the world told exactly (blocks laid, draws made).
-/
namespace Go.Proofs.YtodpgcdandechaaGreat
set_option linter.unusedVariables false
set_option linter.unusedSimpArgs false
set_option maxRecDepth 100000
open Go.RowKit Go.Shelf

namespace Zo
/-- which of two zones comes first: by the first bound in which they part. -/
def cmp (x y : Zn) : Int :=
  if cmpI x.a y.a ≠ 0 then cmpI x.a y.a else if cmpI x.b y.b ≠ 0 then cmpI x.b y.b else if cmpI x.c y.c ≠ 0 then cmpI x.c y.c
  else if cmpI x.d y.d ≠ 0 then cmpI x.d y.d else if cmpI x.e y.e ≠ 0 then cmpI x.e y.e else if cmpI x.f y.f ≠ 0 then cmpI x.f y.f else 0
end Zo
end Go.Proofs.YtodpgcdandechaaGreat

/-
  DERIVED: THE SHELF's CONTRACTS AT THIS DUMP, IN PLAIN WORDS (tools/lay-plain.mjs out of 'YtodpgcdandechaaGreatShelf0.lean', which tools/lay-shelf.mjs wrote): THE SAME DECLARATIONS UNDER THE SAME NAMES: 'import', 'namespace', 'open', 'def', 'theorem' AND NOTHING ELSE: no command of the shelf's: FOR A HAND-IN. Each laying: the table of numbers ('.._ren') and one theorem, a field a fact of the dump's own or the kernel's comparison; each contract: ONE APPLICATION.
-/
namespace Go.Proofs
open Go.Shelf
end Go.Proofs

/-
  slices.SortFunc by zone.Cmp at a row of the run's own; slices.SortedFunc over slices.Values.
-/
namespace Go.Proofs.YtodpgcdandechaaGreat
set_option linter.unusedVariables false
set_option linter.unusedSimpArgs false
set_option maxRecDepth 100000
open Go.RowKit Go.Proofs.YtodpgcdandechaaGreat.Eng Enc Go.Shelf Go.Sort

namespace Zo
instance inhZn : Inhabited Zn := ⟨⟨0, 0, 0, 0, 0, 0⟩⟩
def Lt (x y : Zn) : Prop := x.a < y.a ∨ x.a = y.a ∧ (x.b < y.b ∨ x.b = y.b ∧ (x.c < y.c ∨ x.c = y.c ∧ (x.d < y.d ∨ x.d = y.d ∧ (x.e < y.e ∨ x.e = y.e ∧ (x.f < y.f ∨ x.f = y.f ∧ False)))))
theorem cmpI_lt (x y : Int) : cmpI x y < 0 ↔ x < y := by unfold cmpI; split <;> (try split) <;> omega
theorem cmpI_eq (x y : Int) : cmpI x y = 0 ↔ x = y := by unfold cmpI; split <;> (try split) <;> omega
theorem step_lt {x y c : Int} {P : Prop} (h : c < 0 ↔ P) : (if cmpI x y ≠ 0 then cmpI x y else c) < 0 ↔ (x < y ∨ x = y ∧ P) := by
  have h1 := cmpI_lt x y
  have h2 := cmpI_eq x y
  by_cases hc : cmpI x y = 0
  · rw [if_neg (by simp [hc]), h]
    have := h2.1 hc
    constructor
    · intro hp; exact .inr ⟨this, hp⟩
    · rintro (hl | ⟨_, hp⟩)
      · omega
      · exact hp
  · rw [if_pos hc, h1]
    constructor
    · exact .inl
    · rintro (hl | ⟨he, _⟩)
      · exact hl
      · exact absurd (h2.2 he) hc
theorem cmp_lt (x y : Zn) : cmp x y < 0 ↔ Lt x y := by
  unfold cmp Lt
  exact step_lt (step_lt (step_lt (step_lt (step_lt (step_lt (by simp))))))
theorem lex_trans {x y z : Int} {P Q R : Prop} (h : P → Q → R) : (x < y ∨ x = y ∧ P) → (y < z ∨ y = z ∧ Q) → (x < z ∨ x = z ∧ R) := by
  rintro (h1 | ⟨h1, hp⟩) (h2 | ⟨h2, hq⟩)
  · left; omega
  · left; omega
  · left; omega
  · right; exact ⟨by omega, h hp hq⟩
theorem lex_ntrans {x y z : Int} {P Q R : Prop} (h : ¬ P → ¬ Q → ¬ R) : ¬ (x < y ∨ x = y ∧ P) → ¬ (y < z ∨ y = z ∧ Q) → ¬ (x < z ∨ x = z ∧ R) := by
  intro h1 h2
  have a1 : ¬ x < y := fun h => h1 (.inl h)
  have a2 : ¬ y < z := fun h => h2 (.inl h)
  rintro (h3 | ⟨h3, hr⟩)
  · omega
  · have e1 : x = y := by omega
    have e2 : y = z := by omega
    exact h (fun hp => h1 (.inr ⟨e1, hp⟩)) (fun hq => h2 (.inr ⟨e2, hq⟩)) hr
theorem lex_tot {x y : Int} {P Q E : Prop} (h : ¬ P → ¬ Q → E) : ¬ (x < y ∨ x = y ∧ P) → ¬ (y < x ∨ y = x ∧ Q) → x = y ∧ E := by
  intro h1 h2
  have a1 : ¬ x < y := fun h => h1 (.inl h)
  have a2 : ¬ y < x := fun h => h2 (.inl h)
  have e1 : x = y := by omega
  exact ⟨e1, h (fun hp => h1 (.inr ⟨e1, hp⟩)) (fun hq => h2 (.inr ⟨e1.symm, hq⟩))⟩
theorem Lt.irrefl (x : Zn) : ¬ Lt x x := by unfold Lt; simp
theorem Lt.trans {x y z : Zn} : Lt x y → Lt y z → Lt x z := by
  unfold Lt
  exact lex_trans (lex_trans (lex_trans (lex_trans (lex_trans (lex_trans fun h _ => h)))))
theorem Lt.ntrans {x y z : Zn} : ¬ Lt x y → ¬ Lt y z → ¬ Lt x z := by
  unfold Lt
  exact lex_ntrans (lex_ntrans (lex_ntrans (lex_ntrans (lex_ntrans (lex_ntrans fun h _ => h)))))
theorem Lt.tot {x y : Zn} (h1 : ¬ Lt x y) (h2 : ¬ Lt y x) : x = y := by
  unfold Lt at h1 h2
  obtain ⟨e1, e2, e3, e4, e5, e6, _⟩ := lex_tot (lex_tot (lex_tot (lex_tot (lex_tot (lex_tot (E := True) fun _ _ => trivial))))) h1 h2
  cases x; cases y; simp_all
theorem lt_iff (x y : Zn) : ltOf cmp x y = true ↔ Lt x y := by unfold ltOf; simp [cmp_lt]
theorem lt_niff (x y : Zn) : ltOf cmp x y = false ↔ ¬ Lt x y := by unfold ltOf; simp [← cmp_lt]
theorem tot (x y : Zn) (h1 : ltOf cmp x y = false) (h2 : ltOf cmp y x = false) : x = y := Lt.tot ((lt_niff x y).1 h1) ((lt_niff y x).1 h2)
def sort (l : List Zn) : List Zn := l.mergeSort fun x y => !(ltOf cmp) y x
theorem sort_perm (l : List Zn) : (sort l).Perm l := List.mergeSort_perm l _
theorem sort_sorted (l : List Zn) : (sort l).Pairwise fun x y => ¬ Lt y x := by
  have h := List.pairwise_mergeSort (le := fun x y => !(ltOf cmp) y x) (fun x y z h1 h2 => by
    simp only [Bool.not_eq_eq_eq_not, Bool.not_true] at *
    exact (lt_niff z x).2 (Lt.ntrans ((lt_niff z y).1 h2) ((lt_niff y x).1 h1))) (fun x y => by
    simp only [Bool.or_eq_true, Bool.not_eq_eq_eq_not, Bool.not_true]
    by_cases h : Lt y x
    · exact .inr ((lt_niff x y).2 fun k => Lt.irrefl _ (h.trans k))
    · exact .inl ((lt_niff y x).2 h)) l
  refine h.imp fun {x y} hxy => ?_
  simp only [Bool.not_eq_eq_eq_not, Bool.not_true] at hxy
  exact (lt_niff y x).1 hxy
end Zo

end Go.Proofs.YtodpgcdandechaaGreat

/-
  Of zones that follow one another and are the same, one: the plain law of slices.Compact.
-/
namespace Go.Proofs.YtodpgcdandechaaGreat
set_option linter.unusedVariables false
set_option linter.unusedSimpArgs false
namespace Cv
/-- each of those that follow one another once. -/
def cpt : List Zn → List Zn
  | [] => []
  | x :: l => if l.head? = some x then cpt l else x :: cpt l
theorem cpt_cons (x : Zn) (l : List Zn) : cpt (x :: l) = if l.head? = some x then cpt l else x :: cpt l := rfl
theorem cpt_mem (l : List Zn) (x : Zn) : x ∈ cpt l ↔ x ∈ l := by
  induction l with
  | nil => simp [cpt]
  | cons y l ih =>
    rw [cpt_cons, List.mem_cons, ← ih]
    split
    · rename_i h
      have hy : y ∈ l := List.mem_of_mem_head? (by rw [h]; rfl)
      constructor
      · exact .inr
      · rintro (rfl | h2)
        · exact ih.2 hy
        · exact h2
    · rw [List.mem_cons]
end Cv
end Go.Proofs.YtodpgcdandechaaGreat

/-
  What is wanted of zones: sorted, each once, without those that the others cover; the plain laws.
-/
namespace Go.Proofs.YtodpgcdandechaaGreat
set_option linter.unusedVariables false
set_option linter.unusedSimpArgs false
open Go.RowKit Go.Proofs.YtodpgcdandechaaGreat.Eng Enc
namespace Cv
open Mi Zo
theorem cpt_strict {l : List Zn} (h : l.Pairwise fun x y => ¬ Lt y x) : (cpt l).Pairwise Lt := by
  induction l with
  | nil => simp [cpt]
  | cons x l ih =>
    rw [List.pairwise_cons] at h
    have h2 := ih h.2
    rw [cpt_cons]
    split
    · exact h2
    · rename_i hne
      rw [List.pairwise_cons]
      refine ⟨fun z hz => ?_, h2⟩
      have hz' := (cpt_mem l z).1 hz
      cases l with
      | nil => simp at hz'
      | cons y m =>
        have hyx : y ≠ x := fun e => hne (by simp [e])
        have hxy : Lt x y := by
          have h3 := h.1 y (by simp)
          apply Classical.byContradiction
          intro h4
          exact hyx (Lt.tot h3 h4)
        rcases List.mem_cons.1 hz' with rfl | hz'
        · exact hxy
        · have h5 := (List.pairwise_cons.1 h.2).1 z hz'
          apply Classical.byContradiction
          intro h6
          exact Lt.ntrans h6 h5 hxy
theorem strict_eq : ∀ {l m : List Zn}, l.Pairwise Lt → m.Pairwise Lt → (∀ x, x ∈ l ↔ x ∈ m) → l = m
  | [], [], _, _, _ => rfl
  | [], y :: m, _, _, h => by have := (h y).2 (by simp); simp at this
  | x :: l, [], _, _, h => by have := (h x).1 (by simp); simp at this
  | x :: l, y :: m, hl, hm, h => by
    rw [List.pairwise_cons] at hl hm
    have e : x = y := by
      rcases List.mem_cons.1 ((h x).1 (by simp)) with e | hx
      · exact e
      · rcases List.mem_cons.1 ((h y).2 (by simp)) with e | hy
        · exact e.symm
        · exact absurd ((hl.1 y hy).trans (hm.1 x hx)) (Lt.irrefl x)
    subst e
    congr 1
    refine strict_eq hl.2 hm.2 fun z => ?_
    constructor
    · intro hz
      rcases List.mem_cons.1 ((h z).1 (by simp [hz])) with rfl | hz'
      · exact absurd (hl.1 z hz) (Lt.irrefl z)
      · exact hz'
    · intro hz
      rcases List.mem_cons.1 ((h z).2 (by simp [hz])) with rfl | hz'
      · exact absurd (hm.1 z hz) (Lt.irrefl z)
      · exact hz'
def sorted (l : List Zn) : List Zn := cpt (sort l)
theorem sorted_strict (l : List Zn) : (sorted l).Pairwise Lt := cpt_strict (sort_sorted l)
theorem sorted_mem (l : List Zn) (x : Zn) : x ∈ sorted l ↔ x ∈ l := (cpt_mem _ x).trans (sort_perm l).mem_iff
theorem sorted_self {l : List Zn} (h : l.Pairwise Lt) : sorted l = l := strict_eq (sorted_strict l) h (sorted_mem l)
/-- those that the others cover go, from behind. -/
def pgo : Nat → List Zn → List Zn × Int
  | 0, out => (out, 0)
  | i + 1, out => match out[i]? with
    | none => (out, 0)
    | some z => if (in_ z (out.eraseIdx i)).2 ≠ 0 then ([], (in_ z (out.eraseIdx i)).2) else if (in_ z (out.eraseIdx i)).1 = true then pgo i (out.eraseIdx i) else pgo i out
theorem pgo_succ {i : Nat} {out : List Zn} {z : Zn} (h : out[i]? = some z) : pgo (i + 1) out = if (in_ z (out.eraseIdx i)).2 ≠ 0 then ([], (in_ z (out.eraseIdx i)).2) else if (in_ z (out.eraseIdx i)).1 = true then pgo i (out.eraseIdx i) else pgo i out := by
  rw [pgo, h]
def prune (l : List Zn) : List Zn × Int := if checked [l] ≠ 0 then ([], checked [l]) else pgo (sorted l).length (sorted l)
/-- no one from a place on is covered by the others. -/
def Bare (n : Nat) (out : List Zn) : Prop := ∀ j z, n ≤ j → out[j]? = some z → ¬ Cov z (out.eraseIdx j)
theorem pgo_self {n : Nat} : ∀ {out : List Zn}, n ≤ out.length → (pgo n out).2 = 0 → Bare 0 out → pgo n out = (out, 0) := by
  induction n with
  | zero => intro out _ _ _; rfl
  | succ i ih =>
    intro out hn h hb
    have ho := List.getElem?_eq_getElem (l := out) (i := i) (by omega)
    generalize out[i] = z at ho
    rw [pgo_succ ho] at h ⊢
    by_cases h1 : (in_ z (out.eraseIdx i)).2 ≠ 0
    · rw [if_pos h1] at h; exact absurd h h1
    rw [if_neg h1] at h ⊢
    obtain ⟨_, _, hcov⟩ := in_ok (z := z) (l := out.eraseIdx i) (by simpa using h1)
    have h2 : ¬ (in_ z (out.eraseIdx i)).1 = true := fun h2 => hb i z (Nat.zero_le _) ho (hcov.1 h2)
    rw [if_neg h2] at h ⊢
    exact ih (by omega) h hb
theorem checked_one {l : List Zn} : checked [l] = 0 ↔ l.length ≤ 4096 ∧ ∀ z, z ∈ l → Zo.chk z = 0 := by
  unfold checked
  simp only [List.any_cons, List.any_nil, Bool.or_false, decide_eq_true_eq]
  by_cases h1 : 4096 < l.length
  · rw [if_pos h1]; constructor
    · intro h; cases h
    · intro h; omega
  · rw [if_neg h1]
    by_cases h2 : l.any odd = true
    · rw [if_pos h2]
      constructor
      · intro h; cases h
      · intro h
        obtain ⟨z, hz, ho⟩ := List.any_eq_true.1 h2
        simp [odd, h.2 z hz] at ho
    · rw [if_neg h2]
      refine ⟨fun _ => ⟨by omega, fun z hz => ?_⟩, fun _ => rfl⟩
      apply Classical.byContradiction
      intro h3
      exact h2 (List.any_eq_true.2 ⟨z, hz, by simpa [odd] using h3⟩)
/-- what is wanted: of the zones, in order, no one covered by the others, with the same points. -/
structure Wanted (l m : List Zn) : Prop where
  chk : ∀ z, z ∈ l → Zo.chk z = 0
  len : l.length ≤ 4096
  mem : ∀ z, z ∈ m → z ∈ l
  strict : m.Pairwise Lt
  bare : Bare 0 m
  pts : ∀ t, (∃ b, b ∈ l ∧ Fz b t) ↔ ∃ b, b ∈ m ∧ Fz b t
  mlen : m.length ≤ l.length
theorem Wanted.again {l m : List Zn} (h : Wanted l m) (h2 : (prune m).2 = 0) : (prune m).1 = m := by
  unfold prune at h2 ⊢
  by_cases h1 : checked [m] ≠ 0
  · rw [if_pos h1] at h2; exact absurd h2 h1
  rw [if_neg h1] at h2 ⊢
  rw [sorted_self h.strict] at h2 ⊢
  rw [pgo_self (Nat.le_refl _) h2 h.bare]
end Cv
end Go.Proofs.YtodpgcdandechaaGreat

/-
  The plain law of CoverPrunes; what cover.All tells.
-/
namespace Go.Proofs.YtodpgcdandechaaGreat
set_option linter.unusedVariables false
set_option linter.unusedSimpArgs false
open Go.RowKit Go.Proofs.YtodpgcdandechaaGreat.Eng Enc
namespace Cv
open Mi Zo
def misses (b : List Zn) (z : Zn) : Bool := decide ((in_ z b).2 ≠ 0) || !(in_ z b).1
def allGo (b : List Zn) : List Zn → Bool × Int
  | [] => (true, 0)
  | z :: a => if misses b z = true then (false, (in_ z b).2) else allGo b a
def all_ (a b : List Zn) : Bool × Int := if checked [a, b] ≠ 0 then (false, checked [a, b]) else allGo b a
/-- the error of the last zone that was asked, of so many. -/
def told (b l : List Zn) : Nat → Int
  | 0 => 0
  | k + 1 => match l[k]? with | some z => (in_ z b).2 | none => 0
/-- what the law of what is wanted asks. -/
structure PrunesLaw (l : List Zn) (p : Pt) : Prop where
  among : (Cv.among l p).2 = true → (Cv.among (prune l).1 p).2 = true → (Cv.among l p).1 = (Cv.among (prune l).1 p).1
  order : ∀ i x y, (prune l).1[i]? = some x → (prune l).1[i + 1]? = some y → Zo.cmp x y < 0
  bare : ∀ i z, (prune l).1[i]? = some z → (in_ z ((prune l).1.take i ++ (prune l).1.drop (i + 1))).2 = 0 → (in_ z ((prune l).1.take i ++ (prune l).1.drop (i + 1))).1 = false
  all : (all_ l (prune l).1).2 = 0 → (all_ l (prune l).1).1 = true
  again : (prune (prune l).1).2 = 0 → (prune (prune l).1).1 = (prune l).1
end Cv
end Go.Proofs.YtodpgcdandechaaGreat

/-
  DERIVED: THE SHELF's CONTRACTS AT THIS DUMP, IN PLAIN WORDS (tools/lay-plain.mjs out of 'YtodpgcdandechaaGreatShelf0.lean', which tools/lay-shelf.mjs wrote): THE SAME DECLARATIONS UNDER THE SAME NAMES: 'import', 'namespace', 'open', 'def', 'theorem' AND NOTHING ELSE: no command of the shelf's: FOR A HAND-IN. Each laying: the table of numbers ('.._ren') and one theorem, a field a fact of the dump's own or the kernel's comparison; each contract: ONE APPLICATION.
-/
namespace Go.Proofs
open Go.Shelf
def Tryz.growZ_ren : Go.Shelf.Ren := ⟨fun | 4 => 157 | n => n, fun | 22 => 45 | 25 => 39 | 3 => 3 | 4 => 4 | 9 => 9 | 20 => 20 | 0 => 0 | n => n, fun | n => n⟩
theorem Tryz.growZ : Go.Proofs.Lays8.n4 Tryz.prog Tryz.growZ_ren := {
  mixed := by kernel_rfl
  f4 := ⟨Tryz.f157.name, by decide, Tryz.func157.trans (congrArg some (by kernel_rfl))⟩
  t0 := Tryz.underlying0
  a0 := Tryz.isAgg0
  z0 := Tryz.sizeOf0
  v0 := Tryz.zeroValue0
  t3 := Tryz.underlying3
  a3 := Tryz.isAgg3
  z3 := Tryz.sizeOf3
  v3 := Tryz.zeroValue3
  t4 := Tryz.underlying4
  a4 := Tryz.isAgg4
  z4 := Tryz.sizeOf4
  v4 := Tryz.zeroValue4
  t9 := Tryz.underlying9
  a9 := Tryz.isAgg9
  z9 := Tryz.sizeOf9
  v9 := Tryz.zeroValue9
  t20 := Tryz.underlying20
  a20 := Tryz.isAgg20
  z20 := Tryz.sizeOf20
  v20 := Tryz.zeroValue20
  t22 := Tryz.underlying45
  a22 := Tryz.isAgg45
  z22 := Tryz.sizeOf45
  v22 := Tryz.zeroValue45 }
end Go.Proofs

/-
  The contracts of slices.Grow (of nothing) and slices.Concat, at zones, by the engine.
-/
namespace Go.Proofs.YtodpgcdandechaaGreat
set_option linter.unusedVariables false
set_option linter.unusedSimpArgs false
set_option maxRecDepth 100000
open Go.RowKit Go.Proofs.YtodpgcdandechaaGreat.Eng Enc

theorem own_newZ {w : World} {C : Array Value} {e : TypeId} {G base : Nat} (hb : base ≤ w.heap.size) (hs : C.size = G * 6) (hG : G ≤ maxLen) : Own e base (w.drew.alloc (.cells C e)) (.slice (some ⟨w.heap.size, 0, none⟩) 0 G) ([] : List Zn) :=
  ⟨rfl, .inr ⟨w.heap.size, G, C, rfl, hb, World.alloc_heap_new w.drew _, Nat.zero_le _, hG, hs, by simp [cellsL]⟩⟩
theorem growZ_any (n : Nat) (hn : n ≤ 100000) (w : World) :
    Calls Tryz.prog 157 #[.slice none 0 0, .int .i64 n] w (Ret w fun v w' => Own TZ w.heap.size w' v ([] : List Zn)) := by
  by_cases h0 : n = 0
  · subst h0
    refine (Any8.slices_Grow_room Tryz.growZ none 0 0 0 w (Nat.le_refl _) (by omega) (by omega) (by omega)).mono ?_
    rintro e w' ⟨rfl, rfl⟩
    exact ⟨_, rfl, Below.refl _ _, Own.nil⟩
  · have hi : ∃ i0, Tryz.prog.info? 39 = some i0 ∧ i0.zero = some (.agg #[.int .i64 0, .int .i64 0, .int .i64 0, .int .i64 0, .int .i64 0, .int .i64 0]) ∧ i0.size = 6 ∧ i0.bytes = 48 := by
      have h := infoZone
      cases hx : Tryz.prog.info? 39 with
      | none => rw [hx] at h; cases h
      | some i0 =>
        rw [hx] at h
        simp only [Option.map_some, Option.some.injEq, Prod.mk.injEq] at h
        exact ⟨i0, rfl, h.1, h.2.1, h.2.2⟩
    obtain ⟨i0, hi1, hi2, hi3, hi4⟩ := hi
    refine (Any8.slices_Grow_grow Tryz.growZ i0 _ hi1 hi2 (by omega) none 0 0 n [] w (Nat.le_refl _) (by omega) (by rw [hi4]; omega) (by omega) (by simp) (fun _ => rfl) (fun a e => by cases e)).mono ?_
    rintro e w' ⟨rfl, rfl⟩
    have hG := grownCap_ge w (0 + n) 0 (Tryz.growZ_ren.t 25)
    have hG2 := grownCap_le_maxLen w (0 + n) 0 (Tryz.growZ_ren.t 25) (by unfold maxLen; omega)
    refine ⟨_, rfl, ((Below.refl _ _).drew).alloc (Nat.le_refl _) _, own_newZ (e := Tryz.growZ_ren.t 25) (Nat.le_refl _) ?_ hG2⟩
    simp only [Array.size_append, Builtin.zeroCells, Array.size_map, Array.size_range]
    have hz : (Value.agg #[.int .i64 0, .int .i64 0, .int .i64 0, .int .i64 0, .int .i64 0, .int .i64 0]).cells.size = 6 := rfl
    rw [hz]
    generalize grownCap w (0 + n) 0 (Tryz.growZ_ren.t 25) = G at *
    show 0 + (0 + n - 0) * 6 + (G - (0 + n)) * 6 = G * 6
    omega
theorem flat_take {ls : List (List Zn)} {k : Nat} {l : List Zn} (h : ls[k]? = some l) : (ls.take (k + 1)).flatten = (ls.take k).flatten ++ l := by
  rw [List.take_add_one, h, List.flatten_append]; simp
theorem flat_le (ls : List (List Zn)) (k : Nat) : (ls.take k).flatten.length ≤ ls.flatten.length := by
  conv => rhs; rw [← List.take_append_drop k ls, List.flatten_append, List.length_append]
  omega
theorem concat_any (ss : List Svl) (ls : List (List Zn)) (htot : ls.flatten.length ≤ 100000) (a : Option Addr) (cap : Nat) (w : World) (hA : Shown w.heap.size w ss ls) (hS : Sl w.heap.size w (.slice a ss.length cap) ss) :
    Calls Tryz.prog 88 #[.slice a ss.length cap] w (Ret w fun v w' => ∃ a' c', v = .slice a' ls.flatten.length c' ∧ Own TZ w.heap.size w' (.slice a' ls.flatten.length c') ls.flatten) := by
  refine fun_ret 0 w Tryz.func88 (args := [.val (.slice a ss.length cap)]) rfl rfl ?_
  obtain ⟨hlen, hA⟩ := hA
  obtain ⟨_, _, hfe, hcap1, hcap2, _⟩ := hS.form
  injection hfe with _ _ hfe
  subst hfe
  unfold maxLen at hcap2
  refine LoopI.invC (α := Nat × World) (fun y => [(11, .val (.int .i64 y.1)), (3, .val (.int .i64 ((ls.take y.1).flatten.length : Nat)))]) (fun y => y.2) (fun y => y.1 ≤ ss.length ∧ Below w.heap.size w y.2) (fun y => ss.length - y.1) ?_ ?_
  · intro w1 h1
    exact ⟨(0, w1), Cov.mk (by repeat' (first | exact trivial | refine And.intro rfl ?_)) rfl rfl rfl rfl rfl, rfl, Nat.zero_le _, h1.below⟩
  rintro ⟨k, W⟩ ⟨hk, hW⟩
  simp only at hk hW
  refine Branch.mk (fun hc => ?_) (fun hc => ?_)
  · have hlt : k < ss.length := by simpa using hc
    have hg := List.getElem?_eq_getElem (l := ss) (i := k) hlt
    have hl := List.getElem?_eq_getElem (l := ls) (i := k) (by omega)
    obtain ⟨hs1, hs2⟩ := hA k _ _ hg hl
    generalize ls[k]'(by omega) = l at hl hs1 hs2
    have hft := flat_take hl
    have hfl := flat_le ls (k + 1)
    have hSW := hS.go hW hW.size
    refine hSW.idx hg fun ad had => ?_
    refine hSW.ldv hg rfl had (Below.refl _ _) (by simp) ?_
    rw [hft, List.length_append] at hfl
    refine Need.mk (by simp only [inK]; omega) ?_
    refine Branch.no (decide_eq_false (by simp only; omega)) ?_
    refine Need.mk (by simp only [inK]; omega) (EndI.mk fun w7 h7 => ⟨(k + 1, w7), ?_, rfl, ⟨hlt, h7.below⟩, by simp only; omega⟩)
    simp only
    rw [hft, List.length_append, ← hs2, Int.natCast_add]
    exact Cov.mk (by repeat' (first | exact trivial | refine And.intro rfl ?_)) rfl rfl rfl rfl rfl
  have hge : k = ls.length := by have : ¬ k < ss.length := by simpa using hc
                                 omega
  subst hge
  clear hc hk
  have hfa : ((ls.take ls.length).flatten.length : Int) = ((ls.flatten.length : Nat) : Int) := by rw [List.take_length]
  conv => whnf
  simp only
  rw [hfa]
  apply CallI.use
  focus (exact fun w2 h2 => growZ_any ls.flatten.length htot w2)
  rintro v w2 v2 h2 hB2 hO2
  refine LoopI.invC (α := Nat × World × Value) (fun y => [(27, .val (.int .i64 y.1)), (6, .val y.2.2)]) (fun y => y.2.1) (fun y => y.1 ≤ ss.length ∧ Below w.heap.size w y.2.1 ∧ Own TZ w.heap.size y.2.1 y.2.2 (ls.take y.1).flatten) (fun y => ss.length - y.1) ?_ ?_
  · intro w3 h3
    exact ⟨(0, w3, v), Cov.mk (by repeat' (first | exact trivial | refine And.intro rfl ?_)) rfl rfl rfl rfl rfl, rfl, Nat.zero_le _, h3.below, (hO2.lower h2.below.size).below (at_belowM h3 (by simp))⟩
  rintro ⟨k, U, tv⟩ ⟨hk, hU, hO⟩
  simp only at hk hU hO
  refine Branch.mk (fun hc => ?_) (fun hc => ?_)
  · have hlt : k < ss.length := by simpa using hc
    have hg := List.getElem?_eq_getElem (l := ss) (i := k) hlt
    have hl := List.getElem?_eq_getElem (l := ls) (i := k) (by omega)
    obtain ⟨hs1, hs2⟩ := hA k _ _ hg hl
    generalize ls[k]'(by omega) = l at hl hs1 hs2
    have hft := flat_take hl
    have hfl := flat_le ls (k + 1)
    have hSU := hS.go hU hU.size
    refine hSU.idx hg fun ad had => ?_
    refine hSU.ldv hg rfl had (Below.refl _ _) (by simp) ?_
    rw [hft, List.length_append] at hfl
    rw [hs2] at hs1 ⊢
    refine GenN.app (α := Zn) elZ (ls.take k).flatten l w.heap.size (fun w5 h5 => hO.at h5 (by simp)) (fun w5 h5 => (hs1.go h5.below h5.below.size).src) (by unfold maxLen; omega) (by omega) (fun w5 h5 => h5.below.size) (fun w5 w6 h5 hg => keep_grown h5 hg (fun k hk => ⟨(hO.lt k hk).1, by simp⟩)) fun v1 w5 w6 h5 hg hO1 => ?_
    rw [← hft] at hO1
    refine Need.mk (by simp only [inK]; omega) (EndI.mk fun w7 h7 => ⟨(k + 1, w7, v1), Cov.mk (by repeat' (first | exact trivial | refine And.intro rfl ?_)) rfl rfl rfl rfl rfl, rfl, ⟨hlt, h7.below, hO1.below (at_belowM h7 (by simp))⟩, by simp only; omega⟩)
  · have hge : k = ls.length := by have : ¬ k < ss.length := by simpa using hc
                                   omega
    subst hge
    rw [List.take_length] at hO
    obtain ⟨a', c', rfl⟩ := hO.form
    exact EndI.mk fun w9 h9 => ⟨_, _, rfl, hO.at h9 (by simp)⟩
end Go.Proofs.YtodpgcdandechaaGreat

/-
  == and != at two zones.
-/
namespace Go.Proofs.YtodpgcdandechaaGreat
set_option linter.unusedVariables false
set_option linter.unusedSimpArgs false
set_option maxRecDepth 100000
open Go.RowKit Go.Proofs.YtodpgcdandechaaGreat.Eng Enc

end Go.Proofs.YtodpgcdandechaaGreat

/-
  slices.Delete at a list of api.Zone: in place.
-/
namespace Go.Proofs.YtodpgcdandechaaGreat
set_option linter.unusedVariables false
set_option linter.unusedSimpArgs false
set_option maxRecDepth 100000
open Go.RowKit Go.Proofs.YtodpgcdandechaaGreat.Eng Enc

end Go.Proofs.YtodpgcdandechaaGreat

/-
  slices.Compact at a list of zones: in place.
-/
namespace Go.Proofs.YtodpgcdandechaaGreat
set_option linter.unusedVariables false
set_option linter.unusedSimpArgs false
set_option maxRecDepth 100000
open Go.RowKit Go.Proofs.YtodpgcdandechaaGreat.Eng Enc

end Go.Proofs.YtodpgcdandechaaGreat

/-
  The contract of cover.Prune, by the engine.
-/
namespace Go.Proofs.YtodpgcdandechaaGreat
set_option linter.unusedVariables false
set_option linter.unusedSimpArgs false
set_option maxRecDepth 100000
open Go.RowKit Go.Proofs.YtodpgcdandechaaGreat.Eng Enc

end Go.Proofs.YtodpgcdandechaaGreat

/-
  An append to a row of the run's own: the row stays where it is, or is new.
-/
namespace Go.Proofs.YtodpgcdandechaaGreat
set_option linter.unusedVariables false
open Go.RowKit Go.Proofs.YtodpgcdandechaaGreat.Eng Enc Builtin

end Go.Proofs.YtodpgcdandechaaGreat

/-
  The contracts of zset.checked, Of, come, by the engine.
-/
namespace Go.Proofs.YtodpgcdandechaaGreat
set_option linter.unusedVariables false
set_option linter.unusedSimpArgs false
set_option maxRecDepth 100000
open Go.RowKit Go.Proofs.YtodpgcdandechaaGreat.Eng Enc

theorem any_flat (p : Zn → Bool) (ls : List (List Zn)) : ls.any (fun l => l.any p) = ls.flatten.any p := by
  induction ls with
  | nil => rfl
  | cons x m ih => rw [List.any_cons, List.flatten_cons, List.any_append, ih]
theorem zschecked_any (ss : List Svl) (ls : List (List Zn)) (h8 : ls.length ≤ 8) (a : Option Addr) (cap : Nat) (w : World) (hA : Shown w.heap.size w ss ls) (hS : Sl w.heap.size w (.slice a ss.length cap) ss) :
    Calls Tryz.prog 65 #[.slice a ss.length cap] w fun e w' => e = .returned (.int .i64 (Cv.checked ls)) ∧ Below w.heap.size w w' := by
  refine fun_eq 0 w Tryz.func65 (args := [.val (.slice a ss.length cap)]) rfl rfl ?_
  have hA' := hA
  obtain ⟨hlen, hA⟩ := hA
  have hform := hS.form
  obtain ⟨_, _, hfe, hcap1, hcap2, _⟩ := hform
  injection hfe with _ _ hfe
  subst hfe
  unfold maxLen at hcap2
  unfold Cv.checked
  refine LoopI.invC (α := Nat × World) (fun y => [(10, .val (.int .i64 y.1))]) (fun y => y.2) (fun y => y.1 ≤ ss.length ∧ Below w.heap.size w y.2 ∧ ∀ l, l ∈ ls.take y.1 → l.length ≤ 4096) (fun y => ss.length - y.1) ?_ ?_
  · intro w1 h1
    exact ⟨(0, w1), Cov.mk (by repeat' (first | exact trivial | refine And.intro rfl ?_)) rfl rfl rfl rfl rfl, rfl, Nat.zero_le _, h1.below, by simp⟩
  rintro ⟨k, W⟩ ⟨hk, hW, hall⟩
  refine Branch.mk (fun hc => ?_) (fun hc => ?_)
  · have hlt : k < ss.length := by simpa using hc
    have hg := List.getElem?_eq_getElem (l := ss) (i := k) hlt
    have hl := List.getElem?_eq_getElem (l := ls) (i := k) (by omega)
    obtain ⟨hs1, hs2⟩ := hA k _ _ hg hl
    generalize ls[k]'(by omega) = l at hl hs1 hs2
    have hSW := hS.go hW hW.size
    refine hSW.idx hg fun ad had => ?_
    refine hSW.ldv hg rfl had (Below.refl _ _) (by simp) ?_
    refine Branch.mk (fun hc2 => ?_) (fun hc2 => ?_)
    · have h4 : 4096 < l.length := by have : (4096 : Int) < (ss[k]'hlt).len := by simpa using hc2
                                      omega
      rw [if_pos (by rw [List.any_eq_true]; exact ⟨l, List.mem_of_getElem? hl, by simpa using h4⟩)]
      exact EndI.mk fun w3 h3 => rfl
    · have hle : l.length ≤ 4096 := by have : ¬ (4096 : Int) < (ss[k]'hlt).len := by simpa using hc2
                                       omega
      refine Need.mk (by simp only [inK]; omega) (EndI.mk fun w7 h7 => ⟨(k + 1, w7), Cov.mk (by repeat' (first | exact trivial | refine And.intro rfl ?_)) rfl rfl rfl rfl rfl, rfl, ⟨hlt, h7.below, fun y hy => ?_⟩, by simp only; omega⟩)
      have e : ls.take (k + 1) = ls.take k ++ [l] := by rw [List.take_add_one, hl]; rfl
      rw [e] at hy
      rcases List.mem_append.1 hy with hy | hy
      · exact hall y hy
      · rw [List.mem_singleton.1 hy]; exact hle
  have hge : k = ls.length := by have : ¬ k < ss.length := by simpa using hc
                                 omega
  subst hge
  rw [List.take_length] at hall
  rw [if_neg (by rw [List.any_eq_true]; rintro ⟨x, hx, h⟩; have := hall x hx; simp at h; omega)]
  have hfl : ls.flatten.length ≤ 100000 := by
    have : ∀ (m : List (List Zn)), (∀ l, l ∈ m → l.length ≤ 4096) → m.flatten.length ≤ m.length * 4096 := fun m => by
      induction m with
      | nil => intro _; simp
      | cons x m ih =>
        intro h
        have h1 := ih fun l hl => h l (List.mem_cons_of_mem _ hl)
        have h2 := h x (by simp)
        rw [List.flatten_cons, List.length_append, List.length_cons, Nat.succ_mul]
        omega
    have h1 := this ls hall
    have h2 : ls.length * 4096 ≤ 8 * 4096 := Nat.mul_le_mul_right _ h8
    omega
  clear hc hk
  have hW : Below w.heap.size w W := hW
  apply CallI.use
  focus (exact fun w2 h2 => concat_any ss ls hfl a cap w2 ⟨hlen, fun k s l hs hl => ⟨(hA k s l hs hl).1.go h2.below h2.below.size, (hA k s l hs hl).2⟩⟩ (hS.go h2.below h2.below.size))
  rintro v w2 v2 h2 hB2 ⟨a2, c2, rfl, hO2⟩
  have hv2 : Below w.heap.size w v2 := h2.below.trans (hB2.mono h2.below.size)
  rw [any_flat]
  generalize ls.flatten = m at *
  refine LoopI.invC (α := Nat × World) (fun y => [(21, .val (.int .i64 y.1))]) (fun y => y.2) (fun y => y.1 ≤ m.length ∧ Below w.heap.size w y.2 ∧ Below v2.heap.size v2 y.2 ∧ (m.take y.1).any Cv.odd = false) (fun y => m.length - y.1) ?_ ?_
  · intro w1 h1
    exact ⟨(0, w1), Cov.mk (by repeat' (first | exact trivial | refine And.intro rfl ?_)) rfl rfl rfl rfl rfl, rfl, Nat.zero_le _, h1.below, at_belowM h1 (by simp), by simp⟩
  rintro ⟨k, V⟩ ⟨hk, hV, hV2, hall2⟩
  simp only at hk hV hV2 hall2
  refine Branch.mk (fun hc => ?_) (fun hc => ?_)
  · have hlt : k < m.length := by simpa using hc
    have hg := List.getElem?_eq_getElem (l := m) (i := k) hlt
    generalize m[k] = x at hg
    have hSV := (hO2.below hV2).sl
    refine hSV.idx hg fun ad had => ?_
    refine hSV.ld hg had (Below.refl _ _) (by simp) ?_
    refine NewI.mk fun b1 hb1 => ?_
    apply CallI.use1
    focus (exact fun w4 h4 => zcheck_any x w4)
    intro w4 v4 h4 hB4
    refine Branch.mk (fun hc2 => ?_) (fun hc2 => ?_)
    · have h1 : Zo.chk x ≠ 0 := by simpa using hc2
      have h8 : Zo.chk x = 8 := by unfold Zo.chk at h1 ⊢; split at h1 <;> simp_all
      rw [if_pos (by rw [List.any_eq_true]; exact ⟨x, List.mem_of_getElem? hg, by unfold Cv.odd; simpa using h1⟩), h8]
      exact EndI.mk fun w9 h9 => rfl
    · have h1 : Zo.chk x = 0 := by simpa using hc2
      refine Need.mk (by simp only [inK]; omega) (EndI.mk fun w9 h9 => ⟨(k + 1, w9), Cov.mk (by repeat' (first | exact trivial | refine And.intro rfl ?_)) rfl rfl rfl rfl rfl, rfl, ⟨hlt, h9.below, (hV2.trans ((at_belowM h4 (by simp <;> omega)).mono hV2.size)).trans ((hB4.mono (Nat.le_trans hV2.size h4.size)).trans ((at_belowM h9 (by simp <;> omega)).mono (Nat.le_trans hV2.size (Nat.le_trans h4.size hB4.size)))), ?_⟩, by simp only; omega⟩)
      simp only
      rw [List.take_add_one, hg, List.any_append, hall2]
      simp [Cv.odd, h1]
  · have hge : k = m.length := by have : ¬ k < m.length := by simpa using hc
                                  omega
    subst hge
    rw [List.take_length] at hall2
    rw [if_neg (by rw [hall2]; decide)]
    exact EndI.mk fun w9 h9 => rfl
namespace Zs
/-- what zones come to, behind what there is. -/
def come (f : Zn → Zn × Int) : List Zn → List Zn → List Zn × Int
  | out, [] => Cv.prune out
  | out, x :: l => if (f x).2 = 0 then come f (out ++ [(f x).1]) l else if (f x).2 = 6 then come f out l else ([], (f x).2)
end Zs
/-- all that stood there stands, but one row. -/
def KeptBut (row : Option Nat) (w W : World) : Prop := w.heap.size ≤ W.heap.size ∧ ∀ k, k < w.heap.size → some k ≠ row → W.heap[k]? = w.heap[k]?
theorem KeptBut.refl (row : Option Nat) (w : World) : KeptBut row w w := ⟨Nat.le_refl _, fun _ _ _ => rfl⟩
theorem KeptBut.go {row : Option Nat} {w W X : World} (h : KeptBut row w W) (hB : Below W.heap.size W X) : KeptBut row w X :=
  ⟨Nat.le_trans h.1 hB.size, fun k hk hr => (hB.block k (Nat.lt_of_lt_of_le hk h.1)).trans (h.2 k hk hr)⟩
theorem KeptBut.at {w0 : Base} {hp : List LB} {r L : List Nat} {row : Option Nat} {w W X : World} (h : KeptBut row w W) (h1 : At w0 hp r L W X) (hL : ∀ b, b ∈ L → w.heap.size ≤ b) : KeptBut row w X :=
  ⟨Nat.le_trans h.1 h1.size, fun k hk hr => (h1.step k (Nat.lt_of_lt_of_le hk h.1) (fun hm => by have := hL k hm; omega)).trans (h.2 k hk hr)⟩
end Go.Proofs.YtodpgcdandechaaGreat

/-
  Plain laws: the lesser bounds of two matrices, one by one. No program is in sight.
-/
namespace Go.Proofs.YtodpgcdandechaaGreat
set_option linter.unusedVariables false
namespace Dbm
def lessr (L M : List Int) : List Int := (List.range L.length).map fun q => min (L[q]?.getD 0) (M[q]?.getD 0)
end Dbm
namespace Tg
/-- what two matrices have in common. -/
def meet (n : Int) (L : List Int) (m : Int) (M : List Int) : Int × List Int × Int :=
  if Dbm.chk n L ≠ 0 ∨ Dbm.chk m M ≠ 0 then (0, [], 8) else if n ≠ m then (0, [], 40) else Dbm.close n (Dbm.lessr L M)
end Tg
end Go.Proofs.YtodpgcdandechaaGreat

/-
  The contract of comp.Comp's put, by the engine.
-/
namespace Go.Proofs.YtodpgcdandechaaGreat
set_option linter.unusedVariables false
set_option linter.unusedSimpArgs false
set_option maxRecDepth 100000
open Go.RowKit Go.Proofs.YtodpgcdandechaaGreat.Eng Enc

namespace Cmp
/-- the place of a zone's bound number k in a matrix of four clocks, by the three clocks it is put on. -/
def pl (c0 c1 c2 : Nat) (k : Nat) : Nat := 4 * (if k / 3 = 0 then c0 else if k / 3 = 1 then c1 else c2) + (if k % 3 = 0 then c0 else if k % 3 = 1 then c1 else c2)
def put (c0 c1 c2 : Nat) (M L : List Int) : Nat → List Int
  | 0 => L
  | k + 1 => (put c0 c1 c2 M L k).set (pl c0 c1 c2 k) (min ((put c0 c1 c2 M L k)[pl c0 c1 c2 k]?.getD 0) (M[k]?.getD 0))
end Cmp
/-- where the rounds of put stand. -/
structure Cmp.At (B g g1 cap : Nat) (M0 : List Int) (X : World) (row : List Int) : Prop where
  box : X.heap[B]? = some (.cells #[.int .i64 4, .slice (some ⟨g, 0, none⟩) 16 cap] 101 (0, 0))
  row : RowAt TB X g row
  mat : RowAt TB X g1 M0
section
variable {B g g1 cap : Nat} {M0 : List Int} {X Y : World} {row : List Int}
theorem Cmp.At.to (h : Cmp.At B g g1 cap M0 X row) (k : ∀ j, j = B ∨ j = g ∨ j = g1 → Y.heap[j]? = X.heap[j]?) : Cmp.At B g g1 cap M0 Y row :=
  ⟨(k B (.inl rfl)).trans h.box, h.row.kept (k g (.inr (.inl rfl))), h.mat.kept (k g1 (.inr (.inr rfl)))⟩
theorem Cmp.At.at {w0 : Base} {hp : List LB} {r L : List Nat} (h : Cmp.At B g g1 cap M0 X row) (h1 : Eng.At w0 hp r L X Y) (hL : ∀ b, b ∈ L → b ≠ B ∧ b ≠ g ∧ b ≠ g1) : Cmp.At B g g1 cap M0 Y row :=
  h.to fun j hj => h1.step j (by rcases hj with rfl | rfl | rfl; exact lt_cellsM h.box; exact h.row.lt; exact h.mat.lt) (fun hm => by have := hL j hm; rcases hj with rfl | rfl | rfl <;> omega)
theorem Cmp.At.set (h : Cmp.At B g g1 cap M0 X row) {j : Nat} (hj : j < row.length) (x : Int) (h1 : g ≠ B) (h2 : g1 ≠ g) : Cmp.At B g g1 cap M0 (X.setCell ⟨g, j, none⟩ (.int .i64 x)) (row.set j x) :=
  ⟨(setCell_neM (fun e => h1 e.symm)).trans h.box, h.row.set hj x, h.mat.kept (setCell_neM h2)⟩
theorem Cmp.At.cell (h : Cmp.At B g g1 cap M0 X row) : X.cell? ⟨B, 1, none⟩ = some (.slice (some ⟨g, 0, none⟩) 16 cap) := by simp [World.cell?, h.box]
end
end Go.Proofs.YtodpgcdandechaaGreat

/-
  The contract of tight.Meet, by the engine.
-/
namespace Go.Proofs.YtodpgcdandechaaGreat
set_option linter.unusedVariables false
set_option linter.unusedSimpArgs false
set_option maxRecDepth 100000
open Go.RowKit Go.Proofs.YtodpgcdandechaaGreat.Eng Enc

end Go.Proofs.YtodpgcdandechaaGreat

/-
  The contracts of zone.checked and zone.Meet, by the engine.
-/
namespace Go.Proofs.YtodpgcdandechaaGreat
set_option linter.unusedVariables false
set_option linter.unusedSimpArgs false
set_option maxRecDepth 100000
open Go.RowKit Go.Proofs.YtodpgcdandechaaGreat.Eng Enc

namespace Zo
def odd (z : Zn) : Bool := decide (chk z ≠ 0)
def checks (l : List Zn) : Int := if l.any odd = true then 8 else 0
theorem chk_cases (z : Zn) : chk z = 0 ∨ chk z = 8 := by unfold chk; split <;> simp
/-- what two zones have in common. -/
def meet (a b : Zn) : Zn × Int :=
  if checks [a, b] = 0 then (if (Tg.meet 3 (matL a) 3 (matL b)).2.2 = 0 then told (Tg.meet 3 (matL a) 3 (matL b)).2.1 else (nought, (Tg.meet 3 (matL a) 3 (matL b)).2.2)) else (nought, checks [a, b])
end Zo
end Go.Proofs.YtodpgcdandechaaGreat

/-
  slices.Delete at a list of int: in place.
-/
namespace Go.Proofs.YtodpgcdandechaaGreat
set_option linter.unusedVariables false
set_option linter.unusedSimpArgs false
set_option maxRecDepth 100000
open Go.RowKit Go.Proofs.YtodpgcdandechaaGreat.Eng Enc

end Go.Proofs.YtodpgcdandechaaGreat

/-
  The contracts of package proj, by the engine: made, and what hands it its places.
-/
namespace Go.Proofs.YtodpgcdandechaaGreat
set_option linter.unusedVariables false
set_option linter.unusedSimpArgs false
set_option maxRecDepth 100000
open Go.RowKit Go.Proofs.YtodpgcdandechaaGreat.Eng Enc

theorem kpD_set {w0 : Base} {wr : World} {M r : List Nat} {w1 : World} {g x : Nat} {v : Value} (hg : w0.B ≤ g) (hr : ∀ b, b ∈ r → b ≠ g) (hM : g ∈ M) : kpD w0 wr M r w1 (w1.setCell ⟨g, x, none⟩ v) := fun _ =>
  ⟨keep_set hg hr, fun k hk hkm => Below.heap_setCell _ _ _ _ (fun e => hkm (e ▸ hM))⟩
end Go.Proofs.YtodpgcdandechaaGreat

/-
  The contract of proj.Drop, by the engine.
-/
namespace Go.Proofs.YtodpgcdandechaaGreat
set_option linter.unusedVariables false
set_option linter.unusedSimpArgs false
set_option maxRecDepth 100000
open Go.RowKit Go.Proofs.YtodpgcdandechaaGreat.Eng Enc

namespace Proj
/-- a clock's old number, where clock k has gone. -/
def sk (k j : Nat) : Nat := if j < k then j else j + 1
def dropAt (N k idx : Nat) : Nat := sk k (idx / (N - 1)) * N + sk k (idx % (N - 1))
def dropL (N k : Nat) (c : List Int) : List Int := (List.range ((N - 1) * (N - 1))).map fun idx => c[dropAt N k idx]?.getD 0
/-- Drop: the clocks, the bounds, and the error. -/
def drop (n : Int) (L : List Int) (k : Int) : Int × List Int × Int :=
  if Dbm.chk n L = 0 then (if k < 1 ∨ n ≤ k then (0, [], 2) else (match Dbm.closeL n.toNat L with | some c => (n - 1, dropL n.toNat k.toNat c, 0) | none => (0, [], 6))) else (0, [], 8)
end Proj

abbrev TI : TypeId := 3
/-- a list of numbers from 0 on. -/
def upto (N : Nat) : List Int := (List.range N).map (Int.ofNat)
end Go.Proofs.YtodpgcdandechaaGreat

/-
  The contract of comp.Comp, by the engine.
-/
namespace Go.Proofs.YtodpgcdandechaaGreat
set_option linter.unusedVariables false
set_option linter.unusedSimpArgs false
set_option maxRecDepth 100000
open Go.RowKit Go.Proofs.YtodpgcdandechaaGreat.Eng Enc

namespace Cmp
/-- the matrix of two zones one behind the other: 0, t, s, u. -/
def mat (a b : Zn) : List Int := put 0 2 3 (Zo.matL b) (put 0 1 2 (Zo.matL a) (Dbm.topL 4) 9) 9
end Cmp
end Go.Proofs.YtodpgcdandechaaGreat

/-
  The contracts of zset.paired, Or, And, Comp, by the engine.
-/
namespace Go.Proofs.YtodpgcdandechaaGreat
set_option linter.unusedVariables false
set_option linter.unusedSimpArgs false
set_option maxRecDepth 100000
open Go.RowKit Go.Proofs.YtodpgcdandechaaGreat.Eng Enc

namespace Zs
/-- what two lists come to, zone by zone of the first one. -/
def pairGo (f : Zn → Zn → Zn × Int) (b : List Zn) : List Zn → List Zn → List Zn × Int
  | out, [] => (out, 0)
  | out, x :: a => if (come (f x) out b).2 = 0 then pairGo f b (come (f x) out b).1 a else ([], (come (f x) out b).2)
def paired (f : Zn → Zn → Zn × Int) (a b : List Zn) : List Zn × Int := if Cv.checked [a, b] = 0 then pairGo f b [] a else ([], Cv.checked [a, b])
def or (a b : List Zn) : List Zn × Int := if Cv.checked [a, b] = 0 then Cv.prune (a ++ b) else ([], Cv.checked [a, b])
def and (a b : List Zn) : List Zn × Int := paired Zo.meet a b
end Zs
theorem cell_nM {W : World} {B : Nat} {vs : List Value} {t : TypeId} (h : W.heap[B]? = some (.cells vs.toArray t (0, 0))) (j : Nat) (c : Value) (hj : vs[j]? = some c) : W.cell? ((⟨B, 0, none⟩ : Addr).add j) = some c := by
  rw [addr_addL]
  simp [World.cell?, h, hj]
end Go.Proofs.YtodpgcdandechaaGreat

/-
  The contracts of win.with, Within, Window, by the engine.
-/
namespace Go.Proofs.YtodpgcdandechaaGreat
set_option linter.unusedVariables false
set_option linter.unusedSimpArgs false
set_option maxRecDepth 100000
open Go.RowKit Go.Proofs.YtodpgcdandechaaGreat.Eng Enc

namespace Wn
end Wn
namespace Wn
def fits (n : Int) : Bool := decide (-288230376151711744 ≤ n) && decide (n ≤ 288230376151711744)
end Wn
end Go.Proofs.YtodpgcdandechaaGreat

/-
  The contract of cover.All, by the engine.
-/
namespace Go.Proofs.YtodpgcdandechaaGreat
set_option linter.unusedVariables false
set_option linter.unusedSimpArgs false
set_option maxRecDepth 100000
open Go.RowKit Go.Proofs.YtodpgcdandechaaGreat.Eng Enc

/-- where cover.All's rounds stand: the boxes of the list and of what is told. -/
structure Cv.AllAt (Bb Be : Nat) (sv : Value) (b : List Zn) (e : Int) (W : World) : Prop where
  hb : W.heap[Bb]? = some (.cells #[sv] 45 (0, 0))
  he : W.heap[Be]? = some (.cells #[.int .i64 e] 26 (0, 0))
  sl : Sl W.heap.size W sv b
theorem lt_of_cells {W : World} {B : Nat} {o : Obj} (h : W.heap[B]? = some o) : B < W.heap.size := (Array.getElem?_eq_some_iff.1 h).1
section
variable {Bb Be : Nat} {sv : Value} {b : List Zn} {e : Int} {W X : World}
theorem Cv.AllAt.go (h : Cv.AllAt Bb Be sv b e W) (hB : Below W.heap.size W X) : Cv.AllAt Bb Be sv b e X :=
  ⟨(hB.block _ (lt_of_cells h.hb)).trans h.hb, (hB.block _ (lt_of_cells h.he)).trans h.he, h.sl.go hB hB.size⟩
end
end Go.Proofs.YtodpgcdandechaaGreat

/-
  The contracts of zset.each, Within, Window, In, Same, by the engine.
-/
namespace Go.Proofs.YtodpgcdandechaaGreat
set_option linter.unusedVariables false
set_option linter.unusedSimpArgs false
set_option maxRecDepth 100000
open Go.RowKit Go.Proofs.YtodpgcdandechaaGreat.Eng Enc

namespace Zs
def free : Zn := ⟨9223372036854775807, 9223372036854775807, 9223372036854775807, 9223372036854775807, 9223372036854775807, 9223372036854775807⟩
theorem free_of : Zo.of 3 (Dbm.topL 3) = (free, 0) := by decide +kernel
/-- what all zones come to. -/
def each (f : Zn → Zn × Int) (l : List Zn) : List Zn × Int :=
  if Cv.checked [l] = 0 then (if (f free).2 ≠ 0 ∧ (f free).2 ≠ 6 then ([], (f free).2) else come f [] l) else ([], Cv.checked [l])
def same (a b : List Zn) : Bool × Int := if (Cv.all_ a b).2 = 0 ∧ (Cv.all_ a b).1 = true then Cv.all_ b a else (false, (Cv.all_ a b).2)
end Zs
end Go.Proofs.YtodpgcdandechaaGreat

/-
  The contracts of slices.Equal at zones, zset.Check, zset.Has, by the engine.
-/
namespace Go.Proofs.YtodpgcdandechaaGreat
set_option linter.unusedVariables false
set_option linter.unusedSimpArgs false
set_option maxRecDepth 100000
open Go.RowKit Go.Proofs.YtodpgcdandechaaGreat.Eng Enc

namespace Zs
/-- a set has a point. -/
def has (l : List Zn) (p : Pt) : Bool × Int :=
  if Cv.checked [l] = 0 then (if (Zo.has free p).2 = 0 then (l.any (fun z => decide ((Zo.has z p).2 = 0) && (Zo.has z p).1), 0) else (false, (Zo.has free p).2)) else (false, Cv.checked [l])
end Zs
theorem has1_any (z : Zn) (p : Pt) (hp : p.ins) (B : Nat) (w : World) (hbox : w.heap[B]? = some (.cells #[.int .i64 p.t.num, .int .i64 p.t.den, .int .i64 p.u.num, .int .i64 p.u.den] 25 (0, 0))) :
    Calls Tryz.prog 69 #[.agg #[.int .i64 z.a, .int .i64 z.b, .int .i64 z.c, .int .i64 z.d, .int .i64 z.e, .int .i64 z.f], .pointer (some ⟨B, 0, none⟩)] w fun e w' => e = .returned (.bool (decide ((Zo.has z p).2 = 0) && (Zo.has z p).1)) ∧ Below w.heap.size w w' := by
  refine fun_eq 0 w Tryz.func69 (args := [.agg [.val (.int .i64 z.a), .val (.int .i64 z.b), .val (.int .i64 z.c), .val (.int .i64 z.d), .val (.int .i64 z.e), .val (.int .i64 z.f)], .val (.pointer (some ⟨B, 0, none⟩))]) rfl rfl ?_
  refine NewI.mk fun b1 hb1 => ?_
  refine LoadA.mk ⟨[.int .i64 p.t.num, .int .i64 p.t.den, .int .i64 p.u.num, .int .i64 p.u.den], ⟨rfl, by decide, by simp, cell_nM hbox⟩, ?_⟩
  apply CallI.use
  focus (exact fun w2 h2 => zhas_any z p hp w2)
  rintro v w2 v2 h2 hB2 rfl
  generalize Zo.has z p = X at *
  obtain ⟨x, e⟩ := X
  refine Branch.mk (fun hc => ?_) (fun hc => ?_)
  · have h1 : e = 0 := by simpa using hc
    exact EndI.mk fun w9 h9 => by simp [h1]
  · have h1 : ¬ e = 0 := by simpa using hc
    exact EndI.mk fun w9 h9 => by simp [h1]
theorem zshas_any (l : List Zn) (p : Pt) (hp : p.ins) (a : Option Addr) (cap : Nat) (w : World) (hS : Sl w.heap.size w (.slice a l.length cap) l) :
    Calls Tryz.prog 18 #[.slice a l.length cap, .agg #[.int .i64 p.t.num, .int .i64 p.t.den, .int .i64 p.u.num, .int .i64 p.u.den]] w fun e w' => e = .returned (.tuple #[.bool (Zs.has l p).1, .int .i64 (Zs.has l p).2]) ∧ Below w.heap.size w w' := by
  refine fun_eq 0 w Tryz.func18 (args := [.val (.slice a l.length cap), .agg [.val (.int .i64 p.t.num), .val (.int .i64 p.t.den), .val (.int .i64 p.u.num), .val (.int .i64 p.u.den)]]) rfl rfl ?_
  refine NewI.frn fun w1 h1 => ?_
  have hbox : (w1.alloc (.cells #[.int .i64 p.t.num, .int .i64 p.t.den, .int .i64 p.u.num, .int .i64 p.u.den] 25)).heap[w1.heap.size]? = some (.cells #[.int .i64 p.t.num, .int .i64 p.t.den, .int .i64 p.u.num, .int .i64 p.u.den] 25 (0, 0)) := World.alloc_heap_new w1 _
  have hw2 : Below w.heap.size w (w1.alloc (.cells #[.int .i64 p.t.num, .int .i64 p.t.den, .int .i64 p.u.num, .int .i64 p.u.den] 25)) := h1.below.alloc h1.below.size _
  generalize w1.alloc (.cells #[.int .i64 p.t.num, .int .i64 p.t.den, .int .i64 p.u.num, .int .i64 p.u.den] 25) = w2 at *
  generalize w1.heap.size = B at *
  refine NewI.mk fun b1 hb1 => ?_
  apply CallI.use1
  focus (exact fun w3 h3 => zschecked_any [⟨a, l.length, cap⟩] [l] (by simp) _ _ w3 (shown_one (hS.go h3.below h3.below.size) rfl) (Sl.own (l := [(⟨a, l.length, cap⟩ : Svl)]) h3 0 rfl rfl rfl (Nat.le_refl _) (by simp [maxLen])))
  intro w3 v3 h3 hB3
  have g3 := at_belowM h3 (by simp)
  have hbox3 := (hB3.block B (Nat.lt_of_lt_of_le (lt_cellsM hbox) g3.size)).trans ((g3.block B (lt_cellsM hbox)).trans hbox)
  unfold Zs.has
  refine Branch.mk (fun hc => ?_) (fun hc => ?_)
  · have h0 : Cv.checked [l] ≠ 0 := by simpa using hc
    rw [if_neg h0]
    exact EndI.mk fun w9 h9 => rfl
  have h0 : Cv.checked [l] = 0 := by simpa using hc
  rw [if_pos h0]
  have htop := fun w => top_any 3 w
  rw [Zo.top3] at htop
  have hof := fun (w : World) a c h => zof_any 3 a c (Dbm.topL 3) w h
  rw [Zs.free_of] at hof
  apply CallI.use
  focus (exact fun w4 h4 => htop w4)
  rintro v w4 v4 h4 hB4 ⟨a2, c2, rfl, hO2⟩
  have g4 := at_belowM h4 (by simp)
  have hbox4 := (hB4.block B (Nat.lt_of_lt_of_le (lt_cellsM hbox3) g4.size)).trans ((g4.block B (lt_cellsM hbox3)).trans hbox3)
  refine NewI.mk fun b2 hb2 => ?_
  apply CallI.use1
  focus (exact fun w5 h5 => hof w5 a2 c2 (hO2.below (at_belowM h5 (by simp <;> omega))).sl)
  intro w5 v5 h5 hB5
  have g5 : Below v4.heap.size v4 w5 := at_belowM h5 (by simp <;> omega)
  have hbox5 := (hB5.block B (Nat.lt_of_lt_of_le (lt_cellsM hbox4) g5.size)).trans ((g5.block B (lt_cellsM hbox4)).trans hbox4)
  have hBv4 := lt_cellsM hbox4
  refine NewI.mk fun b3 hb3 => ?_
  have hb3' : v5.heap.size ≤ b3 := hb3
  have hBv5 := lt_cellsM hbox5
  refine LoadA.mk ⟨[.int .i64 p.t.num, .int .i64 p.t.den, .int .i64 p.u.num, .int .i64 p.u.den], ⟨rfl, by decide, by simp; omega, cell_nM hbox5⟩, ?_⟩
  apply CallI.use
  focus (exact fun w6 h6 => zhas_any Zs.free p hp w6)
  rintro v w6 v6 h6 hB6 rfl
  have g6 : Below v5.heap.size v5 w6 := at_belowM h6 (by simp <;> omega)
  have hbox6 := (hB6.block B (Nat.lt_of_lt_of_le hBv5 g6.size)).trans ((g6.block B hBv5).trans hbox5)
  generalize Zo.has Zs.free p = X at *
  obtain ⟨x, e⟩ := X
  refine Branch.mk (fun hc2 => ?_) (fun hc2 => ?_)
  · have h1 : e ≠ 0 := by simpa using hc2
    rw [if_neg (by exact h1)]
    exact EndI.mk fun w9 h9 => rfl
  have h1 : e = 0 := by simpa using hc2
  rw [if_pos (by exact h1)]
  have hBv6 := lt_cellsM hbox6
  apply CallI.use1
  focus (exact fun w7 h7 => containsZ_pure l (fun z => decide ((Zo.has z p).2 = 0) && (Zo.has z p).1) a cap 69 #[.pointer (some ⟨B, 0, none⟩)] w7 (hS.go h7.below h7.below.size) Tryz.call69 (fun x W hx hW => has1_any x p hp B W ((hW.block B (Nat.lt_of_lt_of_le hBv6 (at_belowM h7 (by simp <;> omega)).size)).trans (((at_belowM h7 (by simp <;> omega)).block B hBv6).trans hbox6))))
  intro w7 v7 h7 hB7
  exact EndI.mk fun w9 h9 => rfl
end Go.Proofs.YtodpgcdandechaaGreat

/-
  Plain laws of sets of zones: the points of what two zones have in common, of unions, of pairs. No program is in sight.
-/
namespace Go.Proofs.YtodpgcdandechaaGreat
set_option linter.unusedVariables false
set_option linter.unusedSimpArgs false
open Go.RowKit Go.Proofs.YtodpgcdandechaaGreat.Eng Enc
namespace Zo
open Mi Dbm
end Zo
namespace Zs
open Mi Dbm
theorem free_chk : Zo.chk free = 0 := by decide +kernel
end Zs
end Go.Proofs.YtodpgcdandechaaGreat

/-
  Plain laws of windows and spans: the points of what is in one. No program is in sight.
-/
namespace Go.Proofs.YtodpgcdandechaaGreat
set_option linter.unusedVariables false
set_option linter.unusedSimpArgs false
open Go.RowKit Go.Proofs.YtodpgcdandechaaGreat.Eng Enc
namespace Wn
open Mi Dbm
theorem fits_iff {n : Int} : fits n = true ↔ -288230376151711744 ≤ n ∧ n ≤ 288230376151711744 := by simp [fits]
end Wn
namespace Zs
open Mi Dbm
end Zs
end Go.Proofs.YtodpgcdandechaaGreat

/-
  A region's zone by the document: what is gone through, case by case, in the texts ZonesR0 and on.
-/
namespace Go.Proofs.YtodpgcdandechaaGreat
open Go.RowKit Go.Proofs.YtodpgcdandechaaGreat.Eng Enc
namespace Rg
/-- a span's bounds, by the document. -/
def ab (s : Sp) : Int := if s.op = true then 9223372036854775807 else Bd.mk s.hi s.hs
def be (s : Sp) : Int := Bd.mk (0 - s.lo) s.ls
def raw (t u d : Sp) : Zn := ⟨ab t, be t, ab u, be u, ab d, be d⟩
end Rg
end Go.Proofs.YtodpgcdandechaaGreat

/-
  Spans and windows by the document, in the program's words. No program is in sight.
-/
namespace Go.Proofs.YtodpgcdandechaaGreat
set_option linter.unusedVariables false
set_option linter.unusedSimpArgs false
open Go.RowKit Go.Proofs.YtodpgcdandechaaGreat.Eng Enc
namespace Dbm
/-- two bounds there and back are not below nothing, where a matrix has a closing. -/
theorem cyc {N : Nat} {L C : List Int} (h0 : chk N L = 0) (h : closeL N L = some C) {i j : Nat} (hi : i < N) (hj : j < N) (hij : i ≠ j) : ole (some 1) (oadd (mx N L i j) (mx N L j i)) := by
  obtain ⟨L1, a2, a3, inv, hl, hE⟩ := close_inv h0 h
  have c1 := inv.closed i i j hi hi hj
  rw [inv.diag i hi] at c1
  have e1 : mx N L1 i j = mx N L i j := by unfold mx; rw [a3 i j hi hj, if_neg hij]
  have e2 : mx N L1 j i = mx N L j i := by unfold mx; rw [a3 j i hj hi, if_neg (fun e => hij e.symm)]
  have l1 := inv.low i j hi hj
  have l2 := inv.low j i hj hi
  rw [e1] at l1
  rw [e2] at l2
  exact ole_trans c1 (oadd_mono l1 l2)
end Dbm
namespace Wn
open Mi Dbm
end Wn
end Go.Proofs.YtodpgcdandechaaGreat

/-
  The document's answer of layer 3, by the engine: Low, Part, common, alone, May.
-/
namespace Go.Proofs.YtodpgcdandechaaGreat
set_option linter.unusedVariables false
set_option linter.unusedSimpArgs false
set_option maxRecDepth 100000
open Go.RowKit Go.Proofs.YtodpgcdandechaaGreat.Eng Enc

end Go.Proofs.YtodpgcdandechaaGreat

/-
  What the document's answer of layer 14 reckons, in the program's words: parts, places, numbers, times.
-/
namespace Go.Proofs.YtodpgcdandechaaGreat
set_option linter.unusedVariables false
set_option linter.unusedSimpArgs false
open Go.RowKit Go.Proofs.YtodpgcdandechaaGreat.Eng Enc
namespace Rg
end Rg
end Go.Proofs.YtodpgcdandechaaGreat

/-
  The document's answer of layer 14: numbers and points, by the engine.
-/
namespace Go.Proofs.YtodpgcdandechaaGreat
set_option linter.unusedVariables false
set_option linter.unusedSimpArgs false
set_option maxRecDepth 100000
open Go.RowKit Go.Proofs.YtodpgcdandechaaGreat.Eng Enc

end Go.Proofs.YtodpgcdandechaaGreat

/-
  A region's zone by the document: the cases of some places.
-/
namespace Go.Proofs.YtodpgcdandechaaGreat
set_option maxRecDepth 100000
namespace Rg
end Rg
end Go.Proofs.YtodpgcdandechaaGreat

/-
  A region's zone by the document: the cases of some places.
-/
namespace Go.Proofs.YtodpgcdandechaaGreat
set_option maxRecDepth 100000
namespace Rg
end Rg
end Go.Proofs.YtodpgcdandechaaGreat

/-
  A region's zone by the document: the cases of some places.
-/
namespace Go.Proofs.YtodpgcdandechaaGreat
set_option maxRecDepth 100000
namespace Rg
end Rg
end Go.Proofs.YtodpgcdandechaaGreat

/-
  A region's zone by the document: the cases of some places.
-/
namespace Go.Proofs.YtodpgcdandechaaGreat
set_option maxRecDepth 100000
namespace Rg
end Rg
end Go.Proofs.YtodpgcdandechaaGreat

/-
  A region's zone by the document, of all places.
-/
namespace Go.Proofs.YtodpgcdandechaaGreat
set_option linter.unusedVariables false
namespace Rg
end Rg
end Go.Proofs.YtodpgcdandechaaGreat

/-
  The document's own closing: the least simple way between two clocks; it is the closing of XPlainDbm.
-/
namespace Go.Proofs.YtodpgcdandechaaGreat
set_option linter.unusedVariables false
set_option linter.unusedSimpArgs false
namespace Dbm
/-- is a clock among some (bits)? -/
def inS (S k : Nat) : Bool := decide (S / 2 ^ k % 2 = 1)
def skip (i j S k : Nat) : Bool := !(inS S k) || decide (k = i) || decide (k = j)
structure POk (N : Nat) (L : List Int) (i j S f : Nat) (v : Int) : Prop where
  lim : Dbm.lim 1152921504606846976 v
  wit : ∀ u, ob v = some u → ∃ mid : List Nat, mid.Nodup ∧ i ∉ mid ∧ j ∉ mid ∧ (∀ a, a ∈ mid → a < N ∧ inS S a = true) ∧ way (mx N L) (i :: (mid ++ [j])) = some u
  low : ∀ mid : List Nat, mid.Nodup → i ∉ mid → j ∉ mid → (∀ a, a ∈ mid → a < N ∧ inS S a = true) → mid.length ≤ f → ole (ob v) (way (mx N L) (i :: (mid ++ [j])))
section
variable {N : Nat} {L : List Int}
end
end Dbm
end Go.Proofs.YtodpgcdandechaaGreat

/-
  The document's own closing is the closing of XPlainDbm.
-/
namespace Go.Proofs.YtodpgcdandechaaGreat
set_option linter.unusedVariables false
set_option linter.unusedSimpArgs false
namespace Dbm
end Dbm
end Go.Proofs.YtodpgcdandechaaGreat

/-
  The document's own closing is the closing of XPlainDbm: both ways.
-/
namespace Go.Proofs.YtodpgcdandechaaGreat
set_option linter.unusedVariables false
set_option linter.unusedSimpArgs false
namespace Dbm
section
variable {N : Nat} {L : List Int}
end
end Dbm
end Go.Proofs.YtodpgcdandechaaGreat

/-
  The contract of rallentandoref01.May at every number.
-/
namespace Go.Proofs.YtodpgcdandechaaGreat
set_option linter.unusedVariables false
open Go.RowKit

end Go.Proofs.YtodpgcdandechaaGreat

/-
  The contracts of the reference of chapter 2 (rallentandoref02), at every bound that is an int64, and every number.
-/
namespace Go.Proofs.YtodpgcdandechaaGreat
set_option linter.unusedVariables false
open Go.RowKit

/-- Sum: the sum, and whether it may be, of two bounds that may be. -/
def Bd.sum (a b : Int) : Int × Bool :=
  if a = 9223372036854775807 ∨ b = 9223372036854775807 then (9223372036854775807, true) else if Num.okB (a / 2 + b / 2) then (Bd.mk (a / 2 + b / 2) (Bd.st a || Bd.st b), true) else (0, false)

end Go.Proofs.YtodpgcdandechaaGreat

/-
  The document's answer of layer 4, by the engine: May, path, Closed.
-/
namespace Go.Proofs.YtodpgcdandechaaGreat
set_option linter.unusedVariables false
set_option linter.unusedSimpArgs false
set_option maxRecDepth 100000
open Go.RowKit Go.Proofs.YtodpgcdandechaaGreat.Eng Enc

namespace Dbm
def int64 (b : Int) : Prop := -9223372036854775808 ≤ b ∧ b ≤ 9223372036854775807
end Dbm
section
variable {N : Nat} {L : List Int}
end
end Go.Proofs.YtodpgcdandechaaGreat

/-
  The document's answer of layer 4, by the engine: Closed.
-/
namespace Go.Proofs.YtodpgcdandechaaGreat
set_option linter.unusedVariables false
set_option linter.unusedSimpArgs false
set_option maxRecDepth 100000
open Go.RowKit Go.Proofs.YtodpgcdandechaaGreat.Eng Enc

namespace Dbm
end Dbm
section
variable {N : Nat} {L : List Int}
end
end Go.Proofs.YtodpgcdandechaaGreat

/-
  The document's answer of layer 5, by the engine: the lesser bounds of two matrices, what they have in common.
-/
namespace Go.Proofs.YtodpgcdandechaaGreat
set_option linter.unusedVariables false
set_option linter.unusedSimpArgs false
set_option maxRecDepth 100000
open Go.RowKit Go.Proofs.YtodpgcdandechaaGreat.Eng Enc

end Go.Proofs.YtodpgcdandechaaGreat

/-
  The contract of the document's comparison of matrices (rallentandoref04.Same), by the engine.
-/
namespace Go.Proofs.YtodpgcdandechaaGreat
set_option linter.unusedVariables false
set_option linter.unusedSimpArgs false
set_option maxRecDepth 100000
open Go.RowKit Go.Proofs.YtodpgcdandechaaGreat.Eng Enc

end Go.Proofs.YtodpgcdandechaaGreat

/-
  The document's answer of layer 8, by the engine: Full, Short, May, Cmp.
-/
namespace Go.Proofs.YtodpgcdandechaaGreat
set_option linter.unusedVariables false
set_option linter.unusedSimpArgs false
set_option maxRecDepth 100000
open Go.RowKit Go.Proofs.YtodpgcdandechaaGreat.Eng Enc

namespace Zo
def i64 (z : Zn) : Prop := ∀ b, b ∈ matL z → Dbm.int64 b
end Zo
end Go.Proofs.YtodpgcdandechaaGreat

/-
  rallentandoref02.Other: not a bound.
-/
namespace Go.Proofs.YtodpgcdandechaaGreat
set_option linter.unusedVariables false
open Go.RowKit

end Go.Proofs.YtodpgcdandechaaGreat

/-
  The document's answer of layer 11, by the engine: With, Less, Rest.
-/
namespace Go.Proofs.YtodpgcdandechaaGreat
set_option linter.unusedVariables false
set_option linter.unusedSimpArgs false
set_option maxRecDepth 100000
open Go.RowKit Go.Proofs.YtodpgcdandechaaGreat.Eng Enc

namespace Mi
open Dbm
end Mi
end Go.Proofs.YtodpgcdandechaaGreat

/-
  The document's answers: ref08.told, ref08.Common, by the engine.
-/
namespace Go.Proofs.YtodpgcdandechaaGreat
set_option linter.unusedVariables false
set_option linter.unusedSimpArgs false
set_option maxRecDepth 100000
open Go.RowKit Go.Proofs.YtodpgcdandechaaGreat.Eng Enc

namespace Zo
open Dbm
end Zo
end Go.Proofs.YtodpgcdandechaaGreat

/-
  The document's answer of layer 14: a region's point and zone, by the engine.
-/
namespace Go.Proofs.YtodpgcdandechaaGreat
set_option linter.unusedVariables false
set_option linter.unusedSimpArgs false
set_option maxRecDepth 100000
open Go.RowKit Go.Proofs.YtodpgcdandechaaGreat.Eng Enc

/-- a span whose numbers are no greater than may be. -/
def Sp.fit (s : Sp) : Prop := (-288230376151711744 ≤ s.lo ∧ s.lo ≤ 288230376151711744) ∧ (s.op = true ∨ -288230376151711744 ≤ s.hi ∧ s.hi ≤ 288230376151711744)
end Go.Proofs.YtodpgcdandechaaGreat

/-
  The document's answers of layers 5 and 10: spans and windows of a zone, by the engine.
-/
namespace Go.Proofs.YtodpgcdandechaaGreat
set_option linter.unusedVariables false
set_option linter.unusedSimpArgs false
set_option maxRecDepth 100000
open Go.RowKit Go.Proofs.YtodpgcdandechaaGreat.Eng Enc

end Go.Proofs.YtodpgcdandechaaGreat

/-
  Plain laws of compositions: the points of two zones one behind the other. No program is in sight.
-/
namespace Go.Proofs.YtodpgcdandechaaGreat
set_option linter.unusedVariables false
set_option linter.unusedSimpArgs false
open Go.RowKit Go.Proofs.YtodpgcdandechaaGreat.Eng Enc
namespace Dbm
def LoQ (a : Rat × Bool) (s : Rat) : Prop := if a.2 = true then a.1 < s else a.1 ≤ s
def HiQ (a : Rat × Bool) (s : Rat) : Prop := if a.2 = true then s < a.1 else s ≤ a.1
theorem LoQ.mono {a b : Rat × Bool} {s : Rat} (h : LoQ a s) (hb : b.1 < a.1 ∨ (b.1 = a.1 ∧ (b.2 = true → a.2 = true))) : LoQ b s := by
  unfold LoQ at *
  split <;> split at h <;> rcases hb with hb | ⟨hb, hc⟩ <;> first | grind | (rename_i k1 k2; exact absurd (hc k1) k2)
theorem HiQ.mono {a b : Rat × Bool} {s : Rat} (h : HiQ a s) (hb : a.1 < b.1 ∨ (b.1 = a.1 ∧ (b.2 = true → a.2 = true))) : HiQ b s := by
  unfold HiQ at *
  split <;> split at h <;> rcases hb with hb | ⟨hb, hc⟩ <;> first | grind | (rename_i k1 k2; exact absurd (hc k1) k2)
end Dbm
end Go.Proofs.YtodpgcdandechaaGreat

/-
  Plain laws of clocks that come and go: a matrix without a clock is closed again, and of two clocks that go it turns nothing which goes first. No program is in sight.
-/
namespace Go.Proofs.YtodpgcdandechaaGreat.Proj
set_option linter.unusedVariables false
open Go.Proofs.YtodpgcdandechaaGreat.Dbm

theorem sk_lt {N k j : Nat} (hj : j < N - 1) : sk k j < N := by unfold sk; split <;> omega
theorem dropL_len (N k : Nat) (C : List Int) : (dropL N k C).length = (N - 1) * (N - 1) := by simp [dropL]
theorem dropL_get {N k : Nat} (C : List Int) {i j : Nat} (hi : i < N - 1) (hj : j < N - 1) : (dropL N k C)[i * (N - 1) + j]?.getD 0 = C[sk k i * N + sk k j]?.getD 0 := by
  unfold dropL
  rw [List.getElem?_map, List.getElem?_range (place_lt hi hj)]
  simp only [Option.map_some, Option.getD_some]
  unfold dropAt
  rw [place_div hj, place_mod hj]
theorem clo_drop {N k : Nat} {C : List Int} (h : Clo N C) : Clo (N - 1) (dropL N k C) := by
  have hm : ∀ i j, i < N - 1 → j < N - 1 → mx (N - 1) (dropL N k C) i j = mx N C (sk k i) (sk k j) := fun i j hi hj => by
    unfold mx; rw [dropL_get C hi hj]
  refine ⟨dropL_len _ _ _, fun i hi => ?_, fun i j a hi hj ha => ?_, fun i j hi hj => ?_⟩
  · rw [dropL_get C hi hi]; exact h.diag _ (sk_lt hi)
  · rw [hm i j hi hj, hm i a hi ha, hm a j ha hj]
    exact h.tri _ _ _ (sk_lt hi) (sk_lt hj) (sk_lt ha)
  · rw [dropL_get C hi hj]; exact h.lim _ _ (sk_lt hi) (sk_lt hj)
theorem ext_get {A B : List Int} {n : Nat} (ha : A.length = n) (hb : B.length = n) (h : ∀ q, q < n → A[q]?.getD 0 = B[q]?.getD 0) : A = B := by
  apply List.ext_getElem?
  intro q
  rcases Nat.lt_or_ge q n with hq | hq
  · have := h q hq
    rw [List.getElem?_eq_getElem (by omega), List.getElem?_eq_getElem (by omega)] at this ⊢
    exact congrArg some this
  · rw [List.getElem?_eq_none (by omega), List.getElem?_eq_none (by omega)]
theorem sk_sk {j k i : Nat} (hjk : j < k) : sk j (sk (k - 1) i) = sk k (sk j i) := by
  unfold sk
  by_cases h1 : i < k - 1 <;> by_cases h2 : i < j <;> simp only [h1, h2, if_true, if_false] <;> (repeat' split) <;> omega
theorem dropL_dropL {N j k : Nat} (C : List Int) (hjk : j < k) : dropL (N - 1) (k - 1) (dropL N j C) = dropL (N - 1) j (dropL N k C) := by
  refine ext_get (dropL_len _ _ _) (dropL_len _ _ _) fun q hq => ?_
  have h1 := div_lt hq
  have h2 := mod_lt hq
  rw [← div_mod (p := q) (N := N - 1 - 1)]
  rw [dropL_get _ h1 h2, dropL_get _ h1 h2, dropL_get _ (sk_lt h1) (sk_lt h2), dropL_get _ (sk_lt h1) (sk_lt h2), sk_sk hjk, sk_sk hjk]

/-- a clock goes, where one may. -/
theorem drop_ok {n : Int} {L : List Int} {k : Int} (h : (drop n L k).2.2 = 0) : chk n L = 0 ∧ 1 ≤ k ∧ k < n ∧ ∃ C, closeL n.toNat L = some C ∧ drop n L k = (n - 1, dropL n.toNat k.toNat C, 0) := by
  unfold drop at h ⊢
  split at h
  · rename_i h0
    split at h
    · cases h
    · rename_i h1
      split at h
      · rename_i C hC
        refine ⟨h0, by omega, by omega, C, hC, ?_⟩
        rw [if_pos h0, if_neg h1]
      · cases h
  · cases h
theorem drop_closed {N K : Nat} {A : List Int} (h0 : chk N A = 0) (hA : Clo N A) (h1 : 1 ≤ K) (h2 : K < N) : drop N A K = ((N : Int) - 1, dropL N K A, 0) := by
  unfold drop
  rw [if_pos h0, if_neg (by omega), Int.toNat_natCast, Int.toNat_natCast, hA.close]
/-- of two clocks that go it turns nothing which goes first. -/
theorem two {n : Int} {L : List Int} {j k : Int} (hjk : j < k) (ha : (drop n L j).2.2 = 0) (hb : (drop n L k).2.2 = 0) (ca : chk (drop n L j).1 (drop n L j).2.1 = 0) (cb : chk (drop n L k).1 (drop n L k).2.1 = 0) :
    drop (drop n L j).1 (drop n L j).2.1 (k - 1) = drop (drop n L k).1 (drop n L k).2.1 j := by
  obtain ⟨h0, j1, j2, C, hC, ea⟩ := drop_ok ha
  obtain ⟨_, k1, k2, C', hC', eb⟩ := drop_ok hb
  rw [hC] at hC'; injection hC' with hC'; subst hC'
  obtain ⟨N, rfl⟩ : ∃ N : Nat, n = N := ⟨n.toNat, by omega⟩
  obtain ⟨J, rfl⟩ : ∃ J : Nat, j = J := ⟨j.toNat, by omega⟩
  obtain ⟨K, rfl⟩ : ∃ K : Nat, k = K := ⟨k.toNat, by omega⟩
  rw [Int.toNat_natCast] at hC
  have hclo := close_clo h0 hC
  rw [ea] at ca ⊢
  rw [eb] at cb ⊢
  simp only [Int.toNat_natCast] at ca cb ⊢
  have en : (N : Int) - 1 = ((N - 1 : Nat) : Int) := by omega
  have ek : (K : Int) - 1 = ((K - 1 : Nat) : Int) := by omega
  rw [en] at ca cb ⊢
  rw [ek, drop_closed ca (clo_drop hclo) (by omega) (by omega), drop_closed cb (clo_drop hclo) (by omega) (by omega), dropL_dropL C (by omega)]
end Go.Proofs.YtodpgcdandechaaGreat.Proj

/-
  Plain laws of compositions, ended: the points of two zones one behind the other. No program is in sight.
-/
namespace Go.Proofs.YtodpgcdandechaaGreat
set_option linter.unusedVariables false
set_option linter.unusedSimpArgs false
open Go.RowKit Go.Proofs.YtodpgcdandechaaGreat.Eng Enc
namespace Dbm
end Dbm
namespace Cmp
open Dbm Mi
/-- three times. -/
def t3 (x y z : Rat) (i : Nat) : Rat := if i = 0 then x else if i = 1 then y else z
end Cmp
namespace Zs
open Mi Dbm Cmp
end Zs
end Go.Proofs.YtodpgcdandechaaGreat

/-
  The document's answer: ref09.Comp, by the engine.
-/
namespace Go.Proofs.YtodpgcdandechaaGreat
set_option linter.unusedVariables false
set_option linter.unusedSimpArgs false
set_option maxRecDepth 100000
open Go.RowKit Go.Proofs.YtodpgcdandechaaGreat.Eng Enc

namespace Cmp
open Dbm
end Cmp
end Go.Proofs.YtodpgcdandechaaGreat

/-
  Compositions by the document's closing. No program is in sight.
-/
namespace Go.Proofs.YtodpgcdandechaaGreat
set_option linter.unusedVariables false
set_option linter.unusedSimpArgs false
open Go.RowKit Go.Proofs.YtodpgcdandechaaGreat.Eng Enc
namespace Cmp
open Dbm
end Cmp
end Go.Proofs.YtodpgcdandechaaGreat

/-
  The document's answer: ref09.Comp, by the engine (the second part).
-/
namespace Go.Proofs.YtodpgcdandechaaGreat
set_option linter.unusedVariables false
set_option linter.unusedSimpArgs false
set_option maxRecDepth 100000
open Go.RowKit Go.Proofs.YtodpgcdandechaaGreat.Eng Enc

end Go.Proofs.YtodpgcdandechaaGreat

/-
  The document's answer of layer 11, by the engine: Less.
-/
namespace Go.Proofs.YtodpgcdandechaaGreat
set_option linter.unusedVariables false
set_option linter.unusedSimpArgs false
set_option maxRecDepth 100000
open Go.RowKit Go.Proofs.YtodpgcdandechaaGreat.Eng Enc

namespace Mi
open Dbm
/-- where Less stands. -/
structure LSit (w w2 V : World) (Bb : Nat) (b : Zn) (sv : Value) (out : List Zn) (X : World) : Prop where
  below : Below w.heap.size w X
  size : w2.heap.size ≤ X.heap.size
  size0 : V.heap.size ≤ X.heap.size
  ha : Holds X Bb b
  own : Own 39 w2.heap.size X sv out
section
variable {w w2 V X Y : World} {Bb : Nat} {b : Zn} {sv : Value} {out : List Zn}
theorem LSit.at {hp : List LB} {r L : List Nat} (s : LSit w w2 V Bb b sv out X) (h : At ⟨w, w.heap.size, Nat.le_refl _⟩ hp r L X Y) (hL : ∀ x, x ∈ L → X.heap.size ≤ x ∨ x ≠ Bb ∧ sv.ownBlock ≠ some x) : LSit w w2 V Bb b sv out Y := by
  refine ⟨h.below, Nat.le_trans s.size h.size, Nat.le_trans s.size0 h.size, s.ha.same (h.step Bb s.ha.lt fun hm => ?_), ?_⟩
  · rcases hL _ hm with h1 | h1
    · have := s.ha.lt; omega
    · exact h1.1 rfl
  · obtain ⟨hl, h0 | ⟨g, cap, cur, e1, e2, e3, e4⟩⟩ := s.own
    · exact ⟨hl, .inl h0⟩
    · have hg := (Array.getElem?_eq_some_iff.1 e3).1
      refine ⟨hl, .inr ⟨g, cap, cur, e1, e2, (h.step g hg (fun e => ?_)).trans e3, e4⟩⟩
      rcases hL g e with h1 | h1
      · omega
      · exact h1.2 (by rw [e1]; rfl)
theorem LSit.go (s : LSit w w2 V Bb b sv out X) (hw : w.heap.size ≤ w2.heap.size) (hB : Below X.heap.size X Y) : LSit w w2 V Bb b sv out Y :=
  ⟨s.below.trans (hB.mono s.below.size), Nat.le_trans s.size hB.size, Nat.le_trans s.size0 hB.size, s.ha.below hB, s.own.below hB⟩
end
end Mi
end Go.Proofs.YtodpgcdandechaaGreat

/-
  The document's answer of layer 11, by the engine: Rest.
-/
namespace Go.Proofs.YtodpgcdandechaaGreat
set_option linter.unusedVariables false
set_option linter.unusedSimpArgs false
set_option maxRecDepth 100000
open Go.RowKit Go.Proofs.YtodpgcdandechaaGreat.Eng Enc

end Go.Proofs.YtodpgcdandechaaGreat

/-
  The document's answer of layer 12, by the engine: Check, Covered, In, AllCovered, All.
-/
namespace Go.Proofs.YtodpgcdandechaaGreat
set_option linter.unusedVariables false
set_option linter.unusedSimpArgs false
set_option maxRecDepth 100000
open Go.RowKit Go.Proofs.YtodpgcdandechaaGreat.Eng Enc

namespace Cv
end Cv
end Go.Proofs.YtodpgcdandechaaGreat

/-
  The document's answer of layer 12, by the engine: AllCovered, All, without; the order of zones.
-/
namespace Go.Proofs.YtodpgcdandechaaGreat
set_option linter.unusedVariables false
set_option linter.unusedSimpArgs false
set_option maxRecDepth 100000
open Go.RowKit Go.Proofs.YtodpgcdandechaaGreat.Eng Enc

end Go.Proofs.YtodpgcdandechaaGreat

/-
  The document's answer of layer 8, by the engine: Cmp.
-/
namespace Go.Proofs.YtodpgcdandechaaGreat
set_option linter.unusedVariables false
set_option linter.unusedSimpArgs false
set_option maxRecDepth 100000
open Go.RowKit Go.Proofs.YtodpgcdandechaaGreat.Eng Enc

end Go.Proofs.YtodpgcdandechaaGreat

/-
  The least of a list behind a place: what the document's Sorted takes; plain.
-/
namespace Go.Proofs.YtodpgcdandechaaGreat
set_option linter.unusedVariables false
set_option linter.unusedSimpArgs false
open Go.RowKit

namespace Cv
open Zo
/-- x comes behind all of out. -/
def Nx (out : List Zn) (x : Zn) : Prop := ∀ y, out.getLast? = some y → Lt y x
/-- what the inner scan has found among the first i. -/
def Sc (l out : List Zn) (i : Nat) (b : Int) : Prop :=
  (b = -1 ∧ ∀ k x, k < i → l[k]? = some x → ¬ Nx out x) ∨
  (∃ j y, b = (j : Nat) ∧ j < i ∧ l[j]? = some y ∧ Nx out y ∧ ∀ k x, k < i → l[k]? = some x → Nx out x → ¬ Lt x y)
theorem Sc.start (l out : List Zn) : Sc l out 0 (-1) := .inl ⟨rfl, fun k x h => by omega⟩
theorem Sc.skip {l out : List Zn} {i : Nat} {b : Int} {x : Zn} (h : Sc l out i b) (hx : l[i]? = some x) (hn : ¬ Nx out x) : Sc l out (i + 1) b := by
  rcases h with ⟨rfl, h⟩ | ⟨j, y, rfl, hj, hy, hn2, h⟩
  · refine .inl ⟨rfl, fun k x' hk hx' => ?_⟩
    by_cases e : k = i
    · subst e; rw [hx] at hx'; cases hx'; exact hn
    · exact h k x' (by omega) hx'
  · refine .inr ⟨j, y, rfl, by omega, hy, hn2, fun k x' hk hx' hn' => ?_⟩
    by_cases e : k = i
    · subst e; rw [hx] at hx'; cases hx'; exact absurd hn' hn
    · exact h k x' (by omega) hx' hn'
theorem Sc.first {l out : List Zn} {i : Nat} {x : Zn} (h : Sc l out i (-1)) (hx : l[i]? = some x) (hn : Nx out x) : Sc l out (i + 1) (i : Nat) := by
  rcases h with ⟨_, h⟩ | ⟨j, y, e, _⟩
  · refine .inr ⟨i, x, rfl, by omega, hx, hn, fun k x' hk hx' hn' => ?_⟩
    by_cases e : k = i
    · subst e; rw [hx] at hx'; cases hx'; exact Lt.irrefl _
    · exact absurd hn' (h k x' (by omega) hx')
  · omega
theorem Sc.keep {l out : List Zn} {i j : Nat} {x y : Zn} (h : Sc l out i (j : Nat)) (hx : l[i]? = some x) (hy : l[j]? = some y) (hn : ¬ Lt x y) : Sc l out (i + 1) (j : Nat) := by
  rcases h with ⟨e, _⟩ | ⟨j', y', e, hj, hy', hn2, h⟩
  · omega
  · have : j' = j := by omega
    subst this
    rw [hy] at hy'; cases hy'
    refine .inr ⟨j', y, rfl, by omega, hy, hn2, fun k x' hk hx' hn' => ?_⟩
    by_cases e : k = i
    · subst e; rw [hx] at hx'; cases hx'; exact hn
    · exact h k x' (by omega) hx' hn'
theorem last_take {S : List Zn} {p : Nat} (hp : p ≤ S.length) : (S.take p).getLast? = if p = 0 then none else S[p - 1]? := by
  rw [List.getLast?_eq_getElem?, List.length_take, Nat.min_eq_left hp]
  by_cases h : p = 0
  · subst h; simp
  · rw [if_neg h, List.getElem?_take, if_pos (by omega)]
theorem strict_at {S : List Zn} (h : S.Pairwise Lt) {i j : Nat} {x y : Zn} (hx : S[i]? = some x) (hy : S[j]? = some y) (hij : i < j) : Lt x y := by
  obtain ⟨h1, rfl⟩ := List.getElem?_eq_some_iff.1 hx
  obtain ⟨h2, rfl⟩ := List.getElem?_eq_some_iff.1 hy
  exact List.pairwise_iff_getElem.1 h i j h1 h2 hij
theorem nx_at {S : List Zn} (h : S.Pairwise Lt) {p j : Nat} {x : Zn} (hp : p ≤ S.length) (hx : S[j]? = some x) : Nx (S.take p) x ↔ p ≤ j := by
  unfold Nx
  rw [last_take hp]
  constructor
  · intro hn
    by_cases e : p = 0
    · omega
    rw [if_neg e] at hn
    obtain ⟨y, hy⟩ : ∃ y, S[p - 1]? = some y := ⟨_, List.getElem?_eq_getElem (by omega)⟩
    have hlt := hn y hy
    refine Nat.le_of_not_lt fun hj => ?_
    by_cases e2 : j = p - 1
    · subst e2; rw [hx] at hy; cases hy; exact Lt.irrefl _ hlt
    · exact Lt.irrefl _ (Lt.trans hlt (strict_at h hx hy (by omega)))
  · intro hpj y hy
    by_cases e : p = 0
    · rw [if_pos e] at hy; cases hy
    · rw [if_neg e] at hy
      exact strict_at h hy hx (by omega)
theorem Sc.done {l : List Zn} {p : Nat} (hp : p ≤ (sorted l).length) (h : Sc l ((sorted l).take p) l.length (-1)) : (sorted l).take p = sorted l := by
  rcases h with ⟨_, h⟩ | ⟨j, y, e, _⟩
  · refine List.take_of_length_le (Nat.le_of_not_lt fun hlt => ?_)
    have hx := List.getElem?_eq_getElem hlt
    obtain ⟨k, hk⟩ := List.mem_iff_getElem?.1 ((sorted_mem l _).1 (List.mem_of_getElem? hx))
    exact h k _ (List.getElem?_eq_some_iff.1 hk).1 hk ((nx_at (sorted_strict l) hp hx).2 (Nat.le_refl _))
  · omega
theorem Sc.more {l : List Zn} {p j : Nat} {y : Zn} (hp : p ≤ (sorted l).length) (h : Sc l ((sorted l).take p) l.length (j : Nat)) (hy : l[j]? = some y) : (sorted l)[p]? = some y := by
  rcases h with ⟨e, _⟩ | ⟨j', y', e, hj, hy', hn2, h⟩
  · omega
  · have : j' = j := by omega
    subst this
    rw [hy] at hy'; cases hy'
    obtain ⟨q, hq⟩ := List.mem_iff_getElem?.1 ((sorted_mem l y).2 (List.mem_of_getElem? hy))
    have hpq := (nx_at (sorted_strict l) hp hq).1 hn2
    by_cases e : p = q
    · rw [e]; exact hq
    have hql := (List.getElem?_eq_some_iff.1 hq).1
    have hx := List.getElem?_eq_getElem (l := sorted l) (i := p) (by omega)
    obtain ⟨k, hk⟩ := List.mem_iff_getElem?.1 ((sorted_mem l _).1 (List.mem_of_getElem? hx))
    exact absurd (strict_at (sorted_strict l) hx hq (by omega)) (h k _ (List.getElem?_eq_some_iff.1 hk).1 hk ((nx_at (sorted_strict l) hp hx).2 (Nat.le_refl _)))
end Cv
end Go.Proofs.YtodpgcdandechaaGreat

/-
  The document's answer of layer 12, by the engine: Sorted.
-/
namespace Go.Proofs.YtodpgcdandechaaGreat
set_option linter.unusedVariables false
set_option linter.unusedSimpArgs false
set_option maxRecDepth 100000
open Go.RowKit Go.Proofs.YtodpgcdandechaaGreat.Eng Enc

namespace Zo
end Zo
namespace Cv
theorem Sc.neg {l out : List Zn} {i : Nat} {b : Int} (h : Sc l out i b) (hb : b < 0) : b = -1 := by
  rcases h with ⟨rfl, _⟩ | ⟨j, y, rfl, _⟩ <;> omega
theorem Sc.pos {l out : List Zn} {i : Nat} {b : Int} (h : Sc l out i b) (hb : ¬ b < 0) : ∃ j y, b = (j : Nat) ∧ j < i ∧ l[j]? = some y := by
  rcases h with ⟨rfl, _⟩ | ⟨j, y, rfl, hj, hy, _⟩
  · omega
  · exact ⟨j, y, rfl, hj, hy⟩
end Cv
end Go.Proofs.YtodpgcdandechaaGreat

/-
  The document's answer of layer 12, by the engine: Wanted, Prune.
-/
namespace Go.Proofs.YtodpgcdandechaaGreat
set_option linter.unusedVariables false
set_option linter.unusedSimpArgs false
set_option maxRecDepth 100000
open Go.RowKit Go.Proofs.YtodpgcdandechaaGreat.Eng Enc

end Go.Proofs.YtodpgcdandechaaGreat

/-
  The document's answer of layer 12, by the engine: what Prune answers is a row of its own.
-/
namespace Go.Proofs.YtodpgcdandechaaGreat
set_option linter.unusedVariables false
set_option linter.unusedSimpArgs false
set_option maxRecDepth 100000
open Go.RowKit Go.Proofs.YtodpgcdandechaaGreat.Eng Enc

end Go.Proofs.YtodpgcdandechaaGreat

/-
  rallentandoref11.Same: whether two lists of zones are the same.
-/
namespace Go.Proofs.YtodpgcdandechaaGreat
set_option linter.unusedVariables false
set_option linter.unusedSimpArgs false
set_option maxRecDepth 100000
open Go.RowKit Go.Proofs.YtodpgcdandechaaGreat.Eng Enc

end Go.Proofs.YtodpgcdandechaaGreat

/-
  The document's answer of layer 13: sets of zones, by the engine.
-/
namespace Go.Proofs.YtodpgcdandechaaGreat
set_option linter.unusedVariables false
set_option linter.unusedSimpArgs false
set_option maxRecDepth 100000
open Go.RowKit Go.Proofs.YtodpgcdandechaaGreat.Eng Enc

namespace Zs
end Zs
end Go.Proofs.YtodpgcdandechaaGreat

/-
  The document's answers of layers 3, 4 and 8: what times keep, by the engine.
-/
namespace Go.Proofs.YtodpgcdandechaaGreat
set_option linter.unusedVariables false
set_option linter.unusedSimpArgs false
set_option maxRecDepth 100000
open Go.RowKit Go.Proofs.YtodpgcdandechaaGreat.Eng Enc

namespace Fr
end Fr
/-- one place of what times keep. -/
def Dbm.kp (L : List Int) (M : List Rt) (i j : Nat) : Bool := (Fr.keeps (M[i]?.getD ⟨0, 1⟩) (M[j]?.getD ⟨0, 1⟩) (L[i * 3 + j]?.getD 0)).1
end Go.Proofs.YtodpgcdandechaaGreat

/-
  The document's answer of layer 13: spans, windows, and what is asked, by the engine.
-/
namespace Go.Proofs.YtodpgcdandechaaGreat
set_option linter.unusedVariables false
set_option linter.unusedSimpArgs false
set_option maxRecDepth 100000
open Go.RowKit Go.Proofs.YtodpgcdandechaaGreat.Eng Enc

namespace Zs
end Zs
theorem Zs.has_doc {l : List Zn} (h0 : Cv.checked [l] = 0) (p : Pt) : Zs.has l p = if p.t.ok = true ∧ p.u.ok = true then (l.any (fun z => Dbm.keptL 3 (Zo.matL z) [p.t, p.u]), 0) else (false, 8) := by
  obtain ⟨_, hc⟩ := Cv.checked_one.1 h0
  have kept : ∀ z, Zo.chk z = 0 → p.t.ok = true ∧ p.u.ok = true → Zo.has z p = (Dbm.keptL 3 (Zo.matL z) [p.t, p.u], 0) := fun z hz hp => by
    have hc0 := (Zo.clo hz).1
    unfold Zo.has
    rw [if_pos ⟨hz, hp⟩]
    unfold Dbm.keeps
    rw [if_pos ⟨hc0, by simp [hp.1, hp.2]⟩, if_pos (by simp)]
    rfl
  unfold Zs.has
  rw [if_pos h0]
  by_cases hp : p.t.ok = true ∧ p.u.ok = true
  · rw [kept _ Zs.free_chk hp, if_pos rfl, if_pos hp]
    congr 1
    rw [Bool.eq_iff_iff, List.any_eq_true, List.any_eq_true]
    constructor
    · rintro ⟨z, hz, h⟩
      rw [kept z (hc z hz) hp] at h
      exact ⟨z, hz, by simpa using h⟩
    · rintro ⟨z, hz, h⟩
      exact ⟨z, hz, by rw [kept z (hc z hz) hp]; simpa using h⟩
  · have : Zo.has Zs.free p = (false, 8) := by
      unfold Zo.has
      rw [if_neg (fun h => hp h.2)]
    rw [this, if_neg (by decide), if_neg hp]
end Go.Proofs.YtodpgcdandechaaGreat

