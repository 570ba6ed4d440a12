/-
  Merged texts of this law (each with its own head below).
-/
import Derived.Test.YtanhnllkccldhaaGreatLTablePoints4
import Derived.Test.YtanhnllkccldhaaGreatLTablePoints3
import Derived.Test.YtanhnllkccldhaaGreatLTablePoints1
import Derived.RangeFuncBox
import Derived.RangeFuncBound
import Derived.RangeFuncLeaves
import Derived.Shelf.Abstract
import Derived.WalkKit
import Derived.OwnWalkIn
import Derived.TacticsInMore
import Derived.LoopNIn
import Derived.LoopIn
import Derived.Deep.QuietTactic
import Derived.BigQuiet
import Derived.Sort.Grow
import Derived.Shelf.SlSortCmp.NoneTotal
import Derived.Ground.SlsfProg
import Derived.Test.YtanhnllkccldhaaGreatProg
import Derived.Sort.OwnSorted
import Derived.Laws.StructEq
import Derived.Maps.AppendAt
namespace Go.Proofs.YtanhnllkccldhaaGreat
set_option linter.unusedVariables false
set_option linter.unusedSimpArgs false
set_option maxRecDepth 100000
open Go.RowKit Go.Proofs.YtanhnllkccldhaaGreat.Eng Enc
theorem div_in {n g : Int} (hn : inK .i64 n) (hg : 1 ≤ g) : inK .i64 (n / g) := Fr.ediv_in hg hn
theorem gcdI_any (x y : Int) (a b : Nat) (hx : x = a) (hy : y = b) (ha : a < 18446744073709551616) (hb : b < 18446744073709551616) (w : World) :
 Calls Tryz.prog 123 #[.int .u64 x, .int .u64 y] w fun e w' => e = .returned (.int .u64 (Nat.gcd a b)) ∧ Below w.heap.size w w' := by
 subst hx; subst hy; exact gcd_any a b ha hb w
theorem low_any (n d : Int) (hd : 1 ≤ d) (hn : inK .i64 n) (hd2 : inK .i64 d) (w : World) :
 Calls Tryz.prog 81 #[.int .i64 n, .int .i64 d] w fun e w' => e = .returned (.tuple #[.agg #[.int .i64 (Fr.low n d).1.num, .int .i64 (Fr.low n d).1.den], .int .i64 (Fr.low n d).2]) ∧ Below w.heap.size w w' := by
 refine fun_eq 0 w Tryz.func81 (args := [.val (.int .i64 n), .val (.int .i64 d)]) rfl rfl ?_
 have hn' := hn
 have hd' := hd2
 simp only [inK] at hn' hd'
 refine NewI.mk fun b1 hb1 => ?_
 (first
   | (refine CallI.to1 (size_any n hn) fun w2 => ?_)
   | (refine Branch.yes rfl ?_)
   | (refine Branch.no rfl ?_)
   | (refine Branch.mk (fun hb => ?_) (fun hb => ?_))
   | (refine NewI.mk fun nb hnb => ?_)
   | (refine Need.mk (by show _ ∧ _; omega) ?_)
   | (refine Need.mk (by omega) ?_)
   | (refine Need.mk ?_ ?_)
   | (refine EndI.mk fun w1 h1 => ?_))
 obtain ⟨D, rfl⟩ : ∃ D : Nat, d = D := ⟨d.toNat, by omega⟩
 (first
   | (refine CallI.to1 (gcdI_any _ _ n.natAbs D rfl (by omega) (by omega) (by omega)) fun w2 => ?_)
   | (refine Branch.yes rfl ?_)
   | (refine Branch.no rfl ?_)
   | (refine Branch.mk (fun hb => ?_) (fun hb => ?_))
   | (refine NewI.mk fun nb hnb => ?_)
   | (refine Need.mk (by show _ ∧ _; omega) ?_)
   | (refine Need.mk (by omega) ?_)
   | (refine Need.mk ?_ ?_)
   | (refine EndI.mk fun w1 h1 => ?_))
 have hgD : (Nat.gcd n.natAbs D : Int) ∣ (D : Int) := Int.natCast_dvd_natCast.2 (Nat.gcd_dvd_right ..)
 have hgn : (Nat.gcd n.natAbs D : Int) ∣ n := Int.ofNat_dvd_left.2 (Nat.gcd_dvd_left ..)
 have hg1 : 1 ≤ (Nat.gcd n.natAbs D : Int) := by
  have : 0 < Nat.gcd n.natAbs D := Nat.gcd_pos_of_pos_right _ (by omega)
  omega
 have hgle : (Nat.gcd n.natAbs D : Int) ≤ D := Int.le_of_dvd (by omega) hgD
 have hl : Fr.low n D = if Fr.okB (n / (Nat.gcd n.natAbs D : Int)) ((D : Int) / (Nat.gcd n.natAbs D : Int)) = true then (⟨n / (Nat.gcd n.natAbs D : Int), (D : Int) / (Nat.gcd n.natAbs D : Int)⟩, 0) else (⟨0, 0⟩, 10) := rfl
 rw [hl]
 generalize (Nat.gcd n.natAbs D : Int) = g at *
 have e1 : n.tdiv g = n / g := Int.tdiv_eq_ediv_of_dvd hgn
 have e2 : (D : Int).tdiv g = (D : Int) / g := Int.tdiv_eq_ediv_of_dvd hgD
 conv => whnf
 rw [show (g + 9223372036854775808) % 18446744073709551616 - 9223372036854775808 = g by omega]
 refine DrawI.go (.tk 0 (.tk 1 (.tk 2 (.tk 3 (.tk 4 (.tk 5 (.tk 6 (.ev 7 (.ev 8 .done))))))))) (by kernel_rfl) fun w1 h1 => ?_
 refine Need.mk ⟨by omega, by rw [e1]; exact div_in hn hg1⟩ ?_
 refine Need.mk ⟨by omega, by rw [e2]; exact div_in hd2 hg1⟩ ?_
 rw [e1, e2]
 refine NewI.mk fun b2 hb2 => ?_
 apply CallI.use1
 ·exact fun w3 h3 => rcheck_any (n / g) (D / g) (div_in hn hg1) (div_in hd2 hg1) w3
 intro w3 w4 h3 hB4
 refine Branch.mk (fun hc => ?_) (fun hc => ?_)
 ·refine EndI.mk fun w5 h5 => ?_
  rw [if_pos (Fr.chk_eq.1 (by simpa using hc))]
 ·refine EndI.mk fun w5 h5 => ?_
  rw [if_neg (fun h => by rw [Fr.chk_yes h] at hc; cases hc)]
theorem rof_any (n d : Int) (hn : inK .i64 n) (hd2 : inK .i64 d) (w : World) :
 Calls Tryz.prog 41 #[.int .i64 n, .int .i64 d] w fun e w' => e = .returned (.tuple #[.agg #[.int .i64 (Fr.of n d).1.num, .int .i64 (Fr.of n d).1.den], .int .i64 (Fr.of n d).2]) ∧ Below w.heap.size w w' := by
 refine fun_eq 0 w Tryz.func41 (args := [.val (.int .i64 n), .val (.int .i64 d)]) rfl rfl ?_
 refine NewI.mk fun b1 hb1 => ?_
 unfold Fr.of
 refine Branch.mk (fun hc => ?_) (fun hc => ?_)
 ·refine EndI.mk fun w5 h5 => ?_
  rw [if_pos (by simpa using hc)]
 have hd : ¬ d < 1 := by simpa using hc
 rw [if_neg hd]
 (first
   | (refine CallI.to1 (low_any n d (by omega) hn hd2) fun w2 => ?_)
   | (refine Branch.yes rfl ?_)
   | (refine Branch.no rfl ?_)
   | (refine Branch.mk (fun hb => ?_) (fun hb => ?_))
   | (refine NewI.mk fun nb hnb => ?_)
   | (refine Need.mk (by show _ ∧ _; omega) ?_)
   | (refine Need.mk (by omega) ?_)
   | (refine Need.mk ?_ ?_)
   | (refine EndI.mk fun w1 h1 => ?_))
 exact EndI.mk fun w5 h5 => rfl
def Incl.End.val (x : Incl.End) : Value := .agg #[.bool x.is, .int .i64 x.at_.num, .int .i64 x.at_.den, .bool x.strict]
end Go.Proofs.YtanhnllkccldhaaGreat
namespace Go.Proofs.YtanhnllkccldhaaGreat.Dbm
set_option linter.unusedVariables false
set_option linter.unusedSimpArgs false
open Go.Proofs.YtanhnllkccldhaaGreat.Fr
def satO (d : Rat) : OB → Prop
 | none => True
 | some v => if Bd.st v = true then d < ((v / 2 : Int) : Rat) else d ≤ ((v / 2 : Int) : Rat)
theorem sat_iff (d : Rat) (b : Int) : sat d b ↔ satO d (ob b) := by
 unfold sat ob
 by_cases h : b = NO
 ·rw [if_pos h]; exact ⟨fun _ => trivial, fun _ => .inl h⟩
 ·rw [if_neg h]
  exact ⟨fun k => k.resolve_left h, fun k => .inr k⟩
theorem st_iff (v : Int) : Bd.st v = true ↔ v % 2 = 0 := by simp [Bd.st]
theorem satO_add {d e : Rat} {a b : OB} (h : satO d a) (k : satO e b) : satO (d + e) (oadd a b) := by
 cases a with
 | none => trivial
 | some u =>
   cases b with
   | none => trivial
   | some v =>
     simp only [satO, oadd] at h k ⊢
     rw [bsum_half]
     have hp : Bd.st (bsum u v) = true ↔ (Bd.st u = true ∨ Bd.st v = true) := by
      rw [st_iff, st_iff, st_iff]
      unfold bsum
      rcases parity u with h1 | h1 <;> rcases parity v with h2 | h2 <;> rw [h1, h2] <;> constructor <;> intro h <;> omega
     rw [Rat.intCast_add]
     generalize ((u / 2 : Int) : Rat) = x at *
     generalize ((v / 2 : Int) : Rat) = y at *
     cases hu : Bd.st u <;> cases hv : Bd.st v <;> simp only [hu, hv, Bool.false_eq_true, if_true, if_false, or_self, or_true, true_or, or_false, false_or] at h k hp ⊢
     ·rw [if_neg (by rw [hp]; simp)]; grind
     ·rw [if_pos (by rw [hp]; trivial)]; grind
     ·rw [if_pos (by rw [hp]; trivial)]; grind
     ·rw [if_pos (by rw [hp]; trivial)]; grind
theorem satO_mono {d : Rat} {a b : OB} (h : ole a b) (k : satO d a) : satO d b := by
 cases b with
 | none => trivial
 | some v =>
   cases a with
   | none => exact h.elim
   | some u =>
     have huv : u ≤ v := h
     simp only [satO] at k ⊢
     have h1 : u / 2 ≤ v / 2 := by omega
     have h2 : ((u / 2 : Int) : Rat) ≤ ((v / 2 : Int) : Rat) := by exact_mod_cast h1
     cases hu : Bd.st u <;> cases hv : Bd.st v <;> simp only [hu, hv, Bool.false_eq_true, if_true, if_false] at k ⊢
     ·grind
     ·have h3 : u / 2 < v / 2 := by
       have a1 : ¬ u % 2 = 0 := fun e => by rw [(st_iff u).2 e] at hu; cases hu
       have a2 := (st_iff v).1 hv
       omega
      have h4 : ((u / 2 : Int) : Rat) < ((v / 2 : Int) : Rat) := by exact_mod_cast h3
      grind
     ·grind
     ·grind
theorem satO_zero {v : Int} : satO 0 (some v) ↔ 1 ≤ v := by
 simp only [satO]
 cases hv : Bd.st v <;> simp only [Bool.false_eq_true, if_true, if_false]
 ·have a1 : ¬ v % 2 = 0 := fun e => by rw [(st_iff v).2 e] at hv; cases hv
  constructor
  ·intro h
   have : (0 : Int) ≤ v / 2 := by exact_mod_cast h
   omega
  ·intro h
   have : (0 : Int) ≤ v / 2 := by omega
   exact_mod_cast this
 ·have a1 := (st_iff v).1 hv
  constructor
  ·intro h
   have : (0 : Int) < v / 2 := by exact_mod_cast h
   omega
  ·intro h
   have : (0 : Int) < v / 2 := by omega
   exact_mod_cast this
def Fits (N : Nat) (E : Mx) (t : Nat → Rat) : Prop := ∀ i j, i < N → j < N → satO (t i - t j) (E i j)
theorem Fits.way {N : Nat} {E : Mx} {t : Nat → Rat} (h : Fits N E t) : ∀ (mid : List Nat) (i j : Nat), i < N → j < N → (∀ a ∈ mid, a < N) → satO (t i - t j) (Dbm.way E (i :: (mid ++ [j])))
 | [], i, j, hi, hj, _ => by
   simp only [List.nil_append, way_two]; exact h i j hi hj
 | a :: mid, i, j, hi, hj, hm => by
   have ha := hm a (by simp)
   have ih := h.way mid a j ha hj (fun b hb => hm b (by simp [hb]))
   simp only [List.cons_append, Dbm.way]
   have := satO_add (h i a hi ha) ih
   rwa [show t i - t a + (t a - t j) = t i - t j by grind] at this
theorem Inv.fits {N : Nat} {E M : Mx} {t : Nat → Rat} {k : Nat} (hk : k ≤ N) (inv : Inv N k E M) (h : Fits N E t) : Fits N M t := fun i j hi hj => by
 by_cases e : i = j
 ·subst e
  rw [inv.diag i hi, Rat.sub_self]
  exact satO_zero.2 (by omega)
 ·cases hv : M i j with
  | none => trivial
  | some v =>
    obtain ⟨mid, _, hm, hw⟩ := inv.wit i j hi hj e v hv
    rw [← hw]
    exact h.way mid i j hi hj fun a ha => Nat.lt_of_lt_of_le (hm a ha) hk
theorem Inv.fits_back {N : Nat} {E M : Mx} {t : Nat → Rat} {k : Nat} (inv : Inv N k E M) (h : Fits N M t) : Fits N E t := fun i j hi hj => satO_mono (inv.low i j hi hj) (h i j hi hj)
theorem fits_diag {N : Nat} {L L1 : List Int} {t : Nat → Rat} (hd : ∀ i, i < N → 1 ≤ L[i * N + i]?.getD 0) (h : ∀ i j, i < N → j < N → L1[i * N + j]?.getD 0 = if i = j then 1 else L[i * N + j]?.getD 0) :
 Fits N (mx N L1) t ↔ Fits N (mx N L) t := by
 have h1 : ∀ i j, i < N → j < N → i ≠ j → mx N L1 i j = mx N L i j := fun i j hi hj e => by unfold mx; rw [h i j hi hj, if_neg e]
 constructor
 ·intro k i j hi hj
  by_cases e : i = j
  ·subst e
   rw [Rat.sub_self]
   unfold mx ob
   split
   ·trivial
   ·exact satO_zero.2 (hd i hi)
  ·rw [← h1 i j hi hj e]; exact k i j hi hj
 ·intro k i j hi hj
  by_cases e : i = j
  ·subst e
   unfold mx
   rw [h i i hi hi, if_pos rfl, Rat.sub_self]
   exact satO_zero.2 (by omega)
  ·rw [h1 i j hi hj e]; exact k i j hi hj
theorem close_fits {N : Nat} {L C : List Int} (h0 : chk N L = 0) (h : closeL N L = some C) (t : Nat → Rat) : Fits N (mx N C) t ↔ Fits N (mx N L) t := by
 obtain ⟨L1, a2, a3, inv, hl, hE⟩ := close_inv h0 h
 rw [← fits_diag a2 a3]
 exact ⟨fun k => inv.fits_back k, fun k => inv.fits (Nat.le_refl _) k⟩
theorem close_some {N : Nat} {L : List Int} (h0 : chk N L = 0) {t : Nat → Rat} (ht : Fits N (mx N L) t) : ∃ C, closeL N L = some C := by
 obtain ⟨c1, c2, c3, c4⟩ := chk_iff.1 h0
 have hN4 : N ≤ 4 := by omega
 have hL : L.length = N * N := by exact_mod_cast c3
 have hdL : ∀ i, i < N → 1 ≤ L[i * N + i]?.getD 0 := fun i hi => by
  have := ht i i hi hi
  rw [Rat.sub_self] at this
  unfold mx ob at this
  split at this
  ·rename_i h; rw [h]; decide
  ·exact satO_zero.1 this
 have hd0 : ∀ n, n ≤ N → ∃ Ln, (List.range n).foldlM (diag1 N) L = some Ln := by
  intro n
  induction n with
  | zero => intro _; exact ⟨L, rfl⟩
  | succ n ih =>
    intro hn
    obtain ⟨Ln, e⟩ := ih (by omega)
    obtain ⟨a1, a2, a3⟩ := diag_spec hL n Ln (by omega) e
    rw [List.range_succ, List.foldlM_append, e]
    have : Ln[n * N + n]?.getD 0 = L[n * N + n]?.getD 0 := by rw [a3 n n (by omega) (by omega), if_neg (by omega)]
    refine ⟨Ln.set (n * N + n) 1, ?_⟩
    simp only [List.foldlM_cons, List.foldlM_nil, Option.bind_eq_bind, Option.bind_some, diag1]
    rw [if_neg (by rw [this]; have := hdL n (by omega); omega)]; rfl
 obtain ⟨L1, e1⟩ := hd0 N (Nat.le_refl _)
 obtain ⟨a1, a2, a3⟩ := diag_spec hL N L1 (Nat.le_refl _) e1
 have a3' : ∀ i j, i < N → j < N → L1[i * N + j]?.getD 0 = if i = j then 1 else L[i * N + j]?.getD 0 := fun i j hi hj => by
  rw [a3 i j hi hj]
  by_cases e : i = j
  ·rw [if_pos ⟨e, hi⟩, if_pos e]
  ·rw [if_neg (fun h => e h.1), if_neg e]
 have hd1 : ∀ i, i < N → mx N L1 i i = some 1 := fun i hi => by unfold mx; rw [a3' i i hi hi, if_pos rfl]; rfl
 have hE : ∀ i j v, i < N → j < N → mx N L1 i j = some v → -288230376151711744 ≤ v / 2 ∧ v / 2 ≤ 288230376151711744 := fun i j v hi hj hv => by
  obtain ⟨e1, e2⟩ := mx_some hv
  rw [a3' i j hi hj] at e1
  split at e1
  ·subst e1; decide
  ·have := chk_lim h0 (i * N + j) (by rw [hL]; exact place_lt hi hj)
   rw [e1] at this
   exact this.resolve_left e2
 have ht1 := (fits_diag (t := t) hdL a3').2 ht
 have hst : ∀ n, n ≤ N → ∃ Cn, (List.range n).foldlM (stage N) L1 = some Cn := by
  intro n
  induction n with
  | zero => intro _; exact ⟨L1, rfl⟩
  | succ n ih =>
    intro hn
    obtain ⟨M, e⟩ := ih (by omega)
    obtain ⟨b1, b2⟩ := fold_inv hN4 a1 hd1 hE n M (by omega) e
    rw [List.range_succ, List.foldlM_append, e]
    have hlM := inv_lim b2 (by omega) hN4 hE
    have hMd : M[n * N + n]?.getD 0 = 1 := (mx_some (b2.diag n (by omega))).1
    have hthr : ∀ i j, i < N → j < N → mx N (thrL N n M) i j = thr n (mx N M) i j := fun i j hi hj => thrL_mx (by omega) b1 hMd (fun q hq => lim_mono (hlM q hq) (by omega)) hi hj
    have htM := b2.fits (by omega) ht1
    have hok : diagOk N (thrL N n M) = true := by
     unfold diagOk
     rw [List.all_eq_true]
     intro i hi
     have hi := List.mem_range.1 hi
     refine decide_eq_true ?_
     have h1 : satO 0 (mx N (thrL N n M) i i) := by
      rw [hthr i i hi hi]
      rcases thr_cases n (mx N M) i i with h | ⟨h, _⟩
      ·rw [h, b2.diag i hi]; exact satO_zero.2 (by omega)
      ·rw [h]
       have := satO_add (htM i n hi (by omega)) (htM n i (by omega) hi)
       rwa [show t i - t n + (t n - t i) = 0 by grind] at this
     unfold mx ob at h1
     split at h1
     ·rename_i h; rw [h]; decide
     ·exact satO_zero.1 h1
    refine ⟨thrL N n M, ?_⟩
    simp only [List.foldlM_cons, List.foldlM_nil, Option.bind_eq_bind, Option.bind_some, stage]
    rw [if_pos hok]; rfl
 obtain ⟨C, e2⟩ := hst N (Nat.le_refl _)
 refine ⟨C, ?_⟩
 unfold closeL
 rw [e1, Option.bind_some, e2]
end Go.Proofs.YtanhnllkccldhaaGreat.Dbm
namespace Go.Proofs.YtanhnllkccldhaaGreat
set_option linter.unusedVariables false
namespace Dbm
theorem keptK {N : Nat} {L : List Int} {T : List Rt} : keptL N L T = true ↔ ∀ i j, i < N → j < N → (Fr.keeps ((moments T)[i]?.getD ⟨0, 1⟩) ((moments T)[j]?.getD ⟨0, 1⟩) (L[i * N + j]?.getD 0)).1 = true := by
 unfold keptL
 rw [List.all_eq_true]
 constructor
 ·intro h i j hi hj
  have := h (i * N + j) (List.mem_range.2 (place_lt hi hj))
  unfold pairOk at this
  rwa [place_div hj, place_mod hj] at this
 ·intro h q hq
  have hq := List.mem_range.1 hq
  unfold pairOk
  have := h (q / N) (q % N) (div_lt hq) (mod_lt hq)
  rwa [div_mod] at this
theorem momK {T : List Rt} (h : T.all Rt.ok = true) (i : Nat) : ((moments T)[i]?.getD ⟨0, 1⟩).ok = true := by
 have h0 : (⟨0, 1⟩ : Rt).ok = true := by decide
 cases hg : (moments T)[i]? with
 | none => exact h0
 | some x =>
   rcases List.mem_cons.1 (List.mem_of_getElem? hg) with rfl | hm
   ·exact h0
   ·exact List.all_eq_true.1 h x hm
def tvs (T : List Rt) (i : Nat) : Rat := Fr.v ((moments T)[i]?.getD ⟨0, 1⟩)
theorem may_limK {b : Int} (h : lim 2305843009213693951 b) : Bd.may b = true := by
 unfold Bd.may
 rcases h with h | h
 ·rw [h]; rfl
 ·have : Num.okB (b / 2) = true := Num.okB_iff.2 (by omega)
  rw [this]; simp
theorem kept_fitsK {N : Nat} {L : List Int} {T : List Rt} (hl : ∀ i j, i < N → j < N → lim 2305843009213693951 (L[i * N + j]?.getD 0)) (hT : T.all Rt.ok = true) : keptL N L T = true ↔ Fits N (mx N L) (tvs T) := by
 rw [keptK]
 have key : ∀ i j, i < N → j < N → ((Fr.keeps ((moments T)[i]?.getD ⟨0, 1⟩) ((moments T)[j]?.getD ⟨0, 1⟩) (L[i * N + j]?.getD 0)).1 = true ↔ satO (tvs T i - tvs T j) (mx N L i j)) := fun i j hi hj => by
  rw [Fr.keeps_sat (momK hT i) (momK hT j) (may_limK (hl i j hi hj)), sat_iff]; rfl
 exact ⟨fun h i j hi hj => (key i j hi hj).1 (h i j hi hj), fun h i j hi hj => (key i j hi hj).2 (h i j hi hj)⟩
theorem chk_lenK {N : Nat} {L : List Int} (h : chk N L = 0) : L.length = N * N := by have := (chk_iff.1 h).2.2.1; exact_mod_cast this
theorem chk_limK {N : Nat} {L : List Int} (h : chk N L = 0) (i j : Nat) (hi : i < N) (hj : j < N) : lim 2305843009213693951 (L[i * N + j]?.getD 0) :=
 lim_mono (chk_lim h _ (by rw [chk_lenK h]; exact place_lt hi hj)) (by omega)
end Dbm
end Go.Proofs.YtanhnllkccldhaaGreat
namespace Go.Proofs.YtanhnllkccldhaaGreat
set_option linter.unusedVariables false
set_option linter.unusedSimpArgs false
namespace Fr
structure Sm (D M : Int) (a : Rt) : Prop where
 ok : a.ok = true
 den : a.den ≤ D
 lo : -(M * a.den) ≤ a.num
 hi : a.num ≤ M * a.den
theorem Sm.mono {D D' M M' : Int} {a : Rt} (h : Sm D M a) (hD : D ≤ D') (hM : M ≤ M') : Sm D' M' a := by
 have o := ok_bd h.ok
 have hm : M * a.den ≤ M' * a.den := Int.mul_le_mul_of_nonneg_right hM (by omega)
 exact ⟨h.ok, Int.le_trans h.den hD, by have := h.lo; omega, by have := h.hi; omega⟩
theorem v_den {a : Rt} (ha : a.ok = true) : (a.den : Rat) ≠ 0 := by
 have oa := ok_bd ha
 intro h; have : a.den = 0 := by exact_mod_cast h
 omega
theorem low_sm {T D M d : Int} (hD : 1 ≤ D) (hd : D ≤ d) (hd2 : d ≤ 1048576) (hM : 0 ≤ M) (hM2 : M < 2305843009213693952) (hMd : M * d ≤ 9223372036854775807) (h1 : -(M * D) ≤ T) (h2 : T ≤ M * D) :
 okB (T / Int.gcd T D) (D / Int.gcd T D) = true ∧ inI (T / Int.gcd T D) = true ∧ Sm d M ⟨T / Int.gcd T D, D / Int.gcd T D⟩ ∧ T / Int.gcd T D * D = T * (D / Int.gcd T D) := by
 have hg : 1 ≤ (Int.gcd T D : Int) := by
  have : 0 < Int.gcd T D := Int.gcd_pos_of_ne_zero_right _ (by omega)
  omega
 have d1 : (Int.gcd T D : Int) ∣ T := Int.gcd_dvd_left ..
 have d2 : (Int.gcd T D : Int) ∣ D := Int.gcd_dvd_right ..
 have hcop : Int.gcd (T / Int.gcd T D) (D / Int.gcd T D) = 1 := Int.gcd_ediv_gcd_ediv_gcd (i := T) (j := D) (by omega)
 generalize (Int.gcd T D : Int) = g at *
 obtain ⟨u, rfl⟩ := d1
 obtain ⟨x, rfl⟩ := d2
 rw [Int.mul_ediv_cancel_left _ (by omega), Int.mul_ediv_cancel_left _ (by omega)] at *
 have hx : 1 ≤ x := by
  rcases Int.lt_or_le 0 x with h | h
  ·omega
  ·have := Int.mul_nonpos_of_nonneg_of_nonpos (a := g) (b := x) (by omega) h
   omega
 have hxd : x ≤ d := by
  have := Int.mul_le_mul_of_nonneg_right hg (show 0 ≤ x by omega)
  omega
 have k1 : -(M * x) ≤ u := by
  refine Int.le_of_mul_le_mul_left (a := g) ?_ (by omega)
  rw [Int.mul_neg, Int.mul_left_comm]; exact h1
 have k2 : u ≤ M * x := by
  refine Int.le_of_mul_le_mul_left (a := g) ?_ (by omega)
  rw [Int.mul_left_comm g M x]; exact h2
 have hMx : M * x ≤ M * d := Int.mul_le_mul_of_nonneg_left hxd hM
 have hin : inB u x = true := by
  apply in_iff.2
  have a1 : -M ≤ u / x := by
   refine (Int.le_ediv_iff_mul_le (by omega)).2 ?_
   rw [Int.neg_mul]; exact k1
  have a2 : u / x ≤ M := by
   have := Int.ediv_le_ediv (c := x) (by omega) k2
   rwa [Int.mul_ediv_cancel _ (by omega)] at this
  omega
 have hok : okB u x = true := by
  unfold okB
  rw [hin]
  have hc2 : Nat.gcd u.natAbs x.natAbs = 1 := hcop
  simp only [hc2]; simp; omega
 refine ⟨hok, ?_, ⟨hok, hxd, k1, k2⟩, ?_⟩
 ·unfold inI; simp; omega
 ·rw [Int.mul_left_comm, ← Int.mul_assoc]
theorem v_of_mul {a : Rt} (ha : a.ok = true) {T D : Int} (hD : 1 ≤ D) (h : a.num * D = T * a.den) : v a * (D : Rat) = T := by
 have h1 := v_den ha
 have h2 : (a.num : Rat) * (D : Rat) = (T : Rat) * (a.den : Rat) := by exact_mod_cast h
 unfold v
 grind
theorem sum_sm {a b : Rt} {k Da Db Ma Mb d M : Int} (ha : Sm Da Ma a) (hb : Sm Db Mb b) (hk : k = 1 ∨ k = 2) (hMa : 0 ≤ Ma) (hMb : 0 ≤ Mb) (hd : Da * Db * k ≤ d) (hd2 : d ≤ 1048576) (hM : Ma + Mb ≤ M * k) (hM2 : M < 2305843009213693952) (hMd : M * d ≤ 9223372036854775807) :
 (sum a b k).2 = 0 ∧ Sm d M (sum a b k).1 ∧ v (sum a b k).1 * (k : Rat) = v a + v b := by
 have oa := ok_bd ha.ok
 have ob := ok_bd hb.ok
 have hM0 : 0 ≤ M := by rcases hk with rfl | rfl <;> omega
 have e1 : a.den * b.den ≤ Da * Db := Int.mul_le_mul ha.den hb.den (by omega) (by have := ha.den; omega)
 have e2 : 1 ≤ a.den * b.den := by
  have := Int.mul_le_mul (a := 1) (b := 1) oa.1 ob.1 (by omega) (by omega)
  omega
 have hdn : 1 ≤ dn a b k ∧ dn a b k ≤ d := by
  unfold dn
  rcases hk with rfl | rfl <;> omega
 have hT : -(M * dn a b k) ≤ tn a b ∧ tn a b ≤ M * dn a b k := by
  have p1 : a.num * b.den ≤ Ma * a.den * b.den := Int.mul_le_mul_of_nonneg_right ha.hi (by omega)
  have p2 : b.num * a.den ≤ Mb * b.den * a.den := Int.mul_le_mul_of_nonneg_right hb.hi (by omega)
  have p3 : -(Ma * a.den) * b.den ≤ a.num * b.den := Int.mul_le_mul_of_nonneg_right ha.lo (by omega)
  have p4 : -(Mb * b.den) * a.den ≤ b.num * a.den := Int.mul_le_mul_of_nonneg_right hb.lo (by omega)
  have p5 : (Ma + Mb) * (a.den * b.den) ≤ M * k * (a.den * b.den) := Int.mul_le_mul_of_nonneg_right hM (by omega)
  have q1 : M * dn a b k = M * k * (a.den * b.den) := by unfold dn; grind
  have q2 : Ma * a.den * b.den + Mb * b.den * a.den = (Ma + Mb) * (a.den * b.den) := by grind
  have q3 : -(Ma * a.den) * b.den + -(Mb * b.den) * a.den = -((Ma + Mb) * (a.den * b.den)) := by grind
  rw [q1]; unfold tn
  omega
 obtain ⟨l1, l2, l3, l4⟩ := low_sm hdn.1 hdn.2 hd2 hM0 hM2 hMd hT.1 hT.2
 unfold sum
 rw [if_pos ⟨l1, l2⟩]
 refine ⟨rfl, l3, ?_⟩
 have hv := v_of_mul l3.ok hdn.1 l4
 have h1 := v_den ha.ok
 have h2 := v_den hb.ok
 simp only at hv ⊢
 have hk0 : (k : Rat) ≠ 0 := by rcases hk with rfl | rfl <;> decide
 generalize v (⟨tn a b / Int.gcd (tn a b) (dn a b k), dn a b k / Int.gcd (tn a b) (dn a b k)⟩ : Rt) = x at *
 unfold dn tn at hv
 push_cast at hv
 unfold v
 grind
theorem of_sm {c M : Int} (h : -M ≤ c ∧ c ≤ M) (hM : M < 2305843009213693952) : Sm 1 M (of c 1).1 ∧ v (of c 1).1 = c := by
 have hok : okB c 1 = true := by
  unfold okB
  have : inB c 1 = true := in_iff.2 (by simp; omega)
  rw [this]; simp
 have e : of c 1 = (⟨c, 1⟩, 0) := by
  unfold of low
  have hg : Int.gcd c 1 = 1 := by simp
  rw [if_neg (by omega), hg]
  simp only [Int.cast_ofNat_Int, Int.ediv_one]
  rw [if_pos hok]
 rw [e]
 refine ⟨⟨hok, by simp, by simp; omega, by simp; omega⟩, ?_⟩
 show (c : Rat) / ((1 : Int) : Rat) = c
 have h1 : ((1 : Int) : Rat) = 1 := rfl
 rw [h1]; grind
theorem shift_sm {a : Rt} {D M c m d : Int} (ha : Sm D M a) (hM : 0 ≤ M) (hc : -m ≤ c ∧ c ≤ m) (hd : D ≤ d) (hd2 : d ≤ 1048576) (hM2 : M + m < 2305843009213693952) (hMd : (M + m) * d ≤ 9223372036854775807) : Sm d (M + m) (shift a c) ∧ v (shift a c) = v a + c := by
 obtain ⟨h1, h2⟩ := of_sm hc (by omega)
 have h := sum_sm (k := 1) (d := d) (M := M + m) ha h1 (.inl rfl) hM (by omega) (by omega) hd2 (by omega) hM2 hMd
 unfold shift add
 rw [if_pos ⟨ha.ok, h1.ok⟩]
 refine ⟨h.2.1, ?_⟩
 have := h.2.2
 rw [h2] at this
 grind
theorem mid_sm {a b : Rt} {D M d : Int} (ha : Sm D M a) (hb : Sm D M b) (hM : 0 ≤ M) (hd : D * D * 2 ≤ d) (hd2 : d ≤ 1048576) (hM2 : M < 2305843009213693952) (hMd : M * d ≤ 9223372036854775807) : Sm d M (mid a b).1 ∧ v (mid a b).1 * 2 = v a + v b := by
 have h := sum_sm (k := 2) (d := d) (M := M) ha hb (.inr rfl) hM hM hd hd2 (by omega) hM2 hMd
 unfold mid
 rw [if_pos ⟨ha.ok, hb.ok⟩]
 exact ⟨h.2.1, by have := h.2.2; exact_mod_cast this⟩
theorem cmp_v {a b : Rt} (ha : a.ok = true) (hb : b.ok = true) : ((cmp a b).1 < 0 ∧ v a < v b) ∨ ((cmp a b).1 = 0 ∧ v a = v b) ∨ (0 < (cmp a b).1 ∧ v b < v a) := by
 unfold cmp
 rw [if_pos ⟨ha, hb⟩]
 simp only
 have hD := den_pos ha hb
 have hs := v_sub ha hb
 have key : ∀ x : Int, (v a - v b) * ((a.den * b.den : Int) : Rat) = ((a.num * b.den - b.num * a.den : Int) : Rat) := fun _ => by
  rw [hs]
  exact Rat.div_mul_cancel (by intro h; rw [h] at hD; exact absurd hD (by decide))
 have k0 := key 0
 unfold cmpR cmpI
 split
 ·rename_i h
  refine .inl ⟨by omega, ?_⟩
  have : ((a.num * b.den - b.num * a.den : Int) : Rat) < 0 := by exact_mod_cast (by omega : a.num * b.den - b.num * a.den < 0)
  rw [← k0] at this
  rcases Classical.em (v a < v b) with hh | hh
  ·exact hh
  ·have h2 : 0 ≤ v a - v b := by grind
   have := Rat.mul_nonneg h2 (Rat.le_of_lt hD)
   grind
 ·split
  ·rename_i h
   refine .inr (.inr ⟨by omega, ?_⟩)
   have : (0 : Rat) < ((a.num * b.den - b.num * a.den : Int) : Rat) := by exact_mod_cast (by omega : 0 < a.num * b.den - b.num * a.den)
   rw [← k0] at this
   rcases Classical.em (v b < v a) with hh | hh
   ·exact hh
   ·have h2 : 0 ≤ v b - v a := by grind
    have := Rat.mul_nonneg h2 (Rat.le_of_lt hD)
    grind
  ·refine .inr (.inl ⟨rfl, ?_⟩)
   have : ((a.num * b.den - b.num * a.den : Int) : Rat) = 0 := by exact_mod_cast (by omega : a.num * b.den - b.num * a.den = 0)
   rw [this] at k0
   rcases Rat.mul_eq_zero.1 k0 with h | h
   ·grind
   ·rw [h] at hD; exact absurd hD (by decide)
end Fr
namespace Incl
open Fr Dbm
def loQ (E : End) (x : Rat) : Prop := E.is = true → (if E.strict = true then v E.at_ < x else v E.at_ ≤ x)
def hiQ (E : End) (x : Rat) : Prop := E.is = true → (if E.strict = true then x < v E.at_ else x ≤ v E.at_)
def Att (P : Rat → Int → Prop) (s : Int) (E : End) : Prop := E.is = true → ∃ r b, P r b ∧ b ≠ NO ∧ v E.at_ = r - (s : Rat) * ((b / 2 : Int) : Rat) ∧ (E.strict = true ↔ Bd.st b = true)
structure EOk (D M : Int) (P : Rat → Int → Prop) (s : Int) (E : End) : Prop where
 sm : E.is = true → Sm D M E.at_
 att : Att P s E
theorem value_no : Bd.value NO = (0, false, 6) := by decide
theorem value_of {b : Int} (h : lim 288230376151711744 b) (hn : b ≠ NO) : Bd.value b = (b / 2, Bd.st b, 0) := by
 have hb := h.resolve_left hn
 have hm : Bd.may b = true := by
  unfold Bd.may Num.okB
  simp; right; omega
 have hn' : ¬ b = 9223372036854775807 := hn
 unfold Bd.value
 rw [if_pos hm, if_neg hn']
theorem near_lo {P : Rat → Int → Prop} {E : End} {D M Dr Mr b : Int} {r : Rt} (hE : EOk D M P 1 E) (hr : Sm Dr Mr r) (hMr : 0 ≤ Mr) (hDr : Dr ≤ D) (hD : D ≤ 1048576) (hMM : Mr + 288230376151711744 ≤ M) (hM2 : M < 2305843009213693952) (hMd : M * D ≤ 9223372036854775807) (hb : lim 288230376151711744 b) (hP : P (v r) b) :
 EOk D M P 1 (nearer E b r 1) ∧ ∀ x, loQ (nearer E b r 1) x ↔ (loQ E x ∧ satO (v r - x) (ob b)) := by
 unfold nearer
 by_cases hn : b = NO
 ·subst hn
  rw [value_no]
  rw [if_pos (by decide)]
  refine ⟨hE, fun x => ⟨fun h => ⟨h, ?_⟩, fun h => h.1⟩⟩
  simp [ob, satO]
 have hbb := hb.resolve_left hn
 rw [value_of hb hn]
 simp only [ne_eq, not_true_eq_false, if_false]
 have hDp : 1 ≤ D := by have := (ok_bd hr.ok).1; have := hr.den; omega
 have hMd2 : (Mr + 288230376151711744) * D ≤ 9223372036854775807 := Int.le_trans (Int.mul_le_mul_of_nonneg_right hMM (by omega)) hMd
 obtain ⟨s1, s2⟩ := shift_sm (c := -1 * (b / 2)) (m := 288230376151711744) (d := D) hr hMr (by omega) hDr hD (by omega) hMd2
 have s1 := s1.mono (Int.le_refl D) hMM
 have s3 : v (shift r (-1 * (b / 2))) = v r - ((b / 2 : Int) : Rat) := by rw [s2]; push_cast; grind
 generalize shift r (-1 * (b / 2)) = at_ at *
 have hob : ob b = some b := by unfold ob; rw [if_neg hn]
 rw [hob]
 have hnew : EOk D M P 1 ⟨true, at_, Bd.st b⟩ := ⟨fun _ => s1, fun _ => ⟨v r, b, hP, hn, by rw [s3]; push_cast; grind, Iff.rfl⟩⟩
 have hsat : ∀ x, satO (v r - x) (some b) ↔ (if Bd.st b = true then v at_ < x else v at_ ≤ x) := fun x => by
  simp only [satO, s3]
  cases Bd.st b <;> simp <;> constructor <;> intro h <;> grind
 by_cases hi : E.is = false
 ·rw [if_pos (.inl hi)]
  refine ⟨hnew, fun x => ?_⟩
  rw [hsat]
  unfold loQ
  rw [hi]; simp
 have hi : E.is = true := by simpa using hi
 have hc := cmp_v s1.ok (hE.sm hi).ok
 rcases hc with ⟨c1, c2⟩ | ⟨c1, c2⟩ | ⟨c1, c2⟩
 ·rw [if_neg (by rw [hi]; simp; omega), if_neg (by omega)]
  refine ⟨hE, fun x => ⟨fun h => ⟨h, ?_⟩, fun h => h.1⟩⟩
  rw [hsat]
  have h' := h hi
  split at h' <;> split <;> grind
 ·rw [if_neg (by rw [hi, c1]; simp), if_pos c1]
  refine ⟨⟨fun _ => hE.sm hi, fun _ => ?_⟩, fun x => ?_⟩
  ·obtain ⟨r', b', p1, p2, p3, p4⟩ := hE.att hi
   cases hs : Bd.st b
   ·exact ⟨r', b', p1, p2, p3, by simp only [Bool.or_false]; exact p4⟩
   ·exact ⟨v r, b, hP, hn, by simp only; rw [← c2, s3]; push_cast; grind, by simp [hs]⟩
  ·rw [hsat]
   unfold loQ
   simp only [hi, true_implies]
   cases hs : E.strict <;> cases hs2 : Bd.st b <;> simp <;> rw [c2] <;> (try constructor) <;> grind
 ·rw [if_pos (.inr (by omega))]
  refine ⟨hnew, fun x => ?_⟩
  rw [hsat]
  unfold loQ
  simp only [hi, true_implies]
  constructor
  ·intro h
   refine ⟨?_, h⟩
   split at h <;> split <;> grind
  ·exact fun h => h.2
theorem near_hi {P : Rat → Int → Prop} {E : End} {D M Dr Mr b : Int} {r : Rt} (hE : EOk D M P (-1) E) (hr : Sm Dr Mr r) (hMr : 0 ≤ Mr) (hDr : Dr ≤ D) (hD : D ≤ 1048576) (hMM : Mr + 288230376151711744 ≤ M) (hM2 : M < 2305843009213693952) (hMd : M * D ≤ 9223372036854775807) (hb : lim 288230376151711744 b) (hP : P (v r) b) :
 EOk D M P (-1) (nearer E b r (-1)) ∧ ∀ x, hiQ (nearer E b r (-1)) x ↔ (hiQ E x ∧ satO (x - v r) (ob b)) := by
 unfold nearer
 by_cases hn : b = NO
 ·subst hn
  rw [value_no]
  rw [if_pos (by decide)]
  refine ⟨hE, fun x => ⟨fun h => ⟨h, ?_⟩, fun h => h.1⟩⟩
  simp [ob, satO]
 have hbb := hb.resolve_left hn
 rw [value_of hb hn]
 simp only [ne_eq, not_true_eq_false, if_false]
 have hDp : 1 ≤ D := by have := (ok_bd hr.ok).1; have := hr.den; omega
 have hMd2 : (Mr + 288230376151711744) * D ≤ 9223372036854775807 := Int.le_trans (Int.mul_le_mul_of_nonneg_right hMM (by omega)) hMd
 obtain ⟨s1, s2⟩ := shift_sm (c := - -1 * (b / 2)) (m := 288230376151711744) (d := D) hr hMr (by omega) hDr hD (by omega) hMd2
 have s1 := s1.mono (Int.le_refl D) hMM
 have s3 : v (shift r (- -1 * (b / 2))) = v r + ((b / 2 : Int) : Rat) := by rw [s2]; push_cast; grind
 generalize shift r (- -1 * (b / 2)) = at_ at *
 have hob : ob b = some b := by unfold ob; rw [if_neg hn]
 rw [hob]
 have hnew : EOk D M P (-1) ⟨true, at_, Bd.st b⟩ := ⟨fun _ => s1, fun _ => ⟨v r, b, hP, hn, by rw [s3]; push_cast; grind, Iff.rfl⟩⟩
 have hsat : ∀ x, satO (x - v r) (some b) ↔ (if Bd.st b = true then x < v at_ else x ≤ v at_) := fun x => by
  simp only [satO, s3]
  cases Bd.st b <;> simp <;> constructor <;> intro h <;> grind
 by_cases hi : E.is = false
 ·rw [if_pos (.inl hi)]
  refine ⟨hnew, fun x => ?_⟩
  rw [hsat]
  unfold hiQ
  rw [hi]; simp
 have hi : E.is = true := by simpa using hi
 have hc := cmp_v s1.ok (hE.sm hi).ok
 rcases hc with ⟨c1, c2⟩ | ⟨c1, c2⟩ | ⟨c1, c2⟩
 ·rw [if_pos (.inr (by omega))]
  refine ⟨hnew, fun x => ?_⟩
  rw [hsat]
  unfold hiQ
  simp only [hi, true_implies]
  constructor
  ·intro h
   refine ⟨?_, h⟩
   split at h <;> split <;> grind
  ·exact fun h => h.2
 ·rw [if_neg (by rw [hi, c1]; simp), if_pos c1]
  refine ⟨⟨fun _ => hE.sm hi, fun _ => ?_⟩, fun x => ?_⟩
  ·obtain ⟨r', b', p1, p2, p3, p4⟩ := hE.att hi
   cases hs : Bd.st b
   ·exact ⟨r', b', p1, p2, p3, by simp only [Bool.or_false]; exact p4⟩
   ·exact ⟨v r, b, hP, hn, by simp only; rw [← c2, s3]; push_cast; grind, by simp [hs]⟩
  ·rw [hsat]
   unfold hiQ
   simp only [hi, true_implies]
   cases hs : E.strict <;> cases hs2 : Bd.st b <;> simp <;> rw [c2] <;> (try constructor) <;> grind
 ·rw [if_neg (by rw [hi]; simp; omega), if_neg (by omega)]
  refine ⟨hE, fun x => ⟨fun h => ⟨h, ?_⟩, fun h => h.1⟩⟩
  rw [hsat]
  have h' := h hi
  split at h' <;> split <;> grind
theorem st_bsum (u v : Int) : Bd.st (bsum u v) = true ↔ (Bd.st u = true ∨ Bd.st v = true) := by
 rw [st_iff, st_iff, st_iff]
 unfold bsum
 rcases parity u with h1 | h1 <;> rcases parity v with h2 | h2 <;> rw [h1, h2] <;> constructor <;> intro h <;> omega
theorem ends_room {P Q : Rat → Int → Prop} {l h : End} {D M : Int} (hl : EOk D M P 1 l) (hh : EOk D M Q (-1) h) (hc : ∀ r b r' b', P r b → Q r' b' → b ≠ NO → b' ≠ NO → satO (r - r') (some (bsum b b'))) (h1 : l.is = true) (h2 : h.is = true) :
 v l.at_ ≤ v h.at_ ∧ ((l.strict = true ∨ h.strict = true) → v l.at_ < v h.at_) := by
 obtain ⟨r, b, p1, p2, p3, p4⟩ := hl.att h1
 obtain ⟨r', b', q1, q2, q3, q4⟩ := hh.att h2
 have hs := hc r b r' b' p1 q1 p2 q2
 have hst := st_bsum b b'
 rw [← p4, ← q4] at hst
 simp only [satO, bsum_half] at hs
 rw [p3, q3]
 push_cast at hs ⊢
 generalize ((b / 2 : Int) : Rat) = x at *
 generalize ((b' / 2 : Int) : Rat) = y at *
 split at hs
 ·rename_i hk
  exact ⟨by grind, fun _ => by grind⟩
 ·rename_i hk
  exact ⟨by grind, fun hh => absurd (hst.2 hh) hk⟩
theorem choose_ok {P Q : Rat → Int → Prop} {l h : End} {D M : Int} (hl : EOk D M P 1 l) (hh : EOk D M Q (-1) h) (hc : ∀ r b r' b', P r b → Q r' b' → b ≠ NO → b' ≠ NO → satO (r - r') (some (bsum b b')))
 (hD : 1 ≤ D) (hD2 : D * D * 2 ≤ 1048576) (hM : 0 ≤ M) (hM2 : M + 1 < 2305843009213693952) (hMd : (M + 1) * (D * D * 2) ≤ 9223372036854775807) :
 Sm (D * D * 2) (M + 1) (choose l h) ∧ loQ l (v (choose l h)) ∧ hiQ h (v (choose l h)) := by
 have hDD : D ≤ D * D * 2 := by
  have := Int.mul_le_mul_of_nonneg_right hD (show 0 ≤ D by omega)
  omega
 have hroom := ends_room hl hh hc
 unfold choose
 split
 ·rename_i h1
  refine ⟨(hl.sm h1.1).mono hDD (by omega), fun _ => by rw [h1.2]; simp, fun h2 => ?_⟩
  obtain ⟨r1, r2⟩ := hroom h1.1 h2
  split
  ·exact r2 (.inr (by assumption))
  ·exact r1
 ·rename_i n1
  split
  ·rename_i h2
   refine ⟨(hh.sm h2.1).mono hDD (by omega), fun h1 => ?_, fun _ => by rw [h2.2]; simp⟩
   obtain ⟨r1, r2⟩ := hroom h1 h2.1
   split
   ·exact r2 (.inl (by assumption))
   ·exact r1
  ·rename_i n2
   split
   ·rename_i h3
    obtain ⟨r1, r2⟩ := hroom h3.1 h3.2
    have s1 : l.strict = true := by
     cases hs : l.strict
     ·exact absurd ⟨h3.1, hs⟩ n1
     ·rfl
    have r3 := r2 (.inl s1)
    obtain ⟨m1, m2⟩ := mid_sm (d := D * D * 2) (hl.sm h3.1) (hh.sm h3.2) hM (Int.le_refl _) hD2 (by omega) (Int.le_trans (Int.mul_le_mul_of_nonneg_right (show M ≤ M + 1 by omega) (by omega)) hMd)
    refine ⟨m1.mono (Int.le_refl _) (by omega), fun _ => ?_, fun _ => ?_⟩
    ·split <;> grind
    ·split <;> grind
   ·rename_i n3
    split
    ·rename_i h1
     have h2 : h.is = false := by
      cases hs : h.is
      ·rfl
      ·exact absurd ⟨h1, hs⟩ n3
     obtain ⟨m1, m2⟩ := shift_sm (c := 1) (m := 1) (d := D * D * 2) (hl.sm h1) hM (by omega) hDD hD2 hM2 hMd
     refine ⟨m1, fun _ => ?_, fun hh2 => by rw [h2] at hh2; cases hh2⟩
     rw [m2]
     split <;> grind
    ·rename_i n4
     have h1 : l.is = false := by simpa using n4
     split
     ·rename_i h2
      obtain ⟨m1, m2⟩ := shift_sm (c := -1) (m := 1) (d := D * D * 2) (hh.sm h2) hM (by omega) hDD hD2 hM2 hMd
      refine ⟨m1, fun hh2 => absurd hh2 (by rw [h1]; decide), fun _ => ?_⟩
      rw [m2]
      split <;> grind
     ·rename_i n5
      have h2 : h.is = false := by simpa using n5
      refine ⟨⟨by decide, by simp only; omega, by simp only; omega, by simp only; omega⟩, fun hh2 => absurd hh2 (by rw [h1]; decide), fun hh2 => absurd hh2 (by rw [h2]; decide)⟩
theorem ends_ok {n : Nat} {C : List Int} {so : List Rt} {D M Dr Mr : Int} (hso : ∀ j, j < so.length → Sm Dr Mr (so[j]?.getD ⟨0, 1⟩)) (hMr : 0 ≤ Mr) (hDr : Dr ≤ D) (hD : D ≤ 1048576) (hMM : Mr + 288230376151711744 ≤ M) (hM2 : M < 2305843009213693952) (hMd : M * D ≤ 9223372036854775807)
 (hb : ∀ j, j < so.length → lim 288230376151711744 (C[j * n + so.length]?.getD 0) ∧ lim 288230376151711744 (C[so.length * n + j]?.getD 0)) : ∀ k, k ≤ so.length →
 (EOk D M (fun r b => ∃ j, j < so.length ∧ r = v (so[j]?.getD ⟨0, 1⟩) ∧ b = C[j * n + so.length]?.getD 0) 1 (ends n C so k).1 ∧ ∀ x, loQ (ends n C so k).1 x ↔ ∀ j, j < k → satO (v (so[j]?.getD ⟨0, 1⟩) - x) (ob (C[j * n + so.length]?.getD 0))) ∧
 (EOk D M (fun r b => ∃ j, j < so.length ∧ r = v (so[j]?.getD ⟨0, 1⟩) ∧ b = C[so.length * n + j]?.getD 0) (-1) (ends n C so k).2 ∧ ∀ x, hiQ (ends n C so k).2 x ↔ ∀ j, j < k → satO (x - v (so[j]?.getD ⟨0, 1⟩)) (ob (C[so.length * n + j]?.getD 0)))
 | 0, _ => by
   exact ⟨⟨⟨fun h => by simp [ends, End.none] at h, fun h => by simp [ends, End.none] at h⟩, fun x => ⟨fun _ j hj => by omega, fun _ h => by simp [ends, End.none] at h⟩⟩, ⟨⟨fun h => by simp [ends, End.none] at h, fun h => by simp [ends, End.none] at h⟩, fun x => ⟨fun _ j hj => by omega, fun _ h => by simp [ends, End.none] at h⟩⟩⟩
 | k + 1, hk => by
   obtain ⟨⟨l1, l2⟩, ⟨h1, h2⟩⟩ := ends_ok hso hMr hDr hD hMM hM2 hMd hb k (by omega)
   obtain ⟨a1, a2⟩ := near_lo l1 (hso k (by omega)) hMr hDr hD hMM hM2 hMd (hb k (by omega)).1 ⟨k, by omega, rfl, rfl⟩
   obtain ⟨b1, b2⟩ := near_hi h1 (hso k (by omega)) hMr hDr hD hMM hM2 hMd (hb k (by omega)).2 ⟨k, by omega, rfl, rfl⟩
   have key : ∀ (p : Nat → Prop), (∀ j, j < k + 1 → p j) ↔ ((∀ j, j < k → p j) ∧ p k) := fun p => by
    constructor
    ·exact fun h => ⟨fun j hj => h j (by omega), h k (by omega)⟩
    ·rintro ⟨h, h'⟩ j hj
     rcases Nat.lt_succ_iff_lt_or_eq.1 hj with hj | rfl
     ·exact h j hj
     ·exact h'
   refine ⟨⟨a1, fun x => ?_⟩, ⟨b1, fun x => ?_⟩⟩
   ·show loQ (nearer _ _ _ 1) x ↔ _
    rw [a2, l2, key (fun j => satO (v (so[j]?.getD ⟨0, 1⟩) - x) (ob (C[j * n + so.length]?.getD 0)))]
   ·show hiQ (nearer _ _ _ (-1)) x ↔ _
    rw [b2, h2, key (fun j => satO (x - v (so[j]?.getD ⟨0, 1⟩)) (ob (C[so.length * n + j]?.getD 0)))]
theorem pick_ok {N : Nat} {C : List Int} {so : List Rt} {D M : Int} (hC : Clo N C) (hlim : ∀ i j, i < N → j < N → lim 288230376151711744 (C[i * N + j]?.getD 0)) (hm : so.length < N) (hso : ∀ j, j < so.length → Sm D M (so[j]?.getD ⟨0, 1⟩))
 (hf : ∀ i j, i < so.length → j < so.length → satO (v (so[i]?.getD ⟨0, 1⟩) - v (so[j]?.getD ⟨0, 1⟩)) (mx N C i j)) (hM : 0 ≤ M) (hD : 1 ≤ D) (hD2 : D * D * 2 ≤ 1048576) (hM2 : M + 288230376151711744 + 1 < 2305843009213693952) (hMd : (M + 288230376151711744 + 1) * (D * D * 2) ≤ 9223372036854775807) :
 Sm (D * D * 2) (M + 288230376151711744 + 1) (pick N C so) ∧ ∀ j, j < so.length → satO (v (so[j]?.getD ⟨0, 1⟩) - v (pick N C so)) (mx N C j so.length) ∧ satO (v (pick N C so) - v (so[j]?.getD ⟨0, 1⟩)) (mx N C so.length j) := by
 have hDD : D ≤ D * D * 2 := by
  have := Int.mul_le_mul_of_nonneg_right hD (show 0 ≤ D by omega)
  omega
 have hq : (M + 288230376151711744) * D ≤ 9223372036854775807 := Int.le_trans (Int.mul_le_mul (show M + 288230376151711744 ≤ M + 288230376151711744 + 1 by omega) hDD (by omega) (by omega)) hMd
 obtain ⟨⟨l1, l2⟩, ⟨h1, h2⟩⟩ := ends_ok (n := N) (C := C) (D := D) (M := M + 288230376151711744) hso hM (Int.le_refl _) (by omega) (Int.le_refl _) (by omega) hq (fun j hj => ⟨hlim j _ (by omega) hm, hlim _ j hm (by omega)⟩) so.length (Nat.le_refl _)
 have hc : ∀ r b r' b', (∃ j, j < so.length ∧ r = v (so[j]?.getD ⟨0, 1⟩) ∧ b = C[j * N + so.length]?.getD 0) → (∃ j, j < so.length ∧ r' = v (so[j]?.getD ⟨0, 1⟩) ∧ b' = C[so.length * N + j]?.getD 0) → b ≠ NO → b' ≠ NO → satO (r - r') (some (bsum b b')) := by
  rintro r b r' b' ⟨j, hj, rfl, rfl⟩ ⟨i, hi, rfl, rfl⟩ n1 n2
  have ht := hC.tri j i so.length (by omega) (by omega) hm
  have := satO_mono ht (hf j i hj hi)
  have e1 : mx N C j so.length = some (C[j * N + so.length]?.getD 0) := by unfold mx ob; rw [if_neg n1]
  have e2 : mx N C so.length i = some (C[so.length * N + i]?.getD 0) := by unfold mx ob; rw [if_neg n2]
  rw [e1, e2] at this
  exact this
 obtain ⟨c1, c2, c3⟩ := choose_ok l1 h1 hc hD hD2 (by omega) hM2 hMd
 exact ⟨c1, fun j hj => ⟨(l2 _).1 c2 j hj, (h2 _).1 c3 j hj⟩⟩
theorem picks_in {C : List Int} (hc : chk 3 C = 0) (hC : Clo 3 C) : ∃ t u : Rt, picks 3 C = ([t, u], 0) ∧ t.ok = true ∧ u.ok = true ∧ Fits 3 (mx 3 C) (tvs [t, u]) := by
 have hlen : C.length = 9 := hC.len
 have hlim : ∀ i j, i < 3 → j < 3 → lim 288230376151711744 (C[i * 3 + j]?.getD 0) := fun i j hi hj => chk_lim hc _ (by omega)
 have s0 : Sm 1 0 ⟨0, 1⟩ := ⟨by decide, by decide, by decide, by decide⟩
 have v0 : v ⟨0, 1⟩ = 0 := by
  show ((0 : Int) : Rat) / ((1 : Int) : Rat) = 0
  have h1 : ((1 : Int) : Rat) = 1 := rfl
  have h2 : ((0 : Int) : Rat) = 0 := rfl
  rw [h1, h2]; grind
 have d1 : ∀ i, i < 3 → satO 0 (mx 3 C i i) := fun i hi => by
  unfold mx ob
  rw [hC.diag i hi]
  exact satO_zero.2 (by omega)
 obtain ⟨a1, a2⟩ := pick_ok (so := [⟨0, 1⟩]) (D := 1) (M := 0) hC hlim (by decide) (fun j hj => by
  have hj : j < 1 := hj
  have e0 : j = 0 := by omega
  rw [e0]; exact s0)
  (fun i j hi hj => by
    have hi : i < 1 := hi
    have hj : j < 1 := hj
    have e0 : i = 0 := by omega
    have e1 : j = 0 := by omega
    rw [e0, e1, Rat.sub_self]; exact d1 0 (by decide)) (by decide) (by decide) (by decide) (by decide) (by decide)
 generalize ht : pick 3 C [⟨0, 1⟩] = t at *
 have b1 := a2 0 (by decide)
 have a1' : Sm 2 288230376151711745 t := a1
 have s0' := s0.mono (show (1 : Int) ≤ 2 by decide) (show (0 : Int) ≤ 288230376151711745 by decide)
 obtain ⟨c1, c2⟩ := pick_ok (so := [⟨0, 1⟩, t]) (D := 2) (M := 288230376151711745) hC hlim (by simp) (fun j hj => by
  have hj : j < 2 := hj
  have : j = 0 ∨ j = 1 := by omega
  rcases this with rfl | rfl
  ·exact s0'
  ·exact a1')
  (fun i j hi hj => by
    have hi : i < 2 := hi
    have hj : j < 2 := hj
    have : i = 0 ∨ i = 1 := by omega
    have : j = 0 ∨ j = 1 := by omega
    rcases ‹i = 0 ∨ _› with rfl | rfl <;> rcases ‹j = 0 ∨ _› with rfl | rfl
    ·rw [Rat.sub_self]; exact d1 0 (by decide)
    ·exact b1.1
    ·exact b1.2
    ·rw [Rat.sub_self]; exact d1 1 (by decide)) (by decide) (by decide) (by decide) (by decide) (by decide)
 generalize hu : pick 3 C [⟨0, 1⟩, t] = u at *
 have b2 := c2 0 (by simp)
 have b3 := c2 1 (by simp)
 have hp : picked 3 C = [t, u] := by
  unfold picked
  show (sofar 3 C 2).drop 1 = _
  simp only [sofar, List.singleton_append, List.cons_append, List.nil_append, ht, hu, List.drop_succ_cons, List.drop_zero]
 refine ⟨t, u, ?_, a1.ok, c1.ok, ?_⟩
 ·unfold picks
  rw [if_pos hc]
  have e3 : Int.toNat 3 = 3 := rfl
  rw [e3, hC.close]
  simp only [hp]
 ·intro i j hi hj
  have : i = 0 ∨ i = 1 ∨ i = 2 := by omega
  have : j = 0 ∨ j = 1 ∨ j = 2 := by omega
  rcases ‹i = 0 ∨ _› with rfl | rfl | rfl <;> rcases ‹j = 0 ∨ _› with rfl | rfl | rfl
  ·rw [Rat.sub_self]; exact d1 0 (by decide)
  ·exact b1.1
  ·exact b2.1
  ·exact b1.2
  ·rw [Rat.sub_self]; exact d1 1 (by decide)
  ·exact b3.1
  ·exact b2.2
  ·exact b3.2
  ·rw [Rat.sub_self]; exact d1 2 (by decide)
end Incl
end Go.Proofs.YtanhnllkccldhaaGreat
namespace Go.Proofs.YtanhnllkccldhaaGreat
set_option linter.unusedVariables false
set_option linter.unusedSimpArgs false
set_option maxRecDepth 100000
open Go.RowKit Go.Proofs.YtanhnllkccldhaaGreat.Eng Enc
namespace Zo
theorem clo {z : Zn} (h : chk z = 0) : Dbm.chk 3 (matL z) = 0 ∧ Dbm.Clo 3 (matL z) := by
 have hk := chk_eq.1 h
 unfold Dbm.close at hk
 split at hk
 ·rename_i h0
  split at hk
  ·rename_i C hC
   have : C = matL z := by simpa using hk
   subst this
   exact ⟨h0, Dbm.close_clo h0 hC⟩
  ·simp at hk
 ·simp at hk
def pick (z : Zn) : Pt × Int := if chk z = 0 then (match (Incl.picks 3 (matL z)).1 with | [t, u] => (⟨t, u⟩, 0) | _ => (⟨⟨0, 0⟩, ⟨0, 0⟩⟩, 0)) else (⟨⟨0, 0⟩, ⟨0, 0⟩⟩, 8)
end Zo
namespace Cv
def witness (z : Zn) (l : List Zn) : Pt × Int :=
 if checked [l, [z]] = 0 then (if (Mi.left z l).2 = 0 then (match (Mi.left z l).1 with | [] => (⟨⟨0, 0⟩, ⟨0, 0⟩⟩, 6) | x :: _ => Zo.pick x) else (⟨⟨0, 0⟩, ⟨0, 0⟩⟩, (Mi.left z l).2)) else (⟨⟨0, 0⟩, ⟨0, 0⟩⟩, checked [l, [z]])
end Cv
end Go.Proofs.YtanhnllkccldhaaGreat
namespace Go.Proofs.YtanhnllkccldhaaGreat
set_option linter.unusedVariables false
namespace Cv
def of (lo hi : Int) : Zn := (Zo.make ⟨lo, false, hi, false, false⟩ ⟨0, false, 4, false, false⟩ ⟨0, true, 0, false, true⟩).1
end Cv
namespace Cv
def among (l : List Zn) (p : Pt) : Bool × Bool := if l.any (fun b => decide ((Zo.has b p).2 ≠ 0)) = true then (false, false) else (l.any (fun b => (Zo.has b p).1), true)
end Cv
end Go.Proofs.YtanhnllkccldhaaGreat
namespace Go.Proofs.YtanhnllkccldhaaGreat
set_option linter.unusedVariables false
set_option linter.unusedSimpArgs false
open Go.RowKit Go.Proofs.YtanhnllkccldhaaGreat.Eng Enc
namespace Mi
open Dbm
def Fz (z : Zn) (t : Nat → Rat) : Prop := Fits 3 (mx 3 (Zo.matL z)) t
def dif (i : Nat) (t : Nat → Rat) : Rat := if i = 0 then t 1 - t 0 else if i = 1 then t 0 - t 1 else if i = 2 then t 2 - t 0 else if i = 3 then t 0 - t 2 else if i = 4 then t 2 - t 1 else t 1 - t 2
theorem six {k : Nat} (h : k < 6) : k = 0 ∨ k = 1 ∨ k = 2 ∨ k = 3 ∨ k = 4 ∨ k = 5 := by omega
theorem fz_iff (z : Zn) (t : Nat → Rat) : Fz z t ↔ ∀ i, i < 6 → satO (dif i t) (ob (Zo.get z i)) := by
 have o1 : ob 1 = some 1 := by decide
 constructor
 ·intro h i hi
  rcases six hi with rfl | rfl | rfl | rfl | rfl | rfl
  ·exact h 1 0 (by decide) (by decide)
  ·exact h 0 1 (by decide) (by decide)
  ·exact h 2 0 (by decide) (by decide)
  ·exact h 0 2 (by decide) (by decide)
  ·exact h 2 1 (by decide) (by decide)
  ·exact h 1 2 (by decide) (by decide)
 ·intro h i j hi hj
  have : i = 0 ∨ i = 1 ∨ i = 2 := by omega
  have : j = 0 ∨ j = 1 ∨ j = 2 := by omega
  rcases ‹i = 0 ∨ _› with rfl | rfl | rfl <;> rcases ‹j = 0 ∨ _› with rfl | rfl | rfl
  ·rw [Rat.sub_self]; show satO 0 (ob 1); rw [o1]; exact satO_zero.2 (by omega)
  ·exact h 1 (by decide)
  ·exact h 3 (by decide)
  ·exact h 0 (by decide)
  ·rw [Rat.sub_self]; show satO 0 (ob 1); rw [o1]; exact satO_zero.2 (by omega)
  ·exact h 5 (by decide)
  ·exact h 2 (by decide)
  ·exact h 4 (by decide)
  ·rw [Rat.sub_self]; show satO 0 (ob 1); rw [o1]; exact satO_zero.2 (by omega)
theorem satO_min (d : Rat) (x b : Int) : (x = NO ∨ x < NO) → (b = NO ∨ b < NO) → (satO d (ob (min x b)) ↔ satO d (ob x) ∧ satO d (ob b)) := by
 intro hx hb
 have mono : ∀ u v : Int, u ≤ v → (v = NO ∨ v < NO) → satO d (ob u) → satO d (ob v) := fun u v huv hv h => by
  refine satO_mono ?_ h
  unfold ob
  split
  ·rename_i hu
   have : v = NO := by omega
   rw [if_pos this]; trivial
  ·split
   ·trivial
   ·exact huv
 rcases Int.le_total x b with h | h
 ·rw [Int.min_eq_left h]
  exact ⟨fun k => ⟨k, mono _ _ h hb k⟩, fun k => k.1⟩
 ·rw [Int.min_eq_right h]
  exact ⟨fun k => ⟨mono _ _ h hx k, k⟩, fun k => k.2⟩
theorem get_set (z : Zn) {i j : Nat} (hi : i < 6) (hj : j < 6) (x : Int) : Zo.get (Zo.set z i x) j = if j = i then x else Zo.get z j := by
 rcases six hi with rfl | rfl | rfl | rfl | rfl | rfl <;> rcases six hj with rfl | rfl | rfl | rfl | rfl | rfl <;> rfl
theorem lim_lt {m b : Int} (h : lim m b) (hm : m ≤ 2305843009213693951) : b = NO ∨ b < NO := by
 rcases h with h | h
 ·exact .inl h
 ·right; unfold NO; omega
theorem get_lim {z : Zn} (h : chk 3 (Zo.matL z) = 0) {i : Nat} (hi : i < 6) : lim 288230376151711744 (Zo.get z i) := by
 have g : ∀ q, q < 9 → lim 288230376151711744 ((Zo.matL z)[q]?.getD 0) := fun q hq => chk_lim h q hq
 rcases six hi with rfl | rfl | rfl | rfl | rfl | rfl
 ·exact g 3 (by decide)
 ·exact g 1 (by decide)
 ·exact g 6 (by decide)
 ·exact g 2 (by decide)
 ·exact g 7 (by decide)
 ·exact g 5 (by decide)
theorem cut_fz {z : Zn} (hz : chk 3 (Zo.matL z) = 0) {i : Nat} (hi : i < 6) {b : Int} (hb : b = NO ∨ b < NO) (t : Nat → Rat) : Fz (cut z i b) t ↔ Fz z t ∧ satO (dif i t) (ob b) := by
 have hm := satO_min (dif i t) (Zo.get z i) b (lim_lt (get_lim hz hi) (by omega)) hb
 rw [fz_iff, fz_iff]
 unfold cut
 constructor
 ·intro h
  have hi' := h i hi
  rw [get_set z hi hi, if_pos rfl] at hi'
  refine ⟨fun j hj => ?_, (hm.1 hi').2⟩
  by_cases e : j = i
  ·subst e; exact (hm.1 hi').1
  ·have := h j hj
   rwa [get_set z hi hj, if_neg e] at this
 ·rintro ⟨h1, h2⟩ j hj
  rw [get_set z hi hj]
  by_cases e : j = i
  ·subst e; rw [if_pos rfl]; exact hm.2 ⟨h1 j hj, h2⟩
  ·rw [if_neg e]; exact h1 j hj
theorem of_ok {L : List Int} (h : (Zo.of 3 L).2 = 0) : Zo.chk (Zo.of 3 L).1 = 0 ∧ ∀ t, Fz (Zo.of 3 L).1 t ↔ Fits 3 (mx 3 L) t := by
 unfold Zo.of at h ⊢
 by_cases h0 : chk 3 L = 0
 case neg => rw [if_neg h0] at h; cases h
 rw [if_pos h0, if_pos rfl] at h ⊢
 have hcl : close 3 L = (match closeL 3 L with | some L' => (3, L', 0) | none => (0, [], 6)) := by unfold close; rw [if_pos h0]; rfl
 cases hC : closeL 3 L with
 | none => rw [hC] at hcl; rw [hcl] at h; rw [if_neg (by decide)] at h; cases h
 | some C =>
   rw [hC] at hcl
   rw [hcl] at h ⊢
   rw [if_pos rfl] at h ⊢
   unfold Zo.told at h ⊢
   by_cases h1 : chk 3 C = 0
   case neg =>
    have : (if chk 3 C = 0 then (Zo.ofL C, (0 : Int)) else (Zo.nought, 8)).2 = 0 := h
    rw [if_neg h1] at this; cases this
   have e1 : (if chk 3 C = 0 then (Zo.ofL C, (0 : Int)) else (Zo.nought, 8)) = (Zo.ofL C, 0) := if_pos h1
   show Zo.chk (if chk 3 C = 0 then (Zo.ofL C, (0 : Int)) else (Zo.nought, 8)).1 = 0 ∧ ∀ t, Fz (if chk 3 C = 0 then (Zo.ofL C, (0 : Int)) else (Zo.nought, 8)).1 t ↔ _
   rw [e1]
   have clo := close_clo h0 hC
   have hm : Zo.matL (Zo.ofL C) = C := by
    have hlen : C.length = 9 := clo.len
    have d0 := clo.diag 0 (by decide)
    have d1 := clo.diag 1 (by decide)
    have d2 := clo.diag 2 (by decide)
    match C, hlen with
    | [c0, c1, c2, c3, c4, c5, c6, c7, c8], _ =>
      simp at d0 d1 d2
      subst d0; subst d1; subst d2
      rfl
   refine ⟨?_, fun t => ?_⟩
   ·unfold Zo.chk
    rw [hm]
    have : close 3 C = (3, C, 0) := by
     unfold close
     rw [if_pos h1]
     show (match closeL 3 C with | some L' => ((3 : Int), L', (0 : Int)) | none => (0, [], 6)) = _
     rw [clo.close]
    rw [if_pos this]
   ·unfold Fz
    rw [hm]
    exact close_fits h0 hC t
theorem wth_ok {z : Zn} (hz : chk 3 (Zo.matL z) = 0) {i : Nat} (hi : i < 6) {b : Int} (hb : b = NO ∨ b < NO) (h : (wth z i b).2 = 0) : Zo.chk (wth z i b).1 = 0 ∧ ∀ t, Fz (wth z i b).1 t ↔ Fz z t ∧ satO (dif i t) (ob b) := by
 unfold wth at h ⊢
 by_cases h0 : chk 3 (Zo.matL (cut z i b)) = 0
 case neg => rw [if_neg h0] at h; cases h
 rw [if_pos h0] at h ⊢
 obtain ⟨h1, h2⟩ := of_ok h
 exact ⟨h1, fun t => (h2 t).trans (cut_fz hz hi hb t)⟩
theorem dif_other {i : Nat} (hi : i < 6) (t : Nat → Rat) : dif (other i) t = - dif i t := by
 rcases six hi with rfl | rfl | rfl | rfl | rfl | rfl <;> simp [dif, other] <;> grind
theorem not_lt {b : Int} (h : (Bd.not b).2 = 0) (hl : lim 288230376151711744 b) : b ≠ NO ∧ (Bd.not b).1 < NO ∧ ∀ d : Rat, satO (-d) (ob (Bd.not b).1) ↔ ¬ satO d (ob b) := by
 unfold Bd.not at h ⊢
 by_cases hn : b = NO
 ·subst hn
  rw [Incl.value_no] at h
  rw [if_neg (by decide)] at h; cases h
 rw [Incl.value_of hl hn] at h ⊢
 simp only [if_true] at h ⊢
 have hb := hl.resolve_left hn
 have hok : Num.okB (-(b / 2)) = true := Num.okB_iff.2 (by omega)
 unfold Bd.made at h ⊢
 rw [if_pos hok] at h ⊢
 simp only
 refine ⟨hn, ?_, fun d => ?_⟩
 ·unfold Bd.mk NO; split <;> omega
 ·have hob : ob b = some b := by unfold ob; rw [if_neg hn]
  rw [hob]
  have hm : Bd.mk (-(b / 2)) (!Bd.st b) < NO ∧ -1000000000000000000 ≤ Bd.mk (-(b / 2)) (!Bd.st b) := by unfold Bd.mk NO; split <;> omega
  have hob2 : ob (Bd.mk (-(b / 2)) (!Bd.st b)) = some (Bd.mk (-(b / 2)) (!Bd.st b)) := by unfold ob; rw [if_neg (by omega)]
  rw [hob2]
  simp only [satO]
  cases hs : Bd.st b
  ·have e1 : Bd.mk (-(b / 2)) (!false) = -(b / 2) * 2 := rfl
   have e2 : Bd.st (-(b / 2) * 2) = true := (st_iff _).2 (by omega)
   have e3 : -(b / 2) * 2 / 2 = -(b / 2) := by omega
   rw [e1, e2, e3, Rat.intCast_neg]
   simp only [Bool.false_eq_true, if_true, if_false]
   constructor <;> intro h <;> grind
  ·have e1 : Bd.mk (-(b / 2)) (!true) = -(b / 2) * 2 + 1 := rfl
   have e2 : Bd.st (-(b / 2) * 2 + 1) = false := by
    cases hh : Bd.st (-(b / 2) * 2 + 1)
    ·rfl
    ·have := (st_iff _).1 hh; omega
   have e3 : (-(b / 2) * 2 + 1) / 2 = -(b / 2) := by omega
   rw [e1, e2, e3, Rat.intCast_neg]
   simp only [Bool.false_eq_true, if_true, if_false]
   constructor <;> intro h <;> grind
theorem go_ok {b : Zn} (hb : chk 3 (Zo.matL b) = 0) : ∀ (l : List Nat) (x : Zn), (∀ i, i ∈ l → i < 6) → chk 3 (Zo.matL x) = 0 → (∀ y, y ∈ go b l x → y.2 = 0) →
 ∀ y, y ∈ go b l x → Zo.chk y.1 = 0 ∧ ∀ t, Fz y.1 t → Fz x t ∧ ∃ i, i < 6 ∧ ¬ satO (dif i t) (ob (Zo.get b i))
 | [], x, _, _, _, y, hy => by simp [go] at hy
 | i :: l, x, hl, hx, h0, y, hy => by
   have hi := hl i (by simp)
   have hll : ∀ j, j ∈ l → j < 6 := fun j hj => hl j (by simp [hj])
   unfold go at h0 hy
   by_cases hn : (Bd.not (Zo.get b i)).2 ≠ 0
   ·rw [if_pos hn] at h0 hy
    exact go_ok hb l x hll hx h0 y hy
   rw [if_neg hn] at h0 hy
   have hn : (Bd.not (Zo.get b i)).2 = 0 := by simpa using hn
   obtain ⟨n1, n2, n3⟩ := not_lt hn (get_lim hb hi)
   have ho : other i < 6 := by unfold other; split <;> omega
   rcases List.mem_append.1 hy with hy' | hy'
   ·by_cases h6 : (wth x (other i) (Bd.not (Zo.get b i)).1).2 = 6
    ·rw [if_pos h6] at hy'; simp at hy'
    ·rw [if_neg h6] at hy'
     have e := List.mem_singleton.1 hy'
     have hz := h0 _ (by rw [if_neg h6]; exact List.mem_append.2 (.inl (List.mem_singleton.2 rfl)))
     obtain ⟨w1, w2⟩ := wth_ok hx ho (.inr n2) hz
     rw [e]
     refine ⟨w1, fun t ht => ?_⟩
     obtain ⟨k1, k2⟩ := (w2 t).1 ht
     rw [dif_other hi] at k2
     exact ⟨k1, i, hi, (n3 _).1 k2⟩
   ·by_cases h6 : (wth x i (Zo.get b i)).2 = 6
    ·rw [if_pos h6] at hy'; simp at hy'
    ·rw [if_neg h6] at hy' h0
     have hz : (wth x i (Zo.get b i)).2 = 0 := by
      by_cases e : (wth x i (Zo.get b i)).2 = 0
      ·exact e
      ·exact h0 _ (List.mem_append.2 (.inr (List.mem_append.2 (.inl (by rw [if_neg e]; exact List.mem_singleton.2 rfl)))))
     rw [if_pos hz, List.nil_append] at hy' h0
     obtain ⟨w1, w2⟩ := wth_ok hx hi (lim_lt (get_lim hb hi) (by omega)) hz
     obtain ⟨g1, g2⟩ := go_ok hb l _ hll (Zo.clo w1).1 (fun y hy => h0 y (List.mem_append.2 (.inr hy))) y hy'
     refine ⟨g1, fun t ht => ?_⟩
     obtain ⟨k1, k2⟩ := g2 t ht
     exact ⟨((w2 t).1 k1).1, k2⟩
def Within (S : (Nat → Rat) → Prop) (l : List Zn) : Prop := ∀ z, z ∈ l → Zo.chk z = 0 ∧ ∀ t, Fz z t → S t
theorem minus_ok {a b : Zn} (ha : Zo.chk a = 0) (hb : Zo.chk b = 0) (h : (minus a b).2 = 0) : Within (fun t => Fz a t ∧ ¬ Fz b t) (minus a b).1 := by
 unfold minus at h ⊢
 rw [if_pos ⟨ha, hb⟩] at h ⊢
 cases hf : (parts a b).find? (fun x => decide (x.2 ≠ 0)) with
 | some x =>
   rw [hf] at h
   have := List.find?_some hf
   simp at this h
   exact absurd h this
 | none =>
   have h0 : ∀ y, y ∈ parts a b → y.2 = 0 := fun y hy => by have := List.find?_eq_none.1 hf y hy; simpa using this
   intro z hz
   simp only [List.mem_map] at hz
   obtain ⟨y, hy, rfl⟩ := hz
   obtain ⟨g1, g2⟩ := go_ok (Zo.clo hb).1 [0, 1, 2, 3, 4, 5] a (by simp) (Zo.clo ha).1 h0 y hy
   refine ⟨g1, fun t ht => ?_⟩
   obtain ⟨k1, i, hi, k2⟩ := g2 t ht
   exact ⟨k1, fun hbt => k2 ((fz_iff b t).1 hbt i hi)⟩
theorem inner_ok {b : Zn} (hb : Zo.chk b = 0) {A : (Nat → Rat) → Prop} : ∀ (out next : List Zn), Within A out → Within (fun t => A t ∧ ¬ Fz b t) next → (inner b out next).2 = 0 → Within (fun t => A t ∧ ¬ Fz b t) (inner b out next).1
 | [], next, _, hn, _ => hn
 | z :: t, next, ho, hn, h => by
   rw [inner_cons] at h ⊢
   by_cases h1 : (minus z b).2 ≠ 0
   ·rw [if_pos h1] at h; exact absurd h h1
   rw [if_neg h1] at h ⊢
   by_cases h2 : 4096 < (next ++ (minus z b).1).length
   ·rw [if_pos h2] at h; cases h
   rw [if_neg h2] at h ⊢
   obtain ⟨z1, z2⟩ := ho z (by simp)
   refine inner_ok hb t _ (fun y hy => ho y (by simp [hy])) (fun y hy => ?_) h
   rcases List.mem_append.1 hy with hy | hy
   ·exact hn y hy
   ·obtain ⟨k1, k2⟩ := minus_ok z1 hb (by simpa using h1) y hy
    exact ⟨k1, fun t ht => ⟨z2 t (k2 t ht).1, (k2 t ht).2⟩⟩
theorem outer_ok : ∀ (l out : List Zn) {A : (Nat → Rat) → Prop}, (∀ b, b ∈ l → Zo.chk b = 0) → Within A out → (outer l out).2 = 0 → Within (fun t => A t ∧ ∀ b, b ∈ l → ¬ Fz b t) (outer l out).1
 | [], out, A, _, ho, _ => fun z hz => ⟨(ho z hz).1, fun t ht => ⟨(ho z hz).2 t ht, by simp⟩⟩
 | b :: l, out, A, hl, ho, h => by
   rw [outer_cons] at h ⊢
   by_cases h1 : (inner b out []).2 ≠ 0
   ·rw [if_pos h1] at h; exact absurd h h1
   rw [if_neg h1] at h ⊢
   have hi := inner_ok (hl b (by simp)) out [] ho (fun z hz => by simp at hz) (by simpa using h1)
   have ho' := outer_ok l _ (fun y hy => hl y (by simp [hy])) hi h
   intro z hz
   obtain ⟨k1, k2⟩ := ho' z hz
   refine ⟨k1, fun t ht => ?_⟩
   obtain ⟨⟨q1, q2⟩, q3⟩ := k2 t ht
   refine ⟨q1, fun y hy => ?_⟩
   rcases List.mem_cons.1 hy with rfl | hy
   ·exact q2
   ·exact q3 y hy
theorem left_ok {a : Zn} {l : List Zn} (h : (left a l).2 = 0) : Zo.chk a = 0 ∧ (∀ b, b ∈ l → Zo.chk b = 0) ∧ left a l = outer l [a] ∧ Within (fun t => Fz a t ∧ ∀ b, b ∈ l → ¬ Fz b t) (left a l).1 := by
 unfold left at h ⊢
 by_cases ha : Zo.chk a ≠ 0
 ·rw [if_pos ha] at h; cases h
 rw [if_neg ha] at h ⊢
 have ha : Zo.chk a = 0 := by simpa using ha
 by_cases hl : l.any (fun b => decide (Zo.chk b ≠ 0)) = true
 ·rw [if_pos hl] at h; cases h
 rw [if_neg hl] at h ⊢
 have hl : ∀ b, b ∈ l → Zo.chk b = 0 := fun b hb => by
  rcases Classical.em (Zo.chk b = 0) with e | e
  ·exact e
  ·exact absurd (List.any_eq_true.2 ⟨b, hb, by simpa using e⟩) hl
 exact ⟨ha, hl, rfl, outer_ok l [a] hl (fun z hz => by rw [List.mem_singleton.1 hz]; exact ⟨ha, fun t ht => ht⟩) h⟩
end Mi
theorem Zo.has_ok {z : Zn} {p : Pt} (hz : Zo.chk z = 0) (ht : p.t.ok = true) (hu : p.u.ok = true) : (Zo.has z p).2 = 0 ∧ ((Zo.has z p).1 = true ↔ Mi.Fz z (Dbm.tvs [p.t, p.u])) := by
 obtain ⟨c1, c2⟩ := Zo.clo hz
 have hT : ([p.t, p.u] : List Rt).all Rt.ok = true := by simp [ht, hu]
 unfold Zo.has
 rw [if_pos ⟨hz, ht, hu⟩]
 unfold Dbm.keeps
 rw [if_pos ⟨c1, hT⟩, if_pos (by simp)]
 exact ⟨rfl, Dbm.kept_fitsK (N := 3) (fun i j hi hj => Dbm.chk_limK c1 i j hi hj) hT⟩
theorem Zo.pick_ok {z : Zn} (hz : Zo.chk z = 0) : (Zo.pick z).2 = 0 ∧ (Zo.pick z).1.t.ok = true ∧ (Zo.pick z).1.u.ok = true ∧ Mi.Fz z (Dbm.tvs [(Zo.pick z).1.t, (Zo.pick z).1.u]) := by
 obtain ⟨c1, c2⟩ := Zo.clo hz
 obtain ⟨t, u, hp, ht, hu, hf⟩ := Incl.picks_in c1 c2
 unfold Zo.pick
 rw [if_pos hz, hp]
 exact ⟨rfl, ht, hu, hf⟩
namespace Cv
structure WitLaw (z : Zn) (l : List Zn) (more : Zn) : Prop where
 err : (in_ z l).2 ≠ 0 → (witness z l).2 = (in_ z l).2 ∧ (in_ z l).1 = false
 yes : (in_ z l).2 = 0 → (in_ z l).1 = true → (witness z l).2 = 6 ∧ ((in_ z (l ++ [more])).2 = 0 → (in_ z (l ++ [more])).1 = true)
 no : (in_ z l).2 = 0 → (in_ z l).1 = false → (witness z l).2 = 0 ∧ Zo.has z (witness z l).1 = (true, 0) ∧ among l (witness z l).1 = (false, true)
 ins : (witness z l).1.ins
theorem in_split (z : Zn) (l : List Zn) : (checked [l, [z]] ≠ 0 ∧ in_ z l = (false, checked [l, [z]])) ∨ (checked [l, [z]] = 0 ∧ in_ z l = (decide ((Mi.left z l).2 = 0) && decide ((Mi.left z l).1.length = 0), (Mi.left z l).2)) := by
 unfold in_
 by_cases h : checked [l, [z]] = 0
 ·right; rw [if_pos h]; exact ⟨h, rfl⟩
 ·left; rw [if_neg h]; exact ⟨h, rfl⟩
end Cv
namespace Mi
open Dbm
theorem of_none {L : List Int} (h : (Zo.of 3 L).2 = 6) (t : Nat → Rat) : ¬ Fits 3 (mx 3 L) t := by
 intro ht
 unfold Zo.of at h
 by_cases h0 : chk 3 L = 0
 case neg => rw [if_neg h0] at h; cases h
 rw [if_pos h0, if_pos rfl] at h
 obtain ⟨C, hC⟩ := close_some h0 ht
 have hcl : close 3 L = (3, C, 0) := by
  unfold close; rw [if_pos h0]
  show (match closeL 3 L with | some L' => ((3 : Int), L', (0 : Int)) | none => (0, [], 6)) = _
  rw [hC]
 rw [hcl] at h
 rw [if_pos rfl] at h
 unfold Zo.told at h
 by_cases h1 : chk 3 C = 0
 ·have : (if chk 3 C = 0 then (Zo.ofL C, (0 : Int)) else (Zo.nought, 8)).2 = 6 := h
  rw [if_pos h1] at this; cases this
 ·have : (if chk 3 C = 0 then (Zo.ofL C, (0 : Int)) else (Zo.nought, 8)).2 = 6 := h
  rw [if_neg h1] at this; cases this
theorem wth_none {z : Zn} (hz : chk 3 (Zo.matL z) = 0) {i : Nat} (hi : i < 6) {b : Int} (hb : b = NO ∨ b < NO) (h : (wth z i b).2 = 6) (t : Nat → Rat) : ¬ (Fz z t ∧ satO (dif i t) (ob b)) := by
 unfold wth at h
 by_cases h0 : chk 3 (Zo.matL (cut z i b)) = 0
 case neg => rw [if_neg h0] at h; cases h
 rw [if_pos h0] at h
 intro ht
 exact of_none h t ((cut_fz hz hi hb t).2 ht)
theorem not_err {b : Int} (h : (Bd.not b).2 ≠ 0) (hl : lim 288230376151711744 b) : b = NO := by
 by_cases hn : b = NO
 ·exact hn
 exfalso
 apply h
 unfold Bd.not
 rw [Incl.value_of hl hn]
 have hb := hl.resolve_left hn
 have hok : Num.okB (-(b / 2)) = true := Num.okB_iff.2 (by omega)
 simp only [if_true]
 unfold Bd.made
 rw [if_pos hok]
theorem go_all {b : Zn} (hb : chk 3 (Zo.matL b) = 0) : ∀ (l : List Nat) (x : Zn), (∀ i, i ∈ l → i < 6) → chk 3 (Zo.matL x) = 0 → (∀ y, y ∈ go b l x → y.2 = 0) →
 ∀ t, Fz x t → (∃ i, i ∈ l ∧ ¬ satO (dif i t) (ob (Zo.get b i))) → ∃ y, y ∈ go b l x ∧ Fz y.1 t
 | [], x, _, _, _, t, _, ⟨i, hi, _⟩ => by simp at hi
 | i :: l, x, hl, hx, h0, t, ht, hi0 => by
   have hi := hl i (by simp)
   have hll : ∀ j, j ∈ l → j < 6 := fun j hj => hl j (by simp [hj])
   unfold go at h0 ⊢
   by_cases hn : (Bd.not (Zo.get b i)).2 ≠ 0
   ·rw [if_pos hn] at h0 ⊢
    have hno := not_err hn (get_lim hb hi)
    obtain ⟨j, hj, hs⟩ := hi0
    rcases List.mem_cons.1 hj with rfl | hj
    ·exfalso; apply hs; rw [hno]; trivial
    ·exact go_all hb l x hll hx h0 t ht ⟨j, hj, hs⟩
   rw [if_neg hn] at h0 ⊢
   have hn : (Bd.not (Zo.get b i)).2 = 0 := by simpa using hn
   obtain ⟨n1, n2, n3⟩ := not_lt hn (get_lim hb hi)
   have ho : other i < 6 := by unfold other; split <;> omega
   by_cases hs : satO (dif i t) (ob (Zo.get b i))
   ·have h6 : (wth x i (Zo.get b i)).2 ≠ 6 := fun e => wth_none hx hi (lim_lt (get_lim hb hi) (by omega)) e t ⟨ht, hs⟩
    rw [if_neg h6] at h0 ⊢
    have hz : (wth x i (Zo.get b i)).2 = 0 := by
     by_cases e : (wth x i (Zo.get b i)).2 = 0
     ·exact e
     ·exact h0 _ (List.mem_append.2 (.inr (List.mem_append.2 (.inl (by rw [if_neg e]; exact List.mem_singleton.2 rfl)))))
    rw [if_pos hz, List.nil_append] at h0 ⊢
    obtain ⟨w1, w2⟩ := wth_ok hx hi (lim_lt (get_lim hb hi) (by omega)) hz
    obtain ⟨j, hj, hsj⟩ := hi0
    rcases List.mem_cons.1 hj with rfl | hj
    ·exact absurd hs hsj
    obtain ⟨y, hy, hyt⟩ := go_all hb l _ hll (Zo.clo w1).1 (fun y hy => h0 y (List.mem_append.2 (.inr hy))) t ((w2 t).2 ⟨ht, hs⟩) ⟨j, hj, hsj⟩
    exact ⟨y, List.mem_append.2 (.inr hy), hyt⟩
   ·have hsn : satO (dif (other i) t) (ob (Bd.not (Zo.get b i)).1) := by rw [dif_other hi]; exact (n3 _).2 hs
    have h6 : (wth x (other i) (Bd.not (Zo.get b i)).1).2 ≠ 6 := fun e => wth_none hx ho (.inr n2) e t ⟨ht, hsn⟩
    rw [if_neg h6] at h0 ⊢
    have hm : wth x (other i) (Bd.not (Zo.get b i)).1 ∈ [wth x (other i) (Bd.not (Zo.get b i)).1] ++ (if (wth x i (Zo.get b i)).2 = 6 then [] else (if (wth x i (Zo.get b i)).2 = 0 then [] else [wth x i (Zo.get b i)]) ++ go b l (wth x i (Zo.get b i)).1) := List.mem_append.2 (.inl (List.mem_singleton.2 rfl))
    obtain ⟨w1, w2⟩ := wth_ok hx ho (.inr n2) (h0 _ hm)
    exact ⟨_, hm, (w2 t).2 ⟨ht, hsn⟩⟩
theorem minus_all {a b : Zn} (ha : Zo.chk a = 0) (hb : Zo.chk b = 0) (h : (minus a b).2 = 0) {t : Nat → Rat} (ht : Fz a t) (hn : ¬ Fz b t) : ∃ y, y ∈ (minus a b).1 ∧ Fz y t := by
 unfold minus at h ⊢
 rw [if_pos ⟨ha, hb⟩] at h ⊢
 cases hf : (parts a b).find? (fun x => decide (x.2 ≠ 0)) with
 | some x =>
   rw [hf] at h
   have := List.find?_some hf
   simp at this h
   exact absurd h this
 | none =>
   have h0 : ∀ y, y ∈ parts a b → y.2 = 0 := fun y hy => by have := List.find?_eq_none.1 hf y hy; simpa using this
   have hex : ∃ i, i < 6 ∧ ¬ satO (dif i t) (ob (Zo.get b i)) := by
    apply Classical.byContradiction
    intro hall
    exact hn ((fz_iff b t).2 fun i hi => Classical.byContradiction fun hs => hall ⟨i, hi, hs⟩)
   obtain ⟨i, hi, hs⟩ := hex
   obtain ⟨y, hy, hyt⟩ := go_all (Zo.clo hb).1 [0, 1, 2, 3, 4, 5] a (by simp) (Zo.clo ha).1 h0 t ht ⟨i, by rcases six hi with rfl | rfl | rfl | rfl | rfl | rfl <;> simp, hs⟩
   exact ⟨y.1, List.mem_map.2 ⟨y, hy, rfl⟩, hyt⟩
theorem inner_all {b : Zn} (hb : Zo.chk b = 0) : ∀ (out next : List Zn), (∀ z, z ∈ out → Zo.chk z = 0) → (inner b out next).2 = 0 → ∀ t, ((∃ y, y ∈ next ∧ Fz y t) ∨ ((∃ y, y ∈ out ∧ Fz y t) ∧ ¬ Fz b t)) → ∃ y, y ∈ (inner b out next).1 ∧ Fz y t
 | [], next, _, _, t, h => by
   rcases h with h | ⟨⟨y, hy, _⟩, _⟩
   ·exact h
   ·simp at hy
 | z :: o, next, ho, h, t, hm => by
   rw [inner_cons] at h ⊢
   by_cases h1 : (minus z b).2 ≠ 0
   ·rw [if_pos h1] at h; exact absurd h h1
   rw [if_neg h1] at h ⊢
   by_cases h2 : 4096 < (next ++ (minus z b).1).length
   ·rw [if_pos h2] at h; cases h
   rw [if_neg h2] at h ⊢
   refine inner_all hb o _ (fun y hy => ho y (by simp [hy])) h t ?_
   rcases hm with ⟨y, hy, hyt⟩ | ⟨⟨y, hy, hyt⟩, hnb⟩
   ·exact .inl ⟨y, List.mem_append.2 (.inl hy), hyt⟩
   ·rcases List.mem_cons.1 hy with rfl | hy
    ·obtain ⟨x, hx, hxt⟩ := minus_all (ho y (by simp)) hb (by simpa using h1) hyt hnb
     exact .inl ⟨x, List.mem_append.2 (.inr hx), hxt⟩
    ·exact .inr ⟨⟨y, hy, hyt⟩, hnb⟩
theorem outer_all : ∀ (l out : List Zn), (∀ b, b ∈ l → Zo.chk b = 0) → (∀ b, b ∈ out → Zo.chk b = 0) → (outer l out).2 = 0 → ∀ t, (∃ y, y ∈ out ∧ Fz y t) → (∀ b, b ∈ l → ¬ Fz b t) → ∃ y, y ∈ (outer l out).1 ∧ Fz y t
 | [], out, _, _, _, t, h, _ => h
 | b :: l, out, hl, ho, h, t, hm, hn => by
   rw [outer_cons] at h ⊢
   by_cases h1 : (inner b out []).2 ≠ 0
   ·rw [if_pos h1] at h; exact absurd h h1
   rw [if_neg h1] at h ⊢
   have hb := hl b (by simp)
   have hi := inner_ok hb (A := fun _ => True) out [] (fun z hz => ⟨ho z hz, fun _ _ => trivial⟩) (fun z hz => by simp at hz) (by simpa using h1)
   exact outer_all l _ (fun y hy => hl y (by simp [hy])) (fun y hy => (hi y hy).1) h t (inner_all hb out [] ho (by simpa using h1) t (.inr ⟨hm, hn b (by simp)⟩)) fun y hy => hn y (by simp [hy])
theorem left_all {a : Zn} {l : List Zn} (h : (left a l).2 = 0) {t : Nat → Rat} (ht : Fz a t) (hn : ∀ b, b ∈ l → ¬ Fz b t) : ∃ y, y ∈ (left a l).1 ∧ Fz y t := by
 obtain ⟨ha, hl, hlo, _⟩ := left_ok h
 rw [hlo] at h ⊢
 exact outer_all l [a] hl (fun b hb => by rw [List.mem_singleton.1 hb]; exact ha) h t ⟨a, by simp, ht⟩ hn
theorem fz_ex {z : Zn} (hz : Zo.chk z = 0) : ∃ t, Fz z t := ⟨_, (Zo.pick_ok hz).2.2.2⟩
end Mi
namespace Cv
open Mi
def Cov (z : Zn) (l : List Zn) : Prop := ∀ t, Fz z t → ∃ b, b ∈ l ∧ Fz b t
theorem Cov.mono {z : Zn} {l m : List Zn} (h : Cov z l) (hs : ∀ x, x ∈ l → x ∈ m) : Cov z m := fun t ht => by
 obtain ⟨b, hb, hbt⟩ := h t ht
 exact ⟨b, hs b hb, hbt⟩
theorem in_ok {z : Zn} {l : List Zn} (h : (in_ z l).2 = 0) : Zo.chk z = 0 ∧ (∀ b, b ∈ l → Zo.chk b = 0) ∧ ((in_ z l).1 = true ↔ Cov z l) := by
 rcases in_split z l with ⟨h0, e⟩ | ⟨h0, e⟩
 ·rw [e] at h; exact absurd h h0
 rw [e] at h ⊢
 simp only at h
 obtain ⟨ha, hl, hlo, hw⟩ := left_ok h
 refine ⟨ha, hl, ?_⟩
 simp only [h, decide_true, Bool.true_and, decide_eq_true_eq]
 constructor
 ·intro hlen t ht
  apply Classical.byContradiction
  intro hno
  obtain ⟨y, hy, _⟩ := left_all h ht fun b hb hbt => hno ⟨b, hb, hbt⟩
  rw [List.eq_nil_of_length_eq_zero hlen] at hy
  simp at hy
 ·intro hc
  cases hx : (left z l).1 with
  | nil => rfl
  | cons x r =>
    exfalso
    obtain ⟨x1, x2⟩ := hw x (by rw [hx]; simp)
    obtain ⟨t, ht⟩ := fz_ex x1
    obtain ⟨q1, q2⟩ := x2 t ht
    obtain ⟨b, hb, hbt⟩ := hc t q1
    exact q2 b hb hbt
end Cv
end Go.Proofs.YtanhnllkccldhaaGreat
namespace Go.Proofs.YtanhnllkccldhaaGreat
set_option linter.unusedVariables false
open Go.RowKit Go.Shelf Go.Proofs.YtanhnllkccldhaaGreat.Eng
attribute [local go_sem] Oper.semAt_some
namespace VZ
def firstN {α : Type} (f : Nat → α) (k : Nat) : List α := (List.range k).map f
theorem firstN_succ {α : Type} (f : Nat → α) (k : Nat) : firstN f (k + 1) = firstN f k ++ [f k] := by simp [firstN, List.range_succ]
theorem firstN_len {α : Type} (f : Nat → α) (k : Nat) : (firstN f k).length = k := by simp [firstN]
def nth (zs : List Zn) (j : Nat) : Zn := zs[j]?.getD ⟨0, 0, 0, 0, 0, 0⟩
theorem firstN_take (zs : List Zn) {k : Nat} (hk : k ≤ zs.length) : firstN (nth zs) k = zs.take k := by
 apply List.ext_getElem
 ·simp [firstN, hk]
 ·intro i h1 h2
  have : i < zs.length := by simp [firstN] at h1; omega
  simp [firstN, nth, this]
end VZ
open VZ
theorem grown_anyV {X Y : World} (h : X.grownBy Y none) (row : Option Nat) : X.grownBy Y row := ⟨h.os, h.tape, h.output, h.size, fun k hk _ => h.block k hk (fun e => nomatch e)⟩
set_option maxRecDepth 100000 in
set_option maxHeartbeats 2000000 in
theorem valuesZ1_in (n : Nat) (hn : 1 ≤ n) (l Bs n₀ b off len cap : Nat) (f : Nat → Zn) (hreach : len * 48 ≤ 140737488351232) (hb : b < n₀) (J Jx : List Zn → World → Prop) (hJg : ∀ pre A B, J pre A → A.grownBy B none → J pre B)
 (hY : ∀ pre x W, J pre W → pre.length < len → YieldAt Fence.wide (n - 1) Tryz.prog l #[.agg #[.int .i64 x.a, .int .i64 x.b, .int .i64 x.c, .int .i64 x.d, .int .i64 x.e, .int .i64 x.f]] W fun e W' =>
   (e = .returned (.bool true) ∧ J (pre ++ [x]) W' ∧ Below n₀ W W') ∨ (e = .returned (.bool false) ∧ Jx (pre ++ [x]) W'))
 (W : World) (hn0 : n₀ ≤ W.heap.size) (hBs : W.cell? ⟨Bs, 0, none⟩ = some (.slice (some ⟨b, off, none⟩) len cap))
 (c0 : ∀ j, j < len → W.cell? ⟨b, off + j * 6, none⟩ = some (.int .i64 (f j).a)) (c1 : ∀ j, j < len → W.cell? ⟨b, off + j * 6 + 1, none⟩ = some (.int .i64 (f j).b))
 (c2 : ∀ j, j < len → W.cell? ⟨b, off + j * 6 + 2, none⟩ = some (.int .i64 (f j).c)) (c3 : ∀ j, j < len → W.cell? ⟨b, off + j * 6 + 3, none⟩ = some (.int .i64 (f j).d))
 (c4 : ∀ j, j < len → W.cell? ⟨b, off + j * 6 + 4, none⟩ = some (.int .i64 (f j).e)) (c5 : ∀ j, j < len → W.cell? ⟨b, off + j * 6 + 5, none⟩ = some (.int .i64 (f j).f)) (h0 : J [] W) :
 CallsIn Fence.wide n Tryz.prog 182 #[.func (.yield l) #[] #[], .pointer (some ⟨Bs, 0, none⟩)] W fun e W' => (∃ v, e = .returned v) ∧
  ((∃ ys, ys = firstN f len ∧ J ys W') ∨ (∃ pre, (∃ k, k ≤ len ∧ pre = firstN f k) ∧ Jx pre W')) := by
 refine callsIn_of_wp Tryz.func182 rfl trivial ?_ rfl
 simp only [Tryz.ntmps182, List.size_toArray, List.length_cons, List.length_nil, Nat.reduceAdd, Nat.reduceSub, Array.replicate_succ, Array.replicate_zero, List.push_toArray, List.append_toArray, List.nil_append, List.cons_append]
 gi_wp2
 gi_loopw [7] (fun i wr => ∃ k : Nat, k ≤ len ∧ i = .int .i64 k ∧ J (firstN f k) wr ∧ Below n₀ W wr)
  (fun i _ => len - (intOf i).toNat)
 case atStart => exact ⟨0, Nat.zero_le _, rfl, h0, Below.refl _ _⟩
 case round =>
  obtain ⟨k, hk, rfl, hJs, hnx⟩ := hrel
  have g0 : k < len → wr.cell? ⟨b, off + k * 6, none⟩ = some (.int .i64 (f k).a) := fun h => (hnx.cell (p := ⟨b, off + k * 6, none⟩) hb).trans (c0 k h)
  have g1 : k < len → wr.cell? ⟨b, off + k * 6 + 1, none⟩ = some (.int .i64 (f k).b) := fun h => (hnx.cell (p := ⟨b, off + k * 6 + 1, none⟩) hb).trans (c1 k h)
  have g2 : k < len → wr.cell? ⟨b, off + k * 6 + 2, none⟩ = some (.int .i64 (f k).c) := fun h => (hnx.cell (p := ⟨b, off + k * 6 + 2, none⟩) hb).trans (c2 k h)
  have g3 : k < len → wr.cell? ⟨b, off + k * 6 + 3, none⟩ = some (.int .i64 (f k).d) := fun h => (hnx.cell (p := ⟨b, off + k * 6 + 3, none⟩) hb).trans (c3 k h)
  have g4 : k < len → wr.cell? ⟨b, off + k * 6 + 4, none⟩ = some (.int .i64 (f k).e) := fun h => (hnx.cell (p := ⟨b, off + k * 6 + 4, none⟩) hb).trans (c4 k h)
  have g5 : k < len → wr.cell? ⟨b, off + k * 6 + 5, none⟩ = some (.int .i64 (f k).f) := fun h => (hnx.cell (p := ⟨b, off + k * 6 + 5, none⟩) hb).trans (c5 k h)
  clear c0 c1 c2 c3 c4 c5
  by_cases hlt : k < len
  ·obtain ⟨fn, tmps, assign, body, hy, hR⟩ := hY _ (f k) (wr.alloc (.cells #[.int .i64 (f k).a, .int .i64 (f k).b, .int .i64 (f k).c, .int .i64 (f k).d, .int .i64 (f k).e, .int .i64 (f k).f] 86)) (hJg _ _ _ hJs (World.grownBy_alloc _ _ none)) (by rw [firstN_len]; exact hlt)
   have g0 := g0 hlt
   have g1 := g1 hlt
   have g2 := g2 hlt
   have g3 := g3 hlt
   have g4 := g4 hlt
   have g5 := g5 hlt
   gi_wp2
   refine hR.mono ?_
   rintro e W3 (⟨rfl, hJ3, hk3⟩ | ⟨rfl, hJx3⟩)
   ·gi_wp2
    go_roundw
    case rel => exact ⟨k + 1, by omega, by simp, by rw [firstN_succ]; exact hJ3, hnx.trans (((Below.refl n₀ wr).alloc (Nat.le_trans hn0 hnx.size) _).trans hk3)⟩
    case measure => simp [intOf]; omega
   ·gi_wp2
    refine bodyPost_ret (results_none rfl _ _ _) rfl ?_
    exact ⟨⟨_, rfl⟩, .inr ⟨_, ⟨k + 1, by omega, (firstN_succ _ _).symm⟩, hJx3⟩⟩
  ·obtain rfl : k = len := by omega
   gi_wp2
   go_end0
   exact ⟨⟨_, rfl⟩, .inl ⟨_, rfl, hJs⟩⟩
set_option maxRecDepth 100000 in
set_option maxHeartbeats 1000000 in
theorem valuesZ1_nil_in (n : Nat) (l Bs : Nat) (a : Option Addr) (cap : Nat) (J : List Zn → World → Prop) (W : World) (hBs : W.cell? ⟨Bs, 0, none⟩ = some (.slice a 0 cap)) (h0 : J [] W) :
 CallsIn Fence.wide n Tryz.prog 182 #[.func (.yield l) #[] #[], .pointer (some ⟨Bs, 0, none⟩)] W fun e W' => (∃ v, e = .returned v) ∧ J [] W' := by
 refine callsIn_of_wp Tryz.func182 rfl trivial ?_ rfl
 simp only [Tryz.ntmps182, List.size_toArray, List.length_cons, List.length_nil, Nat.reduceAdd, Nat.reduceSub, Array.replicate_succ, Array.replicate_zero, List.push_toArray, List.append_toArray, List.nil_append, List.cons_append]
 gi_wp2
 gi_loopw [7] (fun i wr => i = .int .i64 0 ∧ J [] wr) (fun _ _ => 0)
 case atStart => exact ⟨rfl, h0⟩
 case round =>
  obtain ⟨rfl, hJs⟩ := hrel
  gi_wp2
  go_end0
  exact ⟨⟨_, rfl⟩, hJs⟩
set_option maxHeartbeats 1000000 in
theorem valuesZ_in (n : Nat) (a : Option Addr) (len cap : Nat) (w : World) :
 CallsIn Fence.wide n Tryz.prog 139 #[.slice a len cap] w fun e w' => e = .returned (.func (.func 182) #[] #[.pointer (some ⟨w.heap.size, 0, none⟩)]) ∧ w' = w.alloc (.cells #[.slice a len cap] 22) := by
 refine callsIn_of_wp Tryz.func139 rfl trivial ?_ rfl
 simp only [Tryz.ntmps139, List.size_toArray, List.length_cons, List.length_nil, Nat.reduceAdd, Nat.reduceSub, Array.replicate_succ, Array.replicate_zero, List.push_toArray, List.append_toArray, List.nil_append, List.cons_append]
 gi_wp2
 go_ret
 exact ⟨rfl, rfl⟩
theorem valuesZ_stopsB (n : Nat) (hn : 1 ≤ n) (Bs n₀ n1 : Nat) (a : Option Addr) (cap : Nat) (zs : List Zn) (hreach : zs.length * 48 ≤ 140737488351232) (w : World) (hBs : Bs < w.heap.size) (hn₀ : n₀ ≤ w.heap.size)
 (hc : w.cell? ⟨Bs, 0, none⟩ = some (.slice a zs.length cap)) (hI : Sl n₀ w (.slice a zs.length cap) zs) :
 SeqStopsB n Tryz.prog 182 #[.pointer (some ⟨Bs, 0, none⟩)] (fun x : Zn => #[.agg #[.int .i64 x.a, .int .i64 x.b, .int .i64 x.c, .int .i64 x.d, .int .i64 x.e, .int .i64 x.f]]) (Below n₀) (fun ys => ys = zs) (fun pre => pre <+: zs) zs.length Bs n1 w := fun l J Jx W hW hJa _ hY h0 => by
 have hc' := (hW.cell (p := ⟨Bs, 0, none⟩) hBs).trans hc
 have hI' := hI.below (hW.mono hn₀)
 by_cases hz : zs = []
 ·subst hz
  exact (valuesZ1_nil_in n l Bs a cap J W hc' h0).mono fun e W' ⟨he, hj⟩ => ⟨he, .inl ⟨_, rfl, hj⟩⟩
 ·have hp : 0 < zs.length := List.length_pos_iff.2 hz
  obtain ⟨a', cap', e0, _, _, _, h4⟩ := hI'
  injection e0 with e1 e2 e3
  subst e1; subst e3
  obtain ⟨b, off, rfl, hb, _⟩ := h4 0 _ (List.getElem?_eq_getElem hp)
  have hcs : ∀ j, j < zs.length → ∀ i v, (Enc.enc (nth zs j))[i]? = some v → W.cell? ⟨b, off + j * 6 + i, none⟩ = some v := fun j hj i v hv => by
   obtain ⟨b', o', e, _, hcell⟩ := h4 j _ (List.getElem?_eq_getElem hj)
   injection e with e; injection e with e1 e2
   subst e1; subst e2
   have e5 : nth zs j = zs[j] := by unfold nth; rw [List.getElem?_eq_getElem hj]; rfl
   rw [e5] at hv
   have := hcell i v hv
   rwa [← Nat.add_assoc] at this
  refine (valuesZ1_in n hn l Bs n₀ b off zs.length cap (nth zs) hreach hb J Jx (fun pre A B h hg => hJa pre A B h (grown_anyV hg _)) (fun pre x W1 hj hl => (hY pre x W1 hj hl).mono fun e W' h => h.imp id fun h => ⟨h.1, h.2.1⟩) W (Nat.le_trans hn₀ hW.size) hc' (fun j hj => hcs j hj 0 _ rfl) (fun j hj => hcs j hj 1 _ rfl) (fun j hj => hcs j hj 2 _ rfl) (fun j hj => hcs j hj 3 _ rfl) (fun j hj => hcs j hj 4 _ rfl) (fun j hj => hcs j hj 5 _ rfl) h0).mono ?_
  rintro e W' ⟨he, ⟨ys, rfl, hj⟩ | ⟨pre, ⟨k, hk, rfl⟩, hj⟩⟩
  ·exact ⟨he, .inl ⟨_, by rw [firstN_take zs (Nat.le_refl _), List.take_length], hj⟩⟩
  ·exact ⟨he, .inr ⟨_, by rw [firstN_take zs hk]; exact List.take_prefix _ _, hj⟩⟩
end Go.Proofs.YtanhnllkccldhaaGreat
namespace Go.Proofs.YtanhnllkccldhaaGreat
set_option linter.unusedVariables false
set_option linter.unusedSimpArgs false
set_option maxRecDepth 100000
open Go.RowKit Go.Proofs.YtanhnllkccldhaaGreat.Eng Enc
theorem appendSeqZ_any (Bs : Nat) (a : Option Addr) (cap : Nat) (zs : List Zn) (hlen : zs.length ≤ 1000000) (w : World) (hc : w.cell? ⟨Bs, 0, none⟩ = some (.slice a zs.length cap)) (hS : Sl w.heap.size w (.slice a zs.length cap) zs) :
 Calls Tryz.prog 202 #[.slice none 0 0, .func (.func 182) #[] #[.pointer (some ⟨Bs, 0, none⟩)]] w fun e w' => ∃ v, e = .returned v ∧ Below Bs w w' ∧ Own 86 w.heap.size w' v zs := by
 have hBs : Bs < w.heap.size := World.block_lt_of_cell? _ _ hc
 refine fun_at 9 Bs w (Nat.le_of_lt hBs) Tryz.func202 (args := [.val (.slice none 0 0), .val (.func (.func 182) #[] #[.pointer (some ⟨Bs, 0, none⟩)])]) rfl rfl ?_
 refine NewI.mk fun b1 hb1 => ?_
 have hb1' : w.heap.size ≤ b1 := hb1
 refine RawI.mk fun ac w7 hR => ?_
 have h7 := hR.at_
 have hg7 : Below w.heap.size w w7 := at_below h7 (by simp)
 have hl1 := h7.lt b1 (by simp)
 have hc7 : w7.cell? ⟨Bs, 0, none⟩ = some (.slice a zs.length cap) := (hg7.cell (p := ⟨Bs, 0, none⟩) hBs).trans hc
 have hw7 := hg7.size
 refine rangeBu cxOk (by decide) hR rfl Tryz.call182 (valuesZ_stopsB 8 (by omega) Bs w.heap.size Bs a cap zs (by omega) w7 (by omega) hw7 hc7 (hS.below hg7)) (encs := fun x : Zn => [.agg #[.int .i64 x.a, .int .i64 x.b, .int .i64 x.c, .int .i64 x.d, .int .i64 x.e, .int .i64 x.f]]) (by omega) (Nat.le_refl Bs) (fun hm => by simp at hm; omega)
  (fun h k => h.trans k) ?_ (fun x => rfl)
  (γ := Value) (fun c => [⟨[.val c], 22⟩])
  (fun (pre : List Zn) (c : Value) W => Own 86 w7.heap.size W c pre) ?_ (.slice none 0 0) rfl Own.nil
  (fun (c : Code) (pre : List Zn) (q : Value) (W : World) => False)
  (fun _ q => [])
  (fun c q pre A B row h hg hr => h) (fun z => [(5, .loc 1 0)]) (fun z => [⟨[.val (.int .i64 z.a), .val (.int .i64 z.b), .val (.int .i64 z.c), .val (.int .i64 z.d), .val (.int .i64 z.e), .val (.int .i64 z.f)], 86⟩]) (fun c bs => ∀ k, c.ownBlock = some k → k ∉ bs) ?asg ?body ?done (fun _ _ _ _ _ _ _ _ h => h.elim)
 case asg =>
  intro l pre z c W hΦ hBW hsW hN
  refine NewI.mk fun b5 hb5 => ?_
  refine ⟨rfl, [b5], rfl, fun k hk hm => by have := hΦ.lt k hk; have hb5 : W.heap.size ≤ b5 := hb5; simp at hm; omega, Need.mk ⟨rfl, rfl, rfl, rfl⟩ (EndI.mk fun w9 h9 => ?_)⟩
  have hg := at_below h9 (fun b hb => by simp at hb; subst hb; exact hb5)
  exact ⟨below_keepsFrom hg _, hg.mono (by omega), hΦ.below hg⟩
 ·exact fun W l o o' hl ho h1 h2 => ⟨rfl, rfl, rfl, by simp, fun k hk => World.putObj_heap_other (by omega)⟩
 ·rintro c pre A C row hO hg hr
  have hO : Own 86 w7.heap.size A c pre := hO
  refine Own.kept hO hg ?_
  obtain ⟨_, ⟨e, _⟩ | ⟨g, cp, cur, e, hbg, hgb, _⟩⟩ := id hO
  ·rw [e]; exact .inl rfl
  ·rw [e]
   refine .inr (fun e' => ?_)
   rcases hr g e'.symm with h | ⟨_, o, ho, hcl⟩
   ·omega
   ·rw [hgb] at ho; cases ho; cases hcl
 case body =>
  intro l pre x c bs W hbs hψ hO hBW hsW hN
  have hO : Own 86 w7.heap.size W c pre := hO
  obtain ⟨b5, rfl⟩ := List.length_eq_one_iff.1 hbs
  refine NewI.mk fun b6 hb6 => ?_
  have hb6' : W.heap.size ≤ b6 := hb6
  have hr : ∀ k, c.ownBlock = some k → Bs ≤ k ∧ k ∉ [b1, b5, b6] := fun k hk => by
   have hkk := hO.lt k hk
   have h5 := hψ k hk
   simp at h5
   refine ⟨by omega, fun hm => ?_⟩
   simp only [List.mem_cons, List.not_mem_nil, or_false] at hm
   omega
  refine GenN.app (α := Zn) elZ pre [x] w7.heap.size (fun w5 h5 => hO.below h5.go) (fun w5 h5 => src_own h5 2 rfl rfl rfl rfl) (by unfold maxLen; simp; omega) (by simp; omega) (fun w5 h5 => Nat.le_trans hsW h5.size)
   (fun w5 w6 h5 hg => keep_grown h5 hg hr) fun sv' w5 w6 h5 hg hO' => ?_
  obtain ⟨a', c', rfl⟩ := hO'.form
  refine ⟨.slice a' (pre ++ [x]).length c', ?_⟩
  refine Need.mk (CovH.mk rfl rfl rfl) (EndI.mk fun w9 h9 => ?_)
  have hW9 : W.heap.size ≤ w9.heap.size := Nat.le_trans h5.size (Nat.le_trans hg.size h9.size)
  have keep1 : ∀ k, k < W.heap.size → k ≠ b1 → c.ownBlock ≠ some k → w9.heap[k]? = W.heap[k]? := fun k hkW h3 hrow => by
   refine (h9.step k (Nat.lt_of_lt_of_le hkW (Nat.le_trans h5.size hg.size)) (fun hm => ?_)).trans ((hg.block k (Nat.lt_of_lt_of_le hkW h5.size) (fun e => hrow e.symm)).trans (h5.go.block k hkW))
   simp at hm; omega
  have row : ∀ k, k < w7.heap.size → c.ownBlock ≠ some k := fun k hk e => by have := hO.lt k e; omega
  refine ⟨⟨hW9, fun k o hk7 hk hcl => ?_⟩, ?_, ?_⟩
  ·have hkW : k < W.heap.size := (Array.getElem?_eq_some_iff.1 hk).1
   refine (keep1 k hkW (by omega) (fun e => ?_)).trans hk
   obtain ⟨_, ⟨e0, _⟩ | ⟨g, cp, cur, e0, _, hgb, _⟩⟩ := id hO
   ·rw [e0] at e; cases e
   ·rw [e0] at e
    injection e with e
    subst e
    rw [hgb] at hk; cases hk; cases hcl
  ·have hb9 := h9.below
   exact ⟨hb9.os.trans hBW.os.symm, hb9.tape.trans hBW.tape.symm, hb9.output.trans hBW.output.symm, hW9, fun k hk => keep1 k (by omega) (by omega) (row k (by omega))⟩
  ·exact hO'.at h9 (fun b hb => by simp at hb; subst hb; exact hl1)
 case done =>
  rintro D xs c W hD hSx hO hmark
  have hO : Own 86 w7.heap.size W c xs := hO
  subst hSx
  have hDW : D < W.heap.size := (Array.getElem?_eq_some_iff.1 hmark).1
  obtain ⟨a', c', rfl⟩ := hO.form
  refine EndM.mk fun w10 h10 => ⟨⟨show Bs ≤ D by omega, (h10.step D hDW (by simp)).trans hmark⟩, fun w11 hu => ?_⟩
  have hO10 := hO.at h10 (by simp)
  refine (Own.kept (row := some D) hO10 ⟨hu.2.1, hu.2.2.1, hu.2.2.2.1, by rw [hu.1]; exact Nat.le_refl _, fun k _ hk => hu.2.2.2.2 k (fun e => hk (by rw [e]))⟩ ?_).lower hw7
  obtain ⟨_, ⟨e, _⟩ | ⟨g, cp, cur, e, _, hgb, _⟩⟩ := id hO10
  ·rw [e]; exact .inl rfl
  ·rw [e]
   refine .inr (fun e' => ?_)
   injection e' with e'
   subst e'
   have := (h10.step _ hDW (by simp)).trans hmark
   rw [hgb] at this; cases this
theorem collectZ_any (Bs : Nat) (a : Option Addr) (cap : Nat) (zs : List Zn) (hlen : zs.length ≤ 1000000) (w : World) (hc : w.cell? ⟨Bs, 0, none⟩ = some (.slice a zs.length cap)) (hS : Sl w.heap.size w (.slice a zs.length cap) zs) :
 Calls Tryz.prog 180 #[.func (.func 182) #[] #[.pointer (some ⟨Bs, 0, none⟩)]] w fun e w' => ∃ v, e = .returned v ∧ Below Bs w w' ∧ Own 86 w.heap.size w' v zs := by
 have hBs : Bs < w.heap.size := World.block_lt_of_cell? _ _ hc
 refine fun_at 0 Bs w (Nat.le_of_lt hBs) Tryz.func180 (args := [.val (.func (.func 182) #[] #[.pointer (some ⟨Bs, 0, none⟩)])]) rfl rfl ?_
 refine CallI.mk fun w1 h1 => ?_
 have hg1 : Below w.heap.size w w1 := h1.go
 refine (appendSeqZ_any Bs a cap zs hlen w1 ((hg1.cell (p := ⟨Bs, 0, none⟩) hBs).trans hc) (hS.go hg1 hg1.size)).mono ?_
 rintro e w2 ⟨v, rfl, hB2, hO⟩
 refine ⟨⟨hB2, by simp⟩, _, rfl, ?_⟩
 obtain ⟨a', c', rfl⟩ := hO.form
 exact EndI.mk fun w3 h3 => (hO.at h3 (by simp)).lower hg1.size
end Go.Proofs.YtanhnllkccldhaaGreat
namespace Go.Proofs.YtanhnllkccldhaaGreat
set_option linter.unusedVariables false
set_option linter.unusedSimpArgs false
set_option maxRecDepth 100000
open Go.RowKit Go.Shelf
namespace Zo
def cmp (x y : Zn) : Int :=
 if cmpI x.a y.a ≠ 0 then cmpI x.a y.a else if cmpI x.b y.b ≠ 0 then cmpI x.b y.b else if cmpI x.c y.c ≠ 0 then cmpI x.c y.c
 else if cmpI x.d y.d ≠ 0 then cmpI x.d y.d else if cmpI x.e y.e ≠ 0 then cmpI x.e y.e else if cmpI x.f y.f ≠ 0 then cmpI x.f y.f else 0
end Zo
theorem nanB_at (a : Int) (w : World) : Calls Tryz.prog 225 #[.int .i64 a] w fun e w' => e = .returned (.bool false) ∧ w' = w := by
 go_enter Tryz.func225, Tryz.ntmps225
 go_wp2
 go_ret
 exact ⟨by simp, rfl⟩
theorem cmpB_at (x y : Int) (w : World) : Calls Tryz.prog 205 #[.int .i64 x, .int .i64 y] w fun e w' => e = .returned (.int .i64 (cmpI x y)) ∧ w' = w := by
 have key : (x < y ∧ cmpI x y = -1) ∨ (¬ x < y ∧ y < x ∧ cmpI x y = 1) ∨ (¬ x < y ∧ ¬ y < x ∧ cmpI x y = 0) := by unfold cmpI; split <;> (try split) <;> omega
 rcases key with ⟨h1, h⟩ | ⟨h1, h2, h⟩ | ⟨h1, h2, h⟩
 all_goals (rw [h]; clear h)
 all_goals (go_enter Tryz.func205, Tryz.ntmps205)
 all_goals (go_wp2_with (go_at_call 225; refine (nanB_at _ _).mono ?_; rintro e w' ⟨rfl, rfl⟩))
 all_goals (go_ret; exact ⟨rfl, rfl⟩)
set_option maxHeartbeats 2000000 in
theorem compareB_at (bx b_y : Nat) (x y : Zn) (w : World)
 (x0 : w.cell? ⟨bx, 0, none⟩ = some (.int .i64 x.a)) (x1 : w.cell? ⟨bx, 1, none⟩ = some (.int .i64 x.b)) (x2 : w.cell? ⟨bx, 2, none⟩ = some (.int .i64 x.c)) (x3 : w.cell? ⟨bx, 3, none⟩ = some (.int .i64 x.d)) (x4 : w.cell? ⟨bx, 4, none⟩ = some (.int .i64 x.e)) (x5 : w.cell? ⟨bx, 5, none⟩ = some (.int .i64 x.f))
 (y0 : w.cell? ⟨b_y, 0, none⟩ = some (.int .i64 y.a)) (y1 : w.cell? ⟨b_y, 1, none⟩ = some (.int .i64 y.b)) (y2 : w.cell? ⟨b_y, 2, none⟩ = some (.int .i64 y.c)) (y3 : w.cell? ⟨b_y, 3, none⟩ = some (.int .i64 y.d)) (y4 : w.cell? ⟨b_y, 4, none⟩ = some (.int .i64 y.e)) (y5 : w.cell? ⟨b_y, 5, none⟩ = some (.int .i64 y.f)) :
 Calls Tryz.prog 183 #[.slice (some ⟨bx, 0, none⟩) 6 6, .slice (some ⟨b_y, 0, none⟩) 6 6] w fun e w' => e = .returned (.int .i64 (Zo.cmp x y)) ∧ w' = w := by
 unfold Zo.cmp
 by_cases h0 : cmpI x.a y.a = 0
 case neg =>
  rw [if_pos h0]
  have q0 := fun W => cmpB_at x.a y.a W
  generalize cmpI x.a y.a = c at *
  go_enter Tryz.func183, Tryz.ntmps183
  go_wp2
  refine wp_loop_rounds 1 ?_
  rw [rounds_succ]
  go_wp2_with (go_at_call 205; refine (q0 _).mono ?_; rintro e w' ⟨rfl, rfl⟩)
  go_ret
  exact ⟨rfl, rfl⟩
 rw [if_neg (by simp [h0])]
 by_cases h1 : cmpI x.b y.b = 0
 case neg =>
  rw [if_pos h1]
  have q0 := fun W => cmpB_at x.a y.a W
  rw [h0] at q0
  have q1 := fun W => cmpB_at x.b y.b W
  generalize cmpI x.b y.b = c at *
  go_enter Tryz.func183, Tryz.ntmps183
  go_wp2
  refine wp_loop_rounds 2 ?_
  rw [rounds_succ]
  go_wp2_with (go_at_call 205; refine (q0 _).mono ?_; rintro e w' ⟨rfl, rfl⟩)
  rw [rounds_succ]
  go_wp2_with (go_at_call 205; refine (q1 _).mono ?_; rintro e w' ⟨rfl, rfl⟩)
  go_ret
  exact ⟨rfl, rfl⟩
 rw [if_neg (by simp [h1])]
 by_cases h2 : cmpI x.c y.c = 0
 case neg =>
  rw [if_pos h2]
  have q0 := fun W => cmpB_at x.a y.a W
  rw [h0] at q0
  have q1 := fun W => cmpB_at x.b y.b W
  rw [h1] at q1
  have q2 := fun W => cmpB_at x.c y.c W
  generalize cmpI x.c y.c = c at *
  go_enter Tryz.func183, Tryz.ntmps183
  go_wp2
  refine wp_loop_rounds 3 ?_
  rw [rounds_succ]
  go_wp2_with (go_at_call 205; refine (q0 _).mono ?_; rintro e w' ⟨rfl, rfl⟩)
  rw [rounds_succ]
  go_wp2_with (go_at_call 205; refine (q1 _).mono ?_; rintro e w' ⟨rfl, rfl⟩)
  rw [rounds_succ]
  go_wp2_with (go_at_call 205; refine (q2 _).mono ?_; rintro e w' ⟨rfl, rfl⟩)
  go_ret
  exact ⟨rfl, rfl⟩
 rw [if_neg (by simp [h2])]
 by_cases h3 : cmpI x.d y.d = 0
 case neg =>
  rw [if_pos h3]
  have q0 := fun W => cmpB_at x.a y.a W
  rw [h0] at q0
  have q1 := fun W => cmpB_at x.b y.b W
  rw [h1] at q1
  have q2 := fun W => cmpB_at x.c y.c W
  rw [h2] at q2
  have q3 := fun W => cmpB_at x.d y.d W
  generalize cmpI x.d y.d = c at *
  go_enter Tryz.func183, Tryz.ntmps183
  go_wp2
  refine wp_loop_rounds 4 ?_
  rw [rounds_succ]
  go_wp2_with (go_at_call 205; refine (q0 _).mono ?_; rintro e w' ⟨rfl, rfl⟩)
  rw [rounds_succ]
  go_wp2_with (go_at_call 205; refine (q1 _).mono ?_; rintro e w' ⟨rfl, rfl⟩)
  rw [rounds_succ]
  go_wp2_with (go_at_call 205; refine (q2 _).mono ?_; rintro e w' ⟨rfl, rfl⟩)
  rw [rounds_succ]
  go_wp2_with (go_at_call 205; refine (q3 _).mono ?_; rintro e w' ⟨rfl, rfl⟩)
  go_ret
  exact ⟨rfl, rfl⟩
 rw [if_neg (by simp [h3])]
 by_cases h4 : cmpI x.e y.e = 0
 case neg =>
  rw [if_pos h4]
  have q0 := fun W => cmpB_at x.a y.a W
  rw [h0] at q0
  have q1 := fun W => cmpB_at x.b y.b W
  rw [h1] at q1
  have q2 := fun W => cmpB_at x.c y.c W
  rw [h2] at q2
  have q3 := fun W => cmpB_at x.d y.d W
  rw [h3] at q3
  have q4 := fun W => cmpB_at x.e y.e W
  generalize cmpI x.e y.e = c at *
  go_enter Tryz.func183, Tryz.ntmps183
  go_wp2
  refine wp_loop_rounds 5 ?_
  rw [rounds_succ]
  go_wp2_with (go_at_call 205; refine (q0 _).mono ?_; rintro e w' ⟨rfl, rfl⟩)
  rw [rounds_succ]
  go_wp2_with (go_at_call 205; refine (q1 _).mono ?_; rintro e w' ⟨rfl, rfl⟩)
  rw [rounds_succ]
  go_wp2_with (go_at_call 205; refine (q2 _).mono ?_; rintro e w' ⟨rfl, rfl⟩)
  rw [rounds_succ]
  go_wp2_with (go_at_call 205; refine (q3 _).mono ?_; rintro e w' ⟨rfl, rfl⟩)
  rw [rounds_succ]
  go_wp2_with (go_at_call 205; refine (q4 _).mono ?_; rintro e w' ⟨rfl, rfl⟩)
  go_ret
  exact ⟨rfl, rfl⟩
 rw [if_neg (by simp [h4])]
 by_cases h5 : cmpI x.f y.f = 0
 case neg =>
  rw [if_pos h5]
  have q0 := fun W => cmpB_at x.a y.a W
  rw [h0] at q0
  have q1 := fun W => cmpB_at x.b y.b W
  rw [h1] at q1
  have q2 := fun W => cmpB_at x.c y.c W
  rw [h2] at q2
  have q3 := fun W => cmpB_at x.d y.d W
  rw [h3] at q3
  have q4 := fun W => cmpB_at x.e y.e W
  rw [h4] at q4
  have q5 := fun W => cmpB_at x.f y.f W
  generalize cmpI x.f y.f = c at *
  go_enter Tryz.func183, Tryz.ntmps183
  go_wp2
  refine wp_loop_rounds 6 ?_
  rw [rounds_succ]
  go_wp2_with (go_at_call 205; refine (q0 _).mono ?_; rintro e w' ⟨rfl, rfl⟩)
  rw [rounds_succ]
  go_wp2_with (go_at_call 205; refine (q1 _).mono ?_; rintro e w' ⟨rfl, rfl⟩)
  rw [rounds_succ]
  go_wp2_with (go_at_call 205; refine (q2 _).mono ?_; rintro e w' ⟨rfl, rfl⟩)
  rw [rounds_succ]
  go_wp2_with (go_at_call 205; refine (q3 _).mono ?_; rintro e w' ⟨rfl, rfl⟩)
  rw [rounds_succ]
  go_wp2_with (go_at_call 205; refine (q4 _).mono ?_; rintro e w' ⟨rfl, rfl⟩)
  rw [rounds_succ]
  go_wp2_with (go_at_call 205; refine (q5 _).mono ?_; rintro e w' ⟨rfl, rfl⟩)
  go_ret
  exact ⟨rfl, rfl⟩
 rw [if_neg (by simp [h5])]
 have q0 := fun W => cmpB_at x.a y.a W
 rw [h0] at q0
 have q1 := fun W => cmpB_at x.b y.b W
 rw [h1] at q1
 have q2 := fun W => cmpB_at x.c y.c W
 rw [h2] at q2
 have q3 := fun W => cmpB_at x.d y.d W
 rw [h3] at q3
 have q4 := fun W => cmpB_at x.e y.e W
 rw [h4] at q4
 have q5 := fun W => cmpB_at x.f y.f W
 rw [h5] at q5
 go_enter Tryz.func183, Tryz.ntmps183
 go_wp2
 refine wp_loop_rounds 7 ?_
 rw [rounds_succ]
 go_wp2_with (go_at_call 205; refine (q0 _).mono ?_; rintro e w' ⟨rfl, rfl⟩)
 rw [rounds_succ]
 go_wp2_with (go_at_call 205; refine (q1 _).mono ?_; rintro e w' ⟨rfl, rfl⟩)
 rw [rounds_succ]
 go_wp2_with (go_at_call 205; refine (q2 _).mono ?_; rintro e w' ⟨rfl, rfl⟩)
 rw [rounds_succ]
 go_wp2_with (go_at_call 205; refine (q3 _).mono ?_; rintro e w' ⟨rfl, rfl⟩)
 rw [rounds_succ]
 go_wp2_with (go_at_call 205; refine (q4 _).mono ?_; rintro e w' ⟨rfl, rfl⟩)
 rw [rounds_succ]
 go_wp2_with (go_at_call 205; refine (q5 _).mono ?_; rintro e w' ⟨rfl, rfl⟩)
 rw [rounds_succ]
 go_wp2
 go_ret
 exact ⟨rfl, rfl⟩
theorem zcmp_at (x y : Zn) (w : World) : Calls Tryz.prog 140 #[.agg #[.int .i64 x.a, .int .i64 x.b, .int .i64 x.c, .int .i64 x.d, .int .i64 x.e, .int .i64 x.f], .agg #[.int .i64 y.a, .int .i64 y.b, .int .i64 y.c, .int .i64 y.d, .int .i64 y.e, .int .i64 y.f]] w fun e w' => e = .returned (.int .i64 (Zo.cmp x y)) ∧ ∃ q os', w' = Go.Sort.grow (w.drewN q) os' := by
 have hcon := fun W x0 x1 x2 x3 x4 x5 y0 y1 y2 y3 y4 y5 => compareB_at w.heap.size (w.heap.size + 1) x y W x0 x1 x2 x3 x4 x5 y0 y1 y2 y3 y4 y5
 generalize Zo.cmp x y = c at *
 go_enter Tryz.func140, Tryz.ntmps140
 go_wp2
 go_quiet ((go_at_call 183; exact Calls.quiet_of_same (hcon _ (by simp) (by simp) (by simp) (by simp) (by simp) (by simp) (by simp) (by simp) (by simp) (by simp) (by simp) (by simp))))
 go_wp2
 go_ret
 exact ⟨rfl, _, _, by rw [Go.Sort.alloc_eq_grow, Go.Sort.alloc_eq_grow, Go.Sort.grow_grow]; rfl⟩
end Go.Proofs.YtanhnllkccldhaaGreat
namespace Go.Proofs
open Go.Shelf
def Tryz.sortZ_ren : Go.Shelf.Ren := ⟨fun | 6 => 181 | 15 => 204 | 14 => 203 | 28 => 223 | 29 => 224 | 20 => 215 | 21 => 216 | 22 => 217 | 23 => 218 | 24 => 219 | 25 => 220 | 26 => 221 | 27 => 222 | 46 => 229 | 47 => 230 | 48 => 231 | 49 => 232 | 50 => 233 | 57 => 242 | n => n, fun | 22 => 22 | 24 => 86 | 25 => 182 | 3 => 3 | 39 => 244 | 0 => 0 | 53 => 262 | 55 => 169 | 4 => 4 | 46 => 255 | 45 => 254 | 50 => 259 | 5 => 5 | 9 => 9 | 66 => 269 | 70 => 273 | 76 => 283 | 77 => 214 | n => n, fun | n => n⟩
theorem Tryz.sortZ : Go.Proofs.SlLaysF0.n6 Tryz.prog Tryz.sortZ_ren := {
 mixed := by kernel_rfl
 f6 := ⟨Tryz.f181.name, by decide, Tryz.func181.trans (congrArg some (by kernel_rfl))⟩
 f14 := ⟨Tryz.f203.name, by decide, Tryz.func203.trans (congrArg some (by kernel_rfl))⟩
 f15 := Tryz.func204.trans (congrArg some (by kernel_rfl))
 f20 := ⟨Tryz.f215.name, by decide, Tryz.func215.trans (congrArg some (by kernel_rfl))⟩
 f21 := ⟨Tryz.f216.name, by decide, Tryz.func216.trans (congrArg some (by kernel_rfl))⟩
 f22 := ⟨Tryz.f217.name, by decide, Tryz.func217.trans (congrArg some (by kernel_rfl))⟩
 f23 := ⟨Tryz.f218.name, by decide, Tryz.func218.trans (congrArg some (by kernel_rfl))⟩
 f24 := ⟨Tryz.f219.name, by decide, Tryz.func219.trans (congrArg some (by kernel_rfl))⟩
 f25 := ⟨Tryz.f220.name, by decide, Tryz.func220.trans (congrArg some (by kernel_rfl))⟩
 f26 := ⟨Tryz.f221.name, by decide, Tryz.func221.trans (congrArg some (by kernel_rfl))⟩
 f27 := ⟨Tryz.f222.name, by decide, Tryz.func222.trans (congrArg some (by kernel_rfl))⟩
 f28 := Tryz.func223.trans (congrArg some (by kernel_rfl))
 f29 := Tryz.func224.trans (congrArg some (by kernel_rfl))
 f46 := ⟨Tryz.f229.name, by decide, Tryz.func229.trans (congrArg some (by kernel_rfl))⟩
 f47 := Tryz.func230.trans (congrArg some (by kernel_rfl))
 f48 := Tryz.func231.trans (congrArg some (by kernel_rfl))
 f49 := ⟨Tryz.f232.name, by decide, Tryz.func232.trans (congrArg some (by kernel_rfl))⟩
 f50 := ⟨Tryz.f233.name, by decide, Tryz.func233.trans (congrArg some (by kernel_rfl))⟩
 f57 := ⟨Tryz.f242.name, by decide, Tryz.func242.trans (congrArg some (by kernel_rfl))⟩
 t0 := Tryz.underlying0
 a0 := Tryz.isAgg0
 z0 := Tryz.sizeOf0
 v0 := Tryz.zeroValue0
 t3 := Tryz.underlying3
 a3 := Tryz.isAgg3
 z3 := Tryz.sizeOf3
 v3 := Tryz.zeroValue3
 t4 := Tryz.underlying4
 a4 := Tryz.isAgg4
 z4 := Tryz.sizeOf4
 v4 := Tryz.zeroValue4
 t5 := Tryz.underlying5
 a5 := Tryz.isAgg5
 z5 := Tryz.sizeOf5
 v5 := Tryz.zeroValue5
 t9 := Tryz.underlying9
 a9 := Tryz.isAgg9
 z9 := Tryz.sizeOf9
 v9 := Tryz.zeroValue9
 t22 := Tryz.underlying22
 a22 := Tryz.isAgg22
 z22 := Tryz.sizeOf22
 v22 := Tryz.zeroValue22
 t25 := Tryz.underlying182
 a25 := Tryz.isAgg182
 z25 := Tryz.sizeOf182
 v25 := Tryz.zeroValue182
 t39 := Tryz.underlying244
 a39 := Tryz.isAgg244
 z39 := Tryz.sizeOf244
 v39 := Tryz.zeroValue244
 t45 := Tryz.underlying254
 a45 := Tryz.isAgg254
 z45 := Tryz.sizeOf254
 v45 := Tryz.zeroValue254
 t46 := Tryz.underlying255
 a46 := Tryz.isAgg255
 z46 := Tryz.sizeOf255
 v46 := Tryz.zeroValue255
 t50 := Tryz.underlying259
 a50 := Tryz.isAgg259
 z50 := Tryz.sizeOf259
 v50 := Tryz.zeroValue259
 t53 := Tryz.underlying262
 a53 := Tryz.isAgg262
 z53 := Tryz.sizeOf262
 v53 := Tryz.zeroValue262
 t55 := Tryz.underlying169
 a55 := Tryz.isAgg169
 z55 := Tryz.sizeOf169
 v55 := Tryz.zeroValue169
 t66 := Tryz.underlying269
 a66 := Tryz.isAgg269
 z66 := Tryz.sizeOf269
 v66 := Tryz.zeroValue269
 t70 := Tryz.underlying273
 a70 := Tryz.isAgg273
 z70 := Tryz.sizeOf273
 v70 := Tryz.zeroValue273
 t76 := Tryz.underlying283
 a76 := Tryz.isAgg283
 z76 := Tryz.sizeOf283
 v76 := Tryz.zeroValue283
 t77 := Tryz.underlying214
 a77 := Tryz.isAgg214
 z77 := Tryz.sizeOf214
 v77 := Tryz.zeroValue214 }
end Go.Proofs
namespace Go.Proofs.YtanhnllkccldhaaGreat
set_option linter.unusedVariables false
set_option linter.unusedSimpArgs false
set_option maxRecDepth 100000
open Go.RowKit Go.Proofs.YtanhnllkccldhaaGreat.Eng Enc Go.Shelf Go.Sort
namespace Zo
instance inhZn : Inhabited Zn := ⟨⟨0, 0, 0, 0, 0, 0⟩⟩
def Lt (x y : Zn) : Prop := x.a < y.a ∨ x.a = y.a ∧ (x.b < y.b ∨ x.b = y.b ∧ (x.c < y.c ∨ x.c = y.c ∧ (x.d < y.d ∨ x.d = y.d ∧ (x.e < y.e ∨ x.e = y.e ∧ (x.f < y.f ∨ x.f = y.f ∧ False)))))
theorem cmpI_lt (x y : Int) : cmpI x y < 0 ↔ x < y := by unfold cmpI; split <;> (try split) <;> omega
theorem cmpI_eq (x y : Int) : cmpI x y = 0 ↔ x = y := by unfold cmpI; split <;> (try split) <;> omega
theorem step_lt {x y c : Int} {P : Prop} (h : c < 0 ↔ P) : (if cmpI x y ≠ 0 then cmpI x y else c) < 0 ↔ (x < y ∨ x = y ∧ P) := by
 have h1 := cmpI_lt x y
 have h2 := cmpI_eq x y
 by_cases hc : cmpI x y = 0
 ·rw [if_neg (by simp [hc]), h]
  have := h2.1 hc
  constructor
  ·intro hp; exact .inr ⟨this, hp⟩
  ·rintro (hl | ⟨_, hp⟩)
   ·omega
   ·exact hp
 ·rw [if_pos hc, h1]
  constructor
  ·exact .inl
  ·rintro (hl | ⟨he, _⟩)
   ·exact hl
   ·exact absurd (h2.2 he) hc
theorem cmp_lt (x y : Zn) : cmp x y < 0 ↔ Lt x y := by
 unfold cmp Lt
 exact step_lt (step_lt (step_lt (step_lt (step_lt (step_lt (by simp))))))
theorem lex_trans {x y z : Int} {P Q R : Prop} (h : P → Q → R) : (x < y ∨ x = y ∧ P) → (y < z ∨ y = z ∧ Q) → (x < z ∨ x = z ∧ R) := by
 rintro (h1 | ⟨h1, hp⟩) (h2 | ⟨h2, hq⟩)
 ·left; omega
 ·left; omega
 ·left; omega
 ·right; exact ⟨by omega, h hp hq⟩
theorem lex_ntrans {x y z : Int} {P Q R : Prop} (h : ¬ P → ¬ Q → ¬ R) : ¬ (x < y ∨ x = y ∧ P) → ¬ (y < z ∨ y = z ∧ Q) → ¬ (x < z ∨ x = z ∧ R) := by
 intro h1 h2
 have a1 : ¬ x < y := fun h => h1 (.inl h)
 have a2 : ¬ y < z := fun h => h2 (.inl h)
 rintro (h3 | ⟨h3, hr⟩)
 ·omega
 ·have e1 : x = y := by omega
  have e2 : y = z := by omega
  exact h (fun hp => h1 (.inr ⟨e1, hp⟩)) (fun hq => h2 (.inr ⟨e2, hq⟩)) hr
theorem lex_tot {x y : Int} {P Q E : Prop} (h : ¬ P → ¬ Q → E) : ¬ (x < y ∨ x = y ∧ P) → ¬ (y < x ∨ y = x ∧ Q) → x = y ∧ E := by
 intro h1 h2
 have a1 : ¬ x < y := fun h => h1 (.inl h)
 have a2 : ¬ y < x := fun h => h2 (.inl h)
 have e1 : x = y := by omega
 exact ⟨e1, h (fun hp => h1 (.inr ⟨e1, hp⟩)) (fun hq => h2 (.inr ⟨e1.symm, hq⟩))⟩
theorem Lt.irrefl (x : Zn) : ¬ Lt x x := by unfold Lt; simp
theorem Lt.trans {x y z : Zn} : Lt x y → Lt y z → Lt x z := by
 unfold Lt
 exact lex_trans (lex_trans (lex_trans (lex_trans (lex_trans (lex_trans fun h _ => h)))))
theorem Lt.ntrans {x y z : Zn} : ¬ Lt x y → ¬ Lt y z → ¬ Lt x z := by
 unfold Lt
 exact lex_ntrans (lex_ntrans (lex_ntrans (lex_ntrans (lex_ntrans (lex_ntrans fun h _ => h)))))
theorem Lt.tot {x y : Zn} (h1 : ¬ Lt x y) (h2 : ¬ Lt y x) : x = y := by
 unfold Lt at h1 h2
 obtain ⟨e1, e2, e3, e4, e5, e6, _⟩ := lex_tot (lex_tot (lex_tot (lex_tot (lex_tot (lex_tot (E := True) fun _ _ => trivial))))) h1 h2
 cases x; cases y; simp_all
theorem lt_iff (x y : Zn) : ltOf cmp x y = true ↔ Lt x y := by unfold ltOf; simp [cmp_lt]
theorem lt_niff (x y : Zn) : ltOf cmp x y = false ↔ ¬ Lt x y := by unfold ltOf; simp [← cmp_lt]
theorem swo : SWO (ltOf cmp) where
 irrefl x := (lt_niff x x).2 (Lt.irrefl x)
 trans x y z h1 h2 := (lt_iff x z).2 (((lt_iff x y).1 h1).trans ((lt_iff y z).1 h2))
 ntrans x y z h1 h2 := (lt_niff x z).2 (Lt.ntrans ((lt_niff x y).1 h1) ((lt_niff y z).1 h2))
theorem tot (x y : Zn) (h1 : ltOf cmp x y = false) (h2 : ltOf cmp y x = false) : x = y := Lt.tot ((lt_niff x y).1 h1) ((lt_niff y x).1 h2)
def sort (l : List Zn) : List Zn := l.mergeSort fun x y => !(ltOf cmp) y x
theorem sort_len (l : List Zn) : (sort l).length = l.length := List.length_mergeSort _
theorem sort_perm (l : List Zn) : (sort l).Perm l := List.mergeSort_perm l _
theorem sort_sorted (l : List Zn) : (sort l).Pairwise fun x y => ¬ Lt y x := by
 have h := List.pairwise_mergeSort (le := fun x y => !(ltOf cmp) y x) (fun x y z h1 h2 => by
  simp only [Bool.not_eq_eq_eq_not, Bool.not_true] at *
  exact (lt_niff z x).2 (Lt.ntrans ((lt_niff z y).1 h2) ((lt_niff y x).1 h1))) (fun x y => by
  simp only [Bool.or_eq_true, Bool.not_eq_eq_eq_not, Bool.not_true]
  by_cases h : Lt y x
  ·exact .inr ((lt_niff x y).2 fun k => Lt.irrefl _ (h.trans k))
  ·exact .inl ((lt_niff y x).2 h)) l
 refine h.imp fun {x y} hxy => ?_
 simp only [Bool.not_eq_eq_eq_not, Bool.not_true] at hxy
 exact (lt_niff y x).1 hxy
end Zo
theorem zcmpLays (blk off size : Nat) (w : World) : CmpLays Tryz.prog 140 #[] (Enc.enc (α := Zn)) 6 Zo.cmp blk off size w := fun m os dk _ x y => by
 refine (zcmp_at x y (sortWorldK Enc.enc 6 w blk off m dk os)).mono ?_
 rintro e w' ⟨rfl, q, os', rfl⟩
 exact ⟨rfl, q, os', rfl⟩
theorem flat_list {α : Type} [Enc α] [Inhabited α] (l : List α) : (flatK Enc.enc (size α) l.toArray).toList = cellsL l := by
 have h1 : (flatK (Enc.enc (α := α)) (size α) l.toArray).size = l.length * size α := by simp
 apply List.ext_getElem?
 intro t
 by_cases ht : t < l.length * size α
 ·have hp : 0 < size α := Enc.pos
  have hd : t / size α < l.length := (Nat.div_lt_iff_lt_mul hp).2 ht
  have hm : t % size α < size α := Nat.mod_lt _ hp
  have h2 := get_flatK (Enc.enc (α := α)) (size α) l.toArray t (by simpa using ht)
  rw [getElem!_pos _ t (by rw [h1]; exact ht)] at h2
  rw [Array.getElem?_toList, Array.getElem?_eq_getElem (by rw [h1]; exact ht), h2]
  have e1 : l.toArray[t / size α]! = l[t / size α] := by rw [getElem!_pos _ _ (by simpa using hd)]; simp
  rw [e1]
  have hc := cellsL_get l (List.getElem?_eq_getElem hd) (i := t % size α) (c := (Enc.enc l[t / size α])[t % size α]!) (by rw [getElem!_pos _ _ (by rw [Enc.len]; exact hm)]; exact List.getElem?_eq_getElem _)
  rw [← hc]
  congr 1
  rw [Nat.mul_comm]; exact Nat.div_add_mod t (size α)
 ·rw [List.getElem?_eq_none (by rw [Array.length_toList, h1]; omega), List.getElem?_eq_none (by rw [cellsL_len]; omega)]
theorem heap_sortedA {w : World} {g n : Nat} {os : Array Obj} {cur : Array Value} {e : TypeId} {fr : Nat × Nat} (d : Array Value) (hb : w.heap[g]? = some (.cells cur e fr)) :
 (grow (putRow id (Sort.ahead w n) g 0 d) os).heap[g]? = some (.cells (putCells id 0 d cur) e fr) := by
 have hg : g < w.heap.size := (Array.getElem?_eq_some_iff.1 hb).1
 rw [heap_grow_old _ _ (by simpa using hg)]
 simp [putRow, mapBlock, Sort.ahead, Array.getElem?_modify, hb, onCells]
theorem grownBy_sortedA {w : World} {g n : Nat} {os : Array Obj} (d : Array Value) : w.grownBy (grow (putRow id (Sort.ahead w n) g 0 d) os) (some g) := by
 refine ⟨rfl, rfl, rfl, by simp, fun k hk hne => ?_⟩
 rw [heap_grow_old _ _ (by simpa using hk)]
 have : g ≠ k := fun e => hne (by rw [e])
 simp [putRow, mapBlock, Sort.ahead, Array.getElem?_modify, this]
theorem take_putCellsA (cur d : Array Value) (h : d.size ≤ cur.size) : (putCells id 0 d cur).toList.take d.size = d.toList := by
 apply List.ext_getElem?
 intro j
 by_cases hj : j < d.size
 ·rw [List.getElem?_take_of_lt hj, Array.getElem?_toList]
  simp [putCells, hj, show j < cur.size by omega]
 ·rw [List.getElem?_take_eq_none (by omega), List.getElem?_eq_none (by simp; omega)]
theorem holds_flat {w : World} {g : Nat} {cur d : Array Value} {e : TypeId} (hb : w.heap[g]? = some (.cells cur e (0, 0))) (ht : cur.toList.take d.size = d.toList) : Holds id w g 0 d := by
 intro j hj
 refine ⟨?_, by simp [World.frozen?, hb]⟩
 have h1 : (cur.toList.take d.size)[j]? = d.toList[j]? := by rw [ht]
 rw [List.getElem?_take_of_lt hj] at h1
 simp only [World.cell?, hb, Nat.zero_add]
 simp only [Option.isSome_none, Bool.false_eq_true, if_false]
 rw [← Array.getElem?_toList, h1]
 simp [hj]
theorem sortZ_own (base : Nat) (v : Value) (l : List Zn) (hl : l.length ≤ 1000000) (w : World) (hO : Own 86 base w v l) :
 Calls Tryz.prog 181 #[v, .func (.func 140) #[] #[]] w fun e w' => e = .returned (.tuple #[]) ∧ Own 86 base w' v (Zo.sort l) ∧ w.grownBy w' v.ownBlock := by
 obtain ⟨hc, ⟨rfl, h0⟩ | ⟨g, cap, cur, rfl, hb, hg, hn, hm, hs, ht⟩⟩ := id hO
 ·obtain rfl := List.eq_nil_of_length_eq_zero h0
  refine (AnyF.slices_SortFunc_none Tryz.sortZ none 0 _ w).mono ?_
  rintro e w' ⟨rfl, rfl⟩
  exact ⟨rfl, by rw [show Zo.sort [] = [] by simp [Zo.sort]]; exact hO, rfl, rfl, rfl, Nat.le_refl _, fun _ _ _ => rfl⟩
 ·have hf := flat_list l
  have hfs : (flatK (Enc.enc (α := Zn)) 6 l.toArray).size = l.length * 6 := by simp
  have hH : HoldsK (Enc.enc (α := Zn)) 6 w g 0 l.toArray := holds_flat hg (by rw [hfs]; exact ht.trans hf.symm)
  refine (AnyQ.slices_SortFunc_total Tryz.sortZ 6 Tryz.isAgg86 Tryz.sizeOf86 (Enc.enc (α := Zn)) (fun x => rfl) (fun x v hv => Enc.one x v hv) Zo.cmp Zo.swo 140 #[] g 0 cap l.toArray w Tryz.call140 (zcmpLays g 0 _ w) hH (Array.getElem?_eq_some_iff.1 hg).1 (by simp; omega) Zo.tot).mono ?_
  rintro e w' ⟨rfl, n, os, rfl⟩
  have hlen : (Zo.sort l).length = l.length := Zo.sort_len l
  refine ⟨rfl, ?_, grownBy_sortedA _⟩
  have hf2 := flat_list (Zo.sort l)
  have hfs2 : (flatK (Enc.enc (α := Zn)) 6 (Zo.sort l).toArray).size = l.length * 6 := by simp [hlen]
  have hsz : cur.size = cap * 6 := hs
  refine ⟨by rw [cellsL_len, hlen], .inr ⟨g, cap, _, by rw [hlen], hb, heap_sortedA _ hg, by rw [hlen]; exact hn, hm, ?_, ?_⟩⟩
  ·rw [show size Zn = 6 from rfl, ← hsz]; simp [putCells]
  ·rw [hlen, ← hf2]
   have h6 := take_putCellsA cur (flatK (Enc.enc (α := Zn)) 6 (Zo.sort l).toArray) (by rw [hfs2, hsz]; omega)
   rw [hfs2] at h6
   exact h6
theorem sortedZ_any (Bs : Nat) (a : Option Addr) (cap : Nat) (zs : List Zn) (hlen : zs.length ≤ 1000000) (w : World) (hc : w.cell? ⟨Bs, 0, none⟩ = some (.slice a zs.length cap)) (hS : Sl w.heap.size w (.slice a zs.length cap) zs) :
 Calls Tryz.prog 138 #[.func (.func 182) #[] #[.pointer (some ⟨Bs, 0, none⟩)], .func (.func 140) #[] #[]] w fun e w' => ∃ v, e = .returned v ∧ Below Bs w w' ∧ Own 86 w.heap.size w' v (Zo.sort zs) := by
 have hBs : Bs < w.heap.size := World.block_lt_of_cell? _ _ hc
 refine fun_at 0 Bs w (Nat.le_of_lt hBs) Tryz.func138 (args := [.val (.func (.func 182) #[] #[.pointer (some ⟨Bs, 0, none⟩)]), .val (.func (.func 140) #[] #[])]) rfl rfl ?_
 refine CallI.mk fun w1 h1 => ?_
 have hg1 : Below w.heap.size w w1 := h1.go
 refine (collectZ_any Bs a cap zs hlen w1 ((hg1.cell (p := ⟨Bs, 0, none⟩) hBs).trans hc) (hS.go hg1 hg1.size)).mono ?_
 rintro e w2 ⟨v, rfl, hB2, hO⟩
 refine ⟨⟨hB2, by simp⟩, _, rfl, ?_⟩
 obtain ⟨a', c', rfl⟩ := hO.form
 refine CallI.mk fun w3 h3 => (sortZ_own w1.heap.size _ zs hlen w3 (hO.at h3 (by simp))).mono ?_
 rintro e w4 ⟨rfl, hO4, hg⟩
 have hlen2 : (Zo.sort zs).length = zs.length := Zo.sort_len zs
 refine ⟨keep_grown h3 hg fun k hk => ⟨by have h5 := (hO.lt k hk).1; have := hg1.size; show Bs ≤ k; omega, by simp⟩, _, rfl, ?_⟩
 exact EndI.mk fun w5 h5 => (hO4.at h5 (by simp)).lower hg1.size
end Go.Proofs.YtanhnllkccldhaaGreat
namespace Go.Proofs.YtanhnllkccldhaaGreat
set_option linter.unusedVariables false
set_option linter.unusedSimpArgs false
namespace Cv
def cpt : List Zn → List Zn
 | [] => []
 | x :: l => if l.head? = some x then cpt l else x :: cpt l
theorem cpt_cons (x : Zn) (l : List Zn) : cpt (x :: l) = if l.head? = some x then cpt l else x :: cpt l := rfl
theorem cpt_mem (l : List Zn) (x : Zn) : x ∈ cpt l ↔ x ∈ l := by
 induction l with
 | nil => simp [cpt]
 | cons y l ih =>
   rw [cpt_cons, List.mem_cons, ← ih]
   split
   ·rename_i h
    have hy : y ∈ l := List.mem_of_mem_head? (by rw [h]; rfl)
    constructor
    ·exact .inr
    ·rintro (rfl | h2)
     ·exact ih.2 hy
     ·exact h2
   ·rw [List.mem_cons]
theorem cpt_len (l : List Zn) : (cpt l).length ≤ l.length := by
 induction l with
 | nil => simp [cpt]
 | cons x l ih => rw [cpt_cons]; split <;> simp only [List.length_cons] <;> omega
theorem cpt_snoc (p : List Zn) (y x : Zn) : cpt (p ++ [y] ++ [x]) = if x = y then cpt (p ++ [y]) else cpt (p ++ [y]) ++ [x] := by
 induction p with
 | nil =>
   simp only [List.nil_append, List.cons_append, cpt_cons, List.head?_cons, List.head?_nil, Option.some.injEq]
   by_cases h : x = y
   ·subst h; simp [cpt]
   ·simp [h, cpt]
 | cons a p ih =>
   simp only [List.cons_append, cpt_cons]
   have hh : (p ++ [y] ++ [x]).head? = (p ++ [y]).head? := by cases p <;> rfl
   rw [hh, ih]
   split <;> split <;> simp_all
theorem cpt_step {l : List Zn} {k : Nat} {x y : Zn} (hy : l[k]? = some y) (hx : l[k + 1]? = some x) : cpt (l.take (k + 2)) = if x = y then cpt (l.take (k + 1)) else cpt (l.take (k + 1)) ++ [x] := by
 have e1 : l.take (k + 1) = l.take k ++ [y] := by rw [List.take_add_one, hy]; rfl
 have e2 : l.take (k + 2) = l.take k ++ [y] ++ [x] := by rw [show k + 2 = k + 1 + 1 from rfl, List.take_add_one, hx, e1]; rfl
 rw [e1, e2, cpt_snoc]
theorem cpt_all {l : List Zn} (h : ∀ k x y, l[k]? = some y → l[k + 1]? = some x → x ≠ y) : cpt l = l := by
 induction l with
 | nil => rfl
 | cons a l ih =>
   rw [cpt_cons, ih fun k x y hy hx => h (k + 1) x y hy hx]
   split
   ·rename_i hh
    cases l with
    | nil => cases hh
    | cons b l => simp at hh; exact absurd hh (h 0 b a rfl rfl)
   ·rfl
end Cv
end Go.Proofs.YtanhnllkccldhaaGreat
namespace Go.Proofs.YtanhnllkccldhaaGreat
set_option linter.unusedVariables false
set_option linter.unusedSimpArgs false
open Go.RowKit Go.Proofs.YtanhnllkccldhaaGreat.Eng Enc
namespace Cv
open Mi Zo
theorem cpt_strict {l : List Zn} (h : l.Pairwise fun x y => ¬ Lt y x) : (cpt l).Pairwise Lt := by
 induction l with
 | nil => simp [cpt]
 | cons x l ih =>
   rw [List.pairwise_cons] at h
   have h2 := ih h.2
   rw [cpt_cons]
   split
   ·exact h2
   ·rename_i hne
    rw [List.pairwise_cons]
    refine ⟨fun z hz => ?_, h2⟩
    have hz' := (cpt_mem l z).1 hz
    cases l with
    | nil => simp at hz'
    | cons y m =>
      have hyx : y ≠ x := fun e => hne (by simp [e])
      have hxy : Lt x y := by
       have h3 := h.1 y (by simp)
       apply Classical.byContradiction
       intro h4
       exact hyx (Lt.tot h3 h4)
      rcases List.mem_cons.1 hz' with rfl | hz'
      ·exact hxy
      ·have h5 := (List.pairwise_cons.1 h.2).1 z hz'
       apply Classical.byContradiction
       intro h6
       exact Lt.ntrans h6 h5 hxy
theorem strict_eq : ∀ {l m : List Zn}, l.Pairwise Lt → m.Pairwise Lt → (∀ x, x ∈ l ↔ x ∈ m) → l = m
 | [], [], _, _, _ => rfl
 | [], y :: m, _, _, h => by have := (h y).2 (by simp); simp at this
 | x :: l, [], _, _, h => by have := (h x).1 (by simp); simp at this
 | x :: l, y :: m, hl, hm, h => by
   rw [List.pairwise_cons] at hl hm
   have e : x = y := by
    rcases List.mem_cons.1 ((h x).1 (by simp)) with e | hx
    ·exact e
    ·rcases List.mem_cons.1 ((h y).2 (by simp)) with e | hy
     ·exact e.symm
     ·exact absurd ((hl.1 y hy).trans (hm.1 x hx)) (Lt.irrefl x)
   subst e
   congr 1
   refine strict_eq hl.2 hm.2 fun z => ?_
   constructor
   ·intro hz
    rcases List.mem_cons.1 ((h z).1 (by simp [hz])) with rfl | hz'
    ·exact absurd (hl.1 z hz) (Lt.irrefl z)
    ·exact hz'
   ·intro hz
    rcases List.mem_cons.1 ((h z).2 (by simp [hz])) with rfl | hz'
    ·exact absurd (hm.1 z hz) (Lt.irrefl z)
    ·exact hz'
def sorted (l : List Zn) : List Zn := cpt (sort l)
theorem sorted_strict (l : List Zn) : (sorted l).Pairwise Lt := cpt_strict (sort_sorted l)
theorem sorted_mem (l : List Zn) (x : Zn) : x ∈ sorted l ↔ x ∈ l := (cpt_mem _ x).trans (sort_perm l).mem_iff
theorem sorted_self {l : List Zn} (h : l.Pairwise Lt) : sorted l = l := strict_eq (sorted_strict l) h (sorted_mem l)
theorem sorted_len (l : List Zn) : (sorted l).length ≤ l.length := by
 have := cpt_len (sort l); rw [sort_len] at this; exact this
def pgo : Nat → List Zn → List Zn × Int
 | 0, out => (out, 0)
 | i + 1, out => match out[i]? with
   | none => (out, 0)
   | some z => if (in_ z (out.eraseIdx i)).2 ≠ 0 then ([], (in_ z (out.eraseIdx i)).2) else if (in_ z (out.eraseIdx i)).1 = true then pgo i (out.eraseIdx i) else pgo i out
theorem pgo_succ {i : Nat} {out : List Zn} {z : Zn} (h : out[i]? = some z) : pgo (i + 1) out = if (in_ z (out.eraseIdx i)).2 ≠ 0 then ([], (in_ z (out.eraseIdx i)).2) else if (in_ z (out.eraseIdx i)).1 = true then pgo i (out.eraseIdx i) else pgo i out := by
 rw [pgo, h]
def prune (l : List Zn) : List Zn × Int := if checked [l] ≠ 0 then ([], checked [l]) else pgo (sorted l).length (sorted l)
def Bare (n : Nat) (out : List Zn) : Prop := ∀ j z, n ≤ j → out[j]? = some z → ¬ Cov z (out.eraseIdx j)
theorem mem_erase {l : List Zn} {i : Nat} {x : Zn} : x ∈ l.eraseIdx i ↔ ∃ j, j ≠ i ∧ l[j]? = some x := by
 rw [List.mem_eraseIdx_iff_getElem?]
theorem pgo_ok {n : Nat} : ∀ {out : List Zn}, n ≤ out.length → (pgo n out).2 = 0 → Bare n out → (∀ z, z ∈ out → Zo.chk z = 0) → (pgo n out).1.Sublist out ∧ Bare 0 (pgo n out).1 ∧ ∀ t, (∃ b, b ∈ out ∧ Fz b t) → ∃ b, b ∈ (pgo n out).1 ∧ Fz b t := by
 induction n with
 | zero => intro out _ _ hb _; exact ⟨List.Sublist.refl _, hb, fun t h => h⟩
 | succ i ih =>
   intro out hn h hb hc
   have ho := List.getElem?_eq_getElem (l := out) (i := i) (by omega)
   generalize out[i] = z at ho
   rw [pgo_succ ho] at h ⊢
   by_cases h1 : (in_ z (out.eraseIdx i)).2 ≠ 0
   ·rw [if_pos h1] at h; exact absurd h h1
   rw [if_neg h1] at h ⊢
   obtain ⟨_, _, hcov⟩ := in_ok (z := z) (l := out.eraseIdx i) (by simpa using h1)
   by_cases h2 : (in_ z (out.eraseIdx i)).1 = true
   ·rw [if_pos h2] at h ⊢
    have hsub := List.eraseIdx_sublist out i
    have hbare : Bare i (out.eraseIdx i) := fun j x hj hx hcv => by
     have hx' : out[j + 1]? = some x := by
      rw [List.getElem?_eraseIdx] at hx
      rwa [if_neg (by omega)] at hx
     refine hb (j + 1) x (by omega) hx' (hcv.mono fun y hy => ?_)
     obtain ⟨q, hq, hqy⟩ := mem_erase.1 hy
     rw [List.getElem?_eraseIdx] at hqy
     split at hqy
     ·exact mem_erase.2 ⟨q, by omega, hqy⟩
     ·exact mem_erase.2 ⟨q + 1, by omega, hqy⟩
    obtain ⟨k1, k2, k3⟩ := ih (out := out.eraseIdx i) (by rw [List.length_eraseIdx]; split <;> omega) h hbare (fun x hx => hc x (hsub.mem hx))
    refine ⟨k1.trans hsub, k2, fun t ht => k3 t ?_⟩
    obtain ⟨b, hb1, hb2⟩ := ht
    obtain ⟨j, hj⟩ := List.mem_iff_getElem?.1 hb1
    by_cases hji : j = i
    ·subst hji
     rw [ho] at hj; injection hj with hj; subst hj
     exact hcov.1 h2 t hb2
    ·exact ⟨b, mem_erase.2 ⟨j, hji, hj⟩, hb2⟩
   ·rw [if_neg h2] at h ⊢
    refine ih (by omega) h (fun j x hj hx => ?_) hc
    by_cases hji : j = i
    ·subst hji
     rw [ho] at hx; injection hx with hx; subst hx
     exact fun hcv => h2 (hcov.2 hcv)
    ·exact hb j x (by omega) hx
theorem pgo_self {n : Nat} : ∀ {out : List Zn}, n ≤ out.length → (pgo n out).2 = 0 → Bare 0 out → pgo n out = (out, 0) := by
 induction n with
 | zero => intro out _ _ _; rfl
 | succ i ih =>
   intro out hn h hb
   have ho := List.getElem?_eq_getElem (l := out) (i := i) (by omega)
   generalize out[i] = z at ho
   rw [pgo_succ ho] at h ⊢
   by_cases h1 : (in_ z (out.eraseIdx i)).2 ≠ 0
   ·rw [if_pos h1] at h; exact absurd h h1
   rw [if_neg h1] at h ⊢
   obtain ⟨_, _, hcov⟩ := in_ok (z := z) (l := out.eraseIdx i) (by simpa using h1)
   have h2 : ¬ (in_ z (out.eraseIdx i)).1 = true := fun h2 => hb i z (Nat.zero_le _) ho (hcov.1 h2)
   rw [if_neg h2] at h ⊢
   exact ih (by omega) h hb
theorem checked_one {l : List Zn} : checked [l] = 0 ↔ l.length ≤ 4096 ∧ ∀ z, z ∈ l → Zo.chk z = 0 := by
 unfold checked
 simp only [List.any_cons, List.any_nil, Bool.or_false, decide_eq_true_eq]
 by_cases h1 : 4096 < l.length
 ·rw [if_pos h1]; constructor
  ·intro h; cases h
  ·intro h; omega
 ·rw [if_neg h1]
  by_cases h2 : l.any odd = true
  ·rw [if_pos h2]
   constructor
   ·intro h; cases h
   ·intro h
    obtain ⟨z, hz, ho⟩ := List.any_eq_true.1 h2
    simp [odd, h.2 z hz] at ho
  ·rw [if_neg h2]
   refine ⟨fun _ => ⟨by omega, fun z hz => ?_⟩, fun _ => rfl⟩
   apply Classical.byContradiction
   intro h3
   exact h2 (List.any_eq_true.2 ⟨z, hz, by simpa [odd] using h3⟩)
structure Wanted (l m : List Zn) : Prop where
 chk : ∀ z, z ∈ l → Zo.chk z = 0
 len : l.length ≤ 4096
 mem : ∀ z, z ∈ m → z ∈ l
 strict : m.Pairwise Lt
 bare : Bare 0 m
 pts : ∀ t, (∃ b, b ∈ l ∧ Fz b t) ↔ ∃ b, b ∈ m ∧ Fz b t
 mlen : m.length ≤ l.length
theorem prune_ok {l : List Zn} (h : (prune l).2 = 0) : Wanted l (prune l).1 := by
 unfold prune at h ⊢
 by_cases h1 : checked [l] ≠ 0
 ·rw [if_pos h1] at h; exact absurd h h1
 rw [if_neg h1] at h ⊢
 obtain ⟨hl, hc⟩ := checked_one.1 (by simpa using h1)
 obtain ⟨k1, k2, k3⟩ := pgo_ok (Nat.le_refl _) h (fun j z hj hz => by have := (List.getElem?_eq_some_iff.1 hz).1; omega) (fun z hz => hc z ((sorted_mem l z).1 hz))
 have hmem : ∀ z, z ∈ (pgo (sorted l).length (sorted l)).1 → z ∈ l := fun z hz => (sorted_mem l z).1 (k1.mem hz)
 refine ⟨hc, hl, hmem, (sorted_strict l).sublist k1, k2, fun t => ⟨fun ⟨b, hb, hbt⟩ => k3 t ⟨b, (sorted_mem l b).2 hb, hbt⟩, fun ⟨b, hb, hbt⟩ => ⟨b, hmem b hb, hbt⟩⟩, Nat.le_trans k1.length_le (sorted_len l)⟩
theorem Wanted.again {l m : List Zn} (h : Wanted l m) (h2 : (prune m).2 = 0) : (prune m).1 = m := by
 unfold prune at h2 ⊢
 by_cases h1 : checked [m] ≠ 0
 ·rw [if_pos h1] at h2; exact absurd h2 h1
 rw [if_neg h1] at h2 ⊢
 rw [sorted_self h.strict] at h2 ⊢
 rw [pgo_self (Nat.le_refl _) h2 h.bare]
end Cv
end Go.Proofs.YtanhnllkccldhaaGreat
namespace Go.Proofs.YtanhnllkccldhaaGreat
set_option linter.unusedVariables false
set_option linter.unusedSimpArgs false
set_option maxRecDepth 100000
open Go.RowKit Go.Proofs.YtanhnllkccldhaaGreat.Eng Enc
theorem equalZ (d : Nat) (x y : Zn) (w : World) : (Op.equalIn (d + 1 + 1) 86 (.agg #[.int .i64 x.a, .int .i64 x.b, .int .i64 x.c, .int .i64 x.d, .int .i64 x.e, .int .i64 x.f]) (.agg #[.int .i64 y.a, .int .i64 y.b, .int .i64 y.c, .int .i64 y.d, .int .i64 y.e, .int .i64 y.f])).run Tryz.prog w = .ok (decide (x = y)) w := by
 have hu := Tryz.underlying86
 have hb := Tryz.underlying84
 have hs := Tryz.sizeOf84
 have ha := Tryz.isAgg84
 rw [Op.equalIn]
 simp only [Sem.run_bind, run_underlying hu, Result.andThen_ok, hs]
 have hpart : ∀ (vs : Array Value) (k : Nat) (v : Value), vs[k]? = some v → (part 84 vs k).run Tryz.prog w = .ok v w := fun vs k v h => by
  simp [part, Sem.run_bind, ha, hs, Result.andThen_ok, h]
 have he : ∀ a b : Int, (Op.equalIn (d + 1) 84 (.int .i64 a) (.int .i64 b)).run Tryz.prog w = .ok (a == b) w := fun a b => run_equalIn_int w d _ _ _ a b hb
 rw [Std.Legacy.Range.forIn_eq_forIn_range']
 simp [Std.Legacy.Range.size, List.range', Sem.run_bind, hpart, he, Result.andThen_ok]
 have hxy : x = y ↔ (x.a = y.a ∧ x.b = y.b ∧ x.c = y.c ∧ x.d = y.d ∧ x.e = y.e ∧ x.f = y.f) := by
  cases x; cases y; simp
 simp only [hxy]
 repeat' split
 all_goals simp_all
theorem run_eql_zn (x y : Zn) (w : World) : (binOp .eql 86 (.agg #[.int .i64 x.a, .int .i64 x.b, .int .i64 x.c, .int .i64 x.d, .int .i64 x.e, .int .i64 x.f]) (.agg #[.int .i64 y.a, .int .i64 y.b, .int .i64 y.c, .int .i64 y.d, .int .i64 y.e, .int .i64 y.f])).run Tryz.prog w = .ok (.bool (decide (x = y))) w := by
 rw [run_eql_struct, show (10000 : Nat) = 9998 + 1 + 1 from rfl, equalZ]; rfl
theorem run_neq_zn (x y : Zn) (w : World) : (binOp .neq 86 (.agg #[.int .i64 x.a, .int .i64 x.b, .int .i64 x.c, .int .i64 x.d, .int .i64 x.e, .int .i64 x.f]) (.agg #[.int .i64 y.a, .int .i64 y.b, .int .i64 y.c, .int .i64 y.d, .int .i64 y.e, .int .i64 y.f])).run Tryz.prog w = .ok (.bool (decide (x ≠ y))) w := by
 rw [run_neq_struct, show (10000 : Nat) = 9998 + 1 + 1 from rfl, equalZ]
 simp [Result.andThen]
theorem run_eql_znG (p q : Operand) (x y : Zn) (w : World) : (do eqGuard .eql 86 p q (.agg #[.int .i64 x.a, .int .i64 x.b, .int .i64 x.c, .int .i64 x.d, .int .i64 x.e, .int .i64 x.f]) (.agg #[.int .i64 y.a, .int .i64 y.b, .int .i64 y.c, .int .i64 y.d, .int .i64 y.e, .int .i64 y.f]); binOp .eql 86 (.agg #[.int .i64 x.a, .int .i64 x.b, .int .i64 x.c, .int .i64 x.d, .int .i64 x.e, .int .i64 x.f]) (.agg #[.int .i64 y.a, .int .i64 y.b, .int .i64 y.c, .int .i64 y.d, .int .i64 y.e, .int .i64 y.f]) : Sem Value).run Tryz.prog w = .ok (.bool (decide (x = y))) w := by
 have hg : (eqGuard .eql 86 p q (.agg #[.int .i64 x.a, .int .i64 x.b, .int .i64 x.c, .int .i64 x.d, .int .i64 x.e, .int .i64 x.f]) (.agg #[.int .i64 y.a, .int .i64 y.b, .int .i64 y.c, .int .i64 y.d, .int .i64 y.e, .int .i64 y.f])).run Tryz.prog w = .ok () w := run_eqGuard_agg _ _ _ _ _ _ _ (by kernel_rfl)
 rw [Sem.run_bind, hg]
 exact run_eql_zn x y w
theorem run_neq_znG (p q : Operand) (x y : Zn) (w : World) : (do eqGuard .neq 86 p q (.agg #[.int .i64 x.a, .int .i64 x.b, .int .i64 x.c, .int .i64 x.d, .int .i64 x.e, .int .i64 x.f]) (.agg #[.int .i64 y.a, .int .i64 y.b, .int .i64 y.c, .int .i64 y.d, .int .i64 y.e, .int .i64 y.f]); binOp .neq 86 (.agg #[.int .i64 x.a, .int .i64 x.b, .int .i64 x.c, .int .i64 x.d, .int .i64 x.e, .int .i64 x.f]) (.agg #[.int .i64 y.a, .int .i64 y.b, .int .i64 y.c, .int .i64 y.d, .int .i64 y.e, .int .i64 y.f]) : Sem Value).run Tryz.prog w = .ok (.bool (decide (x ≠ y))) w := by
 have hg : (eqGuard .neq 86 p q (.agg #[.int .i64 x.a, .int .i64 x.b, .int .i64 x.c, .int .i64 x.d, .int .i64 x.e, .int .i64 x.f]) (.agg #[.int .i64 y.a, .int .i64 y.b, .int .i64 y.c, .int .i64 y.d, .int .i64 y.e, .int .i64 y.f])).run Tryz.prog w = .ok () w := run_eqGuard_agg _ _ _ _ _ _ _ (by kernel_rfl)
 rw [Sem.run_bind, hg]
 exact run_neq_zn x y w
theorem elDZ : ElOk Tryz.prog 22 86 6 48 := elOk (z := .agg #[.int .i64 0, .int .i64 0, .int .i64 0, .int .i64 0, .int .i64 0, .int .i64 0]) Tryz.underlying22 (by kernel_rfl) rfl (by decide)
theorem tyDZ : TyOk Tryz.prog 86 ⟨[.int .i64 0, .int .i64 0, .int .i64 0, .int .i64 0, .int .i64 0, .int .i64 0], true⟩ := tyOk_agg Tryz.zeroValue86 Tryz.sizeOf86 Tryz.isAgg86 rfl
theorem deleteZ_any (l : List Zn) (g cap base i j : Nat) (e0 : TypeId) (he : e0 = 86) (hij : i < j) (hj : j ≤ l.length) (B : Nat) (w : World) (hB : B ≤ w.heap.size) (hg : B ≤ g) (hO : Own e0 base w (.slice (some ⟨g, 0, none⟩) l.length cap) l) (hlen : l.length ≤ 1000000) :
 Calls Tryz.prog 141 #[.slice (some ⟨g, 0, none⟩) l.length cap, .int .i64 i, .int .i64 j] w fun e w' => ∃ v, e = .returned v ∧ Below B w w' ∧ v = .slice (some ⟨g, 0, none⟩) (i + (l.length - j)) cap ∧ Own e0 base w' (.slice (some ⟨g, 0, none⟩) (i + (l.length - j)) cap) (l.take i ++ l.drop j) ∧ w.grownBy w' (some g) := by
 subst he
 obtain ⟨_, hbg, hgl, cur0, _, hcap, hmax, _, _⟩ := hO.at0
 have hm : cap ≤ 9223372036854775807 := by unfold maxLen at hmax; omega
 refine fun_at 0 B w hB Tryz.func141 (args := [.val (.slice (some ⟨g, 0, none⟩) l.length cap), .val (.int .i64 i), .val (.int .i64 j)]) rfl rfl ?_
 refine Need.mk ⟨by omega, by omega, by omega, by omega⟩ ?_
 refine Branch.no (by simp; omega) ?_
 refine DrawI.wr (.tk 0 (.tk 1 (.tk 2 (.tk 3 (.tk 4 (.tk 5 (.ev 6 (.tk 7 .done)))))))) [] [g] (by kernel_rfl) rfl (fun _ h => by cases h) fun w1 h1 => ?_
 refine Need.mk ⟨by omega, by omega, by omega⟩ ?_
 refine Need.mk ⟨by omega, by omega, by omega⟩ ?_
 have hdl : (l.drop j).length = l.length - j := by simp
 have hil : (l.take i).length = i := by simp; omega
 refine GenN.mk fun w2 h2 => ?_
 have k2 := h1.go.trans (h2.go.mono h1.size)
 have hO2 : Own 86 base w2 (.slice (some ⟨g, 0, none⟩) l.length cap) l := hO.below k2
 have hT := hO2.take i (by omega)
 have hs0 := (hO2.sl).sub j l.length hj (Nat.le_refl _)
 rw [List.take_of_length_le (by simp)] at hs0
 obtain ⟨hl, hs⟩ := hs0.src
 have happ : ∃ w', (Builtin.append_ #[22, 22] 22 #[.slice (some ⟨g, 0, none⟩) i cap, .slice (if cap = j then some ⟨g, 0, none⟩ else (some (⟨g, 0, none⟩ : Addr)).map (·.add (j * size Zn))) (l.length - j) (cap - j)]).run Tryz.prog w2 = .ok (.slice (some ⟨g, 0, none⟩) (i + (l.length - j)) cap) w' ∧
  Own 86 base w' (.slice (some ⟨g, 0, none⟩) (i + (l.length - j)) cap) (l.take i ++ l.drop j) ∧ w2.grownBy w' (some g) := by
  obtain ⟨ht, ⟨inf, z, hi, hz, hss, hb, hzs⟩, hp⟩ := elDZ
  have hown : w2.ownsRow base 86 (size Zn) (.slice (some ⟨g, 0, none⟩) i cap) i (cellsL (l.take i)) := by have := hT; unfold Own at this; rwa [hil] at this
  rcases hs with ⟨e0, hm0⟩ | ⟨ad, c, e0, hc⟩
  ·split at e0 <;> simp at e0
  ·rw [e0]
   rw [hdl] at hl ⊢
   obtain ⟨w', a1, a2, a3⟩ := run_append_fits (P := Tryz.prog) w2 base 22 22 86 inf (size Zn) ht hi hss g i cap (cellsL (l.take i)) hown ad (l.length - j) c (cellsL (l.drop j)) hl hc (cellsL_one _) (by omega)
   refine ⟨w', a1, ?_, a3⟩
   unfold Own
   rw [cellsL_append, List.length_append, hil, hdl]; exact a2
 obtain ⟨w3, hr3, hO3, hg3⟩ := happ
 refine ⟨.slice (some ⟨g, 0, none⟩) (i + (l.length - j)) cap, w3, ?_, kpD_grown h2 hg3 (fun k hk => by injection hk with hk; subst hk; exact ⟨hg, by simp, .inl (by simp [locs])⟩), ?_⟩
 ·exact run_value hr3
 have hnl : (l.take i ++ l.drop j).length = i + (l.length - j) := by rw [List.length_append, hil, hdl]
 refine Need.mk ⟨by omega, by omega, by omega⟩ ?_
 refine GenN.mk fun w4 h4 => ?_
 have hO4 := hO3.below h4.go
 have g4 : w.grownBy w4 (some g) := grown_below (grown_trans (grown_below (grown_refl w (some g)) k2) hg3) h4.go
 obtain ⟨_, _, hgl4, cur, hc4, _, _, hs4, _⟩ := hO4.at0
 have hlo : i + (l.length - j) < l.length := by omega
 have hroom : (i + (l.length - j)) * size Zn + (j - i) * size Zn ≤ cur.size := by
  rw [hs4, ← Nat.add_mul]; exact Nat.mul_le_mul_right _ (by omega)
 obtain ⟨vs, hvl, hrun⟩ := run_clear (P := Tryz.prog) (c := cap - (i + (l.length - j))) elDZ.ht tyDZ (by decide) (o := (i + (l.length - j)) * size Zn) (n := j - i) hc4 hroom (by omega)
 have hvl' : vs.length = (j - i) * size Zn := hvl
 refine ⟨_, _, hrun _ _ _ ?_, ⟨below_setRow (Below.refl _ _) hg _, fun b hb => by cases hb⟩, ?_⟩
 ·show Value.slice (if cap = _ then _ else _) _ _ = _
  rw [if_neg (by simp only [Int.toNat_natCast]; omega)]
  simp only [Int.toNat_natCast, Option.map_some, addr_addL, Nat.zero_add, Value.slice.injEq, true_and]
  exact ⟨rfl, by omega, trivial⟩
 refine EndI.mk fun w5 h5 => ?_
 refine ⟨rfl, (hO4.setRow hc4 _ vs (by rw [hnl]; exact Nat.le_refl _) (by rw [hvl']; exact hroom)).below h5.go, ?_⟩
 exact grown_below (grown_trans g4 (grown_setRow w4 g _)) h5.go
theorem compactZ_few (v : Value) (l : List Zn) (a : Option Addr) (cap : Nat) (hl : l.length < 2) (w : World) :
 Calls Tryz.prog 137 #[.slice a l.length cap] w fun e w' => e = .returned (.slice a l.length cap) ∧ Below w.heap.size w w' := by
 refine fun_eq 0 w Tryz.func137 (args := [.val (.slice a l.length cap)]) rfl rfl ?_
 refine Branch.yes (by simp; omega) ?_
 exact EndI.mk fun w9 h9 => rfl
theorem compactZ_any (l : List Zn) (g cap base : Nat) (h2 : 2 ≤ l.length) (B : Nat) (w : World) (hB : B ≤ w.heap.size) (hg : B ≤ g) (hO : Own 86 base w (.slice (some ⟨g, 0, none⟩) l.length cap) l) (hlen : l.length ≤ 1000000) :
 Calls Tryz.prog 137 #[.slice (some ⟨g, 0, none⟩) l.length cap] w fun e w' => ∃ v, e = .returned v ∧ Below B w w' ∧ v = .slice (some ⟨g, 0, none⟩) (Cv.cpt l).length cap ∧ Own 86 base w' (.slice (some ⟨g, 0, none⟩) (Cv.cpt l).length cap) (Cv.cpt l) ∧ w.grownBy w' (some g) := by
 obtain ⟨_, hbg, hgl, cur0, _, hcap, hmax, _, _⟩ := hO.at0
 have hm : cap ≤ 9223372036854775807 := by unfold maxLen at hmax; omega
 refine fun_at 0 B w hB Tryz.func137 (args := [.val (.slice (some ⟨g, 0, none⟩) l.length cap)]) rfl rfl ?_
 refine Branch.no (by simp; omega) ?_
 refine LoopI.invC (α := Nat × World) (fun y => [(3, .val (.int .i64 (y.1 + 1 : Nat)))]) (fun y => y.2) (fun y => y.1 + 1 ≤ l.length ∧ Below w.heap.size w y.2 ∧ ∀ j x y0, j < y.1 → l[j]? = some y0 → l[j + 1]? = some x → x ≠ y0) (fun y => l.length - y.1) ?_ ?_
 ·intro w1 h1
  exact ⟨(0, w1), Cov.au rfl rfl rfl rfl rfl, rfl, by omega, h1.go, fun j x y hj => by omega⟩
 rintro ⟨k, V⟩ ⟨hk, hV, hall⟩
 simp only at hk hV hall
 refine Branch.mk (fun hc => ?_) (fun hc => ?_)
 ·have hlt : k + 1 < l.length := by simp only at hc; have := of_decide_eq_true hc; omega
  refine DrawI.go (.tk 0 (.tk 1 (.tk 2 (.tk 3 (.tk 4 (.tk 5 (.tk 6 (.tk 7 (.tk 8 (.ev 9 .done)))))))))) (by kernel_rfl) fun w2 h2 => ?_
  have hV2 : Below w.heap.size w w2 := hV.trans (h2.go.mono hV.size)
  have hO2 := hO.below hV2
  have hS2 := hO2.sl
  have hx := List.getElem?_eq_getElem (l := l) (i := k + 1) hlt
  have hy := List.getElem?_eq_getElem (l := l) (i := k) (by omega)
  generalize l[k + 1] = x at hx
  generalize l[k]'(by omega) = y at hy
  refine hS2.idx hx fun ad had => ?_
  refine hS2.ld hx had (Below.refl _ _) (by simp) ?_
  refine Need.mk (by simp only [inK]; omega) ?_
  conv => whnf
  rw [show (((k + 1 : Nat) : Int) - 1) = ((k : Nat) : Int) by omega]
  refine hS2.idx hy fun ad2 had2 => ?_
  refine hS2.ld hy had2 (Below.refl _ _) (by simp) ?_
  refine GenV.to (x := .bool (decide (x = y))) (fun w => run_eql_znG _ _ x y w) fun w3 h3 => ?_
  have hV3 : Below w.heap.size w w3 := hV2.trans (h3.go.mono hV2.size)
  refine Branch.mk (fun hc2 => ?_) (fun hc2 => ?_)
  ·have hxy : x = y := by simpa using hc2
   have hnd : Cv.cpt (l.take (k + 2)) = l.take (k + 1) := by
    rw [Cv.cpt_step hy hx, if_pos hxy]
    refine Cv.cpt_all fun j x y hy hx => ?_
    rw [List.getElem?_take] at hy hx
    split at hx
    ·rename_i hj
     rw [if_pos (by omega)] at hy
     exact hall j x y (by omega) hy hx
    ·cases hx
   refine Need.mk ⟨by omega, by omega, by omega⟩ ?_
   refine LoopI.invC (α := (Nat × Nat × List Zn) × World) (fun y => [(3, .val (.int .i64 (y.1.1 : Nat))), (5, .val (.int .i64 (y.1.2.1 + 1 : Nat)))]) (fun y => y.2)
    (fun y => k + 1 + y.1.2.1 + 1 ≤ l.length ∧ y.1.1 ≤ k + 1 + y.1.2.1 ∧ 1 ≤ y.1.1 ∧ y.1.2.2.length = l.length ∧ (∀ j, k + 1 + y.1.2.1 ≤ j → y.1.2.2[j]? = l[j]?) ∧ y.1.2.2.take y.1.1 = Cv.cpt (l.take (k + 1 + y.1.2.1 + 1)) ∧ Own 86 base y.2 (.slice (some ⟨g, 0, none⟩) l.length cap) y.1.2.2 ∧ Below B w y.2 ∧ w.grownBy y.2 (some g)) (fun y => l.length - y.1.2.1) ?_ ?_
   ·intro w4 h4
    have h4' : Below w.heap.size w w4 := hV3.trans (h4.go.mono hV3.size)
    exact ⟨((k + 1, 0, l), w4), Cov.au rfl rfl rfl rfl rfl, rfl, ⟨by show k + 1 + 0 + 1 ≤ l.length; omega, by show k + 1 ≤ k + 1 + 0; omega, by show 1 ≤ k + 1; omega, rfl, fun _ _ => rfl, hnd.symm, hO.below h4', h4'.mono hB, below_grown h4' _⟩⟩
   rintro ⟨⟨kw, q, m⟩, U⟩ ⟨i1, i2, i3, i4, i5, i6, i7, i8, i9⟩
   simp only at i1 i2 i3 i4 i5 i6 i7 i8 i9
   refine Branch.mk (fun hc3 => ?_) (fun hc3 => ?_)
   ·have hlt2 : k + 1 + q + 1 < l.length := by simp only at hc3; have := of_decide_eq_true hc3; omega
    refine DrawI.go (.tk 0 (.tk 1 (.tk 2 (.tk 3 (.tk 4 (.tk 5 (.tk 6 (.tk 7 (.tk 8 (.ev 9 .done)))))))))) (by kernel_rfl) fun w5 h5 => ?_
    have hg5 : Below U.heap.size U w5 := h5.go
    have j7 := i7.below hg5
    have hT := fun (X : World) (hX : Own 86 base X (.slice (some ⟨g, 0, none⟩) l.length cap) m) => (hX.sl).sub (k + 1) l.length (by omega) (by omega)
    have eT : ∀ j z, m[k + 1 + j]? = some z → ((m.drop (k + 1)).take (l.length - (k + 1)))[j]? = some z := fun j z hz => by
     have := (List.getElem?_eq_some_iff.1 hz).1
     rw [List.getElem?_take, if_pos (by omega), List.getElem?_drop]; exact hz
    have hx1 := List.getElem?_eq_getElem (l := l) (i := k + 1 + (q + 1)) (by omega)
    have hy1 := List.getElem?_eq_getElem (l := l) (i := k + 1 + q) (by omega)
    generalize l[k + 1 + (q + 1)]'(by omega) = x1 at hx1
    generalize l[k + 1 + q]'(by omega) = y1 at hy1
    have hS5 := hT w5 j7
    refine hS5.idx (eT (q + 1) x1 ((i5 _ (by omega)).trans hx1)) fun ad3 had3 => ?_
    refine hS5.ld (eT (q + 1) x1 ((i5 _ (by omega)).trans hx1)) had3 (Below.refl _ _) (by simp) ?_
    refine Need.mk (by simp only [inK]; omega) ?_
    conv => whnf
    rw [show (((q + 1 : Nat) : Int) - 1) = ((q : Nat) : Int) by omega]
    refine hS5.idx (eT q y1 ((i5 _ (by omega)).trans hy1)) fun ad4 had4 => ?_
    refine hS5.ld (eT q y1 ((i5 _ (by omega)).trans hy1)) had4 (Below.refl _ _) (by simp) ?_
    refine GenV.to (x := .bool (decide (x1 ≠ y1))) (fun w => run_neq_znG _ _ x1 y1 w) fun w6 h6 => ?_
    have hg6 : Below w5.heap.size w5 w6 := h6.go
    have j8 := j7.below hg6
    have hcp := Cv.cpt_step (l := l) (k := k + 1 + q) hy1 (by rw [Nat.add_assoc]; exact hx1)
    have hU6 : Below U.heap.size U w6 := hg5.trans (hg6.mono hg5.size)
    have hUs : B ≤ U.heap.size := Nat.le_trans hB i8.size
    refine Branch.mk (fun hc4 => ?_) (fun hc4 => ?_)
    ·have hne : x1 ≠ y1 := by simpa using hc4
     rw [if_neg hne] at hcp
     have hS6 := hT w6 j8
     refine hS6.idx (eT (q + 1) x1 ((i5 _ (by omega)).trans hx1)) fun ad5 had5 => ?_
     refine hS6.ld (eT (q + 1) x1 ((i5 _ (by omega)).trans hx1)) had5 (Below.refl _ _) (by simp) ?_
     have hmk := List.getElem?_eq_getElem (l := m) (i := kw) (by omega)
     refine (j8.sl).idx hmk fun ad6 had6 => ?_
     injection had6 with had6; subst had6
     refine Need.mk rfl ?_
     refine ⟨fun w7 h7 => ?_⟩
     have hg7 : Below w6.heap.size w6 w7 := h7.go
     have j9 := j8.below hg7
     obtain ⟨_, _, _, cur, hcur, _, _, hcs, _⟩ := j9.at0
     have eo : (⟨g, 0, none⟩ : Addr).add ((kw : Int).toNat * 6) = ⟨g, kw * 6, none⟩ := by rw [addr_addL, Nat.zero_add, Int.toNat_natCast]
     have hset := j9.set hcur kw (by omega) x1
     have hU7 : Below U.heap.size U w7 := hU6.trans (hg7.mono hU6.size)
     refine ⟨g, kw * 6, cur, _, eo, hcur, ?_, ⟨below_setRow (Below.refl _ _) hg _, fun b hb => by cases hb⟩, ?_⟩
     ·have := Nat.mul_le_mul_right 6 (show kw + 1 ≤ cap by omega)
      have hcs' : cur.size = cap * 6 := hcs
      show kw * 6 + 6 ≤ cur.size
      omega
     have hg8 : w.grownBy (w7.setRow g (cur.toList.take (kw * size Zn) ++ enc x1 ++ cur.toList.drop (kw * size Zn + (enc x1).length)).toArray) (some g) := grown_trans (grown_below i9 hU7) (grown_setRow _ _ _)
     have hb8 : Below B w (w7.setRow g (cur.toList.take (kw * size Zn) ++ enc x1 ++ cur.toList.drop (kw * size Zn + (enc x1).length)).toArray) := below_setRow (i8.trans (hU7.mono hUs)) hg _
     refine Need.mk (by simp only [inK]; omega) ?_
     refine Need.mk (by simp only [inK]; omega) (EndI.mk fun w9 h9 => ⟨((kw + 1, q + 1, m.set kw x1), w9), Cov.au rfl rfl rfl rfl rfl, rfl, ?_, by simp only; omega⟩)
     have h9g := h9.go
     refine ⟨by simp only; omega, by simp only; omega, by simp only; omega, by simp only [List.length_set]; exact i4, fun j hj => ?_, ?_, hset.below h9g, hb8.trans (h9g.mono (Nat.le_trans hB hb8.size)), grown_below hg8 h9g⟩
     ·simp only at hj ⊢
      rw [List.getElem?_set_ne (by omega)]; exact i5 j (by omega)
     ·simp only
      rw [← Nat.add_assoc, hcp, ← i6, List.take_add_one, List.getElem?_set_self (by omega), List.take_set_of_le (by omega)]; rfl
    ·have heq : x1 = y1 := by simpa using hc4
     rw [if_pos heq] at hcp
     refine Need.mk (by simp only [inK]; omega) (EndI.mk fun w9 h9 => ⟨((kw, q + 1, m), w9), Cov.au rfl rfl rfl rfl rfl, rfl, ?_, by simp only; omega⟩)
     have hU9 : Below U.heap.size U w9 := hU6.trans (h9.go.mono hU6.size)
     exact ⟨by simp only; omega, by simp only; omega, i3, i4, fun j hj => i5 j (by simp only at hj; omega), by simp only; rw [i6, ← Nat.add_assoc, hcp], i7.below hU9, i8.trans (hU9.mono hUs), grown_below i9 hU9⟩
   ·have hge : k + 1 + q + 1 = l.length := by simp only at hc3; have := of_decide_eq_false hc3; omega
    rw [hge, List.take_length] at i6
    have hlk : (Cv.cpt l).length = kw := by rw [← i6, List.length_take]; omega
    have hkw : kw < l.length := by omega
    rw [hlk]
    refine Need.mk (by refine ⟨?_, ?_, ?_⟩ <;> (try simp only) <;> omega) ?_
    refine GenN.mk fun w4 h4 => ?_
    have hO4 := i7.below h4.go
    have g4 : w.grownBy w4 (some g) := grown_below i9 h4.go
    have b4 : Below B w w4 := i8.trans (h4.go.mono (Nat.le_trans hB i8.size))
    obtain ⟨_, _, hgl4, cur, hc4, _, _, hs4, _⟩ := hO4.at0
    have hroom : kw * size Zn + (l.length - kw) * size Zn ≤ cur.size := by
     rw [hs4, ← Nat.add_mul]; exact Nat.mul_le_mul_right _ (by omega)
    obtain ⟨vs, hvl, hrun⟩ := run_clear (P := Tryz.prog) (c := cap - kw) elDZ.ht tyDZ (by decide) (o := kw * size Zn) (n := l.length - kw) hc4 hroom (by omega)
    have hvl' : vs.length = (l.length - kw) * size Zn := hvl
    refine ⟨_, _, hrun _ _ _ ?_, ⟨below_setRow (Below.refl _ _) hg _, fun b hb => by cases hb⟩, ?_⟩
    ·show Value.slice (if cap = _ then _ else _) _ _ = _
     rw [if_neg (by simp only [Int.toNat_natCast]; omega)]
     simp only [Int.toNat_natCast, Option.map_some, addr_addL, Nat.zero_add, Value.slice.injEq, true_and]
     exact ⟨rfl, trivial⟩
    have hml : (m.take kw).length = kw := by rw [List.length_take]; omega
    have hO4' := hO4
    rw [← i4] at hO4'
    have hOt := hO4'.take kw (by omega)
    rw [i6] at hOt
    refine Need.mk (by refine ⟨?_, ?_, ?_⟩ <;> (try simp only) <;> omega) ?_
    refine EndI.mk fun w5 h5 => ?_
    refine ⟨rfl, (hOt.setRow hc4 _ vs (by rw [hlk]; exact Nat.le_refl _) (by rw [hvl']; exact hroom)).below h5.go, ?_⟩
    exact grown_below (grown_trans g4 (grown_setRow w4 g _)) h5.go
  ·have hxy : x ≠ y := by simpa using hc2
   refine Need.mk (by simp only [inK]; omega) (EndI.mk fun w9 h9 => ⟨(k + 1, w9), Cov.au rfl rfl rfl rfl rfl, rfl, ⟨hlt, hV3.trans (h9.go.mono hV3.size), fun j x' y' hj hy' hx' => ?_⟩, by simp only; omega⟩)
   by_cases hjk : j = k
   ·subst hjk; rw [hy] at hy'; rw [hx] at hx'; injection hy' with e1; injection hx' with e2; subst e1; subst e2; exact hxy
   ·exact hall j x' y' (by omega) hy' hx'
 ·have hge : k + 1 = l.length := by simp only at hc; have := of_decide_eq_false hc; omega
  have hall' : Cv.cpt l = l := Cv.cpt_all fun j x y hy hx => hall j x y (by have := (List.getElem?_eq_some_iff.1 hx).1; omega) hy hx
  rw [hall']
  refine EndI.mk fun w9 h9 => ?_
  have h9' : Below w.heap.size w w9 := hV.trans (h9.go.mono hV.size)
  exact ⟨rfl, hO.below h9', below_grown h9' _⟩
theorem compactZ_own (l : List Zn) (v : Value) (base B : Nat) (w : World) (hB : B ≤ w.heap.size) (hBb : B ≤ base) (hO : Own 86 base w v l) (hlen : l.length ≤ 1000000) :
 Calls Tryz.prog 137 #[v] w fun e w' => ∃ v', e = .returned v' ∧ Below B w w' ∧ Own 86 base w' v' (Cv.cpt l) ∧ w.grownBy w' v.ownBlock := by
 have hl1 : l.length < 2 → Cv.cpt l = l := fun h => Cv.cpt_all fun j x y hy hx => by have := (List.getElem?_eq_some_iff.1 hx).1; omega
 obtain ⟨a, c, rfl⟩ := hO.form
 by_cases h2 : l.length < 2
 ·refine (compactZ_few (.slice a l.length c) l a c h2 w).mono ?_
  rintro e w' ⟨rfl, hB'⟩
  exact ⟨_, rfl, hB'.mono hB, by rw [hl1 h2]; exact hO.below hB', below_grown hB' _⟩
 ·obtain ⟨_, ⟨e, h0⟩ | ⟨g, cap, cur, e, hbg, _⟩⟩ := id hO
  ·omega
  injection e with e1 e2 e3
  subst e1; subst e3
  refine (compactZ_any l g c base (by omega) B w hB (by omega) hO hlen).mono ?_
  rintro e w' ⟨v, rfl, hB', rfl, hO', hg⟩
  exact ⟨_, rfl, hB', hO', hg⟩
theorem prune_any (l : List Zn) (a : Option Addr) (cap : Nat) (w : World) (hS : Sl w.heap.size w (.slice a l.length cap) l) :
 Calls Tryz.prog 94 #[.slice a l.length cap] w (Ret w fun v w' => ∃ a' c', v = .tuple #[.slice a' (Cv.prune l).1.length c', .int .i64 (Cv.prune l).2] ∧ Own 86 w.heap.size w' (.slice a' (Cv.prune l).1.length c') (Cv.prune l).1) := by
 refine fun_ret 9 w Tryz.func94 (args := [.val (.slice a l.length cap)]) rfl rfl ?_
 refine NewI.mk fun b2 hb2 => ?_
 apply CallI.use1
 ·exact fun w1 h1 => checked_any [⟨a, l.length, cap⟩] [l] _ _ w1 (shown_one (hS.go h1.below h1.below.size) rfl) (Sl.own (l := [(⟨a, l.length, cap⟩ : Svl)]) h1 0 rfl rfl rfl (Nat.le_refl _) (by simp [maxLen]))
 intro w1 v1 h1 hB1
 have hv1 : Below w.heap.size w v1 := h1.below.trans (hB1.mono h1.below.size)
 unfold Cv.prune
 refine Branch.mk (fun hc => ?_) (fun hc => ?_)
 ·have h0 : Cv.checked [l] ≠ 0 := by simpa using hc
  rw [if_pos h0]
  exact EndI.mk fun w3 h3 => ⟨_, _, rfl, Own.nil⟩
 have h0 : Cv.checked [l] = 0 := by simpa using hc
 rw [if_neg (by simp [h0])]
 obtain ⟨hl4, _⟩ := Cv.checked_one.1 h0
 apply CallI.mk
 intro w3 h3
 refine (callsIn_wide.1 (valuesZ_in 9 a l.length cap w3)).mono ?_
 rintro e w4 ⟨rfl, rfl⟩
 have hB4 : Below w3.heap.size w3 (w3.alloc (.cells #[.slice a l.length cap] 22)) := below_al (Below.refl _ _)
 refine ⟨h3.keep hB4, _, rfl, ?_⟩
 have hBs : (w3.alloc (.cells #[.slice a l.length cap] 22)).cell? ⟨w3.heap.size, 0, none⟩ = some (.slice a l.length cap) := by simp
 have hsz : w3.heap.size < (w3.alloc (.cells #[.slice a l.length cap] 22)).heap.size := by simp
 have hw3 : Below w.heap.size w w3 := h3.below
 have hw4 := hw3.trans (hB4.mono hw3.size)
 have hb3 := h3.lt b2 (by simp)
 have hw3s := hw3.size
 generalize w3.alloc (.cells #[.slice a l.length cap] 22) = w4 at hBs hsz hw4 hB4
 generalize hgs : w3.heap.size = Bs at hBs hsz hb3 hw3s
 refine CallI.mk fun w5 h5 => ?_
 have hg5 : Below w4.heap.size w4 w5 := at_below h5 (by simp)
 have hw5 := hw4.trans (hg5.mono hw4.size)
 refine (sortedZ_any Bs a cap l (by omega) w5 ((hg5.cell (p := ⟨Bs, 0, none⟩) hsz).trans hBs) (hS.go hw5 hw5.size)).mono ?_
 rintro e w6 ⟨v6, rfl, hB6, hO6⟩
 refine ⟨⟨hB6.mono hw3s, fun b hb => hB6.block b (by simp at hb; subst hb; exact hb3)⟩, _, rfl, ?_⟩
 have hw6 := hw5.trans (hB6.mono hw3s)
 have hg5s := hg5.size
 have hl6 : (Zo.sort l).length = l.length := Zo.sort_len l
 obtain ⟨a6, c6, rfl⟩ := hO6.form
 refine CallI.mk fun w7 h7 => ?_
 have hg7 : Below w6.heap.size w6 w7 := at_below h7 (by simp)
 refine (compactZ_own (Zo.sort l) _ w5.heap.size w5.heap.size w7 (Nat.le_trans hB6.size hg7.size) (Nat.le_refl _) (hO6.below hg7) (by omega)).mono ?_
 rintro e w8 ⟨v8, rfl, hB8, hO8, hg8⟩
 refine ⟨⟨hB8.mono hw5.size, fun b hb => hB8.block b (by simp at hb; subst hb; omega)⟩, _, rfl, ?_⟩
 have hw7 := hw6.trans (hg7.mono hw6.size)
 have hw8 := hw7.trans (hB8.mono hw5.size)
 change Own 86 w5.heap.size w8 v8 (Cv.sorted l) at hO8
 have hls : (Cv.sorted l).length ≤ l.length := Cv.sorted_len l
 obtain ⟨a8, c8, rfl⟩ := hO8.form
 generalize hso : Cv.sorted l = so at hO8 hls ⊢
 refine Need.mk (by simp only [inK]; omega) ?_
 refine LoopI.invC (α := Int × Value × List Zn × World) (fun y => [(6, .val (.int .i64 y.1)), (5, .val y.2.1)]) (fun y => y.2.2.2)
  (fun y => -1 ≤ y.1 ∧ y.1 < y.2.2.1.length ∧ y.2.2.1.length ≤ 4096 ∧ Own 86 w.heap.size y.2.2.2 y.2.1 y.2.2.1 ∧ Below w.heap.size w y.2.2.2 ∧ Cv.pgo so.length so = Cv.pgo (y.1 + 1).toNat y.2.2.1) (fun y => (y.1 + 1).toNat) ?_ ?_
 ·intro w9 h9
  have hg9 : Below w8.heap.size w8 w9 := at_below h9 (by simp)
  exact ⟨((so.length : Int) - 1, .slice a8 so.length c8, so, w9), Cov.au rfl rfl rfl rfl rfl, rfl, by show -1 ≤ (so.length : Int) - 1; omega, by show (so.length : Int) - 1 < so.length; omega, by show so.length ≤ 4096; omega, (hO8.below hg9).lower hw5.size, hw8.trans (hg9.mono hw8.size), by show _ = Cv.pgo ((so.length : Int) - 1 + 1).toNat so; rw [show ((so.length : Int) - 1 + 1).toNat = so.length by omega]⟩
 rintro ⟨t, ov, out, U⟩ ⟨i1, i2, i3, i4, i5, i6⟩
 simp only at i1 i2 i3 i4 i5 i6
 obtain ⟨ao, co, rfl⟩ := i4.form
 refine Branch.mk (fun hc2 => ?_) (fun hc2 => ?_)
 ·have ht0 : 0 ≤ t := by simp only at hc2; exact of_decide_eq_true hc2
  obtain ⟨m, rfl⟩ : ∃ m : Nat, t = m := ⟨t.toNat, by omega⟩
  have hm : m < out.length := by omega
  have hgm := List.getElem?_eq_getElem (l := out) (i := m) hm
  generalize out[m] = z at hgm
  rw [show ((m : Int) + 1).toNat = m + 1 by omega, Cv.pgo_succ hgm] at i6
  apply CallI.use
  focus (exact fun w10 h10 => cloneZ_any out ao co w10 ((i4.sl).go h10.go h10.size) (by omega))
  rintro v w10 v10 h10 hB10 hO10
  have hg10 : Below U.heap.size U w10 := at_below h10 (by simp)
  have hU10 := i5.trans (hg10.mono i5.size)
  obtain ⟨ag, cg, rfl⟩ := hO10.form
  obtain ⟨g, rfl⟩ : ∃ g, ag = some ⟨g, 0, none⟩ := by
   obtain ⟨_, ⟨e, h0⟩ | ⟨g, cap, cur, e, _⟩⟩ := id hO10
   ·omega
   ·injection e with e1 e2 e3; exact ⟨g, e1⟩
  have hgb := (hO10.lt g rfl).1
  refine Need.mk (by simp only [inK]; omega) ?_
  refine CallI.mk fun w11 h11 => ?_
  have hg11 : Below v10.heap.size v10 w11 := at_below h11 (by simp)
  refine (deleteZ_any out g cg w10.heap.size m (m + 1) _ rfl (by omega) (by omega) w10.heap.size w11 (Nat.le_trans hB10.size hg11.size) hgb (hO10.below hg11) (by omega)).mono ?_
  rintro e w12 ⟨v, rfl, hB12, rfl, hO12, _⟩
  refine ⟨⟨hB12.mono hU10.size, fun b hb => hB12.block b (by have := h10.lt b hb; exact this)⟩, _, rfl, ?_⟩
  have hU12 := (hU10.trans (hB10.mono hU10.size)).trans (hg11.mono (Nat.le_trans hU10.size hB10.size)) |>.trans (hB12.mono hU10.size)
  have hel : (out.take m ++ out.drop (m + 1)) = out.eraseIdx m := (List.eraseIdx_eq_take_drop_succ out m).symm
  have hell : m + (out.length - (m + 1)) = (out.eraseIdx m).length := by rw [List.length_eraseIdx, if_pos hm]; omega
  rw [hel, hell] at hO12
  rw [hell]
  have hUU : Below U.heap.size U w12 := ((hg10.trans (hB10.mono hg10.size)).trans (hg11.mono (Nat.le_trans hg10.size hB10.size))).trans (hB12.mono hg10.size)
  have j4 := i4.below hUU
  refine (j4.sl).idx hgm fun ad had => ?_
  refine (j4.sl).ld hgm had (Below.refl _ _) (by simp) ?_
  apply CallI.use1
  focus (exact fun w13 h13 => cin_any z (out.eraseIdx m) (some ⟨g, 0, none⟩) cg w13 ((hO12.below (at_below h13 (by simp))).sl))
  intro w13 v13 h13 hB13
  have hg13 : Below w12.heap.size w12 w13 := at_below h13 (by simp)
  have hU13 : Below w12.heap.size w12 v13 := hg13.trans (hB13.mono hg13.size)
  generalize hI : Cv.in_ z (out.eraseIdx m) = I at *
  obtain ⟨is, e⟩ := I
  simp only at i6
  refine Branch.mk (fun hc3 => ?_) (fun hc3 => ?_)
  ·have he : e ≠ 0 := by simpa using hc3
   rw [if_pos he] at i6
   rw [i6]
   exact EndI.mk fun w9 h9 => ⟨_, _, rfl, Own.nil⟩
  have he : e = 0 := by simpa using hc3
  subst he
  rw [if_neg (by simp)] at i6
  refine Branch.mk (fun hc4 => ?_) (fun hc4 => ?_)
  ·have his : is = true := by simpa using hc4
   subst his
   rw [if_pos rfl] at i6
   refine Need.mk (by simp only [inK]; omega) (EndI.mk fun w9 h9 => ⟨((m : Int) - 1, .slice (some ⟨g, 0, none⟩) (out.eraseIdx m).length cg, out.eraseIdx m, w9), Cov.au rfl rfl rfl rfl rfl, rfl, ?_, ?_⟩)
   ·have hg9 : Below v13.heap.size v13 w9 := at_below h9 (by simp)
    have hle : (out.eraseIdx m).length = out.length - 1 := by rw [List.length_eraseIdx, if_pos hm]
    refine ⟨by simp only; omega, by simp only; omega, by simp only; omega, ?_, ?_, ?_⟩
    ·exact ((hO12.below hU13).below hg9).lower hU10.size
    ·exact (hU12.trans (hU13.mono hU12.size)).trans (hg9.mono (Nat.le_trans hU12.size hU13.size))
    ·simp only; rw [i6, show ((m : Int) - 1 + 1).toNat = m by omega]
   ·simp only; omega
  ·have his : is = false := by simpa using hc4
   subst his
   rw [if_neg (by simp)] at i6
   refine Need.mk (by simp only [inK]; omega) (EndI.mk fun w9 h9 => ⟨((m : Int) - 1, .slice ao out.length co, out, w9), Cov.au rfl rfl rfl rfl rfl, rfl, ?_, ?_⟩)
   ·have hg9 : Below v13.heap.size v13 w9 := at_below h9 (by simp)
    refine ⟨by simp only; omega, by simp only; omega, by simp only; omega, ?_, ?_, ?_⟩
    ·exact (j4.below hU13).below hg9
    ·exact (hU12.trans (hU13.mono hU12.size)).trans (hg9.mono (Nat.le_trans hU12.size hU13.size))
    ·simp only; rw [i6, show ((m : Int) - 1 + 1).toNat = m by omega]
   ·simp only; omega
 ·have htm : t = -1 := by simp only at hc2; have := of_decide_eq_false hc2; omega
  subst htm
  have hp : Cv.pgo so.length so = (out, 0) := i6
  rw [hp]
  exact EndI.mk fun w9 h9 => ⟨_, _, rfl, i4.below (at_below h9 (by simp))⟩
end Go.Proofs.YtanhnllkccldhaaGreat
namespace Go.Proofs.YtanhnllkccldhaaGreat
set_option linter.unusedVariables false
open Go.RowKit Go.Proofs.YtanhnllkccldhaaGreat.Eng Enc Builtin
theorem run_append_at {P : Program} {w : World} {t ty e : TypeId} {sz bytes : Nat} (hE : ElOk P t e sz bytes) (base : Nat) (v : Value) (n : Nat) (xs : List Value) (hown : w.ownsRow base e sz v n xs)
 (sv : Value) (m : Nat) (news : List Value) (hsrc : SrcC w sv sz m news) (h1 : ∀ u ∈ news, u.oneCell' = true) (h63 : n + m ≤ maxLen) (hbytes : (n + m) * bytes ≤ 140737488355328) (hbase : base ≤ w.heap.size) :
 ∃ v' w', (Builtin.append_ #[t, t] ty #[v, sv]).run P w = .ok v' w' ∧ w'.ownsRow base e sz v' (n + m) (xs ++ news) ∧ w.grownBy w' v.ownBlock ∧ (v'.ownBlock = v.ownBlock ∨ v'.ownBlock = some w.heap.size) := by
 obtain ⟨ht, ⟨i, z, hi, hz, hs, hb, hzs⟩, hp⟩ := hE
 obtain ⟨hl, ⟨rfl, rfl⟩ | ⟨ad, c, rfl, hc⟩⟩ := hsrc
 ·have hn : news = [] := List.eq_nil_of_length_eq_zero (by simpa using hl)
  subst hn
  exact ⟨v, w, run_append_owned_none w base t ty e i sz ht hi v n xs hown, by simpa using hown, ⟨rfl, rfl, rfl, Nat.le_refl _, fun _ _ _ => rfl⟩, .inl rfl⟩
 ·obtain ⟨v', w', a1, a2, a3, _, a4⟩ := run_append_own_at w base t ty e i z sz bytes ht hi hz hs hb hzs hp v n xs hown ad m c news hl hc h1 h63 hbytes hbase
  exact ⟨v', w', a1, a2, a3, a4⟩
theorem GenN.appAt {α : Type} [Enc α] {P : Program} {w0 : Base} {kp : List Nat → World → World → Prop} {hp : List LB} {r L : List Nat} {w : World} {K : Value → World → Prop} {t ty e : TypeId} {bytes : Nat} {consts : Array Bool} {v sv : Value}
 (hE : ElOk P t e (size α) bytes) (l m : List α) (base : Nat) (hown : ∀ w1, At w0 hp r L w w1 → Own e base w1 v l) (hsrc : ∀ w1, At w0 hp r L w w1 → SrcC w1 sv (size α) m.length (cellsL m))
 (h63 : l.length + m.length ≤ maxLen) (hbytes : (l.length + m.length) * bytes ≤ 140737488355328) (hbase : ∀ w1, At w0 hp r L w w1 → base ≤ w1.heap.size)
 (hkp : ∀ w1 w2, At w0 hp r L w w1 → w1.grownBy w2 v.ownBlock → kp r w1 w2) (hk : ∀ v' w1 w2, At w0 hp r L w w1 → w1.grownBy w2 v.ownBlock → Own e base w2 v' (l ++ m) → (v'.ownBlock = v.ownBlock ∨ v'.ownBlock = some w1.heap.size) → K v' w2) :
 GenN P w0 kp (builtin .append #[t, t] ty consts #[v, sv]) hp r L w K := ⟨fun w1 h1 => by
 obtain ⟨v', w2, hrun, ho, hg, hat⟩ := run_append_at (ty := ty) hE base v _ _ (hown w1 h1) sv _ _ (hsrc w1 h1) (cellsL_one m) h63 hbytes (hbase w1 h1)
 refine ⟨v', w2, ?_, hkp w1 w2 h1 hg, hk v' w1 w2 h1 hg ?_ hat⟩
 ·simp only [builtin, Sem.run_bind, hrun, Result.andThen, Sem.run_pure]
 ·unfold Own; rw [cellsL_append, List.length_append]; exact ho⟩
end Go.Proofs.YtanhnllkccldhaaGreat
namespace Go.Proofs.YtanhnllkccldhaaGreat
set_option linter.unusedVariables false
set_option linter.unusedSimpArgs false
set_option maxRecDepth 100000
open Go.RowKit Go.Proofs.YtanhnllkccldhaaGreat.Eng Enc
theorem any_flat (p : Zn → Bool) (ls : List (List Zn)) : ls.any (fun l => l.any p) = ls.flatten.any p := by
 induction ls with
 | nil => rfl
 | cons x m ih => rw [List.any_cons, List.flatten_cons, List.any_append, ih]
theorem zschecked_any (ss : List Svl) (ls : List (List Zn)) (h8 : ls.length ≤ 8) (a : Option Addr) (cap : Nat) (w : World) (hA : Shown w.heap.size w ss ls) (hS : Sl w.heap.size w (.slice a ss.length cap) ss) :
 Calls Tryz.prog 35 #[.slice a ss.length cap] w fun e w' => e = .returned (.int .i64 (Cv.checked ls)) ∧ Below w.heap.size w w' := by
 refine fun_eq 0 w Tryz.func35 (args := [.val (.slice a ss.length cap)]) rfl rfl ?_
 have hA' := hA
 obtain ⟨hlen, hA⟩ := hA
 have hform := hS.form
 obtain ⟨_, _, hfe, hcap1, hcap2, _⟩ := hform
 injection hfe with _ _ hfe
 subst hfe
 unfold maxLen at hcap2
 unfold Cv.checked
 refine LoopI.invC (α := Nat × World) (fun y => [(10, .val (.int .i64 y.1))]) (fun y => y.2) (fun y => y.1 ≤ ss.length ∧ Below w.heap.size w y.2 ∧ ∀ l, l ∈ ls.take y.1 → l.length ≤ 4096) (fun y => ss.length - y.1) ?_ ?_
 ·intro w1 h1
  exact ⟨(0, w1), Cov.au rfl rfl rfl rfl rfl, rfl, Nat.zero_le _, h1.below, by simp⟩
 rintro ⟨k, W⟩ ⟨hk, hW, hall⟩
 refine Branch.mk (fun hc => ?_) (fun hc => ?_)
 ·have hlt : k < ss.length := by simpa using hc
  have hg := List.getElem?_eq_getElem (l := ss) (i := k) hlt
  have hl := List.getElem?_eq_getElem (l := ls) (i := k) (by omega)
  obtain ⟨hs1, hs2⟩ := hA k _ _ hg hl
  generalize ls[k]'(by omega) = l at hl hs1 hs2
  have hSW := hS.go hW hW.size
  refine hSW.idx hg fun ad had => ?_
  refine hSW.ldv hg rfl had (Below.refl _ _) (by simp) ?_
  refine Branch.mk (fun hc2 => ?_) (fun hc2 => ?_)
  ·have h4 : 4096 < l.length := by have : (4096 : Int) < (ss[k]'hlt).len := by simpa using hc2
                                   omega
   rw [if_pos (by rw [List.any_eq_true]; exact ⟨l, List.mem_of_getElem? hl, by simpa using h4⟩)]
   exact EndI.mk fun w3 h3 => rfl
  ·have hle : l.length ≤ 4096 := by have : ¬ (4096 : Int) < (ss[k]'hlt).len := by simpa using hc2
                                    omega
   refine Need.mk (by simp only [inK]; omega) (EndI.mk fun w7 h7 => ⟨(k + 1, w7), Cov.au rfl rfl rfl rfl rfl, rfl, ⟨hlt, h7.below, fun y hy => ?_⟩, by simp only; omega⟩)
   have e : ls.take (k + 1) = ls.take k ++ [l] := by rw [List.take_add_one, hl]; rfl
   rw [e] at hy
   rcases List.mem_append.1 hy with hy | hy
   ·exact hall y hy
   ·rw [List.mem_singleton.1 hy]; exact hle
 have hge : k = ls.length := by have : ¬ k < ss.length := by simpa using hc
                                omega
 subst hge
 rw [List.take_length] at hall
 rw [if_neg (by rw [List.any_eq_true]; rintro ⟨x, hx, h⟩; have := hall x hx; simp at h; omega)]
 have hfl : ls.flatten.length ≤ 100000 := by
  have : ∀ (m : List (List Zn)), (∀ l, l ∈ m → l.length ≤ 4096) → m.flatten.length ≤ m.length * 4096 := fun m => by
   induction m with
   | nil => intro _; simp
   | cons x m ih =>
     intro h
     have h1 := ih fun l hl => h l (List.mem_cons_of_mem _ hl)
     have h2 := h x (by simp)
     rw [List.flatten_cons, List.length_append, List.length_cons, Nat.succ_mul]
     omega
  have h1 := this ls hall
  have h2 : ls.length * 4096 ≤ 8 * 4096 := Nat.mul_le_mul_right _ h8
  omega
 clear hc hk
 have hW : Below w.heap.size w W := hW
 apply CallI.use
 focus (exact fun w2 h2 => concat_any ss ls hfl a cap w2 ⟨hlen, fun k s l hs hl => ⟨(hA k s l hs hl).1.go h2.below h2.below.size, (hA k s l hs hl).2⟩⟩ (hS.go h2.below h2.below.size))
 rintro v w2 v2 h2 hB2 ⟨a2, c2, rfl, hO2⟩
 have hv2 : Below w.heap.size w v2 := h2.below.trans (hB2.mono h2.below.size)
 rw [any_flat]
 generalize ls.flatten = m at *
 refine LoopI.invC (α := Nat × World) (fun y => [(21, .val (.int .i64 y.1))]) (fun y => y.2) (fun y => y.1 ≤ m.length ∧ Below w.heap.size w y.2 ∧ Below v2.heap.size v2 y.2 ∧ (m.take y.1).any Cv.odd = false) (fun y => m.length - y.1) ?_ ?_
 ·intro w1 h1
  exact ⟨(0, w1), Cov.au rfl rfl rfl rfl rfl, rfl, Nat.zero_le _, h1.below, at_belowM h1 (by simp), by simp⟩
 rintro ⟨k, V⟩ ⟨hk, hV, hV2, hall2⟩
 simp only at hk hV hV2 hall2
 refine Branch.mk (fun hc => ?_) (fun hc => ?_)
 ·have hlt : k < m.length := by simpa using hc
  have hg := List.getElem?_eq_getElem (l := m) (i := k) hlt
  generalize m[k] = x at hg
  have hSV := (hO2.below hV2).sl
  refine hSV.idx hg fun ad had => ?_
  refine hSV.ld hg had (Below.refl _ _) (by simp) ?_
  refine NewI.mk fun b1 hb1 => ?_
  apply CallI.use1
  focus (exact fun w4 h4 => zcheck_any x w4)
  intro w4 v4 h4 hB4
  refine Branch.mk (fun hc2 => ?_) (fun hc2 => ?_)
  ·have h1 : Zo.chk x ≠ 0 := by simpa using hc2
   have h8 : Zo.chk x = 8 := by unfold Zo.chk at h1 ⊢; split at h1 <;> simp_all
   rw [if_pos (by rw [List.any_eq_true]; exact ⟨x, List.mem_of_getElem? hg, by unfold Cv.odd; simpa using h1⟩), h8]
   exact EndI.mk fun w9 h9 => rfl
  ·have h1 : Zo.chk x = 0 := by simpa using hc2
   refine Need.mk (by simp only [inK]; omega) (EndI.mk fun w9 h9 => ⟨(k + 1, w9), Cov.au rfl rfl rfl rfl rfl, rfl, ⟨hlt, h9.below, (hV2.trans ((at_belowM h4 (by simp <;> omega)).mono hV2.size)).trans ((hB4.mono (Nat.le_trans hV2.size h4.size)).trans ((at_belowM h9 (by simp <;> omega)).mono (Nat.le_trans hV2.size (Nat.le_trans h4.size hB4.size)))), ?_⟩, by simp only; omega⟩)
   simp only
   rw [List.take_add_one, hg, List.any_append, hall2]
   simp [Cv.odd, h1]
 ·have hge : k = m.length := by have : ¬ k < m.length := by simpa using hc
                                omega
  subst hge
  rw [List.take_length] at hall2
  rw [if_neg (by rw [hall2]; decide)]
  exact EndI.mk fun w9 h9 => rfl
theorem zsof_any (l : List Zn) (a : Option Addr) (cap : Nat) (w : World) (hS : Sl w.heap.size w (.slice a l.length cap) l) :
 Calls Tryz.prog 54 #[.slice a l.length cap] w (Ret w fun v w' => ∃ a' c', v = .tuple #[.slice a' (Cv.prune l).1.length c', .int .i64 (Cv.prune l).2] ∧ Own TZ w.heap.size w' (.slice a' (Cv.prune l).1.length c') (Cv.prune l).1) := by
 refine fun_ret 0 w Tryz.func54 (args := [.val (.slice a l.length cap)]) rfl rfl ?_
 apply CallI.use
 focus (exact fun w2 h2 => prune_any l a cap w2 (hS.go h2.below h2.below.size))
 rintro v w2 v2 h2 hB2 ⟨a2, c2, rfl, hO2⟩
 exact EndI.mk fun w9 h9 => ⟨a2, c2, rfl, (hO2.lower h2.below.size).below (at_belowM h9 (by simp))⟩
namespace Zs
def come (f : Zn → Zn × Int) : List Zn → List Zn → List Zn × Int
 | out, [] => Cv.prune out
 | out, x :: l => if (f x).2 = 0 then come f (out ++ [(f x).1]) l else if (f x).2 = 6 then come f out l else ([], (f x).2)
theorem come_cons (f : Zn → Zn × Int) (out l : List Zn) (x : Zn) : come f out (x :: l) = if (f x).2 = 0 then come f (out ++ [(f x).1]) l else if (f x).2 = 6 then come f out l else ([], (f x).2) := rfl
end Zs
def KeptBut (row : Option Nat) (w W : World) : Prop := w.heap.size ≤ W.heap.size ∧ ∀ k, k < w.heap.size → some k ≠ row → W.heap[k]? = w.heap[k]?
theorem KeptBut.refl (row : Option Nat) (w : World) : KeptBut row w w := ⟨Nat.le_refl _, fun _ _ _ => rfl⟩
theorem KeptBut.go {row : Option Nat} {w W X : World} (h : KeptBut row w W) (hB : Below W.heap.size W X) : KeptBut row w X :=
 ⟨Nat.le_trans h.1 hB.size, fun k hk hr => (hB.block k (Nat.lt_of_lt_of_le hk h.1)).trans (h.2 k hk hr)⟩
theorem KeptBut.grown {row r2 : Option Nat} {w W X : World} (h : KeptBut row w W) (hg : W.grownBy X r2) (hr : ∀ k, r2 = some k → some k = row ∨ w.heap.size ≤ k) : KeptBut row w X :=
 ⟨Nat.le_trans h.1 hg.size, fun k hk hn => (hg.block k (Nat.lt_of_lt_of_le hk h.1) (fun e => by rcases hr k e.symm with e2 | e2; exact hn e2; omega)).trans (h.2 k hk hn)⟩
theorem KeptBut.at {w0 : Base} {hp : List LB} {r L : List Nat} {row : Option Nat} {w W X : World} (h : KeptBut row w W) (h1 : At w0 hp r L W X) (hL : ∀ b, b ∈ L → w.heap.size ≤ b) : KeptBut row w X :=
 ⟨Nat.le_trans h.1 h1.size, fun k hk hr => (h1.step k (Nat.lt_of_lt_of_le hk h.1) (fun hm => by have := hL k hm; omega)).trans (h.2 k hk hr)⟩
theorem Own.atNe {α : Type} [Enc α] {w0 : Base} {hp : List LB} {r L : List Nat} {e : TypeId} {base : Nat} {w w1 : World} {v : Value} {l : List α} (h : Own e base w v l) (h1 : At w0 hp r L w w1) (hL : ∀ g, v.ownBlock = some g → g ∉ L) : Own e base w1 v l := by
 obtain ⟨hl, h0 | ⟨g, cap, cur, e1, e2, e3, e4⟩⟩ := id h
 ·exact ⟨hl, .inl h0⟩
 ·have hg := (Array.getElem?_eq_some_iff.1 e3).1
  exact ⟨hl, .inr ⟨g, cap, cur, e1, e2, (h1.step g hg (hL g (by rw [e1]; rfl))).trans e3, e4⟩⟩
theorem come_any (f : Zn → Zn × Int) (fid : FuncId) (caps : Array Value) (en : Enters Tryz.prog fid) (out l : List Zn) (ov : Value) (a : Option Addr) (cap : Nat) (base : Nat) (ho : out.length ≤ 4096) (hl : l.length ≤ 4096) (w : World) (hb : base ≤ w.heap.size) (hO : Own TZ base w ov out)
 (hS : Sl base w (.slice a l.length cap) l)
 (hcall : ∀ x W, x ∈ l → KeptBut ov.ownBlock w W → Calls Tryz.prog fid (val x :: caps.toList).toArray W fun e W' => e = .returned (.tuple #[.agg #[.int .i64 (f x).1.a, .int .i64 (f x).1.b, .int .i64 (f x).1.c, .int .i64 (f x).1.d, .int .i64 (f x).1.e, .int .i64 (f x).1.f], .int .i64 (f x).2]) ∧ Below W.heap.size W W') :
 Calls Tryz.prog 154 #[ov, .slice a l.length cap, .func (.func fid) #[] caps] w fun e w' => ∃ v, e = .returned v ∧ Below base w w' ∧ (KeptBut ov.ownBlock w w' ∧ ∃ a' c', v = .tuple #[.slice a' (Zs.come f out l).1.length c', .int .i64 (Zs.come f out l).2] ∧ Own TZ w.heap.size w' (.slice a' (Zs.come f out l).1.length c') (Zs.come f out l).1) := by
 obtain ⟨ao, co, rfl⟩ := hO.form
 refine fun_at 0 base w hb Tryz.func154 (args := [.val (.slice ao out.length co), .val (.slice a l.length cap), .val (.func (.func fid) #[] caps)]) rfl rfl ?_
 obtain ⟨_, _, hfe, hcap1, hcap2, _⟩ := hS.form
 injection hfe with _ _ hfe
 subst hfe
 unfold maxLen at hcap2
 generalize hrow : (Value.slice ao out.length co).ownBlock = row at *
 refine LoopI.invC (α := Nat × World × Value × List Zn) (fun y => [(14, .val (.int .i64 y.1)), (0, .val y.2.2.1)]) (fun y => y.2.1)
  (fun y => y.1 ≤ l.length ∧ Below base w y.2.1 ∧ KeptBut row w y.2.1 ∧ Own TZ base y.2.1 y.2.2.1 y.2.2.2 ∧ (∀ k, y.2.2.1.ownBlock = some k → some k = row ∨ w.heap.size ≤ k) ∧ y.2.2.2.length ≤ 4096 + y.1 ∧ Zs.come f out l = Zs.come f y.2.2.2 (l.drop y.1)) (fun y => l.length - y.1) ?_ ?_
 ·intro w1 h1
  have g1 := at_belowM h1 (by simp)
  exact ⟨(0, w1, .slice ao out.length co, out), Cov.au rfl rfl rfl rfl rfl, rfl, Nat.zero_le _, h1.below, (KeptBut.refl row w).go g1, hO.below g1, fun k hk => .inl (by rw [← hrow]; exact hk.symm), by simp only; omega, rfl⟩
 rintro ⟨k, U, tv, ou⟩ ⟨hk, hU, hK, hOU, hrw, hlen, heq⟩
 simp only at hk hU hK hOU hrw hlen heq
 refine Branch.mk (fun hc => ?_) (fun hc => ?_)
 ·have hlt : k < l.length := by simpa using hc
  have hg := List.getElem?_eq_getElem (l := l) (i := k) hlt
  have hdr : l.drop k = l[k]'hlt :: l.drop (k + 1) := List.drop_eq_getElem_cons hlt
  have hmem := List.getElem_mem hlt
  generalize l[k]'hlt = x at hg hdr hmem
  rw [hdr] at heq
  have hSU := hS.below hU
  refine hSU.idx hg fun ad had => ?_
  refine hSU.ld hg had (Below.refl _ _) (by simp) ?_
  refine NewI.mk fun b1 hb1 => ?_
  refine Need.mk en ?_
  apply CallI.use1
  focus (exact fun w2 h2 => hcall x w2 hmem (hK.go (at_belowM h2 (by simp <;> omega))))
  intro w2 v2 h2 hB2
  have g2 := at_belowM h2 (by simp <;> omega)
  refine NewI.mk fun b2 hb2 => ?_
  have hKv := (hK.go g2).go hB2
  have hOv := (hOU.below g2).below hB2
  have hUv : Below base w v2 := h2.below.trans (hB2.mono (Nat.le_trans hb h2.below.size))
  have hub : U.heap.size ≤ v2.heap.size := Nat.le_trans g2.size hB2.size
  have hb1' : U.heap.size ≤ b1 := hb1
  have hb2' : v2.heap.size ≤ b2 := hb2
  rw [Zs.come_cons] at heq
  refine Branch.mk (fun hc2 => ?_) (fun hc2 => ?_)
  ·have h0 : (f x).2 = 0 := of_decide_eq_true hc2
   rw [if_pos h0] at heq
   refine NewI.mk fun b3 hb3 => ?_
   have hb3' : v2.heap.size ≤ b3 := hb3
   have hnr : ∀ g, tv.ownBlock = some g → base ≤ g ∧ g ∉ [b1, b2, b3] := fun g hg => by
    have h5 := hOU.lt g hg
    refine ⟨h5.1, fun hm => ?_⟩
    simp only [List.mem_cons, List.not_mem_nil, or_false] at hm
    omega
   have hbv : base ≤ v2.heap.size := Nat.le_trans hb (Nat.le_trans hK.1 hub)
   refine GenN.appAt (α := Zn) elZ ou [(f x).1] base (fun w5 h5 => hOv.atNe h5 (fun g hg hm => (hnr g hg).2 (by simp at hm ⊢ <;> omega))) (fun w5 h5 => src_own h5 2 rfl rfl rfl rfl) (by unfold maxLen; simp; omega) (by simp; omega) (fun w5 h5 => Nat.le_trans hbv h5.size) (fun w5 w6 h5 hg => keep_grown h5 hg hnr) fun v1 w5 w6 h5 hg hO1 hat => ?_
   have hwU : w.heap.size ≤ U.heap.size := hK.1
   have hK5 := hKv.at h5 (fun b hb => by simp at hb <;> omega)
   have hK6 := hK5.grown hg hrw
   have hs5 := h5.size
   have hs6 := hg.size
   refine Need.mk (by simp only [inK]; omega) (EndI.mk fun w7 h7 => ?_)
   have hr1 : ∀ g, v1.ownBlock = some g → (some g = row ∨ w.heap.size ≤ g) ∧ g ∉ [b1, b2, b3] := fun g hgg => by
    rcases hat with e | e
    ·rw [e] at hgg; exact ⟨hrw g hgg, (hnr g hgg).2⟩
    ·rw [e] at hgg
     injection hgg with hgg
     subst hgg
     exact ⟨.inr (by omega), fun hm => by have := h5.lt _ hm; omega⟩
   exact ⟨(k + 1, w7, v1, ou ++ [(f x).1]), Cov.au rfl rfl rfl rfl rfl, rfl, ⟨hlt, h7.below, hK6.at h7 (fun b hb => by simp at hb <;> omega), hO1.atNe h7 (fun g hgg hm => (hr1 g hgg).2 (by simp at hm ⊢ <;> omega)), fun g hgg => (hr1 g hgg).1, by simp; omega, heq⟩, by simp only; omega⟩
  have h0 : ¬ (f x).2 = 0 := of_decide_eq_false hc2
  rw [if_neg h0] at heq
  refine Branch.mk (fun hc3 => ?_) (fun hc3 => ?_)
  ·have h6 : (f x).2 = 6 := of_decide_eq_true hc3
   rw [if_pos h6] at heq
   refine Need.mk (by simp only [inK]; omega) (EndI.mk fun w7 h7 => ?_)
   have hwU : w.heap.size ≤ U.heap.size := hK.1
   exact ⟨(k + 1, w7, tv, ou), Cov.au rfl rfl rfl rfl rfl, rfl, ⟨hlt, h7.below, hKv.at h7 (fun b hb => by simp at hb <;> omega), hOv.atNe h7 (fun g hgg hm => by have := (hOU.lt g hgg).2; simp at hm; omega), hrw, by simp only; omega, heq⟩, by simp only; omega⟩
  ·have h6 : ¬ (f x).2 = 6 := of_decide_eq_false hc3
   rw [if_neg h6] at heq
   rw [heq]
   have hwU : w.heap.size ≤ U.heap.size := hK.1
   exact EndI.mk fun w7 h7 => ⟨hKv.at h7 (fun b hb => by simp at hb <;> omega), _, _, rfl, Own.nil⟩
 ·have hge : k = l.length := by have : ¬ k < l.length := by simpa using hc
                                omega
  subst hge
  rw [List.drop_length] at heq
  change Zs.come f out l = Cv.prune ou at heq
  rw [heq]
  obtain ⟨at_, ct, rfl⟩ := hOU.form
  apply CallI.use
  focus (exact fun w2 h2 => zsof_any ou at_ ct w2 (hOU.below (at_belowM h2 (by simp))).sl)
  rintro v w2 v2 h2 hB2 ⟨a2, c2, rfl, hO2⟩
  have hK2 := (hK.go (at_belowM h2 (by simp))).go hB2
  exact EndI.mk fun w9 h9 => ⟨hK2.go (at_belowM h9 (by simp)), a2, c2, rfl, (hO2.lower (Nat.le_trans hK.1 h2.size)).below (at_belowM h9 (by simp))⟩
end Go.Proofs.YtanhnllkccldhaaGreat
namespace Go.Proofs.YtanhnllkccldhaaGreat
set_option linter.unusedVariables false
namespace Dbm
def lessr (L M : List Int) : List Int := (List.range L.length).map fun q => min (L[q]?.getD 0) (M[q]?.getD 0)
theorem lessr_len (L M : List Int) : (lessr L M).length = L.length := by simp [lessr]
def lessTo (L M : List Int) (k : Nat) : List Int := (List.range L.length).map fun q => if q < k then min (L[q]?.getD 0) (M[q]?.getD 0) else L[q]?.getD 0
theorem lessTo_zero (L M : List Int) : lessTo L M 0 = L := by
 apply List.ext_getElem
 ·simp [lessTo]
 ·intro i h1 h2; simp [lessTo, h2]
theorem lessTo_all (L M : List Int) : lessTo L M L.length = lessr L M := by
 unfold lessTo lessr
 exact List.map_congr_left fun q hq => by rw [if_pos (List.mem_range.1 hq)]
theorem lessTo_get (L M : List Int) {k : Nat} (hk : k < L.length) : (lessTo L M k)[k]?.getD 0 = L[k]?.getD 0 := by
 unfold lessTo
 rw [List.getElem?_map, List.getElem?_range hk]
 simp
theorem lessTo_succ (L M : List Int) {k : Nat} (hk : k < L.length) : lessTo L M (k + 1) = (lessTo L M k).set k (min (L[k]?.getD 0) (M[k]?.getD 0)) := by
 apply List.ext_getElem
 ·simp [lessTo]
 ·intro i h1 h2
  have hi : i < L.length := by simpa [lessTo] using h1
  rw [List.getElem_set]
  simp only [lessTo, List.getElem_map, List.getElem_range]
  by_cases e : k = i
  ·subst e; rw [if_pos rfl, if_pos (by omega)]
  ·rw [if_neg e]
   by_cases h : i < k
   ·rw [if_pos h, if_pos (by omega)]
   ·rw [if_neg h, if_neg (by omega)]
end Dbm
namespace Tg
def enumF (M : List Int) : Nat → List Rt
 | 0 => []
 | k + 1 => enumF M k ++ [⟨(k : Nat), M[k]?.getD 0⟩]
theorem enumF_len (M : List Int) (k : Nat) : (enumF M k).length = k := by
 induction k with
 | zero => rfl
 | succ k ih => simp [enumF, ih]
theorem enumF_mem {M : List Int} {k : Nat} {x : Rt} (h : x ∈ enumF M k) : 0 ≤ x.num ∧ x.num < k := by
 induction k with
 | zero => cases h
 | succ k ih =>
   rcases List.mem_append.1 h with h | h
   ·have := ih h; omega
   ·rw [List.mem_singleton.1 h]; simp only; omega
theorem more_enum (L M : List Int) (k : Nat) (hk : k ≤ L.length) : more L (enumF M k) = Dbm.lessTo L M k := by
 induction k with
 | zero => rw [Dbm.lessTo_zero]; rfl
 | succ k ih =>
   rw [Dbm.lessTo_succ L M (by omega), ← ih (by omega)]
   show (enumF M k ++ [_]).foldl _ L = _
   rw [List.foldl_append]
   show (more L (enumF M k)).set _ (min ((more L (enumF M k))[_]?.getD 0) _) = _
   rw [Int.toNat_natCast, ih (by omega), Dbm.lessTo_get L M (by omega)]
def meet (n : Int) (L : List Int) (m : Int) (M : List Int) : Int × List Int × Int :=
 if Dbm.chk n L ≠ 0 ∨ Dbm.chk m M ≠ 0 then (0, [], 8) else if n ≠ m then (0, [], 40) else Dbm.close n (Dbm.lessr L M)
end Tg
end Go.Proofs.YtanhnllkccldhaaGreat
namespace Go.Proofs.YtanhnllkccldhaaGreat
set_option linter.unusedVariables false
set_option linter.unusedSimpArgs false
set_option maxRecDepth 100000
open Go.RowKit Go.Proofs.YtanhnllkccldhaaGreat.Eng Enc
namespace Cmp
def pl (c0 c1 c2 : Nat) (k : Nat) : Nat := 4 * (if k / 3 = 0 then c0 else if k / 3 = 1 then c1 else c2) + (if k % 3 = 0 then c0 else if k % 3 = 1 then c1 else c2)
def put (c0 c1 c2 : Nat) (M L : List Int) : Nat → List Int
 | 0 => L
 | k + 1 => (put c0 c1 c2 M L k).set (pl c0 c1 c2 k) (min ((put c0 c1 c2 M L k)[pl c0 c1 c2 k]?.getD 0) (M[k]?.getD 0))
theorem put_len (c0 c1 c2 : Nat) (M L : List Int) (k : Nat) : (put c0 c1 c2 M L k).length = L.length := by
 induction k with
 | zero => rfl
 | succ k ih => simp [put, ih]
end Cmp
theorem Zo.chk_mat {z : Zn} (h : Zo.chk z = 0) : Zo.mat z = (3, Zo.matL z, 0) := by
 have hk := Zo.chk_eq.1 h
 unfold Zo.mat
 unfold Dbm.close at hk
 split at hk
 ·rename_i h0; rw [if_pos h0]
 ·simp at hk
theorem three_at (x y v : Int) (i : Nat) (w : World) (h : i < 3) : (Instr.index 200 (.agg #[.int .i64 x, .int .i64 y, .int .i64 v]) (.int .i64 i)).run Tryz.prog w = .ok (.int .i64 (if i = 0 then x else if i = 1 then y else v)) w := by
 have : i = 0 ∨ i = 1 ∨ i = 2 := by omega
 rcases this with rfl | rfl | rfl <;> rfl
theorem zMatrixF_any (z : Zn) (w : World) :
 Calls Tryz.prog 159 #[.agg #[.int .i64 z.a, .int .i64 z.b, .int .i64 z.c, .int .i64 z.d, .int .i64 z.e, .int .i64 z.f]] w (Ret w fun v w' => ∃ a' c', v = .tuple #[.agg #[.int .i64 (Zo.mat z).1, .slice a' (Zo.mat z).2.1.length c'], .int .i64 (Zo.mat z).2.2] ∧ Fresh TB w.heap.size w' (.slice a' (Zo.mat z).2.1.length c') (Zo.mat z).2.1) := by
 refine fun_ret 0 w Tryz.func159 (args := [.agg [.val (.int .i64 z.a), .val (.int .i64 z.b), .val (.int .i64 z.c), .val (.int .i64 z.d), .val (.int .i64 z.e), .val (.int .i64 z.f)]]) rfl rfl ?_
 have st := Stay.first (w := w)
 refine NewI.mk fun b1 hb1 => ?_
 refine NewI.mk fun b2 hb2 => ?_
 apply CallI.use
 focus (exact fun w1 h1 => zmatrix_any z w1)
 rintro v w1 v1 h1 hB1 ⟨a1, c1, rfl, hF1⟩
 have st := st.nx h1 hB1
 refine NewI.mk fun b3 hb3 => ?_
 unfold Zo.mat
 apply CallI.use1
 focus (exact fun w2 h2 => dcheck_any 3 a1 c1 (Zo.matL z) w2 (hF1.sl.st (st.at h2)))
 intro w2 v2 h2 hB2
 have st := st.nx h2 hB2
 refine Branch.mk (fun hc => ?_) (fun hc => ?_)
 ·have h0 : ¬ Dbm.chk 3 (Zo.matL z) = 0 := by simpa using hc
  have h8 := (Dbm.chk_cases 3 (Zo.matL z)).resolve_left h0
  rw [if_neg h0, h8]
  exact EndI.mk fun w9 h9 => ⟨_, _, rfl, .inl ⟨rfl, rfl⟩⟩
 have h0 : Dbm.chk 3 (Zo.matL z) = 0 := by simpa using hc
 rw [if_pos h0]
 exact EndI.mk fun w9 h9 => ⟨_, _, rfl, ((hF1.st st).at h9 (fun b hb => by have := h1.lt b1 (by simp); have := h1.lt b2 (by simp); simp at hb; omega)).lower h1.below.size⟩
structure Cmp.At (B g g1 cap : Nat) (M0 : List Int) (X : World) (row : List Int) : Prop where
 box : X.heap[B]? = some (.cells #[.int .i64 4, .slice (some ⟨g, 0, none⟩) 16 cap] 81 (0, 0))
 row : RowAt TB X g row
 mat : RowAt TB X g1 M0
section
variable {B g g1 cap : Nat} {M0 : List Int} {X Y : World} {row : List Int}
theorem Cmp.At.to (h : Cmp.At B g g1 cap M0 X row) (k : ∀ j, j = B ∨ j = g ∨ j = g1 → Y.heap[j]? = X.heap[j]?) : Cmp.At B g g1 cap M0 Y row :=
 ⟨(k B (.inl rfl)).trans h.box, h.row.kept (k g (.inr (.inl rfl))), h.mat.kept (k g1 (.inr (.inr rfl)))⟩
theorem Cmp.At.at {w0 : Base} {hp : List LB} {r L : List Nat} (h : Cmp.At B g g1 cap M0 X row) (h1 : Eng.At w0 hp r L X Y) (hL : ∀ b, b ∈ L → b ≠ B ∧ b ≠ g ∧ b ≠ g1) : Cmp.At B g g1 cap M0 Y row :=
 h.to fun j hj => h1.step j (by rcases hj with rfl | rfl | rfl; exact lt_cellsM h.box; exact h.row.lt; exact h.mat.lt) (fun hm => by have := hL j hm; rcases hj with rfl | rfl | rfl <;> omega)
theorem Cmp.At.set (h : Cmp.At B g g1 cap M0 X row) {j : Nat} (hj : j < row.length) (x : Int) (h1 : g ≠ B) (h2 : g1 ≠ g) : Cmp.At B g g1 cap M0 (X.setCell ⟨g, j, none⟩ (.int .i64 x)) (row.set j x) :=
 ⟨(setCell_neM (fun e => h1 e.symm)).trans h.box, h.row.set hj x, h.mat.kept (setCell_neM h2)⟩
theorem Cmp.At.cell (h : Cmp.At B g g1 cap M0 X row) : X.cell? ⟨B, 1, none⟩ = some (.slice (some ⟨g, 0, none⟩) 16 cap) := by simp [World.cell?, h.box]
end
set_option maxHeartbeats 4000000 in
theorem cput_any (z : Zn) (hz : Zo.chk z = 0) (c0 c1 c2 : Nat) (h0 : c0 < 4) (h1 : c1 < 4) (h2 : c2 < 4) (n₀ B g cap : Nat) (hgB : g ≠ B) (hng : n₀ ≤ g) (L : List Int) (hL : L.length = 16) (w : World) (hn : n₀ ≤ w.heap.size)
 (hbox : w.heap[B]? = some (.cells #[.int .i64 4, .slice (some ⟨g, 0, none⟩) 16 cap] 81 (0, 0))) (hrow : RowAt TB w g L) :
 Calls Tryz.prog 158 #[.agg #[.int .i64 z.a, .int .i64 z.b, .int .i64 z.c, .int .i64 z.d, .int .i64 z.e, .int .i64 z.f], .agg #[.int .i64 c0, .int .i64 c1, .int .i64 c2], .pointer (some ⟨B, 0, none⟩)] w fun e w' => ∃ u, e = .returned u ∧ Below n₀ w w' ∧ (u = .tuple #[] ∧ w'.heap[B]? = some (.cells #[.int .i64 4, .slice (some ⟨g, 0, none⟩) 16 cap] 81 (0, 0)) ∧ RowAt TB w' g (Cmp.put c0 c1 c2 (Zo.matL z) L 9)) := by
 refine fun_at 0 n₀ w hn Tryz.func158 (args := [.agg [.val (.int .i64 z.a), .val (.int .i64 z.b), .val (.int .i64 z.c), .val (.int .i64 z.d), .val (.int .i64 z.e), .val (.int .i64 z.f)], .agg [.val (.int .i64 c0), .val (.int .i64 c1), .val (.int .i64 c2)], .val (.pointer (some ⟨B, 0, none⟩))]) rfl rfl ?_
 have hzm := fun w => zMatrixF_any z w
 rw [Zo.chk_mat hz] at hzm
 have adk : ∀ j : Nat, (⟨g, 0, none⟩ : Addr).add ((j : Int).toNat * 1) = ⟨g, j, none⟩ := fun j => by simp [addr_addL]
 refine NewI.mk fun b1 hb1 => ?_
 refine NewI.mk fun b2 hb2 => ?_
 apply CallI.use
 focus (exact fun w2 h2 => hzm w2)
 rintro v w2 v2 h2 hB2 ⟨a1, q1, rfl, hF1⟩
 refine NewI.mk fun b3 hb3 => ?_
 have hg := hrow.lt
 have hBl := lt_cellsM hbox
 obtain ⟨g1, rfl, hq1, hq2, hg1b, hR1⟩ : ∃ g1, a1 = some ⟨g1, 0, none⟩ ∧ 9 ≤ q1 ∧ q1 ≤ maxLen ∧ w2.heap.size ≤ g1 ∧ RowAt TB v2 g1 (Zo.matL z) := by
  rcases hF1 with ⟨_, e⟩ | ⟨g1, cap, e, x1, x2, x3, x4⟩
  ·cases e
  ·injection e with e1 e2 e3
   subst e1; subst e3
   exact ⟨g1, rfl, x1, x2, x3, x4⟩
 have hg1l := hR1.lt
 have hw2 : w.heap.size ≤ w2.heap.size := h2.size
 have hb1' : w.heap.size ≤ b1 := hb1
 have hb2' : w.heap.size ≤ b2 := hb2
 have hb3' : v2.heap.size ≤ b3 := hb3
 have hb1w : b1 < w2.heap.size := h2.lt b1 (by simp)
 have hb2w : b2 < w2.heap.size := h2.lt b2 (by simp)
 have hg1g : g1 ≠ g := by omega
 have hgr : ∀ b, b ∈ [b1, b2, b3] → b ∉ [g] := fun b hb hm => by simp at hb hm; omega
 have hL' : (Cmp.put c0 c1 c2 (Zo.matL z) L 0) = L := rfl
 have g2 := at_belowM h2 (by simp)
 have ct : Cmp.At B g g1 cap (Zo.matL z) v2 (Cmp.put c0 c1 c2 (Zo.matL z) L 0) := ⟨(hB2.block B (by omega)).trans ((g2.block B hBl).trans hbox), (hrow.kept (g2.block g hg)).kept (hB2.block g (by omega)), hR1⟩
 clear hL' hrow hbox hF1 hR1
 refine LoopI.rounds 4 ?_
 refine Branch.yes rfl ?_
 refine GenV.to (x := .int .i64 c0) (fun w => three_at c0 c1 c2 0 w (by decide)) fun r0 p0 => ?_
 have ct := ct.at p0 (by intro b hb; simp at hb <;> omega)
 refine LoopI.rounds 4 ?_
 refine Branch.yes rfl ?_
 refine GenV.to (x := .int .i64 c0) (fun w => three_at c0 c1 c2 0 w (by decide)) fun u0 k0 => ?_
 have ct := ct.at k0 (by intro b hb; simp at hb <;> omega)
 refine Need.mk (by simp only [inK]; omega) ?_
 refine Need.mk (by simp only [inK]; omega) ?_
 refine DrawI.wr (.tk 0 (.tk 1 (.tk 2 (.tk 3 (.tk 4 (.tk 5 (.tk 6 (.tk 8 (.tk 9 (.tk 10 (.tk 11 (.tk 12 (.tk 13 (.tk 14 (.tk 15 (.ev 7 (.tk 16 (.tk 17 (.ev 18 .done))))))))))))))))))) [] [g] (by kernel_rfl) rfl hgr fun x0 j0 => ?_
 have ct := ct.at j0 (by intro b hb; simp at hb <;> omega)
 have hpl : Cmp.pl c0 c1 c2 0 = 4 * c0 + c0 := rfl
 have hpk : Cmp.put c0 c1 c2 (Zo.matL z) L 1 = (Cmp.put c0 c1 c2 (Zo.matL z) L 0).set (4 * c0 + c0) (min ((Cmp.put c0 c1 c2 (Zo.matL z) L 0)[4 * c0 + c0]?.getD 0) ((Zo.matL z)[0]?.getD 0)) := rfl
 have hln := Cmp.put_len c0 c1 c2 (Zo.matL z) L 0
 generalize Cmp.put c0 c1 c2 (Zo.matL z) L 0 = R at ct hpk hln
 refine LoadI.mk ⟨_, ⟨ct.cell, by simp; exact fun e => hgB e.symm⟩, ?_⟩
 refine LoadI.mk ⟨_, ⟨ct.cell, by simp; exact fun e => hgB e.symm⟩, ?_⟩
 conv => whnf
 rw [show (4 : Int) * c0 + c0 = ((4 * c0 + c0 : Nat) : Int) by omega]
 refine IdxI.mk ⟨_, ⟨rfl, by omega, by omega⟩, ?_⟩
 refine Need.mk (by simp only [inK]; omega) ?_
 refine Need.mk (by simp only [inK]; omega) ?_
 refine IdxI.mk ⟨_, ⟨rfl, by omega, by show _ < (9 : Int); omega⟩, ?_⟩
 refine LoadI.mk ⟨_, ⟨ct.mat.cell (j := 0) (by rw [Zo.matL_len]; omega), by simp; exact hg1g⟩, ?_⟩
 rw [adk]
 refine LoadI.mk ⟨_, ⟨ct.row.cell (j := 4 * c0 + c0) (by omega), by simp⟩, ?_⟩
 refine IdxI.mk ⟨_, ⟨rfl, by omega, by omega⟩, ?_⟩
 refine StoreI.mk fun y0 i0 => ?_
 have ct := ct.at i0 (by intro b hb; simp at hb <;> omega)
 rw [adk]
 refine ⟨⟨⟨_, ct.row.cell (j := 4 * c0 + c0) (by omega)⟩, ct.row.frozen _⟩, Zo.kpD_set hng (fun b hb e => hgr b hb (by simp [e])) (by simp [locs]), ?_⟩
 conv => whnf
 have em : minL (R[4 * c0 + c0]?.getD 0) [(Zo.matL z)[0]?.getD 0] = min (R[4 * c0 + c0]?.getD 0) ((Zo.matL z)[0]?.getD 0) := by simp [minL]; omega
 rw [em]
 have ct := ct.set (j := 4 * c0 + c0) (by omega) (min (R[4 * c0 + c0]?.getD 0) ((Zo.matL z)[0]?.getD 0)) hgB hg1g
 rw [← hpk] at ct
 clear em hpk hln hpl
 generalize y0.setCell _ _ = z0 at ct ⊢
 refine Need.mk (by simp only [inK]; omega) ?_
 refine Branch.yes rfl ?_
 refine GenV.to (x := .int .i64 c1) (fun w => three_at c0 c1 c2 1 w (by decide)) fun u1 k1 => ?_
 have ct := ct.at k1 (by intro b hb; simp at hb <;> omega)
 refine Need.mk (by simp only [inK]; omega) ?_
 refine Need.mk (by simp only [inK]; omega) ?_
 refine DrawI.wr (.tk 0 (.tk 1 (.tk 2 (.tk 3 (.tk 4 (.tk 5 (.tk 6 (.tk 8 (.tk 9 (.tk 10 (.tk 11 (.tk 12 (.tk 13 (.tk 14 (.tk 15 (.ev 7 (.tk 16 (.tk 17 (.ev 18 .done))))))))))))))))))) [] [g] (by kernel_rfl) rfl hgr fun x1 j1 => ?_
 have ct := ct.at j1 (by intro b hb; simp at hb <;> omega)
 have hpl : Cmp.pl c0 c1 c2 1 = 4 * c0 + c1 := rfl
 have hpk : Cmp.put c0 c1 c2 (Zo.matL z) L 2 = (Cmp.put c0 c1 c2 (Zo.matL z) L 1).set (4 * c0 + c1) (min ((Cmp.put c0 c1 c2 (Zo.matL z) L 1)[4 * c0 + c1]?.getD 0) ((Zo.matL z)[1]?.getD 0)) := rfl
 have hln := Cmp.put_len c0 c1 c2 (Zo.matL z) L 1
 generalize Cmp.put c0 c1 c2 (Zo.matL z) L 1 = R at ct hpk hln
 refine LoadI.mk ⟨_, ⟨ct.cell, by simp; exact fun e => hgB e.symm⟩, ?_⟩
 refine LoadI.mk ⟨_, ⟨ct.cell, by simp; exact fun e => hgB e.symm⟩, ?_⟩
 conv => whnf
 rw [show (4 : Int) * c0 + c1 = ((4 * c0 + c1 : Nat) : Int) by omega]
 refine IdxI.mk ⟨_, ⟨rfl, by omega, by omega⟩, ?_⟩
 refine Need.mk (by simp only [inK]; omega) ?_
 refine Need.mk (by simp only [inK]; omega) ?_
 refine IdxI.mk ⟨_, ⟨rfl, by omega, by show _ < (9 : Int); omega⟩, ?_⟩
 refine LoadI.mk ⟨_, ⟨ct.mat.cell (j := 1) (by rw [Zo.matL_len]; omega), by simp; exact hg1g⟩, ?_⟩
 rw [adk]
 refine LoadI.mk ⟨_, ⟨ct.row.cell (j := 4 * c0 + c1) (by omega), by simp⟩, ?_⟩
 refine IdxI.mk ⟨_, ⟨rfl, by omega, by omega⟩, ?_⟩
 refine StoreI.mk fun y1 i1 => ?_
 have ct := ct.at i1 (by intro b hb; simp at hb <;> omega)
 rw [adk]
 refine ⟨⟨⟨_, ct.row.cell (j := 4 * c0 + c1) (by omega)⟩, ct.row.frozen _⟩, Zo.kpD_set hng (fun b hb e => hgr b hb (by simp [e])) (by simp [locs]), ?_⟩
 conv => whnf
 have em : minL (R[4 * c0 + c1]?.getD 0) [(Zo.matL z)[1]?.getD 0] = min (R[4 * c0 + c1]?.getD 0) ((Zo.matL z)[1]?.getD 0) := by simp [minL]; omega
 rw [em]
 have ct := ct.set (j := 4 * c0 + c1) (by omega) (min (R[4 * c0 + c1]?.getD 0) ((Zo.matL z)[1]?.getD 0)) hgB hg1g
 rw [← hpk] at ct
 clear em hpk hln hpl
 generalize y1.setCell _ _ = z1 at ct ⊢
 refine Need.mk (by simp only [inK]; omega) ?_
 refine Branch.yes rfl ?_
 refine GenV.to (x := .int .i64 c2) (fun w => three_at c0 c1 c2 2 w (by decide)) fun u2 k2 => ?_
 have ct := ct.at k2 (by intro b hb; simp at hb <;> omega)
 refine Need.mk (by simp only [inK]; omega) ?_
 refine Need.mk (by simp only [inK]; omega) ?_
 refine DrawI.wr (.tk 0 (.tk 1 (.tk 2 (.tk 3 (.tk 4 (.tk 5 (.tk 6 (.tk 8 (.tk 9 (.tk 10 (.tk 11 (.tk 12 (.tk 13 (.tk 14 (.tk 15 (.ev 7 (.tk 16 (.tk 17 (.ev 18 .done))))))))))))))))))) [] [g] (by kernel_rfl) rfl hgr fun x2 j2 => ?_
 have ct := ct.at j2 (by intro b hb; simp at hb <;> omega)
 have hpl : Cmp.pl c0 c1 c2 2 = 4 * c0 + c2 := rfl
 have hpk : Cmp.put c0 c1 c2 (Zo.matL z) L 3 = (Cmp.put c0 c1 c2 (Zo.matL z) L 2).set (4 * c0 + c2) (min ((Cmp.put c0 c1 c2 (Zo.matL z) L 2)[4 * c0 + c2]?.getD 0) ((Zo.matL z)[2]?.getD 0)) := rfl
 have hln := Cmp.put_len c0 c1 c2 (Zo.matL z) L 2
 generalize Cmp.put c0 c1 c2 (Zo.matL z) L 2 = R at ct hpk hln
 refine LoadI.mk ⟨_, ⟨ct.cell, by simp; exact fun e => hgB e.symm⟩, ?_⟩
 refine LoadI.mk ⟨_, ⟨ct.cell, by simp; exact fun e => hgB e.symm⟩, ?_⟩
 conv => whnf
 rw [show (4 : Int) * c0 + c2 = ((4 * c0 + c2 : Nat) : Int) by omega]
 refine IdxI.mk ⟨_, ⟨rfl, by omega, by omega⟩, ?_⟩
 refine Need.mk (by simp only [inK]; omega) ?_
 refine Need.mk (by simp only [inK]; omega) ?_
 refine IdxI.mk ⟨_, ⟨rfl, by omega, by show _ < (9 : Int); omega⟩, ?_⟩
 refine LoadI.mk ⟨_, ⟨ct.mat.cell (j := 2) (by rw [Zo.matL_len]; omega), by simp; exact hg1g⟩, ?_⟩
 rw [adk]
 refine LoadI.mk ⟨_, ⟨ct.row.cell (j := 4 * c0 + c2) (by omega), by simp⟩, ?_⟩
 refine IdxI.mk ⟨_, ⟨rfl, by omega, by omega⟩, ?_⟩
 refine StoreI.mk fun y2 i2 => ?_
 have ct := ct.at i2 (by intro b hb; simp at hb <;> omega)
 rw [adk]
 refine ⟨⟨⟨_, ct.row.cell (j := 4 * c0 + c2) (by omega)⟩, ct.row.frozen _⟩, Zo.kpD_set hng (fun b hb e => hgr b hb (by simp [e])) (by simp [locs]), ?_⟩
 conv => whnf
 have em : minL (R[4 * c0 + c2]?.getD 0) [(Zo.matL z)[2]?.getD 0] = min (R[4 * c0 + c2]?.getD 0) ((Zo.matL z)[2]?.getD 0) := by simp [minL]; omega
 rw [em]
 have ct := ct.set (j := 4 * c0 + c2) (by omega) (min (R[4 * c0 + c2]?.getD 0) ((Zo.matL z)[2]?.getD 0)) hgB hg1g
 rw [← hpk] at ct
 clear em hpk hln hpl
 generalize y2.setCell _ _ = z2 at ct ⊢
 refine Need.mk (by simp only [inK]; omega) ?_
 refine Branch.no rfl ?_
 refine Need.mk (by simp only [inK]; omega) ?_
 refine Branch.yes rfl ?_
 refine GenV.to (x := .int .i64 c1) (fun w => three_at c0 c1 c2 1 w (by decide)) fun r1 p1 => ?_
 have ct := ct.at p1 (by intro b hb; simp at hb <;> omega)
 refine LoopI.rounds 4 ?_
 refine Branch.yes rfl ?_
 refine GenV.to (x := .int .i64 c0) (fun w => three_at c0 c1 c2 0 w (by decide)) fun u3 k3 => ?_
 have ct := ct.at k3 (by intro b hb; simp at hb <;> omega)
 refine Need.mk (by simp only [inK]; omega) ?_
 refine Need.mk (by simp only [inK]; omega) ?_
 refine DrawI.wr (.tk 0 (.tk 1 (.tk 2 (.tk 3 (.tk 4 (.tk 5 (.tk 6 (.tk 8 (.tk 9 (.tk 10 (.tk 11 (.tk 12 (.tk 13 (.tk 14 (.tk 15 (.ev 7 (.tk 16 (.tk 17 (.ev 18 .done))))))))))))))))))) [] [g] (by kernel_rfl) rfl hgr fun x3 j3 => ?_
 have ct := ct.at j3 (by intro b hb; simp at hb <;> omega)
 have hpl : Cmp.pl c0 c1 c2 3 = 4 * c1 + c0 := rfl
 have hpk : Cmp.put c0 c1 c2 (Zo.matL z) L 4 = (Cmp.put c0 c1 c2 (Zo.matL z) L 3).set (4 * c1 + c0) (min ((Cmp.put c0 c1 c2 (Zo.matL z) L 3)[4 * c1 + c0]?.getD 0) ((Zo.matL z)[3]?.getD 0)) := rfl
 have hln := Cmp.put_len c0 c1 c2 (Zo.matL z) L 3
 generalize Cmp.put c0 c1 c2 (Zo.matL z) L 3 = R at ct hpk hln
 refine LoadI.mk ⟨_, ⟨ct.cell, by simp; exact fun e => hgB e.symm⟩, ?_⟩
 refine LoadI.mk ⟨_, ⟨ct.cell, by simp; exact fun e => hgB e.symm⟩, ?_⟩
 conv => whnf
 rw [show (4 : Int) * c1 + c0 = ((4 * c1 + c0 : Nat) : Int) by omega]
 refine IdxI.mk ⟨_, ⟨rfl, by omega, by omega⟩, ?_⟩
 refine Need.mk (by simp only [inK]; omega) ?_
 refine Need.mk (by simp only [inK]; omega) ?_
 refine IdxI.mk ⟨_, ⟨rfl, by omega, by show _ < (9 : Int); omega⟩, ?_⟩
 refine LoadI.mk ⟨_, ⟨ct.mat.cell (j := 3) (by rw [Zo.matL_len]; omega), by simp; exact hg1g⟩, ?_⟩
 rw [adk]
 refine LoadI.mk ⟨_, ⟨ct.row.cell (j := 4 * c1 + c0) (by omega), by simp⟩, ?_⟩
 refine IdxI.mk ⟨_, ⟨rfl, by omega, by omega⟩, ?_⟩
 refine StoreI.mk fun y3 i3 => ?_
 have ct := ct.at i3 (by intro b hb; simp at hb <;> omega)
 rw [adk]
 refine ⟨⟨⟨_, ct.row.cell (j := 4 * c1 + c0) (by omega)⟩, ct.row.frozen _⟩, Zo.kpD_set hng (fun b hb e => hgr b hb (by simp [e])) (by simp [locs]), ?_⟩
 conv => whnf
 have em : minL (R[4 * c1 + c0]?.getD 0) [(Zo.matL z)[3]?.getD 0] = min (R[4 * c1 + c0]?.getD 0) ((Zo.matL z)[3]?.getD 0) := by simp [minL]; omega
 rw [em]
 have ct := ct.set (j := 4 * c1 + c0) (by omega) (min (R[4 * c1 + c0]?.getD 0) ((Zo.matL z)[3]?.getD 0)) hgB hg1g
 rw [← hpk] at ct
 clear em hpk hln hpl
 generalize y3.setCell _ _ = z3 at ct ⊢
 refine Need.mk (by simp only [inK]; omega) ?_
 refine Branch.yes rfl ?_
 refine GenV.to (x := .int .i64 c1) (fun w => three_at c0 c1 c2 1 w (by decide)) fun u4 k4 => ?_
 have ct := ct.at k4 (by intro b hb; simp at hb <;> omega)
 refine Need.mk (by simp only [inK]; omega) ?_
 refine Need.mk (by simp only [inK]; omega) ?_
 refine DrawI.wr (.tk 0 (.tk 1 (.tk 2 (.tk 3 (.tk 4 (.tk 5 (.tk 6 (.tk 8 (.tk 9 (.tk 10 (.tk 11 (.tk 12 (.tk 13 (.tk 14 (.tk 15 (.ev 7 (.tk 16 (.tk 17 (.ev 18 .done))))))))))))))))))) [] [g] (by kernel_rfl) rfl hgr fun x4 j4 => ?_
 have ct := ct.at j4 (by intro b hb; simp at hb <;> omega)
 have hpl : Cmp.pl c0 c1 c2 4 = 4 * c1 + c1 := rfl
 have hpk : Cmp.put c0 c1 c2 (Zo.matL z) L 5 = (Cmp.put c0 c1 c2 (Zo.matL z) L 4).set (4 * c1 + c1) (min ((Cmp.put c0 c1 c2 (Zo.matL z) L 4)[4 * c1 + c1]?.getD 0) ((Zo.matL z)[4]?.getD 0)) := rfl
 have hln := Cmp.put_len c0 c1 c2 (Zo.matL z) L 4
 generalize Cmp.put c0 c1 c2 (Zo.matL z) L 4 = R at ct hpk hln
 refine LoadI.mk ⟨_, ⟨ct.cell, by simp; exact fun e => hgB e.symm⟩, ?_⟩
 refine LoadI.mk ⟨_, ⟨ct.cell, by simp; exact fun e => hgB e.symm⟩, ?_⟩
 conv => whnf
 rw [show (4 : Int) * c1 + c1 = ((4 * c1 + c1 : Nat) : Int) by omega]
 refine IdxI.mk ⟨_, ⟨rfl, by omega, by omega⟩, ?_⟩
 refine Need.mk (by simp only [inK]; omega) ?_
 refine Need.mk (by simp only [inK]; omega) ?_
 refine IdxI.mk ⟨_, ⟨rfl, by omega, by show _ < (9 : Int); omega⟩, ?_⟩
 refine LoadI.mk ⟨_, ⟨ct.mat.cell (j := 4) (by rw [Zo.matL_len]; omega), by simp; exact hg1g⟩, ?_⟩
 rw [adk]
 refine LoadI.mk ⟨_, ⟨ct.row.cell (j := 4 * c1 + c1) (by omega), by simp⟩, ?_⟩
 refine IdxI.mk ⟨_, ⟨rfl, by omega, by omega⟩, ?_⟩
 refine StoreI.mk fun y4 i4 => ?_
 have ct := ct.at i4 (by intro b hb; simp at hb <;> omega)
 rw [adk]
 refine ⟨⟨⟨_, ct.row.cell (j := 4 * c1 + c1) (by omega)⟩, ct.row.frozen _⟩, Zo.kpD_set hng (fun b hb e => hgr b hb (by simp [e])) (by simp [locs]), ?_⟩
 conv => whnf
 have em : minL (R[4 * c1 + c1]?.getD 0) [(Zo.matL z)[4]?.getD 0] = min (R[4 * c1 + c1]?.getD 0) ((Zo.matL z)[4]?.getD 0) := by simp [minL]; omega
 rw [em]
 have ct := ct.set (j := 4 * c1 + c1) (by omega) (min (R[4 * c1 + c1]?.getD 0) ((Zo.matL z)[4]?.getD 0)) hgB hg1g
 rw [← hpk] at ct
 clear em hpk hln hpl
 generalize y4.setCell _ _ = z4 at ct ⊢
 refine Need.mk (by simp only [inK]; omega) ?_
 refine Branch.yes rfl ?_
 refine GenV.to (x := .int .i64 c2) (fun w => three_at c0 c1 c2 2 w (by decide)) fun u5 k5 => ?_
 have ct := ct.at k5 (by intro b hb; simp at hb <;> omega)
 refine Need.mk (by simp only [inK]; omega) ?_
 refine Need.mk (by simp only [inK]; omega) ?_
 refine DrawI.wr (.tk 0 (.tk 1 (.tk 2 (.tk 3 (.tk 4 (.tk 5 (.tk 6 (.tk 8 (.tk 9 (.tk 10 (.tk 11 (.tk 12 (.tk 13 (.tk 14 (.tk 15 (.ev 7 (.tk 16 (.tk 17 (.ev 18 .done))))))))))))))))))) [] [g] (by kernel_rfl) rfl hgr fun x5 j5 => ?_
 have ct := ct.at j5 (by intro b hb; simp at hb <;> omega)
 have hpl : Cmp.pl c0 c1 c2 5 = 4 * c1 + c2 := rfl
 have hpk : Cmp.put c0 c1 c2 (Zo.matL z) L 6 = (Cmp.put c0 c1 c2 (Zo.matL z) L 5).set (4 * c1 + c2) (min ((Cmp.put c0 c1 c2 (Zo.matL z) L 5)[4 * c1 + c2]?.getD 0) ((Zo.matL z)[5]?.getD 0)) := rfl
 have hln := Cmp.put_len c0 c1 c2 (Zo.matL z) L 5
 generalize Cmp.put c0 c1 c2 (Zo.matL z) L 5 = R at ct hpk hln
 refine LoadI.mk ⟨_, ⟨ct.cell, by simp; exact fun e => hgB e.symm⟩, ?_⟩
 refine LoadI.mk ⟨_, ⟨ct.cell, by simp; exact fun e => hgB e.symm⟩, ?_⟩
 conv => whnf
 rw [show (4 : Int) * c1 + c2 = ((4 * c1 + c2 : Nat) : Int) by omega]
 refine IdxI.mk ⟨_, ⟨rfl, by omega, by omega⟩, ?_⟩
 refine Need.mk (by simp only [inK]; omega) ?_
 refine Need.mk (by simp only [inK]; omega) ?_
 refine IdxI.mk ⟨_, ⟨rfl, by omega, by show _ < (9 : Int); omega⟩, ?_⟩
 refine LoadI.mk ⟨_, ⟨ct.mat.cell (j := 5) (by rw [Zo.matL_len]; omega), by simp; exact hg1g⟩, ?_⟩
 rw [adk]
 refine LoadI.mk ⟨_, ⟨ct.row.cell (j := 4 * c1 + c2) (by omega), by simp⟩, ?_⟩
 refine IdxI.mk ⟨_, ⟨rfl, by omega, by omega⟩, ?_⟩
 refine StoreI.mk fun y5 i5 => ?_
 have ct := ct.at i5 (by intro b hb; simp at hb <;> omega)
 rw [adk]
 refine ⟨⟨⟨_, ct.row.cell (j := 4 * c1 + c2) (by omega)⟩, ct.row.frozen _⟩, Zo.kpD_set hng (fun b hb e => hgr b hb (by simp [e])) (by simp [locs]), ?_⟩
 conv => whnf
 have em : minL (R[4 * c1 + c2]?.getD 0) [(Zo.matL z)[5]?.getD 0] = min (R[4 * c1 + c2]?.getD 0) ((Zo.matL z)[5]?.getD 0) := by simp [minL]; omega
 rw [em]
 have ct := ct.set (j := 4 * c1 + c2) (by omega) (min (R[4 * c1 + c2]?.getD 0) ((Zo.matL z)[5]?.getD 0)) hgB hg1g
 rw [← hpk] at ct
 clear em hpk hln hpl
 generalize y5.setCell _ _ = z5 at ct ⊢
 refine Need.mk (by simp only [inK]; omega) ?_
 refine Branch.no rfl ?_
 refine Need.mk (by simp only [inK]; omega) ?_
 refine Branch.yes rfl ?_
 refine GenV.to (x := .int .i64 c2) (fun w => three_at c0 c1 c2 2 w (by decide)) fun r2 p2 => ?_
 have ct := ct.at p2 (by intro b hb; simp at hb <;> omega)
 refine LoopI.rounds 4 ?_
 refine Branch.yes rfl ?_
 refine GenV.to (x := .int .i64 c0) (fun w => three_at c0 c1 c2 0 w (by decide)) fun u6 k6 => ?_
 have ct := ct.at k6 (by intro b hb; simp at hb <;> omega)
 refine Need.mk (by simp only [inK]; omega) ?_
 refine Need.mk (by simp only [inK]; omega) ?_
 refine DrawI.wr (.tk 0 (.tk 1 (.tk 2 (.tk 3 (.tk 4 (.tk 5 (.tk 6 (.tk 8 (.tk 9 (.tk 10 (.tk 11 (.tk 12 (.tk 13 (.tk 14 (.tk 15 (.ev 7 (.tk 16 (.tk 17 (.ev 18 .done))))))))))))))))))) [] [g] (by kernel_rfl) rfl hgr fun x6 j6 => ?_
 have ct := ct.at j6 (by intro b hb; simp at hb <;> omega)
 have hpl : Cmp.pl c0 c1 c2 6 = 4 * c2 + c0 := rfl
 have hpk : Cmp.put c0 c1 c2 (Zo.matL z) L 7 = (Cmp.put c0 c1 c2 (Zo.matL z) L 6).set (4 * c2 + c0) (min ((Cmp.put c0 c1 c2 (Zo.matL z) L 6)[4 * c2 + c0]?.getD 0) ((Zo.matL z)[6]?.getD 0)) := rfl
 have hln := Cmp.put_len c0 c1 c2 (Zo.matL z) L 6
 generalize Cmp.put c0 c1 c2 (Zo.matL z) L 6 = R at ct hpk hln
 refine LoadI.mk ⟨_, ⟨ct.cell, by simp; exact fun e => hgB e.symm⟩, ?_⟩
 refine LoadI.mk ⟨_, ⟨ct.cell, by simp; exact fun e => hgB e.symm⟩, ?_⟩
 conv => whnf
 rw [show (4 : Int) * c2 + c0 = ((4 * c2 + c0 : Nat) : Int) by omega]
 refine IdxI.mk ⟨_, ⟨rfl, by omega, by omega⟩, ?_⟩
 refine Need.mk (by simp only [inK]; omega) ?_
 refine Need.mk (by simp only [inK]; omega) ?_
 refine IdxI.mk ⟨_, ⟨rfl, by omega, by show _ < (9 : Int); omega⟩, ?_⟩
 refine LoadI.mk ⟨_, ⟨ct.mat.cell (j := 6) (by rw [Zo.matL_len]; omega), by simp; exact hg1g⟩, ?_⟩
 rw [adk]
 refine LoadI.mk ⟨_, ⟨ct.row.cell (j := 4 * c2 + c0) (by omega), by simp⟩, ?_⟩
 refine IdxI.mk ⟨_, ⟨rfl, by omega, by omega⟩, ?_⟩
 refine StoreI.mk fun y6 i6 => ?_
 have ct := ct.at i6 (by intro b hb; simp at hb <;> omega)
 rw [adk]
 refine ⟨⟨⟨_, ct.row.cell (j := 4 * c2 + c0) (by omega)⟩, ct.row.frozen _⟩, Zo.kpD_set hng (fun b hb e => hgr b hb (by simp [e])) (by simp [locs]), ?_⟩
 conv => whnf
 have em : minL (R[4 * c2 + c0]?.getD 0) [(Zo.matL z)[6]?.getD 0] = min (R[4 * c2 + c0]?.getD 0) ((Zo.matL z)[6]?.getD 0) := by simp [minL]; omega
 rw [em]
 have ct := ct.set (j := 4 * c2 + c0) (by omega) (min (R[4 * c2 + c0]?.getD 0) ((Zo.matL z)[6]?.getD 0)) hgB hg1g
 rw [← hpk] at ct
 clear em hpk hln hpl
 generalize y6.setCell _ _ = z6 at ct ⊢
 refine Need.mk (by simp only [inK]; omega) ?_
 refine Branch.yes rfl ?_
 refine GenV.to (x := .int .i64 c1) (fun w => three_at c0 c1 c2 1 w (by decide)) fun u7 k7 => ?_
 have ct := ct.at k7 (by intro b hb; simp at hb <;> omega)
 refine Need.mk (by simp only [inK]; omega) ?_
 refine Need.mk (by simp only [inK]; omega) ?_
 refine DrawI.wr (.tk 0 (.tk 1 (.tk 2 (.tk 3 (.tk 4 (.tk 5 (.tk 6 (.tk 8 (.tk 9 (.tk 10 (.tk 11 (.tk 12 (.tk 13 (.tk 14 (.tk 15 (.ev 7 (.tk 16 (.tk 17 (.ev 18 .done))))))))))))))))))) [] [g] (by kernel_rfl) rfl hgr fun x7 j7 => ?_
 have ct := ct.at j7 (by intro b hb; simp at hb <;> omega)
 have hpl : Cmp.pl c0 c1 c2 7 = 4 * c2 + c1 := rfl
 have hpk : Cmp.put c0 c1 c2 (Zo.matL z) L 8 = (Cmp.put c0 c1 c2 (Zo.matL z) L 7).set (4 * c2 + c1) (min ((Cmp.put c0 c1 c2 (Zo.matL z) L 7)[4 * c2 + c1]?.getD 0) ((Zo.matL z)[7]?.getD 0)) := rfl
 have hln := Cmp.put_len c0 c1 c2 (Zo.matL z) L 7
 generalize Cmp.put c0 c1 c2 (Zo.matL z) L 7 = R at ct hpk hln
 refine LoadI.mk ⟨_, ⟨ct.cell, by simp; exact fun e => hgB e.symm⟩, ?_⟩
 refine LoadI.mk ⟨_, ⟨ct.cell, by simp; exact fun e => hgB e.symm⟩, ?_⟩
 conv => whnf
 rw [show (4 : Int) * c2 + c1 = ((4 * c2 + c1 : Nat) : Int) by omega]
 refine IdxI.mk ⟨_, ⟨rfl, by omega, by omega⟩, ?_⟩
 refine Need.mk (by simp only [inK]; omega) ?_
 refine Need.mk (by simp only [inK]; omega) ?_
 refine IdxI.mk ⟨_, ⟨rfl, by omega, by show _ < (9 : Int); omega⟩, ?_⟩
 refine LoadI.mk ⟨_, ⟨ct.mat.cell (j := 7) (by rw [Zo.matL_len]; omega), by simp; exact hg1g⟩, ?_⟩
 rw [adk]
 refine LoadI.mk ⟨_, ⟨ct.row.cell (j := 4 * c2 + c1) (by omega), by simp⟩, ?_⟩
 refine IdxI.mk ⟨_, ⟨rfl, by omega, by omega⟩, ?_⟩
 refine StoreI.mk fun y7 i7 => ?_
 have ct := ct.at i7 (by intro b hb; simp at hb <;> omega)
 rw [adk]
 refine ⟨⟨⟨_, ct.row.cell (j := 4 * c2 + c1) (by omega)⟩, ct.row.frozen _⟩, Zo.kpD_set hng (fun b hb e => hgr b hb (by simp [e])) (by simp [locs]), ?_⟩
 conv => whnf
 have em : minL (R[4 * c2 + c1]?.getD 0) [(Zo.matL z)[7]?.getD 0] = min (R[4 * c2 + c1]?.getD 0) ((Zo.matL z)[7]?.getD 0) := by simp [minL]; omega
 rw [em]
 have ct := ct.set (j := 4 * c2 + c1) (by omega) (min (R[4 * c2 + c1]?.getD 0) ((Zo.matL z)[7]?.getD 0)) hgB hg1g
 rw [← hpk] at ct
 clear em hpk hln hpl
 generalize y7.setCell _ _ = z7 at ct ⊢
 refine Need.mk (by simp only [inK]; omega) ?_
 refine Branch.yes rfl ?_
 refine GenV.to (x := .int .i64 c2) (fun w => three_at c0 c1 c2 2 w (by decide)) fun u8 k8 => ?_
 have ct := ct.at k8 (by intro b hb; simp at hb <;> omega)
 refine Need.mk (by simp only [inK]; omega) ?_
 refine Need.mk (by simp only [inK]; omega) ?_
 refine DrawI.wr (.tk 0 (.tk 1 (.tk 2 (.tk 3 (.tk 4 (.tk 5 (.tk 6 (.tk 8 (.tk 9 (.tk 10 (.tk 11 (.tk 12 (.tk 13 (.tk 14 (.tk 15 (.ev 7 (.tk 16 (.tk 17 (.ev 18 .done))))))))))))))))))) [] [g] (by kernel_rfl) rfl hgr fun x8 j8 => ?_
 have ct := ct.at j8 (by intro b hb; simp at hb <;> omega)
 have hpl : Cmp.pl c0 c1 c2 8 = 4 * c2 + c2 := rfl
 have hpk : Cmp.put c0 c1 c2 (Zo.matL z) L 9 = (Cmp.put c0 c1 c2 (Zo.matL z) L 8).set (4 * c2 + c2) (min ((Cmp.put c0 c1 c2 (Zo.matL z) L 8)[4 * c2 + c2]?.getD 0) ((Zo.matL z)[8]?.getD 0)) := rfl
 have hln := Cmp.put_len c0 c1 c2 (Zo.matL z) L 8
 generalize Cmp.put c0 c1 c2 (Zo.matL z) L 8 = R at ct hpk hln
 refine LoadI.mk ⟨_, ⟨ct.cell, by simp; exact fun e => hgB e.symm⟩, ?_⟩
 refine LoadI.mk ⟨_, ⟨ct.cell, by simp; exact fun e => hgB e.symm⟩, ?_⟩
 conv => whnf
 rw [show (4 : Int) * c2 + c2 = ((4 * c2 + c2 : Nat) : Int) by omega]
 refine IdxI.mk ⟨_, ⟨rfl, by omega, by omega⟩, ?_⟩
 refine Need.mk (by simp only [inK]; omega) ?_
 refine Need.mk (by simp only [inK]; omega) ?_
 refine IdxI.mk ⟨_, ⟨rfl, by omega, by show _ < (9 : Int); omega⟩, ?_⟩
 refine LoadI.mk ⟨_, ⟨ct.mat.cell (j := 8) (by rw [Zo.matL_len]; omega), by simp; exact hg1g⟩, ?_⟩
 rw [adk]
 refine LoadI.mk ⟨_, ⟨ct.row.cell (j := 4 * c2 + c2) (by omega), by simp⟩, ?_⟩
 refine IdxI.mk ⟨_, ⟨rfl, by omega, by omega⟩, ?_⟩
 refine StoreI.mk fun y8 i8 => ?_
 have ct := ct.at i8 (by intro b hb; simp at hb <;> omega)
 rw [adk]
 refine ⟨⟨⟨_, ct.row.cell (j := 4 * c2 + c2) (by omega)⟩, ct.row.frozen _⟩, Zo.kpD_set hng (fun b hb e => hgr b hb (by simp [e])) (by simp [locs]), ?_⟩
 conv => whnf
 have em : minL (R[4 * c2 + c2]?.getD 0) [(Zo.matL z)[8]?.getD 0] = min (R[4 * c2 + c2]?.getD 0) ((Zo.matL z)[8]?.getD 0) := by simp [minL]; omega
 rw [em]
 have ct := ct.set (j := 4 * c2 + c2) (by omega) (min (R[4 * c2 + c2]?.getD 0) ((Zo.matL z)[8]?.getD 0)) hgB hg1g
 rw [← hpk] at ct
 clear em hpk hln hpl
 generalize y8.setCell _ _ = z8 at ct ⊢
 refine Need.mk (by simp only [inK]; omega) ?_
 refine Branch.no rfl ?_
 refine Need.mk (by simp only [inK]; omega) ?_
 refine Branch.no rfl ?_
 refine EndI.mk fun w9 h9 => ?_
 have ct := ct.at h9 (by intro b hb; simp at hb <;> omega)
 exact ⟨rfl, ct.box, ct.row⟩
abbrev TM : TypeId := 195
theorem infoM : (Tryz.prog.info? 195).map (fun i => (i.zero, i.size, i.bytes)) = some (some (.agg #[.int .i64 0, .int .i64 0]), 2, 16) := by kernel_rfl
theorem elM : ElOk Tryz.prog 227 195 2 16 := elOk (by kernel_rfl) infoM rfl (by decide)
theorem put_any (B base : Nat) (v : Value) (l : List Rt) (x : Rt) (hl : l.length ≤ 1000) (w : World) (hB : B < base) (hb : base ≤ w.heap.size) (hbox : w.heap[B]? = some (.cells #[v] 227 (0, 0))) (hO : Own TM base w v l) :
 Calls Tryz.prog 189 #[.int .i64 x.num, .int .i64 x.den, .pointer (some ⟨B, 0, none⟩)] w fun e w' => ∃ u, e = .returned u ∧ Below B w w' ∧ (u = .tuple #[] ∧ ∃ v', w'.heap[B]? = some (.cells #[v'] 227 (0, 0)) ∧ Own TM base w' v' (l ++ [x])) := by
 refine fun_at 0 B w (Nat.le_of_lt (lt_cellsM hbox)) Tryz.func189 (args := [.val (.int .i64 x.num), .val (.int .i64 x.den), .val (.pointer (some ⟨B, 0, none⟩))]) rfl rfl ?_
 refine LoadI.mk ⟨_, ⟨cell_oneM hbox, by simp⟩, ?_⟩
 refine NewI.mk fun b1 hb1 => ?_
 have hb1' : w.heap.size ≤ b1 := hb1
 refine GenN.app (α := Rt) elM l [x] base (fun w5 h5 => hO.below (at_belowM h5 (by simp))) (fun w5 h5 => src_own h5 0 rfl rfl rfl rfl) (by unfold maxLen; simp; omega) (by simp; omega) (fun w5 h5 => Nat.le_trans hb h5.size)
  (fun w5 w6 h5 hg => keep_grown h5 hg (fun k hk => by have := hO.lt k hk; exact ⟨by show B ≤ k; omega, by simp; omega⟩)) fun v' w5 w6 h5 hg hO' => ?_
 obtain ⟨a', c', rfl⟩ := hO'.form
 have g5 := at_belowM h5 (by simp)
 have hbox5 := (g5.block B (lt_cellsM hbox)).trans hbox
 have hbox6 := (hg.block B (lt_cellsM hbox5) (fun e => by have := hO.lt B e.symm; omega)).trans hbox5
 have hb6 : base ≤ w6.heap.size := Nat.le_trans hb (Nat.le_trans h5.size hg.size)
 refine StoreI.mk fun w7 h7 => ?_
 have g7 := at_belowM h7 (by simp)
 have hbox7 := (g7.block B (lt_cellsM hbox6)).trans hbox6
 have hO7 := hO'.below g7
 have hBb1 : B ≠ b1 := by have := lt_cellsM hbox; omega
 refine ⟨⟨⟨_, cell_oneM hbox7⟩, frozen_oneM hbox7⟩, ⟨below_setCellM (Below.refl _ _) (Nat.le_refl _), fun b hb => setCell_neM (by simp at hb; subst hb; exact fun e => hBb1 e.symm)⟩, ?_⟩
 have hbox8 := setCell_oneM (u := Value.slice a' (l ++ [x]).length c') hbox7
 have hO8 := hO7.setCellM (B := B) (o := 0) (u := Value.slice a' (l ++ [x]).length c') (fun g hgg => by have := hO7.lt g hgg; omega)
 generalize w7.setCell ⟨B, 0, none⟩ (Value.slice a' (l ++ [x]).length c') = w8 at *
 refine EndI.mk fun w9 h9 => ⟨rfl, _, ((at_belowM h9 (by simp)).block B (lt_cellsM hbox8)).trans hbox8, hO8.below (at_belowM h9 (by simp))⟩
theorem tmeet_any (n m : Int) (L M : List Int) (a b : Option Addr) (ca cb : Nat) (w : World) (hS : Sl w.heap.size w (.slice a L.length ca) L) (hT : Sl w.heap.size w (.slice b M.length cb) M) :
 Calls Tryz.prog 157 #[.agg #[.int .i64 n, .slice a L.length ca], .agg #[.int .i64 m, .slice b M.length cb]] w (Ret w fun v w' => ∃ a' c', v = .tuple #[.agg #[.int .i64 (Tg.meet n L m M).1, .slice a' (Tg.meet n L m M).2.1.length c'], .int .i64 (Tg.meet n L m M).2.2] ∧ Fresh TB w.heap.size w' (.slice a' (Tg.meet n L m M).2.1.length c') (Tg.meet n L m M).2.1) := by
 refine fun_ret 0 w Tryz.func157 (args := [.agg [.val (.int .i64 n), .val (.slice a L.length ca)], .agg [.val (.int .i64 m), .val (.slice b M.length cb)]]) rfl rfl ?_
 have st := Stay.first (w := w)
 refine NewI.mk fun b1 hb1 => ?_
 refine NewI.mk fun b2 hb2 => ?_
 refine NewI.mk fun b3 hb3 => ?_
 unfold Tg.meet
 apply CallI.use1
 focus (exact fun w1 h1 => dcheck_any n a ca L w1 (hS.st (st.at h1)))
 intro w1 v1 h1 hB1
 have st := st.nx h1 hB1
 refine Branch.mk (fun hc => ?_) (fun hc => ?_)
 ·have h0 : Dbm.chk n L ≠ 0 := by simpa using hc
  rw [if_pos (.inl h0)]
  exact EndI.mk fun w9 h9 => ⟨_, _, rfl, .inl ⟨rfl, rfl⟩⟩
 have h0 : Dbm.chk n L = 0 := by simpa using hc
 apply CallI.use1
 focus (exact fun w2 h2 => dcheck_any m b cb M w2 (hT.st (st.at h2)))
 intro w2 v2 h2 hB2
 have st := st.nx h2 hB2
 refine Branch.mk (fun hc2 => ?_) (fun hc2 => ?_)
 ·have h1 : Dbm.chk m M ≠ 0 := by simpa using hc2
  rw [if_pos (.inr h1)]
  exact EndI.mk fun w9 h9 => ⟨_, _, rfl, .inl ⟨rfl, rfl⟩⟩
 have h1 : Dbm.chk m M = 0 := by simpa using hc2
 rw [if_neg (by rintro (h | h); exact h h0; exact h h1)]
 refine Branch.mk (fun hc3 => ?_) (fun hc3 => ?_)
 ·have h2 : n ≠ m := by simpa using hc3
  rw [if_pos h2]
  exact EndI.mk fun w9 h9 => ⟨_, _, rfl, .inl ⟨rfl, rfl⟩⟩
 have h2 : n = m := by simpa using hc3
 rw [if_neg (by simp [h2])]
 subst h2
 obtain ⟨c1, c2, c3, c4⟩ := Dbm.chk_iff.1 h0
 obtain ⟨d1, d2, d3, d4⟩ := Dbm.chk_iff.1 h1
 have hLM : L.length = M.length := by omega
 have hL16 : L.length ≤ 16 := by
  have : n = 1 ∨ n = 2 ∨ n = 3 ∨ n = 4 := by omega
  rcases this with rfl | rfl | rfl | rfl <;> omega
 refine NewI.frn fun w3 h3 => ?_
 have hw3 := h3.below
 have hlb : ∀ x, x ∈ [b1, b2, b3] → x < w3.heap.size := fun x hx => h3.lt x hx
 have hbox0 : (w3.alloc (.cells #[.slice none 0 0] 227)).heap[w3.heap.size]? = some (.cells #[.slice none 0 0] 227 (0, 0)) := World.alloc_heap_new w3 _
 have hw4 : Below w.heap.size w (w3.alloc (.cells #[.slice none 0 0] 227)) := hw3.alloc hw3.size _
 have hwB : w.heap.size ≤ w3.heap.size := hw3.size
 generalize hgB : w3.heap.size = B at hbox0 hwB hlb
 generalize w3.alloc (.cells #[.slice none 0 0] 227) = w4 at hbox0 hw4
 have hBb : B < w4.heap.size := lt_cellsM hbox0
 generalize hbs : w4.heap.size = base at hBb
 refine LoopI.invC (α := Nat × World × Value) (fun y => [(31, .val (.int .i64 y.1))]) (fun y => y.2.1)
  (fun y => y.1 ≤ M.length ∧ Below w.heap.size w y.2.1 ∧ base ≤ y.2.1.heap.size ∧ y.2.1.heap[B]? = some (.cells #[y.2.2] 227 (0, 0)) ∧ Own TM base y.2.1 y.2.2 (Tg.enumF M y.1)) (fun y => M.length - y.1) ?_ ?_
 ·intro w5 h5
  have g5 := at_belowM h5 (by simp)
  exact ⟨(0, w5, .slice none 0 0), Cov.au rfl rfl rfl rfl rfl, rfl, Nat.zero_le _, h5.below, by rw [← hbs]; exact h5.size, (g5.block B (lt_cellsM hbox0)).trans hbox0, Own.nil⟩
 rintro ⟨k, U, v⟩ ⟨hk, hU, hbU, hbox, hO⟩
 simp only at hk hU hbU hbox hO
 refine Branch.mk (fun z3 => ?_) (fun z3 => ?_)
 ·have hlt : k < M.length := by have := of_decide_eq_true z3; simp only at this; omega
  have hg := List.getElem?_eq_getElem (l := M) (i := k) hlt
  have hen : Tg.enumF M (k + 1) = Tg.enumF M k ++ [⟨(k : Nat), M[k]'hlt⟩] := by
   show Tg.enumF M k ++ [⟨(k : Nat), M[k]?.getD 0⟩] = _
   rw [hg]; rfl
  generalize M[k]'hlt = x at hg hen
  have hTU := hT.go hU hU.size
  refine hTU.idx hg fun ad had => ?_
  refine hTU.ld1 hg had (Below.refl _ _) (by simp) ?_
  refine CallI.mk fun w6 h6 => ?_
  have g6 := at_belowM h6 (by simp)
  refine (put_any B base v (Tg.enumF M k) ⟨(k : Nat), x⟩ (by rw [Tg.enumF_len]; omega) w6 hBb (Nat.le_trans hbU g6.size) ((g6.block B (lt_cellsM hbox)).trans hbox) (hO.below g6)).mono ?_
  rintro e w7 ⟨u, rfl, hB7, rfl, v', hbox7, hO7⟩
  refine ⟨⟨hB7.mono hwB, fun k hk => hB7.block k (hlb k hk)⟩, _, rfl, ?_⟩
  have hU7 : Below w.heap.size w w7 := (hU.trans (g6.mono hU.size)).trans (hB7.mono hwB)
  rw [← hen] at hO7
  refine Need.mk (by simp only [inK]; omega) (EndI.mk fun w8 h8 => ?_)
  have g8 := at_belowM h8 (by simp)
  exact ⟨(k + 1, w8, v'), Cov.au rfl rfl rfl rfl rfl, rfl, ⟨hlt, h8.below, Nat.le_trans hbU (Nat.le_trans g6.size (Nat.le_trans hB7.size g8.size)), (g8.block B (lt_cellsM hbox7)).trans hbox7, hO7.below g8⟩, by simp only; omega⟩
 ·have hge : k = M.length := by have := of_decide_eq_false z3; simp only at this; omega
  subst hge
  obtain ⟨av, cv, rfl⟩ := hO.form
  have hml : Tg.more L (Tg.enumF M M.length) = Dbm.lessr L M := by rw [Tg.more_enum L M M.length (by omega), ← hLM, Dbm.lessTo_all]
  have hpos : 0 < L.length := by
   have : n = 1 ∨ n = 2 ∨ n = 3 ∨ n = 4 := by omega
   rcases this with rfl | rfl | rfl | rfl <;> omega
  have hwc := fun (w : World) h1 h2 => with_any n a ca L (Tg.enumF M M.length) av cv hpos (by omega) (fun x hx => by have := Tg.enumF_mem hx; omega) w h1 h2
  rw [hml] at hwc
  refine LoadI.mk ⟨_, ⟨cell_oneM hbox, by simp⟩, ?_⟩
  apply CallI.use
  focus (exact fun w6 h6 => hwc w6 (hS.go h6.below h6.below.size) (hO.below (at_belowM h6 (by simp))).sl)
  rintro v w6 v6 h6 hB6 ⟨a6, c6, rfl, hF6⟩
  exact EndI.mk fun w9 h9 => ⟨a6, c6, rfl, (hF6.at h9 (fun b hb => by rw [List.mem_singleton.1 hb]; exact h6.lt b3 (by simp))).lower h6.below.size⟩
namespace Zo
def odd (z : Zn) : Bool := decide (chk z ≠ 0)
def checks (l : List Zn) : Int := if l.any odd = true then 8 else 0
theorem chk_cases (z : Zn) : chk z = 0 ∨ chk z = 8 := by unfold chk; split <;> simp
def meet (a b : Zn) : Zn × Int :=
 if checks [a, b] = 0 then (if (Tg.meet 3 (matL a) 3 (matL b)).2.2 = 0 then told (Tg.meet 3 (matL a) 3 (matL b)).2.1 else (nought, (Tg.meet 3 (matL a) 3 (matL b)).2.2)) else (nought, checks [a, b])
theorem checks_two {a b : Zn} : checks [a, b] = 0 ↔ chk a = 0 ∧ chk b = 0 := by
 unfold checks odd
 rcases chk_cases a with h | h <;> rcases chk_cases b with k | k <;> simp [h, k]
end Zo
theorem zchecked_any (l : List Zn) (a : Option Addr) (cap : Nat) (w : World) (hS : Sl w.heap.size w (.slice a l.length cap) l) :
 Calls Tryz.prog 156 #[.slice a l.length cap] w fun e w' => e = .returned (.int .i64 (Zo.checks l)) ∧ Below w.heap.size w w' := by
 refine fun_eq 0 w Tryz.func156 (args := [.val (.slice a l.length cap)]) rfl rfl ?_
 obtain ⟨_, _, hfe, hcap1, hcap2, _⟩ := hS.form
 injection hfe with _ _ hfe
 subst hfe
 unfold maxLen at hcap2
 unfold Zo.checks
 refine LoopI.invC (α := Nat × World) (fun y => [(8, .val (.int .i64 y.1))]) (fun y => y.2) (fun y => y.1 ≤ l.length ∧ Below w.heap.size w y.2 ∧ (l.take y.1).any Zo.odd = false) (fun y => l.length - y.1) ?_ ?_
 ·intro w1 h1
  exact ⟨(0, w1), Cov.au rfl rfl rfl rfl rfl, rfl, Nat.zero_le _, h1.below, by simp⟩
 rintro ⟨k, W⟩ ⟨hk, hW, hall⟩
 simp only at hk hW hall
 refine Branch.mk (fun hc => ?_) (fun hc => ?_)
 ·have hlt : k < l.length := by simpa using hc
  have hg := List.getElem?_eq_getElem (l := l) (i := k) hlt
  generalize l[k] = x at hg
  have hSW := hS.go hW hW.size
  refine hSW.idx hg fun ad had => ?_
  refine hSW.ld hg had (Below.refl _ _) (by simp) ?_
  refine NewI.mk fun b1 hb1 => ?_
  apply CallI.use1
  focus (exact fun w2 h2 => zcheck_any x w2)
  intro w2 v2 h2 hB2
  refine Branch.mk (fun hc2 => ?_) (fun hc2 => ?_)
  ·have h1 : Zo.chk x ≠ 0 := by simpa using hc2
   rw [if_pos (by rw [List.any_eq_true]; exact ⟨x, List.mem_of_getElem? hg, by unfold Zo.odd; simpa using h1⟩), (Zo.chk_cases x).resolve_left h1]
   exact EndI.mk fun w9 h9 => rfl
  ·have h1 : Zo.chk x = 0 := by simpa using hc2
   refine Need.mk (by simp only [inK]; omega) (EndI.mk fun w9 h9 => ⟨(k + 1, w9), Cov.au rfl rfl rfl rfl rfl, rfl, ⟨hlt, h9.below, ?_⟩, by simp only; omega⟩)
   simp only
   rw [List.take_add_one, hg, List.any_append, hall]
   simp [Zo.odd, h1]
 ·have hge : k = l.length := by have : ¬ k < l.length := by simpa using hc
                                omega
  subst hge
  rw [List.take_length] at hall
  rw [if_neg (by rw [hall]; decide)]
  exact EndI.mk fun w9 h9 => rfl
theorem zmeet_any (a b : Zn) (w : World) :
 Calls Tryz.prog 107 #[.agg #[.int .i64 a.a, .int .i64 a.b, .int .i64 a.c, .int .i64 a.d, .int .i64 a.e, .int .i64 a.f], .agg #[.int .i64 b.a, .int .i64 b.b, .int .i64 b.c, .int .i64 b.d, .int .i64 b.e, .int .i64 b.f]] w fun e w' => e = .returned (.tuple #[.agg #[.int .i64 (Zo.meet a b).1.a, .int .i64 (Zo.meet a b).1.b, .int .i64 (Zo.meet a b).1.c, .int .i64 (Zo.meet a b).1.d, .int .i64 (Zo.meet a b).1.e, .int .i64 (Zo.meet a b).1.f], .int .i64 (Zo.meet a b).2]) ∧ Below w.heap.size w w' := by
 refine fun_eq 0 w Tryz.func107 (args := [.agg [.val (.int .i64 a.a), .val (.int .i64 a.b), .val (.int .i64 a.c), .val (.int .i64 a.d), .val (.int .i64 a.e), .val (.int .i64 a.f)], .agg [.val (.int .i64 b.a), .val (.int .i64 b.b), .val (.int .i64 b.c), .val (.int .i64 b.d), .val (.int .i64 b.e), .val (.int .i64 b.f)]]) rfl rfl ?_
 have st := Stay.first (w := w)
 refine NewI.mk fun b1 hb1 => ?_
 refine NewI.mk fun b2 hb2 => ?_
 refine NewI.mk fun b3 hb3 => ?_
 refine NewI.mk fun b4 hb4 => ?_
 unfold Zo.meet
 apply CallI.use1
 focus (exact fun w1 h1 => zchecked_any [a, b] _ _ w1 (Sl.own (l := [a, b]) h1 3 rfl rfl rfl (Nat.le_refl _) (by simp [maxLen])))
 intro w1 v1 h1 hB1
 have st := st.nx h1 hB1
 refine Branch.mk (fun hc => ?_) (fun hc => ?_)
 ·have h0 : ¬ Zo.checks [a, b] = 0 := by simpa using hc
  rw [if_neg h0]
  exact EndI.mk fun w9 h9 => rfl
 have h0 : Zo.checks [a, b] = 0 := by simpa using hc
 rw [if_pos h0]
 have hmt := fun a1 a2 q1 q2 w h1 h2 => tmeet_any 3 3 (Zo.matL a) (Zo.matL b) a1 a2 q1 q2 w h1 h2
 have h3 : (Tg.meet 3 (Zo.matL a) 3 (Zo.matL b)).2.2 = 0 → (Tg.meet 3 (Zo.matL a) 3 (Zo.matL b)).1 = 3 := fun h => by
  revert h
  unfold Tg.meet
  split
  ·intro h; cases h
  ·split
   ·intro h; cases h
   ·unfold Dbm.close
    split
    ·split
     ·intro h; rfl
     ·intro h; cases h
    ·intro h; cases h
 generalize Tg.meet 3 (Zo.matL a) 3 (Zo.matL b) = X at *
 obtain ⟨n, C, e⟩ := X
 simp only at h3 hmt ⊢
 refine DrawI.go (.tk 0 (.tk 2 (.two 1 (.two 3 (.two 4 (.tk 5 (.tk 6 (.tk 7 (.ev 8 (.ev 9 (.tk 10 .done)))))) 8 (.ev 4 (.tk 5 (.tk 6 (.tk 7 (.ev 9 (.tk 10 .done))))))) 8 (.ev 3 (.ev 4 (.tk 5 (.tk 6 (.tk 7 (.ev 9 (.tk 10 .done)))))))) 8 (.ev 1 (.ev 3 (.ev 4 (.tk 5 (.tk 6 (.tk 7 (.ev 9 (.tk 10 .done))))))))))) (by kernel_rfl) fun w2 h2 => ?_
 have st := st.at h2
 refine Both.mk ?_ ?_
 ·skip
  apply CallI.use
  focus (exact fun wA hA => zmatrix_any a wA)
  rintro v wA vA hA hBA ⟨aA, qA, rfl, hFA⟩
  have st := st.next hA (fun x hx => by simp at hx <;> omega) hBA
  refine Both.mk ?_ ?_
  ·skip
   apply CallI.use
   focus (exact fun wB hB => zmatrix_any b wB)
   rintro v wB vB hB hBB ⟨aB, qB, rfl, hFB⟩
   have st := st.next hB (fun x hx => by simp at hx <;> omega) hBB
   refine Both.mk ?_ ?_
   ·skip
    apply CallI.use
    focus (exact fun wC hC => hmt aA aB qA qB wC ((hFA.st (st.at hC (fun x hx => by simp at hx <;> omega))).sl) ((hFB.st (st.at hC (fun x hx => by simp at hx <;> omega))).sl))
    rintro v wC vC hC hBC ⟨aC, qC, rfl, hFC⟩
    have st := st.next hC (fun x hx => by simp at hx <;> omega) hBC
    refine NewI.mk fun b9 hb9 => ?_
    by_cases h9 : e = 0
    ·have hn := h3 h9
     subst hn
     rw [if_pos h9]
     refine Branch.no (by simp [h9]) ?_
     apply CallI.use1
     focus (exact fun w8 h8 => ztold_any aC qC C w8 ((hFC.st (st.at h8)).sl))
     intro w8 v8 h8 hB8
     exact EndI.mk fun w9 h9 => rfl
    ·refine Branch.yes (by simp [h9]) ?_
     rw [if_neg h9]
     exact EndI.mk fun w9 h9 => rfl
   ·skip
    refine NewI.mk fun b9 hb9 => ?_
    apply CallI.use
    focus (exact fun wC hC => hmt aA aB qA qB wC ((hFA.st (st.at hC (fun x hx => by simp at hx <;> omega))).sl) ((hFB.st (st.at hC (fun x hx => by simp at hx <;> omega))).sl))
    rintro v wC vC hC hBC ⟨aC, qC, rfl, hFC⟩
    have st := st.next hC (fun x hx => by simp at hx <;> omega) hBC
    by_cases h9 : e = 0
    ·have hn := h3 h9
     subst hn
     rw [if_pos h9]
     refine Branch.no (by simp [h9]) ?_
     apply CallI.use1
     focus (exact fun w8 h8 => ztold_any aC qC C w8 ((hFC.at h8 (fun b hb => by rw [List.mem_singleton.1 hb]; exact hC.lt b9 (by simp))).sl))
     intro w8 v8 h8 hB8
     exact EndI.mk fun w9 h9 => rfl
    ·refine Branch.yes (by simp [h9]) ?_
     rw [if_neg h9]
     exact EndI.mk fun w9 h9 => rfl
  ·skip
   refine NewI.mk fun b9 hb9 => ?_
   apply CallI.use
   focus (exact fun wB hB => zmatrix_any b wB)
   rintro v wB vB hB hBB ⟨aB, qB, rfl, hFB⟩
   have st := st.next hB (fun x hx => by simp at hx <;> omega) hBB
   apply CallI.use
   focus (exact fun wC hC => hmt aA aB qA qB wC ((hFA.st (st.at hC (fun x hx => by simp at hx <;> omega))).sl) ((hFB.st (st.at hC (fun x hx => by simp at hx <;> omega))).sl))
   rintro v wC vC hC hBC ⟨aC, qC, rfl, hFC⟩
   have st := st.next hC (fun x hx => by simp at hx <;> omega) hBC
   by_cases h9 : e = 0
   ·have hn := h3 h9
    subst hn
    rw [if_pos h9]
    refine Branch.no (by simp [h9]) ?_
    apply CallI.use1
    focus (exact fun w8 h8 => ztold_any aC qC C w8 ((hFC.at h8 (fun b hb => by rw [List.mem_singleton.1 hb]; exact hC.lt b9 (by simp))).sl))
    intro w8 v8 h8 hB8
    exact EndI.mk fun w9 h9 => rfl
   ·refine Branch.yes (by simp [h9]) ?_
    rw [if_neg h9]
    exact EndI.mk fun w9 h9 => rfl
 ·skip
  refine NewI.mk fun b9 hb9 => ?_
  apply CallI.use
  focus (exact fun wA hA => zmatrix_any a wA)
  rintro v wA vA hA hBA ⟨aA, qA, rfl, hFA⟩
  have st := st.next hA (fun x hx => by simp at hx <;> omega) hBA
  apply CallI.use
  focus (exact fun wB hB => zmatrix_any b wB)
  rintro v wB vB hB hBB ⟨aB, qB, rfl, hFB⟩
  have st := st.next hB (fun x hx => by simp at hx <;> omega) hBB
  apply CallI.use
  focus (exact fun wC hC => hmt aA aB qA qB wC ((hFA.st (st.at hC (fun x hx => by simp at hx <;> omega))).sl) ((hFB.st (st.at hC (fun x hx => by simp at hx <;> omega))).sl))
  rintro v wC vC hC hBC ⟨aC, qC, rfl, hFC⟩
  have st := st.next hC (fun x hx => by simp at hx <;> omega) hBC
  by_cases h9 : e = 0
  ·have hn := h3 h9
   subst hn
   rw [if_pos h9]
   refine Branch.no (by simp [h9]) ?_
   apply CallI.use1
   focus (exact fun w8 h8 => ztold_any aC qC C w8 ((hFC.at h8 (fun b hb => by rw [List.mem_singleton.1 hb]; exact hC.lt b9 (by simp))).sl))
   intro w8 v8 h8 hB8
   exact EndI.mk fun w9 h9 => rfl
  ·refine Branch.yes (by simp [h9]) ?_
   rw [if_neg h9]
   exact EndI.mk fun w9 h9 => rfl
theorem elDI : ElOk Tryz.prog 48 3 1 8 := elOk (z := .int .i64 0) Tryz.underlying48 (by kernel_rfl) rfl (by decide)
theorem tyDI : TyOk Tryz.prog 3 ⟨[.int .i64 0], false⟩ := tyOk_one Tryz.zeroValue3 Tryz.sizeOf3 Tryz.isAgg3 rfl
theorem deleteI_any (l : List Int) (g cap base i j : Nat) (e0 : TypeId) (he : e0 = 3) (hij : i < j) (hj : j ≤ l.length) (B : Nat) (w : World) (hB : B ≤ w.heap.size) (hg : B ≤ g) (hO : Own e0 base w (.slice (some ⟨g, 0, none⟩) l.length cap) l) (hlen : l.length ≤ 1000000) :
 Calls Tryz.prog 190 #[.slice (some ⟨g, 0, none⟩) l.length cap, .int .i64 i, .int .i64 j] w fun e w' => ∃ v, e = .returned v ∧ Below B w w' ∧ v = .slice (some ⟨g, 0, none⟩) (i + (l.length - j)) cap ∧ Own e0 base w' (.slice (some ⟨g, 0, none⟩) (i + (l.length - j)) cap) (l.take i ++ l.drop j) ∧ w.grownBy w' (some g) := by
 subst he
 obtain ⟨_, hbg, hgl, cur0, _, hcap, hmax, _, _⟩ := hO.at0
 have hm : cap ≤ 9223372036854775807 := by unfold maxLen at hmax; omega
 refine fun_at 0 B w hB Tryz.func190 (args := [.val (.slice (some ⟨g, 0, none⟩) l.length cap), .val (.int .i64 i), .val (.int .i64 j)]) rfl rfl ?_
 refine Need.mk ⟨by omega, by omega, by omega, by omega⟩ ?_
 refine Branch.no (by simp; omega) ?_
 refine DrawI.wr (.tk 0 (.tk 1 (.tk 2 (.tk 3 (.tk 4 (.tk 5 (.ev 6 (.tk 7 .done)))))))) [] [g] (by kernel_rfl) rfl (fun _ h => by cases h) fun w1 h1 => ?_
 refine Need.mk ⟨by omega, by omega, by omega⟩ ?_
 refine Need.mk ⟨by omega, by omega, by omega⟩ ?_
 have hdl : (l.drop j).length = l.length - j := by simp
 have hil : (l.take i).length = i := by simp; omega
 refine GenN.mk fun w2 h2 => ?_
 have k2 := h1.go.trans (h2.go.mono h1.size)
 have hO2 : Own 3 base w2 (.slice (some ⟨g, 0, none⟩) l.length cap) l := hO.below k2
 have hT := hO2.take i (by omega)
 have hs0 := (hO2.sl).sub j l.length hj (Nat.le_refl _)
 rw [List.take_of_length_le (by simp)] at hs0
 obtain ⟨hl, hs⟩ := hs0.src
 have happ : ∃ w', (Builtin.append_ #[48, 48] 48 #[.slice (some ⟨g, 0, none⟩) i cap, .slice (if cap = j then some ⟨g, 0, none⟩ else (some (⟨g, 0, none⟩ : Addr)).map (·.add (j * size Int))) (l.length - j) (cap - j)]).run Tryz.prog w2 = .ok (.slice (some ⟨g, 0, none⟩) (i + (l.length - j)) cap) w' ∧
  Own 3 base w' (.slice (some ⟨g, 0, none⟩) (i + (l.length - j)) cap) (l.take i ++ l.drop j) ∧ w2.grownBy w' (some g) := by
  obtain ⟨ht, ⟨inf, z, hi, hz, hss, hb, hzs⟩, hp⟩ := elDI
  have hown : w2.ownsRow base 3 (size Int) (.slice (some ⟨g, 0, none⟩) i cap) i (cellsL (l.take i)) := by have := hT; unfold Own at this; rwa [hil] at this
  rcases hs with ⟨e0, hm0⟩ | ⟨ad, c, e0, hc⟩
  ·split at e0 <;> simp at e0
  ·rw [e0]
   rw [hdl] at hl ⊢
   obtain ⟨w', a1, a2, a3⟩ := run_append_fits (P := Tryz.prog) w2 base 48 48 3 inf (size Int) ht hi hss g i cap (cellsL (l.take i)) hown ad (l.length - j) c (cellsL (l.drop j)) hl hc (cellsL_one _) (by omega)
   refine ⟨w', a1, ?_, a3⟩
   unfold Own
   rw [cellsL_append, List.length_append, hil, hdl]; exact a2
 obtain ⟨w3, hr3, hO3, hg3⟩ := happ
 refine ⟨.slice (some ⟨g, 0, none⟩) (i + (l.length - j)) cap, w3, ?_, kpD_grown h2 hg3 (fun k hk => by injection hk with hk; subst hk; exact ⟨hg, by simp, .inl (by simp [locs])⟩), ?_⟩
 ·exact run_value hr3
 have hnl : (l.take i ++ l.drop j).length = i + (l.length - j) := by rw [List.length_append, hil, hdl]
 refine Need.mk ⟨by omega, by omega, by omega⟩ ?_
 refine GenN.mk fun w4 h4 => ?_
 have hO4 := hO3.below h4.go
 have g4 : w.grownBy w4 (some g) := grown_below (grown_trans (grown_below (grown_refl w (some g)) k2) hg3) h4.go
 obtain ⟨_, _, hgl4, cur, hc4, _, _, hs4, _⟩ := hO4.at0
 have hlo : i + (l.length - j) < l.length := by omega
 have hroom : (i + (l.length - j)) * size Int + (j - i) * size Int ≤ cur.size := by
  rw [hs4, ← Nat.add_mul]; exact Nat.mul_le_mul_right _ (by omega)
 obtain ⟨vs, hvl, hrun⟩ := run_clear (P := Tryz.prog) (c := cap - (i + (l.length - j))) elDI.ht tyDI (by decide) (o := (i + (l.length - j)) * size Int) (n := j - i) hc4 hroom (by omega)
 have hvl' : vs.length = (j - i) * size Int := hvl
 refine ⟨_, _, hrun _ _ _ ?_, ⟨below_setRow (Below.refl _ _) hg _, fun b hb => by cases hb⟩, ?_⟩
 ·show Value.slice (if cap = _ then _ else _) _ _ = _
  rw [if_neg (by simp only [Int.toNat_natCast]; omega)]
  simp only [Int.toNat_natCast, Option.map_some, addr_addL, Nat.zero_add, Value.slice.injEq, true_and]
  exact ⟨rfl, by omega, trivial⟩
 refine EndI.mk fun w5 h5 => ?_
 refine ⟨rfl, (hO4.setRow hc4 _ vs (by rw [hnl]; exact Nat.le_refl _) (by rw [hvl']; exact hroom)).below h5.go, ?_⟩
 exact grown_below (grown_trans g4 (grown_setRow w4 g _)) h5.go
end Go.Proofs.YtanhnllkccldhaaGreat
