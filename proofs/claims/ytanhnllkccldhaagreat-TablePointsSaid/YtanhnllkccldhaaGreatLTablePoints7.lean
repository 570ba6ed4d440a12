/-
  Merged texts of this law (each with its own head below).
-/
import Derived.Test.YtanhnllkccldhaaGreatLTablePoints6
import Derived.Test.YtanhnllkccldhaaGreatLTablePoints3
import Derived.Test.YtanhnllkccldhaaGreatLTablePoints5
import Derived.Test.YtanhnllkccldhaaGreatLTablePoints4
import Derived.Lib.SliceRun
import Derived.Maps.Own
import Derived.Maps.Views
import Derived.Laws.StructEq
namespace Go.Proofs.YtanhnllkccldhaaGreat
set_option linter.unusedVariables false
set_option linter.unusedSimpArgs false
open Go.RowKit Go.Proofs.YtanhnllkccldhaaGreat.Eng Enc
namespace Dbm
theorem cyc {N : Nat} {L C : List Int} (h0 : chk N L = 0) (h : closeL N L = some C) {i j : Nat} (hi : i < N) (hj : j < N) (hij : i ≠ j) : ole (some 1) (oadd (mx N L i j) (mx N L j i)) := by
 obtain ⟨L1, a2, a3, inv, hl, hE⟩ := close_inv h0 h
 have c1 := inv.closed i i j hi hi hj
 rw [inv.diag i hi] at c1
 have e1 : mx N L1 i j = mx N L i j := by unfold mx; rw [a3 i j hi hj, if_neg hij]
 have e2 : mx N L1 j i = mx N L j i := by unfold mx; rw [a3 j i hj hi, if_neg (fun e => hij e.symm)]
 have l1 := inv.low i j hi hj
 have l2 := inv.low j i hj hi
 rw [e1] at l1
 rw [e2] at l2
 exact ole_trans c1 (oadd_mono l1 l2)
theorem ob1 : ob 1 = some 1 := by unfold ob; rw [if_neg (by unfold NO; decide)]
theorem lim1 {m : Int} (h : 1 ≤ m) : lim m 1 := .inr (by omega)
theorem clo2 {p q : Int} (hp : lim 864691128455135232 p) (hq : lim 864691128455135232 q) (h : ole (some 1) (oadd (ob p) (ob q))) : Clo 2 [1, p, q, 1] := by
 have h' : ole (some 1) (oadd (ob q) (ob p)) := by rw [oadd_comm]; exact h
 refine ⟨rfl, fun i hi => ?_, fun i j a hi hj ha => ?_, fun i j hi hj => ?_⟩
 ·rcases (by omega : i = 0 ∨ i = 1) with rfl | rfl <;> rfl
 ·rcases (by omega : i = 0 ∨ i = 1) with rfl | rfl <;> rcases (by omega : j = 0 ∨ j = 1) with rfl | rfl <;> rcases (by omega : a = 0 ∨ a = 1) with rfl | rfl <;> simp [mx, ob1, oadd_one, one_oadd, ole_refl, h, h']
 ·rcases (by omega : i = 0 ∨ i = 1) with rfl | rfl <;> rcases (by omega : j = 0 ∨ j = 1) with rfl | rfl <;> first | exact lim1 (by decide) | exact hp | exact hq
theorem ole_none (a : OB) : ole a none := by cases a <;> trivial
end Dbm
namespace Wn
open Mi Dbm
def spMay (s : Sp) : Bool := decide (-288230376151711744 ≤ s.lo) && decide (s.lo ≤ 288230376151711744) && (if s.op = true then decide (s.hi = 0) && !s.hs else decide (s.lo ≤ s.hi) && decide (s.hi ≤ 288230376151711744))
theorem mayC_of {b : Int} (h : b = NO ∨ (-288230376151711744 ≤ b / 2 ∧ b / 2 ≤ 288230376151711744)) : Dbm.mayC b = true := by
 unfold Dbm.mayC
 rcases h with h | h
 ·rw [h]; decide
 ·simp [h]
theorem ab_lim {s : Sp} (h : spMay s = true) : Rg.ab s = NO ∨ (-288230376151711744 ≤ Rg.ab s / 2 ∧ Rg.ab s / 2 ≤ 288230376151711744) := by
 unfold spMay at h
 unfold Rg.ab
 split
 ·exact .inl rfl
 ·rename_i ho
  rw [if_neg ho] at h
  simp only [Bool.and_eq_true, decide_eq_true_eq] at h
  right
  unfold Bd.mk
  split <;> omega
theorem be_lim {s : Sp} (h : spMay s = true) : -288230376151711744 ≤ Rg.be s / 2 ∧ Rg.be s / 2 ≤ 288230376151711744 := by
 unfold spMay at h
 simp only [Bool.and_eq_true, decide_eq_true_eq] at h
 unfold Rg.be Bd.mk
 split <;> omega
theorem sides_may (s : Sp) : (Tg.sides s).2.2 = spMay s ∧ (spMay s = true → Tg.sides s = (Rg.be s, Rg.ab s, true)) := by
 have hof : ∀ c b, -288230376151711744 ≤ c → c ≤ 288230376151711744 → Tg.of c b = Bd.mk c b := fun c b h1 h2 => by
  unfold Tg.of Bd.made Num.okB
  rw [if_pos (by simp; omega)]
 constructor
 ·unfold Tg.sides spMay Tg.bad
  by_cases ho : s.op = true
  ·rw [if_pos ho, if_pos ho]
   split
   ·rename_i hb
    simp only [Bool.or_eq_true, decide_eq_true_eq] at hb
    symm
    simp only [Bool.and_eq_false_iff, decide_eq_false_iff_not]
    omega
   ·rename_i hb
    simp only [Bool.or_eq_true, decide_eq_true_eq] at hb
    simp only
    rw [decide_eq_true (by omega : -288230376151711744 ≤ s.lo), decide_eq_true (by omega : s.lo ≤ 288230376151711744)]
    simp
  ·rw [if_neg ho, if_neg ho]
   split
   ·rename_i hb
    simp only [Bool.or_eq_true, decide_eq_true_eq] at hb
    symm
    simp only [Bool.and_eq_false_iff, decide_eq_false_iff_not]
    omega
   ·rename_i hb
    simp only [Bool.or_eq_true, decide_eq_true_eq] at hb
    simp only
    rw [decide_eq_true (by omega : -288230376151711744 ≤ s.lo), decide_eq_true (by omega : s.lo ≤ 288230376151711744), decide_eq_true (by omega : s.hi ≤ 288230376151711744)]
    simp
 ·intro h
  have h' := h
  unfold spMay at h
  simp only [Bool.and_eq_true, decide_eq_true_eq] at h
  have hnb : ¬ Tg.bad s = true := by
   unfold Tg.bad
   simp only [Bool.or_eq_true, decide_eq_true_eq]
   by_cases ho : s.op = true
   ·rw [if_pos ho] at h; simp at h; omega
   ·rw [if_neg ho] at h; simp at h; omega
  unfold Tg.sides
  rw [if_neg hnb]
  by_cases ho : s.op = true
  ·rw [if_pos ho] at h ⊢
   unfold Rg.ab
   rw [if_pos ho, hof _ _ (by omega) (by omega), h.2]
   unfold Rg.be
   rw [Int.zero_sub]
  ·rw [if_neg ho] at h ⊢
   simp at h
   unfold Rg.ab
   rw [if_neg ho, hof _ _ (by omega) (by omega), hof _ _ (by omega) (by omega), decide_eq_true (by omega : s.lo ≤ s.hi)]
   unfold Rg.be
   rw [Int.zero_sub]
def spOk (s : Sp) : Prop := ole (some 1) (oadd (ob (Rg.be s)) (ob (Rg.ab s)))
theorem lim_of {b : Int} (h : b = NO ∨ (-288230376151711744 ≤ b / 2 ∧ b / 2 ≤ 288230376151711744)) : lim 864691128455135232 b := by
 rcases h with h | h
 ·exact .inl h
 ·exact .inr (by omega)
theorem btw_may {s : Sp} (h : spMay s = true) : (spOk s ∧ Zo.btw s = (2, [1, Rg.be s, Rg.ab s, 1], 0)) ∨ (¬ spOk s ∧ Zo.btw s = (0, [], 6)) := by
 obtain ⟨_, h2⟩ := sides_may s
 have hs := h2 h
 have ha := ab_lim h
 have hb := be_lim h
 have k0 : Dbm.chk 2 (Dbm.topL 2) = 0 := by decide
 have ht : Dbm.topL 2 = [1, NO, NO, 1] := by decide
 have m1 : min NO (Rg.be s) = Rg.be s := by unfold NO; omega
 have m2 : min NO (Rg.ab s) = Rg.ab s := by rcases ha with ha | ha <;> unfold NO at * <;> omega
 have hmore : Tg.more (Dbm.topL 2) [⟨1, Rg.be s⟩, ⟨1 * 2, Rg.ab s⟩] = [1, Rg.be s, Rg.ab s, 1] := by
  rw [ht]
  simp [Tg.more, List.set, m1, m2]
 have hck : Dbm.chk 2 [1, Rg.be s, Rg.ab s, 1] = 0 := by
  refine chk_iff.2 ⟨by decide, by decide, rfl, ?_⟩
  have e1 : mayC 1 = true := by decide
  simp only [List.any_cons, List.any_nil, e1, mayC_of (.inr hb), mayC_of ha, Bool.not_true, Bool.or_false]
 have hbt : Zo.btw s = Dbm.close 2 [1, Rg.be s, Rg.ab s, 1] := by
  unfold Zo.btw Tg.between
  rw [if_pos k0, if_pos ⟨by decide, by decide⟩, hs, if_pos rfl, hmore]
 rw [hbt]
 unfold Dbm.close
 rw [if_pos hck]
 by_cases hok : spOk s
 ·left
  have hc : Clo 2 [1, Rg.be s, Rg.ab s, 1] := clo2 (lim_of (.inr hb)) (lim_of ha) hok
  refine ⟨hok, ?_⟩
  show (match closeL 2 _ with | some L' => ((2 : Int), L', (0 : Int)) | none => (0, [], 6)) = _
  rw [hc.close]
 ·right
  refine ⟨hok, ?_⟩
  show (match closeL 2 _ with | some L' => ((2 : Int), L', (0 : Int)) | none => (0, [], 6)) = _
  cases hC : closeL 2 [1, Rg.be s, Rg.ab s, 1] with
  | none => rfl
  | some C => exact absurd (cyc (N := 2) hck hC (i := 0) (j := 1) (by decide) (by decide) (by decide)) hok
end Wn
end Go.Proofs.YtanhnllkccldhaaGreat
namespace Go.Proofs.YtanhnllkccldhaaGreat
set_option linter.unusedVariables false
set_option linter.unusedSimpArgs false
set_option maxRecDepth 100000
open Go.RowKit Go.Proofs.YtanhnllkccldhaaGreat.Eng Enc
namespace Fr
end Fr
def Dbm.kp (L : List Int) (M : List Rt) (i j : Nat) : Bool := (Fr.keeps (M[i]?.getD ⟨0, 1⟩) (M[j]?.getD ⟨0, 1⟩) (L[i * 3 + j]?.getD 0)).1
namespace Zs
end Zs
namespace Rg
end Rg
namespace Rg
def btw (a b : List Int) (long : Int) (x : Int) : Bool := isR long x && (List.range (6 * long + 1).toNat).any fun n => decide (number ⟨(pt x long).t, six n⟩ long ∈ a) && decide (number ⟨six n, (pt x long).u⟩ long ∈ b)
def comp (a b : List Int) (long : Int) : List Int × Int :=
 if fits long = false then ([], 2) else if mayL a long = true ∧ mayL b long = true then (up long (btw a b long), 0) else ([], 8)
end Rg
end Go.Proofs.YtanhnllkccldhaaGreat
namespace Go.Proofs.YtanhnllkccldhaaGreat
set_option linter.unusedVariables false
set_option linter.unusedSimpArgs false
open Go.RowKit Go.Proofs.YtanhnllkccldhaaGreat.Eng Enc
namespace Ky
open Dbm Mi Cv Zs Cmp
theorem tvs_one (a b : Rt) : Dbm.tvs [a, b] 1 = Fr.v a := rfl
theorem tvs_two (a b : Rt) : Dbm.tvs [a, b] 2 = Fr.v b := rfl
def rl (l : List Zn) (long : Int) : List Int := Rg.up long (Rg.inL l long)
end Ky
namespace Ky
open Dbm Mi Cv Zs Cmp
def Ah (l : List Zn) : Prop := ∀ z, z ∈ l → Zo.chk z = 0 ∧ z.f ≤ 0
theorem Ah.chk {l : List Zn} (h : Ah l) : ∀ z, z ∈ l → Zo.chk z = 0 := fun z hz => (h z hz).1
end Ky
end Go.Proofs.YtanhnllkccldhaaGreat
namespace Go.Proofs.YtanhnllkccldhaaGreat
set_option linter.unusedVariables false
set_option linter.unusedSimpArgs false
set_option maxRecDepth 100000
open Go.RowKit Go.Proofs.YtanhnllkccldhaaGreat.Eng Enc
namespace Rg
end Rg
namespace Rg
end Rg
namespace Rg
def inSp (s : Sp) (a : Rt) : Bool := (Fr.keeps ⟨0, 1⟩ a (be s)).1 && (Fr.keeps a ⟨0, 1⟩ (ab s)).1
end Rg
namespace Rg
def gap (n long : Int) : Rt := (Fr.add (pt n long).u ⟨0 - (pt n long).t.num, (pt n long).t.den⟩).1
def spF (s : Sp) (long : Int) (x : Int) : Bool := inSp s (gap x long)
def within (a : List Int) (s : Sp) (long : Int) : List Int × Int :=
 if fits long = false then ([], 2) else if mayL a long = true ∧ Wn.spMay s = true then (a.filter (spF s long), 0) else ([], 8)
end Rg
namespace Rg
end Rg
namespace Rg
end Rg
namespace Rg
open Dbm Fr
end Rg
namespace Rg
def orI : List Int → List Int → List Int
 | [], b => b
 | a, [] => a
 | x :: a, y :: b => if x < y then x :: orI a (y :: b) else if x = y then y :: orI a b else y :: orI (x :: a) b
termination_by a b => a.length + b.length
def andI : List Int → List Int → List Int
 | [], _ => []
 | x :: a, b => if (b.dropWhile fun y => decide (y < x)).head? = some x then x :: andI a (b.dropWhile fun y => decide (y < x)) else andI a (b.dropWhile fun y => decide (y < x))
end Rg
namespace Rg
end Rg
end Go.Proofs.YtanhnllkccldhaaGreat
namespace Go.Proofs.YtanhnllkccldhaaGreat
set_option linter.unusedVariables false
set_option linter.unusedSimpArgs false
open Go.RowKit Go.Proofs.YtanhnllkccldhaaGreat.Eng Enc
namespace Ky
open Dbm Mi Cv Zs
end Ky
namespace Cl
open Cv Zs Ky Cmp
def cmpV (a b : List Int) (long : Int) : List Int := Rg.up long fun x => (Rg.point x long).2 && Rg.btwB (Rg.mks a (Rg.many long).1.toNat a.length) (Rg.mks b (Rg.many long).1.toNat b.length) (Rg.pt x long) long (6 * long + 1).toNat
def nextV (p : List Int) (long : Int) (x : List Int) : List Int := Rg.orI x (cmpV x p long)
def St (p : List Int) (long : Int) : List Int → List (List Int) → Prop
 | x, [] => ¬ x.length < (nextV p long x).length
 | x, y :: ms => y = nextV p long x ∧ x.length < y.length ∧ St p long y ms
theorem St.same {p : List Int} {long : Int} : ∀ {x : List Int} {l m : List (List Int)}, St p long x l → St p long x m → l = m
 | x, [], [], _, _ => rfl
 | x, [], y :: m, h, k => absurd (k.1 ▸ k.2.1) h
 | x, y :: l, [], h, k => absurd (h.1 ▸ h.2.1) k
 | x, y :: l, z :: m, h, k => by
   obtain rfl : y = z := h.1.trans k.1.symm
   rw [St.same h.2.2 k.2.2]
def Rs (long : Int) (x : List Int) : Prop := x.Pairwise (fun a b => a < b) ∧ ∀ n, n ∈ x → n ∈ regs long
theorem Rs.len {long : Int} {x : List Int} (h : Rs long x) : x.length ≤ (regs long).length := nodup_sub _ _ (h.1.imp fun k => by omega) h.2
end Cl
end Go.Proofs.YtanhnllkccldhaaGreat
namespace Go.Proofs.YtanhnllkccldhaaGreat
set_option linter.unusedVariables false
set_option linter.unusedSimpArgs false
set_option maxRecDepth 100000
open Go.RowKit Go.Proofs.YtanhnllkccldhaaGreat.Eng Enc
namespace Tr
def fitN (n : Int) : Bool := decide (0 ≤ n) && decide (n < 288230376151711744)
def ival (s : Sp) : Int :=
 if fitN s.lo = false ∨ fitN s.hi = false ∨ (s.op = true ∧ (s.hi ≠ 0 ∨ s.hs = true)) then 8 else if s.op = false ∧ (s.hi < s.lo ∨ (s.lo = s.hi ∧ (s.ls = true ∨ s.hs = true))) then 162 else 0
end Tr
theorem interval1_any (n : Int) (w : World) : Calls Tryz.prog 70 #[.int .i64 n] w fun e w' => e = .returned (.bool (Tr.fitN n)) ∧ Below w.heap.size w w' := by
 refine fun_eq 0 w Tryz.func70 (args := [.val (.int .i64 n)]) rfl rfl ?_
 unfold Tr.fitN
 refine Branch.mk (fun h1 => ?_) (fun h1 => ?_)
 ·have h1 : decide (0 ≤ n) = true := h1
  exact EndI.mk fun w9 h9 => by rw [h1]; rfl
 ·have h1 : decide (0 ≤ n) = false := h1
  exact EndI.mk fun w9 h9 => by rw [h1]; rfl
theorem interval_any (s : Sp) (w : World) : Calls Tryz.prog 33 #[.agg #[.int .i64 s.lo, .bool s.ls, .int .i64 s.hi, .bool s.hs, .bool s.op]] w fun e w' => e = .returned (.int .i64 (Tr.ival s)) ∧ Below w.heap.size w w' := by
 refine fun_eq 0 w Tryz.func33 (args := [.agg [.val (.int .i64 s.lo), .val (.bool s.ls), .val (.int .i64 s.hi), .val (.bool s.hs), .val (.bool s.op)]]) rfl rfl ?_
 obtain ⟨lo, ls, hi, hs, op⟩ := s
 refine NewI.mk fun b1 hb1 => ?_
 unfold Tr.ival
 simp only
 refine CallI.to1 (fun w => interval1_any lo w) fun w2 => ?_
 refine Branch.mk (fun h1 => ?_) (fun h1 => ?_)
 ·rw [if_pos (.inl (by simpa using h1))]
  exact EndI.mk fun w9 h9 => rfl
 have h1 : Tr.fitN lo = true := by simpa using h1
 refine CallI.to1 (fun w => interval1_any hi w) fun w3 => ?_
 refine Branch.mk (fun h2 => ?_) (fun h2 => ?_)
 ·rw [if_pos (.inr (.inl (by simpa using h2)))]
  exact EndI.mk fun w9 h9 => rfl
 have h2 : Tr.fitN hi = true := by simpa using h2
 refine Branch.mk (fun h3 => ?_) (fun h3 => ?_)
 ·have h3 : op = true := h3
  refine Branch.mk (fun h4 => ?_) (fun h4 => ?_)
  ·rw [if_pos (.inr (.inr ⟨h3, .inl (by simpa using h4)⟩))]
   exact EndI.mk fun w9 h9 => rfl
  have h4 : hi = 0 := by simpa using h4
  refine Branch.mk (fun h5 => ?_) (fun h5 => ?_)
  ·rw [if_pos (.inr (.inr ⟨h3, .inr h5⟩))]
   exact EndI.mk fun w9 h9 => rfl
  have h5 : hs = false := h5
  rw [if_neg (by rw [h1, h2, h3, h5, h4]; simp), if_neg (by rw [h3]; simp)]
  refine Branch.no (by rw [h3]; rfl) ?_
  exact EndI.mk fun w9 h9 => rfl
 have h3 : op = false := h3
 rw [if_neg (by rw [h1, h2, h3]; simp)]
 refine Branch.yes (by rw [h3]; rfl) ?_
 refine Branch.mk (fun h4 => ?_) (fun h4 => ?_)
 ·rw [if_pos ⟨h3, .inl (by simpa using h4)⟩]
  exact EndI.mk fun w9 h9 => rfl
 have h4 : ¬ hi < lo := by simpa using h4
 refine Branch.mk (fun h5 => ?_) (fun h5 => ?_)
 ·have h5 : lo = hi := by simpa using h5
  refine Branch.mk (fun h6 => ?_) (fun h6 => ?_)
  ·rw [if_pos ⟨h3, .inr ⟨h5, .inl h6⟩⟩]
   exact EndI.mk fun w9 h9 => rfl
  have h6 : ls = false := h6
  refine Branch.mk (fun h7 => ?_) (fun h7 => ?_)
  ·rw [if_pos ⟨h3, .inr ⟨h5, .inr h7⟩⟩]
   exact EndI.mk fun w9 h9 => rfl
  have h7 : hs = false := h7
  rw [if_neg (by rw [h6, h7]; simp; intro _; omega)]
  exact EndI.mk fun w9 h9 => rfl
 ·have h5 : ¬ lo = hi := by simpa using h5
  rw [if_neg (by rintro ⟨_, h | ⟨h, _⟩⟩; exact h4 h; exact h5 h)]
  exact EndI.mk fun w9 h9 => rfl
namespace Tb
theorem may_iff (l : List Zn) : may l = true ↔ Zs.check l = 0 ∧ Cl.odd l = false := by
 unfold may Zs.check
 simp only [Bool.and_eq_true, decide_eq_true_eq, Bool.not_eq_true']
 constructor
 ·rintro ⟨h1, h2, h3⟩
  exact ⟨by rw [if_pos ⟨h2, h3.symm⟩], h1⟩
 ·rintro ⟨h1, h2⟩
  split at h1
  ·rename_i h; exact ⟨h2, h.1, h.2.symm⟩
  ·cases h1
end Tb
end Go.Proofs.YtanhnllkccldhaaGreat
namespace Go.Proofs.YtanhnllkccldhaaGreat
set_option linter.unusedVariables false
set_option linter.unusedSimpArgs false
open Go.RowKit Go.Proofs.YtanhnllkccldhaaGreat.Eng Enc
namespace Wn
open Mi Dbm
end Wn
namespace Ky
open Mi Dbm Cv Zs
end Ky
namespace Cl
open Cv Zs Ky Cmp
end Cl
namespace Tb
open Cv Zs Ky Cmp
abbrev Tab := List Zn × List Zn
def p0 (ls : List Tab) : Tab := ls[0]?.getD ([], [])
def p1 (ls : List Tab) : Tab := ls[1]?.getD ([], [])
def sp0 : Sp := ⟨0, false, 0, false, false⟩
def known (k : Int) : Bool := decide (k = 2) || decide (k = 3) || decide (k = 4) || decide (k = 6)
def shape (k : Int) (s : Sp) (n : Nat) : Bool := known k && (if k = 6 then decide (n = 1) && decide (Tr.ival s = 0) else decide (n = 2) && decide (s = sp0))
def way (k : Int) (s : Sp) (ls : List Tab) : List Zn × Int :=
 if k = 2 then Zs.or (p0 ls).2 (p1 ls).2 else if k = 3 then Zs.and (p0 ls).2 (p1 ls).2 else if k = 4 then Zs.comp (p0 ls).1 (p1 ls).2 else Zs.within (p0 ls).2 s
def new (k : Int) (s : Sp) (ls : List Tab) (zones : Int) : List Zn × Int :=
 if ask zones ls ≠ 0 then ([], ask zones ls) else if shape k s ls.length = false then ([], 2) else capped (way k s ls).1 (way k s ls).2 zones
def lists (ls : List Tab) : List Zn := ls.flatMap fun x => x.1 ++ x.2
def big (ls : List Tab) : Bool := (ls.take 10).any fun x => decide (40 < x.1.length) || decide (40 < x.2.length)
def great (ls : List Tab) (l : List Zn) : Bool := big ls || (decide (10 < ls.length) || (decide (40 < l.length) || (decide (6 < lng 0 (lists ls)) || decide (6 < lng 0 l))))
structure GT (long : Int) (x : Tab) : Prop where
 a : Cl.Good long x.1
 n : Cl.Good long x.2
 sub : ∀ t, Pts x.2 t → Pts x.1 t
def fine (long : Int) (x : Tab) : Bool := may x.1 && (may x.2 && decide ((Rg.andI (rl x.2 long) (rl x.1 long)).length = (rl x.2 long).length))
theorem may_good {long : Int} (hl : 1 ≤ long ∧ long ≤ 6) {l : List Zn} (h : may l = true) (hc : ∀ z, z ∈ l → z.c ≤ 2 * long + 1) : Cl.Good long l := Cl.good_check hl ((may_iff l).1 h).1 ((may_iff l).1 h).2 hc
theorem ival_may {s : Sp} (h : Tr.ival s = 0) : Wn.spMay s = true := by
 unfold Tr.ival at h
 split at h
 ·cases h
 rename_i h1
 split at h
 ·cases h
 rename_i h2
 simp only [not_or, Tr.fitN, Bool.not_eq_false, Bool.and_eq_true, decide_eq_true_eq, not_and] at h1 h2
 obtain ⟨h3, h4, h5⟩ := h1
 unfold Wn.spMay
 rw [decide_eq_true (by omega : -288230376151711744 ≤ s.lo), decide_eq_true (by omega : s.lo ≤ 288230376151711744)]
 cases ho : s.op with
 | true =>
   have h6 := h5 ho
   simp only [Classical.not_not] at h6
   rw [if_pos rfl, decide_eq_true h6.1]
   simpa using h6.2
 | false =>
   have h6 := h2 ho
   rw [if_neg (by decide), decide_eq_true (by omega : s.lo ≤ s.hi), decide_eq_true (by omega : s.hi ≤ 288230376151711744)]
   rfl
theorem shape_one {k : Int} {s : Sp} {n : Nat} (h : shape k s n = true) : (k = 6 ∧ n = 1 ∧ Wn.spMay s = true ∧ Tr.ival s = 0) ∨ ((k = 2 ∨ k = 3 ∨ k = 4) ∧ n = 2 ∧ s = sp0) := by
 unfold shape known at h
 simp only [Bool.and_eq_true, Bool.or_eq_true, decide_eq_true_eq] at h
 by_cases h6 : k = 6
 ·rw [if_pos h6] at h
  simp only [Bool.and_eq_true, decide_eq_true_eq] at h
  exact .inl ⟨h6, h.2.1, ival_may h.2.2, h.2.2⟩
 ·rw [if_neg h6] at h
  simp only [Bool.and_eq_true, decide_eq_true_eq] at h
  exact .inr ⟨by omega, h.2.1, h.2.2⟩
end Tb
namespace Fr
theorem half_v {n : Int} (h : (of n 2).1.ok = true) : v (of n 2).1 * 2 = (n : Rat) := by
 have hof : (of n 2).1.num * 2 = n * (of n 2).1.den := by
  unfold of low at h ⊢
  rw [if_neg (by decide)] at h ⊢
  split at h
  ·rename_i hb
   rw [if_pos hb]
   simp only
   obtain ⟨x, hx⟩ : (Int.gcd n 2 : Int) ∣ n := Int.gcd_dvd_left ..
   obtain ⟨y, hy⟩ : (Int.gcd n 2 : Int) ∣ 2 := Int.gcd_dvd_right ..
   have hg : (Int.gcd n 2 : Int) ≠ 0 := fun e => by rw [e] at hy; omega
   generalize (Int.gcd n 2 : Int) = g at *
   have e1 : n / g = x := by rw [hx]; exact Int.mul_ediv_cancel_left _ hg
   have e2 : 2 / g = y := by rw [hy]; exact Int.mul_ediv_cancel_left _ hg
   rw [e1, e2]
   have : x * (g * y) = g * x * y := by rw [← Int.mul_assoc, Int.mul_comm x g]
   rw [← hy, ← hx] at this
   exact this
  ·exact absurd h (by decide)
 have := v_of_mul h (T := n) (D := 2) (by decide) hof
 simpa using this
end Fr
namespace Tb
open Cv Zs Ky Cmp Mi Dbm
theorem new_ok {k : Int} {s : Sp} {ls : List Tab} {zones : Int} (h : (new k s ls zones).2 = 0) : shape k s ls.length = true ∧ (way k s ls).2 = 0 ∧ (new k s ls zones).1 = (way k s ls).1 := by
 unfold new at h ⊢
 split at h
 ·rename_i h1; exact absurd h h1
 rename_i h1
 rw [if_neg h1]
 split at h
 ·cases h
 rename_i h2
 rw [if_neg h2]
 unfold capped at h ⊢
 split at h
 ·cases h
 rename_i h3
 rw [if_neg h3]
 exact ⟨by simpa using h2, Classical.byContradiction fun q => h3 (.inl q), rfl⟩
theorem or_law {a b : Tab} {p : Pt} {zones : Int} (h : (new 2 sp0 [a, b] zones).2 = 0) (h1 : (has a.2 p).2 = 0) (h2 : (has b.2 p).2 = 0) :
 (has (new 2 sp0 [a, b] zones).1 p).2 = 0 ∧ (has (new 2 sp0 [a, b] zones).1 p).1 = ((has a.2 p).1 || (has b.2 p).1) := by
 obtain ⟨_, ht, hu, k1⟩ := has_ok h1
 obtain ⟨_, _, _, k2⟩ := has_ok h2
 obtain ⟨_, h3, h4⟩ := new_ok h
 rw [h4]
 have h3 : (Zs.or a.2 b.2).2 = 0 := h3
 show (has (Zs.or a.2 b.2).1 p).2 = 0 ∧ (has (Zs.or a.2 b.2).1 p).1 = _
 obtain ⟨_, hf, hp⟩ := or_ok h3
 have he := has_err0 hf ht hu
 obtain ⟨_, _, _, k3⟩ := has_ok he
 exact ⟨he, by rw [Bool.eq_iff_iff, k3, hp, Bool.or_eq_true, k1, k2]⟩
theorem and_law {a b : Tab} {p : Pt} {zones : Int} (h : (new 3 sp0 [a, b] zones).2 = 0) (h1 : (has a.2 p).2 = 0) (h2 : (has b.2 p).2 = 0) :
 (has (new 3 sp0 [a, b] zones).1 p).2 = 0 ∧ (has (new 3 sp0 [a, b] zones).1 p).1 = ((has a.2 p).1 && (has b.2 p).1) := by
 obtain ⟨_, ht, hu, k1⟩ := has_ok h1
 obtain ⟨_, _, _, k2⟩ := has_ok h2
 obtain ⟨_, h3, h4⟩ := new_ok h
 rw [h4]
 have h3 : (Zs.and a.2 b.2).2 = 0 := h3
 show (has (Zs.and a.2 b.2).1 p).2 = 0 ∧ (has (Zs.and a.2 b.2).1 p).1 = _
 obtain ⟨_, hf, hp⟩ := and_ok h3
 have he := has_err0 hf ht hu
 obtain ⟨_, _, _, k3⟩ := has_ok he
 exact ⟨he, by rw [Bool.eq_iff_iff, k3, hp, Bool.and_eq_true, k1, k2]⟩
def fits (s : Sp) (long : Int) : Bool := (decide (2 * s.lo < long) || (decide (long = 2 * s.lo) && !s.ls)) && (s.op || (decide (long < 2 * s.hi) || (decide (long = 2 * s.hi) && !s.hs)))
theorem ival_ok {s : Sp} (h : Tr.ival s = 0) : Wn.spOk s ∧ (s.op = true → s.hi = 0) := by
 unfold Tr.ival at h
 split at h
 ·cases h
 rename_i h1
 split at h
 ·cases h
 rename_i h2
 simp only [not_or, Tr.fitN, Bool.not_eq_false, Bool.and_eq_true, decide_eq_true_eq, not_and] at h1 h2
 obtain ⟨h3, h4, h5⟩ := h1
 refine ⟨?_, fun ho => by have := h5 ho; simp only [Classical.not_not] at this; exact this.1⟩
 unfold Wn.spOk
 have hbe : ob (Rg.be s) = some (Rg.be s) := by
  unfold ob
  rw [if_neg (by unfold Rg.be Bd.mk NO; split <;> omega)]
 rw [hbe]
 cases ho : s.op with
 | true =>
   have : Rg.ab s = NO := by unfold Rg.ab; rw [if_pos ho]; rfl
   rw [this, show ob NO = none by decide, oadd_none]
   exact ole_none _
 | false =>
   have h6 := h2 ho
   have hab : Rg.ab s = Bd.mk s.hi s.hs := by unfold Rg.ab; rw [if_neg (by rw [ho]; decide)]
   have hob : ob (Rg.ab s) = some (Rg.ab s) := by
    rw [hab]
    unfold ob
    rw [if_neg (by unfold Bd.mk NO; split <;> omega)]
   rw [hob]
   show (1 : Int) ≤ bsum (Rg.be s) (Rg.ab s)
   rw [hab]
   unfold Rg.be Bd.mk bsum
   obtain ⟨lo, ls, hi, hs, op⟩ := s
   simp only at *
   by_cases he : lo = hi
   ·have h7 := h6.2 he
    simp only [not_or, Bool.not_eq_true] at h7
    obtain ⟨rfl, rfl⟩ := h7
    subst he
    simp only [Bool.false_eq_true, if_false]
    have e1 : ((0 - lo) * 2 + 1) % 2 = 1 := by omega
    have e2 : (lo * 2 + 1) % 2 = 1 := by omega
    rw [e1, e2]
    omega
   ·have hlt : lo < hi := by omega
    have key : ∀ x y : Int, (x = (0 - lo) * 2 ∨ x = (0 - lo) * 2 + 1) → (y = hi * 2 ∨ y = hi * 2 + 1) → 1 ≤ (x / 2 + y / 2) * 2 + x % 2 * (y % 2) := fun x y hx hy => by
     have h1 : 0 ≤ x % 2 * (y % 2) := Int.mul_nonneg (by omega) (by omega)
     generalize x % 2 * (y % 2) = q at *
     omega
    have := key (if ls = true then (0 - lo) * 2 else (0 - lo) * 2 + 1) (if hs = true then hi * 2 else hi * 2 + 1) (by split <;> simp) (by split <;> simp)
    generalize (if ls = true then (0 - lo) * 2 else (0 - lo) * 2 + 1) = x at *
    generalize (if hs = true then hi * 2 else hi * 2 + 1) = y at *
    omega
theorem half_lt {x : Rat} {n c : Int} (h : x * 2 = (n : Rat)) : (x < (c : Rat) ↔ n < 2 * c) ∧ (x ≤ (c : Rat) ↔ n ≤ 2 * c) := by
 have e : ((2 * c : Int) : Rat) = 2 * (c : Rat) := by push_cast; rfl
 constructor
 ·rw [← Rat.intCast_lt_intCast (a := n), e, ← h]
  constructor <;> intro q <;> grind
 ·rw [← Rat.intCast_le_intCast (a := n), e, ← h]
  constructor <;> intro q <;> grind
theorem sat_lt (d : Rat) (c : Int) : satO d (some (c * 2)) ↔ d < (c : Rat) := by
 show (if Bd.st (c * 2) = true then d < ((c * 2 / 2 : Int) : Rat) else d ≤ ((c * 2 / 2 : Int) : Rat)) ↔ _
 rw [if_pos ((st_iff _).2 (by omega)), show c * 2 / 2 = c by omega]
theorem sat_le (d : Rat) (c : Int) : satO d (some (c * 2 + 1)) ↔ d ≤ (c : Rat) := by
 show (if Bd.st (c * 2 + 1) = true then d < (((c * 2 + 1) / 2 : Int) : Rat) else d ≤ (((c * 2 + 1) / 2 : Int) : Rat)) ↔ _
 rw [if_neg (fun h => by have := (st_iff _).1 h; omega), show (c * 2 + 1) / 2 = c by omega]
theorem fits_iff {s : Sp} (h : Tr.ival s = 0) {t : Nat → Rat} {long : Int} (ht : (t 2 - t 1) * 2 = (long : Rat)) : Wn.InS s t ↔ fits s long = true := by
 obtain ⟨hok, hop⟩ := ival_ok h
 have hs := ival_may h
 have hv : (t 1 - t 2) * 2 = ((-long : Int) : Rat) := by push_cast; grind
 have d4 : dif 4 t = t 2 - t 1 := by rfl
 have d5 : dif 5 t = t 1 - t 2 := by rfl
 rcases Wn.btw_may hs with ⟨_, hb⟩ | ⟨hno, _⟩
 case inr => exact absurd hok hno
 unfold Wn.InS fits
 rw [hb, d4, d5]
 simp only [List.getElem?_cons_zero, List.getElem?_cons_succ, Option.getD_some, true_and, Bool.and_eq_true, Bool.or_eq_true, decide_eq_true_eq, Bool.not_eq_true']
 have hbe : satO (t 1 - t 2) (ob (Rg.be s)) ↔ (2 * s.lo < long ∨ (long = 2 * s.lo ∧ s.ls = false)) := by
  have lim := Wn.be_lim hs
  have e : ob (Rg.be s) = some (Rg.be s) := by unfold ob; rw [if_neg (by unfold NO; omega)]
  rw [e]
  unfold Rg.be Bd.mk
  cases hls : s.ls with
  | true =>
    rw [if_pos rfl, sat_lt, (half_lt hv).1]
    simp; omega
  | false =>
    rw [if_neg (by decide), sat_le, (half_lt hv).2]
    simp; omega
 have hab : satO (t 2 - t 1) (ob (Rg.ab s)) ↔ (s.op = true ∨ long < 2 * s.hi ∨ (long = 2 * s.hi ∧ s.hs = false)) := by
  cases ho : s.op with
  | true =>
    have e : Rg.ab s = NO := by unfold Rg.ab; rw [if_pos ho]; rfl
    rw [e, show ob NO = none by decide]
    simp [satO]
  | false =>
    have lim := Wn.ab_lim hs
    have e0 : Rg.ab s = Bd.mk s.hi s.hs := by unfold Rg.ab; rw [if_neg (by rw [ho]; decide)]
    have hhi : s.hi ≤ 288230376151711744 := by
     unfold Wn.spMay at hs
     rw [ho] at hs
     simp at hs
     omega
    have e : ob (Rg.ab s) = some (Rg.ab s) := by rw [e0]; unfold ob; rw [if_neg (by unfold Bd.mk NO; split <;> omega)]
    rw [e, e0]
    unfold Bd.mk
    cases hhs : s.hs with
    | true =>
      rw [if_pos rfl, sat_lt, (half_lt ht).1]
      simp
    | false =>
      rw [if_neg (by decide), sat_le, (half_lt ht).2]
      simp; omega
 rw [hbe, hab]
 exact And.comm
def pt (t u : Int) : Pt := ⟨(Fr.of t 2).1, (Fr.of u 2).1⟩
theorem timed_law {a : Tab} {s : Sp} {t u zones : Int} (h : (new 6 s [a] zones).2 = 0) (h1 : (has a.2 (pt t u)).2 = 0) :
 (has (new 6 s [a] zones).1 (pt t u)).2 = 0 ∧ (has (new 6 s [a] zones).1 (pt t u)).1 = ((has a.2 (pt t u)).1 && fits s (u - t)) := by
 obtain ⟨_, ht, hu, k1⟩ := has_ok h1
 obtain ⟨h2, h3, h4⟩ := new_ok h
 rw [h4]
 have hi : Tr.ival s = 0 := by
  rcases shape_one h2 with ⟨_, _, _, q⟩ | ⟨q, _⟩
  ·exact q
  ·omega
 have h3 : (Zs.within a.2 s).2 = 0 := h3
 show (has (Zs.within a.2 s).1 (pt t u)).2 = 0 ∧ (has (Zs.within a.2 s).1 (pt t u)).1 = _
 obtain ⟨hf, hp⟩ := within_pts h3
 have he := has_err0 hf ht hu
 obtain ⟨_, _, _, k3⟩ := has_ok he
 refine ⟨he, ?_⟩
 have q1 : tvs [(pt t u).t, (pt t u).u] 1 = Fr.v (pt t u).t := tvs_one _ _
 have q2 : tvs [(pt t u).t, (pt t u).u] 2 = Fr.v (pt t u).u := tvs_two _ _
 have hl : (tvs [(pt t u).t, (pt t u).u] 2 - tvs [(pt t u).t, (pt t u).u] 1) * 2 = ((u - t : Int) : Rat) := by
  rw [q1, q2]
  have v1 := Fr.half_v ht
  have v2 := Fr.half_v hu
  push_cast
  show (Fr.v (Fr.of u 2).1 - Fr.v (Fr.of t 2).1) * 2 = _
  grind
 rw [Bool.eq_iff_iff, k3, hp, Bool.and_eq_true, k1, fits_iff hi hl]
def check (k : Int) (s : Sp) (ls : List Tab) (zones long : Int) : Int :=
 if zones < 1 ∨ 4096 < zones then 2 else if (ls.any fun x => !fine long x) = true then 8 else if shape k s ls.length = true then 0 else 2
def add (t : Tab) (l : List Zn) (zones : Int) : Tab × Int :=
 if ask zones [t, (l, l)] ≠ 0 then (([], []), ask zones [t, (l, l)]) else if (capped (Zs.or t.1 l).1 (Zs.or t.1 l).2 zones).2 ≠ 0 ∨ zones < (l.length : Int) then (([], []), 300) else (((capped (Zs.or t.1 l).1 (Zs.or t.1 l).2 zones).1, l), 0)
end Tb
end Go.Proofs.YtanhnllkccldhaaGreat
namespace Go.Proofs.YtanhnllkccldhaaGreat
set_option linter.unusedVariables false
set_option linter.unusedSimpArgs false
set_option maxRecDepth 100000
open Go.RowKit Go.Proofs.YtanhnllkccldhaaGreat.Eng Enc
abbrev TMf : TypeId := 74
abbrev TU8 : TypeId := 5
abbrev TWay : TypeId := 72
theorem und8 : Tryz.prog.underlying TU8 = some (.int .u8) := by kernel_rfl
theorem undMf : Tryz.prog.underlying TMf = some (.map TU8 TWay) := by kernel_rfl
theorem key8 : Maps.Keyed Tryz.prog TU8 := Maps.int_keyed und8
theorem zeroWay (w : World) : (zeroValue TWay).run Tryz.prog w = .ok .nilFunc w := by kernel_rfl
def heldR (v : Value) : Option (DataW Value × List MemPlace) := some (.held v, [])
def FMap (W : World) (b n : Nat) (f : Int → Option Value) : Prop :=
 ∃ D : DataW Value, W.ownsMap Tryz.prog TU8 heldR b n D ∧ Maps.Tidy D ∧ ∀ x : Int, D.atKey (.int .u8 x) .nil = (match f x with | some v => .held v | none => .nil)
theorem FMap.lt {W : World} {b n : Nat} {f : Int → Option Value} (h : FMap W b n f) : b < W.heap.size := by
 obtain ⟨D, h1, _⟩ := h; exact h1.lt
theorem FMap.kept {W X : World} {b n : Nat} {f : Int → Option Value} (h : FMap W b n f) (e : X.heap[b]? = W.heap[b]?) : FMap X b n f := by
 obtain ⟨D, ⟨es, clock, hb, F, hs, hD⟩, h2, h3⟩ := h
 exact ⟨D, ⟨es, clock, e.trans hb, F, hs, hD⟩, h2, h3⟩
theorem FMap.below {W X : World} {b n : Nat} {f : Int → Option Value} (h : FMap W b n f) (hB : Below W.heap.size W X) : FMap X b n f := h.kept (hB.block b h.lt)
theorem FMap.at {w0 : Base} {hp : List LB} {r L : List Nat} {w w1 : World} {b n : Nat} {f : Int → Option Value} (h : FMap w b n f) (h1 : At w0 hp r L w w1) (hL : b ∉ L) : FMap w1 b n f := h.kept (h1.step b h.lt hL)
theorem FMap.made (w : World) : FMap (w.alloc (.map #[] 0)) w.heap.size 0 (fun _ => none) :=
 ⟨.map [], World.ownsMap_made w _ _ _, Maps.tidy_empty, fun x => by simp [DataW.atKey]⟩
theorem wf8 {x : Int} (hx : 0 ≤ x ∧ x ≤ 255) : (Lit.int .u8 x).wf = true := by
 simp [Lit.wf, IntKind.min, IntKind.max, IntKind.bits, IntKind.signed]; omega
theorem FMap.put {W : World} {b n : Nat} {f : Int → Option Value} (h : FMap W b n f) (x : Int) (hx : 0 ≤ x ∧ x ≤ 255) (v : Value) (hn : n < 1000000000) :
 ∃ W', (Instr.mapUpdate TMf (.map (some b)) (.int .u8 x) v).run Tryz.prog W = .ok () W' ∧ FMap W' b (n + 1) (fun y => if y = x then some v else f y) ∧ W.grownBy W' (some b) := by
 obtain ⟨D, h1, h2, h3⟩ := h
 have hk := Maps.keyOf_int_mk (P := Tryz.prog) (k := TU8) und8 (wf8 hx)
 have hkl := key8.key hk
 obtain ⟨W', hrun, ho, hg⟩ := h1.update (t := TMf) (e := TWay) key8 undMf (by unfold maxLen; omega) hk (show heldR v = some (.held v, []) from rfl)
 refine ⟨W', hrun, ⟨_, ho, h2.put hkl _, fun y => ?_⟩, hg⟩
 by_cases e : y = x
 ·subst e
  rw [Maps.atKey_put_same h2.isMap hkl]
  simp only [if_true]
 ·have hne : (Lit.int .u8 y) ≠ (Lit.int .u8 x) := fun h => e (by injection h)
  rw [Maps.atKey_put_other hne, h3 y]
  simp only [if_neg e]
theorem FMap.look {W : World} {b n : Nat} {f : Int → Option Value} (h : FMap W b n f) (x : Int) (hx : 0 ≤ x ∧ x ≤ 255) :
 (Instr.lookup TMf (.map (some b)) (.int .u8 x) true).run Tryz.prog W = .ok (match f x with | some v => .tuple #[v, .bool true] | none => .tuple #[.nilFunc, .bool false]) W := by
 obtain ⟨D, ⟨es, clock, hb, F, hs, rfl⟩, h2, h3⟩ := h
 have hk := Maps.keyOf_int_mk (P := Tryz.prog) (k := TU8) und8 (wf8 hx)
 have h3x := h3 x
 rcases Maps.fit_look true key8 undMf (zeroWay W) hb F hk with ⟨hrun, _, hat⟩ | ⟨e0, y, _, _, hrun, hRv, hat, _⟩
 ·rw [hat .nil] at h3x
  cases hf : f x with
  | none => rw [hrun]; rfl
  | some v => rw [hf] at h3x; cases h3x
 ·rw [hat .nil] at h3x
  injection hRv with hRv
  subst hRv
  cases hf : f x with
  | none => rw [hf] at h3x; cases h3x
  | some v =>
    rw [hf] at h3x
    injection h3x with h3x
    rw [hrun, ← h3x]; rfl
theorem run_neq_sp (p q : Sp) (w : World) : (binOp .neq 32 (.agg #[.int .i64 p.lo, .bool p.ls, .int .i64 p.hi, .bool p.hs, .bool p.op]) (.agg #[.int .i64 q.lo, .bool q.ls, .int .i64 q.hi, .bool q.hs, .bool q.op])).run Tryz.prog w = .ok (.bool (decide (p ≠ q))) w := by
 have u3 := Tryz.underlying3
 have a3 := Tryz.isAgg3
 have z3 := Tryz.sizeOf3
 have u4 := Tryz.underlying4
 have a4 := Tryz.isAgg4
 have z4 := Tryz.sizeOf4
 have hS : Tryz.prog.underlying 32 = some (.struct (Tryz.prog.fieldsOf 32)) := by kernel_rfl
 have hp : Tryz.prog.stoodInHeld 32 = false := by kernel_rfl
 rw [run_neq_struct, show (10000 : Nat) = 9999 + 1 from rfl, run_equalIn_agg w 9999 32 _ _ hS hp]
 simp only [Program.fieldsOf, Tryz.underlying32]
 go_simp
 have hpq : p = q ↔ (p.lo = q.lo ∧ p.ls = q.ls ∧ p.hi = q.hi ∧ p.hs = q.hs ∧ p.op = q.op) := by
  obtain ⟨a, b, c, d, e⟩ := p
  obtain ⟨a', b', c', d', e'⟩ := q
  simp only [Sp.mk.injEq]
 simp only [hpq]
 repeat' split
 all_goals simp_all
theorem run_neq_spG (x y : Operand) (p q : Sp) (w : World) : (do eqGuard .neq 32 x y (.agg #[.int .i64 p.lo, .bool p.ls, .int .i64 p.hi, .bool p.hs, .bool p.op]) (.agg #[.int .i64 q.lo, .bool q.ls, .int .i64 q.hi, .bool q.hs, .bool q.op]); binOp .neq 32 (.agg #[.int .i64 p.lo, .bool p.ls, .int .i64 p.hi, .bool p.hs, .bool p.op]) (.agg #[.int .i64 q.lo, .bool q.ls, .int .i64 q.hi, .bool q.hs, .bool q.op]) : Sem Value).run Tryz.prog w = .ok (.bool (decide (p ≠ q))) w := by
 have hg : (eqGuard .neq 32 x y (.agg #[.int .i64 p.lo, .bool p.ls, .int .i64 p.hi, .bool p.hs, .bool p.op]) (.agg #[.int .i64 q.lo, .bool q.ls, .int .i64 q.hi, .bool q.hs, .bool q.op])).run Tryz.prog w = .ok () w := run_eqGuard_agg _ _ _ _ _ _ _ (by kernel_rfl)
 rw [Sem.run_bind, hg]
 exact run_neq_sp p q w
namespace Tb
abbrev TOf : TypeId := 95
theorem Parts.st {ts : List Tbl} {ls : List Tab} {w0 : Base} {l : List World} {X w : World} (h : Parts X.heap.size X ts ls) (st : Stay w0 l w) (hX : X ∈ l := by simp) : Parts w.heap.size w ts ls := h.go (st.get hX) (st.get hX).size
theorem Parts.one {n : Nat} {W : World} {ts : List Tbl} {ls : List Tab} (h : Parts n W ts ls) (k : Nat) (hk : k < ls.length) : ∃ (x y : Option Addr) (cx cy : Nat), ts[k]? = some (⟨⟨x, (ls[k]?.getD ([], [])).1.length, cx⟩, ⟨y, (ls[k]?.getD ([], [])).2.length, cy⟩⟩ : Tbl) ∧ Sl n W (.slice x (ls[k]?.getD ([], [])).1.length cx) (ls[k]?.getD ([], [])).1 ∧ Sl n W (.slice y (ls[k]?.getD ([], [])).2.length cy) (ls[k]?.getD ([], [])).2 := by
 have hl := List.getElem?_eq_getElem (l := ls) (i := k) hk
 have ht := List.getElem?_eq_getElem (l := ts) (i := k) (by have := h.1; omega)
 generalize ls[k]'hk = l at hl
 generalize ts[k]'(by have := h.1; omega) = t at ht
 obtain ⟨h1, e1, h2, e2⟩ := h.2 k t l ht hl
 obtain ⟨⟨ta, tl, tc⟩, ⟨na, nl, nc⟩⟩ := t
 simp only at h1 e1 h2 e2
 subst e1; subst e2
 rw [hl]
 exact ⟨ta, na, tc, nc, ht, h1, h2⟩
def Way2 (fid : FuncId) (f : List Zn → List Zn → List Zn × Int) : Prop := ∀ (l m : List Zn) (a b : Option Addr) (ca cb : Nat) (w : World), Sl w.heap.size w (.slice a l.length ca) l → Sl w.heap.size w (.slice b m.length cb) m → Calls Tryz.prog fid #[.slice a l.length ca, .slice b m.length cb] w (Ret w fun v w' => ∃ a' c', v = .tuple #[.slice a' (f l m).1.length c', .int .i64 (f l m).2] ∧ Own TZ w.heap.size w' (.slice a' (f l m).1.length c') (f l m).1)
end Tb
theorem both1_any (fid : FuncId) (f : List Zn → List Zn → List Zn × Int) (en : Enters Tryz.prog fid) (hf : Tb.Way2 fid f) (s : Sp) (ts : List Tbl) (ls : List Tb.Tab) (h2 : 2 ≤ ls.length) (a : Option Addr) (c B : Nat) (w : World) (hP : Tb.Parts w.heap.size w ts ls) (hS : Sl w.heap.size w (.slice a ts.length c) ts)
 (hbox : w.heap[B]? = some (.cells #[.func (.func fid) #[] #[]] Tb.TOf (0, 0))) :
 Calls Tryz.prog 105 #[.agg #[.int .i64 s.lo, .bool s.ls, .int .i64 s.hi, .bool s.hs, .bool s.op], .slice a ts.length c, .pointer (some ⟨B, 0, none⟩)] w (Ret w fun v w' => ∃ a' c', v = .tuple #[.slice a' (f (Tb.p0 ls).2 (Tb.p1 ls).2).1.length c', .int .i64 (f (Tb.p0 ls).2 (Tb.p1 ls).2).2] ∧ Own TZ w.heap.size w' (.slice a' (f (Tb.p0 ls).2 (Tb.p1 ls).2).1.length c') (f (Tb.p0 ls).2 (Tb.p1 ls).2).1) := by
 refine fun_ret 0 w Tryz.func105 (args := [.agg [.val (.int .i64 s.lo), .val (.bool s.ls), .val (.int .i64 s.hi), .val (.bool s.hs), .val (.bool s.op)], .val (.slice a ts.length c), .val (.pointer (some ⟨B, 0, none⟩))]) rfl rfl ?_
 refine NewI.mk fun b1 hb1 => ?_
 refine DrawI.go (.tk 0 (.tk 1 (.tk 2 (.tk 3 (.tk 4 (.tk 5 (.tk 6 (.tk 7 (.tk 8 (.ev 9 (.tk 10 (.tk 11 (.tk 12 (.tk 13 .done)))))))))))))) (by kernel_rfl) fun w3 h3 => ?_
 have hB3 := at_belowM h3 (by simp)
 obtain ⟨x0, y0, cx0, cy0, t0, _, sn0⟩ := hP.one 0 (by omega)
 obtain ⟨x1, y1, cx1, cy1, t1, _, sn1⟩ := hP.one 1 (by omega)
 have hS3 := hS.go hB3 hB3.size
 have hbox3 := (hB3.block _ (lt_cellsM hbox)).trans hbox
 refine LoadI.mk ⟨_, ⟨cell_oneM hbox3, by simp⟩, ?_⟩
 refine hS3.idx (k := 0) t0 fun ad had => ?_
 refine hS3.ldx (k := 0) t0 had (Below.refl _ _) (by simp) (i := 1) (c := .slice y0 (Tb.p0 ls).2.length cy0) rfl ?_
 refine hS3.idx (k := 1) t1 fun ad2 had2 => ?_
 refine hS3.ldx (k := 1) t1 had2 (Below.refl _ _) (by simp) (i := 1) (c := .slice y1 (Tb.p1 ls).2.length cy1) rfl ?_
 refine Need.mk en ?_
 apply CallI.use
 focus (exact fun w2 h2 => hf (Tb.p0 ls).2 (Tb.p1 ls).2 y0 y1 cy0 cy1 w2 ((sn0.go hB3 hB3.size).go (at_belowM h2 (by simp)) (at_belowM h2 (by simp)).size) ((sn1.go hB3 hB3.size).go (at_belowM h2 (by simp)) (at_belowM h2 (by simp)).size))
 rintro v w2 v2 h2 hB2 ⟨a2, c2, rfl, hO2⟩
 exact EndI.mk fun w9 h9 => ⟨a2, c2, rfl, (hO2.lower h2.below.size).below (at_belowM h9 (by simp))⟩
theorem ways1_any (s : Sp) (ts : List Tbl) (ls : List Tb.Tab) (h2 : 2 ≤ ls.length) (a : Option Addr) (c : Nat) (w : World) (hP : Tb.Parts w.heap.size w ts ls) (hS : Sl w.heap.size w (.slice a ts.length c) ts) :
 Calls Tryz.prog 66 #[.agg #[.int .i64 s.lo, .bool s.ls, .int .i64 s.hi, .bool s.hs, .bool s.op], .slice a ts.length c] w (Ret w fun v w' => ∃ a' c', v = .tuple #[.slice a' (Zs.comp (Tb.p0 ls).1 (Tb.p1 ls).2).1.length c', .int .i64 (Zs.comp (Tb.p0 ls).1 (Tb.p1 ls).2).2] ∧ Own TZ w.heap.size w' (.slice a' (Zs.comp (Tb.p0 ls).1 (Tb.p1 ls).2).1.length c') (Zs.comp (Tb.p0 ls).1 (Tb.p1 ls).2).1) := by
 refine fun_ret 0 w Tryz.func66 (args := [.agg [.val (.int .i64 s.lo), .val (.bool s.ls), .val (.int .i64 s.hi), .val (.bool s.hs), .val (.bool s.op)], .val (.slice a ts.length c)]) rfl rfl ?_
 refine NewI.mk fun b1 hb1 => ?_
 refine DrawI.go (.tk 0 (.tk 1 (.tk 2 (.tk 3 (.tk 4 (.tk 5 (.tk 6 (.tk 7 (.ev 8 (.tk 9 (.tk 10 (.tk 11 (.tk 12 .done))))))))))))) (by kernel_rfl) fun w3 h3 => ?_
 have hB3 := at_belowM h3 (by simp)
 obtain ⟨x0, y0, cx0, cy0, t0, sn0, _⟩ := hP.one 0 (by omega)
 obtain ⟨x1, y1, cx1, cy1, t1, _, sn1⟩ := hP.one 1 (by omega)
 have hS3 := hS.go hB3 hB3.size
 refine hS3.idx (k := 0) t0 fun ad had => ?_
 refine hS3.ldx (k := 0) t0 had (Below.refl _ _) (by simp) (i := 0) (c := .slice x0 (Tb.p0 ls).1.length cx0) rfl ?_
 refine hS3.idx (k := 1) t1 fun ad2 had2 => ?_
 refine hS3.ldx (k := 1) t1 had2 (Below.refl _ _) (by simp) (i := 1) (c := .slice y1 (Tb.p1 ls).2.length cy1) rfl ?_
 apply CallI.use
 focus (exact fun w2 h2 => zscomp_any (Tb.p0 ls).1 (Tb.p1 ls).2 x0 y1 cx0 cy1 w2 ((sn0.go hB3 hB3.size).go (at_belowM h2 (by simp)) (at_belowM h2 (by simp)).size) ((sn1.go hB3 hB3.size).go (at_belowM h2 (by simp)) (at_belowM h2 (by simp)).size))
 rintro v w2 v2 h2 hB2 ⟨a2, c2, rfl, hO2⟩
 exact EndI.mk fun w9 h9 => ⟨a2, c2, rfl, (hO2.lower h2.below.size).below (at_belowM h9 (by simp))⟩
theorem ways2_any (s : Sp) (hs : s.ins) (ts : List Tbl) (ls : List Tb.Tab) (h2 : 1 ≤ ls.length) (a : Option Addr) (c : Nat) (w : World) (hP : Tb.Parts w.heap.size w ts ls) (hS : Sl w.heap.size w (.slice a ts.length c) ts) :
 Calls Tryz.prog 68 #[.agg #[.int .i64 s.lo, .bool s.ls, .int .i64 s.hi, .bool s.hs, .bool s.op], .slice a ts.length c] w (Ret w fun v w' => ∃ a' c', v = .tuple #[.slice a' (Zs.within (Tb.p0 ls).2 s).1.length c', .int .i64 (Zs.within (Tb.p0 ls).2 s).2] ∧ Own TZ w.heap.size w' (.slice a' (Zs.within (Tb.p0 ls).2 s).1.length c') (Zs.within (Tb.p0 ls).2 s).1) := by
 refine fun_ret 0 w Tryz.func68 (args := [.agg [.val (.int .i64 s.lo), .val (.bool s.ls), .val (.int .i64 s.hi), .val (.bool s.hs), .val (.bool s.op)], .val (.slice a ts.length c)]) rfl rfl ?_
 refine NewI.mk fun b1 hb1 => ?_
 refine DrawI.go (.tk 0 (.tk 1 (.tk 2 (.tk 3 (.tk 4 (.ev 5 (.tk 6 (.tk 7 (.tk 8 (.tk 9 .done)))))))))) (by kernel_rfl) fun w3 h3 => ?_
 have hB3 := at_belowM h3 (by simp)
 obtain ⟨x0, y0, cx0, cy0, t0, _, sn0⟩ := hP.one 0 (by omega)
 have hS3 := hS.go hB3 hB3.size
 refine hS3.idx (k := 0) t0 fun ad had => ?_
 refine hS3.ldx (k := 0) t0 had (Below.refl _ _) (by simp) (i := 1) (c := .slice y0 (Tb.p0 ls).2.length cy0) rfl ?_
 apply CallI.use
 focus (exact fun w2 h2 => zswithin_any (Tb.p0 ls).2 s hs y0 cy0 w2 ((sn0.go hB3 hB3.size).go (at_belowM h2 (by simp)) (at_belowM h2 (by simp)).size))
 rintro v w2 v2 h2 hB2 ⟨a2, c2, rfl, hO2⟩
 exact EndI.mk fun w9 h9 => ⟨a2, c2, rfl, (hO2.lower h2.below.size).below (at_belowM h9 (by simp))⟩
theorem both_any (fid : FuncId) (w : World) :
 Calls Tryz.prog 64 #[.func (.func fid) #[] #[]] w (Ret w fun v w' => ∃ B, v = .func (.func 105) #[] #[.pointer (some ⟨B, 0, none⟩)] ∧ w.heap.size ≤ B ∧ w'.heap[B]? = some (.cells #[.func (.func fid) #[] #[]] Tb.TOf (0, 0))) := by
 refine fun_ret 0 w Tryz.func64 (args := [.val (.func (.func fid) #[] #[])]) rfl rfl ?_
 refine NewI.frn fun w1 h1 => ?_
 have hbox : (w1.alloc (.cells #[.func (.func fid) #[] #[]] Tb.TOf)).heap[w1.heap.size]? = some (.cells #[.func (.func fid) #[] #[]] Tb.TOf (0, 0)) := World.alloc_heap_new w1 _
 exact EndI.mk fun w9 h9 => ⟨w1.heap.size, rfl, h1.below.size, ((at_belowM h9 (by simp)).block _ (lt_cellsM hbox)).trans hbox⟩
namespace Tb
abbrev bothV (B : Nat) : Value := .func (.func 105) #[] #[.pointer (some ⟨B, 0, none⟩)]
def waysF (B1 B2 : Nat) (y : Int) : Option Value := if y = 6 then some (.func (.func 68) #[] #[]) else if y = 4 then some (.func (.func 66) #[] #[]) else if y = 3 then some (bothV B2) else if y = 2 then some (bothV B1) else none
end Tb
theorem ways_any (w : World) :
 Calls Tryz.prog 32 #[] w (Ret w fun v w' => ∃ B B1 B2, v = .map (some B) ∧ FMap w' B 4 (Tb.waysF B1 B2) ∧ w'.heap[B1]? = some (.cells #[.func (.func 43) #[] #[]] Tb.TOf (0, 0)) ∧ w'.heap[B2]? = some (.cells #[.func (.func 65) #[] #[]] Tb.TOf (0, 0))) := by
 refine fun_ret 0 w Tryz.func32 (args := []) rfl rfl ?_
 refine ⟨fun w3 h3 => ⟨_, _, run_makeMap _ w3, KpOk.ok h3 ((Below.refl _ _).alloc (Nat.le_refl _) _), ?_⟩⟩
 have hms := FMap.made w3
 have hb3 : Below w.heap.size w (w3.alloc (.map #[] 0)) := h3.below.alloc h3.below.size _
 have hwb : w.heap.size ≤ w3.heap.size := h3.below.size
 generalize w3.alloc (.map #[] 0) = w4 at hms hb3 ⊢
 generalize w3.heap.size = B at hms hwb ⊢
 apply CallI.use
 focus (exact fun w5 h5 => both_any 43 w5)
 rintro v w5 v5 h5 hB5 ⟨B1, rfl, hge1, hbox1⟩
 have hM1 := (hms.at h5 (by simp)).below hB5
 have hne1 : B1 ≠ B := by have := (hms.at h5 (by simp)).lt; omega
 have hwk : ∀ {hp : List LB} {r L : List Nat} {V W : World} (h : At ⟨w, w.heap.size, Nat.le_refl _⟩ hp r L V W), r = [] → ∀ k, some B = some k → w.heap.size ≤ k ∧ k ∉ r := fun h hr k hk => by injection hk with hk; subst hk; subst hr; exact ⟨hwb, by simp⟩
 refine ⟨fun w6 h6 => ?_⟩
 obtain ⟨w7, hrun, hM2, hgr⟩ := (hM1.at h6 (by simp)).put 2 (by omega) (Tb.bothV B1) (by omega)
 refine ⟨w7, hrun, keep_grown h6 hgr (hwk h6 rfl), ?_⟩
 have k1 := (h6.step B1 (lt_cellsM hbox1) (by simp)).trans hbox1
 have k1 := (hgr.block B1 (lt_cellsM k1) (fun e => hne1 (Option.some.inj e))).trans k1
 apply CallI.use
 focus (exact fun w5 h5 => both_any 65 w5)
 rintro v w8 v8 h8 hB8 ⟨B2, rfl, hge2, hbox2⟩
 have hM3 := (hM2.at h8 (by simp)).below hB8
 have hne2 : B2 ≠ B := by have := (hM2.at h8 (by simp)).lt; omega
 have k1 := (h8.step B1 (lt_cellsM k1) (by simp)).trans k1
 have k1 := (hB8.block B1 (lt_cellsM k1)).trans k1
 refine ⟨fun w9 h9 => ?_⟩
 obtain ⟨w10, hrun, hM4, hgr⟩ := (hM3.at h9 (by simp)).put 3 (by omega) (Tb.bothV B2) (by omega)
 refine ⟨w10, hrun, keep_grown h9 hgr (hwk h9 rfl), ?_⟩
 have k1 := (h9.step B1 (lt_cellsM k1) (by simp)).trans k1
 have k1 := (hgr.block B1 (lt_cellsM k1) (fun e => hne1 (Option.some.inj e))).trans k1
 have k2 := (h9.step B2 (lt_cellsM hbox2) (by simp)).trans hbox2
 have k2 := (hgr.block B2 (lt_cellsM k2) (fun e => hne2 (Option.some.inj e))).trans k2
 refine ⟨fun w11 h11 => ?_⟩
 obtain ⟨w12, hrun, hM5, hgr⟩ := (hM4.at h11 (by simp)).put 4 (by omega) (.func (.func 66) #[] #[]) (by omega)
 refine ⟨w12, hrun, keep_grown h11 hgr (hwk h11 rfl), ?_⟩
 have k1 := (h11.step B1 (lt_cellsM k1) (by simp)).trans k1
 have k1 := (hgr.block B1 (lt_cellsM k1) (fun e => hne1 (Option.some.inj e))).trans k1
 have k2 := (h11.step B2 (lt_cellsM k2) (by simp)).trans k2
 have k2 := (hgr.block B2 (lt_cellsM k2) (fun e => hne2 (Option.some.inj e))).trans k2
 refine ⟨fun w13 h13 => ?_⟩
 obtain ⟨w14, hrun, hM6, hgr⟩ := (hM5.at h13 (by simp)).put 6 (by omega) (.func (.func 68) #[] #[]) (by omega)
 refine ⟨w14, hrun, keep_grown h13 hgr (hwk h13 rfl), ?_⟩
 have k1 := (h13.step B1 (lt_cellsM k1) (by simp)).trans k1
 have k1 := (hgr.block B1 (lt_cellsM k1) (fun e => hne1 (Option.some.inj e))).trans k1
 have k2 := (h13.step B2 (lt_cellsM k2) (by simp)).trans k2
 have k2 := (hgr.block B2 (lt_cellsM k2) (fun e => hne2 (Option.some.inj e))).trans k2
 exact EndI.mk fun w15 h15 => ⟨B, B1, B2, rfl, hM6.at h15 (by simp), (h15.step B1 (lt_cellsM k1) (by simp)).trans k1, (h15.step B2 (lt_cellsM k2) (by simp)).trans k2⟩
set_option maxHeartbeats 2000000 in
theorem tnew_any (k : Int) (hk : 0 ≤ k ∧ k ≤ 255) (s : Sp) (hs : s.ins) (zones : Int) (ts : List Tbl) (ls : List Tb.Tab) (a : Option Addr) (c : Nat) (w : World) (hP : Tb.Parts w.heap.size w ts ls) (hS : Sl w.heap.size w (.slice a ts.length c) ts) :
 Calls Tryz.prog 11 #[.int .u8 k, .agg #[.int .i64 s.lo, .bool s.ls, .int .i64 s.hi, .bool s.hs, .bool s.op], .slice a ts.length c, .int .i64 zones] w (Ret w fun v w' => ∃ a' c', v = .tuple #[.slice a' (Tb.new k s ls zones).1.length c', .int .i64 (Tb.new k s ls zones).2] ∧ Own TZ w.heap.size w' (.slice a' (Tb.new k s ls zones).1.length c') (Tb.new k s ls zones).1) := by
 refine fun_ret 0 w Tryz.func11 (args := [.val (.int .u8 k), .agg [.val (.int .i64 s.lo), .val (.bool s.ls), .val (.int .i64 s.hi), .val (.bool s.hs), .val (.bool s.op)], .val (.slice a ts.length c), .val (.int .i64 zones)]) rfl rfl ?_
 have st := Stay.first (w := w)
 have hlen : ts.length = ls.length := hP.1
 refine NewI.mk fun b1 hb1 => ?_
 unfold Tb.new
 apply CallI.use1
 focus (exact fun w2 h2 => tasked_any zones ts ls a c w2 (hP.st (st.at h2)) (hS.st (st.at h2)))
 intro w2 v2 h2 hB2
 have st := st.nx h2 hB2
 refine Branch.mk (fun h1 => ?_) (fun h1 => ?_)
 ·rw [if_pos (of_decide_eq_true h1)]
  exact EndI.mk fun w9 h9 => ⟨_, _, rfl, Own.nil⟩
 rw [if_neg (of_decide_eq_false h1)]
 apply CallI.use
 focus (exact fun w3 h3 => ways_any w3)
 rintro v w3 v3 h3 hB3 ⟨B, B1, B2, rfl, hM, hx1, hx2⟩
 have st := st.nx h3 hB3
 have hnf : ∀ k : Int, Tb.known k = false → ¬ k = 2 ∧ ¬ k = 3 ∧ ¬ k = 4 ∧ ¬ k = 6 := fun k h => by
  unfold Tb.known at h
  simp at h
  omega
 by_cases hkn : Tb.known k = true
 case neg =>
  have hkn : Tb.known k = false := by simpa using hkn
  obtain ⟨k2, k3, k4, k6⟩ := hnf k hkn
  have e0 : Tb.waysF B1 B2 k = none := by
   unfold Tb.waysF
   rw [if_neg k6, if_neg k4, if_neg k3, if_neg k2]
  have e1 : Tb.shape k s ls.length = false := by unfold Tb.shape; rw [hkn]; rfl
  rw [if_pos e1]
  refine ⟨fun w4 h4 => ⟨_, _, (hM.at h4 (by simp)).look k hk, KpOk.ok h4 (Below.refl _ _), ?_⟩⟩
  rw [e0]
  repeat (first | (refine Branch.no rfl ?_) | (refine Branch.yes rfl ?_))
  exact EndI.mk fun w9 h9 => ⟨_, _, rfl, Own.nil⟩
 have hkk : k = 6 ∨ k = 2 ∨ k = 3 ∨ k = 4 := by
  unfold Tb.known at hkn
  simp at hkn
  omega
 rcases hkk with rfl | rfl | rfl | rfl
 ·have e0 : Tb.waysF B1 B2 6 = some (.func (.func 68) #[] #[]) := rfl
  refine ⟨fun w4 h4 => ⟨_, _, (hM.at h4 (by simp)).look 6 (by omega), KpOk.ok h4 (Below.refl _ _), ?_⟩⟩
  rw [e0]
  have st := (st.at h4)
  have sh : Tb.shape 6 s ls.length = (decide (ls.length = 1) && decide (Tr.ival s = 0)) := by unfold Tb.shape Tb.known; simp
  repeat (first | (refine Branch.no rfl ?_) | (refine Branch.yes rfl ?_))
  refine Branch.mk (fun c1 => ?_) (fun c1 => ?_)
  ·have c1 : ¬ ls.length = 1 := by have := of_decide_eq_true c1; omega
   rw [if_pos (show Tb.shape 6 s ls.length = false by rw [sh, decide_eq_false c1]; rfl)]
   repeat (first | (refine Branch.no rfl ?_) | (refine Branch.yes rfl ?_))
   exact EndI.mk fun w9 h9 => ⟨_, _, rfl, Own.nil⟩
  have c1 : ls.length = 1 := by have := of_decide_eq_false c1; omega
  apply CallI.use1
  focus (exact fun w5 h5 => interval_any s w5)
  intro w5 v5 h5 hB5
  have st := st.nx h5 hB5
  refine Branch.mk (fun c2 => ?_) (fun c2 => ?_)
  ·have c2 : ¬ Tr.ival s = 0 := of_decide_eq_true c2
   rw [if_pos (show Tb.shape 6 s ls.length = false by rw [sh, decide_eq_true c1, decide_eq_false c2]; rfl)]
   repeat (first | (refine Branch.no rfl ?_) | (refine Branch.yes rfl ?_))
   exact EndI.mk fun w9 h9 => ⟨_, _, rfl, Own.nil⟩
  have c2 : Tr.ival s = 0 := by simpa using c2
  rw [if_neg (show ¬ Tb.shape 6 s ls.length = false by rw [sh, decide_eq_true c1, decide_eq_true c2]; decide)]
  repeat (first | (refine Branch.no rfl ?_) | (refine Branch.yes rfl ?_))
  refine Need.mk Tryz.call68 ?_
  apply CallI.use
  focus (exact fun w6 h6 => ways2_any s hs ts ls (by omega) a c w6 (hP.st (st.at h6)) (hS.st (st.at h6)))
  rintro v w6 v6 h6 hB6 ⟨a6, c6, rfl, hO6⟩
  have st := st.nx h6 hB6
  have hway : Tb.way 6 s ls = Zs.within (Tb.p0 ls).2 s := rfl
  rw [hway]
  have hcp := fun (w : World) => capped_any (Zs.within (Tb.p0 ls).2 s).1 (Zs.within (Tb.p0 ls).2 s).2 zones a6 c6 w
  have hO6 := hO6.lower h6.below.size
  generalize Zs.within (Tb.p0 ls).2 s = X at hcp hO6 ⊢
  obtain ⟨l, e⟩ := X
  simp only at hcp hO6 ⊢
  unfold Tb.capped
  by_cases h7 : e ≠ 0 ∨ zones < (l.length : Int)
  ·simp only [if_pos h7] at hcp ⊢
   apply CallI.use1
   focus (exact fun w7 h7 => hcp w7)
   intro w7 v7 h8 hB7
   exact EndI.mk fun w9 h9 => ⟨_, _, rfl, Own.nil⟩
  ·simp only [if_neg h7] at hcp ⊢
   apply CallI.use1
   focus (exact fun w7 h7 => hcp w7)
   intro w7 v7 h8 hB7
   exact EndI.mk fun w9 h9 => ⟨_, _, rfl, ((hO6.below (at_belowM h8 (by simp))).below hB7).below (at_belowM h9 (by simp))⟩
 ·have e0 : Tb.waysF B1 B2 2 = some (Tb.bothV B1) := rfl
  refine ⟨fun w4 h4 => ⟨_, _, (hM.at h4 (by simp)).look 2 (by omega), KpOk.ok h4 (Below.refl _ _), ?_⟩⟩
  rw [e0]
  have st := (st.at h4)
  have sh : Tb.shape 2 s ls.length = (decide (ls.length = 2) && decide (s = Tb.sp0)) := by unfold Tb.shape Tb.known; simp
  repeat (first | (refine Branch.no rfl ?_) | (refine Branch.yes rfl ?_))
  refine Branch.mk (fun c1 => ?_) (fun c1 => ?_)
  ·have c1 : ¬ ls.length = 2 := by have := of_decide_eq_true c1; omega
   rw [if_pos (show Tb.shape 2 s ls.length = false by rw [sh, decide_eq_false c1]; rfl)]
   repeat (first | (refine Branch.no rfl ?_) | (refine Branch.yes rfl ?_))
   exact EndI.mk fun w9 h9 => ⟨_, _, rfl, Own.nil⟩
  have c1 : ls.length = 2 := by have := of_decide_eq_false c1; omega
  refine GenV.to (fun w => run_neq_spG _ _ s Tb.sp0 w) fun w5 h5 => ?_
  have st := st.next h5 (by simp) (Below.refl _ _)
  refine Branch.mk (fun c2 => ?_) (fun c2 => ?_)
  ·have c2 : ¬ s = Tb.sp0 := of_decide_eq_true c2
   rw [if_pos (show Tb.shape 2 s ls.length = false by rw [sh, decide_eq_true c1, decide_eq_false c2]; rfl)]
   exact EndI.mk fun w9 h9 => ⟨_, _, rfl, Own.nil⟩
  have c2 : s = Tb.sp0 := by simpa using c2
  rw [if_neg (show ¬ Tb.shape 2 s ls.length = false by rw [sh, decide_eq_true c1, decide_eq_true c2]; decide)]
  refine Need.mk Tryz.call105 ?_
  apply CallI.use
  focus (exact fun w6 h6 => both1_any 43 Zs.or Tryz.call43 (fun l m a b ca cb w h1 h2 => zsor_any l m a b ca cb w h1 h2) s ts ls (by omega) a c B1 w6 (hP.st (st.at h6)) (hS.st (st.at h6)) ((((st.at h6)).get (X := v3) (by simp)).block _ (lt_cellsM hx1) |>.trans hx1))
  rintro v w6 v6 h6 hB6 ⟨a6, c6, rfl, hO6⟩
  have st := st.nx h6 hB6
  have hway : Tb.way 2 s ls = Zs.or (Tb.p0 ls).2 (Tb.p1 ls).2 := rfl
  rw [hway]
  have hcp := fun (w : World) => capped_any (Zs.or (Tb.p0 ls).2 (Tb.p1 ls).2).1 (Zs.or (Tb.p0 ls).2 (Tb.p1 ls).2).2 zones a6 c6 w
  have hO6 := hO6.lower h6.below.size
  generalize Zs.or (Tb.p0 ls).2 (Tb.p1 ls).2 = X at hcp hO6 ⊢
  obtain ⟨l, e⟩ := X
  simp only at hcp hO6 ⊢
  unfold Tb.capped
  by_cases h7 : e ≠ 0 ∨ zones < (l.length : Int)
  ·simp only [if_pos h7] at hcp ⊢
   apply CallI.use1
   focus (exact fun w7 h7 => hcp w7)
   intro w7 v7 h8 hB7
   exact EndI.mk fun w9 h9 => ⟨_, _, rfl, Own.nil⟩
  ·simp only [if_neg h7] at hcp ⊢
   apply CallI.use1
   focus (exact fun w7 h7 => hcp w7)
   intro w7 v7 h8 hB7
   exact EndI.mk fun w9 h9 => ⟨_, _, rfl, ((hO6.below (at_belowM h8 (by simp))).below hB7).below (at_belowM h9 (by simp))⟩
 ·have e0 : Tb.waysF B1 B2 3 = some (Tb.bothV B2) := rfl
  refine ⟨fun w4 h4 => ⟨_, _, (hM.at h4 (by simp)).look 3 (by omega), KpOk.ok h4 (Below.refl _ _), ?_⟩⟩
  rw [e0]
  have st := (st.at h4)
  have sh : Tb.shape 3 s ls.length = (decide (ls.length = 2) && decide (s = Tb.sp0)) := by unfold Tb.shape Tb.known; simp
  repeat (first | (refine Branch.no rfl ?_) | (refine Branch.yes rfl ?_))
  refine Branch.mk (fun c1 => ?_) (fun c1 => ?_)
  ·have c1 : ¬ ls.length = 2 := by have := of_decide_eq_true c1; omega
   rw [if_pos (show Tb.shape 3 s ls.length = false by rw [sh, decide_eq_false c1]; rfl)]
   repeat (first | (refine Branch.no rfl ?_) | (refine Branch.yes rfl ?_))
   exact EndI.mk fun w9 h9 => ⟨_, _, rfl, Own.nil⟩
  have c1 : ls.length = 2 := by have := of_decide_eq_false c1; omega
  refine GenV.to (fun w => run_neq_spG _ _ s Tb.sp0 w) fun w5 h5 => ?_
  have st := st.next h5 (by simp) (Below.refl _ _)
  refine Branch.mk (fun c2 => ?_) (fun c2 => ?_)
  ·have c2 : ¬ s = Tb.sp0 := of_decide_eq_true c2
   rw [if_pos (show Tb.shape 3 s ls.length = false by rw [sh, decide_eq_true c1, decide_eq_false c2]; rfl)]
   exact EndI.mk fun w9 h9 => ⟨_, _, rfl, Own.nil⟩
  have c2 : s = Tb.sp0 := by simpa using c2
  rw [if_neg (show ¬ Tb.shape 3 s ls.length = false by rw [sh, decide_eq_true c1, decide_eq_true c2]; decide)]
  refine Need.mk Tryz.call105 ?_
  apply CallI.use
  focus (exact fun w6 h6 => both1_any 65 Zs.and Tryz.call65 (fun l m a b ca cb w h1 h2 => zsand_any l m a b ca cb w h1 h2) s ts ls (by omega) a c B2 w6 (hP.st (st.at h6)) (hS.st (st.at h6)) ((((st.at h6)).get (X := v3) (by simp)).block _ (lt_cellsM hx2) |>.trans hx2))
  rintro v w6 v6 h6 hB6 ⟨a6, c6, rfl, hO6⟩
  have st := st.nx h6 hB6
  have hway : Tb.way 3 s ls = Zs.and (Tb.p0 ls).2 (Tb.p1 ls).2 := rfl
  rw [hway]
  have hcp := fun (w : World) => capped_any (Zs.and (Tb.p0 ls).2 (Tb.p1 ls).2).1 (Zs.and (Tb.p0 ls).2 (Tb.p1 ls).2).2 zones a6 c6 w
  have hO6 := hO6.lower h6.below.size
  generalize Zs.and (Tb.p0 ls).2 (Tb.p1 ls).2 = X at hcp hO6 ⊢
  obtain ⟨l, e⟩ := X
  simp only at hcp hO6 ⊢
  unfold Tb.capped
  by_cases h7 : e ≠ 0 ∨ zones < (l.length : Int)
  ·simp only [if_pos h7] at hcp ⊢
   apply CallI.use1
   focus (exact fun w7 h7 => hcp w7)
   intro w7 v7 h8 hB7
   exact EndI.mk fun w9 h9 => ⟨_, _, rfl, Own.nil⟩
  ·simp only [if_neg h7] at hcp ⊢
   apply CallI.use1
   focus (exact fun w7 h7 => hcp w7)
   intro w7 v7 h8 hB7
   exact EndI.mk fun w9 h9 => ⟨_, _, rfl, ((hO6.below (at_belowM h8 (by simp))).below hB7).below (at_belowM h9 (by simp))⟩
 ·have e0 : Tb.waysF B1 B2 4 = some (.func (.func 66) #[] #[]) := rfl
  refine ⟨fun w4 h4 => ⟨_, _, (hM.at h4 (by simp)).look 4 (by omega), KpOk.ok h4 (Below.refl _ _), ?_⟩⟩
  rw [e0]
  have st := (st.at h4)
  have sh : Tb.shape 4 s ls.length = (decide (ls.length = 2) && decide (s = Tb.sp0)) := by unfold Tb.shape Tb.known; simp
  repeat (first | (refine Branch.no rfl ?_) | (refine Branch.yes rfl ?_))
  refine Branch.mk (fun c1 => ?_) (fun c1 => ?_)
  ·have c1 : ¬ ls.length = 2 := by have := of_decide_eq_true c1; omega
   rw [if_pos (show Tb.shape 4 s ls.length = false by rw [sh, decide_eq_false c1]; rfl)]
   repeat (first | (refine Branch.no rfl ?_) | (refine Branch.yes rfl ?_))
   exact EndI.mk fun w9 h9 => ⟨_, _, rfl, Own.nil⟩
  have c1 : ls.length = 2 := by have := of_decide_eq_false c1; omega
  refine GenV.to (fun w => run_neq_spG _ _ s Tb.sp0 w) fun w5 h5 => ?_
  have st := st.next h5 (by simp) (Below.refl _ _)
  refine Branch.mk (fun c2 => ?_) (fun c2 => ?_)
  ·have c2 : ¬ s = Tb.sp0 := of_decide_eq_true c2
   rw [if_pos (show Tb.shape 4 s ls.length = false by rw [sh, decide_eq_true c1, decide_eq_false c2]; rfl)]
   exact EndI.mk fun w9 h9 => ⟨_, _, rfl, Own.nil⟩
  have c2 : s = Tb.sp0 := by simpa using c2
  rw [if_neg (show ¬ Tb.shape 4 s ls.length = false by rw [sh, decide_eq_true c1, decide_eq_true c2]; decide)]
  refine Need.mk Tryz.call66 ?_
  apply CallI.use
  focus (exact fun w6 h6 => ways1_any s ts ls (by omega) a c w6 (hP.st (st.at h6)) (hS.st (st.at h6)))
  rintro v w6 v6 h6 hB6 ⟨a6, c6, rfl, hO6⟩
  have st := st.nx h6 hB6
  have hway : Tb.way 4 s ls = Zs.comp (Tb.p0 ls).1 (Tb.p1 ls).2 := rfl
  rw [hway]
  have hcp := fun (w : World) => capped_any (Zs.comp (Tb.p0 ls).1 (Tb.p1 ls).2).1 (Zs.comp (Tb.p0 ls).1 (Tb.p1 ls).2).2 zones a6 c6 w
  have hO6 := hO6.lower h6.below.size
  generalize Zs.comp (Tb.p0 ls).1 (Tb.p1 ls).2 = X at hcp hO6 ⊢
  obtain ⟨l, e⟩ := X
  simp only at hcp hO6 ⊢
  unfold Tb.capped
  by_cases h7 : e ≠ 0 ∨ zones < (l.length : Int)
  ·simp only [if_pos h7] at hcp ⊢
   apply CallI.use1
   focus (exact fun w7 h7 => hcp w7)
   intro w7 v7 h8 hB7
   exact EndI.mk fun w9 h9 => ⟨_, _, rfl, Own.nil⟩
  ·simp only [if_neg h7] at hcp ⊢
   apply CallI.use1
   focus (exact fun w7 h7 => hcp w7)
   intro w7 v7 h8 hB7
   exact EndI.mk fun w9 h9 => ⟨_, _, rfl, ((hO6.below (at_belowM h8 (by simp))).below hB7).below (at_belowM h9 (by simp))⟩
namespace Tb
theorem Parts.nil {n : Nat} {W : World} : Parts n W [] [] := ⟨rfl, fun k t l h => by simp at h⟩
theorem Parts.cons {n : Nat} {W : World} {ts : List Tbl} {ls : List Tab} (h : Parts n W ts ls) {p q : List Zn} {a b : Option Addr} {ca cb : Nat} (h1 : Sl n W (.slice a p.length ca) p) (h2 : Sl n W (.slice b q.length cb) q) : Parts n W (⟨⟨a, p.length, ca⟩, ⟨b, q.length, cb⟩⟩ :: ts) ((p, q) :: ls) := by
 refine ⟨by simp [h.1], fun k t l ht hl => ?_⟩
 cases k with
 | zero =>
   simp at ht hl
   subst ht; subst hl
   exact ⟨h1, rfl, h2, rfl⟩
 | succ k =>
   simp at ht hl
   exact h.2 k t l ht hl
end Tb
end Go.Proofs.YtanhnllkccldhaaGreat
namespace Go.Proofs.YtanhnllkccldhaaGreat
set_option linter.unusedVariables false
set_option linter.unusedSimpArgs false
open Go.RowKit Go.Proofs.YtanhnllkccldhaaGreat.Eng Enc
namespace Cv
open Mi Zo
end Cv
end Go.Proofs.YtanhnllkccldhaaGreat
namespace Go.Proofs.YtanhnllkccldhaaGreat
set_option linter.unusedVariables false
set_option linter.unusedSimpArgs false
set_option maxRecDepth 100000
open Go.RowKit Go.Proofs.YtanhnllkccldhaaGreat.Eng Enc
namespace Zs
open Cv
theorem prune_one (z : Zn) (h0 : checked [[z]] = 0) (h : in_ z [] = (false, 0)) : prune [z] = ([z], 0) := by
 unfold prune
 rw [if_neg (by rw [h0]; simp), sorted_self (List.pairwise_singleton _ _)]
 show pgo 1 [z] = _
 rw [pgo_succ (z := z) rfl]
 show (if (in_ z []).2 ≠ 0 then _ else if (in_ z []).1 = true then _ else pgo 0 [z]) = _
 rw [h]
 rfl
end Zs
namespace Zs
end Zs
namespace Tb
open Zs Cv
def u0 : Zn := ⟨2, 1, 3, 0, 3, 0⟩
def u1 : Zn := ⟨4, -1, 5, -2, 3, 0⟩
def u01 : Zn := ⟨2, 1, 5, -2, 5, 0⟩
theorem un0 : Zo.make ⟨0, false, 0 + 1, false, false⟩ ⟨0, false, 0 + 1, false, false⟩ ⟨0, true, 1, false, false⟩ = (u0, 0) := by decide +kernel
theorem un1 : Zo.make ⟨1, false, 1 + 1, false, false⟩ ⟨1, false, 1 + 1, false, false⟩ ⟨0, true, 1, false, false⟩ = (u1, 0) := by decide +kernel
theorem nm_p0 : prune [u0] = ([u0], 0) := prune_one _ (by decide +kernel) (by decide +kernel)
theorem nm_p1 : prune [u1] = ([u1], 0) := prune_one _ (by decide +kernel) (by decide +kernel)
theorem nm_p01 : prune [u01] = ([u01], 0) := prune_one _ (by decide +kernel) (by decide +kernel)
theorem nm_t0 : tmay [u0] [u0] = true := by
 have h1 : all_ [u0] [u0] = (true, 0) := by decide +kernel
 unfold tmay Zs.check
 rw [nm_p0, if_neg (by decide +kernel), h1]
 decide +kernel
theorem nm_t1 : tmay [u1] [u1] = true := by
 have h1 : all_ [u1] [u1] = (true, 0) := by decide +kernel
 unfold tmay Zs.check
 rw [nm_p1, if_neg (by decide +kernel), h1]
 decide +kernel
theorem nm_ask2 : ask 10 [([u0], [u0]), ([u1], [u1])] = 0 := by
 unfold ask
 simp only [List.any_cons, List.any_nil, nm_t0, nm_t1]
 decide
theorem nm_comp : Zs.comp [u0] [u1] = ([u01], 0) := by
 have h1 : Cmp.comp u0 u1 = (u01, 0) := by decide +kernel
 unfold Zs.comp paired
 rw [if_pos (by decide +kernel), pairGo_cons, come_cons, h1]
 show (if (prune [u01]).2 = 0 then pairGo Cmp.comp [u1] (prune [u01]).1 [] else _) = _
 rw [nm_p01]; rfl
theorem nm_cat : new 4 sp0 [([u0], [u0]), ([u1], [u1])] 10 = ([u01], 0) := by
 have e : way 4 sp0 [([u0], [u0]), ([u1], [u1])] = ([u01], 0) := nm_comp
 unfold new
 rw [nm_ask2, if_neg (by decide), if_neg (by decide), e]
 decide
theorem nm_yes : has [u01] (pt 1 3) = (true, 0) := by decide +kernel
theorem nm_no : has [u01] (pt 1 2) = (false, 0) := by decide +kernel
theorem sp0_ins : sp0.ins := ⟨by simp only [sp0, inK]; omega, by simp only [sp0, inK]; omega⟩
end Tb
theorem unit24_any (at_ : Int) (h0 : 0 ≤ at_ ∧ at_ ≤ 1) (z : Zn) (hz : Zo.make ⟨at_, false, at_ + 1, false, false⟩ ⟨at_, false, at_ + 1, false, false⟩ ⟨0, true, 1, false, false⟩ = (z, 0)) (w : World) :
 Calls Tryz.prog 30 #[.int .i64 at_] w (Ret w fun v w' => ∃ a b ca cb, v = .agg #[.slice a 1 ca, .slice b 1 cb] ∧ Own TZ w.heap.size w' (.slice a 1 ca) [z] ∧ Own TZ w.heap.size w' (.slice b 1 cb) [z]) := by
 refine fun_at 0 w.heap.size w (Nat.le_refl _) Tryz.func30 (args := [.val (.int .i64 at_)]) rfl rfl ?_
 have hmk := fun (w : World) => make_any ⟨at_, false, at_ + 1, false, false⟩ ⟨at_, false, at_ + 1, false, false⟩ ⟨0, true, 1, false, false⟩ ⟨by simp only [inK]; omega, by simp only [inK]; omega⟩ ⟨by simp only [inK]; omega, by simp only [inK]; omega⟩ ⟨by simp only [inK]; omega, by simp only [inK]; omega⟩ w
 rw [hz] at hmk
 refine NewI.mk fun b1 hb1 => ?_
 refine Need.mk (by simp only [inK]; omega) ?_
 refine Need.mk (by simp only [inK]; omega) ?_
 apply CallI.use1
 focus (exact fun w1 h1 => hmk w1)
 intro w1 v1 h1 hB1
 refine NewI.mk fun b2 hb2 => ?_
 refine Branch.no rfl ?_
 refine NewI.mk fun b3 hb3 => ?_
 refine NewI.mk fun b4 hb4 => ?_
 have hb3' : w.heap.size ≤ b3 := Nat.le_trans h1.below.size (Nat.le_trans hB1.size hb3)
 have hb4' : w.heap.size ≤ b4 := Nat.le_trans h1.below.size (Nat.le_trans hB1.size hb4)
 exact EndI.mk fun w9 h9 => ⟨_, _, _, _, rfl, Own.own (l := [z]) h9 2 rfl rfl rfl hb3', Own.own (l := [z]) h9 3 rfl rfl rfl hb4'⟩
theorem point24_any (t u : Int) (ht : inK .i64 t) (hu : inK .i64 u) (w : World) :
 Calls Tryz.prog 13 #[.int .i64 t, .int .i64 u] w fun e w' => e = .returned (.agg #[.int .i64 (Fr.of t 2).1.num, .int .i64 (Fr.of t 2).1.den, .int .i64 (Fr.of u 2).1.num, .int .i64 (Fr.of u 2).1.den]) ∧ Below w.heap.size w w' := by
 refine fun_eq 0 w Tryz.func13 (args := [.val (.int .i64 t), .val (.int .i64 u)]) rfl rfl ?_
 refine NewI.mk fun b1 hb1 => ?_
 (first
   | (refine CallI.to1 (rof_any t 2 ht (by simp only [inK]; omega)) fun w2 => ?_)
   | (refine Branch.yes rfl ?_)
   | (refine Branch.no rfl ?_)
   | (refine Branch.mk (fun hb => ?_) (fun hb => ?_))
   | (refine NewI.mk fun nb hnb => ?_)
   | (refine Need.mk (by show _ ∧ _; omega) ?_)
   | (refine Need.mk (by omega) ?_)
   | (refine Need.mk ?_ ?_)
   | (refine EndI.mk fun w1 h1 => ?_))
 refine NewI.mk fun b2 hb2 => ?_
 (first
   | (refine CallI.to1 (rof_any u 2 hu (by simp only [inK]; omega)) fun w2 => ?_)
   | (refine Branch.yes rfl ?_)
   | (refine Branch.no rfl ?_)
   | (refine Branch.mk (fun hb => ?_) (fun hb => ?_))
   | (refine NewI.mk fun nb hnb => ?_)
   | (refine Need.mk (by show _ ∧ _; omega) ?_)
   | (refine Need.mk (by omega) ?_)
   | (refine Need.mk ?_ ?_)
   | (refine EndI.mk fun w1 h1 => ?_))
 refine NewI.mk fun b3 hb3 => ?_
 exact EndI.mk fun w3 h3 => rfl
set_option maxHeartbeats 1000000 in
theorem alive24_any (w : World) : Calls Tryz.prog 9 #[] w fun e w' => e = .returned (.bool true) ∧ Below w.heap.size w w' := by
 refine fun_eq 0 w Tryz.func9 (args := []) rfl rfl ?_
 have st := Stay.first (w := w)
 have hnew := fun (w : World) ts a c hP hS => tnew_any 4 (by omega) Tb.sp0 Tb.sp0_ins 10 ts [([Tb.u0], [Tb.u0]), ([Tb.u1], [Tb.u1])] a c w hP hS
 rw [Tb.nm_cat] at hnew
 have p3 := fun w => point24_any 1 3 (by simp [inK]) (by simp [inK]) w
 have p2 := fun w => point24_any 1 2 (by simp [inK]) (by simp [inK]) w
 have hy := fun (w : World) a c h => zshas_any [Tb.u01] (Tb.pt 1 3) ⟨Fr.of_ins (by simp [inK]), Fr.of_ins (by simp [inK])⟩ a c w h
 rw [Tb.nm_yes] at hy
 have hn := fun (w : World) a c h => zshas_any [Tb.u01] (Tb.pt 1 2) ⟨Fr.of_ins (by simp [inK]), Fr.of_ins (by simp [inK])⟩ a c w h
 rw [Tb.nm_no] at hn
 apply CallI.use
 focus (exact fun w1 h1 => unit24_any 0 (by omega) Tb.u0 Tb.un0 w1)
 rintro v w1 v1 h1 hB1 ⟨x1, y1, cx1, cy1, rfl, hX1, hY1⟩
 have st := st.nx h1 hB1
 apply CallI.use
 focus (exact fun w2 h2 => unit24_any 1 (by omega) Tb.u1 Tb.un1 w2)
 rintro v w2 v2 h2 hB2 ⟨x2, y2, cx2, cy2, rfl, hX2, hY2⟩
 have st := st.nx h2 hB2
 refine NewI.mk fun b1 hb1 => ?_
 apply CallI.use
 focus (exact fun w3 h3 => hnew w3 [⟨⟨x1, 1, cx1⟩, ⟨y1, 1, cy1⟩⟩, ⟨⟨x2, 1, cx2⟩, ⟨y2, 1, cy2⟩⟩] _ _ ((Tb.Parts.nil.cons (p := [Tb.u1]) (q := [Tb.u1]) ((hX2.st (st.at h3)).sl) ((hY2.st (st.at h3)).sl)).cons (p := [Tb.u0]) (q := [Tb.u0]) ((hX1.st (st.at h3)).sl) ((hY1.st (st.at h3)).sl)) (Sl.own (l := [(⟨⟨x1, 1, cx1⟩, ⟨y1, 1, cy1⟩⟩ : Tbl), ⟨⟨x2, 1, cx2⟩, ⟨y2, 1, cy2⟩⟩]) h3 0 rfl rfl rfl (Nat.le_refl _) (by simp [maxLen])))
 rintro v w3 v3 h3 hB3 ⟨a3, c3, rfl, hO3⟩
 have st := st.nx h3 hB3
 apply CallI.use1
 focus (exact fun w4 h4 => p3 w4)
 intro w4 v4 h4 hB4
 have st := st.nx h4 hB4
 apply CallI.use1
 focus (exact fun w5 h5 => hy w5 a3 c3 ((hO3.st (st.at h5)).sl))
 intro w5 v5 h5 hB5
 have st := st.nx h5 hB5
 apply CallI.use1
 focus (exact fun w6 h6 => p2 w6)
 intro w6 v6 h6 hB6
 have st := st.nx h6 hB6
 apply CallI.use1
 focus (exact fun w7 h7 => hn w7 a3 c3 ((hO3.st (st.at h7)).sl))
 intro w7 v7 h7 hB7
 have st := st.nx h7 hB7
 repeat (refine Branch.yes rfl ?_)
 exact EndI.mk fun w15 h15 => rfl
namespace Rg
end Rg
namespace Tr
end Tr
namespace Tb
open Ky Cl
theorem lists_take {ls : List Tab} {k : Nat} {x : Tab} (h : ls[k]? = some x) : lists (ls.take (k + 1)) = lists (ls.take k) ++ x.1 ++ x.2 := by
 unfold lists
 rw [List.take_add_one, h, List.flatMap_append]
 simp
theorem lists_le (ls : List Tab) (k : Nat) : (lists (ls.take k)).length ≤ (lists ls).length := by
 conv => rhs; rw [← List.take_append_drop k ls]
 unfold lists
 rw [List.flatMap_append, List.length_append]
 omega
theorem lists_i64 {ls : List Tab} (h : ∀ x, x ∈ ls → (∀ z, z ∈ x.1 → Zo.i64 z) ∧ ∀ z, z ∈ x.2 → Zo.i64 z) : ∀ z, z ∈ lists ls → Zo.i64 z := fun z hz => by
 unfold lists at hz
 obtain ⟨x, hx, hz⟩ := List.mem_flatMap.1 hz
 rcases List.mem_append.1 hz with hz | hz
 ·exact (h x hx).1 z hz
 ·exact (h x hx).2 z hz
theorem lists_len {ls : List Tab} (h1 : ls.length ≤ 10) (h2 : big ls = false) : (lists ls).length ≤ 800 := by
 have key : ∀ l : List Tab, (∀ x, x ∈ l → x.1.length ≤ 40 ∧ x.2.length ≤ 40) → (lists l).length ≤ 80 * l.length := by
  intro l
  induction l with
  | nil => intro _; simp [lists]
  | cons x l ih =>
    intro h
    have := ih fun y hy => h y (by simp [hy])
    have hx := h x (by simp)
    unfold lists at this ⊢
    simp only [List.flatMap_cons, List.length_append, List.length_cons]
    omega
 have := key ls fun x hx => by
  unfold big at h2
  have h6 := List.any_eq_false.1 h2 x (by rw [List.take_of_length_le h1]; exact hx)
  simp only [Bool.or_eq_true, decide_eq_true_eq, not_or] at h6
  omega
 omega
end Tb
set_option maxHeartbeats 1000000 in
theorem rlists24_any (ts : List Tbl) (ls : List Tb.Tab) (htot : (Tb.lists ls).length ≤ 100000) (a : Option Addr) (c : Nat) (w : World) (hP : Tb.Parts w.heap.size w ts ls) (hS : Sl w.heap.size w (.slice a ts.length c) ts) :
 Calls Tryz.prog 15 #[.slice a ts.length c] w (Ret w fun v w' => ∃ a' c', v = .slice a' (Tb.lists ls).length c' ∧ Own TZ w.heap.size w' (.slice a' (Tb.lists ls).length c') (Tb.lists ls)) := by
 refine fun_ret 0 w Tryz.func15 (args := [.val (.slice a ts.length c)]) rfl rfl ?_
 have hlen := hP.1
 obtain ⟨_, _, hfe, hcap1, hcap2, _⟩ := hS.form
 injection hfe with _ _ hfe
 subst hfe
 unfold maxLen at hcap2
 refine LoopI.invC (α := Nat × World × Value) (fun y => [(4, .val (.int .i64 y.1)), (3, .val y.2.2)]) (fun y => y.2.1) (fun y => y.1 ≤ ts.length ∧ Below w.heap.size w y.2.1 ∧ Own TZ w.heap.size y.2.1 y.2.2 (Tb.lists (ls.take y.1))) (fun y => ts.length - y.1) ?_ ?_
 ·intro w3 h3
  exact ⟨(0, w3, .slice none 0 0), Cov.au rfl rfl rfl rfl rfl, rfl, Nat.zero_le _, h3.below, Own.nil⟩
 rintro ⟨k, U, tv⟩ ⟨hk, hU, hO⟩
 simp only at hk hU hO
 refine Branch.mk (fun hc => ?_) (fun hc => ?_)
 ·have hlt : k < ts.length := by have := of_decide_eq_true hc; simp only at this; omega
  obtain ⟨x, y, cx, cy, t0, sa, sn⟩ := hP.one k (by omega)
  have hl := List.getElem?_eq_getElem (l := ls) (i := k) (by omega)
  generalize ls[k]'(by omega) = l at hl
  rw [hl] at t0 sa sn
  simp only [Option.getD_some] at t0 sa sn
  have hft := Tb.lists_take hl
  have hfl := Tb.lists_le ls (k + 1)
  rw [hft, List.length_append, List.length_append] at hfl
  have hSU := hS.go hU hU.size
  refine hSU.idx t0 fun ad had => ?_
  refine hSU.ldx t0 had (Below.refl _ _) (by simp) (i := 0) (c := .slice x l.1.length cx) rfl ?_
  refine GenN.app (α := Zn) elZ (Tb.lists (ls.take k)) l.1 w.heap.size (fun w5 h5 => hO.at h5 (by simp)) (fun w5 h5 => (sa.go h5.below h5.below.size).src) (by unfold maxLen; omega) (by omega) (fun w5 h5 => h5.below.size) (fun w5 w6 h5 hg => keep_grown h5 hg (fun k hk => ⟨(hO.lt k hk).1, by simp⟩)) fun v1 w5 w6 h5 hg hO1 => ?_
  have hB6 : Below w.heap.size w w6 := grown_belowM h5.below hg (fun k hk => (hO.lt k hk).1) h5.below.size
  have hS6 := hS.go hB6 hB6.size
  refine hS6.idx t0 fun ad2 had2 => ?_
  refine hS6.ldx t0 had2 (Below.refl _ _) (by simp) (i := 1) (c := .slice y l.2.length cy) rfl ?_
  refine GenN.app (α := Zn) elZ (Tb.lists (ls.take k) ++ l.1) l.2 w.heap.size (fun w7 h7 => hO1.at h7 (by simp)) (fun w7 h7 => (sn.go h7.below h7.below.size).src) (by unfold maxLen; simp; omega) (by simp; omega) (fun w7 h7 => h7.below.size) (fun w7 w8 h7 hg => keep_grown h7 hg (fun k hk => ⟨(hO1.lt k hk).1, by simp⟩)) fun v2 w7 w8 h7 hg2 hO2 => ?_
  rw [← hft] at hO2
  refine Need.mk (by simp only [inK]; omega) (EndI.mk fun w9 h9 => ⟨(k + 1, w9, v2), Cov.au rfl rfl rfl rfl rfl, rfl, ⟨hlt, h9.below, hO2.below (at_belowM h9 (by simp))⟩, by simp only; omega⟩)
 ·have hge : k = ts.length := by have := of_decide_eq_false hc; simp only at this; omega
  subst hge
  rw [List.take_of_length_le (by omega)] at hO
  obtain ⟨a', c', rfl⟩ := hO.form
  exact EndI.mk fun w9 h9 => ⟨_, _, rfl, hO.at h9 (by simp)⟩
set_option maxHeartbeats 1000000 in
theorem great24_any (ts : List Tbl) (ls : List Tb.Tab) (l : List Zn) (hi : ∀ x, x ∈ ls → (∀ z, z ∈ x.1 → Zo.i64 z) ∧ ∀ z, z ∈ x.2 → Zo.i64 z) (hil : ∀ z, z ∈ l → Zo.i64 z) (a b : Option Addr) (c cb : Nat) (w : World) (hP : Tb.Parts w.heap.size w ts ls) (hS : Sl w.heap.size w (.slice a ts.length c) ts) (hT : Sl w.heap.size w (.slice b l.length cb) l) :
 Calls Tryz.prog 10 #[.slice a ts.length c, .slice b l.length cb] w fun e w' => e = .returned (.bool (Tb.great ls l)) ∧ Below w.heap.size w w' := by
 refine fun_eq 0 w Tryz.func10 (args := [.val (.slice a ts.length c), .val (.slice b l.length cb)]) rfl rfl ?_
 have hlen := hP.1
 obtain ⟨_, _, hfe, hcap1, hcap2, _⟩ := hS.form
 injection hfe with _ _ hfe
 subst hfe
 unfold maxLen at hcap2
 refine LoopI.invC (α := Nat × World) (fun y => [(5, .val (.int .i64 y.1))]) (fun y => y.2) (fun y => y.1 ≤ ts.length ∧ y.1 ≤ 10 ∧ Below w.heap.size w y.2 ∧ ∀ x, x ∈ ls.take y.1 → ¬ 40 < x.1.length ∧ ¬ 40 < x.2.length) (fun y => ts.length - y.1) ?_ ?_
 ·intro w3 h3
  exact ⟨(0, w3), Cov.au rfl rfl rfl rfl rfl, rfl, Nat.zero_le _, Nat.zero_le _, h3.below, by simp⟩
 rintro ⟨j, V⟩ ⟨hj, hj10, hV, hall⟩
 simp only at hj hj10 hV hall
 have fin : ∀ (hend : j = ts.length ∨ j = 10), Tb.big ls = false := fun hend => by
  unfold Tb.big
  rw [List.any_eq_false]
  intro x hx
  have hm : x ∈ ls.take j := by
   rcases hend with rfl | rfl
   ·rw [List.take_of_length_le (by omega)]; exact List.mem_of_mem_take hx
   ·exact hx
  have := hall x hm
  simp only [Bool.or_eq_true, decide_eq_true_eq, not_or]
  exact this
 by_cases hcond : j < ts.length ∧ j < 10
 ·obtain ⟨hlt, hlt10⟩ := hcond
  refine Branch.yes (decide_eq_true (by simp only; omega)) ?_
  refine Branch.yes (decide_eq_true (by simp only; omega)) ?_
  obtain ⟨x, y, cx, cy, t0, sa, sn⟩ := hP.one j (by omega)
  have hg := List.getElem?_eq_getElem (l := ls) (i := j) (by omega)
  have hm := List.getElem_mem (l := ls) (n := j) (by omega)
  generalize ls[j]'(by omega) = q at hg hm
  rw [hg] at t0 sa sn
  simp only [Option.getD_some] at t0 sa sn
  have hmt : q ∈ ls.take 10 := by
   refine List.mem_of_getElem? (i := j) ?_
   rw [List.getElem?_take, if_pos hlt10]; exact hg
  have yes : 40 < q.1.length ∨ 40 < q.2.length → Tb.great ls l = true := fun h => by
   have : Tb.big ls = true := List.any_eq_true.2 ⟨q, hmt, by simpa using h⟩
   unfold Tb.great
   rw [this]; rfl
  have hSV := hS.go hV hV.size
  refine hSV.idx t0 fun ad had => ?_
  refine hSV.ldx t0 had (Below.refl _ _) (by simp) (i := 0) (c := .slice x q.1.length cx) rfl ?_
  refine Branch.mk (fun h5 => ?_) (fun h5 => ?_)
  ·rw [yes (.inl (by have := of_decide_eq_true h5; omega))]
   exact EndI.mk fun w9 h9 => rfl
  have h5 : ¬ 40 < q.1.length := by have := of_decide_eq_false h5; omega
  refine hSV.idx t0 fun ad2 had2 => ?_
  refine hSV.ldx t0 had2 (Below.refl _ _) (by simp) (i := 1) (c := .slice y q.2.length cy) rfl ?_
  refine Branch.mk (fun h6 => ?_) (fun h6 => ?_)
  ·rw [yes (.inr (by have := of_decide_eq_true h6; omega))]
   exact EndI.mk fun w9 h9 => rfl
  have h6 : ¬ 40 < q.2.length := by have := of_decide_eq_false h6; omega
  refine Need.mk (by simp only [inK]; omega) (EndI.mk fun w9 h9 => ⟨(j + 1, w9), Cov.au rfl rfl rfl rfl rfl, rfl, ⟨hlt, hlt10, h9.below, fun q' hq => ?_⟩, by simp only; omega⟩)
  rw [List.take_add_one, hg] at hq
  rcases List.mem_append.1 hq with hq | hq
  ·exact hall q' hq
  ·simp at hq; rw [hq]; exact ⟨h5, h6⟩
 have hbig := fin (by omega)
 by_cases hjl : j < ts.length
 ·refine Branch.yes (decide_eq_true (by simp only; omega)) ?_
  refine Branch.no (decide_eq_false (by simp only; omega)) ?_
  unfold Tb.great
  rw [hbig]
  refine Branch.mk (fun c1 => ?_) (fun c1 => ?_)
  ·have c1 : 10 < ls.length := by have := of_decide_eq_true c1; omega
   rw [decide_eq_true c1]
   exact EndI.mk fun w9 h9 => rfl
  have c1 : ¬ 10 < ls.length := by have := of_decide_eq_false c1; omega
  rw [decide_eq_false c1]
  refine Branch.mk (fun c2 => ?_) (fun c2 => ?_)
  ·have c2 : 40 < l.length := by have := of_decide_eq_true c2; omega
   rw [decide_eq_true c2]
   exact EndI.mk fun w9 h9 => rfl
  have c2 : ¬ 40 < l.length := by have := of_decide_eq_false c2; omega
  rw [decide_eq_false c2]
  apply CallI.use
  focus (exact fun w5 h5 => rlists24_any ts ls (by have := Tb.lists_len (by omega) hbig; omega) a c w5 (hP.go h5.below h5.below.size) (hS.go h5.below h5.below.size))
  rintro v w5 v5 h5 hB5 ⟨a5, c5, rfl, hO5⟩
  apply CallI.use1
  focus (exact fun w6 h6 => rlong24_any (Tb.lists ls) (Tb.lists_i64 hi) a5 c5 w6 (Sl.go hO5.sl (at_belowM h6 (by simp)) (at_belowM h6 (by simp)).size))
  intro w6 v6 h6 hB6
  refine Branch.mk (fun c3 => ?_) (fun c3 => ?_)
  ·have c3 : 6 < Tb.lng 0 (Tb.lists ls) := of_decide_eq_true c3
   rw [decide_eq_true c3]
   exact EndI.mk fun w9 h9 => rfl
  have c3 : ¬ 6 < Tb.lng 0 (Tb.lists ls) := of_decide_eq_false c3
  rw [decide_eq_false c3]
  apply CallI.use1
  focus (exact fun w7 h7 => rlong24_any l hil b cb w7 (hT.go h7.below h7.below.size))
  intro w7 v7 h7 hB7
  exact EndI.mk fun w9 h9 => rfl
 ·refine Branch.no (decide_eq_false (by simp only; omega)) ?_
  unfold Tb.great
  rw [hbig]
  refine Branch.mk (fun c1 => ?_) (fun c1 => ?_)
  ·have c1 : 10 < ls.length := by have := of_decide_eq_true c1; omega
   rw [decide_eq_true c1]
   exact EndI.mk fun w9 h9 => rfl
  have c1 : ¬ 10 < ls.length := by have := of_decide_eq_false c1; omega
  rw [decide_eq_false c1]
  refine Branch.mk (fun c2 => ?_) (fun c2 => ?_)
  ·have c2 : 40 < l.length := by have := of_decide_eq_true c2; omega
   rw [decide_eq_true c2]
   exact EndI.mk fun w9 h9 => rfl
  have c2 : ¬ 40 < l.length := by have := of_decide_eq_false c2; omega
  rw [decide_eq_false c2]
  apply CallI.use
  focus (exact fun w5 h5 => rlists24_any ts ls (by have := Tb.lists_len (by omega) hbig; omega) a c w5 (hP.go h5.below h5.below.size) (hS.go h5.below h5.below.size))
  rintro v w5 v5 h5 hB5 ⟨a5, c5, rfl, hO5⟩
  apply CallI.use1
  focus (exact fun w6 h6 => rlong24_any (Tb.lists ls) (Tb.lists_i64 hi) a5 c5 w6 (Sl.go hO5.sl (at_belowM h6 (by simp)) (at_belowM h6 (by simp)).size))
  intro w6 v6 h6 hB6
  refine Branch.mk (fun c3 => ?_) (fun c3 => ?_)
  ·have c3 : 6 < Tb.lng 0 (Tb.lists ls) := of_decide_eq_true c3
   rw [decide_eq_true c3]
   exact EndI.mk fun w9 h9 => rfl
  have c3 : ¬ 6 < Tb.lng 0 (Tb.lists ls) := of_decide_eq_false c3
  rw [decide_eq_false c3]
  apply CallI.use1
  focus (exact fun w7 h7 => rlong24_any l hil b cb w7 (hT.go h7.below h7.below.size))
  intro w7 v7 h7 hB7
  exact EndI.mk fun w9 h9 => rfl
end Go.Proofs.YtanhnllkccldhaaGreat
