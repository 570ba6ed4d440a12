/-
  Merged texts of this law (each with its own head below).
-/
import Derived.Test.YtanhnllkccldhaaGreatLTableNews7
import Derived.Test.YtanhnllkccldhaaGreatLTableNews3
import Derived.Lib.SliceRun
import Derived.Test.YtanhnllkccldhaaGreatLTableNews5
import Derived.Test.YtanhnllkccldhaaGreatLTableNews4
import Derived.Test.YtanhnllkccldhaaGreatLTableNews6
import Derived.Maps.Own
import Derived.Maps.Views
import Derived.Laws.StructEq
namespace Go.Proofs.YtanhnllkccldhaaGreat
set_option linter.unusedVariables false
set_option linter.unusedSimpArgs false
set_option maxRecDepth 100000
section
open Go.RowKit Go.Proofs.YtanhnllkccldhaaGreat.Eng Enc
namespace Ky
open Dbm Mi Cv Zs Cmp
def Ah (l : List Zn) : Prop := ∀ z, z ∈ l -> Zo.chk z = 0 /\ z.f <= 0
theorem Ah.chk {l : List Zn} (h : Ah l) : ∀ z, z ∈ l -> Zo.chk z = 0 := fun z hz => (h z hz).1
theorem ahead_lt {z : Zn} (h : z.f <= 0) {t : Nat -> Rat} (ht : Fz z t) : t 1 < t 2 := by
 have k := (fz_iff z t).1 ht;have k5 := satO_below (k 5 (by decide)) (show Zo.get z 5 <= 0 from h) (by decide);have s0 : Bd.st 0 = true := by decide
 unfold satO at k5;simp only [s0, if_true] at k5;have e0 : (((0 : Int) / 2 : Int) : Rat) = 0 := by decide +kernel
 rw [e0] at k5;have d5 : dif 5 t = t 1 - t 2 := rfl;rw [d5] at k5
 grind
def sx (k : Nat) : Rat := (k : Rat) / 6
theorem sx_split (f g : Nat) (hg : g < 6) : (sx (6 * f + g)).floor = f /\ fr (sx (6 * f + g)) = (g : Rat) / 6 := by
 have h0 : (0 : Rat) <= (g : Rat) := by exact_mod_cast Nat.zero_le g
 have h1 : (g : Rat) <= 5 := by exact_mod_cast (by omega : g <= 5)
 have e : sx (6 * f + g) = ((f : Int) : Rat) + (g : Rat) / 6 := by
  unfold sx;have : ((6 * f + g : Nat) : Rat) = 6 * ((f : Int) : Rat) + (g : Rat) := by norm_cast
  rw [this]; grind
 rw [e];exact fl_add (by grind) (by grind)
theorem six_between {long n : Int} (hl : 1 <= long /\ long <= 16) (hn : n ∈ regs long) {s : Rat} (h1 : rep n long 1 < s) (h2 : s < rep n long 2) :
 ∃ k : Nat, (k : Int) < 6 * long + 1 /\ Alike (t3 0 (rep n long 1) s) (t3 0 (rep n long 1) (sx k)) /\ Alike (t3 0 s (rep n long 2)) (t3 0 (sx k) (rep n long 2)) := by
 obtain ⟨_, _, _, _, r1, r2, r3⟩ := reg_pt hl hn;obtain ⟨p1, p2, p3⟩ := rep_fr hl hn;generalize rep n long 1 = T at *;generalize rep n long 2 = U at *;have hs0 : 0 <= s := by grind
 obtain ⟨g, hg, q1, q2, q3, q4, q5⟩ := sixth_of (r := fr s) p1 p2 p3 (fr_nonneg s) (fr_lt s);have f0 : 0 <= s.floor := Rat.le_floor_iff.2 (by rw [Rat.intCast_zero]; exact hs0);have f1 : s.floor < long := Rat.floor_lt_iff.2 (by grind);obtain ⟨f, hf⟩ : ∃ f : Nat, s.floor = f := ⟨s.floor.toNat, by omega⟩;obtain ⟨x1, x2⟩ := sx_split f g hg;have z : fr (0 : Rat) = 0 := fr_int 0;have nT := fr_nonneg T;have nU := fr_nonneg U;have ns := fr_nonneg s;have ng : 0 <= (g : Rat) / 6 := by rw [<- x2]; exact fr_nonneg _
 have c0 : ∀ a b : Rat, t3 0 a b 0 = 0 := fun a b => rfl;have c1 : ∀ a b : Rat, t3 0 a b 1 = a := fun a b => rfl;have c2 : ∀ a b : Rat, t3 0 a b 2 = b := fun a b => rfl;refine ⟨6 * f + g, by omega, ⟨fun i hi => ?_, fun i j hi hj => ?_⟩, ⟨fun i hi => ?_, fun i j hi hj => ?_⟩⟩
 ·rcases (by omega : i = 0 \/ i = 1 \/ i = 2) with rfl | rfl | rfl
  ·rfl
  ·rfl
  ·rw [c2, c2, x1, hf]; rfl
 ·rcases (by omega : i = 0 \/ i = 1 \/ i = 2) with rfl | rfl | rfl <;> rcases (by omega : j = 0 \/ j = 1 \/ j = 2) with rfl | rfl | rfl <;> simp only [c0, c1, c2, x2, z]
  ·exact ⟨fun _ => ng, fun _ => ns⟩
  ·exact q2
  ·exact q5
  ·exact q1
  ·exact ⟨fun _ => Rat.le_refl, fun _ => Rat.le_refl⟩
 ·rcases (by omega : i = 0 \/ i = 1 \/ i = 2) with rfl | rfl | rfl
  ·rfl
  ·rw [c1, c1, x1, hf]; rfl
  ·rfl
 ·rcases (by omega : i = 0 \/ i = 1 \/ i = 2) with rfl | rfl | rfl <;> rcases (by omega : j = 0 \/ j = 1 \/ j = 2) with rfl | rfl | rfl <;> simp only [c0, c1, c2, x2, z]
  ·exact ⟨fun _ => ng, fun _ => ns⟩
  ·exact q5
  ·exact ⟨fun _ => Rat.le_refl, fun _ => Rat.le_refl⟩
  ·exact q3
  ·exact q4
theorem fz_ext (z : Zn) {t t' : Nat -> Rat} (h0 : t 0 = t' 0) (h1 : t 1 = t' 1) (h2 : t 2 = t' 2) : Fz z t ↔ Fz z t' := by
 have e : ∀ i, i < 3 -> t i = t' i := fun i hi => by rcases (by omega : i = 0 \/ i = 1 \/ i = 2) with rfl | rfl | rfl <;> assumption
 unfold Fz Dbm.Fits;constructor
 ·intro h i j hi hj; rw [<- e i hi, <- e j hj]; exact h i j hi hj
 ·intro h i j hi hj; rw [e i hi, e j hj]; exact h i j hi hj
theorem tvs_t3 (z : Zn) (a b : Rt) {x y : Rat} (h1 : Fr.v a = x) (h2 : Fr.v b = y) : Fz z (Dbm.tvs [a, b]) ↔ Fz z (t3 0 x y) := fz_ext z (t := Dbm.tvs [a, b]) (t' := t3 0 x y) (tvs_zero _) h1 h2
theorem btw_pts {a b : List Zn} (ha : Ah a) (hb : Ah b) {long n : Int} (hl : 1 <= long /\ long <= 16) (hn : n ∈ regs long) : Rg.btw (rl a long) (rl b long) long n = true ↔ Thru (Pts a) (Pts b) (rep n long) := by
 obtain ⟨ht, hu, hnum, h0, r1, r2, r3⟩ := reg_pt hl hn;have e1 : rep n long 1 = Fr.v (Rg.pt n long).t := tvs_one _ _;have e2 : rep n long 2 = Fr.v (Rg.pt n long).u := tvs_two _ _;have e0 : rep n long 0 = 0 := tvs_zero _;unfold Rg.btw;rw [mem_regs.1 hn, Bool.true_and, List.any_eq_true];constructor
 ·rintro ⟨k, hk, h⟩
  have hk := List.mem_range.1 hk;have hk97 : k < 97 := by omega
  simp only [Bool.and_eq_true, decide_eq_true_eq] at h;obtain ⟨hA, hB⟩ := h;obtain ⟨s1, s2, _, _⟩ := Rg.six_at hk97;have hA' := (mem_rl ha.chk hl).1 hA;have hB' := (mem_rl hb.chk hl).1 hB;have nA := num_rep (p := ⟨(Rg.pt n long).t, Rg.six k⟩) hl ht s2 (isR_lt (mem_regs.1 hA'.1)).1;have nB := num_rep (p := ⟨Rg.six k, (Rg.pt n long).u⟩) hl s2 hu (isR_lt (mem_regs.1 hB'.1)).1;refine ⟨Fr.v (Rg.six k), ?_, ?_⟩
  ·obtain ⟨z, hz, hf⟩ := hA'.2
   exact ⟨z, hz, by rw [e0]; exact (tvs_t3 z (Rg.pt n long).t (Rg.six k) e1.symm rfl).1 ((nA.2 z).2 hf)⟩
  ·obtain ⟨z, hz, hf⟩ := hB'.2
   exact ⟨z, hz, by rw [e0]; exact (tvs_t3 z (Rg.six k) (Rg.pt n long).u rfl e2.symm).1 ((nB.2 z).2 hf)⟩
 ·rintro ⟨s, ⟨z, hz, hf⟩, ⟨y, hy, hg⟩⟩
  have l1 := ahead_lt (ha z hz).2 hf;have l2 := ahead_lt (hb y hy).2 hg;have l1' : rep n long 1 < s := l1;have l2' : s < rep n long 2 := l2;obtain ⟨k, hk, A1, A2⟩ := six_between hl hn l1' l2';rw [e0] at hf hg;have hk97 : k < 97 := by omega
  obtain ⟨s1, s2, _, _⟩ := Rg.six_at hk97;have hv := six_v hk97;have hf' := (A1.fz z).1 hf;have hg' := (A2.fz y).1 hg;have m1 := ahead_lt (ha z hz).2 hf';have m2 := ahead_lt (hb y hy).2 hg';have m1' : rep n long 1 < sx k := m1;have m2' : sx k < rep n long 2 := m2;have hvs : Fr.v (Rg.six k) = sx k := hv;refine ⟨k, List.mem_range.2 (by omega), ?_⟩;simp only [Bool.and_eq_true, decide_eq_true_eq];constructor
  ·have p0 : 0 <= Rg.number ⟨(Rg.pt n long).t, Rg.six k⟩ long := num_of hl ht s2 r1 (by show Fr.v (Rg.pt n long).t < Fr.v (Rg.six k); rw [hvs]; exact m1') (by show Fr.v (Rg.six k) <= _; rw [hvs]; grind)
   obtain ⟨q1, q2⟩ := num_rep (p := ⟨(Rg.pt n long).t, Rg.six k⟩) hl ht s2 p0;exact (mem_rl ha.chk hl).2 ⟨q1, z, hz, (q2 z).1 ((tvs_t3 z (Rg.pt n long).t (Rg.six k) e1.symm hvs).2 hf')⟩
  ·have p0 : 0 <= Rg.number ⟨Rg.six k, (Rg.pt n long).u⟩ long := num_of hl s2 hu (by show 0 <= Fr.v (Rg.six k); rw [hvs]; grind) (by show Fr.v (Rg.six k) < Fr.v (Rg.pt n long).u; rw [hvs]; exact m2') r3
   obtain ⟨q1, q2⟩ := num_rep (p := ⟨Rg.six k, (Rg.pt n long).u⟩) hl s2 hu p0;exact (mem_rl hb.chk hl).2 ⟨q1, y, hy, (q2 y).1 ((tvs_t3 y (Rg.six k) (Rg.pt n long).u hvs e2.symm).2 hg')⟩
theorem comp_rl {a b : List Zn} (ha : Ah a) (hb : Ah b) (h : (Zs.comp a b).2 = 0) {long : Int} (hl : 1 <= long /\ long <= 16) : Rg.comp (rl a long) (rl b long) long = (rl (Zs.comp a b).1 long, 0) := by
 obtain ⟨hF, hP⟩ := comp_pts h;unfold Rg.comp;rw [if_neg (by rw [Rg.fits_iff.2 hl]; decide), if_pos ⟨may_rl ha.chk hl, may_rl hb.chk hl⟩]
 congr 1
 refine rising_eq (Rg.up_rising _ _) (rl_rising _ _) fun x => ?_;have hbR : ∀ x, Rg.btw (rl a long) (rl b long) long x = true -> x ∈ regs long := fun x hx => by
  unfold Rg.btw at hx;simp only [Bool.and_eq_true] at hx;exact mem_regs.2 hx.1
 rw [Rg.mem_up (fun x hx => isR_lt (mem_regs.1 (hbR x hx))), mem_rl hF.2.1 hl];constructor
 ·intro hx
  exact ⟨hbR x hx, (hP _).2 ((btw_pts ha hb hl (hbR x hx)).1 hx)⟩
 ·rintro ⟨h1, h2⟩
  exact (btw_pts ha hb hl h1).2 ((hP _).1 h2)
end Ky
namespace Rg
end Rg
namespace Rg
theorem filt_step {l : List Int} {k : Nat} {x : Int} (f : Int -> Bool) (hx : l[k]? = some x) : (l.take (k + 1)).filter f = if f x = true then (l.take k).filter f ++ [x] else (l.take k).filter f := by
 rw [List.take_add_one, hx, List.filter_append];cases h : f x <;> simp [h]
theorem filt_len (l : List Int) (k : Nat) (f : Int -> Bool) : ((l.take k).filter f).length <= k := by
 have h1 := List.length_filter_le f (l.take k);rw [List.length_take] at h1; omega
end Rg
namespace Rg
def inSp (s : Sp) (a : Rt) : Bool := (Fr.keeps ⟨0, 1⟩ a (be s)).1 && (Fr.keeps a ⟨0, 1⟩ (ab s)).1
theorem fit_of {s : Sp} (h : Wn.spMay s = true) : s.fit := by
 unfold Wn.spMay at h;simp only [Bool.and_eq_true, decide_eq_true_eq] at h;refine ⟨h.1, ?_⟩
 by_cases ho : s.op = true
 ·exact .inl ho
 ·rw [if_neg ho] at h
  simp only [Bool.and_eq_true, decide_eq_true_eq] at h;exact .inr (by omega)
theorem may_half {b : Int} (h : b = 9223372036854775807 \/ (-288230376151711744 <= b / 2 /\ b / 2 <= 288230376151711744)) : Bd.may b = true /\ inK .i64 b := by
 refine ⟨?_, by simp only [inK]; omega⟩;unfold Bd.may Num.okB;rcases h with h | h
 ·rw [h]; rfl
 ·simp; right; omega
end Rg
theorem rinspan_any (a : Rt) (s : Sp) (hs : Wn.spMay s = true) (ha : a.ok = true) (ia : a.ins) (w : World) :
 Calls Tryz.prog 100 #[.agg #[.int .i64 a.num, .int .i64 a.den], .agg #[.int .i64 s.lo, .bool s.ls, .int .i64 s.hi, .bool s.hs, .bool s.op]] w fun e w' => e = .returned (.bool (Rg.inSp s a)) /\ Below w.heap.size w w' := by
 refine fun_eq 0 w Tryz.func100 (args := [.agg [.val (.int .i64 a.num), .val (.int .i64 a.den)], .agg [.val (.int .i64 s.lo), .val (.bool s.ls), .val (.int .i64 s.hi), .val (.bool s.hs), .val (.bool s.op)]]) rfl rfl ?_;have hf := Rg.fit_of hs;have m1 := Rg.may_half (.inr (Wn.be_lim hs));have m2 := Rg.may_half (Wn.ab_lim hs);have z1 : (⟨0, 1⟩ : Rt).ok = true := by decide
 have z2 : (⟨0, 1⟩ : Rt).ins := ⟨by simp [inK], by simp [inK]⟩;refine NewI.mk fun b1 hb1 => ?_;refine NewI.mk fun b2 hb2 => ?_;refine NewI.mk fun b3 hb3 => ?_;refine DrawI.go (.tk 0 (.tk 1 (.tk 2 (.ev 3 (.ev 4 (.tk 5 (.tk 6 (.tk 7 (.tk 8 (.ev 9 (.ev 10 (.tk 11 (.tk 12 .done))))))))))))) (by kernel_rfl) fun w1 h1 => ?_;refine CallI.to1 (fun w => rbelow_any s hf w) fun w3 => ?_;refine CallI.to1 (fun w => rkept03_any ⟨0, 1⟩ a z1 ha z2 ia (Rg.be s) m1.1 m1.2 w) fun w4 => ?_;unfold Rg.inSp;refine Branch.mk (fun c1 => ?_) (fun c1 => ?_)
 ·refine CallI.to1 (fun w => rabove_any s hf w) fun w5 => ?_
  refine CallI.to1 (fun w => rkept03_any a ⟨0, 1⟩ ha z1 ia z2 (Rg.ab s) m2.1 m2.2 w) fun w6 => ?_;exact EndI.mk fun w9 h9 => by rw [c1]; rfl
 ·exact EndI.mk fun w9 h9 => by rw [c1]; rfl
namespace Rg
theorem add_low {a b : Rt} (ha : a.ok = true) (hb : b.ok = true) (h1 : -2000 <= a.num /\ a.num <= 2000) (h2 : -2000 <= b.num /\ b.num <= 2000) (h3 : a.den <= 3) (h4 : b.den <= 3) : (Fr.add a b).1.ok = true /\ (Fr.add a b).2 = 0 := by
 have o1 := (Fr.ok_bd ha).1;have o2 := (Fr.ok_bd hb).1;unfold Fr.add;rw [if_pos ⟨ha, hb⟩];have hn : -12000 <= Fr.tn a b /\ Fr.tn a b <= 12000 := by
  unfold Fr.tn;rcases (by omega : a.den = 1 \/ a.den = 2 \/ a.den = 3) with e | e | e <;> rcases (by omega : b.den = 1 \/ b.den = 2 \/ b.den = 3) with f | f | f <;> rw [e, f] <;> omega
 have hd : 1 <= Fr.dn a b 1 /\ Fr.dn a b 1 <= 9 := by
  unfold Fr.dn;rcases (by omega : a.den = 1 \/ a.den = 2 \/ a.den = 3) with e | e | e <;> rcases (by omega : b.den = 1 \/ b.den = 2 \/ b.den = 3) with f | f | f <;> rw [e, f] <;> decide
 unfold Fr.sum;generalize Fr.tn a b = n at *;generalize Fr.dn a b 1 = d at *;have hg : 0 < Int.gcd n d := Int.gcd_pos_of_ne_zero_right _ (by omega);have hcop := Int.gcd_ediv_gcd_ediv_gcd (i := n) (j := d) hg;obtain ⟨q, hq⟩ : (Int.gcd n d : Int) ∣ d := Int.gcd_dvd_right _ _;have hg9 : (Int.gcd n d : Int) <= 9 := by
  have := Int.le_of_dvd (by omega) (Int.gcd_dvd_right n d);omega
 generalize Int.gcd n d = g at *;have e1 : d / (g : Int) = q := by rw [hq]; exact Int.mul_ediv_cancel_left _ (by omega)
 have hq1 : 1 <= q /\ q <= 9 := by
  rcases (by omega : g = 1 \/ g = 2 \/ g = 3 \/ g = 4 \/ g = 5 \/ g = 6 \/ g = 7 \/ g = 8 \/ g = 9) with e | e | e | e | e | e | e | e | e <;> subst e <;> omega
 have hng : -12000 <= n / (g : Int) /\ n / (g : Int) <= 12000 := by
  rcases (by omega : g = 1 \/ g = 2 \/ g = 3 \/ g = 4 \/ g = 5 \/ g = 6 \/ g = 7 \/ g = 8 \/ g = 9) with e | e | e | e | e | e | e | e | e <;> subst e <;> omega
 have hk := (of_low (n := n / (g : Int)) (d := d / (g : Int)) (by omega) (by omega) hcop).2;have hi : Fr.inI (n / (g : Int)) = true := by unfold Fr.inI; simp; omega
 rw [if_pos ⟨hk, hi⟩];exact ⟨hk, rfl⟩
theorem pt_low {n long : Int} (hl : 1 <= long /\ long <= 16) (hn : 0 <= n /\ n < 3 * (2 * long + 1) * (2 * long + 1)) : (0 <= (pt n long).t.num /\ (pt n long).t.num <= 2000 /\ 1 <= (pt n long).t.den /\ (pt n long).t.den <= 3) /\ (0 <= (pt n long).u.num /\ (pt n long).u.num <= 2000 /\ 1 <= (pt n long).u.den /\ (pt n long).u.den <= 3) := by
 have hs : sides long = 2 * long + 1 := rfl;have ht : 0 <= n / 3 / sides long /\ n / 3 / sides long <= 1000 := by
  have h1 : 0 <= n / 3 / sides long := Int.ediv_nonneg (by omega) (by omega);have h2 : n / 3 / sides long < sides long := by
   refine Int.ediv_lt_of_lt_mul (by omega) ?_;have : n < 3 * (sides long * sides long) := by rw [<- Int.mul_assoc]; exact hn.2
   omega
  omega
 have hu : 0 <= n / 3 % sides long /\ n / 3 % sides long <= 1000 := by
  have h1 := Int.emod_nonneg (n / 3) (b := sides long) (by omega);have h2 := Int.emod_lt_of_pos (n / 3) (b := sides long) (by omega);omega
 have h3 := parts_three (r := n % 3) (by omega);have low : ∀ {pl pa d : Int}, 0 <= pl /\ pl <= 1000 -> Three pa d -> 0 <= (time pl pa d).num /\ (time pl pa d).num <= 2000 /\ 1 <= (time pl pa d).den /\ (time pl pa d).den <= 3 := fun {pl pa d} h hd => by
  rw [(time_doc h hd).1];split
  ·simp only; omega
  ·rcases hd with ⟨rfl, rfl⟩ | ⟨rfl, rfl⟩ | ⟨rfl, rfl⟩ <;> simp only <;> omega
 exact ⟨low ht h3.1, low hu h3.2⟩
def gap (n long : Int) : Rt := (Fr.add (pt n long).u ⟨0 - (pt n long).t.num, (pt n long).t.den⟩).1
def spF (s : Sp) (long : Int) (x : Int) : Bool := inSp s (gap x long)
def within (a : List Int) (s : Sp) (long : Int) : List Int × Int :=
 if fits long = false then ([], 2) else if mayL a long = true /\ Wn.spMay s = true then (a.filter (spF s long), 0) else ([], 8)
theorem ok_neg {a : Rt} (h : a.ok = true) (hn : 0 <= a.num /\ a.num <= 2000) (hd : a.den <= 3) : (⟨0 - a.num, a.den⟩ : Rt).ok = true := by
 have o1 := (Fr.ok_bd h).1;have hg : Int.gcd (0 - a.num) a.den = 1 := by
  rw [Int.zero_sub, Int.neg_gcd];unfold Rt.ok Fr.okB at h;simp only [Bool.and_eq_true, decide_eq_true_eq] at h;exact h.2
 exact (of_low (n := 0 - a.num) (d := a.den) (by omega) (by omega) hg).2
theorem gap_fine {n long : Int} (hl : 1 <= long /\ long <= 16) (hn : 0 <= n /\ n < 3 * (2 * long + 1) * (2 * long + 1)) : (gap n long).ok = true /\ (gap n long).ins := by
 obtain ⟨_, h2, h3⟩ := pt_fine hl hn;obtain ⟨h4, h5⟩ := pt_low hl hn;exact ⟨(add_low h3 (ok_neg h2 (by omega) (by omega)) (by omega) (by simp only; omega) (by omega) (by simp only; omega)).1, Fr.add_ins⟩
end Rg
set_option maxHeartbeats 1000000 in
theorem rwithin14_any (l : List Int) (hlen : l.length <= 900000) (s : Sp) (hs : Wn.spMay s = true) (long : Int) (hl : 1 <= long /\ long <= 16) (hm : Rg.mayL l long = true) (pa : Option Addr) (ca : Nat) (w : World) (hS : Sl w.heap.size w (.slice pa l.length ca) l) :
 Calls Tryz.prog 58 #[.slice pa l.length ca, .agg #[.int .i64 s.lo, .bool s.ls, .int .i64 s.hi, .bool s.hs, .bool s.op], .int .i64 long] w (Ret w fun v w' => Own TKi w.heap.size w' v (l.filter (Rg.spF s long))) := by
 refine fun_ret 0 w Tryz.func58 (args := [.val (.slice pa l.length ca), .agg [.val (.int .i64 s.lo), .val (.bool s.ls), .val (.int .i64 s.hi), .val (.bool s.hs), .val (.bool s.op)], .val (.int .i64 long)]) rfl rfl ?_;have st := Stay.first (w := w)
 have hmany := Rg.many_doc hl;refine NewI.mk fun b1 hb1 => ?_;have hb1' : w.heap.size <= b1 := hb1;refine LoopI.invC (α := Nat × World × Value) (fun y => [(8, .val (.int .i64 y.1)), (7, .val y.2.2)]) (fun y => y.2.1) (fun y => y.1 <= l.length /\ Below w.heap.size w y.2.1 /\ Own TKi w.heap.size y.2.1 y.2.2 ((l.take y.1).filter (Rg.spF s long)) /\ ∀ g, y.2.2.ownBlock = some g -> g ≠ b1) (fun y => l.length - y.1) ?_ ?_
 ·intro w1 h1
  exact ⟨(0, w1, .slice none 0 0), Cov.au rfl rfl rfl rfl rfl, rfl, Nat.zero_le _, h1.below, Own.nil, fun g hg => by cases hg⟩
 rintro ⟨k, V, ov⟩ ⟨hk, hV, hO, hg1⟩;simp only at hk hV hO hg1;obtain ⟨ao, co, rfl⟩ := hO.form;have hle := Rg.filt_len l k (Rg.spF s long);refine Branch.mk (fun z3 => ?_) (fun z3 => ?_)
 ·have hlt : k < l.length := by have := of_decide_eq_true z3; simp only at this; omega
  have hx := List.getElem?_eq_getElem (l := l) (i := k) hlt;have hxm := List.getElem_mem hlt;generalize l[k] = x at hx hxm;have hes := Rg.filt_step (Rg.spF s long) hx;have hxn := Rg.may_in hm hxm;rw [hmany] at hxn;obtain ⟨hpi, hpt, hpu⟩ := Rg.pt_fine hl hxn;obtain ⟨lt, lu⟩ := Rg.pt_low hl hxn;obtain ⟨gok, gin⟩ := Rg.gap_fine hl hxn;have hSV := hS.go hV hV.size;refine hSV.idx hx fun ad had => ?_;refine hSV.ld1 hx had (Below.refl _ _) (by simp) ?_;apply CallI.use1
  focus (exact fun w5 h5 => rof14_any x long hl hxn w5)
  intro w5 v5 h5 hB5;refine NewI.mk fun b2 hb2 => ?_;have hb2' : v5.heap.size <= b2 := hb2;have hV5 : Below w.heap.size w v5 := h5.below.trans (hB5.mono h5.below.size);have hO5 := (hO.atNe h5 (fun g hg hm => by simp at hm)).below hB5;have hrow : ∀ g, (Value.slice ao ((l.take k).filter (Rg.spF s long)).length co).ownBlock = some g -> w.heap.size <= g /\ g < b2 /\ g ≠ b1 := fun g hg => by
   have e1 := hO.lt g hg;have e2 := h5.size;have e3 := hB5.size;have e4 := hg1 g hg;simp only at e2;omega
  refine Need.ok ?_;apply CallI.use1
  focus (exact fun w6 h6 => radd03_any (Rg.pt x long).u ⟨0 - (Rg.pt x long).t.num, (Rg.pt x long).t.den⟩ hpi.2 ⟨by simp only [inK]; omega, by simp only [inK]; omega⟩ w6)
  intro w6 v6 h6 hB6;refine NewI.mk fun b3 hb3 => ?_;have hb3' : v6.heap.size <= b3 := hb3;have hO6 := (hO5.atNe h6 (fun g hg hm => by have := hrow g hg; simp at hm <;> omega)).below hB6;have hn6 : b2 < v6.heap.size \/ v6.heap.size <= b2 := by omega
  apply CallI.use1
  focus (exact fun w7 h7 => rinspan_any (Rg.gap x long) s hs gok gin w7)
  intro w7 v7 h7 hB7;have hV7 : Below w.heap.size w v7 := h7.below.trans (hB7.mono h7.below.size);have hgr : ∀ g, (Value.slice ao ((l.take k).filter (Rg.spF s long)).length co).ownBlock = some g -> g < b3 := fun g hg => by
   have e1 := hO6.lt g hg;omega
  have hO7 := (hO6.atNe h7 (fun g hg hm => by have := hrow g hg; have := hgr g hg; simp at hm <;> omega)).below hB7;have hT : Rg.spF s long x = Rg.inSp s (Rg.gap x long) := rfl;refine Branch.mk (fun c1 => ?_) (fun c1 => ?_)
  ·rw [hT, if_pos c1] at hes
   have hSZ := hS.go hV7 hV7.size;refine hSZ.idx hx fun ad9 had9 => ?_;refine hSZ.ld1 hx had9 (Below.refl _ _) (by simp) ?_;refine NewI.mk fun b4 hb4 => ?_;have hnr : ∀ g, (Value.slice ao ((l.take k).filter (Rg.spF s long)).length co).ownBlock = some g -> w.heap.size <= g /\ g ∉ [b1, b2, b3, b4] := fun g hg => by
    have e0 := hrow g hg;have e1 := hO7.lt g hg;have e2 := hb4;have e3 := hgr g hg;refine ⟨e0.1, fun hm => ?_⟩;simp only [List.mem_cons, List.not_mem_nil, or_false] at hm;omega
   refine GenN.appAt (α := Int) elIn ((l.take k).filter (Rg.spF s long)) [x] w.heap.size (fun w5 h5 => hO7.atNe h5 (fun g hg hm => (hnr g hg).2 (by simp at hm ⊢ <;> omega))) (fun w5 h5 => src_own h5 3 rfl rfl rfl rfl) (by unfold maxLen; simp; omega) (by simp; omega) (fun w5 h5 => h5.below.size) (fun w5 w6 h5 hg => keep_grown h5 hg hnr) fun v1 w8 w9 h8 hg hO1 hat => ?_;rw [<- hes] at hO1;have hs8 := h8.size;refine Need.ok (EndI.mk fun w10 h10 => ⟨(k + 1, w10, v1), Cov.au rfl rfl rfl rfl rfl, rfl, ⟨hlt, h10.below, hO1.atNe h10 (fun g hgg hm => by simp at hm), fun g hgg => ?_⟩, by simp only; omega⟩);rcases hat with e | e
   ·rw [e] at hgg; exact (hrow g hgg).2.2
   ·rw [e] at hgg
    injection hgg with hgg;have := h5.lt b1 (by simp);have := hB5.size;have := h6.size;have := hB6.size;have := h7.size;have := hB7.size;simp only at *;omega
  ·rw [hT, if_neg (by rw [c1]; decide)] at hes
   rw [<- hes] at hO7 hg1 ⊢;exact Need.ok (EndI.mk fun w10 h10 => ⟨(k + 1, w10, .slice ao ((l.take (k + 1)).filter (Rg.spF s long)).length co), Cov.au rfl rfl rfl rfl rfl, rfl, ⟨hlt, h10.below, hO7.atNe h10 (fun g hgg hm => by simp at hm), fun g hgg => hg1 g hgg⟩, by simp only; omega⟩)
 ·have hge : k = l.length := by have := of_decide_eq_false z3; simp only at this; omega
  subst hge;exact EndI.mk fun w10 h10 => by
   have := hO.atNe h10 (fun g hgg hm => by simp at hm)
   simpa only [List.take_length] using this
namespace Rg
end Rg
namespace Rg
end Rg
namespace Rg
open Dbm Fr
theorem v_nought : Fr.v ⟨0, 1⟩ = 0 := by decide +kernel
theorem be_may {s : Sp} (h : Wn.spMay s = true) : Bd.may (be s) = true := (may_half (.inr (Wn.be_lim h))).1
theorem ab_may {s : Sp} (h : Wn.spMay s = true) : Bd.may (ab s) = true := (may_half (Wn.ab_lim h)).1
theorem keeps_o {a b : Rt} (ha : a.ok = true) (hb : b.ok = true) {x : Int} (hx : Bd.may x = true) : (Fr.keeps a b x).1 = true ↔ satO (Fr.v a - Fr.v b) (ob x) := (keeps_sat ha hb hx).trans (sat_iff _ _)
theorem sp_none {s : Sp} (h : Wn.spMay s = true) (hn : ¬ Wn.spOk s) {a : Rt} (ha : a.ok = true) : inSp s a = false := by
 cases hi : inSp s a with
 | false => rfl
 | true =>
   exfalso;apply hn;unfold inSp at hi;simp only [Bool.and_eq_true] at hi;have k1 := (keeps_o (by decide) ha (be_may h)).1 hi.1;have k2 := (keeps_o ha (by decide) (ab_may h)).1 hi.2;rw [v_nought] at k1 k2;have k3 := satO_add k1 k2;rw [show (0 : Rat) - Fr.v a + (Fr.v a - 0) = 0 by grind] at k3;unfold Wn.spOk;generalize oadd (ob (be s)) (ob (ab s)) = o at k3 ⊢;cases o with
   | none => trivial
   | some v => exact satO_zero.1 k3
end Rg
namespace Rg
def orI : List Int -> List Int -> List Int
 | [], b => b
 | a, [] => a
 | x :: a, y :: b => if x < y then x :: orI a (y :: b) else if x = y then y :: orI a b else y :: orI (x :: a) b
termination_by a b => a.length + b.length
theorem orI_nil (b : List Int) : orI [] b = b := by unfold orI; rfl
theorem orI_end : ∀ (a : List Int), orI a [] = a
 | [] => by unfold orI; rfl
 | x :: a => by unfold orI; rfl
theorem orI_cons (x y : Int) (a b : List Int) : orI (x :: a) (y :: b) = if x < y then x :: orI a (y :: b) else if x = y then y :: orI a b else y :: orI (x :: a) b := by
 conv => lhs; unfold orI
theorem mem_orI : ∀ (n : Nat) (a b : List Int), a.length + b.length <= n -> ∀ z, z ∈ orI a b ↔ z ∈ a \/ z ∈ b
 | n, [], b, h, z => by rw [orI_nil]; simp
 | n, x :: a, [], h, z => by rw [orI_end]; simp
 | 0, x :: a, y :: b, h, z => by simp at h
 | n + 1, x :: a, y :: b, h, z => by
   rw [orI_cons];simp only [List.length_cons] at h;split
   ·have := mem_orI n a (y :: b) (by simp; omega) z
    simp only [List.mem_cons] at this ⊢; rw [this]; constructor
    ·rintro (h | h | h) <;> simp [h]
    ·rintro ((h | h) | h) <;> simp [h]
   split
   ·rename_i _ he
    subst he;have := mem_orI n a b (by omega) z;simp only [List.mem_cons] at this ⊢; rw [this]; constructor
    ·rintro (h | h | h) <;> simp [h]
    ·rintro ((h | h) | (h | h)) <;> simp [h]
   ·have := mem_orI n (x :: a) b (by simp; omega) z
    simp only [List.mem_cons] at this ⊢; rw [this]; constructor
    ·rintro (h | (h | h) | h) <;> simp [h]
    ·rintro ((h | h) | (h | h)) <;> simp [h]
theorem orI_rising : ∀ (n : Nat) (a b : List Int), a.length + b.length <= n -> a.Pairwise (fun x y => x < y) -> b.Pairwise (fun x y => x < y) -> (orI a b).Pairwise fun x y => x < y
 | n, [], b, h, ha, hb => by rw [orI_nil]; exact hb
 | n, x :: a, [], h, ha, hb => by rw [orI_end]; exact ha
 | 0, x :: a, y :: b, h, ha, hb => by simp at h
 | n + 1, x :: a, y :: b, h, ha, hb => by
   rw [orI_cons];simp only [List.length_cons] at h;have ha' := List.pairwise_cons.1 ha;have hb' := List.pairwise_cons.1 hb;split
   ·rename_i hxy
    refine List.pairwise_cons.2 ⟨fun z hz => ?_, orI_rising n a (y :: b) (by simp; omega) ha'.2 hb⟩;rcases (mem_orI n a (y :: b) (by simp; omega) z).1 hz with h | h
    ·exact ha'.1 z h
    ·rcases List.mem_cons.1 h with rfl | h
     ·exact hxy
     ·have := hb'.1 z h; omega
   split
   ·rename_i _ he
    subst he;refine List.pairwise_cons.2 ⟨fun z hz => ?_, orI_rising n a b (by omega) ha'.2 hb'.2⟩;rcases (mem_orI n a b (by omega) z).1 hz with h | h
    ·exact ha'.1 z h
    ·exact hb'.1 z h
   ·rename_i h1 h2
    refine List.pairwise_cons.2 ⟨fun z hz => ?_, orI_rising n (x :: a) b (by simp; omega) ha hb'.2⟩;rcases (mem_orI n (x :: a) b (by simp; omega) z).1 hz with h | h
    ·rcases List.mem_cons.1 h with rfl | h
     ·omega
     ·have := ha'.1 z h; omega
    ·exact hb'.1 z h
def andI : List Int -> List Int -> List Int
 | [], _ => []
 | x :: a, b => if (b.dropWhile fun y => decide (y < x)).head? = some x then x :: andI a (b.dropWhile fun y => decide (y < x)) else andI a (b.dropWhile fun y => decide (y < x))
theorem andI_cons (x : Int) (a b : List Int) : andI (x :: a) b = if (b.dropWhile fun y => decide (y < x)).head? = some x then x :: andI a (b.dropWhile fun y => decide (y < x)) else andI a (b.dropWhile fun y => decide (y < x)) := rfl
theorem drop_while_mem {x z : Int} : ∀ {b : List Int}, b.Pairwise (fun x y => x < y) -> x <= z -> (z ∈ b.dropWhile (fun y => decide (y < x)) ↔ z ∈ b)
 | [], _, _ => by simp
 | y :: b, hb, hz => by
   have hb' := List.pairwise_cons.1 hb;rw [List.dropWhile_cons];split
   ·rename_i h
    rw [drop_while_mem hb'.2 hz];have := of_decide_eq_true h;simp only [List.mem_cons];constructor
    ·exact fun h => .inr h
    ·rintro (h | h)
     ·omega
     ·exact h
   ·rfl
theorem drop_while_rising (x : Int) {b : List Int} (hb : b.Pairwise fun x y => x < y) : (b.dropWhile fun y => decide (y < x)).Pairwise fun x y => x < y := hb.sublist (List.dropWhile_sublist _)
theorem drop_while_head {x : Int} : ∀ {b : List Int}, b.Pairwise (fun x y => x < y) -> ((b.dropWhile fun y => decide (y < x)).head? = some x ↔ x ∈ b)
 | [], _ => by simp
 | y :: b, hb => by
   have hb' := List.pairwise_cons.1 hb;rw [List.dropWhile_cons];split
   ·rename_i h
    have := of_decide_eq_true h;rw [drop_while_head hb'.2];simp only [List.mem_cons];constructor
    ·exact fun h => .inr h
    ·rintro (h | h)
     ·omega
     ·exact h
   ·rename_i h
    have h : ¬ y < x := by simpa using h
    simp only [List.head?_cons, Option.some.injEq, List.mem_cons];constructor
    ·intro e; exact .inl e.symm
    ·rintro (e | e)
     ·exact e.symm
     ·have := hb'.1 x e; omega
theorem mem_andI : ∀ (a b : List Int), a.Pairwise (fun x y => x < y) -> b.Pairwise (fun x y => x < y) -> ∀ z, z ∈ andI a b ↔ z ∈ a /\ z ∈ b
 | [], b, _, _, z => by simp [andI]
 | x :: a, b, ha, hb, z => by
   have ha' := List.pairwise_cons.1 ha;rw [andI_cons];have ih := mem_andI a (b.dropWhile fun y => decide (y < x)) ha'.2 (drop_while_rising x hb) z;have hh := drop_while_head (x := x) hb;split
   ·rename_i h
    have hx := hh.1 h;simp only [List.mem_cons];rw [ih];constructor
    ·rintro (rfl | ⟨h1, h2⟩)
     ·exact ⟨.inl rfl, hx⟩
     ·exact ⟨.inr h1, (List.dropWhile_sublist _).mem h2⟩
    ·rintro ⟨rfl | h1, h2⟩
     ·exact .inl rfl
     ·exact .inr ⟨h1, (drop_while_mem hb (by have := ha'.1 z h1; omega)).2 h2⟩
   ·rename_i h
    have hx : x ∉ b := fun k => h (hh.2 k);rw [ih];simp only [List.mem_cons];constructor
    ·rintro ⟨h1, h2⟩
     exact ⟨.inr h1, (List.dropWhile_sublist _).mem h2⟩
    ·rintro ⟨rfl | h1, h2⟩
     ·exact absurd h2 hx
     ·exact ⟨h1, (drop_while_mem hb (by have := ha'.1 z h1; omega)).2 h2⟩
theorem andI_sub : ∀ (a b : List Int), (andI a b).Sublist a
 | [], b => by simp [andI]
 | x :: a, b => by
   rw [andI_cons];split
   ·exact (andI_sub a _).cons_cons x
   ·exact (andI_sub a _).cons x
end Rg
set_option maxHeartbeats 2000000 in
theorem ror14_any (a b : List Int) (ha : a.length <= 400000) (hb : b.length <= 400000) (pa pb : Option Addr) (ca cb : Nat) (w : World) (hS : Sl w.heap.size w (.slice pa a.length ca) a) (hT : Sl w.heap.size w (.slice pb b.length cb) b) :
 Calls Tryz.prog 21 #[.slice pa a.length ca, .slice pb b.length cb] w (Ret w fun v w' => Own TKi w.heap.size w' v (Rg.orI a b)) := by
 refine fun_ret 0 w Tryz.func21 (args := [.val (.slice pa a.length ca), .val (.slice pb b.length cb)]) rfl rfl ?_;have st := Stay.first (w := w)
 refine LoopI.invC (α := Nat × Nat × World × Value × List Int) (fun y => [(6, .val (.int .i64 y.1)), (7, .val (.int .i64 y.2.1)), (5, .val y.2.2.2.1)]) (fun y => y.2.2.1) (fun y => y.1 <= a.length /\ y.2.1 <= b.length /\ Below w.heap.size w y.2.2.1 /\ y.2.2.2.2.length <= y.1 + y.2.1 /\ y.2.2.2.2 ++ Rg.orI (a.drop y.1) (b.drop y.2.1) = Rg.orI a b /\ ∃ base, Lp ⟨w, w.heap.size, Nat.le_refl _⟩ [w] [] TKi base y.2.2.1 y.2.2.2.1 y.2.2.2.2) (fun y => a.length + b.length - y.1 - y.2.1) ?_ ?_
 ·intro w1 h1
  exact ⟨(0, 0, w1, .slice none 0 0, []), Cov.au rfl rfl rfl rfl rfl, rfl, Nat.zero_le _, Nat.zero_le _, h1.below, by simp, rfl, _, Lp.start st h1 (by simp)⟩
 rintro ⟨i, k, V, ov, out⟩ ⟨hi, hk, hV, hle, hall, base, lp⟩;simp only at hi hk hV hle hall lp;obtain ⟨ao, co, rfl⟩ := lp.own.form;have lpA : ∀ {L : List Nat} {hp : List LB} {w1 : World}, At ⟨w, w.heap.size, Nat.le_refl _⟩ hp [] [] V w1 -> Lp ⟨w, w.heap.size, Nat.le_refl _⟩ [w] [] TKi base w1 (.slice ao out.length co) out := fun h => lp.at h (by simp);have dA : ∀ {j : Nat} {x : Int}, a[j]? = some x -> a.drop j = x :: a.drop (j + 1) := fun {j x} h => by
  have hj := (List.getElem?_eq_some_iff.1 h).1;rw [List.drop_eq_getElem_cons hj]; congr 1; exact (List.getElem?_eq_some_iff.1 h).2
 have dB : ∀ {j : Nat} {x : Int}, b[j]? = some x -> b.drop j = x :: b.drop (j + 1) := fun {j x} h => by
  have hj := (List.getElem?_eq_some_iff.1 h).1;rw [List.drop_eq_getElem_cons hj]; congr 1; exact (List.getElem?_eq_some_iff.1 h).2
 have lpB : ∀ {w1 : World}, Below V.heap.size V w1 -> Lp ⟨w, w.heap.size, Nat.le_refl _⟩ [w] [] TKi base w1 (.slice ao out.length co) out := fun h => lp.go h
 by_cases hA : i < a.length
 case pos =>
  have hx := List.getElem?_eq_getElem (l := a) (i := i) hA;generalize a[i] = x at hx;refine Branch.yes (by simp only [decide_eq_true_eq]; omega) ?_
  by_cases hB : k < b.length
  case neg =>
   have hkb : k = b.length := by omega
   have hdone : out ++ [x] ++ Rg.orI (a.drop (i + 1)) (b.drop k) = Rg.orI a b := by
    rw [<- hall, dA hx, hkb, List.drop_length, Rg.orI_end, Rg.orI_end, List.append_assoc]; rfl
   refine DrawI.go (.tk 0 (.tk 1 (.tk 2 (.tk 3 (.tk 4 (.tk 5 (.tk 6 (.tk 7 (.tk 8 (.tk 9 (.tk 10 (.tk 11 (.tk 12 (.tk 13 (.tk 14 (.tk 15 (.tk 16 (.tk 17 (.tk 18 (.tk 19 (.tk 20 .done))))))))))))))))))))) (by kernel_rfl) fun w3 h3 => ?_;have gw3 : Below V.heap.size V w3 := h3.go;have Sw3 := hS.go (hV.trans (gw3.mono hV.size)) (hV.trans (gw3.mono hV.size)).size;have Tw3 := hT.go (hV.trans (gw3.mono hV.size)) (hV.trans (gw3.mono hV.size)).size;refine Branch.yes (by simp only [decide_eq_true_eq]; omega) ?_;refine Sw3.idx hx fun ad9 had9 => ?_;refine Sw3.ld1 hx had9 (Below.refl _ _) (by simp) ?_;have lp3 : Lp ⟨w, w.heap.size, Nat.le_refl _⟩ [w] [] TKi base w3 (.slice ao out.length co) out := lpB gw3;have gV := gw3.size;refine NewI.mk fun b1 hb1 => ?_;have hb1' : w3.heap.size <= b1 := hb1;refine GenN.appL (α := Int) elIn lp3 (fun y hy => .inr (by simp at hy; omega)) (by simp) [x] (fun w8 h8 => src_own h8 0 rfl rfl rfl rfl) (by simp; omega) (by decide) fun a' c' w8 w9 h8 lp9 hsz hbl => ?_;refine Need.ok (EndI.mk fun w10 h10 => ⟨(i + 1, k, w10, .slice a' (out ++ [x]).length c', out ++ [x]), Cov.au rfl rfl rfl rfl rfl, rfl, ⟨by simp only; omega, by simp only; omega, h10.below, by simp only [List.length_append, List.length_cons, List.length_nil]; omega, hdone, base, lp9.at h10 (by simp)⟩, by simp only; omega⟩)
  case pos =>
   have hy := List.getElem?_eq_getElem (l := b) (i := k) hB;generalize b[k] = y at hy;rw [dA hx, dB hy, Rg.orI_cons, <- dB hy, <- dA hx] at hall;refine DrawI.go (.tk 0 (.tk 1 (.tk 2 (.tk 3 (.tk 4 (.tk 5 (.tk 6 (.tk 7 (.tk 8 (.tk 9 (.tk 10 (.tk 11 (.tk 12 (.tk 13 (.tk 14 (.tk 15 (.tk 16 (.tk 17 (.tk 18 (.tk 19 (.tk 20 .done))))))))))))))))))))) (by kernel_rfl) fun w3 h3 => ?_;have gw3 : Below V.heap.size V w3 := h3.go;have Sw3 := hS.go (hV.trans (gw3.mono hV.size)) (hV.trans (gw3.mono hV.size)).size;have Tw3 := hT.go (hV.trans (gw3.mono hV.size)) (hV.trans (gw3.mono hV.size)).size;refine Branch.no (by simp only [decide_eq_false_iff_not]; omega) ?_;refine Branch.yes (by simp only [decide_eq_true_eq]; omega) ?_;refine Sw3.idx hx fun ad1 had1 => ?_;refine Sw3.ld1 hx had1 (Below.refl _ _) (by simp) ?_;refine Tw3.idx hy fun ad2 had2 => ?_;refine Tw3.ld1 hy had2 (Below.refl _ _) (by simp) ?_;refine Branch.mk (fun z1 => ?_) (fun z1 => ?_)
   ·have hxy : x < y := by simpa using z1
    rw [if_pos hxy] at hall;have hdone : out ++ [x] ++ Rg.orI (a.drop (i + 1)) (b.drop k) = Rg.orI a b := by
     rw [<- hall, List.append_assoc]; rfl
    refine Sw3.idx hx fun ad9 had9 => ?_;refine Sw3.ld1 hx had9 (Below.refl _ _) (by simp) ?_;have lp3 : Lp ⟨w, w.heap.size, Nat.le_refl _⟩ [w] [] TKi base w3 (.slice ao out.length co) out := lpB gw3;have gV := gw3.size;refine NewI.mk fun b1 hb1 => ?_;have hb1' : w3.heap.size <= b1 := hb1;refine GenN.appL (α := Int) elIn lp3 (fun y hy => .inr (by simp at hy; omega)) (by simp) [x] (fun w8 h8 => src_own h8 0 rfl rfl rfl rfl) (by simp; omega) (by decide) fun a' c' w8 w9 h8 lp9 hsz hbl => ?_;refine Need.ok (EndI.mk fun w10 h10 => ⟨(i + 1, k, w10, .slice a' (out ++ [x]).length c', out ++ [x]), Cov.au rfl rfl rfl rfl rfl, rfl, ⟨by simp only; omega, by simp only; omega, h10.below, by simp only [List.length_append, List.length_cons, List.length_nil]; omega, hdone, base, lp9.at h10 (by simp)⟩, by simp only; omega⟩)
   have hxy : ¬ x < y := by simpa using z1
   rw [if_neg hxy] at hall;refine DrawI.go (.tk 0 (.tk 1 (.tk 2 (.tk 3 (.tk 4 (.tk 5 (.tk 6 (.tk 7 (.tk 8 (.tk 9 (.tk 10 (.tk 11 (.tk 12 (.tk 13 (.tk 14 .done))))))))))))))) (by kernel_rfl) fun w4 h4 => ?_;have gw4 : Below V.heap.size V w4 := gw3.trans (h4.go.mono gw3.size);have Sw4 := hS.go (hV.trans (gw4.mono hV.size)) (hV.trans (gw4.mono hV.size)).size;have Tw4 := hT.go (hV.trans (gw4.mono hV.size)) (hV.trans (gw4.mono hV.size)).size;refine Branch.yes (by simp only [decide_eq_true_eq]; omega) ?_;refine Sw4.idx hx fun ad3 had3 => ?_;refine Sw4.ld1 hx had3 (Below.refl _ _) (by simp) ?_;refine Tw4.idx hy fun ad4 had4 => ?_;refine Tw4.ld1 hy had4 (Below.refl _ _) (by simp) ?_;refine Branch.mk (fun z2 => ?_) (fun z2 => ?_)
   ·have he : x = y := by simpa using z2
    rw [if_pos he] at hall;have hdone : out ++ [y] ++ Rg.orI (a.drop (i + 1)) (b.drop (k + 1)) = Rg.orI a b := by
     rw [<- hall, List.append_assoc]; rfl
    refine Need.ok ?_;refine Tw4.idx hy fun ad9 had9 => ?_;refine Tw4.ld1 hy had9 (Below.refl _ _) (by simp) ?_;have lp3 : Lp ⟨w, w.heap.size, Nat.le_refl _⟩ [w] [] TKi base w4 (.slice ao out.length co) out := lpB gw4;have gV := gw4.size;refine NewI.mk fun b1 hb1 => ?_;have hb1' : w4.heap.size <= b1 := hb1;refine GenN.appL (α := Int) elIn lp3 (fun y hy => .inr (by simp at hy; omega)) (by simp) [y] (fun w8 h8 => src_own h8 0 rfl rfl rfl rfl) (by simp; omega) (by decide) fun a' c' w8 w9 h8 lp9 hsz hbl => ?_;refine Need.ok (EndI.mk fun w10 h10 => ⟨(i + 1, k + 1, w10, .slice a' (out ++ [y]).length c', out ++ [y]), Cov.au rfl rfl rfl rfl rfl, rfl, ⟨by simp only; omega, by simp only; omega, h10.below, by simp only [List.length_append, List.length_cons, List.length_nil]; omega, hdone, base, lp9.at h10 (by simp)⟩, by simp only; omega⟩)
   ·have he : ¬ x = y := by simpa using z2
    rw [if_neg he] at hall;have hdone : out ++ [y] ++ Rg.orI (a.drop i) (b.drop (k + 1)) = Rg.orI a b := by
     rw [<- hall, List.append_assoc]; rfl
    refine Tw4.idx hy fun ad9 had9 => ?_;refine Tw4.ld1 hy had9 (Below.refl _ _) (by simp) ?_;have lp3 : Lp ⟨w, w.heap.size, Nat.le_refl _⟩ [w] [] TKi base w4 (.slice ao out.length co) out := lpB gw4;have gV := gw4.size;refine NewI.mk fun b1 hb1 => ?_;have hb1' : w4.heap.size <= b1 := hb1;refine GenN.appL (α := Int) elIn lp3 (fun y hy => .inr (by simp at hy; omega)) (by simp) [y] (fun w8 h8 => src_own h8 0 rfl rfl rfl rfl) (by simp; omega) (by decide) fun a' c' w8 w9 h8 lp9 hsz hbl => ?_;refine Need.ok (EndI.mk fun w10 h10 => ⟨(i, k + 1, w10, .slice a' (out ++ [y]).length c', out ++ [y]), Cov.au rfl rfl rfl rfl rfl, rfl, ⟨by simp only; omega, by simp only; omega, h10.below, by simp only [List.length_append, List.length_cons, List.length_nil]; omega, hdone, base, lp9.at h10 (by simp)⟩, by simp only; omega⟩)
 case neg =>
  have hia : i = a.length := by omega
  refine Branch.no (by simp only [decide_eq_false_iff_not]; omega) ?_;refine Branch.mk (fun z0 => ?_) (fun z0 => ?_)
  ·have hB : k < b.length := by have := of_decide_eq_true z0; simp only at this; omega
   have hy := List.getElem?_eq_getElem (l := b) (i := k) hB;generalize b[k] = y at hy;have hdone : out ++ [y] ++ Rg.orI (a.drop i) (b.drop (k + 1)) = Rg.orI a b := by
    rw [<- hall, dB hy, hia, List.drop_length, Rg.orI_nil, Rg.orI_nil, List.append_assoc]; rfl
   refine DrawI.go (.tk 0 (.tk 1 (.tk 2 (.tk 3 (.tk 4 (.tk 5 (.tk 6 (.tk 7 (.tk 8 (.tk 9 (.tk 10 (.tk 11 (.tk 12 (.tk 13 (.tk 14 (.tk 15 (.tk 16 (.tk 17 (.tk 18 (.tk 19 (.tk 20 .done))))))))))))))))))))) (by kernel_rfl) fun w3 h3 => ?_;have gw3 : Below V.heap.size V w3 := h3.go;have Sw3 := hS.go (hV.trans (gw3.mono hV.size)) (hV.trans (gw3.mono hV.size)).size;have Tw3 := hT.go (hV.trans (gw3.mono hV.size)) (hV.trans (gw3.mono hV.size)).size;refine Branch.no (by simp only [decide_eq_false_iff_not]; omega) ?_;refine Branch.no (by simp only [decide_eq_false_iff_not]; omega) ?_;refine DrawI.go (.tk 0 (.tk 1 (.tk 2 (.tk 3 (.tk 4 (.tk 5 (.tk 6 (.tk 7 (.tk 8 (.tk 9 (.tk 10 (.tk 11 (.tk 12 (.tk 13 (.tk 14 .done))))))))))))))) (by kernel_rfl) fun w4 h4 => ?_;have gw4 : Below V.heap.size V w4 := gw3.trans (h4.go.mono gw3.size);have Sw4 := hS.go (hV.trans (gw4.mono hV.size)) (hV.trans (gw4.mono hV.size)).size;have Tw4 := hT.go (hV.trans (gw4.mono hV.size)) (hV.trans (gw4.mono hV.size)).size;refine Branch.no (by simp only [decide_eq_false_iff_not]; omega) ?_;refine Tw4.idx hy fun ad9 had9 => ?_;refine Tw4.ld1 hy had9 (Below.refl _ _) (by simp) ?_;have lp3 : Lp ⟨w, w.heap.size, Nat.le_refl _⟩ [w] [] TKi base w4 (.slice ao out.length co) out := lpB gw4;have gV := gw4.size;refine NewI.mk fun b1 hb1 => ?_;have hb1' : w4.heap.size <= b1 := hb1;refine GenN.appL (α := Int) elIn lp3 (fun y hy => .inr (by simp at hy; omega)) (by simp) [y] (fun w8 h8 => src_own h8 0 rfl rfl rfl rfl) (by simp; omega) (by decide) fun a' c' w8 w9 h8 lp9 hsz hbl => ?_;refine Need.ok (EndI.mk fun w10 h10 => ⟨(i, k + 1, w10, .slice a' (out ++ [y]).length c', out ++ [y]), Cov.au rfl rfl rfl rfl rfl, rfl, ⟨by simp only; omega, by simp only; omega, h10.below, by simp only [List.length_append, List.length_cons, List.length_nil]; omega, hdone, base, lp9.at h10 (by simp)⟩, by simp only; omega⟩)
  ·have hkb : k = b.length := by have := of_decide_eq_false z0; simp only at this; omega
   rw [hia, hkb, List.drop_length, List.drop_length, Rg.orI_nil, List.append_nil] at hall;refine EndI.mk fun w10 h10 => ?_;rw [<- hall];exact (lp.at h10 (by simp)).own.lower (lp.anc w (by simp))
namespace Rg
end Rg
set_option maxHeartbeats 2000000 in
theorem rand14_any (a b : List Int) (ha : a.length <= 400000) (hb : b.length <= 400000) (pa pb : Option Addr) (ca cb : Nat) (w : World) (hS : Sl w.heap.size w (.slice pa a.length ca) a) (hT : Sl w.heap.size w (.slice pb b.length cb) b) :
 Calls Tryz.prog 59 #[.slice pa a.length ca, .slice pb b.length cb] w (Ret w fun v w' => Own TKi w.heap.size w' v (Rg.andI a b)) := by
 refine fun_ret 0 w Tryz.func59 (args := [.val (.slice pa a.length ca), .val (.slice pb b.length cb)]) rfl rfl ?_;have st := Stay.first (w := w)
 refine LoopI.invC (α := Nat × Nat × World × Value × List Int) (fun y => [(7, .val (.int .i64 y.1)), (6, .val (.int .i64 y.2.1)), (5, .val y.2.2.2.1)]) (fun y => y.2.2.1) (fun y => y.1 <= a.length /\ y.2.1 <= b.length /\ Below w.heap.size w y.2.2.1 /\ y.2.2.2.2.length <= y.1 /\ y.2.2.2.2 ++ Rg.andI (a.drop y.1) (b.drop y.2.1) = Rg.andI a b /\ ∃ base, Lp ⟨w, w.heap.size, Nat.le_refl _⟩ [w] [] TKi base y.2.2.1 y.2.2.2.1 y.2.2.2.2) (fun y => a.length - y.1) ?_ ?_
 ·intro w1 h1
  exact ⟨(0, 0, w1, .slice none 0 0, []), Cov.au rfl rfl rfl rfl rfl, rfl, Nat.zero_le _, Nat.zero_le _, h1.below, by simp, rfl, _, Lp.start st h1 (by simp)⟩
 rintro ⟨i, k, V, ov, out⟩ ⟨hi, hk, hV, hle, hall, base, lp⟩;simp only at hi hk hV hle hall lp;obtain ⟨ao, co, rfl⟩ := lp.own.form;have lpB : ∀ {w1 : World}, Below V.heap.size V w1 -> Lp ⟨w, w.heap.size, Nat.le_refl _⟩ [w] [] TKi base w1 (.slice ao out.length co) out := fun h => lp.go h;refine Branch.mk (fun z0 => ?_) (fun z0 => ?_)
 case refine_2 =>
  have hia : i = a.length := by have := of_decide_eq_false z0; simp only at this; omega
  rw [hia, List.drop_length] at hall;have hall : out = Rg.andI a b := by rw [<- hall]; simp [Rg.andI]
  refine EndI.mk fun w10 h10 => ?_;rw [<- hall];exact (lp.at h10 (by simp)).own.lower (lp.anc w (by simp))
 have hA : i < a.length := by have := of_decide_eq_true z0; simp only at this; omega
 have hx := List.getElem?_eq_getElem (l := a) (i := i) hA;have dA : a.drop i = a[i] :: a.drop (i + 1) := List.drop_eq_getElem_cons hA;generalize a[i] = x at hx dA;rw [dA, Rg.andI_cons] at hall;refine LoopI.invC (α := Nat × World) (fun y => [(6, .val (.int .i64 y.1))]) (fun y => y.2) (fun y => y.1 <= b.length /\ Below V.heap.size V y.2 /\ (b.drop y.1).dropWhile (fun y => decide (y < x)) = (b.drop k).dropWhile (fun y => decide (y < x))) (fun y => b.length - y.1) ?_ ?_
 ·intro w1 h1
  exact ⟨(k, w1), Cov.au rfl rfl rfl rfl rfl, rfl, hk, h1.go, rfl⟩
 rintro ⟨q, U⟩ ⟨hq, hU, hD⟩;simp only at hq hU hD;refine DrawI.go (.tk 0 (.tk 1 (.tk 2 (.tk 3 (.tk 4 (.tk 5 (.tk 6 (.tk 7 (.tk 8 (.tk 9 (.tk 10 (.tk 11 (.tk 12 (.tk 13 (.tk 14 .done))))))))))))))) (by kernel_rfl) fun w3 h3 => ?_;have g3 : Below V.heap.size V w3 := hU.trans (h3.go.mono hU.size);have S3 := hS.go (hV.trans (g3.mono hV.size)) (hV.trans (g3.mono hV.size)).size;have T3 := hT.go (hV.trans (g3.mono hV.size)) (hV.trans (g3.mono hV.size)).size;refine Branch.mk (fun z1 => ?_) (fun z1 => ?_)
 case refine_2 =>
  have hqb : q = b.length := by have := of_decide_eq_false z1; simp only at this; omega
  rw [hqb, List.drop_length] at hD;rw [<- hD] at hall;have hall : out ++ Rg.andI (a.drop (i + 1)) (b.drop q) = Rg.andI a b := by rw [<- hall, hqb, List.drop_length]; simp
  refine DrawI.go (.tk 0 (.tk 1 (.tk 2 (.tk 3 (.tk 4 (.tk 5 (.tk 6 (.tk 7 (.tk 8 (.tk 9 (.tk 10 (.tk 11 (.tk 12 (.tk 13 (.tk 14 .done))))))))))))))) (by kernel_rfl) fun w4 h4 => ?_;have g4 : Below V.heap.size V w4 := g3.trans (h4.go.mono g3.size);refine Branch.no (by simp only [decide_eq_false_iff_not]; omega) ?_;refine Need.ok (EndI.mk fun w10 h10 => ⟨(i + 1, q, w10, .slice ao out.length co, out), Cov.au rfl rfl rfl rfl rfl, rfl, ⟨by simp only; omega, by simp only; omega, h10.below, by simp only; omega, hall, base, (lpB g4).at h10 (by simp)⟩, by simp only; omega⟩)
 have hB : q < b.length := by have := of_decide_eq_true z1; simp only at this; omega
 have hy := List.getElem?_eq_getElem (l := b) (i := q) hB;have dB : b.drop q = b[q] :: b.drop (q + 1) := List.drop_eq_getElem_cons hB;generalize b[q] = y at hy dB;refine T3.idx hy fun ad2 had2 => ?_;refine T3.ld1 hy had2 (Below.refl _ _) (by simp) ?_;refine S3.idx hx fun ad1 had1 => ?_;refine S3.ld1 hx had1 (Below.refl _ _) (by simp) ?_;refine Branch.mk (fun z2 => ?_) (fun z2 => ?_)
 ·have hyx : y < x := by simpa using z2
  rw [dB, List.dropWhile_cons, if_pos (by simpa using hyx)] at hD;refine Need.ok (EndI.mk fun w10 h10 => ⟨(q + 1, w10), Cov.au rfl rfl rfl rfl rfl, rfl, ⟨by simp only; omega, g3.trans (h10.go.mono g3.size), hD⟩, by simp only; omega⟩)
 have hyx : ¬ y < x := by simpa using z2
 rw [dB, List.dropWhile_cons, if_neg (by simpa using hyx)] at hD;rw [<- hD, List.head?_cons, <- dB] at hall;refine DrawI.go (.tk 0 (.tk 1 (.tk 2 (.tk 3 (.tk 4 (.tk 5 (.tk 6 (.tk 7 (.tk 8 (.tk 9 (.tk 10 (.tk 11 (.tk 12 (.tk 13 (.tk 14 .done))))))))))))))) (by kernel_rfl) fun w4 h4 => ?_;have g4 : Below V.heap.size V w4 := g3.trans (h4.go.mono g3.size);have S4 := hS.go (hV.trans (g4.mono hV.size)) (hV.trans (g4.mono hV.size)).size;have T4 := hT.go (hV.trans (g4.mono hV.size)) (hV.trans (g4.mono hV.size)).size;refine Branch.yes (by simp only [decide_eq_true_eq]; omega) ?_;refine T4.idx hy fun ad3 had3 => ?_;refine T4.ld1 hy had3 (Below.refl _ _) (by simp) ?_;refine S4.idx hx fun ad4 had4 => ?_;refine S4.ld1 hx had4 (Below.refl _ _) (by simp) ?_;refine Branch.mk (fun z3 => ?_) (fun z3 => ?_)
 ·have he : y = x := by simpa using z3
  rw [if_pos (by rw [he])] at hall;have hdone : out ++ [x] ++ Rg.andI (a.drop (i + 1)) (b.drop q) = Rg.andI a b := by rw [<- hall, List.append_assoc]; rfl
  refine S4.idx hx fun ad9 had9 => ?_;refine S4.ld1 hx had9 (Below.refl _ _) (by simp) ?_;have gV := g4.size;refine NewI.mk fun b1 hb1 => ?_;have hb1' : w4.heap.size <= b1 := hb1;refine GenN.appL (α := Int) elIn (lpB g4) (fun y hy => .inr (by simp at hy; omega)) (by simp) [x] (fun w8 h8 => src_own h8 0 rfl rfl rfl rfl) (by simp; omega) (by decide) fun a' c' w8 w9 h8 lp9 hsz hbl => ?_;refine Need.ok (EndI.mk fun w10 h10 => ⟨(i + 1, q, w10, .slice a' (out ++ [x]).length c', out ++ [x]), Cov.au rfl rfl rfl rfl rfl, rfl, ⟨by simp only; omega, by simp only; omega, h10.below, by simp only [List.length_append, List.length_cons, List.length_nil]; omega, hdone, base, lp9.at h10 (by simp)⟩, by simp only; omega⟩)
 ·have he : ¬ y = x := by simpa using z3
  rw [if_neg (fun h => he (by injection h))] at hall;refine Need.ok (EndI.mk fun w10 h10 => ⟨(i + 1, q, w10, .slice ao out.length co, out), Cov.au rfl rfl rfl rfl rfl, rfl, ⟨by simp only; omega, by simp only; omega, h10.below, by simp only; omega, hall, base, (lpB g4).at h10 (by simp)⟩, by simp only; omega⟩)
namespace Ky
open Dbm Mi Cv Zs
theorem or_rl {a b : List Zn} (h : (Zs.or a b).2 = 0) {long : Int} (hl : 1 <= long /\ long <= 16) : Rg.orI (rl a long) (rl b long) = rl (Zs.or a b).1 long := by
 obtain ⟨h0, h1, h2⟩ := or_ok h;obtain ⟨c1, c2⟩ := checked2 h0;refine rising_eq (Rg.orI_rising _ _ _ (Nat.le_refl _) (rl_rising _ _) (rl_rising _ _)) (rl_rising _ _) fun x => ?_;rw [Rg.mem_orI _ _ _ (Nat.le_refl _), mem_rl c1 hl, mem_rl c2 hl, mem_rl h1.2.1 hl, h2];constructor
 ·rintro (⟨p, q⟩ | ⟨p, q⟩)
  ·exact ⟨p, .inl q⟩
  ·exact ⟨p, .inr q⟩
 ·rintro ⟨p, q | q⟩
  ·exact .inl ⟨p, q⟩
  ·exact .inr ⟨p, q⟩
theorem and_rl {a b : List Zn} (h : (Zs.and a b).2 = 0) {long : Int} (hl : 1 <= long /\ long <= 16) : Rg.andI (rl a long) (rl b long) = rl (Zs.and a b).1 long := by
 obtain ⟨h0, h1, h2⟩ := and_ok h;obtain ⟨c1, c2⟩ := checked2 h0;refine rising_eq ((rl_rising a long).sublist (Rg.andI_sub _ _)) (rl_rising _ _) fun x => ?_;rw [Rg.mem_andI _ _ (rl_rising _ _) (rl_rising _ _), mem_rl c1 hl, mem_rl c2 hl, mem_rl h1.2.1 hl, h2];constructor
 ·rintro ⟨⟨p, q⟩, _, r⟩
  exact ⟨p, q, r⟩
 ·rintro ⟨p, q, r⟩
  exact ⟨⟨p, q⟩, p, r⟩
theorem filt_rl {a m : List Zn} {f : Int -> Bool} {long : Int} (hl : 1 <= long /\ long <= 16) (ha : ∀ z, z ∈ a -> Zo.chk z = 0) (hm : ∀ z, z ∈ m -> Zo.chk z = 0) (h : ∀ n, n ∈ regs long -> (Pts m (rep n long) ↔ Pts a (rep n long) /\ f n = true)) : (rl a long).filter f = rl m long := by
 refine rising_eq ((rl_rising a long).sublist List.filter_sublist) (rl_rising _ _) fun x => ?_;rw [List.mem_filter, mem_rl ha hl, mem_rl hm hl];constructor
 ·rintro ⟨⟨p, q⟩, r⟩
  exact ⟨p, (h x p).2 ⟨q, r⟩⟩
 ·rintro ⟨p, q⟩
  exact ⟨⟨p, ((h x p).1 q).1⟩, ((h x p).1 q).2⟩
theorem regs_in {long n : Int} (hl : 1 <= long /\ long <= 16) (h : n ∈ regs long) : 0 <= n /\ n < 3 * (2 * long + 1) * (2 * long + 1) := by
 have := isR_lt (mem_regs.1 h)
 rwa [Rg.many_doc hl] at this
theorem v_den' {a : Rt} (ha : a.ok = true) : (a.den : Rat) ≠ 0 := by
 have oa := Fr.ok_bd ha;intro h; have : a.den = 0 := by exact_mod_cast h
 omega
theorem sp_pts {long n : Int} {s : Sp} (hs : Wn.spMay s = true) (hl : 1 <= long /\ long <= 16) (hn : n ∈ regs long) : Rg.spF s long n = true ↔ Wn.InS s (rep n long) := by
 obtain ⟨ht, hu, hnum, h0, r1, r2, r3⟩ := reg_pt hl hn;have hin := regs_in hl hn;obtain ⟨l1, l2⟩ := Rg.pt_low hl hin;obtain ⟨gok, _⟩ := Rg.gap_fine hl hin;have e1 : rep n long 1 = Fr.v (Rg.pt n long).t := tvs_one _ _;have e2 : rep n long 2 = Fr.v (Rg.pt n long).u := tvs_two _ _;have hneg := Rg.ok_neg ht (by omega) l1.2.2.2;have hgv : Fr.v (Rg.gap n long) = rep n long 2 - rep n long 1 := by
  rw [e1, e2];unfold Rg.gap;generalize (Rg.pt n long).u = u at *;generalize (Rg.pt n long).t = t at *;have hm : ∀ (x : Rt), 0 <= x.num /\ x.num <= 2000 /\ 1 <= x.den /\ x.den <= 3 -> x.num <= 2000 * x.den /\ -(2000 * x.den) <= x.num := fun x h => by omega
  have sa : Fr.Sm 3 2000 u := ⟨hu, l2.2.2.2, (hm u l2).2, (hm u l2).1⟩;have sb : Fr.Sm 3 2000 ⟨0 - t.num, t.den⟩ := ⟨hneg, l1.2.2.2, by have := hm t l1; simp only; omega, by have := hm t l1; simp only; omega⟩;obtain ⟨_, _, h3⟩ := Fr.sum_sm (d := 9) (M := 4000) sa sb (.inl rfl) (by decide) (by decide) (by decide) (by decide) (by decide) (by decide) (by decide);unfold Fr.add;rw [if_pos ⟨hu, hneg⟩];have h4 : Fr.v (⟨0 - t.num, t.den⟩ : Rt) = - Fr.v t := by
   unfold Fr.v;have : ((0 - t.num : Int) : Rat) = - (t.num : Rat) := by push_cast; grind
   simp only;rw [this];have := v_den' ht
   grind
  rw [h4] at h3;have h5 : ((1 : Int) : Rat) = 1 := rfl;rw [h5] at h3
  grind
 have d4 : dif 4 (rep n long) = rep n long 2 - rep n long 1 := by rfl
 have d5 : dif 5 (rep n long) = rep n long 1 - rep n long 2 := by rfl
 unfold Rg.spF;rcases Wn.btw_may hs with ⟨hok, hb⟩ | ⟨hno, hb⟩
 ·unfold Wn.InS Rg.inSp
  rw [hb, d4, d5];simp only [Bool.and_eq_true];rw [Rg.keeps_o (by decide) gok (Rg.be_may hs), Rg.keeps_o gok (by decide) (Rg.ab_may hs), hgv, Rg.v_nought];have q1 : (0 : Rat) - (rep n long 2 - rep n long 1) = rep n long 1 - rep n long 2 := by grind
  have q2 : rep n long 2 - rep n long 1 - 0 = rep n long 2 - rep n long 1 := by grind
  rw [q1, q2];constructor
  ·rintro ⟨h1, h2⟩; exact ⟨trivial, h2, h1⟩
  ·rintro ⟨_, h2, h1⟩; exact ⟨h1, h2⟩
 ·rw [Rg.sp_none hs hno gok]
  unfold Wn.InS;rw [hb];constructor
  ·intro h; cases h
  ·rintro ⟨h, _⟩; cases h
theorem within_may {l : List Zn} {s : Sp} (h : (Zs.within l s).2 = 0) : Wn.spMay s = true := by
 obtain ⟨h0, h1, _⟩ := each_ok h;apply Classical.byContradiction;intro hs;have hb : Wn.spMay s = false := by simpa using hs
 have e8 : Wn.within Zs.free s = (Zo.nought, 8) := by
  unfold Wn.within;rw [if_pos Zs.free_chk, Wn.btw_bad hb, if_neg (by decide)]
 rw [e8] at h1;rcases h1 with h1 | h1 <;> cases h1
theorem within_rl {a : List Zn} {s : Sp} (h : (Zs.within a s).2 = 0) {long : Int} (hl : 1 <= long /\ long <= 16) : Rg.within (rl a long) s long = (rl (Zs.within a s).1 long, 0) := by
 have hs := within_may h;obtain ⟨h2, h3⟩ := within_pts h;have hc := checked1 (each_ok h).1;unfold Rg.within;rw [if_neg (by rw [Rg.fits_iff.2 hl]; decide), if_pos ⟨may_rl hc hl, hs⟩]
 congr 1
 exact filt_rl hl hc h2.2.1 fun n hn => by rw [h3, sp_pts hs hl hn]
end Ky
namespace Cl
open Cv Zs Ky Cmp
def cmpV (a b : List Int) (long : Int) : List Int := Rg.up long fun x => (Rg.point x long).2 && Rg.btwB (Rg.mks a (Rg.many long).1.toNat a.length) (Rg.mks b (Rg.many long).1.toNat b.length) (Rg.pt x long) long (6 * long + 1).toNat
theorem cmpV_rl {a b : List Zn} (ha : Ah a) (hb : Ah b) (h : (Zs.comp a b).2 = 0) {long : Int} (hl : 1 <= long /\ long <= 16) : cmpV (rl a long) (rl b long) long = rl (Zs.comp a b).1 long := by
 have h1 := comp_rl ha hb h hl;unfold Rg.comp at h1;rw [if_neg (by rw [Rg.fits_iff.2 hl]; decide), if_pos ⟨may_rl ha.chk hl, may_rl hb.chk hl⟩] at h1;unfold cmpV;rw [Rg.btw_doc hl (may_rl ha.chk hl) (may_rl hb.chk hl)];exact congrArg (·.1) h1
theorem Good.ah {long : Int} {l : List Zn} (h : Good long l) : Ah l := fun z hz => ⟨h.chk z hz, (h.ml.mt z hz).f⟩
def nextV (p : List Int) (long : Int) (x : List Int) : List Int := Rg.orI x (cmpV x p long)
def St (p : List Int) (long : Int) : List Int -> List (List Int) -> Prop
 | x, [] => ¬ x.length < (nextV p long x).length
 | x, y :: ms => y = nextV p long x /\ x.length < y.length /\ St p long y ms
theorem St.same {p : List Int} {long : Int} : ∀ {x : List Int} {l m : List (List Int)}, St p long x l -> St p long x m -> l = m
 | x, [], [], _, _ => rfl
 | x, [], y :: m, h, k => absurd (k.1 ▸ k.2.1) h
 | x, y :: l, [], h, k => absurd (h.1 ▸ h.2.1) k
 | x, y :: l, z :: m, h, k => by
   obtain rfl : y = z := h.1.trans k.1.symm;rw [St.same h.2.2 k.2.2]
def Rs (long : Int) (x : List Int) : Prop := x.Pairwise (fun a b => a < b) /\ ∀ n, n ∈ x -> n ∈ regs long
theorem Rs.len {long : Int} {x : List Int} (h : Rs long x) : x.length <= (regs long).length := nodup_sub _ _ (h.1.imp fun k => by omega) h.2
end Cl
namespace Tr
def fitN (n : Int) : Bool := decide (0 <= n) && decide (n < 288230376151711744)
def ival (s : Sp) : Int :=
 if fitN s.lo = false \/ fitN s.hi = false \/ (s.op = true /\ (s.hi ≠ 0 \/ s.hs = true)) then 8 else if s.op = false /\ (s.hi < s.lo \/ (s.lo = s.hi /\ (s.ls = true \/ s.hs = true))) then 162 else 0
end Tr
theorem interval1_any (n : Int) (w : World) : Calls Tryz.prog 70 #[.int .i64 n] w fun e w' => e = .returned (.bool (Tr.fitN n)) /\ Below w.heap.size w w' := by
 refine fun_eq 0 w Tryz.func70 (args := [.val (.int .i64 n)]) rfl rfl ?_;unfold Tr.fitN;refine Branch.mk (fun h1 => ?_) (fun h1 => ?_)
 ·have h1 : decide (0 <= n) = true := h1
  exact EndI.mk fun w9 h9 => by rw [h1]; rfl
 ·have h1 : decide (0 <= n) = false := h1
  exact EndI.mk fun w9 h9 => by rw [h1]; rfl
theorem interval_any (s : Sp) (w : World) : Calls Tryz.prog 33 #[.agg #[.int .i64 s.lo, .bool s.ls, .int .i64 s.hi, .bool s.hs, .bool s.op]] w fun e w' => e = .returned (.int .i64 (Tr.ival s)) /\ Below w.heap.size w w' := by
 refine fun_eq 0 w Tryz.func33 (args := [.agg [.val (.int .i64 s.lo), .val (.bool s.ls), .val (.int .i64 s.hi), .val (.bool s.hs), .val (.bool s.op)]]) rfl rfl ?_;obtain ⟨lo, ls, hi, hs, op⟩ := s;refine NewI.mk fun b1 hb1 => ?_;unfold Tr.ival;simp only;refine CallI.to1 (fun w => interval1_any lo w) fun w2 => ?_;refine Branch.mk (fun h1 => ?_) (fun h1 => ?_)
 ·rw [if_pos (.inl (by simpa using h1))]
  exact EndI.mk fun w9 h9 => rfl
 have h1 : Tr.fitN lo = true := by simpa using h1
 refine CallI.to1 (fun w => interval1_any hi w) fun w3 => ?_;refine Branch.mk (fun h2 => ?_) (fun h2 => ?_)
 ·rw [if_pos (.inr (.inl (by simpa using h2)))]
  exact EndI.mk fun w9 h9 => rfl
 have h2 : Tr.fitN hi = true := by simpa using h2
 refine Branch.mk (fun h3 => ?_) (fun h3 => ?_)
 ·have h3 : op = true := h3
  refine Branch.mk (fun h4 => ?_) (fun h4 => ?_)
  ·rw [if_pos (.inr (.inr ⟨h3, .inl (by simpa using h4)⟩))]
   exact EndI.mk fun w9 h9 => rfl
  have h4 : hi = 0 := by simpa using h4
  refine Branch.mk (fun h5 => ?_) (fun h5 => ?_)
  ·rw [if_pos (.inr (.inr ⟨h3, .inr h5⟩))]
   exact EndI.mk fun w9 h9 => rfl
  have h5 : hs = false := h5;rw [if_neg (by rw [h1, h2, h3, h5, h4]; simp), if_neg (by rw [h3]; simp)];refine Branch.no (by rw [h3]; rfl) ?_;exact EndI.mk fun w9 h9 => rfl
 have h3 : op = false := h3;rw [if_neg (by rw [h1, h2, h3]; simp)];refine Branch.yes (by rw [h3]; rfl) ?_;refine Branch.mk (fun h4 => ?_) (fun h4 => ?_)
 ·rw [if_pos ⟨h3, .inl (by simpa using h4)⟩]
  exact EndI.mk fun w9 h9 => rfl
 have h4 : ¬ hi < lo := by simpa using h4
 refine Branch.mk (fun h5 => ?_) (fun h5 => ?_)
 ·have h5 : lo = hi := by simpa using h5
  refine Branch.mk (fun h6 => ?_) (fun h6 => ?_)
  ·rw [if_pos ⟨h3, .inr ⟨h5, .inl h6⟩⟩]
   exact EndI.mk fun w9 h9 => rfl
  have h6 : ls = false := h6;refine Branch.mk (fun h7 => ?_) (fun h7 => ?_)
  ·rw [if_pos ⟨h3, .inr ⟨h5, .inr h7⟩⟩]
   exact EndI.mk fun w9 h9 => rfl
  have h7 : hs = false := h7;rw [if_neg (by rw [h6, h7]; simp; intro _; omega)];exact EndI.mk fun w9 h9 => rfl
 ·have h5 : ¬ lo = hi := by simpa using h5
  rw [if_neg (by rintro ⟨_, h | ⟨h, _⟩⟩; exact h4 h; exact h5 h)];exact EndI.mk fun w9 h9 => rfl
namespace Tb
def cnt (long : Int) (k : Nat) : Nat := ((List.range k).filter fun n : Nat => (Rg.point (n : Int) long).2).length
theorem cnt_step (long : Int) (k : Nat) : cnt long (k + 1) = cnt long k + (if (Rg.point (k : Int) long).2 = true then 1 else 0) := by
 unfold cnt;rw [List.range_succ, List.filter_append, List.length_append];cases h : (Rg.point (k : Int) long).2 <;> simp [h]
theorem cnt_le (long : Int) (k : Nat) : cnt long k <= k := by
 unfold cnt;have := List.length_filter_le (fun n : Nat => (Rg.point (n : Int) long).2) (List.range k)
 rwa [List.length_range] at this
theorem cnt_regs {long : Int} {M : Nat} (h : (Rg.many long).1 = M) : (Ky.regs long).length = cnt long M := by
 unfold Ky.regs Rg.up cnt;rw [List.length_map, h, Int.toNat_natCast]
 congr 1
 refine List.filter_congr fun n hn => ?_;have := List.mem_range.1 hn;unfold Rg.isR;rw [h, decide_eq_true (by omega), decide_eq_true (by omega)]; rfl
def crowded (zones long : Int) : Bool := decide (zones < ((Ky.regs long).length : Int)) || decide (4096 < 40 * ((Ky.regs long).length : Int))
theorem may_iff (l : List Zn) : may l = true ↔ Zs.check l = 0 /\ Cl.odd l = false := by
 unfold may Zs.check;simp only [Bool.and_eq_true, decide_eq_true_eq, Bool.not_eq_true'];constructor
 ·rintro ⟨h1, h2, h3⟩
  exact ⟨by rw [if_pos ⟨h2, h3.symm⟩], h1⟩
 ·rintro ⟨h1, h2⟩
  split at h1
  ·rename_i h; exact ⟨h2, h.1, h.2.symm⟩
  ·cases h1
end Tb
set_option maxHeartbeats 1000000 in
theorem rregions24_any (long : Int) (hl : 1 <= long /\ long <= 16) (w : World) : Calls Tryz.prog 47 #[.int .i64 long] w fun e w' => e = .returned (.int .i64 ((Ky.regs long).length : Int)) /\ Below w.heap.size w w' := by
 refine fun_eq 0 w Tryz.func47 (args := [.val (.int .i64 long)]) rfl rfl ?_;have hmm := Fr.mul_bd (u := 3 * (2 * long + 1)) (v := 2 * long + 1) (m := 99) (n := 33) (by omega) (by omega) (by omega) (by omega);have hmany := Rg.many_doc hl;obtain ⟨M, hM⟩ : ∃ M : Nat, 3 * (2 * long + 1) * (2 * long + 1) = M := ⟨(3 * (2 * long + 1) * (2 * long + 1)).toNat, by omega⟩;have hM1 : (Rg.many long).1 = M := by rw [hmany]; exact hM
 rw [Tb.cnt_regs hM1];refine LoopI.invC (α := Nat × World) (fun y => [(3, .val (.int .i64 (Tb.cnt long y.1 : Int))), (4, .val (.int .i64 y.1))]) (fun y => y.2) (fun y => y.1 <= M) (fun y => M - y.1) ?_ ?_
 ·intro w1 h1
  exact ⟨(0, w1), Cov.au rfl rfl rfl rfl rfl, rfl, Nat.zero_le _⟩
 rintro ⟨k, V⟩ hk;simp only at hk;have hc := fun w => rcount14_any long hl w;rw [hM] at hc;refine CallI.to1 hc fun w2 => ?_;have hle := Tb.cnt_le long k;refine Branch.mk (fun hc2 => ?_) (fun hc2 => ?_)
 ·have hlt : k < M := by have := of_decide_eq_true hc2; simp only at this; omega
  have hst := Tb.cnt_step long k;refine CallI.to1 (fun w => rof14_any (k : Int) long hl (by omega) w) fun w3 => ?_;refine NewI.mk fun b1 hb1 => ?_;refine Branch.mk (fun hc3 => ?_) (fun hc3 => ?_)
  ·rw [if_pos hc3] at hst
   have e : ((Tb.cnt long k : Nat) : Int) + 1 = ((Tb.cnt long (k + 1) : Nat) : Int) := by rw [hst]; push_cast; rfl
   refine Need.ok ?_;refine Need.ok (EndI.mk fun w9 h9 => ⟨(k + 1, w9), ?_, rfl, hlt, by simp only; omega⟩);simp only;rw [<- e];exact Cov.au rfl rfl rfl rfl rfl
  ·rw [if_neg (by rw [hc3]; decide)] at hst
   refine Need.ok (EndI.mk fun w9 h9 => ⟨(k + 1, w9), ?_, rfl, hlt, by simp only; omega⟩);simp only;rw [hst];exact Cov.au rfl rfl rfl rfl rfl
 ·have hge : k = M := by have := of_decide_eq_false hc2; simp only at this; omega
  subst hge;exact EndI.mk fun w9 h9 => rfl
theorem rcrowded24_any (zones long : Int) (hl : 1 <= long /\ long <= 16) (w : World) : Calls Tryz.prog 19 #[.int .i64 zones, .int .i64 long] w fun e w' => e = .returned (.bool (Tb.crowded zones long)) /\ Below w.heap.size w w' := by
 refine fun_eq 0 w Tryz.func19 (args := [.val (.int .i64 zones), .val (.int .i64 long)]) rfl rfl ?_;have hr := Ky.regs_len hl;unfold Tb.crowded;refine CallI.to1 (fun w => rregions24_any long hl w) fun w2 => ?_;refine Branch.mk (fun h1 => ?_) (fun h1 => ?_)
 ·exact EndI.mk fun w9 h9 => by rw [h1]; rfl
 refine Need.ok ?_;exact EndI.mk fun w9 h9 => by rw [h1]; rfl
namespace Wn
open Mi Dbm
theorem clo3 {p q : Int} (hp : lim 864691128455135232 p) (hq : lim 864691128455135232 q) (h : ole (some 1) (oadd (ob q) (ob p))) : Clo 3 [1, NO, NO, NO, 1, q, NO, p, 1] := by
 have h' : ole (some 1) (oadd (ob p) (ob q)) := by rw [oadd_comm]; exact h
 have one : ob 1 = some 1 := by decide
 have no : ob NO = none := by decide
 refine ⟨rfl, fun i hi => ?_, fun i j a hi hj ha => ?_, fun i j hi hj => ?_⟩
 ·rcases (by omega : i = 0 \/ i = 1 \/ i = 2) with rfl | rfl | rfl <;> rfl
 ·rcases (by omega : i = 0 \/ i = 1 \/ i = 2) with rfl | rfl | rfl <;> rcases (by omega : j = 0 \/ j = 1 \/ j = 2) with rfl | rfl | rfl <;> rcases (by omega : a = 0 \/ a = 1 \/ a = 2) with rfl | rfl | rfl <;>
   simp only [mx, List.getElem?_cons_zero, List.getElem?_cons_succ, Option.getD_some, Nat.zero_mul, Nat.one_mul, Nat.add_zero, Nat.zero_add, Nat.reduceMul, Nat.reduceAdd, one, no, oadd_one, oadd_none, oadd_comm none, ole_none] <;>
   first
    | exact h
    | exact h'
    | exact ole_refl _
    | (rw [oadd_comm, oadd_one]; exact ole_refl _)
    | (rw [oadd_comm, oadd_none]; exact ole_none _)
    | trivial
 ·rcases (by omega : i = 0 \/ i = 1 \/ i = 2) with rfl | rfl | rfl <;> rcases (by omega : j = 0 \/ j = 1 \/ j = 2) with rfl | rfl | rfl <;> first
   | exact hp
   | exact hq
   | exact .inl rfl
   | exact .inr (by show (-864691128455135232 : Int) <= 1 / 2 /\ (1 : Int) / 2 <= 864691128455135232; decide)
theorem within_free {s : Sp} (hs : spMay s = true) : (within Zs.free s).2 = 0 \/ (within Zs.free s).2 = 6 := by
 have ha := ab_lim hs;have hb := be_lim hs;rcases btw_may hs with ⟨hok, e⟩ | ⟨hok, e⟩
 ·left
  have hd := within_doc Zs.free_chk hs;have k1 := (chk_only ha (.inr hb)).1;have e1 : lessr (Zo.matL Zs.free) (Zo.matL ⟨NO, NO, NO, NO, Rg.ab s, Rg.be s⟩) = [1, NO, NO, NO, 1, Rg.be s, NO, Rg.ab s, 1] := by
   have m1 : min NO (Rg.be s) = Rg.be s := by unfold NO; omega
   have m2 : min NO (Rg.ab s) = Rg.ab s := by rcases ha with ha | ha <;> unfold NO at * <;> omega
   have : lessr (Zo.matL Zs.free) (Zo.matL ⟨NO, NO, NO, NO, Rg.ab s, Rg.be s⟩) = [min 1 1, min NO NO, min NO NO, min NO NO, min 1 1, min NO (Rg.be s), min NO NO, min NO (Rg.ab s), min 1 1] := rfl;rw [this, m1, m2, Int.min_self, Int.min_self]
  have g1 : Dbm.chk 3 (Zo.matL ⟨NO, NO, NO, NO, Rg.ab s, Rg.be s⟩) = 0 := k1;have hC := (clo3 (lim_of ha) (lim_of (.inr hb)) hok).close;have e2 : Zo.matL ⟨NO, NO, NO, NO, Rg.ab s, Rg.be s⟩ = [1, NO, NO, NO, 1, Rg.be s, NO, Rg.ab s, 1] := rfl;rw [e2] at g1;rw [hd, e1];generalize [1, NO, NO, NO, 1, Rg.be s, NO, Rg.ab s, 1] = L at g1 hC ⊢;have hcl : close 3 L = (3, L, 0) := by
   unfold close;rw [if_pos g1];show (match closeL 3 L with | some L' => ((3 : Int), L', (0 : Int)) | none => (0, [], 6)) = _;rw [hC]
  unfold Zo.of Zo.told;rw [if_pos g1, if_pos rfl, hcl, if_pos rfl, if_pos g1]
 ·right
  unfold within;rw [if_pos Zs.free_chk, e]
  rfl
end Wn
namespace Ky
open Mi Dbm Cv Zs
theorem within_mt {long : Int} (hl : 1 <= long /\ long <= 16) {a : Zn} (ha : Mt long a) {s : Sp} (hs : Wn.spMay s = true) : (Wn.within a s).2 = 6 \/ ((Wn.within a s).2 = 0 /\ Mt long (Wn.within a s).1) := by
 rw [Wn.within_doc ha.chk hs];generalize hb : (⟨NO, NO, NO, NO, Rg.ab s, Rg.be s⟩ : Zn) = b;have hk : Dbm.chk 3 (Zo.matL b) = 0 := hb ▸ (Wn.chk_only (Wn.ab_lim hs) (.inr (Wn.be_lim hs))).1;have hc : chk 3 (lessr (Zo.matL a) (Zo.matL b)) = 0 := Zo.chk_lessr (Zo.clo ha.chk).1 hk;have hle : ∀ i j, i < 3 -> j < 3 -> i ≠ j -> (lessr (Zo.matL a) (Zo.matL b))[i * 3 + j]?.getD 0 <= (Zo.matL a)[i * 3 + j]?.getD 0 := fun i j hi hj hne => by
  have e : lessr (Zo.matL a) (Zo.matL b) = [min 1 1, min a.b b.b, min a.d b.d, min a.a b.a, min 1 1, min a.f b.f, min a.c b.c, min a.e b.e, min 1 1] := rfl;rw [e]
  rcases (by omega : i = 0 \/ i = 1 \/ i = 2) with rfl | rfl | rfl <;> rcases (by omega : j = 0 \/ j = 1 \/ j = 2) with rfl | rfl | rfl <;> first
   | exact absurd rfl hne
   | exact Int.min_le_left ..
 have hs := mat_of_get (ha.sm hl);rcases of_sm hc (S := 100) (by omega) (fun i j hi hj hne => Int.le_trans (hle i j hi hj hne) (hs i j hi hj hne)) with h | ⟨h1, h2, h3⟩
 ·exact .inl h
 ·exact .inr ⟨h1, ha.less (of_ok h1).1 (get_of_mat fun i j hi hj hne => Int.le_trans (h3 i j hi hj hne) (hle i j hi hj hne))⟩
theorem within_ml {long : Int} (hl : 1 <= long /\ long <= 16) {a : List Zn} (ha : ∀ z, z ∈ a -> Mt long z) (hla : a.length <= 4096) {s : Sp} (hs : Wn.spMay s = true) : (Zs.within a s).2 = 0 /\ Ml long (Zs.within a s).1 := by
 unfold Zs.within Zs.each;have h0 : Cv.checked [a] = 0 := checked_ok.2 fun l hl => by rw [List.mem_singleton.1 hl]; exact ⟨hla, fun z hz => (ha z hz).chk⟩
 rw [if_pos h0, if_neg (fun h => (Wn.within_free hs).elim h.1 h.2)];exact come_sm hl _ a [] (fun x hx => within_mt hl (ha x hx) hs) (fun z hz => (nomatch hz)) (by simpa using hla)
end Ky
namespace Cl
open Cv Zs Ky Cmp
theorem and_good {long : Int} (hl : 1 <= long /\ long <= 6) {a b : List Zn} (ha : Good long a) (hb : Good long b) : (Zs.and a b).2 = 0 /\ Good long (Zs.and a b).1 /\ ∀ t, Pts (Zs.and a b).1 t ↔ Pts a t /\ Pts b t := by
 have h1 := ha.len hl;have h2 := hb.len hl;obtain ⟨h3, h4⟩ := and_ml (long := long) (by omega) ha.ml.mt hb.chk (by omega) (by omega);obtain ⟨_, h5, h6⟩ := and_ok h3;exact ⟨h3, good_of hl h5.1 h4 h5, h6⟩
theorem within_good {long : Int} (hl : 1 <= long /\ long <= 6) {a : List Zn} (ha : Good long a) {s : Sp} (hs : Wn.spMay s = true) : (Zs.within a s).2 = 0 /\ Good long (Zs.within a s).1 /\ ∀ t, Pts (Zs.within a s).1 t ↔ Pts a t /\ Wn.InS s t := by
 have h1 := ha.len hl;obtain ⟨h3, h4⟩ := within_ml (long := long) (by omega) ha.ml.mt (by omega) hs;obtain ⟨h5, h6⟩ := within_pts h3;exact ⟨h3, good_of hl h5.1 h4 h5, h6⟩
end Cl
namespace Tb
open Cv Zs Ky Cmp
abbrev Tab := List Zn × List Zn
def p0 (ls : List Tab) : Tab := ls[0]?.getD ([], [])
def p1 (ls : List Tab) : Tab := ls[1]?.getD ([], [])
def sp0 : Sp := ⟨0, false, 0, false, false⟩
def known (k : Int) : Bool := decide (k = 2) || decide (k = 3) || decide (k = 4) || decide (k = 6)
def shape (k : Int) (s : Sp) (n : Nat) : Bool := known k && (if k = 6 then decide (n = 1) && decide (Tr.ival s = 0) else decide (n = 2) && decide (s = sp0))
def way (k : Int) (s : Sp) (ls : List Tab) : List Zn × Int :=
 if k = 2 then Zs.or (p0 ls).2 (p1 ls).2 else if k = 3 then Zs.and (p0 ls).2 (p1 ls).2 else if k = 4 then Zs.comp (p0 ls).1 (p1 ls).2 else Zs.within (p0 ls).2 s
def new (k : Int) (s : Sp) (ls : List Tab) (zones : Int) : List Zn × Int :=
 if ask zones ls ≠ 0 then ([], ask zones ls) else if shape k s ls.length = false then ([], 2) else capped (way k s ls).1 (way k s ls).2 zones
def lists (ls : List Tab) : List Zn := ls.flatMap fun x => x.1 ++ x.2
def big (ls : List Tab) : Bool := (ls.take 10).any fun x => decide (40 < x.1.length) || decide (40 < x.2.length)
def great (ls : List Tab) (l : List Zn) : Bool := big ls || (decide (10 < ls.length) || (decide (40 < l.length) || (decide (6 < lng 0 (lists ls)) || decide (6 < lng 0 l))))
theorem great_no {ls : List Tab} {l : List Zn} (h : great ls l = false) : (∀ x, x ∈ ls -> x.1.length <= 40 /\ x.2.length <= 40) /\ ls.length <= 10 /\ l.length <= 40 /\ lng 0 (lists ls) <= 6 /\ lng 0 l <= 6 := by
 unfold great big at h;simp only [Bool.or_eq_false_iff, decide_eq_false_iff_not] at h;obtain ⟨h1, h2, h3, h4, h5⟩ := h;refine ⟨fun x hx => ?_, by omega, by omega, by omega, by omega⟩;have h6 := List.any_eq_false.1 h1 x (by rw [List.take_of_length_le (by omega)]; exact hx);simp only [Bool.or_eq_true, decide_eq_true_eq, not_or] at h6;omega
theorem lists_c {ls : List Tab} (h : lng 0 (lists ls) <= 6) {long : Int} (hl : lng 0 (lists ls) <= long) {x : Tab} (hx : x ∈ ls) : (∀ z, z ∈ x.1 -> z.c <= 2 * long + 1) /\ ∀ z, z ∈ x.2 -> z.c <= 2 * long + 1 := by
 have hm := lng_mem (lists ls) 0 (by omega) h;refine ⟨fun z hz => ?_, fun z hz => ?_⟩
 ·have := hm z (List.mem_flatMap.2 ⟨x, hx, List.mem_append_left _ hz⟩)
  omega
 ·have := hm z (List.mem_flatMap.2 ⟨x, hx, List.mem_append_right _ hz⟩)
  omega
structure GT (long : Int) (x : Tab) : Prop where
 a : Cl.Good long x.1
 n : Cl.Good long x.2
 sub : ∀ t, Pts x.2 t -> Pts x.1 t
theorem tmay_gt {long : Int} (hl : 1 <= long /\ long <= 6) {x : Tab} (h : tmay x.1 x.2 = true) (h1 : ∀ z, z ∈ x.1 -> z.c <= 2 * long + 1) (h2 : ∀ z, z ∈ x.2 -> z.c <= 2 * long + 1) : GT long x := by
 unfold tmay at h;split at h
 ·cases h
 rename_i hn;simp only [not_or, Classical.not_not, Bool.not_eq_true] at hn;simp only [Bool.and_eq_true, decide_eq_true_eq, Bool.not_eq_true'] at h;have ga := Cl.good_check hl hn.1 hn.2.2 h1;have gn := Cl.good_check hl hn.2.1 h.2.2 h2;exact ⟨ga, gn, ((Cl.in_good hl gn ga).2).1 h.2.1⟩
theorem gt_tmay {long : Int} (hl : 1 <= long /\ long <= 6) {x : Tab} (h : GT long x) : tmay x.1 x.2 = true := by
 unfold tmay;rw [Cl.good_check0 h.a, Cl.good_check0 h.n, Cl.good_odd h.a, Cl.good_odd h.n, if_neg (by simp), (Cl.in_good hl h.n h.a).1, ((Cl.in_good hl h.n h.a).2).2 h.sub]
 rfl
theorem rl_le (l : List Zn) {long : Int} (hl : 1 <= long /\ long <= 6) : (rl l long).length <= 507 := by
 unfold rl Rg.up;rw [List.length_map];refine Nat.le_trans (List.length_filter_le _ _) ?_;rw [List.length_range, Rg.many_doc (by omega)];have hm := Fr.mul_bd (u := 3 * (2 * long + 1)) (v := 2 * long + 1) (m := 39) (n := 13) (by omega) (by omega) (by omega) (by omega);simp only;omega
def fine (long : Int) (x : Tab) : Bool := may x.1 && (may x.2 && decide ((Rg.andI (rl x.2 long) (rl x.1 long)).length = (rl x.2 long).length))
theorem may_good {long : Int} (hl : 1 <= long /\ long <= 6) {l : List Zn} (h : may l = true) (hc : ∀ z, z ∈ l -> z.c <= 2 * long + 1) : Cl.Good long l := Cl.good_check hl ((may_iff l).1 h).1 ((may_iff l).1 h).2 hc
theorem good_may {long : Int} {l : List Zn} (h : Cl.Good long l) : may l = true := (may_iff l).2 ⟨Cl.good_check0 h, Cl.good_odd h⟩
theorem and_len {long : Int} (hl : 1 <= long /\ long <= 6) {a b : List Zn} (ha : Cl.Good long a) (hb : Cl.Good long b) : (Rg.andI (rl b long) (rl a long)).length = (rl b long).length ↔ ∀ t, Pts b t -> Pts a t := by
 have hm := Rg.mem_andI (rl b long) (rl a long) (rl_rising _ _) (rl_rising _ _);have hl16 : 1 <= long /\ long <= 16 := by omega
 constructor
 ·intro h t ht
  apply Classical.byContradiction;intro hna;obtain ⟨z, hz, hf⟩ := ht;obtain ⟨n, hn, hy⟩ := (hb.ml.mt z hz).rep hl16 hf;have hnb : n ∈ rl b long := (mem_rl hb.chk hl16).2 ⟨hn, z, hz, (hy z).1 hf⟩;have hnn : n ∉ Rg.andI (rl b long) (rl a long) := fun hh => by
   obtain ⟨_, y, hym, hyf⟩ := (mem_rl ha.chk hl16).1 ((hm n).1 hh).2;exact hna ⟨y, hym, (hy y).2 hyf⟩
  have hd : (Rg.andI (rl b long) (rl a long)).Nodup := by
   have := and_rl (a := b) (b := a) (Cl.and_good hl hb ha).1 hl16;rw [this];exact (rl_rising _ _).imp fun k => by omega
  have h1 := nodup_sub (n :: Rg.andI (rl b long) (rl a long)) (rl b long) (List.nodup_cons.2 ⟨hnn, hd⟩) fun x hx => by
   rcases List.mem_cons.1 hx with rfl | hx
   ·exact hnb
   ·exact ((hm x).1 hx).1
  simp only [List.length_cons] at h1;omega
 ·intro h
  have : Rg.andI (rl b long) (rl a long) = rl b long := by
   have e := and_rl (a := b) (b := a) (Cl.and_good hl hb ha).1 hl16;refine rising_eq (by rw [e]; exact rl_rising _ _) (rl_rising _ _) fun x => (hm x).trans ⟨fun k => k.1, fun k => ⟨k, ?_⟩⟩;obtain ⟨k1, k2⟩ := (mem_rl hb.chk hl16).1 k;exact (mem_rl ha.chk hl16).2 ⟨k1, h _ k2⟩
  rw [this]
theorem fine_tmay {long : Int} (hl : 1 <= long /\ long <= 6) {x : Tab} (h1 : ∀ z, z ∈ x.1 -> z.c <= 2 * long + 1) (h2 : ∀ z, z ∈ x.2 -> z.c <= 2 * long + 1) : fine long x = tmay x.1 x.2 := by
 rw [Bool.eq_iff_iff];constructor
 ·intro h
  unfold fine at h;simp only [Bool.and_eq_true, decide_eq_true_eq] at h;have ga := may_good hl h.1 h1;have gn := may_good hl h.2.1 h2;exact gt_tmay hl ⟨ga, gn, (and_len hl ga gn).1 h.2.2⟩
 ·intro h
  have g := tmay_gt hl h h1 h2;unfold fine;rw [good_may g.a, good_may g.n, decide_eq_true ((and_len hl g.a g.n).2 g.sub)]
  rfl
def wayR (k : Int) (s : Sp) (ls : List Tab) (long : Int) : List Int :=
 if k = 6 then (rl (p0 ls).2 long).filter (Rg.spF s long) else if k = 2 then Rg.orI (rl (p0 ls).2 long) (rl (p1 ls).2 long) else if k = 3 then Rg.andI (rl (p0 ls).2 long) (rl (p1 ls).2 long) else Cl.cmpV (rl (p0 ls).1 long) (rl (p1 ls).2 long) long
theorem ival_may {s : Sp} (h : Tr.ival s = 0) : Wn.spMay s = true := by
 unfold Tr.ival at h;split at h
 ·cases h
 rename_i h1;split at h
 ·cases h
 rename_i h2;simp only [not_or, Tr.fitN, Bool.not_eq_false, Bool.and_eq_true, decide_eq_true_eq, not_and] at h1 h2;obtain ⟨h3, h4, h5⟩ := h1;unfold Wn.spMay;rw [decide_eq_true (by omega : -288230376151711744 <= s.lo), decide_eq_true (by omega : s.lo <= 288230376151711744)];cases ho : s.op with
 | true =>
   have h6 := h5 ho;simp only [Classical.not_not] at h6;rw [if_pos rfl, decide_eq_true h6.1]
   simpa using h6.2
 | false =>
   have h6 := h2 ho;rw [if_neg (by decide), decide_eq_true (by omega : s.lo <= s.hi), decide_eq_true (by omega : s.hi <= 288230376151711744)]
   rfl
theorem shape_one {k : Int} {s : Sp} {n : Nat} (h : shape k s n = true) : (k = 6 /\ n = 1 /\ Wn.spMay s = true /\ Tr.ival s = 0) \/ ((k = 2 \/ k = 3 \/ k = 4) /\ n = 2 /\ s = sp0) := by
 unfold shape known at h;simp only [Bool.and_eq_true, Bool.or_eq_true, decide_eq_true_eq] at h
 by_cases h6 : k = 6
 ·rw [if_pos h6] at h
  simp only [Bool.and_eq_true, decide_eq_true_eq] at h;exact .inl ⟨h6, h.2.1, ival_may h.2.2, h.2.2⟩
 ·rw [if_neg h6] at h
  simp only [Bool.and_eq_true, decide_eq_true_eq] at h;exact .inr ⟨by omega, h.2.1, h.2.2⟩
theorem p0_mem {ls : List Tab} (h : 1 <= ls.length) : p0 ls ∈ ls := by
 unfold p0;rw [List.getElem?_eq_getElem (by omega)];exact List.getElem_mem _
theorem p1_mem {ls : List Tab} (h : 2 <= ls.length) : p1 ls ∈ ls := by
 unfold p1;rw [List.getElem?_eq_getElem (by omega)];exact List.getElem_mem _
theorem way_good {long : Int} (hl : 1 <= long /\ long <= 6) {k : Int} {s : Sp} {ls : List Tab} (hk : shape k s ls.length = true) (hg : ∀ x, x ∈ ls -> GT long x) : (way k s ls).2 = 0 /\ Cl.Good long (way k s ls).1 /\ rl (way k s ls).1 long = wayR k s ls long := by
 have hl16 : 1 <= long /\ long <= 16 := by omega
 unfold way wayR;rcases shape_one hk with ⟨rfl, hn, hs, _⟩ | ⟨hk3, hn, rfl⟩
 ·have g0 := hg _ (p0_mem (ls := ls) (by omega))
  rw [if_neg (by decide), if_neg (by decide), if_neg (by decide), if_pos rfl];obtain ⟨w1, w2, _⟩ := Cl.within_good hl g0.n hs;refine ⟨w1, w2, ?_⟩;have e := within_rl w1 hl16;unfold Rg.within at e;rw [if_neg (by rw [Rg.fits_iff.2 hl16]; decide), if_pos ⟨may_rl g0.n.chk hl16, hs⟩] at e;injection e with e _;exact e.symm
 ·have g0 := hg _ (p0_mem (ls := ls) (by omega))
  have g1 := hg _ (p1_mem (ls := ls) (by omega));rcases hk3 with rfl | rfl | rfl
  ·rw [if_pos rfl, if_neg (by decide), if_pos rfl]
   obtain ⟨w1, w2, _⟩ := Cl.or_good hl g0.n g1.n;exact ⟨w1, w2, (or_rl w1 hl16).symm⟩
  ·rw [if_neg (by decide), if_pos rfl, if_neg (by decide), if_neg (by decide), if_pos rfl]
   obtain ⟨w1, w2, _⟩ := Cl.and_good hl g0.n g1.n;exact ⟨w1, w2, (and_rl w1 hl16).symm⟩
  ·rw [if_neg (by decide), if_neg (by decide), if_pos rfl, if_neg (by decide), if_neg (by decide), if_neg (by decide)]
   obtain ⟨w1, w2, _⟩ := Cl.comp_good hl g0.a g1.n;exact ⟨w1, w2, (Cl.cmpV_rl g0.a.ah g1.n.ah w1 hl16).symm⟩
theorem new_good {long : Int} (hl : 1 <= long /\ long <= 6) {k : Int} {s : Sp} {ls : List Tab} {zones : Int} (ha : ask zones ls = 0) (hk : shape k s ls.length = true) (hg : ∀ x, x ∈ ls -> GT long x) :
 (new k s ls zones = ([], 300) /\ crowded zones long = true) \/ (new k s ls zones = ((way k s ls).1, 0) /\ ((way k s ls).1.length : Int) <= zones /\ (way k s ls).2 = 0 /\ Cl.Good long (way k s ls).1 /\ rl (way k s ls).1 long = wayR k s ls long) := by
 obtain ⟨h1, h2, h3⟩ := way_good hl hk hg;unfold new capped;rw [if_neg (by simpa using ha), if_neg (by rw [hk]; decide)];have h4 := h2.ml.len (by omega : 1 <= long /\ long <= 16)
 by_cases h5 : zones < ((way k s ls).1.length : Int)
 ·rw [if_pos (.inr h5)]
  exact .inl ⟨rfl, by unfold crowded; rw [decide_eq_true (by omega : zones < ((regs long).length : Int))]; rfl⟩
 ·rw [if_neg (fun h => h.elim (fun q => q h1) h5)]
  exact .inr ⟨rfl, by omega, h1, h2, h3⟩
theorem ask_zero {zones : Int} {ls : List Tab} (h : ask zones ls = 0) : (1 <= zones /\ zones <= 4096) /\ ∀ x, x ∈ ls -> tmay x.1 x.2 = true := by
 unfold ask at h;split at h
 ·cases h
 split at h
 ·cases h
 rename_i h1 h2;refine ⟨by omega, fun x hx => ?_⟩;have := List.any_eq_false.1 (by simpa using h2 : (ls.any fun x => !tmay x.1 x.2) = false) x hx
 simpa using this
def longOf (ls : List Tab) : Int := max 1 (lng 0 (lists ls))
theorem ask_gt {zones : Int} {ls : List Tab} (h : ask zones ls = 0) {long : Int} (hl : 1 <= long /\ long <= 6) (h6 : lng 0 (lists ls) <= long) (x : Tab) (hx : x ∈ ls) : GT long x := by
 obtain ⟨h1, h2⟩ := lists_c (by omega) h6 hx;exact tmay_gt hl ((ask_zero h).2 x hx) h1 h2
end Tb
namespace Fr
end Fr
namespace Tb
open Cv Zs Ky Cmp Mi Dbm
def fits (s : Sp) (long : Int) : Bool := (decide (2 * s.lo < long) || (decide (long = 2 * s.lo) && !s.ls)) && (s.op || (decide (long < 2 * s.hi) || (decide (long = 2 * s.hi) && !s.hs)))
def pt (t u : Int) : Pt := ⟨(Fr.of t 2).1, (Fr.of u 2).1⟩
def check (k : Int) (s : Sp) (ls : List Tab) (zones long : Int) : Int :=
 if zones < 1 \/ 4096 < zones then 2 else if (ls.any fun x => !fine long x) = true then 8 else if shape k s ls.length = true then 0 else 2
theorem check_ask {k : Int} {s : Sp} {ls : List Tab} {zones long : Int} (hl : 1 <= long /\ long <= 6) (h6 : lng 0 (lists ls) <= long) : check k s ls zones long = if ask zones ls ≠ 0 then ask zones ls else if shape k s ls.length = true then 0 else 2 := by
 have ha : (ls.any fun x => !fine long x) = ls.any fun x => !tmay x.1 x.2 := by
  rw [Bool.eq_iff_iff, List.any_eq_true, List.any_eq_true];constructor
  ·rintro ⟨x, hx, h⟩
   obtain ⟨h1, h2⟩ := lists_c (by omega) h6 hx;exact ⟨x, hx, by rw [<- fine_tmay hl h1 h2]; exact h⟩
  ·rintro ⟨x, hx, h⟩
   obtain ⟨h1, h2⟩ := lists_c (by omega) h6 hx;exact ⟨x, hx, by rw [fine_tmay hl h1 h2]; exact h⟩
 unfold check ask;rw [ha];split
 ·rw [if_pos (by decide)]
 split
 ·rw [if_pos (by decide)]
 ·rw [if_neg (show ¬ ((0 : Int) ≠ 0) by decide)]
theorem long_fit {ls : List Tab} {l : List Zn} (h : great ls l = false) : (1 <= longOf ls /\ longOf ls <= 6) /\ lng 0 (lists ls) <= longOf ls := by
 obtain ⟨_, _, _, h4, _⟩ := great_no h;unfold longOf;omega
theorem news_law {k : Int} {s : Sp} {ls : List Tab} {zones : Int} (h : great ls [] = false) :
 (∃ f, f ≠ 0 /\ check k s ls zones (longOf ls) = f /\ new k s ls zones = ([], f)) \/
 (check k s ls zones (longOf ls) = 0 /\ new k s ls zones = ([], 300) /\ crowded zones (longOf ls) = true) \/
 (check k s ls zones (longOf ls) = 0 /\ shape k s ls.length = true /\ (∀ x, x ∈ ls -> GT (longOf ls) x) /\ ∃ l, new k s ls zones = (l, 0) /\ (l.length : Int) <= zones /\ Cl.Good (longOf ls) l /\ rl l (longOf ls) = wayR k s ls (longOf ls)) := by
 obtain ⟨hl, h6⟩ := long_fit h;rw [check_ask hl h6]
 by_cases ha : ask zones ls = 0
 case neg =>
  left;refine ⟨_, ha, by rw [if_pos ha], ?_⟩;unfold new;rw [if_pos ha]
 rw [if_neg (by simpa using ha)];cases hk : shape k s ls.length with
 | false =>
   left;refine ⟨2, by decide, by rw [if_neg (by decide)], ?_⟩;unfold new;rw [if_neg (by simpa using ha), if_pos hk]
 | true =>
   right;rw [if_pos rfl];have hg := ask_gt ha hl h6;rcases new_good hl ha hk hg with ⟨h1, h2⟩ | ⟨h1, h2, h3, h4, h5⟩
   ·exact .inl ⟨rfl, h1, h2⟩
   ·exact .inr ⟨rfl, rfl, hg, _, h1, h2, h4, h5⟩
def add (t : Tab) (l : List Zn) (zones : Int) : Tab × Int :=
 if ask zones [t, (l, l)] ≠ 0 then (([], []), ask zones [t, (l, l)]) else if (capped (Zs.or t.1 l).1 (Zs.or t.1 l).2 zones).2 ≠ 0 \/ zones < (l.length : Int) then (([], []), 300) else (((capped (Zs.or t.1 l).1 (Zs.or t.1 l).2 zones).1, l), 0)
end Tb
abbrev TMf : TypeId := 74
abbrev TU8 : TypeId := 5
abbrev TWay : TypeId := 72
theorem und8 : Tryz.prog.underlying TU8 = some (.int .u8) := by kernel_rfl
theorem undMf : Tryz.prog.underlying TMf = some (.map TU8 TWay) := by kernel_rfl
theorem key8 : Maps.Keyed Tryz.prog TU8 := Maps.int_keyed und8
theorem zeroWay (w : World) : (zeroValue TWay).run Tryz.prog w = .ok .nilFunc w := by kernel_rfl
def heldR (v : Value) : Option (DataW Value × List MemPlace) := some (.held v, [])
def FMap (W : World) (b n : Nat) (f : Int -> Option Value) : Prop :=
 ∃ D : DataW Value, W.ownsMap Tryz.prog TU8 heldR b n D /\ Maps.Tidy D /\ ∀ x : Int, D.atKey (.int .u8 x) .nil = (match f x with | some v => .held v | none => .nil)
theorem FMap.lt {W : World} {b n : Nat} {f : Int -> Option Value} (h : FMap W b n f) : b < W.heap.size := by
 obtain ⟨D, h1, _⟩ := h; exact h1.lt
theorem FMap.kept {W X : World} {b n : Nat} {f : Int -> Option Value} (h : FMap W b n f) (e : X.heap[b]? = W.heap[b]?) : FMap X b n f := by
 obtain ⟨D, ⟨es, clock, hb, F, hs, hD⟩, h2, h3⟩ := h;exact ⟨D, ⟨es, clock, e.trans hb, F, hs, hD⟩, h2, h3⟩
theorem FMap.below {W X : World} {b n : Nat} {f : Int -> Option Value} (h : FMap W b n f) (hB : Below W.heap.size W X) : FMap X b n f := h.kept (hB.block b h.lt)
theorem FMap.at {w0 : Base} {hp : List LB} {r L : List Nat} {w w1 : World} {b n : Nat} {f : Int -> Option Value} (h : FMap w b n f) (h1 : At w0 hp r L w w1) (hL : b ∉ L) : FMap w1 b n f := h.kept (h1.step b h.lt hL)
theorem FMap.made (w : World) : FMap (w.alloc (.map #[] 0)) w.heap.size 0 (fun _ => none) :=
 ⟨.map [], World.ownsMap_made w _ _ _, Maps.tidy_empty, fun x => by simp [DataW.atKey]⟩
theorem wf8 {x : Int} (hx : 0 <= x /\ x <= 255) : (Lit.int .u8 x).wf = true := by
 simp [Lit.wf, IntKind.min, IntKind.max, IntKind.bits, IntKind.signed]; omega
theorem FMap.put {W : World} {b n : Nat} {f : Int -> Option Value} (h : FMap W b n f) (x : Int) (hx : 0 <= x /\ x <= 255) (v : Value) (hn : n < 1000000000) :
 ∃ W', (Instr.mapUpdate TMf (.map (some b)) (.int .u8 x) v).run Tryz.prog W = .ok () W' /\ FMap W' b (n + 1) (fun y => if y = x then some v else f y) /\ W.grownBy W' (some b) := by
 obtain ⟨D, h1, h2, h3⟩ := h;have hk := Maps.keyOf_int_mk (P := Tryz.prog) (k := TU8) und8 (wf8 hx);have hkl := key8.key hk;obtain ⟨W', hrun, ho, hg⟩ := h1.update (t := TMf) (e := TWay) key8 undMf (by unfold maxLen; omega) hk (show heldR v = some (.held v, []) from rfl);refine ⟨W', hrun, ⟨_, ho, h2.put hkl _, fun y => ?_⟩, hg⟩
 by_cases e : y = x
 ·subst e
  rw [Maps.atKey_put_same h2.isMap hkl];simp only [if_true]
 ·have hne : (Lit.int .u8 y) ≠ (Lit.int .u8 x) := fun h => e (by injection h)
  rw [Maps.atKey_put_other hne, h3 y];simp only [if_neg e]
theorem FMap.look {W : World} {b n : Nat} {f : Int -> Option Value} (h : FMap W b n f) (x : Int) (hx : 0 <= x /\ x <= 255) :
 (Instr.lookup TMf (.map (some b)) (.int .u8 x) true).run Tryz.prog W = .ok (match f x with | some v => .tuple #[v, .bool true] | none => .tuple #[.nilFunc, .bool false]) W := by
 obtain ⟨D, ⟨es, clock, hb, F, hs, rfl⟩, h2, h3⟩ := h;have hk := Maps.keyOf_int_mk (P := Tryz.prog) (k := TU8) und8 (wf8 hx);have h3x := h3 x;rcases Maps.fit_look true key8 undMf (zeroWay W) hb F hk with ⟨hrun, _, hat⟩ | ⟨e0, y, _, _, hrun, hRv, hat, _⟩
 ·rw [hat .nil] at h3x
  cases hf : f x with
  | none => rw [hrun]; rfl
  | some v => rw [hf] at h3x; cases h3x
 ·rw [hat .nil] at h3x
  injection hRv with hRv;subst hRv;cases hf : f x with
  | none => rw [hf] at h3x; cases h3x
  | some v =>
    rw [hf] at h3x;injection h3x with h3x;rw [hrun, <- h3x]; rfl
theorem run_neq_sp (p q : Sp) (w : World) : (binOp .neq 32 (.agg #[.int .i64 p.lo, .bool p.ls, .int .i64 p.hi, .bool p.hs, .bool p.op]) (.agg #[.int .i64 q.lo, .bool q.ls, .int .i64 q.hi, .bool q.hs, .bool q.op])).run Tryz.prog w = .ok (.bool (decide (p ≠ q))) w := by
 have u3 := Tryz.underlying3;have a3 := Tryz.isAgg3;have z3 := Tryz.sizeOf3;have u4 := Tryz.underlying4;have a4 := Tryz.isAgg4;have z4 := Tryz.sizeOf4;have hS : Tryz.prog.underlying 32 = some (.struct (Tryz.prog.fieldsOf 32)) := by kernel_rfl
 have hp : Tryz.prog.stoodInHeld 32 = false := by kernel_rfl
 rw [run_neq_struct, show (10000 : Nat) = 9999 + 1 from rfl, run_equalIn_agg w 9999 32 _ _ hS hp];simp only [Program.fieldsOf, Tryz.underlying32]
 go_simp
 have hpq : p = q ↔ (p.lo = q.lo /\ p.ls = q.ls /\ p.hi = q.hi /\ p.hs = q.hs /\ p.op = q.op) := by
  obtain ⟨a, b, c, d, e⟩ := p;obtain ⟨a', b', c', d', e'⟩ := q;simp only [Sp.mk.injEq]
 simp only [hpq]
 repeat' split
 all_goals simp_all
theorem run_neq_spG (x y : Operand) (p q : Sp) (w : World) : (do eqGuard .neq 32 x y (.agg #[.int .i64 p.lo, .bool p.ls, .int .i64 p.hi, .bool p.hs, .bool p.op]) (.agg #[.int .i64 q.lo, .bool q.ls, .int .i64 q.hi, .bool q.hs, .bool q.op]); binOp .neq 32 (.agg #[.int .i64 p.lo, .bool p.ls, .int .i64 p.hi, .bool p.hs, .bool p.op]) (.agg #[.int .i64 q.lo, .bool q.ls, .int .i64 q.hi, .bool q.hs, .bool q.op]) : Sem Value).run Tryz.prog w = .ok (.bool (decide (p ≠ q))) w := by
 have hg : (eqGuard .neq 32 x y (.agg #[.int .i64 p.lo, .bool p.ls, .int .i64 p.hi, .bool p.hs, .bool p.op]) (.agg #[.int .i64 q.lo, .bool q.ls, .int .i64 q.hi, .bool q.hs, .bool q.op])).run Tryz.prog w = .ok () w := run_eqGuard_agg _ _ _ _ _ _ _ (by kernel_rfl);rw [Sem.run_bind, hg];exact run_neq_sp p q w
namespace Tb
abbrev TOf : TypeId := 95
theorem Parts.st {ts : List Tbl} {ls : List Tab} {w0 : Base} {l : List World} {X w : World} (h : Parts X.heap.size X ts ls) (st : Stay w0 l w) (hX : X ∈ l := by simp) : Parts w.heap.size w ts ls := h.go (st.get hX) (st.get hX).size
theorem Parts.one {n : Nat} {W : World} {ts : List Tbl} {ls : List Tab} (h : Parts n W ts ls) (k : Nat) (hk : k < ls.length) : ∃ (x y : Option Addr) (cx cy : Nat), ts[k]? = some (⟨⟨x, (ls[k]?.getD ([], [])).1.length, cx⟩, ⟨y, (ls[k]?.getD ([], [])).2.length, cy⟩⟩ : Tbl) /\ Sl n W (.slice x (ls[k]?.getD ([], [])).1.length cx) (ls[k]?.getD ([], [])).1 /\ Sl n W (.slice y (ls[k]?.getD ([], [])).2.length cy) (ls[k]?.getD ([], [])).2 := by
 have hl := List.getElem?_eq_getElem (l := ls) (i := k) hk;have ht := List.getElem?_eq_getElem (l := ts) (i := k) (by have := h.1; omega);generalize ls[k]'hk = l at hl;generalize ts[k]'(by have := h.1; omega) = t at ht;obtain ⟨h1, e1, h2, e2⟩ := h.2 k t l ht hl;obtain ⟨⟨ta, tl, tc⟩, ⟨na, nl, nc⟩⟩ := t;simp only at h1 e1 h2 e2;subst e1; subst e2;rw [hl];exact ⟨ta, na, tc, nc, ht, h1, h2⟩
def Way2 (fid : FuncId) (f : List Zn -> List Zn -> List Zn × Int) : Prop := ∀ (l m : List Zn) (a b : Option Addr) (ca cb : Nat) (w : World), Sl w.heap.size w (.slice a l.length ca) l -> Sl w.heap.size w (.slice b m.length cb) m -> Calls Tryz.prog fid #[.slice a l.length ca, .slice b m.length cb] w (Ret w fun v w' => ∃ a' c', v = .tuple #[.slice a' (f l m).1.length c', .int .i64 (f l m).2] /\ Own TZ w.heap.size w' (.slice a' (f l m).1.length c') (f l m).1)
end Tb
theorem both1_any (fid : FuncId) (f : List Zn -> List Zn -> List Zn × Int) (en : Enters Tryz.prog fid) (hf : Tb.Way2 fid f) (s : Sp) (ts : List Tbl) (ls : List Tb.Tab) (h2 : 2 <= ls.length) (a : Option Addr) (c B : Nat) (w : World) (hP : Tb.Parts w.heap.size w ts ls) (hS : Sl w.heap.size w (.slice a ts.length c) ts)
 (hbox : w.heap[B]? = some (.cells #[.func (.func fid) #[] #[]] Tb.TOf (0, 0))) :
 Calls Tryz.prog 105 #[.agg #[.int .i64 s.lo, .bool s.ls, .int .i64 s.hi, .bool s.hs, .bool s.op], .slice a ts.length c, .pointer (some ⟨B, 0, none⟩)] w (Ret w fun v w' => ∃ a' c', v = .tuple #[.slice a' (f (Tb.p0 ls).2 (Tb.p1 ls).2).1.length c', .int .i64 (f (Tb.p0 ls).2 (Tb.p1 ls).2).2] /\ Own TZ w.heap.size w' (.slice a' (f (Tb.p0 ls).2 (Tb.p1 ls).2).1.length c') (f (Tb.p0 ls).2 (Tb.p1 ls).2).1) := by
 refine fun_ret 0 w Tryz.func105 (args := [.agg [.val (.int .i64 s.lo), .val (.bool s.ls), .val (.int .i64 s.hi), .val (.bool s.hs), .val (.bool s.op)], .val (.slice a ts.length c), .val (.pointer (some ⟨B, 0, none⟩))]) rfl rfl ?_;refine NewI.mk fun b1 hb1 => ?_;refine DrawI.go (.tk 0 (.tk 1 (.tk 2 (.tk 3 (.tk 4 (.tk 5 (.tk 6 (.tk 7 (.tk 8 (.ev 9 (.tk 10 (.tk 11 (.tk 12 (.tk 13 .done)))))))))))))) (by kernel_rfl) fun w3 h3 => ?_;have hB3 := at_belowM h3 (by simp);obtain ⟨x0, y0, cx0, cy0, t0, _, sn0⟩ := hP.one 0 (by omega);obtain ⟨x1, y1, cx1, cy1, t1, _, sn1⟩ := hP.one 1 (by omega);have hS3 := hS.go hB3 hB3.size;have hbox3 := (hB3.block _ (lt_cellsM hbox)).trans hbox;refine LoadI.mk ⟨_, ⟨cell_oneM hbox3, by simp⟩, ?_⟩;refine hS3.idx (k := 0) t0 fun ad had => ?_;refine hS3.ldx (k := 0) t0 had (Below.refl _ _) (by simp) (i := 1) (c := .slice y0 (Tb.p0 ls).2.length cy0) rfl ?_;refine hS3.idx (k := 1) t1 fun ad2 had2 => ?_;refine hS3.ldx (k := 1) t1 had2 (Below.refl _ _) (by simp) (i := 1) (c := .slice y1 (Tb.p1 ls).2.length cy1) rfl ?_;refine Need.mk en ?_;apply CallI.use
 focus (exact fun w2 h2 => hf (Tb.p0 ls).2 (Tb.p1 ls).2 y0 y1 cy0 cy1 w2 ((sn0.go hB3 hB3.size).go (at_belowM h2 (by simp)) (at_belowM h2 (by simp)).size) ((sn1.go hB3 hB3.size).go (at_belowM h2 (by simp)) (at_belowM h2 (by simp)).size))
 rintro v w2 v2 h2 hB2 ⟨a2, c2, rfl, hO2⟩;exact EndI.mk fun w9 h9 => ⟨a2, c2, rfl, (hO2.lower h2.below.size).below (at_belowM h9 (by simp))⟩
theorem ways1_any (s : Sp) (ts : List Tbl) (ls : List Tb.Tab) (h2 : 2 <= ls.length) (a : Option Addr) (c : Nat) (w : World) (hP : Tb.Parts w.heap.size w ts ls) (hS : Sl w.heap.size w (.slice a ts.length c) ts) :
 Calls Tryz.prog 66 #[.agg #[.int .i64 s.lo, .bool s.ls, .int .i64 s.hi, .bool s.hs, .bool s.op], .slice a ts.length c] w (Ret w fun v w' => ∃ a' c', v = .tuple #[.slice a' (Zs.comp (Tb.p0 ls).1 (Tb.p1 ls).2).1.length c', .int .i64 (Zs.comp (Tb.p0 ls).1 (Tb.p1 ls).2).2] /\ Own TZ w.heap.size w' (.slice a' (Zs.comp (Tb.p0 ls).1 (Tb.p1 ls).2).1.length c') (Zs.comp (Tb.p0 ls).1 (Tb.p1 ls).2).1) := by
 refine fun_ret 0 w Tryz.func66 (args := [.agg [.val (.int .i64 s.lo), .val (.bool s.ls), .val (.int .i64 s.hi), .val (.bool s.hs), .val (.bool s.op)], .val (.slice a ts.length c)]) rfl rfl ?_;refine NewI.mk fun b1 hb1 => ?_;refine DrawI.go (.tk 0 (.tk 1 (.tk 2 (.tk 3 (.tk 4 (.tk 5 (.tk 6 (.tk 7 (.ev 8 (.tk 9 (.tk 10 (.tk 11 (.tk 12 .done))))))))))))) (by kernel_rfl) fun w3 h3 => ?_;have hB3 := at_belowM h3 (by simp);obtain ⟨x0, y0, cx0, cy0, t0, sn0, _⟩ := hP.one 0 (by omega);obtain ⟨x1, y1, cx1, cy1, t1, _, sn1⟩ := hP.one 1 (by omega);have hS3 := hS.go hB3 hB3.size;refine hS3.idx (k := 0) t0 fun ad had => ?_;refine hS3.ldx (k := 0) t0 had (Below.refl _ _) (by simp) (i := 0) (c := .slice x0 (Tb.p0 ls).1.length cx0) rfl ?_;refine hS3.idx (k := 1) t1 fun ad2 had2 => ?_;refine hS3.ldx (k := 1) t1 had2 (Below.refl _ _) (by simp) (i := 1) (c := .slice y1 (Tb.p1 ls).2.length cy1) rfl ?_;apply CallI.use
 focus (exact fun w2 h2 => zscomp_any (Tb.p0 ls).1 (Tb.p1 ls).2 x0 y1 cx0 cy1 w2 ((sn0.go hB3 hB3.size).go (at_belowM h2 (by simp)) (at_belowM h2 (by simp)).size) ((sn1.go hB3 hB3.size).go (at_belowM h2 (by simp)) (at_belowM h2 (by simp)).size))
 rintro v w2 v2 h2 hB2 ⟨a2, c2, rfl, hO2⟩;exact EndI.mk fun w9 h9 => ⟨a2, c2, rfl, (hO2.lower h2.below.size).below (at_belowM h9 (by simp))⟩
theorem ways2_any (s : Sp) (hs : s.ins) (ts : List Tbl) (ls : List Tb.Tab) (h2 : 1 <= ls.length) (a : Option Addr) (c : Nat) (w : World) (hP : Tb.Parts w.heap.size w ts ls) (hS : Sl w.heap.size w (.slice a ts.length c) ts) :
 Calls Tryz.prog 68 #[.agg #[.int .i64 s.lo, .bool s.ls, .int .i64 s.hi, .bool s.hs, .bool s.op], .slice a ts.length c] w (Ret w fun v w' => ∃ a' c', v = .tuple #[.slice a' (Zs.within (Tb.p0 ls).2 s).1.length c', .int .i64 (Zs.within (Tb.p0 ls).2 s).2] /\ Own TZ w.heap.size w' (.slice a' (Zs.within (Tb.p0 ls).2 s).1.length c') (Zs.within (Tb.p0 ls).2 s).1) := by
 refine fun_ret 0 w Tryz.func68 (args := [.agg [.val (.int .i64 s.lo), .val (.bool s.ls), .val (.int .i64 s.hi), .val (.bool s.hs), .val (.bool s.op)], .val (.slice a ts.length c)]) rfl rfl ?_;refine NewI.mk fun b1 hb1 => ?_;refine DrawI.go (.tk 0 (.tk 1 (.tk 2 (.tk 3 (.tk 4 (.ev 5 (.tk 6 (.tk 7 (.tk 8 (.tk 9 .done)))))))))) (by kernel_rfl) fun w3 h3 => ?_;have hB3 := at_belowM h3 (by simp);obtain ⟨x0, y0, cx0, cy0, t0, _, sn0⟩ := hP.one 0 (by omega);have hS3 := hS.go hB3 hB3.size;refine hS3.idx (k := 0) t0 fun ad had => ?_;refine hS3.ldx (k := 0) t0 had (Below.refl _ _) (by simp) (i := 1) (c := .slice y0 (Tb.p0 ls).2.length cy0) rfl ?_;apply CallI.use
 focus (exact fun w2 h2 => zswithin_any (Tb.p0 ls).2 s hs y0 cy0 w2 ((sn0.go hB3 hB3.size).go (at_belowM h2 (by simp)) (at_belowM h2 (by simp)).size))
 rintro v w2 v2 h2 hB2 ⟨a2, c2, rfl, hO2⟩;exact EndI.mk fun w9 h9 => ⟨a2, c2, rfl, (hO2.lower h2.below.size).below (at_belowM h9 (by simp))⟩
theorem both_any (fid : FuncId) (w : World) :
 Calls Tryz.prog 64 #[.func (.func fid) #[] #[]] w (Ret w fun v w' => ∃ B, v = .func (.func 105) #[] #[.pointer (some ⟨B, 0, none⟩)] /\ w.heap.size <= B /\ w'.heap[B]? = some (.cells #[.func (.func fid) #[] #[]] Tb.TOf (0, 0))) := by
 refine fun_ret 0 w Tryz.func64 (args := [.val (.func (.func fid) #[] #[])]) rfl rfl ?_;refine NewI.frn fun w1 h1 => ?_;have hbox : (w1.alloc (.cells #[.func (.func fid) #[] #[]] Tb.TOf)).heap[w1.heap.size]? = some (.cells #[.func (.func fid) #[] #[]] Tb.TOf (0, 0)) := World.alloc_heap_new w1 _;exact EndI.mk fun w9 h9 => ⟨w1.heap.size, rfl, h1.below.size, ((at_belowM h9 (by simp)).block _ (lt_cellsM hbox)).trans hbox⟩
namespace Tb
abbrev bothV (B : Nat) : Value := .func (.func 105) #[] #[.pointer (some ⟨B, 0, none⟩)]
def waysF (B1 B2 : Nat) (y : Int) : Option Value := if y = 6 then some (.func (.func 68) #[] #[]) else if y = 4 then some (.func (.func 66) #[] #[]) else if y = 3 then some (bothV B2) else if y = 2 then some (bothV B1) else none
end Tb
theorem ways_any (w : World) :
 Calls Tryz.prog 32 #[] w (Ret w fun v w' => ∃ B B1 B2, v = .map (some B) /\ FMap w' B 4 (Tb.waysF B1 B2) /\ w'.heap[B1]? = some (.cells #[.func (.func 43) #[] #[]] Tb.TOf (0, 0)) /\ w'.heap[B2]? = some (.cells #[.func (.func 65) #[] #[]] Tb.TOf (0, 0))) := by
 refine fun_ret 0 w Tryz.func32 (args := []) rfl rfl ?_;refine ⟨fun w3 h3 => ⟨_, _, run_makeMap _ w3, KpOk.ok h3 ((Below.refl _ _).alloc (Nat.le_refl _) _), ?_⟩⟩;have hms := FMap.made w3;have hb3 : Below w.heap.size w (w3.alloc (.map #[] 0)) := h3.below.alloc h3.below.size _;have hwb : w.heap.size <= w3.heap.size := h3.below.size;generalize w3.alloc (.map #[] 0) = w4 at hms hb3 ⊢;generalize w3.heap.size = B at hms hwb ⊢;apply CallI.use
 focus (exact fun w5 h5 => both_any 43 w5)
 rintro v w5 v5 h5 hB5 ⟨B1, rfl, hge1, hbox1⟩;have hM1 := (hms.at h5 (by simp)).below hB5;have hne1 : B1 ≠ B := by have := (hms.at h5 (by simp)).lt; omega
 have hwk : ∀ {hp : List LB} {r L : List Nat} {V W : World} (h : At ⟨w, w.heap.size, Nat.le_refl _⟩ hp r L V W), r = [] -> ∀ k, some B = some k -> w.heap.size <= k /\ k ∉ r := fun h hr k hk => by injection hk with hk; subst hk; subst hr; exact ⟨hwb, by simp⟩
 refine ⟨fun w6 h6 => ?_⟩;obtain ⟨w7, hrun, hM2, hgr⟩ := (hM1.at h6 (by simp)).put 2 (by omega) (Tb.bothV B1) (by omega);refine ⟨w7, hrun, keep_grown h6 hgr (hwk h6 rfl), ?_⟩;have k1 := (h6.step B1 (lt_cellsM hbox1) (by simp)).trans hbox1;have k1 := (hgr.block B1 (lt_cellsM k1) (fun e => hne1 (Option.some.inj e))).trans k1;apply CallI.use
 focus (exact fun w5 h5 => both_any 65 w5)
 rintro v w8 v8 h8 hB8 ⟨B2, rfl, hge2, hbox2⟩;have hM3 := (hM2.at h8 (by simp)).below hB8;have hne2 : B2 ≠ B := by have := (hM2.at h8 (by simp)).lt; omega
 have k1 := (h8.step B1 (lt_cellsM k1) (by simp)).trans k1;have k1 := (hB8.block B1 (lt_cellsM k1)).trans k1;refine ⟨fun w9 h9 => ?_⟩;obtain ⟨w10, hrun, hM4, hgr⟩ := (hM3.at h9 (by simp)).put 3 (by omega) (Tb.bothV B2) (by omega);refine ⟨w10, hrun, keep_grown h9 hgr (hwk h9 rfl), ?_⟩;have k1 := (h9.step B1 (lt_cellsM k1) (by simp)).trans k1;have k1 := (hgr.block B1 (lt_cellsM k1) (fun e => hne1 (Option.some.inj e))).trans k1;have k2 := (h9.step B2 (lt_cellsM hbox2) (by simp)).trans hbox2;have k2 := (hgr.block B2 (lt_cellsM k2) (fun e => hne2 (Option.some.inj e))).trans k2;refine ⟨fun w11 h11 => ?_⟩;obtain ⟨w12, hrun, hM5, hgr⟩ := (hM4.at h11 (by simp)).put 4 (by omega) (.func (.func 66) #[] #[]) (by omega);refine ⟨w12, hrun, keep_grown h11 hgr (hwk h11 rfl), ?_⟩;have k1 := (h11.step B1 (lt_cellsM k1) (by simp)).trans k1;have k1 := (hgr.block B1 (lt_cellsM k1) (fun e => hne1 (Option.some.inj e))).trans k1;have k2 := (h11.step B2 (lt_cellsM k2) (by simp)).trans k2;have k2 := (hgr.block B2 (lt_cellsM k2) (fun e => hne2 (Option.some.inj e))).trans k2;refine ⟨fun w13 h13 => ?_⟩;obtain ⟨w14, hrun, hM6, hgr⟩ := (hM5.at h13 (by simp)).put 6 (by omega) (.func (.func 68) #[] #[]) (by omega);refine ⟨w14, hrun, keep_grown h13 hgr (hwk h13 rfl), ?_⟩;have k1 := (h13.step B1 (lt_cellsM k1) (by simp)).trans k1;have k1 := (hgr.block B1 (lt_cellsM k1) (fun e => hne1 (Option.some.inj e))).trans k1;have k2 := (h13.step B2 (lt_cellsM k2) (by simp)).trans k2;have k2 := (hgr.block B2 (lt_cellsM k2) (fun e => hne2 (Option.some.inj e))).trans k2;exact EndI.mk fun w15 h15 => ⟨B, B1, B2, rfl, hM6.at h15 (by simp), (h15.step B1 (lt_cellsM k1) (by simp)).trans k1, (h15.step B2 (lt_cellsM k2) (by simp)).trans k2⟩
set_option maxHeartbeats 2000000 in
theorem tnew_any (k : Int) (hk : 0 <= k /\ k <= 255) (s : Sp) (hs : s.ins) (zones : Int) (ts : List Tbl) (ls : List Tb.Tab) (a : Option Addr) (c : Nat) (w : World) (hP : Tb.Parts w.heap.size w ts ls) (hS : Sl w.heap.size w (.slice a ts.length c) ts) :
 Calls Tryz.prog 11 #[.int .u8 k, .agg #[.int .i64 s.lo, .bool s.ls, .int .i64 s.hi, .bool s.hs, .bool s.op], .slice a ts.length c, .int .i64 zones] w (Ret w fun v w' => ∃ a' c', v = .tuple #[.slice a' (Tb.new k s ls zones).1.length c', .int .i64 (Tb.new k s ls zones).2] /\ Own TZ w.heap.size w' (.slice a' (Tb.new k s ls zones).1.length c') (Tb.new k s ls zones).1) := by
 refine fun_ret 0 w Tryz.func11 (args := [.val (.int .u8 k), .agg [.val (.int .i64 s.lo), .val (.bool s.ls), .val (.int .i64 s.hi), .val (.bool s.hs), .val (.bool s.op)], .val (.slice a ts.length c), .val (.int .i64 zones)]) rfl rfl ?_;have st := Stay.first (w := w)
 have hlen : ts.length = ls.length := hP.1;refine NewI.mk fun b1 hb1 => ?_;unfold Tb.new;apply CallI.use1
 focus (exact fun w2 h2 => tasked_any zones ts ls a c w2 (hP.st (st.at h2)) (hS.st (st.at h2)))
 intro w2 v2 h2 hB2;have st := st.nx h2 hB2;refine Branch.mk (fun h1 => ?_) (fun h1 => ?_)
 ·rw [if_pos (of_decide_eq_true h1)]
  exact EndI.mk fun w9 h9 => ⟨_, _, rfl, Own.nil⟩
 rw [if_neg (of_decide_eq_false h1)];apply CallI.use
 focus (exact fun w3 h3 => ways_any w3)
 rintro v w3 v3 h3 hB3 ⟨B, B1, B2, rfl, hM, hx1, hx2⟩;have st := st.nx h3 hB3;have hnf : ∀ k : Int, Tb.known k = false -> ¬ k = 2 /\ ¬ k = 3 /\ ¬ k = 4 /\ ¬ k = 6 := fun k h => by
  unfold Tb.known at h;simp at h;omega
 by_cases hkn : Tb.known k = true
 case neg =>
  have hkn : Tb.known k = false := by simpa using hkn
  obtain ⟨k2, k3, k4, k6⟩ := hnf k hkn;have e0 : Tb.waysF B1 B2 k = none := by
   unfold Tb.waysF;rw [if_neg k6, if_neg k4, if_neg k3, if_neg k2]
  have e1 : Tb.shape k s ls.length = false := by unfold Tb.shape; rw [hkn]; rfl
  rw [if_pos e1];refine ⟨fun w4 h4 => ⟨_, _, (hM.at h4 (by simp)).look k hk, KpOk.ok h4 (Below.refl _ _), ?_⟩⟩;rw [e0]
  repeat (first | (refine Branch.no rfl ?_) | (refine Branch.yes rfl ?_))
  exact EndI.mk fun w9 h9 => ⟨_, _, rfl, Own.nil⟩
 have hkk : k = 6 \/ k = 2 \/ k = 3 \/ k = 4 := by
  unfold Tb.known at hkn;simp at hkn;omega
 rcases hkk with rfl | rfl | rfl | rfl;have e0 : Tb.waysF B1 B2 6 = some (.func (.func 68) #[] #[]) := rfl;refine ⟨fun w4 h4 => ⟨_, _, (hM.at h4 (by simp)).look 6 (by omega), KpOk.ok h4 (Below.refl _ _), ?_⟩⟩;rw [e0];have st := (st.at h4);have sh : Tb.shape 6 s ls.length = (decide (ls.length = 1) && decide (Tr.ival s = 0)) := by unfold Tb.shape Tb.known; simp
 repeat (first | (refine Branch.no rfl ?_) | (refine Branch.yes rfl ?_))
 refine Branch.mk (fun c1 => ?_) (fun c1 => ?_)
 ·have c1 : ¬ ls.length = 1 := by have := of_decide_eq_true c1; omega
  rw [if_pos (show Tb.shape 6 s ls.length = false by rw [sh, decide_eq_false c1]; rfl)]
  repeat (first | (refine Branch.no rfl ?_) | (refine Branch.yes rfl ?_))
  exact EndI.mk fun w9 h9 => ⟨_, _, rfl, Own.nil⟩
 have c1 : ls.length = 1 := by have := of_decide_eq_false c1; omega
 apply CallI.use1
 focus (exact fun w5 h5 => interval_any s w5)
 intro w5 v5 h5 hB5;have st := st.nx h5 hB5;refine Branch.mk (fun c2 => ?_) (fun c2 => ?_)
 ·have c2 : ¬ Tr.ival s = 0 := of_decide_eq_true c2
  rw [if_pos (show Tb.shape 6 s ls.length = false by rw [sh, decide_eq_true c1, decide_eq_false c2]; rfl)]
  repeat (first | (refine Branch.no rfl ?_) | (refine Branch.yes rfl ?_))
  exact EndI.mk fun w9 h9 => ⟨_, _, rfl, Own.nil⟩
 have c2 : Tr.ival s = 0 := by simpa using c2
 rw [if_neg (show ¬ Tb.shape 6 s ls.length = false by rw [sh, decide_eq_true c1, decide_eq_true c2]; decide)]
 repeat (first | (refine Branch.no rfl ?_) | (refine Branch.yes rfl ?_))
 refine Need.mk Tryz.call68 ?_;apply CallI.use
 focus (exact fun w6 h6 => ways2_any s hs ts ls (by omega) a c w6 (hP.st (st.at h6)) (hS.st (st.at h6)))
 rintro v w6 v6 h6 hB6 ⟨a6, c6, rfl, hO6⟩;have st := st.nx h6 hB6;have hway : Tb.way 6 s ls = Zs.within (Tb.p0 ls).2 s := rfl;rw [hway];have hO6 := hO6.lower h6.below.size;generalize Zs.within (Tb.p0 ls).2 s = X at hO6 ⊢;rotate_left;have e0 : Tb.waysF B1 B2 2 = some (Tb.bothV B1) := rfl;refine ⟨fun w4 h4 => ⟨_, _, (hM.at h4 (by simp)).look 2 (by omega), KpOk.ok h4 (Below.refl _ _), ?_⟩⟩;rw [e0];have st := (st.at h4);have sh : Tb.shape 2 s ls.length = (decide (ls.length = 2) && decide (s = Tb.sp0)) := by unfold Tb.shape Tb.known; simp
 repeat (first | (refine Branch.no rfl ?_) | (refine Branch.yes rfl ?_))
 refine Branch.mk (fun c1 => ?_) (fun c1 => ?_)
 ·have c1 : ¬ ls.length = 2 := by have := of_decide_eq_true c1; omega
  rw [if_pos (show Tb.shape 2 s ls.length = false by rw [sh, decide_eq_false c1]; rfl)]
  repeat (first | (refine Branch.no rfl ?_) | (refine Branch.yes rfl ?_))
  exact EndI.mk fun w9 h9 => ⟨_, _, rfl, Own.nil⟩
 have c1 : ls.length = 2 := by have := of_decide_eq_false c1; omega
 refine GenV.to (fun w => run_neq_spG _ _ s Tb.sp0 w) fun w5 h5 => ?_;have st := st.next h5 (by simp) (Below.refl _ _)
 refine Branch.mk (fun c2 => ?_) (fun c2 => ?_)
 ·have c2 : ¬ s = Tb.sp0 := of_decide_eq_true c2
  rw [if_pos (show Tb.shape 2 s ls.length = false by rw [sh, decide_eq_true c1, decide_eq_false c2]; rfl)];exact EndI.mk fun w9 h9 => ⟨_, _, rfl, Own.nil⟩
 have c2 : s = Tb.sp0 := by simpa using c2
 rw [if_neg (show ¬ Tb.shape 2 s ls.length = false by rw [sh, decide_eq_true c1, decide_eq_true c2]; decide)];refine Need.mk Tryz.call105 ?_;apply CallI.use
 focus (exact fun w6 h6 => both1_any 43 Zs.or Tryz.call43 (fun l m a b ca cb w h1 h2 => zsor_any l m a b ca cb w h1 h2) s ts ls (by omega) a c B1 w6 (hP.st (st.at h6)) (hS.st (st.at h6)) ((((st.at h6)).get (X := v3) (by simp)).block _ (lt_cellsM hx1) |>.trans hx1))
 rintro v w6 v6 h6 hB6 ⟨a6, c6, rfl, hO6⟩;have st := st.nx h6 hB6;have hway : Tb.way 2 s ls = Zs.or (Tb.p0 ls).2 (Tb.p1 ls).2 := rfl;rw [hway];have hO6 := hO6.lower h6.below.size;generalize Zs.or (Tb.p0 ls).2 (Tb.p1 ls).2 = X at hO6 ⊢;rotate_left;have e0 : Tb.waysF B1 B2 3 = some (Tb.bothV B2) := rfl;refine ⟨fun w4 h4 => ⟨_, _, (hM.at h4 (by simp)).look 3 (by omega), KpOk.ok h4 (Below.refl _ _), ?_⟩⟩;rw [e0];have st := (st.at h4);have sh : Tb.shape 3 s ls.length = (decide (ls.length = 2) && decide (s = Tb.sp0)) := by unfold Tb.shape Tb.known; simp
 repeat (first | (refine Branch.no rfl ?_) | (refine Branch.yes rfl ?_))
 refine Branch.mk (fun c1 => ?_) (fun c1 => ?_)
 ·have c1 : ¬ ls.length = 2 := by have := of_decide_eq_true c1; omega
  rw [if_pos (show Tb.shape 3 s ls.length = false by rw [sh, decide_eq_false c1]; rfl)]
  repeat (first | (refine Branch.no rfl ?_) | (refine Branch.yes rfl ?_))
  exact EndI.mk fun w9 h9 => ⟨_, _, rfl, Own.nil⟩
 have c1 : ls.length = 2 := by have := of_decide_eq_false c1; omega
 refine GenV.to (fun w => run_neq_spG _ _ s Tb.sp0 w) fun w5 h5 => ?_;have st := st.next h5 (by simp) (Below.refl _ _)
 refine Branch.mk (fun c2 => ?_) (fun c2 => ?_)
 ·have c2 : ¬ s = Tb.sp0 := of_decide_eq_true c2
  rw [if_pos (show Tb.shape 3 s ls.length = false by rw [sh, decide_eq_true c1, decide_eq_false c2]; rfl)];exact EndI.mk fun w9 h9 => ⟨_, _, rfl, Own.nil⟩
 have c2 : s = Tb.sp0 := by simpa using c2
 rw [if_neg (show ¬ Tb.shape 3 s ls.length = false by rw [sh, decide_eq_true c1, decide_eq_true c2]; decide)];refine Need.mk Tryz.call105 ?_;apply CallI.use
 focus (exact fun w6 h6 => both1_any 65 Zs.and Tryz.call65 (fun l m a b ca cb w h1 h2 => zsand_any l m a b ca cb w h1 h2) s ts ls (by omega) a c B2 w6 (hP.st (st.at h6)) (hS.st (st.at h6)) ((((st.at h6)).get (X := v3) (by simp)).block _ (lt_cellsM hx2) |>.trans hx2))
 rintro v w6 v6 h6 hB6 ⟨a6, c6, rfl, hO6⟩;have st := st.nx h6 hB6;have hway : Tb.way 3 s ls = Zs.and (Tb.p0 ls).2 (Tb.p1 ls).2 := rfl;rw [hway];have hO6 := hO6.lower h6.below.size;generalize Zs.and (Tb.p0 ls).2 (Tb.p1 ls).2 = X at hO6 ⊢;rotate_left;have e0 : Tb.waysF B1 B2 4 = some (.func (.func 66) #[] #[]) := rfl;refine ⟨fun w4 h4 => ⟨_, _, (hM.at h4 (by simp)).look 4 (by omega), KpOk.ok h4 (Below.refl _ _), ?_⟩⟩;rw [e0];have st := (st.at h4);have sh : Tb.shape 4 s ls.length = (decide (ls.length = 2) && decide (s = Tb.sp0)) := by unfold Tb.shape Tb.known; simp
 repeat (first | (refine Branch.no rfl ?_) | (refine Branch.yes rfl ?_))
 refine Branch.mk (fun c1 => ?_) (fun c1 => ?_)
 ·have c1 : ¬ ls.length = 2 := by have := of_decide_eq_true c1; omega
  rw [if_pos (show Tb.shape 4 s ls.length = false by rw [sh, decide_eq_false c1]; rfl)]
  repeat (first | (refine Branch.no rfl ?_) | (refine Branch.yes rfl ?_))
  exact EndI.mk fun w9 h9 => ⟨_, _, rfl, Own.nil⟩
 have c1 : ls.length = 2 := by have := of_decide_eq_false c1; omega
 refine GenV.to (fun w => run_neq_spG _ _ s Tb.sp0 w) fun w5 h5 => ?_;have st := st.next h5 (by simp) (Below.refl _ _)
 refine Branch.mk (fun c2 => ?_) (fun c2 => ?_)
 ·have c2 : ¬ s = Tb.sp0 := of_decide_eq_true c2
  rw [if_pos (show Tb.shape 4 s ls.length = false by rw [sh, decide_eq_true c1, decide_eq_false c2]; rfl)];exact EndI.mk fun w9 h9 => ⟨_, _, rfl, Own.nil⟩
 have c2 : s = Tb.sp0 := by simpa using c2
 rw [if_neg (show ¬ Tb.shape 4 s ls.length = false by rw [sh, decide_eq_true c1, decide_eq_true c2]; decide)];refine Need.mk Tryz.call66 ?_;apply CallI.use
 focus (exact fun w6 h6 => ways1_any s ts ls (by omega) a c w6 (hP.st (st.at h6)) (hS.st (st.at h6)))
 rintro v w6 v6 h6 hB6 ⟨a6, c6, rfl, hO6⟩;have st := st.nx h6 hB6;have hway : Tb.way 4 s ls = Zs.comp (Tb.p0 ls).1 (Tb.p1 ls).2 := rfl;rw [hway];have hO6 := hO6.lower h6.below.size;generalize Zs.comp (Tb.p0 ls).1 (Tb.p1 ls).2 = X at hO6 ⊢;rotate_left
 all_goals
  have hcp := fun (w : World) => capped_any X.1 X.2 zones a6 c6 w;obtain ⟨l, e⟩ := X;simp only at hcp hO6 ⊢;unfold Tb.capped
  by_cases h7 : e ≠ 0 \/ zones < (l.length : Int)
  ·simp only [if_pos h7] at hcp ⊢
   apply CallI.use1
   focus (exact fun w7 h7 => hcp w7)
   intro w7 v7 h8 hB7;exact EndI.mk fun w9 h9 => ⟨_, _, rfl, Own.nil⟩
  ·simp only [if_neg h7] at hcp ⊢
   apply CallI.use1
   focus (exact fun w7 h7 => hcp w7)
   intro w7 v7 h8 hB7;exact EndI.mk fun w9 h9 => ⟨_, _, rfl, ((hO6.below (at_belowM h8 (by simp))).below hB7).below (at_belowM h9 (by simp))⟩
namespace Rg
end Rg
namespace Tr
def mayI (s : Sp) : Bool := !(s.op && (decide (s.hi ≠ 0) || s.hs)) && (decide (0 <= s.lo) && (decide (s.lo < 288230376151711744) && (decide (0 <= s.hi) && decide (s.hi < 288230376151711744))))
def emp (s : Sp) : Bool := !s.op && (decide (s.hi <= s.lo) && (decide (s.hi < s.lo) || (s.ls || s.hs)))
theorem ival_ref (s : Sp) : ival s = if mayI s = false then 8 else if emp s = true then 162 else 0 := by
 obtain ⟨lo, ls, hi, hs, op⟩ := s;unfold ival mayI emp fitN;cases ls <;> cases hs <;> cases op <;> simp <;> (repeat' split) <;> first | rfl | omega
end Tr
theorem rmayint16_any (s : Sp) (w : World) : Calls Tryz.prog 97 #[.agg #[.int .i64 s.lo, .bool s.ls, .int .i64 s.hi, .bool s.hs, .bool s.op]] w fun e w' => e = .returned (.bool (Tr.mayI s)) /\ Below w.heap.size w w' := by
 refine fun_eq 0 w Tryz.func97 (args := [.agg [.val (.int .i64 s.lo), .val (.bool s.ls), .val (.int .i64 s.hi), .val (.bool s.hs), .val (.bool s.op)]]) rfl rfl ?_;obtain ⟨lo, ls, hi, hs, op⟩ := s;unfold Tr.mayI
 repeat' (first | (refine Branch.mk (fun hb => ?_) (fun hb => ?_)) | (refine NewI.mk fun nb hnb => ?_))
 all_goals (refine EndI.mk fun w9 h9 => ?_)
 all_goals (simp_all <;> omega)
theorem rempty16_any (s : Sp) (w : World) : Calls Tryz.prog 98 #[.agg #[.int .i64 s.lo, .bool s.ls, .int .i64 s.hi, .bool s.hs, .bool s.op]] w fun e w' => e = .returned (.bool (Tr.emp s)) /\ Below w.heap.size w w' := by
 refine fun_eq 0 w Tryz.func98 (args := [.agg [.val (.int .i64 s.lo), .val (.bool s.ls), .val (.int .i64 s.hi), .val (.bool s.hs), .val (.bool s.op)]]) rfl rfl ?_;obtain ⟨lo, ls, hi, hs, op⟩ := s;unfold Tr.emp
 repeat' (first | (refine Branch.mk (fun hb => ?_) (fun hb => ?_)) | (refine NewI.mk fun nb hnb => ?_))
 all_goals (refine EndI.mk fun w9 h9 => ?_)
 all_goals (simp_all <;> omega)
theorem rinterval16_any (s : Sp) (w : World) : Calls Tryz.prog 57 #[.agg #[.int .i64 s.lo, .bool s.ls, .int .i64 s.hi, .bool s.hs, .bool s.op]] w fun e w' => e = .returned (.int .i64 (Tr.ival s)) /\ Below w.heap.size w w' := by
 refine fun_eq 0 w Tryz.func57 (args := [.agg [.val (.int .i64 s.lo), .val (.bool s.ls), .val (.int .i64 s.hi), .val (.bool s.hs), .val (.bool s.op)]]) rfl rfl ?_;rw [Tr.ival_ref];refine NewI.mk fun b1 hb1 => ?_;refine CallI.to1 (fun w => rmayint16_any s w) fun w2 => ?_;refine Branch.mk (fun h1 => ?_) (fun h1 => ?_)
 ·rw [if_pos (by simpa using h1)]
  exact EndI.mk fun w9 h9 => rfl
 rw [if_neg (by simpa using h1)];refine CallI.to1 (fun w => rempty16_any s w) fun w2 => ?_;refine Branch.mk (fun h2 => ?_) (fun h2 => ?_)
 ·rw [if_pos h2]
  exact EndI.mk fun w9 h9 => rfl
 rw [if_neg (by rw [h2]; decide)];exact EndI.mk fun w9 h9 => rfl
theorem rin24_any (l m : List Int) (hl : l.length <= 400000) (hm : m.length <= 400000) (a b : Option Addr) (ca cb : Nat) (w : World) (hS : Sl w.heap.size w (.slice a l.length ca) l) (hT : Sl w.heap.size w (.slice b m.length cb) m) :
 Calls Tryz.prog 45 #[.slice a l.length ca, .slice b m.length cb] w fun e w' => e = .returned (.bool (decide ((Rg.andI l m).length = l.length))) /\ Below w.heap.size w w' := by
 refine fun_eq 0 w Tryz.func45 (args := [.val (.slice a l.length ca), .val (.slice b m.length cb)]) rfl rfl ?_;have st := Stay.first (w := w)
 apply CallI.use
 focus (exact fun w1 h1 => rand14_any l m hl hm a b ca cb w1 (hS.st (st.at h1)) (hT.st (st.at h1)))
 rintro v w1 v1 h1 hB1 hO1;have st := st.nx h1 hB1;obtain ⟨a1, c1, rfl⟩ := hO1.form;exact EndI.mk fun w9 h9 => by simp only [Int.natCast_inj]
namespace Tb
open Ky Cl
theorem lists_take {ls : List Tab} {k : Nat} {x : Tab} (h : ls[k]? = some x) : lists (ls.take (k + 1)) = lists (ls.take k) ++ x.1 ++ x.2 := by
 unfold lists;rw [List.take_add_one, h, List.flatMap_append];simp
theorem lists_le (ls : List Tab) (k : Nat) : (lists (ls.take k)).length <= (lists ls).length := by
 conv => rhs; rw [<- List.take_append_drop k ls]
 unfold lists;rw [List.flatMap_append, List.length_append];omega
theorem lists_i64 {ls : List Tab} (h : ∀ x, x ∈ ls -> (∀ z, z ∈ x.1 -> Zo.i64 z) /\ ∀ z, z ∈ x.2 -> Zo.i64 z) : ∀ z, z ∈ lists ls -> Zo.i64 z := fun z hz => by
 unfold lists at hz;obtain ⟨x, hx, hz⟩ := List.mem_flatMap.1 hz;rcases List.mem_append.1 hz with hz | hz
 ·exact (h x hx).1 z hz
 ·exact (h x hx).2 z hz
theorem lists_len {ls : List Tab} (h1 : ls.length <= 10) (h2 : big ls = false) : (lists ls).length <= 800 := by
 have key : ∀ l : List Tab, (∀ x, x ∈ l -> x.1.length <= 40 /\ x.2.length <= 40) -> (lists l).length <= 80 * l.length := by
  intro l
  induction l with
  | nil => intro _; simp [lists]
  | cons x l ih =>
    intro h;have := ih fun y hy => h y (by simp [hy]);have hx := h x (by simp);unfold lists at this ⊢;simp only [List.flatMap_cons, List.length_append, List.length_cons];omega
 have := key ls fun x hx => by
  unfold big at h2;have h6 := List.any_eq_false.1 h2 x (by rw [List.take_of_length_le h1]; exact hx);simp only [Bool.or_eq_true, decide_eq_true_eq, not_or] at h6;omega
 omega
end Tb
set_option maxHeartbeats 1000000 in
theorem rlists24_any (ts : List Tbl) (ls : List Tb.Tab) (htot : (Tb.lists ls).length <= 100000) (a : Option Addr) (c : Nat) (w : World) (hP : Tb.Parts w.heap.size w ts ls) (hS : Sl w.heap.size w (.slice a ts.length c) ts) :
 Calls Tryz.prog 15 #[.slice a ts.length c] w (Ret w fun v w' => ∃ a' c', v = .slice a' (Tb.lists ls).length c' /\ Own TZ w.heap.size w' (.slice a' (Tb.lists ls).length c') (Tb.lists ls)) := by
 refine fun_ret 0 w Tryz.func15 (args := [.val (.slice a ts.length c)]) rfl rfl ?_;have hlen := hP.1;obtain ⟨_, _, hfe, hcap1, hcap2, _⟩ := hS.form;injection hfe with _ _ hfe;subst hfe;unfold maxLen at hcap2;refine LoopI.invC (α := Nat × World × Value) (fun y => [(4, .val (.int .i64 y.1)), (3, .val y.2.2)]) (fun y => y.2.1) (fun y => y.1 <= ts.length /\ Below w.heap.size w y.2.1 /\ Own TZ w.heap.size y.2.1 y.2.2 (Tb.lists (ls.take y.1))) (fun y => ts.length - y.1) ?_ ?_
 ·intro w3 h3
  exact ⟨(0, w3, .slice none 0 0), Cov.au rfl rfl rfl rfl rfl, rfl, Nat.zero_le _, h3.below, Own.nil⟩
 rintro ⟨k, U, tv⟩ ⟨hk, hU, hO⟩;simp only at hk hU hO;refine Branch.mk (fun hc => ?_) (fun hc => ?_)
 ·have hlt : k < ts.length := by have := of_decide_eq_true hc; simp only at this; omega
  obtain ⟨x, y, cx, cy, t0, sa, sn⟩ := hP.one k (by omega);have hl := List.getElem?_eq_getElem (l := ls) (i := k) (by omega);generalize ls[k]'(by omega) = l at hl;rw [hl] at t0 sa sn;simp only [Option.getD_some] at t0 sa sn;have hft := Tb.lists_take hl;have hfl := Tb.lists_le ls (k + 1);rw [hft, List.length_append, List.length_append] at hfl;have hSU := hS.go hU hU.size;refine hSU.idx t0 fun ad had => ?_;refine hSU.ldx t0 had (Below.refl _ _) (by simp) (i := 0) (c := .slice x l.1.length cx) rfl ?_;refine GenN.app (α := Zn) elZ (Tb.lists (ls.take k)) l.1 w.heap.size (fun w5 h5 => hO.at h5 (by simp)) (fun w5 h5 => (sa.go h5.below h5.below.size).src) (by unfold maxLen; omega) (by omega) (fun w5 h5 => h5.below.size) (fun w5 w6 h5 hg => keep_grown h5 hg (fun k hk => ⟨(hO.lt k hk).1, by simp⟩)) fun v1 w5 w6 h5 hg hO1 => ?_;have hB6 : Below w.heap.size w w6 := grown_belowM h5.below hg (fun k hk => (hO.lt k hk).1) h5.below.size;have hS6 := hS.go hB6 hB6.size;refine hS6.idx t0 fun ad2 had2 => ?_;refine hS6.ldx t0 had2 (Below.refl _ _) (by simp) (i := 1) (c := .slice y l.2.length cy) rfl ?_;refine GenN.app (α := Zn) elZ (Tb.lists (ls.take k) ++ l.1) l.2 w.heap.size (fun w7 h7 => hO1.at h7 (by simp)) (fun w7 h7 => (sn.go h7.below h7.below.size).src) (by unfold maxLen; simp; omega) (by simp; omega) (fun w7 h7 => h7.below.size) (fun w7 w8 h7 hg => keep_grown h7 hg (fun k hk => ⟨(hO1.lt k hk).1, by simp⟩)) fun v2 w7 w8 h7 hg2 hO2 => ?_;rw [<- hft] at hO2;refine Need.ok (EndI.mk fun w9 h9 => ⟨(k + 1, w9, v2), Cov.au rfl rfl rfl rfl rfl, rfl, ⟨hlt, h9.below, hO2.below (at_belowM h9 (by simp))⟩, by simp only; omega⟩)
 ·have hge : k = ts.length := by have := of_decide_eq_false hc; simp only at this; omega
  subst hge;rw [List.take_of_length_le (by omega)] at hO;obtain ⟨a', c', rfl⟩ := hO.form;exact EndI.mk fun w9 h9 => ⟨_, _, rfl, hO.at h9 (by simp)⟩
set_option maxHeartbeats 1000000 in
open Cl Ky in
theorem rmay24_any (x : Tb.Tab) (hi : (∀ z, z ∈ x.1 -> Zo.i64 z) /\ ∀ z, z ∈ x.2 -> Zo.i64 z) (long : Int) (hl : 1 <= long /\ long <= 6) (hc : (∀ z, z ∈ x.1 -> z.c <= 2 * long + 1) /\ ∀ z, z ∈ x.2 -> z.c <= 2 * long + 1) (a b : Option Addr) (ca cb : Nat) (w : World) (hS : Sl w.heap.size w (.slice a x.1.length ca) x.1) (hT : Sl w.heap.size w (.slice b x.2.length cb) x.2) :
 Calls Tryz.prog 17 #[.agg #[.slice a x.1.length ca, .slice b x.2.length cb], .int .i64 long] w fun e w' => e = .returned (.bool (Tb.fine long x)) /\ Below w.heap.size w w' := by
 refine fun_eq 0 w Tryz.func17 (args := [.agg [.val (.slice a x.1.length ca), .val (.slice b x.2.length cb)], .val (.int .i64 long)]) rfl rfl ?_;have st := Stay.first (w := w)
 refine NewI.mk fun b1 hb1 => ?_;unfold Tb.fine;apply CallI.use1
 focus (exact fun w2 h2 => rmaylist_any x.1 hi.1 a ca w2 (hS.st (st.at h2)))
 intro w2 v2 h2 hB2;have st := st.nx h2 hB2;refine Branch.mk (fun h1 => ?_) (fun h1 => ?_)
 ·have h1 : Tb.may x.1 = false := by simpa using h1
  exact EndI.mk fun w9 h9 => by rw [h1]; rfl
 have h1 : Tb.may x.1 = true := by simpa using h1
 apply CallI.use1
 focus (exact fun w3 h3 => rmaylist_any x.2 hi.2 b cb w3 (hT.st (st.at h3)))
 intro w3 v3 h3 hB3;have st := st.nx h3 hB3;rw [h1];refine Branch.mk (fun h2 => ?_) (fun h2 => ?_)
 ·have h2 : Tb.may x.2 = false := by simpa using h2
  exact EndI.mk fun w9 h9 => by rw [h2]; rfl
 have h2 : Tb.may x.2 = true := by simpa using h2
 rw [h2];have ga := Tb.may_good hl h1 hc.1;have gn := Tb.may_good hl h2 hc.2;have la := ga.len hl;have ln := gn.len hl;have ra := Tb.rl_le x.1 hl;have rn := Tb.rl_le x.2 hl;have eo : ∀ l : List Zn, Rg.up long (Rg.inL l long) = rl l long := fun _ => rfl;have hxa := fun (w : World) hs => rlist14_any x.1 ga.chk (by omega) long (by omega) a ca w hs;have hxn := fun (w : World) hs => rlist14_any x.2 gn.chk (by omega) long (by omega) b cb w hs;rw [eo] at hxa hxn;refine DrawI.go (.tk 0 (.tk 1 (.tk 2 (.tk 4 (.tk 5 (.tk 6 (.ev 3 (.ev 7 (.ev 8 (.tk 9 .done)))))))))) (by kernel_rfl) fun w4 h4 => ?_;have st := st.at h4;generalize rl x.1 long = xa at *;generalize rl x.2 long = xn at *;apply CallI.use
 focus (exact fun w5 h5 => hxn w5 (hT.st (st.at h5)))
 rintro v w5 v5 h5 hB5 hO5;have st := st.nx h5 hB5;apply CallI.use
 focus (exact fun w6 h6 => hxa w6 (hS.st (st.at h6)))
 rintro v w6 v6 h6 hB6 hO6;have st := st.nx h6 hB6;obtain ⟨a5, c5, rfl⟩ := hO5.form;obtain ⟨a6, c6, rfl⟩ := hO6.form;apply CallI.use1
 focus (exact fun w7 h7 => rin24_any xn xa (by omega) (by omega) a5 a6 c5 c6 w7 ((hO5.st (st.at h7)).sl) ((hO6.st (st.at h7)).sl))
 intro w7 v7 h7 hB7;have st := st.nx h7 hB7;exact EndI.mk fun w9 h9 => rfl
set_option maxHeartbeats 2000000 in
theorem rcheck24_any (k : Int) (s : Sp) (ts : List Tbl) (ls : List Tb.Tab) (zones long : Int) (hl : 1 <= long /\ long <= 6) (hi : ∀ x, x ∈ ls -> (∀ z, z ∈ x.1 -> Zo.i64 z) /\ ∀ z, z ∈ x.2 -> Zo.i64 z) (hc : ∀ x, x ∈ ls -> (∀ z, z ∈ x.1 -> z.c <= 2 * long + 1) /\ ∀ z, z ∈ x.2 -> z.c <= 2 * long + 1) (a : Option Addr) (c : Nat) (w : World) (hP : Tb.Parts w.heap.size w ts ls) (hS : Sl w.heap.size w (.slice a ts.length c) ts) :
 Calls Tryz.prog 28 #[.int .u8 k, .agg #[.int .i64 s.lo, .bool s.ls, .int .i64 s.hi, .bool s.hs, .bool s.op], .slice a ts.length c, .int .i64 zones, .int .i64 long] w fun e w' => e = .returned (.int .i64 (Tb.check k s ls zones long)) /\ Below w.heap.size w w' := by
 refine fun_eq 0 w Tryz.func28 (args := [.val (.int .u8 k), .agg [.val (.int .i64 s.lo), .val (.bool s.ls), .val (.int .i64 s.hi), .val (.bool s.hs), .val (.bool s.op)], .val (.slice a ts.length c), .val (.int .i64 zones), .val (.int .i64 long)]) rfl rfl ?_;have hlen := hP.1;obtain ⟨_, _, hfe, hcap1, hcap2, _⟩ := hS.form;injection hfe with _ _ hfe;subst hfe;unfold maxLen at hcap2;refine NewI.mk fun b1 hb1 => ?_;have hb1' : w.heap.size <= b1 := hb1;unfold Tb.check;refine Branch.mk (fun h1 => ?_) (fun h1 => ?_)
 ·rw [if_pos (.inl (of_decide_eq_true h1))]
  exact EndI.mk fun w9 h9 => rfl
 have h1 := of_decide_eq_false h1;refine Branch.mk (fun h2 => ?_) (fun h2 => ?_)
 ·rw [if_pos (.inr (of_decide_eq_true h2))]
  exact EndI.mk fun w9 h9 => rfl
 have h2 := of_decide_eq_false h2;rw [if_neg (fun h => h.elim h1 h2)];refine LoopI.invC (α := Nat × World) (fun y => [(11, .val (.int .i64 y.1))]) (fun y => y.2) (fun y => y.1 <= ts.length /\ Below w.heap.size w y.2 /\ ∀ x, x ∈ ls.take y.1 -> Tb.fine long x = true) (fun y => ts.length - y.1) ?_ ?_
 ·intro w3 h3
  exact ⟨(0, w3), Cov.au rfl rfl rfl rfl rfl, rfl, Nat.zero_le _, h3.below, by simp⟩
 rintro ⟨j, V⟩ ⟨hj, hV, hall⟩;simp only at hj hV hall;refine Branch.mk (fun h3 => ?_) (fun h3 => ?_)
 ·have hlt : j < ts.length := by have := of_decide_eq_true h3; simp only at this; omega
  obtain ⟨x, y, cx, cy, t0, sa, sn⟩ := hP.one j (by omega);have hg := List.getElem?_eq_getElem (l := ls) (i := j) (by omega);have hm := List.getElem_mem (l := ls) (n := j) (by omega);generalize ls[j]'(by omega) = l at hg hm;rw [hg] at t0 sa sn;simp only [Option.getD_some] at t0 sa sn;have hSV := hS.go hV hV.size;refine hSV.idx t0 fun ad had => ?_;refine hSV.ld t0 had (Below.refl _ _) (by simp) ?_;apply CallI.use1
  focus (exact fun w5 h5 => rmay24_any l (hi l hm) long hl (hc l hm) x y cx cy w5 (sa.go h5.below h5.below.size) (sn.go h5.below h5.below.size))
  intro w5 v5 h5 hB5;refine Branch.mk (fun h4 => ?_) (fun h4 => ?_)
  ·rw [if_pos (List.any_eq_true.2 ⟨l, hm, h4⟩)]
   exact EndI.mk fun w9 h9 => rfl
  ·have h4 : Tb.fine long l = true := by simpa using h4
   refine Need.ok (EndI.mk fun w9 h9 => ⟨(j + 1, w9), Cov.au rfl rfl rfl rfl rfl, rfl, ⟨hlt, h9.below, fun q hq => ?_⟩, by simp only; omega⟩);rw [List.take_add_one, hg] at hq;rcases List.mem_append.1 hq with hq | hq
   ·exact hall q hq
   ·simp at hq; rw [hq]; exact h4
 ·have hge : j = ts.length := by have := of_decide_eq_false h3; simp only at this; omega
  subst hge;rw [List.take_of_length_le (by omega)] at hall
  rw [if_neg (by
   rw [List.any_eq_true];rintro ⟨x, hx, hf⟩;rw [hall x hx] at hf; cases hf)]
  have sh6 : Tb.shape 6 s ls.length = (decide (ls.length = 1) && decide (Tr.ival s = 0)) := by unfold Tb.shape Tb.known; simp
  have sh3 : ∀ k : Int, k = 2 \/ k = 3 \/ k = 4 -> Tb.shape k s ls.length = (decide (ls.length = 2) && decide (s = Tb.sp0)) := fun k h => by
   unfold Tb.shape Tb.known;rcases h with rfl | rfl | rfl <;> simp
  have hbS : ∀ {hp : List LB} {r L : List Nat} {W X : World}, True := trivial
  by_cases hk6 : k = 6
  ·subst hk6
   rw [sh6];refine Branch.yes rfl ?_;refine Branch.no rfl ?_;refine Branch.no rfl ?_;refine Branch.no rfl ?_;refine Branch.mk (fun c1 => ?_) (fun c1 => ?_)
   ·have c1 : ¬ ls.length = 1 := by have := of_decide_eq_true c1; omega
    rw [decide_eq_false c1];exact EndI.mk fun w9 h9 => rfl
   have c1 : ls.length = 1 := by have := of_decide_eq_false c1; omega
   rw [decide_eq_true c1];refine Branch.yes rfl ?_;refine CallI.to1 (fun w => rinterval16_any s w) fun w2 => ?_;refine Branch.mk (fun c2 => ?_) (fun c2 => ?_)
   ·have c2 : ¬ Tr.ival s = 0 := of_decide_eq_true c2
    rw [decide_eq_false c2];exact EndI.mk fun w9 h9 => rfl
   have c2 : Tr.ival s = 0 := by simpa using c2
   rw [decide_eq_true c2];refine Branch.no rfl ?_;exact EndI.mk fun w9 h9 => rfl
  by_cases hk3 : k = 2 \/ k = 3 \/ k = 4
  ·rw [sh3 k hk3]
   refine Branch.no (decide_eq_false hk6) ?_;refine Branch.no (decide_eq_false (by omega)) ?_;refine Branch.no (decide_eq_false (by omega)) ?_;refine Branch.no (decide_eq_false (by omega)) ?_;refine Branch.mk (fun c1 => ?_) (fun c1 => ?_)
   ·have c1 : ¬ ls.length = 2 := by have := of_decide_eq_true c1; omega
    rw [decide_eq_false c1];exact EndI.mk fun w9 h9 => rfl
   have c1 : ls.length = 2 := by have := of_decide_eq_false c1; omega
   rw [decide_eq_true c1];refine Branch.no (decide_eq_false hk6) ?_;refine Branch.yes (decide_eq_true hk6) ?_;refine GenV.to (fun w => run_neq_spG _ _ s Tb.sp0 w) fun u0 q0 => ?_;refine Branch.mk (fun c2 => ?_) (fun c2 => ?_)
   ·have c2 : ¬ s = Tb.sp0 := of_decide_eq_true c2
    rw [decide_eq_false c2];exact EndI.mk fun w9 h9 => rfl
   have c2 : s = Tb.sp0 := by simpa using c2
   rw [decide_eq_true c2];exact EndI.mk fun w9 h9 => rfl
  ·have sh0 : Tb.shape k s ls.length = false := by
    unfold Tb.shape Tb.known;rw [decide_eq_false (by omega : ¬ k = 2), decide_eq_false (by omega : ¬ k = 3), decide_eq_false (by omega : ¬ k = 4), decide_eq_false hk6]
    rfl
   rw [sh0];refine Branch.no (decide_eq_false hk6) ?_;refine Branch.mk (fun c1 => ?_) (fun c1 => ?_)
   ·exact EndI.mk fun w9 h9 => rfl
   refine Branch.mk (fun c2 => ?_) (fun c2 => ?_)
   ·exact EndI.mk fun w9 h9 => rfl
   have c1 := of_decide_eq_false c1;have c2 := of_decide_eq_false c2;refine Branch.yes (decide_eq_true (by omega)) ?_;exact EndI.mk fun w9 h9 => rfl
set_option maxHeartbeats 2000000 in
open Ky Cl in
theorem rnew24_any (k : Int) (s : Sp) (ts : List Tbl) (ls : List Tb.Tab) (long : Int) (hl : 1 <= long /\ long <= 6) (hk : Tb.shape k s ls.length = true) (hg : ∀ x, x ∈ ls -> Tb.GT long x) (a : Option Addr) (c : Nat) (w : World) (hP : Tb.Parts w.heap.size w ts ls) (hS : Sl w.heap.size w (.slice a ts.length c) ts) :
 Calls Tryz.prog 29 #[.int .u8 k, .agg #[.int .i64 s.lo, .bool s.ls, .int .i64 s.hi, .bool s.hs, .bool s.op], .slice a ts.length c, .int .i64 long] w (Ret w fun v w' => Own TKi w.heap.size w' v (Tb.wayR k s ls long)) := by
 refine fun_ret 0 w Tryz.func29 (args := [.val (.int .u8 k), .agg [.val (.int .i64 s.lo), .val (.bool s.ls), .val (.int .i64 s.hi), .val (.bool s.hs), .val (.bool s.op)], .val (.slice a ts.length c), .val (.int .i64 long)]) rfl rfl ?_;have st := Stay.first (w := w)
 have hl16 : 1 <= long /\ long <= 16 := by omega
 have h1 : 1 <= ls.length := by rcases Tb.shape_one hk with ⟨_, h, _⟩ | ⟨_, h, _⟩ <;> omega
 refine NewI.mk fun b1 hb1 => ?_;obtain ⟨x0, y0, cx0, cy0, t0, sa0, sn0⟩ := hP.one 0 (by omega);have g0 := hg _ (Tb.p0_mem h1);have ln0 := g0.n.len hl;have la0 := g0.a.len hl;have rn0 := Tb.rl_le (Tb.p0 ls).2 hl;have ra0 := Tb.rl_le (Tb.p0 ls).1 hl;have eo : ∀ l : List Zn, Rg.up long (Rg.inL l long) = rl l long := fun _ => rfl;have hn0 := fun (w : World) hs => rlist14_any (Tb.p0 ls).2 g0.n.chk (by omega) long hl16 y0 cy0 w hs;have ha0 := fun (w : World) hs => rlist14_any (Tb.p0 ls).1 g0.a.chk (by omega) long hl16 x0 cx0 w hs;rw [eo] at hn0 ha0;refine hS.idx (k := 0) t0 fun ad had => ?_;refine hS.ldx (k := 0) t0 had (Below.refl _ _) (by simp <;> omega) (i := 1) (c := .slice y0 (Tb.p0 ls).2.length cy0) rfl ?_;apply CallI.use
 focus (exact fun w2 h2 => hn0 w2 (sn0.st (st.at h2)))
 rintro v w2 v2 h2 hB2 hO2;have st := st.nx h2 hB2;obtain ⟨a2, c2, rfl⟩ := hO2.form;unfold Tb.wayR;rcases Tb.shape_one hk with ⟨rfl, hn, hs, _⟩ | ⟨hk3, hn, rfl⟩
 ·refine Branch.yes rfl ?_
  rw [if_pos rfl];apply CallI.use
  focus (exact fun w3 h3 => rwithin14_any (rl (Tb.p0 ls).2 long) (by omega) s hs long hl16 (may_rl g0.n.chk hl16) a2 c2 w3 ((hO2.st (st.at h3)).sl))
  rintro v w3 v3 h3 hB3 hO3;have st := st.nx h3 hB3;exact EndI.mk fun w9 h9 => (hO3.lower h3.below.size).below (at_belowM h9 (by simp))
 ·rw [if_neg (by omega)]
  refine Branch.no (decide_eq_false (by omega)) ?_;obtain ⟨x1, y1, cx1, cy1, t1, sa1, sn1⟩ := hP.one 1 (by omega);have g1 := hg _ (Tb.p1_mem (ls := ls) (by omega));have ln1 := g1.n.len hl;have rn1 := Tb.rl_le (Tb.p1 ls).2 hl;have hn1 := fun (w : World) hs => rlist14_any (Tb.p1 ls).2 g1.n.chk (by omega) long hl16 y1 cy1 w hs;rw [eo] at hn1;have hSv := hS.st st;refine hSv.idx (k := 1) t1 fun ad2 had2 => ?_;refine hSv.ldx (k := 1) t1 had2 (Below.refl _ _) (by simp <;> omega) (i := 1) (c := .slice y1 (Tb.p1 ls).2.length cy1) rfl ?_;apply CallI.use
  focus (exact fun w4 h4 => hn1 w4 (sn1.st (st.at h4)))
  rintro v w4 v4 h4 hB4 hO4;have st := st.nx h4 hB4;obtain ⟨a4, c4, rfl⟩ := hO4.form;rcases hk3 with rfl | rfl | rfl
  ·rw [if_pos rfl]
   refine Branch.yes rfl ?_;apply CallI.use
   focus (exact fun w5 h5 => ror14_any (rl (Tb.p0 ls).2 long) (rl (Tb.p1 ls).2 long) (by omega) (by omega) a2 a4 c2 c4 w5 ((hO2.st (st.at h5)).sl) ((hO4.st (st.at h5)).sl))
   rintro v w5 v5 h5 hB5 hO5;have st := st.nx h5 hB5;exact EndI.mk fun w9 h9 => (hO5.lower h5.below.size).below (at_belowM h9 (by simp))
  ·rw [if_neg (by decide), if_pos rfl]
   refine Branch.no rfl ?_;refine Branch.yes rfl ?_;apply CallI.use
   focus (exact fun w5 h5 => rand14_any (rl (Tb.p0 ls).2 long) (rl (Tb.p1 ls).2 long) (by omega) (by omega) a2 a4 c2 c4 w5 ((hO2.st (st.at h5)).sl) ((hO4.st (st.at h5)).sl))
   rintro v w5 v5 h5 hB5 hO5;have st := st.nx h5 hB5;exact EndI.mk fun w9 h9 => (hO5.lower h5.below.size).below (at_belowM h9 (by simp))
  ·rw [if_neg (by decide), if_neg (by decide)]
   refine Branch.no rfl ?_;refine Branch.no rfl ?_;have hSv := hS.st st;refine hSv.idx (k := 0) t0 fun ad3 had3 => ?_;refine hSv.ldx (k := 0) t0 had3 (Below.refl _ _) (by simp <;> omega) (i := 0) (c := .slice x0 (Tb.p0 ls).1.length cx0) rfl ?_;apply CallI.use
   focus (exact fun w5 h5 => ha0 w5 (sa0.st (st.at h5)))
   rintro v w5 v5 h5 hB5 hO5;have st := st.nx h5 hB5;obtain ⟨a5, c5, rfl⟩ := hO5.form;apply CallI.use
   focus (exact fun w6 h6 => rcomp14_any (rl (Tb.p0 ls).1 long) (rl (Tb.p1 ls).2 long) (by omega) (by omega) long hl16 a5 a4 c5 c4 w6 ((hO5.st (st.at h6)).sl) ((hO4.st (st.at h6)).sl))
   rintro v w6 v6 h6 hB6 hO6;have st := st.nx h6 hB6;exact EndI.mk fun w9 h9 => (hO6.lower h6.below.size).below (at_belowM h9 (by simp))
set_option maxHeartbeats 1000000 in
theorem great24_any (ts : List Tbl) (ls : List Tb.Tab) (l : List Zn) (hi : ∀ x, x ∈ ls -> (∀ z, z ∈ x.1 -> Zo.i64 z) /\ ∀ z, z ∈ x.2 -> Zo.i64 z) (hil : ∀ z, z ∈ l -> Zo.i64 z) (a b : Option Addr) (c cb : Nat) (w : World) (hP : Tb.Parts w.heap.size w ts ls) (hS : Sl w.heap.size w (.slice a ts.length c) ts) (hT : Sl w.heap.size w (.slice b l.length cb) l) :
 Calls Tryz.prog 10 #[.slice a ts.length c, .slice b l.length cb] w fun e w' => e = .returned (.bool (Tb.great ls l)) /\ Below w.heap.size w w' := by
 refine fun_eq 0 w Tryz.func10 (args := [.val (.slice a ts.length c), .val (.slice b l.length cb)]) rfl rfl ?_;have hlen := hP.1;obtain ⟨_, _, hfe, hcap1, hcap2, _⟩ := hS.form;injection hfe with _ _ hfe;subst hfe;unfold maxLen at hcap2;refine LoopI.invC (α := Nat × World) (fun y => [(5, .val (.int .i64 y.1))]) (fun y => y.2) (fun y => y.1 <= ts.length /\ y.1 <= 10 /\ Below w.heap.size w y.2 /\ ∀ x, x ∈ ls.take y.1 -> ¬ 40 < x.1.length /\ ¬ 40 < x.2.length) (fun y => ts.length - y.1) ?_ ?_
 ·intro w3 h3
  exact ⟨(0, w3), Cov.au rfl rfl rfl rfl rfl, rfl, Nat.zero_le _, Nat.zero_le _, h3.below, by simp⟩
 rintro ⟨j, V⟩ ⟨hj, hj10, hV, hall⟩;simp only at hj hj10 hV hall;have fin : ∀ (hend : j = ts.length \/ j = 10), Tb.big ls = false := fun hend => by
  unfold Tb.big;rw [List.any_eq_false];intro x hx;have hm : x ∈ ls.take j := by
   rcases hend with rfl | rfl
   ·rw [List.take_of_length_le (by omega)]; exact List.mem_of_mem_take hx
   ·exact hx
  have := hall x hm;simp only [Bool.or_eq_true, decide_eq_true_eq, not_or];exact this
 by_cases hcond : j < ts.length /\ j < 10
 ·obtain ⟨hlt, hlt10⟩ := hcond
  refine Branch.yes (decide_eq_true (by simp only; omega)) ?_;refine Branch.yes (decide_eq_true (by simp only; omega)) ?_;obtain ⟨x, y, cx, cy, t0, sa, sn⟩ := hP.one j (by omega);have hg := List.getElem?_eq_getElem (l := ls) (i := j) (by omega);have hm := List.getElem_mem (l := ls) (n := j) (by omega);generalize ls[j]'(by omega) = q at hg hm;rw [hg] at t0 sa sn;simp only [Option.getD_some] at t0 sa sn;have hmt : q ∈ ls.take 10 := by
   refine List.mem_of_getElem? (i := j) ?_;rw [List.getElem?_take, if_pos hlt10]; exact hg
  have yes : 40 < q.1.length \/ 40 < q.2.length -> Tb.great ls l = true := fun h => by
   have : Tb.big ls = true := List.any_eq_true.2 ⟨q, hmt, by simpa using h⟩;unfold Tb.great;rw [this]; rfl
  have hSV := hS.go hV hV.size;refine hSV.idx t0 fun ad had => ?_;refine hSV.ldx t0 had (Below.refl _ _) (by simp) (i := 0) (c := .slice x q.1.length cx) rfl ?_;refine Branch.mk (fun h5 => ?_) (fun h5 => ?_)
  ·rw [yes (.inl (by have := of_decide_eq_true h5; omega))]
   exact EndI.mk fun w9 h9 => rfl
  have h5 : ¬ 40 < q.1.length := by have := of_decide_eq_false h5; omega
  refine hSV.idx t0 fun ad2 had2 => ?_;refine hSV.ldx t0 had2 (Below.refl _ _) (by simp) (i := 1) (c := .slice y q.2.length cy) rfl ?_;refine Branch.mk (fun h6 => ?_) (fun h6 => ?_)
  ·rw [yes (.inr (by have := of_decide_eq_true h6; omega))]
   exact EndI.mk fun w9 h9 => rfl
  have h6 : ¬ 40 < q.2.length := by have := of_decide_eq_false h6; omega
  refine Need.ok (EndI.mk fun w9 h9 => ⟨(j + 1, w9), Cov.au rfl rfl rfl rfl rfl, rfl, ⟨hlt, hlt10, h9.below, fun q' hq => ?_⟩, by simp only; omega⟩);rw [List.take_add_one, hg] at hq;rcases List.mem_append.1 hq with hq | hq
  ·exact hall q' hq
  ·simp at hq; rw [hq]; exact ⟨h5, h6⟩
 have hbig := fin (by omega)
 by_cases hjl : j < ts.length
 refine Branch.yes (decide_eq_true (by simp only; omega)) ?_;refine Branch.no (decide_eq_false (by simp only; omega)) ?_;rotate_left;refine Branch.no (decide_eq_false (by simp only; omega)) ?_
 all_goals
  unfold Tb.great;rw [hbig];refine Branch.mk (fun c1 => ?_) (fun c1 => ?_)
  ·have c1 : 10 < ls.length := by have := of_decide_eq_true c1; omega
   rw [decide_eq_true c1];exact EndI.mk fun w9 h9 => rfl
  have c1 : ¬ 10 < ls.length := by have := of_decide_eq_false c1; omega
  rw [decide_eq_false c1];refine Branch.mk (fun c2 => ?_) (fun c2 => ?_)
  ·have c2 : 40 < l.length := by have := of_decide_eq_true c2; omega
   rw [decide_eq_true c2];exact EndI.mk fun w9 h9 => rfl
  have c2 : ¬ 40 < l.length := by have := of_decide_eq_false c2; omega
  rw [decide_eq_false c2];apply CallI.use
  focus (exact fun w5 h5 => rlists24_any ts ls (by have := Tb.lists_len (by omega) hbig; omega) a c w5 (hP.go h5.below h5.below.size) (hS.go h5.below h5.below.size))
  rintro v w5 v5 h5 hB5 ⟨a5, c5, rfl, hO5⟩;apply CallI.use1
  focus (exact fun w6 h6 => rlong24_any (Tb.lists ls) (Tb.lists_i64 hi) a5 c5 w6 (Sl.go hO5.sl (at_belowM h6 (by simp)) (at_belowM h6 (by simp)).size))
  intro w6 v6 h6 hB6;refine Branch.mk (fun c3 => ?_) (fun c3 => ?_)
  ·have c3 : 6 < Tb.lng 0 (Tb.lists ls) := of_decide_eq_true c3
   rw [decide_eq_true c3];exact EndI.mk fun w9 h9 => rfl
  have c3 : ¬ 6 < Tb.lng 0 (Tb.lists ls) := of_decide_eq_false c3;rw [decide_eq_false c3];apply CallI.use1
  focus (exact fun w7 h7 => rlong24_any l hil b cb w7 (hT.go h7.below h7.below.size))
  intro w7 v7 h7 hB7;exact EndI.mk fun w9 h9 => rfl
end
end Go.Proofs.YtanhnllkccldhaaGreat
