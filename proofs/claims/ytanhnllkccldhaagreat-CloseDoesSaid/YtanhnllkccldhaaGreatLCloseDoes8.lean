/-
  Merged texts of this law (each with its own head below).
-/
import Derived.Test.YtanhnllkccldhaaGreatLCloseDoes7
import Derived.Test.YtanhnllkccldhaaGreatLCloseDoes5
import Derived.Test.YtanhnllkccldhaaGreatLCloseDoes6
import Derived.Test.YtanhnllkccldhaaGreatLCloseDoes3
import Derived.Test.YtanhnllkccldhaaGreatLCloseDoes4
import Derived.Lib.SliceRun
namespace Go.Proofs.YtanhnllkccldhaaGreat
set_option linter.unusedVariables false
set_option linter.unusedSimpArgs false
set_option maxRecDepth 100000
open Go.RowKit Go.Proofs.YtanhnllkccldhaaGreat.Eng Enc
namespace Rg
def btw1 (A B : List Bool) (p : Pt) (long : Int) (n : Nat) : Bool := decide (0 ≤ number ⟨p.t, six n⟩ long) && decide (0 ≤ number ⟨six n, p.u⟩ long) && A[(number ⟨p.t, six n⟩ long).toNat]?.getD false && B[(number ⟨six n, p.u⟩ long).toNat]?.getD false
def btwB (A B : List Bool) (p : Pt) (long : Int) (k : Nat) : Bool := (List.range k).any fun n => btw1 A B p long n
theorem btwB_step (A B : List Bool) (p : Pt) (long : Int) (k : Nat) : btwB A B p long (k + 1) = (btwB A B p long k || btw1 A B p long k) := by
 unfold btwB
 rw [List.range_succ, List.any_append]
 simp
theorem btwB_found {A B : List Bool} {p : Pt} {long : Int} {k m : Nat} (h : btw1 A B p long k = true) (hk : k < m) : btwB A B p long m = true := List.any_eq_true.2 ⟨k, List.mem_range.2 hk, h⟩
end Rg
theorem rbetween_any (A B : List Bool) (long : Int) (hl : 1 ≤ long ∧ long ≤ 16) (M : Nat) (hM : (Rg.many long).1 = M) (hA : A.length = M) (hB : B.length = M) (p : Pt) (hp : p.ins) (ht : p.t.ok = true) (hu : p.u.ok = true) (a b : Option Addr) (ca cb : Nat) (w : World) (hSA : Sl w.heap.size w (.slice a A.length ca) A) (hSB : Sl w.heap.size w (.slice b B.length cb) B) :
 Calls Tryz.prog 96 #[.slice a A.length ca, .slice b B.length cb, .agg #[.int .i64 p.t.num, .int .i64 p.t.den, .int .i64 p.u.num, .int .i64 p.u.den], .int .i64 long] w fun e w' => e = .returned (.bool (Rg.btwB A B p long (6 * long + 1).toNat)) ∧ Below w.heap.size w w' := by
 refine fun_eq 0 w Tryz.func96 (args := [.val (.slice a A.length ca), .val (.slice b B.length cb), .agg [.val (.int .i64 p.t.num), .val (.int .i64 p.t.den), .val (.int .i64 p.u.num), .val (.int .i64 p.u.den)], .val (.int .i64 long)]) rfl rfl ?_
 obtain ⟨K, hK⟩ : ∃ K : Nat, 6 * long + 1 = K := ⟨(6 * long + 1).toNat, by omega⟩
 rw [hK, Int.toNat_natCast]
 refine NewI.mk fun b1 hb1 => ?_
 refine LoopI.invC (α := Nat × World) (fun y => [(9, .val (.int .i64 y.1))]) (fun y => y.2) (fun y => y.1 ≤ K ∧ Below w.heap.size w y.2 ∧ Rg.btwB A B p long y.1 = false) (fun y => K - y.1) ?_ ?_
 ·intro w1 h1
  exact ⟨(0, w1), Cov.au rfl rfl rfl rfl rfl, rfl, Nat.zero_le _, h1.below, rfl⟩
 rintro ⟨k, V⟩ ⟨hk, hV, hno⟩
 simp only at hk hV hno
 refine Need.mk (by simp only [inK]; omega) ?_
 refine Branch.mk (fun z1 => ?_) (fun z1 => ?_)
 ·have hkK : k < K := by have := of_decide_eq_true z1; simp only at this; omega
  have hk97 : k < 97 := by omega
  obtain ⟨s1, s2, s3, s4⟩ := Rg.six_at hk97
  have s5 := Rg.six_ins hk97
  have hstep := Rg.btwB_step A B p long k
  rw [hno, Bool.false_or] at hstep
  apply CallI.use1
  focus (exact fun w5 h5 => rsix03_any k hk97 w5)
  intro w5 v5 h5 hB5
  refine NewI.mk fun b2 hb2 => ?_
  have cX := fun w => rnumber14_any ⟨p.t, Rg.six k⟩ long ⟨hp.1, s5⟩ ht s2 hl w
  have cY := fun w => rnumber14_any ⟨Rg.six k, p.u⟩ long ⟨s5, hp.2⟩ s2 hu hl w
  have rX := Rg.rep_of (p := ⟨p.t, Rg.six k⟩) hl
  have rY := Rg.rep_of (p := ⟨Rg.six k, p.u⟩) hl
  unfold Rg.btw1 at hstep
  have hfound := Rg.btwB_found (A := A) (B := B) (p := p) (long := long) (k := k) (m := K)
  unfold Rg.btw1 at hfound
  generalize Rg.number ⟨p.t, Rg.six k⟩ long = X at cX hstep rX hfound
  generalize Rg.number ⟨Rg.six k, p.u⟩ long = Y at cY hstep rY hfound
  apply CallI.use1
  focus (exact fun w6 h6 => cX w6)
  intro w6 v6 h6 hB6
  apply CallI.use1
  focus (exact fun w7 h7 => cY w7)
  intro w7 v7 h7 hB7
  have hV7 : Below w.heap.size w v7 := h7.below.trans (hB7.mono h7.below.size)
  have hSA7 := hSA.go hV7 hV7.size
  have hSB7 := hSB.go hV7 hV7.size
  refine Branch.mk (fun c1 => ?_) (fun c1 => ?_)
  ·have c1' : 0 ≤ X := of_decide_eq_true c1
   obtain ⟨x, rfl⟩ : ∃ x : Nat, X = x := ⟨X.toNat, by omega⟩
   have hxM : x < A.length := by have := (rX c1').2.2.2.1; omega
   refine Branch.mk (fun c2 => ?_) (fun c2 => ?_)
   ·have c2' : 0 ≤ Y := of_decide_eq_true c2
    obtain ⟨y, rfl⟩ : ∃ y : Nat, Y = y := ⟨Y.toNat, by omega⟩
    have hyM : y < B.length := by have := (rY c2').2.2.2.1; omega
    have gx := List.getElem?_eq_getElem hxM
    have gy := List.getElem?_eq_getElem hyM
    generalize A[x] = ax at gx
    generalize B[y] = bx at gy
    rw [decide_eq_true c1', decide_eq_true c2', Int.toNat_natCast, Int.toNat_natCast, gx, gy] at hstep hfound
    simp only [Bool.true_and, Option.getD_some] at hstep hfound
    refine hSA7.idx gx fun ad had => ?_
    refine hSA7.ldv gx rfl had (Below.refl _ _) (by simp) ?_
    refine Branch.mk (fun c3 => ?_) (fun c3 => ?_)
    ·subst c3
     refine hSB7.idx gy fun ad2 had2 => ?_
     refine hSB7.ldv gy rfl had2 (Below.refl _ _) (by simp) ?_
     refine Branch.mk (fun c4 => ?_) (fun c4 => ?_)
     ·subst c4
      exact EndI.mk fun w9 h9 => by rw [hfound rfl hkK]
     ·subst c4
      exact Need.mk (by simp only [inK]; omega) (EndI.mk fun w9 h9 => ⟨(k + 1, w9), Cov.au rfl rfl rfl rfl rfl, rfl, ⟨hkK, h9.below, by rw [hstep]; rfl⟩, by simp only; omega⟩)
    ·subst c3
     exact Need.mk (by simp only [inK]; omega) (EndI.mk fun w9 h9 => ⟨(k + 1, w9), Cov.au rfl rfl rfl rfl rfl, rfl, ⟨hkK, h9.below, by rw [hstep]; rfl⟩, by simp only; omega⟩)
   ·rw [c2] at hstep
    exact Need.mk (by simp only [inK]; omega) (EndI.mk fun w9 h9 => ⟨(k + 1, w9), Cov.au rfl rfl rfl rfl rfl, rfl, ⟨hkK, h9.below, by rw [hstep]; simp⟩, by simp only; omega⟩)
  ·rw [c1] at hstep
   exact Need.mk (by simp only [inK]; omega) (EndI.mk fun w9 h9 => ⟨(k + 1, w9), Cov.au rfl rfl rfl rfl rfl, rfl, ⟨hkK, h9.below, by rw [hstep]; simp⟩, by simp only; omega⟩)
 ·have hge : k = K := by have := of_decide_eq_false z1; simp only at this; omega
  subst hge
  exact EndI.mk fun w9 h9 => by rw [hno]
namespace Rg
def done (f : Int → Bool) (M k : Nat) : List Bool := (List.range M).map fun n : Nat => decide (n < k) && f n
theorem done_len (f : Int → Bool) (M k : Nat) : (done f M k).length = M := by simp [done]
theorem done_get {f : Int → Bool} {M k n : Nat} (h : n < M) : (done f M k)[n]? = some (decide (n < k) && f n) := by
 unfold done
 rw [List.getElem?_map, List.getElem?_range h]; rfl
theorem done_zero (f : Int → Bool) (M : Nat) : done f M 0 = List.replicate M false := by
 unfold done
 simp only [Nat.not_lt_zero, decide_false, Bool.false_and, List.map_const', List.length_range]
theorem done_step (f : Int → Bool) {M k : Nat} (hk : k < M) : done f M (k + 1) = (done f M k).set k (f k) := by
 apply List.ext_getElem?
 intro n
 by_cases hn : n < M
 ·rw [done_get hn]
  by_cases e : k = n
  ·subst e
   rw [List.getElem?_set_self (by rw [done_len]; exact hn), decide_eq_true (by omega : k < k + 1)]
   simp
  ·rw [List.getElem?_set_ne e, done_get hn]
   congr 2
   rw [decide_eq_decide]; omega
 ·rw [List.getElem?_eq_none (by rw [done_len]; omega), List.getElem?_eq_none (by rw [List.length_set, done_len]; omega)]
theorem done_pick (f : Int → Bool) {long : Int} {M : Nat} (hM : (many long).1 = M) : pkTo (done f M M) M = up long f := by
 unfold pkTo up
 rw [hM, Int.toNat_natCast]
 congr 1
 apply List.filter_congr
 intro n hn
 have hn' := List.mem_range.1 hn
 rw [done_get hn', decide_eq_true hn']
 simp
end Rg
theorem Rg.pt_fine {n long : Int} (hl : 1 ≤ long ∧ long ≤ 16) (hn : 0 ≤ n ∧ n < 3 * (2 * long + 1) * (2 * long + 1)) : (Rg.pt n long).ins ∧ (Rg.pt n long).t.ok = true ∧ (Rg.pt n long).u.ok = true := by
 have hs : Rg.sides long = 2 * long + 1 := rfl
 have ht : 0 ≤ n / 3 / Rg.sides long ∧ n / 3 / Rg.sides long ≤ 1000 := by
  have h1 : 0 ≤ n / 3 / Rg.sides long := Int.ediv_nonneg (by omega) (by omega)
  have h2 : n / 3 / Rg.sides long < Rg.sides long := by
   refine Int.ediv_lt_of_lt_mul (by omega) ?_
   have : n < 3 * (Rg.sides long * Rg.sides long) := by rw [← Int.mul_assoc]; exact hn.2
   omega
  omega
 have hu : 0 ≤ n / 3 % Rg.sides long ∧ n / 3 % Rg.sides long ≤ 1000 := by
  have h1 := Int.emod_nonneg (n / 3) (b := Rg.sides long) (by omega)
  have h2 := Int.emod_lt_of_pos (n / 3) (b := Rg.sides long) (by omega)
  omega
 have h3 := Rg.parts_three (r := n % 3) (by omega)
 have hp : (0 ≤ (Rg.parts (n % 3)).1 ∧ (Rg.parts (n % 3)).1 ≤ 10) ∧ (0 ≤ (Rg.parts (n % 3)).2.1 ∧ (Rg.parts (n % 3)).2.1 ≤ 10) ∧ (1 ≤ (Rg.parts (n % 3)).2.2 ∧ (Rg.parts (n % 3)).2.2 ≤ 10) := by
  rcases (by omega : n % 3 = 0 ∨ n % 3 = 1 ∨ n % 3 = 2) with h | h | h <;> rw [h] <;> simp [Rg.parts]
 exact ⟨⟨Rg.time_ins ht hp.1 hp.2.2, Rg.time_ins hu hp.2.1 hp.2.2⟩, (Rg.time_doc ht h3.1).2, (Rg.time_doc hu h3.2).2⟩
theorem rcomp14_any (a b : List Int) (ha : a.length ≤ 1000000) (hb : b.length ≤ 1000000) (long : Int) (hl : 1 ≤ long ∧ long ≤ 16) (pa pb : Option Addr) (ca cb : Nat) (w : World) (hSA : Sl w.heap.size w (.slice pa a.length ca) a) (hSB : Sl w.heap.size w (.slice pb b.length cb) b) :
 Calls Tryz.prog 56 #[.slice pa a.length ca, .slice pb b.length cb, .int .i64 long] w (Ret w fun v w' => Own TKi w.heap.size w' v (Rg.up long fun x => (Rg.point x long).2 && Rg.btwB (Rg.mks a (Rg.many long).1.toNat a.length) (Rg.mks b (Rg.many long).1.toNat b.length) (Rg.pt x long) long (6 * long + 1).toNat)) := by
 refine fun_ret 0 w Tryz.func56 (args := [.val (.slice pa a.length ca), .val (.slice pb b.length cb), .val (.int .i64 long)]) rfl rfl ?_
 have st := Stay.first (w := w)
 have hmm := Fr.mul_bd (u := 3 * (2 * long + 1)) (v := 2 * long + 1) (m := 99) (n := 33) (by omega) (by omega) (by omega) (by omega)
 have hmany := Rg.many_doc hl
 obtain ⟨M, hM⟩ : ∃ M : Nat, 3 * (2 * long + 1) * (2 * long + 1) = M := ⟨(3 * (2 * long + 1) * (2 * long + 1)).toNat, by omega⟩
 have hM1 : (Rg.many long).1 = M := by rw [hmany]; exact hM
 have hM4 : M ≤ 3267 := by omega
 have hM0 : 0 < M := by
  have h : 9 * 3 ≤ 3 * (2 * long + 1) * (2 * long + 1) := Int.mul_le_mul (by omega) (by omega) (by omega) (by omega)
  omega
 rw [hM1, Int.toNat_natCast]
 apply CallI.use
 focus (exact fun w2 h2 => rmarks14_any a ha long hl M hM pa ca w2 (hSA.st (st.at h2)))
 rintro v w2 v2 h2 hB2 ⟨ga, cA, rfl, qA1, qA2, qA3, qA4⟩
 have st := st.nx h2 hB2
 apply CallI.use
 focus (exact fun w3 h3 => rmarks14_any b hb long hl M hM pb cb w3 (hSB.st (st.at h3)))
 rintro v w3 v3 h3 hB3 ⟨gb, cB, rfl, qB1, qB2, qB3, qB4⟩
 have st := st.nx h3 hB3
 have hSx := (qA4.sl qA1 qA2).st st
 have hSy := (qB4.sl qB1 qB2).st st
 have hlx := Rg.mks_len a M a.length
 have hly := Rg.mks_len b M b.length
 generalize Rg.mks a M a.length = x at *
 generalize Rg.mks b M b.length = y at *
 apply CallI.use1
 focus (exact fun w4 h4 => rcount14_any long hl w4)
 intro w4 v4 h4 hB4
 have st := st.nx h4 hB4
 rw [hM]
 refine GenV.mks (α := Bool) elBo false infoBo M rfl (by simp [Enc.size]; omega) (by omega) fun v w5 v5 h5 hB5 hOw => ?_
 have st := st.nx h5 hB5
 obtain ⟨ab, cb', rfl⟩ := hOw.form
 have hBk := Rg.done_zero (fun n => (Rg.point n long).2 && Rg.btwB x y (Rg.pt n long) long (6 * long + 1).toNat) M
 have hds := fun k (hk : k < M) => Rg.done_step (fun n => (Rg.point n long).2 && Rg.btwB x y (Rg.pt n long) long (6 * long + 1).toNat) hk
 have hdp := Rg.done_pick (fun n => (Rg.point n long).2 && Rg.btwB x y (Rg.pt n long) long (6 * long + 1).toNat) hM1
 have hdl := fun k => Rg.done_len (fun n => (Rg.point n long).2 && Rg.btwB x y (Rg.pt n long) long (6 * long + 1).toNat) M k
 rw [← hBk] at hOw ⊢
 rw [← hdp]
 generalize hD : Rg.done (fun n => (Rg.point n long).2 && Rg.btwB x y (Rg.pt n long) long (6 * long + 1).toNat) M = D at *
 obtain ⟨g, rfl, hgb, hcb1, hcb2, hRow⟩ := BRow.of hOw (by rw [hdl]; omega)
 have hgw : w.heap.size ≤ g := by have := h5.below.size; simp only at this; omega
 have hg4 : v3.heap.size ≤ g := by
  have := h5.size
  have := h4.size
  have := hB4.size
  omega
 rw [hdl] at hcb1 ⊢
 refine LoopI.invC (α := Nat × World) (fun y => [(10, .val (.int .i64 y.1))]) (fun y => y.2) (fun y => y.1 ≤ M ∧ Below w.heap.size w y.2 ∧ Below v3.heap.size v3 y.2 ∧ BRow y.2 g (D y.1)) (fun y => M - y.1) ?_ ?_
 ·intro w6 h6
  exact ⟨(0, w6), Cov.au rfl rfl rfl rfl rfl, rfl, Nat.zero_le _, h6.below, (st.at h6).get (X := v3) (by simp), hRow.at h6 (by simp)⟩
 rintro ⟨k, V⟩ ⟨hk, hV, hV3, hRk⟩
 simp only at hk hV hV3 hRk
 refine Branch.mk (fun hb => ?_) (fun hb => ?_)
 ·have hlt : k < M := by have := of_decide_eq_true hb; simp only at this; omega
  have hkn : 0 ≤ (k : Int) ∧ (k : Int) < 3 * (2 * long + 1) * (2 * long + 1) := by omega
  obtain ⟨hpi, hpt, hpu⟩ := Rg.pt_fine hl hkn
  have hes := hds k hlt
  have st := Stay.start (w0 := ⟨w, w.heap.size, Nat.le_refl _⟩) hV
  have hgV : g < V.heap.size := hRk.lt
  apply CallI.use1
  focus (exact fun w5 h5 => rof14_any (k : Int) long hl hkn w5)
  intro w6 v6 h6 hB6
  refine NewI.mk fun b2 hb2 => ?_
  have hb2' : v6.heap.size ≤ b2 := hb2
  have hgb2 : b2 ≠ g := by have e1 := h6.size; have e2 := hB6.size; simp only at e1; omega
  have hV6 : Below v3.heap.size v3 v6 := (hV3.trans ((h6.go.trans (hB6.mono h6.size)).mono hV3.size))
  have hR6 := (hRk.at h6 (by simp)).below hB6
  refine Branch.mk (fun c1 => ?_) (fun c1 => ?_)
  ·have hes' := hes
   rw [c1, Bool.true_and] at hes'
   apply CallI.use1
   focus (exact fun w7 h7 => rbetween_any x y long hl M hM1 hlx hly (Rg.pt k long) hpi hpt hpu (some ⟨ga, 0, none⟩) (some ⟨gb, 0, none⟩) cA cB w7 (hSx.go (hV6.trans ((at_belowM h7 (fun x hx => by simp at hx <;> omega)).mono hV6.size)) (Nat.le_trans hV6.size h7.size)) (hSy.go (hV6.trans ((at_belowM h7 (fun x hx => by simp at hx <;> omega)).mono hV6.size)) (Nat.le_trans hV6.size h7.size)))
   intro w7 v7 h7 hB7
   have h7B := at_belowM h7 (fun x hx => by simp at hx <;> omega)
   have hV7 : Below v3.heap.size v3 v7 := (hV6.trans (h7B.mono hV6.size)).trans (hB7.mono (Nat.le_trans hV6.size h7.size))
   have hR7 := (hR6.below h7B).below hB7
   have hb7 : v7.heap.size ≤ b2 ∨ b2 < v7.heap.size := by omega
   generalize Rg.btwB x y (Rg.pt k long) long (6 * long + 1).toNat = bv at *
   refine IdxI.mk ⟨_, ⟨rfl, by omega, by omega⟩, ?_⟩
   refine StoreI.mk fun w8 h8 => ?_
   have h8B := at_belowM h8 (fun x hx => by simp at hx <;> omega)
   have r8 := hR7.below h8B
   rw [show ((⟨g, 0, none⟩ : Addr).add ((k : Int).toNat * 1)) = ⟨g, k, none⟩ by simp [addr_addL]]
   have hfl : k < (D k).length := by rw [hdl]; exact hlt
   refine ⟨⟨⟨_, r8.cell (List.getElem?_eq_getElem hfl)⟩, r8.frozen _⟩, keep_set hgw (by intro q hq; rw [List.mem_singleton.1 hq]; exact hgb2), ?_⟩
   have r9 := r8.set hfl bv
   have B9 : Below w.heap.size w (w8.setCell ⟨g, k, none⟩ (.bool bv)) := h8.below.setCell (p := ⟨g, k, none⟩) hgw _
   have B9' : Below v3.heap.size v3 (w8.setCell ⟨g, k, none⟩ (.bool bv)) := (hV7.trans (h8B.mono hV7.size)).setCell (p := ⟨g, k, none⟩) hg4 _
   generalize w8.setCell ⟨g, k, none⟩ (.bool bv) = w9 at r9 B9 B9'
   rw [← hes'] at r9
   exact Need.mk (by simp only [inK]; omega) (EndI.mk fun w10 h10 => ⟨(k + 1, w10), Cov.au rfl rfl rfl rfl rfl, rfl, ⟨hlt, h10.below, B9'.trans (h10.go.mono B9'.size), r9.at h10 (by simp)⟩, by simp only; omega⟩)
  ·have hes' := hes
   rw [c1, Bool.false_and] at hes'
   refine IdxI.mk ⟨_, ⟨rfl, by omega, by omega⟩, ?_⟩
   refine StoreI.mk fun w8 h8 => ?_
   have h8B := at_belowM h8 (fun x hx => by simp at hx <;> omega)
   have r8 := hR6.below h8B
   rw [show ((⟨g, 0, none⟩ : Addr).add ((k : Int).toNat * 1)) = ⟨g, k, none⟩ by simp [addr_addL]]
   have hfl : k < (D k).length := by rw [hdl]; exact hlt
   refine ⟨⟨⟨_, r8.cell (List.getElem?_eq_getElem hfl)⟩, r8.frozen _⟩, keep_set hgw (by intro q hq; rw [List.mem_singleton.1 hq]; exact hgb2), ?_⟩
   have r9 := r8.set hfl false
   have B9 : Below w.heap.size w (w8.setCell ⟨g, k, none⟩ (.bool false)) := h8.below.setCell (p := ⟨g, k, none⟩) hgw _
   have B9' : Below v3.heap.size v3 (w8.setCell ⟨g, k, none⟩ (.bool false)) := (hV6.trans (h8B.mono hV6.size)).setCell (p := ⟨g, k, none⟩) hg4 _
   generalize w8.setCell ⟨g, k, none⟩ (.bool false) = w9 at r9 B9 B9'
   rw [← hes'] at r9
   exact Need.mk (by simp only [inK]; omega) (EndI.mk fun w10 h10 => ⟨(k + 1, w10), Cov.au rfl rfl rfl rfl rfl, rfl, ⟨hlt, h10.below, B9'.trans (h10.go.mono B9'.size), r9.at h10 (by simp)⟩, by simp only; omega⟩)
 ·have hge : k = M := by have := of_decide_eq_false hb; simp only at this; omega
  subst hge
  have hSl := hRk.sl (c := cb') (by rw [hdl]; exact hcb1) hcb2
  have cP := rpick14_any (D k) (by rw [hdl]; omega) (some ⟨g, 0, none⟩) cb'
  rw [hdl] at cP hSl
  apply CallI.use
  focus (exact fun w6 h6 => cP w6 (hSl.go (at_belowM h6 (by simp)) h6.size))
  rintro v w6 v6 h6 hB6 hO6
  obtain ⟨a6, c6, rfl⟩ := hO6.form
  exact EndI.mk fun w9 h9 => (hO6.lower h6.below.size).below (at_belowM h9 (by simp))
namespace Rg
def mayAt (l : List Int) (long : Int) (k : Nat) : Bool := decide ((askPoint (l[k]?.getD 0) long).2 = 0) && (decide (k = 0) || decide (l[k - 1]?.getD 0 < l[k]?.getD 0))
def mayTo (l : List Int) (long : Int) (k : Nat) : Bool := (List.range k).all fun n => mayAt l long n
def mayL (l : List Int) (long : Int) : Bool := mayTo l long l.length
theorem mayTo_at {l : List Int} {long : Int} {k m : Nat} (h : mayTo l long m = true) (hk : k < m) : mayAt l long k = true := List.all_eq_true.1 h k (List.mem_range.2 hk)
theorem mayTo_in {l : List Int} {long : Int} {m : Nat} (h : mayTo l long m = true) {x : Int} (hx : x ∈ l.take m) : (askPoint x long).2 = 0 := by
 obtain ⟨k, hk⟩ := List.getElem?_of_mem hx
 rw [List.getElem?_take] at hk
 split at hk
 ·rename_i hkm
  have := mayTo_at h hkm
  unfold mayAt at this
  rw [hk] at this
  simp only [Option.getD_some, Bool.and_eq_true, decide_eq_true_eq] at this
  exact this.1
 ·cases hk
end Rg
end Go.Proofs.YtanhnllkccldhaaGreat
namespace Go.Proofs.YtanhnllkccldhaaGreat
set_option linter.unusedVariables false
set_option linter.unusedSimpArgs false
open Go.RowKit Go.Proofs.YtanhnllkccldhaaGreat.Eng Enc
namespace Wn
open Mi Dbm
end Wn
namespace Zs
open Mi Dbm
end Zs
namespace Dbm
end Dbm
namespace Wn
open Mi Dbm
end Wn
end Go.Proofs.YtanhnllkccldhaaGreat
namespace Go.Proofs.YtanhnllkccldhaaGreat
set_option linter.unusedVariables false
set_option linter.unusedSimpArgs false
set_option maxRecDepth 100000
open Go.RowKit Go.Proofs.YtanhnllkccldhaaGreat.Eng Enc
namespace Fr
theorem keeps_no {a b : Rt} (ha : a.ok = true) (hb : b.ok = true) {x : Int} (hx : Bd.may x = true) : (keeps a b x).1 = if x = 9223372036854775807 then true else kept a b x := by
 unfold keeps
 rw [ha, hb, hx]
 simp only [Bool.and_self, if_true]
 split <;> rfl
theorem kept_doc (a b : Rt) (x : Int) : kept a b x = if a.num / a.den - b.num / b.den ≠ x / 2 then decide (a.num / a.den - b.num / b.den < x / 2) else decide (a.num % a.den * b.den < b.num % b.den * a.den) || (decide (a.num % a.den * b.den = b.num % b.den * a.den) && !(Bd.st x)) := by
 unfold kept sign rest
 generalize a.num / a.den - b.num / b.den = n
 generalize x / 2 = c
 generalize a.num % a.den * b.den = p
 generalize b.num % b.den * a.den = q
 by_cases h : n = c
 ·have e : cmpI n c = 0 := by unfold cmpI; split; omega; split; omega; rfl
  rw [if_neg (by rw [e]; decide), if_neg (by omega)]
  unfold cmpI
  by_cases h1 : p < q
  ·rw [if_pos h1]; simp [h1]
  ·rw [if_neg h1]
   by_cases h2 : q < p
   ·rw [if_pos h2]
    have : ¬ p = q := by omega
    simp [h1, this]
   ·rw [if_neg h2]
    have : p = q := by omega
    simp [this]
 ·have e : cmpI n c ≠ 0 := by unfold cmpI; split; decide; split; decide; omega
  rw [if_pos e, if_pos h]
  unfold cmpI
  by_cases h1 : n < c
  ·rw [if_pos h1]; simp [h1]
  ·rw [if_neg h1, if_pos (by omega)]; simp [h1]
end Fr
theorem rkept03_any (a b : Rt) (ha : a.ok = true) (hb : b.ok = true) (ia : a.ins) (ib : b.ins) (x : Int) (hx : Bd.may x = true) (ix : inK .i64 x) (w : World) :
 Calls Tryz.prog 132 #[.agg #[.int .i64 a.num, .int .i64 a.den], .agg #[.int .i64 b.num, .int .i64 b.den], .int .i64 x] w fun e w' => e = .returned (.bool (Fr.keeps a b x).1) ∧ Below w.heap.size w w' := by
 rw [Fr.keeps_no ha hb hx]
 refine fun_eq 0 w Tryz.func132 (args := [.agg [.val (.int .i64 a.num), .val (.int .i64 a.den)], .agg [.val (.int .i64 b.num), .val (.int .i64 b.den)], .val (.int .i64 x)]) rfl rfl ?_
 have o1 := Fr.ok_bd ha
 have o2 := Fr.ok_bd hb
 have ix' := ix
 simp only [inK] at ix'
 have m1 := Fr.mul_bd (u := a.num % a.den) (v := b.den) (m := 1048576) (n := 1048576) (by omega) (by omega) (by omega) (by omega)
 have m2 := Fr.mul_bd (u := b.num % b.den) (v := a.den) (m := 1048576) (n := 1048576) (by omega) (by omega) (by omega) (by omega)
 refine NewI.mk fun b1 hb1 => ?_
 refine NewI.mk fun b2 hb2 => ?_
 refine Branch.mk (fun z1 => ?_) (fun z1 => ?_)
 ·rw [if_pos (of_decide_eq_true z1)]
  exact EndI.mk fun w9 h9 => rfl
 rw [if_neg (of_decide_eq_false z1), Fr.kept_doc]
 refine CallI.to0 (fun w => rnumber_any x ix'.1 ix'.2 w) fun w2 => ?_
 refine DrawI.go (.tk 0 (.tk 1 (.tk 2 (.tk 3 (.tk 5 (.tk 6 (.tk 7 (.tk 8 (.ev 4 (.ev 9 (.tk 10 (.tk 11 .done)))))))))))) (by kernel_rfl) fun w3 h3 => ?_
 refine CallI.to1 (fun w => rlow03_any a.num a.den o1.1 ia.1 w) fun w4 => ?_
 refine CallI.to1 (fun w => rlow03_any b.num b.den o2.1 ib.1 w) fun w5 => ?_
 refine Need.mk (by simp only [inK]; omega) ?_
 refine Branch.mk (fun z2 => ?_) (fun z2 => ?_)
 ·rw [if_pos (of_decide_eq_true z2)]
  exact EndI.mk fun w9 h9 => rfl
 rw [if_neg (of_decide_eq_false z2)]
 refine DrawI.go (.tk 0 (.tk 1 (.tk 2 (.tk 3 (.tk 5 (.tk 6 (.ev 4 (.tk 7 (.tk 8 .done))))))))) (by kernel_rfl) fun w6 h6 => ?_
 refine CallI.to1 (fun w => rpart03_any a.num a.den o1.1 ia.2 w) fun w7 => ?_
 refine Need.mk (by simp only [inK]; omega) ?_
 refine DrawI.go (.tk 0 (.tk 1 (.tk 2 (.tk 3 (.tk 5 (.tk 6 (.ev 4 (.tk 7 (.tk 8 .done))))))))) (by kernel_rfl) fun w8 h8 => ?_
 refine CallI.to1 (fun w => rpart03_any b.num b.den o2.1 ib.2 w) fun w9 => ?_
 refine Need.mk (by simp only [inK]; omega) ?_
 refine Branch.mk (fun z3 => ?_) (fun z3 => ?_)
 ·exact EndI.mk fun w9 h9 => by rw [z3]; rfl
 rw [z3]
 refine Branch.mk (fun z4 => ?_) (fun z4 => ?_)
 ·refine CallI.to0 (fun w => rstrict_any x w) fun w2 => ?_
  exact EndI.mk fun w9 h9 => by rw [z4]; simp
 ·exact EndI.mk fun w9 h9 => by rw [z4]; simp
def Dbm.kp (L : List Int) (M : List Rt) (i j : Nat) : Bool := (Fr.keeps (M[i]?.getD ⟨0, 1⟩) (M[j]?.getD ⟨0, 1⟩) (L[i * 3 + j]?.getD 0)).1
theorem rkept04_any (L : List Int) (hL : L.length = 9) (hm : ∀ q, q < 9 → Bd.may (L[q]?.getD 0) = true ∧ inK .i64 (L[q]?.getD 0)) (t u : Rt) (ht : t.ok = true) (hu : u.ok = true) (it : t.ins) (iu : u.ins) (a b : Option Addr) (ca cb : Nat) (w : World) (hS : Sl w.heap.size w (.slice a L.length ca) L) (hT : Sl w.heap.size w (.slice b 2 cb) [t, u]) :
 Calls Tryz.prog 86 #[.agg #[.int .i64 3, .slice a L.length ca], .slice b 2 cb] w fun e w' => e = .returned (.bool (Dbm.keptL 3 L [t, u])) ∧ Below w.heap.size w w' := by
 have hK : Dbm.keptL 3 L [t, u] = true ↔ ∀ i j, i < 3 → j < 3 → Dbm.kp L [⟨0, 1⟩, t, u] i j = true := Dbm.keptK
 have oz : (⟨0, 1⟩ : Rt).ok = true := by decide
 have iz : (⟨0, 1⟩ : Rt).ins := ⟨by simp [inK], by simp [inK]⟩
 have hM : ∀ i, i < 3 → ∃ x, ([⟨0, 1⟩, t, u] : List Rt)[i]? = some x ∧ x.ok = true ∧ x.ins := fun i hi => by
  rcases (by omega : i = 0 ∨ i = 1 ∨ i = 2) with rfl | rfl | rfl
  ·exact ⟨_, rfl, oz, iz⟩
  ·exact ⟨_, rfl, ht, it⟩
  ·exact ⟨_, rfl, hu, iu⟩
 generalize hKL : Dbm.keptL 3 L [t, u] = KL at hK ⊢
 refine fun_eq 0 w Tryz.func86 (args := [.agg [.val (.int .i64 3), .val (.slice a L.length ca)], .val (.slice b 2 cb)]) rfl rfl ?_
 refine NewI.mk fun b1 hb1 => ?_
 refine NewI.mk fun b2 hb2 => ?_
 refine GenN.appN (α := Rt) elR [⟨0, 1⟩] [t, u] w.heap.size rfl (fun w5 h5 => Own.own (l := [(⟨0, 1⟩ : Rt)]) h5 1 rfl rfl rfl hb2 (n := 1) rfl (by simp [maxLen])) (fun w5 h5 => (hT.go h5.below h5.below.size).src) (by simp) (by simp [maxLen]) (by simp) fun v5 w5 w6 h5 hB5 hO => ?_
 obtain ⟨a5, c5, rfl⟩ := hO.form
 have hw6 : Below w.heap.size w w6 := h5.below.trans (hB5.mono h5.below.size)
 have hO : Own TR w5.heap.size w6 (.slice a5 3 c5) [(⟨0, 1⟩ : Rt), t, u] := hO
 refine LoopI.invC (α := Nat × World) (fun y => [(6, .val (.int .i64 y.1))]) (fun y => y.2) (fun y => y.1 ≤ 3 ∧ Below w.heap.size w y.2 ∧ Own TR w5.heap.size y.2 (.slice a5 3 c5) [(⟨0, 1⟩ : Rt), t, u] ∧ ∀ i j, i < y.1 → j < 3 → Dbm.kp L [⟨0, 1⟩, t, u] i j = true) (fun y => 3 - y.1) ?_ ?_
 ·intro w7 h7
  exact ⟨(0, w7), Cov.au rfl rfl rfl rfl rfl, rfl, Nat.zero_le _, h7.below, hO.below (at_belowM h7 (by simp)), by simp⟩
 rintro ⟨i, V⟩ ⟨hi, hV, hOV, hq⟩
 simp only at hi hV hOV hq
 refine Branch.mk (fun z1 => ?_) (fun z1 => ?_)
 ·have hi3 : i < 3 := by have := of_decide_eq_true z1; simp only at this; omega
  refine LoopI.invC (α := Nat × World) (fun y => [(7, .val (.int .i64 y.1))]) (fun y => y.2) (fun y => y.1 ≤ 3 ∧ Below w.heap.size w y.2 ∧ Own TR w5.heap.size y.2 (.slice a5 3 c5) [(⟨0, 1⟩ : Rt), t, u] ∧ ∀ j, j < y.1 → Dbm.kp L [⟨0, 1⟩, t, u] i j = true) (fun y => 3 - y.1) ?_ ?_
  ·intro w7 h7
   exact ⟨(0, w7), Cov.au rfl rfl rfl rfl rfl, rfl, Nat.zero_le _, h7.below, hOV.below (at_belowM h7 (by simp)), by simp⟩
  rintro ⟨j, U⟩ ⟨hj, hU, hOU, hq2⟩
  simp only at hj hU hOU hq2
  refine Branch.mk (fun z2 => ?_) (fun z2 => ?_)
  ·have hj3 : j < 3 := by have := of_decide_eq_true z2; simp only at this; omega
   obtain ⟨x, hx, ox, ixx⟩ := hM i hi3
   obtain ⟨y, hy, oy, iy⟩ := hM j hj3
   have hb := List.getElem?_eq_getElem (l := L) (i := i * 3 + j) (by omega)
   obtain ⟨bm, bi⟩ := hm (i * 3 + j) (by omega)
   have hkp : Dbm.kp L [⟨0, 1⟩, t, u] i j = (Fr.keeps x y (L[i * 3 + j]'(by omega))).1 := by unfold Dbm.kp; rw [hx, hy, hb]; rfl
   rw [hb] at bm bi
   simp only [Option.getD_some] at bm bi
   generalize L[i * 3 + j]'(by omega) = q at hb bm bi hkp
   refine DrawI.go (.tk 0 (.tk 1 (.tk 2 (.tk 3 (.tk 4 (.tk 5 (.tk 6 (.tk 7 (.tk 8 (.tk 9 (.tk 10 (.tk 11 (.tk 12 (.tk 13 (.tk 14 (.tk 15 (.tk 16 (.tk 17 (.ev 18 (.tk 19 .done)))))))))))))))))))) (by kernel_rfl) fun w8 h8 => ?_
   have hO8 := hOU.below (at_belowM h8 (by simp))
   have hS8 : Sl w8.heap.size w8 (.slice a5 3 c5) [(⟨0, 1⟩ : Rt), t, u] := hO8.sl
   have hL8 : Sl w8.heap.size w8 (.slice a L.length ca) L := hS.go h8.below h8.below.size
   have eij : (i : Int) * 3 = ((i * 3 : Nat) : Int) := rfl
   refine hS8.idx hx fun ad had => ?_
   refine hS8.ld hx had (Below.refl _ _) (by simp) ?_
   refine hS8.idx hy fun ad2 had2 => ?_
   refine hS8.ld hy had2 (Below.refl _ _) (by simp) ?_
   refine Need.mk (by simp only; rw [eij]; simp only [inK]; omega) ?_
   refine Need.mk (by simp only; rw [eij]; simp only [inK]; omega) ?_
   refine hL8.idx hb fun ad3 had3 => ?_
   refine hL8.ld1 hb had3 (Below.refl _ _) (by simp) ?_
   apply CallI.use1
   focus (exact fun w9 h9 => rkept03_any x y ox oy ixx iy q bm bi w9)
   intro w9 v9 h9 hB9
   rw [← hkp]
   have hO9 := (hO8.below (at_belowM h9 (by simp))).below hB9
   refine Branch.mk (fun z3 => ?_) (fun z3 => ?_)
   ·have hf : Dbm.kp L [⟨0, 1⟩, t, u] i j = false := by simpa using z3
    refine EndI.mk fun w10 h10 => ?_
    have : KL = false := by
     cases KL with
     | false => rfl
     | true => rw [hK.1 rfl i j hi3 hj3] at hf; cases hf
    rw [this]
   ·have ht' : Dbm.kp L [⟨0, 1⟩, t, u] i j = true := by simpa using z3
    refine Need.mk (by simp only [inK]; omega) (EndI.mk fun w10 h10 => ⟨(j + 1, w10), Cov.au rfl rfl rfl rfl rfl, rfl, ⟨hj3, h10.below, hO9.below (at_belowM h10 (by simp)), fun j' hj' => ?_⟩, by simp only; omega⟩)
    by_cases e : j' = j
    ·subst e; exact ht'
    ·exact hq2 j' (by simp only at hj'; omega)
  ·have hge : j = 3 := by have := of_decide_eq_false z2; simp only at this; omega
   subst hge
   refine Need.mk (by simp only [inK]; omega) (EndI.mk fun w10 h10 => ⟨(i + 1, w10), Cov.au rfl rfl rfl rfl rfl, rfl, ⟨hi3, h10.below, hOU.below (at_belowM h10 (by simp)), fun i' j' hi' hj' => ?_⟩, by simp only; omega⟩)
   by_cases e : i' = i
   ·subst e; exact hq2 j' hj'
   ·exact hq i' j' (by simp only at hi'; omega) hj'
 ·have hge : i = 3 := by have := of_decide_eq_false z1; simp only at this; omega
  subst hge
  refine EndI.mk fun w10 h10 => ?_
  rw [hK.2 hq]
theorem rinside_any (z : Zn) (hz : Zo.chk z = 0) (p : Pt) (hp : p.ins) (ht : p.t.ok = true) (hu : p.u.ok = true) (w : World) :
 Calls Tryz.prog 50 #[.agg #[.int .i64 z.a, .int .i64 z.b, .int .i64 z.c, .int .i64 z.d, .int .i64 z.e, .int .i64 z.f], .agg #[.int .i64 p.t.num, .int .i64 p.t.den, .int .i64 p.u.num, .int .i64 p.u.den]] w fun e w' => e = .returned (.bool (Dbm.keptL 3 (Zo.matL z) [p.t, p.u])) ∧ Below w.heap.size w w' := by
 refine fun_eq 0 w Tryz.func50 (args := [.agg [.val (.int .i64 z.a), .val (.int .i64 z.b), .val (.int .i64 z.c), .val (.int .i64 z.d), .val (.int .i64 z.e), .val (.int .i64 z.f)], .agg [.val (.int .i64 p.t.num), .val (.int .i64 p.t.den), .val (.int .i64 p.u.num), .val (.int .i64 p.u.den)]]) rfl rfl ?_
 refine NewI.mk fun b1 hb1 => ?_
 refine NewI.mk fun b2 hb2 => ?_
 refine DrawI.go (.tk 0 (.tk 2 (.tk 3 (.tk 4 (.tk 5 (.two 1 (.ev 6 (.ev 7 (.tk 8 .done))) 6 (.ev 1 (.ev 7 (.tk 8 .done))))))))) (by kernel_rfl) fun w1 h1 => ?_
 have hc0 : Dbm.chk 3 (Zo.matL z) = 0 := by
  have hk := Zo.chk_eq.1 hz
  rcases Classical.em (Dbm.chk 3 (Zo.matL z) = 0) with h | h
  ·exact h
  ·exfalso
   unfold Dbm.close at hk
   rw [if_neg h] at hk
   simp at hk
 have hm : ∀ q, q < 9 → Bd.may ((Zo.matL z)[q]?.getD 0) = true ∧ inK .i64 ((Zo.matL z)[q]?.getD 0) := fun q hq => by
  have h := Dbm.chk_lim hc0 q hq
  refine ⟨Dbm.may_limK (Dbm.lim_mono h (by omega)), ?_⟩
  simp only [inK]
  rcases h with h | h
  ·rw [h]; unfold Dbm.NO; omega
  ·omega
 refine Both.mk ?_ ?_
 ·apply CallI.use
  focus (exact fun w2 h2 => rfull_any z w2)
  rintro v w2 v2 h2 hB2 ⟨a2, c2, rfl, hS2⟩
  refine NewI.mk fun b3 hb3 => ?_
  apply CallI.use1
  focus (exact fun w3 h3 => rkept04_any (Zo.matL z) rfl hm p.t p.u ht hu hp.1 hp.2 a2 _ c2 _ w3 (hS2.go (at_belowM h3 (by simp)) h3.size) (Sl.own (l := [p.t, p.u]) h3 2 rfl rfl rfl (Nat.le_refl _) (by simp [maxLen])))
  intro w3 v3 h3 hB3
  exact EndI.mk fun w9 h9 => rfl
 ·refine NewI.mk fun b3 hb3 => ?_
  apply CallI.use
  focus (exact fun w2 h2 => rfull_any z w2)
  rintro v w2 v2 h2 hB2 ⟨a2, c2, rfl, hS2⟩
  apply CallI.use1
  focus (exact fun w3 h3 => rkept04_any (Zo.matL z) rfl hm p.t p.u ht hu hp.1 hp.2 a2 _ c2 _ w3 (hS2.go (at_belowM h3 (by simp)) h3.size) (Sl.own (l := [p.t, p.u]) h3 2 rfl rfl rfl (Nat.le_refl _) (by simp [maxLen])))
  intro w3 v3 h3 hB3
  exact EndI.mk fun w9 h9 => rfl
namespace Zs
end Zs
namespace Rg
theorem has_inside {z : Zn} (hz : Zo.chk z = 0) {p : Pt} (ht : p.t.ok = true) (hu : p.u.ok = true) : (Zo.has z p).1 = Dbm.keptL 3 (Zo.matL z) [p.t, p.u] := by
 have hc0 := (Zo.clo hz).1
 unfold Zo.has
 rw [if_pos ⟨hz, ht, hu⟩]
 unfold Dbm.keeps
 rw [if_pos ⟨hc0, by simp [ht, hu]⟩, if_pos (by simp)]
 rfl
theorem up_congr {long : Int} {p q : Int → Bool} (h : ∀ x, 0 ≤ x → x < (many long).1 → p x = q x) : up long p = up long q := by
 unfold up
 congr 1
 apply List.filter_congr
 intro n hn
 have := List.mem_range.1 hn
 exact h n (by omega) (by omega)
def hit (l : List Zn) (long : Int) (x : Int) : Bool := (point x long).2 && l.any fun z => (Zo.has z (pt x long)).1
theorem hit_inL (l : List Zn) (long : Int) : up long (hit l long) = up long (inL l long) := up_congr fun x h0 h1 => by
 unfold hit inL isR
 rw [decide_eq_true h0, decide_eq_true h1]; simp
end Rg
set_option maxHeartbeats 1000000 in
theorem rlist14_any (l : List Zn) (hz : ∀ z, z ∈ l → Zo.chk z = 0) (hlen : l.length ≤ 4096) (long : Int) (hl : 1 ≤ long ∧ long ≤ 16) (pa : Option Addr) (ca : Nat) (w : World) (hS : Sl w.heap.size w (.slice pa l.length ca) l) :
 Calls Tryz.prog 20 #[.slice pa l.length ca, .int .i64 long] w (Ret w fun v w' => Own TKi w.heap.size w' v (Rg.up long (Rg.inL l long))) := by
 refine fun_ret 0 w Tryz.func20 (args := [.val (.slice pa l.length ca), .val (.int .i64 long)]) rfl rfl ?_
 have st := Stay.first (w := w)
 have hmm := Fr.mul_bd (u := 3 * (2 * long + 1)) (v := 2 * long + 1) (m := 99) (n := 33) (by omega) (by omega) (by omega) (by omega)
 have hmany := Rg.many_doc hl
 obtain ⟨M, hM⟩ : ∃ M : Nat, 3 * (2 * long + 1) * (2 * long + 1) = M := ⟨(3 * (2 * long + 1) * (2 * long + 1)).toNat, by omega⟩
 have hM1 : (Rg.many long).1 = M := by rw [hmany]; exact hM
 have hM4 : M ≤ 3267 := by omega
 have hM0 : 0 < M := by
  have h : 9 * 3 ≤ 3 * (2 * long + 1) * (2 * long + 1) := Int.mul_le_mul (by omega) (by omega) (by omega) (by omega)
  omega
 rw [← Rg.hit_inL]
 apply CallI.use1
 focus (exact fun w4 h4 => rcount14_any long hl w4)
 intro w4 v4 h4 hB4
 have st := st.nx h4 hB4
 rw [hM]
 refine GenV.mks (α := Bool) elBo false infoBo M rfl (by simp [Enc.size]; omega) (by omega) fun v w5 v5 h5 hB5 hOw => ?_
 have st := st.nx h5 hB5
 obtain ⟨ab, cb', rfl⟩ := hOw.form
 have hBk := Rg.done_zero (Rg.hit l long) M
 have hds := fun k (hk : k < M) => Rg.done_step (Rg.hit l long) hk
 have hdp := Rg.done_pick (Rg.hit l long) hM1
 have hdl := fun k => Rg.done_len (Rg.hit l long) M k
 have hdg := fun k (hk : k < M) => Rg.done_get (f := Rg.hit l long) (k := k) hk
 rw [← hBk] at hOw ⊢
 rw [← hdp]
 generalize hD : Rg.done (Rg.hit l long) M = D at *
 obtain ⟨g, rfl, hgb, hcb1, hcb2, hRow⟩ := BRow.of hOw (by rw [hdl]; omega)
 have hgw : w.heap.size ≤ g := by have := h5.below.size; simp only at this; omega
 rw [hdl] at hcb1 ⊢
 refine LoopI.invC (α := Nat × World) (fun y => [(6, .val (.int .i64 y.1))]) (fun y => y.2) (fun y => y.1 ≤ M ∧ Below w.heap.size w y.2 ∧ BRow y.2 g (D y.1)) (fun y => M - y.1) ?_ ?_
 ·intro w6 h6
  exact ⟨(0, w6), Cov.au rfl rfl rfl rfl rfl, rfl, Nat.zero_le _, h6.below, hRow.at h6 (by simp)⟩
 rintro ⟨k, V⟩ ⟨hk, hV, hRk⟩
 simp only at hk hV hRk
 refine Branch.mk (fun hb => ?_) (fun hb => ?_)
 ·have hlt : k < M := by have := of_decide_eq_true hb; simp only at this; omega
  have hkn : 0 ≤ (k : Int) ∧ (k : Int) < 3 * (2 * long + 1) * (2 * long + 1) := by omega
  obtain ⟨hpi, hpt, hpu⟩ := Rg.pt_fine hl hkn
  have hes := hds k hlt
  have hgV : g < V.heap.size := hRk.lt
  apply CallI.use1
  focus (exact fun w5 h5 => rof14_any (k : Int) long hl hkn w5)
  intro w6 v6 h6 hB6
  refine NewI.mk fun b2 hb2 => ?_
  have hb2' : v6.heap.size ≤ b2 := hb2
  have hgb2 : b2 ≠ g := by have e1 := h6.size; have e2 := hB6.size; simp only at e1; omega
  have hV6 : Below w.heap.size w v6 := h6.below.trans (hB6.mono h6.below.size)
  have hR6 := (hRk.at h6 (by simp)).below hB6
  have hgv6 : v6.heap.size ≤ b2 := hb2'
  have hgr : ∀ b, b ∈ [b2] → b ≠ g := fun b hb => by rw [List.mem_singleton.1 hb]; exact hgb2
  have hset0 : (D k).set k false = D k := by
   apply List.ext_getElem?
   intro n
   by_cases e : k = n
   ·subst e
    rw [List.getElem?_set_self (by rw [hdl]; exact hlt), hdg k hlt]
    simp
   ·rw [List.getElem?_set_ne e]
  have hsl : ∀ b, ((D k).set k b).length = M := fun b => by rw [List.length_set, hdl]
  have hsg : ∀ b, ((D k).set k b)[k]? = some b := fun b => List.getElem?_set_self (by rw [hdl]; exact hlt)
  have hss : ∀ b c, ((D k).set k b).set k c = (D k).set k c := fun b c => by rw [List.set_set]
  refine LoopI.invC (α := Nat × World) (fun y => [(9, .val (.int .i64 y.1))]) (fun y => y.2) (fun y => y.1 ≤ l.length ∧ Below w.heap.size w y.2 ∧ BRow y.2 g ((D k).set k ((Rg.point k long).2 && (l.take y.1).any fun z => (Zo.has z (Rg.pt k long)).1))) (fun y => l.length - y.1) ?_ ?_
  ·intro w7 h7
   refine ⟨(0, w7), Cov.au rfl rfl rfl rfl rfl, rfl, Nat.zero_le _, h7.below, ?_⟩
   simp only [List.take_zero, List.any_nil, Bool.and_false]
   rw [hset0]
   exact hR6.at h7 (by intro q; have := List.mem_singleton.1 q; exact hgb2 this.symm)
  rintro ⟨i, U⟩ ⟨hi, hU, hRi⟩
  simp only at hi hU hRi
  have exit : ((Rg.point k long).2 && (l.take i).any fun z => (Zo.has z (Rg.pt k long)).1) = Rg.hit l long k → ∀ {K : Prop}, (BRow U g (D (k + 1)) → K) → K := fun h K hK => hK (by rw [hes, ← h]; exact hRi)
  generalize hacc : ((Rg.point k long).2 && (l.take i).any fun z => (Zo.has z (Rg.pt k long)).1) = acc at *
  refine Branch.mk (fun c1 => ?_) (fun c1 => ?_)
  ·have hiN : i < l.length := by have := of_decide_eq_true c1; simp only at this; omega
   refine Branch.mk (fun c2 => ?_) (fun c2 => ?_)
   ·have hg1 := hsg acc
    have hSr := hRi.sl (c := cb') (by rw [hsl]; exact hcb1) hcb2
    rw [hsl] at hSr
    refine hSr.idx hg1 fun ad had => ?_
    refine hSr.ldv hg1 rfl had (Below.refl _ _) (by simp) ?_
    refine Branch.mk (fun c3 => ?_) (fun c3 => ?_)
    ·have hz1 := List.getElem?_eq_getElem (l := l) (i := i) hiN
     have hts : l.take (i + 1) = l.take i ++ [l[i]'hiN] := by rw [List.take_add_one, hz1]; rfl
     have hzm := hz _ (List.getElem_mem hiN)
     generalize l[i]'hiN = z at hz1 hts hzm
     refine DrawI.wr (.tk 0 (.tk 1 (.tk 2 (.tk 3 (.tk 4 (.tk 5 (.tk 6 (.ev 7 (.tk 8 (.ev 9 .done)))))))))) [] [g] (by kernel_rfl) rfl (fun b hb h => hgr b hb (by simpa using h)) fun w7 h7 => ?_
     have hacc0 : acc = false := by simpa using c3
     have hU7 : Below w.heap.size w w7 := h7.below
     have hR7 := hRi.at h7 (by simp)
     refine hS.idx hz1 fun ad had => ?_
     refine hS.ld hz1 had hU7 (by simpa using hgw) ?_
     apply CallI.use1
     focus (exact fun w8 h8 => rinside_any z hzm (Rg.pt k long) hpi hpt hpu w8)
     intro w8 v8 h8 hB8
     rw [← Rg.has_inside hzm hpt hpu]
     have hR8 := (hR7.at h8 (by simp)).below hB8
     refine IdxI.mk ⟨_, ⟨rfl, by omega, by omega⟩, ?_⟩
     refine StoreI.mk fun w10 h10 => ?_
     have r10 := hR8.at h10 (by simp)
     rw [show ((⟨g, 0, none⟩ : Addr).add ((k : Int).toNat * 1)) = ⟨g, k, none⟩ by simp [addr_addL]]
     refine ⟨⟨⟨_, r10.cell hg1⟩, r10.frozen _⟩, Zo.kpD_set hgw hgr (by simp [locs]), ?_⟩
     have hnew : ((Rg.point k long).2 && (l.take (i + 1)).any fun z => (Zo.has z (Rg.pt k long)).1) = (Zo.has z (Rg.pt k long)).1 := by
      rw [hts, List.any_append]
      rw [hacc0, c2, Bool.true_and] at hacc
      rw [hacc, c2]; simp
     have r11 := r10.set (k := k) (by rw [hsl]; exact hlt) (Zo.has z (Rg.pt k long)).1
     rw [hss] at r11
     have B11 : Below w.heap.size w (w10.setCell ⟨g, k, none⟩ (.bool (Zo.has z (Rg.pt k long)).1)) := h10.below.setCell (p := ⟨g, k, none⟩) hgw _
     generalize w10.setCell ⟨g, k, none⟩ (.bool (Zo.has z (Rg.pt k long)).1) = w11 at r11 B11
     rw [← hnew] at r11
     exact Need.mk (by simp only [inK]; omega) (EndI.mk fun w12 h12 => ⟨(i + 1, w12), Cov.au rfl rfl rfl rfl rfl, rfl, ⟨hiN, h12.below, r11.at h12 (by simp)⟩, by simp only; omega⟩)
    ·have hacc1 : acc = true := by simpa using c3
     refine exit (by
      rw [hacc1]
      rw [hacc1] at hacc
      simp only [Bool.and_eq_true] at hacc
      obtain ⟨z, h1, h2⟩ := List.any_eq_true.1 hacc.2
      unfold Rg.hit
      rw [c2, Bool.true_and]
      exact (List.any_eq_true.2 ⟨z, List.mem_of_mem_take h1, h2⟩).symm) fun hR9 => ?_
     exact Need.mk (by simp only [inK]; omega) (EndI.mk fun w9 h9 => ⟨(k + 1, w9), Cov.au rfl rfl rfl rfl rfl, rfl, ⟨hlt, h9.below, hR9.at h9 (by simp)⟩, by simp only; omega⟩)
   ·refine exit (by rw [← hacc, Rg.hit, c2]; rfl) fun hR9 => ?_
    exact Need.mk (by simp only [inK]; omega) (EndI.mk fun w9 h9 => ⟨(k + 1, w9), Cov.au rfl rfl rfl rfl rfl, rfl, ⟨hlt, h9.below, hR9.at h9 (by simp)⟩, by simp only; omega⟩)
  ·have hge : i = l.length := by have := of_decide_eq_false c1; simp only at this; omega
   refine exit (by rw [← hacc, Rg.hit, hge, List.take_length]) fun hR9 => ?_
   exact Need.mk (by simp only [inK]; omega) (EndI.mk fun w9 h9 => ⟨(k + 1, w9), Cov.au rfl rfl rfl rfl rfl, rfl, ⟨hlt, h9.below, hR9.at h9 (by simp)⟩, by simp only; omega⟩)
 ·have hge : k = M := by have := of_decide_eq_false hb; simp only at this; omega
  subst hge
  have hSl := hRk.sl (c := cb') (by rw [hdl]; exact hcb1) hcb2
  have cP := rpick14_any (D k) (by rw [hdl]; omega) (some ⟨g, 0, none⟩) cb'
  rw [hdl] at cP hSl
  apply CallI.use
  focus (exact fun w6 h6 => cP w6 (hSl.go (at_belowM h6 (by simp)) h6.size))
  rintro v w6 v6 h6 hB6 hO6
  obtain ⟨a6, c6, rfl⟩ := hO6.form
  exact EndI.mk fun w9 h9 => (hO6.lower h6.below.size).below (at_belowM h9 (by simp))
namespace Rg
def btw (a b : List Int) (long : Int) (x : Int) : Bool := isR long x && (List.range (6 * long + 1).toNat).any fun n => decide (number ⟨(pt x long).t, six n⟩ long ∈ a) && decide (number ⟨six n, (pt x long).u⟩ long ∈ b)
def comp (a b : List Int) (long : Int) : List Int × Int :=
 if fits long = false then ([], 2) else if mayL a long = true ∧ mayL b long = true then (up long (btw a b long), 0) else ([], 8)
theorem ask_in0 {x long : Int} (h : (askPoint x long).2 = 0) : 0 ≤ x ∧ x < (many long).1 := by
 unfold askPoint at h
 split at h
 ·cases h
 ·rename_i hn
  simp only [not_or, Int.not_lt, Int.not_le] at hn
  omega
theorem may_in {l : List Int} {long : Int} (h : mayL l long = true) {x : Int} (hx : x ∈ l) : 0 ≤ x ∧ x < (many long).1 := ask_in0 (mayTo_in h (by rw [List.take_length]; exact hx))
theorem mks_at {l : List Int} {M : Nat} {x : Int} (h0 : 0 ≤ x) (h1 : x < (M : Int)) : (mks l M l.length)[x.toNat]?.getD false = decide (x ∈ l) := by
 rw [mks_get (by omega), List.take_length, Option.getD_some, Int.toNat_of_nonneg h0]
theorem btw_doc {a b : List Int} {long : Int} (hl : 1 ≤ long ∧ long ≤ 16) (ha : mayL a long = true) (hb : mayL b long = true) :
 (up long fun x => (point x long).2 && btwB (mks a (many long).1.toNat a.length) (mks b (many long).1.toNat b.length) (pt x long) long (6 * long + 1).toNat) = up long (btw a b long) := up_congr fun x h0 h1 => by
 unfold btw isR btwB
 rw [decide_eq_true h0, decide_eq_true h1, Bool.true_and, Bool.true_and]
 congr 2
 funext n
 unfold btw1
 have key : ∀ (c : List Int) (p : Pt), mayL c long = true → (decide (0 ≤ number p long) && (mks c (many long).1.toNat c.length)[(number p long).toNat]?.getD false) = decide (number p long ∈ c) := fun c p hc => by
  by_cases h : 0 ≤ number p long
  ·have := (rep_of hl h).2.2.2.1
   rw [decide_eq_true h, Bool.true_and, mks_at h (by omega)]
  ·rw [decide_eq_false h, Bool.false_and, decide_eq_false]
   intro hm
   exact h (may_in hc hm).1
 rw [← key a _ ha, ← key b _ hb]
 cases decide (0 ≤ number ⟨(pt x long).t, six n⟩ long) <;> cases decide (0 ≤ number ⟨six n, (pt x long).u⟩ long) <;> simp
end Rg
end Go.Proofs.YtanhnllkccldhaaGreat
namespace Go.Proofs.YtanhnllkccldhaaGreat
set_option linter.unusedVariables false
set_option linter.unusedSimpArgs false
open Go.RowKit Go.Proofs.YtanhnllkccldhaaGreat.Eng Enc
namespace Ky
open Dbm Mi Cv Zs Cmp
theorem tvs_one (a b : Rt) : Dbm.tvs [a, b] 1 = Fr.v a := rfl
theorem tvs_two (a b : Rt) : Dbm.tvs [a, b] 2 = Fr.v b := rfl
theorem many2 {long : Int} (hl : 1 ≤ long ∧ long ≤ 16) : (Rg.many long).2 = 0 := by rw [Rg.many_doc hl]
theorem pl_nonneg {x : Rat} (h : 0 ≤ pl x) : 0 ≤ x := by
 have e := eq_fr x
 have f := fr_nonneg x
 have h1 : (0 : Int) ≤ x.floor := by unfold pl at h; split at h <;> omega
 have h2 : (0 : Rat) ≤ (x.floor : Rat) := by exact_mod_cast h1
 generalize fr x = r at *
 generalize (x.floor : Rat) = y at *
 grind
theorem pl_le {x : Rat} {L : Int} (h : pl x ≤ 2 * L) : x ≤ (L : Rat) := by
 have e := eq_fr x
 have f := fr_lt x
 unfold pl at h
 split at h
 ·rename_i hz
  have h1 : x.floor ≤ L := by omega
  have h2 : (x.floor : Rat) ≤ (L : Rat) := by exact_mod_cast h1
  rw [hz] at e
  grind
 ·have h1 : x.floor + 1 ≤ L := by omega
  have h2 : ((x.floor + 1 : Int) : Rat) ≤ (L : Rat) := by exact_mod_cast h1
  rw [Rat.intCast_add, show ((1 : Int) : Rat) = 1 from rfl] at h2
  generalize fr x = r at *
  generalize (x.floor : Rat) = y at *
  grind
theorem reg_pt {long n : Int} (hl : 1 ≤ long ∧ long ≤ 16) (h : n ∈ regs long) : (Rg.pt n long).t.ok = true ∧ (Rg.pt n long).u.ok = true ∧ Rg.number (Rg.pt n long) long = n ∧ 0 ≤ n ∧ 0 ≤ rep n long 1 ∧ rep n long 1 < rep n long 2 ∧ rep n long 2 ≤ (long : Rat) := by
 have hR := mem_regs.1 h
 obtain ⟨h0, h1⟩ := isR_lt hR
 unfold Rg.isR at hR
 simp only [Bool.and_eq_true, decide_eq_true_eq] at hR
 have hp := hR.2
 unfold Rg.point at hp
 have hn : Rg.number (Rg.pt n long) long = n := of_decide_eq_true hp
 obtain ⟨k1, k2, k3, k4⟩ := Rg.number_back hn h0 hl
 obtain ⟨ht, hu, _⟩ := Rg.cmp_lt k1
 have hs : Rg.sides long = 2 * long + 1 := rfl
 have hk1 := (Rg.cmp_iff ht hu).1 k1
 obtain ⟨a1, a2, a3⟩ := v_parts ht
 obtain ⟨b1, b2, b3⟩ := v_parts hu
 have hlt : Fr.v (Rg.pt n long).t < Fr.v (Rg.pt n long).u := by
  have := (lt_key (Fr.v (Rg.pt n long).t) (Fr.v (Rg.pt n long).u) 0).2 (by
   rw [a1, b1]
   rcases hk1 with h | ⟨h, h'⟩
   ·exact .inl (by omega)
   ·exact .inr ⟨by omega, (fr_v_lt ht hu).1.2 h'⟩)
  rw [Rat.intCast_zero] at this
  grind
 have hpos : 0 ≤ Rg.place (Rg.pt n long).t := by rw [k2]; exact Int.ediv_nonneg (Int.ediv_nonneg h0 (by omega)) (by omega)
 have hT : 0 ≤ Fr.v (Rg.pt n long).t := pl_nonneg (by rw [pl_place ht]; exact hpos)
 have hub : Rg.place (Rg.pt n long).u < Rg.sides long := by rw [k3]; exact Int.emod_lt_of_pos _ (by omega)
 have hU : Fr.v (Rg.pt n long).u ≤ (long : Rat) := pl_le (by rw [pl_place hu]; omega)
 have e1 : rep n long 1 = Fr.v (Rg.pt n long).t := tvs_one _ _
 have e2 : rep n long 2 = Fr.v (Rg.pt n long).u := tvs_two _ _
 rw [e1, e2]
 exact ⟨ht, hu, hn, h0, hT, hlt, hU⟩
theorem num_of {p : Pt} {long : Int} (hl : 1 ≤ long ∧ long ≤ 16) (ht : p.t.ok = true) (hu : p.u.ok = true) (h1 : 0 ≤ Fr.v p.t) (h2 : Fr.v p.t < Fr.v p.u) (h3 : Fr.v p.u ≤ (long : Rat)) : 0 ≤ Rg.number p long := by
 have hs : Rg.sides long = 2 * long + 1 := rfl
 obtain ⟨a1, a2, a3⟩ := v_parts ht
 obtain ⟨b1, b2, b3⟩ := v_parts hu
 have k1 : (Fr.cmp p.t p.u).1 < 0 := by
  refine (Rg.cmp_iff ht hu).2 ?_
  have := (lt_key (Fr.v p.t) (Fr.v p.u) 0).1 (by rw [Rat.intCast_zero]; grind)
  rw [a1, b1] at this
  rcases this with h | ⟨h, h'⟩
  ·exact .inl (by omega)
  ·exact .inr ⟨by omega, (fr_v_lt ht hu).1.1 h'⟩
 have f1 : 0 ≤ (Fr.v p.t).floor := Rat.le_floor_iff.2 (by rw [Rat.intCast_zero]; exact h1)
 have f2 : (Fr.v p.u).floor ≤ long := by
  have := Rat.floor_le (Fr.v p.u)
  have h : ((Fr.v p.u).floor : Rat) ≤ (long : Rat) := by grind
  exact_mod_cast h
 have f4 : (Fr.v p.u).floor = long → fr (Fr.v p.u) = 0 := fun h => by
  have e2 := eq_fr (Fr.v p.u)
  have n2 := fr_nonneg (Fr.v p.u)
  rw [h] at e2; grind
 have p1 : 0 ≤ Rg.place p.t := by rw [← pl_place ht]; unfold pl; split <;> omega
 have p2 : Rg.place p.u < Rg.sides long := by
  rw [← pl_place hu, hs]; unfold pl
  split
  ·omega
  ·rename_i hz
   have : (Fr.v p.u).floor ≠ long := fun h => hz (f4 h)
   omega
 have ho := Rg.order_three p
 have hm : 0 ≤ Rg.place p.t * Rg.sides long := Int.mul_nonneg p1 (by omega)
 have p3 : 0 ≤ Rg.place p.u := by
  rw [← pl_place hu]; unfold pl
  have : 0 ≤ (Fr.v p.u).floor := Rat.le_floor_iff.2 (by rw [Rat.intCast_zero]; grind)
  split <;> omega
 unfold Rg.number
 rw [if_neg (by omega)]
 omega
theorem num_rep {p : Pt} {long : Int} (hl : 1 ≤ long ∧ long ≤ 16) (ht : p.t.ok = true) (hu : p.u.ok = true) (h : 0 ≤ Rg.number p long) : Rg.number p long ∈ regs long ∧ ∀ z, Fz z (Dbm.tvs [p.t, p.u]) ↔ Fz z (rep (Rg.number p long) long) := by
 obtain ⟨r1, r2, r3, r4, r5, r6, r7, r8, r9⟩ := Rg.rep_of hl h
 refine ⟨mem_regs.2 (by unfold Rg.isR; rw [decide_eq_true r3, decide_eq_true r4, r2]; rfl), fun z => Alike.fz (alike_of (tvs_zero _) (tvs_zero _) ?_ ?_ ?_) z⟩
 ·exact (pl_place ht).trans (r7.symm.trans (pl_place r5).symm)
 ·exact (pl_place hu).trans (r8.symm.trans (pl_place r6).symm)
 ·exact (od_order ht hu).trans (r9.symm.trans (od_order r5 r6).symm)
theorem inL_pts {l : List Zn} (hc : ∀ z, z ∈ l → Zo.chk z = 0) {long n : Int} (hl : 1 ≤ long ∧ long ≤ 16) (hn : n ∈ regs long) : Rg.inL l long n = true ↔ Pts l (rep n long) := by
 obtain ⟨ht, hu, _⟩ := reg_pt hl hn
 unfold Rg.inL
 rw [mem_regs.1 hn, Bool.true_and, List.any_eq_true]
 constructor
 ·rintro ⟨z, hz, h⟩
  exact ⟨z, hz, (Zo.has_ok (hc z hz) ht hu).2.1 h⟩
 ·rintro ⟨z, hz, h⟩
  exact ⟨z, hz, (Zo.has_ok (hc z hz) ht hu).2.2 h⟩
theorem inL_reg {l : List Zn} {long n : Int} (h : Rg.inL l long n = true) : n ∈ regs long := by
 unfold Rg.inL at h
 simp only [Bool.and_eq_true] at h
 exact mem_regs.2 h.1
def rl (l : List Zn) (long : Int) : List Int := Rg.up long (Rg.inL l long)
theorem mem_rl {l : List Zn} (hc : ∀ z, z ∈ l → Zo.chk z = 0) {long n : Int} (hl : 1 ≤ long ∧ long ≤ 16) : n ∈ rl l long ↔ n ∈ regs long ∧ Pts l (rep n long) := by
 unfold rl
 rw [Rg.mem_up (fun x h => Rg.inL_in h)]
 constructor
 ·intro h
  exact ⟨inL_reg h, (inL_pts hc hl (inL_reg h)).1 h⟩
 ·rintro ⟨h1, h2⟩
  exact (inL_pts hc hl h1).2 h2
theorem rl_rising (l : List Zn) (long : Int) : (rl l long).Pairwise fun x y => x < y := Rg.up_rising _ _
theorem rising_eq : ∀ {l m : List Int}, l.Pairwise (fun x y => x < y) → m.Pairwise (fun x y => x < y) → (∀ x, x ∈ l ↔ x ∈ m) → l = m
 | [], [], _, _, _ => rfl
 | [], y :: m, _, _, h => by have := (h y).2 (by simp); simp at this
 | x :: l, [], _, _, h => by have := (h x).1 (by simp); simp at this
 | x :: l, y :: m, hl, hm, h => by
   rw [List.pairwise_cons] at hl hm
   have hxy : x = y := by
    have h1 := (h x).1 (by simp)
    have h2 := (h y).2 (by simp)
    rcases List.mem_cons.1 h1 with e | h1
    ·exact e
    ·rcases List.mem_cons.1 h2 with e | h2
     ·exact e.symm
     ·have := hl.1 y h2; have := hm.1 x h1; omega
   subst hxy
   congr 1
   refine rising_eq hl.2 hm.2 fun z => ?_
   constructor
   ·intro hz
    rcases List.mem_cons.1 ((h z).1 (by simp [hz])) with e | h1
    ·have := hl.1 z hz; omega
    ·exact h1
   ·intro hz
    rcases List.mem_cons.1 ((h z).2 (by simp [hz])) with e | h1
    ·have := hm.1 z hz; omega
    ·exact h1
theorem may_rising {l : List Int} {long : Int} (hl : 1 ≤ long ∧ long ≤ 16) (h : l.Pairwise fun x y => x < y) (hr : ∀ x, x ∈ l → x ∈ regs long) : Rg.mayL l long = true := by
 unfold Rg.mayL Rg.mayTo
 rw [List.all_eq_true]
 intro k hk
 have hk := List.mem_range.1 hk
 unfold Rg.mayAt
 rw [List.getElem?_eq_getElem hk, Option.getD_some]
 have hR := mem_regs.1 (hr _ (List.getElem_mem hk))
 generalize hx : l[k] = x at hR
 unfold Rg.isR at hR
 simp only [Bool.and_eq_true, decide_eq_true_eq] at hR
 have ha : (Rg.askPoint x long).2 = 0 := by
  unfold Rg.askPoint
  rw [if_neg (by rw [many2 hl]; omega), if_pos hR.2]
 rw [decide_eq_true ha, Bool.true_and]
 by_cases h0 : k = 0
 ·rw [decide_eq_true h0]; rfl
 ·rw [List.getElem?_eq_getElem (by omega), Option.getD_some]
  rw [List.pairwise_iff_getElem] at h
  have := h (k - 1) k (by omega) hk (by omega)
  rw [hx] at this
  rw [decide_eq_true this, Bool.or_true]
theorem may_rl {l : List Zn} (hc : ∀ z, z ∈ l → Zo.chk z = 0) {long : Int} (hl : 1 ≤ long ∧ long ≤ 16) : Rg.mayL (rl l long) long = true := may_rising hl (rl_rising l long) fun x hx => ((mem_rl hc hl).1 hx).1
theorem time_fr {p a o : Int} (hp : 0 ≤ p ∧ p ≤ 32) (h : (a = 1 ∧ o = 3) ∨ (a = 2 ∧ o = 3) ∨ (a = 1 ∧ o = 2)) : fr (Fr.v (Rg.time p a o)) = 0 ∨ fr (Fr.v (Rg.time p a o)) = ((a : Int) : Rat) / ((o : Int) : Rat) := by
 have key : ∀ (a o : Int), ((List.range 33).all fun n : Nat => decide (fr (Fr.v (Rg.time n a o)) = 0) || decide (fr (Fr.v (Rg.time n a o)) = ((a : Int) : Rat) / ((o : Int) : Rat))) = true → fr (Fr.v (Rg.time p a o)) = 0 ∨ fr (Fr.v (Rg.time p a o)) = ((a : Int) : Rat) / ((o : Int) : Rat) := fun a o h => by
  have := List.all_eq_true.1 h p.toNat (List.mem_range.2 (by omega))
  rw [Int.toNat_of_nonneg hp.1] at this
  simpa using this
 rcases h with ⟨rfl, rfl⟩ | ⟨rfl, rfl⟩ | ⟨rfl, rfl⟩
 ·exact key 1 3 (by decide +kernel)
 ·exact key 2 3 (by decide +kernel)
 ·exact key 1 2 (by decide +kernel)
theorem rep_fr {long n : Int} (hl : 1 ≤ long ∧ long ≤ 16) (hn : n ∈ regs long) :
 (fr (rep n long 1) = 0 ∨ fr (rep n long 1) = 1/3 ∨ fr (rep n long 1) = 1/2 ∨ fr (rep n long 1) = 2/3) ∧ (fr (rep n long 2) = 0 ∨ fr (rep n long 2) = 1/3 ∨ fr (rep n long 2) = 1/2 ∨ fr (rep n long 2) = 2/3) ∧
 ((fr (rep n long 1) = 1/2 → fr (rep n long 2) = 0 ∨ fr (rep n long 2) = 1/2) ∧ (fr (rep n long 2) = 1/2 → fr (rep n long 1) = 0 ∨ fr (rep n long 1) = 1/2)) := by
 obtain ⟨ht, hu, hnum, h0, _⟩ := reg_pt hl hn
 obtain ⟨_, h1⟩ := isR_lt (mem_regs.1 hn)
 have hs : Rg.sides long = 2 * long + 1 := rfl
 rw [Rg.many_doc hl] at h1
 simp only at h1
 have hT : 0 ≤ n / 3 / Rg.sides long ∧ n / 3 / Rg.sides long ≤ 32 := by
  have a1 : 0 ≤ n / 3 / Rg.sides long := Int.ediv_nonneg (Int.ediv_nonneg h0 (by omega)) (by omega)
  have a2 : n / 3 / Rg.sides long < Rg.sides long := by
   refine Int.ediv_lt_of_lt_mul (by omega) ?_
   have : n < 3 * (Rg.sides long * Rg.sides long) := by rw [hs, ← Int.mul_assoc]; exact h1
   omega
  omega
 have hU : 0 ≤ n / 3 % Rg.sides long ∧ n / 3 % Rg.sides long ≤ 32 := by
  have a1 := Int.emod_nonneg (n / 3) (b := Rg.sides long) (by omega)
  have a2 := Int.emod_lt_of_pos (n / 3) (b := Rg.sides long) (by omega)
  omega
 have e1 : rep n long 1 = Fr.v (Rg.time (n / 3 / Rg.sides long) (Rg.parts (n % 3)).1 (Rg.parts (n % 3)).2.2) := tvs_one _ _
 have e2 : rep n long 2 = Fr.v (Rg.time (n / 3 % Rg.sides long) (Rg.parts (n % 3)).2.1 (Rg.parts (n % 3)).2.2) := tvs_two _ _
 have c1 : (((1 : Int) : Rat) / ((3 : Int) : Rat)) = 1/3 := by decide +kernel
 have c2 : (((2 : Int) : Rat) / ((3 : Int) : Rat)) = 2/3 := by decide +kernel
 have c3 : (((1 : Int) : Rat) / ((2 : Int) : Rat)) = 1/2 := by decide +kernel
 have n1 : (1 : Rat)/3 ≠ 1/2 := by decide +kernel
 have n2 : (2 : Rat)/3 ≠ 1/2 := by decide +kernel
 have n3 : (0 : Rat) ≠ 1/2 := by decide +kernel
 rw [e1, e2]
 generalize n / 3 / Rg.sides long = T at *
 generalize n / 3 % Rg.sides long = U at *
 have p0 : Rg.parts 0 = (1, 2, 3) := rfl
 have p1 : Rg.parts 1 = (1, 1, 2) := rfl
 have p2 : Rg.parts 2 = (2, 1, 3) := rfl
 clear e1 e2
 rcases (by omega : n % 3 = 0 ∨ n % 3 = 1 ∨ n % 3 = 2) with h | h | h <;> rw [h] <;> simp only [p0, p1, p2]
 ·have q1 := time_fr (a := 1) (o := 3) hT (by omega)
  have q2 := time_fr (a := 2) (o := 3) hU (by omega)
  rw [c1] at q1
  rw [c2] at q2
  refine ⟨by rcases q1 with e | e <;> simp [e], by rcases q2 with e | e <;> simp [e], fun e => ?_, fun e => ?_⟩
  ·exact absurd e (by rcases q1 with e | e <;> rw [e] <;> assumption)
  ·exact absurd e (by rcases q2 with e | e <;> rw [e] <;> assumption)
 ·have q1 := time_fr (a := 1) (o := 2) hT (by omega)
  have q2 := time_fr (a := 1) (o := 2) hU (by omega)
  rw [c3] at q1 q2
  exact ⟨by rcases q1 with e | e <;> simp [e], by rcases q2 with e | e <;> simp [e], fun _ => q2, fun _ => q1⟩
 ·have q1 := time_fr (a := 2) (o := 3) hT (by omega)
  have q2 := time_fr (a := 1) (o := 3) hU (by omega)
  rw [c2] at q1
  rw [c1] at q2
  refine ⟨by rcases q1 with e | e <;> simp [e], by rcases q2 with e | e <;> simp [e], fun e => ?_, fun e => ?_⟩
  ·exact absurd e (by rcases q1 with e | e <;> rw [e] <;> assumption)
  ·exact absurd e (by rcases q2 with e | e <;> rw [e] <;> assumption)
theorem six_v {k : Nat} (hk : k < 97) : Fr.v (Rg.six k) = (k : Rat) / 6 := by
 have h : ((List.range 97).all fun n : Nat => decide (Fr.v (Rg.six n) = (n : Rat) / 6)) = true := by decide +kernel
 have := List.all_eq_true.1 h k (List.mem_range.2 hk)
 exact of_decide_eq_true this
end Ky
namespace Ky
open Dbm Mi Cv Zs Cmp
def Ah (l : List Zn) : Prop := ∀ z, z ∈ l → Zo.chk z = 0 ∧ z.f ≤ 0
theorem Ah.chk {l : List Zn} (h : Ah l) : ∀ z, z ∈ l → Zo.chk z = 0 := fun z hz => (h z hz).1
theorem ahead_lt {z : Zn} (h : z.f ≤ 0) {t : Nat → Rat} (ht : Fz z t) : t 1 < t 2 := by
 have k := (fz_iff z t).1 ht
 have k5 := satO_below (k 5 (by decide)) (show Zo.get z 5 ≤ 0 from h) (by decide)
 have s0 : Bd.st 0 = true := by decide
 unfold satO at k5
 simp only [s0, if_true] at k5
 have e0 : (((0 : Int) / 2 : Int) : Rat) = 0 := by decide +kernel
 rw [e0] at k5
 have d5 : dif 5 t = t 1 - t 2 := rfl
 rw [d5] at k5
 grind
def sx (k : Nat) : Rat := (k : Rat) / 6
theorem sx_split (f g : Nat) (hg : g < 6) : (sx (6 * f + g)).floor = f ∧ fr (sx (6 * f + g)) = (g : Rat) / 6 := by
 have h0 : (0 : Rat) ≤ (g : Rat) := by exact_mod_cast Nat.zero_le g
 have h1 : (g : Rat) ≤ 5 := by exact_mod_cast (by omega : g ≤ 5)
 have e : sx (6 * f + g) = ((f : Int) : Rat) + (g : Rat) / 6 := by
  unfold sx
  have : ((6 * f + g : Nat) : Rat) = 6 * ((f : Int) : Rat) + (g : Rat) := by norm_cast
  rw [this]; grind
 rw [e]
 exact fl_add (by grind) (by grind)
theorem six_between {long n : Int} (hl : 1 ≤ long ∧ long ≤ 16) (hn : n ∈ regs long) {s : Rat} (h1 : rep n long 1 < s) (h2 : s < rep n long 2) :
 ∃ k : Nat, (k : Int) < 6 * long + 1 ∧ Alike (t3 0 (rep n long 1) s) (t3 0 (rep n long 1) (sx k)) ∧ Alike (t3 0 s (rep n long 2)) (t3 0 (sx k) (rep n long 2)) := by
 obtain ⟨_, _, _, _, r1, r2, r3⟩ := reg_pt hl hn
 obtain ⟨p1, p2, p3⟩ := rep_fr hl hn
 generalize rep n long 1 = T at *
 generalize rep n long 2 = U at *
 have hs0 : 0 ≤ s := by grind
 obtain ⟨g, hg, q1, q2, q3, q4, q5⟩ := sixth_of (r := fr s) p1 p2 p3 (fr_nonneg s) (fr_lt s)
 have f0 : 0 ≤ s.floor := Rat.le_floor_iff.2 (by rw [Rat.intCast_zero]; exact hs0)
 have f1 : s.floor < long := Rat.floor_lt_iff.2 (by grind)
 obtain ⟨f, hf⟩ : ∃ f : Nat, s.floor = f := ⟨s.floor.toNat, by omega⟩
 obtain ⟨x1, x2⟩ := sx_split f g hg
 have z : fr (0 : Rat) = 0 := fr_int 0
 have nT := fr_nonneg T
 have nU := fr_nonneg U
 have ns := fr_nonneg s
 have ng : 0 ≤ (g : Rat) / 6 := by rw [← x2]; exact fr_nonneg _
 have c0 : ∀ a b : Rat, t3 0 a b 0 = 0 := fun a b => rfl
 have c1 : ∀ a b : Rat, t3 0 a b 1 = a := fun a b => rfl
 have c2 : ∀ a b : Rat, t3 0 a b 2 = b := fun a b => rfl
 refine ⟨6 * f + g, by omega, ⟨fun i hi => ?_, fun i j hi hj => ?_⟩, ⟨fun i hi => ?_, fun i j hi hj => ?_⟩⟩
 ·rcases (by omega : i = 0 ∨ i = 1 ∨ i = 2) with rfl | rfl | rfl
  ·rfl
  ·rfl
  ·rw [c2, c2, x1, hf]; rfl
 ·rcases (by omega : i = 0 ∨ i = 1 ∨ i = 2) with rfl | rfl | rfl <;> rcases (by omega : j = 0 ∨ j = 1 ∨ j = 2) with rfl | rfl | rfl <;> simp only [c0, c1, c2, x2, z]
  ·exact ⟨fun _ => ng, fun _ => ns⟩
  ·exact q2
  ·exact q5
  ·exact q1
  ·exact ⟨fun _ => Rat.le_refl, fun _ => Rat.le_refl⟩
 ·rcases (by omega : i = 0 ∨ i = 1 ∨ i = 2) with rfl | rfl | rfl
  ·rfl
  ·rw [c1, c1, x1, hf]; rfl
  ·rfl
 ·rcases (by omega : i = 0 ∨ i = 1 ∨ i = 2) with rfl | rfl | rfl <;> rcases (by omega : j = 0 ∨ j = 1 ∨ j = 2) with rfl | rfl | rfl <;> simp only [c0, c1, c2, x2, z]
  ·exact ⟨fun _ => ng, fun _ => ns⟩
  ·exact q5
  ·exact ⟨fun _ => Rat.le_refl, fun _ => Rat.le_refl⟩
  ·exact q3
  ·exact q4
theorem fz_ext (z : Zn) {t t' : Nat → Rat} (h0 : t 0 = t' 0) (h1 : t 1 = t' 1) (h2 : t 2 = t' 2) : Fz z t ↔ Fz z t' := by
 have e : ∀ i, i < 3 → t i = t' i := fun i hi => by rcases (by omega : i = 0 ∨ i = 1 ∨ i = 2) with rfl | rfl | rfl <;> assumption
 unfold Fz Dbm.Fits
 constructor
 ·intro h i j hi hj; rw [← e i hi, ← e j hj]; exact h i j hi hj
 ·intro h i j hi hj; rw [e i hi, e j hj]; exact h i j hi hj
theorem tvs_t3 (z : Zn) (a b : Rt) {x y : Rat} (h1 : Fr.v a = x) (h2 : Fr.v b = y) : Fz z (Dbm.tvs [a, b]) ↔ Fz z (t3 0 x y) := fz_ext z (t := Dbm.tvs [a, b]) (t' := t3 0 x y) (tvs_zero _) h1 h2
theorem btw_pts {a b : List Zn} (ha : Ah a) (hb : Ah b) {long n : Int} (hl : 1 ≤ long ∧ long ≤ 16) (hn : n ∈ regs long) : Rg.btw (rl a long) (rl b long) long n = true ↔ Thru (Pts a) (Pts b) (rep n long) := by
 obtain ⟨ht, hu, hnum, h0, r1, r2, r3⟩ := reg_pt hl hn
 have e1 : rep n long 1 = Fr.v (Rg.pt n long).t := tvs_one _ _
 have e2 : rep n long 2 = Fr.v (Rg.pt n long).u := tvs_two _ _
 have e0 : rep n long 0 = 0 := tvs_zero _
 unfold Rg.btw
 rw [mem_regs.1 hn, Bool.true_and, List.any_eq_true]
 constructor
 ·rintro ⟨k, hk, h⟩
  have hk := List.mem_range.1 hk
  have hk97 : k < 97 := by omega
  simp only [Bool.and_eq_true, decide_eq_true_eq] at h
  obtain ⟨hA, hB⟩ := h
  obtain ⟨s1, s2, _, _⟩ := Rg.six_at hk97
  have hA' := (mem_rl ha.chk hl).1 hA
  have hB' := (mem_rl hb.chk hl).1 hB
  have nA := num_rep (p := ⟨(Rg.pt n long).t, Rg.six k⟩) hl ht s2 (isR_lt (mem_regs.1 hA'.1)).1
  have nB := num_rep (p := ⟨Rg.six k, (Rg.pt n long).u⟩) hl s2 hu (isR_lt (mem_regs.1 hB'.1)).1
  refine ⟨Fr.v (Rg.six k), ?_, ?_⟩
  ·obtain ⟨z, hz, hf⟩ := hA'.2
   exact ⟨z, hz, by rw [e0]; exact (tvs_t3 z (Rg.pt n long).t (Rg.six k) e1.symm rfl).1 ((nA.2 z).2 hf)⟩
  ·obtain ⟨z, hz, hf⟩ := hB'.2
   exact ⟨z, hz, by rw [e0]; exact (tvs_t3 z (Rg.six k) (Rg.pt n long).u rfl e2.symm).1 ((nB.2 z).2 hf)⟩
 ·rintro ⟨s, ⟨z, hz, hf⟩, ⟨y, hy, hg⟩⟩
  have l1 := ahead_lt (ha z hz).2 hf
  have l2 := ahead_lt (hb y hy).2 hg
  have l1' : rep n long 1 < s := l1
  have l2' : s < rep n long 2 := l2
  obtain ⟨k, hk, A1, A2⟩ := six_between hl hn l1' l2'
  rw [e0] at hf hg
  have hk97 : k < 97 := by omega
  obtain ⟨s1, s2, _, _⟩ := Rg.six_at hk97
  have hv := six_v hk97
  have hf' := (A1.fz z).1 hf
  have hg' := (A2.fz y).1 hg
  have m1 := ahead_lt (ha z hz).2 hf'
  have m2 := ahead_lt (hb y hy).2 hg'
  have m1' : rep n long 1 < sx k := m1
  have m2' : sx k < rep n long 2 := m2
  have hvs : Fr.v (Rg.six k) = sx k := hv
  refine ⟨k, List.mem_range.2 (by omega), ?_⟩
  simp only [Bool.and_eq_true, decide_eq_true_eq]
  constructor
  ·have p0 : 0 ≤ Rg.number ⟨(Rg.pt n long).t, Rg.six k⟩ long := num_of hl ht s2 r1 (by show Fr.v (Rg.pt n long).t < Fr.v (Rg.six k); rw [hvs]; exact m1') (by show Fr.v (Rg.six k) ≤ _; rw [hvs]; grind)
   obtain ⟨q1, q2⟩ := num_rep (p := ⟨(Rg.pt n long).t, Rg.six k⟩) hl ht s2 p0
   exact (mem_rl ha.chk hl).2 ⟨q1, z, hz, (q2 z).1 ((tvs_t3 z (Rg.pt n long).t (Rg.six k) e1.symm hvs).2 hf')⟩
  ·have p0 : 0 ≤ Rg.number ⟨Rg.six k, (Rg.pt n long).u⟩ long := num_of hl s2 hu (by show 0 ≤ Fr.v (Rg.six k); rw [hvs]; grind) (by show Fr.v (Rg.six k) < Fr.v (Rg.pt n long).u; rw [hvs]; exact m2') r3
   obtain ⟨q1, q2⟩ := num_rep (p := ⟨Rg.six k, (Rg.pt n long).u⟩) hl s2 hu p0
   exact (mem_rl hb.chk hl).2 ⟨q1, y, hy, (q2 y).1 ((tvs_t3 y (Rg.six k) (Rg.pt n long).u hvs e2.symm).2 hg')⟩
theorem comp_rl {a b : List Zn} (ha : Ah a) (hb : Ah b) (h : (Zs.comp a b).2 = 0) {long : Int} (hl : 1 ≤ long ∧ long ≤ 16) : Rg.comp (rl a long) (rl b long) long = (rl (Zs.comp a b).1 long, 0) := by
 obtain ⟨hF, hP⟩ := comp_pts h
 unfold Rg.comp
 rw [if_neg (by rw [Rg.fits_iff.2 hl]; decide), if_pos ⟨may_rl ha.chk hl, may_rl hb.chk hl⟩]
 congr 1
 refine rising_eq (Rg.up_rising _ _) (rl_rising _ _) fun x => ?_
 have hbR : ∀ x, Rg.btw (rl a long) (rl b long) long x = true → x ∈ regs long := fun x hx => by
  unfold Rg.btw at hx
  simp only [Bool.and_eq_true] at hx
  exact mem_regs.2 hx.1
 rw [Rg.mem_up (fun x hx => isR_lt (mem_regs.1 (hbR x hx))), mem_rl hF.2.1 hl]
 constructor
 ·intro hx
  exact ⟨hbR x hx, (hP _).2 ((btw_pts ha hb hl (hbR x hx)).1 hx)⟩
 ·rintro ⟨h1, h2⟩
  exact (btw_pts ha hb hl h1).2 ((hP _).1 h2)
end Ky
end Go.Proofs.YtanhnllkccldhaaGreat
namespace Go.Proofs.YtanhnllkccldhaaGreat
set_option linter.unusedVariables false
set_option linter.unusedSimpArgs false
set_option maxRecDepth 100000
open Go.RowKit Go.Proofs.YtanhnllkccldhaaGreat.Eng Enc
namespace Rg
end Rg
namespace Rg
end Rg
namespace Rg
end Rg
namespace Rg
end Rg
namespace Rg
end Rg
namespace Rg
end Rg
namespace Rg
open Dbm Fr
end Rg
namespace Rg
def orI : List Int → List Int → List Int
 | [], b => b
 | a, [] => a
 | x :: a, y :: b => if x < y then x :: orI a (y :: b) else if x = y then y :: orI a b else y :: orI (x :: a) b
termination_by a b => a.length + b.length
theorem orI_nil (b : List Int) : orI [] b = b := by unfold orI; rfl
theorem orI_end : ∀ (a : List Int), orI a [] = a
 | [] => by unfold orI; rfl
 | x :: a => by unfold orI; rfl
theorem orI_cons (x y : Int) (a b : List Int) : orI (x :: a) (y :: b) = if x < y then x :: orI a (y :: b) else if x = y then y :: orI a b else y :: orI (x :: a) b := by
 conv => lhs; unfold orI
theorem orI_len : ∀ (n : Nat) (a b : List Int), a.length + b.length ≤ n → (orI a b).length ≤ a.length + b.length
 | n, [], b, h => by rw [orI_nil]; simp
 | n, x :: a, [], h => by rw [orI_end]; simp
 | 0, x :: a, y :: b, h => by simp at h
 | n + 1, x :: a, y :: b, h => by
   rw [orI_cons]
   simp only [List.length_cons] at h ⊢
   split
   ·have := orI_len n a (y :: b) (by simp; omega)
    simp only [List.length_cons] at this ⊢; omega
   split
   ·have := orI_len n a b (by omega)
    simp only [List.length_cons] at this ⊢; omega
   ·have := orI_len n (x :: a) b (by simp; omega)
    simp only [List.length_cons] at this ⊢; omega
theorem mem_orI : ∀ (n : Nat) (a b : List Int), a.length + b.length ≤ n → ∀ z, z ∈ orI a b ↔ z ∈ a ∨ z ∈ b
 | n, [], b, h, z => by rw [orI_nil]; simp
 | n, x :: a, [], h, z => by rw [orI_end]; simp
 | 0, x :: a, y :: b, h, z => by simp at h
 | n + 1, x :: a, y :: b, h, z => by
   rw [orI_cons]
   simp only [List.length_cons] at h
   split
   ·have := mem_orI n a (y :: b) (by simp; omega) z
    simp only [List.mem_cons] at this ⊢; rw [this]; constructor
    ·rintro (h | h | h) <;> simp [h]
    ·rintro ((h | h) | h) <;> simp [h]
   split
   ·rename_i _ he
    subst he
    have := mem_orI n a b (by omega) z
    simp only [List.mem_cons] at this ⊢; rw [this]; constructor
    ·rintro (h | h | h) <;> simp [h]
    ·rintro ((h | h) | (h | h)) <;> simp [h]
   ·have := mem_orI n (x :: a) b (by simp; omega) z
    simp only [List.mem_cons] at this ⊢; rw [this]; constructor
    ·rintro (h | (h | h) | h) <;> simp [h]
    ·rintro ((h | h) | (h | h)) <;> simp [h]
theorem orI_rising : ∀ (n : Nat) (a b : List Int), a.length + b.length ≤ n → a.Pairwise (fun x y => x < y) → b.Pairwise (fun x y => x < y) → (orI a b).Pairwise fun x y => x < y
 | n, [], b, h, ha, hb => by rw [orI_nil]; exact hb
 | n, x :: a, [], h, ha, hb => by rw [orI_end]; exact ha
 | 0, x :: a, y :: b, h, ha, hb => by simp at h
 | n + 1, x :: a, y :: b, h, ha, hb => by
   rw [orI_cons]
   simp only [List.length_cons] at h
   have ha' := List.pairwise_cons.1 ha
   have hb' := List.pairwise_cons.1 hb
   split
   ·rename_i hxy
    refine List.pairwise_cons.2 ⟨fun z hz => ?_, orI_rising n a (y :: b) (by simp; omega) ha'.2 hb⟩
    rcases (mem_orI n a (y :: b) (by simp; omega) z).1 hz with h | h
    ·exact ha'.1 z h
    ·rcases List.mem_cons.1 h with rfl | h
     ·exact hxy
     ·have := hb'.1 z h; omega
   split
   ·rename_i _ he
    subst he
    refine List.pairwise_cons.2 ⟨fun z hz => ?_, orI_rising n a b (by omega) ha'.2 hb'.2⟩
    rcases (mem_orI n a b (by omega) z).1 hz with h | h
    ·exact ha'.1 z h
    ·exact hb'.1 z h
   ·rename_i h1 h2
    refine List.pairwise_cons.2 ⟨fun z hz => ?_, orI_rising n (x :: a) b (by simp; omega) ha hb'.2⟩
    rcases (mem_orI n (x :: a) b (by simp; omega) z).1 hz with h | h
    ·rcases List.mem_cons.1 h with rfl | h
     ·omega
     ·have := ha'.1 z h; omega
    ·exact hb'.1 z h
end Rg
set_option maxHeartbeats 2000000 in
theorem ror14_any (a b : List Int) (ha : a.length ≤ 400000) (hb : b.length ≤ 400000) (pa pb : Option Addr) (ca cb : Nat) (w : World) (hS : Sl w.heap.size w (.slice pa a.length ca) a) (hT : Sl w.heap.size w (.slice pb b.length cb) b) :
 Calls Tryz.prog 21 #[.slice pa a.length ca, .slice pb b.length cb] w (Ret w fun v w' => Own TKi w.heap.size w' v (Rg.orI a b)) := by
 refine fun_ret 0 w Tryz.func21 (args := [.val (.slice pa a.length ca), .val (.slice pb b.length cb)]) rfl rfl ?_
 have st := Stay.first (w := w)
 refine LoopI.invC (α := Nat × Nat × World × Value × List Int) (fun y => [(6, .val (.int .i64 y.1)), (7, .val (.int .i64 y.2.1)), (5, .val y.2.2.2.1)]) (fun y => y.2.2.1) (fun y => y.1 ≤ a.length ∧ y.2.1 ≤ b.length ∧ Below w.heap.size w y.2.2.1 ∧ y.2.2.2.2.length ≤ y.1 + y.2.1 ∧ y.2.2.2.2 ++ Rg.orI (a.drop y.1) (b.drop y.2.1) = Rg.orI a b ∧ ∃ base, Lp ⟨w, w.heap.size, Nat.le_refl _⟩ [w] [] TKi base y.2.2.1 y.2.2.2.1 y.2.2.2.2) (fun y => a.length + b.length - y.1 - y.2.1) ?_ ?_
 ·intro w1 h1
  exact ⟨(0, 0, w1, .slice none 0 0, []), Cov.au rfl rfl rfl rfl rfl, rfl, Nat.zero_le _, Nat.zero_le _, h1.below, by simp, rfl, _, Lp.start st h1 (by simp)⟩
 rintro ⟨i, k, V, ov, out⟩ ⟨hi, hk, hV, hle, hall, base, lp⟩
 simp only at hi hk hV hle hall lp
 obtain ⟨ao, co, rfl⟩ := lp.own.form
 have lpA : ∀ {L : List Nat} {hp : List LB} {w1 : World}, At ⟨w, w.heap.size, Nat.le_refl _⟩ hp [] [] V w1 → Lp ⟨w, w.heap.size, Nat.le_refl _⟩ [w] [] TKi base w1 (.slice ao out.length co) out := fun h => lp.at h (by simp)
 have dA : ∀ {j : Nat} {x : Int}, a[j]? = some x → a.drop j = x :: a.drop (j + 1) := fun {j x} h => by
  have hj := (List.getElem?_eq_some_iff.1 h).1
  rw [List.drop_eq_getElem_cons hj]; congr 1; exact (List.getElem?_eq_some_iff.1 h).2
 have dB : ∀ {j : Nat} {x : Int}, b[j]? = some x → b.drop j = x :: b.drop (j + 1) := fun {j x} h => by
  have hj := (List.getElem?_eq_some_iff.1 h).1
  rw [List.drop_eq_getElem_cons hj]; congr 1; exact (List.getElem?_eq_some_iff.1 h).2
 have lpB : ∀ {w1 : World}, Below V.heap.size V w1 → Lp ⟨w, w.heap.size, Nat.le_refl _⟩ [w] [] TKi base w1 (.slice ao out.length co) out := fun h => lp.go h
 by_cases hA : i < a.length
 case pos =>
  have hx := List.getElem?_eq_getElem (l := a) (i := i) hA
  generalize a[i] = x at hx
  refine Branch.yes (by simp only [decide_eq_true_eq]; omega) ?_
  by_cases hB : k < b.length
  case neg =>
   have hkb : k = b.length := by omega
   have hdone : out ++ [x] ++ Rg.orI (a.drop (i + 1)) (b.drop k) = Rg.orI a b := by
    rw [← hall, dA hx, hkb, List.drop_length, Rg.orI_end, Rg.orI_end, List.append_assoc]; rfl
   refine DrawI.go (.tk 0 (.tk 1 (.tk 2 (.tk 3 (.tk 4 (.tk 5 (.tk 6 (.tk 7 (.tk 8 (.tk 9 (.tk 10 (.tk 11 (.tk 12 (.tk 13 (.tk 14 (.tk 15 (.tk 16 (.tk 17 (.tk 18 (.tk 19 (.tk 20 .done))))))))))))))))))))) (by kernel_rfl) fun w3 h3 => ?_
   have gw3 : Below V.heap.size V w3 := h3.go
   have Sw3 := hS.go (hV.trans (gw3.mono hV.size)) (hV.trans (gw3.mono hV.size)).size
   have Tw3 := hT.go (hV.trans (gw3.mono hV.size)) (hV.trans (gw3.mono hV.size)).size
   refine Branch.yes (by simp only [decide_eq_true_eq]; omega) ?_
   refine Sw3.idx hx fun ad9 had9 => ?_
   refine Sw3.ld1 hx had9 (Below.refl _ _) (by simp) ?_
   have lp3 : Lp ⟨w, w.heap.size, Nat.le_refl _⟩ [w] [] TKi base w3 (.slice ao out.length co) out := lpB gw3
   have gV := gw3.size
   refine NewI.mk fun b1 hb1 => ?_
   have hb1' : w3.heap.size ≤ b1 := hb1
   refine GenN.appL (α := Int) elIn lp3 (fun y hy => .inr (by simp at hy; omega)) (by simp) [x] (fun w8 h8 => src_own h8 0 rfl rfl rfl rfl) (by simp; omega) (by decide) fun a' c' w8 w9 h8 lp9 hsz hbl => ?_
   refine Need.mk (by simp only [inK]; omega) (EndI.mk fun w10 h10 => ⟨(i + 1, k, w10, .slice a' (out ++ [x]).length c', out ++ [x]), Cov.au rfl rfl rfl rfl rfl, rfl, ⟨by simp only; omega, by simp only; omega, h10.below, by simp only [List.length_append, List.length_cons, List.length_nil]; omega, hdone, base, lp9.at h10 (by simp)⟩, by simp only; omega⟩)
  case pos =>
   have hy := List.getElem?_eq_getElem (l := b) (i := k) hB
   generalize b[k] = y at hy
   rw [dA hx, dB hy, Rg.orI_cons, ← dB hy, ← dA hx] at hall
   refine DrawI.go (.tk 0 (.tk 1 (.tk 2 (.tk 3 (.tk 4 (.tk 5 (.tk 6 (.tk 7 (.tk 8 (.tk 9 (.tk 10 (.tk 11 (.tk 12 (.tk 13 (.tk 14 (.tk 15 (.tk 16 (.tk 17 (.tk 18 (.tk 19 (.tk 20 .done))))))))))))))))))))) (by kernel_rfl) fun w3 h3 => ?_
   have gw3 : Below V.heap.size V w3 := h3.go
   have Sw3 := hS.go (hV.trans (gw3.mono hV.size)) (hV.trans (gw3.mono hV.size)).size
   have Tw3 := hT.go (hV.trans (gw3.mono hV.size)) (hV.trans (gw3.mono hV.size)).size
   refine Branch.no (by simp only [decide_eq_false_iff_not]; omega) ?_
   refine Branch.yes (by simp only [decide_eq_true_eq]; omega) ?_
   refine Sw3.idx hx fun ad1 had1 => ?_
   refine Sw3.ld1 hx had1 (Below.refl _ _) (by simp) ?_
   refine Tw3.idx hy fun ad2 had2 => ?_
   refine Tw3.ld1 hy had2 (Below.refl _ _) (by simp) ?_
   refine Branch.mk (fun z1 => ?_) (fun z1 => ?_)
   ·have hxy : x < y := by simpa using z1
    rw [if_pos hxy] at hall
    have hdone : out ++ [x] ++ Rg.orI (a.drop (i + 1)) (b.drop k) = Rg.orI a b := by
     rw [← hall, List.append_assoc]; rfl
    refine Sw3.idx hx fun ad9 had9 => ?_
    refine Sw3.ld1 hx had9 (Below.refl _ _) (by simp) ?_
    have lp3 : Lp ⟨w, w.heap.size, Nat.le_refl _⟩ [w] [] TKi base w3 (.slice ao out.length co) out := lpB gw3
    have gV := gw3.size
    refine NewI.mk fun b1 hb1 => ?_
    have hb1' : w3.heap.size ≤ b1 := hb1
    refine GenN.appL (α := Int) elIn lp3 (fun y hy => .inr (by simp at hy; omega)) (by simp) [x] (fun w8 h8 => src_own h8 0 rfl rfl rfl rfl) (by simp; omega) (by decide) fun a' c' w8 w9 h8 lp9 hsz hbl => ?_
    refine Need.mk (by simp only [inK]; omega) (EndI.mk fun w10 h10 => ⟨(i + 1, k, w10, .slice a' (out ++ [x]).length c', out ++ [x]), Cov.au rfl rfl rfl rfl rfl, rfl, ⟨by simp only; omega, by simp only; omega, h10.below, by simp only [List.length_append, List.length_cons, List.length_nil]; omega, hdone, base, lp9.at h10 (by simp)⟩, by simp only; omega⟩)
   have hxy : ¬ x < y := by simpa using z1
   rw [if_neg hxy] at hall
   refine DrawI.go (.tk 0 (.tk 1 (.tk 2 (.tk 3 (.tk 4 (.tk 5 (.tk 6 (.tk 7 (.tk 8 (.tk 9 (.tk 10 (.tk 11 (.tk 12 (.tk 13 (.tk 14 .done))))))))))))))) (by kernel_rfl) fun w4 h4 => ?_
   have gw4 : Below V.heap.size V w4 := gw3.trans (h4.go.mono gw3.size)
   have Sw4 := hS.go (hV.trans (gw4.mono hV.size)) (hV.trans (gw4.mono hV.size)).size
   have Tw4 := hT.go (hV.trans (gw4.mono hV.size)) (hV.trans (gw4.mono hV.size)).size
   refine Branch.yes (by simp only [decide_eq_true_eq]; omega) ?_
   refine Sw4.idx hx fun ad3 had3 => ?_
   refine Sw4.ld1 hx had3 (Below.refl _ _) (by simp) ?_
   refine Tw4.idx hy fun ad4 had4 => ?_
   refine Tw4.ld1 hy had4 (Below.refl _ _) (by simp) ?_
   refine Branch.mk (fun z2 => ?_) (fun z2 => ?_)
   ·have he : x = y := by simpa using z2
    rw [if_pos he] at hall
    have hdone : out ++ [y] ++ Rg.orI (a.drop (i + 1)) (b.drop (k + 1)) = Rg.orI a b := by
     rw [← hall, List.append_assoc]; rfl
    refine Need.mk (by simp only [inK]; omega) ?_
    refine Tw4.idx hy fun ad9 had9 => ?_
    refine Tw4.ld1 hy had9 (Below.refl _ _) (by simp) ?_
    have lp3 : Lp ⟨w, w.heap.size, Nat.le_refl _⟩ [w] [] TKi base w4 (.slice ao out.length co) out := lpB gw4
    have gV := gw4.size
    refine NewI.mk fun b1 hb1 => ?_
    have hb1' : w4.heap.size ≤ b1 := hb1
    refine GenN.appL (α := Int) elIn lp3 (fun y hy => .inr (by simp at hy; omega)) (by simp) [y] (fun w8 h8 => src_own h8 0 rfl rfl rfl rfl) (by simp; omega) (by decide) fun a' c' w8 w9 h8 lp9 hsz hbl => ?_
    refine Need.mk (by simp only [inK]; omega) (EndI.mk fun w10 h10 => ⟨(i + 1, k + 1, w10, .slice a' (out ++ [y]).length c', out ++ [y]), Cov.au rfl rfl rfl rfl rfl, rfl, ⟨by simp only; omega, by simp only; omega, h10.below, by simp only [List.length_append, List.length_cons, List.length_nil]; omega, hdone, base, lp9.at h10 (by simp)⟩, by simp only; omega⟩)
   ·have he : ¬ x = y := by simpa using z2
    rw [if_neg he] at hall
    have hdone : out ++ [y] ++ Rg.orI (a.drop i) (b.drop (k + 1)) = Rg.orI a b := by
     rw [← hall, List.append_assoc]; rfl
    refine Tw4.idx hy fun ad9 had9 => ?_
    refine Tw4.ld1 hy had9 (Below.refl _ _) (by simp) ?_
    have lp3 : Lp ⟨w, w.heap.size, Nat.le_refl _⟩ [w] [] TKi base w4 (.slice ao out.length co) out := lpB gw4
    have gV := gw4.size
    refine NewI.mk fun b1 hb1 => ?_
    have hb1' : w4.heap.size ≤ b1 := hb1
    refine GenN.appL (α := Int) elIn lp3 (fun y hy => .inr (by simp at hy; omega)) (by simp) [y] (fun w8 h8 => src_own h8 0 rfl rfl rfl rfl) (by simp; omega) (by decide) fun a' c' w8 w9 h8 lp9 hsz hbl => ?_
    refine Need.mk (by simp only [inK]; omega) (EndI.mk fun w10 h10 => ⟨(i, k + 1, w10, .slice a' (out ++ [y]).length c', out ++ [y]), Cov.au rfl rfl rfl rfl rfl, rfl, ⟨by simp only; omega, by simp only; omega, h10.below, by simp only [List.length_append, List.length_cons, List.length_nil]; omega, hdone, base, lp9.at h10 (by simp)⟩, by simp only; omega⟩)
 case neg =>
  have hia : i = a.length := by omega
  refine Branch.no (by simp only [decide_eq_false_iff_not]; omega) ?_
  refine Branch.mk (fun z0 => ?_) (fun z0 => ?_)
  ·have hB : k < b.length := by have := of_decide_eq_true z0; simp only at this; omega
   have hy := List.getElem?_eq_getElem (l := b) (i := k) hB
   generalize b[k] = y at hy
   have hdone : out ++ [y] ++ Rg.orI (a.drop i) (b.drop (k + 1)) = Rg.orI a b := by
    rw [← hall, dB hy, hia, List.drop_length, Rg.orI_nil, Rg.orI_nil, List.append_assoc]; rfl
   refine DrawI.go (.tk 0 (.tk 1 (.tk 2 (.tk 3 (.tk 4 (.tk 5 (.tk 6 (.tk 7 (.tk 8 (.tk 9 (.tk 10 (.tk 11 (.tk 12 (.tk 13 (.tk 14 (.tk 15 (.tk 16 (.tk 17 (.tk 18 (.tk 19 (.tk 20 .done))))))))))))))))))))) (by kernel_rfl) fun w3 h3 => ?_
   have gw3 : Below V.heap.size V w3 := h3.go
   have Sw3 := hS.go (hV.trans (gw3.mono hV.size)) (hV.trans (gw3.mono hV.size)).size
   have Tw3 := hT.go (hV.trans (gw3.mono hV.size)) (hV.trans (gw3.mono hV.size)).size
   refine Branch.no (by simp only [decide_eq_false_iff_not]; omega) ?_
   refine Branch.no (by simp only [decide_eq_false_iff_not]; omega) ?_
   refine DrawI.go (.tk 0 (.tk 1 (.tk 2 (.tk 3 (.tk 4 (.tk 5 (.tk 6 (.tk 7 (.tk 8 (.tk 9 (.tk 10 (.tk 11 (.tk 12 (.tk 13 (.tk 14 .done))))))))))))))) (by kernel_rfl) fun w4 h4 => ?_
   have gw4 : Below V.heap.size V w4 := gw3.trans (h4.go.mono gw3.size)
   have Sw4 := hS.go (hV.trans (gw4.mono hV.size)) (hV.trans (gw4.mono hV.size)).size
   have Tw4 := hT.go (hV.trans (gw4.mono hV.size)) (hV.trans (gw4.mono hV.size)).size
   refine Branch.no (by simp only [decide_eq_false_iff_not]; omega) ?_
   refine Tw4.idx hy fun ad9 had9 => ?_
   refine Tw4.ld1 hy had9 (Below.refl _ _) (by simp) ?_
   have lp3 : Lp ⟨w, w.heap.size, Nat.le_refl _⟩ [w] [] TKi base w4 (.slice ao out.length co) out := lpB gw4
   have gV := gw4.size
   refine NewI.mk fun b1 hb1 => ?_
   have hb1' : w4.heap.size ≤ b1 := hb1
   refine GenN.appL (α := Int) elIn lp3 (fun y hy => .inr (by simp at hy; omega)) (by simp) [y] (fun w8 h8 => src_own h8 0 rfl rfl rfl rfl) (by simp; omega) (by decide) fun a' c' w8 w9 h8 lp9 hsz hbl => ?_
   refine Need.mk (by simp only [inK]; omega) (EndI.mk fun w10 h10 => ⟨(i, k + 1, w10, .slice a' (out ++ [y]).length c', out ++ [y]), Cov.au rfl rfl rfl rfl rfl, rfl, ⟨by simp only; omega, by simp only; omega, h10.below, by simp only [List.length_append, List.length_cons, List.length_nil]; omega, hdone, base, lp9.at h10 (by simp)⟩, by simp only; omega⟩)
  ·have hkb : k = b.length := by have := of_decide_eq_false z0; simp only at this; omega
   rw [hia, hkb, List.drop_length, List.drop_length, Rg.orI_nil, List.append_nil] at hall
   refine EndI.mk fun w10 h10 => ?_
   rw [← hall]
   exact (lp.at h10 (by simp)).own.lower (lp.anc w (by simp))
namespace Rg
end Rg
end Go.Proofs.YtanhnllkccldhaaGreat
namespace Go.Proofs.YtanhnllkccldhaaGreat
set_option linter.unusedVariables false
set_option linter.unusedSimpArgs false
open Go.RowKit Go.Proofs.YtanhnllkccldhaaGreat.Eng Enc
namespace Ky
open Dbm Mi Cv Zs
end Ky
namespace Cl
open Cv Zs Ky Cmp
def cmpV (a b : List Int) (long : Int) : List Int := Rg.up long fun x => (Rg.point x long).2 && Rg.btwB (Rg.mks a (Rg.many long).1.toNat a.length) (Rg.mks b (Rg.many long).1.toNat b.length) (Rg.pt x long) long (6 * long + 1).toNat
theorem cmpV_rl {a b : List Zn} (ha : Ah a) (hb : Ah b) (h : (Zs.comp a b).2 = 0) {long : Int} (hl : 1 ≤ long ∧ long ≤ 16) : cmpV (rl a long) (rl b long) long = rl (Zs.comp a b).1 long := by
 have h1 := comp_rl ha hb h hl
 unfold Rg.comp at h1
 rw [if_neg (by rw [Rg.fits_iff.2 hl]; decide), if_pos ⟨may_rl ha.chk hl, may_rl hb.chk hl⟩] at h1
 unfold cmpV
 rw [Rg.btw_doc hl (may_rl ha.chk hl) (may_rl hb.chk hl)]
 exact congrArg (·.1) h1
theorem Good.ah {long : Int} {l : List Zn} (h : Good long l) : Ah l := fun z hz => ⟨h.chk z hz, (h.ml.mt z hz).f⟩
def nextV (p : List Int) (long : Int) (x : List Int) : List Int := Rg.orI x (cmpV x p long)
def St (p : List Int) (long : Int) : List Int → List (List Int) → Prop
 | x, [] => ¬ x.length < (nextV p long x).length
 | x, y :: ms => y = nextV p long x ∧ x.length < y.length ∧ St p long y ms
theorem St.same {p : List Int} {long : Int} : ∀ {x : List Int} {l m : List (List Int)}, St p long x l → St p long x m → l = m
 | x, [], [], _, _ => rfl
 | x, [], y :: m, h, k => absurd (k.1 ▸ k.2.1) h
 | x, y :: l, [], h, k => absurd (h.1 ▸ h.2.1) k
 | x, y :: l, z :: m, h, k => by
   obtain rfl : y = z := h.1.trans k.1.symm
   rw [St.same h.2.2 k.2.2]
def Rs (long : Int) (x : List Int) : Prop := x.Pairwise (fun a b => a < b) ∧ ∀ n, n ∈ x → n ∈ regs long
theorem Rs.len {long : Int} {x : List Int} (h : Rs long x) : x.length ≤ (regs long).length := nodup_sub _ _ (h.1.imp fun k => by omega) h.2
theorem rs_rl {l : List Zn} (hc : ∀ z, z ∈ l → Zo.chk z = 0) {long : Int} (hl : 1 ≤ long ∧ long ≤ 16) : Rs long (rl l long) := ⟨rl_rising _ _, fun n hn => ((mem_rl hc hl).1 hn).1⟩
theorem rs_cmp (a b : List Int) {long : Int} : Rs long (cmpV a b long) := ⟨Rg.up_rising _ _, fun n hn => by
 unfold cmpV Rg.up at hn
 obtain ⟨m, hm, rfl⟩ := List.mem_map.1 hn
 obtain ⟨h1, h2⟩ := List.mem_filter.1 hm
 simp only [Bool.and_eq_true] at h2
 have h3 := List.mem_range.1 h1
 refine mem_regs.2 ?_
 unfold Rg.isR
 show (decide (0 ≤ (m : Int)) && decide ((m : Int) < _) && (Rg.point (m : Int) long).2) = true
 rw [decide_eq_true (by omega), decide_eq_true (by omega), h2.1]; rfl⟩
theorem rs_or {long : Int} {a b : List Int} (ha : Rs long a) (hb : Rs long b) : Rs long (Rg.orI a b) := ⟨Rg.orI_rising _ _ _ (Nat.le_refl _) ha.1 hb.1, fun n hn => ((Rg.mem_orI _ _ _ (Nat.le_refl _) n).1 hn).elim (ha.2 n) (hb.2 n)⟩
theorem rs_next {long : Int} {p x : List Int} (h : Rs long x) : Rs long (nextV p long x) := rs_or h (rs_cmp _ _)
theorem St.ex (p : List Int) (long : Int) : ∀ (d : Nat) (x : List Int), Rs long x → (regs long).length - x.length ≤ d → ∃ ms, St p long x ms
 | 0, x, hx, hd => ⟨[], fun h => by have := (rs_next (p := p) hx).len; omega⟩
 | d + 1, x, hx, hd => by
   by_cases h : x.length < (nextV p long x).length
   ·obtain ⟨ms, hm⟩ := St.ex p long d (nextV p long x) (rs_next hx) (by omega)
    exact ⟨nextV p long x :: ms, rfl, h, hm⟩
   ·exact ⟨[], h⟩
theorem or_pts_rl {a b c : List Zn} (ha : ∀ z, z ∈ a → Zo.chk z = 0) (hb : ∀ z, z ∈ b → Zo.chk z = 0) (hc : ∀ z, z ∈ c → Zo.chk z = 0) {long : Int} (hl : 1 ≤ long ∧ long ≤ 16) (h : ∀ t, Pts c t ↔ Pts a t ∨ Pts b t) : Rg.orI (rl a long) (rl b long) = rl c long := by
 refine rising_eq (Rg.orI_rising _ _ _ (Nat.le_refl _) (rl_rising _ _) (rl_rising _ _)) (rl_rising _ _) fun x => ?_
 rw [Rg.mem_orI _ _ _ (Nat.le_refl _), mem_rl ha hl, mem_rl hb hl, mem_rl hc hl, h]
 constructor
 ·rintro (⟨p, q⟩ | ⟨p, q⟩)
  ·exact ⟨p, .inl q⟩
  ·exact ⟨p, .inr q⟩
 ·rintro ⟨p, q | q⟩
  ·exact .inl ⟨p, q⟩
  ·exact .inr ⟨p, q⟩
theorem next_rl {long : Int} (hl : 1 ≤ long ∧ long ≤ 6) {a b p : List Zn} (ha : Good long a) (hb : Good long b) (hp : Good long p) (h : ∀ t, Pts b t ↔ Pts a t ∨ Thru (Pts a) (Pts p) t) : nextV (rl p long) long (rl a long) = rl b long := by
 obtain ⟨c1, c2, c3⟩ := comp_good hl ha hp
 unfold nextV
 rw [cmpV_rl ha.ah hp.ah c1 (by omega)]
 exact or_pts_rl ha.chk c2.chk hb.chk (by omega) fun t => by rw [h t, c3 t]
theorem rl_lt {long : Int} (hl : 1 ≤ long ∧ long ≤ 6) {a b : List Zn} (ha : Good long a) (hb : Good long b) (h : ∀ t, Pts a t → Pts b t) (hx : ∃ t, Pts b t ∧ ¬ Pts a t) : (rl a long).length < (rl b long).length := by
 have hl16 : 1 ≤ long ∧ long ≤ 16 := by omega
 obtain ⟨t, ⟨z, hz, hf⟩, hn⟩ := hx
 obtain ⟨n, hn1, hn2⟩ := (hb.ml.mt z hz).rep hl16 hf
 have hnb : n ∈ rl b long := (mem_rl hb.chk hl16).2 ⟨hn1, z, hz, (hn2 z).1 hf⟩
 have hna : n ∉ rl a long := fun h => by
  obtain ⟨_, y, hy, hyf⟩ := (mem_rl ha.chk hl16).1 h
  exact hn ⟨y, hy, (hn2 y).2 hyf⟩
 have hsub : ∀ x, x ∈ rl a long → x ∈ rl b long := fun x hx => by
  obtain ⟨h1, h2⟩ := (mem_rl ha.chk hl16).1 hx
  exact (mem_rl hb.chk hl16).2 ⟨h1, h _ h2⟩
 have := nodup_sub (n :: rl a long) (rl b long) (List.nodup_cons.2 ⟨hna, (rl_rising a long).imp fun k => by omega⟩) fun x hx => (List.mem_cons.1 hx).elim (fun e => e ▸ hnb) (hsub x)
 simp only [List.length_cons] at this
 omega
theorem st_ch {long : Int} (hl : 1 ≤ long ∧ long ≤ 6) {p : List Zn} (hp : Good long p) : ∀ (a : List Zn) (ms : List (List Zn)), (∀ l, l ∈ a :: ms → Good long l) → Ch p a ms → Shut p (lst a ms) → St (rl p long) long (rl a long) (ms.map fun l => rl l long)
 | a, [], hg, _, hs => by
   have ha := hg a (by simp)
   show ¬ (rl a long).length < (nextV (rl p long) long (rl a long)).length
   rw [next_rl hl ha ha hp fun t => ⟨.inl, fun h => h.elim (fun k => k) (hs t)⟩]
   omega
 | a, b :: ms, hg, hc, hs => by
   have ha := hg a (by simp)
   have hb := hg b (by simp)
   exact ⟨(next_rl hl ha hb hp hc.1.1).symm, rl_lt hl ha hb (fun t h => (hc.1.1 t).2 (.inl h)) hc.1.2, st_ch hl hp b ms (fun l h => hg l (List.mem_cons_of_mem _ h)) hc.2 hs⟩
theorem st_more {long : Int} (hl : 1 ≤ long ∧ long ≤ 6) {p : List Zn} (hp : Good long p) : ∀ (a : List Zn) (ms : List (List Zn)) (l : List (List Int)), (∀ x, x ∈ a :: ms → Good long x) → Ch p a ms → St (rl p long) long (rl a long) l → ms.length ≤ l.length
 | a, [], l, _, _, _ => Nat.zero_le _
 | a, b :: ms, l, hg, hc, hs => by
   have ha := hg a (by simp)
   have hb := hg b (by simp)
   have e := next_rl hl ha hb hp hc.1.1
   have hlt := rl_lt hl ha hb (fun t h => (hc.1.1 t).2 (.inl h)) hc.1.2
   cases l with
   | nil => exact absurd (by rw [e]; exact hlt) hs
   | cons y l =>
     have hy : y = rl b long := hs.1.trans e
     have := st_more hl hp b ms l (fun x h => hg x (List.mem_cons_of_mem _ h)) hc.2 (hy ▸ hs.2.2)
     simp only [List.length_cons]; omega
theorem first_rl {long : Int} (hl : 1 ≤ long ∧ long ≤ 6) {old p a : List Zn} (ho : Good long old) (hp : Good long p) (ha : Good long a) (h : First old p a) : Rg.orI (rl p long) (cmpV (rl old long) (rl p long) long) = rl a long := by
 obtain ⟨c1, c2, c3⟩ := comp_good hl ho hp
 rw [cmpV_rl ho.ah hp.ah c1 (by omega)]
 exact or_pts_rl hp.chk c2.chk ha.chk (by omega) fun t => by rw [h t, c3 t]
end Cl
end Go.Proofs.YtanhnllkccldhaaGreat
namespace Go.Proofs.YtanhnllkccldhaaGreat
set_option linter.unusedVariables false
set_option linter.unusedSimpArgs false
set_option maxRecDepth 100000
open Go.RowKit Go.Proofs.YtanhnllkccldhaaGreat.Eng Enc
namespace Tb
def cnt (long : Int) (k : Nat) : Nat := ((List.range k).filter fun n : Nat => (Rg.point (n : Int) long).2).length
theorem cnt_step (long : Int) (k : Nat) : cnt long (k + 1) = cnt long k + (if (Rg.point (k : Int) long).2 = true then 1 else 0) := by
 unfold cnt
 rw [List.range_succ, List.filter_append, List.length_append]
 cases h : (Rg.point (k : Int) long).2 <;> simp [h]
theorem cnt_le (long : Int) (k : Nat) : cnt long k ≤ k := by
 unfold cnt
 have := List.length_filter_le (fun n : Nat => (Rg.point (n : Int) long).2) (List.range k)
 rwa [List.length_range] at this
theorem cnt_regs {long : Int} {M : Nat} (h : (Rg.many long).1 = M) : (Ky.regs long).length = cnt long M := by
 unfold Ky.regs Rg.up cnt
 rw [List.length_map, h, Int.toNat_natCast]
 congr 1
 refine List.filter_congr fun n hn => ?_
 have := List.mem_range.1 hn
 unfold Rg.isR
 rw [h, decide_eq_true (by omega), decide_eq_true (by omega)]; rfl
def crowded (zones long : Int) : Bool := decide (zones < ((Ky.regs long).length : Int)) || decide (4096 < 40 * ((Ky.regs long).length : Int))
theorem may_iff (l : List Zn) : may l = true ↔ Zs.check l = 0 ∧ Cl.odd l = false := by
 unfold may Zs.check
 simp only [Bool.and_eq_true, decide_eq_true_eq, Bool.not_eq_true']
 constructor
 ·rintro ⟨h1, h2, h3⟩
  exact ⟨by rw [if_pos ⟨h2, h3.symm⟩], h1⟩
 ·rintro ⟨h1, h2⟩
  split at h1
  ·rename_i h; exact ⟨h2, h.1, h.2.symm⟩
  ·cases h1
end Tb
set_option maxHeartbeats 1000000 in
theorem rregions24_any (long : Int) (hl : 1 ≤ long ∧ long ≤ 16) (w : World) : Calls Tryz.prog 47 #[.int .i64 long] w fun e w' => e = .returned (.int .i64 ((Ky.regs long).length : Int)) ∧ Below w.heap.size w w' := by
 refine fun_eq 0 w Tryz.func47 (args := [.val (.int .i64 long)]) rfl rfl ?_
 have hmm := Fr.mul_bd (u := 3 * (2 * long + 1)) (v := 2 * long + 1) (m := 99) (n := 33) (by omega) (by omega) (by omega) (by omega)
 have hmany := Rg.many_doc hl
 obtain ⟨M, hM⟩ : ∃ M : Nat, 3 * (2 * long + 1) * (2 * long + 1) = M := ⟨(3 * (2 * long + 1) * (2 * long + 1)).toNat, by omega⟩
 have hM1 : (Rg.many long).1 = M := by rw [hmany]; exact hM
 rw [Tb.cnt_regs hM1]
 refine LoopI.invC (α := Nat × World) (fun y => [(3, .val (.int .i64 (Tb.cnt long y.1 : Int))), (4, .val (.int .i64 y.1))]) (fun y => y.2) (fun y => y.1 ≤ M) (fun y => M - y.1) ?_ ?_
 ·intro w1 h1
  exact ⟨(0, w1), Cov.au rfl rfl rfl rfl rfl, rfl, Nat.zero_le _⟩
 rintro ⟨k, V⟩ hk
 simp only at hk
 have hc := fun w => rcount14_any long hl w
 rw [hM] at hc
 refine CallI.to1 hc fun w2 => ?_
 have hle := Tb.cnt_le long k
 refine Branch.mk (fun hc2 => ?_) (fun hc2 => ?_)
 ·have hlt : k < M := by have := of_decide_eq_true hc2; simp only at this; omega
  have hst := Tb.cnt_step long k
  refine CallI.to1 (fun w => rof14_any (k : Int) long hl (by omega) w) fun w3 => ?_
  refine NewI.mk fun b1 hb1 => ?_
  refine Branch.mk (fun hc3 => ?_) (fun hc3 => ?_)
  ·rw [if_pos hc3] at hst
   have e : ((Tb.cnt long k : Nat) : Int) + 1 = ((Tb.cnt long (k + 1) : Nat) : Int) := by rw [hst]; push_cast; rfl
   refine Need.mk (by simp only [inK]; omega) ?_
   refine Need.mk (by simp only [inK]; omega) (EndI.mk fun w9 h9 => ⟨(k + 1, w9), ?_, rfl, hlt, by simp only; omega⟩)
   simp only
   rw [← e]
   exact Cov.au rfl rfl rfl rfl rfl
  ·rw [if_neg (by rw [hc3]; decide)] at hst
   refine Need.mk (by simp only [inK]; omega) (EndI.mk fun w9 h9 => ⟨(k + 1, w9), ?_, rfl, hlt, by simp only; omega⟩)
   simp only
   rw [hst]
   exact Cov.au rfl rfl rfl rfl rfl
 ·have hge : k = M := by have := of_decide_eq_false hc2; simp only at this; omega
  subst hge
  exact EndI.mk fun w9 h9 => rfl
theorem rcrowded24_any (zones long : Int) (hl : 1 ≤ long ∧ long ≤ 16) (w : World) : Calls Tryz.prog 19 #[.int .i64 zones, .int .i64 long] w fun e w' => e = .returned (.bool (Tb.crowded zones long)) ∧ Below w.heap.size w w' := by
 refine fun_eq 0 w Tryz.func19 (args := [.val (.int .i64 zones), .val (.int .i64 long)]) rfl rfl ?_
 have hr := Ky.regs_len hl
 unfold Tb.crowded
 refine CallI.to1 (fun w => rregions24_any long hl w) fun w2 => ?_
 refine Branch.mk (fun h1 => ?_) (fun h1 => ?_)
 ·exact EndI.mk fun w9 h9 => by rw [h1]; rfl
 refine Need.mk (by simp only [inK]; omega) ?_
 exact EndI.mk fun w9 h9 => by rw [h1]; rfl
theorem rmaycaps25_any (cz cr : Int) (w : World) : Calls Tryz.prog 55 #[.agg #[.int .i64 cz, .int .i64 cr]] w fun e w' => e = .returned (.bool (decide ((1 ≤ cz ∧ cz ≤ 4096) ∧ (1 ≤ cr ∧ cr ≤ 4096)))) ∧ Below w.heap.size w w' := by
 refine fun_eq 0 w Tryz.func55 (args := [.agg [.val (.int .i64 cz), .val (.int .i64 cr)]]) rfl rfl ?_
 refine NewI.mk fun b1 hb1 => ?_
 refine Branch.mk (fun h1 => ?_) (fun h1 => ?_)
 case refine_2 => exact EndI.mk fun w9 h9 => by have := of_decide_eq_false h1; rw [decide_eq_false (by omega)]
 have h1 := of_decide_eq_true h1
 refine Branch.mk (fun h2 => ?_) (fun h2 => ?_)
 case refine_2 => exact EndI.mk fun w9 h9 => by have := of_decide_eq_false h2; rw [decide_eq_false (by omega)]
 have h2 := of_decide_eq_true h2
 refine Branch.mk (fun h3 => ?_) (fun h3 => ?_)
 case refine_2 => exact EndI.mk fun w9 h9 => by have := of_decide_eq_false h3; rw [decide_eq_false (by omega)]
 have h3 := of_decide_eq_true h3
 exact EndI.mk fun w9 h9 => by congr 1; rw [decide_eq_decide]; omega
theorem rcheck25_any (old p : List Zn) (io : ∀ z, z ∈ old → Zo.i64 z) (ip : ∀ z, z ∈ p → Zo.i64 z) (cz cr : Int) (a b : Option Addr) (ca cb : Nat) (w : World) (hS : Sl w.heap.size w (.slice a old.length ca) old) (hT : Sl w.heap.size w (.slice b p.length cb) p) :
 Calls Tryz.prog 26 #[.slice a old.length ca, .slice b p.length cb, .agg #[.int .i64 cz, .int .i64 cr]] w fun e w' => e = .returned (.int .i64 (Cl.chk old p cz cr)) ∧ Below w.heap.size w w' := by
 refine fun_eq 0 w Tryz.func26 (args := [.val (.slice a old.length ca), .val (.slice b p.length cb), .agg [.val (.int .i64 cz), .val (.int .i64 cr)]]) rfl rfl ?_
 have st := Stay.first (w := w)
 refine NewI.mk fun b1 hb1 => ?_
 apply CallI.use1
 focus (exact fun w2 h2 => rmaycaps25_any cz cr w2)
 intro w2 v2 h2 hB2
 have st := st.nx h2 hB2
 unfold Cl.chk
 by_cases h1 : (1 ≤ cz ∧ cz ≤ 4096) ∧ (1 ≤ cr ∧ cr ≤ 4096)
 case neg =>
  refine Branch.yes (by rw [decide_eq_false h1]; rfl) ?_
  rw [if_pos (Classical.or_iff_not_imp_left.2 fun h2 h3 => h1 ⟨Classical.not_not.1 h2, h3⟩)]
  exact EndI.mk fun w9 h9 => rfl
 refine Branch.no (by rw [decide_eq_true h1]; rfl) ?_
 rw [if_neg (fun h => h.elim (fun k => k h1.1) fun k => k h1.2)]
 have key : ∀ l : List Zn, Tb.may l = false → Zs.check l ≠ 0 ∨ Cl.odd l = true := fun l h => by
  apply Classical.byContradiction
  intro hn
  rw [not_or, Classical.not_not, Bool.not_eq_true] at hn
  rw [(Tb.may_iff l).2 hn] at h; cases h
 apply CallI.use1
 focus (exact fun w3 h3 => rmaylist_any old io a ca w3 (hS.st (st.at h3)))
 intro w3 v3 h3 hB3
 have st := st.nx h3 hB3
 refine Branch.mk (fun h2 => ?_) (fun h2 => ?_)
 ·have h2 : Tb.may old = false := by simpa using h2
  rw [if_pos (by rcases key old h2 with h | h; exact .inl h; exact .inr (.inr (.inl h)))]
  exact EndI.mk fun w9 h9 => rfl
 have h2 : Tb.may old = true := by simpa using h2
 apply CallI.use1
 focus (exact fun w4 h4 => rmaylist_any p ip b cb w4 (hT.st (st.at h4)))
 intro w4 v4 h4 hB4
 have st := st.nx h4 hB4
 refine Branch.mk (fun h3 => ?_) (fun h3 => ?_)
 ·have h3 : Tb.may p = false := by simpa using h3
  rw [if_pos (by rcases key p h3 with h | h; exact .inr (.inl h); exact .inr (.inr (.inr h)))]
  exact EndI.mk fun w9 h9 => rfl
 have h3 : Tb.may p = true := by simpa using h3
 obtain ⟨k1, k2⟩ := (Tb.may_iff old).1 h2
 obtain ⟨k3, k4⟩ := (Tb.may_iff p).1 h3
 rw [if_neg (by rw [k1, k2, k3, k4]; simp)]
 exact EndI.mk fun w9 h9 => rfl
end Go.Proofs.YtanhnllkccldhaaGreat
namespace Go.Proofs.YtanhnllkccldhaaGreat
set_option linter.unusedVariables false
set_option linter.unusedSimpArgs false
set_option maxRecDepth 100000
open Go.RowKit Go.Shelf Go.Proofs.YtanhnllkccldhaaGreat.Eng Enc
theorem infoTZs : (Tryz.prog.info? Cl.TZs).map (fun i => (i.zero, i.size, i.bytes)) = some (some (.slice none 0 0), 1, 24) := by kernel_rfl
theorem elTZs : ElOk Tryz.prog 58 Cl.TZs 1 24 := elOk (by kernel_rfl) infoTZs rfl (by decide)
namespace Cl
def Rows (n₁ : Nat) (W : World) (ss : List Svl) (ls : List (List Zn)) : Prop := ∀ (k : Nat) (s : Svl) (l : List Zn), ss[k]? = some s → ls[k]? = some l → Own TZ n₁ W (.slice s.a s.len s.cap) l
theorem Rows.nil {n₁ : Nat} {W : World} {ls : List (List Zn)} : Rows n₁ W [] ls := fun k s l h => by simp at h
theorem own_cells {e : TypeId} {n₁ : Nat} {W X : World} {a : Option Addr} {n c : Nat} {l : List Zn} (h : Own e n₁ W (.slice a n c) l) (hk : ∀ (k : Nat) (cs : Array Value) (f : Nat × Nat), W.heap[k]? = some (.cells cs e f) → n₁ ≤ k → X.heap[k]? = W.heap[k]?) : Own e n₁ X (.slice a n c) l := by
 obtain ⟨hl, h0 | ⟨g, cap, cur, e1, e2, e3, e4⟩⟩ := h
 ·exact ⟨hl, .inl h0⟩
 ·exact ⟨hl, .inr ⟨g, cap, cur, e1, e2, (hk g _ _ e3 e2).trans e3, e4⟩⟩
theorem Rows.cells {n₁ : Nat} {W X : World} {ss : List Svl} {ls : List (List Zn)} (h : Rows n₁ W ss ls) (hk : ∀ (k : Nat) (cs : Array Value) (f : Nat × Nat), W.heap[k]? = some (.cells cs TZ f) → X.heap[k]? = W.heap[k]?) : Rows n₁ X ss ls := fun k s l hs hl => own_cells (h k s l hs hl) fun k cs f hk' _ => hk k cs f hk'
theorem Rows.app {n₁ : Nat} {W : World} {ss : List Svl} {ls : List (List Zn)} {s : Svl} {l : List Zn} (he : ss.length = ls.length) (h : Rows n₁ W ss ls) (h1 : Own TZ n₁ W (.slice s.a s.len s.cap) l) : Rows n₁ W (ss ++ [s]) (ls ++ [l]) := fun k t m ht hm => by
 by_cases hk : k < ss.length
 ·rw [List.getElem?_append_left hk] at ht
  rw [List.getElem?_append_left (by omega)] at hm
  exact h k t m ht hm
 ·have hk2 : k = ss.length := by
   have := (List.getElem?_eq_some_iff.1 ht).1
   simp at this; omega
  subst hk2
  rw [List.getElem?_append_right (Nat.le_refl _), Nat.sub_self] at ht
  rw [he, List.getElem?_append_right (Nat.le_refl _), Nat.sub_self] at hm
  simp at ht hm
  subst ht; subst hm
  exact h1
theorem Rows.below {n₁ : Nat} {W X : World} {ss : List Svl} {ls : List (List Zn)} (h : Rows n₁ W ss ls) (hB : Below W.heap.size W X) : Rows n₁ X ss ls := fun k s l hs hl => (h k s l hs hl).below hB
end Cl
set_option maxHeartbeats 4000000 in
open Cl in
theorem crounds_any (old part : List Zn) (cz cr : Int) (ao ap : Option Addr) (co cp : Nat) (w : World) (hO : Sl w.heap.size w (.slice ao old.length co) old) (hP : Sl w.heap.size w (.slice ap part.length cp) part) :
 Calls Tryz.prog 25 #[.slice ao old.length co, .slice ap part.length cp, .agg #[.int .i64 cz, .int .i64 cr]] w (Ret w fun v w' => ∃ a' c' ss, v = .tuple #[.slice a' ss.length c', .int .i64 (Cl.rounds old part cz cr).2] ∧ ss.length = (Cl.rounds old part cz cr).1.length ∧ Own TZs w.heap.size w' (.slice a' ss.length c') (ss : List Svl) ∧ Cl.Rows w.heap.size w' ss (Cl.rounds old part cz cr).1) := by
 refine fun_at 9 w.heap.size w (Nat.le_refl _) Tryz.func25 (args := [.val (.slice ao old.length co), .val (.slice ap part.length cp), .agg [.val (.int .i64 cz), .val (.int .i64 cr)]]) rfl rfl ?_
 refine NewI.mk fun b5 hb5 => ?_
 refine NewI.mk fun b6 hb6 => ?_
 refine NewI.mk fun b7 hb7 => ?_
 have e5 : w.heap.size ≤ b5 := hb5
 have e6 : w.heap.size ≤ b6 := hb6
 have e7 : w.heap.size ≤ b7 := hb7
 apply CallI.use1
 focus (exact fun w3 h3 => cchecked_any old part cz cr ao ap co cp w3 (Sl.at h3 hO) (Sl.at h3 hP))
 intro w3 v3 h3 hB3
 unfold Cl.rounds
 refine Branch.mk (fun z1 => ?_) (fun z1 => ?_)
 ·rw [if_pos (of_decide_eq_true z1)]
  exact EndI.mk fun w9 h9 => ⟨_, _, [], rfl, rfl, Own.nil, Cl.Rows.nil⟩
 have h0 : chk old part cz cr = 0 := by simpa using z1
 obtain ⟨hcz, hcr⟩ := chk_zero h0
 rw [if_neg (by rw [h0]; simp), h0]
 have lb : ∀ b, b ∈ [b5, b6, b7] → b < w3.heap.size := fun b hb => h3.lt b hb
 have hw3 : w.heap.size ≤ w3.heap.size := h3.below.size
 have hs3 := hB3.size
 apply CallI.mk
 intro w7 h7
 refine (crounds_at ao ap old.length part.length co cp cz cr w7).mono ?_
 rintro e w8 ⟨rfl, rfl⟩
 have q1 : Below w7.heap.size w7 (w7.alloc (.cells #[.slice ao old.length co] TZs)) := below_al (Below.refl _ _)
 have g1 := World.alloc_heap_new w7 (.cells #[.slice ao old.length co] TZs)
 have s1 : (w7.alloc (.cells #[.slice ao old.length co] TZs)).heap.size = w7.heap.size + 1 := by simp
 generalize w7.alloc (.cells #[.slice ao old.length co] TZs) = x1 at q1 g1 s1 ⊢
 have q2 : Below x1.heap.size x1 (x1.alloc (.cells #[.slice ap part.length cp] TZs)) := below_al (Below.refl _ _)
 have g2 := World.alloc_heap_new x1 (.cells #[.slice ap part.length cp] TZs)
 have s2 : (x1.alloc (.cells #[.slice ap part.length cp] TZs)).heap.size = x1.heap.size + 1 := by simp
 generalize x1.alloc (.cells #[.slice ap part.length cp] TZs) = x2 at q2 g2 s2 ⊢
 have q3 : Below x2.heap.size x2 (x2.alloc (.cells #[.int .i64 cz, .int .i64 cr] TCaps)) := below_al (Below.refl _ _)
 have g3 := World.alloc_heap_new x2 (.cells #[.int .i64 cz, .int .i64 cr] TCaps)
 have s3 : (x2.alloc (.cells #[.int .i64 cz, .int .i64 cr] TCaps)).heap.size = x2.heap.size + 1 := by simp
 generalize x2.alloc (.cells #[.int .i64 cz, .int .i64 cr] TCaps) = w8 at q3 g3 s3 ⊢
 have hB8 : Below w7.heap.size w7 w8 := (q1.trans (q2.mono (by omega))).trans (q3.mono (by omega))
 refine ⟨h7.keep hB8, _, rfl, ?_⟩
 have k1 : w8.heap[w7.heap.size]? = some (.cells #[.slice ao old.length co] TZs (0, 0)) := (q3.block _ (by omega)).trans ((q2.block _ (by omega)).trans g1)
 have k2 : w8.heap[w7.heap.size + 1]? = some (.cells #[.slice ap part.length cp] TZs (0, 0)) := (q3.block _ (by omega)).trans (by rw [← s1]; exact g2)
 have k3 : w8.heap[w7.heap.size + 2]? = some (.cells #[.int .i64 cz, .int .i64 cr] TCaps (0, 0)) := by rw [show w7.heap.size + 2 = x2.heap.size by omega]; exact g3
 have lb7 : ∀ b, b ∈ [b5, b6, b7] → b < w7.heap.size := fun b hb => h7.lt b hb
 have hw7 : w.heap.size ≤ w7.heap.size := h7.below.size
 have hw8 : Below w.heap.size w w8 := h7.below.trans (hB8.mono hw7)
 have s8 : w8.heap.size = w7.heap.size + 3 := by omega
 generalize w7.heap.size = B0 at k1 k2 k3 lb7 hw7 s8 ⊢
 refine RawI.mk fun ac w10 hR => ?_
 have h10 := hR.at_
 have hB10 : Below w8.heap.size w8 w10 := at_below h10 (by simp)
 have hsz10 : w8.heap.size ≤ w10.heap.size := hB10.size
 have hw10 : Below w.heap.size w w10 := hw8.trans (hB10.mono (by omega))
 have nR : ∀ q, B0 ≤ q → q ∉ [b5, b6, b7] := fun q hq hm => by have := lb7 q hm; omega
 have hseq := rounds_stops 8 B0 (B0 + 1) (B0 + 2) w.heap.size w10.heap.size [b5, b6, b7] old part ao ap co cp cz cr hcz hcr w10 (by omega) (Nat.le_refl _) ⟨by omega, nR _ (by omega)⟩ ⟨by omega, nR _ (by omega)⟩ ⟨by omega, nR _ (by omega)⟩ ((hB10.block _ (by omega)).trans k1) ((hB10.block _ (by omega)).trans k2) ((hB10.block _ (by omega)).trans k3) (hO.below hw10) (hP.below hw10)
 refine rangeVu (α := RV) (encs := encV) cxOk (by decide) hR rfl Tryz.call91 hseq (fun z => V.own z) (by omega) (by show w.heap.size ≤ B0 + 2; omega) (nR _ (by omega))
  ?kt ?kb (fun x => rfl)
  (γ := Value × Int) (fun c => [⟨[.val (.int .i64 cz), .val (.int .i64 cr)], TCaps⟩, ⟨[.val c.1], 58⟩, ⟨[.val (.int .i64 0)], 28⟩])
  (fun (pre : List RV) (c : Value × Int) W => (∀ x : RV, x ∈ pre → x.e = 0) ∧ ∃ ss : List Svl, ss.length = pre.length ∧ Own TZs w10.heap.size W c.1 ss ∧ Cl.Rows w10.heap.size W ss (pre.map fun x => (Cv.prune x.l).1)) ?phi (.slice none 0 0, 0) rfl ⟨by simp, [], rfl, Own.nil, Cl.Rows.nil⟩
  (fun (c : Code) (pre : List RV) (q : Value × Int) (W : World) => c = .ret ∧ ∃ (pre0 : List RV) (x : RV), pre = pre0 ++ [x] ∧ (∀ y : RV, y ∈ pre0 → y.e = 0) ∧ x.e ≠ 0 ∧ q.2 = x.e)
  (fun _ q => [⟨[.val (.int .i64 cz), .val (.int .i64 cr)], TCaps⟩, ⟨[.val (.slice none 0 0)], 58⟩, ⟨[.val (.int .i64 q.2)], 28⟩])
  (fun c q pre A B row h hg hr => h) (fun z => [(8, .val (.slice z.a z.l.length z.c)), (9, .val (.int .i64 z.e))]) (fun z => []) (fun c bs => True) ?asg ?body ?done ?stop
 case kt =>
  exact fun h k => ⟨h.1.trans k.1, fun q hq hm => (k.2.1 q hq hm).trans (h.2.1 q hq hm), fun q cs f hq => (k.2.2 q cs f ((h.2.2 q cs f hq).trans hq)).trans (h.2.2 q cs f hq)⟩
 case kb =>
  intro W l o o' hl ho h1 h2
  refine ⟨⟨rfl, rfl, rfl, by simp, fun k hk => World.putObj_heap_other (by omega)⟩, fun q hq _ => World.putObj_heap_other (by omega), fun q cs f hq => World.putObj_heap_other (fun e => ?_)⟩
  subst e
  rw [ho] at hq; injection hq with hq; subst hq; cases h1
 case phi =>
  rintro c pre A C row ⟨hz, ss, hl, hOw, hRw⟩ hg hr
  exact ⟨hz, ss, hl, own_turn hOw hg hr (by omega), fun k s l hs hl => own_turn (hRw k s l hs hl) hg hr (by omega)⟩
 case asg =>
  intro l pre z c W hΦ hV hBW hsW hN
  refine ⟨rfl, [], rfl, trivial, Need.mk ⟨rfl, rfl, (List.append_nil _).symm, rfl⟩ (EndI.mk fun w9 h9 => ?_)⟩
  have hg := at_below h9 (by simp)
  exact ⟨below_keepsFrom hg _, ⟨hg.mono (by omega), fun q hq _ => hg.block q (by omega), fun q cs f hq => hg.block q (Array.getElem?_eq_some_iff.1 hq).1⟩, ⟨hΦ.1, by obtain ⟨_, ss, hl, hOw, hRw⟩ := hΦ; exact ⟨ss, hl, hOw.below hg, hRw.below hg⟩⟩, Own.below hV hg⟩
 case body =>
  intro l pre x c bs W hbs hψ hΦ hV hBW hsW hN
  obtain rfl := List.eq_nil_of_length_eq_zero hbs
  obtain ⟨hz, ss, hsl, hOw, hRw⟩ := hΦ
  refine Branch.mk (fun z3 => ?_) (fun z3 => ?_)
  ·have hx : x.e ≠ 0 := by simpa using z3
   refine ⟨(c.1, x.e), Need.mk (CovH.mk rfl rfl rfl) (EndI.mk fun w9 h9 => ?_)⟩
   refine ⟨⟨h9.size, fun k o hk ho hcl => (h9.step k (Array.getElem?_eq_some_iff.1 ho).1 (fun hm => ?_)).trans ho⟩, rfl, pre, x, rfl, hz, hx, rfl⟩
   have m6 := lb7 b6 (by simp); have m7 := lb7 b7 (by simp)
   simp at hm
   omega
  ·have hx : x.e = 0 := by simpa using z3
   apply CallI.use
   focus (exact fun w3 h3 => zsof_any x.l x.a x.c w3 (Sl.go (Own.sl hV) (at_below h3 (by simp)) (at_below h3 (by simp)).size))
   rintro v w11 v11 h11 hB11 ⟨a11, c11, rfl, hO11⟩
   have hF := at_below h11 (by simp)
   have hF := hF.trans (hB11.mono hF.size)
   refine NewI.mk fun b8 hb8 => ?_
   have hb8' : W.heap.size ≤ b8 := Nat.le_trans (by exact h11.size) (Nat.le_trans hB11.size hb8)
   have hF' : W.heap.size ≤ v11.heap.size := hF.size
   have m5 := lb7 b5 (by simp)
   have m6 := lb7 b6 (by simp)
   have m7 := lb7 b7 (by simp)
   have hr : ∀ k, c.1.ownBlock = some k → w.heap.size ≤ k ∧ k ∉ [b5, b6, b7, b8] := fun k hk => by
    have hkk := hOw.lt k hk
    refine ⟨by omega, fun hm => ?_⟩
    simp only [List.mem_cons, List.not_mem_nil, or_false] at hm
    omega
   have t6 : ∃ cs, W.heap[b6]? = some (.cells cs 58 (0, 0)) := ⟨_, (h11.step b6 (by omega) (by simp)).symm.trans (h11.blk 1 b6 _ rfl rfl)⟩
   refine GenN.app (α := Svl) elTZs ss [⟨a11, (Cv.prune x.l).1.length, c11⟩] w10.heap.size (fun w5 h5 => (hOw.below hF).below h5.go) (fun w5 h5 => src_own h5 3 rfl rfl rfl rfl) (by unfold maxLen; simp; omega) (by simp; omega) (fun w5 h5 => Nat.le_trans (Nat.le_trans hsW hF') h5.size)
    (fun w5 w6 h5 hg => keep_grown h5 hg hr) fun sv' w5 w6 h5 hg hO' => ?_
   obtain ⟨a', c', rfl⟩ := hO'.form
   refine ⟨(.slice a' (ss ++ [(⟨a11, (Cv.prune x.l).1.length, c11⟩ : Svl)]).length c', 0), ?_⟩
   refine Need.mk (CovH.mk rfl rfl rfl) (EndI.mk fun w9 h9 => ?_)
   have hv5 : v11.heap.size ≤ w5.heap.size := h5.size
   have hs6 := hg.size
   have hs9 := h9.size
   have hW9 : W.heap.size ≤ w9.heap.size := by omega
   have keep1 : ∀ k, k < W.heap.size → k ≠ b6 → c.1.ownBlock ≠ some k → w9.heap[k]? = W.heap[k]? := fun k hkW h3 hrow => by
    refine (h9.step k (by omega) (fun hm => ?_)).trans ((hg.block k (by omega) (fun e => hrow e.symm)).trans ((h5.go.block k (by omega)).trans (hF.block k hkW)))
    simp at hm; omega
   have rowt : ∀ (k : Nat) (cs : Array Value) (t : TypeId) (f : Nat × Nat), c.1.ownBlock = some k → W.heap[k]? = some (.cells cs t f) → t = TZs := fun k cs t f e hk => by
    obtain ⟨_, ⟨e0, _⟩ | ⟨g, cp, cur, e0, _, hgb, _⟩⟩ := id hOw
    ·rw [e0] at e; cases e
    ·rw [e0] at e
     injection e with e
     subst e
     rw [hgb] at hk; injection hk with hk; injection hk with _ hk; exact hk.symm
   have rowc : ∀ k, c.1.ownBlock = some k → ∃ (cs : Array Value) (f : Nat × Nat), W.heap[k]? = some (.cells cs TZs f) := fun k e => by
    obtain ⟨_, ⟨e0, _⟩ | ⟨g, cp, cur, e0, _, hgb, _⟩⟩ := id hOw
    ·rw [e0] at e; cases e
    ·rw [e0] at e
     injection e with e
     subst e
     exact ⟨_, _, hgb⟩
   have keepT : ∀ (k : Nat) (cs : Array Value) (f : Nat × Nat), W.heap[k]? = some (.cells cs TZ f) → w9.heap[k]? = W.heap[k]? := fun k cs f hk => by
    refine keep1 k (Array.getElem?_eq_some_iff.1 hk).1 (fun e => ?_) (fun e => ?_)
    ·obtain ⟨_, t6⟩ := t6
     subst e
     rw [t6] at hk; injection hk with hk; injection hk with _ hk; exact absurd hk (by decide)
    ·exact absurd (rowt k _ _ _ e hk) (by decide)
   refine ⟨⟨hW9, fun k o hk7 hk hcl => ?_⟩, ⟨?_, ?_, keepT⟩, ?_, ss ++ [⟨a11, (Cv.prune x.l).1.length, c11⟩], by simp [hsl], ?_, ?_⟩
   ·have hkW : k < W.heap.size := (Array.getElem?_eq_some_iff.1 hk).1
    refine (keep1 k hkW (by omega) (fun e => ?_)).trans hk
    obtain ⟨_, _, h⟩ := rowc k e
    rw [h] at hk; cases hk; cases hcl
   ·exact below_between (X := w) hBW (by exact h9.below) hW9
   ·exact fun k hk hm => keep1 k (by omega) (fun e => hm (by rw [e]; simp)) (fun e => by have := hOw.lt k e; omega)
   ·intro y hy
    rcases List.mem_append.1 hy with hy | hy
    ·exact hz y hy
    ·rw [List.mem_singleton.1 hy]; exact hx
   ·exact hO'.at h9 (fun b hb => by simp at hb; omega)
   ·rw [List.map_append]
    refine Rows.app (by simp [hsl]) (hRw.cells keepT) ?_
    refine Own.lower (own_cells hO11 (fun k cs f hk hge => ?_)) (by have := h11.size; omega)
    have hkv := (Array.getElem?_eq_some_iff.1 hk).1
    have h11s := h11.size
    refine (h9.step k (by omega) (fun hm => ?_)).trans ((hg.block k (by omega) (fun e => ?_)).trans (h5.go.block k hkv))
    ·simp at hm; omega
    ·have := hOw.lt k e.symm; omega
 case done =>
  rintro D xs c W hD hSx ⟨hz, ss, hsl, hOw, hRw⟩ hmark
  have hDW : D < W.heap.size := (Array.getElem?_eq_some_iff.1 hmark).1
  have hf : (seq old part cz cr).find? (fun x => decide (x.2 ≠ 0)) = none := by
   rw [← hSx, List.find?_eq_none]
   intro y hy
   obtain ⟨x, hx, rfl⟩ := List.mem_map.1 hy
   simp [rv, hz x hx]
  rw [hf]
  have hmm : (xs.map fun x => (Cv.prune x.l).1) = (seq old part cz cr).map (fun x => (Cv.prune x.1).1) := by rw [← hSx, List.map_map]; rfl
  rw [hmm] at hRw
  obtain ⟨a', c', hcc⟩ := hOw.form
  obtain ⟨c1, c2⟩ := c
  simp only at hOw hcc
  subst hcc
  have m5 := lb7 b5 (by simp); have m6 := lb7 b6 (by simp); have m7 := lb7 b7 (by simp)
  refine EndM.mk fun w13 h13 => ⟨⟨by show w.heap.size ≤ D; omega, (h13.step D hDW (by simp)).trans hmark⟩, fun w14 hu => ?_⟩
  have same : ∀ (k : Nat) (cs : Array Value) (t : TypeId) (f : Nat × Nat), W.heap[k]? = some (.cells cs t f) → w10.heap.size ≤ k → w14.heap[k]? = W.heap[k]? := fun k cs t f hk hge => by
   have hkW := (Array.getElem?_eq_some_iff.1 hk).1
   refine (hu.2.2.2.2 k (fun e => ?_)).trans (h13.step k hkW (by simp))
   subst e
   rw [hmark] at hk; cases hk
  refine ⟨_, _, ss, rfl, ?_, ?_, ?_⟩
  ·rw [hsl]
   show xs.length = ((seq old part cz cr).map (fun x => (Cv.prune x.1).1)).length
   rw [List.length_map, ← hSx, List.length_map]
  ·obtain ⟨hl, h0 | ⟨g, cap, cur, e1, e2, e3, e4⟩⟩ := hOw
   ·exact ⟨hl, .inl h0⟩
   ·exact ⟨hl, .inr ⟨g, cap, cur, e1, by omega, (same g _ _ _ e3 e2).trans e3, e4⟩⟩
  ·exact fun k s l hs hl => (own_cells (hRw k s l hs hl) fun q cs f hq hge => same q cs _ f hq hge).lower (by omega)
 case stop =>
  rintro D cd e pre q W hD hSp ⟨rfl, pre0, x, rfl, hz, hx, hq⟩ hex hmark
  have hDW : D < W.heap.size := (Array.getElem?_eq_some_iff.1 hmark).1
  obtain ⟨t, ht⟩ := hSp
  have hf : (seq old part cz cr).find? (fun x => decide (x.2 ≠ 0)) = some (rv x) := by
   rw [← ht, List.map_append, List.append_assoc, List.find?_append, List.find?_eq_none.2 (fun y hy => by
    obtain ⟨z, hz', rfl⟩ := List.mem_map.1 hy
    simp [rv, hz z hz'])]
   simp [rv, hx]
  rw [hf]
  injection hex with hex
  subst hex
  refine EndM.mk fun w10 h10 => ⟨⟨by show w.heap.size ≤ D; omega, (h10.step D hDW (by simp)).trans hmark⟩, fun w11 hu => ?_⟩
  exact ⟨_, _, [], by rw [hq]; rfl, rfl, Own.nil, Cl.Rows.nil⟩
end Go.Proofs.YtanhnllkccldhaaGreat
namespace Go.Proofs.YtanhnllkccldhaaGreat
set_option linter.unusedVariables false
set_option linter.unusedSimpArgs false
set_option maxRecDepth 100000
open Go.RowKit Go.Proofs.YtanhnllkccldhaaGreat.Eng Enc
namespace Cl
abbrev TIs : TypeId := 48
theorem infoTIs : (Tryz.prog.info? TIs).map (fun i => (i.zero, i.size, i.bytes)) = some (some (.slice none 0 0), 1, 24) := by kernel_rfl
theorem elTIs : ElOk Tryz.prog 62 TIs 1 24 := elOk (by kernel_rfl) infoTIs rfl (by decide)
def RowsI (n₁ : Nat) (W : World) (ss : List Svl) (ls : List (List Int)) : Prop := ∀ (k : Nat) (s : Svl) (l : List Int), ss[k]? = some s → ls[k]? = some l → Own TKi n₁ W (.slice s.a s.len s.cap) l
theorem RowsI.nil {n₁ : Nat} {W : World} {ls : List (List Int)} : RowsI n₁ W [] ls := fun k s l h => by simp at h
theorem own_cellsI {e : TypeId} {n₁ : Nat} {W X : World} {a : Option Addr} {n c : Nat} {l : List Int} (h : Own e n₁ W (.slice a n c) l) (hk : ∀ (k : Nat) (cs : Array Value) (f : Nat × Nat), W.heap[k]? = some (.cells cs e f) → n₁ ≤ k → X.heap[k]? = W.heap[k]?) : Own e n₁ X (.slice a n c) l := by
 obtain ⟨hl, h0 | ⟨g, cap, cur, e1, e2, e3, e4⟩⟩ := h
 ·exact ⟨hl, .inl h0⟩
 ·exact ⟨hl, .inr ⟨g, cap, cur, e1, e2, (hk g _ _ e3 e2).trans e3, e4⟩⟩
theorem RowsI.cells {n₁ : Nat} {W X : World} {ss : List Svl} {ls : List (List Int)} (h : RowsI n₁ W ss ls) (hk : ∀ (k : Nat) (cs : Array Value) (f : Nat × Nat), W.heap[k]? = some (.cells cs TKi f) → X.heap[k]? = W.heap[k]?) : RowsI n₁ X ss ls := fun k s l hs hl => own_cellsI (h k s l hs hl) fun k cs f hk' _ => hk k cs f hk'
theorem RowsI.below {n₁ : Nat} {W X : World} {ss : List Svl} {ls : List (List Int)} (h : RowsI n₁ W ss ls) (hB : Below W.heap.size W X) : RowsI n₁ X ss ls := fun k s l hs hl => (h k s l hs hl).below hB
theorem RowsI.app {n₁ : Nat} {W : World} {ss : List Svl} {ls : List (List Int)} {s : Svl} {l : List Int} (he : ss.length = ls.length) (h : RowsI n₁ W ss ls) (h1 : Own TKi n₁ W (.slice s.a s.len s.cap) l) : RowsI n₁ W (ss ++ [s]) (ls ++ [l]) := fun k t m ht hm => by
 by_cases hk : k < ss.length
 ·rw [List.getElem?_append_left hk] at ht
  rw [List.getElem?_append_left (by omega)] at hm
  exact h k t m ht hm
 ·have hk2 : k = ss.length := by
   have := (List.getElem?_eq_some_iff.1 ht).1
   simp at this; omega
  subst hk2
  rw [List.getElem?_append_right (Nat.le_refl _), Nat.sub_self] at ht
  rw [he, List.getElem?_append_right (Nat.le_refl _), Nat.sub_self] at hm
  simp at ht hm
  subst ht; subst hm
  exact h1
theorem St.len {p : List Int} {long : Int} : ∀ {x : List Int} {ms : List (List Int)}, Rs long x → St p long x ms → x.length + ms.length ≤ (Ky.regs long).length
 | x, [], hx, _ => by have := hx.len; simpa using this
 | x, y :: ms, hx, h => by
   have hy : Rs long y := h.1 ▸ rs_next hx
   have h1 := St.len hy h.2.2
   have h2 := h.2.1
   simp only [List.length_cons]; omega
def RestR (p : List Int) (long : Int) (R : List (List Int)) (ds : List (List Int)) (x : List Int) (many : Nat) : Prop :=
 (many < x.length ∧ ∃ ms, St p long x ms ∧ ds ++ x :: ms = R) ∨ (¬ many < x.length ∧ ds = R)
theorem RestR.step {p : List Int} {long : Int} {R ds : List (List Int)} {x : List Int} {many : Nat} (h : RestR p long R ds x many) (hlt : many < x.length) : RestR p long R (ds ++ [x]) (nextV p long x) x.length ∧ ds.length < R.length := by
 rcases h with ⟨_, ms, h1, h2⟩ | ⟨h, _⟩
 ·refine ⟨?_, by rw [← h2]; simp⟩
  cases ms with
  | nil => exact .inr ⟨h1, by rw [← h2]⟩
  | cons y ms =>
    obtain ⟨rfl, h3, h4⟩ := h1
    exact .inl ⟨h3, ms, h4, by rw [← h2]; simp⟩
 ·exact absurd hlt h
end Cl
set_option maxHeartbeats 4000000 in
open Cl in
theorem rrounds25_any (old p : List Int) (long : Int) (hl : 1 ≤ long ∧ long ≤ 16) (ho : Rs long old) (hp : Rs long p) (R : List (List Int)) (hR : RestR p long R [] (Rg.orI p (cmpV old p long)) 0) (a b : Option Addr) (ca cb : Nat) (w : World) (hS : Sl w.heap.size w (.slice a old.length ca) old) (hT : Sl w.heap.size w (.slice b p.length cb) p) :
 Calls Tryz.prog 27 #[.slice a old.length ca, .slice b p.length cb, .int .i64 long] w (Ret w fun v w' => ∃ a' c' ss, v = .slice a' ss.length c' ∧ ss.length = R.length ∧ Own TIs w.heap.size w' (.slice a' ss.length c') (ss : List Svl) ∧ RowsI w.heap.size w' ss R) := by
 refine fun_ret 0 w Tryz.func27 (args := [.val (.slice a old.length ca), .val (.slice b p.length cb), .val (.int .i64 long)]) rfl rfl ?_
 have st := Stay.first (w := w)
 have hrg := Ky.regs_len hl
 have no := ho.len
 have np := hp.len
 have hcmp : ∀ (x y : List Int) (hx : x.length ≤ 3267) (hy : y.length ≤ 3267) (pa pb : Option Addr) (ca cb : Nat) (w : World), Sl w.heap.size w (.slice pa x.length ca) x → Sl w.heap.size w (.slice pb y.length cb) y → Calls Tryz.prog 56 #[.slice pa x.length ca, .slice pb y.length cb, .int .i64 long] w (Ret w fun v w' => Own TKi w.heap.size w' v (cmpV x y long)) := fun x y hx hy pa pb ca cb w h1 h2 => rcomp14_any x y (by omega) (by omega) long hl pa pb ca cb w h1 h2
 apply CallI.use
 focus (exact fun w2 h2 => hcmp old p (by omega) (by omega) a b ca cb w2 (hS.st (st.at h2)) (hT.st (st.at h2)))
 rintro v w2 v2 h2 hB2 hO2
 have st := st.nx h2 hB2
 obtain ⟨a2, c2, rfl⟩ := hO2.form
 have n2 := (rs_cmp old p (long := long)).len
 apply CallI.use
 focus (exact fun w3 h3 => ror14_any p (cmpV old p long) (by omega) (by omega) b a2 cb c2 w3 (hT.st (st.at h3)) ((hO2.st (st.at h3)).sl))
 rintro v w3 v3 h3 hB3 hO3
 have st := st.nx h3 hB3
 obtain ⟨a3, c3, rfl⟩ := hO3.form
 have r3 : Rs long (Rg.orI p (cmpV old p long)) := rs_or hp (rs_cmp _ _)
 generalize Rg.orI p (cmpV old p long) = x0 at hR hO3 r3 ⊢
 have hsz3 : w.heap.size ≤ w3.heap.size := h3.below.size
 refine LoopI.invC (α := (List (List Int) × List Int × Nat × Option Addr × Nat × Value × List Svl) × World) (fun y => [(7, .val (.slice y.1.2.2.2.1 y.1.2.1.length y.1.2.2.2.2.1)), (8, .val y.1.2.2.2.2.2.1), (9, .val (.int .i64 y.1.2.2.1))]) (fun y => y.2)
  (fun y => Below w.heap.size w y.2 ∧ RestR p long R y.1.1 y.1.2.1 y.1.2.2.1 ∧ Rs long y.1.2.1 ∧ y.1.2.2.2.2.2.2.length = y.1.1.length ∧ Own TKi w.heap.size y.2 (.slice y.1.2.2.2.1 y.1.2.1.length y.1.2.2.2.2.1) y.1.2.1 ∧ Own TIs w.heap.size y.2 y.1.2.2.2.2.2.1 y.1.2.2.2.2.2.2 ∧ RowsI w.heap.size y.2 y.1.2.2.2.2.2.2 y.1.1) (fun y => R.length - y.1.1.length) ?_ ?_
 ·intro w5 h5
  exact ⟨(([], x0, 0, a3, c3, .slice none 0 0, []), w5), Cov.au rfl rfl rfl rfl rfl, rfl, h5.below, hR, r3, rfl, (hO3.lower hsz3).below (at_belowM h5 (by simp)), Own.nil, RowsI.nil⟩
 rintro ⟨⟨ds, x, many, xa, xc, ov, ss⟩, U⟩ ⟨hU, hRe, hx, hsl, hOx, hOw, hRw⟩
 simp only at hU hRe hx hsl hOx hOw hRw
 obtain ⟨oa, oc, rfl⟩ := hOw.form
 have nx := hx.len
 have hds : ds.length ≤ R.length := by
  rcases hRe with ⟨_, ms, _, h⟩ | ⟨_, h⟩
  ·rw [← h]; simp
  ·rw [h]; exact Nat.le_refl _
 have hRlen : R.length ≤ 3268 := by
  rcases hR with ⟨_, ms, h1, h2⟩ | ⟨_, h2⟩
  ·have := St.len r3 h1
   rw [← h2]; simp; omega
  ·rw [← h2]; simp
 refine Branch.mk (fun z1 => ?_) (fun z1 => ?_)
 case refine_2 =>
  have hnl : ¬ many < x.length := by have := of_decide_eq_false z1; simp only at this; omega
  rcases hRe with ⟨h, _⟩ | ⟨_, h⟩
  ·exact absurd h hnl
  ·subst h
   exact EndI.mk fun w9 h9 => ⟨_, _, ss, rfl, hsl, hOw.below (at_belowM h9 (by simp)), hRw.below (at_belowM h9 (by simp))⟩
 have hlt : many < x.length := by have := of_decide_eq_true z1; simp only at this; omega
 obtain ⟨hRe', hdl⟩ := hRe.step hlt
 have hUs := hU.size
 refine NewI.mk fun b1 hb1 => ?_
 have hb1' : U.heap.size ≤ b1 := hb1
 have hr : ∀ k, (Value.slice oa ss.length oc).ownBlock = some k → w.heap.size ≤ k ∧ k ∉ [b1] := fun k hk => by
  have hkk := hOw.lt k hk
  refine ⟨hkk.1, fun hm => ?_⟩
  simp at hm; omega
 have rowt : ∀ (k : Nat) (cs : Array Value) (t : TypeId) (f : Nat × Nat), (Value.slice oa ss.length oc).ownBlock = some k → U.heap[k]? = some (.cells cs t f) → t = TIs := fun k cs t f e hk => by
  obtain ⟨_, ⟨e0, _⟩ | ⟨g, cp, cur, e0, _, hgb, _⟩⟩ := id hOw
  ·rw [e0] at e; cases e
  ·rw [e0] at e
   injection e with e
   subst e
   rw [hgb] at hk; injection hk with hk; injection hk with _ hk; exact hk.symm
 refine GenN.app (α := Svl) elTIs ss [⟨xa, x.length, xc⟩] w.heap.size (fun w5 h5 => hOw.below h5.go) (fun w5 h5 => src_own h5 0 rfl rfl rfl rfl) (by unfold maxLen; simp; omega) (by simp; omega) (fun w5 h5 => h5.below.size)
  (fun w5 w6 h5 hg => keep_grown h5 hg hr) fun sv' w5 w6 h5 hg hO' => ?_
 obtain ⟨a', c', rfl⟩ := hO'.form
 have hs5 : U.heap.size ≤ w5.heap.size := h5.size
 have hs6 := hg.size
 have keepT : ∀ (k : Nat) (cs : Array Value) (f : Nat × Nat), U.heap[k]? = some (.cells cs TKi f) → w6.heap[k]? = U.heap[k]? := fun k cs f hk => by
  have hkU := (Array.getElem?_eq_some_iff.1 hk).1
  refine (hg.block k (by omega) (fun e => ?_)).trans (h5.go.block k hkU)
  exact absurd (rowt k _ _ _ e.symm hk) (by decide)
 have hOx6 := own_cellsI hOx fun k cs f hk _ => keepT k cs f hk
 have hRw6 := RowsI.app hsl (hRw.cells keepT) (s := ⟨xa, x.length, xc⟩) hOx6
 have nxt : Rs long (nextV p long x) := rs_next hx
 have nc := (rs_cmp x p (long := long)).len
 apply CallI.use
 focus (exact fun w7 h7 => hcmp x p (by omega) (by omega) xa b xc cb w7 (Sl.go hOx6.sl (at_belowM h7 (by simp)) (at_belowM h7 (by simp)).size) (hT.go h7.below h7.below.size))
 rintro v w7 v7 h7 hB7 hO7
 obtain ⟨a7, c7, rfl⟩ := hO7.form
 have g7 : Below w6.heap.size w6 v7 := (at_belowM h7 (by simp)).trans (hB7.mono (at_belowM h7 (by simp)).size)
 have hOx7 := hOx6.below g7
 apply CallI.use
 focus (exact fun w8 h8 => ror14_any x (cmpV x p long) (by omega) (by omega) xa a7 xc c7 w8 (Sl.go hOx7.sl (at_belowM h8 (by simp)) (at_belowM h8 (by simp)).size) (Sl.go hO7.sl (at_belowM h8 (by simp)) (at_belowM h8 (by simp)).size))
 rintro v w8 v8 h8 hB8 hO8
 obtain ⟨a8, c8, rfl⟩ := hO8.form
 have g8 : Below w6.heap.size w6 v8 := g7.trans (((at_belowM h8 (by simp)).trans (hB8.mono (at_belowM h8 (by simp)).size)).mono g7.size)
 have hw8 : w.heap.size ≤ w8.heap.size := h8.below.size
 refine EndI.mk fun w9 h9 => ⟨((ds ++ [x], nextV p long x, x.length, a8, c8, .slice a' (ss ++ [(⟨xa, x.length, xc⟩ : Svl)]).length c', ss ++ [⟨xa, x.length, xc⟩]), w9), Cov.au rfl rfl rfl rfl rfl, rfl, ⟨h9.below, hRe', nxt, by simp [hsl], (hO8.lower hw8).below (at_belowM h9 (by simp)), ?_, ?_⟩, by simp; omega⟩
 ·exact (hO'.below g8).below (at_belowM h9 (by simp))
 ·exact (hRw6.below g8).below (at_belowM h9 (by simp))
end Go.Proofs.YtanhnllkccldhaaGreat
namespace Go.Proofs.YtanhnllkccldhaaGreat
set_option linter.unusedVariables false
set_option linter.unusedSimpArgs false
open Go.RowKit Go.Proofs.YtanhnllkccldhaaGreat.Eng Enc
namespace Cl
open Cv Zs Ky Cmp
theorem RestR.ex (p : List Int) (long : Int) (x : List Int) (hx : Rs long x) : ∃ R, RestR p long R [] x 0 := by
 obtain ⟨ms, h⟩ := St.ex p long _ x hx (Nat.le_refl _)
 by_cases h0 : 0 < x.length
 ·exact ⟨x :: ms, .inl ⟨h0, ms, h, rfl⟩⟩
 ·exact ⟨[], .inr ⟨h0, rfl⟩⟩
theorem rl_pos {long : Int} (hl : 1 ≤ long ∧ long ≤ 6) {a : List Zn} (ha : Good long a) (hne : a ≠ []) : 0 < (rl a long).length := by
 have hp : ∃ t, Pts a t := Classical.byContradiction fun h => hne (ml_nil ha.ml fun t ht => h ⟨t, ht⟩)
 obtain ⟨t, ht⟩ := hp
 have := rl_lt hl (good_nil (long := long)) ha (fun t ⟨z, hz, _⟩ => nomatch hz) ⟨t, ht, fun ⟨z, hz, _⟩ => nomatch hz⟩
 omega
theorem rl_nil (long : Int) : rl [] long = [] := by
 unfold rl Rg.up Rg.inL
 simp
theorem close_does {old p : List Zn} {cz cr : Int} (hg : great old p = false) (h0 : chk old p cz cr = 0) (hcr : 1 ≤ cr ∧ cr ≤ 4096) (R : List (List Int)) (hR : RestR (rl p (longOf old p)) (longOf old p) R [] (Rg.orI (rl p (longOf old p)) (cmpV (rl old (longOf old p)) (rl p (longOf old p)) (longOf old p))) 0) :
 (∃ e, close old p cz cr = ([], 0, e) ∧ rounds old p cz cr = ([], e) ∧ e ≠ 0 ∧ ((e = 300 ∧ cz < ((regs (longOf old p)).length : Int)) ∨ (e = 301 ∧ cr < (R.length : Int)))) ∨
 (∃ l ls, close old p cz cr = (l, (ls.length : Int), 0) ∧ rounds old p cz cr = (ls, 0) ∧ (ls.length : Int) ≤ cr ∧ Good (longOf old p) l ∧ (∀ x, x ∈ ls → Good (longOf old p) x) ∧ R = ls.map (fun x => rl x (longOf old p)) ∧ (ls = [] → l = []) ∧ (ls ≠ [] → ls[ls.length - 1]? = some l)) := by
 obtain ⟨ho, hp⟩ := chk_good hg h0
 have hl := (great_no hg).2.1
 generalize longOf old p = long at *
 rcases close_good hl cz cr h0 ho hp with ⟨e, h1, h2, h3, h4⟩ | ⟨h1, h2, h3⟩ | ⟨a, ms, h1, h2, h3, h4, h5, h6, h7, h8⟩
 ·refine .inl ⟨e, h1, h2, h3, ?_⟩
  rcases h4 with h4 | ⟨rfl, a, ms, k1, k2, k3, k4, k5⟩
  ·exact .inl h4
  ·have ha := k5 a (by simp)
   rw [first_rl hl ho hp ha k2] at hR
   have hpos := rl_pos hl ha k1
   rcases hR with ⟨_, ms', q1, q2⟩ | ⟨q, _⟩
   ·have := st_more hl hp a ms ms' k5 k3 q1
    refine .inr ⟨rfl, ?_⟩
    rw [← q2]
    simp only [List.nil_append, List.length_cons]
    omega
   ·exact absurd hpos q
 ·rw [first_rl hl ho hp (good_nil (long := long)) h3, rl_nil] at hR
  rcases hR with ⟨q, _⟩ | ⟨_, q⟩
  ·simp at q
  ·exact .inr ⟨[], [], h1, h2, by simp; omega, good_nil, fun x hx => (nomatch hx), q.symm, fun _ => rfl, fun h => absurd rfl h⟩
 ·have ha := h7 a (by simp)
  rw [first_rl hl ho hp ha h4] at hR
  have hpos := rl_pos hl ha h3
  rcases hR with ⟨_, ms', q1, q2⟩ | ⟨q, _⟩
  ·have e := St.same q1 (st_ch hl hp a ms h7 h5 h6)
   refine .inr ⟨lst a ms, a :: ms, by rw [h1]; simp, h2, by simp only [List.length_cons]; omega, h7 _ (lst_mem a ms), h7, ?_, fun h => (nomatch h), fun _ => lst_get a ms⟩
   rw [← q2, e]; rfl
  ·exact absurd hpos q
end Cl
end Go.Proofs.YtanhnllkccldhaaGreat
namespace Go.Proofs.YtanhnllkccldhaaGreat
set_option linter.unusedVariables false
set_option linter.unusedSimpArgs false
set_option maxRecDepth 100000
open Go.RowKit Go.Proofs.YtanhnllkccldhaaGreat.Eng Enc
def Fr.keptG (a b : Rt) (x : Int) : Bool := if x = 9223372036854775807 then true else Fr.kept a b x
theorem rkept03_gen (a b : Rt) (ha : a.ok = true) (hb : b.ok = true) (ia : a.ins) (ib : b.ins) (x : Int) (ix : inK .i64 x) (w : World) :
 Calls Tryz.prog 132 #[.agg #[.int .i64 a.num, .int .i64 a.den], .agg #[.int .i64 b.num, .int .i64 b.den], .int .i64 x] w fun e w' => e = .returned (.bool (Fr.keptG a b x)) ∧ Below w.heap.size w w' := by
 unfold Fr.keptG
 refine fun_eq 0 w Tryz.func132 (args := [.agg [.val (.int .i64 a.num), .val (.int .i64 a.den)], .agg [.val (.int .i64 b.num), .val (.int .i64 b.den)], .val (.int .i64 x)]) rfl rfl ?_
 have o1 := Fr.ok_bd ha
 have o2 := Fr.ok_bd hb
 have ix' := ix
 simp only [inK] at ix'
 have m1 := Fr.mul_bd (u := a.num % a.den) (v := b.den) (m := 1048576) (n := 1048576) (by omega) (by omega) (by omega) (by omega)
 have m2 := Fr.mul_bd (u := b.num % b.den) (v := a.den) (m := 1048576) (n := 1048576) (by omega) (by omega) (by omega) (by omega)
 refine NewI.mk fun b1 hb1 => ?_
 refine NewI.mk fun b2 hb2 => ?_
 refine Branch.mk (fun z1 => ?_) (fun z1 => ?_)
 ·rw [if_pos (of_decide_eq_true z1)]
  exact EndI.mk fun w9 h9 => rfl
 rw [if_neg (of_decide_eq_false z1), Fr.kept_doc]
 refine CallI.to0 (fun w => rnumber_any x ix'.1 ix'.2 w) fun w2 => ?_
 refine DrawI.go (.tk 0 (.tk 1 (.tk 2 (.tk 3 (.tk 5 (.tk 6 (.tk 7 (.tk 8 (.ev 4 (.ev 9 (.tk 10 (.tk 11 .done)))))))))))) (by kernel_rfl) fun w3 h3 => ?_
 refine CallI.to1 (fun w => rlow03_any a.num a.den o1.1 ia.1 w) fun w4 => ?_
 refine CallI.to1 (fun w => rlow03_any b.num b.den o2.1 ib.1 w) fun w5 => ?_
 refine Need.mk (by simp only [inK]; omega) ?_
 refine Branch.mk (fun z2 => ?_) (fun z2 => ?_)
 ·rw [if_pos (of_decide_eq_true z2)]
  exact EndI.mk fun w9 h9 => rfl
 rw [if_neg (of_decide_eq_false z2)]
 refine DrawI.go (.tk 0 (.tk 1 (.tk 2 (.tk 3 (.tk 5 (.tk 6 (.ev 4 (.tk 7 (.tk 8 .done))))))))) (by kernel_rfl) fun w6 h6 => ?_
 refine CallI.to1 (fun w => rpart03_any a.num a.den o1.1 ia.2 w) fun w7 => ?_
 refine Need.mk (by simp only [inK]; omega) ?_
 refine DrawI.go (.tk 0 (.tk 1 (.tk 2 (.tk 3 (.tk 5 (.tk 6 (.ev 4 (.tk 7 (.tk 8 .done))))))))) (by kernel_rfl) fun w8 h8 => ?_
 refine CallI.to1 (fun w => rpart03_any b.num b.den o2.1 ib.2 w) fun w9 => ?_
 refine Need.mk (by simp only [inK]; omega) ?_
 refine Branch.mk (fun z3 => ?_) (fun z3 => ?_)
 ·exact EndI.mk fun w9 h9 => by rw [z3]; rfl
 rw [z3]
 refine Branch.mk (fun z4 => ?_) (fun z4 => ?_)
 ·refine CallI.to0 (fun w => rstrict_any x w) fun w2 => ?_
  exact EndI.mk fun w9 h9 => by rw [z4]; simp
 ·exact EndI.mk fun w9 h9 => by rw [z4]; simp
def Dbm.kpG (L : List Int) (M : List Rt) (i j : Nat) : Bool := Fr.keptG (M[i]?.getD ⟨0, 1⟩) (M[j]?.getD ⟨0, 1⟩) (L[i * 3 + j]?.getD 0)
def Dbm.keptG (L : List Int) (M : List Rt) : Bool := (List.range 3).all fun i => (List.range 3).all fun j => Dbm.kpG L (⟨0, 1⟩ :: M) i j
theorem Dbm.keptG_iff {L : List Int} {M : List Rt} : Dbm.keptG L M = true ↔ ∀ i j, i < 3 → j < 3 → Dbm.kpG L (⟨0, 1⟩ :: M) i j = true := by
 unfold Dbm.keptG
 simp only [List.all_eq_true, List.mem_range]
 exact ⟨fun h i j hi hj => h i hi j hj, fun h i hi j hj => h i j hi hj⟩
theorem rkept04_gen (L : List Int) (hL : L.length = 9) (hm : ∀ q, q < 9 → inK .i64 (L[q]?.getD 0)) (t u : Rt) (ht : t.ok = true) (hu : u.ok = true) (it : t.ins) (iu : u.ins) (a b : Option Addr) (ca cb : Nat) (w : World) (hS : Sl w.heap.size w (.slice a L.length ca) L) (hT : Sl w.heap.size w (.slice b 2 cb) [t, u]) :
 Calls Tryz.prog 86 #[.agg #[.int .i64 3, .slice a L.length ca], .slice b 2 cb] w fun e w' => e = .returned (.bool (Dbm.keptG L [t, u])) ∧ Below w.heap.size w w' := by
 have hK : Dbm.keptG L [t, u] = true ↔ ∀ i j, i < 3 → j < 3 → Dbm.kpG L [⟨0, 1⟩, t, u] i j = true := Dbm.keptG_iff
 have oz : (⟨0, 1⟩ : Rt).ok = true := by decide
 have iz : (⟨0, 1⟩ : Rt).ins := ⟨by simp [inK], by simp [inK]⟩
 have hM : ∀ i, i < 3 → ∃ x, ([⟨0, 1⟩, t, u] : List Rt)[i]? = some x ∧ x.ok = true ∧ x.ins := fun i hi => by
  rcases (by omega : i = 0 ∨ i = 1 ∨ i = 2) with rfl | rfl | rfl
  ·exact ⟨_, rfl, oz, iz⟩
  ·exact ⟨_, rfl, ht, it⟩
  ·exact ⟨_, rfl, hu, iu⟩
 generalize hKL : Dbm.keptG L [t, u] = KL at hK ⊢
 refine fun_eq 0 w Tryz.func86 (args := [.agg [.val (.int .i64 3), .val (.slice a L.length ca)], .val (.slice b 2 cb)]) rfl rfl ?_
 refine NewI.mk fun b1 hb1 => ?_
 refine NewI.mk fun b2 hb2 => ?_
 refine GenN.appN (α := Rt) elR [⟨0, 1⟩] [t, u] w.heap.size rfl (fun w5 h5 => Own.own (l := [(⟨0, 1⟩ : Rt)]) h5 1 rfl rfl rfl hb2 (n := 1) rfl (by simp [maxLen])) (fun w5 h5 => (hT.go h5.below h5.below.size).src) (by simp) (by simp [maxLen]) (by simp) fun v5 w5 w6 h5 hB5 hO => ?_
 obtain ⟨a5, c5, rfl⟩ := hO.form
 have hw6 : Below w.heap.size w w6 := h5.below.trans (hB5.mono h5.below.size)
 have hO : Own TR w5.heap.size w6 (.slice a5 3 c5) [(⟨0, 1⟩ : Rt), t, u] := hO
 refine LoopI.invC (α := Nat × World) (fun y => [(6, .val (.int .i64 y.1))]) (fun y => y.2) (fun y => y.1 ≤ 3 ∧ Below w.heap.size w y.2 ∧ Own TR w5.heap.size y.2 (.slice a5 3 c5) [(⟨0, 1⟩ : Rt), t, u] ∧ ∀ i j, i < y.1 → j < 3 → Dbm.kpG L [⟨0, 1⟩, t, u] i j = true) (fun y => 3 - y.1) ?_ ?_
 ·intro w7 h7
  exact ⟨(0, w7), Cov.au rfl rfl rfl rfl rfl, rfl, Nat.zero_le _, h7.below, hO.below (at_belowM h7 (by simp)), by simp⟩
 rintro ⟨i, V⟩ ⟨hi, hV, hOV, hq⟩
 simp only at hi hV hOV hq
 refine Branch.mk (fun z1 => ?_) (fun z1 => ?_)
 ·have hi3 : i < 3 := by have := of_decide_eq_true z1; simp only at this; omega
  refine LoopI.invC (α := Nat × World) (fun y => [(7, .val (.int .i64 y.1))]) (fun y => y.2) (fun y => y.1 ≤ 3 ∧ Below w.heap.size w y.2 ∧ Own TR w5.heap.size y.2 (.slice a5 3 c5) [(⟨0, 1⟩ : Rt), t, u] ∧ ∀ j, j < y.1 → Dbm.kpG L [⟨0, 1⟩, t, u] i j = true) (fun y => 3 - y.1) ?_ ?_
  ·intro w7 h7
   exact ⟨(0, w7), Cov.au rfl rfl rfl rfl rfl, rfl, Nat.zero_le _, h7.below, hOV.below (at_belowM h7 (by simp)), by simp⟩
  rintro ⟨j, U⟩ ⟨hj, hU, hOU, hq2⟩
  simp only at hj hU hOU hq2
  refine Branch.mk (fun z2 => ?_) (fun z2 => ?_)
  ·have hj3 : j < 3 := by have := of_decide_eq_true z2; simp only at this; omega
   obtain ⟨x, hx, ox, ixx⟩ := hM i hi3
   obtain ⟨y, hy, oy, iy⟩ := hM j hj3
   have hb := List.getElem?_eq_getElem (l := L) (i := i * 3 + j) (by omega)
   have bi := hm (i * 3 + j) (by omega)
   have hkp : Dbm.kpG L [⟨0, 1⟩, t, u] i j = Fr.keptG x y (L[i * 3 + j]'(by omega)) := by unfold Dbm.kpG; rw [hx, hy, hb]; rfl
   rw [hb] at bi
   simp only [Option.getD_some] at bi
   generalize L[i * 3 + j]'(by omega) = q at hb bi hkp
   refine DrawI.go (.tk 0 (.tk 1 (.tk 2 (.tk 3 (.tk 4 (.tk 5 (.tk 6 (.tk 7 (.tk 8 (.tk 9 (.tk 10 (.tk 11 (.tk 12 (.tk 13 (.tk 14 (.tk 15 (.tk 16 (.tk 17 (.ev 18 (.tk 19 .done)))))))))))))))))))) (by kernel_rfl) fun w8 h8 => ?_
   have hO8 := hOU.below (at_belowM h8 (by simp))
   have hS8 : Sl w8.heap.size w8 (.slice a5 3 c5) [(⟨0, 1⟩ : Rt), t, u] := hO8.sl
   have hL8 : Sl w8.heap.size w8 (.slice a L.length ca) L := hS.go h8.below h8.below.size
   have eij : (i : Int) * 3 = ((i * 3 : Nat) : Int) := rfl
   refine hS8.idx hx fun ad had => ?_
   refine hS8.ld hx had (Below.refl _ _) (by simp) ?_
   refine hS8.idx hy fun ad2 had2 => ?_
   refine hS8.ld hy had2 (Below.refl _ _) (by simp) ?_
   refine Need.mk (by simp only; rw [eij]; simp only [inK]; omega) ?_
   refine Need.mk (by simp only; rw [eij]; simp only [inK]; omega) ?_
   refine hL8.idx hb fun ad3 had3 => ?_
   refine hL8.ld1 hb had3 (Below.refl _ _) (by simp) ?_
   apply CallI.use1
   focus (exact fun w9 h9 => rkept03_gen x y ox oy ixx iy q bi w9)
   intro w9 v9 h9 hB9
   rw [← hkp]
   have hO9 := (hO8.below (at_belowM h9 (by simp))).below hB9
   refine Branch.mk (fun z3 => ?_) (fun z3 => ?_)
   ·have hf : Dbm.kpG L [⟨0, 1⟩, t, u] i j = false := by simpa using z3
    refine EndI.mk fun w10 h10 => ?_
    have : KL = false := by
     cases KL with
     | false => rfl
     | true => rw [hK.1 rfl i j hi3 hj3] at hf; cases hf
    rw [this]
   ·have ht' : Dbm.kpG L [⟨0, 1⟩, t, u] i j = true := by simpa using z3
    refine Need.mk (by simp only [inK]; omega) (EndI.mk fun w10 h10 => ⟨(j + 1, w10), Cov.au rfl rfl rfl rfl rfl, rfl, ⟨hj3, h10.below, hO9.below (at_belowM h10 (by simp)), fun j' hj' => ?_⟩, by simp only; omega⟩)
    by_cases e : j' = j
    ·subst e; exact ht'
    ·exact hq2 j' (by simp only at hj'; omega)
  ·have hge : j = 3 := by have := of_decide_eq_false z2; simp only at this; omega
   subst hge
   refine Need.mk (by simp only [inK]; omega) (EndI.mk fun w10 h10 => ⟨(i + 1, w10), Cov.au rfl rfl rfl rfl rfl, rfl, ⟨hi3, h10.below, hOU.below (at_belowM h10 (by simp)), fun i' j' hi' hj' => ?_⟩, by simp only; omega⟩)
   by_cases e : i' = i
   ·subst e; exact hq2 j' hj'
   ·exact hq i' j' (by simp only at hi'; omega) hj'
 ·have hge : i = 3 := by have := of_decide_eq_false z1; simp only at this; omega
  subst hge
  refine EndI.mk fun w10 h10 => ?_
  rw [hK.2 hq]
theorem rinside_gen (z : Zn) (hz : Zo.i64 z) (p : Pt) (hp : p.ins) (ht : p.t.ok = true) (hu : p.u.ok = true) (w : World) :
 Calls Tryz.prog 50 #[.agg #[.int .i64 z.a, .int .i64 z.b, .int .i64 z.c, .int .i64 z.d, .int .i64 z.e, .int .i64 z.f], .agg #[.int .i64 p.t.num, .int .i64 p.t.den, .int .i64 p.u.num, .int .i64 p.u.den]] w fun e w' => e = .returned (.bool (Dbm.keptG (Zo.matL z) [p.t, p.u])) ∧ Below w.heap.size w w' := by
 refine fun_eq 0 w Tryz.func50 (args := [.agg [.val (.int .i64 z.a), .val (.int .i64 z.b), .val (.int .i64 z.c), .val (.int .i64 z.d), .val (.int .i64 z.e), .val (.int .i64 z.f)], .agg [.val (.int .i64 p.t.num), .val (.int .i64 p.t.den), .val (.int .i64 p.u.num), .val (.int .i64 p.u.den)]]) rfl rfl ?_
 refine NewI.mk fun b1 hb1 => ?_
 refine NewI.mk fun b2 hb2 => ?_
 refine DrawI.go (.tk 0 (.tk 2 (.tk 3 (.tk 4 (.tk 5 (.two 1 (.ev 6 (.ev 7 (.tk 8 .done))) 6 (.ev 1 (.ev 7 (.tk 8 .done))))))))) (by kernel_rfl) fun w1 h1 => ?_
 have hm : ∀ q, q < 9 → inK .i64 ((Zo.matL z)[q]?.getD 0) := fun q hq => by
  have h := hz ((Zo.matL z)[q]?.getD 0) (by
   rw [List.getElem?_eq_getElem (by simpa [Zo.matL] using hq)]
   exact List.getElem_mem _)
  simp only [inK]
  unfold Dbm.int64 at h
  omega
 refine Both.mk ?_ ?_
 ·apply CallI.use
  focus (exact fun w2 h2 => rfull_any z w2)
  rintro v w2 v2 h2 hB2 ⟨a2, c2, rfl, hS2⟩
  refine NewI.mk fun b3 hb3 => ?_
  apply CallI.use1
  focus (exact fun w3 h3 => rkept04_gen (Zo.matL z) rfl hm p.t p.u ht hu hp.1 hp.2 a2 _ c2 _ w3 (hS2.go (at_belowM h3 (by simp)) h3.size) (Sl.own (l := [p.t, p.u]) h3 2 rfl rfl rfl (Nat.le_refl _) (by simp [maxLen])))
  intro w3 v3 h3 hB3
  exact EndI.mk fun w9 h9 => rfl
 ·refine NewI.mk fun b3 hb3 => ?_
  apply CallI.use
  focus (exact fun w2 h2 => rfull_any z w2)
  rintro v w2 v2 h2 hB2 ⟨a2, c2, rfl, hS2⟩
  apply CallI.use1
  focus (exact fun w3 h3 => rkept04_gen (Zo.matL z) rfl hm p.t p.u ht hu hp.1 hp.2 a2 _ c2 _ w3 (hS2.go (at_belowM h3 (by simp)) h3.size) (Sl.own (l := [p.t, p.u]) h3 2 rfl rfl rfl (Nat.le_refl _) (by simp [maxLen])))
  intro w3 v3 h3 hB3
  exact EndI.mk fun w9 h9 => rfl
namespace Rg
def hitG (l : List Zn) (long : Int) (x : Int) : Bool := (point x long).2 && l.any fun z => Dbm.keptG (Zo.matL z) [(pt x long).t, (pt x long).u]
end Rg
set_option maxHeartbeats 1000000 in
theorem rlist14_gen (l : List Zn) (hz : ∀ z, z ∈ l → Zo.i64 z) (hlen : l.length ≤ 4096) (long : Int) (hl : 1 ≤ long ∧ long ≤ 16) (pa : Option Addr) (ca : Nat) (w : World) (hS : Sl w.heap.size w (.slice pa l.length ca) l) :
 Calls Tryz.prog 20 #[.slice pa l.length ca, .int .i64 long] w (Ret w fun v w' => Own TKi w.heap.size w' v (Rg.up long (Rg.hitG l long))) := by
 refine fun_ret 0 w Tryz.func20 (args := [.val (.slice pa l.length ca), .val (.int .i64 long)]) rfl rfl ?_
 have st := Stay.first (w := w)
 have hmm := Fr.mul_bd (u := 3 * (2 * long + 1)) (v := 2 * long + 1) (m := 99) (n := 33) (by omega) (by omega) (by omega) (by omega)
 have hmany := Rg.many_doc hl
 obtain ⟨M, hM⟩ : ∃ M : Nat, 3 * (2 * long + 1) * (2 * long + 1) = M := ⟨(3 * (2 * long + 1) * (2 * long + 1)).toNat, by omega⟩
 have hM1 : (Rg.many long).1 = M := by rw [hmany]; exact hM
 have hM4 : M ≤ 3267 := by omega
 have hM0 : 0 < M := by
  have h : 9 * 3 ≤ 3 * (2 * long + 1) * (2 * long + 1) := Int.mul_le_mul (by omega) (by omega) (by omega) (by omega)
  omega
 apply CallI.use1
 focus (exact fun w4 h4 => rcount14_any long hl w4)
 intro w4 v4 h4 hB4
 have st := st.nx h4 hB4
 rw [hM]
 refine GenV.mks (α := Bool) elBo false infoBo M rfl (by simp [Enc.size]; omega) (by omega) fun v w5 v5 h5 hB5 hOw => ?_
 have st := st.nx h5 hB5
 obtain ⟨ab, cb', rfl⟩ := hOw.form
 have hBk := Rg.done_zero (Rg.hitG l long) M
 have hds := fun k (hk : k < M) => Rg.done_step (Rg.hitG l long) hk
 have hdp := Rg.done_pick (Rg.hitG l long) hM1
 have hdl := fun k => Rg.done_len (Rg.hitG l long) M k
 have hdg := fun k (hk : k < M) => Rg.done_get (f := Rg.hitG l long) (k := k) hk
 rw [← hBk] at hOw ⊢
 rw [← hdp]
 generalize hD : Rg.done (Rg.hitG l long) M = D at *
 obtain ⟨g, rfl, hgb, hcb1, hcb2, hRow⟩ := BRow.of hOw (by rw [hdl]; omega)
 have hgw : w.heap.size ≤ g := by have := h5.below.size; simp only at this; omega
 rw [hdl] at hcb1 ⊢
 refine LoopI.invC (α := Nat × World) (fun y => [(6, .val (.int .i64 y.1))]) (fun y => y.2) (fun y => y.1 ≤ M ∧ Below w.heap.size w y.2 ∧ BRow y.2 g (D y.1)) (fun y => M - y.1) ?_ ?_
 ·intro w6 h6
  exact ⟨(0, w6), Cov.au rfl rfl rfl rfl rfl, rfl, Nat.zero_le _, h6.below, hRow.at h6 (by simp)⟩
 rintro ⟨k, V⟩ ⟨hk, hV, hRk⟩
 simp only at hk hV hRk
 refine Branch.mk (fun hb => ?_) (fun hb => ?_)
 ·have hlt : k < M := by have := of_decide_eq_true hb; simp only at this; omega
  have hkn : 0 ≤ (k : Int) ∧ (k : Int) < 3 * (2 * long + 1) * (2 * long + 1) := by omega
  obtain ⟨hpi, hpt, hpu⟩ := Rg.pt_fine hl hkn
  have hes := hds k hlt
  have hgV : g < V.heap.size := hRk.lt
  apply CallI.use1
  focus (exact fun w5 h5 => rof14_any (k : Int) long hl hkn w5)
  intro w6 v6 h6 hB6
  refine NewI.mk fun b2 hb2 => ?_
  have hb2' : v6.heap.size ≤ b2 := hb2
  have hgb2 : b2 ≠ g := by have e1 := h6.size; have e2 := hB6.size; simp only at e1; omega
  have hV6 : Below w.heap.size w v6 := h6.below.trans (hB6.mono h6.below.size)
  have hR6 := (hRk.at h6 (by simp)).below hB6
  have hgv6 : v6.heap.size ≤ b2 := hb2'
  have hgr : ∀ b, b ∈ [b2] → b ≠ g := fun b hb => by rw [List.mem_singleton.1 hb]; exact hgb2
  have hset0 : (D k).set k false = D k := by
   apply List.ext_getElem?
   intro n
   by_cases e : k = n
   ·subst e
    rw [List.getElem?_set_self (by rw [hdl]; exact hlt), hdg k hlt]
    simp
   ·rw [List.getElem?_set_ne e]
  have hsl : ∀ b, ((D k).set k b).length = M := fun b => by rw [List.length_set, hdl]
  have hsg : ∀ b, ((D k).set k b)[k]? = some b := fun b => List.getElem?_set_self (by rw [hdl]; exact hlt)
  have hss : ∀ b c, ((D k).set k b).set k c = (D k).set k c := fun b c => by rw [List.set_set]
  refine LoopI.invC (α := Nat × World) (fun y => [(9, .val (.int .i64 y.1))]) (fun y => y.2) (fun y => y.1 ≤ l.length ∧ Below w.heap.size w y.2 ∧ BRow y.2 g ((D k).set k ((Rg.point k long).2 && (l.take y.1).any fun z => (Dbm.keptG (Zo.matL z) [(Rg.pt k long).t, (Rg.pt k long).u])))) (fun y => l.length - y.1) ?_ ?_
  ·intro w7 h7
   refine ⟨(0, w7), Cov.au rfl rfl rfl rfl rfl, rfl, Nat.zero_le _, h7.below, ?_⟩
   simp only [List.take_zero, List.any_nil, Bool.and_false]
   rw [hset0]
   exact hR6.at h7 (by intro q; have := List.mem_singleton.1 q; exact hgb2 this.symm)
  rintro ⟨i, U⟩ ⟨hi, hU, hRi⟩
  simp only at hi hU hRi
  have exit : ((Rg.point k long).2 && (l.take i).any fun z => (Dbm.keptG (Zo.matL z) [(Rg.pt k long).t, (Rg.pt k long).u])) = Rg.hitG l long k → ∀ {K : Prop}, (BRow U g (D (k + 1)) → K) → K := fun h K hK => hK (by rw [hes, ← h]; exact hRi)
  generalize hacc : ((Rg.point k long).2 && (l.take i).any fun z => (Dbm.keptG (Zo.matL z) [(Rg.pt k long).t, (Rg.pt k long).u])) = acc at *
  refine Branch.mk (fun c1 => ?_) (fun c1 => ?_)
  ·have hiN : i < l.length := by have := of_decide_eq_true c1; simp only at this; omega
   refine Branch.mk (fun c2 => ?_) (fun c2 => ?_)
   ·have hg1 := hsg acc
    have hSr := hRi.sl (c := cb') (by rw [hsl]; exact hcb1) hcb2
    rw [hsl] at hSr
    refine hSr.idx hg1 fun ad had => ?_
    refine hSr.ldv hg1 rfl had (Below.refl _ _) (by simp) ?_
    refine Branch.mk (fun c3 => ?_) (fun c3 => ?_)
    ·have hz1 := List.getElem?_eq_getElem (l := l) (i := i) hiN
     have hts : l.take (i + 1) = l.take i ++ [l[i]'hiN] := by rw [List.take_add_one, hz1]; rfl
     have hzm := hz _ (List.getElem_mem hiN)
     generalize l[i]'hiN = z at hz1 hts hzm
     refine DrawI.wr (.tk 0 (.tk 1 (.tk 2 (.tk 3 (.tk 4 (.tk 5 (.tk 6 (.ev 7 (.tk 8 (.ev 9 .done)))))))))) [] [g] (by kernel_rfl) rfl (fun b hb h => hgr b hb (by simpa using h)) fun w7 h7 => ?_
     have hacc0 : acc = false := by simpa using c3
     have hU7 : Below w.heap.size w w7 := h7.below
     have hR7 := hRi.at h7 (by simp)
     refine hS.idx hz1 fun ad had => ?_
     refine hS.ld hz1 had hU7 (by simpa using hgw) ?_
     apply CallI.use1
     focus (exact fun w8 h8 => rinside_gen z hzm (Rg.pt k long) hpi hpt hpu w8)
     intro w8 v8 h8 hB8
     have hR8 := (hR7.at h8 (by simp)).below hB8
     refine IdxI.mk ⟨_, ⟨rfl, by omega, by omega⟩, ?_⟩
     refine StoreI.mk fun w10 h10 => ?_
     have r10 := hR8.at h10 (by simp)
     rw [show ((⟨g, 0, none⟩ : Addr).add ((k : Int).toNat * 1)) = ⟨g, k, none⟩ by simp [addr_addL]]
     refine ⟨⟨⟨_, r10.cell hg1⟩, r10.frozen _⟩, Zo.kpD_set hgw hgr (by simp [locs]), ?_⟩
     have hnew : ((Rg.point k long).2 && (l.take (i + 1)).any fun z => (Dbm.keptG (Zo.matL z) [(Rg.pt k long).t, (Rg.pt k long).u])) = (Dbm.keptG (Zo.matL z) [(Rg.pt k long).t, (Rg.pt k long).u]) := by
      rw [hts, List.any_append]
      rw [hacc0, c2, Bool.true_and] at hacc
      rw [hacc, c2]; simp
     have r11 := r10.set (k := k) (by rw [hsl]; exact hlt) (Dbm.keptG (Zo.matL z) [(Rg.pt k long).t, (Rg.pt k long).u])
     rw [hss] at r11
     have B11 : Below w.heap.size w (w10.setCell ⟨g, k, none⟩ (.bool (Dbm.keptG (Zo.matL z) [(Rg.pt k long).t, (Rg.pt k long).u]))) := h10.below.setCell (p := ⟨g, k, none⟩) hgw _
     generalize w10.setCell ⟨g, k, none⟩ (.bool (Dbm.keptG (Zo.matL z) [(Rg.pt k long).t, (Rg.pt k long).u])) = w11 at r11 B11
     rw [← hnew] at r11
     exact Need.mk (by simp only [inK]; omega) (EndI.mk fun w12 h12 => ⟨(i + 1, w12), Cov.au rfl rfl rfl rfl rfl, rfl, ⟨hiN, h12.below, r11.at h12 (by simp)⟩, by simp only; omega⟩)
    ·have hacc1 : acc = true := by simpa using c3
     refine exit (by
      rw [hacc1]
      rw [hacc1] at hacc
      simp only [Bool.and_eq_true] at hacc
      obtain ⟨z, h1, h2⟩ := List.any_eq_true.1 hacc.2
      unfold Rg.hitG
      rw [c2, Bool.true_and]
      exact (List.any_eq_true.2 ⟨z, List.mem_of_mem_take h1, h2⟩).symm) fun hR9 => ?_
     exact Need.mk (by simp only [inK]; omega) (EndI.mk fun w9 h9 => ⟨(k + 1, w9), Cov.au rfl rfl rfl rfl rfl, rfl, ⟨hlt, h9.below, hR9.at h9 (by simp)⟩, by simp only; omega⟩)
   ·refine exit (by rw [← hacc, Rg.hitG, c2]; rfl) fun hR9 => ?_
    exact Need.mk (by simp only [inK]; omega) (EndI.mk fun w9 h9 => ⟨(k + 1, w9), Cov.au rfl rfl rfl rfl rfl, rfl, ⟨hlt, h9.below, hR9.at h9 (by simp)⟩, by simp only; omega⟩)
  ·have hge : i = l.length := by have := of_decide_eq_false c1; simp only at this; omega
   refine exit (by rw [← hacc, Rg.hitG, hge, List.take_length]) fun hR9 => ?_
   exact Need.mk (by simp only [inK]; omega) (EndI.mk fun w9 h9 => ⟨(k + 1, w9), Cov.au rfl rfl rfl rfl rfl, rfl, ⟨hlt, h9.below, hR9.at h9 (by simp)⟩, by simp only; omega⟩)
 ·have hge : k = M := by have := of_decide_eq_false hb; simp only at this; omega
  subst hge
  have hSl := hRk.sl (c := cb') (by rw [hdl]; exact hcb1) hcb2
  have cP := rpick14_any (D k) (by rw [hdl]; omega) (some ⟨g, 0, none⟩) cb'
  rw [hdl] at cP hSl
  apply CallI.use
  focus (exact fun w6 h6 => cP w6 (hSl.go (at_belowM h6 (by simp)) h6.size))
  rintro v w6 v6 h6 hB6 hO6
  obtain ⟨a6, c6, rfl⟩ := hO6.form
  exact EndI.mk fun w9 h9 => (hO6.lower h6.below.size).below (at_belowM h9 (by simp))
end Go.Proofs.YtanhnllkccldhaaGreat
namespace Go.Proofs.YtanhnllkccldhaaGreat
set_option linter.unusedVariables false
set_option linter.unusedSimpArgs false
open Go.RowKit Go.Proofs.YtanhnllkccldhaaGreat.Eng Enc
namespace Cv
open Mi Zo
end Cv
end Go.Proofs.YtanhnllkccldhaaGreat
namespace Go.Proofs.YtanhnllkccldhaaGreat
set_option linter.unusedVariables false
set_option linter.unusedSimpArgs false
set_option maxRecDepth 100000
open Go.RowKit Go.Proofs.YtanhnllkccldhaaGreat.Eng Enc
namespace Zs
open Cv
end Zs
namespace Zs
end Zs
namespace Cl
end Cl
namespace Cl
theorem ins_i64 {z : Zn} (h : Zn.ins z) : Zo.i64 z := by
 obtain ⟨h1, h2, h3, h4, h5, h6⟩ := h
 simp only [inK] at h1 h2 h3 h4 h5 h6
 intro b hb
 unfold Zo.matL at hb
 unfold Dbm.int64
 simp only [List.mem_cons, List.not_mem_nil, or_false] at hb
 omega
end Cl
theorem great25_any (old p : List Zn) (io : ∀ z, z ∈ old → Zo.i64 z) (ip : ∀ z, z ∈ p → Zo.i64 z) (a b : Option Addr) (ca cb : Nat) (w : World) (hS : Sl w.heap.size w (.slice a old.length ca) old) (hT : Sl w.heap.size w (.slice b p.length cb) p) :
 Calls Tryz.prog 23 #[.slice a old.length ca, .slice b p.length cb] w fun e w' => e = .returned (.bool (Cl.great old p)) ∧ Below w.heap.size w w' := by
 refine fun_eq 0 w Tryz.func23 (args := [.val (.slice a old.length ca), .val (.slice b p.length cb)]) rfl rfl ?_
 have st := Stay.first (w := w)
 unfold Cl.great
 have e1 : (decide ((old.length : Int) > 40)) = decide (40 < old.length) := by rw [decide_eq_decide]; omega
 have e2 : (decide ((p.length : Int) > 40)) = decide (40 < p.length) := by rw [decide_eq_decide]; omega
 refine Branch.mk (fun h1 => ?_) (fun h1 => ?_)
 ·have h1 := e1.symm.trans h1
  exact EndI.mk fun w9 h9 => by rw [h1]; rfl
 have h1 := e1.symm.trans h1
 rw [h1]
 refine Branch.mk (fun h2 => ?_) (fun h2 => ?_)
 ·have h2 := e2.symm.trans h2
  exact EndI.mk fun w9 h9 => by rw [h2]; rfl
 have h2 := e2.symm.trans h2
 rw [h2]
 apply CallI.use1
 focus (exact fun w2 h2 => rlong24_any old io a ca w2 (hS.st (st.at h2)))
 intro w2 v2 h2 hB2
 have st := st.nx h2 hB2
 refine Branch.mk (fun h3 => ?_) (fun h3 => ?_)
 ·have h3 : decide (6 < Tb.lng 0 old) = true := h3
  exact EndI.mk fun w9 h9 => by rw [h3]; rfl
 have h3 : decide (6 < Tb.lng 0 old) = false := h3
 rw [h3]
 apply CallI.use1
 focus (exact fun w3 h3 => rlong24_any p ip b cb w3 (hT.st (st.at h3)))
 intro w3 v3 h3 hB3
 have st := st.nx h3 hB3
 exact EndI.mk fun w9 h9 => by rfl
theorem Sl.idxE {α : Type} [Enc α] {n : Nat} {W : World} {a : Option Addr} {m cap : Nat} {l : List α} (h : Sl n W (.slice a m cap) l) {k : Nat} {x : α} (hk : l[k]? = some x) {i : Int} (hi : i = (k : Int)) {K : Addr → Prop} (hK : ∀ ad, a = some ad → K ad) : IdxI a i (m : Int) K := by
 subst hi; exact h.idx hk hK
theorem Sl.ldvE {α : Type} [Enc α] {n : Nat} {W w : World} {L : List Nat} {a : Option Addr} {ad : Addr} {m cap : Nat} {l : List α} (h : Sl n W (.slice a m cap) l) {k : Nat} {x : α} (hk : l[k]? = some x) {i : Int} (hi : i = (k : Int)) {v : Value} (hv : enc x = [v]) (had : a = some ad) (hB : Below n W w) (hL : ∀ b, b ∈ L → n ≤ b) {K : Value → Prop} (hK : K v) :
 LoadI w L (ad.add (i.toNat * 1)) K := by
 subst hi; exact h.ldv hk hv had hB hL hK
namespace Cl
theorem Rows.get {n₁ : Nat} {W : World} {ss : List Svl} {ls : List (List Zn)} (h : Rows n₁ W ss ls) (he : ss.length = ls.length) {k : Nat} {l : List Zn} (hk : ls[k]? = some l) : ∃ a c, ss[k]? = some ⟨a, l.length, c⟩ ∧ Own TZ n₁ W (.slice a l.length c) l := by
 have h1 := (List.getElem?_eq_some_iff.1 hk).1
 have h2 := List.getElem?_eq_getElem (l := ss) (i := k) (by omega)
 generalize ss[k]'(by omega) = s at h2
 have h3 := h k s l h2 hk
 obtain ⟨a, c, e⟩ := id h3.form
 injection e with e1 e2 e3
 obtain ⟨sa, sl, sc⟩ := s
 simp only at e1 e2 e3 h3
 subst e2
 exact ⟨sa, sc, h2, h3⟩
end Cl
end Go.Proofs.YtanhnllkccldhaaGreat
