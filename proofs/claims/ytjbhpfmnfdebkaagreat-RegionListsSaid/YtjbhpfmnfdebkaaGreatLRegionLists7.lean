/-
  Merged texts of this law (each with its own head below).
-/
import Derived.Test.YtjbhpfmnfdebkaaGreatLRegionLists6
import Derived.Test.YtjbhpfmnfdebkaaGreatLRegionLists4
import Derived.Test.YtjbhpfmnfdebkaaGreatLRegionLists5
/-
  The document's answer of layer 14: Within, AskWithin, by the engine.
-/
namespace Go.Proofs.YtjbhpfmnfdebkaaGreat
set_option linter.unusedVariables false
set_option linter.unusedSimpArgs false
set_option maxRecDepth 100000
open Go.RowKit Go.Proofs.YtjbhpfmnfdebkaaGreat.Eng Enc

namespace Rg
theorem add_low {a b : Rt} (ha : a.ok = true) (hb : b.ok = true) (h1 : -2000 ≤ a.num ∧ a.num ≤ 2000) (h2 : -2000 ≤ b.num ∧ b.num ≤ 2000) (h3 : a.den ≤ 3) (h4 : b.den ≤ 3) : (Fr.add a b).1.ok = true ∧ (Fr.add a b).2 = 0 := by
  have o1 := (Fr.ok_bd ha).1
  have o2 := (Fr.ok_bd hb).1
  unfold Fr.add
  rw [if_pos ⟨ha, hb⟩]
  have hn : -12000 ≤ Fr.tn a b ∧ Fr.tn a b ≤ 12000 := by
    unfold Fr.tn
    rcases (by omega : a.den = 1 ∨ a.den = 2 ∨ a.den = 3) with e | e | e <;> rcases (by omega : b.den = 1 ∨ b.den = 2 ∨ b.den = 3) with f | f | f <;> rw [e, f] <;> omega
  have hd : 1 ≤ Fr.dn a b 1 ∧ Fr.dn a b 1 ≤ 9 := by
    unfold Fr.dn
    rcases (by omega : a.den = 1 ∨ a.den = 2 ∨ a.den = 3) with e | e | e <;> rcases (by omega : b.den = 1 ∨ b.den = 2 ∨ b.den = 3) with f | f | f <;> rw [e, f] <;> decide
  unfold Fr.sum
  generalize Fr.tn a b = n at *
  generalize Fr.dn a b 1 = d at *
  have hg : 0 < Int.gcd n d := Int.gcd_pos_of_ne_zero_right _ (by omega)
  have hcop := Int.gcd_ediv_gcd_ediv_gcd (i := n) (j := d) hg
  obtain ⟨q, hq⟩ : (Int.gcd n d : Int) ∣ d := Int.gcd_dvd_right _ _
  have hg9 : (Int.gcd n d : Int) ≤ 9 := by
    have := Int.le_of_dvd (by omega) (Int.gcd_dvd_right n d)
    omega
  generalize Int.gcd n d = g at *
  have e1 : d / (g : Int) = q := by rw [hq]; exact Int.mul_ediv_cancel_left _ (by omega)
  have hq1 : 1 ≤ q ∧ q ≤ 9 := by
    rcases (by omega : g = 1 ∨ g = 2 ∨ g = 3 ∨ g = 4 ∨ g = 5 ∨ g = 6 ∨ g = 7 ∨ g = 8 ∨ g = 9) with e | e | e | e | e | e | e | e | e <;> subst e <;> omega
  have hng : -12000 ≤ n / (g : Int) ∧ n / (g : Int) ≤ 12000 := by
    rcases (by omega : g = 1 ∨ g = 2 ∨ g = 3 ∨ g = 4 ∨ g = 5 ∨ g = 6 ∨ g = 7 ∨ g = 8 ∨ g = 9) with e | e | e | e | e | e | e | e | e <;> subst e <;> omega
  have hk := (of_low (n := n / (g : Int)) (d := d / (g : Int)) (by omega) (by omega) hcop).2
  have hi : Fr.inI (n / (g : Int)) = true := by unfold Fr.inI; simp; omega
  rw [if_pos ⟨hk, hi⟩]
  exact ⟨hk, rfl⟩
theorem pt_low {n long : Int} (hl : 1 ≤ long ∧ long ≤ 16) (hn : 0 ≤ n ∧ n < 3 * (2 * long + 1) * (2 * long + 1)) : (0 ≤ (pt n long).t.num ∧ (pt n long).t.num ≤ 2000 ∧ 1 ≤ (pt n long).t.den ∧ (pt n long).t.den ≤ 3) ∧ (0 ≤ (pt n long).u.num ∧ (pt n long).u.num ≤ 2000 ∧ 1 ≤ (pt n long).u.den ∧ (pt n long).u.den ≤ 3) := by
  have hs : sides long = 2 * long + 1 := rfl
  have ht : 0 ≤ n / 3 / sides long ∧ n / 3 / sides long ≤ 1000 := by
    have h1 : 0 ≤ n / 3 / sides long := Int.ediv_nonneg (by omega) (by omega)
    have h2 : n / 3 / sides long < sides long := by
      refine Int.ediv_lt_of_lt_mul (by omega) ?_
      have : n < 3 * (sides long * sides long) := by rw [← Int.mul_assoc]; exact hn.2
      omega
    omega
  have hu : 0 ≤ n / 3 % sides long ∧ n / 3 % sides long ≤ 1000 := by
    have h1 := Int.emod_nonneg (n / 3) (b := sides long) (by omega)
    have h2 := Int.emod_lt_of_pos (n / 3) (b := sides long) (by omega)
    omega
  have h3 := parts_three (r := n % 3) (by omega)
  have low : ∀ {pl pa d : Int}, 0 ≤ pl ∧ pl ≤ 1000 → Three pa d → 0 ≤ (time pl pa d).num ∧ (time pl pa d).num ≤ 2000 ∧ 1 ≤ (time pl pa d).den ∧ (time pl pa d).den ≤ 3 := fun {pl pa d} h hd => by
    rw [(time_doc h hd).1]
    split
    · simp only; omega
    · rcases hd with ⟨rfl, rfl⟩ | ⟨rfl, rfl⟩ | ⟨rfl, rfl⟩ <;> simp only <;> omega
  exact ⟨low ht h3.1, low hu h3.2⟩
/-- how far a region's point's times lie apart. -/
def gap (n long : Int) : Rt := (Fr.add (pt n long).u ⟨0 - (pt n long).t.num, (pt n long).t.den⟩).1
def spF (s : Sp) (long : Int) (x : Int) : Bool := inSp s (gap x long)
def within (a : List Int) (s : Sp) (long : Int) : List Int × Int :=
  if fits long = false then ([], 2) else if mayL a long = true ∧ Wn.spMay s = true then (a.filter (spF s long), 0) else ([], 8)
theorem ok_neg {a : Rt} (h : a.ok = true) (hn : 0 ≤ a.num ∧ a.num ≤ 2000) (hd : a.den ≤ 3) : (⟨0 - a.num, a.den⟩ : Rt).ok = true := by
  have o1 := (Fr.ok_bd h).1
  have hg : Int.gcd (0 - a.num) a.den = 1 := by
    rw [Int.zero_sub, Int.neg_gcd]
    unfold Rt.ok Fr.okB at h
    simp only [Bool.and_eq_true, decide_eq_true_eq] at h
    exact h.2
  exact (of_low (n := 0 - a.num) (d := a.den) (by omega) (by omega) hg).2
theorem gap_fine {n long : Int} (hl : 1 ≤ long ∧ long ≤ 16) (hn : 0 ≤ n ∧ n < 3 * (2 * long + 1) * (2 * long + 1)) : (gap n long).ok = true ∧ (gap n long).ins := by
  obtain ⟨_, h2, h3⟩ := pt_fine hl hn
  obtain ⟨h4, h5⟩ := pt_low hl hn
  exact ⟨(add_low h3 (ok_neg h2 (by omega) (by omega)) (by omega) (by simp only; omega) (by omega) (by simp only; omega)).1, Fr.add_ins⟩
end Rg
set_option maxHeartbeats 1000000 in
theorem rwithin14_any (l : List Int) (hlen : l.length ≤ 900000) (s : Sp) (hs : Wn.spMay s = true) (long : Int) (hl : 1 ≤ long ∧ long ≤ 16) (hm : Rg.mayL l long = true) (pa : Option Addr) (ca : Nat) (w : World) (hS : Sl w.heap.size w (.slice pa l.length ca) l) :
    Calls Tryz.prog 109 #[.slice pa l.length ca, .agg #[.int .i64 s.lo, .bool s.ls, .int .i64 s.hi, .bool s.hs, .bool s.op], .int .i64 long] w (Ret w fun v w' => Own TKi w.heap.size w' v (l.filter (Rg.spF s long))) := by
  refine fun_ret 0 w Tryz.func109 (args := [.val (.slice pa l.length ca), .agg [.val (.int .i64 s.lo), .val (.bool s.ls), .val (.int .i64 s.hi), .val (.bool s.hs), .val (.bool s.op)], .val (.int .i64 long)]) rfl rfl ?_
  have st := Stay.first (w := w)
  have hmany := Rg.many_doc hl
  refine NewI.mk fun b1 hb1 => ?_
  have hb1' : w.heap.size ≤ b1 := hb1
  refine LoopI.invC (α := Nat × World × Value) (fun y => [(8, .val (.int .i64 y.1)), (7, .val y.2.2)]) (fun y => y.2.1) (fun y => y.1 ≤ l.length ∧ Below w.heap.size w y.2.1 ∧ Own TKi w.heap.size y.2.1 y.2.2 ((l.take y.1).filter (Rg.spF s long)) ∧ ∀ g, y.2.2.ownBlock = some g → g ≠ b1) (fun y => l.length - y.1) ?_ ?_
  · intro w1 h1
    exact ⟨(0, w1, .slice none 0 0), Cov.mk (by repeat' (first | exact trivial | refine And.intro rfl ?_)) rfl rfl rfl rfl rfl, rfl, Nat.zero_le _, h1.below, Own.nil, fun g hg => by cases hg⟩
  rintro ⟨k, V, ov⟩ ⟨hk, hV, hO, hg1⟩
  simp only at hk hV hO hg1
  obtain ⟨ao, co, rfl⟩ := hO.form
  have hle := Rg.filt_len l k (Rg.spF s long)
  refine Branch.mk (fun z3 => ?_) (fun z3 => ?_)
  · have hlt : k < l.length := by have := of_decide_eq_true z3; simp only at this; omega
    have hx := List.getElem?_eq_getElem (l := l) (i := k) hlt
    have hxm := List.getElem_mem hlt
    generalize l[k] = x at hx hxm
    have hes := Rg.filt_step (Rg.spF s long) hx
    have hxn := Rg.may_in hm hxm
    rw [hmany] at hxn
    obtain ⟨hpi, hpt, hpu⟩ := Rg.pt_fine hl hxn
    obtain ⟨lt, lu⟩ := Rg.pt_low hl hxn
    obtain ⟨gok, gin⟩ := Rg.gap_fine hl hxn
    have hSV := hS.go hV hV.size
    refine hSV.idx hx fun ad had => ?_
    refine hSV.ld1 hx had (Below.refl _ _) (by simp) ?_
    apply CallI.use1
    focus (exact fun w5 h5 => rof14_any x long hl hxn w5)
    intro w5 v5 h5 hB5
    refine NewI.mk fun b2 hb2 => ?_
    have hb2' : v5.heap.size ≤ b2 := hb2
    have hV5 : Below w.heap.size w v5 := h5.below.trans (hB5.mono h5.below.size)
    have hO5 := (hO.atNe h5 (fun g hg hm => by simp at hm)).below hB5
    have hrow : ∀ g, (Value.slice ao ((l.take k).filter (Rg.spF s long)).length co).ownBlock = some g → w.heap.size ≤ g ∧ g < b2 ∧ g ≠ b1 := fun g hg => by
      have e1 := hO.lt g hg
      have e2 := h5.size
      have e3 := hB5.size
      have e4 := hg1 g hg
      simp only at e2
      omega
    refine Need.mk (by simp only [inK]; omega) ?_
    apply CallI.use1
    focus (exact fun w6 h6 => radd03_any (Rg.pt x long).u ⟨0 - (Rg.pt x long).t.num, (Rg.pt x long).t.den⟩ hpi.2 ⟨by simp only [inK]; omega, by simp only [inK]; omega⟩ w6)
    intro w6 v6 h6 hB6
    refine NewI.mk fun b3 hb3 => ?_
    have hb3' : v6.heap.size ≤ b3 := hb3
    have hO6 := (hO5.atNe h6 (fun g hg hm => by have := hrow g hg; simp at hm <;> omega)).below hB6
    have hn6 : b2 < v6.heap.size ∨ v6.heap.size ≤ b2 := by omega
    apply CallI.use1
    focus (exact fun w7 h7 => rinspan_any (Rg.gap x long) s hs gok gin w7)
    intro w7 v7 h7 hB7
    have hV7 : Below w.heap.size w v7 := h7.below.trans (hB7.mono h7.below.size)
    have hgr : ∀ g, (Value.slice ao ((l.take k).filter (Rg.spF s long)).length co).ownBlock = some g → g < b3 := fun g hg => by
      have e1 := hO6.lt g hg
      omega
    have hO7 := (hO6.atNe h7 (fun g hg hm => by have := hrow g hg; have := hgr g hg; simp at hm <;> omega)).below hB7
    have hT : Rg.spF s long x = Rg.inSp s (Rg.gap x long) := rfl
    refine Branch.mk (fun c1 => ?_) (fun c1 => ?_)
    · rw [hT, if_pos c1] at hes
      have hSZ := hS.go hV7 hV7.size
      refine hSZ.idx hx fun ad9 had9 => ?_
      refine hSZ.ld1 hx had9 (Below.refl _ _) (by simp) ?_
      refine NewI.mk fun b4 hb4 => ?_
      have hnr : ∀ g, (Value.slice ao ((l.take k).filter (Rg.spF s long)).length co).ownBlock = some g → w.heap.size ≤ g ∧ g ∉ [b1, b2, b3, b4] := fun g hg => by
        have e0 := hrow g hg
        have e1 := hO7.lt g hg
        have e2 := hb4
        have e3 := hgr g hg
        refine ⟨e0.1, fun hm => ?_⟩
        simp only [List.mem_cons, List.not_mem_nil, or_false] at hm
        omega
      refine GenN.appAt (α := Int) elIn ((l.take k).filter (Rg.spF s long)) [x] w.heap.size (fun w5 h5 => hO7.atNe h5 (fun g hg hm => (hnr g hg).2 (by simp at hm ⊢ <;> omega))) (fun w5 h5 => src_own h5 3 rfl rfl rfl rfl) (by unfold maxLen; simp; omega) (by simp; omega) (fun w5 h5 => h5.below.size) (fun w5 w6 h5 hg => keep_grown h5 hg hnr) fun v1 w8 w9 h8 hg hO1 hat => ?_
      rw [← hes] at hO1
      have hs8 := h8.size
      refine Need.mk (by simp only [inK]; omega) (EndI.mk fun w10 h10 => ⟨(k + 1, w10, v1), Cov.mk (by repeat' (first | exact trivial | refine And.intro rfl ?_)) rfl rfl rfl rfl rfl, rfl, ⟨hlt, h10.below, hO1.atNe h10 (fun g hgg hm => by simp at hm), fun g hgg => ?_⟩, by simp only; omega⟩)
      rcases hat with e | e
      · rw [e] at hgg; exact (hrow g hgg).2.2
      · rw [e] at hgg
        injection hgg with hgg
        have := h5.lt b1 (by simp)
        have := hB5.size
        have := h6.size
        have := hB6.size
        have := h7.size
        have := hB7.size
        simp only at *
        omega
    · rw [hT, if_neg (by rw [c1]; decide)] at hes
      rw [← hes] at hO7 hg1 ⊢
      exact Need.mk (by simp only [inK]; omega) (EndI.mk fun w10 h10 => ⟨(k + 1, w10, .slice ao ((l.take (k + 1)).filter (Rg.spF s long)).length co), Cov.mk (by repeat' (first | exact trivial | refine And.intro rfl ?_)) rfl rfl rfl rfl rfl, rfl, ⟨hlt, h10.below, hO7.atNe h10 (fun g hgg hm => by simp at hm), fun g hgg => hg1 g hgg⟩, by simp only; omega⟩)
  · have hge : k = l.length := by have := of_decide_eq_false z3; simp only at this; omega
    subst hge
    exact EndI.mk fun w10 h10 => by
      have := hO.atNe h10 (fun g hgg hm => by simp at hm)
      simpa only [List.take_length] using this
theorem raskwithin_any (l : List Int) (hlen : l.length ≤ 900000) (s : Sp) (long : Int) (pa : Option Addr) (ca : Nat) (w : World) (hS : Sl w.heap.size w (.slice pa l.length ca) l) :
    Calls Tryz.prog 43 #[.slice pa l.length ca, .agg #[.int .i64 s.lo, .bool s.ls, .int .i64 s.hi, .bool s.hs, .bool s.op], .int .i64 long] w (Ret w fun v w' => ∃ a' c', v = .tuple #[.slice a' (Rg.within l s long).1.length c', .int .i64 (Rg.within l s long).2] ∧ Own TKi w.heap.size w' (.slice a' (Rg.within l s long).1.length c') (Rg.within l s long).1) := by
  refine fun_ret 0 w Tryz.func43 (args := [.val (.slice pa l.length ca), .agg [.val (.int .i64 s.lo), .val (.bool s.ls), .val (.int .i64 s.hi), .val (.bool s.hs), .val (.bool s.op)], .val (.int .i64 long)]) rfl rfl ?_
  have st := Stay.first (w := w)
  refine NewI.mk fun b1 hb1 => ?_
  have hb1' : w.heap.size ≤ b1 := hb1
  apply CallI.use1
  focus (exact fun w2 h2 => rfits14_any long w2)
  intro w2 v2 h2 hB2
  have st := st.next h2 (fun x hx => by simp at hx <;> omega) hB2
  unfold Rg.within
  refine Branch.mk (fun hc => ?_) (fun hc => ?_)
  · have hf : Rg.fits long = false := by simpa using hc
    rw [if_pos hf]
    exact EndI.mk fun w9 h9 => ⟨_, _, rfl, Own.nil⟩
  have hf : Rg.fits long = true := by simpa using hc
  have hl := Rg.fits_iff.1 hf
  rw [if_neg (by rw [hf]; decide)]
  apply CallI.use1
  focus (exact fun w3 h3 => rmay14_any l long pa ca w3 (hS.st (st.at h3 (fun x hx => by simp at hx <;> omega))))
  intro w3 v3 h3 hB3
  have st := st.next h3 (fun x hx => by simp at hx <;> omega) hB3
  refine Branch.mk (fun z1 => ?_) (fun z1 => ?_)
  · have z1' : Rg.mayL l long = false := by simpa using z1
    rw [if_neg (fun h => absurd h.1 (by rw [z1']; decide))]
    exact EndI.mk fun w9 h9 => ⟨_, _, rfl, Own.nil⟩
  have z1' : Rg.mayL l long = true := by simpa using z1
  apply CallI.use1
  focus (exact fun w4 h4 => rmayspan_any s w4)
  intro w4 v4 h4 hB4
  have st := st.next h4 (fun x hx => by simp at hx <;> omega) hB4
  refine Branch.mk (fun z2 => ?_) (fun z2 => ?_)
  · have z2' : Wn.spMay s = false := by simpa using z2
    rw [if_neg (fun h => absurd h.2 (by rw [z2']; decide))]
    exact EndI.mk fun w9 h9 => ⟨_, _, rfl, Own.nil⟩
  have z2' : Wn.spMay s = true := by simpa using z2
  rw [if_pos ⟨z1', z2'⟩]
  apply CallI.use
  focus (exact fun w5 h5 => rwithin14_any l hlen s z2' long hl z1' pa ca w5 (hS.go h5.below h5.below.size))
  rintro v w5 v5 h5 hB5 hO5
  obtain ⟨a5, c5, rfl⟩ := hO5.form
  exact EndI.mk fun w9 h9 => ⟨_, _, rfl, (hO5.lower h5.below.size).below (at_belowM h9 (by simp))⟩
end Go.Proofs.YtjbhpfmnfdebkaaGreat

/-
  region.Within's closure, by the engine. (UNDER WAY)
-/
namespace Go.Proofs.YtjbhpfmnfdebkaaGreat
set_option linter.unusedVariables false
set_option linter.unusedSimpArgs false
set_option maxRecDepth 100000
open Go.RowKit Go.Proofs.YtjbhpfmnfdebkaaGreat.Eng Enc

theorem withinF_any (n : Int) (a : Option Addr) (cap : Nat) (L : List Int) (er : Int) (q1 q2 : Nat) (p : Pt) (hp : p.ins) (hT : 0 ≤ p.t.num) (W : World) (hS : Sl W.heap.size W (.slice a L.length cap) L)
    (hc1 : W.cell? ⟨q1, 0, none⟩ = some (.int .i64 er)) (hc2 : W.cell? ⟨q2, 0, none⟩ = some (.int .i64 n)) (hc3 : W.cell? ⟨q2, 1, none⟩ = some (.slice a L.length cap)) :
    Calls Tryz.prog 89 #[.agg #[.int .i64 p.t.num, .int .i64 p.t.den, .int .i64 p.u.num, .int .i64 p.u.den], .pointer (some ⟨q1, 0, none⟩), .pointer (some ⟨q2, 0, none⟩)] W fun e w' => e = .returned (.bool (decide (er = 0) && (Dbm.keeps n L [(Fr.add p.u ⟨0 - p.t.num, p.t.den⟩).1]).1)) ∧ Below W.heap.size W w' := by
  rw [Int.zero_sub]
  have l1 := World.block_lt_of_cell? _ _ hc1
  have l2 := World.block_lt_of_cell? _ _ hc2
  simp only at l1 l2
  refine fun_eq 0 W Tryz.func89 (args := [.agg [.val (.int .i64 p.t.num), .val (.int .i64 p.t.den), .val (.int .i64 p.u.num), .val (.int .i64 p.u.den)], .val (.pointer (some ⟨q1, 0, none⟩)), .val (.pointer (some ⟨q2, 0, none⟩))]) rfl rfl ?_
  refine NewI.mk fun b1 hb1 => ?_
  apply CallI.use1
  focus (exact fun w5 h5 => rof_any 0 1 (by simp [inK]) (by simp [inK]) w5)
  intro w5 v5 h5 hB5
  refine NewI.mk fun b2 hb2 => ?_
  have hb2' : v5.heap.size ≤ b2 := hb2
  have hW5 : Below W.heap.size W v5 := h5.below.trans (hB5.mono h5.below.size)
  have hs5 := hW5.size
  have d1 : v5.cell? ⟨q1, 0, none⟩ = some (.int .i64 er) := (hW5.cell (p := ⟨q1, 0, none⟩) l1).trans hc1
  refine LoadI.mk ⟨_, ⟨d1, by simp; omega⟩, ?_⟩
  refine Branch.mk (fun c1 => ?_) (fun c1 => ?_)
  · refine Need.mk (by have := hp.1.1; simp only [inK] at this ⊢; omega) ?_
    apply CallI.use1
    focus (exact fun w6 h6 => radd_any p.u ⟨-p.t.num, p.t.den⟩ hp.2 ⟨by have := hp.1.1; simp only [inK] at this ⊢; omega, hp.1.2⟩ w6)
    intro w6 v6 h6 hB6
    have hW6 : Below W.heap.size W v6 := h6.below.trans (hB6.mono h6.below.size)
    refine ⟨⟨[.int .i64 n, .slice a L.length cap], ⟨rfl, by decide, fun e => ?_, fun j c hj => ?_⟩, ?_⟩⟩
    · simp at e; omega
    · have d2 := (hW6.cell (p := ⟨q2, 0, none⟩) l2).trans hc2
      have d3 := (hW6.cell (p := ⟨q2, 1, none⟩) l2).trans hc3
      match j, hj with
      | 0, hj => injection hj with hj; subst hj; simpa [Addr.add] using d2
      | 1, hj => injection hj with hj; subst hj; simpa [Addr.add] using d3
    refine NewI.mk fun b3 hb3 => ?_
    have c1' : er = 0 := by simpa using c1
    have hs6 := h6.size
    have hs6' := hB6.size
    apply CallI.use
    focus (exact fun w7 h7 => dkeeps_any n a cap L [(Fr.add p.u ⟨-p.t.num, p.t.den⟩).1] _ 1 w7 (by intro x hx; rw [List.mem_singleton.1 hx]; exact Fr.add_ins) (hS.go h7.below h7.below.size) (Sl.own (l := [(Fr.add p.u ⟨-p.t.num, p.t.den⟩).1]) h7 2 rfl rfl rfl (Nat.le_refl _) (by simp [maxLen])))
    rintro v w7 v7 h7 hB7 rfl
    have hW7 : Below W.heap.size W v7 := h7.below.trans (hB7.mono h7.below.size)
    have d4 : v7.cell? ⟨q1, 0, none⟩ = some (.int .i64 er) := (hW7.cell (p := ⟨q1, 0, none⟩) l1).trans hc1
    refine LoadI.mk ⟨_, ⟨d4, by first | (simp; done) | (simp; omega)⟩, ?_⟩
    refine Branch.yes (by rw [c1']; rfl) ?_
    exact EndI.mk fun w9 h9 => by rw [c1]; rfl
  · refine ⟨⟨[.int .i64 n, .slice a L.length cap], ⟨rfl, by decide, fun e => ?_, fun j c hj => ?_⟩, ?_⟩⟩
    · simp at e; try omega
    · have d2 := (hW5.cell (p := ⟨q2, 0, none⟩) l2).trans hc2
      have d3 := (hW5.cell (p := ⟨q2, 1, none⟩) l2).trans hc3
      match j, hj with
      | 0, hj => injection hj with hj; subst hj; simpa [Addr.add] using d2
      | 1, hj => injection hj with hj; subst hj; simpa [Addr.add] using d3
    refine NewI.mk fun b3 hb3 => ?_
    apply CallI.use
    focus (exact fun w7 h7 => dkeeps_any n a cap L [(Fr.of 0 1).1] _ 1 w7 (by intro x hx; rw [List.mem_singleton.1 hx]; exact Fr.of_ins (by simp [inK])) (hS.go h7.below h7.below.size) (Sl.own (l := [(Fr.of 0 1).1]) h7 2 rfl rfl rfl (Nat.le_refl _) (by simp [maxLen])))
    rintro v w7 v7 h7 hB7 rfl
    have hW7 : Below W.heap.size W v7 := h7.below.trans (hB7.mono h7.below.size)
    have d4 : v7.cell? ⟨q1, 0, none⟩ = some (.int .i64 er) := (hW7.cell (p := ⟨q1, 0, none⟩) l1).trans hc1
    refine LoadI.mk ⟨_, ⟨d4, by first | (simp; done) | (simp; omega)⟩, ?_⟩
    refine Branch.no (by simpa using c1) ?_
    exact EndI.mk fun w9 h9 => by rw [c1]; rfl
end Go.Proofs.YtjbhpfmnfdebkaaGreat

/-
  region.Window, by the engine.
-/
namespace Go.Proofs.YtjbhpfmnfdebkaaGreat
set_option linter.unusedVariables false
set_option linter.unusedSimpArgs false
set_option maxRecDepth 100000
open Go.RowKit Go.Proofs.YtjbhpfmnfdebkaaGreat.Eng Enc

namespace Rg
/-- the program's word on a point in a window. -/
def soW (lo hi : Int) (p : Pt) : Bool := (decide (lo < (Fr.floor p.u).1) || (decide ((Fr.floor p.u).1 = lo) && decide (0 < (part p.u).num))) && decide (place p.u ≤ 2 * max (-1) (min hi 16))
end Rg
namespace Rg
theorem soW_doc {u t : Rt} (hu : u.ok = true) (h0 : 0 ≤ u.num) (hp : place u ≤ 32) (lo hi : Int) : soW lo hi ⟨t, u⟩ = inWin lo hi u := by
  unfold soW inWin
  have hf := floor_ok hu
  have hb := Fr.ok_bd hu
  have hd := den_one hu
  have hpl := place_den hu
  have hpn := (part_num hu).1
  have hem : u.num = u.den * (u.num / u.den) + u.num % u.den := (Int.mul_ediv_add_emod u.num u.den).symm
  have hnn : 0 ≤ u.num / u.den := Int.ediv_nonneg h0 (by omega)
  have hpm : (part u).num = u.num % u.den := by
    rw [← hpn, hf, Int.mul_comm]; omega
  simp only [hpm]
  rw [hf] at hpl ⊢
  generalize u.num / u.den = f at *
  generalize u.num % u.den = r at *
  have e1 : decide (0 < r) = decide (u.den ≠ 1) := by rw [decide_eq_decide]; omega
  have e2 : place u = if u.den = 1 then 2 * f else 2 * f + 1 := by
    rw [hpl]
    split
    · rename_i h1
      rw [h1] at hem
      have := hd.2 h1
      omega
    · rfl
  have e3 : decide (place u ≤ 2 * max (-1) (min hi 16)) = (decide (f < hi) || (decide (f = hi) && decide (u.den = 1))) := by
    rw [← Bool.decide_and, ← Bool.decide_or, decide_eq_decide]
    rw [e2] at hp ⊢
    split at hp
    · rename_i h1; rw [if_pos h1]; omega
    · rename_i h1; rw [if_neg h1]; omega
  rw [e1, e3]
theorem may_place {l : List Int} {long x : Int} (hl : 1 ≤ long ∧ long ≤ 16) (h : mayL l long = true) (hx : x ∈ l) : place (pt x long).u ≤ 32 := by
  have h1 := mayTo_in h (x := x) (by rw [List.take_length]; exact hx)
  have h2 := may_in h hx
  have hs : sides long ≤ 33 := by unfold sides; omega
  have hn : number (pt x long) long = x := by
    unfold askPoint at h1
    split at h1
    · cases h1
    · split at h1
      · rename_i h3
        unfold point at h3
        exact of_decide_eq_true h3
      · cases h1
  unfold number at hn
  split at hn
  · omega
  · rename_i h3
    omega
end Rg
theorem windowF_any (lo hi : Int) (hlo : inK .i64 lo) (hhi : inK .i64 hi) (q1 q2 : Nat) (p : Pt) (hp : p.ins) (W : World)
    (hc1 : W.cell? ⟨q1, 0, none⟩ = some (.int .i64 lo)) (hc2 : W.cell? ⟨q2, 0, none⟩ = some (.int .i64 hi)) :
    Calls Tryz.prog 92 #[.agg #[.int .i64 p.t.num, .int .i64 p.t.den, .int .i64 p.u.num, .int .i64 p.u.den], .pointer (some ⟨q1, 0, none⟩), .pointer (some ⟨q2, 0, none⟩)] W fun e w' => e = .returned (.bool (Rg.soW lo hi p)) ∧ Below W.heap.size W w' := by
  have l1 := World.block_lt_of_cell? _ _ hc1
  have l2 := World.block_lt_of_cell? _ _ hc2
  simp only at l1 l2
  refine fun_eq 0 W Tryz.func92 (args := [.agg [.val (.int .i64 p.t.num), .val (.int .i64 p.t.den), .val (.int .i64 p.u.num), .val (.int .i64 p.u.den)], .val (.pointer (some ⟨q1, 0, none⟩)), .val (.pointer (some ⟨q2, 0, none⟩))]) rfl rfl ?_
  refine NewI.mk fun b1 hb1 => ?_
  apply CallI.use1
  focus (exact fun w5 h5 => rfloor_any p.u hp.2 w5)
  intro w5 v5 h5 hB5
  apply CallI.use1
  focus (exact fun w6 h6 => place_any p.u hp.2 w6)
  intro w6 v6 h6 hB6
  refine NewI.mk fun b2 hb2 => ?_
  have hb2' : v6.heap.size ≤ b2 := hb2
  have hW6 : Below W.heap.size W v6 := h6.below.trans (hB6.mono h6.below.size)
  have hs6 := hW6.size
  have d1 : v6.cell? ⟨q1, 0, none⟩ = some (.int .i64 lo) := (hW6.cell (p := ⟨q1, 0, none⟩) l1).trans hc1
  have d2 : v6.cell? ⟨q2, 0, none⟩ = some (.int .i64 hi) := (hW6.cell (p := ⟨q2, 0, none⟩) l2).trans hc2
  refine LoadI.mk ⟨_, ⟨d1, by simp; omega⟩, ?_⟩
  unfold Rg.soW
  have hm : maxL (-1) [minL hi [16]] = max (-1) (min hi 16) := by
    simp only [maxL, minL]
    repeat' split
    all_goals omega
  have hT : ∀ (A : Bool), A = true → (A && decide (Rg.place p.u ≤ 2 * max (-1) (min hi 16))) = decide (Rg.place p.u ≤ 2 * max (-1) (min hi 16)) := fun A h => by rw [h]; rfl
  have hF : ∀ (A : Bool), A = false → (A && decide (Rg.place p.u ≤ 2 * max (-1) (min hi 16))) = false := fun A h => by rw [h]; rfl
  refine Branch.mk (fun c1 => ?_) (fun c1 => ?_)
  · rw [hT _ (by rw [c1]; rfl)]
    refine LoadI.mk ⟨_, ⟨d2, by simp; omega⟩, ?_⟩
    refine Need.mk (by rw [hm]; simp only [inK]; omega) ?_
    exact EndI.mk fun w9 h9 => by rw [hm]
  · refine LoadI.mk ⟨_, ⟨d1, by simp; omega⟩, ?_⟩
    refine Branch.mk (fun c2 => ?_) (fun c2 => ?_)
    · refine Branch.mk (fun c3 => ?_) (fun c3 => ?_)
      · rw [hT _ (by rw [c1, c2, c3]; rfl)]
        refine LoadI.mk ⟨_, ⟨d2, by simp; omega⟩, ?_⟩
        refine Need.mk (by rw [hm]; simp only [inK]; omega) ?_
        exact EndI.mk fun w9 h9 => by rw [hm]
      · rw [hF _ (by rw [c1, c2, c3]; rfl)]
        exact EndI.mk fun w9 h9 => rfl
    · rw [hF _ (by rw [c1, c2]; rfl)]
      exact EndI.mk fun w9 h9 => rfl
theorem regWindow_any (l : List Int) (hlen : l.length ≤ 1000000) (hi' : ∀ x, x ∈ l → inK .i64 x) (lo hi : Int) (hlo : inK .i64 lo) (hhi : inK .i64 hi) (long : Int) (a : Option Addr) (ca : Nat) (w : World) (hS : Sl w.heap.size w (.slice a l.length ca) l) :
    Calls Tryz.prog 32 #[.slice a l.length ca, .int .i64 lo, .int .i64 hi, .int .i64 long] w (Ret w fun v w' => ∃ a' c', v = .tuple #[.slice a' (Rg.window l lo hi long).1.length c', .int .i64 (Rg.window l lo hi long).2] ∧ Own TKi w.heap.size w' (.slice a' (Rg.window l lo hi long).1.length c') (Rg.window l lo hi long).1) := by
  refine fun_ret 0 w Tryz.func32 (args := [.val (.slice a l.length ca), .val (.int .i64 lo), .val (.int .i64 hi), .val (.int .i64 long)]) rfl rfl ?_
  refine NewI.mk fun b1 hb1 => ?_
  refine NewI.mk fun b2 hb2 => ?_
  have hpin : ∀ x, 0 ≤ x → x < (Rg.many long).1 → (Rg.pt x long).ins := fun x h0 h1 => by
    by_cases hf : Rg.fits long = true
    · have hl := Rg.fits_iff.1 hf
      rw [Rg.many_doc hl] at h1
      exact (Rg.pt_fine hl ⟨h0, h1⟩).1
    · unfold Rg.many at h1
      rw [if_neg hf] at h1
      simp only at h1; omega
  apply CallI.use
  focus (exact fun w1 h1 => amongN_any l hlen hi' long (Rg.soW lo hi) (some ⟨b1, 0, none⟩) (some ⟨b2, 0, none⟩) a ca w1 (hS.go h1.below h1.below.size) (fun x h0 hx X hX => by
    have c1 : w1.heap[b1]? = some (.cells #[.int .i64 lo] 3 (0, 0)) := h1.blk 0 b1 _ rfl rfl
    have c2 : w1.heap[b2]? = some (.cells #[.int .i64 hi] 3 (0, 0)) := h1.blk 1 b2 _ rfl rfl
    have e1 := (hX.block b1 (h1.lt b1 (by simp))).trans c1
    have e2 := (hX.block b2 (h1.lt b2 (by simp))).trans c2
    exact windowF_any lo hi hlo hhi b1 b2 (Rg.pt x long) (hpin x h0 hx) X (by simp [World.cell?, e1]) (by simp [World.cell?, e2])))
  rintro v w1 v1 h1 hB1 ⟨a1, c1, rfl, hO1⟩
  by_cases hf : Rg.fits long = true
  case neg =>
    have e1 : Rg.amg l long (Rg.soW lo hi) = ([], 2) := by unfold Rg.amg; rw [if_pos (by simpa using hf)]
    have e2 : Rg.window l lo hi long = ([], 2) := by unfold Rg.window; rw [if_pos (by simpa using hf)]
    rw [e1] at hO1 ⊢
    rw [e2]
    refine Branch.no rfl ?_
    exact EndI.mk fun w9 h9 => ⟨_, _, rfl, (hO1.lower h1.below.size).below (at_belowM h9 (by simp))⟩
  have hl := Rg.fits_iff.1 hf
  by_cases hm : Rg.mayL l long = true
  case neg =>
    have e1 : Rg.amg l long (Rg.soW lo hi) = ([], 8) := by unfold Rg.amg; rw [if_neg (by rw [hf]; decide), if_neg hm]
    have e2 : Rg.window l lo hi long = ([], 8) := by unfold Rg.window; rw [if_neg (by rw [hf]; decide), if_neg hm]
    rw [e1] at hO1 ⊢
    rw [e2]
    refine Branch.no rfl ?_
    exact EndI.mk fun w9 h9 => ⟨_, _, rfl, (hO1.lower h1.below.size).below (at_belowM h9 (by simp))⟩
  have e1 : Rg.amg l long (Rg.soW lo hi) = (l.filter (Rg.winF lo hi long), 0) := by
    unfold Rg.amg
    rw [if_neg (by rw [hf]; decide), if_pos hm]
    congr 1
    apply List.filter_congr
    intro x hx
    have hr := Rg.may_in hm hx
    rw [Rg.many_doc hl] at hr
    exact Rg.soW_doc (t := (Rg.pt x long).t) (Rg.pt_fine hl hr).2.2 (Rg.pt_low hl hr).2.1 (Rg.may_place hl hm hx) lo hi
  rw [e1] at hO1 ⊢
  unfold Rg.window
  rw [if_neg (by rw [hf]; decide), if_pos hm]
  refine Branch.yes rfl ?_
  refine Branch.mk (fun c2 => ?_) (fun c2 => ?_)
  · rw [if_pos (of_decide_eq_true c2)]
    exact EndI.mk fun w9 h9 => ⟨_, _, rfl, Own.nil⟩
  · rw [if_neg (of_decide_eq_false c2)]
    exact EndI.mk fun w9 h9 => ⟨_, _, rfl, (hO1.lower h1.below.size).below (at_belowM h9 (by simp))⟩
end Go.Proofs.YtjbhpfmnfdebkaaGreat

/-
  region.Within, by the engine.
-/
namespace Go.Proofs.YtjbhpfmnfdebkaaGreat
set_option linter.unusedVariables false
set_option linter.unusedSimpArgs false
set_option maxRecDepth 100000
open Go.RowKit Go.Proofs.YtjbhpfmnfdebkaaGreat.Eng Enc

namespace Rg
open Dbm Fr
theorem v_nought : Fr.v ⟨0, 1⟩ = 0 := by decide +kernel
theorem be_may {s : Sp} (h : Wn.spMay s = true) : Bd.may (be s) = true := (may_half (.inr (Wn.be_lim h))).1
theorem ab_may {s : Sp} (h : Wn.spMay s = true) : Bd.may (ab s) = true := (may_half (Wn.ab_lim h)).1
theorem keeps_o {a b : Rt} (ha : a.ok = true) (hb : b.ok = true) {x : Int} (hx : Bd.may x = true) : (Fr.keeps a b x).1 = true ↔ satO (Fr.v a - Fr.v b) (ob x) := (keeps_sat ha hb hx).trans (sat_iff _ _)
/-- of an empty span, nothing is within. -/
theorem sp_none {s : Sp} (h : Wn.spMay s = true) (hn : ¬ Wn.spOk s) {a : Rt} (ha : a.ok = true) : inSp s a = false := by
  cases hi : inSp s a with
  | false => rfl
  | true =>
    exfalso
    apply hn
    unfold inSp at hi
    simp only [Bool.and_eq_true] at hi
    have k1 := (keeps_o (by decide) ha (be_may h)).1 hi.1
    have k2 := (keeps_o ha (by decide) (ab_may h)).1 hi.2
    rw [v_nought] at k1 k2
    have k3 := satO_add k1 k2
    rw [show (0 : Rat) - Fr.v a + (Fr.v a - 0) = 0 by grind] at k3
    unfold Wn.spOk
    generalize oadd (ob (be s)) (ob (ab s)) = o at k3 ⊢
    cases o with
    | none => trivial
    | some v => exact satO_zero.1 k3
/-- a matrix of a span that may be, kept by one time. -/
theorem sp_keeps {s : Sp} (h : Wn.spMay s = true) (hok : Wn.spOk s) {a : Rt} (ha : a.ok = true) : (Dbm.keeps 2 [1, be s, ab s, 1] [a]).1 = inSp s a := by
  have h1 := Wn.be_lim h
  have h2 := Wn.ab_lim h
  have m1 : mayC (be s) = true := Wn.mayC_of (.inr h1)
  have m2 : mayC (ab s) = true := Wn.mayC_of h2
  have m0 : mayC 1 = true := by decide
  have hc : Dbm.chk 2 [1, be s, ab s, 1] = 0 := chk_iff.2 ⟨by decide, by decide, by simp, by simp [m0, m1, m2]⟩
  unfold Dbm.keeps
  rw [if_pos ⟨hc, by simp [ha]⟩, if_pos (by simp)]
  have self : ∀ x : Rt, x.ok = true → (Fr.keeps x x 1).1 = true := fun x hx => by
    refine (keeps_o hx hx (by decide)).2 ?_
    rw [Rat.sub_self, show ob 1 = some 1 by decide]
    exact satO_zero.2 (by omega)
  have hz : (⟨0, 1⟩ : Rt).ok = true := by decide
  show Dbm.keptL 2 [1, be s, ab s, 1] [a] = _
  have e : Dbm.keptL 2 [1, be s, ab s, 1] [a] = ((Fr.keeps ⟨0, 1⟩ ⟨0, 1⟩ 1).1 && ((Fr.keeps ⟨0, 1⟩ a (be s)).1 && ((Fr.keeps a ⟨0, 1⟩ (ab s)).1 && ((Fr.keeps a a 1).1 && true)))) := rfl
  rw [e, self _ hz, self _ ha]
  unfold inSp
  simp
end Rg
theorem regWithin_any (l : List Int) (hlen : l.length ≤ 1000000) (hi' : ∀ x, x ∈ l → inK .i64 x) (s : Sp) (hs : s.ins) (long : Int) (a : Option Addr) (ca : Nat) (w : World) (hS : Sl w.heap.size w (.slice a l.length ca) l) :
    Calls Tryz.prog 31 #[.slice a l.length ca, .agg #[.int .i64 s.lo, .bool s.ls, .int .i64 s.hi, .bool s.hs, .bool s.op], .int .i64 long] w (Ret w fun v w' => ∃ a' c', v = .tuple #[.slice a' (Rg.within l s long).1.length c', .int .i64 (Rg.within l s long).2] ∧ Own TKi w.heap.size w' (.slice a' (Rg.within l s long).1.length c') (Rg.within l s long).1) := by
  refine fun_ret 0 w Tryz.func31 (args := [.val (.slice a l.length ca), .agg [.val (.int .i64 s.lo), .val (.bool s.ls), .val (.int .i64 s.hi), .val (.bool s.hs), .val (.bool s.op)], .val (.int .i64 long)]) rfl rfl ?_
  refine NewI.mk fun b1 hb1 => ?_
  apply CallI.use
  focus (exact fun w1 h1 => top_any 2 w1)
  rintro v w1 v1 h1 hB1 ⟨at_, ct, rfl, hOT⟩
  refine NewI.mk fun b2 hb2 => ?_
  rw [Zo.top2] at hOT ⊢
  apply CallI.use
  focus (exact fun w2 h2 => btw_any s hs at_ ct w2 (Sl.go hOT.sl (at_belowM h2 (by simp; exact hb2)) (at_belowM h2 (by simp; exact hb2)).size))
  rintro v w2 v2 h2 hB2 ⟨ab_, cb, rfl, hFB⟩
  have hkey : ∀ x, 0 ≤ x → x < (Rg.many long).1 → Rg.fits long = true → Wn.spMay s = true → (decide ((Zo.btw s).2.2 = 0) && (Dbm.keeps (Zo.btw s).1 (Zo.btw s).2.1 [Rg.gap x long]).1) = Rg.spF s long x := fun x h0 h1 hf hm => by
    have hl := Rg.fits_iff.1 hf
    rw [Rg.many_doc hl] at h1
    have hg := (Rg.gap_fine hl (n := x) ⟨h0, h1⟩).1
    rcases Wn.btw_may hm with ⟨hok, e⟩ | ⟨hok, e⟩
    · rw [e]
      show (true && (Dbm.keeps 2 [1, Rg.be s, Rg.ab s, 1] [Rg.gap x long]).1) = _
      rw [Bool.true_and, Rg.sp_keeps hm hok hg]; rfl
    · rw [e]
      show false = _
      exact (Rg.sp_none hm hok hg).symm
  have hbad : Wn.spMay s = false → (Zo.btw s).2.2 = 8 := fun h => by rw [Wn.btw_bad h]
  have hgood : Wn.spMay s = true → (Zo.btw s).2.2 ≠ 8 := fun h => by
    rcases Wn.btw_may h with ⟨_, e⟩ | ⟨_, e⟩ <;> rw [e]
    · exact (by decide : (0 : Int) ≠ 8)
    · exact (by decide : (6 : Int) ≠ 8)
  generalize Zo.btw s = Y at hFB hkey hbad hgood ⊢
  obtain ⟨n, L, er⟩ := Y
  simp only at hFB hkey hbad hgood ⊢
  have hSL := hFB.sl
  have hB2s := hB2.size
  refine NewI.mk fun b3 hb3 => ?_
  have hb3' : v2.heap.size ≤ b3 := hb3
  refine NewI.mk fun b4 hb4 => ?_
  have hb4' : v2.heap.size ≤ b4 := hb4
  have hw2 : Below w.heap.size w v2 := h2.below.trans (hB2.mono h2.below.size)
  have hpin : ∀ x, 0 ≤ x → x < (Rg.many long).1 → (Rg.pt x long).ins ∧ 0 ≤ (Rg.pt x long).t.num := fun x h0 h1 => by
    by_cases hf : Rg.fits long = true
    · have hl := Rg.fits_iff.1 hf
      rw [Rg.many_doc hl] at h1
      exact ⟨(Rg.pt_fine hl ⟨h0, h1⟩).1, (Rg.pt_low hl ⟨h0, h1⟩).1.1⟩
    · unfold Rg.many at h1
      rw [if_neg hf] at h1
      simp only at h1; omega
  have hamg : (er = 8 → Rg.fits long = false) → Rg.amg l long (fun p => decide (er = 0) && (Dbm.keeps n L [(Fr.add p.u ⟨0 - p.t.num, p.t.den⟩).1]).1) = Rg.within l s long := fun hne => by
    unfold Rg.amg Rg.within
    by_cases hf : Rg.fits long = false
    · rw [if_pos hf, if_pos hf]
    · rw [if_neg hf, if_neg hf]
      have hft : Rg.fits long = true := by simpa using hf
      have hsp : Wn.spMay s = true := by
        cases h : Wn.spMay s with
        | true => rfl
        | false => exact absurd (hne (hbad h)) hf
      by_cases hm : Rg.mayL l long = true
      · rw [if_pos hm, if_pos ⟨hm, hsp⟩]
        congr 1
        apply List.filter_congr
        intro x hx
        have hr := Rg.may_in hm hx
        exact hkey x hr.1 hr.2 hft hsp
      · rw [if_neg hm, if_neg (fun h => hm h.1)]
  have hclo : ∀ (w7 X : World), w7.heap[b4]? = some (.cells #[.int .i64 er] 28 (0, 0)) → w7.heap[b3]? = some (.cells #[.int .i64 n, .slice ab_ L.length cb] 99 (0, 0)) → Sl w7.heap.size w7 (.slice ab_ L.length cb) L → Below w7.heap.size w7 X →
      ∀ x, 0 ≤ x → x < (Rg.many long).1 → Calls Tryz.prog 89 #[.agg #[.int .i64 (Rg.pt x long).t.num, .int .i64 (Rg.pt x long).t.den, .int .i64 (Rg.pt x long).u.num, .int .i64 (Rg.pt x long).u.den], .pointer (some ⟨b4, 0, none⟩), .pointer (some ⟨b3, 0, none⟩)] X fun e w' => e = .returned (.bool (decide (er = 0) && (Dbm.keeps n L [(Fr.add (Rg.pt x long).u ⟨0 - (Rg.pt x long).t.num, (Rg.pt x long).t.den⟩).1]).1)) ∧ Below X.heap.size X w' := fun w7 X c4 c3 hS7 hX x h0 h1 => by
    have e4 := (hX.block b4 (Array.getElem?_eq_some_iff.1 c4).1).trans c4
    have e3 := (hX.block b3 (Array.getElem?_eq_some_iff.1 c3).1).trans c3
    exact withinF_any n ab_ cb L er b4 b3 (Rg.pt x long) (hpin x h0 h1).1 (hpin x h0 h1).2 X (hS7.go hX hX.size) (by simp [World.cell?, e4]) (by simp [World.cell?, e3]) (by simp [World.cell?, e3])
  refine Branch.mk (fun z1 => ?_) (fun z1 => ?_)
  · have he : er = 8 := of_decide_eq_true z1
    apply CallI.use1
    focus (exact fun w3 h3 => fits_any long w3)
    intro w3 v3 h3 hB3
    refine Branch.mk (fun z2 => ?_) (fun z2 => ?_)
    · have hf : Rg.fits long = true := z2
      have hsp : Wn.spMay s = false := by
        cases h : Wn.spMay s with
        | false => rfl
        | true => exact absurd he (hgood h)
      have e1 : Rg.within l s long = ([], 8) := by unfold Rg.within; rw [if_neg (by rw [hf]; decide), if_neg (fun h => by rw [hsp] at h; cases h.2)]
      rw [e1]
      refine DrawI.go (.tk 0 (.tk 1 (.tk 2 .done))) (by kernel_rfl) fun w5 h5 => ?_
      rw [he]
      exact EndI.mk fun w9 h9 => ⟨_, _, rfl, Own.nil⟩
    · have hf : Rg.fits long = false := z2
      rw [← hamg (fun _ => hf)]
      have hw3 : Below w.heap.size w v3 := h3.below.trans (hB3.mono h3.below.size)
      have hSL3 : Sl v3.heap.size v3 (.slice ab_ L.length cb) L := (hSL.go (at_below h3 (fun b hb => by simp at hb; omega)) (at_below h3 (fun b hb => by simp at hb; omega)).size).go hB3 hB3.size
      apply CallI.use
      focus (exact fun w7 h7 => amongW_any l hlen hi' long (fun p => decide (er = 0) && (Dbm.keeps n L [(Fr.add p.u ⟨0 - p.t.num, p.t.den⟩).1]).1) (some ⟨b4, 0, none⟩) (some ⟨b3, 0, none⟩) a ca w7 (hS.go h7.below h7.below.size) (fun x h0 h1 X hX => by
        have c4 : w7.heap[b4]? = some (.cells #[.int .i64 er] 28 (0, 0)) := h7.blk 3 b4 _ rfl rfl
        have c3 : w7.heap[b3]? = some (.cells #[.int .i64 n, .slice ab_ L.length cb] 99 (0, 0)) := h7.blk 2 b3 _ rfl rfl
        exact hclo w7 X c4 c3 (hSL3.go (at_below h7 (by simp)) (at_below h7 (by simp)).size) hX x h0 h1))
      rintro v w7 v7 h7 hB7 ⟨a7, c7, rfl, hO7⟩
      exact EndI.mk fun w9 h9 => ⟨_, _, rfl, (hO7.lower h7.below.size).below (at_below h9 (by simp))⟩
  · have he : er ≠ 8 := of_decide_eq_false z1
    rw [← hamg (fun h => absurd h he)]
    apply CallI.use
    focus (exact fun w7 h7 => amongW_any l hlen hi' long (fun p => decide (er = 0) && (Dbm.keeps n L [(Fr.add p.u ⟨0 - p.t.num, p.t.den⟩).1]).1) (some ⟨b4, 0, none⟩) (some ⟨b3, 0, none⟩) a ca w7 (hS.go h7.below h7.below.size) (fun x h0 h1 X hX => by
      have c4 : w7.heap[b4]? = some (.cells #[.int .i64 er] 28 (0, 0)) := h7.blk 3 b4 _ rfl rfl
      have c3 : w7.heap[b3]? = some (.cells #[.int .i64 n, .slice ab_ L.length cb] 99 (0, 0)) := h7.blk 2 b3 _ rfl rfl
      have hB7 := at_below h7 (fun b hb => by simp at hb; omega)
      exact hclo w7 X c4 c3 (hSL.go hB7 hB7.size) hX x h0 h1))
    rintro v w7 v7 h7 hB7 ⟨a7, c7, rfl, hO7⟩
    exact EndI.mk fun w9 h9 => ⟨_, _, rfl, (hO7.lower h7.below.size).below (at_below h9 (by simp))⟩
end Go.Proofs.YtjbhpfmnfdebkaaGreat

/-
  region.sixths: all times up to a length, by sixths; its iterator's contract, by the engine.
-/
namespace Go.Proofs.YtjbhpfmnfdebkaaGreat
set_option linter.unusedVariables false
set_option linter.unusedSimpArgs false
set_option maxRecDepth 100000
open Go.RowKit Go.Proofs.YtjbhpfmnfdebkaaGreat.Eng Enc

theorem sixths_any (long : Int) (w : World) :
    Calls Tryz.prog 84 #[.int .i64 long] w fun e w' => e = .returned (.func (.func 152) #[] #[.pointer (some ⟨w.heap.size, 0, none⟩)]) ∧ w' = w.alloc (.cells #[.int .i64 long] 3) := by
  go_enter Tryz.func84, Tryz.ntmps84
  go_wp2
  go_ret
  exact ⟨by simp, rfl⟩
namespace Rg
/-- what a round keeps for the iterator. -/
def KpS (n₀ Bs : Nat) (W W' : World) : Prop := Below n₀ W W' ∧ W'.heap[Bs]? = W.heap[Bs]?
def encSx (k : Nat) : List Value := [.agg #[.int .i64 (six k).num, .int .i64 (six k).den]]
/-- the numbers of sixths, below so many. -/
abbrev SI (N : Nat) := { k : Nat // k ∈ List.range N }
def sis (N : Nat) : List (SI N) := (List.range N).attach
theorem sis_len (N : Nat) : (sis N).length = N := by simp [sis]
theorem sis_get {N k : Nat} (hk : k < N) : (sis N)[k]? = some ⟨k, List.mem_range.2 hk⟩ := by
  unfold sis
  rw [List.getElem?_eq_getElem (by simpa using hk)]
  simp
theorem sis_step {N k : Nat} (hk : k < N) : (sis N).take (k + 1) = (sis N).take k ++ [⟨k, List.mem_range.2 hk⟩] := by
  rw [List.take_add_one, sis_get hk]; rfl
theorem sis_any (N : Nat) (p : Nat → Bool) : ((sis N).any fun x => p x.1) = (List.range N).any p := by
  have h : (sis N).map (·.1) = List.range N := by unfold sis; simp
  conv => rhs; rw [← h, List.any_map]
  rfl
end Rg
open Rg in
theorem sixths_stops (n Bs n₀ : Nat) (long : Int) (hl : 1 ≤ long ∧ long ≤ 16) (N : Nat) (hN : (N : Int) = 6 * long + 1) (w : World) (hB0 : n₀ ≤ Bs) (hc : w.heap[Bs]? = some (.cells #[.int .i64 long] 3 (0, 0))) :
    SeqStopsB n Tryz.prog 152 #[.pointer (some ⟨Bs, 0, none⟩)] (fun x : SI N => (encSx x.1).toArray) (KpS n₀ Bs) (fun xs => xs = sis N) (fun pre => pre <+: sis N) N Bs n₀ w := fun l J Jx W hW hJ hJx hY h0 => by
  have hsz := hW.size
  have hBl : Bs < w.heap.size := (Array.getElem?_eq_some_iff.1 hc).1
  have hn0 : n₀ ≤ W.heap.size := by omega
  refine (fun_in n n₀ W hn0 Tryz.func152 (args := [.val (.func (.yield l) #[] #[]), .val (.pointer (some ⟨Bs, 0, none⟩))]) (R := fun _ W' => (∃ xs, xs = sis N ∧ J xs W') ∨ (∃ pre, pre <+: sis N ∧ Jx pre W')) rfl rfl ?_).mono ?_
  case refine_2 =>
    rintro e W' ⟨v, rfl, _, h⟩
    exact ⟨⟨_, rfl⟩, h⟩
  have hcW := (hW.block Bs hBl).trans hc
  refine LoadI.mk ⟨.int .i64 long, ⟨by simp [World.cell?, hcW], by simp⟩, ?_⟩
  refine Need.mk (by simp only [inK]; omega) ?_
  refine Need.mk (by simp only [inK]; omega) ?_
  rw [← hN]
  refine LoopI.invC (α := Nat × World) (fun y => [(9, .val (.int .i64 y.1))]) (fun y => y.2) (fun y => y.1 ≤ N ∧ Below n₀ W y.2 ∧ W.heap.size ≤ y.2.heap.size ∧ y.2.heap[Bs]? = some (.cells #[.int .i64 long] 3 (0, 0)) ∧ J ((sis N).take y.1) y.2) (fun y => N - y.1) ?_ ?_
  · intro w1 h1
    have hg := at_below h1 (by simp)
    exact ⟨(0, w1), Cov.mk (by repeat' (first | exact trivial | refine And.intro rfl ?_)) rfl rfl rfl rfl rfl, rfl, Nat.zero_le _, h1.below, h1.size, (hg.block Bs (Nat.lt_of_lt_of_le hBl hsz)).trans hcW, hJ _ _ _ h0 (at_grown h1 (by simp) _)⟩
  rintro ⟨k, V⟩ ⟨hk, hV, hVs, hcV, hj⟩
  simp only at hk hV hVs hcV hj
  refine Branch.mk (fun hc1 => ?_) (fun hc1 => ?_)
  · have hlt : k < N := by have := of_decide_eq_true hc1; simp only at this; omega
    have hsix := Rg.six_at (n := k) (by omega)
    apply CallI.use1
    focus (exact fun w1 h1 => rof_any k 6 (by simp only [inK]; omega) (by simp only [inK]; omega) w1)
    intro w1 v1 h1 hB1
    rw [show Fr.of ((k, V).1 : Int) 6 = (Rg.six k, 0) from hsix.1]
    have hj1 := hJ _ _ _ (hJ _ _ _ hj (at_grown h1 (by simp) (some Bs))) (below_grown hB1 (some Bs))
    have hB01 : Below V.heap.size V v1 := (at_below h1 (by simp)).trans (hB1.mono h1.size)
    have hc1 := (hB01.block Bs (by omega)).trans hcV
    have hw1 : Below n₀ W v1 := hV.trans (hB01.mono (by omega))
    refine NewI.mk fun b4 hb4 => ?_
    have hb4' : v1.heap.size ≤ b4 := hb4
    refine ⟨fun w5 h5 => ?_⟩
    have hg5 := at_grown h5 (fun b hb => by simp at hb; subst hb; exact hb4') (some Bs)
    have hB5 := at_below h5 (fun b hb => by simp at hb; subst hb; exact hb4')
    have hj5 := hJ _ _ _ hj1 hg5
    have hs1 := hB01.size
    have hc5 := (hB5.block Bs (by omega)).trans hc1
    have hw5 : Below n₀ W w5 := hw1.trans (hB5.mono (by omega))
    have hs5 := hB5.size
    refine (hY ((sis N).take k) ⟨k, List.mem_range.2 hlt⟩ w5 hj5 (by rw [List.length_take, sis_len]; omega)).mono ?_
    rintro e v5 (⟨rfl, hj6, hk5⟩ | ⟨rfl, hx5, hk5⟩)
    · refine ⟨_, rfl, hw5.trans hk5.1, ?_⟩
      refine Branch.no rfl ?_
      have hs6 := hk5.1.size
      refine Need.mk (by simp only [inK]; omega) (EndI.mk fun w6 h6 => ⟨(k + 1, w6), Cov.mk (by repeat' (first | exact trivial | refine And.intro rfl ?_)) rfl rfl rfl rfl rfl, rfl, ?_, by simp only; omega⟩)
      have hB6 := at_below h6 (by simp)
      have hc6 := hk5.2.trans hc5
      refine ⟨hlt, (hw5.trans hk5.1).trans (hB6.mono (by omega)), Nat.le_trans (by omega : W.heap.size ≤ v5.heap.size) hB6.size, (hB6.block Bs (Array.getElem?_eq_some_iff.1 hc6).1).trans hc6, ?_⟩
      simp only [sis_step hlt]
      exact hJ _ _ _ hj6 (at_grown h6 (by simp) _)
    · refine ⟨_, rfl, hw5.trans hk5, ?_⟩
      refine Branch.yes rfl ?_
      exact EndI.mk fun w6 h6 => .inr ⟨(sis N).take (k + 1), List.take_prefix _ _, by rw [sis_step hlt]; exact hJx _ _ _ hx5 (at_grown h6 (by simp) _)⟩
  · have hge : k = N := by have := of_decide_eq_false hc1; simp only at this; omega
    subst hge
    exact EndI.mk fun w6 h6 => .inl ⟨_, rfl, by have := hJ _ _ _ hj (at_grown h6 (by simp) (some Bs)); rwa [List.take_of_length_le (by rw [sis_len]; exact Nat.le_refl _)] at this⟩
end Go.Proofs.YtjbhpfmnfdebkaaGreat

/-
  Loops that hold ranges over functions: each round leaves a mark.
-/
namespace Go.Proofs.YtjbhpfmnfdebkaaGreat.Eng
set_option linter.unusedVariables false
set_option linter.unusedSimpArgs false
open Go Go.RowKit Go.Shelf Go.Proofs
theorem LoopI.invM {w0 : Base} {body : (Exit → St → Prop) → St → Prop} {cb : Code} {K : Exit → St → Prop} {fr : Fr} {hp : List LB} {r L : List Nat} {w : World} {df : List Deferred}
    {α : Type} (vals : α → List (Nat × SV)) (wd : α → World) (Dsf : α → List Nat) (Φ : α → Prop) (μ : α → Nat)
    (h0 : ∀ w1, At w0 hp r L w w1 → ∃ x, headK cb (vals x) fr (fun fr' => Cov fr' hp r (marks (Dsf x)) ⟨fr, hp, r, L, w, df⟩) ∧ wd x = w1 ∧ Φ x)
    (h1 : ∀ x, Φ x → headK cb (vals x) fr fun fr' => body
        (fun e s2 => match e with
          | .normal => s2.on fun fr2 hp2 r2 L2 w2 df2 => EndI w0 hp2 r2 L2 w2 undef fun _ w1 => ∃ y, headK cb (vals y) fr (fun fr' => Cov fr' hp r (marks (Dsf y)) ⟨fr2, hp2, r2, L2, w2, df2⟩) ∧ wd y = w1 ∧ Φ y ∧ μ y < μ x
          | e => K e s2) ⟨fr', hp, r, [], wd x, marks (Dsf x)⟩) : LoopI w0 body cb K ⟨fr, hp, r, L, w, df⟩ := ⟨0, α, vals, fun _ => hp, wd, fun x => marks (Dsf x), Φ, μ, h0, h1⟩
end Go.Proofs.YtjbhpfmnfdebkaaGreat.Eng

/-
  region.Comp, by the engine.
-/
namespace Go.Proofs.YtjbhpfmnfdebkaaGreat
set_option linter.unusedVariables false
set_option linter.unusedSimpArgs false
set_option maxRecDepth 100000
open Go.RowKit Go.Shelf Go.Proofs.YtjbhpfmnfdebkaaGreat.Eng Enc

namespace Rg
/-- is the n-th sixth one between? -/
def hitS (a b : List Int) (long x : Int) (n : Nat) : Bool := decide (number ⟨(pt x long).t, six n⟩ long ∈ a) && decide (number ⟨six n, (pt x long).u⟩ long ∈ b)
/-- what stays through a round's sixths. -/
structure CSit (w : World) (B1 B2 B : Nat) (na nb nc : Nat) (a b : List Int) (g : Int → Bool) (Ds : List Nat) (W : World) : Prop where
  below : Below w.heap.size w W
  m1 : MSet W B1 na fun x => decide (x ∈ a)
  m2 : MSet W B2 nb fun x => decide (x ∈ b)
  m : MSet W B nc g
  ds : ∀ D, D ∈ Ds → w.heap.size ≤ D ∧ D < W.heap.size ∧ W.heap[D]? = some (.deferred (some []))
theorem CSit.go {w W X : World} {B1 B2 B na nb nc : Nat} {a b : List Int} {g : Int → Bool} {Ds : List Nat} (h : CSit w B1 B2 B na nb nc a b g Ds W) (hB : Below W.heap.size W X) : CSit w B1 B2 B na nb nc a b g Ds X :=
  ⟨h.below.trans (hB.mono h.below.size), h.m1.below hB, h.m2.below hB, h.m.below hB, fun D hD => by
    obtain ⟨e1, e2, e3⟩ := h.ds D hD
    exact ⟨e1, Nat.lt_of_lt_of_le e2 hB.size, (hB.block D e2).trans e3⟩⟩
theorem CSit.turn {w W X : World} {B1 B2 B na nb nc : Nat} {a b : List Int} {g : Int → Bool} {Ds : List Nat} (h : CSit w B1 B2 B na nb nc a b g Ds W) {row : Option Nat} (hg : W.grownBy X row) {Bs : Nat} (hr : ∀ r, row = some r → Bs ≤ r) (h1 : B1 < Bs) (h2 : B2 < Bs) (h3 : B < Bs) (h4 : ∀ D, D ∈ Ds → D < Bs) (hw : w.heap.size ≤ Bs) : CSit w B1 B2 B na nb nc a b g Ds X := by
  have same : ∀ q, q < Bs → q < W.heap.size → X.heap[q]? = W.heap[q]? := fun q hq hl => hg.block q hl fun e => by have := hr q e.symm; omega
  refine ⟨⟨hg.os.trans h.below.os, hg.tape.trans h.below.tape, hg.output.trans h.below.output, Nat.le_trans h.below.size hg.size, fun k hk => (same k (by omega) (Nat.lt_of_lt_of_le hk h.below.size)).trans (h.below.block k hk)⟩, h.m1.kept (same _ h1 h.m1.lt), h.m2.kept (same _ h2 h.m2.lt), h.m.kept (same _ h3 h.m.lt), fun D hD => ?_⟩
  obtain ⟨e1, e2, e3⟩ := h.ds D hD
  exact ⟨e1, Nat.lt_of_lt_of_le e2 hg.size, (same D (h4 D hD) e2).trans e3⟩
theorem CSit.at {w0 : Base} {hp : List LB} {r L : List Nat} {w W X : World} {B1 B2 B na nb nc : Nat} {a b : List Int} {g : Int → Bool} {Ds : List Nat} (h : CSit w B1 B2 B na nb nc a b g Ds W) (h1 : At w0 hp r L W X) (hL : ∀ b, b ∈ L → W.heap.size ≤ b) : CSit w B1 B2 B na nb nc a b g Ds X := h.go (at_below h1 hL)
end Rg
theorem number_inK {p : Pt} {long : Int} (hl : 1 ≤ long ∧ long ≤ 16) : inK .i64 (Rg.number p long) := by
  unfold Rg.number
  split
  · simp [inK]
  · rename_i h
    have hcmp : (Fr.cmp p.t p.u).1 < 0 := by omega
    have hpb := Rg.place_bd hcmp
    have hs : 3 ≤ Rg.sides long ∧ Rg.sides long ≤ 33 := by unfold Rg.sides; omega
    have hm := Fr.mul_bd (u := Rg.place p.t) (v := Rg.sides long) (m := 33) (n := 33) (by omega) (by omega) (by omega) (by omega)
    have ho := Rg.order_three p
    simp only [inK]
    omega
theorem MSet.mono {W : World} {b n m : Nat} {f : Int → Bool} (h : MSet W b n f) (hm : n ≤ m) : MSet W b m f := by
  obtain ⟨D, h1, h2⟩ := h; exact ⟨D, h1.mono hm, h2⟩
theorem Own.unm {α : Type} [Enc α] {e : TypeId} {base : Nat} {W X : World} {v : Value} {l : List α} {Ds : List Nat} (h : Own e base W v l) (hu : unmarks W Ds X) (hD : ∀ D, D ∈ Ds → W.heap[D]? = some (.deferred (some []))) : Own e base X v l := by
  obtain ⟨hl, h0 | ⟨g, cap, cur, e1, e2, e3, e4⟩⟩ := id h
  · exact ⟨hl, .inl h0⟩
  · exact ⟨hl, .inr ⟨g, cap, cur, e1, e2, (hu.2.2.2.2 g (fun hm => by have := hD g hm; rw [e3] at this; cases this)).trans e3, e4⟩⟩
theorem regComp_any (a b : List Int) (ha : a.length ≤ 1000000) (hb : b.length ≤ 1000000) (hia : ∀ x, x ∈ a → inK .i64 x) (hib : ∀ x, x ∈ b → inK .i64 x) (long : Int) (pa pb : Option Addr) (ca cb : Nat) (w : World) (hSA : Sl w.heap.size w (.slice pa a.length ca) a) (hSB : Sl w.heap.size w (.slice pb b.length cb) b) :
    Calls Tryz.prog 29 #[.slice pa a.length ca, .slice pb b.length cb, .int .i64 long] w (Ret w fun v w' => ∃ a' c', v = .tuple #[.slice a' (Rg.comp a b long).1.length c', .int .i64 (Rg.comp a b long).2] ∧ Own TKi w.heap.size w' (.slice a' (Rg.comp a b long).1.length c') (Rg.comp a b long).1) := by
  refine fun_ret 9 w Tryz.func29 (args := [.val (.slice pa a.length ca), .val (.slice pb b.length cb), .val (.int .i64 long)]) rfl rfl ?_
  refine NewI.mk fun b5 hb5 => ?_
  apply CallI.use1
  focus (exact fun w1 h1 => many_any long w1)
  intro w1 v1 h1 hB1
  unfold Rg.comp
  refine Branch.mk (fun hc => ?_) (fun hc => ?_)
  · have hf : Rg.fits long = false := by
      cases hf : Rg.fits long with
      | false => rfl
      | true => rw [Rg.many_doc (Rg.fits_iff.1 hf)] at hc; simp at hc
    rw [if_pos hf]
    have : (Rg.many long).2 = 2 := by unfold Rg.many; rw [hf]; rfl
    rw [this]
    exact EndI.mk fun w9 h9 => ⟨_, _, rfl, Own.nil⟩
  have hf : Rg.fits long = true := by
    cases hf : Rg.fits long with
    | true => rfl
    | false => unfold Rg.many at hc; rw [hf] at hc; simp at hc
  have hl := Rg.fits_iff.1 hf
  rw [if_neg (by rw [hf]; decide)]
  have hmany := Rg.many_doc hl
  have hmm := Fr.mul_bd (u := 3 * (2 * long + 1)) (v := 2 * long + 1) (m := 99) (n := 33) (by omega) (by omega) (by omega) (by omega)
  obtain ⟨M, hM⟩ : ∃ M : Nat, (Rg.many long).1 = M := ⟨(Rg.many long).1.toNat, by rw [hmany]; simp only; omega⟩
  have hM4 : M ≤ 3267 := by rw [hmany] at hM; simp only at hM; omega
  rw [hM]
  have hw1 : Below w.heap.size w v1 := h1.below.trans (hB1.mono h1.below.size)
  apply CallI.use
  focus (exact fun w3 h3 => marked_any a ha hia long pa ca w3 (hSA.go h3.below h3.below.size))
  rintro v w3 v3 h3 hB3 hmk
  have hw3 : Below w.heap.size w v3 := h3.below.trans (hB3.mono h3.below.size)
  by_cases hma : Rg.mayL a long = true
  case neg =>
    rw [if_neg hma] at hmk
    subst hmk
    rw [if_neg (fun h => hma h.1)]
    refine NewI.mk fun b10 hb10 => ?_
    apply CallI.use
    focus (exact fun w4 h4 => marked_any b hb hib long pb cb w4 (hSB.go h4.below h4.below.size))
    rintro v w4 v4 h4 hB4 hmk2
    by_cases hmb : Rg.mayL b long = true
    · rw [if_pos hmb] at hmk2
      obtain ⟨bm, rfl, _⟩ := hmk2
      refine NewI.mk fun b12 hb12 => ?_
      refine Branch.yes rfl ?_
      exact EndI.mk fun w9 h9 => ⟨_, _, rfl, Own.nil⟩
    · rw [if_neg hmb] at hmk2
      subst hmk2
      refine NewI.mk fun b12 hb12 => ?_
      refine Branch.yes rfl ?_
      exact EndI.mk fun w9 h9 => ⟨_, _, rfl, Own.nil⟩
  rw [if_pos hma] at hmk
  obtain ⟨B1, rfl, hB1w, hMA⟩ := hmk
  refine NewI.mk fun b10 hb10 => ?_
  have hb10' : v3.heap.size ≤ b10 := hb10
  apply CallI.use
  focus (exact fun w4 h4 => marked_any b hb hib long pb cb w4 (hSB.go h4.below h4.below.size))
  rintro v w4 v4 h4 hB4 hmk2
  by_cases hmb : Rg.mayL b long = true
  case neg =>
    rw [if_neg hmb] at hmk2
    subst hmk2
    rw [if_neg (fun h => hmb h.2)]
    refine NewI.mk fun b12 hb12 => ?_
    refine Branch.no rfl ?_
    refine Branch.yes rfl ?_
    exact EndI.mk fun w9 h9 => ⟨_, _, rfl, Own.nil⟩
  rw [if_pos hmb] at hmk2
  obtain ⟨B2, rfl, hB2w, hMB⟩ := hmk2
  rw [if_pos ⟨hma, hmb⟩]
  refine NewI.mk fun b12 hb12 => ?_
  have hb12' : v4.heap.size ≤ b12 := hb12
  refine Branch.no rfl ?_
  refine Branch.no rfl ?_
  have hMA4 := (hMA.at h4 (fun hm => by have := hMA.lt; have := h3.lt b5 (by simp); simp at hm; omega)).below hB4
  have hw4 : Below w.heap.size w v4 := h4.below.trans (hB4.mono h4.below.size)
  have hs3 := hw3.size
  have hs4 : v3.heap.size ≤ v4.heap.size := Nat.le_trans h4.size hB4.size
  have hmk := hMA4.lt
  have hmk2 := hMB.lt
  refine ⟨fun w5 h5 => ⟨_, _, run_makeMap _ w5, KpOk.ok h5 ((Below.refl _ _).alloc (Nat.le_refl _) _), ?_⟩⟩
  have hms := MSet.made w5
  have hlt12 : b12 < w5.heap.size := h5.lt b12 (by simp)
  have hMA5 := (hMA4.at h5 (fun hm => by simp at hm; omega)).below ((Below.refl _ _).alloc (Nat.le_refl _) (.map #[] 0))
  have hMB5 := (hMB.at h5 (fun hm => by simp at hm; omega)).below ((Below.refl _ _).alloc (Nat.le_refl _) (.map #[] 0))
  have hb6 : Below w.heap.size w (w5.alloc (.map #[] 0)) := h5.below.alloc h5.below.size _
  have hwb : w.heap.size ≤ w5.heap.size := h5.below.size
  have hlt6 : (w5.alloc (.map #[] 0)).heap.size = w5.heap.size + 1 := by simp
  have hs5 : v4.heap.size ≤ w5.heap.size := h5.size
  generalize w5.alloc (.map #[] 0) = w6 at hms hb6 hMA5 hMB5 hlt6 ⊢
  have hB1B : B1 ≠ w5.heap.size := by omega
  have hB2B : B2 ≠ w5.heap.size := by omega
  have hB1B2 : B1 < v3.heap.size ∧ v3.heap.size ≤ B2 + 0 := ⟨hMA.lt, by have := h4.size; omega⟩
  generalize hBdef : w5.heap.size = B at hms hwb hB1B hB2B hlt12 hlt6 hs5 ⊢
  refine NewI.mk fun b14 hb14 => ?_
  have hb14' : w6.heap.size ≤ b14 := hb14
  have hlb5 : b5 < w6.heap.size := by have := h5.lt b5 (by simp); omega
  have hlb10 : b10 < w6.heap.size := by have := h5.lt b10 (by simp); omega
  have hr4 : B ∉ [b5, b10, b12, b14] := fun hm => by
    have := h5.lt b5 (by simp); have := h5.lt b10 (by simp)
    simp at hm; omega
  refine LoopI.invM (α := Nat × World × List Nat) (fun y => [(47, .val (.int .i64 y.1))]) (fun y => y.2.1) (fun y => y.2.2)
    (fun y => y.1 ≤ M ∧ w6.heap.size ≤ y.2.1.heap.size ∧ b14 < y.2.1.heap.size ∧ y.2.2.Nodup ∧ ∃ g, Rg.CSit w B1 B2 B a.length b.length y.1 a b g y.2.2 y.2.1 ∧ ∀ x, g x = (Rg.btw a b long x && decide (x < (y.1 : Int)))) (fun y => M - y.1) ?_ ?_
  · intro w7 h7
    have hnr : ∀ q, q < w6.heap.size → q ≠ b5 → q ≠ b10 → q ≠ b12 → q ∉ [b14, b12, b10, b5] := fun q h1 h2 h3 h4 hm => by simp at hm; omega
    refine ⟨(0, w7, []), Cov.mk (by repeat' (first | exact trivial | refine And.intro rfl ?_)) rfl rfl rfl rfl rfl, rfl, Nat.zero_le _, h7.size, h7.lt b14 (by simp), List.nodup_nil, fun _ => false, ⟨h7.below, ?_, ?_, ?_, fun D hD => by cases hD⟩, fun x => ?_⟩
    · exact hMA5.at h7 (by have := h3.lt b5 (by simp); have := hMA.lt; have := h4.size; have := h4.lt b10 (by simp); simp; omega)
    · exact hMB5.at h7 (by have := h4.lt b5 (by simp); have := h4.lt b10 (by simp); simp; omega)
    · simpa using hms.at h7 (by simp at hr4 ⊢; omega)
    · simp only
      by_cases h : x < 0
      · have : Rg.isR long x = false := by unfold Rg.isR; rw [decide_eq_false (by omega : ¬ 0 ≤ x)]; rfl
        unfold Rg.btw; rw [this]; simp
      · rw [decide_eq_false (by simpa using h)]; simp
  rintro ⟨k, V, Ds⟩ ⟨hk, hV6, hb14V, hnd, g, cs, hg⟩
  simp only at hk hV6 hb14V hnd cs hg
  have hsup : k < M → 0 ≤ (k : Int) ∧ (k : Int) < (Rg.many long).1 := fun hn => by omega
  refine Branch.mk (fun z3 => ?_) (fun z3 => ?_)
  · have hkM : k < M := by have := of_decide_eq_true z3; simp only at this; omega
    obtain ⟨hk0, hk1⟩ := hsup hkM
    have hki : inK .i64 (k : Int) := by simp only [inK]; omega
    obtain ⟨hpins, hpt, hpu⟩ := Rg.pt_fine hl (n := k) ⟨hk0, by rw [hmany] at hk1; exact hk1⟩
    have hR_ : Rg.isR long k = (Rg.point k long).2 := by
      unfold Rg.isR
      rw [decide_eq_true hk0, decide_eq_true hk1]; simp
    -- what comes of it, by number k's own word
    have hstep : ∀ g' : Int → Bool, (∀ x, x ≠ (k : Int) → g' x = g x) → g' k = (g k || Rg.btw a b long k) → ∀ x, g' x = (Rg.btw a b long x && decide (x < ((k + 1 : Nat) : Int))) := fun g' e1 e2 x => by
      by_cases e : x = (k : Int)
      · subst e
        rw [e2, hg, decide_eq_false (by omega : ¬ (k : Int) < (k : Int)), decide_eq_true (by omega : (k : Int) < ((k + 1 : Nat) : Int))]
        simp
      · rw [e1 x e, hg]
        congr 1
        rw [decide_eq_decide]; omega
    refine NewI.mk fun b15 hb15 => ?_
    have hb15' : V.heap.size ≤ b15 := hb15
    apply CallI.use1
    focus (exact fun w7 h7 => point_any k long hl ⟨hk0, hk1⟩ w7)
    intro w7 v7 h7 hB7
    have cs7 := (cs.at h7 (by simp <;> omega)).go hB7
    refine NewI.mk fun b16 hb16 => ?_
    have hb16' : v7.heap.size ≤ b16 := hb16
    have hs7 : V.heap.size ≤ v7.heap.size := Nat.le_trans h7.size hB7.size
    refine Branch.mk (fun z4 => ?_) (fun z4 => ?_)
    · have hno : (Rg.point k long).2 = false := by simpa using z4
      have hbt : Rg.btw a b long k = false := by unfold Rg.btw; rw [hR_, hno]; rfl
      refine Need.mk (by simp only [inK]; omega) (EndI.mk fun w8 h8 => ⟨(k + 1, w8, Ds), Cov.mk (by repeat' (first | exact trivial | refine And.intro rfl ?_)) rfl rfl rfl rfl rfl, rfl, ⟨hkM, ?_, ?_, hnd, g, ?_, hstep g (fun _ _ => rfl) (by rw [hbt, Bool.or_false])⟩, by simp only; omega⟩)
      · exact Nat.le_trans hV6 (Nat.le_trans hs7 h8.size)
      · exact Nat.lt_of_lt_of_le hb14V (Nat.le_trans hs7 h8.size)
      · have := cs7.at h8 (by simp <;> omega)
        exact ⟨this.below, this.m1, this.m2, this.m.mono (by omega), this.ds⟩
    have hyes : (Rg.point k long).2 = true := by simpa using z4
    apply CallI.mk
    intro w8 h8
    refine (sixths_any long w8).mono ?_
    rintro e w9 ⟨rfl, rfl⟩
    have hB1s : Below w8.heap.size w8 (w8.alloc (.cells #[.int .i64 long] 3)) := below_al (Below.refl _ _)
    refine ⟨h8.keep hB1s, _, rfl, ?_⟩
    have hBs : (w8.alloc (.cells #[.int .i64 long] 3)).heap[w8.heap.size]? = some (.cells #[.int .i64 long] 3 (0, 0)) := World.alloc_heap_new w8 _
    have hsz : w8.heap.size < (w8.alloc (.cells #[.int .i64 long] 3)).heap.size := by simp
    have cs9 := (cs7.at h8 (by simp <;> omega)).go hB1s
    have hlb : ∀ b, b ∈ [b5, b10, b12, b14, b15, b16] → b < w8.heap.size := fun b hb => h8.lt b hb
    have hwBs : w.heap.size ≤ w8.heap.size := h8.below.size
    have hs89 : w8.heap.size ≤ (w8.alloc (.cells #[.int .i64 long] 3)).heap.size := hB1s.size
    have hV8 : V.heap.size ≤ w8.heap.size := Nat.le_trans hs7 h8.size
    generalize w8.alloc (.cells #[.int .i64 long] 3) = w9 at hBs hsz hB1s cs9 hs89
    generalize w8.heap.size = Bs at hBs hsz hlb hwBs hs89 hV8
    refine RawI.mk fun ac w10 hR => ?_
    have h10 := hR.at_
    have hB10 := at_below h10 (by simp)
    have cs10 := cs9.go hB10
    have hBs10 : w10.heap[Bs]? = some (.cells #[.int .i64 long] 3 (0, 0)) := (hB10.block Bs hsz).trans hBs
    have hlBs10 : Bs < w10.heap.size := Nat.lt_of_lt_of_le hsz hB10.size
    obtain ⟨N, hN⟩ : ∃ N : Nat, (N : Int) = 6 * long + 1 := ⟨(6 * long + 1).toNat, by omega⟩
    have l1 := cs.m1.lt
    have l2 := cs.m2.lt
    have l3 := cs.m.lt
    have hN97 : N ≤ 97 := by omega
    have hbtw : Rg.btw a b long k = (Rg.sis N).any fun x => Rg.hitS a b long k x.1 := by
      rw [Rg.sis_any N (Rg.hitS a b long k)]
      unfold Rg.btw
      rw [hR_, hyes, Bool.true_and, show (6 * long + 1).toNat = N by omega]
      rfl
    have lD : ∀ D, D ∈ Ds → D < Bs := fun D hD => by have := (cs.ds D hD).2.1; omega
    have hseq := sixths_stops 8 Bs w.heap.size long hl N hN w10 hwBs hBs10
    refine rangeBu (α := Rg.SI N) (encs := fun x : Rg.SI N => Rg.encSx x.1) cxOk (by decide) hR rfl Tryz.call152 hseq hlBs10 (by show w.heap.size ≤ Bs; exact hwBs) (fun hm => by have := hlb Bs hm; omega)
      (fun h k => ⟨h.1.trans k.1, k.2.trans h.2⟩) ?_ (fun x => rfl)
      (γ := Unit) (fun _ => [⟨[.val (.int .i64 long)], 3⟩, ⟨[.val (.map (some B1))], TMi⟩, ⟨[.val (.map (some B2))], TMi⟩, ⟨[.val (.map (some B))], TMi⟩, ⟨[.val (.int .i64 k)], 3⟩, ⟨[.val (.int .i64 (Rg.pt k long).t.num), .val (.int .i64 (Rg.pt k long).t.den), .val (.int .i64 (Rg.pt k long).u.num), .val (.int .i64 (Rg.pt k long).u.den)], 38⟩])
      (fun (pre : List (Rg.SI N)) (_ : Unit) W => Rg.CSit w B1 B2 B a.length b.length k a b g Ds W ∧ (pre.any fun x => Rg.hitS a b long k x.1) = false) ?_ () rfl ⟨cs10, rfl⟩
      (fun (c : Code) (pre : List (Rg.SI N)) (_ : Unit) (W : World) => c = .exit 2 ∧ (pre.any fun x => Rg.hitS a b long k x.1) = true ∧ ∃ g', Rg.CSit w B1 B2 B a.length b.length (k + 1) a b g' Ds W ∧ ∀ x, g' x = (g x || decide (x = (k : Int))))
      (fun _ _ => [⟨[.val (.int .i64 long)], 3⟩, ⟨[.val (.map (some B1))], TMi⟩, ⟨[.val (.map (some B2))], TMi⟩, ⟨[.val (.map (some B))], TMi⟩, ⟨[.val (.int .i64 k)], 3⟩, ⟨[.val (.int .i64 (Rg.pt k long).t.num), .val (.int .i64 (Rg.pt k long).t.den), .val (.int .i64 (Rg.pt k long).u.num), .val (.int .i64 (Rg.pt k long).u.den)], 38⟩])
      ?_ (fun z => [(18, .loc 6 0)]) (fun z => [⟨[.val (.int .i64 (Rg.six z.1).num), .val (.int .i64 (Rg.six z.1).den)], 36⟩]) (fun _ bs => ∀ q, q ∈ bs → w10.heap.size ≤ q) ?asg ?body ?done ?stop
    · exact fun W l o o' hl ho h1 h2 => ⟨⟨rfl, rfl, rfl, by simp, fun k hk => World.putObj_heap_other (by omega)⟩, World.putObj_heap_other (by omega)⟩
    · rintro c pre A C row ⟨hcs, hno⟩ hgr hrow
      exact ⟨hcs.turn hgr (Bs := Bs) (fun r e => by rcases hrow r e with h | ⟨h, _⟩ <;> omega) (by omega) (by omega) (by omega) lD hwBs, hno⟩
    · rintro c q pre A C row ⟨e1, e2, g', hcs, hg'⟩ hgr hrow
      exact ⟨e1, e2, g', hcs.turn hgr (Bs := Bs) (fun r e => by have := (hrow r e).1; omega) (by omega) (by omega) (by omega) lD hwBs, hg'⟩
    case asg =>
      intro l pre z c W hΦ hBW hsW hN1
      refine NewI.mk fun b18 hb18 => ?_
      refine ⟨rfl, [b18], rfl, fun q hq => by rw [List.mem_singleton.1 hq]; exact Nat.le_trans hsW hb18, Need.mk ⟨rfl, rfl, rfl, rfl⟩ (EndI.mk fun w11 h11 => ?_)⟩
      have hgb := at_below h11 (fun b hb => by simp at hb; subst hb; exact hb18)
      exact ⟨below_keepsFrom hgb _, ⟨hgb.mono (Nat.le_trans hwBs (by omega)), hgb.block _ (by omega)⟩, hΦ.1.go hgb, hΦ.2⟩
    case body =>
      intro l pre x c bs W hbs hψ hΦ hBW hsW hN1
      obtain ⟨b18, rfl⟩ := List.length_eq_one_iff.1 hbs
      obtain ⟨hcs, hno⟩ := hΦ
      have hx97 : x.1 < 97 := by have := List.mem_range.1 x.2; omega
      have hsix := Rg.six_ins hx97
      refine DrawI.go (.tk 0 (.tk 1 (.tk 2 (.tk 3 (.tk 4 (.tk 5 (.ev 6 (.ev 7 (.tk 8 (.tk 9 (.tk 10 (.tk 11 (.tk 12 (.tk 13 (.tk 14 (.tk 15 (.ev 16 (.ev 17 (.tk 18 (.tk 19 .done)))))))))))))))))))) (by kernel_rfl) fun w11 h11 => ?_
      have hB11 := at_below h11 (by simp)
      have cs11 := hcs.go hB11
      have hF := hB11
      apply CallI.use1
      focus (exact fun w12 h12 => number_any ⟨(Rg.pt k long).t, Rg.six x.1⟩ long ⟨hpins.1, hsix⟩ hl w12)
      intro w12 v12 h12 hB12
      have hF := h12.from hBW hF (by simp)
      have hF := hF.trans (hB12.mono hF.size)
      have no : (decide (Rg.number ⟨(Rg.pt k long).t, Rg.six x.1⟩ long ∈ a) && decide (Rg.number ⟨Rg.six x.1, (Rg.pt k long).u⟩ long ∈ b)) = false → ((pre ++ [x]).any fun x => Rg.hitS a b long k x.1) = false := fun h => by
        rw [List.any_append, hno, Bool.false_or]
        simpa [Rg.hitS] using h
      have fin : ∀ X, Below W.heap.size W X → KeepsFrom w10.heap.size W X ∧ Rg.KpS w.heap.size Bs W X ∧ Rg.CSit w B1 B2 B a.length b.length k a b g Ds X := fun X hX => ⟨below_keepsFrom hX _, ⟨hX.mono (Nat.le_trans hwBs (by omega)), hX.block _ (by omega)⟩, hcs.go hX⟩
      by_cases k1 : Rg.number ⟨(Rg.pt k long).t, Rg.six x.1⟩ long ∈ a
      case neg =>
        refine ⟨fun w13 h13 => ⟨.int .i64 0, w13, by have := ((hcs.go (h13.from hBW hF (by simp))).m1.look _ (number_inK (p := ⟨(Rg.pt k long).t, Rg.six x.1⟩) hl)); rw [decide_eq_false k1] at this; exact this, KpOk.ok h13 (Below.refl _ _), ?_⟩⟩
        have hF := h13.from hBW hF (by simp)
        refine Branch.no rfl ?_
        refine ⟨(), Need.mk (CovH.mk rfl rfl rfl) (EndI.mk fun w14 h14 => ?_)⟩
        have hF := h14.from hBW hF (by simp)
        obtain ⟨f1, f2, f3⟩ := fin _ hF
        exact ⟨f1, f2, f3, no (by rw [decide_eq_false k1]; rfl)⟩
      refine ⟨fun w13 h13 => ⟨.int .i64 1, w13, by have := ((hcs.go (h13.from hBW hF (by simp))).m1.look _ (number_inK (p := ⟨(Rg.pt k long).t, Rg.six x.1⟩) hl)); rw [decide_eq_true k1] at this; exact this, KpOk.ok h13 (Below.refl _ _), ?_⟩⟩
      have hF := h13.from hBW hF (by simp)
      refine Branch.yes rfl ?_
      apply CallI.use1
      focus (exact fun w14 h14 => number_any ⟨Rg.six x.1, (Rg.pt k long).u⟩ long ⟨hsix, hpins.2⟩ hl w14)
      intro w14 v14 h14 hB14
      have hF := h14.from hBW hF (by simp)
      have hF := hF.trans (hB14.mono hF.size)
      by_cases k2 : Rg.number ⟨Rg.six x.1, (Rg.pt k long).u⟩ long ∈ b
      case neg =>
        refine ⟨fun w15 h15 => ⟨.int .i64 0, w15, by have := ((hcs.go (h15.from hBW hF (by simp))).m2.look _ (number_inK (p := ⟨Rg.six x.1, (Rg.pt k long).u⟩) hl)); rw [decide_eq_false k2] at this; exact this, KpOk.ok h15 (Below.refl _ _), ?_⟩⟩
        have hF := h15.from hBW hF (by simp)
        refine Branch.no rfl ?_
        refine ⟨(), Need.mk (CovH.mk rfl rfl rfl) (EndI.mk fun w16 h16 => ?_)⟩
        have hF := h16.from hBW hF (by simp)
        obtain ⟨f1, f2, f3⟩ := fin _ hF
        exact ⟨f1, f2, f3, no (by rw [decide_eq_false k2, Bool.and_false])⟩
      refine ⟨fun w15 h15 => ⟨.int .i64 1, w15, by have := ((hcs.go (h15.from hBW hF (by simp))).m2.look _ (number_inK (p := ⟨Rg.six x.1, (Rg.pt k long).u⟩) hl)); rw [decide_eq_true k2] at this; exact this, KpOk.ok h15 (Below.refl _ _), ?_⟩⟩
      have hF := h15.from hBW hF (by simp)
      refine Branch.yes rfl ?_
      refine ⟨fun w16 h16 => ?_⟩
      have hF := h16.from hBW hF (by simp)
      have cs16 := hcs.go hF
      obtain ⟨w17, hrun, hput, hgr⟩ := cs16.m.put k hki (by omega)
      have hBr : B ∉ [b5, b10, b12, b14, b15, b16, b18] := fun hm => by
        have h18 := hψ b18 (by simp)
        simp only [List.mem_cons, List.not_mem_nil, or_false, not_or] at hm hr4
        omega
      refine ⟨w17, hrun, keep_grown h16 hgr (fun q hq => by injection hq with hq; subst hq; exact ⟨hwb, hBr⟩), ?_⟩
      refine ⟨(), Need.mk (CovH.mk rfl rfl rfl) (EndI.mk fun w18 h18 => ?_)⟩
      have hB18 := at_below h18 (by simp)
      have hB17 : ∀ q, q < W.heap.size → q ≠ B → w18.heap[q]? = W.heap[q]? := fun q hq hne => (hB18.block q (Nat.lt_of_lt_of_le hq (Nat.le_trans hF.size hgr.size))).trans ((hgr.block q (Nat.lt_of_lt_of_le hq hF.size) (fun e => hne (by injection e))).trans (hF.block q hq))
      have hs18 : W.heap.size ≤ w18.heap.size := Nat.le_trans hF.size (Nat.le_trans hgr.size hB18.size)
      refine ⟨⟨hs18, fun q o hq ho _ => (hB17 q (Array.getElem?_eq_some_iff.1 ho).1 (by omega)).trans ho⟩, rfl, ?_, fun y => g y || decide (y = (k : Int)), ⟨?_, ?_, ?_, ?_, ?_⟩, fun _ => rfl⟩
      · rw [List.any_append]
        simp [Rg.hitS, k1, k2]
      · have hz := cs16.below
        exact ⟨hB18.os.trans (hgr.os.trans hz.os), hB18.tape.trans (hgr.tape.trans hz.tape), hB18.output.trans (hgr.output.trans hz.output), Nat.le_trans hcs.below.size hs18, fun q hq => (hB17 q (Nat.lt_of_lt_of_le hq hcs.below.size) (by omega)).trans (hcs.below.block q hq)⟩
      · exact hcs.m1.kept (hB17 _ hcs.m1.lt hB1B)
      · exact hcs.m2.kept (hB17 _ hcs.m2.lt hB2B)
      · exact hput.below hB18
      · intro D hD
        obtain ⟨e1, e2, e3⟩ := hcs.ds D hD
        have hne : D ≠ B := fun e => by
          subst e
          obtain ⟨_, ⟨_, _, hm, _⟩, _⟩ := hcs.m
          rw [hm] at e3; cases e3
        exact ⟨e1, Nat.lt_of_lt_of_le e2 hs18, (hB17 D e2 hne).trans e3⟩
    case done =>
      rintro D xs c W hD hSx ⟨hcs, hno⟩ hmark
      subst hSx
      have hDW : D < W.heap.size := (Array.getElem?_eq_some_iff.1 hmark).1
      have hbt : Rg.btw a b long k = false := by rw [hbtw, hno]
      refine Need.mk (by simp only [inK]; omega) (EndI.mk fun w11 h11 => ⟨(k + 1, w11, D :: Ds), Cov.mk (by repeat' (first | exact trivial | refine And.intro rfl ?_)) rfl rfl rfl rfl rfl, rfl, ⟨hkM, ?_, ?_, ?_, g, ?_, hstep g (fun _ _ => rfl) (by rw [hbt, Bool.or_false])⟩, by simp only; omega⟩)
      · exact Nat.le_trans (by omega : w6.heap.size ≤ W.heap.size) h11.size
      · exact Nat.lt_of_lt_of_le (by omega : b14 < W.heap.size) h11.size
      · exact List.nodup_cons.2 ⟨fun hm => by have := lD D hm; omega, hnd⟩
      · have c11 := hcs.at h11 (by simp)
        refine ⟨c11.below, c11.m1, c11.m2, c11.m.mono (by omega), fun E hE => ?_⟩
        rcases List.mem_cons.1 hE with rfl | hE
        · exact ⟨by omega, Nat.lt_of_lt_of_le hDW h11.size, (h11.step E hDW (by simp)).trans hmark⟩
        · exact c11.ds E hE
    case stop =>
      rintro D cd e pre q W hD hSp ⟨rfl, hhit, g', hcs, hg'⟩ hex hmark
      injection hex with hex
      subst hex
      have hDW : D < W.heap.size := (Array.getElem?_eq_some_iff.1 hmark).1
      have hbt : Rg.btw a b long k = true := by
        rw [hbtw, List.any_eq_true]
        obtain ⟨x, hx, hxh⟩ := List.any_eq_true.1 hhit
        exact ⟨x, hSp.subset hx, hxh⟩
      refine Need.mk (by simp only [inK]; omega) (EndI.mk fun w11 h11 => ⟨(k + 1, w11, D :: Ds), Cov.mk (by repeat' (first | exact trivial | refine And.intro rfl ?_)) rfl rfl rfl rfl rfl, rfl, ⟨hkM, ?_, ?_, ?_, g', ?_, hstep g' (fun x hx => by rw [hg', decide_eq_false hx, Bool.or_false]) (by rw [hg', hbt, decide_eq_true rfl])⟩, by simp only; omega⟩)
      · exact Nat.le_trans (by omega : w6.heap.size ≤ W.heap.size) h11.size
      · exact Nat.lt_of_lt_of_le (by omega : b14 < W.heap.size) h11.size
      · exact List.nodup_cons.2 ⟨fun hm => by have := lD D hm; omega, hnd⟩
      · have c11 := hcs.at h11 (by simp)
        refine ⟨c11.below, c11.m1, c11.m2, c11.m, fun E hE => ?_⟩
        rcases List.mem_cons.1 hE with rfl | hE
        · exact ⟨by omega, Nat.lt_of_lt_of_le hDW h11.size, (h11.step E hDW (by simp)).trans hmark⟩
        · exact c11.ds E hE
  · have hge : k = M := by have := of_decide_eq_false z3; simp only at this; omega
    subst hge
    have hT : ∀ x, x ∈ Rg.up long (Rg.btw a b long) ↔ g x = true := fun x => by
      have hb2 : ∀ x, Rg.btw a b long x = true → 0 ≤ x ∧ x < (Rg.many long).1 := fun x hx => by
        unfold Rg.btw Rg.isR at hx
        simp only [Bool.and_eq_true, decide_eq_true_eq] at hx
        exact hx.1.1
      rw [Rg.mem_up hb2, hg, Bool.and_eq_true, decide_eq_true_eq]
      exact ⟨fun h => ⟨h, by have := (hb2 x h).2; omega⟩, fun h => h.1⟩
    apply CallI.use
    focus (exact fun w11 h11 => rising_any (n := k) (by omega) (Rg.up long (Rg.btw a b long)) (Rg.up_rising _ _) hT w11 (cs.at h11 (by simp)).m)
    rintro v w11 v11 h11 hB11 hO
    obtain ⟨a11, c11, rfl⟩ := hO.form
    have cs11 := (cs.at h11 (by simp)).go hB11
    conv => whnf
    refine finM_marks (L := []) Ds (l := [.val (.slice a11 (Rg.up long (Rg.btw a b long)).length c11), .val (.int .i64 0)]) (by simp) rfl fun w12 h12 => ⟨hnd, fun D hD => ?_, fun w13 hu => ?_⟩
    · have cs12 := cs11.at h12 (by simp)
      exact ⟨(cs12.ds D hD).1, (cs12.ds D hD).2.2⟩
    · have hO12 := hO.below (at_below h12 (by simp))
      have cs12 := cs11.at h12 (by simp)
      exact ⟨_, _, rfl, (hO12.unm hu fun D hD => (cs12.ds D hD).2.2).lower h11.below.size⟩
end Go.Proofs.YtjbhpfmnfdebkaaGreat

