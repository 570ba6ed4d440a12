/-
  rallentando/rallentandolaw07.ProjTells: the law.
-/
import Derived.Test.YtodpgcdandechaaLProjTells4
import Derived.Test.YtodpgcdandechaaLProjTells3
/-
  The walk of rallentandolaw07.ProjTells, by the engine.
-/
namespace Go.Proofs.Ytodpgcdandechaa
set_option linter.unusedVariables false
set_option linter.unusedSimpArgs false
set_option maxRecDepth 100000
open Go.RowKit Go.Proofs.Ytodpgcdandechaa.Eng Enc

theorem rtwin7_any (n : Int) (a : Option Addr) (cap : Nat) (L : List Int) (hlen : L.length ≤ 1000000) (w : World) (hS : Sl w.heap.size w (.slice a L.length cap) L) :
    Calls Try.prog 4 #[.agg #[.int .i64 n, .slice a L.length cap]] w (Ret w fun v w' => ∃ a' c', v = .agg #[.int .i64 n, .slice a' L.length c'] ∧ Own TB w.heap.size w' (.slice a' L.length c') L) := by
  refine fun_ret 0 w Try.func4 (args := [.agg [.val (.int .i64 n), .val (.slice a L.length cap)]]) rfl rfl ?_
  refine NewI.mk fun b1 hb1 => ?_
  refine NewI.mk fun b2 hb2 => ?_
  refine DrawI.wr (.tk 0 (.tk 1 (.tk 2 (.tk 3 (.ev 4 (.tk 5 (.ev 6 .done))))))) [1] [] (by kernel_rfl) rfl (by simp) fun w1 h1 => ?_
  have hlb : ∀ b, b ∈ [b1, b2] → b < w1.heap.size := fun b hb => h1.lt b hb
  refine GenN.app (α := Int) elB [] L w1.heap.size (fun w5 h5 => Own.nil) (fun w5 h5 => (hS.go h5.below h5.below.size).src) (by unfold maxLen; simp; omega) (by simp; omega) (fun w5 h5 => h5.size) (fun w5 w6 h5 hg => kpD_grown h5 hg (fun k hk => by cases hk)) fun v1 w5 w6 h5 hg hO1 => ?_
  rw [List.nil_append] at hO1
  obtain ⟨a1, c1, rfl⟩ := hO1.form
  refine EndI.mk fun w9 h9 => ⟨a1, c1, rfl, ?_⟩
  exact (hO1.at h9 (by intro b hb; rw [List.mem_singleton.1 hb]; exact hlb b2 (by simp))).lower h1.below.size
/-- a row that may be written, whatever it holds. -/
def RowOf (base : Nat) (W : World) (a : Option Addr) (n : Nat) : Prop := 0 < n → ∃ g l, a = some ⟨g, 0, none⟩ ∧ base ≤ g ∧ l.length = n ∧ RowAt TB W g l
theorem RowOf.fresh {base : Nat} {W : World} {a : Option Addr} {c : Nat} {l : List Int} (h : Fresh TB base W (.slice a l.length c) l) : RowOf base W a l.length := fun hn => by
  rcases h with ⟨h, h2⟩ | ⟨g, cap, e1, e2, e3, e4, e5⟩
  · rw [h2] at hn; simp at hn
  · injection e1 with e1 e1' e1''
    exact ⟨g, l, e1, e4, rfl, e5⟩
theorem RowOf.below {base : Nat} {W X : World} {a : Option Addr} {n : Nat} (h : RowOf base W a n) (hB : Below W.heap.size W X) : RowOf base X a n := fun hn => by
  obtain ⟨g, l, e1, e2, e3, e4⟩ := h hn
  exact ⟨g, l, e1, e2, e3, e4.below hB e4.lt⟩
theorem RowOf.set {base : Nat} {W : World} {a : Option Addr} {n g k : Nat} {x : Int} (h : RowOf base W a n) (hg : g < base) : RowOf base (W.setCell ⟨g, k, none⟩ (.int .i64 x)) a n := fun hn => by
  obtain ⟨q, l, e1, e2, e3, e4⟩ := h hn
  exact ⟨q, l, e1, e2, e3, e4.kept (setCell_neM (by omega))⟩
theorem RowOf.setUp {base top : Nat} {W : World} {a : Option Addr} {n g k : Nat} {x : Int} (h : RowOf base W a n) (hg : ∀ q, a = some ⟨q, 0, none⟩ → q < top) (ht : top ≤ g) : RowOf base (W.setCell ⟨g, k, none⟩ (.int .i64 x)) a n := fun hn => by
  obtain ⟨q, l, e1, e2, e3, e4⟩ := h hn
  exact ⟨q, l, e1, e2, e3, e4.kept (setCell_neM (by have := hg q e1; omega))⟩
theorem projTells_walk (n : Int) (a : Option Addr) (cap : Nat) (L : List Int) (k : Int) (ao : Option Addr) (co : Nat) (O : List Int) (hn : Dbm.int64 n) (hL : ∀ b, b ∈ L → Dbm.int64 b) (w : World) (hS : Sl w.heap.size w (.slice a L.length cap) L) (hT : Sl w.heap.size w (.slice ao O.length co) O) :
    Calls Try.prog 3 #[.agg #[.int .i64 n, .slice a L.length cap], .int .i64 k, .slice ao O.length co] w fun e w' => e = .returned (.bool true) ∧ Below w.heap.size w w' := by
  refine fun_eqW 0 w Try.func3 (args := [.agg [.val (.int .i64 n), .val (.slice a L.length cap)], .val (.int .i64 k), .val (.slice ao O.length co)]) rfl rfl ?_
  have st := Stay.first (w := w)
  refine NewI.mk fun b1 hb1 => ?_
  refine Branch.mk (fun hc => ?_) (fun hc => ?_)
  · exact EndI.mk fun w9 h9 => rfl
  have hL1 : L.length ≤ 1000 := by have := of_decide_eq_false hc; omega
  refine Branch.mk (fun hc2 => ?_) (fun hc2 => ?_)
  · exact EndI.mk fun w9 h9 => rfl
  have hO1 : O.length ≤ 100 := by have := of_decide_eq_false hc2; omega
  apply CallI.use
  focus (exact fun w3 h3 => rtwin7_any n a cap L (by omega) w3 (hS.st (st.at h3 (fun x hx => by simp at hx <;> omega))))
  rintro v w3 v3 h3 hB3 ⟨a3, c3, rfl, hO3⟩
  have st := st.next h3 (fun x hx => by simp at hx <;> omega) hB3
  refine NewI.mk fun b2 hb2 => ?_
  apply CallI.use
  focus (exact fun w4 h4 => drop_any n a3 c3 L k w4 ((hO3.st (st.at h4 (fun x hx => by simp at hx <;> omega))).sl))
  rintro v w4 v4 h4 hB4 ⟨a4, c4, rfl, hF4⟩
  have st := st.next h4 (fun x hx => by simp at hx <;> omega) hB4
  refine NewI.mk fun b3 hb3 => ?_
  apply CallI.use
  focus (exact fun w5 h5 => rdrop07_any n a cap L k hn hL w5 (hS.st (st.at h5 (fun x hx => by simp at hx <;> omega))))
  rintro v w5 v5 h5 hB5 ⟨a5, c5, rfl, hS5⟩
  have st := st.next h5 (fun x hx => by simp at hx <;> omega) hB5
  refine NewI.mk fun b4 hb4 => ?_
  apply CallI.use
  focus (exact fun w6 h6 => grow_any n a3 c3 L w6 ((hO3.st (st.at h6 (fun x hx => by simp at hx <;> omega))).sl))
  rintro v w6 v6 h6 hB6 ⟨a6, c6, rfl, hF6⟩
  have st := st.next h6 (fun x hx => by simp at hx <;> omega) hB6
  refine NewI.mk fun b5 hb5 => ?_
  apply CallI.use
  focus (exact fun w7 h7 => rgrow07_any n a cap L hn hL w7 (hS.st (st.at h7 (fun x hx => by simp at hx <;> omega))))
  rintro v w7 v7 h7 hB7 ⟨a7, c7, rfl, hS7⟩
  have st := st.next h7 (fun x hx => by simp at hx <;> omega) hB7
  refine NewI.mk fun b6 hb6 => ?_
  apply CallI.use
  focus (exact fun w8 h8 => move_any n a3 c3 L ao co O (by omega) w8 ((hO3.st (st.at h8 (fun x hx => by simp at hx <;> omega))).sl) (hT.st (st.at h8 (fun x hx => by simp at hx <;> omega))))
  rintro v w8 v8 h8 hB8 ⟨a8, c8, rfl, hF8⟩
  have st := st.next h8 (fun x hx => by simp at hx <;> omega) hB8
  refine NewI.mk fun b7 hb7 => ?_
  apply CallI.use
  focus (exact fun w9 h9 => rmove07_any n a cap L ao co O hn hL w9 (hS.st (st.at h9 (fun x hx => by simp at hx <;> omega))) (hT.st (st.at h9 (fun x hx => by simp at hx <;> omega))))
  rintro v w9 v9 h9 hB9 ⟨a9, c9, rfl, hS9⟩
  have st := st.next h9 (fun x hx => by simp at hx <;> omega) hB9
  refine NewI.mk fun b8 hb8 => ?_
  apply CallI.use1
  focus (exact fun w10 h10 => same04_any (Proj.drop n L k).1 (Proj.drop n L k).1 (Proj.drop n L k).2.1 (Proj.drop n L k).2.1 a4 a5 c4 c5 w10 ((hF4.st (st.at h10 (fun x hx => by simp at hx <;> omega))).sl) (hS5.st (st.at h10 (fun x hx => by simp at hx <;> omega))))
  intro w10 v10 h10 hB10
  have st := st.next h10 (fun x hx => by simp at hx <;> omega) hB10
  refine Branch.yes (by simp [sameB]) ?_
  refine Branch.yes (by simp [sameB]) ?_
  apply CallI.use1
  focus (exact fun w11 h11 => same04_any (Proj.grow n L).1 (Proj.grow n L).1 (Proj.grow n L).2.1 (Proj.grow n L).2.1 a6 a7 c6 c7 w11 ((hF6.st (st.at h11 (fun x hx => by simp at hx <;> omega))).sl) (hS7.st (st.at h11 (fun x hx => by simp at hx <;> omega))))
  intro w11 v11 h11 hB11
  have st := st.next h11 (fun x hx => by simp at hx <;> omega) hB11
  refine Branch.yes (by simp [sameB]) ?_
  refine Branch.yes (by simp [sameB]) ?_
  apply CallI.use1
  focus (exact fun w12 h12 => same04_any (Proj.move n L O).1 (Proj.move n L O).1 (Proj.move n L O).2.1 (Proj.move n L O).2.1 a8 a9 c8 c9 w12 ((hF8.st (st.at h12 (fun x hx => by simp at hx <;> omega))).sl) (hS9.st (st.at h12 (fun x hx => by simp at hx <;> omega))))
  intro w12 v12 h12 hB12
  have st := st.next h12 (fun x hx => by simp at hx <;> omega) hB12
  refine Branch.yes (by simp [sameB]) ?_
  have r8 : RowOf w8.heap.size v12 a8 (Proj.move n L O).2.1.length := (RowOf.fresh hF8).below (st.get (by simp))
  have r4 : RowOf w4.heap.size v12 a4 (Proj.drop n L k).2.1.length := (RowOf.fresh hF4).below (st.get (by simp))
  have hO12 : Own TB w.heap.size v12 (.slice a3 L.length c3) L := (hO3.st st).lower h3.below.size
  have g3 : ∀ g, (Value.slice a3 L.length c3).ownBlock = some g → g < w4.heap.size := fun g hg => by
    have h1 := (hO3.lt g hg).2
    have h2 := h4.size
    omega
  have g4 : ∀ q, a4 = some ⟨q, 0, none⟩ → 0 < (Proj.drop n L k).2.1.length → q < w8.heap.size := fun q hq hn => by
    obtain ⟨g, l, e1, e2, e3, e4⟩ := RowOf.fresh hF4 hn
    rw [hq] at e1
    injection e1 with e1; injection e1 with e1; subst e1
    have h1 := e4.lt
    have h2 := (st.get (X := v4) (by simp)).size
    have z5 := h5.size; have z5' := hB5.size; have z6 := h6.size; have z6' := hB6.size; have z7 := h7.size; have z7' := hB7.size; have z8 := h8.size
    omega
  have hw4 : w.heap.size ≤ w4.heap.size := h4.below.size
  have ml8 : (Proj.move n L O).2.1.length ≤ 9223372036854775807 := by obtain ⟨_, _, _, q1, q2, _⟩ := hF8.sl.form; unfold maxLen at q2; omega
  have ml4 : (Proj.drop n L k).2.1.length ≤ 9223372036854775807 := by obtain ⟨_, _, _, q1, q2, _⟩ := hF4.sl.form; unfold maxLen at q2; omega
  have hw8 : w.heap.size ≤ w8.heap.size := h8.below.size
  have hw48 : w4.heap.size ≤ w8.heap.size := by
    have z5 := h5.size; have z5' := hB5.size; have z6 := h6.size; have z6' := hB6.size; have z7 := h7.size; have z7' := hB7.size; have z8 := h8.size; have z4' := hB4.size
    omega
  have lb : ∀ b, b ∈ [b1, b2, b3, b4, b5, b6, b7, b8] → b < v12.heap.size := fun b hb => Nat.lt_of_lt_of_le (h12.lt b hb) hB12.size
  have gr8 : ∀ q, a8 = some ⟨q, 0, none⟩ → 0 < (Proj.move n L O).2.1.length → q < v8.heap.size ∧ w8.heap.size ≤ q := fun q hq hn => by
    obtain ⟨g, l, e1, e2, e3, e4⟩ := RowOf.fresh hF8 hn
    rw [hq] at e1
    injection e1 with e1; injection e1 with e1; subst e1
    exact ⟨e4.lt, e2⟩
  have gr4 : ∀ q, a4 = some ⟨q, 0, none⟩ → 0 < (Proj.drop n L k).2.1.length → q < v4.heap.size ∧ w4.heap.size ≤ q := fun q hq hn => by
    obtain ⟨g, l, e1, e2, e3, e4⟩ := RowOf.fresh hF4 hn
    rw [hq] at e1
    injection e1 with e1; injection e1 with e1; subst e1
    exact ⟨e4.lt, e2⟩
  have nr8 : ∀ q, w8.heap.size ≤ q → q < v8.heap.size → ∀ b, b ∈ [b1, b2, b3, b4, b5, b6, b7, b8] → b ≠ q := fun q h1 h2 b hb e => by
    subst e
    have z1 := h8.lt b1 (by simp); have z2 := h8.lt b2 (by simp); have z3 := h8.lt b3 (by simp); have z4 := h8.lt b4 (by simp); have z5 := h8.lt b5 (by simp); have z6 := h8.lt b6 (by simp)
    have z7 : v8.heap.size ≤ b7 := hb7
    have z8 : v9.heap.size ≤ b8 := hb8
    have z9 := h9.size; have z9' := hB9.size
    simp only [List.mem_cons, List.not_mem_nil, or_false] at hb
    omega
  have nr4 : ∀ q, w4.heap.size ≤ q → q < v4.heap.size → ∀ b, b ∈ [b1, b2, b3, b4, b5, b6, b7, b8] → b ≠ q := fun q h1 h2 b hb e => by
    subst e
    have z1 := h4.lt b1 (by simp); have z2 := h4.lt b2 (by simp)
    have z3 : v4.heap.size ≤ b3 := hb3
    have z4 : v5.heap.size ≤ b4 := hb4
    have z5 : v6.heap.size ≤ b5 := hb5
    have z6 : v7.heap.size ≤ b6 := hb6
    have z7 : v8.heap.size ≤ b7 := hb7
    have z8 : v9.heap.size ≤ b8 := hb8
    have y5 := h5.size; have y5' := hB5.size; have y6 := h6.size; have y6' := hB6.size; have y7 := h7.size; have y7' := hB7.size; have y8 := h8.size; have y8' := hB8.size; have y9 := h9.size; have y9' := hB9.size
    simp only [List.mem_cons, List.not_mem_nil, or_false] at hb
    omega
  refine LoopI.invC (α := Nat × World) (fun y => [(21, .val (.int .i64 y.1))]) (fun y => y.2) (fun y => y.1 ≤ (Proj.move n L O).2.1.length ∧ Below w.heap.size w y.2 ∧ Own TB w.heap.size y.2 (.slice a3 L.length c3) L ∧ RowOf w8.heap.size y.2 a8 (Proj.move n L O).2.1.length ∧ RowOf w4.heap.size y.2 a4 (Proj.drop n L k).2.1.length) (fun y => (Proj.move n L O).2.1.length - y.1) ?_ ?_
  · intro w1 h1
    have hB := at_belowM h1 (by simp)
    exact ⟨(0, w1), Cov.mk (by repeat' (first | exact trivial | refine And.intro rfl ?_)) rfl rfl rfl rfl rfl, rfl, Nat.zero_le _, h1.below, hO12.below hB, r8.below hB, r4.below hB⟩
  rintro ⟨i, U⟩ ⟨hi, hU, hOU, hR8, hR4⟩
  simp only at hi hU hOU hR8 hR4
  refine Branch.mk (fun z3 => ?_) (fun z3 => ?_)
  · have hlt : i < (Proj.move n L O).2.1.length := by have := of_decide_eq_true z3; simp only at this; omega
    obtain ⟨g, l, ea, hge, hll, hrow⟩ := hR8 (by omega)
    obtain ⟨hgl, _⟩ := gr8 g ea (by omega)
    have hnr := nr8 g hge hgl
    have hil : i < l.length := by omega
    refine IdxI.mk ⟨⟨g, 0, none⟩, ⟨ea, by simp, by simpa using hlt⟩, ?_⟩
    have ead : (⟨g, 0, none⟩ : Addr).add ((i : Int).toNat * 1) = ⟨g, i, none⟩ := by simp [addr_addL]
    refine LoadI.mk ⟨.int .i64 (l[i]?.getD 0), ⟨by rw [show ((⟨g, 0, none⟩ : Addr).add ((((i, U).1 : Nat) : Int).toNat * 1)) = ⟨g, i, none⟩ from ead]; exact hrow.cell hil, by simp⟩, ?_⟩
    refine Wr.mk ?_
    refine IdxI.mk ⟨⟨g, 0, none⟩, ⟨ea, by simp, by simpa using hlt⟩, ?_⟩
    refine StoreI.mk fun w5 h5 => ?_
    rw [show ((⟨g, 0, none⟩ : Addr).add ((((i, U).1 : Nat) : Int).toNat * 1)) = ⟨g, i, none⟩ from ead]
    have hB5 := at_belowM h5 (by simp)
    have r5 := hrow.below hB5 hrow.lt
    have hgw : w.heap.size ≤ g := Nat.le_trans hw8 hge
    refine ⟨⟨⟨_, r5.cell hil⟩, r5.frozen _⟩, keep_set hgw hnr, ?_⟩
    generalize hval : ((l[i]?.getD 0 + 1 + 9223372036854775808) % 18446744073709551616 - 9223372036854775808) = nv
    have hw5 := below_setCellM (B := g) (o := i) (u := .int .i64 nv) h5.below hgw
    have hO5 := (hOU.below hB5).setCellM (B := g) (o := i) (u := .int .i64 nv) (fun q hq => by have := g3 q hq; omega)
    have hR8' : RowOf w8.heap.size (w5.setCell ⟨g, i, none⟩ (.int .i64 nv)) a8 (Proj.move n L O).2.1.length := fun _ => ⟨g, _, ea, hge, by rw [List.length_set]; exact hll, r5.set hil nv⟩
    have hR4' : RowOf w4.heap.size (w5.setCell ⟨g, i, none⟩ (.int .i64 nv)) a4 (Proj.drop n L k).2.1.length := fun hn => (hR4.below hB5).setUp (top := w8.heap.size) (fun q hq => g4 q hq hn) hge hn
    generalize w5.setCell ⟨g, i, none⟩ (.int .i64 nv) = w6 at *
    refine Wr.fit (by omega) (EndI.mk fun w7 h7 => ?_)
    have hB7 := at_belowM h7 (by simp)
    exact ⟨(i + 1, w7), Cov.mk (by repeat' (first | exact trivial | refine And.intro rfl ?_)) rfl rfl rfl rfl rfl, rfl, ⟨hlt, h7.below, hO5.below hB7, hR8'.below hB7, hR4'.below hB7⟩, by simp only; omega⟩
  refine LoopI.invC (α := Nat × World) (fun y => [(22, .val (.int .i64 y.1))]) (fun y => y.2) (fun y => y.1 ≤ (Proj.drop n L k).2.1.length ∧ Below w.heap.size w y.2 ∧ Own TB w.heap.size y.2 (.slice a3 L.length c3) L ∧ RowOf w4.heap.size y.2 a4 (Proj.drop n L k).2.1.length) (fun y => (Proj.drop n L k).2.1.length - y.1) ?_ ?_
  · intro w1 h1
    have hB := at_belowM h1 (by simp)
    exact ⟨(0, w1), Cov.mk (by repeat' (first | exact trivial | refine And.intro rfl ?_)) rfl rfl rfl rfl rfl, rfl, Nat.zero_le _, h1.below, hOU.below hB, hR4.below hB⟩
  rintro ⟨i2, U2⟩ ⟨hi2, hU2, hOU2, hR42⟩
  simp only at hi2 hU2 hOU2 hR42
  refine Branch.mk (fun z4 => ?_) (fun z4 => ?_)
  · have hlt : i2 < (Proj.drop n L k).2.1.length := by have := of_decide_eq_true z4; simp only at this; omega
    obtain ⟨g, l, ea, hge, hll, hrow⟩ := hR42 (by omega)
    obtain ⟨hgl, _⟩ := gr4 g ea (by omega)
    have hnr := nr4 g hge hgl
    have hil : i2 < l.length := by omega
    refine IdxI.mk ⟨⟨g, 0, none⟩, ⟨ea, by simp, by simpa using hlt⟩, ?_⟩
    have ead : (⟨g, 0, none⟩ : Addr).add ((i2 : Int).toNat * 1) = ⟨g, i2, none⟩ := by simp [addr_addL]
    refine LoadI.mk ⟨.int .i64 (l[i2]?.getD 0), ⟨by rw [show ((⟨g, 0, none⟩ : Addr).add ((((i2, U2).1 : Nat) : Int).toNat * 1)) = ⟨g, i2, none⟩ from ead]; exact hrow.cell hil, by simp⟩, ?_⟩
    refine Wr.mk ?_
    refine IdxI.mk ⟨⟨g, 0, none⟩, ⟨ea, by simp, by simpa using hlt⟩, ?_⟩
    refine StoreI.mk fun w5 h5 => ?_
    rw [show ((⟨g, 0, none⟩ : Addr).add ((((i2, U2).1 : Nat) : Int).toNat * 1)) = ⟨g, i2, none⟩ from ead]
    have hB5 := at_belowM h5 (by simp)
    have r5 := hrow.below hB5 hrow.lt
    have hgw : w.heap.size ≤ g := Nat.le_trans hw4 hge
    refine ⟨⟨⟨_, r5.cell hil⟩, r5.frozen _⟩, keep_set hgw hnr, ?_⟩
    generalize hval : ((l[i2]?.getD 0 + 1 + 9223372036854775808) % 18446744073709551616 - 9223372036854775808) = nv
    have hw5 := below_setCellM (B := g) (o := i2) (u := .int .i64 nv) h5.below hgw
    have hO5 := (hOU2.below hB5).setCellM (B := g) (o := i2) (u := .int .i64 nv) (fun q hq => by have := g3 q hq; omega)
    have hR4' : RowOf w4.heap.size (w5.setCell ⟨g, i2, none⟩ (.int .i64 nv)) a4 (Proj.drop n L k).2.1.length := fun _ => ⟨g, _, ea, hge, by rw [List.length_set]; exact hll, r5.set hil nv⟩
    generalize w5.setCell ⟨g, i2, none⟩ (.int .i64 nv) = w6 at *
    refine Wr.fit (by omega) (EndI.mk fun w7 h7 => ?_)
    have hB7 := at_belowM h7 (by simp)
    exact ⟨(i2 + 1, w7), Cov.mk (by repeat' (first | exact trivial | refine And.intro rfl ?_)) rfl rfl rfl rfl rfl, rfl, ⟨hlt, h7.below, hO5.below hB7, hR4'.below hB7⟩, by simp only; omega⟩
  refine Branch.yes (by simp [sameB]) ?_
  apply CallI.use1
  focus (exact fun w5 h5 => same04_any n n L L a3 a c3 cap w5 ((hOU2.below (at_belowM h5 (by simp))).sl) (hS.go h5.below h5.below.size))
  intro w5 v5 h5 hB5
  exact EndI.mk fun w9 h9 => by simp [sameB]
end Go.Proofs.Ytodpgcdandechaa

/-
  rallentando/rallentandolaw07.ProjTells: the law.
-/
namespace Go.Proofs.Ytodpgcdandechaa
set_option linter.unusedVariables false
open Go.ChangeShapes Go.WideShapes Go.ChangeAt Go.RowKit Go.Deep

set_option maxRecDepth 100000 in
theorem projTells_lifted (os : Os) (started : os.Started) (H : Type) (enc : TypeId × Value → H) :
    ReturnsInHanded {} Try.checked os 3 .any (Rows.projTellsSpec.pre6 enc Try.prog Try.f3 Rows.projTellsRow.domain false) (Rows.projTellsSpec.post enc Try.prog Try.f3 false true false false) := by
  refine returnsInHanded_of_change (C := Try.checked) own started (by kernel_rfl) Try.func3
    (ChangeSpec.witness6 (enc := enc) (C := Try.checked) false ⟨#[], #[.agg #[.int .i64 0, .slice none 0 0], .int .i64 0, .slice none 0 0], []⟩ 8 (by kernel_rfl) (by kernel_rfl) (by kernel_rfl) (by kernel_rfl)) ?_
  intro W base args ds gs before hval0 hW _ _
  have hval : ∀ (j : Nat) t v, Try.f3.params[j]? = some t → args[j]? = some v → Value.okWide Try.prog W .any base t v := hval0
  have hW' := hW
  obtain ⟨p, q, hA0, hV, rfl, hfz, hnd⟩ := hW
  have hA : DataW.TrodAll enc Try.prog W 0 (fun _ => true) true Try.f3.params.toList args.toList ds p := hA0
  rw [Try.params3] at hA hval
  obtain ⟨v0, vs0, d0, ds0, p0_, q0_, hargs, rfl, rfl, h0, r0⟩ := trodAll_cons hA
  obtain ⟨v1, vs1, d1, ds1, p1_, q1_, rfl, rfl, rfl, h1, r1⟩ := trodAll_cons r0
  obtain ⟨v2, vs2, d2, ds2, p2_, q2_, rfl, rfl, rfl, h2, r2⟩ := trodAll_cons r1
  obtain ⟨rfl, rfl, rfl⟩ := trodAll_nil r2
  obtain rfl : args = #[v0, v1, v2] := by cases args; simp_all
  obtain ⟨rfl, rfl⟩ := trodVars_none hV
  obtain ⟨n0, x0, L0, c0, rfl, wn0, S0, G0⟩ := open_numlist Try.underlying24 (by kernel_rfl) rfl rfl (by kernel_rfl) (by kernel_rfl) Try.underlying3 Try.underlying22 (opens_int Try.underlying37 (by kernel_rfl)) (hval 0 24 v0 rfl rfl) h0
  obtain ⟨a1, rfl, rfl, rfl, w1⟩ := open_int Try.underlying3 (hval 1 3 v1 rfl rfl) h1
  obtain ⟨x2, L2, c2, rfl, S2, G2⟩ := open_lst Try.underlying25 (opens_int Try.underlying3 (by kernel_rfl)) (hval 2 25 v2 rfl rfl) h2
  clear hA0 hval0
  exact (projTells_walk n0 x0 c0 L0 a1 x2 c2 L2 wn0 (fun b hb => G0 b hb) W S0 S2).mono fun e W' ⟨he, hg⟩ => ⟨_, he, law_post laidOut (by kernel_rfl) rfl rfl Try.underlying4 hW' rfl hg⟩

set_option maxRecDepth 100000 in
theorem projTells_k1 : (Rows.projTellsRow.inPlace == Try.pinned.checked.prog.inPlace 3) = true := by kernel_rfl
set_option maxRecDepth 100000 in
theorem projTells_k2 : (Rows.projTellsRow.unfollowed == Try.pinned.checked.prog.unfollowed 3) = true := by kernel_rfl
set_option maxRecDepth 100000 in
theorem projTells_k3 : (Rows.projTellsRow.recurses == Try.pinned.checked.prog.recurses 3) = true := by kernel_rfl
set_option maxRecDepth 100000 in
theorem projTells_k4 : (Rows.projTellsRow.named == Try.pinned.checked.prog.varsNamed 3) = true := by kernel_rfl
set_option maxRecDepth 100000 in
theorem projTells_closed : joinedFacts Try.pinned.checked.prog 3 Try.f3 Rows.projTellsSpec Rows.projTellsRow = true := by
  unfold joinedFacts
  rw [projTells_k1, projTells_k2, projTells_k3, projTells_k4]
  kernel_rfl
set_option maxRecDepth 100000 in
theorem projTells_over : Rows.projTellsRow.holds Try.pinned (OpenSpec.ofChange Rows.projTellsSpec) :=
  OpenClaim.holds_of_wide 3 Try.f3 rfl rfl rfl rfl rfl rfl rfl ⟨rfl, rfl, rfl, rfl, rfl⟩ rfl rfl rfl rfl rfl (by kernel_rfl) Try.func3 projTells_closed
    (of_decide_eq_true (by kernel_rfl)) (by unfold Func.isWrapper; first | (rw [if_pos (by decide +kernel)]; kernel_rfl) | (rw [if_neg (by decide +kernel)]; exact ⟨rfl, rfl⟩))
    (fun os started H enc _ => projTells_lifted os started H enc)

theorem projTells.proved : Rows.ProjTellsSaid := projTells_over
#print axioms projTells.proved
end Go.Proofs.Ytodpgcdandechaa

