/-
  Merged texts of this law (each with its own head below).
-/
import Derived.Test.YtjbhpfmnfdebkaaGreatLRegionSets7
import Derived.Test.YtjbhpfmnfdebkaaGreatLRegionSets5
import Derived.Test.YtjbhpfmnfdebkaaGreatLRegionSets4
import Derived.Test.YtjbhpfmnfdebkaaGreatLRegionSets6
import Derived.Test.YtjbhpfmnfdebkaaGreatLRegionSets3
namespace Go.Proofs.YtjbhpfmnfdebkaaGreat
set_option linter.unusedVariables false
set_option linter.unusedSimpArgs false
set_option maxRecDepth 100000
open Go.RowKit Go.Proofs.YtjbhpfmnfdebkaaGreat.Eng Enc

namespace Rg
def orI : List Int → List Int → List Int
  | [], b => b
  | a, [] => a
  | x :: a, y :: b => if x < y then x :: orI a (y :: b) else if x = y then y :: orI a b else y :: orI (x :: a) b
termination_by a b => a.length + b.length
theorem orI_nil (b : List Int) : orI [] b = b := by unfold orI; rfl
theorem orI_end : ∀ (a : List Int), orI a [] = a
  | [] => by unfold orI; rfl
  | x :: a => by unfold orI; rfl
theorem orI_cons (x y : Int) (a b : List Int) : orI (x :: a) (y :: b) = if x < y then x :: orI a (y :: b) else if x = y then y :: orI a b else y :: orI (x :: a) b := by
  conv => lhs; unfold orI
theorem mem_orI : ∀ (n : Nat) (a b : List Int), a.length + b.length ≤ n → ∀ z, z ∈ orI a b ↔ z ∈ a ∨ z ∈ b
  | n, [], b, h, z => by rw [orI_nil]; simp
  | n, x :: a, [], h, z => by rw [orI_end]; simp
  | 0, x :: a, y :: b, h, z => by simp at h
  | n + 1, x :: a, y :: b, h, z => by
    rw [orI_cons]
    simp only [List.length_cons] at h
    split
    · have := mem_orI n a (y :: b) (by simp; omega) z
      simp only [List.mem_cons] at this ⊢; rw [this]; constructor
      · rintro (h | h | h) <;> simp [h]
      · rintro ((h | h) | h) <;> simp [h]
    split
    · rename_i _ he
      subst he
      have := mem_orI n a b (by omega) z
      simp only [List.mem_cons] at this ⊢; rw [this]; constructor
      · rintro (h | h | h) <;> simp [h]
      · rintro ((h | h) | (h | h)) <;> simp [h]
    · have := mem_orI n (x :: a) b (by simp; omega) z
      simp only [List.mem_cons] at this ⊢; rw [this]; constructor
      · rintro (h | (h | h) | h) <;> simp [h]
      · rintro ((h | h) | (h | h)) <;> simp [h]
theorem orI_rising : ∀ (n : Nat) (a b : List Int), a.length + b.length ≤ n → a.Pairwise (fun x y => x < y) → b.Pairwise (fun x y => x < y) → (orI a b).Pairwise fun x y => x < y
  | n, [], b, h, ha, hb => by rw [orI_nil]; exact hb
  | n, x :: a, [], h, ha, hb => by rw [orI_end]; exact ha
  | 0, x :: a, y :: b, h, ha, hb => by simp at h
  | n + 1, x :: a, y :: b, h, ha, hb => by
    rw [orI_cons]
    simp only [List.length_cons] at h
    have ha' := List.pairwise_cons.1 ha
    have hb' := List.pairwise_cons.1 hb
    split
    · rename_i hxy
      refine List.pairwise_cons.2 ⟨fun z hz => ?_, orI_rising n a (y :: b) (by simp; omega) ha'.2 hb⟩
      rcases (mem_orI n a (y :: b) (by simp; omega) z).1 hz with h | h
      · exact ha'.1 z h
      · rcases List.mem_cons.1 h with rfl | h
        · exact hxy
        · have := hb'.1 z h; omega
    split
    · rename_i _ he
      subst he
      refine List.pairwise_cons.2 ⟨fun z hz => ?_, orI_rising n a b (by omega) ha'.2 hb'.2⟩
      rcases (mem_orI n a b (by omega) z).1 hz with h | h
      · exact ha'.1 z h
      · exact hb'.1 z h
    · rename_i h1 h2
      refine List.pairwise_cons.2 ⟨fun z hz => ?_, orI_rising n (x :: a) b (by simp; omega) ha hb'.2⟩
      rcases (mem_orI n (x :: a) b (by simp; omega) z).1 hz with h | h
      · rcases List.mem_cons.1 h with rfl | h
        · omega
        · have := ha'.1 z h; omega
      · exact hb'.1 z h
def andI : List Int → List Int → List Int
  | [], _ => []
  | x :: a, b => if (b.dropWhile fun y => decide (y < x)).head? = some x then x :: andI a (b.dropWhile fun y => decide (y < x)) else andI a (b.dropWhile fun y => decide (y < x))
theorem andI_cons (x : Int) (a b : List Int) : andI (x :: a) b = if (b.dropWhile fun y => decide (y < x)).head? = some x then x :: andI a (b.dropWhile fun y => decide (y < x)) else andI a (b.dropWhile fun y => decide (y < x)) := rfl
theorem drop_while_mem {x z : Int} : ∀ {b : List Int}, b.Pairwise (fun x y => x < y) → x ≤ z → (z ∈ b.dropWhile (fun y => decide (y < x)) ↔ z ∈ b)
  | [], _, _ => by simp
  | y :: b, hb, hz => by
    have hb' := List.pairwise_cons.1 hb
    rw [List.dropWhile_cons]
    split
    · rename_i h
      rw [drop_while_mem hb'.2 hz]
      have := of_decide_eq_true h
      simp only [List.mem_cons]
      constructor
      · exact fun h => .inr h
      · rintro (h | h)
        · omega
        · exact h
    · rfl
theorem drop_while_rising (x : Int) {b : List Int} (hb : b.Pairwise fun x y => x < y) : (b.dropWhile fun y => decide (y < x)).Pairwise fun x y => x < y := hb.sublist (List.dropWhile_sublist _)
theorem drop_while_head {x : Int} : ∀ {b : List Int}, b.Pairwise (fun x y => x < y) → ((b.dropWhile fun y => decide (y < x)).head? = some x ↔ x ∈ b)
  | [], _ => by simp
  | y :: b, hb => by
    have hb' := List.pairwise_cons.1 hb
    rw [List.dropWhile_cons]
    split
    · rename_i h
      have := of_decide_eq_true h
      rw [drop_while_head hb'.2]
      simp only [List.mem_cons]
      constructor
      · exact fun h => .inr h
      · rintro (h | h)
        · omega
        · exact h
    · rename_i h
      have h : ¬ y < x := by simpa using h
      simp only [List.head?_cons, Option.some.injEq, List.mem_cons]
      constructor
      · intro e; exact .inl e.symm
      · rintro (e | e)
        · exact e.symm
        · have := hb'.1 x e; omega
theorem mem_andI : ∀ (a b : List Int), a.Pairwise (fun x y => x < y) → b.Pairwise (fun x y => x < y) → ∀ z, z ∈ andI a b ↔ z ∈ a ∧ z ∈ b
  | [], b, _, _, z => by simp [andI]
  | x :: a, b, ha, hb, z => by
    have ha' := List.pairwise_cons.1 ha
    rw [andI_cons]
    have ih := mem_andI a (b.dropWhile fun y => decide (y < x)) ha'.2 (drop_while_rising x hb) z
    have hh := drop_while_head (x := x) hb
    split
    · rename_i h
      have hx := hh.1 h
      simp only [List.mem_cons]
      rw [ih]
      constructor
      · rintro (rfl | ⟨h1, h2⟩)
        · exact ⟨.inl rfl, hx⟩
        · exact ⟨.inr h1, (List.dropWhile_sublist _).mem h2⟩
      · rintro ⟨rfl | h1, h2⟩
        · exact .inl rfl
        · exact .inr ⟨h1, (drop_while_mem hb (by have := ha'.1 z h1; omega)).2 h2⟩
    · rename_i h
      have hx : x ∉ b := fun k => h (hh.2 k)
      rw [ih]
      simp only [List.mem_cons]
      constructor
      · rintro ⟨h1, h2⟩
        exact ⟨.inr h1, (List.dropWhile_sublist _).mem h2⟩
      · rintro ⟨rfl | h1, h2⟩
        · exact absurd h2 hx
        · exact ⟨h1, (drop_while_mem hb (by have := ha'.1 z h1; omega)).2 h2⟩
theorem andI_sub : ∀ (a b : List Int), (andI a b).Sublist a
  | [], b => by simp [andI]
  | x :: a, b => by
    rw [andI_cons]
    split
    · exact (andI_sub a _).cons_cons x
    · exact (andI_sub a _).cons x
end Rg
set_option maxHeartbeats 2000000 in
theorem ror14_any (a b : List Int) (ha : a.length ≤ 400000) (hb : b.length ≤ 400000) (pa pb : Option Addr) (ca cb : Nat) (w : World) (hS : Sl w.heap.size w (.slice pa a.length ca) a) (hT : Sl w.heap.size w (.slice pb b.length cb) b) :
    Calls Tryz.prog 27 #[.slice pa a.length ca, .slice pb b.length cb] w (Ret w fun v w' => Own TKi w.heap.size w' v (Rg.orI a b)) := by
  refine fun_ret 0 w Tryz.func27 (args := [.val (.slice pa a.length ca), .val (.slice pb b.length cb)]) rfl rfl ?_
  have st := Stay.first (w := w)
  refine LoopI.invC (α := Nat × Nat × World × Value × List Int) (fun y => [(6, .val (.int .i64 y.1)), (7, .val (.int .i64 y.2.1)), (5, .val y.2.2.2.1)]) (fun y => y.2.2.1) (fun y => y.1 ≤ a.length ∧ y.2.1 ≤ b.length ∧ Below w.heap.size w y.2.2.1 ∧ y.2.2.2.2.length ≤ y.1 + y.2.1 ∧ y.2.2.2.2 ++ Rg.orI (a.drop y.1) (b.drop y.2.1) = Rg.orI a b ∧ ∃ base, Lp ⟨w, w.heap.size, Nat.le_refl _⟩ [w] [] TKi base y.2.2.1 y.2.2.2.1 y.2.2.2.2) (fun y => a.length + b.length - y.1 - y.2.1) ?_ ?_
  · intro w1 h1
    exact ⟨(0, 0, w1, .slice none 0 0, []), Cov.mk (by repeat' (first | exact trivial | refine And.intro rfl ?_)) rfl rfl rfl rfl rfl, rfl, Nat.zero_le _, Nat.zero_le _, h1.below, by simp, rfl, _, Lp.start st h1 (by simp)⟩
  rintro ⟨i, k, V, ov, out⟩ ⟨hi, hk, hV, hle, hall, base, lp⟩
  simp only at hi hk hV hle hall lp
  obtain ⟨ao, co, rfl⟩ := lp.own.form
  have lpA : ∀ {L : List Nat} {hp : List LB} {w1 : World}, At ⟨w, w.heap.size, Nat.le_refl _⟩ hp [] [] V w1 → Lp ⟨w, w.heap.size, Nat.le_refl _⟩ [w] [] TKi base w1 (.slice ao out.length co) out := fun h => lp.at h (by simp)
  have dA : ∀ {j : Nat} {x : Int}, a[j]? = some x → a.drop j = x :: a.drop (j + 1) := fun {j x} h => by
    have hj := (List.getElem?_eq_some_iff.1 h).1
    rw [List.drop_eq_getElem_cons hj]; congr 1; exact (List.getElem?_eq_some_iff.1 h).2
  have dB : ∀ {j : Nat} {x : Int}, b[j]? = some x → b.drop j = x :: b.drop (j + 1) := fun {j x} h => by
    have hj := (List.getElem?_eq_some_iff.1 h).1
    rw [List.drop_eq_getElem_cons hj]; congr 1; exact (List.getElem?_eq_some_iff.1 h).2
  have lpB : ∀ {w1 : World}, Below V.heap.size V w1 → Lp ⟨w, w.heap.size, Nat.le_refl _⟩ [w] [] TKi base w1 (.slice ao out.length co) out := fun h => lp.go h
  by_cases hA : i < a.length
  case pos =>
    have hx := List.getElem?_eq_getElem (l := a) (i := i) hA
    generalize a[i] = x at hx
    refine Branch.yes (by simp only [decide_eq_true_eq]; omega) ?_
    by_cases hB : k < b.length
    case neg =>
      have hkb : k = b.length := by omega
      have hdone : out ++ [x] ++ Rg.orI (a.drop (i + 1)) (b.drop k) = Rg.orI a b := by
        rw [← hall, dA hx, hkb, List.drop_length, Rg.orI_end, Rg.orI_end, List.append_assoc]; rfl
      refine DrawI.go (.tk 0 (.tk 1 (.tk 2 (.tk 3 (.tk 4 (.tk 5 (.tk 6 (.tk 7 (.tk 8 (.tk 9 (.tk 10 (.tk 11 (.tk 12 (.tk 13 (.tk 14 (.tk 15 (.tk 16 (.tk 17 (.tk 18 (.tk 19 (.tk 20 .done))))))))))))))))))))) (by kernel_rfl) fun w3 h3 => ?_
      have gw3 : Below V.heap.size V w3 := h3.go
      have Sw3 := hS.go (hV.trans (gw3.mono hV.size)) (hV.trans (gw3.mono hV.size)).size
      have Tw3 := hT.go (hV.trans (gw3.mono hV.size)) (hV.trans (gw3.mono hV.size)).size
      refine Branch.yes (by simp only [decide_eq_true_eq]; omega) ?_
      refine Sw3.idx hx fun ad9 had9 => ?_
      refine Sw3.ld1 hx had9 (Below.refl _ _) (by simp) ?_
      have lp3 : Lp ⟨w, w.heap.size, Nat.le_refl _⟩ [w] [] TKi base w3 (.slice ao out.length co) out := lpB gw3
      have gV := gw3.size
      refine NewI.mk fun b1 hb1 => ?_
      have hb1' : w3.heap.size ≤ b1 := hb1
      refine GenN.appL (α := Int) elIn lp3 (fun y hy => .inr (by simp at hy; omega)) (by simp) [x] (fun w8 h8 => src_own h8 0 rfl rfl rfl rfl) (by simp; omega) (by decide) fun a' c' w8 w9 h8 lp9 hsz hbl => ?_
      refine Need.mk (by simp only [inK]; omega) (EndI.mk fun w10 h10 => ⟨(i + 1, k, w10, .slice a' (out ++ [x]).length c', out ++ [x]), Cov.mk (by repeat' (first | exact trivial | refine And.intro rfl ?_)) rfl rfl rfl rfl rfl, rfl, ⟨by simp only; omega, by simp only; omega, h10.below, by simp only [List.length_append, List.length_cons, List.length_nil]; omega, hdone, base, lp9.at h10 (by simp)⟩, by simp only; omega⟩)
    case pos =>
      have hy := List.getElem?_eq_getElem (l := b) (i := k) hB
      generalize b[k] = y at hy
      rw [dA hx, dB hy, Rg.orI_cons, ← dB hy, ← dA hx] at hall
      refine DrawI.go (.tk 0 (.tk 1 (.tk 2 (.tk 3 (.tk 4 (.tk 5 (.tk 6 (.tk 7 (.tk 8 (.tk 9 (.tk 10 (.tk 11 (.tk 12 (.tk 13 (.tk 14 (.tk 15 (.tk 16 (.tk 17 (.tk 18 (.tk 19 (.tk 20 .done))))))))))))))))))))) (by kernel_rfl) fun w3 h3 => ?_
      have gw3 : Below V.heap.size V w3 := h3.go
      have Sw3 := hS.go (hV.trans (gw3.mono hV.size)) (hV.trans (gw3.mono hV.size)).size
      have Tw3 := hT.go (hV.trans (gw3.mono hV.size)) (hV.trans (gw3.mono hV.size)).size
      refine Branch.no (by simp only [decide_eq_false_iff_not]; omega) ?_
      refine Branch.yes (by simp only [decide_eq_true_eq]; omega) ?_
      refine Sw3.idx hx fun ad1 had1 => ?_
      refine Sw3.ld1 hx had1 (Below.refl _ _) (by simp) ?_
      refine Tw3.idx hy fun ad2 had2 => ?_
      refine Tw3.ld1 hy had2 (Below.refl _ _) (by simp) ?_
      refine Branch.mk (fun z1 => ?_) (fun z1 => ?_)
      · have hxy : x < y := by simpa using z1
        rw [if_pos hxy] at hall
        have hdone : out ++ [x] ++ Rg.orI (a.drop (i + 1)) (b.drop k) = Rg.orI a b := by
          rw [← hall, List.append_assoc]; rfl
        refine Sw3.idx hx fun ad9 had9 => ?_
        refine Sw3.ld1 hx had9 (Below.refl _ _) (by simp) ?_
        have lp3 : Lp ⟨w, w.heap.size, Nat.le_refl _⟩ [w] [] TKi base w3 (.slice ao out.length co) out := lpB gw3
        have gV := gw3.size
        refine NewI.mk fun b1 hb1 => ?_
        have hb1' : w3.heap.size ≤ b1 := hb1
        refine GenN.appL (α := Int) elIn lp3 (fun y hy => .inr (by simp at hy; omega)) (by simp) [x] (fun w8 h8 => src_own h8 0 rfl rfl rfl rfl) (by simp; omega) (by decide) fun a' c' w8 w9 h8 lp9 hsz hbl => ?_
        refine Need.mk (by simp only [inK]; omega) (EndI.mk fun w10 h10 => ⟨(i + 1, k, w10, .slice a' (out ++ [x]).length c', out ++ [x]), Cov.mk (by repeat' (first | exact trivial | refine And.intro rfl ?_)) rfl rfl rfl rfl rfl, rfl, ⟨by simp only; omega, by simp only; omega, h10.below, by simp only [List.length_append, List.length_cons, List.length_nil]; omega, hdone, base, lp9.at h10 (by simp)⟩, by simp only; omega⟩)
      have hxy : ¬ x < y := by simpa using z1
      rw [if_neg hxy] at hall
      refine DrawI.go (.tk 0 (.tk 1 (.tk 2 (.tk 3 (.tk 4 (.tk 5 (.tk 6 (.tk 7 (.tk 8 (.tk 9 (.tk 10 (.tk 11 (.tk 12 (.tk 13 (.tk 14 .done))))))))))))))) (by kernel_rfl) fun w4 h4 => ?_
      have gw4 : Below V.heap.size V w4 := gw3.trans (h4.go.mono gw3.size)
      have Sw4 := hS.go (hV.trans (gw4.mono hV.size)) (hV.trans (gw4.mono hV.size)).size
      have Tw4 := hT.go (hV.trans (gw4.mono hV.size)) (hV.trans (gw4.mono hV.size)).size
      refine Branch.yes (by simp only [decide_eq_true_eq]; omega) ?_
      refine Sw4.idx hx fun ad3 had3 => ?_
      refine Sw4.ld1 hx had3 (Below.refl _ _) (by simp) ?_
      refine Tw4.idx hy fun ad4 had4 => ?_
      refine Tw4.ld1 hy had4 (Below.refl _ _) (by simp) ?_
      refine Branch.mk (fun z2 => ?_) (fun z2 => ?_)
      · have he : x = y := by simpa using z2
        rw [if_pos he] at hall
        have hdone : out ++ [y] ++ Rg.orI (a.drop (i + 1)) (b.drop (k + 1)) = Rg.orI a b := by
          rw [← hall, List.append_assoc]; rfl
        refine Need.mk (by simp only [inK]; omega) ?_
        refine Tw4.idx hy fun ad9 had9 => ?_
        refine Tw4.ld1 hy had9 (Below.refl _ _) (by simp) ?_
        have lp3 : Lp ⟨w, w.heap.size, Nat.le_refl _⟩ [w] [] TKi base w4 (.slice ao out.length co) out := lpB gw4
        have gV := gw4.size
        refine NewI.mk fun b1 hb1 => ?_
        have hb1' : w4.heap.size ≤ b1 := hb1
        refine GenN.appL (α := Int) elIn lp3 (fun y hy => .inr (by simp at hy; omega)) (by simp) [y] (fun w8 h8 => src_own h8 0 rfl rfl rfl rfl) (by simp; omega) (by decide) fun a' c' w8 w9 h8 lp9 hsz hbl => ?_
        refine Need.mk (by simp only [inK]; omega) (EndI.mk fun w10 h10 => ⟨(i + 1, k + 1, w10, .slice a' (out ++ [y]).length c', out ++ [y]), Cov.mk (by repeat' (first | exact trivial | refine And.intro rfl ?_)) rfl rfl rfl rfl rfl, rfl, ⟨by simp only; omega, by simp only; omega, h10.below, by simp only [List.length_append, List.length_cons, List.length_nil]; omega, hdone, base, lp9.at h10 (by simp)⟩, by simp only; omega⟩)
      · have he : ¬ x = y := by simpa using z2
        rw [if_neg he] at hall
        have hdone : out ++ [y] ++ Rg.orI (a.drop i) (b.drop (k + 1)) = Rg.orI a b := by
          rw [← hall, List.append_assoc]; rfl
        refine Tw4.idx hy fun ad9 had9 => ?_
        refine Tw4.ld1 hy had9 (Below.refl _ _) (by simp) ?_
        have lp3 : Lp ⟨w, w.heap.size, Nat.le_refl _⟩ [w] [] TKi base w4 (.slice ao out.length co) out := lpB gw4
        have gV := gw4.size
        refine NewI.mk fun b1 hb1 => ?_
        have hb1' : w4.heap.size ≤ b1 := hb1
        refine GenN.appL (α := Int) elIn lp3 (fun y hy => .inr (by simp at hy; omega)) (by simp) [y] (fun w8 h8 => src_own h8 0 rfl rfl rfl rfl) (by simp; omega) (by decide) fun a' c' w8 w9 h8 lp9 hsz hbl => ?_
        refine Need.mk (by simp only [inK]; omega) (EndI.mk fun w10 h10 => ⟨(i, k + 1, w10, .slice a' (out ++ [y]).length c', out ++ [y]), Cov.mk (by repeat' (first | exact trivial | refine And.intro rfl ?_)) rfl rfl rfl rfl rfl, rfl, ⟨by simp only; omega, by simp only; omega, h10.below, by simp only [List.length_append, List.length_cons, List.length_nil]; omega, hdone, base, lp9.at h10 (by simp)⟩, by simp only; omega⟩)
  case neg =>
    have hia : i = a.length := by omega
    refine Branch.no (by simp only [decide_eq_false_iff_not]; omega) ?_
    refine Branch.mk (fun z0 => ?_) (fun z0 => ?_)
    · have hB : k < b.length := by have := of_decide_eq_true z0; simp only at this; omega
      have hy := List.getElem?_eq_getElem (l := b) (i := k) hB
      generalize b[k] = y at hy
      have hdone : out ++ [y] ++ Rg.orI (a.drop i) (b.drop (k + 1)) = Rg.orI a b := by
        rw [← hall, dB hy, hia, List.drop_length, Rg.orI_nil, Rg.orI_nil, List.append_assoc]; rfl
      refine DrawI.go (.tk 0 (.tk 1 (.tk 2 (.tk 3 (.tk 4 (.tk 5 (.tk 6 (.tk 7 (.tk 8 (.tk 9 (.tk 10 (.tk 11 (.tk 12 (.tk 13 (.tk 14 (.tk 15 (.tk 16 (.tk 17 (.tk 18 (.tk 19 (.tk 20 .done))))))))))))))))))))) (by kernel_rfl) fun w3 h3 => ?_
      have gw3 : Below V.heap.size V w3 := h3.go
      have Sw3 := hS.go (hV.trans (gw3.mono hV.size)) (hV.trans (gw3.mono hV.size)).size
      have Tw3 := hT.go (hV.trans (gw3.mono hV.size)) (hV.trans (gw3.mono hV.size)).size
      refine Branch.no (by simp only [decide_eq_false_iff_not]; omega) ?_
      refine Branch.no (by simp only [decide_eq_false_iff_not]; omega) ?_
      refine DrawI.go (.tk 0 (.tk 1 (.tk 2 (.tk 3 (.tk 4 (.tk 5 (.tk 6 (.tk 7 (.tk 8 (.tk 9 (.tk 10 (.tk 11 (.tk 12 (.tk 13 (.tk 14 .done))))))))))))))) (by kernel_rfl) fun w4 h4 => ?_
      have gw4 : Below V.heap.size V w4 := gw3.trans (h4.go.mono gw3.size)
      have Sw4 := hS.go (hV.trans (gw4.mono hV.size)) (hV.trans (gw4.mono hV.size)).size
      have Tw4 := hT.go (hV.trans (gw4.mono hV.size)) (hV.trans (gw4.mono hV.size)).size
      refine Branch.no (by simp only [decide_eq_false_iff_not]; omega) ?_
      refine Tw4.idx hy fun ad9 had9 => ?_
      refine Tw4.ld1 hy had9 (Below.refl _ _) (by simp) ?_
      have lp3 : Lp ⟨w, w.heap.size, Nat.le_refl _⟩ [w] [] TKi base w4 (.slice ao out.length co) out := lpB gw4
      have gV := gw4.size
      refine NewI.mk fun b1 hb1 => ?_
      have hb1' : w4.heap.size ≤ b1 := hb1
      refine GenN.appL (α := Int) elIn lp3 (fun y hy => .inr (by simp at hy; omega)) (by simp) [y] (fun w8 h8 => src_own h8 0 rfl rfl rfl rfl) (by simp; omega) (by decide) fun a' c' w8 w9 h8 lp9 hsz hbl => ?_
      refine Need.mk (by simp only [inK]; omega) (EndI.mk fun w10 h10 => ⟨(i, k + 1, w10, .slice a' (out ++ [y]).length c', out ++ [y]), Cov.mk (by repeat' (first | exact trivial | refine And.intro rfl ?_)) rfl rfl rfl rfl rfl, rfl, ⟨by simp only; omega, by simp only; omega, h10.below, by simp only [List.length_append, List.length_cons, List.length_nil]; omega, hdone, base, lp9.at h10 (by simp)⟩, by simp only; omega⟩)
    · have hkb : k = b.length := by have := of_decide_eq_false z0; simp only at this; omega
      rw [hia, hkb, List.drop_length, List.drop_length, Rg.orI_nil, List.append_nil] at hall
      refine EndI.mk fun w10 h10 => ?_
      rw [← hall]
      exact (lp.at h10 (by simp)).own.lower (lp.anc w (by simp))
namespace Rg
end Rg
set_option maxHeartbeats 2000000 in
theorem rand14_any (a b : List Int) (ha : a.length ≤ 400000) (hb : b.length ≤ 400000) (pa pb : Option Addr) (ca cb : Nat) (w : World) (hS : Sl w.heap.size w (.slice pa a.length ca) a) (hT : Sl w.heap.size w (.slice pb b.length cb) b) :
    Calls Tryz.prog 28 #[.slice pa a.length ca, .slice pb b.length cb] w (Ret w fun v w' => Own TKi w.heap.size w' v (Rg.andI a b)) := by
  refine fun_ret 0 w Tryz.func28 (args := [.val (.slice pa a.length ca), .val (.slice pb b.length cb)]) rfl rfl ?_
  have st := Stay.first (w := w)
  refine LoopI.invC (α := Nat × Nat × World × Value × List Int) (fun y => [(7, .val (.int .i64 y.1)), (6, .val (.int .i64 y.2.1)), (5, .val y.2.2.2.1)]) (fun y => y.2.2.1) (fun y => y.1 ≤ a.length ∧ y.2.1 ≤ b.length ∧ Below w.heap.size w y.2.2.1 ∧ y.2.2.2.2.length ≤ y.1 ∧ y.2.2.2.2 ++ Rg.andI (a.drop y.1) (b.drop y.2.1) = Rg.andI a b ∧ ∃ base, Lp ⟨w, w.heap.size, Nat.le_refl _⟩ [w] [] TKi base y.2.2.1 y.2.2.2.1 y.2.2.2.2) (fun y => a.length - y.1) ?_ ?_
  · intro w1 h1
    exact ⟨(0, 0, w1, .slice none 0 0, []), Cov.mk (by repeat' (first | exact trivial | refine And.intro rfl ?_)) rfl rfl rfl rfl rfl, rfl, Nat.zero_le _, Nat.zero_le _, h1.below, by simp, rfl, _, Lp.start st h1 (by simp)⟩
  rintro ⟨i, k, V, ov, out⟩ ⟨hi, hk, hV, hle, hall, base, lp⟩
  simp only at hi hk hV hle hall lp
  obtain ⟨ao, co, rfl⟩ := lp.own.form
  have lpB : ∀ {w1 : World}, Below V.heap.size V w1 → Lp ⟨w, w.heap.size, Nat.le_refl _⟩ [w] [] TKi base w1 (.slice ao out.length co) out := fun h => lp.go h
  refine Branch.mk (fun z0 => ?_) (fun z0 => ?_)
  case refine_2 =>
    have hia : i = a.length := by have := of_decide_eq_false z0; simp only at this; omega
    rw [hia, List.drop_length] at hall
    have hall : out = Rg.andI a b := by rw [← hall]; simp [Rg.andI]
    refine EndI.mk fun w10 h10 => ?_
    rw [← hall]
    exact (lp.at h10 (by simp)).own.lower (lp.anc w (by simp))
  have hA : i < a.length := by have := of_decide_eq_true z0; simp only at this; omega
  have hx := List.getElem?_eq_getElem (l := a) (i := i) hA
  have dA : a.drop i = a[i] :: a.drop (i + 1) := List.drop_eq_getElem_cons hA
  generalize a[i] = x at hx dA
  rw [dA, Rg.andI_cons] at hall
  refine LoopI.invC (α := Nat × World) (fun y => [(6, .val (.int .i64 y.1))]) (fun y => y.2) (fun y => y.1 ≤ b.length ∧ Below V.heap.size V y.2 ∧ (b.drop y.1).dropWhile (fun y => decide (y < x)) = (b.drop k).dropWhile (fun y => decide (y < x))) (fun y => b.length - y.1) ?_ ?_
  · intro w1 h1
    exact ⟨(k, w1), Cov.mk (by repeat' (first | exact trivial | refine And.intro rfl ?_)) rfl rfl rfl rfl rfl, rfl, hk, h1.go, rfl⟩
  rintro ⟨q, U⟩ ⟨hq, hU, hD⟩
  simp only at hq hU hD
  refine DrawI.go (.tk 0 (.tk 1 (.tk 2 (.tk 3 (.tk 4 (.tk 5 (.tk 6 (.tk 7 (.tk 8 (.tk 9 (.tk 10 (.tk 11 (.tk 12 (.tk 13 (.tk 14 .done))))))))))))))) (by kernel_rfl) fun w3 h3 => ?_
  have g3 : Below V.heap.size V w3 := hU.trans (h3.go.mono hU.size)
  have S3 := hS.go (hV.trans (g3.mono hV.size)) (hV.trans (g3.mono hV.size)).size
  have T3 := hT.go (hV.trans (g3.mono hV.size)) (hV.trans (g3.mono hV.size)).size
  refine Branch.mk (fun z1 => ?_) (fun z1 => ?_)
  case refine_2 =>
    have hqb : q = b.length := by have := of_decide_eq_false z1; simp only at this; omega
    rw [hqb, List.drop_length] at hD
    rw [← hD] at hall
    have hall : out ++ Rg.andI (a.drop (i + 1)) (b.drop q) = Rg.andI a b := by rw [← hall, hqb, List.drop_length]; simp
    refine DrawI.go (.tk 0 (.tk 1 (.tk 2 (.tk 3 (.tk 4 (.tk 5 (.tk 6 (.tk 7 (.tk 8 (.tk 9 (.tk 10 (.tk 11 (.tk 12 (.tk 13 (.tk 14 .done))))))))))))))) (by kernel_rfl) fun w4 h4 => ?_
    have g4 : Below V.heap.size V w4 := g3.trans (h4.go.mono g3.size)
    refine Branch.no (by simp only [decide_eq_false_iff_not]; omega) ?_
    refine Need.mk (by simp only [inK]; omega) (EndI.mk fun w10 h10 => ⟨(i + 1, q, w10, .slice ao out.length co, out), Cov.mk (by repeat' (first | exact trivial | refine And.intro rfl ?_)) rfl rfl rfl rfl rfl, rfl, ⟨by simp only; omega, by simp only; omega, h10.below, by simp only; omega, hall, base, (lpB g4).at h10 (by simp)⟩, by simp only; omega⟩)
  have hB : q < b.length := by have := of_decide_eq_true z1; simp only at this; omega
  have hy := List.getElem?_eq_getElem (l := b) (i := q) hB
  have dB : b.drop q = b[q] :: b.drop (q + 1) := List.drop_eq_getElem_cons hB
  generalize b[q] = y at hy dB
  refine T3.idx hy fun ad2 had2 => ?_
  refine T3.ld1 hy had2 (Below.refl _ _) (by simp) ?_
  refine S3.idx hx fun ad1 had1 => ?_
  refine S3.ld1 hx had1 (Below.refl _ _) (by simp) ?_
  refine Branch.mk (fun z2 => ?_) (fun z2 => ?_)
  · have hyx : y < x := by simpa using z2
    rw [dB, List.dropWhile_cons, if_pos (by simpa using hyx)] at hD
    refine Need.mk (by simp only [inK]; omega) (EndI.mk fun w10 h10 => ⟨(q + 1, w10), Cov.mk (by repeat' (first | exact trivial | refine And.intro rfl ?_)) rfl rfl rfl rfl rfl, rfl, ⟨by simp only; omega, g3.trans (h10.go.mono g3.size), hD⟩, by simp only; omega⟩)
  have hyx : ¬ y < x := by simpa using z2
  rw [dB, List.dropWhile_cons, if_neg (by simpa using hyx)] at hD
  rw [← hD, List.head?_cons, ← dB] at hall
  refine DrawI.go (.tk 0 (.tk 1 (.tk 2 (.tk 3 (.tk 4 (.tk 5 (.tk 6 (.tk 7 (.tk 8 (.tk 9 (.tk 10 (.tk 11 (.tk 12 (.tk 13 (.tk 14 .done))))))))))))))) (by kernel_rfl) fun w4 h4 => ?_
  have g4 : Below V.heap.size V w4 := g3.trans (h4.go.mono g3.size)
  have S4 := hS.go (hV.trans (g4.mono hV.size)) (hV.trans (g4.mono hV.size)).size
  have T4 := hT.go (hV.trans (g4.mono hV.size)) (hV.trans (g4.mono hV.size)).size
  refine Branch.yes (by simp only [decide_eq_true_eq]; omega) ?_
  refine T4.idx hy fun ad3 had3 => ?_
  refine T4.ld1 hy had3 (Below.refl _ _) (by simp) ?_
  refine S4.idx hx fun ad4 had4 => ?_
  refine S4.ld1 hx had4 (Below.refl _ _) (by simp) ?_
  refine Branch.mk (fun z3 => ?_) (fun z3 => ?_)
  · have he : y = x := by simpa using z3
    rw [if_pos (by rw [he])] at hall
    have hdone : out ++ [x] ++ Rg.andI (a.drop (i + 1)) (b.drop q) = Rg.andI a b := by rw [← hall, List.append_assoc]; rfl
    refine S4.idx hx fun ad9 had9 => ?_
    refine S4.ld1 hx had9 (Below.refl _ _) (by simp) ?_
    have gV := g4.size
    refine NewI.mk fun b1 hb1 => ?_
    have hb1' : w4.heap.size ≤ b1 := hb1
    refine GenN.appL (α := Int) elIn (lpB g4) (fun y hy => .inr (by simp at hy; omega)) (by simp) [x] (fun w8 h8 => src_own h8 0 rfl rfl rfl rfl) (by simp; omega) (by decide) fun a' c' w8 w9 h8 lp9 hsz hbl => ?_
    refine Need.mk (by simp only [inK]; omega) (EndI.mk fun w10 h10 => ⟨(i + 1, q, w10, .slice a' (out ++ [x]).length c', out ++ [x]), Cov.mk (by repeat' (first | exact trivial | refine And.intro rfl ?_)) rfl rfl rfl rfl rfl, rfl, ⟨by simp only; omega, by simp only; omega, h10.below, by simp only [List.length_append, List.length_cons, List.length_nil]; omega, hdone, base, lp9.at h10 (by simp)⟩, by simp only; omega⟩)
  · have he : ¬ y = x := by simpa using z3
    rw [if_neg (fun h => he (by injection h))] at hall
    refine Need.mk (by simp only [inK]; omega) (EndI.mk fun w10 h10 => ⟨(i + 1, q, w10, .slice ao out.length co, out), Cov.mk (by repeat' (first | exact trivial | refine And.intro rfl ?_)) rfl rfl rfl rfl rfl, rfl, ⟨by simp only; omega, by simp only; omega, h10.below, by simp only; omega, hall, base, (lpB g4).at h10 (by simp)⟩, by simp only; omega⟩)
end Go.Proofs.YtjbhpfmnfdebkaaGreat

namespace Go.Proofs.YtjbhpfmnfdebkaaGreat
set_option linter.unusedVariables false
set_option linter.unusedSimpArgs false
open Go.RowKit Go.Proofs.YtjbhpfmnfdebkaaGreat.Eng Enc
namespace Ky
open Dbm Mi Cv Zs
theorem or_rl {a b : List Zn} (h : (Zs.or a b).2 = 0) {long : Int} (hl : 1 ≤ long ∧ long ≤ 16) : Rg.orI (rl a long) (rl b long) = rl (Zs.or a b).1 long := by
  obtain ⟨h0, h1, h2⟩ := or_ok h
  obtain ⟨c1, c2⟩ := checked2 h0
  refine rising_eq (Rg.orI_rising _ _ _ (Nat.le_refl _) (rl_rising _ _) (rl_rising _ _)) (rl_rising _ _) fun x => ?_
  rw [Rg.mem_orI _ _ _ (Nat.le_refl _), mem_rl c1 hl, mem_rl c2 hl, mem_rl h1.2.1 hl, h2]
  constructor
  · rintro (⟨p, q⟩ | ⟨p, q⟩)
    · exact ⟨p, .inl q⟩
    · exact ⟨p, .inr q⟩
  · rintro ⟨p, q | q⟩
    · exact .inl ⟨p, q⟩
    · exact .inr ⟨p, q⟩
theorem and_rl {a b : List Zn} (h : (Zs.and a b).2 = 0) {long : Int} (hl : 1 ≤ long ∧ long ≤ 16) : Rg.andI (rl a long) (rl b long) = rl (Zs.and a b).1 long := by
  obtain ⟨h0, h1, h2⟩ := and_ok h
  obtain ⟨c1, c2⟩ := checked2 h0
  refine rising_eq ((rl_rising a long).sublist (Rg.andI_sub _ _)) (rl_rising _ _) fun x => ?_
  rw [Rg.mem_andI _ _ (rl_rising _ _) (rl_rising _ _), mem_rl c1 hl, mem_rl c2 hl, mem_rl h1.2.1 hl, h2]
  constructor
  · rintro ⟨⟨p, q⟩, _, r⟩
    exact ⟨p, q, r⟩
  · rintro ⟨p, q, r⟩
    exact ⟨⟨p, q⟩, p, r⟩
theorem filt_rl {a m : List Zn} {f : Int → Bool} {long : Int} (hl : 1 ≤ long ∧ long ≤ 16) (ha : ∀ z, z ∈ a → Zo.chk z = 0) (hm : ∀ z, z ∈ m → Zo.chk z = 0) (h : ∀ n, n ∈ regs long → (Pts m (rep n long) ↔ Pts a (rep n long) ∧ f n = true)) : (rl a long).filter f = rl m long := by
  refine rising_eq ((rl_rising a long).sublist List.filter_sublist) (rl_rising _ _) fun x => ?_
  rw [List.mem_filter, mem_rl ha hl, mem_rl hm hl]
  constructor
  · rintro ⟨⟨p, q⟩, r⟩
    exact ⟨p, (h x p).2 ⟨q, r⟩⟩
  · rintro ⟨p, q⟩
    exact ⟨⟨p, ((h x p).1 q).1⟩, ((h x p).1 q).2⟩
theorem regs_in {long n : Int} (hl : 1 ≤ long ∧ long ≤ 16) (h : n ∈ regs long) : 0 ≤ n ∧ n < 3 * (2 * long + 1) * (2 * long + 1) := by
  have := isR_lt (mem_regs.1 h)
  rwa [Rg.many_doc hl] at this
theorem v_den' {a : Rt} (ha : a.ok = true) : (a.den : Rat) ≠ 0 := by
  have oa := Fr.ok_bd ha
  intro h; have : a.den = 0 := by exact_mod_cast h
  omega
theorem win_pts {long n lo hi : Int} (hl : 1 ≤ long ∧ long ≤ 16) (hn : n ∈ regs long) : Rg.winF lo hi long n = true ↔ Wn.InW lo hi (rep n long) := by
  obtain ⟨ht, hu, hnum, h0, r1, r2, r3⟩ := reg_pt hl hn
  have e2 : rep n long 2 = Fr.v (Rg.pt n long).u := tvs_two _ _
  have e0 : rep n long 0 = 0 := tvs_zero _
  obtain ⟨p1, p2, p3⟩ := v_parts hu
  have ob := (Fr.ok_bd hu).1
  have l2 := (Rg.pt_low hl (regs_in hl hn)).2.2.2.2
  unfold Rg.winF Rg.inWin Wn.InW
  rw [e2, e0, Rg.floor_ok hu]
  generalize (Rg.pt n long).u = u at *
  have hv : Fr.v u * (u.den : Rat) = (u.num : Rat) := by
    unfold Fr.v
    have : (u.den : Rat) ≠ 0 := by grind
    grind
  have key : ∀ m : Int, (m : Rat) < Fr.v u ↔ m * u.den < u.num := fun m => by
    have h1 : ((m * u.den : Int) : Rat) < ((u.num : Int) : Rat) ↔ m * u.den < u.num := by exact_mod_cast Iff.rfl
    rw [← h1]
    push_cast
    rw [← hv]
    exact (Rat.mul_lt_mul_right p3).symm
  have key2 : ∀ m : Int, Fr.v u ≤ (m : Rat) ↔ u.num ≤ m * u.den := fun m => by
    have := key m
    constructor
    · intro h
      apply Classical.byContradiction
      intro h2
      have h3 := this.2 (by omega)
      grind
    · intro h
      apply Classical.byContradiction
      intro h2
      have h3 := this.1 (by grind)
      omega
  have hz : Fr.v u - 0 = Fr.v u := by grind
  rw [hz, key lo, key2 hi]
  have hcop : Int.gcd u.num u.den = 1 := by
    have h := hu
    unfold Rt.ok Fr.okB at h
    simp only [Bool.and_eq_true, decide_eq_true_eq] at h
    exact h.2
  have hnd : ∀ d : Int, 2 ≤ d → u.den = d → ¬ u.num % d = 0 := fun d h2 hd h => by
    have h3 : d ∣ (Int.gcd u.num u.den : Int) := Int.dvd_coe_gcd (Int.dvd_of_emod_eq_zero h) (by rw [hd]; exact Int.dvd_refl _)
    rw [hcop] at h3
    have := Int.le_of_dvd (by decide) h3
    omega
  simp only [Bool.and_eq_true, Bool.or_eq_true, decide_eq_true_eq]
  rcases (by omega : u.den = 1 ∨ u.den = 2 ∨ u.den = 3) with e | e | e
  · rw [e] at p1 ⊢
    omega
  · have := hnd 2 (by omega) e
    rw [e]
    omega
  · have := hnd 3 (by omega) e
    rw [e]
    omega
theorem window_rl {a : List Zn} {lo hi : Int} (h : (Zs.window a lo hi).2 = 0) {long : Int} (hl : 1 ≤ long ∧ long ≤ 16) : Rg.window (rl a long) lo hi long = (rl (Zs.window a lo hi).1 long, 0) := by
  obtain ⟨h1, h2, h3⟩ := window_pts h
  have hc := checked1 (each_ok h).1
  unfold Rg.window
  rw [if_neg (by rw [Rg.fits_iff.2 hl]; decide), if_pos (may_rl hc hl), if_neg (by omega)]
  congr 1
  exact filt_rl hl hc h2.2.1 fun n hn => by rw [h3, win_pts hl hn]
theorem sp_pts {long n : Int} {s : Sp} (hs : Wn.spMay s = true) (hl : 1 ≤ long ∧ long ≤ 16) (hn : n ∈ regs long) : Rg.spF s long n = true ↔ Wn.InS s (rep n long) := by
  obtain ⟨ht, hu, hnum, h0, r1, r2, r3⟩ := reg_pt hl hn
  have hin := regs_in hl hn
  obtain ⟨l1, l2⟩ := Rg.pt_low hl hin
  obtain ⟨gok, _⟩ := Rg.gap_fine hl hin
  have e1 : rep n long 1 = Fr.v (Rg.pt n long).t := tvs_one _ _
  have e2 : rep n long 2 = Fr.v (Rg.pt n long).u := tvs_two _ _
  have hneg := Rg.ok_neg ht (by omega) l1.2.2.2
  have hgv : Fr.v (Rg.gap n long) = rep n long 2 - rep n long 1 := by
    rw [e1, e2]
    unfold Rg.gap
    generalize (Rg.pt n long).u = u at *
    generalize (Rg.pt n long).t = t at *
    have hm : ∀ (x : Rt), 0 ≤ x.num ∧ x.num ≤ 2000 ∧ 1 ≤ x.den ∧ x.den ≤ 3 → x.num ≤ 2000 * x.den ∧ -(2000 * x.den) ≤ x.num := fun x h => by omega
    have sa : Fr.Sm 3 2000 u := ⟨hu, l2.2.2.2, (hm u l2).2, (hm u l2).1⟩
    have sb : Fr.Sm 3 2000 ⟨0 - t.num, t.den⟩ := ⟨hneg, l1.2.2.2, by have := hm t l1; simp only; omega, by have := hm t l1; simp only; omega⟩
    obtain ⟨_, _, h3⟩ := Fr.sum_sm (d := 9) (M := 4000) sa sb (.inl rfl) (by decide) (by decide) (by decide) (by decide) (by decide) (by decide) (by decide)
    unfold Fr.add
    rw [if_pos ⟨hu, hneg⟩]
    have h4 : Fr.v (⟨0 - t.num, t.den⟩ : Rt) = - Fr.v t := by
      unfold Fr.v
      have : ((0 - t.num : Int) : Rat) = - (t.num : Rat) := by push_cast; grind
      simp only
      rw [this]
      have := v_den' ht
      grind
    rw [h4] at h3
    have h5 : ((1 : Int) : Rat) = 1 := rfl
    rw [h5] at h3
    grind
  have d4 : dif 4 (rep n long) = rep n long 2 - rep n long 1 := by rfl
  have d5 : dif 5 (rep n long) = rep n long 1 - rep n long 2 := by rfl
  unfold Rg.spF
  rcases Wn.btw_may hs with ⟨hok, hb⟩ | ⟨hno, hb⟩
  · unfold Wn.InS Rg.inSp
    rw [hb, d4, d5]
    simp only [Bool.and_eq_true]
    rw [Rg.keeps_o (by decide) gok (Rg.be_may hs), Rg.keeps_o gok (by decide) (Rg.ab_may hs), hgv, Rg.v_nought]
    have q1 : (0 : Rat) - (rep n long 2 - rep n long 1) = rep n long 1 - rep n long 2 := by grind
    have q2 : rep n long 2 - rep n long 1 - 0 = rep n long 2 - rep n long 1 := by grind
    rw [q1, q2]
    constructor
    · rintro ⟨h1, h2⟩; exact ⟨trivial, h2, h1⟩
    · rintro ⟨_, h2, h1⟩; exact ⟨h1, h2⟩
  · rw [Rg.sp_none hs hno gok]
    unfold Wn.InS
    rw [hb]
    constructor
    · intro h; cases h
    · rintro ⟨h, _⟩; cases h
theorem within_may {l : List Zn} {s : Sp} (h : (Zs.within l s).2 = 0) : Wn.spMay s = true := by
  obtain ⟨h0, h1, _⟩ := each_ok h
  apply Classical.byContradiction
  intro hs
  have hb : Wn.spMay s = false := by simpa using hs
  have e8 : Wn.within Zs.free s = (Zo.nought, 8) := by
    unfold Wn.within
    rw [if_pos Zs.free_chk, Wn.btw_bad hb, if_neg (by decide)]
  rw [e8] at h1
  rcases h1 with h1 | h1 <;> cases h1
theorem within_rl {a : List Zn} {s : Sp} (h : (Zs.within a s).2 = 0) {long : Int} (hl : 1 ≤ long ∧ long ≤ 16) : Rg.within (rl a long) s long = (rl (Zs.within a s).1 long, 0) := by
  have hs := within_may h
  obtain ⟨h2, h3⟩ := within_pts h
  have hc := checked1 (each_ok h).1
  unfold Rg.within
  rw [if_neg (by rw [Rg.fits_iff.2 hl]; decide), if_pos ⟨may_rl hc hl, hs⟩]
  congr 1
  exact filt_rl hl hc h2.2.1 fun n hn => by rw [h3, sp_pts hs hl hn]
end Ky
end Go.Proofs.YtjbhpfmnfdebkaaGreat

namespace Go.Proofs.YtjbhpfmnfdebkaaGreat
set_option linter.unusedVariables false
set_option linter.unusedSimpArgs false
set_option maxRecDepth 100000
open Go.RowKit Go.Proofs.YtjbhpfmnfdebkaaGreat.Eng Enc

theorem sixths_any (long : Int) (w : World) :
    Calls Tryz.prog 84 #[.int .i64 long] w fun e w' => e = .returned (.func (.func 152) #[] #[.pointer (some ⟨w.heap.size, 0, none⟩)]) ∧ w' = w.alloc (.cells #[.int .i64 long] 3) := by
  go_enter Tryz.func84, Tryz.ntmps84
  go_wp2
  go_ret
  exact ⟨by simp, rfl⟩
namespace Rg
def KpS (n₀ Bs : Nat) (W W' : World) : Prop := Below n₀ W W' ∧ W'.heap[Bs]? = W.heap[Bs]?
def encSx (k : Nat) : List Value := [.agg #[.int .i64 (six k).num, .int .i64 (six k).den]]
abbrev SI (N : Nat) := { k : Nat // k ∈ List.range N }
def sis (N : Nat) : List (SI N) := (List.range N).attach
theorem sis_len (N : Nat) : (sis N).length = N := by simp [sis]
theorem sis_get {N k : Nat} (hk : k < N) : (sis N)[k]? = some ⟨k, List.mem_range.2 hk⟩ := by
  unfold sis
  rw [List.getElem?_eq_getElem (by simpa using hk)]
  simp
theorem sis_step {N k : Nat} (hk : k < N) : (sis N).take (k + 1) = (sis N).take k ++ [⟨k, List.mem_range.2 hk⟩] := by
  rw [List.take_add_one, sis_get hk]; rfl
theorem sis_any (N : Nat) (p : Nat → Bool) : ((sis N).any fun x => p x.1) = (List.range N).any p := by
  have h : (sis N).map (·.1) = List.range N := by unfold sis; simp
  conv => rhs; rw [← h, List.any_map]
  rfl
end Rg
open Rg in
theorem sixths_stops (n Bs n₀ : Nat) (long : Int) (hl : 1 ≤ long ∧ long ≤ 16) (N : Nat) (hN : (N : Int) = 6 * long + 1) (w : World) (hB0 : n₀ ≤ Bs) (hc : w.heap[Bs]? = some (.cells #[.int .i64 long] 3 (0, 0))) :
    SeqStopsB n Tryz.prog 152 #[.pointer (some ⟨Bs, 0, none⟩)] (fun x : SI N => (encSx x.1).toArray) (KpS n₀ Bs) (fun xs => xs = sis N) (fun pre => pre <+: sis N) N Bs n₀ w := fun l J Jx W hW hJ hJx hY h0 => by
  have hsz := hW.size
  have hBl : Bs < w.heap.size := (Array.getElem?_eq_some_iff.1 hc).1
  have hn0 : n₀ ≤ W.heap.size := by omega
  refine (fun_in n n₀ W hn0 Tryz.func152 (args := [.val (.func (.yield l) #[] #[]), .val (.pointer (some ⟨Bs, 0, none⟩))]) (R := fun _ W' => (∃ xs, xs = sis N ∧ J xs W') ∨ (∃ pre, pre <+: sis N ∧ Jx pre W')) rfl rfl ?_).mono ?_
  case refine_2 =>
    rintro e W' ⟨v, rfl, _, h⟩
    exact ⟨⟨_, rfl⟩, h⟩
  have hcW := (hW.block Bs hBl).trans hc
  refine LoadI.mk ⟨.int .i64 long, ⟨by simp [World.cell?, hcW], by simp⟩, ?_⟩
  refine Need.mk (by simp only [inK]; omega) ?_
  refine Need.mk (by simp only [inK]; omega) ?_
  rw [← hN]
  refine LoopI.invC (α := Nat × World) (fun y => [(9, .val (.int .i64 y.1))]) (fun y => y.2) (fun y => y.1 ≤ N ∧ Below n₀ W y.2 ∧ W.heap.size ≤ y.2.heap.size ∧ y.2.heap[Bs]? = some (.cells #[.int .i64 long] 3 (0, 0)) ∧ J ((sis N).take y.1) y.2) (fun y => N - y.1) ?_ ?_
  · intro w1 h1
    have hg := at_below h1 (by simp)
    exact ⟨(0, w1), Cov.mk (by repeat' (first | exact trivial | refine And.intro rfl ?_)) rfl rfl rfl rfl rfl, rfl, Nat.zero_le _, h1.below, h1.size, (hg.block Bs (Nat.lt_of_lt_of_le hBl hsz)).trans hcW, hJ _ _ _ h0 (at_grown h1 (by simp) _)⟩
  rintro ⟨k, V⟩ ⟨hk, hV, hVs, hcV, hj⟩
  simp only at hk hV hVs hcV hj
  refine Branch.mk (fun hc1 => ?_) (fun hc1 => ?_)
  · have hlt : k < N := by have := of_decide_eq_true hc1; simp only at this; omega
    have hsix := Rg.six_at (n := k) (by omega)
    apply CallI.use1
    focus (exact fun w1 h1 => rof_any k 6 (by simp only [inK]; omega) (by simp only [inK]; omega) w1)
    intro w1 v1 h1 hB1
    rw [show Fr.of ((k, V).1 : Int) 6 = (Rg.six k, 0) from hsix.1]
    have hj1 := hJ _ _ _ (hJ _ _ _ hj (at_grown h1 (by simp) (some Bs))) (below_grown hB1 (some Bs))
    have hB01 : Below V.heap.size V v1 := (at_below h1 (by simp)).trans (hB1.mono h1.size)
    have hc1 := (hB01.block Bs (by omega)).trans hcV
    have hw1 : Below n₀ W v1 := hV.trans (hB01.mono (by omega))
    refine NewI.mk fun b4 hb4 => ?_
    have hb4' : v1.heap.size ≤ b4 := hb4
    refine ⟨fun w5 h5 => ?_⟩
    have hg5 := at_grown h5 (fun b hb => by simp at hb; subst hb; exact hb4') (some Bs)
    have hB5 := at_below h5 (fun b hb => by simp at hb; subst hb; exact hb4')
    have hj5 := hJ _ _ _ hj1 hg5
    have hs1 := hB01.size
    have hc5 := (hB5.block Bs (by omega)).trans hc1
    have hw5 : Below n₀ W w5 := hw1.trans (hB5.mono (by omega))
    have hs5 := hB5.size
    refine (hY ((sis N).take k) ⟨k, List.mem_range.2 hlt⟩ w5 hj5 (by rw [List.length_take, sis_len]; omega)).mono ?_
    rintro e v5 (⟨rfl, hj6, hk5⟩ | ⟨rfl, hx5, hk5⟩)
    · refine ⟨_, rfl, hw5.trans hk5.1, ?_⟩
      refine Branch.no rfl ?_
      have hs6 := hk5.1.size
      refine Need.mk (by simp only [inK]; omega) (EndI.mk fun w6 h6 => ⟨(k + 1, w6), Cov.mk (by repeat' (first | exact trivial | refine And.intro rfl ?_)) rfl rfl rfl rfl rfl, rfl, ?_, by simp only; omega⟩)
      have hB6 := at_below h6 (by simp)
      have hc6 := hk5.2.trans hc5
      refine ⟨hlt, (hw5.trans hk5.1).trans (hB6.mono (by omega)), Nat.le_trans (by omega : W.heap.size ≤ v5.heap.size) hB6.size, (hB6.block Bs (Array.getElem?_eq_some_iff.1 hc6).1).trans hc6, ?_⟩
      simp only [sis_step hlt]
      exact hJ _ _ _ hj6 (at_grown h6 (by simp) _)
    · refine ⟨_, rfl, hw5.trans hk5, ?_⟩
      refine Branch.yes rfl ?_
      exact EndI.mk fun w6 h6 => .inr ⟨(sis N).take (k + 1), List.take_prefix _ _, by rw [sis_step hlt]; exact hJx _ _ _ hx5 (at_grown h6 (by simp) _)⟩
  · have hge : k = N := by have := of_decide_eq_false hc1; simp only at this; omega
    subst hge
    exact EndI.mk fun w6 h6 => .inl ⟨_, rfl, by have := hJ _ _ _ hj (at_grown h6 (by simp) (some Bs)); rwa [List.take_of_length_le (by rw [sis_len]; exact Nat.le_refl _)] at this⟩
end Go.Proofs.YtjbhpfmnfdebkaaGreat

namespace Go.Proofs.YtjbhpfmnfdebkaaGreat.Eng
set_option linter.unusedVariables false
set_option linter.unusedSimpArgs false
open Go Go.RowKit Go.Shelf Go.Proofs
theorem LoopI.invM {w0 : Base} {body : (Exit → St → Prop) → St → Prop} {cb : Code} {K : Exit → St → Prop} {fr : Fr} {hp : List LB} {r L : List Nat} {w : World} {df : List Deferred}
    {α : Type} (vals : α → List (Nat × SV)) (wd : α → World) (Dsf : α → List Nat) (Φ : α → Prop) (μ : α → Nat)
    (h0 : ∀ w1, At w0 hp r L w w1 → ∃ x, headK cb (vals x) fr (fun fr' => Cov fr' hp r (marks (Dsf x)) ⟨fr, hp, r, L, w, df⟩) ∧ wd x = w1 ∧ Φ x)
    (h1 : ∀ x, Φ x → headK cb (vals x) fr fun fr' => body
        (fun e s2 => match e with
          | .normal => s2.on fun fr2 hp2 r2 L2 w2 df2 => EndI w0 hp2 r2 L2 w2 undef fun _ w1 => ∃ y, headK cb (vals y) fr (fun fr' => Cov fr' hp r (marks (Dsf y)) ⟨fr2, hp2, r2, L2, w2, df2⟩) ∧ wd y = w1 ∧ Φ y ∧ μ y < μ x
          | e => K e s2) ⟨fr', hp, r, [], wd x, marks (Dsf x)⟩) : LoopI w0 body cb K ⟨fr, hp, r, L, w, df⟩ := ⟨0, α, vals, fun _ => hp, wd, fun x => marks (Dsf x), Φ, μ, h0, h1⟩
end Go.Proofs.YtjbhpfmnfdebkaaGreat.Eng

namespace Go.Proofs.YtjbhpfmnfdebkaaGreat
set_option linter.unusedVariables false
set_option linter.unusedSimpArgs false
set_option maxRecDepth 100000
open Go.RowKit Go.Shelf Go.Proofs.YtjbhpfmnfdebkaaGreat.Eng Enc

namespace Rg
def hitS (a b : List Int) (long x : Int) (n : Nat) : Bool := decide (number ⟨(pt x long).t, six n⟩ long ∈ a) && decide (number ⟨six n, (pt x long).u⟩ long ∈ b)
structure CSit (w : World) (B1 B2 B : Nat) (na nb nc : Nat) (a b : List Int) (g : Int → Bool) (Ds : List Nat) (W : World) : Prop where
  below : Below w.heap.size w W
  m1 : MSet W B1 na fun x => decide (x ∈ a)
  m2 : MSet W B2 nb fun x => decide (x ∈ b)
  m : MSet W B nc g
  ds : ∀ D, D ∈ Ds → w.heap.size ≤ D ∧ D < W.heap.size ∧ W.heap[D]? = some (.deferred (some []))
theorem CSit.go {w W X : World} {B1 B2 B na nb nc : Nat} {a b : List Int} {g : Int → Bool} {Ds : List Nat} (h : CSit w B1 B2 B na nb nc a b g Ds W) (hB : Below W.heap.size W X) : CSit w B1 B2 B na nb nc a b g Ds X :=
  ⟨h.below.trans (hB.mono h.below.size), h.m1.below hB, h.m2.below hB, h.m.below hB, fun D hD => by
    obtain ⟨e1, e2, e3⟩ := h.ds D hD
    exact ⟨e1, Nat.lt_of_lt_of_le e2 hB.size, (hB.block D e2).trans e3⟩⟩
theorem CSit.turn {w W X : World} {B1 B2 B na nb nc : Nat} {a b : List Int} {g : Int → Bool} {Ds : List Nat} (h : CSit w B1 B2 B na nb nc a b g Ds W) {row : Option Nat} (hg : W.grownBy X row) {Bs : Nat} (hr : ∀ r, row = some r → Bs ≤ r) (h1 : B1 < Bs) (h2 : B2 < Bs) (h3 : B < Bs) (h4 : ∀ D, D ∈ Ds → D < Bs) (hw : w.heap.size ≤ Bs) : CSit w B1 B2 B na nb nc a b g Ds X := by
  have same : ∀ q, q < Bs → q < W.heap.size → X.heap[q]? = W.heap[q]? := fun q hq hl => hg.block q hl fun e => by have := hr q e.symm; omega
  refine ⟨⟨hg.os.trans h.below.os, hg.tape.trans h.below.tape, hg.output.trans h.below.output, Nat.le_trans h.below.size hg.size, fun k hk => (same k (by omega) (Nat.lt_of_lt_of_le hk h.below.size)).trans (h.below.block k hk)⟩, h.m1.kept (same _ h1 h.m1.lt), h.m2.kept (same _ h2 h.m2.lt), h.m.kept (same _ h3 h.m.lt), fun D hD => ?_⟩
  obtain ⟨e1, e2, e3⟩ := h.ds D hD
  exact ⟨e1, Nat.lt_of_lt_of_le e2 hg.size, (same D (h4 D hD) e2).trans e3⟩
theorem CSit.at {w0 : Base} {hp : List LB} {r L : List Nat} {w W X : World} {B1 B2 B na nb nc : Nat} {a b : List Int} {g : Int → Bool} {Ds : List Nat} (h : CSit w B1 B2 B na nb nc a b g Ds W) (h1 : At w0 hp r L W X) (hL : ∀ b, b ∈ L → W.heap.size ≤ b) : CSit w B1 B2 B na nb nc a b g Ds X := h.go (at_below h1 hL)
end Rg
theorem number_inK {p : Pt} {long : Int} (hl : 1 ≤ long ∧ long ≤ 16) : inK .i64 (Rg.number p long) := by
  unfold Rg.number
  split
  · simp [inK]
  · rename_i h
    have hcmp : (Fr.cmp p.t p.u).1 < 0 := by omega
    have hpb := Rg.place_bd hcmp
    have hs : 3 ≤ Rg.sides long ∧ Rg.sides long ≤ 33 := by unfold Rg.sides; omega
    have hm := Fr.mul_bd (u := Rg.place p.t) (v := Rg.sides long) (m := 33) (n := 33) (by omega) (by omega) (by omega) (by omega)
    have ho := Rg.order_three p
    simp only [inK]
    omega
theorem MSet.mono {W : World} {b n m : Nat} {f : Int → Bool} (h : MSet W b n f) (hm : n ≤ m) : MSet W b m f := by
  obtain ⟨D, h1, h2⟩ := h; exact ⟨D, h1.mono hm, h2⟩
theorem Own.unm {α : Type} [Enc α] {e : TypeId} {base : Nat} {W X : World} {v : Value} {l : List α} {Ds : List Nat} (h : Own e base W v l) (hu : unmarks W Ds X) (hD : ∀ D, D ∈ Ds → W.heap[D]? = some (.deferred (some []))) : Own e base X v l := by
  obtain ⟨hl, h0 | ⟨g, cap, cur, e1, e2, e3, e4⟩⟩ := id h
  · exact ⟨hl, .inl h0⟩
  · exact ⟨hl, .inr ⟨g, cap, cur, e1, e2, (hu.2.2.2.2 g (fun hm => by have := hD g hm; rw [e3] at this; cases this)).trans e3, e4⟩⟩
theorem regComp_any (a b : List Int) (ha : a.length ≤ 1000000) (hb : b.length ≤ 1000000) (hia : ∀ x, x ∈ a → inK .i64 x) (hib : ∀ x, x ∈ b → inK .i64 x) (long : Int) (pa pb : Option Addr) (ca cb : Nat) (w : World) (hSA : Sl w.heap.size w (.slice pa a.length ca) a) (hSB : Sl w.heap.size w (.slice pb b.length cb) b) :
    Calls Tryz.prog 29 #[.slice pa a.length ca, .slice pb b.length cb, .int .i64 long] w (Ret w fun v w' => ∃ a' c', v = .tuple #[.slice a' (Rg.comp a b long).1.length c', .int .i64 (Rg.comp a b long).2] ∧ Own TKi w.heap.size w' (.slice a' (Rg.comp a b long).1.length c') (Rg.comp a b long).1) := by
  refine fun_ret 9 w Tryz.func29 (args := [.val (.slice pa a.length ca), .val (.slice pb b.length cb), .val (.int .i64 long)]) rfl rfl ?_
  refine NewI.mk fun b5 hb5 => ?_
  apply CallI.use1
  focus (exact fun w1 h1 => many_any long w1)
  intro w1 v1 h1 hB1
  unfold Rg.comp
  refine Branch.mk (fun hc => ?_) (fun hc => ?_)
  · have hf : Rg.fits long = false := by
      cases hf : Rg.fits long with
      | false => rfl
      | true => rw [Rg.many_doc (Rg.fits_iff.1 hf)] at hc; simp at hc
    rw [if_pos hf]
    have : (Rg.many long).2 = 2 := by unfold Rg.many; rw [hf]; rfl
    rw [this]
    exact EndI.mk fun w9 h9 => ⟨_, _, rfl, Own.nil⟩
  have hf : Rg.fits long = true := by
    cases hf : Rg.fits long with
    | true => rfl
    | false => unfold Rg.many at hc; rw [hf] at hc; simp at hc
  have hl := Rg.fits_iff.1 hf
  rw [if_neg (by rw [hf]; decide)]
  have hmany := Rg.many_doc hl
  have hmm := Fr.mul_bd (u := 3 * (2 * long + 1)) (v := 2 * long + 1) (m := 99) (n := 33) (by omega) (by omega) (by omega) (by omega)
  obtain ⟨M, hM⟩ : ∃ M : Nat, (Rg.many long).1 = M := ⟨(Rg.many long).1.toNat, by rw [hmany]; simp only; omega⟩
  have hM4 : M ≤ 3267 := by rw [hmany] at hM; simp only at hM; omega
  rw [hM]
  have hw1 : Below w.heap.size w v1 := h1.below.trans (hB1.mono h1.below.size)
  apply CallI.use
  focus (exact fun w3 h3 => marked_any a ha hia long pa ca w3 (hSA.go h3.below h3.below.size))
  rintro v w3 v3 h3 hB3 hmk
  have hw3 : Below w.heap.size w v3 := h3.below.trans (hB3.mono h3.below.size)
  by_cases hma : Rg.mayL a long = true
  case neg =>
    rw [if_neg hma] at hmk
    subst hmk
    rw [if_neg (fun h => hma h.1)]
    refine NewI.mk fun b10 hb10 => ?_
    apply CallI.use
    focus (exact fun w4 h4 => marked_any b hb hib long pb cb w4 (hSB.go h4.below h4.below.size))
    rintro v w4 v4 h4 hB4 hmk2
    by_cases hmb : Rg.mayL b long = true
    · rw [if_pos hmb] at hmk2
      obtain ⟨bm, rfl, _⟩ := hmk2
      refine NewI.mk fun b12 hb12 => ?_
      refine Branch.yes rfl ?_
      exact EndI.mk fun w9 h9 => ⟨_, _, rfl, Own.nil⟩
    · rw [if_neg hmb] at hmk2
      subst hmk2
      refine NewI.mk fun b12 hb12 => ?_
      refine Branch.yes rfl ?_
      exact EndI.mk fun w9 h9 => ⟨_, _, rfl, Own.nil⟩
  rw [if_pos hma] at hmk
  obtain ⟨B1, rfl, hB1w, hMA⟩ := hmk
  refine NewI.mk fun b10 hb10 => ?_
  have hb10' : v3.heap.size ≤ b10 := hb10
  apply CallI.use
  focus (exact fun w4 h4 => marked_any b hb hib long pb cb w4 (hSB.go h4.below h4.below.size))
  rintro v w4 v4 h4 hB4 hmk2
  by_cases hmb : Rg.mayL b long = true
  case neg =>
    rw [if_neg hmb] at hmk2
    subst hmk2
    rw [if_neg (fun h => hmb h.2)]
    refine NewI.mk fun b12 hb12 => ?_
    refine Branch.no rfl ?_
    refine Branch.yes rfl ?_
    exact EndI.mk fun w9 h9 => ⟨_, _, rfl, Own.nil⟩
  rw [if_pos hmb] at hmk2
  obtain ⟨B2, rfl, hB2w, hMB⟩ := hmk2
  rw [if_pos ⟨hma, hmb⟩]
  refine NewI.mk fun b12 hb12 => ?_
  have hb12' : v4.heap.size ≤ b12 := hb12
  refine Branch.no rfl ?_
  refine Branch.no rfl ?_
  have hMA4 := (hMA.at h4 (fun hm => by have := hMA.lt; have := h3.lt b5 (by simp); simp at hm; omega)).below hB4
  have hw4 : Below w.heap.size w v4 := h4.below.trans (hB4.mono h4.below.size)
  have hs3 := hw3.size
  have hs4 : v3.heap.size ≤ v4.heap.size := Nat.le_trans h4.size hB4.size
  have hmk := hMA4.lt
  have hmk2 := hMB.lt
  refine ⟨fun w5 h5 => ⟨_, _, run_makeMap _ w5, KpOk.ok h5 ((Below.refl _ _).alloc (Nat.le_refl _) _), ?_⟩⟩
  have hms := MSet.made w5
  have hlt12 : b12 < w5.heap.size := h5.lt b12 (by simp)
  have hMA5 := (hMA4.at h5 (fun hm => by simp at hm; omega)).below ((Below.refl _ _).alloc (Nat.le_refl _) (.map #[] 0))
  have hMB5 := (hMB.at h5 (fun hm => by simp at hm; omega)).below ((Below.refl _ _).alloc (Nat.le_refl _) (.map #[] 0))
  have hb6 : Below w.heap.size w (w5.alloc (.map #[] 0)) := h5.below.alloc h5.below.size _
  have hwb : w.heap.size ≤ w5.heap.size := h5.below.size
  have hlt6 : (w5.alloc (.map #[] 0)).heap.size = w5.heap.size + 1 := by simp
  have hs5 : v4.heap.size ≤ w5.heap.size := h5.size
  generalize w5.alloc (.map #[] 0) = w6 at hms hb6 hMA5 hMB5 hlt6 ⊢
  have hB1B : B1 ≠ w5.heap.size := by omega
  have hB2B : B2 ≠ w5.heap.size := by omega
  have hB1B2 : B1 < v3.heap.size ∧ v3.heap.size ≤ B2 + 0 := ⟨hMA.lt, by have := h4.size; omega⟩
  generalize hBdef : w5.heap.size = B at hms hwb hB1B hB2B hlt12 hlt6 hs5 ⊢
  refine NewI.mk fun b14 hb14 => ?_
  have hb14' : w6.heap.size ≤ b14 := hb14
  have hlb5 : b5 < w6.heap.size := by have := h5.lt b5 (by simp); omega
  have hlb10 : b10 < w6.heap.size := by have := h5.lt b10 (by simp); omega
  have hr4 : B ∉ [b5, b10, b12, b14] := fun hm => by
    have := h5.lt b5 (by simp); have := h5.lt b10 (by simp)
    simp at hm; omega
  refine LoopI.invM (α := Nat × World × List Nat) (fun y => [(47, .val (.int .i64 y.1))]) (fun y => y.2.1) (fun y => y.2.2)
    (fun y => y.1 ≤ M ∧ w6.heap.size ≤ y.2.1.heap.size ∧ b14 < y.2.1.heap.size ∧ y.2.2.Nodup ∧ ∃ g, Rg.CSit w B1 B2 B a.length b.length y.1 a b g y.2.2 y.2.1 ∧ ∀ x, g x = (Rg.btw a b long x && decide (x < (y.1 : Int)))) (fun y => M - y.1) ?_ ?_
  · intro w7 h7
    have hnr : ∀ q, q < w6.heap.size → q ≠ b5 → q ≠ b10 → q ≠ b12 → q ∉ [b14, b12, b10, b5] := fun q h1 h2 h3 h4 hm => by simp at hm; omega
    refine ⟨(0, w7, []), Cov.mk (by repeat' (first | exact trivial | refine And.intro rfl ?_)) rfl rfl rfl rfl rfl, rfl, Nat.zero_le _, h7.size, h7.lt b14 (by simp), List.nodup_nil, fun _ => false, ⟨h7.below, ?_, ?_, ?_, fun D hD => by cases hD⟩, fun x => ?_⟩
    · exact hMA5.at h7 (by have := h3.lt b5 (by simp); have := hMA.lt; have := h4.size; have := h4.lt b10 (by simp); simp; omega)
    · exact hMB5.at h7 (by have := h4.lt b5 (by simp); have := h4.lt b10 (by simp); simp; omega)
    · simpa using hms.at h7 (by simp at hr4 ⊢; omega)
    · simp only
      by_cases h : x < 0
      · have : Rg.isR long x = false := by unfold Rg.isR; rw [decide_eq_false (by omega : ¬ 0 ≤ x)]; rfl
        unfold Rg.btw; rw [this]; simp
      · rw [decide_eq_false (by simpa using h)]; simp
  rintro ⟨k, V, Ds⟩ ⟨hk, hV6, hb14V, hnd, g, cs, hg⟩
  simp only at hk hV6 hb14V hnd cs hg
  have hsup : k < M → 0 ≤ (k : Int) ∧ (k : Int) < (Rg.many long).1 := fun hn => by omega
  refine Branch.mk (fun z3 => ?_) (fun z3 => ?_)
  · have hkM : k < M := by have := of_decide_eq_true z3; simp only at this; omega
    obtain ⟨hk0, hk1⟩ := hsup hkM
    have hki : inK .i64 (k : Int) := by simp only [inK]; omega
    obtain ⟨hpins, hpt, hpu⟩ := Rg.pt_fine hl (n := k) ⟨hk0, by rw [hmany] at hk1; exact hk1⟩
    have hR_ : Rg.isR long k = (Rg.point k long).2 := by
      unfold Rg.isR
      rw [decide_eq_true hk0, decide_eq_true hk1]; simp
    -- what comes of it, by number k's own word
    have hstep : ∀ g' : Int → Bool, (∀ x, x ≠ (k : Int) → g' x = g x) → g' k = (g k || Rg.btw a b long k) → ∀ x, g' x = (Rg.btw a b long x && decide (x < ((k + 1 : Nat) : Int))) := fun g' e1 e2 x => by
      by_cases e : x = (k : Int)
      · subst e
        rw [e2, hg, decide_eq_false (by omega : ¬ (k : Int) < (k : Int)), decide_eq_true (by omega : (k : Int) < ((k + 1 : Nat) : Int))]
        simp
      · rw [e1 x e, hg]
        congr 1
        rw [decide_eq_decide]; omega
    refine NewI.mk fun b15 hb15 => ?_
    have hb15' : V.heap.size ≤ b15 := hb15
    apply CallI.use1
    focus (exact fun w7 h7 => point_any k long hl ⟨hk0, hk1⟩ w7)
    intro w7 v7 h7 hB7
    have cs7 := (cs.at h7 (by simp <;> omega)).go hB7
    refine NewI.mk fun b16 hb16 => ?_
    have hb16' : v7.heap.size ≤ b16 := hb16
    have hs7 : V.heap.size ≤ v7.heap.size := Nat.le_trans h7.size hB7.size
    refine Branch.mk (fun z4 => ?_) (fun z4 => ?_)
    · have hno : (Rg.point k long).2 = false := by simpa using z4
      have hbt : Rg.btw a b long k = false := by unfold Rg.btw; rw [hR_, hno]; rfl
      refine Need.mk (by simp only [inK]; omega) (EndI.mk fun w8 h8 => ⟨(k + 1, w8, Ds), Cov.mk (by repeat' (first | exact trivial | refine And.intro rfl ?_)) rfl rfl rfl rfl rfl, rfl, ⟨hkM, ?_, ?_, hnd, g, ?_, hstep g (fun _ _ => rfl) (by rw [hbt, Bool.or_false])⟩, by simp only; omega⟩)
      · exact Nat.le_trans hV6 (Nat.le_trans hs7 h8.size)
      · exact Nat.lt_of_lt_of_le hb14V (Nat.le_trans hs7 h8.size)
      · have := cs7.at h8 (by simp <;> omega)
        exact ⟨this.below, this.m1, this.m2, this.m.mono (by omega), this.ds⟩
    have hyes : (Rg.point k long).2 = true := by simpa using z4
    apply CallI.mk
    intro w8 h8
    refine (sixths_any long w8).mono ?_
    rintro e w9 ⟨rfl, rfl⟩
    have hB1s : Below w8.heap.size w8 (w8.alloc (.cells #[.int .i64 long] 3)) := below_al (Below.refl _ _)
    refine ⟨h8.keep hB1s, _, rfl, ?_⟩
    have hBs : (w8.alloc (.cells #[.int .i64 long] 3)).heap[w8.heap.size]? = some (.cells #[.int .i64 long] 3 (0, 0)) := World.alloc_heap_new w8 _
    have hsz : w8.heap.size < (w8.alloc (.cells #[.int .i64 long] 3)).heap.size := by simp
    have cs9 := (cs7.at h8 (by simp <;> omega)).go hB1s
    have hlb : ∀ b, b ∈ [b5, b10, b12, b14, b15, b16] → b < w8.heap.size := fun b hb => h8.lt b hb
    have hwBs : w.heap.size ≤ w8.heap.size := h8.below.size
    have hs89 : w8.heap.size ≤ (w8.alloc (.cells #[.int .i64 long] 3)).heap.size := hB1s.size
    have hV8 : V.heap.size ≤ w8.heap.size := Nat.le_trans hs7 h8.size
    generalize w8.alloc (.cells #[.int .i64 long] 3) = w9 at hBs hsz hB1s cs9 hs89
    generalize w8.heap.size = Bs at hBs hsz hlb hwBs hs89 hV8
    refine RawI.mk fun ac w10 hR => ?_
    have h10 := hR.at_
    have hB10 := at_below h10 (by simp)
    have cs10 := cs9.go hB10
    have hBs10 : w10.heap[Bs]? = some (.cells #[.int .i64 long] 3 (0, 0)) := (hB10.block Bs hsz).trans hBs
    have hlBs10 : Bs < w10.heap.size := Nat.lt_of_lt_of_le hsz hB10.size
    obtain ⟨N, hN⟩ : ∃ N : Nat, (N : Int) = 6 * long + 1 := ⟨(6 * long + 1).toNat, by omega⟩
    have l1 := cs.m1.lt
    have l2 := cs.m2.lt
    have l3 := cs.m.lt
    have hN97 : N ≤ 97 := by omega
    have hbtw : Rg.btw a b long k = (Rg.sis N).any fun x => Rg.hitS a b long k x.1 := by
      rw [Rg.sis_any N (Rg.hitS a b long k)]
      unfold Rg.btw
      rw [hR_, hyes, Bool.true_and, show (6 * long + 1).toNat = N by omega]
      rfl
    have lD : ∀ D, D ∈ Ds → D < Bs := fun D hD => by have := (cs.ds D hD).2.1; omega
    have hseq := sixths_stops 8 Bs w.heap.size long hl N hN w10 hwBs hBs10
    refine rangeBu (α := Rg.SI N) (encs := fun x : Rg.SI N => Rg.encSx x.1) cxOk (by decide) hR rfl Tryz.call152 hseq hlBs10 (by show w.heap.size ≤ Bs; exact hwBs) (fun hm => by have := hlb Bs hm; omega)
      (fun h k => ⟨h.1.trans k.1, k.2.trans h.2⟩) ?_ (fun x => rfl)
      (γ := Unit) (fun _ => [⟨[.val (.int .i64 long)], 3⟩, ⟨[.val (.map (some B1))], TMi⟩, ⟨[.val (.map (some B2))], TMi⟩, ⟨[.val (.map (some B))], TMi⟩, ⟨[.val (.int .i64 k)], 3⟩, ⟨[.val (.int .i64 (Rg.pt k long).t.num), .val (.int .i64 (Rg.pt k long).t.den), .val (.int .i64 (Rg.pt k long).u.num), .val (.int .i64 (Rg.pt k long).u.den)], 38⟩])
      (fun (pre : List (Rg.SI N)) (_ : Unit) W => Rg.CSit w B1 B2 B a.length b.length k a b g Ds W ∧ (pre.any fun x => Rg.hitS a b long k x.1) = false) ?_ () rfl ⟨cs10, rfl⟩
      (fun (c : Code) (pre : List (Rg.SI N)) (_ : Unit) (W : World) => c = .exit 2 ∧ (pre.any fun x => Rg.hitS a b long k x.1) = true ∧ ∃ g', Rg.CSit w B1 B2 B a.length b.length (k + 1) a b g' Ds W ∧ ∀ x, g' x = (g x || decide (x = (k : Int))))
      (fun _ _ => [⟨[.val (.int .i64 long)], 3⟩, ⟨[.val (.map (some B1))], TMi⟩, ⟨[.val (.map (some B2))], TMi⟩, ⟨[.val (.map (some B))], TMi⟩, ⟨[.val (.int .i64 k)], 3⟩, ⟨[.val (.int .i64 (Rg.pt k long).t.num), .val (.int .i64 (Rg.pt k long).t.den), .val (.int .i64 (Rg.pt k long).u.num), .val (.int .i64 (Rg.pt k long).u.den)], 38⟩])
      ?_ (fun z => [(18, .loc 6 0)]) (fun z => [⟨[.val (.int .i64 (Rg.six z.1).num), .val (.int .i64 (Rg.six z.1).den)], 36⟩]) (fun _ bs => ∀ q, q ∈ bs → w10.heap.size ≤ q) ?asg ?body ?done ?stop
    · exact fun W l o o' hl ho h1 h2 => ⟨⟨rfl, rfl, rfl, by simp, fun k hk => World.putObj_heap_other (by omega)⟩, World.putObj_heap_other (by omega)⟩
    · rintro c pre A C row ⟨hcs, hno⟩ hgr hrow
      exact ⟨hcs.turn hgr (Bs := Bs) (fun r e => by rcases hrow r e with h | ⟨h, _⟩ <;> omega) (by omega) (by omega) (by omega) lD hwBs, hno⟩
    · rintro c q pre A C row ⟨e1, e2, g', hcs, hg'⟩ hgr hrow
      exact ⟨e1, e2, g', hcs.turn hgr (Bs := Bs) (fun r e => by have := (hrow r e).1; omega) (by omega) (by omega) (by omega) lD hwBs, hg'⟩
    case asg =>
      intro l pre z c W hΦ hBW hsW hN1
      refine NewI.mk fun b18 hb18 => ?_
      refine ⟨rfl, [b18], rfl, fun q hq => by rw [List.mem_singleton.1 hq]; exact Nat.le_trans hsW hb18, Need.mk ⟨rfl, rfl, rfl, rfl⟩ (EndI.mk fun w11 h11 => ?_)⟩
      have hgb := at_below h11 (fun b hb => by simp at hb; subst hb; exact hb18)
      exact ⟨below_keepsFrom hgb _, ⟨hgb.mono (Nat.le_trans hwBs (by omega)), hgb.block _ (by omega)⟩, hΦ.1.go hgb, hΦ.2⟩
    case body =>
      intro l pre x c bs W hbs hψ hΦ hBW hsW hN1
      obtain ⟨b18, rfl⟩ := List.length_eq_one_iff.1 hbs
      obtain ⟨hcs, hno⟩ := hΦ
      have hx97 : x.1 < 97 := by have := List.mem_range.1 x.2; omega
      have hsix := Rg.six_ins hx97
      refine DrawI.go (.tk 0 (.tk 1 (.tk 2 (.tk 3 (.tk 4 (.tk 5 (.ev 6 (.ev 7 (.tk 8 (.tk 9 (.tk 10 (.tk 11 (.tk 12 (.tk 13 (.tk 14 (.tk 15 (.ev 16 (.ev 17 (.tk 18 (.tk 19 .done)))))))))))))))))))) (by kernel_rfl) fun w11 h11 => ?_
      have hB11 := at_below h11 (by simp)
      have cs11 := hcs.go hB11
      have hF := hB11
      apply CallI.use1
      focus (exact fun w12 h12 => number_any ⟨(Rg.pt k long).t, Rg.six x.1⟩ long ⟨hpins.1, hsix⟩ hl w12)
      intro w12 v12 h12 hB12
      have hF := h12.from hBW hF (by simp)
      have hF := hF.trans (hB12.mono hF.size)
      have no : (decide (Rg.number ⟨(Rg.pt k long).t, Rg.six x.1⟩ long ∈ a) && decide (Rg.number ⟨Rg.six x.1, (Rg.pt k long).u⟩ long ∈ b)) = false → ((pre ++ [x]).any fun x => Rg.hitS a b long k x.1) = false := fun h => by
        rw [List.any_append, hno, Bool.false_or]
        simpa [Rg.hitS] using h
      have fin : ∀ X, Below W.heap.size W X → KeepsFrom w10.heap.size W X ∧ Rg.KpS w.heap.size Bs W X ∧ Rg.CSit w B1 B2 B a.length b.length k a b g Ds X := fun X hX => ⟨below_keepsFrom hX _, ⟨hX.mono (Nat.le_trans hwBs (by omega)), hX.block _ (by omega)⟩, hcs.go hX⟩
      by_cases k1 : Rg.number ⟨(Rg.pt k long).t, Rg.six x.1⟩ long ∈ a
      case neg =>
        refine ⟨fun w13 h13 => ⟨.int .i64 0, w13, by have := ((hcs.go (h13.from hBW hF (by simp))).m1.look _ (number_inK (p := ⟨(Rg.pt k long).t, Rg.six x.1⟩) hl)); rw [decide_eq_false k1] at this; exact this, KpOk.ok h13 (Below.refl _ _), ?_⟩⟩
        have hF := h13.from hBW hF (by simp)
        refine Branch.no rfl ?_
        refine ⟨(), Need.mk (CovH.mk rfl rfl rfl) (EndI.mk fun w14 h14 => ?_)⟩
        have hF := h14.from hBW hF (by simp)
        obtain ⟨f1, f2, f3⟩ := fin _ hF
        exact ⟨f1, f2, f3, no (by rw [decide_eq_false k1]; rfl)⟩
      refine ⟨fun w13 h13 => ⟨.int .i64 1, w13, by have := ((hcs.go (h13.from hBW hF (by simp))).m1.look _ (number_inK (p := ⟨(Rg.pt k long).t, Rg.six x.1⟩) hl)); rw [decide_eq_true k1] at this; exact this, KpOk.ok h13 (Below.refl _ _), ?_⟩⟩
      have hF := h13.from hBW hF (by simp)
      refine Branch.yes rfl ?_
      apply CallI.use1
      focus (exact fun w14 h14 => number_any ⟨Rg.six x.1, (Rg.pt k long).u⟩ long ⟨hsix, hpins.2⟩ hl w14)
      intro w14 v14 h14 hB14
      have hF := h14.from hBW hF (by simp)
      have hF := hF.trans (hB14.mono hF.size)
      by_cases k2 : Rg.number ⟨Rg.six x.1, (Rg.pt k long).u⟩ long ∈ b
      case neg =>
        refine ⟨fun w15 h15 => ⟨.int .i64 0, w15, by have := ((hcs.go (h15.from hBW hF (by simp))).m2.look _ (number_inK (p := ⟨Rg.six x.1, (Rg.pt k long).u⟩) hl)); rw [decide_eq_false k2] at this; exact this, KpOk.ok h15 (Below.refl _ _), ?_⟩⟩
        have hF := h15.from hBW hF (by simp)
        refine Branch.no rfl ?_
        refine ⟨(), Need.mk (CovH.mk rfl rfl rfl) (EndI.mk fun w16 h16 => ?_)⟩
        have hF := h16.from hBW hF (by simp)
        obtain ⟨f1, f2, f3⟩ := fin _ hF
        exact ⟨f1, f2, f3, no (by rw [decide_eq_false k2, Bool.and_false])⟩
      refine ⟨fun w15 h15 => ⟨.int .i64 1, w15, by have := ((hcs.go (h15.from hBW hF (by simp))).m2.look _ (number_inK (p := ⟨Rg.six x.1, (Rg.pt k long).u⟩) hl)); rw [decide_eq_true k2] at this; exact this, KpOk.ok h15 (Below.refl _ _), ?_⟩⟩
      have hF := h15.from hBW hF (by simp)
      refine Branch.yes rfl ?_
      refine ⟨fun w16 h16 => ?_⟩
      have hF := h16.from hBW hF (by simp)
      have cs16 := hcs.go hF
      obtain ⟨w17, hrun, hput, hgr⟩ := cs16.m.put k hki (by omega)
      have hBr : B ∉ [b5, b10, b12, b14, b15, b16, b18] := fun hm => by
        have h18 := hψ b18 (by simp)
        simp only [List.mem_cons, List.not_mem_nil, or_false, not_or] at hm hr4
        omega
      refine ⟨w17, hrun, keep_grown h16 hgr (fun q hq => by injection hq with hq; subst hq; exact ⟨hwb, hBr⟩), ?_⟩
      refine ⟨(), Need.mk (CovH.mk rfl rfl rfl) (EndI.mk fun w18 h18 => ?_)⟩
      have hB18 := at_below h18 (by simp)
      have hB17 : ∀ q, q < W.heap.size → q ≠ B → w18.heap[q]? = W.heap[q]? := fun q hq hne => (hB18.block q (Nat.lt_of_lt_of_le hq (Nat.le_trans hF.size hgr.size))).trans ((hgr.block q (Nat.lt_of_lt_of_le hq hF.size) (fun e => hne (by injection e))).trans (hF.block q hq))
      have hs18 : W.heap.size ≤ w18.heap.size := Nat.le_trans hF.size (Nat.le_trans hgr.size hB18.size)
      refine ⟨⟨hs18, fun q o hq ho _ => (hB17 q (Array.getElem?_eq_some_iff.1 ho).1 (by omega)).trans ho⟩, rfl, ?_, fun y => g y || decide (y = (k : Int)), ⟨?_, ?_, ?_, ?_, ?_⟩, fun _ => rfl⟩
      · rw [List.any_append]
        simp [Rg.hitS, k1, k2]
      · have hz := cs16.below
        exact ⟨hB18.os.trans (hgr.os.trans hz.os), hB18.tape.trans (hgr.tape.trans hz.tape), hB18.output.trans (hgr.output.trans hz.output), Nat.le_trans hcs.below.size hs18, fun q hq => (hB17 q (Nat.lt_of_lt_of_le hq hcs.below.size) (by omega)).trans (hcs.below.block q hq)⟩
      · exact hcs.m1.kept (hB17 _ hcs.m1.lt hB1B)
      · exact hcs.m2.kept (hB17 _ hcs.m2.lt hB2B)
      · exact hput.below hB18
      · intro D hD
        obtain ⟨e1, e2, e3⟩ := hcs.ds D hD
        have hne : D ≠ B := fun e => by
          subst e
          obtain ⟨_, ⟨_, _, hm, _⟩, _⟩ := hcs.m
          rw [hm] at e3; cases e3
        exact ⟨e1, Nat.lt_of_lt_of_le e2 hs18, (hB17 D e2 hne).trans e3⟩
    case done =>
      rintro D xs c W hD hSx ⟨hcs, hno⟩ hmark
      subst hSx
      have hDW : D < W.heap.size := (Array.getElem?_eq_some_iff.1 hmark).1
      have hbt : Rg.btw a b long k = false := by rw [hbtw, hno]
      refine Need.mk (by simp only [inK]; omega) (EndI.mk fun w11 h11 => ⟨(k + 1, w11, D :: Ds), Cov.mk (by repeat' (first | exact trivial | refine And.intro rfl ?_)) rfl rfl rfl rfl rfl, rfl, ⟨hkM, ?_, ?_, ?_, g, ?_, hstep g (fun _ _ => rfl) (by rw [hbt, Bool.or_false])⟩, by simp only; omega⟩)
      · exact Nat.le_trans (by omega : w6.heap.size ≤ W.heap.size) h11.size
      · exact Nat.lt_of_lt_of_le (by omega : b14 < W.heap.size) h11.size
      · exact List.nodup_cons.2 ⟨fun hm => by have := lD D hm; omega, hnd⟩
      · have c11 := hcs.at h11 (by simp)
        refine ⟨c11.below, c11.m1, c11.m2, c11.m.mono (by omega), fun E hE => ?_⟩
        rcases List.mem_cons.1 hE with rfl | hE
        · exact ⟨by omega, Nat.lt_of_lt_of_le hDW h11.size, (h11.step E hDW (by simp)).trans hmark⟩
        · exact c11.ds E hE
    case stop =>
      rintro D cd e pre q W hD hSp ⟨rfl, hhit, g', hcs, hg'⟩ hex hmark
      injection hex with hex
      subst hex
      have hDW : D < W.heap.size := (Array.getElem?_eq_some_iff.1 hmark).1
      have hbt : Rg.btw a b long k = true := by
        rw [hbtw, List.any_eq_true]
        obtain ⟨x, hx, hxh⟩ := List.any_eq_true.1 hhit
        exact ⟨x, hSp.subset hx, hxh⟩
      refine Need.mk (by simp only [inK]; omega) (EndI.mk fun w11 h11 => ⟨(k + 1, w11, D :: Ds), Cov.mk (by repeat' (first | exact trivial | refine And.intro rfl ?_)) rfl rfl rfl rfl rfl, rfl, ⟨hkM, ?_, ?_, ?_, g', ?_, hstep g' (fun x hx => by rw [hg', decide_eq_false hx, Bool.or_false]) (by rw [hg', hbt, decide_eq_true rfl])⟩, by simp only; omega⟩)
      · exact Nat.le_trans (by omega : w6.heap.size ≤ W.heap.size) h11.size
      · exact Nat.lt_of_lt_of_le (by omega : b14 < W.heap.size) h11.size
      · exact List.nodup_cons.2 ⟨fun hm => by have := lD D hm; omega, hnd⟩
      · have c11 := hcs.at h11 (by simp)
        refine ⟨c11.below, c11.m1, c11.m2, c11.m, fun E hE => ?_⟩
        rcases List.mem_cons.1 hE with rfl | hE
        · exact ⟨by omega, Nat.lt_of_lt_of_le hDW h11.size, (h11.step E hDW (by simp)).trans hmark⟩
        · exact c11.ds E hE
  · have hge : k = M := by have := of_decide_eq_false z3; simp only at this; omega
    subst hge
    have hT : ∀ x, x ∈ Rg.up long (Rg.btw a b long) ↔ g x = true := fun x => by
      have hb2 : ∀ x, Rg.btw a b long x = true → 0 ≤ x ∧ x < (Rg.many long).1 := fun x hx => by
        unfold Rg.btw Rg.isR at hx
        simp only [Bool.and_eq_true, decide_eq_true_eq] at hx
        exact hx.1.1
      rw [Rg.mem_up hb2, hg, Bool.and_eq_true, decide_eq_true_eq]
      exact ⟨fun h => ⟨h, by have := (hb2 x h).2; omega⟩, fun h => h.1⟩
    apply CallI.use
    focus (exact fun w11 h11 => rising_any (n := k) (by omega) (Rg.up long (Rg.btw a b long)) (Rg.up_rising _ _) hT w11 (cs.at h11 (by simp)).m)
    rintro v w11 v11 h11 hB11 hO
    obtain ⟨a11, c11, rfl⟩ := hO.form
    have cs11 := (cs.at h11 (by simp)).go hB11
    conv => whnf
    refine finM_marks (L := []) Ds (l := [.val (.slice a11 (Rg.up long (Rg.btw a b long)).length c11), .val (.int .i64 0)]) (by simp) rfl fun w12 h12 => ⟨hnd, fun D hD => ?_, fun w13 hu => ?_⟩
    · have cs12 := cs11.at h12 (by simp)
      exact ⟨(cs12.ds D hD).1, (cs12.ds D hD).2.2⟩
    · have hO12 := hO.below (at_below h12 (by simp))
      have cs12 := cs11.at h12 (by simp)
      exact ⟨_, _, rfl, (hO12.unm hu fun D hD => (cs12.ds D hD).2.2).lower h11.below.size⟩
end Go.Proofs.YtjbhpfmnfdebkaaGreat

namespace Go.Proofs.YtjbhpfmnfdebkaaGreat
set_option linter.unusedVariables false
set_option linter.unusedSimpArgs false
set_option maxRecDepth 100000
open Go.RowKit Go.Proofs.YtjbhpfmnfdebkaaGreat.Eng Enc

namespace Cl
def oddZ (z : Zn) : Bool := decide (1 < z.b) || decide (0 < z.f)
def odd (l : List Zn) : Bool := l.any oddZ
def chk (old part : List Zn) (cz cr : Int) : Int :=
  if ¬ (1 ≤ cz ∧ cz ≤ 4096) ∨ ¬ (1 ≤ cr ∧ cr ≤ 4096) then 2 else if Zs.check old ≠ 0 ∨ Zs.check part ≠ 0 ∨ odd old = true ∨ odd part = true then 8 else 0
end Cl
end Go.Proofs.YtjbhpfmnfdebkaaGreat

namespace Go.Proofs.YtjbhpfmnfdebkaaGreat
set_option linter.unusedVariables false
set_option linter.unusedSimpArgs false
set_option maxRecDepth 100000
open Go.RowKit Go.Proofs.YtjbhpfmnfdebkaaGreat.Eng Enc

theorem Sl.ldx {α : Type} [Enc α] {n : Nat} {W w : World} {L : List Nat} {a : Option Addr} {ad : Addr} {m cap : Nat} {l : List α} (h : Sl n W (.slice a m cap) l) {k : Nat} {x : α} (hk : l[k]? = some x) (had : a = some ad) (hB : Below n W w) (hL : ∀ b, b ∈ L → n ≤ b) {i : Nat} {c : Value} (hc : (enc x)[i]? = some c) {K : Value → Prop} (hK : K c) :
    LoadI w L ((ad.add ((k : Int).toNat * size α)).add i) K := by
  subst had
  obtain ⟨h1, h2⟩ := h.cell hk hB
  refine ⟨⟨_, ⟨h2 i c hc, fun e => ?_⟩, hK⟩⟩
  have hb : ∀ (q : Addr) (j : Nat), (q.add j).block = q.block := fun q j => by unfold Addr.add; split <;> rfl
  rw [hb, hb] at e
  have := hL _ e; omega
namespace Tb
def may (l : List Zn) : Bool := !Cl.odd l && (decide ((Cv.prune l).2 = 0) && decide (l = (Cv.prune l).1))
end Tb
end Go.Proofs.YtjbhpfmnfdebkaaGreat

namespace Go.Proofs.YtjbhpfmnfdebkaaGreat.Eng
set_option linter.unusedVariables false
set_option linter.unusedSimpArgs false
open Go Go.RowKit Go.Shelf Go.Proofs

section
variable {cx : Cx} {w0 : Base}
def cutD (n : Nat) (cx : Cx) (w0 : Base) : Nat → Code → (St → Prop) → (Exit → St → Prop) → St → Prop
  | 0, _, J, _, s => J s
  | k + 1, .seq a b, J, K, s => codeD Fence.wide n cx w0 a (fun e s' => match e with | .normal => cutD n cx w0 k b J K s' | e => K e s') s
  | _ + 1, _, _, _, _ => False
def sufC : Nat → Code → Code
  | 0, c => c
  | k + 1, .seq _ b => sufC k b
  | _ + 1, c => c
theorem code_wide (hcx : CxOk cx) (n : Nat) (c : Code) {K : Exit → St → Prop} {s : St} {a : Act} {w : World} {Q : Exit → Act → World → Prop} (h : codeD Fence.wide n cx w0 c K s) (hR : Rel w0 s a w) (hQ : ∀ e s' a' w', K e s' → Rel w0 s' a' w' → Q e a' w') : c.wpIn Fence.wide n cx.P Q a w :=
  codeD_sound hcx (fun _ => trivial) rfl (fun n g args w R h => callsIn_wide.2 h) (fun id ops a w Q _ h => wpIn_wide.2 (wp_region_any hcx.mix h)) c _ _ _ _ _ h hR hQ
theorem cutD_sound (hcx : CxOk cx) (n : Nat) {J : St → Prop} {K : Exit → St → Prop} {Q : Exit → Act → World → Prop} : ∀ (k : Nat) (c : Code) (s : St) (a : Act) (w : World), cutD n cx w0 k c J K s → Rel w0 s a w → (∀ s' a' w', J s' → Rel w0 s' a' w' → (sufC k c).wpIn Fence.wide n cx.P Q a' w') → (∀ e s' a' w', K e s' → Rel w0 s' a' w' → Q e a' w') → c.wpIn Fence.wide n cx.P Q a w
  | 0, c, s, a, w, h, hR, hJ, hQ => hJ _ _ _ h hR
  | k + 1, c, s, a, w, h, hR, hJ, hQ => by
    cases c with
    | seq x y =>
      refine wpIn_seq (code_wide hcx n x h hR fun e s' a' w' hK hR' => ?_)
      cases e with
      | normal => exact cutD_sound hcx n k y s' a' w' hK hR' hJ hQ
      | exit id => exact hQ _ _ _ _ hK hR'
      | goto l => exact hQ _ _ _ _ hK hR'
      | ret => exact hQ _ _ _ _ hK hR'
      | panic ch => exact hQ _ _ _ _ hK hR'
      | outgrown => exact hQ _ _ _ _ hK hR'
    | _ => exact h.elim
structure RunS (cx : Cx) (w0 : Base) (n : Nat) (c : Code) (K : Exit → St → Prop) (N : Nat) (vals : List (Nat × SV)) (hp : List LB) (r : List Nat) (w : World) : Prop where
  h : RawI Fence.wide n cx w0 c K ⟨setM (List.replicate N .junk) vals, hp, r, [], w, []⟩
def MeetI (cx : Cx) (w0 : Base) (n : Nat) (c : Code) (K : Exit → St → Prop) (N : Nat) (s : St) : Prop :=
  s.on fun fr2 hp2 r2 L2 w2 df2 => EndI w0 hp2 r2 L2 w2 undef fun _ w1 => ∃ vals hp r, (force (List.replicate N .junk) fun fr => setK vals fr fun fr => Cov fr hp r [] ⟨fr2, hp2, r2, L2, w2, df2⟩) ∧ RunS cx w0 n c K N vals hp r w1
theorem RunS.last (hcx : CxOk cx) {n : Nat} {c : Code} {K : Exit → St → Prop} {N : Nat} {vals : List (Nat × SV)} {hp : List LB} {r : List Nat} {w : World}
    (h : force (List.replicate N .junk) fun fr => setK vals fr fun fr => codeD Fence.wide n cx w0 c K ⟨fr, hp, r, [], w, []⟩) : RunS cx w0 n c K N vals hp r w := by
  rw [force_eq, setK_eq] at h
  exact ⟨⟨fun a w1 hR => code_wide hcx n c h hR fun e s' a' w' hK hR' => ⟨s', hR', hK⟩⟩⟩
theorem cut_raw (hcx : CxOk cx) {n : Nat} (k : Nat) {c : Code} {K : Exit → St → Prop} {N : Nat} {s : St} (h : cutD n cx w0 k c (MeetI cx w0 n (sufC k c) K N) K s) : RawI Fence.wide n cx w0 c K s :=
  ⟨fun a w1 hR => cutD_sound hcx n k c s a w1 h hR (fun s' a' w' hJ hR' => by
    unfold MeetI at hJ
    rw [St.on_eq] at hJ
    obtain ⟨vals, hp, r, hc, hr⟩ := hJ.h w' hR'.at_
    rw [force_eq, setK_eq] at hc
    exact hr.h.h a' w' (cov_rel hR' hc)) fun e s' a' w' hK hR' => ⟨s', hR', hK⟩⟩
theorem RunS.cut (hcx : CxOk cx) {n : Nat} (k : Nat) {c : Code} {K : Exit → St → Prop} {N : Nat} {vals : List (Nat × SV)} {hp : List LB} {r : List Nat} {w : World}
    (h : force (List.replicate N .junk) fun fr => setK vals fr fun fr => cutD n cx w0 k c (MeetI cx w0 n (sufC k c) K N) K ⟨fr, hp, r, [], w, []⟩) : RunS cx w0 n c K N vals hp r w := by
  rw [force_eq, setK_eq] at h
  exact ⟨cut_raw hcx k h⟩
def bodyOf (fn : Func) : Code := fn.body.getD .skip
theorem funC_in (n : Nat) (hcx : CxOk cx) (w0 : Base) {f : FuncId} {fn : Func} {args : List SV} {R : Value → World → Prop} (hf : cx.P.funcs[f]? = some fn) {c : Code} (hb : fn.body = some c)
    (hj : junkyL args = false) (hwf : wfL 0 args = true) (h : RawI Fence.wide n cx w0 c (endM cx w0 fn R) ⟨args ++ List.replicate (fn.ntmps - args.length) (.val undef), [], [], [], w0.W, []⟩) :
    CallsIn Fence.wide n cx.P f (denL [] args).toArray w0.W fun e w' => ∃ v, e = .returned v ∧ Below w0.B w0.W w' ∧ R v w' := by
  refine callsIn_of_wp_marks hf hb trivial ?_ rfl
  have hwide : ∀ (n : Nat) g args w (R : Ending → World → Prop), Calls cx.P g args w R → CallsIn Fence.wide n cx.P g args w R := fun n g args w R h => callsIn_wide.2 h
  have hlen : (denL [] args).toArray.size = args.length := by simp [denL_len]
  have hrel : Rel w0 ⟨args ++ List.replicate (fn.ntmps - args.length) (.val undef), [], [], [], w0.W, []⟩ { tmps := (denL [] args).toArray ++ Array.replicate (fn.ntmps - (denL [] args).toArray.size) undef, defers := [] } w0.W := by
    refine ⟨rfl, fun t => ⟨by simp [denL_len], fun i => ?_⟩, ⟨Below.refl _ _, Nat.le_refl _, fun _ _ _ => rfl, fun i b c hi _ => (by simp at hi), fun b hb => (by cases hb), fun b hb => (by cases hb), Below.refl _ _⟩, fun t i b c hi _ => (by simp at hi), List.nodup_nil, rfl⟩
    right
    rw [hlen]
    have hg : ∀ (l : List SV) i, fget l i = (l[i]?).getD (.val undef) := fun l i => by
      induction l generalizing i with
      | nil => simp [fget]
      | cons a l ih => cases i <;> simp [fget, ih]
    show _ = (fget (args ++ List.replicate (fn.ntmps - args.length) (.val undef)) i).den ([] ++ t)
    rw [hg, Array.getD_eq_getD_getElem?]
    rcases Nat.lt_or_ge i args.length with hi | hi
    · rw [Array.getElem?_append_left (by simpa [denL_len] using hi), List.getElem?_append_left hi]
      have h1 := wfL_get hwf i
      rw [hg, List.getElem?_eq_getElem hi] at h1
      simp only [Option.getD_some] at h1
      simp only [List.getElem?_toArray, denL_eq, List.getElem?_map, List.getElem?_eq_getElem hi, Option.map_some, Option.getD_some]
      exact SV.den_wf (fun j hj => absurd hj (Nat.not_lt_zero j)) _ h1
    · rw [Array.getElem?_append_right (by simpa [denL_len] using hi), List.getElem?_append_right hi]
      simp only [List.size_toArray, denL_len, List.getElem?_replicate, Array.getElem?_replicate]
      split <;> rfl
  refine wpIn_mono (h.h _ _ hrel) fun e a' w' ⟨s', hR', hK⟩ => ?_
  cases e with
  | normal => exact finM_sound hcx hK hR'
  | ret => exact finM_sound hcx hK hR'
  | exit id => exact hK.elim
  | goto l => exact hK.elim
  | panic ch => exact hK.elim
  | outgrown => exact hK.elim
end
theorem fun_cut (n k : Nat) {f : FuncId} {fn : Func} {args : List SV} {x : Value} (w : World) (hf : Tryz.prog.funcs[f]? = some fn) (hb : fn.body = some (bodyOf fn))
    (hj : junkyL args = false) (hwf : wfL 0 args = true)
    (h : force (args ++ List.replicate (fn.ntmps - args.length) (.val undef)) fun fr => cutD n YtjbhpfmnfdebkaaGreat.cx ⟨w, w.heap.size, Nat.le_refl _⟩ k (bodyOf fn) (MeetI YtjbhpfmnfdebkaaGreat.cx ⟨w, w.heap.size, Nat.le_refl _⟩ n (sufC k (bodyOf fn)) (endM YtjbhpfmnfdebkaaGreat.cx ⟨w, w.heap.size, Nat.le_refl _⟩ fn fun v _ => v = x) fn.ntmps) (endM YtjbhpfmnfdebkaaGreat.cx ⟨w, w.heap.size, Nat.le_refl _⟩ fn fun v _ => v = x) ⟨fr, [], [], [], w, []⟩) :
    Calls Tryz.prog f (denL [] args).toArray w fun e w' => e = .returned x ∧ Below w.heap.size w w' := by
  rw [force_eq] at h
  exact ((callsIn_wide (n := n)).1 (funC_in n cxOk ⟨w, w.heap.size, Nat.le_refl _⟩ hf hb hj hwf (cut_raw cxOk k h))).mono fun e w' ⟨v, he, hB, hv⟩ => ⟨hv ▸ he, hB⟩
end Go.Proofs.YtjbhpfmnfdebkaaGreat.Eng

