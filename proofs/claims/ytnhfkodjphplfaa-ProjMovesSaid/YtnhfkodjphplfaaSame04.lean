/-
  The contract of the document's comparison of matrices (rallentandoref04.Same), by the engine.
-/
import Derived.Test.YtnhfkodjphplfaaClose
namespace Go.Proofs.Ytnhfkodjphplfaa
set_option linter.unusedVariables false
set_option linter.unusedSimpArgs false
set_option maxRecDepth 100000
open Go.RowKit Go.Proofs.Ytnhfkodjphplfaa.Eng Enc

def sameB (m n : Int) (L M : List Int) : Bool := decide (m = n) && decide (L = M)
theorem same04_any (m n : Int) (L M : List Int) (a b : Option Addr) (ca cb : Nat) (w : World) (hA : Sl w.heap.size w (.slice a L.length ca) L) (hB : Sl w.heap.size w (.slice b M.length cb) M) :
    Calls Try.prog 12 #[.agg #[.int .i64 m, .slice a L.length ca], .agg #[.int .i64 n, .slice b M.length cb]] w fun e w' => e = .returned (.bool (sameB m n L M)) ∧ Below w.heap.size w w' := by
  obtain ⟨_, _, ea, hca, hma, _⟩ := hA.form
  injection ea with e1 e2 e3
  subst e1; subst e3
  unfold maxLen at hma
  refine fun_eq 0 w Try.func12 (args := [.agg [.val (.int .i64 m), .val (.slice a L.length ca)], .agg [.val (.int .i64 n), .val (.slice b M.length cb)]]) rfl rfl ?_
  refine NewI.mk fun b1 hb1 => ?_
  refine NewI.mk fun b2 hb2 => ?_
  refine Branch.mk (fun hc => ?_) (fun hc => ?_)
  · refine EndI.mk fun w1 h1 => ?_
    have : m ≠ n := by simpa using hc
    simp [sameB, this]
  have hmn : m = n := by simpa using hc
  refine Branch.mk (fun hc => ?_) (fun hc => ?_)
  · refine EndI.mk fun w1 h1 => ?_
    have h1 : (L.length : Int) ≠ M.length := by simpa using hc
    have : L ≠ M := fun e => h1 (by rw [e])
    simp [sameB, this]
  have hlm : L.length = M.length := by have : (L.length : Int) = M.length := by simpa using hc
                                       omega
  refine LoopI.invC (α := Nat × World) (fun y => [(5, .val (.int .i64 y.1))]) (fun y => y.2) (fun y => y.1 ≤ L.length ∧ Below w.heap.size w y.2 ∧ ∀ j, j < y.1 → L[j]? = M[j]?) (fun y => L.length - y.1) ?_ ?_
  · intro w1 h1
    exact ⟨(0, w1), Cov.mk (by repeat' (first | exact trivial | refine And.intro rfl ?_)) rfl rfl rfl rfl rfl, rfl, Nat.zero_le _, h1.below, fun j hj => by omega⟩
  rintro ⟨k, W⟩ ⟨hk, hW, hall⟩
  refine Branch.mk (fun hb => ?_) (fun hb => ?_)
  · have hlt : k < L.length := by simpa using hb
    have hkm : k < M.length := by omega
    refine DrawI.go (.tk 0 (.tk 1 (.tk 2 (.tk 3 (.tk 4 (.tk 5 (.tk 6 (.tk 7 (.tk 8 (.tk 9 (.tk 10 .done))))))))))) (by kernel_rfl) fun w2 h2 => ?_
    refine hA.idx (List.getElem?_eq_getElem hlt) fun ad had => ?_
    refine hA.ld1 (List.getElem?_eq_getElem hlt) had h2.below (by simp) ?_
    refine hB.idx (List.getElem?_eq_getElem hkm) fun bd hbd => ?_
    refine hB.ld1 (List.getElem?_eq_getElem hkm) hbd h2.below (by simp) ?_
    refine Branch.mk (fun hc => ?_) (fun hc => ?_)
    · refine EndI.mk fun w3 h3 => ?_
      have h1 : L[k] ≠ M[k] := by simpa using hc
      have : L ≠ M := fun e => by subst e; exact h1 rfl
      simp [sameB, this]
    · have h1 : L[k] = M[k] := by simpa using hc
      refine Need.mk (by show _ ∧ _; omega) (EndI.mk fun w3 h3 => ⟨(k + 1, w3), Cov.mk (by repeat' (first | exact trivial | refine And.intro rfl ?_)) rfl rfl rfl rfl rfl, rfl, ⟨hlt, h3.below, fun j hj => ?_⟩, by simp only; omega⟩)
      by_cases hjk : j = k
      · subst hjk; rw [List.getElem?_eq_getElem hlt, List.getElem?_eq_getElem hkm, h1]
      · exact hall j (by omega)
  · have hge : k = L.length := by have : ¬ k < L.length := by simpa using hb
                                  omega
    refine EndI.mk fun w3 h3 => ?_
    have : L = M := by
      apply List.ext_getElem?
      intro j
      rcases Nat.lt_or_ge j L.length with h | h
      · exact hall j (by omega)
      · rw [List.getElem?_eq_none h, List.getElem?_eq_none (by omega)]
    simp [sameB, this, hmn]
end Go.Proofs.Ytnhfkodjphplfaa
