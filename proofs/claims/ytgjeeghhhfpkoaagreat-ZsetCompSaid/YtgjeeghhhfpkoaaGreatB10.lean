/-
  Merged texts of this seat (each with its own head below).
-/
import Derived.Test.YtgjeeghhhfpkoaaGreatB6
import Derived.Test.YtgjeeghhhfpkoaaGreatB4
import Derived.Test.YtgjeeghhhfpkoaaGreatB3
import Derived.Test.YtgjeeghhhfpkoaaGreatB5
/-
  Plain laws of compositions: the points of two zones one behind the other. No program is in sight.
-/
namespace Go.Proofs.YtgjeeghhhfpkoaaGreat
set_option linter.unusedVariables false
set_option linter.unusedSimpArgs false
open Go.RowKit Go.Proofs.YtgjeeghhhfpkoaaGreat.Eng Enc
namespace Dbm
/-- one that lies furthest up. -/
theorem top_of : ∀ (l : List (Rat × Bool)), l ≠ [] → ∃ a, a ∈ l ∧ ∀ b, b ∈ l → b.1 < a.1 ∨ (b.1 = a.1 ∧ (b.2 = true → a.2 = true))
  | [], h => absurd rfl h
  | [x], _ => ⟨x, by simp, fun b hb => by rw [List.mem_singleton.1 hb]; exact .inr ⟨rfl, id⟩⟩
  | x :: y :: l, _ => by
    obtain ⟨a, ha, hm⟩ := top_of (y :: l) (by simp)
    by_cases h : a.1 < x.1 ∨ (a.1 = x.1 ∧ (a.2 = true → x.2 = true))
    · refine ⟨x, by simp, fun b hb => ?_⟩
      rcases List.mem_cons.1 hb with rfl | hb
      · exact .inr ⟨rfl, id⟩
      · rcases hm b hb with h1 | ⟨h1, h2⟩
        · rcases h with h3 | ⟨h3, h4⟩
          · exact .inl (by grind)
          · exact .inl (by grind)
        · rcases h with h3 | ⟨h3, h4⟩
          · exact .inl (by grind)
          · exact .inr ⟨h1.trans h3, fun k => h4 (h2 k)⟩
    · refine ⟨a, List.mem_cons_of_mem _ ha, fun b hb => ?_⟩
      rcases List.mem_cons.1 hb with rfl | hb
      · by_cases h1 : b.1 < a.1
        · exact .inl h1
        · have h2 : a.1 = b.1 := by
            apply Classical.byContradiction; intro hne
            exact h (.inl (by grind))
          refine .inr ⟨h2.symm, fun k => ?_⟩
          apply Classical.byContradiction; intro hn
          exact h (.inr ⟨h2, fun _ => k⟩)
      · exact hm b hb
def LoQ (a : Rat × Bool) (s : Rat) : Prop := if a.2 = true then a.1 < s else a.1 ≤ s
def HiQ (a : Rat × Bool) (s : Rat) : Prop := if a.2 = true then s < a.1 else s ≤ a.1
theorem LoQ.mono {a b : Rat × Bool} {s : Rat} (h : LoQ a s) (hb : b.1 < a.1 ∨ (b.1 = a.1 ∧ (b.2 = true → a.2 = true))) : LoQ b s := by
  unfold LoQ at *
  split <;> split at h <;> rcases hb with hb | ⟨hb, hc⟩ <;> first | grind | (rename_i k1 k2; exact absurd (hc k1) k2)
theorem HiQ.mono {a b : Rat × Bool} {s : Rat} (h : HiQ a s) (hb : a.1 < b.1 ∨ (b.1 = a.1 ∧ (b.2 = true → a.2 = true))) : HiQ b s := by
  unfold HiQ at *
  split <;> split at h <;> rcases hb with hb | ⟨hb, hc⟩ <;> first | grind | (rename_i k1 k2; exact absurd (hc k1) k2)
theorem bot_of (l : List (Rat × Bool)) (hl : l ≠ []) : ∃ a, a ∈ l ∧ ∀ b, b ∈ l → a.1 < b.1 ∨ (b.1 = a.1 ∧ (b.2 = true → a.2 = true)) := by
  obtain ⟨a, ha, hm⟩ := top_of (l.map fun x => (-x.1, x.2)) (by simpa using hl)
  obtain ⟨x, hx, rfl⟩ := List.mem_map.1 ha
  refine ⟨x, hx, fun b hb => ?_⟩
  rcases hm (-b.1, b.2) (List.mem_map.2 ⟨b, hb, rfl⟩) with h | ⟨h, k⟩
  · exact .inl (by simp only at h; grind)
  · exact .inr ⟨by simp only at h; grind, k⟩
theorem room (lo hi : List (Rat × Bool)) (h : ∀ a, a ∈ lo → ∀ b, b ∈ hi → if (a.2 || b.2) = true then a.1 < b.1 else a.1 ≤ b.1) : ∃ s, (∀ a, a ∈ lo → LoQ a s) ∧ ∀ b, b ∈ hi → HiQ b s := by
  by_cases hl : lo = []
  · subst hl
    by_cases hh : hi = []
    · subst hh; exact ⟨0, fun a ha => (nomatch ha), fun b hb => (nomatch hb)⟩
    · obtain ⟨b, hb, hm⟩ := bot_of hi hh
      exact ⟨b.1 - 1, fun a ha => (nomatch ha), fun c hc => HiQ.mono (a := b) (by unfold HiQ; split <;> grind) (hm c hc)⟩
  · obtain ⟨a, ha, hm⟩ := top_of lo hl
    by_cases hh : hi = []
    · subst hh
      exact ⟨a.1 + 1, fun c hc => LoQ.mono (a := a) (by unfold LoQ; split <;> grind) (hm c hc), fun b hb => (nomatch hb)⟩
    · obtain ⟨b, hb, hn⟩ := bot_of hi hh
      have hab := h a ha b hb
      obtain ⟨s, h1, h2⟩ : ∃ s, LoQ a s ∧ HiQ b s := by
        by_cases hlt : a.1 < b.1
        · refine ⟨(a.1 + b.1) / 2, ?_, ?_⟩
          · unfold LoQ; split <;> grind
          · unfold HiQ; split <;> grind
        · have hn2 : ¬ (a.2 || b.2) = true := fun k => by rw [if_pos k] at hab; exact hlt hab
          rw [if_neg hn2] at hab
          have ha2 : ¬ a.2 = true := fun k => hn2 (by rw [k]; rfl)
          have hb2 : ¬ b.2 = true := fun k => hn2 (by rw [k]; simp)
          refine ⟨a.1, ?_, ?_⟩
          · unfold LoQ; rw [if_neg ha2]; exact Rat.le_refl
          · unfold HiQ; rw [if_neg hb2]; exact hab
      exact ⟨s, fun c hc => h1.mono (hm c hc), fun c hc => h2.mono (hn c hc)⟩
end Dbm
end Go.Proofs.YtgjeeghhhfpkoaaGreat

/-
  The contract of the document's comparison of matrices (rallentandoref04.Same), by the engine.
-/
namespace Go.Proofs.YtgjeeghhhfpkoaaGreat
set_option linter.unusedVariables false
set_option linter.unusedSimpArgs false
set_option maxRecDepth 100000
open Go.RowKit Go.Proofs.YtgjeeghhhfpkoaaGreat.Eng Enc

def sameB (m n : Int) (L M : List Int) : Bool := decide (m = n) && decide (L = M)
theorem same04_any (m n : Int) (L M : List Int) (a b : Option Addr) (ca cb : Nat) (w : World) (hA : Sl w.heap.size w (.slice a L.length ca) L) (hB : Sl w.heap.size w (.slice b M.length cb) M) :
    Calls Tryz.prog 172 #[.agg #[.int .i64 m, .slice a L.length ca], .agg #[.int .i64 n, .slice b M.length cb]] w fun e w' => e = .returned (.bool (sameB m n L M)) ∧ Below w.heap.size w w' := by
  obtain ⟨_, _, ea, hca, hma, _⟩ := hA.form
  injection ea with e1 e2 e3
  subst e1; subst e3
  unfold maxLen at hma
  refine fun_eq 0 w Tryz.func172 (args := [.agg [.val (.int .i64 m), .val (.slice a L.length ca)], .agg [.val (.int .i64 n), .val (.slice b M.length cb)]]) rfl rfl ?_
  refine NewI.mk fun b1 hb1 => ?_
  refine NewI.mk fun b2 hb2 => ?_
  refine Branch.mk (fun hc => ?_) (fun hc => ?_)
  · refine EndI.mk fun w1 h1 => ?_
    have : m ≠ n := by simpa using hc
    simp [sameB, this]
  have hmn : m = n := by simpa using hc
  refine Branch.mk (fun hc => ?_) (fun hc => ?_)
  · refine EndI.mk fun w1 h1 => ?_
    have h1 : (L.length : Int) ≠ M.length := by simpa using hc
    have : L ≠ M := fun e => h1 (by rw [e])
    simp [sameB, this]
  have hlm : L.length = M.length := by have : (L.length : Int) = M.length := by simpa using hc
                                       omega
  refine LoopI.invC (α := Nat × World) (fun y => [(5, .val (.int .i64 y.1))]) (fun y => y.2) (fun y => y.1 ≤ L.length ∧ Below w.heap.size w y.2 ∧ ∀ j, j < y.1 → L[j]? = M[j]?) (fun y => L.length - y.1) ?_ ?_
  · intro w1 h1
    exact ⟨(0, w1), Cov.mk (by repeat' (first | exact trivial | refine And.intro rfl ?_)) rfl rfl rfl rfl rfl, rfl, Nat.zero_le _, h1.below, fun j hj => by omega⟩
  rintro ⟨k, W⟩ ⟨hk, hW, hall⟩
  refine Branch.mk (fun hb => ?_) (fun hb => ?_)
  · have hlt : k < L.length := by simpa using hb
    have hkm : k < M.length := by omega
    refine DrawI.go (.tk 0 (.tk 1 (.tk 2 (.tk 3 (.tk 4 (.tk 5 (.tk 6 (.tk 7 (.tk 8 (.tk 9 (.tk 10 .done))))))))))) (by kernel_rfl) fun w2 h2 => ?_
    refine hA.idx (List.getElem?_eq_getElem hlt) fun ad had => ?_
    refine hA.ld1 (List.getElem?_eq_getElem hlt) had h2.below (by simp) ?_
    refine hB.idx (List.getElem?_eq_getElem hkm) fun bd hbd => ?_
    refine hB.ld1 (List.getElem?_eq_getElem hkm) hbd h2.below (by simp) ?_
    refine Branch.mk (fun hc => ?_) (fun hc => ?_)
    · refine EndI.mk fun w3 h3 => ?_
      have h1 : L[k] ≠ M[k] := by simpa using hc
      have : L ≠ M := fun e => by subst e; exact h1 rfl
      simp [sameB, this]
    · have h1 : L[k] = M[k] := by simpa using hc
      refine Need.mk (by show _ ∧ _; omega) (EndI.mk fun w3 h3 => ⟨(k + 1, w3), Cov.mk (by repeat' (first | exact trivial | refine And.intro rfl ?_)) rfl rfl rfl rfl rfl, rfl, ⟨hlt, h3.below, fun j hj => ?_⟩, by simp only; omega⟩)
      by_cases hjk : j = k
      · subst hjk; rw [List.getElem?_eq_getElem hlt, List.getElem?_eq_getElem hkm, h1]
      · exact hall j (by omega)
  · have hge : k = L.length := by have : ¬ k < L.length := by simpa using hb
                                  omega
    refine EndI.mk fun w3 h3 => ?_
    have : L = M := by
      apply List.ext_getElem?
      intro j
      rcases Nat.lt_or_ge j L.length with h | h
      · exact hall j (by omega)
      · rw [List.getElem?_eq_none h, List.getElem?_eq_none (by omega)]
    simp [sameB, this, hmn]
end Go.Proofs.YtgjeeghhhfpkoaaGreat

/-
  Plain laws of clocks that come and go: a matrix without a clock is closed again, and of two clocks that go it turns nothing which goes first. No program is in sight.
-/
namespace Go.Proofs.YtgjeeghhhfpkoaaGreat.Proj
set_option linter.unusedVariables false
open Go.Proofs.YtgjeeghhhfpkoaaGreat.Dbm

theorem sk_lt {N k j : Nat} (hj : j < N - 1) : sk k j < N := by unfold sk; split <;> omega
theorem dropL_len (N k : Nat) (C : List Int) : (dropL N k C).length = (N - 1) * (N - 1) := by simp [dropL]
theorem dropL_get {N k : Nat} (C : List Int) {i j : Nat} (hi : i < N - 1) (hj : j < N - 1) : (dropL N k C)[i * (N - 1) + j]?.getD 0 = C[sk k i * N + sk k j]?.getD 0 := by
  unfold dropL
  rw [List.getElem?_map, List.getElem?_range (place_lt hi hj)]
  simp only [Option.map_some, Option.getD_some]
  unfold dropAt
  rw [place_div hj, place_mod hj]
theorem clo_drop {N k : Nat} {C : List Int} (h : Clo N C) : Clo (N - 1) (dropL N k C) := by
  have hm : ∀ i j, i < N - 1 → j < N - 1 → mx (N - 1) (dropL N k C) i j = mx N C (sk k i) (sk k j) := fun i j hi hj => by
    unfold mx; rw [dropL_get C hi hj]
  refine ⟨dropL_len _ _ _, fun i hi => ?_, fun i j a hi hj ha => ?_, fun i j hi hj => ?_⟩
  · rw [dropL_get C hi hi]; exact h.diag _ (sk_lt hi)
  · rw [hm i j hi hj, hm i a hi ha, hm a j ha hj]
    exact h.tri _ _ _ (sk_lt hi) (sk_lt hj) (sk_lt ha)
  · rw [dropL_get C hi hj]; exact h.lim _ _ (sk_lt hi) (sk_lt hj)
theorem ext_get {A B : List Int} {n : Nat} (ha : A.length = n) (hb : B.length = n) (h : ∀ q, q < n → A[q]?.getD 0 = B[q]?.getD 0) : A = B := by
  apply List.ext_getElem?
  intro q
  rcases Nat.lt_or_ge q n with hq | hq
  · have := h q hq
    rw [List.getElem?_eq_getElem (by omega), List.getElem?_eq_getElem (by omega)] at this ⊢
    exact congrArg some this
  · rw [List.getElem?_eq_none (by omega), List.getElem?_eq_none (by omega)]
theorem sk_sk {j k i : Nat} (hjk : j < k) : sk j (sk (k - 1) i) = sk k (sk j i) := by
  unfold sk
  by_cases h1 : i < k - 1 <;> by_cases h2 : i < j <;> simp only [h1, h2, if_true, if_false] <;> (repeat' split) <;> omega
theorem dropL_dropL {N j k : Nat} (C : List Int) (hjk : j < k) : dropL (N - 1) (k - 1) (dropL N j C) = dropL (N - 1) j (dropL N k C) := by
  refine ext_get (dropL_len _ _ _) (dropL_len _ _ _) fun q hq => ?_
  have h1 := div_lt hq
  have h2 := mod_lt hq
  rw [← div_mod (p := q) (N := N - 1 - 1)]
  rw [dropL_get _ h1 h2, dropL_get _ h1 h2, dropL_get _ (sk_lt h1) (sk_lt h2), dropL_get _ (sk_lt h1) (sk_lt h2), sk_sk hjk, sk_sk hjk]

/-- a clock goes, where one may. -/
theorem drop_ok {n : Int} {L : List Int} {k : Int} (h : (drop n L k).2.2 = 0) : chk n L = 0 ∧ 1 ≤ k ∧ k < n ∧ ∃ C, closeL n.toNat L = some C ∧ drop n L k = (n - 1, dropL n.toNat k.toNat C, 0) := by
  unfold drop at h ⊢
  split at h
  · rename_i h0
    split at h
    · cases h
    · rename_i h1
      split at h
      · rename_i C hC
        refine ⟨h0, by omega, by omega, C, hC, ?_⟩
        rw [if_pos h0, if_neg h1]
      · cases h
  · cases h
theorem drop_closed {N K : Nat} {A : List Int} (h0 : chk N A = 0) (hA : Clo N A) (h1 : 1 ≤ K) (h2 : K < N) : drop N A K = ((N : Int) - 1, dropL N K A, 0) := by
  unfold drop
  rw [if_pos h0, if_neg (by omega), Int.toNat_natCast, Int.toNat_natCast, hA.close]
/-- of two clocks that go it turns nothing which goes first. -/
theorem two {n : Int} {L : List Int} {j k : Int} (hjk : j < k) (ha : (drop n L j).2.2 = 0) (hb : (drop n L k).2.2 = 0) (ca : chk (drop n L j).1 (drop n L j).2.1 = 0) (cb : chk (drop n L k).1 (drop n L k).2.1 = 0) :
    drop (drop n L j).1 (drop n L j).2.1 (k - 1) = drop (drop n L k).1 (drop n L k).2.1 j := by
  obtain ⟨h0, j1, j2, C, hC, ea⟩ := drop_ok ha
  obtain ⟨_, k1, k2, C', hC', eb⟩ := drop_ok hb
  rw [hC] at hC'; injection hC' with hC'; subst hC'
  obtain ⟨N, rfl⟩ : ∃ N : Nat, n = N := ⟨n.toNat, by omega⟩
  obtain ⟨J, rfl⟩ : ∃ J : Nat, j = J := ⟨j.toNat, by omega⟩
  obtain ⟨K, rfl⟩ : ∃ K : Nat, k = K := ⟨k.toNat, by omega⟩
  rw [Int.toNat_natCast] at hC
  have hclo := close_clo h0 hC
  rw [ea] at ca ⊢
  rw [eb] at cb ⊢
  simp only [Int.toNat_natCast] at ca cb ⊢
  have en : (N : Int) - 1 = ((N - 1 : Nat) : Int) := by omega
  have ek : (K : Int) - 1 = ((K - 1 : Nat) : Int) := by omega
  rw [en] at ca cb ⊢
  rw [ek, drop_closed ca (clo_drop hclo) (by omega) (by omega), drop_closed cb (clo_drop hclo) (by omega) (by omega), dropL_dropL C (by omega)]
end Go.Proofs.YtgjeeghhhfpkoaaGreat.Proj

/-
  Plain laws of compositions, ended: the points of two zones one behind the other. No program is in sight.
-/
namespace Go.Proofs.YtgjeeghhhfpkoaaGreat
set_option linter.unusedVariables false
set_option linter.unusedSimpArgs false
open Go.RowKit Go.Proofs.YtgjeeghhhfpkoaaGreat.Eng Enc
namespace Dbm
theorem satO_lo {x y : Rat} {v : Int} : satO (x - y) (some v) ↔ LoQ (x - ((v / 2 : Int) : Rat), Bd.st v) y := by
  unfold satO LoQ
  simp only
  split <;> constructor <;> intro h <;> grind
theorem satO_hi {x y : Rat} {v : Int} : satO (y - x) (some v) ↔ HiQ (x + ((v / 2 : Int) : Rat), Bd.st v) y := by
  unfold satO HiQ
  simp only
  split <;> constructor <;> intro h <;> grind
/-- times that keep a closed matrix but for a clock can be gone on with. -/
theorem extend {N k : Nat} {C : List Int} (hc : Clo N C) (hk : k < N) {u : Nat → Rat} (h : ∀ i j, i < N → j < N → i ≠ k → j ≠ k → satO (u i - u j) (mx N C i j)) :
    ∃ s, Fits N (mx N C) (fun i => if i = k then s else u i) := by
  obtain ⟨s, h1, h2⟩ := room ((List.range N).filterMap fun i => if i = k then none else (mx N C i k).map fun v => (u i - ((v / 2 : Int) : Rat), Bd.st v))
    ((List.range N).filterMap fun i => if i = k then none else (mx N C k i).map fun v => (u i + ((v / 2 : Int) : Rat), Bd.st v)) (by
    intro a ha b hb
    obtain ⟨i, hi, ea⟩ := List.mem_filterMap.1 ha
    obtain ⟨j, hj, eb⟩ := List.mem_filterMap.1 hb
    have hi := List.mem_range.1 hi
    have hj := List.mem_range.1 hj
    by_cases ci : i = k
    · rw [if_pos ci] at ea; cases ea
    by_cases cj : j = k
    · rw [if_pos cj] at eb; cases eb
    rw [if_neg ci] at ea
    rw [if_neg cj] at eb
    have ht := satO_mono (hc.tri i j k hi hj hk) (h i j hi hj ci cj)
    cases hv : mx N C i k with
    | none => rw [hv] at ea; cases ea
    | some v =>
      cases hw : mx N C k j with
      | none => rw [hw] at eb; cases eb
      | some w =>
        rw [hv] at ea ht
        rw [hw] at eb ht
        injection ea with ea
        injection eb with eb
        subst ea eb
        simp only [oadd, satO] at ht
        rw [bsum_half, Rat.intCast_add] at ht
        simp only
        by_cases hs : Bd.st (bsum v w) = true
        · rw [if_pos hs] at ht
          rw [if_pos (by have := (Incl.st_bsum v w).1 hs; rw [Bool.or_eq_true]; exact this)]
          grind
        · rw [if_neg hs] at ht
          rw [if_neg (by rw [Bool.or_eq_true]; exact fun k => hs ((Incl.st_bsum v w).2 k))]
          grind)
  refine ⟨s, fun i j hi hj => ?_⟩
  simp only
  by_cases ci : i = k
  · by_cases cj : j = k
    · rw [if_pos ci, if_pos cj, Rat.sub_self]
      have : mx N C i j = some 1 := by rw [ci, cj]; unfold mx; rw [hc.diag k hk]; rfl
      rw [this]; exact satO_zero.2 (by omega)
    · rw [if_pos ci, if_neg cj]
      subst ci
      cases hv : mx N C i j with
      | none => trivial
      | some v => exact satO_hi.2 (h2 _ (List.mem_filterMap.2 ⟨j, List.mem_range.2 hj, by rw [if_neg cj, hv]; rfl⟩))
  · by_cases cj : j = k
    · rw [if_neg ci, if_pos cj]
      subst cj
      cases hv : mx N C i j with
      | none => trivial
      | some v => exact satO_lo.2 (h1 _ (List.mem_filterMap.2 ⟨i, List.mem_range.2 hi, by rw [if_neg ci, hv]; rfl⟩))
    · rw [if_neg ci, if_neg cj]; exact h i j hi hj ci cj
end Dbm
namespace Cmp
open Dbm Mi
def cl (c0 c1 c2 i : Nat) : Nat := if i = 0 then c0 else if i = 1 then c1 else c2
theorem pl_eq (c0 c1 c2 k : Nat) : pl c0 c1 c2 k = cl c0 c1 c2 (k / 3) * 4 + cl c0 c1 c2 (k % 3) := by unfold pl cl; omega
theorem cl_lt {c0 c1 c2 : Nat} (h0 : c0 < 4) (h1 : c1 < 4) (h2 : c2 < 4) (i : Nat) : cl c0 c1 c2 i < 4 := by unfold cl; split <;> (try split) <;> assumption
theorem put_all {c0 c1 c2 : Nat} (p : Int → Prop) (hm : ∀ x y, p x → p y → p (min x y)) {M L : List Int} (hM : ∀ q, q < M.length → p (M[q]?.getD 0)) (hL : ∀ q, q < L.length → p (L[q]?.getD 0)) (hc : ∀ k, pl c0 c1 c2 k < L.length) :
    ∀ k, k ≤ M.length → ∀ q, q < L.length → p ((put c0 c1 c2 M L k)[q]?.getD 0)
  | 0, _, q, hq => hL q hq
  | k + 1, hk, q, hq => by
    have ih := put_all p hm hM hL hc k (by omega)
    show p (((put c0 c1 c2 M L k).set (pl c0 c1 c2 k) _)[q]?.getD 0)
    rw [List.getElem?_set]
    by_cases e : pl c0 c1 c2 k = q
    · rw [if_pos e, if_pos (by rw [put_len]; exact e ▸ hc k)]
      exact hm _ _ (ih _ (hc k)) (hM k (by omega))
    · rw [if_neg e]; exact ih q hq
theorem put_fits {c0 c1 c2 : Nat} (h0 : c0 < 4) (h1 : c1 < 4) (h2 : c2 < 4) {M L : List Int} (hl : L.length = 16) (hM : ∀ q, q < M.length → M[q]?.getD 0 = NO ∨ M[q]?.getD 0 < NO) (hL : ∀ q, q < L.length → L[q]?.getD 0 = NO ∨ L[q]?.getD 0 < NO) (T : Nat → Rat) :
    ∀ k, k ≤ M.length → (Fits 4 (mx 4 (put c0 c1 c2 M L k)) T ↔ Fits 4 (mx 4 L) T ∧ ∀ q, q < k → satO (T (cl c0 c1 c2 (q / 3)) - T (cl c0 c1 c2 (q % 3))) (ob (M[q]?.getD 0)))
  | 0, _ => ⟨fun h => ⟨h, fun q hq => absurd hq (by omega)⟩, fun h => h.1⟩
  | k + 1, hk => by
    have ih := put_fits h0 h1 h2 hl hM hL T k (by omega)
    have hc : ∀ k, pl c0 c1 c2 k < L.length := fun k => by
      rw [pl_eq, hl]
      have := cl_lt h0 h1 h2 (k / 3)
      have := cl_lt h0 h1 h2 (k % 3)
      omega
    have hno := put_all (c0 := c0) (c1 := c1) (c2 := c2) (fun x => x = NO ∨ x < NO) (fun x y (hx : x = NO ∨ x < NO) (hy : y = NO ∨ y < NO) => (by omega : min x y = NO ∨ min x y < NO)) hM hL hc k (by omega)
    have a1 := cl_lt h0 h1 h2 (k / 3)
    have a2 := cl_lt h0 h1 h2 (k % 3)
    have hmin := satO_min (T (cl c0 c1 c2 (k / 3)) - T (cl c0 c1 c2 (k % 3))) _ _ (hno _ (hc k)) (hM k (by omega))
    have hg : ∀ i j, i < 4 → j < 4 → (put c0 c1 c2 M L (k + 1))[i * 4 + j]?.getD 0 = if i = cl c0 c1 c2 (k / 3) ∧ j = cl c0 c1 c2 (k % 3) then min ((put c0 c1 c2 M L k)[pl c0 c1 c2 k]?.getD 0) (M[k]?.getD 0) else (put c0 c1 c2 M L k)[i * 4 + j]?.getD 0 := fun i j hi hj => by
      show (((put c0 c1 c2 M L k).set (pl c0 c1 c2 k) _)[i * 4 + j]?.getD 0) = _
      rw [List.getElem?_set]
      by_cases e : i = cl c0 c1 c2 (k / 3) ∧ j = cl c0 c1 c2 (k % 3)
      · rw [if_pos e, if_pos (by rw [pl_eq, e.1, e.2]), if_pos (by rw [put_len]; exact hc k)]; rfl
      · rw [if_neg e, if_neg (by rw [pl_eq]; omega)]
    constructor
    · intro h
      have h1' := h _ _ a1 a2
      unfold mx at h1'
      rw [hg _ _ a1 a2, if_pos ⟨rfl, rfl⟩] at h1'
      have hb := hmin.1 h1'
      have hf : Fits 4 (mx 4 (put c0 c1 c2 M L k)) T := fun i j hi hj => by
        have h3 := h i j hi hj
        unfold mx at h3 ⊢
        rw [hg i j hi hj] at h3
        by_cases e : i = cl c0 c1 c2 (k / 3) ∧ j = cl c0 c1 c2 (k % 3)
        · obtain ⟨rfl, rfl⟩ := e
          rw [← pl_eq]; exact hb.1
        · rw [if_neg e] at h3; exact h3
      refine ⟨(ih.1 hf).1, fun q hq => ?_⟩
      by_cases e : q = k
      · subst e; exact hb.2
      · exact (ih.1 hf).2 q (by omega)
    · rintro ⟨h, hq⟩ i j hi hj
      have hf := ih.2 ⟨h, fun q hq' => hq q (by omega)⟩
      unfold mx
      rw [hg i j hi hj]
      by_cases e : i = cl c0 c1 c2 (k / 3) ∧ j = cl c0 c1 c2 (k % 3)
      · rw [if_pos e]
        obtain ⟨rfl, rfl⟩ := e
        refine hmin.2 ⟨?_, hq k (by omega)⟩
        have := hf _ _ hi hj
        unfold mx at this
        rwa [← pl_eq] at this
      · rw [if_neg e]; exact hf i j hi hj
/-- three times. -/
def t3 (x y z : Rat) (i : Nat) : Rat := if i = 0 then x else if i = 1 then y else z
theorem fits3 {M : List Int} (c0 c1 c2 : Nat) (T : Nat → Rat) : (∀ q, q < 9 → satO (T (cl c0 c1 c2 (q / 3)) - T (cl c0 c1 c2 (q % 3))) (ob (M[q]?.getD 0))) ↔ Fits 3 (mx 3 M) (t3 (T c0) (T c1) (T c2)) := by
  have e : ∀ i, T (cl c0 c1 c2 i) = t3 (T c0) (T c1) (T c2) i := fun i => by unfold cl t3; split <;> (try split) <;> rfl
  constructor
  · intro h i j hi hj
    have := h (i * 3 + j) (by omega)
    rw [show (i * 3 + j) / 3 = i by omega, show (i * 3 + j) % 3 = j by omega, e, e] at this
    exact this
  · intro h q hq
    have := h (q / 3) (q % 3) (by omega) (by omega)
    unfold mx at this
    rw [show q / 3 * 3 + q % 3 = q by omega] at this
    rw [e, e]; exact this
theorem top_get : ∀ i, i < 4 → ∀ j, j < 4 → mx 4 (topL 4) i j = if i = j then some 1 else none := by decide
theorem top_fits (T : Nat → Rat) : Fits 4 (mx 4 (topL 4)) T := fun i j hi hj => by
  rw [top_get i hi j hj]
  by_cases e : i = j
  · rw [if_pos e, e, Rat.sub_self]; exact satO_zero.2 (by omega)
  · rw [if_neg e]; trivial
theorem top_may : ∀ q, q < (topL 4).length → mayC ((topL 4)[q]?.getD 0) = true := by decide
theorem top_no : ∀ q, q < (topL 4).length → (topL 4)[q]?.getD 0 = NO ∨ (topL 4)[q]?.getD 0 < NO := by decide
theorem z_may {z : Zn} (hz : Dbm.chk 3 (Zo.matL z) = 0) : ∀ q, q < (Zo.matL z).length → mayC ((Zo.matL z)[q]?.getD 0) = true := fun q hq => by
  obtain ⟨a1, a2, a3, a4⟩ := chk_iff.1 hz
  rw [List.any_eq_false] at a4
  have e1 := List.getElem?_eq_getElem hq
  have k1 := a4 _ (List.getElem_mem hq)
  rw [e1]
  simpa using k1
theorem z_no {z : Zn} (hz : Dbm.chk 3 (Zo.matL z) = 0) : ∀ q, q < (Zo.matL z).length → (Zo.matL z)[q]?.getD 0 = NO ∨ (Zo.matL z)[q]?.getD 0 < NO := fun q hq => lim_lt (chk_lim hz q hq) (by decide)
theorem mat_chk {a b : Zn} (ha : Zo.chk a = 0) (hb : Zo.chk b = 0) : Dbm.chk 4 (mat a b) = 0 := by
  have ca := (Zo.clo ha).1
  have cb := (Zo.clo hb).1
  have h1 := put_all (c0 := 0) (c1 := 1) (c2 := 2) (fun x => mayC x = true) (fun x y => Zo.mayC_min) (z_may ca) top_may (fun k => by rw [pl_eq]; have := cl_lt (c0 := 0) (c1 := 1) (c2 := 2) (by omega) (by omega) (by omega) (k / 3); have := cl_lt (c0 := 0) (c1 := 1) (c2 := 2) (by omega) (by omega) (by omega) (k % 3); show _ < 16; omega) 9 (Nat.le_refl _)
  have l1 : (put 0 1 2 (Zo.matL a) (topL 4) 9).length = 16 := by rw [put_len]; rfl
  have h2 := put_all (c0 := 0) (c1 := 2) (c2 := 3) (L := put 0 1 2 (Zo.matL a) (topL 4) 9) (fun x => mayC x = true) (fun x y => Zo.mayC_min) (z_may cb) (fun q hq => h1 q (by rw [l1] at hq; exact hq)) (fun k => by rw [pl_eq, l1]; have := cl_lt (c0 := 0) (c1 := 2) (c2 := 3) (by omega) (by omega) (by omega) (k / 3); have := cl_lt (c0 := 0) (c1 := 2) (c2 := 3) (by omega) (by omega) (by omega) (k % 3); omega) 9 (Nat.le_refl _)
  refine chk_iff.2 ⟨by decide, by decide, by rw [mat_len]; rfl, ?_⟩
  rw [List.any_eq_false]
  intro x hx
  obtain ⟨q, hq, rfl⟩ := List.getElem_of_mem hx
  have hq' : q < (put 0 1 2 (Zo.matL a) (topL 4) 9).length := by rw [l1]; rw [mat_len] at hq; exact hq
  have := h2 q hq'
  change mayC ((mat a b)[q]?.getD 0) = true at this
  rw [List.getElem?_eq_getElem hq] at this
  simp only [Option.getD_some] at this
  simp [this]
theorem mat_fits {a b : Zn} (ha : Zo.chk a = 0) (hb : Zo.chk b = 0) (T : Nat → Rat) : Fits 4 (mx 4 (mat a b)) T ↔ Fz a (t3 (T 0) (T 1) (T 2)) ∧ Fz b (t3 (T 0) (T 2) (T 3)) := by
  have ca := (Zo.clo ha).1
  have cb := (Zo.clo hb).1
  have l1 : (put 0 1 2 (Zo.matL a) (topL 4) 9).length = 16 := by rw [put_len]; rfl
  have hno := put_all (c0 := 0) (c1 := 1) (c2 := 2) (fun x => x = NO ∨ x < NO) (fun x y (hx : x = NO ∨ x < NO) (hy : y = NO ∨ y < NO) => (by omega : min x y = NO ∨ min x y < NO)) (z_no ca) top_no (fun k => by rw [pl_eq]; have := cl_lt (c0 := 0) (c1 := 1) (c2 := 2) (by omega) (by omega) (by omega) (k / 3); have := cl_lt (c0 := 0) (c1 := 1) (c2 := 2) (by omega) (by omega) (by omega) (k % 3); show _ < 16; omega) 9 (Nat.le_refl _)
  have f2 := put_fits (c0 := 0) (c1 := 2) (c2 := 3) (by omega) (by omega) (by omega) l1 (z_no cb) (fun q hq => hno q (by rw [l1] at hq; exact hq)) T 9 (Nat.le_refl _)
  have f1 := put_fits (c0 := 0) (c1 := 1) (c2 := 2) (L := topL 4) (by omega) (by omega) (by omega) rfl (z_no ca) top_no T 9 (Nat.le_refl _)
  rw [fits3] at f1 f2
  show Fits 4 (mx 4 (put 0 2 3 (Zo.matL b) (put 0 1 2 (Zo.matL a) (topL 4) 9) 9)) T ↔ _
  rw [f2, f1]
  exact ⟨fun h => ⟨h.1.2, h.2⟩, fun h => ⟨⟨top_fits T, h.1⟩, h.2⟩⟩
/-- one behind the other, in points. -/
def Thru (P Q : (Nat → Rat) → Prop) (t : Nat → Rat) : Prop := ∃ s, P (t3 (t 0) (t 1) s) ∧ Q (t3 (t 0) s (t 2))
theorem drop_fits {a b : Zn} (ha : Zo.chk a = 0) (hb : Zo.chk b = 0) :
    ((Proj.drop 4 (mat a b) 2).2.2 = 0 → ∀ t, Fits 3 (mx 3 (Proj.drop 4 (mat a b) 2).2.1) t ↔ Thru (Fz a) (Fz b) t) ∧
    ((Proj.drop 4 (mat a b) 2).2.2 = 6 → ∀ t, ¬ Thru (Fz a) (Fz b) t) := by
  have h0 := mat_chk ha hb
  have hT : ∀ (t : Nat → Rat) s, Fits 4 (mx 4 (mat a b)) (fun i => if i = 0 then t 0 else if i = 1 then t 1 else if i = 2 then s else t 2) ↔ Fz a (t3 (t 0) (t 1) s) ∧ Fz b (t3 (t 0) s (t 2)) := fun t s => mat_fits ha hb _
  generalize mat a b = L at h0 hT ⊢
  constructor
  · intro h t
    obtain ⟨_, _, _, C, hC, e⟩ := Proj.drop_ok h
    rw [e]
    have hC : closeL 4 L = some C := hC
    have hclo : Clo 4 C := close_clo (N := 4) h0 hC
    have hf := fun T => close_fits (N := 4) h0 hC T
    have hg : ∀ i j, i < 3 → j < 3 → mx 3 (Proj.dropL 4 2 C) i j = mx 4 C (Proj.sk 2 i) (Proj.sk 2 j) := fun i j hi hj => by unfold mx; rw [Proj.dropL_get (N := 4) C hi hj]
    show Fits 3 (mx 3 (Proj.dropL 4 2 C)) t ↔ _
    constructor
    · intro ht
      obtain ⟨s, hs⟩ := extend hclo (k := 2) (by omega) (u := fun i => if i = 3 then t 2 else t i) (fun i j hi hj h1 h2 => by
        have k := ht (if i = 3 then 2 else i) (if j = 3 then 2 else j) (by split <;> omega) (by split <;> omega)
        rw [hg _ _ (by split <;> omega) (by split <;> omega)] at k
        have ei : Proj.sk 2 (if i = 3 then 2 else i) = i := by unfold Proj.sk; repeat' split
                                                               all_goals omega
        have ej : Proj.sk 2 (if j = 3 then 2 else j) = j := by unfold Proj.sk; repeat' split
                                                               all_goals omega
        rw [ei, ej] at k
        show satO ((if i = 3 then t 2 else t i) - (if j = 3 then t 2 else t j)) (mx 4 C i j)
        have q : ∀ i, t (if i = 3 then 2 else i) = if i = 3 then t 2 else t i := fun i => by split <;> rfl
        rw [← q, ← q]; exact k)
      refine ⟨s, (hT t s).1 ((hf _).1 fun i j hi hj => ?_)⟩
      have k : satO ((if i = 2 then s else if i = 3 then t 2 else t i) - (if j = 2 then s else if j = 3 then t 2 else t j)) (mx 4 C i j) := hs i j hi hj
      have q : ∀ i, i < 4 → (if i = 0 then t 0 else if i = 1 then t 1 else if i = 2 then s else t 2) = if i = 2 then s else if i = 3 then t 2 else t i := fun i hi => by
        have : i = 0 ∨ i = 1 ∨ i = 2 ∨ i = 3 := by omega
        rcases this with rfl | rfl | rfl | rfl <;> rfl
      show satO ((if i = 0 then t 0 else if i = 1 then t 1 else if i = 2 then s else t 2) - (if j = 0 then t 0 else if j = 1 then t 1 else if j = 2 then s else t 2)) (mx 4 C i j)
      rw [q i hi, q j hj]; exact k
    · rintro ⟨s, hs⟩ i j hi hj
      have k := (hf _).2 ((hT t s).2 hs) (Proj.sk 2 i) (Proj.sk 2 j) (Proj.sk_lt (N := 4) hi) (Proj.sk_lt (N := 4) hj)
      rw [hg i j hi hj]
      have q : ∀ i, i < 3 → (if Proj.sk 2 i = 0 then t 0 else if Proj.sk 2 i = 1 then t 1 else if Proj.sk 2 i = 2 then s else t 2) = t i := fun i hi => by
        have : i = 0 ∨ i = 1 ∨ i = 2 := by omega
        rcases this with rfl | rfl | rfl <;> rfl
      change satO ((if Proj.sk 2 i = 0 then t 0 else if Proj.sk 2 i = 1 then t 1 else if Proj.sk 2 i = 2 then s else t 2) - (if Proj.sk 2 j = 0 then t 0 else if Proj.sk 2 j = 1 then t 1 else if Proj.sk 2 j = 2 then s else t 2)) (mx 4 C (Proj.sk 2 i) (Proj.sk 2 j)) at k
      rw [q i hi, q j hj] at k; exact k
  · rintro h t ⟨s, hs⟩
    obtain ⟨C, hC⟩ := close_some (N := 4) h0 ((hT t s).2 hs)
    unfold Proj.drop at h
    rw [if_pos h0, if_neg (by omega)] at h
    change (match closeL 4 L with | some c => ((4 : Int) - 1, Proj.dropL 4 2 c, (0 : Int)) | none => (0, [], 6)).2.2 = 6 at h
    rw [hC] at h
    cases h
theorem comp_ok {a b : Zn} (ha : Zo.chk a = 0) (hb : Zo.chk b = 0) :
    ((comp a b).2 = 0 → Zo.chk (comp a b).1 = 0 ∧ ∀ t, Fz (comp a b).1 t ↔ Thru (Fz a) (Fz b) t) ∧ ((comp a b).2 = 6 → ∀ t, ¬ Thru (Fz a) (Fz b) t) := by
  obtain ⟨d1, d2⟩ := drop_fits ha hb
  unfold comp
  rw [if_pos ⟨ha, hb⟩]
  generalize mat a b = L at d1 d2 ⊢
  by_cases he : (Proj.drop 4 L 2).2.2 = 0
  · rw [if_pos he]
    obtain ⟨_, _, _, C, hC, e⟩ := Proj.drop_ok he
    have e3 : (Proj.drop 4 L 2).1 = 3 := by rw [e]; rfl
    rw [e3]
    exact ⟨fun h => ⟨(of_ok h).1, fun t => ((of_ok h).2 t).trans (d1 he t)⟩, fun h t ht => of_none h t ((d1 he t).2 ht)⟩
  · rw [if_neg he]
    exact ⟨fun h => absurd h he, fun h => d2 h⟩
end Cmp
namespace Zs
open Mi Dbm Cmp
theorem comp_pts {l m : List Zn} (h : (comp l m).2 = 0) : Fine (comp l m).1 ∧ ∀ t, Pts (comp l m).1 t ↔ Thru (Pts l) (Pts m) t := by
  obtain ⟨h0, h2, h3, h4⟩ := paired_ok h
  obtain ⟨c1, c2⟩ := checked2 h0
  refine ⟨h2, fun t => (h4 t).trans ?_⟩
  constructor
  · rintro ⟨x, y, hx, hy, he, hf⟩
    obtain ⟨s, h5, h6⟩ := (((comp_ok (c1 x hx) (c2 y hy)).1 he).2 t).1 hf
    exact ⟨s, ⟨x, hx, h5⟩, ⟨y, hy, h6⟩⟩
  · rintro ⟨s, ⟨x, hx, h5⟩, ⟨y, hy, h6⟩⟩
    rcases h3 x y hx hy with he | he
    · exact ⟨x, y, hx, hy, he, (((comp_ok (c1 x hx) (c2 y hy)).1 he).2 t).2 ⟨s, h5, h6⟩⟩
    · exact absurd ⟨s, h5, h6⟩ ((comp_ok (c1 x hx) (c2 y hy)).2 he t)
end Zs
end Go.Proofs.YtgjeeghhhfpkoaaGreat

