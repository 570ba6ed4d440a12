/-
  NumSums: a sum of some, or the error, is the reference's, at every list of ints; no condition.
-/
import Derived.Test.YtcidjmhadpoibaaLaw
import Derived.Test.YtcidjmhadpoibaaRefNum
namespace Go.Proofs.Ytcidjmhadpoibaa.numSums
set_option linter.unusedVariables false
open Go.ChangeShapes Go.WideShapes Go.ChangeAt Go.RowKit

theorem walk (a : Option Addr) (len cap : Nat) (zs : List Int) (hlen : zs.length = len) (hwf : ∀ z ∈ zs, (Lit.int .i64 z).wf = true) (w : World) (hI : Ints w.heap.size w (.slice a len cap) zs) :
    Calls Try.prog 3 #[.slice a len cap] w fun e w' => e = .returned (.bool true) ∧ Below w.heap.size w w' := by
  clear hwf
  have HL := Lib.hid hlen
  by_cases h : 10000 < len
  · clear hlen hI
    go_enter Try.func3, Try.ntmps3
    go_wp2
    go_ret
    exact ⟨rfl, Below.refl _ _⟩
  · have hb : zs.length ≤ 10000 := by omega
    clear hlen
    go_enter Try.func3, Try.ntmps3
    go_wp2_with (first | (go_at_call 14; refine (sum_any _ _ _ zs (by omega) _ hI).mono ?_; rintro e w' ⟨rfl, hB⟩) | (go_at_call 15; refine (rsum_any _ _ _ zs HL.out hb _ ((hI.below hB).upto hB.size)).mono ?_; rintro e w' ⟨rfl, rfl⟩))
    go_ret
    exact ⟨by simp, hB⟩

set_option maxRecDepth 100000 in
theorem lifted (os : Os) (started : os.Started) (H : Type) (enc : TypeId × Value → H) :
    ReturnsInHanded {} Try.checked os 3 .any (Rows.numSumsSpec.pre6 enc Try.prog Try.f3 Rows.numSumsRow.domain false) (Rows.numSumsSpec.post enc Try.prog Try.f3 false true false false) := by
  refine returnsInHanded_of_change (C := Try.checked) own started (by kernel_rfl) Try.func3
    (ChangeSpec.witness6 (enc := enc) (C := Try.checked) false ⟨#[], #[.slice none 0 0], []⟩ 8 (by kernel_rfl) (by kernel_rfl) (by kernel_rfl) (by kernel_rfl)) ?_
  intro W base args ds gs before hval0 hW _ _
  have hval : ∀ (j : Nat) t v, Try.f3.params[j]? = some t → args[j]? = some v → Value.okWide Try.prog W .any base t v := hval0
  have hW' := hW
  obtain ⟨p, q, hA0, hV, rfl, hfz, hnd⟩ := hW
  have hA : DataW.TrodAll enc Try.prog W 0 (fun _ => true) true Try.f3.params.toList args.toList ds p := hA0
  rw [Try.params3] at hA hval
  obtain ⟨v0, vs0, d0, ds0, p0, q0, hargs, rfl, rfl, h0, r0⟩ := trodAll_cons hA
  obtain ⟨rfl, rfl, rfl⟩ := trodAll_nil r0
  obtain rfl : args = #[v0] := by cases args; simp_all
  obtain ⟨rfl, rfl⟩ := trodVars_none hV
  obtain ⟨a0, len0, cap0, zs0, rfl, hlen0, hcap0, hm0, hwf0, hI0⟩ := open_intlist Try.underlying22 Try.underlying3 cellsInt (hval 0 22 v0 rfl rfl) h0
  clear hA0 hval0
  exact (walk a0 len0 cap0 zs0 hlen0 hwf0 W hI0).mono fun e W' ⟨he, hg⟩ => ⟨_, he, law_post laidOut (by kernel_rfl) rfl rfl Try.underlying4 hW' rfl hg⟩

theorem over : Rows.numSumsRow.holds Try.pinned (OpenSpec.ofChange Rows.numSumsSpec) :=
  OpenClaim.holds_of_wide 3 Try.f3 rfl rfl rfl rfl rfl rfl rfl ⟨rfl, rfl, rfl, rfl, rfl⟩ rfl rfl rfl rfl rfl (by kernel_rfl) Try.func3 (by kernel_rfl)
    (of_decide_eq_true (by kernel_rfl)) (by unfold Func.isWrapper; first | (rw [if_pos (by decide +kernel)]; kernel_rfl) | (rw [if_neg (by decide +kernel)]; exact ⟨rfl, rfl⟩))
    (fun os started H enc _ => lifted os started H enc)

/-- the given statement. -/
theorem proved : Rows.NumSumsSaid := over
#print axioms proved
end Go.Proofs.Ytcidjmhadpoibaa.numSums
