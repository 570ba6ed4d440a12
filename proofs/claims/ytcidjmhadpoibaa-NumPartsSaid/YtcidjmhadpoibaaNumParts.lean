/-
  NumParts: the law returns true at every input.
-/
import Derived.Test.YtcidjmhadpoibaaLaw
import Derived.Test.YtcidjmhadpoibaaAlive01
import Derived.Test.YtcidjmhadpoibaaMem
namespace Go.Proofs.Ytcidjmhadpoibaa.numParts
set_option linter.unusedVariables false
open Go.ChangeShapes Go.WideShapes Go.ChangeAt Go.RowKit

theorem infoInt : (Try.prog.info? 3).map (fun i => (i.zero, i.size, i.bytes)) = some (some (.int .i64 0), 1, 8) := by kernel_rfl

theorem src_one (w : World) (a : Int) (t : TypeId) : Src (w.alloc (.cells #[.int .i64 a] t)) (.slice (some ⟨w.heap.size, 0, none⟩) 1 1) 1 1 [.int .i64 a] :=
  ⟨rfl, .inr ⟨_, _, rfl, fun j u hu => by
    match j, hu with
    | 0, hu => simp at hu; subst hu; simp [Addr.add]⟩⟩
theorem ints_two' {W : World} {base : Nat} {e : TypeId} {sv : Value} {zs : List Int} {a : Int} (h : W.ownsRow base e 1 sv (zs.length + 1) (zs.map (Value.int .i64) ++ [.int .i64 a])) : Ints W.heap.size W sv (zs ++ [a]) :=
  Ints.owned (base := base) (e := e) (by simpa using h)

set_option maxHeartbeats 1000000 in
theorem walk_small (ad : Option Addr) (len cap : Nat) (zs : List Int) (hlen : zs.length = len) (hb : zs.length ≤ 10000) (h : ¬ 10000 < len) (a : Int) (w : World) (hI : Ints w.heap.size w (.slice ad len cap) zs)
    (x y : Int × Int) (hx : Num.sumFrom 0 zs = x) (hy : Num.sumFrom 0 (zs ++ [a]) = y) (hxy : (x.2 = 0 ∧ y = Num.add x.1 a) ∨ (x = (0, 10) ∧ y = (0, 10))) :
    Calls Try.prog 5 #[.slice ad len cap, .int .i64 a] w fun e w' => e = .returned (.bool true) ∧ Below w.heap.size w w' := by
  have HL := Lib.hid hlen
  have HX := Lib.hid hx
  have HY := Lib.hid hy
  have hB := Below.refl w.heap.size w
  obtain ⟨i0, hi, hz0, hz1, hz2⟩ := info_parts infoInt
  clear hlen hx hy
  rcases hxy with ⟨he, rfl⟩ | ⟨rfl, rfl⟩
  all_goals
    go_enter Try.func5, Try.ntmps5
    go_wp2_with (first
      | (go_at_call 16; refine (from_here (alive01_any _) (by assumption)).mono ?_; rintro e w1 ⟨rfl, hB1⟩)
      | (go_at_call 14; refine (sum_any _ _ _ zs (by omega) _ ((hI.below hB1).upto hB1.size)).mono ?_; rw [HX.out]; rintro e w2 ⟨rfl, hB2⟩; have hB3 := hB1.trans (hB2.mono hB1.size))
      | (at_builtin; refine wpList_append_src rfl (.tmp 27) (.tmp 28) 22 rfl w.heap.size 3 i0 (.int .i64 0) 1 8 Try.underlying22 hi hz0 hz1 hz2 rfl (by decide) _ 0 [] rfl (World.ownsRow_made _ #[] 0 hB3.size (by decide) rfl) _ zs.length (zs.map (Value.int .i64)) rfl (((hI.below hB3).upto hB3.size).below ((Below.refl _ _).alloc (Nat.le_refl _) _)).src (oneCell_ints zs) (by unfold maxLen; omega) (by omega) (by have := hB3.size; simp; omega) ?_; intro v1 w3 hown1 hg1 _; have hB4 := below_append (hB3.alloc hB3.size _) (Nat.le_refl _) (by have := hB3.size; simp; omega) (World.ownsRow_made (base := w.heap.size) (e := 3) (size := 1) _ #[] 0 hB3.size (by decide) rfl) hg1; simp only [Nat.zero_add, List.nil_append] at hown1)
      | (at_builtin; refine wpList_append_src rfl (.tmp 29) (.tmp 31) 22 rfl w.heap.size 3 i0 (.int .i64 0) 1 8 Try.underlying22 hi hz0 hz1 hz2 rfl (by decide) _ zs.length (zs.map (Value.int .i64)) rfl (hown1.alloc _) _ 1 [.int .i64 a] rfl (src_one _ _ _) (oneCell_ints [a]) (by unfold maxLen; omega) (by omega) (by have := hB4.size; simp; omega) ?_; intro v2 w4 hown2 hg2 _; have hB5 := below_append (hB4.alloc hB4.size _) (Nat.le_refl _) (by have := hB4.size; simp; omega) (hown1.alloc _) hg2; have hI2 := ints_two' hown2; obtain ⟨g, cp, rfl⟩ := ownsRow_succ hown2)
      | (go_at_call 14; refine (sum_any _ _ _ (zs ++ [a]) (by simp; omega) _ hI2).mono ?_; rw [HY.out]; rintro e w5 ⟨rfl, hB6⟩; have hB7 := hB5.trans (hB6.mono hB5.size))
      | (go_at_call 17; refine (from_here (add_any _ _ _) hB7).mono ?_; rintro e w' ⟨rfl, hB8⟩))
    go_ret
    exact ⟨rfl, by assumption⟩

theorem walk (ad : Option Addr) (len cap : Nat) (zs : List Int) (hlen : zs.length = len) (hwf : ∀ z ∈ zs, (Lit.int .i64 z).wf = true) (a : Int) (wa : (Lit.int .i64 a).wf = true) (w : World) (hI : Ints w.heap.size w (.slice ad len cap) zs) :
    Calls Try.prog 5 #[.slice ad len cap, .int .i64 a] w fun e w' => e = .returned (.bool true) ∧ Below w.heap.size w w' := by
  by_cases h : 10000 < len
  · have hB := Below.refl w.heap.size w
    clear hlen hI hwf wa
    go_enter Try.func5, Try.ntmps5
    go_wp2_with (go_at_call 16; refine (from_here (alive01_any _) (by assumption)).mono ?_; rintro e w' ⟨rfl, hB⟩)
    go_ret
    exact ⟨rfl, by assumption⟩
  · refine walk_small ad len cap zs hlen (by omega) h a w hI _ _ rfl rfl ?_
    rcases Num.sumFrom_err 0 zs with he | he
    · exact .inl ⟨he, by rw [Num.parts, if_pos he]⟩
    · exact .inr ⟨he, by rw [Num.parts, if_neg (by rw [he]; decide)]⟩

set_option maxRecDepth 100000 in
theorem lifted (os : Os) (started : os.Started) (H : Type) (enc : TypeId × Value → H) :
    ReturnsInHanded {} Try.checked os 5 .any (Rows.numPartsSpec.pre6 enc Try.prog Try.f5 Rows.numPartsRow.domain false) (Rows.numPartsSpec.post enc Try.prog Try.f5 false true false false) := by
  refine returnsInHanded_of_change (C := Try.checked) own started (by kernel_rfl) Try.func5
    (ChangeSpec.witness6 (enc := enc) (C := Try.checked) false ⟨#[], #[.slice none 0 0, .int .i64 0], []⟩ 8 (by kernel_rfl) (by kernel_rfl) (by kernel_rfl) (by kernel_rfl)) ?_
  intro W base args ds gs before hval0 hW _ _
  have hval : ∀ (j : Nat) t v, Try.f5.params[j]? = some t → args[j]? = some v → Value.okWide Try.prog W .any base t v := hval0
  have hW' := hW
  obtain ⟨p, q, hA0, hV, rfl, hfz, hnd⟩ := hW
  have hA : DataW.TrodAll enc Try.prog W 0 (fun _ => true) true Try.f5.params.toList args.toList ds p := hA0
  rw [Try.params5] at hA hval
  obtain ⟨v0, vs0, d0, ds0, p0, q0, hargs, rfl, rfl, h0, r0⟩ := trodAll_cons hA
  obtain ⟨v1, vs1, d1, ds1, p1, q1, rfl, rfl, rfl, h1, r1⟩ := trodAll_cons r0
  obtain ⟨rfl, rfl, rfl⟩ := trodAll_nil r1
  obtain rfl : args = #[v0, v1] := by cases args; simp_all
  obtain ⟨rfl, rfl⟩ := trodVars_none hV
  obtain ⟨a0, len0, cap0, zs0, rfl, hlen0, hcap0, hm0, hwf0, hI0⟩ := open_intlist Try.underlying22 Try.underlying3 cellsInt (hval 0 22 v0 rfl rfl) h0
  obtain ⟨a1, rfl, rfl, rfl, w1⟩ := open_int Try.underlying3 (hval 1 3 v1 rfl rfl) h1
  clear hA0 hval0
  exact (walk a0 len0 cap0 zs0 hlen0 hwf0 a1 w1 W hI0).mono fun e W' ⟨he, hg⟩ => ⟨_, he, law_post laidOut (by kernel_rfl) rfl rfl Try.underlying4 hW' rfl hg⟩

theorem over : Rows.numPartsRow.holds Try.pinned (OpenSpec.ofChange Rows.numPartsSpec) :=
  OpenClaim.holds_of_wide 5 Try.f5 rfl rfl rfl rfl rfl rfl rfl ⟨rfl, rfl, rfl, rfl, rfl⟩ rfl rfl rfl rfl rfl (by kernel_rfl) Try.func5 (by kernel_rfl)
    (of_decide_eq_true (by kernel_rfl)) (by unfold Func.isWrapper; first | (rw [if_pos (by decide +kernel)]; kernel_rfl) | (rw [if_neg (by decide +kernel)]; exact ⟨rfl, rfl⟩))
    (fun os started H enc _ => lifted os started H enc)

/-- the given statement. -/
theorem proved : Rows.NumPartsSaid := over
#print axioms proved
end Go.Proofs.Ytcidjmhadpoibaa.numParts
