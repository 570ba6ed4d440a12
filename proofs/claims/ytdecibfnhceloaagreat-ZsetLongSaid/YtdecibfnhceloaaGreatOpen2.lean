/-
  How arguments are opened: zones, and small numbers.
-/
import Derived.Test.YtdecibfnhceloaaGreatOpen
namespace Go.Proofs.YtdecibfnhceloaaGreat
set_option linter.unusedVariables false
open Go.ChangeShapes Go.WideShapes Go.ChangeAt Go.RowKit Go.Deep Go.Proofs.YtdecibfnhceloaaGreat.Eng

section
variable {H : Type} {en : TypeId × Value → H} {P : Program}
/-- a value of a struct's or an array's type. -/
theorem open_agg {α : Type} [Enc α] {G : α → Prop} {t : TypeId} (ho : Opens en P t α G) (hag : (∃ fs, P.underlying t = some (.struct fs)) ∨ ∃ n e, P.underlying t = some (.array n e)) {r : Reach} {b0 : Nat} {v : Value} {d : DataW H} {ps : List MemPlace} {W : World} {sp : Nat → Bool} {hl : Bool}
    (hval : Value.okWide P W r b0 t v) (hd : DataW.Trod en P W 0 sp hl t v d ps) : ∃ y : α, v = .agg (Enc.enc y).toArray ∧ G y := by
  obtain ⟨cs, rfl⟩ : ∃ cs : Array Value, v = .agg cs := by
    rcases hag with ⟨fs, ht⟩ | ⟨n, e, ht⟩
    · obtain ⟨cs, rfl, _⟩ := okWide_struct ht hval; exact ⟨cs, rfl⟩
    · simp only [Value.okWide, ht] at hval
      obtain ⟨cs, h1, _⟩ := hval
      exact ⟨cs, h1⟩
  obtain ⟨fuel, hf⟩ := hd
  obtain ⟨y, hy, hG⟩ := ho.2 _ _ _ _ _ _ _ hf
  refine ⟨y, ?_, hG⟩
  have : cs.toList = Enc.enc y := by simpa [Value.cells] using hy
  rw [← this]
theorem opens_zn {t e : TypeId} (ht : P.underlying t = some (.array 6 e)) (hc : P.cellsOf t = 6) (he : P.underlying e = some (.int .i64)) (hce : P.cellsOf e = 1) : Opens en P t Zn Zn.ins := by
  refine ⟨hc, fun W b sp hl fuel cs x h => ?_⟩
  obtain ⟨xs, m, rfl, rfl, hlen, hxs, hf⟩ := DataW.trod_array ht h
  rw [hc] at hlen
  have g : ∀ i, i < 6 → ∃ n, (cs.drop i).take 1 = [.int .i64 n] ∧ inK .i64 n := fun i hi => by
    have h1 := hf i hi
    rw [hce, Nat.mul_one, List.getElem?_eq_getElem (by omega)] at h1
    obtain ⟨n, e1, _, hw⟩ := DataW.trod_int he h1
    exact ⟨n, e1, inK_wf hw⟩
  obtain ⟨n0, e0, w0⟩ := g 0 (by omega)
  obtain ⟨n1, e1, w1⟩ := g 1 (by omega)
  obtain ⟨n2, e2, w2⟩ := g 2 (by omega)
  obtain ⟨n3, e3, w3⟩ := g 3 (by omega)
  obtain ⟨n4, e4, w4⟩ := g 4 (by omega)
  obtain ⟨n5, e5, w5⟩ := g 5 (by omega)
  match cs, hlen with
  | [c0, c1, c2, c3, c4, c5], _ =>
    simp at e0 e1 e2 e3 e4 e5
    subst e0; subst e1; subst e2; subst e3; subst e4; subst e5
    exact ⟨⟨n0, n1, n2, n3, n4, n5⟩, rfl, w0, w1, w2, w3, w4, w5⟩
/-- a number of 8 bits. -/
theorem open_u8 {t : TypeId} {r : Reach} {b0 : Nat} {v : Value} {d : DataW H} {ps : List MemPlace} {W : World} {sp : Nat → Bool} {hl : Bool} (ht : P.underlying t = some (.int .u8)) (hval : Value.okWide P W r b0 t v) (hd : DataW.Trod en P W 0 sp hl t v d ps) :
    ∃ n, v = .int .u8 n ∧ 0 ≤ n ∧ n ≤ 255 := by
  obtain ⟨n, rfl, _, _, hw⟩ := open_int ht hval hd
  have h : 0 ≤ n ∧ n ≤ 255 := by simpa [Lit.wf, IntKind.min, IntKind.max, IntKind.signed, IntKind.bits] using hw
  exact ⟨n, rfl, h⟩
end
end Go.Proofs.YtdecibfnhceloaaGreat
