/-
  How arguments are opened: lists of numbers, bounds, fractions and zones; differences.
-/
import Derived.Test.YtdecibfnhceloaaGreatLaw
import Derived.Test.YtdecibfnhceloaaGreatSl
import Derived.Deep.Slices
import Derived.OpenShut
namespace Go.Proofs.YtdecibfnhceloaaGreat
set_option linter.unusedVariables false
open Go.ChangeShapes Go.WideShapes Go.ChangeAt Go.RowKit Go.Deep Go.Proofs.YtdecibfnhceloaaGreat.Eng

/-- a number of 64 bits. -/
theorem inK_wf {n : Int} (h : (Lit.int .i64 n).wf = true) : inK .i64 n := wf_i64 h

section
variable {H : Type} {en : TypeId × Value → H} {P : Program}

/-- the readings of the type e are α's. -/
def Opens (en : TypeId × Value → H) (P : Program) (e : TypeId) (α : Type) [Enc α] (G : α → Prop) : Prop :=
  P.cellsOf e = Enc.size α ∧ ∀ (W : World) (b : Nat) (sp : Nat → Bool) (hl : Bool) (fuel : Nat) (cs : List Value) (x : DataW H × List MemPlace), DataW.trod en P W b sp hl fuel e cs = some x → ∃ y : α, cs = Enc.enc y ∧ G y

theorem opens_int {e : TypeId} (he : P.underlying e = some (.int .i64)) (hc : P.cellsOf e = 1) : Opens en P e Int fun z => inK .i64 z := by
  refine ⟨hc, fun W b sp hl fuel cs x h => ?_⟩
  obtain ⟨n, rfl, rfl, hw⟩ := DataW.trod_int he h
  exact ⟨n, rfl, inK_wf hw⟩

theorem opens_rt {e : TypeId} {f0 f1 : Field} (he : P.underlying e = some (.struct #[f0, f1])) (hc : P.cellsOf e = 2) (h0 : f0.offset = 0) (h1 : f1.offset = 1) (c0 : P.cellsOf f0.type = 1) (c1 : P.cellsOf f1.type = 1)
    (t0 : P.underlying f0.type = some (.int .i64)) (t1 : P.underlying f1.type = some (.int .i64)) : Opens en P e Rt fun z => inK .i64 z.num ∧ inK .i64 z.den := by
  refine ⟨hc, fun W b sp hl fuel cs x h => ?_⟩
  obtain ⟨y0, y1, n, rfl, hlen, k0, k1⟩ := trod_struct2 he h
  rw [hc] at hlen
  match cs, hlen with
  | [a, b], _ =>
    rw [h0, c0] at k0
    rw [h1, c1] at k1
    obtain ⟨m0, e0, _, w0⟩ := DataW.trod_int t0 k0
    obtain ⟨m1, e1, _, w1⟩ := DataW.trod_int t1 k1
    simp at e0 e1
    subst e0; subst e1
    exact ⟨⟨m0, m1⟩, rfl, inK_wf w0, inK_wf w1⟩

def Zn.ins (z : Zn) : Prop := inK .i64 z.a ∧ inK .i64 z.b ∧ inK .i64 z.c ∧ inK .i64 z.d ∧ inK .i64 z.e ∧ inK .i64 z.f

/-- a list that came in. -/
theorem open_list {α : Type} [Enc α] {G : α → Prop} {t e : TypeId} (ht : P.underlying t = some (.slice e)) (ho : Opens en P e α G) {W : World} {sp : Nat → Bool} {hl : Bool} {fuel : Nat} {cs : List Value} {x : DataW H × List MemPlace}
    (h : DataW.trod en P W 0 sp hl fuel t cs = some x) :
    ∃ (a : Option Addr) (l : List α) (cap : Nat), cs = [.slice a l.length cap] ∧ Sl W.heap.size W (.slice a l.length cap) l ∧ ∀ y ∈ l, G y := by
  obtain ⟨hc, ho⟩ := ho
  rcases open_slice ht h with ⟨rfl, rfl⟩ | ⟨a, len, cap, m, n, D, Pl, rfl, hb, hl1, hm, hmm, rfl, hx⟩
  · exact ⟨none, [], 0, rfl, Sl.nil, by simp⟩
  have hle : len ≤ m := by rw [hmm]; split <;> omega
  have key : ∀ i, i < len → ∃ y : α, G y ∧ ∀ j c, (Enc.enc y)[j]? = some c → W.cell? ((a.add (i * Enc.size α)).add j) = some c := by
    intro i hi
    obtain ⟨cs', h1, h2⟩ := hx i (by omega)
    obtain ⟨y, rfl, hy⟩ := ho _ _ _ _ _ _ _ h2
    obtain ⟨_, hlen, hcell⟩ := World.cells?_some h1
    rw [hc] at hcell hlen
    exact ⟨y, hy, fun j c hj => by rw [hcell j (by rw [← Enc.len y]; exact (List.getElem?_eq_some_iff.1 hj).1), hj]⟩
  by_cases h0 : len = 0
  · subst h0
    refine ⟨some a, [], cap, rfl, ⟨some a, cap, rfl, by simp, hm, by simp, by simp⟩, by simp⟩
  obtain ⟨y0, _⟩ := key 0 (by omega)
  haveI : Inhabited α := ⟨y0⟩
  obtain ⟨f, hf⟩ := choose_lt key
  have hll : ((List.range len).map f).length = len := by simp
  obtain ⟨b, o, spot⟩ := a
  have hsp : spot = none := by
    obtain ⟨_, h2⟩ := hf 0 (by omega)
    have hp := Enc.pos (α := α)
    rw [← Enc.len (f 0)] at hp
    have := World.cell?_spot (h2 0 _ (List.getElem?_eq_getElem hp))
    simpa [Addr.add] using this
  subst hsp
  refine ⟨some ⟨b, o, none⟩, (List.range len).map f, cap, by rw [hll], ?_, ?_⟩
  · refine ⟨some ⟨b, o, none⟩, cap, rfl, by rw [hll]; exact hl1, hm, by simp, fun k x hk => ?_⟩
    have hk' : k < len := by have := (List.getElem?_eq_some_iff.1 hk).1; simpa using this
    have hx' : x = f k := by simp [hk'] at hk; exact hk.symm
    subst hx'
    obtain ⟨_, h2⟩ := hf k hk'
    refine ⟨b, o, rfl, ?_, fun i c hi => ?_⟩
    · have hp := Enc.pos (α := α)
      rw [← Enc.len (f k)] at hp
      have := World.block_lt_of_cell? W _ (h2 0 _ (List.getElem?_eq_getElem hp))
      simpa [addr_addL] using this
    · have := h2 i c hi
      rw [addr_addL, addr_addL, Nat.add_assoc] at this
      exact this
  · intro y hy
    obtain ⟨i, hi, rfl⟩ := List.mem_map.1 hy
    exact (hf i (List.mem_range.1 hi)).1

/-- a struct of two fields of one cell each. -/
theorem open_two {t : TypeId} {f0 f1 : Field} {r : Reach} {b0 : Nat} {v : Value} {d : DataW H} {ps : List MemPlace} {W : World} {sp : Nat → Bool} {hl : Bool} (ht : P.underlying t = some (.struct #[f0, f1])) (hc : P.cellsOf t = 2) (h0 : f0.offset = 0) (h1 : f1.offset = 1) (c0 : P.cellsOf f0.type = 1) (c1 : P.cellsOf f1.type = 1)
    (hval : Value.okWide P W r b0 t v) (hd : DataW.Trod en P W 0 sp hl t v d ps) :
    ∃ v0 v1 y0 y1 n, v = .agg #[v0, v1] ∧ DataW.trod en P W 0 sp hl n f0.type [v0] = some y0 ∧ DataW.trod en P W 0 sp hl n f1.type [v1] = some y1 := by
  obtain ⟨cs, rfl, hn⟩ := okWide_struct ht hval
  rw [hc] at hn
  obtain ⟨l⟩ := cs
  obtain ⟨fuel, hf⟩ := hd
  match l, hn with
  | [a, b], _ =>
    obtain ⟨y0, y1, n, _, _, k0, k1⟩ := trod_struct2 ht hf
    rw [h0, c0] at k0
    rw [h1, c1] at k1
    exact ⟨a, b, y0, y1, n, rfl, by simpa [Value.cells] using k0, by simpa [Value.cells] using k1⟩

/-- a struct of a number and a list. -/
theorem open_numlist {α : Type} [Enc α] {G : α → Prop} {t e : TypeId} {f0 f1 : Field} {r : Reach} {b0 : Nat} {v : Value} {d : DataW H} {ps : List MemPlace} {W : World} {sp : Nat → Bool} {hl : Bool} (ht : P.underlying t = some (.struct #[f0, f1])) (hc : P.cellsOf t = 2) (h0 : f0.offset = 0) (h1 : f1.offset = 1) (c0 : P.cellsOf f0.type = 1) (c1 : P.cellsOf f1.type = 1)
    (t0 : P.underlying f0.type = some (.int .i64)) (t1 : P.underlying f1.type = some (.slice e)) (ho : Opens en P e α G)
    (hval : Value.okWide P W r b0 t v) (hd : DataW.Trod en P W 0 sp hl t v d ps) :
    ∃ n a l cap, v = .agg #[.int .i64 n, .slice a (l : List α).length cap] ∧ inK .i64 n ∧ Sl W.heap.size W (.slice a l.length cap) l ∧ ∀ y ∈ l, G y := by
  obtain ⟨v0, v1, y0, y1, n, rfl, k0, k1⟩ := open_two ht hc h0 h1 c0 c1 hval hd
  obtain ⟨m, e0, _, w0⟩ := DataW.trod_int t0 k0
  obtain ⟨a, l, cap, e1, hS, hG⟩ := open_list t1 ho k1
  simp at e0 e1
  subst e0; subst e1
  exact ⟨m, a, l, cap, rfl, inK_wf w0, hS, hG⟩

theorem open_lst {α : Type} [Enc α] {G : α → Prop} {t e : TypeId} {r : Reach} {b0 : Nat} {v : Value} {d : DataW H} {ps : List MemPlace} {W : World} {sp : Nat → Bool} {hl : Bool} (ht : P.underlying t = some (.slice e)) (ho : Opens en P e α G)
    (hval : Value.okWide P W r b0 t v) (hd : DataW.Trod en P W 0 sp hl t v d ps) :
    ∃ a l cap, v = .slice a (l : List α).length cap ∧ Sl W.heap.size W (.slice a l.length cap) l ∧ ∀ y ∈ l, G y := by
  obtain ⟨a', len, cap', rfl⟩ := okWide_slice ht hval
  obtain ⟨fuel, hf⟩ := hd
  obtain ⟨a, l, cap, e1, hS, hG⟩ := open_list ht ho hf
  simp [Value.cells] at e1
  obtain ⟨rfl, rfl, rfl⟩ := e1
  exact ⟨_, l, _, rfl, hS, hG⟩

theorem open_rt {t : TypeId} {f0 f1 : Field} {r : Reach} {b0 : Nat} {v : Value} {d : DataW H} {ps : List MemPlace} {W : World} {sp : Nat → Bool} {hl : Bool} (ht : P.underlying t = some (.struct #[f0, f1])) (hc : P.cellsOf t = 2) (h0 : f0.offset = 0) (h1 : f1.offset = 1) (c0 : P.cellsOf f0.type = 1) (c1 : P.cellsOf f1.type = 1)
    (t0 : P.underlying f0.type = some (.int .i64)) (t1 : P.underlying f1.type = some (.int .i64))
    (hval : Value.okWide P W r b0 t v) (hd : DataW.Trod en P W 0 sp hl t v d ps) :
    ∃ n m, v = .agg #[.int .i64 n, .int .i64 m] ∧ inK .i64 n ∧ inK .i64 m := by
  obtain ⟨v0, v1, y0, y1, n, rfl, k0, k1⟩ := open_two ht hc h0 h1 c0 c1 hval hd
  obtain ⟨m, e0, _, w0⟩ := DataW.trod_int t0 k0
  obtain ⟨m', e1, _, w1⟩ := DataW.trod_int t1 k1
  simp at e0 e1
  subst e0; subst e1
  exact ⟨m, m', rfl, inK_wf w0, inK_wf w1⟩
end
end Go.Proofs.YtdecibfnhceloaaGreat
