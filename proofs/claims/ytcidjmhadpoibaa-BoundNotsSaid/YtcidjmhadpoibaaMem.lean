/-
  Memory that a call makes by append: one law at whatever source (no cells, or cells at an address).
-/
import Derived.WalkKit
import Derived.Laws.AppendOwnNone
import Derived.Below
namespace Go.Proofs.Ytcidjmhadpoibaa
set_option linter.unusedVariables false
open Go.RowKit

/-- what is appended: m elements of so many cells each, which hold news. -/
def Src (w : World) (sv : Value) (size m : Nat) (news : List Value) : Prop :=
  news.length = m * size ∧ ((sv = .slice none 0 0 ∧ m = 0) ∨ ∃ ad c, sv = .slice (some ad) m c ∧ ∀ j u, news[j]? = some u → w.cell? (ad.add j) = some u)

theorem wpList_append_src {P : Program} {w : World} {ops : Array Oper} {rest : List Oper} {o : Oper} {a : Act} {Q : Exit → Act → World → Prop} (hgd : o.guard = none) (s x : Operand) (t : TypeId)
    (ho : o.op = .call { callee := .builtin .append, args := #[s, x], argTypes := #[t, t] })
    (base : Nat) (e : TypeId) (i : TypeInfo) (z : Value) (size bytes : Nat) (ht : P.underlying t = some (.slice e)) (hi : P.info? e = some i) (hz : i.zero = some z)
    (hsize : i.size = size) (hby : i.bytes = bytes) (hzs : z.cells.size = size) (hsz : 0 < size)
    (v : Value) (n : Nat) (xs : List Value) (hs : a.eval s = v) (hown : w.ownsRow base e size v n xs)
    (sv : Value) (m : Nat) (news : List Value) (hx : a.eval x = sv) (hsrc : Src w sv size m news) (h1 : ∀ u ∈ news, u.oneCell' = true)
    (h63 : n + m ≤ maxLen) (hbytes : (n + m) * bytes ≤ 140737488355328) (hbase : base ≤ w.heap.size)
    (h : ∀ v' w', w'.ownsRow base e size v' (n + m) (xs ++ news) → w.grownBy w' v.ownBlock → (v' = .slice none 0 0 ↔ v = .slice none 0 0 ∧ m = 0) → wpList P ops Q rest (a.put o.dst v') w') : wpList P ops Q (o :: rest) a w := by
  obtain ⟨hl, ⟨rfl, rfl⟩ | ⟨ad, c, rfl, hnews⟩⟩ := hsrc
  · have hn : news = [] := List.eq_nil_of_length_eq_zero (by simpa using hl)
    subst hn
    refine wpList_append_own_none hgd s x t ho base e i size ht hi v n xs hs hown hx ?_
    exact h v w (by simpa using hown) ⟨rfl, rfl, rfl, Nat.le_refl _, fun _ _ _ => rfl⟩ (by simp)
  · exact wpList_append_own w hgd s x t ho base e i z size bytes ht hi hz hsize hby hzs hsz v n xs hs hown ad m c news hx hl hnews h1 h63 hbytes hbase h

/-- behind an append on a row of the call's own, nothing below its base has turned. -/
theorem below_append {B base size k : Nat} {W w w' : World} {e : TypeId} {v : Value} {xs : List Value} (hB : Below B W w) (hBb : B ≤ base) (hbw : base ≤ w.heap.size) (hown : w.ownsRow base e size v k xs) (hg : w.grownBy w' v.ownBlock) : Below B W w' :=
  hB.grown hg (Nat.le_trans hBb hbw) (fun j hj => Nat.le_trans hBb (hown.lt j hj).1)

theorem oneCell_ints (zs : List Int) : ∀ u ∈ zs.map (Value.int .i64), u.oneCell' = true := by
  intro u hu
  obtain ⟨z, _, rfl⟩ := List.mem_map.1 hu
  rfl

end Go.Proofs.Ytcidjmhadpoibaa
