/-
  Memory that a call makes by append: one law at whatever source (no cells, or cells at an address).
-/
import Derived.Test.YtdecibfnhceloaaGreatKit
import Derived.Laws.AppendOwnNone
import Derived.Below
namespace Go.Proofs.YtdecibfnhceloaaGreat
set_option linter.unusedVariables false
open Go.RowKit

/-- what is appended: m elements of so many cells each, which hold news. -/
def Src (w : World) (sv : Value) (size m : Nat) (news : List Value) : Prop :=
  news.length = m * size ∧ ((sv = .slice none 0 0 ∧ m = 0) ∨ ∃ ad c, sv = .slice (some ad) m c ∧ ∀ j u, news[j]? = some u → w.cell? (ad.add j) = some u)

theorem wpList_append_src {P : Program} {w : World} {ops : Array Oper} {rest : List Oper} {o : Oper} {a : Act} {Q : Exit → Act → World → Prop} (hgd : o.guard = none) (s x : Operand) (t : TypeId)
    (ho : o.op = .call { callee := .builtin .append, args := #[s, x], argTypes := #[t, t] })
    (base : Nat) (e : TypeId) (i : TypeInfo) (z : Value) (size bytes : Nat) (ht : P.underlying t = some (.slice e)) (hi : P.info? e = some i) (hz : i.zero = some z)
    (hsize : i.size = size) (hby : i.bytes = bytes) (hzs : z.cells.size = size) (hsz : 0 < size)
    (v : Value) (n : Nat) (xs : List Value) (hs : a.eval s = v) (hown : w.ownsRow base e size v n xs)
    (sv : Value) (m : Nat) (news : List Value) (hx : a.eval x = sv) (hsrc : Src w sv size m news) (h1 : ∀ u ∈ news, u.oneCell' = true)
    (h63 : n + m ≤ maxLen) (hbytes : (n + m) * bytes ≤ 140737488355328) (hbase : base ≤ w.heap.size)
    (h : ∀ v' w', w'.ownsRow base e size v' (n + m) (xs ++ news) → w.grownBy w' v.ownBlock → (v' = .slice none 0 0 ↔ v = .slice none 0 0 ∧ m = 0) → wpList P ops Q rest (a.put o.dst v') w') : wpList P ops Q (o :: rest) a w := by
  obtain ⟨hl, ⟨rfl, rfl⟩ | ⟨ad, c, rfl, hnews⟩⟩ := hsrc
  · have hn : news = [] := List.eq_nil_of_length_eq_zero (by simpa using hl)
    subst hn
    refine wpList_append_own_none hgd s x t ho base e i size ht hi v n xs hs hown hx ?_
    exact h v w (by simpa using hown) ⟨rfl, rfl, rfl, Nat.le_refl _, fun _ _ _ => rfl⟩ (by simp)
  · exact wpList_append_own w hgd s x t ho base e i z size bytes ht hi hz hsize hby hzs hsz v n xs hs hown ad m c news hx hl hnews h1 h63 hbytes hbase h

/-- behind an append on a row of the call's own, nothing below its base has turned. -/
theorem below_append {B base size k : Nat} {W w w' : World} {e : TypeId} {v : Value} {xs : List Value} (hB : Below B W w) (hBb : B ≤ base) (hbw : base ≤ w.heap.size) (hown : w.ownsRow base e size v k xs) (hg : w.grownBy w' v.ownBlock) : Below B W w' :=
  hB.grown hg (Nat.le_trans hBb hbw) (fun j hj => Nat.le_trans hBb (hown.lt j hj).1)

theorem oneCell_ints (zs : List Int) : ∀ u ∈ zs.map (Value.int .i64), u.oneCell' = true := by
  intro u hu
  obtain ⟨z, _, rfl⟩ := List.mem_map.1 hu
  rfl

/-- The slice value sv holds the ints zs, in a block below n; or it is empty. -/
def Ints (n : Nat) (W : World) (sv : Value) (zs : List Int) : Prop :=
  (∃ a cap, sv = .slice a 0 cap ∧ (a = none → cap = 0) ∧ zs = []) ∨ ∃ b off cap, sv = .slice (some ⟨b, off, none⟩) zs.length cap ∧ b < n ∧ ∀ j, j < zs.length → W.cell? ⟨b, off + j, none⟩ = some (.int .i64 (zs[j]?.getD 0))
theorem Ints.below {n : Nat} {A B : World} (h : Below n A B) {sv : Value} {zs : List Int} : Ints n A sv zs → Ints n B sv zs
  | .inl e => .inl e
  | .inr ⟨b, off, cap, e, hb, hc⟩ => .inr ⟨b, off, cap, e, hb, fun j hj => (h.cell (p := ⟨b, off + j, none⟩) hb).trans (hc j hj)⟩
theorem Ints.upto {n m : Nat} {A : World} (h : n ≤ m) {sv : Value} {zs : List Int} : Ints n A sv zs → Ints m A sv zs
  | .inl e => .inl e
  | .inr ⟨b, off, cap, e, hb, hc⟩ => .inr ⟨b, off, cap, e, Nat.lt_of_lt_of_le hb h, hc⟩

theorem Ints.src {n : Nat} {W : World} {sv : Value} {zs : List Int} (h : Ints n W sv zs) : Src W sv 1 zs.length (zs.map (Value.int .i64)) := by
  rcases h with ⟨a, cap, rfl, hn, rfl⟩ | ⟨b, off, cap, rfl, hb, hc⟩
  · refine ⟨rfl, ?_⟩
    cases a with
    | none => obtain rfl := hn rfl; exact .inl ⟨rfl, rfl⟩
    | some ad => exact .inr ⟨ad, cap, rfl, fun j u hu => by simp at hu⟩
  · refine ⟨by simp, .inr ⟨⟨b, off, none⟩, cap, rfl, fun j u hu => ?_⟩⟩
    rw [List.getElem?_map] at hu
    cases hz : zs[j]? with
    | none => rw [hz] at hu; cases hu
    | some z =>
      rw [hz] at hu
      have hj : j < zs.length := (List.getElem?_eq_some_iff.1 hz).1
      have := hc j hj
      rw [hz] at this
      rw [Addr.add_lit, this]
      exact hu
theorem ownsRow_form {W : World} {base : Nat} {e : TypeId} {size k : Nat} {v : Value} {xs : List Value} (h : W.ownsRow base e size v k xs) : ∃ a cap, v = .slice a k cap := by
  obtain ⟨_, ⟨rfl, rfl⟩ | ⟨g, cap, cur, rfl, _⟩⟩ := h
  · exact ⟨_, _, rfl⟩
  · exact ⟨_, _, rfl⟩
theorem ownsRow_lower {W : World} {base base' : Nat} {e : TypeId} {size k : Nat} {v : Value} {xs : List Value} (h : W.ownsRow base e size v k xs) (hb : base' ≤ base) : W.ownsRow base' e size v k xs := by
  obtain ⟨hl, h0 | ⟨g, cap, cur, e1, e2, e3⟩⟩ := h
  · exact ⟨hl, .inl h0⟩
  · exact ⟨hl, .inr ⟨g, cap, cur, e1, Nat.le_trans hb e2, e3⟩⟩
theorem Ints.owned {W : World} {base : Nat} {e : TypeId} {sv : Value} {zs : List Int} (h : W.ownsRow base e 1 sv zs.length (zs.map (Value.int .i64))) : Ints W.heap.size W sv zs := by
  obtain ⟨_, ⟨rfl, h0⟩ | ⟨g, cap, cur, rfl, _, hg, _, _, _, _⟩⟩ := id h
  · exact .inl ⟨_, _, by rfl, fun _ => rfl, List.eq_nil_of_length_eq_zero h0⟩
  · refine .inr ⟨g, 0, cap, rfl, (Array.getElem?_eq_some_iff.1 hg).1, fun j hj => ?_⟩
    have := h.cells (g := g) rfl j (.int .i64 (zs[j]?.getD 0)) (by rw [List.getElem?_map]; simp [hj])
    rwa [Addr.add_lit] at this


/-- the ints L lie at the head of block g, which may be written. -/
def RowAt (T : TypeId) (W : World) (g : Nat) (L : List Int) : Prop :=
  ∃ cur : Array Value, W.heap[g]? = some (.cells cur T (0, 0)) ∧ L.length ≤ cur.size ∧ ∀ j, j < L.length → cur[j]? = some (.int .i64 (L[j]?.getD 0))
theorem RowAt.lt {T : TypeId} {W : World} {g : Nat} {L : List Int} (h : RowAt T W g L) : g < W.heap.size := by
  obtain ⟨cur, hg, _⟩ := h; exact (Array.getElem?_eq_some_iff.1 hg).1
theorem RowAt.cell {T : TypeId} {W : World} {g : Nat} {L : List Int} (h : RowAt T W g L) {j : Nat} (hj : j < L.length) : W.cell? ⟨g, j, none⟩ = some (.int .i64 (L[j]?.getD 0)) := by
  obtain ⟨cur, hg, _, hc⟩ := h
  simp [World.cell?, hg, hc j hj]
theorem RowAt.frozen {T : TypeId} {W : World} {g : Nat} {L : List Int} (h : RowAt T W g L) (j : Nat) : W.frozen? ⟨g, j, none⟩ = false := by
  obtain ⟨cur, hg, _, hc⟩ := h
  simp [World.frozen?, hg]
theorem RowAt.kept {T : TypeId} {W W' : World} {g : Nat} {L : List Int} (h : RowAt T W g L) (hb : W'.heap[g]? = W.heap[g]?) : RowAt T W' g L := by
  obtain ⟨cur, hg, r⟩ := h; exact ⟨cur, hb.trans hg, r⟩
theorem RowAt.below {T : TypeId} {n : Nat} {W W' : World} {g : Nat} {L : List Int} (h : RowAt T W g L) (hb : Below n W W') (hn : g < n) : RowAt T W' g L := h.kept (hb.block g hn)
theorem RowAt.set {T : TypeId} {W : World} {g : Nat} {L : List Int} (h : RowAt T W g L) {j : Nat} (hj : j < L.length) (x : Int) : RowAt T (W.setCell ⟨g, j, none⟩ (.int .i64 x)) g (L.set j x) := by
  obtain ⟨cur, hg, hl, hc⟩ := h
  have hlt := (Array.getElem?_eq_some_iff.1 hg).1
  refine ⟨cur.setIfInBounds j (.int .i64 x), ?_, by simpa using hl, fun i hi => ?_⟩
  · simp only [World.setCell]
    rw [Array.getElem?_modify, if_pos rfl, hg]
    rfl
  · simp only [List.length_set] at hi
    rw [Array.getElem?_setIfInBounds, List.getElem?_set]
    by_cases hij : j = i
    · subst hij
      rw [if_pos rfl, if_pos rfl, if_pos (by omega), if_pos hj]; rfl
    · rw [if_neg hij, if_neg hij]
      exact hc i hi
theorem RowAt.of_own {T : TypeId} {W : World} {base g cap : Nat} {L : List Int} (h : W.ownsRow base T 1 (.slice (some ⟨g, 0, none⟩) L.length cap) L.length (L.map (Value.int .i64))) : RowAt T W g L ∧ base ≤ g := by
  obtain ⟨_, ⟨e, _⟩ | ⟨g', cap', cur, e, hb, hg, hn, hcap, hsz, htake⟩⟩ := h
  · cases e
  · injection e with e1 e2 e3
    simp only [Option.some.injEq, Addr.mk.injEq, and_true] at e1
    subst e1
    refine ⟨⟨cur, hg, by omega, fun j hj => ?_⟩, hb⟩
    have h1 : (cur.toList.take (L.length * 1))[j]? = (L.map (Value.int .i64))[j]? := by rw [htake]
    rw [List.getElem?_take, if_pos (by omega), List.getElem?_map] at h1
    rw [List.getElem?_eq_getElem hj] at h1 ⊢
    simpa using h1
theorem RowAt.ints {T : TypeId} {W : World} {g cap : Nat} {L : List Int} (h : RowAt T W g L) : Ints W.heap.size W (.slice (some ⟨g, 0, none⟩) L.length cap) L :=
  .inr ⟨g, 0, cap, rfl, h.lt, fun j hj => by rw [Nat.zero_add]; exact h.cell hj⟩

end Go.Proofs.YtdecibfnhceloaaGreat
