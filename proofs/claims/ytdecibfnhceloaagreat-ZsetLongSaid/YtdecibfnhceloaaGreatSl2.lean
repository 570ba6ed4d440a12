/-
  Rows of the run's own, gone on: an append in place, and a part struck out (clear).
-/
import Derived.Test.YtdecibfnhceloaaGreatSl
namespace Go.Proofs.YtdecibfnhceloaaGreat
set_option linter.unusedVariables false
set_option linter.unusedSimpArgs false
open Go.RowKit Go.Proofs.YtdecibfnhceloaaGreat.Eng Enc

section
variable {α : Type} [Enc α]
theorem cellsL_take (l : List α) (i : Nat) : cellsL (l.take i) = (cellsL l).take (i * size α) := by
  induction l generalizing i with
  | nil => simp [cellsL]
  | cons x l ih =>
    cases i with
    | zero => simp [cellsL]
    | succ i =>
      simp only [List.take_succ_cons, cellsL, ih]
      have h1 : (enc x).take ((i + 1) * size α) = enc x := List.take_of_length_le (by rw [len, Nat.succ_mul]; omega)
      have h2 : (i + 1) * size α - size α = i * size α := by rw [Nat.succ_mul]; omega
      rw [List.take_append, h1, len, h2]
theorem Own.take {e : TypeId} {base : Nat} {W : World} {g cap : Nat} {l : List α} (h : Own e base W (.slice (some ⟨g, 0, none⟩) l.length cap) l) (i : Nat) (hi : i ≤ l.length) : Own e base W (.slice (some ⟨g, 0, none⟩) i cap) (l.take i) := by
  obtain ⟨hl, ⟨h0, _⟩ | ⟨g', cap', cur, h0, hb, hg, hn, hm, hs, ht⟩⟩ := h
  · cases h0
  · injection h0 with h0 h1 h2
    injection h0 with h0; injection h0 with h0
    subst h0; subst h2
    have hli : (l.take i).length = i := by simp; omega
    refine ⟨cellsL_len _, .inr ⟨g, cap, cur, by rw [hli], hb, hg, by rw [hli]; omega, hm, hs, ?_⟩⟩
    rw [hli, cellsL_take, ← ht, List.take_take]
    congr 1
    have := Nat.mul_le_mul_right (size α) hi
    omega
theorem Own.at0 {e : TypeId} {base : Nat} {W : World} {g n cap : Nat} {l : List α} (h : Own e base W (.slice (some ⟨g, 0, none⟩) n cap) l) : n = l.length ∧ base ≤ g ∧ g < W.heap.size ∧ ∃ cur, W.heap[g]? = some (.cells cur e (0, 0)) ∧ l.length ≤ cap ∧ cap ≤ maxLen ∧ cur.size = cap * size α ∧ cur.toList.take (l.length * size α) = cellsL l := by
  obtain ⟨hl, ⟨h0, _⟩ | ⟨g', cap', cur, h0, hb, hg, hn, hm, hs, ht⟩⟩ := h
  · cases h0
  · injection h0 with h0 h1 h2
    injection h0 with h0; injection h0 with h0
    subst h0; subst h1; subst h2
    exact ⟨rfl, hb, (Array.getElem?_eq_some_iff.1 hg).1, cur, hg, hn, hm, hs, ht⟩
/-- cells turned behind a row's list. -/
theorem Own.setRow {e : TypeId} {base : Nat} {W : World} {g n cap : Nat} {l : List α} (h : Own e base W (.slice (some ⟨g, 0, none⟩) n cap) l) {cur : Array Value} (hc : W.heap[g]? = some (.cells cur e (0, 0))) (o : Nat) (vs : List Value) (ho : l.length * size α ≤ o) (hov : o + vs.length ≤ cur.size) :
    Own e base (W.setRow g (cur.toList.take o ++ vs ++ cur.toList.drop (o + vs.length)).toArray) (.slice (some ⟨g, 0, none⟩) n cap) l := by
  obtain ⟨rfl, hb, hlt, cur', hg, hn, hm, hs, ht⟩ := h.at0
  rw [hg] at hc
  injection hc with hc; injection hc with hc _; subst hc
  refine ⟨cellsL_len _, .inr ⟨g, cap, _, rfl, hb, setRow_heap W g cur' _ e _ hg, hn, hm, ?_, ?_⟩⟩
  · simp only [List.size_toArray, List.length_append, List.length_take, List.length_drop, Array.length_toList]; omega
  · rw [List.append_assoc, List.take_append_of_le_length (by simp; omega), List.take_take, Nat.min_eq_left ho]; exact ht

theorem grown_setRow (W : World) (g : Nat) (cs : Array Value) : W.grownBy (W.setRow g cs) (some g) := ⟨rfl, rfl, rfl, by simp, fun k _ hk => setRow_other _ g k _ (fun e => hk (by simp [e]))⟩
theorem run_value {P : Program} {W W' : World} {m : Sem Value} {x : Value} (h : m.run P W = .ok x W') : (do pure (Next.value (← m)) : Sem Next).run P W = .ok (.value x) W' := by
  simp only [Sem.run_bind, h, Result.andThen, Sem.run_pure]
theorem storeCells_any {P : Program} {W : World} {g o : Nat} {e : TypeId} {cur : Array Value} {vs : List Value} (hg : W.heap[g]? = some (.cells cur e (0, 0))) (h : o + vs.length ≤ cur.size) (h1 : ∀ v ∈ vs, v.oneCell' = true) :
    (storeCells ⟨g, o, none⟩ vs).run P W = .ok () (W.setRow g (cur.toList.take o ++ vs ++ cur.toList.drop (o + vs.length)).toArray) := by
  have := run_storeCells_at P g o e vs 0 cur W hg (by simpa using h) h1
  simpa using this
/-- clear, at a part of a row. -/
theorem run_clear {P : Program} {W : World} {t e : TypeId} {i : TI} (ht : P.underlying t = some (.slice e)) (hT : TyOk P e i) (hp : 0 < i.zero.length) {g o n c : Nat} {cur : Array Value} (hg : W.heap[g]? = some (.cells cur e (0, 0))) (h : o + n * i.zero.length ≤ cur.size) (hn : 0 < n) :
    ∃ vs : List Value, vs.length = n * i.zero.length ∧ ∀ (ty : TypeId) (consts : Array Bool) (v : Value), v = .slice (some ⟨g, o, none⟩) n c → (builtin .clear #[t] ty consts #[v]).run P W = .ok (.value (.tuple #[])) (W.setRow g (cur.toList.take o ++ vs ++ cur.toList.drop (o + vs.length)).toArray) := by
  have hz := zero_cells hT
  refine ⟨(Builtin.zeroCells i.zero.toArray n).toList, by simp [Builtin.zeroCells], ?_⟩
  rintro ty consts v rfl
  have h1 : ∀ v ∈ (Builtin.zeroCells i.zero.toArray n).toList, v.oneCell' = true := by
    intro v hv
    simp only [Builtin.zeroCells, Array.toList_map, List.mem_map, Array.toList_range, List.mem_range] at hv
    obtain ⟨k, hk, rfl⟩ := hv
    have hm : k % i.zero.toArray.size < i.zero.length := by simp; exact Nat.mod_lt _ hp
    rw [getElem!_pos _ _ (by simpa using hm)]
    exact hT.ones _ (by simp)
  have hst := storeCells_any (P := P) (o := o) (vs := (Builtin.zeroCells i.zero.toArray n).toList) hg (by simpa [Builtin.zeroCells] using h) h1
  obtain ⟨m, rfl⟩ : ∃ m, n = m + 1 := ⟨n - 1, by omega⟩
  have hzr := hT.zero W
  generalize (if i.ag then Value.agg i.zero.toArray else i.zero.getD 0 undef) = z at hz hzr
  simp [builtin, Builtin.clear_, Sem.run_bind, run_underlying ht, hzr, Result.andThen, hz, hst]
end

/-- an append of nothing. -/
theorem run_append_nil {P : Program} {w : World} {t ty e : TypeId} {sz bytes : Nat} (hE : ElOk P t e sz bytes) (b n : Nat) (sv : Value) (hsrc : SrcC w sv sz 0 []) : (Builtin.append_ #[t, t] ty #[.slice (some ⟨b, 0, none⟩) n n, sv]).run P w = .ok (.slice (some ⟨b, 0, none⟩) n n) w := by
  obtain ⟨ht, ⟨i, z, hi, hz, hs, hb, hzs⟩, hp⟩ := hE
  obtain ⟨hl, ⟨rfl, _⟩ | ⟨ad, c, rfl, hc⟩⟩ := hsrc
  · simp [Builtin.append_, run_underlying ht, sizeOf, typeInfo, hi, Builtin.lenOf, Builtin.firstCells, loadCells, loadCellsFrom, storeCells]
  · simp [Builtin.append_, run_underlying ht, sizeOf, typeInfo, hi, Builtin.lenOf, Builtin.firstCells, loadCells, loadCellsFrom, storeCells]
/-- an append of something to a row that is full: a new block. -/
theorem run_append_new {P : Program} {w : World} {t ty e : TypeId} {sz bytes : Nat} (hE : ElOk P t e sz bytes) (base b n : Nat) (xs : List Value) (hown : w.ownsRow base e sz (.slice (some ⟨b, 0, none⟩) n n) n xs)
    (sv : Value) (m : Nat) (news : List Value) (hsrc : SrcC w sv sz m news) (hm : m ≠ 0) (h1 : ∀ u ∈ news, u.oneCell' = true) (h63 : n + m ≤ maxLen) (hbytes : (n + m) * bytes ≤ 140737488355328) :
    ∃ v' w', (Builtin.append_ #[t, t] ty #[.slice (some ⟨b, 0, none⟩) n n, sv]).run P w = .ok v' w' ∧ w'.ownsRow w.heap.size e sz v' (n + m) (xs ++ news) ∧ w.grownBy w' none := by
  obtain ⟨ht, ⟨i, z, hi, hz, hs, hb, hzs⟩, hp⟩ := hE
  obtain ⟨hl, ⟨rfl, rfl⟩ | ⟨ad, c, rfl, hc⟩⟩ := hsrc
  · exact absurd rfl hm
  · subst hs; subst hb
    have hsmall : n + m ≤ 9223372036854775807 := by simp only [maxLen] at h63; omega
    have hlen : (xs ++ news).length = (n + m) * i.size := by rw [List.length_append, hown.1, hl, Nat.add_mul]
    have holds : ∀ j u, xs[j]? = some u → w.cell? ((⟨b, 0, none⟩ : Addr).add j) = some u := World.ownsRow.cells hown (g := b) rfl
    have hr := run_append_grow (P := P) w t ty e i z ht hi hz ⟨b, 0, none⟩ n n xs hown.1 holds ad m c news hl hc (by omega) (by omega) (growslice_fits (by omega) hbytes)
    have hge := grownCap_ge w (n + m) n e
    have hcm : grownCap w (n + m) n e ≤ maxLen := grownCap_le_maxLen w (n + m) n e h63
    refine ⟨_, _, hr, ⟨hlen, .inr ⟨w.heap.size, _, _, rfl, Nat.le_refl _, World.alloc_heap_new w.drew _, hge, hcm, ?_, ?_⟩⟩, ⟨rfl, rfl, rfl, by simp, fun k hk _ => Below.heap_alloc w.drew _ k hk⟩⟩
    · simp only [Array.size_append, List.size_toArray, size_zeroCells, hzs, hown.1, hl, ← Nat.add_mul]
      congr 1
      omega
    · simp only [Array.toList_append, List.append_assoc]
      rw [← List.append_assoc, ← hlen]
      exact List.take_left
section
variable {α : Type} [Enc α]
theorem GenN.appNil {P : Program} {w0 : Base} {kp : List Nat → World → World → Prop} [hkp : KpOk w0 kp] {hp : List LB} {r L : List Nat} {w : World} {K : Value → World → Prop} {t ty e : TypeId} {bytes : Nat} {consts : Array Bool} {b n : Nat} {sv : Value}
    (hE : ElOk P t e (size α) bytes) (hsrc : ∀ w1, At w0 hp r L w w1 → SrcC w1 sv (size α) 0 []) (hk : ∀ w1, At w0 hp r L w w1 → K (.slice (some ⟨b, 0, none⟩) n n) w1) :
    GenN P w0 kp (builtin .append #[t, t] ty consts #[.slice (some ⟨b, 0, none⟩) n n, sv]) hp r L w K := ⟨fun w1 h1 => by
  have hrun := run_append_nil (ty := ty) hE b n sv (hsrc w1 h1)
  refine ⟨_, w1, ?_, hkp.ok h1 (Below.refl _ _), hk w1 h1⟩
  simp only [builtin, Sem.run_bind, hrun, Result.andThen, Sem.run_pure]⟩
theorem GenN.appN {P : Program} {w0 : Base} {kp : List Nat → World → World → Prop} [hkp : KpOk w0 kp] {hp : List LB} {r L : List Nat} {w : World} {K : Value → World → Prop} {t ty e : TypeId} {bytes : Nat} {consts : Array Bool} {b n : Nat} {sv : Value}
    (hE : ElOk P t e (size α) bytes) (l m : List α) (base : Nat) (hn : n = l.length) (hown : ∀ w1, At w0 hp r L w w1 → Own e base w1 (.slice (some ⟨b, 0, none⟩) n n) l) (hsrc : ∀ w1, At w0 hp r L w w1 → SrcC w1 sv (size α) m.length (cellsL m)) (hm : m ≠ [])
    (h63 : l.length + m.length ≤ maxLen) (hbytes : (l.length + m.length) * bytes ≤ 140737488355328)
    (hk : ∀ v' w1 w2, At w0 hp r L w w1 → Below w1.heap.size w1 w2 → Own e w1.heap.size w2 v' (l ++ m) → K v' w2) :
    GenN P w0 kp (builtin .append #[t, t] ty consts #[.slice (some ⟨b, 0, none⟩) n n, sv]) hp r L w K := ⟨fun w1 h1 => by
  subst hn
  obtain ⟨v', w2, hrun, ho, hg⟩ := run_append_new (ty := ty) hE base b _ _ (hown w1 h1) sv _ _ (hsrc w1 h1) (fun e => hm (List.eq_nil_of_length_eq_zero e)) (cellsL_one m) h63 hbytes
  have hB : Below w1.heap.size w1 w2 := ⟨hg.os, hg.tape, hg.output, hg.size, fun k hk => hg.block k hk (by simp)⟩
  refine ⟨v', w2, ?_, hkp.ok h1 hB, hk v' w1 w2 h1 hB ?_⟩
  · simp only [builtin, Sem.run_bind, hrun, Result.andThen, Sem.run_pure]
  · unfold Own; rw [cellsL_append, List.length_append]; exact ho⟩
end
end Go.Proofs.YtdecibfnhceloaaGreat
