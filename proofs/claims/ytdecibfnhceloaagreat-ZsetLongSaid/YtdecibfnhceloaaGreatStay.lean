/-
  What stays: the worlds that a run has come by, each of which still stands below; one list, lengthened call by call.
-/
import Derived.Test.YtdecibfnhceloaaGreatClose
import Derived.Test.YtdecibfnhceloaaGreatKeeps
import Derived.Test.YtdecibfnhceloaaGreatSl2
namespace Go.Proofs.YtdecibfnhceloaaGreat
set_option linter.unusedVariables false
open Go.RowKit Go.Proofs.YtdecibfnhceloaaGreat.Eng Enc

/-- the worlds that the run has come by; w: the last one. -/
structure Stay (w0 : Base) (l : List World) (w : World) : Prop where
  base : ∀ X, X ∈ l → Below w0.B w0.W X
  all : ∀ X, X ∈ l → Below X.heap.size X w
theorem Stay.start {w0 : Base} {w : World} (h : Below w0.B w0.W w) : Stay w0 [w] w :=
  ⟨fun X hX => by rw [List.mem_singleton.1 hX]; exact h, fun X hX => by rw [List.mem_singleton.1 hX]; exact Below.refl _ _⟩
theorem Stay.first {w : World} : Stay ⟨w, w.heap.size, Nat.le_refl _⟩ [w] w := Stay.start (Below.refl _ _)
section
variable {w0 : Base} {l : List World} {hp : List LB} {r L : List Nat} {w w1 w2 : World}
/-- at a world at hand. -/
theorem Stay.at (st : Stay w0 l w) (h : At w0 hp r L w w1) (hL : ∀ b, b ∈ L → w.heap.size ≤ b) : Stay w0 (w1 :: l) w1 := by
  refine ⟨fun X hX => ?_, fun X hX => ?_⟩
  · rcases List.mem_cons.1 hX with rfl | hX
    · exact h.below
    · exact st.base X hX
  · rcases List.mem_cons.1 hX with rfl | hX
    · exact Below.refl _ _
    · exact h.from (st.base X hX) (st.all X hX) fun b hb => Nat.le_trans (st.all X hX).size (hL b hb)
/-- the like where a block of the run's own has been written that those worlds know nothing of. -/
theorem Stay.at' (st : Stay w0 l w) (h : At w0 hp r L w w1) (hL : ∀ X, X ∈ l → ∀ b, b ∈ L → X.heap.size ≤ b) : Stay w0 (w1 :: l) w1 := by
  refine ⟨fun X hX => ?_, fun X hX => ?_⟩
  · rcases List.mem_cons.1 hX with rfl | hX
    · exact h.below
    · exact st.base X hX
  · rcases List.mem_cons.1 hX with rfl | hX
    · exact Below.refl _ _
    · exact h.from (st.base X hX) (st.all X hX) (hL X hX)
theorem Stay.go (st : Stay w0 l w) (h : w0.B ≤ w.heap.size) (hb : Below w0.B w0.W w) (hB : Below w.heap.size w w2) : Stay w0 (w2 :: l) w2 := by
  refine ⟨fun X hX => ?_, fun X hX => ?_⟩
  · rcases List.mem_cons.1 hX with rfl | hX
    · exact hb.trans (hB.mono h)
    · exact st.base X hX
  · rcases List.mem_cons.1 hX with rfl | hX
    · exact Below.refl _ _
    · exact (st.all X hX).trans (hB.mono (st.all X hX).size)
theorem Stay.next (st : Stay w0 l w) (h : At w0 hp r L w w1) (hL : ∀ b, b ∈ L → w.heap.size ≤ b) (hB : Below w1.heap.size w1 w2) : Stay w0 (w2 :: w1 :: l) w2 :=
  (st.at h hL).go (Nat.le_trans w0.le h.below.size) h.below hB
theorem Stay.sub {m : List World} (st : Stay w0 l w) (h : ∀ X, X ∈ m → X ∈ l) : Stay w0 m w := ⟨fun X hX => st.base X (h X hX), fun X hX => st.all X (h X hX)⟩
theorem Stay.here (st : Stay w0 l w) (hb : Below w0.B w0.W w) : Stay w0 (w :: l) w := ⟨fun X hX => by rcases List.mem_cons.1 hX with rfl | hX; exact hb; exact st.base X hX, fun X hX => by rcases List.mem_cons.1 hX with rfl | hX; exact Below.refl _ _; exact st.all X hX⟩
theorem Stay.get (st : Stay w0 l w) {X : World} (hX : X ∈ l) : Below X.heap.size X w := st.all X hX
end
/-- a list that was shown at a world that the run has come by. -/
theorem Sl.st {α : Type} [Enc α] {w0 : Base} {l : List World} {X w : World} {sv : Value} {m : List α} (h : Sl X.heap.size X sv m) (st : Stay w0 l w) (hX : X ∈ l := by simp) : Sl w.heap.size w sv m := h.go (st.get hX) (st.get hX).size
/-- a slice's beginning. -/
theorem Sl.pre {α : Type} [Enc α] {n : Nat} {W : World} {a : Option Addr} {m cap : Nat} {l : List α} (h : Sl n W (.slice a m cap) l) (hi : Nat) (h2 : hi ≤ l.length) : Sl n W (.slice a hi cap) (l.take hi) := by
  obtain ⟨a', cap', e, c1, c2, c3, c4⟩ := h
  injection e with e1 e2 e3
  subst e1; subst e2; subst e3
  have hl : (l.take hi).length = hi := by simp; omega
  refine ⟨_, _, by rw [hl], by rw [hl]; omega, c2, c3, fun k x hk => ?_⟩
  rw [List.getElem?_take] at hk
  split at hk
  case isFalse => cases hk
  exact c4 k x hk
theorem Fresh.st {w0 : Base} {l : List World} {X w : World} {e : TypeId} {base : Nat} {sv : Value} {m : List Int} (h : Fresh e base X sv m) (st : Stay w0 l w) (hX : X ∈ l := by simp) : Fresh e base w sv m := h.below (st.get hX)
theorem Own.st {α : Type} [Enc α] {w0 : Base} {l : List World} {X w : World} {e : TypeId} {base : Nat} {sv : Value} {m : List α} (h : Own e base X sv m) (st : Stay w0 l w) (hX : X ∈ l := by simp) : Own e base w sv m := h.below (st.get hX)

theorem infoB0 : (Tryz.prog.info? 41).map (fun i => i.zero.map fun v => v.cells.toList) = some (some [Value.int .i64 0]) := by kernel_rfl
/-- a slice that is made: all zeros. -/
theorem cells_rep {α : Type} [Enc α] (z : α) (n : Nat) : cellsL (List.replicate n z) = (List.range (n * size α)).map fun k => (enc z)[k % size α]?.getD undef := by
  induction n with
  | zero => simp [cellsL]
  | succ n ih =>
    rw [List.replicate_succ', cellsL_append, ih, Nat.succ_mul, List.range_add, List.map_append]
    congr 1
    simp only [cellsL, List.append_nil, List.map_map]
    apply List.ext_getElem?
    intro k
    rw [List.getElem?_map]
    rcases Nat.lt_or_ge k (size α) with h | h
    · rw [List.getElem?_range h]
      simp only [Option.map_some, Function.comp]
      rw [Nat.add_comm, Nat.add_mul_mod_self_right, Nat.mod_eq_of_lt h, List.getElem?_eq_getElem (by rw [len]; exact h)]; rfl
    · rw [List.getElem?_eq_none (by rw [len]; exact h), List.getElem?_eq_none (l := List.range (size α)) (by simpa using h)]; rfl
theorem GenV.mks {α : Type} [Enc α] {P : Program} {w0 : Base} {kp : List Nat → World → World → Prop} [hkp : KpOk w0 kp] {hp : List LB} {r L : List Nat} {w : World} {K : Value → World → Prop} {t e : TypeId} {bytes : Nat} (hE : ElOk P t e (size α) bytes) (z : α)
    (hz : (P.info? e).map (fun i => i.zero.map fun v => v.cells.toList) = some (some (enc z))) (n : Nat) {i : Int} (hi : i = n) (hbig : n * size α ≤ 16777216) (hbytes : bytes * n ≤ 281474976710656)
    (hk : ∀ v w1 w2, At w0 hp r L w w1 → Below w1.heap.size w1 w2 → Own e w1.heap.size w2 v (List.replicate n z) → K v w2) : GenV P w0 kp (Instr.makeSlice t (.int .i64 i) (.int .i64 i)) hp r L w K := ⟨fun w1 h1 => by
  subst hi
  obtain ⟨ht, ⟨inf, zv, hi, hzv, hss, hby, hzs⟩, hp⟩ := hE
  obtain ⟨w2, hr2, hown, hg2⟩ := run_makeSlice_full (P := P) w1 w1.heap.size _ _ inf zv (size α) ht hi hzv hss .i64 .i64 n hbig (by rw [hby]; exact hbytes) (by
    have h1 : n * 1 ≤ n * size α := Nat.mul_le_mul_left n hp
    unfold maxLen; omega) (Nat.le_refl _)
  have hB2 : Below w1.heap.size w1 w2 := ⟨hg2.os, hg2.tape, hg2.output, hg2.size, fun k hk => hg2.block k hk (by simp)⟩
  refine ⟨_, w2, hr2, hkp.ok h1 hB2, hk _ w1 w2 h1 hB2 ?_⟩
  have hzc : zv.cells.toList = enc z := by
    rw [hi] at hz
    simp only [Option.map_some, Option.some.injEq, hzv] at hz
    exact hz
  unfold Own
  rw [List.length_replicate, cells_rep]
  have e1 : (madeCells zv.cells (n * size α)).toList = (List.range (n * size α)).map fun k => (enc z)[k % size α]?.getD undef := by
    unfold madeCells
    simp only [Array.toList_map, Array.toList_range]
    refine List.map_congr_left fun k _ => ?_
    rw [← hzc]
    have hm : k % size α < zv.cells.size := by rw [hzs]; exact Nat.mod_lt _ hp
    rw [hzs, getElem!_pos zv.cells _ hm, Array.getElem?_toList, Array.getElem?_eq_getElem hm]; rfl
  rw [← e1]
  exact hown⟩
/-- a loop's invariant, behind rounds that are gone through one by one. -/
theorem LoopI.invC0 {w0 : Base} {body : (Exit → St → Prop) → St → Prop} {cb : Code} {K : Exit → St → Prop} {fr : Fr} {hp : List LB} {r L : List Nat} {w : World} {df : List Deferred}
    {α : Type} (vals : α → List (Nat × SV)) (wd : α → World) (Φ : α → Prop) (μ : α → Nat)
    (h0 : ∀ w1, At w0 hp r L w w1 → ∃ x, headK cb (vals x) fr (fun fr' => Cov fr' hp r df ⟨fr, hp, r, L, w, df⟩) ∧ wd x = w1 ∧ Φ x)
    (h1 : ∀ x, Φ x → headK cb (vals x) fr fun fr' => body
        (fun e s2 => match e with
          | .normal => s2.on fun fr2 hp2 r2 L2 w2 df2 => EndI w0 hp2 r2 L2 w2 undef fun _ w1 => ∃ y, headK cb (vals y) fr (fun fr' => Cov fr' hp r df ⟨fr2, hp2, r2, L2, w2, df2⟩) ∧ wd y = w1 ∧ Φ y ∧ μ y < μ x
          | e => K e s2) ⟨fr', hp, r, [], wd x, df⟩) : unrD w0 body cb K 0 ⟨fr, hp, r, L, w, df⟩ := ⟨α, vals, fun _ => hp, wd, Φ, μ, h0, h1⟩
/-- a list that a loop makes longer, in a row of the run's own: the worlds that stay; the row lies behind base, and base behind them and behind the run's blocks. -/
structure Lp {α : Type} [Enc α] (w0 : Base) (l : List World) (r : List Nat) (e : TypeId) (base : Nat) (W : World) (v : Value) (xs : List α) : Prop where
  st : Stay w0 l W
  own : Own e base W v xs
  anc : ∀ X, X ∈ l → X.heap.size ≤ base
  blk : ∀ b, b ∈ r → b < base
  size : base ≤ W.heap.size
  b0 : w0.B ≤ base
section
variable {α : Type} [Enc α] {w0 : Base} {l : List World} {hp : List LB} {r r0 L : List Nat} {w w1 w2 : World} {e : TypeId} {base : Nat} {v sv : Value} {xs : List α}
theorem Lp.start (st : Stay w0 l w) (h : At w0 hp r L w w1) (hL : ∀ b, b ∈ L → w.heap.size ≤ b) : Lp w0 l r e w1.heap.size w1 (.slice none 0 0) ([] : List α) := by
  have s1 := st.at h hL
  refine ⟨⟨fun X hX => st.base X hX, fun X hX => s1.all X (List.mem_cons_of_mem _ hX)⟩, Own.nil, fun X hX => (s1.all X (List.mem_cons_of_mem _ hX)).size, fun b hb => h.lt b hb, Nat.le_refl _, Nat.le_trans w0.le h.below.size⟩
theorem Lp.here (st : Stay w0 l w) (hr : ∀ b, b ∈ r → b < w.heap.size) (hb : w0.B ≤ w.heap.size) : Lp w0 l r e w.heap.size w (.slice none 0 0) ([] : List α) :=
  ⟨st, Own.nil, fun X hX => (st.all X hX).size, hr, Nat.le_refl _, hb⟩
theorem Lp.go (lp : Lp w0 l r0 e base w v xs) (hB : Below w.heap.size w w2) : Lp w0 l r0 e base w2 v xs :=
  ⟨⟨lp.st.base, fun X hX => (lp.st.all X hX).trans (hB.mono (lp.st.all X hX).size)⟩, lp.own.below hB, lp.anc, lp.blk, Nat.le_trans lp.size hB.size, lp.b0⟩
theorem Lp.at (lp : Lp w0 l r0 e base w v xs) (h : At w0 hp r L w w1) (hL : ∀ b, b ∈ L → w.heap.size ≤ b ∨ b < base ∧ ∀ X, X ∈ l → X.heap.size ≤ b) : Lp w0 l r0 e base w1 v xs := by
  refine ⟨⟨lp.st.base, fun X hX => h.from (lp.st.base X hX) (lp.st.all X hX) fun b hb => ?_⟩, ?_, lp.anc, lp.blk, Nat.le_trans lp.size h.size, lp.b0⟩
  · rcases hL b hb with h1 | h1
    · exact Nat.le_trans (lp.st.all X hX).size h1
    · exact h1.2 X hX
  · obtain ⟨hl, h0 | ⟨g, cap, cur, e1, e2, e3, e4⟩⟩ := lp.own
    · exact ⟨hl, .inl h0⟩
    · have hg := (Array.getElem?_eq_some_iff.1 e3).1
      exact ⟨hl, .inr ⟨g, cap, cur, e1, e2, (h.step g hg (fun e => by have := hL g e; omega)).trans e3, e4⟩⟩
theorem Lp.ofNew (st : Stay w0 l w) (h : At w0 hp r L w w1) (hL : ∀ b, b ∈ L → w.heap.size ≤ b) (hB : Below w1.heap.size w1 w2) (hO : Own e w1.heap.size w2 v xs) : Lp w0 l r e w1.heap.size w2 v xs := by
  have s1 := st.at h hL
  refine ⟨⟨fun X hX => st.base X hX, fun X hX => (s1.all X (List.mem_cons_of_mem _ hX)).trans (hB.mono (s1.all X (List.mem_cons_of_mem _ hX)).size)⟩, hO, fun X hX => (s1.all X (List.mem_cons_of_mem _ hX)).size, fun b hb => h.lt b hb, hB.size, Nat.le_trans w0.le h.below.size⟩
theorem Lp.stay (lp : Lp w0 l r0 e base w v xs) : Stay w0 l w := lp.st
theorem GenN.appL {P : Program} {K : Value → World → Prop} {t ty : TypeId} {bytes : Nat} {consts : Array Bool} (hE : ElOk P t e (size α) bytes) (lp : Lp w0 l r0 e base w v xs) (hr : ∀ b, b ∈ r → b ∈ r0 ∨ w.heap.size ≤ b) (hL : ∀ b, b ∈ L → w.heap.size ≤ b)
    (ms : List α) (hsrc : ∀ w1, At w0 hp r L w w1 → SrcC w1 sv (size α) ms.length (cellsL ms)) (h63 : xs.length + ms.length ≤ 1000000) (hby : bytes ≤ 1000000)
    (hk : ∀ a' c' w5 w6, At w0 hp r L w w5 → Lp w0 l r0 e base w6 (.slice a' (xs ++ ms).length c') (xs ++ ms) → w5.heap.size ≤ w6.heap.size → (∀ k, k < w5.heap.size → k < base ∨ w.heap.size ≤ k → w6.heap[k]? = w5.heap[k]?) → K (.slice a' (xs ++ ms).length c') w6) :
    GenN P w0 (Keep w0) (builtin .append #[t, t] ty consts #[v, sv]) hp r L w K := by
  have hLp : ∀ w1, At w0 hp r L w w1 → Lp w0 l r0 e base w1 v xs := fun w1 h1 => lp.at h1 fun b hb => .inl (hL b hb)
  have hrow : ∀ k, v.ownBlock = some k → w0.B ≤ k ∧ k ∉ r := fun k hk => by
    have h1 := lp.own.lt k hk
    refine ⟨Nat.le_trans lp.b0 h1.1, fun hm => ?_⟩
    rcases hr k hm with h2 | h2
    · have := lp.blk k h2; omega
    · omega
  refine GenN.app (α := α) hE xs ms base (fun w1 h1 => (hLp w1 h1).own) hsrc (by unfold maxLen; omega) ?_ (fun w1 h1 => Nat.le_trans lp.size h1.size) (fun w1 w2 h1 hg => keep_grown h1 hg hrow) fun v' w5 w6 h5 hg hO => ?_
  · calc _ ≤ 1000000 * 1000000 := Nat.mul_le_mul h63 hby
      _ ≤ _ := by decide
  · obtain ⟨a', c', rfl⟩ := hO.form
    have h5' := hLp w5 h5
    refine hk a' c' w5 w6 h5 ⟨⟨lp.st.base, fun X hX => ?_⟩, hO, lp.anc, lp.blk, Nat.le_trans h5'.size hg.size, lp.b0⟩ hg.size fun k hk hkb => ?_
    · have hX5 := h5'.st.all X hX
      refine ⟨hg.os.trans hX5.os, hg.tape.trans hX5.tape, hg.output.trans hX5.output, Nat.le_trans hX5.size hg.size, fun k hk => ?_⟩
      refine (hg.block k (Nat.lt_of_lt_of_le hk hX5.size) (fun e => ?_)).trans (hX5.block k hk)
      have h1 := lp.own.lt k e.symm
      have h2 := lp.anc X hX
      omega
    · refine hg.block k hk (fun e => ?_)
      have h1 := lp.own.lt k e.symm
      omega
/-- a list that begins as a block of the run's own that is full, and is lengthened. -/
def Lq (α : Type) [Enc α] (w0 : Base) (l : List World) (r : List Nat) (e : TypeId) (W : World) (v : Value) (b : Nat) (x0 xs : List α) : Prop :=
  (v = .slice (some ⟨b, 0, none⟩) x0.length x0.length ∧ xs = x0 ∧ Stay w0 l W) ∨ ∃ base, Lp w0 l r e base W v xs
theorem Lq.st {b : Nat} {x0 : List α} (h : Lq α w0 l r e w v b x0 xs) : Stay w0 l w := by
  rcases h with ⟨_, _, h⟩ | ⟨_, h⟩
  · exact h
  · exact h.st
theorem Lq.at {b : Nat} {x0 : List α} (lq : Lq α w0 l r0 e w v b x0 xs) (h : At w0 hp r [] w w1) : Lq α w0 l r0 e w1 v b x0 xs := by
  rcases lq with ⟨e1, e2, h1⟩ | ⟨base, h1⟩
  · exact .inl ⟨e1, e2, (h1.at h (by simp)).sub fun X hX => List.mem_cons_of_mem _ hX⟩
  · exact .inr ⟨base, h1.at h (by simp)⟩
theorem Lq.go {b : Nat} {x0 : List α} (lq : Lq α w0 l r0 e w v b x0 xs) (hB : Below w.heap.size w w2) : Lq α w0 l r0 e w2 v b x0 xs := by
  rcases lq with ⟨e1, e2, h1⟩ | ⟨base, h1⟩
  · exact .inl ⟨e1, e2, h1.base, fun X hX => (h1.all X hX).trans (hB.mono (h1.all X hX).size)⟩
  · exact .inr ⟨base, h1.go hB⟩
theorem Lq.form {b : Nat} {x0 : List α} (lq : Lq α w0 l r0 e w v b x0 xs) : ∃ a c, v = .slice a xs.length c := by
  rcases lq with ⟨e1, e2, h1⟩ | ⟨base, h1⟩
  · subst e2; exact ⟨_, _, e1⟩
  · exact h1.own.form
/-- the list, as it is shown; the run's block number i holds what it begins with. -/
theorem Lq.sl {b : Nat} {x0 : List α} (lq : Lq α w0 l r0 e w v b x0 xs) (h : At w0 hp r [] w w1) (i : Nat) {c : LB} (hi : r[i]? = some b) (hc : hget hp i = some c) (hm : denL r c.cells = cellsL x0) (hmax : x0.length ≤ maxLen) : Sl w1.heap.size w1 v xs := by
  rcases lq with ⟨e1, e2, h1⟩ | ⟨base, h1⟩
  · subst e1; subst e2
    exact Sl.own h i hi hc hm (Nat.le_refl _) hmax
  · exact (h1.at h (by simp)).own.sl
theorem GenN.appQ {P : Program} {K : Value → World → Prop} {t ty : TypeId} {bytes : Nat} {consts : Array Bool} {b : Nat} {x0 : List α} (hE : ElOk P t e (size α) bytes) (lq : Lq α w0 l r0 e w v b x0 xs) (i : Nat) {c : LB} (hi : r[i]? = some b) (hc : hget hp i = some c) (hm : denL r c.cells = cellsL x0) (hct : c.ty = e)
    (hb : w0.B ≤ b) (hr : ∀ b, b ∈ r → b ∈ r0 ∨ w.heap.size ≤ b) (hr0 : ∀ b, b ∈ r0 → b ∈ r) (ms : List α) (hms : ms ≠ []) (hsrc : ∀ w1, At w0 hp r [] w w1 → SrcC w1 sv (size α) ms.length (cellsL ms)) (h63 : xs.length + ms.length ≤ 1000000) (hby : bytes ≤ 1000000)
    (hk : ∀ a' c' w5 w6, At w0 hp r [] w w5 → Lq α w0 l r0 e w6 (.slice a' (xs ++ ms).length c') b x0 (xs ++ ms) → (∃ base, Lp w0 l r0 e base w6 (.slice a' (xs ++ ms).length c') (xs ++ ms)) → w5.heap.size ≤ w6.heap.size → K (.slice a' (xs ++ ms).length c') w6) :
    GenN P w0 (Keep w0) (builtin .append #[t, t] ty consts #[v, sv]) hp r [] w K := by
  rcases lq with ⟨rfl, rfl, st⟩ | ⟨base, lp⟩
  · refine GenN.appN (α := α) hE xs ms w0.B rfl (fun w1 h1 => ?_) hsrc hms (by unfold maxLen; omega) ?_ fun v' w5 w6 h5 hB hO => ?_
    · have := Own.own h1 i hi hc hm hb (n := xs.length) rfl (by unfold maxLen; omega)
      rwa [hct] at this
    · calc _ ≤ 1000000 * 1000000 := Nat.mul_le_mul h63 hby
        _ ≤ _ := by decide
    · obtain ⟨a', c', rfl⟩ := hO.form
      have lp := Lp.ofNew st h5 (by simp) hB hO
      have lp' : Lp w0 l r0 e w5.heap.size w6 (.slice a' (xs ++ ms).length c') (xs ++ ms) := ⟨lp.st, lp.own, lp.anc, fun b hb => lp.blk b (hr0 b hb), lp.size, lp.b0⟩
      exact hk a' c' w5 w6 h5 (.inr ⟨_, lp'⟩) ⟨_, lp'⟩ hB.size
  · exact GenN.appL hE lp hr (by simp) ms hsrc h63 hby fun a' c' w5 w6 h5 hlp hsz _ => hk a' c' w5 w6 h5 (.inr ⟨_, hlp⟩) ⟨_, hlp⟩ hsz
end
end Go.Proofs.YtdecibfnhceloaaGreat
