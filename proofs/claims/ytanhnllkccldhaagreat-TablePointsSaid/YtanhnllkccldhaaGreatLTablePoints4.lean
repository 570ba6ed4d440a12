/-
  Merged texts of this law (each with its own head below).
-/
import Derived.Test.YtanhnllkccldhaaGreatLTablePoints3
import Derived.Lib.SliceRun
import Derived.Shelf.Spec.SlicesGrow
import Derived.Ground.Names8Prog
import Derived.Test.YtanhnllkccldhaaGreatProg
import Derived.Shelf.Bits.Mul64
import Derived.Shelf.Spec.BitsCarry
import Derived.Ground.NamesProg
namespace Go.Proofs.YtanhnllkccldhaaGreat
set_option linter.unusedVariables false
open Go.RowKit Go.Proofs.YtanhnllkccldhaaGreat.Eng Enc
structure Stay (w0 : Base) (l : List World) (w : World) : Prop where
 base : ∀ X, X ∈ l → Below w0.B w0.W X
 all : ∀ X, X ∈ l → Below X.heap.size X w
theorem Stay.start {w0 : Base} {w : World} (h : Below w0.B w0.W w) : Stay w0 [w] w :=
 ⟨fun X hX => by rw [List.mem_singleton.1 hX]; exact h, fun X hX => by rw [List.mem_singleton.1 hX]; exact Below.refl _ _⟩
theorem Stay.first {w : World} : Stay ⟨w, w.heap.size, Nat.le_refl _⟩ [w] w := Stay.start (Below.refl _ _)
section
variable {w0 : Base} {l : List World} {hp : List LB} {r L : List Nat} {w w1 w2 : World}
theorem Stay.at (st : Stay w0 l w) (h : At w0 hp r L w w1) (hL : ∀ b, b ∈ L → w.heap.size ≤ b := by intro x hx; simp at hx <;> omega) : Stay w0 (w1 :: l) w1 := by
 refine ⟨fun X hX => ?_, fun X hX => ?_⟩
 ·rcases List.mem_cons.1 hX with rfl | hX
  ·exact h.below
  ·exact st.base X hX
 ·rcases List.mem_cons.1 hX with rfl | hX
  ·exact Below.refl _ _
  ·exact h.from (st.base X hX) (st.all X hX) fun b hb => Nat.le_trans (st.all X hX).size (hL b hb)
theorem Stay.go (st : Stay w0 l w) (h : w0.B ≤ w.heap.size) (hb : Below w0.B w0.W w) (hB : Below w.heap.size w w2) : Stay w0 (w2 :: l) w2 := by
 refine ⟨fun X hX => ?_, fun X hX => ?_⟩
 ·rcases List.mem_cons.1 hX with rfl | hX
  ·exact hb.trans (hB.mono h)
  ·exact st.base X hX
 ·rcases List.mem_cons.1 hX with rfl | hX
  ·exact Below.refl _ _
  ·exact (st.all X hX).trans (hB.mono (st.all X hX).size)
theorem Stay.next (st : Stay w0 l w) (h : At w0 hp r L w w1) (hL : ∀ b, b ∈ L → w.heap.size ≤ b) (hB : Below w1.heap.size w1 w2) : Stay w0 (w2 :: w1 :: l) w2 :=
 (st.at h hL).go (Nat.le_trans w0.le h.below.size) h.below hB
theorem Stay.nx (st : Stay w0 l w) (h : At w0 hp r L w w1) (hB : Below w1.heap.size w1 w2) (hL : ∀ b, b ∈ L → w.heap.size ≤ b := by intro x hx; simp at hx <;> omega) : Stay w0 (w2 :: w1 :: l) w2 := st.next h hL hB
theorem Stay.sub {m : List World} (st : Stay w0 l w) (h : ∀ X, X ∈ m → X ∈ l) : Stay w0 m w := ⟨fun X hX => st.base X (h X hX), fun X hX => st.all X (h X hX)⟩
theorem Stay.get (st : Stay w0 l w) {X : World} (hX : X ∈ l) : Below X.heap.size X w := st.all X hX
end
theorem Sl.st {α : Type} [Enc α] {w0 : Base} {l : List World} {X w : World} {sv : Value} {m : List α} (h : Sl X.heap.size X sv m) (st : Stay w0 l w) (hX : X ∈ l := by simp) : Sl w.heap.size w sv m := h.go (st.get hX) (st.get hX).size
theorem Fresh.st {w0 : Base} {l : List World} {X w : World} {e : TypeId} {base : Nat} {sv : Value} {m : List Int} (h : Fresh e base X sv m) (st : Stay w0 l w) (hX : X ∈ l := by simp) : Fresh e base w sv m := h.below (st.get hX)
theorem Own.st {α : Type} [Enc α] {w0 : Base} {l : List World} {X w : World} {e : TypeId} {base : Nat} {sv : Value} {m : List α} (h : Own e base X sv m) (st : Stay w0 l w) (hX : X ∈ l := by simp) : Own e base w sv m := h.below (st.get hX)
theorem cells_rep {α : Type} [Enc α] (z : α) (n : Nat) : cellsL (List.replicate n z) = (List.range (n * size α)).map fun k => (enc z)[k % size α]?.getD undef := by
 induction n with
 | zero => simp [cellsL]
 | succ n ih =>
   rw [List.replicate_succ', cellsL_append, ih, Nat.succ_mul, List.range_add, List.map_append]
   congr 1
   simp only [cellsL, List.append_nil, List.map_map]
   apply List.ext_getElem?
   intro k
   rw [List.getElem?_map]
   rcases Nat.lt_or_ge k (size α) with h | h
   ·rw [List.getElem?_range h]
    simp only [Option.map_some, Function.comp]
    rw [Nat.add_comm, Nat.add_mul_mod_self_right, Nat.mod_eq_of_lt h, List.getElem?_eq_getElem (by rw [len]; exact h)]; rfl
   ·rw [List.getElem?_eq_none (by rw [len]; exact h), List.getElem?_eq_none (l := List.range (size α)) (by simpa using h)]; rfl
theorem GenV.mks {α : Type} [Enc α] {P : Program} {w0 : Base} {kp : List Nat → World → World → Prop} [hkp : KpOk w0 kp] {hp : List LB} {r L : List Nat} {w : World} {K : Value → World → Prop} {t e : TypeId} {bytes : Nat} (hE : ElOk P t e (size α) bytes) (z : α)
 (hz : (P.info? e).map (fun i => i.zero.map fun v => v.cells.toList) = some (some (enc z))) (n : Nat) {i : Int} (hi : i = n) (hbig : n * size α ≤ 16777216) (hbytes : bytes * n ≤ 281474976710656)
 (hk : ∀ v w1 w2, At w0 hp r L w w1 → Below w1.heap.size w1 w2 → Own e w1.heap.size w2 v (List.replicate n z) → K v w2) : GenV P w0 kp (Instr.makeSlice t (.int .i64 i) (.int .i64 i)) hp r L w K := ⟨fun w1 h1 => by
 subst hi
 obtain ⟨ht, ⟨inf, zv, hi, hzv, hss, hby, hzs⟩, hp⟩ := hE
 obtain ⟨w2, hr2, hown, hg2⟩ := run_makeSlice_full (P := P) w1 w1.heap.size _ _ inf zv (size α) ht hi hzv hss .i64 .i64 n hbig (by rw [hby]; exact hbytes) (by
  have h1 : n * 1 ≤ n * size α := Nat.mul_le_mul_left n hp
  unfold maxLen; omega) (Nat.le_refl _)
 have hB2 : Below w1.heap.size w1 w2 := ⟨hg2.os, hg2.tape, hg2.output, hg2.size, fun k hk => hg2.block k hk (by simp)⟩
 refine ⟨_, w2, hr2, hkp.ok h1 hB2, hk _ w1 w2 h1 hB2 ?_⟩
 have hzc : zv.cells.toList = enc z := by
  rw [hi] at hz
  simp only [Option.map_some, Option.some.injEq, hzv] at hz
  exact hz
 unfold Own
 rw [List.length_replicate, cells_rep]
 have e1 : (madeCells zv.cells (n * size α)).toList = (List.range (n * size α)).map fun k => (enc z)[k % size α]?.getD undef := by
  unfold madeCells
  simp only [Array.toList_map, Array.toList_range]
  refine List.map_congr_left fun k _ => ?_
  rw [← hzc]
  have hm : k % size α < zv.cells.size := by rw [hzs]; exact Nat.mod_lt _ hp
  rw [hzs, getElem!_pos zv.cells _ hm, Array.getElem?_toList, Array.getElem?_eq_getElem hm]; rfl
 rw [← e1]
 exact hown⟩
structure Lp {α : Type} [Enc α] (w0 : Base) (l : List World) (r : List Nat) (e : TypeId) (base : Nat) (W : World) (v : Value) (xs : List α) : Prop where
 st : Stay w0 l W
 own : Own e base W v xs
 anc : ∀ X, X ∈ l → X.heap.size ≤ base
 blk : ∀ b, b ∈ r → b < base
 size : base ≤ W.heap.size
 b0 : w0.B ≤ base
section
variable {α : Type} [Enc α] {w0 : Base} {l : List World} {hp : List LB} {r r0 L : List Nat} {w w1 w2 : World} {e : TypeId} {base : Nat} {v sv : Value} {xs : List α}
theorem Lp.start (st : Stay w0 l w) (h : At w0 hp r L w w1) (hL : ∀ b, b ∈ L → w.heap.size ≤ b) : Lp w0 l r e w1.heap.size w1 (.slice none 0 0) ([] : List α) := by
 have s1 := st.at h hL
 refine ⟨⟨fun X hX => st.base X hX, fun X hX => s1.all X (List.mem_cons_of_mem _ hX)⟩, Own.nil, fun X hX => (s1.all X (List.mem_cons_of_mem _ hX)).size, fun b hb => h.lt b hb, Nat.le_refl _, Nat.le_trans w0.le h.below.size⟩
theorem Lp.go (lp : Lp w0 l r0 e base w v xs) (hB : Below w.heap.size w w2) : Lp w0 l r0 e base w2 v xs :=
 ⟨⟨lp.st.base, fun X hX => (lp.st.all X hX).trans (hB.mono (lp.st.all X hX).size)⟩, lp.own.below hB, lp.anc, lp.blk, Nat.le_trans lp.size hB.size, lp.b0⟩
theorem Lp.at (lp : Lp w0 l r0 e base w v xs) (h : At w0 hp r L w w1) (hL : ∀ b, b ∈ L → w.heap.size ≤ b ∨ b < base ∧ ∀ X, X ∈ l → X.heap.size ≤ b) : Lp w0 l r0 e base w1 v xs := by
 refine ⟨⟨lp.st.base, fun X hX => h.from (lp.st.base X hX) (lp.st.all X hX) fun b hb => ?_⟩, ?_, lp.anc, lp.blk, Nat.le_trans lp.size h.size, lp.b0⟩
 ·rcases hL b hb with h1 | h1
  ·exact Nat.le_trans (lp.st.all X hX).size h1
  ·exact h1.2 X hX
 ·obtain ⟨hl, h0 | ⟨g, cap, cur, e1, e2, e3, e4⟩⟩ := lp.own
  ·exact ⟨hl, .inl h0⟩
  ·have hg := (Array.getElem?_eq_some_iff.1 e3).1
   exact ⟨hl, .inr ⟨g, cap, cur, e1, e2, (h.step g hg (fun e => by have := hL g e; omega)).trans e3, e4⟩⟩
def Lq (α : Type) [Enc α] (w0 : Base) (l : List World) (r : List Nat) (e : TypeId) (W : World) (v : Value) (b : Nat) (x0 xs : List α) : Prop :=
 (v = .slice (some ⟨b, 0, none⟩) x0.length x0.length ∧ xs = x0 ∧ Stay w0 l W) ∨ ∃ base, Lp w0 l r e base W v xs
theorem Lq.st {b : Nat} {x0 : List α} (h : Lq α w0 l r e w v b x0 xs) : Stay w0 l w := by
 rcases h with ⟨_, _, h⟩ | ⟨_, h⟩
 ·exact h
 ·exact h.st
theorem Lq.at {b : Nat} {x0 : List α} (lq : Lq α w0 l r0 e w v b x0 xs) (h : At w0 hp r [] w w1) : Lq α w0 l r0 e w1 v b x0 xs := by
 rcases lq with ⟨e1, e2, h1⟩ | ⟨base, h1⟩
 ·exact .inl ⟨e1, e2, (h1.at h (by simp)).sub fun X hX => List.mem_cons_of_mem _ hX⟩
 ·exact .inr ⟨base, h1.at h (by simp)⟩
theorem Lq.go {b : Nat} {x0 : List α} (lq : Lq α w0 l r0 e w v b x0 xs) (hB : Below w.heap.size w w2) : Lq α w0 l r0 e w2 v b x0 xs := by
 rcases lq with ⟨e1, e2, h1⟩ | ⟨base, h1⟩
 ·exact .inl ⟨e1, e2, h1.base, fun X hX => (h1.all X hX).trans (hB.mono (h1.all X hX).size)⟩
 ·exact .inr ⟨base, h1.go hB⟩
theorem Lq.sl {b : Nat} {x0 : List α} (lq : Lq α w0 l r0 e w v b x0 xs) (h : At w0 hp r [] w w1) (i : Nat) {c : LB} (hi : r[i]? = some b) (hc : hget hp i = some c) (hm : denL r c.cells = cellsL x0) (hmax : x0.length ≤ maxLen) : Sl w1.heap.size w1 v xs := by
 rcases lq with ⟨e1, e2, h1⟩ | ⟨base, h1⟩
 ·subst e1; subst e2
  exact Sl.own h i hi hc hm (Nat.le_refl _) hmax
 ·exact (h1.at h (by simp)).own.sl
end
end Go.Proofs.YtanhnllkccldhaaGreat
namespace Go.Proofs.YtanhnllkccldhaaGreat.Eng
set_option linter.unusedVariables false
set_option linter.unusedSimpArgs false
open Go Go.RowKit Go.Shelf Go.Proofs
section
variable {cx : Cx} {w0 : Base}
theorem rangeE (hcx : CxOk cx) {n : Nat} (h1 : 1 ≤ n) {s : St} {a : Act} {w : World} (hR : Rel w0 s a w) {g : Operand} {ps : Array Tmp} {x y : Code} {K : Exit → St → Prop} {gf : Nat} {lb : Array Value}
 (hg : ev s.fr g = .val (.func (.func gf) #[] lb)) (eg : Enters cx.P gf)
 {α : Type} {encs : α → List Value} {Kp : World → World → Prop} {S Sp : List α → Prop} {N : Nat} (hseq : SeqStopsK Fence.wide (n - 1) cx.P gf lb (fun x => (encs x).toArray) Kp S Sp N w)
 (hKt : ∀ {A B C : World}, Kp A B → Kp B C → Kp A C) (hKb : ∀ (W : World) (l : Nat) (o o' : Obj), w.heap.size ≤ l → W.heap[l]? = some o → o.isCells = false → o.isWalk = false → Kp W (W.putObj l o'))
 (hKg : ∀ W W', w.heap.size ≤ W.heap.size → W.grownBy W' none → Kp W W') (hps : ∀ x, (encs x).length = ps.size)
 {γ : Type} (hpf : γ → List LB) (Φ : List α → γ → World → Prop) (hΦ : ∀ c, OwnFrom w.heap.size fun pre W => Φ pre c W) (c0 : γ) (hp0 : hpf c0 = s.hp) (hΦ0 : Φ [] c0 w)
 (Ix : Code → List α → γ → World → Prop) (hpx : Code → γ → List LB) (hIx : ∀ c q, OwnFrom w.heap.size fun pre W => Ix c pre q W)
 (frx : α → Fr)
 (hassign : ∀ l z hp W, codeD (Fence.wide.inRound l) (n - 1 - 1) cx w0 x (fun e s' => e = .normal ∧ s' = ⟨frx z, hp, s.r, [], W, []⟩) ⟨setP s.fr ps.toList (encs z), hp, s.r, [], W, []⟩)
 (hbody : ∀ l pre x c W, Φ pre c W → Below w0.B w0.W W → w.heap.size ≤ W.heap.size → pre.length < N → codeD (Fence.wide.inRound l) (n - 1 - 1) cx w0 y
   (fun e s' => match e with
     | .normal => s'.on fun fr2 hp2 r2 L2 w2 df2 => ∃ c', Need (CovH (hpf c') s.r ⟨fr2, hp2, r2, L2, w2, df2⟩) (EndI w0 hp2 r2 L2 w2 undef fun _ w1 => KeepsFrom w.heap.size W w1 ∧ Kp W w1 ∧ Φ (pre ++ [x]) c' w1)
     | .ret => s'.on fun fr2 hp2 r2 L2 w2 df2 => ∃ c', Need (CovH (hpx .ret c') s.r ⟨fr2, hp2, r2, L2, w2, df2⟩) (EndI w0 hp2 r2 L2 w2 undef fun _ w1 => KeepsFrom w.heap.size W w1 ∧ Ix .ret (pre ++ [x]) c' w1)
     | .exit id => s'.on fun fr2 hp2 r2 L2 w2 df2 => ∃ c', Need (CovH (hpx (.exit id) c') s.r ⟨fr2, hp2, r2, L2, w2, df2⟩) (EndI w0 hp2 r2 L2 w2 undef fun _ w1 => KeepsFrom w.heap.size W w1 ∧ Ix (.exit id) (pre ++ [x]) c' w1)
     | _ => False) ⟨frx x, hpf c, s.r, [], W, []⟩)
 (hdone : ∀ D xs c W, w.heap.size ≤ D → S xs → Φ xs c W → W.heap[D]? = some (.deferred (some [])) → K .normal ⟨s.fr, hpf c, s.r, [], W, { target := .collected D, args := #[] } :: s.df⟩)
 (hstop : ∀ D c e pre q W, w.heap.size ≤ D → Sp pre → Ix c pre q W → exitOf c = some e → W.heap[D]? = some (.deferred (some [])) → K e ⟨s.fr, hpx c q, s.r, [], W, { target := .collected D, args := #[] } :: s.df⟩) :
 (Code.rangeFunc g ps x y).wpIn Fence.wide n cx.P (fun e a' w' => ∃ s', Rel w0 s' a' w' ∧ K e s') a w := by
 have hev := hR.ev1 hg (by simp) []
 simp only [SV.den] at hev
 have hB : w0.B ≤ w.heap.size := Nat.le_trans w0.le hR.at_.below.size
 have ownR : ∀ (hp : List LB), OwnFrom w.heap.size (fun (pre : List α) W => Rel w0 ⟨s.fr, hp, s.r, [], W, s.df⟩ a W) := fun hp pre W W' row h hgr hr =>
  h.keep (grown_keep h hB hgr hr)
 have withD : ∀ {hp : List LB} {W : World} (D : Nat), Rel w0 ⟨s.fr, hp, s.r, [], W, s.df⟩ a W → Rel w0 ⟨s.fr, hp, s.r, [], W, { target := .collected D, args := #[] } :: s.df⟩ { a with defers := { target := .collected D, args := #[] } :: a.defers } W := fun {hp} {W} D h =>
  ⟨congrArg (_ :: ·) h.df, h.fits, ⟨h.at_.below, h.at_.size, h.at_.step, h.at_.blk, h.at_.fresh, h.at_.lt, h.at_.base⟩, h.blk, h.nod, h.len⟩
 have inner : ∀ {hp : List LB} {W : World} {a' : Act} {fr : Fr}, Rel w0 ⟨s.fr, hp, s.r, [], W, s.df⟩ a W → a'.defers = [] → (∀ t, Fits (s.r ++ t) fr a'.tmps) → Rel w0 ⟨fr, hp, s.r, [], W, []⟩ a' W := fun {hp} {W} {a'} {fr} h hd hf =>
  ⟨hd, hf, ⟨h.at_.below, h.at_.size, h.at_.step, h.at_.blk, h.at_.fresh, h.at_.lt, h.at_.base⟩, h.blk, h.nod, h.len⟩
 refine wpIn_rangeFunc_ownH rfl h1 hev trivial eg hseq hKt hKb (Below.refl _ _) (fun x => by simp [hps]) (fun pre W => ∃ c, Rel w0 ⟨s.fr, hpf c, s.r, [], W, s.df⟩ a W ∧ w.heap.size ≤ W.heap.size ∧ Φ pre c W)
  (fun c pre W => (∃ e, exitOf c = some e) ∧ ∃ q, Rel w0 ⟨s.fr, hpx c q, s.r, [], W, s.df⟩ a W ∧ Ix c pre q W)
  ?_ ?_ ?_ (fun x a' _ => a'.defers = [] ∧ ∀ t, Fits (s.r ++ t) (frx x) a'.tmps) (fun _ _ _ _ _ _ h _ _ => h) ?_ ?_ ?_ ?_
 ·exact fun pre W W' row ⟨c, h⟩ hgr hr => ⟨c, ownR (hpf c) pre W W' row h.1 hgr hr, Nat.le_trans h.2.1 hgr.size, hΦ c pre W W' row h.2.2 hgr hr⟩
 ·exact fun c pre W W' row ⟨h0, q, h⟩ hgr hr => ⟨h0, q, ownR (hpx c q) pre W W' row h.1 hgr hr, hIx c q pre W W' row h.2 hgr hr⟩
 ·have h0 := hR.keep keep_refl
  refine ⟨c0, ?_, Nat.le_refl _, hΦ0⟩
  rw [hp0]; exact h0
 ·rintro l pre z W K' ⟨c, hI⟩ hK
  have hr1 := rel_sets (w0 := w0) (s := ⟨s.fr, hpf c, s.r, [], W, []⟩) (a := ⟨a.tmps, []⟩) (inner hI.1 rfl hI.1.fits) ps.toList (encs z)
  have e1 : (ps.zip (encs z).toArray).foldl (fun (t : Array Value) (x : Nat × Value) => t.setIfInBounds x.1 x.2) a.tmps = sets a.tmps ps.toList (encs z) := by
   rw [← sets_eq]
  show x.wpIn _ _ _ _ ({ tmps := (ps.zip (encs z).toArray).foldl (fun (t : Array Value) (x : Nat × Value) => t.setIfInBounds x.1 x.2) a.tmps, defers := [] } : Act) W
  rw [e1]
  refine codeD_round hcx l _ _ _ _ _ W _ (hassign l z (hpf c) W) hr1 ?_
  rintro e s' a' W' ⟨rfl, rfl⟩ hR'
  have hgr := grown_of_at (a2 := a) hI.1 hR'.at_ rfl rfl
  refine hK a' W' ⟨hgr.size, fun k o _ hk _ => (hgr.block k (Array.getElem?_eq_some_iff.1 hk).1 (by simp)).trans hk⟩ (hKg W W' hI.2.1 hgr) ⟨c, ownR (hpf c) pre W W' none hI.1 hgr (by simp), Nat.le_trans hI.2.1 hgr.size, hΦ c pre W W' none hI.2.2 hgr (by simp)⟩ ⟨hR'.df, hR'.fits⟩
 ·rintro l pre x a' W _ _ ⟨c, hI⟩ hA hN
  refine codeD_round hcx l _ y _ _ _ W _ (hbody l pre x c W hI.2.2 hI.1.at_.below hI.2.1 hN) (inner hI.1 hA.1 hA.2) ?_
  intro e s' a2 w1 hK hR'
  cases e with
  | normal =>
    simp only [St.on_eq] at hK
    obtain ⟨c', h1, h2⟩ := hK
    obtain ⟨h3, h4, h5⟩ := h2.h w1 hR'.at_
    exact ⟨h3, h4, c', covH_rel (s := ⟨s.fr, hpf c, s.r, [], W, s.df⟩) hI.1 hR' h1, Nat.le_trans hI.2.1 h3.size, h5⟩
  | ret =>
    simp only [St.on_eq] at hK
    obtain ⟨c', h1, h2⟩ := hK
    obtain ⟨h3, h5⟩ := h2.h w1 hR'.at_
    exact ⟨h3, ⟨_, rfl⟩, c', covH_rel (s := ⟨s.fr, hpf c, s.r, [], W, s.df⟩) hI.1 hR' h1, h5⟩
  | exit id =>
    simp only [St.on_eq] at hK
    obtain ⟨c', h1, h2⟩ := hK
    obtain ⟨h3, h5⟩ := h2.h w1 hR'.at_
    exact ⟨h3, ⟨_, rfl⟩, c', covH_rel (s := ⟨s.fr, hpf c, s.r, [], W, s.df⟩) hI.1 hR' h1, h5⟩
  | goto l => exact hK.elim
  | panic ch => exact hK.elim
  | outgrown => exact hK.elim
 ·rintro D xs W hD hS ⟨c, hI⟩ hd
  exact ⟨_, withD D hI.1, hdone D xs c W hD hS hI.2.2 hd⟩
 ·intro D c pre W hD hS hI hd
  obtain ⟨⟨e, he⟩, q, hRx, hix⟩ := hI
  have hk := hstop D c e pre q W hD hS hix he hd
  cases c <;> simp only [exitOf] at he <;> try (cases he; done)
  ·injection he with he; subst he; exact wpIn_exit ⟨_, withD D hRx, hk⟩
  ·injection he with he; subst he; exact wpIn_ret ⟨_, withD D hRx, hk⟩
end
end Go.Proofs.YtanhnllkccldhaaGreat.Eng
namespace Go.Proofs.YtanhnllkccldhaaGreat
set_option linter.unusedVariables false
set_option linter.unusedSimpArgs false
set_option maxRecDepth 100000
open Go.RowKit Go.Proofs.YtanhnllkccldhaaGreat.Eng Enc
namespace Dbm
def topB (n k : Nat) : Int := if k / n = k % n then 1 else 9223372036854775807
def topL (n : Nat) : List Int := (List.range (n * n)).map (topB n)
def top (n : Int) : Int × List Int × Int := if 1 ≤ n ∧ n ≤ 4 then (n, topL n.toNat, 0) else (0, [], 2)
end Dbm
theorem top_any (n : Int) (w : World) :
 Calls Tryz.prog 36 #[.int .i64 n] w (Ret w fun v w' => ∃ a' cap', v = .tuple #[.agg #[.int .i64 (Dbm.top n).1, .slice a' (Dbm.top n).2.1.length cap'], .int .i64 (Dbm.top n).2.2] ∧ Own TB w.heap.size w' (.slice a' (Dbm.top n).2.1.length cap') (Dbm.top n).2.1) := by
 refine fun_at 9 w.heap.size w (Nat.le_refl _) Tryz.func36 (args := [.val (.int .i64 n)]) rfl rfl ?_
 refine NewI.mk fun b1 hb1 => ?_
 refine Branch.mk (fun hc => ?_) (fun hc => ?_)
 ·refine EndI.mk fun w3 h3 => ?_
  have : n < 1 := by simpa using hc
  rw [Dbm.top, if_neg (by omega)]
  exact ⟨_, _, rfl, Own.nil⟩
 refine Branch.mk (fun hc2 => ?_) (fun hc2 => ?_)
 ·refine EndI.mk fun w3 h3 => ?_
  have : 4 < n := by simpa using hc2
  rw [Dbm.top, if_neg (by omega)]
  exact ⟨_, _, rfl, Own.nil⟩
 have hn : 1 ≤ n ∧ n ≤ 4 := by
  have h1 : ¬ n < 1 := by simpa using hc
  have h2 : ¬ 4 < n := by simpa using hc2
  omega
 rw [Dbm.top, if_pos hn]
 obtain ⟨N, rfl⟩ : ∃ N : Nat, n = N := ⟨n.toNat, by omega⟩
 have hN1 : 1 ≤ N := by omega
 rw [Int.toNat_natCast]
 refine NewI.mk fun b2 hb2 => ?_
 apply CallI.mk
 intro w7 h7
 refine (callsIn_wide.1 (pairs_any N w7)).mono ?_
 rintro e w8 ⟨rfl, rfl⟩
 have hB1 : Below w7.heap.size w7 (w7.alloc (.cells #[.int .i64 (N : Int)] 3)) := below_al (Below.refl _ _)
 refine ⟨h7.keep hB1, _, rfl, ?_⟩
 have hBs : (w7.alloc (.cells #[.int .i64 (N : Int)] 3)).cell? ⟨w7.heap.size, 0, none⟩ = some (.int .i64 N) := by simp
 have hsz : w7.heap.size < (w7.alloc (.cells #[.int .i64 (N : Int)] 3)).heap.size := by simp
 have hBsb : ∀ b, b ∈ [b1, b2] → b ≠ w7.heap.size := fun b hb e => by have := h7.lt b hb; omega
 have hwBs : w.heap.size ≤ w7.heap.size := h7.below.size
 generalize w7.alloc (.cells #[.int .i64 (N : Int)] 3) = w8 at hBs hsz hB1
 generalize w7.heap.size = Bs at hBs hsz hBsb hwBs
 refine RawI.mk fun ac w1 hR => ?_
 have h1 := hR.at_
 have hBs9 : Bs < w1.heap.size := Nat.lt_of_lt_of_le hsz h1.size
 have hc9 : w1.cell? ⟨Bs, 0, none⟩ = some (.int .i64 (N : Int)) := (h1.go.cell (p := ⟨Bs, 0, none⟩) hsz).trans hBs
 have hl1 := h1.lt b1 (by simp)
 have hl2 := h1.lt b2 (by simp)
 refine rangeE cxOk (by decide) hR rfl Tryz.call114 (pairs_stops N (by omega) (by omega) (N * N) rfl Bs w1 hBs9 hc9) (encs := fun x => (encPI N x).toList) (fun h k => k.trans h) (fun W l o o' => keepsBox_put hBs9 W l o o')
  (fun W W' hs hg => World.cell?_of_block (hg.block Bs (Nat.lt_of_lt_of_le hBs9 hs) (by rintro ⟨⟩))) (fun x => rfl) (γ := Value) (fun v => [⟨[.val (.int .i64 0), .val (.slice none 0 0)], 81⟩, ⟨[.val (.int .i64 N), .val v], 81⟩])
  (fun pre v W => Own TB w1.heap.size W v (pre.map fun x => Dbm.topB N x.1)) ?_ (.slice none 0 0) rfl Own.nil (fun _ _ _ _ => False) (fun _ _ => []) (fun _ _ _ _ _ _ h _ _ => h) _
  (fun l z hp W => And.intro rfl rfl) ?_ ?_ (fun _ _ _ _ _ _ _ _ h => h.elim)
 ·intro v pre W W' row hO hg hr
  refine Own.kept hO hg ?_
  obtain ⟨_, ⟨rfl, _⟩ | ⟨g, c, cur, rfl, _, hgb, _⟩⟩ := id hO
  ·exact .inl rfl
  ·refine .inr (fun e => ?_)
   obtain ⟨_, o, ho, hcl⟩ := hr g e.symm
   rw [hgb] at ho; cases ho; cases hcl
 ·intro l pre x v W hO hBW hsW hlt
  have hO1 : Own TB w1.heap.size W v (pre.map fun x => Dbm.topB N x.1) := hO
  have hNN : N * N ≤ 4 * 4 := Nat.mul_le_mul (by omega) (by omega)
  have ed : ((x.val : Int) / N) = ((x.val / N : Nat) : Int) := rfl
  have em : ((x.val : Int) % N) = ((x.val % N : Nat) : Int) := rfl
  refine Branch.mk (fun hc3 => ?_) (fun hc3 => ?_)
  ·have hval : Dbm.topB N x.1 = 1 := by
    unfold Dbm.topB
    rw [if_pos (by have : (x.val : Int) / N = (x.val : Int) % N := by simpa using hc3
                   rw [ed, em] at this; omega)]
   refine NewI.mk fun b3 hb3 => ?_
   have hb3' : W.heap.size ≤ b3 := hb3
   have hr : ∀ k, v.ownBlock = some k → w.heap.size ≤ k ∧ k ∉ [b1, b2, b3] := fun k hk => by
    have := hO1.lt k hk
    refine ⟨Nat.le_trans h1.below.size this.1, fun hm => ?_⟩
    simp only [List.mem_cons, List.not_mem_nil, or_false] at hm
    omega
   refine GenN.app (α := Int) elB (pre.map fun x => Dbm.topB N x.1) [Dbm.topB N x.1] w1.heap.size (fun w5 h5 => hO1.below h5.go) (fun w5 h5 => src_own h5 2 rfl rfl (by rw [hval]; rfl) rfl) (by unfold maxLen; simp; omega) (by simp; omega) (fun w5 h5 => Nat.le_trans hsW h5.size)
    (fun w5 w6 h5 hg => keep_grown h5 hg hr) fun sv' w5 w6 h5 hg hO' => ?_
   obtain ⟨a', c', rfl⟩ := hO'.form
   refine ⟨.slice a' ((pre.map fun x => Dbm.topB N x.1) ++ [Dbm.topB N x.1]).length c', ?_⟩
   refine Need.mk (CovH.mk rfl rfl rfl) (EndI.mk fun w7 h7 => ?_)
   have hW7 : W.heap.size ≤ w7.heap.size := Nat.le_trans h5.size (Nat.le_trans hg.size h7.size)
   have row : ∀ k, k < w1.heap.size → v.ownBlock ≠ some k := fun k hk e => by have := hO1.lt k e; omega
   refine ⟨⟨hW7, fun k o _ hk hcl => ?_⟩, ?_, ?_⟩
   ·have hkW : k < W.heap.size := (Array.getElem?_eq_some_iff.1 hk).1
    have e5 : w5.heap[k]? = some o := (h5.go.block k hkW).trans hk
    have e6 : w6.heap[k]? = some o := by
     refine (hg.block k (Nat.lt_of_lt_of_le hkW h5.size) (fun e => ?_)).trans e5
     obtain ⟨_, ⟨rfl, _⟩ | ⟨g, c, cur, rfl, _, hgb, _⟩⟩ := id hO1
     ·cases e
     ·injection e with e
      subst e
      rw [hgb] at hk; cases hk; cases hcl
    refine (h7.step k (Nat.lt_of_lt_of_le hkW (Nat.le_trans h5.size hg.size)) (fun hm => ?_)).trans e6
    simp at hm
    subst hm
    have := h5.blk 1 _ ⟨_, _⟩ (by rfl) (by rfl)
    rw [e5] at this; cases this; cases hcl
   ·refine World.cell?_of_block ?_
    have hBW : Bs < W.heap.size := Nat.lt_of_lt_of_le hBs9 hsW
    refine (h7.step Bs (Nat.lt_of_lt_of_le hBW (Nat.le_trans h5.size hg.size)) (fun hm => ?_)).trans ((hg.block Bs (Nat.lt_of_lt_of_le hBW h5.size) (fun e => row Bs hBs9 e.symm)).trans (h5.go.block Bs hBW))
    simp at hm
    exact hBsb b2 (by simp) hm.symm
   ·have e1 : (pre ++ [x]).map (fun x => Dbm.topB N x.1) = (pre.map fun x => Dbm.topB N x.1) ++ [Dbm.topB N x.1] := by simp
    rw [e1]
    exact hO'.at h7 (fun b hb => by simp at hb; subst hb; exact hl2)
  ·have hval : Dbm.topB N x.1 = 9223372036854775807 := by
    unfold Dbm.topB
    rw [if_neg (by have : ¬ (x.val : Int) / N = (x.val : Int) % N := by simpa using hc3
                   rw [ed, em] at this; omega)]
   refine NewI.mk fun b3 hb3 => ?_
   have hb3' : W.heap.size ≤ b3 := hb3
   have hr : ∀ k, v.ownBlock = some k → w.heap.size ≤ k ∧ k ∉ [b1, b2, b3] := fun k hk => by
    have := hO1.lt k hk
    refine ⟨Nat.le_trans h1.below.size this.1, fun hm => ?_⟩
    simp only [List.mem_cons, List.not_mem_nil, or_false] at hm
    omega
   refine GenN.app (α := Int) elB (pre.map fun x => Dbm.topB N x.1) [Dbm.topB N x.1] w1.heap.size (fun w5 h5 => hO1.below h5.go) (fun w5 h5 => src_own h5 2 rfl rfl (by rw [hval]; rfl) rfl) (by unfold maxLen; simp; omega) (by simp; omega) (fun w5 h5 => Nat.le_trans hsW h5.size)
    (fun w5 w6 h5 hg => keep_grown h5 hg hr) fun sv' w5 w6 h5 hg hO' => ?_
   obtain ⟨a', c', rfl⟩ := hO'.form
   refine ⟨.slice a' ((pre.map fun x => Dbm.topB N x.1) ++ [Dbm.topB N x.1]).length c', ?_⟩
   refine Need.mk (CovH.mk rfl rfl rfl) (EndI.mk fun w7 h7 => ?_)
   have hW7 : W.heap.size ≤ w7.heap.size := Nat.le_trans h5.size (Nat.le_trans hg.size h7.size)
   have row : ∀ k, k < w1.heap.size → v.ownBlock ≠ some k := fun k hk e => by have := hO1.lt k e; omega
   refine ⟨⟨hW7, fun k o _ hk hcl => ?_⟩, ?_, ?_⟩
   ·have hkW : k < W.heap.size := (Array.getElem?_eq_some_iff.1 hk).1
    have e5 : w5.heap[k]? = some o := (h5.go.block k hkW).trans hk
    have e6 : w6.heap[k]? = some o := by
     refine (hg.block k (Nat.lt_of_lt_of_le hkW h5.size) (fun e => ?_)).trans e5
     obtain ⟨_, ⟨rfl, _⟩ | ⟨g, c, cur, rfl, _, hgb, _⟩⟩ := id hO1
     ·cases e
     ·injection e with e
      subst e
      rw [hgb] at hk; cases hk; cases hcl
    refine (h7.step k (Nat.lt_of_lt_of_le hkW (Nat.le_trans h5.size hg.size)) (fun hm => ?_)).trans e6
    simp at hm
    subst hm
    have := h5.blk 1 _ ⟨_, _⟩ (by rfl) (by rfl)
    rw [e5] at this; cases this; cases hcl
   ·refine World.cell?_of_block ?_
    have hBW : Bs < W.heap.size := Nat.lt_of_lt_of_le hBs9 hsW
    refine (h7.step Bs (Nat.lt_of_lt_of_le hBW (Nat.le_trans h5.size hg.size)) (fun hm => ?_)).trans ((hg.block Bs (Nat.lt_of_lt_of_le hBW h5.size) (fun e => row Bs hBs9 e.symm)).trans (h5.go.block Bs hBW))
    simp at hm
    exact hBsb b2 (by simp) hm.symm
   ·have e1 : (pre ++ [x]).map (fun x => Dbm.topB N x.1) = (pre.map fun x => Dbm.topB N x.1) ++ [Dbm.topB N x.1] := by simp
    rw [e1]
    exact hO'.at h7 (fun b hb => by simp at hb; subst hb; exact hl2)
 ·rintro D xs v W hD hSx hO hmark
  have hDW : D < W.heap.size := (Array.getElem?_eq_some_iff.1 hmark).1
  have hO1 : Own TB w1.heap.size W v (xs.map fun x => Dbm.topB N x.1) := hO
  have hxs : (xs.map fun x => Dbm.topB N x.1) = Dbm.topL N := by
   unfold Dbm.topL
   rw [← hSx, List.map_map]; rfl
  rw [hxs] at hO1
  obtain ⟨a', c', rfl⟩ := hO1.form
  have hDb : D ∉ [b1] := fun hm => by simp at hm; omega
  refine EndM.mk fun w10 h10 => ⟨⟨Nat.le_trans h1.below.size hD, (h10.step D hDW hDb).trans hmark⟩, fun w11 hu => ?_⟩
  have hO10 := hO1.at h10 (fun b hb => by simp at hb; subst hb; exact hl1)
  refine ⟨_, _, rfl, (Own.kept (row := some D) hO10 ⟨hu.2.1, hu.2.2.1, hu.2.2.2.1, by rw [hu.1]; exact Nat.le_refl _, fun k _ hk => hu.2.2.2.2 k (fun e => hk (by rw [e]))⟩ ?_).lower h1.below.size⟩
  obtain ⟨_, ⟨e, _⟩ | ⟨g, c, cur, e, _, hgb, _⟩⟩ := id hO10
  ·rw [e]; exact .inl rfl
  ·rw [e]
   refine .inr (fun e' => ?_)
   injection e' with e'
   subst e'
   have := (h10.step _ hDW hDb).trans hmark
   rw [hgb] at this; cases this
end Go.Proofs.YtanhnllkccldhaaGreat
namespace Go.Proofs.YtanhnllkccldhaaGreat
set_option linter.unusedVariables false
open Go.RowKit Go.Proofs.YtanhnllkccldhaaGreat.Eng Enc
structure Svl where
 a : Option Addr
 len : Nat
 cap : Nat
instance encSvl : Enc Svl := ⟨fun x => [.slice x.a x.len x.cap], 1, fun _ => rfl, by decide, fun _ v hv => by rw [List.mem_singleton.1 hv]; rfl, fun x => .slice x.a x.len x.cap⟩
section
variable {α : Type} [Enc α]
theorem cellsL_set (l : List α) (k : Nat) (x : α) (hk : k < l.length) : cellsL (l.set k x) = (cellsL l).take (k * size α) ++ enc x ++ (cellsL l).drop (k * size α + size α) := by
 induction l generalizing k with
 | nil => simp at hk
 | cons y l ih =>
   cases k with
   | zero =>
     simp only [List.set_cons_zero, cellsL, Nat.zero_mul, List.take_zero, List.nil_append, Nat.zero_add]
     rw [List.drop_append_of_le_length (by rw [Enc.len]; exact Nat.le_refl _), List.drop_of_length_le (by rw [Enc.len]; exact Nat.le_refl _), List.nil_append]
   | succ k =>
     have hk' : k < l.length := by simpa using hk
     simp only [List.set_cons_succ, cellsL, ih k hk']
     have e1 : (k + 1) * size α = size α + k * size α := by rw [Nat.succ_mul]; omega
     rw [e1, List.take_append, List.drop_append, Enc.len, List.take_of_length_le (l := enc y) (by rw [Enc.len]; omega), List.drop_of_length_le (l := enc y) (by rw [Enc.len]; omega)]
     rw [show size α + k * size α - size α = k * size α by omega, show size α + k * size α + size α - size α = k * size α + size α by omega, List.nil_append]
     simp only [List.append_assoc]
theorem Own.set {e : TypeId} {base : Nat} {W : World} {g n cap : Nat} {l : List α} (h : Own e base W (.slice (some ⟨g, 0, none⟩) n cap) l) {cur : Array Value} (hc : W.heap[g]? = some (.cells cur e (0, 0))) (k : Nat) (hk : k < l.length) (x : α) :
 Own e base (W.setRow g (cur.toList.take (k * size α) ++ enc x ++ cur.toList.drop (k * size α + (enc x).length)).toArray) (.slice (some ⟨g, 0, none⟩) n cap) (l.set k x) := by
 obtain ⟨rfl, hb, hlt, cur', hg, hn, hm, hs, ht⟩ := h.at0
 rw [hg] at hc
 injection hc with hc; injection hc with hc _; subst hc
 have hkk : (k + 1) * size α ≤ l.length * size α := Nat.mul_le_mul_right _ hk
 rw [Nat.succ_mul] at hkk
 have hcl : l.length * size α ≤ cap * size α := Nat.mul_le_mul_right _ hn
 refine ⟨by rw [cellsL_len, List.length_set], .inr ⟨g, cap, _, by rw [List.length_set], hb, setRow_heap W g cur' _ e _ hg, by rw [List.length_set]; exact hn, hm, ?_, ?_⟩⟩
 ·simp only [List.size_toArray, List.length_append, List.length_take, List.length_drop, Array.length_toList, Enc.len]; omega
 ·rw [List.length_set, cellsL_set l k x hk, ← ht]
  have hl : cur'.toList.length = cap * size α := by rw [Array.length_toList, hs]
  apply List.ext_getElem?
  intro j
  simp only [List.getElem?_append, List.getElem?_take, List.getElem?_drop, List.length_append, List.length_take, Enc.len, hl]
  rw [show min (k * size α) (cap * size α) = k * size α by omega, show min (k * size α) (min (l.length * size α) (cap * size α)) = k * size α by omega]
  by_cases h1 : j < k * size α
  ·have h1' : j < k * size α + size α := by omega
   have h1'' : j < l.length * size α := by omega
   simp only [h1, h1', h1'', if_true]
  ·by_cases h2 : j < k * size α + size α
   ·have h2' : j < l.length * size α := by omega
    simp only [h1, h2, h2', if_true, if_false]
   ·by_cases h3 : j < l.length * size α
    ·have h3' : k * size α + size α + (j - (k * size α + size α)) < l.length * size α := by omega
     simp only [h1, h2, h3, h3', if_true, if_false]
    ·have h3' : ¬ k * size α + size α + (j - (k * size α + size α)) < l.length * size α := by omega
     simp only [h1, h2, h3, h3', if_false]
theorem Sl.ldv {n : Nat} {W w : World} {L : List Nat} {a : Option Addr} {ad : Addr} {m cap : Nat} {l : List α} (h : Sl n W (.slice a m cap) l) {k : Nat} {x : α} (hk : l[k]? = some x) {v : Value} (hv : enc x = [v]) (had : a = some ad) (hB : Below n W w) (hL : ∀ b, b ∈ L → n ≤ b) {K : Value → Prop} (hK : K v) :
 LoadI w L (ad.add ((k : Int).toNat * 1)) K := by
 subst had
 have hs : size α = 1 := by have := Enc.len x; rw [hv] at this; exact this.symm
 obtain ⟨h1, h2⟩ := h.cell hk hB
 have h3 := h2 0 v (by rw [hv]; rfl)
 have h0 : ∀ q : Addr, q.add 0 = q := fun q => by simp [Addr.add]
 rw [h0, hs] at h3
 refine ⟨⟨_, ⟨h3, fun e => ?_⟩, hK⟩⟩
 have hb : (ad.add ((k : Int).toNat * 1)).block = ad.block := by unfold Addr.add; split <;> rfl
 rw [hb] at e
 have := hL _ e; omega
end
theorem infoZone : (Tryz.prog.info? 86).map (fun i => (i.zero, i.size, i.bytes)) = some (some (.agg #[.int .i64 0, .int .i64 0, .int .i64 0, .int .i64 0, .int .i64 0, .int .i64 0]), 6, 48) := by kernel_rfl
theorem elZ : ElOk Tryz.prog 22 86 6 48 := elOk (by kernel_rfl) infoZone rfl (by decide)
abbrev TZ : TypeId := 86
end Go.Proofs.YtanhnllkccldhaaGreat
namespace Go.Proofs.YtanhnllkccldhaaGreat
set_option linter.unusedVariables false
set_option linter.unusedSimpArgs false
set_option maxRecDepth 100000
open Go.RowKit Go.Proofs.YtanhnllkccldhaaGreat.Eng Enc
namespace Zo
def matL (z : Zn) : List Int := [1, z.b, z.d, z.a, 1, z.f, z.c, z.e, 1]
theorem kpD_set {w0 : Base} {wr : World} {M r : List Nat} {w1 : World} {g x : Nat} {v : Value} (hg : w0.B ≤ g) (hr : ∀ b, b ∈ r → b ≠ g) (hM : g ∈ M) : kpD w0 wr M r w1 (w1.setCell ⟨g, x, none⟩ v) := fun _ =>
 ⟨keep_set hg hr, fun k hk hkm => Below.heap_setCell _ _ _ _ (fun e => hkm (e ▸ hM))⟩
end Zo
theorem places_any (w : World) : Calls Tryz.prog 121 #[] w fun e w' => e = .returned (.agg #[.int .i64 3, .int .i64 1, .int .i64 6, .int .i64 2, .int .i64 7, .int .i64 5]) ∧ Below w.heap.size w w' := by
 refine fun_eq 0 w Tryz.func121 (args := []) rfl rfl ?_
 repeat' (first
  | (refine Branch.yes rfl ?_)
  | (refine Branch.no rfl ?_)
  | (refine Branch.mk (fun hb => ?_) (fun hb => ?_))
  | (refine NewI.mk fun nb hnb => ?_)
  | (refine Need.mk (by show _ ∧ _; omega) ?_)
  | (refine Need.mk (by omega) ?_)
  | (refine Need.mk ?_ ?_)
  | (refine EndI.mk fun w1 h1 => ?_))
 rfl
def placeOf (i : Nat) : Int := if i = 0 then 3 else if i = 1 then 1 else if i = 2 then 6 else if i = 3 then 2 else if i = 4 then 7 else 5
theorem places_at (i : Nat) (w : World) (h : i < 6 := by decide) : (Instr.index 166 (.agg #[.int .i64 3, .int .i64 1, .int .i64 6, .int .i64 2, .int .i64 7, .int .i64 5]) (.int .i64 i)).run Tryz.prog w = .ok (.int .i64 (placeOf i)) w := by
 rcases (by omega : i = 0 ∨ i = 1 ∨ i = 2 ∨ i = 3 ∨ i = 4 ∨ i = 5) with rfl | rfl | rfl | rfl | rfl | rfl <;> kernel_rfl
theorem zmatrix_any (z : Zn) (w : World) :
 Calls Tryz.prog 79 #[.agg #[.int .i64 z.a, .int .i64 z.b, .int .i64 z.c, .int .i64 z.d, .int .i64 z.e, .int .i64 z.f]] w (Ret w fun v w' => ∃ a' cap', v = .agg #[.int .i64 3, .slice a' (Zo.matL z).length cap'] ∧ Fresh TB w.heap.size w' (.slice a' (Zo.matL z).length cap') (Zo.matL z)) := by
 refine fun_ret 0 w Tryz.func79 (args := [.agg [.val (.int .i64 z.a), .val (.int .i64 z.b), .val (.int .i64 z.c), .val (.int .i64 z.d), .val (.int .i64 z.e), .val (.int .i64 z.f)]]) rfl rfl ?_
 refine NewI.mk fun b1 hb1 => ?_
 refine NewI.mk fun b2 hb2 => ?_
 have htop := fun w => top_any 3 w
 rw [show Dbm.top 3 = (3, Dbm.topL 3, 0) by rfl] at htop
 apply CallI.use
 focus (exact fun w1 h1 => htop w1)
 rintro v w1 w2 h1 hB2 ⟨a1, c1, rfl, hO⟩
 obtain ⟨g, rfl, hgb, hRow⟩ := hO.row (by decide)
 obtain ⟨_, _, _, cur, _, hcap, hmax, _⟩ := hO.at0
 have hgw : w.heap.size ≤ g := Nat.le_trans h1.below.size hgb
 have hg2 := hRow.lt
 refine NewI.mk fun b3 hb3 => ?_
 have hgr : ∀ b, b ∈ [b1, b2, b3] → b ≠ g := fun b hb e => by
  simp only [List.mem_cons, List.not_mem_nil, or_false] at hb
  have l1 := h1.lt b1 (by simp)
  have l2 := h1.lt b2 (by simp)
  omega
 have hgL : ∀ L : List Nat, (∀ b ∈ L, b ∈ [b1, b2, b3]) → g ∉ L := fun L h hm => hgr g (h g hm) rfl
 apply CallI.use1
 focus (exact fun w4 h4 => places_any w4)
 intro w4 w5 h4 hB5
 have hRow := (hRow.at h4 (hgL _ (by simp))).below hB5 (Nat.lt_of_lt_of_le hg2 h4.size)
 refine LoopI.rounds 7 ?_
 refine Branch.yes rfl ?_
 refine GenV.to (x := .int .i64 3) (fun w => places_at 0 w) fun u0 k0 => ?_
 refine DrawI.wr (.tk 0 (.tk 1 (.tk 2 (.tk 3 (.tk 4 (.tk 5 (.tk 6 (.ev 7 .done)))))))) [] [g] (by kernel_rfl) rfl (fun b hb h => hgr b hb (by simpa using h)) fun w0_ h0_ => ?_
 refine Need.mk (by decide) ?_
 refine IdxI.mk ⟨_, ⟨rfl, by omega, by show _ < (9 : Int); omega⟩, ?_⟩
 refine StoreI.mk fun x0 y0 => ?_
 have a0 : RowAt TB x0 g (Dbm.topL 3) := ((hRow.at k0 (hgL _ (by simp))).at h0_ (hgL _ (by simp))).at y0 (hgL _ (by simp))
 rw [show ((⟨g, 0, none⟩ : Addr).add ((3 : Int).toNat * 1)) = ⟨g, 3, none⟩ by simp [addr_addL]]
 refine ⟨⟨⟨_, a0.cell (j := 3) (by simp [Dbm.topL])⟩, a0.frozen _⟩, Zo.kpD_set hgw hgr (by simp [locs]), ?_⟩
 have r0 := a0.set (j := 3) (by simp [Dbm.topL]) z.a
 generalize x0.setCell ⟨g, 3, none⟩ (.int .i64 z.a) = s0 at r0
 refine Need.mk (by simp only [inK]; omega) ?_
 refine Branch.yes rfl ?_
 refine GenV.to (x := .int .i64 1) (fun w => places_at 1 w) fun u1 k1 => ?_
 refine DrawI.wr (.tk 0 (.tk 1 (.tk 2 (.tk 3 (.tk 4 (.tk 5 (.tk 6 (.ev 7 .done)))))))) [] [g] (by kernel_rfl) rfl (fun b hb h => hgr b hb (by simpa using h)) fun w1_ h1_ => ?_
 refine Need.mk (by decide) ?_
 refine IdxI.mk ⟨_, ⟨rfl, by omega, by show _ < (9 : Int); omega⟩, ?_⟩
 refine StoreI.mk fun x1 y1 => ?_
 have a1 : RowAt TB x1 g ((Dbm.topL 3).set 3 z.a) := ((r0.at k1 (hgL _ (by simp))).at h1_ (hgL _ (by simp))).at y1 (hgL _ (by simp))
 rw [show ((⟨g, 0, none⟩ : Addr).add ((1 : Int).toNat * 1)) = ⟨g, 1, none⟩ by simp [addr_addL]]
 refine ⟨⟨⟨_, a1.cell (j := 1) (by simp [Dbm.topL])⟩, a1.frozen _⟩, Zo.kpD_set hgw hgr (by simp [locs]), ?_⟩
 have r1 := a1.set (j := 1) (by simp [Dbm.topL]) z.b
 generalize x1.setCell ⟨g, 1, none⟩ (.int .i64 z.b) = s1 at r1
 refine Need.mk (by simp only [inK]; omega) ?_
 refine Branch.yes rfl ?_
 refine GenV.to (x := .int .i64 6) (fun w => places_at 2 w) fun u2 k2 => ?_
 refine DrawI.wr (.tk 0 (.tk 1 (.tk 2 (.tk 3 (.tk 4 (.tk 5 (.tk 6 (.ev 7 .done)))))))) [] [g] (by kernel_rfl) rfl (fun b hb h => hgr b hb (by simpa using h)) fun w2_ h2_ => ?_
 refine Need.mk (by decide) ?_
 refine IdxI.mk ⟨_, ⟨rfl, by omega, by show _ < (9 : Int); omega⟩, ?_⟩
 refine StoreI.mk fun x2 y2 => ?_
 have a2 : RowAt TB x2 g (((Dbm.topL 3).set 3 z.a).set 1 z.b) := ((r1.at k2 (hgL _ (by simp))).at h2_ (hgL _ (by simp))).at y2 (hgL _ (by simp))
 rw [show ((⟨g, 0, none⟩ : Addr).add ((6 : Int).toNat * 1)) = ⟨g, 6, none⟩ by simp [addr_addL]]
 refine ⟨⟨⟨_, a2.cell (j := 6) (by simp [Dbm.topL])⟩, a2.frozen _⟩, Zo.kpD_set hgw hgr (by simp [locs]), ?_⟩
 have r2 := a2.set (j := 6) (by simp [Dbm.topL]) z.c
 generalize x2.setCell ⟨g, 6, none⟩ (.int .i64 z.c) = s2 at r2
 refine Need.mk (by simp only [inK]; omega) ?_
 refine Branch.yes rfl ?_
 refine GenV.to (x := .int .i64 2) (fun w => places_at 3 w) fun u3 k3 => ?_
 refine DrawI.wr (.tk 0 (.tk 1 (.tk 2 (.tk 3 (.tk 4 (.tk 5 (.tk 6 (.ev 7 .done)))))))) [] [g] (by kernel_rfl) rfl (fun b hb h => hgr b hb (by simpa using h)) fun w3_ h3_ => ?_
 refine Need.mk (by decide) ?_
 refine IdxI.mk ⟨_, ⟨rfl, by omega, by show _ < (9 : Int); omega⟩, ?_⟩
 refine StoreI.mk fun x3 y3 => ?_
 have a3 : RowAt TB x3 g ((((Dbm.topL 3).set 3 z.a).set 1 z.b).set 6 z.c) := ((r2.at k3 (hgL _ (by simp))).at h3_ (hgL _ (by simp))).at y3 (hgL _ (by simp))
 rw [show ((⟨g, 0, none⟩ : Addr).add ((2 : Int).toNat * 1)) = ⟨g, 2, none⟩ by simp [addr_addL]]
 refine ⟨⟨⟨_, a3.cell (j := 2) (by simp [Dbm.topL])⟩, a3.frozen _⟩, Zo.kpD_set hgw hgr (by simp [locs]), ?_⟩
 have r3 := a3.set (j := 2) (by simp [Dbm.topL]) z.d
 generalize x3.setCell ⟨g, 2, none⟩ (.int .i64 z.d) = s3 at r3
 refine Need.mk (by simp only [inK]; omega) ?_
 refine Branch.yes rfl ?_
 refine GenV.to (x := .int .i64 7) (fun w => places_at 4 w) fun u4 k4 => ?_
 refine DrawI.wr (.tk 0 (.tk 1 (.tk 2 (.tk 3 (.tk 4 (.tk 5 (.tk 6 (.ev 7 .done)))))))) [] [g] (by kernel_rfl) rfl (fun b hb h => hgr b hb (by simpa using h)) fun w4_ h4_ => ?_
 refine Need.mk (by decide) ?_
 refine IdxI.mk ⟨_, ⟨rfl, by omega, by show _ < (9 : Int); omega⟩, ?_⟩
 refine StoreI.mk fun x4 y4 => ?_
 have a4 : RowAt TB x4 g (((((Dbm.topL 3).set 3 z.a).set 1 z.b).set 6 z.c).set 2 z.d) := ((r3.at k4 (hgL _ (by simp))).at h4_ (hgL _ (by simp))).at y4 (hgL _ (by simp))
 rw [show ((⟨g, 0, none⟩ : Addr).add ((7 : Int).toNat * 1)) = ⟨g, 7, none⟩ by simp [addr_addL]]
 refine ⟨⟨⟨_, a4.cell (j := 7) (by simp [Dbm.topL])⟩, a4.frozen _⟩, Zo.kpD_set hgw hgr (by simp [locs]), ?_⟩
 have r4 := a4.set (j := 7) (by simp [Dbm.topL]) z.e
 generalize x4.setCell ⟨g, 7, none⟩ (.int .i64 z.e) = s4 at r4
 refine Need.mk (by simp only [inK]; omega) ?_
 refine Branch.yes rfl ?_
 refine GenV.to (x := .int .i64 5) (fun w => places_at 5 w) fun u5 k5 => ?_
 refine DrawI.wr (.tk 0 (.tk 1 (.tk 2 (.tk 3 (.tk 4 (.tk 5 (.tk 6 (.ev 7 .done)))))))) [] [g] (by kernel_rfl) rfl (fun b hb h => hgr b hb (by simpa using h)) fun w5_ h5_ => ?_
 refine Need.mk (by decide) ?_
 refine IdxI.mk ⟨_, ⟨rfl, by omega, by show _ < (9 : Int); omega⟩, ?_⟩
 refine StoreI.mk fun x5 y5 => ?_
 have a5 : RowAt TB x5 g ((((((Dbm.topL 3).set 3 z.a).set 1 z.b).set 6 z.c).set 2 z.d).set 7 z.e) := ((r4.at k5 (hgL _ (by simp))).at h5_ (hgL _ (by simp))).at y5 (hgL _ (by simp))
 rw [show ((⟨g, 0, none⟩ : Addr).add ((5 : Int).toNat * 1)) = ⟨g, 5, none⟩ by simp [addr_addL]]
 refine ⟨⟨⟨_, a5.cell (j := 5) (by simp [Dbm.topL])⟩, a5.frozen _⟩, Zo.kpD_set hgw hgr (by simp [locs]), ?_⟩
 have r5 := a5.set (j := 5) (by simp [Dbm.topL]) z.f
 generalize x5.setCell ⟨g, 5, none⟩ (.int .i64 z.f) = s5 at r5
 refine Need.mk (by simp only [inK]; omega) ?_
 refine Branch.no rfl ?_
 refine EndI.mk fun w9 h9 => ⟨some ⟨g, 0, none⟩, c1, rfl, .inr ⟨g, c1, rfl, ?_, hmax, hgw, ?_⟩⟩
 ·simpa [Zo.matL, Dbm.topL] using hcap
 ·have hk := r5.at h9 (hgL _ (by simp))
  have e9 : ((((((Dbm.topL 3).set 3 z.a).set 1 z.b).set 6 z.c).set 2 z.d).set 7 z.e).set 5 z.f = Zo.matL z := rfl
  rw [e9] at hk
  exact hk
structure Sp where
 lo : Int
 ls : Bool
 hi : Int
 hs : Bool
 op : Bool
deriving DecidableEq
instance encSp : Enc Sp := ⟨fun x => [.int .i64 x.lo, .bool x.ls, .int .i64 x.hi, .bool x.hs, .bool x.op], 5, fun _ => rfl, by decide,
 fun _ v hv => by simp only [List.mem_cons, List.not_mem_nil, or_false] at hv; rcases hv with rfl | rfl | rfl | rfl | rfl <;> rfl, fun x => .agg #[.int .i64 x.lo, .bool x.ls, .int .i64 x.hi, .bool x.hs, .bool x.op]⟩
def Sp.ins (s : Sp) : Prop := inK .i64 s.lo ∧ inK .i64 s.hi
namespace Tg
def of (c : Int) (s : Bool) : Int := (Bd.made c s).1
def bad (s : Sp) : Bool := decide (s.lo < -288230376151711744) || decide (288230376151711744 < s.lo) || decide (288230376151711744 < s.hi)
def sides (s : Sp) : Int × Int × Bool :=
 if bad s = true then (0, 0, false) else
 if s.op = true then (of (-s.lo) s.ls, 9223372036854775807, decide (s.hi = 0) && !s.hs)
 else (of (-s.lo) s.ls, of s.hi s.hs, decide (s.lo ≤ s.hi))
def more (L : List Int) (l : List Rt) : List Int := l.foldl (fun M x => M.set x.num.toNat (min (M[x.num.toNat]?.getD 0) x.den)) L
theorem more_len (l : List Rt) (L : List Int) : (more L l).length = L.length := by
 unfold more
 induction l generalizing L with
 | nil => rfl
 | cons x l ih => rw [List.foldl_cons, ih]; simp
end Tg
theorem tmost_any (c : Int) (w : World) :
 Calls Tryz.prog 208 #[.int .i64 c] w fun e w' => e = .returned (.tuple #[.int .i64 (Bd.made c false).1, .int .i64 (Bd.made c false).2]) ∧ Below w.heap.size w w' := by
 refine fun_eq 0 w Tryz.func208 (args := [.val (.int .i64 c)]) rfl rfl ?_
 have st := Stay.first (w := w)
 apply CallI.use1
 focus (exact fun w1 h1 => made_any c false w1)
 intro w1 v1 h1 hB1
 have st := st.nx h1 hB1
 exact EndI.mk fun w9 h9 => rfl
theorem tless_any (c : Int) (w : World) :
 Calls Tryz.prog 207 #[.int .i64 c] w fun e w' => e = .returned (.tuple #[.int .i64 (Bd.made c true).1, .int .i64 (Bd.made c true).2]) ∧ Below w.heap.size w w' := by
 refine fun_eq 0 w Tryz.func207 (args := [.val (.int .i64 c)]) rfl rfl ?_
 have st := Stay.first (w := w)
 apply CallI.use1
 focus (exact fun w1 h1 => made_any c true w1)
 intro w1 v1 h1 hB1
 have st := st.nx h1 hB1
 exact EndI.mk fun w9 h9 => rfl
theorem tof_any (c : Int) (s : Bool) (w : World) :
 Calls Tryz.prog 188 #[.int .i64 c, .bool s] w fun e w' => e = .returned (.int .i64 (Tg.of c s)) ∧ Below w.heap.size w w' := by
 refine fun_eq 0 w Tryz.func188 (args := [.val (.int .i64 c), .val (.bool s)]) rfl rfl ?_
 have st := Stay.first (w := w)
 refine Branch.mk (fun hc => ?_) (fun hc => ?_)
 ·skip
  apply CallI.use1
  focus (exact fun w1 h1 => tless_any c w1)
  intro w1 v1 h1 hB1
  have st := st.nx h1 hB1
  refine EndI.mk fun w9 h9 => ?_
  have : s = true := hc
  subst this; rfl
 ·skip
  apply CallI.use1
  focus (exact fun w1 h1 => tmost_any c w1)
  intro w1 v1 h1 hB1
  have st := st.nx h1 hB1
  refine EndI.mk fun w9 h9 => ?_
  have : s = false := by simpa using hc
  subst this; rfl
theorem tsides_any (s : Sp) (hs : s.ins) (w : World) :
 Calls Tryz.prog 151 #[.agg #[.int .i64 s.lo, .bool s.ls, .int .i64 s.hi, .bool s.hs, .bool s.op]] w fun e w' => e = .returned (.tuple #[.int .i64 (Tg.sides s).1, .int .i64 (Tg.sides s).2.1, .bool (Tg.sides s).2.2]) ∧ Below w.heap.size w w' := by
 refine fun_eq 0 w Tryz.func151 (args := [.agg [.val (.int .i64 s.lo), .val (.bool s.ls), .val (.int .i64 s.hi), .val (.bool s.hs), .val (.bool s.op)]]) rfl rfl ?_
 have st := Stay.first (w := w)
 refine NewI.mk fun b1 hb1 => ?_
 refine Branch.mk (fun hc => ?_) (fun hc => ?_)
 ·have h0 : Tg.bad s = true := by have : s.lo < -288230376151711744 := by simpa using hc
                                  simp [Tg.bad, this]
  rw [Tg.sides, if_pos h0]
  exact EndI.mk fun w9 h9 => rfl
 refine Branch.mk (fun hc2 => ?_) (fun hc2 => ?_)
 ·have h0 : Tg.bad s = true := by have : 288230376151711744 < s.lo := by simpa using hc2
                                  simp [Tg.bad, this]
  rw [Tg.sides, if_pos h0]
  exact EndI.mk fun w9 h9 => rfl
 refine Branch.mk (fun hc3 => ?_) (fun hc3 => ?_)
 ·have h0 : Tg.bad s = true := by have : 288230376151711744 < s.hi := by simpa using hc3
                                  simp [Tg.bad, this]
  rw [Tg.sides, if_pos h0]
  exact EndI.mk fun w9 h9 => rfl
 have g1 : ¬ s.lo < -288230376151711744 := by simpa using hc
 have g2 : ¬ 288230376151711744 < s.lo := by simpa using hc2
 have g3 : ¬ 288230376151711744 < s.hi := by simpa using hc3
 have h0 : ¬ Tg.bad s = true := by simp [Tg.bad]; omega
 rw [Tg.sides, if_neg h0]
 refine Need.mk (by show _ ∧ _; omega) ?_
 apply CallI.use1
 focus (exact fun w1 h1 => tof_any (-s.lo) s.ls w1)
 intro w1 v1 h1 hB1
 have st := st.nx h1 hB1
 refine Branch.mk (fun hc => ?_) (fun hc => ?_)
 ·have ho : s.op = true := hc
  rw [if_pos ho]
  refine Branch.mk (fun hc2 => ?_) (fun hc2 => ?_)
  ·have h2 : s.hi = 0 := by simpa using hc2
   refine EndI.mk fun w9 h9 => ?_
   simp [h2]
  ·have h2 : ¬ s.hi = 0 := by simpa using hc2
   refine EndI.mk fun w9 h9 => ?_
   simp [h2]
 ·have ho : ¬ s.op = true := by simpa using hc
  rw [if_neg ho]
  refine DrawI.go (.tk 0 (.tk 1 (.tk 2 (.tk 3 (.tk 5 (.tk 6 (.tk 7 (.tk 8 (.tk 9 (.ev 4 (.tk 10 (.tk 11 .done)))))))))))) (by kernel_rfl) fun w7 h7 => ?_
  have st := st.at h7
  apply CallI.use1
  focus (exact fun w2 h2 => tof_any s.hi s.hs w2)
  intro w2 v2 h2 hB2
  have st := st.nx h2 hB2
  exact EndI.mk fun w9 h9 => rfl
theorem with_any (n : Int) (a : Option Addr) (cap : Nat) (L : List Int) (l : List Rt) (la : Option Addr) (lc : Nat) (hpos : 0 < L.length) (hlen : L.length ≤ 1000000) (hat : ∀ x ∈ l, 0 ≤ x.num ∧ x.num < L.length) (w : World) (hS : Sl w.heap.size w (.slice a L.length cap) L) (hSl : Sl w.heap.size w (.slice la l.length lc) l) :
 Calls Tryz.prog 152 #[.agg #[.int .i64 n, .slice a L.length cap], .slice la l.length lc] w (Ret w fun v w' => ∃ a' cap', v = .tuple #[.agg #[.int .i64 (Dbm.close n (Tg.more L l)).1, .slice a' (Dbm.close n (Tg.more L l)).2.1.length cap'], .int .i64 (Dbm.close n (Tg.more L l)).2.2] ∧ Fresh TB w.heap.size w' (.slice a' (Dbm.close n (Tg.more L l)).2.1.length cap') (Dbm.close n (Tg.more L l)).2.1) := by
 refine fun_ret 0 w Tryz.func152 (args := [.agg [.val (.int .i64 n), .val (.slice a L.length cap)], .val (.slice la l.length lc)]) rfl rfl ?_
 refine NewI.mk fun b1 hb1 => ?_
 refine NewI.mk fun b2 hb2 => ?_
 apply CallI.use
 ·exact fun w3 h3 => twin_any n a cap L hlen w3 (Sl.at h3 hS)
 rintro v w3 w4 h3 hB4 ⟨a', cap', rfl, hO⟩
 have hgb : ∀ b, b ∈ [b1, b2] → b < w3.heap.size := fun b hb => h3.lt b hb
 have hwb : w.heap.size ≤ w3.heap.size := h3.below.size
 obtain ⟨g, rfl, hg, hr⟩ := hO.row hpos
 obtain ⟨_, ⟨h0, _⟩ | ⟨g', c', cur', e0, _, hgc, hlc, hm, hs, _⟩⟩ := id hO
 ·cases h0
 injection e0 with e0 e1 e2
 injection e0 with e0; injection e0 with e0; subst e0; subst e2
 have hgr : ∀ b, b ∈ [b1, b2] → b ≠ g := fun b hb e => by have := hgb b hb; omega
 have hgw : w.heap.size ≤ g := Nat.le_trans hwb hg
 refine LoopI.invC (α := Nat × World) (fun y => [(12, .val (.int .i64 y.1))]) (fun y => y.2) (fun y => y.1 ≤ l.length ∧ Below w.heap.size w y.2 ∧ RowAt TB y.2 g (Tg.more L (l.take y.1))) (fun y => l.length - y.1) ?_ ?_
 ·intro w5 h5
  exact ⟨(0, w5), Cov.au rfl rfl rfl rfl rfl, rfl, Nat.zero_le _, h5.below, hr.at h5 (by simp; exact fun e => hgr b1 (by simp) e.symm)⟩
 rintro ⟨k, W⟩ ⟨hk, hW, hRk⟩
 refine Branch.mk (fun hb => ?_) (fun hb => ?_)
 ·have hlt : k < l.length := by simpa using hb
  have hx := List.getElem?_eq_getElem hlt
  have hxa := hat _ (List.mem_of_getElem? hx)
  generalize l[k] = x at hx hxa
  have hlk : (Tg.more L (l.take k)).length = L.length := Tg.more_len _ _
  have e1 : Tg.more L (l.take (k + 1)) = (Tg.more L (l.take k)).set x.num.toNat (min ((Tg.more L (l.take k))[x.num.toNat]?.getD 0) x.den) := by
   have e : l.take (k + 1) = l.take k ++ [x] := by rw [List.take_add_one, hx]; rfl
   rw [e]; simp [Tg.more, List.foldl_append]
  generalize Tg.more L (l.take k) = M at hRk hlk e1
  refine hSl.idx hx fun ad had => ?_
  refine hSl.ld hx had hW (by simp) ?_
  refine NewI.mk fun b3 hb3 => ?_
  have hgr3 : ∀ b, b ∈ [b1, b2, b3] → b ≠ g := fun b hb e => by
   have := hRk.lt
   simp only [List.mem_cons, List.not_mem_nil, or_false] at hb
   rcases hb with rfl | rfl | rfl
   ·exact hgr _ (by simp) e
   ·exact hgr _ (by simp) e
   ·have : W.heap.size ≤ b := hb3
    omega
  obtain ⟨j, hj⟩ : ∃ j : Nat, x.num = j := ⟨x.num.toNat, by omega⟩
  have hjl : j < M.length := by omega
  rw [hj, Int.toNat_natCast] at e1
  refine DrawI.wr (.tk 0 (.tk 1 (.tk 2 (.tk 3 (.tk 4 (.tk 5 (.tk 6 (.tk 7 (.tk 8 (.tk 10 (.tk 11 (.ev 9 (.tk 12 (.tk 13 (.ev 14 .done))))))))))))))) [] [g] (by kernel_rfl) rfl (fun b hb h => hgr3 b hb (by simpa using h)) fun w5 h5 => ?_
  have r5 := hRk.at h5 (by simp; exact fun e => hgr3 b3 (by simp) e.symm)
  simp only [hj]
  refine IdxI.mk ⟨_, ⟨rfl, by omega, by omega⟩, ?_⟩
  rw [show ((⟨g, 0, none⟩ : Addr).add ((j : Int).toNat * 1)) = ⟨g, j, none⟩ by simp [addr_addL]]
  refine LoadI.mk ⟨_, ⟨r5.cell (j := j) hjl, by simp⟩, ?_⟩
  refine IdxI.mk ⟨_, ⟨rfl, by omega, by omega⟩, ?_⟩
  refine StoreI.mk fun w6 h6 => ?_
  have r6 := r5.at h6 (by simp)
  rw [show ((⟨g, 0, none⟩ : Addr).add ((j : Int).toNat * 1)) = ⟨g, j, none⟩ by simp [addr_addL]]
  refine ⟨⟨⟨_, r6.cell (j := j) hjl⟩, r6.frozen _⟩, Zo.kpD_set hgw hgr3 (by simp [locs]), ?_⟩
  obtain ⟨_, _, e0, h1, h2, _⟩ := hSl.form
  unfold maxLen at h2
  injection e0 with _ _ e0
  refine Need.mk (by show _ ∧ _; omega) (EndI.mk fun w12 h12 => ⟨(k + 1, w12), Cov.au rfl rfl rfl rfl rfl, rfl, ⟨hlt, h12.below, ?_⟩, by simp only; omega⟩)
  show RowAt TB w12 g (Tg.more L (l.take (k + 1)))
  rw [e1]
  have em : minL (M[j]?.getD 0) [x.den] = min (M[j]?.getD 0) x.den := by simp [minL]; omega
  rw [em] at h12
  exact (r6.set hjl _).at h12 (by simp)
 ·have hge : k = l.length := by have : ¬ k < l.length := by simpa using hb
                                omega
  subst hge
  rw [List.take_length] at hRk
  have hlm : (Tg.more L l).length = L.length := Tg.more_len _ _
  have hRW : Sl W.heap.size W (.slice (some ⟨g, 0, none⟩) (Tg.more L l).length cap') (Tg.more L l) :=
   Fresh.sl (e := TB) (base := w.heap.size) (.inr ⟨g, cap', rfl, by omega, hm, hgw, hRk⟩)
  rw [← hlm]
  have st := (Stay.first (w := w)).go (Nat.le_refl _) (Below.refl _ _) hW
  apply CallI.use
  focus (exact fun w9 h9 => close_any n _ cap' _ w9 (hRW.st (st.at h9)))
  rintro v w9 v9 h9 hB9 ⟨a9, c9, rfl, hF9⟩
  have st := st.nx h9 hB9
  exact EndI.mk fun w10 h10 => ⟨a9, c9, rfl, (hF9.at h10 (fun b hb => by rw [List.mem_singleton.1 hb]; exact h9.lt b2 (by simp))).lower h9.below.size⟩
theorem clock_any (n : Int) (a : Option Addr) (m cap : Nat) (i : Int) (w : World) :
 Calls Tryz.prog 150 #[.agg #[.int .i64 n, .slice a m cap], .int .i64 i] w fun e w' => e = .returned (.bool (decide (0 ≤ i ∧ i < n))) ∧ Below w.heap.size w w' := by
 refine fun_eq 0 w Tryz.func150 (args := [.agg [.val (.int .i64 n), .val (.slice a m cap)], .val (.int .i64 i)]) rfl rfl ?_
 refine NewI.mk fun b1 hb1 => ?_
 refine Branch.mk (fun hc => ?_) (fun hc => ?_)
 ·have h0 : 0 ≤ i := by simpa using hc
  refine EndI.mk fun w9 h9 => ?_
  simp [h0]
 ·have h0 : ¬ 0 ≤ i := by simpa using hc
  refine EndI.mk fun w9 h9 => ?_
  rw [decide_eq_false (fun h => h0 h.1)]
namespace Tg
def between (n : Int) (L : List Int) (i : Int) (s : Sp) : Int × List Int × Int :=
 if Dbm.chk n L = 0 then (if 0 ≤ i ∧ i < n then (if (sides s).2.2 = true then Dbm.close n (more L [⟨i, (sides s).1⟩, ⟨i * n, (sides s).2.1⟩]) else (0, [], 8)) else (0, [], 2)) else (0, [], 8)
end Tg
theorem between_any (n : Int) (a : Option Addr) (cap : Nat) (L : List Int) (i : Int) (s : Sp) (hs : s.ins) (w : World) (hS : Sl w.heap.size w (.slice a L.length cap) L) :
 Calls Tryz.prog 101 #[.agg #[.int .i64 n, .slice a L.length cap], .int .i64 i, .agg #[.int .i64 s.lo, .bool s.ls, .int .i64 s.hi, .bool s.hs, .bool s.op]] w (Ret w fun v w' => ∃ a' cap', v = .tuple #[.agg #[.int .i64 (Tg.between n L i s).1, .slice a' (Tg.between n L i s).2.1.length cap'], .int .i64 (Tg.between n L i s).2.2] ∧ Fresh TB w.heap.size w' (.slice a' (Tg.between n L i s).2.1.length cap') (Tg.between n L i s).2.1) := by
 refine fun_ret 0 w Tryz.func101 (args := [.agg [.val (.int .i64 n), .val (.slice a L.length cap)], .val (.int .i64 i), .agg [.val (.int .i64 s.lo), .val (.bool s.ls), .val (.int .i64 s.hi), .val (.bool s.hs), .val (.bool s.op)]]) rfl rfl ?_
 have st := Stay.first (w := w)
 refine NewI.mk fun b1 hb1 => ?_
 refine NewI.mk fun b2 hb2 => ?_
 refine NewI.mk fun b3 hb3 => ?_
 unfold Tg.between
 apply CallI.use1
 focus (exact fun w1 h1 => dcheck_any n a cap L w1 (hS.st (st.at h1)))
 intro w1 v1 h1 hB1
 have st := st.nx h1 hB1
 refine Branch.mk (fun hc => ?_) (fun hc => ?_)
 ·rw [if_neg (by simpa using hc)]
  exact EndI.mk fun w9 h9 => ⟨_, _, rfl, .inl ⟨rfl, rfl⟩⟩
 have h0 : Dbm.chk n L = 0 := by simpa using hc
 rw [if_pos h0]
 apply CallI.use1
 focus (exact fun w2 h2 => clock_any n a L.length cap i w2)
 intro w2 v2 h2 hB2
 have st := st.nx h2 hB2
 refine Branch.mk (fun hc2 => ?_) (fun hc2 => ?_)
 ·have h1 : ¬ (0 ≤ i ∧ i < n) := fun h => by simp [h] at hc2
  rw [if_neg h1]
  exact EndI.mk fun w9 h9 => ⟨_, _, rfl, .inl ⟨rfl, rfl⟩⟩
 have h1 : 0 ≤ i ∧ i < n := by
  have : decide (0 ≤ i ∧ i < n) = true := by
   cases hd : decide (0 ≤ i ∧ i < n)
   ·rw [hd] at hc2; cases hc2
   ·rfl
  simpa using this
 rw [if_pos h1]
 apply CallI.use1
 focus (exact fun w3 h3 => tsides_any s hs w3)
 intro w3 v3 h3 hB3
 have st := st.nx h3 hB3
 generalize hD : Tg.sides s = D
 obtain ⟨below, above, is⟩ := D
 refine Branch.mk (fun hc3 => ?_) (fun hc3 => ?_)
 ·have h2 : ¬ is = true := by simpa using hc3
  rw [if_neg h2]
  exact EndI.mk fun w9 h9 => ⟨_, _, rfl, .inl ⟨rfl, rfl⟩⟩
 have h2 : is = true := by simpa using hc3
 rw [if_pos h2]
 obtain ⟨c1, c2, c3, c4⟩ := Dbm.chk_iff.1 h0
 have hb : 0 ≤ i * n ∧ i * n < L.length ∧ i < L.length ∧ L.length ≤ 16 := by
  rw [c3]
  have : (L.length : Int) ≤ 16 := by
   rw [c3]
   rcases (by omega : n = 1 ∨ n = 2 ∨ n = 3 ∨ n = 4) with rfl | rfl | rfl | rfl <;> omega
  rcases (by omega : n = 1 ∨ n = 2 ∨ n = 3 ∨ n = 4) with rfl | rfl | rfl | rfl <;> omega
 refine Need.mk (by show _ ∧ _; omega) ?_
 refine NewI.mk fun b4 hb4 => ?_
 apply CallI.use
 focus (exact fun w4 h4 => with_any n a cap L [⟨i, below⟩, ⟨i * n, above⟩] _ 2 (by omega) (by omega) (by intro x hx; rcases List.mem_cons.1 hx with rfl | hx; exact ⟨h1.1, hb.2.2.1⟩; rw [List.mem_singleton.1 hx]; exact ⟨hb.1, hb.2.1⟩) w4 (hS.st (st.at h4)) (Sl.own (l := [(⟨i, below⟩ : Rt), ⟨i * n, above⟩]) h4 3 rfl rfl rfl (Nat.le_refl _) (by simp [maxLen])))
 rintro v w4 v4 h4 hB4 ⟨a1, q1, rfl, hF1⟩
 have st := st.nx h4 hB4
 exact EndI.mk fun w10 h10 => ⟨a1, q1, rfl, (hF1.at h10 (fun b hb => by rw [List.mem_singleton.1 hb]; exact h4.lt b3 (by simp))).lower h4.below.size⟩
end Go.Proofs.YtanhnllkccldhaaGreat
namespace Go.Proofs.YtanhnllkccldhaaGreat
set_option linter.unusedVariables false
open Go.ChangeShapes Go.WideShapes Go.ChangeAt Go.RowKit Go.Deep Go.Proofs.YtanhnllkccldhaaGreat.Eng
section
variable {H : Type} {en : TypeId × Value → H} {P : Program}
theorem trod_struct5 {w : World} {base : Nat} {spare : Nat → Bool} {held : Bool} {t : TypeId} {f0 f1 f2 f3 f4 : Field} {fuel : Nat} {cs : List Value} {x : DataW H × List MemPlace} (ht : P.underlying t = some (.struct #[f0, f1, f2, f3, f4])) (h : DataW.trod en P w base spare held fuel t cs = some x) :
 ∃ y0 y1 y2 y3 y4 n, cs.length = P.cellsOf t ∧ DataW.trod en P w base spare held n f0.type ((cs.drop f0.offset).take (P.cellsOf f0.type)) = some y0 ∧ DataW.trod en P w base spare held n f1.type ((cs.drop f1.offset).take (P.cellsOf f1.type)) = some y1 ∧
  DataW.trod en P w base spare held n f2.type ((cs.drop f2.offset).take (P.cellsOf f2.type)) = some y2 ∧ DataW.trod en P w base spare held n f3.type ((cs.drop f3.offset).take (P.cellsOf f3.type)) = some y3 ∧ DataW.trod en P w base spare held n f4.type ((cs.drop f4.offset).take (P.cellsOf f4.type)) = some y4 := by
 obtain ⟨xs, n, _, rfl, hl, hlen, hf⟩ := DataW.trod_struct ht h
 match xs, hlen with
 | [y0, y1, y2, y3, y4], _ => exact ⟨y0, y1, y2, y3, y4, n, hl, by simpa using hf 0 f0 rfl, by simpa using hf 1 f1 rfl, by simpa using hf 2 f2 rfl, by simpa using hf 3 f3 rfl, by simpa using hf 4 f4 rfl⟩
theorem opens_sp {e : TypeId} {f0 f1 f2 f3 f4 : Field} (he : P.underlying e = some (.struct #[f0, f1, f2, f3, f4])) (hc : P.cellsOf e = 5) (o0 : f0.offset = 0) (o1 : f1.offset = 1) (o2 : f2.offset = 2) (o3 : f3.offset = 3) (o4 : f4.offset = 4)
 (c0 : P.cellsOf f0.type = 1) (c1 : P.cellsOf f1.type = 1) (c2 : P.cellsOf f2.type = 1) (c3 : P.cellsOf f3.type = 1) (c4 : P.cellsOf f4.type = 1)
 (t0 : P.underlying f0.type = some (.int .i64)) (t1 : P.underlying f1.type = some .bool) (t2 : P.underlying f2.type = some (.int .i64)) (t3 : P.underlying f3.type = some .bool) (t4 : P.underlying f4.type = some .bool) : Opens en P e Sp Sp.ins := by
 refine ⟨hc, fun W b sp hl fuel cs x h => ?_⟩
 obtain ⟨y0, y1, y2, y3, y4, n, hlen, k0, k1, k2, k3, k4⟩ := trod_struct5 he h
 rw [hc] at hlen
 match cs, hlen with
 | [p0, p1, p2, p3, p4], _ =>
   rw [o0, c0] at k0
   rw [o1, c1] at k1
   rw [o2, c2] at k2
   rw [o3, c3] at k3
   rw [o4, c4] at k4
   obtain ⟨m0, e0, _, w0⟩ := DataW.trod_int t0 k0
   obtain ⟨m1, e1, _⟩ := DataW.trod_bool t1 k1
   obtain ⟨m2, e2, _, w2⟩ := DataW.trod_int t2 k2
   obtain ⟨m3, e3, _⟩ := DataW.trod_bool t3 k3
   obtain ⟨m4, e4, _⟩ := DataW.trod_bool t4 k4
   simp at e0 e1 e2 e3 e4
   subst e0; subst e1; subst e2; subst e3; subst e4
   exact ⟨⟨m0, m1, m2, m3, m4⟩, rfl, inK_wf w0, inK_wf w2⟩
end
end Go.Proofs.YtanhnllkccldhaaGreat
namespace Go.Proofs.YtanhnllkccldhaaGreat
set_option linter.unusedVariables false
set_option linter.unusedSimpArgs false
set_option maxRecDepth 100000
open Go.RowKit Go.Proofs.YtanhnllkccldhaaGreat.Eng Enc
theorem equalB_any (L M : List Int) (a b : Option Addr) (ca cb : Nat) (w : World) (hA : Sl w.heap.size w (.slice a L.length ca) L) (hB : Sl w.heap.size w (.slice b M.length cb) M) :
 Calls Tryz.prog 162 #[.slice a L.length ca, .slice b M.length cb] w fun e w' => e = .returned (.bool (decide (L = M))) ∧ Below w.heap.size w w' := by
 refine fun_eq 0 w Tryz.func162 (args := [.val (.slice a L.length ca), .val (.slice b M.length cb)]) rfl rfl ?_
 refine Branch.mk (fun hl => ?_) (fun hl => ?_)
 ·refine EndI.mk fun w3 h3 => ?_
  have h0 : ¬ (L.length : Int) = M.length := by simpa using hl
  rw [decide_eq_false (fun h => h0 (by rw [h]))]
 have hlen : L.length = M.length := by have : (L.length : Int) = M.length := by simpa using hl
                                       omega
 refine LoopI.invC (α := Nat × World) (fun y => [(13, .val (.int .i64 y.1))]) (fun y => y.2) (fun y => y.1 ≤ L.length ∧ Below w.heap.size w y.2 ∧ ∀ i, i < y.1 → L[i]? = M[i]?) (fun y => L.length - y.1) ?_ ?_
 ·intro w1 h1
  exact ⟨(0, w1), Cov.au rfl rfl rfl rfl rfl, rfl, Nat.zero_le _, h1.below, fun i hi => by omega⟩
 rintro ⟨k, W⟩ ⟨hk, hW, hall⟩
 refine Branch.mk (fun hc => ?_) (fun hc => ?_)
 ·have hlt : k < L.length := by simpa using hc
  have hgC := List.getElem?_eq_getElem (l := L) (i := k) (by omega)
  have hgM := List.getElem?_eq_getElem (l := M) (i := k) (by omega)
  have hAW := hA.go hW hW.size
  have hBW := hB.go hW hW.size
  refine DrawI.go (.tk 0 (.tk 1 (.tk 2 (.tk 3 (.tk 4 (.tk 5 (.tk 6 (.tk 7 (.tk 8 .done))))))))) (by kernel_rfl) fun w1 h1 => ?_
  have k1 := h1.go
  refine hAW.idx hgC fun ad had => ?_
  refine hAW.ld1 hgC had k1 (by simp) ?_
  refine hBW.idx hgM fun ad had => ?_
  refine hBW.ld1 hgM had k1 (by simp) ?_
  refine Branch.mk (fun hc2 => ?_) (fun hc2 => ?_)
  ·have hne : ¬ L[k] = M[k]'(by omega) := by simpa using hc2
   refine EndI.mk fun w4 h4 => ?_
   rw [decide_eq_false]
   intro h
   apply hne
   simp [h]
  ·have he : L[k] = M[k]'(by omega) := by simpa using hc2
   obtain ⟨_, _, e0, h1, h2, _⟩ := hA.form
   unfold maxLen at h2
   injection e0 with _ _ e0
   refine Need.mk (by show _ ∧ _; omega) (EndI.mk fun w7 h7 => ⟨(k + 1, w7), Cov.au rfl rfl rfl rfl rfl, rfl, ⟨hlt, h7.below, fun i hi => ?_⟩, by simp only; omega⟩)
   rcases Nat.lt_succ_iff_lt_or_eq.1 hi with h' | h'
   ·exact hall i h'
   ·rw [h', hgC, hgM, he]
 ·have hge : k = L.length := by have : ¬ k < L.length := by simpa using hc
                                omega
  refine EndI.mk fun w5 h5 => ?_
  rw [decide_eq_true]
  refine List.ext_getElem? fun i => ?_
  rcases Nat.lt_or_ge i k with h | h
  ·exact hall i h
  ·rw [List.getElem?_eq_none (by omega), List.getElem?_eq_none (by omega)]
theorem same_any (n m : Int) (L M : List Int) (a b : Option Addr) (ca cb : Nat) (w : World) (hA : Sl w.heap.size w (.slice a L.length ca) L) (hB : Sl w.heap.size w (.slice b M.length cb) M) :
 Calls Tryz.prog 113 #[.agg #[.int .i64 n, .slice a L.length ca], .agg #[.int .i64 m, .slice b M.length cb]] w fun e w' => e = .returned (.bool (decide (n = m ∧ L = M))) ∧ Below w.heap.size w w' := by
 refine fun_eq 0 w Tryz.func113 (args := [.agg [.val (.int .i64 n), .val (.slice a L.length ca)], .agg [.val (.int .i64 m), .val (.slice b M.length cb)]]) rfl rfl ?_
 have st := Stay.first (w := w)
 refine NewI.mk fun b1 hb1 => ?_
 refine NewI.mk fun b2 hb2 => ?_
 refine Branch.mk (fun hc => ?_) (fun hc => ?_)
 rotate_left
 ·have h0 : ¬ n = m := by simpa using hc
  refine EndI.mk fun w3 h3 => ?_
  simp [h0]
 have h0 : n = m := by simpa using hc
 apply CallI.use1
 focus (exact fun w1 h1 => equalB_any L M a b ca cb w1 (hA.st (st.at h1)) (hB.st (st.at h1)))
 intro w1 v1 h1 hB1
 have st := st.nx h1 hB1
 refine EndI.mk fun w3 h3 => ?_
 simp [h0]
namespace Zo
theorem matL_len (z : Zn) : (matL z).length = 9 := rfl
def chk (z : Zn) : Int := if Dbm.close 3 (matL z) = (3, matL z, 0) then 0 else 8
theorem chk_eq {z : Zn} : chk z = 0 ↔ Dbm.close 3 (matL z) = (3, matL z, 0) := by unfold chk; split <;> simp_all
def has (z : Zn) (p : Pt) : Bool × Int := if chk z = 0 ∧ p.t.ok = true ∧ p.u.ok = true then Dbm.keeps 3 (matL z) [p.t, p.u] else (false, 8)
end Zo
theorem zcheck_any (z : Zn) (w : World) :
 Calls Tryz.prog 72 #[.agg #[.int .i64 z.a, .int .i64 z.b, .int .i64 z.c, .int .i64 z.d, .int .i64 z.e, .int .i64 z.f]] w fun e w' => e = .returned (.int .i64 (Zo.chk z)) ∧ Below w.heap.size w w' := by
 refine fun_eq 0 w Tryz.func72 (args := [.agg [.val (.int .i64 z.a), .val (.int .i64 z.b), .val (.int .i64 z.c), .val (.int .i64 z.d), .val (.int .i64 z.e), .val (.int .i64 z.f)]]) rfl rfl ?_
 have st := Stay.first (w := w)
 refine NewI.mk fun b1 hb1 => ?_
 apply CallI.use
 focus (exact fun w1 h1 => zmatrix_any z w1)
 rintro v w1 v1 h1 hB1 ⟨a1, c1, rfl, hF1⟩
 have st := st.nx h1 hB1
 refine NewI.mk fun b2 hb2 => ?_
 have hcl := fun (w : World) (h : Sl w.heap.size w (.slice a1 (Zo.matL z).length c1) (Zo.matL z)) => close_any 3 a1 c1 (Zo.matL z) w h
 unfold Zo.chk
 generalize hD : Dbm.close 3 (Zo.matL z) = D at hcl
 obtain ⟨n, C, e⟩ := D
 apply CallI.use
 focus (exact fun w2 h2 => hcl w2 (hF1.sl.st (st.at h2)))
 rintro v w2 v2 h2 hB2 ⟨a2, c2, rfl, hF2⟩
 have st := st.nx h2 hB2
 refine NewI.mk fun b3 hb3 => ?_
 refine Branch.mk (fun hc => ?_) (fun hc => ?_)
 ·have he : ¬ e = 0 := by simpa using hc
  refine EndI.mk fun w3 h3 => ?_
  rw [if_neg (by simp [he])]
 have he : e = 0 := by simpa using hc
 apply CallI.use1
 focus (exact fun w3 h3 => same_any n 3 C (Zo.matL z) a2 a1 c2 c1 w3 (hF2.sl.st (st.at h3)) (hF1.sl.st (st.at h3)))
 intro w3 v3 h3 hB3
 have st := st.nx h3 hB3
 refine Branch.mk (fun hc => ?_) (fun hc => ?_)
 ·have h0 : ¬ (n = 3 ∧ C = Zo.matL z) := fun h => by rw [h.1, h.2] at hc; simp at hc
  refine EndI.mk fun w3 h3 => ?_
  rw [if_neg (fun h => h0 ⟨(Prod.mk.inj h).1, (Prod.mk.inj (Prod.mk.inj h).2).1⟩)]
 ·have h0 : n = 3 ∧ C = Zo.matL z := by simpa using hc
  refine EndI.mk fun w3 h3 => ?_
  rw [if_pos (by rw [h0.1, h0.2, he])]
theorem zhas_any (z : Zn) (p : Pt) (hp : p.ins) (w : World) :
 Calls Tryz.prog 38 #[.agg #[.int .i64 z.a, .int .i64 z.b, .int .i64 z.c, .int .i64 z.d, .int .i64 z.e, .int .i64 z.f], .agg #[.int .i64 p.t.num, .int .i64 p.t.den, .int .i64 p.u.num, .int .i64 p.u.den]] w (Ret w fun v w' => v = .tuple #[.bool (Zo.has z p).1, .int .i64 (Zo.has z p).2]) := by
 refine fun_ret 0 w Tryz.func38 (args := [.agg [.val (.int .i64 z.a), .val (.int .i64 z.b), .val (.int .i64 z.c), .val (.int .i64 z.d), .val (.int .i64 z.e), .val (.int .i64 z.f)], .agg [.val (.int .i64 p.t.num), .val (.int .i64 p.t.den), .val (.int .i64 p.u.num), .val (.int .i64 p.u.den)]]) rfl rfl ?_
 have st := Stay.first (w := w)
 refine NewI.mk fun b1 hb1 => ?_
 refine NewI.mk fun b2 hb2 => ?_
 unfold Zo.has
 apply CallI.use1
 focus (exact fun w1 h1 => zcheck_any z w1)
 intro w1 v1 h1 hB1
 have st := st.nx h1 hB1
 refine Branch.mk (fun hc => ?_) (fun hc => ?_)
 ·have h0 : ¬ Zo.chk z = 0 := by simpa using hc
  rw [if_neg (fun h => h0 h.1)]
  exact EndI.mk fun w3 h3 => rfl
 have h0 : Zo.chk z = 0 := by simpa using hc
 apply CallI.use1
 focus (exact fun w2 h2 => rcheck_any p.t.num p.t.den hp.1.1 hp.1.2 w2)
 intro w2 v2 h2 hB2
 have st := st.nx h2 hB2
 refine Branch.mk (fun hc => ?_) (fun hc => ?_)
 ·have h1 : ¬ Fr.chk p.t.num p.t.den = 0 := by simpa using hc
  rw [if_neg (fun h => h1 (Fr.chk_yes h.2.1))]
  exact EndI.mk fun w3 h3 => rfl
 have h1 : Fr.chk p.t.num p.t.den = 0 := by simpa using hc
 apply CallI.use1
 focus (exact fun w3 h3 => rcheck_any p.u.num p.u.den hp.2.1 hp.2.2 w3)
 intro w3 v3 h3 hB3
 have st := st.nx h3 hB3
 refine Branch.mk (fun hc => ?_) (fun hc => ?_)
 ·have h2 : ¬ Fr.chk p.u.num p.u.den = 0 := by simpa using hc
  rw [if_neg (fun h => h2 (Fr.chk_yes h.2.2))]
  exact EndI.mk fun w3 h3 => rfl
 have h2 : Fr.chk p.u.num p.u.den = 0 := by simpa using hc
 rw [if_pos ⟨h0, Fr.chk_eq.1 h1, Fr.chk_eq.1 h2⟩]
 refine DrawI.go (.tk 0 (.tk 2 (.tk 3 (.tk 4 (.tk 5 (.two 1 (.ev 6 (.ev 7 (.tk 8 (.tk 9 (.tk 10 (.tk 11 .done)))))) 6 (.ev 1 (.ev 7 (.tk 8 (.tk 9 (.tk 10 (.tk 11 .done)))))))))))) (by kernel_rfl) fun w7 h7 => ?_
 have st := st.at h7
 have hT : ∀ x ∈ [p.t, p.u], x.ins := fun x hx => by
  rcases List.mem_cons.1 hx with rfl | hx
  ·exact hp.1
  ·rw [List.mem_singleton.1 hx]; exact hp.2
 refine Both.mk ?_ ?_
 ·skip
  apply CallI.use
  focus (exact fun w4 h4 => zmatrix_any z w4)
  rintro v w4 v4 h4 hB4 ⟨a1, c1, rfl, hF1⟩
  have st := st.nx h4 hB4
  refine NewI.mk fun b3 hb3 => ?_
  apply CallI.use
  focus (exact fun w5 h5 => dkeeps_any 3 a1 c1 (Zo.matL z) [p.t, p.u] _ 2 w5 hT (hF1.sl.st (st.at h5)) (Sl.own (l := [p.t, p.u]) h5 2 rfl rfl rfl (Nat.le_refl _) (by simp [maxLen])))
  rintro v w5 v5 h5 hB5 rfl
  have st := st.nx h5 hB5
  exact EndI.mk fun w9 h9 => rfl
 ·refine NewI.mk fun b3 hb3 => ?_
  apply CallI.use
  focus (exact fun w4 h4 => zmatrix_any z w4)
  rintro v w4 v4 h4 hB4 ⟨a1, c1, rfl, hF1⟩
  have st := st.nx h4 hB4
  apply CallI.use
  focus (exact fun w5 h5 => dkeeps_any 3 a1 c1 (Zo.matL z) [p.t, p.u] _ 2 w5 hT (hF1.sl.st (st.at h5)) (Sl.own (l := [p.t, p.u]) h5 2 rfl rfl rfl (Nat.le_refl _) (by simp [maxLen])))
  rintro v w5 v5 h5 hB5 rfl
  have st := st.nx h5 hB5
  exact EndI.mk fun w9 h9 => rfl
namespace Zo
def nought : Zn := ⟨0, 0, 0, 0, 0, 0⟩
def ofL (L : List Int) : Zn := ⟨L[3]?.getD 0, L[1]?.getD 0, L[6]?.getD 0, L[2]?.getD 0, L[7]?.getD 0, L[5]?.getD 0⟩
def told (L : List Int) : Zn × Int := if Dbm.chk 3 L = 0 then (ofL L, 0) else (nought, 8)
def of (n : Int) (L : List Int) : Zn × Int :=
 if Dbm.chk n L = 0 then (if n = 3 then (if (Dbm.close 3 L).2.2 = 0 then told (Dbm.close 3 L).2.1 else (nought, (Dbm.close 3 L).2.2)) else (nought, 40)) else (nought, 8)
end Zo
theorem ztold_any (a : Option Addr) (cap : Nat) (L : List Int) (w : World) (hS : Sl w.heap.size w (.slice a L.length cap) L) :
 Calls Tryz.prog 76 #[.agg #[.int .i64 3, .slice a L.length cap]] w fun e w' => e = .returned (.tuple #[.agg #[.int .i64 (Zo.told L).1.a, .int .i64 (Zo.told L).1.b, .int .i64 (Zo.told L).1.c, .int .i64 (Zo.told L).1.d, .int .i64 (Zo.told L).1.e, .int .i64 (Zo.told L).1.f], .int .i64 (Zo.told L).2]) ∧ Below w.heap.size w w' := by
 refine fun_eq 0 w Tryz.func76 (args := [.agg [.val (.int .i64 3), .val (.slice a L.length cap)]]) rfl rfl ?_
 have st := Stay.first (w := w)
 refine NewI.mk fun b1 hb1 => ?_
 refine NewI.mk fun b2 hb2 => ?_
 unfold Zo.told
 apply CallI.use1
 focus (exact fun w1 h1 => dcheck_any 3 a cap L w1 (hS.st (st.at h1)))
 intro w1 v1 h1 hB1
 have st := st.nx h1 hB1
 refine Branch.mk (fun hc => ?_) (fun hc => ?_)
 ·have h0 : ¬ Dbm.chk 3 L = 0 := by simpa using hc
  have h8 := (Dbm.chk_cases 3 L).resolve_left h0
  rw [if_neg h0, h8]
  exact EndI.mk fun w9 h9 => rfl
 have h0 : Dbm.chk 3 L = 0 := by simpa using hc
 rw [if_pos h0]
 obtain ⟨c1, c2, c3, c4⟩ := Dbm.chk_iff.1 h0
 have hL9 : L.length = 9 := by omega
 have g : ∀ k, k < 9 → L[k]? = some (L[k]?.getD 0) := fun k hk => by rw [List.getElem?_eq_getElem (by omega)]; rfl
 apply CallI.use1
 focus (exact fun w4 h4 => places_any w4)
 intro w4 w5 h4 hB5
 have st := st.nx h4 hB5
 refine LoopI.rounds 7 ?_
 refine Branch.yes rfl ?_
 refine GenV.to (x := .int .i64 3) (fun w => places_at 0 w) fun u0 k0 => ?_
 refine hS.idx (k := 3) (g 3 (by decide)) fun ad had => ?_
 refine hS.ld1 (g 3 (by decide)) had k0.below (by first | (intro b hb; cases hb; done) | (intro b hb; rw [List.mem_singleton.1 hb]; exact hb2)) ?_
 refine Need.mk (by decide) ?_
 refine Need.mk (by simp only [inK]; omega) ?_
 refine Branch.yes rfl ?_
 refine GenV.to (x := .int .i64 1) (fun w => places_at 1 w) fun u1 k1 => ?_
 refine hS.idx (k := 1) (g 1 (by decide)) fun ad had => ?_
 refine hS.ld1 (g 1 (by decide)) had k1.below (by first | (intro b hb; cases hb; done) | (intro b hb; rw [List.mem_singleton.1 hb]; exact hb2)) ?_
 refine Need.mk (by decide) ?_
 refine Need.mk (by simp only [inK]; omega) ?_
 refine Branch.yes rfl ?_
 refine GenV.to (x := .int .i64 6) (fun w => places_at 2 w) fun u2 k2 => ?_
 refine hS.idx (k := 6) (g 6 (by decide)) fun ad had => ?_
 refine hS.ld1 (g 6 (by decide)) had k2.below (by first | (intro b hb; cases hb; done) | (intro b hb; rw [List.mem_singleton.1 hb]; exact hb2)) ?_
 refine Need.mk (by decide) ?_
 refine Need.mk (by simp only [inK]; omega) ?_
 refine Branch.yes rfl ?_
 refine GenV.to (x := .int .i64 2) (fun w => places_at 3 w) fun u3 k3 => ?_
 refine hS.idx (k := 2) (g 2 (by decide)) fun ad had => ?_
 refine hS.ld1 (g 2 (by decide)) had k3.below (by first | (intro b hb; cases hb; done) | (intro b hb; rw [List.mem_singleton.1 hb]; exact hb2)) ?_
 refine Need.mk (by decide) ?_
 refine Need.mk (by simp only [inK]; omega) ?_
 refine Branch.yes rfl ?_
 refine GenV.to (x := .int .i64 7) (fun w => places_at 4 w) fun u4 k4 => ?_
 refine hS.idx (k := 7) (g 7 (by decide)) fun ad had => ?_
 refine hS.ld1 (g 7 (by decide)) had k4.below (by first | (intro b hb; cases hb; done) | (intro b hb; rw [List.mem_singleton.1 hb]; exact hb2)) ?_
 refine Need.mk (by decide) ?_
 refine Need.mk (by simp only [inK]; omega) ?_
 refine Branch.yes rfl ?_
 refine GenV.to (x := .int .i64 5) (fun w => places_at 5 w) fun u5 k5 => ?_
 refine hS.idx (k := 5) (g 5 (by decide)) fun ad had => ?_
 refine hS.ld1 (g 5 (by decide)) had k5.below (by first | (intro b hb; cases hb; done) | (intro b hb; rw [List.mem_singleton.1 hb]; exact hb2)) ?_
 refine Need.mk (by decide) ?_
 refine Need.mk (by simp only [inK]; omega) ?_
 refine Branch.no rfl ?_
 exact EndI.mk fun w9 h9 => by rw [h0]; rfl
theorem zof_any (n : Int) (a : Option Addr) (cap : Nat) (L : List Int) (w : World) (hS : Sl w.heap.size w (.slice a L.length cap) L) :
 Calls Tryz.prog 37 #[.agg #[.int .i64 n, .slice a L.length cap]] w fun e w' => e = .returned (.tuple #[.agg #[.int .i64 (Zo.of n L).1.a, .int .i64 (Zo.of n L).1.b, .int .i64 (Zo.of n L).1.c, .int .i64 (Zo.of n L).1.d, .int .i64 (Zo.of n L).1.e, .int .i64 (Zo.of n L).1.f], .int .i64 (Zo.of n L).2]) ∧ Below w.heap.size w w' := by
 refine fun_eq 0 w Tryz.func37 (args := [.agg [.val (.int .i64 n), .val (.slice a L.length cap)]]) rfl rfl ?_
 have st := Stay.first (w := w)
 refine NewI.mk fun b1 hb1 => ?_
 refine NewI.mk fun b2 hb2 => ?_
 unfold Zo.of
 apply CallI.use1
 focus (exact fun w1 h1 => dcheck_any n a cap L w1 (hS.st (st.at h1)))
 intro w1 v1 h1 hB1
 have st := st.nx h1 hB1
 refine Branch.mk (fun hc => ?_) (fun hc => ?_)
 ·rw [if_neg (by simpa using hc)]
  exact EndI.mk fun w9 h9 => rfl
 rw [if_pos (by simpa using hc)]
 refine Branch.mk (fun hc2 => ?_) (fun hc2 => ?_)
 ·rw [if_neg (by simpa using hc2)]
  exact EndI.mk fun w9 h9 => rfl
 have h3 : n = 3 := by simpa using hc2
 subst h3
 rw [if_pos rfl]
 have hcl := fun (w : World) (h : Sl w.heap.size w (.slice a L.length cap) L) => close_any 3 a cap L w h
 have h03 : (Dbm.close 3 L).2.2 = 0 → (Dbm.close 3 L).1 = 3 := fun h => by
  unfold Dbm.close at h ⊢
  split at h
  ·rename_i hk
   rw [if_pos hk]
   split at h <;> rename_i hk2
   ·rfl
   ·cases h
  ·cases h
 generalize hD : Dbm.close 3 L = D at hcl h03
 obtain ⟨m, C, e⟩ := D
 apply CallI.use
 focus (exact fun w2 h2 => hcl w2 (hS.st (st.at h2)))
 rintro v w2 v2 h2 hB2 ⟨a2, c2, rfl, hF2⟩
 have st := st.nx h2 hB2
 refine NewI.mk fun b3 hb3 => ?_
 refine Branch.mk (fun hc => ?_) (fun hc => ?_)
 ·rw [if_neg (by simpa using hc)]
  exact EndI.mk fun w9 h9 => rfl
 have he : e = 0 := by simpa using hc
 rw [if_pos he]
 have hm : m = 3 := h03 he
 subst hm
 apply CallI.use1
 focus (exact fun w3 h3 => ztold_any a2 c2 C w3 (hF2.sl.st (st.at h3)))
 intro w3 v3 h3 hB3
 have st := st.nx h3 hB3
 exact EndI.mk fun w9 h9 => rfl
theorem indexE_any (l : List Int) (v : Int) (a : Option Addr) (cap : Nat) (w : World) (hS : Sl w.heap.size w (.slice a l.length cap) l) :
 Calls Tryz.prog 153 #[.slice a l.length cap, .int .i64 v] w (Ret w fun r w' => ∃ z : Int, r = .int .i64 z ∧ (0 ≤ z ↔ v ∈ l)) := by
 refine fun_ret 0 w Tryz.func153 (args := [.val (.slice a l.length cap), .val (.int .i64 v)]) rfl rfl ?_
 refine LoopI.invC (α := Nat × World) (fun y => [(8, .val (.int .i64 y.1))]) (fun y => y.2) (fun y => y.1 ≤ l.length ∧ Below w.heap.size w y.2 ∧ v ∉ l.take y.1) (fun y => l.length - y.1) ?_ ?_
 ·intro w1 h1
  exact ⟨(0, w1), Cov.au rfl rfl rfl rfl rfl, rfl, Nat.zero_le _, h1.below, by simp⟩
 rintro ⟨k, W⟩ ⟨hk, hW, hall⟩
 refine Branch.mk (fun hc => ?_) (fun hc => ?_)
 ·have hlt : k < l.length := by simpa using hc
  have hx := List.getElem?_eq_getElem hlt
  generalize l[k] = x at hx
  refine hS.idx hx fun ad had => ?_
  refine hS.ld1 hx had hW (by simp) ?_
  refine Branch.mk (fun hc2 => ?_) (fun hc2 => ?_)
  ·have he : v = x := by simpa using hc2
   exact EndI.mk fun w4 h4 => ⟨k, rfl, ⟨fun _ => he ▸ List.mem_of_getElem? hx, fun _ => by omega⟩⟩
  ·have he : ¬ v = x := by simpa using hc2
   obtain ⟨_, _, e0, h1, h2, _⟩ := hS.form
   unfold maxLen at h2
   injection e0 with _ _ e0
   refine Need.mk (by show _ ∧ _; omega) (EndI.mk fun w4 h4 => ⟨(k + 1, w4), Cov.au rfl rfl rfl rfl rfl, rfl, ⟨hlt, h4.below, ?_⟩, by simp only; omega⟩)
   have e : l.take (k + 1) = l.take k ++ [x] := by rw [List.take_add_one, hx]; rfl
   show v ∉ l.take (k + 1)
   rw [e]; simp [hall, he]
 ·have hge : k = l.length := by have : ¬ k < l.length := by simpa using hc
                                omega
  subst hge
  rw [List.take_length] at hall
  exact EndI.mk fun w4 h4 => ⟨-1, rfl, ⟨fun h => by omega, fun h => absurd h hall⟩⟩
theorem containsE_any (l : List Int) (v : Int) (a : Option Addr) (cap : Nat) (w : World) (hS : Sl w.heap.size w (.slice a l.length cap) l) :
 Calls Tryz.prog 102 #[.slice a l.length cap, .int .i64 v] w fun e w' => e = .returned (.bool (decide (v ∈ l))) ∧ Below w.heap.size w w' := by
 refine fun_eq 0 w Tryz.func102 (args := [.val (.slice a l.length cap), .val (.int .i64 v)]) rfl rfl ?_
 have st := Stay.first (w := w)
 apply CallI.use
 focus (exact fun w1 h1 => indexE_any l v a cap w1 (hS.st (st.at h1)))
 rintro v w1 v1 h1 hB1 ⟨z, rfl, hz⟩
 have st := st.nx h1 hB1
 refine EndI.mk fun w9 h9 => ?_
 have : decide (v ∈ l) = decide (0 ≤ z) := by rw [decide_eq_decide]; exact hz.symm
 rw [this]
namespace Zo
def btw (s : Sp) : Int × List Int × Int := Tg.between 2 (Dbm.topL 2) 1 s
def outL (t u d : Sp) : List Int :=
 (((((((Dbm.topL 3).set 1 ((btw t).2.1[1]?.getD 0)).set 3 ((btw t).2.1[2]?.getD 0)).set 2 ((btw u).2.1[1]?.getD 0)).set 6 ((btw u).2.1[2]?.getD 0)).set 5 ((btw d).2.1[1]?.getD 0)).set 7 ((btw d).2.1[2]?.getD 0))
def make (t u d : Sp) : Zn × Int :=
 if 8 ∈ [(btw d).2.2, (btw u).2.2, (btw t).2.2] then (nought, 8) else
 if 6 ∈ [(btw d).2.2, (btw u).2.2, (btw t).2.2] then (nought, 6) else of 3 (outL t u d)
theorem top2 : Dbm.top 2 = (2, Dbm.topL 2, 0) := rfl
theorem top3 : Dbm.top 3 = (3, Dbm.topL 3, 0) := rfl
theorem btw_cases (s : Sp) : (btw s).2.2 = 8 ∨ (btw s).2.2 = 6 ∨ ((btw s).2.2 = 0 ∧ (btw s).1 = 2 ∧ (btw s).2.1.length = 4) := by
 have hk : Dbm.chk 2 (Dbm.topL 2) = 0 := by decide
 unfold btw Tg.between
 rw [if_pos hk, if_pos ⟨by decide, by decide⟩]
 split
 ·unfold Dbm.close
  split
  ·split
   ·rename_i h
    refine .inr (.inr ⟨rfl, rfl, ?_⟩)
    have := Dbm.closeL_len h
    exact this.trans (Tg.more_len _ _)
   ·exact .inr (.inl rfl)
  ·exact .inl rfl
 ·exact .inl rfl
end Zo
theorem btw_any (s : Sp) (hs : s.ins) (a : Option Addr) (cap : Nat) (w : World) (hS : Sl w.heap.size w (.slice a (Dbm.topL 2).length cap) (Dbm.topL 2)) :
 Calls Tryz.prog 101 #[.agg #[.int .i64 2, .slice a (Dbm.topL 2).length cap], .int .i64 1, .agg #[.int .i64 s.lo, .bool s.ls, .int .i64 s.hi, .bool s.hs, .bool s.op]] w (Ret w fun v w' => ∃ a' cap', v = .tuple #[.agg #[.int .i64 (Zo.btw s).1, .slice a' (Zo.btw s).2.1.length cap'], .int .i64 (Zo.btw s).2.2] ∧ Fresh TB w.heap.size w' (.slice a' (Zo.btw s).2.1.length cap') (Zo.btw s).2.1) := between_any 2 a cap (Dbm.topL 2) 1 s hs w hS
theorem Fresh.row4 {e : TypeId} {base : Nat} {W : World} {a : Option Addr} {cap : Nat} {L : List Int} (h : Fresh e base W (.slice a L.length cap) L) (hl : L.length = 4) : ∃ g, a = some ⟨g, 0, none⟩ ∧ L.length ≤ cap ∧ cap ≤ maxLen ∧ base ≤ g ∧ RowAt e W g L := by
 rcases h with ⟨_, he⟩ | ⟨g, c', e0, p1, p2, p3, r⟩
 ·rw [he] at hl; cases hl
 ·injection e0 with e0 _ e2
  subst e2
  exact ⟨g, e0, p1, p2, p3, r⟩
theorem RowAt.other {T : TypeId} {W : World} {g g2 j : Nat} {v : Value} {L : List Int} (h : RowAt T W g2 L) (hne : g2 ≠ g) : RowAt T (W.setCell ⟨g, j, none⟩ v) g2 L :=
 h.kept (Below.heap_setCell _ _ _ _ hne)
theorem RowAt.sl {T : TypeId} {W : World} {g cap : Nat} {L : List Int} (h : RowAt T W g L) (h1 : L.length ≤ cap) (h2 : cap ≤ maxLen) : Sl W.heap.size W (.slice (some ⟨g, 0, none⟩) L.length cap) L :=
 Fresh.sl (e := T) (base := 0) (.inr ⟨g, cap, rfl, h1, h2, Nat.zero_le _, h⟩)
set_option maxHeartbeats 2000000 in
theorem make_any (t u d : Sp) (ht : t.ins) (hu : u.ins) (hd : d.ins) (w : World) :
 Calls Tryz.prog 60 #[.agg #[.int .i64 t.lo, .bool t.ls, .int .i64 t.hi, .bool t.hs, .bool t.op], .agg #[.int .i64 u.lo, .bool u.ls, .int .i64 u.hi, .bool u.hs, .bool u.op], .agg #[.int .i64 d.lo, .bool d.ls, .int .i64 d.hi, .bool d.hs, .bool d.op]] w fun e w' => e = .returned (.tuple #[.agg #[.int .i64 (Zo.make t u d).1.a, .int .i64 (Zo.make t u d).1.b, .int .i64 (Zo.make t u d).1.c, .int .i64 (Zo.make t u d).1.d, .int .i64 (Zo.make t u d).1.e, .int .i64 (Zo.make t u d).1.f], .int .i64 (Zo.make t u d).2]) ∧ Below w.heap.size w w' := by
 refine fun_eq 0 w Tryz.func60 (args := [.agg [.val (.int .i64 t.lo), .val (.bool t.ls), .val (.int .i64 t.hi), .val (.bool t.hs), .val (.bool t.op)], .agg [.val (.int .i64 u.lo), .val (.bool u.ls), .val (.int .i64 u.hi), .val (.bool u.hs), .val (.bool u.op)], .agg [.val (.int .i64 d.lo), .val (.bool d.ls), .val (.int .i64 d.hi), .val (.bool d.hs), .val (.bool d.op)]]) rfl rfl ?_
 have st := Stay.first (w := w)
 refine NewI.mk fun b1 hb1 => ?_
 refine NewI.mk fun b2 hb2 => ?_
 refine NewI.mk fun b3 hb3 => ?_
 refine NewI.mk fun b4 hb4 => ?_
 have htop3 := fun w => top_any 3 w
 have htop2 := fun w => top_any 2 w
 rw [Zo.top3] at htop3
 rw [Zo.top2] at htop2
 apply CallI.use
 focus (exact fun w1 h1 => htop3 w1)
 rintro v w1 v1 h1 hB1 ⟨a1, c1, rfl, hO3⟩
 have st := st.nx h1 hB1
 refine NewI.mk fun b5 hb5 => ?_
 apply CallI.use
 focus (exact fun w2 h2 => htop2 w2)
 rintro v w2 v2 h2 hB2 ⟨a2, c2, rfl, hO2⟩
 have st := st.nx h2 hB2
 refine NewI.mk fun b6 hb6 => ?_
 have hS2 := hO2.sl
 apply CallI.use
 focus (exact fun w3 h3 => btw_any d hd a2 c2 w3 (hS2.st (st.at h3)))
 rintro v w3 v3 h3 hB3 ⟨a3, c3, rfl, hF3⟩
 have st := st.nx h3 hB3
 refine NewI.mk fun b7 hb7 => ?_
 apply CallI.use
 focus (exact fun w4 h4 => btw_any u hu a2 c2 w4 (hS2.st (st.at h4)))
 rintro v w4 v4 h4 hB4 ⟨a4, c4, rfl, hF4⟩
 have st := st.nx h4 hB4
 refine NewI.mk fun b8 hb8 => ?_
 apply CallI.use
 focus (exact fun w5 h5 => btw_any t ht a2 c2 w5 (hS2.st (st.at h5)))
 rintro v w5 v5 h5 hB5 ⟨a5, c5, rfl, hF5⟩
 have st := st.nx h5 hB5
 refine NewI.mk fun b9 hb9 => ?_
 refine NewI.mk fun b10 hb10 => ?_
 unfold Zo.make
 apply CallI.use1
 focus (exact fun w6 h6 => containsE_any [(Zo.btw d).2.2, (Zo.btw u).2.2, (Zo.btw t).2.2] 8 _ 3 w6 (Sl.own (l := [(Zo.btw d).2.2, (Zo.btw u).2.2, (Zo.btw t).2.2]) h6 9 rfl rfl rfl (Nat.le_refl _) (by simp [maxLen])))
 intro w6 v6 h6 hB6
 have st := st.nx h6 hB6
 refine Branch.mk (fun hc => ?_) (fun hc => ?_)
 ·rw [if_pos (by simpa using hc)]
  exact EndI.mk fun w9 h9 => rfl
 have n8 : ¬ (8 ∈ [(Zo.btw d).2.2, (Zo.btw u).2.2, (Zo.btw t).2.2]) := of_decide_eq_false hc
 rw [if_neg n8]
 refine NewI.mk fun b11 hb11 => ?_
 apply CallI.use1
 focus (exact fun w7 h7 => containsE_any [(Zo.btw d).2.2, (Zo.btw u).2.2, (Zo.btw t).2.2] 6 _ 3 w7 (Sl.own (l := [(Zo.btw d).2.2, (Zo.btw u).2.2, (Zo.btw t).2.2]) h7 10 rfl rfl rfl (Nat.le_refl _) (by simp [maxLen])))
 intro w7 v7 h7 hB7
 have st := st.nx h7 hB7
 refine Branch.mk (fun hc => ?_) (fun hc => ?_)
 ·rw [if_pos (of_decide_eq_true hc)]
  exact EndI.mk fun w9 h9 => rfl
 have n6 : ¬ (6 ∈ [(Zo.btw d).2.2, (Zo.btw u).2.2, (Zo.btw t).2.2]) := of_decide_eq_false hc
 rw [if_neg n6]
 simp only [List.mem_cons, List.not_mem_nil, or_false, not_or] at n6 n8
 have hcd := ((Zo.btw_cases d).resolve_left (fun h => n8.1 h.symm)).resolve_left (fun h => n6.1 h.symm)
 have hcu := ((Zo.btw_cases u).resolve_left (fun h => n8.2.1 h.symm)).resolve_left (fun h => n6.2.1 h.symm)
 have hct := ((Zo.btw_cases t).resolve_left (fun h => n8.2.2 h.symm)).resolve_left (fun h => n6.2.2 h.symm)
 apply CallI.use
 focus (exact fun w8 h8 => btw_any d hd a2 c2 w8 (hS2.st (st.at h8)))
 rintro v w8 v8 h8 hB8 ⟨a8, c8, rfl, hF8⟩
 have st := st.nx h8 hB8
 refine NewI.mk fun b12 hb12 => ?_
 refine NewI.mk fun b13 hb13 => ?_
 refine LoopI.rounds 3 ?_
 refine Branch.yes rfl ?_
 refine Need.mk (by decide) ?_
 refine NewI.mk fun b14 hb14 => ?_
 apply CallI.use
 focus (exact fun w9 h9 => btw_any t ht a2 c2 w9 (hS2.st (st.at h9)))
 rintro v w9 v9 h9 hB9 ⟨a9, c9, rfl, hF9⟩
 have st := st.nx h9 hB9
 refine NewI.mk fun b15 hb15 => ?_
 obtain ⟨g, rfl, hgb, hRow⟩ := hO3.row (by decide)
 obtain ⟨_, _, _, cur, _, hcap, hmax, _⟩ := hO3.at0
 obtain ⟨g2, rfl, hgb2, hRow2⟩ := hO2.row (by decide)
 obtain ⟨_, _, _, cur2, _, hcap2, hmax2, _⟩ := hO2.at0
 obtain ⟨g8, rfl, p1, p2, p3, r8⟩ := hF8.row4 hcd.2.2
 obtain ⟨g9, rfl, q1, q2, q3, r9⟩ := hF9.row4 hct.2.2
 have hgw : w.heap.size ≤ g := Nat.le_trans h1.below.size hgb
 have hg1 := hRow.lt
 have sz : v1.heap.size ≤ w2.heap.size ∧ w2.heap.size ≤ v2.heap.size ∧ v2.heap.size ≤ w3.heap.size ∧ w3.heap.size ≤ v3.heap.size ∧ v3.heap.size ≤ w4.heap.size ∧ w4.heap.size ≤ v4.heap.size ∧ v4.heap.size ≤ w5.heap.size ∧ w5.heap.size ≤ v5.heap.size ∧ v5.heap.size ≤ w6.heap.size ∧ w6.heap.size ≤ v6.heap.size ∧ v6.heap.size ≤ w7.heap.size ∧ w7.heap.size ≤ v7.heap.size ∧ v7.heap.size ≤ w8.heap.size ∧ w8.heap.size ≤ v8.heap.size ∧ v8.heap.size ≤ w9.heap.size ∧ w9.heap.size ≤ v9.heap.size :=
  ⟨h2.size, hB2.size, h3.size, hB3.size, h4.size, hB4.size, h5.size, hB5.size, h6.size, hB6.size, h7.size, hB7.size, h8.size, hB8.size, h9.size, hB9.size⟩
 have hg2 : g2 ≠ g := by omega
 have hg8 : g8 ≠ g := by omega
 have hg9 : g9 ≠ g := by omega
 have el := hct.2.2
 have eu := hcu.2.2
 have ed := hcd.2.2
 have hgr : ∀ b, b ∈ [b1, b2, b3, b4, b5, b6, b7, b8, b9, b10, b11, b12, b13, b14, b15] → b ≠ g := fun b hb e => by
  simp only [List.mem_cons, List.not_mem_nil, or_false] at hb
  have l1 := h1.lt b1 (by simp)
  have l2 := h1.lt b2 (by simp)
  have l3 := h1.lt b3 (by simp)
  have l4 := h1.lt b4 (by simp)
  omega
 have tl : ∀ k, k < 4 → (Zo.btw t).2.1[k]? = some ((Zo.btw t).2.1[k]?.getD 0) := fun k hk => by rw [List.getElem?_eq_getElem (by omega)]; rfl
 have ul : ∀ k, k < 4 → (Zo.btw u).2.1[k]? = some ((Zo.btw u).2.1[k]?.getD 0) := fun k hk => by rw [List.getElem?_eq_getElem (by omega)]; rfl
 have dl : ∀ k, k < 4 → (Zo.btw d).2.1[k]? = some ((Zo.btw d).2.1[k]?.getD 0) := fun k hk => by rw [List.getElem?_eq_getElem (by omega)]; rfl
 refine DrawI.wr (.tk 0 (.tk 1 (.tk 2 (.tk 3 (.tk 4 (.tk 5 (.tk 6 (.tk 7 (.tk 8 (.tk 9 (.tk 10 (.tk 11 (.tk 12 (.tk 13 (.tk 14 (.tk 15 (.tk 16 (.tk 17 (.ev 18 (.tk 19 (.ev 20 .done))))))))))))))))))))) [] [g] (by kernel_rfl) rfl (fun b hb h => hgr b hb (by simpa using h)) fun w10 h10 => ?_
 have st10 := st.at h10
 have hRow := hRow.below (st10.get (X := v1) (by simp)) hRow.lt
 have hRow2 := hRow2.below (st10.get (X := v2) (by simp)) hRow2.lt
 have r8 := r8.below (st10.get (X := v8) (by simp)) r8.lt
 have r9 := r9.below (st10.get (X := v9) (by simp)) r9.lt
 have hB10 := h10.below
 refine Need.mk (by simp only [inK]; omega) ?_
 refine Need.mk (by simp only [inK]; omega) ?_
 refine Need.mk (by simp only [inK]; omega) ?_
 refine IdxI.mk ⟨_, ⟨rfl, by omega, by omega⟩, ?_⟩
 rw [show ((⟨g9, 0, none⟩ : Addr).add ((1 : Int).toNat * 1)) = ⟨g9, 1, none⟩ by simp [addr_addL]]
 refine LoadI.mk ⟨_, ⟨r9.cell (j := 1) (by omega), by simpa using hg9⟩, ?_⟩
 refine IdxI.mk ⟨_, ⟨rfl, by omega, by omega⟩, ?_⟩
 rw [show ((⟨g9, 0, none⟩ : Addr).add ((2 : Int).toNat * 1)) = ⟨g9, 2, none⟩ by simp [addr_addL]]
 refine LoadI.mk ⟨_, ⟨r9.cell (j := 2) (by omega), by simpa using hg9⟩, ?_⟩
 refine IdxI.mk ⟨_, ⟨rfl, by omega, by show _ < (9 : Int); omega⟩, ?_⟩
 refine StoreI.mk fun x1 y1 => ?_
 rw [show ((⟨g, 0, none⟩ : Addr).add ((0 + 1 : Int).toNat * 1)) = ⟨g, 1, none⟩ by simp [addr_addL]]
 have r1 := hRow.at y1 (by simp)
 have t1 := hRow2.at y1 (by simp)
 have e1 := r8.at y1 (by simp)
 have B1 := y1.below
 refine ⟨⟨⟨_, r1.cell (j := 1) (by simp [Dbm.topL])⟩, r1.frozen _⟩, Zo.kpD_set hgw hgr (by simp [locs]), ?_⟩
 have r1 := r1.set (j := 1) (by simp [Dbm.topL]) ((Zo.btw t).2.1[1]?.getD 0)
 have t1 := t1.other (j := 1) (v := .int .i64 ((Zo.btw t).2.1[1]?.getD 0)) hg2
 have e1 := e1.other (j := 1) (v := .int .i64 ((Zo.btw t).2.1[1]?.getD 0)) hg8
 have B1 := B1.setCell (p := ⟨g, 1, none⟩) hgw (.int .i64 ((Zo.btw t).2.1[1]?.getD 0))
 generalize x1.setCell ⟨g, 1, none⟩ (.int .i64 ((Zo.btw t).2.1[1]?.getD 0)) = s1 at r1 t1 e1 B1
 refine IdxI.mk ⟨_, ⟨rfl, by omega, by show _ < (9 : Int); omega⟩, ?_⟩
 refine StoreI.mk fun x2 y2 => ?_
 rw [show ((⟨g, 0, none⟩ : Addr).add ((3 * (0 + 1) : Int).toNat * 1)) = ⟨g, 3, none⟩ by simp [addr_addL]]
 have r2 := r1.at y2 (by simp)
 have t2 := t1.at y2 (by simp)
 have e2 := e1.at y2 (by simp)
 have B2 := y2.below
 refine ⟨⟨⟨_, r2.cell (j := 3) (by simp [Dbm.topL])⟩, r2.frozen _⟩, Zo.kpD_set hgw hgr (by simp [locs]), ?_⟩
 have r2 := r2.set (j := 3) (by simp [Dbm.topL]) ((Zo.btw t).2.1[2]?.getD 0)
 have t2 := t2.other (j := 3) (v := .int .i64 ((Zo.btw t).2.1[2]?.getD 0)) hg2
 have e2 := e2.other (j := 3) (v := .int .i64 ((Zo.btw t).2.1[2]?.getD 0)) hg8
 have B2 := B2.setCell (p := ⟨g, 3, none⟩) hgw (.int .i64 ((Zo.btw t).2.1[2]?.getD 0))
 generalize x2.setCell ⟨g, 3, none⟩ (.int .i64 ((Zo.btw t).2.1[2]?.getD 0)) = s2 at r2 t2 e2 B2
 refine Need.mk (by simp only [inK]; omega) ?_
 refine Branch.yes rfl ?_
 refine Need.mk (by decide) ?_
 have st : Stay ⟨w, w.heap.size, Nat.le_refl _⟩ [s2] s2 := Stay.start B2
 have hS2 := t2.sl hcap2 hmax2
 have hg3 := r2.lt
 refine NewI.mk fun b16 hb16 => ?_
 apply CallI.use
 focus (exact fun w11 h11 => btw_any u hu _ c2 w11 (hS2.st (st.at h11)))
 rintro v w11 v11 h11 hB11 ⟨a11, c11, rfl, hF11⟩
 have st := st.nx h11 hB11
 obtain ⟨g11, rfl, m1, m2, m3, r11⟩ := hF11.row4 hcu.2.2
 refine NewI.mk fun b17 hb17 => ?_
 have sz2 : s2.heap.size ≤ w11.heap.size ∧ w11.heap.size ≤ v11.heap.size := ⟨h11.size, hB11.size⟩
 have hg11 : g11 ≠ g := by omega
 have hgr : ∀ b, b ∈ [b1, b2, b3, b4, b5, b6, b7, b8, b9, b10, b11, b12, b13, b14, b15, b16, b17] → b ≠ g := fun b hb e => by
  simp only [List.mem_cons, List.not_mem_nil, or_false] at hb
  have hb16' : s2.heap.size ≤ b16 := hb16
  have hb17' : v11.heap.size ≤ b17 := hb17
  rcases hb with hb | hb | hb | hb | hb | hb | hb | hb | hb | hb | hb | hb | hb | hb | hb | hb | hb
  all_goals first | (subst hb; omega) | exact hgr b (by rw [hb]; simp) e
 refine DrawI.wr (.tk 0 (.tk 1 (.tk 2 (.tk 3 (.tk 4 (.tk 5 (.tk 6 (.tk 7 (.tk 8 (.tk 9 (.tk 10 (.tk 11 (.tk 12 (.tk 13 (.tk 14 (.tk 15 (.tk 16 (.tk 17 (.ev 18 (.tk 19 (.ev 20 .done))))))))))))))))))))) [] [g] (by kernel_rfl) rfl (fun b hb h => hgr b hb (by simpa using h)) fun w12 h12 => ?_
 have st12 := st.at h12
 have hRow := r2.below (st12.get (X := s2) (by simp)) r2.lt
 have r8 := e2.below (st12.get (X := s2) (by simp)) e2.lt
 have r11 := r11.below (st12.get (X := v11) (by simp)) r11.lt
 refine Need.mk (by simp only [inK]; omega) ?_
 refine Need.mk (by simp only [inK]; omega) ?_
 refine Need.mk (by simp only [inK]; omega) ?_
 refine IdxI.mk ⟨_, ⟨rfl, by omega, by omega⟩, ?_⟩
 rw [show ((⟨g11, 0, none⟩ : Addr).add ((1 : Int).toNat * 1)) = ⟨g11, 1, none⟩ by simp [addr_addL]]
 refine LoadI.mk ⟨_, ⟨r11.cell (j := 1) (by omega), by simpa using hg11⟩, ?_⟩
 refine IdxI.mk ⟨_, ⟨rfl, by omega, by omega⟩, ?_⟩
 rw [show ((⟨g11, 0, none⟩ : Addr).add ((2 : Int).toNat * 1)) = ⟨g11, 2, none⟩ by simp [addr_addL]]
 refine LoadI.mk ⟨_, ⟨r11.cell (j := 2) (by omega), by simpa using hg11⟩, ?_⟩
 refine IdxI.mk ⟨_, ⟨rfl, by omega, by show _ < (9 : Int); omega⟩, ?_⟩
 refine StoreI.mk fun x1 y1 => ?_
 rw [show ((⟨g, 0, none⟩ : Addr).add ((0 + 1 + 1 : Int).toNat * 1)) = ⟨g, 2, none⟩ by simp [addr_addL]]
 have r1 := hRow.at y1 (by simp)
 have e1 := r8.at y1 (by simp)
 have B1 := y1.below
 refine ⟨⟨⟨_, r1.cell (j := 2) (by simp [Dbm.topL])⟩, r1.frozen _⟩, Zo.kpD_set hgw hgr (by simp [locs]), ?_⟩
 have r1 := r1.set (j := 2) (by simp [Dbm.topL]) ((Zo.btw u).2.1[1]?.getD 0)
 have e1 := e1.other (j := 2) (v := .int .i64 ((Zo.btw u).2.1[1]?.getD 0)) hg8
 have B1 := B1.setCell (p := ⟨g, 2, none⟩) hgw (.int .i64 ((Zo.btw u).2.1[1]?.getD 0))
 generalize x1.setCell ⟨g, 2, none⟩ (.int .i64 ((Zo.btw u).2.1[1]?.getD 0)) = s3 at r1 e1 B1
 refine IdxI.mk ⟨_, ⟨rfl, by omega, by show _ < (9 : Int); omega⟩, ?_⟩
 refine StoreI.mk fun x2 y2 => ?_
 rw [show ((⟨g, 0, none⟩ : Addr).add ((3 * (0 + 1 + 1) : Int).toNat * 1)) = ⟨g, 6, none⟩ by simp [addr_addL]]
 have r2 := r1.at y2 (by simp)
 have e2 := e1.at y2 (by simp)
 have B2 := y2.below
 refine ⟨⟨⟨_, r2.cell (j := 6) (by simp [Dbm.topL])⟩, r2.frozen _⟩, Zo.kpD_set hgw hgr (by simp [locs]), ?_⟩
 have r2 := r2.set (j := 6) (by simp [Dbm.topL]) ((Zo.btw u).2.1[2]?.getD 0)
 have e2 := e2.other (j := 6) (v := .int .i64 ((Zo.btw u).2.1[2]?.getD 0)) hg8
 have B2 := B2.setCell (p := ⟨g, 6, none⟩) hgw (.int .i64 ((Zo.btw u).2.1[2]?.getD 0))
 generalize x2.setCell ⟨g, 6, none⟩ (.int .i64 ((Zo.btw u).2.1[2]?.getD 0)) = s4 at r2 e2 B2
 refine Need.mk (by simp only [inK]; omega) ?_
 refine Branch.no rfl ?_
 refine DrawI.wr (.tk 0 (.tk 1 (.tk 2 (.tk 3 (.tk 4 (.tk 5 (.tk 6 (.tk 7 (.tk 8 (.tk 9 (.tk 10 (.tk 11 (.tk 12 (.ev 13 (.tk 14 (.ev 15 .done)))))))))))))))) [] [g] (by kernel_rfl) rfl (fun b hb h => hgr b hb (by simpa using h)) fun w13 h13 => ?_
 have r1 := r2.at h13 (by simp)
 have e1 := e2.at h13 (by simp)
 refine IdxI.mk ⟨_, ⟨rfl, by omega, by omega⟩, ?_⟩
 rw [show ((⟨g8, 0, none⟩ : Addr).add ((1 : Int).toNat * 1)) = ⟨g8, 1, none⟩ by simp [addr_addL]]
 refine LoadI.mk ⟨_, ⟨e1.cell (j := 1) (by omega), by simpa using hg8⟩, ?_⟩
 refine IdxI.mk ⟨_, ⟨rfl, by omega, by omega⟩, ?_⟩
 rw [show ((⟨g8, 0, none⟩ : Addr).add ((2 : Int).toNat * 1)) = ⟨g8, 2, none⟩ by simp [addr_addL]]
 refine LoadI.mk ⟨_, ⟨e1.cell (j := 2) (by omega), by simpa using hg8⟩, ?_⟩
 refine IdxI.mk ⟨_, ⟨rfl, by omega, by show _ < (9 : Int); omega⟩, ?_⟩
 refine StoreI.mk fun x1 y1 => ?_
 rw [show ((⟨g, 0, none⟩ : Addr).add ((5 : Int).toNat * 1)) = ⟨g, 5, none⟩ by simp [addr_addL]]
 have r1 := r1.at y1 (by simp)
 have B1 := y1.below
 refine ⟨⟨⟨_, r1.cell (j := 5) (by simp [Dbm.topL])⟩, r1.frozen _⟩, Zo.kpD_set hgw hgr (by simp [locs]), ?_⟩
 have r1 := r1.set (j := 5) (by simp [Dbm.topL]) ((Zo.btw d).2.1[1]?.getD 0)
 have B1 := B1.setCell (p := ⟨g, 5, none⟩) hgw (.int .i64 ((Zo.btw d).2.1[1]?.getD 0))
 generalize x1.setCell ⟨g, 5, none⟩ (.int .i64 ((Zo.btw d).2.1[1]?.getD 0)) = s5 at r1 B1
 refine IdxI.mk ⟨_, ⟨rfl, by omega, by show _ < (9 : Int); omega⟩, ?_⟩
 refine StoreI.mk fun x2 y2 => ?_
 rw [show ((⟨g, 0, none⟩ : Addr).add ((7 : Int).toNat * 1)) = ⟨g, 7, none⟩ by simp [addr_addL]]
 have r2 := r1.at y2 (by simp)
 have B2 := y2.below
 refine ⟨⟨⟨_, r2.cell (j := 7) (by simp [Dbm.topL])⟩, r2.frozen _⟩, Zo.kpD_set hgw hgr (by simp [locs]), ?_⟩
 have r2 := r2.set (j := 7) (by simp [Dbm.topL]) ((Zo.btw d).2.1[2]?.getD 0)
 have B2 := B2.setCell (p := ⟨g, 7, none⟩) hgw (.int .i64 ((Zo.btw d).2.1[2]?.getD 0))
 generalize x2.setCell ⟨g, 7, none⟩ (.int .i64 ((Zo.btw d).2.1[2]?.getD 0)) = s6 at r2 B2
 have r2 : RowAt TB s6 g (Zo.outL t u d) := r2
 have st : Stay ⟨w, w.heap.size, Nat.le_refl _⟩ [s6] s6 := Stay.start B2
 have hlo : (Zo.outL t u d).length = 9 := by simp [Zo.outL, Dbm.topL]
 have hSo : Sl s6.heap.size s6 (.slice (some ⟨g, 0, none⟩) (Zo.outL t u d).length c1) (Zo.outL t u d) := r2.sl (by rw [hlo]; simpa [Dbm.topL] using hcap) hmax
 have hofc := fun (w : World) (h : Sl w.heap.size w (.slice (some ⟨g, 0, none⟩) (Zo.outL t u d).length c1) (Zo.outL t u d)) => zof_any 3 _ c1 (Zo.outL t u d) w h
 rw [hlo] at hofc hSo
 apply CallI.use1
 focus (exact fun w14 h14 => hofc w14 (hSo.st (st.at h14)))
 intro w14 v14 h14 hB14
 have st := st.nx h14 hB14
 exact EndI.mk fun w99 h99 => rfl
theorem bnot_any (b : Int) (w : World) :
 Calls Tryz.prog 235 #[.int .i64 b] w fun e w' => e = .returned (.tuple #[.int .i64 (Bd.not b).1, .int .i64 (Bd.not b).2]) ∧ Below w.heap.size w w' := by
 refine fun_eq 0 w Tryz.func235 (args := [.val (.int .i64 b)]) rfl rfl ?_
 have st := Stay.first (w := w)
 unfold Bd.not
 have hbd : -2305843009213693952 ≤ (Bd.value b).1 ∧ (Bd.value b).1 ≤ 2305843009213693952 := by
  unfold Bd.value
  cases hm : Bd.may b with
  | false => simp
  | true =>
    simp only [if_true]
    split
    ·simp
    ·rename_i hn
     have := Num.okB_iff.1 (Bd.okB_of_may hm hn)
     simp only; omega
 apply CallI.use1
 focus (exact fun w1 h1 => value_any b w1)
 intro w1 v1 h1 hB1
 have st := st.nx h1 hB1
 generalize Bd.value b = V at *
 obtain ⟨c, s, e⟩ := V
 refine Branch.mk (fun hc => ?_) (fun hc => ?_)
 ·rw [if_neg (by simpa using hc)]
  exact EndI.mk fun w9 h9 => rfl
 rw [if_pos (by simpa using hc)]
 refine Need.mk (by simp only at hbd; simp only [inK]; omega) ?_
 apply CallI.use1
 focus (exact fun w2 h2 => made_any (-c) (!s) w2)
 intro w2 v2 h2 hB2
 have st := st.nx h2 hB2
 exact EndI.mk fun w9 h9 => rfl
namespace Zo
def mat (z : Zn) : Int × List Int × Int := if Dbm.chk 3 (matL z) = 0 then (3, matL z, 0) else (0, [], 8)
def get (z : Zn) (i : Nat) : Int := if i = 0 then z.a else if i = 1 then z.b else if i = 2 then z.c else if i = 3 then z.d else if i = 4 then z.e else z.f
def set (z : Zn) (i : Nat) (x : Int) : Zn :=
 if i = 0 then { z with a := x } else if i = 1 then { z with b := x } else if i = 2 then { z with c := x } else if i = 3 then { z with d := x } else if i = 4 then { z with e := x } else { z with f := x }
end Zo
namespace Mi
def cut (z : Zn) (i : Nat) (b : Int) : Zn := Zo.set z i (min (Zo.get z i) b)
def wth (z : Zn) (i : Nat) (b : Int) : Zn × Int := if Dbm.chk 3 (Zo.matL (cut z i b)) = 0 then Zo.of 3 (Zo.matL (cut z i b)) else (Zo.nought, 8)
def other (i : Nat) : Nat := if i % 2 = 0 then i + 1 else i - 1
end Mi
theorem zMatrix_any (z : Zn) (w : World) :
 Calls Tryz.prog 159 #[.agg #[.int .i64 z.a, .int .i64 z.b, .int .i64 z.c, .int .i64 z.d, .int .i64 z.e, .int .i64 z.f]] w (Ret w fun v w' => ∃ a' c', v = .tuple #[.agg #[.int .i64 (Zo.mat z).1, .slice a' (Zo.mat z).2.1.length c'], .int .i64 (Zo.mat z).2.2] ∧ Sl w'.heap.size w' (.slice a' (Zo.mat z).2.1.length c') (Zo.mat z).2.1) := by
 refine fun_ret 0 w Tryz.func159 (args := [.agg [.val (.int .i64 z.a), .val (.int .i64 z.b), .val (.int .i64 z.c), .val (.int .i64 z.d), .val (.int .i64 z.e), .val (.int .i64 z.f)]]) rfl rfl ?_
 have st := Stay.first (w := w)
 refine NewI.mk fun b1 hb1 => ?_
 refine NewI.mk fun b2 hb2 => ?_
 apply CallI.use
 focus (exact fun w1 h1 => zmatrix_any z w1)
 rintro v w1 v1 h1 hB1 ⟨a1, c1, rfl, hF1⟩
 have st := st.nx h1 hB1
 refine NewI.mk fun b3 hb3 => ?_
 unfold Zo.mat
 apply CallI.use1
 focus (exact fun w2 h2 => dcheck_any 3 a1 c1 (Zo.matL z) w2 (hF1.sl.st (st.at h2)))
 intro w2 v2 h2 hB2
 have st := st.nx h2 hB2
 refine Branch.mk (fun hc => ?_) (fun hc => ?_)
 ·have h0 : ¬ Dbm.chk 3 (Zo.matL z) = 0 := by simpa using hc
  have h8 := (Dbm.chk_cases 3 (Zo.matL z)).resolve_left h0
  rw [if_neg h0, h8]
  exact EndI.mk fun w9 h9 => ⟨_, _, rfl, Sl.nil⟩
 have h0 : Dbm.chk 3 (Zo.matL z) = 0 := by simpa using hc
 rw [if_pos h0]
 exact EndI.mk fun w9 h9 => ⟨_, _, rfl, ((hF1.st st).at h9 (fun b hb => by have := h1.lt b1 (by simp); have := h1.lt b2 (by simp); simp at hb; omega)).sl⟩
theorem mother_any (i : Nat) (hi : i < 6) (w : World) :
 Calls Tryz.prog 237 #[.int .i64 (i : Nat)] w fun e w' => e = .returned (.int .i64 (Mi.other i : Nat)) ∧ Below w.heap.size w w' := by
 have h6 : i = 0 ∨ i = 1 ∨ i = 2 ∨ i = 3 ∨ i = 4 ∨ i = 5 := by omega
 rcases h6 with rfl | rfl | rfl | rfl | rfl | rfl
 all_goals (refine fun_eq 0 w Tryz.func237 (args := [.val (.int .i64 _)]) rfl rfl ?_)
 all_goals (exact EndI.mk fun w9 h9 => rfl)
theorem mwith_any (z : Zn) (i : Nat) (hi : i < 6) (b : Int) (w : World) :
 Calls Tryz.prog 236 #[.agg #[.int .i64 z.a, .int .i64 z.b, .int .i64 z.c, .int .i64 z.d, .int .i64 z.e, .int .i64 z.f], .int .i64 (i : Nat), .int .i64 b] w fun e w' => e = .returned (.tuple #[.agg #[.int .i64 (Mi.wth z i b).1.a, .int .i64 (Mi.wth z i b).1.b, .int .i64 (Mi.wth z i b).1.c, .int .i64 (Mi.wth z i b).1.d, .int .i64 (Mi.wth z i b).1.e, .int .i64 (Mi.wth z i b).1.f], .int .i64 (Mi.wth z i b).2]) ∧ Below w.heap.size w w' := by
 have h6 : i = 0 ∨ i = 1 ∨ i = 2 ∨ i = 3 ∨ i = 4 ∨ i = 5 := by omega
 have fin : ∀ (y : Zn), Mi.cut z i b = y → Mi.wth z i b = if Dbm.chk 3 (Zo.matL y) = 0 then Zo.of 3 (Zo.matL y) else (Zo.nought, 8) := fun y h => by unfold Mi.wth; rw [h]
 have em : ∀ x : Int, minL x [b] = min x b := fun x => by simp [minL]; omega
 rcases h6 with rfl | rfl | rfl | rfl | rfl | rfl
 ·rw [fin ⟨minL z.a [b], z.b, z.c, z.d, z.e, z.f⟩ (by unfold Mi.cut; rw [← em]; rfl)]
  refine fun_eq 0 w Tryz.func236 (args := [.agg [.val (.int .i64 z.a), .val (.int .i64 z.b), .val (.int .i64 z.c), .val (.int .i64 z.d), .val (.int .i64 z.e), .val (.int .i64 z.f)], .val (.int .i64 0), .val (.int .i64 b)]) rfl rfl ?_
  have hz := fun w => zMatrix_any ⟨minL z.a [b], z.b, z.c, z.d, z.e, z.f⟩ w
  have st := Stay.first (w := w)
  refine NewI.mk fun b1 hb1 => ?_
  have hb1 : w.heap.size ≤ b1 := hb1
  refine NewI.mk fun b2 hb2 => ?_
  refine Need.mk (by decide) ?_
  refine Need.mk (by decide) ?_
  unfold Zo.mat at hz
  by_cases h0 : Dbm.chk 3 (Zo.matL ⟨minL z.a [b], z.b, z.c, z.d, z.e, z.f⟩) = 0
  ·rw [if_pos h0] at hz ⊢
   apply CallI.use
   focus (exact fun w1 h1 => hz w1)
   rintro v w1 v1 h1 hB1 ⟨a1, c1, rfl, hS1⟩
   have st := st.nx h1 hB1
   refine NewI.mk fun b3 hb3 => ?_
   refine Branch.no rfl ?_
   apply CallI.use1
   ·exact fun w2 h2 => zof_any 3 a1 c1 (Zo.matL ⟨minL z.a [b], z.b, z.c, z.d, z.e, z.f⟩) w2 (hS1.st (st.at h2))
   intro w2 v2 h2 hB2
   exact EndI.mk fun w9 h9 => rfl
  ·rw [if_neg h0] at hz ⊢
   apply CallI.use
   focus (exact fun w1 h1 => hz w1)
   rintro v w1 v1 h1 hB1 ⟨a1, c1, rfl, hS1⟩
   refine NewI.mk fun b3 hb3 => ?_
   refine Branch.yes rfl ?_
   exact EndI.mk fun w9 h9 => rfl
 ·rw [fin ⟨z.a, minL z.b [b], z.c, z.d, z.e, z.f⟩ (by unfold Mi.cut; rw [← em]; rfl)]
  refine fun_eq 0 w Tryz.func236 (args := [.agg [.val (.int .i64 z.a), .val (.int .i64 z.b), .val (.int .i64 z.c), .val (.int .i64 z.d), .val (.int .i64 z.e), .val (.int .i64 z.f)], .val (.int .i64 1), .val (.int .i64 b)]) rfl rfl ?_
  have hz := fun w => zMatrix_any ⟨z.a, minL z.b [b], z.c, z.d, z.e, z.f⟩ w
  have st := Stay.first (w := w)
  refine NewI.mk fun b1 hb1 => ?_
  have hb1 : w.heap.size ≤ b1 := hb1
  refine NewI.mk fun b2 hb2 => ?_
  refine Need.mk (by decide) ?_
  refine Need.mk (by decide) ?_
  unfold Zo.mat at hz
  by_cases h0 : Dbm.chk 3 (Zo.matL ⟨z.a, minL z.b [b], z.c, z.d, z.e, z.f⟩) = 0
  ·rw [if_pos h0] at hz ⊢
   apply CallI.use
   focus (exact fun w1 h1 => hz w1)
   rintro v w1 v1 h1 hB1 ⟨a1, c1, rfl, hS1⟩
   have st := st.nx h1 hB1
   refine NewI.mk fun b3 hb3 => ?_
   refine Branch.no rfl ?_
   apply CallI.use1
   ·exact fun w2 h2 => zof_any 3 a1 c1 (Zo.matL ⟨z.a, minL z.b [b], z.c, z.d, z.e, z.f⟩) w2 (hS1.st (st.at h2))
   intro w2 v2 h2 hB2
   exact EndI.mk fun w9 h9 => rfl
  ·rw [if_neg h0] at hz ⊢
   apply CallI.use
   focus (exact fun w1 h1 => hz w1)
   rintro v w1 v1 h1 hB1 ⟨a1, c1, rfl, hS1⟩
   refine NewI.mk fun b3 hb3 => ?_
   refine Branch.yes rfl ?_
   exact EndI.mk fun w9 h9 => rfl
 ·rw [fin ⟨z.a, z.b, minL z.c [b], z.d, z.e, z.f⟩ (by unfold Mi.cut; rw [← em]; rfl)]
  refine fun_eq 0 w Tryz.func236 (args := [.agg [.val (.int .i64 z.a), .val (.int .i64 z.b), .val (.int .i64 z.c), .val (.int .i64 z.d), .val (.int .i64 z.e), .val (.int .i64 z.f)], .val (.int .i64 2), .val (.int .i64 b)]) rfl rfl ?_
  have hz := fun w => zMatrix_any ⟨z.a, z.b, minL z.c [b], z.d, z.e, z.f⟩ w
  have st := Stay.first (w := w)
  refine NewI.mk fun b1 hb1 => ?_
  have hb1 : w.heap.size ≤ b1 := hb1
  refine NewI.mk fun b2 hb2 => ?_
  refine Need.mk (by decide) ?_
  refine Need.mk (by decide) ?_
  unfold Zo.mat at hz
  by_cases h0 : Dbm.chk 3 (Zo.matL ⟨z.a, z.b, minL z.c [b], z.d, z.e, z.f⟩) = 0
  ·rw [if_pos h0] at hz ⊢
   apply CallI.use
   focus (exact fun w1 h1 => hz w1)
   rintro v w1 v1 h1 hB1 ⟨a1, c1, rfl, hS1⟩
   have st := st.nx h1 hB1
   refine NewI.mk fun b3 hb3 => ?_
   refine Branch.no rfl ?_
   apply CallI.use1
   ·exact fun w2 h2 => zof_any 3 a1 c1 (Zo.matL ⟨z.a, z.b, minL z.c [b], z.d, z.e, z.f⟩) w2 (hS1.st (st.at h2))
   intro w2 v2 h2 hB2
   exact EndI.mk fun w9 h9 => rfl
  ·rw [if_neg h0] at hz ⊢
   apply CallI.use
   focus (exact fun w1 h1 => hz w1)
   rintro v w1 v1 h1 hB1 ⟨a1, c1, rfl, hS1⟩
   refine NewI.mk fun b3 hb3 => ?_
   refine Branch.yes rfl ?_
   exact EndI.mk fun w9 h9 => rfl
 ·rw [fin ⟨z.a, z.b, z.c, minL z.d [b], z.e, z.f⟩ (by unfold Mi.cut; rw [← em]; rfl)]
  refine fun_eq 0 w Tryz.func236 (args := [.agg [.val (.int .i64 z.a), .val (.int .i64 z.b), .val (.int .i64 z.c), .val (.int .i64 z.d), .val (.int .i64 z.e), .val (.int .i64 z.f)], .val (.int .i64 3), .val (.int .i64 b)]) rfl rfl ?_
  have hz := fun w => zMatrix_any ⟨z.a, z.b, z.c, minL z.d [b], z.e, z.f⟩ w
  have st := Stay.first (w := w)
  refine NewI.mk fun b1 hb1 => ?_
  have hb1 : w.heap.size ≤ b1 := hb1
  refine NewI.mk fun b2 hb2 => ?_
  refine Need.mk (by decide) ?_
  refine Need.mk (by decide) ?_
  unfold Zo.mat at hz
  by_cases h0 : Dbm.chk 3 (Zo.matL ⟨z.a, z.b, z.c, minL z.d [b], z.e, z.f⟩) = 0
  ·rw [if_pos h0] at hz ⊢
   apply CallI.use
   focus (exact fun w1 h1 => hz w1)
   rintro v w1 v1 h1 hB1 ⟨a1, c1, rfl, hS1⟩
   have st := st.nx h1 hB1
   refine NewI.mk fun b3 hb3 => ?_
   refine Branch.no rfl ?_
   apply CallI.use1
   ·exact fun w2 h2 => zof_any 3 a1 c1 (Zo.matL ⟨z.a, z.b, z.c, minL z.d [b], z.e, z.f⟩) w2 (hS1.st (st.at h2))
   intro w2 v2 h2 hB2
   exact EndI.mk fun w9 h9 => rfl
  ·rw [if_neg h0] at hz ⊢
   apply CallI.use
   focus (exact fun w1 h1 => hz w1)
   rintro v w1 v1 h1 hB1 ⟨a1, c1, rfl, hS1⟩
   refine NewI.mk fun b3 hb3 => ?_
   refine Branch.yes rfl ?_
   exact EndI.mk fun w9 h9 => rfl
 ·rw [fin ⟨z.a, z.b, z.c, z.d, minL z.e [b], z.f⟩ (by unfold Mi.cut; rw [← em]; rfl)]
  refine fun_eq 0 w Tryz.func236 (args := [.agg [.val (.int .i64 z.a), .val (.int .i64 z.b), .val (.int .i64 z.c), .val (.int .i64 z.d), .val (.int .i64 z.e), .val (.int .i64 z.f)], .val (.int .i64 4), .val (.int .i64 b)]) rfl rfl ?_
  have hz := fun w => zMatrix_any ⟨z.a, z.b, z.c, z.d, minL z.e [b], z.f⟩ w
  have st := Stay.first (w := w)
  refine NewI.mk fun b1 hb1 => ?_
  have hb1 : w.heap.size ≤ b1 := hb1
  refine NewI.mk fun b2 hb2 => ?_
  refine Need.mk (by decide) ?_
  refine Need.mk (by decide) ?_
  unfold Zo.mat at hz
  by_cases h0 : Dbm.chk 3 (Zo.matL ⟨z.a, z.b, z.c, z.d, minL z.e [b], z.f⟩) = 0
  ·rw [if_pos h0] at hz ⊢
   apply CallI.use
   focus (exact fun w1 h1 => hz w1)
   rintro v w1 v1 h1 hB1 ⟨a1, c1, rfl, hS1⟩
   have st := st.nx h1 hB1
   refine NewI.mk fun b3 hb3 => ?_
   refine Branch.no rfl ?_
   apply CallI.use1
   ·exact fun w2 h2 => zof_any 3 a1 c1 (Zo.matL ⟨z.a, z.b, z.c, z.d, minL z.e [b], z.f⟩) w2 (hS1.st (st.at h2))
   intro w2 v2 h2 hB2
   exact EndI.mk fun w9 h9 => rfl
  ·rw [if_neg h0] at hz ⊢
   apply CallI.use
   focus (exact fun w1 h1 => hz w1)
   rintro v w1 v1 h1 hB1 ⟨a1, c1, rfl, hS1⟩
   refine NewI.mk fun b3 hb3 => ?_
   refine Branch.yes rfl ?_
   exact EndI.mk fun w9 h9 => rfl
 ·rw [fin ⟨z.a, z.b, z.c, z.d, z.e, minL z.f [b]⟩ (by unfold Mi.cut; rw [← em]; rfl)]
  refine fun_eq 0 w Tryz.func236 (args := [.agg [.val (.int .i64 z.a), .val (.int .i64 z.b), .val (.int .i64 z.c), .val (.int .i64 z.d), .val (.int .i64 z.e), .val (.int .i64 z.f)], .val (.int .i64 5), .val (.int .i64 b)]) rfl rfl ?_
  have hz := fun w => zMatrix_any ⟨z.a, z.b, z.c, z.d, z.e, minL z.f [b]⟩ w
  have st := Stay.first (w := w)
  refine NewI.mk fun b1 hb1 => ?_
  have hb1 : w.heap.size ≤ b1 := hb1
  refine NewI.mk fun b2 hb2 => ?_
  refine Need.mk (by decide) ?_
  refine Need.mk (by decide) ?_
  unfold Zo.mat at hz
  by_cases h0 : Dbm.chk 3 (Zo.matL ⟨z.a, z.b, z.c, z.d, z.e, minL z.f [b]⟩) = 0
  ·rw [if_pos h0] at hz ⊢
   apply CallI.use
   focus (exact fun w1 h1 => hz w1)
   rintro v w1 v1 h1 hB1 ⟨a1, c1, rfl, hS1⟩
   have st := st.nx h1 hB1
   refine NewI.mk fun b3 hb3 => ?_
   refine Branch.no rfl ?_
   apply CallI.use1
   ·exact fun w2 h2 => zof_any 3 a1 c1 (Zo.matL ⟨z.a, z.b, z.c, z.d, z.e, minL z.f [b]⟩) w2 (hS1.st (st.at h2))
   intro w2 v2 h2 hB2
   exact EndI.mk fun w9 h9 => rfl
  ·rw [if_neg h0] at hz ⊢
   apply CallI.use
   focus (exact fun w1 h1 => hz w1)
   rintro v w1 v1 h1 hB1 ⟨a1, c1, rfl, hS1⟩
   refine NewI.mk fun b3 hb3 => ?_
   refine Branch.yes rfl ?_
   exact EndI.mk fun w9 h9 => rfl
end Go.Proofs.YtanhnllkccldhaaGreat
namespace Go.Proofs.YtanhnllkccldhaaGreat.Eng
set_option linter.unusedVariables false
set_option linter.unusedSimpArgs false
open Go Go.RowKit Go.Shelf Go.Proofs
def SeqStopsB {α : Type} (n : Nat) (P : Program) (g : Nat) (lb : Array Value) (encs : α → Array Value) (Kp : World → World → Prop) (S Sp : List α → Prop) (N Bx n₀ : Nat) (w : World) : Prop :=
 ∀ (l : Nat) (J Jx : List α → World → Prop) (W : World), Below w.heap.size w W → (∀ pre A B, J pre A → A.grownBy B (some Bx) → J pre B) → (∀ pre A B, Jx pre A → A.grownBy B none → Jx pre B) →
  (∀ pre x W1, J pre W1 → pre.length < N → YieldAt Fence.wide (n - 1) P l (encs x) W1 fun e W' => (e = .returned (.bool true) ∧ J (pre ++ [x]) W' ∧ Kp W1 W') ∨ (e = .returned (.bool false) ∧ Jx (pre ++ [x]) W' ∧ Below n₀ W1 W')) →
  J [] W → CallsIn Fence.wide n P g (#[.func (.yield l) #[] #[]] ++ lb) W fun e W' => (∃ v, e = .returned v) ∧ ((∃ xs, S xs ∧ J xs W') ∨ (∃ pre, Sp pre ∧ Jx pre W'))
def Kept2 (B : Nat) (o : Loop) (W : World) : Prop := W.heap[B + 1]? = some (.loop o) ∧ W.heap[B]? = some (.deferred (some []))
theorem Kept2.turn {B : Nat} {o : Loop} {A C : World} {row : Option Nat} (h : Kept2 B o A) (hg : A.grownBy C row) (hr : ∀ r, row = some r → r < B) : Kept2 B o C :=
 ⟨(hg.block _ (Array.getElem?_eq_some_iff.1 h.1).1 (fun e => by have := hr _ e.symm; omega)).trans h.1, (hg.block _ (Array.getElem?_eq_some_iff.1 h.2).1 (fun e => by have := hr _ e.symm; omega)).trans h.2⟩
theorem Kept2.from {B : Nat} {o : Loop} {A C : World} (h : Kept2 B o A) (hk : KeepsFrom B A C) : Kept2 B o C := ⟨hk.same _ _ (by omega) h.1 rfl, hk.same _ _ (Nat.le_refl _) h.2 rfl⟩
theorem Kept2.put {B : Nat} {o : Loop} {A : World} (h : Kept2 B o A) (o' : Loop) : Kept2 B o' (A.putObj (B + 1) (.loop o')) :=
 ⟨World.putObj_heap_same (Array.getElem?_eq_some_iff.1 h.1).1, (World.putObj_heap_other (by omega)).trans h.2⟩
def RowB (B Bx : Nat) (A : World) (row : Option Nat) : Prop := ∀ r, row = some r → r = Bx ∨ (B ≤ r ∧ ∃ o : Obj, A.heap[r]? = some o ∧ o.isCells = false)
theorem below_between {n : Nat} {X A C : World} (h1 : Below n X A) (h2 : Below n X C) (hs : A.heap.size ≤ C.heap.size) : Below n A C :=
 ⟨h2.os.trans h1.os.symm, h2.tape.trans h1.tape.symm, h2.output.trans h1.output.symm, hs, fun k hk => (h2.block k hk).trans (h1.block k hk).symm⟩
theorem range_law {n : Nat} {P : Program} {α : Type} {g : Operand} {ps : Array Tmp} {x y : Code} {Q : Exit → Act → World → Prop} {a : Act} {w : World} (h1 : 1 ≤ n) {gf : Nat} {lb : Array Value}
 (hg : a.eval g = .func (.func gf) #[] lb) (eg : ∀ args w, (callFunc gf args).run P w = .ok (.enter gf args) w) {encs : α → Array Value} {Kp : World → World → Prop} {S Sp : List α → Prop} {N Bx n₀ : Nat}
 (hseq : SeqStopsB (n - 1) P gf lb encs Kp S Sp N Bx n₀ w) (hBx : Bx < w.heap.size) (hKt : ∀ {A B C : World}, Kp A B → Kp B C → Kp A C)
 (hKb : ∀ (W : World) (l : Nat) (o o' : Obj), w.heap.size ≤ l → W.heap[l]? = some o → o.isCells = false → o.isWalk = false → Kp W (W.putObj l o')) (hps : ∀ z, (encs z).size = ps.size)
 (I : List α → World → Prop) (Ix : Code → List α → World → Prop) (Ax : List α → α → Act → World → Prop) (hI : ∀ pre A B row, I pre A → A.grownBy B row → RowB w.heap.size Bx A row → I pre B) (hIx : ∀ c, OwnFrom w.heap.size (Ix c))
 (hAx : ∀ pre z a', OwnFrom w.heap.size (fun (_ : Unit) W => Ax pre z a' W)) (h0 : I [] w) (hIB : ∀ pre A, I pre A → Below n₀ w A) (hIxB : ∀ c pre A, Ix c pre A → Below n₀ w A)
 (hassign : ∀ (l : Nat) (pre : List α) (z : α) (W : World), I pre W → pre.length < N →
   x.wpIn (Fence.wide.inRound l) (n - 1 - 1) P (fun e a' W' => e = .normal ∧ KeepsFrom w.heap.size W W' ∧ Kp W W' ∧ I pre W' ∧ Ax pre z a' W') { tmps := (ps.zip (encs z)).foldl (fun t (p, v) => t.setIfInBounds p v) a.tmps, defers := [] } W)
 (hbody : ∀ (l : Nat) (pre : List α) (z : α) (a' : Act) (W : World), I pre W → Ax pre z a' W → pre.length < N → y.wpIn (Fence.wide.inRound l) (n - 1 - 1) P (ownPostG w.heap.size Kp I Ix (pre ++ [z]) W) a' W)
 (hdone : ∀ (D : Nat) (xs : List α) (W : World), w.heap.size ≤ D → S xs → I xs W → W.heap[D]? = some (.deferred (some [])) → Q .normal { a with defers := { target := .collected D, args := #[] } :: a.defers } W)
 (hstop : ∀ (D : Nat) (c : Code) (pre : List α) (W : World), w.heap.size ≤ D → Sp pre → Ix c pre W → W.heap[D]? = some (.deferred (some [])) → c.wpIn Fence.wide n P Q { a with defers := { target := .collected D, args := #[] } :: a.defers } W) :
 (Code.rangeFunc g ps x y).wpIn Fence.wide n P Q a w := by
 refine wpIn_rangeFunc fun fn hfn => ?_
 have hro : Fence.wide.round = none := rfl
 rw [hro]
 let lp : LoopState → Option Code → Loop := fun st pe => { state := st, pending := pe, fn, tmps := a.tmps, params := ps, assign := x, body := y, defers := w.heap.size }
 have two : Kept2 w.heap.size (lp .ready none) ((w.alloc (.deferred (some []))).alloc (.loop (lp .ready none))) := by
  constructor
  ·have := World.alloc_heap_new (w.alloc (.deferred (some []))) (.loop (lp .ready none))
   rwa [World.size_alloc] at this
  ·exact (Below.heap_alloc _ _ _ (by simp)).trans (World.alloc_heap_new w _)
 have g1 : w.grownBy (w.alloc (.deferred (some []))) none := World.grownBy_alloc w _ none
 have g2 : (w.alloc (.deferred (some []))).grownBy ((w.alloc (.deferred (some []))).alloc (.loop (lp .ready none))) none := World.grownBy_alloc _ _ none
 have hI1 : I [] ((w.alloc (.deferred (some []))).alloc (.loop (lp .ready none))) := hI _ _ _ none (hI _ _ _ none h0 g1 (fun r e => nomatch e)) g2 (fun r e => nomatch e)
 have hb1 : Below w.heap.size w ((w.alloc (.deferred (some []))).alloc (.loop (lp .ready none))) := (((Below.refl _ w).alloc (Nat.le_refl _) _).alloc (by simp) _)
 have hent : (Instr.enterLoop fn a.tmps ps x y none).run P w = .ok (w.heap.size + 1, [{ target := .collected w.heap.size, args := #[] }]) ((w.alloc (.deferred (some []))).alloc (.loop (lp .ready none))) := run_enterLoop_outer _ _ _ _ _
 generalize (w.alloc (.deferred (some []))).alloc (.loop (lp .ready none)) = W1 at *
 refine ⟨w.heap.size + 1, [{ target := .collected w.heap.size, args := #[] }], W1, { target := .fn (.func gf) lb, args := #[.func (.yield (w.heap.size + 1)) #[] #[]] }, W1, gf,
  #[.func (.yield (w.heap.size + 1)) #[] #[]] ++ lb, W1, hent, by simp only [resolve, hg]; simp [go_sem], fun f' _ => trivial, by simp [invoke, go_sem, eg], fun _ => h1, ?_⟩
 have hS1 : W1.heap.size ≥ w.heap.size := hb1.size
 refine (hseq (w.heap.size + 1) (fun pre W => I pre W ∧ Kept2 w.heap.size (lp .ready none) W) (fun pre W => ∃ c, Ix c pre W ∧ Kept2 w.heap.size (lp .done (some c)) W) W1 hb1
  (fun pre A C h hgr => ⟨hI _ _ _ _ h.1 hgr (fun r e => .inl (by injection e with e; exact e.symm)), h.2.turn hgr (fun r e => by injection e with e; omega)⟩)
  (fun pre A C h hgr => by obtain ⟨c, hc, hk⟩ := h; exact ⟨c, hIx c _ _ _ _ hc hgr (fun r e => nomatch e), hk.turn hgr (fun r e => nomatch e)⟩) ?_ ⟨hI1, two⟩).mono ?_
 ·-- a round
  rintro pre z W ⟨hi, hk⟩ hlen
  refine ⟨fn, _, x, y, run_yield (P := P) (args := encs z) hk.1 (hps z), roundIn_of_wpIn hfn (wpIn_mono (hassign (w.heap.size + 1) pre z W hi hlen) ?_)⟩
  rintro e a' Wa ⟨rfl, kf, kp, hia, hax⟩
  have hka := hk.from kf
  refine ⟨_, run_beginRound hka.1 rfl, ?_⟩
  have hkb := hka.put { lp .ready none with state := .busy }
  have rowL : ∀ {A : World} {o : Loop}, Kept2 w.heap.size o A → RowB w.heap.size Bx A (some (w.heap.size + 1)) := fun {A} {o} h r e => .inr (by injection e with e; subst e; exact ⟨by omega, _, h.1, rfl⟩)
  have own : ∀ {A : World} {o : Loop}, Kept2 w.heap.size o A → ∀ r, some (w.heap.size + 1) = some r → w.heap.size ≤ r ∧ ∃ o' : Obj, A.heap[r]? = some o' ∧ o'.isCells = false := fun {A} {o} h r e => by injection e with e; subst e; exact ⟨by omega, _, h.1, rfl⟩
  have kpb : Kp Wa (Wa.putObj (w.heap.size + 1) (.loop { lp .ready none with state := .busy })) := hKb _ _ _ _ (by omega) hka.1 rfl rfl
  refine wpIn_mono (hbody (w.heap.size + 1) pre z a' _ (hI _ _ _ _ hia (grownBy_putObj' _ _ _) (rowL hka)) (hAx pre z a' () _ _ _ hax (grownBy_putObj' _ _ _) (own hka)) hlen) ?_
  intro e a3 W3 hp
  have fin : ∀ (jump : Option Code), KeepsFrom w.heap.size (Wa.putObj (w.heap.size + 1) (.loop { lp .ready none with state := .busy })) W3 →
   (Instr.endRound (w.heap.size + 1) jump).run P W3 = .ok (.bool jump.isNone) (W3.putObj (w.heap.size + 1) (.loop (lp (if jump.isNone then .ready else .done) jump))) ∧ Kept2 w.heap.size { lp .ready none with state := .busy } W3 := fun jump k3 => by
   have h3 := hkb.from k3
   exact ⟨run_endRound (P := P) jump h3.1, h3⟩
  have bel : ∀ (jump : Option Code) {c : Code}, Ix c (pre ++ [z]) W3 → Kept2 w.heap.size { lp .ready none with state := .busy } W3 → KeepsFrom w.heap.size (Wa.putObj (w.heap.size + 1) (.loop { lp .ready none with state := .busy })) W3 →
   Below n₀ W (W3.putObj (w.heap.size + 1) (.loop (lp (if jump.isNone then .ready else .done) jump))) := fun jump {c} i3 h3 k3 =>
   below_between (hIB _ _ hi) (hIxB _ _ _ (hIx c _ _ _ _ i3 (grownBy_putObj' _ _ _) (own h3))) (by
    have := k3.size
    have := kf.size
    simp only [World.putObj_size] at *
    omega)
  cases e with
  | normal =>
    obtain ⟨k3, p3, i3⟩ := hp
    obtain ⟨hr, h3⟩ := fin none k3
    exact ⟨_, _, hr, .inl ⟨rfl, ⟨hI _ _ _ _ i3 (grownBy_putObj' _ _ _) (rowL h3), h3.put _⟩, hKt kp (hKt (hKt kpb p3) (hKb _ _ _ _ (by omega) h3.1 rfl rfl))⟩⟩
  | ret =>
    obtain ⟨k3, i3⟩ := hp
    obtain ⟨hr, h3⟩ := fin (some .ret) k3
    exact ⟨_, _, hr, .inr ⟨rfl, ⟨.ret, hIx _ _ _ _ _ i3 (grownBy_putObj' _ _ _) (own h3), h3.put _⟩, bel _ i3 h3 k3⟩⟩
  | exit id =>
    obtain ⟨k3, i3⟩ := hp
    obtain ⟨hr, h3⟩ := fin (some (.exit id)) k3
    exact ⟨_, _, hr, .inr ⟨rfl, ⟨.exit id, hIx _ _ _ _ _ i3 (grownBy_putObj' _ _ _) (own h3), h3.put _⟩, bel _ i3 h3 k3⟩⟩
  | goto t =>
    obtain ⟨k3, i3⟩ := hp
    obtain ⟨hr, h3⟩ := fin (some (.goto t)) k3
    exact ⟨_, _, hr, .inr ⟨rfl, ⟨.goto t, hIx _ _ _ _ _ i3 (grownBy_putObj' _ _ _) (own h3), h3.put _⟩, bel _ i3 h3 k3⟩⟩
  | panic ch => exact hp.elim
  | outgrown => exact hp.elim
 ·-- behind the iterator
  rintro e W2 ⟨⟨v, rfl⟩, ⟨xs, hS, hi, hk⟩ | ⟨pre, hSp, c, hi, hk⟩⟩
  ·have hput := hk.put (lp .ready none)
   exact ⟨none, _, run_endLoop (P := P) hk.1 (by simp [lp]), hdone _ xs _ (Nat.le_refl _) hS (hI _ _ _ _ hi (grownBy_putObj' _ _ _) (fun r e => .inr (by injection e with e; subst e; exact ⟨by omega, _, hk.1, rfl⟩))) ((World.putObj_heap_other (by omega)).trans hk.2)⟩
  ·exact ⟨some c, _, run_endLoop (P := P) hk.1 (by simp [lp]), hstop _ c pre _ (Nat.le_refl _) hSp (hIx c _ _ _ _ hi (grownBy_putObj' _ _ _) (fun r e => by injection e with e; subst e; exact ⟨by omega, _, hk.1, rfl⟩)) ((World.putObj_heap_other (by omega)).trans hk.2)⟩
section
variable {cx : Cx} {w0 : Base}
theorem rel_turn {s : St} {a : Act} {W W' : World} {B Bx : Nat} {row : Option Nat} (hR : Rel w0 s a W) (hB : w0.B ≤ B) (hBx0 : w0.B ≤ Bx) (hBxr : Bx ∉ s.r) (hg : W.grownBy W' row) (hr : RowB B Bx W row) : Keep w0 s.r W W' := by
 have hne : ∀ k, row = some k → w0.B ≤ k ∧ k ∉ s.r := fun k e => by
  rcases hr k e with rfl | ⟨hk, o, ho, hc⟩
  ·exact ⟨hBx0, hBxr⟩
  ·refine ⟨Nat.le_trans hB hk, fun hb => ?_⟩
   obtain ⟨i, hi, hib⟩ := List.getElem_of_mem hb
   have hil : i < s.hp.length := by rw [← hR.len]; exact hi
   have h1 := hR.blk [] i k (s.hp[i]) (by rw [List.getElem?_eq_getElem hi, hib]) (by rw [hget_eq, List.getElem?_eq_getElem hil])
   rw [h1] at ho; injection ho with ho; subst ho; cases hc
 refine ⟨⟨hg.os, hg.tape, hg.output, hg.size, fun k hk => hg.block k (Nat.lt_of_lt_of_le hk (Nat.le_trans w0.le hR.at_.below.size)) fun e => ?_⟩, fun b hb => hg.block b (hR.at_.lt b hb) fun e => (hne b e.symm).2 hb⟩
 have := (hne k e.symm).1; omega
theorem rangeB (hcx : CxOk cx) {n : Nat} (h1 : 1 ≤ n) {s : St} {a : Act} {w : World} (hR : Rel w0 s a w) {g : Operand} {ps : Array Tmp} {x y : Code} {K : Exit → St → Prop} {gf : Nat} {lb : Array Value}
 (hg : ev s.fr g = .val (.func (.func gf) #[] lb)) (eg : Enters cx.P gf)
 {α : Type} {encs : α → List Value} {Kp : World → World → Prop} {S Sp : List α → Prop} {N Bx : Nat} (hseq : SeqStopsB (n - 1) cx.P gf lb (fun x => (encs x).toArray) Kp S Sp N Bx w0.B w) (hBx : Bx < w.heap.size) (hBx0 : w0.B ≤ Bx) (hBxr : Bx ∉ s.r)
 (hKt : ∀ {A B C : World}, Kp A B → Kp B C → Kp A C) (hKb : ∀ (W : World) (l : Nat) (o o' : Obj), w.heap.size ≤ l → W.heap[l]? = some o → o.isCells = false → o.isWalk = false → Kp W (W.putObj l o'))
 (hps : ∀ x, (encs x).length = ps.size)
 {γ : Type} (hpf : γ → List LB) (Φ : List α → γ → World → Prop) (hΦ : ∀ c pre A B row, Φ pre c A → A.grownBy B row → RowB w.heap.size Bx A row → Φ pre c B) (c0 : γ) (hp0 : hpf c0 = s.hp) (hΦ0 : Φ [] c0 w)
 (Ix : Code → List α → γ → World → Prop) (hpx : Code → γ → List LB) (hIx : ∀ c q, OwnFrom w.heap.size (fun pre W => Ix c pre q W))
 (frx : α → Fr) (hpa : α → List LB) (Ψ : γ → List Nat → Prop)
 (hassign : ∀ l pre z c W, Φ pre c W → Below w0.B w0.W W → w.heap.size ≤ W.heap.size → pre.length < N → codeD (Fence.wide.inRound l) (n - 1 - 1) cx w0 x
   (fun e s' => e = .normal ∧ s'.on fun fr2 hp2 r2 L2 w2 df2 => ∃ bs, bs.length = (hpa z).length ∧ Ψ c bs ∧ Need (fr2 = frx z ∧ hp2 = hpf c ++ hpa z ∧ r2 = s.r ++ bs ∧ df2 = []) (EndI w0 hp2 r2 L2 w2 undef fun _ w1 => KeepsFrom w.heap.size W w1 ∧ Kp W w1 ∧ Φ pre c w1)) ⟨setP s.fr ps.toList (encs z), hpf c, s.r, [], W, []⟩)
 (hbody : ∀ l pre x c bs W, bs.length = (hpa x).length → Ψ c bs → Φ pre c W → Below w0.B w0.W W → w.heap.size ≤ W.heap.size → pre.length < N → codeD (Fence.wide.inRound l) (n - 1 - 1) cx w0 y
   (fun e s' => match e with
     | .normal => s'.on fun fr2 hp2 r2 L2 w2 df2 => ∃ c', Need (CovH (hpf c') s.r ⟨fr2, hp2, r2, L2, w2, df2⟩) (EndI w0 hp2 r2 L2 w2 undef fun _ w1 => KeepsFrom w.heap.size W w1 ∧ Kp W w1 ∧ Φ (pre ++ [x]) c' w1)
     | .ret => s'.on fun fr2 hp2 r2 L2 w2 df2 => ∃ c', Need (CovH (hpx .ret c') s.r ⟨fr2, hp2, r2, L2, w2, df2⟩) (EndI w0 hp2 r2 L2 w2 undef fun _ w1 => KeepsFrom w.heap.size W w1 ∧ Ix .ret (pre ++ [x]) c' w1)
     | .exit id => s'.on fun fr2 hp2 r2 L2 w2 df2 => ∃ c', Need (CovH (hpx (.exit id) c') s.r ⟨fr2, hp2, r2, L2, w2, df2⟩) (EndI w0 hp2 r2 L2 w2 undef fun _ w1 => KeepsFrom w.heap.size W w1 ∧ Ix (.exit id) (pre ++ [x]) c' w1)
     | _ => False) ⟨frx x, hpf c ++ hpa x, s.r ++ bs, [], W, []⟩)
 (hdone : ∀ D xs c W, w.heap.size ≤ D → S xs → Φ xs c W → W.heap[D]? = some (.deferred (some [])) → K .normal ⟨s.fr, hpf c, s.r, [], W, { target := .collected D, args := #[] } :: s.df⟩)
 (hstop : ∀ D c e pre q W, w.heap.size ≤ D → Sp pre → Ix c pre q W → exitOf c = some e → W.heap[D]? = some (.deferred (some [])) → K e ⟨s.fr, hpx c q, s.r, [], W, { target := .collected D, args := #[] } :: s.df⟩) :
 (Code.rangeFunc g ps x y).wpIn Fence.wide n cx.P (fun e a' w' => ∃ s', Rel w0 s' a' w' ∧ K e s') a w := by
 have hev := hR.ev1 hg (by simp) []
 simp only [SV.den] at hev
 have hB : w0.B ≤ w.heap.size := Nat.le_trans w0.le hR.at_.below.size
 have withD : ∀ {hp : List LB} {W : World} (D : Nat), Rel w0 ⟨s.fr, hp, s.r, [], W, s.df⟩ a W → Rel w0 ⟨s.fr, hp, s.r, [], W, { target := .collected D, args := #[] } :: s.df⟩ { a with defers := { target := .collected D, args := #[] } :: a.defers } W := fun {hp} {W} D h =>
  ⟨congrArg (_ :: ·) h.df, h.fits, ⟨h.at_.below, h.at_.size, h.at_.step, h.at_.blk, h.at_.fresh, h.at_.lt, h.at_.base⟩, h.blk, h.nod, h.len⟩
 have inner : ∀ {hp : List LB} {W : World} {a' : Act} {fr : Fr}, Rel w0 ⟨s.fr, hp, s.r, [], W, s.df⟩ a W → a'.defers = [] → (∀ t, Fits (s.r ++ t) fr a'.tmps) → Rel w0 ⟨fr, hp, s.r, [], W, []⟩ a' W := fun {hp} {W} {a'} {fr} h hd hf =>
  ⟨hd, hf, ⟨h.at_.below, h.at_.size, h.at_.step, h.at_.blk, h.at_.fresh, h.at_.lt, h.at_.base⟩, h.blk, h.nod, h.len⟩
 have rowO : ∀ {A : World} {row : Option Nat}, (∀ r, row = some r → w.heap.size ≤ r ∧ ∃ o : Obj, A.heap[r]? = some o ∧ o.isCells = false) → RowB w.heap.size Bx A row := fun h r e => .inr (h r e)
 refine range_law h1 hev eg hseq hBx hKt hKb (fun z => by simp [hps]) (fun pre W => ∃ c, Rel w0 ⟨s.fr, hpf c, s.r, [], W, s.df⟩ a W ∧ w.heap.size ≤ W.heap.size ∧ Φ pre c W)
  (fun c pre W => (∃ e, exitOf c = some e) ∧ ∃ q, Rel w0 ⟨s.fr, hpx c q, s.r, [], W, s.df⟩ a W ∧ Ix c pre q W ∧ w.heap.size ≤ W.heap.size)
  (fun pre z a' W => ∃ c bs, (bs.length = (hpa z).length ∧ Ψ c bs) ∧ Rel w0 ⟨s.fr, hpf c, s.r, [], W, s.df⟩ a W ∧ Rel w0 ⟨frx z, hpf c ++ hpa z, s.r ++ bs, [], W, []⟩ a' W ∧ w.heap.size ≤ W.heap.size ∧ Φ pre c W) ?_ ?_ ?_ ?_ (fun pre A ⟨c, hr, hs, hf⟩ => below_between hR.at_.below hr.at_.below hs) (fun c pre A ⟨_, q, hr, hx, hs⟩ => below_between hR.at_.below hr.at_.below hs) ?_ ?_ ?_ ?_
 ·rintro pre A C row ⟨c, hr, hs, hf⟩ hgr hrow
  exact ⟨c, hr.keep (rel_turn hr hB hBx0 hBxr hgr hrow), Nat.le_trans hs hgr.size, hΦ c pre A C row hf hgr hrow⟩
 ·rintro c pre A C row ⟨h0, q, hr, hx, hs⟩ hgr hrow
  exact ⟨h0, q, hr.keep (grown_keep hr hB hgr hrow), hIx c q pre A C row hx hgr hrow, Nat.le_trans hs hgr.size⟩
 ·rintro pre z a' _ A C row ⟨c, bs, hl, hr, hr2, hs, hf⟩ hgr hrow
  exact ⟨c, bs, hl, hr.keep (grown_keep hr hB hgr hrow), hr2.keep (grown_keep hr2 hB hgr hrow), Nat.le_trans hs hgr.size, hΦ c pre A C row hf hgr (rowO hrow)⟩
 ·refine ⟨c0, ?_, Nat.le_refl _, hΦ0⟩
  have h0 := hR.keep keep_refl
  rw [hp0]; exact h0
 ·rintro l pre z W ⟨c, hr, hs, hf⟩ hN
  have hr1 := rel_sets (w0 := w0) (s := ⟨s.fr, hpf c, s.r, [], W, []⟩) (a := ⟨a.tmps, []⟩) (inner hr rfl hr.fits) ps.toList (encs z)
  have e1 : (ps.zip (encs z).toArray).foldl (fun (t : Array Value) (x : Nat × Value) => t.setIfInBounds x.1 x.2) a.tmps = sets a.tmps ps.toList (encs z) := by
   rw [← sets_eq]
  show x.wpIn _ _ _ _ ({ tmps := (ps.zip (encs z).toArray).foldl (fun (t : Array Value) (x : Nat × Value) => t.setIfInBounds x.1 x.2) a.tmps, defers := [] } : Act) W
  rw [e1]
  refine codeD_round hcx l _ _ _ _ _ W _ (hassign l pre z c W hf hr.at_.below hs hN) hr1 ?_
  rintro e s' a' W' ⟨rfl, hK⟩ hR'
  obtain ⟨fr2, hp2, r2, L2, w2, df2⟩ := s'
  rw [St.on_eq] at hK
  obtain ⟨bs, hl, hψ, ⟨e1, e2, e3, e4⟩, h2⟩ := hK
  simp only at e1 e2 e3 e4
  subst e1; subst e2; subst e3; subst e4
  obtain ⟨k1, k2, k3⟩ := h2.h W' hR'.at_
  have hcov : Keep w0 s.r W W' := by
   refine ⟨?_, fun b hb => ?_⟩
   ·exact ⟨hR'.at_.below.os.trans hr.at_.below.os.symm, hR'.at_.below.tape.trans hr.at_.below.tape.symm, hR'.at_.below.output.trans hr.at_.below.output.symm, k1.size, fun k hk => (hR'.at_.below.block k hk).trans (hr.at_.below.block k hk).symm⟩
   ·obtain ⟨i, hi, hib⟩ := List.getElem_of_mem hb
    have hil : i < (hpf c).length := by have := hr.len; simp only at this; omega
    have g1 := hr.blk [] i b (hpf c)[i] (by show s.r[i]? = _; rw [List.getElem?_eq_getElem hi, hib]) (by show hget (hpf c) i = _; rw [hget_eq, List.getElem?_eq_getElem hil])
    have g2 := hR'.blk [] i b (hpf c)[i] (by show (s.r ++ bs)[i]? = _; rw [List.getElem?_append_left hi, List.getElem?_eq_getElem hi, hib]) (by show hget (hpf c ++ hpa z) i = _; rw [hget_eq, List.getElem?_append_left hil, List.getElem?_eq_getElem hil])
    have g3 := hr.blk bs i b (hpf c)[i] (by show s.r[i]? = _; rw [List.getElem?_eq_getElem hi, hib]) (by show hget (hpf c) i = _; rw [hget_eq, List.getElem?_eq_getElem hil])
    simp only [List.append_nil] at g1 g2
    rw [g2, ← g3]
  exact ⟨rfl, k1, k2, ⟨c, hr.keep hcov, Nat.le_trans hs k1.size, k3⟩, c, bs, ⟨hl, hψ⟩, hr.keep hcov, hR'.keep keep_refl, Nat.le_trans hs k1.size, k3⟩
 ·rintro l pre z a' W _ ⟨c, bs, hl, hr, hr2, hs, hf⟩ hN
  refine codeD_round hcx l _ y _ _ _ W _ (hbody l pre z c bs W hl.1 hl.2 hf hr.at_.below hs hN) hr2 ?_
  intro e s' a2 w1 hK hR'
  cases e with
  | normal =>
    simp only [St.on_eq] at hK
    obtain ⟨c', h1, h2⟩ := hK
    obtain ⟨h3, h4, h5⟩ := h2.h w1 hR'.at_
    exact ⟨h3, h4, c', covH_rel (s := ⟨s.fr, hpf c, s.r, [], W, s.df⟩) hr hR' h1, Nat.le_trans hs h3.size, h5⟩
  | ret =>
    simp only [St.on_eq] at hK
    obtain ⟨c', h1, h2⟩ := hK
    obtain ⟨h3, h5⟩ := h2.h w1 hR'.at_
    exact ⟨h3, ⟨_, rfl⟩, c', covH_rel (s := ⟨s.fr, hpf c, s.r, [], W, s.df⟩) hr hR' h1, h5, Nat.le_trans hs h3.size⟩
  | exit id =>
    simp only [St.on_eq] at hK
    obtain ⟨c', h1, h2⟩ := hK
    obtain ⟨h3, h5⟩ := h2.h w1 hR'.at_
    exact ⟨h3, ⟨_, rfl⟩, c', covH_rel (s := ⟨s.fr, hpf c, s.r, [], W, s.df⟩) hr hR' h1, h5, Nat.le_trans hs h3.size⟩
  | goto l => exact hK.elim
  | panic ch => exact hK.elim
  | outgrown => exact hK.elim
 ·rintro D xs W hD hS ⟨c, hr, hs, hf⟩ hd
  exact ⟨_, withD D hr, hdone D xs c W hD hS hf hd⟩
 ·intro D c pre W hD hS hI hd
  obtain ⟨⟨e, he⟩, q, hRx, hix, hs⟩ := hI
  have hk := hstop D c e pre q W hD hS hix he hd
  cases c <;> simp only [exitOf] at he <;> try (cases he; done)
  ·injection he with he; subst he; exact wpIn_exit ⟨_, withD D hRx, hk⟩
  ·injection he with he; subst he; exact wpIn_ret ⟨_, withD D hRx, hk⟩
theorem rangeBu (hcx : CxOk cx) {n : Nat} (h1 : 1 ≤ n) {s : St} {a : Act} {w : World} (hR : Rel w0 s a w) {g : Operand} {ps : Array Tmp} {x y : Code} {K : Exit → St → Prop} {gf : Nat} {lb : Array Value}
 (hg : ev s.fr g = .val (.func (.func gf) #[] lb)) (eg : Enters cx.P gf)
 {α : Type} {encs : α → List Value} {Kp : World → World → Prop} {S Sp : List α → Prop} {N Bx : Nat} (hseq : SeqStopsB (n - 1) cx.P gf lb (fun x => (encs x).toArray) Kp S Sp N Bx w0.B w) (hBx : Bx < w.heap.size) (hBx0 : w0.B ≤ Bx) (hBxr : Bx ∉ s.r)
 (hKt : ∀ {A B C : World}, Kp A B → Kp B C → Kp A C) (hKb : ∀ (W : World) (l : Nat) (o o' : Obj), w.heap.size ≤ l → W.heap[l]? = some o → o.isCells = false → o.isWalk = false → Kp W (W.putObj l o'))
 (hps : ∀ x, (encs x).length = ps.size)
 {γ : Type} (hpf : γ → List LB) (Φ : List α → γ → World → Prop) (hΦ : ∀ c pre A B row, Φ pre c A → A.grownBy B row → RowB w.heap.size Bx A row → Φ pre c B) (c0 : γ) (hp0 : hpf c0 = s.hp) (hΦ0 : Φ [] c0 w)
 (Ix : Code → List α → γ → World → Prop) (hpx : Code → γ → List LB) (hIx : ∀ c q, OwnFrom w.heap.size (fun pre W => Ix c pre q W))
 (upd : α → List (Nat × SV)) (hpa : α → List LB) (Ψ : γ → List Nat → Prop)
 (hassign : ∀ l pre z c W, Φ pre c W → Below w0.B w0.W W → w.heap.size ≤ W.heap.size → pre.length < N → codeD (Fence.wide.inRound l) (n - 1 - 1) cx w0 x
   (fun e s' => e = .normal ∧ s'.on fun fr2 hp2 r2 L2 w2 df2 => ∃ bs, bs.length = (hpa z).length ∧ Ψ c bs ∧ Need (fr2 = setM (setP s.fr ps.toList (encs z)) (upd z) ∧ hp2 = hpf c ++ hpa z ∧ r2 = s.r ++ bs ∧ df2 = []) (EndI w0 hp2 r2 L2 w2 undef fun _ w1 => KeepsFrom w.heap.size W w1 ∧ Kp W w1 ∧ Φ pre c w1)) ⟨setP s.fr ps.toList (encs z), hpf c, s.r, [], W, []⟩)
 (hbody : ∀ l pre x c bs W, bs.length = (hpa x).length → Ψ c bs → Φ pre c W → Below w0.B w0.W W → w.heap.size ≤ W.heap.size → pre.length < N → codeD (Fence.wide.inRound l) (n - 1 - 1) cx w0 y
   (fun e s' => match e with
     | .normal => s'.on fun fr2 hp2 r2 L2 w2 df2 => ∃ c', Need (CovH (hpf c') s.r ⟨fr2, hp2, r2, L2, w2, df2⟩) (EndI w0 hp2 r2 L2 w2 undef fun _ w1 => KeepsFrom w.heap.size W w1 ∧ Kp W w1 ∧ Φ (pre ++ [x]) c' w1)
     | .ret => s'.on fun fr2 hp2 r2 L2 w2 df2 => ∃ c', Need (CovH (hpx .ret c') s.r ⟨fr2, hp2, r2, L2, w2, df2⟩) (EndI w0 hp2 r2 L2 w2 undef fun _ w1 => KeepsFrom w.heap.size W w1 ∧ Ix .ret (pre ++ [x]) c' w1)
     | .exit id => s'.on fun fr2 hp2 r2 L2 w2 df2 => ∃ c', Need (CovH (hpx (.exit id) c') s.r ⟨fr2, hp2, r2, L2, w2, df2⟩) (EndI w0 hp2 r2 L2 w2 undef fun _ w1 => KeepsFrom w.heap.size W w1 ∧ Ix (.exit id) (pre ++ [x]) c' w1)
     | _ => False) ⟨setM (setP s.fr ps.toList (encs x)) (upd x), hpf c ++ hpa x, s.r ++ bs, [], W, []⟩)
 (hdone : ∀ D xs c W, w.heap.size ≤ D → S xs → Φ xs c W → W.heap[D]? = some (.deferred (some [])) → K .normal ⟨s.fr, hpf c, s.r, [], W, { target := .collected D, args := #[] } :: s.df⟩)
 (hstop : ∀ D c e pre q W, w.heap.size ≤ D → Sp pre → Ix c pre q W → exitOf c = some e → W.heap[D]? = some (.deferred (some [])) → K e ⟨s.fr, hpx c q, s.r, [], W, { target := .collected D, args := #[] } :: s.df⟩) :
 (Code.rangeFunc g ps x y).wpIn Fence.wide n cx.P (fun e a' w' => ∃ s', Rel w0 s' a' w' ∧ K e s') a w :=
 rangeB hcx h1 hR hg eg hseq hBx hBx0 hBxr (fun h k => hKt h k) hKb hps hpf Φ hΦ c0 hp0 hΦ0 Ix hpx hIx (fun z => setM (setP s.fr ps.toList (encs z)) (upd z)) hpa Ψ hassign hbody hdone hstop
end
end Go.Proofs.YtanhnllkccldhaaGreat.Eng
namespace Go.Proofs.YtanhnllkccldhaaGreat
set_option linter.unusedVariables false
set_option linter.unusedSimpArgs false
set_option maxRecDepth 100000
open Go.RowKit Go.Proofs.YtanhnllkccldhaaGreat.Eng Enc
namespace Mi
def go (b : Zn) : List Nat → Zn → List (Zn × Int)
 | [], _ => []
 | i :: l, a =>
   if (Bd.not (Zo.get b i)).2 ≠ 0 then go b l a
   else (if (wth a (other i) (Bd.not (Zo.get b i)).1).2 = 6 then [] else [wth a (other i) (Bd.not (Zo.get b i)).1]) ++
    (if (wth a i (Zo.get b i)).2 = 6 then [] else (if (wth a i (Zo.get b i)).2 = 0 then [] else [wth a i (Zo.get b i)]) ++ go b l (wth a i (Zo.get b i)).1)
def parts (a b : Zn) : List (Zn × Int) := go b [0, 1, 2, 3, 4, 5] a
theorem go_len (b : Zn) (l : List Nat) (a : Zn) : (go b l a).length ≤ 2 * l.length := by
 induction l generalizing a with
 | nil => simp [go]
 | cons i l ih =>
   have h1 := ih a
   have h2 := ih (wth a i (Zo.get b i)).1
   unfold go
   simp only [List.length_cons]
   split
   ·omega
   ·rw [List.length_append]
    split <;> split <;> (try split) <;> simp only [List.length_append, List.length_cons, List.length_nil] <;> omega
theorem parts_len (a b : Zn) : (parts a b).length ≤ 12 := go_len b [0, 1, 2, 3, 4, 5] a
theorem drop_six {k : Nat} (h : k < 6) : [0, 1, 2, 3, 4, 5].drop k = k :: [0, 1, 2, 3, 4, 5].drop (k + 1) := by
 have : k = 0 ∨ k = 1 ∨ k = 2 ∨ k = 3 ∨ k = 4 ∨ k = 5 := by omega
 rcases this with rfl | rfl | rfl | rfl | rfl | rfl <;> rfl
def Holds (W : World) (B : Nat) (z : Zn) : Prop := W.heap[B]? = some (.cells #[.int .i64 z.a, .int .i64 z.b, .int .i64 z.c, .int .i64 z.d, .int .i64 z.e, .int .i64 z.f] 86 (0, 0))
theorem Holds.lt {W : World} {B : Nat} {z : Zn} (h : Holds W B z) : B < W.heap.size := (Array.getElem?_eq_some_iff.1 h).1
theorem Holds.cells {W : World} {B : Nat} {z : Zn} (h : Holds W B z) (j : Nat) (c : Value) (hj : [Value.int .i64 z.a, .int .i64 z.b, .int .i64 z.c, .int .i64 z.d, .int .i64 z.e, .int .i64 z.f][j]? = some c) : W.cell? ((⟨B, 0, none⟩ : Addr).add j) = some c := by
 rw [addr_addL, Nat.zero_add]
 have hj6 := (List.getElem?_eq_some_iff.1 hj).1
 simp only [List.length_cons, List.length_nil] at hj6
 have : j = 0 ∨ j = 1 ∨ j = 2 ∨ j = 3 ∨ j = 4 ∨ j = 5 := by omega
 have h' : W.heap[B]? = _ := h
 rcases this with rfl | rfl | rfl | rfl | rfl | rfl <;> (simp at hj; subst hj; simp [World.cell?, h'])
theorem Holds.below {W W' : World} {B : Nat} {z : Zn} (h : Holds W B z) (hB : Below W.heap.size W W') : Holds W' B z := (hB.block B h.lt).trans h
theorem Holds.same {W W' : World} {B : Nat} {z : Zn} (h : Holds W B z) (e : W'.heap[B]? = W.heap[B]?) : Holds W' B z := e.trans h
def KpM (n₀ Ba Bb : Nat) (W W' : World) : Prop := Below n₀ W W' ∧ W'.heap[Ba]? = W.heap[Ba]? ∧ W'.heap[Bb]? = W.heap[Bb]?
def encM (x : Zn × Int) : List Value := [.agg #[.int .i64 x.1.a, .int .i64 x.1.b, .int .i64 x.1.c, .int .i64 x.1.d, .int .i64 x.1.e, .int .i64 x.1.f], .int .i64 x.2]
end Mi
theorem at_grown {w0 : Base} {hp : List LB} {r L : List Nat} {w w1 : World} (h : At w0 hp r L w w1) (hL : ∀ b, b ∈ L → w.heap.size ≤ b) (row : Option Nat) : w.grownBy w1 row :=
 ⟨h.below.os.trans h.base.os.symm, h.below.tape.trans h.base.tape.symm, h.below.output.trans h.base.output.symm, h.size, fun k hk _ => h.step k hk fun hm => by have := hL k hm; omega⟩
theorem at_below {w0 : Base} {hp : List LB} {r L : List Nat} {w w1 : World} (h : At w0 hp r L w w1) (hL : ∀ b, b ∈ L → w.heap.size ≤ b) : Below w.heap.size w w1 :=
 ⟨h.below.os.trans h.base.os.symm, h.below.tape.trans h.base.tape.symm, h.below.output.trans h.base.output.symm, h.size, fun k hk => h.step k hk fun hm => by have := hL k hm; omega⟩
theorem index_zn (b : Zn) (k : Nat) (hk : k < 6) (w : World) : (Instr.index 86 (.agg #[.int .i64 b.a, .int .i64 b.b, .int .i64 b.c, .int .i64 b.d, .int .i64 b.e, .int .i64 b.f]) (.int .i64 (k : Nat))).run Tryz.prog w = .ok (.int .i64 (Zo.get b k)) w := by
 rcases (by omega : k = 0 ∨ k = 1 ∨ k = 2 ∨ k = 3 ∨ k = 4 ∨ k = 5) with rfl | rfl | rfl | rfl | rfl | rfl <;> kernel_rfl
structure Mi.Sit (n₀ Ba Bb : Nat) (W : World) (x b : Zn) (Jp : World → Prop) (X : World) : Prop where
 below : Below n₀ W X
 size : W.heap.size ≤ X.heap.size
 ha : Mi.Holds X Ba x
 hb : Mi.Holds X Bb b
 j : Jp X
section
variable {n₀ Ba Bb : Nat} {W X Y : World} {x b : Zn} {Jp : World → Prop}
open Mi
theorem Mi.Sit.go (h : Sit n₀ Ba Bb W x b Jp X) (hn : n₀ ≤ W.heap.size) (hJ : ∀ A B, Jp A → A.grownBy B (some Ba) → Jp B) (hB : Below X.heap.size X Y) : Sit n₀ Ba Bb W x b Jp Y :=
 ⟨h.below.trans (hB.mono (Nat.le_trans hn h.size)), Nat.le_trans h.size hB.size, h.ha.below hB, h.hb.below hB, hJ _ _ h.j (below_grown hB _)⟩
theorem Mi.Sit.at {w0 : Base} {hp : List LB} {r L : List Nat} (h : Sit n₀ Ba Bb W x b Jp X) (hn : n₀ ≤ W.heap.size) (hJ : ∀ A B, Jp A → A.grownBy B (some Ba) → Jp B) (h1 : At w0 hp r L X Y) (hL : ∀ b, b ∈ L → X.heap.size ≤ b) : Sit n₀ Ba Bb W x b Jp Y :=
 h.go hn hJ (at_below h1 hL)
end
set_option maxHeartbeats 4000000 in
open Mi in
theorem parts_stops (n : Nat) (Ba Bb n₀ : Nat) (a b : Zn) (w : World) (hab : Ba ≠ Bb) (ha0 : n₀ ≤ Ba) (hb0 : n₀ ≤ Bb) (ha : Holds w Ba a) (hb : Holds w Bb b) :
 SeqStopsB n Tryz.prog 234 #[.pointer (some ⟨Bb, 0, none⟩), .pointer (some ⟨Ba, 0, none⟩)] (fun x => (encM x).toArray) (KpM n₀ Ba Bb) (fun xs => xs = parts a b) (fun pre => pre <+: parts a b) 12 Ba n₀ w := fun l J Jx W hW hJ hJx hY h0 => by
 have hsz := hW.size
 have hn0 : n₀ ≤ W.heap.size := by have := ha.lt; omega
 refine (fun_in n n₀ W hn0 Tryz.func234 (args := [.val (.func (.yield l) #[] #[]), .val (.pointer (some ⟨Bb, 0, none⟩)), .val (.pointer (some ⟨Ba, 0, none⟩))]) (R := fun _ W' => (∃ xs, xs = parts a b ∧ J xs W') ∨ (∃ pre, pre <+: parts a b ∧ Jx pre W')) rfl rfl ?_).mono ?_
 case refine_2 =>
  rintro e W' ⟨v, rfl, _, h⟩
  exact ⟨⟨_, rfl⟩, h⟩
 have hbW := hb.below hW
 have haW := ha.below hW
 refine LoadA.mk ⟨[.int .i64 b.a, .int .i64 b.b, .int .i64 b.c, .int .i64 b.d, .int .i64 b.e, .int .i64 b.f], ⟨rfl, by decide, by simp, hbW.cells⟩, ?_⟩
 refine LoopI.invC (α := (Nat × Zn × List (Zn × Int)) × World) (fun y => [(12, .val (.int .i64 y.1.1))]) (fun y => y.2)
  (fun y => y.1.1 ≤ 6 ∧ Below n₀ W y.2 ∧ W.heap.size ≤ y.2.heap.size ∧ Holds y.2 Ba y.1.2.1 ∧ Holds y.2 Bb b ∧ J y.1.2.2 y.2 ∧ y.1.2.2 ++ go b ([0, 1, 2, 3, 4, 5].drop y.1.1) y.1.2.1 = parts a b) (fun y => 6 - y.1.1) ?_ ?_
 ·intro w1 h1
  have hg := at_below h1 (by simp)
  exact ⟨((0, a, []), w1), Cov.au rfl rfl rfl rfl rfl, rfl, Nat.zero_le _, h1.below, h1.size, haW.below hg, hbW.below hg, hJ _ _ _ h0 (at_grown h1 (by simp) _), rfl⟩
 rintro ⟨⟨k, x, pre⟩, V⟩ ⟨hk, hV, hVs, hax, hbx, hj, hpre⟩
 simp only at hk hV hVs hax hbx hj hpre
 refine Branch.mk (fun hc => ?_) (fun hc => ?_)
 ·have hlt : k < 6 := by have : (k : Int) < 6 := by simpa using hc
                         omega
  rw [drop_six hlt] at hpre
  have sit : Sit n₀ Ba Bb W x b (J pre) V := ⟨hV, hVs, hax, hbx, hj⟩
  refine GenV.to (x := .int .i64 (Zo.get b k)) (fun w => index_zn b k hlt w) fun u0 k0 => ?_
  have sit := sit.at hn0 (hJ pre) k0 (by simp)
  apply CallI.use1
  focus (exact fun w1 h1 => bnot_any (Zo.get b k) w1)
  intro w1 v1 h1 hB1
  have sit := (sit.at hn0 (hJ pre) h1 (by simp)).go hn0 (hJ pre) hB1
  refine Branch.mk (fun hc2 => ?_) (fun hc2 => ?_)
  ·have hn : (Bd.not (Zo.get b k)).2 ≠ 0 := by simpa using hc2
   rw [go, if_pos hn] at hpre
   refine Need.mk (by simp only [inK]; omega) (EndI.mk fun w9 h9 => ⟨((k + 1, x, pre), w9), Cov.au rfl rfl rfl rfl rfl, rfl, ?_, by simp only; omega⟩)
   have sit := sit.at hn0 (hJ pre) h9 (by simp)
   exact ⟨hlt, sit.below, sit.size, sit.ha, sit.hb, sit.j, hpre⟩
  have hn : (Bd.not (Zo.get b k)).2 = 0 := by simpa using hc2
  rw [go, if_neg (by simp [hn])] at hpre
  refine DrawI.go (.tk 0 (.tk 1 (.tk 3 (.two 2 (.two 4 (.tk 5 (.tk 6 (.tk 7 (.ev 8 (.ev 9 (.tk 10 .done)))))) 8 (.ev 4 (.tk 5 (.tk 6 (.tk 7 (.ev 9 (.tk 10 .done))))))) 8 (.ev 2 (.ev 4 (.tk 5 (.tk 6 (.tk 7 (.ev 9 (.tk 10 .done))))))))))) (by kernel_rfl) fun w2 h2 => ?_
  have sit := sit.at hn0 (hJ pre) h2 (by simp)
  have S2 := sit
  have hF := Below.refl w2.heap.size w2
  have hBaw2 : Ba < w2.heap.size := sit.ha.lt
  have hBbw2 : Bb < w2.heap.size := sit.hb.lt
  generalize hzz : wth x (other k) (Bd.not (Zo.get b k)).1 = z at *
  generalize hyy : wth x k (Zo.get b k) = y at *
  refine LoadA.mk ⟨[.int .i64 x.a, .int .i64 x.b, .int .i64 x.c, .int .i64 x.d, .int .i64 x.e, .int .i64 x.f], ⟨rfl, by decide, by simp, sit.ha.cells⟩, ?_⟩
  refine Both.mk ?_ ?_
  ·skip
   apply CallI.use1
   focus (exact fun w3 h3 => mother_any k hlt w3)
   intro w3 v3 h3 hB3
   have hF := h3.from S2.below hF (fun b hb => by simp at hb <;> omega)
   have hF := hF.trans (hB3.mono hF.size)
   have hXV3 := hF.size
   refine Both.mk ?_ ?_
   ·skip
    apply CallI.use1
    focus (exact fun w4 h4 => mwith_any x (other k) (by unfold other; split <;> omega) (Bd.not (Zo.get b k)).1 w4)
    intro w4 v4 h4 hB4
    have hF := h4.from S2.below hF (fun b hb => by simp at hb <;> omega)
    have hF := hF.trans (hB4.mono hF.size)
    have hXV4 := hF.size
    rw [hzz]
    refine NewI.mk fun b1 hb1 => ?_
    have hb1 : v4.heap.size ≤ b1 := hb1
    refine Branch.mk (fun hc3 => ?_) (fun hc3 => ?_)
    ·have h6 : ¬ z.2 = 6 := by simpa using hc3
     rw [if_neg h6] at hpre
     refine ⟨fun w5 h5 => ?_⟩
     have hF := h5.from S2.below hF (fun b hb => by simp at hb <;> omega)
     have sit5 := S2.go hn0 (hJ pre) hF
     refine (hY (pre) z w5 sit5.j (by have h12 := congrArg List.length hpre; have := parts_len a b; simp only [List.length_append, List.length_cons] at h12; (try simp only [List.length_append, List.length_cons, List.length_nil]); omega)).mono ?_
     rintro e v5 (⟨rfl, hj5, hk5⟩ | ⟨rfl, hx5, hk5⟩)
     ·refine ⟨_, rfl, sit5.below.trans hk5.1, ?_⟩
      have sitX : Sit n₀ Ba Bb W x b (J (pre ++ [z])) v5 := ⟨sit5.below.trans hk5.1, Nat.le_trans sit5.size hk5.1.size, sit5.ha.same hk5.2.1, sit5.hb.same hk5.2.2, hj5⟩
      have hF := Below.refl v5.heap.size v5
      have hBaX := sitX.ha.lt
      have hpre : (pre ++ [z]) ++ _ = parts a b := (List.append_assoc _ _ _).trans hpre
      first | refine Branch.no rfl ?_ | skip
      refine LoadA.mk ⟨[.int .i64 x.a, .int .i64 x.b, .int .i64 x.c, .int .i64 x.d, .int .i64 x.e, .int .i64 x.f], ⟨rfl, by decide, (by simp <;> omega), (sitX.go hn0 (hJ _) hF).ha.cells⟩, ?_⟩
      apply CallI.use1
      focus (exact fun w6 h6 => mwith_any x k hlt (Zo.get b k) w6)
      intro w6 v6 h6 hB6
      have hF := h6.from sitX.below hF (fun b hb => by simp at hb <;> omega)
      have hF := hF.trans (hB6.mono hF.size)
      have hXV := hF.size
      rw [hyy]
      refine NewI.mk fun b2 hb2 => ?_
      have hb2 : v6.heap.size ≤ b2 := hb2
      refine Branch.mk (fun hc4 => ?_) (fun hc4 => ?_)
      ·have h6y : y.2 = 6 := by simpa using hc4
       rw [if_pos h6y, List.append_nil] at hpre
       exact EndI.mk fun w9 h9 => .inl ⟨_, rfl, by rw [← hpre]; exact (sitX.go hn0 (hJ _) (h9.from sitX.below hF (fun b hb => by simp at hb <;> omega))).j⟩
      have h6y : ¬ y.2 = 6 := by simpa using hc4
      rw [if_neg h6y] at hpre
      refine Need.mk rfl ?_
      refine ⟨fun w7 h7 => ?_⟩
      have hF7 := h7.from sitX.below hF (fun b hb => by simp at hb <;> omega)
      have sit7 := sitX.go hn0 (hJ _) hF7
      refine ⟨Ba, 0, _, _, rfl, sit7.ha, by simp, ⟨below_setRow (Below.refl _ _) ha0 _, fun b hb => setRow_other _ _ _ _ (by simp at hb <;> omega)⟩, ?_⟩
      generalize hw8 : w7.setRow Ba _ = w8
      have sit8 : Sit n₀ Ba Bb W y.1 b (J (pre ++ [z])) w8 := by
       rw [← hw8]
       exact ⟨below_setRow sit7.below ha0 _, by rw [setRow_size]; exact sit7.size, setRow_heap _ _ _ _ _ _ sit7.ha, (setRow_other _ _ _ _ (fun e => hab e.symm)).trans sit7.hb, hJ _ _ _ sit7.j (grown_setRow _ _ _)⟩
      clear hw8
      refine Branch.mk (fun hc5 => ?_) (fun hc5 => ?_)
      ·have h0y : ¬ y.2 = 0 := by simpa using hc5
       rw [if_neg h0y] at hpre
       refine LoadA.mk ⟨[.int .i64 y.1.a, .int .i64 y.1.b, .int .i64 y.1.c, .int .i64 y.1.d, .int .i64 y.1.e, .int .i64 y.1.f], ⟨rfl, by decide, (by simp <;> omega), sit8.ha.cells⟩, ?_⟩
       refine ⟨fun w5 h5 => ?_⟩
       have sit5 := sit8.at hn0 (hJ _) h5 (fun b hb => by simp at hb <;> omega)
       refine (hY (pre ++ [z]) y w5 sit5.j (by have h12 := congrArg List.length hpre; have := parts_len a b; simp only [List.length_append, List.length_cons] at h12; (try simp only [List.length_append, List.length_cons, List.length_nil]); omega)).mono ?_
       rintro e v5 (⟨rfl, hj5, hk5⟩ | ⟨rfl, hx5, hk5⟩)
       ·refine ⟨_, rfl, sit5.below.trans hk5.1, ?_⟩
        have sitX : Sit n₀ Ba Bb W y.1 b (J (pre ++ [z] ++ [y])) v5 := ⟨sit5.below.trans hk5.1, Nat.le_trans sit5.size hk5.1.size, sit5.ha.same hk5.2.1, sit5.hb.same hk5.2.2, hj5⟩
        have hF := Below.refl v5.heap.size v5
        have hBaX := sitX.ha.lt
        have hpre : (pre ++ [z] ++ [y]) ++ _ = parts a b := (List.append_assoc _ _ _).trans hpre
        first | refine Branch.no rfl ?_ | skip
        refine Need.mk (by simp only [inK]; omega) (EndI.mk fun w11 h11 => ⟨((k + 1, y.1, pre ++ [z] ++ [y]), w11), Cov.au rfl rfl rfl rfl rfl, rfl, ?_, by simp only; omega⟩)
        have sit11 := sitX.at hn0 (hJ _) h11 (fun b hb => by simp at hb <;> omega)
        exact ⟨hlt, sit11.below, sit11.size, sit11.ha, sit11.hb, sit11.j, by first | exact hpre | (rw [List.append_assoc]; exact hpre)⟩
       ·refine ⟨_, rfl, sit5.below.trans hk5, ?_⟩
        first | refine Branch.yes rfl ?_ | skip
        exact EndI.mk fun w9 h9 => .inr ⟨pre ++ [z] ++ [y], ⟨_, (List.append_assoc _ _ _).trans hpre⟩, hJx _ _ _ hx5 (at_grown h9 (by simp) _)⟩
      ·have h0y : y.2 = 0 := by simpa using hc5
       rw [if_pos h0y, List.nil_append] at hpre
       first | refine Branch.no rfl ?_ | skip
       refine Need.mk (by simp only [inK]; omega) (EndI.mk fun w11 h11 => ⟨((k + 1, y.1, pre ++ [z]), w11), Cov.au rfl rfl rfl rfl rfl, rfl, ?_, by simp only; omega⟩)
       have sit11 := sit8.at hn0 (hJ _) h11 (fun b hb => by simp at hb <;> omega)
       exact ⟨hlt, sit11.below, sit11.size, sit11.ha, sit11.hb, sit11.j, by first | exact hpre | (rw [List.append_assoc]; exact hpre)⟩
     ·refine ⟨_, rfl, sit5.below.trans hk5, ?_⟩
      first | refine Branch.yes rfl ?_ | skip
      exact EndI.mk fun w9 h9 => .inr ⟨pre ++ [z], ⟨_, (List.append_assoc _ _ _).trans hpre⟩, hJx _ _ _ hx5 (at_grown h9 (by simp) _)⟩
    ·have h6 : z.2 = 6 := by simpa using hc3
     rw [if_pos h6, List.nil_append] at hpre
     have sitX := S2
     first | refine Branch.no rfl ?_ | skip
     refine LoadA.mk ⟨[.int .i64 x.a, .int .i64 x.b, .int .i64 x.c, .int .i64 x.d, .int .i64 x.e, .int .i64 x.f], ⟨rfl, by decide, (by simp <;> omega), (sitX.go hn0 (hJ _) hF).ha.cells⟩, ?_⟩
     apply CallI.use1
     focus (exact fun w6 h6 => mwith_any x k hlt (Zo.get b k) w6)
     intro w6 v6 h6 hB6
     have hF := h6.from sitX.below hF (fun b hb => by simp at hb <;> omega)
     have hF := hF.trans (hB6.mono hF.size)
     have hXV := hF.size
     rw [hyy]
     refine NewI.mk fun b2 hb2 => ?_
     have hb2 : v6.heap.size ≤ b2 := hb2
     refine Branch.mk (fun hc4 => ?_) (fun hc4 => ?_)
     ·have h6y : y.2 = 6 := by simpa using hc4
      rw [if_pos h6y, List.append_nil] at hpre
      exact EndI.mk fun w9 h9 => .inl ⟨_, rfl, by rw [← hpre]; exact (sitX.go hn0 (hJ _) (h9.from sitX.below hF (fun b hb => by simp at hb <;> omega))).j⟩
     have h6y : ¬ y.2 = 6 := by simpa using hc4
     rw [if_neg h6y] at hpre
     refine Need.mk rfl ?_
     refine ⟨fun w7 h7 => ?_⟩
     have hF7 := h7.from sitX.below hF (fun b hb => by simp at hb <;> omega)
     have sit7 := sitX.go hn0 (hJ _) hF7
     refine ⟨Ba, 0, _, _, rfl, sit7.ha, by simp, ⟨below_setRow (Below.refl _ _) ha0 _, fun b hb => setRow_other _ _ _ _ (by simp at hb <;> omega)⟩, ?_⟩
     generalize hw8 : w7.setRow Ba _ = w8
     have sit8 : Sit n₀ Ba Bb W y.1 b (J (pre)) w8 := by
      rw [← hw8]
      exact ⟨below_setRow sit7.below ha0 _, by rw [setRow_size]; exact sit7.size, setRow_heap _ _ _ _ _ _ sit7.ha, (setRow_other _ _ _ _ (fun e => hab e.symm)).trans sit7.hb, hJ _ _ _ sit7.j (grown_setRow _ _ _)⟩
     clear hw8
     refine Branch.mk (fun hc5 => ?_) (fun hc5 => ?_)
     ·have h0y : ¬ y.2 = 0 := by simpa using hc5
      rw [if_neg h0y] at hpre
      refine LoadA.mk ⟨[.int .i64 y.1.a, .int .i64 y.1.b, .int .i64 y.1.c, .int .i64 y.1.d, .int .i64 y.1.e, .int .i64 y.1.f], ⟨rfl, by decide, (by simp <;> omega), sit8.ha.cells⟩, ?_⟩
      refine ⟨fun w5 h5 => ?_⟩
      have sit5 := sit8.at hn0 (hJ _) h5 (fun b hb => by simp at hb <;> omega)
      refine (hY (pre) y w5 sit5.j (by have h12 := congrArg List.length hpre; have := parts_len a b; simp only [List.length_append, List.length_cons] at h12; (try simp only [List.length_append, List.length_cons, List.length_nil]); omega)).mono ?_
      rintro e v5 (⟨rfl, hj5, hk5⟩ | ⟨rfl, hx5, hk5⟩)
      ·refine ⟨_, rfl, sit5.below.trans hk5.1, ?_⟩
       have sitX : Sit n₀ Ba Bb W y.1 b (J (pre ++ [y])) v5 := ⟨sit5.below.trans hk5.1, Nat.le_trans sit5.size hk5.1.size, sit5.ha.same hk5.2.1, sit5.hb.same hk5.2.2, hj5⟩
       have hF := Below.refl v5.heap.size v5
       have hBaX := sitX.ha.lt
       have hpre : (pre ++ [y]) ++ _ = parts a b := (List.append_assoc _ _ _).trans hpre
       first | refine Branch.no rfl ?_ | skip
       refine Need.mk (by simp only [inK]; omega) (EndI.mk fun w11 h11 => ⟨((k + 1, y.1, pre ++ [y]), w11), Cov.au rfl rfl rfl rfl rfl, rfl, ?_, by simp only; omega⟩)
       have sit11 := sitX.at hn0 (hJ _) h11 (fun b hb => by simp at hb <;> omega)
       exact ⟨hlt, sit11.below, sit11.size, sit11.ha, sit11.hb, sit11.j, by first | exact hpre | (rw [List.append_assoc]; exact hpre)⟩
      ·refine ⟨_, rfl, sit5.below.trans hk5, ?_⟩
       first | refine Branch.yes rfl ?_ | skip
       exact EndI.mk fun w9 h9 => .inr ⟨pre ++ [y], ⟨_, (List.append_assoc _ _ _).trans hpre⟩, hJx _ _ _ hx5 (at_grown h9 (by simp) _)⟩
     ·have h0y : y.2 = 0 := by simpa using hc5
      rw [if_pos h0y, List.nil_append] at hpre
      first | refine Branch.no rfl ?_ | skip
      refine Need.mk (by simp only [inK]; omega) (EndI.mk fun w11 h11 => ⟨((k + 1, y.1, pre), w11), Cov.au rfl rfl rfl rfl rfl, rfl, ?_, by simp only; omega⟩)
      have sit11 := sit8.at hn0 (hJ _) h11 (fun b hb => by simp at hb <;> omega)
      exact ⟨hlt, sit11.below, sit11.size, sit11.ha, sit11.hb, sit11.j, by first | exact hpre | (rw [List.append_assoc]; exact hpre)⟩
   ·skip
    refine NewI.mk fun b1 hb1 => ?_
    have hb1 : v3.heap.size ≤ b1 := hb1
    apply CallI.use1
    focus (exact fun w4 h4 => mwith_any x (other k) (by unfold other; split <;> omega) (Bd.not (Zo.get b k)).1 w4)
    intro w4 v4 h4 hB4
    have hF := h4.from S2.below hF (fun b hb => by simp at hb <;> omega)
    have hF := hF.trans (hB4.mono hF.size)
    have hXV4 := hF.size
    rw [hzz]
    refine Branch.mk (fun hc3 => ?_) (fun hc3 => ?_)
    ·have h6 : ¬ z.2 = 6 := by simpa using hc3
     rw [if_neg h6] at hpre
     refine ⟨fun w5 h5 => ?_⟩
     have hF := h5.from S2.below hF (fun b hb => by simp at hb <;> omega)
     have sit5 := S2.go hn0 (hJ pre) hF
     refine (hY (pre) z w5 sit5.j (by have h12 := congrArg List.length hpre; have := parts_len a b; simp only [List.length_append, List.length_cons] at h12; (try simp only [List.length_append, List.length_cons, List.length_nil]); omega)).mono ?_
     rintro e v5 (⟨rfl, hj5, hk5⟩ | ⟨rfl, hx5, hk5⟩)
     ·refine ⟨_, rfl, sit5.below.trans hk5.1, ?_⟩
      have sitX : Sit n₀ Ba Bb W x b (J (pre ++ [z])) v5 := ⟨sit5.below.trans hk5.1, Nat.le_trans sit5.size hk5.1.size, sit5.ha.same hk5.2.1, sit5.hb.same hk5.2.2, hj5⟩
      have hF := Below.refl v5.heap.size v5
      have hBaX := sitX.ha.lt
      have hpre : (pre ++ [z]) ++ _ = parts a b := (List.append_assoc _ _ _).trans hpre
      first | refine Branch.no rfl ?_ | skip
      refine LoadA.mk ⟨[.int .i64 x.a, .int .i64 x.b, .int .i64 x.c, .int .i64 x.d, .int .i64 x.e, .int .i64 x.f], ⟨rfl, by decide, (by simp <;> omega), (sitX.go hn0 (hJ _) hF).ha.cells⟩, ?_⟩
      apply CallI.use1
      focus (exact fun w6 h6 => mwith_any x k hlt (Zo.get b k) w6)
      intro w6 v6 h6 hB6
      have hF := h6.from sitX.below hF (fun b hb => by simp at hb <;> omega)
      have hF := hF.trans (hB6.mono hF.size)
      have hXV := hF.size
      rw [hyy]
      refine NewI.mk fun b2 hb2 => ?_
      have hb2 : v6.heap.size ≤ b2 := hb2
      refine Branch.mk (fun hc4 => ?_) (fun hc4 => ?_)
      ·have h6y : y.2 = 6 := by simpa using hc4
       rw [if_pos h6y, List.append_nil] at hpre
       exact EndI.mk fun w9 h9 => .inl ⟨_, rfl, by rw [← hpre]; exact (sitX.go hn0 (hJ _) (h9.from sitX.below hF (fun b hb => by simp at hb <;> omega))).j⟩
      have h6y : ¬ y.2 = 6 := by simpa using hc4
      rw [if_neg h6y] at hpre
      refine Need.mk rfl ?_
      refine ⟨fun w7 h7 => ?_⟩
      have hF7 := h7.from sitX.below hF (fun b hb => by simp at hb <;> omega)
      have sit7 := sitX.go hn0 (hJ _) hF7
      refine ⟨Ba, 0, _, _, rfl, sit7.ha, by simp, ⟨below_setRow (Below.refl _ _) ha0 _, fun b hb => setRow_other _ _ _ _ (by simp at hb <;> omega)⟩, ?_⟩
      generalize hw8 : w7.setRow Ba _ = w8
      have sit8 : Sit n₀ Ba Bb W y.1 b (J (pre ++ [z])) w8 := by
       rw [← hw8]
       exact ⟨below_setRow sit7.below ha0 _, by rw [setRow_size]; exact sit7.size, setRow_heap _ _ _ _ _ _ sit7.ha, (setRow_other _ _ _ _ (fun e => hab e.symm)).trans sit7.hb, hJ _ _ _ sit7.j (grown_setRow _ _ _)⟩
      clear hw8
      refine Branch.mk (fun hc5 => ?_) (fun hc5 => ?_)
      ·have h0y : ¬ y.2 = 0 := by simpa using hc5
       rw [if_neg h0y] at hpre
       refine LoadA.mk ⟨[.int .i64 y.1.a, .int .i64 y.1.b, .int .i64 y.1.c, .int .i64 y.1.d, .int .i64 y.1.e, .int .i64 y.1.f], ⟨rfl, by decide, (by simp <;> omega), sit8.ha.cells⟩, ?_⟩
       refine ⟨fun w5 h5 => ?_⟩
       have sit5 := sit8.at hn0 (hJ _) h5 (fun b hb => by simp at hb <;> omega)
       refine (hY (pre ++ [z]) y w5 sit5.j (by have h12 := congrArg List.length hpre; have := parts_len a b; simp only [List.length_append, List.length_cons] at h12; (try simp only [List.length_append, List.length_cons, List.length_nil]); omega)).mono ?_
       rintro e v5 (⟨rfl, hj5, hk5⟩ | ⟨rfl, hx5, hk5⟩)
       ·refine ⟨_, rfl, sit5.below.trans hk5.1, ?_⟩
        have sitX : Sit n₀ Ba Bb W y.1 b (J (pre ++ [z] ++ [y])) v5 := ⟨sit5.below.trans hk5.1, Nat.le_trans sit5.size hk5.1.size, sit5.ha.same hk5.2.1, sit5.hb.same hk5.2.2, hj5⟩
        have hF := Below.refl v5.heap.size v5
        have hBaX := sitX.ha.lt
        have hpre : (pre ++ [z] ++ [y]) ++ _ = parts a b := (List.append_assoc _ _ _).trans hpre
        first | refine Branch.no rfl ?_ | skip
        refine Need.mk (by simp only [inK]; omega) (EndI.mk fun w11 h11 => ⟨((k + 1, y.1, pre ++ [z] ++ [y]), w11), Cov.au rfl rfl rfl rfl rfl, rfl, ?_, by simp only; omega⟩)
        have sit11 := sitX.at hn0 (hJ _) h11 (fun b hb => by simp at hb <;> omega)
        exact ⟨hlt, sit11.below, sit11.size, sit11.ha, sit11.hb, sit11.j, by first | exact hpre | (rw [List.append_assoc]; exact hpre)⟩
       ·refine ⟨_, rfl, sit5.below.trans hk5, ?_⟩
        first | refine Branch.yes rfl ?_ | skip
        exact EndI.mk fun w9 h9 => .inr ⟨pre ++ [z] ++ [y], ⟨_, (List.append_assoc _ _ _).trans hpre⟩, hJx _ _ _ hx5 (at_grown h9 (by simp) _)⟩
      ·have h0y : y.2 = 0 := by simpa using hc5
       rw [if_pos h0y, List.nil_append] at hpre
       first | refine Branch.no rfl ?_ | skip
       refine Need.mk (by simp only [inK]; omega) (EndI.mk fun w11 h11 => ⟨((k + 1, y.1, pre ++ [z]), w11), Cov.au rfl rfl rfl rfl rfl, rfl, ?_, by simp only; omega⟩)
       have sit11 := sit8.at hn0 (hJ _) h11 (fun b hb => by simp at hb <;> omega)
       exact ⟨hlt, sit11.below, sit11.size, sit11.ha, sit11.hb, sit11.j, by first | exact hpre | (rw [List.append_assoc]; exact hpre)⟩
     ·refine ⟨_, rfl, sit5.below.trans hk5, ?_⟩
      first | refine Branch.yes rfl ?_ | skip
      exact EndI.mk fun w9 h9 => .inr ⟨pre ++ [z], ⟨_, (List.append_assoc _ _ _).trans hpre⟩, hJx _ _ _ hx5 (at_grown h9 (by simp) _)⟩
    ·have h6 : z.2 = 6 := by simpa using hc3
     rw [if_pos h6, List.nil_append] at hpre
     have sitX := S2
     first | refine Branch.no rfl ?_ | skip
     refine LoadA.mk ⟨[.int .i64 x.a, .int .i64 x.b, .int .i64 x.c, .int .i64 x.d, .int .i64 x.e, .int .i64 x.f], ⟨rfl, by decide, (by simp <;> omega), (sitX.go hn0 (hJ _) hF).ha.cells⟩, ?_⟩
     apply CallI.use1
     focus (exact fun w6 h6 => mwith_any x k hlt (Zo.get b k) w6)
     intro w6 v6 h6 hB6
     have hF := h6.from sitX.below hF (fun b hb => by simp at hb <;> omega)
     have hF := hF.trans (hB6.mono hF.size)
     have hXV := hF.size
     rw [hyy]
     refine NewI.mk fun b2 hb2 => ?_
     have hb2 : v6.heap.size ≤ b2 := hb2
     refine Branch.mk (fun hc4 => ?_) (fun hc4 => ?_)
     ·have h6y : y.2 = 6 := by simpa using hc4
      rw [if_pos h6y, List.append_nil] at hpre
      exact EndI.mk fun w9 h9 => .inl ⟨_, rfl, by rw [← hpre]; exact (sitX.go hn0 (hJ _) (h9.from sitX.below hF (fun b hb => by simp at hb <;> omega))).j⟩
     have h6y : ¬ y.2 = 6 := by simpa using hc4
     rw [if_neg h6y] at hpre
     refine Need.mk rfl ?_
     refine ⟨fun w7 h7 => ?_⟩
     have hF7 := h7.from sitX.below hF (fun b hb => by simp at hb <;> omega)
     have sit7 := sitX.go hn0 (hJ _) hF7
     refine ⟨Ba, 0, _, _, rfl, sit7.ha, by simp, ⟨below_setRow (Below.refl _ _) ha0 _, fun b hb => setRow_other _ _ _ _ (by simp at hb <;> omega)⟩, ?_⟩
     generalize hw8 : w7.setRow Ba _ = w8
     have sit8 : Sit n₀ Ba Bb W y.1 b (J (pre)) w8 := by
      rw [← hw8]
      exact ⟨below_setRow sit7.below ha0 _, by rw [setRow_size]; exact sit7.size, setRow_heap _ _ _ _ _ _ sit7.ha, (setRow_other _ _ _ _ (fun e => hab e.symm)).trans sit7.hb, hJ _ _ _ sit7.j (grown_setRow _ _ _)⟩
     clear hw8
     refine Branch.mk (fun hc5 => ?_) (fun hc5 => ?_)
     ·have h0y : ¬ y.2 = 0 := by simpa using hc5
      rw [if_neg h0y] at hpre
      refine LoadA.mk ⟨[.int .i64 y.1.a, .int .i64 y.1.b, .int .i64 y.1.c, .int .i64 y.1.d, .int .i64 y.1.e, .int .i64 y.1.f], ⟨rfl, by decide, (by simp <;> omega), sit8.ha.cells⟩, ?_⟩
      refine ⟨fun w5 h5 => ?_⟩
      have sit5 := sit8.at hn0 (hJ _) h5 (fun b hb => by simp at hb <;> omega)
      refine (hY (pre) y w5 sit5.j (by have h12 := congrArg List.length hpre; have := parts_len a b; simp only [List.length_append, List.length_cons] at h12; (try simp only [List.length_append, List.length_cons, List.length_nil]); omega)).mono ?_
      rintro e v5 (⟨rfl, hj5, hk5⟩ | ⟨rfl, hx5, hk5⟩)
      ·refine ⟨_, rfl, sit5.below.trans hk5.1, ?_⟩
       have sitX : Sit n₀ Ba Bb W y.1 b (J (pre ++ [y])) v5 := ⟨sit5.below.trans hk5.1, Nat.le_trans sit5.size hk5.1.size, sit5.ha.same hk5.2.1, sit5.hb.same hk5.2.2, hj5⟩
       have hF := Below.refl v5.heap.size v5
       have hBaX := sitX.ha.lt
       have hpre : (pre ++ [y]) ++ _ = parts a b := (List.append_assoc _ _ _).trans hpre
       first | refine Branch.no rfl ?_ | skip
       refine Need.mk (by simp only [inK]; omega) (EndI.mk fun w11 h11 => ⟨((k + 1, y.1, pre ++ [y]), w11), Cov.au rfl rfl rfl rfl rfl, rfl, ?_, by simp only; omega⟩)
       have sit11 := sitX.at hn0 (hJ _) h11 (fun b hb => by simp at hb <;> omega)
       exact ⟨hlt, sit11.below, sit11.size, sit11.ha, sit11.hb, sit11.j, by first | exact hpre | (rw [List.append_assoc]; exact hpre)⟩
      ·refine ⟨_, rfl, sit5.below.trans hk5, ?_⟩
       first | refine Branch.yes rfl ?_ | skip
       exact EndI.mk fun w9 h9 => .inr ⟨pre ++ [y], ⟨_, (List.append_assoc _ _ _).trans hpre⟩, hJx _ _ _ hx5 (at_grown h9 (by simp) _)⟩
     ·have h0y : y.2 = 0 := by simpa using hc5
      rw [if_pos h0y, List.nil_append] at hpre
      first | refine Branch.no rfl ?_ | skip
      refine Need.mk (by simp only [inK]; omega) (EndI.mk fun w11 h11 => ⟨((k + 1, y.1, pre), w11), Cov.au rfl rfl rfl rfl rfl, rfl, ?_, by simp only; omega⟩)
      have sit11 := sit8.at hn0 (hJ _) h11 (fun b hb => by simp at hb <;> omega)
      exact ⟨hlt, sit11.below, sit11.size, sit11.ha, sit11.hb, sit11.j, by first | exact hpre | (rw [List.append_assoc]; exact hpre)⟩
  ·skip
   refine NewI.mk fun b1 hb1 => ?_
   have hb1 : w2.heap.size ≤ b1 := hb1
   apply CallI.use1
   focus (exact fun w3 h3 => mother_any k hlt w3)
   intro w3 v3 h3 hB3
   have hF := h3.from S2.below hF (fun b hb => by simp at hb <;> omega)
   have hF := hF.trans (hB3.mono hF.size)
   have hXV3 := hF.size
   apply CallI.use1
   focus (exact fun w4 h4 => mwith_any x (other k) (by unfold other; split <;> omega) (Bd.not (Zo.get b k)).1 w4)
   intro w4 v4 h4 hB4
   have hF := h4.from S2.below hF (fun b hb => by simp at hb <;> omega)
   have hF := hF.trans (hB4.mono hF.size)
   have hXV4 := hF.size
   rw [hzz]
   refine Branch.mk (fun hc3 => ?_) (fun hc3 => ?_)
   ·have h6 : ¬ z.2 = 6 := by simpa using hc3
    rw [if_neg h6] at hpre
    refine ⟨fun w5 h5 => ?_⟩
    have hF := h5.from S2.below hF (fun b hb => by simp at hb <;> omega)
    have sit5 := S2.go hn0 (hJ pre) hF
    refine (hY (pre) z w5 sit5.j (by have h12 := congrArg List.length hpre; have := parts_len a b; simp only [List.length_append, List.length_cons] at h12; (try simp only [List.length_append, List.length_cons, List.length_nil]); omega)).mono ?_
    rintro e v5 (⟨rfl, hj5, hk5⟩ | ⟨rfl, hx5, hk5⟩)
    ·refine ⟨_, rfl, sit5.below.trans hk5.1, ?_⟩
     have sitX : Sit n₀ Ba Bb W x b (J (pre ++ [z])) v5 := ⟨sit5.below.trans hk5.1, Nat.le_trans sit5.size hk5.1.size, sit5.ha.same hk5.2.1, sit5.hb.same hk5.2.2, hj5⟩
     have hF := Below.refl v5.heap.size v5
     have hBaX := sitX.ha.lt
     have hpre : (pre ++ [z]) ++ _ = parts a b := (List.append_assoc _ _ _).trans hpre
     first | refine Branch.no rfl ?_ | skip
     refine LoadA.mk ⟨[.int .i64 x.a, .int .i64 x.b, .int .i64 x.c, .int .i64 x.d, .int .i64 x.e, .int .i64 x.f], ⟨rfl, by decide, (by simp <;> omega), (sitX.go hn0 (hJ _) hF).ha.cells⟩, ?_⟩
     apply CallI.use1
     focus (exact fun w6 h6 => mwith_any x k hlt (Zo.get b k) w6)
     intro w6 v6 h6 hB6
     have hF := h6.from sitX.below hF (fun b hb => by simp at hb <;> omega)
     have hF := hF.trans (hB6.mono hF.size)
     have hXV := hF.size
     rw [hyy]
     refine NewI.mk fun b2 hb2 => ?_
     have hb2 : v6.heap.size ≤ b2 := hb2
     refine Branch.mk (fun hc4 => ?_) (fun hc4 => ?_)
     ·have h6y : y.2 = 6 := by simpa using hc4
      rw [if_pos h6y, List.append_nil] at hpre
      exact EndI.mk fun w9 h9 => .inl ⟨_, rfl, by rw [← hpre]; exact (sitX.go hn0 (hJ _) (h9.from sitX.below hF (fun b hb => by simp at hb <;> omega))).j⟩
     have h6y : ¬ y.2 = 6 := by simpa using hc4
     rw [if_neg h6y] at hpre
     refine Need.mk rfl ?_
     refine ⟨fun w7 h7 => ?_⟩
     have hF7 := h7.from sitX.below hF (fun b hb => by simp at hb <;> omega)
     have sit7 := sitX.go hn0 (hJ _) hF7
     refine ⟨Ba, 0, _, _, rfl, sit7.ha, by simp, ⟨below_setRow (Below.refl _ _) ha0 _, fun b hb => setRow_other _ _ _ _ (by simp at hb <;> omega)⟩, ?_⟩
     generalize hw8 : w7.setRow Ba _ = w8
     have sit8 : Sit n₀ Ba Bb W y.1 b (J (pre ++ [z])) w8 := by
      rw [← hw8]
      exact ⟨below_setRow sit7.below ha0 _, by rw [setRow_size]; exact sit7.size, setRow_heap _ _ _ _ _ _ sit7.ha, (setRow_other _ _ _ _ (fun e => hab e.symm)).trans sit7.hb, hJ _ _ _ sit7.j (grown_setRow _ _ _)⟩
     clear hw8
     refine Branch.mk (fun hc5 => ?_) (fun hc5 => ?_)
     ·have h0y : ¬ y.2 = 0 := by simpa using hc5
      rw [if_neg h0y] at hpre
      refine LoadA.mk ⟨[.int .i64 y.1.a, .int .i64 y.1.b, .int .i64 y.1.c, .int .i64 y.1.d, .int .i64 y.1.e, .int .i64 y.1.f], ⟨rfl, by decide, (by simp <;> omega), sit8.ha.cells⟩, ?_⟩
      refine ⟨fun w5 h5 => ?_⟩
      have sit5 := sit8.at hn0 (hJ _) h5 (fun b hb => by simp at hb <;> omega)
      refine (hY (pre ++ [z]) y w5 sit5.j (by have h12 := congrArg List.length hpre; have := parts_len a b; simp only [List.length_append, List.length_cons] at h12; (try simp only [List.length_append, List.length_cons, List.length_nil]); omega)).mono ?_
      rintro e v5 (⟨rfl, hj5, hk5⟩ | ⟨rfl, hx5, hk5⟩)
      ·refine ⟨_, rfl, sit5.below.trans hk5.1, ?_⟩
       have sitX : Sit n₀ Ba Bb W y.1 b (J (pre ++ [z] ++ [y])) v5 := ⟨sit5.below.trans hk5.1, Nat.le_trans sit5.size hk5.1.size, sit5.ha.same hk5.2.1, sit5.hb.same hk5.2.2, hj5⟩
       have hF := Below.refl v5.heap.size v5
       have hBaX := sitX.ha.lt
       have hpre : (pre ++ [z] ++ [y]) ++ _ = parts a b := (List.append_assoc _ _ _).trans hpre
       first | refine Branch.no rfl ?_ | skip
       refine Need.mk (by simp only [inK]; omega) (EndI.mk fun w11 h11 => ⟨((k + 1, y.1, pre ++ [z] ++ [y]), w11), Cov.au rfl rfl rfl rfl rfl, rfl, ?_, by simp only; omega⟩)
       have sit11 := sitX.at hn0 (hJ _) h11 (fun b hb => by simp at hb <;> omega)
       exact ⟨hlt, sit11.below, sit11.size, sit11.ha, sit11.hb, sit11.j, by first | exact hpre | (rw [List.append_assoc]; exact hpre)⟩
      ·refine ⟨_, rfl, sit5.below.trans hk5, ?_⟩
       first | refine Branch.yes rfl ?_ | skip
       exact EndI.mk fun w9 h9 => .inr ⟨pre ++ [z] ++ [y], ⟨_, (List.append_assoc _ _ _).trans hpre⟩, hJx _ _ _ hx5 (at_grown h9 (by simp) _)⟩
     ·have h0y : y.2 = 0 := by simpa using hc5
      rw [if_pos h0y, List.nil_append] at hpre
      first | refine Branch.no rfl ?_ | skip
      refine Need.mk (by simp only [inK]; omega) (EndI.mk fun w11 h11 => ⟨((k + 1, y.1, pre ++ [z]), w11), Cov.au rfl rfl rfl rfl rfl, rfl, ?_, by simp only; omega⟩)
      have sit11 := sit8.at hn0 (hJ _) h11 (fun b hb => by simp at hb <;> omega)
      exact ⟨hlt, sit11.below, sit11.size, sit11.ha, sit11.hb, sit11.j, by first | exact hpre | (rw [List.append_assoc]; exact hpre)⟩
    ·refine ⟨_, rfl, sit5.below.trans hk5, ?_⟩
     first | refine Branch.yes rfl ?_ | skip
     exact EndI.mk fun w9 h9 => .inr ⟨pre ++ [z], ⟨_, (List.append_assoc _ _ _).trans hpre⟩, hJx _ _ _ hx5 (at_grown h9 (by simp) _)⟩
   ·have h6 : z.2 = 6 := by simpa using hc3
    rw [if_pos h6, List.nil_append] at hpre
    have sitX := S2
    first | refine Branch.no rfl ?_ | skip
    refine LoadA.mk ⟨[.int .i64 x.a, .int .i64 x.b, .int .i64 x.c, .int .i64 x.d, .int .i64 x.e, .int .i64 x.f], ⟨rfl, by decide, (by simp <;> omega), (sitX.go hn0 (hJ _) hF).ha.cells⟩, ?_⟩
    apply CallI.use1
    focus (exact fun w6 h6 => mwith_any x k hlt (Zo.get b k) w6)
    intro w6 v6 h6 hB6
    have hF := h6.from sitX.below hF (fun b hb => by simp at hb <;> omega)
    have hF := hF.trans (hB6.mono hF.size)
    have hXV := hF.size
    rw [hyy]
    refine NewI.mk fun b2 hb2 => ?_
    have hb2 : v6.heap.size ≤ b2 := hb2
    refine Branch.mk (fun hc4 => ?_) (fun hc4 => ?_)
    ·have h6y : y.2 = 6 := by simpa using hc4
     rw [if_pos h6y, List.append_nil] at hpre
     exact EndI.mk fun w9 h9 => .inl ⟨_, rfl, by rw [← hpre]; exact (sitX.go hn0 (hJ _) (h9.from sitX.below hF (fun b hb => by simp at hb <;> omega))).j⟩
    have h6y : ¬ y.2 = 6 := by simpa using hc4
    rw [if_neg h6y] at hpre
    refine Need.mk rfl ?_
    refine ⟨fun w7 h7 => ?_⟩
    have hF7 := h7.from sitX.below hF (fun b hb => by simp at hb <;> omega)
    have sit7 := sitX.go hn0 (hJ _) hF7
    refine ⟨Ba, 0, _, _, rfl, sit7.ha, by simp, ⟨below_setRow (Below.refl _ _) ha0 _, fun b hb => setRow_other _ _ _ _ (by simp at hb <;> omega)⟩, ?_⟩
    generalize hw8 : w7.setRow Ba _ = w8
    have sit8 : Sit n₀ Ba Bb W y.1 b (J (pre)) w8 := by
     rw [← hw8]
     exact ⟨below_setRow sit7.below ha0 _, by rw [setRow_size]; exact sit7.size, setRow_heap _ _ _ _ _ _ sit7.ha, (setRow_other _ _ _ _ (fun e => hab e.symm)).trans sit7.hb, hJ _ _ _ sit7.j (grown_setRow _ _ _)⟩
    clear hw8
    refine Branch.mk (fun hc5 => ?_) (fun hc5 => ?_)
    ·have h0y : ¬ y.2 = 0 := by simpa using hc5
     rw [if_neg h0y] at hpre
     refine LoadA.mk ⟨[.int .i64 y.1.a, .int .i64 y.1.b, .int .i64 y.1.c, .int .i64 y.1.d, .int .i64 y.1.e, .int .i64 y.1.f], ⟨rfl, by decide, (by simp <;> omega), sit8.ha.cells⟩, ?_⟩
     refine ⟨fun w5 h5 => ?_⟩
     have sit5 := sit8.at hn0 (hJ _) h5 (fun b hb => by simp at hb <;> omega)
     refine (hY (pre) y w5 sit5.j (by have h12 := congrArg List.length hpre; have := parts_len a b; simp only [List.length_append, List.length_cons] at h12; (try simp only [List.length_append, List.length_cons, List.length_nil]); omega)).mono ?_
     rintro e v5 (⟨rfl, hj5, hk5⟩ | ⟨rfl, hx5, hk5⟩)
     ·refine ⟨_, rfl, sit5.below.trans hk5.1, ?_⟩
      have sitX : Sit n₀ Ba Bb W y.1 b (J (pre ++ [y])) v5 := ⟨sit5.below.trans hk5.1, Nat.le_trans sit5.size hk5.1.size, sit5.ha.same hk5.2.1, sit5.hb.same hk5.2.2, hj5⟩
      have hF := Below.refl v5.heap.size v5
      have hBaX := sitX.ha.lt
      have hpre : (pre ++ [y]) ++ _ = parts a b := (List.append_assoc _ _ _).trans hpre
      first | refine Branch.no rfl ?_ | skip
      refine Need.mk (by simp only [inK]; omega) (EndI.mk fun w11 h11 => ⟨((k + 1, y.1, pre ++ [y]), w11), Cov.au rfl rfl rfl rfl rfl, rfl, ?_, by simp only; omega⟩)
      have sit11 := sitX.at hn0 (hJ _) h11 (fun b hb => by simp at hb <;> omega)
      exact ⟨hlt, sit11.below, sit11.size, sit11.ha, sit11.hb, sit11.j, by first | exact hpre | (rw [List.append_assoc]; exact hpre)⟩
     ·refine ⟨_, rfl, sit5.below.trans hk5, ?_⟩
      first | refine Branch.yes rfl ?_ | skip
      exact EndI.mk fun w9 h9 => .inr ⟨pre ++ [y], ⟨_, (List.append_assoc _ _ _).trans hpre⟩, hJx _ _ _ hx5 (at_grown h9 (by simp) _)⟩
    ·have h0y : y.2 = 0 := by simpa using hc5
     rw [if_pos h0y, List.nil_append] at hpre
     first | refine Branch.no rfl ?_ | skip
     refine Need.mk (by simp only [inK]; omega) (EndI.mk fun w11 h11 => ⟨((k + 1, y.1, pre), w11), Cov.au rfl rfl rfl rfl rfl, rfl, ?_, by simp only; omega⟩)
     have sit11 := sit8.at hn0 (hJ _) h11 (fun b hb => by simp at hb <;> omega)
     exact ⟨hlt, sit11.below, sit11.size, sit11.ha, sit11.hb, sit11.j, by first | exact hpre | (rw [List.append_assoc]; exact hpre)⟩
 ·refine EndI.mk fun w9 h9 => .inl ⟨parts a b, rfl, ?_⟩
  have h6 : k = 6 := by have : ¬ (k : Int) < 6 := by simpa using hc
                        omega
  subst h6
  simp only [List.drop, go, List.append_nil] at hpre
  rw [← hpre]
  exact hJ _ _ _ hj (at_grown h9 (by simp) _)
namespace Mi
def minus (a b : Zn) : List Zn × Int :=
 if Zo.chk a = 0 ∧ Zo.chk b = 0 then (match (parts a b).find? (fun x => decide (x.2 ≠ 0)) with | some x => ([], x.2) | none => ((parts a b).map (·.1), 0)) else ([], 8)
end Mi
theorem parts_at (a b : Zn) (w : World) :
 Calls Tryz.prog 226 #[.agg #[.int .i64 a.a, .int .i64 a.b, .int .i64 a.c, .int .i64 a.d, .int .i64 a.e, .int .i64 a.f], .agg #[.int .i64 b.a, .int .i64 b.b, .int .i64 b.c, .int .i64 b.d, .int .i64 b.e, .int .i64 b.f]] w fun e w' => e = .returned (.func (.func 234) #[] #[.pointer (some ⟨w.heap.size + 1, 0, none⟩), .pointer (some ⟨w.heap.size, 0, none⟩)]) ∧ w' = (w.alloc (.cells #[.int .i64 a.a, .int .i64 a.b, .int .i64 a.c, .int .i64 a.d, .int .i64 a.e, .int .i64 a.f] 86)).alloc (.cells #[.int .i64 b.a, .int .i64 b.b, .int .i64 b.c, .int .i64 b.d, .int .i64 b.e, .int .i64 b.f] 86) := by
 go_enter Tryz.func226, Tryz.ntmps226
 go_wp2
 go_ret
 exact ⟨by simp, rfl⟩
open Mi in
theorem parts_any (a b : Zn) (w : World) :
 Calls Tryz.prog 226 #[.agg #[.int .i64 a.a, .int .i64 a.b, .int .i64 a.c, .int .i64 a.d, .int .i64 a.e, .int .i64 a.f], .agg #[.int .i64 b.a, .int .i64 b.b, .int .i64 b.c, .int .i64 b.d, .int .i64 b.e, .int .i64 b.f]] w (Ret w fun v w' => ∃ Ba Bb, v = .func (.func 234) #[] #[.pointer (some ⟨Bb, 0, none⟩), .pointer (some ⟨Ba, 0, none⟩)] ∧ w.heap.size ≤ Ba ∧ w.heap.size ≤ Bb ∧ Ba ≠ Bb ∧ Holds w' Ba a ∧ Holds w' Bb b) :=
 (parts_at a b w).mono fun e w' ⟨he, hw⟩ => ⟨_, he, by rw [hw]; exact ((Below.refl _ _).alloc (Nat.le_refl _) _).alloc (by simp) _, w.heap.size, w.heap.size + 1, rfl, Nat.le_refl _, by omega, by omega, by
   rw [hw]; exact (Below.heap_alloc _ _ _ (by simp)).trans (World.alloc_heap_new w _), by
   rw [hw]
   have := World.alloc_heap_new (w.alloc (.cells #[.int .i64 a.a, .int .i64 a.b, .int .i64 a.c, .int .i64 a.d, .int .i64 a.e, .int .i64 a.f] 86)) (.cells #[.int .i64 b.a, .int .i64 b.b, .int .i64 b.c, .int .i64 b.d, .int .i64 b.e, .int .i64 b.f] 86)
   rwa [World.size_alloc] at this⟩
open Mi in
theorem minus_any (a b : Zn) (w : World) :
 Calls Tryz.prog 206 #[.agg #[.int .i64 a.a, .int .i64 a.b, .int .i64 a.c, .int .i64 a.d, .int .i64 a.e, .int .i64 a.f], .agg #[.int .i64 b.a, .int .i64 b.b, .int .i64 b.c, .int .i64 b.d, .int .i64 b.e, .int .i64 b.f]] w (Ret w fun v w' => ∃ a' c', v = .tuple #[.slice a' (Mi.minus a b).1.length c', .int .i64 (Mi.minus a b).2] ∧ Own 86 w.heap.size w' (.slice a' (Mi.minus a b).1.length c') (Mi.minus a b).1) := by
 refine fun_at 9 w.heap.size w (Nat.le_refl _) Tryz.func206 (args := [.agg [.val (.int .i64 a.a), .val (.int .i64 a.b), .val (.int .i64 a.c), .val (.int .i64 a.d), .val (.int .i64 a.e), .val (.int .i64 a.f)], .agg [.val (.int .i64 b.a), .val (.int .i64 b.b), .val (.int .i64 b.c), .val (.int .i64 b.d), .val (.int .i64 b.e), .val (.int .i64 b.f)]]) rfl rfl ?_
 refine NewI.mk fun b1 hb1 => ?_
 refine NewI.mk fun b2 hb2 => ?_
 refine NewI.mk fun b3 hb3 => ?_
 refine NewI.mk fun b4 hb4 => ?_
 unfold Mi.minus
 have st := Stay.first (w := w)
 apply CallI.use1
 focus (exact fun w1 h1 => zcheck_any a w1)
 intro w1 v1 h1 hB1
 have st := st.nx h1 hB1
 refine Branch.mk (fun hc => ?_) (fun hc => ?_)
 ·have h0 : ¬ Zo.chk a = 0 := by simpa using hc
  rw [if_neg (fun h => h0 h.1)]
  exact EndI.mk fun w9 h9 => ⟨_, _, rfl, Own.nil⟩
 have h0a : Zo.chk a = 0 := by simpa using hc
 apply CallI.use1
 focus (exact fun w2 h2 => zcheck_any b w2)
 intro w2 v2 h2 hB2
 have st := st.nx h2 hB2
 refine Branch.mk (fun hc2 => ?_) (fun hc2 => ?_)
 ·have h0 : ¬ Zo.chk b = 0 := by simpa using hc2
  rw [if_neg (fun h => h0 h.2)]
  exact EndI.mk fun w9 h9 => ⟨_, _, rfl, Own.nil⟩
 have h0b : Zo.chk b = 0 := by simpa using hc2
 rw [if_pos ⟨h0a, h0b⟩]
 apply CallI.use
 focus (exact fun w3 h3 => parts_any a b w3)
 rintro v w3 v3 h3 hB3 ⟨Ba, Bb, rfl, hBa, hBb, hab, hha, hhb⟩
 have st := st.nx h3 hB3
 have hBv := hB3.size
 have e4 : w.heap.size ≤ b4 := hb4
 have lb : ∀ b, b ∈ [b1, b2, b3, b4] → b < w3.heap.size := fun b hb => h3.lt b hb
 have hw3 : w.heap.size ≤ w3.heap.size := h3.below.size
 refine RawI.mk fun ac w7 hR => ?_
 have h7 := hR.at_
 have hha7 := hha.below (at_below h7 (by simp))
 have hhb7 := hhb.below (at_below h7 (by simp))
 have hlA := hha7.lt
 have hlB := hhb7.lt
 have hv7 : v3.heap.size ≤ w7.heap.size := h7.size
 have lb7 : ∀ b, b ∈ [b1, b2, b3, b4] → b < w7.heap.size ∧ b ≠ Ba ∧ b ≠ Bb := fun b hb => by have := lb b hb; omega
 refine rangeBu cxOk (by decide) hR rfl Tryz.call234 (parts_stops 8 Ba Bb w.heap.size a b w7 hab (by omega) (by omega) hha7 hhb7) (encs := encM) hlA (by show w.heap.size ≤ Ba; omega) (fun hm => (lb7 Ba hm).2.1 rfl)
  (fun h k => ⟨h.1.trans k.1, k.2.1.trans h.2.1, k.2.2.trans h.2.2⟩) ?_ (fun x => rfl)
  (γ := Value × Int) (fun c => [⟨[.val (.int .i64 a.a), .val (.int .i64 a.b), .val (.int .i64 a.c), .val (.int .i64 a.d), .val (.int .i64 a.e), .val (.int .i64 a.f)], 86⟩, ⟨[.val (.int .i64 b.a), .val (.int .i64 b.b), .val (.int .i64 b.c), .val (.int .i64 b.d), .val (.int .i64 b.e), .val (.int .i64 b.f)], 86⟩, ⟨[.val c.1], 22⟩, ⟨[.val (.int .i64 0)], 28⟩])
  (fun (pre : List (Zn × Int)) (c : Value × Int) W => (∀ x : Zn × Int, x ∈ pre → x.2 = 0) ∧ Own 86 w7.heap.size W c.1 (pre.map (·.1))) ?_ (.slice none 0 0, 0) rfl ⟨by simp, Own.nil⟩
  (fun (c : Code) (pre : List (Zn × Int)) (q : Value × Int) (W : World) => c = .ret ∧ ∃ (pre0 : List (Zn × Int)) (x : Zn × Int), pre = pre0 ++ [x] ∧ (∀ y : Zn × Int, y ∈ pre0 → y.2 = 0) ∧ x.2 ≠ 0 ∧ q.2 = x.2)
  (fun _ q => [⟨[.val (.int .i64 a.a), .val (.int .i64 a.b), .val (.int .i64 a.c), .val (.int .i64 a.d), .val (.int .i64 a.e), .val (.int .i64 a.f)], 86⟩, ⟨[.val (.int .i64 b.a), .val (.int .i64 b.b), .val (.int .i64 b.c), .val (.int .i64 b.d), .val (.int .i64 b.e), .val (.int .i64 b.f)], 86⟩, ⟨[.val (.slice none 0 0)], 22⟩, ⟨[.val (.int .i64 q.2)], 28⟩])
  (fun c q pre A B row h hg hr => h) (fun z => [(6, .loc 4 0), (7, .val (.int .i64 z.2))]) (fun z => [⟨[.val (.int .i64 z.1.a), .val (.int .i64 z.1.b), .val (.int .i64 z.1.c), .val (.int .i64 z.1.d), .val (.int .i64 z.1.e), .val (.int .i64 z.1.f)], 86⟩]) (fun c bs => ∀ k, c.1.ownBlock = some k → k ∉ bs) ?asg ?body ?done ?stop
 case asg =>
  intro l pre z c W hΦ hBW hsW hN
  refine NewI.mk fun b5 hb5 => ?_
  refine ⟨rfl, [b5], rfl, fun k hk hm => by have := hΦ.2.lt k hk; have hb5 : W.heap.size ≤ b5 := hb5; simp at hm; omega, Need.mk ⟨rfl, rfl, rfl, rfl⟩ (EndI.mk fun w9 h9 => ?_)⟩
  have hg := at_below h9 (fun b hb => by simp at hb; subst hb; exact hb5)
  exact ⟨below_keepsFrom hg _, ⟨hg.mono (by omega), hg.block _ (by omega), hg.block _ (by omega)⟩, hΦ.1, hΦ.2.below hg⟩
 ·exact fun W l o o' hl ho h1 h2 => ⟨⟨rfl, rfl, rfl, by simp, fun k hk => World.putObj_heap_other (by omega)⟩, World.putObj_heap_other (by omega), World.putObj_heap_other (by omega)⟩
 ·rintro c pre A C row ⟨hz, hO⟩ hg hr
  refine ⟨hz, Own.kept hO hg ?_⟩
  obtain ⟨_, ⟨e, _⟩ | ⟨g, cp, cur, e, hbg, hgb, _⟩⟩ := id hO
  ·rw [e]; exact .inl rfl
  ·rw [e]
   refine .inr (fun e' => ?_)
   rcases hr g e'.symm with h | ⟨_, o, ho, hcl⟩
   ·omega
   ·rw [hgb] at ho; cases ho; cases hcl
 case body =>
  intro l pre x c bs W hbs hψ hΦ hBW hsW hN
  obtain ⟨b5, rfl⟩ := List.length_eq_one_iff.1 hbs
  obtain ⟨hz, hO⟩ := hΦ
  refine Branch.mk (fun hc3 => ?_) (fun hc3 => ?_)
  ·have hx : x.2 ≠ 0 := by simpa using hc3
   refine ⟨(c.1, x.2), Need.mk (CovH.mk rfl rfl rfl) (EndI.mk fun w9 h9 => ?_)⟩
   refine ⟨⟨h9.size, fun k o hk ho hcl => (h9.step k (Array.getElem?_eq_some_iff.1 ho).1 (fun hm => ?_)).trans ho⟩, rfl, pre, x, rfl, hz, hx, rfl⟩
   have := lb7 b3 (by simp)
   have := lb7 b4 (by simp)
   simp at hm
   omega
  ·have hx : x.2 = 0 := by simpa using hc3
   refine NewI.mk fun b6 hb6 => ?_
   have hb6' : W.heap.size ≤ b6 := hb6
   have hpl := parts_len a b
   have l3 := lb7 b3 (by simp)
   have hr : ∀ k, c.1.ownBlock = some k → w.heap.size ≤ k ∧ k ∉ [b1, b2, b3, b4, b5, b6] := fun k hk => by
    have hkk := hO.lt k hk
    have h5 := hψ k hk
    have m1 := lb7 b1 (by simp)
    have m2 := lb7 b2 (by simp)
    have m4 := lb7 b4 (by simp)
    simp at h5
    refine ⟨by omega, fun hm => ?_⟩
    simp only [List.mem_cons, List.not_mem_nil, or_false] at hm
    omega
   refine GenN.app (α := Zn) elZ (pre.map (·.1)) [x.1] w7.heap.size (fun w5 h5 => hO.below h5.go) (fun w5 h5 => src_own h5 5 rfl rfl rfl rfl) (by unfold maxLen; simp; omega) (by simp; omega) (fun w5 h5 => Nat.le_trans hsW h5.size)
    (fun w5 w6 h5 hg => keep_grown h5 hg hr) fun sv' w5 w6 h5 hg hO' => ?_
   obtain ⟨a', c', rfl⟩ := hO'.form
   refine ⟨(.slice a' ((pre.map (·.1)) ++ [x.1]).length c', 0), ?_⟩
   refine Need.mk (CovH.mk rfl rfl rfl) (EndI.mk fun w9 h9 => ?_)
   have hW9 : W.heap.size ≤ w9.heap.size := Nat.le_trans h5.size (Nat.le_trans hg.size h9.size)
   have row : ∀ k, k < w7.heap.size → c.1.ownBlock ≠ some k := fun k hk e => by have := hO.lt k e; omega
   have keep1 : ∀ k, k < W.heap.size → k ≠ b3 → c.1.ownBlock ≠ some k → w9.heap[k]? = W.heap[k]? := fun k hkW h3 hrow => by
    refine (h9.step k (Nat.lt_of_lt_of_le hkW (Nat.le_trans h5.size hg.size)) (fun hm => ?_)).trans ((hg.block k (Nat.lt_of_lt_of_le hkW h5.size) (fun e => hrow e.symm)).trans (h5.go.block k hkW))
    simp at hm; omega
   refine ⟨⟨hW9, fun k o hk7 hk hcl => ?_⟩, ⟨?_, ?_, ?_⟩, ?_, ?_⟩
   ·have hkW : k < W.heap.size := (Array.getElem?_eq_some_iff.1 hk).1
    refine (keep1 k hkW (by omega) (fun e => ?_)).trans hk
    obtain ⟨_, ⟨e0, _⟩ | ⟨g, cp, cur, e0, _, hgb, _⟩⟩ := id hO
    ·rw [e0] at e; cases e
    ·rw [e0] at e
     injection e with e
     subst e
     rw [hgb] at hk; cases hk; cases hcl
   ·exact below_between (X := w) hBW (by exact h9.below) hW9
   ·exact keep1 Ba (by omega) (by have := lb7 b3 (by simp); omega) (row Ba hlA)
   ·exact keep1 Bb (by omega) (by have := lb7 b3 (by simp); omega) (row Bb hlB)
   ·intro y hy
    rcases List.mem_append.1 hy with hy | hy
    ·exact hz y hy
    ·rw [List.mem_singleton.1 hy]; exact hx
   ·have e1 : (pre ++ [x]).map (·.1) = pre.map (·.1) ++ [x.1] := by simp
    rw [e1]
    exact hO'.at h9 (fun b hb => by simp at hb; subst hb; exact l3.1)
 case done =>
  rintro D xs c W hD hSx ⟨hz, hO⟩ hmark
  subst hSx
  have hDW : D < W.heap.size := (Array.getElem?_eq_some_iff.1 hmark).1
  have hf : (parts a b).find? (fun x => decide (x.2 ≠ 0)) = none := List.find?_eq_none.2 fun x hx => by simp [hz x hx]
  rw [hf]
  obtain ⟨a', c', hcc⟩ := hO.form
  obtain ⟨c1, c2⟩ := c
  simp only at hO hcc
  subst hcc
  have l3 := lb7 b3 (by simp)
  have l4 := lb7 b4 (by simp)
  have hDb : D ∉ [b4, b3] := fun hm => by simp at hm; omega
  refine EndM.mk fun w10 h10 => ⟨⟨Nat.le_trans (show w.heap.size ≤ w7.heap.size by omega) hD, (h10.step D hDW hDb).trans hmark⟩, fun w11 hu => ?_⟩
  have hO10 := hO.at h10 (fun b hb => by simp at hb; omega)
  refine ⟨_, _, rfl, (Own.kept (row := some D) hO10 ⟨hu.2.1, hu.2.2.1, hu.2.2.2.1, by rw [hu.1]; exact Nat.le_refl _, fun k _ hk => hu.2.2.2.2 k (fun e => hk (by rw [e]))⟩ ?_).lower (by omega)⟩
  obtain ⟨_, ⟨e, _⟩ | ⟨g, cp, cur, e, _, hgb, _⟩⟩ := id hO10
  ·rw [e]; exact .inl rfl
  ·rw [e]
   refine .inr (fun e' => ?_)
   injection e' with e'
   subst e'
   have := (h10.step _ hDW hDb).trans hmark
   rw [hgb] at this; cases this
 case stop =>
  rintro D cd e pre q W hD hSp ⟨rfl, pre0, x, rfl, hz, hx, hq⟩ hex hmark
  have hDW : D < W.heap.size := (Array.getElem?_eq_some_iff.1 hmark).1
  obtain ⟨t, ht⟩ := hSp
  have hf : (parts a b).find? (fun x => decide (x.2 ≠ 0)) = some x := by
   rw [← ht, List.append_assoc, List.find?_append, List.find?_eq_none.2 (fun y hy => by simp [hz y hy])]
   simp [hx]
  rw [hf]
  injection hex with hex
  subst hex
  refine EndM.mk fun w10 h10 => ⟨⟨Nat.le_trans (show w.heap.size ≤ w7.heap.size by omega) hD, (h10.step D hDW (by simp)).trans hmark⟩, fun w11 hu => ?_⟩
  exact ⟨_, _, by rw [hq]; rfl, Own.nil⟩
namespace Mi
def inner (b : Zn) : List Zn → List Zn → List Zn × Int
 | [], next => (next, 0)
 | z :: t, next => if (minus z b).2 ≠ 0 then ([], (minus z b).2) else if 4096 < (next ++ (minus z b).1).length then ([], 4) else inner b t (next ++ (minus z b).1)
def outer : List Zn → List Zn → List Zn × Int
 | [], out => (out, 0)
 | b :: l, out => if (inner b out []).2 ≠ 0 then ([], (inner b out []).2) else outer l (inner b out []).1
def left (a : Zn) (l : List Zn) : List Zn × Int :=
 if Zo.chk a ≠ 0 then ([], 8) else if l.any (fun b => decide (Zo.chk b ≠ 0)) = true then ([], 8) else outer l [a]
theorem inner_cons (b z : Zn) (t next : List Zn) : inner b (z :: t) next = if (minus z b).2 ≠ 0 then ([], (minus z b).2) else if 4096 < (next ++ (minus z b).1).length then ([], 4) else inner b t (next ++ (minus z b).1) := rfl
theorem outer_cons (b : Zn) (l out : List Zn) : outer (b :: l) out = if (inner b out []).2 ≠ 0 then ([], (inner b out []).2) else outer l (inner b out []).1 := rfl
theorem minus_len (a b : Zn) : (minus a b).1.length ≤ 12 := by
 unfold minus
 split
 ·split
  ·simp
  ·simp; exact parts_len a b
 ·simp
end Mi
section
variable {α : Type} [Enc α] {w0 : Base} {l : List World} {hp : List LB} {r r0 L : List Nat} {w w1 w2 : World} {e : TypeId} {base : Nat} {v sv : Value} {xs : List α}
theorem GenN.appR {P : Program} {K : Value → World → Prop} {t ty : TypeId} {bytes : Nat} {consts : Array Bool} (hE : ElOk P t e (size α) bytes) (lp : Lp w0 l r0 e base w v xs) (hr : ∀ k, v.ownBlock = some k → k ∉ r) (hL : ∀ b, b ∈ L → w.heap.size ≤ b)
 (ms : List α) (hsrc : ∀ w1, At w0 hp r L w w1 → SrcC w1 sv (size α) ms.length (cellsL ms)) (h63 : xs.length + ms.length ≤ 1000000) (hby : bytes ≤ 1000000)
 (hk : ∀ a' c' w5 w6, At w0 hp r L w w5 → Lp w0 l r0 e base w6 (.slice a' (xs ++ ms).length c') (xs ++ ms) → w5.heap.size ≤ w6.heap.size → (∀ k, k < w5.heap.size → k < base ∨ w.heap.size ≤ k → w6.heap[k]? = w5.heap[k]?) → K (.slice a' (xs ++ ms).length c') w6) :
 GenN P w0 (Keep w0) (builtin .append #[t, t] ty consts #[v, sv]) hp r L w K := by
 have hLp : ∀ w1, At w0 hp r L w w1 → Lp w0 l r0 e base w1 v xs := fun w1 h1 => lp.at h1 fun b hb => .inl (hL b hb)
 have hrow : ∀ k, v.ownBlock = some k → w0.B ≤ k ∧ k ∉ r := fun k hk => ⟨Nat.le_trans lp.b0 (lp.own.lt k hk).1, hr k hk⟩
 refine GenN.app (α := α) hE xs ms base (fun w1 h1 => (hLp w1 h1).own) hsrc (by unfold maxLen; omega) ?_ (fun w1 h1 => Nat.le_trans lp.size h1.size) (fun w1 w2 h1 hg => keep_grown h1 hg hrow) fun v' w5 w6 h5 hg hO => ?_
 ·calc _ ≤ 1000000 * 1000000 := Nat.mul_le_mul h63 hby
   _ ≤ _ := by decide
 ·obtain ⟨a', c', rfl⟩ := hO.form
  have h5' := hLp w5 h5
  refine hk a' c' w5 w6 h5 ⟨⟨lp.st.base, fun X hX => ?_⟩, hO, lp.anc, lp.blk, Nat.le_trans h5'.size hg.size, lp.b0⟩ hg.size fun k hk hkb => ?_
  ·have hX5 := h5'.st.all X hX
   refine ⟨hg.os.trans hX5.os, hg.tape.trans hX5.tape, hg.output.trans hX5.output, Nat.le_trans hX5.size hg.size, fun k hk => ?_⟩
   refine (hg.block k (Nat.lt_of_lt_of_le hk hX5.size) (fun e => ?_)).trans (hX5.block k hk)
   have h1 := lp.own.lt k e.symm
   have h2 := lp.anc X hX
   omega
  ·refine hg.block k hk (fun e => ?_)
   have h1 := lp.own.lt k e.symm
   omega
end
open Mi in
theorem left_any (z : Zn) (l : List Zn) (a : Option Addr) (cap : Nat) (w : World) (hS : Sl w.heap.size w (.slice a l.length cap) l) :
 Calls Tryz.prog 184 #[.agg #[.int .i64 z.a, .int .i64 z.b, .int .i64 z.c, .int .i64 z.d, .int .i64 z.e, .int .i64 z.f], .slice a l.length cap] w (Ret w fun v w' => ∃ a' c', v = .tuple #[.slice a' (Mi.left z l).1.length c', .int .i64 (Mi.left z l).2] ∧ Sl w'.heap.size w' (.slice a' (Mi.left z l).1.length c') (Mi.left z l).1) := by
 refine fun_ret 0 w Tryz.func184 (args := [.agg [.val (.int .i64 z.a), .val (.int .i64 z.b), .val (.int .i64 z.c), .val (.int .i64 z.d), .val (.int .i64 z.e), .val (.int .i64 z.f)], .val (.slice a l.length cap)]) rfl rfl ?_
 obtain ⟨_, _, hfe, hcap1, hcap2, _⟩ := hS.form
 injection hfe with _ _ hfe
 subst hfe
 unfold maxLen at hcap2
 have st := Stay.first (w := w)
 refine NewI.mk fun b1 hb1 => ?_
 unfold Mi.left
 apply CallI.use1
 focus (exact fun w1 h1 => zcheck_any z w1)
 intro w1 v1 h1 hB1
 have st := st.nx h1 hB1
 refine Branch.mk (fun hc => ?_) (fun hc => ?_)
 ·have h0 : Zo.chk z ≠ 0 := by simpa using hc
  rw [if_pos h0]
  exact EndI.mk fun w9 h9 => ⟨_, _, rfl, Sl.nil⟩
 have h0 : Zo.chk z = 0 := by simpa using hc
 rw [if_neg (by simp [h0])]
 refine LoopI.invC (α := Nat × World) (fun y => [(21, .val (.int .i64 y.1))]) (fun y => y.2) (fun y => y.1 ≤ l.length ∧ Below w.heap.size w y.2 ∧ ∀ x, x ∈ l.take y.1 → Zo.chk x = 0) (fun y => l.length - y.1) ?_ ?_
 ·intro w3 h3
  exact ⟨(0, w3), Cov.au rfl rfl rfl rfl rfl, rfl, Nat.zero_le _, h3.below, by simp⟩
 rintro ⟨k, V⟩ ⟨hk, hV, hall⟩
 refine Branch.mk (fun hc2 => ?_) (fun hc2 => ?_)
 ·have hlt : k < l.length := by simpa using hc2
  have hg := List.getElem?_eq_getElem (l := l) (i := k) hlt
  generalize l[k] = x at hg
  have hSV := hS.go hV hV.size
  refine hSV.idx hg fun ad had => ?_
  refine hSV.ld hg had (Below.refl _ _) (by simp) ?_
  refine NewI.mk fun b2 hb2 => ?_
  apply CallI.use1
  focus (exact fun w4 h4 => zcheck_any x w4)
  intro w4 v4 h4 hB4
  refine Branch.mk (fun hc3 => ?_) (fun hc3 => ?_)
  ·have h1 : Zo.chk x ≠ 0 := by simpa using hc3
   rw [if_pos (by rw [List.any_eq_true]; exact ⟨x, List.mem_of_getElem? hg, by simpa using h1⟩)]
   exact EndI.mk fun w9 h9 => ⟨_, _, rfl, Sl.nil⟩
  ·have h1 : Zo.chk x = 0 := by simpa using hc3
   refine Need.mk (by simp only [inK]; omega) (EndI.mk fun w9 h9 => ⟨(k + 1, w9), Cov.au rfl rfl rfl rfl rfl, rfl, ⟨hlt, h9.below, fun y hy => ?_⟩, by simp only; omega⟩)
   have e : l.take (k + 1) = l.take k ++ [x] := by rw [List.take_add_one, hg]; rfl
   rw [e] at hy
   rcases List.mem_append.1 hy with hy | hy
   ·exact hall y hy
   ·rw [List.mem_singleton.1 hy]; exact h1
 have hge : k = l.length := by have : ¬ k < l.length := by simpa using hc2
                               omega
 subst hge
 rw [List.take_length] at hall
 rw [if_neg (by rw [List.any_eq_true]; rintro ⟨x, hx, h⟩; simp [hall x hx] at h)]
 refine NewI.mk fun b2 hb2 => ?_
 have hb2w : w.heap.size ≤ b2 := Nat.le_trans hV.size hb2
 refine LoopI.invC (α := Nat × World × Value × List Zn) (fun y => [(33, .val (.int .i64 y.1)), (8, .val y.2.2.1)]) (fun y => y.2.1)
  (fun y => y.1 ≤ l.length ∧ Below w.heap.size w y.2.1 ∧ Sl y.2.1.heap.size y.2.1 y.2.2.1 y.2.2.2 ∧ y.2.2.2.length ≤ 4096 ∧ outer l [z] = outer (l.drop y.1) y.2.2.2) (fun y => l.length - y.1) ?_ ?_
 ·intro w3 h3
  exact ⟨(0, w3, .slice (some ⟨b2, 0, none⟩) 1 1, [z]), Cov.au rfl rfl rfl rfl rfl, rfl, Nat.zero_le _, h3.below, Sl.own (l := [z]) h3 1 rfl rfl rfl (Nat.le_refl _) (by simp [maxLen]), by simp, rfl⟩
 rintro ⟨i, V2, ov, out⟩ ⟨hi, hV2, hSo, hol, heq⟩
 simp only at hi hV2 hSo hol heq
 obtain ⟨ao, co, rfl, _⟩ := hSo.form
 refine Branch.mk (fun hc3 => ?_) (fun hc3 => ?_)
 ·have hlt : i < l.length := by simpa using hc3
  have hg := List.getElem?_eq_getElem (l := l) (i := i) hlt
  have hd := List.drop_eq_getElem_cons hlt
  generalize l[i] = b at hg hd
  rw [hd, outer_cons] at heq
  have hSV := hS.go hV2 hV2.size
  refine hSV.idx hg fun ad had => ?_
  refine hSV.ld hg had (Below.refl _ _) (by simp) ?_
  refine NewI.mk fun b3 hb3 => ?_
  have st2 := Stay.start (w0 := ⟨w, w.heap.size, Nat.le_refl _⟩) hV2
  have hb3w : V2.heap.size ≤ b3 := hb3
  refine LoopI.invC (α := Nat × World × Value × List Zn) (fun y => [(39, .val (.int .i64 y.1)), (11, .val y.2.2.1)]) (fun y => y.2.1)
   (fun y => y.1 ≤ out.length ∧ (∃ base, Lp ⟨w, w.heap.size, Nat.le_refl _⟩ [V2] [b1, b2, b3] 86 base y.2.1 y.2.2.1 y.2.2.2) ∧ y.2.2.2.length ≤ 4096 ∧ inner b out [] = inner b (out.drop y.1) y.2.2.2) (fun y => out.length - y.1) ?_ ?_
  ·intro w5 h5
   exact ⟨(0, w5, .slice none 0 0, []), Cov.au rfl rfl rfl rfl rfl, rfl, Nat.zero_le _, ⟨_, Lp.start st2 h5 (fun x hx => by simp at hx <;> omega)⟩, by simp, rfl⟩
  rintro ⟨j, V5, nv, next⟩ ⟨hj, ⟨base, lp⟩, hnl, hin⟩
  simp only at hj lp hnl hin
  obtain ⟨an, cn, rfl⟩ := lp.own.form
  refine Branch.mk (fun hc4 => ?_) (fun hc4 => ?_)
  ·have hlt2 : j < out.length := by simpa using hc4
   have hg2 := List.getElem?_eq_getElem (l := out) (i := j) hlt2
   have hd2 := List.drop_eq_getElem_cons hlt2
   generalize out[j] = x at hg2 hd2
   rw [hd2, inner_cons] at hin
   have hSo5 := hSo.st lp.st
   refine hSo5.idx hg2 fun ad2 had2 => ?_
   refine hSo5.ld hg2 had2 (Below.refl _ _) (by simp) ?_
   refine NewI.mk fun b4 hb4 => ?_
   have hb4w : V5.heap.size ≤ b4 := hb4
   apply CallI.use
   focus (exact fun w6 h6 => minus_any x b w6)
   rintro v w6 v6 h6 hB6 ⟨am, cm, rfl, hOm⟩
   have lp6 := (lp.at h6 (fun y hy => by simp at hy <;> (left; omega))).go hB6
   have hml := minus_len x b
   refine Branch.mk (fun hc5 => ?_) (fun hc5 => ?_)
   ·have he : (minus x b).2 ≠ 0 := by simpa using hc5
    rw [if_pos he] at hin
    rw [hin, if_pos he] at heq
    rw [heq]
    exact EndI.mk fun w9 h9 => ⟨_, _, rfl, Sl.nil⟩
   have he : (minus x b).2 = 0 := by simpa using hc5
   rw [if_neg (by simp [he])] at hin
   have h66 := h6.size
   have h67 := hB6.size
   refine GenN.appR (α := Zn) elZ lp6 (fun y hy hm => by have h1 := lp.own.lt y hy; have q1 := lp.blk b1 (by simp); have q2 := lp.blk b2 (by simp); have q3 := lp.blk b3 (by simp); simp at hm; omega) (by simp) (minus x b).1 (fun w8 h8 => (hOm.sl.go h8.go h8.size).src) (by omega) (by decide) fun a' c' w8 w9 h8 lp9 hsz hbl => ?_
   refine Branch.mk (fun hc6 => ?_) (fun hc6 => ?_)
   ·have h4 : 4096 < (next ++ (minus x b).1).length := by have : (4096 : Int) < (next ++ (minus x b).1).length := by simpa using hc6
                                                          omega
    rw [if_pos h4] at hin
    rw [hin, if_pos (by decide)] at heq
    rw [heq]
    exact EndI.mk fun w9 h9 => ⟨_, _, rfl, Sl.nil⟩
   have h4 : ¬ 4096 < (next ++ (minus x b).1).length := by have : ¬ (4096 : Int) < (next ++ (minus x b).1).length := by simpa using hc6
                                                           omega
   rw [if_neg h4] at hin
   have ho : (out.length : Int) ≤ 4096 := by omega
   refine Need.mk (by simp only [inK]; omega) (EndI.mk fun w10 h10 => ⟨(j + 1, w10, .slice a' (next ++ (minus x b).1).length c', next ++ (minus x b).1), Cov.au rfl rfl rfl rfl rfl, rfl, ⟨hlt2, ⟨base, ?_⟩, Nat.le_of_not_lt h4, hin⟩, by simp only; omega⟩)
   exact lp9.at h10 (by simp)
  ·have hge2 : j = out.length := by have : ¬ j < out.length := by simpa using hc4
                                    omega
   subst hge2
   rw [List.drop_length] at hin
   have hin : inner b out [] = (next, 0) := hin
   rw [hin, if_neg (by simp)] at heq
   refine Need.mk (by simp only [inK]; omega) (EndI.mk fun w10 h10 => ⟨(i + 1, w10, .slice an next.length cn, next), Cov.au rfl rfl rfl rfl rfl, rfl, ⟨hlt, h10.below, (lp.at h10 (by simp)).own.sl, hnl, heq⟩, by simp only; omega⟩)
 ·have hge : i = l.length := by have : ¬ i < l.length := by simpa using hc3
                                omega
  subst hge
  rw [List.drop_length] at heq
  rw [heq]
  exact EndI.mk fun w9 h9 => ⟨_, _, rfl, hSo.go h9.go h9.size⟩
theorem indexZ_any (l : List Zn) (p : Zn → Bool) (a : Option Addr) (cap : Nat) (fid : FuncId) (caps : Array Value) (B : Nat) (w : World) (hB : B ≤ w.heap.size) (hS : Sl B w (.slice a l.length cap) l)
 (T : Nat → World → Prop) (h0 : T 0 w) (hst : ∀ k W W', T k W → Below W.heap.size W W' → T k W') (en : Enters Tryz.prog fid)
 (hcall : ∀ k x W, l[k]? = some x → Below B w W → T k W → Calls Tryz.prog fid (val x :: caps.toList).toArray W fun e W' => e = .returned (.bool (p x)) ∧ Below B W W' ∧ T (k + 1) W') :
 Calls Tryz.prog 80 #[.slice a l.length cap, .func (.func fid) #[] caps] w fun e w' => ∃ v, e = .returned v ∧ Below B w w' ∧ v = .int .i64 (idxF p l) ∧ T (cntF p l) w' := by
 obtain ⟨a', cap', e', hcap, hmax, _⟩ := hS.form
 injection e' with e1 e2 e3
 subst e1; subst e3
 unfold maxLen at hmax
 refine fun_at 0 B w hB Tryz.func80 (args := [.val (.slice a l.length cap), .val (.func (.func fid) #[] caps)]) rfl rfl ?_
 refine LoopI.inv (α := Nat × World) (fun x => [(8, .val (.int .i64 x.1))]) (fun _ => []) (fun x => x.2) (fun x => x.1 ≤ l.length ∧ T x.1 x.2 ∧ Below B w x.2 ∧ ∀ j y, j < x.1 → l[j]? = some y → p y = false) (fun x => l.length - x.1) ?_ ?_
 ·intro w1 h1
  exact ⟨(0, w1), Cov.au rfl rfl rfl rfl rfl, rfl, Nat.zero_le _, hst _ _ _ h0 h1.go, h1.below, fun j y hj => by omega⟩
 ·rintro ⟨k, W⟩ ⟨hk, hT, hBw, hno⟩
  refine Branch.mk (fun hb => ?_) (fun hb => ?_)
  ·have hlt : k < l.length := by simpa using hb
   obtain ⟨x, hx⟩ : ∃ x, l[k]? = some x := ⟨l[k], List.getElem?_eq_getElem hlt⟩
   refine hS.idx hx fun ad had => ?_
   refine hS.ld hx had hBw (by simp) ?_
   refine Need.mk en ?_
   refine CallI.mk fun w1 h1 => ?_
   have hT1 := hst _ _ _ hT h1.go
   refine (hcall k x w1 hx h1.below hT1).mono ?_
   rintro e w2 ⟨rfl, hB2, hT2⟩
   refine ⟨⟨hB2, by simp⟩, _, rfl, ?_⟩
   refine Branch.mk (fun hp => ?_) (fun hp => ?_)
   ·refine EndI.mk fun w3 h3 => ?_
    obtain ⟨i1, i2⟩ := idxF_at p l k x hx hp hno
    refine ⟨by rw [i1], by rw [i2]; exact hst _ _ _ hT2 h3.go⟩
   ·refine Need.mk (by show _ ∧ _; omega) (EndI.mk fun w3 h3 => ?_)
    refine ⟨(k + 1, w3), Cov.au rfl rfl rfl rfl rfl, rfl, ⟨hlt, hst _ _ _ hT2 h3.go, h3.below, fun j y hj hy => ?_⟩, by simp only; omega⟩
    by_cases hjk : j = k
    ·subst hjk; rw [hx] at hy; injection hy with hy; subst hy; exact hp
    ·exact hno j y (by omega) hy
  ·have hge : k = l.length := by have : ¬ k < l.length := by simpa using hb
                                 omega
   subst hge
   refine EndI.mk fun w3 h3 => ?_
   obtain ⟨i1, i2⟩ := idxF_none p l fun j y hy => hno j y (List.getElem?_eq_some_iff.1 hy).1 hy
   exact ⟨by rw [i1], by rw [i2]; exact hst _ _ _ hT h3.go⟩
theorem containsZ_any (l : List Zn) (p : Zn → Bool) (a : Option Addr) (cap : Nat) (fid : FuncId) (caps : Array Value) (B : Nat) (w : World) (hB : B ≤ w.heap.size) (hS : Sl B w (.slice a l.length cap) l)
 (T : Nat → World → Prop) (h0 : T 0 w) (hst : ∀ k W W', T k W → Below W.heap.size W W' → T k W') (en : Enters Tryz.prog fid)
 (hcall : ∀ k x W, l[k]? = some x → Below B w W → T k W → Calls Tryz.prog fid (val x :: caps.toList).toArray W fun e W' => e = .returned (.bool (p x)) ∧ Below B W W' ∧ T (k + 1) W') :
 Calls Tryz.prog 39 #[.slice a l.length cap, .func (.func fid) #[] caps] w fun e w' => ∃ v, e = .returned v ∧ Below B w w' ∧ v = .bool (l.any p) ∧ T (cntF p l) w' := by
 refine fun_at 0 B w hB Tryz.func39 (args := [.val (.slice a l.length cap), .val (.func (.func fid) #[] caps)]) rfl rfl ?_
 refine CallI.mk fun w1 h1 => ?_
 have hB1 : B ≤ w1.heap.size := Nat.le_trans hB h1.size
 refine (indexZ_any l p a cap fid caps B w1 hB1 (hS.below h1.below) T (hst _ _ _ h0 h1.go) hst en fun k x W hx hW hT => hcall k x W hx (h1.below.trans hW) hT).mono ?_
 rintro e w2 ⟨v, rfl, hB2, rfl, hT⟩
 refine ⟨⟨hB2, by simp⟩, _, rfl, ?_⟩
 refine EndI.mk fun w3 h3 => ⟨?_, hst _ _ _ hT h3.go⟩
 rw [← idxF_any]
theorem containsZ_pure (l : List Zn) (p : Zn → Bool) (a : Option Addr) (cap : Nat) (fid : FuncId) (caps : Array Value) (w : World) (hS : Sl w.heap.size w (.slice a l.length cap) l) (en : Enters Tryz.prog fid)
 (hcall : ∀ x W, x ∈ l → Below w.heap.size w W → Calls Tryz.prog fid (val x :: caps.toList).toArray W fun e W' => e = .returned (.bool (p x)) ∧ Below W.heap.size W W') :
 Calls Tryz.prog 39 #[.slice a l.length cap, .func (.func fid) #[] caps] w fun e w' => e = .returned (.bool (l.any p)) ∧ Below w.heap.size w w' := by
 refine (containsZ_any l p a cap fid caps w.heap.size w (Nat.le_refl _) hS (fun _ _ => True) trivial (fun _ _ _ _ _ => trivial) en fun k x W hx hB _ => ?_).mono ?_
 ·refine (hcall x W (List.mem_of_getElem? hx) hB).mono ?_
  rintro e W' ⟨rfl, hB'⟩
  exact ⟨rfl, hB'.mono hB.size, trivial⟩
 ·rintro e w' ⟨v, rfl, hB, rfl, _⟩
  exact ⟨rfl, hB⟩
theorem cloneZ_any (l : List Zn) (a : Option Addr) (cap : Nat) (w : World) (hS : Sl w.heap.size w (.slice a l.length cap) l) (hlen : l.length ≤ 1000000) :
 Calls Tryz.prog 44 #[.slice a l.length cap] w (Ret w fun v w' => Own 86 w.heap.size w' v l) := by
 refine fun_ret 0 w Tryz.func44 (args := [.val (.slice a l.length cap)]) rfl rfl ?_
 refine GenV.to (fun w1 => Lib.run_eql_slice_nil w1 22 86 a l.length cap 0 0 Tryz.underlying22) fun w1 h1 => ?_
 refine Branch.mk (fun hb => ?_) (fun hb => ?_)
 ·refine EndI.mk fun w2 h2 => ?_
  have ha : a = none := by cases a <;> simp_all
  obtain ⟨a', cap', e', hcap, hmax, hn⟩ := hS.form
  injection e' with e1 e2 e3
  subst e1; subst e3
  have h0 := hn ha
  obtain rfl : l = [] := List.eq_nil_of_length_eq_zero (by omega)
  exact Own.nil
 ·refine NewI.mk fun b hb1 => ?_
  have hsrc : ∀ w2, At ⟨w, w.heap.size, Nat.le_refl _⟩ [⟨[], 86⟩] [b] [] w1 w2 → SrcC w2 (.slice a l.length cap) 6 l.length (cellsL l) := fun w2 h2 => (hS.below h2.below).src
  refine GenN.appF (α := Zn) elZ [] l w.heap.size rfl (fun w2 h2 => ?_) hsrc ?_ ?_ (fun w2 h2 => h2.below.size) fun v' w2 w3 h2 hB ho => ?_
  ·exact ⟨rfl, .inr ⟨b, 0, #[], rfl, h2.fresh b (by simp), h2.blk 0 b _ rfl rfl, Nat.le_refl _, by simp [maxLen], rfl, rfl⟩⟩
  ·simp [maxLen]; omega
  ·simp; omega
  ·exact EndI.mk fun w4 h4 => ho.below h4.go
namespace Cv
def odd (z : Zn) : Bool := decide (Zo.chk z ≠ 0)
def checked (ls : List (List Zn)) : Int := if ls.any (fun l => decide (4096 < l.length)) = true then 4 else if ls.any (fun l => l.any odd) = true then 8 else 0
def in_ (z : Zn) (l : List Zn) : Bool × Int :=
 if checked [l, [z]] = 0 then (decide ((Mi.left z l).2 = 0) && decide ((Mi.left z l).1.length = 0), (Mi.left z l).2) else (false, checked [l, [z]])
end Cv
def Shown (n : Nat) (W : World) (ss : List Svl) (ls : List (List Zn)) : Prop := ss.length = ls.length ∧ ∀ (k : Nat) (s : Svl) (l : List Zn), ss[k]? = some s → ls[k]? = some l → Sl n W (.slice s.a s.len s.cap) l ∧ s.len = l.length
theorem codd_any (z : Zn) (w : World) : Calls Tryz.prog 179 #[.agg #[.int .i64 z.a, .int .i64 z.b, .int .i64 z.c, .int .i64 z.d, .int .i64 z.e, .int .i64 z.f]] w fun e w' => e = .returned (.bool (Cv.odd z)) ∧ Below w.heap.size w w' := by
 refine fun_eq 0 w Tryz.func179 (args := [.agg [.val (.int .i64 z.a), .val (.int .i64 z.b), .val (.int .i64 z.c), .val (.int .i64 z.d), .val (.int .i64 z.e), .val (.int .i64 z.f)]]) rfl rfl ?_
 refine NewI.mk fun b1 hb1 => ?_
 refine CallI.to1 (fun w => zcheck_any z w) fun w2 => ?_
 exact EndI.mk fun w9 h9 => rfl
theorem checked_any (ss : List Svl) (ls : List (List Zn)) (a : Option Addr) (cap : Nat) (w : World) (hA : Shown w.heap.size w ss ls) (hS : Sl w.heap.size w (.slice a ss.length cap) ss) :
 Calls Tryz.prog 136 #[.slice a ss.length cap] w fun e w' => e = .returned (.int .i64 (Cv.checked ls)) ∧ Below w.heap.size w w' := by
 refine fun_eq 0 w Tryz.func136 (args := [.val (.slice a ss.length cap)]) rfl rfl ?_
 obtain ⟨hlen, hA⟩ := hA
 have hform := hS.form
 obtain ⟨_, _, hfe, hcap1, hcap2, _⟩ := hform
 injection hfe with _ _ hfe
 subst hfe
 unfold maxLen at hcap2
 unfold Cv.checked
 refine LoopI.invC (α := Nat × World) (fun y => [(10, .val (.int .i64 y.1))]) (fun y => y.2) (fun y => y.1 ≤ ss.length ∧ Below w.heap.size w y.2 ∧ ∀ l, l ∈ ls.take y.1 → l.length ≤ 4096) (fun y => ss.length - y.1) ?_ ?_
 ·intro w1 h1
  exact ⟨(0, w1), Cov.au rfl rfl rfl rfl rfl, rfl, Nat.zero_le _, h1.below, by simp⟩
 rintro ⟨k, W⟩ ⟨hk, hW, hall⟩
 refine Branch.mk (fun hc => ?_) (fun hc => ?_)
 ·have hlt : k < ss.length := by simpa using hc
  have hg := List.getElem?_eq_getElem (l := ss) (i := k) hlt
  have hl := List.getElem?_eq_getElem (l := ls) (i := k) (by omega)
  obtain ⟨hs1, hs2⟩ := hA k _ _ hg hl
  generalize ls[k]'(by omega) = l at hl hs1 hs2
  have hSW := hS.go hW hW.size
  refine hSW.idx hg fun ad had => ?_
  refine hSW.ldv hg rfl had (Below.refl _ _) (by simp) ?_
  refine Branch.mk (fun hc2 => ?_) (fun hc2 => ?_)
  ·have h4 : 4096 < l.length := by have : (4096 : Int) < (ss[k]'hlt).len := by simpa using hc2
                                   omega
   rw [if_pos (by rw [List.any_eq_true]; exact ⟨l, List.mem_of_getElem? hl, by simpa using h4⟩)]
   exact EndI.mk fun w3 h3 => rfl
  ·have hle : l.length ≤ 4096 := by have : ¬ (4096 : Int) < (ss[k]'hlt).len := by simpa using hc2
                                    omega
   refine Need.mk (by simp only [inK]; omega) (EndI.mk fun w7 h7 => ⟨(k + 1, w7), Cov.au rfl rfl rfl rfl rfl, rfl, ⟨hlt, h7.below, fun y hy => ?_⟩, by simp only; omega⟩)
   have e : ls.take (k + 1) = ls.take k ++ [l] := by rw [List.take_add_one, hl]; rfl
   rw [e] at hy
   rcases List.mem_append.1 hy with hy | hy
   ·exact hall y hy
   ·rw [List.mem_singleton.1 hy]; exact hle
 have hge : k = ls.length := by have : ¬ k < ss.length := by simpa using hc
                                omega
 subst hge
 rw [List.take_length] at hall
 rw [if_neg (by rw [List.any_eq_true]; rintro ⟨x, hx, h⟩; have := hall x hx; simp at h; omega)]
 clear hall hc hk
 refine LoopI.invC (α := Nat × World) (fun y => [(20, .val (.int .i64 y.1))]) (fun y => y.2) (fun y => y.1 ≤ ss.length ∧ Below w.heap.size w y.2 ∧ ∀ l, l ∈ ls.take y.1 → l.any Cv.odd = false) (fun y => ss.length - y.1) ?_ ?_
 ·intro w1 h1
  exact ⟨(0, w1), Cov.au rfl rfl rfl rfl rfl, rfl, Nat.zero_le _, h1.below, by simp⟩
 rintro ⟨k, V⟩ ⟨hk, hV, hall⟩
 refine Branch.mk (fun hc => ?_) (fun hc => ?_)
 ·have hlt : k < ss.length := by simpa using hc
  have hg := List.getElem?_eq_getElem (l := ss) (i := k) hlt
  have hl := List.getElem?_eq_getElem (l := ls) (i := k) (by omega)
  obtain ⟨hs1, hs2⟩ := hA k _ _ hg hl
  generalize ls[k]'(by omega) = l at hl hs1 hs2
  rw [hs2] at hs1
  have hSW := hS.go hV hV.size
  refine hSW.idx hg fun ad had => ?_
  refine hSW.ldv hg rfl had (Below.refl _ _) (by simp) ?_
  rw [hs2]
  apply CallI.use1
  focus (exact fun w4 h4 => containsZ_pure l Cv.odd _ _ 179 #[] w4 (hs1.go h4.below h4.below.size) Tryz.call179 fun x W _ _ => codd_any x W)
  intro w4 v4 h4 hB4
  refine Branch.mk (fun hc2 => ?_) (fun hc2 => ?_)
  ·have h4 : l.any Cv.odd = true := by simpa using hc2
   rw [if_pos (by rw [List.any_eq_true]; exact ⟨l, List.mem_of_getElem? hl, h4⟩)]
   exact EndI.mk fun w3 h3 => rfl
  ·have hle : l.any Cv.odd = false := by simpa using hc2
   refine Need.mk (by simp only [inK]; omega) (EndI.mk fun w7 h7 => ⟨(k + 1, w7), Cov.au rfl rfl rfl rfl rfl, rfl, ⟨hlt, h7.below, fun y hy => ?_⟩, by simp only; omega⟩)
   have e : ls.take (k + 1) = ls.take k ++ [l] := by rw [List.take_add_one, hl]; rfl
   rw [e] at hy
   rcases List.mem_append.1 hy with hy | hy
   ·exact hall y hy
   ·rw [List.mem_singleton.1 hy]; exact hle
 have hge : k = ls.length := by have : ¬ k < ss.length := by simpa using hc
                                omega
 subst hge
 rw [List.take_length] at hall
 rw [if_neg (by rw [List.any_eq_true]; rintro ⟨x, hx, h⟩; rw [hall x hx] at h; cases h)]
 exact EndI.mk fun w9 h9 => rfl
theorem shown_two {n : Nat} {W : World} {s t : Svl} {l m : List Zn} (h1 : Sl n W (.slice s.a s.len s.cap) l) (e1 : s.len = l.length) (h2 : Sl n W (.slice t.a t.len t.cap) m) (e2 : t.len = m.length) : Shown n W [s, t] [l, m] := by
 refine ⟨rfl, fun k s' l' hs hl => ?_⟩
 have hk : k < 2 := (List.getElem?_eq_some_iff.1 hs).1
 have : k = 0 ∨ k = 1 := by omega
 rcases this with rfl | rfl
 ·simp at hs hl; subst hs; subst hl; exact ⟨h1, e1⟩
 ·simp at hs hl; subst hs; subst hl; exact ⟨h2, e2⟩
theorem shown_one {n : Nat} {W : World} {s : Svl} {l : List Zn} (h1 : Sl n W (.slice s.a s.len s.cap) l) (e1 : s.len = l.length) : Shown n W [s] [l] := by
 refine ⟨rfl, fun k s' l' hs hl => ?_⟩
 have hk : k < 1 := (List.getElem?_eq_some_iff.1 hs).1
 have : k = 0 := by omega
 subst this
 simp at hs hl; subst hs; subst hl; exact ⟨h1, e1⟩
theorem cin_any (z : Zn) (l : List Zn) (a : Option Addr) (cap : Nat) (w : World) (hS : Sl w.heap.size w (.slice a l.length cap) l) :
 Calls Tryz.prog 142 #[.agg #[.int .i64 z.a, .int .i64 z.b, .int .i64 z.c, .int .i64 z.d, .int .i64 z.e, .int .i64 z.f], .slice a l.length cap] w fun e w' => e = .returned (.tuple #[.bool (Cv.in_ z l).1, .int .i64 (Cv.in_ z l).2]) ∧ Below w.heap.size w w' := by
 refine fun_eq 0 w Tryz.func142 (args := [.agg [.val (.int .i64 z.a), .val (.int .i64 z.b), .val (.int .i64 z.c), .val (.int .i64 z.d), .val (.int .i64 z.e), .val (.int .i64 z.f)], .val (.slice a l.length cap)]) rfl rfl ?_
 have st := Stay.first (w := w)
 refine NewI.mk fun b1 hb1 => ?_
 refine NewI.mk fun b2 hb2 => ?_
 refine NewI.mk fun b3 hb3 => ?_
 unfold Cv.in_
 apply CallI.use1
 ·exact fun w1 h1 => checked_any [⟨a, l.length, cap⟩, ⟨some ⟨b2, 0, none⟩, 1, 1⟩] [l, [z]] _ _ w1 (shown_two (hS.go h1.below h1.below.size) rfl (Sl.own (l := [z]) h1 1 rfl rfl rfl (Nat.le_refl _) (by simp [maxLen])) rfl) (Sl.own (l := [(⟨a, l.length, cap⟩ : Svl), ⟨some ⟨b2, 0, none⟩, 1, 1⟩]) h1 2 rfl rfl rfl (Nat.le_refl _) (by simp [maxLen]))
 intro w1 v1 h1 hB1
 have hv1 : Below w.heap.size w v1 := h1.below.trans (hB1.mono h1.below.size)
 refine Branch.mk (fun hc => ?_) (fun hc => ?_)
 ·have h0 : ¬ Cv.checked [l, [z]] = 0 := by simpa using hc
  rw [if_neg h0]
  exact EndI.mk fun w3 h3 => rfl
 have h0 : Cv.checked [l, [z]] = 0 := by simpa using hc
 rw [if_pos h0]
 apply CallI.use
 focus (exact fun w2 h2 => left_any z l a cap w2 (hS.go h2.below h2.below.size))
 rintro v w2 v2 h2 hB2 ⟨a2, c2, rfl, hS2⟩
 generalize Mi.left z l = X at *
 obtain ⟨x, e⟩ := X
 refine Branch.mk (fun hc2 => ?_) (fun hc2 => ?_)
 ·have h1 : e = 0 := by simpa using hc2
  subst h1
  refine EndI.mk fun w3 h3 => ?_
  simp
 ·have h1 : ¬ e = 0 := by simpa using hc2
  refine EndI.mk fun w3 h3 => ?_
  simp [h1]
end Go.Proofs.YtanhnllkccldhaaGreat
namespace Go.Proofs.YtanhnllkccldhaaGreat
set_option linter.unusedVariables false
set_option linter.unusedSimpArgs false
open Go.RowKit Go.Proofs.YtanhnllkccldhaaGreat.Eng Enc
theorem grown_belowM {n : Nat} {W w1 w2 : World} {row : Option Nat} (hB : Below n W w1) (hg : w1.grownBy w2 row) (hr : ∀ k, row = some k → n ≤ k) (hn : n ≤ w1.heap.size) : Below n W w2 :=
 ⟨hg.os.trans hB.os, hg.tape.trans hB.tape, hg.output.trans hB.output, Nat.le_trans hB.size hg.size, fun k hk => (hg.block k (Nat.lt_of_lt_of_le hk hn) (fun e => absurd (hr k e.symm) (Nat.not_le.2 hk))).trans (hB.block k hk)⟩
structure ZRow (W : World) (g cap n : Nat) : Prop where
 le : n ≤ cap
 max : cap ≤ maxLen
 row : ∃ cur : Array Value, W.heap[g]? = some (.cells cur TZ (0, 0)) ∧ cur.size = cap * 6 ∧ ∀ j, j < n * 6 → ∃ x, cur[j]? = some (.int .i64 x)
theorem cellsL_zn : ∀ (l : List Zn) (j : Nat), j < l.length * 6 → ∃ x, (cellsL l)[j]? = some (.int .i64 x)
 | [], j, h => by simp at h
 | z :: l, j, h => by
   have hlen : (enc z).length = 6 := rfl
   rw [List.length_cons] at h
   by_cases hj : j < 6
   ·have : j = 0 ∨ j = 1 ∨ j = 2 ∨ j = 3 ∨ j = 4 ∨ j = 5 := by omega
    have hx : (cellsL (z :: l))[j]? = (enc z)[j]? := by
     show (enc z ++ cellsL l)[j]? = _
     rw [List.getElem?_append_left (by rw [hlen]; exact hj)]
    rw [hx]
    rcases this with rfl | rfl | rfl | rfl | rfl | rfl
    ·exact ⟨z.a, rfl⟩
    ·exact ⟨z.b, rfl⟩
    ·exact ⟨z.c, rfl⟩
    ·exact ⟨z.d, rfl⟩
    ·exact ⟨z.e, rfl⟩
    ·exact ⟨z.f, rfl⟩
   ·obtain ⟨x, hx⟩ := cellsL_zn l (j - 6) (by omega)
    refine ⟨x, ?_⟩
    show (enc z ++ cellsL l)[j]? = _
    rw [List.getElem?_append_right (by rw [hlen]; omega), hlen]
    exact hx
theorem ZRow.of {base : Nat} {W : World} {g n cap : Nat} {l : List Zn} (h : Own TZ base W (.slice (some ⟨g, 0, none⟩) n cap) l) : ZRow W g cap n ∧ base ≤ g ∧ g < W.heap.size := by
 obtain ⟨rfl, hb, hlt, cur', hg, hn, hm, hs, ht⟩ := h.at0
 refine ⟨⟨hn, hm, cur', hg, hs, fun j hj => ?_⟩, hb, hlt⟩
 obtain ⟨x, hx⟩ := cellsL_zn l j hj
 refine ⟨x, ?_⟩
 have h1 : (cur'.toList.take (l.length * 6))[j]? = some (.int .i64 x) := by
  have : cur'.toList.take (l.length * size Zn) = cellsL l := ht
  rw [show l.length * 6 = l.length * size Zn from rfl, this]; exact hx
 rw [List.getElem?_take] at h1
 rw [if_pos hj] at h1
 rw [← h1, Array.getElem?_toList]
theorem ZRow.kept {W X : World} {g cap n : Nat} (h : ZRow W g cap n) (e : X.heap[g]? = W.heap[g]?) : ZRow X g cap n := by
 obtain ⟨a, b, cur, c⟩ := h
 exact ⟨a, b, cur, e.trans c.1, c.2⟩
theorem ZRow.lt {W : World} {g cap n : Nat} (h : ZRow W g cap n) : g < W.heap.size := by
 obtain ⟨_, _, cur, c, _⟩ := h
 exact (Array.getElem?_eq_some_iff.1 c).1
theorem ZRow.at {w0 : Base} {hp : List LB} {r L : List Nat} {w w1 : World} {g cap n : Nat} (h : ZRow w g cap n) (h1 : At w0 hp r L w w1) (hL : g ∉ L) : ZRow w1 g cap n := h.kept (h1.step g h.lt hL)
theorem ZRow.below {W X : World} {g cap n : Nat} (h : ZRow W g cap n) (hB : Below W.heap.size W X) : ZRow X g cap n := h.kept (hB.block _ h.lt)
theorem ZRow.cell {W : World} {g cap n : Nat} (h : ZRow W g cap n) {j : Nat} (hj : j < n * 6) : ∃ x, W.cell? ⟨g, j, none⟩ = some (.int .i64 x) := by
 obtain ⟨_, _, cur, c, _, d⟩ := h
 obtain ⟨x, hx⟩ := d j hj
 refine ⟨x, ?_⟩
 simp [World.cell?, c, hx]
theorem setCell_neM {W : World} {B o k : Nat} {u : Value} (h : k ≠ B) : (W.setCell ⟨B, o, none⟩ u).heap[k]? = W.heap[k]? := Below.heap_setCell _ _ _ _ (by simpa using h)
theorem below_setCellM {n : Nat} {W X : World} {B o : Nat} {u : Value} (h : Below n W X) (hB : n ≤ B) : Below n W (X.setCell ⟨B, o, none⟩ u) :=
 ⟨h.os, h.tape, h.output, by simpa [World.setCell] using h.size, fun k hk => (setCell_neM (by omega)).trans (h.block k hk)⟩
theorem Own.setCellM {α : Type} [Enc α] {e : TypeId} {base : Nat} {W : World} {sv : Value} {l : List α} {B o : Nat} {u : Value} (h : Own e base W sv l) (hne : ∀ g, sv.ownBlock = some g → g ≠ B) : Own e base (W.setCell ⟨B, o, none⟩ u) sv l :=
 Own.kept (row := some B) h ⟨rfl, rfl, rfl, by simp [World.setCell], fun j hj hn => setCell_neM (fun e => hn (by rw [e]))⟩ (by
  cases ho : sv.ownBlock with
  | none => exact .inl rfl
  | some g => exact .inr (fun e => hne g ho (by injection e)))
theorem at_belowM {w0 : Base} {hp : List LB} {r L : List Nat} {w w1 : World} (h : At w0 hp r L w w1) (hL : ∀ b, b ∈ L → w.heap.size ≤ b) : Below w.heap.size w w1 :=
 ⟨h.below.os.trans h.base.os.symm, h.below.tape.trans h.base.tape.symm, h.below.output.trans h.base.output.symm, h.size, fun k hk => h.step k hk fun hm => by have := hL k hm; omega⟩
theorem cell_oneM {W : World} {B : Nat} {v : Value} {t : TypeId} (h : W.heap[B]? = some (.cells #[v] t (0, 0))) : W.cell? ⟨B, 0, none⟩ = some v := by simp [World.cell?, h]
theorem lt_cellsM {W : World} {B : Nat} {o : Obj} (h : W.heap[B]? = some o) : B < W.heap.size := (Array.getElem?_eq_some_iff.1 h).1
theorem setCell_oneM {W : World} {B : Nat} {v u : Value} {t : TypeId} (h : W.heap[B]? = some (.cells #[v] t (0, 0))) : (W.setCell ⟨B, 0, none⟩ u).heap[B]? = some (.cells #[u] t (0, 0)) := by
 simp only [World.setCell]
 rw [Array.getElem?_modify, if_pos rfl, h]
 rfl
theorem frozen_oneM {W : World} {B : Nat} {v : Value} {t : TypeId} (h : W.heap[B]? = some (.cells #[v] t (0, 0))) : W.frozen? ⟨B, 0, none⟩ = false := by simp [World.frozen?, h]
end Go.Proofs.YtanhnllkccldhaaGreat
namespace Go.Proofs
open Go.Shelf
def Tryz.growZ_ren : Go.Shelf.Ren := ⟨fun | 4 => 112 | n => n, fun | 22 => 22 | 25 => 86 | 3 => 3 | 4 => 4 | 9 => 9 | 20 => 20 | 0 => 0 | n => n, fun | n => n⟩
theorem Tryz.growZ : Go.Proofs.Lays8.n4 Tryz.prog Tryz.growZ_ren := {
 mixed := by kernel_rfl
 f4 := ⟨Tryz.f112.name, by decide, Tryz.func112.trans (congrArg some (by kernel_rfl))⟩
 t0 := Tryz.underlying0
 a0 := Tryz.isAgg0
 z0 := Tryz.sizeOf0
 v0 := Tryz.zeroValue0
 t3 := Tryz.underlying3
 a3 := Tryz.isAgg3
 z3 := Tryz.sizeOf3
 v3 := Tryz.zeroValue3
 t4 := Tryz.underlying4
 a4 := Tryz.isAgg4
 z4 := Tryz.sizeOf4
 v4 := Tryz.zeroValue4
 t9 := Tryz.underlying9
 a9 := Tryz.isAgg9
 z9 := Tryz.sizeOf9
 v9 := Tryz.zeroValue9
 t20 := Tryz.underlying20
 a20 := Tryz.isAgg20
 z20 := Tryz.sizeOf20
 v20 := Tryz.zeroValue20
 t22 := Tryz.underlying22
 a22 := Tryz.isAgg22
 z22 := Tryz.sizeOf22
 v22 := Tryz.zeroValue22 }
end Go.Proofs
namespace Go.Proofs.YtanhnllkccldhaaGreat
set_option linter.unusedVariables false
set_option linter.unusedSimpArgs false
set_option maxRecDepth 100000
open Go.RowKit Go.Proofs.YtanhnllkccldhaaGreat.Eng Enc
theorem own_newZ {w : World} {C : Array Value} {e : TypeId} {G base : Nat} (hb : base ≤ w.heap.size) (hs : C.size = G * 6) (hG : G ≤ maxLen) : Own e base (w.drew.alloc (.cells C e)) (.slice (some ⟨w.heap.size, 0, none⟩) 0 G) ([] : List Zn) :=
 ⟨rfl, .inr ⟨w.heap.size, G, C, rfl, hb, World.alloc_heap_new w.drew _, Nat.zero_le _, hG, hs, by simp [cellsL]⟩⟩
theorem growZ_any (n : Nat) (hn : n ≤ 100000) (w : World) :
 Calls Tryz.prog 112 #[.slice none 0 0, .int .i64 n] w (Ret w fun v w' => Own TZ w.heap.size w' v ([] : List Zn)) := by
 by_cases h0 : n = 0
 ·subst h0
  refine (Any8.slices_Grow_room Tryz.growZ none 0 0 0 w (Nat.le_refl _) (by omega) (by omega) (by omega)).mono ?_
  rintro e w' ⟨rfl, rfl⟩
  exact ⟨_, rfl, Below.refl _ _, Own.nil⟩
 ·have hi : ∃ i0, Tryz.prog.info? 86 = some i0 ∧ i0.zero = some (.agg #[.int .i64 0, .int .i64 0, .int .i64 0, .int .i64 0, .int .i64 0, .int .i64 0]) ∧ i0.size = 6 ∧ i0.bytes = 48 := by
   have h := infoZone
   cases hx : Tryz.prog.info? 86 with
   | none => rw [hx] at h; cases h
   | some i0 =>
     rw [hx] at h
     simp only [Option.map_some, Option.some.injEq, Prod.mk.injEq] at h
     exact ⟨i0, rfl, h.1, h.2.1, h.2.2⟩
  obtain ⟨i0, hi1, hi2, hi3, hi4⟩ := hi
  refine (Any8.slices_Grow_grow Tryz.growZ i0 _ hi1 hi2 (by omega) none 0 0 n [] w (Nat.le_refl _) (by omega) (by rw [hi4]; omega) (by omega) (by simp) (fun _ => rfl) (fun a e => by cases e)).mono ?_
  rintro e w' ⟨rfl, rfl⟩
  have hG := grownCap_ge w (0 + n) 0 (Tryz.growZ_ren.t 25)
  have hG2 := grownCap_le_maxLen w (0 + n) 0 (Tryz.growZ_ren.t 25) (by unfold maxLen; omega)
  refine ⟨_, rfl, ((Below.refl _ _).drew).alloc (Nat.le_refl _) _, own_newZ (e := Tryz.growZ_ren.t 25) (Nat.le_refl _) ?_ hG2⟩
  simp only [Array.size_append, Builtin.zeroCells, Array.size_map, Array.size_range]
  have hz : (Value.agg #[.int .i64 0, .int .i64 0, .int .i64 0, .int .i64 0, .int .i64 0, .int .i64 0]).cells.size = 6 := rfl
  rw [hz]
  generalize grownCap w (0 + n) 0 (Tryz.growZ_ren.t 25) = G at *
  show 0 + (0 + n - 0) * 6 + (G - (0 + n)) * 6 = G * 6
  omega
theorem flat_take {ls : List (List Zn)} {k : Nat} {l : List Zn} (h : ls[k]? = some l) : (ls.take (k + 1)).flatten = (ls.take k).flatten ++ l := by
 rw [List.take_add_one, h, List.flatten_append]; simp
theorem flat_le (ls : List (List Zn)) (k : Nat) : (ls.take k).flatten.length ≤ ls.flatten.length := by
 conv => rhs; rw [← List.take_append_drop k ls, List.flatten_append, List.length_append]
 omega
theorem concat_any (ss : List Svl) (ls : List (List Zn)) (htot : ls.flatten.length ≤ 100000) (a : Option Addr) (cap : Nat) (w : World) (hA : Shown w.heap.size w ss ls) (hS : Sl w.heap.size w (.slice a ss.length cap) ss) :
 Calls Tryz.prog 71 #[.slice a ss.length cap] w (Ret w fun v w' => ∃ a' c', v = .slice a' ls.flatten.length c' ∧ Own TZ w.heap.size w' (.slice a' ls.flatten.length c') ls.flatten) := by
 refine fun_ret 0 w Tryz.func71 (args := [.val (.slice a ss.length cap)]) rfl rfl ?_
 obtain ⟨hlen, hA⟩ := hA
 obtain ⟨_, _, hfe, hcap1, hcap2, _⟩ := hS.form
 injection hfe with _ _ hfe
 subst hfe
 unfold maxLen at hcap2
 refine LoopI.invC (α := Nat × World) (fun y => [(11, .val (.int .i64 y.1)), (3, .val (.int .i64 ((ls.take y.1).flatten.length : Nat)))]) (fun y => y.2) (fun y => y.1 ≤ ss.length ∧ Below w.heap.size w y.2) (fun y => ss.length - y.1) ?_ ?_
 ·intro w1 h1
  exact ⟨(0, w1), Cov.au rfl rfl rfl rfl rfl, rfl, Nat.zero_le _, h1.below⟩
 rintro ⟨k, W⟩ ⟨hk, hW⟩
 simp only at hk hW
 refine Branch.mk (fun hc => ?_) (fun hc => ?_)
 ·have hlt : k < ss.length := by simpa using hc
  have hg := List.getElem?_eq_getElem (l := ss) (i := k) hlt
  have hl := List.getElem?_eq_getElem (l := ls) (i := k) (by omega)
  obtain ⟨hs1, hs2⟩ := hA k _ _ hg hl
  generalize ls[k]'(by omega) = l at hl hs1 hs2
  have hft := flat_take hl
  have hfl := flat_le ls (k + 1)
  have hSW := hS.go hW hW.size
  refine hSW.idx hg fun ad had => ?_
  refine hSW.ldv hg rfl had (Below.refl _ _) (by simp) ?_
  rw [hft, List.length_append] at hfl
  refine Need.mk (by simp only [inK]; omega) ?_
  refine Branch.no (decide_eq_false (by simp only; omega)) ?_
  refine Need.mk (by simp only [inK]; omega) (EndI.mk fun w7 h7 => ⟨(k + 1, w7), ?_, rfl, ⟨hlt, h7.below⟩, by simp only; omega⟩)
  simp only
  rw [hft, List.length_append, ← hs2, Int.natCast_add]
  exact Cov.au rfl rfl rfl rfl rfl
 have hge : k = ls.length := by have : ¬ k < ss.length := by simpa using hc
                                omega
 subst hge
 clear hc hk
 have hfa : ((ls.take ls.length).flatten.length : Int) = ((ls.flatten.length : Nat) : Int) := by rw [List.take_length]
 conv => whnf
 simp only
 rw [hfa]
 apply CallI.use
 focus (exact fun w2 h2 => growZ_any ls.flatten.length htot w2)
 rintro v w2 v2 h2 hB2 hO2
 refine LoopI.invC (α := Nat × World × Value) (fun y => [(27, .val (.int .i64 y.1)), (6, .val y.2.2)]) (fun y => y.2.1) (fun y => y.1 ≤ ss.length ∧ Below w.heap.size w y.2.1 ∧ Own TZ w.heap.size y.2.1 y.2.2 (ls.take y.1).flatten) (fun y => ss.length - y.1) ?_ ?_
 ·intro w3 h3
  exact ⟨(0, w3, v), Cov.au rfl rfl rfl rfl rfl, rfl, Nat.zero_le _, h3.below, (hO2.lower h2.below.size).below (at_belowM h3 (by simp))⟩
 rintro ⟨k, U, tv⟩ ⟨hk, hU, hO⟩
 simp only at hk hU hO
 refine Branch.mk (fun hc => ?_) (fun hc => ?_)
 ·have hlt : k < ss.length := by simpa using hc
  have hg := List.getElem?_eq_getElem (l := ss) (i := k) hlt
  have hl := List.getElem?_eq_getElem (l := ls) (i := k) (by omega)
  obtain ⟨hs1, hs2⟩ := hA k _ _ hg hl
  generalize ls[k]'(by omega) = l at hl hs1 hs2
  have hft := flat_take hl
  have hfl := flat_le ls (k + 1)
  have hSU := hS.go hU hU.size
  refine hSU.idx hg fun ad had => ?_
  refine hSU.ldv hg rfl had (Below.refl _ _) (by simp) ?_
  rw [hft, List.length_append] at hfl
  rw [hs2] at hs1 ⊢
  refine GenN.app (α := Zn) elZ (ls.take k).flatten l w.heap.size (fun w5 h5 => hO.at h5 (by simp)) (fun w5 h5 => (hs1.go h5.below h5.below.size).src) (by unfold maxLen; omega) (by omega) (fun w5 h5 => h5.below.size) (fun w5 w6 h5 hg => keep_grown h5 hg (fun k hk => ⟨(hO.lt k hk).1, by simp⟩)) fun v1 w5 w6 h5 hg hO1 => ?_
  rw [← hft] at hO1
  refine Need.mk (by simp only [inK]; omega) (EndI.mk fun w7 h7 => ⟨(k + 1, w7, v1), Cov.au rfl rfl rfl rfl rfl, rfl, ⟨hlt, h7.below, hO1.below (at_belowM h7 (by simp))⟩, by simp only; omega⟩)
 ·have hge : k = ls.length := by have : ¬ k < ss.length := by simpa using hc
                                 omega
  subst hge
  rw [List.take_length] at hO
  obtain ⟨a', c', rfl⟩ := hO.form
  exact EndI.mk fun w9 h9 => ⟨_, _, rfl, hO.at h9 (by simp)⟩
end Go.Proofs.YtanhnllkccldhaaGreat
namespace Go.Proofs
open Go.Shelf
end Go.Proofs
namespace Go.Proofs.YtanhnllkccldhaaGreat
set_option linter.unusedVariables false
set_option linter.unusedSimpArgs false
set_option maxRecDepth 100000
open Go.RowKit Go.Proofs.YtanhnllkccldhaaGreat.Eng Enc
end Go.Proofs.YtanhnllkccldhaaGreat
