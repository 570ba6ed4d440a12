/-
  Lists in memory: how a slice shows a list, rows of the run's own, and how the engine reads and lengthens them.
-/
import Derived.Test.YtdecibfnhceloaaGreatUse
import Derived.Laws.AppendOwnNone
import Derived.Laws.OwnMore
namespace Go.Proofs.YtdecibfnhceloaaGreat
set_option linter.unusedVariables false
set_option linter.unusedSimpArgs false
open Go.RowKit Go.Proofs.YtdecibfnhceloaaGreat.Eng

/-- how an element lies in memory: its cells. -/
class Enc (α : Type) where
  enc : α → List Value
  size : Nat
  len : ∀ x, (enc x).length = size
  pos : 0 < size
  one : ∀ x, ∀ v ∈ enc x, v.oneCell' = true
  val : α → Value
open Enc
instance encInt : Enc Int := ⟨fun n => [.int .i64 n], 1, fun _ => rfl, by decide, fun _ v hv => by rw [List.mem_singleton.1 hv]; rfl, fun n => .int .i64 n⟩
/-- a fraction; a zone's six bounds. -/
structure Rt where
  num : Int
  den : Int
deriving DecidableEq
structure Zn where
  a : Int
  b : Int
  c : Int
  d : Int
  e : Int
  f : Int
deriving DecidableEq
instance encRt : Enc Rt := ⟨fun x => [.int .i64 x.num, .int .i64 x.den], 2, fun _ => rfl, by decide, fun _ v hv => by simp only [List.mem_cons, List.not_mem_nil, or_false] at hv; rcases hv with rfl | rfl <;> rfl, fun x => .agg #[.int .i64 x.num, .int .i64 x.den]⟩
instance encZn : Enc Zn := ⟨fun x => [.int .i64 x.a, .int .i64 x.b, .int .i64 x.c, .int .i64 x.d, .int .i64 x.e, .int .i64 x.f], 6, fun _ => rfl, by decide,
  fun _ v hv => by simp only [List.mem_cons, List.not_mem_nil, or_false] at hv; rcases hv with rfl | rfl | rfl | rfl | rfl | rfl <;> rfl, fun x => .agg #[.int .i64 x.a, .int .i64 x.b, .int .i64 x.c, .int .i64 x.d, .int .i64 x.e, .int .i64 x.f]⟩

section
variable {α : Type} [Enc α]
def cellsL : List α → List Value
  | [] => []
  | x :: l => enc x ++ cellsL l
theorem cellsL_append (l m : List α) : cellsL (l ++ m) = cellsL l ++ cellsL m := by
  induction l with
  | nil => rfl
  | cons x l ih => simp [cellsL, ih]
theorem cellsL_len (l : List α) : (cellsL l).length = l.length * size α := by
  induction l with
  | nil => simp [cellsL]
  | cons x l ih => simp only [cellsL, List.length_append, len, ih, List.length_cons, Nat.succ_mul]; omega
theorem cellsL_get (l : List α) {k i : Nat} {x : α} {c : Value} (hk : l[k]? = some x) (hi : (enc x)[i]? = some c) : (cellsL l)[k * size α + i]? = some c := by
  have hil : i < size α := by have := (List.getElem?_eq_some_iff.1 hi).1; rwa [len] at this
  induction l generalizing k with
  | nil => cases hk
  | cons y l ih =>
    cases k with
    | zero =>
      injection hk with hk; subst hk
      simp only [cellsL, Nat.zero_mul, Nat.zero_add]
      rw [List.getElem?_append_left (by rw [len]; exact hil)]; exact hi
    | succ k =>
      simp only [cellsL]
      rw [List.getElem?_append_right (by rw [len, Nat.succ_mul]; omega), len, show (k + 1) * size α + i - size α = k * size α + i by rw [Nat.succ_mul]; omega]
      exact ih hk
theorem cellsL_one (l : List α) : ∀ u ∈ cellsL l, u.oneCell' = true := by
  induction l with
  | nil => intro u hu; cases hu
  | cons x l ih =>
    intro u hu
    rcases List.mem_append.1 hu with h | h
    · exact Enc.one x u h
    · exact ih u h

/-- the slice sv shows the list l, in a block below n. -/
def Sl (n : Nat) (W : World) (sv : Value) (l : List α) : Prop :=
  ∃ (a : Option Addr) (cap : Nat), sv = .slice a l.length cap ∧ l.length ≤ cap ∧ cap ≤ maxLen ∧ (a = none → cap = 0) ∧
    ∀ k x, l[k]? = some x → ∃ b o, a = some ⟨b, o, none⟩ ∧ b < n ∧ ∀ i c, (enc x)[i]? = some c → W.cell? ⟨b, o + (k * size α + i), none⟩ = some c

theorem Sl.form {n : Nat} {W : World} {sv : Value} {l : List α} (h : Sl n W sv l) : ∃ a cap, sv = .slice a l.length cap ∧ l.length ≤ cap ∧ cap ≤ maxLen ∧ (a = none → cap = 0) := by
  obtain ⟨a, cap, e, h1, h2, h3, _⟩ := h; exact ⟨a, cap, e, h1, h2, h3⟩
theorem Sl.below {n : Nat} {A B : World} {sv : Value} {l : List α} (h : Sl n A sv l) (hB : Below n A B) : Sl n B sv l := by
  obtain ⟨a, cap, e, h1, h2, h3, h4⟩ := h
  refine ⟨a, cap, e, h1, h2, h3, fun k x hk => ?_⟩
  obtain ⟨b, o, ha, hb, hc⟩ := h4 k x hk
  exact ⟨b, o, ha, hb, fun i c hi => (hB.cell (p := ⟨b, _, none⟩) hb).trans (hc i c hi)⟩
theorem Sl.upto {n m : Nat} {A : World} {sv : Value} {l : List α} (h : Sl n A sv l) (hm : n ≤ m) : Sl m A sv l := by
  obtain ⟨a, cap, e, h1, h2, h3, h4⟩ := h
  refine ⟨a, cap, e, h1, h2, h3, fun k x hk => ?_⟩
  obtain ⟨b, o, ha, hb, hc⟩ := h4 k x hk
  exact ⟨b, o, ha, Nat.lt_of_lt_of_le hb hm, hc⟩
theorem Sl.go {n : Nat} {A B : World} {sv : Value} {l : List α} (h : Sl n A sv l) (hB : Below n A B) (hn : n ≤ B.heap.size) : Sl B.heap.size B sv l := (h.below hB).upto hn
/-- what showed a list at the start does so at any later time. -/
theorem Sl.at {w0 : Base} {hp : List LB} {r L : List Nat} {w w1 : World} (h1 : At w0 hp r L w w1) {sv : Value} {l : List α} (h : Sl w0.B w0.W sv l) : Sl w1.heap.size w1 sv l := h.go h1.below (Nat.le_trans w0.le h1.below.size)
theorem Sl.nil {n : Nat} {A : World} : Sl n A (.slice none 0 0) ([] : List α) := ⟨none, 0, rfl, Nat.le_refl _, by simp [maxLen], fun _ => rfl, fun k x hk => by simp at hk⟩
theorem addr_addL (b o j : Nat) : (⟨b, o, none⟩ : Addr).add j = ⟨b, o + j, none⟩ := Addr.add_lit ..

/-- an element's place. -/
theorem Sl.idx {n : Nat} {W : World} {a : Option Addr} {m cap : Nat} {l : List α} (h : Sl n W (.slice a m cap) l) {k : Nat} {x : α} (hk : l[k]? = some x) {K : Addr → Prop} (hK : ∀ ad, a = some ad → K ad) : IdxI a (k : Int) (m : Int) K := by
  obtain ⟨a', cap', e, h1, h2, h3, h4⟩ := h
  injection e with e1 e2 e3
  subst e1; subst e2; subst e3
  obtain ⟨b, o, ha, hb, hc⟩ := h4 k x hk
  have := (List.getElem?_eq_some_iff.1 hk).1
  exact ⟨⟨_, ⟨ha, by omega, by omega⟩, hK _ ha⟩⟩
theorem Sl.cell {n : Nat} {W W' : World} {ad : Addr} {m cap : Nat} {l : List α} (h : Sl n W (.slice (some ad) m cap) l) {k : Nat} {x : α} (hk : l[k]? = some x) (hB : Below n W W') : ad.block < n ∧ ∀ i c, (enc x)[i]? = some c → W'.cell? ((ad.add ((k : Int).toNat * size α)).add i) = some c := by
  obtain ⟨a', cap', e, h1, h2, h3, h4⟩ := h
  injection e with e1 e2 e3
  subst e1; subst e2; subst e3
  obtain ⟨b, o, ha, hb, hc⟩ := h4 k x hk
  injection ha with ha; subst ha
  refine ⟨hb, fun i c hi => ?_⟩
  rw [addr_addL, addr_addL, Int.toNat_natCast, Nat.add_assoc]
  exact (hB.cell (p := ⟨b, _, none⟩) hb).trans (hc i c hi)
theorem Sl.ld {n : Nat} {W w : World} {L : List Nat} {a : Option Addr} {ad : Addr} {m cap : Nat} {l : List α} (h : Sl n W (.slice a m cap) l) {k : Nat} {x : α} (hk : l[k]? = some x) (had : a = some ad) (hB : Below n W w) (hL : ∀ b, b ∈ L → n ≤ b) {K : List Value → Prop} (hK : K (enc x)) :
    LoadA w L (size α) (ad.add ((k : Int).toNat * size α)) K := by
  subst had
  obtain ⟨h1, h2⟩ := h.cell hk hB
  refine ⟨⟨enc x, ⟨len x, pos, fun e => ?_, fun j c hj => h2 j c hj⟩, hK⟩⟩
  have hb : (ad.add ((k : Int).toNat * size α)).block = ad.block := by unfold Addr.add; split <;> rfl
  rw [hb] at e
  have := hL _ e; omega
end
theorem Sl.ld1 {n : Nat} {W w : World} {L : List Nat} {a : Option Addr} {ad : Addr} {m cap : Nat} {l : List Int} (h : Sl n W (.slice a m cap) l) {k : Nat} {x : Int} (hk : l[k]? = some x) (had : a = some ad) (hB : Below n W w) (hL : ∀ b, b ∈ L → n ≤ b) {K : Value → Prop} (hK : K (.int .i64 x)) :
    LoadI w L (ad.add ((k : Int).toNat * 1)) K := by
  subst had
  obtain ⟨h1, h2⟩ := h.cell hk hB
  have h3 := h2 0 (.int .i64 x) rfl
  have h0 : ∀ q : Addr, q.add 0 = q := fun q => by simp [Addr.add]
  rw [h0] at h3
  refine ⟨⟨_, ⟨h3, fun e => ?_⟩, hK⟩⟩
  have hb : (ad.add ((k : Int).toNat * 1)).block = ad.block := by unfold Addr.add; split <;> rfl
  rw [hb] at e
  have := hL _ e; omega

section
variable {α : Type} [Enc α]
/-- a part of a slice. -/
theorem Sl.sub {n : Nat} {W : World} {a : Option Addr} {m cap : Nat} {l : List α} (h : Sl n W (.slice a m cap) l) (lo hi : Nat) (h1 : lo ≤ hi) (h2 : hi ≤ l.length) :
    Sl n W (.slice (if cap = lo then a else a.map (·.add (lo * size α))) (hi - lo) (cap - lo)) ((l.drop lo).take (hi - lo)) := by
  obtain ⟨a', cap', e, c1, c2, c3, c4⟩ := h
  injection e with e1 e2 e3
  subst e1; subst e2; subst e3
  have hl : ((l.drop lo).take (hi - lo)).length = hi - lo := by simp; omega
  refine ⟨_, _, by rw [hl], by rw [hl]; omega, by omega, ?_, fun k x hk => ?_⟩
  · intro e
    split at e
    · have := c3 e; omega
    · cases a with
      | none => have := c3 rfl; omega
      | some ad => cases e
  · rw [List.getElem?_take] at hk
    split at hk
    case isFalse => cases hk
    rename_i hkl
    rw [List.getElem?_drop] at hk
    have hlt := (List.getElem?_eq_some_iff.1 hk).1
    obtain ⟨b, o, ha, hb, hc⟩ := c4 _ x hk
    subst ha
    rw [if_neg (by omega)]
    refine ⟨b, o + lo * size α, by simp [addr_addL], hb, fun i c hi => ?_⟩
    have := hc i c hi
    rw [Nat.add_mul] at this
    rw [show o + lo * size α + (k * size α + i) = o + (lo * size α + k * size α + i) by omega]
    exact this

/-- a row of the run's own that shows the list l. -/
def Own (e : TypeId) (base : Nat) (W : World) (sv : Value) (l : List α) : Prop := W.ownsRow base e (size α) sv l.length (cellsL l)
theorem Own.nil {e : TypeId} {base : Nat} {W : World} : Own e base W (.slice none 0 0) ([] : List α) := World.ownsRow_nil _ _ _ _
theorem Own.sl {e : TypeId} {base : Nat} {W : World} {sv : Value} {l : List α} (h : Own e base W sv l) : Sl W.heap.size W sv l := by
  obtain ⟨_, ⟨rfl, h0⟩ | ⟨g, cap, cur, rfl, _, hg, hc, hm, _, _⟩⟩ := id h
  · obtain rfl := List.eq_nil_of_length_eq_zero h0
    exact Sl.nil
  · refine ⟨_, _, rfl, hc, hm, (fun e => nomatch e), fun k x hk => ⟨g, 0, rfl, (Array.getElem?_eq_some_iff.1 hg).1, fun i c hi => ?_⟩⟩
    have := World.ownsRow.cells h (g := g) rfl _ c (cellsL_get l hk hi)
    rwa [addr_addL] at this
theorem Own.kept {e : TypeId} {base : Nat} {W W' : World} {row : Option Nat} {sv : Value} {l : List α} (h : Own e base W sv l) (hg : W.grownBy W' row) (hne : sv.ownBlock = none ∨ sv.ownBlock ≠ row) : Own e base W' sv l := World.ownsRow.kept h hg hne
theorem Own.below {e : TypeId} {base : Nat} {W W' : World} {sv : Value} {l : List α} (h : Own e base W sv l) (hB : Below W.heap.size W W') : Own e base W' sv l :=
  World.ownsRow.kept (row := none) h ⟨hB.os, hB.tape, hB.output, hB.size, fun k hk _ => hB.block k hk⟩ (by cases sv.ownBlock <;> simp)
theorem Own.lower {e : TypeId} {base base' : Nat} {W : World} {sv : Value} {l : List α} (h : Own e base W sv l) (hb : base' ≤ base) : Own e base' W sv l := by
  obtain ⟨hl, h0 | ⟨g, cap, cur, e1, e2, e3⟩⟩ := h
  · exact ⟨hl, .inl h0⟩
  · exact ⟨hl, .inr ⟨g, cap, cur, e1, Nat.le_trans hb e2, e3⟩⟩
theorem Own.at {w0 : Base} {hp : List LB} {r L : List Nat} {w w1 : World} {e : TypeId} {base : Nat} {sv : Value} {l : List α} (h1 : At w0 hp r L w w1) (h : Own e base w sv l) (hL : ∀ b, b ∈ L → b < base) : Own e base w1 sv l := by
  obtain ⟨hl, h0 | ⟨g, cap, cur, e1, e2, e3, e4⟩⟩ := h
  · exact ⟨hl, .inl h0⟩
  · exact ⟨hl, .inr ⟨g, cap, cur, e1, e2, (h1.step g (Array.getElem?_eq_some_iff.1 e3).1 (fun e => by have := hL g e; omega)).trans e3, e4⟩⟩
theorem Own.form {e : TypeId} {base : Nat} {W : World} {sv : Value} {l : List α} (h : Own e base W sv l) : ∃ a cap, sv = .slice a l.length cap := by
  obtain ⟨_, ⟨rfl, h0⟩ | ⟨g, cap, cur, rfl, _⟩⟩ := h
  · exact ⟨_, _, by rw [h0]⟩
  · exact ⟨_, _, rfl⟩
theorem Own.lt {e : TypeId} {base : Nat} {W : World} {sv : Value} {l : List α} (h : Own e base W sv l) : ∀ k, sv.ownBlock = some k → base ≤ k ∧ k < W.heap.size := World.ownsRow.lt h

/-- what an element type is, for an append. -/
structure ElOk (P : Program) (t e : TypeId) (sz bytes : Nat) : Prop where
  ht : P.underlying t = some (.slice e)
  hi : ∃ i z, P.info? e = some i ∧ i.zero = some z ∧ i.size = sz ∧ i.bytes = bytes ∧ z.cells.size = sz
  pos : 0 < sz
theorem elOk {P : Program} {t e : TypeId} {sz bytes : Nat} {z : Value} (ht : P.underlying t = some (.slice e)) (hi : (P.info? e).map (fun i => (i.zero, i.size, i.bytes)) = some (some z, sz, bytes)) (hz : z.cells.size = sz) (hp : 0 < sz) : ElOk P t e sz bytes := by
  refine ⟨ht, ?_, hp⟩
  cases h : P.info? e with
  | none => rw [h] at hi; cases hi
  | some i =>
    rw [h] at hi
    injection hi with hi
    injection hi with h1 h2
    injection h2 with h2 h3
    exact ⟨i, z, rfl, h1, h2, h3, hz⟩

/-- what is appended: m elements of so many cells each, which hold news. -/
def SrcC (w : World) (sv : Value) (sz m : Nat) (news : List Value) : Prop :=
  news.length = m * sz ∧ ((sv = .slice none 0 0 ∧ m = 0) ∨ ∃ ad c, sv = .slice (some ad) m c ∧ ∀ j u, news[j]? = some u → w.cell? (ad.add j) = some u)
theorem Sl.src {n : Nat} {W : World} {sv : Value} {l : List α} (h : Sl n W sv l) : SrcC W sv (size α) l.length (cellsL l) := by
  obtain ⟨a, cap, rfl, h1, h2, h3, h4⟩ := h
  refine ⟨cellsL_len l, ?_⟩
  cases a with
  | none =>
    have h5 := h3 rfl
    have h6 : l.length = 0 := by omega
    exact .inl ⟨by rw [h5, h6], h6⟩
  | some ad =>
    refine .inr ⟨ad, cap, rfl, fun j u hu => ?_⟩
    have hj := (List.getElem?_eq_some_iff.1 hu).1
    rw [cellsL_len] at hj
    have hp := pos (α := α)
    have hk : j / size α < l.length := (Nat.div_lt_iff_lt_mul hp).2 hj
    have hm : j % size α < size α := Nat.mod_lt _ hp
    obtain ⟨b, o, ha, hb, hc⟩ := h4 _ _ (List.getElem?_eq_getElem hk)
    injection ha with ha; subst ha
    have hx : (enc l[j / size α])[j % size α]? = some ((enc l[j / size α])[j % size α]'(by rw [len]; exact hm)) := List.getElem?_eq_getElem _
    have h6 := cellsL_get l (List.getElem?_eq_getElem hk) hx
    rw [Nat.div_add_mod' j (size α)] at h6
    rw [h6] at hu
    injection hu with hu
    have h7 := hc _ _ hx
    rw [Nat.div_add_mod' j (size α)] at h7
    rw [addr_addL, h7, hu]

theorem run_append_src {P : Program} {w : World} {t ty e : TypeId} {sz bytes : Nat} (hE : ElOk P t e sz bytes) (base : Nat) (v : Value) (n : Nat) (xs : List Value) (hown : w.ownsRow base e sz v n xs)
    (sv : Value) (m : Nat) (news : List Value) (hsrc : SrcC w sv sz m news) (h1 : ∀ u ∈ news, u.oneCell' = true) (h63 : n + m ≤ maxLen) (hbytes : (n + m) * bytes ≤ 140737488355328) (hbase : base ≤ w.heap.size) :
    ∃ v' w', (Builtin.append_ #[t, t] ty #[v, sv]).run P w = .ok v' w' ∧ w'.ownsRow base e sz v' (n + m) (xs ++ news) ∧ w.grownBy w' v.ownBlock := by
  obtain ⟨ht, ⟨i, z, hi, hz, hs, hb, hzs⟩, hp⟩ := hE
  obtain ⟨hl, ⟨rfl, rfl⟩ | ⟨ad, c, rfl, hc⟩⟩ := hsrc
  · have hn : news = [] := List.eq_nil_of_length_eq_zero (by simpa using hl)
    subst hn
    exact ⟨v, w, run_append_owned_none w base t ty e i sz ht hi v n xs hown, by simpa using hown, ⟨rfl, rfl, rfl, Nat.le_refl _, fun _ _ _ => rfl⟩⟩
  · obtain ⟨v', w', a1, a2, a3, _⟩ := run_append_own w base t ty e i z sz bytes ht hi hz hs hb hzs hp v n xs hown ad m c news hl hc h1 h63 hbytes hbase
    exact ⟨v', w', a1, a2, a3⟩
end

/-- what the memory keeps where a row of the run's own has been lengthened. -/
theorem keep_grown {w0 : Base} {hp : List LB} {r L : List Nat} {w w1 w2 : World} {row : Option Nat} (h : At w0 hp r L w w1) (hg : w1.grownBy w2 row) (hr : ∀ k, row = some k → w0.B ≤ k ∧ k ∉ r) : Keep w0 r w1 w2 :=
  ⟨⟨hg.os, hg.tape, hg.output, hg.size, fun k hk => hg.block k (Nat.lt_of_lt_of_le hk (Nat.le_trans w0.le h.below.size)) (fun e => by have := (hr k e.symm).1; omega)⟩,
   fun b hb => hg.block b (h.lt b hb) (fun e => (hr b e.symm).2 hb)⟩
theorem kpD_grown {w0 : Base} {wr : World} {M : List Nat} {hp : List LB} {r L : List Nat} {w w1 w2 : World} {row : Option Nat} (h : At w0 hp r L w w1) (hg : w1.grownBy w2 row) (hr : ∀ k, row = some k → w0.B ≤ k ∧ k ∉ r ∧ (k ∈ M ∨ wr.heap.size ≤ k)) : kpD w0 wr M r w1 w2 := fun hs =>
  ⟨keep_grown h hg fun k hk => ⟨(hr k hk).1, (hr k hk).2.1⟩, fun k hk hm => hg.block k (Nat.lt_of_lt_of_le hk hs) (fun e => by rcases (hr k e.symm).2.2 with h | h; exact hm h; omega)⟩

/-- an append to a row of the run's own. -/
theorem GenN.app {α : Type} [Enc α] {P : Program} {w0 : Base} {kp : List Nat → World → World → Prop} {hp : List LB} {r L : List Nat} {w : World} {K : Value → World → Prop} {t ty e : TypeId} {bytes : Nat} {consts : Array Bool} {v sv : Value}
    (hE : ElOk P t e (size α) bytes) (l m : List α) (base : Nat) (hown : ∀ w1, At w0 hp r L w w1 → Own e base w1 v l) (hsrc : ∀ w1, At w0 hp r L w w1 → SrcC w1 sv (size α) m.length (cellsL m))
    (h63 : l.length + m.length ≤ maxLen) (hbytes : (l.length + m.length) * bytes ≤ 140737488355328) (hbase : ∀ w1, At w0 hp r L w w1 → base ≤ w1.heap.size)
    (hkp : ∀ w1 w2, At w0 hp r L w w1 → w1.grownBy w2 v.ownBlock → kp r w1 w2) (hk : ∀ v' w1 w2, At w0 hp r L w w1 → w1.grownBy w2 v.ownBlock → Own e base w2 v' (l ++ m) → K v' w2) :
    GenN P w0 kp (builtin .append #[t, t] ty consts #[v, sv]) hp r L w K := ⟨fun w1 h1 => by
  obtain ⟨v', w2, hrun, ho, hg⟩ := run_append_src (ty := ty) hE base v _ _ (hown w1 h1) sv _ _ (hsrc w1 h1) (cellsL_one m) h63 hbytes (hbase w1 h1)
  refine ⟨v', w2, ?_, hkp w1 w2 h1 hg, hk v' w1 w2 h1 hg ?_⟩
  · simp only [builtin, Sem.run_bind, hrun, Result.andThen, Sem.run_pure]
  · unfold Own; rw [cellsL_append, List.length_append]; exact ho⟩
/-- cells of a block of the run's own, as what is appended. -/
theorem src_own {α : Type} [Enc α] {w0 : Base} {hp : List LB} {r L : List Nat} {w w1 : World} {m : List α} (h : At w0 hp r L w w1) (i : Nat) {b : Nat} {c : LB} {k : Nat} (hi : r[i]? = some b) (hc : hget hp i = some c) (hm : denL r c.cells = cellsL m) (hk : k = m.length) : SrcC w1 (.slice (some ⟨b, 0, none⟩) k k) (size α) m.length (cellsL m) := by
  subst hk
  refine ⟨cellsL_len m, .inr ⟨_, _, rfl, fun j u hu => ?_⟩⟩
  have h1 := h.blk i b c hi hc
  rw [addr_addL, Nat.zero_add]
  simp only [World.cell?, h1, hm]
  simpa using hu

/-- a slice of a block of the run's own. -/
theorem Sl.own {α : Type} [Enc α] {w0 : Base} {hp : List LB} {r L : List Nat} {w w1 : World} {l : List α} (h : At w0 hp r L w w1) (i : Nat) {b : Nat} {c : LB} (hi : r[i]? = some b) (hc : hget hp i = some c) (hm : denL r c.cells = cellsL l) {cap : Nat} (hcap : l.length ≤ cap) (hmax : cap ≤ maxLen) : Sl w1.heap.size w1 (.slice (some ⟨b, 0, none⟩) l.length cap) l := by
  refine ⟨_, _, rfl, hcap, hmax, (fun e => nomatch e), fun k x hk => ⟨b, 0, rfl, h.lt b (List.mem_of_getElem? hi), fun j u hu => ?_⟩⟩
  have h1 := h.blk i b c hi hc
  rw [Nat.zero_add]
  simp only [World.cell?, h1, hm]
  simpa using cellsL_get l hk hu
theorem run_append_full {P : Program} {w : World} {t ty e : TypeId} {sz bytes : Nat} (hE : ElOk P t e sz bytes) (base b n : Nat) (xs : List Value) (hown : w.ownsRow base e sz (.slice (some ⟨b, 0, none⟩) n n) n xs)
    (sv : Value) (m : Nat) (news : List Value) (hsrc : SrcC w sv sz m news) (h1 : ∀ u ∈ news, u.oneCell' = true) (h63 : n + m ≤ maxLen) (hbytes : (n + m) * bytes ≤ 140737488355328) (hbase : base ≤ w.heap.size) :
    ∃ v' w', (Builtin.append_ #[t, t] ty #[.slice (some ⟨b, 0, none⟩) n n, sv]).run P w = .ok v' w' ∧ w'.ownsRow base e sz v' (n + m) (xs ++ news) ∧ w.grownBy w' none := by
  obtain ⟨ht, ⟨i, z, hi, hz, hs, hb, hzs⟩, hp⟩ := hE
  obtain ⟨hl, ⟨rfl, rfl⟩ | ⟨ad, c, rfl, hc⟩⟩ := hsrc
  · have hn : news = [] := List.eq_nil_of_length_eq_zero (by simpa using hl)
    subst hn
    exact ⟨_, w, run_append_owned_none w base t ty e i sz ht hi _ n xs hown, by simpa using hown, ⟨rfl, rfl, rfl, Nat.le_refl _, fun _ _ _ => rfl⟩⟩
  · by_cases hm : m = 0
    · subst hm
      have hn : news = [] := List.eq_nil_of_length_eq_zero (by simpa using hl)
      subst hn
      refine ⟨.slice (some ⟨b, 0, none⟩) n n, w, ?_, by simpa using hown, ⟨rfl, rfl, rfl, Nat.le_refl _, fun _ _ _ => rfl⟩⟩
      simp [Builtin.append_, run_underlying ht, sizeOf, typeInfo, hi, Builtin.lenOf, Builtin.firstCells, loadCells, loadCellsFrom, storeCells]
    · subst hs; subst hb
      have hsmall : n + m ≤ 9223372036854775807 := by simp only [maxLen] at h63; omega
      have hlen : (xs ++ news).length = (n + m) * i.size := by rw [List.length_append, hown.1, hl, Nat.add_mul]
      have holds : ∀ j u, xs[j]? = some u → w.cell? ((⟨b, 0, none⟩ : Addr).add j) = some u := World.ownsRow.cells hown (g := b) rfl
      have hr := run_append_grow (P := P) w t ty e i z ht hi hz ⟨b, 0, none⟩ n n xs hown.1 holds ad m c news hl hc (by omega) (by omega) (growslice_fits (by omega) hbytes)
      have hge := grownCap_ge w (n + m) n e
      have hcm : grownCap w (n + m) n e ≤ maxLen := grownCap_le_maxLen w (n + m) n e h63
      refine ⟨_, _, hr, ⟨hlen, .inr ⟨w.heap.size, _, _, rfl, hbase, World.alloc_heap_new w.drew _, hge, hcm, ?_, ?_⟩⟩, ⟨rfl, rfl, rfl, by simp, fun k hk _ => Below.heap_alloc w.drew _ k hk⟩⟩
      · simp only [Array.size_append, List.size_toArray, size_zeroCells, hzs, hown.1, hl, ← Nat.add_mul]
        congr 1
        omega
      · simp only [Array.toList_append, List.append_assoc]
        rw [← List.append_assoc, ← hlen]
        exact List.take_left
/-- an append to a row of the run's own that is full. -/
theorem GenN.appF {α : Type} [Enc α] {P : Program} {w0 : Base} {kp : List Nat → World → World → Prop} [hkp : KpOk w0 kp] {hp : List LB} {r L : List Nat} {w : World} {K : Value → World → Prop} {t ty e : TypeId} {bytes : Nat} {consts : Array Bool} {b n : Nat} {sv : Value}
    (hE : ElOk P t e (size α) bytes) (l m : List α) (base : Nat) (hn : n = l.length) (hown : ∀ w1, At w0 hp r L w w1 → Own e base w1 (.slice (some ⟨b, 0, none⟩) n n) l) (hsrc : ∀ w1, At w0 hp r L w w1 → SrcC w1 sv (size α) m.length (cellsL m))
    (h63 : l.length + m.length ≤ maxLen) (hbytes : (l.length + m.length) * bytes ≤ 140737488355328) (hbase : ∀ w1, At w0 hp r L w w1 → base ≤ w1.heap.size)
    (hk : ∀ v' w1 w2, At w0 hp r L w w1 → Below w1.heap.size w1 w2 → Own e base w2 v' (l ++ m) → K v' w2) :
    GenN P w0 kp (builtin .append #[t, t] ty consts #[.slice (some ⟨b, 0, none⟩) n n, sv]) hp r L w K := ⟨fun w1 h1 => by
  subst hn
  obtain ⟨v', w2, hrun, ho, hg⟩ := run_append_full (ty := ty) hE base b _ _ (hown w1 h1) sv _ _ (hsrc w1 h1) (cellsL_one m) h63 hbytes (hbase w1 h1)
  have hB : Below w1.heap.size w1 w2 := ⟨hg.os, hg.tape, hg.output, hg.size, fun k hk => hg.block k hk (by simp)⟩
  refine ⟨v', w2, ?_, hkp.ok h1 hB, hk v' w1 w2 h1 hB ?_⟩
  · simp only [builtin, Sem.run_bind, hrun, Result.andThen, Sem.run_pure]
  · unfold Own; rw [cellsL_append, List.length_append]; exact ho⟩
end Go.Proofs.YtdecibfnhceloaaGreat
