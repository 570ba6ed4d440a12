/-
  Rows of the run's own, an element set; slices of slices; lists of zones.
-/
import Derived.Test.YtdecibfnhceloaaGreatStay
namespace Go.Proofs.YtdecibfnhceloaaGreat
set_option linter.unusedVariables false
open Go.RowKit Go.Proofs.YtdecibfnhceloaaGreat.Eng Enc

/-- a slice, as an element of a slice. -/
structure Svl where
  a : Option Addr
  len : Nat
  cap : Nat
instance encSvl : Enc Svl := ⟨fun x => [.slice x.a x.len x.cap], 1, fun _ => rfl, by decide, fun _ v hv => by rw [List.mem_singleton.1 hv]; rfl, fun x => .slice x.a x.len x.cap⟩

section
variable {α : Type} [Enc α]
theorem cellsL_set (l : List α) (k : Nat) (x : α) (hk : k < l.length) : cellsL (l.set k x) = (cellsL l).take (k * size α) ++ enc x ++ (cellsL l).drop (k * size α + size α) := by
  induction l generalizing k with
  | nil => simp at hk
  | cons y l ih =>
    cases k with
    | zero =>
      simp only [List.set_cons_zero, cellsL, Nat.zero_mul, List.take_zero, List.nil_append, Nat.zero_add]
      rw [List.drop_append_of_le_length (by rw [Enc.len]; exact Nat.le_refl _), List.drop_of_length_le (by rw [Enc.len]; exact Nat.le_refl _), List.nil_append]
    | succ k =>
      have hk' : k < l.length := by simpa using hk
      simp only [List.set_cons_succ, cellsL, ih k hk']
      have e1 : (k + 1) * size α = size α + k * size α := by rw [Nat.succ_mul]; omega
      rw [e1, List.take_append, List.drop_append, Enc.len, List.take_of_length_le (l := enc y) (by rw [Enc.len]; omega), List.drop_of_length_le (l := enc y) (by rw [Enc.len]; omega)]
      rw [show size α + k * size α - size α = k * size α by omega, show size α + k * size α + size α - size α = k * size α + size α by omega, List.nil_append]
      simp only [List.append_assoc]
theorem Own.set {e : TypeId} {base : Nat} {W : World} {g n cap : Nat} {l : List α} (h : Own e base W (.slice (some ⟨g, 0, none⟩) n cap) l) {cur : Array Value} (hc : W.heap[g]? = some (.cells cur e (0, 0))) (k : Nat) (hk : k < l.length) (x : α) :
    Own e base (W.setRow g (cur.toList.take (k * size α) ++ enc x ++ cur.toList.drop (k * size α + (enc x).length)).toArray) (.slice (some ⟨g, 0, none⟩) n cap) (l.set k x) := by
  obtain ⟨rfl, hb, hlt, cur', hg, hn, hm, hs, ht⟩ := h.at0
  rw [hg] at hc
  injection hc with hc; injection hc with hc _; subst hc
  have hkk : (k + 1) * size α ≤ l.length * size α := Nat.mul_le_mul_right _ hk
  rw [Nat.succ_mul] at hkk
  have hcl : l.length * size α ≤ cap * size α := Nat.mul_le_mul_right _ hn
  refine ⟨by rw [cellsL_len, List.length_set], .inr ⟨g, cap, _, by rw [List.length_set], hb, setRow_heap W g cur' _ e _ hg, by rw [List.length_set]; exact hn, hm, ?_, ?_⟩⟩
  · simp only [List.size_toArray, List.length_append, List.length_take, List.length_drop, Array.length_toList, Enc.len]; omega
  · rw [List.length_set, cellsL_set l k x hk, ← ht]
    have hl : cur'.toList.length = cap * size α := by rw [Array.length_toList, hs]
    apply List.ext_getElem?
    intro j
    simp only [List.getElem?_append, List.getElem?_take, List.getElem?_drop, List.length_append, List.length_take, Enc.len, hl]
    rw [show min (k * size α) (cap * size α) = k * size α by omega, show min (k * size α) (min (l.length * size α) (cap * size α)) = k * size α by omega]
    by_cases h1 : j < k * size α
    · have h1' : j < k * size α + size α := by omega
      have h1'' : j < l.length * size α := by omega
      simp only [h1, h1', h1'', if_true]
    · by_cases h2 : j < k * size α + size α
      · have h2' : j < l.length * size α := by omega
        simp only [h1, h2, h2', if_true, if_false]
      · by_cases h3 : j < l.length * size α
        · have h3' : k * size α + size α + (j - (k * size α + size α)) < l.length * size α := by omega
          simp only [h1, h2, h3, h3', if_true, if_false]
        · have h3' : ¬ k * size α + size α + (j - (k * size α + size α)) < l.length * size α := by omega
          simp only [h1, h2, h3, h3', if_false]
/-- a load of an element of one cell. -/
theorem Sl.ldv {n : Nat} {W w : World} {L : List Nat} {a : Option Addr} {ad : Addr} {m cap : Nat} {l : List α} (h : Sl n W (.slice a m cap) l) {k : Nat} {x : α} (hk : l[k]? = some x) {v : Value} (hv : enc x = [v]) (had : a = some ad) (hB : Below n W w) (hL : ∀ b, b ∈ L → n ≤ b) {K : Value → Prop} (hK : K v) :
    LoadI w L (ad.add ((k : Int).toNat * 1)) K := by
  subst had
  have hs : size α = 1 := by have := Enc.len x; rw [hv] at this; exact this.symm
  obtain ⟨h1, h2⟩ := h.cell hk hB
  have h3 := h2 0 v (by rw [hv]; rfl)
  have h0 : ∀ q : Addr, q.add 0 = q := fun q => by simp [Addr.add]
  rw [h0, hs] at h3
  refine ⟨⟨_, ⟨h3, fun e => ?_⟩, hK⟩⟩
  have hb : (ad.add ((k : Int).toNat * 1)).block = ad.block := by unfold Addr.add; split <;> rfl
  rw [hb] at e
  have := hL _ e; omega
end
theorem infoZone : (Tryz.prog.info? 43).map (fun i => (i.zero, i.size, i.bytes)) = some (some (.agg #[.int .i64 0, .int .i64 0, .int .i64 0, .int .i64 0, .int .i64 0, .int .i64 0]), 6, 48) := by kernel_rfl
theorem elZ : ElOk Tryz.prog 22 43 6 48 := elOk (by kernel_rfl) infoZone rfl (by decide)
theorem infoZ0 : (Tryz.prog.info? 43).map (fun i => i.zero.map fun v => v.cells.toList) = some (some [.int .i64 0, .int .i64 0, .int .i64 0, .int .i64 0, .int .i64 0, .int .i64 0]) := by kernel_rfl
abbrev TZ : TypeId := 43
end Go.Proofs.YtdecibfnhceloaaGreat
