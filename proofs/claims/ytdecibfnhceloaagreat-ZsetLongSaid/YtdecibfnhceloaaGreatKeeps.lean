/-
  The contract of dbm.Keeps, by the engine.
-/
import Derived.Test.YtdecibfnhceloaaGreatClose
import Derived.Test.YtdecibfnhceloaaGreatRatE
import Derived.Test.YtdecibfnhceloaaGreatIndexR
namespace Go.Proofs.YtdecibfnhceloaaGreat
set_option linter.unusedVariables false
set_option linter.unusedSimpArgs false
set_option maxRecDepth 100000
open Go.RowKit Go.Proofs.YtdecibfnhceloaaGreat.Eng Enc

namespace Dbm
/-- all moments of times: 0 and they. -/
def moments (T : List Rt) : List Rt := ⟨0, 1⟩ :: T
def pairOk (n : Nat) (L : List Int) (A : List Rt) (x : Nat) : Bool := (Fr.keeps (A[x / n]?.getD ⟨0, 1⟩) (A[x % n]?.getD ⟨0, 1⟩) (L[x]?.getD 0)).1
def keptL (n : Nat) (L : List Int) (T : List Rt) : Bool := (List.range (n * n)).all (pairOk n L (moments T))
def keeps (n : Int) (L : List Int) (T : List Rt) : Bool × Int :=
  if Dbm.chk n L = 0 ∧ T.all Rt.ok = true then (if (T.length : Int) = n - 1 then (keptL n.toNat L T, 0) else (false, 40)) else (false, 8)
end Dbm

theorem keeps1_any (x : Rt) (hx : x.ins) (w : World) : Calls Tryz.prog 71 #[.agg #[.int .i64 x.num, .int .i64 x.den]] w fun e w' => e = .returned (.bool (!x.ok)) ∧ Below w.heap.size w w' := by
  refine fun_eq 0 w Tryz.func71 (args := [.agg [.val (.int .i64 x.num), .val (.int .i64 x.den)]]) rfl rfl ?_
  repeat' (first
    | (refine CallI.to1 (rcheck_any x.num x.den hx.1 hx.2) fun w2 => ?_)
    | (refine Branch.yes rfl ?_)
    | (refine Branch.no rfl ?_)
    | (refine Branch.mk (fun hb => ?_) (fun hb => ?_))
    | (refine NewI.mk fun nb hnb => ?_)
    | (refine Need.mk (by show _ ∧ _; omega) ?_)
    | (refine Need.mk (by omega) ?_)
    | (refine Need.mk ?_ ?_)
    | (refine EndI.mk fun w1 h1 => ?_))
  cases h : x.ok
  · rw [Fr.chk_no h]; rfl
  · rw [Fr.chk_yes h]; rfl

theorem at2_any (n i j : Int) (h : Nat) (ad : Addr) (len cap : Nat) (h0 : 0 ≤ i * n + j) (h1 : i * n + j < len) (hin : inK .i64 (i * n) ∧ inK .i64 (i * n + j)) (w : World) (c0 : w.cell? ⟨h, 0, none⟩ = some (.int .i64 n)) (c1 : w.cell? ⟨h, 1, none⟩ = some (.slice (some ad) len cap)) :
    Calls Tryz.prog 65 #[.pointer (some ⟨h, 0, none⟩), .int .i64 i, .int .i64 j] w fun e w' => e = .returned (.pointer (some (ad.add ((i * n + j).toNat * 1)))) ∧ Below w.heap.size w w' := by
  refine fun_eq 0 w Tryz.func65 (args := [.val (.pointer (some ⟨h, 0, none⟩)), .val (.int .i64 i), .val (.int .i64 j)]) rfl rfl ?_
  refine DrawI.go (.tk 0 (.tk 1 (.tk 2 (.tk 3 (.tk 4 (.tk 5 (.tk 6 (.tk 7 (.tk 8 (.tk 9 (.tk 10 (.tk 11 (.tk 12 (.tk 13 (.tk 14 (.tk 15 .done)))))))))))))))) (by kernel_rfl) fun w1 k1 => ?_
  have hB := k1.go
  refine LoadI.mk ⟨_, ⟨(hB.cell (p := ⟨h, 1, none⟩) (World.block_lt_of_cell? _ _ c1)).trans c1, by simp⟩, ?_⟩
  refine LoadI.mk ⟨_, ⟨(hB.cell (p := ⟨h, 0, none⟩) (World.block_lt_of_cell? _ _ c0)).trans c0, by simp⟩, ?_⟩
  refine Need.mk hin.1 ?_
  refine Need.mk hin.2 ?_
  refine IdxI.mk ⟨_, ⟨rfl, h0, h1⟩, ?_⟩
  exact EndI.mk fun w2 k2 => rfl

theorem infoRat : (Tryz.prog.info? 32).map (fun i => (i.zero, i.size, i.bytes)) = some (some (.agg #[.int .i64 0, .int .i64 0]), 2, 16) := by kernel_rfl
theorem elR : ElOk Tryz.prog 79 32 2 16 := elOk (by kernel_rfl) infoRat rfl (by decide)
abbrev TR : TypeId := 32

theorem keepsFrom_below {B : Nat} {W W' : World} (h : Below W.heap.size W W') : KeepsFrom B W W' := ⟨h.size, fun k o _ hk hc => (h.block k (Array.getElem?_eq_some_iff.1 hk).1).trans hk⟩
theorem keepsFrom_own {B : Nat} {L : List Nat} {W w1 w2 : World} (h : Below W.heap.size W w1) (hs : w1.heap.size ≤ w2.heap.size) (hst : ∀ k, k < w1.heap.size → k ∉ L → w2.heap[k]? = w1.heap[k]?) (hL : ∀ b, b ∈ L → ∃ cs t f, W.heap[b]? = some (.cells cs t f)) : KeepsFrom B W w2 :=
  ⟨Nat.le_trans h.size hs, fun k o _ hk hc => by
    have hkW := (Array.getElem?_eq_some_iff.1 hk).1
    refine ((hst k (Nat.lt_of_lt_of_le hkW h.size) fun hm => ?_).trans (h.block k hkW)).trans hk
    obtain ⟨cs, t, f, e⟩ := hL k hm
    rw [hk] at e; injection e with e; subst e; cases hc⟩
theorem Own.own {α : Type} [Enc α] {w0 : Base} {hp : List LB} {r L : List Nat} {w w1 : World} {l : List α} (h : At w0 hp r L w w1) (i : Nat) {b n : Nat} {c : LB} (hi : r[i]? = some b) (hc : hget hp i = some c) (hm : denL r c.cells = cellsL l) (hb : w0.B ≤ b) (hn : n = l.length := by rfl) (hmax : n ≤ maxLen := by decide) : Own c.ty w0.B w1 (.slice (some ⟨b, 0, none⟩) n n) l := by
  subst hn
  have h1 := h.blk i b c hi hc
  refine ⟨cellsL_len l, .inr ⟨b, _, _, rfl, hb, h1, Nat.le_refl _, hmax, ?_, ?_⟩⟩
  · rw [hm, List.size_toArray, cellsL_len]
  · rw [hm, List.take_of_length_le (by rw [cellsL_len]; exact Nat.le_refl _)]
theorem dkeeps_any (n : Int) (a : Option Addr) (cap : Nat) (L : List Int) (T : List Rt) (at_ : Option Addr) (ct : Nat) (w : World) (hT : ∀ x ∈ T, x.ins) (hS : Sl w.heap.size w (.slice a L.length cap) L) (hST : Sl w.heap.size w (.slice at_ T.length ct) T) :
    Calls Tryz.prog 41 #[.agg #[.int .i64 n, .slice a L.length cap], .slice at_ T.length ct] w (Ret w fun v w' => v = .tuple #[.bool (Dbm.keeps n L T).1, .int .i64 (Dbm.keeps n L T).2]) := by
  refine fun_at 9 w.heap.size w (Nat.le_refl _) Tryz.func41 (args := [.agg [.val (.int .i64 n), .val (.slice a L.length cap)], .val (.slice at_ T.length ct)]) rfl rfl ?_
  refine NewI.mk fun b1 hb1 => ?_
  refine NewI.mk fun b2 hb2 => ?_
  refine NewI.mk fun b3 hb3 => ?_
  apply CallI.use1
  · exact fun w1 h1 => dcheck_any n a cap L w1 (Sl.at h1 hS)
  intro w1 w2 h1 hB2
  refine Branch.mk (fun hc => ?_) (fun hc => ?_)
  · refine EndI.mk fun w3 h3 => ?_
    have h0 : Dbm.chk n L ≠ 0 := by simpa using hc
    rw [Dbm.keeps, if_neg (fun h => h0 h.1)]
  have hc0 : Dbm.chk n L = 0 := by simpa using hc
  apply CallI.use1
  · exact fun w3 h3 => containsR_pure T (fun x => !x.ok) at_ ct 71 #[] w3 (Sl.at h3 hST) Tryz.call71 fun x W hx _ => keeps1_any x (hT x hx) W
  intro w3 w4 h3 hB4
  refine Branch.mk (fun hc2 => ?_) (fun hc2 => ?_)
  · refine EndI.mk fun w5 h5 => ?_
    have h0 : ¬ T.all Rt.ok = true := by
      simp only [List.any_eq_true] at hc2
      obtain ⟨x, hx, h⟩ := hc2
      rw [List.all_eq_true]
      intro h'
      rw [h' x hx] at h; cases h
    rw [Dbm.keeps, if_neg (fun h => h0 h.2)]
  have hok : T.all Rt.ok = true := by
    rw [List.all_eq_true]
    intro x hx
    cases h : Rt.ok x
    · have : (T.any fun x => !x.ok) = true := List.any_eq_true.2 ⟨x, hx, by rw [h]; rfl⟩
      rw [this] at hc2; cases hc2
    · rfl
  obtain ⟨c1, c2, c3, c4⟩ := Dbm.chk_iff.1 hc0
  refine Need.mk (by show _ ∧ _; omega) ?_
  refine Branch.mk (fun hc3 => ?_) (fun hc3 => ?_)
  · refine EndI.mk fun w5 h5 => ?_
    have h0 : ¬ ((T.length : Int) = n - 1) := by simpa using hc3
    rw [Dbm.keeps, if_pos ⟨hc0, hok⟩, if_neg h0]
  have hlen : (T.length : Int) = n - 1 := by simpa using hc3
  have hkp : Dbm.keeps n L T = (Dbm.keptL n.toNat L T, 0) := by rw [Dbm.keeps, if_pos ⟨hc0, hok⟩, if_pos hlen]
  rw [hkp]
  refine NewI.mk fun b4 hb4 => ?_
  refine GenN.appF (α := Rt) elR [⟨0, 1⟩] T w.heap.size rfl ?_ (fun w5 h5 => (Sl.at h5 hST).src) (by unfold maxLen; simp; omega) (by simp; omega) (fun w5 h5 => h5.below.size) ?_
  · exact fun w5 h5 => Own.own h5 3 rfl rfl rfl (Nat.le_trans (Nat.le_trans h3.below.size hB4.size) hb4)
  intro v w5 w6 h5 hB6 hO
  obtain ⟨av, cv, rfl⟩ := hO.form
  refine NewI.mk fun b5 hb5 => ?_
  refine NewI.mk fun b6 hb6 => ?_
  refine NewI.mk fun b7 hb7 => ?_
  apply CallI.mk
  intro w7 h7
  refine (callsIn_wide.1 (pairs_any n w7)).mono ?_
  rintro e w8 ⟨rfl, rfl⟩
  have hB1 : Below w7.heap.size w7 (w7.alloc (.cells #[.int .i64 n] 3)) := below_al (Below.refl _ _)
  refine ⟨h7.keep hB1, _, rfl, ?_⟩
  have hBs : (w7.alloc (.cells #[.int .i64 (n : Int)] 3)).cell? ⟨w7.heap.size, 0, none⟩ = some (.int .i64 n) := by simp
  have hsz : w7.heap.size < (w7.alloc (.cells #[.int .i64 (n : Int)] 3)).heap.size := by simp
  generalize hw2 : w7.alloc (.cells #[.int .i64 (n : Int)] 3) = w8 at hBs hsz hB1
  generalize hbs : w7.heap.size = Bs at hBs hsz
  refine RawI.mk fun ac w9 hR => ?_
  have h9 := hR.at_
  have hB9 : Below w8.heap.size w8 w9 := h9.go
  have hBs9 : Bs < w9.heap.size := Nat.lt_of_lt_of_le hsz hB9.size
  have hc9 : w9.cell? ⟨Bs, 0, none⟩ = some (.int .i64 n) := (hB9.cell (p := ⟨Bs, 0, none⟩) hsz).trans hBs
  have hw6 : Below w.heap.size w w6 := h5.below.trans (hB6.mono h5.below.size)
  have hB7 : Below w6.heap.size w6 w7 := h7.from hw6 (Below.refl _ _) (by intro b hb; simp at hb; rcases hb with rfl | rfl | rfl <;> assumption)
  have hSA : Sl w9.heap.size w9 (.slice av ([(⟨0, 1⟩ : Rt)] ++ T).length cv) ([⟨0, 1⟩] ++ T) := ((hO.sl.go hB7 hB7.size).go hB1 hB1.size).go hB9 hB9.size
  obtain ⟨N, rfl⟩ : ∃ N : Nat, n = N := ⟨n.toNat, by omega⟩
  have hN1 : 1 ≤ N := by omega
  have hN4 : N ≤ 4 := by omega
  have hLl : L.length = N * N := by exact_mod_cast c3
  refine rangeD cxOk (by decide) hR rfl Tryz.call60 (pairs_stops N (by omega) (by omega) (N * N) rfl Bs w9 hBs9 hc9) (fun h k => k.trans h) (fun W l o o' => keepsBox_put hBs9 W l o o')
    (fun W W' hs hg => World.cell?_of_block (hg.block Bs (Nat.lt_of_lt_of_le hBs9 hs) (by rintro ⟨⟩))) (fun x => rfl) (fun _ => _) (fun pre W => w9.grownBy W none ∧ ∀ x ∈ pre, Dbm.pairOk N L (Dbm.moments T) x.1 = true) ?_ rfl ⟨grown_refl _ _, by simp⟩ (fun c _ _ => c = .ret ∧ Dbm.keptL N L T = false) (fun _ _ => [⟨[.val (.int .i64 N), .val (.slice a L.length cap)], 50⟩, ⟨[.kb false], 4⟩, ⟨[.val (.int .i64 0)], 23⟩, ⟨[.val (.int .i64 0), .val (.int .i64 1)], 32⟩, ⟨[.val (.slice av ([(⟨0, 1⟩ : Rt)] ++ T).length cv)], 79⟩, ⟨[.val (.int .i64 N), .val (.slice a L.length cap)], 111⟩, ⟨[.loc 5 0], 108⟩]) (fun _ _ _ _ _ h _ _ => h) _
    (fun l z hp W => And.intro rfl rfl) ?_ ?_ ?_
  · intro pre W W' row hs hg' hr'
    exact ⟨ownFrom_grown (row0 := none) (w := w9) (Nat.le_refl _) pre W W' row hs.1 hg' hr', hs.2⟩
  · rintro l pre x W ⟨gW, hall⟩ hBW hsW hlen
    obtain ⟨x, hx⟩ := x
    have e3 := idx_ij hN1 hN4 hx
    have hxi : x / N < N := Nat.div_lt_of_lt_mul hx
    have hxj : x % N < N := Nat.mod_lt _ hN1
    have hAl : ([(⟨0, 1⟩ : Rt)] ++ T).length = N := by simp; omega
    have hAi : ∀ y ∈ [(⟨0, 1⟩ : Rt)] ++ T, y.ins := by
      intro y hy
      rcases List.mem_append.1 hy with h | h
      · rw [List.mem_singleton.1 h]; simp [Rt.ins, inK]
      · exact hT y h
    have hg1 := List.getElem?_eq_getElem (l := [(⟨0, 1⟩ : Rt)] ++ T) (i := x / N) (by rw [hAl]; exact hxi)
    have hg2 := List.getElem?_eq_getElem (l := [(⟨0, 1⟩ : Rt)] ++ T) (i := x % N) (by rw [hAl]; exact hxj)
    generalize ([(⟨0, 1⟩ : Rt)] ++ T)[x / N]'_ = y1 at hg1
    generalize ([(⟨0, 1⟩ : Rt)] ++ T)[x % N]'_ = y2 at hg2
    have hgL := List.getElem?_eq_getElem (l := L) (i := x) (by rw [hLl]; exact hx)
    generalize L[x]'_ = bx at hgL
    have hok1 : Dbm.pairOk N L (Dbm.moments T) x = (Fr.keeps y1 y2 bx).1 := by
      unfold Dbm.pairOk Dbm.moments
      have e1 : (⟨0, 1⟩ :: T : List Rt) = [⟨0, 1⟩] ++ T := rfl
      rw [e1, hg1, hg2, hgL]; rfl
    have B9 : Below w9.heap.size w9 W := ⟨gW.os, gW.tape, gW.output, gW.size, fun k hk => gW.block k hk (by simp)⟩
    refine DrawI.go (.tk 0 (.tk 1 (.tk 2 (.tk 3 (.tk 4 (.tk 5 (.tk 6 (.tk 7 (.tk 8 (.tk 9 (.tk 10 (.ev 11 (.tk 12 (.tk 13 (.ev 14 (.tk 15 (.tk 16 (.tk 17 (.tk 18 (.tk 19 .done)))))))))))))))))))) (by kernel_rfl) fun w10 h10 => ?_
    have hA10 : Sl w10.heap.size w10 (.slice av ([(⟨0, 1⟩ : Rt)] ++ T).length cv) ([⟨0, 1⟩] ++ T) := (hSA.go B9 B9.size).go h10.go h10.go.size
    have e1 : ((x : Int) / N) = ((x / N : Nat) : Int) := rfl
    have e2 : ((x : Int) % N) = ((x % N : Nat) : Int) := rfl
    refine hA10.idx hg1 fun ad had => ?_
    refine hA10.ld hg1 had (Below.refl _ _) (by simp) ?_
    refine hA10.idx hg2 fun ad2 had2 => ?_
    refine hA10.ld hg2 had2 (Below.refl _ _) (by simp) ?_
    have hS10 := hS.go h10.below h10.below.size
    obtain ⟨al, hal⟩ : ∃ al, a = some al := by
      obtain ⟨_, _, e0, _, _, _, h4⟩ := hS10
      obtain ⟨b, o, h, _⟩ := h4 x bx hgL
      injection e0 with e0
      exact ⟨_, e0.trans h⟩
    subst hal
    apply CallI.use1
    · exact fun w11 h11 => at2_any N _ _ b6 al L.length cap e3.1 (by rw [hLl]; exact e3.2.1) ⟨e3.2.2.1, e3.2.2.2.1⟩ w11 (h11.own (i := 5) (o := 0) rfl rfl rfl) (h11.own (i := 5) (o := 1) rfl rfl rfl)
    intro w11 w12 h11 hB12
    rw [e3.2.2.2.2]
    refine hS10.ld1 hgL rfl (Below.refl _ _) (by simp) ?_
    apply CallI.use1
    · exact fun w13 h13 => rkeeps_any y1 y2 (hAi y1 (List.mem_of_getElem? hg1)) (hAi y2 (List.mem_of_getElem? hg2)) bx w13
    intro w13 w14 h13 hB14
    refine Branch.mk (fun hb => ?_) (fun hb => ?_)
    · have hno : (Fr.keeps y1 y2 bx).1 = false := by simpa using hb
      refine Need.mk (CovH.mk rfl rfl rfl) (EndI.mk fun w15 h15 => ⟨?_, rfl, ?_⟩)
      · have k12 := h11.step2 hB12
        have B10 := h10.go
        have B14 : Below W.heap.size W w14 := B10.trans ((k12.trans ((h13.step2 hB14).mono k12.size)).mono B10.size)
        refine keepsFrom_own B14 h15.size h15.step fun b hb => ?_
        simp at hb
        rcases hb with rfl | rfl
        · exact ⟨_, _, _, (gW.block _ (h9.lt _ (by simp)) (by simp)).trans (h9.blk 2 _ ⟨_, _⟩ (by rfl) (by rfl))⟩
        · exact ⟨_, _, _, (gW.block _ (h9.lt _ (by simp)) (by simp)).trans (h9.blk 1 _ ⟨_, _⟩ (by rfl) (by rfl))⟩
      · rw [Dbm.keptL, List.all_eq_false]
        exact ⟨x, List.mem_range.2 hx, by rw [hok1, hno]; simp⟩
    · have hyes : (Fr.keeps y1 y2 bx).1 = true := by simpa using hb
      have k12 := h11.step2 hB12
      have B10 := h10.go
      have B14 : Below W.heap.size W w14 := B10.trans ((k12.trans ((h13.step2 hB14).mono k12.size)).mono B10.size)
      refine Need.mk (CovH.mk rfl rfl rfl) (EndI.mk fun w15 h15 => ?_)
      have B15 : Below W.heap.size W w15 := B14.trans (h15.go.mono B14.size)
      refine ⟨keepsFrom_below B15, World.cell?_of_block (B15.block Bs (Nat.lt_of_lt_of_le hBs9 hsW)), grown_below gW B15, ?_⟩
      intro z hz
      rcases List.mem_append.1 hz with h | h
      · exact hall z h
      · rw [List.mem_singleton.1 h]
        show Dbm.pairOk N L (Dbm.moments T) x = true
        rw [hok1, hyes]
  · rintro D xs W hD hSx ⟨gW, hall⟩ hmark
    have hk : Dbm.keptL N L T = true := by
      rw [Dbm.keptL, List.all_eq_true]
      intro x hx
      rw [← hSx] at hx
      obtain ⟨y, hy, rfl⟩ := List.mem_map.1 hx
      exact hall y hy
    have hDW : D < W.heap.size := (Array.getElem?_eq_some_iff.1 hmark).1
    have hl2 := h9.lt b2 (by simp)
    have hl3 := h9.lt b3 (by simp)
    refine EndM.mk fun w10 h10 => ⟨⟨Nat.le_trans h9.below.size hD, (h10.step D hDW (by intro hm; simp at hm; omega)).trans hmark⟩, fun w11 hu => ?_⟩
    rw [Int.toNat_natCast, hk]
  · rintro D c e pre W hD hSp ⟨rfl, hk⟩ he hmark
    cases he
    have hDW : D < W.heap.size := (Array.getElem?_eq_some_iff.1 hmark).1
    refine EndM.mk fun w10 h10 => ⟨⟨Nat.le_trans h9.below.size hD, (h10.step D hDW (by simp)).trans hmark⟩, fun w11 hu => ?_⟩
    rw [Int.toNat_natCast, hk]
end Go.Proofs.YtdecibfnhceloaaGreat
