/-
  The contract of (*dbm.matrix).through, by the engine: one stage of closing a matrix.
-/
import Derived.Test.YtdecibfnhceloaaGreatDbmE
import Derived.Test.YtdecibfnhceloaaGreatMem
import Derived.Test.YtdecibfnhceloaaGreatPairs
import Derived.Test.YtdecibfnhceloaaGreatThru
namespace Go.Proofs.YtdecibfnhceloaaGreat
set_option linter.unusedVariables false
set_option linter.unusedSimpArgs false
set_option maxRecDepth 100000
open Go.RowKit Go.Proofs.YtdecibfnhceloaaGreat.Eng Enc

theorem idx_ik {n x k : Nat} (hn : 1 ≤ n) (hn4 : n ≤ 4) (hx : x < n * n) (hk : k < n) : 0 ≤ (x : Int) / n * n + k ∧ (x : Int) / n * n + k < ((n * n : Nat) : Int) ∧ inK .i64 ((x : Int) / n * n) ∧ inK .i64 ((x : Int) / n * n + k) := by
  rcases (by omega : n = 1 ∨ n = 2 ∨ n = 3 ∨ n = 4) with rfl | rfl | rfl | rfl <;> simp only [inK] <;> omega
theorem idx_kj {n x k : Nat} (hn : 1 ≤ n) (hn4 : n ≤ 4) (hx : x < n * n) (hk : k < n) : 0 ≤ (k : Int) * n + (x : Int) % n ∧ (k : Int) * n + (x : Int) % n < ((n * n : Nat) : Int) ∧ inK .i64 ((k : Int) * n) ∧ inK .i64 ((k : Int) * n + (x : Int) % n) := by
  rcases (by omega : n = 1 ∨ n = 2 ∨ n = 3 ∨ n = 4) with rfl | rfl | rfl | rfl <;> simp only [inK] <;> omega
theorem idx_ij {n x : Nat} (hn : 1 ≤ n) (hn4 : n ≤ 4) (hx : x < n * n) : 0 ≤ (x : Int) / n * n + (x : Int) % n ∧ (x : Int) / n * n + (x : Int) % n < ((n * n : Nat) : Int) ∧ inK .i64 ((x : Int) / n * n) ∧ inK .i64 ((x : Int) / n * n + (x : Int) % n) ∧ ((x : Int) / n * n + (x : Int) % n).toNat = x := by
  rcases (by omega : n = 1 ∨ n = 2 ∨ n = 3 ∨ n = 4) with rfl | rfl | rfl | rfl <;> simp only [inK] <;> omega
theorem idx_ii {n k : Nat} (hn : 1 ≤ n) (hn4 : n ≤ 4) (hk : k < n) : 0 ≤ (k : Int) * n + k ∧ (k : Int) * n + k < ((n * n : Nat) : Int) ∧ inK .i64 ((k : Int) * n) ∧ inK .i64 ((k : Int) * n + k) := by
  rcases (by omega : n = 1 ∨ n = 2 ∨ n = 3 ∨ n = 4) with rfl | rfl | rfl | rfl <;> simp only [inK] <;> omega

theorem keepsFrom_grown {T : TypeId} {W W' : World} {g : Nat} {L : List Int} (hg : W.grownBy W' (some g)) (hr : RowAt T W g L) (B : Nat) : KeepsFrom B W W' :=
  ⟨hg.size, fun k o _ hk hc => (hg.block k (Array.getElem?_eq_some_iff.1 hk).1 (fun e => by
    injection e with e; subst e
    obtain ⟨cur, hcur, _⟩ := hr
    rw [hcur] at hk; cases hk; cases hc)).trans hk⟩
theorem keep_set {w0 : Base} {r : List Nat} {w1 : World} {g x : Nat} {v : Value} (hg : w0.B ≤ g) (hr : ∀ b, b ∈ r → b ≠ g) : Keep w0 r w1 (w1.setCell ⟨g, x, none⟩ v) :=
  ⟨(Below.refl _ _).setCell (p := ⟨g, x, none⟩) hg _, fun b hb => Below.heap_setCell _ _ _ _ (hr b hb)⟩
abbrev TB : TypeId := 41

theorem through_any (n k : Nat) (hn : 1 ≤ n) (hn4 : n ≤ 4) (hk : k < n) (h g cap : Nat) (L : List Int) (hL : L.length = n * n) (B : Nat) (w : World) (hB : B ≤ w.heap.size) (hg : B ≤ g) (hhg : h ≠ g) (hM : Mat w h g n (n * n) cap) (hr : RowAt TB w g L) :
    Calls Tryz.prog 66 #[.pointer (some ⟨h, 0, none⟩), .int .i64 k] w fun e w' => ∃ v, e = .returned v ∧ Below B w w' ∧ v = .bool (Dbm.diagOk n (Dbm.thrL n k L)) ∧ RowAt TB w' g (Dbm.thrL n k L) ∧ w.grownBy w' (some g) := by
  refine fun_at 9 B w hB Tryz.func66 (args := [.val (.pointer (some ⟨h, 0, none⟩)), .val (.int .i64 k)]) rfl rfl ?_
  refine NewI.mk fun b1 hb1 => ?_
  refine NewI.mk fun b2 hb2 => ?_
  refine LoadI.mk ⟨_, ⟨hM.c0, by simp⟩, ?_⟩
  apply CallI.mk
  intro w1 h1
  refine (callsIn_wide.1 (pairs_any n w1)).mono ?_
  rintro e w2 ⟨rfl, rfl⟩
  have hB1 : Below w1.heap.size w1 (w1.alloc (.cells #[.int .i64 n] 3)) := below_al (Below.refl _ _)
  refine ⟨h1.keep hB1, _, rfl, ?_⟩
  have g0 : w.grownBy (w1.alloc (.cells #[.int .i64 n] 3)) (some g) := grown_alloc (grown_below (grown_refl w _) h1.go) _
  have hBs : (w1.alloc (.cells #[.int .i64 (n : Int)] 3)).cell? ⟨w1.heap.size, 0, none⟩ = some (.int .i64 n) := by simp
  have hsz : w1.heap.size < (w1.alloc (.cells #[.int .i64 (n : Int)] 3)).heap.size := by simp
  generalize hw2 : w1.alloc (.cells #[.int .i64 (n : Int)] 3) = w2 at g0 hBs hsz hB1
  generalize hbs : w1.heap.size = Bs at hBs hsz
  refine RawI.mk fun a w3 hR => ?_
  have h3 := hR.at_
  have k3 : Below w2.heap.size w2 w3 := h3.go
  have hsz3 := k3.size
  have hc3 : w3.cell? ⟨Bs, 0, none⟩ = some (.int .i64 n) := (k3.cell (p := ⟨Bs, 0, none⟩) hsz).trans hBs
  have g3 : w.grownBy w3 (some g) := grown_below g0 k3
  have hgl : g < w.heap.size := hr.lt
  have hhl : h < w.heap.size := hM.lt
  have hw1 : w.heap.size ≤ w1.heap.size := h1.size
  have hr3 : RowAt TB w3 g L := (hr.below h1.go hgl).kept ((k3.block g (Nat.lt_of_lt_of_le (Nat.lt_of_lt_of_le hgl hw1) hB1.size)).trans (hB1.block g (Nat.lt_of_lt_of_le hgl hw1)))
  have hBs3 : Bs < w3.heap.size := by omega
  refine rangeD cxOk (by decide) hR rfl Tryz.call60 (pairs_stops n (by omega) (by omega) (n * n) rfl Bs w3 hBs3 hc3) (fun h k => k.trans h) (fun W l o o' => keepsBox_put hBs3 W l o o')
    (fun W W' hs hg => World.cell?_of_block (hg.block Bs (Nat.lt_of_lt_of_le hBs3 hs) (by rintro ⟨⟩))) (fun x => rfl) (fun _ => _) (fun pre W => w.grownBy W (some g) ∧ RowAt TB W g ((pre.map (·.1)).foldl (Dbm.upd n k) L)) ?_ rfl ⟨g3, hr3⟩ (fun _ _ _ => False) (fun _ _ => []) (fun _ _ _ _ _ h _ _ => h) _
    (fun l z hp W => And.intro rfl rfl) ?_ ?_ (fun _ _ _ _ _ _ _ h => h.elim)
  · intro pre W W' row hs hg' hr'
    exact ⟨ownFrom_grown (row0 := some g) (w := w) (Nat.le_trans g3.size (Nat.le_refl _)) pre W W' row hs.1 hg' hr', ownFrom_rowAt TB (g := g) (fun pre : List (PIdx (n * n)) => (pre.map (·.1)).foldl (Dbm.upd n k) L) pre W W' row hs.2 hg' hr'⟩
  · rintro l pre x W ⟨gW, rW⟩ hBW hsW hlen
    obtain ⟨x, hx⟩ := x
    have hMW : Mat W h g n (n * n) cap := hM.of_block (gW.block h hhl (fun e => hhg (by injection e)))
    generalize hLp : (pre.map (·.1)).foldl (Dbm.upd n k) L = Lp at rW
    have hLl : Lp.length = n * n := by rw [← hLp, Dbm.foldl_upd_length, hL]
    have e1 := idx_ik hn hn4 hx hk
    have e2 := idx_kj hn hn4 hx hk
    have e3 := idx_ij hn hn4 hx
    refine DrawI.go (.tk 0 (.tk 1 (.tk 2 (.tk 6 (.tk 7 (.tk 8 (.ev 3 (.tk 4 (.tk 5 (.ev 9 (.tk 10 (.tk 11 (.ev 12 (.tk 13 (.tk 14 (.tk 15 (.tk 16 (.tk 17 .done)))))))))))))))))) (by kernel_rfl) fun w4 h4 => ?_
    have hM4 := hMW.below h4.go
    have r4 := rW.below h4.go rW.lt
    apply CallI.use1
    · exact fun w5 h5 => at_any n _ k h g (n * n) cap e1.1 e1.2.1 e1.2.2 w5 (hM4.below h5.go)
    intro w5 w6 h5 hB6
    have k6 := h5.step2 hB6
    refine LoadI.mk ⟨_, ⟨r4.cell (j := x / n * n + k) (by rw [hLl]; exact Int.ofNat_lt.1 e1.2.1), by simp⟩, ?_⟩
    apply CallI.use1
    · exact fun w7 h7 => at_any n k _ h g (n * n) cap e2.1 e2.2.1 e2.2.2 w7 ((hM4.below k6).below h7.go)
    intro w7 w8 h7 hB8
    have k8 := k6.trans ((h7.step2 hB8).mono k6.size)
    refine LoadI.mk ⟨_, ⟨r4.cell (j := k * n + x % n) (by rw [hLl]; exact Int.ofNat_lt.1 e2.2.1), by simp⟩, ?_⟩
    apply CallI.use1
    · exact fun w9 h9 => badd_any _ _ w9
    intro w9 w10 h9 hB10
    have k10 := k8.trans ((h9.step2 hB10).mono k8.size)
    have hM10 := hM4.below k10
    have r10 := r4.below k10 r4.lt
    have g10 := grown_below (grown_below gW h4.go) k10
    apply CallI.use1
    · exact fun w11 h11 => at_any n _ _ h g (n * n) cap e3.1 e3.2.1 ⟨e3.2.2.1, e3.2.2.2.1⟩ w11 (hM10.below h11.go)
    intro w11 w12 h11 hB12
    rw [e3.2.2.2.2]
    have k12 := h11.step2 hB12
    refine LoadI.mk ⟨_, ⟨(r10.below k12 r10.lt).cell (j := x) (by rw [hLl]; exact hx), by simp⟩, ?_⟩
    have M12 := hM10.below k12
    have r12 := r10.below k12 r10.lt
    have gX := grown_below (grown_below (grown_below (grown_refl W (some g)) h4.go) k10) k12
    have hgBs : Bs ≠ g := by omega
    -- what is left to be told where the row's list is L' and the world w'
    have fin : ∀ (w' : World) (L' : List Int), W.grownBy w' (some g) → RowAt TB w' g L' → L' = Dbm.upd n k Lp x → KeepsFrom w3.heap.size W w' ∧ KeepsBox Bs W w' ∧ w.grownBy w' (some g) ∧ RowAt TB w' g (((pre ++ [(⟨x, hx⟩ : PIdx (n * n))]).map (·.1)).foldl (Dbm.upd n k) L) := by
      rintro w' L' hg' hr' rfl
      refine ⟨keepsFrom_grown hg' rW _, World.cell?_of_block (hg'.block Bs (by omega) (fun e => hgBs (by injection e))), grown_trans gW hg', ?_⟩
      rw [List.map_append, List.foldl_append, hLp]; exact hr'
    refine Branch.mk (fun hb => ?_) (fun hb => ?_)
    · have hu : Dbm.upd n k Lp x = Lp.set x (Bd.add (Lp[x / n * n + k]?.getD 0) (Lp[k * n + x % n]?.getD 0)).1 := if_pos (by simpa using hb)
      apply CallI.use1
      · exact fun w13 h13 => at_any n _ _ h g (n * n) cap e3.1 e3.2.1 ⟨e3.2.2.1, e3.2.2.2.1⟩ w13 (M12.below h13.go)
      intro w13 w14 h13 hB14
      rw [e3.2.2.2.2]
      have k14 := h13.step2 hB14
      refine StoreI.mk fun w15 h15 => ?_
      have r15 := (r12.below k14 r12.lt).below h15.go (r12.below k14 r12.lt).lt
      refine ⟨⟨⟨_, r15.cell (j := x) (by rw [hLl]; exact hx)⟩, r15.frozen x⟩, keep_set hg (by intro b hb; simp only [List.mem_cons, List.not_mem_nil, or_false] at hb; have := hb1; have := hb2; rcases hb with rfl | rfl <;> (intro e; subst e; exact absurd hgl (Nat.not_lt.2 ‹_›))), ?_⟩
      refine Need.mk (CovH.mk rfl rfl rfl) (EndI.mk fun w16 h16 => ?_)
      refine fin w16 _ (grown_below (grown_set (grown_below (grown_below gX k14) h15.go) x _) h16.go) ((r15.set (by rw [hLl]; exact hx) _).below h16.go (by have := r15.lt; simpa [World.setCell] using this)) hu.symm
    · have hu : Dbm.upd n k Lp x = Lp := if_neg (by simpa using hb)
      refine Need.mk (CovH.mk rfl rfl rfl) (EndI.mk fun w16 h16 => ?_)
      exact fin w16 _ (grown_below gX h16.go) (r12.below h16.go r12.lt) hu.symm
  · rintro D xs W hD hS ⟨gW, rW⟩ hmark
    have hxs : (xs.map (·.1)).foldl (Dbm.upd n k) L = Dbm.thrL n k L := by rw [hS]; rfl
    rw [hxs] at rW
    have hLl : (Dbm.thrL n k L).length = n * n := by rw [Dbm.thrL, Dbm.foldl_upd_length, hL]
    have hMW : Mat W h g n (n * n) cap := hM.of_block (gW.block h hhl (fun e => hhg (by injection e)))
    have hDW : D < W.heap.size := (Array.getElem?_eq_some_iff.1 hmark).1
    have hwD : w.heap.size ≤ D := Nat.le_trans g3.size hD
    -- what is told at an end in a world behind W
    have fin : ∀ (bb : Bool), bb = Dbm.diagOk n (Dbm.thrL n k L) → ∀ w1, Below W.heap.size W w1 → (B ≤ D ∧ w1.heap[D]? = some (.deferred (some []))) ∧ ∀ w2, unmark w1 D w2 → Value.bool bb = .bool (Dbm.diagOk n (Dbm.thrL n k L)) ∧ RowAt TB w2 g (Dbm.thrL n k L) ∧ w.grownBy w2 (some g) := by
      rintro bb rfl w1 hW1
      refine ⟨⟨Nat.le_trans hB hwD, (hW1.block D hDW).trans hmark⟩, fun w2 hu => ⟨rfl, (rW.below hW1 rW.lt).kept (hu.2.2.2.2 g (by omega)), ?_⟩⟩
      have h1 := grown_below gW hW1
      exact ⟨hu.2.1.trans h1.os, hu.2.2.1.trans h1.tape, hu.2.2.2.1.trans h1.output, by rw [hu.1]; exact h1.size, fun k hk hne => (hu.2.2.2.2 k (by omega)).trans (h1.block k hk hne)⟩
    refine LoadI.mk ⟨_, ⟨hMW.c0, by simp⟩, ?_⟩
    refine LoopI.invC (α := Nat × World) (fun y => [(53, .val (.int .i64 y.1))]) (fun y => y.2) (fun y => y.1 ≤ n ∧ Below W.heap.size W y.2 ∧ ∀ i, i < y.1 → 1 ≤ (Dbm.thrL n k L)[i * n + i]?.getD 0) (fun y => n - y.1) ?_ ?_
    · intro w4 h4
      exact ⟨(0, w4), Cov.mk (by repeat' (first | exact trivial | refine And.intro rfl ?_)) rfl rfl rfl rfl rfl, rfl, Nat.zero_le _, h4.go, fun i hi => by omega⟩
    · rintro ⟨i, W4⟩ ⟨hi, hW4, hno⟩
      refine Branch.mk (fun hb => ?_) (fun hb => ?_)
      · have hlt : i < n := by simpa using hb
        have e4 := idx_ii hn hn4 hlt
        apply CallI.use1
        · exact fun w5 h5 => at_any n _ _ h g (n * n) cap e4.1 e4.2.1 e4.2.2 w5 ((hMW.below hW4).below h5.go)
        intro w5 w6 h5 hB6
        have k6 := h5.step2 hB6
        have W6 := hW4.trans (k6.mono hW4.size)
        refine LoadI.mk ⟨_, ⟨(rW.below W6 rW.lt).cell (j := i * n + i) (by rw [hLl]; exact Int.ofNat_lt.1 e4.2.1), by simp⟩, ?_⟩
        refine Branch.mk (fun hc => ?_) (fun hc => ?_)
        · refine EndM.mk fun w7 h7 => fin false ?_ w7 (W6.trans (h7.go.mono W6.size))
          symm
          rw [Dbm.diagOk, List.all_eq_false]
          exact ⟨i, List.mem_range.2 hlt, by simp at hc ⊢; omega⟩
        · refine Need.mk (by show _ ∧ _; omega) (EndI.mk fun w7 h7 => ⟨(i + 1, w7), Cov.mk (by repeat' (first | exact trivial | refine And.intro rfl ?_)) rfl rfl rfl rfl rfl, rfl, ⟨hlt, W6.trans (h7.go.mono W6.size), fun i' hi' => ?_⟩, by simp only; omega⟩)
          by_cases hii : i' = i
          · subst hii; simp at hc; omega
          · exact hno i' (by omega)
      · have hge : i = n := by have : ¬ i < n := by simpa using hb
                               omega
        subst hge
        refine EndM.mk fun w7 h7 => fin true ?_ w7 (hW4.trans (h7.go.mono hW4.size))
        symm
        rw [Dbm.diagOk, List.all_eq_true]
        intro i' hi'
        simpa using hno i' (List.mem_range.1 hi')
end Go.Proofs.YtdecibfnhceloaaGreat
