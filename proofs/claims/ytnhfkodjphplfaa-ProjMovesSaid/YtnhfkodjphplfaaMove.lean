/-
  The contract of proj.Move, by the engine.
-/
import Derived.Test.YtnhfkodjphplfaaSortI
namespace Go.Proofs.Ytnhfkodjphplfaa
set_option linter.unusedVariables false
set_option linter.unusedSimpArgs false
set_option maxRecDepth 100000
open Go.RowKit Go.Proofs.Ytnhfkodjphplfaa.Eng Enc

theorem move1_any (i j : Nat) (p q : Nat) (a : Option Addr) (cap : Nat) (l : List Int) (n x y : Int) (hx : l[i]? = some x) (hy : l[j]? = some y) (hr : inK .i64 (x * n) ∧ inK .i64 (x * n + y)) (w : World) (hp : w.cell? ⟨p, 0, none⟩ = some (.slice a l.length cap)) (hS : Sl w.heap.size w (.slice a l.length cap) l) (hq : w.cell? ⟨q, 0, none⟩ = some (.int .i64 n)) :
    Calls Try.prog 42 #[.int .i64 i, .int .i64 j, .pointer (some ⟨p, 0, none⟩), .pointer (some ⟨q, 0, none⟩)] w fun e w' => e = .returned (.int .i64 (x * n + y)) ∧ Below w.heap.size w w' := by
  refine fun_eq 0 w Try.func42 (args := [.val (.int .i64 i), .val (.int .i64 j), .val (.pointer (some ⟨p, 0, none⟩)), .val (.pointer (some ⟨q, 0, none⟩))]) rfl rfl ?_
  refine DrawI.go (.tk 0 (.tk 1 (.tk 2 (.tk 3 (.tk 4 (.tk 5 (.tk 6 (.tk 7 (.tk 8 (.tk 9 (.tk 10 (.tk 11 (.tk 12 .done))))))))))))) (by kernel_rfl) fun w1 k1 => ?_
  have hb := k1.go
  refine LoadI.mk ⟨_, ⟨(hb.cell (p := ⟨p, 0, none⟩) (World.block_lt_of_cell? _ _ hp)).trans hp, by simp⟩, ?_⟩
  refine hS.idx hx fun ad had => ?_
  refine hS.ld1 hx had hb (by simp) ?_
  refine LoadI.mk ⟨_, ⟨(hb.cell (p := ⟨q, 0, none⟩) (World.block_lt_of_cell? _ _ hq)).trans hq, by simp⟩, ?_⟩
  refine Need.mk hr.1 ?_
  refine LoadI.mk ⟨_, ⟨(hb.cell (p := ⟨p, 0, none⟩) (World.block_lt_of_cell? _ _ hp)).trans hp, by simp⟩, ?_⟩
  refine hS.idx hy fun ad had => ?_
  refine hS.ld1 hy had hb (by simp) ?_
  refine Need.mk hr.2 ?_
  exact EndI.mk fun w2 h2 => rfl

theorem move_any (n : Int) (a : Option Addr) (cap : Nat) (L : List Int) (ao : Option Addr) (co : Nat) (O : List Int) (hlen : O.length ≤ 1000000) (w : World) (hS : Sl w.heap.size w (.slice a L.length cap) L) (hSO : Sl w.heap.size w (.slice ao O.length co) O) :
    Calls Try.prog 16 #[.agg #[.int .i64 n, .slice a L.length cap], .slice ao O.length co] w (Ret w fun v w' => ∃ a' cap', v = .tuple #[.agg #[.int .i64 (Proj.move n L O).1, .slice a' (Proj.move n L O).2.1.length cap'], .int .i64 (Proj.move n L O).2.2] ∧ Fresh TB w.heap.size w' (.slice a' (Proj.move n L O).2.1.length cap') (Proj.move n L O).2.1) := by
  refine fun_ret 9 w Try.func16 (args := [.agg [.val (.int .i64 n), .val (.slice a L.length cap)], .val (.slice ao O.length co)]) rfl rfl ?_
  refine NewI.mk fun b1 hb1 => ?_
  refine NewI.mk fun b2 hb2 => ?_
  refine NewI.mk fun b3 hb3 => ?_
  apply CallI.use1
  · exact fun w1 h1 => dcheck_any n a cap L w1 (Sl.at h1 hS)
  intro w1 w2 h1 hB2
  have err : ∀ (e : Int) (w' : World), Proj.move n L O = (0, [], e) → ∃ a' cap', Value.tuple #[.agg #[.int .i64 0, .slice none 0 0], .int .i64 e] = .tuple #[.agg #[.int .i64 (Proj.move n L O).1, .slice a' (Proj.move n L O).2.1.length cap'], .int .i64 (Proj.move n L O).2.2] ∧ Fresh TB w.heap.size w' (.slice a' (Proj.move n L O).2.1.length cap') (Proj.move n L O).2.1 := fun e w' he => by
    rw [he]; exact ⟨_, _, rfl, .inl ⟨rfl, rfl⟩⟩
  refine Branch.mk (fun hc => ?_) (fun hc => ?_)
  · have hc' : ¬ Dbm.chk n L = 0 := by simpa using hc
    have h8 : Dbm.chk n L = 8 := (Dbm.chk_cases n L).resolve_left hc'
    rw [h8]
    exact EndI.mk fun w3 h3 => err 8 w3 (by rw [Proj.move, if_neg hc'])
  have hc0 : Dbm.chk n L = 0 := by simpa using hc
  obtain ⟨c1, c2, c3, c4⟩ := Dbm.chk_iff.1 hc0
  apply CallI.mk
  intro w3 h3
  refine (callsIn_wide.1 (values_in 9 ao O.length co w3)).mono ?_
  rintro e w4 ⟨rfl, rfl⟩
  have hB1 : Below w3.heap.size w3 (w3.alloc (.cells #[.slice ao O.length co] 42)) := below_al (Below.refl _ _)
  refine ⟨h3.keep hB1, _, rfl, ?_⟩
  have hBs : (w3.alloc (.cells #[.slice ao O.length co] 42)).cell? ⟨w3.heap.size, 0, none⟩ = some (.slice ao O.length co) := by simp
  have hsz : w3.heap.size < (w3.alloc (.cells #[.slice ao O.length co] 42)).heap.size := by simp
  generalize w3.alloc (.cells #[.slice ao O.length co] 42) = w4 at hBs hsz hB1
  generalize w3.heap.size = Bs at hBs hsz
  apply CallI.use
  · exact fun w5 h5 => sorted_any Bs ao co O hlen w5 ((h5.go.cell (p := ⟨Bs, 0, none⟩) hsz).trans hBs) (Sl.at h5 hSO)
  intro v w5 w6 h5 hB6 hOw
  obtain ⟨aS, cS, rfl⟩ := hOw.form
  have hsl : (Proj.sortI O).length = O.length := (Proj.sortI_perm O).length_eq
  have hSS : Sl w6.heap.size w6 (.slice aS (Proj.sortI O).length cS) (Proj.sortI O) := hOw.sl
  have e2 : ∀ (w' : World), ¬ Proj.moveOk n O = true → ∃ a' cap', Value.tuple #[.agg #[.int .i64 0, .slice none 0 0], .int .i64 2] = .tuple #[.agg #[.int .i64 (Proj.move n L O).1, .slice a' (Proj.move n L O).2.1.length cap'], .int .i64 (Proj.move n L O).2.2] ∧ Fresh TB w.heap.size w' (.slice a' (Proj.move n L O).2.1.length cap') (Proj.move n L O).2.1 := fun w' hno =>
    err 2 w' (by rw [Proj.move, if_pos hc0, if_neg hno])
  refine Branch.mk (fun hc1 => ?_) (fun hc1 => ?_)
  · have hl : ¬ (O.length : Int) = n := by simpa using hc1
    exact EndI.mk fun w7 h7 => e2 w7 fun h => by simp [Proj.moveOk, hl] at h
  have hl : (O.length : Int) = n := by simpa using hc1
  obtain ⟨N, rfl⟩ : ∃ N : Nat, n = N := ⟨n.toNat, by omega⟩
  have hlen' : L.length = N * N := by exact_mod_cast c3
  have hg0 := Proj.og_get (O := O) (i := 0) (by omega)
  have hw6 : Below w.heap.size w w6 := h5.below.trans (hB6.mono h5.below.size)
  have hSO6 := hSO.go hw6 hw6.size
  refine hSO6.idx (k := 0) hg0 fun ad had => ?_
  refine hSO6.ld1 (k := 0) hg0 had (Below.refl _ _) (by simp) ?_
  refine Branch.mk (fun hc2 => ?_) (fun hc2 => ?_)
  · have hz : ¬ Proj.og O 0 = 0 := by simpa using hc2
    exact EndI.mk fun w7 h7 => e2 w7 fun h => by
      obtain ⟨M, hM, hO'⟩ := (Proj.moveOk_iff c1).1 h
      exact hz hO'.zero
  have hz : Proj.og O 0 = 0 := by simpa using hc2
  have hsN : (Proj.sortI O).length = N := by omega
  refine LoopI.invC (α := Nat × World) (fun y => [(33, .val (.int .i64 y.1))]) (fun y => y.2) (fun y => y.1 ≤ N ∧ Below w6.heap.size w6 y.2 ∧ Below w.heap.size w y.2 ∧ ∀ j, j < y.1 → Proj.og (Proj.sortI O) j = j) (fun y => N - y.1) ?_ ?_
  · intro w7 h7
    exact ⟨(0, w7), Cov.mk (by repeat' (first | exact trivial | refine And.intro rfl ?_)) rfl rfl rfl rfl rfl, rfl, Nat.zero_le _, h7.go, h7.below, fun j hj => by omega⟩
  rintro ⟨k, W⟩ ⟨hk, hW6, hW, hall⟩
  refine Branch.mk (fun hb => ?_) (fun hb => ?_)
  · have hlt : k < N := by have : (k : Int) < (Proj.sortI O).length := by simpa using hb
                           omega
    have hgk := Proj.og_get (O := Proj.sortI O) (i := k) (by omega)
    have hSW := hSS.go hW6 hW6.size
    refine hSW.idx hgk fun ad' had' => ?_
    refine hSW.ld1 hgk had' (Below.refl _ _) (by simp) ?_
    refine Branch.mk (fun hc3 => ?_) (fun hc3 => ?_)
    · have hne : ¬ (k : Int) = Proj.og (Proj.sortI O) k := by simpa using hc3
      exact EndI.mk fun w7 h7 => e2 w7 fun h => by
        obtain ⟨M, hM, hO'⟩ := (Proj.moveOk_iff c1).1 h
        have hM' : N = M := by exact_mod_cast hM
        subst hM'
        have := Proj.sortI_upto.2 hO'.perm
        apply hne
        rw [this]
        unfold Proj.og upto
        rw [List.getElem?_map, List.getElem?_range hlt]; rfl
    · have heq : (k : Int) = Proj.og (Proj.sortI O) k := by simpa using hc3
      refine Need.mk (by show _ ∧ _; omega) (EndI.mk fun w7 h7 => ⟨(k + 1, w7), Cov.mk (by repeat' (first | exact trivial | refine And.intro rfl ?_)) rfl rfl rfl rfl rfl, rfl, ⟨hlt, hW6.trans (h7.go.mono hW6.size), h7.below, fun j hj => ?_⟩, by simp only; omega⟩)
      rcases Nat.lt_succ_iff_lt_or_eq.1 hj with h | h
      · exact hall j h
      · rw [h]; exact heq.symm
  have hge : k = N := by have : ¬ (k : Int) < (Proj.sortI O).length := by simpa using hb
                         omega
  subst hge
  have hsu : Proj.sortI O = upto k := by
    refine Proj.ext_get hsN (upto_len k) fun q hq => ?_
    have := hall q hq
    unfold Proj.og at this
    rw [this]
    unfold upto
    rw [List.getElem?_map, List.getElem?_range hq]; rfl
  have hO : Proj.Ord k O := Proj.ord_perm (by omega) hz (Proj.sortI_upto.1 hsu)
  apply CallI.use
  · intro w7 h7
    have hF : ∀ q, q < k * k → Proj.moveF k O q < L.length := fun q hq => by
      have := (Proj.moveF_lt hO hq).2
      rw [hlen']; exact this
    refine pmade_any k L a cap k (by omega) (by omega) 42 #[.pointer (some ⟨b2, 0, none⟩), .pointer (some ⟨b1, 0, none⟩)] Try.call42 (Proj.moveF k O) w7 (Sl.at h7 hS) hF (fun q W' hq hW' => ?_)
    have e1 : q / k < O.length := by have := Dbm.div_lt hq; omega
    have e2 : q % k < O.length := by have := Dbm.mod_lt hq; omega
    have r1 := hO.lt _ (Dbm.div_lt hq)
    have r2 := hO.lt _ (Dbm.mod_lt hq)
    have r3 := Proj.moveF_lt hO hq
    have hk4 : k * k ≤ 4 * 4 := Nat.mul_le_mul (by omega) (by omega)
    have r4 : 0 ≤ Proj.og O (q / k) * (k : Int) := Int.mul_nonneg r1.1 (by omega)
    have hr3 : Proj.og O (q / k) * (k : Int) + Proj.og O (q % k) < 16 := by have := r3.2; unfold Proj.moveF at this; omega
    have hW7 := hSO.go (h7.below.trans (hW'.mono h7.below.size)) (Nat.le_trans h7.below.size hW'.size)
    exact move1_any (q / k) (q % k) b2 b1 ao co O k (Proj.og O (q / k)) (Proj.og O (q % k)) (Proj.og_get e1) (Proj.og_get e2) ⟨by show _ ∧ _; omega, by show _ ∧ _; omega⟩ W'
      ((hW'.cell (p := ⟨b2, 0, none⟩) (h7.lt b2 (by simp))).trans (h7.own (i := 1) (o := 0) rfl rfl rfl)) hW7 ((hW'.cell (p := ⟨b1, 0, none⟩) (h7.lt b1 (by simp))).trans (h7.own (i := 0) (o := 0) rfl rfl rfl))
  rintro v w7 w8 h7 hB8 ⟨am, cm, rfl, hF⟩
  refine EndI.mk fun w9 h9 => ?_
  rw [Proj.move_of hc0 hO]
  refine ⟨_, _, rfl, ?_⟩
  exact (hF.at h9 (fun x hx => by rw [List.mem_singleton.1 hx]; exact h7.lt b3 (by simp))).lower h7.below.size
end Go.Proofs.Ytnhfkodjphplfaa
