/-
  The contract of dbm.Close, by the engine.
-/
import Derived.Test.YtdecibfnhceloaaGreatThruE
namespace Go.Proofs.YtdecibfnhceloaaGreat
set_option linter.unusedVariables false
set_option linter.unusedSimpArgs false
set_option maxRecDepth 100000
open Go.RowKit Go.Proofs.YtdecibfnhceloaaGreat.Eng Enc

theorem Mat.own {w0 : Base} {hp : List LB} {r L : List Nat} {w w1 : World} (h1 : At w0 hp r L w w1) (i : Nat) {b g : Nat} {n : Int} {len cap : Nat} {ty : TypeId} (hi : r[i]? = some b) (hc : hget hp i = some ⟨[.val (.int .i64 n), .val (.slice (some ⟨g, 0, none⟩) len cap)], ty⟩) : Mat w1 b g n len cap :=
  ⟨h1.own (o := 0) hi hc rfl, h1.own (o := 1) hi hc rfl⟩
theorem Own.row {e : TypeId} {base : Nat} {W : World} {a : Option Addr} {cap : Nat} {L : List Int} (h : Own e base W (.slice a L.length cap) L) (hne : 0 < L.length) : ∃ g, a = some ⟨g, 0, none⟩ ∧ base ≤ g ∧ RowAt e W g L := by
  obtain ⟨_, ⟨h0, h1⟩ | ⟨g, cap', cur, h0, hb, hg, hc, hm, hs, ht⟩⟩ := id h
  · omega
  · injection h0 with h0 h1 h2
    subst h0; subst h2
    refine ⟨g, rfl, hb, cur, hg, ?_, fun j hj => ?_⟩
    · rw [hs]; show _ ≤ cap * 1; omega
    · have := World.ownsRow.cells h (g := g) rfl (j * 1 + 0) (.int .i64 (L[j]?.getD 0)) (cellsL_get L (k := j) (i := 0) (x := L[j]) (List.getElem?_eq_getElem hj) (by rw [List.getElem?_eq_getElem hj]; rfl))
      rw [addr_addL] at this
      simp only [World.cell?, hg] at this
      simpa using this
/-- a list of ints in a row that lies behind base, and may be written; or none. -/
def Fresh (e : TypeId) (base : Nat) (W : World) (sv : Value) (L : List Int) : Prop :=
  (sv = .slice none 0 0 ∧ L = []) ∨ ∃ g cap, sv = .slice (some ⟨g, 0, none⟩) L.length cap ∧ L.length ≤ cap ∧ cap ≤ maxLen ∧ base ≤ g ∧ RowAt e W g L
theorem Fresh.sl {e : TypeId} {base : Nat} {W : World} {sv : Value} {L : List Int} (h : Fresh e base W sv L) : Sl W.heap.size W sv L := by
  rcases h with ⟨rfl, rfl⟩ | ⟨g, cap, rfl, h1, h2, h3, h4⟩
  · exact Sl.nil
  · refine ⟨_, _, rfl, h1, h2, (fun e => nomatch e), fun k x hk => ⟨g, 0, rfl, h4.lt, fun i c hi => ?_⟩⟩
    have hk' := (List.getElem?_eq_some_iff.1 hk).1
    have := h4.cell hk'
    rw [hk] at this
    match i, hi with
    | 0, hi =>
      injection hi with hi; subst hi
      rw [show 0 + (k * size Int + 0) = k by show 0 + (k * 1 + 0) = k; omega]
      exact this
theorem Fresh.form {e : TypeId} {base : Nat} {W : World} {sv : Value} {L : List Int} (h : Fresh e base W sv L) : ∃ a cap, sv = .slice a L.length cap := by
  rcases h with ⟨rfl, rfl⟩ | ⟨g, cap, rfl, _⟩
  · exact ⟨_, _, rfl⟩
  · exact ⟨_, _, rfl⟩
theorem Fresh.below {e : TypeId} {base : Nat} {W W' : World} {sv : Value} {L : List Int} (h : Fresh e base W sv L) (hB : Below W.heap.size W W') : Fresh e base W' sv L := by
  rcases h with h | ⟨g, cap, h0, h1, h2, h3, h4⟩
  · exact .inl h
  · exact .inr ⟨g, cap, h0, h1, h2, h3, h4.below hB h4.lt⟩
theorem Fresh.lower {e : TypeId} {base base' : Nat} {W : World} {sv : Value} {L : List Int} (h : Fresh e base W sv L) (hb : base' ≤ base) : Fresh e base' W sv L := by
  rcases h with h | ⟨g, cap, h0, h1, h2, h3, h4⟩
  · exact .inl h
  · exact .inr ⟨g, cap, h0, h1, h2, Nat.le_trans hb h3, h4⟩

theorem Fresh.at {w0 : Base} {hp : List LB} {r L : List Nat} {w w1 : World} {e : TypeId} {base : Nat} {sv : Value} {l : List Int} (h : Fresh e base w sv l) (h1 : At w0 hp r L w w1) (hL : ∀ b, b ∈ L → b < base) : Fresh e base w1 sv l := by
  rcases h with h | ⟨g, cap, c0, c1, c2, c3, c4⟩
  · exact .inl h
  · exact .inr ⟨g, cap, c0, c1, c2, c3, c4.kept (h1.step g c4.lt (fun e => by have := hL g e; omega))⟩
theorem RowAt.at {w0 : Base} {hp : List LB} {r L : List Nat} {w w1 : World} {T : TypeId} {g : Nat} {l : List Int} (h : RowAt T w g l) (h1 : At w0 hp r L w w1) (hL : g ∉ L) : RowAt T w1 g l := h.kept (h1.step g h.lt hL)
theorem close_any (n : Int) (a : Option Addr) (cap : Nat) (L : List Int) (w : World) (hS : Sl w.heap.size w (.slice a L.length cap) L) :
    Calls Tryz.prog 39 #[.agg #[.int .i64 n, .slice a L.length cap]] w (Ret w fun v w' => ∃ a' cap', v = .tuple #[.agg #[.int .i64 (Dbm.close n L).1, .slice a' (Dbm.close n L).2.1.length cap'], .int .i64 (Dbm.close n L).2.2] ∧ Fresh TB w.heap.size w' (.slice a' (Dbm.close n L).2.1.length cap') (Dbm.close n L).2.1) := by
  refine fun_ret 0 w Tryz.func39 (args := [.agg [.val (.int .i64 n), .val (.slice a L.length cap)]]) rfl rfl ?_
  refine NewI.mk fun b1 hb1 => ?_
  refine NewI.mk fun b2 hb2 => ?_
  (first
    | (apply CallI.use1; (focus (exact fun w1 h1 => dcheck_any n a cap L w1 (Sl.at h1 hS))); intro w1 w2 h1 hB)
    | (refine Branch.yes rfl ?_)
    | (refine Branch.no rfl ?_)
    | (refine Branch.mk (fun hb => ?_) (fun hb => ?_))
    | (refine NewI.mk fun nb hnb => ?_)
    | (refine Need.mk (by show _ ∧ _; omega) ?_)
    | (refine Need.mk (by omega) ?_)
    | (refine Need.mk ?_ ?_)
    | (refine EndI.mk fun w1 h1 => ?_))
  refine Branch.mk (fun hc => ?_) (fun hc => ?_)
  · refine EndI.mk fun w3 h3 => ?_
    have : Dbm.close n L = (0, [], 8) := by rw [Dbm.close, if_neg (by simpa using hc)]
    have h8 : Dbm.chk n L = 8 := (Dbm.chk_cases n L).resolve_left (by simpa using hc)
    rw [this, h8]
    exact ⟨_, _, rfl, .inl ⟨rfl, rfl⟩⟩
  have hc0 : Dbm.chk n L = 0 := by simpa using hc
  obtain ⟨c1, c2, c3, c4⟩ := Dbm.chk_iff.1 hc0
  obtain ⟨N, rfl⟩ : ∃ N : Nat, n = N := ⟨n.toNat, by omega⟩
  have hN1 : 1 ≤ N := by omega
  have hN4 : N ≤ 4 := by omega
  have hlen : L.length = N * N := by exact_mod_cast c3
  have hpos : 0 < L.length := by rw [hlen]; exact Nat.mul_pos hN1 hN1
  have hL16 : L.length ≤ 16 := by rw [hlen]; exact Nat.mul_le_mul hN4 hN4
  clear hc c1 c2
  apply CallI.use
  · exact fun w3 h3 => twin_any N a cap L (by omega) w3 (Sl.at h3 hS)
  rintro v w3 w4 h3 hB4 ⟨a', cap', rfl, hO⟩
  have hgb : ∀ b, b ∈ [b1, b2] → b < w3.heap.size := fun b hb => h3.lt b hb
  have hwb : w.heap.size ≤ w3.heap.size := h3.below.size
  obtain ⟨g, rfl, hg, hr⟩ := hO.row hpos
  obtain ⟨_, ⟨h0, _⟩ | ⟨g', c', cur', e0, _, hgc, hlc, hm, hs, _⟩⟩ := id hO
  · cases h0
  injection e0 with e0 e1 e2
  injection e0 with e0; injection e0 with e0; subst e0; subst e2
  refine NewI.mk fun b3 hb3 => ?_
  have hgr : ∀ b, b ∈ [b1, b2, b3] → b ≠ g := by
    intro b hb e
    subst e
    have := hr.lt
    simp only [List.mem_cons, List.not_mem_nil, or_false] at hb
    rcases hb with rfl | rfl | rfl
    · have := hgb b (by simp); omega
    · have := hgb b (by simp); omega
    · omega
  have hgw : w.heap.size ≤ g := Nat.le_trans hwb hg
  -- the error
  have none : Dbm.closeL N L = none → ∀ (w' : World), ∃ a' cap', Value.tuple #[.agg #[.int .i64 0, .slice none 0 0], .int .i64 6] = .tuple #[.agg #[.int .i64 (Dbm.close N L).1, .slice a' (Dbm.close N L).2.1.length cap'], .int .i64 (Dbm.close N L).2.2] ∧ Fresh TB w.heap.size w' (.slice a' (Dbm.close N L).2.1.length cap') (Dbm.close N L).2.1 := fun hno w' => by
    have : Dbm.close N L = (0, [], 6) := by rw [Dbm.close, if_pos hc0, Int.toNat_natCast, hno]
    rw [this]
    exact ⟨_, _, rfl, .inl ⟨rfl, rfl⟩⟩
  refine LoopI.invC (α := Nat × World × List Int) (fun y => [(23, .val (.int .i64 y.1))]) (fun y => y.2.1) (fun y => y.1 ≤ N ∧ (List.range y.1).foldlM (Dbm.diag1 N) L = some y.2.2 ∧ RowAt TB y.2.1 g y.2.2) (fun y => N - y.1) ?_ ?_
  · intro w5 h5
    exact ⟨(0, w5, L), Cov.mk (by repeat' (first | exact trivial | refine And.intro rfl ?_)) rfl rfl rfl rfl rfl, rfl, Nat.zero_le _, rfl, hr.below h5.go hr.lt⟩
  rintro ⟨i, W, Li⟩ ⟨hi, hfold, hRi⟩
  have hLi : Li.length = N * N := by rw [← hlen]; exact Dbm.foldlM_len Dbm.diag1_len hfold
  refine Branch.mk (fun hb => ?_) (fun hb => ?_)
  · have hlt : i < N := by simpa using hb
    have e4 := idx_ii hN1 hN4 hlt
    have hil : i * N + i < Li.length := by rw [hLi]; exact Int.ofNat_lt.1 e4.2.1
    have hnext : (List.range (i + 1)).foldlM (Dbm.diag1 N) L = Dbm.diag1 N Li i := by
      rw [List.range_succ, List.foldlM_append, hfold]; simp
    apply CallI.use1
    · exact fun w5 h5 => at_any N _ _ b3 g (N * N) cap' e4.1 e4.2.1 e4.2.2 w5 (Mat.own h5 2 rfl (by rw [← hlen]; rfl))
    intro w5 w6 h5 hB6
    have k6 := h5.step2 hB6
    have r6 := hRi.below k6 hRi.lt
    refine LoadI.mk ⟨_, ⟨r6.cell (j := i * N + i) hil, by simp⟩, ?_⟩
    refine Branch.mk (fun hc => ?_) (fun hc => ?_)
    · refine EndI.mk fun w7 h7 => none ?_ w7
      have h1 : (List.range (i + 1)).foldlM (Dbm.diag1 N) L = .none := by rw [hnext, Dbm.diag1, if_pos (by simpa using hc)]
      rw [Dbm.closeL, Dbm.foldlM_none h1 hlt]; rfl
    · apply CallI.use1
      · exact fun w7 h7 => at_any N _ _ b3 g (N * N) cap' e4.1 e4.2.1 e4.2.2 w7 (Mat.own h7 2 rfl (by rw [← hlen]; rfl))
      intro w7 w8 h7 hB8
      have k8 := h7.step2 hB8
      have r8 := r6.below k8 r6.lt
      refine StoreI.mk fun w9 h9 => ?_
      have r9 := r8.below h9.go r8.lt
      refine ⟨⟨⟨_, r9.cell (j := i * N + i) hil⟩, r9.frozen _⟩, keep_set hgw hgr, ?_⟩
      refine Need.mk (by show _ ∧ _; omega) (EndI.mk fun w10 h10 => ⟨(i + 1, w10, Li.set (i * N + i) 1), Cov.mk (by repeat' (first | exact trivial | refine And.intro rfl ?_)) rfl rfl rfl rfl rfl, rfl, ⟨hlt, ?_, ?_⟩, by simp only; omega⟩)
      · rw [hnext, Dbm.diag1, if_neg (by simpa using hc)]
      · exact (r9.set hil 1).below h10.go (by have := r9.lt; simpa [World.setCell] using this)
  · have hge : i = N := by have : ¬ i < N := by simpa using hb
                           omega
    rw [hge] at hfold
    clear hi hb hge
    refine LoopI.invC (α := Nat × World × List Int) (fun y => [(45, .val (.int .i64 y.1))]) (fun y => y.2.1) (fun y => y.1 ≤ N ∧ (List.range y.1).foldlM (Dbm.stage N) Li = some y.2.2 ∧ RowAt TB y.2.1 g y.2.2) (fun y => N - y.1) ?_ ?_
    · intro w5 h5
      exact ⟨(0, w5, Li), Cov.mk (by repeat' (first | exact trivial | refine And.intro rfl ?_)) rfl rfl rfl rfl rfl, rfl, Nat.zero_le _, rfl, hRi.below h5.go hRi.lt⟩
    rintro ⟨k, W2, Lk⟩ ⟨hk, hfk, hRk⟩
    have hLk : Lk.length = N * N := by rw [← hLi]; exact Dbm.foldlM_len Dbm.stage_len hfk
    refine Branch.mk (fun hb => ?_) (fun hb => ?_)
    · have hlt : k < N := by simpa using hb
      have hnext : (List.range (k + 1)).foldlM (Dbm.stage N) Li = Dbm.stage N Lk k := by
        rw [List.range_succ, List.foldlM_append, hfk]; simp
      apply CallI.mk
      intro w5 h5
      refine (through_any N k hN1 hN4 hlt b3 g cap' Lk hLk w.heap.size w5 (Nat.le_trans (Nat.le_refl _) h5.below.size) hgw (hgr b3 (by simp)) (Mat.own h5 2 rfl (by rw [← hlen]; rfl)) (hRk.below h5.go hRk.lt)).mono ?_
      rintro e w6 ⟨v, rfl, hB6, rfl, hR6, hG6⟩
      refine ⟨⟨hB6, fun b hb => hG6.block b (h5.lt b hb) (fun e => hgr b hb (by injection e))⟩, _, rfl, ?_⟩
      refine Branch.mk (fun hc => ?_) (fun hc => ?_)
      · refine EndI.mk fun w7 h7 => none ?_ w7
        have h1 : (List.range (k + 1)).foldlM (Dbm.stage N) Li = .none := by rw [hnext, Dbm.stage, if_neg (by simpa using hc)]
        rw [Dbm.closeL, hfold, Option.bind_some, Dbm.foldlM_none h1 hlt]
      · refine Need.mk (by show _ ∧ _; omega) (EndI.mk fun w10 h10 => ⟨(k + 1, w10, Dbm.thrL N k Lk), Cov.mk (by repeat' (first | exact trivial | refine And.intro rfl ?_)) rfl rfl rfl rfl rfl, rfl, ⟨hlt, ?_, ?_⟩, by simp only; omega⟩)
        · rw [hnext, Dbm.stage, if_pos (by simpa using hc)]
        · exact hR6.below h10.go hR6.lt
    · have hge : k = N := by have : ¬ k < N := by simpa using hb
                             omega
      rw [hge] at hfk
      refine EndI.mk fun w5 h5 => ?_
      have hcl : Dbm.close N L = ((N : Int), Lk, 0) := by rw [Dbm.close, if_pos hc0, Int.toNat_natCast, Dbm.closeL, hfold, Option.bind_some, hfk]
      rw [hcl]
      have hll : L.length = Lk.length := by rw [hLk, hlen]
      rw [hll]
      exact ⟨_, _, rfl, .inr ⟨g, cap', rfl, by rw [← hll]; exact hlc, hm, hgw, hRk.at h5 (fun e => hgr b2 (by simp) (List.mem_singleton.1 e).symm)⟩⟩
end Go.Proofs.YtdecibfnhceloaaGreat
