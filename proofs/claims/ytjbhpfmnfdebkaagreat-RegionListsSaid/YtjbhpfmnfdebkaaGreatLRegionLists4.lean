/-
  Merged texts of this law (each with its own head below).
-/
import Derived.Test.YtjbhpfmnfdebkaaGreatLRegionLists3
import Derived.Shelf.SlIterI.Nil
import Derived.Shelf.SlIterI.Sorted
import Derived.Shelf.SlIterI.Collect
import Derived.Shelf.SlGeneric
import Derived.Shelf.SortM.Plain
import Derived.Shelf.SortM.SortNone
import Derived.Ground.GgzProg
import Derived.Ground.SlgmProg
import Derived.Test.YtjbhpfmnfdebkaaGreatProg
import Derived.Maps.Own
import Derived.Maps.Views
import Derived.Lib.SlKeysI
import Derived.Shelf.Bits.Mul64
import Derived.Shelf.Spec.BitsCarry
import Derived.Ground.NamesProg
import Derived.Laws.StructEq
/-
  The contract of dbm.Close, by the engine.
-/
namespace Go.Proofs.YtjbhpfmnfdebkaaGreat
set_option linter.unusedVariables false
set_option linter.unusedSimpArgs false
set_option maxRecDepth 100000
open Go.RowKit Go.Proofs.YtjbhpfmnfdebkaaGreat.Eng Enc

theorem Mat.own {w0 : Base} {hp : List LB} {r L : List Nat} {w w1 : World} (h1 : At w0 hp r L w w1) (i : Nat) {b g : Nat} {n : Int} {len cap : Nat} {ty : TypeId} (hi : r[i]? = some b) (hc : hget hp i = some ⟨[.val (.int .i64 n), .val (.slice (some ⟨g, 0, none⟩) len cap)], ty⟩) : Mat w1 b g n len cap :=
  ⟨h1.own (o := 0) hi hc rfl, h1.own (o := 1) hi hc rfl⟩
theorem Own.row {e : TypeId} {base : Nat} {W : World} {a : Option Addr} {cap : Nat} {L : List Int} (h : Own e base W (.slice a L.length cap) L) (hne : 0 < L.length) : ∃ g, a = some ⟨g, 0, none⟩ ∧ base ≤ g ∧ RowAt e W g L := by
  obtain ⟨_, ⟨h0, h1⟩ | ⟨g, cap', cur, h0, hb, hg, hc, hm, hs, ht⟩⟩ := id h
  · omega
  · injection h0 with h0 h1 h2
    subst h0; subst h2
    refine ⟨g, rfl, hb, cur, hg, ?_, fun j hj => ?_⟩
    · rw [hs]; show _ ≤ cap * 1; omega
    · have := World.ownsRow.cells h (g := g) rfl (j * 1 + 0) (.int .i64 (L[j]?.getD 0)) (cellsL_get L (k := j) (i := 0) (x := L[j]) (List.getElem?_eq_getElem hj) (by rw [List.getElem?_eq_getElem hj]; rfl))
      rw [addr_addL] at this
      simp only [World.cell?, hg] at this
      simpa using this
/-- a list of ints in a row that lies behind base, and may be written; or none. -/
def Fresh (e : TypeId) (base : Nat) (W : World) (sv : Value) (L : List Int) : Prop :=
  (sv = .slice none 0 0 ∧ L = []) ∨ ∃ g cap, sv = .slice (some ⟨g, 0, none⟩) L.length cap ∧ L.length ≤ cap ∧ cap ≤ maxLen ∧ base ≤ g ∧ RowAt e W g L
theorem Fresh.sl {e : TypeId} {base : Nat} {W : World} {sv : Value} {L : List Int} (h : Fresh e base W sv L) : Sl W.heap.size W sv L := by
  rcases h with ⟨rfl, rfl⟩ | ⟨g, cap, rfl, h1, h2, h3, h4⟩
  · exact Sl.nil
  · refine ⟨_, _, rfl, h1, h2, (fun e => nomatch e), fun k x hk => ⟨g, 0, rfl, h4.lt, fun i c hi => ?_⟩⟩
    have hk' := (List.getElem?_eq_some_iff.1 hk).1
    have := h4.cell hk'
    rw [hk] at this
    match i, hi with
    | 0, hi =>
      injection hi with hi; subst hi
      rw [show 0 + (k * size Int + 0) = k by show 0 + (k * 1 + 0) = k; omega]
      exact this
theorem Fresh.form {e : TypeId} {base : Nat} {W : World} {sv : Value} {L : List Int} (h : Fresh e base W sv L) : ∃ a cap, sv = .slice a L.length cap := by
  rcases h with ⟨rfl, rfl⟩ | ⟨g, cap, rfl, _⟩
  · exact ⟨_, _, rfl⟩
  · exact ⟨_, _, rfl⟩
theorem Fresh.below {e : TypeId} {base : Nat} {W W' : World} {sv : Value} {L : List Int} (h : Fresh e base W sv L) (hB : Below W.heap.size W W') : Fresh e base W' sv L := by
  rcases h with h | ⟨g, cap, h0, h1, h2, h3, h4⟩
  · exact .inl h
  · exact .inr ⟨g, cap, h0, h1, h2, h3, h4.below hB h4.lt⟩
theorem Fresh.lower {e : TypeId} {base base' : Nat} {W : World} {sv : Value} {L : List Int} (h : Fresh e base W sv L) (hb : base' ≤ base) : Fresh e base' W sv L := by
  rcases h with h | ⟨g, cap, h0, h1, h2, h3, h4⟩
  · exact .inl h
  · exact .inr ⟨g, cap, h0, h1, h2, Nat.le_trans hb h3, h4⟩

theorem Fresh.at {w0 : Base} {hp : List LB} {r L : List Nat} {w w1 : World} {e : TypeId} {base : Nat} {sv : Value} {l : List Int} (h : Fresh e base w sv l) (h1 : At w0 hp r L w w1) (hL : ∀ b, b ∈ L → b < base) : Fresh e base w1 sv l := by
  rcases h with h | ⟨g, cap, c0, c1, c2, c3, c4⟩
  · exact .inl h
  · exact .inr ⟨g, cap, c0, c1, c2, c3, c4.kept (h1.step g c4.lt (fun e => by have := hL g e; omega))⟩
theorem RowAt.at {w0 : Base} {hp : List LB} {r L : List Nat} {w w1 : World} {T : TypeId} {g : Nat} {l : List Int} (h : RowAt T w g l) (h1 : At w0 hp r L w w1) (hL : g ∉ L) : RowAt T w1 g l := h.kept (h1.step g h.lt hL)
theorem close_any (n : Int) (a : Option Addr) (cap : Nat) (L : List Int) (w : World) (hS : Sl w.heap.size w (.slice a L.length cap) L) :
    Calls Tryz.prog 127 #[.agg #[.int .i64 n, .slice a L.length cap]] w (Ret w fun v w' => ∃ a' cap', v = .tuple #[.agg #[.int .i64 (Dbm.close n L).1, .slice a' (Dbm.close n L).2.1.length cap'], .int .i64 (Dbm.close n L).2.2] ∧ Fresh TB w.heap.size w' (.slice a' (Dbm.close n L).2.1.length cap') (Dbm.close n L).2.1) := by
  refine fun_ret 0 w Tryz.func127 (args := [.agg [.val (.int .i64 n), .val (.slice a L.length cap)]]) rfl rfl ?_
  refine NewI.mk fun b1 hb1 => ?_
  refine NewI.mk fun b2 hb2 => ?_
  (first
    | (apply CallI.use1; (focus (exact fun w1 h1 => dcheck_any n a cap L w1 (Sl.at h1 hS))); intro w1 w2 h1 hB)
    | (refine Branch.yes rfl ?_)
    | (refine Branch.no rfl ?_)
    | (refine Branch.mk (fun hb => ?_) (fun hb => ?_))
    | (refine NewI.mk fun nb hnb => ?_)
    | (refine Need.mk (by show _ ∧ _; omega) ?_)
    | (refine Need.mk (by omega) ?_)
    | (refine Need.mk ?_ ?_)
    | (refine EndI.mk fun w1 h1 => ?_))
  refine Branch.mk (fun hc => ?_) (fun hc => ?_)
  · refine EndI.mk fun w3 h3 => ?_
    have : Dbm.close n L = (0, [], 8) := by rw [Dbm.close, if_neg (by simpa using hc)]
    have h8 : Dbm.chk n L = 8 := (Dbm.chk_cases n L).resolve_left (by simpa using hc)
    rw [this, h8]
    exact ⟨_, _, rfl, .inl ⟨rfl, rfl⟩⟩
  have hc0 : Dbm.chk n L = 0 := by simpa using hc
  obtain ⟨c1, c2, c3, c4⟩ := Dbm.chk_iff.1 hc0
  obtain ⟨N, rfl⟩ : ∃ N : Nat, n = N := ⟨n.toNat, by omega⟩
  have hN1 : 1 ≤ N := by omega
  have hN4 : N ≤ 4 := by omega
  have hlen : L.length = N * N := by exact_mod_cast c3
  have hpos : 0 < L.length := by rw [hlen]; exact Nat.mul_pos hN1 hN1
  have hL16 : L.length ≤ 16 := by rw [hlen]; exact Nat.mul_le_mul hN4 hN4
  clear hc c1 c2
  apply CallI.use
  · exact fun w3 h3 => twin_any N a cap L (by omega) w3 (Sl.at h3 hS)
  rintro v w3 w4 h3 hB4 ⟨a', cap', rfl, hO⟩
  have hgb : ∀ b, b ∈ [b1, b2] → b < w3.heap.size := fun b hb => h3.lt b hb
  have hwb : w.heap.size ≤ w3.heap.size := h3.below.size
  obtain ⟨g, rfl, hg, hr⟩ := hO.row hpos
  obtain ⟨_, ⟨h0, _⟩ | ⟨g', c', cur', e0, _, hgc, hlc, hm, hs, _⟩⟩ := id hO
  · cases h0
  injection e0 with e0 e1 e2
  injection e0 with e0; injection e0 with e0; subst e0; subst e2
  refine NewI.mk fun b3 hb3 => ?_
  have hgr : ∀ b, b ∈ [b1, b2, b3] → b ≠ g := by
    intro b hb e
    subst e
    have := hr.lt
    simp only [List.mem_cons, List.not_mem_nil, or_false] at hb
    rcases hb with rfl | rfl | rfl
    · have := hgb b (by simp); omega
    · have := hgb b (by simp); omega
    · omega
  have hgw : w.heap.size ≤ g := Nat.le_trans hwb hg
  -- the error
  have none : Dbm.closeL N L = none → ∀ (w' : World), ∃ a' cap', Value.tuple #[.agg #[.int .i64 0, .slice none 0 0], .int .i64 6] = .tuple #[.agg #[.int .i64 (Dbm.close N L).1, .slice a' (Dbm.close N L).2.1.length cap'], .int .i64 (Dbm.close N L).2.2] ∧ Fresh TB w.heap.size w' (.slice a' (Dbm.close N L).2.1.length cap') (Dbm.close N L).2.1 := fun hno w' => by
    have : Dbm.close N L = (0, [], 6) := by rw [Dbm.close, if_pos hc0, Int.toNat_natCast, hno]
    rw [this]
    exact ⟨_, _, rfl, .inl ⟨rfl, rfl⟩⟩
  refine LoopI.invC (α := Nat × World × List Int) (fun y => [(23, .val (.int .i64 y.1))]) (fun y => y.2.1) (fun y => y.1 ≤ N ∧ (List.range y.1).foldlM (Dbm.diag1 N) L = some y.2.2 ∧ RowAt TB y.2.1 g y.2.2) (fun y => N - y.1) ?_ ?_
  · intro w5 h5
    exact ⟨(0, w5, L), Cov.mk (by repeat' (first | exact trivial | refine And.intro rfl ?_)) rfl rfl rfl rfl rfl, rfl, Nat.zero_le _, rfl, hr.below h5.go hr.lt⟩
  rintro ⟨i, W, Li⟩ ⟨hi, hfold, hRi⟩
  have hLi : Li.length = N * N := by rw [← hlen]; exact Dbm.foldlM_len Dbm.diag1_len hfold
  refine Branch.mk (fun hb => ?_) (fun hb => ?_)
  · have hlt : i < N := by simpa using hb
    have e4 := idx_ii hN1 hN4 hlt
    have hil : i * N + i < Li.length := by rw [hLi]; exact Int.ofNat_lt.1 e4.2.1
    have hnext : (List.range (i + 1)).foldlM (Dbm.diag1 N) L = Dbm.diag1 N Li i := by
      rw [List.range_succ, List.foldlM_append, hfold]; simp
    apply CallI.use1
    · exact fun w5 h5 => at_any N _ _ b3 g (N * N) cap' e4.1 e4.2.1 e4.2.2 w5 (Mat.own h5 2 rfl (by rw [← hlen]; rfl))
    intro w5 w6 h5 hB6
    have k6 := h5.step2 hB6
    have r6 := hRi.below k6 hRi.lt
    refine LoadI.mk ⟨_, ⟨r6.cell (j := i * N + i) hil, by simp⟩, ?_⟩
    refine Branch.mk (fun hc => ?_) (fun hc => ?_)
    · refine EndI.mk fun w7 h7 => none ?_ w7
      have h1 : (List.range (i + 1)).foldlM (Dbm.diag1 N) L = .none := by rw [hnext, Dbm.diag1, if_pos (by simpa using hc)]
      rw [Dbm.closeL, Dbm.foldlM_none h1 hlt]; rfl
    · apply CallI.use1
      · exact fun w7 h7 => at_any N _ _ b3 g (N * N) cap' e4.1 e4.2.1 e4.2.2 w7 (Mat.own h7 2 rfl (by rw [← hlen]; rfl))
      intro w7 w8 h7 hB8
      have k8 := h7.step2 hB8
      have r8 := r6.below k8 r6.lt
      refine StoreI.mk fun w9 h9 => ?_
      have r9 := r8.below h9.go r8.lt
      refine ⟨⟨⟨_, r9.cell (j := i * N + i) hil⟩, r9.frozen _⟩, keep_set hgw hgr, ?_⟩
      refine Need.mk (by show _ ∧ _; omega) (EndI.mk fun w10 h10 => ⟨(i + 1, w10, Li.set (i * N + i) 1), Cov.mk (by repeat' (first | exact trivial | refine And.intro rfl ?_)) rfl rfl rfl rfl rfl, rfl, ⟨hlt, ?_, ?_⟩, by simp only; omega⟩)
      · rw [hnext, Dbm.diag1, if_neg (by simpa using hc)]
      · exact (r9.set hil 1).below h10.go (by have := r9.lt; simpa [World.setCell] using this)
  · have hge : i = N := by have : ¬ i < N := by simpa using hb
                           omega
    rw [hge] at hfold
    clear hi hb hge
    refine LoopI.invC (α := Nat × World × List Int) (fun y => [(45, .val (.int .i64 y.1))]) (fun y => y.2.1) (fun y => y.1 ≤ N ∧ (List.range y.1).foldlM (Dbm.stage N) Li = some y.2.2 ∧ RowAt TB y.2.1 g y.2.2) (fun y => N - y.1) ?_ ?_
    · intro w5 h5
      exact ⟨(0, w5, Li), Cov.mk (by repeat' (first | exact trivial | refine And.intro rfl ?_)) rfl rfl rfl rfl rfl, rfl, Nat.zero_le _, rfl, hRi.below h5.go hRi.lt⟩
    rintro ⟨k, W2, Lk⟩ ⟨hk, hfk, hRk⟩
    have hLk : Lk.length = N * N := by rw [← hLi]; exact Dbm.foldlM_len Dbm.stage_len hfk
    refine Branch.mk (fun hb => ?_) (fun hb => ?_)
    · have hlt : k < N := by simpa using hb
      have hnext : (List.range (k + 1)).foldlM (Dbm.stage N) Li = Dbm.stage N Lk k := by
        rw [List.range_succ, List.foldlM_append, hfk]; simp
      apply CallI.mk
      intro w5 h5
      refine (through_any N k hN1 hN4 hlt b3 g cap' Lk hLk w.heap.size w5 (Nat.le_trans (Nat.le_refl _) h5.below.size) hgw (hgr b3 (by simp)) (Mat.own h5 2 rfl (by rw [← hlen]; rfl)) (hRk.below h5.go hRk.lt)).mono ?_
      rintro e w6 ⟨v, rfl, hB6, rfl, hR6, hG6⟩
      refine ⟨⟨hB6, fun b hb => hG6.block b (h5.lt b hb) (fun e => hgr b hb (by injection e))⟩, _, rfl, ?_⟩
      refine Branch.mk (fun hc => ?_) (fun hc => ?_)
      · refine EndI.mk fun w7 h7 => none ?_ w7
        have h1 : (List.range (k + 1)).foldlM (Dbm.stage N) Li = .none := by rw [hnext, Dbm.stage, if_neg (by simpa using hc)]
        rw [Dbm.closeL, hfold, Option.bind_some, Dbm.foldlM_none h1 hlt]
      · refine Need.mk (by show _ ∧ _; omega) (EndI.mk fun w10 h10 => ⟨(k + 1, w10, Dbm.thrL N k Lk), Cov.mk (by repeat' (first | exact trivial | refine And.intro rfl ?_)) rfl rfl rfl rfl rfl, rfl, ⟨hlt, ?_, ?_⟩, by simp only; omega⟩)
        · rw [hnext, Dbm.stage, if_pos (by simpa using hc)]
        · exact hR6.below h10.go hR6.lt
    · have hge : k = N := by have : ¬ k < N := by simpa using hb
                             omega
      rw [hge] at hfk
      refine EndI.mk fun w5 h5 => ?_
      have hcl : Dbm.close N L = ((N : Int), Lk, 0) := by rw [Dbm.close, if_pos hc0, Int.toNat_natCast, Dbm.closeL, hfold, Option.bind_some, hfk]
      rw [hcl]
      have hll : L.length = Lk.length := by rw [hLk, hlen]
      rw [hll]
      exact ⟨_, _, rfl, .inr ⟨g, cap', rfl, by rw [← hll]; exact hlc, hm, hgw, hRk.at h5 (fun e => hgr b2 (by simp) (List.mem_singleton.1 e).symm)⟩⟩
end Go.Proofs.YtjbhpfmnfdebkaaGreat

/-
  slices.IndexFunc and ContainsFunc at a list of api.Rat: with a function that answers p of an element, and goes from T k to T (k + 1).
-/
namespace Go.Proofs.YtjbhpfmnfdebkaaGreat
set_option linter.unusedVariables false
set_option linter.unusedSimpArgs false
set_option maxRecDepth 100000
open Go.RowKit Go.Proofs.YtjbhpfmnfdebkaaGreat.Eng Enc

theorem indexR_any (l : List Rt) (p : Rt → Bool) (a : Option Addr) (cap : Nat) (fid : FuncId) (caps : Array Value) (B : Nat) (w : World) (hB : B ≤ w.heap.size) (hS : Sl B w (.slice a l.length cap) l)
    (T : Nat → World → Prop) (h0 : T 0 w) (hst : ∀ k W W', T k W → Below W.heap.size W W' → T k W') (en : Enters Tryz.prog fid)
    (hcall : ∀ k x W, l[k]? = some x → Below B w W → T k W → Calls Tryz.prog fid (val x :: caps.toList).toArray W fun e W' => e = .returned (.bool (p x)) ∧ Below B W W' ∧ T (k + 1) W') :
    Calls Tryz.prog 225 #[.slice a l.length cap, .func (.func fid) #[] caps] w fun e w' => ∃ v, e = .returned v ∧ Below B w w' ∧ v = .int .i64 (idxF p l) ∧ T (cntF p l) w' := by
  obtain ⟨a', cap', e', hcap, hmax, _⟩ := hS.form
  injection e' with e1 e2 e3
  subst e1; subst e3
  unfold maxLen at hmax
  refine fun_at 0 B w hB Tryz.func225 (args := [.val (.slice a l.length cap), .val (.func (.func fid) #[] caps)]) rfl rfl ?_
  refine LoopI.inv (α := Nat × World) (fun x => [(8, .val (.int .i64 x.1))]) (fun _ => []) (fun x => x.2) (fun x => x.1 ≤ l.length ∧ T x.1 x.2 ∧ Below B w x.2 ∧ ∀ j y, j < x.1 → l[j]? = some y → p y = false) (fun x => l.length - x.1) ?_ ?_
  · intro w1 h1
    exact ⟨(0, w1), Cov.mk (by repeat' (first | exact trivial | refine And.intro rfl ?_)) rfl rfl rfl rfl rfl, rfl, Nat.zero_le _, hst _ _ _ h0 h1.go, h1.below, fun j y hj => by omega⟩
  · rintro ⟨k, W⟩ ⟨hk, hT, hBw, hno⟩
    refine Branch.mk (fun hb => ?_) (fun hb => ?_)
    · have hlt : k < l.length := by simpa using hb
      obtain ⟨x, hx⟩ : ∃ x, l[k]? = some x := ⟨l[k], List.getElem?_eq_getElem hlt⟩
      refine hS.idx hx fun ad had => ?_
      refine hS.ld hx had hBw (by simp) ?_
      refine Need.mk en ?_
      refine CallI.mk fun w1 h1 => ?_
      have hT1 := hst _ _ _ hT h1.go
      refine (hcall k x w1 hx h1.below hT1).mono ?_
      rintro e w2 ⟨rfl, hB2, hT2⟩
      refine ⟨⟨hB2, by simp⟩, _, rfl, ?_⟩
      refine Branch.mk (fun hp => ?_) (fun hp => ?_)
      · refine EndI.mk fun w3 h3 => ?_
        obtain ⟨i1, i2⟩ := idxF_at p l k x hx hp hno
        refine ⟨by rw [i1], by rw [i2]; exact hst _ _ _ hT2 h3.go⟩
      · refine Need.mk (by show _ ∧ _; omega) (EndI.mk fun w3 h3 => ?_)
        refine ⟨(k + 1, w3), Cov.mk (by repeat' (first | exact trivial | refine And.intro rfl ?_)) rfl rfl rfl rfl rfl, rfl, ⟨hlt, hst _ _ _ hT2 h3.go, h3.below, fun j y hj hy => ?_⟩, by simp only; omega⟩
        by_cases hjk : j = k
        · subst hjk; rw [hx] at hy; injection hy with hy; subst hy; exact hp
        · exact hno j y (by omega) hy
    · have hge : k = l.length := by have : ¬ k < l.length := by simpa using hb
                                    omega
      subst hge
      refine EndI.mk fun w3 h3 => ?_
      obtain ⟨i1, i2⟩ := idxF_none p l fun j y hy => hno j y (List.getElem?_eq_some_iff.1 hy).1 hy
      exact ⟨by rw [i1], by rw [i2]; exact hst _ _ _ hT h3.go⟩

theorem containsR_any (l : List Rt) (p : Rt → Bool) (a : Option Addr) (cap : Nat) (fid : FuncId) (caps : Array Value) (B : Nat) (w : World) (hB : B ≤ w.heap.size) (hS : Sl B w (.slice a l.length cap) l)
    (T : Nat → World → Prop) (h0 : T 0 w) (hst : ∀ k W W', T k W → Below W.heap.size W W' → T k W') (en : Enters Tryz.prog fid)
    (hcall : ∀ k x W, l[k]? = some x → Below B w W → T k W → Calls Tryz.prog fid (val x :: caps.toList).toArray W fun e W' => e = .returned (.bool (p x)) ∧ Below B W W' ∧ T (k + 1) W') :
    Calls Tryz.prog 162 #[.slice a l.length cap, .func (.func fid) #[] caps] w fun e w' => ∃ v, e = .returned v ∧ Below B w w' ∧ v = .bool (l.any p) ∧ T (cntF p l) w' := by
  refine fun_at 0 B w hB Tryz.func162 (args := [.val (.slice a l.length cap), .val (.func (.func fid) #[] caps)]) rfl rfl ?_
  refine CallI.mk fun w1 h1 => ?_
  have hB1 : B ≤ w1.heap.size := Nat.le_trans hB h1.size
  refine (indexR_any l p a cap fid caps B w1 hB1 (hS.below h1.below) T (hst _ _ _ h0 h1.go) hst en fun k x W hx hW hT => hcall k x W hx (h1.below.trans hW) hT).mono ?_
  rintro e w2 ⟨v, rfl, hB2, rfl, hT⟩
  refine ⟨⟨hB2, by simp⟩, _, rfl, ?_⟩
  refine EndI.mk fun w3 h3 => ⟨?_, hst _ _ _ hT h3.go⟩
  rw [← idxF_any]

/-- with a function that leaves the memory alone. -/
theorem containsR_pure (l : List Rt) (p : Rt → Bool) (a : Option Addr) (cap : Nat) (fid : FuncId) (caps : Array Value) (w : World) (hS : Sl w.heap.size w (.slice a l.length cap) l) (en : Enters Tryz.prog fid)
    (hcall : ∀ x W, x ∈ l → Below w.heap.size w W → Calls Tryz.prog fid (val x :: caps.toList).toArray W fun e W' => e = .returned (.bool (p x)) ∧ Below W.heap.size W W') :
    Calls Tryz.prog 162 #[.slice a l.length cap, .func (.func fid) #[] caps] w fun e w' => e = .returned (.bool (l.any p)) ∧ Below w.heap.size w w' := by
  refine (containsR_any l p a cap fid caps w.heap.size w (Nat.le_refl _) hS (fun _ _ => True) trivial (fun _ _ _ _ _ => trivial) en fun k x W hx hB _ => ?_).mono ?_
  · refine (hcall x W (List.mem_of_getElem? hx) hB).mono ?_
    rintro e W' ⟨rfl, hB'⟩
    exact ⟨rfl, hB'.mono hB.size, trivial⟩
  · rintro e w' ⟨v, rfl, hB, rfl, _⟩
    exact ⟨rfl, hB⟩
end Go.Proofs.YtjbhpfmnfdebkaaGreat

/-
  The contract of dbm.Keeps, by the engine.
-/
namespace Go.Proofs.YtjbhpfmnfdebkaaGreat
set_option linter.unusedVariables false
set_option linter.unusedSimpArgs false
set_option maxRecDepth 100000
open Go.RowKit Go.Proofs.YtjbhpfmnfdebkaaGreat.Eng Enc

namespace Dbm
/-- all moments of times: 0 and they. -/
def moments (T : List Rt) : List Rt := ⟨0, 1⟩ :: T
def pairOk (n : Nat) (L : List Int) (A : List Rt) (x : Nat) : Bool := (Fr.keeps (A[x / n]?.getD ⟨0, 1⟩) (A[x % n]?.getD ⟨0, 1⟩) (L[x]?.getD 0)).1
def keptL (n : Nat) (L : List Int) (T : List Rt) : Bool := (List.range (n * n)).all (pairOk n L (moments T))
def keeps (n : Int) (L : List Int) (T : List Rt) : Bool × Int :=
  if Dbm.chk n L = 0 ∧ T.all Rt.ok = true then (if (T.length : Int) = n - 1 then (keptL n.toNat L T, 0) else (false, 40)) else (false, 8)
end Dbm

theorem keeps1_any (x : Rt) (hx : x.ins) (w : World) : Calls Tryz.prog 163 #[.agg #[.int .i64 x.num, .int .i64 x.den]] w fun e w' => e = .returned (.bool (!x.ok)) ∧ Below w.heap.size w w' := by
  refine fun_eq 0 w Tryz.func163 (args := [.agg [.val (.int .i64 x.num), .val (.int .i64 x.den)]]) rfl rfl ?_
  repeat' (first
    | (refine CallI.to1 (rcheck_any x.num x.den hx.1 hx.2) fun w2 => ?_)
    | (refine Branch.yes rfl ?_)
    | (refine Branch.no rfl ?_)
    | (refine Branch.mk (fun hb => ?_) (fun hb => ?_))
    | (refine NewI.mk fun nb hnb => ?_)
    | (refine Need.mk (by show _ ∧ _; omega) ?_)
    | (refine Need.mk (by omega) ?_)
    | (refine Need.mk ?_ ?_)
    | (refine EndI.mk fun w1 h1 => ?_))
  cases h : x.ok
  · rw [Fr.chk_no h]; rfl
  · rw [Fr.chk_yes h]; rfl

theorem at2_any (n i j : Int) (h : Nat) (ad : Addr) (len cap : Nat) (h0 : 0 ≤ i * n + j) (h1 : i * n + j < len) (hin : inK .i64 (i * n) ∧ inK .i64 (i * n + j)) (w : World) (c0 : w.cell? ⟨h, 0, none⟩ = some (.int .i64 n)) (c1 : w.cell? ⟨h, 1, none⟩ = some (.slice (some ad) len cap)) :
    Calls Tryz.prog 165 #[.pointer (some ⟨h, 0, none⟩), .int .i64 i, .int .i64 j] w fun e w' => e = .returned (.pointer (some (ad.add ((i * n + j).toNat * 1)))) ∧ Below w.heap.size w w' := by
  refine fun_eq 0 w Tryz.func165 (args := [.val (.pointer (some ⟨h, 0, none⟩)), .val (.int .i64 i), .val (.int .i64 j)]) rfl rfl ?_
  refine DrawI.go (.tk 0 (.tk 1 (.tk 2 (.tk 3 (.tk 4 (.tk 5 (.tk 6 (.tk 7 (.tk 8 (.tk 9 (.tk 10 (.tk 11 (.tk 12 (.tk 13 (.tk 14 (.tk 15 .done)))))))))))))))) (by kernel_rfl) fun w1 k1 => ?_
  have hB := k1.go
  refine LoadI.mk ⟨_, ⟨(hB.cell (p := ⟨h, 1, none⟩) (World.block_lt_of_cell? _ _ c1)).trans c1, by simp⟩, ?_⟩
  refine LoadI.mk ⟨_, ⟨(hB.cell (p := ⟨h, 0, none⟩) (World.block_lt_of_cell? _ _ c0)).trans c0, by simp⟩, ?_⟩
  refine Need.mk hin.1 ?_
  refine Need.mk hin.2 ?_
  refine IdxI.mk ⟨_, ⟨rfl, h0, h1⟩, ?_⟩
  exact EndI.mk fun w2 k2 => rfl

theorem infoRat : (Tryz.prog.info? 36).map (fun i => (i.zero, i.size, i.bytes)) = some (some (.agg #[.int .i64 0, .int .i64 0]), 2, 16) := by kernel_rfl
theorem elR : ElOk Tryz.prog 139 36 2 16 := elOk (by kernel_rfl) infoRat rfl (by decide)
abbrev TR : TypeId := 36

theorem keepsFrom_below {B : Nat} {W W' : World} (h : Below W.heap.size W W') : KeepsFrom B W W' := ⟨h.size, fun k o _ hk hc => (h.block k (Array.getElem?_eq_some_iff.1 hk).1).trans hk⟩
theorem keepsFrom_own {B : Nat} {L : List Nat} {W w1 w2 : World} (h : Below W.heap.size W w1) (hs : w1.heap.size ≤ w2.heap.size) (hst : ∀ k, k < w1.heap.size → k ∉ L → w2.heap[k]? = w1.heap[k]?) (hL : ∀ b, b ∈ L → ∃ cs t f, W.heap[b]? = some (.cells cs t f)) : KeepsFrom B W w2 :=
  ⟨Nat.le_trans h.size hs, fun k o _ hk hc => by
    have hkW := (Array.getElem?_eq_some_iff.1 hk).1
    refine ((hst k (Nat.lt_of_lt_of_le hkW h.size) fun hm => ?_).trans (h.block k hkW)).trans hk
    obtain ⟨cs, t, f, e⟩ := hL k hm
    rw [hk] at e; injection e with e; subst e; cases hc⟩
theorem Own.own {α : Type} [Enc α] {w0 : Base} {hp : List LB} {r L : List Nat} {w w1 : World} {l : List α} (h : At w0 hp r L w w1) (i : Nat) {b n : Nat} {c : LB} (hi : r[i]? = some b) (hc : hget hp i = some c) (hm : denL r c.cells = cellsL l) (hb : w0.B ≤ b) (hn : n = l.length := by rfl) (hmax : n ≤ maxLen := by decide) : Own c.ty w0.B w1 (.slice (some ⟨b, 0, none⟩) n n) l := by
  subst hn
  have h1 := h.blk i b c hi hc
  refine ⟨cellsL_len l, .inr ⟨b, _, _, rfl, hb, h1, Nat.le_refl _, hmax, ?_, ?_⟩⟩
  · rw [hm, List.size_toArray, cellsL_len]
  · rw [hm, List.take_of_length_le (by rw [cellsL_len]; exact Nat.le_refl _)]
theorem dkeeps_any (n : Int) (a : Option Addr) (cap : Nat) (L : List Int) (T : List Rt) (at_ : Option Addr) (ct : Nat) (w : World) (hT : ∀ x ∈ T, x.ins) (hS : Sl w.heap.size w (.slice a L.length cap) L) (hST : Sl w.heap.size w (.slice at_ T.length ct) T) :
    Calls Tryz.prog 91 #[.agg #[.int .i64 n, .slice a L.length cap], .slice at_ T.length ct] w (Ret w fun v w' => v = .tuple #[.bool (Dbm.keeps n L T).1, .int .i64 (Dbm.keeps n L T).2]) := by
  refine fun_at 9 w.heap.size w (Nat.le_refl _) Tryz.func91 (args := [.agg [.val (.int .i64 n), .val (.slice a L.length cap)], .val (.slice at_ T.length ct)]) rfl rfl ?_
  refine NewI.mk fun b1 hb1 => ?_
  refine NewI.mk fun b2 hb2 => ?_
  refine NewI.mk fun b3 hb3 => ?_
  apply CallI.use1
  · exact fun w1 h1 => dcheck_any n a cap L w1 (Sl.at h1 hS)
  intro w1 w2 h1 hB2
  refine Branch.mk (fun hc => ?_) (fun hc => ?_)
  · refine EndI.mk fun w3 h3 => ?_
    have h0 : Dbm.chk n L ≠ 0 := by simpa using hc
    rw [Dbm.keeps, if_neg (fun h => h0 h.1)]
  have hc0 : Dbm.chk n L = 0 := by simpa using hc
  apply CallI.use1
  · exact fun w3 h3 => containsR_pure T (fun x => !x.ok) at_ ct 163 #[] w3 (Sl.at h3 hST) Tryz.call163 fun x W hx _ => keeps1_any x (hT x hx) W
  intro w3 w4 h3 hB4
  refine Branch.mk (fun hc2 => ?_) (fun hc2 => ?_)
  · refine EndI.mk fun w5 h5 => ?_
    have h0 : ¬ T.all Rt.ok = true := by
      simp only [List.any_eq_true] at hc2
      obtain ⟨x, hx, h⟩ := hc2
      rw [List.all_eq_true]
      intro h'
      rw [h' x hx] at h; cases h
    rw [Dbm.keeps, if_neg (fun h => h0 h.2)]
  have hok : T.all Rt.ok = true := by
    rw [List.all_eq_true]
    intro x hx
    cases h : Rt.ok x
    · have : (T.any fun x => !x.ok) = true := List.any_eq_true.2 ⟨x, hx, by rw [h]; rfl⟩
      rw [this] at hc2; cases hc2
    · rfl
  obtain ⟨c1, c2, c3, c4⟩ := Dbm.chk_iff.1 hc0
  refine Need.mk (by show _ ∧ _; omega) ?_
  refine Branch.mk (fun hc3 => ?_) (fun hc3 => ?_)
  · refine EndI.mk fun w5 h5 => ?_
    have h0 : ¬ ((T.length : Int) = n - 1) := by simpa using hc3
    rw [Dbm.keeps, if_pos ⟨hc0, hok⟩, if_neg h0]
  have hlen : (T.length : Int) = n - 1 := by simpa using hc3
  have hkp : Dbm.keeps n L T = (Dbm.keptL n.toNat L T, 0) := by rw [Dbm.keeps, if_pos ⟨hc0, hok⟩, if_pos hlen]
  rw [hkp]
  refine NewI.mk fun b4 hb4 => ?_
  refine GenN.appF (α := Rt) elR [⟨0, 1⟩] T w.heap.size rfl ?_ (fun w5 h5 => (Sl.at h5 hST).src) (by unfold maxLen; simp; omega) (by simp; omega) (fun w5 h5 => h5.below.size) ?_
  · exact fun w5 h5 => Own.own h5 3 rfl rfl rfl (Nat.le_trans (Nat.le_trans h3.below.size hB4.size) hb4)
  intro v w5 w6 h5 hB6 hO
  obtain ⟨av, cv, rfl⟩ := hO.form
  refine NewI.mk fun b5 hb5 => ?_
  refine NewI.mk fun b6 hb6 => ?_
  refine NewI.mk fun b7 hb7 => ?_
  apply CallI.mk
  intro w7 h7
  refine (callsIn_wide.1 (pairs_any n w7)).mono ?_
  rintro e w8 ⟨rfl, rfl⟩
  have hB1 : Below w7.heap.size w7 (w7.alloc (.cells #[.int .i64 n] 3)) := below_al (Below.refl _ _)
  refine ⟨h7.keep hB1, _, rfl, ?_⟩
  have hBs : (w7.alloc (.cells #[.int .i64 (n : Int)] 3)).cell? ⟨w7.heap.size, 0, none⟩ = some (.int .i64 n) := by simp
  have hsz : w7.heap.size < (w7.alloc (.cells #[.int .i64 (n : Int)] 3)).heap.size := by simp
  generalize hw2 : w7.alloc (.cells #[.int .i64 (n : Int)] 3) = w8 at hBs hsz hB1
  generalize hbs : w7.heap.size = Bs at hBs hsz
  refine RawI.mk fun ac w9 hR => ?_
  have h9 := hR.at_
  have hB9 : Below w8.heap.size w8 w9 := h9.go
  have hBs9 : Bs < w9.heap.size := Nat.lt_of_lt_of_le hsz hB9.size
  have hc9 : w9.cell? ⟨Bs, 0, none⟩ = some (.int .i64 n) := (hB9.cell (p := ⟨Bs, 0, none⟩) hsz).trans hBs
  have hw6 : Below w.heap.size w w6 := h5.below.trans (hB6.mono h5.below.size)
  have hB7 : Below w6.heap.size w6 w7 := h7.from hw6 (Below.refl _ _) (by intro b hb; simp at hb; rcases hb with rfl | rfl | rfl <;> assumption)
  have hSA : Sl w9.heap.size w9 (.slice av ([(⟨0, 1⟩ : Rt)] ++ T).length cv) ([⟨0, 1⟩] ++ T) := ((hO.sl.go hB7 hB7.size).go hB1 hB1.size).go hB9 hB9.size
  obtain ⟨N, rfl⟩ : ∃ N : Nat, n = N := ⟨n.toNat, by omega⟩
  have hN1 : 1 ≤ N := by omega
  have hN4 : N ≤ 4 := by omega
  have hLl : L.length = N * N := by exact_mod_cast c3
  refine rangeD cxOk (by decide) hR rfl Tryz.call196 (pairs_stops N (by omega) (by omega) (N * N) rfl Bs w9 hBs9 hc9) (fun h k => k.trans h) (fun W l o o' => keepsBox_put hBs9 W l o o')
    (fun W W' hs hg => World.cell?_of_block (hg.block Bs (Nat.lt_of_lt_of_le hBs9 hs) (by rintro ⟨⟩))) (fun x => rfl) (fun _ => _) (fun pre W => w9.grownBy W none ∧ ∀ x ∈ pre, Dbm.pairOk N L (Dbm.moments T) x.1 = true) ?_ rfl ⟨grown_refl _ _, by simp⟩ (fun c _ _ => c = .ret ∧ Dbm.keptL N L T = false) (fun _ _ => [⟨[.val (.int .i64 N), .val (.slice a L.length cap)], 99⟩, ⟨[.kb false], 4⟩, ⟨[.val (.int .i64 0)], 28⟩, ⟨[.val (.int .i64 0), .val (.int .i64 1)], 36⟩, ⟨[.val (.slice av ([(⟨0, 1⟩ : Rt)] ++ T).length cv)], 139⟩, ⟨[.val (.int .i64 N), .val (.slice a L.length cap)], 211⟩, ⟨[.loc 5 0], 209⟩]) (fun _ _ _ _ _ h _ _ => h) _
    (fun l z hp W => And.intro rfl rfl) ?_ ?_ ?_
  · intro pre W W' row hs hg' hr'
    exact ⟨ownFrom_grown (row0 := none) (w := w9) (Nat.le_refl _) pre W W' row hs.1 hg' hr', hs.2⟩
  · rintro l pre x W ⟨gW, hall⟩ hBW hsW hlen
    obtain ⟨x, hx⟩ := x
    have e3 := idx_ij hN1 hN4 hx
    have hxi : x / N < N := Nat.div_lt_of_lt_mul hx
    have hxj : x % N < N := Nat.mod_lt _ hN1
    have hAl : ([(⟨0, 1⟩ : Rt)] ++ T).length = N := by simp; omega
    have hAi : ∀ y ∈ [(⟨0, 1⟩ : Rt)] ++ T, y.ins := by
      intro y hy
      rcases List.mem_append.1 hy with h | h
      · rw [List.mem_singleton.1 h]; simp [Rt.ins, inK]
      · exact hT y h
    have hg1 := List.getElem?_eq_getElem (l := [(⟨0, 1⟩ : Rt)] ++ T) (i := x / N) (by rw [hAl]; exact hxi)
    have hg2 := List.getElem?_eq_getElem (l := [(⟨0, 1⟩ : Rt)] ++ T) (i := x % N) (by rw [hAl]; exact hxj)
    generalize ([(⟨0, 1⟩ : Rt)] ++ T)[x / N]'_ = y1 at hg1
    generalize ([(⟨0, 1⟩ : Rt)] ++ T)[x % N]'_ = y2 at hg2
    have hgL := List.getElem?_eq_getElem (l := L) (i := x) (by rw [hLl]; exact hx)
    generalize L[x]'_ = bx at hgL
    have hok1 : Dbm.pairOk N L (Dbm.moments T) x = (Fr.keeps y1 y2 bx).1 := by
      unfold Dbm.pairOk Dbm.moments
      have e1 : (⟨0, 1⟩ :: T : List Rt) = [⟨0, 1⟩] ++ T := rfl
      rw [e1, hg1, hg2, hgL]; rfl
    have B9 : Below w9.heap.size w9 W := ⟨gW.os, gW.tape, gW.output, gW.size, fun k hk => gW.block k hk (by simp)⟩
    refine DrawI.go (.tk 0 (.tk 1 (.tk 2 (.tk 3 (.tk 4 (.tk 5 (.tk 6 (.tk 7 (.tk 8 (.tk 9 (.tk 10 (.ev 11 (.tk 12 (.tk 13 (.ev 14 (.tk 15 (.tk 16 (.tk 17 (.tk 18 (.tk 19 .done)))))))))))))))))))) (by kernel_rfl) fun w10 h10 => ?_
    have hA10 : Sl w10.heap.size w10 (.slice av ([(⟨0, 1⟩ : Rt)] ++ T).length cv) ([⟨0, 1⟩] ++ T) := (hSA.go B9 B9.size).go h10.go h10.go.size
    have e1 : ((x : Int) / N) = ((x / N : Nat) : Int) := rfl
    have e2 : ((x : Int) % N) = ((x % N : Nat) : Int) := rfl
    refine hA10.idx hg1 fun ad had => ?_
    refine hA10.ld hg1 had (Below.refl _ _) (by simp) ?_
    refine hA10.idx hg2 fun ad2 had2 => ?_
    refine hA10.ld hg2 had2 (Below.refl _ _) (by simp) ?_
    have hS10 := hS.go h10.below h10.below.size
    obtain ⟨al, hal⟩ : ∃ al, a = some al := by
      obtain ⟨_, _, e0, _, _, _, h4⟩ := hS10
      obtain ⟨b, o, h, _⟩ := h4 x bx hgL
      injection e0 with e0
      exact ⟨_, e0.trans h⟩
    subst hal
    apply CallI.use1
    · exact fun w11 h11 => at2_any N _ _ b6 al L.length cap e3.1 (by rw [hLl]; exact e3.2.1) ⟨e3.2.2.1, e3.2.2.2.1⟩ w11 (h11.own (i := 5) (o := 0) rfl rfl rfl) (h11.own (i := 5) (o := 1) rfl rfl rfl)
    intro w11 w12 h11 hB12
    rw [e3.2.2.2.2]
    refine hS10.ld1 hgL rfl (Below.refl _ _) (by simp) ?_
    apply CallI.use1
    · exact fun w13 h13 => rkeeps_any y1 y2 (hAi y1 (List.mem_of_getElem? hg1)) (hAi y2 (List.mem_of_getElem? hg2)) bx w13
    intro w13 w14 h13 hB14
    refine Branch.mk (fun hb => ?_) (fun hb => ?_)
    · have hno : (Fr.keeps y1 y2 bx).1 = false := by simpa using hb
      refine Need.mk (CovH.mk rfl rfl rfl) (EndI.mk fun w15 h15 => ⟨?_, rfl, ?_⟩)
      · have k12 := h11.step2 hB12
        have B10 := h10.go
        have B14 : Below W.heap.size W w14 := B10.trans ((k12.trans ((h13.step2 hB14).mono k12.size)).mono B10.size)
        refine keepsFrom_own B14 h15.size h15.step fun b hb => ?_
        simp at hb
        rcases hb with rfl | rfl
        · exact ⟨_, _, _, (gW.block _ (h9.lt _ (by simp)) (by simp)).trans (h9.blk 2 _ ⟨_, _⟩ (by rfl) (by rfl))⟩
        · exact ⟨_, _, _, (gW.block _ (h9.lt _ (by simp)) (by simp)).trans (h9.blk 1 _ ⟨_, _⟩ (by rfl) (by rfl))⟩
      · rw [Dbm.keptL, List.all_eq_false]
        exact ⟨x, List.mem_range.2 hx, by rw [hok1, hno]; simp⟩
    · have hyes : (Fr.keeps y1 y2 bx).1 = true := by simpa using hb
      have k12 := h11.step2 hB12
      have B10 := h10.go
      have B14 : Below W.heap.size W w14 := B10.trans ((k12.trans ((h13.step2 hB14).mono k12.size)).mono B10.size)
      refine Need.mk (CovH.mk rfl rfl rfl) (EndI.mk fun w15 h15 => ?_)
      have B15 : Below W.heap.size W w15 := B14.trans (h15.go.mono B14.size)
      refine ⟨keepsFrom_below B15, World.cell?_of_block (B15.block Bs (Nat.lt_of_lt_of_le hBs9 hsW)), grown_below gW B15, ?_⟩
      intro z hz
      rcases List.mem_append.1 hz with h | h
      · exact hall z h
      · rw [List.mem_singleton.1 h]
        show Dbm.pairOk N L (Dbm.moments T) x = true
        rw [hok1, hyes]
  · rintro D xs W hD hSx ⟨gW, hall⟩ hmark
    have hk : Dbm.keptL N L T = true := by
      rw [Dbm.keptL, List.all_eq_true]
      intro x hx
      rw [← hSx] at hx
      obtain ⟨y, hy, rfl⟩ := List.mem_map.1 hx
      exact hall y hy
    have hDW : D < W.heap.size := (Array.getElem?_eq_some_iff.1 hmark).1
    have hl2 := h9.lt b2 (by simp)
    have hl3 := h9.lt b3 (by simp)
    refine EndM.mk fun w10 h10 => ⟨⟨Nat.le_trans h9.below.size hD, (h10.step D hDW (by intro hm; simp at hm; omega)).trans hmark⟩, fun w11 hu => ?_⟩
    rw [Int.toNat_natCast, hk]
  · rintro D c e pre W hD hSp ⟨rfl, hk⟩ he hmark
    cases he
    have hDW : D < W.heap.size := (Array.getElem?_eq_some_iff.1 hmark).1
    refine EndM.mk fun w10 h10 => ⟨⟨Nat.le_trans h9.below.size hD, (h10.step D hDW (by simp)).trans hmark⟩, fun w11 hu => ?_⟩
    rw [Int.toNat_natCast, hk]
end Go.Proofs.YtjbhpfmnfdebkaaGreat

/-
  Rows of the run's own, gone on: an append in place, and a part struck out (clear).
-/
namespace Go.Proofs.YtjbhpfmnfdebkaaGreat
set_option linter.unusedVariables false
set_option linter.unusedSimpArgs false
open Go.RowKit Go.Proofs.YtjbhpfmnfdebkaaGreat.Eng Enc

section
variable {α : Type} [Enc α]
theorem cellsL_take (l : List α) (i : Nat) : cellsL (l.take i) = (cellsL l).take (i * size α) := by
  induction l generalizing i with
  | nil => simp [cellsL]
  | cons x l ih =>
    cases i with
    | zero => simp [cellsL]
    | succ i =>
      simp only [List.take_succ_cons, cellsL, ih]
      have h1 : (enc x).take ((i + 1) * size α) = enc x := List.take_of_length_le (by rw [len, Nat.succ_mul]; omega)
      have h2 : (i + 1) * size α - size α = i * size α := by rw [Nat.succ_mul]; omega
      rw [List.take_append, h1, len, h2]
theorem Own.take {e : TypeId} {base : Nat} {W : World} {g cap : Nat} {l : List α} (h : Own e base W (.slice (some ⟨g, 0, none⟩) l.length cap) l) (i : Nat) (hi : i ≤ l.length) : Own e base W (.slice (some ⟨g, 0, none⟩) i cap) (l.take i) := by
  obtain ⟨hl, ⟨h0, _⟩ | ⟨g', cap', cur, h0, hb, hg, hn, hm, hs, ht⟩⟩ := h
  · cases h0
  · injection h0 with h0 h1 h2
    injection h0 with h0; injection h0 with h0
    subst h0; subst h2
    have hli : (l.take i).length = i := by simp; omega
    refine ⟨cellsL_len _, .inr ⟨g, cap, cur, by rw [hli], hb, hg, by rw [hli]; omega, hm, hs, ?_⟩⟩
    rw [hli, cellsL_take, ← ht, List.take_take]
    congr 1
    have := Nat.mul_le_mul_right (size α) hi
    omega
theorem Own.at0 {e : TypeId} {base : Nat} {W : World} {g n cap : Nat} {l : List α} (h : Own e base W (.slice (some ⟨g, 0, none⟩) n cap) l) : n = l.length ∧ base ≤ g ∧ g < W.heap.size ∧ ∃ cur, W.heap[g]? = some (.cells cur e (0, 0)) ∧ l.length ≤ cap ∧ cap ≤ maxLen ∧ cur.size = cap * size α ∧ cur.toList.take (l.length * size α) = cellsL l := by
  obtain ⟨hl, ⟨h0, _⟩ | ⟨g', cap', cur, h0, hb, hg, hn, hm, hs, ht⟩⟩ := h
  · cases h0
  · injection h0 with h0 h1 h2
    injection h0 with h0; injection h0 with h0
    subst h0; subst h1; subst h2
    exact ⟨rfl, hb, (Array.getElem?_eq_some_iff.1 hg).1, cur, hg, hn, hm, hs, ht⟩
/-- cells turned behind a row's list. -/
theorem Own.setRow {e : TypeId} {base : Nat} {W : World} {g n cap : Nat} {l : List α} (h : Own e base W (.slice (some ⟨g, 0, none⟩) n cap) l) {cur : Array Value} (hc : W.heap[g]? = some (.cells cur e (0, 0))) (o : Nat) (vs : List Value) (ho : l.length * size α ≤ o) (hov : o + vs.length ≤ cur.size) :
    Own e base (W.setRow g (cur.toList.take o ++ vs ++ cur.toList.drop (o + vs.length)).toArray) (.slice (some ⟨g, 0, none⟩) n cap) l := by
  obtain ⟨rfl, hb, hlt, cur', hg, hn, hm, hs, ht⟩ := h.at0
  rw [hg] at hc
  injection hc with hc; injection hc with hc _; subst hc
  refine ⟨cellsL_len _, .inr ⟨g, cap, _, rfl, hb, setRow_heap W g cur' _ e _ hg, hn, hm, ?_, ?_⟩⟩
  · simp only [List.size_toArray, List.length_append, List.length_take, List.length_drop, Array.length_toList]; omega
  · rw [List.append_assoc, List.take_append_of_le_length (by simp; omega), List.take_take, Nat.min_eq_left ho]; exact ht

theorem grown_setRow (W : World) (g : Nat) (cs : Array Value) : W.grownBy (W.setRow g cs) (some g) := ⟨rfl, rfl, rfl, by simp, fun k _ hk => setRow_other _ g k _ (fun e => hk (by simp [e]))⟩
theorem storeCells_any {P : Program} {W : World} {g o : Nat} {e : TypeId} {cur : Array Value} {vs : List Value} (hg : W.heap[g]? = some (.cells cur e (0, 0))) (h : o + vs.length ≤ cur.size) (h1 : ∀ v ∈ vs, v.oneCell' = true) :
    (storeCells ⟨g, o, none⟩ vs).run P W = .ok () (W.setRow g (cur.toList.take o ++ vs ++ cur.toList.drop (o + vs.length)).toArray) := by
  have := run_storeCells_at P g o e vs 0 cur W hg (by simpa using h) h1
  simpa using this
/-- clear, at a part of a row. -/
theorem run_clear {P : Program} {W : World} {t e : TypeId} {i : TI} (ht : P.underlying t = some (.slice e)) (hT : TyOk P e i) (hp : 0 < i.zero.length) {g o n c : Nat} {cur : Array Value} (hg : W.heap[g]? = some (.cells cur e (0, 0))) (h : o + n * i.zero.length ≤ cur.size) (hn : 0 < n) :
    ∃ vs : List Value, vs.length = n * i.zero.length ∧ ∀ (ty : TypeId) (consts : Array Bool) (v : Value), v = .slice (some ⟨g, o, none⟩) n c → (builtin .clear #[t] ty consts #[v]).run P W = .ok (.value (.tuple #[])) (W.setRow g (cur.toList.take o ++ vs ++ cur.toList.drop (o + vs.length)).toArray) := by
  have hz := zero_cells hT
  refine ⟨(Builtin.zeroCells i.zero.toArray n).toList, by simp [Builtin.zeroCells], ?_⟩
  rintro ty consts v rfl
  have h1 : ∀ v ∈ (Builtin.zeroCells i.zero.toArray n).toList, v.oneCell' = true := by
    intro v hv
    simp only [Builtin.zeroCells, Array.toList_map, List.mem_map, Array.toList_range, List.mem_range] at hv
    obtain ⟨k, hk, rfl⟩ := hv
    have hm : k % i.zero.toArray.size < i.zero.length := by simp; exact Nat.mod_lt _ hp
    rw [getElem!_pos _ _ (by simpa using hm)]
    exact hT.ones _ (by simp)
  have hst := storeCells_any (P := P) (o := o) (vs := (Builtin.zeroCells i.zero.toArray n).toList) hg (by simpa [Builtin.zeroCells] using h) h1
  obtain ⟨m, rfl⟩ : ∃ m, n = m + 1 := ⟨n - 1, by omega⟩
  have hzr := hT.zero W
  generalize (if i.ag then Value.agg i.zero.toArray else i.zero.getD 0 undef) = z at hz hzr
  simp [builtin, Builtin.clear_, Sem.run_bind, run_underlying ht, hzr, Result.andThen, hz, hst]
end

/-- an append of something to a row that is full: a new block. -/
theorem run_append_new {P : Program} {w : World} {t ty e : TypeId} {sz bytes : Nat} (hE : ElOk P t e sz bytes) (base b n : Nat) (xs : List Value) (hown : w.ownsRow base e sz (.slice (some ⟨b, 0, none⟩) n n) n xs)
    (sv : Value) (m : Nat) (news : List Value) (hsrc : SrcC w sv sz m news) (hm : m ≠ 0) (h1 : ∀ u ∈ news, u.oneCell' = true) (h63 : n + m ≤ maxLen) (hbytes : (n + m) * bytes ≤ 140737488355328) :
    ∃ v' w', (Builtin.append_ #[t, t] ty #[.slice (some ⟨b, 0, none⟩) n n, sv]).run P w = .ok v' w' ∧ w'.ownsRow w.heap.size e sz v' (n + m) (xs ++ news) ∧ w.grownBy w' none := by
  obtain ⟨ht, ⟨i, z, hi, hz, hs, hb, hzs⟩, hp⟩ := hE
  obtain ⟨hl, ⟨rfl, rfl⟩ | ⟨ad, c, rfl, hc⟩⟩ := hsrc
  · exact absurd rfl hm
  · subst hs; subst hb
    have hsmall : n + m ≤ 9223372036854775807 := by simp only [maxLen] at h63; omega
    have hlen : (xs ++ news).length = (n + m) * i.size := by rw [List.length_append, hown.1, hl, Nat.add_mul]
    have holds : ∀ j u, xs[j]? = some u → w.cell? ((⟨b, 0, none⟩ : Addr).add j) = some u := World.ownsRow.cells hown (g := b) rfl
    have hr := run_append_grow (P := P) w t ty e i z ht hi hz ⟨b, 0, none⟩ n n xs hown.1 holds ad m c news hl hc (by omega) (by omega) (growslice_fits (by omega) hbytes)
    have hge := grownCap_ge w (n + m) n e
    have hcm : grownCap w (n + m) n e ≤ maxLen := grownCap_le_maxLen w (n + m) n e h63
    refine ⟨_, _, hr, ⟨hlen, .inr ⟨w.heap.size, _, _, rfl, Nat.le_refl _, World.alloc_heap_new w.drew _, hge, hcm, ?_, ?_⟩⟩, ⟨rfl, rfl, rfl, by simp, fun k hk _ => Below.heap_alloc w.drew _ k hk⟩⟩
    · simp only [Array.size_append, List.size_toArray, size_zeroCells, hzs, hown.1, hl, ← Nat.add_mul]
      congr 1
      omega
    · simp only [Array.toList_append, List.append_assoc]
      rw [← List.append_assoc, ← hlen]
      exact List.take_left
section
variable {α : Type} [Enc α]
theorem GenN.appN {P : Program} {w0 : Base} {kp : List Nat → World → World → Prop} [hkp : KpOk w0 kp] {hp : List LB} {r L : List Nat} {w : World} {K : Value → World → Prop} {t ty e : TypeId} {bytes : Nat} {consts : Array Bool} {b n : Nat} {sv : Value}
    (hE : ElOk P t e (size α) bytes) (l m : List α) (base : Nat) (hn : n = l.length) (hown : ∀ w1, At w0 hp r L w w1 → Own e base w1 (.slice (some ⟨b, 0, none⟩) n n) l) (hsrc : ∀ w1, At w0 hp r L w w1 → SrcC w1 sv (size α) m.length (cellsL m)) (hm : m ≠ [])
    (h63 : l.length + m.length ≤ maxLen) (hbytes : (l.length + m.length) * bytes ≤ 140737488355328)
    (hk : ∀ v' w1 w2, At w0 hp r L w w1 → Below w1.heap.size w1 w2 → Own e w1.heap.size w2 v' (l ++ m) → K v' w2) :
    GenN P w0 kp (builtin .append #[t, t] ty consts #[.slice (some ⟨b, 0, none⟩) n n, sv]) hp r L w K := ⟨fun w1 h1 => by
  subst hn
  obtain ⟨v', w2, hrun, ho, hg⟩ := run_append_new (ty := ty) hE base b _ _ (hown w1 h1) sv _ _ (hsrc w1 h1) (fun e => hm (List.eq_nil_of_length_eq_zero e)) (cellsL_one m) h63 hbytes
  have hB : Below w1.heap.size w1 w2 := ⟨hg.os, hg.tape, hg.output, hg.size, fun k hk => hg.block k hk (by simp)⟩
  refine ⟨v', w2, ?_, hkp.ok h1 hB, hk v' w1 w2 h1 hB ?_⟩
  · simp only [builtin, Sem.run_bind, hrun, Result.andThen, Sem.run_pure]
  · unfold Own; rw [cellsL_append, List.length_append]; exact ho⟩
end
end Go.Proofs.YtjbhpfmnfdebkaaGreat

/-
  What stays: the worlds that a run has come by, each of which still stands below; one list, lengthened call by call.
-/
namespace Go.Proofs.YtjbhpfmnfdebkaaGreat
set_option linter.unusedVariables false
open Go.RowKit Go.Proofs.YtjbhpfmnfdebkaaGreat.Eng Enc

/-- the worlds that the run has come by; w: the last one. -/
structure Stay (w0 : Base) (l : List World) (w : World) : Prop where
  base : ∀ X, X ∈ l → Below w0.B w0.W X
  all : ∀ X, X ∈ l → Below X.heap.size X w
theorem Stay.start {w0 : Base} {w : World} (h : Below w0.B w0.W w) : Stay w0 [w] w :=
  ⟨fun X hX => by rw [List.mem_singleton.1 hX]; exact h, fun X hX => by rw [List.mem_singleton.1 hX]; exact Below.refl _ _⟩
theorem Stay.first {w : World} : Stay ⟨w, w.heap.size, Nat.le_refl _⟩ [w] w := Stay.start (Below.refl _ _)
section
variable {w0 : Base} {l : List World} {hp : List LB} {r L : List Nat} {w w1 w2 : World}
/-- at a world at hand. -/
theorem Stay.at (st : Stay w0 l w) (h : At w0 hp r L w w1) (hL : ∀ b, b ∈ L → w.heap.size ≤ b) : Stay w0 (w1 :: l) w1 := by
  refine ⟨fun X hX => ?_, fun X hX => ?_⟩
  · rcases List.mem_cons.1 hX with rfl | hX
    · exact h.below
    · exact st.base X hX
  · rcases List.mem_cons.1 hX with rfl | hX
    · exact Below.refl _ _
    · exact h.from (st.base X hX) (st.all X hX) fun b hb => Nat.le_trans (st.all X hX).size (hL b hb)
theorem Stay.go (st : Stay w0 l w) (h : w0.B ≤ w.heap.size) (hb : Below w0.B w0.W w) (hB : Below w.heap.size w w2) : Stay w0 (w2 :: l) w2 := by
  refine ⟨fun X hX => ?_, fun X hX => ?_⟩
  · rcases List.mem_cons.1 hX with rfl | hX
    · exact hb.trans (hB.mono h)
    · exact st.base X hX
  · rcases List.mem_cons.1 hX with rfl | hX
    · exact Below.refl _ _
    · exact (st.all X hX).trans (hB.mono (st.all X hX).size)
theorem Stay.next (st : Stay w0 l w) (h : At w0 hp r L w w1) (hL : ∀ b, b ∈ L → w.heap.size ≤ b) (hB : Below w1.heap.size w1 w2) : Stay w0 (w2 :: w1 :: l) w2 :=
  (st.at h hL).go (Nat.le_trans w0.le h.below.size) h.below hB
theorem Stay.sub {m : List World} (st : Stay w0 l w) (h : ∀ X, X ∈ m → X ∈ l) : Stay w0 m w := ⟨fun X hX => st.base X (h X hX), fun X hX => st.all X (h X hX)⟩
theorem Stay.get (st : Stay w0 l w) {X : World} (hX : X ∈ l) : Below X.heap.size X w := st.all X hX
end
/-- a list that was shown at a world that the run has come by. -/
theorem Sl.st {α : Type} [Enc α] {w0 : Base} {l : List World} {X w : World} {sv : Value} {m : List α} (h : Sl X.heap.size X sv m) (st : Stay w0 l w) (hX : X ∈ l := by simp) : Sl w.heap.size w sv m := h.go (st.get hX) (st.get hX).size
/-- a slice's beginning. -/
theorem Sl.pre {α : Type} [Enc α] {n : Nat} {W : World} {a : Option Addr} {m cap : Nat} {l : List α} (h : Sl n W (.slice a m cap) l) (hi : Nat) (h2 : hi ≤ l.length) : Sl n W (.slice a hi cap) (l.take hi) := by
  obtain ⟨a', cap', e, c1, c2, c3, c4⟩ := h
  injection e with e1 e2 e3
  subst e1; subst e2; subst e3
  have hl : (l.take hi).length = hi := by simp; omega
  refine ⟨_, _, by rw [hl], by rw [hl]; omega, c2, c3, fun k x hk => ?_⟩
  rw [List.getElem?_take] at hk
  split at hk
  case isFalse => cases hk
  exact c4 k x hk
theorem Fresh.st {w0 : Base} {l : List World} {X w : World} {e : TypeId} {base : Nat} {sv : Value} {m : List Int} (h : Fresh e base X sv m) (st : Stay w0 l w) (hX : X ∈ l := by simp) : Fresh e base w sv m := h.below (st.get hX)
theorem Own.st {α : Type} [Enc α] {w0 : Base} {l : List World} {X w : World} {e : TypeId} {base : Nat} {sv : Value} {m : List α} (h : Own e base X sv m) (st : Stay w0 l w) (hX : X ∈ l := by simp) : Own e base w sv m := h.below (st.get hX)

/-- a slice that is made: all zeros. -/
theorem cells_rep {α : Type} [Enc α] (z : α) (n : Nat) : cellsL (List.replicate n z) = (List.range (n * size α)).map fun k => (enc z)[k % size α]?.getD undef := by
  induction n with
  | zero => simp [cellsL]
  | succ n ih =>
    rw [List.replicate_succ', cellsL_append, ih, Nat.succ_mul, List.range_add, List.map_append]
    congr 1
    simp only [cellsL, List.append_nil, List.map_map]
    apply List.ext_getElem?
    intro k
    rw [List.getElem?_map]
    rcases Nat.lt_or_ge k (size α) with h | h
    · rw [List.getElem?_range h]
      simp only [Option.map_some, Function.comp]
      rw [Nat.add_comm, Nat.add_mul_mod_self_right, Nat.mod_eq_of_lt h, List.getElem?_eq_getElem (by rw [len]; exact h)]; rfl
    · rw [List.getElem?_eq_none (by rw [len]; exact h), List.getElem?_eq_none (l := List.range (size α)) (by simpa using h)]; rfl
theorem GenV.mks {α : Type} [Enc α] {P : Program} {w0 : Base} {kp : List Nat → World → World → Prop} [hkp : KpOk w0 kp] {hp : List LB} {r L : List Nat} {w : World} {K : Value → World → Prop} {t e : TypeId} {bytes : Nat} (hE : ElOk P t e (size α) bytes) (z : α)
    (hz : (P.info? e).map (fun i => i.zero.map fun v => v.cells.toList) = some (some (enc z))) (n : Nat) {i : Int} (hi : i = n) (hbig : n * size α ≤ 16777216) (hbytes : bytes * n ≤ 281474976710656)
    (hk : ∀ v w1 w2, At w0 hp r L w w1 → Below w1.heap.size w1 w2 → Own e w1.heap.size w2 v (List.replicate n z) → K v w2) : GenV P w0 kp (Instr.makeSlice t (.int .i64 i) (.int .i64 i)) hp r L w K := ⟨fun w1 h1 => by
  subst hi
  obtain ⟨ht, ⟨inf, zv, hi, hzv, hss, hby, hzs⟩, hp⟩ := hE
  obtain ⟨w2, hr2, hown, hg2⟩ := run_makeSlice_full (P := P) w1 w1.heap.size _ _ inf zv (size α) ht hi hzv hss .i64 .i64 n hbig (by rw [hby]; exact hbytes) (by
    have h1 : n * 1 ≤ n * size α := Nat.mul_le_mul_left n hp
    unfold maxLen; omega) (Nat.le_refl _)
  have hB2 : Below w1.heap.size w1 w2 := ⟨hg2.os, hg2.tape, hg2.output, hg2.size, fun k hk => hg2.block k hk (by simp)⟩
  refine ⟨_, w2, hr2, hkp.ok h1 hB2, hk _ w1 w2 h1 hB2 ?_⟩
  have hzc : zv.cells.toList = enc z := by
    rw [hi] at hz
    simp only [Option.map_some, Option.some.injEq, hzv] at hz
    exact hz
  unfold Own
  rw [List.length_replicate, cells_rep]
  have e1 : (madeCells zv.cells (n * size α)).toList = (List.range (n * size α)).map fun k => (enc z)[k % size α]?.getD undef := by
    unfold madeCells
    simp only [Array.toList_map, Array.toList_range]
    refine List.map_congr_left fun k _ => ?_
    rw [← hzc]
    have hm : k % size α < zv.cells.size := by rw [hzs]; exact Nat.mod_lt _ hp
    rw [hzs, getElem!_pos zv.cells _ hm, Array.getElem?_toList, Array.getElem?_eq_getElem hm]; rfl
  rw [← e1]
  exact hown⟩
/-- a list that a loop makes longer, in a row of the run's own: the worlds that stay; the row lies behind base, and base behind them and behind the run's blocks. -/
structure Lp {α : Type} [Enc α] (w0 : Base) (l : List World) (r : List Nat) (e : TypeId) (base : Nat) (W : World) (v : Value) (xs : List α) : Prop where
  st : Stay w0 l W
  own : Own e base W v xs
  anc : ∀ X, X ∈ l → X.heap.size ≤ base
  blk : ∀ b, b ∈ r → b < base
  size : base ≤ W.heap.size
  b0 : w0.B ≤ base
section
variable {α : Type} [Enc α] {w0 : Base} {l : List World} {hp : List LB} {r r0 L : List Nat} {w w1 w2 : World} {e : TypeId} {base : Nat} {v sv : Value} {xs : List α}
theorem Lp.start (st : Stay w0 l w) (h : At w0 hp r L w w1) (hL : ∀ b, b ∈ L → w.heap.size ≤ b) : Lp w0 l r e w1.heap.size w1 (.slice none 0 0) ([] : List α) := by
  have s1 := st.at h hL
  refine ⟨⟨fun X hX => st.base X hX, fun X hX => s1.all X (List.mem_cons_of_mem _ hX)⟩, Own.nil, fun X hX => (s1.all X (List.mem_cons_of_mem _ hX)).size, fun b hb => h.lt b hb, Nat.le_refl _, Nat.le_trans w0.le h.below.size⟩
theorem Lp.go (lp : Lp w0 l r0 e base w v xs) (hB : Below w.heap.size w w2) : Lp w0 l r0 e base w2 v xs :=
  ⟨⟨lp.st.base, fun X hX => (lp.st.all X hX).trans (hB.mono (lp.st.all X hX).size)⟩, lp.own.below hB, lp.anc, lp.blk, Nat.le_trans lp.size hB.size, lp.b0⟩
theorem Lp.at (lp : Lp w0 l r0 e base w v xs) (h : At w0 hp r L w w1) (hL : ∀ b, b ∈ L → w.heap.size ≤ b ∨ b < base ∧ ∀ X, X ∈ l → X.heap.size ≤ b) : Lp w0 l r0 e base w1 v xs := by
  refine ⟨⟨lp.st.base, fun X hX => h.from (lp.st.base X hX) (lp.st.all X hX) fun b hb => ?_⟩, ?_, lp.anc, lp.blk, Nat.le_trans lp.size h.size, lp.b0⟩
  · rcases hL b hb with h1 | h1
    · exact Nat.le_trans (lp.st.all X hX).size h1
    · exact h1.2 X hX
  · obtain ⟨hl, h0 | ⟨g, cap, cur, e1, e2, e3, e4⟩⟩ := lp.own
    · exact ⟨hl, .inl h0⟩
    · have hg := (Array.getElem?_eq_some_iff.1 e3).1
      exact ⟨hl, .inr ⟨g, cap, cur, e1, e2, (h.step g hg (fun e => by have := hL g e; omega)).trans e3, e4⟩⟩
theorem GenN.appL {P : Program} {K : Value → World → Prop} {t ty : TypeId} {bytes : Nat} {consts : Array Bool} (hE : ElOk P t e (size α) bytes) (lp : Lp w0 l r0 e base w v xs) (hr : ∀ b, b ∈ r → b ∈ r0 ∨ w.heap.size ≤ b) (hL : ∀ b, b ∈ L → w.heap.size ≤ b)
    (ms : List α) (hsrc : ∀ w1, At w0 hp r L w w1 → SrcC w1 sv (size α) ms.length (cellsL ms)) (h63 : xs.length + ms.length ≤ 1000000) (hby : bytes ≤ 1000000)
    (hk : ∀ a' c' w5 w6, At w0 hp r L w w5 → Lp w0 l r0 e base w6 (.slice a' (xs ++ ms).length c') (xs ++ ms) → w5.heap.size ≤ w6.heap.size → (∀ k, k < w5.heap.size → k < base ∨ w.heap.size ≤ k → w6.heap[k]? = w5.heap[k]?) → K (.slice a' (xs ++ ms).length c') w6) :
    GenN P w0 (Keep w0) (builtin .append #[t, t] ty consts #[v, sv]) hp r L w K := by
  have hLp : ∀ w1, At w0 hp r L w w1 → Lp w0 l r0 e base w1 v xs := fun w1 h1 => lp.at h1 fun b hb => .inl (hL b hb)
  have hrow : ∀ k, v.ownBlock = some k → w0.B ≤ k ∧ k ∉ r := fun k hk => by
    have h1 := lp.own.lt k hk
    refine ⟨Nat.le_trans lp.b0 h1.1, fun hm => ?_⟩
    rcases hr k hm with h2 | h2
    · have := lp.blk k h2; omega
    · omega
  refine GenN.app (α := α) hE xs ms base (fun w1 h1 => (hLp w1 h1).own) hsrc (by unfold maxLen; omega) ?_ (fun w1 h1 => Nat.le_trans lp.size h1.size) (fun w1 w2 h1 hg => keep_grown h1 hg hrow) fun v' w5 w6 h5 hg hO => ?_
  · calc _ ≤ 1000000 * 1000000 := Nat.mul_le_mul h63 hby
      _ ≤ _ := by decide
  · obtain ⟨a', c', rfl⟩ := hO.form
    have h5' := hLp w5 h5
    refine hk a' c' w5 w6 h5 ⟨⟨lp.st.base, fun X hX => ?_⟩, hO, lp.anc, lp.blk, Nat.le_trans h5'.size hg.size, lp.b0⟩ hg.size fun k hk hkb => ?_
    · have hX5 := h5'.st.all X hX
      refine ⟨hg.os.trans hX5.os, hg.tape.trans hX5.tape, hg.output.trans hX5.output, Nat.le_trans hX5.size hg.size, fun k hk => ?_⟩
      refine (hg.block k (Nat.lt_of_lt_of_le hk hX5.size) (fun e => ?_)).trans (hX5.block k hk)
      have h1 := lp.own.lt k e.symm
      have h2 := lp.anc X hX
      omega
    · refine hg.block k hk (fun e => ?_)
      have h1 := lp.own.lt k e.symm
      omega
/-- a list that begins as a block of the run's own that is full, and is lengthened. -/
def Lq (α : Type) [Enc α] (w0 : Base) (l : List World) (r : List Nat) (e : TypeId) (W : World) (v : Value) (b : Nat) (x0 xs : List α) : Prop :=
  (v = .slice (some ⟨b, 0, none⟩) x0.length x0.length ∧ xs = x0 ∧ Stay w0 l W) ∨ ∃ base, Lp w0 l r e base W v xs
theorem Lq.st {b : Nat} {x0 : List α} (h : Lq α w0 l r e w v b x0 xs) : Stay w0 l w := by
  rcases h with ⟨_, _, h⟩ | ⟨_, h⟩
  · exact h
  · exact h.st
theorem Lq.at {b : Nat} {x0 : List α} (lq : Lq α w0 l r0 e w v b x0 xs) (h : At w0 hp r [] w w1) : Lq α w0 l r0 e w1 v b x0 xs := by
  rcases lq with ⟨e1, e2, h1⟩ | ⟨base, h1⟩
  · exact .inl ⟨e1, e2, (h1.at h (by simp)).sub fun X hX => List.mem_cons_of_mem _ hX⟩
  · exact .inr ⟨base, h1.at h (by simp)⟩
theorem Lq.go {b : Nat} {x0 : List α} (lq : Lq α w0 l r0 e w v b x0 xs) (hB : Below w.heap.size w w2) : Lq α w0 l r0 e w2 v b x0 xs := by
  rcases lq with ⟨e1, e2, h1⟩ | ⟨base, h1⟩
  · exact .inl ⟨e1, e2, h1.base, fun X hX => (h1.all X hX).trans (hB.mono (h1.all X hX).size)⟩
  · exact .inr ⟨base, h1.go hB⟩
theorem Lq.form {b : Nat} {x0 : List α} (lq : Lq α w0 l r0 e w v b x0 xs) : ∃ a c, v = .slice a xs.length c := by
  rcases lq with ⟨e1, e2, h1⟩ | ⟨base, h1⟩
  · subst e2; exact ⟨_, _, e1⟩
  · exact h1.own.form
/-- the list, as it is shown; the run's block number i holds what it begins with. -/
theorem Lq.sl {b : Nat} {x0 : List α} (lq : Lq α w0 l r0 e w v b x0 xs) (h : At w0 hp r [] w w1) (i : Nat) {c : LB} (hi : r[i]? = some b) (hc : hget hp i = some c) (hm : denL r c.cells = cellsL x0) (hmax : x0.length ≤ maxLen) : Sl w1.heap.size w1 v xs := by
  rcases lq with ⟨e1, e2, h1⟩ | ⟨base, h1⟩
  · subst e1; subst e2
    exact Sl.own h i hi hc hm (Nat.le_refl _) hmax
  · exact (h1.at h (by simp)).own.sl
end
end Go.Proofs.YtjbhpfmnfdebkaaGreat

/-
  Ranges over functions, in the run, that carry something on from round to round.
-/
namespace Go.Proofs.YtjbhpfmnfdebkaaGreat.Eng
set_option linter.unusedVariables false
set_option linter.unusedSimpArgs false
open Go Go.RowKit Go.Shelf Go.Proofs

section
variable {cx : Cx} {w0 : Base}

/-- A RANGE OVER A FUNCTION, in the run, with something that the rounds carry on (a row's address). -/
theorem rangeE (hcx : CxOk cx) {n : Nat} (h1 : 1 ≤ n) {s : St} {a : Act} {w : World} (hR : Rel w0 s a w) {g : Operand} {ps : Array Tmp} {x y : Code} {K : Exit → St → Prop} {gf : Nat} {lb : Array Value}
    (hg : ev s.fr g = .val (.func (.func gf) #[] lb)) (eg : Enters cx.P gf)
    {α : Type} {encs : α → List Value} {Kp : World → World → Prop} {S Sp : List α → Prop} {N : Nat} (hseq : SeqStopsK Fence.wide (n - 1) cx.P gf lb (fun x => (encs x).toArray) Kp S Sp N w)
    (hKt : ∀ {A B C : World}, Kp A B → Kp B C → Kp A C) (hKb : ∀ (W : World) (l : Nat) (o o' : Obj), w.heap.size ≤ l → W.heap[l]? = some o → o.isCells = false → o.isWalk = false → Kp W (W.putObj l o'))
    (hKg : ∀ W W', w.heap.size ≤ W.heap.size → W.grownBy W' none → Kp W W') (hps : ∀ x, (encs x).length = ps.size)
    {γ : Type} (hpf : γ → List LB) (Φ : List α → γ → World → Prop) (hΦ : ∀ c, OwnFrom w.heap.size fun pre W => Φ pre c W) (c0 : γ) (hp0 : hpf c0 = s.hp) (hΦ0 : Φ [] c0 w)
    (Ix : Code → List α → γ → World → Prop) (hpx : Code → γ → List LB) (hIx : ∀ c q, OwnFrom w.heap.size fun pre W => Ix c pre q W)
    (frx : α → Fr)
    (hassign : ∀ l z hp W, codeD (Fence.wide.inRound l) (n - 1 - 1) cx w0 x (fun e s' => e = .normal ∧ s' = ⟨frx z, hp, s.r, [], W, []⟩) ⟨setP s.fr ps.toList (encs z), hp, s.r, [], W, []⟩)
    (hbody : ∀ l pre x c W, Φ pre c W → Below w0.B w0.W W → w.heap.size ≤ W.heap.size → pre.length < N → codeD (Fence.wide.inRound l) (n - 1 - 1) cx w0 y
      (fun e s' => match e with
        | .normal => s'.on fun fr2 hp2 r2 L2 w2 df2 => ∃ c', Need (CovH (hpf c') s.r ⟨fr2, hp2, r2, L2, w2, df2⟩) (EndI w0 hp2 r2 L2 w2 undef fun _ w1 => KeepsFrom w.heap.size W w1 ∧ Kp W w1 ∧ Φ (pre ++ [x]) c' w1)
        | .ret => s'.on fun fr2 hp2 r2 L2 w2 df2 => ∃ c', Need (CovH (hpx .ret c') s.r ⟨fr2, hp2, r2, L2, w2, df2⟩) (EndI w0 hp2 r2 L2 w2 undef fun _ w1 => KeepsFrom w.heap.size W w1 ∧ Ix .ret (pre ++ [x]) c' w1)
        | .exit id => s'.on fun fr2 hp2 r2 L2 w2 df2 => ∃ c', Need (CovH (hpx (.exit id) c') s.r ⟨fr2, hp2, r2, L2, w2, df2⟩) (EndI w0 hp2 r2 L2 w2 undef fun _ w1 => KeepsFrom w.heap.size W w1 ∧ Ix (.exit id) (pre ++ [x]) c' w1)
        | _ => False) ⟨frx x, hpf c, s.r, [], W, []⟩)
    (hdone : ∀ D xs c W, w.heap.size ≤ D → S xs → Φ xs c W → W.heap[D]? = some (.deferred (some [])) → K .normal ⟨s.fr, hpf c, s.r, [], W, { target := .collected D, args := #[] } :: s.df⟩)
    (hstop : ∀ D c e pre q W, w.heap.size ≤ D → Sp pre → Ix c pre q W → exitOf c = some e → W.heap[D]? = some (.deferred (some [])) → K e ⟨s.fr, hpx c q, s.r, [], W, { target := .collected D, args := #[] } :: s.df⟩) :

    (Code.rangeFunc g ps x y).wpIn Fence.wide n cx.P (fun e a' w' => ∃ s', Rel w0 s' a' w' ∧ K e s') a w := by

  have hev := hR.ev1 hg (by simp) []
  simp only [SV.den] at hev
  have hB : w0.B ≤ w.heap.size := Nat.le_trans w0.le hR.at_.below.size
  have ownR : ∀ (hp : List LB), OwnFrom w.heap.size (fun (pre : List α) W => Rel w0 ⟨s.fr, hp, s.r, [], W, s.df⟩ a W) := fun hp pre W W' row h hgr hr =>
    h.keep (grown_keep h hB hgr hr)
  have withD : ∀ {hp : List LB} {W : World} (D : Nat), Rel w0 ⟨s.fr, hp, s.r, [], W, s.df⟩ a W → Rel w0 ⟨s.fr, hp, s.r, [], W, { target := .collected D, args := #[] } :: s.df⟩ { a with defers := { target := .collected D, args := #[] } :: a.defers } W := fun {hp} {W} D h =>
    ⟨congrArg (_ :: ·) h.df, h.fits, ⟨h.at_.below, h.at_.size, h.at_.step, h.at_.blk, h.at_.fresh, h.at_.lt, h.at_.base⟩, h.blk, h.nod, h.len⟩
  have inner : ∀ {hp : List LB} {W : World} {a' : Act} {fr : Fr}, Rel w0 ⟨s.fr, hp, s.r, [], W, s.df⟩ a W → a'.defers = [] → (∀ t, Fits (s.r ++ t) fr a'.tmps) → Rel w0 ⟨fr, hp, s.r, [], W, []⟩ a' W := fun {hp} {W} {a'} {fr} h hd hf =>
    ⟨hd, hf, ⟨h.at_.below, h.at_.size, h.at_.step, h.at_.blk, h.at_.fresh, h.at_.lt, h.at_.base⟩, h.blk, h.nod, h.len⟩
  refine wpIn_rangeFunc_ownH rfl h1 hev trivial eg hseq hKt hKb (Below.refl _ _) (fun x => by simp [hps]) (fun pre W => ∃ c, Rel w0 ⟨s.fr, hpf c, s.r, [], W, s.df⟩ a W ∧ w.heap.size ≤ W.heap.size ∧ Φ pre c W)
    (fun c pre W => (∃ e, exitOf c = some e) ∧ ∃ q, Rel w0 ⟨s.fr, hpx c q, s.r, [], W, s.df⟩ a W ∧ Ix c pre q W)
    ?_ ?_ ?_ (fun x a' _ => a'.defers = [] ∧ ∀ t, Fits (s.r ++ t) (frx x) a'.tmps) (fun _ _ _ _ _ _ h _ _ => h) ?_ ?_ ?_ ?_
  · exact fun pre W W' row ⟨c, h⟩ hgr hr => ⟨c, ownR (hpf c) pre W W' row h.1 hgr hr, Nat.le_trans h.2.1 hgr.size, hΦ c pre W W' row h.2.2 hgr hr⟩
  · exact fun c pre W W' row ⟨h0, q, h⟩ hgr hr => ⟨h0, q, ownR (hpx c q) pre W W' row h.1 hgr hr, hIx c q pre W W' row h.2 hgr hr⟩
  · have h0 := hR.keep keep_refl
    refine ⟨c0, ?_, Nat.le_refl _, hΦ0⟩
    rw [hp0]; exact h0
  · rintro l pre z W K' ⟨c, hI⟩ hK
    have hr1 := rel_sets (w0 := w0) (s := ⟨s.fr, hpf c, s.r, [], W, []⟩) (a := ⟨a.tmps, []⟩) (inner hI.1 rfl hI.1.fits) ps.toList (encs z)
    have e1 : (ps.zip (encs z).toArray).foldl (fun (t : Array Value) (x : Nat × Value) => t.setIfInBounds x.1 x.2) a.tmps = sets a.tmps ps.toList (encs z) := by
      rw [← sets_eq]
    show x.wpIn _ _ _ _ ({ tmps := (ps.zip (encs z).toArray).foldl (fun (t : Array Value) (x : Nat × Value) => t.setIfInBounds x.1 x.2) a.tmps, defers := [] } : Act) W
    rw [e1]
    refine codeD_round hcx l _ _ _ _ _ W _ (hassign l z (hpf c) W) hr1 ?_
    rintro e s' a' W' ⟨rfl, rfl⟩ hR'
    have hgr := grown_of_at (a2 := a) hI.1 hR'.at_ rfl rfl
    refine hK a' W' ⟨hgr.size, fun k o _ hk _ => (hgr.block k (Array.getElem?_eq_some_iff.1 hk).1 (by simp)).trans hk⟩ (hKg W W' hI.2.1 hgr) ⟨c, ownR (hpf c) pre W W' none hI.1 hgr (by simp), Nat.le_trans hI.2.1 hgr.size, hΦ c pre W W' none hI.2.2 hgr (by simp)⟩ ⟨hR'.df, hR'.fits⟩
  · rintro l pre x a' W _ _ ⟨c, hI⟩ hA hN
    refine codeD_round hcx l _ y _ _ _ W _ (hbody l pre x c W hI.2.2 hI.1.at_.below hI.2.1 hN) (inner hI.1 hA.1 hA.2) ?_
    intro e s' a2 w1 hK hR'
    cases e with
    | normal =>
      simp only [St.on_eq] at hK
      obtain ⟨c', h1, h2⟩ := hK
      obtain ⟨h3, h4, h5⟩ := h2.h w1 hR'.at_
      exact ⟨h3, h4, c', covH_rel (s := ⟨s.fr, hpf c, s.r, [], W, s.df⟩) hI.1 hR' h1, Nat.le_trans hI.2.1 h3.size, h5⟩
    | ret =>
      simp only [St.on_eq] at hK
      obtain ⟨c', h1, h2⟩ := hK
      obtain ⟨h3, h5⟩ := h2.h w1 hR'.at_
      exact ⟨h3, ⟨_, rfl⟩, c', covH_rel (s := ⟨s.fr, hpf c, s.r, [], W, s.df⟩) hI.1 hR' h1, h5⟩
    | exit id =>
      simp only [St.on_eq] at hK
      obtain ⟨c', h1, h2⟩ := hK
      obtain ⟨h3, h5⟩ := h2.h w1 hR'.at_
      exact ⟨h3, ⟨_, rfl⟩, c', covH_rel (s := ⟨s.fr, hpf c, s.r, [], W, s.df⟩) hI.1 hR' h1, h5⟩
    | goto l => exact hK.elim
    | panic ch => exact hK.elim
    | outgrown => exact hK.elim
  · rintro D xs W hD hS ⟨c, hI⟩ hd
    exact ⟨_, withD D hI.1, hdone D xs c W hD hS hI.2.2 hd⟩
  · intro D c pre W hD hS hI hd
    obtain ⟨⟨e, he⟩, q, hRx, hix⟩ := hI
    have hk := hstop D c e pre q W hD hS hix he hd
    cases c <;> simp only [exitOf] at he <;> try (cases he; done)
    · injection he with he; subst he; exact wpIn_exit ⟨_, withD D hRx, hk⟩
    · injection he with he; subst he; exact wpIn_ret ⟨_, withD D hRx, hk⟩
end
end Go.Proofs.YtjbhpfmnfdebkaaGreat.Eng

/-
  The contract of dbm.Top, by the engine.
-/
namespace Go.Proofs.YtjbhpfmnfdebkaaGreat
set_option linter.unusedVariables false
set_option linter.unusedSimpArgs false
set_option maxRecDepth 100000
open Go.RowKit Go.Proofs.YtjbhpfmnfdebkaaGreat.Eng Enc

namespace Dbm
def topB (n k : Nat) : Int := if k / n = k % n then 1 else 9223372036854775807
def topL (n : Nat) : List Int := (List.range (n * n)).map (topB n)
def top (n : Int) : Int × List Int × Int := if 1 ≤ n ∧ n ≤ 4 then (n, topL n.toNat, 0) else (0, [], 2)
end Dbm

theorem top_any (n : Int) (w : World) :
    Calls Tryz.prog 61 #[.int .i64 n] w (Ret w fun v w' => ∃ a' cap', v = .tuple #[.agg #[.int .i64 (Dbm.top n).1, .slice a' (Dbm.top n).2.1.length cap'], .int .i64 (Dbm.top n).2.2] ∧ Own TB w.heap.size w' (.slice a' (Dbm.top n).2.1.length cap') (Dbm.top n).2.1) := by
  refine fun_at 9 w.heap.size w (Nat.le_refl _) Tryz.func61 (args := [.val (.int .i64 n)]) rfl rfl ?_
  refine NewI.mk fun b1 hb1 => ?_
  refine Branch.mk (fun hc => ?_) (fun hc => ?_)
  · refine EndI.mk fun w3 h3 => ?_
    have : n < 1 := by simpa using hc
    rw [Dbm.top, if_neg (by omega)]
    exact ⟨_, _, rfl, Own.nil⟩
  refine Branch.mk (fun hc2 => ?_) (fun hc2 => ?_)
  · refine EndI.mk fun w3 h3 => ?_
    have : 4 < n := by simpa using hc2
    rw [Dbm.top, if_neg (by omega)]
    exact ⟨_, _, rfl, Own.nil⟩
  have hn : 1 ≤ n ∧ n ≤ 4 := by
    have h1 : ¬ n < 1 := by simpa using hc
    have h2 : ¬ 4 < n := by simpa using hc2
    omega
  rw [Dbm.top, if_pos hn]
  obtain ⟨N, rfl⟩ : ∃ N : Nat, n = N := ⟨n.toNat, by omega⟩
  have hN1 : 1 ≤ N := by omega
  rw [Int.toNat_natCast]
  refine NewI.mk fun b2 hb2 => ?_
  apply CallI.mk
  intro w7 h7
  refine (callsIn_wide.1 (pairs_any N w7)).mono ?_
  rintro e w8 ⟨rfl, rfl⟩
  have hB1 : Below w7.heap.size w7 (w7.alloc (.cells #[.int .i64 (N : Int)] 3)) := below_al (Below.refl _ _)
  refine ⟨h7.keep hB1, _, rfl, ?_⟩
  have hBs : (w7.alloc (.cells #[.int .i64 (N : Int)] 3)).cell? ⟨w7.heap.size, 0, none⟩ = some (.int .i64 N) := by simp
  have hsz : w7.heap.size < (w7.alloc (.cells #[.int .i64 (N : Int)] 3)).heap.size := by simp
  have hBsb : ∀ b, b ∈ [b1, b2] → b ≠ w7.heap.size := fun b hb e => by have := h7.lt b hb; omega
  have hwBs : w.heap.size ≤ w7.heap.size := h7.below.size
  generalize w7.alloc (.cells #[.int .i64 (N : Int)] 3) = w8 at hBs hsz hB1
  generalize w7.heap.size = Bs at hBs hsz hBsb hwBs
  refine RawI.mk fun ac w1 hR => ?_
  have h1 := hR.at_
  have hBs9 : Bs < w1.heap.size := Nat.lt_of_lt_of_le hsz h1.size
  have hc9 : w1.cell? ⟨Bs, 0, none⟩ = some (.int .i64 (N : Int)) := (h1.go.cell (p := ⟨Bs, 0, none⟩) hsz).trans hBs
  have hl1 := h1.lt b1 (by simp)
  have hl2 := h1.lt b2 (by simp)
  refine rangeE cxOk (by decide) hR rfl Tryz.call196 (pairs_stops N (by omega) (by omega) (N * N) rfl Bs w1 hBs9 hc9) (encs := fun x => (encPI N x).toList) (fun h k => k.trans h) (fun W l o o' => keepsBox_put hBs9 W l o o')
    (fun W W' hs hg => World.cell?_of_block (hg.block Bs (Nat.lt_of_lt_of_le hBs9 hs) (by rintro ⟨⟩))) (fun x => rfl) (γ := Value) (fun v => [⟨[.val (.int .i64 0), .val (.slice none 0 0)], 99⟩, ⟨[.val (.int .i64 N), .val v], 99⟩])
    (fun pre v W => Own TB w1.heap.size W v (pre.map fun x => Dbm.topB N x.1)) ?_ (.slice none 0 0) rfl Own.nil (fun _ _ _ _ => False) (fun _ _ => []) (fun _ _ _ _ _ _ h _ _ => h) _
    (fun l z hp W => And.intro rfl rfl) ?_ ?_ (fun _ _ _ _ _ _ _ _ h => h.elim)
  · intro v pre W W' row hO hg hr
    refine Own.kept hO hg ?_
    obtain ⟨_, ⟨rfl, _⟩ | ⟨g, c, cur, rfl, _, hgb, _⟩⟩ := id hO
    · exact .inl rfl
    · refine .inr (fun e => ?_)
      obtain ⟨_, o, ho, hcl⟩ := hr g e.symm
      rw [hgb] at ho; cases ho; cases hcl
  · intro l pre x v W hO hBW hsW hlt
    have hO1 : Own TB w1.heap.size W v (pre.map fun x => Dbm.topB N x.1) := hO
    have hNN : N * N ≤ 4 * 4 := Nat.mul_le_mul (by omega) (by omega)
    have ed : ((x.val : Int) / N) = ((x.val / N : Nat) : Int) := rfl
    have em : ((x.val : Int) % N) = ((x.val % N : Nat) : Int) := rfl
    refine Branch.mk (fun hc3 => ?_) (fun hc3 => ?_)
    · have hval : Dbm.topB N x.1 = 1 := by
        unfold Dbm.topB
        rw [if_pos (by have : (x.val : Int) / N = (x.val : Int) % N := by simpa using hc3
                       rw [ed, em] at this; omega)]
      refine NewI.mk fun b3 hb3 => ?_
      have hb3' : W.heap.size ≤ b3 := hb3
      have hr : ∀ k, v.ownBlock = some k → w.heap.size ≤ k ∧ k ∉ [b1, b2, b3] := fun k hk => by
        have := hO1.lt k hk
        refine ⟨Nat.le_trans h1.below.size this.1, fun hm => ?_⟩
        simp only [List.mem_cons, List.not_mem_nil, or_false] at hm
        omega
      refine GenN.app (α := Int) elB (pre.map fun x => Dbm.topB N x.1) [Dbm.topB N x.1] w1.heap.size (fun w5 h5 => hO1.below h5.go) (fun w5 h5 => src_own h5 2 rfl rfl (by rw [hval]; rfl) rfl) (by unfold maxLen; simp; omega) (by simp; omega) (fun w5 h5 => Nat.le_trans hsW h5.size)
        (fun w5 w6 h5 hg => keep_grown h5 hg hr) fun sv' w5 w6 h5 hg hO' => ?_
      obtain ⟨a', c', rfl⟩ := hO'.form
      refine ⟨.slice a' ((pre.map fun x => Dbm.topB N x.1) ++ [Dbm.topB N x.1]).length c', ?_⟩
      refine Need.mk (CovH.mk rfl rfl rfl) (EndI.mk fun w7 h7 => ?_)
      have hW7 : W.heap.size ≤ w7.heap.size := Nat.le_trans h5.size (Nat.le_trans hg.size h7.size)
      have row : ∀ k, k < w1.heap.size → v.ownBlock ≠ some k := fun k hk e => by have := hO1.lt k e; omega
      refine ⟨⟨hW7, fun k o _ hk hcl => ?_⟩, ?_, ?_⟩
      · have hkW : k < W.heap.size := (Array.getElem?_eq_some_iff.1 hk).1
        have e5 : w5.heap[k]? = some o := (h5.go.block k hkW).trans hk
        have e6 : w6.heap[k]? = some o := by
          refine (hg.block k (Nat.lt_of_lt_of_le hkW h5.size) (fun e => ?_)).trans e5
          obtain ⟨_, ⟨rfl, _⟩ | ⟨g, c, cur, rfl, _, hgb, _⟩⟩ := id hO1
          · cases e
          · injection e with e
            subst e
            rw [hgb] at hk; cases hk; cases hcl
        refine (h7.step k (Nat.lt_of_lt_of_le hkW (Nat.le_trans h5.size hg.size)) (fun hm => ?_)).trans e6
        simp at hm
        subst hm
        have := h5.blk 1 _ ⟨_, _⟩ (by rfl) (by rfl)
        rw [e5] at this; cases this; cases hcl
      · refine World.cell?_of_block ?_
        have hBW : Bs < W.heap.size := Nat.lt_of_lt_of_le hBs9 hsW
        refine (h7.step Bs (Nat.lt_of_lt_of_le hBW (Nat.le_trans h5.size hg.size)) (fun hm => ?_)).trans ((hg.block Bs (Nat.lt_of_lt_of_le hBW h5.size) (fun e => row Bs hBs9 e.symm)).trans (h5.go.block Bs hBW))
        simp at hm
        exact hBsb b2 (by simp) hm.symm
      · have e1 : (pre ++ [x]).map (fun x => Dbm.topB N x.1) = (pre.map fun x => Dbm.topB N x.1) ++ [Dbm.topB N x.1] := by simp
        rw [e1]
        exact hO'.at h7 (fun b hb => by simp at hb; subst hb; exact hl2)
    · have hval : Dbm.topB N x.1 = 9223372036854775807 := by
        unfold Dbm.topB
        rw [if_neg (by have : ¬ (x.val : Int) / N = (x.val : Int) % N := by simpa using hc3
                       rw [ed, em] at this; omega)]
      refine NewI.mk fun b3 hb3 => ?_
      have hb3' : W.heap.size ≤ b3 := hb3
      have hr : ∀ k, v.ownBlock = some k → w.heap.size ≤ k ∧ k ∉ [b1, b2, b3] := fun k hk => by
        have := hO1.lt k hk
        refine ⟨Nat.le_trans h1.below.size this.1, fun hm => ?_⟩
        simp only [List.mem_cons, List.not_mem_nil, or_false] at hm
        omega
      refine GenN.app (α := Int) elB (pre.map fun x => Dbm.topB N x.1) [Dbm.topB N x.1] w1.heap.size (fun w5 h5 => hO1.below h5.go) (fun w5 h5 => src_own h5 2 rfl rfl (by rw [hval]; rfl) rfl) (by unfold maxLen; simp; omega) (by simp; omega) (fun w5 h5 => Nat.le_trans hsW h5.size)
        (fun w5 w6 h5 hg => keep_grown h5 hg hr) fun sv' w5 w6 h5 hg hO' => ?_
      obtain ⟨a', c', rfl⟩ := hO'.form
      refine ⟨.slice a' ((pre.map fun x => Dbm.topB N x.1) ++ [Dbm.topB N x.1]).length c', ?_⟩
      refine Need.mk (CovH.mk rfl rfl rfl) (EndI.mk fun w7 h7 => ?_)
      have hW7 : W.heap.size ≤ w7.heap.size := Nat.le_trans h5.size (Nat.le_trans hg.size h7.size)
      have row : ∀ k, k < w1.heap.size → v.ownBlock ≠ some k := fun k hk e => by have := hO1.lt k e; omega
      refine ⟨⟨hW7, fun k o _ hk hcl => ?_⟩, ?_, ?_⟩
      · have hkW : k < W.heap.size := (Array.getElem?_eq_some_iff.1 hk).1
        have e5 : w5.heap[k]? = some o := (h5.go.block k hkW).trans hk
        have e6 : w6.heap[k]? = some o := by
          refine (hg.block k (Nat.lt_of_lt_of_le hkW h5.size) (fun e => ?_)).trans e5
          obtain ⟨_, ⟨rfl, _⟩ | ⟨g, c, cur, rfl, _, hgb, _⟩⟩ := id hO1
          · cases e
          · injection e with e
            subst e
            rw [hgb] at hk; cases hk; cases hcl
        refine (h7.step k (Nat.lt_of_lt_of_le hkW (Nat.le_trans h5.size hg.size)) (fun hm => ?_)).trans e6
        simp at hm
        subst hm
        have := h5.blk 1 _ ⟨_, _⟩ (by rfl) (by rfl)
        rw [e5] at this; cases this; cases hcl
      · refine World.cell?_of_block ?_
        have hBW : Bs < W.heap.size := Nat.lt_of_lt_of_le hBs9 hsW
        refine (h7.step Bs (Nat.lt_of_lt_of_le hBW (Nat.le_trans h5.size hg.size)) (fun hm => ?_)).trans ((hg.block Bs (Nat.lt_of_lt_of_le hBW h5.size) (fun e => row Bs hBs9 e.symm)).trans (h5.go.block Bs hBW))
        simp at hm
        exact hBsb b2 (by simp) hm.symm
      · have e1 : (pre ++ [x]).map (fun x => Dbm.topB N x.1) = (pre.map fun x => Dbm.topB N x.1) ++ [Dbm.topB N x.1] := by simp
        rw [e1]
        exact hO'.at h7 (fun b hb => by simp at hb; subst hb; exact hl2)
  · rintro D xs v W hD hSx hO hmark
    have hDW : D < W.heap.size := (Array.getElem?_eq_some_iff.1 hmark).1
    have hO1 : Own TB w1.heap.size W v (xs.map fun x => Dbm.topB N x.1) := hO
    have hxs : (xs.map fun x => Dbm.topB N x.1) = Dbm.topL N := by
      unfold Dbm.topL
      rw [← hSx, List.map_map]; rfl
    rw [hxs] at hO1
    obtain ⟨a', c', rfl⟩ := hO1.form
    have hDb : D ∉ [b1] := fun hm => by simp at hm; omega
    refine EndM.mk fun w10 h10 => ⟨⟨Nat.le_trans h1.below.size hD, (h10.step D hDW hDb).trans hmark⟩, fun w11 hu => ?_⟩
    have hO10 := hO1.at h10 (fun b hb => by simp at hb; subst hb; exact hl1)
    refine ⟨_, _, rfl, (Own.kept (row := some D) hO10 ⟨hu.2.1, hu.2.2.1, hu.2.2.2.1, by rw [hu.1]; exact Nat.le_refl _, fun k _ hk => hu.2.2.2.2 k (fun e => hk (by rw [e]))⟩ ?_).lower h1.below.size⟩
    obtain ⟨_, ⟨e, _⟩ | ⟨g, c, cur, e, _, hgb, _⟩⟩ := id hO10
    · rw [e]; exact .inl rfl
    · rw [e]
      refine .inr (fun e' => ?_)
      injection e' with e'
      subst e'
      have := (h10.step _ hDW hDb).trans hmark
      rw [hgb] at this; cases this
end Go.Proofs.YtjbhpfmnfdebkaaGreat

/-
  Rows of the run's own, an element set; slices of slices; lists of zones.
-/
namespace Go.Proofs.YtjbhpfmnfdebkaaGreat
set_option linter.unusedVariables false
open Go.RowKit Go.Proofs.YtjbhpfmnfdebkaaGreat.Eng Enc

/-- a slice, as an element of a slice. -/
structure Svl where
  a : Option Addr
  len : Nat
  cap : Nat
instance encSvl : Enc Svl := ⟨fun x => [.slice x.a x.len x.cap], 1, fun _ => rfl, by decide, fun _ v hv => by rw [List.mem_singleton.1 hv]; rfl, fun x => .slice x.a x.len x.cap⟩

section
variable {α : Type} [Enc α]
theorem cellsL_set (l : List α) (k : Nat) (x : α) (hk : k < l.length) : cellsL (l.set k x) = (cellsL l).take (k * size α) ++ enc x ++ (cellsL l).drop (k * size α + size α) := by
  induction l generalizing k with
  | nil => simp at hk
  | cons y l ih =>
    cases k with
    | zero =>
      simp only [List.set_cons_zero, cellsL, Nat.zero_mul, List.take_zero, List.nil_append, Nat.zero_add]
      rw [List.drop_append_of_le_length (by rw [Enc.len]; exact Nat.le_refl _), List.drop_of_length_le (by rw [Enc.len]; exact Nat.le_refl _), List.nil_append]
    | succ k =>
      have hk' : k < l.length := by simpa using hk
      simp only [List.set_cons_succ, cellsL, ih k hk']
      have e1 : (k + 1) * size α = size α + k * size α := by rw [Nat.succ_mul]; omega
      rw [e1, List.take_append, List.drop_append, Enc.len, List.take_of_length_le (l := enc y) (by rw [Enc.len]; omega), List.drop_of_length_le (l := enc y) (by rw [Enc.len]; omega)]
      rw [show size α + k * size α - size α = k * size α by omega, show size α + k * size α + size α - size α = k * size α + size α by omega, List.nil_append]
      simp only [List.append_assoc]
theorem Own.set {e : TypeId} {base : Nat} {W : World} {g n cap : Nat} {l : List α} (h : Own e base W (.slice (some ⟨g, 0, none⟩) n cap) l) {cur : Array Value} (hc : W.heap[g]? = some (.cells cur e (0, 0))) (k : Nat) (hk : k < l.length) (x : α) :
    Own e base (W.setRow g (cur.toList.take (k * size α) ++ enc x ++ cur.toList.drop (k * size α + (enc x).length)).toArray) (.slice (some ⟨g, 0, none⟩) n cap) (l.set k x) := by
  obtain ⟨rfl, hb, hlt, cur', hg, hn, hm, hs, ht⟩ := h.at0
  rw [hg] at hc
  injection hc with hc; injection hc with hc _; subst hc
  have hkk : (k + 1) * size α ≤ l.length * size α := Nat.mul_le_mul_right _ hk
  rw [Nat.succ_mul] at hkk
  have hcl : l.length * size α ≤ cap * size α := Nat.mul_le_mul_right _ hn
  refine ⟨by rw [cellsL_len, List.length_set], .inr ⟨g, cap, _, by rw [List.length_set], hb, setRow_heap W g cur' _ e _ hg, by rw [List.length_set]; exact hn, hm, ?_, ?_⟩⟩
  · simp only [List.size_toArray, List.length_append, List.length_take, List.length_drop, Array.length_toList, Enc.len]; omega
  · rw [List.length_set, cellsL_set l k x hk, ← ht]
    have hl : cur'.toList.length = cap * size α := by rw [Array.length_toList, hs]
    apply List.ext_getElem?
    intro j
    simp only [List.getElem?_append, List.getElem?_take, List.getElem?_drop, List.length_append, List.length_take, Enc.len, hl]
    rw [show min (k * size α) (cap * size α) = k * size α by omega, show min (k * size α) (min (l.length * size α) (cap * size α)) = k * size α by omega]
    by_cases h1 : j < k * size α
    · have h1' : j < k * size α + size α := by omega
      have h1'' : j < l.length * size α := by omega
      simp only [h1, h1', h1'', if_true]
    · by_cases h2 : j < k * size α + size α
      · have h2' : j < l.length * size α := by omega
        simp only [h1, h2, h2', if_true, if_false]
      · by_cases h3 : j < l.length * size α
        · have h3' : k * size α + size α + (j - (k * size α + size α)) < l.length * size α := by omega
          simp only [h1, h2, h3, h3', if_true, if_false]
        · have h3' : ¬ k * size α + size α + (j - (k * size α + size α)) < l.length * size α := by omega
          simp only [h1, h2, h3, h3', if_false]
/-- a load of an element of one cell. -/
theorem Sl.ldv {n : Nat} {W w : World} {L : List Nat} {a : Option Addr} {ad : Addr} {m cap : Nat} {l : List α} (h : Sl n W (.slice a m cap) l) {k : Nat} {x : α} (hk : l[k]? = some x) {v : Value} (hv : enc x = [v]) (had : a = some ad) (hB : Below n W w) (hL : ∀ b, b ∈ L → n ≤ b) {K : Value → Prop} (hK : K v) :
    LoadI w L (ad.add ((k : Int).toNat * 1)) K := by
  subst had
  have hs : size α = 1 := by have := Enc.len x; rw [hv] at this; exact this.symm
  obtain ⟨h1, h2⟩ := h.cell hk hB
  have h3 := h2 0 v (by rw [hv]; rfl)
  have h0 : ∀ q : Addr, q.add 0 = q := fun q => by simp [Addr.add]
  rw [h0, hs] at h3
  refine ⟨⟨_, ⟨h3, fun e => ?_⟩, hK⟩⟩
  have hb : (ad.add ((k : Int).toNat * 1)).block = ad.block := by unfold Addr.add; split <;> rfl
  rw [hb] at e
  have := hL _ e; omega
end
abbrev TZ : TypeId := 104
end Go.Proofs.YtjbhpfmnfdebkaaGreat

/-
  The contracts of package zone: matrices of zones, by the engine. Printed by a program (gen_zone.py).
-/
namespace Go.Proofs.YtjbhpfmnfdebkaaGreat
set_option linter.unusedVariables false
set_option linter.unusedSimpArgs false
set_option maxRecDepth 100000
open Go.RowKit Go.Proofs.YtjbhpfmnfdebkaaGreat.Eng Enc

namespace Zo
/-- a zone's matrix. -/
def matL (z : Zn) : List Int := [1, z.b, z.d, z.a, 1, z.f, z.c, z.e, 1]
theorem kpD_set {w0 : Base} {wr : World} {M r : List Nat} {w1 : World} {g x : Nat} {v : Value} (hg : w0.B ≤ g) (hr : ∀ b, b ∈ r → b ≠ g) (hM : g ∈ M) : kpD w0 wr M r w1 (w1.setCell ⟨g, x, none⟩ v) := fun _ =>
  ⟨keep_set hg hr, fun k hk hkm => Below.heap_setCell _ _ _ _ (fun e => hkm (e ▸ hM))⟩
end Zo

theorem places_any (w : World) : Calls Tryz.prog 202 #[] w fun e w' => e = .returned (.agg #[.int .i64 3, .int .i64 1, .int .i64 6, .int .i64 2, .int .i64 7, .int .i64 5]) ∧ Below w.heap.size w w' := by
  refine fun_eq 0 w Tryz.func202 (args := []) rfl rfl ?_
  repeat' (first
    | (refine Branch.yes rfl ?_)
    | (refine Branch.no rfl ?_)
    | (refine Branch.mk (fun hb => ?_) (fun hb => ?_))
    | (refine NewI.mk fun nb hnb => ?_)
    | (refine Need.mk (by show _ ∧ _; omega) ?_)
    | (refine Need.mk (by omega) ?_)
    | (refine Need.mk ?_ ?_)
    | (refine EndI.mk fun w1 h1 => ?_))
  rfl
def placeOf (i : Nat) : Int := if i = 0 then 3 else if i = 1 then 1 else if i = 2 then 6 else if i = 3 then 2 else if i = 4 then 7 else 5
theorem places_at (i : Nat) (w : World) (h : i < 6 := by decide) : (Instr.index 243 (.agg #[.int .i64 3, .int .i64 1, .int .i64 6, .int .i64 2, .int .i64 7, .int .i64 5]) (.int .i64 i)).run Tryz.prog w = .ok (.int .i64 (placeOf i)) w := by
  rcases (by omega : i = 0 ∨ i = 1 ∨ i = 2 ∨ i = 3 ∨ i = 4 ∨ i = 5) with rfl | rfl | rfl | rfl | rfl | rfl <;> kernel_rfl

theorem zmatrix_any (z : Zn) (w : World) :
    Calls Tryz.prog 130 #[.agg #[.int .i64 z.a, .int .i64 z.b, .int .i64 z.c, .int .i64 z.d, .int .i64 z.e, .int .i64 z.f]] w (Ret w fun v w' => ∃ a' cap', v = .agg #[.int .i64 3, .slice a' (Zo.matL z).length cap'] ∧ Fresh TB w.heap.size w' (.slice a' (Zo.matL z).length cap') (Zo.matL z)) := by
  refine fun_ret 0 w Tryz.func130 (args := [.agg [.val (.int .i64 z.a), .val (.int .i64 z.b), .val (.int .i64 z.c), .val (.int .i64 z.d), .val (.int .i64 z.e), .val (.int .i64 z.f)]]) rfl rfl ?_
  refine NewI.mk fun b1 hb1 => ?_
  refine NewI.mk fun b2 hb2 => ?_
  have htop := fun w => top_any 3 w
  rw [show Dbm.top 3 = (3, Dbm.topL 3, 0) by rfl] at htop
  apply CallI.use
  focus (exact fun w1 h1 => htop w1)
  rintro v w1 w2 h1 hB2 ⟨a1, c1, rfl, hO⟩
  obtain ⟨g, rfl, hgb, hRow⟩ := hO.row (by decide)
  obtain ⟨_, _, _, cur, _, hcap, hmax, _⟩ := hO.at0
  have hgw : w.heap.size ≤ g := Nat.le_trans h1.below.size hgb
  have hg2 := hRow.lt
  refine NewI.mk fun b3 hb3 => ?_
  have hgr : ∀ b, b ∈ [b1, b2, b3] → b ≠ g := fun b hb e => by
    simp only [List.mem_cons, List.not_mem_nil, or_false] at hb
    have l1 := h1.lt b1 (by simp)
    have l2 := h1.lt b2 (by simp)
    omega
  have hgL : ∀ L : List Nat, (∀ b ∈ L, b ∈ [b1, b2, b3]) → g ∉ L := fun L h hm => hgr g (h g hm) rfl
  apply CallI.use1
  focus (exact fun w4 h4 => places_any w4)
  intro w4 w5 h4 hB5
  have hRow := (hRow.at h4 (hgL _ (by simp))).below hB5 (Nat.lt_of_lt_of_le hg2 h4.size)
  refine LoopI.rounds 7 ?_
  refine Branch.yes rfl ?_
  refine GenV.to (x := .int .i64 3) (fun w => places_at 0 w) fun u0 k0 => ?_
  refine DrawI.wr (.tk 0 (.tk 1 (.tk 2 (.tk 3 (.tk 4 (.tk 5 (.tk 6 (.ev 7 .done)))))))) [] [g] (by kernel_rfl) rfl (fun b hb h => hgr b hb (by simpa using h)) fun w0_ h0_ => ?_
  refine Need.mk (by decide) ?_
  refine IdxI.mk ⟨_, ⟨rfl, by omega, by show _ < (9 : Int); omega⟩, ?_⟩
  refine StoreI.mk fun x0 y0 => ?_
  have a0 : RowAt TB x0 g (Dbm.topL 3) := ((hRow.at k0 (hgL _ (by simp))).at h0_ (hgL _ (by simp))).at y0 (hgL _ (by simp))
  rw [show ((⟨g, 0, none⟩ : Addr).add ((3 : Int).toNat * 1)) = ⟨g, 3, none⟩ by simp [addr_addL]]
  refine ⟨⟨⟨_, a0.cell (j := 3) (by simp [Dbm.topL])⟩, a0.frozen _⟩, Zo.kpD_set hgw hgr (by simp [locs]), ?_⟩
  have r0 := a0.set (j := 3) (by simp [Dbm.topL]) z.a
  generalize x0.setCell ⟨g, 3, none⟩ (.int .i64 z.a) = s0 at r0
  refine Need.mk (by simp only [inK]; omega) ?_
  refine Branch.yes rfl ?_
  refine GenV.to (x := .int .i64 1) (fun w => places_at 1 w) fun u1 k1 => ?_
  refine DrawI.wr (.tk 0 (.tk 1 (.tk 2 (.tk 3 (.tk 4 (.tk 5 (.tk 6 (.ev 7 .done)))))))) [] [g] (by kernel_rfl) rfl (fun b hb h => hgr b hb (by simpa using h)) fun w1_ h1_ => ?_
  refine Need.mk (by decide) ?_
  refine IdxI.mk ⟨_, ⟨rfl, by omega, by show _ < (9 : Int); omega⟩, ?_⟩
  refine StoreI.mk fun x1 y1 => ?_
  have a1 : RowAt TB x1 g ((Dbm.topL 3).set 3 z.a) := ((r0.at k1 (hgL _ (by simp))).at h1_ (hgL _ (by simp))).at y1 (hgL _ (by simp))
  rw [show ((⟨g, 0, none⟩ : Addr).add ((1 : Int).toNat * 1)) = ⟨g, 1, none⟩ by simp [addr_addL]]
  refine ⟨⟨⟨_, a1.cell (j := 1) (by simp [Dbm.topL])⟩, a1.frozen _⟩, Zo.kpD_set hgw hgr (by simp [locs]), ?_⟩
  have r1 := a1.set (j := 1) (by simp [Dbm.topL]) z.b
  generalize x1.setCell ⟨g, 1, none⟩ (.int .i64 z.b) = s1 at r1
  refine Need.mk (by simp only [inK]; omega) ?_
  refine Branch.yes rfl ?_
  refine GenV.to (x := .int .i64 6) (fun w => places_at 2 w) fun u2 k2 => ?_
  refine DrawI.wr (.tk 0 (.tk 1 (.tk 2 (.tk 3 (.tk 4 (.tk 5 (.tk 6 (.ev 7 .done)))))))) [] [g] (by kernel_rfl) rfl (fun b hb h => hgr b hb (by simpa using h)) fun w2_ h2_ => ?_
  refine Need.mk (by decide) ?_
  refine IdxI.mk ⟨_, ⟨rfl, by omega, by show _ < (9 : Int); omega⟩, ?_⟩
  refine StoreI.mk fun x2 y2 => ?_
  have a2 : RowAt TB x2 g (((Dbm.topL 3).set 3 z.a).set 1 z.b) := ((r1.at k2 (hgL _ (by simp))).at h2_ (hgL _ (by simp))).at y2 (hgL _ (by simp))
  rw [show ((⟨g, 0, none⟩ : Addr).add ((6 : Int).toNat * 1)) = ⟨g, 6, none⟩ by simp [addr_addL]]
  refine ⟨⟨⟨_, a2.cell (j := 6) (by simp [Dbm.topL])⟩, a2.frozen _⟩, Zo.kpD_set hgw hgr (by simp [locs]), ?_⟩
  have r2 := a2.set (j := 6) (by simp [Dbm.topL]) z.c
  generalize x2.setCell ⟨g, 6, none⟩ (.int .i64 z.c) = s2 at r2
  refine Need.mk (by simp only [inK]; omega) ?_
  refine Branch.yes rfl ?_
  refine GenV.to (x := .int .i64 2) (fun w => places_at 3 w) fun u3 k3 => ?_
  refine DrawI.wr (.tk 0 (.tk 1 (.tk 2 (.tk 3 (.tk 4 (.tk 5 (.tk 6 (.ev 7 .done)))))))) [] [g] (by kernel_rfl) rfl (fun b hb h => hgr b hb (by simpa using h)) fun w3_ h3_ => ?_
  refine Need.mk (by decide) ?_
  refine IdxI.mk ⟨_, ⟨rfl, by omega, by show _ < (9 : Int); omega⟩, ?_⟩
  refine StoreI.mk fun x3 y3 => ?_
  have a3 : RowAt TB x3 g ((((Dbm.topL 3).set 3 z.a).set 1 z.b).set 6 z.c) := ((r2.at k3 (hgL _ (by simp))).at h3_ (hgL _ (by simp))).at y3 (hgL _ (by simp))
  rw [show ((⟨g, 0, none⟩ : Addr).add ((2 : Int).toNat * 1)) = ⟨g, 2, none⟩ by simp [addr_addL]]
  refine ⟨⟨⟨_, a3.cell (j := 2) (by simp [Dbm.topL])⟩, a3.frozen _⟩, Zo.kpD_set hgw hgr (by simp [locs]), ?_⟩
  have r3 := a3.set (j := 2) (by simp [Dbm.topL]) z.d
  generalize x3.setCell ⟨g, 2, none⟩ (.int .i64 z.d) = s3 at r3
  refine Need.mk (by simp only [inK]; omega) ?_
  refine Branch.yes rfl ?_
  refine GenV.to (x := .int .i64 7) (fun w => places_at 4 w) fun u4 k4 => ?_
  refine DrawI.wr (.tk 0 (.tk 1 (.tk 2 (.tk 3 (.tk 4 (.tk 5 (.tk 6 (.ev 7 .done)))))))) [] [g] (by kernel_rfl) rfl (fun b hb h => hgr b hb (by simpa using h)) fun w4_ h4_ => ?_
  refine Need.mk (by decide) ?_
  refine IdxI.mk ⟨_, ⟨rfl, by omega, by show _ < (9 : Int); omega⟩, ?_⟩
  refine StoreI.mk fun x4 y4 => ?_
  have a4 : RowAt TB x4 g (((((Dbm.topL 3).set 3 z.a).set 1 z.b).set 6 z.c).set 2 z.d) := ((r3.at k4 (hgL _ (by simp))).at h4_ (hgL _ (by simp))).at y4 (hgL _ (by simp))
  rw [show ((⟨g, 0, none⟩ : Addr).add ((7 : Int).toNat * 1)) = ⟨g, 7, none⟩ by simp [addr_addL]]
  refine ⟨⟨⟨_, a4.cell (j := 7) (by simp [Dbm.topL])⟩, a4.frozen _⟩, Zo.kpD_set hgw hgr (by simp [locs]), ?_⟩
  have r4 := a4.set (j := 7) (by simp [Dbm.topL]) z.e
  generalize x4.setCell ⟨g, 7, none⟩ (.int .i64 z.e) = s4 at r4
  refine Need.mk (by simp only [inK]; omega) ?_
  refine Branch.yes rfl ?_
  refine GenV.to (x := .int .i64 5) (fun w => places_at 5 w) fun u5 k5 => ?_
  refine DrawI.wr (.tk 0 (.tk 1 (.tk 2 (.tk 3 (.tk 4 (.tk 5 (.tk 6 (.ev 7 .done)))))))) [] [g] (by kernel_rfl) rfl (fun b hb h => hgr b hb (by simpa using h)) fun w5_ h5_ => ?_
  refine Need.mk (by decide) ?_
  refine IdxI.mk ⟨_, ⟨rfl, by omega, by show _ < (9 : Int); omega⟩, ?_⟩
  refine StoreI.mk fun x5 y5 => ?_
  have a5 : RowAt TB x5 g ((((((Dbm.topL 3).set 3 z.a).set 1 z.b).set 6 z.c).set 2 z.d).set 7 z.e) := ((r4.at k5 (hgL _ (by simp))).at h5_ (hgL _ (by simp))).at y5 (hgL _ (by simp))
  rw [show ((⟨g, 0, none⟩ : Addr).add ((5 : Int).toNat * 1)) = ⟨g, 5, none⟩ by simp [addr_addL]]
  refine ⟨⟨⟨_, a5.cell (j := 5) (by simp [Dbm.topL])⟩, a5.frozen _⟩, Zo.kpD_set hgw hgr (by simp [locs]), ?_⟩
  have r5 := a5.set (j := 5) (by simp [Dbm.topL]) z.f
  generalize x5.setCell ⟨g, 5, none⟩ (.int .i64 z.f) = s5 at r5
  refine Need.mk (by simp only [inK]; omega) ?_
  refine Branch.no rfl ?_
  refine EndI.mk fun w9 h9 => ⟨some ⟨g, 0, none⟩, c1, rfl, .inr ⟨g, c1, rfl, ?_, hmax, hgw, ?_⟩⟩
  · simpa [Zo.matL, Dbm.topL] using hcap
  · have hk := r5.at h9 (hgL _ (by simp))
    have e9 : ((((((Dbm.topL 3).set 3 z.a).set 1 z.b).set 6 z.c).set 2 z.d).set 7 z.e).set 5 z.f = Zo.matL z := rfl
    rw [e9] at hk
    exact hk
end Go.Proofs.YtjbhpfmnfdebkaaGreat

/-
  The contracts of package tight: of, sides, with, Between, by the engine.
-/
namespace Go.Proofs.YtjbhpfmnfdebkaaGreat
set_option linter.unusedVariables false
set_option linter.unusedSimpArgs false
set_option maxRecDepth 100000
open Go.RowKit Go.Proofs.YtjbhpfmnfdebkaaGreat.Eng Enc

/-- a span. -/
structure Sp where
  lo : Int
  ls : Bool
  hi : Int
  hs : Bool
  op : Bool
deriving DecidableEq
instance encSp : Enc Sp := ⟨fun x => [.int .i64 x.lo, .bool x.ls, .int .i64 x.hi, .bool x.hs, .bool x.op], 5, fun _ => rfl, by decide,
  fun _ v hv => by simp only [List.mem_cons, List.not_mem_nil, or_false] at hv; rcases hv with rfl | rfl | rfl | rfl | rfl <;> rfl, fun x => .agg #[.int .i64 x.lo, .bool x.ls, .int .i64 x.hi, .bool x.hs, .bool x.op]⟩
def Sp.ins (s : Sp) : Prop := inK .i64 s.lo ∧ inK .i64 s.hi

namespace Tg
def of (c : Int) (s : Bool) : Int := (Bd.made c s).1
def bad (s : Sp) : Bool := decide (s.lo < -288230376151711744) || decide (288230376151711744 < s.lo) || decide (288230376151711744 < s.hi)
def sides (s : Sp) : Int × Int × Bool :=
  if bad s = true then (0, 0, false) else
  if s.op = true then (of (-s.lo) s.ls, 9223372036854775807, decide (s.hi = 0) && !s.hs)
  else (of (-s.lo) s.ls, of s.hi s.hs, decide (s.lo ≤ s.hi))
/-- a list with bounds more (num: the place, den: the bound). -/
def more (L : List Int) (l : List Rt) : List Int := l.foldl (fun M x => M.set x.num.toNat (min (M[x.num.toNat]?.getD 0) x.den)) L
theorem more_len (l : List Rt) (L : List Int) : (more L l).length = L.length := by
  unfold more
  induction l generalizing L with
  | nil => rfl
  | cons x l ih => rw [List.foldl_cons, ih]; simp
end Tg

theorem tmost_any (c : Int) (w : World) :
    Calls Tryz.prog 150 #[.int .i64 c] w fun e w' => e = .returned (.tuple #[.int .i64 (Bd.made c false).1, .int .i64 (Bd.made c false).2]) ∧ Below w.heap.size w w' := by
  refine fun_eq 0 w Tryz.func150 (args := [.val (.int .i64 c)]) rfl rfl ?_
  have st := Stay.first (w := w)
  apply CallI.use1
  focus (exact fun w1 h1 => made_any c false w1)
  intro w1 v1 h1 hB1
  have st := st.next h1 (fun x hx => by simp at hx <;> omega) hB1
  exact EndI.mk fun w9 h9 => rfl
theorem tless_any (c : Int) (w : World) :
    Calls Tryz.prog 149 #[.int .i64 c] w fun e w' => e = .returned (.tuple #[.int .i64 (Bd.made c true).1, .int .i64 (Bd.made c true).2]) ∧ Below w.heap.size w w' := by
  refine fun_eq 0 w Tryz.func149 (args := [.val (.int .i64 c)]) rfl rfl ?_
  have st := Stay.first (w := w)
  apply CallI.use1
  focus (exact fun w1 h1 => made_any c true w1)
  intro w1 v1 h1 hB1
  have st := st.next h1 (fun x hx => by simp at hx <;> omega) hB1
  exact EndI.mk fun w9 h9 => rfl
theorem tof_any (c : Int) (s : Bool) (w : World) :
    Calls Tryz.prog 221 #[.int .i64 c, .bool s] w fun e w' => e = .returned (.int .i64 (Tg.of c s)) ∧ Below w.heap.size w w' := by
  refine fun_eq 0 w Tryz.func221 (args := [.val (.int .i64 c), .val (.bool s)]) rfl rfl ?_
  have st := Stay.first (w := w)
  refine Branch.mk (fun hc => ?_) (fun hc => ?_)
  · skip
    apply CallI.use1
    focus (exact fun w1 h1 => tless_any c w1)
    intro w1 v1 h1 hB1
    have st := st.next h1 (fun x hx => by simp at hx <;> omega) hB1
    refine EndI.mk fun w9 h9 => ?_
    have : s = true := hc
    subst this; rfl
  · skip
    apply CallI.use1
    focus (exact fun w1 h1 => tmost_any c w1)
    intro w1 v1 h1 hB1
    have st := st.next h1 (fun x hx => by simp at hx <;> omega) hB1
    refine EndI.mk fun w9 h9 => ?_
    have : s = false := by simpa using hc
    subst this; rfl
theorem tsides_any (s : Sp) (hs : s.ins) (w : World) :
    Calls Tryz.prog 155 #[.agg #[.int .i64 s.lo, .bool s.ls, .int .i64 s.hi, .bool s.hs, .bool s.op]] w fun e w' => e = .returned (.tuple #[.int .i64 (Tg.sides s).1, .int .i64 (Tg.sides s).2.1, .bool (Tg.sides s).2.2]) ∧ Below w.heap.size w w' := by
  refine fun_eq 0 w Tryz.func155 (args := [.agg [.val (.int .i64 s.lo), .val (.bool s.ls), .val (.int .i64 s.hi), .val (.bool s.hs), .val (.bool s.op)]]) rfl rfl ?_
  have st := Stay.first (w := w)
  refine NewI.mk fun b1 hb1 => ?_
  refine Branch.mk (fun hc => ?_) (fun hc => ?_)
  · have h0 : Tg.bad s = true := by have : s.lo < -288230376151711744 := by simpa using hc
                                    simp [Tg.bad, this]
    rw [Tg.sides, if_pos h0]
    exact EndI.mk fun w9 h9 => rfl
  refine Branch.mk (fun hc2 => ?_) (fun hc2 => ?_)
  · have h0 : Tg.bad s = true := by have : 288230376151711744 < s.lo := by simpa using hc2
                                    simp [Tg.bad, this]
    rw [Tg.sides, if_pos h0]
    exact EndI.mk fun w9 h9 => rfl
  refine Branch.mk (fun hc3 => ?_) (fun hc3 => ?_)
  · have h0 : Tg.bad s = true := by have : 288230376151711744 < s.hi := by simpa using hc3
                                    simp [Tg.bad, this]
    rw [Tg.sides, if_pos h0]
    exact EndI.mk fun w9 h9 => rfl
  have g1 : ¬ s.lo < -288230376151711744 := by simpa using hc
  have g2 : ¬ 288230376151711744 < s.lo := by simpa using hc2
  have g3 : ¬ 288230376151711744 < s.hi := by simpa using hc3
  have h0 : ¬ Tg.bad s = true := by simp [Tg.bad]; omega
  rw [Tg.sides, if_neg h0]
  refine Need.mk (by show _ ∧ _; omega) ?_
  apply CallI.use1
  focus (exact fun w1 h1 => tof_any (-s.lo) s.ls w1)
  intro w1 v1 h1 hB1
  have st := st.next h1 (fun x hx => by simp at hx <;> omega) hB1
  refine Branch.mk (fun hc => ?_) (fun hc => ?_)
  · have ho : s.op = true := hc
    rw [if_pos ho]
    refine Branch.mk (fun hc2 => ?_) (fun hc2 => ?_)
    · have h2 : s.hi = 0 := by simpa using hc2
      refine EndI.mk fun w9 h9 => ?_
      simp [h2]
    · have h2 : ¬ s.hi = 0 := by simpa using hc2
      refine EndI.mk fun w9 h9 => ?_
      simp [h2]
  · have ho : ¬ s.op = true := by simpa using hc
    rw [if_neg ho]
    refine DrawI.go (.tk 0 (.tk 1 (.tk 2 (.tk 3 (.tk 5 (.tk 6 (.tk 7 (.tk 8 (.tk 9 (.ev 4 (.tk 10 (.tk 11 .done)))))))))))) (by kernel_rfl) fun w7 h7 => ?_
    have st := st.at h7 (fun x hx => by simp at hx <;> omega)
    apply CallI.use1
    focus (exact fun w2 h2 => tof_any s.hi s.hs w2)
    intro w2 v2 h2 hB2
    have st := st.next h2 (fun x hx => by simp at hx <;> omega) hB2
    exact EndI.mk fun w9 h9 => rfl

theorem with_any (n : Int) (a : Option Addr) (cap : Nat) (L : List Int) (l : List Rt) (la : Option Addr) (lc : Nat) (hpos : 0 < L.length) (hlen : L.length ≤ 1000000) (hat : ∀ x ∈ l, 0 ≤ x.num ∧ x.num < L.length) (w : World) (hS : Sl w.heap.size w (.slice a L.length cap) L) (hSl : Sl w.heap.size w (.slice la l.length lc) l) :
    Calls Tryz.prog 156 #[.agg #[.int .i64 n, .slice a L.length cap], .slice la l.length lc] w (Ret w fun v w' => ∃ a' cap', v = .tuple #[.agg #[.int .i64 (Dbm.close n (Tg.more L l)).1, .slice a' (Dbm.close n (Tg.more L l)).2.1.length cap'], .int .i64 (Dbm.close n (Tg.more L l)).2.2] ∧ Fresh TB w.heap.size w' (.slice a' (Dbm.close n (Tg.more L l)).2.1.length cap') (Dbm.close n (Tg.more L l)).2.1) := by
  refine fun_ret 0 w Tryz.func156 (args := [.agg [.val (.int .i64 n), .val (.slice a L.length cap)], .val (.slice la l.length lc)]) rfl rfl ?_
  refine NewI.mk fun b1 hb1 => ?_
  refine NewI.mk fun b2 hb2 => ?_
  apply CallI.use
  · exact fun w3 h3 => twin_any n a cap L hlen w3 (Sl.at h3 hS)
  rintro v w3 w4 h3 hB4 ⟨a', cap', rfl, hO⟩
  have hgb : ∀ b, b ∈ [b1, b2] → b < w3.heap.size := fun b hb => h3.lt b hb
  have hwb : w.heap.size ≤ w3.heap.size := h3.below.size
  obtain ⟨g, rfl, hg, hr⟩ := hO.row hpos
  obtain ⟨_, ⟨h0, _⟩ | ⟨g', c', cur', e0, _, hgc, hlc, hm, hs, _⟩⟩ := id hO
  · cases h0
  injection e0 with e0 e1 e2
  injection e0 with e0; injection e0 with e0; subst e0; subst e2
  have hgr : ∀ b, b ∈ [b1, b2] → b ≠ g := fun b hb e => by have := hgb b hb; omega
  have hgw : w.heap.size ≤ g := Nat.le_trans hwb hg
  refine LoopI.invC (α := Nat × World) (fun y => [(12, .val (.int .i64 y.1))]) (fun y => y.2) (fun y => y.1 ≤ l.length ∧ Below w.heap.size w y.2 ∧ RowAt TB y.2 g (Tg.more L (l.take y.1))) (fun y => l.length - y.1) ?_ ?_
  · intro w5 h5
    exact ⟨(0, w5), Cov.mk (by repeat' (first | exact trivial | refine And.intro rfl ?_)) rfl rfl rfl rfl rfl, rfl, Nat.zero_le _, h5.below, hr.at h5 (by simp; exact fun e => hgr b1 (by simp) e.symm)⟩
  rintro ⟨k, W⟩ ⟨hk, hW, hRk⟩
  refine Branch.mk (fun hb => ?_) (fun hb => ?_)
  · have hlt : k < l.length := by simpa using hb
    have hx := List.getElem?_eq_getElem hlt
    have hxa := hat _ (List.mem_of_getElem? hx)
    generalize l[k] = x at hx hxa
    have hlk : (Tg.more L (l.take k)).length = L.length := Tg.more_len _ _
    have e1 : Tg.more L (l.take (k + 1)) = (Tg.more L (l.take k)).set x.num.toNat (min ((Tg.more L (l.take k))[x.num.toNat]?.getD 0) x.den) := by
      have e : l.take (k + 1) = l.take k ++ [x] := by rw [List.take_add_one, hx]; rfl
      rw [e]; simp [Tg.more, List.foldl_append]
    generalize Tg.more L (l.take k) = M at hRk hlk e1
    refine hSl.idx hx fun ad had => ?_
    refine hSl.ld hx had hW (by simp) ?_
    refine NewI.mk fun b3 hb3 => ?_
    have hgr3 : ∀ b, b ∈ [b1, b2, b3] → b ≠ g := fun b hb e => by
      have := hRk.lt
      simp only [List.mem_cons, List.not_mem_nil, or_false] at hb
      rcases hb with rfl | rfl | rfl
      · exact hgr _ (by simp) e
      · exact hgr _ (by simp) e
      · have : W.heap.size ≤ b := hb3
        omega
    obtain ⟨j, hj⟩ : ∃ j : Nat, x.num = j := ⟨x.num.toNat, by omega⟩
    have hjl : j < M.length := by omega
    rw [hj, Int.toNat_natCast] at e1
    refine DrawI.wr (.tk 0 (.tk 1 (.tk 2 (.tk 3 (.tk 4 (.tk 5 (.tk 6 (.tk 7 (.tk 8 (.tk 10 (.tk 11 (.ev 9 (.tk 12 (.tk 13 (.ev 14 .done))))))))))))))) [] [g] (by kernel_rfl) rfl (fun b hb h => hgr3 b hb (by simpa using h)) fun w5 h5 => ?_
    have r5 := hRk.at h5 (by simp; exact fun e => hgr3 b3 (by simp) e.symm)
    simp only [hj]
    refine IdxI.mk ⟨_, ⟨rfl, by omega, by omega⟩, ?_⟩
    rw [show ((⟨g, 0, none⟩ : Addr).add ((j : Int).toNat * 1)) = ⟨g, j, none⟩ by simp [addr_addL]]
    refine LoadI.mk ⟨_, ⟨r5.cell (j := j) hjl, by simp⟩, ?_⟩
    refine IdxI.mk ⟨_, ⟨rfl, by omega, by omega⟩, ?_⟩
    refine StoreI.mk fun w6 h6 => ?_
    have r6 := r5.at h6 (by simp)
    rw [show ((⟨g, 0, none⟩ : Addr).add ((j : Int).toNat * 1)) = ⟨g, j, none⟩ by simp [addr_addL]]
    refine ⟨⟨⟨_, r6.cell (j := j) hjl⟩, r6.frozen _⟩, Zo.kpD_set hgw hgr3 (by simp [locs]), ?_⟩
    obtain ⟨_, _, e0, h1, h2, _⟩ := hSl.form
    unfold maxLen at h2
    injection e0 with _ _ e0
    refine Need.mk (by show _ ∧ _; omega) (EndI.mk fun w12 h12 => ⟨(k + 1, w12), Cov.mk (by repeat' (first | exact trivial | refine And.intro rfl ?_)) rfl rfl rfl rfl rfl, rfl, ⟨hlt, h12.below, ?_⟩, by simp only; omega⟩)
    show RowAt TB w12 g (Tg.more L (l.take (k + 1)))
    rw [e1]
    have em : minL (M[j]?.getD 0) [x.den] = min (M[j]?.getD 0) x.den := by simp [minL]; omega
    rw [em] at h12
    exact (r6.set hjl _).at h12 (by simp)
  · have hge : k = l.length := by have : ¬ k < l.length := by simpa using hb
                                  omega
    subst hge
    rw [List.take_length] at hRk
    have hlm : (Tg.more L l).length = L.length := Tg.more_len _ _
    have hRW : Sl W.heap.size W (.slice (some ⟨g, 0, none⟩) (Tg.more L l).length cap') (Tg.more L l) :=
      Fresh.sl (e := TB) (base := w.heap.size) (.inr ⟨g, cap', rfl, by omega, hm, hgw, hRk⟩)
    rw [← hlm]
    have st := (Stay.first (w := w)).go (Nat.le_refl _) (Below.refl _ _) hW
    apply CallI.use
    focus (exact fun w9 h9 => close_any n _ cap' _ w9 (hRW.st (st.at h9 (fun x hx => by simp at hx <;> omega))))
    rintro v w9 v9 h9 hB9 ⟨a9, c9, rfl, hF9⟩
    have st := st.next h9 (fun x hx => by simp at hx <;> omega) hB9
    exact EndI.mk fun w10 h10 => ⟨a9, c9, rfl, (hF9.at h10 (fun b hb => by rw [List.mem_singleton.1 hb]; exact h9.lt b2 (by simp))).lower h9.below.size⟩

theorem clock_any (n : Int) (a : Option Addr) (m cap : Nat) (i : Int) (w : World) :
    Calls Tryz.prog 154 #[.agg #[.int .i64 n, .slice a m cap], .int .i64 i] w fun e w' => e = .returned (.bool (decide (0 ≤ i ∧ i < n))) ∧ Below w.heap.size w w' := by
  refine fun_eq 0 w Tryz.func154 (args := [.agg [.val (.int .i64 n), .val (.slice a m cap)], .val (.int .i64 i)]) rfl rfl ?_
  refine NewI.mk fun b1 hb1 => ?_
  refine Branch.mk (fun hc => ?_) (fun hc => ?_)
  · have h0 : 0 ≤ i := by simpa using hc
    refine EndI.mk fun w9 h9 => ?_
    simp [h0]
  · have h0 : ¬ 0 ≤ i := by simpa using hc
    refine EndI.mk fun w9 h9 => ?_
    rw [decide_eq_false (fun h => h0 h.1)]

namespace Tg
def between (n : Int) (L : List Int) (i : Int) (s : Sp) : Int × List Int × Int :=
  if Dbm.chk n L = 0 then (if 0 ≤ i ∧ i < n then (if (sides s).2.2 = true then Dbm.close n (more L [⟨i, (sides s).1⟩, ⟨i * n, (sides s).2.1⟩]) else (0, [], 8)) else (0, [], 2)) else (0, [], 8)
end Tg
theorem between_any (n : Int) (a : Option Addr) (cap : Nat) (L : List Int) (i : Int) (s : Sp) (hs : s.ins) (w : World) (hS : Sl w.heap.size w (.slice a L.length cap) L) :
    Calls Tryz.prog 86 #[.agg #[.int .i64 n, .slice a L.length cap], .int .i64 i, .agg #[.int .i64 s.lo, .bool s.ls, .int .i64 s.hi, .bool s.hs, .bool s.op]] w (Ret w fun v w' => ∃ a' cap', v = .tuple #[.agg #[.int .i64 (Tg.between n L i s).1, .slice a' (Tg.between n L i s).2.1.length cap'], .int .i64 (Tg.between n L i s).2.2] ∧ Fresh TB w.heap.size w' (.slice a' (Tg.between n L i s).2.1.length cap') (Tg.between n L i s).2.1) := by
  refine fun_ret 0 w Tryz.func86 (args := [.agg [.val (.int .i64 n), .val (.slice a L.length cap)], .val (.int .i64 i), .agg [.val (.int .i64 s.lo), .val (.bool s.ls), .val (.int .i64 s.hi), .val (.bool s.hs), .val (.bool s.op)]]) rfl rfl ?_
  have st := Stay.first (w := w)
  refine NewI.mk fun b1 hb1 => ?_
  refine NewI.mk fun b2 hb2 => ?_
  refine NewI.mk fun b3 hb3 => ?_
  unfold Tg.between
  apply CallI.use1
  focus (exact fun w1 h1 => dcheck_any n a cap L w1 (hS.st (st.at h1 (fun x hx => by simp at hx <;> omega))))
  intro w1 v1 h1 hB1
  have st := st.next h1 (fun x hx => by simp at hx <;> omega) hB1
  refine Branch.mk (fun hc => ?_) (fun hc => ?_)
  · rw [if_neg (by simpa using hc)]
    exact EndI.mk fun w9 h9 => ⟨_, _, rfl, .inl ⟨rfl, rfl⟩⟩
  have h0 : Dbm.chk n L = 0 := by simpa using hc
  rw [if_pos h0]
  apply CallI.use1
  focus (exact fun w2 h2 => clock_any n a L.length cap i w2)
  intro w2 v2 h2 hB2
  have st := st.next h2 (fun x hx => by simp at hx <;> omega) hB2
  refine Branch.mk (fun hc2 => ?_) (fun hc2 => ?_)
  · have h1 : ¬ (0 ≤ i ∧ i < n) := fun h => by simp [h] at hc2
    rw [if_neg h1]
    exact EndI.mk fun w9 h9 => ⟨_, _, rfl, .inl ⟨rfl, rfl⟩⟩
  have h1 : 0 ≤ i ∧ i < n := by
    have : decide (0 ≤ i ∧ i < n) = true := by
      cases hd : decide (0 ≤ i ∧ i < n)
      · rw [hd] at hc2; cases hc2
      · rfl
    simpa using this
  rw [if_pos h1]
  apply CallI.use1
  focus (exact fun w3 h3 => tsides_any s hs w3)
  intro w3 v3 h3 hB3
  have st := st.next h3 (fun x hx => by simp at hx <;> omega) hB3
  generalize hD : Tg.sides s = D
  obtain ⟨below, above, is⟩ := D
  refine Branch.mk (fun hc3 => ?_) (fun hc3 => ?_)
  · have h2 : ¬ is = true := by simpa using hc3
    rw [if_neg h2]
    exact EndI.mk fun w9 h9 => ⟨_, _, rfl, .inl ⟨rfl, rfl⟩⟩
  have h2 : is = true := by simpa using hc3
  rw [if_pos h2]
  obtain ⟨c1, c2, c3, c4⟩ := Dbm.chk_iff.1 h0
  have hb : 0 ≤ i * n ∧ i * n < L.length ∧ i < L.length ∧ L.length ≤ 16 := by
    rw [c3]
    have : (L.length : Int) ≤ 16 := by
      rw [c3]
      rcases (by omega : n = 1 ∨ n = 2 ∨ n = 3 ∨ n = 4) with rfl | rfl | rfl | rfl <;> omega
    rcases (by omega : n = 1 ∨ n = 2 ∨ n = 3 ∨ n = 4) with rfl | rfl | rfl | rfl <;> omega
  refine Need.mk (by show _ ∧ _; omega) ?_
  refine NewI.mk fun b4 hb4 => ?_
  apply CallI.use
  focus (exact fun w4 h4 => with_any n a cap L [⟨i, below⟩, ⟨i * n, above⟩] _ 2 (by omega) (by omega) (by intro x hx; rcases List.mem_cons.1 hx with rfl | hx; exact ⟨h1.1, hb.2.2.1⟩; rw [List.mem_singleton.1 hx]; exact ⟨hb.1, hb.2.1⟩) w4 (hS.st (st.at h4 (fun x hx => by simp at hx <;> omega))) (Sl.own (l := [(⟨i, below⟩ : Rt), ⟨i * n, above⟩]) h4 3 rfl rfl rfl (Nat.le_refl _) (by simp [maxLen])))
  rintro v w4 v4 h4 hB4 ⟨a1, q1, rfl, hF1⟩
  have st := st.next h4 (fun x hx => by simp at hx <;> omega) hB4
  exact EndI.mk fun w10 h10 => ⟨a1, q1, rfl, (hF1.at h10 (fun b hb => by rw [List.mem_singleton.1 hb]; exact h4.lt b3 (by simp))).lower h4.below.size⟩
end Go.Proofs.YtjbhpfmnfdebkaaGreat

/-
  How arguments are opened: spans.
-/
namespace Go.Proofs.YtjbhpfmnfdebkaaGreat
set_option linter.unusedVariables false
open Go.ChangeShapes Go.WideShapes Go.ChangeAt Go.RowKit Go.Deep Go.Proofs.YtjbhpfmnfdebkaaGreat.Eng

section
variable {H : Type} {en : TypeId × Value → H} {P : Program}
theorem trod_struct5 {w : World} {base : Nat} {spare : Nat → Bool} {held : Bool} {t : TypeId} {f0 f1 f2 f3 f4 : Field} {fuel : Nat} {cs : List Value} {x : DataW H × List MemPlace} (ht : P.underlying t = some (.struct #[f0, f1, f2, f3, f4])) (h : DataW.trod en P w base spare held fuel t cs = some x) :
    ∃ y0 y1 y2 y3 y4 n, cs.length = P.cellsOf t ∧ DataW.trod en P w base spare held n f0.type ((cs.drop f0.offset).take (P.cellsOf f0.type)) = some y0 ∧ DataW.trod en P w base spare held n f1.type ((cs.drop f1.offset).take (P.cellsOf f1.type)) = some y1 ∧
      DataW.trod en P w base spare held n f2.type ((cs.drop f2.offset).take (P.cellsOf f2.type)) = some y2 ∧ DataW.trod en P w base spare held n f3.type ((cs.drop f3.offset).take (P.cellsOf f3.type)) = some y3 ∧ DataW.trod en P w base spare held n f4.type ((cs.drop f4.offset).take (P.cellsOf f4.type)) = some y4 := by
  obtain ⟨xs, n, _, rfl, hl, hlen, hf⟩ := DataW.trod_struct ht h
  match xs, hlen with
  | [y0, y1, y2, y3, y4], _ => exact ⟨y0, y1, y2, y3, y4, n, hl, by simpa using hf 0 f0 rfl, by simpa using hf 1 f1 rfl, by simpa using hf 2 f2 rfl, by simpa using hf 3 f3 rfl, by simpa using hf 4 f4 rfl⟩
theorem opens_sp {e : TypeId} {f0 f1 f2 f3 f4 : Field} (he : P.underlying e = some (.struct #[f0, f1, f2, f3, f4])) (hc : P.cellsOf e = 5) (o0 : f0.offset = 0) (o1 : f1.offset = 1) (o2 : f2.offset = 2) (o3 : f3.offset = 3) (o4 : f4.offset = 4)
    (c0 : P.cellsOf f0.type = 1) (c1 : P.cellsOf f1.type = 1) (c2 : P.cellsOf f2.type = 1) (c3 : P.cellsOf f3.type = 1) (c4 : P.cellsOf f4.type = 1)
    (t0 : P.underlying f0.type = some (.int .i64)) (t1 : P.underlying f1.type = some .bool) (t2 : P.underlying f2.type = some (.int .i64)) (t3 : P.underlying f3.type = some .bool) (t4 : P.underlying f4.type = some .bool) : Opens en P e Sp Sp.ins := by
  refine ⟨hc, fun W b sp hl fuel cs x h => ?_⟩
  obtain ⟨y0, y1, y2, y3, y4, n, hlen, k0, k1, k2, k3, k4⟩ := trod_struct5 he h
  rw [hc] at hlen
  match cs, hlen with
  | [p0, p1, p2, p3, p4], _ =>
    rw [o0, c0] at k0
    rw [o1, c1] at k1
    rw [o2, c2] at k2
    rw [o3, c3] at k3
    rw [o4, c4] at k4
    obtain ⟨m0, e0, _, w0⟩ := DataW.trod_int t0 k0
    obtain ⟨m1, e1, _⟩ := DataW.trod_bool t1 k1
    obtain ⟨m2, e2, _, w2⟩ := DataW.trod_int t2 k2
    obtain ⟨m3, e3, _⟩ := DataW.trod_bool t3 k3
    obtain ⟨m4, e4, _⟩ := DataW.trod_bool t4 k4
    simp at e0 e1 e2 e3 e4
    subst e0; subst e1; subst e2; subst e3; subst e4
    exact ⟨⟨m0, m1, m2, m3, m4⟩, rfl, inK_wf w0, inK_wf w2⟩
end
end Go.Proofs.YtjbhpfmnfdebkaaGreat

/-
  Small laws of worlds that grow; a row of zones whose cells are numbers, whatever they are.
-/
namespace Go.Proofs.YtjbhpfmnfdebkaaGreat
set_option linter.unusedVariables false
set_option linter.unusedSimpArgs false
open Go.RowKit Go.Proofs.YtjbhpfmnfdebkaaGreat.Eng Enc

theorem grown_belowM {n : Nat} {W w1 w2 : World} {row : Option Nat} (hB : Below n W w1) (hg : w1.grownBy w2 row) (hr : ∀ k, row = some k → n ≤ k) (hn : n ≤ w1.heap.size) : Below n W w2 :=
  ⟨hg.os.trans hB.os, hg.tape.trans hB.tape, hg.output.trans hB.output, Nat.le_trans hB.size hg.size, fun k hk => (hg.block k (Nat.lt_of_lt_of_le hk hn) (fun e => absurd (hr k e.symm) (Nat.not_le.2 hk))).trans (hB.block k hk)⟩
/-- a row of zones of the run's own, whose cells are numbers. -/
structure ZRow (W : World) (g cap n : Nat) : Prop where
  le : n ≤ cap
  max : cap ≤ maxLen
  row : ∃ cur : Array Value, W.heap[g]? = some (.cells cur TZ (0, 0)) ∧ cur.size = cap * 6 ∧ ∀ j, j < n * 6 → ∃ x, cur[j]? = some (.int .i64 x)
theorem cellsL_zn : ∀ (l : List Zn) (j : Nat), j < l.length * 6 → ∃ x, (cellsL l)[j]? = some (.int .i64 x)
  | [], j, h => by simp at h
  | z :: l, j, h => by
    have hlen : (enc z).length = 6 := rfl
    rw [List.length_cons] at h
    by_cases hj : j < 6
    · have : j = 0 ∨ j = 1 ∨ j = 2 ∨ j = 3 ∨ j = 4 ∨ j = 5 := by omega
      have hx : (cellsL (z :: l))[j]? = (enc z)[j]? := by
        show (enc z ++ cellsL l)[j]? = _
        rw [List.getElem?_append_left (by rw [hlen]; exact hj)]
      rw [hx]
      rcases this with rfl | rfl | rfl | rfl | rfl | rfl
      · exact ⟨z.a, rfl⟩
      · exact ⟨z.b, rfl⟩
      · exact ⟨z.c, rfl⟩
      · exact ⟨z.d, rfl⟩
      · exact ⟨z.e, rfl⟩
      · exact ⟨z.f, rfl⟩
    · obtain ⟨x, hx⟩ := cellsL_zn l (j - 6) (by omega)
      refine ⟨x, ?_⟩
      show (enc z ++ cellsL l)[j]? = _
      rw [List.getElem?_append_right (by rw [hlen]; omega), hlen]
      exact hx
theorem ZRow.of {base : Nat} {W : World} {g n cap : Nat} {l : List Zn} (h : Own TZ base W (.slice (some ⟨g, 0, none⟩) n cap) l) : ZRow W g cap n ∧ base ≤ g ∧ g < W.heap.size := by
  obtain ⟨rfl, hb, hlt, cur', hg, hn, hm, hs, ht⟩ := h.at0
  refine ⟨⟨hn, hm, cur', hg, hs, fun j hj => ?_⟩, hb, hlt⟩
  obtain ⟨x, hx⟩ := cellsL_zn l j hj
  refine ⟨x, ?_⟩
  have h1 : (cur'.toList.take (l.length * 6))[j]? = some (.int .i64 x) := by
    have : cur'.toList.take (l.length * size Zn) = cellsL l := ht
    rw [show l.length * 6 = l.length * size Zn from rfl, this]; exact hx
  rw [List.getElem?_take] at h1
  rw [if_pos hj] at h1
  rw [← h1, Array.getElem?_toList]
theorem ZRow.kept {W X : World} {g cap n : Nat} (h : ZRow W g cap n) (e : X.heap[g]? = W.heap[g]?) : ZRow X g cap n := by
  obtain ⟨a, b, cur, c⟩ := h
  exact ⟨a, b, cur, e.trans c.1, c.2⟩
theorem ZRow.lt {W : World} {g cap n : Nat} (h : ZRow W g cap n) : g < W.heap.size := by
  obtain ⟨_, _, cur, c, _⟩ := h
  exact (Array.getElem?_eq_some_iff.1 c).1
theorem ZRow.at {w0 : Base} {hp : List LB} {r L : List Nat} {w w1 : World} {g cap n : Nat} (h : ZRow w g cap n) (h1 : At w0 hp r L w w1) (hL : g ∉ L) : ZRow w1 g cap n := h.kept (h1.step g h.lt hL)
theorem ZRow.below {W X : World} {g cap n : Nat} (h : ZRow W g cap n) (hB : Below W.heap.size W X) : ZRow X g cap n := h.kept (hB.block _ h.lt)
theorem ZRow.cell {W : World} {g cap n : Nat} (h : ZRow W g cap n) {j : Nat} (hj : j < n * 6) : ∃ x, W.cell? ⟨g, j, none⟩ = some (.int .i64 x) := by
  obtain ⟨_, _, cur, c, _, d⟩ := h
  obtain ⟨x, hx⟩ := d j hj
  refine ⟨x, ?_⟩
  simp [World.cell?, c, hx]
theorem ZRow.frozen {W : World} {g cap n : Nat} (h : ZRow W g cap n) (j : Nat) : W.frozen? ⟨g, j, none⟩ = false := by
  obtain ⟨_, _, cur, c, _⟩ := h
  simp [World.frozen?, c]
theorem ZRow.set {W : World} {g cap n : Nat} (h : ZRow W g cap n) {j : Nat} (hj : j < n * 6) (x : Int) : ZRow (W.setCell ⟨g, j, none⟩ (.int .i64 x)) g cap n := by
  obtain ⟨a, b, cur, c, d, e⟩ := h
  refine ⟨a, b, cur.setIfInBounds j (.int .i64 x), ?_, by simp [d], fun i hi => ?_⟩
  · simp only [World.setCell]
    rw [Array.getElem?_modify, if_pos rfl, c]
    rfl
  · by_cases hij : i = j
    · subst hij
      refine ⟨x, ?_⟩
      have : i < cur.size := by rw [d]; have := Nat.mul_le_mul_right 6 a; omega
      simp [this]
    · obtain ⟨y, hy⟩ := e i hi
      refine ⟨y, ?_⟩
      rw [Array.getElem?_setIfInBounds_ne (fun h => hij h.symm)]; exact hy
theorem setCell_neM {W : World} {B o k : Nat} {u : Value} (h : k ≠ B) : (W.setCell ⟨B, o, none⟩ u).heap[k]? = W.heap[k]? := Below.heap_setCell _ _ _ _ (by simpa using h)
theorem below_setCellM {n : Nat} {W X : World} {B o : Nat} {u : Value} (h : Below n W X) (hB : n ≤ B) : Below n W (X.setCell ⟨B, o, none⟩ u) :=
  ⟨h.os, h.tape, h.output, by simpa [World.setCell] using h.size, fun k hk => (setCell_neM (by omega)).trans (h.block k hk)⟩
theorem Own.setCellM {α : Type} [Enc α] {e : TypeId} {base : Nat} {W : World} {sv : Value} {l : List α} {B o : Nat} {u : Value} (h : Own e base W sv l) (hne : ∀ g, sv.ownBlock = some g → g ≠ B) : Own e base (W.setCell ⟨B, o, none⟩ u) sv l :=
  Own.kept (row := some B) h ⟨rfl, rfl, rfl, by simp [World.setCell], fun j hj hn => setCell_neM (fun e => hn (by rw [e]))⟩ (by
    cases ho : sv.ownBlock with
    | none => exact .inl rfl
    | some g => exact .inr (fun e => hne g ho (by injection e)))
theorem at_belowM {w0 : Base} {hp : List LB} {r L : List Nat} {w w1 : World} (h : At w0 hp r L w w1) (hL : ∀ b, b ∈ L → w.heap.size ≤ b) : Below w.heap.size w w1 :=
  ⟨h.below.os.trans h.base.os.symm, h.below.tape.trans h.base.tape.symm, h.below.output.trans h.base.output.symm, h.size, fun k hk => h.step k hk fun hm => by have := hL k hm; omega⟩
theorem lt_cellsM {W : World} {B : Nat} {o : Obj} (h : W.heap[B]? = some o) : B < W.heap.size := (Array.getElem?_eq_some_iff.1 h).1
end Go.Proofs.YtjbhpfmnfdebkaaGreat

/-
  DERIVED: THE SHELF's CONTRACTS AT THIS DUMP, IN PLAIN WORDS (tools/lay-plain.mjs out of 'YtjbhpfmnfdebkaaGreatShelf0.lean', which tools/lay-shelf.mjs wrote): THE SAME DECLARATIONS UNDER THE SAME NAMES: 'import', 'namespace', 'open', 'def', 'theorem' AND NOTHING ELSE: no command of the shelf's: FOR A HAND-IN. Each laying: the table of numbers ('.._ren') and one theorem, a field a fact of the dump's own or the kernel's comparison; each contract: ONE APPLICATION.
-/
namespace Go.Proofs
open Go.Shelf
def Tryz.keysA_ren : Go.Shelf.Ren := ⟨fun | 7 => 137 | 10 => 209 | n => n, fun | 23 => 115 | 26 => 3 | 3 => 3 | 28 => 180 | 0 => 0 | 27 => 179 | 33 => 135 | 4 => 4 | n => n, fun | n => n⟩
theorem Tryz.keysA : Go.Proofs.SlLaysZI.n7 Tryz.prog Tryz.keysA_ren := {
  mixed := by kernel_rfl
  f7 := ⟨Tryz.f137.name, by decide, Tryz.func137.trans (congrArg some (by kernel_rfl))⟩
  f10 := ⟨Tryz.f209.name, by decide, Tryz.func209.trans (congrArg some (by kernel_rfl))⟩
  t0 := Tryz.underlying0
  a0 := Tryz.isAgg0
  z0 := Tryz.sizeOf0
  v0 := Tryz.zeroValue0
  t4 := Tryz.underlying4
  a4 := Tryz.isAgg4
  z4 := Tryz.sizeOf4
  v4 := Tryz.zeroValue4
  t23 := Tryz.underlying115
  a23 := Tryz.isAgg115
  z23 := Tryz.sizeOf115
  v23 := Tryz.zeroValue115
  t26 := Tryz.underlying3
  a26 := Tryz.isAgg3
  z26 := Tryz.sizeOf3
  v26 := Tryz.zeroValue3
  t27 := Tryz.underlying179
  a27 := Tryz.isAgg179
  z27 := Tryz.sizeOf179
  v27 := Tryz.zeroValue179
  t28 := Tryz.underlying180
  a28 := Tryz.isAgg180
  z28 := Tryz.sizeOf180
  v28 := Tryz.zeroValue180
  t33 := Tryz.underlying135
  a33 := Tryz.isAgg135
  z33 := Tryz.sizeOf135
  v33 := Tryz.zeroValue135 }
def Tryz.sortedA_ren : Go.Shelf.Ren := ⟨fun | 6 => 136 | 8 => 207 | 9 => 208 | 11 => 253 | 13 => 255 | 12 => 254 | 23 => 285 | 24 => 286 | 14 => 276 | 15 => 277 | 16 => 278 | 17 => 279 | 18 => 280 | 19 => 281 | 20 => 282 | 21 => 283 | 22 => 284 | 25 => 296 | 26 => 297 | 27 => 298 | 28 => 299 | 29 => 300 | 30 => 267 | 31 => 317 | n => n, fun | 26 => 3 | 28 => 180 | 24 => 41 | 0 => 0 | 3 => 3 | 37 => 271 | 48 => 316 | 50 => 245 | 4 => 4 | 40 => 309 | 39 => 308 | 45 => 313 | 5 => 5 | 9 => 9 | 51 => 327 | 55 => 331 | 57 => 343 | 58 => 215 | 33 => 135 | n => n, fun | n => n⟩
theorem Tryz.sortedA : Go.Proofs.SlLaysZI.n6 Tryz.prog Tryz.sortedA_ren := {
  mixed := by kernel_rfl
  f6 := ⟨Tryz.f136.name, by decide, Tryz.func136.trans (congrArg some (by kernel_rfl))⟩
  f8 := ⟨Tryz.f207.name, by decide, Tryz.func207.trans (congrArg some (by kernel_rfl))⟩
  f11 := ⟨Tryz.f253.name, by decide, Tryz.func253.trans (congrArg some (by kernel_rfl))⟩
  t0 := Tryz.underlying0
  a0 := Tryz.isAgg0
  z0 := Tryz.sizeOf0
  v0 := Tryz.zeroValue0
  t24 := Tryz.underlying41
  a24 := Tryz.isAgg41
  z24 := Tryz.sizeOf41
  v24 := Tryz.zeroValue41
  t26 := Tryz.underlying3
  a26 := Tryz.isAgg3
  z26 := Tryz.sizeOf3
  v26 := Tryz.zeroValue3
  t28 := Tryz.underlying180
  a28 := Tryz.isAgg180
  z28 := Tryz.sizeOf180
  v28 := Tryz.zeroValue180
  i26 := by kernel_rfl }
def Tryz.sortA_ren : Go.Shelf.Ren := ⟨fun | 5 => 208 | 8 => 255 | 7 => 254 | 19 => 285 | 20 => 286 | 10 => 276 | 11 => 277 | 12 => 278 | 13 => 279 | 14 => 280 | 15 => 281 | 16 => 282 | 17 => 283 | 18 => 284 | 30 => 296 | 31 => 297 | 32 => 298 | 33 => 299 | 34 => 300 | 35 => 267 | 40 => 317 | n => n, fun | 23 => 41 | 25 => 3 | 3 => 3 | 32 => 271 | 22 => 41 | 0 => 0 | 44 => 316 | 46 => 245 | 4 => 4 | 36 => 309 | 35 => 308 | 41 => 313 | 5 => 5 | 9 => 9 | 53 => 327 | 57 => 331 | 63 => 343 | 64 => 215 | n => n, fun | n => n⟩
theorem Tryz.sortA : Go.Proofs.SlLaysM.n5 Tryz.prog Tryz.sortA_ren := {
  mixed := by kernel_rfl
  f5 := ⟨Tryz.f208.name, by decide, Tryz.func208.trans (congrArg some (by kernel_rfl))⟩
  f7 := ⟨Tryz.f254.name, by decide, Tryz.func254.trans (congrArg some (by kernel_rfl))⟩
  f8 := Tryz.func255.trans (congrArg some (by kernel_rfl))
  f10 := ⟨Tryz.f276.name, by decide, Tryz.func276.trans (congrArg some (by kernel_rfl))⟩
  f11 := ⟨Tryz.f277.name, by decide, Tryz.func277.trans (congrArg some (by kernel_rfl))⟩
  f12 := ⟨Tryz.f278.name, by decide, Tryz.func278.trans (congrArg some (by kernel_rfl))⟩
  f13 := ⟨Tryz.f279.name, by decide, Tryz.func279.trans (congrArg some (by kernel_rfl))⟩
  f14 := ⟨Tryz.f280.name, by decide, Tryz.func280.trans (congrArg some (by kernel_rfl))⟩
  f15 := ⟨Tryz.f281.name, by decide, Tryz.func281.trans (congrArg some (by kernel_rfl))⟩
  f16 := ⟨Tryz.f282.name, by decide, Tryz.func282.trans (congrArg some (by kernel_rfl))⟩
  f17 := ⟨Tryz.f283.name, by decide, Tryz.func283.trans (congrArg some (by kernel_rfl))⟩
  f18 := ⟨Tryz.f284.name, by decide, Tryz.func284.trans (congrArg some (by kernel_rfl))⟩
  f19 := Tryz.func285.trans (congrArg some (by kernel_rfl))
  f20 := Tryz.func286.trans (congrArg some (by kernel_rfl))
  f30 := ⟨Tryz.f296.name, by decide, Tryz.func296.trans (congrArg some (by kernel_rfl))⟩
  f31 := Tryz.func297.trans (congrArg some (by kernel_rfl))
  f32 := Tryz.func298.trans (congrArg some (by kernel_rfl))
  f33 := ⟨Tryz.f299.name, by decide, Tryz.func299.trans (congrArg some (by kernel_rfl))⟩
  f34 := ⟨Tryz.f300.name, by decide, Tryz.func300.trans (congrArg some (by kernel_rfl))⟩
  f35 := ⟨Tryz.f267.name, by decide, Tryz.func267.trans (congrArg some (by kernel_rfl))⟩
  f40 := ⟨Tryz.f317.name, by decide, Tryz.func317.trans (congrArg some (by kernel_rfl))⟩
  t0 := Tryz.underlying0
  a0 := Tryz.isAgg0
  z0 := Tryz.sizeOf0
  v0 := Tryz.zeroValue0
  t3 := Tryz.underlying3
  a3 := Tryz.isAgg3
  z3 := Tryz.sizeOf3
  v3 := Tryz.zeroValue3
  t4 := Tryz.underlying4
  a4 := Tryz.isAgg4
  z4 := Tryz.sizeOf4
  v4 := Tryz.zeroValue4
  t5 := Tryz.underlying5
  a5 := Tryz.isAgg5
  z5 := Tryz.sizeOf5
  v5 := Tryz.zeroValue5
  t9 := Tryz.underlying9
  a9 := Tryz.isAgg9
  z9 := Tryz.sizeOf9
  v9 := Tryz.zeroValue9
  t22 := Tryz.underlying41
  a22 := Tryz.isAgg41
  z22 := Tryz.sizeOf41
  v22 := Tryz.zeroValue41
  t23 := Tryz.underlying41
  a23 := Tryz.isAgg41
  z23 := Tryz.sizeOf41
  v23 := Tryz.zeroValue41
  t25 := Tryz.underlying3
  a25 := Tryz.isAgg3
  z25 := Tryz.sizeOf3
  v25 := Tryz.zeroValue3
  t32 := Tryz.underlying271
  a32 := Tryz.isAgg271
  z32 := Tryz.sizeOf271
  v32 := Tryz.zeroValue271
  t35 := Tryz.underlying308
  a35 := Tryz.isAgg308
  z35 := Tryz.sizeOf308
  v35 := Tryz.zeroValue308
  t36 := Tryz.underlying309
  a36 := Tryz.isAgg309
  z36 := Tryz.sizeOf309
  v36 := Tryz.zeroValue309
  t41 := Tryz.underlying313
  a41 := Tryz.isAgg313
  z41 := Tryz.sizeOf313
  v41 := Tryz.zeroValue313
  t44 := Tryz.underlying316
  a44 := Tryz.isAgg316
  z44 := Tryz.sizeOf316
  v44 := Tryz.zeroValue316
  t46 := Tryz.underlying245
  a46 := Tryz.isAgg245
  z46 := Tryz.sizeOf245
  v46 := Tryz.zeroValue245
  t53 := Tryz.underlying327
  a53 := Tryz.isAgg327
  z53 := Tryz.sizeOf327
  v53 := Tryz.zeroValue327
  t57 := Tryz.underlying331
  a57 := Tryz.isAgg331
  z57 := Tryz.sizeOf331
  v57 := Tryz.zeroValue331
  t63 := Tryz.underlying343
  a63 := Tryz.isAgg343
  z63 := Tryz.sizeOf343
  v63 := Tryz.zeroValue343
  t64 := Tryz.underlying215
  a64 := Tryz.isAgg215
  z64 := Tryz.sizeOf215
  v64 := Tryz.zeroValue215 }
end Go.Proofs

/-
  Sets of numbers, kept in maps that the call makes; their keys, rising.
-/
namespace Go.Proofs.YtjbhpfmnfdebkaaGreat
set_option linter.unusedVariables false
set_option linter.unusedSimpArgs false
set_option maxRecDepth 100000
open Go.RowKit Go.Proofs.YtjbhpfmnfdebkaaGreat.Eng Enc

abbrev TMi : TypeId := 115
abbrev TKi : TypeId := 3
theorem keyI : Maps.Keyed Tryz.prog TKi := Maps.int_keyed Tryz.underlying3
/-- block b is a set of numbers: those of which f says so; it has been written at most n times. -/
def MSet (W : World) (b n : Nat) (f : Int → Bool) : Prop :=
  ∃ D : DataW Unit, W.ownsMap Tryz.prog TKi (plainElem Tryz.prog TKi) b n D ∧ Maps.Tidy D ∧ ∀ x : Int, D.atKey (.int .i64 x) (.lit (.int .i64 0)) = .lit (.int .i64 (if f x = true then 1 else 0)) ∧ Maps.has D (.int .i64 x) = f x
theorem MSet.lt {W : World} {b n : Nat} {f : Int → Bool} (h : MSet W b n f) : b < W.heap.size := by
  obtain ⟨D, h1, _⟩ := h; exact h1.lt
theorem MSet.kept {W X : World} {b n : Nat} {f : Int → Bool} (h : MSet W b n f) (e : X.heap[b]? = W.heap[b]?) : MSet X b n f := by
  obtain ⟨D, ⟨es, clock, hb, F, hs, hD⟩, h2, h3⟩ := h
  exact ⟨D, ⟨es, clock, e.trans hb, F, hs, hD⟩, h2, h3⟩
theorem MSet.below {W X : World} {b n : Nat} {f : Int → Bool} (h : MSet W b n f) (hB : Below W.heap.size W X) : MSet X b n f := h.kept (hB.block b h.lt)
theorem MSet.at {w0 : Base} {hp : List LB} {r L : List Nat} {w w1 : World} {b n : Nat} {f : Int → Bool} (h : MSet w b n f) (h1 : At w0 hp r L w w1) (hL : b ∉ L) : MSet w1 b n f := h.kept (h1.step b h.lt hL)
theorem MSet.made (w : World) : MSet (w.alloc (.map #[] 0)) w.heap.size 0 (fun _ => false) :=
  ⟨.map [], World.ownsMap_made w _ _ _, Maps.tidy_empty, fun x => ⟨by simp [DataW.atKey], by simp [Maps.has_eq]⟩⟩
theorem MSet.look {W : World} {b n : Nat} {f : Int → Bool} (h : MSet W b n f) (x : Int) (hx : inK .i64 x) :
    (Instr.lookup TMi (.map (some b)) (.int .i64 x) false).run Tryz.prog W = .ok (.int .i64 (if f x = true then 1 else 0)) W := by
  obtain ⟨D, h1, h2, h3⟩ := h
  have hw : (Lit.int .i64 x).wf = true := by simp only [inK] at hx; simp [Lit.wf, IntKind.min, IntKind.max, IntKind.bits, IntKind.signed]; omega
  obtain ⟨c, hrun, hat, _⟩ := h1.lookup_int (t := TMi) (e := TKi) keyI (by kernel_rfl) Tryz.underlying3 (by kernel_rfl) (Maps.keyOf_int_mk Tryz.underlying3 hw)
  rw [(h3 x).1] at hat
  injection hat with hat
  injection hat with _ hat
  rw [hrun, ← hat]
theorem MSet.put {W : World} {b n : Nat} {f : Int → Bool} (h : MSet W b n f) (x : Int) (hx : inK .i64 x) (hn : n < 1000000000) :
    ∃ W', (Instr.mapUpdate TMi (.map (some b)) (.int .i64 x) (.int .i64 1)).run Tryz.prog W = .ok () W' ∧ MSet W' b (n + 1) (fun y => f y || decide (y = x)) ∧ W.grownBy W' (some b) := by
  obtain ⟨D, h1, h2, h3⟩ := h
  have hw : (Lit.int .i64 x).wf = true := by simp only [inK] at hx; simp [Lit.wf, IntKind.min, IntKind.max, IntKind.bits, IntKind.signed]; omega
  have hk := Maps.keyOf_int_mk (P := Tryz.prog) (k := TKi) Tryz.underlying3 hw
  have hkl := keyI.key hk
  obtain ⟨W', hrun, ho, hg⟩ := h1.update (t := TMi) (e := TKi) keyI (by kernel_rfl) (by unfold maxLen; omega) hk (plainElem_int (H := Unit) (a := 1) Tryz.underlying3 (by decide))
  refine ⟨W', hrun, ⟨_, ho, h2.put hkl _, fun y => ?_⟩, hg⟩
  by_cases e : y = x
  · subst e
    rw [Maps.atKey_put_same h2.isMap hkl, Maps.has_put_same h2.isMap hkl]
    simp
  · have hne : (Lit.int .i64 y) ≠ (Lit.int .i64 x) := fun h => e (by injection h)
    rw [Maps.atKey_put_other hne, Maps.has_put_other hne, (h3 y).1, (h3 y).2]
    simp [e]
/-- maps.Keys: an iterator over the map, boxed. -/
theorem keysM_any (b : Nat) (w : World) : Calls Tryz.prog 137 #[.map (some b)] w fun e w' => e = .returned (.func (.func 209) #[] #[.pointer (some ⟨w.heap.size, 0, none⟩)]) ∧ w' = w.alloc (.cells #[.map (some b)] TMi) :=
  (callsIn_wide (n := 5)).1 (AnyZI.keys_in Tryz.keysA Fence.wide 5 trivial rfl (some b) w)
theorem sortsM (m : Nat) : AnyZI.SortsIn Tryz.prog Tryz.sortedA_ren Fence.wide m :=
  ⟨fun blk off cap ss W hH hblk hsz => callsIn_wide.2 (AnyM.slices_Sort_int Tryz.sortA blk off cap ss W hH hblk hsz),
   fun p cap W => callsIn_wide.2 (AnyM.slices_Sort_int_none Tryz.sortA p cap W)⟩
theorem cellsIntM (l : List Int) : cellsL l = l.map (Value.int .i64) := by
  induction l with
  | nil => rfl
  | cons x l ih => simp only [cellsL, ih, List.map_cons]; rfl
/-- slices.Sorted over the keys. -/
theorem sortedM_any {b n B : Nat} {f : Int → Bool} (hn : n ≤ 1000000000) (T : List Int) (hT : T.Pairwise fun x y => x < y) (hm : ∀ x, x ∈ T ↔ f x = true) (w : World) (hM : MSet w b n f) (hB : w.cell? ⟨B, 0, none⟩ = some (.map (some b))) :
    Calls Tryz.prog 136 #[.func (.func 209) #[] #[.pointer (some ⟨B, 0, none⟩)]] w fun e w' => ∃ v, e = .returned v ∧ Own TKi w.heap.size w' v T ∧ Below w.heap.size w w' := by
  obtain ⟨D, h1, h2, h3⟩ := hM
  have hBl : B < w.heap.size := World.block_lt_of_cell? _ _ hB
  have hsz : Maps.size D ≤ n := by
    obtain ⟨es, clock, hb, F, hs, rfl⟩ := h1
    simp only [Maps.size_eq, length_sorted]
    simpa using hs
  have hnd : T.Nodup := List.nodup_iff_pairwise_ne.2 (hT.imp fun h e => by omega)
  have hperm : T.Perm (intKeys D) := CollectedI.perm (left := fun _ => false) ⟨hnd, fun x => by rw [hm x, (h3 x).2]; simp⟩ h1 keyI Tryz.underlying3 (fun _ => rfl)
  have hseq : SeqGives Fence.wide 2 Tryz.prog 209 #[.pointer (some ⟨B, 0, none⟩)] encZ (fun ss => ss.Perm (intKeys D)) (Maps.size D) w :=
    AnyZI.keys_gives (ρ := Tryz.keysA_ren) { Tryz.keysA with } Fence.wide _ trivial rfl (by omega) B b n D w hBl hB h1
  have cS := AnyZI.sorted_in Tryz.sortedA Fence.wide 5 trivial trivial trivial trivial rfl (by omega) (sortsM _) (enters_of Tryz.func208 (by kernel_rfl) rfl) 209 #[.pointer (some ⟨B, 0, none⟩)] trivial (enters_of Tryz.func209 (by kernel_rfl) rfl) _ (Maps.size D) (by unfold maxLen; omega) (by omega) w hseq
  refine ((callsIn_wide (n := 5)).1 cS).mono ?_
  rintro e w' ⟨v, ss, rfl, hS, hrow, hnil, hb⟩
  have hTs : T.mergeSort leI = T := List.mergeSort_of_pairwise (hT.imp fun h => by simp only [leI, decide_eq_true_eq]; omega)
  have hss : ss.mergeSort leI = T := by rw [mergeSort_of_perm_i (hS.trans hperm.symm), hTs]
  refine ⟨v, rfl, ?_, hb⟩
  have hlen : ss.length = T.length := (hS.trans hperm.symm).length_eq
  unfold Own
  rw [cellsIntM, ← hlen]
  have hss' : (ss.mergeSort fun x y => decide (x ≤ y)) = T := hss
  rw [hss'] at hrow
  exact hrow
theorem rising_any {b n : Nat} {f : Int → Bool} (hn : n ≤ 1000000000) (T : List Int) (hT : T.Pairwise fun x y => x < y) (hm : ∀ x, x ∈ T ↔ f x = true) (w : World) (hM : MSet w b n f) :
    Calls Tryz.prog 72 #[.map (some b)] w (Ret w fun v w' => Own TKi w.heap.size w' v T) := by
  refine fun_ret 0 w Tryz.func72 (args := [.val (.map (some b))]) rfl rfl ?_
  refine CallI.mk fun w1 h1 => (keysM_any b w1).mono ?_
  rintro e w2 ⟨rfl, rfl⟩
  have hal : Below w1.heap.size w1 (w1.alloc (.cells #[.map (some b)] TMi)) := (Below.refl _ _).alloc (Nat.le_refl _) _
  refine ⟨KpOk.ok h1 hal, _, rfl, ?_⟩
  have hbox : (w1.alloc (.cells #[.map (some b)] TMi)).heap[w1.heap.size]? = some (.cells #[.map (some b)] TMi (0, 0)) := World.alloc_heap_new w1 _
  have hM1 := (hM.below (at_belowM h1 (by simp))).below hal
  have hw1 : w.heap.size ≤ w1.heap.size := h1.below.size
  have hw2 := hal.size
  generalize w1.alloc (.cells #[.map (some b)] TMi) = w2 at *
  generalize w1.heap.size = B at *
  refine CallI.mk fun w3 h3 => ?_
  have h3B := at_belowM h3 (by simp)
  have hBl : B < w2.heap.size := (Array.getElem?_eq_some_iff.1 hbox).1
  have hc3 : w3.cell? ⟨B, 0, none⟩ = some (.map (some b)) := by
    have : w3.heap[B]? = some (.cells #[.map (some b)] TMi (0, 0)) := (h3B.block B hBl).trans hbox
    simp [World.cell?, this]
  refine (sortedM_any hn T hT hm w3 (hM1.below h3B) hc3).mono ?_
  rintro e w4 ⟨v, rfl, hO, hB4⟩
  refine ⟨KpOk.ok h3 hB4, v, rfl, ?_⟩
  obtain ⟨a4, c4, rfl⟩ := hO.form
  exact EndI.mk fun w9 h9 => (hO.lower (Nat.le_trans hw1 (Nat.le_trans hw2 h3.size))).below (at_belowM h9 (by simp))
end Go.Proofs.YtjbhpfmnfdebkaaGreat

/-
  Rows of truth values that the run makes and writes.
-/
namespace Go.Proofs.YtjbhpfmnfdebkaaGreat
set_option linter.unusedVariables false
set_option linter.unusedSimpArgs false
set_option maxRecDepth 100000
open Go.RowKit Go.Proofs.YtjbhpfmnfdebkaaGreat.Eng Enc

instance encBool : Enc Bool := ⟨fun x => [.bool x], 1, fun _ => rfl, by decide, fun _ v hv => by rw [List.mem_singleton.1 hv]; rfl, fun x => .bool x⟩
abbrev TBo : TypeId := 4
theorem elBo : ElOk Tryz.prog 148 TBo 1 1 := elOk (z := .bool false) Tryz.underlying148 (by kernel_rfl) rfl (by decide)
theorem infoBo : (Tryz.prog.info? TBo).map (fun i => i.zero.map fun v => v.cells.toList) = some (some [Value.bool false]) := by kernel_rfl
theorem elIn : ElOk Tryz.prog 41 TKi 1 8 := elOk (z := .int .i64 0) Tryz.underlying41 (by kernel_rfl) rfl (by decide)
theorem cellsBool (l : List Bool) : cellsL l = l.map Value.bool := by
  induction l with
  | nil => rfl
  | cons x l ih => simp only [cellsL, ih, List.map_cons]; rfl
/-- block g holds a row of truth values. -/
def BRow (W : World) (g : Nat) (l : List Bool) : Prop := ∃ cur : Array Value, W.heap[g]? = some (.cells cur TBo (0, 0)) ∧ ∀ (k : Nat) (x : Bool), l[k]? = some x → cur[k]? = some (.bool x)
theorem BRow.lt {W : World} {g : Nat} {l : List Bool} (h : BRow W g l) : g < W.heap.size := by
  obtain ⟨cur, c, _⟩ := h
  exact (Array.getElem?_eq_some_iff.1 c).1
theorem BRow.kept {W X : World} {g : Nat} {l : List Bool} (h : BRow W g l) (e : X.heap[g]? = W.heap[g]?) : BRow X g l := by
  obtain ⟨cur, c, d⟩ := h
  exact ⟨cur, e.trans c, d⟩
theorem BRow.below {W X : World} {g : Nat} {l : List Bool} (h : BRow W g l) (hB : Below W.heap.size W X) : BRow X g l := h.kept (hB.block _ h.lt)
theorem BRow.at {w0 : Base} {hp : List LB} {r L : List Nat} {w w1 : World} {g : Nat} {l : List Bool} (h : BRow w g l) (h1 : At w0 hp r L w w1) (hL : g ∉ L) : BRow w1 g l := h.kept (h1.step g h.lt hL)
theorem BRow.cell {W : World} {g : Nat} {l : List Bool} (h : BRow W g l) {k : Nat} {x : Bool} (hk : l[k]? = some x) : W.cell? ⟨g, k, none⟩ = some (.bool x) := by
  obtain ⟨cur, c, d⟩ := h
  simp [World.cell?, c, d k x hk]
theorem BRow.frozen {W : World} {g : Nat} {l : List Bool} (h : BRow W g l) (j : Nat) : W.frozen? ⟨g, j, none⟩ = false := by
  obtain ⟨cur, c, _⟩ := h
  simp [World.frozen?, c]
theorem BRow.set {W : World} {g : Nat} {l : List Bool} (h : BRow W g l) {k : Nat} (hk : k < l.length) (x : Bool) : BRow (W.setCell ⟨g, k, none⟩ (.bool x)) g (l.set k x) := by
  obtain ⟨cur, c, d⟩ := h
  have hks : k < cur.size := by
    have := d k _ (List.getElem?_eq_getElem hk)
    exact (Array.getElem?_eq_some_iff.1 this).1
  refine ⟨cur.setIfInBounds k (.bool x), ?_, fun i y hi => ?_⟩
  · simp only [World.setCell]
    rw [Array.getElem?_modify, if_pos rfl, c]
    rfl
  · by_cases hik : i = k
    · subst hik
      rw [List.getElem?_set_self hk] at hi
      injection hi with hi; subst hi
      simp [hks]
    · rw [List.getElem?_set_ne (fun h => hik h.symm)] at hi
      rw [Array.getElem?_setIfInBounds_ne (fun h => hik h.symm)]
      exact d i y hi
theorem BRow.other {W : World} {g q j : Nat} {l : List Bool} {v : Value} (h : BRow W g l) (hne : g ≠ q) : BRow (W.setCell ⟨q, j, none⟩ v) g l := h.kept (setCell_neM hne)
theorem BRow.of {base : Nat} {W : World} {a : Option Addr} {c : Nat} {l : List Bool} (h : Own TBo base W (.slice a l.length c) l) (hn : 0 < l.length) : ∃ g, a = some ⟨g, 0, none⟩ ∧ base ≤ g ∧ l.length ≤ c ∧ c ≤ maxLen ∧ BRow W g l := by
  obtain ⟨hl, ⟨e, h0⟩ | ⟨g, cap, cur, e1, e2, e3, e4, e5, e6, e7⟩⟩ := h
  · omega
  · injection e1 with e1 e1' e1''
    subst e1''
    refine ⟨g, e1, e2, e4, e5, cur, e3, fun k x hk => ?_⟩
    rw [cellsBool] at e7
    have e7' : cur.toList.take l.length = l.map Value.bool := by simpa [Enc.size] using e7
    have h1 : (cur.toList.take l.length)[k]? = some (.bool x) := by rw [e7', List.getElem?_map, hk]; rfl
    rw [List.getElem?_take] at h1
    split at h1
    · rw [← h1, Array.getElem?_toList]
    · cases h1
theorem BRow.sl {W : World} {g c : Nat} {l : List Bool} (h : BRow W g l) (h1 : l.length ≤ c) (h2 : c ≤ maxLen) : Sl W.heap.size W (.slice (some ⟨g, 0, none⟩) l.length c) l := by
  refine ⟨_, _, rfl, h1, h2, (fun e => nomatch e), fun k x hk => ⟨g, 0, rfl, h.lt, fun i c hi => ?_⟩⟩
  have hc := h.cell hk
  match i, hi with
  | 0, hi =>
    injection hi with hi; subst hi
    rw [show 0 + (k * size Bool + 0) = k by show 0 + (k * 1 + 0) = k; omega]
    exact hc
end Go.Proofs.YtjbhpfmnfdebkaaGreat

/-
  The contracts of slices.Equal at bounds and dbm.Same, by the engine.
-/
namespace Go.Proofs.YtjbhpfmnfdebkaaGreat
set_option linter.unusedVariables false
set_option linter.unusedSimpArgs false
set_option maxRecDepth 100000
open Go.RowKit Go.Proofs.YtjbhpfmnfdebkaaGreat.Eng Enc

theorem equalB_any (L M : List Int) (a b : Option Addr) (ca cb : Nat) (w : World) (hA : Sl w.heap.size w (.slice a L.length ca) L) (hB : Sl w.heap.size w (.slice b M.length cb) M) :
    Calls Tryz.prog 206 #[.slice a L.length ca, .slice b M.length cb] w fun e w' => e = .returned (.bool (decide (L = M))) ∧ Below w.heap.size w w' := by
  refine fun_eq 0 w Tryz.func206 (args := [.val (.slice a L.length ca), .val (.slice b M.length cb)]) rfl rfl ?_
  refine Branch.mk (fun hl => ?_) (fun hl => ?_)
  · refine EndI.mk fun w3 h3 => ?_
    have h0 : ¬ (L.length : Int) = M.length := by simpa using hl
    rw [decide_eq_false (fun h => h0 (by rw [h]))]
  have hlen : L.length = M.length := by have : (L.length : Int) = M.length := by simpa using hl
                                        omega
  refine LoopI.invC (α := Nat × World) (fun y => [(13, .val (.int .i64 y.1))]) (fun y => y.2) (fun y => y.1 ≤ L.length ∧ Below w.heap.size w y.2 ∧ ∀ i, i < y.1 → L[i]? = M[i]?) (fun y => L.length - y.1) ?_ ?_
  · intro w1 h1
    exact ⟨(0, w1), Cov.mk (by repeat' (first | exact trivial | refine And.intro rfl ?_)) rfl rfl rfl rfl rfl, rfl, Nat.zero_le _, h1.below, fun i hi => by omega⟩
  rintro ⟨k, W⟩ ⟨hk, hW, hall⟩
  refine Branch.mk (fun hc => ?_) (fun hc => ?_)
  · have hlt : k < L.length := by simpa using hc
    have hgC := List.getElem?_eq_getElem (l := L) (i := k) (by omega)
    have hgM := List.getElem?_eq_getElem (l := M) (i := k) (by omega)
    have hAW := hA.go hW hW.size
    have hBW := hB.go hW hW.size
    refine DrawI.go (.tk 0 (.tk 1 (.tk 2 (.tk 3 (.tk 4 (.tk 5 (.tk 6 (.tk 7 (.tk 8 .done))))))))) (by kernel_rfl) fun w1 h1 => ?_
    have k1 := h1.go
    refine hAW.idx hgC fun ad had => ?_
    refine hAW.ld1 hgC had k1 (by simp) ?_
    refine hBW.idx hgM fun ad had => ?_
    refine hBW.ld1 hgM had k1 (by simp) ?_
    refine Branch.mk (fun hc2 => ?_) (fun hc2 => ?_)
    · have hne : ¬ L[k] = M[k]'(by omega) := by simpa using hc2
      refine EndI.mk fun w4 h4 => ?_
      rw [decide_eq_false]
      intro h
      apply hne
      simp [h]
    · have he : L[k] = M[k]'(by omega) := by simpa using hc2
      obtain ⟨_, _, e0, h1, h2, _⟩ := hA.form
      unfold maxLen at h2
      injection e0 with _ _ e0
      refine Need.mk (by show _ ∧ _; omega) (EndI.mk fun w7 h7 => ⟨(k + 1, w7), Cov.mk (by repeat' (first | exact trivial | refine And.intro rfl ?_)) rfl rfl rfl rfl rfl, rfl, ⟨hlt, h7.below, fun i hi => ?_⟩, by simp only; omega⟩)
      rcases Nat.lt_succ_iff_lt_or_eq.1 hi with h' | h'
      · exact hall i h'
      · rw [h', hgC, hgM, he]
  · have hge : k = L.length := by have : ¬ k < L.length := by simpa using hc
                                  omega
    refine EndI.mk fun w5 h5 => ?_
    rw [decide_eq_true]
    refine List.ext_getElem? fun i => ?_
    rcases Nat.lt_or_ge i k with h | h
    · exact hall i h
    · rw [List.getElem?_eq_none (by omega), List.getElem?_eq_none (by omega)]

theorem same_any (n m : Int) (L M : List Int) (a b : Option Addr) (ca cb : Nat) (w : World) (hA : Sl w.heap.size w (.slice a L.length ca) L) (hB : Sl w.heap.size w (.slice b M.length cb) M) :
    Calls Tryz.prog 134 #[.agg #[.int .i64 n, .slice a L.length ca], .agg #[.int .i64 m, .slice b M.length cb]] w fun e w' => e = .returned (.bool (decide (n = m ∧ L = M))) ∧ Below w.heap.size w w' := by
  refine fun_eq 0 w Tryz.func134 (args := [.agg [.val (.int .i64 n), .val (.slice a L.length ca)], .agg [.val (.int .i64 m), .val (.slice b M.length cb)]]) rfl rfl ?_
  have st := Stay.first (w := w)
  refine NewI.mk fun b1 hb1 => ?_
  refine NewI.mk fun b2 hb2 => ?_
  refine Branch.mk (fun hc => ?_) (fun hc => ?_)
  rotate_left
  · have h0 : ¬ n = m := by simpa using hc
    refine EndI.mk fun w3 h3 => ?_
    simp [h0]
  have h0 : n = m := by simpa using hc
  apply CallI.use1
  focus (exact fun w1 h1 => equalB_any L M a b ca cb w1 (hA.st (st.at h1 (fun x hx => by simp at hx <;> omega))) (hB.st (st.at h1 (fun x hx => by simp at hx <;> omega))))
  intro w1 v1 h1 hB1
  have st := st.next h1 (fun x hx => by simp at hx <;> omega) hB1
  refine EndI.mk fun w3 h3 => ?_
  simp [h0]
end Go.Proofs.YtjbhpfmnfdebkaaGreat

/-
  The contracts of package zone: Check, Has, by the engine.
-/
namespace Go.Proofs.YtjbhpfmnfdebkaaGreat
set_option linter.unusedVariables false
set_option linter.unusedSimpArgs false
set_option maxRecDepth 100000
open Go.RowKit Go.Proofs.YtjbhpfmnfdebkaaGreat.Eng Enc

namespace Zo
def chk (z : Zn) : Int := if Dbm.close 3 (matL z) = (3, matL z, 0) then 0 else 8
theorem chk_eq {z : Zn} : chk z = 0 ↔ Dbm.close 3 (matL z) = (3, matL z, 0) := by unfold chk; split <;> simp_all
def has (z : Zn) (p : Pt) : Bool × Int := if chk z = 0 ∧ p.t.ok = true ∧ p.u.ok = true then Dbm.keeps 3 (matL z) [p.t, p.u] else (false, 8)
end Zo

theorem zcheck_any (z : Zn) (w : World) :
    Calls Tryz.prog 70 #[.agg #[.int .i64 z.a, .int .i64 z.b, .int .i64 z.c, .int .i64 z.d, .int .i64 z.e, .int .i64 z.f]] w fun e w' => e = .returned (.int .i64 (Zo.chk z)) ∧ Below w.heap.size w w' := by
  refine fun_eq 0 w Tryz.func70 (args := [.agg [.val (.int .i64 z.a), .val (.int .i64 z.b), .val (.int .i64 z.c), .val (.int .i64 z.d), .val (.int .i64 z.e), .val (.int .i64 z.f)]]) rfl rfl ?_
  have st := Stay.first (w := w)
  refine NewI.mk fun b1 hb1 => ?_
  apply CallI.use
  focus (exact fun w1 h1 => zmatrix_any z w1)
  rintro v w1 v1 h1 hB1 ⟨a1, c1, rfl, hF1⟩
  have st := st.next h1 (fun x hx => by simp at hx <;> omega) hB1
  refine NewI.mk fun b2 hb2 => ?_
  have hcl := fun (w : World) (h : Sl w.heap.size w (.slice a1 (Zo.matL z).length c1) (Zo.matL z)) => close_any 3 a1 c1 (Zo.matL z) w h
  unfold Zo.chk
  generalize hD : Dbm.close 3 (Zo.matL z) = D at hcl
  obtain ⟨n, C, e⟩ := D
  apply CallI.use
  focus (exact fun w2 h2 => hcl w2 (hF1.sl.st (st.at h2 (fun x hx => by simp at hx <;> omega))))
  rintro v w2 v2 h2 hB2 ⟨a2, c2, rfl, hF2⟩
  have st := st.next h2 (fun x hx => by simp at hx <;> omega) hB2
  refine NewI.mk fun b3 hb3 => ?_
  refine Branch.mk (fun hc => ?_) (fun hc => ?_)
  · have he : ¬ e = 0 := by simpa using hc
    refine EndI.mk fun w3 h3 => ?_
    rw [if_neg (by simp [he])]
  have he : e = 0 := by simpa using hc
  apply CallI.use1
  focus (exact fun w3 h3 => same_any n 3 C (Zo.matL z) a2 a1 c2 c1 w3 (hF2.sl.st (st.at h3 (fun x hx => by simp at hx <;> omega))) (hF1.sl.st (st.at h3 (fun x hx => by simp at hx <;> omega))))
  intro w3 v3 h3 hB3
  have st := st.next h3 (fun x hx => by simp at hx <;> omega) hB3
  refine Branch.mk (fun hc => ?_) (fun hc => ?_)
  · have h0 : ¬ (n = 3 ∧ C = Zo.matL z) := fun h => by rw [h.1, h.2] at hc; simp at hc
    refine EndI.mk fun w3 h3 => ?_
    rw [if_neg (fun h => h0 ⟨(Prod.mk.inj h).1, (Prod.mk.inj (Prod.mk.inj h).2).1⟩)]
  · have h0 : n = 3 ∧ C = Zo.matL z := by simpa using hc
    refine EndI.mk fun w3 h3 => ?_
    rw [if_pos (by rw [h0.1, h0.2, he])]

theorem zhas_any (z : Zn) (p : Pt) (hp : p.ins) (w : World) :
    Calls Tryz.prog 63 #[.agg #[.int .i64 z.a, .int .i64 z.b, .int .i64 z.c, .int .i64 z.d, .int .i64 z.e, .int .i64 z.f], .agg #[.int .i64 p.t.num, .int .i64 p.t.den, .int .i64 p.u.num, .int .i64 p.u.den]] w (Ret w fun v w' => v = .tuple #[.bool (Zo.has z p).1, .int .i64 (Zo.has z p).2]) := by
  refine fun_ret 0 w Tryz.func63 (args := [.agg [.val (.int .i64 z.a), .val (.int .i64 z.b), .val (.int .i64 z.c), .val (.int .i64 z.d), .val (.int .i64 z.e), .val (.int .i64 z.f)], .agg [.val (.int .i64 p.t.num), .val (.int .i64 p.t.den), .val (.int .i64 p.u.num), .val (.int .i64 p.u.den)]]) rfl rfl ?_
  have st := Stay.first (w := w)
  refine NewI.mk fun b1 hb1 => ?_
  refine NewI.mk fun b2 hb2 => ?_
  unfold Zo.has
  apply CallI.use1
  focus (exact fun w1 h1 => zcheck_any z w1)
  intro w1 v1 h1 hB1
  have st := st.next h1 (fun x hx => by simp at hx <;> omega) hB1
  refine Branch.mk (fun hc => ?_) (fun hc => ?_)
  · have h0 : ¬ Zo.chk z = 0 := by simpa using hc
    rw [if_neg (fun h => h0 h.1)]
    exact EndI.mk fun w3 h3 => rfl
  have h0 : Zo.chk z = 0 := by simpa using hc
  apply CallI.use1
  focus (exact fun w2 h2 => rcheck_any p.t.num p.t.den hp.1.1 hp.1.2 w2)
  intro w2 v2 h2 hB2
  have st := st.next h2 (fun x hx => by simp at hx <;> omega) hB2
  refine Branch.mk (fun hc => ?_) (fun hc => ?_)
  · have h1 : ¬ Fr.chk p.t.num p.t.den = 0 := by simpa using hc
    rw [if_neg (fun h => h1 (Fr.chk_yes h.2.1))]
    exact EndI.mk fun w3 h3 => rfl
  have h1 : Fr.chk p.t.num p.t.den = 0 := by simpa using hc
  apply CallI.use1
  focus (exact fun w3 h3 => rcheck_any p.u.num p.u.den hp.2.1 hp.2.2 w3)
  intro w3 v3 h3 hB3
  have st := st.next h3 (fun x hx => by simp at hx <;> omega) hB3
  refine Branch.mk (fun hc => ?_) (fun hc => ?_)
  · have h2 : ¬ Fr.chk p.u.num p.u.den = 0 := by simpa using hc
    rw [if_neg (fun h => h2 (Fr.chk_yes h.2.2))]
    exact EndI.mk fun w3 h3 => rfl
  have h2 : Fr.chk p.u.num p.u.den = 0 := by simpa using hc
  rw [if_pos ⟨h0, Fr.chk_eq.1 h1, Fr.chk_eq.1 h2⟩]
  refine DrawI.go (.tk 0 (.tk 2 (.tk 3 (.tk 4 (.tk 5 (.two 1 (.ev 6 (.ev 7 (.tk 8 (.tk 9 (.tk 10 (.tk 11 .done)))))) 6 (.ev 1 (.ev 7 (.tk 8 (.tk 9 (.tk 10 (.tk 11 .done)))))))))))) (by kernel_rfl) fun w7 h7 => ?_
  have st := st.at h7 (fun x hx => by simp at hx <;> omega)
  have hT : ∀ x ∈ [p.t, p.u], x.ins := fun x hx => by
    rcases List.mem_cons.1 hx with rfl | hx
    · exact hp.1
    · rw [List.mem_singleton.1 hx]; exact hp.2
  refine Both.mk ?_ ?_
  · skip
    apply CallI.use
    focus (exact fun w4 h4 => zmatrix_any z w4)
    rintro v w4 v4 h4 hB4 ⟨a1, c1, rfl, hF1⟩
    have st := st.next h4 (fun x hx => by simp at hx <;> omega) hB4
    refine NewI.mk fun b3 hb3 => ?_
    apply CallI.use
    focus (exact fun w5 h5 => dkeeps_any 3 a1 c1 (Zo.matL z) [p.t, p.u] _ 2 w5 hT (hF1.sl.st (st.at h5 (fun x hx => by simp at hx <;> omega))) (Sl.own (l := [p.t, p.u]) h5 2 rfl rfl rfl (Nat.le_refl _) (by simp [maxLen])))
    rintro v w5 v5 h5 hB5 rfl
    have st := st.next h5 (fun x hx => by simp at hx <;> omega) hB5
    exact EndI.mk fun w9 h9 => rfl
  · refine NewI.mk fun b3 hb3 => ?_
    apply CallI.use
    focus (exact fun w4 h4 => zmatrix_any z w4)
    rintro v w4 v4 h4 hB4 ⟨a1, c1, rfl, hF1⟩
    have st := st.next h4 (fun x hx => by simp at hx <;> omega) hB4
    apply CallI.use
    focus (exact fun w5 h5 => dkeeps_any 3 a1 c1 (Zo.matL z) [p.t, p.u] _ 2 w5 hT (hF1.sl.st (st.at h5 (fun x hx => by simp at hx <;> omega))) (Sl.own (l := [p.t, p.u]) h5 2 rfl rfl rfl (Nat.le_refl _) (by simp [maxLen])))
    rintro v w5 v5 h5 hB5 rfl
    have st := st.next h5 (fun x hx => by simp at hx <;> omega) hB5
    exact EndI.mk fun w9 h9 => rfl
end Go.Proofs.YtjbhpfmnfdebkaaGreat

/-
  The contracts of package zone: told, Of, Make, by the engine.
-/
namespace Go.Proofs.YtjbhpfmnfdebkaaGreat
set_option linter.unusedVariables false
set_option linter.unusedSimpArgs false
set_option maxRecDepth 100000
open Go.RowKit Go.Proofs.YtjbhpfmnfdebkaaGreat.Eng Enc

namespace Zo
def nought : Zn := ⟨0, 0, 0, 0, 0, 0⟩
def ofL (L : List Int) : Zn := ⟨L[3]?.getD 0, L[1]?.getD 0, L[6]?.getD 0, L[2]?.getD 0, L[7]?.getD 0, L[5]?.getD 0⟩
def told (L : List Int) : Zn × Int := if Dbm.chk 3 L = 0 then (ofL L, 0) else (nought, 8)
def of (n : Int) (L : List Int) : Zn × Int :=
  if Dbm.chk n L = 0 then (if n = 3 then (if (Dbm.close 3 L).2.2 = 0 then told (Dbm.close 3 L).2.1 else (nought, (Dbm.close 3 L).2.2)) else (nought, 40)) else (nought, 8)
end Zo

namespace Zo
/-- a span's two bounds. -/
def btw (s : Sp) : Int × List Int × Int := Tg.between 2 (Dbm.topL 2) 1 s
def outL (t u d : Sp) : List Int :=
  (((((((Dbm.topL 3).set 1 ((btw t).2.1[1]?.getD 0)).set 3 ((btw t).2.1[2]?.getD 0)).set 2 ((btw u).2.1[1]?.getD 0)).set 6 ((btw u).2.1[2]?.getD 0)).set 5 ((btw d).2.1[1]?.getD 0)).set 7 ((btw d).2.1[2]?.getD 0))
def make (t u d : Sp) : Zn × Int :=
  if 8 ∈ [(btw d).2.2, (btw u).2.2, (btw t).2.2] then (nought, 8) else
  if 6 ∈ [(btw d).2.2, (btw u).2.2, (btw t).2.2] then (nought, 6) else of 3 (outL t u d)
theorem top2 : Dbm.top 2 = (2, Dbm.topL 2, 0) := rfl
end Zo

theorem btw_any (s : Sp) (hs : s.ins) (a : Option Addr) (cap : Nat) (w : World) (hS : Sl w.heap.size w (.slice a (Dbm.topL 2).length cap) (Dbm.topL 2)) :
    Calls Tryz.prog 86 #[.agg #[.int .i64 2, .slice a (Dbm.topL 2).length cap], .int .i64 1, .agg #[.int .i64 s.lo, .bool s.ls, .int .i64 s.hi, .bool s.hs, .bool s.op]] w (Ret w fun v w' => ∃ a' cap', v = .tuple #[.agg #[.int .i64 (Zo.btw s).1, .slice a' (Zo.btw s).2.1.length cap'], .int .i64 (Zo.btw s).2.2] ∧ Fresh TB w.heap.size w' (.slice a' (Zo.btw s).2.1.length cap') (Zo.btw s).2.1) := between_any 2 a cap (Dbm.topL 2) 1 s hs w hS

theorem RowAt.other {T : TypeId} {W : World} {g g2 j : Nat} {v : Value} {L : List Int} (h : RowAt T W g2 L) (hne : g2 ≠ g) : RowAt T (W.setCell ⟨g, j, none⟩ v) g2 L :=
  h.kept (Below.heap_setCell _ _ _ _ hne)
theorem RowAt.sl {T : TypeId} {W : World} {g cap : Nat} {L : List Int} (h : RowAt T W g L) (h1 : L.length ≤ cap) (h2 : cap ≤ maxLen) : Sl W.heap.size W (.slice (some ⟨g, 0, none⟩) L.length cap) L :=
  Fresh.sl (e := T) (base := 0) (.inr ⟨g, cap, rfl, h1, h2, Nat.zero_le _, h⟩)

end Go.Proofs.YtjbhpfmnfdebkaaGreat

/-
  DERIVED: THE SHELF's CONTRACTS AT THIS DUMP, IN PLAIN WORDS (tools/lay-plain.mjs out of 'YtjbhpfmnfdebkaaGreatShelf0.lean', which tools/lay-shelf.mjs wrote): THE SAME DECLARATIONS UNDER THE SAME NAMES: 'import', 'namespace', 'open', 'def', 'theorem' AND NOTHING ELSE: no command of the shelf's: FOR A HAND-IN. Each laying: the table of numbers ('.._ren') and one theorem, a field a fact of the dump's own or the kernel's comparison; each contract: ONE APPLICATION.
-/
namespace Go.Proofs
open Go.Shelf
def Tryz.mul64_ren : Go.Shelf.Ren := ⟨fun | 264 => 264 | n => n, fun | 53 => 245 | 46 => 271 | n => n, fun | n => n⟩
theorem Tryz.mul64 : Go.Proofs.Lays.n264 Tryz.prog Tryz.mul64_ren := {
  mixed := by kernel_rfl
  f264 := Tryz.func264.trans (congrArg some (by kernel_rfl))
  t46 := Tryz.underlying271
  a46 := Tryz.isAgg271
  z46 := Tryz.sizeOf271
  v46 := Tryz.zeroValue271
  t53 := Tryz.underlying245
  a53 := Tryz.isAgg245
  z53 := Tryz.sizeOf245
  v53 := Tryz.zeroValue245 }
end Go.Proofs

/-
  The contracts of package rat that compare: product, compare, Cmp, by the engine.
-/
namespace Go.Proofs.YtjbhpfmnfdebkaaGreat
set_option linter.unusedVariables false
set_option linter.unusedSimpArgs false
set_option maxRecDepth 100000
open Go.RowKit Go.Proofs.YtjbhpfmnfdebkaaGreat.Eng Enc

theorem mul64_any (x y : Nat) (hx : x < 18446744073709551616) (hy : y < 18446744073709551616) (w : World) :
    Calls Tryz.prog 264 #[.int .u64 x, .int .u64 y] w fun e w' => e = .returned (.tuple #[.int .u64 ((x * y / 18446744073709551616 : Nat) : Int), .int .u64 ((x * y % 18446744073709551616 : Nat) : Int)]) ∧ w = w' :=
  (Any.bits_Mul64 Tryz.mul64 x y hx hy w).mono fun e w' ⟨h1, h2⟩ => ⟨h1, h2.symm⟩

theorem tupP {a b c d : Int} (h : a = c) (k : b = d) : Value.tuple #[.int .i64 a, .int .u64 b] = .tuple #[.int .i64 c, .int .u64 d] := by rw [h, k]
theorem sub64_run (x y b : Nat) (hb : b ≤ 1) (w : World) : (callFunc 265 #[.int .u64 x, .int .u64 y, .int .u64 b]).run Tryz.prog w = .ok (.value (.tuple #[.int .u64 (((x + 18446744073709551616 - y - b) % 18446744073709551616 : Nat) : Int), .int .u64 ((if x < y + b then 1 else 0 : Nat) : Int)])) w := by
  rw [run_callFunc_extern Tryz.func265 (by kernel_rfl) (by kernel_rfl) (by kernel_rfl) (e := sub64Entry) (by kernel_rfl), run_sub64 x y b hb]; rfl

theorem product_any (a b : Int) (ha : inK .i64 a) (hb : inK .i64 b) (w : World) :
    Calls Tryz.prog 224 #[.int .i64 a, .int .i64 b] w fun e w' => e = .returned (.tuple #[.int .i64 (a * b / 18446744073709551616), .int .u64 (a * b % 18446744073709551616)]) ∧ Below w.heap.size w w' := by
  refine fun_eqW 0 w Tryz.func224 (args := [.val (.int .i64 a), .val (.int .i64 b)]) rfl rfl ?_
  simp only [inK] at ha hb
  (first
    | (refine CallI.to1 (size_any a ha) fun w2 => ?_)
    | (refine Branch.yes rfl ?_)
    | (refine Branch.no rfl ?_)
    | (refine Branch.mk (fun hb => ?_) (fun hb => ?_))
    | (refine NewI.mk fun nb hnb => ?_)
    | (refine Need.mk (by show _ ∧ _; omega) ?_)
    | (refine Need.mk (by omega) ?_)
    | (refine Need.mk ?_ ?_)
    | (refine EndI.mk fun w1 h1 => ?_))
  (first
    | (refine CallI.to1 (size_any b hb) fun w2 => ?_)
    | (refine Branch.yes rfl ?_)
    | (refine Branch.no rfl ?_)
    | (refine Branch.mk (fun hb => ?_) (fun hb => ?_))
    | (refine NewI.mk fun nb hnb => ?_)
    | (refine Need.mk (by show _ ∧ _; omega) ?_)
    | (refine Need.mk (by omega) ?_)
    | (refine Need.mk ?_ ?_)
    | (refine EndI.mk fun w1 h1 => ?_))
  refine CallI.to0 (mul64_any a.natAbs b.natAbs (by omega) (by omega)) fun w2 => ?_
  have hP : a.natAbs * b.natAbs ≤ 9223372036854775808 * 9223372036854775808 := Nat.mul_le_mul (by omega) (by omega)
  have habs : (a * b).natAbs = a.natAbs * b.natAbs := Int.natAbs_mul a b
  have hneg : a * b < 0 → (a < 0 ↔ ¬ b < 0) := fun h => by
    constructor
    · intro h1 h2
      have := Int.mul_pos_of_neg_of_neg h1 h2; omega
    · intro h1
      rcases Int.lt_or_le a 0 with h2 | h2
      · exact h2
      · have := Int.mul_nonneg h2 (by omega : 0 ≤ b); omega
  have hpos : 0 < a * b → (a < 0 ↔ b < 0) := fun h => by
    rcases Int.lt_or_le a 0 with h1 | h1 <;> rcases Int.lt_or_le b 0 with h2 | h2
    · simp [h1, h2]
    · have := Int.mul_nonpos_of_nonpos_of_nonneg (Int.le_of_lt h1) h2; omega
    · have := Int.mul_nonpos_of_nonneg_of_nonpos h1 (Int.le_of_lt h2); omega
    · omega
  generalize a.natAbs * b.natAbs = Q at *
  generalize a * b = Z at *
  refine Branch.mk (fun hc => ?_) (fun hc => ?_)
  · have hs : ¬ (a < 0 ↔ b < 0) := by simpa using hc
    refine GenN.to (fun w1 => sub64_run 0 (Q % 18446744073709551616) 0 (by decide) w1) fun w3 h3 => ?_
    refine GenN.to (fun w1 => sub64_run 0 (Q / 18446744073709551616) (if 0 < Q % 18446744073709551616 + 0 then 1 else 0) (by split <;> decide) w1) fun w4 h4 => ?_
    refine EndI.mk fun w5 h5 => ?_
    have hZ : Z = -(Q : Int) := by
      rcases Int.lt_or_le 0 Z with h | h
      · exact absurd (hpos h) hs
      · omega
    refine tupP ?_ ?_
    · split <;> omega
    · omega
  · have hs : (a < 0 ↔ b < 0) := by simpa using hc
    have hZ : Z = (Q : Int) := by
      rcases Int.lt_or_le Z 0 with h | h
      · have := hneg h; omega
      · omega
    refine EndI.mk fun w5 h5 => ?_
    refine tupP ?_ ?_
    · omega
    · omega

theorem nanU_any (a : Int) (w : World) : Calls Tryz.prog 310 #[.int .u64 a] w fun e w' => e = .returned (.bool false) ∧ Below w.heap.size w w' := by
  refine fun_eq 0 w Tryz.func310 (args := [.val (.int .u64 a)]) rfl rfl ?_
  repeat' (first
    | (refine Branch.yes rfl ?_)
    | (refine Branch.no rfl ?_)
    | (refine Branch.mk (fun hb => ?_) (fun hb => ?_))
    | (refine NewI.mk fun nb hnb => ?_)
    | (refine Need.mk (by show _ ∧ _; omega) ?_)
    | (refine Need.mk (by omega) ?_)
    | (refine Need.mk ?_ ?_)
    | (refine EndI.mk fun w1 h1 => ?_))
  simp
theorem cmpU_any (a b : Int) (w : World) : Calls Tryz.prog 290 #[.int .u64 a, .int .u64 b] w fun e w' => e = .returned (.int .i64 (cmpI a b)) ∧ Below w.heap.size w w' := by
  refine fun_eq 0 w Tryz.func290 (args := [.val (.int .u64 a), .val (.int .u64 b)]) rfl rfl ?_
  repeat' (first
    | (refine CallI.to1 (nanU_any _) fun w2 => ?_)
    | (refine Branch.yes rfl ?_)
    | (refine Branch.no rfl ?_)
    | (refine Branch.mk (fun hb => ?_) (fun hb => ?_))
    | (refine NewI.mk fun nb hnb => ?_)
    | (refine Need.mk (by show _ ∧ _; omega) ?_)
    | (refine Need.mk (by omega) ?_)
    | (refine Need.mk ?_ ?_)
    | (refine EndI.mk fun w1 h1 => ?_))
  all_goals
    simp only [decide_eq_true_eq, decide_eq_false_iff_not] at *
    simp [cmpI, *]
theorem firstU_any (a b : Int) (fid : FuncId) (caps : Array Value) (en : Enters Tryz.prog fid) (c : Int) (w : World)
    (hcall : ∀ W, Below w.heap.size w W → Calls Tryz.prog fid caps W fun e W' => e = .returned (.int .i64 c) ∧ Below W.heap.size W W') :
    Calls Tryz.prog 262 #[.int .u64 a, .int .u64 b, .func (.func fid) #[] caps] w fun e w' => e = .returned (.int .i64 (if cmpI a b ≠ 0 then cmpI a b else c)) ∧ Below w.heap.size w w' := by
  refine fun_eq 0 w Tryz.func262 (args := [.val (.int .u64 a), .val (.int .u64 b), .val (.func (.func fid) #[] caps)]) rfl rfl ?_
  apply CallI.use1
  · exact fun w1 h1 => cmpU_any a b w1
  intro w1 w2 h1 hB2
  refine Branch.mk (fun hc => ?_) (fun hc => ?_)
  · refine EndI.mk fun w3 h3 => ?_
    rw [if_pos (by simpa using hc)]
  refine Need.mk en ?_
  apply CallI.use1
  · exact fun w3 h3 => hcall w3 h3.below
  intro w3 w4 h3 hB4
  refine EndI.mk fun w3 h3 => ?_
  rw [if_neg (by simpa using hc)]
theorem zero_any (w : World) : Calls Tryz.prog 263 #[] w fun e w' => e = .returned (.int .i64 0) ∧ Below w.heap.size w w' := by
  refine fun_eq 0 w Tryz.func263 (args := []) rfl rfl ?_
  repeat' (first
    | (refine Branch.yes rfl ?_)
    | (refine Branch.no rfl ?_)
    | (refine Branch.mk (fun hb => ?_) (fun hb => ?_))
    | (refine NewI.mk fun nb hnb => ?_)
    | (refine Need.mk (by show _ ∧ _; omega) ?_)
    | (refine Need.mk (by omega) ?_)
    | (refine Need.mk ?_ ?_)
    | (refine EndI.mk fun w1 h1 => ?_))
  rfl
theorem compare1_any (p q : Nat) (l m : Int) (w : World) (hp : w.cell? ⟨p, 0, none⟩ = some (.int .u64 l)) (hq : w.cell? ⟨q, 0, none⟩ = some (.int .u64 m)) :
    Calls Tryz.prog 261 #[.pointer (some ⟨p, 0, none⟩), .pointer (some ⟨q, 0, none⟩)] w fun e w' => e = .returned (.int .i64 (cmpI l m)) ∧ Below w.heap.size w w' := by
  refine fun_eq 0 w Tryz.func261 (args := [.val (.pointer (some ⟨p, 0, none⟩)), .val (.pointer (some ⟨q, 0, none⟩))]) rfl rfl ?_
  refine LoadI.mk ⟨_, ⟨hp, by simp⟩, ?_⟩
  refine LoadI.mk ⟨_, ⟨hq, by simp⟩, ?_⟩
  apply CallI.use1
  · exact fun w1 h1 => firstU_any l m 263 #[] Tryz.call263 0 w1 fun W _ => zero_any W
  intro w1 w2 h1 hB2
  refine EndI.mk fun w3 h3 => ?_
  split
  · rfl
  · rename_i h
    rw [Decidable.not_not] at h
    rw [h]
theorem cmp_words (P Q : Int) : (if cmpI (P / 18446744073709551616) (Q / 18446744073709551616) ≠ 0 then cmpI (P / 18446744073709551616) (Q / 18446744073709551616) else cmpI (P % 18446744073709551616) (Q % 18446744073709551616)) = cmpI P Q := by
  have e1 := Int.mul_ediv_add_emod P 18446744073709551616
  have e2 := Int.mul_ediv_add_emod Q 18446744073709551616
  have h1 := Int.emod_nonneg P (b := 18446744073709551616) (by decide)
  have h2 := Int.emod_lt_of_pos P (b := 18446744073709551616) (by decide)
  have h3 := Int.emod_nonneg Q (b := 18446744073709551616) (by decide)
  have h4 := Int.emod_lt_of_pos Q (b := 18446744073709551616) (by decide)
  generalize P / 18446744073709551616 = p at *
  generalize Q / 18446744073709551616 = q at *
  generalize P % 18446744073709551616 = r at *
  generalize Q % 18446744073709551616 = s at *
  subst e1; subst e2
  have lt : ∀ {x y : Int}, x < y → cmpI x y = -1 := fun h => if_pos h
  have gt : ∀ {x y : Int}, y < x → cmpI x y = 1 := fun h => by unfold cmpI; rw [if_neg (by omega), if_pos h]
  have eq : ∀ x : Int, cmpI x x = 0 := fun x => by unfold cmpI; rw [if_neg (by omega), if_neg (by omega)]
  rcases Int.lt_trichotomy p q with h | h | h
  · rw [lt h, if_pos (by decide), lt (by omega)]
  · subst h
    rw [eq p, if_neg (by decide)]
    rcases Int.lt_trichotomy r s with h | h | h
    · rw [lt h, lt (by omega)]
    · subst h; rw [eq, eq]
    · rw [gt h, gt (by omega)]
  · rw [gt h, if_pos (by decide), gt (by omega)]
theorem compare_any (a b : Rt) (ha : a.ins) (hb : b.ins) (w : World) :
    Calls Tryz.prog 220 #[.agg #[.int .i64 a.num, .int .i64 a.den], .agg #[.int .i64 b.num, .int .i64 b.den]] w fun e w' => e = .returned (.int .i64 (Fr.cmpR a b)) ∧ Below w.heap.size w w' := by
  refine fun_eq 0 w Tryz.func220 (args := [.agg [.val (.int .i64 a.num), .val (.int .i64 a.den)], .agg [.val (.int .i64 b.num), .val (.int .i64 b.den)]]) rfl rfl ?_
  refine NewI.mk fun b1 hb1 => ?_
  refine NewI.mk fun b2 hb2 => ?_
  (first
    | (apply CallI.use1; (focus (exact fun w1 h1 => product_any a.num b.den ha.1 hb.2 w1)); intro w1 w2 h1 hB)
    | (refine Branch.yes rfl ?_)
    | (refine Branch.no rfl ?_)
    | (refine Branch.mk (fun hb => ?_) (fun hb => ?_))
    | (refine NewI.mk fun nb hnb => ?_)
    | (refine Need.mk (by show _ ∧ _; omega) ?_)
    | (refine Need.mk (by omega) ?_)
    | (refine Need.mk ?_ ?_)
    | (refine EndI.mk fun w1 h1 => ?_))
  refine NewI.mk fun b3 hb3 => ?_
  apply CallI.use1
  · exact fun w3 h3 => product_any b.num a.den hb.1 ha.2 w3
  intro w3 w4 h3 hB4
  refine NewI.mk fun b4 hb4 => ?_
  apply CallI.use1
  · exact fun w5 h5 => first_any _ _ 261 #[.pointer (some ⟨b3, 0, none⟩), .pointer (some ⟨b4, 0, none⟩)] Tryz.call261 (cmpI (a.num * b.den % 18446744073709551616) (b.num * a.den % 18446744073709551616)) w5 fun W hW =>
      compare1_any b3 b4 _ _ W ((hW.cell (p := ⟨b3, 0, none⟩) (h5.lt b3 (by simp))).trans (h5.own (i := 2) (o := 0) rfl rfl rfl)) ((hW.cell (p := ⟨b4, 0, none⟩) (h5.lt b4 (by simp))).trans (h5.own (i := 3) (o := 0) rfl rfl rfl))
  intro w5 w6 h5 hB6
  refine EndI.mk fun w7 h7 => ?_
  rw [cmp_words]; rfl
theorem two_all (a b : Rt) : (if [a, b].all Rt.ok = true then (0 : Int) else 8) = if a.ok = true ∧ b.ok = true then 0 else 8 := by simp
theorem rcmp_any (a b : Rt) (ha : a.ins) (hb : b.ins) (w : World) :
    Calls Tryz.prog 153 #[.agg #[.int .i64 a.num, .int .i64 a.den], .agg #[.int .i64 b.num, .int .i64 b.den]] w fun e w' => e = .returned (.tuple #[.int .i64 (Fr.cmp a b).1, .int .i64 (Fr.cmp a b).2]) ∧ Below w.heap.size w w' := by
  refine fun_eq 0 w Tryz.func153 (args := [.agg [.val (.int .i64 a.num), .val (.int .i64 a.den)], .agg [.val (.int .i64 b.num), .val (.int .i64 b.den)]]) rfl rfl ?_
  refine NewI.mk fun b1 hb1 => ?_
  refine NewI.mk fun b2 hb2 => ?_
  refine NewI.mk fun b3 hb3 => ?_
  apply CallI.use1
  · exact fun w1 h1 => rchecked_any [a, b] (by intro y hy; simp at hy; rcases hy with rfl | rfl <;> assumption) _ _ w1 (Sl.own (l := [a, b]) h1 2 rfl rfl rfl (Nat.le_refl _) (by simp [maxLen]))
  intro w1 w2 h1 hB2
  rw [two_all]
  refine Branch.mk (fun hc => ?_) (fun hc => ?_)
  · refine EndI.mk fun w3 h3 => ?_
    have hno : ¬ (a.ok = true ∧ b.ok = true) := fun h => by rw [if_pos h] at hc; cases hc
    rw [Fr.cmp, if_neg hno, if_neg hno]
  have hok : a.ok = true ∧ b.ok = true := by
    by_cases h : a.ok = true ∧ b.ok = true
    · exact h
    · rw [if_neg h] at hc; cases hc
  apply CallI.use1
  · exact fun w3 h3 => compare_any a b ha hb w3
  intro w3 w4 h3 hB4
  refine EndI.mk fun w5 h5 => ?_
  rw [Fr.cmp, if_pos hok]
end Go.Proofs.YtjbhpfmnfdebkaaGreat

/-
  The contracts of package rat that make fractions: low, Of, sum, Add, by the engine.
-/
namespace Go.Proofs.YtjbhpfmnfdebkaaGreat
set_option linter.unusedVariables false
set_option linter.unusedSimpArgs false
set_option maxRecDepth 100000
open Go.RowKit Go.Proofs.YtjbhpfmnfdebkaaGreat.Eng Enc

theorem div_in {n g : Int} (hn : inK .i64 n) (hg : 1 ≤ g) : inK .i64 (n / g) := Fr.ediv_in hg hn
theorem gcdI_any (x y : Int) (a b : Nat) (hx : x = a) (hy : y = b) (ha : a < 18446744073709551616) (hb : b < 18446744073709551616) (w : World) :
    Calls Tryz.prog 204 #[.int .u64 x, .int .u64 y] w fun e w' => e = .returned (.int .u64 (Nat.gcd a b)) ∧ Below w.heap.size w w' := by
  subst hx; subst hy; exact gcd_any a b ha hb w
theorem low_any (n d : Int) (hd : 1 ≤ d) (hn : inK .i64 n) (hd2 : inK .i64 d) (w : World) :
    Calls Tryz.prog 132 #[.int .i64 n, .int .i64 d] w fun e w' => e = .returned (.tuple #[.agg #[.int .i64 (Fr.low n d).1.num, .int .i64 (Fr.low n d).1.den], .int .i64 (Fr.low n d).2]) ∧ Below w.heap.size w w' := by
  refine fun_eq 0 w Tryz.func132 (args := [.val (.int .i64 n), .val (.int .i64 d)]) rfl rfl ?_
  have hn' := hn
  have hd' := hd2
  simp only [inK] at hn' hd'
  refine NewI.mk fun b1 hb1 => ?_
  (first
    | (refine CallI.to1 (size_any n hn) fun w2 => ?_)
    | (refine Branch.yes rfl ?_)
    | (refine Branch.no rfl ?_)
    | (refine Branch.mk (fun hb => ?_) (fun hb => ?_))
    | (refine NewI.mk fun nb hnb => ?_)
    | (refine Need.mk (by show _ ∧ _; omega) ?_)
    | (refine Need.mk (by omega) ?_)
    | (refine Need.mk ?_ ?_)
    | (refine EndI.mk fun w1 h1 => ?_))
  obtain ⟨D, rfl⟩ : ∃ D : Nat, d = D := ⟨d.toNat, by omega⟩
  (first
    | (refine CallI.to1 (gcdI_any _ _ n.natAbs D rfl (by omega) (by omega) (by omega)) fun w2 => ?_)
    | (refine Branch.yes rfl ?_)
    | (refine Branch.no rfl ?_)
    | (refine Branch.mk (fun hb => ?_) (fun hb => ?_))
    | (refine NewI.mk fun nb hnb => ?_)
    | (refine Need.mk (by show _ ∧ _; omega) ?_)
    | (refine Need.mk (by omega) ?_)
    | (refine Need.mk ?_ ?_)
    | (refine EndI.mk fun w1 h1 => ?_))
  have hgD : (Nat.gcd n.natAbs D : Int) ∣ (D : Int) := Int.natCast_dvd_natCast.2 (Nat.gcd_dvd_right ..)
  have hgn : (Nat.gcd n.natAbs D : Int) ∣ n := Int.ofNat_dvd_left.2 (Nat.gcd_dvd_left ..)
  have hg1 : 1 ≤ (Nat.gcd n.natAbs D : Int) := by
    have : 0 < Nat.gcd n.natAbs D := Nat.gcd_pos_of_pos_right _ (by omega)
    omega
  have hgle : (Nat.gcd n.natAbs D : Int) ≤ D := Int.le_of_dvd (by omega) hgD
  have hl : Fr.low n D = if Fr.okB (n / (Nat.gcd n.natAbs D : Int)) ((D : Int) / (Nat.gcd n.natAbs D : Int)) = true then (⟨n / (Nat.gcd n.natAbs D : Int), (D : Int) / (Nat.gcd n.natAbs D : Int)⟩, 0) else (⟨0, 0⟩, 10) := rfl
  rw [hl]
  generalize (Nat.gcd n.natAbs D : Int) = g at *
  have e1 : n.tdiv g = n / g := Int.tdiv_eq_ediv_of_dvd hgn
  have e2 : (D : Int).tdiv g = (D : Int) / g := Int.tdiv_eq_ediv_of_dvd hgD
  conv => whnf
  rw [show (g + 9223372036854775808) % 18446744073709551616 - 9223372036854775808 = g by omega]
  refine DrawI.go (.tk 0 (.tk 1 (.tk 2 (.tk 3 (.tk 4 (.tk 5 (.tk 6 (.ev 7 (.ev 8 .done))))))))) (by kernel_rfl) fun w1 h1 => ?_
  refine Need.mk ⟨by omega, by rw [e1]; exact div_in hn hg1⟩ ?_
  refine Need.mk ⟨by omega, by rw [e2]; exact div_in hd2 hg1⟩ ?_
  rw [e1, e2]
  refine NewI.mk fun b2 hb2 => ?_
  apply CallI.use1
  · exact fun w3 h3 => rcheck_any (n / g) (D / g) (div_in hn hg1) (div_in hd2 hg1) w3
  intro w3 w4 h3 hB4
  refine Branch.mk (fun hc => ?_) (fun hc => ?_)
  · refine EndI.mk fun w5 h5 => ?_
    rw [if_pos (Fr.chk_eq.1 (by simpa using hc))]
  · refine EndI.mk fun w5 h5 => ?_
    rw [if_neg (fun h => by rw [Fr.chk_yes h] at hc; cases hc)]
theorem rof_any (n d : Int) (hn : inK .i64 n) (hd2 : inK .i64 d) (w : World) :
    Calls Tryz.prog 66 #[.int .i64 n, .int .i64 d] w fun e w' => e = .returned (.tuple #[.agg #[.int .i64 (Fr.of n d).1.num, .int .i64 (Fr.of n d).1.den], .int .i64 (Fr.of n d).2]) ∧ Below w.heap.size w w' := by
  refine fun_eq 0 w Tryz.func66 (args := [.val (.int .i64 n), .val (.int .i64 d)]) rfl rfl ?_
  refine NewI.mk fun b1 hb1 => ?_
  unfold Fr.of
  refine Branch.mk (fun hc => ?_) (fun hc => ?_)
  · refine EndI.mk fun w5 h5 => ?_
    rw [if_pos (by simpa using hc)]
  have hd : ¬ d < 1 := by simpa using hc
  rw [if_neg hd]
  (first
    | (refine CallI.to1 (low_any n d (by omega) hn hd2) fun w2 => ?_)
    | (refine Branch.yes rfl ?_)
    | (refine Branch.no rfl ?_)
    | (refine Branch.mk (fun hb => ?_) (fun hb => ?_))
    | (refine NewI.mk fun nb hnb => ?_)
    | (refine Need.mk (by show _ ∧ _; omega) ?_)
    | (refine Need.mk (by omega) ?_)
    | (refine Need.mk ?_ ?_)
    | (refine EndI.mk fun w1 h1 => ?_))
  exact EndI.mk fun w5 h5 => rfl

theorem sum_any (a b : Rt) (k : Int) (ha : a.ok = true) (hb : b.ok = true) (ia : a.ins) (ib : b.ins) (hk : k = 1 ∨ k = 2) (w : World) :
    Calls Tryz.prog 161 #[.agg #[.int .i64 a.num, .int .i64 a.den], .agg #[.int .i64 b.num, .int .i64 b.den], .int .i64 k] w fun e w' => e = .returned (.tuple #[.agg #[.int .i64 (Fr.sum a b k).1.num, .int .i64 (Fr.sum a b k).1.den], .int .i64 (Fr.sum a b k).2]) ∧ Below w.heap.size w w' := by
  refine fun_eqW 0 w Tryz.func161 (args := [.agg [.val (.int .i64 a.num), .val (.int .i64 a.den)], .agg [.val (.int .i64 b.num), .val (.int .i64 b.den)], .val (.int .i64 k)]) rfl rfl ?_
  have oa := Fr.ok_bd ha
  have ob := Fr.ok_bd hb
  have hd := Fr.dn_pos ha hb hk
  obtain ⟨s1, s2, s3, s4, s5, s6, s7, s8⟩ := Fr.sum_bd ha hb hk
  have hfin := Fr.finish_sum ha hb hk
  obtain ⟨hg, _, _, hp, hd1, hd2⟩ := Fr.red (T := Fr.tn a b) (W := Fr.sW a b k) (D := Fr.sDen a b * k) (p := Fr.sPart a b k) (by omega) (by omega) (Fr.sum_split ha hb hk)
  have hk1 : 1 ≤ k := by omega
  refine NewI.mk fun b1 hb1 => ?_
  refine NewI.mk fun b2 hb2 => ?_
  refine NewI.mk fun b3 hb3 => ?_
  apply CallI.use1
  · exact fun w1 h1 => floor_any a.num a.den oa.1 ia.1 ia.2 w1
  intro w1 w2 h1 hB2
  apply CallI.use1
  · exact fun w3 h3 => floor_any b.num b.den ob.1 ib.1 ib.2 w3
  intro w3 w4 h3 hB4
  refine DrawI.go (.tk 0 (.tk 1 (.tk 2 (.tk 3 (.tk 4 (.tk 5 (.tk 6 (.tk 7 (.tk 8 (.tk 9 (.tk 10 (.tk 11 (.tk 12 (.tk 13 .done)))))))))))))) (by kernel_rfl) fun w5 h5 => ?_
  refine Wr.fit (by have := s1; unfold Fr.sWhole at this; omega) ?_
  refine Wr.fit (by omega) ?_
  refine Wr.fit (by omega) ?_
  refine Wr.fit (by omega) ?_
  refine Wr.fit (by have := hd; unfold Fr.sDen at this; omega) ?_
  apply CallI.use1
  · exact fun w3 h3 => floor_any (Fr.sWhole a b) k (by omega) (by simp only [inK]; omega) (by simp only [inK]; omega) w3
  intro w6 w7 h6 hB7
  refine Wr.fit (by have := s4; unfold Fr.sDen at this; omega) ?_
  refine Wr.fit (by have := s5; unfold Fr.sRest2 Fr.sRest Fr.sDen at this; omega) ?_
  refine Wr.fit (by have := hd; unfold Fr.sDen at this; omega) ?_
  apply CallI.use1
  · exact fun w3 h3 => floor_any (Fr.sRest2 a b k) (Fr.sDen a b * k) (by omega) (by simp only [inK]; omega) (by simp only [inK]; omega) w3
  intro w8 w9 h8 hB9
  refine Wr.fit (by have := hd; unfold Fr.sDen at this; omega) ?_
  apply CallI.use1
  · exact fun w3 h3 => gcdI_any _ _ (Fr.sPart a b k).natAbs (Fr.sDen a b * k).natAbs (by show Fr.sPart a b k % 18446744073709551616 = _; omega) (by show Fr.sDen a b * k % 18446744073709551616 = _; omega) (by omega) (by omega) w3
  intro w10 w11 h10 hB11
  conv => whnf
  rw [show (((Nat.gcd (Fr.sPart a b k).natAbs (Fr.sDen a b * k).natAbs : Nat) : Int) + 9223372036854775808) % 18446744073709551616 - 9223372036854775808 = Int.gcd (Fr.sPart a b k) (Fr.sDen a b * k) by
    have hle : (Int.gcd (Fr.sPart a b k) (Fr.sDen a b * k) : Int) ≤ Fr.sDen a b * k := Int.le_of_dvd (by omega) (Int.gcd_dvd_right ..)
    show ((Int.gcd (Fr.sPart a b k) (Fr.sDen a b * k) : Int) + 9223372036854775808) % 18446744073709551616 - 9223372036854775808 = _
    omega]
  have t1 : (Fr.sPart a b k).tdiv (Int.gcd (Fr.sPart a b k) (Fr.sDen a b * k)) = Fr.sPart a b k / (Int.gcd (Fr.sPart a b k) (Fr.sDen a b * k)) := Int.tdiv_eq_ediv_of_dvd (Int.gcd_dvd_left ..)
  have t2 : (a.den * b.den * k).tdiv (Int.gcd (Fr.sPart a b k) (Fr.sDen a b * k)) = Fr.sDen a b * k / (Int.gcd (Fr.sPart a b k) (Fr.sDen a b * k)) := Int.tdiv_eq_ediv_of_dvd (Int.gcd_dvd_right ..)
  refine DrawI.go (.tk 0 (.tk 1 (.tk 2 (.tk 3 (.tk 4 (.tk 5 (.tk 6 (.tk 7 (.tk 8 (.tk 9 .done)))))))))) (by kernel_rfl) fun w12 h12 => ?_
  refine Need.mk ⟨by omega, by show inK .i64 ((Fr.sPart a b k).tdiv _); rw [t1]; simp only [inK]; omega⟩ ?_
  refine Wr.fit (by have := hd; unfold Fr.sDen at this; omega) ?_
  refine Need.mk ⟨by omega, by rw [t2]; simp only [inK]; omega⟩ ?_
  rw [show ((Fr.sRest2 a b k) % (Fr.sDen a b * k)) = Fr.sPart a b k from rfl, t1, t2]
  rw [← hfin]
  have hW : -4611686018427387904 ≤ Fr.sW a b k ∧ Fr.sW a b k ≤ 4611689316962271232 := by unfold Fr.sW; omega
  generalize Fr.sPart a b k / (Int.gcd (Fr.sPart a b k) (Fr.sDen a b * k) : Int) = p at *
  generalize Fr.sDen a b * k / (Int.gcd (Fr.sPart a b k) (Fr.sDen a b * k) : Int) = d at *
  clear t1 t2 hfin
  unfold Fr.finish
  refine Branch.mk (fun hc => ?_) (fun hc => ?_)
  · refine EndI.mk fun w5 h5 => ?_
    rw [if_pos (by simpa using hc)]
  have hd20 : ¬ 1048576 < d := by simpa using hc
  rw [if_neg hd20]
  refine Wr.fit (by have := hW; unfold Fr.sW at this; omega) ?_
  refine CallI.to0 (check_any (Fr.sW a b k)) fun w14 => ?_
  conv => whnf
  rw [show Fr.sWhole a b / k + Fr.sRest2 a b k / (Fr.sDen a b * k) = Fr.sW a b k from rfl]
  generalize Fr.sW a b k = W at *
  refine Branch.mk (fun hc => ?_) (fun hc => ?_)
  · refine EndI.mk fun w5 h5 => ?_
    rw [if_pos (by simpa using hc)]
  have hW0 : Num.chk W = 0 := by simpa using hc
  rw [if_neg (by omega)]
  have hWb : -2305843009213693952 ≤ W ∧ W ≤ 2305843009213693952 := by
    rcases hk : Num.okB W with _ | _
    · rw [Num.chk_no hk] at hW0; cases hW0
    · exact Num.okB_iff.1 hk
  refine Branch.mk (fun hneg => ?_) (fun hneg => ?_)
  · have hn : W < 0 := by simpa using hneg
    refine Wr.fit (by omega) ?_
    refine Wr.fit (by omega) ?_
    have hP : (W + 1) * d + (p - d) = W * d + p := by grind
    have hs : (W + 1) * d ≤ 0 := Int.mul_nonpos_of_nonpos_of_nonneg (by omega) (by omega)
    apply CallI.use1
    · exact fun w3 h3 => product_any (W + 1) d (by simp only [inK]; omega) (by simp only [inK]; omega) w3
    intro w15 w16 h15 hB16
    generalize (W + 1) * d = P at *
    generalize W * d = WD at *
    have hsg : (0 ≤ P ∧ 0 ≤ p - d) ∨ (P ≤ 0 ∧ p - d < 0) := by omega
    have hqb : -1048576 ≤ p - d ∧ p - d ≤ 1048576 := by omega
    generalize p - d = q at *
    rw [← hP]
    refine Wr.mk ?_
    refine Need.mk (by decide) ?_
    conv => whnf
    rw [show (2 : Int) ^ Int.toNat 63 = 9223372036854775808 by decide, show (P % 18446744073709551616 + 9223372036854775808) % 18446744073709551616 - 9223372036854775808 = Fr.il P from rfl]
    refine Branch.mk (fun hc2 => ?_) (fun hc2 => ?_)
    · refine EndI.mk fun w5 h5 => ?_
      rw [if_neg (fun h => by rw [Fr.il_ne (P := P) (by simpa using hc2) (by omega)] at h; cases h)]
    obtain ⟨hil, hPb⟩ := Fr.il_eq (P := P) (by simpa using hc2)
    rw [hil]
    refine Branch.mk (fun hc3 => ?_) (fun hc3 => ?_)
    · refine Branch.mk (fun hc4 => ?_) (fun hc4 => ?_)
      · refine EndI.mk fun w5 h5 => ?_
        rw [if_neg]
        intro h
        simp only [Fr.inI, Bool.and_eq_true, decide_eq_true_eq] at h
        have hc4 : q ≠ 0 := by simpa using hc4
        simp at hc3
        omega
      · have hq0 : q = 0 := by simpa using hc4
        subst hq0
        rw [if_pos (by simp only [Fr.inI, Bool.and_eq_true, decide_eq_true_eq]; omega)]
        rw [show (P + 0 + 9223372036854775808) % 18446744073709551616 - 9223372036854775808 = P + 0 by omega]
        apply CallI.use1
        · exact fun w3 h3 => low_any (P + 0) d (by omega) (by simp only [inK]; omega) (by simp only [inK]; omega) w3
        intro w17 w18 h17 hB18
        exact EndI.mk fun w19 h19 => rfl
    · simp at hc3
      rw [if_pos (by simp only [Fr.inI, Bool.and_eq_true, decide_eq_true_eq]; omega)]
      rw [show (P + q + 9223372036854775808) % 18446744073709551616 - 9223372036854775808 = P + q by omega]
      apply CallI.use1
      · exact fun w3 h3 => low_any (P + q) d (by omega) (by simp only [inK]; omega) (by simp only [inK]; omega) w3
      intro w17 w18 h17 hB18
      exact EndI.mk fun w19 h19 => rfl
  · have hn : 0 ≤ W := by have : ¬ W < 0 := by simpa using hneg
                          omega
    have hs : 0 ≤ W * d := Int.mul_nonneg hn (by omega)
    apply CallI.use1
    · exact fun w3 h3 => product_any W d (by simp only [inK]; omega) (by simp only [inK]; omega) w3
    intro w15 w16 h15 hB16
    have hsg : (0 ≤ W * d ∧ 0 ≤ p) ∨ (W * d ≤ 0 ∧ p < 0) := by omega
    have hpb : -1048576 ≤ p ∧ p ≤ 1048576 := by omega
    generalize W * d = P at *
    refine Wr.mk ?_
    refine Need.mk (by decide) ?_
    conv => whnf
    rw [show (2 : Int) ^ Int.toNat 63 = 9223372036854775808 by decide, show (P % 18446744073709551616 + 9223372036854775808) % 18446744073709551616 - 9223372036854775808 = Fr.il P from rfl]
    refine Branch.mk (fun hc2 => ?_) (fun hc2 => ?_)
    · refine EndI.mk fun w5 h5 => ?_
      rw [if_neg (fun h => by rw [Fr.il_ne (P := P) (by simpa using hc2) (by omega)] at h; cases h)]
    obtain ⟨hil, hPb⟩ := Fr.il_eq (P := P) (by simpa using hc2)
    rw [hil]
    refine Branch.mk (fun hc3 => ?_) (fun hc3 => ?_)
    · refine Branch.mk (fun hc4 => ?_) (fun hc4 => ?_)
      · refine EndI.mk fun w5 h5 => ?_
        rw [if_neg]
        intro h
        simp only [Fr.inI, Bool.and_eq_true, decide_eq_true_eq] at h
        have hc4 : p ≠ 0 := by simpa using hc4
        simp at hc3
        omega
      · have hp0 : p = 0 := by simpa using hc4
        subst hp0
        rw [if_pos (by simp only [Fr.inI, Bool.and_eq_true, decide_eq_true_eq]; omega)]
        rw [show (P + 0 + 9223372036854775808) % 18446744073709551616 - 9223372036854775808 = P + 0 by omega]
        apply CallI.use1
        · exact fun w3 h3 => low_any (P + 0) d (by omega) (by simp only [inK]; omega) (by simp only [inK]; omega) w3
        intro w17 w18 h17 hB18
        exact EndI.mk fun w19 h19 => rfl
    · simp at hc3
      rw [if_pos (by simp only [Fr.inI, Bool.and_eq_true, decide_eq_true_eq]; omega)]
      rw [show (P + p + 9223372036854775808) % 18446744073709551616 - 9223372036854775808 = P + p by omega]
      apply CallI.use1
      · exact fun w3 h3 => low_any (P + p) d (by omega) (by simp only [inK]; omega) (by simp only [inK]; omega) w3
      intro w17 w18 h17 hB18
      exact EndI.mk fun w19 h19 => rfl

theorem radd_any (a b : Rt) (ha : a.ins) (hb : b.ins) (w : World) :
    Calls Tryz.prog 90 #[.agg #[.int .i64 a.num, .int .i64 a.den], .agg #[.int .i64 b.num, .int .i64 b.den]] w fun e w' => e = .returned (.tuple #[.agg #[.int .i64 (Fr.add a b).1.num, .int .i64 (Fr.add a b).1.den], .int .i64 (Fr.add a b).2]) ∧ Below w.heap.size w w' := by
  refine fun_eq 0 w Tryz.func90 (args := [.agg [.val (.int .i64 a.num), .val (.int .i64 a.den)], .agg [.val (.int .i64 b.num), .val (.int .i64 b.den)]]) rfl rfl ?_
  refine NewI.mk fun b1 hb1 => ?_
  refine NewI.mk fun b2 hb2 => ?_
  refine NewI.mk fun b3 hb3 => ?_
  refine NewI.mk fun b4 hb4 => ?_
  apply CallI.use1
  · exact fun w1 h1 => rchecked_any [a, b] (by intro y hy; simp at hy; rcases hy with rfl | rfl <;> assumption) _ _ w1 (Sl.own (l := [a, b]) h1 3 rfl rfl rfl (Nat.le_refl _) (by simp [maxLen]))
  intro w1 w2 h1 hB2
  rw [two_all]
  refine Branch.mk (fun hc => ?_) (fun hc => ?_)
  · refine EndI.mk fun w3 h3 => ?_
    have hno : ¬ (a.ok = true ∧ b.ok = true) := fun h => by rw [if_pos h] at hc; cases hc
    rw [Fr.add, if_neg hno, if_neg hno]
  have hok : a.ok = true ∧ b.ok = true := by
    by_cases h : a.ok = true ∧ b.ok = true
    · exact h
    · rw [if_neg h] at hc; cases hc
  apply CallI.use1
  · exact fun w3 h3 => sum_any a b 1 hok.1 hok.2 ha hb (.inl rfl) w3
  intro w3 w4 h3 hB4
  refine EndI.mk fun w5 h5 => ?_
  rw [Fr.add, if_pos hok]
end Go.Proofs.YtjbhpfmnfdebkaaGreat

/-
  The contracts of package region: numbers and points, by the engine.
-/
namespace Go.Proofs.YtjbhpfmnfdebkaaGreat
set_option linter.unusedVariables false
set_option linter.unusedSimpArgs false
set_option maxRecDepth 100000
open Go.RowKit Go.Proofs.YtjbhpfmnfdebkaaGreat.Eng Enc

theorem rfloor_any (a : Rt) (ha : a.ins) (w : World) :
    Calls Tryz.prog 93 #[.agg #[.int .i64 a.num, .int .i64 a.den]] w fun e w' => e = .returned (.tuple #[.int .i64 (Fr.floor a).1, .bool (Fr.floor a).2.1, .int .i64 (Fr.floor a).2.2]) ∧ Below w.heap.size w w' := by
  refine fun_eq 0 w Tryz.func93 (args := [.agg [.val (.int .i64 a.num), .val (.int .i64 a.den)]]) rfl rfl ?_
  refine NewI.mk fun b1 hb1 => ?_
  (first
    | (refine CallI.to1 (rcheck_any a.num a.den ha.1 ha.2) fun w2 => ?_)
    | (refine Branch.yes rfl ?_)
    | (refine Branch.no rfl ?_)
    | (refine Branch.mk (fun hb => ?_) (fun hb => ?_))
    | (refine NewI.mk fun nb hnb => ?_)
    | (refine Need.mk (by show _ ∧ _; omega) ?_)
    | (refine Need.mk (by omega) ?_)
    | (refine Need.mk ?_ ?_)
    | (refine EndI.mk fun w1 h1 => ?_))
  unfold Fr.floor
  refine Branch.mk (fun hc => ?_) (fun hc => ?_)
  · refine EndI.mk fun w3 h3 => ?_
    have hno : ¬ a.ok = true := fun h => by
      have : Fr.chk a.num a.den = 0 := Fr.chk_yes h
      rw [this] at hc; cases hc
    rw [if_neg hno]
    have : Fr.chk a.num a.den = 8 := Fr.chk_no (by cases h : Fr.okB a.num a.den; rfl; exact absurd h hno)
    rw [this]
  have hok : a.ok = true := Fr.chk_eq.1 (by simpa using hc)
  have oa := Fr.ok_bd hok
  rw [if_pos hok]
  (first
    | (refine CallI.to1 (floor_any a.num a.den oa.1 ha.1 ha.2) fun w2 => ?_)
    | (refine Branch.yes rfl ?_)
    | (refine Branch.no rfl ?_)
    | (refine Branch.mk (fun hb => ?_) (fun hb => ?_))
    | (refine NewI.mk fun nb hnb => ?_)
    | (refine Need.mk (by show _ ∧ _; omega) ?_)
    | (refine Need.mk (by omega) ?_)
    | (refine Need.mk ?_ ?_)
    | (refine EndI.mk fun w1 h1 => ?_))
  exact EndI.mk fun w3 h3 => rfl

theorem fits_any (long : Int) (w : World) : Calls Tryz.prog 87 #[.int .i64 long] w fun e w' => e = .returned (.bool (Rg.fits long)) ∧ Below w.heap.size w w' := by
  refine fun_eq 0 w Tryz.func87 (args := [.val (.int .i64 long)]) rfl rfl ?_
  unfold Rg.fits
  refine Branch.mk (fun hc => ?_) (fun hc => ?_)
  · refine EndI.mk fun w3 h3 => ?_
    have : decide (1 ≤ long) = true := hc
    rw [this]; rfl
  · refine EndI.mk fun w3 h3 => ?_
    have : decide (1 ≤ long) = false := hc
    rw [this]; rfl
theorem sides_any (long : Int) (h : 1 ≤ long ∧ long ≤ 16) (w : World) : Calls Tryz.prog 133 #[.int .i64 long] w fun e w' => e = .returned (.int .i64 (Rg.sides long)) ∧ Below w.heap.size w w' := by
  refine fun_eq 0 w Tryz.func133 (args := [.val (.int .i64 long)]) rfl rfl ?_
  refine Need.mk (by simp only [inK]; omega) ?_
  refine Need.mk (by simp only [inK]; omega) ?_
  exact EndI.mk fun w3 h3 => rfl
theorem many_any (long : Int) (w : World) : Calls Tryz.prog 67 #[.int .i64 long] w fun e w' => e = .returned (.tuple #[.int .i64 (Rg.many long).1, .int .i64 (Rg.many long).2]) ∧ Below w.heap.size w w' := by
  refine fun_eq 0 w Tryz.func67 (args := [.val (.int .i64 long)]) rfl rfl ?_
  (first
    | (refine CallI.to1 (fits_any long) fun w2 => ?_)
    | (refine Branch.yes rfl ?_)
    | (refine Branch.no rfl ?_)
    | (refine Branch.mk (fun hb => ?_) (fun hb => ?_))
    | (refine NewI.mk fun nb hnb => ?_)
    | (refine Need.mk (by show _ ∧ _; omega) ?_)
    | (refine Need.mk (by omega) ?_)
    | (refine Need.mk ?_ ?_)
    | (refine EndI.mk fun w1 h1 => ?_))
  unfold Rg.many
  refine Branch.mk (fun hc => ?_) (fun hc => ?_)
  · refine EndI.mk fun w3 h3 => ?_
    have : Rg.fits long = false := by simpa using hc
    rw [if_neg (by rw [this]; simp)]
  have hf : Rg.fits long = true := by simpa using hc
  have hl := Rg.fits_iff.1 hf
  rw [if_pos hf]
  have hs : 3 ≤ Rg.sides long ∧ Rg.sides long ≤ 33 := by unfold Rg.sides; omega
  (first
    | (refine CallI.to1 (sides_any long hl) fun w2 => ?_)
    | (refine Branch.yes rfl ?_)
    | (refine Branch.no rfl ?_)
    | (refine Branch.mk (fun hb => ?_) (fun hb => ?_))
    | (refine NewI.mk fun nb hnb => ?_)
    | (refine Need.mk (by show _ ∧ _; omega) ?_)
    | (refine Need.mk (by omega) ?_)
    | (refine Need.mk ?_ ?_)
    | (refine EndI.mk fun w1 h1 => ?_))
  refine Need.mk (by simp only [inK]; omega) ?_
  (first
    | (refine CallI.to1 (sides_any long hl) fun w2 => ?_)
    | (refine Branch.yes rfl ?_)
    | (refine Branch.no rfl ?_)
    | (refine Branch.mk (fun hb => ?_) (fun hb => ?_))
    | (refine NewI.mk fun nb hnb => ?_)
    | (refine Need.mk (by show _ ∧ _; omega) ?_)
    | (refine Need.mk (by omega) ?_)
    | (refine Need.mk ?_ ?_)
    | (refine EndI.mk fun w1 h1 => ?_))
  have hm := Fr.mul_bd (u := 3 * Rg.sides long) (v := Rg.sides long) (m := 99) (n := 33) (by omega) (by omega) (by omega) (by omega)
  refine Need.mk (by simp only [inK]; omega) ?_
  exact EndI.mk fun w3 h3 => rfl
theorem place_any (a : Rt) (ha : a.ins) (w : World) :
    Calls Tryz.prog 94 #[.agg #[.int .i64 a.num, .int .i64 a.den]] w fun e w' => e = .returned (.tuple #[.int .i64 (Rg.place a), .agg #[.int .i64 (Rg.part a).num, .int .i64 (Rg.part a).den]]) ∧ Below w.heap.size w w' := by
  refine fun_eq 0 w Tryz.func94 (args := [.agg [.val (.int .i64 a.num), .val (.int .i64 a.den)]]) rfl rfl ?_
  have hb := Rg.floor_bd a
  refine NewI.mk fun b1 hb1 => ?_
  refine NewI.mk fun b2 hb2 => ?_
  (first
    | (refine CallI.to1 (rfloor_any a ha) fun w2 => ?_)
    | (refine Branch.yes rfl ?_)
    | (refine Branch.no rfl ?_)
    | (refine Branch.mk (fun hb => ?_) (fun hb => ?_))
    | (refine NewI.mk fun nb hnb => ?_)
    | (refine Need.mk (by show _ ∧ _; omega) ?_)
    | (refine Need.mk (by omega) ?_)
    | (refine Need.mk ?_ ?_)
    | (refine EndI.mk fun w1 h1 => ?_))
  refine Need.mk (by simp only [inK]; omega) ?_
  (first
    | (refine CallI.to1 (rof_any (-(Fr.floor a).1) 1 (by simp only [inK]; omega) (by simp only [inK]; omega)) fun w2 => ?_)
    | (refine Branch.yes rfl ?_)
    | (refine Branch.no rfl ?_)
    | (refine Branch.mk (fun hb => ?_) (fun hb => ?_))
    | (refine NewI.mk fun nb hnb => ?_)
    | (refine Need.mk (by show _ ∧ _; omega) ?_)
    | (refine Need.mk (by omega) ?_)
    | (refine Need.mk ?_ ?_)
    | (refine EndI.mk fun w1 h1 => ?_))
  refine NewI.mk fun b3 hb3 => ?_
  (first
    | (refine CallI.to1 (radd_any a (Fr.of (-(Fr.floor a).1) 1).1 ha (Fr.of_ins (by simp only [inK]; omega))) fun w2 => ?_)
    | (refine Branch.yes rfl ?_)
    | (refine Branch.no rfl ?_)
    | (refine Branch.mk (fun hb => ?_) (fun hb => ?_))
    | (refine NewI.mk fun nb hnb => ?_)
    | (refine Need.mk (by show _ ∧ _; omega) ?_)
    | (refine Need.mk (by omega) ?_)
    | (refine Need.mk ?_ ?_)
    | (refine EndI.mk fun w1 h1 => ?_))
  refine NewI.mk fun b4 hb4 => ?_
  unfold Rg.place Rg.part
  refine Branch.mk (fun hc => ?_) (fun hc => ?_)
  · rw [if_pos (by simpa using hc)]
    refine DrawI.wr (.tk 0 (.tk 1 (.tk 2 (.tk 3 (.ev 4 .done))))) [1] [] (by kernel_rfl) rfl (by simp) fun w5 h5 => ?_
    refine Need.mk (by simp only [inK]; omega) ?_
    exact EndI.mk fun w3 h3 => rfl
  · rw [if_neg (by simpa using hc)]
    refine DrawI.wr (.tk 0 (.tk 1 (.tk 2 (.tk 3 (.tk 4 (.ev 5 .done)))))) [1] [] (by kernel_rfl) rfl (by simp) fun w5 h5 => ?_
    refine Need.mk (by simp only [inK]; omega) ?_
    refine Need.mk (by simp only [inK]; omega) ?_
    exact EndI.mk fun w3 h3 => rfl
theorem number_any (p : Pt) (long : Int) (hp : p.ins) (hl : 1 ≤ long ∧ long ≤ 16) (w : World) :
    Calls Tryz.prog 85 #[.agg #[.int .i64 p.t.num, .int .i64 p.t.den, .int .i64 p.u.num, .int .i64 p.u.den], .int .i64 long] w fun e w' => e = .returned (.int .i64 (Rg.number p long)) ∧ Below w.heap.size w w' := by
  refine fun_eq 0 w Tryz.func85 (args := [.agg [.val (.int .i64 p.t.num), .val (.int .i64 p.t.den), .val (.int .i64 p.u.num), .val (.int .i64 p.u.den)], .val (.int .i64 long)]) rfl rfl ?_
  refine NewI.mk fun b1 hb1 => ?_
  (first
    | (refine CallI.to1 (place_any p.t hp.1) fun w2 => ?_)
    | (refine Branch.yes rfl ?_)
    | (refine Branch.no rfl ?_)
    | (refine Branch.mk (fun hb => ?_) (fun hb => ?_))
    | (refine NewI.mk fun nb hnb => ?_)
    | (refine Need.mk (by show _ ∧ _; omega) ?_)
    | (refine Need.mk (by omega) ?_)
    | (refine Need.mk ?_ ?_)
    | (refine EndI.mk fun w1 h1 => ?_))
  refine NewI.mk fun b2 hb2 => ?_
  (first
    | (refine CallI.to1 (place_any p.u hp.2) fun w2 => ?_)
    | (refine Branch.yes rfl ?_)
    | (refine Branch.no rfl ?_)
    | (refine Branch.mk (fun hb => ?_) (fun hb => ?_))
    | (refine NewI.mk fun nb hnb => ?_)
    | (refine Need.mk (by show _ ∧ _; omega) ?_)
    | (refine Need.mk (by omega) ?_)
    | (refine Need.mk ?_ ?_)
    | (refine EndI.mk fun w1 h1 => ?_))
  refine NewI.mk fun b3 hb3 => ?_
  (first
    | (refine CallI.to1 (rcmp_any p.t p.u hp.1 hp.2) fun w2 => ?_)
    | (refine Branch.yes rfl ?_)
    | (refine Branch.no rfl ?_)
    | (refine Branch.mk (fun hb => ?_) (fun hb => ?_))
    | (refine NewI.mk fun nb hnb => ?_)
    | (refine Need.mk (by show _ ∧ _; omega) ?_)
    | (refine Need.mk (by omega) ?_)
    | (refine Need.mk ?_ ?_)
    | (refine EndI.mk fun w1 h1 => ?_))
  unfold Rg.number
  refine Branch.mk (fun hc => ?_) (fun hc => ?_)
  · refine EndI.mk fun w3 h3 => ?_
    rw [if_pos (.inl (by simpa using hc))]
  have hcmp : (Fr.cmp p.t p.u).1 < 0 := by have : ¬ 0 ≤ (Fr.cmp p.t p.u).1 := by simpa using hc
                                           omega
  refine Branch.mk (fun hc2 => ?_) (fun hc2 => ?_)
  · refine EndI.mk fun w3 h3 => ?_
    rw [if_pos (.inr (.inl (by simpa using hc2)))]
  have ht : ¬ Rg.place p.t < 0 := by simpa using hc2
  (first
    | (refine CallI.to1 (sides_any long hl) fun w2 => ?_)
    | (refine Branch.yes rfl ?_)
    | (refine Branch.no rfl ?_)
    | (refine Branch.mk (fun hb => ?_) (fun hb => ?_))
    | (refine NewI.mk fun nb hnb => ?_)
    | (refine Need.mk (by show _ ∧ _; omega) ?_)
    | (refine Need.mk (by omega) ?_)
    | (refine Need.mk ?_ ?_)
    | (refine EndI.mk fun w1 h1 => ?_))
  refine Branch.mk (fun hc3 => ?_) (fun hc3 => ?_)
  · refine EndI.mk fun w3 h3 => ?_
    rw [if_pos (.inr (.inr (by simpa using hc3)))]
  have hu : ¬ Rg.sides long ≤ Rg.place p.u := by simpa using hc3
  rw [if_neg (by omega)]
  have hpb := Rg.place_bd hcmp
  have hs : 3 ≤ Rg.sides long ∧ Rg.sides long ≤ 33 := by unfold Rg.sides; omega
  have hm := Fr.mul_bd (u := Rg.place p.t) (v := Rg.sides long) (m := 33) (n := 33) (by omega) (by omega) (by omega) (by omega)
  have hcc := Fr.cmp_cases (Rg.part p.t) (Rg.part p.u)
  unfold Rg.order
  refine Branch.mk (fun hc4 => ?_) (fun hc4 => ?_)
  · have ho : Rg.place p.t % 2 = 1 ∧ Rg.place p.u % 2 = 1 := (i64_and_odd _ _).1 (by simpa using hc4)
    rw [if_pos ho]
    (first
      | (refine CallI.to1 (rcmp_any (Rg.part p.t) (Rg.part p.u) (Rg.part_ins _) (Rg.part_ins _)) fun w2 => ?_)
      | (refine Branch.yes rfl ?_)
      | (refine Branch.no rfl ?_)
      | (refine Branch.mk (fun hb => ?_) (fun hb => ?_))
      | (refine NewI.mk fun nb hnb => ?_)
      | (refine Need.mk (by show _ ∧ _; omega) ?_)
      | (refine Need.mk (by omega) ?_)
      | (refine Need.mk ?_ ?_)
      | (refine EndI.mk fun w1 h1 => ?_))
    refine Need.mk (by simp only [inK]; omega) ?_
    (first
      | (refine CallI.to1 (sides_any long hl) fun w2 => ?_)
      | (refine Branch.yes rfl ?_)
      | (refine Branch.no rfl ?_)
      | (refine Branch.mk (fun hb => ?_) (fun hb => ?_))
      | (refine NewI.mk fun nb hnb => ?_)
      | (refine Need.mk (by show _ ∧ _; omega) ?_)
      | (refine Need.mk (by omega) ?_)
      | (refine Need.mk ?_ ?_)
      | (refine EndI.mk fun w1 h1 => ?_))
    refine Need.mk (by simp only [inK]; omega) ?_
    refine Need.mk (by simp only [inK]; omega) ?_
    refine Need.mk (by simp only [inK]; omega) ?_
    refine Need.mk (by simp only [inK]; omega) ?_
    exact EndI.mk fun w3 h3 => rfl
  · have ho : ¬ (Rg.place p.t % 2 = 1 ∧ Rg.place p.u % 2 = 1) := fun h => by
      have := (i64_and_odd _ _).2 h
      have h2 : ¬ bits .and .i64 (bits .and .i64 (Rg.place p.t) (Rg.place p.u)) 1 = 1 := by simpa using hc4
      exact h2 this
    rw [if_neg ho]
    (first
      | (refine CallI.to1 (sides_any long hl) fun w2 => ?_)
      | (refine Branch.yes rfl ?_)
      | (refine Branch.no rfl ?_)
      | (refine Branch.mk (fun hb => ?_) (fun hb => ?_))
      | (refine NewI.mk fun nb hnb => ?_)
      | (refine Need.mk (by show _ ∧ _; omega) ?_)
      | (refine Need.mk (by omega) ?_)
      | (refine Need.mk ?_ ?_)
      | (refine EndI.mk fun w1 h1 => ?_))
    refine Need.mk (by simp only [inK]; omega) ?_
    refine Need.mk (by simp only [inK]; omega) ?_
    refine Need.mk (by simp only [inK]; omega) ?_
    refine Need.mk (by simp only [inK]; omega) ?_
    exact EndI.mk fun w3 h3 => rfl
theorem time_any (pl pa of_ : Int) (h : 0 ≤ pl ∧ pl ≤ 1000) (hp : 0 ≤ pa ∧ pa ≤ 10) (ho : 1 ≤ of_ ∧ of_ ≤ 10) (w : World) :
    Calls Tryz.prog 135 #[.int .i64 pl, .int .i64 pa, .int .i64 of_] w fun e w' => e = .returned (.agg #[.int .i64 (Rg.time pl pa of_).num, .int .i64 (Rg.time pl pa of_).den]) ∧ Below w.heap.size w w' := by
  refine fun_eq 0 w Tryz.func135 (args := [.val (.int .i64 pl), .val (.int .i64 pa), .val (.int .i64 of_)]) rfl rfl ?_
  have hm := Fr.mul_bd (u := pl / 2) (v := of_) (m := 1000) (n := 10) (by omega) (by omega) (by omega) (by omega)
  have e2 : pl.tdiv 2 = pl / 2 := Int.tdiv_eq_ediv_of_nonneg h.1
  refine NewI.mk fun b1 hb1 => ?_
  unfold Rg.time
  refine Branch.mk (fun hc => ?_) (fun hc => ?_)
  · have he : pl % 2 = 0 := by rw [← i64_and1]; simpa using hc
    rw [if_pos he]
    refine Need.mk ⟨by decide, by show inK .i64 (pl.tdiv 2); rw [e2]; simp only [inK]; omega⟩ ?_
    refine Need.mk (by show inK .i64 (pl.tdiv 2 * 1); rw [e2]; simp only [inK]; omega) ?_
    refine Need.mk (by show inK .i64 (pl.tdiv 2 * 1 + 0); rw [e2]; simp only [inK]; omega) ?_
    conv => whnf
    rw [show pl.tdiv 2 * 1 + 0 = pl / 2 by rw [e2]; omega]
    (first
      | (refine CallI.to1 (rof_any (pl / 2) 1 (by simp only [inK]; omega) (by simp only [inK]; omega)) fun w2 => ?_)
      | (refine Branch.yes rfl ?_)
      | (refine Branch.no rfl ?_)
      | (refine Branch.mk (fun hb => ?_) (fun hb => ?_))
      | (refine NewI.mk fun nb hnb => ?_)
      | (refine Need.mk (by show _ ∧ _; omega) ?_)
      | (refine Need.mk (by omega) ?_)
      | (refine Need.mk ?_ ?_)
      | (refine EndI.mk fun w1 h1 => ?_))
    refine NewI.mk fun b2 hb2 => ?_
    exact EndI.mk fun w3 h3 => rfl
  · have he : ¬ pl % 2 = 0 := by rw [← i64_and1]; simpa using hc
    rw [if_neg he]
    refine Need.mk ⟨by decide, by show inK .i64 (pl.tdiv 2); rw [e2]; simp only [inK]; omega⟩ ?_
    refine Need.mk (by show inK .i64 (pl.tdiv 2 * of_); rw [e2]; simp only [inK]; omega) ?_
    refine Need.mk (by show inK .i64 (pl.tdiv 2 * of_ + pa); rw [e2]; simp only [inK]; omega) ?_
    conv => whnf
    rw [show pl.tdiv 2 * of_ + pa = pl / 2 * of_ + pa by rw [e2]]
    (first
      | (refine CallI.to1 (rof_any (pl / 2 * of_ + pa) of_ (by simp only [inK]; omega) (by simp only [inK]; omega)) fun w2 => ?_)
      | (refine Branch.yes rfl ?_)
      | (refine Branch.no rfl ?_)
      | (refine Branch.mk (fun hb => ?_) (fun hb => ?_))
      | (refine NewI.mk fun nb hnb => ?_)
      | (refine Need.mk (by show _ ∧ _; omega) ?_)
      | (refine Need.mk (by omega) ?_)
      | (refine Need.mk ?_ ?_)
      | (refine EndI.mk fun w1 h1 => ?_))
    refine NewI.mk fun b2 hb2 => ?_
    exact EndI.mk fun w3 h3 => rfl
end Go.Proofs.YtjbhpfmnfdebkaaGreat

/-
  The contracts of package region: points, by the engine.
-/
namespace Go.Proofs.YtjbhpfmnfdebkaaGreat
set_option linter.unusedVariables false
set_option linter.unusedSimpArgs false
set_option maxRecDepth 100000
open Go.RowKit Go.Proofs.YtjbhpfmnfdebkaaGreat.Eng Enc

theorem index_parts (r : Int) (h : 0 ≤ r ∧ r < 3) (w : World) :
    (Instr.index 176 (.agg #[.int .i64 1, .int .i64 2, .int .i64 3, .int .i64 1, .int .i64 1, .int .i64 2, .int .i64 2, .int .i64 1, .int .i64 3]) (.int .i64 r)).run Tryz.prog w = .ok (.agg #[.int .i64 (Rg.parts r).1, .int .i64 (Rg.parts r).2.1, .int .i64 (Rg.parts r).2.2]) w := by
  rcases (by omega : r = 0 ∨ r = 1 ∨ r = 2) with rfl | rfl | rfl <;> kernel_rfl
theorem point_any (n long : Int) (hl : 1 ≤ long ∧ long ≤ 16) (hn : 0 ≤ n ∧ n < (Rg.many long).1) (w : World) :
    Calls Tryz.prog 71 #[.int .i64 n, .int .i64 long] w fun e w' => e = .returned (.tuple #[.agg #[.int .i64 (Rg.pt n long).t.num, .int .i64 (Rg.pt n long).t.den, .int .i64 (Rg.pt n long).u.num, .int .i64 (Rg.pt n long).u.den], .bool (Rg.point n long).2]) ∧ Below w.heap.size w w' := by
  refine fun_eq 0 w Tryz.func71 (args := [.val (.int .i64 n), .val (.int .i64 long)]) rfl rfl ?_
  have hs : 3 ≤ Rg.sides long ∧ Rg.sides long ≤ 33 := by unfold Rg.sides; omega
  have hmany : (Rg.many long).1 = 3 * Rg.sides long * Rg.sides long := by unfold Rg.many; rw [if_pos (Rg.fits_iff.2 hl)]
  have hm := Fr.mul_bd (u := 3 * Rg.sides long) (v := Rg.sides long) (m := 99) (n := 33) (by omega) (by omega) (by omega) (by omega)
  have e1 : n.tdiv 3 = n / 3 := Int.tdiv_eq_ediv_of_nonneg hn.1
  have e2 : (n / 3).tdiv (Rg.sides long) = n / 3 / Rg.sides long := Int.tdiv_eq_ediv_of_nonneg (by omega)
  have e3 : (n / 3).tmod (Rg.sides long) = n / 3 % Rg.sides long := Int.tmod_eq_emod_of_nonneg (by omega)
  have e4 : n.tmod 3 = n % 3 := Int.tmod_eq_emod_of_nonneg hn.1
  have ht : 0 ≤ n / 3 / Rg.sides long ∧ n / 3 / Rg.sides long ≤ 1000 := by
    have h1 : 0 ≤ n / 3 / Rg.sides long := Int.ediv_nonneg (by omega) (by omega)
    have h2 : n / 3 / Rg.sides long < Rg.sides long := by
      refine Int.ediv_lt_of_lt_mul (by omega) ?_
      have : n < 3 * (Rg.sides long * Rg.sides long) := by rw [← Int.mul_assoc, ← hmany]; exact hn.2
      omega
    omega
  have hu : 0 ≤ n / 3 % Rg.sides long ∧ n / 3 % Rg.sides long ≤ 1000 := by
    have h1 := Int.emod_nonneg (n / 3) (b := Rg.sides long) (by omega)
    have h2 := Int.emod_lt_of_pos (n / 3) (b := Rg.sides long) (by omega)
    omega
  refine NewI.mk fun b1 hb1 => ?_
  refine DrawI.go (.tk 0 (.tk 1 (.tk 2 (.tk 5 (.tk 6 (.tk 7 (.ev 3 (.tk 4 (.ev 8 (.tk 9 (.tk 10 (.tk 11 .done)))))))))))) (by kernel_rfl) fun w1 h1 => ?_
  have n1 : (3 : Int) ≠ 0 ∧ inK .i64 (n.tdiv 3) := ⟨by decide, by rw [e1]; simp only [inK]; omega⟩
  refine Need.mk n1 ?_
  refine Need.mk n1 ?_
  (first
    | (refine CallI.to1 (sides_any long hl) fun w2 => ?_)
    | (refine Branch.yes rfl ?_)
    | (refine Branch.no rfl ?_)
    | (refine Branch.mk (fun hb => ?_) (fun hb => ?_))
    | (refine NewI.mk fun nb hnb => ?_)
    | (refine Need.mk (by show _ ∧ _; omega) ?_)
    | (refine Need.mk (by omega) ?_)
    | (refine Need.mk ?_ ?_)
    | (refine EndI.mk fun w1 h1 => ?_))
  refine Need.mk ⟨by omega, by show inK .i64 ((n.tdiv 3).tdiv (Rg.sides long)); rw [e1, e2]; simp only [inK]; omega⟩ ?_
  (first
    | (refine CallI.to1 (sides_any long hl) fun w2 => ?_)
    | (refine Branch.yes rfl ?_)
    | (refine Branch.no rfl ?_)
    | (refine Branch.mk (fun hb => ?_) (fun hb => ?_))
    | (refine NewI.mk fun nb hnb => ?_)
    | (refine Need.mk (by show _ ∧ _; omega) ?_)
    | (refine Need.mk (by omega) ?_)
    | (refine Need.mk ?_ ?_)
    | (refine EndI.mk fun w1 h1 => ?_))
  refine Need.mk (by omega) ?_
  refine Need.mk (by decide) ?_
  conv => whnf
  rw [e1, e2, e3, e4]
  refine GenV.to (fun w3 => index_parts (n % 3) (by omega) w3) fun w3 h3 => ?_
  have hpar : (0 ≤ (Rg.parts (n % 3)).1 ∧ (Rg.parts (n % 3)).1 ≤ 10) ∧ (0 ≤ (Rg.parts (n % 3)).2.1 ∧ (Rg.parts (n % 3)).2.1 ≤ 10) ∧ (1 ≤ (Rg.parts (n % 3)).2.2 ∧ (Rg.parts (n % 3)).2.2 ≤ 10) := by
    unfold Rg.parts; split
    · simp
    · split <;> simp
  refine NewI.mk fun b2 hb2 => ?_
  refine DrawI.go (.tk 0 (.tk 1 (.tk 2 (.tk 3 (.tk 4 (.tk 6 (.tk 7 (.tk 8 (.tk 9 (.tk 10 (.two 5 (.two 11 (.tk 12 (.ev 13 (.ev 14 .done))) 13 (.ev 11 (.tk 12 (.ev 14 .done)))) 13 (.ev 5 (.ev 11 (.tk 12 (.ev 14 .done))))))))))))))) (by kernel_rfl) fun w4 h4 => ?_
  refine Need.mk (by decide) ?_
  refine Need.mk (by decide) ?_
  refine Need.mk (by decide) ?_
  refine Need.mk (by decide) ?_
  have c1 := fun w => time_any (n / 3 / Rg.sides long) (Rg.parts (n % 3)).1 (Rg.parts (n % 3)).2.2 ht hpar.1 hpar.2.2 w
  have c2 := fun w => time_any (n / 3 % Rg.sides long) (Rg.parts (n % 3)).2.1 (Rg.parts (n % 3)).2.2 hu hpar.2.1 hpar.2.2 w
  have hins : (Rg.pt n long).ins := ⟨Rg.time_ins ht hpar.1 hpar.2.2, Rg.time_ins hu hpar.2.1 hpar.2.2⟩
  refine Both.mk ?_ ?_
  · refine CallI.to1 c1 fun w5 => ?_
    refine Both.mk ?_ ?_
    · refine CallI.to1 c2 fun w6 => ?_
      refine NewI.mk fun b3 hb3 => ?_
      refine DrawI.wr (.tk 0 (.tk 1 (.tk 2 (.tk 4 (.ev 3 (.tk 5 (.ev 6 (.tk 7 .done)))))))) [0] [] (by kernel_rfl) rfl (by simp) fun w7 h7 => ?_
      refine CallI.to1 (fun w => number_any (Rg.pt n long) long hins hl w) fun w8 => ?_
      exact EndI.mk fun w9 h9 => rfl
    · refine NewI.mk fun b3 hb3 => ?_
      refine CallI.to1 c2 fun w6 => ?_
      refine DrawI.wr (.tk 0 (.tk 1 (.tk 2 (.tk 4 (.ev 3 (.tk 5 (.ev 6 (.tk 7 .done)))))))) [0] [] (by kernel_rfl) rfl (by simp) fun w7 h7 => ?_
      refine CallI.to1 (fun w => number_any (Rg.pt n long) long hins hl w) fun w8 => ?_
      exact EndI.mk fun w9 h9 => rfl
  · refine NewI.mk fun b3 hb3 => ?_
    refine CallI.to1 c1 fun w5 => ?_
    refine CallI.to1 c2 fun w6 => ?_
    refine DrawI.wr (.tk 0 (.tk 1 (.tk 2 (.tk 4 (.ev 3 (.tk 5 (.ev 6 (.tk 7 .done)))))))) [0] [] (by kernel_rfl) rfl (by simp) fun w7 h7 => ?_
    refine CallI.to1 (fun w => number_any (Rg.pt n long) long hins hl w) fun w8 => ?_
    exact EndI.mk fun w9 h9 => rfl

theorem rpoint_any (n long : Int) (w : World) :
    Calls Tryz.prog 151 #[.int .i64 n, .int .i64 long] w fun e w' => e = .returned (.tuple #[.agg #[.int .i64 (Rg.askPoint n long).1.t.num, .int .i64 (Rg.askPoint n long).1.t.den, .int .i64 (Rg.askPoint n long).1.u.num, .int .i64 (Rg.askPoint n long).1.u.den], .int .i64 (Rg.askPoint n long).2]) ∧ Below w.heap.size w w' := by
  refine fun_eq 0 w Tryz.func151 (args := [.val (.int .i64 n), .val (.int .i64 long)]) rfl rfl ?_
  refine NewI.mk fun b1 hb1 => ?_
  (first
    | (refine CallI.to1 (many_any long) fun w2 => ?_)
    | (refine Branch.yes rfl ?_)
    | (refine Branch.no rfl ?_)
    | (refine Branch.mk (fun hb => ?_) (fun hb => ?_))
    | (refine NewI.mk fun nb hnb => ?_)
    | (refine Need.mk (by show _ ∧ _; omega) ?_)
    | (refine Need.mk (by omega) ?_)
    | (refine Need.mk ?_ ?_)
    | (refine EndI.mk fun w1 h1 => ?_))
  unfold Rg.askPoint
  refine Branch.mk (fun hc => ?_) (fun hc => ?_)
  · refine EndI.mk fun w3 h3 => ?_
    rw [if_pos (.inl (by simpa using hc))]; rfl
  have hm : (Rg.many long).2 = 0 := by simpa using hc
  refine Branch.mk (fun hc2 => ?_) (fun hc2 => ?_)
  · refine EndI.mk fun w3 h3 => ?_
    rw [if_pos (.inr (.inl (by simpa using hc2)))]; rfl
  have h0 : ¬ n < 0 := by simpa using hc2
  refine Branch.mk (fun hc3 => ?_) (fun hc3 => ?_)
  · refine EndI.mk fun w3 h3 => ?_
    rw [if_pos (.inr (.inr (by simpa using hc3)))]; rfl
  have h1 : ¬ (Rg.many long).1 ≤ n := by simpa using hc3
  rw [if_neg (by omega)]
  have hl : 1 ≤ long ∧ long ≤ 16 := by
    cases hf : Rg.fits long with
    | true => exact Rg.fits_iff.1 hf
    | false => unfold Rg.many at hm; rw [hf] at hm; cases hm
  (first
    | (refine CallI.to1 (point_any n long hl (by omega)) fun w2 => ?_)
    | (refine Branch.yes rfl ?_)
    | (refine Branch.no rfl ?_)
    | (refine Branch.mk (fun hb => ?_) (fun hb => ?_))
    | (refine NewI.mk fun nb hnb => ?_)
    | (refine Need.mk (by show _ ∧ _; omega) ?_)
    | (refine Need.mk (by omega) ?_)
    | (refine Need.mk ?_ ?_)
    | (refine EndI.mk fun w1 h1 => ?_))
  refine NewI.mk fun b2 hb2 => ?_
  refine Branch.mk (fun hc4 => ?_) (fun hc4 => ?_)
  · refine EndI.mk fun w3 h3 => ?_
    rw [if_neg (by have h4 : (Rg.point n long).2 = false := by simpa using hc4
                   rw [h4]; simp)]; rfl
  · refine EndI.mk fun w3 h3 => ?_
    rw [if_pos (by simpa using hc4)]
end Go.Proofs.YtjbhpfmnfdebkaaGreat

/-
  The contracts of region.around and region.Zone, by the engine.
-/
namespace Go.Proofs.YtjbhpfmnfdebkaaGreat
set_option linter.unusedVariables false
set_option linter.unusedSimpArgs false
set_option maxRecDepth 100000
open Go.RowKit Go.Proofs.YtjbhpfmnfdebkaaGreat.Eng Enc

namespace Rg
def around (pl : Int) : Sp := if pl % 2 = 0 then ⟨pl.tdiv 2, false, pl.tdiv 2, false, false⟩ else ⟨pl.tdiv 2, true, pl.tdiv 2 + 1, true, false⟩
/-- the span of what lies between the two times. -/
def diff (n long : Int) : Sp :=
  if (n / 3 / sides long) % 2 = 1 ∧ (n / 3 % sides long) % 2 = 1 then around (n / 3 % sides long - n / 3 / sides long + 1 - n % 3) else ⟨-16, false, 16, false, false⟩
def zone (n long : Int) : Zn × Int :=
  if (askPoint n long).2 = 0 then Zo.make (around (n / 3 / sides long)) (around (n / 3 % sides long)) (diff n long) else (Zo.nought, (askPoint n long).2)
end Rg
end Go.Proofs.YtjbhpfmnfdebkaaGreat

/-
  rallentandolaw14.at and alive: the chapter's first examples.
-/
namespace Go.Proofs.YtjbhpfmnfdebkaaGreat
set_option linter.unusedVariables false
set_option linter.unusedSimpArgs false
set_option maxRecDepth 100000
open Go.RowKit Go.Proofs.YtjbhpfmnfdebkaaGreat.Eng Enc

end Go.Proofs.YtjbhpfmnfdebkaaGreat

/-
  The walk of rallentandolaw14.RegionZones, by the engine, out of the plain law's four parts (ZonesLaw, not shown here).
-/
namespace Go.Proofs.YtjbhpfmnfdebkaaGreat
set_option linter.unusedVariables false
set_option linter.unusedSimpArgs false
set_option maxRecDepth 100000
open Go.RowKit Go.Proofs.YtjbhpfmnfdebkaaGreat.Eng Enc

/-- what the plain law has to show. -/
structure ZonesLaw (n : Int) (p : Pt) (long : Int) : Prop where
  ins : (Rg.askPoint n long).1.ins
  same : (Rg.zone n long).2 = (Rg.askPoint n long).2
  own : (Rg.askPoint n long).2 = 0 → Rg.askNumber (Rg.askPoint n long).1 long = (n, 0)
  has : (Rg.askPoint n long).2 = 0 → Zo.has (Rg.zone n long).1 (Rg.askPoint n long).1 = (true, 0)
  any : (Rg.askPoint n long).2 = 0 → (Zo.has (Rg.zone n long).1 p).2 = 0 → (Zo.has (Rg.zone n long).1 p).1 = (decide ((Rg.askNumber p long).2 = 0) && decide ((Rg.askNumber p long).1 = n))

end Go.Proofs.YtjbhpfmnfdebkaaGreat

/-
  The plain law of RegionZones: its parts shown so far (ins, own).
-/
namespace Go.Proofs.YtjbhpfmnfdebkaaGreat
set_option linter.unusedVariables false
set_option linter.unusedSimpArgs false
open Go.RowKit Go.Proofs.YtjbhpfmnfdebkaaGreat.Eng Enc
namespace Rg
theorem cmp_three (a b : Rt) : (Fr.cmp a b).1 = -1 ∨ (Fr.cmp a b).1 = 0 ∨ (Fr.cmp a b).1 = 1 := by
  unfold Fr.cmp
  split
  · show cmpI _ _ = -1 ∨ cmpI _ _ = 0 ∨ cmpI _ _ = 1
    unfold cmpI
    split
    · exact .inl rfl
    · split
      · exact .inr (.inr rfl)
      · exact .inr (.inl rfl)
  · exact .inr (.inl rfl)
theorem order_three (p : Pt) : 0 ≤ order p ∧ order p ≤ 2 := by
  have := cmp_three (part p.t) (part p.u)
  unfold order
  split <;> omega
/-- a number tells the places and the order. -/
theorem number_back {p : Pt} {n long : Int} (h : number p long = n) (h0 : 0 ≤ n) (hl : 1 ≤ long ∧ long ≤ 16) :
    (Fr.cmp p.t p.u).1 < 0 ∧ place p.t = n / 3 / sides long ∧ place p.u = n / 3 % sides long ∧ order p = n % 3 := by
  have hs : 3 ≤ sides long ∧ sides long ≤ 33 := by unfold sides; omega
  have ho := order_three p
  unfold number at h
  split at h
  · omega
  · rename_i hc
    have h1 : (Fr.cmp p.t p.u).1 < 0 := by omega
    have h2 : 0 ≤ place p.t := by omega
    have h3 : place p.u < sides long := by omega
    have h4 : 0 ≤ place p.u := by
      have hf := floor_le h1
      unfold place at h2 ⊢
      split at h2 <;> split <;> omega
    have e3 : n / 3 = place p.t * sides long + place p.u := by omega
    refine ⟨h1, ?_, ?_, by omega⟩
    · rw [e3, Int.add_comm, Int.add_mul_ediv_right _ _ (by omega), Int.ediv_eq_zero_of_lt h4 h3]; omega
    · rw [e3, Int.add_comm, Int.add_mul_emod_self_right, Int.emod_eq_of_lt h4 h3]
end Rg
end Go.Proofs.YtjbhpfmnfdebkaaGreat

/-
  What a matrix means: the times that keep it; closing turns none of them. No program is in sight.
-/
namespace Go.Proofs.YtjbhpfmnfdebkaaGreat.Dbm
set_option linter.unusedVariables false
set_option linter.unusedSimpArgs false
open Go.Proofs.YtjbhpfmnfdebkaaGreat.Fr

def satO (d : Rat) : OB → Prop
  | none => True
  | some v => if Bd.st v = true then d < ((v / 2 : Int) : Rat) else d ≤ ((v / 2 : Int) : Rat)
theorem sat_iff (d : Rat) (b : Int) : sat d b ↔ satO d (ob b) := by
  unfold sat ob
  by_cases h : b = NO
  · rw [if_pos h]; exact ⟨fun _ => trivial, fun _ => .inl h⟩
  · rw [if_neg h]
    exact ⟨fun k => k.resolve_left h, fun k => .inr k⟩
theorem st_iff (v : Int) : Bd.st v = true ↔ v % 2 = 0 := by simp [Bd.st]
theorem satO_add {d e : Rat} {a b : OB} (h : satO d a) (k : satO e b) : satO (d + e) (oadd a b) := by
  cases a with
  | none => trivial
  | some u =>
    cases b with
    | none => trivial
    | some v =>
      simp only [satO, oadd] at h k ⊢
      rw [bsum_half]
      have hp : Bd.st (bsum u v) = true ↔ (Bd.st u = true ∨ Bd.st v = true) := by
        rw [st_iff, st_iff, st_iff]
        unfold bsum
        rcases parity u with h1 | h1 <;> rcases parity v with h2 | h2 <;> rw [h1, h2] <;> constructor <;> intro h <;> omega
      rw [Rat.intCast_add]
      generalize ((u / 2 : Int) : Rat) = x at *
      generalize ((v / 2 : Int) : Rat) = y at *
      cases hu : Bd.st u <;> cases hv : Bd.st v <;> simp only [hu, hv, Bool.false_eq_true, if_true, if_false, or_self, or_true, true_or, or_false, false_or] at h k hp ⊢
      · rw [if_neg (by rw [hp]; simp)]; grind
      · rw [if_pos (by rw [hp]; trivial)]; grind
      · rw [if_pos (by rw [hp]; trivial)]; grind
      · rw [if_pos (by rw [hp]; trivial)]; grind
theorem satO_mono {d : Rat} {a b : OB} (h : ole a b) (k : satO d a) : satO d b := by
  cases b with
  | none => trivial
  | some v =>
    cases a with
    | none => exact h.elim
    | some u =>
      have huv : u ≤ v := h
      simp only [satO] at k ⊢
      have h1 : u / 2 ≤ v / 2 := by omega
      have h2 : ((u / 2 : Int) : Rat) ≤ ((v / 2 : Int) : Rat) := by exact_mod_cast h1
      cases hu : Bd.st u <;> cases hv : Bd.st v <;> simp only [hu, hv, Bool.false_eq_true, if_true, if_false] at k ⊢
      · grind
      · have h3 : u / 2 < v / 2 := by
          have a1 : ¬ u % 2 = 0 := fun e => by rw [(st_iff u).2 e] at hu; cases hu
          have a2 := (st_iff v).1 hv
          omega
        have h4 : ((u / 2 : Int) : Rat) < ((v / 2 : Int) : Rat) := by exact_mod_cast h3
        grind
      · grind
      · grind
theorem satO_zero {v : Int} : satO 0 (some v) ↔ 1 ≤ v := by
  simp only [satO]
  cases hv : Bd.st v <;> simp only [Bool.false_eq_true, if_true, if_false]
  · have a1 : ¬ v % 2 = 0 := fun e => by rw [(st_iff v).2 e] at hv; cases hv
    constructor
    · intro h
      have : (0 : Int) ≤ v / 2 := by exact_mod_cast h
      omega
    · intro h
      have : (0 : Int) ≤ v / 2 := by omega
      exact_mod_cast this
  · have a1 := (st_iff v).1 hv
    constructor
    · intro h
      have : (0 : Int) < v / 2 := by exact_mod_cast h
      omega
    · intro h
      have : (0 : Int) < v / 2 := by omega
      exact_mod_cast this
/-- times that keep each bound. -/
def Fits (N : Nat) (E : Mx) (t : Nat → Rat) : Prop := ∀ i j, i < N → j < N → satO (t i - t j) (E i j)
theorem Fits.way {N : Nat} {E : Mx} {t : Nat → Rat} (h : Fits N E t) : ∀ (mid : List Nat) (i j : Nat), i < N → j < N → (∀ a ∈ mid, a < N) → satO (t i - t j) (Dbm.way E (i :: (mid ++ [j])))
  | [], i, j, hi, hj, _ => by
    simp only [List.nil_append, way_two]; exact h i j hi hj
  | a :: mid, i, j, hi, hj, hm => by
    have ha := hm a (by simp)
    have ih := h.way mid a j ha hj (fun b hb => hm b (by simp [hb]))
    simp only [List.cons_append, Dbm.way]
    have := satO_add (h i a hi ha) ih
    rwa [show t i - t a + (t a - t j) = t i - t j by grind] at this
theorem Inv.fits {N : Nat} {E M : Mx} {t : Nat → Rat} {k : Nat} (hk : k ≤ N) (inv : Inv N k E M) (h : Fits N E t) : Fits N M t := fun i j hi hj => by
  by_cases e : i = j
  · subst e
    rw [inv.diag i hi, Rat.sub_self]
    exact satO_zero.2 (by omega)
  · cases hv : M i j with
    | none => trivial
    | some v =>
      obtain ⟨mid, _, hm, hw⟩ := inv.wit i j hi hj e v hv
      rw [← hw]
      exact h.way mid i j hi hj fun a ha => Nat.lt_of_lt_of_le (hm a ha) hk
theorem Inv.fits_back {N : Nat} {E M : Mx} {t : Nat → Rat} {k : Nat} (inv : Inv N k E M) (h : Fits N M t) : Fits N E t := fun i j hi hj => satO_mono (inv.low i j hi hj) (h i j hi hj)

/-- with the diagonal at 0. -/
theorem fits_diag {N : Nat} {L L1 : List Int} {t : Nat → Rat} (hd : ∀ i, i < N → 1 ≤ L[i * N + i]?.getD 0) (h : ∀ i j, i < N → j < N → L1[i * N + j]?.getD 0 = if i = j then 1 else L[i * N + j]?.getD 0) :
    Fits N (mx N L1) t ↔ Fits N (mx N L) t := by
  have h1 : ∀ i j, i < N → j < N → i ≠ j → mx N L1 i j = mx N L i j := fun i j hi hj e => by unfold mx; rw [h i j hi hj, if_neg e]
  constructor
  · intro k i j hi hj
    by_cases e : i = j
    · subst e
      rw [Rat.sub_self]
      unfold mx ob
      split
      · trivial
      · exact satO_zero.2 (hd i hi)
    · rw [← h1 i j hi hj e]; exact k i j hi hj
  · intro k i j hi hj
    by_cases e : i = j
    · subst e
      unfold mx
      rw [h i i hi hi, if_pos rfl, Rat.sub_self]
      exact satO_zero.2 (by omega)
    · rw [h1 i j hi hj e]; exact k i j hi hj
/-- closing turns none of the times that keep a matrix. -/
theorem close_fits {N : Nat} {L C : List Int} (h0 : chk N L = 0) (h : closeL N L = some C) (t : Nat → Rat) : Fits N (mx N C) t ↔ Fits N (mx N L) t := by
  obtain ⟨L1, a2, a3, inv, hl, hE⟩ := close_inv h0 h
  rw [← fits_diag a2 a3]
  exact ⟨fun k => inv.fits_back k, fun k => inv.fits (Nat.le_refl _) k⟩
/-- a matrix that some times keep is not empty. -/
theorem close_some {N : Nat} {L : List Int} (h0 : chk N L = 0) {t : Nat → Rat} (ht : Fits N (mx N L) t) : ∃ C, closeL N L = some C := by
  obtain ⟨c1, c2, c3, c4⟩ := chk_iff.1 h0
  have hN4 : N ≤ 4 := by omega
  have hL : L.length = N * N := by exact_mod_cast c3
  have hdL : ∀ i, i < N → 1 ≤ L[i * N + i]?.getD 0 := fun i hi => by
    have := ht i i hi hi
    rw [Rat.sub_self] at this
    unfold mx ob at this
    split at this
    · rename_i h; rw [h]; decide
    · exact satO_zero.1 this
  have hd0 : ∀ n, n ≤ N → ∃ Ln, (List.range n).foldlM (diag1 N) L = some Ln := by
    intro n
    induction n with
    | zero => intro _; exact ⟨L, rfl⟩
    | succ n ih =>
      intro hn
      obtain ⟨Ln, e⟩ := ih (by omega)
      obtain ⟨a1, a2, a3⟩ := diag_spec hL n Ln (by omega) e
      rw [List.range_succ, List.foldlM_append, e]
      have : Ln[n * N + n]?.getD 0 = L[n * N + n]?.getD 0 := by rw [a3 n n (by omega) (by omega), if_neg (by omega)]
      refine ⟨Ln.set (n * N + n) 1, ?_⟩
      simp only [List.foldlM_cons, List.foldlM_nil, Option.bind_eq_bind, Option.bind_some, diag1]
      rw [if_neg (by rw [this]; have := hdL n (by omega); omega)]; rfl
  obtain ⟨L1, e1⟩ := hd0 N (Nat.le_refl _)
  obtain ⟨a1, a2, a3⟩ := diag_spec hL N L1 (Nat.le_refl _) e1
  have a3' : ∀ i j, i < N → j < N → L1[i * N + j]?.getD 0 = if i = j then 1 else L[i * N + j]?.getD 0 := fun i j hi hj => by
    rw [a3 i j hi hj]
    by_cases e : i = j
    · rw [if_pos ⟨e, hi⟩, if_pos e]
    · rw [if_neg (fun h => e h.1), if_neg e]
  have hd1 : ∀ i, i < N → mx N L1 i i = some 1 := fun i hi => by unfold mx; rw [a3' i i hi hi, if_pos rfl]; rfl
  have hE : ∀ i j v, i < N → j < N → mx N L1 i j = some v → -288230376151711744 ≤ v / 2 ∧ v / 2 ≤ 288230376151711744 := fun i j v hi hj hv => by
    obtain ⟨e1, e2⟩ := mx_some hv
    rw [a3' i j hi hj] at e1
    split at e1
    · subst e1; decide
    · have := chk_lim h0 (i * N + j) (by rw [hL]; exact place_lt hi hj)
      rw [e1] at this
      exact this.resolve_left e2
  have ht1 := (fits_diag (t := t) hdL a3').2 ht
  have hst : ∀ n, n ≤ N → ∃ Cn, (List.range n).foldlM (stage N) L1 = some Cn := by
    intro n
    induction n with
    | zero => intro _; exact ⟨L1, rfl⟩
    | succ n ih =>
      intro hn
      obtain ⟨M, e⟩ := ih (by omega)
      obtain ⟨b1, b2⟩ := fold_inv hN4 a1 hd1 hE n M (by omega) e
      rw [List.range_succ, List.foldlM_append, e]
      have hlM := inv_lim b2 (by omega) hN4 hE
      have hMd : M[n * N + n]?.getD 0 = 1 := (mx_some (b2.diag n (by omega))).1
      have hthr : ∀ i j, i < N → j < N → mx N (thrL N n M) i j = thr n (mx N M) i j := fun i j hi hj => thrL_mx (by omega) b1 hMd (fun q hq => lim_mono (hlM q hq) (by omega)) hi hj
      have htM := b2.fits (by omega) ht1
      have hok : diagOk N (thrL N n M) = true := by
        unfold diagOk
        rw [List.all_eq_true]
        intro i hi
        have hi := List.mem_range.1 hi
        refine decide_eq_true ?_
        have h1 : satO 0 (mx N (thrL N n M) i i) := by
          rw [hthr i i hi hi]
          rcases thr_cases n (mx N M) i i with h | ⟨h, _⟩
          · rw [h, b2.diag i hi]; exact satO_zero.2 (by omega)
          · rw [h]
            have := satO_add (htM i n hi (by omega)) (htM n i (by omega) hi)
            rwa [show t i - t n + (t n - t i) = 0 by grind] at this
        unfold mx ob at h1
        split at h1
        · rename_i h; rw [h]; decide
        · exact satO_zero.1 h1
      refine ⟨thrL N n M, ?_⟩
      simp only [List.foldlM_cons, List.foldlM_nil, Option.bind_eq_bind, Option.bind_some, stage]
      rw [if_pos hok]; rfl
  obtain ⟨C, e2⟩ := hst N (Nat.le_refl _)
  refine ⟨C, ?_⟩
  unfold closeL
  rw [e1, Option.bind_some, e2]
end Go.Proofs.YtjbhpfmnfdebkaaGreat.Dbm

/-
  What keeping a matrix says, bound by bound and by values. No program is in sight.
-/
namespace Go.Proofs.YtjbhpfmnfdebkaaGreat
set_option linter.unusedVariables false
namespace Dbm
theorem keptK {N : Nat} {L : List Int} {T : List Rt} : keptL N L T = true ↔ ∀ i j, i < N → j < N → (Fr.keeps ((moments T)[i]?.getD ⟨0, 1⟩) ((moments T)[j]?.getD ⟨0, 1⟩) (L[i * N + j]?.getD 0)).1 = true := by
  unfold keptL
  rw [List.all_eq_true]
  constructor
  · intro h i j hi hj
    have := h (i * N + j) (List.mem_range.2 (place_lt hi hj))
    unfold pairOk at this
    rwa [place_div hj, place_mod hj] at this
  · intro h q hq
    have hq := List.mem_range.1 hq
    unfold pairOk
    have := h (q / N) (q % N) (div_lt hq) (mod_lt hq)
    rwa [div_mod] at this
/-- the times' values, that of clock 0 first. -/
def tvs (T : List Rt) (i : Nat) : Rat := Fr.v ((moments T)[i]?.getD ⟨0, 1⟩)
theorem may_limK {b : Int} (h : lim 2305843009213693951 b) : Bd.may b = true := by
  unfold Bd.may
  rcases h with h | h
  · rw [h]; rfl
  · have : Num.okB (b / 2) = true := Num.okB_iff.2 (by omega)
    rw [this]; simp
end Dbm
end Go.Proofs.YtjbhpfmnfdebkaaGreat

/-
  The plain law of RegionZones: a point is in a region's zone just if its number is the region's (by whole parts and what is left over).
-/
namespace Go.Proofs.YtjbhpfmnfdebkaaGreat
set_option linter.unusedVariables false
set_option linter.unusedSimpArgs false
open Go.RowKit Go.Proofs.YtjbhpfmnfdebkaaGreat.Eng Enc
namespace Rg
theorem of_one {f : Int} (h : -2305843009213693952 ≤ f ∧ f ≤ 2305843009213693952) : Fr.of f 1 = (⟨f, 1⟩, 0) := by
  unfold Fr.of Fr.low
  have hg : Int.gcd f 1 = 1 := by simp
  have hok : Fr.okB f 1 = true := by
    unfold Fr.okB
    have : Fr.inB f 1 = true := Fr.in_iff.2 (by simp; omega)
    rw [this]; simp
  rw [if_neg (by omega), hg]
  simp only [Int.cast_ofNat_Int, Int.ediv_one]
  rw [if_pos hok]
/-- a time's fraction part, in lowest terms as the time is. -/
theorem part_eq {a : Rt} (ha : a.ok = true) : part a = ⟨a.num % a.den, a.den⟩ := by
  have oa := Fr.ok_bd ha
  have hf : (Fr.floor a).1 = a.num / a.den := by unfold Fr.floor; rw [if_pos ha]
  unfold part
  rw [hf, of_one (by omega)]
  have hok : (⟨-(a.num / a.den), 1⟩ : Rt).ok = true := by
    show Fr.okB _ _ = true
    unfold Fr.okB
    have : Fr.inB (-(a.num / a.den)) 1 = true := Fr.in_iff.2 (by simp; omega)
    rw [this]; simp
  have hg0 : Nat.gcd a.num.natAbs a.den.natAbs = 1 := by
    have h := ha
    simp only [Rt.ok, Fr.okB, Bool.and_eq_true, decide_eq_true_eq] at h
    exact h.2
  have hg : Int.gcd (a.num % a.den) a.den = 1 := by
    have h1 : Int.gcd a.num a.den = 1 := hg0
    have h2 : Int.gcd (a.num % a.den + a.num / a.den * a.den) a.den = Int.gcd (a.num % a.den) a.den := Int.gcd_add_mul_right_left ..
    have h3 : a.num % a.den + a.num / a.den * a.den = a.num := by
      have := Int.mul_ediv_add_emod a.num a.den
      rw [Int.mul_comm] at this; omega
    rw [h3] at h2
    rw [← h2]; exact h1
  have htn : Fr.tn a ⟨-(a.num / a.den), 1⟩ = a.num % a.den := by
    unfold Fr.tn
    have := Int.mul_ediv_add_emod a.num a.den
    simp only [Int.mul_one, Int.neg_mul]
    rw [Int.mul_comm (a.num / a.den) a.den]; omega
  have hdn : Fr.dn a ⟨-(a.num / a.den), 1⟩ 1 = a.den := by unfold Fr.dn; simp
  unfold Fr.add
  rw [if_pos ⟨ha, hok⟩]
  unfold Fr.sum
  rw [htn, hdn, hg]
  simp only [Int.cast_ofNat_Int, Int.ediv_one]
  rw [if_pos]
  refine ⟨?_, ?_⟩
  · unfold Fr.okB
    have : Fr.inB (a.num % a.den) a.den = true := Fr.in_iff.2 (by rw [Int.ediv_eq_zero_of_lt oa.2.2.2.2.1 oa.2.2.2.2.2]; omega)
    rw [this]
    have hg' : Nat.gcd (a.num % a.den).natAbs a.den.natAbs = 1 := hg
    simp only [hg']
    simp; omega
  · unfold Fr.inI; simp; omega
theorem part_ok {a : Rt} (ha : a.ok = true) : (part a).ok = true := by
  have oa := Fr.ok_bd ha
  rw [part_eq ha]
  have hg0 : Nat.gcd a.num.natAbs a.den.natAbs = 1 := by
    have h := ha
    simp only [Rt.ok, Fr.okB, Bool.and_eq_true, decide_eq_true_eq] at h
    exact h.2
  have hg : Int.gcd (a.num % a.den) a.den = 1 := by
    have h1 : Int.gcd a.num a.den = 1 := hg0
    have h2 : Int.gcd (a.num % a.den + a.num / a.den * a.den) a.den = Int.gcd (a.num % a.den) a.den := Int.gcd_add_mul_right_left ..
    have h3 : a.num % a.den + a.num / a.den * a.den = a.num := by
      have := Int.mul_ediv_add_emod a.num a.den
      rw [Int.mul_comm] at this; omega
    rw [h3] at h2
    rw [← h2]; exact h1
  show Fr.okB _ _ = true
  unfold Fr.okB
  have : Fr.inB (a.num % a.den) a.den = true := Fr.in_iff.2 (by rw [Int.ediv_eq_zero_of_lt oa.2.2.2.2.1 oa.2.2.2.2.2]; omega)
  rw [this]
  have hg' : Nat.gcd (a.num % a.den).natAbs a.den.natAbs = 1 := hg
  simp only [hg']
  simp; omega
/-- what is left over of two times, over the same. -/
def rX (t u : Rt) : Int := t.num % t.den * u.den
theorem place_eq {t u : Rt} (ht : t.ok = true) (hu : u.ok = true) : place t = 2 * (t.num / t.den) + (if rX t u = 0 then 0 else 1) := by
  have ot := Fr.ok_bd ht
  have ou := Fr.ok_bd hu
  have hf : (Fr.floor t).1 = t.num / t.den := by unfold Fr.floor; rw [if_pos ht]
  unfold place
  rw [part_eq ht, hf]
  simp only
  have : t.num % t.den = 0 ↔ rX t u = 0 := by
    unfold rX
    rw [Int.mul_eq_zero]
    constructor
    · exact .inl
    · rintro (h | h)
      · exact h
      · omega
  by_cases h : t.num % t.den = 0
  · rw [if_pos h, if_pos (this.1 h)]; omega
  · rw [if_neg h, if_neg (fun hh => h (this.2 hh))]
theorem cmp_part {t u : Rt} (ht : t.ok = true) (hu : u.ok = true) : (Fr.cmp (part t) (part u)).1 = cmpI (rX t u) (rX u t) := by
  unfold Fr.cmp
  rw [if_pos ⟨part_ok ht, part_ok hu⟩]
  unfold Fr.cmpR
  rw [part_eq ht, part_eq hu]
  rfl
theorem rX_bd {t u : Rt} (ht : t.ok = true) (hu : u.ok = true) : 0 ≤ rX t u := by
  have ot := Fr.ok_bd ht
  have ou := Fr.ok_bd hu
  exact Int.mul_nonneg ot.2.2.2.2.1 (by omega)
theorem cmp_iff {t u : Rt} (ht : t.ok = true) (hu : u.ok = true) : (Fr.cmp t u).1 < 0 ↔ t.num / t.den < u.num / u.den ∨ (t.num / t.den = u.num / u.den ∧ rX t u < rX u t) := by
  have h := (Fr.sign_eq ht hu 0).1
  have e : (Fr.cmp t u).1 < 0 ↔ t.num * u.den < u.num * t.den := by
    unfold Fr.cmp; rw [if_pos ⟨ht, hu⟩]; exact Fr.cmpI_lt
  rw [e]
  rw [Int.zero_mul] at h
  have : t.num * u.den < u.num * t.den ↔ t.num * u.den - u.num * t.den < 0 := by omega
  rw [this, ← h]
  unfold Fr.sign Fr.rest
  show (if cmpI _ 0 ≠ 0 then cmpI _ 0 else cmpI (rX t u) (rX u t)) < 0 ↔ _
  generalize rX t u = x
  generalize rX u t = y
  generalize t.num / t.den = a
  generalize u.num / u.den = b
  unfold cmpI
  split <;> split <;> omega
/-- what a region's places and its order are. -/
def may3 (T U r : Int) : Bool := decide (0 ≤ T) && decide (T ≤ U) && decide (U ≤ 32) && decide (0 ≤ r) && decide (r ≤ 2) && (decide (T < U) || (decide (T % 2 = 1) && decide (r = 0))) && (decide (T % 2 = 1 ∧ U % 2 = 1) || decide (r = 1))
end Rg
end Go.Proofs.YtjbhpfmnfdebkaaGreat

