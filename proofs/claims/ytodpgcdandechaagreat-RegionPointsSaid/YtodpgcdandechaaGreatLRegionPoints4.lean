/-
  Merged texts of this law (each with its own head below).
-/
import Derived.Test.YtodpgcdandechaaGreatLRegionPoints3
import Derived.Shelf.SlIterI.Nil
import Derived.Shelf.SlIterI.Sorted
import Derived.Shelf.SlIterI.Collect
import Derived.Shelf.SlGeneric
import Derived.Shelf.SortM.Plain
import Derived.Shelf.SortM.SortNone
import Derived.Ground.GgzProg
import Derived.Ground.SlgmProg
import Derived.Test.YtodpgcdandechaaGreatProg
import Derived.Maps.Own
import Derived.Maps.Views
import Derived.Lib.SlKeysI
import Derived.Shelf.Bits.Mul64
import Derived.Shelf.Spec.BitsCarry
import Derived.Ground.NamesProg
import Derived.Laws.StructEq
/-
  slices.IndexFunc and ContainsFunc at a list of api.Rat: with a function that answers p of an element, and goes from T k to T (k + 1).
-/
namespace Go.Proofs.YtodpgcdandechaaGreat
set_option linter.unusedVariables false
set_option linter.unusedSimpArgs false
set_option maxRecDepth 100000
open Go.RowKit Go.Proofs.YtodpgcdandechaaGreat.Eng Enc

theorem indexR_any (l : List Rt) (p : Rt → Bool) (a : Option Addr) (cap : Nat) (fid : FuncId) (caps : Array Value) (B : Nat) (w : World) (hB : B ≤ w.heap.size) (hS : Sl B w (.slice a l.length cap) l)
    (T : Nat → World → Prop) (h0 : T 0 w) (hst : ∀ k W W', T k W → Below W.heap.size W W' → T k W') (en : Enters Tryz.prog fid)
    (hcall : ∀ k x W, l[k]? = some x → Below B w W → T k W → Calls Tryz.prog fid (val x :: caps.toList).toArray W fun e W' => e = .returned (.bool (p x)) ∧ Below B W W' ∧ T (k + 1) W') :
    Calls Tryz.prog 210 #[.slice a l.length cap, .func (.func fid) #[] caps] w fun e w' => ∃ v, e = .returned v ∧ Below B w w' ∧ v = .int .i64 (idxF p l) ∧ T (cntF p l) w' := by
  obtain ⟨a', cap', e', hcap, hmax, _⟩ := hS.form
  injection e' with e1 e2 e3
  subst e1; subst e3
  unfold maxLen at hmax
  refine fun_at 0 B w hB Tryz.func210 (args := [.val (.slice a l.length cap), .val (.func (.func fid) #[] caps)]) rfl rfl ?_
  refine LoopI.inv (α := Nat × World) (fun x => [(8, .val (.int .i64 x.1))]) (fun _ => []) (fun x => x.2) (fun x => x.1 ≤ l.length ∧ T x.1 x.2 ∧ Below B w x.2 ∧ ∀ j y, j < x.1 → l[j]? = some y → p y = false) (fun x => l.length - x.1) ?_ ?_
  · intro w1 h1
    exact ⟨(0, w1), Cov.mk (by repeat' (first | exact trivial | refine And.intro rfl ?_)) rfl rfl rfl rfl rfl, rfl, Nat.zero_le _, hst _ _ _ h0 h1.go, h1.below, fun j y hj => by omega⟩
  · rintro ⟨k, W⟩ ⟨hk, hT, hBw, hno⟩
    refine Branch.mk (fun hb => ?_) (fun hb => ?_)
    · have hlt : k < l.length := by simpa using hb
      obtain ⟨x, hx⟩ : ∃ x, l[k]? = some x := ⟨l[k], List.getElem?_eq_getElem hlt⟩
      refine hS.idx hx fun ad had => ?_
      refine hS.ld hx had hBw (by simp) ?_
      refine Need.mk en ?_
      refine CallI.mk fun w1 h1 => ?_
      have hT1 := hst _ _ _ hT h1.go
      refine (hcall k x w1 hx h1.below hT1).mono ?_
      rintro e w2 ⟨rfl, hB2, hT2⟩
      refine ⟨⟨hB2, by simp⟩, _, rfl, ?_⟩
      refine Branch.mk (fun hp => ?_) (fun hp => ?_)
      · refine EndI.mk fun w3 h3 => ?_
        obtain ⟨i1, i2⟩ := idxF_at p l k x hx hp hno
        refine ⟨by rw [i1], by rw [i2]; exact hst _ _ _ hT2 h3.go⟩
      · refine Need.mk (by show _ ∧ _; omega) (EndI.mk fun w3 h3 => ?_)
        refine ⟨(k + 1, w3), Cov.mk (by repeat' (first | exact trivial | refine And.intro rfl ?_)) rfl rfl rfl rfl rfl, rfl, ⟨hlt, hst _ _ _ hT2 h3.go, h3.below, fun j y hj hy => ?_⟩, by simp only; omega⟩
        by_cases hjk : j = k
        · subst hjk; rw [hx] at hy; injection hy with hy; subst hy; exact hp
        · exact hno j y (by omega) hy
    · have hge : k = l.length := by have : ¬ k < l.length := by simpa using hb
                                    omega
      subst hge
      refine EndI.mk fun w3 h3 => ?_
      obtain ⟨i1, i2⟩ := idxF_none p l fun j y hy => hno j y (List.getElem?_eq_some_iff.1 hy).1 hy
      exact ⟨by rw [i1], by rw [i2]; exact hst _ _ _ hT h3.go⟩

theorem containsR_any (l : List Rt) (p : Rt → Bool) (a : Option Addr) (cap : Nat) (fid : FuncId) (caps : Array Value) (B : Nat) (w : World) (hB : B ≤ w.heap.size) (hS : Sl B w (.slice a l.length cap) l)
    (T : Nat → World → Prop) (h0 : T 0 w) (hst : ∀ k W W', T k W → Below W.heap.size W W' → T k W') (en : Enters Tryz.prog fid)
    (hcall : ∀ k x W, l[k]? = some x → Below B w W → T k W → Calls Tryz.prog fid (val x :: caps.toList).toArray W fun e W' => e = .returned (.bool (p x)) ∧ Below B W W' ∧ T (k + 1) W') :
    Calls Tryz.prog 149 #[.slice a l.length cap, .func (.func fid) #[] caps] w fun e w' => ∃ v, e = .returned v ∧ Below B w w' ∧ v = .bool (l.any p) ∧ T (cntF p l) w' := by
  refine fun_at 0 B w hB Tryz.func149 (args := [.val (.slice a l.length cap), .val (.func (.func fid) #[] caps)]) rfl rfl ?_
  refine CallI.mk fun w1 h1 => ?_
  have hB1 : B ≤ w1.heap.size := Nat.le_trans hB h1.size
  refine (indexR_any l p a cap fid caps B w1 hB1 (hS.below h1.below) T (hst _ _ _ h0 h1.go) hst en fun k x W hx hW hT => hcall k x W hx (h1.below.trans hW) hT).mono ?_
  rintro e w2 ⟨v, rfl, hB2, rfl, hT⟩
  refine ⟨⟨hB2, by simp⟩, _, rfl, ?_⟩
  refine EndI.mk fun w3 h3 => ⟨?_, hst _ _ _ hT h3.go⟩
  rw [← idxF_any]

/-- with a function that leaves the memory alone. -/
theorem containsR_pure (l : List Rt) (p : Rt → Bool) (a : Option Addr) (cap : Nat) (fid : FuncId) (caps : Array Value) (w : World) (hS : Sl w.heap.size w (.slice a l.length cap) l) (en : Enters Tryz.prog fid)
    (hcall : ∀ x W, x ∈ l → Below w.heap.size w W → Calls Tryz.prog fid (val x :: caps.toList).toArray W fun e W' => e = .returned (.bool (p x)) ∧ Below W.heap.size W W') :
    Calls Tryz.prog 149 #[.slice a l.length cap, .func (.func fid) #[] caps] w fun e w' => e = .returned (.bool (l.any p)) ∧ Below w.heap.size w w' := by
  refine (containsR_any l p a cap fid caps w.heap.size w (Nat.le_refl _) hS (fun _ _ => True) trivial (fun _ _ _ _ _ => trivial) en fun k x W hx hB _ => ?_).mono ?_
  · refine (hcall x W (List.mem_of_getElem? hx) hB).mono ?_
    rintro e W' ⟨rfl, hB'⟩
    exact ⟨rfl, hB'.mono hB.size, trivial⟩
  · rintro e w' ⟨v, rfl, hB, rfl, _⟩
    exact ⟨rfl, hB⟩
end Go.Proofs.YtodpgcdandechaaGreat

/-
  The contract of dbm.Keeps, by the engine.
-/
namespace Go.Proofs.YtodpgcdandechaaGreat
set_option linter.unusedVariables false
set_option linter.unusedSimpArgs false
set_option maxRecDepth 100000
open Go.RowKit Go.Proofs.YtodpgcdandechaaGreat.Eng Enc

namespace Dbm
/-- all moments of times: 0 and they. -/
def moments (T : List Rt) : List Rt := ⟨0, 1⟩ :: T
def pairOk (n : Nat) (L : List Int) (A : List Rt) (x : Nat) : Bool := (Fr.keeps (A[x / n]?.getD ⟨0, 1⟩) (A[x % n]?.getD ⟨0, 1⟩) (L[x]?.getD 0)).1
def keptL (n : Nat) (L : List Int) (T : List Rt) : Bool := (List.range (n * n)).all (pairOk n L (moments T))
def keeps (n : Int) (L : List Int) (T : List Rt) : Bool × Int :=
  if Dbm.chk n L = 0 ∧ T.all Rt.ok = true then (if (T.length : Int) = n - 1 then (keptL n.toNat L T, 0) else (false, 40)) else (false, 8)
end Dbm

theorem keeps1_any (x : Rt) (hx : x.ins) (w : World) : Calls Tryz.prog 150 #[.agg #[.int .i64 x.num, .int .i64 x.den]] w fun e w' => e = .returned (.bool (!x.ok)) ∧ Below w.heap.size w w' := by
  refine fun_eq 0 w Tryz.func150 (args := [.agg [.val (.int .i64 x.num), .val (.int .i64 x.den)]]) rfl rfl ?_
  repeat' (first
    | (refine CallI.to1 (rcheck_any x.num x.den hx.1 hx.2) fun w2 => ?_)
    | (refine Branch.yes rfl ?_)
    | (refine Branch.no rfl ?_)
    | (refine Branch.mk (fun hb => ?_) (fun hb => ?_))
    | (refine NewI.mk fun nb hnb => ?_)
    | (refine Need.mk (by show _ ∧ _; omega) ?_)
    | (refine Need.mk (by omega) ?_)
    | (refine Need.mk ?_ ?_)
    | (refine EndI.mk fun w1 h1 => ?_))
  cases h : x.ok
  · rw [Fr.chk_no h]; rfl
  · rw [Fr.chk_yes h]; rfl

theorem at2_any (n i j : Int) (h : Nat) (ad : Addr) (len cap : Nat) (h0 : 0 ≤ i * n + j) (h1 : i * n + j < len) (hin : inK .i64 (i * n) ∧ inK .i64 (i * n + j)) (w : World) (c0 : w.cell? ⟨h, 0, none⟩ = some (.int .i64 n)) (c1 : w.cell? ⟨h, 1, none⟩ = some (.slice (some ad) len cap)) :
    Calls Tryz.prog 152 #[.pointer (some ⟨h, 0, none⟩), .int .i64 i, .int .i64 j] w fun e w' => e = .returned (.pointer (some (ad.add ((i * n + j).toNat * 1)))) ∧ Below w.heap.size w w' := by
  refine fun_eq 0 w Tryz.func152 (args := [.val (.pointer (some ⟨h, 0, none⟩)), .val (.int .i64 i), .val (.int .i64 j)]) rfl rfl ?_
  refine DrawI.go (.tk 0 (.tk 1 (.tk 2 (.tk 3 (.tk 4 (.tk 5 (.tk 6 (.tk 7 (.tk 8 (.tk 9 (.tk 10 (.tk 11 (.tk 12 (.tk 13 (.tk 14 (.tk 15 .done)))))))))))))))) (by kernel_rfl) fun w1 k1 => ?_
  have hB := k1.go
  refine LoadI.mk ⟨_, ⟨(hB.cell (p := ⟨h, 1, none⟩) (World.block_lt_of_cell? _ _ c1)).trans c1, by simp⟩, ?_⟩
  refine LoadI.mk ⟨_, ⟨(hB.cell (p := ⟨h, 0, none⟩) (World.block_lt_of_cell? _ _ c0)).trans c0, by simp⟩, ?_⟩
  refine Need.mk hin.1 ?_
  refine Need.mk hin.2 ?_
  refine IdxI.mk ⟨_, ⟨rfl, h0, h1⟩, ?_⟩
  exact EndI.mk fun w2 k2 => rfl

theorem infoRat : (Tryz.prog.info? 23).map (fun i => (i.zero, i.size, i.bytes)) = some (some (.agg #[.int .i64 0, .int .i64 0]), 2, 16) := by kernel_rfl
theorem elR : ElOk Tryz.prog 121 23 2 16 := elOk (by kernel_rfl) infoRat rfl (by decide)
theorem keepsFrom_below {B : Nat} {W W' : World} (h : Below W.heap.size W W') : KeepsFrom B W W' := ⟨h.size, fun k o _ hk hc => (h.block k (Array.getElem?_eq_some_iff.1 hk).1).trans hk⟩
theorem keepsFrom_own {B : Nat} {L : List Nat} {W w1 w2 : World} (h : Below W.heap.size W w1) (hs : w1.heap.size ≤ w2.heap.size) (hst : ∀ k, k < w1.heap.size → k ∉ L → w2.heap[k]? = w1.heap[k]?) (hL : ∀ b, b ∈ L → ∃ cs t f, W.heap[b]? = some (.cells cs t f)) : KeepsFrom B W w2 :=
  ⟨Nat.le_trans h.size hs, fun k o _ hk hc => by
    have hkW := (Array.getElem?_eq_some_iff.1 hk).1
    refine ((hst k (Nat.lt_of_lt_of_le hkW h.size) fun hm => ?_).trans (h.block k hkW)).trans hk
    obtain ⟨cs, t, f, e⟩ := hL k hm
    rw [hk] at e; injection e with e; subst e; cases hc⟩
theorem Own.own {α : Type} [Enc α] {w0 : Base} {hp : List LB} {r L : List Nat} {w w1 : World} {l : List α} (h : At w0 hp r L w w1) (i : Nat) {b n : Nat} {c : LB} (hi : r[i]? = some b) (hc : hget hp i = some c) (hm : denL r c.cells = cellsL l) (hb : w0.B ≤ b) (hn : n = l.length := by rfl) (hmax : n ≤ maxLen := by decide) : Own c.ty w0.B w1 (.slice (some ⟨b, 0, none⟩) n n) l := by
  subst hn
  have h1 := h.blk i b c hi hc
  refine ⟨cellsL_len l, .inr ⟨b, _, _, rfl, hb, h1, Nat.le_refl _, hmax, ?_, ?_⟩⟩
  · rw [hm, List.size_toArray, cellsL_len]
  · rw [hm, List.take_of_length_le (by rw [cellsL_len]; exact Nat.le_refl _)]
theorem dkeeps_any (n : Int) (a : Option Addr) (cap : Nat) (L : List Int) (T : List Rt) (at_ : Option Addr) (ct : Nat) (w : World) (hT : ∀ x ∈ T, x.ins) (hS : Sl w.heap.size w (.slice a L.length cap) L) (hST : Sl w.heap.size w (.slice at_ T.length ct) T) :
    Calls Tryz.prog 81 #[.agg #[.int .i64 n, .slice a L.length cap], .slice at_ T.length ct] w (Ret w fun v w' => v = .tuple #[.bool (Dbm.keeps n L T).1, .int .i64 (Dbm.keeps n L T).2]) := by
  refine fun_at 9 w.heap.size w (Nat.le_refl _) Tryz.func81 (args := [.agg [.val (.int .i64 n), .val (.slice a L.length cap)], .val (.slice at_ T.length ct)]) rfl rfl ?_
  refine NewI.mk fun b1 hb1 => ?_
  refine NewI.mk fun b2 hb2 => ?_
  refine NewI.mk fun b3 hb3 => ?_
  apply CallI.use1
  · exact fun w1 h1 => dcheck_any n a cap L w1 (Sl.at h1 hS)
  intro w1 w2 h1 hB2
  refine Branch.mk (fun hc => ?_) (fun hc => ?_)
  · refine EndI.mk fun w3 h3 => ?_
    have h0 : Dbm.chk n L ≠ 0 := by simpa using hc
    rw [Dbm.keeps, if_neg (fun h => h0 h.1)]
  have hc0 : Dbm.chk n L = 0 := by simpa using hc
  apply CallI.use1
  · exact fun w3 h3 => containsR_pure T (fun x => !x.ok) at_ ct 150 #[] w3 (Sl.at h3 hST) Tryz.call150 fun x W hx _ => keeps1_any x (hT x hx) W
  intro w3 w4 h3 hB4
  refine Branch.mk (fun hc2 => ?_) (fun hc2 => ?_)
  · refine EndI.mk fun w5 h5 => ?_
    have h0 : ¬ T.all Rt.ok = true := by
      simp only [List.any_eq_true] at hc2
      obtain ⟨x, hx, h⟩ := hc2
      rw [List.all_eq_true]
      intro h'
      rw [h' x hx] at h; cases h
    rw [Dbm.keeps, if_neg (fun h => h0 h.2)]
  have hok : T.all Rt.ok = true := by
    rw [List.all_eq_true]
    intro x hx
    cases h : Rt.ok x
    · have : (T.any fun x => !x.ok) = true := List.any_eq_true.2 ⟨x, hx, by rw [h]; rfl⟩
      rw [this] at hc2; cases hc2
    · rfl
  obtain ⟨c1, c2, c3, c4⟩ := Dbm.chk_iff.1 hc0
  refine Need.mk (by show _ ∧ _; omega) ?_
  refine Branch.mk (fun hc3 => ?_) (fun hc3 => ?_)
  · refine EndI.mk fun w5 h5 => ?_
    have h0 : ¬ ((T.length : Int) = n - 1) := by simpa using hc3
    rw [Dbm.keeps, if_pos ⟨hc0, hok⟩, if_neg h0]
  have hlen : (T.length : Int) = n - 1 := by simpa using hc3
  have hkp : Dbm.keeps n L T = (Dbm.keptL n.toNat L T, 0) := by rw [Dbm.keeps, if_pos ⟨hc0, hok⟩, if_pos hlen]
  rw [hkp]
  refine NewI.mk fun b4 hb4 => ?_
  refine GenN.appF (α := Rt) elR [⟨0, 1⟩] T w.heap.size rfl ?_ (fun w5 h5 => (Sl.at h5 hST).src) (by unfold maxLen; simp; omega) (by simp; omega) (fun w5 h5 => h5.below.size) ?_
  · exact fun w5 h5 => Own.own h5 3 rfl rfl rfl (Nat.le_trans (Nat.le_trans h3.below.size hB4.size) hb4)
  intro v w5 w6 h5 hB6 hO
  obtain ⟨av, cv, rfl⟩ := hO.form
  refine NewI.mk fun b5 hb5 => ?_
  refine NewI.mk fun b6 hb6 => ?_
  refine NewI.mk fun b7 hb7 => ?_
  apply CallI.mk
  intro w7 h7
  refine (callsIn_wide.1 (pairs_any n w7)).mono ?_
  rintro e w8 ⟨rfl, rfl⟩
  have hB1 : Below w7.heap.size w7 (w7.alloc (.cells #[.int .i64 n] 3)) := below_al (Below.refl _ _)
  refine ⟨h7.keep hB1, _, rfl, ?_⟩
  have hBs : (w7.alloc (.cells #[.int .i64 (n : Int)] 3)).cell? ⟨w7.heap.size, 0, none⟩ = some (.int .i64 n) := by simp
  have hsz : w7.heap.size < (w7.alloc (.cells #[.int .i64 (n : Int)] 3)).heap.size := by simp
  generalize hw2 : w7.alloc (.cells #[.int .i64 (n : Int)] 3) = w8 at hBs hsz hB1
  generalize hbs : w7.heap.size = Bs at hBs hsz
  refine RawI.mk fun ac w9 hR => ?_
  have h9 := hR.at_
  have hB9 : Below w8.heap.size w8 w9 := h9.go
  have hBs9 : Bs < w9.heap.size := Nat.lt_of_lt_of_le hsz hB9.size
  have hc9 : w9.cell? ⟨Bs, 0, none⟩ = some (.int .i64 n) := (hB9.cell (p := ⟨Bs, 0, none⟩) hsz).trans hBs
  have hw6 : Below w.heap.size w w6 := h5.below.trans (hB6.mono h5.below.size)
  have hB7 : Below w6.heap.size w6 w7 := h7.from hw6 (Below.refl _ _) (by intro b hb; simp at hb; rcases hb with rfl | rfl | rfl <;> assumption)
  have hSA : Sl w9.heap.size w9 (.slice av ([(⟨0, 1⟩ : Rt)] ++ T).length cv) ([⟨0, 1⟩] ++ T) := ((hO.sl.go hB7 hB7.size).go hB1 hB1.size).go hB9 hB9.size
  obtain ⟨N, rfl⟩ : ∃ N : Nat, n = N := ⟨n.toNat, by omega⟩
  have hN1 : 1 ≤ N := by omega
  have hN4 : N ≤ 4 := by omega
  have hLl : L.length = N * N := by exact_mod_cast c3
  refine rangeD cxOk (by decide) hR rfl Tryz.call199 (pairs_stops N (by omega) (by omega) (N * N) rfl Bs w9 hBs9 hc9) (fun h k => k.trans h) (fun W l o o' => keepsBox_put hBs9 W l o o')
    (fun W W' hs hg => World.cell?_of_block (hg.block Bs (Nat.lt_of_lt_of_le hBs9 hs) (by rintro ⟨⟩))) (fun x => rfl) (fun _ => _) (fun pre W => w9.grownBy W none ∧ ∀ x ∈ pre, Dbm.pairOk N L (Dbm.moments T) x.1 = true) ?_ rfl ⟨grown_refl _ _, by simp⟩ (fun c _ _ => c = .ret ∧ Dbm.keptL N L T = false) (fun _ _ => [⟨[.val (.int .i64 N), .val (.slice a L.length cap)], 101⟩, ⟨[.kb false], 4⟩, ⟨[.val (.int .i64 0)], 26⟩, ⟨[.val (.int .i64 0), .val (.int .i64 1)], 23⟩, ⟨[.val (.slice av ([(⟨0, 1⟩ : Rt)] ++ T).length cv)], 121⟩, ⟨[.val (.int .i64 N), .val (.slice a L.length cap)], 192⟩, ⟨[.loc 5 0], 190⟩]) (fun _ _ _ _ _ h _ _ => h) _
    (fun l z hp W => And.intro rfl rfl) ?_ ?_ ?_
  · intro pre W W' row hs hg' hr'
    exact ⟨ownFrom_grown (row0 := none) (w := w9) (Nat.le_refl _) pre W W' row hs.1 hg' hr', hs.2⟩
  · rintro l pre x W ⟨gW, hall⟩ hBW hsW hlen
    obtain ⟨x, hx⟩ := x
    have e3 := idx_ij hN1 hN4 hx
    have hxi : x / N < N := Nat.div_lt_of_lt_mul hx
    have hxj : x % N < N := Nat.mod_lt _ hN1
    have hAl : ([(⟨0, 1⟩ : Rt)] ++ T).length = N := by simp; omega
    have hAi : ∀ y ∈ [(⟨0, 1⟩ : Rt)] ++ T, y.ins := by
      intro y hy
      rcases List.mem_append.1 hy with h | h
      · rw [List.mem_singleton.1 h]; simp [Rt.ins, inK]
      · exact hT y h
    have hg1 := List.getElem?_eq_getElem (l := [(⟨0, 1⟩ : Rt)] ++ T) (i := x / N) (by rw [hAl]; exact hxi)
    have hg2 := List.getElem?_eq_getElem (l := [(⟨0, 1⟩ : Rt)] ++ T) (i := x % N) (by rw [hAl]; exact hxj)
    generalize ([(⟨0, 1⟩ : Rt)] ++ T)[x / N]'_ = y1 at hg1
    generalize ([(⟨0, 1⟩ : Rt)] ++ T)[x % N]'_ = y2 at hg2
    have hgL := List.getElem?_eq_getElem (l := L) (i := x) (by rw [hLl]; exact hx)
    generalize L[x]'_ = bx at hgL
    have hok1 : Dbm.pairOk N L (Dbm.moments T) x = (Fr.keeps y1 y2 bx).1 := by
      unfold Dbm.pairOk Dbm.moments
      have e1 : (⟨0, 1⟩ :: T : List Rt) = [⟨0, 1⟩] ++ T := rfl
      rw [e1, hg1, hg2, hgL]; rfl
    have B9 : Below w9.heap.size w9 W := ⟨gW.os, gW.tape, gW.output, gW.size, fun k hk => gW.block k hk (by simp)⟩
    refine DrawI.go (.tk 0 (.tk 1 (.tk 2 (.tk 3 (.tk 4 (.tk 5 (.tk 6 (.tk 7 (.tk 8 (.tk 9 (.tk 10 (.ev 11 (.tk 12 (.tk 13 (.ev 14 (.tk 15 (.tk 16 (.tk 17 (.tk 18 (.tk 19 .done)))))))))))))))))))) (by kernel_rfl) fun w10 h10 => ?_
    have hA10 : Sl w10.heap.size w10 (.slice av ([(⟨0, 1⟩ : Rt)] ++ T).length cv) ([⟨0, 1⟩] ++ T) := (hSA.go B9 B9.size).go h10.go h10.go.size
    have e1 : ((x : Int) / N) = ((x / N : Nat) : Int) := rfl
    have e2 : ((x : Int) % N) = ((x % N : Nat) : Int) := rfl
    refine hA10.idx hg1 fun ad had => ?_
    refine hA10.ld hg1 had (Below.refl _ _) (by simp) ?_
    refine hA10.idx hg2 fun ad2 had2 => ?_
    refine hA10.ld hg2 had2 (Below.refl _ _) (by simp) ?_
    have hS10 := hS.go h10.below h10.below.size
    obtain ⟨al, hal⟩ : ∃ al, a = some al := by
      obtain ⟨_, _, e0, _, _, _, h4⟩ := hS10
      obtain ⟨b, o, h, _⟩ := h4 x bx hgL
      injection e0 with e0
      exact ⟨_, e0.trans h⟩
    subst hal
    apply CallI.use1
    · exact fun w11 h11 => at2_any N _ _ b6 al L.length cap e3.1 (by rw [hLl]; exact e3.2.1) ⟨e3.2.2.1, e3.2.2.2.1⟩ w11 (h11.own (i := 5) (o := 0) rfl rfl rfl) (h11.own (i := 5) (o := 1) rfl rfl rfl)
    intro w11 w12 h11 hB12
    rw [e3.2.2.2.2]
    refine hS10.ld1 hgL rfl (Below.refl _ _) (by simp) ?_
    apply CallI.use1
    · exact fun w13 h13 => rkeeps_any y1 y2 (hAi y1 (List.mem_of_getElem? hg1)) (hAi y2 (List.mem_of_getElem? hg2)) bx w13
    intro w13 w14 h13 hB14
    refine Branch.mk (fun hb => ?_) (fun hb => ?_)
    · have hno : (Fr.keeps y1 y2 bx).1 = false := by simpa using hb
      refine Need.mk (CovH.mk rfl rfl rfl) (EndI.mk fun w15 h15 => ⟨?_, rfl, ?_⟩)
      · have k12 := h11.step2 hB12
        have B10 := h10.go
        have B14 : Below W.heap.size W w14 := B10.trans ((k12.trans ((h13.step2 hB14).mono k12.size)).mono B10.size)
        refine keepsFrom_own B14 h15.size h15.step fun b hb => ?_
        simp at hb
        rcases hb with rfl | rfl
        · exact ⟨_, _, _, (gW.block _ (h9.lt _ (by simp)) (by simp)).trans (h9.blk 2 _ ⟨_, _⟩ (by rfl) (by rfl))⟩
        · exact ⟨_, _, _, (gW.block _ (h9.lt _ (by simp)) (by simp)).trans (h9.blk 1 _ ⟨_, _⟩ (by rfl) (by rfl))⟩
      · rw [Dbm.keptL, List.all_eq_false]
        exact ⟨x, List.mem_range.2 hx, by rw [hok1, hno]; simp⟩
    · have hyes : (Fr.keeps y1 y2 bx).1 = true := by simpa using hb
      have k12 := h11.step2 hB12
      have B10 := h10.go
      have B14 : Below W.heap.size W w14 := B10.trans ((k12.trans ((h13.step2 hB14).mono k12.size)).mono B10.size)
      refine Need.mk (CovH.mk rfl rfl rfl) (EndI.mk fun w15 h15 => ?_)
      have B15 : Below W.heap.size W w15 := B14.trans (h15.go.mono B14.size)
      refine ⟨keepsFrom_below B15, World.cell?_of_block (B15.block Bs (Nat.lt_of_lt_of_le hBs9 hsW)), grown_below gW B15, ?_⟩
      intro z hz
      rcases List.mem_append.1 hz with h | h
      · exact hall z h
      · rw [List.mem_singleton.1 h]
        show Dbm.pairOk N L (Dbm.moments T) x = true
        rw [hok1, hyes]
  · rintro D xs W hD hSx ⟨gW, hall⟩ hmark
    have hk : Dbm.keptL N L T = true := by
      rw [Dbm.keptL, List.all_eq_true]
      intro x hx
      rw [← hSx] at hx
      obtain ⟨y, hy, rfl⟩ := List.mem_map.1 hx
      exact hall y hy
    have hDW : D < W.heap.size := (Array.getElem?_eq_some_iff.1 hmark).1
    have hl2 := h9.lt b2 (by simp)
    have hl3 := h9.lt b3 (by simp)
    refine EndM.mk fun w10 h10 => ⟨⟨Nat.le_trans h9.below.size hD, (h10.step D hDW (by intro hm; simp at hm; omega)).trans hmark⟩, fun w11 hu => ?_⟩
    rw [Int.toNat_natCast, hk]
  · rintro D c e pre W hD hSp ⟨rfl, hk⟩ he hmark
    cases he
    have hDW : D < W.heap.size := (Array.getElem?_eq_some_iff.1 hmark).1
    refine EndM.mk fun w10 h10 => ⟨⟨Nat.le_trans h9.below.size hD, (h10.step D hDW (by simp)).trans hmark⟩, fun w11 hu => ?_⟩
    rw [Int.toNat_natCast, hk]
end Go.Proofs.YtodpgcdandechaaGreat

/-
  Rows of the run's own, gone on: an append in place, and a part struck out (clear).
-/
namespace Go.Proofs.YtodpgcdandechaaGreat
set_option linter.unusedVariables false
set_option linter.unusedSimpArgs false
open Go.RowKit Go.Proofs.YtodpgcdandechaaGreat.Eng Enc

section
variable {α : Type} [Enc α]
theorem cellsL_take (l : List α) (i : Nat) : cellsL (l.take i) = (cellsL l).take (i * size α) := by
  induction l generalizing i with
  | nil => simp [cellsL]
  | cons x l ih =>
    cases i with
    | zero => simp [cellsL]
    | succ i =>
      simp only [List.take_succ_cons, cellsL, ih]
      have h1 : (enc x).take ((i + 1) * size α) = enc x := List.take_of_length_le (by rw [len, Nat.succ_mul]; omega)
      have h2 : (i + 1) * size α - size α = i * size α := by rw [Nat.succ_mul]; omega
      rw [List.take_append, h1, len, h2]
theorem Own.take {e : TypeId} {base : Nat} {W : World} {g cap : Nat} {l : List α} (h : Own e base W (.slice (some ⟨g, 0, none⟩) l.length cap) l) (i : Nat) (hi : i ≤ l.length) : Own e base W (.slice (some ⟨g, 0, none⟩) i cap) (l.take i) := by
  obtain ⟨hl, ⟨h0, _⟩ | ⟨g', cap', cur, h0, hb, hg, hn, hm, hs, ht⟩⟩ := h
  · cases h0
  · injection h0 with h0 h1 h2
    injection h0 with h0; injection h0 with h0
    subst h0; subst h2
    have hli : (l.take i).length = i := by simp; omega
    refine ⟨cellsL_len _, .inr ⟨g, cap, cur, by rw [hli], hb, hg, by rw [hli]; omega, hm, hs, ?_⟩⟩
    rw [hli, cellsL_take, ← ht, List.take_take]
    congr 1
    have := Nat.mul_le_mul_right (size α) hi
    omega
theorem Own.at0 {e : TypeId} {base : Nat} {W : World} {g n cap : Nat} {l : List α} (h : Own e base W (.slice (some ⟨g, 0, none⟩) n cap) l) : n = l.length ∧ base ≤ g ∧ g < W.heap.size ∧ ∃ cur, W.heap[g]? = some (.cells cur e (0, 0)) ∧ l.length ≤ cap ∧ cap ≤ maxLen ∧ cur.size = cap * size α ∧ cur.toList.take (l.length * size α) = cellsL l := by
  obtain ⟨hl, ⟨h0, _⟩ | ⟨g', cap', cur, h0, hb, hg, hn, hm, hs, ht⟩⟩ := h
  · cases h0
  · injection h0 with h0 h1 h2
    injection h0 with h0; injection h0 with h0
    subst h0; subst h1; subst h2
    exact ⟨rfl, hb, (Array.getElem?_eq_some_iff.1 hg).1, cur, hg, hn, hm, hs, ht⟩
/-- cells turned behind a row's list. -/
theorem Own.setRow {e : TypeId} {base : Nat} {W : World} {g n cap : Nat} {l : List α} (h : Own e base W (.slice (some ⟨g, 0, none⟩) n cap) l) {cur : Array Value} (hc : W.heap[g]? = some (.cells cur e (0, 0))) (o : Nat) (vs : List Value) (ho : l.length * size α ≤ o) (hov : o + vs.length ≤ cur.size) :
    Own e base (W.setRow g (cur.toList.take o ++ vs ++ cur.toList.drop (o + vs.length)).toArray) (.slice (some ⟨g, 0, none⟩) n cap) l := by
  obtain ⟨rfl, hb, hlt, cur', hg, hn, hm, hs, ht⟩ := h.at0
  rw [hg] at hc
  injection hc with hc; injection hc with hc _; subst hc
  refine ⟨cellsL_len _, .inr ⟨g, cap, _, rfl, hb, setRow_heap W g cur' _ e _ hg, hn, hm, ?_, ?_⟩⟩
  · simp only [List.size_toArray, List.length_append, List.length_take, List.length_drop, Array.length_toList]; omega
  · rw [List.append_assoc, List.take_append_of_le_length (by simp; omega), List.take_take, Nat.min_eq_left ho]; exact ht

end

section
variable {α : Type} [Enc α]
end
end Go.Proofs.YtodpgcdandechaaGreat

/-
  What stays: the worlds that a run has come by, each of which still stands below; one list, lengthened call by call.
-/
namespace Go.Proofs.YtodpgcdandechaaGreat
set_option linter.unusedVariables false
open Go.RowKit Go.Proofs.YtodpgcdandechaaGreat.Eng Enc

/-- the worlds that the run has come by; w: the last one. -/
structure Stay (w0 : Base) (l : List World) (w : World) : Prop where
  base : ∀ X, X ∈ l → Below w0.B w0.W X
  all : ∀ X, X ∈ l → Below X.heap.size X w
theorem Stay.start {w0 : Base} {w : World} (h : Below w0.B w0.W w) : Stay w0 [w] w :=
  ⟨fun X hX => by rw [List.mem_singleton.1 hX]; exact h, fun X hX => by rw [List.mem_singleton.1 hX]; exact Below.refl _ _⟩
theorem Stay.first {w : World} : Stay ⟨w, w.heap.size, Nat.le_refl _⟩ [w] w := Stay.start (Below.refl _ _)
section
variable {w0 : Base} {l : List World} {hp : List LB} {r L : List Nat} {w w1 w2 : World}
/-- at a world at hand. -/
theorem Stay.at (st : Stay w0 l w) (h : At w0 hp r L w w1) (hL : ∀ b, b ∈ L → w.heap.size ≤ b) : Stay w0 (w1 :: l) w1 := by
  refine ⟨fun X hX => ?_, fun X hX => ?_⟩
  · rcases List.mem_cons.1 hX with rfl | hX
    · exact h.below
    · exact st.base X hX
  · rcases List.mem_cons.1 hX with rfl | hX
    · exact Below.refl _ _
    · exact h.from (st.base X hX) (st.all X hX) fun b hb => Nat.le_trans (st.all X hX).size (hL b hb)
theorem Stay.go (st : Stay w0 l w) (h : w0.B ≤ w.heap.size) (hb : Below w0.B w0.W w) (hB : Below w.heap.size w w2) : Stay w0 (w2 :: l) w2 := by
  refine ⟨fun X hX => ?_, fun X hX => ?_⟩
  · rcases List.mem_cons.1 hX with rfl | hX
    · exact hb.trans (hB.mono h)
    · exact st.base X hX
  · rcases List.mem_cons.1 hX with rfl | hX
    · exact Below.refl _ _
    · exact (st.all X hX).trans (hB.mono (st.all X hX).size)
theorem Stay.next (st : Stay w0 l w) (h : At w0 hp r L w w1) (hL : ∀ b, b ∈ L → w.heap.size ≤ b) (hB : Below w1.heap.size w1 w2) : Stay w0 (w2 :: w1 :: l) w2 :=
  (st.at h hL).go (Nat.le_trans w0.le h.below.size) h.below hB
theorem Stay.sub {m : List World} (st : Stay w0 l w) (h : ∀ X, X ∈ m → X ∈ l) : Stay w0 m w := ⟨fun X hX => st.base X (h X hX), fun X hX => st.all X (h X hX)⟩
theorem Stay.get (st : Stay w0 l w) {X : World} (hX : X ∈ l) : Below X.heap.size X w := st.all X hX
end
/-- a list that was shown at a world that the run has come by. -/
theorem Sl.st {α : Type} [Enc α] {w0 : Base} {l : List World} {X w : World} {sv : Value} {m : List α} (h : Sl X.heap.size X sv m) (st : Stay w0 l w) (hX : X ∈ l := by simp) : Sl w.heap.size w sv m := h.go (st.get hX) (st.get hX).size
/-- a slice's beginning. -/
theorem Sl.pre {α : Type} [Enc α] {n : Nat} {W : World} {a : Option Addr} {m cap : Nat} {l : List α} (h : Sl n W (.slice a m cap) l) (hi : Nat) (h2 : hi ≤ l.length) : Sl n W (.slice a hi cap) (l.take hi) := by
  obtain ⟨a', cap', e, c1, c2, c3, c4⟩ := h
  injection e with e1 e2 e3
  subst e1; subst e2; subst e3
  have hl : (l.take hi).length = hi := by simp; omega
  refine ⟨_, _, by rw [hl], by rw [hl]; omega, c2, c3, fun k x hk => ?_⟩
  rw [List.getElem?_take] at hk
  split at hk
  case isFalse => cases hk
  exact c4 k x hk
theorem Fresh.st {w0 : Base} {l : List World} {X w : World} {e : TypeId} {base : Nat} {sv : Value} {m : List Int} (h : Fresh e base X sv m) (st : Stay w0 l w) (hX : X ∈ l := by simp) : Fresh e base w sv m := h.below (st.get hX)
theorem Own.st {α : Type} [Enc α] {w0 : Base} {l : List World} {X w : World} {e : TypeId} {base : Nat} {sv : Value} {m : List α} (h : Own e base X sv m) (st : Stay w0 l w) (hX : X ∈ l := by simp) : Own e base w sv m := h.below (st.get hX)

/-- a list that a loop makes longer, in a row of the run's own: the worlds that stay; the row lies behind base, and base behind them and behind the run's blocks. -/
structure Lp {α : Type} [Enc α] (w0 : Base) (l : List World) (r : List Nat) (e : TypeId) (base : Nat) (W : World) (v : Value) (xs : List α) : Prop where
  st : Stay w0 l W
  own : Own e base W v xs
  anc : ∀ X, X ∈ l → X.heap.size ≤ base
  blk : ∀ b, b ∈ r → b < base
  size : base ≤ W.heap.size
  b0 : w0.B ≤ base
section
variable {α : Type} [Enc α] {w0 : Base} {l : List World} {hp : List LB} {r r0 L : List Nat} {w w1 w2 : World} {e : TypeId} {base : Nat} {v sv : Value} {xs : List α}
theorem Lp.start (st : Stay w0 l w) (h : At w0 hp r L w w1) (hL : ∀ b, b ∈ L → w.heap.size ≤ b) : Lp w0 l r e w1.heap.size w1 (.slice none 0 0) ([] : List α) := by
  have s1 := st.at h hL
  refine ⟨⟨fun X hX => st.base X hX, fun X hX => s1.all X (List.mem_cons_of_mem _ hX)⟩, Own.nil, fun X hX => (s1.all X (List.mem_cons_of_mem _ hX)).size, fun b hb => h.lt b hb, Nat.le_refl _, Nat.le_trans w0.le h.below.size⟩
theorem Lp.go (lp : Lp w0 l r0 e base w v xs) (hB : Below w.heap.size w w2) : Lp w0 l r0 e base w2 v xs :=
  ⟨⟨lp.st.base, fun X hX => (lp.st.all X hX).trans (hB.mono (lp.st.all X hX).size)⟩, lp.own.below hB, lp.anc, lp.blk, Nat.le_trans lp.size hB.size, lp.b0⟩
theorem Lp.at (lp : Lp w0 l r0 e base w v xs) (h : At w0 hp r L w w1) (hL : ∀ b, b ∈ L → w.heap.size ≤ b ∨ b < base ∧ ∀ X, X ∈ l → X.heap.size ≤ b) : Lp w0 l r0 e base w1 v xs := by
  refine ⟨⟨lp.st.base, fun X hX => h.from (lp.st.base X hX) (lp.st.all X hX) fun b hb => ?_⟩, ?_, lp.anc, lp.blk, Nat.le_trans lp.size h.size, lp.b0⟩
  · rcases hL b hb with h1 | h1
    · exact Nat.le_trans (lp.st.all X hX).size h1
    · exact h1.2 X hX
  · obtain ⟨hl, h0 | ⟨g, cap, cur, e1, e2, e3, e4⟩⟩ := lp.own
    · exact ⟨hl, .inl h0⟩
    · have hg := (Array.getElem?_eq_some_iff.1 e3).1
      exact ⟨hl, .inr ⟨g, cap, cur, e1, e2, (h.step g hg (fun e => by have := hL g e; omega)).trans e3, e4⟩⟩
/-- a list that begins as a block of the run's own that is full, and is lengthened. -/
def Lq (α : Type) [Enc α] (w0 : Base) (l : List World) (r : List Nat) (e : TypeId) (W : World) (v : Value) (b : Nat) (x0 xs : List α) : Prop :=
  (v = .slice (some ⟨b, 0, none⟩) x0.length x0.length ∧ xs = x0 ∧ Stay w0 l W) ∨ ∃ base, Lp w0 l r e base W v xs
theorem Lq.st {b : Nat} {x0 : List α} (h : Lq α w0 l r e w v b x0 xs) : Stay w0 l w := by
  rcases h with ⟨_, _, h⟩ | ⟨_, h⟩
  · exact h
  · exact h.st
theorem Lq.at {b : Nat} {x0 : List α} (lq : Lq α w0 l r0 e w v b x0 xs) (h : At w0 hp r [] w w1) : Lq α w0 l r0 e w1 v b x0 xs := by
  rcases lq with ⟨e1, e2, h1⟩ | ⟨base, h1⟩
  · exact .inl ⟨e1, e2, (h1.at h (by simp)).sub fun X hX => List.mem_cons_of_mem _ hX⟩
  · exact .inr ⟨base, h1.at h (by simp)⟩
theorem Lq.go {b : Nat} {x0 : List α} (lq : Lq α w0 l r0 e w v b x0 xs) (hB : Below w.heap.size w w2) : Lq α w0 l r0 e w2 v b x0 xs := by
  rcases lq with ⟨e1, e2, h1⟩ | ⟨base, h1⟩
  · exact .inl ⟨e1, e2, h1.base, fun X hX => (h1.all X hX).trans (hB.mono (h1.all X hX).size)⟩
  · exact .inr ⟨base, h1.go hB⟩
theorem Lq.form {b : Nat} {x0 : List α} (lq : Lq α w0 l r0 e w v b x0 xs) : ∃ a c, v = .slice a xs.length c := by
  rcases lq with ⟨e1, e2, h1⟩ | ⟨base, h1⟩
  · subst e2; exact ⟨_, _, e1⟩
  · exact h1.own.form
/-- the list, as it is shown; the run's block number i holds what it begins with. -/
theorem Lq.sl {b : Nat} {x0 : List α} (lq : Lq α w0 l r0 e w v b x0 xs) (h : At w0 hp r [] w w1) (i : Nat) {c : LB} (hi : r[i]? = some b) (hc : hget hp i = some c) (hm : denL r c.cells = cellsL x0) (hmax : x0.length ≤ maxLen) : Sl w1.heap.size w1 v xs := by
  rcases lq with ⟨e1, e2, h1⟩ | ⟨base, h1⟩
  · subst e1; subst e2
    exact Sl.own h i hi hc hm (Nat.le_refl _) hmax
  · exact (h1.at h (by simp)).own.sl
end
end Go.Proofs.YtodpgcdandechaaGreat

/-
  Rows of the run's own, an element set; slices of slices; lists of zones.
-/
namespace Go.Proofs.YtodpgcdandechaaGreat
set_option linter.unusedVariables false
open Go.RowKit Go.Proofs.YtodpgcdandechaaGreat.Eng Enc

/-- a slice, as an element of a slice. -/
structure Svl where
  a : Option Addr
  len : Nat
  cap : Nat
instance encSvl : Enc Svl := ⟨fun x => [.slice x.a x.len x.cap], 1, fun _ => rfl, by decide, fun _ v hv => by rw [List.mem_singleton.1 hv]; rfl, fun x => .slice x.a x.len x.cap⟩

section
variable {α : Type} [Enc α]
theorem cellsL_set (l : List α) (k : Nat) (x : α) (hk : k < l.length) : cellsL (l.set k x) = (cellsL l).take (k * size α) ++ enc x ++ (cellsL l).drop (k * size α + size α) := by
  induction l generalizing k with
  | nil => simp at hk
  | cons y l ih =>
    cases k with
    | zero =>
      simp only [List.set_cons_zero, cellsL, Nat.zero_mul, List.take_zero, List.nil_append, Nat.zero_add]
      rw [List.drop_append_of_le_length (by rw [Enc.len]; exact Nat.le_refl _), List.drop_of_length_le (by rw [Enc.len]; exact Nat.le_refl _), List.nil_append]
    | succ k =>
      have hk' : k < l.length := by simpa using hk
      simp only [List.set_cons_succ, cellsL, ih k hk']
      have e1 : (k + 1) * size α = size α + k * size α := by rw [Nat.succ_mul]; omega
      rw [e1, List.take_append, List.drop_append, Enc.len, List.take_of_length_le (l := enc y) (by rw [Enc.len]; omega), List.drop_of_length_le (l := enc y) (by rw [Enc.len]; omega)]
      rw [show size α + k * size α - size α = k * size α by omega, show size α + k * size α + size α - size α = k * size α + size α by omega, List.nil_append]
      simp only [List.append_assoc]
theorem Own.set {e : TypeId} {base : Nat} {W : World} {g n cap : Nat} {l : List α} (h : Own e base W (.slice (some ⟨g, 0, none⟩) n cap) l) {cur : Array Value} (hc : W.heap[g]? = some (.cells cur e (0, 0))) (k : Nat) (hk : k < l.length) (x : α) :
    Own e base (W.setRow g (cur.toList.take (k * size α) ++ enc x ++ cur.toList.drop (k * size α + (enc x).length)).toArray) (.slice (some ⟨g, 0, none⟩) n cap) (l.set k x) := by
  obtain ⟨rfl, hb, hlt, cur', hg, hn, hm, hs, ht⟩ := h.at0
  rw [hg] at hc
  injection hc with hc; injection hc with hc _; subst hc
  have hkk : (k + 1) * size α ≤ l.length * size α := Nat.mul_le_mul_right _ hk
  rw [Nat.succ_mul] at hkk
  have hcl : l.length * size α ≤ cap * size α := Nat.mul_le_mul_right _ hn
  refine ⟨by rw [cellsL_len, List.length_set], .inr ⟨g, cap, _, by rw [List.length_set], hb, setRow_heap W g cur' _ e _ hg, by rw [List.length_set]; exact hn, hm, ?_, ?_⟩⟩
  · simp only [List.size_toArray, List.length_append, List.length_take, List.length_drop, Array.length_toList, Enc.len]; omega
  · rw [List.length_set, cellsL_set l k x hk, ← ht]
    have hl : cur'.toList.length = cap * size α := by rw [Array.length_toList, hs]
    apply List.ext_getElem?
    intro j
    simp only [List.getElem?_append, List.getElem?_take, List.getElem?_drop, List.length_append, List.length_take, Enc.len, hl]
    rw [show min (k * size α) (cap * size α) = k * size α by omega, show min (k * size α) (min (l.length * size α) (cap * size α)) = k * size α by omega]
    by_cases h1 : j < k * size α
    · have h1' : j < k * size α + size α := by omega
      have h1'' : j < l.length * size α := by omega
      simp only [h1, h1', h1'', if_true]
    · by_cases h2 : j < k * size α + size α
      · have h2' : j < l.length * size α := by omega
        simp only [h1, h2, h2', if_true, if_false]
      · by_cases h3 : j < l.length * size α
        · have h3' : k * size α + size α + (j - (k * size α + size α)) < l.length * size α := by omega
          simp only [h1, h2, h3, h3', if_true, if_false]
        · have h3' : ¬ k * size α + size α + (j - (k * size α + size α)) < l.length * size α := by omega
          simp only [h1, h2, h3, h3', if_false]
/-- a load of an element of one cell. -/
theorem Sl.ldv {n : Nat} {W w : World} {L : List Nat} {a : Option Addr} {ad : Addr} {m cap : Nat} {l : List α} (h : Sl n W (.slice a m cap) l) {k : Nat} {x : α} (hk : l[k]? = some x) {v : Value} (hv : enc x = [v]) (had : a = some ad) (hB : Below n W w) (hL : ∀ b, b ∈ L → n ≤ b) {K : Value → Prop} (hK : K v) :
    LoadI w L (ad.add ((k : Int).toNat * 1)) K := by
  subst had
  have hs : size α = 1 := by have := Enc.len x; rw [hv] at this; exact this.symm
  obtain ⟨h1, h2⟩ := h.cell hk hB
  have h3 := h2 0 v (by rw [hv]; rfl)
  have h0 : ∀ q : Addr, q.add 0 = q := fun q => by simp [Addr.add]
  rw [h0, hs] at h3
  refine ⟨⟨_, ⟨h3, fun e => ?_⟩, hK⟩⟩
  have hb : (ad.add ((k : Int).toNat * 1)).block = ad.block := by unfold Addr.add; split <;> rfl
  rw [hb] at e
  have := hL _ e; omega
end
theorem infoZone : (Tryz.prog.info? 39).map (fun i => (i.zero, i.size, i.bytes)) = some (some (.agg #[.int .i64 0, .int .i64 0, .int .i64 0, .int .i64 0, .int .i64 0, .int .i64 0]), 6, 48) := by kernel_rfl
theorem elZ : ElOk Tryz.prog 45 39 6 48 := elOk (by kernel_rfl) infoZone rfl (by decide)
abbrev TZ : TypeId := 39
end Go.Proofs.YtodpgcdandechaaGreat

/-
  Small laws of worlds that grow; a row of zones whose cells are numbers, whatever they are.
-/
namespace Go.Proofs.YtodpgcdandechaaGreat
set_option linter.unusedVariables false
set_option linter.unusedSimpArgs false
open Go.RowKit Go.Proofs.YtodpgcdandechaaGreat.Eng Enc

/-- a row of zones of the run's own, whose cells are numbers. -/
structure ZRow (W : World) (g cap n : Nat) : Prop where
  le : n ≤ cap
  max : cap ≤ maxLen
  row : ∃ cur : Array Value, W.heap[g]? = some (.cells cur TZ (0, 0)) ∧ cur.size = cap * 6 ∧ ∀ j, j < n * 6 → ∃ x, cur[j]? = some (.int .i64 x)
theorem cellsL_zn : ∀ (l : List Zn) (j : Nat), j < l.length * 6 → ∃ x, (cellsL l)[j]? = some (.int .i64 x)
  | [], j, h => by simp at h
  | z :: l, j, h => by
    have hlen : (enc z).length = 6 := rfl
    rw [List.length_cons] at h
    by_cases hj : j < 6
    · have : j = 0 ∨ j = 1 ∨ j = 2 ∨ j = 3 ∨ j = 4 ∨ j = 5 := by omega
      have hx : (cellsL (z :: l))[j]? = (enc z)[j]? := by
        show (enc z ++ cellsL l)[j]? = _
        rw [List.getElem?_append_left (by rw [hlen]; exact hj)]
      rw [hx]
      rcases this with rfl | rfl | rfl | rfl | rfl | rfl
      · exact ⟨z.a, rfl⟩
      · exact ⟨z.b, rfl⟩
      · exact ⟨z.c, rfl⟩
      · exact ⟨z.d, rfl⟩
      · exact ⟨z.e, rfl⟩
      · exact ⟨z.f, rfl⟩
    · obtain ⟨x, hx⟩ := cellsL_zn l (j - 6) (by omega)
      refine ⟨x, ?_⟩
      show (enc z ++ cellsL l)[j]? = _
      rw [List.getElem?_append_right (by rw [hlen]; omega), hlen]
      exact hx
theorem ZRow.of {base : Nat} {W : World} {g n cap : Nat} {l : List Zn} (h : Own TZ base W (.slice (some ⟨g, 0, none⟩) n cap) l) : ZRow W g cap n ∧ base ≤ g ∧ g < W.heap.size := by
  obtain ⟨rfl, hb, hlt, cur', hg, hn, hm, hs, ht⟩ := h.at0
  refine ⟨⟨hn, hm, cur', hg, hs, fun j hj => ?_⟩, hb, hlt⟩
  obtain ⟨x, hx⟩ := cellsL_zn l j hj
  refine ⟨x, ?_⟩
  have h1 : (cur'.toList.take (l.length * 6))[j]? = some (.int .i64 x) := by
    have : cur'.toList.take (l.length * size Zn) = cellsL l := ht
    rw [show l.length * 6 = l.length * size Zn from rfl, this]; exact hx
  rw [List.getElem?_take] at h1
  rw [if_pos hj] at h1
  rw [← h1, Array.getElem?_toList]
theorem ZRow.kept {W X : World} {g cap n : Nat} (h : ZRow W g cap n) (e : X.heap[g]? = W.heap[g]?) : ZRow X g cap n := by
  obtain ⟨a, b, cur, c⟩ := h
  exact ⟨a, b, cur, e.trans c.1, c.2⟩
theorem ZRow.lt {W : World} {g cap n : Nat} (h : ZRow W g cap n) : g < W.heap.size := by
  obtain ⟨_, _, cur, c, _⟩ := h
  exact (Array.getElem?_eq_some_iff.1 c).1
theorem ZRow.at {w0 : Base} {hp : List LB} {r L : List Nat} {w w1 : World} {g cap n : Nat} (h : ZRow w g cap n) (h1 : At w0 hp r L w w1) (hL : g ∉ L) : ZRow w1 g cap n := h.kept (h1.step g h.lt hL)
theorem ZRow.below {W X : World} {g cap n : Nat} (h : ZRow W g cap n) (hB : Below W.heap.size W X) : ZRow X g cap n := h.kept (hB.block _ h.lt)
theorem ZRow.cell {W : World} {g cap n : Nat} (h : ZRow W g cap n) {j : Nat} (hj : j < n * 6) : ∃ x, W.cell? ⟨g, j, none⟩ = some (.int .i64 x) := by
  obtain ⟨_, _, cur, c, _, d⟩ := h
  obtain ⟨x, hx⟩ := d j hj
  refine ⟨x, ?_⟩
  simp [World.cell?, c, hx]
theorem ZRow.frozen {W : World} {g cap n : Nat} (h : ZRow W g cap n) (j : Nat) : W.frozen? ⟨g, j, none⟩ = false := by
  obtain ⟨_, _, cur, c, _⟩ := h
  simp [World.frozen?, c]
theorem ZRow.set {W : World} {g cap n : Nat} (h : ZRow W g cap n) {j : Nat} (hj : j < n * 6) (x : Int) : ZRow (W.setCell ⟨g, j, none⟩ (.int .i64 x)) g cap n := by
  obtain ⟨a, b, cur, c, d, e⟩ := h
  refine ⟨a, b, cur.setIfInBounds j (.int .i64 x), ?_, by simp [d], fun i hi => ?_⟩
  · simp only [World.setCell]
    rw [Array.getElem?_modify, if_pos rfl, c]
    rfl
  · by_cases hij : i = j
    · subst hij
      refine ⟨x, ?_⟩
      have : i < cur.size := by rw [d]; have := Nat.mul_le_mul_right 6 a; omega
      simp [this]
    · obtain ⟨y, hy⟩ := e i hi
      refine ⟨y, ?_⟩
      rw [Array.getElem?_setIfInBounds_ne (fun h => hij h.symm)]; exact hy
theorem setCell_neM {W : World} {B o k : Nat} {u : Value} (h : k ≠ B) : (W.setCell ⟨B, o, none⟩ u).heap[k]? = W.heap[k]? := Below.heap_setCell _ _ _ _ (by simpa using h)
theorem at_belowM {w0 : Base} {hp : List LB} {r L : List Nat} {w w1 : World} (h : At w0 hp r L w w1) (hL : ∀ b, b ∈ L → w.heap.size ≤ b) : Below w.heap.size w w1 :=
  ⟨h.below.os.trans h.base.os.symm, h.below.tape.trans h.base.tape.symm, h.below.output.trans h.base.output.symm, h.size, fun k hk => h.step k hk fun hm => by have := hL k hm; omega⟩
theorem lt_cellsM {W : World} {B : Nat} {o : Obj} (h : W.heap[B]? = some o) : B < W.heap.size := (Array.getElem?_eq_some_iff.1 h).1
end Go.Proofs.YtodpgcdandechaaGreat

/-
  DERIVED: THE SHELF's CONTRACTS AT THIS DUMP, IN PLAIN WORDS (tools/lay-plain.mjs out of 'YtodpgcdandechaaGreatShelf0.lean', which tools/lay-shelf.mjs wrote): THE SAME DECLARATIONS UNDER THE SAME NAMES: 'import', 'namespace', 'open', 'def', 'theorem' AND NOTHING ELSE: no command of the shelf's: FOR A HAND-IN. Each laying: the table of numbers ('.._ren') and one theorem, a field a fact of the dump's own or the kernel's comparison; each contract: ONE APPLICATION.
-/
namespace Go.Proofs
open Go.Shelf
def Tryz.keysA_ren : Go.Shelf.Ren := ⟨fun | 7 => 128 | 10 => 198 | n => n, fun | 23 => 94 | 26 => 3 | 3 => 3 | 28 => 165 | 0 => 0 | 27 => 164 | 33 => 83 | 4 => 4 | n => n, fun | n => n⟩
theorem Tryz.keysA : Go.Proofs.SlLaysZI.n7 Tryz.prog Tryz.keysA_ren := {
  mixed := by kernel_rfl
  f7 := ⟨Tryz.f128.name, by decide, Tryz.func128.trans (congrArg some (by kernel_rfl))⟩
  f10 := ⟨Tryz.f198.name, by decide, Tryz.func198.trans (congrArg some (by kernel_rfl))⟩
  t0 := Tryz.underlying0
  a0 := Tryz.isAgg0
  z0 := Tryz.sizeOf0
  v0 := Tryz.zeroValue0
  t4 := Tryz.underlying4
  a4 := Tryz.isAgg4
  z4 := Tryz.sizeOf4
  v4 := Tryz.zeroValue4
  t23 := Tryz.underlying94
  a23 := Tryz.isAgg94
  z23 := Tryz.sizeOf94
  v23 := Tryz.zeroValue94
  t26 := Tryz.underlying3
  a26 := Tryz.isAgg3
  z26 := Tryz.sizeOf3
  v26 := Tryz.zeroValue3
  t27 := Tryz.underlying164
  a27 := Tryz.isAgg164
  z27 := Tryz.sizeOf164
  v27 := Tryz.zeroValue164
  t28 := Tryz.underlying165
  a28 := Tryz.isAgg165
  z28 := Tryz.sizeOf165
  v28 := Tryz.zeroValue165
  t33 := Tryz.underlying83
  a33 := Tryz.isAgg83
  z33 := Tryz.sizeOf83
  v33 := Tryz.zeroValue83 }
def Tryz.sortedA_ren : Go.Shelf.Ren := ⟨fun | 6 => 127 | 8 => 196 | 9 => 197 | 11 => 242 | 13 => 244 | 12 => 243 | 23 => 270 | 24 => 271 | 14 => 261 | 15 => 262 | 16 => 263 | 17 => 264 | 18 => 265 | 19 => 266 | 20 => 267 | 21 => 268 | 22 => 269 | 25 => 284 | 26 => 285 | 27 => 286 | 28 => 287 | 29 => 288 | 30 => 249 | 31 => 299 | n => n, fun | 26 => 3 | 28 => 165 | 24 => 47 | 0 => 0 | 3 => 3 | 37 => 243 | 48 => 297 | 50 => 143 | 4 => 4 | 40 => 290 | 39 => 289 | 45 => 294 | 5 => 5 | 9 => 9 | 51 => 309 | 55 => 313 | 57 => 322 | 58 => 29 | 33 => 83 | n => n, fun | n => n⟩
theorem Tryz.sortedA : Go.Proofs.SlLaysZI.n6 Tryz.prog Tryz.sortedA_ren := {
  mixed := by kernel_rfl
  f6 := ⟨Tryz.f127.name, by decide, Tryz.func127.trans (congrArg some (by kernel_rfl))⟩
  f8 := ⟨Tryz.f196.name, by decide, Tryz.func196.trans (congrArg some (by kernel_rfl))⟩
  f11 := ⟨Tryz.f242.name, by decide, Tryz.func242.trans (congrArg some (by kernel_rfl))⟩
  t0 := Tryz.underlying0
  a0 := Tryz.isAgg0
  z0 := Tryz.sizeOf0
  v0 := Tryz.zeroValue0
  t24 := Tryz.underlying47
  a24 := Tryz.isAgg47
  z24 := Tryz.sizeOf47
  v24 := Tryz.zeroValue47
  t26 := Tryz.underlying3
  a26 := Tryz.isAgg3
  z26 := Tryz.sizeOf3
  v26 := Tryz.zeroValue3
  t28 := Tryz.underlying165
  a28 := Tryz.isAgg165
  z28 := Tryz.sizeOf165
  v28 := Tryz.zeroValue165
  i26 := by kernel_rfl }
def Tryz.sortA_ren : Go.Shelf.Ren := ⟨fun | 5 => 197 | 8 => 244 | 7 => 243 | 19 => 270 | 20 => 271 | 10 => 261 | 11 => 262 | 12 => 263 | 13 => 264 | 14 => 265 | 15 => 266 | 16 => 267 | 17 => 268 | 18 => 269 | 30 => 284 | 31 => 285 | 32 => 286 | 33 => 287 | 34 => 288 | 35 => 249 | 40 => 299 | n => n, fun | 23 => 47 | 25 => 3 | 3 => 3 | 32 => 243 | 22 => 47 | 0 => 0 | 44 => 297 | 46 => 143 | 4 => 4 | 36 => 290 | 35 => 289 | 41 => 294 | 5 => 5 | 9 => 9 | 53 => 309 | 57 => 313 | 63 => 322 | 64 => 29 | n => n, fun | n => n⟩
theorem Tryz.sortA : Go.Proofs.SlLaysM.n5 Tryz.prog Tryz.sortA_ren := {
  mixed := by kernel_rfl
  f5 := ⟨Tryz.f197.name, by decide, Tryz.func197.trans (congrArg some (by kernel_rfl))⟩
  f7 := ⟨Tryz.f243.name, by decide, Tryz.func243.trans (congrArg some (by kernel_rfl))⟩
  f8 := Tryz.func244.trans (congrArg some (by kernel_rfl))
  f10 := ⟨Tryz.f261.name, by decide, Tryz.func261.trans (congrArg some (by kernel_rfl))⟩
  f11 := ⟨Tryz.f262.name, by decide, Tryz.func262.trans (congrArg some (by kernel_rfl))⟩
  f12 := ⟨Tryz.f263.name, by decide, Tryz.func263.trans (congrArg some (by kernel_rfl))⟩
  f13 := ⟨Tryz.f264.name, by decide, Tryz.func264.trans (congrArg some (by kernel_rfl))⟩
  f14 := ⟨Tryz.f265.name, by decide, Tryz.func265.trans (congrArg some (by kernel_rfl))⟩
  f15 := ⟨Tryz.f266.name, by decide, Tryz.func266.trans (congrArg some (by kernel_rfl))⟩
  f16 := ⟨Tryz.f267.name, by decide, Tryz.func267.trans (congrArg some (by kernel_rfl))⟩
  f17 := ⟨Tryz.f268.name, by decide, Tryz.func268.trans (congrArg some (by kernel_rfl))⟩
  f18 := ⟨Tryz.f269.name, by decide, Tryz.func269.trans (congrArg some (by kernel_rfl))⟩
  f19 := Tryz.func270.trans (congrArg some (by kernel_rfl))
  f20 := Tryz.func271.trans (congrArg some (by kernel_rfl))
  f30 := ⟨Tryz.f284.name, by decide, Tryz.func284.trans (congrArg some (by kernel_rfl))⟩
  f31 := Tryz.func285.trans (congrArg some (by kernel_rfl))
  f32 := Tryz.func286.trans (congrArg some (by kernel_rfl))
  f33 := ⟨Tryz.f287.name, by decide, Tryz.func287.trans (congrArg some (by kernel_rfl))⟩
  f34 := ⟨Tryz.f288.name, by decide, Tryz.func288.trans (congrArg some (by kernel_rfl))⟩
  f35 := ⟨Tryz.f249.name, by decide, Tryz.func249.trans (congrArg some (by kernel_rfl))⟩
  f40 := ⟨Tryz.f299.name, by decide, Tryz.func299.trans (congrArg some (by kernel_rfl))⟩
  t0 := Tryz.underlying0
  a0 := Tryz.isAgg0
  z0 := Tryz.sizeOf0
  v0 := Tryz.zeroValue0
  t3 := Tryz.underlying3
  a3 := Tryz.isAgg3
  z3 := Tryz.sizeOf3
  v3 := Tryz.zeroValue3
  t4 := Tryz.underlying4
  a4 := Tryz.isAgg4
  z4 := Tryz.sizeOf4
  v4 := Tryz.zeroValue4
  t5 := Tryz.underlying5
  a5 := Tryz.isAgg5
  z5 := Tryz.sizeOf5
  v5 := Tryz.zeroValue5
  t9 := Tryz.underlying9
  a9 := Tryz.isAgg9
  z9 := Tryz.sizeOf9
  v9 := Tryz.zeroValue9
  t22 := Tryz.underlying47
  a22 := Tryz.isAgg47
  z22 := Tryz.sizeOf47
  v22 := Tryz.zeroValue47
  t23 := Tryz.underlying47
  a23 := Tryz.isAgg47
  z23 := Tryz.sizeOf47
  v23 := Tryz.zeroValue47
  t25 := Tryz.underlying3
  a25 := Tryz.isAgg3
  z25 := Tryz.sizeOf3
  v25 := Tryz.zeroValue3
  t32 := Tryz.underlying243
  a32 := Tryz.isAgg243
  z32 := Tryz.sizeOf243
  v32 := Tryz.zeroValue243
  t35 := Tryz.underlying289
  a35 := Tryz.isAgg289
  z35 := Tryz.sizeOf289
  v35 := Tryz.zeroValue289
  t36 := Tryz.underlying290
  a36 := Tryz.isAgg290
  z36 := Tryz.sizeOf290
  v36 := Tryz.zeroValue290
  t41 := Tryz.underlying294
  a41 := Tryz.isAgg294
  z41 := Tryz.sizeOf294
  v41 := Tryz.zeroValue294
  t44 := Tryz.underlying297
  a44 := Tryz.isAgg297
  z44 := Tryz.sizeOf297
  v44 := Tryz.zeroValue297
  t46 := Tryz.underlying143
  a46 := Tryz.isAgg143
  z46 := Tryz.sizeOf143
  v46 := Tryz.zeroValue143
  t53 := Tryz.underlying309
  a53 := Tryz.isAgg309
  z53 := Tryz.sizeOf309
  v53 := Tryz.zeroValue309
  t57 := Tryz.underlying313
  a57 := Tryz.isAgg313
  z57 := Tryz.sizeOf313
  v57 := Tryz.zeroValue313
  t63 := Tryz.underlying322
  a63 := Tryz.isAgg322
  z63 := Tryz.sizeOf322
  v63 := Tryz.zeroValue322
  t64 := Tryz.underlying29
  a64 := Tryz.isAgg29
  z64 := Tryz.sizeOf29
  v64 := Tryz.zeroValue29 }
end Go.Proofs

/-
  Sets of numbers, kept in maps that the call makes; their keys, rising.
-/
namespace Go.Proofs.YtodpgcdandechaaGreat
set_option linter.unusedVariables false
set_option linter.unusedSimpArgs false
set_option maxRecDepth 100000
open Go.RowKit Go.Proofs.YtodpgcdandechaaGreat.Eng Enc

abbrev TMi : TypeId := 94
abbrev TKi : TypeId := 3
theorem keyI : Maps.Keyed Tryz.prog TKi := Maps.int_keyed Tryz.underlying3
/-- block b is a set of numbers: those of which f says so; it has been written at most n times. -/
def MSet (W : World) (b n : Nat) (f : Int → Bool) : Prop :=
  ∃ D : DataW Unit, W.ownsMap Tryz.prog TKi (plainElem Tryz.prog TKi) b n D ∧ Maps.Tidy D ∧ ∀ x : Int, D.atKey (.int .i64 x) (.lit (.int .i64 0)) = .lit (.int .i64 (if f x = true then 1 else 0)) ∧ Maps.has D (.int .i64 x) = f x
theorem MSet.lt {W : World} {b n : Nat} {f : Int → Bool} (h : MSet W b n f) : b < W.heap.size := by
  obtain ⟨D, h1, _⟩ := h; exact h1.lt
theorem MSet.kept {W X : World} {b n : Nat} {f : Int → Bool} (h : MSet W b n f) (e : X.heap[b]? = W.heap[b]?) : MSet X b n f := by
  obtain ⟨D, ⟨es, clock, hb, F, hs, hD⟩, h2, h3⟩ := h
  exact ⟨D, ⟨es, clock, e.trans hb, F, hs, hD⟩, h2, h3⟩
theorem MSet.below {W X : World} {b n : Nat} {f : Int → Bool} (h : MSet W b n f) (hB : Below W.heap.size W X) : MSet X b n f := h.kept (hB.block b h.lt)
theorem MSet.at {w0 : Base} {hp : List LB} {r L : List Nat} {w w1 : World} {b n : Nat} {f : Int → Bool} (h : MSet w b n f) (h1 : At w0 hp r L w w1) (hL : b ∉ L) : MSet w1 b n f := h.kept (h1.step b h.lt hL)
theorem MSet.made (w : World) : MSet (w.alloc (.map #[] 0)) w.heap.size 0 (fun _ => false) :=
  ⟨.map [], World.ownsMap_made w _ _ _, Maps.tidy_empty, fun x => ⟨by simp [DataW.atKey], by simp [Maps.has_eq]⟩⟩
theorem MSet.look {W : World} {b n : Nat} {f : Int → Bool} (h : MSet W b n f) (x : Int) (hx : inK .i64 x) :
    (Instr.lookup TMi (.map (some b)) (.int .i64 x) false).run Tryz.prog W = .ok (.int .i64 (if f x = true then 1 else 0)) W := by
  obtain ⟨D, h1, h2, h3⟩ := h
  have hw : (Lit.int .i64 x).wf = true := by simp only [inK] at hx; simp [Lit.wf, IntKind.min, IntKind.max, IntKind.bits, IntKind.signed]; omega
  obtain ⟨c, hrun, hat, _⟩ := h1.lookup_int (t := TMi) (e := TKi) keyI (by kernel_rfl) Tryz.underlying3 (by kernel_rfl) (Maps.keyOf_int_mk Tryz.underlying3 hw)
  rw [(h3 x).1] at hat
  injection hat with hat
  injection hat with _ hat
  rw [hrun, ← hat]
theorem MSet.put {W : World} {b n : Nat} {f : Int → Bool} (h : MSet W b n f) (x : Int) (hx : inK .i64 x) (hn : n < 1000000000) :
    ∃ W', (Instr.mapUpdate TMi (.map (some b)) (.int .i64 x) (.int .i64 1)).run Tryz.prog W = .ok () W' ∧ MSet W' b (n + 1) (fun y => f y || decide (y = x)) ∧ W.grownBy W' (some b) := by
  obtain ⟨D, h1, h2, h3⟩ := h
  have hw : (Lit.int .i64 x).wf = true := by simp only [inK] at hx; simp [Lit.wf, IntKind.min, IntKind.max, IntKind.bits, IntKind.signed]; omega
  have hk := Maps.keyOf_int_mk (P := Tryz.prog) (k := TKi) Tryz.underlying3 hw
  have hkl := keyI.key hk
  obtain ⟨W', hrun, ho, hg⟩ := h1.update (t := TMi) (e := TKi) keyI (by kernel_rfl) (by unfold maxLen; omega) hk (plainElem_int (H := Unit) (a := 1) Tryz.underlying3 (by decide))
  refine ⟨W', hrun, ⟨_, ho, h2.put hkl _, fun y => ?_⟩, hg⟩
  by_cases e : y = x
  · subst e
    rw [Maps.atKey_put_same h2.isMap hkl, Maps.has_put_same h2.isMap hkl]
    simp
  · have hne : (Lit.int .i64 y) ≠ (Lit.int .i64 x) := fun h => e (by injection h)
    rw [Maps.atKey_put_other hne, Maps.has_put_other hne, (h3 y).1, (h3 y).2]
    simp [e]
/-- maps.Keys: an iterator over the map, boxed. -/
theorem keysM_any (b : Nat) (w : World) : Calls Tryz.prog 128 #[.map (some b)] w fun e w' => e = .returned (.func (.func 198) #[] #[.pointer (some ⟨w.heap.size, 0, none⟩)]) ∧ w' = w.alloc (.cells #[.map (some b)] TMi) :=
  (callsIn_wide (n := 5)).1 (AnyZI.keys_in Tryz.keysA Fence.wide 5 trivial rfl (some b) w)
theorem sortsM (m : Nat) : AnyZI.SortsIn Tryz.prog Tryz.sortedA_ren Fence.wide m :=
  ⟨fun blk off cap ss W hH hblk hsz => callsIn_wide.2 (AnyM.slices_Sort_int Tryz.sortA blk off cap ss W hH hblk hsz),
   fun p cap W => callsIn_wide.2 (AnyM.slices_Sort_int_none Tryz.sortA p cap W)⟩
theorem cellsIntM (l : List Int) : cellsL l = l.map (Value.int .i64) := by
  induction l with
  | nil => rfl
  | cons x l ih => simp only [cellsL, ih, List.map_cons]; rfl
/-- slices.Sorted over the keys. -/
theorem sortedM_any {b n B : Nat} {f : Int → Bool} (hn : n ≤ 1000000000) (T : List Int) (hT : T.Pairwise fun x y => x < y) (hm : ∀ x, x ∈ T ↔ f x = true) (w : World) (hM : MSet w b n f) (hB : w.cell? ⟨B, 0, none⟩ = some (.map (some b))) :
    Calls Tryz.prog 127 #[.func (.func 198) #[] #[.pointer (some ⟨B, 0, none⟩)]] w fun e w' => ∃ v, e = .returned v ∧ Own TKi w.heap.size w' v T ∧ Below w.heap.size w w' := by
  obtain ⟨D, h1, h2, h3⟩ := hM
  have hBl : B < w.heap.size := World.block_lt_of_cell? _ _ hB
  have hsz : Maps.size D ≤ n := by
    obtain ⟨es, clock, hb, F, hs, rfl⟩ := h1
    simp only [Maps.size_eq, length_sorted]
    simpa using hs
  have hnd : T.Nodup := List.nodup_iff_pairwise_ne.2 (hT.imp fun h e => by omega)
  have hperm : T.Perm (intKeys D) := CollectedI.perm (left := fun _ => false) ⟨hnd, fun x => by rw [hm x, (h3 x).2]; simp⟩ h1 keyI Tryz.underlying3 (fun _ => rfl)
  have hseq : SeqGives Fence.wide 2 Tryz.prog 198 #[.pointer (some ⟨B, 0, none⟩)] encZ (fun ss => ss.Perm (intKeys D)) (Maps.size D) w :=
    AnyZI.keys_gives (ρ := Tryz.keysA_ren) { Tryz.keysA with } Fence.wide _ trivial rfl (by omega) B b n D w hBl hB h1
  have cS := AnyZI.sorted_in Tryz.sortedA Fence.wide 5 trivial trivial trivial trivial rfl (by omega) (sortsM _) (enters_of Tryz.func197 (by kernel_rfl) rfl) 198 #[.pointer (some ⟨B, 0, none⟩)] trivial (enters_of Tryz.func198 (by kernel_rfl) rfl) _ (Maps.size D) (by unfold maxLen; omega) (by omega) w hseq
  refine ((callsIn_wide (n := 5)).1 cS).mono ?_
  rintro e w' ⟨v, ss, rfl, hS, hrow, hnil, hb⟩
  have hTs : T.mergeSort leI = T := List.mergeSort_of_pairwise (hT.imp fun h => by simp only [leI, decide_eq_true_eq]; omega)
  have hss : ss.mergeSort leI = T := by rw [mergeSort_of_perm_i (hS.trans hperm.symm), hTs]
  refine ⟨v, rfl, ?_, hb⟩
  have hlen : ss.length = T.length := (hS.trans hperm.symm).length_eq
  unfold Own
  rw [cellsIntM, ← hlen]
  have hss' : (ss.mergeSort fun x y => decide (x ≤ y)) = T := hss
  rw [hss'] at hrow
  exact hrow
theorem rising_any {b n : Nat} {f : Int → Bool} (hn : n ≤ 1000000000) (T : List Int) (hT : T.Pairwise fun x y => x < y) (hm : ∀ x, x ∈ T ↔ f x = true) (w : World) (hM : MSet w b n f) :
    Calls Tryz.prog 64 #[.map (some b)] w (Ret w fun v w' => Own TKi w.heap.size w' v T) := by
  refine fun_ret 0 w Tryz.func64 (args := [.val (.map (some b))]) rfl rfl ?_
  refine CallI.mk fun w1 h1 => (keysM_any b w1).mono ?_
  rintro e w2 ⟨rfl, rfl⟩
  have hal : Below w1.heap.size w1 (w1.alloc (.cells #[.map (some b)] TMi)) := (Below.refl _ _).alloc (Nat.le_refl _) _
  refine ⟨KpOk.ok h1 hal, _, rfl, ?_⟩
  have hbox : (w1.alloc (.cells #[.map (some b)] TMi)).heap[w1.heap.size]? = some (.cells #[.map (some b)] TMi (0, 0)) := World.alloc_heap_new w1 _
  have hM1 := (hM.below (at_belowM h1 (by simp))).below hal
  have hw1 : w.heap.size ≤ w1.heap.size := h1.below.size
  have hw2 := hal.size
  generalize w1.alloc (.cells #[.map (some b)] TMi) = w2 at *
  generalize w1.heap.size = B at *
  refine CallI.mk fun w3 h3 => ?_
  have h3B := at_belowM h3 (by simp)
  have hBl : B < w2.heap.size := (Array.getElem?_eq_some_iff.1 hbox).1
  have hc3 : w3.cell? ⟨B, 0, none⟩ = some (.map (some b)) := by
    have : w3.heap[B]? = some (.cells #[.map (some b)] TMi (0, 0)) := (h3B.block B hBl).trans hbox
    simp [World.cell?, this]
  refine (sortedM_any hn T hT hm w3 (hM1.below h3B) hc3).mono ?_
  rintro e w4 ⟨v, rfl, hO, hB4⟩
  refine ⟨KpOk.ok h3 hB4, v, rfl, ?_⟩
  obtain ⟨a4, c4, rfl⟩ := hO.form
  exact EndI.mk fun w9 h9 => (hO.lower (Nat.le_trans hw1 (Nat.le_trans hw2 h3.size))).below (at_belowM h9 (by simp))
end Go.Proofs.YtodpgcdandechaaGreat

/-
  DERIVED: THE SHELF's CONTRACTS AT THIS DUMP, IN PLAIN WORDS (tools/lay-plain.mjs out of 'YtodpgcdandechaaGreatShelf0.lean', which tools/lay-shelf.mjs wrote): THE SAME DECLARATIONS UNDER THE SAME NAMES: 'import', 'namespace', 'open', 'def', 'theorem' AND NOTHING ELSE: no command of the shelf's: FOR A HAND-IN. Each laying: the table of numbers ('.._ren') and one theorem, a field a fact of the dump's own or the kernel's comparison; each contract: ONE APPLICATION.
-/
namespace Go.Proofs
open Go.Shelf
def Tryz.mul64_ren : Go.Shelf.Ren := ⟨fun | 264 => 246 | n => n, fun | 53 => 143 | 46 => 243 | n => n, fun | n => n⟩
theorem Tryz.mul64 : Go.Proofs.Lays.n264 Tryz.prog Tryz.mul64_ren := {
  mixed := by kernel_rfl
  f264 := Tryz.func246.trans (congrArg some (by kernel_rfl))
  t46 := Tryz.underlying243
  a46 := Tryz.isAgg243
  z46 := Tryz.sizeOf243
  v46 := Tryz.zeroValue243
  t53 := Tryz.underlying143
  a53 := Tryz.isAgg143
  z53 := Tryz.sizeOf143
  v53 := Tryz.zeroValue143 }
end Go.Proofs

/-
  The contracts of package rat that compare: product, compare, Cmp, by the engine.
-/
namespace Go.Proofs.YtodpgcdandechaaGreat
set_option linter.unusedVariables false
set_option linter.unusedSimpArgs false
set_option maxRecDepth 100000
open Go.RowKit Go.Proofs.YtodpgcdandechaaGreat.Eng Enc

theorem mul64_any (x y : Nat) (hx : x < 18446744073709551616) (hy : y < 18446744073709551616) (w : World) :
    Calls Tryz.prog 246 #[.int .u64 x, .int .u64 y] w fun e w' => e = .returned (.tuple #[.int .u64 ((x * y / 18446744073709551616 : Nat) : Int), .int .u64 ((x * y % 18446744073709551616 : Nat) : Int)]) ∧ w = w' :=
  (Any.bits_Mul64 Tryz.mul64 x y hx hy w).mono fun e w' ⟨h1, h2⟩ => ⟨h1, h2.symm⟩

theorem tupP {a b c d : Int} (h : a = c) (k : b = d) : Value.tuple #[.int .i64 a, .int .u64 b] = .tuple #[.int .i64 c, .int .u64 d] := by rw [h, k]
theorem sub64_run (x y b : Nat) (hb : b ≤ 1) (w : World) : (callFunc 247 #[.int .u64 x, .int .u64 y, .int .u64 b]).run Tryz.prog w = .ok (.value (.tuple #[.int .u64 (((x + 18446744073709551616 - y - b) % 18446744073709551616 : Nat) : Int), .int .u64 ((if x < y + b then 1 else 0 : Nat) : Int)])) w := by
  rw [run_callFunc_extern Tryz.func247 (by kernel_rfl) (by kernel_rfl) (by kernel_rfl) (e := sub64Entry) (by kernel_rfl), run_sub64 x y b hb]; rfl

theorem product_any (a b : Int) (ha : inK .i64 a) (hb : inK .i64 b) (w : World) :
    Calls Tryz.prog 209 #[.int .i64 a, .int .i64 b] w fun e w' => e = .returned (.tuple #[.int .i64 (a * b / 18446744073709551616), .int .u64 (a * b % 18446744073709551616)]) ∧ Below w.heap.size w w' := by
  refine fun_eqW 0 w Tryz.func209 (args := [.val (.int .i64 a), .val (.int .i64 b)]) rfl rfl ?_
  simp only [inK] at ha hb
  (first
    | (refine CallI.to1 (size_any a ha) fun w2 => ?_)
    | (refine Branch.yes rfl ?_)
    | (refine Branch.no rfl ?_)
    | (refine Branch.mk (fun hb => ?_) (fun hb => ?_))
    | (refine NewI.mk fun nb hnb => ?_)
    | (refine Need.mk (by show _ ∧ _; omega) ?_)
    | (refine Need.mk (by omega) ?_)
    | (refine Need.mk ?_ ?_)
    | (refine EndI.mk fun w1 h1 => ?_))
  (first
    | (refine CallI.to1 (size_any b hb) fun w2 => ?_)
    | (refine Branch.yes rfl ?_)
    | (refine Branch.no rfl ?_)
    | (refine Branch.mk (fun hb => ?_) (fun hb => ?_))
    | (refine NewI.mk fun nb hnb => ?_)
    | (refine Need.mk (by show _ ∧ _; omega) ?_)
    | (refine Need.mk (by omega) ?_)
    | (refine Need.mk ?_ ?_)
    | (refine EndI.mk fun w1 h1 => ?_))
  refine CallI.to0 (mul64_any a.natAbs b.natAbs (by omega) (by omega)) fun w2 => ?_
  have hP : a.natAbs * b.natAbs ≤ 9223372036854775808 * 9223372036854775808 := Nat.mul_le_mul (by omega) (by omega)
  have habs : (a * b).natAbs = a.natAbs * b.natAbs := Int.natAbs_mul a b
  have hneg : a * b < 0 → (a < 0 ↔ ¬ b < 0) := fun h => by
    constructor
    · intro h1 h2
      have := Int.mul_pos_of_neg_of_neg h1 h2; omega
    · intro h1
      rcases Int.lt_or_le a 0 with h2 | h2
      · exact h2
      · have := Int.mul_nonneg h2 (by omega : 0 ≤ b); omega
  have hpos : 0 < a * b → (a < 0 ↔ b < 0) := fun h => by
    rcases Int.lt_or_le a 0 with h1 | h1 <;> rcases Int.lt_or_le b 0 with h2 | h2
    · simp [h1, h2]
    · have := Int.mul_nonpos_of_nonpos_of_nonneg (Int.le_of_lt h1) h2; omega
    · have := Int.mul_nonpos_of_nonneg_of_nonpos h1 (Int.le_of_lt h2); omega
    · omega
  generalize a.natAbs * b.natAbs = Q at *
  generalize a * b = Z at *
  refine Branch.mk (fun hc => ?_) (fun hc => ?_)
  · have hs : ¬ (a < 0 ↔ b < 0) := by simpa using hc
    refine GenN.to (fun w1 => sub64_run 0 (Q % 18446744073709551616) 0 (by decide) w1) fun w3 h3 => ?_
    refine GenN.to (fun w1 => sub64_run 0 (Q / 18446744073709551616) (if 0 < Q % 18446744073709551616 + 0 then 1 else 0) (by split <;> decide) w1) fun w4 h4 => ?_
    refine EndI.mk fun w5 h5 => ?_
    have hZ : Z = -(Q : Int) := by
      rcases Int.lt_or_le 0 Z with h | h
      · exact absurd (hpos h) hs
      · omega
    refine tupP ?_ ?_
    · split <;> omega
    · omega
  · have hs : (a < 0 ↔ b < 0) := by simpa using hc
    have hZ : Z = (Q : Int) := by
      rcases Int.lt_or_le Z 0 with h | h
      · have := hneg h; omega
      · omega
    refine EndI.mk fun w5 h5 => ?_
    refine tupP ?_ ?_
    · omega
    · omega

theorem nanU_any (a : Int) (w : World) : Calls Tryz.prog 283 #[.int .u64 a] w fun e w' => e = .returned (.bool false) ∧ Below w.heap.size w w' := by
  refine fun_eq 0 w Tryz.func283 (args := [.val (.int .u64 a)]) rfl rfl ?_
  repeat' (first
    | (refine Branch.yes rfl ?_)
    | (refine Branch.no rfl ?_)
    | (refine Branch.mk (fun hb => ?_) (fun hb => ?_))
    | (refine NewI.mk fun nb hnb => ?_)
    | (refine Need.mk (by show _ ∧ _; omega) ?_)
    | (refine Need.mk (by omega) ?_)
    | (refine Need.mk ?_ ?_)
    | (refine EndI.mk fun w1 h1 => ?_))
  simp
theorem cmpU_any (a b : Int) (w : World) : Calls Tryz.prog 259 #[.int .u64 a, .int .u64 b] w fun e w' => e = .returned (.int .i64 (cmpI a b)) ∧ Below w.heap.size w w' := by
  refine fun_eq 0 w Tryz.func259 (args := [.val (.int .u64 a), .val (.int .u64 b)]) rfl rfl ?_
  repeat' (first
    | (refine CallI.to1 (nanU_any _) fun w2 => ?_)
    | (refine Branch.yes rfl ?_)
    | (refine Branch.no rfl ?_)
    | (refine Branch.mk (fun hb => ?_) (fun hb => ?_))
    | (refine NewI.mk fun nb hnb => ?_)
    | (refine Need.mk (by show _ ∧ _; omega) ?_)
    | (refine Need.mk (by omega) ?_)
    | (refine Need.mk ?_ ?_)
    | (refine EndI.mk fun w1 h1 => ?_))
  all_goals
    simp only [decide_eq_true_eq, decide_eq_false_iff_not] at *
    simp [cmpI, *]
theorem firstU_any (a b : Int) (fid : FuncId) (caps : Array Value) (en : Enters Tryz.prog fid) (c : Int) (w : World)
    (hcall : ∀ W, Below w.heap.size w W → Calls Tryz.prog fid caps W fun e W' => e = .returned (.int .i64 c) ∧ Below W.heap.size W W') :
    Calls Tryz.prog 236 #[.int .u64 a, .int .u64 b, .func (.func fid) #[] caps] w fun e w' => e = .returned (.int .i64 (if cmpI a b ≠ 0 then cmpI a b else c)) ∧ Below w.heap.size w w' := by
  refine fun_eq 0 w Tryz.func236 (args := [.val (.int .u64 a), .val (.int .u64 b), .val (.func (.func fid) #[] caps)]) rfl rfl ?_
  apply CallI.use1
  · exact fun w1 h1 => cmpU_any a b w1
  intro w1 w2 h1 hB2
  refine Branch.mk (fun hc => ?_) (fun hc => ?_)
  · refine EndI.mk fun w3 h3 => ?_
    rw [if_pos (by simpa using hc)]
  refine Need.mk en ?_
  apply CallI.use1
  · exact fun w3 h3 => hcall w3 h3.below
  intro w3 w4 h3 hB4
  refine EndI.mk fun w3 h3 => ?_
  rw [if_neg (by simpa using hc)]
theorem zero_any (w : World) : Calls Tryz.prog 237 #[] w fun e w' => e = .returned (.int .i64 0) ∧ Below w.heap.size w w' := by
  refine fun_eq 0 w Tryz.func237 (args := []) rfl rfl ?_
  repeat' (first
    | (refine Branch.yes rfl ?_)
    | (refine Branch.no rfl ?_)
    | (refine Branch.mk (fun hb => ?_) (fun hb => ?_))
    | (refine NewI.mk fun nb hnb => ?_)
    | (refine Need.mk (by show _ ∧ _; omega) ?_)
    | (refine Need.mk (by omega) ?_)
    | (refine Need.mk ?_ ?_)
    | (refine EndI.mk fun w1 h1 => ?_))
  rfl
theorem compare1_any (p q : Nat) (l m : Int) (w : World) (hp : w.cell? ⟨p, 0, none⟩ = some (.int .u64 l)) (hq : w.cell? ⟨q, 0, none⟩ = some (.int .u64 m)) :
    Calls Tryz.prog 235 #[.pointer (some ⟨p, 0, none⟩), .pointer (some ⟨q, 0, none⟩)] w fun e w' => e = .returned (.int .i64 (cmpI l m)) ∧ Below w.heap.size w w' := by
  refine fun_eq 0 w Tryz.func235 (args := [.val (.pointer (some ⟨p, 0, none⟩)), .val (.pointer (some ⟨q, 0, none⟩))]) rfl rfl ?_
  refine LoadI.mk ⟨_, ⟨hp, by simp⟩, ?_⟩
  refine LoadI.mk ⟨_, ⟨hq, by simp⟩, ?_⟩
  apply CallI.use1
  · exact fun w1 h1 => firstU_any l m 237 #[] Tryz.call237 0 w1 fun W _ => zero_any W
  intro w1 w2 h1 hB2
  refine EndI.mk fun w3 h3 => ?_
  split
  · rfl
  · rename_i h
    rw [Decidable.not_not] at h
    rw [h]
theorem cmp_words (P Q : Int) : (if cmpI (P / 18446744073709551616) (Q / 18446744073709551616) ≠ 0 then cmpI (P / 18446744073709551616) (Q / 18446744073709551616) else cmpI (P % 18446744073709551616) (Q % 18446744073709551616)) = cmpI P Q := by
  have e1 := Int.mul_ediv_add_emod P 18446744073709551616
  have e2 := Int.mul_ediv_add_emod Q 18446744073709551616
  have h1 := Int.emod_nonneg P (b := 18446744073709551616) (by decide)
  have h2 := Int.emod_lt_of_pos P (b := 18446744073709551616) (by decide)
  have h3 := Int.emod_nonneg Q (b := 18446744073709551616) (by decide)
  have h4 := Int.emod_lt_of_pos Q (b := 18446744073709551616) (by decide)
  generalize P / 18446744073709551616 = p at *
  generalize Q / 18446744073709551616 = q at *
  generalize P % 18446744073709551616 = r at *
  generalize Q % 18446744073709551616 = s at *
  subst e1; subst e2
  have lt : ∀ {x y : Int}, x < y → cmpI x y = -1 := fun h => if_pos h
  have gt : ∀ {x y : Int}, y < x → cmpI x y = 1 := fun h => by unfold cmpI; rw [if_neg (by omega), if_pos h]
  have eq : ∀ x : Int, cmpI x x = 0 := fun x => by unfold cmpI; rw [if_neg (by omega), if_neg (by omega)]
  rcases Int.lt_trichotomy p q with h | h | h
  · rw [lt h, if_pos (by decide), lt (by omega)]
  · subst h
    rw [eq p, if_neg (by decide)]
    rcases Int.lt_trichotomy r s with h | h | h
    · rw [lt h, lt (by omega)]
    · subst h; rw [eq, eq]
    · rw [gt h, gt (by omega)]
  · rw [gt h, if_pos (by decide), gt (by omega)]
theorem compare_any (a b : Rt) (ha : a.ins) (hb : b.ins) (w : World) :
    Calls Tryz.prog 185 #[.agg #[.int .i64 a.num, .int .i64 a.den], .agg #[.int .i64 b.num, .int .i64 b.den]] w fun e w' => e = .returned (.int .i64 (Fr.cmpR a b)) ∧ Below w.heap.size w w' := by
  refine fun_eq 0 w Tryz.func185 (args := [.agg [.val (.int .i64 a.num), .val (.int .i64 a.den)], .agg [.val (.int .i64 b.num), .val (.int .i64 b.den)]]) rfl rfl ?_
  refine NewI.mk fun b1 hb1 => ?_
  refine NewI.mk fun b2 hb2 => ?_
  (first
    | (apply CallI.use1; (focus (exact fun w1 h1 => product_any a.num b.den ha.1 hb.2 w1)); intro w1 w2 h1 hB)
    | (refine Branch.yes rfl ?_)
    | (refine Branch.no rfl ?_)
    | (refine Branch.mk (fun hb => ?_) (fun hb => ?_))
    | (refine NewI.mk fun nb hnb => ?_)
    | (refine Need.mk (by show _ ∧ _; omega) ?_)
    | (refine Need.mk (by omega) ?_)
    | (refine Need.mk ?_ ?_)
    | (refine EndI.mk fun w1 h1 => ?_))
  refine NewI.mk fun b3 hb3 => ?_
  apply CallI.use1
  · exact fun w3 h3 => product_any b.num a.den hb.1 ha.2 w3
  intro w3 w4 h3 hB4
  refine NewI.mk fun b4 hb4 => ?_
  apply CallI.use1
  · exact fun w5 h5 => first_any _ _ 235 #[.pointer (some ⟨b3, 0, none⟩), .pointer (some ⟨b4, 0, none⟩)] Tryz.call235 (cmpI (a.num * b.den % 18446744073709551616) (b.num * a.den % 18446744073709551616)) w5 fun W hW =>
      compare1_any b3 b4 _ _ W ((hW.cell (p := ⟨b3, 0, none⟩) (h5.lt b3 (by simp))).trans (h5.own (i := 2) (o := 0) rfl rfl rfl)) ((hW.cell (p := ⟨b4, 0, none⟩) (h5.lt b4 (by simp))).trans (h5.own (i := 3) (o := 0) rfl rfl rfl))
  intro w5 w6 h5 hB6
  refine EndI.mk fun w7 h7 => ?_
  rw [cmp_words]; rfl
theorem two_all (a b : Rt) : (if [a, b].all Rt.ok = true then (0 : Int) else 8) = if a.ok = true ∧ b.ok = true then 0 else 8 := by simp
theorem rcmp_any (a b : Rt) (ha : a.ins) (hb : b.ins) (w : World) :
    Calls Tryz.prog 111 #[.agg #[.int .i64 a.num, .int .i64 a.den], .agg #[.int .i64 b.num, .int .i64 b.den]] w fun e w' => e = .returned (.tuple #[.int .i64 (Fr.cmp a b).1, .int .i64 (Fr.cmp a b).2]) ∧ Below w.heap.size w w' := by
  refine fun_eq 0 w Tryz.func111 (args := [.agg [.val (.int .i64 a.num), .val (.int .i64 a.den)], .agg [.val (.int .i64 b.num), .val (.int .i64 b.den)]]) rfl rfl ?_
  refine NewI.mk fun b1 hb1 => ?_
  refine NewI.mk fun b2 hb2 => ?_
  refine NewI.mk fun b3 hb3 => ?_
  apply CallI.use1
  · exact fun w1 h1 => rchecked_any [a, b] (by intro y hy; simp at hy; rcases hy with rfl | rfl <;> assumption) _ _ w1 (Sl.own (l := [a, b]) h1 2 rfl rfl rfl (Nat.le_refl _) (by simp [maxLen]))
  intro w1 w2 h1 hB2
  rw [two_all]
  refine Branch.mk (fun hc => ?_) (fun hc => ?_)
  · refine EndI.mk fun w3 h3 => ?_
    have hno : ¬ (a.ok = true ∧ b.ok = true) := fun h => by rw [if_pos h] at hc; cases hc
    rw [Fr.cmp, if_neg hno, if_neg hno]
  have hok : a.ok = true ∧ b.ok = true := by
    by_cases h : a.ok = true ∧ b.ok = true
    · exact h
    · rw [if_neg h] at hc; cases hc
  apply CallI.use1
  · exact fun w3 h3 => compare_any a b ha hb w3
  intro w3 w4 h3 hB4
  refine EndI.mk fun w5 h5 => ?_
  rw [Fr.cmp, if_pos hok]
end Go.Proofs.YtodpgcdandechaaGreat

/-
  The contracts of package rat that make fractions: low, Of, sum, Add, by the engine.
-/
namespace Go.Proofs.YtodpgcdandechaaGreat
set_option linter.unusedVariables false
set_option linter.unusedSimpArgs false
set_option maxRecDepth 100000
open Go.RowKit Go.Proofs.YtodpgcdandechaaGreat.Eng Enc

theorem div_in {n g : Int} (hn : inK .i64 n) (hg : 1 ≤ g) : inK .i64 (n / g) := Fr.ediv_in hg hn
theorem gcdI_any (x y : Int) (a b : Nat) (hx : x = a) (hy : y = b) (ha : a < 18446744073709551616) (hb : b < 18446744073709551616) (w : World) :
    Calls Tryz.prog 109 #[.int .u64 x, .int .u64 y] w fun e w' => e = .returned (.int .u64 (Nat.gcd a b)) ∧ Below w.heap.size w w' := by
  subst hx; subst hy; exact gcd_any a b ha hb w
theorem low_any (n d : Int) (hd : 1 ≤ d) (hn : inK .i64 n) (hd2 : inK .i64 d) (w : World) :
    Calls Tryz.prog 146 #[.int .i64 n, .int .i64 d] w fun e w' => e = .returned (.tuple #[.agg #[.int .i64 (Fr.low n d).1.num, .int .i64 (Fr.low n d).1.den], .int .i64 (Fr.low n d).2]) ∧ Below w.heap.size w w' := by
  refine fun_eq 0 w Tryz.func146 (args := [.val (.int .i64 n), .val (.int .i64 d)]) rfl rfl ?_
  have hn' := hn
  have hd' := hd2
  simp only [inK] at hn' hd'
  refine NewI.mk fun b1 hb1 => ?_
  (first
    | (refine CallI.to1 (size_any n hn) fun w2 => ?_)
    | (refine Branch.yes rfl ?_)
    | (refine Branch.no rfl ?_)
    | (refine Branch.mk (fun hb => ?_) (fun hb => ?_))
    | (refine NewI.mk fun nb hnb => ?_)
    | (refine Need.mk (by show _ ∧ _; omega) ?_)
    | (refine Need.mk (by omega) ?_)
    | (refine Need.mk ?_ ?_)
    | (refine EndI.mk fun w1 h1 => ?_))
  obtain ⟨D, rfl⟩ : ∃ D : Nat, d = D := ⟨d.toNat, by omega⟩
  (first
    | (refine CallI.to1 (gcdI_any _ _ n.natAbs D rfl (by omega) (by omega) (by omega)) fun w2 => ?_)
    | (refine Branch.yes rfl ?_)
    | (refine Branch.no rfl ?_)
    | (refine Branch.mk (fun hb => ?_) (fun hb => ?_))
    | (refine NewI.mk fun nb hnb => ?_)
    | (refine Need.mk (by show _ ∧ _; omega) ?_)
    | (refine Need.mk (by omega) ?_)
    | (refine Need.mk ?_ ?_)
    | (refine EndI.mk fun w1 h1 => ?_))
  have hgD : (Nat.gcd n.natAbs D : Int) ∣ (D : Int) := Int.natCast_dvd_natCast.2 (Nat.gcd_dvd_right ..)
  have hgn : (Nat.gcd n.natAbs D : Int) ∣ n := Int.ofNat_dvd_left.2 (Nat.gcd_dvd_left ..)
  have hg1 : 1 ≤ (Nat.gcd n.natAbs D : Int) := by
    have : 0 < Nat.gcd n.natAbs D := Nat.gcd_pos_of_pos_right _ (by omega)
    omega
  have hgle : (Nat.gcd n.natAbs D : Int) ≤ D := Int.le_of_dvd (by omega) hgD
  have hl : Fr.low n D = if Fr.okB (n / (Nat.gcd n.natAbs D : Int)) ((D : Int) / (Nat.gcd n.natAbs D : Int)) = true then (⟨n / (Nat.gcd n.natAbs D : Int), (D : Int) / (Nat.gcd n.natAbs D : Int)⟩, 0) else (⟨0, 0⟩, 10) := rfl
  rw [hl]
  generalize (Nat.gcd n.natAbs D : Int) = g at *
  have e1 : n.tdiv g = n / g := Int.tdiv_eq_ediv_of_dvd hgn
  have e2 : (D : Int).tdiv g = (D : Int) / g := Int.tdiv_eq_ediv_of_dvd hgD
  conv => whnf
  rw [show (g + 9223372036854775808) % 18446744073709551616 - 9223372036854775808 = g by omega]
  refine DrawI.go (.tk 0 (.tk 1 (.tk 2 (.tk 3 (.tk 4 (.tk 5 (.tk 6 (.ev 7 (.ev 8 .done))))))))) (by kernel_rfl) fun w1 h1 => ?_
  refine Need.mk ⟨by omega, by rw [e1]; exact div_in hn hg1⟩ ?_
  refine Need.mk ⟨by omega, by rw [e2]; exact div_in hd2 hg1⟩ ?_
  rw [e1, e2]
  refine NewI.mk fun b2 hb2 => ?_
  apply CallI.use1
  · exact fun w3 h3 => rcheck_any (n / g) (D / g) (div_in hn hg1) (div_in hd2 hg1) w3
  intro w3 w4 h3 hB4
  refine Branch.mk (fun hc => ?_) (fun hc => ?_)
  · refine EndI.mk fun w5 h5 => ?_
    rw [if_pos (Fr.chk_eq.1 (by simpa using hc))]
  · refine EndI.mk fun w5 h5 => ?_
    rw [if_neg (fun h => by rw [Fr.chk_yes h] at hc; cases hc)]
theorem rof_any (n d : Int) (hn : inK .i64 n) (hd2 : inK .i64 d) (w : World) :
    Calls Tryz.prog 79 #[.int .i64 n, .int .i64 d] w fun e w' => e = .returned (.tuple #[.agg #[.int .i64 (Fr.of n d).1.num, .int .i64 (Fr.of n d).1.den], .int .i64 (Fr.of n d).2]) ∧ Below w.heap.size w w' := by
  refine fun_eq 0 w Tryz.func79 (args := [.val (.int .i64 n), .val (.int .i64 d)]) rfl rfl ?_
  refine NewI.mk fun b1 hb1 => ?_
  unfold Fr.of
  refine Branch.mk (fun hc => ?_) (fun hc => ?_)
  · refine EndI.mk fun w5 h5 => ?_
    rw [if_pos (by simpa using hc)]
  have hd : ¬ d < 1 := by simpa using hc
  rw [if_neg hd]
  (first
    | (refine CallI.to1 (low_any n d (by omega) hn hd2) fun w2 => ?_)
    | (refine Branch.yes rfl ?_)
    | (refine Branch.no rfl ?_)
    | (refine Branch.mk (fun hb => ?_) (fun hb => ?_))
    | (refine NewI.mk fun nb hnb => ?_)
    | (refine Need.mk (by show _ ∧ _; omega) ?_)
    | (refine Need.mk (by omega) ?_)
    | (refine Need.mk ?_ ?_)
    | (refine EndI.mk fun w1 h1 => ?_))
  exact EndI.mk fun w5 h5 => rfl

theorem sum_any (a b : Rt) (k : Int) (ha : a.ok = true) (hb : b.ok = true) (ia : a.ins) (ib : b.ins) (hk : k = 1 ∨ k = 2) (w : World) :
    Calls Tryz.prog 148 #[.agg #[.int .i64 a.num, .int .i64 a.den], .agg #[.int .i64 b.num, .int .i64 b.den], .int .i64 k] w fun e w' => e = .returned (.tuple #[.agg #[.int .i64 (Fr.sum a b k).1.num, .int .i64 (Fr.sum a b k).1.den], .int .i64 (Fr.sum a b k).2]) ∧ Below w.heap.size w w' := by
  refine fun_eqW 0 w Tryz.func148 (args := [.agg [.val (.int .i64 a.num), .val (.int .i64 a.den)], .agg [.val (.int .i64 b.num), .val (.int .i64 b.den)], .val (.int .i64 k)]) rfl rfl ?_
  have oa := Fr.ok_bd ha
  have ob := Fr.ok_bd hb
  have hd := Fr.dn_pos ha hb hk
  obtain ⟨s1, s2, s3, s4, s5, s6, s7, s8⟩ := Fr.sum_bd ha hb hk
  have hfin := Fr.finish_sum ha hb hk
  obtain ⟨hg, _, _, hp, hd1, hd2⟩ := Fr.red (T := Fr.tn a b) (W := Fr.sW a b k) (D := Fr.sDen a b * k) (p := Fr.sPart a b k) (by omega) (by omega) (Fr.sum_split ha hb hk)
  have hk1 : 1 ≤ k := by omega
  refine NewI.mk fun b1 hb1 => ?_
  refine NewI.mk fun b2 hb2 => ?_
  refine NewI.mk fun b3 hb3 => ?_
  apply CallI.use1
  · exact fun w1 h1 => floor_any a.num a.den oa.1 ia.1 ia.2 w1
  intro w1 w2 h1 hB2
  apply CallI.use1
  · exact fun w3 h3 => floor_any b.num b.den ob.1 ib.1 ib.2 w3
  intro w3 w4 h3 hB4
  refine DrawI.go (.tk 0 (.tk 1 (.tk 2 (.tk 3 (.tk 4 (.tk 5 (.tk 6 (.tk 7 (.tk 8 (.tk 9 (.tk 10 (.tk 11 (.tk 12 (.tk 13 .done)))))))))))))) (by kernel_rfl) fun w5 h5 => ?_
  refine Wr.fit (by have := s1; unfold Fr.sWhole at this; omega) ?_
  refine Wr.fit (by omega) ?_
  refine Wr.fit (by omega) ?_
  refine Wr.fit (by omega) ?_
  refine Wr.fit (by have := hd; unfold Fr.sDen at this; omega) ?_
  apply CallI.use1
  · exact fun w3 h3 => floor_any (Fr.sWhole a b) k (by omega) (by simp only [inK]; omega) (by simp only [inK]; omega) w3
  intro w6 w7 h6 hB7
  refine Wr.fit (by have := s4; unfold Fr.sDen at this; omega) ?_
  refine Wr.fit (by have := s5; unfold Fr.sRest2 Fr.sRest Fr.sDen at this; omega) ?_
  refine Wr.fit (by have := hd; unfold Fr.sDen at this; omega) ?_
  apply CallI.use1
  · exact fun w3 h3 => floor_any (Fr.sRest2 a b k) (Fr.sDen a b * k) (by omega) (by simp only [inK]; omega) (by simp only [inK]; omega) w3
  intro w8 w9 h8 hB9
  refine Wr.fit (by have := hd; unfold Fr.sDen at this; omega) ?_
  apply CallI.use1
  · exact fun w3 h3 => gcdI_any _ _ (Fr.sPart a b k).natAbs (Fr.sDen a b * k).natAbs (by show Fr.sPart a b k % 18446744073709551616 = _; omega) (by show Fr.sDen a b * k % 18446744073709551616 = _; omega) (by omega) (by omega) w3
  intro w10 w11 h10 hB11
  conv => whnf
  rw [show (((Nat.gcd (Fr.sPart a b k).natAbs (Fr.sDen a b * k).natAbs : Nat) : Int) + 9223372036854775808) % 18446744073709551616 - 9223372036854775808 = Int.gcd (Fr.sPart a b k) (Fr.sDen a b * k) by
    have hle : (Int.gcd (Fr.sPart a b k) (Fr.sDen a b * k) : Int) ≤ Fr.sDen a b * k := Int.le_of_dvd (by omega) (Int.gcd_dvd_right ..)
    show ((Int.gcd (Fr.sPart a b k) (Fr.sDen a b * k) : Int) + 9223372036854775808) % 18446744073709551616 - 9223372036854775808 = _
    omega]
  have t1 : (Fr.sPart a b k).tdiv (Int.gcd (Fr.sPart a b k) (Fr.sDen a b * k)) = Fr.sPart a b k / (Int.gcd (Fr.sPart a b k) (Fr.sDen a b * k)) := Int.tdiv_eq_ediv_of_dvd (Int.gcd_dvd_left ..)
  have t2 : (a.den * b.den * k).tdiv (Int.gcd (Fr.sPart a b k) (Fr.sDen a b * k)) = Fr.sDen a b * k / (Int.gcd (Fr.sPart a b k) (Fr.sDen a b * k)) := Int.tdiv_eq_ediv_of_dvd (Int.gcd_dvd_right ..)
  refine DrawI.go (.tk 0 (.tk 1 (.tk 2 (.tk 3 (.tk 4 (.tk 5 (.tk 6 (.tk 7 (.tk 8 (.tk 9 .done)))))))))) (by kernel_rfl) fun w12 h12 => ?_
  refine Need.mk ⟨by omega, by show inK .i64 ((Fr.sPart a b k).tdiv _); rw [t1]; simp only [inK]; omega⟩ ?_
  refine Wr.fit (by have := hd; unfold Fr.sDen at this; omega) ?_
  refine Need.mk ⟨by omega, by rw [t2]; simp only [inK]; omega⟩ ?_
  rw [show ((Fr.sRest2 a b k) % (Fr.sDen a b * k)) = Fr.sPart a b k from rfl, t1, t2]
  rw [← hfin]
  have hW : -4611686018427387904 ≤ Fr.sW a b k ∧ Fr.sW a b k ≤ 4611689316962271232 := by unfold Fr.sW; omega
  generalize Fr.sPart a b k / (Int.gcd (Fr.sPart a b k) (Fr.sDen a b * k) : Int) = p at *
  generalize Fr.sDen a b * k / (Int.gcd (Fr.sPart a b k) (Fr.sDen a b * k) : Int) = d at *
  clear t1 t2 hfin
  unfold Fr.finish
  refine Branch.mk (fun hc => ?_) (fun hc => ?_)
  · refine EndI.mk fun w5 h5 => ?_
    rw [if_pos (by simpa using hc)]
  have hd20 : ¬ 1048576 < d := by simpa using hc
  rw [if_neg hd20]
  refine Wr.fit (by have := hW; unfold Fr.sW at this; omega) ?_
  refine CallI.to0 (check_any (Fr.sW a b k)) fun w14 => ?_
  conv => whnf
  rw [show Fr.sWhole a b / k + Fr.sRest2 a b k / (Fr.sDen a b * k) = Fr.sW a b k from rfl]
  generalize Fr.sW a b k = W at *
  refine Branch.mk (fun hc => ?_) (fun hc => ?_)
  · refine EndI.mk fun w5 h5 => ?_
    rw [if_pos (by simpa using hc)]
  have hW0 : Num.chk W = 0 := by simpa using hc
  rw [if_neg (by omega)]
  have hWb : -2305843009213693952 ≤ W ∧ W ≤ 2305843009213693952 := by
    rcases hk : Num.okB W with _ | _
    · rw [Num.chk_no hk] at hW0; cases hW0
    · exact Num.okB_iff.1 hk
  refine Branch.mk (fun hneg => ?_) (fun hneg => ?_)
  · have hn : W < 0 := by simpa using hneg
    refine Wr.fit (by omega) ?_
    refine Wr.fit (by omega) ?_
    have hP : (W + 1) * d + (p - d) = W * d + p := by grind
    have hs : (W + 1) * d ≤ 0 := Int.mul_nonpos_of_nonpos_of_nonneg (by omega) (by omega)
    apply CallI.use1
    · exact fun w3 h3 => product_any (W + 1) d (by simp only [inK]; omega) (by simp only [inK]; omega) w3
    intro w15 w16 h15 hB16
    generalize (W + 1) * d = P at *
    generalize W * d = WD at *
    have hsg : (0 ≤ P ∧ 0 ≤ p - d) ∨ (P ≤ 0 ∧ p - d < 0) := by omega
    have hqb : -1048576 ≤ p - d ∧ p - d ≤ 1048576 := by omega
    generalize p - d = q at *
    rw [← hP]
    refine Wr.mk ?_
    refine Need.mk (by decide) ?_
    conv => whnf
    rw [show (2 : Int) ^ Int.toNat 63 = 9223372036854775808 by decide, show (P % 18446744073709551616 + 9223372036854775808) % 18446744073709551616 - 9223372036854775808 = Fr.il P from rfl]
    refine Branch.mk (fun hc2 => ?_) (fun hc2 => ?_)
    · refine EndI.mk fun w5 h5 => ?_
      rw [if_neg (fun h => by rw [Fr.il_ne (P := P) (by simpa using hc2) (by omega)] at h; cases h)]
    obtain ⟨hil, hPb⟩ := Fr.il_eq (P := P) (by simpa using hc2)
    rw [hil]
    refine Branch.mk (fun hc3 => ?_) (fun hc3 => ?_)
    · refine Branch.mk (fun hc4 => ?_) (fun hc4 => ?_)
      · refine EndI.mk fun w5 h5 => ?_
        rw [if_neg]
        intro h
        simp only [Fr.inI, Bool.and_eq_true, decide_eq_true_eq] at h
        have hc4 : q ≠ 0 := by simpa using hc4
        simp at hc3
        omega
      · have hq0 : q = 0 := by simpa using hc4
        subst hq0
        rw [if_pos (by simp only [Fr.inI, Bool.and_eq_true, decide_eq_true_eq]; omega)]
        rw [show (P + 0 + 9223372036854775808) % 18446744073709551616 - 9223372036854775808 = P + 0 by omega]
        apply CallI.use1
        · exact fun w3 h3 => low_any (P + 0) d (by omega) (by simp only [inK]; omega) (by simp only [inK]; omega) w3
        intro w17 w18 h17 hB18
        exact EndI.mk fun w19 h19 => rfl
    · simp at hc3
      rw [if_pos (by simp only [Fr.inI, Bool.and_eq_true, decide_eq_true_eq]; omega)]
      rw [show (P + q + 9223372036854775808) % 18446744073709551616 - 9223372036854775808 = P + q by omega]
      apply CallI.use1
      · exact fun w3 h3 => low_any (P + q) d (by omega) (by simp only [inK]; omega) (by simp only [inK]; omega) w3
      intro w17 w18 h17 hB18
      exact EndI.mk fun w19 h19 => rfl
  · have hn : 0 ≤ W := by have : ¬ W < 0 := by simpa using hneg
                          omega
    have hs : 0 ≤ W * d := Int.mul_nonneg hn (by omega)
    apply CallI.use1
    · exact fun w3 h3 => product_any W d (by simp only [inK]; omega) (by simp only [inK]; omega) w3
    intro w15 w16 h15 hB16
    have hsg : (0 ≤ W * d ∧ 0 ≤ p) ∨ (W * d ≤ 0 ∧ p < 0) := by omega
    have hpb : -1048576 ≤ p ∧ p ≤ 1048576 := by omega
    generalize W * d = P at *
    refine Wr.mk ?_
    refine Need.mk (by decide) ?_
    conv => whnf
    rw [show (2 : Int) ^ Int.toNat 63 = 9223372036854775808 by decide, show (P % 18446744073709551616 + 9223372036854775808) % 18446744073709551616 - 9223372036854775808 = Fr.il P from rfl]
    refine Branch.mk (fun hc2 => ?_) (fun hc2 => ?_)
    · refine EndI.mk fun w5 h5 => ?_
      rw [if_neg (fun h => by rw [Fr.il_ne (P := P) (by simpa using hc2) (by omega)] at h; cases h)]
    obtain ⟨hil, hPb⟩ := Fr.il_eq (P := P) (by simpa using hc2)
    rw [hil]
    refine Branch.mk (fun hc3 => ?_) (fun hc3 => ?_)
    · refine Branch.mk (fun hc4 => ?_) (fun hc4 => ?_)
      · refine EndI.mk fun w5 h5 => ?_
        rw [if_neg]
        intro h
        simp only [Fr.inI, Bool.and_eq_true, decide_eq_true_eq] at h
        have hc4 : p ≠ 0 := by simpa using hc4
        simp at hc3
        omega
      · have hp0 : p = 0 := by simpa using hc4
        subst hp0
        rw [if_pos (by simp only [Fr.inI, Bool.and_eq_true, decide_eq_true_eq]; omega)]
        rw [show (P + 0 + 9223372036854775808) % 18446744073709551616 - 9223372036854775808 = P + 0 by omega]
        apply CallI.use1
        · exact fun w3 h3 => low_any (P + 0) d (by omega) (by simp only [inK]; omega) (by simp only [inK]; omega) w3
        intro w17 w18 h17 hB18
        exact EndI.mk fun w19 h19 => rfl
    · simp at hc3
      rw [if_pos (by simp only [Fr.inI, Bool.and_eq_true, decide_eq_true_eq]; omega)]
      rw [show (P + p + 9223372036854775808) % 18446744073709551616 - 9223372036854775808 = P + p by omega]
      apply CallI.use1
      · exact fun w3 h3 => low_any (P + p) d (by omega) (by simp only [inK]; omega) (by simp only [inK]; omega) w3
      intro w17 w18 h17 hB18
      exact EndI.mk fun w19 h19 => rfl

theorem radd_any (a b : Rt) (ha : a.ins) (hb : b.ins) (w : World) :
    Calls Tryz.prog 80 #[.agg #[.int .i64 a.num, .int .i64 a.den], .agg #[.int .i64 b.num, .int .i64 b.den]] w fun e w' => e = .returned (.tuple #[.agg #[.int .i64 (Fr.add a b).1.num, .int .i64 (Fr.add a b).1.den], .int .i64 (Fr.add a b).2]) ∧ Below w.heap.size w w' := by
  refine fun_eq 0 w Tryz.func80 (args := [.agg [.val (.int .i64 a.num), .val (.int .i64 a.den)], .agg [.val (.int .i64 b.num), .val (.int .i64 b.den)]]) rfl rfl ?_
  refine NewI.mk fun b1 hb1 => ?_
  refine NewI.mk fun b2 hb2 => ?_
  refine NewI.mk fun b3 hb3 => ?_
  refine NewI.mk fun b4 hb4 => ?_
  apply CallI.use1
  · exact fun w1 h1 => rchecked_any [a, b] (by intro y hy; simp at hy; rcases hy with rfl | rfl <;> assumption) _ _ w1 (Sl.own (l := [a, b]) h1 3 rfl rfl rfl (Nat.le_refl _) (by simp [maxLen]))
  intro w1 w2 h1 hB2
  rw [two_all]
  refine Branch.mk (fun hc => ?_) (fun hc => ?_)
  · refine EndI.mk fun w3 h3 => ?_
    have hno : ¬ (a.ok = true ∧ b.ok = true) := fun h => by rw [if_pos h] at hc; cases hc
    rw [Fr.add, if_neg hno, if_neg hno]
  have hok : a.ok = true ∧ b.ok = true := by
    by_cases h : a.ok = true ∧ b.ok = true
    · exact h
    · rw [if_neg h] at hc; cases hc
  apply CallI.use1
  · exact fun w3 h3 => sum_any a b 1 hok.1 hok.2 ha hb (.inl rfl) w3
  intro w3 w4 h3 hB4
  refine EndI.mk fun w5 h5 => ?_
  rw [Fr.add, if_pos hok]
end Go.Proofs.YtodpgcdandechaaGreat

/-
  The contracts of package region: numbers and points, by the engine.
-/
namespace Go.Proofs.YtodpgcdandechaaGreat
set_option linter.unusedVariables false
set_option linter.unusedSimpArgs false
set_option maxRecDepth 100000
open Go.RowKit Go.Proofs.YtodpgcdandechaaGreat.Eng Enc

theorem rfloor_any (a : Rt) (ha : a.ins) (w : World) :
    Calls Tryz.prog 85 #[.agg #[.int .i64 a.num, .int .i64 a.den]] w fun e w' => e = .returned (.tuple #[.int .i64 (Fr.floor a).1, .bool (Fr.floor a).2.1, .int .i64 (Fr.floor a).2.2]) ∧ Below w.heap.size w w' := by
  refine fun_eq 0 w Tryz.func85 (args := [.agg [.val (.int .i64 a.num), .val (.int .i64 a.den)]]) rfl rfl ?_
  refine NewI.mk fun b1 hb1 => ?_
  (first
    | (refine CallI.to1 (rcheck_any a.num a.den ha.1 ha.2) fun w2 => ?_)
    | (refine Branch.yes rfl ?_)
    | (refine Branch.no rfl ?_)
    | (refine Branch.mk (fun hb => ?_) (fun hb => ?_))
    | (refine NewI.mk fun nb hnb => ?_)
    | (refine Need.mk (by show _ ∧ _; omega) ?_)
    | (refine Need.mk (by omega) ?_)
    | (refine Need.mk ?_ ?_)
    | (refine EndI.mk fun w1 h1 => ?_))
  unfold Fr.floor
  refine Branch.mk (fun hc => ?_) (fun hc => ?_)
  · refine EndI.mk fun w3 h3 => ?_
    have hno : ¬ a.ok = true := fun h => by
      have : Fr.chk a.num a.den = 0 := Fr.chk_yes h
      rw [this] at hc; cases hc
    rw [if_neg hno]
    have : Fr.chk a.num a.den = 8 := Fr.chk_no (by cases h : Fr.okB a.num a.den; rfl; exact absurd h hno)
    rw [this]
  have hok : a.ok = true := Fr.chk_eq.1 (by simpa using hc)
  have oa := Fr.ok_bd hok
  rw [if_pos hok]
  (first
    | (refine CallI.to1 (floor_any a.num a.den oa.1 ha.1 ha.2) fun w2 => ?_)
    | (refine Branch.yes rfl ?_)
    | (refine Branch.no rfl ?_)
    | (refine Branch.mk (fun hb => ?_) (fun hb => ?_))
    | (refine NewI.mk fun nb hnb => ?_)
    | (refine Need.mk (by show _ ∧ _; omega) ?_)
    | (refine Need.mk (by omega) ?_)
    | (refine Need.mk ?_ ?_)
    | (refine EndI.mk fun w1 h1 => ?_))
  exact EndI.mk fun w3 h3 => rfl

theorem fits_any (long : Int) (w : World) : Calls Tryz.prog 47 #[.int .i64 long] w fun e w' => e = .returned (.bool (Rg.fits long)) ∧ Below w.heap.size w w' := by
  refine fun_eq 0 w Tryz.func47 (args := [.val (.int .i64 long)]) rfl rfl ?_
  unfold Rg.fits
  refine Branch.mk (fun hc => ?_) (fun hc => ?_)
  · refine EndI.mk fun w3 h3 => ?_
    have : decide (1 ≤ long) = true := hc
    rw [this]; rfl
  · refine EndI.mk fun w3 h3 => ?_
    have : decide (1 ≤ long) = false := hc
    rw [this]; rfl
theorem sides_any (long : Int) (h : 1 ≤ long ∧ long ≤ 16) (w : World) : Calls Tryz.prog 48 #[.int .i64 long] w fun e w' => e = .returned (.int .i64 (Rg.sides long)) ∧ Below w.heap.size w w' := by
  refine fun_eq 0 w Tryz.func48 (args := [.val (.int .i64 long)]) rfl rfl ?_
  refine Need.mk (by simp only [inK]; omega) ?_
  refine Need.mk (by simp only [inK]; omega) ?_
  exact EndI.mk fun w3 h3 => rfl
theorem many_any (long : Int) (w : World) : Calls Tryz.prog 8 #[.int .i64 long] w fun e w' => e = .returned (.tuple #[.int .i64 (Rg.many long).1, .int .i64 (Rg.many long).2]) ∧ Below w.heap.size w w' := by
  refine fun_eq 0 w Tryz.func8 (args := [.val (.int .i64 long)]) rfl rfl ?_
  (first
    | (refine CallI.to1 (fits_any long) fun w2 => ?_)
    | (refine Branch.yes rfl ?_)
    | (refine Branch.no rfl ?_)
    | (refine Branch.mk (fun hb => ?_) (fun hb => ?_))
    | (refine NewI.mk fun nb hnb => ?_)
    | (refine Need.mk (by show _ ∧ _; omega) ?_)
    | (refine Need.mk (by omega) ?_)
    | (refine Need.mk ?_ ?_)
    | (refine EndI.mk fun w1 h1 => ?_))
  unfold Rg.many
  refine Branch.mk (fun hc => ?_) (fun hc => ?_)
  · refine EndI.mk fun w3 h3 => ?_
    have : Rg.fits long = false := by simpa using hc
    rw [if_neg (by rw [this]; simp)]
  have hf : Rg.fits long = true := by simpa using hc
  have hl := Rg.fits_iff.1 hf
  rw [if_pos hf]
  have hs : 3 ≤ Rg.sides long ∧ Rg.sides long ≤ 33 := by unfold Rg.sides; omega
  (first
    | (refine CallI.to1 (sides_any long hl) fun w2 => ?_)
    | (refine Branch.yes rfl ?_)
    | (refine Branch.no rfl ?_)
    | (refine Branch.mk (fun hb => ?_) (fun hb => ?_))
    | (refine NewI.mk fun nb hnb => ?_)
    | (refine Need.mk (by show _ ∧ _; omega) ?_)
    | (refine Need.mk (by omega) ?_)
    | (refine Need.mk ?_ ?_)
    | (refine EndI.mk fun w1 h1 => ?_))
  refine Need.mk (by simp only [inK]; omega) ?_
  (first
    | (refine CallI.to1 (sides_any long hl) fun w2 => ?_)
    | (refine Branch.yes rfl ?_)
    | (refine Branch.no rfl ?_)
    | (refine Branch.mk (fun hb => ?_) (fun hb => ?_))
    | (refine NewI.mk fun nb hnb => ?_)
    | (refine Need.mk (by show _ ∧ _; omega) ?_)
    | (refine Need.mk (by omega) ?_)
    | (refine Need.mk ?_ ?_)
    | (refine EndI.mk fun w1 h1 => ?_))
  have hm := Fr.mul_bd (u := 3 * Rg.sides long) (v := Rg.sides long) (m := 99) (n := 33) (by omega) (by omega) (by omega) (by omega)
  refine Need.mk (by simp only [inK]; omega) ?_
  exact EndI.mk fun w3 h3 => rfl
theorem place_any (a : Rt) (ha : a.ins) (w : World) :
    Calls Tryz.prog 86 #[.agg #[.int .i64 a.num, .int .i64 a.den]] w fun e w' => e = .returned (.tuple #[.int .i64 (Rg.place a), .agg #[.int .i64 (Rg.part a).num, .int .i64 (Rg.part a).den]]) ∧ Below w.heap.size w w' := by
  refine fun_eq 0 w Tryz.func86 (args := [.agg [.val (.int .i64 a.num), .val (.int .i64 a.den)]]) rfl rfl ?_
  have hb := Rg.floor_bd a
  refine NewI.mk fun b1 hb1 => ?_
  refine NewI.mk fun b2 hb2 => ?_
  (first
    | (refine CallI.to1 (rfloor_any a ha) fun w2 => ?_)
    | (refine Branch.yes rfl ?_)
    | (refine Branch.no rfl ?_)
    | (refine Branch.mk (fun hb => ?_) (fun hb => ?_))
    | (refine NewI.mk fun nb hnb => ?_)
    | (refine Need.mk (by show _ ∧ _; omega) ?_)
    | (refine Need.mk (by omega) ?_)
    | (refine Need.mk ?_ ?_)
    | (refine EndI.mk fun w1 h1 => ?_))
  refine Need.mk (by simp only [inK]; omega) ?_
  (first
    | (refine CallI.to1 (rof_any (-(Fr.floor a).1) 1 (by simp only [inK]; omega) (by simp only [inK]; omega)) fun w2 => ?_)
    | (refine Branch.yes rfl ?_)
    | (refine Branch.no rfl ?_)
    | (refine Branch.mk (fun hb => ?_) (fun hb => ?_))
    | (refine NewI.mk fun nb hnb => ?_)
    | (refine Need.mk (by show _ ∧ _; omega) ?_)
    | (refine Need.mk (by omega) ?_)
    | (refine Need.mk ?_ ?_)
    | (refine EndI.mk fun w1 h1 => ?_))
  refine NewI.mk fun b3 hb3 => ?_
  (first
    | (refine CallI.to1 (radd_any a (Fr.of (-(Fr.floor a).1) 1).1 ha (Fr.of_ins (by simp only [inK]; omega))) fun w2 => ?_)
    | (refine Branch.yes rfl ?_)
    | (refine Branch.no rfl ?_)
    | (refine Branch.mk (fun hb => ?_) (fun hb => ?_))
    | (refine NewI.mk fun nb hnb => ?_)
    | (refine Need.mk (by show _ ∧ _; omega) ?_)
    | (refine Need.mk (by omega) ?_)
    | (refine Need.mk ?_ ?_)
    | (refine EndI.mk fun w1 h1 => ?_))
  refine NewI.mk fun b4 hb4 => ?_
  unfold Rg.place Rg.part
  refine Branch.mk (fun hc => ?_) (fun hc => ?_)
  · rw [if_pos (by simpa using hc)]
    refine DrawI.wr (.tk 0 (.tk 1 (.tk 2 (.tk 3 (.ev 4 .done))))) [1] [] (by kernel_rfl) rfl (by simp) fun w5 h5 => ?_
    refine Need.mk (by simp only [inK]; omega) ?_
    exact EndI.mk fun w3 h3 => rfl
  · rw [if_neg (by simpa using hc)]
    refine DrawI.wr (.tk 0 (.tk 1 (.tk 2 (.tk 3 (.tk 4 (.ev 5 .done)))))) [1] [] (by kernel_rfl) rfl (by simp) fun w5 h5 => ?_
    refine Need.mk (by simp only [inK]; omega) ?_
    refine Need.mk (by simp only [inK]; omega) ?_
    exact EndI.mk fun w3 h3 => rfl
theorem number_any (p : Pt) (long : Int) (hp : p.ins) (hl : 1 ≤ long ∧ long ≤ 16) (w : World) :
    Calls Tryz.prog 52 #[.agg #[.int .i64 p.t.num, .int .i64 p.t.den, .int .i64 p.u.num, .int .i64 p.u.den], .int .i64 long] w fun e w' => e = .returned (.int .i64 (Rg.number p long)) ∧ Below w.heap.size w w' := by
  refine fun_eq 0 w Tryz.func52 (args := [.agg [.val (.int .i64 p.t.num), .val (.int .i64 p.t.den), .val (.int .i64 p.u.num), .val (.int .i64 p.u.den)], .val (.int .i64 long)]) rfl rfl ?_
  refine NewI.mk fun b1 hb1 => ?_
  (first
    | (refine CallI.to1 (place_any p.t hp.1) fun w2 => ?_)
    | (refine Branch.yes rfl ?_)
    | (refine Branch.no rfl ?_)
    | (refine Branch.mk (fun hb => ?_) (fun hb => ?_))
    | (refine NewI.mk fun nb hnb => ?_)
    | (refine Need.mk (by show _ ∧ _; omega) ?_)
    | (refine Need.mk (by omega) ?_)
    | (refine Need.mk ?_ ?_)
    | (refine EndI.mk fun w1 h1 => ?_))
  refine NewI.mk fun b2 hb2 => ?_
  (first
    | (refine CallI.to1 (place_any p.u hp.2) fun w2 => ?_)
    | (refine Branch.yes rfl ?_)
    | (refine Branch.no rfl ?_)
    | (refine Branch.mk (fun hb => ?_) (fun hb => ?_))
    | (refine NewI.mk fun nb hnb => ?_)
    | (refine Need.mk (by show _ ∧ _; omega) ?_)
    | (refine Need.mk (by omega) ?_)
    | (refine Need.mk ?_ ?_)
    | (refine EndI.mk fun w1 h1 => ?_))
  refine NewI.mk fun b3 hb3 => ?_
  (first
    | (refine CallI.to1 (rcmp_any p.t p.u hp.1 hp.2) fun w2 => ?_)
    | (refine Branch.yes rfl ?_)
    | (refine Branch.no rfl ?_)
    | (refine Branch.mk (fun hb => ?_) (fun hb => ?_))
    | (refine NewI.mk fun nb hnb => ?_)
    | (refine Need.mk (by show _ ∧ _; omega) ?_)
    | (refine Need.mk (by omega) ?_)
    | (refine Need.mk ?_ ?_)
    | (refine EndI.mk fun w1 h1 => ?_))
  unfold Rg.number
  refine Branch.mk (fun hc => ?_) (fun hc => ?_)
  · refine EndI.mk fun w3 h3 => ?_
    rw [if_pos (.inl (by simpa using hc))]
  have hcmp : (Fr.cmp p.t p.u).1 < 0 := by have : ¬ 0 ≤ (Fr.cmp p.t p.u).1 := by simpa using hc
                                           omega
  refine Branch.mk (fun hc2 => ?_) (fun hc2 => ?_)
  · refine EndI.mk fun w3 h3 => ?_
    rw [if_pos (.inr (.inl (by simpa using hc2)))]
  have ht : ¬ Rg.place p.t < 0 := by simpa using hc2
  (first
    | (refine CallI.to1 (sides_any long hl) fun w2 => ?_)
    | (refine Branch.yes rfl ?_)
    | (refine Branch.no rfl ?_)
    | (refine Branch.mk (fun hb => ?_) (fun hb => ?_))
    | (refine NewI.mk fun nb hnb => ?_)
    | (refine Need.mk (by show _ ∧ _; omega) ?_)
    | (refine Need.mk (by omega) ?_)
    | (refine Need.mk ?_ ?_)
    | (refine EndI.mk fun w1 h1 => ?_))
  refine Branch.mk (fun hc3 => ?_) (fun hc3 => ?_)
  · refine EndI.mk fun w3 h3 => ?_
    rw [if_pos (.inr (.inr (by simpa using hc3)))]
  have hu : ¬ Rg.sides long ≤ Rg.place p.u := by simpa using hc3
  rw [if_neg (by omega)]
  have hpb := Rg.place_bd hcmp
  have hs : 3 ≤ Rg.sides long ∧ Rg.sides long ≤ 33 := by unfold Rg.sides; omega
  have hm := Fr.mul_bd (u := Rg.place p.t) (v := Rg.sides long) (m := 33) (n := 33) (by omega) (by omega) (by omega) (by omega)
  have hcc := Fr.cmp_cases (Rg.part p.t) (Rg.part p.u)
  unfold Rg.order
  refine Branch.mk (fun hc4 => ?_) (fun hc4 => ?_)
  · have ho : Rg.place p.t % 2 = 1 ∧ Rg.place p.u % 2 = 1 := (i64_and_odd _ _).1 (by simpa using hc4)
    rw [if_pos ho]
    (first
      | (refine CallI.to1 (rcmp_any (Rg.part p.t) (Rg.part p.u) (Rg.part_ins _) (Rg.part_ins _)) fun w2 => ?_)
      | (refine Branch.yes rfl ?_)
      | (refine Branch.no rfl ?_)
      | (refine Branch.mk (fun hb => ?_) (fun hb => ?_))
      | (refine NewI.mk fun nb hnb => ?_)
      | (refine Need.mk (by show _ ∧ _; omega) ?_)
      | (refine Need.mk (by omega) ?_)
      | (refine Need.mk ?_ ?_)
      | (refine EndI.mk fun w1 h1 => ?_))
    refine Need.mk (by simp only [inK]; omega) ?_
    (first
      | (refine CallI.to1 (sides_any long hl) fun w2 => ?_)
      | (refine Branch.yes rfl ?_)
      | (refine Branch.no rfl ?_)
      | (refine Branch.mk (fun hb => ?_) (fun hb => ?_))
      | (refine NewI.mk fun nb hnb => ?_)
      | (refine Need.mk (by show _ ∧ _; omega) ?_)
      | (refine Need.mk (by omega) ?_)
      | (refine Need.mk ?_ ?_)
      | (refine EndI.mk fun w1 h1 => ?_))
    refine Need.mk (by simp only [inK]; omega) ?_
    refine Need.mk (by simp only [inK]; omega) ?_
    refine Need.mk (by simp only [inK]; omega) ?_
    refine Need.mk (by simp only [inK]; omega) ?_
    exact EndI.mk fun w3 h3 => rfl
  · have ho : ¬ (Rg.place p.t % 2 = 1 ∧ Rg.place p.u % 2 = 1) := fun h => by
      have := (i64_and_odd _ _).2 h
      have h2 : ¬ bits .and .i64 (bits .and .i64 (Rg.place p.t) (Rg.place p.u)) 1 = 1 := by simpa using hc4
      exact h2 this
    rw [if_neg ho]
    (first
      | (refine CallI.to1 (sides_any long hl) fun w2 => ?_)
      | (refine Branch.yes rfl ?_)
      | (refine Branch.no rfl ?_)
      | (refine Branch.mk (fun hb => ?_) (fun hb => ?_))
      | (refine NewI.mk fun nb hnb => ?_)
      | (refine Need.mk (by show _ ∧ _; omega) ?_)
      | (refine Need.mk (by omega) ?_)
      | (refine Need.mk ?_ ?_)
      | (refine EndI.mk fun w1 h1 => ?_))
    refine Need.mk (by simp only [inK]; omega) ?_
    refine Need.mk (by simp only [inK]; omega) ?_
    refine Need.mk (by simp only [inK]; omega) ?_
    refine Need.mk (by simp only [inK]; omega) ?_
    exact EndI.mk fun w3 h3 => rfl
theorem gnumber_any (p : Pt) (long : Int) (hp : p.ins) (w : World) :
    Calls Tryz.prog 10 #[.agg #[.int .i64 p.t.num, .int .i64 p.t.den, .int .i64 p.u.num, .int .i64 p.u.den], .int .i64 long] w fun e w' => e = .returned (.tuple #[.int .i64 (Rg.askNumber p long).1, .int .i64 (Rg.askNumber p long).2]) ∧ Below w.heap.size w w' := by
  refine fun_eq 0 w Tryz.func10 (args := [.agg [.val (.int .i64 p.t.num), .val (.int .i64 p.t.den), .val (.int .i64 p.u.num), .val (.int .i64 p.u.den)], .val (.int .i64 long)]) rfl rfl ?_
  refine NewI.mk fun b1 hb1 => ?_
  (first
    | (refine CallI.to1 (fits_any long) fun w2 => ?_)
    | (refine Branch.yes rfl ?_)
    | (refine Branch.no rfl ?_)
    | (refine Branch.mk (fun hb => ?_) (fun hb => ?_))
    | (refine NewI.mk fun nb hnb => ?_)
    | (refine Need.mk (by show _ ∧ _; omega) ?_)
    | (refine Need.mk (by omega) ?_)
    | (refine Need.mk ?_ ?_)
    | (refine EndI.mk fun w1 h1 => ?_))
  unfold Rg.askNumber
  refine Branch.mk (fun hc => ?_) (fun hc => ?_)
  · refine EndI.mk fun w3 h3 => ?_
    have : Rg.fits long = false := by simpa using hc
    rw [if_neg (by rw [this]; simp)]
  have hf : Rg.fits long = true := by simpa using hc
  rw [if_pos hf]
  have okc : ∀ (a : Rt), Fr.chk a.num a.den = 0 ↔ a.ok = true := fun a => Fr.chk_eq
  (first
    | (refine CallI.to1 (rcheck_any p.t.num p.t.den hp.1.1 hp.1.2) fun w2 => ?_)
    | (refine Branch.yes rfl ?_)
    | (refine Branch.no rfl ?_)
    | (refine Branch.mk (fun hb => ?_) (fun hb => ?_))
    | (refine NewI.mk fun nb hnb => ?_)
    | (refine Need.mk (by show _ ∧ _; omega) ?_)
    | (refine Need.mk (by omega) ?_)
    | (refine Need.mk ?_ ?_)
    | (refine EndI.mk fun w1 h1 => ?_))
  refine Branch.mk (fun hc2 => ?_) (fun hc2 => ?_)
  · refine EndI.mk fun w3 h3 => ?_
    rw [if_neg (fun h => by rw [(okc _).2 h.1] at hc2; cases hc2)]
  (first
    | (refine CallI.to1 (rcheck_any p.u.num p.u.den hp.2.1 hp.2.2) fun w2 => ?_)
    | (refine Branch.yes rfl ?_)
    | (refine Branch.no rfl ?_)
    | (refine Branch.mk (fun hb => ?_) (fun hb => ?_))
    | (refine NewI.mk fun nb hnb => ?_)
    | (refine Need.mk (by show _ ∧ _; omega) ?_)
    | (refine Need.mk (by omega) ?_)
    | (refine Need.mk ?_ ?_)
    | (refine EndI.mk fun w1 h1 => ?_))
  refine Branch.mk (fun hc3 => ?_) (fun hc3 => ?_)
  · refine EndI.mk fun w3 h3 => ?_
    rw [if_neg (fun h => by rw [(okc _).2 h.2] at hc3; cases hc3)]
  rw [if_pos ⟨(okc _).1 (by simpa using hc2), (okc _).1 (by simpa using hc3)⟩]
  (first
    | (refine CallI.to1 (number_any p long hp (Rg.fits_iff.1 hf)) fun w2 => ?_)
    | (refine Branch.yes rfl ?_)
    | (refine Branch.no rfl ?_)
    | (refine Branch.mk (fun hb => ?_) (fun hb => ?_))
    | (refine NewI.mk fun nb hnb => ?_)
    | (refine Need.mk (by show _ ∧ _; omega) ?_)
    | (refine Need.mk (by omega) ?_)
    | (refine Need.mk ?_ ?_)
    | (refine EndI.mk fun w1 h1 => ?_))
  refine Branch.mk (fun hc4 => ?_) (fun hc4 => ?_)
  · refine EndI.mk fun w3 h3 => ?_
    rw [if_pos (by simpa using hc4)]
  · refine EndI.mk fun w3 h3 => ?_
    rw [if_neg (by simpa using hc4)]
theorem time_any (pl pa of_ : Int) (h : 0 ≤ pl ∧ pl ≤ 1000) (hp : 0 ≤ pa ∧ pa ≤ 10) (ho : 1 ≤ of_ ∧ of_ ≤ 10) (w : World) :
    Calls Tryz.prog 116 #[.int .i64 pl, .int .i64 pa, .int .i64 of_] w fun e w' => e = .returned (.agg #[.int .i64 (Rg.time pl pa of_).num, .int .i64 (Rg.time pl pa of_).den]) ∧ Below w.heap.size w w' := by
  refine fun_eq 0 w Tryz.func116 (args := [.val (.int .i64 pl), .val (.int .i64 pa), .val (.int .i64 of_)]) rfl rfl ?_
  have hm := Fr.mul_bd (u := pl / 2) (v := of_) (m := 1000) (n := 10) (by omega) (by omega) (by omega) (by omega)
  have e2 : pl.tdiv 2 = pl / 2 := Int.tdiv_eq_ediv_of_nonneg h.1
  refine NewI.mk fun b1 hb1 => ?_
  unfold Rg.time
  refine Branch.mk (fun hc => ?_) (fun hc => ?_)
  · have he : pl % 2 = 0 := by rw [← i64_and1]; simpa using hc
    rw [if_pos he]
    refine Need.mk ⟨by decide, by show inK .i64 (pl.tdiv 2); rw [e2]; simp only [inK]; omega⟩ ?_
    refine Need.mk (by show inK .i64 (pl.tdiv 2 * 1); rw [e2]; simp only [inK]; omega) ?_
    refine Need.mk (by show inK .i64 (pl.tdiv 2 * 1 + 0); rw [e2]; simp only [inK]; omega) ?_
    conv => whnf
    rw [show pl.tdiv 2 * 1 + 0 = pl / 2 by rw [e2]; omega]
    (first
      | (refine CallI.to1 (rof_any (pl / 2) 1 (by simp only [inK]; omega) (by simp only [inK]; omega)) fun w2 => ?_)
      | (refine Branch.yes rfl ?_)
      | (refine Branch.no rfl ?_)
      | (refine Branch.mk (fun hb => ?_) (fun hb => ?_))
      | (refine NewI.mk fun nb hnb => ?_)
      | (refine Need.mk (by show _ ∧ _; omega) ?_)
      | (refine Need.mk (by omega) ?_)
      | (refine Need.mk ?_ ?_)
      | (refine EndI.mk fun w1 h1 => ?_))
    refine NewI.mk fun b2 hb2 => ?_
    exact EndI.mk fun w3 h3 => rfl
  · have he : ¬ pl % 2 = 0 := by rw [← i64_and1]; simpa using hc
    rw [if_neg he]
    refine Need.mk ⟨by decide, by show inK .i64 (pl.tdiv 2); rw [e2]; simp only [inK]; omega⟩ ?_
    refine Need.mk (by show inK .i64 (pl.tdiv 2 * of_); rw [e2]; simp only [inK]; omega) ?_
    refine Need.mk (by show inK .i64 (pl.tdiv 2 * of_ + pa); rw [e2]; simp only [inK]; omega) ?_
    conv => whnf
    rw [show pl.tdiv 2 * of_ + pa = pl / 2 * of_ + pa by rw [e2]]
    (first
      | (refine CallI.to1 (rof_any (pl / 2 * of_ + pa) of_ (by simp only [inK]; omega) (by simp only [inK]; omega)) fun w2 => ?_)
      | (refine Branch.yes rfl ?_)
      | (refine Branch.no rfl ?_)
      | (refine Branch.mk (fun hb => ?_) (fun hb => ?_))
      | (refine NewI.mk fun nb hnb => ?_)
      | (refine Need.mk (by show _ ∧ _; omega) ?_)
      | (refine Need.mk (by omega) ?_)
      | (refine Need.mk ?_ ?_)
      | (refine EndI.mk fun w1 h1 => ?_))
    refine NewI.mk fun b2 hb2 => ?_
    exact EndI.mk fun w3 h3 => rfl
end Go.Proofs.YtodpgcdandechaaGreat

/-
  The contracts of package region: points, by the engine.
-/
namespace Go.Proofs.YtodpgcdandechaaGreat
set_option linter.unusedVariables false
set_option linter.unusedSimpArgs false
set_option maxRecDepth 100000
open Go.RowKit Go.Proofs.YtodpgcdandechaaGreat.Eng Enc

theorem index_parts (r : Int) (h : 0 ≤ r ∧ r < 3) (w : World) :
    (Instr.index 151 (.agg #[.int .i64 1, .int .i64 2, .int .i64 3, .int .i64 1, .int .i64 1, .int .i64 2, .int .i64 2, .int .i64 1, .int .i64 3]) (.int .i64 r)).run Tryz.prog w = .ok (.agg #[.int .i64 (Rg.parts r).1, .int .i64 (Rg.parts r).2.1, .int .i64 (Rg.parts r).2.2]) w := by
  rcases (by omega : r = 0 ∨ r = 1 ∨ r = 2) with rfl | rfl | rfl <;> kernel_rfl
theorem point_any (n long : Int) (hl : 1 ≤ long ∧ long ≤ 16) (hn : 0 ≤ n ∧ n < (Rg.many long).1) (w : World) :
    Calls Tryz.prog 55 #[.int .i64 n, .int .i64 long] w fun e w' => e = .returned (.tuple #[.agg #[.int .i64 (Rg.pt n long).t.num, .int .i64 (Rg.pt n long).t.den, .int .i64 (Rg.pt n long).u.num, .int .i64 (Rg.pt n long).u.den], .bool (Rg.point n long).2]) ∧ Below w.heap.size w w' := by
  refine fun_eq 0 w Tryz.func55 (args := [.val (.int .i64 n), .val (.int .i64 long)]) rfl rfl ?_
  have hs : 3 ≤ Rg.sides long ∧ Rg.sides long ≤ 33 := by unfold Rg.sides; omega
  have hmany : (Rg.many long).1 = 3 * Rg.sides long * Rg.sides long := by unfold Rg.many; rw [if_pos (Rg.fits_iff.2 hl)]
  have hm := Fr.mul_bd (u := 3 * Rg.sides long) (v := Rg.sides long) (m := 99) (n := 33) (by omega) (by omega) (by omega) (by omega)
  have e1 : n.tdiv 3 = n / 3 := Int.tdiv_eq_ediv_of_nonneg hn.1
  have e2 : (n / 3).tdiv (Rg.sides long) = n / 3 / Rg.sides long := Int.tdiv_eq_ediv_of_nonneg (by omega)
  have e3 : (n / 3).tmod (Rg.sides long) = n / 3 % Rg.sides long := Int.tmod_eq_emod_of_nonneg (by omega)
  have e4 : n.tmod 3 = n % 3 := Int.tmod_eq_emod_of_nonneg hn.1
  have ht : 0 ≤ n / 3 / Rg.sides long ∧ n / 3 / Rg.sides long ≤ 1000 := by
    have h1 : 0 ≤ n / 3 / Rg.sides long := Int.ediv_nonneg (by omega) (by omega)
    have h2 : n / 3 / Rg.sides long < Rg.sides long := by
      refine Int.ediv_lt_of_lt_mul (by omega) ?_
      have : n < 3 * (Rg.sides long * Rg.sides long) := by rw [← Int.mul_assoc, ← hmany]; exact hn.2
      omega
    omega
  have hu : 0 ≤ n / 3 % Rg.sides long ∧ n / 3 % Rg.sides long ≤ 1000 := by
    have h1 := Int.emod_nonneg (n / 3) (b := Rg.sides long) (by omega)
    have h2 := Int.emod_lt_of_pos (n / 3) (b := Rg.sides long) (by omega)
    omega
  refine NewI.mk fun b1 hb1 => ?_
  refine DrawI.go (.tk 0 (.tk 1 (.tk 2 (.tk 5 (.tk 6 (.tk 7 (.ev 3 (.tk 4 (.ev 8 (.tk 9 (.tk 10 (.tk 11 .done)))))))))))) (by kernel_rfl) fun w1 h1 => ?_
  have n1 : (3 : Int) ≠ 0 ∧ inK .i64 (n.tdiv 3) := ⟨by decide, by rw [e1]; simp only [inK]; omega⟩
  refine Need.mk n1 ?_
  refine Need.mk n1 ?_
  (first
    | (refine CallI.to1 (sides_any long hl) fun w2 => ?_)
    | (refine Branch.yes rfl ?_)
    | (refine Branch.no rfl ?_)
    | (refine Branch.mk (fun hb => ?_) (fun hb => ?_))
    | (refine NewI.mk fun nb hnb => ?_)
    | (refine Need.mk (by show _ ∧ _; omega) ?_)
    | (refine Need.mk (by omega) ?_)
    | (refine Need.mk ?_ ?_)
    | (refine EndI.mk fun w1 h1 => ?_))
  refine Need.mk ⟨by omega, by show inK .i64 ((n.tdiv 3).tdiv (Rg.sides long)); rw [e1, e2]; simp only [inK]; omega⟩ ?_
  (first
    | (refine CallI.to1 (sides_any long hl) fun w2 => ?_)
    | (refine Branch.yes rfl ?_)
    | (refine Branch.no rfl ?_)
    | (refine Branch.mk (fun hb => ?_) (fun hb => ?_))
    | (refine NewI.mk fun nb hnb => ?_)
    | (refine Need.mk (by show _ ∧ _; omega) ?_)
    | (refine Need.mk (by omega) ?_)
    | (refine Need.mk ?_ ?_)
    | (refine EndI.mk fun w1 h1 => ?_))
  refine Need.mk (by omega) ?_
  refine Need.mk (by decide) ?_
  conv => whnf
  rw [e1, e2, e3, e4]
  refine GenV.to (fun w3 => index_parts (n % 3) (by omega) w3) fun w3 h3 => ?_
  have hpar : (0 ≤ (Rg.parts (n % 3)).1 ∧ (Rg.parts (n % 3)).1 ≤ 10) ∧ (0 ≤ (Rg.parts (n % 3)).2.1 ∧ (Rg.parts (n % 3)).2.1 ≤ 10) ∧ (1 ≤ (Rg.parts (n % 3)).2.2 ∧ (Rg.parts (n % 3)).2.2 ≤ 10) := by
    unfold Rg.parts; split
    · simp
    · split <;> simp
  refine NewI.mk fun b2 hb2 => ?_
  refine DrawI.go (.tk 0 (.tk 1 (.tk 2 (.tk 3 (.tk 4 (.tk 6 (.tk 7 (.tk 8 (.tk 9 (.tk 10 (.two 5 (.two 11 (.tk 12 (.ev 13 (.ev 14 .done))) 13 (.ev 11 (.tk 12 (.ev 14 .done)))) 13 (.ev 5 (.ev 11 (.tk 12 (.ev 14 .done))))))))))))))) (by kernel_rfl) fun w4 h4 => ?_
  refine Need.mk (by decide) ?_
  refine Need.mk (by decide) ?_
  refine Need.mk (by decide) ?_
  refine Need.mk (by decide) ?_
  have c1 := fun w => time_any (n / 3 / Rg.sides long) (Rg.parts (n % 3)).1 (Rg.parts (n % 3)).2.2 ht hpar.1 hpar.2.2 w
  have c2 := fun w => time_any (n / 3 % Rg.sides long) (Rg.parts (n % 3)).2.1 (Rg.parts (n % 3)).2.2 hu hpar.2.1 hpar.2.2 w
  have hins : (Rg.pt n long).ins := ⟨Rg.time_ins ht hpar.1 hpar.2.2, Rg.time_ins hu hpar.2.1 hpar.2.2⟩
  refine Both.mk ?_ ?_
  · refine CallI.to1 c1 fun w5 => ?_
    refine Both.mk ?_ ?_
    · refine CallI.to1 c2 fun w6 => ?_
      refine NewI.mk fun b3 hb3 => ?_
      refine DrawI.wr (.tk 0 (.tk 1 (.tk 2 (.tk 4 (.ev 3 (.tk 5 (.ev 6 (.tk 7 .done)))))))) [0] [] (by kernel_rfl) rfl (by simp) fun w7 h7 => ?_
      refine CallI.to1 (fun w => number_any (Rg.pt n long) long hins hl w) fun w8 => ?_
      exact EndI.mk fun w9 h9 => rfl
    · refine NewI.mk fun b3 hb3 => ?_
      refine CallI.to1 c2 fun w6 => ?_
      refine DrawI.wr (.tk 0 (.tk 1 (.tk 2 (.tk 4 (.ev 3 (.tk 5 (.ev 6 (.tk 7 .done)))))))) [0] [] (by kernel_rfl) rfl (by simp) fun w7 h7 => ?_
      refine CallI.to1 (fun w => number_any (Rg.pt n long) long hins hl w) fun w8 => ?_
      exact EndI.mk fun w9 h9 => rfl
  · refine NewI.mk fun b3 hb3 => ?_
    refine CallI.to1 c1 fun w5 => ?_
    refine CallI.to1 c2 fun w6 => ?_
    refine DrawI.wr (.tk 0 (.tk 1 (.tk 2 (.tk 4 (.ev 3 (.tk 5 (.ev 6 (.tk 7 .done)))))))) [0] [] (by kernel_rfl) rfl (by simp) fun w7 h7 => ?_
    refine CallI.to1 (fun w => number_any (Rg.pt n long) long hins hl w) fun w8 => ?_
    exact EndI.mk fun w9 h9 => rfl

end Go.Proofs.YtodpgcdandechaaGreat

/-
  Ranges over functions, in the run, that carry something on from round to round.
-/
namespace Go.Proofs.YtodpgcdandechaaGreat.Eng
set_option linter.unusedVariables false
set_option linter.unusedSimpArgs false
open Go Go.RowKit Go.Shelf Go.Proofs

section
variable {cx : Cx} {w0 : Base}

/-- A RANGE OVER A FUNCTION, in the run, with something that the rounds carry on (a row's address). -/
theorem rangeE (hcx : CxOk cx) {n : Nat} (h1 : 1 ≤ n) {s : St} {a : Act} {w : World} (hR : Rel w0 s a w) {g : Operand} {ps : Array Tmp} {x y : Code} {K : Exit → St → Prop} {gf : Nat} {lb : Array Value}
    (hg : ev s.fr g = .val (.func (.func gf) #[] lb)) (eg : Enters cx.P gf)
    {α : Type} {encs : α → List Value} {Kp : World → World → Prop} {S Sp : List α → Prop} {N : Nat} (hseq : SeqStopsK Fence.wide (n - 1) cx.P gf lb (fun x => (encs x).toArray) Kp S Sp N w)
    (hKt : ∀ {A B C : World}, Kp A B → Kp B C → Kp A C) (hKb : ∀ (W : World) (l : Nat) (o o' : Obj), w.heap.size ≤ l → W.heap[l]? = some o → o.isCells = false → o.isWalk = false → Kp W (W.putObj l o'))
    (hKg : ∀ W W', w.heap.size ≤ W.heap.size → W.grownBy W' none → Kp W W') (hps : ∀ x, (encs x).length = ps.size)
    {γ : Type} (hpf : γ → List LB) (Φ : List α → γ → World → Prop) (hΦ : ∀ c, OwnFrom w.heap.size fun pre W => Φ pre c W) (c0 : γ) (hp0 : hpf c0 = s.hp) (hΦ0 : Φ [] c0 w)
    (Ix : Code → List α → γ → World → Prop) (hpx : Code → γ → List LB) (hIx : ∀ c q, OwnFrom w.heap.size fun pre W => Ix c pre q W)
    (frx : α → Fr)
    (hassign : ∀ l z hp W, codeD (Fence.wide.inRound l) (n - 1 - 1) cx w0 x (fun e s' => e = .normal ∧ s' = ⟨frx z, hp, s.r, [], W, []⟩) ⟨setP s.fr ps.toList (encs z), hp, s.r, [], W, []⟩)
    (hbody : ∀ l pre x c W, Φ pre c W → Below w0.B w0.W W → w.heap.size ≤ W.heap.size → pre.length < N → codeD (Fence.wide.inRound l) (n - 1 - 1) cx w0 y
      (fun e s' => match e with
        | .normal => s'.on fun fr2 hp2 r2 L2 w2 df2 => ∃ c', Need (CovH (hpf c') s.r ⟨fr2, hp2, r2, L2, w2, df2⟩) (EndI w0 hp2 r2 L2 w2 undef fun _ w1 => KeepsFrom w.heap.size W w1 ∧ Kp W w1 ∧ Φ (pre ++ [x]) c' w1)
        | .ret => s'.on fun fr2 hp2 r2 L2 w2 df2 => ∃ c', Need (CovH (hpx .ret c') s.r ⟨fr2, hp2, r2, L2, w2, df2⟩) (EndI w0 hp2 r2 L2 w2 undef fun _ w1 => KeepsFrom w.heap.size W w1 ∧ Ix .ret (pre ++ [x]) c' w1)
        | .exit id => s'.on fun fr2 hp2 r2 L2 w2 df2 => ∃ c', Need (CovH (hpx (.exit id) c') s.r ⟨fr2, hp2, r2, L2, w2, df2⟩) (EndI w0 hp2 r2 L2 w2 undef fun _ w1 => KeepsFrom w.heap.size W w1 ∧ Ix (.exit id) (pre ++ [x]) c' w1)
        | _ => False) ⟨frx x, hpf c, s.r, [], W, []⟩)
    (hdone : ∀ D xs c W, w.heap.size ≤ D → S xs → Φ xs c W → W.heap[D]? = some (.deferred (some [])) → K .normal ⟨s.fr, hpf c, s.r, [], W, { target := .collected D, args := #[] } :: s.df⟩)
    (hstop : ∀ D c e pre q W, w.heap.size ≤ D → Sp pre → Ix c pre q W → exitOf c = some e → W.heap[D]? = some (.deferred (some [])) → K e ⟨s.fr, hpx c q, s.r, [], W, { target := .collected D, args := #[] } :: s.df⟩) :

    (Code.rangeFunc g ps x y).wpIn Fence.wide n cx.P (fun e a' w' => ∃ s', Rel w0 s' a' w' ∧ K e s') a w := by

  have hev := hR.ev1 hg (by simp) []
  simp only [SV.den] at hev
  have hB : w0.B ≤ w.heap.size := Nat.le_trans w0.le hR.at_.below.size
  have ownR : ∀ (hp : List LB), OwnFrom w.heap.size (fun (pre : List α) W => Rel w0 ⟨s.fr, hp, s.r, [], W, s.df⟩ a W) := fun hp pre W W' row h hgr hr =>
    h.keep (grown_keep h hB hgr hr)
  have withD : ∀ {hp : List LB} {W : World} (D : Nat), Rel w0 ⟨s.fr, hp, s.r, [], W, s.df⟩ a W → Rel w0 ⟨s.fr, hp, s.r, [], W, { target := .collected D, args := #[] } :: s.df⟩ { a with defers := { target := .collected D, args := #[] } :: a.defers } W := fun {hp} {W} D h =>
    ⟨congrArg (_ :: ·) h.df, h.fits, ⟨h.at_.below, h.at_.size, h.at_.step, h.at_.blk, h.at_.fresh, h.at_.lt, h.at_.base⟩, h.blk, h.nod, h.len⟩
  have inner : ∀ {hp : List LB} {W : World} {a' : Act} {fr : Fr}, Rel w0 ⟨s.fr, hp, s.r, [], W, s.df⟩ a W → a'.defers = [] → (∀ t, Fits (s.r ++ t) fr a'.tmps) → Rel w0 ⟨fr, hp, s.r, [], W, []⟩ a' W := fun {hp} {W} {a'} {fr} h hd hf =>
    ⟨hd, hf, ⟨h.at_.below, h.at_.size, h.at_.step, h.at_.blk, h.at_.fresh, h.at_.lt, h.at_.base⟩, h.blk, h.nod, h.len⟩
  refine wpIn_rangeFunc_ownH rfl h1 hev trivial eg hseq hKt hKb (Below.refl _ _) (fun x => by simp [hps]) (fun pre W => ∃ c, Rel w0 ⟨s.fr, hpf c, s.r, [], W, s.df⟩ a W ∧ w.heap.size ≤ W.heap.size ∧ Φ pre c W)
    (fun c pre W => (∃ e, exitOf c = some e) ∧ ∃ q, Rel w0 ⟨s.fr, hpx c q, s.r, [], W, s.df⟩ a W ∧ Ix c pre q W)
    ?_ ?_ ?_ (fun x a' _ => a'.defers = [] ∧ ∀ t, Fits (s.r ++ t) (frx x) a'.tmps) (fun _ _ _ _ _ _ h _ _ => h) ?_ ?_ ?_ ?_
  · exact fun pre W W' row ⟨c, h⟩ hgr hr => ⟨c, ownR (hpf c) pre W W' row h.1 hgr hr, Nat.le_trans h.2.1 hgr.size, hΦ c pre W W' row h.2.2 hgr hr⟩
  · exact fun c pre W W' row ⟨h0, q, h⟩ hgr hr => ⟨h0, q, ownR (hpx c q) pre W W' row h.1 hgr hr, hIx c q pre W W' row h.2 hgr hr⟩
  · have h0 := hR.keep keep_refl
    refine ⟨c0, ?_, Nat.le_refl _, hΦ0⟩
    rw [hp0]; exact h0
  · rintro l pre z W K' ⟨c, hI⟩ hK
    have hr1 := rel_sets (w0 := w0) (s := ⟨s.fr, hpf c, s.r, [], W, []⟩) (a := ⟨a.tmps, []⟩) (inner hI.1 rfl hI.1.fits) ps.toList (encs z)
    have e1 : (ps.zip (encs z).toArray).foldl (fun (t : Array Value) (x : Nat × Value) => t.setIfInBounds x.1 x.2) a.tmps = sets a.tmps ps.toList (encs z) := by
      rw [← sets_eq]
    show x.wpIn _ _ _ _ ({ tmps := (ps.zip (encs z).toArray).foldl (fun (t : Array Value) (x : Nat × Value) => t.setIfInBounds x.1 x.2) a.tmps, defers := [] } : Act) W
    rw [e1]
    refine codeD_round hcx l _ _ _ _ _ W _ (hassign l z (hpf c) W) hr1 ?_
    rintro e s' a' W' ⟨rfl, rfl⟩ hR'
    have hgr := grown_of_at (a2 := a) hI.1 hR'.at_ rfl rfl
    refine hK a' W' ⟨hgr.size, fun k o _ hk _ => (hgr.block k (Array.getElem?_eq_some_iff.1 hk).1 (by simp)).trans hk⟩ (hKg W W' hI.2.1 hgr) ⟨c, ownR (hpf c) pre W W' none hI.1 hgr (by simp), Nat.le_trans hI.2.1 hgr.size, hΦ c pre W W' none hI.2.2 hgr (by simp)⟩ ⟨hR'.df, hR'.fits⟩
  · rintro l pre x a' W _ _ ⟨c, hI⟩ hA hN
    refine codeD_round hcx l _ y _ _ _ W _ (hbody l pre x c W hI.2.2 hI.1.at_.below hI.2.1 hN) (inner hI.1 hA.1 hA.2) ?_
    intro e s' a2 w1 hK hR'
    cases e with
    | normal =>
      simp only [St.on_eq] at hK
      obtain ⟨c', h1, h2⟩ := hK
      obtain ⟨h3, h4, h5⟩ := h2.h w1 hR'.at_
      exact ⟨h3, h4, c', covH_rel (s := ⟨s.fr, hpf c, s.r, [], W, s.df⟩) hI.1 hR' h1, Nat.le_trans hI.2.1 h3.size, h5⟩
    | ret =>
      simp only [St.on_eq] at hK
      obtain ⟨c', h1, h2⟩ := hK
      obtain ⟨h3, h5⟩ := h2.h w1 hR'.at_
      exact ⟨h3, ⟨_, rfl⟩, c', covH_rel (s := ⟨s.fr, hpf c, s.r, [], W, s.df⟩) hI.1 hR' h1, h5⟩
    | exit id =>
      simp only [St.on_eq] at hK
      obtain ⟨c', h1, h2⟩ := hK
      obtain ⟨h3, h5⟩ := h2.h w1 hR'.at_
      exact ⟨h3, ⟨_, rfl⟩, c', covH_rel (s := ⟨s.fr, hpf c, s.r, [], W, s.df⟩) hI.1 hR' h1, h5⟩
    | goto l => exact hK.elim
    | panic ch => exact hK.elim
    | outgrown => exact hK.elim
  · rintro D xs W hD hS ⟨c, hI⟩ hd
    exact ⟨_, withD D hI.1, hdone D xs c W hD hS hI.2.2 hd⟩
  · intro D c pre W hD hS hI hd
    obtain ⟨⟨e, he⟩, q, hRx, hix⟩ := hI
    have hk := hstop D c e pre q W hD hS hix he hd
    cases c <;> simp only [exitOf] at he <;> try (cases he; done)
    · injection he with he; subst he; exact wpIn_exit ⟨_, withD D hRx, hk⟩
    · injection he with he; subst he; exact wpIn_ret ⟨_, withD D hRx, hk⟩
end
end Go.Proofs.YtodpgcdandechaaGreat.Eng

/-
  The contract of dbm.Top, by the engine.
-/
namespace Go.Proofs.YtodpgcdandechaaGreat
set_option linter.unusedVariables false
set_option linter.unusedSimpArgs false
set_option maxRecDepth 100000
open Go.RowKit Go.Proofs.YtodpgcdandechaaGreat.Eng Enc

namespace Dbm
def topB (n k : Nat) : Int := if k / n = k % n then 1 else 9223372036854775807
def topL (n : Nat) : List Int := (List.range (n * n)).map (topB n)
def top (n : Int) : Int × List Int × Int := if 1 ≤ n ∧ n ≤ 4 then (n, topL n.toNat, 0) else (0, [], 2)
end Dbm

theorem top_any (n : Int) (w : World) :
    Calls Tryz.prog 66 #[.int .i64 n] w (Ret w fun v w' => ∃ a' cap', v = .tuple #[.agg #[.int .i64 (Dbm.top n).1, .slice a' (Dbm.top n).2.1.length cap'], .int .i64 (Dbm.top n).2.2] ∧ Own TB w.heap.size w' (.slice a' (Dbm.top n).2.1.length cap') (Dbm.top n).2.1) := by
  refine fun_at 9 w.heap.size w (Nat.le_refl _) Tryz.func66 (args := [.val (.int .i64 n)]) rfl rfl ?_
  refine NewI.mk fun b1 hb1 => ?_
  refine Branch.mk (fun hc => ?_) (fun hc => ?_)
  · refine EndI.mk fun w3 h3 => ?_
    have : n < 1 := by simpa using hc
    rw [Dbm.top, if_neg (by omega)]
    exact ⟨_, _, rfl, Own.nil⟩
  refine Branch.mk (fun hc2 => ?_) (fun hc2 => ?_)
  · refine EndI.mk fun w3 h3 => ?_
    have : 4 < n := by simpa using hc2
    rw [Dbm.top, if_neg (by omega)]
    exact ⟨_, _, rfl, Own.nil⟩
  have hn : 1 ≤ n ∧ n ≤ 4 := by
    have h1 : ¬ n < 1 := by simpa using hc
    have h2 : ¬ 4 < n := by simpa using hc2
    omega
  rw [Dbm.top, if_pos hn]
  obtain ⟨N, rfl⟩ : ∃ N : Nat, n = N := ⟨n.toNat, by omega⟩
  have hN1 : 1 ≤ N := by omega
  rw [Int.toNat_natCast]
  refine NewI.mk fun b2 hb2 => ?_
  apply CallI.mk
  intro w7 h7
  refine (callsIn_wide.1 (pairs_any N w7)).mono ?_
  rintro e w8 ⟨rfl, rfl⟩
  have hB1 : Below w7.heap.size w7 (w7.alloc (.cells #[.int .i64 (N : Int)] 3)) := below_al (Below.refl _ _)
  refine ⟨h7.keep hB1, _, rfl, ?_⟩
  have hBs : (w7.alloc (.cells #[.int .i64 (N : Int)] 3)).cell? ⟨w7.heap.size, 0, none⟩ = some (.int .i64 N) := by simp
  have hsz : w7.heap.size < (w7.alloc (.cells #[.int .i64 (N : Int)] 3)).heap.size := by simp
  have hBsb : ∀ b, b ∈ [b1, b2] → b ≠ w7.heap.size := fun b hb e => by have := h7.lt b hb; omega
  have hwBs : w.heap.size ≤ w7.heap.size := h7.below.size
  generalize w7.alloc (.cells #[.int .i64 (N : Int)] 3) = w8 at hBs hsz hB1
  generalize w7.heap.size = Bs at hBs hsz hBsb hwBs
  refine RawI.mk fun ac w1 hR => ?_
  have h1 := hR.at_
  have hBs9 : Bs < w1.heap.size := Nat.lt_of_lt_of_le hsz h1.size
  have hc9 : w1.cell? ⟨Bs, 0, none⟩ = some (.int .i64 (N : Int)) := (h1.go.cell (p := ⟨Bs, 0, none⟩) hsz).trans hBs
  have hl1 := h1.lt b1 (by simp)
  have hl2 := h1.lt b2 (by simp)
  refine rangeE cxOk (by decide) hR rfl Tryz.call199 (pairs_stops N (by omega) (by omega) (N * N) rfl Bs w1 hBs9 hc9) (encs := fun x => (encPI N x).toList) (fun h k => k.trans h) (fun W l o o' => keepsBox_put hBs9 W l o o')
    (fun W W' hs hg => World.cell?_of_block (hg.block Bs (Nat.lt_of_lt_of_le hBs9 hs) (by rintro ⟨⟩))) (fun x => rfl) (γ := Value) (fun v => [⟨[.val (.int .i64 0), .val (.slice none 0 0)], 101⟩, ⟨[.val (.int .i64 N), .val v], 101⟩])
    (fun pre v W => Own TB w1.heap.size W v (pre.map fun x => Dbm.topB N x.1)) ?_ (.slice none 0 0) rfl Own.nil (fun _ _ _ _ => False) (fun _ _ => []) (fun _ _ _ _ _ _ h _ _ => h) _
    (fun l z hp W => And.intro rfl rfl) ?_ ?_ (fun _ _ _ _ _ _ _ _ h => h.elim)
  · intro v pre W W' row hO hg hr
    refine Own.kept hO hg ?_
    obtain ⟨_, ⟨rfl, _⟩ | ⟨g, c, cur, rfl, _, hgb, _⟩⟩ := id hO
    · exact .inl rfl
    · refine .inr (fun e => ?_)
      obtain ⟨_, o, ho, hcl⟩ := hr g e.symm
      rw [hgb] at ho; cases ho; cases hcl
  · intro l pre x v W hO hBW hsW hlt
    have hO1 : Own TB w1.heap.size W v (pre.map fun x => Dbm.topB N x.1) := hO
    have hNN : N * N ≤ 4 * 4 := Nat.mul_le_mul (by omega) (by omega)
    have ed : ((x.val : Int) / N) = ((x.val / N : Nat) : Int) := rfl
    have em : ((x.val : Int) % N) = ((x.val % N : Nat) : Int) := rfl
    refine Branch.mk (fun hc3 => ?_) (fun hc3 => ?_)
    · have hval : Dbm.topB N x.1 = 1 := by
        unfold Dbm.topB
        rw [if_pos (by have : (x.val : Int) / N = (x.val : Int) % N := by simpa using hc3
                       rw [ed, em] at this; omega)]
      refine NewI.mk fun b3 hb3 => ?_
      have hb3' : W.heap.size ≤ b3 := hb3
      have hr : ∀ k, v.ownBlock = some k → w.heap.size ≤ k ∧ k ∉ [b1, b2, b3] := fun k hk => by
        have := hO1.lt k hk
        refine ⟨Nat.le_trans h1.below.size this.1, fun hm => ?_⟩
        simp only [List.mem_cons, List.not_mem_nil, or_false] at hm
        omega
      refine GenN.app (α := Int) elB (pre.map fun x => Dbm.topB N x.1) [Dbm.topB N x.1] w1.heap.size (fun w5 h5 => hO1.below h5.go) (fun w5 h5 => src_own h5 2 rfl rfl (by rw [hval]; rfl) rfl) (by unfold maxLen; simp; omega) (by simp; omega) (fun w5 h5 => Nat.le_trans hsW h5.size)
        (fun w5 w6 h5 hg => keep_grown h5 hg hr) fun sv' w5 w6 h5 hg hO' => ?_
      obtain ⟨a', c', rfl⟩ := hO'.form
      refine ⟨.slice a' ((pre.map fun x => Dbm.topB N x.1) ++ [Dbm.topB N x.1]).length c', ?_⟩
      refine Need.mk (CovH.mk rfl rfl rfl) (EndI.mk fun w7 h7 => ?_)
      have hW7 : W.heap.size ≤ w7.heap.size := Nat.le_trans h5.size (Nat.le_trans hg.size h7.size)
      have row : ∀ k, k < w1.heap.size → v.ownBlock ≠ some k := fun k hk e => by have := hO1.lt k e; omega
      refine ⟨⟨hW7, fun k o _ hk hcl => ?_⟩, ?_, ?_⟩
      · have hkW : k < W.heap.size := (Array.getElem?_eq_some_iff.1 hk).1
        have e5 : w5.heap[k]? = some o := (h5.go.block k hkW).trans hk
        have e6 : w6.heap[k]? = some o := by
          refine (hg.block k (Nat.lt_of_lt_of_le hkW h5.size) (fun e => ?_)).trans e5
          obtain ⟨_, ⟨rfl, _⟩ | ⟨g, c, cur, rfl, _, hgb, _⟩⟩ := id hO1
          · cases e
          · injection e with e
            subst e
            rw [hgb] at hk; cases hk; cases hcl
        refine (h7.step k (Nat.lt_of_lt_of_le hkW (Nat.le_trans h5.size hg.size)) (fun hm => ?_)).trans e6
        simp at hm
        subst hm
        have := h5.blk 1 _ ⟨_, _⟩ (by rfl) (by rfl)
        rw [e5] at this; cases this; cases hcl
      · refine World.cell?_of_block ?_
        have hBW : Bs < W.heap.size := Nat.lt_of_lt_of_le hBs9 hsW
        refine (h7.step Bs (Nat.lt_of_lt_of_le hBW (Nat.le_trans h5.size hg.size)) (fun hm => ?_)).trans ((hg.block Bs (Nat.lt_of_lt_of_le hBW h5.size) (fun e => row Bs hBs9 e.symm)).trans (h5.go.block Bs hBW))
        simp at hm
        exact hBsb b2 (by simp) hm.symm
      · have e1 : (pre ++ [x]).map (fun x => Dbm.topB N x.1) = (pre.map fun x => Dbm.topB N x.1) ++ [Dbm.topB N x.1] := by simp
        rw [e1]
        exact hO'.at h7 (fun b hb => by simp at hb; subst hb; exact hl2)
    · have hval : Dbm.topB N x.1 = 9223372036854775807 := by
        unfold Dbm.topB
        rw [if_neg (by have : ¬ (x.val : Int) / N = (x.val : Int) % N := by simpa using hc3
                       rw [ed, em] at this; omega)]
      refine NewI.mk fun b3 hb3 => ?_
      have hb3' : W.heap.size ≤ b3 := hb3
      have hr : ∀ k, v.ownBlock = some k → w.heap.size ≤ k ∧ k ∉ [b1, b2, b3] := fun k hk => by
        have := hO1.lt k hk
        refine ⟨Nat.le_trans h1.below.size this.1, fun hm => ?_⟩
        simp only [List.mem_cons, List.not_mem_nil, or_false] at hm
        omega
      refine GenN.app (α := Int) elB (pre.map fun x => Dbm.topB N x.1) [Dbm.topB N x.1] w1.heap.size (fun w5 h5 => hO1.below h5.go) (fun w5 h5 => src_own h5 2 rfl rfl (by rw [hval]; rfl) rfl) (by unfold maxLen; simp; omega) (by simp; omega) (fun w5 h5 => Nat.le_trans hsW h5.size)
        (fun w5 w6 h5 hg => keep_grown h5 hg hr) fun sv' w5 w6 h5 hg hO' => ?_
      obtain ⟨a', c', rfl⟩ := hO'.form
      refine ⟨.slice a' ((pre.map fun x => Dbm.topB N x.1) ++ [Dbm.topB N x.1]).length c', ?_⟩
      refine Need.mk (CovH.mk rfl rfl rfl) (EndI.mk fun w7 h7 => ?_)
      have hW7 : W.heap.size ≤ w7.heap.size := Nat.le_trans h5.size (Nat.le_trans hg.size h7.size)
      have row : ∀ k, k < w1.heap.size → v.ownBlock ≠ some k := fun k hk e => by have := hO1.lt k e; omega
      refine ⟨⟨hW7, fun k o _ hk hcl => ?_⟩, ?_, ?_⟩
      · have hkW : k < W.heap.size := (Array.getElem?_eq_some_iff.1 hk).1
        have e5 : w5.heap[k]? = some o := (h5.go.block k hkW).trans hk
        have e6 : w6.heap[k]? = some o := by
          refine (hg.block k (Nat.lt_of_lt_of_le hkW h5.size) (fun e => ?_)).trans e5
          obtain ⟨_, ⟨rfl, _⟩ | ⟨g, c, cur, rfl, _, hgb, _⟩⟩ := id hO1
          · cases e
          · injection e with e
            subst e
            rw [hgb] at hk; cases hk; cases hcl
        refine (h7.step k (Nat.lt_of_lt_of_le hkW (Nat.le_trans h5.size hg.size)) (fun hm => ?_)).trans e6
        simp at hm
        subst hm
        have := h5.blk 1 _ ⟨_, _⟩ (by rfl) (by rfl)
        rw [e5] at this; cases this; cases hcl
      · refine World.cell?_of_block ?_
        have hBW : Bs < W.heap.size := Nat.lt_of_lt_of_le hBs9 hsW
        refine (h7.step Bs (Nat.lt_of_lt_of_le hBW (Nat.le_trans h5.size hg.size)) (fun hm => ?_)).trans ((hg.block Bs (Nat.lt_of_lt_of_le hBW h5.size) (fun e => row Bs hBs9 e.symm)).trans (h5.go.block Bs hBW))
        simp at hm
        exact hBsb b2 (by simp) hm.symm
      · have e1 : (pre ++ [x]).map (fun x => Dbm.topB N x.1) = (pre.map fun x => Dbm.topB N x.1) ++ [Dbm.topB N x.1] := by simp
        rw [e1]
        exact hO'.at h7 (fun b hb => by simp at hb; subst hb; exact hl2)
  · rintro D xs v W hD hSx hO hmark
    have hDW : D < W.heap.size := (Array.getElem?_eq_some_iff.1 hmark).1
    have hO1 : Own TB w1.heap.size W v (xs.map fun x => Dbm.topB N x.1) := hO
    have hxs : (xs.map fun x => Dbm.topB N x.1) = Dbm.topL N := by
      unfold Dbm.topL
      rw [← hSx, List.map_map]; rfl
    rw [hxs] at hO1
    obtain ⟨a', c', rfl⟩ := hO1.form
    have hDb : D ∉ [b1] := fun hm => by simp at hm; omega
    refine EndM.mk fun w10 h10 => ⟨⟨Nat.le_trans h1.below.size hD, (h10.step D hDW hDb).trans hmark⟩, fun w11 hu => ?_⟩
    have hO10 := hO1.at h10 (fun b hb => by simp at hb; subst hb; exact hl1)
    refine ⟨_, _, rfl, (Own.kept (row := some D) hO10 ⟨hu.2.1, hu.2.2.1, hu.2.2.2.1, by rw [hu.1]; exact Nat.le_refl _, fun k _ hk => hu.2.2.2.2 k (fun e => hk (by rw [e]))⟩ ?_).lower h1.below.size⟩
    obtain ⟨_, ⟨e, _⟩ | ⟨g, c, cur, e, _, hgb, _⟩⟩ := id hO10
    · rw [e]; exact .inl rfl
    · rw [e]
      refine .inr (fun e' => ?_)
      injection e' with e'
      subst e'
      have := (h10.step _ hDW hDb).trans hmark
      rw [hgb] at this; cases this
end Go.Proofs.YtodpgcdandechaaGreat

/-
  The contracts of package zone: matrices of zones, by the engine. Printed by a program (gen_zone.py).
-/
namespace Go.Proofs.YtodpgcdandechaaGreat
set_option linter.unusedVariables false
set_option linter.unusedSimpArgs false
set_option maxRecDepth 100000
open Go.RowKit Go.Proofs.YtodpgcdandechaaGreat.Eng Enc

namespace Zo
/-- a zone's matrix. -/
def matL (z : Zn) : List Int := [1, z.b, z.d, z.a, 1, z.f, z.c, z.e, 1]
theorem kpD_set {w0 : Base} {wr : World} {M r : List Nat} {w1 : World} {g x : Nat} {v : Value} (hg : w0.B ≤ g) (hr : ∀ b, b ∈ r → b ≠ g) (hM : g ∈ M) : kpD w0 wr M r w1 (w1.setCell ⟨g, x, none⟩ v) := fun _ =>
  ⟨keep_set hg hr, fun k hk hkm => Below.heap_setCell _ _ _ _ (fun e => hkm (e ▸ hM))⟩
end Zo

theorem places_any (w : World) : Calls Tryz.prog 192 #[] w fun e w' => e = .returned (.agg #[.int .i64 3, .int .i64 1, .int .i64 6, .int .i64 2, .int .i64 7, .int .i64 5]) ∧ Below w.heap.size w w' := by
  refine fun_eq 0 w Tryz.func192 (args := []) rfl rfl ?_
  repeat' (first
    | (refine Branch.yes rfl ?_)
    | (refine Branch.no rfl ?_)
    | (refine Branch.mk (fun hb => ?_) (fun hb => ?_))
    | (refine NewI.mk fun nb hnb => ?_)
    | (refine Need.mk (by show _ ∧ _; omega) ?_)
    | (refine Need.mk (by omega) ?_)
    | (refine Need.mk ?_ ?_)
    | (refine EndI.mk fun w1 h1 => ?_))
  rfl
def placeOf (i : Nat) : Int := if i = 0 then 3 else if i = 1 then 1 else if i = 2 then 6 else if i = 3 then 2 else if i = 4 then 7 else 5
theorem places_at (i : Nat) (w : World) (h : i < 6 := by decide) : (Instr.index 227 (.agg #[.int .i64 3, .int .i64 1, .int .i64 6, .int .i64 2, .int .i64 7, .int .i64 5]) (.int .i64 i)).run Tryz.prog w = .ok (.int .i64 (placeOf i)) w := by
  rcases (by omega : i = 0 ∨ i = 1 ∨ i = 2 ∨ i = 3 ∨ i = 4 ∨ i = 5) with rfl | rfl | rfl | rfl | rfl | rfl <;> kernel_rfl

theorem zmatrix_any (z : Zn) (w : World) :
    Calls Tryz.prog 124 #[.agg #[.int .i64 z.a, .int .i64 z.b, .int .i64 z.c, .int .i64 z.d, .int .i64 z.e, .int .i64 z.f]] w (Ret w fun v w' => ∃ a' cap', v = .agg #[.int .i64 3, .slice a' (Zo.matL z).length cap'] ∧ Fresh TB w.heap.size w' (.slice a' (Zo.matL z).length cap') (Zo.matL z)) := by
  refine fun_ret 0 w Tryz.func124 (args := [.agg [.val (.int .i64 z.a), .val (.int .i64 z.b), .val (.int .i64 z.c), .val (.int .i64 z.d), .val (.int .i64 z.e), .val (.int .i64 z.f)]]) rfl rfl ?_
  refine NewI.mk fun b1 hb1 => ?_
  refine NewI.mk fun b2 hb2 => ?_
  have htop := fun w => top_any 3 w
  rw [show Dbm.top 3 = (3, Dbm.topL 3, 0) by rfl] at htop
  apply CallI.use
  focus (exact fun w1 h1 => htop w1)
  rintro v w1 w2 h1 hB2 ⟨a1, c1, rfl, hO⟩
  obtain ⟨g, rfl, hgb, hRow⟩ := hO.row (by decide)
  obtain ⟨_, _, _, cur, _, hcap, hmax, _⟩ := hO.at0
  have hgw : w.heap.size ≤ g := Nat.le_trans h1.below.size hgb
  have hg2 := hRow.lt
  refine NewI.mk fun b3 hb3 => ?_
  have hgr : ∀ b, b ∈ [b1, b2, b3] → b ≠ g := fun b hb e => by
    simp only [List.mem_cons, List.not_mem_nil, or_false] at hb
    have l1 := h1.lt b1 (by simp)
    have l2 := h1.lt b2 (by simp)
    omega
  have hgL : ∀ L : List Nat, (∀ b ∈ L, b ∈ [b1, b2, b3]) → g ∉ L := fun L h hm => hgr g (h g hm) rfl
  apply CallI.use1
  focus (exact fun w4 h4 => places_any w4)
  intro w4 w5 h4 hB5
  have hRow := (hRow.at h4 (hgL _ (by simp))).below hB5 (Nat.lt_of_lt_of_le hg2 h4.size)
  refine LoopI.rounds 7 ?_
  refine Branch.yes rfl ?_
  refine GenV.to (x := .int .i64 3) (fun w => places_at 0 w) fun u0 k0 => ?_
  refine DrawI.wr (.tk 0 (.tk 1 (.tk 2 (.tk 3 (.tk 4 (.tk 5 (.tk 6 (.ev 7 .done)))))))) [] [g] (by kernel_rfl) rfl (fun b hb h => hgr b hb (by simpa using h)) fun w0_ h0_ => ?_
  refine Need.mk (by decide) ?_
  refine IdxI.mk ⟨_, ⟨rfl, by omega, by show _ < (9 : Int); omega⟩, ?_⟩
  refine StoreI.mk fun x0 y0 => ?_
  have a0 : RowAt TB x0 g (Dbm.topL 3) := ((hRow.at k0 (hgL _ (by simp))).at h0_ (hgL _ (by simp))).at y0 (hgL _ (by simp))
  rw [show ((⟨g, 0, none⟩ : Addr).add ((3 : Int).toNat * 1)) = ⟨g, 3, none⟩ by simp [addr_addL]]
  refine ⟨⟨⟨_, a0.cell (j := 3) (by simp [Dbm.topL])⟩, a0.frozen _⟩, Zo.kpD_set hgw hgr (by simp [locs]), ?_⟩
  have r0 := a0.set (j := 3) (by simp [Dbm.topL]) z.a
  generalize x0.setCell ⟨g, 3, none⟩ (.int .i64 z.a) = s0 at r0
  refine Need.mk (by simp only [inK]; omega) ?_
  refine Branch.yes rfl ?_
  refine GenV.to (x := .int .i64 1) (fun w => places_at 1 w) fun u1 k1 => ?_
  refine DrawI.wr (.tk 0 (.tk 1 (.tk 2 (.tk 3 (.tk 4 (.tk 5 (.tk 6 (.ev 7 .done)))))))) [] [g] (by kernel_rfl) rfl (fun b hb h => hgr b hb (by simpa using h)) fun w1_ h1_ => ?_
  refine Need.mk (by decide) ?_
  refine IdxI.mk ⟨_, ⟨rfl, by omega, by show _ < (9 : Int); omega⟩, ?_⟩
  refine StoreI.mk fun x1 y1 => ?_
  have a1 : RowAt TB x1 g ((Dbm.topL 3).set 3 z.a) := ((r0.at k1 (hgL _ (by simp))).at h1_ (hgL _ (by simp))).at y1 (hgL _ (by simp))
  rw [show ((⟨g, 0, none⟩ : Addr).add ((1 : Int).toNat * 1)) = ⟨g, 1, none⟩ by simp [addr_addL]]
  refine ⟨⟨⟨_, a1.cell (j := 1) (by simp [Dbm.topL])⟩, a1.frozen _⟩, Zo.kpD_set hgw hgr (by simp [locs]), ?_⟩
  have r1 := a1.set (j := 1) (by simp [Dbm.topL]) z.b
  generalize x1.setCell ⟨g, 1, none⟩ (.int .i64 z.b) = s1 at r1
  refine Need.mk (by simp only [inK]; omega) ?_
  refine Branch.yes rfl ?_
  refine GenV.to (x := .int .i64 6) (fun w => places_at 2 w) fun u2 k2 => ?_
  refine DrawI.wr (.tk 0 (.tk 1 (.tk 2 (.tk 3 (.tk 4 (.tk 5 (.tk 6 (.ev 7 .done)))))))) [] [g] (by kernel_rfl) rfl (fun b hb h => hgr b hb (by simpa using h)) fun w2_ h2_ => ?_
  refine Need.mk (by decide) ?_
  refine IdxI.mk ⟨_, ⟨rfl, by omega, by show _ < (9 : Int); omega⟩, ?_⟩
  refine StoreI.mk fun x2 y2 => ?_
  have a2 : RowAt TB x2 g (((Dbm.topL 3).set 3 z.a).set 1 z.b) := ((r1.at k2 (hgL _ (by simp))).at h2_ (hgL _ (by simp))).at y2 (hgL _ (by simp))
  rw [show ((⟨g, 0, none⟩ : Addr).add ((6 : Int).toNat * 1)) = ⟨g, 6, none⟩ by simp [addr_addL]]
  refine ⟨⟨⟨_, a2.cell (j := 6) (by simp [Dbm.topL])⟩, a2.frozen _⟩, Zo.kpD_set hgw hgr (by simp [locs]), ?_⟩
  have r2 := a2.set (j := 6) (by simp [Dbm.topL]) z.c
  generalize x2.setCell ⟨g, 6, none⟩ (.int .i64 z.c) = s2 at r2
  refine Need.mk (by simp only [inK]; omega) ?_
  refine Branch.yes rfl ?_
  refine GenV.to (x := .int .i64 2) (fun w => places_at 3 w) fun u3 k3 => ?_
  refine DrawI.wr (.tk 0 (.tk 1 (.tk 2 (.tk 3 (.tk 4 (.tk 5 (.tk 6 (.ev 7 .done)))))))) [] [g] (by kernel_rfl) rfl (fun b hb h => hgr b hb (by simpa using h)) fun w3_ h3_ => ?_
  refine Need.mk (by decide) ?_
  refine IdxI.mk ⟨_, ⟨rfl, by omega, by show _ < (9 : Int); omega⟩, ?_⟩
  refine StoreI.mk fun x3 y3 => ?_
  have a3 : RowAt TB x3 g ((((Dbm.topL 3).set 3 z.a).set 1 z.b).set 6 z.c) := ((r2.at k3 (hgL _ (by simp))).at h3_ (hgL _ (by simp))).at y3 (hgL _ (by simp))
  rw [show ((⟨g, 0, none⟩ : Addr).add ((2 : Int).toNat * 1)) = ⟨g, 2, none⟩ by simp [addr_addL]]
  refine ⟨⟨⟨_, a3.cell (j := 2) (by simp [Dbm.topL])⟩, a3.frozen _⟩, Zo.kpD_set hgw hgr (by simp [locs]), ?_⟩
  have r3 := a3.set (j := 2) (by simp [Dbm.topL]) z.d
  generalize x3.setCell ⟨g, 2, none⟩ (.int .i64 z.d) = s3 at r3
  refine Need.mk (by simp only [inK]; omega) ?_
  refine Branch.yes rfl ?_
  refine GenV.to (x := .int .i64 7) (fun w => places_at 4 w) fun u4 k4 => ?_
  refine DrawI.wr (.tk 0 (.tk 1 (.tk 2 (.tk 3 (.tk 4 (.tk 5 (.tk 6 (.ev 7 .done)))))))) [] [g] (by kernel_rfl) rfl (fun b hb h => hgr b hb (by simpa using h)) fun w4_ h4_ => ?_
  refine Need.mk (by decide) ?_
  refine IdxI.mk ⟨_, ⟨rfl, by omega, by show _ < (9 : Int); omega⟩, ?_⟩
  refine StoreI.mk fun x4 y4 => ?_
  have a4 : RowAt TB x4 g (((((Dbm.topL 3).set 3 z.a).set 1 z.b).set 6 z.c).set 2 z.d) := ((r3.at k4 (hgL _ (by simp))).at h4_ (hgL _ (by simp))).at y4 (hgL _ (by simp))
  rw [show ((⟨g, 0, none⟩ : Addr).add ((7 : Int).toNat * 1)) = ⟨g, 7, none⟩ by simp [addr_addL]]
  refine ⟨⟨⟨_, a4.cell (j := 7) (by simp [Dbm.topL])⟩, a4.frozen _⟩, Zo.kpD_set hgw hgr (by simp [locs]), ?_⟩
  have r4 := a4.set (j := 7) (by simp [Dbm.topL]) z.e
  generalize x4.setCell ⟨g, 7, none⟩ (.int .i64 z.e) = s4 at r4
  refine Need.mk (by simp only [inK]; omega) ?_
  refine Branch.yes rfl ?_
  refine GenV.to (x := .int .i64 5) (fun w => places_at 5 w) fun u5 k5 => ?_
  refine DrawI.wr (.tk 0 (.tk 1 (.tk 2 (.tk 3 (.tk 4 (.tk 5 (.tk 6 (.ev 7 .done)))))))) [] [g] (by kernel_rfl) rfl (fun b hb h => hgr b hb (by simpa using h)) fun w5_ h5_ => ?_
  refine Need.mk (by decide) ?_
  refine IdxI.mk ⟨_, ⟨rfl, by omega, by show _ < (9 : Int); omega⟩, ?_⟩
  refine StoreI.mk fun x5 y5 => ?_
  have a5 : RowAt TB x5 g ((((((Dbm.topL 3).set 3 z.a).set 1 z.b).set 6 z.c).set 2 z.d).set 7 z.e) := ((r4.at k5 (hgL _ (by simp))).at h5_ (hgL _ (by simp))).at y5 (hgL _ (by simp))
  rw [show ((⟨g, 0, none⟩ : Addr).add ((5 : Int).toNat * 1)) = ⟨g, 5, none⟩ by simp [addr_addL]]
  refine ⟨⟨⟨_, a5.cell (j := 5) (by simp [Dbm.topL])⟩, a5.frozen _⟩, Zo.kpD_set hgw hgr (by simp [locs]), ?_⟩
  have r5 := a5.set (j := 5) (by simp [Dbm.topL]) z.f
  generalize x5.setCell ⟨g, 5, none⟩ (.int .i64 z.f) = s5 at r5
  refine Need.mk (by simp only [inK]; omega) ?_
  refine Branch.no rfl ?_
  refine EndI.mk fun w9 h9 => ⟨some ⟨g, 0, none⟩, c1, rfl, .inr ⟨g, c1, rfl, ?_, hmax, hgw, ?_⟩⟩
  · simpa [Zo.matL, Dbm.topL] using hcap
  · have hk := r5.at h9 (hgL _ (by simp))
    have e9 : ((((((Dbm.topL 3).set 3 z.a).set 1 z.b).set 6 z.c).set 2 z.d).set 7 z.e).set 5 z.f = Zo.matL z := rfl
    rw [e9] at hk
    exact hk
end Go.Proofs.YtodpgcdandechaaGreat

/-
  The contracts of slices.Equal at bounds and dbm.Same, by the engine.
-/
namespace Go.Proofs.YtodpgcdandechaaGreat
set_option linter.unusedVariables false
set_option linter.unusedSimpArgs false
set_option maxRecDepth 100000
open Go.RowKit Go.Proofs.YtodpgcdandechaaGreat.Eng Enc

theorem equalB_any (L M : List Int) (a b : Option Addr) (ca cb : Nat) (w : World) (hA : Sl w.heap.size w (.slice a L.length ca) L) (hB : Sl w.heap.size w (.slice b M.length cb) M) :
    Calls Tryz.prog 195 #[.slice a L.length ca, .slice b M.length cb] w fun e w' => e = .returned (.bool (decide (L = M))) ∧ Below w.heap.size w w' := by
  refine fun_eq 0 w Tryz.func195 (args := [.val (.slice a L.length ca), .val (.slice b M.length cb)]) rfl rfl ?_
  refine Branch.mk (fun hl => ?_) (fun hl => ?_)
  · refine EndI.mk fun w3 h3 => ?_
    have h0 : ¬ (L.length : Int) = M.length := by simpa using hl
    rw [decide_eq_false (fun h => h0 (by rw [h]))]
  have hlen : L.length = M.length := by have : (L.length : Int) = M.length := by simpa using hl
                                        omega
  refine LoopI.invC (α := Nat × World) (fun y => [(13, .val (.int .i64 y.1))]) (fun y => y.2) (fun y => y.1 ≤ L.length ∧ Below w.heap.size w y.2 ∧ ∀ i, i < y.1 → L[i]? = M[i]?) (fun y => L.length - y.1) ?_ ?_
  · intro w1 h1
    exact ⟨(0, w1), Cov.mk (by repeat' (first | exact trivial | refine And.intro rfl ?_)) rfl rfl rfl rfl rfl, rfl, Nat.zero_le _, h1.below, fun i hi => by omega⟩
  rintro ⟨k, W⟩ ⟨hk, hW, hall⟩
  refine Branch.mk (fun hc => ?_) (fun hc => ?_)
  · have hlt : k < L.length := by simpa using hc
    have hgC := List.getElem?_eq_getElem (l := L) (i := k) (by omega)
    have hgM := List.getElem?_eq_getElem (l := M) (i := k) (by omega)
    have hAW := hA.go hW hW.size
    have hBW := hB.go hW hW.size
    refine DrawI.go (.tk 0 (.tk 1 (.tk 2 (.tk 3 (.tk 4 (.tk 5 (.tk 6 (.tk 7 (.tk 8 .done))))))))) (by kernel_rfl) fun w1 h1 => ?_
    have k1 := h1.go
    refine hAW.idx hgC fun ad had => ?_
    refine hAW.ld1 hgC had k1 (by simp) ?_
    refine hBW.idx hgM fun ad had => ?_
    refine hBW.ld1 hgM had k1 (by simp) ?_
    refine Branch.mk (fun hc2 => ?_) (fun hc2 => ?_)
    · have hne : ¬ L[k] = M[k]'(by omega) := by simpa using hc2
      refine EndI.mk fun w4 h4 => ?_
      rw [decide_eq_false]
      intro h
      apply hne
      simp [h]
    · have he : L[k] = M[k]'(by omega) := by simpa using hc2
      obtain ⟨_, _, e0, h1, h2, _⟩ := hA.form
      unfold maxLen at h2
      injection e0 with _ _ e0
      refine Need.mk (by show _ ∧ _; omega) (EndI.mk fun w7 h7 => ⟨(k + 1, w7), Cov.mk (by repeat' (first | exact trivial | refine And.intro rfl ?_)) rfl rfl rfl rfl rfl, rfl, ⟨hlt, h7.below, fun i hi => ?_⟩, by simp only; omega⟩)
      rcases Nat.lt_succ_iff_lt_or_eq.1 hi with h' | h'
      · exact hall i h'
      · rw [h', hgC, hgM, he]
  · have hge : k = L.length := by have : ¬ k < L.length := by simpa using hc
                                  omega
    refine EndI.mk fun w5 h5 => ?_
    rw [decide_eq_true]
    refine List.ext_getElem? fun i => ?_
    rcases Nat.lt_or_ge i k with h | h
    · exact hall i h
    · rw [List.getElem?_eq_none (by omega), List.getElem?_eq_none (by omega)]

theorem same_any (n m : Int) (L M : List Int) (a b : Option Addr) (ca cb : Nat) (w : World) (hA : Sl w.heap.size w (.slice a L.length ca) L) (hB : Sl w.heap.size w (.slice b M.length cb) M) :
    Calls Tryz.prog 126 #[.agg #[.int .i64 n, .slice a L.length ca], .agg #[.int .i64 m, .slice b M.length cb]] w fun e w' => e = .returned (.bool (decide (n = m ∧ L = M))) ∧ Below w.heap.size w w' := by
  refine fun_eq 0 w Tryz.func126 (args := [.agg [.val (.int .i64 n), .val (.slice a L.length ca)], .agg [.val (.int .i64 m), .val (.slice b M.length cb)]]) rfl rfl ?_
  have st := Stay.first (w := w)
  refine NewI.mk fun b1 hb1 => ?_
  refine NewI.mk fun b2 hb2 => ?_
  refine Branch.mk (fun hc => ?_) (fun hc => ?_)
  rotate_left
  · have h0 : ¬ n = m := by simpa using hc
    refine EndI.mk fun w3 h3 => ?_
    simp [h0]
  have h0 : n = m := by simpa using hc
  apply CallI.use1
  focus (exact fun w1 h1 => equalB_any L M a b ca cb w1 (hA.st (st.at h1 (fun x hx => by simp at hx <;> omega))) (hB.st (st.at h1 (fun x hx => by simp at hx <;> omega))))
  intro w1 v1 h1 hB1
  have st := st.next h1 (fun x hx => by simp at hx <;> omega) hB1
  refine EndI.mk fun w3 h3 => ?_
  simp [h0]
end Go.Proofs.YtodpgcdandechaaGreat

/-
  The contracts of package zone: Check, Has, by the engine.
-/
namespace Go.Proofs.YtodpgcdandechaaGreat
set_option linter.unusedVariables false
set_option linter.unusedSimpArgs false
set_option maxRecDepth 100000
open Go.RowKit Go.Proofs.YtodpgcdandechaaGreat.Eng Enc

namespace Zo
def chk (z : Zn) : Int := if Dbm.close 3 (matL z) = (3, matL z, 0) then 0 else 8
theorem chk_eq {z : Zn} : chk z = 0 ↔ Dbm.close 3 (matL z) = (3, matL z, 0) := by unfold chk; split <;> simp_all
def has (z : Zn) (p : Pt) : Bool × Int := if chk z = 0 ∧ p.t.ok = true ∧ p.u.ok = true then Dbm.keeps 3 (matL z) [p.t, p.u] else (false, 8)
end Zo

theorem zcheck_any (z : Zn) (w : World) :
    Calls Tryz.prog 62 #[.agg #[.int .i64 z.a, .int .i64 z.b, .int .i64 z.c, .int .i64 z.d, .int .i64 z.e, .int .i64 z.f]] w fun e w' => e = .returned (.int .i64 (Zo.chk z)) ∧ Below w.heap.size w w' := by
  refine fun_eq 0 w Tryz.func62 (args := [.agg [.val (.int .i64 z.a), .val (.int .i64 z.b), .val (.int .i64 z.c), .val (.int .i64 z.d), .val (.int .i64 z.e), .val (.int .i64 z.f)]]) rfl rfl ?_
  have st := Stay.first (w := w)
  refine NewI.mk fun b1 hb1 => ?_
  apply CallI.use
  focus (exact fun w1 h1 => zmatrix_any z w1)
  rintro v w1 v1 h1 hB1 ⟨a1, c1, rfl, hF1⟩
  have st := st.next h1 (fun x hx => by simp at hx <;> omega) hB1
  refine NewI.mk fun b2 hb2 => ?_
  have hcl := fun (w : World) (h : Sl w.heap.size w (.slice a1 (Zo.matL z).length c1) (Zo.matL z)) => close_any 3 a1 c1 (Zo.matL z) w h
  unfold Zo.chk
  generalize hD : Dbm.close 3 (Zo.matL z) = D at hcl
  obtain ⟨n, C, e⟩ := D
  apply CallI.use
  focus (exact fun w2 h2 => hcl w2 (hF1.sl.st (st.at h2 (fun x hx => by simp at hx <;> omega))))
  rintro v w2 v2 h2 hB2 ⟨a2, c2, rfl, hF2⟩
  have st := st.next h2 (fun x hx => by simp at hx <;> omega) hB2
  refine NewI.mk fun b3 hb3 => ?_
  refine Branch.mk (fun hc => ?_) (fun hc => ?_)
  · have he : ¬ e = 0 := by simpa using hc
    refine EndI.mk fun w3 h3 => ?_
    rw [if_neg (by simp [he])]
  have he : e = 0 := by simpa using hc
  apply CallI.use1
  focus (exact fun w3 h3 => same_any n 3 C (Zo.matL z) a2 a1 c2 c1 w3 (hF2.sl.st (st.at h3 (fun x hx => by simp at hx <;> omega))) (hF1.sl.st (st.at h3 (fun x hx => by simp at hx <;> omega))))
  intro w3 v3 h3 hB3
  have st := st.next h3 (fun x hx => by simp at hx <;> omega) hB3
  refine Branch.mk (fun hc => ?_) (fun hc => ?_)
  · have h0 : ¬ (n = 3 ∧ C = Zo.matL z) := fun h => by rw [h.1, h.2] at hc; simp at hc
    refine EndI.mk fun w3 h3 => ?_
    rw [if_neg (fun h => h0 ⟨(Prod.mk.inj h).1, (Prod.mk.inj (Prod.mk.inj h).2).1⟩)]
  · have h0 : n = 3 ∧ C = Zo.matL z := by simpa using hc
    refine EndI.mk fun w3 h3 => ?_
    rw [if_pos (by rw [h0.1, h0.2, he])]

theorem zhas_any (z : Zn) (p : Pt) (hp : p.ins) (w : World) :
    Calls Tryz.prog 63 #[.agg #[.int .i64 z.a, .int .i64 z.b, .int .i64 z.c, .int .i64 z.d, .int .i64 z.e, .int .i64 z.f], .agg #[.int .i64 p.t.num, .int .i64 p.t.den, .int .i64 p.u.num, .int .i64 p.u.den]] w (Ret w fun v w' => v = .tuple #[.bool (Zo.has z p).1, .int .i64 (Zo.has z p).2]) := by
  refine fun_ret 0 w Tryz.func63 (args := [.agg [.val (.int .i64 z.a), .val (.int .i64 z.b), .val (.int .i64 z.c), .val (.int .i64 z.d), .val (.int .i64 z.e), .val (.int .i64 z.f)], .agg [.val (.int .i64 p.t.num), .val (.int .i64 p.t.den), .val (.int .i64 p.u.num), .val (.int .i64 p.u.den)]]) rfl rfl ?_
  have st := Stay.first (w := w)
  refine NewI.mk fun b1 hb1 => ?_
  refine NewI.mk fun b2 hb2 => ?_
  unfold Zo.has
  apply CallI.use1
  focus (exact fun w1 h1 => zcheck_any z w1)
  intro w1 v1 h1 hB1
  have st := st.next h1 (fun x hx => by simp at hx <;> omega) hB1
  refine Branch.mk (fun hc => ?_) (fun hc => ?_)
  · have h0 : ¬ Zo.chk z = 0 := by simpa using hc
    rw [if_neg (fun h => h0 h.1)]
    exact EndI.mk fun w3 h3 => rfl
  have h0 : Zo.chk z = 0 := by simpa using hc
  apply CallI.use1
  focus (exact fun w2 h2 => rcheck_any p.t.num p.t.den hp.1.1 hp.1.2 w2)
  intro w2 v2 h2 hB2
  have st := st.next h2 (fun x hx => by simp at hx <;> omega) hB2
  refine Branch.mk (fun hc => ?_) (fun hc => ?_)
  · have h1 : ¬ Fr.chk p.t.num p.t.den = 0 := by simpa using hc
    rw [if_neg (fun h => h1 (Fr.chk_yes h.2.1))]
    exact EndI.mk fun w3 h3 => rfl
  have h1 : Fr.chk p.t.num p.t.den = 0 := by simpa using hc
  apply CallI.use1
  focus (exact fun w3 h3 => rcheck_any p.u.num p.u.den hp.2.1 hp.2.2 w3)
  intro w3 v3 h3 hB3
  have st := st.next h3 (fun x hx => by simp at hx <;> omega) hB3
  refine Branch.mk (fun hc => ?_) (fun hc => ?_)
  · have h2 : ¬ Fr.chk p.u.num p.u.den = 0 := by simpa using hc
    rw [if_neg (fun h => h2 (Fr.chk_yes h.2.2))]
    exact EndI.mk fun w3 h3 => rfl
  have h2 : Fr.chk p.u.num p.u.den = 0 := by simpa using hc
  rw [if_pos ⟨h0, Fr.chk_eq.1 h1, Fr.chk_eq.1 h2⟩]
  refine DrawI.go (.tk 0 (.tk 2 (.tk 3 (.tk 4 (.tk 5 (.two 1 (.ev 6 (.ev 7 (.tk 8 (.tk 9 (.tk 10 (.tk 11 .done)))))) 6 (.ev 1 (.ev 7 (.tk 8 (.tk 9 (.tk 10 (.tk 11 .done)))))))))))) (by kernel_rfl) fun w7 h7 => ?_
  have st := st.at h7 (fun x hx => by simp at hx <;> omega)
  have hT : ∀ x ∈ [p.t, p.u], x.ins := fun x hx => by
    rcases List.mem_cons.1 hx with rfl | hx
    · exact hp.1
    · rw [List.mem_singleton.1 hx]; exact hp.2
  refine Both.mk ?_ ?_
  · skip
    apply CallI.use
    focus (exact fun w4 h4 => zmatrix_any z w4)
    rintro v w4 v4 h4 hB4 ⟨a1, c1, rfl, hF1⟩
    have st := st.next h4 (fun x hx => by simp at hx <;> omega) hB4
    refine NewI.mk fun b3 hb3 => ?_
    apply CallI.use
    focus (exact fun w5 h5 => dkeeps_any 3 a1 c1 (Zo.matL z) [p.t, p.u] _ 2 w5 hT (hF1.sl.st (st.at h5 (fun x hx => by simp at hx <;> omega))) (Sl.own (l := [p.t, p.u]) h5 2 rfl rfl rfl (Nat.le_refl _) (by simp [maxLen])))
    rintro v w5 v5 h5 hB5 rfl
    have st := st.next h5 (fun x hx => by simp at hx <;> omega) hB5
    exact EndI.mk fun w9 h9 => rfl
  · refine NewI.mk fun b3 hb3 => ?_
    apply CallI.use
    focus (exact fun w4 h4 => zmatrix_any z w4)
    rintro v w4 v4 h4 hB4 ⟨a1, c1, rfl, hF1⟩
    have st := st.next h4 (fun x hx => by simp at hx <;> omega) hB4
    apply CallI.use
    focus (exact fun w5 h5 => dkeeps_any 3 a1 c1 (Zo.matL z) [p.t, p.u] _ 2 w5 hT (hF1.sl.st (st.at h5 (fun x hx => by simp at hx <;> omega))) (Sl.own (l := [p.t, p.u]) h5 2 rfl rfl rfl (Nat.le_refl _) (by simp [maxLen])))
    rintro v w5 v5 h5 hB5 rfl
    have st := st.next h5 (fun x hx => by simp at hx <;> omega) hB5
    exact EndI.mk fun w9 h9 => rfl
end Go.Proofs.YtodpgcdandechaaGreat

/-
  The contract of region.List, by the engine.
-/
namespace Go.Proofs.YtodpgcdandechaaGreat
set_option linter.unusedVariables false
set_option linter.unusedSimpArgs false
set_option maxRecDepth 100000
open Go.RowKit Go.Proofs.YtodpgcdandechaaGreat.Eng Enc

namespace Rg
/-- is a number a region's, and in its range? -/
def isR (long : Int) (x : Int) : Bool := decide (0 ≤ x) && decide (x < (many long).1) && (point x long).2
/-- is a region's point in one of some zones? -/
def inL (l : List Zn) (long : Int) (x : Int) : Bool := isR long x && l.any fun z => (Zo.has z (pt x long)).1
/-- the numbers of which p says so, rising. -/
def up (long : Int) (p : Int → Bool) : List Int := ((List.range (many long).1.toNat).filter fun n : Nat => p (n : Int)).map Int.ofNat
theorem mem_up {long : Int} {p : Int → Bool} (h : ∀ x, p x = true → 0 ≤ x ∧ x < (many long).1) (x : Int) : x ∈ up long p ↔ p x = true := by
  unfold up
  rw [List.mem_map]
  constructor
  · rintro ⟨k, hk, rfl⟩
    exact (List.mem_filter.1 hk).2
  · intro hx
    obtain ⟨h0, h1⟩ := h x hx
    refine ⟨x.toNat, List.mem_filter.2 ⟨List.mem_range.2 (by omega), ?_⟩, Int.toNat_of_nonneg h0⟩
    show p ((x.toNat : Nat) : Int) = true
    rw [Int.toNat_of_nonneg h0]; exact hx
theorem up_rising (long : Int) (p : Int → Bool) : (up long p).Pairwise fun x y => x < y := by
  unfold up
  rw [List.pairwise_map]
  exact (List.pairwise_lt_range.filter _).imp fun h => Int.ofNat_lt.2 h
def list (l : List Zn) (long : Int) : List Int × Int :=
  if (many long).2 ≠ 0 then ([], (many long).2) else if l.any (fun z => decide (Zo.chk z ≠ 0)) = true then ([], 8) else (up long (inL l long), 0)
theorem inL_in {l : List Zn} {long x : Int} (h : inL l long x = true) : 0 ≤ x ∧ x < (many long).1 := by
  unfold inL isR at h
  simp only [Bool.and_eq_true, decide_eq_true_eq] at h
  exact h.1.1
end Rg
theorem rlist_any (l : List Zn) (hlen : l.length ≤ 4096) (long : Int) (a : Option Addr) (ca : Nat) (w : World) (hS : Sl w.heap.size w (.slice a l.length ca) l) :
    Calls Tryz.prog 17 #[.slice a l.length ca, .int .i64 long] w (Ret w fun v w' => ∃ a' c', v = .tuple #[.slice a' (Rg.list l long).1.length c', .int .i64 (Rg.list l long).2] ∧ Own TKi w.heap.size w' (.slice a' (Rg.list l long).1.length c') (Rg.list l long).1) := by
  refine fun_ret 0 w Tryz.func17 (args := [.val (.slice a l.length ca), .val (.int .i64 long)]) rfl rfl ?_
  have st := Stay.first (w := w)
  apply CallI.use1
  focus (exact fun w2 h2 => many_any long w2)
  intro w2 v2 h2 hB2
  have st := st.next h2 (fun x hx => by simp at hx <;> omega) hB2
  unfold Rg.list
  refine Branch.mk (fun hc => ?_) (fun hc => ?_)
  · rw [if_pos (by simpa using hc)]
    exact EndI.mk fun w9 h9 => ⟨_, _, rfl, Own.nil⟩
  have h0 : (Rg.many long).2 = 0 := by simpa using hc
  rw [if_neg (by rw [h0]; simp)]
  have hl : 1 ≤ long ∧ long ≤ 16 := by
    cases hf : Rg.fits long with
    | true => exact Rg.fits_iff.1 hf
    | false => unfold Rg.many at h0; rw [hf] at h0; cases h0
  have hs : 3 ≤ Rg.sides long ∧ Rg.sides long ≤ 33 := by unfold Rg.sides; omega
  have hmany : (Rg.many long).1 = 3 * Rg.sides long * Rg.sides long := by unfold Rg.many; rw [if_pos (Rg.fits_iff.2 hl)]
  have hmm := Fr.mul_bd (u := 3 * Rg.sides long) (v := Rg.sides long) (m := 99) (n := 33) (by omega) (by omega) (by omega) (by omega)
  obtain ⟨M, hM⟩ : ∃ M : Nat, (Rg.many long).1 = M := ⟨(Rg.many long).1.toNat, by omega⟩
  have hM4 : M ≤ 3267 := by omega
  rw [hM]
  refine ⟨fun w3 h3 => ⟨_, _, run_makeMap _ w3, KpOk.ok h3 ((Below.refl _ _).alloc (Nat.le_refl _) _), ?_⟩⟩
  have hms := MSet.made w3
  have hb3 : Below w.heap.size w (w3.alloc (.map #[] 0)) := h3.below.alloc h3.below.size _
  have hwb : w.heap.size ≤ w3.heap.size := h3.below.size
  generalize w3.alloc (.map #[] 0) = w4 at hms hb3 ⊢
  generalize w3.heap.size = B at hms hwb ⊢
  have hsup : ∀ n : Nat, n < M → 0 ≤ (n : Int) ∧ (n : Int) < (Rg.many long).1 := fun n hn => by omega
  refine LoopI.invC (α := Nat × World) (fun y => [(28, .val (.int .i64 y.1))]) (fun y => y.2)
    (fun y => y.1 ≤ l.length ∧ Below w.heap.size w y.2 ∧ (∀ z, z ∈ l.take y.1 → Zo.chk z = 0) ∧ ∃ f, MSet y.2 B (y.1 * M) f ∧ ∀ x, f x = Rg.inL (l.take y.1) long x) (fun y => l.length - y.1) ?_ ?_
  · intro w5 h5
    exact ⟨(0, w5), Cov.mk (by repeat' (first | exact trivial | refine And.intro rfl ?_)) rfl rfl rfl rfl rfl, rfl, Nat.zero_le _, h5.below, by simp, _, by simpa using hms.below (at_belowM h5 (by simp)), by simp [Rg.inL]⟩
  rintro ⟨i, V⟩ ⟨hi, hV, hzs, f, hf, hfx⟩
  simp only at hi hV hzs hf hfx
  refine Branch.mk (fun z1 => ?_) (fun z1 => ?_)
  · have hiN : i < l.length := by have := of_decide_eq_true z1; simp only at this; omega
    have hz := List.getElem?_eq_getElem (l := l) (i := i) hiN
    have hts : l.take (i + 1) = l.take i ++ [l[i]'hiN] := by rw [List.take_add_one, hz]; rfl
    have hzm := List.getElem_mem hiN
    generalize l[i]'hiN = z at hz hts hzm
    have hSV : Sl V.heap.size V (.slice a l.length ca) l := hS.go hV hV.size
    refine hSV.idx hz fun ad had => ?_
    refine hSV.ld hz had (Below.refl _ _) (by simp) ?_
    refine NewI.mk fun b10 hb10 => ?_
    have hb10' : V.heap.size ≤ b10 := hb10
    apply CallI.use1
    focus (exact fun w5 h5 => zcheck_any z w5)
    intro w5 v5 h5 hB5
    have hf5 := (hf.at h5 (by have := hf.lt; simp; omega)).below hB5
    have hB10 : B ≠ b10 := by have := hf.lt; omega
    refine Branch.mk (fun z2 => ?_) (fun z2 => ?_)
    · have hne : Zo.chk z ≠ 0 := of_decide_eq_true z2
      have h8 : Zo.chk z = 8 := by unfold Zo.chk at hne ⊢; split at hne <;> simp_all
      rw [if_pos (List.any_eq_true.2 ⟨z, hzm, by simpa using hne⟩), h8]
      exact EndI.mk fun w9 h9 => ⟨_, _, rfl, Own.nil⟩
    have hz0 : Zo.chk z = 0 := by have := of_decide_eq_false z2; simpa using this
    have hl10 : b10 < w5.heap.size := h5.lt b10 (by simp)
    have hw5 : Below w.heap.size w v5 := h5.below.trans (hB5.mono h5.below.size)
    refine LoopI.invC (α := Nat × World) (fun y => [(38, .val (.int .i64 y.1))]) (fun y => y.2)
      (fun y => y.1 ≤ M ∧ Below w.heap.size w y.2 ∧ v5.heap.size ≤ y.2.heap.size ∧ ∃ g, MSet y.2 B (i * M + y.1) g ∧ ∀ x, g x = (Rg.inL (l.take i) long x || (Rg.isR long x && decide (x < (y.1 : Int)) && (Zo.has z (Rg.pt x long)).1))) (fun y => M - y.1) ?_ ?_
    · intro w6 h6
      refine ⟨(0, w6), Cov.mk (by repeat' (first | exact trivial | refine And.intro rfl ?_)) rfl rfl rfl rfl rfl, rfl, Nat.zero_le _, h6.below, h6.size, f, hf5.at h6 (by simp), fun x => ?_⟩
      rw [hfx x]
      have hno : (Rg.isR long x && decide (x < ((0 : Nat) : Int)) && (Zo.has z (Rg.pt x long)).1) = false := by
        by_cases h : x < 0
        · have : Rg.isR long x = false := by unfold Rg.isR; rw [decide_eq_false (by omega : ¬ 0 ≤ x)]; rfl
          rw [this]; rfl
        · rw [decide_eq_false (by simpa using h)]; simp
      rw [hno, Bool.or_false]
    rintro ⟨k, U⟩ ⟨hk, hU, hvu, g, hg, hgx⟩
    simp only at hk hU hvu hg hgx
    refine Branch.mk (fun z3 => ?_) (fun z3 => ?_)
    · have hkM : k < M := by have := of_decide_eq_true z3; simp only at this; omega
      obtain ⟨hk0, hk1⟩ := hsup k hkM
      have hki : inK .i64 (k : Int) := by simp only [inK]; omega
      have hBU := hg.lt
      have hpins : (Rg.pt k long).ins := by
        have ht : 0 ≤ (k : Int) / 3 / Rg.sides long ∧ (k : Int) / 3 / Rg.sides long ≤ 1000 := by
          have h1 : 0 ≤ (k : Int) / 3 / Rg.sides long := Int.ediv_nonneg (by omega) (by omega)
          have h2 : (k : Int) / 3 / Rg.sides long < Rg.sides long := by
            refine Int.ediv_lt_of_lt_mul (by omega) ?_
            have : (k : Int) < 3 * (Rg.sides long * Rg.sides long) := by rw [← Int.mul_assoc, ← hmany]; exact hk1
            omega
          omega
        have hu : 0 ≤ (k : Int) / 3 % Rg.sides long ∧ (k : Int) / 3 % Rg.sides long ≤ 1000 := by
          have h1 := Int.emod_nonneg ((k : Int) / 3) (b := Rg.sides long) (by omega)
          have h2 := Int.emod_lt_of_pos ((k : Int) / 3) (b := Rg.sides long) (by omega)
          omega
        have hp : (0 ≤ (Rg.parts ((k : Int) % 3)).1 ∧ (Rg.parts ((k : Int) % 3)).1 ≤ 10) ∧ (0 ≤ (Rg.parts ((k : Int) % 3)).2.1 ∧ (Rg.parts ((k : Int) % 3)).2.1 ≤ 10) ∧ (1 ≤ (Rg.parts ((k : Int) % 3)).2.2 ∧ (Rg.parts ((k : Int) % 3)).2.2 ≤ 10) := by
          rcases (by omega : (k : Int) % 3 = 0 ∨ (k : Int) % 3 = 1 ∨ (k : Int) % 3 = 2) with h | h | h <;> rw [h] <;> simp [Rg.parts]
        exact ⟨Rg.time_ins ht hp.1 hp.2.2, Rg.time_ins hu hp.2.1 hp.2.2⟩
      have hR : Rg.isR long k = (Rg.point k long).2 := by
        unfold Rg.isR
        rw [decide_eq_true hk0, decide_eq_true hk1]; simp
      -- what comes of it, if number k's own word stands
      have hstep : ∀ g' : Int → Bool, (∀ x, x ≠ (k : Int) → g' x = g x) → g' k = (g k || ((Rg.point k long).2 && (Zo.has z (Rg.pt k long)).1)) → ∀ x, g' x = (Rg.inL (l.take i) long x || (Rg.isR long x && decide (x < ((k + 1 : Nat) : Int)) && (Zo.has z (Rg.pt x long)).1)) := fun g' h1 h2 x => by
        by_cases e : x = (k : Int)
        · subst e
          rw [h2, hgx, hR, decide_eq_false (by omega : ¬ (k : Int) < (k : Int)), decide_eq_true (by omega : (k : Int) < ((k + 1 : Nat) : Int))]
          simp
        · rw [h1 x e, hgx]
          have : decide (x < (k : Int)) = decide (x < ((k + 1 : Nat) : Int)) := by rw [decide_eq_decide]; omega
          rw [this]
      apply CallI.use1
      focus (exact fun w6 h6 => point_any k long hl ⟨hk0, hk1⟩ w6)
      intro w6 v6 h6 hB6
      have hg6 := (hg.below (at_belowM h6 (by simp))).below hB6
      refine NewI.mk fun b13 hb13 => ?_
      have hb13' : v6.heap.size ≤ b13 := hb13
      have hU6 : U.heap.size ≤ v6.heap.size := Nat.le_trans h6.size hB6.size
      have hnB : B ∉ [b10, b13] := by simp; omega
      refine Branch.mk (fun z4 => ?_) (fun z4 => ?_)
      · refine ⟨fun w7 h7 => ?_⟩
        have hg7 := hg6.at h7 (by simp <;> omega)
        refine ⟨_, w7, hg7.look k hki, KpOk.ok h7 (Below.refl _ _), ?_⟩
        have hs7 := h7.size
        by_cases hgk : g k = true
        · rw [if_pos hgk]
          refine Branch.no rfl ?_
          refine Need.mk (by simp only [inK]; omega) (EndI.mk fun w9 h9 => ⟨(k + 1, w9), Cov.mk (by repeat' (first | exact trivial | refine And.intro rfl ?_)) rfl rfl rfl rfl rfl, rfl, ⟨hkM, h9.below, by have := h9.size; simp only; omega, g, ?_, hstep g (fun _ _ => rfl) (by rw [hgk]; rfl)⟩, by simp only; omega⟩)
          obtain ⟨D, q1, q2, q3⟩ := hg7.at h9 (by simp <;> omega)
          exact ⟨D, q1.mono (by simp only; omega), q2, q3⟩
        · have hgf : g k = false := by simpa using hgk
          rw [if_neg hgk]
          refine Branch.yes rfl ?_
          apply CallI.use
          focus (exact fun w8 h8 => zhas_any z (Rg.pt k long) hpins w8)
          rintro v w8 v8 h8 hB8 rfl
          have hg8 := (hg7.at h8 (by simp <;> omega)).below hB8
          have hs8 := h8.size
          have hs8' := hB8.size
          refine Branch.mk (fun z5 => ?_) (fun z5 => ?_)
          · refine ⟨fun w9 h9 => ?_⟩
            have hg9 := hg8.at h9 (by simp <;> omega)
            have hs9 := h9.size
            obtain ⟨w10, hrun, hput, hgr⟩ := hg9.put k hki (by
              have : i * M ≤ 4096 * 3267 := Nat.mul_le_mul (by omega) hM4
              omega)
            refine ⟨w10, hrun, keep_grown h9 hgr (fun q hq => by injection hq with hq; subst hq; exact ⟨hwb, hnB⟩), ?_⟩
            have hs10 := hgr.size
            refine Need.mk (by simp only [inK]; omega) (EndI.mk fun w11 h11 => ⟨(k + 1, w11), Cov.mk (by repeat' (first | exact trivial | refine And.intro rfl ?_)) rfl rfl rfl rfl rfl, rfl, ⟨hkM, h11.below, by have := h11.size; simp only; omega, (fun y => g y || decide (y = (k : Int))), ?_, hstep (fun y => g y || decide (y = (k : Int))) (fun x hx => ?_) ?_⟩, by simp only; omega⟩)
            · obtain ⟨D, q1, q2, q3⟩ := hput.at h11 (by simp <;> omega)
              exact ⟨D, q1.mono (by simp only; omega), q2, q3⟩
            · simp [hx]
            · rw [z4, z5]; simp
          · refine Need.mk (by simp only [inK]; omega) (EndI.mk fun w9 h9 => ⟨(k + 1, w9), Cov.mk (by repeat' (first | exact trivial | refine And.intro rfl ?_)) rfl rfl rfl rfl rfl, rfl, ⟨hkM, h9.below, by have := h9.size; simp only; omega, g, ?_, hstep g (fun _ _ => rfl) (by rw [z5]; simp)⟩, by simp only; omega⟩)
            obtain ⟨D, q1, q2, q3⟩ := hg8.at h9 (by simp <;> omega)
            exact ⟨D, q1.mono (by simp only; omega), q2, q3⟩
      · refine Need.mk (by simp only [inK]; omega) (EndI.mk fun w9 h9 => ⟨(k + 1, w9), Cov.mk (by repeat' (first | exact trivial | refine And.intro rfl ?_)) rfl rfl rfl rfl rfl, rfl, ⟨hkM, h9.below, by have := h9.size; simp only; omega, g, ?_, hstep g (fun _ _ => rfl) (by rw [z4]; simp)⟩, by simp only; omega⟩)
        obtain ⟨D, q1, q2, q3⟩ := hg6.at h9 (by simp <;> omega)
        exact ⟨D, q1.mono (by simp only; omega), q2, q3⟩
    · have hge : k = M := by have := of_decide_eq_false z3; simp only at this; omega
      subst hge
      refine Need.mk (by simp only [inK]; omega) (EndI.mk fun w9 h9 => ⟨(i + 1, w9), Cov.mk (by repeat' (first | exact trivial | refine And.intro rfl ?_)) rfl rfl rfl rfl rfl, rfl, ⟨hiN, h9.below, fun y hy => ?_, g, ?_, fun x => ?_⟩, by simp only; omega⟩)
      · rw [hts] at hy
        rcases List.mem_append.1 hy with h | h
        · exact hzs y h
        · rw [List.mem_singleton.1 h]; exact hz0
      · have := hg.at h9 (by simp)
        rw [show (i + 1) * k = i * k + k by rw [Nat.add_mul, Nat.one_mul]]
        exact this
      · rw [hgx, hts]
        unfold Rg.inL
        rw [List.any_append]
        by_cases hr : Rg.isR long x = true
        · have hx2 : x < (k : Int) := by
            unfold Rg.isR at hr
            simp only [Bool.and_eq_true, decide_eq_true_eq] at hr
            omega
          rw [hr, decide_eq_true hx2]; simp
        · have : Rg.isR long x = false := by simpa using hr
          rw [this]; simp
  · have hge : i = l.length := by have := of_decide_eq_false z1; simp only at this; omega
    subst hge
    rw [List.take_length] at hzs hfx
    rw [if_neg (by
      intro h
      obtain ⟨z, hz, h⟩ := List.any_eq_true.1 h
      simp [hzs z hz] at h)]
    apply CallI.use
    focus (exact fun w5 h5 => rising_any (f := f) (by
      have : l.length * M ≤ 4096 * 3267 := Nat.mul_le_mul hlen hM4
      omega) (Rg.up long (Rg.inL l long)) (Rg.up_rising _ _) (fun x => by rw [Rg.mem_up (fun x hx => Rg.inL_in hx), hfx]) w5 (hf.at h5 (by simp)))
    rintro v w5 v5 h5 hB5 hO5
    obtain ⟨a5, c5, rfl⟩ := hO5.form
    exact EndI.mk fun w9 h9 => ⟨_, _, rfl, (hO5.lower h5.below.size).below (at_belowM h9 (by simp))⟩
end Go.Proofs.YtodpgcdandechaaGreat

/-
  The contracts of package tight: of, sides, with, Between, by the engine.
-/
namespace Go.Proofs.YtodpgcdandechaaGreat
set_option linter.unusedVariables false
set_option linter.unusedSimpArgs false
set_option maxRecDepth 100000
open Go.RowKit Go.Proofs.YtodpgcdandechaaGreat.Eng Enc

/-- a span. -/
structure Sp where
  lo : Int
  ls : Bool
  hi : Int
  hs : Bool
  op : Bool
deriving DecidableEq
instance encSp : Enc Sp := ⟨fun x => [.int .i64 x.lo, .bool x.ls, .int .i64 x.hi, .bool x.hs, .bool x.op], 5, fun _ => rfl, by decide,
  fun _ v hv => by simp only [List.mem_cons, List.not_mem_nil, or_false] at hv; rcases hv with rfl | rfl | rfl | rfl | rfl <;> rfl, fun x => .agg #[.int .i64 x.lo, .bool x.ls, .int .i64 x.hi, .bool x.hs, .bool x.op]⟩
def Sp.ins (s : Sp) : Prop := inK .i64 s.lo ∧ inK .i64 s.hi

namespace Tg
def of (c : Int) (s : Bool) : Int := (Bd.made c s).1
def bad (s : Sp) : Bool := decide (s.lo < -288230376151711744) || decide (288230376151711744 < s.lo) || decide (288230376151711744 < s.hi)
def sides (s : Sp) : Int × Int × Bool :=
  if bad s = true then (0, 0, false) else
  if s.op = true then (of (-s.lo) s.ls, 9223372036854775807, decide (s.hi = 0) && !s.hs)
  else (of (-s.lo) s.ls, of s.hi s.hs, decide (s.lo ≤ s.hi))
/-- a list with bounds more (num: the place, den: the bound). -/
def more (L : List Int) (l : List Rt) : List Int := l.foldl (fun M x => M.set x.num.toNat (min (M[x.num.toNat]?.getD 0) x.den)) L
end Tg

namespace Tg
def between (n : Int) (L : List Int) (i : Int) (s : Sp) : Int × List Int × Int :=
  if Dbm.chk n L = 0 then (if 0 ≤ i ∧ i < n then (if (sides s).2.2 = true then Dbm.close n (more L [⟨i, (sides s).1⟩, ⟨i * n, (sides s).2.1⟩]) else (0, [], 8)) else (0, [], 2)) else (0, [], 8)
end Tg
end Go.Proofs.YtodpgcdandechaaGreat

/-
  The contracts of package zone: told, Of, Make, by the engine.
-/
namespace Go.Proofs.YtodpgcdandechaaGreat
set_option linter.unusedVariables false
set_option linter.unusedSimpArgs false
set_option maxRecDepth 100000
open Go.RowKit Go.Proofs.YtodpgcdandechaaGreat.Eng Enc

namespace Zo
def nought : Zn := ⟨0, 0, 0, 0, 0, 0⟩
def ofL (L : List Int) : Zn := ⟨L[3]?.getD 0, L[1]?.getD 0, L[6]?.getD 0, L[2]?.getD 0, L[7]?.getD 0, L[5]?.getD 0⟩
def told (L : List Int) : Zn × Int := if Dbm.chk 3 L = 0 then (ofL L, 0) else (nought, 8)
def of (n : Int) (L : List Int) : Zn × Int :=
  if Dbm.chk n L = 0 then (if n = 3 then (if (Dbm.close 3 L).2.2 = 0 then told (Dbm.close 3 L).2.1 else (nought, (Dbm.close 3 L).2.2)) else (nought, 40)) else (nought, 8)
end Zo

theorem ztold_any (a : Option Addr) (cap : Nat) (L : List Int) (w : World) (hS : Sl w.heap.size w (.slice a L.length cap) L) :
    Calls Tryz.prog 131 #[.agg #[.int .i64 3, .slice a L.length cap]] w fun e w' => e = .returned (.tuple #[.agg #[.int .i64 (Zo.told L).1.a, .int .i64 (Zo.told L).1.b, .int .i64 (Zo.told L).1.c, .int .i64 (Zo.told L).1.d, .int .i64 (Zo.told L).1.e, .int .i64 (Zo.told L).1.f], .int .i64 (Zo.told L).2]) ∧ Below w.heap.size w w' := by
  refine fun_eq 0 w Tryz.func131 (args := [.agg [.val (.int .i64 3), .val (.slice a L.length cap)]]) rfl rfl ?_
  have st := Stay.first (w := w)
  refine NewI.mk fun b1 hb1 => ?_
  refine NewI.mk fun b2 hb2 => ?_
  unfold Zo.told
  apply CallI.use1
  focus (exact fun w1 h1 => dcheck_any 3 a cap L w1 (hS.st (st.at h1 (fun x hx => by simp at hx <;> omega))))
  intro w1 v1 h1 hB1
  have st := st.next h1 (fun x hx => by simp at hx <;> omega) hB1
  refine Branch.mk (fun hc => ?_) (fun hc => ?_)
  · have h0 : ¬ Dbm.chk 3 L = 0 := by simpa using hc
    have h8 := (Dbm.chk_cases 3 L).resolve_left h0
    rw [if_neg h0, h8]
    exact EndI.mk fun w9 h9 => rfl
  have h0 : Dbm.chk 3 L = 0 := by simpa using hc
  rw [if_pos h0]
  obtain ⟨c1, c2, c3, c4⟩ := Dbm.chk_iff.1 h0
  have hL9 : L.length = 9 := by omega
  have g : ∀ k, k < 9 → L[k]? = some (L[k]?.getD 0) := fun k hk => by rw [List.getElem?_eq_getElem (by omega)]; rfl
  apply CallI.use1
  focus (exact fun w4 h4 => places_any w4)
  intro w4 w5 h4 hB5
  have st := st.next h4 (fun x hx => by simp at hx <;> omega) hB5
  refine LoopI.rounds 7 ?_
  refine Branch.yes rfl ?_
  refine GenV.to (x := .int .i64 3) (fun w => places_at 0 w) fun u0 k0 => ?_
  refine hS.idx (k := 3) (g 3 (by decide)) fun ad had => ?_
  refine hS.ld1 (g 3 (by decide)) had k0.below (by first | (intro b hb; cases hb; done) | (intro b hb; rw [List.mem_singleton.1 hb]; exact hb2)) ?_
  refine Need.mk (by decide) ?_
  refine Need.mk (by simp only [inK]; omega) ?_
  refine Branch.yes rfl ?_
  refine GenV.to (x := .int .i64 1) (fun w => places_at 1 w) fun u1 k1 => ?_
  refine hS.idx (k := 1) (g 1 (by decide)) fun ad had => ?_
  refine hS.ld1 (g 1 (by decide)) had k1.below (by first | (intro b hb; cases hb; done) | (intro b hb; rw [List.mem_singleton.1 hb]; exact hb2)) ?_
  refine Need.mk (by decide) ?_
  refine Need.mk (by simp only [inK]; omega) ?_
  refine Branch.yes rfl ?_
  refine GenV.to (x := .int .i64 6) (fun w => places_at 2 w) fun u2 k2 => ?_
  refine hS.idx (k := 6) (g 6 (by decide)) fun ad had => ?_
  refine hS.ld1 (g 6 (by decide)) had k2.below (by first | (intro b hb; cases hb; done) | (intro b hb; rw [List.mem_singleton.1 hb]; exact hb2)) ?_
  refine Need.mk (by decide) ?_
  refine Need.mk (by simp only [inK]; omega) ?_
  refine Branch.yes rfl ?_
  refine GenV.to (x := .int .i64 2) (fun w => places_at 3 w) fun u3 k3 => ?_
  refine hS.idx (k := 2) (g 2 (by decide)) fun ad had => ?_
  refine hS.ld1 (g 2 (by decide)) had k3.below (by first | (intro b hb; cases hb; done) | (intro b hb; rw [List.mem_singleton.1 hb]; exact hb2)) ?_
  refine Need.mk (by decide) ?_
  refine Need.mk (by simp only [inK]; omega) ?_
  refine Branch.yes rfl ?_
  refine GenV.to (x := .int .i64 7) (fun w => places_at 4 w) fun u4 k4 => ?_
  refine hS.idx (k := 7) (g 7 (by decide)) fun ad had => ?_
  refine hS.ld1 (g 7 (by decide)) had k4.below (by first | (intro b hb; cases hb; done) | (intro b hb; rw [List.mem_singleton.1 hb]; exact hb2)) ?_
  refine Need.mk (by decide) ?_
  refine Need.mk (by simp only [inK]; omega) ?_
  refine Branch.yes rfl ?_
  refine GenV.to (x := .int .i64 5) (fun w => places_at 5 w) fun u5 k5 => ?_
  refine hS.idx (k := 5) (g 5 (by decide)) fun ad had => ?_
  refine hS.ld1 (g 5 (by decide)) had k5.below (by first | (intro b hb; cases hb; done) | (intro b hb; rw [List.mem_singleton.1 hb]; exact hb2)) ?_
  refine Need.mk (by decide) ?_
  refine Need.mk (by simp only [inK]; omega) ?_
  refine Branch.no rfl ?_
  exact EndI.mk fun w9 h9 => by rw [h0]; rfl

theorem zof_any (n : Int) (a : Option Addr) (cap : Nat) (L : List Int) (w : World) (hS : Sl w.heap.size w (.slice a L.length cap) L) :
    Calls Tryz.prog 67 #[.agg #[.int .i64 n, .slice a L.length cap]] w fun e w' => e = .returned (.tuple #[.agg #[.int .i64 (Zo.of n L).1.a, .int .i64 (Zo.of n L).1.b, .int .i64 (Zo.of n L).1.c, .int .i64 (Zo.of n L).1.d, .int .i64 (Zo.of n L).1.e, .int .i64 (Zo.of n L).1.f], .int .i64 (Zo.of n L).2]) ∧ Below w.heap.size w w' := by
  refine fun_eq 0 w Tryz.func67 (args := [.agg [.val (.int .i64 n), .val (.slice a L.length cap)]]) rfl rfl ?_
  have st := Stay.first (w := w)
  refine NewI.mk fun b1 hb1 => ?_
  refine NewI.mk fun b2 hb2 => ?_
  unfold Zo.of
  apply CallI.use1
  focus (exact fun w1 h1 => dcheck_any n a cap L w1 (hS.st (st.at h1 (fun x hx => by simp at hx <;> omega))))
  intro w1 v1 h1 hB1
  have st := st.next h1 (fun x hx => by simp at hx <;> omega) hB1
  refine Branch.mk (fun hc => ?_) (fun hc => ?_)
  · rw [if_neg (by simpa using hc)]
    exact EndI.mk fun w9 h9 => rfl
  rw [if_pos (by simpa using hc)]
  refine Branch.mk (fun hc2 => ?_) (fun hc2 => ?_)
  · rw [if_neg (by simpa using hc2)]
    exact EndI.mk fun w9 h9 => rfl
  have h3 : n = 3 := by simpa using hc2
  subst h3
  rw [if_pos rfl]
  have hcl := fun (w : World) (h : Sl w.heap.size w (.slice a L.length cap) L) => close_any 3 a cap L w h
  have h03 : (Dbm.close 3 L).2.2 = 0 → (Dbm.close 3 L).1 = 3 := fun h => by
    unfold Dbm.close at h ⊢
    split at h
    · rename_i hk
      rw [if_pos hk]
      split at h <;> rename_i hk2
      · rfl
      · cases h
    · cases h
  generalize hD : Dbm.close 3 L = D at hcl h03
  obtain ⟨m, C, e⟩ := D
  apply CallI.use
  focus (exact fun w2 h2 => hcl w2 (hS.st (st.at h2 (fun x hx => by simp at hx <;> omega))))
  rintro v w2 v2 h2 hB2 ⟨a2, c2, rfl, hF2⟩
  have st := st.next h2 (fun x hx => by simp at hx <;> omega) hB2
  refine NewI.mk fun b3 hb3 => ?_
  refine Branch.mk (fun hc => ?_) (fun hc => ?_)
  · rw [if_neg (by simpa using hc)]
    exact EndI.mk fun w9 h9 => rfl
  have he : e = 0 := by simpa using hc
  rw [if_pos he]
  have hm : m = 3 := h03 he
  subst hm
  apply CallI.use1
  focus (exact fun w3 h3 => ztold_any a2 c2 C w3 (hF2.sl.st (st.at h3 (fun x hx => by simp at hx <;> omega))))
  intro w3 v3 h3 hB3
  have st := st.next h3 (fun x hx => by simp at hx <;> omega) hB3
  exact EndI.mk fun w9 h9 => rfl

namespace Zo
/-- a span's two bounds. -/
def btw (s : Sp) : Int × List Int × Int := Tg.between 2 (Dbm.topL 2) 1 s
def outL (t u d : Sp) : List Int :=
  (((((((Dbm.topL 3).set 1 ((btw t).2.1[1]?.getD 0)).set 3 ((btw t).2.1[2]?.getD 0)).set 2 ((btw u).2.1[1]?.getD 0)).set 6 ((btw u).2.1[2]?.getD 0)).set 5 ((btw d).2.1[1]?.getD 0)).set 7 ((btw d).2.1[2]?.getD 0))
def make (t u d : Sp) : Zn × Int :=
  if 8 ∈ [(btw d).2.2, (btw u).2.2, (btw t).2.2] then (nought, 8) else
  if 6 ∈ [(btw d).2.2, (btw u).2.2, (btw t).2.2] then (nought, 6) else of 3 (outL t u d)
theorem top3 : Dbm.top 3 = (3, Dbm.topL 3, 0) := rfl
end Zo

theorem RowAt.other {T : TypeId} {W : World} {g g2 j : Nat} {v : Value} {L : List Int} (h : RowAt T W g2 L) (hne : g2 ≠ g) : RowAt T (W.setCell ⟨g, j, none⟩ v) g2 L :=
  h.kept (Below.heap_setCell _ _ _ _ hne)
theorem RowAt.sl {T : TypeId} {W : World} {g cap : Nat} {L : List Int} (h : RowAt T W g L) (h1 : L.length ≤ cap) (h2 : cap ≤ maxLen) : Sl W.heap.size W (.slice (some ⟨g, 0, none⟩) L.length cap) L :=
  Fresh.sl (e := T) (base := 0) (.inr ⟨g, cap, rfl, h1, h2, Nat.zero_le _, h⟩)

end Go.Proofs.YtodpgcdandechaaGreat

/-
  The contracts of region.around and region.Zone, by the engine.
-/
namespace Go.Proofs.YtodpgcdandechaaGreat
set_option linter.unusedVariables false
set_option linter.unusedSimpArgs false
set_option maxRecDepth 100000
open Go.RowKit Go.Proofs.YtodpgcdandechaaGreat.Eng Enc

namespace Rg
def around (pl : Int) : Sp := if pl % 2 = 0 then ⟨pl.tdiv 2, false, pl.tdiv 2, false, false⟩ else ⟨pl.tdiv 2, true, pl.tdiv 2 + 1, true, false⟩
/-- the span of what lies between the two times. -/
def diff (n long : Int) : Sp :=
  if (n / 3 / sides long) % 2 = 1 ∧ (n / 3 % sides long) % 2 = 1 then around (n / 3 % sides long - n / 3 / sides long + 1 - n % 3) else ⟨-16, false, 16, false, false⟩
def zone (n long : Int) : Zn × Int :=
  if (askPoint n long).2 = 0 then Zo.make (around (n / 3 / sides long)) (around (n / 3 % sides long)) (diff n long) else (Zo.nought, (askPoint n long).2)
end Rg
end Go.Proofs.YtodpgcdandechaaGreat

/-
  rallentandolaw14.at and alive: the chapter's first examples.
-/
namespace Go.Proofs.YtodpgcdandechaaGreat
set_option linter.unusedVariables false
set_option linter.unusedSimpArgs false
set_option maxRecDepth 100000
open Go.RowKit Go.Proofs.YtodpgcdandechaaGreat.Eng Enc

theorem at14_any (t u : Int) (ht : inK .i64 t) (hu : inK .i64 u) (w : World) :
    Calls Tryz.prog 61 #[.int .i64 t, .int .i64 u] w fun e w' => e = .returned (.agg #[.int .i64 (Fr.of t 6).1.num, .int .i64 (Fr.of t 6).1.den, .int .i64 (Fr.of u 6).1.num, .int .i64 (Fr.of u 6).1.den]) ∧ Below w.heap.size w w' := by
  refine fun_eq 0 w Tryz.func61 (args := [.val (.int .i64 t), .val (.int .i64 u)]) rfl rfl ?_
  refine NewI.mk fun b1 hb1 => ?_
  (first
    | (refine CallI.to1 (rof_any t 6 ht (by simp only [inK]; omega)) fun w2 => ?_)
    | (refine Branch.yes rfl ?_)
    | (refine Branch.no rfl ?_)
    | (refine Branch.mk (fun hb => ?_) (fun hb => ?_))
    | (refine NewI.mk fun nb hnb => ?_)
    | (refine Need.mk (by show _ ∧ _; omega) ?_)
    | (refine Need.mk (by omega) ?_)
    | (refine Need.mk ?_ ?_)
    | (refine EndI.mk fun w1 h1 => ?_))
  refine NewI.mk fun b2 hb2 => ?_
  (first
    | (refine CallI.to1 (rof_any u 6 hu (by simp only [inK]; omega)) fun w2 => ?_)
    | (refine Branch.yes rfl ?_)
    | (refine Branch.no rfl ?_)
    | (refine Branch.mk (fun hb => ?_) (fun hb => ?_))
    | (refine NewI.mk fun nb hnb => ?_)
    | (refine Need.mk (by show _ ∧ _; omega) ?_)
    | (refine Need.mk (by omega) ?_)
    | (refine Need.mk ?_ ?_)
    | (refine EndI.mk fun w1 h1 => ?_))
  refine NewI.mk fun b3 hb3 => ?_
  exact EndI.mk fun w3 h3 => rfl
/-- a point of sixths. -/
def atP (t u : Int) : Pt := ⟨(Fr.of t 6).1, (Fr.of u 6).1⟩
theorem atP_ins {t u : Int} (ht : inK .i64 t) (hu : inK .i64 u) : (atP t u).ins := ⟨Fr.of_ins ht, Fr.of_ins hu⟩
theorem alive14_any (w : World) : Calls Tryz.prog 16 #[] w fun e w' => e = .returned (.bool true) ∧ Below w.heap.size w w' := by
  refine fun_eq 0 w Tryz.func16 (args := []) rfl rfl ?_
  have m2 := fun w => many_any 2 w
  rw [show Rg.many 2 = (75, 0) by decide +kernel] at m2
  refine CallI.to1 m2 fun w1 => ?_
  have i1 : (atP 0 3).ins := atP_ins (by simp [inK]) (by simp [inK])
  have i2 : (atP 2 10).ins := atP_ins (by simp [inK]) (by simp [inK])
  (first
    | (refine CallI.to1 (at14_any 0 3 (by simp [inK]) (by simp [inK])) fun w2 => ?_)
    | (refine Branch.yes rfl ?_)
    | (refine Branch.no rfl ?_)
    | (refine Branch.mk (fun hb => ?_) (fun hb => ?_))
    | (refine NewI.mk fun nb hnb => ?_)
    | (refine Need.mk (by show _ ∧ _; omega) ?_)
    | (refine Need.mk (by omega) ?_)
    | (refine Need.mk ?_ ?_)
    | (refine EndI.mk fun w1 h1 => ?_))
  have q1 := fun w => gnumber_any (atP 0 3) 2 i1 w
  rw [show Rg.askNumber (atP 0 3) 2 = (4, 0) by decide +kernel] at q1
  refine CallI.to1 q1 fun w2 => ?_
  (first
    | (refine CallI.to1 (at14_any 2 10 (by simp [inK]) (by simp [inK])) fun w2 => ?_)
    | (refine Branch.yes rfl ?_)
    | (refine Branch.no rfl ?_)
    | (refine Branch.mk (fun hb => ?_) (fun hb => ?_))
    | (refine NewI.mk fun nb hnb => ?_)
    | (refine Need.mk (by show _ ∧ _; omega) ?_)
    | (refine Need.mk (by omega) ?_)
    | (refine Need.mk ?_ ?_)
    | (refine EndI.mk fun w1 h1 => ?_))
  have q2 := fun w => gnumber_any (atP 2 10) 2 i2 w
  rw [show Rg.askNumber (atP 2 10) 2 = (24, 0) by decide +kernel] at q2
  refine CallI.to1 q2 fun w3 => ?_
  refine Branch.yes (by decide) ?_
  refine Branch.yes (by decide) ?_
  refine Branch.yes (by decide) ?_
  refine Branch.yes (by decide) ?_
  refine Branch.yes (by decide) ?_
  exact EndI.mk fun w4 h4 => rfl

end Go.Proofs.YtodpgcdandechaaGreat

/-
  The walk of rallentandolaw14.RegionZones, by the engine, out of the plain law's four parts (ZonesLaw, not shown here).
-/
namespace Go.Proofs.YtodpgcdandechaaGreat
set_option linter.unusedVariables false
set_option linter.unusedSimpArgs false
set_option maxRecDepth 100000
open Go.RowKit Go.Proofs.YtodpgcdandechaaGreat.Eng Enc

/-- what the plain law has to show. -/
structure ZonesLaw (n : Int) (p : Pt) (long : Int) : Prop where
  ins : (Rg.askPoint n long).1.ins
  same : (Rg.zone n long).2 = (Rg.askPoint n long).2
  own : (Rg.askPoint n long).2 = 0 → Rg.askNumber (Rg.askPoint n long).1 long = (n, 0)
  has : (Rg.askPoint n long).2 = 0 → Zo.has (Rg.zone n long).1 (Rg.askPoint n long).1 = (true, 0)
  any : (Rg.askPoint n long).2 = 0 → (Zo.has (Rg.zone n long).1 p).2 = 0 → (Zo.has (Rg.zone n long).1 p).1 = (decide ((Rg.askNumber p long).2 = 0) && decide ((Rg.askNumber p long).1 = n))

end Go.Proofs.YtodpgcdandechaaGreat

/-
  The plain law of RegionZones: its parts shown so far (ins, own).
-/
namespace Go.Proofs.YtodpgcdandechaaGreat
set_option linter.unusedVariables false
set_option linter.unusedSimpArgs false
open Go.RowKit Go.Proofs.YtodpgcdandechaaGreat.Eng Enc
namespace Rg
theorem cmp_three (a b : Rt) : (Fr.cmp a b).1 = -1 ∨ (Fr.cmp a b).1 = 0 ∨ (Fr.cmp a b).1 = 1 := by
  unfold Fr.cmp
  split
  · show cmpI _ _ = -1 ∨ cmpI _ _ = 0 ∨ cmpI _ _ = 1
    unfold cmpI
    split
    · exact .inl rfl
    · split
      · exact .inr (.inr rfl)
      · exact .inr (.inl rfl)
  · exact .inr (.inl rfl)
theorem order_three (p : Pt) : 0 ≤ order p ∧ order p ≤ 2 := by
  have := cmp_three (part p.t) (part p.u)
  unfold order
  split <;> omega
/-- a number tells the places and the order. -/
theorem number_back {p : Pt} {n long : Int} (h : number p long = n) (h0 : 0 ≤ n) (hl : 1 ≤ long ∧ long ≤ 16) :
    (Fr.cmp p.t p.u).1 < 0 ∧ place p.t = n / 3 / sides long ∧ place p.u = n / 3 % sides long ∧ order p = n % 3 := by
  have hs : 3 ≤ sides long ∧ sides long ≤ 33 := by unfold sides; omega
  have ho := order_three p
  unfold number at h
  split at h
  · omega
  · rename_i hc
    have h1 : (Fr.cmp p.t p.u).1 < 0 := by omega
    have h2 : 0 ≤ place p.t := by omega
    have h3 : place p.u < sides long := by omega
    have h4 : 0 ≤ place p.u := by
      have hf := floor_le h1
      unfold place at h2 ⊢
      split at h2 <;> split <;> omega
    have e3 : n / 3 = place p.t * sides long + place p.u := by omega
    refine ⟨h1, ?_, ?_, by omega⟩
    · rw [e3, Int.add_comm, Int.add_mul_ediv_right _ _ (by omega), Int.ediv_eq_zero_of_lt h4 h3]; omega
    · rw [e3, Int.add_comm, Int.add_mul_emod_self_right, Int.emod_eq_of_lt h4 h3]
end Rg
end Go.Proofs.YtodpgcdandechaaGreat

/-
  What a matrix means: the times that keep it; closing turns none of them. No program is in sight.
-/
namespace Go.Proofs.YtodpgcdandechaaGreat.Dbm
set_option linter.unusedVariables false
set_option linter.unusedSimpArgs false
open Go.Proofs.YtodpgcdandechaaGreat.Fr

def satO (d : Rat) : OB → Prop
  | none => True
  | some v => if Bd.st v = true then d < ((v / 2 : Int) : Rat) else d ≤ ((v / 2 : Int) : Rat)
theorem st_iff (v : Int) : Bd.st v = true ↔ v % 2 = 0 := by simp [Bd.st]
theorem satO_add {d e : Rat} {a b : OB} (h : satO d a) (k : satO e b) : satO (d + e) (oadd a b) := by
  cases a with
  | none => trivial
  | some u =>
    cases b with
    | none => trivial
    | some v =>
      simp only [satO, oadd] at h k ⊢
      rw [bsum_half]
      have hp : Bd.st (bsum u v) = true ↔ (Bd.st u = true ∨ Bd.st v = true) := by
        rw [st_iff, st_iff, st_iff]
        unfold bsum
        rcases parity u with h1 | h1 <;> rcases parity v with h2 | h2 <;> rw [h1, h2] <;> constructor <;> intro h <;> omega
      rw [Rat.intCast_add]
      generalize ((u / 2 : Int) : Rat) = x at *
      generalize ((v / 2 : Int) : Rat) = y at *
      cases hu : Bd.st u <;> cases hv : Bd.st v <;> simp only [hu, hv, Bool.false_eq_true, if_true, if_false, or_self, or_true, true_or, or_false, false_or] at h k hp ⊢
      · rw [if_neg (by rw [hp]; simp)]; grind
      · rw [if_pos (by rw [hp]; trivial)]; grind
      · rw [if_pos (by rw [hp]; trivial)]; grind
      · rw [if_pos (by rw [hp]; trivial)]; grind
theorem satO_mono {d : Rat} {a b : OB} (h : ole a b) (k : satO d a) : satO d b := by
  cases b with
  | none => trivial
  | some v =>
    cases a with
    | none => exact h.elim
    | some u =>
      have huv : u ≤ v := h
      simp only [satO] at k ⊢
      have h1 : u / 2 ≤ v / 2 := by omega
      have h2 : ((u / 2 : Int) : Rat) ≤ ((v / 2 : Int) : Rat) := by exact_mod_cast h1
      cases hu : Bd.st u <;> cases hv : Bd.st v <;> simp only [hu, hv, Bool.false_eq_true, if_true, if_false] at k ⊢
      · grind
      · have h3 : u / 2 < v / 2 := by
          have a1 : ¬ u % 2 = 0 := fun e => by rw [(st_iff u).2 e] at hu; cases hu
          have a2 := (st_iff v).1 hv
          omega
        have h4 : ((u / 2 : Int) : Rat) < ((v / 2 : Int) : Rat) := by exact_mod_cast h3
        grind
      · grind
      · grind
theorem satO_zero {v : Int} : satO 0 (some v) ↔ 1 ≤ v := by
  simp only [satO]
  cases hv : Bd.st v <;> simp only [Bool.false_eq_true, if_true, if_false]
  · have a1 : ¬ v % 2 = 0 := fun e => by rw [(st_iff v).2 e] at hv; cases hv
    constructor
    · intro h
      have : (0 : Int) ≤ v / 2 := by exact_mod_cast h
      omega
    · intro h
      have : (0 : Int) ≤ v / 2 := by omega
      exact_mod_cast this
  · have a1 := (st_iff v).1 hv
    constructor
    · intro h
      have : (0 : Int) < v / 2 := by exact_mod_cast h
      omega
    · intro h
      have : (0 : Int) < v / 2 := by omega
      exact_mod_cast this
/-- times that keep each bound. -/
def Fits (N : Nat) (E : Mx) (t : Nat → Rat) : Prop := ∀ i j, i < N → j < N → satO (t i - t j) (E i j)
theorem Fits.way {N : Nat} {E : Mx} {t : Nat → Rat} (h : Fits N E t) : ∀ (mid : List Nat) (i j : Nat), i < N → j < N → (∀ a ∈ mid, a < N) → satO (t i - t j) (Dbm.way E (i :: (mid ++ [j])))
  | [], i, j, hi, hj, _ => by
    simp only [List.nil_append, way_two]; exact h i j hi hj
  | a :: mid, i, j, hi, hj, hm => by
    have ha := hm a (by simp)
    have ih := h.way mid a j ha hj (fun b hb => hm b (by simp [hb]))
    simp only [List.cons_append, Dbm.way]
    have := satO_add (h i a hi ha) ih
    rwa [show t i - t a + (t a - t j) = t i - t j by grind] at this
theorem Inv.fits {N : Nat} {E M : Mx} {t : Nat → Rat} {k : Nat} (hk : k ≤ N) (inv : Inv N k E M) (h : Fits N E t) : Fits N M t := fun i j hi hj => by
  by_cases e : i = j
  · subst e
    rw [inv.diag i hi, Rat.sub_self]
    exact satO_zero.2 (by omega)
  · cases hv : M i j with
    | none => trivial
    | some v =>
      obtain ⟨mid, _, hm, hw⟩ := inv.wit i j hi hj e v hv
      rw [← hw]
      exact h.way mid i j hi hj fun a ha => Nat.lt_of_lt_of_le (hm a ha) hk
theorem Inv.fits_back {N : Nat} {E M : Mx} {t : Nat → Rat} {k : Nat} (inv : Inv N k E M) (h : Fits N M t) : Fits N E t := fun i j hi hj => satO_mono (inv.low i j hi hj) (h i j hi hj)

/-- with the diagonal at 0. -/
theorem fits_diag {N : Nat} {L L1 : List Int} {t : Nat → Rat} (hd : ∀ i, i < N → 1 ≤ L[i * N + i]?.getD 0) (h : ∀ i j, i < N → j < N → L1[i * N + j]?.getD 0 = if i = j then 1 else L[i * N + j]?.getD 0) :
    Fits N (mx N L1) t ↔ Fits N (mx N L) t := by
  have h1 : ∀ i j, i < N → j < N → i ≠ j → mx N L1 i j = mx N L i j := fun i j hi hj e => by unfold mx; rw [h i j hi hj, if_neg e]
  constructor
  · intro k i j hi hj
    by_cases e : i = j
    · subst e
      rw [Rat.sub_self]
      unfold mx ob
      split
      · trivial
      · exact satO_zero.2 (hd i hi)
    · rw [← h1 i j hi hj e]; exact k i j hi hj
  · intro k i j hi hj
    by_cases e : i = j
    · subst e
      unfold mx
      rw [h i i hi hi, if_pos rfl, Rat.sub_self]
      exact satO_zero.2 (by omega)
    · rw [h1 i j hi hj e]; exact k i j hi hj
/-- closing turns none of the times that keep a matrix. -/
theorem close_fits {N : Nat} {L C : List Int} (h0 : chk N L = 0) (h : closeL N L = some C) (t : Nat → Rat) : Fits N (mx N C) t ↔ Fits N (mx N L) t := by
  obtain ⟨L1, a2, a3, inv, hl, hE⟩ := close_inv h0 h
  rw [← fits_diag a2 a3]
  exact ⟨fun k => inv.fits_back k, fun k => inv.fits (Nat.le_refl _) k⟩
/-- a matrix that some times keep is not empty. -/
theorem close_some {N : Nat} {L : List Int} (h0 : chk N L = 0) {t : Nat → Rat} (ht : Fits N (mx N L) t) : ∃ C, closeL N L = some C := by
  obtain ⟨c1, c2, c3, c4⟩ := chk_iff.1 h0
  have hN4 : N ≤ 4 := by omega
  have hL : L.length = N * N := by exact_mod_cast c3
  have hdL : ∀ i, i < N → 1 ≤ L[i * N + i]?.getD 0 := fun i hi => by
    have := ht i i hi hi
    rw [Rat.sub_self] at this
    unfold mx ob at this
    split at this
    · rename_i h; rw [h]; decide
    · exact satO_zero.1 this
  have hd0 : ∀ n, n ≤ N → ∃ Ln, (List.range n).foldlM (diag1 N) L = some Ln := by
    intro n
    induction n with
    | zero => intro _; exact ⟨L, rfl⟩
    | succ n ih =>
      intro hn
      obtain ⟨Ln, e⟩ := ih (by omega)
      obtain ⟨a1, a2, a3⟩ := diag_spec hL n Ln (by omega) e
      rw [List.range_succ, List.foldlM_append, e]
      have : Ln[n * N + n]?.getD 0 = L[n * N + n]?.getD 0 := by rw [a3 n n (by omega) (by omega), if_neg (by omega)]
      refine ⟨Ln.set (n * N + n) 1, ?_⟩
      simp only [List.foldlM_cons, List.foldlM_nil, Option.bind_eq_bind, Option.bind_some, diag1]
      rw [if_neg (by rw [this]; have := hdL n (by omega); omega)]; rfl
  obtain ⟨L1, e1⟩ := hd0 N (Nat.le_refl _)
  obtain ⟨a1, a2, a3⟩ := diag_spec hL N L1 (Nat.le_refl _) e1
  have a3' : ∀ i j, i < N → j < N → L1[i * N + j]?.getD 0 = if i = j then 1 else L[i * N + j]?.getD 0 := fun i j hi hj => by
    rw [a3 i j hi hj]
    by_cases e : i = j
    · rw [if_pos ⟨e, hi⟩, if_pos e]
    · rw [if_neg (fun h => e h.1), if_neg e]
  have hd1 : ∀ i, i < N → mx N L1 i i = some 1 := fun i hi => by unfold mx; rw [a3' i i hi hi, if_pos rfl]; rfl
  have hE : ∀ i j v, i < N → j < N → mx N L1 i j = some v → -288230376151711744 ≤ v / 2 ∧ v / 2 ≤ 288230376151711744 := fun i j v hi hj hv => by
    obtain ⟨e1, e2⟩ := mx_some hv
    rw [a3' i j hi hj] at e1
    split at e1
    · subst e1; decide
    · have := chk_lim h0 (i * N + j) (by rw [hL]; exact place_lt hi hj)
      rw [e1] at this
      exact this.resolve_left e2
  have ht1 := (fits_diag (t := t) hdL a3').2 ht
  have hst : ∀ n, n ≤ N → ∃ Cn, (List.range n).foldlM (stage N) L1 = some Cn := by
    intro n
    induction n with
    | zero => intro _; exact ⟨L1, rfl⟩
    | succ n ih =>
      intro hn
      obtain ⟨M, e⟩ := ih (by omega)
      obtain ⟨b1, b2⟩ := fold_inv hN4 a1 hd1 hE n M (by omega) e
      rw [List.range_succ, List.foldlM_append, e]
      have hlM := inv_lim b2 (by omega) hN4 hE
      have hMd : M[n * N + n]?.getD 0 = 1 := (mx_some (b2.diag n (by omega))).1
      have hthr : ∀ i j, i < N → j < N → mx N (thrL N n M) i j = thr n (mx N M) i j := fun i j hi hj => thrL_mx (by omega) b1 hMd (fun q hq => lim_mono (hlM q hq) (by omega)) hi hj
      have htM := b2.fits (by omega) ht1
      have hok : diagOk N (thrL N n M) = true := by
        unfold diagOk
        rw [List.all_eq_true]
        intro i hi
        have hi := List.mem_range.1 hi
        refine decide_eq_true ?_
        have h1 : satO 0 (mx N (thrL N n M) i i) := by
          rw [hthr i i hi hi]
          rcases thr_cases n (mx N M) i i with h | ⟨h, _⟩
          · rw [h, b2.diag i hi]; exact satO_zero.2 (by omega)
          · rw [h]
            have := satO_add (htM i n hi (by omega)) (htM n i (by omega) hi)
            rwa [show t i - t n + (t n - t i) = 0 by grind] at this
        unfold mx ob at h1
        split at h1
        · rename_i h; rw [h]; decide
        · exact satO_zero.1 h1
      refine ⟨thrL N n M, ?_⟩
      simp only [List.foldlM_cons, List.foldlM_nil, Option.bind_eq_bind, Option.bind_some, stage]
      rw [if_pos hok]; rfl
  obtain ⟨C, e2⟩ := hst N (Nat.le_refl _)
  refine ⟨C, ?_⟩
  unfold closeL
  rw [e1, Option.bind_some, e2]
end Go.Proofs.YtodpgcdandechaaGreat.Dbm

/-
  What keeping a matrix says, bound by bound and by values. No program is in sight.
-/
namespace Go.Proofs.YtodpgcdandechaaGreat
set_option linter.unusedVariables false
namespace Dbm
theorem keptK {N : Nat} {L : List Int} {T : List Rt} : keptL N L T = true ↔ ∀ i j, i < N → j < N → (Fr.keeps ((moments T)[i]?.getD ⟨0, 1⟩) ((moments T)[j]?.getD ⟨0, 1⟩) (L[i * N + j]?.getD 0)).1 = true := by
  unfold keptL
  rw [List.all_eq_true]
  constructor
  · intro h i j hi hj
    have := h (i * N + j) (List.mem_range.2 (place_lt hi hj))
    unfold pairOk at this
    rwa [place_div hj, place_mod hj] at this
  · intro h q hq
    have hq := List.mem_range.1 hq
    unfold pairOk
    have := h (q / N) (q % N) (div_lt hq) (mod_lt hq)
    rwa [div_mod] at this
/-- the times' values, that of clock 0 first. -/
def tvs (T : List Rt) (i : Nat) : Rat := Fr.v ((moments T)[i]?.getD ⟨0, 1⟩)
theorem may_limK {b : Int} (h : lim 2305843009213693951 b) : Bd.may b = true := by
  unfold Bd.may
  rcases h with h | h
  · rw [h]; rfl
  · have : Num.okB (b / 2) = true := Num.okB_iff.2 (by omega)
    rw [this]; simp
end Dbm
end Go.Proofs.YtodpgcdandechaaGreat

/-
  The plain law of RegionZones: a point is in a region's zone just if its number is the region's (by whole parts and what is left over).
-/
namespace Go.Proofs.YtodpgcdandechaaGreat
set_option linter.unusedVariables false
set_option linter.unusedSimpArgs false
open Go.RowKit Go.Proofs.YtodpgcdandechaaGreat.Eng Enc
namespace Rg
theorem of_one {f : Int} (h : -2305843009213693952 ≤ f ∧ f ≤ 2305843009213693952) : Fr.of f 1 = (⟨f, 1⟩, 0) := by
  unfold Fr.of Fr.low
  have hg : Int.gcd f 1 = 1 := by simp
  have hok : Fr.okB f 1 = true := by
    unfold Fr.okB
    have : Fr.inB f 1 = true := Fr.in_iff.2 (by simp; omega)
    rw [this]; simp
  rw [if_neg (by omega), hg]
  simp only [Int.cast_ofNat_Int, Int.ediv_one]
  rw [if_pos hok]
/-- a time's fraction part, in lowest terms as the time is. -/
theorem part_eq {a : Rt} (ha : a.ok = true) : part a = ⟨a.num % a.den, a.den⟩ := by
  have oa := Fr.ok_bd ha
  have hf : (Fr.floor a).1 = a.num / a.den := by unfold Fr.floor; rw [if_pos ha]
  unfold part
  rw [hf, of_one (by omega)]
  have hok : (⟨-(a.num / a.den), 1⟩ : Rt).ok = true := by
    show Fr.okB _ _ = true
    unfold Fr.okB
    have : Fr.inB (-(a.num / a.den)) 1 = true := Fr.in_iff.2 (by simp; omega)
    rw [this]; simp
  have hg0 : Nat.gcd a.num.natAbs a.den.natAbs = 1 := by
    have h := ha
    simp only [Rt.ok, Fr.okB, Bool.and_eq_true, decide_eq_true_eq] at h
    exact h.2
  have hg : Int.gcd (a.num % a.den) a.den = 1 := by
    have h1 : Int.gcd a.num a.den = 1 := hg0
    have h2 : Int.gcd (a.num % a.den + a.num / a.den * a.den) a.den = Int.gcd (a.num % a.den) a.den := Int.gcd_add_mul_right_left ..
    have h3 : a.num % a.den + a.num / a.den * a.den = a.num := by
      have := Int.mul_ediv_add_emod a.num a.den
      rw [Int.mul_comm] at this; omega
    rw [h3] at h2
    rw [← h2]; exact h1
  have htn : Fr.tn a ⟨-(a.num / a.den), 1⟩ = a.num % a.den := by
    unfold Fr.tn
    have := Int.mul_ediv_add_emod a.num a.den
    simp only [Int.mul_one, Int.neg_mul]
    rw [Int.mul_comm (a.num / a.den) a.den]; omega
  have hdn : Fr.dn a ⟨-(a.num / a.den), 1⟩ 1 = a.den := by unfold Fr.dn; simp
  unfold Fr.add
  rw [if_pos ⟨ha, hok⟩]
  unfold Fr.sum
  rw [htn, hdn, hg]
  simp only [Int.cast_ofNat_Int, Int.ediv_one]
  rw [if_pos]
  refine ⟨?_, ?_⟩
  · unfold Fr.okB
    have : Fr.inB (a.num % a.den) a.den = true := Fr.in_iff.2 (by rw [Int.ediv_eq_zero_of_lt oa.2.2.2.2.1 oa.2.2.2.2.2]; omega)
    rw [this]
    have hg' : Nat.gcd (a.num % a.den).natAbs a.den.natAbs = 1 := hg
    simp only [hg']
    simp; omega
  · unfold Fr.inI; simp; omega
theorem part_ok {a : Rt} (ha : a.ok = true) : (part a).ok = true := by
  have oa := Fr.ok_bd ha
  rw [part_eq ha]
  have hg0 : Nat.gcd a.num.natAbs a.den.natAbs = 1 := by
    have h := ha
    simp only [Rt.ok, Fr.okB, Bool.and_eq_true, decide_eq_true_eq] at h
    exact h.2
  have hg : Int.gcd (a.num % a.den) a.den = 1 := by
    have h1 : Int.gcd a.num a.den = 1 := hg0
    have h2 : Int.gcd (a.num % a.den + a.num / a.den * a.den) a.den = Int.gcd (a.num % a.den) a.den := Int.gcd_add_mul_right_left ..
    have h3 : a.num % a.den + a.num / a.den * a.den = a.num := by
      have := Int.mul_ediv_add_emod a.num a.den
      rw [Int.mul_comm] at this; omega
    rw [h3] at h2
    rw [← h2]; exact h1
  show Fr.okB _ _ = true
  unfold Fr.okB
  have : Fr.inB (a.num % a.den) a.den = true := Fr.in_iff.2 (by rw [Int.ediv_eq_zero_of_lt oa.2.2.2.2.1 oa.2.2.2.2.2]; omega)
  rw [this]
  have hg' : Nat.gcd (a.num % a.den).natAbs a.den.natAbs = 1 := hg
  simp only [hg']
  simp; omega
/-- what is left over of two times, over the same. -/
def rX (t u : Rt) : Int := t.num % t.den * u.den
theorem place_eq {t u : Rt} (ht : t.ok = true) (hu : u.ok = true) : place t = 2 * (t.num / t.den) + (if rX t u = 0 then 0 else 1) := by
  have ot := Fr.ok_bd ht
  have ou := Fr.ok_bd hu
  have hf : (Fr.floor t).1 = t.num / t.den := by unfold Fr.floor; rw [if_pos ht]
  unfold place
  rw [part_eq ht, hf]
  simp only
  have : t.num % t.den = 0 ↔ rX t u = 0 := by
    unfold rX
    rw [Int.mul_eq_zero]
    constructor
    · exact .inl
    · rintro (h | h)
      · exact h
      · omega
  by_cases h : t.num % t.den = 0
  · rw [if_pos h, if_pos (this.1 h)]; omega
  · rw [if_neg h, if_neg (fun hh => h (this.2 hh))]
theorem cmp_part {t u : Rt} (ht : t.ok = true) (hu : u.ok = true) : (Fr.cmp (part t) (part u)).1 = cmpI (rX t u) (rX u t) := by
  unfold Fr.cmp
  rw [if_pos ⟨part_ok ht, part_ok hu⟩]
  unfold Fr.cmpR
  rw [part_eq ht, part_eq hu]
  rfl
theorem rX_bd {t u : Rt} (ht : t.ok = true) (hu : u.ok = true) : 0 ≤ rX t u := by
  have ot := Fr.ok_bd ht
  have ou := Fr.ok_bd hu
  exact Int.mul_nonneg ot.2.2.2.2.1 (by omega)
theorem cmp_iff {t u : Rt} (ht : t.ok = true) (hu : u.ok = true) : (Fr.cmp t u).1 < 0 ↔ t.num / t.den < u.num / u.den ∨ (t.num / t.den = u.num / u.den ∧ rX t u < rX u t) := by
  have h := (Fr.sign_eq ht hu 0).1
  have e : (Fr.cmp t u).1 < 0 ↔ t.num * u.den < u.num * t.den := by
    unfold Fr.cmp; rw [if_pos ⟨ht, hu⟩]; exact Fr.cmpI_lt
  rw [e]
  rw [Int.zero_mul] at h
  have : t.num * u.den < u.num * t.den ↔ t.num * u.den - u.num * t.den < 0 := by omega
  rw [this, ← h]
  unfold Fr.sign Fr.rest
  show (if cmpI _ 0 ≠ 0 then cmpI _ 0 else cmpI (rX t u) (rX u t)) < 0 ↔ _
  generalize rX t u = x
  generalize rX u t = y
  generalize t.num / t.den = a
  generalize u.num / u.den = b
  unfold cmpI
  split <;> split <;> omega
/-- what keeping a bound says. -/
theorem keeps_iff {t u : Rt} (ht : t.ok = true) (hu : u.ok = true) {b : Int} (hb : Bd.may b = true) (hn : b ≠ 9223372036854775807) :
    (Fr.keeps t u b).1 = true ↔ (t.num / t.den - u.num / u.den < b / 2 ∨ (t.num / t.den - u.num / u.den = b / 2 ∧ (rX t u < rX u t ∨ (rX t u = rX u t ∧ b % 2 = 1)))) := by
  unfold Fr.keeps
  rw [ht, hu, hb]
  simp only [Bool.and_self, if_true]
  rw [if_neg hn]
  simp only
  unfold Fr.kept Fr.sign Fr.rest
  show (decide ((if cmpI _ _ ≠ 0 then cmpI _ _ else cmpI (rX t u) (rX u t)) < 0) || (decide ((if cmpI _ _ ≠ 0 then cmpI _ _ else cmpI (rX t u) (rX u t)) = 0) && !Bd.st b)) = true ↔ _
  generalize rX t u = x
  generalize rX u t = y
  generalize t.num / t.den - u.num / u.den = a
  have hst : (Bd.st b = true) ↔ b % 2 = 0 := by unfold Bd.st; simp
  simp only [Bool.or_eq_true, Bool.and_eq_true, decide_eq_true_eq, Bool.not_eq_true', Bool.eq_false_iff, ne_eq, hst]
  have h1 : (a < b / 2 ∧ cmpI a (b / 2) = -1) ∨ (a = b / 2 ∧ cmpI a (b / 2) = 0) ∨ (b / 2 < a ∧ cmpI a (b / 2) = 1) := by unfold cmpI; split <;> (try split) <;> omega
  have h2 : (x < y ∧ cmpI x y = -1) ∨ (x = y ∧ cmpI x y = 0) ∨ (y < x ∧ cmpI x y = 1) := by unfold cmpI; split <;> (try split) <;> omega
  generalize cmpI a (b / 2) = p at *
  generalize cmpI x y = q at *
  rcases h1 with ⟨h, rfl⟩ | ⟨h, rfl⟩ | ⟨h, rfl⟩
  · rw [if_pos (by decide)]; omega
  · rw [if_neg (by decide)]; omega
  · rw [if_pos (by decide)]; omega
/-- what a region's places and its order are. -/
def may3 (T U r : Int) : Bool := decide (0 ≤ T) && decide (T ≤ U) && decide (U ≤ 32) && decide (0 ≤ r) && decide (r ≤ 2) && (decide (T < U) || (decide (T % 2 = 1) && decide (r = 0))) && (decide (T % 2 = 1 ∧ U % 2 = 1) || decide (r = 1))
end Rg
end Go.Proofs.YtodpgcdandechaaGreat

/-
  A region's zone in closed form: what is gone through, case by case, in the texts Zones6 and on.
-/
namespace Go.Proofs.YtodpgcdandechaaGreat
open Go.RowKit Go.Proofs.YtodpgcdandechaaGreat.Eng Enc
namespace Rg
def pt3 (T U r : Int) : Pt := ⟨time T (parts r).1 (parts r).2.2, time U (parts r).2.1 (parts r).2.2⟩
def good3 (T U r : Int) : Bool := decide ((Fr.cmp (pt3 T U r).t (pt3 T U r).u).1 < 0) && decide (place (pt3 T U r).t = T) && decide (place (pt3 T U r).u = U) && decide (order (pt3 T U r) = r)
end Rg
end Go.Proofs.YtodpgcdandechaaGreat

/-
  A region's zone in closed form: the cases of some places.
-/
namespace Go.Proofs.YtodpgcdandechaaGreat
set_option maxRecDepth 100000
namespace Rg
end Rg
end Go.Proofs.YtodpgcdandechaaGreat

/-
  A region's zone in closed form: the cases of some places.
-/
namespace Go.Proofs.YtodpgcdandechaaGreat
set_option maxRecDepth 100000
namespace Rg
end Rg
end Go.Proofs.YtodpgcdandechaaGreat

/-
  A region's zone in closed form: the cases of some places.
-/
namespace Go.Proofs.YtodpgcdandechaaGreat
set_option maxRecDepth 100000
namespace Rg
end Rg
end Go.Proofs.YtodpgcdandechaaGreat

/-
  A region's zone in closed form: the cases of some places.
-/
namespace Go.Proofs.YtodpgcdandechaaGreat
set_option maxRecDepth 100000
namespace Rg
end Rg
end Go.Proofs.YtodpgcdandechaaGreat

/-
  A region's zone in closed form: the cases of some places.
-/
namespace Go.Proofs.YtodpgcdandechaaGreat
set_option maxRecDepth 100000
namespace Rg
end Rg
end Go.Proofs.YtodpgcdandechaaGreat

/-
  A region's zone in closed form: the cases of some places.
-/
namespace Go.Proofs.YtodpgcdandechaaGreat
set_option maxRecDepth 100000
namespace Rg
end Rg
end Go.Proofs.YtodpgcdandechaaGreat

/-
  A region's zone in closed form: the cases of some places.
-/
namespace Go.Proofs.YtodpgcdandechaaGreat
set_option maxRecDepth 100000
namespace Rg
end Rg
end Go.Proofs.YtodpgcdandechaaGreat

/-
  A region's zone in closed form: the cases of some places.
-/
namespace Go.Proofs.YtodpgcdandechaaGreat
set_option maxRecDepth 100000
namespace Rg
end Rg
end Go.Proofs.YtodpgcdandechaaGreat

/-
  A region's zone in closed form: the cases of some places.
-/
namespace Go.Proofs.YtodpgcdandechaaGreat
set_option maxRecDepth 100000
namespace Rg
end Rg
end Go.Proofs.YtodpgcdandechaaGreat

/-
  A region's zone in closed form: the cases of some places.
-/
namespace Go.Proofs.YtodpgcdandechaaGreat
set_option maxRecDepth 100000
namespace Rg
end Rg
end Go.Proofs.YtodpgcdandechaaGreat

/-
  A region's zone in closed form: the cases of some places.
-/
namespace Go.Proofs.YtodpgcdandechaaGreat
set_option maxRecDepth 100000
namespace Rg
end Rg
end Go.Proofs.YtodpgcdandechaaGreat

/-
  A region's zone in closed form, of all places.
-/
namespace Go.Proofs.YtodpgcdandechaaGreat
set_option linter.unusedVariables false
namespace Rg
end Rg
end Go.Proofs.YtodpgcdandechaaGreat

/-
  The plain law of RegionZones, all of it.
-/
namespace Go.Proofs.YtodpgcdandechaaGreat
set_option linter.unusedVariables false
open Go.RowKit Go.Proofs.YtodpgcdandechaaGreat.Eng Enc
namespace Rg
end Rg
end Go.Proofs.YtodpgcdandechaaGreat

/-
  The plain law of RegionPoints: whether a pair is in a zone hangs on the pair's region alone.
-/
namespace Go.Proofs.YtodpgcdandechaaGreat
set_option linter.unusedVariables false
set_option linter.unusedSimpArgs false
set_option maxRecDepth 100000
open Go.RowKit Go.Proofs.YtodpgcdandechaaGreat.Eng Enc
namespace Rg
/-- a bound is kept by two pairs alike, whose whole parts and what is left over stand alike. -/
theorem keeps_same {t u t' u' : Rt} (ht : t.ok = true) (hu : u.ok = true) (ht' : t'.ok = true) (hu' : u'.ok = true) (hd : t.num / t.den - u.num / u.den = t'.num / t'.den - u'.num / u'.den) (hc : cmpI (rX t u) (rX u t) = cmpI (rX t' u') (rX u' t')) {b : Int} (hb : Bd.may b = true) :
    (Fr.keeps t u b).1 = (Fr.keeps t' u' b).1 := by
  by_cases hn : b = 9223372036854775807
  · unfold Fr.keeps
    rw [ht, hu, hb, ht', hu']
    simp [hn]
  rw [Bool.eq_iff_iff, keeps_iff ht hu hb hn, keeps_iff ht' hu' hb hn, hd]
  generalize rX t u = x at *
  generalize rX u t = y at *
  generalize rX t' u' = x' at *
  generalize rX u' t' = y' at *
  have h1 : (x < y ∧ cmpI x y = -1) ∨ (x = y ∧ cmpI x y = 0) ∨ (y < x ∧ cmpI x y = 1) := by unfold cmpI; split <;> (try split) <;> omega
  have h2 : (x' < y' ∧ cmpI x' y' = -1) ∨ (x' = y' ∧ cmpI x' y' = 0) ∨ (y' < x' ∧ cmpI x' y' = 1) := by unfold cmpI; split <;> (try split) <;> omega
  generalize cmpI x y = p at *
  generalize cmpI x' y' = q at *
  omega
/-- the whole part and what is left over, by the place. -/
theorem place_two {t t' : Rt} (ht : t.ok = true) (ht' : t'.ok = true) (h : place t = place t') : t.num / t.den = t'.num / t'.den ∧ (t.num % t.den = 0 ↔ t'.num % t'.den = 0) := by
  have oz : (⟨0, 1⟩ : Rt).ok = true := by decide
  rw [place_eq ht oz, place_eq ht' oz] at h
  have e1 : rX t ⟨0, 1⟩ = t.num % t.den := by simp [rX]
  have e2 : rX t' ⟨0, 1⟩ = t'.num % t'.den := by simp [rX]
  rw [e1, e2] at h
  split at h <;> split at h <;> omega
theorem rX_zero {t u : Rt} (hu : u.ok = true) : rX t u = 0 ↔ t.num % t.den = 0 := by
  have ou := Fr.ok_bd hu
  unfold rX
  rw [Int.mul_eq_zero]
  constructor
  · rintro (h | h)
    · exact h
    · omega
  · exact .inl
/-- what a pair keeps hangs on its region alone. -/
theorem kept_same {p q : Pt} (h1 : p.t.ok = true) (h2 : p.u.ok = true) (h3 : q.t.ok = true) (h4 : q.u.ok = true) (hT : place p.t = place q.t) (hU : place p.u = place q.u) (hr : order p = order q) {L : List Int} (hL : ∀ x, x < 9 → Bd.may (L[x]?.getD 0) = true) :
    Dbm.keptL 3 L [p.t, p.u] = Dbm.keptL 3 L [q.t, q.u] := by
  have oz : (⟨0, 1⟩ : Rt).ok = true := by decide
  obtain ⟨a1, a2⟩ := place_two h1 h3 hT
  obtain ⟨b1, b2⟩ := place_two h2 h4 hU
  have z1 : ∀ t : Rt, rX t ⟨0, 1⟩ = t.num % t.den := fun t => by simp [rX]
  have z2 : ∀ t : Rt, rX ⟨0, 1⟩ t = 0 := fun t => by simp [rX]
  have m1 := (Fr.ok_bd h1).2.2.2.2.1
  have m2 := (Fr.ok_bd h2).2.2.2.2.1
  have m3 := (Fr.ok_bd h3).2.2.2.2.1
  have m4 := (Fr.ok_bd h4).2.2.2.2.1
  have x1 := rX_bd h1 h2
  have x2 := rX_bd h2 h1
  have x3 := rX_bd h3 h4
  have x4 := rX_bd h4 h3
  have c0 : ∀ {x y : Int}, 0 ≤ x → 0 ≤ y → (x = 0 ↔ y = 0) → cmpI x 0 = cmpI y 0 ∧ cmpI 0 x = cmpI 0 y := fun {x y} hx hy h => by
    unfold cmpI
    constructor <;> split <;> split <;> (try split) <;> (try split) <;> omega
  -- the two times, against each other
  have ctu : cmpI (rX p.t p.u) (rX p.u p.t) = cmpI (rX q.t q.u) (rX q.u q.t) := by
    have e1 := rX_zero (t := p.t) h2
    have e2 := rX_zero (t := p.u) h1
    have e3 := rX_zero (t := q.t) h4
    have e4 := rX_zero (t := q.u) h3
    by_cases ho : place p.t % 2 = 1 ∧ place p.u % 2 = 1
    · unfold order at hr
      rw [if_pos ho, if_pos (by rw [← hT, ← hU]; exact ho), cmp_part h1 h2, cmp_part h3 h4] at hr
      omega
    · have hs : p.t.num % p.t.den = 0 ∨ p.u.num % p.u.den = 0 := by
        rw [place_eq h1 oz, place_eq h2 oz, z1, z1] at ho
        by_cases k1 : p.t.num % p.t.den = 0
        · exact .inl k1
        · by_cases k2 : p.u.num % p.u.den = 0
          · exact .inr k2
          · rw [if_neg k1, if_neg k2] at ho; omega
      rcases hs with hs | hs
      · rw [e1.2 hs, e3.2 (a2.1 hs)]
        exact (c0 x2 x4 (e2.trans (b2.trans e4.symm))).2
      · rw [e2.2 hs, e4.2 (b2.1 hs)]
        exact (c0 x1 x3 (e1.trans (a2.trans e3.symm))).1
  have neg : ∀ x y : Int, cmpI y x = - cmpI x y := fun x y => by
    unfold cmpI
    by_cases a : x < y
    · rw [if_neg (by omega : ¬ y < x), if_pos a, if_pos a]; rfl
    · by_cases b : y < x
      · rw [if_pos b, if_neg a, if_pos b]
      · rw [if_neg b, if_neg a, if_neg a, if_neg b]; rfl
  have cflip : ∀ {x y x' y' : Int}, cmpI x y = cmpI x' y' → cmpI y x = cmpI y' x' := fun {x y x' y'} h => by rw [neg x y, neg x' y', h]
  have self : ∀ x : Int, cmpI x x = 0 := fun x => by unfold cmpI; rw [if_neg (by omega), if_neg (by omega)]
  rw [Bool.eq_iff_iff, Dbm.keptK, Dbm.keptK]
  have key : ∀ i j, i < 3 → j < 3 → (Fr.keeps ((Dbm.moments [p.t, p.u])[i]?.getD ⟨0, 1⟩) ((Dbm.moments [p.t, p.u])[j]?.getD ⟨0, 1⟩) (L[i * 3 + j]?.getD 0)).1 = (Fr.keeps ((Dbm.moments [q.t, q.u])[i]?.getD ⟨0, 1⟩) ((Dbm.moments [q.t, q.u])[j]?.getD ⟨0, 1⟩) (L[i * 3 + j]?.getD 0)).1 := fun i j hi hj => by
    have hb := hL (i * 3 + j) (by omega)
    rcases (by omega : i = 0 ∨ i = 1 ∨ i = 2) with rfl | rfl | rfl <;> rcases (by omega : j = 0 ∨ j = 1 ∨ j = 2) with rfl | rfl | rfl
    · rfl
    · exact keeps_same oz h1 oz h3 (by simp; omega) (by rw [z1, z2, z1, z2]; exact (c0 m1 m3 a2).2) hb
    · exact keeps_same oz h2 oz h4 (by simp; omega) (by rw [z1, z2, z1, z2]; exact (c0 m2 m4 b2).2) hb
    · exact keeps_same h1 oz h3 oz (by simp; omega) (by rw [z1, z2, z1, z2]; exact (c0 m1 m3 a2).1) hb
    · exact keeps_same h1 h1 h3 h3 (by omega) (by rw [self, self]) hb
    · exact keeps_same h1 h2 h3 h4 (by omega) ctu hb
    · exact keeps_same h2 oz h4 oz (by simp; omega) (by rw [z1, z2, z1, z2]; exact (c0 m2 m4 b2).1) hb
    · exact keeps_same h2 h1 h4 h3 (by omega) (cflip ctu) hb
    · exact keeps_same h2 h2 h4 h4 (by omega) (by rw [self, self]) hb
  constructor
  · intro h i j hi hj; rw [← key i j hi hj]; exact h i j hi hj
  · intro h i j hi hj; rw [key i j hi hj]; exact h i j hi hj
def mg (T : Int) : Bool := (List.range 33).all fun U : Nat => (List.range 3).all fun r : Nat => !(may3 T U r) || good3 T U r
theorem mg_0 : ((List.range 17).all fun T : Nat => mg T) = true := by decide +kernel
theorem mg_1 : ((List.range 16).all fun T : Nat => mg ((T : Int) + 17)) = true := by decide +kernel
theorem may_good {T U r : Int} (hT : 0 ≤ T ∧ T < 33) (h : may3 T U r = true) : good3 T U r = true := by
  have h0 := h
  simp only [may3, Bool.and_eq_true, Bool.or_eq_true, decide_eq_true_eq] at h0
  have hm : mg T = true := by
    by_cases h17 : T < 17
    · have := List.all_eq_true.1 mg_0 T.toNat (List.mem_range.2 (by omega))
      rwa [Int.toNat_of_nonneg hT.1] at this
    · have := List.all_eq_true.1 mg_1 (T - 17).toNat (List.mem_range.2 (by omega))
      rwa [show ((T - 17).toNat : Int) + 17 = T by omega] at this
  have h1 := List.all_eq_true.1 hm U.toNat (List.mem_range.2 (by omega))
  have h2 := List.all_eq_true.1 h1 r.toNat (List.mem_range.2 (by omega))
  rw [Int.toNat_of_nonneg (by omega), Int.toNat_of_nonneg (by omega), h] at h2
  simpa using h2
/-- a pair's region has a point, in the same region. -/
theorem rep_of {p : Pt} {long : Int} (hl : 1 ≤ long ∧ long ≤ 16) (hp : 0 ≤ number p long) : may3 (place p.t) (place p.u) (order p) = true ∧ (point (number p long) long).2 = true ∧ 0 ≤ number p long ∧ number p long < (many long).1 ∧
    (pt (number p long) long).t.ok = true ∧ (pt (number p long) long).u.ok = true ∧ place (pt (number p long) long).t = place p.t ∧ place (pt (number p long) long).u = place p.u ∧ order (pt (number p long) long) = order p := by
  have hs : 3 ≤ sides long ∧ sides long ≤ 33 := by unfold sides; omega
  have hnum := hp
  obtain ⟨k1, k2, k3, k4⟩ := number_back (p := p) rfl hp hl
  obtain ⟨ht, hu, _⟩ := cmp_lt k1
  have hk1 := (cmp_iff ht hu).1 k1
  have hcd : ¬ (0 ≤ (Fr.cmp p.t p.u).1 ∨ place p.t < 0 ∨ sides long ≤ place p.u) := fun h => by
    unfold number at hp; rw [if_pos h] at hp; omega
  have hmy : may3 (place p.t) (place p.u) (order p) = true := by
    have ho : 0 ≤ order p ∧ order p ≤ 2 := order_three p
    have x1 := rX_bd ht hu
    have x2 := rX_bd hu ht
    have e1 := place_eq ht hu
    have e2 := place_eq hu ht
    have hor : ((place p.t % 2 = 1 ∧ place p.u % 2 = 1) ∧ order p = 1 + cmpI (rX p.t p.u) (rX p.u p.t)) ∨ (¬ (place p.t % 2 = 1 ∧ place p.u % 2 = 1) ∧ order p = 1) := by
      unfold order
      by_cases h : place p.t % 2 = 1 ∧ place p.u % 2 = 1
      · rw [if_pos h, cmp_part ht hu]; exact .inl ⟨h, rfl⟩
      · rw [if_neg h]; exact .inr ⟨h, rfl⟩
    have hcc : (rX p.t p.u < rX p.u p.t ∧ cmpI (rX p.t p.u) (rX p.u p.t) = -1) ∨ (rX p.t p.u = rX p.u p.t ∧ cmpI (rX p.t p.u) (rX p.u p.t) = 0) ∨ (rX p.u p.t < rX p.t p.u ∧ cmpI (rX p.t p.u) (rX p.u p.t) = 1) := by unfold cmpI; split <;> (try split) <;> omega
    simp only [may3, Bool.and_eq_true, Bool.or_eq_true, decide_eq_true_eq]
    generalize order p = o at *
    generalize cmpI (rX p.t p.u) (rX p.u p.t) = c at *
    generalize rX p.t p.u = x at *
    generalize rX p.u p.t = y at *
    generalize p.t.num / p.t.den = A at *
    generalize p.u.num / p.u.den = B at *
    generalize place p.t = T at *
    generalize place p.u = U at *
    split at e1 <;> split at e2 <;> omega
  have hT : 0 ≤ place p.t ∧ place p.t < 33 := by
    simp only [may3, Bool.and_eq_true, Bool.or_eq_true, decide_eq_true_eq] at hmy
    omega
  have hg := may_good hT hmy
  have hpt : pt (number p long) long = pt3 (place p.t) (place p.u) (order p) := by
    unfold pt pt3
    rw [← k2, ← k3, ← k4]
  unfold good3 at hg
  simp only [Bool.and_eq_true, decide_eq_true_eq] at hg
  obtain ⟨⟨⟨g1, g2⟩, g3⟩, g4⟩ := hg
  rw [← hpt] at g1 g2 g3 g4
  obtain ⟨o1, o2, _⟩ := cmp_lt g1
  have hval : number p long = 3 * (place p.t * sides long + place p.u) + order p := by
    conv => lhs; unfold number
    rw [if_neg hcd]
  have hsame : number (pt (number p long) long) long = number p long := by
    have hun : ∀ q : Pt, (Fr.cmp q.t q.u).1 < 0 → place q.t = place p.t → place q.u = place p.u → order q = order p → number q long = 3 * (place p.t * sides long + place p.u) + order p := fun q q1 q2 q3 q4 => by
      unfold number
      rw [q2, q3, q4, if_neg (by omega)]
    rw [hun _ g1 g2 g3 g4, hval]
  have hmn : number p long < (many long).1 := by
    have e : number p long = 3 * (place p.t * sides long + place p.u) + order p := by
      conv => lhs; unfold number
      rw [if_neg hcd]
    have hm : (many long).1 = 3 * sides long * sides long := by unfold many; rw [if_pos (fits_iff.2 hl)]
    have ho : 0 ≤ order p ∧ order p ≤ 2 := order_three p
    have h1 : place p.t < sides long := by
      simp only [may3, Bool.and_eq_true, Bool.or_eq_true, decide_eq_true_eq] at hmy
      omega
    have h2 : place p.t * sides long ≤ (sides long - 1) * sides long := Int.mul_le_mul_of_nonneg_right (by omega) (by omega)
    rw [Int.sub_mul, Int.one_mul] at h2
    rw [e, hm, Int.mul_assoc]
    omega
  exact ⟨hmy, by unfold point; simpa using hsame, hp, hmn, o1, o2, g2, g3, g4⟩
end Rg
end Go.Proofs.YtodpgcdandechaaGreat

/-
  The contract of bound.Not, by the engine.
-/
namespace Go.Proofs.YtodpgcdandechaaGreat
set_option linter.unusedVariables false
set_option linter.unusedSimpArgs false
set_option maxRecDepth 100000
open Go.RowKit Go.Proofs.YtodpgcdandechaaGreat.Eng Enc

end Go.Proofs.YtodpgcdandechaaGreat

/-
  The contracts of zone.Matrix, minus.other, minus.with, by the engine.
-/
namespace Go.Proofs.YtodpgcdandechaaGreat
set_option linter.unusedVariables false
set_option linter.unusedSimpArgs false
set_option maxRecDepth 100000
open Go.RowKit Go.Proofs.YtodpgcdandechaaGreat.Eng Enc

namespace Zo
def mat (z : Zn) : Int × List Int × Int := if Dbm.chk 3 (matL z) = 0 then (3, matL z, 0) else (0, [], 8)
def get (z : Zn) (i : Nat) : Int := if i = 0 then z.a else if i = 1 then z.b else if i = 2 then z.c else if i = 3 then z.d else if i = 4 then z.e else z.f
def set (z : Zn) (i : Nat) (x : Int) : Zn :=
  if i = 0 then { z with a := x } else if i = 1 then { z with b := x } else if i = 2 then { z with c := x } else if i = 3 then { z with d := x } else if i = 4 then { z with e := x } else { z with f := x }
end Zo
namespace Mi
/-- a zone with a bound more, as it is; closed. -/
def cut (z : Zn) (i : Nat) (b : Int) : Zn := Zo.set z i (min (Zo.get z i) b)
def wth (z : Zn) (i : Nat) (b : Int) : Zn × Int := if Dbm.chk 3 (Zo.matL (cut z i b)) = 0 then Zo.of 3 (Zo.matL (cut z i b)) else (Zo.nought, 8)
def other (i : Nat) : Nat := if i % 2 = 0 then i + 1 else i - 1
end Mi

end Go.Proofs.YtodpgcdandechaaGreat

/-
  Ranges over functions whose iterator writes a box of its own (a variable that it holds), in the run; rounds may lay blocks where they take their variables.
-/
namespace Go.Proofs.YtodpgcdandechaaGreat.Eng
set_option linter.unusedVariables false
set_option linter.unusedSimpArgs false
open Go Go.RowKit Go.Shelf Go.Proofs

/-- the two blocks of a range's book-keeping: the loop's record, the rounds' deferred calls. -/
def Kept2 (B : Nat) (o : Loop) (W : World) : Prop := W.heap[B + 1]? = some (.loop o) ∧ W.heap[B]? = some (.deferred (some []))
theorem Kept2.from {B : Nat} {o : Loop} {A C : World} (h : Kept2 B o A) (hk : KeepsFrom B A C) : Kept2 B o C := ⟨hk.same _ _ (by omega) h.1 rfl, hk.same _ _ (Nat.le_refl _) h.2 rfl⟩
theorem Kept2.put {B : Nat} {o : Loop} {A : World} (h : Kept2 B o A) (o' : Loop) : Kept2 B o' (A.putObj (B + 1) (.loop o')) :=
  ⟨World.putObj_heap_same (Array.getElem?_eq_some_iff.1 h.1).1, (World.putObj_heap_other (by omega)).trans h.2⟩

section
variable {cx : Cx} {w0 : Base}
end
end Go.Proofs.YtodpgcdandechaaGreat.Eng

/-
  The contract of minus.parts: an iterator that writes the zone that it holds; by the engine.
-/
namespace Go.Proofs.YtodpgcdandechaaGreat
set_option linter.unusedVariables false
set_option linter.unusedSimpArgs false
set_option maxRecDepth 100000
open Go.RowKit Go.Proofs.YtodpgcdandechaaGreat.Eng Enc

namespace Mi
/-- what is told, from a place on, of the parts of one zone that are not another one's. -/
def go (b : Zn) : List Nat → Zn → List (Zn × Int)
  | [], _ => []
  | i :: l, a =>
    if (Bd.not (Zo.get b i)).2 ≠ 0 then go b l a
    else (if (wth a (other i) (Bd.not (Zo.get b i)).1).2 = 6 then [] else [wth a (other i) (Bd.not (Zo.get b i)).1]) ++
      (if (wth a i (Zo.get b i)).2 = 6 then [] else (if (wth a i (Zo.get b i)).2 = 0 then [] else [wth a i (Zo.get b i)]) ++ go b l (wth a i (Zo.get b i)).1)
def parts (a b : Zn) : List (Zn × Int) := go b [0, 1, 2, 3, 4, 5] a
/-- a block that holds a zone. -/
def Holds (W : World) (B : Nat) (z : Zn) : Prop := W.heap[B]? = some (.cells #[.int .i64 z.a, .int .i64 z.b, .int .i64 z.c, .int .i64 z.d, .int .i64 z.e, .int .i64 z.f] 39 (0, 0))
theorem Holds.lt {W : World} {B : Nat} {z : Zn} (h : Holds W B z) : B < W.heap.size := (Array.getElem?_eq_some_iff.1 h).1
theorem Holds.cells {W : World} {B : Nat} {z : Zn} (h : Holds W B z) (j : Nat) (c : Value) (hj : [Value.int .i64 z.a, .int .i64 z.b, .int .i64 z.c, .int .i64 z.d, .int .i64 z.e, .int .i64 z.f][j]? = some c) : W.cell? ((⟨B, 0, none⟩ : Addr).add j) = some c := by
  rw [addr_addL, Nat.zero_add]
  have hj6 := (List.getElem?_eq_some_iff.1 hj).1
  simp only [List.length_cons, List.length_nil] at hj6
  have : j = 0 ∨ j = 1 ∨ j = 2 ∨ j = 3 ∨ j = 4 ∨ j = 5 := by omega
  have h' : W.heap[B]? = _ := h
  rcases this with rfl | rfl | rfl | rfl | rfl | rfl <;> (simp at hj; subst hj; simp [World.cell?, h'])
theorem Holds.below {W W' : World} {B : Nat} {z : Zn} (h : Holds W B z) (hB : Below W.heap.size W W') : Holds W' B z := (hB.block B h.lt).trans h
theorem Holds.same {W W' : World} {B : Nat} {z : Zn} (h : Holds W B z) (e : W'.heap[B]? = W.heap[B]?) : Holds W' B z := e.trans h
end Mi
theorem at_below {w0 : Base} {hp : List LB} {r L : List Nat} {w w1 : World} (h : At w0 hp r L w w1) (hL : ∀ b, b ∈ L → w.heap.size ≤ b) : Below w.heap.size w w1 :=
  ⟨h.below.os.trans h.base.os.symm, h.below.tape.trans h.base.tape.symm, h.below.output.trans h.base.output.symm, h.size, fun k hk => h.step k hk fun hm => by have := hL k hm; omega⟩
/-- where the iterator stands: what its two boxes hold, what the caller's rounds have come to. -/
structure Mi.Sit (n₀ Ba Bb : Nat) (W : World) (x b : Zn) (Jp : World → Prop) (X : World) : Prop where
  below : Below n₀ W X
  size : W.heap.size ≤ X.heap.size
  ha : Mi.Holds X Ba x
  hb : Mi.Holds X Bb b
  j : Jp X
section
variable {n₀ Ba Bb : Nat} {W X Y : World} {x b : Zn} {Jp : World → Prop}
open Mi
theorem Mi.Sit.go (h : Sit n₀ Ba Bb W x b Jp X) (hn : n₀ ≤ W.heap.size) (hJ : ∀ A B, Jp A → A.grownBy B (some Ba) → Jp B) (hB : Below X.heap.size X Y) : Sit n₀ Ba Bb W x b Jp Y :=
  ⟨h.below.trans (hB.mono (Nat.le_trans hn h.size)), Nat.le_trans h.size hB.size, h.ha.below hB, h.hb.below hB, hJ _ _ h.j (below_grown hB _)⟩
theorem Mi.Sit.at {w0 : Base} {hp : List LB} {r L : List Nat} (h : Sit n₀ Ba Bb W x b Jp X) (hn : n₀ ≤ W.heap.size) (hJ : ∀ A B, Jp A → A.grownBy B (some Ba) → Jp B) (h1 : At w0 hp r L X Y) (hL : ∀ b, b ∈ L → X.heap.size ≤ b) : Sit n₀ Ba Bb W x b Jp Y :=
  h.go hn hJ (at_below h1 hL)
end

end Go.Proofs.YtodpgcdandechaaGreat

/-
  The contract of minus.Minus, by the engine.
-/
namespace Go.Proofs.YtodpgcdandechaaGreat
set_option linter.unusedVariables false
set_option linter.unusedSimpArgs false
set_option maxRecDepth 100000
open Go.RowKit Go.Proofs.YtodpgcdandechaaGreat.Eng Enc

namespace Mi
def minus (a b : Zn) : List Zn × Int :=
  if Zo.chk a = 0 ∧ Zo.chk b = 0 then (match (parts a b).find? (fun x => decide (x.2 ≠ 0)) with | some x => ([], x.2) | none => ((parts a b).map (·.1), 0)) else ([], 8)
end Mi
end Go.Proofs.YtodpgcdandechaaGreat

/-
  The contract of minus.Left, by the engine.
-/
namespace Go.Proofs.YtodpgcdandechaaGreat
set_option linter.unusedVariables false
set_option linter.unusedSimpArgs false
set_option maxRecDepth 100000
open Go.RowKit Go.Proofs.YtodpgcdandechaaGreat.Eng Enc

namespace Mi
/-- those of some zones that are not one's, behind those that there are. -/
def inner (b : Zn) : List Zn → List Zn → List Zn × Int
  | [], next => (next, 0)
  | z :: t, next => if (minus z b).2 ≠ 0 then ([], (minus z b).2) else if 4096 < (next ++ (minus z b).1).length then ([], 4) else inner b t (next ++ (minus z b).1)
def outer : List Zn → List Zn → List Zn × Int
  | [], out => (out, 0)
  | b :: l, out => if (inner b out []).2 ≠ 0 then ([], (inner b out []).2) else outer l (inner b out []).1
def left (a : Zn) (l : List Zn) : List Zn × Int :=
  if Zo.chk a ≠ 0 then ([], 8) else if l.any (fun b => decide (Zo.chk b ≠ 0)) = true then ([], 8) else outer l [a]
theorem inner_cons (b z : Zn) (t next : List Zn) : inner b (z :: t) next = if (minus z b).2 ≠ 0 then ([], (minus z b).2) else if 4096 < (next ++ (minus z b).1).length then ([], 4) else inner b t (next ++ (minus z b).1) := rfl
theorem outer_cons (b : Zn) (l out : List Zn) : outer (b :: l) out = if (inner b out []).2 ≠ 0 then ([], (inner b out []).2) else outer l (inner b out []).1 := rfl
end Mi
section
variable {α : Type} [Enc α] {w0 : Base} {l : List World} {hp : List LB} {r r0 L : List Nat} {w w1 w2 : World} {e : TypeId} {base : Nat} {v sv : Value} {xs : List α}
end
end Go.Proofs.YtodpgcdandechaaGreat

