/-
  Merged texts of this law (each with its own head below).
-/
import Derived.Test.YtjbhpfmnfdebkaaGreatLRegionSets3
import Derived.Lib.SliceRun
namespace Go.Proofs.YtjbhpfmnfdebkaaGreat
set_option linter.unusedVariables false
set_option linter.unusedSimpArgs false
set_option maxRecDepth 100000
open Go.RowKit Go.Proofs.YtjbhpfmnfdebkaaGreat.Eng Enc

theorem indexR_any (l : List Rt) (p : Rt → Bool) (a : Option Addr) (cap : Nat) (fid : FuncId) (caps : Array Value) (B : Nat) (w : World) (hB : B ≤ w.heap.size) (hS : Sl B w (.slice a l.length cap) l)
    (T : Nat → World → Prop) (h0 : T 0 w) (hst : ∀ k W W', T k W → Below W.heap.size W W' → T k W') (en : Enters Tryz.prog fid)
    (hcall : ∀ k x W, l[k]? = some x → Below B w W → T k W → Calls Tryz.prog fid (val x :: caps.toList).toArray W fun e W' => e = .returned (.bool (p x)) ∧ Below B W W' ∧ T (k + 1) W') :
    Calls Tryz.prog 225 #[.slice a l.length cap, .func (.func fid) #[] caps] w fun e w' => ∃ v, e = .returned v ∧ Below B w w' ∧ v = .int .i64 (idxF p l) ∧ T (cntF p l) w' := by
  obtain ⟨a', cap', e', hcap, hmax, _⟩ := hS.form
  injection e' with e1 e2 e3
  subst e1; subst e3
  unfold maxLen at hmax
  refine fun_at 0 B w hB Tryz.func225 (args := [.val (.slice a l.length cap), .val (.func (.func fid) #[] caps)]) rfl rfl ?_
  refine LoopI.inv (α := Nat × World) (fun x => [(8, .val (.int .i64 x.1))]) (fun _ => []) (fun x => x.2) (fun x => x.1 ≤ l.length ∧ T x.1 x.2 ∧ Below B w x.2 ∧ ∀ j y, j < x.1 → l[j]? = some y → p y = false) (fun x => l.length - x.1) ?_ ?_
  · intro w1 h1
    exact ⟨(0, w1), Cov.mk (by repeat' (first | exact trivial | refine And.intro rfl ?_)) rfl rfl rfl rfl rfl, rfl, Nat.zero_le _, hst _ _ _ h0 h1.go, h1.below, fun j y hj => by omega⟩
  · rintro ⟨k, W⟩ ⟨hk, hT, hBw, hno⟩
    refine Branch.mk (fun hb => ?_) (fun hb => ?_)
    · have hlt : k < l.length := by simpa using hb
      obtain ⟨x, hx⟩ : ∃ x, l[k]? = some x := ⟨l[k], List.getElem?_eq_getElem hlt⟩
      refine hS.idx hx fun ad had => ?_
      refine hS.ld hx had hBw (by simp) ?_
      refine Need.mk en ?_
      refine CallI.mk fun w1 h1 => ?_
      have hT1 := hst _ _ _ hT h1.go
      refine (hcall k x w1 hx h1.below hT1).mono ?_
      rintro e w2 ⟨rfl, hB2, hT2⟩
      refine ⟨⟨hB2, by simp⟩, _, rfl, ?_⟩
      refine Branch.mk (fun hp => ?_) (fun hp => ?_)
      · refine EndI.mk fun w3 h3 => ?_
        obtain ⟨i1, i2⟩ := idxF_at p l k x hx hp hno
        refine ⟨by rw [i1], by rw [i2]; exact hst _ _ _ hT2 h3.go⟩
      · refine Need.mk (by show _ ∧ _; omega) (EndI.mk fun w3 h3 => ?_)
        refine ⟨(k + 1, w3), Cov.mk (by repeat' (first | exact trivial | refine And.intro rfl ?_)) rfl rfl rfl rfl rfl, rfl, ⟨hlt, hst _ _ _ hT2 h3.go, h3.below, fun j y hj hy => ?_⟩, by simp only; omega⟩
        by_cases hjk : j = k
        · subst hjk; rw [hx] at hy; injection hy with hy; subst hy; exact hp
        · exact hno j y (by omega) hy
    · have hge : k = l.length := by have : ¬ k < l.length := by simpa using hb
                                    omega
      subst hge
      refine EndI.mk fun w3 h3 => ?_
      obtain ⟨i1, i2⟩ := idxF_none p l fun j y hy => hno j y (List.getElem?_eq_some_iff.1 hy).1 hy
      exact ⟨by rw [i1], by rw [i2]; exact hst _ _ _ hT h3.go⟩

theorem containsR_any (l : List Rt) (p : Rt → Bool) (a : Option Addr) (cap : Nat) (fid : FuncId) (caps : Array Value) (B : Nat) (w : World) (hB : B ≤ w.heap.size) (hS : Sl B w (.slice a l.length cap) l)
    (T : Nat → World → Prop) (h0 : T 0 w) (hst : ∀ k W W', T k W → Below W.heap.size W W' → T k W') (en : Enters Tryz.prog fid)
    (hcall : ∀ k x W, l[k]? = some x → Below B w W → T k W → Calls Tryz.prog fid (val x :: caps.toList).toArray W fun e W' => e = .returned (.bool (p x)) ∧ Below B W W' ∧ T (k + 1) W') :
    Calls Tryz.prog 162 #[.slice a l.length cap, .func (.func fid) #[] caps] w fun e w' => ∃ v, e = .returned v ∧ Below B w w' ∧ v = .bool (l.any p) ∧ T (cntF p l) w' := by
  refine fun_at 0 B w hB Tryz.func162 (args := [.val (.slice a l.length cap), .val (.func (.func fid) #[] caps)]) rfl rfl ?_
  refine CallI.mk fun w1 h1 => ?_
  have hB1 : B ≤ w1.heap.size := Nat.le_trans hB h1.size
  refine (indexR_any l p a cap fid caps B w1 hB1 (hS.below h1.below) T (hst _ _ _ h0 h1.go) hst en fun k x W hx hW hT => hcall k x W hx (h1.below.trans hW) hT).mono ?_
  rintro e w2 ⟨v, rfl, hB2, rfl, hT⟩
  refine ⟨⟨hB2, by simp⟩, _, rfl, ?_⟩
  refine EndI.mk fun w3 h3 => ⟨?_, hst _ _ _ hT h3.go⟩
  rw [← idxF_any]

theorem containsR_pure (l : List Rt) (p : Rt → Bool) (a : Option Addr) (cap : Nat) (fid : FuncId) (caps : Array Value) (w : World) (hS : Sl w.heap.size w (.slice a l.length cap) l) (en : Enters Tryz.prog fid)
    (hcall : ∀ x W, x ∈ l → Below w.heap.size w W → Calls Tryz.prog fid (val x :: caps.toList).toArray W fun e W' => e = .returned (.bool (p x)) ∧ Below W.heap.size W W') :
    Calls Tryz.prog 162 #[.slice a l.length cap, .func (.func fid) #[] caps] w fun e w' => e = .returned (.bool (l.any p)) ∧ Below w.heap.size w w' := by
  refine (containsR_any l p a cap fid caps w.heap.size w (Nat.le_refl _) hS (fun _ _ => True) trivial (fun _ _ _ _ _ => trivial) en fun k x W hx hB _ => ?_).mono ?_
  · refine (hcall x W (List.mem_of_getElem? hx) hB).mono ?_
    rintro e W' ⟨rfl, hB'⟩
    exact ⟨rfl, hB'.mono hB.size, trivial⟩
  · rintro e w' ⟨v, rfl, hB, rfl, _⟩
    exact ⟨rfl, hB⟩
end Go.Proofs.YtjbhpfmnfdebkaaGreat

namespace Go.Proofs.YtjbhpfmnfdebkaaGreat
set_option linter.unusedVariables false
set_option linter.unusedSimpArgs false
set_option maxRecDepth 100000
open Go.RowKit Go.Proofs.YtjbhpfmnfdebkaaGreat.Eng Enc

namespace Dbm
def moments (T : List Rt) : List Rt := ⟨0, 1⟩ :: T
def pairOk (n : Nat) (L : List Int) (A : List Rt) (x : Nat) : Bool := (Fr.keeps (A[x / n]?.getD ⟨0, 1⟩) (A[x % n]?.getD ⟨0, 1⟩) (L[x]?.getD 0)).1
def keptL (n : Nat) (L : List Int) (T : List Rt) : Bool := (List.range (n * n)).all (pairOk n L (moments T))
def keeps (n : Int) (L : List Int) (T : List Rt) : Bool × Int :=
  if Dbm.chk n L = 0 ∧ T.all Rt.ok = true then (if (T.length : Int) = n - 1 then (keptL n.toNat L T, 0) else (false, 40)) else (false, 8)
end Dbm

theorem keeps1_any (x : Rt) (hx : x.ins) (w : World) : Calls Tryz.prog 163 #[.agg #[.int .i64 x.num, .int .i64 x.den]] w fun e w' => e = .returned (.bool (!x.ok)) ∧ Below w.heap.size w w' := by
  refine fun_eq 0 w Tryz.func163 (args := [.agg [.val (.int .i64 x.num), .val (.int .i64 x.den)]]) rfl rfl ?_
  repeat' (first
    | (refine CallI.to1 (rcheck_any x.num x.den hx.1 hx.2) fun w2 => ?_)
    | (refine Branch.yes rfl ?_)
    | (refine Branch.no rfl ?_)
    | (refine Branch.mk (fun hb => ?_) (fun hb => ?_))
    | (refine NewI.mk fun nb hnb => ?_)
    | (refine Need.mk (by show _ ∧ _; omega) ?_)
    | (refine Need.mk (by omega) ?_)
    | (refine Need.mk ?_ ?_)
    | (refine EndI.mk fun w1 h1 => ?_))
  cases h : x.ok
  · rw [Fr.chk_no h]; rfl
  · rw [Fr.chk_yes h]; rfl

theorem at2_any (n i j : Int) (h : Nat) (ad : Addr) (len cap : Nat) (h0 : 0 ≤ i * n + j) (h1 : i * n + j < len) (hin : inK .i64 (i * n) ∧ inK .i64 (i * n + j)) (w : World) (c0 : w.cell? ⟨h, 0, none⟩ = some (.int .i64 n)) (c1 : w.cell? ⟨h, 1, none⟩ = some (.slice (some ad) len cap)) :
    Calls Tryz.prog 165 #[.pointer (some ⟨h, 0, none⟩), .int .i64 i, .int .i64 j] w fun e w' => e = .returned (.pointer (some (ad.add ((i * n + j).toNat * 1)))) ∧ Below w.heap.size w w' := by
  refine fun_eq 0 w Tryz.func165 (args := [.val (.pointer (some ⟨h, 0, none⟩)), .val (.int .i64 i), .val (.int .i64 j)]) rfl rfl ?_
  refine DrawI.go (.tk 0 (.tk 1 (.tk 2 (.tk 3 (.tk 4 (.tk 5 (.tk 6 (.tk 7 (.tk 8 (.tk 9 (.tk 10 (.tk 11 (.tk 12 (.tk 13 (.tk 14 (.tk 15 .done)))))))))))))))) (by kernel_rfl) fun w1 k1 => ?_
  have hB := k1.go
  refine LoadI.mk ⟨_, ⟨(hB.cell (p := ⟨h, 1, none⟩) (World.block_lt_of_cell? _ _ c1)).trans c1, by simp⟩, ?_⟩
  refine LoadI.mk ⟨_, ⟨(hB.cell (p := ⟨h, 0, none⟩) (World.block_lt_of_cell? _ _ c0)).trans c0, by simp⟩, ?_⟩
  refine Need.mk hin.1 ?_
  refine Need.mk hin.2 ?_
  refine IdxI.mk ⟨_, ⟨rfl, h0, h1⟩, ?_⟩
  exact EndI.mk fun w2 k2 => rfl

theorem infoRat : (Tryz.prog.info? 36).map (fun i => (i.zero, i.size, i.bytes)) = some (some (.agg #[.int .i64 0, .int .i64 0]), 2, 16) := by kernel_rfl
theorem elR : ElOk Tryz.prog 139 36 2 16 := elOk (by kernel_rfl) infoRat rfl (by decide)
theorem keepsFrom_below {B : Nat} {W W' : World} (h : Below W.heap.size W W') : KeepsFrom B W W' := ⟨h.size, fun k o _ hk hc => (h.block k (Array.getElem?_eq_some_iff.1 hk).1).trans hk⟩
theorem keepsFrom_own {B : Nat} {L : List Nat} {W w1 w2 : World} (h : Below W.heap.size W w1) (hs : w1.heap.size ≤ w2.heap.size) (hst : ∀ k, k < w1.heap.size → k ∉ L → w2.heap[k]? = w1.heap[k]?) (hL : ∀ b, b ∈ L → ∃ cs t f, W.heap[b]? = some (.cells cs t f)) : KeepsFrom B W w2 :=
  ⟨Nat.le_trans h.size hs, fun k o _ hk hc => by
    have hkW := (Array.getElem?_eq_some_iff.1 hk).1
    refine ((hst k (Nat.lt_of_lt_of_le hkW h.size) fun hm => ?_).trans (h.block k hkW)).trans hk
    obtain ⟨cs, t, f, e⟩ := hL k hm
    rw [hk] at e; injection e with e; subst e; cases hc⟩
theorem Own.own {α : Type} [Enc α] {w0 : Base} {hp : List LB} {r L : List Nat} {w w1 : World} {l : List α} (h : At w0 hp r L w w1) (i : Nat) {b n : Nat} {c : LB} (hi : r[i]? = some b) (hc : hget hp i = some c) (hm : denL r c.cells = cellsL l) (hb : w0.B ≤ b) (hn : n = l.length := by rfl) (hmax : n ≤ maxLen := by decide) : Own c.ty w0.B w1 (.slice (some ⟨b, 0, none⟩) n n) l := by
  subst hn
  have h1 := h.blk i b c hi hc
  refine ⟨cellsL_len l, .inr ⟨b, _, _, rfl, hb, h1, Nat.le_refl _, hmax, ?_, ?_⟩⟩
  · rw [hm, List.size_toArray, cellsL_len]
  · rw [hm, List.take_of_length_le (by rw [cellsL_len]; exact Nat.le_refl _)]
theorem dkeeps_any (n : Int) (a : Option Addr) (cap : Nat) (L : List Int) (T : List Rt) (at_ : Option Addr) (ct : Nat) (w : World) (hT : ∀ x ∈ T, x.ins) (hS : Sl w.heap.size w (.slice a L.length cap) L) (hST : Sl w.heap.size w (.slice at_ T.length ct) T) :
    Calls Tryz.prog 91 #[.agg #[.int .i64 n, .slice a L.length cap], .slice at_ T.length ct] w (Ret w fun v w' => v = .tuple #[.bool (Dbm.keeps n L T).1, .int .i64 (Dbm.keeps n L T).2]) := by
  refine fun_at 9 w.heap.size w (Nat.le_refl _) Tryz.func91 (args := [.agg [.val (.int .i64 n), .val (.slice a L.length cap)], .val (.slice at_ T.length ct)]) rfl rfl ?_
  refine NewI.mk fun b1 hb1 => ?_
  refine NewI.mk fun b2 hb2 => ?_
  refine NewI.mk fun b3 hb3 => ?_
  apply CallI.use1
  · exact fun w1 h1 => dcheck_any n a cap L w1 (Sl.at h1 hS)
  intro w1 w2 h1 hB2
  refine Branch.mk (fun hc => ?_) (fun hc => ?_)
  · refine EndI.mk fun w3 h3 => ?_
    have h0 : Dbm.chk n L ≠ 0 := by simpa using hc
    rw [Dbm.keeps, if_neg (fun h => h0 h.1)]
  have hc0 : Dbm.chk n L = 0 := by simpa using hc
  apply CallI.use1
  · exact fun w3 h3 => containsR_pure T (fun x => !x.ok) at_ ct 163 #[] w3 (Sl.at h3 hST) Tryz.call163 fun x W hx _ => keeps1_any x (hT x hx) W
  intro w3 w4 h3 hB4
  refine Branch.mk (fun hc2 => ?_) (fun hc2 => ?_)
  · refine EndI.mk fun w5 h5 => ?_
    have h0 : ¬ T.all Rt.ok = true := by
      simp only [List.any_eq_true] at hc2
      obtain ⟨x, hx, h⟩ := hc2
      rw [List.all_eq_true]
      intro h'
      rw [h' x hx] at h; cases h
    rw [Dbm.keeps, if_neg (fun h => h0 h.2)]
  have hok : T.all Rt.ok = true := by
    rw [List.all_eq_true]
    intro x hx
    cases h : Rt.ok x
    · have : (T.any fun x => !x.ok) = true := List.any_eq_true.2 ⟨x, hx, by rw [h]; rfl⟩
      rw [this] at hc2; cases hc2
    · rfl
  obtain ⟨c1, c2, c3, c4⟩ := Dbm.chk_iff.1 hc0
  refine Need.mk (by show _ ∧ _; omega) ?_
  refine Branch.mk (fun hc3 => ?_) (fun hc3 => ?_)
  · refine EndI.mk fun w5 h5 => ?_
    have h0 : ¬ ((T.length : Int) = n - 1) := by simpa using hc3
    rw [Dbm.keeps, if_pos ⟨hc0, hok⟩, if_neg h0]
  have hlen : (T.length : Int) = n - 1 := by simpa using hc3
  have hkp : Dbm.keeps n L T = (Dbm.keptL n.toNat L T, 0) := by rw [Dbm.keeps, if_pos ⟨hc0, hok⟩, if_pos hlen]
  rw [hkp]
  refine NewI.mk fun b4 hb4 => ?_
  refine GenN.appF (α := Rt) elR [⟨0, 1⟩] T w.heap.size rfl ?_ (fun w5 h5 => (Sl.at h5 hST).src) (by unfold maxLen; simp; omega) (by simp; omega) (fun w5 h5 => h5.below.size) ?_
  · exact fun w5 h5 => Own.own h5 3 rfl rfl rfl (Nat.le_trans (Nat.le_trans h3.below.size hB4.size) hb4)
  intro v w5 w6 h5 hB6 hO
  obtain ⟨av, cv, rfl⟩ := hO.form
  refine NewI.mk fun b5 hb5 => ?_
  refine NewI.mk fun b6 hb6 => ?_
  refine NewI.mk fun b7 hb7 => ?_
  apply CallI.mk
  intro w7 h7
  refine (callsIn_wide.1 (pairs_any n w7)).mono ?_
  rintro e w8 ⟨rfl, rfl⟩
  have hB1 : Below w7.heap.size w7 (w7.alloc (.cells #[.int .i64 n] 3)) := below_al (Below.refl _ _)
  refine ⟨h7.keep hB1, _, rfl, ?_⟩
  have hBs : (w7.alloc (.cells #[.int .i64 (n : Int)] 3)).cell? ⟨w7.heap.size, 0, none⟩ = some (.int .i64 n) := by simp
  have hsz : w7.heap.size < (w7.alloc (.cells #[.int .i64 (n : Int)] 3)).heap.size := by simp
  generalize hw2 : w7.alloc (.cells #[.int .i64 (n : Int)] 3) = w8 at hBs hsz hB1
  generalize hbs : w7.heap.size = Bs at hBs hsz
  refine RawI.mk fun ac w9 hR => ?_
  have h9 := hR.at_
  have hB9 : Below w8.heap.size w8 w9 := h9.go
  have hBs9 : Bs < w9.heap.size := Nat.lt_of_lt_of_le hsz hB9.size
  have hc9 : w9.cell? ⟨Bs, 0, none⟩ = some (.int .i64 n) := (hB9.cell (p := ⟨Bs, 0, none⟩) hsz).trans hBs
  have hw6 : Below w.heap.size w w6 := h5.below.trans (hB6.mono h5.below.size)
  have hB7 : Below w6.heap.size w6 w7 := h7.from hw6 (Below.refl _ _) (by intro b hb; simp at hb; rcases hb with rfl | rfl | rfl <;> assumption)
  have hSA : Sl w9.heap.size w9 (.slice av ([(⟨0, 1⟩ : Rt)] ++ T).length cv) ([⟨0, 1⟩] ++ T) := ((hO.sl.go hB7 hB7.size).go hB1 hB1.size).go hB9 hB9.size
  obtain ⟨N, rfl⟩ : ∃ N : Nat, n = N := ⟨n.toNat, by omega⟩
  have hN1 : 1 ≤ N := by omega
  have hN4 : N ≤ 4 := by omega
  have hLl : L.length = N * N := by exact_mod_cast c3
  refine rangeD cxOk (by decide) hR rfl Tryz.call196 (pairs_stops N (by omega) (by omega) (N * N) rfl Bs w9 hBs9 hc9) (fun h k => k.trans h) (fun W l o o' => keepsBox_put hBs9 W l o o')
    (fun W W' hs hg => World.cell?_of_block (hg.block Bs (Nat.lt_of_lt_of_le hBs9 hs) (by rintro ⟨⟩))) (fun x => rfl) (fun _ => _) (fun pre W => w9.grownBy W none ∧ ∀ x ∈ pre, Dbm.pairOk N L (Dbm.moments T) x.1 = true) ?_ rfl ⟨grown_refl _ _, by simp⟩ (fun c _ _ => c = .ret ∧ Dbm.keptL N L T = false) (fun _ _ => [⟨[.val (.int .i64 N), .val (.slice a L.length cap)], 99⟩, ⟨[.kb false], 4⟩, ⟨[.val (.int .i64 0)], 28⟩, ⟨[.val (.int .i64 0), .val (.int .i64 1)], 36⟩, ⟨[.val (.slice av ([(⟨0, 1⟩ : Rt)] ++ T).length cv)], 139⟩, ⟨[.val (.int .i64 N), .val (.slice a L.length cap)], 211⟩, ⟨[.loc 5 0], 209⟩]) (fun _ _ _ _ _ h _ _ => h) _
    (fun l z hp W => And.intro rfl rfl) ?_ ?_ ?_
  · intro pre W W' row hs hg' hr'
    exact ⟨ownFrom_grown (row0 := none) (w := w9) (Nat.le_refl _) pre W W' row hs.1 hg' hr', hs.2⟩
  · rintro l pre x W ⟨gW, hall⟩ hBW hsW hlen
    obtain ⟨x, hx⟩ := x
    have e3 := idx_ij hN1 hN4 hx
    have hxi : x / N < N := Nat.div_lt_of_lt_mul hx
    have hxj : x % N < N := Nat.mod_lt _ hN1
    have hAl : ([(⟨0, 1⟩ : Rt)] ++ T).length = N := by simp; omega
    have hAi : ∀ y ∈ [(⟨0, 1⟩ : Rt)] ++ T, y.ins := by
      intro y hy
      rcases List.mem_append.1 hy with h | h
      · rw [List.mem_singleton.1 h]; simp [Rt.ins, inK]
      · exact hT y h
    have hg1 := List.getElem?_eq_getElem (l := [(⟨0, 1⟩ : Rt)] ++ T) (i := x / N) (by rw [hAl]; exact hxi)
    have hg2 := List.getElem?_eq_getElem (l := [(⟨0, 1⟩ : Rt)] ++ T) (i := x % N) (by rw [hAl]; exact hxj)
    generalize ([(⟨0, 1⟩ : Rt)] ++ T)[x / N]'_ = y1 at hg1
    generalize ([(⟨0, 1⟩ : Rt)] ++ T)[x % N]'_ = y2 at hg2
    have hgL := List.getElem?_eq_getElem (l := L) (i := x) (by rw [hLl]; exact hx)
    generalize L[x]'_ = bx at hgL
    have hok1 : Dbm.pairOk N L (Dbm.moments T) x = (Fr.keeps y1 y2 bx).1 := by
      unfold Dbm.pairOk Dbm.moments
      have e1 : (⟨0, 1⟩ :: T : List Rt) = [⟨0, 1⟩] ++ T := rfl
      rw [e1, hg1, hg2, hgL]; rfl
    have B9 : Below w9.heap.size w9 W := ⟨gW.os, gW.tape, gW.output, gW.size, fun k hk => gW.block k hk (by simp)⟩
    refine DrawI.go (.tk 0 (.tk 1 (.tk 2 (.tk 3 (.tk 4 (.tk 5 (.tk 6 (.tk 7 (.tk 8 (.tk 9 (.tk 10 (.ev 11 (.tk 12 (.tk 13 (.ev 14 (.tk 15 (.tk 16 (.tk 17 (.tk 18 (.tk 19 .done)))))))))))))))))))) (by kernel_rfl) fun w10 h10 => ?_
    have hA10 : Sl w10.heap.size w10 (.slice av ([(⟨0, 1⟩ : Rt)] ++ T).length cv) ([⟨0, 1⟩] ++ T) := (hSA.go B9 B9.size).go h10.go h10.go.size
    have e1 : ((x : Int) / N) = ((x / N : Nat) : Int) := rfl
    have e2 : ((x : Int) % N) = ((x % N : Nat) : Int) := rfl
    refine hA10.idx hg1 fun ad had => ?_
    refine hA10.ld hg1 had (Below.refl _ _) (by simp) ?_
    refine hA10.idx hg2 fun ad2 had2 => ?_
    refine hA10.ld hg2 had2 (Below.refl _ _) (by simp) ?_
    have hS10 := hS.go h10.below h10.below.size
    obtain ⟨al, hal⟩ : ∃ al, a = some al := by
      obtain ⟨_, _, e0, _, _, _, h4⟩ := hS10
      obtain ⟨b, o, h, _⟩ := h4 x bx hgL
      injection e0 with e0
      exact ⟨_, e0.trans h⟩
    subst hal
    apply CallI.use1
    · exact fun w11 h11 => at2_any N _ _ b6 al L.length cap e3.1 (by rw [hLl]; exact e3.2.1) ⟨e3.2.2.1, e3.2.2.2.1⟩ w11 (h11.own (i := 5) (o := 0) rfl rfl rfl) (h11.own (i := 5) (o := 1) rfl rfl rfl)
    intro w11 w12 h11 hB12
    rw [e3.2.2.2.2]
    refine hS10.ld1 hgL rfl (Below.refl _ _) (by simp) ?_
    apply CallI.use1
    · exact fun w13 h13 => rkeeps_any y1 y2 (hAi y1 (List.mem_of_getElem? hg1)) (hAi y2 (List.mem_of_getElem? hg2)) bx w13
    intro w13 w14 h13 hB14
    refine Branch.mk (fun hb => ?_) (fun hb => ?_)
    · have hno : (Fr.keeps y1 y2 bx).1 = false := by simpa using hb
      refine Need.mk (CovH.mk rfl rfl rfl) (EndI.mk fun w15 h15 => ⟨?_, rfl, ?_⟩)
      · have k12 := h11.step2 hB12
        have B10 := h10.go
        have B14 : Below W.heap.size W w14 := B10.trans ((k12.trans ((h13.step2 hB14).mono k12.size)).mono B10.size)
        refine keepsFrom_own B14 h15.size h15.step fun b hb => ?_
        simp at hb
        rcases hb with rfl | rfl
        · exact ⟨_, _, _, (gW.block _ (h9.lt _ (by simp)) (by simp)).trans (h9.blk 2 _ ⟨_, _⟩ (by rfl) (by rfl))⟩
        · exact ⟨_, _, _, (gW.block _ (h9.lt _ (by simp)) (by simp)).trans (h9.blk 1 _ ⟨_, _⟩ (by rfl) (by rfl))⟩
      · rw [Dbm.keptL, List.all_eq_false]
        exact ⟨x, List.mem_range.2 hx, by rw [hok1, hno]; simp⟩
    · have hyes : (Fr.keeps y1 y2 bx).1 = true := by simpa using hb
      have k12 := h11.step2 hB12
      have B10 := h10.go
      have B14 : Below W.heap.size W w14 := B10.trans ((k12.trans ((h13.step2 hB14).mono k12.size)).mono B10.size)
      refine Need.mk (CovH.mk rfl rfl rfl) (EndI.mk fun w15 h15 => ?_)
      have B15 : Below W.heap.size W w15 := B14.trans (h15.go.mono B14.size)
      refine ⟨keepsFrom_below B15, World.cell?_of_block (B15.block Bs (Nat.lt_of_lt_of_le hBs9 hsW)), grown_below gW B15, ?_⟩
      intro z hz
      rcases List.mem_append.1 hz with h | h
      · exact hall z h
      · rw [List.mem_singleton.1 h]
        show Dbm.pairOk N L (Dbm.moments T) x = true
        rw [hok1, hyes]
  · rintro D xs W hD hSx ⟨gW, hall⟩ hmark
    have hk : Dbm.keptL N L T = true := by
      rw [Dbm.keptL, List.all_eq_true]
      intro x hx
      rw [← hSx] at hx
      obtain ⟨y, hy, rfl⟩ := List.mem_map.1 hx
      exact hall y hy
    have hDW : D < W.heap.size := (Array.getElem?_eq_some_iff.1 hmark).1
    have hl2 := h9.lt b2 (by simp)
    have hl3 := h9.lt b3 (by simp)
    refine EndM.mk fun w10 h10 => ⟨⟨Nat.le_trans h9.below.size hD, (h10.step D hDW (by intro hm; simp at hm; omega)).trans hmark⟩, fun w11 hu => ?_⟩
    rw [Int.toNat_natCast, hk]
  · rintro D c e pre W hD hSp ⟨rfl, hk⟩ he hmark
    cases he
    have hDW : D < W.heap.size := (Array.getElem?_eq_some_iff.1 hmark).1
    refine EndM.mk fun w10 h10 => ⟨⟨Nat.le_trans h9.below.size hD, (h10.step D hDW (by simp)).trans hmark⟩, fun w11 hu => ?_⟩
    rw [Int.toNat_natCast, hk]
end Go.Proofs.YtjbhpfmnfdebkaaGreat

namespace Go.Proofs.YtjbhpfmnfdebkaaGreat
set_option linter.unusedVariables false
set_option linter.unusedSimpArgs false
open Go.RowKit Go.Proofs.YtjbhpfmnfdebkaaGreat.Eng Enc

section
variable {α : Type} [Enc α]
theorem cellsL_take (l : List α) (i : Nat) : cellsL (l.take i) = (cellsL l).take (i * size α) := by
  induction l generalizing i with
  | nil => simp [cellsL]
  | cons x l ih =>
    cases i with
    | zero => simp [cellsL]
    | succ i =>
      simp only [List.take_succ_cons, cellsL, ih]
      have h1 : (enc x).take ((i + 1) * size α) = enc x := List.take_of_length_le (by rw [len, Nat.succ_mul]; omega)
      have h2 : (i + 1) * size α - size α = i * size α := by rw [Nat.succ_mul]; omega
      rw [List.take_append, h1, len, h2]
theorem Own.take {e : TypeId} {base : Nat} {W : World} {g cap : Nat} {l : List α} (h : Own e base W (.slice (some ⟨g, 0, none⟩) l.length cap) l) (i : Nat) (hi : i ≤ l.length) : Own e base W (.slice (some ⟨g, 0, none⟩) i cap) (l.take i) := by
  obtain ⟨hl, ⟨h0, _⟩ | ⟨g', cap', cur, h0, hb, hg, hn, hm, hs, ht⟩⟩ := h
  · cases h0
  · injection h0 with h0 h1 h2
    injection h0 with h0; injection h0 with h0
    subst h0; subst h2
    have hli : (l.take i).length = i := by simp; omega
    refine ⟨cellsL_len _, .inr ⟨g, cap, cur, by rw [hli], hb, hg, by rw [hli]; omega, hm, hs, ?_⟩⟩
    rw [hli, cellsL_take, ← ht, List.take_take]
    congr 1
    have := Nat.mul_le_mul_right (size α) hi
    omega
theorem Own.at0 {e : TypeId} {base : Nat} {W : World} {g n cap : Nat} {l : List α} (h : Own e base W (.slice (some ⟨g, 0, none⟩) n cap) l) : n = l.length ∧ base ≤ g ∧ g < W.heap.size ∧ ∃ cur, W.heap[g]? = some (.cells cur e (0, 0)) ∧ l.length ≤ cap ∧ cap ≤ maxLen ∧ cur.size = cap * size α ∧ cur.toList.take (l.length * size α) = cellsL l := by
  obtain ⟨hl, ⟨h0, _⟩ | ⟨g', cap', cur, h0, hb, hg, hn, hm, hs, ht⟩⟩ := h
  · cases h0
  · injection h0 with h0 h1 h2
    injection h0 with h0; injection h0 with h0
    subst h0; subst h1; subst h2
    exact ⟨rfl, hb, (Array.getElem?_eq_some_iff.1 hg).1, cur, hg, hn, hm, hs, ht⟩
theorem Own.setRow {e : TypeId} {base : Nat} {W : World} {g n cap : Nat} {l : List α} (h : Own e base W (.slice (some ⟨g, 0, none⟩) n cap) l) {cur : Array Value} (hc : W.heap[g]? = some (.cells cur e (0, 0))) (o : Nat) (vs : List Value) (ho : l.length * size α ≤ o) (hov : o + vs.length ≤ cur.size) :
    Own e base (W.setRow g (cur.toList.take o ++ vs ++ cur.toList.drop (o + vs.length)).toArray) (.slice (some ⟨g, 0, none⟩) n cap) l := by
  obtain ⟨rfl, hb, hlt, cur', hg, hn, hm, hs, ht⟩ := h.at0
  rw [hg] at hc
  injection hc with hc; injection hc with hc _; subst hc
  refine ⟨cellsL_len _, .inr ⟨g, cap, _, rfl, hb, setRow_heap W g cur' _ e _ hg, hn, hm, ?_, ?_⟩⟩
  · simp only [List.size_toArray, List.length_append, List.length_take, List.length_drop, Array.length_toList]; omega
  · rw [List.append_assoc, List.take_append_of_le_length (by simp; omega), List.take_take, Nat.min_eq_left ho]; exact ht

theorem grown_setRow (W : World) (g : Nat) (cs : Array Value) : W.grownBy (W.setRow g cs) (some g) := ⟨rfl, rfl, rfl, by simp, fun k _ hk => setRow_other _ g k _ (fun e => hk (by simp [e]))⟩
theorem run_value {P : Program} {W W' : World} {m : Sem Value} {x : Value} (h : m.run P W = .ok x W') : (do pure (Next.value (← m)) : Sem Next).run P W = .ok (.value x) W' := by
  simp only [Sem.run_bind, h, Result.andThen, Sem.run_pure]
theorem storeCells_any {P : Program} {W : World} {g o : Nat} {e : TypeId} {cur : Array Value} {vs : List Value} (hg : W.heap[g]? = some (.cells cur e (0, 0))) (h : o + vs.length ≤ cur.size) (h1 : ∀ v ∈ vs, v.oneCell' = true) :
    (storeCells ⟨g, o, none⟩ vs).run P W = .ok () (W.setRow g (cur.toList.take o ++ vs ++ cur.toList.drop (o + vs.length)).toArray) := by
  have := run_storeCells_at P g o e vs 0 cur W hg (by simpa using h) h1
  simpa using this
theorem run_clear {P : Program} {W : World} {t e : TypeId} {i : TI} (ht : P.underlying t = some (.slice e)) (hT : TyOk P e i) (hp : 0 < i.zero.length) {g o n c : Nat} {cur : Array Value} (hg : W.heap[g]? = some (.cells cur e (0, 0))) (h : o + n * i.zero.length ≤ cur.size) (hn : 0 < n) :
    ∃ vs : List Value, vs.length = n * i.zero.length ∧ ∀ (ty : TypeId) (consts : Array Bool) (v : Value), v = .slice (some ⟨g, o, none⟩) n c → (builtin .clear #[t] ty consts #[v]).run P W = .ok (.value (.tuple #[])) (W.setRow g (cur.toList.take o ++ vs ++ cur.toList.drop (o + vs.length)).toArray) := by
  have hz := zero_cells hT
  refine ⟨(Builtin.zeroCells i.zero.toArray n).toList, by simp [Builtin.zeroCells], ?_⟩
  rintro ty consts v rfl
  have h1 : ∀ v ∈ (Builtin.zeroCells i.zero.toArray n).toList, v.oneCell' = true := by
    intro v hv
    simp only [Builtin.zeroCells, Array.toList_map, List.mem_map, Array.toList_range, List.mem_range] at hv
    obtain ⟨k, hk, rfl⟩ := hv
    have hm : k % i.zero.toArray.size < i.zero.length := by simp; exact Nat.mod_lt _ hp
    rw [getElem!_pos _ _ (by simpa using hm)]
    exact hT.ones _ (by simp)
  have hst := storeCells_any (P := P) (o := o) (vs := (Builtin.zeroCells i.zero.toArray n).toList) hg (by simpa [Builtin.zeroCells] using h) h1
  obtain ⟨m, rfl⟩ : ∃ m, n = m + 1 := ⟨n - 1, by omega⟩
  have hzr := hT.zero W
  generalize (if i.ag then Value.agg i.zero.toArray else i.zero.getD 0 undef) = z at hz hzr
  simp [builtin, Builtin.clear_, Sem.run_bind, run_underlying ht, hzr, Result.andThen, hz, hst]
end

section
variable {α : Type} [Enc α]
end
end Go.Proofs.YtjbhpfmnfdebkaaGreat

namespace Go.Proofs.YtjbhpfmnfdebkaaGreat
set_option linter.unusedVariables false
open Go.RowKit Go.Proofs.YtjbhpfmnfdebkaaGreat.Eng Enc

structure Stay (w0 : Base) (l : List World) (w : World) : Prop where
  base : ∀ X, X ∈ l → Below w0.B w0.W X
  all : ∀ X, X ∈ l → Below X.heap.size X w
theorem Stay.start {w0 : Base} {w : World} (h : Below w0.B w0.W w) : Stay w0 [w] w :=
  ⟨fun X hX => by rw [List.mem_singleton.1 hX]; exact h, fun X hX => by rw [List.mem_singleton.1 hX]; exact Below.refl _ _⟩
theorem Stay.first {w : World} : Stay ⟨w, w.heap.size, Nat.le_refl _⟩ [w] w := Stay.start (Below.refl _ _)
section
variable {w0 : Base} {l : List World} {hp : List LB} {r L : List Nat} {w w1 w2 : World}
theorem Stay.at (st : Stay w0 l w) (h : At w0 hp r L w w1) (hL : ∀ b, b ∈ L → w.heap.size ≤ b) : Stay w0 (w1 :: l) w1 := by
  refine ⟨fun X hX => ?_, fun X hX => ?_⟩
  · rcases List.mem_cons.1 hX with rfl | hX
    · exact h.below
    · exact st.base X hX
  · rcases List.mem_cons.1 hX with rfl | hX
    · exact Below.refl _ _
    · exact h.from (st.base X hX) (st.all X hX) fun b hb => Nat.le_trans (st.all X hX).size (hL b hb)
theorem Stay.go (st : Stay w0 l w) (h : w0.B ≤ w.heap.size) (hb : Below w0.B w0.W w) (hB : Below w.heap.size w w2) : Stay w0 (w2 :: l) w2 := by
  refine ⟨fun X hX => ?_, fun X hX => ?_⟩
  · rcases List.mem_cons.1 hX with rfl | hX
    · exact hb.trans (hB.mono h)
    · exact st.base X hX
  · rcases List.mem_cons.1 hX with rfl | hX
    · exact Below.refl _ _
    · exact (st.all X hX).trans (hB.mono (st.all X hX).size)
theorem Stay.next (st : Stay w0 l w) (h : At w0 hp r L w w1) (hL : ∀ b, b ∈ L → w.heap.size ≤ b) (hB : Below w1.heap.size w1 w2) : Stay w0 (w2 :: w1 :: l) w2 :=
  (st.at h hL).go (Nat.le_trans w0.le h.below.size) h.below hB
theorem Stay.sub {m : List World} (st : Stay w0 l w) (h : ∀ X, X ∈ m → X ∈ l) : Stay w0 m w := ⟨fun X hX => st.base X (h X hX), fun X hX => st.all X (h X hX)⟩
theorem Stay.get (st : Stay w0 l w) {X : World} (hX : X ∈ l) : Below X.heap.size X w := st.all X hX
end
theorem Sl.st {α : Type} [Enc α] {w0 : Base} {l : List World} {X w : World} {sv : Value} {m : List α} (h : Sl X.heap.size X sv m) (st : Stay w0 l w) (hX : X ∈ l := by simp) : Sl w.heap.size w sv m := h.go (st.get hX) (st.get hX).size
theorem Sl.pre {α : Type} [Enc α] {n : Nat} {W : World} {a : Option Addr} {m cap : Nat} {l : List α} (h : Sl n W (.slice a m cap) l) (hi : Nat) (h2 : hi ≤ l.length) : Sl n W (.slice a hi cap) (l.take hi) := by
  obtain ⟨a', cap', e, c1, c2, c3, c4⟩ := h
  injection e with e1 e2 e3
  subst e1; subst e2; subst e3
  have hl : (l.take hi).length = hi := by simp; omega
  refine ⟨_, _, by rw [hl], by rw [hl]; omega, c2, c3, fun k x hk => ?_⟩
  rw [List.getElem?_take] at hk
  split at hk
  case isFalse => cases hk
  exact c4 k x hk
theorem Fresh.st {w0 : Base} {l : List World} {X w : World} {e : TypeId} {base : Nat} {sv : Value} {m : List Int} (h : Fresh e base X sv m) (st : Stay w0 l w) (hX : X ∈ l := by simp) : Fresh e base w sv m := h.below (st.get hX)
theorem Own.st {α : Type} [Enc α] {w0 : Base} {l : List World} {X w : World} {e : TypeId} {base : Nat} {sv : Value} {m : List α} (h : Own e base X sv m) (st : Stay w0 l w) (hX : X ∈ l := by simp) : Own e base w sv m := h.below (st.get hX)

structure Lp {α : Type} [Enc α] (w0 : Base) (l : List World) (r : List Nat) (e : TypeId) (base : Nat) (W : World) (v : Value) (xs : List α) : Prop where
  st : Stay w0 l W
  own : Own e base W v xs
  anc : ∀ X, X ∈ l → X.heap.size ≤ base
  blk : ∀ b, b ∈ r → b < base
  size : base ≤ W.heap.size
  b0 : w0.B ≤ base
section
variable {α : Type} [Enc α] {w0 : Base} {l : List World} {hp : List LB} {r r0 L : List Nat} {w w1 w2 : World} {e : TypeId} {base : Nat} {v sv : Value} {xs : List α}
theorem Lp.start (st : Stay w0 l w) (h : At w0 hp r L w w1) (hL : ∀ b, b ∈ L → w.heap.size ≤ b) : Lp w0 l r e w1.heap.size w1 (.slice none 0 0) ([] : List α) := by
  have s1 := st.at h hL
  refine ⟨⟨fun X hX => st.base X hX, fun X hX => s1.all X (List.mem_cons_of_mem _ hX)⟩, Own.nil, fun X hX => (s1.all X (List.mem_cons_of_mem _ hX)).size, fun b hb => h.lt b hb, Nat.le_refl _, Nat.le_trans w0.le h.below.size⟩
theorem Lp.go (lp : Lp w0 l r0 e base w v xs) (hB : Below w.heap.size w w2) : Lp w0 l r0 e base w2 v xs :=
  ⟨⟨lp.st.base, fun X hX => (lp.st.all X hX).trans (hB.mono (lp.st.all X hX).size)⟩, lp.own.below hB, lp.anc, lp.blk, Nat.le_trans lp.size hB.size, lp.b0⟩
theorem Lp.at (lp : Lp w0 l r0 e base w v xs) (h : At w0 hp r L w w1) (hL : ∀ b, b ∈ L → w.heap.size ≤ b ∨ b < base ∧ ∀ X, X ∈ l → X.heap.size ≤ b) : Lp w0 l r0 e base w1 v xs := by
  refine ⟨⟨lp.st.base, fun X hX => h.from (lp.st.base X hX) (lp.st.all X hX) fun b hb => ?_⟩, ?_, lp.anc, lp.blk, Nat.le_trans lp.size h.size, lp.b0⟩
  · rcases hL b hb with h1 | h1
    · exact Nat.le_trans (lp.st.all X hX).size h1
    · exact h1.2 X hX
  · obtain ⟨hl, h0 | ⟨g, cap, cur, e1, e2, e3, e4⟩⟩ := lp.own
    · exact ⟨hl, .inl h0⟩
    · have hg := (Array.getElem?_eq_some_iff.1 e3).1
      exact ⟨hl, .inr ⟨g, cap, cur, e1, e2, (h.step g hg (fun e => by have := hL g e; omega)).trans e3, e4⟩⟩
theorem GenN.appL {P : Program} {K : Value → World → Prop} {t ty : TypeId} {bytes : Nat} {consts : Array Bool} (hE : ElOk P t e (size α) bytes) (lp : Lp w0 l r0 e base w v xs) (hr : ∀ b, b ∈ r → b ∈ r0 ∨ w.heap.size ≤ b) (hL : ∀ b, b ∈ L → w.heap.size ≤ b)
    (ms : List α) (hsrc : ∀ w1, At w0 hp r L w w1 → SrcC w1 sv (size α) ms.length (cellsL ms)) (h63 : xs.length + ms.length ≤ 1000000) (hby : bytes ≤ 1000000)
    (hk : ∀ a' c' w5 w6, At w0 hp r L w w5 → Lp w0 l r0 e base w6 (.slice a' (xs ++ ms).length c') (xs ++ ms) → w5.heap.size ≤ w6.heap.size → (∀ k, k < w5.heap.size → k < base ∨ w.heap.size ≤ k → w6.heap[k]? = w5.heap[k]?) → K (.slice a' (xs ++ ms).length c') w6) :
    GenN P w0 (Keep w0) (builtin .append #[t, t] ty consts #[v, sv]) hp r L w K := by
  have hLp : ∀ w1, At w0 hp r L w w1 → Lp w0 l r0 e base w1 v xs := fun w1 h1 => lp.at h1 fun b hb => .inl (hL b hb)
  have hrow : ∀ k, v.ownBlock = some k → w0.B ≤ k ∧ k ∉ r := fun k hk => by
    have h1 := lp.own.lt k hk
    refine ⟨Nat.le_trans lp.b0 h1.1, fun hm => ?_⟩
    rcases hr k hm with h2 | h2
    · have := lp.blk k h2; omega
    · omega
  refine GenN.app (α := α) hE xs ms base (fun w1 h1 => (hLp w1 h1).own) hsrc (by unfold maxLen; omega) ?_ (fun w1 h1 => Nat.le_trans lp.size h1.size) (fun w1 w2 h1 hg => keep_grown h1 hg hrow) fun v' w5 w6 h5 hg hO => ?_
  · calc _ ≤ 1000000 * 1000000 := Nat.mul_le_mul h63 hby
      _ ≤ _ := by decide
  · obtain ⟨a', c', rfl⟩ := hO.form
    have h5' := hLp w5 h5
    refine hk a' c' w5 w6 h5 ⟨⟨lp.st.base, fun X hX => ?_⟩, hO, lp.anc, lp.blk, Nat.le_trans h5'.size hg.size, lp.b0⟩ hg.size fun k hk hkb => ?_
    · have hX5 := h5'.st.all X hX
      refine ⟨hg.os.trans hX5.os, hg.tape.trans hX5.tape, hg.output.trans hX5.output, Nat.le_trans hX5.size hg.size, fun k hk => ?_⟩
      refine (hg.block k (Nat.lt_of_lt_of_le hk hX5.size) (fun e => ?_)).trans (hX5.block k hk)
      have h1 := lp.own.lt k e.symm
      have h2 := lp.anc X hX
      omega
    · refine hg.block k hk (fun e => ?_)
      have h1 := lp.own.lt k e.symm
      omega
def Lq (α : Type) [Enc α] (w0 : Base) (l : List World) (r : List Nat) (e : TypeId) (W : World) (v : Value) (b : Nat) (x0 xs : List α) : Prop :=
  (v = .slice (some ⟨b, 0, none⟩) x0.length x0.length ∧ xs = x0 ∧ Stay w0 l W) ∨ ∃ base, Lp w0 l r e base W v xs
theorem Lq.st {b : Nat} {x0 : List α} (h : Lq α w0 l r e w v b x0 xs) : Stay w0 l w := by
  rcases h with ⟨_, _, h⟩ | ⟨_, h⟩
  · exact h
  · exact h.st
theorem Lq.at {b : Nat} {x0 : List α} (lq : Lq α w0 l r0 e w v b x0 xs) (h : At w0 hp r [] w w1) : Lq α w0 l r0 e w1 v b x0 xs := by
  rcases lq with ⟨e1, e2, h1⟩ | ⟨base, h1⟩
  · exact .inl ⟨e1, e2, (h1.at h (by simp)).sub fun X hX => List.mem_cons_of_mem _ hX⟩
  · exact .inr ⟨base, h1.at h (by simp)⟩
theorem Lq.go {b : Nat} {x0 : List α} (lq : Lq α w0 l r0 e w v b x0 xs) (hB : Below w.heap.size w w2) : Lq α w0 l r0 e w2 v b x0 xs := by
  rcases lq with ⟨e1, e2, h1⟩ | ⟨base, h1⟩
  · exact .inl ⟨e1, e2, h1.base, fun X hX => (h1.all X hX).trans (hB.mono (h1.all X hX).size)⟩
  · exact .inr ⟨base, h1.go hB⟩
theorem Lq.form {b : Nat} {x0 : List α} (lq : Lq α w0 l r0 e w v b x0 xs) : ∃ a c, v = .slice a xs.length c := by
  rcases lq with ⟨e1, e2, h1⟩ | ⟨base, h1⟩
  · subst e2; exact ⟨_, _, e1⟩
  · exact h1.own.form
theorem Lq.sl {b : Nat} {x0 : List α} (lq : Lq α w0 l r0 e w v b x0 xs) (h : At w0 hp r [] w w1) (i : Nat) {c : LB} (hi : r[i]? = some b) (hc : hget hp i = some c) (hm : denL r c.cells = cellsL x0) (hmax : x0.length ≤ maxLen) : Sl w1.heap.size w1 v xs := by
  rcases lq with ⟨e1, e2, h1⟩ | ⟨base, h1⟩
  · subst e1; subst e2
    exact Sl.own h i hi hc hm (Nat.le_refl _) hmax
  · exact (h1.at h (by simp)).own.sl
end
end Go.Proofs.YtjbhpfmnfdebkaaGreat

namespace Go.Proofs.YtjbhpfmnfdebkaaGreat.Eng
set_option linter.unusedVariables false
set_option linter.unusedSimpArgs false
open Go Go.RowKit Go.Shelf Go.Proofs

section
variable {cx : Cx} {w0 : Base}

theorem rangeE (hcx : CxOk cx) {n : Nat} (h1 : 1 ≤ n) {s : St} {a : Act} {w : World} (hR : Rel w0 s a w) {g : Operand} {ps : Array Tmp} {x y : Code} {K : Exit → St → Prop} {gf : Nat} {lb : Array Value}
    (hg : ev s.fr g = .val (.func (.func gf) #[] lb)) (eg : Enters cx.P gf)
    {α : Type} {encs : α → List Value} {Kp : World → World → Prop} {S Sp : List α → Prop} {N : Nat} (hseq : SeqStopsK Fence.wide (n - 1) cx.P gf lb (fun x => (encs x).toArray) Kp S Sp N w)
    (hKt : ∀ {A B C : World}, Kp A B → Kp B C → Kp A C) (hKb : ∀ (W : World) (l : Nat) (o o' : Obj), w.heap.size ≤ l → W.heap[l]? = some o → o.isCells = false → o.isWalk = false → Kp W (W.putObj l o'))
    (hKg : ∀ W W', w.heap.size ≤ W.heap.size → W.grownBy W' none → Kp W W') (hps : ∀ x, (encs x).length = ps.size)
    {γ : Type} (hpf : γ → List LB) (Φ : List α → γ → World → Prop) (hΦ : ∀ c, OwnFrom w.heap.size fun pre W => Φ pre c W) (c0 : γ) (hp0 : hpf c0 = s.hp) (hΦ0 : Φ [] c0 w)
    (Ix : Code → List α → γ → World → Prop) (hpx : Code → γ → List LB) (hIx : ∀ c q, OwnFrom w.heap.size fun pre W => Ix c pre q W)
    (frx : α → Fr)
    (hassign : ∀ l z hp W, codeD (Fence.wide.inRound l) (n - 1 - 1) cx w0 x (fun e s' => e = .normal ∧ s' = ⟨frx z, hp, s.r, [], W, []⟩) ⟨setP s.fr ps.toList (encs z), hp, s.r, [], W, []⟩)
    (hbody : ∀ l pre x c W, Φ pre c W → Below w0.B w0.W W → w.heap.size ≤ W.heap.size → pre.length < N → codeD (Fence.wide.inRound l) (n - 1 - 1) cx w0 y
      (fun e s' => match e with
        | .normal => s'.on fun fr2 hp2 r2 L2 w2 df2 => ∃ c', Need (CovH (hpf c') s.r ⟨fr2, hp2, r2, L2, w2, df2⟩) (EndI w0 hp2 r2 L2 w2 undef fun _ w1 => KeepsFrom w.heap.size W w1 ∧ Kp W w1 ∧ Φ (pre ++ [x]) c' w1)
        | .ret => s'.on fun fr2 hp2 r2 L2 w2 df2 => ∃ c', Need (CovH (hpx .ret c') s.r ⟨fr2, hp2, r2, L2, w2, df2⟩) (EndI w0 hp2 r2 L2 w2 undef fun _ w1 => KeepsFrom w.heap.size W w1 ∧ Ix .ret (pre ++ [x]) c' w1)
        | .exit id => s'.on fun fr2 hp2 r2 L2 w2 df2 => ∃ c', Need (CovH (hpx (.exit id) c') s.r ⟨fr2, hp2, r2, L2, w2, df2⟩) (EndI w0 hp2 r2 L2 w2 undef fun _ w1 => KeepsFrom w.heap.size W w1 ∧ Ix (.exit id) (pre ++ [x]) c' w1)
        | _ => False) ⟨frx x, hpf c, s.r, [], W, []⟩)
    (hdone : ∀ D xs c W, w.heap.size ≤ D → S xs → Φ xs c W → W.heap[D]? = some (.deferred (some [])) → K .normal ⟨s.fr, hpf c, s.r, [], W, { target := .collected D, args := #[] } :: s.df⟩)
    (hstop : ∀ D c e pre q W, w.heap.size ≤ D → Sp pre → Ix c pre q W → exitOf c = some e → W.heap[D]? = some (.deferred (some [])) → K e ⟨s.fr, hpx c q, s.r, [], W, { target := .collected D, args := #[] } :: s.df⟩) :

    (Code.rangeFunc g ps x y).wpIn Fence.wide n cx.P (fun e a' w' => ∃ s', Rel w0 s' a' w' ∧ K e s') a w := by

  have hev := hR.ev1 hg (by simp) []
  simp only [SV.den] at hev
  have hB : w0.B ≤ w.heap.size := Nat.le_trans w0.le hR.at_.below.size
  have ownR : ∀ (hp : List LB), OwnFrom w.heap.size (fun (pre : List α) W => Rel w0 ⟨s.fr, hp, s.r, [], W, s.df⟩ a W) := fun hp pre W W' row h hgr hr =>
    h.keep (grown_keep h hB hgr hr)
  have withD : ∀ {hp : List LB} {W : World} (D : Nat), Rel w0 ⟨s.fr, hp, s.r, [], W, s.df⟩ a W → Rel w0 ⟨s.fr, hp, s.r, [], W, { target := .collected D, args := #[] } :: s.df⟩ { a with defers := { target := .collected D, args := #[] } :: a.defers } W := fun {hp} {W} D h =>
    ⟨congrArg (_ :: ·) h.df, h.fits, ⟨h.at_.below, h.at_.size, h.at_.step, h.at_.blk, h.at_.fresh, h.at_.lt, h.at_.base⟩, h.blk, h.nod, h.len⟩
  have inner : ∀ {hp : List LB} {W : World} {a' : Act} {fr : Fr}, Rel w0 ⟨s.fr, hp, s.r, [], W, s.df⟩ a W → a'.defers = [] → (∀ t, Fits (s.r ++ t) fr a'.tmps) → Rel w0 ⟨fr, hp, s.r, [], W, []⟩ a' W := fun {hp} {W} {a'} {fr} h hd hf =>
    ⟨hd, hf, ⟨h.at_.below, h.at_.size, h.at_.step, h.at_.blk, h.at_.fresh, h.at_.lt, h.at_.base⟩, h.blk, h.nod, h.len⟩
  refine wpIn_rangeFunc_ownH rfl h1 hev trivial eg hseq hKt hKb (Below.refl _ _) (fun x => by simp [hps]) (fun pre W => ∃ c, Rel w0 ⟨s.fr, hpf c, s.r, [], W, s.df⟩ a W ∧ w.heap.size ≤ W.heap.size ∧ Φ pre c W)
    (fun c pre W => (∃ e, exitOf c = some e) ∧ ∃ q, Rel w0 ⟨s.fr, hpx c q, s.r, [], W, s.df⟩ a W ∧ Ix c pre q W)
    ?_ ?_ ?_ (fun x a' _ => a'.defers = [] ∧ ∀ t, Fits (s.r ++ t) (frx x) a'.tmps) (fun _ _ _ _ _ _ h _ _ => h) ?_ ?_ ?_ ?_
  · exact fun pre W W' row ⟨c, h⟩ hgr hr => ⟨c, ownR (hpf c) pre W W' row h.1 hgr hr, Nat.le_trans h.2.1 hgr.size, hΦ c pre W W' row h.2.2 hgr hr⟩
  · exact fun c pre W W' row ⟨h0, q, h⟩ hgr hr => ⟨h0, q, ownR (hpx c q) pre W W' row h.1 hgr hr, hIx c q pre W W' row h.2 hgr hr⟩
  · have h0 := hR.keep keep_refl
    refine ⟨c0, ?_, Nat.le_refl _, hΦ0⟩
    rw [hp0]; exact h0
  · rintro l pre z W K' ⟨c, hI⟩ hK
    have hr1 := rel_sets (w0 := w0) (s := ⟨s.fr, hpf c, s.r, [], W, []⟩) (a := ⟨a.tmps, []⟩) (inner hI.1 rfl hI.1.fits) ps.toList (encs z)
    have e1 : (ps.zip (encs z).toArray).foldl (fun (t : Array Value) (x : Nat × Value) => t.setIfInBounds x.1 x.2) a.tmps = sets a.tmps ps.toList (encs z) := by
      rw [← sets_eq]
    show x.wpIn _ _ _ _ ({ tmps := (ps.zip (encs z).toArray).foldl (fun (t : Array Value) (x : Nat × Value) => t.setIfInBounds x.1 x.2) a.tmps, defers := [] } : Act) W
    rw [e1]
    refine codeD_round hcx l _ _ _ _ _ W _ (hassign l z (hpf c) W) hr1 ?_
    rintro e s' a' W' ⟨rfl, rfl⟩ hR'
    have hgr := grown_of_at (a2 := a) hI.1 hR'.at_ rfl rfl
    refine hK a' W' ⟨hgr.size, fun k o _ hk _ => (hgr.block k (Array.getElem?_eq_some_iff.1 hk).1 (by simp)).trans hk⟩ (hKg W W' hI.2.1 hgr) ⟨c, ownR (hpf c) pre W W' none hI.1 hgr (by simp), Nat.le_trans hI.2.1 hgr.size, hΦ c pre W W' none hI.2.2 hgr (by simp)⟩ ⟨hR'.df, hR'.fits⟩
  · rintro l pre x a' W _ _ ⟨c, hI⟩ hA hN
    refine codeD_round hcx l _ y _ _ _ W _ (hbody l pre x c W hI.2.2 hI.1.at_.below hI.2.1 hN) (inner hI.1 hA.1 hA.2) ?_
    intro e s' a2 w1 hK hR'
    cases e with
    | normal =>
      simp only [St.on_eq] at hK
      obtain ⟨c', h1, h2⟩ := hK
      obtain ⟨h3, h4, h5⟩ := h2.h w1 hR'.at_
      exact ⟨h3, h4, c', covH_rel (s := ⟨s.fr, hpf c, s.r, [], W, s.df⟩) hI.1 hR' h1, Nat.le_trans hI.2.1 h3.size, h5⟩
    | ret =>
      simp only [St.on_eq] at hK
      obtain ⟨c', h1, h2⟩ := hK
      obtain ⟨h3, h5⟩ := h2.h w1 hR'.at_
      exact ⟨h3, ⟨_, rfl⟩, c', covH_rel (s := ⟨s.fr, hpf c, s.r, [], W, s.df⟩) hI.1 hR' h1, h5⟩
    | exit id =>
      simp only [St.on_eq] at hK
      obtain ⟨c', h1, h2⟩ := hK
      obtain ⟨h3, h5⟩ := h2.h w1 hR'.at_
      exact ⟨h3, ⟨_, rfl⟩, c', covH_rel (s := ⟨s.fr, hpf c, s.r, [], W, s.df⟩) hI.1 hR' h1, h5⟩
    | goto l => exact hK.elim
    | panic ch => exact hK.elim
    | outgrown => exact hK.elim
  · rintro D xs W hD hS ⟨c, hI⟩ hd
    exact ⟨_, withD D hI.1, hdone D xs c W hD hS hI.2.2 hd⟩
  · intro D c pre W hD hS hI hd
    obtain ⟨⟨e, he⟩, q, hRx, hix⟩ := hI
    have hk := hstop D c e pre q W hD hS hix he hd
    cases c <;> simp only [exitOf] at he <;> try (cases he; done)
    · injection he with he; subst he; exact wpIn_exit ⟨_, withD D hRx, hk⟩
    · injection he with he; subst he; exact wpIn_ret ⟨_, withD D hRx, hk⟩
end
end Go.Proofs.YtjbhpfmnfdebkaaGreat.Eng

namespace Go.Proofs.YtjbhpfmnfdebkaaGreat
set_option linter.unusedVariables false
set_option linter.unusedSimpArgs false
set_option maxRecDepth 100000
open Go.RowKit Go.Proofs.YtjbhpfmnfdebkaaGreat.Eng Enc

namespace Dbm
def topB (n k : Nat) : Int := if k / n = k % n then 1 else 9223372036854775807
def topL (n : Nat) : List Int := (List.range (n * n)).map (topB n)
def top (n : Int) : Int × List Int × Int := if 1 ≤ n ∧ n ≤ 4 then (n, topL n.toNat, 0) else (0, [], 2)
end Dbm

theorem top_any (n : Int) (w : World) :
    Calls Tryz.prog 61 #[.int .i64 n] w (Ret w fun v w' => ∃ a' cap', v = .tuple #[.agg #[.int .i64 (Dbm.top n).1, .slice a' (Dbm.top n).2.1.length cap'], .int .i64 (Dbm.top n).2.2] ∧ Own TB w.heap.size w' (.slice a' (Dbm.top n).2.1.length cap') (Dbm.top n).2.1) := by
  refine fun_at 9 w.heap.size w (Nat.le_refl _) Tryz.func61 (args := [.val (.int .i64 n)]) rfl rfl ?_
  refine NewI.mk fun b1 hb1 => ?_
  refine Branch.mk (fun hc => ?_) (fun hc => ?_)
  · refine EndI.mk fun w3 h3 => ?_
    have : n < 1 := by simpa using hc
    rw [Dbm.top, if_neg (by omega)]
    exact ⟨_, _, rfl, Own.nil⟩
  refine Branch.mk (fun hc2 => ?_) (fun hc2 => ?_)
  · refine EndI.mk fun w3 h3 => ?_
    have : 4 < n := by simpa using hc2
    rw [Dbm.top, if_neg (by omega)]
    exact ⟨_, _, rfl, Own.nil⟩
  have hn : 1 ≤ n ∧ n ≤ 4 := by
    have h1 : ¬ n < 1 := by simpa using hc
    have h2 : ¬ 4 < n := by simpa using hc2
    omega
  rw [Dbm.top, if_pos hn]
  obtain ⟨N, rfl⟩ : ∃ N : Nat, n = N := ⟨n.toNat, by omega⟩
  have hN1 : 1 ≤ N := by omega
  rw [Int.toNat_natCast]
  refine NewI.mk fun b2 hb2 => ?_
  apply CallI.mk
  intro w7 h7
  refine (callsIn_wide.1 (pairs_any N w7)).mono ?_
  rintro e w8 ⟨rfl, rfl⟩
  have hB1 : Below w7.heap.size w7 (w7.alloc (.cells #[.int .i64 (N : Int)] 3)) := below_al (Below.refl _ _)
  refine ⟨h7.keep hB1, _, rfl, ?_⟩
  have hBs : (w7.alloc (.cells #[.int .i64 (N : Int)] 3)).cell? ⟨w7.heap.size, 0, none⟩ = some (.int .i64 N) := by simp
  have hsz : w7.heap.size < (w7.alloc (.cells #[.int .i64 (N : Int)] 3)).heap.size := by simp
  have hBsb : ∀ b, b ∈ [b1, b2] → b ≠ w7.heap.size := fun b hb e => by have := h7.lt b hb; omega
  have hwBs : w.heap.size ≤ w7.heap.size := h7.below.size
  generalize w7.alloc (.cells #[.int .i64 (N : Int)] 3) = w8 at hBs hsz hB1
  generalize w7.heap.size = Bs at hBs hsz hBsb hwBs
  refine RawI.mk fun ac w1 hR => ?_
  have h1 := hR.at_
  have hBs9 : Bs < w1.heap.size := Nat.lt_of_lt_of_le hsz h1.size
  have hc9 : w1.cell? ⟨Bs, 0, none⟩ = some (.int .i64 (N : Int)) := (h1.go.cell (p := ⟨Bs, 0, none⟩) hsz).trans hBs
  have hl1 := h1.lt b1 (by simp)
  have hl2 := h1.lt b2 (by simp)
  refine rangeE cxOk (by decide) hR rfl Tryz.call196 (pairs_stops N (by omega) (by omega) (N * N) rfl Bs w1 hBs9 hc9) (encs := fun x => (encPI N x).toList) (fun h k => k.trans h) (fun W l o o' => keepsBox_put hBs9 W l o o')
    (fun W W' hs hg => World.cell?_of_block (hg.block Bs (Nat.lt_of_lt_of_le hBs9 hs) (by rintro ⟨⟩))) (fun x => rfl) (γ := Value) (fun v => [⟨[.val (.int .i64 0), .val (.slice none 0 0)], 99⟩, ⟨[.val (.int .i64 N), .val v], 99⟩])
    (fun pre v W => Own TB w1.heap.size W v (pre.map fun x => Dbm.topB N x.1)) ?_ (.slice none 0 0) rfl Own.nil (fun _ _ _ _ => False) (fun _ _ => []) (fun _ _ _ _ _ _ h _ _ => h) _
    (fun l z hp W => And.intro rfl rfl) ?_ ?_ (fun _ _ _ _ _ _ _ _ h => h.elim)
  · intro v pre W W' row hO hg hr
    refine Own.kept hO hg ?_
    obtain ⟨_, ⟨rfl, _⟩ | ⟨g, c, cur, rfl, _, hgb, _⟩⟩ := id hO
    · exact .inl rfl
    · refine .inr (fun e => ?_)
      obtain ⟨_, o, ho, hcl⟩ := hr g e.symm
      rw [hgb] at ho; cases ho; cases hcl
  · intro l pre x v W hO hBW hsW hlt
    have hO1 : Own TB w1.heap.size W v (pre.map fun x => Dbm.topB N x.1) := hO
    have hNN : N * N ≤ 4 * 4 := Nat.mul_le_mul (by omega) (by omega)
    have ed : ((x.val : Int) / N) = ((x.val / N : Nat) : Int) := rfl
    have em : ((x.val : Int) % N) = ((x.val % N : Nat) : Int) := rfl
    refine Branch.mk (fun hc3 => ?_) (fun hc3 => ?_)
    · have hval : Dbm.topB N x.1 = 1 := by
        unfold Dbm.topB
        rw [if_pos (by have : (x.val : Int) / N = (x.val : Int) % N := by simpa using hc3
                       rw [ed, em] at this; omega)]
      refine NewI.mk fun b3 hb3 => ?_
      have hb3' : W.heap.size ≤ b3 := hb3
      have hr : ∀ k, v.ownBlock = some k → w.heap.size ≤ k ∧ k ∉ [b1, b2, b3] := fun k hk => by
        have := hO1.lt k hk
        refine ⟨Nat.le_trans h1.below.size this.1, fun hm => ?_⟩
        simp only [List.mem_cons, List.not_mem_nil, or_false] at hm
        omega
      refine GenN.app (α := Int) elB (pre.map fun x => Dbm.topB N x.1) [Dbm.topB N x.1] w1.heap.size (fun w5 h5 => hO1.below h5.go) (fun w5 h5 => src_own h5 2 rfl rfl (by rw [hval]; rfl) rfl) (by unfold maxLen; simp; omega) (by simp; omega) (fun w5 h5 => Nat.le_trans hsW h5.size)
        (fun w5 w6 h5 hg => keep_grown h5 hg hr) fun sv' w5 w6 h5 hg hO' => ?_
      obtain ⟨a', c', rfl⟩ := hO'.form
      refine ⟨.slice a' ((pre.map fun x => Dbm.topB N x.1) ++ [Dbm.topB N x.1]).length c', ?_⟩
      refine Need.mk (CovH.mk rfl rfl rfl) (EndI.mk fun w7 h7 => ?_)
      have hW7 : W.heap.size ≤ w7.heap.size := Nat.le_trans h5.size (Nat.le_trans hg.size h7.size)
      have row : ∀ k, k < w1.heap.size → v.ownBlock ≠ some k := fun k hk e => by have := hO1.lt k e; omega
      refine ⟨⟨hW7, fun k o _ hk hcl => ?_⟩, ?_, ?_⟩
      · have hkW : k < W.heap.size := (Array.getElem?_eq_some_iff.1 hk).1
        have e5 : w5.heap[k]? = some o := (h5.go.block k hkW).trans hk
        have e6 : w6.heap[k]? = some o := by
          refine (hg.block k (Nat.lt_of_lt_of_le hkW h5.size) (fun e => ?_)).trans e5
          obtain ⟨_, ⟨rfl, _⟩ | ⟨g, c, cur, rfl, _, hgb, _⟩⟩ := id hO1
          · cases e
          · injection e with e
            subst e
            rw [hgb] at hk; cases hk; cases hcl
        refine (h7.step k (Nat.lt_of_lt_of_le hkW (Nat.le_trans h5.size hg.size)) (fun hm => ?_)).trans e6
        simp at hm
        subst hm
        have := h5.blk 1 _ ⟨_, _⟩ (by rfl) (by rfl)
        rw [e5] at this; cases this; cases hcl
      · refine World.cell?_of_block ?_
        have hBW : Bs < W.heap.size := Nat.lt_of_lt_of_le hBs9 hsW
        refine (h7.step Bs (Nat.lt_of_lt_of_le hBW (Nat.le_trans h5.size hg.size)) (fun hm => ?_)).trans ((hg.block Bs (Nat.lt_of_lt_of_le hBW h5.size) (fun e => row Bs hBs9 e.symm)).trans (h5.go.block Bs hBW))
        simp at hm
        exact hBsb b2 (by simp) hm.symm
      · have e1 : (pre ++ [x]).map (fun x => Dbm.topB N x.1) = (pre.map fun x => Dbm.topB N x.1) ++ [Dbm.topB N x.1] := by simp
        rw [e1]
        exact hO'.at h7 (fun b hb => by simp at hb; subst hb; exact hl2)
    · have hval : Dbm.topB N x.1 = 9223372036854775807 := by
        unfold Dbm.topB
        rw [if_neg (by have : ¬ (x.val : Int) / N = (x.val : Int) % N := by simpa using hc3
                       rw [ed, em] at this; omega)]
      refine NewI.mk fun b3 hb3 => ?_
      have hb3' : W.heap.size ≤ b3 := hb3
      have hr : ∀ k, v.ownBlock = some k → w.heap.size ≤ k ∧ k ∉ [b1, b2, b3] := fun k hk => by
        have := hO1.lt k hk
        refine ⟨Nat.le_trans h1.below.size this.1, fun hm => ?_⟩
        simp only [List.mem_cons, List.not_mem_nil, or_false] at hm
        omega
      refine GenN.app (α := Int) elB (pre.map fun x => Dbm.topB N x.1) [Dbm.topB N x.1] w1.heap.size (fun w5 h5 => hO1.below h5.go) (fun w5 h5 => src_own h5 2 rfl rfl (by rw [hval]; rfl) rfl) (by unfold maxLen; simp; omega) (by simp; omega) (fun w5 h5 => Nat.le_trans hsW h5.size)
        (fun w5 w6 h5 hg => keep_grown h5 hg hr) fun sv' w5 w6 h5 hg hO' => ?_
      obtain ⟨a', c', rfl⟩ := hO'.form
      refine ⟨.slice a' ((pre.map fun x => Dbm.topB N x.1) ++ [Dbm.topB N x.1]).length c', ?_⟩
      refine Need.mk (CovH.mk rfl rfl rfl) (EndI.mk fun w7 h7 => ?_)
      have hW7 : W.heap.size ≤ w7.heap.size := Nat.le_trans h5.size (Nat.le_trans hg.size h7.size)
      have row : ∀ k, k < w1.heap.size → v.ownBlock ≠ some k := fun k hk e => by have := hO1.lt k e; omega
      refine ⟨⟨hW7, fun k o _ hk hcl => ?_⟩, ?_, ?_⟩
      · have hkW : k < W.heap.size := (Array.getElem?_eq_some_iff.1 hk).1
        have e5 : w5.heap[k]? = some o := (h5.go.block k hkW).trans hk
        have e6 : w6.heap[k]? = some o := by
          refine (hg.block k (Nat.lt_of_lt_of_le hkW h5.size) (fun e => ?_)).trans e5
          obtain ⟨_, ⟨rfl, _⟩ | ⟨g, c, cur, rfl, _, hgb, _⟩⟩ := id hO1
          · cases e
          · injection e with e
            subst e
            rw [hgb] at hk; cases hk; cases hcl
        refine (h7.step k (Nat.lt_of_lt_of_le hkW (Nat.le_trans h5.size hg.size)) (fun hm => ?_)).trans e6
        simp at hm
        subst hm
        have := h5.blk 1 _ ⟨_, _⟩ (by rfl) (by rfl)
        rw [e5] at this; cases this; cases hcl
      · refine World.cell?_of_block ?_
        have hBW : Bs < W.heap.size := Nat.lt_of_lt_of_le hBs9 hsW
        refine (h7.step Bs (Nat.lt_of_lt_of_le hBW (Nat.le_trans h5.size hg.size)) (fun hm => ?_)).trans ((hg.block Bs (Nat.lt_of_lt_of_le hBW h5.size) (fun e => row Bs hBs9 e.symm)).trans (h5.go.block Bs hBW))
        simp at hm
        exact hBsb b2 (by simp) hm.symm
      · have e1 : (pre ++ [x]).map (fun x => Dbm.topB N x.1) = (pre.map fun x => Dbm.topB N x.1) ++ [Dbm.topB N x.1] := by simp
        rw [e1]
        exact hO'.at h7 (fun b hb => by simp at hb; subst hb; exact hl2)
  · rintro D xs v W hD hSx hO hmark
    have hDW : D < W.heap.size := (Array.getElem?_eq_some_iff.1 hmark).1
    have hO1 : Own TB w1.heap.size W v (xs.map fun x => Dbm.topB N x.1) := hO
    have hxs : (xs.map fun x => Dbm.topB N x.1) = Dbm.topL N := by
      unfold Dbm.topL
      rw [← hSx, List.map_map]; rfl
    rw [hxs] at hO1
    obtain ⟨a', c', rfl⟩ := hO1.form
    have hDb : D ∉ [b1] := fun hm => by simp at hm; omega
    refine EndM.mk fun w10 h10 => ⟨⟨Nat.le_trans h1.below.size hD, (h10.step D hDW hDb).trans hmark⟩, fun w11 hu => ?_⟩
    have hO10 := hO1.at h10 (fun b hb => by simp at hb; subst hb; exact hl1)
    refine ⟨_, _, rfl, (Own.kept (row := some D) hO10 ⟨hu.2.1, hu.2.2.1, hu.2.2.2.1, by rw [hu.1]; exact Nat.le_refl _, fun k _ hk => hu.2.2.2.2 k (fun e => hk (by rw [e]))⟩ ?_).lower h1.below.size⟩
    obtain ⟨_, ⟨e, _⟩ | ⟨g, c, cur, e, _, hgb, _⟩⟩ := id hO10
    · rw [e]; exact .inl rfl
    · rw [e]
      refine .inr (fun e' => ?_)
      injection e' with e'
      subst e'
      have := (h10.step _ hDW hDb).trans hmark
      rw [hgb] at this; cases this
end Go.Proofs.YtjbhpfmnfdebkaaGreat

namespace Go.Proofs.YtjbhpfmnfdebkaaGreat
set_option linter.unusedVariables false
open Go.RowKit Go.Proofs.YtjbhpfmnfdebkaaGreat.Eng Enc

structure Svl where
  a : Option Addr
  len : Nat
  cap : Nat
instance encSvl : Enc Svl := ⟨fun x => [.slice x.a x.len x.cap], 1, fun _ => rfl, by decide, fun _ v hv => by rw [List.mem_singleton.1 hv]; rfl, fun x => .slice x.a x.len x.cap⟩

section
variable {α : Type} [Enc α]
theorem cellsL_set (l : List α) (k : Nat) (x : α) (hk : k < l.length) : cellsL (l.set k x) = (cellsL l).take (k * size α) ++ enc x ++ (cellsL l).drop (k * size α + size α) := by
  induction l generalizing k with
  | nil => simp at hk
  | cons y l ih =>
    cases k with
    | zero =>
      simp only [List.set_cons_zero, cellsL, Nat.zero_mul, List.take_zero, List.nil_append, Nat.zero_add]
      rw [List.drop_append_of_le_length (by rw [Enc.len]; exact Nat.le_refl _), List.drop_of_length_le (by rw [Enc.len]; exact Nat.le_refl _), List.nil_append]
    | succ k =>
      have hk' : k < l.length := by simpa using hk
      simp only [List.set_cons_succ, cellsL, ih k hk']
      have e1 : (k + 1) * size α = size α + k * size α := by rw [Nat.succ_mul]; omega
      rw [e1, List.take_append, List.drop_append, Enc.len, List.take_of_length_le (l := enc y) (by rw [Enc.len]; omega), List.drop_of_length_le (l := enc y) (by rw [Enc.len]; omega)]
      rw [show size α + k * size α - size α = k * size α by omega, show size α + k * size α + size α - size α = k * size α + size α by omega, List.nil_append]
      simp only [List.append_assoc]
theorem Own.set {e : TypeId} {base : Nat} {W : World} {g n cap : Nat} {l : List α} (h : Own e base W (.slice (some ⟨g, 0, none⟩) n cap) l) {cur : Array Value} (hc : W.heap[g]? = some (.cells cur e (0, 0))) (k : Nat) (hk : k < l.length) (x : α) :
    Own e base (W.setRow g (cur.toList.take (k * size α) ++ enc x ++ cur.toList.drop (k * size α + (enc x).length)).toArray) (.slice (some ⟨g, 0, none⟩) n cap) (l.set k x) := by
  obtain ⟨rfl, hb, hlt, cur', hg, hn, hm, hs, ht⟩ := h.at0
  rw [hg] at hc
  injection hc with hc; injection hc with hc _; subst hc
  have hkk : (k + 1) * size α ≤ l.length * size α := Nat.mul_le_mul_right _ hk
  rw [Nat.succ_mul] at hkk
  have hcl : l.length * size α ≤ cap * size α := Nat.mul_le_mul_right _ hn
  refine ⟨by rw [cellsL_len, List.length_set], .inr ⟨g, cap, _, by rw [List.length_set], hb, setRow_heap W g cur' _ e _ hg, by rw [List.length_set]; exact hn, hm, ?_, ?_⟩⟩
  · simp only [List.size_toArray, List.length_append, List.length_take, List.length_drop, Array.length_toList, Enc.len]; omega
  · rw [List.length_set, cellsL_set l k x hk, ← ht]
    have hl : cur'.toList.length = cap * size α := by rw [Array.length_toList, hs]
    apply List.ext_getElem?
    intro j
    simp only [List.getElem?_append, List.getElem?_take, List.getElem?_drop, List.length_append, List.length_take, Enc.len, hl]
    rw [show min (k * size α) (cap * size α) = k * size α by omega, show min (k * size α) (min (l.length * size α) (cap * size α)) = k * size α by omega]
    by_cases h1 : j < k * size α
    · have h1' : j < k * size α + size α := by omega
      have h1'' : j < l.length * size α := by omega
      simp only [h1, h1', h1'', if_true]
    · by_cases h2 : j < k * size α + size α
      · have h2' : j < l.length * size α := by omega
        simp only [h1, h2, h2', if_true, if_false]
      · by_cases h3 : j < l.length * size α
        · have h3' : k * size α + size α + (j - (k * size α + size α)) < l.length * size α := by omega
          simp only [h1, h2, h3, h3', if_true, if_false]
        · have h3' : ¬ k * size α + size α + (j - (k * size α + size α)) < l.length * size α := by omega
          simp only [h1, h2, h3, h3', if_false]
theorem Sl.ldv {n : Nat} {W w : World} {L : List Nat} {a : Option Addr} {ad : Addr} {m cap : Nat} {l : List α} (h : Sl n W (.slice a m cap) l) {k : Nat} {x : α} (hk : l[k]? = some x) {v : Value} (hv : enc x = [v]) (had : a = some ad) (hB : Below n W w) (hL : ∀ b, b ∈ L → n ≤ b) {K : Value → Prop} (hK : K v) :
    LoadI w L (ad.add ((k : Int).toNat * 1)) K := by
  subst had
  have hs : size α = 1 := by have := Enc.len x; rw [hv] at this; exact this.symm
  obtain ⟨h1, h2⟩ := h.cell hk hB
  have h3 := h2 0 v (by rw [hv]; rfl)
  have h0 : ∀ q : Addr, q.add 0 = q := fun q => by simp [Addr.add]
  rw [h0, hs] at h3
  refine ⟨⟨_, ⟨h3, fun e => ?_⟩, hK⟩⟩
  have hb : (ad.add ((k : Int).toNat * 1)).block = ad.block := by unfold Addr.add; split <;> rfl
  rw [hb] at e
  have := hL _ e; omega
end
theorem infoZone : (Tryz.prog.info? 104).map (fun i => (i.zero, i.size, i.bytes)) = some (some (.agg #[.int .i64 0, .int .i64 0, .int .i64 0, .int .i64 0, .int .i64 0, .int .i64 0]), 6, 48) := by kernel_rfl
theorem elZ : ElOk Tryz.prog 22 104 6 48 := elOk (by kernel_rfl) infoZone rfl (by decide)
abbrev TZ : TypeId := 104
end Go.Proofs.YtjbhpfmnfdebkaaGreat

namespace Go.Proofs.YtjbhpfmnfdebkaaGreat
set_option linter.unusedVariables false
set_option linter.unusedSimpArgs false
set_option maxRecDepth 100000
open Go.RowKit Go.Proofs.YtjbhpfmnfdebkaaGreat.Eng Enc

namespace Zo
def matL (z : Zn) : List Int := [1, z.b, z.d, z.a, 1, z.f, z.c, z.e, 1]
theorem kpD_set {w0 : Base} {wr : World} {M r : List Nat} {w1 : World} {g x : Nat} {v : Value} (hg : w0.B ≤ g) (hr : ∀ b, b ∈ r → b ≠ g) (hM : g ∈ M) : kpD w0 wr M r w1 (w1.setCell ⟨g, x, none⟩ v) := fun _ =>
  ⟨keep_set hg hr, fun k hk hkm => Below.heap_setCell _ _ _ _ (fun e => hkm (e ▸ hM))⟩
end Zo

theorem places_any (w : World) : Calls Tryz.prog 202 #[] w fun e w' => e = .returned (.agg #[.int .i64 3, .int .i64 1, .int .i64 6, .int .i64 2, .int .i64 7, .int .i64 5]) ∧ Below w.heap.size w w' := by
  refine fun_eq 0 w Tryz.func202 (args := []) rfl rfl ?_
  repeat' (first
    | (refine Branch.yes rfl ?_)
    | (refine Branch.no rfl ?_)
    | (refine Branch.mk (fun hb => ?_) (fun hb => ?_))
    | (refine NewI.mk fun nb hnb => ?_)
    | (refine Need.mk (by show _ ∧ _; omega) ?_)
    | (refine Need.mk (by omega) ?_)
    | (refine Need.mk ?_ ?_)
    | (refine EndI.mk fun w1 h1 => ?_))
  rfl
def placeOf (i : Nat) : Int := if i = 0 then 3 else if i = 1 then 1 else if i = 2 then 6 else if i = 3 then 2 else if i = 4 then 7 else 5
theorem places_at (i : Nat) (w : World) (h : i < 6 := by decide) : (Instr.index 243 (.agg #[.int .i64 3, .int .i64 1, .int .i64 6, .int .i64 2, .int .i64 7, .int .i64 5]) (.int .i64 i)).run Tryz.prog w = .ok (.int .i64 (placeOf i)) w := by
  rcases (by omega : i = 0 ∨ i = 1 ∨ i = 2 ∨ i = 3 ∨ i = 4 ∨ i = 5) with rfl | rfl | rfl | rfl | rfl | rfl <;> kernel_rfl

theorem zmatrix_any (z : Zn) (w : World) :
    Calls Tryz.prog 130 #[.agg #[.int .i64 z.a, .int .i64 z.b, .int .i64 z.c, .int .i64 z.d, .int .i64 z.e, .int .i64 z.f]] w (Ret w fun v w' => ∃ a' cap', v = .agg #[.int .i64 3, .slice a' (Zo.matL z).length cap'] ∧ Fresh TB w.heap.size w' (.slice a' (Zo.matL z).length cap') (Zo.matL z)) := by
  refine fun_ret 0 w Tryz.func130 (args := [.agg [.val (.int .i64 z.a), .val (.int .i64 z.b), .val (.int .i64 z.c), .val (.int .i64 z.d), .val (.int .i64 z.e), .val (.int .i64 z.f)]]) rfl rfl ?_
  refine NewI.mk fun b1 hb1 => ?_
  refine NewI.mk fun b2 hb2 => ?_
  have htop := fun w => top_any 3 w
  rw [show Dbm.top 3 = (3, Dbm.topL 3, 0) by rfl] at htop
  apply CallI.use
  focus (exact fun w1 h1 => htop w1)
  rintro v w1 w2 h1 hB2 ⟨a1, c1, rfl, hO⟩
  obtain ⟨g, rfl, hgb, hRow⟩ := hO.row (by decide)
  obtain ⟨_, _, _, cur, _, hcap, hmax, _⟩ := hO.at0
  have hgw : w.heap.size ≤ g := Nat.le_trans h1.below.size hgb
  have hg2 := hRow.lt
  refine NewI.mk fun b3 hb3 => ?_
  have hgr : ∀ b, b ∈ [b1, b2, b3] → b ≠ g := fun b hb e => by
    simp only [List.mem_cons, List.not_mem_nil, or_false] at hb
    have l1 := h1.lt b1 (by simp)
    have l2 := h1.lt b2 (by simp)
    omega
  have hgL : ∀ L : List Nat, (∀ b ∈ L, b ∈ [b1, b2, b3]) → g ∉ L := fun L h hm => hgr g (h g hm) rfl
  apply CallI.use1
  focus (exact fun w4 h4 => places_any w4)
  intro w4 w5 h4 hB5
  have hRow := (hRow.at h4 (hgL _ (by simp))).below hB5 (Nat.lt_of_lt_of_le hg2 h4.size)
  refine LoopI.rounds 7 ?_
  refine Branch.yes rfl ?_
  refine GenV.to (x := .int .i64 3) (fun w => places_at 0 w) fun u0 k0 => ?_
  refine DrawI.wr (.tk 0 (.tk 1 (.tk 2 (.tk 3 (.tk 4 (.tk 5 (.tk 6 (.ev 7 .done)))))))) [] [g] (by kernel_rfl) rfl (fun b hb h => hgr b hb (by simpa using h)) fun w0_ h0_ => ?_
  refine Need.mk (by decide) ?_
  refine IdxI.mk ⟨_, ⟨rfl, by omega, by show _ < (9 : Int); omega⟩, ?_⟩
  refine StoreI.mk fun x0 y0 => ?_
  have a0 : RowAt TB x0 g (Dbm.topL 3) := ((hRow.at k0 (hgL _ (by simp))).at h0_ (hgL _ (by simp))).at y0 (hgL _ (by simp))
  rw [show ((⟨g, 0, none⟩ : Addr).add ((3 : Int).toNat * 1)) = ⟨g, 3, none⟩ by simp [addr_addL]]
  refine ⟨⟨⟨_, a0.cell (j := 3) (by simp [Dbm.topL])⟩, a0.frozen _⟩, Zo.kpD_set hgw hgr (by simp [locs]), ?_⟩
  have r0 := a0.set (j := 3) (by simp [Dbm.topL]) z.a
  generalize x0.setCell ⟨g, 3, none⟩ (.int .i64 z.a) = s0 at r0
  refine Need.mk (by simp only [inK]; omega) ?_
  refine Branch.yes rfl ?_
  refine GenV.to (x := .int .i64 1) (fun w => places_at 1 w) fun u1 k1 => ?_
  refine DrawI.wr (.tk 0 (.tk 1 (.tk 2 (.tk 3 (.tk 4 (.tk 5 (.tk 6 (.ev 7 .done)))))))) [] [g] (by kernel_rfl) rfl (fun b hb h => hgr b hb (by simpa using h)) fun w1_ h1_ => ?_
  refine Need.mk (by decide) ?_
  refine IdxI.mk ⟨_, ⟨rfl, by omega, by show _ < (9 : Int); omega⟩, ?_⟩
  refine StoreI.mk fun x1 y1 => ?_
  have a1 : RowAt TB x1 g ((Dbm.topL 3).set 3 z.a) := ((r0.at k1 (hgL _ (by simp))).at h1_ (hgL _ (by simp))).at y1 (hgL _ (by simp))
  rw [show ((⟨g, 0, none⟩ : Addr).add ((1 : Int).toNat * 1)) = ⟨g, 1, none⟩ by simp [addr_addL]]
  refine ⟨⟨⟨_, a1.cell (j := 1) (by simp [Dbm.topL])⟩, a1.frozen _⟩, Zo.kpD_set hgw hgr (by simp [locs]), ?_⟩
  have r1 := a1.set (j := 1) (by simp [Dbm.topL]) z.b
  generalize x1.setCell ⟨g, 1, none⟩ (.int .i64 z.b) = s1 at r1
  refine Need.mk (by simp only [inK]; omega) ?_
  refine Branch.yes rfl ?_
  refine GenV.to (x := .int .i64 6) (fun w => places_at 2 w) fun u2 k2 => ?_
  refine DrawI.wr (.tk 0 (.tk 1 (.tk 2 (.tk 3 (.tk 4 (.tk 5 (.tk 6 (.ev 7 .done)))))))) [] [g] (by kernel_rfl) rfl (fun b hb h => hgr b hb (by simpa using h)) fun w2_ h2_ => ?_
  refine Need.mk (by decide) ?_
  refine IdxI.mk ⟨_, ⟨rfl, by omega, by show _ < (9 : Int); omega⟩, ?_⟩
  refine StoreI.mk fun x2 y2 => ?_
  have a2 : RowAt TB x2 g (((Dbm.topL 3).set 3 z.a).set 1 z.b) := ((r1.at k2 (hgL _ (by simp))).at h2_ (hgL _ (by simp))).at y2 (hgL _ (by simp))
  rw [show ((⟨g, 0, none⟩ : Addr).add ((6 : Int).toNat * 1)) = ⟨g, 6, none⟩ by simp [addr_addL]]
  refine ⟨⟨⟨_, a2.cell (j := 6) (by simp [Dbm.topL])⟩, a2.frozen _⟩, Zo.kpD_set hgw hgr (by simp [locs]), ?_⟩
  have r2 := a2.set (j := 6) (by simp [Dbm.topL]) z.c
  generalize x2.setCell ⟨g, 6, none⟩ (.int .i64 z.c) = s2 at r2
  refine Need.mk (by simp only [inK]; omega) ?_
  refine Branch.yes rfl ?_
  refine GenV.to (x := .int .i64 2) (fun w => places_at 3 w) fun u3 k3 => ?_
  refine DrawI.wr (.tk 0 (.tk 1 (.tk 2 (.tk 3 (.tk 4 (.tk 5 (.tk 6 (.ev 7 .done)))))))) [] [g] (by kernel_rfl) rfl (fun b hb h => hgr b hb (by simpa using h)) fun w3_ h3_ => ?_
  refine Need.mk (by decide) ?_
  refine IdxI.mk ⟨_, ⟨rfl, by omega, by show _ < (9 : Int); omega⟩, ?_⟩
  refine StoreI.mk fun x3 y3 => ?_
  have a3 : RowAt TB x3 g ((((Dbm.topL 3).set 3 z.a).set 1 z.b).set 6 z.c) := ((r2.at k3 (hgL _ (by simp))).at h3_ (hgL _ (by simp))).at y3 (hgL _ (by simp))
  rw [show ((⟨g, 0, none⟩ : Addr).add ((2 : Int).toNat * 1)) = ⟨g, 2, none⟩ by simp [addr_addL]]
  refine ⟨⟨⟨_, a3.cell (j := 2) (by simp [Dbm.topL])⟩, a3.frozen _⟩, Zo.kpD_set hgw hgr (by simp [locs]), ?_⟩
  have r3 := a3.set (j := 2) (by simp [Dbm.topL]) z.d
  generalize x3.setCell ⟨g, 2, none⟩ (.int .i64 z.d) = s3 at r3
  refine Need.mk (by simp only [inK]; omega) ?_
  refine Branch.yes rfl ?_
  refine GenV.to (x := .int .i64 7) (fun w => places_at 4 w) fun u4 k4 => ?_
  refine DrawI.wr (.tk 0 (.tk 1 (.tk 2 (.tk 3 (.tk 4 (.tk 5 (.tk 6 (.ev 7 .done)))))))) [] [g] (by kernel_rfl) rfl (fun b hb h => hgr b hb (by simpa using h)) fun w4_ h4_ => ?_
  refine Need.mk (by decide) ?_
  refine IdxI.mk ⟨_, ⟨rfl, by omega, by show _ < (9 : Int); omega⟩, ?_⟩
  refine StoreI.mk fun x4 y4 => ?_
  have a4 : RowAt TB x4 g (((((Dbm.topL 3).set 3 z.a).set 1 z.b).set 6 z.c).set 2 z.d) := ((r3.at k4 (hgL _ (by simp))).at h4_ (hgL _ (by simp))).at y4 (hgL _ (by simp))
  rw [show ((⟨g, 0, none⟩ : Addr).add ((7 : Int).toNat * 1)) = ⟨g, 7, none⟩ by simp [addr_addL]]
  refine ⟨⟨⟨_, a4.cell (j := 7) (by simp [Dbm.topL])⟩, a4.frozen _⟩, Zo.kpD_set hgw hgr (by simp [locs]), ?_⟩
  have r4 := a4.set (j := 7) (by simp [Dbm.topL]) z.e
  generalize x4.setCell ⟨g, 7, none⟩ (.int .i64 z.e) = s4 at r4
  refine Need.mk (by simp only [inK]; omega) ?_
  refine Branch.yes rfl ?_
  refine GenV.to (x := .int .i64 5) (fun w => places_at 5 w) fun u5 k5 => ?_
  refine DrawI.wr (.tk 0 (.tk 1 (.tk 2 (.tk 3 (.tk 4 (.tk 5 (.tk 6 (.ev 7 .done)))))))) [] [g] (by kernel_rfl) rfl (fun b hb h => hgr b hb (by simpa using h)) fun w5_ h5_ => ?_
  refine Need.mk (by decide) ?_
  refine IdxI.mk ⟨_, ⟨rfl, by omega, by show _ < (9 : Int); omega⟩, ?_⟩
  refine StoreI.mk fun x5 y5 => ?_
  have a5 : RowAt TB x5 g ((((((Dbm.topL 3).set 3 z.a).set 1 z.b).set 6 z.c).set 2 z.d).set 7 z.e) := ((r4.at k5 (hgL _ (by simp))).at h5_ (hgL _ (by simp))).at y5 (hgL _ (by simp))
  rw [show ((⟨g, 0, none⟩ : Addr).add ((5 : Int).toNat * 1)) = ⟨g, 5, none⟩ by simp [addr_addL]]
  refine ⟨⟨⟨_, a5.cell (j := 5) (by simp [Dbm.topL])⟩, a5.frozen _⟩, Zo.kpD_set hgw hgr (by simp [locs]), ?_⟩
  have r5 := a5.set (j := 5) (by simp [Dbm.topL]) z.f
  generalize x5.setCell ⟨g, 5, none⟩ (.int .i64 z.f) = s5 at r5
  refine Need.mk (by simp only [inK]; omega) ?_
  refine Branch.no rfl ?_
  refine EndI.mk fun w9 h9 => ⟨some ⟨g, 0, none⟩, c1, rfl, .inr ⟨g, c1, rfl, ?_, hmax, hgw, ?_⟩⟩
  · simpa [Zo.matL, Dbm.topL] using hcap
  · have hk := r5.at h9 (hgL _ (by simp))
    have e9 : ((((((Dbm.topL 3).set 3 z.a).set 1 z.b).set 6 z.c).set 2 z.d).set 7 z.e).set 5 z.f = Zo.matL z := rfl
    rw [e9] at hk
    exact hk
end Go.Proofs.YtjbhpfmnfdebkaaGreat

namespace Go.Proofs.YtjbhpfmnfdebkaaGreat
set_option linter.unusedVariables false
set_option linter.unusedSimpArgs false
set_option maxRecDepth 100000
open Go.RowKit Go.Proofs.YtjbhpfmnfdebkaaGreat.Eng Enc

structure Sp where
  lo : Int
  ls : Bool
  hi : Int
  hs : Bool
  op : Bool
deriving DecidableEq
instance encSp : Enc Sp := ⟨fun x => [.int .i64 x.lo, .bool x.ls, .int .i64 x.hi, .bool x.hs, .bool x.op], 5, fun _ => rfl, by decide,
  fun _ v hv => by simp only [List.mem_cons, List.not_mem_nil, or_false] at hv; rcases hv with rfl | rfl | rfl | rfl | rfl <;> rfl, fun x => .agg #[.int .i64 x.lo, .bool x.ls, .int .i64 x.hi, .bool x.hs, .bool x.op]⟩
def Sp.ins (s : Sp) : Prop := inK .i64 s.lo ∧ inK .i64 s.hi

namespace Tg
def of (c : Int) (s : Bool) : Int := (Bd.made c s).1
def bad (s : Sp) : Bool := decide (s.lo < -288230376151711744) || decide (288230376151711744 < s.lo) || decide (288230376151711744 < s.hi)
def sides (s : Sp) : Int × Int × Bool :=
  if bad s = true then (0, 0, false) else
  if s.op = true then (of (-s.lo) s.ls, 9223372036854775807, decide (s.hi = 0) && !s.hs)
  else (of (-s.lo) s.ls, of s.hi s.hs, decide (s.lo ≤ s.hi))
def more (L : List Int) (l : List Rt) : List Int := l.foldl (fun M x => M.set x.num.toNat (min (M[x.num.toNat]?.getD 0) x.den)) L
theorem more_len (l : List Rt) (L : List Int) : (more L l).length = L.length := by
  unfold more
  induction l generalizing L with
  | nil => rfl
  | cons x l ih => rw [List.foldl_cons, ih]; simp
end Tg

theorem tmost_any (c : Int) (w : World) :
    Calls Tryz.prog 150 #[.int .i64 c] w fun e w' => e = .returned (.tuple #[.int .i64 (Bd.made c false).1, .int .i64 (Bd.made c false).2]) ∧ Below w.heap.size w w' := by
  refine fun_eq 0 w Tryz.func150 (args := [.val (.int .i64 c)]) rfl rfl ?_
  have st := Stay.first (w := w)
  apply CallI.use1
  focus (exact fun w1 h1 => made_any c false w1)
  intro w1 v1 h1 hB1
  have st := st.next h1 (fun x hx => by simp at hx <;> omega) hB1
  exact EndI.mk fun w9 h9 => rfl
theorem tless_any (c : Int) (w : World) :
    Calls Tryz.prog 149 #[.int .i64 c] w fun e w' => e = .returned (.tuple #[.int .i64 (Bd.made c true).1, .int .i64 (Bd.made c true).2]) ∧ Below w.heap.size w w' := by
  refine fun_eq 0 w Tryz.func149 (args := [.val (.int .i64 c)]) rfl rfl ?_
  have st := Stay.first (w := w)
  apply CallI.use1
  focus (exact fun w1 h1 => made_any c true w1)
  intro w1 v1 h1 hB1
  have st := st.next h1 (fun x hx => by simp at hx <;> omega) hB1
  exact EndI.mk fun w9 h9 => rfl
theorem tof_any (c : Int) (s : Bool) (w : World) :
    Calls Tryz.prog 221 #[.int .i64 c, .bool s] w fun e w' => e = .returned (.int .i64 (Tg.of c s)) ∧ Below w.heap.size w w' := by
  refine fun_eq 0 w Tryz.func221 (args := [.val (.int .i64 c), .val (.bool s)]) rfl rfl ?_
  have st := Stay.first (w := w)
  refine Branch.mk (fun hc => ?_) (fun hc => ?_)
  · skip
    apply CallI.use1
    focus (exact fun w1 h1 => tless_any c w1)
    intro w1 v1 h1 hB1
    have st := st.next h1 (fun x hx => by simp at hx <;> omega) hB1
    refine EndI.mk fun w9 h9 => ?_
    have : s = true := hc
    subst this; rfl
  · skip
    apply CallI.use1
    focus (exact fun w1 h1 => tmost_any c w1)
    intro w1 v1 h1 hB1
    have st := st.next h1 (fun x hx => by simp at hx <;> omega) hB1
    refine EndI.mk fun w9 h9 => ?_
    have : s = false := by simpa using hc
    subst this; rfl
theorem tsides_any (s : Sp) (hs : s.ins) (w : World) :
    Calls Tryz.prog 155 #[.agg #[.int .i64 s.lo, .bool s.ls, .int .i64 s.hi, .bool s.hs, .bool s.op]] w fun e w' => e = .returned (.tuple #[.int .i64 (Tg.sides s).1, .int .i64 (Tg.sides s).2.1, .bool (Tg.sides s).2.2]) ∧ Below w.heap.size w w' := by
  refine fun_eq 0 w Tryz.func155 (args := [.agg [.val (.int .i64 s.lo), .val (.bool s.ls), .val (.int .i64 s.hi), .val (.bool s.hs), .val (.bool s.op)]]) rfl rfl ?_
  have st := Stay.first (w := w)
  refine NewI.mk fun b1 hb1 => ?_
  refine Branch.mk (fun hc => ?_) (fun hc => ?_)
  · have h0 : Tg.bad s = true := by have : s.lo < -288230376151711744 := by simpa using hc
                                    simp [Tg.bad, this]
    rw [Tg.sides, if_pos h0]
    exact EndI.mk fun w9 h9 => rfl
  refine Branch.mk (fun hc2 => ?_) (fun hc2 => ?_)
  · have h0 : Tg.bad s = true := by have : 288230376151711744 < s.lo := by simpa using hc2
                                    simp [Tg.bad, this]
    rw [Tg.sides, if_pos h0]
    exact EndI.mk fun w9 h9 => rfl
  refine Branch.mk (fun hc3 => ?_) (fun hc3 => ?_)
  · have h0 : Tg.bad s = true := by have : 288230376151711744 < s.hi := by simpa using hc3
                                    simp [Tg.bad, this]
    rw [Tg.sides, if_pos h0]
    exact EndI.mk fun w9 h9 => rfl
  have g1 : ¬ s.lo < -288230376151711744 := by simpa using hc
  have g2 : ¬ 288230376151711744 < s.lo := by simpa using hc2
  have g3 : ¬ 288230376151711744 < s.hi := by simpa using hc3
  have h0 : ¬ Tg.bad s = true := by simp [Tg.bad]; omega
  rw [Tg.sides, if_neg h0]
  refine Need.mk (by show _ ∧ _; omega) ?_
  apply CallI.use1
  focus (exact fun w1 h1 => tof_any (-s.lo) s.ls w1)
  intro w1 v1 h1 hB1
  have st := st.next h1 (fun x hx => by simp at hx <;> omega) hB1
  refine Branch.mk (fun hc => ?_) (fun hc => ?_)
  · have ho : s.op = true := hc
    rw [if_pos ho]
    refine Branch.mk (fun hc2 => ?_) (fun hc2 => ?_)
    · have h2 : s.hi = 0 := by simpa using hc2
      refine EndI.mk fun w9 h9 => ?_
      simp [h2]
    · have h2 : ¬ s.hi = 0 := by simpa using hc2
      refine EndI.mk fun w9 h9 => ?_
      simp [h2]
  · have ho : ¬ s.op = true := by simpa using hc
    rw [if_neg ho]
    refine DrawI.go (.tk 0 (.tk 1 (.tk 2 (.tk 3 (.tk 5 (.tk 6 (.tk 7 (.tk 8 (.tk 9 (.ev 4 (.tk 10 (.tk 11 .done)))))))))))) (by kernel_rfl) fun w7 h7 => ?_
    have st := st.at h7 (fun x hx => by simp at hx <;> omega)
    apply CallI.use1
    focus (exact fun w2 h2 => tof_any s.hi s.hs w2)
    intro w2 v2 h2 hB2
    have st := st.next h2 (fun x hx => by simp at hx <;> omega) hB2
    exact EndI.mk fun w9 h9 => rfl

theorem with_any (n : Int) (a : Option Addr) (cap : Nat) (L : List Int) (l : List Rt) (la : Option Addr) (lc : Nat) (hpos : 0 < L.length) (hlen : L.length ≤ 1000000) (hat : ∀ x ∈ l, 0 ≤ x.num ∧ x.num < L.length) (w : World) (hS : Sl w.heap.size w (.slice a L.length cap) L) (hSl : Sl w.heap.size w (.slice la l.length lc) l) :
    Calls Tryz.prog 156 #[.agg #[.int .i64 n, .slice a L.length cap], .slice la l.length lc] w (Ret w fun v w' => ∃ a' cap', v = .tuple #[.agg #[.int .i64 (Dbm.close n (Tg.more L l)).1, .slice a' (Dbm.close n (Tg.more L l)).2.1.length cap'], .int .i64 (Dbm.close n (Tg.more L l)).2.2] ∧ Fresh TB w.heap.size w' (.slice a' (Dbm.close n (Tg.more L l)).2.1.length cap') (Dbm.close n (Tg.more L l)).2.1) := by
  refine fun_ret 0 w Tryz.func156 (args := [.agg [.val (.int .i64 n), .val (.slice a L.length cap)], .val (.slice la l.length lc)]) rfl rfl ?_
  refine NewI.mk fun b1 hb1 => ?_
  refine NewI.mk fun b2 hb2 => ?_
  apply CallI.use
  · exact fun w3 h3 => twin_any n a cap L hlen w3 (Sl.at h3 hS)
  rintro v w3 w4 h3 hB4 ⟨a', cap', rfl, hO⟩
  have hgb : ∀ b, b ∈ [b1, b2] → b < w3.heap.size := fun b hb => h3.lt b hb
  have hwb : w.heap.size ≤ w3.heap.size := h3.below.size
  obtain ⟨g, rfl, hg, hr⟩ := hO.row hpos
  obtain ⟨_, ⟨h0, _⟩ | ⟨g', c', cur', e0, _, hgc, hlc, hm, hs, _⟩⟩ := id hO
  · cases h0
  injection e0 with e0 e1 e2
  injection e0 with e0; injection e0 with e0; subst e0; subst e2
  have hgr : ∀ b, b ∈ [b1, b2] → b ≠ g := fun b hb e => by have := hgb b hb; omega
  have hgw : w.heap.size ≤ g := Nat.le_trans hwb hg
  refine LoopI.invC (α := Nat × World) (fun y => [(12, .val (.int .i64 y.1))]) (fun y => y.2) (fun y => y.1 ≤ l.length ∧ Below w.heap.size w y.2 ∧ RowAt TB y.2 g (Tg.more L (l.take y.1))) (fun y => l.length - y.1) ?_ ?_
  · intro w5 h5
    exact ⟨(0, w5), Cov.mk (by repeat' (first | exact trivial | refine And.intro rfl ?_)) rfl rfl rfl rfl rfl, rfl, Nat.zero_le _, h5.below, hr.at h5 (by simp; exact fun e => hgr b1 (by simp) e.symm)⟩
  rintro ⟨k, W⟩ ⟨hk, hW, hRk⟩
  refine Branch.mk (fun hb => ?_) (fun hb => ?_)
  · have hlt : k < l.length := by simpa using hb
    have hx := List.getElem?_eq_getElem hlt
    have hxa := hat _ (List.mem_of_getElem? hx)
    generalize l[k] = x at hx hxa
    have hlk : (Tg.more L (l.take k)).length = L.length := Tg.more_len _ _
    have e1 : Tg.more L (l.take (k + 1)) = (Tg.more L (l.take k)).set x.num.toNat (min ((Tg.more L (l.take k))[x.num.toNat]?.getD 0) x.den) := by
      have e : l.take (k + 1) = l.take k ++ [x] := by rw [List.take_add_one, hx]; rfl
      rw [e]; simp [Tg.more, List.foldl_append]
    generalize Tg.more L (l.take k) = M at hRk hlk e1
    refine hSl.idx hx fun ad had => ?_
    refine hSl.ld hx had hW (by simp) ?_
    refine NewI.mk fun b3 hb3 => ?_
    have hgr3 : ∀ b, b ∈ [b1, b2, b3] → b ≠ g := fun b hb e => by
      have := hRk.lt
      simp only [List.mem_cons, List.not_mem_nil, or_false] at hb
      rcases hb with rfl | rfl | rfl
      · exact hgr _ (by simp) e
      · exact hgr _ (by simp) e
      · have : W.heap.size ≤ b := hb3
        omega
    obtain ⟨j, hj⟩ : ∃ j : Nat, x.num = j := ⟨x.num.toNat, by omega⟩
    have hjl : j < M.length := by omega
    rw [hj, Int.toNat_natCast] at e1
    refine DrawI.wr (.tk 0 (.tk 1 (.tk 2 (.tk 3 (.tk 4 (.tk 5 (.tk 6 (.tk 7 (.tk 8 (.tk 10 (.tk 11 (.ev 9 (.tk 12 (.tk 13 (.ev 14 .done))))))))))))))) [] [g] (by kernel_rfl) rfl (fun b hb h => hgr3 b hb (by simpa using h)) fun w5 h5 => ?_
    have r5 := hRk.at h5 (by simp; exact fun e => hgr3 b3 (by simp) e.symm)
    simp only [hj]
    refine IdxI.mk ⟨_, ⟨rfl, by omega, by omega⟩, ?_⟩
    rw [show ((⟨g, 0, none⟩ : Addr).add ((j : Int).toNat * 1)) = ⟨g, j, none⟩ by simp [addr_addL]]
    refine LoadI.mk ⟨_, ⟨r5.cell (j := j) hjl, by simp⟩, ?_⟩
    refine IdxI.mk ⟨_, ⟨rfl, by omega, by omega⟩, ?_⟩
    refine StoreI.mk fun w6 h6 => ?_
    have r6 := r5.at h6 (by simp)
    rw [show ((⟨g, 0, none⟩ : Addr).add ((j : Int).toNat * 1)) = ⟨g, j, none⟩ by simp [addr_addL]]
    refine ⟨⟨⟨_, r6.cell (j := j) hjl⟩, r6.frozen _⟩, Zo.kpD_set hgw hgr3 (by simp [locs]), ?_⟩
    obtain ⟨_, _, e0, h1, h2, _⟩ := hSl.form
    unfold maxLen at h2
    injection e0 with _ _ e0
    refine Need.mk (by show _ ∧ _; omega) (EndI.mk fun w12 h12 => ⟨(k + 1, w12), Cov.mk (by repeat' (first | exact trivial | refine And.intro rfl ?_)) rfl rfl rfl rfl rfl, rfl, ⟨hlt, h12.below, ?_⟩, by simp only; omega⟩)
    show RowAt TB w12 g (Tg.more L (l.take (k + 1)))
    rw [e1]
    have em : minL (M[j]?.getD 0) [x.den] = min (M[j]?.getD 0) x.den := by simp [minL]; omega
    rw [em] at h12
    exact (r6.set hjl _).at h12 (by simp)
  · have hge : k = l.length := by have : ¬ k < l.length := by simpa using hb
                                  omega
    subst hge
    rw [List.take_length] at hRk
    have hlm : (Tg.more L l).length = L.length := Tg.more_len _ _
    have hRW : Sl W.heap.size W (.slice (some ⟨g, 0, none⟩) (Tg.more L l).length cap') (Tg.more L l) :=
      Fresh.sl (e := TB) (base := w.heap.size) (.inr ⟨g, cap', rfl, by omega, hm, hgw, hRk⟩)
    rw [← hlm]
    have st := (Stay.first (w := w)).go (Nat.le_refl _) (Below.refl _ _) hW
    apply CallI.use
    focus (exact fun w9 h9 => close_any n _ cap' _ w9 (hRW.st (st.at h9 (fun x hx => by simp at hx <;> omega))))
    rintro v w9 v9 h9 hB9 ⟨a9, c9, rfl, hF9⟩
    have st := st.next h9 (fun x hx => by simp at hx <;> omega) hB9
    exact EndI.mk fun w10 h10 => ⟨a9, c9, rfl, (hF9.at h10 (fun b hb => by rw [List.mem_singleton.1 hb]; exact h9.lt b2 (by simp))).lower h9.below.size⟩

theorem clock_any (n : Int) (a : Option Addr) (m cap : Nat) (i : Int) (w : World) :
    Calls Tryz.prog 154 #[.agg #[.int .i64 n, .slice a m cap], .int .i64 i] w fun e w' => e = .returned (.bool (decide (0 ≤ i ∧ i < n))) ∧ Below w.heap.size w w' := by
  refine fun_eq 0 w Tryz.func154 (args := [.agg [.val (.int .i64 n), .val (.slice a m cap)], .val (.int .i64 i)]) rfl rfl ?_
  refine NewI.mk fun b1 hb1 => ?_
  refine Branch.mk (fun hc => ?_) (fun hc => ?_)
  · have h0 : 0 ≤ i := by simpa using hc
    refine EndI.mk fun w9 h9 => ?_
    simp [h0]
  · have h0 : ¬ 0 ≤ i := by simpa using hc
    refine EndI.mk fun w9 h9 => ?_
    rw [decide_eq_false (fun h => h0 h.1)]

namespace Tg
def between (n : Int) (L : List Int) (i : Int) (s : Sp) : Int × List Int × Int :=
  if Dbm.chk n L = 0 then (if 0 ≤ i ∧ i < n then (if (sides s).2.2 = true then Dbm.close n (more L [⟨i, (sides s).1⟩, ⟨i * n, (sides s).2.1⟩]) else (0, [], 8)) else (0, [], 2)) else (0, [], 8)
end Tg
theorem between_any (n : Int) (a : Option Addr) (cap : Nat) (L : List Int) (i : Int) (s : Sp) (hs : s.ins) (w : World) (hS : Sl w.heap.size w (.slice a L.length cap) L) :
    Calls Tryz.prog 86 #[.agg #[.int .i64 n, .slice a L.length cap], .int .i64 i, .agg #[.int .i64 s.lo, .bool s.ls, .int .i64 s.hi, .bool s.hs, .bool s.op]] w (Ret w fun v w' => ∃ a' cap', v = .tuple #[.agg #[.int .i64 (Tg.between n L i s).1, .slice a' (Tg.between n L i s).2.1.length cap'], .int .i64 (Tg.between n L i s).2.2] ∧ Fresh TB w.heap.size w' (.slice a' (Tg.between n L i s).2.1.length cap') (Tg.between n L i s).2.1) := by
  refine fun_ret 0 w Tryz.func86 (args := [.agg [.val (.int .i64 n), .val (.slice a L.length cap)], .val (.int .i64 i), .agg [.val (.int .i64 s.lo), .val (.bool s.ls), .val (.int .i64 s.hi), .val (.bool s.hs), .val (.bool s.op)]]) rfl rfl ?_
  have st := Stay.first (w := w)
  refine NewI.mk fun b1 hb1 => ?_
  refine NewI.mk fun b2 hb2 => ?_
  refine NewI.mk fun b3 hb3 => ?_
  unfold Tg.between
  apply CallI.use1
  focus (exact fun w1 h1 => dcheck_any n a cap L w1 (hS.st (st.at h1 (fun x hx => by simp at hx <;> omega))))
  intro w1 v1 h1 hB1
  have st := st.next h1 (fun x hx => by simp at hx <;> omega) hB1
  refine Branch.mk (fun hc => ?_) (fun hc => ?_)
  · rw [if_neg (by simpa using hc)]
    exact EndI.mk fun w9 h9 => ⟨_, _, rfl, .inl ⟨rfl, rfl⟩⟩
  have h0 : Dbm.chk n L = 0 := by simpa using hc
  rw [if_pos h0]
  apply CallI.use1
  focus (exact fun w2 h2 => clock_any n a L.length cap i w2)
  intro w2 v2 h2 hB2
  have st := st.next h2 (fun x hx => by simp at hx <;> omega) hB2
  refine Branch.mk (fun hc2 => ?_) (fun hc2 => ?_)
  · have h1 : ¬ (0 ≤ i ∧ i < n) := fun h => by simp [h] at hc2
    rw [if_neg h1]
    exact EndI.mk fun w9 h9 => ⟨_, _, rfl, .inl ⟨rfl, rfl⟩⟩
  have h1 : 0 ≤ i ∧ i < n := by
    have : decide (0 ≤ i ∧ i < n) = true := by
      cases hd : decide (0 ≤ i ∧ i < n)
      · rw [hd] at hc2; cases hc2
      · rfl
    simpa using this
  rw [if_pos h1]
  apply CallI.use1
  focus (exact fun w3 h3 => tsides_any s hs w3)
  intro w3 v3 h3 hB3
  have st := st.next h3 (fun x hx => by simp at hx <;> omega) hB3
  generalize hD : Tg.sides s = D
  obtain ⟨below, above, is⟩ := D
  refine Branch.mk (fun hc3 => ?_) (fun hc3 => ?_)
  · have h2 : ¬ is = true := by simpa using hc3
    rw [if_neg h2]
    exact EndI.mk fun w9 h9 => ⟨_, _, rfl, .inl ⟨rfl, rfl⟩⟩
  have h2 : is = true := by simpa using hc3
  rw [if_pos h2]
  obtain ⟨c1, c2, c3, c4⟩ := Dbm.chk_iff.1 h0
  have hb : 0 ≤ i * n ∧ i * n < L.length ∧ i < L.length ∧ L.length ≤ 16 := by
    rw [c3]
    have : (L.length : Int) ≤ 16 := by
      rw [c3]
      rcases (by omega : n = 1 ∨ n = 2 ∨ n = 3 ∨ n = 4) with rfl | rfl | rfl | rfl <;> omega
    rcases (by omega : n = 1 ∨ n = 2 ∨ n = 3 ∨ n = 4) with rfl | rfl | rfl | rfl <;> omega
  refine Need.mk (by show _ ∧ _; omega) ?_
  refine NewI.mk fun b4 hb4 => ?_
  apply CallI.use
  focus (exact fun w4 h4 => with_any n a cap L [⟨i, below⟩, ⟨i * n, above⟩] _ 2 (by omega) (by omega) (by intro x hx; rcases List.mem_cons.1 hx with rfl | hx; exact ⟨h1.1, hb.2.2.1⟩; rw [List.mem_singleton.1 hx]; exact ⟨hb.1, hb.2.1⟩) w4 (hS.st (st.at h4 (fun x hx => by simp at hx <;> omega))) (Sl.own (l := [(⟨i, below⟩ : Rt), ⟨i * n, above⟩]) h4 3 rfl rfl rfl (Nat.le_refl _) (by simp [maxLen])))
  rintro v w4 v4 h4 hB4 ⟨a1, q1, rfl, hF1⟩
  have st := st.next h4 (fun x hx => by simp at hx <;> omega) hB4
  exact EndI.mk fun w10 h10 => ⟨a1, q1, rfl, (hF1.at h10 (fun b hb => by rw [List.mem_singleton.1 hb]; exact h4.lt b3 (by simp))).lower h4.below.size⟩
end Go.Proofs.YtjbhpfmnfdebkaaGreat

namespace Go.Proofs.YtjbhpfmnfdebkaaGreat
set_option linter.unusedVariables false
open Go.ChangeShapes Go.WideShapes Go.ChangeAt Go.RowKit Go.Deep Go.Proofs.YtjbhpfmnfdebkaaGreat.Eng

section
variable {H : Type} {en : TypeId × Value → H} {P : Program}
theorem trod_struct5 {w : World} {base : Nat} {spare : Nat → Bool} {held : Bool} {t : TypeId} {f0 f1 f2 f3 f4 : Field} {fuel : Nat} {cs : List Value} {x : DataW H × List MemPlace} (ht : P.underlying t = some (.struct #[f0, f1, f2, f3, f4])) (h : DataW.trod en P w base spare held fuel t cs = some x) :
    ∃ y0 y1 y2 y3 y4 n, cs.length = P.cellsOf t ∧ DataW.trod en P w base spare held n f0.type ((cs.drop f0.offset).take (P.cellsOf f0.type)) = some y0 ∧ DataW.trod en P w base spare held n f1.type ((cs.drop f1.offset).take (P.cellsOf f1.type)) = some y1 ∧
      DataW.trod en P w base spare held n f2.type ((cs.drop f2.offset).take (P.cellsOf f2.type)) = some y2 ∧ DataW.trod en P w base spare held n f3.type ((cs.drop f3.offset).take (P.cellsOf f3.type)) = some y3 ∧ DataW.trod en P w base spare held n f4.type ((cs.drop f4.offset).take (P.cellsOf f4.type)) = some y4 := by
  obtain ⟨xs, n, _, rfl, hl, hlen, hf⟩ := DataW.trod_struct ht h
  match xs, hlen with
  | [y0, y1, y2, y3, y4], _ => exact ⟨y0, y1, y2, y3, y4, n, hl, by simpa using hf 0 f0 rfl, by simpa using hf 1 f1 rfl, by simpa using hf 2 f2 rfl, by simpa using hf 3 f3 rfl, by simpa using hf 4 f4 rfl⟩
theorem opens_sp {e : TypeId} {f0 f1 f2 f3 f4 : Field} (he : P.underlying e = some (.struct #[f0, f1, f2, f3, f4])) (hc : P.cellsOf e = 5) (o0 : f0.offset = 0) (o1 : f1.offset = 1) (o2 : f2.offset = 2) (o3 : f3.offset = 3) (o4 : f4.offset = 4)
    (c0 : P.cellsOf f0.type = 1) (c1 : P.cellsOf f1.type = 1) (c2 : P.cellsOf f2.type = 1) (c3 : P.cellsOf f3.type = 1) (c4 : P.cellsOf f4.type = 1)
    (t0 : P.underlying f0.type = some (.int .i64)) (t1 : P.underlying f1.type = some .bool) (t2 : P.underlying f2.type = some (.int .i64)) (t3 : P.underlying f3.type = some .bool) (t4 : P.underlying f4.type = some .bool) : Opens en P e Sp Sp.ins := by
  refine ⟨hc, fun W b sp hl fuel cs x h => ?_⟩
  obtain ⟨y0, y1, y2, y3, y4, n, hlen, k0, k1, k2, k3, k4⟩ := trod_struct5 he h
  rw [hc] at hlen
  match cs, hlen with
  | [p0, p1, p2, p3, p4], _ =>
    rw [o0, c0] at k0
    rw [o1, c1] at k1
    rw [o2, c2] at k2
    rw [o3, c3] at k3
    rw [o4, c4] at k4
    obtain ⟨m0, e0, _, w0⟩ := DataW.trod_int t0 k0
    obtain ⟨m1, e1, _⟩ := DataW.trod_bool t1 k1
    obtain ⟨m2, e2, _, w2⟩ := DataW.trod_int t2 k2
    obtain ⟨m3, e3, _⟩ := DataW.trod_bool t3 k3
    obtain ⟨m4, e4, _⟩ := DataW.trod_bool t4 k4
    simp at e0 e1 e2 e3 e4
    subst e0; subst e1; subst e2; subst e3; subst e4
    exact ⟨⟨m0, m1, m2, m3, m4⟩, rfl, inK_wf w0, inK_wf w2⟩
end
end Go.Proofs.YtjbhpfmnfdebkaaGreat

namespace Go.Proofs.YtjbhpfmnfdebkaaGreat
set_option linter.unusedVariables false
set_option linter.unusedSimpArgs false
set_option maxRecDepth 100000
open Go.RowKit Go.Proofs.YtjbhpfmnfdebkaaGreat.Eng Enc

theorem equalB_any (L M : List Int) (a b : Option Addr) (ca cb : Nat) (w : World) (hA : Sl w.heap.size w (.slice a L.length ca) L) (hB : Sl w.heap.size w (.slice b M.length cb) M) :
    Calls Tryz.prog 206 #[.slice a L.length ca, .slice b M.length cb] w fun e w' => e = .returned (.bool (decide (L = M))) ∧ Below w.heap.size w w' := by
  refine fun_eq 0 w Tryz.func206 (args := [.val (.slice a L.length ca), .val (.slice b M.length cb)]) rfl rfl ?_
  refine Branch.mk (fun hl => ?_) (fun hl => ?_)
  · refine EndI.mk fun w3 h3 => ?_
    have h0 : ¬ (L.length : Int) = M.length := by simpa using hl
    rw [decide_eq_false (fun h => h0 (by rw [h]))]
  have hlen : L.length = M.length := by have : (L.length : Int) = M.length := by simpa using hl
                                        omega
  refine LoopI.invC (α := Nat × World) (fun y => [(13, .val (.int .i64 y.1))]) (fun y => y.2) (fun y => y.1 ≤ L.length ∧ Below w.heap.size w y.2 ∧ ∀ i, i < y.1 → L[i]? = M[i]?) (fun y => L.length - y.1) ?_ ?_
  · intro w1 h1
    exact ⟨(0, w1), Cov.mk (by repeat' (first | exact trivial | refine And.intro rfl ?_)) rfl rfl rfl rfl rfl, rfl, Nat.zero_le _, h1.below, fun i hi => by omega⟩
  rintro ⟨k, W⟩ ⟨hk, hW, hall⟩
  refine Branch.mk (fun hc => ?_) (fun hc => ?_)
  · have hlt : k < L.length := by simpa using hc
    have hgC := List.getElem?_eq_getElem (l := L) (i := k) (by omega)
    have hgM := List.getElem?_eq_getElem (l := M) (i := k) (by omega)
    have hAW := hA.go hW hW.size
    have hBW := hB.go hW hW.size
    refine DrawI.go (.tk 0 (.tk 1 (.tk 2 (.tk 3 (.tk 4 (.tk 5 (.tk 6 (.tk 7 (.tk 8 .done))))))))) (by kernel_rfl) fun w1 h1 => ?_
    have k1 := h1.go
    refine hAW.idx hgC fun ad had => ?_
    refine hAW.ld1 hgC had k1 (by simp) ?_
    refine hBW.idx hgM fun ad had => ?_
    refine hBW.ld1 hgM had k1 (by simp) ?_
    refine Branch.mk (fun hc2 => ?_) (fun hc2 => ?_)
    · have hne : ¬ L[k] = M[k]'(by omega) := by simpa using hc2
      refine EndI.mk fun w4 h4 => ?_
      rw [decide_eq_false]
      intro h
      apply hne
      simp [h]
    · have he : L[k] = M[k]'(by omega) := by simpa using hc2
      obtain ⟨_, _, e0, h1, h2, _⟩ := hA.form
      unfold maxLen at h2
      injection e0 with _ _ e0
      refine Need.mk (by show _ ∧ _; omega) (EndI.mk fun w7 h7 => ⟨(k + 1, w7), Cov.mk (by repeat' (first | exact trivial | refine And.intro rfl ?_)) rfl rfl rfl rfl rfl, rfl, ⟨hlt, h7.below, fun i hi => ?_⟩, by simp only; omega⟩)
      rcases Nat.lt_succ_iff_lt_or_eq.1 hi with h' | h'
      · exact hall i h'
      · rw [h', hgC, hgM, he]
  · have hge : k = L.length := by have : ¬ k < L.length := by simpa using hc
                                  omega
    refine EndI.mk fun w5 h5 => ?_
    rw [decide_eq_true]
    refine List.ext_getElem? fun i => ?_
    rcases Nat.lt_or_ge i k with h | h
    · exact hall i h
    · rw [List.getElem?_eq_none (by omega), List.getElem?_eq_none (by omega)]

theorem same_any (n m : Int) (L M : List Int) (a b : Option Addr) (ca cb : Nat) (w : World) (hA : Sl w.heap.size w (.slice a L.length ca) L) (hB : Sl w.heap.size w (.slice b M.length cb) M) :
    Calls Tryz.prog 134 #[.agg #[.int .i64 n, .slice a L.length ca], .agg #[.int .i64 m, .slice b M.length cb]] w fun e w' => e = .returned (.bool (decide (n = m ∧ L = M))) ∧ Below w.heap.size w w' := by
  refine fun_eq 0 w Tryz.func134 (args := [.agg [.val (.int .i64 n), .val (.slice a L.length ca)], .agg [.val (.int .i64 m), .val (.slice b M.length cb)]]) rfl rfl ?_
  have st := Stay.first (w := w)
  refine NewI.mk fun b1 hb1 => ?_
  refine NewI.mk fun b2 hb2 => ?_
  refine Branch.mk (fun hc => ?_) (fun hc => ?_)
  rotate_left
  · have h0 : ¬ n = m := by simpa using hc
    refine EndI.mk fun w3 h3 => ?_
    simp [h0]
  have h0 : n = m := by simpa using hc
  apply CallI.use1
  focus (exact fun w1 h1 => equalB_any L M a b ca cb w1 (hA.st (st.at h1 (fun x hx => by simp at hx <;> omega))) (hB.st (st.at h1 (fun x hx => by simp at hx <;> omega))))
  intro w1 v1 h1 hB1
  have st := st.next h1 (fun x hx => by simp at hx <;> omega) hB1
  refine EndI.mk fun w3 h3 => ?_
  simp [h0]
end Go.Proofs.YtjbhpfmnfdebkaaGreat

namespace Go.Proofs.YtjbhpfmnfdebkaaGreat
set_option linter.unusedVariables false
set_option linter.unusedSimpArgs false
set_option maxRecDepth 100000
open Go.RowKit Go.Proofs.YtjbhpfmnfdebkaaGreat.Eng Enc

namespace Zo
theorem matL_len (z : Zn) : (matL z).length = 9 := rfl
def chk (z : Zn) : Int := if Dbm.close 3 (matL z) = (3, matL z, 0) then 0 else 8
theorem chk_eq {z : Zn} : chk z = 0 ↔ Dbm.close 3 (matL z) = (3, matL z, 0) := by unfold chk; split <;> simp_all
def has (z : Zn) (p : Pt) : Bool × Int := if chk z = 0 ∧ p.t.ok = true ∧ p.u.ok = true then Dbm.keeps 3 (matL z) [p.t, p.u] else (false, 8)
end Zo

theorem zcheck_any (z : Zn) (w : World) :
    Calls Tryz.prog 70 #[.agg #[.int .i64 z.a, .int .i64 z.b, .int .i64 z.c, .int .i64 z.d, .int .i64 z.e, .int .i64 z.f]] w fun e w' => e = .returned (.int .i64 (Zo.chk z)) ∧ Below w.heap.size w w' := by
  refine fun_eq 0 w Tryz.func70 (args := [.agg [.val (.int .i64 z.a), .val (.int .i64 z.b), .val (.int .i64 z.c), .val (.int .i64 z.d), .val (.int .i64 z.e), .val (.int .i64 z.f)]]) rfl rfl ?_
  have st := Stay.first (w := w)
  refine NewI.mk fun b1 hb1 => ?_
  apply CallI.use
  focus (exact fun w1 h1 => zmatrix_any z w1)
  rintro v w1 v1 h1 hB1 ⟨a1, c1, rfl, hF1⟩
  have st := st.next h1 (fun x hx => by simp at hx <;> omega) hB1
  refine NewI.mk fun b2 hb2 => ?_
  have hcl := fun (w : World) (h : Sl w.heap.size w (.slice a1 (Zo.matL z).length c1) (Zo.matL z)) => close_any 3 a1 c1 (Zo.matL z) w h
  unfold Zo.chk
  generalize hD : Dbm.close 3 (Zo.matL z) = D at hcl
  obtain ⟨n, C, e⟩ := D
  apply CallI.use
  focus (exact fun w2 h2 => hcl w2 (hF1.sl.st (st.at h2 (fun x hx => by simp at hx <;> omega))))
  rintro v w2 v2 h2 hB2 ⟨a2, c2, rfl, hF2⟩
  have st := st.next h2 (fun x hx => by simp at hx <;> omega) hB2
  refine NewI.mk fun b3 hb3 => ?_
  refine Branch.mk (fun hc => ?_) (fun hc => ?_)
  · have he : ¬ e = 0 := by simpa using hc
    refine EndI.mk fun w3 h3 => ?_
    rw [if_neg (by simp [he])]
  have he : e = 0 := by simpa using hc
  apply CallI.use1
  focus (exact fun w3 h3 => same_any n 3 C (Zo.matL z) a2 a1 c2 c1 w3 (hF2.sl.st (st.at h3 (fun x hx => by simp at hx <;> omega))) (hF1.sl.st (st.at h3 (fun x hx => by simp at hx <;> omega))))
  intro w3 v3 h3 hB3
  have st := st.next h3 (fun x hx => by simp at hx <;> omega) hB3
  refine Branch.mk (fun hc => ?_) (fun hc => ?_)
  · have h0 : ¬ (n = 3 ∧ C = Zo.matL z) := fun h => by rw [h.1, h.2] at hc; simp at hc
    refine EndI.mk fun w3 h3 => ?_
    rw [if_neg (fun h => h0 ⟨(Prod.mk.inj h).1, (Prod.mk.inj (Prod.mk.inj h).2).1⟩)]
  · have h0 : n = 3 ∧ C = Zo.matL z := by simpa using hc
    refine EndI.mk fun w3 h3 => ?_
    rw [if_pos (by rw [h0.1, h0.2, he])]

theorem zhas_any (z : Zn) (p : Pt) (hp : p.ins) (w : World) :
    Calls Tryz.prog 63 #[.agg #[.int .i64 z.a, .int .i64 z.b, .int .i64 z.c, .int .i64 z.d, .int .i64 z.e, .int .i64 z.f], .agg #[.int .i64 p.t.num, .int .i64 p.t.den, .int .i64 p.u.num, .int .i64 p.u.den]] w (Ret w fun v w' => v = .tuple #[.bool (Zo.has z p).1, .int .i64 (Zo.has z p).2]) := by
  refine fun_ret 0 w Tryz.func63 (args := [.agg [.val (.int .i64 z.a), .val (.int .i64 z.b), .val (.int .i64 z.c), .val (.int .i64 z.d), .val (.int .i64 z.e), .val (.int .i64 z.f)], .agg [.val (.int .i64 p.t.num), .val (.int .i64 p.t.den), .val (.int .i64 p.u.num), .val (.int .i64 p.u.den)]]) rfl rfl ?_
  have st := Stay.first (w := w)
  refine NewI.mk fun b1 hb1 => ?_
  refine NewI.mk fun b2 hb2 => ?_
  unfold Zo.has
  apply CallI.use1
  focus (exact fun w1 h1 => zcheck_any z w1)
  intro w1 v1 h1 hB1
  have st := st.next h1 (fun x hx => by simp at hx <;> omega) hB1
  refine Branch.mk (fun hc => ?_) (fun hc => ?_)
  · have h0 : ¬ Zo.chk z = 0 := by simpa using hc
    rw [if_neg (fun h => h0 h.1)]
    exact EndI.mk fun w3 h3 => rfl
  have h0 : Zo.chk z = 0 := by simpa using hc
  apply CallI.use1
  focus (exact fun w2 h2 => rcheck_any p.t.num p.t.den hp.1.1 hp.1.2 w2)
  intro w2 v2 h2 hB2
  have st := st.next h2 (fun x hx => by simp at hx <;> omega) hB2
  refine Branch.mk (fun hc => ?_) (fun hc => ?_)
  · have h1 : ¬ Fr.chk p.t.num p.t.den = 0 := by simpa using hc
    rw [if_neg (fun h => h1 (Fr.chk_yes h.2.1))]
    exact EndI.mk fun w3 h3 => rfl
  have h1 : Fr.chk p.t.num p.t.den = 0 := by simpa using hc
  apply CallI.use1
  focus (exact fun w3 h3 => rcheck_any p.u.num p.u.den hp.2.1 hp.2.2 w3)
  intro w3 v3 h3 hB3
  have st := st.next h3 (fun x hx => by simp at hx <;> omega) hB3
  refine Branch.mk (fun hc => ?_) (fun hc => ?_)
  · have h2 : ¬ Fr.chk p.u.num p.u.den = 0 := by simpa using hc
    rw [if_neg (fun h => h2 (Fr.chk_yes h.2.2))]
    exact EndI.mk fun w3 h3 => rfl
  have h2 : Fr.chk p.u.num p.u.den = 0 := by simpa using hc
  rw [if_pos ⟨h0, Fr.chk_eq.1 h1, Fr.chk_eq.1 h2⟩]
  refine DrawI.go (.tk 0 (.tk 2 (.tk 3 (.tk 4 (.tk 5 (.two 1 (.ev 6 (.ev 7 (.tk 8 (.tk 9 (.tk 10 (.tk 11 .done)))))) 6 (.ev 1 (.ev 7 (.tk 8 (.tk 9 (.tk 10 (.tk 11 .done)))))))))))) (by kernel_rfl) fun w7 h7 => ?_
  have st := st.at h7 (fun x hx => by simp at hx <;> omega)
  have hT : ∀ x ∈ [p.t, p.u], x.ins := fun x hx => by
    rcases List.mem_cons.1 hx with rfl | hx
    · exact hp.1
    · rw [List.mem_singleton.1 hx]; exact hp.2
  refine Both.mk ?_ ?_
  · skip
    apply CallI.use
    focus (exact fun w4 h4 => zmatrix_any z w4)
    rintro v w4 v4 h4 hB4 ⟨a1, c1, rfl, hF1⟩
    have st := st.next h4 (fun x hx => by simp at hx <;> omega) hB4
    refine NewI.mk fun b3 hb3 => ?_
    apply CallI.use
    focus (exact fun w5 h5 => dkeeps_any 3 a1 c1 (Zo.matL z) [p.t, p.u] _ 2 w5 hT (hF1.sl.st (st.at h5 (fun x hx => by simp at hx <;> omega))) (Sl.own (l := [p.t, p.u]) h5 2 rfl rfl rfl (Nat.le_refl _) (by simp [maxLen])))
    rintro v w5 v5 h5 hB5 rfl
    have st := st.next h5 (fun x hx => by simp at hx <;> omega) hB5
    exact EndI.mk fun w9 h9 => rfl
  · refine NewI.mk fun b3 hb3 => ?_
    apply CallI.use
    focus (exact fun w4 h4 => zmatrix_any z w4)
    rintro v w4 v4 h4 hB4 ⟨a1, c1, rfl, hF1⟩
    have st := st.next h4 (fun x hx => by simp at hx <;> omega) hB4
    apply CallI.use
    focus (exact fun w5 h5 => dkeeps_any 3 a1 c1 (Zo.matL z) [p.t, p.u] _ 2 w5 hT (hF1.sl.st (st.at h5 (fun x hx => by simp at hx <;> omega))) (Sl.own (l := [p.t, p.u]) h5 2 rfl rfl rfl (Nat.le_refl _) (by simp [maxLen])))
    rintro v w5 v5 h5 hB5 rfl
    have st := st.next h5 (fun x hx => by simp at hx <;> omega) hB5
    exact EndI.mk fun w9 h9 => rfl
end Go.Proofs.YtjbhpfmnfdebkaaGreat

namespace Go.Proofs.YtjbhpfmnfdebkaaGreat
set_option linter.unusedVariables false
set_option linter.unusedSimpArgs false
set_option maxRecDepth 100000
open Go.RowKit Go.Proofs.YtjbhpfmnfdebkaaGreat.Eng Enc

namespace Zo
def nought : Zn := ⟨0, 0, 0, 0, 0, 0⟩
def ofL (L : List Int) : Zn := ⟨L[3]?.getD 0, L[1]?.getD 0, L[6]?.getD 0, L[2]?.getD 0, L[7]?.getD 0, L[5]?.getD 0⟩
def told (L : List Int) : Zn × Int := if Dbm.chk 3 L = 0 then (ofL L, 0) else (nought, 8)
def of (n : Int) (L : List Int) : Zn × Int :=
  if Dbm.chk n L = 0 then (if n = 3 then (if (Dbm.close 3 L).2.2 = 0 then told (Dbm.close 3 L).2.1 else (nought, (Dbm.close 3 L).2.2)) else (nought, 40)) else (nought, 8)
end Zo

theorem ztold_any (a : Option Addr) (cap : Nat) (L : List Int) (w : World) (hS : Sl w.heap.size w (.slice a L.length cap) L) :
    Calls Tryz.prog 128 #[.agg #[.int .i64 3, .slice a L.length cap]] w fun e w' => e = .returned (.tuple #[.agg #[.int .i64 (Zo.told L).1.a, .int .i64 (Zo.told L).1.b, .int .i64 (Zo.told L).1.c, .int .i64 (Zo.told L).1.d, .int .i64 (Zo.told L).1.e, .int .i64 (Zo.told L).1.f], .int .i64 (Zo.told L).2]) ∧ Below w.heap.size w w' := by
  refine fun_eq 0 w Tryz.func128 (args := [.agg [.val (.int .i64 3), .val (.slice a L.length cap)]]) rfl rfl ?_
  have st := Stay.first (w := w)
  refine NewI.mk fun b1 hb1 => ?_
  refine NewI.mk fun b2 hb2 => ?_
  unfold Zo.told
  apply CallI.use1
  focus (exact fun w1 h1 => dcheck_any 3 a cap L w1 (hS.st (st.at h1 (fun x hx => by simp at hx <;> omega))))
  intro w1 v1 h1 hB1
  have st := st.next h1 (fun x hx => by simp at hx <;> omega) hB1
  refine Branch.mk (fun hc => ?_) (fun hc => ?_)
  · have h0 : ¬ Dbm.chk 3 L = 0 := by simpa using hc
    have h8 := (Dbm.chk_cases 3 L).resolve_left h0
    rw [if_neg h0, h8]
    exact EndI.mk fun w9 h9 => rfl
  have h0 : Dbm.chk 3 L = 0 := by simpa using hc
  rw [if_pos h0]
  obtain ⟨c1, c2, c3, c4⟩ := Dbm.chk_iff.1 h0
  have hL9 : L.length = 9 := by omega
  have g : ∀ k, k < 9 → L[k]? = some (L[k]?.getD 0) := fun k hk => by rw [List.getElem?_eq_getElem (by omega)]; rfl
  apply CallI.use1
  focus (exact fun w4 h4 => places_any w4)
  intro w4 w5 h4 hB5
  have st := st.next h4 (fun x hx => by simp at hx <;> omega) hB5
  refine LoopI.rounds 7 ?_
  refine Branch.yes rfl ?_
  refine GenV.to (x := .int .i64 3) (fun w => places_at 0 w) fun u0 k0 => ?_
  refine hS.idx (k := 3) (g 3 (by decide)) fun ad had => ?_
  refine hS.ld1 (g 3 (by decide)) had k0.below (by first | (intro b hb; cases hb; done) | (intro b hb; rw [List.mem_singleton.1 hb]; exact hb2)) ?_
  refine Need.mk (by decide) ?_
  refine Need.mk (by simp only [inK]; omega) ?_
  refine Branch.yes rfl ?_
  refine GenV.to (x := .int .i64 1) (fun w => places_at 1 w) fun u1 k1 => ?_
  refine hS.idx (k := 1) (g 1 (by decide)) fun ad had => ?_
  refine hS.ld1 (g 1 (by decide)) had k1.below (by first | (intro b hb; cases hb; done) | (intro b hb; rw [List.mem_singleton.1 hb]; exact hb2)) ?_
  refine Need.mk (by decide) ?_
  refine Need.mk (by simp only [inK]; omega) ?_
  refine Branch.yes rfl ?_
  refine GenV.to (x := .int .i64 6) (fun w => places_at 2 w) fun u2 k2 => ?_
  refine hS.idx (k := 6) (g 6 (by decide)) fun ad had => ?_
  refine hS.ld1 (g 6 (by decide)) had k2.below (by first | (intro b hb; cases hb; done) | (intro b hb; rw [List.mem_singleton.1 hb]; exact hb2)) ?_
  refine Need.mk (by decide) ?_
  refine Need.mk (by simp only [inK]; omega) ?_
  refine Branch.yes rfl ?_
  refine GenV.to (x := .int .i64 2) (fun w => places_at 3 w) fun u3 k3 => ?_
  refine hS.idx (k := 2) (g 2 (by decide)) fun ad had => ?_
  refine hS.ld1 (g 2 (by decide)) had k3.below (by first | (intro b hb; cases hb; done) | (intro b hb; rw [List.mem_singleton.1 hb]; exact hb2)) ?_
  refine Need.mk (by decide) ?_
  refine Need.mk (by simp only [inK]; omega) ?_
  refine Branch.yes rfl ?_
  refine GenV.to (x := .int .i64 7) (fun w => places_at 4 w) fun u4 k4 => ?_
  refine hS.idx (k := 7) (g 7 (by decide)) fun ad had => ?_
  refine hS.ld1 (g 7 (by decide)) had k4.below (by first | (intro b hb; cases hb; done) | (intro b hb; rw [List.mem_singleton.1 hb]; exact hb2)) ?_
  refine Need.mk (by decide) ?_
  refine Need.mk (by simp only [inK]; omega) ?_
  refine Branch.yes rfl ?_
  refine GenV.to (x := .int .i64 5) (fun w => places_at 5 w) fun u5 k5 => ?_
  refine hS.idx (k := 5) (g 5 (by decide)) fun ad had => ?_
  refine hS.ld1 (g 5 (by decide)) had k5.below (by first | (intro b hb; cases hb; done) | (intro b hb; rw [List.mem_singleton.1 hb]; exact hb2)) ?_
  refine Need.mk (by decide) ?_
  refine Need.mk (by simp only [inK]; omega) ?_
  refine Branch.no rfl ?_
  exact EndI.mk fun w9 h9 => by rw [h0]; rfl

theorem zof_any (n : Int) (a : Option Addr) (cap : Nat) (L : List Int) (w : World) (hS : Sl w.heap.size w (.slice a L.length cap) L) :
    Calls Tryz.prog 62 #[.agg #[.int .i64 n, .slice a L.length cap]] w fun e w' => e = .returned (.tuple #[.agg #[.int .i64 (Zo.of n L).1.a, .int .i64 (Zo.of n L).1.b, .int .i64 (Zo.of n L).1.c, .int .i64 (Zo.of n L).1.d, .int .i64 (Zo.of n L).1.e, .int .i64 (Zo.of n L).1.f], .int .i64 (Zo.of n L).2]) ∧ Below w.heap.size w w' := by
  refine fun_eq 0 w Tryz.func62 (args := [.agg [.val (.int .i64 n), .val (.slice a L.length cap)]]) rfl rfl ?_
  have st := Stay.first (w := w)
  refine NewI.mk fun b1 hb1 => ?_
  refine NewI.mk fun b2 hb2 => ?_
  unfold Zo.of
  apply CallI.use1
  focus (exact fun w1 h1 => dcheck_any n a cap L w1 (hS.st (st.at h1 (fun x hx => by simp at hx <;> omega))))
  intro w1 v1 h1 hB1
  have st := st.next h1 (fun x hx => by simp at hx <;> omega) hB1
  refine Branch.mk (fun hc => ?_) (fun hc => ?_)
  · rw [if_neg (by simpa using hc)]
    exact EndI.mk fun w9 h9 => rfl
  rw [if_pos (by simpa using hc)]
  refine Branch.mk (fun hc2 => ?_) (fun hc2 => ?_)
  · rw [if_neg (by simpa using hc2)]
    exact EndI.mk fun w9 h9 => rfl
  have h3 : n = 3 := by simpa using hc2
  subst h3
  rw [if_pos rfl]
  have hcl := fun (w : World) (h : Sl w.heap.size w (.slice a L.length cap) L) => close_any 3 a cap L w h
  have h03 : (Dbm.close 3 L).2.2 = 0 → (Dbm.close 3 L).1 = 3 := fun h => by
    unfold Dbm.close at h ⊢
    split at h
    · rename_i hk
      rw [if_pos hk]
      split at h <;> rename_i hk2
      · rfl
      · cases h
    · cases h
  generalize hD : Dbm.close 3 L = D at hcl h03
  obtain ⟨m, C, e⟩ := D
  apply CallI.use
  focus (exact fun w2 h2 => hcl w2 (hS.st (st.at h2 (fun x hx => by simp at hx <;> omega))))
  rintro v w2 v2 h2 hB2 ⟨a2, c2, rfl, hF2⟩
  have st := st.next h2 (fun x hx => by simp at hx <;> omega) hB2
  refine NewI.mk fun b3 hb3 => ?_
  refine Branch.mk (fun hc => ?_) (fun hc => ?_)
  · rw [if_neg (by simpa using hc)]
    exact EndI.mk fun w9 h9 => rfl
  have he : e = 0 := by simpa using hc
  rw [if_pos he]
  have hm : m = 3 := h03 he
  subst hm
  apply CallI.use1
  focus (exact fun w3 h3 => ztold_any a2 c2 C w3 (hF2.sl.st (st.at h3 (fun x hx => by simp at hx <;> omega))))
  intro w3 v3 h3 hB3
  have st := st.next h3 (fun x hx => by simp at hx <;> omega) hB3
  exact EndI.mk fun w9 h9 => rfl

namespace Zo
def btw (s : Sp) : Int × List Int × Int := Tg.between 2 (Dbm.topL 2) 1 s
def outL (t u d : Sp) : List Int :=
  (((((((Dbm.topL 3).set 1 ((btw t).2.1[1]?.getD 0)).set 3 ((btw t).2.1[2]?.getD 0)).set 2 ((btw u).2.1[1]?.getD 0)).set 6 ((btw u).2.1[2]?.getD 0)).set 5 ((btw d).2.1[1]?.getD 0)).set 7 ((btw d).2.1[2]?.getD 0))
def make (t u d : Sp) : Zn × Int :=
  if 8 ∈ [(btw d).2.2, (btw u).2.2, (btw t).2.2] then (nought, 8) else
  if 6 ∈ [(btw d).2.2, (btw u).2.2, (btw t).2.2] then (nought, 6) else of 3 (outL t u d)
theorem top2 : Dbm.top 2 = (2, Dbm.topL 2, 0) := rfl
theorem top3 : Dbm.top 3 = (3, Dbm.topL 3, 0) := rfl
theorem btw_cases (s : Sp) : (btw s).2.2 = 8 ∨ (btw s).2.2 = 6 ∨ ((btw s).2.2 = 0 ∧ (btw s).1 = 2 ∧ (btw s).2.1.length = 4) := by
  have hk : Dbm.chk 2 (Dbm.topL 2) = 0 := by decide
  unfold btw Tg.between
  rw [if_pos hk, if_pos ⟨by decide, by decide⟩]
  split
  · unfold Dbm.close
    split
    · split
      · rename_i h
        refine .inr (.inr ⟨rfl, rfl, ?_⟩)
        have := Dbm.closeL_len h
        exact this.trans (Tg.more_len _ _)
      · exact .inr (.inl rfl)
    · exact .inl rfl
  · exact .inl rfl
end Zo

theorem btw_any (s : Sp) (hs : s.ins) (a : Option Addr) (cap : Nat) (w : World) (hS : Sl w.heap.size w (.slice a (Dbm.topL 2).length cap) (Dbm.topL 2)) :
    Calls Tryz.prog 86 #[.agg #[.int .i64 2, .slice a (Dbm.topL 2).length cap], .int .i64 1, .agg #[.int .i64 s.lo, .bool s.ls, .int .i64 s.hi, .bool s.hs, .bool s.op]] w (Ret w fun v w' => ∃ a' cap', v = .tuple #[.agg #[.int .i64 (Zo.btw s).1, .slice a' (Zo.btw s).2.1.length cap'], .int .i64 (Zo.btw s).2.2] ∧ Fresh TB w.heap.size w' (.slice a' (Zo.btw s).2.1.length cap') (Zo.btw s).2.1) := between_any 2 a cap (Dbm.topL 2) 1 s hs w hS

theorem Fresh.row4 {e : TypeId} {base : Nat} {W : World} {a : Option Addr} {cap : Nat} {L : List Int} (h : Fresh e base W (.slice a L.length cap) L) (hl : L.length = 4) : ∃ g, a = some ⟨g, 0, none⟩ ∧ L.length ≤ cap ∧ cap ≤ maxLen ∧ base ≤ g ∧ RowAt e W g L := by
  rcases h with ⟨_, he⟩ | ⟨g, c', e0, p1, p2, p3, r⟩
  · rw [he] at hl; cases hl
  · injection e0 with e0 _ e2
    subst e2
    exact ⟨g, e0, p1, p2, p3, r⟩
theorem RowAt.other {T : TypeId} {W : World} {g g2 j : Nat} {v : Value} {L : List Int} (h : RowAt T W g2 L) (hne : g2 ≠ g) : RowAt T (W.setCell ⟨g, j, none⟩ v) g2 L :=
  h.kept (Below.heap_setCell _ _ _ _ hne)
theorem RowAt.sl {T : TypeId} {W : World} {g cap : Nat} {L : List Int} (h : RowAt T W g L) (h1 : L.length ≤ cap) (h2 : cap ≤ maxLen) : Sl W.heap.size W (.slice (some ⟨g, 0, none⟩) L.length cap) L :=
  Fresh.sl (e := T) (base := 0) (.inr ⟨g, cap, rfl, h1, h2, Nat.zero_le _, h⟩)

end Go.Proofs.YtjbhpfmnfdebkaaGreat

namespace Go.Proofs.YtjbhpfmnfdebkaaGreat
set_option linter.unusedVariables false
set_option linter.unusedSimpArgs false
set_option maxRecDepth 100000
open Go.RowKit Go.Proofs.YtjbhpfmnfdebkaaGreat.Eng Enc

theorem bnot_any (b : Int) (w : World) :
    Calls Tryz.prog 314 #[.int .i64 b] w fun e w' => e = .returned (.tuple #[.int .i64 (Bd.not b).1, .int .i64 (Bd.not b).2]) ∧ Below w.heap.size w w' := by
  refine fun_eq 0 w Tryz.func314 (args := [.val (.int .i64 b)]) rfl rfl ?_
  have st := Stay.first (w := w)
  unfold Bd.not
  have hbd : -2305843009213693952 ≤ (Bd.value b).1 ∧ (Bd.value b).1 ≤ 2305843009213693952 := by
    unfold Bd.value
    cases hm : Bd.may b with
    | false => simp
    | true =>
      simp only [if_true]
      split
      · simp
      · rename_i hn
        have := Num.okB_iff.1 (Bd.okB_of_may hm hn)
        simp only; omega
  apply CallI.use1
  focus (exact fun w1 h1 => value_any b w1)
  intro w1 v1 h1 hB1
  have st := st.next h1 (fun x hx => by simp at hx <;> omega) hB1
  generalize Bd.value b = V at *
  obtain ⟨c, s, e⟩ := V
  refine Branch.mk (fun hc => ?_) (fun hc => ?_)
  · rw [if_neg (by simpa using hc)]
    exact EndI.mk fun w9 h9 => rfl
  rw [if_pos (by simpa using hc)]
  refine Need.mk (by simp only at hbd; simp only [inK]; omega) ?_
  apply CallI.use1
  focus (exact fun w2 h2 => made_any (-c) (!s) w2)
  intro w2 v2 h2 hB2
  have st := st.next h2 (fun x hx => by simp at hx <;> omega) hB2
  exact EndI.mk fun w9 h9 => rfl
end Go.Proofs.YtjbhpfmnfdebkaaGreat

namespace Go.Proofs.YtjbhpfmnfdebkaaGreat
set_option linter.unusedVariables false
set_option linter.unusedSimpArgs false
set_option maxRecDepth 100000
open Go.RowKit Go.Proofs.YtjbhpfmnfdebkaaGreat.Eng Enc

namespace Zo
def mat (z : Zn) : Int × List Int × Int := if Dbm.chk 3 (matL z) = 0 then (3, matL z, 0) else (0, [], 8)
def get (z : Zn) (i : Nat) : Int := if i = 0 then z.a else if i = 1 then z.b else if i = 2 then z.c else if i = 3 then z.d else if i = 4 then z.e else z.f
def set (z : Zn) (i : Nat) (x : Int) : Zn :=
  if i = 0 then { z with a := x } else if i = 1 then { z with b := x } else if i = 2 then { z with c := x } else if i = 3 then { z with d := x } else if i = 4 then { z with e := x } else { z with f := x }
end Zo
namespace Mi
def cut (z : Zn) (i : Nat) (b : Int) : Zn := Zo.set z i (min (Zo.get z i) b)
def wth (z : Zn) (i : Nat) (b : Int) : Zn × Int := if Dbm.chk 3 (Zo.matL (cut z i b)) = 0 then Zo.of 3 (Zo.matL (cut z i b)) else (Zo.nought, 8)
def other (i : Nat) : Nat := if i % 2 = 0 then i + 1 else i - 1
end Mi

theorem zMatrix_any (z : Zn) (w : World) :
    Calls Tryz.prog 145 #[.agg #[.int .i64 z.a, .int .i64 z.b, .int .i64 z.c, .int .i64 z.d, .int .i64 z.e, .int .i64 z.f]] w (Ret w fun v w' => ∃ a' c', v = .tuple #[.agg #[.int .i64 (Zo.mat z).1, .slice a' (Zo.mat z).2.1.length c'], .int .i64 (Zo.mat z).2.2] ∧ Sl w'.heap.size w' (.slice a' (Zo.mat z).2.1.length c') (Zo.mat z).2.1) := by
  refine fun_ret 0 w Tryz.func145 (args := [.agg [.val (.int .i64 z.a), .val (.int .i64 z.b), .val (.int .i64 z.c), .val (.int .i64 z.d), .val (.int .i64 z.e), .val (.int .i64 z.f)]]) rfl rfl ?_
  have st := Stay.first (w := w)
  refine NewI.mk fun b1 hb1 => ?_
  refine NewI.mk fun b2 hb2 => ?_
  apply CallI.use
  focus (exact fun w1 h1 => zmatrix_any z w1)
  rintro v w1 v1 h1 hB1 ⟨a1, c1, rfl, hF1⟩
  have st := st.next h1 (fun x hx => by simp at hx <;> omega) hB1
  refine NewI.mk fun b3 hb3 => ?_
  unfold Zo.mat
  apply CallI.use1
  focus (exact fun w2 h2 => dcheck_any 3 a1 c1 (Zo.matL z) w2 (hF1.sl.st (st.at h2 (fun x hx => by simp at hx <;> omega))))
  intro w2 v2 h2 hB2
  have st := st.next h2 (fun x hx => by simp at hx <;> omega) hB2
  refine Branch.mk (fun hc => ?_) (fun hc => ?_)
  · have h0 : ¬ Dbm.chk 3 (Zo.matL z) = 0 := by simpa using hc
    have h8 := (Dbm.chk_cases 3 (Zo.matL z)).resolve_left h0
    rw [if_neg h0, h8]
    exact EndI.mk fun w9 h9 => ⟨_, _, rfl, Sl.nil⟩
  have h0 : Dbm.chk 3 (Zo.matL z) = 0 := by simpa using hc
  rw [if_pos h0]
  exact EndI.mk fun w9 h9 => ⟨_, _, rfl, ((hF1.st st).at h9 (fun b hb => by have := h1.lt b1 (by simp); have := h1.lt b2 (by simp); simp at hb; omega)).sl⟩
theorem mother_any (i : Nat) (hi : i < 6) (w : World) :
    Calls Tryz.prog 316 #[.int .i64 (i : Nat)] w fun e w' => e = .returned (.int .i64 (Mi.other i : Nat)) ∧ Below w.heap.size w w' := by
  have h6 : i = 0 ∨ i = 1 ∨ i = 2 ∨ i = 3 ∨ i = 4 ∨ i = 5 := by omega
  rcases h6 with rfl | rfl | rfl | rfl | rfl | rfl
  all_goals (refine fun_eq 0 w Tryz.func316 (args := [.val (.int .i64 _)]) rfl rfl ?_)
  all_goals (exact EndI.mk fun w9 h9 => rfl)
theorem mwith_any (z : Zn) (i : Nat) (hi : i < 6) (b : Int) (w : World) :
    Calls Tryz.prog 315 #[.agg #[.int .i64 z.a, .int .i64 z.b, .int .i64 z.c, .int .i64 z.d, .int .i64 z.e, .int .i64 z.f], .int .i64 (i : Nat), .int .i64 b] w fun e w' => e = .returned (.tuple #[.agg #[.int .i64 (Mi.wth z i b).1.a, .int .i64 (Mi.wth z i b).1.b, .int .i64 (Mi.wth z i b).1.c, .int .i64 (Mi.wth z i b).1.d, .int .i64 (Mi.wth z i b).1.e, .int .i64 (Mi.wth z i b).1.f], .int .i64 (Mi.wth z i b).2]) ∧ Below w.heap.size w w' := by
  have h6 : i = 0 ∨ i = 1 ∨ i = 2 ∨ i = 3 ∨ i = 4 ∨ i = 5 := by omega
  have fin : ∀ (y : Zn), Mi.cut z i b = y → Mi.wth z i b = if Dbm.chk 3 (Zo.matL y) = 0 then Zo.of 3 (Zo.matL y) else (Zo.nought, 8) := fun y h => by unfold Mi.wth; rw [h]
  have em : ∀ x : Int, minL x [b] = min x b := fun x => by simp [minL]; omega
  rcases h6 with rfl | rfl | rfl | rfl | rfl | rfl
  · rw [fin ⟨minL z.a [b], z.b, z.c, z.d, z.e, z.f⟩ (by unfold Mi.cut; rw [← em]; rfl)]
    refine fun_eq 0 w Tryz.func315 (args := [.agg [.val (.int .i64 z.a), .val (.int .i64 z.b), .val (.int .i64 z.c), .val (.int .i64 z.d), .val (.int .i64 z.e), .val (.int .i64 z.f)], .val (.int .i64 0), .val (.int .i64 b)]) rfl rfl ?_
    have hz := fun w => zMatrix_any ⟨minL z.a [b], z.b, z.c, z.d, z.e, z.f⟩ w
    have st := Stay.first (w := w)
    refine NewI.mk fun b1 hb1 => ?_
    have hb1 : w.heap.size ≤ b1 := hb1
    refine NewI.mk fun b2 hb2 => ?_
    refine Need.mk (by decide) ?_
    refine Need.mk (by decide) ?_
    unfold Zo.mat at hz
    by_cases h0 : Dbm.chk 3 (Zo.matL ⟨minL z.a [b], z.b, z.c, z.d, z.e, z.f⟩) = 0
    · rw [if_pos h0] at hz ⊢
      apply CallI.use
      focus (exact fun w1 h1 => hz w1)
      rintro v w1 v1 h1 hB1 ⟨a1, c1, rfl, hS1⟩
      have st := st.next h1 (fun x hx => by simp at hx <;> omega) hB1
      refine NewI.mk fun b3 hb3 => ?_
      refine Branch.no rfl ?_
      apply CallI.use1
      · exact fun w2 h2 => zof_any 3 a1 c1 (Zo.matL ⟨minL z.a [b], z.b, z.c, z.d, z.e, z.f⟩) w2 (hS1.st (st.at h2 (fun x hx => by simp at hx <;> omega)))
      intro w2 v2 h2 hB2
      exact EndI.mk fun w9 h9 => rfl
    · rw [if_neg h0] at hz ⊢
      apply CallI.use
      focus (exact fun w1 h1 => hz w1)
      rintro v w1 v1 h1 hB1 ⟨a1, c1, rfl, hS1⟩
      refine NewI.mk fun b3 hb3 => ?_
      refine Branch.yes rfl ?_
      exact EndI.mk fun w9 h9 => rfl
  · rw [fin ⟨z.a, minL z.b [b], z.c, z.d, z.e, z.f⟩ (by unfold Mi.cut; rw [← em]; rfl)]
    refine fun_eq 0 w Tryz.func315 (args := [.agg [.val (.int .i64 z.a), .val (.int .i64 z.b), .val (.int .i64 z.c), .val (.int .i64 z.d), .val (.int .i64 z.e), .val (.int .i64 z.f)], .val (.int .i64 1), .val (.int .i64 b)]) rfl rfl ?_
    have hz := fun w => zMatrix_any ⟨z.a, minL z.b [b], z.c, z.d, z.e, z.f⟩ w
    have st := Stay.first (w := w)
    refine NewI.mk fun b1 hb1 => ?_
    have hb1 : w.heap.size ≤ b1 := hb1
    refine NewI.mk fun b2 hb2 => ?_
    refine Need.mk (by decide) ?_
    refine Need.mk (by decide) ?_
    unfold Zo.mat at hz
    by_cases h0 : Dbm.chk 3 (Zo.matL ⟨z.a, minL z.b [b], z.c, z.d, z.e, z.f⟩) = 0
    · rw [if_pos h0] at hz ⊢
      apply CallI.use
      focus (exact fun w1 h1 => hz w1)
      rintro v w1 v1 h1 hB1 ⟨a1, c1, rfl, hS1⟩
      have st := st.next h1 (fun x hx => by simp at hx <;> omega) hB1
      refine NewI.mk fun b3 hb3 => ?_
      refine Branch.no rfl ?_
      apply CallI.use1
      · exact fun w2 h2 => zof_any 3 a1 c1 (Zo.matL ⟨z.a, minL z.b [b], z.c, z.d, z.e, z.f⟩) w2 (hS1.st (st.at h2 (fun x hx => by simp at hx <;> omega)))
      intro w2 v2 h2 hB2
      exact EndI.mk fun w9 h9 => rfl
    · rw [if_neg h0] at hz ⊢
      apply CallI.use
      focus (exact fun w1 h1 => hz w1)
      rintro v w1 v1 h1 hB1 ⟨a1, c1, rfl, hS1⟩
      refine NewI.mk fun b3 hb3 => ?_
      refine Branch.yes rfl ?_
      exact EndI.mk fun w9 h9 => rfl
  · rw [fin ⟨z.a, z.b, minL z.c [b], z.d, z.e, z.f⟩ (by unfold Mi.cut; rw [← em]; rfl)]
    refine fun_eq 0 w Tryz.func315 (args := [.agg [.val (.int .i64 z.a), .val (.int .i64 z.b), .val (.int .i64 z.c), .val (.int .i64 z.d), .val (.int .i64 z.e), .val (.int .i64 z.f)], .val (.int .i64 2), .val (.int .i64 b)]) rfl rfl ?_
    have hz := fun w => zMatrix_any ⟨z.a, z.b, minL z.c [b], z.d, z.e, z.f⟩ w
    have st := Stay.first (w := w)
    refine NewI.mk fun b1 hb1 => ?_
    have hb1 : w.heap.size ≤ b1 := hb1
    refine NewI.mk fun b2 hb2 => ?_
    refine Need.mk (by decide) ?_
    refine Need.mk (by decide) ?_
    unfold Zo.mat at hz
    by_cases h0 : Dbm.chk 3 (Zo.matL ⟨z.a, z.b, minL z.c [b], z.d, z.e, z.f⟩) = 0
    · rw [if_pos h0] at hz ⊢
      apply CallI.use
      focus (exact fun w1 h1 => hz w1)
      rintro v w1 v1 h1 hB1 ⟨a1, c1, rfl, hS1⟩
      have st := st.next h1 (fun x hx => by simp at hx <;> omega) hB1
      refine NewI.mk fun b3 hb3 => ?_
      refine Branch.no rfl ?_
      apply CallI.use1
      · exact fun w2 h2 => zof_any 3 a1 c1 (Zo.matL ⟨z.a, z.b, minL z.c [b], z.d, z.e, z.f⟩) w2 (hS1.st (st.at h2 (fun x hx => by simp at hx <;> omega)))
      intro w2 v2 h2 hB2
      exact EndI.mk fun w9 h9 => rfl
    · rw [if_neg h0] at hz ⊢
      apply CallI.use
      focus (exact fun w1 h1 => hz w1)
      rintro v w1 v1 h1 hB1 ⟨a1, c1, rfl, hS1⟩
      refine NewI.mk fun b3 hb3 => ?_
      refine Branch.yes rfl ?_
      exact EndI.mk fun w9 h9 => rfl
  · rw [fin ⟨z.a, z.b, z.c, minL z.d [b], z.e, z.f⟩ (by unfold Mi.cut; rw [← em]; rfl)]
    refine fun_eq 0 w Tryz.func315 (args := [.agg [.val (.int .i64 z.a), .val (.int .i64 z.b), .val (.int .i64 z.c), .val (.int .i64 z.d), .val (.int .i64 z.e), .val (.int .i64 z.f)], .val (.int .i64 3), .val (.int .i64 b)]) rfl rfl ?_
    have hz := fun w => zMatrix_any ⟨z.a, z.b, z.c, minL z.d [b], z.e, z.f⟩ w
    have st := Stay.first (w := w)
    refine NewI.mk fun b1 hb1 => ?_
    have hb1 : w.heap.size ≤ b1 := hb1
    refine NewI.mk fun b2 hb2 => ?_
    refine Need.mk (by decide) ?_
    refine Need.mk (by decide) ?_
    unfold Zo.mat at hz
    by_cases h0 : Dbm.chk 3 (Zo.matL ⟨z.a, z.b, z.c, minL z.d [b], z.e, z.f⟩) = 0
    · rw [if_pos h0] at hz ⊢
      apply CallI.use
      focus (exact fun w1 h1 => hz w1)
      rintro v w1 v1 h1 hB1 ⟨a1, c1, rfl, hS1⟩
      have st := st.next h1 (fun x hx => by simp at hx <;> omega) hB1
      refine NewI.mk fun b3 hb3 => ?_
      refine Branch.no rfl ?_
      apply CallI.use1
      · exact fun w2 h2 => zof_any 3 a1 c1 (Zo.matL ⟨z.a, z.b, z.c, minL z.d [b], z.e, z.f⟩) w2 (hS1.st (st.at h2 (fun x hx => by simp at hx <;> omega)))
      intro w2 v2 h2 hB2
      exact EndI.mk fun w9 h9 => rfl
    · rw [if_neg h0] at hz ⊢
      apply CallI.use
      focus (exact fun w1 h1 => hz w1)
      rintro v w1 v1 h1 hB1 ⟨a1, c1, rfl, hS1⟩
      refine NewI.mk fun b3 hb3 => ?_
      refine Branch.yes rfl ?_
      exact EndI.mk fun w9 h9 => rfl
  · rw [fin ⟨z.a, z.b, z.c, z.d, minL z.e [b], z.f⟩ (by unfold Mi.cut; rw [← em]; rfl)]
    refine fun_eq 0 w Tryz.func315 (args := [.agg [.val (.int .i64 z.a), .val (.int .i64 z.b), .val (.int .i64 z.c), .val (.int .i64 z.d), .val (.int .i64 z.e), .val (.int .i64 z.f)], .val (.int .i64 4), .val (.int .i64 b)]) rfl rfl ?_
    have hz := fun w => zMatrix_any ⟨z.a, z.b, z.c, z.d, minL z.e [b], z.f⟩ w
    have st := Stay.first (w := w)
    refine NewI.mk fun b1 hb1 => ?_
    have hb1 : w.heap.size ≤ b1 := hb1
    refine NewI.mk fun b2 hb2 => ?_
    refine Need.mk (by decide) ?_
    refine Need.mk (by decide) ?_
    unfold Zo.mat at hz
    by_cases h0 : Dbm.chk 3 (Zo.matL ⟨z.a, z.b, z.c, z.d, minL z.e [b], z.f⟩) = 0
    · rw [if_pos h0] at hz ⊢
      apply CallI.use
      focus (exact fun w1 h1 => hz w1)
      rintro v w1 v1 h1 hB1 ⟨a1, c1, rfl, hS1⟩
      have st := st.next h1 (fun x hx => by simp at hx <;> omega) hB1
      refine NewI.mk fun b3 hb3 => ?_
      refine Branch.no rfl ?_
      apply CallI.use1
      · exact fun w2 h2 => zof_any 3 a1 c1 (Zo.matL ⟨z.a, z.b, z.c, z.d, minL z.e [b], z.f⟩) w2 (hS1.st (st.at h2 (fun x hx => by simp at hx <;> omega)))
      intro w2 v2 h2 hB2
      exact EndI.mk fun w9 h9 => rfl
    · rw [if_neg h0] at hz ⊢
      apply CallI.use
      focus (exact fun w1 h1 => hz w1)
      rintro v w1 v1 h1 hB1 ⟨a1, c1, rfl, hS1⟩
      refine NewI.mk fun b3 hb3 => ?_
      refine Branch.yes rfl ?_
      exact EndI.mk fun w9 h9 => rfl
  · rw [fin ⟨z.a, z.b, z.c, z.d, z.e, minL z.f [b]⟩ (by unfold Mi.cut; rw [← em]; rfl)]
    refine fun_eq 0 w Tryz.func315 (args := [.agg [.val (.int .i64 z.a), .val (.int .i64 z.b), .val (.int .i64 z.c), .val (.int .i64 z.d), .val (.int .i64 z.e), .val (.int .i64 z.f)], .val (.int .i64 5), .val (.int .i64 b)]) rfl rfl ?_
    have hz := fun w => zMatrix_any ⟨z.a, z.b, z.c, z.d, z.e, minL z.f [b]⟩ w
    have st := Stay.first (w := w)
    refine NewI.mk fun b1 hb1 => ?_
    have hb1 : w.heap.size ≤ b1 := hb1
    refine NewI.mk fun b2 hb2 => ?_
    refine Need.mk (by decide) ?_
    refine Need.mk (by decide) ?_
    unfold Zo.mat at hz
    by_cases h0 : Dbm.chk 3 (Zo.matL ⟨z.a, z.b, z.c, z.d, z.e, minL z.f [b]⟩) = 0
    · rw [if_pos h0] at hz ⊢
      apply CallI.use
      focus (exact fun w1 h1 => hz w1)
      rintro v w1 v1 h1 hB1 ⟨a1, c1, rfl, hS1⟩
      have st := st.next h1 (fun x hx => by simp at hx <;> omega) hB1
      refine NewI.mk fun b3 hb3 => ?_
      refine Branch.no rfl ?_
      apply CallI.use1
      · exact fun w2 h2 => zof_any 3 a1 c1 (Zo.matL ⟨z.a, z.b, z.c, z.d, z.e, minL z.f [b]⟩) w2 (hS1.st (st.at h2 (fun x hx => by simp at hx <;> omega)))
      intro w2 v2 h2 hB2
      exact EndI.mk fun w9 h9 => rfl
    · rw [if_neg h0] at hz ⊢
      apply CallI.use
      focus (exact fun w1 h1 => hz w1)
      rintro v w1 v1 h1 hB1 ⟨a1, c1, rfl, hS1⟩
      refine NewI.mk fun b3 hb3 => ?_
      refine Branch.yes rfl ?_
      exact EndI.mk fun w9 h9 => rfl
end Go.Proofs.YtjbhpfmnfdebkaaGreat

namespace Go.Proofs.YtjbhpfmnfdebkaaGreat.Eng
set_option linter.unusedVariables false
set_option linter.unusedSimpArgs false
open Go Go.RowKit Go.Shelf Go.Proofs

def SeqStopsB {α : Type} (n : Nat) (P : Program) (g : Nat) (lb : Array Value) (encs : α → Array Value) (Kp : World → World → Prop) (S Sp : List α → Prop) (N Bx n₀ : Nat) (w : World) : Prop :=
  ∀ (l : Nat) (J Jx : List α → World → Prop) (W : World), Below w.heap.size w W → (∀ pre A B, J pre A → A.grownBy B (some Bx) → J pre B) → (∀ pre A B, Jx pre A → A.grownBy B none → Jx pre B) →
    (∀ pre x W1, J pre W1 → pre.length < N → YieldAt Fence.wide (n - 1) P l (encs x) W1 fun e W' => (e = .returned (.bool true) ∧ J (pre ++ [x]) W' ∧ Kp W1 W') ∨ (e = .returned (.bool false) ∧ Jx (pre ++ [x]) W' ∧ Below n₀ W1 W')) →
    J [] W → CallsIn Fence.wide n P g (#[.func (.yield l) #[] #[]] ++ lb) W fun e W' => (∃ v, e = .returned v) ∧ ((∃ xs, S xs ∧ J xs W') ∨ (∃ pre, Sp pre ∧ Jx pre W'))

def Kept2 (B : Nat) (o : Loop) (W : World) : Prop := W.heap[B + 1]? = some (.loop o) ∧ W.heap[B]? = some (.deferred (some []))
theorem Kept2.turn {B : Nat} {o : Loop} {A C : World} {row : Option Nat} (h : Kept2 B o A) (hg : A.grownBy C row) (hr : ∀ r, row = some r → r < B) : Kept2 B o C :=
  ⟨(hg.block _ (Array.getElem?_eq_some_iff.1 h.1).1 (fun e => by have := hr _ e.symm; omega)).trans h.1, (hg.block _ (Array.getElem?_eq_some_iff.1 h.2).1 (fun e => by have := hr _ e.symm; omega)).trans h.2⟩
theorem Kept2.from {B : Nat} {o : Loop} {A C : World} (h : Kept2 B o A) (hk : KeepsFrom B A C) : Kept2 B o C := ⟨hk.same _ _ (by omega) h.1 rfl, hk.same _ _ (Nat.le_refl _) h.2 rfl⟩
theorem Kept2.put {B : Nat} {o : Loop} {A : World} (h : Kept2 B o A) (o' : Loop) : Kept2 B o' (A.putObj (B + 1) (.loop o')) :=
  ⟨World.putObj_heap_same (Array.getElem?_eq_some_iff.1 h.1).1, (World.putObj_heap_other (by omega)).trans h.2⟩

def RowB (B Bx : Nat) (A : World) (row : Option Nat) : Prop := ∀ r, row = some r → r = Bx ∨ (B ≤ r ∧ ∃ o : Obj, A.heap[r]? = some o ∧ o.isCells = false)

theorem below_between {n : Nat} {X A C : World} (h1 : Below n X A) (h2 : Below n X C) (hs : A.heap.size ≤ C.heap.size) : Below n A C :=
  ⟨h2.os.trans h1.os.symm, h2.tape.trans h1.tape.symm, h2.output.trans h1.output.symm, hs, fun k hk => (h2.block k hk).trans (h1.block k hk).symm⟩
theorem range_law {n : Nat} {P : Program} {α : Type} {g : Operand} {ps : Array Tmp} {x y : Code} {Q : Exit → Act → World → Prop} {a : Act} {w : World} (h1 : 1 ≤ n) {gf : Nat} {lb : Array Value}
    (hg : a.eval g = .func (.func gf) #[] lb) (eg : ∀ args w, (callFunc gf args).run P w = .ok (.enter gf args) w) {encs : α → Array Value} {Kp : World → World → Prop} {S Sp : List α → Prop} {N Bx n₀ : Nat}
    (hseq : SeqStopsB (n - 1) P gf lb encs Kp S Sp N Bx n₀ w) (hBx : Bx < w.heap.size) (hKt : ∀ {A B C : World}, Kp A B → Kp B C → Kp A C)
    (hKb : ∀ (W : World) (l : Nat) (o o' : Obj), w.heap.size ≤ l → W.heap[l]? = some o → o.isCells = false → o.isWalk = false → Kp W (W.putObj l o')) (hps : ∀ z, (encs z).size = ps.size)
    (I : List α → World → Prop) (Ix : Code → List α → World → Prop) (Ax : List α → α → Act → World → Prop) (hI : ∀ pre A B row, I pre A → A.grownBy B row → RowB w.heap.size Bx A row → I pre B) (hIx : ∀ c, OwnFrom w.heap.size (Ix c))
    (hAx : ∀ pre z a', OwnFrom w.heap.size (fun (_ : Unit) W => Ax pre z a' W)) (h0 : I [] w) (hIB : ∀ pre A, I pre A → Below n₀ w A) (hIxB : ∀ c pre A, Ix c pre A → Below n₀ w A)
    (hassign : ∀ (l : Nat) (pre : List α) (z : α) (W : World), I pre W → pre.length < N →
      x.wpIn (Fence.wide.inRound l) (n - 1 - 1) P (fun e a' W' => e = .normal ∧ KeepsFrom w.heap.size W W' ∧ Kp W W' ∧ I pre W' ∧ Ax pre z a' W') { tmps := (ps.zip (encs z)).foldl (fun t (p, v) => t.setIfInBounds p v) a.tmps, defers := [] } W)
    (hbody : ∀ (l : Nat) (pre : List α) (z : α) (a' : Act) (W : World), I pre W → Ax pre z a' W → pre.length < N → y.wpIn (Fence.wide.inRound l) (n - 1 - 1) P (ownPostG w.heap.size Kp I Ix (pre ++ [z]) W) a' W)
    (hdone : ∀ (D : Nat) (xs : List α) (W : World), w.heap.size ≤ D → S xs → I xs W → W.heap[D]? = some (.deferred (some [])) → Q .normal { a with defers := { target := .collected D, args := #[] } :: a.defers } W)
    (hstop : ∀ (D : Nat) (c : Code) (pre : List α) (W : World), w.heap.size ≤ D → Sp pre → Ix c pre W → W.heap[D]? = some (.deferred (some [])) → c.wpIn Fence.wide n P Q { a with defers := { target := .collected D, args := #[] } :: a.defers } W) :
    (Code.rangeFunc g ps x y).wpIn Fence.wide n P Q a w := by
  refine wpIn_rangeFunc fun fn hfn => ?_
  have hro : Fence.wide.round = none := rfl
  rw [hro]
  let lp : LoopState → Option Code → Loop := fun st pe => { state := st, pending := pe, fn, tmps := a.tmps, params := ps, assign := x, body := y, defers := w.heap.size }
  have two : Kept2 w.heap.size (lp .ready none) ((w.alloc (.deferred (some []))).alloc (.loop (lp .ready none))) := by
    constructor
    · have := World.alloc_heap_new (w.alloc (.deferred (some []))) (.loop (lp .ready none))
      rwa [World.size_alloc] at this
    · exact (Below.heap_alloc _ _ _ (by simp)).trans (World.alloc_heap_new w _)
  have g1 : w.grownBy (w.alloc (.deferred (some []))) none := World.grownBy_alloc w _ none
  have g2 : (w.alloc (.deferred (some []))).grownBy ((w.alloc (.deferred (some []))).alloc (.loop (lp .ready none))) none := World.grownBy_alloc _ _ none
  have hI1 : I [] ((w.alloc (.deferred (some []))).alloc (.loop (lp .ready none))) := hI _ _ _ none (hI _ _ _ none h0 g1 (fun r e => nomatch e)) g2 (fun r e => nomatch e)
  have hb1 : Below w.heap.size w ((w.alloc (.deferred (some []))).alloc (.loop (lp .ready none))) := (((Below.refl _ w).alloc (Nat.le_refl _) _).alloc (by simp) _)
  have hent : (Instr.enterLoop fn a.tmps ps x y none).run P w = .ok (w.heap.size + 1, [{ target := .collected w.heap.size, args := #[] }]) ((w.alloc (.deferred (some []))).alloc (.loop (lp .ready none))) := run_enterLoop_outer _ _ _ _ _
  generalize (w.alloc (.deferred (some []))).alloc (.loop (lp .ready none)) = W1 at *
  refine ⟨w.heap.size + 1, [{ target := .collected w.heap.size, args := #[] }], W1, { target := .fn (.func gf) lb, args := #[.func (.yield (w.heap.size + 1)) #[] #[]] }, W1, gf,
    #[.func (.yield (w.heap.size + 1)) #[] #[]] ++ lb, W1, hent, by simp only [resolve, hg]; simp [go_sem], fun f' _ => trivial, by simp [invoke, go_sem, eg], fun _ => h1, ?_⟩
  have hS1 : W1.heap.size ≥ w.heap.size := hb1.size
  refine (hseq (w.heap.size + 1) (fun pre W => I pre W ∧ Kept2 w.heap.size (lp .ready none) W) (fun pre W => ∃ c, Ix c pre W ∧ Kept2 w.heap.size (lp .done (some c)) W) W1 hb1
    (fun pre A C h hgr => ⟨hI _ _ _ _ h.1 hgr (fun r e => .inl (by injection e with e; exact e.symm)), h.2.turn hgr (fun r e => by injection e with e; omega)⟩)
    (fun pre A C h hgr => by obtain ⟨c, hc, hk⟩ := h; exact ⟨c, hIx c _ _ _ _ hc hgr (fun r e => nomatch e), hk.turn hgr (fun r e => nomatch e)⟩) ?_ ⟨hI1, two⟩).mono ?_
  · -- a round
    rintro pre z W ⟨hi, hk⟩ hlen
    refine ⟨fn, _, x, y, run_yield (P := P) (args := encs z) hk.1 (hps z), roundIn_of_wpIn hfn (wpIn_mono (hassign (w.heap.size + 1) pre z W hi hlen) ?_)⟩
    rintro e a' Wa ⟨rfl, kf, kp, hia, hax⟩
    have hka := hk.from kf
    refine ⟨_, run_beginRound hka.1 rfl, ?_⟩
    have hkb := hka.put { lp .ready none with state := .busy }
    have rowL : ∀ {A : World} {o : Loop}, Kept2 w.heap.size o A → RowB w.heap.size Bx A (some (w.heap.size + 1)) := fun {A} {o} h r e => .inr (by injection e with e; subst e; exact ⟨by omega, _, h.1, rfl⟩)
    have own : ∀ {A : World} {o : Loop}, Kept2 w.heap.size o A → ∀ r, some (w.heap.size + 1) = some r → w.heap.size ≤ r ∧ ∃ o' : Obj, A.heap[r]? = some o' ∧ o'.isCells = false := fun {A} {o} h r e => by injection e with e; subst e; exact ⟨by omega, _, h.1, rfl⟩
    have kpb : Kp Wa (Wa.putObj (w.heap.size + 1) (.loop { lp .ready none with state := .busy })) := hKb _ _ _ _ (by omega) hka.1 rfl rfl
    refine wpIn_mono (hbody (w.heap.size + 1) pre z a' _ (hI _ _ _ _ hia (grownBy_putObj' _ _ _) (rowL hka)) (hAx pre z a' () _ _ _ hax (grownBy_putObj' _ _ _) (own hka)) hlen) ?_
    intro e a3 W3 hp
    have fin : ∀ (jump : Option Code), KeepsFrom w.heap.size (Wa.putObj (w.heap.size + 1) (.loop { lp .ready none with state := .busy })) W3 →
        (Instr.endRound (w.heap.size + 1) jump).run P W3 = .ok (.bool jump.isNone) (W3.putObj (w.heap.size + 1) (.loop (lp (if jump.isNone then .ready else .done) jump))) ∧ Kept2 w.heap.size { lp .ready none with state := .busy } W3 := fun jump k3 => by
      have h3 := hkb.from k3
      exact ⟨run_endRound (P := P) jump h3.1, h3⟩
    have bel : ∀ (jump : Option Code) {c : Code}, Ix c (pre ++ [z]) W3 → Kept2 w.heap.size { lp .ready none with state := .busy } W3 → KeepsFrom w.heap.size (Wa.putObj (w.heap.size + 1) (.loop { lp .ready none with state := .busy })) W3 →
        Below n₀ W (W3.putObj (w.heap.size + 1) (.loop (lp (if jump.isNone then .ready else .done) jump))) := fun jump {c} i3 h3 k3 =>
      below_between (hIB _ _ hi) (hIxB _ _ _ (hIx c _ _ _ _ i3 (grownBy_putObj' _ _ _) (own h3))) (by
        have := k3.size
        have := kf.size
        simp only [World.putObj_size] at *
        omega)
    cases e with
    | normal =>
      obtain ⟨k3, p3, i3⟩ := hp
      obtain ⟨hr, h3⟩ := fin none k3
      exact ⟨_, _, hr, .inl ⟨rfl, ⟨hI _ _ _ _ i3 (grownBy_putObj' _ _ _) (rowL h3), h3.put _⟩, hKt kp (hKt (hKt kpb p3) (hKb _ _ _ _ (by omega) h3.1 rfl rfl))⟩⟩
    | ret =>
      obtain ⟨k3, i3⟩ := hp
      obtain ⟨hr, h3⟩ := fin (some .ret) k3
      exact ⟨_, _, hr, .inr ⟨rfl, ⟨.ret, hIx _ _ _ _ _ i3 (grownBy_putObj' _ _ _) (own h3), h3.put _⟩, bel _ i3 h3 k3⟩⟩
    | exit id =>
      obtain ⟨k3, i3⟩ := hp
      obtain ⟨hr, h3⟩ := fin (some (.exit id)) k3
      exact ⟨_, _, hr, .inr ⟨rfl, ⟨.exit id, hIx _ _ _ _ _ i3 (grownBy_putObj' _ _ _) (own h3), h3.put _⟩, bel _ i3 h3 k3⟩⟩
    | goto t =>
      obtain ⟨k3, i3⟩ := hp
      obtain ⟨hr, h3⟩ := fin (some (.goto t)) k3
      exact ⟨_, _, hr, .inr ⟨rfl, ⟨.goto t, hIx _ _ _ _ _ i3 (grownBy_putObj' _ _ _) (own h3), h3.put _⟩, bel _ i3 h3 k3⟩⟩
    | panic ch => exact hp.elim
    | outgrown => exact hp.elim
  · -- behind the iterator
    rintro e W2 ⟨⟨v, rfl⟩, ⟨xs, hS, hi, hk⟩ | ⟨pre, hSp, c, hi, hk⟩⟩
    · have hput := hk.put (lp .ready none)
      exact ⟨none, _, run_endLoop (P := P) hk.1 (by simp [lp]), hdone _ xs _ (Nat.le_refl _) hS (hI _ _ _ _ hi (grownBy_putObj' _ _ _) (fun r e => .inr (by injection e with e; subst e; exact ⟨by omega, _, hk.1, rfl⟩))) ((World.putObj_heap_other (by omega)).trans hk.2)⟩
    · exact ⟨some c, _, run_endLoop (P := P) hk.1 (by simp [lp]), hstop _ c pre _ (Nat.le_refl _) hSp (hIx c _ _ _ _ hi (grownBy_putObj' _ _ _) (fun r e => by injection e with e; subst e; exact ⟨by omega, _, hk.1, rfl⟩)) ((World.putObj_heap_other (by omega)).trans hk.2)⟩

section
variable {cx : Cx} {w0 : Base}
theorem rel_turn {s : St} {a : Act} {W W' : World} {B Bx : Nat} {row : Option Nat} (hR : Rel w0 s a W) (hB : w0.B ≤ B) (hBx0 : w0.B ≤ Bx) (hBxr : Bx ∉ s.r) (hg : W.grownBy W' row) (hr : RowB B Bx W row) : Keep w0 s.r W W' := by
  have hne : ∀ k, row = some k → w0.B ≤ k ∧ k ∉ s.r := fun k e => by
    rcases hr k e with rfl | ⟨hk, o, ho, hc⟩
    · exact ⟨hBx0, hBxr⟩
    · refine ⟨Nat.le_trans hB hk, fun hb => ?_⟩
      obtain ⟨i, hi, hib⟩ := List.getElem_of_mem hb
      have hil : i < s.hp.length := by rw [← hR.len]; exact hi
      have h1 := hR.blk [] i k (s.hp[i]) (by rw [List.getElem?_eq_getElem hi, hib]) (by rw [hget_eq, List.getElem?_eq_getElem hil])
      rw [h1] at ho; injection ho with ho; subst ho; cases hc
  refine ⟨⟨hg.os, hg.tape, hg.output, hg.size, fun k hk => hg.block k (Nat.lt_of_lt_of_le hk (Nat.le_trans w0.le hR.at_.below.size)) fun e => ?_⟩, fun b hb => hg.block b (hR.at_.lt b hb) fun e => (hne b e.symm).2 hb⟩
  have := (hne k e.symm).1; omega

theorem rangeB (hcx : CxOk cx) {n : Nat} (h1 : 1 ≤ n) {s : St} {a : Act} {w : World} (hR : Rel w0 s a w) {g : Operand} {ps : Array Tmp} {x y : Code} {K : Exit → St → Prop} {gf : Nat} {lb : Array Value}
    (hg : ev s.fr g = .val (.func (.func gf) #[] lb)) (eg : Enters cx.P gf)
    {α : Type} {encs : α → List Value} {Kp : World → World → Prop} {S Sp : List α → Prop} {N Bx : Nat} (hseq : SeqStopsB (n - 1) cx.P gf lb (fun x => (encs x).toArray) Kp S Sp N Bx w0.B w) (hBx : Bx < w.heap.size) (hBx0 : w0.B ≤ Bx) (hBxr : Bx ∉ s.r)
    (hKt : ∀ {A B C : World}, Kp A B → Kp B C → Kp A C) (hKb : ∀ (W : World) (l : Nat) (o o' : Obj), w.heap.size ≤ l → W.heap[l]? = some o → o.isCells = false → o.isWalk = false → Kp W (W.putObj l o'))
    (hps : ∀ x, (encs x).length = ps.size)
    {γ : Type} (hpf : γ → List LB) (Φ : List α → γ → World → Prop) (hΦ : ∀ c pre A B row, Φ pre c A → A.grownBy B row → RowB w.heap.size Bx A row → Φ pre c B) (c0 : γ) (hp0 : hpf c0 = s.hp) (hΦ0 : Φ [] c0 w)
    (Ix : Code → List α → γ → World → Prop) (hpx : Code → γ → List LB) (hIx : ∀ c q, OwnFrom w.heap.size (fun pre W => Ix c pre q W))
    (frx : α → Fr) (hpa : α → List LB) (Ψ : γ → List Nat → Prop)
    (hassign : ∀ l pre z c W, Φ pre c W → Below w0.B w0.W W → w.heap.size ≤ W.heap.size → pre.length < N → codeD (Fence.wide.inRound l) (n - 1 - 1) cx w0 x
      (fun e s' => e = .normal ∧ s'.on fun fr2 hp2 r2 L2 w2 df2 => ∃ bs, bs.length = (hpa z).length ∧ Ψ c bs ∧ Need (fr2 = frx z ∧ hp2 = hpf c ++ hpa z ∧ r2 = s.r ++ bs ∧ df2 = []) (EndI w0 hp2 r2 L2 w2 undef fun _ w1 => KeepsFrom w.heap.size W w1 ∧ Kp W w1 ∧ Φ pre c w1)) ⟨setP s.fr ps.toList (encs z), hpf c, s.r, [], W, []⟩)
    (hbody : ∀ l pre x c bs W, bs.length = (hpa x).length → Ψ c bs → Φ pre c W → Below w0.B w0.W W → w.heap.size ≤ W.heap.size → pre.length < N → codeD (Fence.wide.inRound l) (n - 1 - 1) cx w0 y
      (fun e s' => match e with
        | .normal => s'.on fun fr2 hp2 r2 L2 w2 df2 => ∃ c', Need (CovH (hpf c') s.r ⟨fr2, hp2, r2, L2, w2, df2⟩) (EndI w0 hp2 r2 L2 w2 undef fun _ w1 => KeepsFrom w.heap.size W w1 ∧ Kp W w1 ∧ Φ (pre ++ [x]) c' w1)
        | .ret => s'.on fun fr2 hp2 r2 L2 w2 df2 => ∃ c', Need (CovH (hpx .ret c') s.r ⟨fr2, hp2, r2, L2, w2, df2⟩) (EndI w0 hp2 r2 L2 w2 undef fun _ w1 => KeepsFrom w.heap.size W w1 ∧ Ix .ret (pre ++ [x]) c' w1)
        | .exit id => s'.on fun fr2 hp2 r2 L2 w2 df2 => ∃ c', Need (CovH (hpx (.exit id) c') s.r ⟨fr2, hp2, r2, L2, w2, df2⟩) (EndI w0 hp2 r2 L2 w2 undef fun _ w1 => KeepsFrom w.heap.size W w1 ∧ Ix (.exit id) (pre ++ [x]) c' w1)
        | _ => False) ⟨frx x, hpf c ++ hpa x, s.r ++ bs, [], W, []⟩)
    (hdone : ∀ D xs c W, w.heap.size ≤ D → S xs → Φ xs c W → W.heap[D]? = some (.deferred (some [])) → K .normal ⟨s.fr, hpf c, s.r, [], W, { target := .collected D, args := #[] } :: s.df⟩)
    (hstop : ∀ D c e pre q W, w.heap.size ≤ D → Sp pre → Ix c pre q W → exitOf c = some e → W.heap[D]? = some (.deferred (some [])) → K e ⟨s.fr, hpx c q, s.r, [], W, { target := .collected D, args := #[] } :: s.df⟩) :
    (Code.rangeFunc g ps x y).wpIn Fence.wide n cx.P (fun e a' w' => ∃ s', Rel w0 s' a' w' ∧ K e s') a w := by
  have hev := hR.ev1 hg (by simp) []
  simp only [SV.den] at hev
  have hB : w0.B ≤ w.heap.size := Nat.le_trans w0.le hR.at_.below.size
  have withD : ∀ {hp : List LB} {W : World} (D : Nat), Rel w0 ⟨s.fr, hp, s.r, [], W, s.df⟩ a W → Rel w0 ⟨s.fr, hp, s.r, [], W, { target := .collected D, args := #[] } :: s.df⟩ { a with defers := { target := .collected D, args := #[] } :: a.defers } W := fun {hp} {W} D h =>
    ⟨congrArg (_ :: ·) h.df, h.fits, ⟨h.at_.below, h.at_.size, h.at_.step, h.at_.blk, h.at_.fresh, h.at_.lt, h.at_.base⟩, h.blk, h.nod, h.len⟩
  have inner : ∀ {hp : List LB} {W : World} {a' : Act} {fr : Fr}, Rel w0 ⟨s.fr, hp, s.r, [], W, s.df⟩ a W → a'.defers = [] → (∀ t, Fits (s.r ++ t) fr a'.tmps) → Rel w0 ⟨fr, hp, s.r, [], W, []⟩ a' W := fun {hp} {W} {a'} {fr} h hd hf =>
    ⟨hd, hf, ⟨h.at_.below, h.at_.size, h.at_.step, h.at_.blk, h.at_.fresh, h.at_.lt, h.at_.base⟩, h.blk, h.nod, h.len⟩
  have rowO : ∀ {A : World} {row : Option Nat}, (∀ r, row = some r → w.heap.size ≤ r ∧ ∃ o : Obj, A.heap[r]? = some o ∧ o.isCells = false) → RowB w.heap.size Bx A row := fun h r e => .inr (h r e)
  refine range_law h1 hev eg hseq hBx hKt hKb (fun z => by simp [hps]) (fun pre W => ∃ c, Rel w0 ⟨s.fr, hpf c, s.r, [], W, s.df⟩ a W ∧ w.heap.size ≤ W.heap.size ∧ Φ pre c W)
    (fun c pre W => (∃ e, exitOf c = some e) ∧ ∃ q, Rel w0 ⟨s.fr, hpx c q, s.r, [], W, s.df⟩ a W ∧ Ix c pre q W ∧ w.heap.size ≤ W.heap.size)
    (fun pre z a' W => ∃ c bs, (bs.length = (hpa z).length ∧ Ψ c bs) ∧ Rel w0 ⟨s.fr, hpf c, s.r, [], W, s.df⟩ a W ∧ Rel w0 ⟨frx z, hpf c ++ hpa z, s.r ++ bs, [], W, []⟩ a' W ∧ w.heap.size ≤ W.heap.size ∧ Φ pre c W) ?_ ?_ ?_ ?_ (fun pre A ⟨c, hr, hs, hf⟩ => below_between hR.at_.below hr.at_.below hs) (fun c pre A ⟨_, q, hr, hx, hs⟩ => below_between hR.at_.below hr.at_.below hs) ?_ ?_ ?_ ?_
  · rintro pre A C row ⟨c, hr, hs, hf⟩ hgr hrow
    exact ⟨c, hr.keep (rel_turn hr hB hBx0 hBxr hgr hrow), Nat.le_trans hs hgr.size, hΦ c pre A C row hf hgr hrow⟩
  · rintro c pre A C row ⟨h0, q, hr, hx, hs⟩ hgr hrow
    exact ⟨h0, q, hr.keep (grown_keep hr hB hgr hrow), hIx c q pre A C row hx hgr hrow, Nat.le_trans hs hgr.size⟩
  · rintro pre z a' _ A C row ⟨c, bs, hl, hr, hr2, hs, hf⟩ hgr hrow
    exact ⟨c, bs, hl, hr.keep (grown_keep hr hB hgr hrow), hr2.keep (grown_keep hr2 hB hgr hrow), Nat.le_trans hs hgr.size, hΦ c pre A C row hf hgr (rowO hrow)⟩
  · refine ⟨c0, ?_, Nat.le_refl _, hΦ0⟩
    have h0 := hR.keep keep_refl
    rw [hp0]; exact h0
  · rintro l pre z W ⟨c, hr, hs, hf⟩ hN
    have hr1 := rel_sets (w0 := w0) (s := ⟨s.fr, hpf c, s.r, [], W, []⟩) (a := ⟨a.tmps, []⟩) (inner hr rfl hr.fits) ps.toList (encs z)
    have e1 : (ps.zip (encs z).toArray).foldl (fun (t : Array Value) (x : Nat × Value) => t.setIfInBounds x.1 x.2) a.tmps = sets a.tmps ps.toList (encs z) := by
      rw [← sets_eq]
    show x.wpIn _ _ _ _ ({ tmps := (ps.zip (encs z).toArray).foldl (fun (t : Array Value) (x : Nat × Value) => t.setIfInBounds x.1 x.2) a.tmps, defers := [] } : Act) W
    rw [e1]
    refine codeD_round hcx l _ _ _ _ _ W _ (hassign l pre z c W hf hr.at_.below hs hN) hr1 ?_
    rintro e s' a' W' ⟨rfl, hK⟩ hR'
    obtain ⟨fr2, hp2, r2, L2, w2, df2⟩ := s'
    rw [St.on_eq] at hK
    obtain ⟨bs, hl, hψ, ⟨e1, e2, e3, e4⟩, h2⟩ := hK
    simp only at e1 e2 e3 e4
    subst e1; subst e2; subst e3; subst e4
    obtain ⟨k1, k2, k3⟩ := h2.h W' hR'.at_
    have hcov : Keep w0 s.r W W' := by
      refine ⟨?_, fun b hb => ?_⟩
      · exact ⟨hR'.at_.below.os.trans hr.at_.below.os.symm, hR'.at_.below.tape.trans hr.at_.below.tape.symm, hR'.at_.below.output.trans hr.at_.below.output.symm, k1.size, fun k hk => (hR'.at_.below.block k hk).trans (hr.at_.below.block k hk).symm⟩
      · obtain ⟨i, hi, hib⟩ := List.getElem_of_mem hb
        have hil : i < (hpf c).length := by have := hr.len; simp only at this; omega
        have g1 := hr.blk [] i b (hpf c)[i] (by show s.r[i]? = _; rw [List.getElem?_eq_getElem hi, hib]) (by show hget (hpf c) i = _; rw [hget_eq, List.getElem?_eq_getElem hil])
        have g2 := hR'.blk [] i b (hpf c)[i] (by show (s.r ++ bs)[i]? = _; rw [List.getElem?_append_left hi, List.getElem?_eq_getElem hi, hib]) (by show hget (hpf c ++ hpa z) i = _; rw [hget_eq, List.getElem?_append_left hil, List.getElem?_eq_getElem hil])
        have g3 := hr.blk bs i b (hpf c)[i] (by show s.r[i]? = _; rw [List.getElem?_eq_getElem hi, hib]) (by show hget (hpf c) i = _; rw [hget_eq, List.getElem?_eq_getElem hil])
        simp only [List.append_nil] at g1 g2
        rw [g2, ← g3]
    exact ⟨rfl, k1, k2, ⟨c, hr.keep hcov, Nat.le_trans hs k1.size, k3⟩, c, bs, ⟨hl, hψ⟩, hr.keep hcov, hR'.keep keep_refl, Nat.le_trans hs k1.size, k3⟩
  · rintro l pre z a' W _ ⟨c, bs, hl, hr, hr2, hs, hf⟩ hN
    refine codeD_round hcx l _ y _ _ _ W _ (hbody l pre z c bs W hl.1 hl.2 hf hr.at_.below hs hN) hr2 ?_
    intro e s' a2 w1 hK hR'
    cases e with
    | normal =>
      simp only [St.on_eq] at hK
      obtain ⟨c', h1, h2⟩ := hK
      obtain ⟨h3, h4, h5⟩ := h2.h w1 hR'.at_
      exact ⟨h3, h4, c', covH_rel (s := ⟨s.fr, hpf c, s.r, [], W, s.df⟩) hr hR' h1, Nat.le_trans hs h3.size, h5⟩
    | ret =>
      simp only [St.on_eq] at hK
      obtain ⟨c', h1, h2⟩ := hK
      obtain ⟨h3, h5⟩ := h2.h w1 hR'.at_
      exact ⟨h3, ⟨_, rfl⟩, c', covH_rel (s := ⟨s.fr, hpf c, s.r, [], W, s.df⟩) hr hR' h1, h5, Nat.le_trans hs h3.size⟩
    | exit id =>
      simp only [St.on_eq] at hK
      obtain ⟨c', h1, h2⟩ := hK
      obtain ⟨h3, h5⟩ := h2.h w1 hR'.at_
      exact ⟨h3, ⟨_, rfl⟩, c', covH_rel (s := ⟨s.fr, hpf c, s.r, [], W, s.df⟩) hr hR' h1, h5, Nat.le_trans hs h3.size⟩
    | goto l => exact hK.elim
    | panic ch => exact hK.elim
    | outgrown => exact hK.elim
  · rintro D xs W hD hS ⟨c, hr, hs, hf⟩ hd
    exact ⟨_, withD D hr, hdone D xs c W hD hS hf hd⟩
  · intro D c pre W hD hS hI hd
    obtain ⟨⟨e, he⟩, q, hRx, hix, hs⟩ := hI
    have hk := hstop D c e pre q W hD hS hix he hd
    cases c <;> simp only [exitOf] at he <;> try (cases he; done)
    · injection he with he; subst he; exact wpIn_exit ⟨_, withD D hRx, hk⟩
    · injection he with he; subst he; exact wpIn_ret ⟨_, withD D hRx, hk⟩
theorem rangeBu (hcx : CxOk cx) {n : Nat} (h1 : 1 ≤ n) {s : St} {a : Act} {w : World} (hR : Rel w0 s a w) {g : Operand} {ps : Array Tmp} {x y : Code} {K : Exit → St → Prop} {gf : Nat} {lb : Array Value}
    (hg : ev s.fr g = .val (.func (.func gf) #[] lb)) (eg : Enters cx.P gf)
    {α : Type} {encs : α → List Value} {Kp : World → World → Prop} {S Sp : List α → Prop} {N Bx : Nat} (hseq : SeqStopsB (n - 1) cx.P gf lb (fun x => (encs x).toArray) Kp S Sp N Bx w0.B w) (hBx : Bx < w.heap.size) (hBx0 : w0.B ≤ Bx) (hBxr : Bx ∉ s.r)
    (hKt : ∀ {A B C : World}, Kp A B → Kp B C → Kp A C) (hKb : ∀ (W : World) (l : Nat) (o o' : Obj), w.heap.size ≤ l → W.heap[l]? = some o → o.isCells = false → o.isWalk = false → Kp W (W.putObj l o'))
    (hps : ∀ x, (encs x).length = ps.size)
    {γ : Type} (hpf : γ → List LB) (Φ : List α → γ → World → Prop) (hΦ : ∀ c pre A B row, Φ pre c A → A.grownBy B row → RowB w.heap.size Bx A row → Φ pre c B) (c0 : γ) (hp0 : hpf c0 = s.hp) (hΦ0 : Φ [] c0 w)
    (Ix : Code → List α → γ → World → Prop) (hpx : Code → γ → List LB) (hIx : ∀ c q, OwnFrom w.heap.size (fun pre W => Ix c pre q W))
    (upd : α → List (Nat × SV)) (hpa : α → List LB) (Ψ : γ → List Nat → Prop)
    (hassign : ∀ l pre z c W, Φ pre c W → Below w0.B w0.W W → w.heap.size ≤ W.heap.size → pre.length < N → codeD (Fence.wide.inRound l) (n - 1 - 1) cx w0 x
      (fun e s' => e = .normal ∧ s'.on fun fr2 hp2 r2 L2 w2 df2 => ∃ bs, bs.length = (hpa z).length ∧ Ψ c bs ∧ Need (fr2 = setM (setP s.fr ps.toList (encs z)) (upd z) ∧ hp2 = hpf c ++ hpa z ∧ r2 = s.r ++ bs ∧ df2 = []) (EndI w0 hp2 r2 L2 w2 undef fun _ w1 => KeepsFrom w.heap.size W w1 ∧ Kp W w1 ∧ Φ pre c w1)) ⟨setP s.fr ps.toList (encs z), hpf c, s.r, [], W, []⟩)
    (hbody : ∀ l pre x c bs W, bs.length = (hpa x).length → Ψ c bs → Φ pre c W → Below w0.B w0.W W → w.heap.size ≤ W.heap.size → pre.length < N → codeD (Fence.wide.inRound l) (n - 1 - 1) cx w0 y
      (fun e s' => match e with
        | .normal => s'.on fun fr2 hp2 r2 L2 w2 df2 => ∃ c', Need (CovH (hpf c') s.r ⟨fr2, hp2, r2, L2, w2, df2⟩) (EndI w0 hp2 r2 L2 w2 undef fun _ w1 => KeepsFrom w.heap.size W w1 ∧ Kp W w1 ∧ Φ (pre ++ [x]) c' w1)
        | .ret => s'.on fun fr2 hp2 r2 L2 w2 df2 => ∃ c', Need (CovH (hpx .ret c') s.r ⟨fr2, hp2, r2, L2, w2, df2⟩) (EndI w0 hp2 r2 L2 w2 undef fun _ w1 => KeepsFrom w.heap.size W w1 ∧ Ix .ret (pre ++ [x]) c' w1)
        | .exit id => s'.on fun fr2 hp2 r2 L2 w2 df2 => ∃ c', Need (CovH (hpx (.exit id) c') s.r ⟨fr2, hp2, r2, L2, w2, df2⟩) (EndI w0 hp2 r2 L2 w2 undef fun _ w1 => KeepsFrom w.heap.size W w1 ∧ Ix (.exit id) (pre ++ [x]) c' w1)
        | _ => False) ⟨setM (setP s.fr ps.toList (encs x)) (upd x), hpf c ++ hpa x, s.r ++ bs, [], W, []⟩)
    (hdone : ∀ D xs c W, w.heap.size ≤ D → S xs → Φ xs c W → W.heap[D]? = some (.deferred (some [])) → K .normal ⟨s.fr, hpf c, s.r, [], W, { target := .collected D, args := #[] } :: s.df⟩)
    (hstop : ∀ D c e pre q W, w.heap.size ≤ D → Sp pre → Ix c pre q W → exitOf c = some e → W.heap[D]? = some (.deferred (some [])) → K e ⟨s.fr, hpx c q, s.r, [], W, { target := .collected D, args := #[] } :: s.df⟩) :
    (Code.rangeFunc g ps x y).wpIn Fence.wide n cx.P (fun e a' w' => ∃ s', Rel w0 s' a' w' ∧ K e s') a w :=
  rangeB hcx h1 hR hg eg hseq hBx hBx0 hBxr (fun h k => hKt h k) hKb hps hpf Φ hΦ c0 hp0 hΦ0 Ix hpx hIx (fun z => setM (setP s.fr ps.toList (encs z)) (upd z)) hpa Ψ hassign hbody hdone hstop
end
end Go.Proofs.YtjbhpfmnfdebkaaGreat.Eng

namespace Go.Proofs.YtjbhpfmnfdebkaaGreat
set_option linter.unusedVariables false
set_option linter.unusedSimpArgs false
set_option maxRecDepth 100000
open Go.RowKit Go.Proofs.YtjbhpfmnfdebkaaGreat.Eng Enc

namespace Mi
def go (b : Zn) : List Nat → Zn → List (Zn × Int)
  | [], _ => []
  | i :: l, a =>
    if (Bd.not (Zo.get b i)).2 ≠ 0 then go b l a
    else (if (wth a (other i) (Bd.not (Zo.get b i)).1).2 = 6 then [] else [wth a (other i) (Bd.not (Zo.get b i)).1]) ++
      (if (wth a i (Zo.get b i)).2 = 6 then [] else (if (wth a i (Zo.get b i)).2 = 0 then [] else [wth a i (Zo.get b i)]) ++ go b l (wth a i (Zo.get b i)).1)
def parts (a b : Zn) : List (Zn × Int) := go b [0, 1, 2, 3, 4, 5] a
theorem go_len (b : Zn) (l : List Nat) (a : Zn) : (go b l a).length ≤ 2 * l.length := by
  induction l generalizing a with
  | nil => simp [go]
  | cons i l ih =>
    have h1 := ih a
    have h2 := ih (wth a i (Zo.get b i)).1
    unfold go
    simp only [List.length_cons]
    split
    · omega
    · rw [List.length_append]
      split <;> split <;> (try split) <;> simp only [List.length_append, List.length_cons, List.length_nil] <;> omega
theorem parts_len (a b : Zn) : (parts a b).length ≤ 12 := go_len b [0, 1, 2, 3, 4, 5] a
theorem drop_six {k : Nat} (h : k < 6) : [0, 1, 2, 3, 4, 5].drop k = k :: [0, 1, 2, 3, 4, 5].drop (k + 1) := by
  have : k = 0 ∨ k = 1 ∨ k = 2 ∨ k = 3 ∨ k = 4 ∨ k = 5 := by omega
  rcases this with rfl | rfl | rfl | rfl | rfl | rfl <;> rfl
def Holds (W : World) (B : Nat) (z : Zn) : Prop := W.heap[B]? = some (.cells #[.int .i64 z.a, .int .i64 z.b, .int .i64 z.c, .int .i64 z.d, .int .i64 z.e, .int .i64 z.f] 104 (0, 0))
theorem Holds.lt {W : World} {B : Nat} {z : Zn} (h : Holds W B z) : B < W.heap.size := (Array.getElem?_eq_some_iff.1 h).1
theorem Holds.cells {W : World} {B : Nat} {z : Zn} (h : Holds W B z) (j : Nat) (c : Value) (hj : [Value.int .i64 z.a, .int .i64 z.b, .int .i64 z.c, .int .i64 z.d, .int .i64 z.e, .int .i64 z.f][j]? = some c) : W.cell? ((⟨B, 0, none⟩ : Addr).add j) = some c := by
  rw [addr_addL, Nat.zero_add]
  have hj6 := (List.getElem?_eq_some_iff.1 hj).1
  simp only [List.length_cons, List.length_nil] at hj6
  have : j = 0 ∨ j = 1 ∨ j = 2 ∨ j = 3 ∨ j = 4 ∨ j = 5 := by omega
  have h' : W.heap[B]? = _ := h
  rcases this with rfl | rfl | rfl | rfl | rfl | rfl <;> (simp at hj; subst hj; simp [World.cell?, h'])
theorem Holds.below {W W' : World} {B : Nat} {z : Zn} (h : Holds W B z) (hB : Below W.heap.size W W') : Holds W' B z := (hB.block B h.lt).trans h
theorem Holds.same {W W' : World} {B : Nat} {z : Zn} (h : Holds W B z) (e : W'.heap[B]? = W.heap[B]?) : Holds W' B z := e.trans h
def KpM (n₀ Ba Bb : Nat) (W W' : World) : Prop := Below n₀ W W' ∧ W'.heap[Ba]? = W.heap[Ba]? ∧ W'.heap[Bb]? = W.heap[Bb]?
def encM (x : Zn × Int) : List Value := [.agg #[.int .i64 x.1.a, .int .i64 x.1.b, .int .i64 x.1.c, .int .i64 x.1.d, .int .i64 x.1.e, .int .i64 x.1.f], .int .i64 x.2]
end Mi
theorem at_grown {w0 : Base} {hp : List LB} {r L : List Nat} {w w1 : World} (h : At w0 hp r L w w1) (hL : ∀ b, b ∈ L → w.heap.size ≤ b) (row : Option Nat) : w.grownBy w1 row :=
  ⟨h.below.os.trans h.base.os.symm, h.below.tape.trans h.base.tape.symm, h.below.output.trans h.base.output.symm, h.size, fun k hk _ => h.step k hk fun hm => by have := hL k hm; omega⟩
theorem at_below {w0 : Base} {hp : List LB} {r L : List Nat} {w w1 : World} (h : At w0 hp r L w w1) (hL : ∀ b, b ∈ L → w.heap.size ≤ b) : Below w.heap.size w w1 :=
  ⟨h.below.os.trans h.base.os.symm, h.below.tape.trans h.base.tape.symm, h.below.output.trans h.base.output.symm, h.size, fun k hk => h.step k hk fun hm => by have := hL k hm; omega⟩
theorem index_zn (b : Zn) (k : Nat) (hk : k < 6) (w : World) : (Instr.index 104 (.agg #[.int .i64 b.a, .int .i64 b.b, .int .i64 b.c, .int .i64 b.d, .int .i64 b.e, .int .i64 b.f]) (.int .i64 (k : Nat))).run Tryz.prog w = .ok (.int .i64 (Zo.get b k)) w := by
  rcases (by omega : k = 0 ∨ k = 1 ∨ k = 2 ∨ k = 3 ∨ k = 4 ∨ k = 5) with rfl | rfl | rfl | rfl | rfl | rfl <;> kernel_rfl

structure Mi.Sit (n₀ Ba Bb : Nat) (W : World) (x b : Zn) (Jp : World → Prop) (X : World) : Prop where
  below : Below n₀ W X
  size : W.heap.size ≤ X.heap.size
  ha : Mi.Holds X Ba x
  hb : Mi.Holds X Bb b
  j : Jp X
section
variable {n₀ Ba Bb : Nat} {W X Y : World} {x b : Zn} {Jp : World → Prop}
open Mi
theorem Mi.Sit.go (h : Sit n₀ Ba Bb W x b Jp X) (hn : n₀ ≤ W.heap.size) (hJ : ∀ A B, Jp A → A.grownBy B (some Ba) → Jp B) (hB : Below X.heap.size X Y) : Sit n₀ Ba Bb W x b Jp Y :=
  ⟨h.below.trans (hB.mono (Nat.le_trans hn h.size)), Nat.le_trans h.size hB.size, h.ha.below hB, h.hb.below hB, hJ _ _ h.j (below_grown hB _)⟩
theorem Mi.Sit.at {w0 : Base} {hp : List LB} {r L : List Nat} (h : Sit n₀ Ba Bb W x b Jp X) (hn : n₀ ≤ W.heap.size) (hJ : ∀ A B, Jp A → A.grownBy B (some Ba) → Jp B) (h1 : At w0 hp r L X Y) (hL : ∀ b, b ∈ L → X.heap.size ≤ b) : Sit n₀ Ba Bb W x b Jp Y :=
  h.go hn hJ (at_below h1 hL)
end

set_option maxHeartbeats 4000000 in
open Mi in
theorem parts_stops (n : Nat) (Ba Bb n₀ : Nat) (a b : Zn) (w : World) (hab : Ba ≠ Bb) (ha0 : n₀ ≤ Ba) (hb0 : n₀ ≤ Bb) (ha : Holds w Ba a) (hb : Holds w Bb b) :
    SeqStopsB n Tryz.prog 313 #[.pointer (some ⟨Bb, 0, none⟩), .pointer (some ⟨Ba, 0, none⟩)] (fun x => (encM x).toArray) (KpM n₀ Ba Bb) (fun xs => xs = parts a b) (fun pre => pre <+: parts a b) 12 Ba n₀ w := fun l J Jx W hW hJ hJx hY h0 => by
  have hsz := hW.size
  have hn0 : n₀ ≤ W.heap.size := by have := ha.lt; omega
  refine (fun_in n n₀ W hn0 Tryz.func313 (args := [.val (.func (.yield l) #[] #[]), .val (.pointer (some ⟨Bb, 0, none⟩)), .val (.pointer (some ⟨Ba, 0, none⟩))]) (R := fun _ W' => (∃ xs, xs = parts a b ∧ J xs W') ∨ (∃ pre, pre <+: parts a b ∧ Jx pre W')) rfl rfl ?_).mono ?_
  case refine_2 =>
    rintro e W' ⟨v, rfl, _, h⟩
    exact ⟨⟨_, rfl⟩, h⟩
  have hbW := hb.below hW
  have haW := ha.below hW
  refine LoadA.mk ⟨[.int .i64 b.a, .int .i64 b.b, .int .i64 b.c, .int .i64 b.d, .int .i64 b.e, .int .i64 b.f], ⟨rfl, by decide, by simp, hbW.cells⟩, ?_⟩
  refine LoopI.invC (α := (Nat × Zn × List (Zn × Int)) × World) (fun y => [(12, .val (.int .i64 y.1.1))]) (fun y => y.2)
    (fun y => y.1.1 ≤ 6 ∧ Below n₀ W y.2 ∧ W.heap.size ≤ y.2.heap.size ∧ Holds y.2 Ba y.1.2.1 ∧ Holds y.2 Bb b ∧ J y.1.2.2 y.2 ∧ y.1.2.2 ++ go b ([0, 1, 2, 3, 4, 5].drop y.1.1) y.1.2.1 = parts a b) (fun y => 6 - y.1.1) ?_ ?_
  · intro w1 h1
    have hg := at_below h1 (by simp)
    exact ⟨((0, a, []), w1), Cov.mk (by repeat' (first | exact trivial | refine And.intro rfl ?_)) rfl rfl rfl rfl rfl, rfl, Nat.zero_le _, h1.below, h1.size, haW.below hg, hbW.below hg, hJ _ _ _ h0 (at_grown h1 (by simp) _), rfl⟩
  rintro ⟨⟨k, x, pre⟩, V⟩ ⟨hk, hV, hVs, hax, hbx, hj, hpre⟩
  simp only at hk hV hVs hax hbx hj hpre
  refine Branch.mk (fun hc => ?_) (fun hc => ?_)
  · have hlt : k < 6 := by have : (k : Int) < 6 := by simpa using hc
                           omega
    rw [drop_six hlt] at hpre
    have sit : Sit n₀ Ba Bb W x b (J pre) V := ⟨hV, hVs, hax, hbx, hj⟩
    refine GenV.to (x := .int .i64 (Zo.get b k)) (fun w => index_zn b k hlt w) fun u0 k0 => ?_
    have sit := sit.at hn0 (hJ pre) k0 (by simp)
    apply CallI.use1
    focus (exact fun w1 h1 => bnot_any (Zo.get b k) w1)
    intro w1 v1 h1 hB1
    have sit := (sit.at hn0 (hJ pre) h1 (by simp)).go hn0 (hJ pre) hB1
    refine Branch.mk (fun hc2 => ?_) (fun hc2 => ?_)
    · have hn : (Bd.not (Zo.get b k)).2 ≠ 0 := by simpa using hc2
      rw [go, if_pos hn] at hpre
      refine Need.mk (by simp only [inK]; omega) (EndI.mk fun w9 h9 => ⟨((k + 1, x, pre), w9), Cov.mk (by repeat' (first | exact trivial | refine And.intro rfl ?_)) rfl rfl rfl rfl rfl, rfl, ?_, by simp only; omega⟩)
      have sit := sit.at hn0 (hJ pre) h9 (by simp)
      exact ⟨hlt, sit.below, sit.size, sit.ha, sit.hb, sit.j, hpre⟩
    have hn : (Bd.not (Zo.get b k)).2 = 0 := by simpa using hc2
    rw [go, if_neg (by simp [hn])] at hpre
    refine DrawI.go (.tk 0 (.tk 1 (.tk 3 (.two 2 (.two 4 (.tk 5 (.tk 6 (.tk 7 (.ev 8 (.ev 9 (.tk 10 .done)))))) 8 (.ev 4 (.tk 5 (.tk 6 (.tk 7 (.ev 9 (.tk 10 .done))))))) 8 (.ev 2 (.ev 4 (.tk 5 (.tk 6 (.tk 7 (.ev 9 (.tk 10 .done))))))))))) (by kernel_rfl) fun w2 h2 => ?_
    have sit := sit.at hn0 (hJ pre) h2 (by simp)
    have S2 := sit
    have hF := Below.refl w2.heap.size w2
    have hBaw2 : Ba < w2.heap.size := sit.ha.lt
    have hBbw2 : Bb < w2.heap.size := sit.hb.lt
    generalize hzz : wth x (other k) (Bd.not (Zo.get b k)).1 = z at *
    generalize hyy : wth x k (Zo.get b k) = y at *
    refine LoadA.mk ⟨[.int .i64 x.a, .int .i64 x.b, .int .i64 x.c, .int .i64 x.d, .int .i64 x.e, .int .i64 x.f], ⟨rfl, by decide, by simp, sit.ha.cells⟩, ?_⟩
    refine Both.mk ?_ ?_
    · skip
      apply CallI.use1
      focus (exact fun w3 h3 => mother_any k hlt w3)
      intro w3 v3 h3 hB3
      have hF := h3.from S2.below hF (fun b hb => by simp at hb <;> omega)
      have hF := hF.trans (hB3.mono hF.size)
      have hXV3 := hF.size
      refine Both.mk ?_ ?_
      · skip
        apply CallI.use1
        focus (exact fun w4 h4 => mwith_any x (other k) (by unfold other; split <;> omega) (Bd.not (Zo.get b k)).1 w4)
        intro w4 v4 h4 hB4
        have hF := h4.from S2.below hF (fun b hb => by simp at hb <;> omega)
        have hF := hF.trans (hB4.mono hF.size)
        have hXV4 := hF.size
        rw [hzz]
        refine NewI.mk fun b1 hb1 => ?_
        have hb1 : v4.heap.size ≤ b1 := hb1
        refine Branch.mk (fun hc3 => ?_) (fun hc3 => ?_)
        · have h6 : ¬ z.2 = 6 := by simpa using hc3
          rw [if_neg h6] at hpre
          refine ⟨fun w5 h5 => ?_⟩
          have hF := h5.from S2.below hF (fun b hb => by simp at hb <;> omega)
          have sit5 := S2.go hn0 (hJ pre) hF
          refine (hY (pre) z w5 sit5.j (by have h12 := congrArg List.length hpre; have := parts_len a b; simp only [List.length_append, List.length_cons] at h12; (try simp only [List.length_append, List.length_cons, List.length_nil]); omega)).mono ?_
          rintro e v5 (⟨rfl, hj5, hk5⟩ | ⟨rfl, hx5, hk5⟩)
          · refine ⟨_, rfl, sit5.below.trans hk5.1, ?_⟩
            have sitX : Sit n₀ Ba Bb W x b (J (pre ++ [z])) v5 := ⟨sit5.below.trans hk5.1, Nat.le_trans sit5.size hk5.1.size, sit5.ha.same hk5.2.1, sit5.hb.same hk5.2.2, hj5⟩
            have hF := Below.refl v5.heap.size v5
            have hBaX := sitX.ha.lt
            have hpre : (pre ++ [z]) ++ _ = parts a b := (List.append_assoc _ _ _).trans hpre
            first | refine Branch.no rfl ?_ | skip
            refine LoadA.mk ⟨[.int .i64 x.a, .int .i64 x.b, .int .i64 x.c, .int .i64 x.d, .int .i64 x.e, .int .i64 x.f], ⟨rfl, by decide, (by simp <;> omega), (sitX.go hn0 (hJ _) hF).ha.cells⟩, ?_⟩
            apply CallI.use1
            focus (exact fun w6 h6 => mwith_any x k hlt (Zo.get b k) w6)
            intro w6 v6 h6 hB6
            have hF := h6.from sitX.below hF (fun b hb => by simp at hb <;> omega)
            have hF := hF.trans (hB6.mono hF.size)
            have hXV := hF.size
            rw [hyy]
            refine NewI.mk fun b2 hb2 => ?_
            have hb2 : v6.heap.size ≤ b2 := hb2
            refine Branch.mk (fun hc4 => ?_) (fun hc4 => ?_)
            · have h6y : y.2 = 6 := by simpa using hc4
              rw [if_pos h6y, List.append_nil] at hpre
              exact EndI.mk fun w9 h9 => .inl ⟨_, rfl, by rw [← hpre]; exact (sitX.go hn0 (hJ _) (h9.from sitX.below hF (fun b hb => by simp at hb <;> omega))).j⟩
            have h6y : ¬ y.2 = 6 := by simpa using hc4
            rw [if_neg h6y] at hpre
            refine Need.mk rfl ?_
            refine ⟨fun w7 h7 => ?_⟩
            have hF7 := h7.from sitX.below hF (fun b hb => by simp at hb <;> omega)
            have sit7 := sitX.go hn0 (hJ _) hF7
            refine ⟨Ba, 0, _, _, rfl, sit7.ha, by simp, ⟨below_setRow (Below.refl _ _) ha0 _, fun b hb => setRow_other _ _ _ _ (by simp at hb <;> omega)⟩, ?_⟩
            generalize hw8 : w7.setRow Ba _ = w8
            have sit8 : Sit n₀ Ba Bb W y.1 b (J (pre ++ [z])) w8 := by
              rw [← hw8]
              exact ⟨below_setRow sit7.below ha0 _, by rw [setRow_size]; exact sit7.size, setRow_heap _ _ _ _ _ _ sit7.ha, (setRow_other _ _ _ _ (fun e => hab e.symm)).trans sit7.hb, hJ _ _ _ sit7.j (grown_setRow _ _ _)⟩
            clear hw8
            refine Branch.mk (fun hc5 => ?_) (fun hc5 => ?_)
            · have h0y : ¬ y.2 = 0 := by simpa using hc5
              rw [if_neg h0y] at hpre
              refine LoadA.mk ⟨[.int .i64 y.1.a, .int .i64 y.1.b, .int .i64 y.1.c, .int .i64 y.1.d, .int .i64 y.1.e, .int .i64 y.1.f], ⟨rfl, by decide, (by simp <;> omega), sit8.ha.cells⟩, ?_⟩
              refine ⟨fun w5 h5 => ?_⟩
              have sit5 := sit8.at hn0 (hJ _) h5 (fun b hb => by simp at hb <;> omega)
              refine (hY (pre ++ [z]) y w5 sit5.j (by have h12 := congrArg List.length hpre; have := parts_len a b; simp only [List.length_append, List.length_cons] at h12; (try simp only [List.length_append, List.length_cons, List.length_nil]); omega)).mono ?_
              rintro e v5 (⟨rfl, hj5, hk5⟩ | ⟨rfl, hx5, hk5⟩)
              · refine ⟨_, rfl, sit5.below.trans hk5.1, ?_⟩
                have sitX : Sit n₀ Ba Bb W y.1 b (J (pre ++ [z] ++ [y])) v5 := ⟨sit5.below.trans hk5.1, Nat.le_trans sit5.size hk5.1.size, sit5.ha.same hk5.2.1, sit5.hb.same hk5.2.2, hj5⟩
                have hF := Below.refl v5.heap.size v5
                have hBaX := sitX.ha.lt
                have hpre : (pre ++ [z] ++ [y]) ++ _ = parts a b := (List.append_assoc _ _ _).trans hpre
                first | refine Branch.no rfl ?_ | skip
                refine Need.mk (by simp only [inK]; omega) (EndI.mk fun w11 h11 => ⟨((k + 1, y.1, pre ++ [z] ++ [y]), w11), Cov.mk (by repeat' (first | exact trivial | refine And.intro rfl ?_)) rfl rfl rfl rfl rfl, rfl, ?_, by simp only; omega⟩)
                have sit11 := sitX.at hn0 (hJ _) h11 (fun b hb => by simp at hb <;> omega)
                exact ⟨hlt, sit11.below, sit11.size, sit11.ha, sit11.hb, sit11.j, by first | exact hpre | (rw [List.append_assoc]; exact hpre)⟩
              · refine ⟨_, rfl, sit5.below.trans hk5, ?_⟩
                first | refine Branch.yes rfl ?_ | skip
                exact EndI.mk fun w9 h9 => .inr ⟨pre ++ [z] ++ [y], ⟨_, (List.append_assoc _ _ _).trans hpre⟩, hJx _ _ _ hx5 (at_grown h9 (by simp) _)⟩
            · have h0y : y.2 = 0 := by simpa using hc5
              rw [if_pos h0y, List.nil_append] at hpre
              first | refine Branch.no rfl ?_ | skip
              refine Need.mk (by simp only [inK]; omega) (EndI.mk fun w11 h11 => ⟨((k + 1, y.1, pre ++ [z]), w11), Cov.mk (by repeat' (first | exact trivial | refine And.intro rfl ?_)) rfl rfl rfl rfl rfl, rfl, ?_, by simp only; omega⟩)
              have sit11 := sit8.at hn0 (hJ _) h11 (fun b hb => by simp at hb <;> omega)
              exact ⟨hlt, sit11.below, sit11.size, sit11.ha, sit11.hb, sit11.j, by first | exact hpre | (rw [List.append_assoc]; exact hpre)⟩
          · refine ⟨_, rfl, sit5.below.trans hk5, ?_⟩
            first | refine Branch.yes rfl ?_ | skip
            exact EndI.mk fun w9 h9 => .inr ⟨pre ++ [z], ⟨_, (List.append_assoc _ _ _).trans hpre⟩, hJx _ _ _ hx5 (at_grown h9 (by simp) _)⟩
        · have h6 : z.2 = 6 := by simpa using hc3
          rw [if_pos h6, List.nil_append] at hpre
          have sitX := S2
          first | refine Branch.no rfl ?_ | skip
          refine LoadA.mk ⟨[.int .i64 x.a, .int .i64 x.b, .int .i64 x.c, .int .i64 x.d, .int .i64 x.e, .int .i64 x.f], ⟨rfl, by decide, (by simp <;> omega), (sitX.go hn0 (hJ _) hF).ha.cells⟩, ?_⟩
          apply CallI.use1
          focus (exact fun w6 h6 => mwith_any x k hlt (Zo.get b k) w6)
          intro w6 v6 h6 hB6
          have hF := h6.from sitX.below hF (fun b hb => by simp at hb <;> omega)
          have hF := hF.trans (hB6.mono hF.size)
          have hXV := hF.size
          rw [hyy]
          refine NewI.mk fun b2 hb2 => ?_
          have hb2 : v6.heap.size ≤ b2 := hb2
          refine Branch.mk (fun hc4 => ?_) (fun hc4 => ?_)
          · have h6y : y.2 = 6 := by simpa using hc4
            rw [if_pos h6y, List.append_nil] at hpre
            exact EndI.mk fun w9 h9 => .inl ⟨_, rfl, by rw [← hpre]; exact (sitX.go hn0 (hJ _) (h9.from sitX.below hF (fun b hb => by simp at hb <;> omega))).j⟩
          have h6y : ¬ y.2 = 6 := by simpa using hc4
          rw [if_neg h6y] at hpre
          refine Need.mk rfl ?_
          refine ⟨fun w7 h7 => ?_⟩
          have hF7 := h7.from sitX.below hF (fun b hb => by simp at hb <;> omega)
          have sit7 := sitX.go hn0 (hJ _) hF7
          refine ⟨Ba, 0, _, _, rfl, sit7.ha, by simp, ⟨below_setRow (Below.refl _ _) ha0 _, fun b hb => setRow_other _ _ _ _ (by simp at hb <;> omega)⟩, ?_⟩
          generalize hw8 : w7.setRow Ba _ = w8
          have sit8 : Sit n₀ Ba Bb W y.1 b (J (pre)) w8 := by
            rw [← hw8]
            exact ⟨below_setRow sit7.below ha0 _, by rw [setRow_size]; exact sit7.size, setRow_heap _ _ _ _ _ _ sit7.ha, (setRow_other _ _ _ _ (fun e => hab e.symm)).trans sit7.hb, hJ _ _ _ sit7.j (grown_setRow _ _ _)⟩
          clear hw8
          refine Branch.mk (fun hc5 => ?_) (fun hc5 => ?_)
          · have h0y : ¬ y.2 = 0 := by simpa using hc5
            rw [if_neg h0y] at hpre
            refine LoadA.mk ⟨[.int .i64 y.1.a, .int .i64 y.1.b, .int .i64 y.1.c, .int .i64 y.1.d, .int .i64 y.1.e, .int .i64 y.1.f], ⟨rfl, by decide, (by simp <;> omega), sit8.ha.cells⟩, ?_⟩
            refine ⟨fun w5 h5 => ?_⟩
            have sit5 := sit8.at hn0 (hJ _) h5 (fun b hb => by simp at hb <;> omega)
            refine (hY (pre) y w5 sit5.j (by have h12 := congrArg List.length hpre; have := parts_len a b; simp only [List.length_append, List.length_cons] at h12; (try simp only [List.length_append, List.length_cons, List.length_nil]); omega)).mono ?_
            rintro e v5 (⟨rfl, hj5, hk5⟩ | ⟨rfl, hx5, hk5⟩)
            · refine ⟨_, rfl, sit5.below.trans hk5.1, ?_⟩
              have sitX : Sit n₀ Ba Bb W y.1 b (J (pre ++ [y])) v5 := ⟨sit5.below.trans hk5.1, Nat.le_trans sit5.size hk5.1.size, sit5.ha.same hk5.2.1, sit5.hb.same hk5.2.2, hj5⟩
              have hF := Below.refl v5.heap.size v5
              have hBaX := sitX.ha.lt
              have hpre : (pre ++ [y]) ++ _ = parts a b := (List.append_assoc _ _ _).trans hpre
              first | refine Branch.no rfl ?_ | skip
              refine Need.mk (by simp only [inK]; omega) (EndI.mk fun w11 h11 => ⟨((k + 1, y.1, pre ++ [y]), w11), Cov.mk (by repeat' (first | exact trivial | refine And.intro rfl ?_)) rfl rfl rfl rfl rfl, rfl, ?_, by simp only; omega⟩)
              have sit11 := sitX.at hn0 (hJ _) h11 (fun b hb => by simp at hb <;> omega)
              exact ⟨hlt, sit11.below, sit11.size, sit11.ha, sit11.hb, sit11.j, by first | exact hpre | (rw [List.append_assoc]; exact hpre)⟩
            · refine ⟨_, rfl, sit5.below.trans hk5, ?_⟩
              first | refine Branch.yes rfl ?_ | skip
              exact EndI.mk fun w9 h9 => .inr ⟨pre ++ [y], ⟨_, (List.append_assoc _ _ _).trans hpre⟩, hJx _ _ _ hx5 (at_grown h9 (by simp) _)⟩
          · have h0y : y.2 = 0 := by simpa using hc5
            rw [if_pos h0y, List.nil_append] at hpre
            first | refine Branch.no rfl ?_ | skip
            refine Need.mk (by simp only [inK]; omega) (EndI.mk fun w11 h11 => ⟨((k + 1, y.1, pre), w11), Cov.mk (by repeat' (first | exact trivial | refine And.intro rfl ?_)) rfl rfl rfl rfl rfl, rfl, ?_, by simp only; omega⟩)
            have sit11 := sit8.at hn0 (hJ _) h11 (fun b hb => by simp at hb <;> omega)
            exact ⟨hlt, sit11.below, sit11.size, sit11.ha, sit11.hb, sit11.j, by first | exact hpre | (rw [List.append_assoc]; exact hpre)⟩
      · skip
        refine NewI.mk fun b1 hb1 => ?_
        have hb1 : v3.heap.size ≤ b1 := hb1
        apply CallI.use1
        focus (exact fun w4 h4 => mwith_any x (other k) (by unfold other; split <;> omega) (Bd.not (Zo.get b k)).1 w4)
        intro w4 v4 h4 hB4
        have hF := h4.from S2.below hF (fun b hb => by simp at hb <;> omega)
        have hF := hF.trans (hB4.mono hF.size)
        have hXV4 := hF.size
        rw [hzz]
        refine Branch.mk (fun hc3 => ?_) (fun hc3 => ?_)
        · have h6 : ¬ z.2 = 6 := by simpa using hc3
          rw [if_neg h6] at hpre
          refine ⟨fun w5 h5 => ?_⟩
          have hF := h5.from S2.below hF (fun b hb => by simp at hb <;> omega)
          have sit5 := S2.go hn0 (hJ pre) hF
          refine (hY (pre) z w5 sit5.j (by have h12 := congrArg List.length hpre; have := parts_len a b; simp only [List.length_append, List.length_cons] at h12; (try simp only [List.length_append, List.length_cons, List.length_nil]); omega)).mono ?_
          rintro e v5 (⟨rfl, hj5, hk5⟩ | ⟨rfl, hx5, hk5⟩)
          · refine ⟨_, rfl, sit5.below.trans hk5.1, ?_⟩
            have sitX : Sit n₀ Ba Bb W x b (J (pre ++ [z])) v5 := ⟨sit5.below.trans hk5.1, Nat.le_trans sit5.size hk5.1.size, sit5.ha.same hk5.2.1, sit5.hb.same hk5.2.2, hj5⟩
            have hF := Below.refl v5.heap.size v5
            have hBaX := sitX.ha.lt
            have hpre : (pre ++ [z]) ++ _ = parts a b := (List.append_assoc _ _ _).trans hpre
            first | refine Branch.no rfl ?_ | skip
            refine LoadA.mk ⟨[.int .i64 x.a, .int .i64 x.b, .int .i64 x.c, .int .i64 x.d, .int .i64 x.e, .int .i64 x.f], ⟨rfl, by decide, (by simp <;> omega), (sitX.go hn0 (hJ _) hF).ha.cells⟩, ?_⟩
            apply CallI.use1
            focus (exact fun w6 h6 => mwith_any x k hlt (Zo.get b k) w6)
            intro w6 v6 h6 hB6
            have hF := h6.from sitX.below hF (fun b hb => by simp at hb <;> omega)
            have hF := hF.trans (hB6.mono hF.size)
            have hXV := hF.size
            rw [hyy]
            refine NewI.mk fun b2 hb2 => ?_
            have hb2 : v6.heap.size ≤ b2 := hb2
            refine Branch.mk (fun hc4 => ?_) (fun hc4 => ?_)
            · have h6y : y.2 = 6 := by simpa using hc4
              rw [if_pos h6y, List.append_nil] at hpre
              exact EndI.mk fun w9 h9 => .inl ⟨_, rfl, by rw [← hpre]; exact (sitX.go hn0 (hJ _) (h9.from sitX.below hF (fun b hb => by simp at hb <;> omega))).j⟩
            have h6y : ¬ y.2 = 6 := by simpa using hc4
            rw [if_neg h6y] at hpre
            refine Need.mk rfl ?_
            refine ⟨fun w7 h7 => ?_⟩
            have hF7 := h7.from sitX.below hF (fun b hb => by simp at hb <;> omega)
            have sit7 := sitX.go hn0 (hJ _) hF7
            refine ⟨Ba, 0, _, _, rfl, sit7.ha, by simp, ⟨below_setRow (Below.refl _ _) ha0 _, fun b hb => setRow_other _ _ _ _ (by simp at hb <;> omega)⟩, ?_⟩
            generalize hw8 : w7.setRow Ba _ = w8
            have sit8 : Sit n₀ Ba Bb W y.1 b (J (pre ++ [z])) w8 := by
              rw [← hw8]
              exact ⟨below_setRow sit7.below ha0 _, by rw [setRow_size]; exact sit7.size, setRow_heap _ _ _ _ _ _ sit7.ha, (setRow_other _ _ _ _ (fun e => hab e.symm)).trans sit7.hb, hJ _ _ _ sit7.j (grown_setRow _ _ _)⟩
            clear hw8
            refine Branch.mk (fun hc5 => ?_) (fun hc5 => ?_)
            · have h0y : ¬ y.2 = 0 := by simpa using hc5
              rw [if_neg h0y] at hpre
              refine LoadA.mk ⟨[.int .i64 y.1.a, .int .i64 y.1.b, .int .i64 y.1.c, .int .i64 y.1.d, .int .i64 y.1.e, .int .i64 y.1.f], ⟨rfl, by decide, (by simp <;> omega), sit8.ha.cells⟩, ?_⟩
              refine ⟨fun w5 h5 => ?_⟩
              have sit5 := sit8.at hn0 (hJ _) h5 (fun b hb => by simp at hb <;> omega)
              refine (hY (pre ++ [z]) y w5 sit5.j (by have h12 := congrArg List.length hpre; have := parts_len a b; simp only [List.length_append, List.length_cons] at h12; (try simp only [List.length_append, List.length_cons, List.length_nil]); omega)).mono ?_
              rintro e v5 (⟨rfl, hj5, hk5⟩ | ⟨rfl, hx5, hk5⟩)
              · refine ⟨_, rfl, sit5.below.trans hk5.1, ?_⟩
                have sitX : Sit n₀ Ba Bb W y.1 b (J (pre ++ [z] ++ [y])) v5 := ⟨sit5.below.trans hk5.1, Nat.le_trans sit5.size hk5.1.size, sit5.ha.same hk5.2.1, sit5.hb.same hk5.2.2, hj5⟩
                have hF := Below.refl v5.heap.size v5
                have hBaX := sitX.ha.lt
                have hpre : (pre ++ [z] ++ [y]) ++ _ = parts a b := (List.append_assoc _ _ _).trans hpre
                first | refine Branch.no rfl ?_ | skip
                refine Need.mk (by simp only [inK]; omega) (EndI.mk fun w11 h11 => ⟨((k + 1, y.1, pre ++ [z] ++ [y]), w11), Cov.mk (by repeat' (first | exact trivial | refine And.intro rfl ?_)) rfl rfl rfl rfl rfl, rfl, ?_, by simp only; omega⟩)
                have sit11 := sitX.at hn0 (hJ _) h11 (fun b hb => by simp at hb <;> omega)
                exact ⟨hlt, sit11.below, sit11.size, sit11.ha, sit11.hb, sit11.j, by first | exact hpre | (rw [List.append_assoc]; exact hpre)⟩
              · refine ⟨_, rfl, sit5.below.trans hk5, ?_⟩
                first | refine Branch.yes rfl ?_ | skip
                exact EndI.mk fun w9 h9 => .inr ⟨pre ++ [z] ++ [y], ⟨_, (List.append_assoc _ _ _).trans hpre⟩, hJx _ _ _ hx5 (at_grown h9 (by simp) _)⟩
            · have h0y : y.2 = 0 := by simpa using hc5
              rw [if_pos h0y, List.nil_append] at hpre
              first | refine Branch.no rfl ?_ | skip
              refine Need.mk (by simp only [inK]; omega) (EndI.mk fun w11 h11 => ⟨((k + 1, y.1, pre ++ [z]), w11), Cov.mk (by repeat' (first | exact trivial | refine And.intro rfl ?_)) rfl rfl rfl rfl rfl, rfl, ?_, by simp only; omega⟩)
              have sit11 := sit8.at hn0 (hJ _) h11 (fun b hb => by simp at hb <;> omega)
              exact ⟨hlt, sit11.below, sit11.size, sit11.ha, sit11.hb, sit11.j, by first | exact hpre | (rw [List.append_assoc]; exact hpre)⟩
          · refine ⟨_, rfl, sit5.below.trans hk5, ?_⟩
            first | refine Branch.yes rfl ?_ | skip
            exact EndI.mk fun w9 h9 => .inr ⟨pre ++ [z], ⟨_, (List.append_assoc _ _ _).trans hpre⟩, hJx _ _ _ hx5 (at_grown h9 (by simp) _)⟩
        · have h6 : z.2 = 6 := by simpa using hc3
          rw [if_pos h6, List.nil_append] at hpre
          have sitX := S2
          first | refine Branch.no rfl ?_ | skip
          refine LoadA.mk ⟨[.int .i64 x.a, .int .i64 x.b, .int .i64 x.c, .int .i64 x.d, .int .i64 x.e, .int .i64 x.f], ⟨rfl, by decide, (by simp <;> omega), (sitX.go hn0 (hJ _) hF).ha.cells⟩, ?_⟩
          apply CallI.use1
          focus (exact fun w6 h6 => mwith_any x k hlt (Zo.get b k) w6)
          intro w6 v6 h6 hB6
          have hF := h6.from sitX.below hF (fun b hb => by simp at hb <;> omega)
          have hF := hF.trans (hB6.mono hF.size)
          have hXV := hF.size
          rw [hyy]
          refine NewI.mk fun b2 hb2 => ?_
          have hb2 : v6.heap.size ≤ b2 := hb2
          refine Branch.mk (fun hc4 => ?_) (fun hc4 => ?_)
          · have h6y : y.2 = 6 := by simpa using hc4
            rw [if_pos h6y, List.append_nil] at hpre
            exact EndI.mk fun w9 h9 => .inl ⟨_, rfl, by rw [← hpre]; exact (sitX.go hn0 (hJ _) (h9.from sitX.below hF (fun b hb => by simp at hb <;> omega))).j⟩
          have h6y : ¬ y.2 = 6 := by simpa using hc4
          rw [if_neg h6y] at hpre
          refine Need.mk rfl ?_
          refine ⟨fun w7 h7 => ?_⟩
          have hF7 := h7.from sitX.below hF (fun b hb => by simp at hb <;> omega)
          have sit7 := sitX.go hn0 (hJ _) hF7
          refine ⟨Ba, 0, _, _, rfl, sit7.ha, by simp, ⟨below_setRow (Below.refl _ _) ha0 _, fun b hb => setRow_other _ _ _ _ (by simp at hb <;> omega)⟩, ?_⟩
          generalize hw8 : w7.setRow Ba _ = w8
          have sit8 : Sit n₀ Ba Bb W y.1 b (J (pre)) w8 := by
            rw [← hw8]
            exact ⟨below_setRow sit7.below ha0 _, by rw [setRow_size]; exact sit7.size, setRow_heap _ _ _ _ _ _ sit7.ha, (setRow_other _ _ _ _ (fun e => hab e.symm)).trans sit7.hb, hJ _ _ _ sit7.j (grown_setRow _ _ _)⟩
          clear hw8
          refine Branch.mk (fun hc5 => ?_) (fun hc5 => ?_)
          · have h0y : ¬ y.2 = 0 := by simpa using hc5
            rw [if_neg h0y] at hpre
            refine LoadA.mk ⟨[.int .i64 y.1.a, .int .i64 y.1.b, .int .i64 y.1.c, .int .i64 y.1.d, .int .i64 y.1.e, .int .i64 y.1.f], ⟨rfl, by decide, (by simp <;> omega), sit8.ha.cells⟩, ?_⟩
            refine ⟨fun w5 h5 => ?_⟩
            have sit5 := sit8.at hn0 (hJ _) h5 (fun b hb => by simp at hb <;> omega)
            refine (hY (pre) y w5 sit5.j (by have h12 := congrArg List.length hpre; have := parts_len a b; simp only [List.length_append, List.length_cons] at h12; (try simp only [List.length_append, List.length_cons, List.length_nil]); omega)).mono ?_
            rintro e v5 (⟨rfl, hj5, hk5⟩ | ⟨rfl, hx5, hk5⟩)
            · refine ⟨_, rfl, sit5.below.trans hk5.1, ?_⟩
              have sitX : Sit n₀ Ba Bb W y.1 b (J (pre ++ [y])) v5 := ⟨sit5.below.trans hk5.1, Nat.le_trans sit5.size hk5.1.size, sit5.ha.same hk5.2.1, sit5.hb.same hk5.2.2, hj5⟩
              have hF := Below.refl v5.heap.size v5
              have hBaX := sitX.ha.lt
              have hpre : (pre ++ [y]) ++ _ = parts a b := (List.append_assoc _ _ _).trans hpre
              first | refine Branch.no rfl ?_ | skip
              refine Need.mk (by simp only [inK]; omega) (EndI.mk fun w11 h11 => ⟨((k + 1, y.1, pre ++ [y]), w11), Cov.mk (by repeat' (first | exact trivial | refine And.intro rfl ?_)) rfl rfl rfl rfl rfl, rfl, ?_, by simp only; omega⟩)
              have sit11 := sitX.at hn0 (hJ _) h11 (fun b hb => by simp at hb <;> omega)
              exact ⟨hlt, sit11.below, sit11.size, sit11.ha, sit11.hb, sit11.j, by first | exact hpre | (rw [List.append_assoc]; exact hpre)⟩
            · refine ⟨_, rfl, sit5.below.trans hk5, ?_⟩
              first | refine Branch.yes rfl ?_ | skip
              exact EndI.mk fun w9 h9 => .inr ⟨pre ++ [y], ⟨_, (List.append_assoc _ _ _).trans hpre⟩, hJx _ _ _ hx5 (at_grown h9 (by simp) _)⟩
          · have h0y : y.2 = 0 := by simpa using hc5
            rw [if_pos h0y, List.nil_append] at hpre
            first | refine Branch.no rfl ?_ | skip
            refine Need.mk (by simp only [inK]; omega) (EndI.mk fun w11 h11 => ⟨((k + 1, y.1, pre), w11), Cov.mk (by repeat' (first | exact trivial | refine And.intro rfl ?_)) rfl rfl rfl rfl rfl, rfl, ?_, by simp only; omega⟩)
            have sit11 := sit8.at hn0 (hJ _) h11 (fun b hb => by simp at hb <;> omega)
            exact ⟨hlt, sit11.below, sit11.size, sit11.ha, sit11.hb, sit11.j, by first | exact hpre | (rw [List.append_assoc]; exact hpre)⟩
    · skip
      refine NewI.mk fun b1 hb1 => ?_
      have hb1 : w2.heap.size ≤ b1 := hb1
      apply CallI.use1
      focus (exact fun w3 h3 => mother_any k hlt w3)
      intro w3 v3 h3 hB3
      have hF := h3.from S2.below hF (fun b hb => by simp at hb <;> omega)
      have hF := hF.trans (hB3.mono hF.size)
      have hXV3 := hF.size
      apply CallI.use1
      focus (exact fun w4 h4 => mwith_any x (other k) (by unfold other; split <;> omega) (Bd.not (Zo.get b k)).1 w4)
      intro w4 v4 h4 hB4
      have hF := h4.from S2.below hF (fun b hb => by simp at hb <;> omega)
      have hF := hF.trans (hB4.mono hF.size)
      have hXV4 := hF.size
      rw [hzz]
      refine Branch.mk (fun hc3 => ?_) (fun hc3 => ?_)
      · have h6 : ¬ z.2 = 6 := by simpa using hc3
        rw [if_neg h6] at hpre
        refine ⟨fun w5 h5 => ?_⟩
        have hF := h5.from S2.below hF (fun b hb => by simp at hb <;> omega)
        have sit5 := S2.go hn0 (hJ pre) hF
        refine (hY (pre) z w5 sit5.j (by have h12 := congrArg List.length hpre; have := parts_len a b; simp only [List.length_append, List.length_cons] at h12; (try simp only [List.length_append, List.length_cons, List.length_nil]); omega)).mono ?_
        rintro e v5 (⟨rfl, hj5, hk5⟩ | ⟨rfl, hx5, hk5⟩)
        · refine ⟨_, rfl, sit5.below.trans hk5.1, ?_⟩
          have sitX : Sit n₀ Ba Bb W x b (J (pre ++ [z])) v5 := ⟨sit5.below.trans hk5.1, Nat.le_trans sit5.size hk5.1.size, sit5.ha.same hk5.2.1, sit5.hb.same hk5.2.2, hj5⟩
          have hF := Below.refl v5.heap.size v5
          have hBaX := sitX.ha.lt
          have hpre : (pre ++ [z]) ++ _ = parts a b := (List.append_assoc _ _ _).trans hpre
          first | refine Branch.no rfl ?_ | skip
          refine LoadA.mk ⟨[.int .i64 x.a, .int .i64 x.b, .int .i64 x.c, .int .i64 x.d, .int .i64 x.e, .int .i64 x.f], ⟨rfl, by decide, (by simp <;> omega), (sitX.go hn0 (hJ _) hF).ha.cells⟩, ?_⟩
          apply CallI.use1
          focus (exact fun w6 h6 => mwith_any x k hlt (Zo.get b k) w6)
          intro w6 v6 h6 hB6
          have hF := h6.from sitX.below hF (fun b hb => by simp at hb <;> omega)
          have hF := hF.trans (hB6.mono hF.size)
          have hXV := hF.size
          rw [hyy]
          refine NewI.mk fun b2 hb2 => ?_
          have hb2 : v6.heap.size ≤ b2 := hb2
          refine Branch.mk (fun hc4 => ?_) (fun hc4 => ?_)
          · have h6y : y.2 = 6 := by simpa using hc4
            rw [if_pos h6y, List.append_nil] at hpre
            exact EndI.mk fun w9 h9 => .inl ⟨_, rfl, by rw [← hpre]; exact (sitX.go hn0 (hJ _) (h9.from sitX.below hF (fun b hb => by simp at hb <;> omega))).j⟩
          have h6y : ¬ y.2 = 6 := by simpa using hc4
          rw [if_neg h6y] at hpre
          refine Need.mk rfl ?_
          refine ⟨fun w7 h7 => ?_⟩
          have hF7 := h7.from sitX.below hF (fun b hb => by simp at hb <;> omega)
          have sit7 := sitX.go hn0 (hJ _) hF7
          refine ⟨Ba, 0, _, _, rfl, sit7.ha, by simp, ⟨below_setRow (Below.refl _ _) ha0 _, fun b hb => setRow_other _ _ _ _ (by simp at hb <;> omega)⟩, ?_⟩
          generalize hw8 : w7.setRow Ba _ = w8
          have sit8 : Sit n₀ Ba Bb W y.1 b (J (pre ++ [z])) w8 := by
            rw [← hw8]
            exact ⟨below_setRow sit7.below ha0 _, by rw [setRow_size]; exact sit7.size, setRow_heap _ _ _ _ _ _ sit7.ha, (setRow_other _ _ _ _ (fun e => hab e.symm)).trans sit7.hb, hJ _ _ _ sit7.j (grown_setRow _ _ _)⟩
          clear hw8
          refine Branch.mk (fun hc5 => ?_) (fun hc5 => ?_)
          · have h0y : ¬ y.2 = 0 := by simpa using hc5
            rw [if_neg h0y] at hpre
            refine LoadA.mk ⟨[.int .i64 y.1.a, .int .i64 y.1.b, .int .i64 y.1.c, .int .i64 y.1.d, .int .i64 y.1.e, .int .i64 y.1.f], ⟨rfl, by decide, (by simp <;> omega), sit8.ha.cells⟩, ?_⟩
            refine ⟨fun w5 h5 => ?_⟩
            have sit5 := sit8.at hn0 (hJ _) h5 (fun b hb => by simp at hb <;> omega)
            refine (hY (pre ++ [z]) y w5 sit5.j (by have h12 := congrArg List.length hpre; have := parts_len a b; simp only [List.length_append, List.length_cons] at h12; (try simp only [List.length_append, List.length_cons, List.length_nil]); omega)).mono ?_
            rintro e v5 (⟨rfl, hj5, hk5⟩ | ⟨rfl, hx5, hk5⟩)
            · refine ⟨_, rfl, sit5.below.trans hk5.1, ?_⟩
              have sitX : Sit n₀ Ba Bb W y.1 b (J (pre ++ [z] ++ [y])) v5 := ⟨sit5.below.trans hk5.1, Nat.le_trans sit5.size hk5.1.size, sit5.ha.same hk5.2.1, sit5.hb.same hk5.2.2, hj5⟩
              have hF := Below.refl v5.heap.size v5
              have hBaX := sitX.ha.lt
              have hpre : (pre ++ [z] ++ [y]) ++ _ = parts a b := (List.append_assoc _ _ _).trans hpre
              first | refine Branch.no rfl ?_ | skip
              refine Need.mk (by simp only [inK]; omega) (EndI.mk fun w11 h11 => ⟨((k + 1, y.1, pre ++ [z] ++ [y]), w11), Cov.mk (by repeat' (first | exact trivial | refine And.intro rfl ?_)) rfl rfl rfl rfl rfl, rfl, ?_, by simp only; omega⟩)
              have sit11 := sitX.at hn0 (hJ _) h11 (fun b hb => by simp at hb <;> omega)
              exact ⟨hlt, sit11.below, sit11.size, sit11.ha, sit11.hb, sit11.j, by first | exact hpre | (rw [List.append_assoc]; exact hpre)⟩
            · refine ⟨_, rfl, sit5.below.trans hk5, ?_⟩
              first | refine Branch.yes rfl ?_ | skip
              exact EndI.mk fun w9 h9 => .inr ⟨pre ++ [z] ++ [y], ⟨_, (List.append_assoc _ _ _).trans hpre⟩, hJx _ _ _ hx5 (at_grown h9 (by simp) _)⟩
          · have h0y : y.2 = 0 := by simpa using hc5
            rw [if_pos h0y, List.nil_append] at hpre
            first | refine Branch.no rfl ?_ | skip
            refine Need.mk (by simp only [inK]; omega) (EndI.mk fun w11 h11 => ⟨((k + 1, y.1, pre ++ [z]), w11), Cov.mk (by repeat' (first | exact trivial | refine And.intro rfl ?_)) rfl rfl rfl rfl rfl, rfl, ?_, by simp only; omega⟩)
            have sit11 := sit8.at hn0 (hJ _) h11 (fun b hb => by simp at hb <;> omega)
            exact ⟨hlt, sit11.below, sit11.size, sit11.ha, sit11.hb, sit11.j, by first | exact hpre | (rw [List.append_assoc]; exact hpre)⟩
        · refine ⟨_, rfl, sit5.below.trans hk5, ?_⟩
          first | refine Branch.yes rfl ?_ | skip
          exact EndI.mk fun w9 h9 => .inr ⟨pre ++ [z], ⟨_, (List.append_assoc _ _ _).trans hpre⟩, hJx _ _ _ hx5 (at_grown h9 (by simp) _)⟩
      · have h6 : z.2 = 6 := by simpa using hc3
        rw [if_pos h6, List.nil_append] at hpre
        have sitX := S2
        first | refine Branch.no rfl ?_ | skip
        refine LoadA.mk ⟨[.int .i64 x.a, .int .i64 x.b, .int .i64 x.c, .int .i64 x.d, .int .i64 x.e, .int .i64 x.f], ⟨rfl, by decide, (by simp <;> omega), (sitX.go hn0 (hJ _) hF).ha.cells⟩, ?_⟩
        apply CallI.use1
        focus (exact fun w6 h6 => mwith_any x k hlt (Zo.get b k) w6)
        intro w6 v6 h6 hB6
        have hF := h6.from sitX.below hF (fun b hb => by simp at hb <;> omega)
        have hF := hF.trans (hB6.mono hF.size)
        have hXV := hF.size
        rw [hyy]
        refine NewI.mk fun b2 hb2 => ?_
        have hb2 : v6.heap.size ≤ b2 := hb2
        refine Branch.mk (fun hc4 => ?_) (fun hc4 => ?_)
        · have h6y : y.2 = 6 := by simpa using hc4
          rw [if_pos h6y, List.append_nil] at hpre
          exact EndI.mk fun w9 h9 => .inl ⟨_, rfl, by rw [← hpre]; exact (sitX.go hn0 (hJ _) (h9.from sitX.below hF (fun b hb => by simp at hb <;> omega))).j⟩
        have h6y : ¬ y.2 = 6 := by simpa using hc4
        rw [if_neg h6y] at hpre
        refine Need.mk rfl ?_
        refine ⟨fun w7 h7 => ?_⟩
        have hF7 := h7.from sitX.below hF (fun b hb => by simp at hb <;> omega)
        have sit7 := sitX.go hn0 (hJ _) hF7
        refine ⟨Ba, 0, _, _, rfl, sit7.ha, by simp, ⟨below_setRow (Below.refl _ _) ha0 _, fun b hb => setRow_other _ _ _ _ (by simp at hb <;> omega)⟩, ?_⟩
        generalize hw8 : w7.setRow Ba _ = w8
        have sit8 : Sit n₀ Ba Bb W y.1 b (J (pre)) w8 := by
          rw [← hw8]
          exact ⟨below_setRow sit7.below ha0 _, by rw [setRow_size]; exact sit7.size, setRow_heap _ _ _ _ _ _ sit7.ha, (setRow_other _ _ _ _ (fun e => hab e.symm)).trans sit7.hb, hJ _ _ _ sit7.j (grown_setRow _ _ _)⟩
        clear hw8
        refine Branch.mk (fun hc5 => ?_) (fun hc5 => ?_)
        · have h0y : ¬ y.2 = 0 := by simpa using hc5
          rw [if_neg h0y] at hpre
          refine LoadA.mk ⟨[.int .i64 y.1.a, .int .i64 y.1.b, .int .i64 y.1.c, .int .i64 y.1.d, .int .i64 y.1.e, .int .i64 y.1.f], ⟨rfl, by decide, (by simp <;> omega), sit8.ha.cells⟩, ?_⟩
          refine ⟨fun w5 h5 => ?_⟩
          have sit5 := sit8.at hn0 (hJ _) h5 (fun b hb => by simp at hb <;> omega)
          refine (hY (pre) y w5 sit5.j (by have h12 := congrArg List.length hpre; have := parts_len a b; simp only [List.length_append, List.length_cons] at h12; (try simp only [List.length_append, List.length_cons, List.length_nil]); omega)).mono ?_
          rintro e v5 (⟨rfl, hj5, hk5⟩ | ⟨rfl, hx5, hk5⟩)
          · refine ⟨_, rfl, sit5.below.trans hk5.1, ?_⟩
            have sitX : Sit n₀ Ba Bb W y.1 b (J (pre ++ [y])) v5 := ⟨sit5.below.trans hk5.1, Nat.le_trans sit5.size hk5.1.size, sit5.ha.same hk5.2.1, sit5.hb.same hk5.2.2, hj5⟩
            have hF := Below.refl v5.heap.size v5
            have hBaX := sitX.ha.lt
            have hpre : (pre ++ [y]) ++ _ = parts a b := (List.append_assoc _ _ _).trans hpre
            first | refine Branch.no rfl ?_ | skip
            refine Need.mk (by simp only [inK]; omega) (EndI.mk fun w11 h11 => ⟨((k + 1, y.1, pre ++ [y]), w11), Cov.mk (by repeat' (first | exact trivial | refine And.intro rfl ?_)) rfl rfl rfl rfl rfl, rfl, ?_, by simp only; omega⟩)
            have sit11 := sitX.at hn0 (hJ _) h11 (fun b hb => by simp at hb <;> omega)
            exact ⟨hlt, sit11.below, sit11.size, sit11.ha, sit11.hb, sit11.j, by first | exact hpre | (rw [List.append_assoc]; exact hpre)⟩
          · refine ⟨_, rfl, sit5.below.trans hk5, ?_⟩
            first | refine Branch.yes rfl ?_ | skip
            exact EndI.mk fun w9 h9 => .inr ⟨pre ++ [y], ⟨_, (List.append_assoc _ _ _).trans hpre⟩, hJx _ _ _ hx5 (at_grown h9 (by simp) _)⟩
        · have h0y : y.2 = 0 := by simpa using hc5
          rw [if_pos h0y, List.nil_append] at hpre
          first | refine Branch.no rfl ?_ | skip
          refine Need.mk (by simp only [inK]; omega) (EndI.mk fun w11 h11 => ⟨((k + 1, y.1, pre), w11), Cov.mk (by repeat' (first | exact trivial | refine And.intro rfl ?_)) rfl rfl rfl rfl rfl, rfl, ?_, by simp only; omega⟩)
          have sit11 := sit8.at hn0 (hJ _) h11 (fun b hb => by simp at hb <;> omega)
          exact ⟨hlt, sit11.below, sit11.size, sit11.ha, sit11.hb, sit11.j, by first | exact hpre | (rw [List.append_assoc]; exact hpre)⟩
  · refine EndI.mk fun w9 h9 => .inl ⟨parts a b, rfl, ?_⟩
    have h6 : k = 6 := by have : ¬ (k : Int) < 6 := by simpa using hc
                          omega
    subst h6
    simp only [List.drop, go, List.append_nil] at hpre
    rw [← hpre]
    exact hJ _ _ _ hj (at_grown h9 (by simp) _)
end Go.Proofs.YtjbhpfmnfdebkaaGreat

namespace Go.Proofs.YtjbhpfmnfdebkaaGreat
set_option linter.unusedVariables false
set_option linter.unusedSimpArgs false
set_option maxRecDepth 100000
open Go.RowKit Go.Proofs.YtjbhpfmnfdebkaaGreat.Eng Enc

namespace Mi
def minus (a b : Zn) : List Zn × Int :=
  if Zo.chk a = 0 ∧ Zo.chk b = 0 then (match (parts a b).find? (fun x => decide (x.2 ≠ 0)) with | some x => ([], x.2) | none => ((parts a b).map (·.1), 0)) else ([], 8)
end Mi
theorem parts_at (a b : Zn) (w : World) :
    Calls Tryz.prog 295 #[.agg #[.int .i64 a.a, .int .i64 a.b, .int .i64 a.c, .int .i64 a.d, .int .i64 a.e, .int .i64 a.f], .agg #[.int .i64 b.a, .int .i64 b.b, .int .i64 b.c, .int .i64 b.d, .int .i64 b.e, .int .i64 b.f]] w fun e w' => e = .returned (.func (.func 313) #[] #[.pointer (some ⟨w.heap.size + 1, 0, none⟩), .pointer (some ⟨w.heap.size, 0, none⟩)]) ∧ w' = (w.alloc (.cells #[.int .i64 a.a, .int .i64 a.b, .int .i64 a.c, .int .i64 a.d, .int .i64 a.e, .int .i64 a.f] 104)).alloc (.cells #[.int .i64 b.a, .int .i64 b.b, .int .i64 b.c, .int .i64 b.d, .int .i64 b.e, .int .i64 b.f] 104) := by
  go_enter Tryz.func295, Tryz.ntmps295
  go_wp2
  go_ret
  exact ⟨by simp, rfl⟩
open Mi in
theorem parts_any (a b : Zn) (w : World) :
    Calls Tryz.prog 295 #[.agg #[.int .i64 a.a, .int .i64 a.b, .int .i64 a.c, .int .i64 a.d, .int .i64 a.e, .int .i64 a.f], .agg #[.int .i64 b.a, .int .i64 b.b, .int .i64 b.c, .int .i64 b.d, .int .i64 b.e, .int .i64 b.f]] w (Ret w fun v w' => ∃ Ba Bb, v = .func (.func 313) #[] #[.pointer (some ⟨Bb, 0, none⟩), .pointer (some ⟨Ba, 0, none⟩)] ∧ w.heap.size ≤ Ba ∧ w.heap.size ≤ Bb ∧ Ba ≠ Bb ∧ Holds w' Ba a ∧ Holds w' Bb b) :=
  (parts_at a b w).mono fun e w' ⟨he, hw⟩ => ⟨_, he, by rw [hw]; exact ((Below.refl _ _).alloc (Nat.le_refl _) _).alloc (by simp) _, w.heap.size, w.heap.size + 1, rfl, Nat.le_refl _, by omega, by omega, by
    rw [hw]; exact (Below.heap_alloc _ _ _ (by simp)).trans (World.alloc_heap_new w _), by
    rw [hw]
    have := World.alloc_heap_new (w.alloc (.cells #[.int .i64 a.a, .int .i64 a.b, .int .i64 a.c, .int .i64 a.d, .int .i64 a.e, .int .i64 a.f] 104)) (.cells #[.int .i64 b.a, .int .i64 b.b, .int .i64 b.c, .int .i64 b.d, .int .i64 b.e, .int .i64 b.f] 104)
    rwa [World.size_alloc] at this⟩
open Mi in
theorem minus_any (a b : Zn) (w : World) :
    Calls Tryz.prog 275 #[.agg #[.int .i64 a.a, .int .i64 a.b, .int .i64 a.c, .int .i64 a.d, .int .i64 a.e, .int .i64 a.f], .agg #[.int .i64 b.a, .int .i64 b.b, .int .i64 b.c, .int .i64 b.d, .int .i64 b.e, .int .i64 b.f]] w (Ret w fun v w' => ∃ a' c', v = .tuple #[.slice a' (Mi.minus a b).1.length c', .int .i64 (Mi.minus a b).2] ∧ Own 104 w.heap.size w' (.slice a' (Mi.minus a b).1.length c') (Mi.minus a b).1) := by
  refine fun_at 9 w.heap.size w (Nat.le_refl _) Tryz.func275 (args := [.agg [.val (.int .i64 a.a), .val (.int .i64 a.b), .val (.int .i64 a.c), .val (.int .i64 a.d), .val (.int .i64 a.e), .val (.int .i64 a.f)], .agg [.val (.int .i64 b.a), .val (.int .i64 b.b), .val (.int .i64 b.c), .val (.int .i64 b.d), .val (.int .i64 b.e), .val (.int .i64 b.f)]]) rfl rfl ?_
  refine NewI.mk fun b1 hb1 => ?_
  refine NewI.mk fun b2 hb2 => ?_
  refine NewI.mk fun b3 hb3 => ?_
  refine NewI.mk fun b4 hb4 => ?_
  unfold Mi.minus
  have st := Stay.first (w := w)
  apply CallI.use1
  focus (exact fun w1 h1 => zcheck_any a w1)
  intro w1 v1 h1 hB1
  have st := st.next h1 (fun x hx => by simp at hx <;> omega) hB1
  refine Branch.mk (fun hc => ?_) (fun hc => ?_)
  · have h0 : ¬ Zo.chk a = 0 := by simpa using hc
    rw [if_neg (fun h => h0 h.1)]
    exact EndI.mk fun w9 h9 => ⟨_, _, rfl, Own.nil⟩
  have h0a : Zo.chk a = 0 := by simpa using hc
  apply CallI.use1
  focus (exact fun w2 h2 => zcheck_any b w2)
  intro w2 v2 h2 hB2
  have st := st.next h2 (fun x hx => by simp at hx <;> omega) hB2
  refine Branch.mk (fun hc2 => ?_) (fun hc2 => ?_)
  · have h0 : ¬ Zo.chk b = 0 := by simpa using hc2
    rw [if_neg (fun h => h0 h.2)]
    exact EndI.mk fun w9 h9 => ⟨_, _, rfl, Own.nil⟩
  have h0b : Zo.chk b = 0 := by simpa using hc2
  rw [if_pos ⟨h0a, h0b⟩]
  apply CallI.use
  focus (exact fun w3 h3 => parts_any a b w3)
  rintro v w3 v3 h3 hB3 ⟨Ba, Bb, rfl, hBa, hBb, hab, hha, hhb⟩
  have st := st.next h3 (fun x hx => by simp at hx <;> omega) hB3
  have hBv := hB3.size
  have e4 : w.heap.size ≤ b4 := hb4
  have lb : ∀ b, b ∈ [b1, b2, b3, b4] → b < w3.heap.size := fun b hb => h3.lt b hb
  have hw3 : w.heap.size ≤ w3.heap.size := h3.below.size
  refine RawI.mk fun ac w7 hR => ?_
  have h7 := hR.at_
  have hha7 := hha.below (at_below h7 (by simp))
  have hhb7 := hhb.below (at_below h7 (by simp))
  have hlA := hha7.lt
  have hlB := hhb7.lt
  have hv7 : v3.heap.size ≤ w7.heap.size := h7.size
  have lb7 : ∀ b, b ∈ [b1, b2, b3, b4] → b < w7.heap.size ∧ b ≠ Ba ∧ b ≠ Bb := fun b hb => by have := lb b hb; omega
  refine rangeBu cxOk (by decide) hR rfl Tryz.call313 (parts_stops 8 Ba Bb w.heap.size a b w7 hab (by omega) (by omega) hha7 hhb7) (encs := encM) hlA (by show w.heap.size ≤ Ba; omega) (fun hm => (lb7 Ba hm).2.1 rfl)
    (fun h k => ⟨h.1.trans k.1, k.2.1.trans h.2.1, k.2.2.trans h.2.2⟩) ?_ (fun x => rfl)
    (γ := Value × Int) (fun c => [⟨[.val (.int .i64 a.a), .val (.int .i64 a.b), .val (.int .i64 a.c), .val (.int .i64 a.d), .val (.int .i64 a.e), .val (.int .i64 a.f)], 104⟩, ⟨[.val (.int .i64 b.a), .val (.int .i64 b.b), .val (.int .i64 b.c), .val (.int .i64 b.d), .val (.int .i64 b.e), .val (.int .i64 b.f)], 104⟩, ⟨[.val c.1], 22⟩, ⟨[.val (.int .i64 0)], 28⟩])
    (fun (pre : List (Zn × Int)) (c : Value × Int) W => (∀ x : Zn × Int, x ∈ pre → x.2 = 0) ∧ Own 104 w7.heap.size W c.1 (pre.map (·.1))) ?_ (.slice none 0 0, 0) rfl ⟨by simp, Own.nil⟩
    (fun (c : Code) (pre : List (Zn × Int)) (q : Value × Int) (W : World) => c = .ret ∧ ∃ (pre0 : List (Zn × Int)) (x : Zn × Int), pre = pre0 ++ [x] ∧ (∀ y : Zn × Int, y ∈ pre0 → y.2 = 0) ∧ x.2 ≠ 0 ∧ q.2 = x.2)
    (fun _ q => [⟨[.val (.int .i64 a.a), .val (.int .i64 a.b), .val (.int .i64 a.c), .val (.int .i64 a.d), .val (.int .i64 a.e), .val (.int .i64 a.f)], 104⟩, ⟨[.val (.int .i64 b.a), .val (.int .i64 b.b), .val (.int .i64 b.c), .val (.int .i64 b.d), .val (.int .i64 b.e), .val (.int .i64 b.f)], 104⟩, ⟨[.val (.slice none 0 0)], 22⟩, ⟨[.val (.int .i64 q.2)], 28⟩])
    (fun c q pre A B row h hg hr => h) (fun z => [(6, .loc 4 0), (7, .val (.int .i64 z.2))]) (fun z => [⟨[.val (.int .i64 z.1.a), .val (.int .i64 z.1.b), .val (.int .i64 z.1.c), .val (.int .i64 z.1.d), .val (.int .i64 z.1.e), .val (.int .i64 z.1.f)], 104⟩]) (fun c bs => ∀ k, c.1.ownBlock = some k → k ∉ bs) ?asg ?body ?done ?stop
  case asg =>
    intro l pre z c W hΦ hBW hsW hN
    refine NewI.mk fun b5 hb5 => ?_
    refine ⟨rfl, [b5], rfl, fun k hk hm => by have := hΦ.2.lt k hk; have hb5 : W.heap.size ≤ b5 := hb5; simp at hm; omega, Need.mk ⟨rfl, rfl, rfl, rfl⟩ (EndI.mk fun w9 h9 => ?_)⟩
    have hg := at_below h9 (fun b hb => by simp at hb; subst hb; exact hb5)
    exact ⟨below_keepsFrom hg _, ⟨hg.mono (by omega), hg.block _ (by omega), hg.block _ (by omega)⟩, hΦ.1, hΦ.2.below hg⟩
  · exact fun W l o o' hl ho h1 h2 => ⟨⟨rfl, rfl, rfl, by simp, fun k hk => World.putObj_heap_other (by omega)⟩, World.putObj_heap_other (by omega), World.putObj_heap_other (by omega)⟩
  · rintro c pre A C row ⟨hz, hO⟩ hg hr
    refine ⟨hz, Own.kept hO hg ?_⟩
    obtain ⟨_, ⟨e, _⟩ | ⟨g, cp, cur, e, hbg, hgb, _⟩⟩ := id hO
    · rw [e]; exact .inl rfl
    · rw [e]
      refine .inr (fun e' => ?_)
      rcases hr g e'.symm with h | ⟨_, o, ho, hcl⟩
      · omega
      · rw [hgb] at ho; cases ho; cases hcl
  case body =>
    intro l pre x c bs W hbs hψ hΦ hBW hsW hN
    obtain ⟨b5, rfl⟩ := List.length_eq_one_iff.1 hbs
    obtain ⟨hz, hO⟩ := hΦ
    refine Branch.mk (fun hc3 => ?_) (fun hc3 => ?_)
    · have hx : x.2 ≠ 0 := by simpa using hc3
      refine ⟨(c.1, x.2), Need.mk (CovH.mk rfl rfl rfl) (EndI.mk fun w9 h9 => ?_)⟩
      refine ⟨⟨h9.size, fun k o hk ho hcl => (h9.step k (Array.getElem?_eq_some_iff.1 ho).1 (fun hm => ?_)).trans ho⟩, rfl, pre, x, rfl, hz, hx, rfl⟩
      have := lb7 b3 (by simp)
      have := lb7 b4 (by simp)
      simp at hm
      omega
    · have hx : x.2 = 0 := by simpa using hc3
      refine NewI.mk fun b6 hb6 => ?_
      have hb6' : W.heap.size ≤ b6 := hb6
      have hpl := parts_len a b
      have l3 := lb7 b3 (by simp)
      have hr : ∀ k, c.1.ownBlock = some k → w.heap.size ≤ k ∧ k ∉ [b1, b2, b3, b4, b5, b6] := fun k hk => by
        have hkk := hO.lt k hk
        have h5 := hψ k hk
        have m1 := lb7 b1 (by simp)
        have m2 := lb7 b2 (by simp)
        have m4 := lb7 b4 (by simp)
        simp at h5
        refine ⟨by omega, fun hm => ?_⟩
        simp only [List.mem_cons, List.not_mem_nil, or_false] at hm
        omega
      refine GenN.app (α := Zn) elZ (pre.map (·.1)) [x.1] w7.heap.size (fun w5 h5 => hO.below h5.go) (fun w5 h5 => src_own h5 5 rfl rfl rfl rfl) (by unfold maxLen; simp; omega) (by simp; omega) (fun w5 h5 => Nat.le_trans hsW h5.size)
        (fun w5 w6 h5 hg => keep_grown h5 hg hr) fun sv' w5 w6 h5 hg hO' => ?_
      obtain ⟨a', c', rfl⟩ := hO'.form
      refine ⟨(.slice a' ((pre.map (·.1)) ++ [x.1]).length c', 0), ?_⟩
      refine Need.mk (CovH.mk rfl rfl rfl) (EndI.mk fun w9 h9 => ?_)
      have hW9 : W.heap.size ≤ w9.heap.size := Nat.le_trans h5.size (Nat.le_trans hg.size h9.size)
      have row : ∀ k, k < w7.heap.size → c.1.ownBlock ≠ some k := fun k hk e => by have := hO.lt k e; omega
      have keep1 : ∀ k, k < W.heap.size → k ≠ b3 → c.1.ownBlock ≠ some k → w9.heap[k]? = W.heap[k]? := fun k hkW h3 hrow => by
        refine (h9.step k (Nat.lt_of_lt_of_le hkW (Nat.le_trans h5.size hg.size)) (fun hm => ?_)).trans ((hg.block k (Nat.lt_of_lt_of_le hkW h5.size) (fun e => hrow e.symm)).trans (h5.go.block k hkW))
        simp at hm; omega
      refine ⟨⟨hW9, fun k o hk7 hk hcl => ?_⟩, ⟨?_, ?_, ?_⟩, ?_, ?_⟩
      · have hkW : k < W.heap.size := (Array.getElem?_eq_some_iff.1 hk).1
        refine (keep1 k hkW (by omega) (fun e => ?_)).trans hk
        obtain ⟨_, ⟨e0, _⟩ | ⟨g, cp, cur, e0, _, hgb, _⟩⟩ := id hO
        · rw [e0] at e; cases e
        · rw [e0] at e
          injection e with e
          subst e
          rw [hgb] at hk; cases hk; cases hcl
      · exact below_between (X := w) hBW (by exact h9.below) hW9
      · exact keep1 Ba (by omega) (by have := lb7 b3 (by simp); omega) (row Ba hlA)
      · exact keep1 Bb (by omega) (by have := lb7 b3 (by simp); omega) (row Bb hlB)
      · intro y hy
        rcases List.mem_append.1 hy with hy | hy
        · exact hz y hy
        · rw [List.mem_singleton.1 hy]; exact hx
      · have e1 : (pre ++ [x]).map (·.1) = pre.map (·.1) ++ [x.1] := by simp
        rw [e1]
        exact hO'.at h9 (fun b hb => by simp at hb; subst hb; exact l3.1)
  case done =>
    rintro D xs c W hD hSx ⟨hz, hO⟩ hmark
    subst hSx
    have hDW : D < W.heap.size := (Array.getElem?_eq_some_iff.1 hmark).1
    have hf : (parts a b).find? (fun x => decide (x.2 ≠ 0)) = none := List.find?_eq_none.2 fun x hx => by simp [hz x hx]
    rw [hf]
    obtain ⟨a', c', hcc⟩ := hO.form
    obtain ⟨c1, c2⟩ := c
    simp only at hO hcc
    subst hcc
    have l3 := lb7 b3 (by simp)
    have l4 := lb7 b4 (by simp)
    have hDb : D ∉ [b4, b3] := fun hm => by simp at hm; omega
    refine EndM.mk fun w10 h10 => ⟨⟨Nat.le_trans (show w.heap.size ≤ w7.heap.size by omega) hD, (h10.step D hDW hDb).trans hmark⟩, fun w11 hu => ?_⟩
    have hO10 := hO.at h10 (fun b hb => by simp at hb; omega)
    refine ⟨_, _, rfl, (Own.kept (row := some D) hO10 ⟨hu.2.1, hu.2.2.1, hu.2.2.2.1, by rw [hu.1]; exact Nat.le_refl _, fun k _ hk => hu.2.2.2.2 k (fun e => hk (by rw [e]))⟩ ?_).lower (by omega)⟩
    obtain ⟨_, ⟨e, _⟩ | ⟨g, cp, cur, e, _, hgb, _⟩⟩ := id hO10
    · rw [e]; exact .inl rfl
    · rw [e]
      refine .inr (fun e' => ?_)
      injection e' with e'
      subst e'
      have := (h10.step _ hDW hDb).trans hmark
      rw [hgb] at this; cases this
  case stop =>
    rintro D cd e pre q W hD hSp ⟨rfl, pre0, x, rfl, hz, hx, hq⟩ hex hmark
    have hDW : D < W.heap.size := (Array.getElem?_eq_some_iff.1 hmark).1
    obtain ⟨t, ht⟩ := hSp
    have hf : (parts a b).find? (fun x => decide (x.2 ≠ 0)) = some x := by
      rw [← ht, List.append_assoc, List.find?_append, List.find?_eq_none.2 (fun y hy => by simp [hz y hy])]
      simp [hx]
    rw [hf]
    injection hex with hex
    subst hex
    refine EndM.mk fun w10 h10 => ⟨⟨Nat.le_trans (show w.heap.size ≤ w7.heap.size by omega) hD, (h10.step D hDW (by simp)).trans hmark⟩, fun w11 hu => ?_⟩
    exact ⟨_, _, by rw [hq]; rfl, Own.nil⟩
end Go.Proofs.YtjbhpfmnfdebkaaGreat

namespace Go.Proofs.YtjbhpfmnfdebkaaGreat
set_option linter.unusedVariables false
set_option linter.unusedSimpArgs false
set_option maxRecDepth 100000
open Go.RowKit Go.Proofs.YtjbhpfmnfdebkaaGreat.Eng Enc

namespace Mi
def inner (b : Zn) : List Zn → List Zn → List Zn × Int
  | [], next => (next, 0)
  | z :: t, next => if (minus z b).2 ≠ 0 then ([], (minus z b).2) else if 4096 < (next ++ (minus z b).1).length then ([], 4) else inner b t (next ++ (minus z b).1)
def outer : List Zn → List Zn → List Zn × Int
  | [], out => (out, 0)
  | b :: l, out => if (inner b out []).2 ≠ 0 then ([], (inner b out []).2) else outer l (inner b out []).1
def left (a : Zn) (l : List Zn) : List Zn × Int :=
  if Zo.chk a ≠ 0 then ([], 8) else if l.any (fun b => decide (Zo.chk b ≠ 0)) = true then ([], 8) else outer l [a]
theorem inner_cons (b z : Zn) (t next : List Zn) : inner b (z :: t) next = if (minus z b).2 ≠ 0 then ([], (minus z b).2) else if 4096 < (next ++ (minus z b).1).length then ([], 4) else inner b t (next ++ (minus z b).1) := rfl
theorem outer_cons (b : Zn) (l out : List Zn) : outer (b :: l) out = if (inner b out []).2 ≠ 0 then ([], (inner b out []).2) else outer l (inner b out []).1 := rfl
theorem minus_len (a b : Zn) : (minus a b).1.length ≤ 12 := by
  unfold minus
  split
  · split
    · simp
    · simp; exact parts_len a b
  · simp
end Mi
section
variable {α : Type} [Enc α] {w0 : Base} {l : List World} {hp : List LB} {r r0 L : List Nat} {w w1 w2 : World} {e : TypeId} {base : Nat} {v sv : Value} {xs : List α}
theorem GenN.appR {P : Program} {K : Value → World → Prop} {t ty : TypeId} {bytes : Nat} {consts : Array Bool} (hE : ElOk P t e (size α) bytes) (lp : Lp w0 l r0 e base w v xs) (hr : ∀ k, v.ownBlock = some k → k ∉ r) (hL : ∀ b, b ∈ L → w.heap.size ≤ b)
    (ms : List α) (hsrc : ∀ w1, At w0 hp r L w w1 → SrcC w1 sv (size α) ms.length (cellsL ms)) (h63 : xs.length + ms.length ≤ 1000000) (hby : bytes ≤ 1000000)
    (hk : ∀ a' c' w5 w6, At w0 hp r L w w5 → Lp w0 l r0 e base w6 (.slice a' (xs ++ ms).length c') (xs ++ ms) → w5.heap.size ≤ w6.heap.size → (∀ k, k < w5.heap.size → k < base ∨ w.heap.size ≤ k → w6.heap[k]? = w5.heap[k]?) → K (.slice a' (xs ++ ms).length c') w6) :
    GenN P w0 (Keep w0) (builtin .append #[t, t] ty consts #[v, sv]) hp r L w K := by
  have hLp : ∀ w1, At w0 hp r L w w1 → Lp w0 l r0 e base w1 v xs := fun w1 h1 => lp.at h1 fun b hb => .inl (hL b hb)
  have hrow : ∀ k, v.ownBlock = some k → w0.B ≤ k ∧ k ∉ r := fun k hk => ⟨Nat.le_trans lp.b0 (lp.own.lt k hk).1, hr k hk⟩
  refine GenN.app (α := α) hE xs ms base (fun w1 h1 => (hLp w1 h1).own) hsrc (by unfold maxLen; omega) ?_ (fun w1 h1 => Nat.le_trans lp.size h1.size) (fun w1 w2 h1 hg => keep_grown h1 hg hrow) fun v' w5 w6 h5 hg hO => ?_
  · calc _ ≤ 1000000 * 1000000 := Nat.mul_le_mul h63 hby
      _ ≤ _ := by decide
  · obtain ⟨a', c', rfl⟩ := hO.form
    have h5' := hLp w5 h5
    refine hk a' c' w5 w6 h5 ⟨⟨lp.st.base, fun X hX => ?_⟩, hO, lp.anc, lp.blk, Nat.le_trans h5'.size hg.size, lp.b0⟩ hg.size fun k hk hkb => ?_
    · have hX5 := h5'.st.all X hX
      refine ⟨hg.os.trans hX5.os, hg.tape.trans hX5.tape, hg.output.trans hX5.output, Nat.le_trans hX5.size hg.size, fun k hk => ?_⟩
      refine (hg.block k (Nat.lt_of_lt_of_le hk hX5.size) (fun e => ?_)).trans (hX5.block k hk)
      have h1 := lp.own.lt k e.symm
      have h2 := lp.anc X hX
      omega
    · refine hg.block k hk (fun e => ?_)
      have h1 := lp.own.lt k e.symm
      omega
end
open Mi in
theorem left_any (z : Zn) (l : List Zn) (a : Option Addr) (cap : Nat) (w : World) (hS : Sl w.heap.size w (.slice a l.length cap) l) :
    Calls Tryz.prog 249 #[.agg #[.int .i64 z.a, .int .i64 z.b, .int .i64 z.c, .int .i64 z.d, .int .i64 z.e, .int .i64 z.f], .slice a l.length cap] w (Ret w fun v w' => ∃ a' c', v = .tuple #[.slice a' (Mi.left z l).1.length c', .int .i64 (Mi.left z l).2] ∧ Sl w'.heap.size w' (.slice a' (Mi.left z l).1.length c') (Mi.left z l).1) := by
  refine fun_ret 0 w Tryz.func249 (args := [.agg [.val (.int .i64 z.a), .val (.int .i64 z.b), .val (.int .i64 z.c), .val (.int .i64 z.d), .val (.int .i64 z.e), .val (.int .i64 z.f)], .val (.slice a l.length cap)]) rfl rfl ?_
  obtain ⟨_, _, hfe, hcap1, hcap2, _⟩ := hS.form
  injection hfe with _ _ hfe
  subst hfe
  unfold maxLen at hcap2
  have st := Stay.first (w := w)
  refine NewI.mk fun b1 hb1 => ?_
  unfold Mi.left
  apply CallI.use1
  focus (exact fun w1 h1 => zcheck_any z w1)
  intro w1 v1 h1 hB1
  have st := st.next h1 (fun x hx => by simp at hx <;> omega) hB1
  refine Branch.mk (fun hc => ?_) (fun hc => ?_)
  · have h0 : Zo.chk z ≠ 0 := by simpa using hc
    rw [if_pos h0]
    exact EndI.mk fun w9 h9 => ⟨_, _, rfl, Sl.nil⟩
  have h0 : Zo.chk z = 0 := by simpa using hc
  rw [if_neg (by simp [h0])]
  refine LoopI.invC (α := Nat × World) (fun y => [(21, .val (.int .i64 y.1))]) (fun y => y.2) (fun y => y.1 ≤ l.length ∧ Below w.heap.size w y.2 ∧ ∀ x, x ∈ l.take y.1 → Zo.chk x = 0) (fun y => l.length - y.1) ?_ ?_
  · intro w3 h3
    exact ⟨(0, w3), Cov.mk (by repeat' (first | exact trivial | refine And.intro rfl ?_)) rfl rfl rfl rfl rfl, rfl, Nat.zero_le _, h3.below, by simp⟩
  rintro ⟨k, V⟩ ⟨hk, hV, hall⟩
  refine Branch.mk (fun hc2 => ?_) (fun hc2 => ?_)
  · have hlt : k < l.length := by simpa using hc2
    have hg := List.getElem?_eq_getElem (l := l) (i := k) hlt
    generalize l[k] = x at hg
    have hSV := hS.go hV hV.size
    refine hSV.idx hg fun ad had => ?_
    refine hSV.ld hg had (Below.refl _ _) (by simp) ?_
    refine NewI.mk fun b2 hb2 => ?_
    apply CallI.use1
    focus (exact fun w4 h4 => zcheck_any x w4)
    intro w4 v4 h4 hB4
    refine Branch.mk (fun hc3 => ?_) (fun hc3 => ?_)
    · have h1 : Zo.chk x ≠ 0 := by simpa using hc3
      rw [if_pos (by rw [List.any_eq_true]; exact ⟨x, List.mem_of_getElem? hg, by simpa using h1⟩)]
      exact EndI.mk fun w9 h9 => ⟨_, _, rfl, Sl.nil⟩
    · have h1 : Zo.chk x = 0 := by simpa using hc3
      refine Need.mk (by simp only [inK]; omega) (EndI.mk fun w9 h9 => ⟨(k + 1, w9), Cov.mk (by repeat' (first | exact trivial | refine And.intro rfl ?_)) rfl rfl rfl rfl rfl, rfl, ⟨hlt, h9.below, fun y hy => ?_⟩, by simp only; omega⟩)
      have e : l.take (k + 1) = l.take k ++ [x] := by rw [List.take_add_one, hg]; rfl
      rw [e] at hy
      rcases List.mem_append.1 hy with hy | hy
      · exact hall y hy
      · rw [List.mem_singleton.1 hy]; exact h1
  have hge : k = l.length := by have : ¬ k < l.length := by simpa using hc2
                                omega
  subst hge
  rw [List.take_length] at hall
  rw [if_neg (by rw [List.any_eq_true]; rintro ⟨x, hx, h⟩; simp [hall x hx] at h)]
  refine NewI.mk fun b2 hb2 => ?_
  have hb2w : w.heap.size ≤ b2 := Nat.le_trans hV.size hb2
  refine LoopI.invC (α := Nat × World × Value × List Zn) (fun y => [(33, .val (.int .i64 y.1)), (8, .val y.2.2.1)]) (fun y => y.2.1)
    (fun y => y.1 ≤ l.length ∧ Below w.heap.size w y.2.1 ∧ Sl y.2.1.heap.size y.2.1 y.2.2.1 y.2.2.2 ∧ y.2.2.2.length ≤ 4096 ∧ outer l [z] = outer (l.drop y.1) y.2.2.2) (fun y => l.length - y.1) ?_ ?_
  · intro w3 h3
    exact ⟨(0, w3, .slice (some ⟨b2, 0, none⟩) 1 1, [z]), Cov.mk (by repeat' (first | exact trivial | refine And.intro rfl ?_)) rfl rfl rfl rfl rfl, rfl, Nat.zero_le _, h3.below, Sl.own (l := [z]) h3 1 rfl rfl rfl (Nat.le_refl _) (by simp [maxLen]), by simp, rfl⟩
  rintro ⟨i, V2, ov, out⟩ ⟨hi, hV2, hSo, hol, heq⟩
  simp only at hi hV2 hSo hol heq
  obtain ⟨ao, co, rfl, _⟩ := hSo.form
  refine Branch.mk (fun hc3 => ?_) (fun hc3 => ?_)
  · have hlt : i < l.length := by simpa using hc3
    have hg := List.getElem?_eq_getElem (l := l) (i := i) hlt
    have hd := List.drop_eq_getElem_cons hlt
    generalize l[i] = b at hg hd
    rw [hd, outer_cons] at heq
    have hSV := hS.go hV2 hV2.size
    refine hSV.idx hg fun ad had => ?_
    refine hSV.ld hg had (Below.refl _ _) (by simp) ?_
    refine NewI.mk fun b3 hb3 => ?_
    have st2 := Stay.start (w0 := ⟨w, w.heap.size, Nat.le_refl _⟩) hV2
    have hb3w : V2.heap.size ≤ b3 := hb3
    refine LoopI.invC (α := Nat × World × Value × List Zn) (fun y => [(39, .val (.int .i64 y.1)), (11, .val y.2.2.1)]) (fun y => y.2.1)
      (fun y => y.1 ≤ out.length ∧ (∃ base, Lp ⟨w, w.heap.size, Nat.le_refl _⟩ [V2] [b1, b2, b3] 104 base y.2.1 y.2.2.1 y.2.2.2) ∧ y.2.2.2.length ≤ 4096 ∧ inner b out [] = inner b (out.drop y.1) y.2.2.2) (fun y => out.length - y.1) ?_ ?_
    · intro w5 h5
      exact ⟨(0, w5, .slice none 0 0, []), Cov.mk (by repeat' (first | exact trivial | refine And.intro rfl ?_)) rfl rfl rfl rfl rfl, rfl, Nat.zero_le _, ⟨_, Lp.start st2 h5 (fun x hx => by simp at hx <;> omega)⟩, by simp, rfl⟩
    rintro ⟨j, V5, nv, next⟩ ⟨hj, ⟨base, lp⟩, hnl, hin⟩
    simp only at hj lp hnl hin
    obtain ⟨an, cn, rfl⟩ := lp.own.form
    refine Branch.mk (fun hc4 => ?_) (fun hc4 => ?_)
    · have hlt2 : j < out.length := by simpa using hc4
      have hg2 := List.getElem?_eq_getElem (l := out) (i := j) hlt2
      have hd2 := List.drop_eq_getElem_cons hlt2
      generalize out[j] = x at hg2 hd2
      rw [hd2, inner_cons] at hin
      have hSo5 := hSo.st lp.st
      refine hSo5.idx hg2 fun ad2 had2 => ?_
      refine hSo5.ld hg2 had2 (Below.refl _ _) (by simp) ?_
      refine NewI.mk fun b4 hb4 => ?_
      have hb4w : V5.heap.size ≤ b4 := hb4
      apply CallI.use
      focus (exact fun w6 h6 => minus_any x b w6)
      rintro v w6 v6 h6 hB6 ⟨am, cm, rfl, hOm⟩
      have lp6 := (lp.at h6 (fun y hy => by simp at hy <;> (left; omega))).go hB6
      have hml := minus_len x b
      refine Branch.mk (fun hc5 => ?_) (fun hc5 => ?_)
      · have he : (minus x b).2 ≠ 0 := by simpa using hc5
        rw [if_pos he] at hin
        rw [hin, if_pos he] at heq
        rw [heq]
        exact EndI.mk fun w9 h9 => ⟨_, _, rfl, Sl.nil⟩
      have he : (minus x b).2 = 0 := by simpa using hc5
      rw [if_neg (by simp [he])] at hin
      have h66 := h6.size
      have h67 := hB6.size
      refine GenN.appR (α := Zn) elZ lp6 (fun y hy hm => by have h1 := lp.own.lt y hy; have q1 := lp.blk b1 (by simp); have q2 := lp.blk b2 (by simp); have q3 := lp.blk b3 (by simp); simp at hm; omega) (by simp) (minus x b).1 (fun w8 h8 => (hOm.sl.go h8.go h8.size).src) (by omega) (by decide) fun a' c' w8 w9 h8 lp9 hsz hbl => ?_
      refine Branch.mk (fun hc6 => ?_) (fun hc6 => ?_)
      · have h4 : 4096 < (next ++ (minus x b).1).length := by have : (4096 : Int) < (next ++ (minus x b).1).length := by simpa using hc6
                                                              omega
        rw [if_pos h4] at hin
        rw [hin, if_pos (by decide)] at heq
        rw [heq]
        exact EndI.mk fun w9 h9 => ⟨_, _, rfl, Sl.nil⟩
      have h4 : ¬ 4096 < (next ++ (minus x b).1).length := by have : ¬ (4096 : Int) < (next ++ (minus x b).1).length := by simpa using hc6
                                                              omega
      rw [if_neg h4] at hin
      have ho : (out.length : Int) ≤ 4096 := by omega
      refine Need.mk (by simp only [inK]; omega) (EndI.mk fun w10 h10 => ⟨(j + 1, w10, .slice a' (next ++ (minus x b).1).length c', next ++ (minus x b).1), Cov.mk (by repeat' (first | exact trivial | refine And.intro rfl ?_)) rfl rfl rfl rfl rfl, rfl, ⟨hlt2, ⟨base, ?_⟩, Nat.le_of_not_lt h4, hin⟩, by simp only; omega⟩)
      exact lp9.at h10 (by simp)
    · have hge2 : j = out.length := by have : ¬ j < out.length := by simpa using hc4
                                       omega
      subst hge2
      rw [List.drop_length] at hin
      have hin : inner b out [] = (next, 0) := hin
      rw [hin, if_neg (by simp)] at heq
      refine Need.mk (by simp only [inK]; omega) (EndI.mk fun w10 h10 => ⟨(i + 1, w10, .slice an next.length cn, next), Cov.mk (by repeat' (first | exact trivial | refine And.intro rfl ?_)) rfl rfl rfl rfl rfl, rfl, ⟨hlt, h10.below, (lp.at h10 (by simp)).own.sl, hnl, heq⟩, by simp only; omega⟩)
  · have hge : i = l.length := by have : ¬ i < l.length := by simpa using hc3
                                  omega
    subst hge
    rw [List.drop_length] at heq
    rw [heq]
    exact EndI.mk fun w9 h9 => ⟨_, _, rfl, hSo.go h9.go h9.size⟩
end Go.Proofs.YtjbhpfmnfdebkaaGreat

namespace Go.Proofs.YtjbhpfmnfdebkaaGreat
set_option linter.unusedVariables false
set_option linter.unusedSimpArgs false
set_option maxRecDepth 100000
open Go.RowKit Go.Proofs.YtjbhpfmnfdebkaaGreat.Eng Enc

theorem indexZ_any (l : List Zn) (p : Zn → Bool) (a : Option Addr) (cap : Nat) (fid : FuncId) (caps : Array Value) (B : Nat) (w : World) (hB : B ≤ w.heap.size) (hS : Sl B w (.slice a l.length cap) l)
    (T : Nat → World → Prop) (h0 : T 0 w) (hst : ∀ k W W', T k W → Below W.heap.size W W' → T k W') (en : Enters Tryz.prog fid)
    (hcall : ∀ k x W, l[k]? = some x → Below B w W → T k W → Calls Tryz.prog fid (val x :: caps.toList).toArray W fun e W' => e = .returned (.bool (p x)) ∧ Below B W W' ∧ T (k + 1) W') :
    Calls Tryz.prog 131 #[.slice a l.length cap, .func (.func fid) #[] caps] w fun e w' => ∃ v, e = .returned v ∧ Below B w w' ∧ v = .int .i64 (idxF p l) ∧ T (cntF p l) w' := by
  obtain ⟨a', cap', e', hcap, hmax, _⟩ := hS.form
  injection e' with e1 e2 e3
  subst e1; subst e3
  unfold maxLen at hmax
  refine fun_at 0 B w hB Tryz.func131 (args := [.val (.slice a l.length cap), .val (.func (.func fid) #[] caps)]) rfl rfl ?_
  refine LoopI.inv (α := Nat × World) (fun x => [(8, .val (.int .i64 x.1))]) (fun _ => []) (fun x => x.2) (fun x => x.1 ≤ l.length ∧ T x.1 x.2 ∧ Below B w x.2 ∧ ∀ j y, j < x.1 → l[j]? = some y → p y = false) (fun x => l.length - x.1) ?_ ?_
  · intro w1 h1
    exact ⟨(0, w1), Cov.mk (by repeat' (first | exact trivial | refine And.intro rfl ?_)) rfl rfl rfl rfl rfl, rfl, Nat.zero_le _, hst _ _ _ h0 h1.go, h1.below, fun j y hj => by omega⟩
  · rintro ⟨k, W⟩ ⟨hk, hT, hBw, hno⟩
    refine Branch.mk (fun hb => ?_) (fun hb => ?_)
    · have hlt : k < l.length := by simpa using hb
      obtain ⟨x, hx⟩ : ∃ x, l[k]? = some x := ⟨l[k], List.getElem?_eq_getElem hlt⟩
      refine hS.idx hx fun ad had => ?_
      refine hS.ld hx had hBw (by simp) ?_
      refine Need.mk en ?_
      refine CallI.mk fun w1 h1 => ?_
      have hT1 := hst _ _ _ hT h1.go
      refine (hcall k x w1 hx h1.below hT1).mono ?_
      rintro e w2 ⟨rfl, hB2, hT2⟩
      refine ⟨⟨hB2, by simp⟩, _, rfl, ?_⟩
      refine Branch.mk (fun hp => ?_) (fun hp => ?_)
      · refine EndI.mk fun w3 h3 => ?_
        obtain ⟨i1, i2⟩ := idxF_at p l k x hx hp hno
        refine ⟨by rw [i1], by rw [i2]; exact hst _ _ _ hT2 h3.go⟩
      · refine Need.mk (by show _ ∧ _; omega) (EndI.mk fun w3 h3 => ?_)
        refine ⟨(k + 1, w3), Cov.mk (by repeat' (first | exact trivial | refine And.intro rfl ?_)) rfl rfl rfl rfl rfl, rfl, ⟨hlt, hst _ _ _ hT2 h3.go, h3.below, fun j y hj hy => ?_⟩, by simp only; omega⟩
        by_cases hjk : j = k
        · subst hjk; rw [hx] at hy; injection hy with hy; subst hy; exact hp
        · exact hno j y (by omega) hy
    · have hge : k = l.length := by have : ¬ k < l.length := by simpa using hb
                                    omega
      subst hge
      refine EndI.mk fun w3 h3 => ?_
      obtain ⟨i1, i2⟩ := idxF_none p l fun j y hy => hno j y (List.getElem?_eq_some_iff.1 hy).1 hy
      exact ⟨by rw [i1], by rw [i2]; exact hst _ _ _ hT h3.go⟩

theorem containsZ_any (l : List Zn) (p : Zn → Bool) (a : Option Addr) (cap : Nat) (fid : FuncId) (caps : Array Value) (B : Nat) (w : World) (hB : B ≤ w.heap.size) (hS : Sl B w (.slice a l.length cap) l)
    (T : Nat → World → Prop) (h0 : T 0 w) (hst : ∀ k W W', T k W → Below W.heap.size W W' → T k W') (en : Enters Tryz.prog fid)
    (hcall : ∀ k x W, l[k]? = some x → Below B w W → T k W → Calls Tryz.prog fid (val x :: caps.toList).toArray W fun e W' => e = .returned (.bool (p x)) ∧ Below B W W' ∧ T (k + 1) W') :
    Calls Tryz.prog 64 #[.slice a l.length cap, .func (.func fid) #[] caps] w fun e w' => ∃ v, e = .returned v ∧ Below B w w' ∧ v = .bool (l.any p) ∧ T (cntF p l) w' := by
  refine fun_at 0 B w hB Tryz.func64 (args := [.val (.slice a l.length cap), .val (.func (.func fid) #[] caps)]) rfl rfl ?_
  refine CallI.mk fun w1 h1 => ?_
  have hB1 : B ≤ w1.heap.size := Nat.le_trans hB h1.size
  refine (indexZ_any l p a cap fid caps B w1 hB1 (hS.below h1.below) T (hst _ _ _ h0 h1.go) hst en fun k x W hx hW hT => hcall k x W hx (h1.below.trans hW) hT).mono ?_
  rintro e w2 ⟨v, rfl, hB2, rfl, hT⟩
  refine ⟨⟨hB2, by simp⟩, _, rfl, ?_⟩
  refine EndI.mk fun w3 h3 => ⟨?_, hst _ _ _ hT h3.go⟩
  rw [← idxF_any]

theorem containsZ_pure (l : List Zn) (p : Zn → Bool) (a : Option Addr) (cap : Nat) (fid : FuncId) (caps : Array Value) (w : World) (hS : Sl w.heap.size w (.slice a l.length cap) l) (en : Enters Tryz.prog fid)
    (hcall : ∀ x W, x ∈ l → Below w.heap.size w W → Calls Tryz.prog fid (val x :: caps.toList).toArray W fun e W' => e = .returned (.bool (p x)) ∧ Below W.heap.size W W') :
    Calls Tryz.prog 64 #[.slice a l.length cap, .func (.func fid) #[] caps] w fun e w' => e = .returned (.bool (l.any p)) ∧ Below w.heap.size w w' := by
  refine (containsZ_any l p a cap fid caps w.heap.size w (Nat.le_refl _) hS (fun _ _ => True) trivial (fun _ _ _ _ _ => trivial) en fun k x W hx hB _ => ?_).mono ?_
  · refine (hcall x W (List.mem_of_getElem? hx) hB).mono ?_
    rintro e W' ⟨rfl, hB'⟩
    exact ⟨rfl, hB'.mono hB.size, trivial⟩
  · rintro e w' ⟨v, rfl, hB, rfl, _⟩
    exact ⟨rfl, hB⟩
end Go.Proofs.YtjbhpfmnfdebkaaGreat

namespace Go.Proofs.YtjbhpfmnfdebkaaGreat
set_option linter.unusedVariables false
set_option linter.unusedSimpArgs false
set_option maxRecDepth 100000
open Go.RowKit Go.Proofs.YtjbhpfmnfdebkaaGreat.Eng Enc

theorem cloneZ_any (l : List Zn) (a : Option Addr) (cap : Nat) (w : World) (hS : Sl w.heap.size w (.slice a l.length cap) l) (hlen : l.length ≤ 1000000) :
    Calls Tryz.prog 96 #[.slice a l.length cap] w (Ret w fun v w' => Own 104 w.heap.size w' v l) := by
  refine fun_ret 0 w Tryz.func96 (args := [.val (.slice a l.length cap)]) rfl rfl ?_
  refine GenV.to (fun w1 => Lib.run_eql_slice_nil w1 22 104 a l.length cap 0 0 Tryz.underlying22) fun w1 h1 => ?_
  refine Branch.mk (fun hb => ?_) (fun hb => ?_)
  · refine EndI.mk fun w2 h2 => ?_
    have ha : a = none := by cases a <;> simp_all
    obtain ⟨a', cap', e', hcap, hmax, hn⟩ := hS.form
    injection e' with e1 e2 e3
    subst e1; subst e3
    have h0 := hn ha
    obtain rfl : l = [] := List.eq_nil_of_length_eq_zero (by omega)
    exact Own.nil
  · refine NewI.mk fun b hb1 => ?_
    have hsrc : ∀ w2, At ⟨w, w.heap.size, Nat.le_refl _⟩ [⟨[], 104⟩] [b] [] w1 w2 → SrcC w2 (.slice a l.length cap) 6 l.length (cellsL l) := fun w2 h2 => (hS.below h2.below).src
    refine GenN.appF (α := Zn) elZ [] l w.heap.size rfl (fun w2 h2 => ?_) hsrc ?_ ?_ (fun w2 h2 => h2.below.size) fun v' w2 w3 h2 hB ho => ?_
    · exact ⟨rfl, .inr ⟨b, 0, #[], rfl, h2.fresh b (by simp), h2.blk 0 b _ rfl rfl, Nat.le_refl _, by simp [maxLen], rfl, rfl⟩⟩
    · simp [maxLen]; omega
    · simp; omega
    · exact EndI.mk fun w4 h4 => ho.below h4.go
end Go.Proofs.YtjbhpfmnfdebkaaGreat

