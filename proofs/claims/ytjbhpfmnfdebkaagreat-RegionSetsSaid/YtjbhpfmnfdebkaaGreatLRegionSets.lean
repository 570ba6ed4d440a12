/-
  rallentando/rallentandolaw14.RegionSets: the law.
-/
import Derived.Test.YtjbhpfmnfdebkaaGreatLRegionSets8
import Derived.Test.YtjbhpfmnfdebkaaGreatLRegionSets5
import Derived.Test.YtjbhpfmnfdebkaaGreatLRegionSets7
import Derived.Test.YtjbhpfmnfdebkaaGreatLRegionSets4
namespace Go.Proofs.YtjbhpfmnfdebkaaGreat
set_option linter.unusedVariables false
set_option linter.unusedSimpArgs false
set_option maxRecDepth 100000
open Go.RowKit Go.Proofs.YtjbhpfmnfdebkaaGreat.Eng Enc

namespace Ky
theorem rl_len (l : List Zn) {long : Int} (hl : 1 ≤ long ∧ long ≤ 16) : (rl l long).length ≤ 3267 := by
  unfold rl Rg.up
  rw [List.length_map]
  refine Nat.le_trans (List.length_filter_le _ _) ?_
  rw [List.length_range, Rg.many_doc hl]
  have hm := Fr.mul_bd (u := 3 * (2 * long + 1)) (v := 2 * long + 1) (m := 99) (n := 33) (by omega) (by omega) (by omega) (by omega)
  simp only
  omega
theorem rl_in {l : List Zn} (hc : ∀ z, z ∈ l → Zo.chk z = 0) {long : Int} (hl : 1 ≤ long ∧ long ≤ 16) (x : Int) (hx : x ∈ rl l long) : inK .i64 x := by
  have h := regs_in hl ((mem_rl hc hl).1 hx).1
  have hm := Fr.mul_bd (u := 3 * (2 * long + 1)) (v := 2 * long + 1) (m := 99) (n := 33) (by omega) (by omega) (by omega) (by omega)
  simp only [inK]
  omega
theorem list_fit {l : List Zn} {long : Int} (h : (Rg.list l long).2 = 0) : (1 ≤ long ∧ long ≤ 16) ∧ ∀ z, z ∈ l → Zo.chk z = 0 := by
  unfold Rg.list at h
  split at h
  · rename_i h1; exact absurd h h1
  rename_i h1
  split at h
  · cases h
  rename_i h2
  refine ⟨?_, fun z hz => ?_⟩
  · apply Classical.byContradiction
    intro hn
    apply h1
    unfold Rg.many
    rw [if_neg (fun k => hn (Rg.fits_iff.1 k))]
    decide
  · simp only [Bool.not_eq_true, List.any_eq_false] at h2
    simpa using h2 z hz
end Ky
theorem ahead14_any (l : List Zn) (a : Option Addr) (cap : Nat) (w : World) (hS : Sl w.heap.size w (.slice a l.length cap) l) :
    Calls Tryz.prog 30 #[.slice a l.length cap] w fun e w' => e = .returned (.bool (!Cl.odd l)) ∧ Below w.heap.size w w' := by
  refine fun_eq 0 w Tryz.func30 (args := [.val (.slice a l.length cap)]) rfl rfl ?_
  obtain ⟨_, _, hfe, hcap1, hcap2, _⟩ := hS.form
  injection hfe with _ _ hfe
  subst hfe
  unfold maxLen at hcap2
  refine LoopI.invC (α := Nat × World) (fun y => [(3, .val (.int .i64 y.1))]) (fun y => y.2) (fun y => y.1 ≤ l.length ∧ Below w.heap.size w y.2 ∧ (l.drop y.1).any Cl.oddZ = l.any Cl.oddZ) (fun y => l.length - y.1) ?_ ?_
  · intro w1 h1
    exact ⟨(0, w1), Cov.mk (by repeat' (first | exact trivial | refine And.intro rfl ?_)) rfl rfl rfl rfl rfl, rfl, Nat.zero_le _, h1.below, rfl⟩
  rintro ⟨k, V⟩ ⟨hk, hV, hall⟩
  simp only at hk hV hall
  refine Branch.mk (fun hc2 => ?_) (fun hc2 => ?_)
  · have hlt : k < l.length := by have := of_decide_eq_true hc2; simp only at this; omega
    have hx := List.getElem?_eq_getElem (l := l) (i := k) hlt
    have hdm : l.drop k = l[k]'hlt :: l.drop (k + 1) := List.drop_eq_getElem_cons hlt
    generalize l[k]'hlt = x at hx hdm
    rw [hdm, List.any_cons] at hall
    have hS4 := hS.go hV hV.size
    have yes : Cl.oddZ x = true → (!Cl.odd l) = false := fun h => by
      rw [h, Bool.true_or] at hall
      unfold Cl.odd
      rw [← hall]; rfl
    refine hS4.idx hx fun ad had => ?_
    refine Need.mk (by decide) ?_
    refine hS4.ldx hx had (Below.refl _ _) (by simp) (i := 1) (c := .int .i64 x.b) rfl ?_
    refine Branch.mk (fun hc3 => ?_) (fun hc3 => ?_)
    · rw [yes (by unfold Cl.oddZ; simp at hc3; simp [hc3])]
      exact EndI.mk fun w9 h9 => rfl
    · refine hS4.idx hx fun ad2 had2 => ?_
      refine Need.mk (by decide) ?_
      refine hS4.ldx hx had2 (Below.refl _ _) (by simp) (i := 5) (c := .int .i64 x.f) rfl ?_
      refine Branch.mk (fun hc4 => ?_) (fun hc4 => ?_)
      · rw [yes (by unfold Cl.oddZ; simp at hc4; simp [hc4])]
        exact EndI.mk fun w9 h9 => rfl
      · have hn : Cl.oddZ x = false := by unfold Cl.oddZ; simp at hc3 hc4; simp [hc3, hc4]
        rw [hn, Bool.false_or] at hall
        refine Need.mk (by simp only [inK]; omega) (EndI.mk fun w9 h9 => ⟨(k + 1, w9), Cov.mk (by repeat' (first | exact trivial | refine And.intro rfl ?_)) rfl rfl rfl rfl rfl, rfl, ⟨hlt, h9.below, hall⟩, by simp only; omega⟩)
  · have hge : k = l.length := by have := of_decide_eq_false hc2; simp only at this; omega
    subst hge
    rw [List.drop_length] at hall
    refine EndI.mk fun w9 h9 => ?_
    unfold Cl.odd
    rw [← hall]; rfl
theorem same14_rl (m : List Zn) (hlen : m.length ≤ 4096) (hc : ∀ z, z ∈ m → Zo.chk z = 0) (long : Int) (hl : 1 ≤ long ∧ long ≤ 16) (a b : Option Addr) (ca cb : Nat) (w : World) (hS : Sl w.heap.size w (.slice a m.length ca) m) (hT : Sl w.heap.size w (.slice b (Ky.rl m long).length cb) (Ky.rl m long)) :
    Calls Tryz.prog 26 #[.slice a m.length ca, .slice b (Ky.rl m long).length cb, .int .i64 long] w fun e w' => e = .returned (.bool true) ∧ Below w.heap.size w w' := by
  refine fun_eq 0 w Tryz.func26 (args := [.val (.slice a m.length ca), .val (.slice b (Ky.rl m long).length cb), .val (.int .i64 long)]) rfl rfl ?_
  have st := Stay.first (w := w)
  have hli := fun (w : World) hs => rlist_any m hlen long a ca w hs
  rw [Ky.list_rl hc hl] at hli
  apply CallI.use
  focus (exact fun w1 h1 => hli w1 (hS.st (st.at h1 (fun x hx => by simp at hx <;> omega))))
  rintro v w1 v1 h1 hB1 ⟨a1, c1, rfl, hO1⟩
  have st := st.next h1 (fun x hx => by simp at hx <;> omega) hB1
  refine Branch.yes rfl ?_
  apply CallI.use1
  focus (exact fun w2 h2 => rsame14_any (Ky.rl m long) (Ky.rl m long) a1 c1 b cb w2 ((hO1.st (st.at h2 (fun x hx => by simp at hx <;> omega))).sl) (hT.st (st.at h2 (fun x hx => by simp at hx <;> omega))))
  intro w2 v2 h2 hB2
  have st := st.next h2 (fun x hx => by simp at hx <;> omega) hB2
  exact EndI.mk fun w9 h9 => by simp
set_option maxHeartbeats 4000000 in
open Ky in
theorem rs_seg4 (a b : List Zn) (s : Sp) (hs : s.ins) (lo hi long : Int) (hlo : inK .i64 lo) (hhi : inK .i64 hi) (hl : 1 ≤ long ∧ long ≤ 16) (hca : ∀ z, z ∈ a → Zo.chk z = 0) (hcb : ∀ z, z ∈ b → Zo.chk z = 0) (w X : World) (hX : Below w.heap.size w X) (a2 : Option Addr) (c2 : Nat) (a8 : Option Addr) (c8 : Nat) (S2 : Sl X.heap.size X (.slice a2 (rl a long).length c2) (rl a long)) (S8 : Sl X.heap.size X (.slice a8 (Zs.window a lo hi).1.length c8) (Zs.window a lo hi).1)  :
    RunS YtjbhpfmnfdebkaaGreat.cx ⟨w, w.heap.size, Nat.le_refl _⟩ 0 (sufC 2 (sufC 2 (sufC 1 (sufC 3 (sufC 3 (sufC 3 (sufC 3 (bodyOf Tryz.f4)))))))) (endM YtjbhpfmnfdebkaaGreat.cx ⟨w, w.heap.size, Nat.le_refl _⟩ Tryz.f4 (fun v _ => v = .bool true)) 191 [(3, .val (.int .i64 lo)), (4, .val (.int .i64 hi)), (5, .val (.int .i64 long)), (14, .val (.slice a2 (rl a long).length c2)), (26, .val (.slice a8 (Zs.window a lo hi).1.length c8)), (27, .val (.int .i64 (Zs.window a lo hi).2))] [] [] X := by
  have st : Stay ⟨w, w.heap.size, Nat.le_refl _⟩ [X] X := ⟨fun Y hY => by rw [List.mem_singleton.1 hY]; exact hX, fun Y hY => by rw [List.mem_singleton.1 hY]; exact Below.refl _ _⟩
  refine RunS.last cxOk ?_
  have nA := rl_len a hl
  have iA := rl_in hca hl
  apply CallI.use
  focus (exact fun w1 h1 => regWindow_any (rl a long) (by omega) iA lo hi hlo hhi long a2 c2 w1 (S2.st (st.at h1 (fun x hx => by simp at hx <;> omega))))
  rintro v w1 v1 h1 hB1 ⟨a1, c1, rfl, hO1⟩
  have st := st.next h1 (fun x hx => by simp at hx <;> omega) hB1
  by_cases h0 : (Zs.window a lo hi).2 = 0
  · refine Branch.no (by simp [h0]) ?_
    obtain ⟨f1, f2, f3⟩ := Zs.window_pts h0
    have e := window_rl h0 hl
    generalize Rg.window (rl a long) lo hi long = R at hO1 e ⊢
    subst e
    refine Branch.yes rfl ?_
    apply CallI.use1
    focus (exact fun w2 h2 => same14_rl (Zs.window a lo hi).1 f2.1 f2.2.1 long hl a8 a1 c8 c1 w2 (S8.st (st.at h2 (fun x hx => by simp at hx <;> omega))) ((hO1.st (st.at h2 (fun x hx => by simp at hx <;> omega))).sl))
    intro w2 v2 h2 hB2
    have st := st.next h2 (fun x hx => by simp at hx <;> omega) hB2
    exact EndI.mk fun w9 h9 => rfl
  · refine Branch.yes (by simp [h0]) ?_
    exact EndI.mk fun w9 h9 => rfl
set_option maxHeartbeats 4000000 in
open Ky in
theorem rs_seg3 (a b : List Zn) (s : Sp) (hs : s.ins) (lo hi long : Int) (hlo : inK .i64 lo) (hhi : inK .i64 hi) (hl : 1 ≤ long ∧ long ≤ 16) (hca : ∀ z, z ∈ a → Zo.chk z = 0) (hcb : ∀ z, z ∈ b → Zo.chk z = 0) (w X : World) (hX : Below w.heap.size w X) (a2 : Option Addr) (c2 : Nat) (a7 : Option Addr) (c7 : Nat) (a8 : Option Addr) (c8 : Nat) (S2 : Sl X.heap.size X (.slice a2 (rl a long).length c2) (rl a long)) (S7 : Sl X.heap.size X (.slice a7 (Zs.within a s).1.length c7) (Zs.within a s).1) (S8 : Sl X.heap.size X (.slice a8 (Zs.window a lo hi).1.length c8) (Zs.window a lo hi).1) (b1 : Nat) :
    RunS YtjbhpfmnfdebkaaGreat.cx ⟨w, w.heap.size, Nat.le_refl _⟩ 0 (sufC 2 (sufC 1 (sufC 3 (sufC 3 (sufC 3 (sufC 3 (bodyOf Tryz.f4))))))) (endM YtjbhpfmnfdebkaaGreat.cx ⟨w, w.heap.size, Nat.le_refl _⟩ Tryz.f4 (fun v _ => v = .bool true)) 191 [(3, .val (.int .i64 lo)), (4, .val (.int .i64 hi)), (5, .val (.int .i64 long)), (8, .loc 0 0), (14, .val (.slice a2 (rl a long).length c2)), (24, .val (.slice a7 (Zs.within a s).1.length c7)), (25, .val (.int .i64 (Zs.within a s).2)), (26, .val (.slice a8 (Zs.window a lo hi).1.length c8)), (27, .val (.int .i64 (Zs.window a lo hi).2))] [⟨[.val (.int .i64 s.lo), .val (.bool s.ls), .val (.int .i64 s.hi), .val (.bool s.hs), .val (.bool s.op)], 32⟩] [b1] X := by
  have st : Stay ⟨w, w.heap.size, Nat.le_refl _⟩ [X] X := ⟨fun Y hY => by rw [List.mem_singleton.1 hY]; exact hX, fun Y hY => by rw [List.mem_singleton.1 hY]; exact Below.refl _ _⟩
  refine RunS.cut cxOk 2 ?_
  have nA := rl_len a hl
  have iA := rl_in hca hl
  apply CallI.use
  focus (exact fun w1 h1 => regWithin_any (rl a long) (by omega) iA s hs long a2 c2 w1 (S2.st (st.at h1 (fun x hx => by simp at hx <;> omega))))
  rintro v w1 v1 h1 hB1 ⟨a1, c1, rfl, hO1⟩
  have st := st.next h1 (fun x hx => by simp at hx <;> omega) hB1
  by_cases h0 : (Zs.within a s).2 = 0
  · refine Branch.yes (by simp [h0]) ?_
    obtain ⟨f2, f3⟩ := Zs.within_pts h0
    have e := within_rl h0 hl
    generalize Rg.within (rl a long) s long = R at hO1 e ⊢
    subst e
    refine Branch.no rfl ?_
    apply CallI.use1
    focus (exact fun w2 h2 => same14_rl (Zs.within a s).1 f2.1 f2.2.1 long hl a7 a1 c7 c1 w2 (S7.st (st.at h2 (fun x hx => by simp at hx <;> omega))) ((hO1.st (st.at h2 (fun x hx => by simp at hx <;> omega))).sl))
    intro w2 v2 h2 hB2
    have st := st.next h2 (fun x hx => by simp at hx <;> omega) hB2
    refine Branch.no rfl ?_
    exact EndI.mk fun w9 h9 => ⟨_, [], [], by exact Cov.mk (by repeat' (first | exact trivial | refine And.intro rfl ?_)) rfl rfl rfl rfl rfl, rs_seg4 a b s hs lo hi long hlo hhi hl hca hcb w _ h9.below a2 c2 a8 c8 ((S2.st st).go (at_belowM h9 (by simp)) (at_belowM h9 (by simp)).size) ((S8.st st).go (at_belowM h9 (by simp)) (at_belowM h9 (by simp)).size)⟩
  · refine Branch.no (by simp [h0]) ?_
    exact EndI.mk fun w9 h9 => ⟨_, [], [], by exact Cov.mk (by repeat' (first | exact trivial | refine And.intro rfl ?_)) rfl rfl rfl rfl rfl, rs_seg4 a b s hs lo hi long hlo hhi hl hca hcb w _ h9.below a2 c2 a8 c8 ((S2.st st).go (at_belowM h9 (by simp)) (at_belowM h9 (by simp)).size) ((S8.st st).go (at_belowM h9 (by simp)) (at_belowM h9 (by simp)).size)⟩
set_option maxHeartbeats 4000000 in
open Ky in
theorem rs_seg2 (a b : List Zn) (s : Sp) (hs : s.ins) (lo hi long : Int) (hlo : inK .i64 lo) (hhi : inK .i64 hi) (hl : 1 ≤ long ∧ long ≤ 16) (hca : ∀ z, z ∈ a → Zo.chk z = 0) (hcb : ∀ z, z ∈ b → Zo.chk z = 0) (w X : World) (hX : Below w.heap.size w X) (pa : Option Addr) (ca : Nat) (pb : Option Addr) (cb : Nat) (a2 : Option Addr) (c2 : Nat) (a3 : Option Addr) (c3 : Nat) (a6 : Option Addr) (c6 : Nat) (a7 : Option Addr) (c7 : Nat) (a8 : Option Addr) (c8 : Nat) (hS : Sl X.heap.size X (.slice pa a.length ca) a) (hT : Sl X.heap.size X (.slice pb b.length cb) b) (S2 : Sl X.heap.size X (.slice a2 (rl a long).length c2) (rl a long)) (S3 : Sl X.heap.size X (.slice a3 (rl b long).length c3) (rl b long)) (S6 : Sl X.heap.size X (.slice a6 (Zs.comp a b).1.length c6) (Zs.comp a b).1) (S7 : Sl X.heap.size X (.slice a7 (Zs.within a s).1.length c7) (Zs.within a s).1) (S8 : Sl X.heap.size X (.slice a8 (Zs.window a lo hi).1.length c8) (Zs.window a lo hi).1) (b1 : Nat) :
    RunS YtjbhpfmnfdebkaaGreat.cx ⟨w, w.heap.size, Nat.le_refl _⟩ 0 (sufC 1 (sufC 3 (sufC 3 (sufC 3 (sufC 3 (bodyOf Tryz.f4)))))) (endM YtjbhpfmnfdebkaaGreat.cx ⟨w, w.heap.size, Nat.le_refl _⟩ Tryz.f4 (fun v _ => v = .bool true)) 191 [(0, .val (.slice pa a.length ca)), (1, .val (.slice pb b.length cb)), (3, .val (.int .i64 lo)), (4, .val (.int .i64 hi)), (5, .val (.int .i64 long)), (8, .loc 0 0), (14, .val (.slice a2 (rl a long).length c2)), (16, .val (.slice a3 (rl b long).length c3)), (22, .val (.slice a6 (Zs.comp a b).1.length c6)), (23, .val (.int .i64 (Zs.comp a b).2)), (24, .val (.slice a7 (Zs.within a s).1.length c7)), (25, .val (.int .i64 (Zs.within a s).2)), (26, .val (.slice a8 (Zs.window a lo hi).1.length c8)), (27, .val (.int .i64 (Zs.window a lo hi).2))] [⟨[.val (.int .i64 s.lo), .val (.bool s.ls), .val (.int .i64 s.hi), .val (.bool s.hs), .val (.bool s.op)], 32⟩] [b1] X := by
  have st : Stay ⟨w, w.heap.size, Nat.le_refl _⟩ [X] X := ⟨fun Y hY => by rw [List.mem_singleton.1 hY]; exact hX, fun Y hY => by rw [List.mem_singleton.1 hY]; exact Below.refl _ _⟩
  refine RunS.cut cxOk 2 ?_
  have nA := rl_len a hl
  have iA := rl_in hca hl
  have nB := rl_len b hl
  have iB := rl_in hcb hl
  apply CallI.use
  focus (exact fun w1 h1 => regComp_any (rl a long) (rl b long) (by omega) (by omega) iA iB long a2 a3 c2 c3 w1 (S2.st (st.at h1 (fun x hx => by simp at hx <;> omega))) (S3.st (st.at h1 (fun x hx => by simp at hx <;> omega))))
  rintro v w1 v1 h1 hB1 ⟨a1, c1, rfl, hO1⟩
  have st := st.next h1 (fun x hx => by simp at hx <;> omega) hB1
  by_cases h0 : (Zs.comp a b).2 = 0
  case neg =>
    refine Branch.no (by simp [h0]) ?_
    exact EndI.mk fun w9 h9 => ⟨_, [⟨[.val (.int .i64 s.lo), .val (.bool s.ls), .val (.int .i64 s.hi), .val (.bool s.hs), .val (.bool s.op)], 32⟩], [b1], by exact Cov.mk (by repeat' (first | exact trivial | refine And.intro rfl ?_)) rfl rfl rfl rfl rfl, rs_seg3 a b s hs lo hi long hlo hhi hl hca hcb w _ h9.below a2 c2 a7 c7 a8 c8 ((S2.st st).go (at_belowM h9 (by simp)) (at_belowM h9 (by simp)).size) ((S7.st st).go (at_belowM h9 (by simp)) (at_belowM h9 (by simp)).size) ((S8.st st).go (at_belowM h9 (by simp)) (at_belowM h9 (by simp)).size) b1⟩
  refine Branch.yes (by simp [h0]) ?_
  apply CallI.use1
  focus (exact fun w2 h2 => ahead14_any a pa ca w2 (hS.st (st.at h2 (fun x hx => by simp at hx <;> omega))))
  intro w2 v2 h2 hB2
  have st := st.next h2 (fun x hx => by simp at hx <;> omega) hB2
  by_cases oa : Cl.odd a = false
  case neg =>
    refine Branch.no (by simp at oa; simp [oa]) ?_
    exact EndI.mk fun w9 h9 => ⟨_, [⟨[.val (.int .i64 s.lo), .val (.bool s.ls), .val (.int .i64 s.hi), .val (.bool s.hs), .val (.bool s.op)], 32⟩], [b1], by exact Cov.mk (by repeat' (first | exact trivial | refine And.intro rfl ?_)) rfl rfl rfl rfl rfl, rs_seg3 a b s hs lo hi long hlo hhi hl hca hcb w _ h9.below a2 c2 a7 c7 a8 c8 ((S2.st st).go (at_belowM h9 (by simp)) (at_belowM h9 (by simp)).size) ((S7.st st).go (at_belowM h9 (by simp)) (at_belowM h9 (by simp)).size) ((S8.st st).go (at_belowM h9 (by simp)) (at_belowM h9 (by simp)).size) b1⟩
  refine Branch.yes (by rw [oa]; rfl) ?_
  apply CallI.use1
  focus (exact fun w3 h3 => ahead14_any b pb cb w3 (hT.st (st.at h3 (fun x hx => by simp at hx <;> omega))))
  intro w3 v3 h3 hB3
  have st := st.next h3 (fun x hx => by simp at hx <;> omega) hB3
  by_cases ob : Cl.odd b = false
  case neg =>
    refine Branch.no (by simp at ob; simp [ob]) ?_
    exact EndI.mk fun w9 h9 => ⟨_, [⟨[.val (.int .i64 s.lo), .val (.bool s.ls), .val (.int .i64 s.hi), .val (.bool s.hs), .val (.bool s.op)], 32⟩], [b1], by exact Cov.mk (by repeat' (first | exact trivial | refine And.intro rfl ?_)) rfl rfl rfl rfl rfl, rs_seg3 a b s hs lo hi long hlo hhi hl hca hcb w _ h9.below a2 c2 a7 c7 a8 c8 ((S2.st st).go (at_belowM h9 (by simp)) (at_belowM h9 (by simp)).size) ((S7.st st).go (at_belowM h9 (by simp)) (at_belowM h9 (by simp)).size) ((S8.st st).go (at_belowM h9 (by simp)) (at_belowM h9 (by simp)).size) b1⟩
  refine Branch.yes (by rw [ob]; rfl) ?_
  have f2 := (Zs.comp_pts h0).1
  have ahd : ∀ (l : List Zn), (∀ z, z ∈ l → Zo.chk z = 0) → Cl.odd l = false → Ah l := fun l hc ho z hz => ⟨hc z hz, by
    unfold Cl.odd at ho
    have h1 := List.any_eq_false.1 ho z hz
    unfold Cl.oddZ at h1
    simp only [Bool.or_eq_true, decide_eq_true_eq, not_or] at h1
    omega⟩
  have e := comp_rl (ahd a hca oa) (ahd b hcb ob) h0 hl
  generalize Rg.comp (rl a long) (rl b long) long = R at hO1 e ⊢
  subst e
  refine Branch.no rfl ?_
  apply CallI.use1
  focus (exact fun w4 h4 => same14_rl (Zs.comp a b).1 f2.1 f2.2.1 long hl a6 a1 c6 c1 w4 (S6.st (st.at h4 (fun x hx => by simp at hx <;> omega))) ((hO1.st (st.at h4 (fun x hx => by simp at hx <;> omega))).sl))
  intro w4 v4 h4 hB4
  have st := st.next h4 (fun x hx => by simp at hx <;> omega) hB4
  refine Branch.no rfl ?_
  exact EndI.mk fun w9 h9 => ⟨_, [⟨[.val (.int .i64 s.lo), .val (.bool s.ls), .val (.int .i64 s.hi), .val (.bool s.hs), .val (.bool s.op)], 32⟩], [b1], by exact Cov.mk (by repeat' (first | exact trivial | refine And.intro rfl ?_)) rfl rfl rfl rfl rfl, rs_seg3 a b s hs lo hi long hlo hhi hl hca hcb w _ h9.below a2 c2 a7 c7 a8 c8 ((S2.st st).go (at_belowM h9 (by simp)) (at_belowM h9 (by simp)).size) ((S7.st st).go (at_belowM h9 (by simp)) (at_belowM h9 (by simp)).size) ((S8.st st).go (at_belowM h9 (by simp)) (at_belowM h9 (by simp)).size) b1⟩
set_option maxHeartbeats 4000000 in
open Ky in
theorem rs_seg1 (a b : List Zn) (s : Sp) (hs : s.ins) (lo hi long : Int) (hlo : inK .i64 lo) (hhi : inK .i64 hi) (hl : 1 ≤ long ∧ long ≤ 16) (hca : ∀ z, z ∈ a → Zo.chk z = 0) (hcb : ∀ z, z ∈ b → Zo.chk z = 0) (w X : World) (hX : Below w.heap.size w X) (pa : Option Addr) (ca : Nat) (pb : Option Addr) (cb : Nat) (a2 : Option Addr) (c2 : Nat) (a3 : Option Addr) (c3 : Nat) (a5 : Option Addr) (c5 : Nat) (a6 : Option Addr) (c6 : Nat) (a7 : Option Addr) (c7 : Nat) (a8 : Option Addr) (c8 : Nat) (hS : Sl X.heap.size X (.slice pa a.length ca) a) (hT : Sl X.heap.size X (.slice pb b.length cb) b) (S2 : Sl X.heap.size X (.slice a2 (rl a long).length c2) (rl a long)) (S3 : Sl X.heap.size X (.slice a3 (rl b long).length c3) (rl b long)) (S5 : Sl X.heap.size X (.slice a5 (Zs.and a b).1.length c5) (Zs.and a b).1) (S6 : Sl X.heap.size X (.slice a6 (Zs.comp a b).1.length c6) (Zs.comp a b).1) (S7 : Sl X.heap.size X (.slice a7 (Zs.within a s).1.length c7) (Zs.within a s).1) (S8 : Sl X.heap.size X (.slice a8 (Zs.window a lo hi).1.length c8) (Zs.window a lo hi).1) (b1 : Nat) :
    RunS YtjbhpfmnfdebkaaGreat.cx ⟨w, w.heap.size, Nat.le_refl _⟩ 0 (sufC 3 (sufC 3 (sufC 3 (sufC 3 (bodyOf Tryz.f4))))) (endM YtjbhpfmnfdebkaaGreat.cx ⟨w, w.heap.size, Nat.le_refl _⟩ Tryz.f4 (fun v _ => v = .bool true)) 191 [(0, .val (.slice pa a.length ca)), (1, .val (.slice pb b.length cb)), (3, .val (.int .i64 lo)), (4, .val (.int .i64 hi)), (5, .val (.int .i64 long)), (8, .loc 0 0), (14, .val (.slice a2 (rl a long).length c2)), (16, .val (.slice a3 (rl b long).length c3)), (20, .val (.slice a5 (Zs.and a b).1.length c5)), (21, .val (.int .i64 (Zs.and a b).2)), (22, .val (.slice a6 (Zs.comp a b).1.length c6)), (23, .val (.int .i64 (Zs.comp a b).2)), (24, .val (.slice a7 (Zs.within a s).1.length c7)), (25, .val (.int .i64 (Zs.within a s).2)), (26, .val (.slice a8 (Zs.window a lo hi).1.length c8)), (27, .val (.int .i64 (Zs.window a lo hi).2))] [⟨[.val (.int .i64 s.lo), .val (.bool s.ls), .val (.int .i64 s.hi), .val (.bool s.hs), .val (.bool s.op)], 32⟩] [b1] X := by
  have st : Stay ⟨w, w.heap.size, Nat.le_refl _⟩ [X] X := ⟨fun Y hY => by rw [List.mem_singleton.1 hY]; exact hX, fun Y hY => by rw [List.mem_singleton.1 hY]; exact Below.refl _ _⟩
  refine RunS.cut cxOk 1 ?_
  have nA := rl_len a hl
  have nB := rl_len b hl
  by_cases h0 : (Zs.and a b).2 = 0
  case neg =>
    refine Branch.no (by simp [h0]) ?_
    exact EndI.mk fun w9 h9 => ⟨_, [⟨[.val (.int .i64 s.lo), .val (.bool s.ls), .val (.int .i64 s.hi), .val (.bool s.hs), .val (.bool s.op)], 32⟩], [b1], by exact Cov.mk (by repeat' (first | exact trivial | refine And.intro rfl ?_)) rfl rfl rfl rfl rfl, rs_seg2 a b s hs lo hi long hlo hhi hl hca hcb w _ h9.below pa ca pb cb a2 c2 a3 c3 a6 c6 a7 c7 a8 c8 ((hS.st st).go (at_belowM h9 (by simp)) (at_belowM h9 (by simp)).size) ((hT.st st).go (at_belowM h9 (by simp)) (at_belowM h9 (by simp)).size) ((S2.st st).go (at_belowM h9 (by simp)) (at_belowM h9 (by simp)).size) ((S3.st st).go (at_belowM h9 (by simp)) (at_belowM h9 (by simp)).size) ((S6.st st).go (at_belowM h9 (by simp)) (at_belowM h9 (by simp)).size) ((S7.st st).go (at_belowM h9 (by simp)) (at_belowM h9 (by simp)).size) ((S8.st st).go (at_belowM h9 (by simp)) (at_belowM h9 (by simp)).size) b1⟩
  refine Branch.yes (by simp [h0]) ?_
  obtain ⟨_, f2, _⟩ := Zs.and_ok h0
  have hc := fun (w : World) h1 h2 => rand14_any (rl a long) (rl b long) (by omega) (by omega) a2 a3 c2 c3 w h1 h2
  rw [and_rl h0 hl] at hc
  apply CallI.use
  focus (exact fun w1 h1 => hc w1 (S2.st (st.at h1 (fun x hx => by simp at hx <;> omega))) (S3.st (st.at h1 (fun x hx => by simp at hx <;> omega))))
  rintro v w1 v1 h1 hB1 hO1
  have st := st.next h1 (fun x hx => by simp at hx <;> omega) hB1
  obtain ⟨a1, c1, rfl⟩ := hO1.form
  apply CallI.use1
  focus (exact fun w4 h4 => same14_rl (Zs.and a b).1 f2.1 f2.2.1 long hl a5 a1 c5 c1 w4 (S5.st (st.at h4 (fun x hx => by simp at hx <;> omega))) ((hO1.st (st.at h4 (fun x hx => by simp at hx <;> omega))).sl))
  intro w4 v4 h4 hB4
  have st := st.next h4 (fun x hx => by simp at hx <;> omega) hB4
  refine Branch.no rfl ?_
  exact EndI.mk fun w9 h9 => ⟨_, [⟨[.val (.int .i64 s.lo), .val (.bool s.ls), .val (.int .i64 s.hi), .val (.bool s.hs), .val (.bool s.op)], 32⟩], [b1], by exact Cov.mk (by repeat' (first | exact trivial | refine And.intro rfl ?_)) rfl rfl rfl rfl rfl, rs_seg2 a b s hs lo hi long hlo hhi hl hca hcb w _ h9.below pa ca pb cb a2 c2 a3 c3 a6 c6 a7 c7 a8 c8 ((hS.st st).go (at_belowM h9 (by simp)) (at_belowM h9 (by simp)).size) ((hT.st st).go (at_belowM h9 (by simp)) (at_belowM h9 (by simp)).size) ((S2.st st).go (at_belowM h9 (by simp)) (at_belowM h9 (by simp)).size) ((S3.st st).go (at_belowM h9 (by simp)) (at_belowM h9 (by simp)).size) ((S6.st st).go (at_belowM h9 (by simp)) (at_belowM h9 (by simp)).size) ((S7.st st).go (at_belowM h9 (by simp)) (at_belowM h9 (by simp)).size) ((S8.st st).go (at_belowM h9 (by simp)) (at_belowM h9 (by simp)).size) b1⟩
set_option maxHeartbeats 4000000 in
open Ky in
theorem rs_seg7 (a b : List Zn) (s : Sp) (hs : s.ins) (lo hi long : Int) (hlo : inK .i64 lo) (hhi : inK .i64 hi) (hl : 1 ≤ long ∧ long ≤ 16) (hca : ∀ z, z ∈ a → Zo.chk z = 0) (hcb : ∀ z, z ∈ b → Zo.chk z = 0) (w X : World) (hX : Below w.heap.size w X) (pa : Option Addr) (ca : Nat) (pb : Option Addr) (cb : Nat) (a2 : Option Addr) (c2 : Nat) (a3 : Option Addr) (c3 : Nat) (a4 : Option Addr) (c4 : Nat) (a5 : Option Addr) (c5 : Nat) (a6 : Option Addr) (c6 : Nat) (hS : Sl X.heap.size X (.slice pa a.length ca) a) (hT : Sl X.heap.size X (.slice pb b.length cb) b) (S2 : Sl X.heap.size X (.slice a2 (rl a long).length c2) (rl a long)) (S3 : Sl X.heap.size X (.slice a3 (rl b long).length c3) (rl b long)) (S4 : Sl X.heap.size X (.slice a4 (Zs.or a b).1.length c4) (Zs.or a b).1) (S5 : Sl X.heap.size X (.slice a5 (Zs.and a b).1.length c5) (Zs.and a b).1) (S6 : Sl X.heap.size X (.slice a6 (Zs.comp a b).1.length c6) (Zs.comp a b).1) (b1 : Nat) :
    RunS YtjbhpfmnfdebkaaGreat.cx ⟨w, w.heap.size, Nat.le_refl _⟩ 0 (sufC 3 (sufC 3 (sufC 3 (bodyOf Tryz.f4)))) (endM YtjbhpfmnfdebkaaGreat.cx ⟨w, w.heap.size, Nat.le_refl _⟩ Tryz.f4 (fun v _ => v = .bool true)) 191 [(0, .val (.slice pa a.length ca)), (1, .val (.slice pb b.length cb)), (3, .val (.int .i64 lo)), (4, .val (.int .i64 hi)), (5, .val (.int .i64 long)), (8, .loc 0 0), (14, .val (.slice a2 (rl a long).length c2)), (16, .val (.slice a3 (rl b long).length c3)), (18, .val (.slice a4 (Zs.or a b).1.length c4)), (19, .val (.int .i64 (Zs.or a b).2)), (20, .val (.slice a5 (Zs.and a b).1.length c5)), (21, .val (.int .i64 (Zs.and a b).2)), (22, .val (.slice a6 (Zs.comp a b).1.length c6)), (23, .val (.int .i64 (Zs.comp a b).2))] [⟨[.val (.int .i64 s.lo), .val (.bool s.ls), .val (.int .i64 s.hi), .val (.bool s.hs), .val (.bool s.op)], 32⟩] [b1] X := by
  have st : Stay ⟨w, w.heap.size, Nat.le_refl _⟩ [X] X := ⟨fun Y hY => by rw [List.mem_singleton.1 hY]; exact hX, fun Y hY => by rw [List.mem_singleton.1 hY]; exact Below.refl _ _⟩
  refine RunS.cut cxOk 3 ?_
  have nA := rl_len a hl
  have nB := rl_len b hl
  apply CallI.use
  focus (exact fun w7 h7 => zswithin_any a s hs pa ca w7 (hS.st (st.at h7 (fun x hx => by simp at hx <;> omega))))
  rintro v w7 v7 h7 hB7 ⟨a7, c7, rfl, hO7⟩
  have st := st.next h7 (fun x hx => by simp at hx <;> omega) hB7
  apply CallI.use
  focus (exact fun w8 h8 => zswindow_any a lo hi hlo hhi pa ca w8 (hS.st (st.at h8 (fun x hx => by simp at hx <;> omega))))
  rintro v w8 v8 h8 hB8 ⟨a8, c8, rfl, hO8⟩
  have st := st.next h8 (fun x hx => by simp at hx <;> omega) hB8
  by_cases h0 : (Zs.or a b).2 = 0
  case neg =>
    refine Branch.no (by simp [h0]) ?_
    exact EndI.mk fun w9 h9 => ⟨_, [⟨[.val (.int .i64 s.lo), .val (.bool s.ls), .val (.int .i64 s.hi), .val (.bool s.hs), .val (.bool s.op)], 32⟩], [b1], by exact Cov.mk (by repeat' (first | exact trivial | refine And.intro rfl ?_)) rfl rfl rfl rfl rfl, rs_seg1 a b s hs lo hi long hlo hhi hl hca hcb w _ h9.below pa ca pb cb a2 c2 a3 c3 a5 c5 a6 c6 a7 c7 a8 c8 ((hS.st st).go (at_belowM h9 (by simp)) (at_belowM h9 (by simp)).size) ((hT.st st).go (at_belowM h9 (by simp)) (at_belowM h9 (by simp)).size) ((S2.st st).go (at_belowM h9 (by simp)) (at_belowM h9 (by simp)).size) ((S3.st st).go (at_belowM h9 (by simp)) (at_belowM h9 (by simp)).size) ((S5.st st).go (at_belowM h9 (by simp)) (at_belowM h9 (by simp)).size) ((S6.st st).go (at_belowM h9 (by simp)) (at_belowM h9 (by simp)).size) (((hO7.st st).sl).go (at_belowM h9 (by simp)) (at_belowM h9 (by simp)).size) (((hO8.st st).sl).go (at_belowM h9 (by simp)) (at_belowM h9 (by simp)).size) b1⟩
  refine Branch.yes (by simp [h0]) ?_
  obtain ⟨_, f2, _⟩ := Zs.or_ok h0
  have hc := fun (w : World) h1 h2 => ror14_any (rl a long) (rl b long) (by omega) (by omega) a2 a3 c2 c3 w h1 h2
  rw [or_rl h0 hl] at hc
  apply CallI.use
  focus (exact fun w9 h9 => hc w9 (S2.st (st.at h9 (fun x hx => by simp at hx <;> omega))) (S3.st (st.at h9 (fun x hx => by simp at hx <;> omega))))
  rintro v w9 v9 h9 hB9 hO9
  have st := st.next h9 (fun x hx => by simp at hx <;> omega) hB9
  obtain ⟨a9, c9, rfl⟩ := hO9.form
  apply CallI.use1
  focus (exact fun w10 h10 => same14_rl (Zs.or a b).1 f2.1 f2.2.1 long hl a4 a9 c4 c9 w10 (S4.st (st.at h10 (fun x hx => by simp at hx <;> omega))) ((hO9.st (st.at h10 (fun x hx => by simp at hx <;> omega))).sl))
  intro w10 v10 h10 hB10
  have st := st.next h10 (fun x hx => by simp at hx <;> omega) hB10
  refine Branch.no rfl ?_
  exact EndI.mk fun w9 h9 => ⟨_, [⟨[.val (.int .i64 s.lo), .val (.bool s.ls), .val (.int .i64 s.hi), .val (.bool s.hs), .val (.bool s.op)], 32⟩], [b1], by exact Cov.mk (by repeat' (first | exact trivial | refine And.intro rfl ?_)) rfl rfl rfl rfl rfl, rs_seg1 a b s hs lo hi long hlo hhi hl hca hcb w _ h9.below pa ca pb cb a2 c2 a3 c3 a5 c5 a6 c6 a7 c7 a8 c8 ((hS.st st).go (at_belowM h9 (by simp)) (at_belowM h9 (by simp)).size) ((hT.st st).go (at_belowM h9 (by simp)) (at_belowM h9 (by simp)).size) ((S2.st st).go (at_belowM h9 (by simp)) (at_belowM h9 (by simp)).size) ((S3.st st).go (at_belowM h9 (by simp)) (at_belowM h9 (by simp)).size) ((S5.st st).go (at_belowM h9 (by simp)) (at_belowM h9 (by simp)).size) ((S6.st st).go (at_belowM h9 (by simp)) (at_belowM h9 (by simp)).size) (((hO7.st st).sl).go (at_belowM h9 (by simp)) (at_belowM h9 (by simp)).size) (((hO8.st st).sl).go (at_belowM h9 (by simp)) (at_belowM h9 (by simp)).size) b1⟩
set_option maxHeartbeats 4000000 in
open Ky in
theorem rs_seg5 (a b : List Zn) (s : Sp) (hs : s.ins) (lo hi long : Int) (hlo : inK .i64 lo) (hhi : inK .i64 hi) (hl : 1 ≤ long ∧ long ≤ 16) (hca : ∀ z, z ∈ a → Zo.chk z = 0) (hcb : ∀ z, z ∈ b → Zo.chk z = 0) (w X : World) (hX : Below w.heap.size w X) (pa : Option Addr) (ca : Nat) (pb : Option Addr) (cb : Nat) (a2 : Option Addr) (c2 : Nat) (a3 : Option Addr) (c3 : Nat) (hS : Sl X.heap.size X (.slice pa a.length ca) a) (hT : Sl X.heap.size X (.slice pb b.length cb) b) (S2 : Sl X.heap.size X (.slice a2 (rl a long).length c2) (rl a long)) (S3 : Sl X.heap.size X (.slice a3 (rl b long).length c3) (rl b long)) (b1 : Nat) :
    RunS YtjbhpfmnfdebkaaGreat.cx ⟨w, w.heap.size, Nat.le_refl _⟩ 0 (sufC 3 (sufC 3 (bodyOf Tryz.f4))) (endM YtjbhpfmnfdebkaaGreat.cx ⟨w, w.heap.size, Nat.le_refl _⟩ Tryz.f4 (fun v _ => v = .bool true)) 191 [(0, .val (.slice pa a.length ca)), (1, .val (.slice pb b.length cb)), (3, .val (.int .i64 lo)), (4, .val (.int .i64 hi)), (5, .val (.int .i64 long)), (8, .loc 0 0), (14, .val (.slice a2 (rl a long).length c2)), (16, .val (.slice a3 (rl b long).length c3))] [⟨[.val (.int .i64 s.lo), .val (.bool s.ls), .val (.int .i64 s.hi), .val (.bool s.hs), .val (.bool s.op)], 32⟩] [b1] X := by
  have st : Stay ⟨w, w.heap.size, Nat.le_refl _⟩ [X] X := ⟨fun Y hY => by rw [List.mem_singleton.1 hY]; exact hX, fun Y hY => by rw [List.mem_singleton.1 hY]; exact Below.refl _ _⟩
  refine RunS.cut cxOk 3 ?_
  apply CallI.use
  focus (exact fun w4 h4 => zsor_any a b pa pb ca cb w4 (hS.st (st.at h4 (fun x hx => by simp at hx <;> omega))) (hT.st (st.at h4 (fun x hx => by simp at hx <;> omega))))
  rintro v w4 v4 h4 hB4 ⟨a4, c4, rfl, hO4⟩
  have st := st.next h4 (fun x hx => by simp at hx <;> omega) hB4
  apply CallI.use
  focus (exact fun w5 h5 => zsand_any a b pa pb ca cb w5 (hS.st (st.at h5 (fun x hx => by simp at hx <;> omega))) (hT.st (st.at h5 (fun x hx => by simp at hx <;> omega))))
  rintro v w5 v5 h5 hB5 ⟨a5, c5, rfl, hO5⟩
  have st := st.next h5 (fun x hx => by simp at hx <;> omega) hB5
  apply CallI.use
  focus (exact fun w6 h6 => zscomp_any a b pa pb ca cb w6 (hS.st (st.at h6 (fun x hx => by simp at hx <;> omega))) (hT.st (st.at h6 (fun x hx => by simp at hx <;> omega))))
  rintro v w6 v6 h6 hB6 ⟨a6, c6, rfl, hO6⟩
  have st := st.next h6 (fun x hx => by simp at hx <;> omega) hB6
  exact EndI.mk fun w9 h9 => ⟨_, [⟨[.val (.int .i64 s.lo), .val (.bool s.ls), .val (.int .i64 s.hi), .val (.bool s.hs), .val (.bool s.op)], 32⟩], [b1], by exact Cov.mk (by repeat' (first | exact trivial | refine And.intro rfl ?_)) rfl rfl rfl rfl rfl, rs_seg7 a b s hs lo hi long hlo hhi hl hca hcb w _ h9.below pa ca pb cb a2 c2 a3 c3 a4 c4 a5 c5 a6 c6 ((hS.st st).go (at_belowM h9 (by simp)) (at_belowM h9 (by simp)).size) ((hT.st st).go (at_belowM h9 (by simp)) (at_belowM h9 (by simp)).size) ((S2.st st).go (at_belowM h9 (by simp)) (at_belowM h9 (by simp)).size) ((S3.st st).go (at_belowM h9 (by simp)) (at_belowM h9 (by simp)).size) (((hO4.st st).sl).go (at_belowM h9 (by simp)) (at_belowM h9 (by simp)).size) (((hO5.st st).sl).go (at_belowM h9 (by simp)) (at_belowM h9 (by simp)).size) (((hO6.st st).sl).go (at_belowM h9 (by simp)) (at_belowM h9 (by simp)).size) b1⟩
set_option maxHeartbeats 4000000 in
open Ky in
theorem rs_seg6 (a b : List Zn) (hla : a.length ≤ 2) (hlb : b.length ≤ 2) (s : Sp) (hs : s.ins) (lo hi long : Int) (hlo : inK .i64 lo) (hhi : inK .i64 hi) (w X : World) (hX : Below w.heap.size w X) (pa : Option Addr) (ca : Nat) (pb : Option Addr) (cb : Nat) (hS : Sl X.heap.size X (.slice pa a.length ca) a) (hT : Sl X.heap.size X (.slice pb b.length cb) b) (b1 : Nat) :
    RunS YtjbhpfmnfdebkaaGreat.cx ⟨w, w.heap.size, Nat.le_refl _⟩ 0 (sufC 3 (bodyOf Tryz.f4)) (endM YtjbhpfmnfdebkaaGreat.cx ⟨w, w.heap.size, Nat.le_refl _⟩ Tryz.f4 (fun v _ => v = .bool true)) 191 [(0, .val (.slice pa a.length ca)), (1, .val (.slice pb b.length cb)), (3, .val (.int .i64 lo)), (4, .val (.int .i64 hi)), (5, .val (.int .i64 long)), (8, .loc 0 0)] [⟨[.val (.int .i64 s.lo), .val (.bool s.ls), .val (.int .i64 s.hi), .val (.bool s.hs), .val (.bool s.op)], 32⟩] [b1] X := by
  have st : Stay ⟨w, w.heap.size, Nat.le_refl _⟩ [X] X := ⟨fun Y hY => by rw [List.mem_singleton.1 hY]; exact hX, fun Y hY => by rw [List.mem_singleton.1 hY]; exact Below.refl _ _⟩
  refine RunS.cut cxOk 3 ?_
  have hxa := fun (w : World) hs => rlist_any a (by omega) long pa ca w hs
  have hxb := fun (w : World) hs => rlist_any b (by omega) long pb cb w hs
  by_cases hok : (Rg.list a long).2 = 0 ∧ (Rg.list b long).2 = 0
  case neg =>
    apply CallI.use
    focus (exact fun w2 h2 => hxa w2 (hS.st (st.at h2 (fun x hx => by simp at hx <;> omega))))
    rintro v w2 v2 h2 hB2 ⟨a2, c2, rfl, hO2⟩
    have st := st.next h2 (fun x hx => by simp at hx <;> omega) hB2
    apply CallI.use
    focus (exact fun w3 h3 => hxb w3 (hT.st (st.at h3 (fun x hx => by simp at hx <;> omega))))
    rintro v w3 v3 h3 hB3 ⟨a3, c3, rfl, hO3⟩
    have st := st.next h3 (fun x hx => by simp at hx <;> omega) hB3
    refine Branch.mk (fun h4 => ?_) (fun h4 => ?_)
    · exact EndI.mk fun w9 h9 => rfl
    refine Branch.yes (by simp at h4 ⊢; exact fun h => hok ⟨h4, h⟩) ?_
    exact EndI.mk fun w9 h9 => rfl
  obtain ⟨hl, hca⟩ := list_fit hok.1
  have hcb := (list_fit hok.2).2
  rw [list_rl hca hl] at hxa
  rw [list_rl hcb hl] at hxb
  apply CallI.use
  focus (exact fun w2 h2 => hxa w2 (hS.st (st.at h2 (fun x hx => by simp at hx <;> omega))))
  rintro v w2 v2 h2 hB2 ⟨a2, c2, rfl, hO2⟩
  have st := st.next h2 (fun x hx => by simp at hx <;> omega) hB2
  apply CallI.use
  focus (exact fun w3 h3 => hxb w3 (hT.st (st.at h3 (fun x hx => by simp at hx <;> omega))))
  rintro v w3 v3 h3 hB3 ⟨a3, c3, rfl, hO3⟩
  have st := st.next h3 (fun x hx => by simp at hx <;> omega) hB3
  simp only at hO2 hO3
  refine Branch.no rfl ?_
  refine Branch.no rfl ?_
  exact EndI.mk fun w9 h9 => ⟨_, [⟨[.val (.int .i64 s.lo), .val (.bool s.ls), .val (.int .i64 s.hi), .val (.bool s.hs), .val (.bool s.op)], 32⟩], [b1], by exact Cov.mk (by repeat' (first | exact trivial | refine And.intro rfl ?_)) rfl rfl rfl rfl rfl, rs_seg5 a b s hs lo hi long hlo hhi hl hca hcb w _ h9.below pa ca pb cb a2 c2 a3 c3 ((hS.st st).go (at_belowM h9 (by simp)) (at_belowM h9 (by simp)).size) ((hT.st st).go (at_belowM h9 (by simp)) (at_belowM h9 (by simp)).size) (((hO2.st st).sl).go (at_belowM h9 (by simp)) (at_belowM h9 (by simp)).size) (((hO3.st st).sl).go (at_belowM h9 (by simp)) (at_belowM h9 (by simp)).size) b1⟩
set_option maxHeartbeats 4000000 in
open Ky in
theorem regionSets_walk (a b : List Zn) (s : Sp) (hs : s.ins) (lo hi long : Int) (hlo : inK .i64 lo) (hhi : inK .i64 hi) (pa pb : Option Addr) (ca cb : Nat) (w : World) (hS : Sl w.heap.size w (.slice pa a.length ca) a) (hT : Sl w.heap.size w (.slice pb b.length cb) b) :
    Calls Tryz.prog 4 #[.slice pa a.length ca, .slice pb b.length cb, .agg #[.int .i64 s.lo, .bool s.ls, .int .i64 s.hi, .bool s.hs, .bool s.op], .int .i64 lo, .int .i64 hi, .int .i64 long] w fun e w' => e = .returned (.bool true) ∧ Below w.heap.size w w' := by
  refine fun_cut 0 3 w Tryz.func4 (args := [.val (.slice pa a.length ca), .val (.slice pb b.length cb), .agg [.val (.int .i64 s.lo), .val (.bool s.ls), .val (.int .i64 s.hi), .val (.bool s.hs), .val (.bool s.op)], .val (.int .i64 lo), .val (.int .i64 hi), .val (.int .i64 long)]) rfl rfl rfl ?_
  have st := Stay.first (w := w)
  refine NewI.mk fun b1 hb1 => ?_
  apply CallI.use1
  focus (exact fun w1 h1 => alive14_any w1)
  intro w1 v1 h1 hB1
  have st := st.next h1 (fun x hx => by simp at hx <;> omega) hB1
  refine Branch.mk (fun h1 => ?_) (fun h1 => ?_)
  · exact EndI.mk fun w9 h9 => rfl
  have hla : a.length ≤ 2 := by have := of_decide_eq_false h1; omega
  refine Branch.mk (fun h2 => ?_) (fun h2 => ?_)
  · exact EndI.mk fun w9 h9 => rfl
  have hlb : b.length ≤ 2 := by have := of_decide_eq_false h2; omega
  refine Branch.mk (fun h3 => ?_) (fun h3 => ?_)
  · exact EndI.mk fun w9 h9 => rfl
  refine Branch.no rfl ?_
  exact EndI.mk fun w9 h9 => ⟨_, [⟨[.val (.int .i64 s.lo), .val (.bool s.ls), .val (.int .i64 s.hi), .val (.bool s.hs), .val (.bool s.op)], 32⟩], [b1], by exact Cov.mk (by repeat' (first | exact trivial | refine And.intro rfl ?_)) rfl rfl rfl rfl rfl, rs_seg6 a b hla hlb s hs lo hi long hlo hhi w _ h9.below pa ca pb cb ((hS.st st).go (at_belowM h9 (by simp)) (at_belowM h9 (by simp)).size) ((hT.st st).go (at_belowM h9 (by simp)) (at_belowM h9 (by simp)).size) b1⟩
end Go.Proofs.YtjbhpfmnfdebkaaGreat

namespace Go.Proofs.YtjbhpfmnfdebkaaGreat
set_option linter.unusedVariables false
open Go.ChangeShapes Go.WideShapes Go.ChangeAt Go.RowKit Go.Deep

set_option maxRecDepth 100000 in
theorem regionSets_lifted (os : Os) (started : os.Started) (H : Type) (enc : TypeId × Value → H) :
    ReturnsInHanded {} Tryz.checked os 4 .any (Rows.regionSetsSpec.pre6 enc Tryz.prog Tryz.f4 Rows.regionSetsRow.domain false) (Rows.regionSetsSpec.post enc Tryz.prog Tryz.f4 false true false false) := by
  refine returnsInHanded_of_change (C := Tryz.checked) own started (by kernel_rfl) Tryz.func4
    (ChangeSpec.witness6 (enc := enc) (C := Tryz.checked) false ⟨#[], #[.slice none 0 0, .slice none 0 0, .agg #[.int .i64 0, .bool false, .int .i64 0, .bool false, .bool false], .int .i64 0, .int .i64 0, .int .i64 0], []⟩ 8 (by kernel_rfl) (by kernel_rfl) (by kernel_rfl) (by kernel_rfl)) ?_
  intro W base args ds gs before hval0 hW _ _
  have hval : ∀ (j : Nat) t v, Tryz.f4.params[j]? = some t → args[j]? = some v → Value.okWide Tryz.prog W .any base t v := hval0
  have hW' := hW
  obtain ⟨p, q, hA0, hV, rfl, hfz, hnd⟩ := hW
  have hA : DataW.TrodAll enc Tryz.prog W 0 (fun _ => true) true Tryz.f4.params.toList args.toList ds p := hA0
  rw [Tryz.params4] at hA hval
  obtain ⟨v0, vs0, d0, ds0, p0_, q0_, hargs, rfl, rfl, h0, r0⟩ := trodAll_cons hA
  obtain ⟨v1, vs1, d1, ds1, p1_, q1_, rfl, rfl, rfl, h1, r1⟩ := trodAll_cons r0
  obtain ⟨v2, vs2, d2, ds2, p2_, q2_, rfl, rfl, rfl, h2, r2⟩ := trodAll_cons r1
  obtain ⟨v3, vs3, d3, ds3, p3_, q3_, rfl, rfl, rfl, h3, r3⟩ := trodAll_cons r2
  obtain ⟨v4, vs4, d4, ds4, p4_, q4_, rfl, rfl, rfl, h4, r4⟩ := trodAll_cons r3
  obtain ⟨v5, vs5, d5, ds5, p5_, q5_, rfl, rfl, rfl, h5, r5⟩ := trodAll_cons r4
  obtain ⟨rfl, rfl, rfl⟩ := trodAll_nil r5
  obtain rfl : args = #[v0, v1, v2, v3, v4, v5] := by cases args; simp_all
  obtain ⟨rfl, rfl⟩ := trodVars_none hV
  obtain ⟨x0, L0, c0, rfl, S0, G0⟩ := open_lst Tryz.underlying22 (opens_zn Tryz.underlying104 (by kernel_rfl) Tryz.underlying102 (by kernel_rfl)) (hval 0 22 v0 rfl rfl) h0
  obtain ⟨x1, L1, c1, rfl, S1, G1⟩ := open_lst Tryz.underlying22 (opens_zn Tryz.underlying104 (by kernel_rfl) Tryz.underlying102 (by kernel_rfl)) (hval 1 22 v1 rfl rfl) h1
  obtain ⟨z2, rfl, G2⟩ := open_agg (opens_sp Tryz.underlying32 (by kernel_rfl) rfl rfl rfl rfl rfl (by kernel_rfl) (by kernel_rfl) (by kernel_rfl) (by kernel_rfl) (by kernel_rfl) Tryz.underlying3 Tryz.underlying4 Tryz.underlying3 Tryz.underlying4 Tryz.underlying4) (.inl ⟨_, Tryz.underlying32⟩) (hval 2 32 v2 rfl rfl) h2
  obtain ⟨a3, rfl, rfl, rfl, w3⟩ := open_int Tryz.underlying3 (hval 3 3 v3 rfl rfl) h3
  obtain ⟨a4, rfl, rfl, rfl, w4⟩ := open_int Tryz.underlying3 (hval 4 3 v4 rfl rfl) h4
  obtain ⟨a5, rfl, rfl, rfl, w5⟩ := open_int Tryz.underlying3 (hval 5 3 v5 rfl rfl) h5
  clear hA0 hval0
  exact (regionSets_walk L0 L1 z2 G2 a3 a4 a5 (inK_wf w3) (inK_wf w4) x0 x1 c0 c1 W S0 S1).mono fun e W' ⟨he, hg⟩ => ⟨_, he, law_post laidOut (by kernel_rfl) rfl rfl Tryz.underlying4 hW' rfl hg⟩

set_option maxRecDepth 100000 in
theorem regionSets_k1 : (Rows.regionSetsRow.inPlace == Tryz.pinned.checked.prog.inPlace 4) = true := by kernel_rfl
set_option maxRecDepth 100000 in
theorem regionSets_k2 : (Rows.regionSetsRow.unfollowed == Tryz.pinned.checked.prog.unfollowed 4) = true := by kernel_rfl
set_option maxRecDepth 100000 in
theorem regionSets_k3 : (Rows.regionSetsRow.recurses == Tryz.pinned.checked.prog.recurses 4) = true := by kernel_rfl
set_option maxRecDepth 100000 in
theorem regionSets_k4 : (Rows.regionSetsRow.named == Tryz.pinned.checked.prog.varsNamed 4) = true := by kernel_rfl
set_option maxRecDepth 100000 in
theorem regionSets_closed : joinedFacts Tryz.pinned.checked.prog 4 Tryz.f4 Rows.regionSetsSpec Rows.regionSetsRow = true := by
  unfold joinedFacts
  rw [regionSets_k1, regionSets_k2, regionSets_k3, regionSets_k4]
  kernel_rfl
set_option maxRecDepth 100000 in
theorem regionSets_over : Rows.regionSetsRow.holds Tryz.pinned (OpenSpec.ofChange Rows.regionSetsSpec) :=
  OpenClaim.holds_of_wide 4 Tryz.f4 rfl rfl rfl rfl rfl rfl rfl ⟨rfl, rfl, rfl, rfl, rfl⟩ rfl rfl rfl rfl rfl (by kernel_rfl) Tryz.func4 regionSets_closed
    (of_decide_eq_true (by kernel_rfl)) (by unfold Func.isWrapper; first | (rw [if_pos (by decide +kernel)]; kernel_rfl) | (rw [if_neg (by decide +kernel)]; exact ⟨rfl, rfl⟩))
    (fun os started H enc _ => regionSets_lifted os started H enc)

theorem regionSets.proved : Rows.RegionSetsSaid := regionSets_over
#print axioms regionSets.proved
end Go.Proofs.YtjbhpfmnfdebkaaGreat

