/-
  The walk of rallentandolaw07.ProjNames, by the engine.
-/
import Derived.Test.YtnhfkodjphplfaaAlive07
import Derived.Test.YtnhfkodjphplfaaMove
namespace Go.Proofs.Ytnhfkodjphplfaa
set_option linter.unusedVariables false
set_option linter.unusedSimpArgs false
set_option maxRecDepth 100000
open Go.RowKit Go.Proofs.Ytnhfkodjphplfaa.Eng Enc

theorem move_names1 : Proj.move 3 [1, 2, 3, 4, 1, 6, 7, 8, 1] [0, 2, 1] = (3, [1, 3, 2, 7, 1, 8, 4, 6, 1], 0) :=
  (Proj.move_of (N := 3) (by decide) (Proj.ord_perm rfl rfl (by decide))).trans (by decide)
theorem move_names2 : Proj.move 1 [1] [] = (0, [], 2) := by
  unfold Proj.move
  rw [if_pos (by decide), if_neg (by simp [Proj.moveOk])]

theorem projNames_walk (w : World) : Calls Try.prog 5 #[] w fun e w' => e = .returned (.bool true) ∧ Below w.heap.size w w' := by
  refine fun_eq 0 w Try.func5 (args := []) rfl rfl ?_
  have st := Stay.first (w := w)
  refine NewI.mk fun b1 hb1 => ?_
  apply CallI.use1
  focus (exact fun w1 h1 => of07_any 3 _ _ _ w1)
  intro w1 v1 h1 hB1
  have st := st.next h1 (fun x hx => by simp at hx <;> omega) hB1
  refine NewI.mk fun b2 hb2 => ?_
  have hmv := fun (a : Option Addr) (cap : Nat) (ao : Option Addr) (co : Nat) (w : World) => move_any 3 a cap [1, 2, 3, 4, 1, 6, 7, 8, 1] ao co [0, 2, 1] (by decide) w
  rw [move_names1] at hmv
  apply CallI.use
  focus (exact fun w2 h2 => hmv _ _ _ _ w2 (Sl.own (l := [1, 2, 3, 4, 1, 6, 7, 8, 1]) h2 0 rfl rfl rfl (Nat.le_refl _) (by simp [maxLen])) (Sl.own (l := [0, 2, 1]) h2 1 rfl rfl rfl (Nat.le_refl _) (by simp [maxLen])))
  rintro v w2 v2 h2 hB2 ⟨a1, c1, rfl, hF1⟩
  have st := st.next h2 (fun x hx => by simp at hx <;> omega) hB2
  refine NewI.mk fun b3 hb3 => ?_
  refine NewI.mk fun b4 hb4 => ?_
  apply CallI.use1
  focus (exact fun w3 h3 => of07_any 2 _ _ _ w3)
  intro w3 v3 h3 hB3
  have st := st.next h3 (fun x hx => by simp at hx <;> omega) hB3
  have hd := fun (a : Option Addr) (cap : Nat) (w : World) => drop_any 2 a cap [1, -3, 9, 1] 0 w
  rw [show Proj.drop 2 [1, -3, 9, 1] 0 = (0, [], 2) by decide] at hd
  apply CallI.use
  focus (exact fun w4 h4 => hd _ _ w4 (Sl.own (l := [1, -3, 9, 1]) h4 3 rfl rfl rfl (Nat.le_refl _) (by simp [maxLen])))
  rintro v w4 v4 h4 hB4 ⟨a2, c2, rfl, hF2⟩
  have st := st.next h4 (fun x hx => by simp at hx <;> omega) hB4
  refine NewI.mk fun b5 hb5 => ?_
  refine GenV.mks (α := Int) elB 0 infoB0 16 rfl (by decide) (by decide) fun v w5 v5 h5 hB5 hO => ?_
  have st := st.next h5 (fun x hx => by simp at hx <;> omega) hB5
  obtain ⟨a3, c3, rfl⟩ := hO.form
  apply CallI.use1
  focus (exact fun w6 h6 => of07_any 4 _ _ _ w6)
  intro w6 v6 h6 hB6
  have st := st.next h6 (fun x hx => by simp at hx <;> omega) hB6
  have hgr := fun (a : Option Addr) (cap : Nat) (w : World) => grow_any 4 a cap (List.replicate 16 0) w
  rw [show Proj.grow 4 (List.replicate 16 0) = (0, [], 9) by decide] at hgr
  apply CallI.use
  focus (exact fun w7 h7 => hgr a3 c3 w7 (hO.sl.st (st.at h7 (fun x hx => by simp at hx <;> omega))))
  rintro v w7 v7 h7 hB7 ⟨a4, c4, rfl, hF3⟩
  have st := st.next h7 (fun x hx => by simp at hx <;> omega) hB7
  refine NewI.mk fun b6 hb6 => ?_
  refine NewI.mk fun b7 hb7 => ?_
  apply CallI.use1
  focus (exact fun w8 h8 => of07_any 1 _ _ _ w8)
  intro w8 v8 h8 hB8
  have st := st.next h8 (fun x hx => by simp at hx <;> omega) hB8
  have hm2 := fun (a : Option Addr) (cap : Nat) (w : World) => move_any 1 a cap [1] none 0 [] (by decide) w
  rw [move_names2] at hm2
  apply CallI.use
  focus (exact fun w9 h9 => hm2 _ _ w9 (Sl.own (l := [1]) h9 6 rfl rfl rfl (Nat.le_refl _) (by simp [maxLen])) Sl.nil)
  rintro v w9 v9 h9 hB9 ⟨a5, c5, rfl, hF4⟩
  have st := st.next h9 (fun x hx => by simp at hx <;> omega) hB9
  refine NewI.mk fun b8 hb8 => ?_
  refine DrawI.go (.ev 0 (.tk 1 (.tk 2 (.tk 3 (.ev 4 (.ev 5 (.ev 6 (.tk 7 (.tk 8 (.tk 9 (.tk 10 (.tk 11 (.tk 12 (.tk 13 (.tk 14 (.tk 15 (.tk 16 (.tk 17 (.tk 18 (.tk 19 (.tk 20 .done))))))))))))))))))))) (by kernel_rfl) fun w10 h10 => ?_
  have st := st.at h10 (fun x hx => by simp at hx <;> omega)
  apply CallI.use1
  focus (exact fun w11 h11 => alive07_any w11)
  intro w11 v11 h11 hB11
  have st := st.next h11 (fun x hx => by simp at hx <;> omega) hB11
  refine Branch.yes rfl ?_
  refine NewI.mk fun b9 hb9 => ?_
  apply CallI.use1
  focus (exact fun w12 h12 => of07_any 3 _ _ _ w12)
  intro w12 v12 h12 hB12
  have st := st.next h12 (fun x hx => by simp at hx <;> omega) hB12
  apply CallI.use1
  focus (exact fun w13 h13 => is07_any 3 3 0 [1, 3, 2, 7, 1, 8, 4, 6, 1] [1, 3, 2, 7, 1, 8, 4, 6, 1] a1 _ c1 9 w13 (hF1.sl.st (st.at h13 (fun x hx => by simp at hx <;> omega))) (Sl.own (l := [1, 3, 2, 7, 1, 8, 4, 6, 1]) h13 8 rfl rfl rfl (Nat.le_refl _) (by simp [maxLen])))
  intro w13 v13 h13 hB13
  have st := st.next h13 (fun x hx => by simp at hx <;> omega) hB13
  refine Branch.yes (by decide) ?_
  refine Branch.yes (by decide) ?_
  refine Branch.yes (by decide) ?_
  exact EndI.mk fun w16 h16 => congrArg Value.bool (by decide)
end Go.Proofs.Ytnhfkodjphplfaa
