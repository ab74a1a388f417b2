/-
  What functions compute, read off the program's code (written by a program of mine). Conditions: none.
-/
import Derived.Test.YtakbadleipbngaaGD
set_option linter.all false
namespace Go.Proofs.Ytakbadleipbngaa
open Go.RowKit
noncomputable def g_law42_LinkComesToRest_l53 (a39_0 : Int) (a49_0 : List S_Frame) : Int × S_party × S_party → Option ((Int × S_party × S_party) ⊕ (S_party × S_party)) := fun (a53_0, a53_1, a53_2) => cnd (decide (a53_0 < ((a49_0).length : Int))) (bnd (S := S_End × S_End × (List ByteArray) × (List ByteArray) × (List ByteArray) × (List ByteArray) × (List S_Frame) × S_End × S_End × (List ByteArray) × (List ByteArray) × (List ByteArray) × (List ByteArray) × (List S_Frame)) (bnd (S := (List ByteArray) × S_End) (cnd (decide (a39_0 = 0)) (gd (0 ≤ a53_0 ∧ a53_0 < ((a49_0).length : Int)) (bnd (g_link_Receive a53_1.vx ((a49_0)[(a53_0).toNat]!)) fun x23 => some ((x23.2, x23.1)))) (gd (0 ≤ a39_0 ∧ a39_0 < 2) (gd (0 ≤ a53_0 ∧ a53_0 < ((a49_0).length : Int)) (bnd (g_link_Receive a53_2.vx ((a49_0)[(a53_0).toNat]!)) fun x29 => some ((x29.2, x29.1)))))) fun (a63_0, a63_1) => bnd (S := S_party × S_party) (cnd (decide (a39_0 = 0)) (some (((⟨a63_1, a53_1.vold, a53_1.vsent, a53_1.vgot, a53_1.voldS, a53_1.voldG, a53_1.vway⟩ : S_party), a53_2))) (gd (0 ≤ a39_0 ∧ a39_0 < 2) (some ((a53_1, (⟨a63_1, a53_2.vold, a53_2.vsent, a53_2.vgot, a53_2.voldS, a53_2.voldG, a53_2.vway⟩ : S_party)))))) fun (a65_0, a65_1) => cnd (decide (a39_0 = 0)) (gd (0 ≤ (0 : Int) ∧ (0 : Int) ≤ ((a65_0.vgot).length : Int) ∧ ((a65_0.vgot).length : Int) ≤ ((a65_0.vgot).length : Int)) (cnd (decide (0 < (a63_0).length)) (gd (((subL a65_0.vgot (0 : Int) ((a65_0.vgot).length : Int)) ++ a63_0).length * 16 ≤ 140737488355328) (some ((a65_0.vx, a65_0.vold, a65_0.vsent, (subL a65_0.vgot (0 : Int) ((a65_0.vgot).length : Int)) ++ a63_0, a65_0.voldS, a65_0.voldG, a65_0.vway, a65_1.vx, a65_1.vold, a65_1.vsent, a65_1.vgot, a65_1.voldS, a65_1.voldG, a65_1.vway)))) (some ((a65_0.vx, a65_0.vold, a65_0.vsent, subL a65_0.vgot (0 : Int) ((a65_0.vgot).length : Int), a65_0.voldS, a65_0.voldG, a65_0.vway, a65_1.vx, a65_1.vold, a65_1.vsent, a65_1.vgot, a65_1.voldS, a65_1.voldG, a65_1.vway))))) (gd (0 ≤ a39_0 ∧ a39_0 < 2) (gd (0 ≤ (0 : Int) ∧ (0 : Int) ≤ ((a65_1.vgot).length : Int) ∧ ((a65_1.vgot).length : Int) ≤ ((a65_1.vgot).length : Int)) (cnd (decide (0 < (a63_0).length)) (gd (((subL a65_1.vgot (0 : Int) ((a65_1.vgot).length : Int)) ++ a63_0).length * 16 ≤ 140737488355328) (some ((a65_0.vx, a65_0.vold, a65_0.vsent, a65_0.vgot, a65_0.voldS, a65_0.voldG, a65_0.vway, a65_1.vx, a65_1.vold, a65_1.vsent, (subL a65_1.vgot (0 : Int) ((a65_1.vgot).length : Int)) ++ a63_0, a65_1.voldS, a65_1.voldG, a65_1.vway)))) (some ((a65_0.vx, a65_0.vold, a65_0.vsent, a65_0.vgot, a65_0.voldS, a65_0.voldG, a65_0.vway, a65_1.vx, a65_1.vold, a65_1.vsent, subL a65_1.vgot (0 : Int) ((a65_1.vgot).length : Int), a65_1.voldS, a65_1.voldG, a65_1.vway))))))) fun (a61_0, a61_1, a61_2, a61_3, a61_4, a61_5, a61_6, a61_7, a61_8, a61_9, a61_10, a61_11, a61_12, a61_13) => some (.inl (IntKind.i64.wrap (a53_0 + (1 : Int)), (⟨a61_0, a61_1, a61_2, a61_3, a61_4, a61_5, a61_6⟩ : S_party), (⟨a61_7, a61_8, a61_9, a61_10, a61_11, a61_12, a61_13⟩ : S_party)))) (some (.inr (a53_1, a53_2)))
noncomputable def g_law42_LinkComesToRest_l39  : Int × S_party × S_party → Option ((Int × S_party × S_party) ⊕ (S_party × S_party)) := fun (a39_0, a39_1, a39_2) => cnd (decide (a39_0 < (2 : Int))) (bnd (S := (List S_Frame)) (cnd (decide (IntKind.i64.wrap ((1 : Int) - a39_0) = 0)) (bnd (g_link_Frames a39_1.vx) fun x12 => some (x12)) (gd (0 ≤ IntKind.i64.wrap ((1 : Int) - a39_0) ∧ IntKind.i64.wrap ((1 : Int) - a39_0) < 2) (bnd (g_link_Frames a39_2.vx) fun x16 => some (x16)))) fun a49_0 => bnd (loopO (g_law42_LinkComesToRest_l53 a39_0 a49_0) ((0 : Int), a39_1, a39_2)) fun (a53e4_0, a53e4_1) => some (.inl (IntKind.i64.wrap (a39_0 + (1 : Int)), a53e4_0, a53e4_1))) (some (.inr (a39_1, a39_2)))
noncomputable def g_law42_LinkComesToRest_l27 (x7 : Int) : Int × S_party × S_party → Option ((Int × S_party × S_party) ⊕ (S_party × S_party)) := fun (a27_0, a27_1, a27_2) => cnd (decide (a27_0 < x7)) (bnd (loopO (g_law42_LinkComesToRest_l39) ((0 : Int), a27_1, a27_2)) fun (a39e2_0, a39e2_1) => some (.inl (IntKind.i64.wrap (a27_0 + (1 : Int)), a39e2_0, a39e2_1))) (some (.inr (a27_1, a27_2)))
noncomputable def g_law42_LinkComesToRest (p_l : List S_Op) : Option Bool := cnd (decide ((300 : Int) < ((p_l).length : Int))) (bnd (g_law42_sanity) fun x2 => some x2) (bnd (g_law42_run p_l) fun x4 => cnd (!x4.2) (some false) (bnd (some (IntKind.i64.wrap ((IntKind.i64.wrap (Int.tdiv (IntKind.i64.wrap ((IntKind.i64.wrap ((max ((x4.1.v0.vx.vQueue).length : Int) ((x4.1.v1.vx.vQueue).length : Int)) + (8 : Int))) - (1 : Int))) (8 : Int))) + (2 : Int)))) fun x7 => bnd (loopO (g_law42_LinkComesToRest_l27 x7) ((0 : Int), x4.1.v0, x4.1.v1)) fun (a27e0_0, a27e0_1) => bnd (S := Bool) (bnd (g_law42_sanity) fun x49 => cnd x49 (bnd (g_ref01_SameTexts a27e0_0.vgot a27e0_1.vsent) fun x52 => cnd x52 (bnd (g_ref01_SameTexts a27e0_1.vgot a27e0_0.vsent) fun x55 => cnd x55 (bnd (g_link_Idle a27e0_0.vx) fun x58 => cnd x58 (bnd (g_link_Idle a27e0_1.vx) fun x61 => some (x61)) (some (false))) (some (false))) (some (false))) (some (false))) fun a71_0 => some a71_0))
set_option maxHeartbeats 4000000 in
theorem w_law42_LinkComesToRest {p_l : List S_Op} {r : Bool} (h : g_law42_LinkComesToRest p_l = some r) : PCalls Try.prog 7 [dL c_Op p_l] (dB r) := by
  refine PCalls.of (rs := [.tmp 2]) tok Try.func7 rfl rfl (Nat.le_of_ble_eq_true rfl) rfl (fun cx hx h0 => ?_)
  simp only [argsT, Nat.reduceAdd, Nat.zero_add]
  unfold g_law42_LinkComesToRest at h
  refine AW.seq ?_
  refine rg hx (by kernel_rfl) fun K hK => ?_
  refine s1 (d := dB false) T_asg ?_
  refine .nil (hK _ _ ?_)
  iterate 2 refine AW.seq ?_
  refine rg hx (by kernel_rfl) fun K hK => ?_
  refine s1 T_mv ?_
  refine s1 (d := dI .i64 ((p_l).length : Int)) (T_len tb_48 tb_55) ?_
  refine s1 T_gtr ?_
  refine .nil (hK _ _ ?_)
  refine AW.condS rfl (fun hb1 => ?_) (fun hb1 => ?_)
  replace h := cnd_t hb1 h
  refine AW.seq ?_
  refine rg hx (by kernel_rfl) fun K hK => ?_
  obtain ⟨x2, hx3, h⟩ := bnd_some h
  refine s1 (d := dB x2) (T_call rfl (w_law42_sanity hx3) rfl lAn (.inl rfl)) ?_
  refine s1 T_as ?_
  refine .nil (hK _ _ ?_)
  refine AW.ret ?_
  obtain rfl := Option.some.inj h
  exact RetV.mk1 (resD_t rfl (.inr (.inr ⟨_, (le_refl' _), rfl, rfl⟩)))
  replace h := cnd_f hb1 h
  refine AW.skip ?_
  refine AW.seq ?_
  refine rg hx (by kernel_rfl) fun K hK => ?_
  refine s1 T_mv ?_
  obtain ⟨x4, hx5, h⟩ := bnd_some h
  refine s1 (T_call rfl (w_law42_run hx5) rfl (lA (le_refl' _) lAn) (.inr ⟨_, rfl⟩)) ?_
  refine s1 T_mv ?_
  iterate 2 refine s1 T_ext ?_
  refine s1 (d := .pt 0 0) (T_alloc tb_69) ?_
  refine s0 (T_st (ds' := [dI .i64 x4.1.v0.vx.vBase, dL cS x4.1.v0.vx.vQueue, dI .i64 x4.1.v0.vx.vWant, dL c_Held x4.1.v0.vx.vHeld, dI .i64 x4.1.v0.vold.vBase, dL cS x4.1.v0.vold.vQueue, dI .i64 x4.1.v0.vold.vWant, dL c_Held x4.1.v0.vold.vHeld, dL cS x4.1.v0.vsent, dL cS x4.1.v0.vgot, dL cS x4.1.v0.voldS, dL cS x4.1.v0.voldG, dL c_Frame x4.1.v0.vway, dI .i64 x4.1.v1.vx.vBase, dL cS x4.1.v1.vx.vQueue, dI .i64 x4.1.v1.vx.vWant, dL c_Held x4.1.v1.vx.vHeld, dI .i64 x4.1.v1.vold.vBase, dL cS x4.1.v1.vold.vQueue, dI .i64 x4.1.v1.vold.vWant, dL c_Held x4.1.v1.vold.vHeld, dL cS x4.1.v1.vsent, dL cS x4.1.v1.vgot, dL cS x4.1.v1.voldS, dL cS x4.1.v1.voldG, dL c_Frame x4.1.v1.vway]) tb_69) ?_
  refine s1 T_as ?_
  refine .nil (hK _ _ ?_)
  iterate 2 refine AW.seq ?_
  refine rg hx (by kernel_rfl) fun K hK => ?_
  refine s1 T_mv ?_
  refine s1 T_not ?_
  refine .nil (hK _ _ ?_)
  refine AW.condS rfl (fun hb6 => ?_) (fun hb6 => ?_)
  replace h := cnd_t hb6 h
  refine AW.seq ?_
  refine rg hx (by kernel_rfl) fun K hK => ?_
  refine s1 (d := dB false) T_asg ?_
  refine .nil (hK _ _ ?_)
  refine AW.ret ?_
  obtain rfl := Option.some.inj h
  exact RetV.mk1 (resD_t rfl (.inr (.inr ⟨_, (le_refl' _), rfl, rfl⟩)))
  replace h := cnd_f hb6 h
  refine AW.skip ?_
  refine AW.seq ?_
  refine rg hx (by kernel_rfl) fun K hK => ?_
  refine s1 (T_iaK (n0 := 0) (n := 2) (v := (0 : Int)) rfl (by decide) tb_69 tb_68) ?_
  refine s1 (T_faP tb_68 tb_25) ?_
  refine s1 (T_faP tb_25 tb_22) ?_
  refine s1 (d := dL cS x4.1.v0.vx.vQueue) (T_ldC tb_22) ?_
  refine s1 (d := dI .i64 ((x4.1.v0.vx.vQueue).length : Int)) (T_len tb_22 tb_9) ?_
  refine s1 (T_iaK (n0 := 1) (n := 2) (v := (1 : Int)) rfl (by decide) tb_69 tb_68) ?_
  refine s1 (T_faP tb_68 tb_25) ?_
  refine s1 (T_faP tb_25 tb_22) ?_
  refine s1 (d := dL cS x4.1.v1.vx.vQueue) (T_ldC tb_22) ?_
  refine s1 (d := dI .i64 ((x4.1.v1.vx.vQueue).length : Int)) (T_len tb_22 tb_9) ?_
  refine s1 (d := dI .i64 (max ((x4.1.v0.vx.vQueue).length : Int) ((x4.1.v1.vx.vQueue).length : Int))) T_max ?_
  refine s1 T_add ?_
  refine s1 T_sub ?_
  refine s1 (T_quo (b := (8 : Int)) (by decide)) ?_
  refine s1 T_add ?_
  obtain ⟨x7, hx8, h⟩ := bnd_some h
  replace hx8 := Option.some.inj hx8
  refine s2 (d2 := dI .i64 x7) T_as (le_eq (congrArg (dI .i64) hx8)) ?_
  refine .nil (hK _ _ ?_)
  iterate 2 refine AW.seq ?_
  refine rg hx (by kernel_rfl) fun K hK => ?_
  refine s1 (d := dI .i64 (0 : Int)) T_asg ?_
  refine .nil (hK _ _ ?_)
  refine AW.block ?_
  obtain ⟨y, hy, h⟩ := bnd_some h
  refine lp (S := Int × S_party × S_party) (X := S_party × S_party) (fun (a27_0, a27_1, a27_2) => [(3, .pt 0 0), (5, dI .i64 x7), (6, dI .i64 a27_0)]) (fun (a27_0, a27_1, a27_2) => ⟨[(0, [dI .i64 a27_1.vx.vBase, dL cS a27_1.vx.vQueue, dI .i64 a27_1.vx.vWant, dL c_Held a27_1.vx.vHeld, dI .i64 a27_1.vold.vBase, dL cS a27_1.vold.vQueue, dI .i64 a27_1.vold.vWant, dL c_Held a27_1.vold.vHeld, dL cS a27_1.vsent, dL cS a27_1.vgot, dL cS a27_1.voldS, dL cS a27_1.voldG, dL c_Frame a27_1.vway, dI .i64 a27_2.vx.vBase, dL cS a27_2.vx.vQueue, dI .i64 a27_2.vx.vWant, dL c_Held a27_2.vx.vHeld, dI .i64 a27_2.vold.vBase, dL cS a27_2.vold.vQueue, dI .i64 a27_2.vold.vWant, dL c_Held a27_2.vold.vHeld, dL cS a27_2.vsent, dL cS a27_2.vgot, dL cS a27_2.voldS, dL cS a27_2.voldG, dL c_Frame a27_2.vway])], [], 1⟩) (PE cx (.exit 0) (fun (a27e0_0, a27e0_1) => [(3, .pt 0 0)]) fun (a27e0_0, a27e0_1) => ⟨[(0, [dI .i64 a27e0_0.vx.vBase, dL cS a27e0_0.vx.vQueue, dI .i64 a27e0_0.vx.vWant, dL c_Held a27e0_0.vx.vHeld, dI .i64 a27e0_0.vold.vBase, dL cS a27e0_0.vold.vQueue, dI .i64 a27e0_0.vold.vWant, dL c_Held a27e0_0.vold.vHeld, dL cS a27e0_0.vsent, dL cS a27e0_0.vgot, dL cS a27e0_0.voldS, dL cS a27e0_0.voldG, dL c_Frame a27e0_0.vway, dI .i64 a27e0_1.vx.vBase, dL cS a27e0_1.vx.vQueue, dI .i64 a27e0_1.vx.vWant, dL c_Held a27e0_1.vx.vHeld, dI .i64 a27e0_1.vold.vBase, dL cS a27e0_1.vold.vQueue, dI .i64 a27e0_1.vold.vWant, dL c_Held a27e0_1.vold.vHeld, dL cS a27e0_1.vsent, dL cS a27e0_1.vgot, dL cS a27e0_1.voldS, dL cS a27e0_1.voldG, dL c_Frame a27e0_1.vway])], [], 1⟩) hy ?_ ?_ ?_
  exact wk h0 [0] (wR rfl (wR rfl (wR rfl wTn))) (vR rfl wVn) wLn
  clear hy h
  rintro ⟨a27_0, a27_1, a27_2⟩ y h
  dsimp only [g_law42_LinkComesToRest_l27] at h
  iterate 2 refine AW.seq ?_
  refine rg hx (by kernel_rfl) fun K hK => ?_
  iterate 2 refine s1 T_mv ?_
  refine s1 T_lss ?_
  refine .nil (hK _ _ ?_)
  refine AW.condS rfl (fun hb9 => ?_) (fun hb9 => ?_)
  replace h := cnd_t hb9 h
  refine AW.skip ?_
  refine AW.seq ?_
  refine AW.block ?_
  refine AW.seq ?_
  refine rg hx (by kernel_rfl) fun K hK => ?_
  refine s1 (d := dI .i64 (0 : Int)) T_asg ?_
  refine .nil (hK _ _ ?_)
  refine AW.block ?_
  obtain ⟨y, hy, h⟩ := bnd_some h
  refine lp (S := Int × S_party × S_party) (X := S_party × S_party) (fun (a39_0, a39_1, a39_2) => [(3, .pt 0 0), (5, dI .i64 x7), (6, dI .i64 a27_0), (7, dI .i64 a39_0)]) (fun (a39_0, a39_1, a39_2) => ⟨[(0, [dI .i64 a39_1.vx.vBase, dL cS a39_1.vx.vQueue, dI .i64 a39_1.vx.vWant, dL c_Held a39_1.vx.vHeld, dI .i64 a39_1.vold.vBase, dL cS a39_1.vold.vQueue, dI .i64 a39_1.vold.vWant, dL c_Held a39_1.vold.vHeld, dL cS a39_1.vsent, dL cS a39_1.vgot, dL cS a39_1.voldS, dL cS a39_1.voldG, dL c_Frame a39_1.vway, dI .i64 a39_2.vx.vBase, dL cS a39_2.vx.vQueue, dI .i64 a39_2.vx.vWant, dL c_Held a39_2.vx.vHeld, dI .i64 a39_2.vold.vBase, dL cS a39_2.vold.vQueue, dI .i64 a39_2.vold.vWant, dL c_Held a39_2.vold.vHeld, dL cS a39_2.vsent, dL cS a39_2.vgot, dL cS a39_2.voldS, dL cS a39_2.voldG, dL c_Frame a39_2.vway])], [], 1⟩) (PE cx (.exit 2) (fun (a39e2_0, a39e2_1) => [(3, .pt 0 0), (5, dI .i64 x7), (6, dI .i64 a27_0)]) fun (a39e2_0, a39e2_1) => ⟨[(0, [dI .i64 a39e2_0.vx.vBase, dL cS a39e2_0.vx.vQueue, dI .i64 a39e2_0.vx.vWant, dL c_Held a39e2_0.vx.vHeld, dI .i64 a39e2_0.vold.vBase, dL cS a39e2_0.vold.vQueue, dI .i64 a39e2_0.vold.vWant, dL c_Held a39e2_0.vold.vHeld, dL cS a39e2_0.vsent, dL cS a39e2_0.vgot, dL cS a39e2_0.voldS, dL cS a39e2_0.voldG, dL c_Frame a39e2_0.vway, dI .i64 a39e2_1.vx.vBase, dL cS a39e2_1.vx.vQueue, dI .i64 a39e2_1.vx.vWant, dL c_Held a39e2_1.vx.vHeld, dI .i64 a39e2_1.vold.vBase, dL cS a39e2_1.vold.vQueue, dI .i64 a39e2_1.vold.vWant, dL c_Held a39e2_1.vold.vHeld, dL cS a39e2_1.vsent, dL cS a39e2_1.vgot, dL cS a39e2_1.voldS, dL cS a39e2_1.voldG, dL c_Frame a39e2_1.vway])], [], 1⟩) hy ?_ ?_ ?_
  exact wk h0 [0] (wR rfl (wR rfl (wR rfl (wR rfl wTn)))) (vR rfl wVn) wLn
  clear hy h
  rintro ⟨a39_0, a39_1, a39_2⟩ y h
  dsimp only [g_law42_LinkComesToRest_l39] at h
  iterate 2 refine AW.seq ?_
  refine rg hx (by kernel_rfl) fun K hK => ?_
  refine s1 T_mv ?_
  refine s1 T_lss ?_
  refine .nil (hK _ _ ?_)
  refine AW.condS rfl (fun hb10 => ?_) (fun hb10 => ?_)
  replace h := cnd_t hb10 h
  refine AW.skip ?_
  refine AW.seq ?_
  refine AW.block ?_
  refine AW.seq ?_
  obtain ⟨a49_0, hy, h⟩ := bnd_some h
  refine jn ((PE cx .normal (fun a49_0 => [(3, .pt 0 0), (5, dI .i64 x7), (6, dI .i64 a27_0), (7, dI .i64 a39_0), (8, dO 1 c_Frame a49_0)]) fun a49_0 => ⟨[(0, [dI .i64 a39_1.vx.vBase, dL cS a39_1.vx.vQueue, dI .i64 a39_1.vx.vWant, dL c_Held a39_1.vx.vHeld, dI .i64 a39_1.vold.vBase, dL cS a39_1.vold.vQueue, dI .i64 a39_1.vold.vWant, dL c_Held a39_1.vold.vHeld, dL cS a39_1.vsent, dL cS a39_1.vgot, dL cS a39_1.voldS, dL cS a39_1.voldG, dL c_Frame a39_1.vway, dI .i64 a39_2.vx.vBase, dL cS a39_2.vx.vQueue, dI .i64 a39_2.vx.vWant, dL c_Held a39_2.vx.vHeld, dI .i64 a39_2.vold.vBase, dL cS a39_2.vold.vQueue, dI .i64 a39_2.vold.vWant, dL c_Held a39_2.vold.vHeld, dL cS a39_2.vsent, dL cS a39_2.vgot, dL cS a39_2.voldS, dL cS a39_2.voldG, dL c_Frame a39_2.vway])], [(1, (a49_0).length, 3, 27)], 2⟩) a49_0) ?_ ?_
  replace h := hy
  refine rg hx (by kernel_rfl) fun K hK => ?_
  refine s1 T_mv ?_
  refine s1 T_sub ?_
  rcases Bool.eq_false_or_eq_true (decide (IntKind.i64.wrap ((1 : Int) - a39_0) = 0)) with hb11 | hb11
  replace h := cnd_t hb11 h
  refine s1 (T_iaK (n0 := 0) (n := 2) (v := IntKind.i64.wrap ((1 : Int) - a39_0)) (of_decide_eq_true hb11) (by have := of_decide_eq_true hb11; omega) tb_69 tb_68) ?_
  refine s1 (T_faP tb_68 tb_25) ?_
  refine s1 (d := dG c_End a39_1.vx) (T_ldA tb_25) ?_
  obtain ⟨x12, hx13, h⟩ := bnd_some h
  refine s1 (d := dO 1 c_Frame x12) (T_callO rfl (w_link_Frames hx13) (by simp only [List.map_cons, List.map_nil, List.all_cons, List.all_nil, Bool.and_true, Bool.and_eq_true]; exact pure_ex_G _ _) (lA (le_refl' _) lAn)) ?_
  refine s1 T_as ?_
  refine .nil (hK _ _ ?_)
  obtain rfl := Option.some.inj h
  exact PE.i (wk h0 [0, 1] (wR rfl (wR rfl (wR rfl (wR rfl (wR rfl wTn))))) (vR rfl wVn) (wL rfl rfl wLn))
  replace h := cnd_f hb11 h
  obtain ⟨hc14, h⟩ := gd_some h
  have hv15 : IntKind.i64.wrap ((1 : Int) - a39_0) = (1 : Int) := by have := of_decide_eq_false hb11; omega
  refine s1 (T_iaK (n0 := 1) hv15 hc14 tb_69 tb_68) ?_
  refine s1 (T_faP tb_68 tb_25) ?_
  refine s1 (d := dG c_End a39_2.vx) (T_ldA tb_25) ?_
  obtain ⟨x16, hx17, h⟩ := bnd_some h
  refine s1 (d := dO 1 c_Frame x16) (T_callO rfl (w_link_Frames hx17) (by simp only [List.map_cons, List.map_nil, List.all_cons, List.all_nil, Bool.and_true, Bool.and_eq_true]; exact pure_ex_G _ _) (lA (le_refl' _) lAn)) ?_
  refine s1 T_as ?_
  refine .nil (hK _ _ ?_)
  obtain rfl := Option.some.inj h
  exact PE.i (wk h0 [0, 1] (wR rfl (wR rfl (wR rfl (wR rfl (wR rfl wTn))))) (vR rfl wVn) (wL rfl rfl wLn))
  rintro ex tm' hp' ⟨rfl, hw⟩
  refine AW.weak hw ?_
  refine AW.seq ?_
  refine rg hx (by kernel_rfl) fun K hK => ?_
  refine s1 (d := dI .i64 (0 : Int)) T_asg ?_
  refine .nil (hK _ _ ?_)
  refine AW.block ?_
  obtain ⟨y, hy, h⟩ := bnd_some h
  refine lp (S := Int × S_party × S_party) (X := S_party × S_party) (fun (a53_0, a53_1, a53_2) => [(3, .pt 0 0), (5, dI .i64 x7), (6, dI .i64 a27_0), (7, dI .i64 a39_0), (8, dO 1 c_Frame a49_0), (9, dI .i64 a53_0)]) (fun (a53_0, a53_1, a53_2) => ⟨[(0, [dI .i64 a53_1.vx.vBase, dL cS a53_1.vx.vQueue, dI .i64 a53_1.vx.vWant, dL c_Held a53_1.vx.vHeld, dI .i64 a53_1.vold.vBase, dL cS a53_1.vold.vQueue, dI .i64 a53_1.vold.vWant, dL c_Held a53_1.vold.vHeld, dL cS a53_1.vsent, dL cS a53_1.vgot, dL cS a53_1.voldS, dL cS a53_1.voldG, dL c_Frame a53_1.vway, dI .i64 a53_2.vx.vBase, dL cS a53_2.vx.vQueue, dI .i64 a53_2.vx.vWant, dL c_Held a53_2.vx.vHeld, dI .i64 a53_2.vold.vBase, dL cS a53_2.vold.vQueue, dI .i64 a53_2.vold.vWant, dL c_Held a53_2.vold.vHeld, dL cS a53_2.vsent, dL cS a53_2.vgot, dL cS a53_2.voldS, dL cS a53_2.voldG, dL c_Frame a53_2.vway])], [(1, (a49_0).length, 3, 27)], 2⟩) (PE cx (.exit 4) (fun (a53e4_0, a53e4_1) => [(3, .pt 0 0), (5, dI .i64 x7), (6, dI .i64 a27_0), (7, dI .i64 a39_0)]) fun (a53e4_0, a53e4_1) => ⟨[(0, [dI .i64 a53e4_0.vx.vBase, dL cS a53e4_0.vx.vQueue, dI .i64 a53e4_0.vx.vWant, dL c_Held a53e4_0.vx.vHeld, dI .i64 a53e4_0.vold.vBase, dL cS a53e4_0.vold.vQueue, dI .i64 a53e4_0.vold.vWant, dL c_Held a53e4_0.vold.vHeld, dL cS a53e4_0.vsent, dL cS a53e4_0.vgot, dL cS a53e4_0.voldS, dL cS a53e4_0.voldG, dL c_Frame a53e4_0.vway, dI .i64 a53e4_1.vx.vBase, dL cS a53e4_1.vx.vQueue, dI .i64 a53e4_1.vx.vWant, dL c_Held a53e4_1.vx.vHeld, dI .i64 a53e4_1.vold.vBase, dL cS a53e4_1.vold.vQueue, dI .i64 a53e4_1.vold.vWant, dL c_Held a53e4_1.vold.vHeld, dL cS a53e4_1.vsent, dL cS a53e4_1.vgot, dL cS a53e4_1.voldS, dL cS a53e4_1.voldG, dL c_Frame a53e4_1.vway])], [], 1⟩) hy ?_ ?_ ?_
  exact wk h0 [0, 1] (wR rfl (wR rfl (wR rfl (wR rfl (wR rfl (wR rfl wTn)))))) (vR rfl wVn) (wL rfl rfl wLn)
  clear hy h
  rintro ⟨a53_0, a53_1, a53_2⟩ y h
  dsimp only [g_law42_LinkComesToRest_l53] at h
  iterate 2 refine AW.seq ?_
  refine rg hx (by kernel_rfl) fun K hK => ?_
  iterate 2 refine s1 T_mv ?_
  refine s1 (d := dI .i64 ((a49_0).length : Int)) (T_len tb_45 tb_27) ?_
  refine s1 T_lss ?_
  refine .nil (hK _ _ ?_)
  refine AW.condS rfl (fun hb19 => ?_) (fun hb19 => ?_)
  replace h := cnd_t hb19 h
  refine AW.skip ?_
  refine AW.seq ?_
  obtain ⟨y, hy, h⟩ := bnd_some h
  refine jn ((PE cx .normal (fun (a61_0, a61_1, a61_2, a61_3, a61_4, a61_5, a61_6, a61_7, a61_8, a61_9, a61_10, a61_11, a61_12, a61_13) => [(3, .pt 0 0), (5, dI .i64 x7), (6, dI .i64 a27_0), (7, dI .i64 a39_0), (8, dO 1 c_Frame a49_0), (9, dI .i64 a53_0)]) fun (a61_0, a61_1, a61_2, a61_3, a61_4, a61_5, a61_6, a61_7, a61_8, a61_9, a61_10, a61_11, a61_12, a61_13) => ⟨[(0, [dI .i64 a61_0.vBase, dL cS a61_0.vQueue, dI .i64 a61_0.vWant, dL c_Held a61_0.vHeld, dI .i64 a61_1.vBase, dL cS a61_1.vQueue, dI .i64 a61_1.vWant, dL c_Held a61_1.vHeld, dL cS a61_2, dL cS a61_3, dL cS a61_4, dL cS a61_5, dL c_Frame a61_6, dI .i64 a61_7.vBase, dL cS a61_7.vQueue, dI .i64 a61_7.vWant, dL c_Held a61_7.vHeld, dI .i64 a61_8.vBase, dL cS a61_8.vQueue, dI .i64 a61_8.vWant, dL c_Held a61_8.vHeld, dL cS a61_9, dL cS a61_10, dL cS a61_11, dL cS a61_12, dL c_Frame a61_13])], [(1, (a49_0).length, 3, 27)], 2⟩) y) ?_ ?_
  replace h := hy
  refine AW.block ?_
  refine AW.seq ?_
  obtain ⟨y, hy, h⟩ := bnd_some h
  refine jn ((PE cx .normal (fun (a63_0, a63_1) => [(3, .pt 0 0), (5, dI .i64 x7), (6, dI .i64 a27_0), (7, dI .i64 a39_0), (8, dO 1 c_Frame a49_0), (9, dI .i64 a53_0), (10, .pt 2 0), (11, dL cS a63_0)]) fun (a63_0, a63_1) => ⟨[(0, [dI .i64 a53_1.vx.vBase, dL cS a53_1.vx.vQueue, dI .i64 a53_1.vx.vWant, dL c_Held a53_1.vx.vHeld, dI .i64 a53_1.vold.vBase, dL cS a53_1.vold.vQueue, dI .i64 a53_1.vold.vWant, dL c_Held a53_1.vold.vHeld, dL cS a53_1.vsent, dL cS a53_1.vgot, dL cS a53_1.voldS, dL cS a53_1.voldG, dL c_Frame a53_1.vway, dI .i64 a53_2.vx.vBase, dL cS a53_2.vx.vQueue, dI .i64 a53_2.vx.vWant, dL c_Held a53_2.vx.vHeld, dI .i64 a53_2.vold.vBase, dL cS a53_2.vold.vQueue, dI .i64 a53_2.vold.vWant, dL c_Held a53_2.vold.vHeld, dL cS a53_2.vsent, dL cS a53_2.vgot, dL cS a53_2.voldS, dL cS a53_2.voldG, dL c_Frame a53_2.vway]), (2, [dI .i64 a63_1.vBase, dL cS a63_1.vQueue, dI .i64 a63_1.vWant, dL c_Held a63_1.vHeld])], [(1, (a49_0).length, 3, 27)], 3⟩) y) ?_ ?_
  replace h := hy
  refine rd [14] hx (by kernel_rfl) (by kernel_rfl) fun K hK => ?_
  refine s1 T_mv ?_
  rcases Bool.eq_false_or_eq_true (decide (a39_0 = 0)) with hb20 | hb20
  replace h := cnd_t hb20 h
  refine s1 (T_iaK (n0 := 0) (n := 2) (v := a39_0) (of_decide_eq_true hb20) (by have := of_decide_eq_true hb20; omega) tb_69 tb_68) ?_
  refine s1 (T_faP tb_68 tb_25) ?_
  refine s1 (d := dG c_End a53_1.vx) (T_ldA tb_25) ?_
  iterate 2 refine s1 T_mv ?_
  obtain ⟨hc21, h⟩ := gd_some h
  have hn22 : (a53_0).toNat < (a49_0).length := by omega
  refine s1 (T_iaS hc21 tb_45 tb_27) ?_
  refine s1 (d := dG c_Frame ((a49_0)[(a53_0).toNat]!)) (T_ldG (c := c_Frame) (l := a49_0) (n := (a53_0).toNat) (o := 0) tb_27 hn22 (whole_G _ _ rfl)) ?_
  obtain ⟨x23, hx24, h⟩ := bnd_some h
  refine sq tok (w_link_Receive hx24) (by simp only [List.map_cons, List.map_nil, List.all_cons, List.all_nil, Bool.and_true, Bool.and_eq_true]; exact ⟨pure_ex_G _ _, pure_ex_G _ _⟩) (lA (le_refl' _) (lA (le_refl' _) lAn)) (.inr ⟨_, rfl⟩) ?_
  refine s1 T_mv ?_
  iterate 2 refine s1 T_ext ?_
  refine s1 (d := .pt 2 0) (T_alloc tb_25) ?_
  refine s0 (T_st (ds' := [dI .i64 x23.1.vBase, dL cS x23.1.vQueue, dI .i64 x23.1.vWant, dL c_Held x23.1.vHeld]) tb_25) ?_
  refine s1 T_as ?_
  refine .nil (hK _ _ ?_)
  obtain rfl := Option.some.inj h
  exact PE.i (wk h0 [0, 1, 2] (wR rfl (wR rfl (wR rfl (wR rfl (wR rfl (wR rfl (wR rfl (wR rfl wTn)))))))) (vR rfl (vR rfl wVn)) (wL rfl rfl wLn))
  replace h := cnd_f hb20 h
  obtain ⟨hc25, h⟩ := gd_some h
  have hv26 : a39_0 = (1 : Int) := by have := of_decide_eq_false hb20; omega
  refine s1 (T_iaK (n0 := 1) hv26 hc25 tb_69 tb_68) ?_
  refine s1 (T_faP tb_68 tb_25) ?_
  refine s1 (d := dG c_End a53_2.vx) (T_ldA tb_25) ?_
  iterate 2 refine s1 T_mv ?_
  obtain ⟨hc27, h⟩ := gd_some h
  have hn28 : (a53_0).toNat < (a49_0).length := by omega
  refine s1 (T_iaS hc27 tb_45 tb_27) ?_
  refine s1 (d := dG c_Frame ((a49_0)[(a53_0).toNat]!)) (T_ldG (c := c_Frame) (l := a49_0) (n := (a53_0).toNat) (o := 0) tb_27 hn28 (whole_G _ _ rfl)) ?_
  obtain ⟨x29, hx30, h⟩ := bnd_some h
  refine sq tok (w_link_Receive hx30) (by simp only [List.map_cons, List.map_nil, List.all_cons, List.all_nil, Bool.and_true, Bool.and_eq_true]; exact ⟨pure_ex_G _ _, pure_ex_G _ _⟩) (lA (le_refl' _) (lA (le_refl' _) lAn)) (.inr ⟨_, rfl⟩) ?_
  refine s1 T_mv ?_
  iterate 2 refine s1 T_ext ?_
  refine s1 (d := .pt 2 0) (T_alloc tb_25) ?_
  refine s0 (T_st (ds' := [dI .i64 x29.1.vBase, dL cS x29.1.vQueue, dI .i64 x29.1.vWant, dL c_Held x29.1.vHeld]) tb_25) ?_
  refine s1 T_as ?_
  refine .nil (hK _ _ ?_)
  obtain rfl := Option.some.inj h
  exact PE.i (wk h0 [0, 1, 2] (wR rfl (wR rfl (wR rfl (wR rfl (wR rfl (wR rfl (wR rfl (wR rfl wTn)))))))) (vR rfl (vR rfl wVn)) (wL rfl rfl wLn))
  obtain ⟨a63_0, a63_1⟩ := y
  rintro ex tm' hp' ⟨rfl, hw⟩
  refine AW.weak hw ?_
  refine AW.seq ?_
  obtain ⟨y, hy, h⟩ := bnd_some h
  refine jn ((PE cx .normal (fun (a65_0, a65_1) => [(3, .pt 0 0), (5, dI .i64 x7), (6, dI .i64 a27_0), (7, dI .i64 a39_0), (8, dO 1 c_Frame a49_0), (9, dI .i64 a53_0), (11, dL cS a63_0)]) fun (a65_0, a65_1) => ⟨[(0, [dI .i64 a65_0.vx.vBase, dL cS a65_0.vx.vQueue, dI .i64 a65_0.vx.vWant, dL c_Held a65_0.vx.vHeld, dI .i64 a65_0.vold.vBase, dL cS a65_0.vold.vQueue, dI .i64 a65_0.vold.vWant, dL c_Held a65_0.vold.vHeld, dL cS a65_0.vsent, dL cS a65_0.vgot, dL cS a65_0.voldS, dL cS a65_0.voldG, dL c_Frame a65_0.vway, dI .i64 a65_1.vx.vBase, dL cS a65_1.vx.vQueue, dI .i64 a65_1.vx.vWant, dL c_Held a65_1.vx.vHeld, dI .i64 a65_1.vold.vBase, dL cS a65_1.vold.vQueue, dI .i64 a65_1.vold.vWant, dL c_Held a65_1.vold.vHeld, dL cS a65_1.vsent, dL cS a65_1.vgot, dL cS a65_1.voldS, dL cS a65_1.voldG, dL c_Frame a65_1.vway])], [(1, (a49_0).length, 3, 27)], 2⟩) y) ?_ ?_
  replace h := hy
  refine rg hx (by kernel_rfl) fun K hK => ?_
  refine s1 T_mv ?_
  refine s1 (d := dG c_End a63_1) (T_ldA tb_25) ?_
  rcases Bool.eq_false_or_eq_true (decide (a39_0 = 0)) with hb32 | hb32
  replace h := cnd_t hb32 h
  refine s1 (T_iaK (n0 := 0) (n := 2) (v := a39_0) (of_decide_eq_true hb32) (by have := of_decide_eq_true hb32; omega) tb_69 tb_68) ?_
  refine s1 (T_faP tb_68 tb_25) ?_
  refine s0 (T_st (ds' := [dI .i64 a63_1.vBase, dL cS a63_1.vQueue, dI .i64 a63_1.vWant, dL c_Held a63_1.vHeld, dI .i64 a53_1.vold.vBase, dL cS a53_1.vold.vQueue, dI .i64 a53_1.vold.vWant, dL c_Held a53_1.vold.vHeld, dL cS a53_1.vsent, dL cS a53_1.vgot, dL cS a53_1.voldS, dL cS a53_1.voldG, dL c_Frame a53_1.vway, dI .i64 a53_2.vx.vBase, dL cS a53_2.vx.vQueue, dI .i64 a53_2.vx.vWant, dL c_Held a53_2.vx.vHeld, dI .i64 a53_2.vold.vBase, dL cS a53_2.vold.vQueue, dI .i64 a53_2.vold.vWant, dL c_Held a53_2.vold.vHeld, dL cS a53_2.vsent, dL cS a53_2.vgot, dL cS a53_2.voldS, dL cS a53_2.voldG, dL c_Frame a53_2.vway]) tb_25) ?_
  refine .nil (hK _ _ ?_)
  obtain rfl := Option.some.inj h
  exact PE.i (wk h0 [0, 1] (wR rfl (wR rfl (wR rfl (wR rfl (wR rfl (wR rfl (wR rfl wTn))))))) (vR rfl wVn) (wL rfl rfl wLn))
  replace h := cnd_f hb32 h
  obtain ⟨hc33, h⟩ := gd_some h
  have hv34 : a39_0 = (1 : Int) := by have := of_decide_eq_false hb32; omega
  refine s1 (T_iaK (n0 := 1) hv34 hc33 tb_69 tb_68) ?_
  refine s1 (T_faP tb_68 tb_25) ?_
  refine s0 (T_st (ds' := [dI .i64 a53_1.vx.vBase, dL cS a53_1.vx.vQueue, dI .i64 a53_1.vx.vWant, dL c_Held a53_1.vx.vHeld, dI .i64 a53_1.vold.vBase, dL cS a53_1.vold.vQueue, dI .i64 a53_1.vold.vWant, dL c_Held a53_1.vold.vHeld, dL cS a53_1.vsent, dL cS a53_1.vgot, dL cS a53_1.voldS, dL cS a53_1.voldG, dL c_Frame a53_1.vway, dI .i64 a63_1.vBase, dL cS a63_1.vQueue, dI .i64 a63_1.vWant, dL c_Held a63_1.vHeld, dI .i64 a53_2.vold.vBase, dL cS a53_2.vold.vQueue, dI .i64 a53_2.vold.vWant, dL c_Held a53_2.vold.vHeld, dL cS a53_2.vsent, dL cS a53_2.vgot, dL cS a53_2.voldS, dL cS a53_2.voldG, dL c_Frame a53_2.vway]) tb_25) ?_
  refine .nil (hK _ _ ?_)
  obtain rfl := Option.some.inj h
  exact PE.i (wk h0 [0, 1] (wR rfl (wR rfl (wR rfl (wR rfl (wR rfl (wR rfl (wR rfl wTn))))))) (vR rfl wVn) (wL rfl rfl wLn))
  obtain ⟨a65_0, a65_1⟩ := y
  rintro ex tm' hp' ⟨rfl, hw⟩
  refine AW.weak hw ?_
  refine rd [] hx (by kernel_rfl) (by kernel_rfl) fun K hK => ?_
  iterate 2 refine s1 T_mv ?_
  rcases Bool.eq_false_or_eq_true (decide (a39_0 = 0)) with hb36 | hb36
  replace h := cnd_t hb36 h
  refine s1 (T_iaK (n0 := 0) (n := 2) (v := a39_0) (of_decide_eq_true hb36) (by have := of_decide_eq_true hb36; omega) tb_69 tb_68) ?_
  refine s1 (T_faP tb_68 tb_22) ?_
  refine s1 (d := dL cS a65_0.vgot) (T_ldC tb_22) ?_
  refine s1 T_mv ?_
  refine s1 (T_iaK (n0 := 0) (n := 2) (v := a39_0) (of_decide_eq_true hb36) (by have := of_decide_eq_true hb36; omega) tb_69 tb_68) ?_
  refine s1 (T_faP tb_68 tb_22) ?_
  refine s1 (d := dL cS a65_0.vgot) (T_ldC tb_22) ?_
  refine s1 (d := dI .i64 ((a65_0.vgot).length : Int)) (T_len tb_22 tb_9) ?_
  refine s1 T_mv ?_
  refine s1 (T_iaK (n0 := 0) (n := 2) (v := a39_0) (of_decide_eq_true hb36) (by have := of_decide_eq_true hb36; omega) tb_69 tb_68) ?_
  refine s1 (T_faP tb_68 tb_22) ?_
  refine s1 (d := dL cS a65_0.vgot) (T_ldC tb_22) ?_
  refine s1 (d := dI .i64 ((a65_0.vgot).length : Int)) (T_len tb_22 tb_9) ?_
  obtain ⟨hc37, h⟩ := gd_some h
  refine s1 (T_slF (c := cS) (l := a65_0.vgot) (a := (0 : Int)) (b := ((a65_0.vgot).length : Int)) hc37 tb_22 tb_9) ?_
  refine s1 T_mv ?_
  rcases Bool.eq_false_or_eq_true (decide (0 < (a63_0).length)) with hb38 | hb38
  replace h := cnd_t hb38 h
  obtain ⟨hc39, h⟩ := gd_some h
  refine s1 (d := dO 2 cS ((subL a65_0.vgot (0 : Int) ((a65_0.vgot).length : Int)) ++ a63_0)) (T_appF tb_22 tb_9 hc39 (of_decide_eq_true hb38)) ?_
  refine s1 (T_iaK (n0 := 0) (n := 2) (v := a39_0) (of_decide_eq_true hb36) (by have := of_decide_eq_true hb36; omega) tb_69 tb_68) ?_
  refine s1 (T_faP tb_68 tb_22) ?_
  refine s0 (T_st (ds' := [dI .i64 a65_0.vx.vBase, dL cS a65_0.vx.vQueue, dI .i64 a65_0.vx.vWant, dL c_Held a65_0.vx.vHeld, dI .i64 a65_0.vold.vBase, dL cS a65_0.vold.vQueue, dI .i64 a65_0.vold.vWant, dL c_Held a65_0.vold.vHeld, dL cS a65_0.vsent, dO 2 cS ((subL a65_0.vgot (0 : Int) ((a65_0.vgot).length : Int)) ++ a63_0), dL cS a65_0.voldS, dL cS a65_0.voldG, dL c_Frame a65_0.vway, dI .i64 a65_1.vx.vBase, dL cS a65_1.vx.vQueue, dI .i64 a65_1.vx.vWant, dL c_Held a65_1.vx.vHeld, dI .i64 a65_1.vold.vBase, dL cS a65_1.vold.vQueue, dI .i64 a65_1.vold.vWant, dL c_Held a65_1.vold.vHeld, dL cS a65_1.vsent, dL cS a65_1.vgot, dL cS a65_1.voldS, dL cS a65_1.voldG, dL c_Frame a65_1.vway]) tb_22) ?_
  refine .nil (hK _ _ ?_)
  obtain rfl := Option.some.inj h
  exact PE.i (wk h0 [0, 1] (wR rfl (wR rfl (wR rfl (wR rfl (wR rfl (wR rfl wTn)))))) (wV rfl rfl (wc (lc_r _) (wc (lc_r _) (wc (lc_r _) (wc (lc_r _) (wc (lc_r _) (wc (lc_r _) (wc (lc_r _) (wc (lc_r _) (wc (lc_r _) (wc (lc_x _) (wc (lc_r _) (wc (lc_r _) (wc (lc_r _) (wc (lc_r _) (wc (lc_r _) (wc (lc_r _) (wc (lc_r _) (wc (lc_r _) (wc (lc_r _) (wc (lc_r _) (wc (lc_r _) (wc (lc_r _) (wc (lc_r _) (wc (lc_r _) (wc (lc_r _) (wc (lc_r _) wcn)))))))))))))))))))))))))) rfl rfl wVn) (wL rfl rfl wLn))
  replace h := cnd_f hb38 h
  refine sEm (l := a63_0) (c0 := cS) tb_22 tb_9 hb38 ?_
  refine s1 (T_iaK (n0 := 0) (n := 2) (v := a39_0) (of_decide_eq_true hb36) (by have := of_decide_eq_true hb36; omega) tb_69 tb_68) ?_
  refine s1 (T_faP tb_68 tb_22) ?_
  refine s0 (T_st (ds' := [dI .i64 a65_0.vx.vBase, dL cS a65_0.vx.vQueue, dI .i64 a65_0.vx.vWant, dL c_Held a65_0.vx.vHeld, dI .i64 a65_0.vold.vBase, dL cS a65_0.vold.vQueue, dI .i64 a65_0.vold.vWant, dL c_Held a65_0.vold.vHeld, dL cS a65_0.vsent, dF cS (subL a65_0.vgot (0 : Int) ((a65_0.vgot).length : Int)), dL cS a65_0.voldS, dL cS a65_0.voldG, dL c_Frame a65_0.vway, dI .i64 a65_1.vx.vBase, dL cS a65_1.vx.vQueue, dI .i64 a65_1.vx.vWant, dL c_Held a65_1.vx.vHeld, dI .i64 a65_1.vold.vBase, dL cS a65_1.vold.vQueue, dI .i64 a65_1.vold.vWant, dL c_Held a65_1.vold.vHeld, dL cS a65_1.vsent, dL cS a65_1.vgot, dL cS a65_1.voldS, dL cS a65_1.voldG, dL c_Frame a65_1.vway]) tb_22) ?_
  refine .nil (hK _ _ ?_)
  obtain rfl := Option.some.inj h
  exact PE.i (wk h0 [0, 1] (wR rfl (wR rfl (wR rfl (wR rfl (wR rfl (wR rfl wTn)))))) (wV rfl rfl (wc (lc_r _) (wc (lc_r _) (wc (lc_r _) (wc (lc_r _) (wc (lc_r _) (wc (lc_r _) (wc (lc_r _) (wc (lc_r _) (wc (lc_r _) (wc (lc_x _) (wc (lc_r _) (wc (lc_r _) (wc (lc_r _) (wc (lc_r _) (wc (lc_r _) (wc (lc_r _) (wc (lc_r _) (wc (lc_r _) (wc (lc_r _) (wc (lc_r _) (wc (lc_r _) (wc (lc_r _) (wc (lc_r _) (wc (lc_r _) (wc (lc_r _) (wc (lc_r _) wcn)))))))))))))))))))))))))) rfl rfl wVn) (wL rfl rfl wLn))
  replace h := cnd_f hb36 h
  obtain ⟨hc40, h⟩ := gd_some h
  have hv41 : a39_0 = (1 : Int) := by have := of_decide_eq_false hb36; omega
  refine s1 (T_iaK (n0 := 1) hv41 hc40 tb_69 tb_68) ?_
  refine s1 (T_faP tb_68 tb_22) ?_
  refine s1 (d := dL cS a65_1.vgot) (T_ldC tb_22) ?_
  refine s1 T_mv ?_
  refine s1 (T_iaK (n0 := 1) (n := 2) (v := a39_0) (hv41) (by have := hv41; omega) tb_69 tb_68) ?_
  refine s1 (T_faP tb_68 tb_22) ?_
  refine s1 (d := dL cS a65_1.vgot) (T_ldC tb_22) ?_
  refine s1 (d := dI .i64 ((a65_1.vgot).length : Int)) (T_len tb_22 tb_9) ?_
  refine s1 T_mv ?_
  refine s1 (T_iaK (n0 := 1) (n := 2) (v := a39_0) (hv41) (by have := hv41; omega) tb_69 tb_68) ?_
  refine s1 (T_faP tb_68 tb_22) ?_
  refine s1 (d := dL cS a65_1.vgot) (T_ldC tb_22) ?_
  refine s1 (d := dI .i64 ((a65_1.vgot).length : Int)) (T_len tb_22 tb_9) ?_
  obtain ⟨hc42, h⟩ := gd_some h
  refine s1 (T_slF (c := cS) (l := a65_1.vgot) (a := (0 : Int)) (b := ((a65_1.vgot).length : Int)) hc42 tb_22 tb_9) ?_
  refine s1 T_mv ?_
  rcases Bool.eq_false_or_eq_true (decide (0 < (a63_0).length)) with hb43 | hb43
  replace h := cnd_t hb43 h
  obtain ⟨hc44, h⟩ := gd_some h
  refine s1 (d := dO 2 cS ((subL a65_1.vgot (0 : Int) ((a65_1.vgot).length : Int)) ++ a63_0)) (T_appF tb_22 tb_9 hc44 (of_decide_eq_true hb43)) ?_
  refine s1 (T_iaK (n0 := 1) (n := 2) (v := a39_0) (hv41) (by have := hv41; omega) tb_69 tb_68) ?_
  refine s1 (T_faP tb_68 tb_22) ?_
  refine s0 (T_st (ds' := [dI .i64 a65_0.vx.vBase, dL cS a65_0.vx.vQueue, dI .i64 a65_0.vx.vWant, dL c_Held a65_0.vx.vHeld, dI .i64 a65_0.vold.vBase, dL cS a65_0.vold.vQueue, dI .i64 a65_0.vold.vWant, dL c_Held a65_0.vold.vHeld, dL cS a65_0.vsent, dL cS a65_0.vgot, dL cS a65_0.voldS, dL cS a65_0.voldG, dL c_Frame a65_0.vway, dI .i64 a65_1.vx.vBase, dL cS a65_1.vx.vQueue, dI .i64 a65_1.vx.vWant, dL c_Held a65_1.vx.vHeld, dI .i64 a65_1.vold.vBase, dL cS a65_1.vold.vQueue, dI .i64 a65_1.vold.vWant, dL c_Held a65_1.vold.vHeld, dL cS a65_1.vsent, dO 2 cS ((subL a65_1.vgot (0 : Int) ((a65_1.vgot).length : Int)) ++ a63_0), dL cS a65_1.voldS, dL cS a65_1.voldG, dL c_Frame a65_1.vway]) tb_22) ?_
  refine .nil (hK _ _ ?_)
  obtain rfl := Option.some.inj h
  exact PE.i (wk h0 [0, 1] (wR rfl (wR rfl (wR rfl (wR rfl (wR rfl (wR rfl wTn)))))) (wV rfl rfl (wc (lc_r _) (wc (lc_r _) (wc (lc_r _) (wc (lc_r _) (wc (lc_r _) (wc (lc_r _) (wc (lc_r _) (wc (lc_r _) (wc (lc_r _) (wc (lc_r _) (wc (lc_r _) (wc (lc_r _) (wc (lc_r _) (wc (lc_r _) (wc (lc_r _) (wc (lc_r _) (wc (lc_r _) (wc (lc_r _) (wc (lc_r _) (wc (lc_r _) (wc (lc_r _) (wc (lc_r _) (wc (lc_x _) (wc (lc_r _) (wc (lc_r _) (wc (lc_r _) wcn)))))))))))))))))))))))))) rfl rfl wVn) (wL rfl rfl wLn))
  replace h := cnd_f hb43 h
  refine sEm (l := a63_0) (c0 := cS) tb_22 tb_9 hb43 ?_
  refine s1 (T_iaK (n0 := 1) (n := 2) (v := a39_0) (hv41) (by have := hv41; omega) tb_69 tb_68) ?_
  refine s1 (T_faP tb_68 tb_22) ?_
  refine s0 (T_st (ds' := [dI .i64 a65_0.vx.vBase, dL cS a65_0.vx.vQueue, dI .i64 a65_0.vx.vWant, dL c_Held a65_0.vx.vHeld, dI .i64 a65_0.vold.vBase, dL cS a65_0.vold.vQueue, dI .i64 a65_0.vold.vWant, dL c_Held a65_0.vold.vHeld, dL cS a65_0.vsent, dL cS a65_0.vgot, dL cS a65_0.voldS, dL cS a65_0.voldG, dL c_Frame a65_0.vway, dI .i64 a65_1.vx.vBase, dL cS a65_1.vx.vQueue, dI .i64 a65_1.vx.vWant, dL c_Held a65_1.vx.vHeld, dI .i64 a65_1.vold.vBase, dL cS a65_1.vold.vQueue, dI .i64 a65_1.vold.vWant, dL c_Held a65_1.vold.vHeld, dL cS a65_1.vsent, dF cS (subL a65_1.vgot (0 : Int) ((a65_1.vgot).length : Int)), dL cS a65_1.voldS, dL cS a65_1.voldG, dL c_Frame a65_1.vway]) tb_22) ?_
  refine .nil (hK _ _ ?_)
  obtain rfl := Option.some.inj h
  exact PE.i (wk h0 [0, 1] (wR rfl (wR rfl (wR rfl (wR rfl (wR rfl (wR rfl wTn)))))) (wV rfl rfl (wc (lc_r _) (wc (lc_r _) (wc (lc_r _) (wc (lc_r _) (wc (lc_r _) (wc (lc_r _) (wc (lc_r _) (wc (lc_r _) (wc (lc_r _) (wc (lc_r _) (wc (lc_r _) (wc (lc_r _) (wc (lc_r _) (wc (lc_r _) (wc (lc_r _) (wc (lc_r _) (wc (lc_r _) (wc (lc_r _) (wc (lc_r _) (wc (lc_r _) (wc (lc_r _) (wc (lc_r _) (wc (lc_x _) (wc (lc_r _) (wc (lc_r _) (wc (lc_r _) wcn)))))))))))))))))))))))))) rfl rfl wVn) (wL rfl rfl wLn))
  obtain ⟨a61_0, a61_1, a61_2, a61_3, a61_4, a61_5, a61_6, a61_7, a61_8, a61_9, a61_10, a61_11, a61_12, a61_13⟩ := y
  rintro ex tm' hp' ⟨rfl, hw⟩
  refine AW.weak hw ?_
  refine rg hx (by kernel_rfl) fun K hK => ?_
  refine s1 T_mv ?_
  refine s1 T_add ?_
  refine s1 T_as ?_
  refine .nil (hK _ _ ?_)
  obtain rfl := Option.some.inj h
  exact PS.l (PE.i (wk h0 [0, 1] (wR rfl (wR rfl (wR rfl (wR rfl (wR rfl (wR rfl wTn)))))) (vR rfl wVn) (wL rfl rfl wLn)))
  replace h := cnd_f hb19 h
  refine AW.exit ?_
  try dsimp only
  try simp only [if_true, reduceIte, Nat.reduceEqDiff, reduceCtorEq]
  obtain rfl := Option.some.inj h
  exact PS.r ⟨by nofun, PE.i (wk h0 [0] (wR rfl (wR rfl (wR rfl (wR rfl wTn)))) (vR rfl wVn) wLn)⟩
  obtain ⟨a53e4_0, a53e4_1⟩ := y
  rintro ex tm' hp' ⟨rfl, hw⟩
  try dsimp only
  try simp only [if_true, reduceIte, Nat.reduceEqDiff, reduceCtorEq]
  refine AW.weak hw ?_
  refine rg hx (by kernel_rfl) fun K hK => ?_
  refine s1 T_mv ?_
  refine s1 T_add ?_
  refine s1 T_as ?_
  refine .nil (hK _ _ ?_)
  obtain rfl := Option.some.inj h
  exact PS.l (PE.i (wk h0 [0] (wR rfl (wR rfl (wR rfl (wR rfl wTn)))) (vR rfl wVn) wLn))
  replace h := cnd_f hb10 h
  refine AW.exit ?_
  try dsimp only
  try simp only [if_true, reduceIte, Nat.reduceEqDiff, reduceCtorEq]
  obtain rfl := Option.some.inj h
  exact PS.r ⟨by nofun, PE.i (wk h0 [0] (wR rfl (wR rfl (wR rfl wTn))) (vR rfl wVn) wLn)⟩
  obtain ⟨a39e2_0, a39e2_1⟩ := y
  rintro ex tm' hp' ⟨rfl, hw⟩
  try dsimp only
  try simp only [if_true, reduceIte, Nat.reduceEqDiff, reduceCtorEq]
  refine AW.weak hw ?_
  refine rg hx (by kernel_rfl) fun K hK => ?_
  refine s1 T_mv ?_
  refine s1 T_add ?_
  refine s1 T_as ?_
  refine .nil (hK _ _ ?_)
  obtain rfl := Option.some.inj h
  exact PS.l (PE.i (wk h0 [0] (wR rfl (wR rfl (wR rfl wTn))) (vR rfl wVn) wLn))
  replace h := cnd_f hb9 h
  refine AW.exit ?_
  try dsimp only
  try simp only [if_true, reduceIte, Nat.reduceEqDiff, reduceCtorEq]
  obtain rfl := Option.some.inj h
  exact PS.r ⟨by nofun, PE.i (wk h0 [0] (wR rfl wTn) (vR rfl wVn) wLn)⟩
  obtain ⟨a27e0_0, a27e0_1⟩ := y
  rintro ex tm' hp' ⟨rfl, hw⟩
  try dsimp only
  try simp only [if_true, reduceIte, Nat.reduceEqDiff, reduceCtorEq]
  refine AW.weak hw ?_
  refine AW.seq ?_
  obtain ⟨a71_0, hy, h⟩ := bnd_some h
  refine jn ((PE cx .normal (fun a71_0 => [(2, dB a71_0)]) fun a71_0 => ⟨[], [], 0⟩) a71_0) ?_ ?_
  replace h := hy
  refine rg hx (by kernel_rfl) fun K hK => ?_
  obtain ⟨x49, hx50, h⟩ := bnd_some h
  refine s1 (d := dB x49) (T_call rfl (w_law42_sanity hx50) rfl lAn (.inl rfl)) ?_
  refine s1 T_mv ?_
  rcases Bool.eq_false_or_eq_true x49 with hb51 | hb51
  replace h := cnd_t hb51 h
  refine g1 hb51 (T_iaK (n0 := 0) (n := 2) (v := (0 : Int)) rfl (by decide) tb_69 tb_68) ?_
  refine g1 hb51 (T_faP tb_68 tb_22) ?_
  refine g1 (d := dL cS a27e0_0.vgot) hb51 (T_ldC tb_22) ?_
  refine g1 hb51 (T_iaK (n0 := 1) (n := 2) (v := (1 : Int)) rfl (by decide) tb_69 tb_68) ?_
  refine g1 hb51 (T_faP tb_68 tb_22) ?_
  refine g1 (d := dL cS a27e0_1.vsent) hb51 (T_ldC tb_22) ?_
  obtain ⟨x52, hx53, h⟩ := bnd_some h
  refine g1 (d := dB x52) hb51 (T_call rfl (w_ref01_SameTexts hx53) rfl (lA (le_refl' _) (lA (le_refl' _) lAn)) (.inl rfl)) ?_
  refine s1 (d := dB x52) (T_pickT hb51) ?_
  refine s1 T_mv ?_
  rcases Bool.eq_false_or_eq_true x52 with hb54 | hb54
  replace h := cnd_t hb54 h
  refine g1 hb54 (T_iaK (n0 := 1) (n := 2) (v := (1 : Int)) rfl (by decide) tb_69 tb_68) ?_
  refine g1 hb54 (T_faP tb_68 tb_22) ?_
  refine g1 (d := dL cS a27e0_1.vgot) hb54 (T_ldC tb_22) ?_
  refine g1 hb54 (T_iaK (n0 := 0) (n := 2) (v := (0 : Int)) rfl (by decide) tb_69 tb_68) ?_
  refine g1 hb54 (T_faP tb_68 tb_22) ?_
  refine g1 (d := dL cS a27e0_0.vsent) hb54 (T_ldC tb_22) ?_
  obtain ⟨x55, hx56, h⟩ := bnd_some h
  refine g1 (d := dB x55) hb54 (T_call rfl (w_ref01_SameTexts hx56) rfl (lA (le_refl' _) (lA (le_refl' _) lAn)) (.inl rfl)) ?_
  refine s1 (d := dB x55) (T_pickT hb54) ?_
  refine s1 T_mv ?_
  rcases Bool.eq_false_or_eq_true x55 with hb57 | hb57
  replace h := cnd_t hb57 h
  refine g1 hb57 (T_iaK (n0 := 0) (n := 2) (v := (0 : Int)) rfl (by decide) tb_69 tb_68) ?_
  refine g1 hb57 (T_faP tb_68 tb_25) ?_
  refine g1 (d := dG c_End a27e0_0.vx) hb57 (T_ldA tb_25) ?_
  obtain ⟨x58, hx59, h⟩ := bnd_some h
  refine g1 (d := dB x58) hb57 (T_call rfl (w_link_Idle hx59) (by simp only [List.map_cons, List.map_nil, List.all_cons, List.all_nil, Bool.and_true, Bool.and_eq_true]; exact pure_ex_G _ _) (lA (le_refl' _) lAn) (.inl rfl)) ?_
  refine s1 (d := dB x58) (T_pickT hb57) ?_
  refine s1 T_mv ?_
  rcases Bool.eq_false_or_eq_true x58 with hb60 | hb60
  replace h := cnd_t hb60 h
  refine g1 hb60 (T_iaK (n0 := 1) (n := 2) (v := (1 : Int)) rfl (by decide) tb_69 tb_68) ?_
  refine g1 hb60 (T_faP tb_68 tb_25) ?_
  refine g1 (d := dG c_End a27e0_1.vx) hb60 (T_ldA tb_25) ?_
  obtain ⟨x61, hx62, h⟩ := bnd_some h
  refine g1 (d := dB x61) hb60 (T_call rfl (w_link_Idle hx62) (by simp only [List.map_cons, List.map_nil, List.all_cons, List.all_nil, Bool.and_true, Bool.and_eq_true]; exact pure_ex_G _ _) (lA (le_refl' _) lAn) (.inl rfl)) ?_
  refine s1 (d := dB x61) (T_pickT hb60) ?_
  refine s1 T_as ?_
  refine .nil (hK _ _ ?_)
  obtain rfl := Option.some.inj h
  exact PE.i (wk h0 [] (wR rfl wTn) wVn wLn)
  replace h := cnd_f hb60 h
  iterate 4 refine no_t rfl rfl hb60 ?_
  refine s1 (d := dB false) (T_pickF hb60) ?_
  refine s1 T_as ?_
  refine .nil (hK _ _ ?_)
  obtain rfl := Option.some.inj h
  exact PE.i (wk h0 [] (wR rfl wTn) wVn wLn)
  replace h := cnd_f hb57 h
  iterate 4 refine no_t rfl rfl hb57 ?_
  refine s1 (d := dB false) (T_pickF hb57) ?_
  refine s1 T_mv ?_
  iterate 4 refine no_t rfl rfl rfl ?_
  refine s1 (d := dB false) (T_pickF rfl) ?_
  refine s1 T_as ?_
  refine .nil (hK _ _ ?_)
  obtain rfl := Option.some.inj h
  exact PE.i (wk h0 [] (wR rfl wTn) wVn wLn)
  replace h := cnd_f hb54 h
  iterate 7 refine no_t rfl rfl hb54 ?_
  refine s1 (d := dB false) (T_pickF hb54) ?_
  refine s1 T_mv ?_
  iterate 4 refine no_t rfl rfl rfl ?_
  refine s1 (d := dB false) (T_pickF rfl) ?_
  refine s1 T_mv ?_
  iterate 4 refine no_t rfl rfl rfl ?_
  refine s1 (d := dB false) (T_pickF rfl) ?_
  refine s1 T_as ?_
  refine .nil (hK _ _ ?_)
  obtain rfl := Option.some.inj h
  exact PE.i (wk h0 [] (wR rfl wTn) wVn wLn)
  replace h := cnd_f hb51 h
  iterate 7 refine no_t rfl rfl hb51 ?_
  refine s1 (d := dB false) (T_pickF hb51) ?_
  refine s1 T_mv ?_
  iterate 7 refine no_t rfl rfl rfl ?_
  refine s1 (d := dB false) (T_pickF rfl) ?_
  refine s1 T_mv ?_
  iterate 4 refine no_t rfl rfl rfl ?_
  refine s1 (d := dB false) (T_pickF rfl) ?_
  refine s1 T_mv ?_
  iterate 4 refine no_t rfl rfl rfl ?_
  refine s1 (d := dB false) (T_pickF rfl) ?_
  refine s1 T_as ?_
  refine .nil (hK _ _ ?_)
  obtain rfl := Option.some.inj h
  exact PE.i (wk h0 [] (wR rfl wTn) wVn wLn)
  rintro ex tm' hp' ⟨rfl, hw⟩
  refine AW.weak hw ?_
  refine AW.ret ?_
  obtain rfl := Option.some.inj h
  exact RetV.mk1 (resD_t rfl (.inr (.inr ⟨_, (le_refl' _), rfl, rfl⟩)))
end Go.Proofs.Ytakbadleipbngaa
