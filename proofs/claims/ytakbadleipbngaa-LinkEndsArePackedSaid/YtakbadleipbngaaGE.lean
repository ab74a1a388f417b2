/-
  What functions compute, read off the program's code (written by a program of mine). Conditions: none.
-/
import Derived.Test.YtakbadleipbngaaGC
set_option linter.all false
namespace Go.Proofs.Ytakbadleipbngaa
open Go.RowKit
noncomputable def g_law42_LinkEndsArePacked (p_x : S_End) (p_b : List Int) : Option Bool := bnd (g_ref42_Few p_x) fun x1 => bnd (S := Bool) (cnd (!x1) (bnd (g_ref42_Check p_x) fun x4 => cnd (decide (x4 = (0 : Int))) (some (true)) (cnd (decide ((20000 : Int) < ((p_b).length : Int))) (some (true)) (cnd (decide ((100 : Int) < ((p_x.vQueue).length : Int))) (some (true)) (some (decide ((100 : Int) < ((p_x.vHeld).length : Int))))))) (cnd (decide ((20000 : Int) < ((p_b).length : Int))) (some (true)) (cnd (decide ((100 : Int) < ((p_x.vQueue).length : Int))) (some (true)) (some (decide ((100 : Int) < ((p_x.vHeld).length : Int))))))) fun a7_0 => cnd a7_0 (bnd (g_law42_sanity) fun x13 => some x13) (bnd (g_link_Pack p_x) fun x15 => bnd (g_ref42_Pack p_x) fun x17 => bnd (S := Bool) (cnd (decide (x15.2 ≠ x17.vE)) (some (true)) (bnd (g_ref01_Same x15.1 x17.vB) fun x20 => some (!x20))) fun a19_0 => cnd a19_0 (some false) (bnd (S := Unit ⊕ Bool) (cnd (decide (x15.2 = (0 : Int))) (bnd (g_link_Unpack x15.1) fun x25 => bnd (S := Bool) (cnd (decide (x25.2 ≠ (0 : Int))) (some (true)) (bnd (g_ref42_Same p_x x25.1) fun x28 => some (!x28))) fun a32_0 => cnd a32_0 (some (.inr false)) (some (.inl ()))) (some (.inl ()))) fun y32 => match y32 with | .inl () => bnd (g_link_Unpack p_b) fun x33 => cnd (decide (x33.2 ≠ (0 : Int))) (bnd (S := Bool) (bnd (g_law42_sanity) fun x36 => cnd x36 (cnd (decide (x33.2 = (11 : Int))) (bnd (g_ref42_Same x33.1 (⟨(0 : Int), ([] : List ByteArray), (0 : Int), ([] : List S_Held)⟩ : S_End)) fun x40 => some (x40)) (some (false))) (some (false))) fun a46_0 => some a46_0) (bnd (g_ref42_Pack x33.1) fun x43 => bnd (S := Bool) (bnd (g_law42_sanity) fun x45 => cnd x45 (cnd (decide (x43.vE = (0 : Int))) (bnd (g_ref01_Same x43.vB p_b) fun x49 => some (x49)) (some (false))) (some (false))) fun a52_0 => some a52_0) | .inr r => some r))
theorem w_law42_LinkEndsArePacked {p_x : S_End} {p_b : List Int} {r : Bool} (h : g_law42_LinkEndsArePacked p_x p_b = some r) : PCalls Try.prog 5 [dG c_End p_x, dL (cI .u8) p_b] (dB r) := by
  refine PCalls.of (rs := [.tmp 4]) tok Try.func5 rfl rfl (Nat.le_of_ble_eq_true rfl) rfl (fun cx hx h0 => ?_)
  simp only [argsT, Nat.reduceAdd, Nat.zero_add]
  unfold g_law42_LinkEndsArePacked at h
  refine AW.seq ?_
  refine rg hx (by kernel_rfl) fun K hK => ?_
  refine s1 (d := .pt 0 0) T_box ?_
  refine s1 (d := dB false) T_asg ?_
  refine .nil (hK _ _ ?_)
  refine AW.seq ?_
  refine rg hx (by kernel_rfl) fun K hK => ?_
  refine s1 (d := dG c_End p_x) (T_ldA tb_25) ?_
  obtain ⟨x1, hx2, h⟩ := bnd_some h
  refine s1 (d := dB x1) (T_call rfl (w_ref42_Few hx2) (by simp only [List.map_cons, List.map_nil, List.all_cons, List.all_nil, Bool.and_true, Bool.and_eq_true]; exact pure_ex_G _ _) (lA (le_refl' _) lAn) (.inl rfl)) ?_
  refine s1 T_as ?_
  refine .nil (hK _ _ ?_)
  iterate 2 refine AW.seq ?_
  obtain ⟨a7_0, hy, h⟩ := bnd_some h
  refine jn ((PE cx .normal (fun a7_0 => [(1, dL (cI .u8) p_b), (2, .pt 0 0), (39, dB a7_0)]) fun a7_0 => ⟨[(0, [dI .i64 p_x.vBase, dL cS p_x.vQueue, dI .i64 p_x.vWant, dL c_Held p_x.vHeld])], [], 1⟩) a7_0) ?_ ?_
  replace h := hy
  refine rg hx (by kernel_rfl) fun K hK => ?_
  refine s1 T_mv ?_
  refine s1 T_not ?_
  refine s1 T_mv ?_
  rcases Bool.eq_false_or_eq_true (!x1) with hb3 | hb3
  replace h := cnd_t hb3 h
  refine g1 (d := dG c_End p_x) hb3 (T_ldA tb_25) ?_
  obtain ⟨x4, hx5, h⟩ := bnd_some h
  refine g1 (d := dI .i64 x4) hb3 (T_call rfl (w_ref42_Check hx5) (by simp only [List.map_cons, List.map_nil, List.all_cons, List.all_nil, Bool.and_true, Bool.and_eq_true]; exact pure_ex_G _ _) (lA (le_refl' _) lAn) (.inl rfl)) ?_
  refine g1 hb3 T_eql ?_
  refine s1 (d := dB (decide (x4 = (0 : Int)))) (T_pickT hb3) ?_
  refine s1 T_mv ?_
  rcases Bool.eq_false_or_eq_true (decide (x4 = (0 : Int))) with hb6 | hb6
  replace h := cnd_t hb6 h
  iterate 3 refine no_t rfl rfl hb6 ?_
  refine s1 (d := dB true) (T_pickT hb6) ?_
  refine s1 T_mv ?_
  iterate 4 refine no_t rfl rfl rfl ?_
  refine s1 (d := dB true) (T_pickT rfl) ?_
  refine s1 T_mv ?_
  iterate 4 refine no_t rfl rfl rfl ?_
  refine s1 (d := dB true) (T_pickT rfl) ?_
  refine .nil (hK _ _ ?_)
  obtain rfl := Option.some.inj h
  exact PE.i (wk h0 [0] (wR rfl (wR rfl (wR rfl wTn))) (vR rfl wVn) wLn)
  replace h := cnd_f hb6 h
  refine g1 hb6 T_mv ?_
  refine g1 (d := dI .i64 ((p_b).length : Int)) hb6 (T_len tb_58 tb_5) ?_
  refine g1 hb6 T_gtr ?_
  refine s1 (d := dB (decide ((20000 : Int) < ((p_b).length : Int)))) (T_pickF hb6) ?_
  refine s1 T_mv ?_
  rcases Bool.eq_false_or_eq_true (decide ((20000 : Int) < ((p_b).length : Int))) with hb7 | hb7
  replace h := cnd_t hb7 h
  iterate 4 refine no_t rfl rfl hb7 ?_
  refine s1 (d := dB true) (T_pickT hb7) ?_
  refine s1 T_mv ?_
  iterate 4 refine no_t rfl rfl rfl ?_
  refine s1 (d := dB true) (T_pickT rfl) ?_
  refine .nil (hK _ _ ?_)
  obtain rfl := Option.some.inj h
  exact PE.i (wk h0 [0] (wR rfl (wR rfl (wR rfl wTn))) (vR rfl wVn) wLn)
  replace h := cnd_f hb7 h
  refine g1 hb7 (T_faP tb_25 tb_22) ?_
  refine g1 (d := dL cS p_x.vQueue) hb7 (T_ldC tb_22) ?_
  refine g1 (d := dI .i64 ((p_x.vQueue).length : Int)) hb7 (T_len tb_22 tb_9) ?_
  refine g1 hb7 T_gtr ?_
  refine s1 (d := dB (decide ((100 : Int) < ((p_x.vQueue).length : Int)))) (T_pickF hb7) ?_
  refine s1 T_mv ?_
  rcases Bool.eq_false_or_eq_true (decide ((100 : Int) < ((p_x.vQueue).length : Int))) with hb8 | hb8
  replace h := cnd_t hb8 h
  iterate 4 refine no_t rfl rfl hb8 ?_
  refine s1 (d := dB true) (T_pickT hb8) ?_
  refine .nil (hK _ _ ?_)
  obtain rfl := Option.some.inj h
  exact PE.i (wk h0 [0] (wR rfl (wR rfl (wR rfl wTn))) (vR rfl wVn) wLn)
  replace h := cnd_f hb8 h
  refine g1 hb8 (T_faP tb_25 tb_23) ?_
  refine g1 (d := dL c_Held p_x.vHeld) hb8 (T_ldC tb_23) ?_
  refine g1 (d := dI .i64 ((p_x.vHeld).length : Int)) hb8 (T_len tb_23 tb_74) ?_
  refine g1 hb8 T_gtr ?_
  refine s1 (d := dB (decide ((100 : Int) < ((p_x.vHeld).length : Int)))) (T_pickF hb8) ?_
  refine .nil (hK _ _ ?_)
  obtain rfl := Option.some.inj h
  exact PE.i (wk h0 [0] (wR rfl (wR rfl (wR rfl wTn))) (vR rfl wVn) wLn)
  replace h := cnd_f hb3 h
  iterate 3 refine no_t rfl rfl hb3 ?_
  refine s1 (d := dB false) (T_pickF hb3) ?_
  refine s1 T_mv ?_
  refine g1 rfl T_mv ?_
  refine g1 (d := dI .i64 ((p_b).length : Int)) rfl (T_len tb_58 tb_5) ?_
  refine g1 rfl T_gtr ?_
  refine s1 (d := dB (decide ((20000 : Int) < ((p_b).length : Int)))) (T_pickF rfl) ?_
  refine s1 T_mv ?_
  rcases Bool.eq_false_or_eq_true (decide ((20000 : Int) < ((p_b).length : Int))) with hb9 | hb9
  replace h := cnd_t hb9 h
  iterate 4 refine no_t rfl rfl hb9 ?_
  refine s1 (d := dB true) (T_pickT hb9) ?_
  refine s1 T_mv ?_
  iterate 4 refine no_t rfl rfl rfl ?_
  refine s1 (d := dB true) (T_pickT rfl) ?_
  refine .nil (hK _ _ ?_)
  obtain rfl := Option.some.inj h
  exact PE.i (wk h0 [0] (wR rfl (wR rfl (wR rfl wTn))) (vR rfl wVn) wLn)
  replace h := cnd_f hb9 h
  refine g1 hb9 (T_faP tb_25 tb_22) ?_
  refine g1 (d := dL cS p_x.vQueue) hb9 (T_ldC tb_22) ?_
  refine g1 (d := dI .i64 ((p_x.vQueue).length : Int)) hb9 (T_len tb_22 tb_9) ?_
  refine g1 hb9 T_gtr ?_
  refine s1 (d := dB (decide ((100 : Int) < ((p_x.vQueue).length : Int)))) (T_pickF hb9) ?_
  refine s1 T_mv ?_
  rcases Bool.eq_false_or_eq_true (decide ((100 : Int) < ((p_x.vQueue).length : Int))) with hb10 | hb10
  replace h := cnd_t hb10 h
  iterate 4 refine no_t rfl rfl hb10 ?_
  refine s1 (d := dB true) (T_pickT hb10) ?_
  refine .nil (hK _ _ ?_)
  obtain rfl := Option.some.inj h
  exact PE.i (wk h0 [0] (wR rfl (wR rfl (wR rfl wTn))) (vR rfl wVn) wLn)
  replace h := cnd_f hb10 h
  refine g1 hb10 (T_faP tb_25 tb_23) ?_
  refine g1 (d := dL c_Held p_x.vHeld) hb10 (T_ldC tb_23) ?_
  refine g1 (d := dI .i64 ((p_x.vHeld).length : Int)) hb10 (T_len tb_23 tb_74) ?_
  refine g1 hb10 T_gtr ?_
  refine s1 (d := dB (decide ((100 : Int) < ((p_x.vHeld).length : Int)))) (T_pickF hb10) ?_
  refine .nil (hK _ _ ?_)
  obtain rfl := Option.some.inj h
  exact PE.i (wk h0 [0] (wR rfl (wR rfl (wR rfl wTn))) (vR rfl wVn) wLn)
  rintro ex tm' hp' ⟨rfl, hw⟩
  refine AW.weak hw ?_
  refine AW.condS rfl (fun hb12 => ?_) (fun hb12 => ?_)
  replace h := cnd_t hb12 h
  refine AW.seq ?_
  refine rg hx (by kernel_rfl) fun K hK => ?_
  obtain ⟨x13, hx14, h⟩ := bnd_some h
  refine s1 (d := dB x13) (T_call rfl (w_law42_sanity hx14) rfl lAn (.inl rfl)) ?_
  refine s1 T_as ?_
  refine .nil (hK _ _ ?_)
  refine AW.ret ?_
  obtain rfl := Option.some.inj h
  exact RetV.mk1 (resD_t rfl (.inr (.inr ⟨_, (le_refl' _), rfl, rfl⟩)))
  replace h := cnd_f hb12 h
  refine AW.skip ?_
  refine AW.seq ?_
  refine rg hx (by kernel_rfl) fun K hK => ?_
  refine s1 (d := dG c_End p_x) (T_ldA tb_25) ?_
  obtain ⟨x15, hx16, h⟩ := bnd_some h
  refine s1 (T_call rfl (w_link_Pack hx16) (by simp only [List.map_cons, List.map_nil, List.all_cons, List.all_nil, Bool.and_true, Bool.and_eq_true]; exact pure_ex_G _ _) (lA (le_refl' _) lAn) (.inr ⟨_, rfl⟩)) ?_
  refine s1 T_mv ?_
  iterate 2 refine s1 T_ext ?_
  iterate 2 refine s1 T_as ?_
  refine .nil (hK _ _ ?_)
  refine AW.seq ?_
  refine rg hx (by kernel_rfl) fun K hK => ?_
  refine s1 (d := dG c_End p_x) (T_ldA tb_25) ?_
  obtain ⟨x17, hx18, h⟩ := bnd_some h
  refine s1 (d := dG c_Bytes x17) (T_call rfl (w_ref42_Pack hx18) (by simp only [List.map_cons, List.map_nil, List.all_cons, List.all_nil, Bool.and_true, Bool.and_eq_true]; exact pure_ex_G _ _) (lA (le_refl' _) lAn) (.inl (pure_G _ _))) ?_
  refine s1 (d := .pt 1 0) (T_alloc tb_62) ?_
  refine s0 (T_st (ds' := [dL (cI .u8) x17.vB, dI .i64 x17.vE]) tb_62) ?_
  refine .nil (hK _ _ ?_)
  iterate 2 refine AW.seq ?_
  obtain ⟨a19_0, hy, h⟩ := bnd_some h
  refine jn ((PE cx .normal (fun a19_0 => [(1, dL (cI .u8) p_b), (2, .pt 0 0), (6, dL (cI .u8) x15.1), (7, dI .i64 x15.2), (58, dB a19_0)]) fun a19_0 => ⟨[(0, [dI .i64 p_x.vBase, dL cS p_x.vQueue, dI .i64 p_x.vWant, dL c_Held p_x.vHeld])], [], 1⟩) a19_0) ?_ ?_
  replace h := hy
  refine rg hx (by kernel_rfl) fun K hK => ?_
  refine s1 T_mv ?_
  refine s1 (T_faP tb_62 tb_29) ?_
  refine s1 (d := dI .i64 x17.vE) (T_ldC tb_29) ?_
  refine s1 T_neq ?_
  refine s1 T_mv ?_
  rcases Bool.eq_false_or_eq_true (decide (x15.2 ≠ x17.vE)) with hb19 | hb19
  replace h := cnd_t hb19 h
  iterate 5 refine no_t rfl rfl hb19 ?_
  refine s1 (d := dB true) (T_pickT hb19) ?_
  refine .nil (hK _ _ ?_)
  obtain rfl := Option.some.inj h
  exact PE.i (wk h0 [0] (wR rfl (wR rfl (wR rfl (wR rfl (wR rfl wTn))))) (vR rfl wVn) wLn)
  replace h := cnd_f hb19 h
  refine g1 hb19 T_mv ?_
  refine g1 hb19 (T_faP tb_62 tb_58) ?_
  refine g1 (d := dL (cI .u8) x17.vB) hb19 (T_ldC tb_58) ?_
  obtain ⟨x20, hx21, h⟩ := bnd_some h
  refine g1 (d := dB x20) hb19 (T_call rfl (w_ref01_Same hx21) rfl (lA (le_refl' _) (lA (le_refl' _) lAn)) (.inl rfl)) ?_
  refine g1 hb19 T_not ?_
  refine s1 (d := dB (!x20)) (T_pickF hb19) ?_
  refine .nil (hK _ _ ?_)
  obtain rfl := Option.some.inj h
  exact PE.i (wk h0 [0] (wR rfl (wR rfl (wR rfl (wR rfl (wR rfl wTn))))) (vR rfl wVn) wLn)
  rintro ex tm' hp' ⟨rfl, hw⟩
  refine AW.weak hw ?_
  refine AW.condS rfl (fun hb23 => ?_) (fun hb23 => ?_)
  replace h := cnd_t hb23 h
  refine AW.seq ?_
  refine rg hx (by kernel_rfl) fun K hK => ?_
  refine s1 (d := dB false) T_asg ?_
  refine .nil (hK _ _ ?_)
  refine AW.ret ?_
  obtain rfl := Option.some.inj h
  exact RetV.mk1 (resD_t rfl (.inr (.inr ⟨_, (le_refl' _), rfl, rfl⟩)))
  replace h := cnd_f hb23 h
  refine AW.skip ?_
  refine AW.seq ?_
  obtain ⟨y, hy, h⟩ := bnd_some h
  refine jn ((PS (PE cx .normal (fun () => [(1, dL (cI .u8) p_b)]) fun () => ⟨[], [], 0⟩) (PR [.tmp 4] fun r => dB r)) y) ?_ ?_
  replace h := hy
  refine AW.seq ?_
  refine rg hx (by kernel_rfl) fun K hK => ?_
  refine s1 T_mv ?_
  refine s1 T_eql ?_
  refine .nil (hK _ _ ?_)
  refine AW.condS rfl (fun hb24 => ?_) (fun hb24 => ?_)
  replace h := cnd_t hb24 h
  refine AW.seq ?_
  refine rg hx (by kernel_rfl) fun K hK => ?_
  refine s1 T_mv ?_
  obtain ⟨x25, hx26, h⟩ := bnd_some h
  refine s1 (T_call rfl (w_link_Unpack hx26) rfl (lA (le_refl' _) lAn) (.inr ⟨_, rfl⟩)) ?_
  refine s1 T_mv ?_
  iterate 2 refine s1 T_ext ?_
  refine s1 (d := .pt 1 0) (T_alloc tb_25) ?_
  refine s0 (T_st (ds' := [dI .i64 x25.1.vBase, dL cS x25.1.vQueue, dI .i64 x25.1.vWant, dL c_Held x25.1.vHeld]) tb_25) ?_
  refine s1 T_as ?_
  refine .nil (hK _ _ ?_)
  refine AW.seq ?_
  obtain ⟨a32_0, hy, h⟩ := bnd_some h
  refine jn ((PE cx .normal (fun a32_0 => [(1, dL (cI .u8) p_b), (73, dB a32_0)]) fun a32_0 => ⟨[], [], 0⟩) a32_0) ?_ ?_
  replace h := hy
  refine rg hx (by kernel_rfl) fun K hK => ?_
  refine s1 T_mv ?_
  refine s1 T_neq ?_
  refine s1 T_mv ?_
  rcases Bool.eq_false_or_eq_true (decide (x25.2 ≠ (0 : Int))) with hb27 | hb27
  replace h := cnd_t hb27 h
  iterate 4 refine no_t rfl rfl hb27 ?_
  refine s1 (d := dB true) (T_pickT hb27) ?_
  refine .nil (hK _ _ ?_)
  obtain rfl := Option.some.inj h
  exact PE.i (wk h0 [] (wR rfl (wR rfl wTn)) wVn wLn)
  replace h := cnd_f hb27 h
  refine g1 (d := dG c_End p_x) hb27 (T_ldA tb_25) ?_
  refine g1 (d := dG c_End x25.1) hb27 (T_ldA tb_25) ?_
  obtain ⟨x28, hx29, h⟩ := bnd_some h
  refine g1 (d := dB x28) hb27 (T_call rfl (w_ref42_Same hx29) (by simp only [List.map_cons, List.map_nil, List.all_cons, List.all_nil, Bool.and_true, Bool.and_eq_true]; exact ⟨pure_ex_G _ _, pure_ex_G _ _⟩) (lA (le_refl' _) (lA (le_refl' _) lAn)) (.inl rfl)) ?_
  refine g1 hb27 T_not ?_
  refine s1 (d := dB (!x28)) (T_pickF hb27) ?_
  refine .nil (hK _ _ ?_)
  obtain rfl := Option.some.inj h
  exact PE.i (wk h0 [] (wR rfl (wR rfl wTn)) wVn wLn)
  rintro ex tm' hp' ⟨rfl, hw⟩
  refine AW.weak hw ?_
  refine AW.condS rfl (fun hb31 => ?_) (fun hb31 => ?_)
  replace h := cnd_t hb31 h
  refine AW.seq ?_
  refine rg hx (by kernel_rfl) fun K hK => ?_
  refine s1 (d := dB false) T_asg ?_
  refine .nil (hK _ _ ?_)
  refine AW.ret ?_
  obtain rfl := Option.some.inj h
  refine PS.r (PR.i ?_)
  exact RetV.mk1 (resD_t rfl (.inr (.inr ⟨_, (le_refl' _), rfl, rfl⟩)))
  replace h := cnd_f hb31 h
  refine AW.skip ?_
  obtain rfl := Option.some.inj h
  exact PS.l (PE.i (wk h0 [] (wR rfl wTn) wVn wLn))
  replace h := cnd_f hb24 h
  refine AW.skip ?_
  obtain rfl := Option.some.inj h
  exact PS.l (PE.i (wk h0 [] (wR rfl wTn) wVn wLn))
  rcases y with ⟨⟩ | r
  rintro ex tm' hp' ⟨rfl, hw⟩
  refine AW.weak hw ?_
  refine AW.seq ?_
  refine rg hx (by kernel_rfl) fun K hK => ?_
  refine s1 T_mv ?_
  obtain ⟨x33, hx34, h⟩ := bnd_some h
  refine s1 (T_call rfl (w_link_Unpack hx34) rfl (lA (le_refl' _) lAn) (.inr ⟨_, rfl⟩)) ?_
  refine s1 T_mv ?_
  iterate 2 refine s1 T_ext ?_
  refine s1 (d := .pt 0 0) (T_alloc tb_25) ?_
  refine s0 (T_st (ds' := [dI .i64 x33.1.vBase, dL cS x33.1.vQueue, dI .i64 x33.1.vWant, dL c_Held x33.1.vHeld]) tb_25) ?_
  refine s1 T_as ?_
  refine .nil (hK _ _ ?_)
  iterate 2 refine AW.seq ?_
  refine rg hx (by kernel_rfl) fun K hK => ?_
  refine s1 T_mv ?_
  refine s1 T_neq ?_
  refine .nil (hK _ _ ?_)
  refine AW.condS rfl (fun hb35 => ?_) (fun hb35 => ?_)
  replace h := cnd_t hb35 h
  refine AW.seq ?_
  obtain ⟨a46_0, hy, h⟩ := bnd_some h
  refine jn ((PE cx .normal (fun a46_0 => [(4, dB a46_0)]) fun a46_0 => ⟨[], [], 0⟩) a46_0) ?_ ?_
  replace h := hy
  refine rg hx (by kernel_rfl) fun K hK => ?_
  obtain ⟨x36, hx37, h⟩ := bnd_some h
  refine s1 (d := dB x36) (T_call rfl (w_law42_sanity hx37) rfl lAn (.inl rfl)) ?_
  refine s1 T_mv ?_
  rcases Bool.eq_false_or_eq_true x36 with hb38 | hb38
  replace h := cnd_t hb38 h
  refine g1 hb38 T_mv ?_
  refine g1 hb38 T_eql ?_
  refine s1 (d := dB (decide (x33.2 = (11 : Int)))) (T_pickT hb38) ?_
  refine s1 T_mv ?_
  rcases Bool.eq_false_or_eq_true (decide (x33.2 = (11 : Int))) with hb39 | hb39
  replace h := cnd_t hb39 h
  refine g1 (d := dG c_End x33.1) hb39 (T_ldA tb_25) ?_
  refine g1 (d := .ag [dI .i64 (0 : Int), dN, dI .i64 (0 : Int), dN]) hb39 (T_build tb_25) ?_
  obtain ⟨x40, hx41, h⟩ := bnd_some h
  refine g1 (d := dB x40) hb39 (T_call rfl (w_ref42_Same hx41) (by simp only [List.map_cons, List.map_nil, List.all_cons, List.all_nil, Bool.and_true, Bool.and_eq_true]; exact ⟨pure_ex_G _ _, rfl⟩) (lA (le_refl' _) (lA (le_ag (wc (lc_r _) (wc (lc_n rfl) (wc (lc_r _) (wc (lc_n rfl) wcn))))) lAn)) (.inl rfl)) ?_
  refine s1 (d := dB x40) (T_pickT hb39) ?_
  refine s1 T_as ?_
  refine .nil (hK _ _ ?_)
  obtain rfl := Option.some.inj h
  exact PE.i (wk h0 [] (wR rfl wTn) wVn wLn)
  replace h := cnd_f hb39 h
  iterate 3 refine no_t rfl rfl hb39 ?_
  refine s1 (d := dB false) (T_pickF hb39) ?_
  refine s1 T_as ?_
  refine .nil (hK _ _ ?_)
  obtain rfl := Option.some.inj h
  exact PE.i (wk h0 [] (wR rfl wTn) wVn wLn)
  replace h := cnd_f hb38 h
  iterate 2 refine no_t rfl rfl hb38 ?_
  refine s1 (d := dB false) (T_pickF hb38) ?_
  refine s1 T_mv ?_
  iterate 3 refine no_t rfl rfl rfl ?_
  refine s1 (d := dB false) (T_pickF rfl) ?_
  refine s1 T_as ?_
  refine .nil (hK _ _ ?_)
  obtain rfl := Option.some.inj h
  exact PE.i (wk h0 [] (wR rfl wTn) wVn wLn)
  rintro ex tm' hp' ⟨rfl, hw⟩
  refine AW.weak hw ?_
  refine AW.ret ?_
  obtain rfl := Option.some.inj h
  exact RetV.mk1 (resD_t rfl (.inr (.inr ⟨_, (le_refl' _), rfl, rfl⟩)))
  replace h := cnd_f hb35 h
  refine AW.skip ?_
  refine AW.seq ?_
  refine rg hx (by kernel_rfl) fun K hK => ?_
  refine s1 (d := dG c_End x33.1) (T_ldA tb_25) ?_
  obtain ⟨x43, hx44, h⟩ := bnd_some h
  refine s1 (d := dG c_Bytes x43) (T_call rfl (w_ref42_Pack hx44) (by simp only [List.map_cons, List.map_nil, List.all_cons, List.all_nil, Bool.and_true, Bool.and_eq_true]; exact pure_ex_G _ _) (lA (le_refl' _) lAn) (.inl (pure_G _ _))) ?_
  refine s1 (d := .pt 1 0) (T_alloc tb_62) ?_
  refine s0 (T_st (ds' := [dL (cI .u8) x43.vB, dI .i64 x43.vE]) tb_62) ?_
  refine .nil (hK _ _ ?_)
  refine AW.seq ?_
  obtain ⟨a52_0, hy, h⟩ := bnd_some h
  refine jn ((PE cx .normal (fun a52_0 => [(4, dB a52_0)]) fun a52_0 => ⟨[], [], 0⟩) a52_0) ?_ ?_
  replace h := hy
  refine rg hx (by kernel_rfl) fun K hK => ?_
  obtain ⟨x45, hx46, h⟩ := bnd_some h
  refine s1 (d := dB x45) (T_call rfl (w_law42_sanity hx46) rfl lAn (.inl rfl)) ?_
  refine s1 T_mv ?_
  rcases Bool.eq_false_or_eq_true x45 with hb47 | hb47
  replace h := cnd_t hb47 h
  refine g1 hb47 (T_faP tb_62 tb_29) ?_
  refine g1 (d := dI .i64 x43.vE) hb47 (T_ldC tb_29) ?_
  refine g1 hb47 T_eql ?_
  refine s1 (d := dB (decide (x43.vE = (0 : Int)))) (T_pickT hb47) ?_
  refine s1 T_mv ?_
  rcases Bool.eq_false_or_eq_true (decide (x43.vE = (0 : Int))) with hb48 | hb48
  replace h := cnd_t hb48 h
  refine g1 hb48 (T_faP tb_62 tb_58) ?_
  refine g1 (d := dL (cI .u8) x43.vB) hb48 (T_ldC tb_58) ?_
  refine g1 hb48 T_mv ?_
  obtain ⟨x49, hx50, h⟩ := bnd_some h
  refine g1 (d := dB x49) hb48 (T_call rfl (w_ref01_Same hx50) rfl (lA (le_refl' _) (lA (le_refl' _) lAn)) (.inl rfl)) ?_
  refine s1 (d := dB x49) (T_pickT hb48) ?_
  refine s1 T_as ?_
  refine .nil (hK _ _ ?_)
  obtain rfl := Option.some.inj h
  exact PE.i (wk h0 [] (wR rfl wTn) wVn wLn)
  replace h := cnd_f hb48 h
  iterate 4 refine no_t rfl rfl hb48 ?_
  refine s1 (d := dB false) (T_pickF hb48) ?_
  refine s1 T_as ?_
  refine .nil (hK _ _ ?_)
  obtain rfl := Option.some.inj h
  exact PE.i (wk h0 [] (wR rfl wTn) wVn wLn)
  replace h := cnd_f hb47 h
  iterate 3 refine no_t rfl rfl hb47 ?_
  refine s1 (d := dB false) (T_pickF hb47) ?_
  refine s1 T_mv ?_
  iterate 4 refine no_t rfl rfl rfl ?_
  refine s1 (d := dB false) (T_pickF rfl) ?_
  refine s1 T_as ?_
  refine .nil (hK _ _ ?_)
  obtain rfl := Option.some.inj h
  exact PE.i (wk h0 [] (wR rfl wTn) wVn wLn)
  rintro ex tm' hp' ⟨rfl, hw⟩
  refine AW.weak hw ?_
  refine AW.ret ?_
  obtain rfl := Option.some.inj h
  exact RetV.mk1 (resD_t rfl (.inr (.inr ⟨_, (le_refl' _), rfl, rfl⟩)))
  rintro ex tm' hp' ⟨rfl, hw⟩
  obtain rfl := Option.some.inj h
  exact hw
end Go.Proofs.Ytakbadleipbngaa
