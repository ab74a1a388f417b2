/-
  What functions compute, read off the program's code (written by a program of mine). Conditions: none.
-/
import Derived.Test.YtakbadleipbngaaGX
set_option linter.all false
namespace Go.Proofs.Ytakbadleipbngaa
open Go.RowKit
noncomputable def g_law42_sanity  : Option Bool := bnd (g_link_New) fun x1 => bnd (g_link_New) fun x3 => bnd (g_link_Send (⟨x1.vBase, ([] : List ByteArray), x1.vWant, ([] : List S_Held)⟩ : S_End) (⟨#[97]⟩ : ByteArray)) fun x5 => bnd (g_link_Send x5.1 (⟨#[98]⟩ : ByteArray)) fun x7 => bnd (g_link_Send x7.1 (⟨#[99]⟩ : ByteArray)) fun x9 => bnd (S := Bool) (cnd (decide (x5.2 ≠ (0 : Int))) (some (true)) (cnd (decide (x7.2 ≠ (0 : Int))) (some (true)) (cnd (decide (x9.2 ≠ (0 : Int))) (some (true)) (bnd (g_link_Check x9.1) fun x14 => cnd (decide (x14 ≠ (0 : Int))) (some (true)) (bnd (g_link_Idle x9.1) fun x17 => cnd x17 (some (true)) (bnd (g_link_Idle (⟨x3.vBase, ([] : List ByteArray), x3.vWant, ([] : List S_Held)⟩ : S_End)) fun x20 => some (!x20))))))) fun a15_0 => cnd a15_0 (some false) (bnd (g_link_Frames x9.1) fun x24 => bnd (S := Bool) (bnd (g_ref42_SameFrames x24 [(⟨(1 : Int), (1 : Int), (⟨#[97]⟩ : ByteArray)⟩ : S_Frame), (⟨(2 : Int), (1 : Int), (⟨#[98]⟩ : ByteArray)⟩ : S_Frame), (⟨(3 : Int), (1 : Int), (⟨#[99]⟩ : ByteArray)⟩ : S_Frame)]) fun x26 => cnd (!x26) (some (true)) (bnd (g_link_Frames (⟨x3.vBase, ([] : List ByteArray), x3.vWant, ([] : List S_Held)⟩ : S_End)) fun x29 => bnd (g_ref42_SameFrames x29 [(⟨(0 : Int), (1 : Int), ByteArray.empty⟩ : S_Frame)]) fun x31 => some (!x31))) fun a25_0 => cnd a25_0 (some false) (gd (0 ≤ (1 : Int) ∧ (1 : Int) < ((x24).length : Int)) (bnd (g_link_Receive (⟨x3.vBase, ([] : List ByteArray), x3.vWant, ([] : List S_Held)⟩ : S_End) ((x24)[((1 : Int)).toNat]!)) fun x37 => gd (0 ≤ (0 : Int) ∧ (0 : Int) < ((x24).length : Int)) (bnd (g_link_Receive x37.1 ((x24)[((0 : Int)).toNat]!)) fun x41 => gd (0 ≤ (0 : Int) ∧ (0 : Int) < ((x24).length : Int)) (bnd (g_link_Receive x41.1 ((x24)[((0 : Int)).toNat]!)) fun x45 => bnd (g_link_Receive x9.1 (⟨(0 : Int), (3 : Int), ByteArray.empty⟩ : S_Frame)) fun x47 => bnd (S := Bool) (cnd (decide (((x37.2).length : Int) = (0 : Int))) (cnd (decide (((x37.1.vHeld).length : Int) = (1 : Int))) (gd (0 ≤ (0 : Int) ∧ (0 : Int) < ((x37.1.vHeld).length : Int)) (bnd (some (decide ((x37.1.vHeld)[((0 : Int)).toNat]! = (⟨(2 : Int), (⟨#[98]⟩ : ByteArray)⟩ : S_Held)))) fun x53 => some (x53))) (some (false))) (some (false))) fun a40_0 => bnd (S := Bool) (cnd a40_0 (bnd (g_ref01_SameTexts x41.2 [(⟨#[97]⟩ : ByteArray), (⟨#[98]⟩ : ByteArray)]) fun x57 => cnd x57 (cnd (decide (x41.1.vWant = (3 : Int))) (cnd (decide (((x45.2).length : Int) = (0 : Int))) (bnd (g_ref42_Same x41.1 x45.1) fun x62 => cnd x62 (cnd (decide (((x47.2).length : Int) = (0 : Int))) (bnd (g_ref42_Same x47.1 (⟨(3 : Int), [(⟨#[99]⟩ : ByteArray)], (1 : Int), ([] : List S_Held)⟩ : S_End)) fun x66 => some (x66)) (some (false))) (some (false))) (some (false))) (some (false))) (some (false))) (some (false))) fun a42_0 => some a42_0)))))
set_option maxHeartbeats 4000000 in
theorem w_law42_sanity  {r : Bool} (h : g_law42_sanity = some r) : PCalls Try.prog 11 [] (dB r) := by
  refine PCalls.of (rs := [.tmp 0]) tok Try.func11 rfl rfl (Nat.le_of_ble_eq_true rfl) rfl (fun cx hx h0 => ?_)
  simp only [argsT, Nat.reduceAdd, Nat.zero_add]
  unfold g_law42_sanity at h
  refine AW.seq ?_
  refine rg hx (by kernel_rfl) fun K hK => ?_
  refine s1 (d := dB false) T_asg ?_
  refine .nil (hK _ _ ?_)
  refine AW.seq ?_
  refine rg hx (by kernel_rfl) fun K hK => ?_
  obtain ⟨x1, hx2, h⟩ := bnd_some h
  refine s1 (d := .ag [dI .i64 x1.vBase, dN, dI .i64 x1.vWant, dN]) (T_call rfl (w_link_New hx2) rfl lAn (.inl rfl)) ?_
  refine s1 (d := .pt 0 0) (T_alloc tb_25) ?_
  refine s0 (T_st (ds' := [dI .i64 x1.vBase, dN, dI .i64 x1.vWant, dN]) tb_25) ?_
  refine .nil (hK _ _ ?_)
  refine AW.seq ?_
  refine rg hx (by kernel_rfl) fun K hK => ?_
  obtain ⟨x3, hx4, h⟩ := bnd_some h
  refine s1 (d := .ag [dI .i64 x3.vBase, dN, dI .i64 x3.vWant, dN]) (T_call rfl (w_link_New hx4) rfl lAn (.inl rfl)) ?_
  refine s1 (d := .pt 1 0) (T_alloc tb_25) ?_
  refine s0 (T_st (ds' := [dI .i64 x3.vBase, dN, dI .i64 x3.vWant, dN]) tb_25) ?_
  refine .nil (hK _ _ ?_)
  refine AW.seq ?_
  refine rg hx (by kernel_rfl) fun K hK => ?_
  refine s1 (d := .ag [dI .i64 x1.vBase, dN, dI .i64 x1.vWant, dN]) (T_ldA tb_25) ?_
  obtain ⟨x5, hx6, h⟩ := bnd_some h
  refine s1 (T_call rfl (w_link_Send hx6) rfl (lA (le_ag (wc (lc_r _) (wc (lc_n rfl) (wc (lc_r _) (wc (lc_n rfl) wcn))))) (lA (le_refl' _) lAn)) (.inr ⟨_, rfl⟩)) ?_
  refine s1 T_mv ?_
  iterate 2 refine s1 T_ext ?_
  refine s0 (T_st (ds' := [dI .i64 x5.1.vBase, dL cS x5.1.vQueue, dI .i64 x5.1.vWant, dL c_Held x5.1.vHeld]) tb_25) ?_
  refine s1 T_as ?_
  refine .nil (hK _ _ ?_)
  refine AW.seq ?_
  refine rg hx (by kernel_rfl) fun K hK => ?_
  refine s1 (d := dG c_End x5.1) (T_ldA tb_25) ?_
  obtain ⟨x7, hx8, h⟩ := bnd_some h
  refine s1 (T_call rfl (w_link_Send hx8) (by simp only [List.map_cons, List.map_nil, List.all_cons, List.all_nil, Bool.and_true, Bool.and_eq_true]; exact ⟨pure_ex_G _ _, rfl⟩) (lA (le_refl' _) (lA (le_refl' _) lAn)) (.inr ⟨_, rfl⟩)) ?_
  refine s1 T_mv ?_
  iterate 2 refine s1 T_ext ?_
  refine s0 (T_st (ds' := [dI .i64 x7.1.vBase, dL cS x7.1.vQueue, dI .i64 x7.1.vWant, dL c_Held x7.1.vHeld]) tb_25) ?_
  refine s1 T_as ?_
  refine .nil (hK _ _ ?_)
  refine AW.seq ?_
  refine rg hx (by kernel_rfl) fun K hK => ?_
  refine s1 (d := dG c_End x7.1) (T_ldA tb_25) ?_
  obtain ⟨x9, hx10, h⟩ := bnd_some h
  refine s1 (T_call rfl (w_link_Send hx10) (by simp only [List.map_cons, List.map_nil, List.all_cons, List.all_nil, Bool.and_true, Bool.and_eq_true]; exact ⟨pure_ex_G _ _, rfl⟩) (lA (le_refl' _) (lA (le_refl' _) lAn)) (.inr ⟨_, rfl⟩)) ?_
  refine s1 T_mv ?_
  iterate 2 refine s1 T_ext ?_
  refine s0 (T_st (ds' := [dI .i64 x9.1.vBase, dL cS x9.1.vQueue, dI .i64 x9.1.vWant, dL c_Held x9.1.vHeld]) tb_25) ?_
  refine s1 T_as ?_
  refine .nil (hK _ _ ?_)
  iterate 2 refine AW.seq ?_
  obtain ⟨a15_0, hy, h⟩ := bnd_some h
  refine jn ((PE cx .normal (fun a15_0 => [(1, .pt 0 0), (2, .pt 1 0), (56, dB a15_0)]) fun a15_0 => ⟨[(0, [dI .i64 x9.1.vBase, dL cS x9.1.vQueue, dI .i64 x9.1.vWant, dL c_Held x9.1.vHeld]), (1, [dI .i64 x3.vBase, dN, dI .i64 x3.vWant, dN])], [], 2⟩) a15_0) ?_ ?_
  replace h := hy
  refine rg hx (by kernel_rfl) fun K hK => ?_
  refine s1 T_mv ?_
  refine s1 T_neq ?_
  refine s1 T_mv ?_
  rcases Bool.eq_false_or_eq_true (decide (x5.2 ≠ (0 : Int))) with hb11 | hb11
  replace h := cnd_t hb11 h
  iterate 2 refine no_t rfl rfl hb11 ?_
  refine s1 (d := dB true) (T_pickT hb11) ?_
  refine s1 T_mv ?_
  iterate 2 refine no_t rfl rfl rfl ?_
  refine s1 (d := dB true) (T_pickT rfl) ?_
  refine s1 T_mv ?_
  iterate 3 refine no_t rfl rfl rfl ?_
  refine s1 (d := dB true) (T_pickT rfl) ?_
  refine s1 T_mv ?_
  iterate 2 refine no_t rfl rfl rfl ?_
  refine s1 (d := dB true) (T_pickT rfl) ?_
  refine s1 T_mv ?_
  iterate 3 refine no_t rfl rfl rfl ?_
  refine s1 (d := dB true) (T_pickT rfl) ?_
  refine .nil (hK _ _ ?_)
  obtain rfl := Option.some.inj h
  exact PE.i (wk h0 [0, 1] (wR rfl (wR rfl (wR rfl wTn))) (vR rfl (vR rfl wVn)) wLn)
  replace h := cnd_f hb11 h
  refine g1 hb11 T_mv ?_
  refine g1 hb11 T_neq ?_
  refine s1 (d := dB (decide (x7.2 ≠ (0 : Int)))) (T_pickF hb11) ?_
  refine s1 T_mv ?_
  rcases Bool.eq_false_or_eq_true (decide (x7.2 ≠ (0 : Int))) with hb12 | hb12
  replace h := cnd_t hb12 h
  iterate 2 refine no_t rfl rfl hb12 ?_
  refine s1 (d := dB true) (T_pickT hb12) ?_
  refine s1 T_mv ?_
  iterate 3 refine no_t rfl rfl rfl ?_
  refine s1 (d := dB true) (T_pickT rfl) ?_
  refine s1 T_mv ?_
  iterate 2 refine no_t rfl rfl rfl ?_
  refine s1 (d := dB true) (T_pickT rfl) ?_
  refine s1 T_mv ?_
  iterate 3 refine no_t rfl rfl rfl ?_
  refine s1 (d := dB true) (T_pickT rfl) ?_
  refine .nil (hK _ _ ?_)
  obtain rfl := Option.some.inj h
  exact PE.i (wk h0 [0, 1] (wR rfl (wR rfl (wR rfl wTn))) (vR rfl (vR rfl wVn)) wLn)
  replace h := cnd_f hb12 h
  refine g1 hb12 T_mv ?_
  refine g1 hb12 T_neq ?_
  refine s1 (d := dB (decide (x9.2 ≠ (0 : Int)))) (T_pickF hb12) ?_
  refine s1 T_mv ?_
  rcases Bool.eq_false_or_eq_true (decide (x9.2 ≠ (0 : Int))) with hb13 | hb13
  replace h := cnd_t hb13 h
  iterate 3 refine no_t rfl rfl hb13 ?_
  refine s1 (d := dB true) (T_pickT hb13) ?_
  refine s1 T_mv ?_
  iterate 2 refine no_t rfl rfl rfl ?_
  refine s1 (d := dB true) (T_pickT rfl) ?_
  refine s1 T_mv ?_
  iterate 3 refine no_t rfl rfl rfl ?_
  refine s1 (d := dB true) (T_pickT rfl) ?_
  refine .nil (hK _ _ ?_)
  obtain rfl := Option.some.inj h
  exact PE.i (wk h0 [0, 1] (wR rfl (wR rfl (wR rfl wTn))) (vR rfl (vR rfl wVn)) wLn)
  replace h := cnd_f hb13 h
  refine g1 (d := dG c_End x9.1) hb13 (T_ldA tb_25) ?_
  obtain ⟨x14, hx15, h⟩ := bnd_some h
  refine g1 (d := dI .i64 x14) hb13 (T_call rfl (w_link_Check hx15) (by simp only [List.map_cons, List.map_nil, List.all_cons, List.all_nil, Bool.and_true, Bool.and_eq_true]; exact pure_ex_G _ _) (lA (le_refl' _) lAn) (.inl rfl)) ?_
  refine g1 hb13 T_neq ?_
  refine s1 (d := dB (decide (x14 ≠ (0 : Int)))) (T_pickF hb13) ?_
  refine s1 T_mv ?_
  rcases Bool.eq_false_or_eq_true (decide (x14 ≠ (0 : Int))) with hb16 | hb16
  replace h := cnd_t hb16 h
  iterate 2 refine no_t rfl rfl hb16 ?_
  refine s1 (d := dB true) (T_pickT hb16) ?_
  refine s1 T_mv ?_
  iterate 3 refine no_t rfl rfl rfl ?_
  refine s1 (d := dB true) (T_pickT rfl) ?_
  refine .nil (hK _ _ ?_)
  obtain rfl := Option.some.inj h
  exact PE.i (wk h0 [0, 1] (wR rfl (wR rfl (wR rfl wTn))) (vR rfl (vR rfl wVn)) wLn)
  replace h := cnd_f hb16 h
  refine g1 (d := dG c_End x9.1) hb16 (T_ldA tb_25) ?_
  obtain ⟨x17, hx18, h⟩ := bnd_some h
  refine g1 (d := dB x17) hb16 (T_call rfl (w_link_Idle hx18) (by simp only [List.map_cons, List.map_nil, List.all_cons, List.all_nil, Bool.and_true, Bool.and_eq_true]; exact pure_ex_G _ _) (lA (le_refl' _) lAn) (.inl rfl)) ?_
  refine s1 (d := dB x17) (T_pickF hb16) ?_
  refine s1 T_mv ?_
  rcases Bool.eq_false_or_eq_true x17 with hb19 | hb19
  replace h := cnd_t hb19 h
  iterate 3 refine no_t rfl rfl hb19 ?_
  refine s1 (d := dB true) (T_pickT hb19) ?_
  refine .nil (hK _ _ ?_)
  obtain rfl := Option.some.inj h
  exact PE.i (wk h0 [0, 1] (wR rfl (wR rfl (wR rfl wTn))) (vR rfl (vR rfl wVn)) wLn)
  replace h := cnd_f hb19 h
  refine g1 (d := .ag [dI .i64 x3.vBase, dN, dI .i64 x3.vWant, dN]) hb19 (T_ldA tb_25) ?_
  obtain ⟨x20, hx21, h⟩ := bnd_some h
  refine g1 (d := dB x20) hb19 (T_call rfl (w_link_Idle hx21) rfl (lA (le_ag (wc (lc_r _) (wc (lc_n rfl) (wc (lc_r _) (wc (lc_n rfl) wcn))))) lAn) (.inl rfl)) ?_
  refine g1 hb19 T_not ?_
  refine s1 (d := dB (!x20)) (T_pickF hb19) ?_
  refine .nil (hK _ _ ?_)
  obtain rfl := Option.some.inj h
  exact PE.i (wk h0 [0, 1] (wR rfl (wR rfl (wR rfl wTn))) (vR rfl (vR rfl wVn)) wLn)
  rintro ex tm' hp' ⟨rfl, hw⟩
  refine AW.weak hw ?_
  refine AW.condS rfl (fun hb23 => ?_) (fun hb23 => ?_)
  replace h := cnd_t hb23 h
  refine AW.seq ?_
  refine rg hx (by kernel_rfl) fun K hK => ?_
  refine s1 (d := dB false) T_asg ?_
  refine .nil (hK _ _ ?_)
  refine AW.ret ?_
  obtain rfl := Option.some.inj h
  exact RetV.mk1 (resD_t rfl (.inr (.inr ⟨_, (le_refl' _), rfl, rfl⟩)))
  replace h := cnd_f hb23 h
  refine AW.skip ?_
  refine AW.seq ?_
  refine rg hx (by kernel_rfl) fun K hK => ?_
  refine s1 (d := dG c_End x9.1) (T_ldA tb_25) ?_
  obtain ⟨x24, hx25, h⟩ := bnd_some h
  refine s1 (d := dO 2 c_Frame x24) (T_callO rfl (w_link_Frames hx25) (by simp only [List.map_cons, List.map_nil, List.all_cons, List.all_nil, Bool.and_true, Bool.and_eq_true]; exact pure_ex_G _ _) (lA (le_refl' _) lAn)) ?_
  refine s1 T_as ?_
  refine .nil (hK _ _ ?_)
  iterate 2 refine AW.seq ?_
  obtain ⟨a25_0, hy, h⟩ := bnd_some h
  refine jn ((PE cx .normal (fun a25_0 => [(1, .pt 0 0), (2, .pt 1 0), (6, dO 2 c_Frame x24), (73, dB a25_0)]) fun a25_0 => ⟨[(0, [dI .i64 x9.1.vBase, dL cS x9.1.vQueue, dI .i64 x9.1.vWant, dL c_Held x9.1.vHeld]), (1, [dI .i64 x3.vBase, dN, dI .i64 x3.vWant, dN])], [(2, (x24).length, 3, 27)], 3⟩) a25_0) ?_ ?_
  replace h := hy
  refine rg hx (by kernel_rfl) fun K hK => ?_
  refine s1 T_mv ?_
  refine s1 (d := dG c_Frame (⟨(1 : Int), (1 : Int), (⟨#[97]⟩ : ByteArray)⟩ : S_Frame)) (T_build tb_27) ?_
  refine s1 (d := dG c_Frame (⟨(2 : Int), (1 : Int), (⟨#[98]⟩ : ByteArray)⟩ : S_Frame)) (T_build tb_27) ?_
  refine s1 (d := dG c_Frame (⟨(3 : Int), (1 : Int), (⟨#[99]⟩ : ByteArray)⟩ : S_Frame)) (T_build tb_27) ?_
  refine s1 (d := dO 3 c_Frame [(⟨(1 : Int), (1 : Int), (⟨#[97]⟩ : ByteArray)⟩ : S_Frame), (⟨(2 : Int), (1 : Int), (⟨#[98]⟩ : ByteArray)⟩ : S_Frame), (⟨(3 : Int), (1 : Int), (⟨#[99]⟩ : ByteArray)⟩ : S_Frame)]) (T_bsl tb_45 tb_27) ?_
  obtain ⟨x26, hx27, h⟩ := bnd_some h
  refine s1 (d := dB x26) (T_call rfl (w_ref42_SameFrames hx27) rfl (lA (le_refl' _) (lA (le_refl' _) lAn)) (.inl rfl)) ?_
  refine s1 T_not ?_
  refine s1 T_mv ?_
  rcases Bool.eq_false_or_eq_true (!x26) with hb28 | hb28
  replace h := cnd_t hb28 h
  iterate 6 refine no_t rfl rfl hb28 ?_
  refine s1 (d := dB true) (T_pickT hb28) ?_
  refine .nil (hK _ _ ?_)
  obtain rfl := Option.some.inj h
  exact PE.i (wk h0 [0, 1, 2] (wR rfl (wR rfl (wR rfl (wR rfl wTn)))) (vR rfl (vR rfl wVn)) (wL rfl rfl wLn))
  replace h := cnd_f hb28 h
  refine g1 (d := .ag [dI .i64 x3.vBase, dN, dI .i64 x3.vWant, dN]) hb28 (T_ldA tb_25) ?_
  obtain ⟨x29, hx30, h⟩ := bnd_some h
  refine g1 (d := dO 4 c_Frame x29) hb28 (T_callO rfl (w_link_Frames hx30) rfl (lA (le_ag (wc (lc_r _) (wc (lc_n rfl) (wc (lc_r _) (wc (lc_n rfl) wcn))))) lAn)) ?_
  refine g1 (d := dG c_Frame (⟨(0 : Int), (1 : Int), ByteArray.empty⟩ : S_Frame)) hb28 (T_build tb_27) ?_
  refine g1 (d := dO 5 c_Frame [(⟨(0 : Int), (1 : Int), ByteArray.empty⟩ : S_Frame)]) hb28 (T_bsl tb_45 tb_27) ?_
  obtain ⟨x31, hx32, h⟩ := bnd_some h
  refine g1 (d := dB x31) hb28 (T_call rfl (w_ref42_SameFrames hx32) rfl (lA (le_refl' _) (lA (le_refl' _) lAn)) (.inl rfl)) ?_
  refine g1 hb28 T_not ?_
  refine s1 (d := dB (!x31)) (T_pickF hb28) ?_
  refine .nil (hK _ _ ?_)
  obtain rfl := Option.some.inj h
  exact PE.i (wk h0 [0, 1, 2] (wR rfl (wR rfl (wR rfl (wR rfl wTn)))) (vR rfl (vR rfl wVn)) (wL rfl rfl wLn))
  rintro ex tm' hp' ⟨rfl, hw⟩
  refine AW.weak hw ?_
  refine AW.condS rfl (fun hb34 => ?_) (fun hb34 => ?_)
  replace h := cnd_t hb34 h
  refine AW.seq ?_
  refine rg hx (by kernel_rfl) fun K hK => ?_
  refine s1 (d := dB false) T_asg ?_
  refine .nil (hK _ _ ?_)
  refine AW.ret ?_
  obtain rfl := Option.some.inj h
  exact RetV.mk1 (resD_t rfl (.inr (.inr ⟨_, (le_refl' _), rfl, rfl⟩)))
  replace h := cnd_f hb34 h
  refine AW.skip ?_
  refine AW.seq ?_
  refine rd [14] hx (by kernel_rfl) (by kernel_rfl) fun K hK => ?_
  refine s1 (d := .ag [dI .i64 x3.vBase, dN, dI .i64 x3.vWant, dN]) (T_ldA tb_25) ?_
  refine s1 T_mv ?_
  obtain ⟨hc35, h⟩ := gd_some h
  have hn36 : ((1 : Int)).toNat < (x24).length := by omega
  refine s1 (T_iaS hc35 tb_45 tb_27) ?_
  refine s1 (d := dG c_Frame ((x24)[((1 : Int)).toNat]!)) (T_ldG (c := c_Frame) (l := x24) (n := ((1 : Int)).toNat) (o := 0) tb_27 hn36 (whole_G _ _ rfl)) ?_
  obtain ⟨x37, hx38, h⟩ := bnd_some h
  refine sq tok (w_link_Receive hx38) (by simp only [List.map_cons, List.map_nil, List.all_cons, List.all_nil, Bool.and_true, Bool.and_eq_true]; exact ⟨rfl, pure_ex_G _ _⟩) (lA (le_ag (wc (lc_r _) (wc (lc_n rfl) (wc (lc_r _) (wc (lc_n rfl) wcn))))) (lA (le_refl' _) lAn)) (.inr ⟨_, rfl⟩) ?_
  refine s1 T_mv ?_
  iterate 2 refine s1 T_ext ?_
  refine s1 (d := .pt 3 0) (T_alloc tb_25) ?_
  refine s0 (T_st (ds' := [dI .i64 x37.1.vBase, dL cS x37.1.vQueue, dI .i64 x37.1.vWant, dL c_Held x37.1.vHeld]) tb_25) ?_
  refine s1 T_as ?_
  refine .nil (hK _ _ ?_)
  refine AW.seq ?_
  refine rd [14] hx (by kernel_rfl) (by kernel_rfl) fun K hK => ?_
  refine s1 (d := dG c_End x37.1) (T_ldA tb_25) ?_
  refine s1 T_mv ?_
  obtain ⟨hc39, h⟩ := gd_some h
  have hn40 : ((0 : Int)).toNat < (x24).length := by omega
  refine s1 (T_iaS hc39 tb_45 tb_27) ?_
  refine s1 (d := dG c_Frame ((x24)[((0 : Int)).toNat]!)) (T_ldG (c := c_Frame) (l := x24) (n := ((0 : Int)).toNat) (o := 0) tb_27 hn40 (whole_G _ _ rfl)) ?_
  obtain ⟨x41, hx42, h⟩ := bnd_some h
  refine sq tok (w_link_Receive hx42) (by simp only [List.map_cons, List.map_nil, List.all_cons, List.all_nil, Bool.and_true, Bool.and_eq_true]; exact ⟨pure_ex_G _ _, pure_ex_G _ _⟩) (lA (le_refl' _) (lA (le_refl' _) lAn)) (.inr ⟨_, rfl⟩) ?_
  refine s1 T_mv ?_
  iterate 2 refine s1 T_ext ?_
  refine s1 (d := .pt 4 0) (T_alloc tb_25) ?_
  refine s0 (T_st (ds' := [dI .i64 x41.1.vBase, dL cS x41.1.vQueue, dI .i64 x41.1.vWant, dL c_Held x41.1.vHeld]) tb_25) ?_
  refine s1 T_as ?_
  refine .nil (hK _ _ ?_)
  refine AW.seq ?_
  refine rd [14] hx (by kernel_rfl) (by kernel_rfl) fun K hK => ?_
  refine s1 (d := dG c_End x41.1) (T_ldA tb_25) ?_
  refine s1 T_mv ?_
  obtain ⟨hc43, h⟩ := gd_some h
  have hn44 : ((0 : Int)).toNat < (x24).length := by omega
  refine s1 (T_iaS hc43 tb_45 tb_27) ?_
  refine s1 (d := dG c_Frame ((x24)[((0 : Int)).toNat]!)) (T_ldG (c := c_Frame) (l := x24) (n := ((0 : Int)).toNat) (o := 0) tb_27 hn44 (whole_G _ _ rfl)) ?_
  obtain ⟨x45, hx46, h⟩ := bnd_some h
  refine sq tok (w_link_Receive hx46) (by simp only [List.map_cons, List.map_nil, List.all_cons, List.all_nil, Bool.and_true, Bool.and_eq_true]; exact ⟨pure_ex_G _ _, pure_ex_G _ _⟩) (lA (le_refl' _) (lA (le_refl' _) lAn)) (.inr ⟨_, rfl⟩) ?_
  refine s1 T_mv ?_
  iterate 2 refine s1 T_ext ?_
  refine s1 (d := .pt 5 0) (T_alloc tb_25) ?_
  refine s0 (T_st (ds' := [dI .i64 x45.1.vBase, dL cS x45.1.vQueue, dI .i64 x45.1.vWant, dL c_Held x45.1.vHeld]) tb_25) ?_
  refine s1 T_as ?_
  refine .nil (hK _ _ ?_)
  refine AW.seq ?_
  refine rg hx (by kernel_rfl) fun K hK => ?_
  refine s1 (d := dG c_End x9.1) (T_ldA tb_25) ?_
  refine s1 (d := dG c_Frame (⟨(0 : Int), (3 : Int), ByteArray.empty⟩ : S_Frame)) (T_build tb_27) ?_
  obtain ⟨x47, hx48, h⟩ := bnd_some h
  refine s1 (T_call rfl (w_link_Receive hx48) (by simp only [List.map_cons, List.map_nil, List.all_cons, List.all_nil, Bool.and_true, Bool.and_eq_true]; exact ⟨pure_ex_G _ _, pure_ex_G _ _⟩) (lA (le_refl' _) (lA (le_refl' _) lAn)) (.inr ⟨_, rfl⟩)) ?_
  refine s1 T_mv ?_
  iterate 2 refine s1 T_ext ?_
  refine s1 (d := .pt 6 0) (T_alloc tb_25) ?_
  refine s0 (T_st (ds' := [dI .i64 x47.1.vBase, dL cS x47.1.vQueue, dI .i64 x47.1.vWant, dL c_Held x47.1.vHeld]) tb_25) ?_
  refine s1 T_as ?_
  refine .nil (hK _ _ ?_)
  refine AW.seq ?_
  obtain ⟨a40_0, hy, h⟩ := bnd_some h
  refine jn ((PE cx .normal (fun a40_0 => [(9, .pt 0 0), (10, dL cS x41.2), (11, .pt 1 0), (12, dL cS x45.2), (13, .pt 2 0), (14, dL cS x47.2), (15, dB a40_0)]) fun a40_0 => ⟨[(0, [dI .i64 x41.1.vBase, dL cS x41.1.vQueue, dI .i64 x41.1.vWant, dL c_Held x41.1.vHeld]), (1, [dI .i64 x45.1.vBase, dL cS x45.1.vQueue, dI .i64 x45.1.vWant, dL c_Held x45.1.vHeld]), (2, [dI .i64 x47.1.vBase, dL cS x47.1.vQueue, dI .i64 x47.1.vWant, dL c_Held x47.1.vHeld])], [], 3⟩) a40_0) ?_ ?_
  replace h := hy
  refine rg hx (by kernel_rfl) fun K hK => ?_
  refine s1 T_mv ?_
  refine s1 (d := dI .i64 ((x37.2).length : Int)) (T_len tb_22 tb_9) ?_
  refine s1 T_eql ?_
  refine s1 T_mv ?_
  rcases Bool.eq_false_or_eq_true (decide (((x37.2).length : Int) = (0 : Int))) with hb49 | hb49
  replace h := cnd_t hb49 h
  refine g1 hb49 (T_faP tb_25 tb_23) ?_
  refine g1 (d := dL c_Held x37.1.vHeld) hb49 (T_ldC tb_23) ?_
  refine g1 (d := dI .i64 ((x37.1.vHeld).length : Int)) hb49 (T_len tb_23 tb_74) ?_
  refine g1 hb49 T_eql ?_
  refine s1 (d := dB (decide (((x37.1.vHeld).length : Int) = (1 : Int)))) (T_pickT hb49) ?_
  refine s1 T_mv ?_
  rcases Bool.eq_false_or_eq_true (decide (((x37.1.vHeld).length : Int) = (1 : Int))) with hb50 | hb50
  replace h := cnd_t hb50 h
  refine g1 hb50 (T_faP tb_25 tb_23) ?_
  refine g1 (d := dL c_Held x37.1.vHeld) hb50 (T_ldC tb_23) ?_
  obtain ⟨hc51, h⟩ := gd_some h
  have hn52 : ((0 : Int)).toNat < (x37.1.vHeld).length := by omega
  refine g1 hb50 (T_iaS hc51 tb_23 tb_74) ?_
  refine g1 (d := dG c_Held ((x37.1.vHeld)[((0 : Int)).toNat]!)) hb50 (T_ldG (c := c_Held) (l := x37.1.vHeld) (n := ((0 : Int)).toNat) (o := 0) tb_74 hn52 (whole_G _ _ rfl)) ?_
  refine g1 (d := dG c_Held (⟨(2 : Int), (⟨#[98]⟩ : ByteArray)⟩ : S_Held)) hb50 (T_build tb_74) ?_
  refine g1 hb50 (T_geql tok 6 (by decide) tb_74 rfl (by kernel_rfl) (by kernel_rfl) rfl rfl rfl rfl (eqF_Held _) (eqF_Held _) (eqI_Held _ _)) ?_
  refine s1 (d := dB (decide ((x37.1.vHeld)[((0 : Int)).toNat]! = (⟨(2 : Int), (⟨#[98]⟩ : ByteArray)⟩ : S_Held)))) (T_pickT hb50) ?_
  obtain ⟨x53, hx54, h⟩ := bnd_some h
  replace hx54 := Option.some.inj hx54
  refine s2 (d2 := dB x53) T_as (le_eq (congrArg dB hx54)) ?_
  refine .nil (hK _ _ ?_)
  obtain rfl := Option.some.inj h
  exact PE.i (wk h0 [4, 5, 6] (wR rfl (wR rfl (wR rfl (wR rfl (wR rfl (wR rfl (wR rfl wTn))))))) (vR rfl (vR rfl (vR rfl wVn))) wLn)
  replace h := cnd_f hb50 h
  iterate 6 refine no_t rfl rfl hb50 ?_
  refine s1 (d := dB false) (T_pickF hb50) ?_
  refine s1 T_as ?_
  refine .nil (hK _ _ ?_)
  obtain rfl := Option.some.inj h
  exact PE.i (wk h0 [4, 5, 6] (wR rfl (wR rfl (wR rfl (wR rfl (wR rfl (wR rfl (wR rfl wTn))))))) (vR rfl (vR rfl (vR rfl wVn))) wLn)
  replace h := cnd_f hb49 h
  iterate 4 refine no_t rfl rfl hb49 ?_
  refine s1 (d := dB false) (T_pickF hb49) ?_
  refine s1 T_mv ?_
  iterate 6 refine no_t rfl rfl rfl ?_
  refine s1 (d := dB false) (T_pickF rfl) ?_
  refine s1 T_as ?_
  refine .nil (hK _ _ ?_)
  obtain rfl := Option.some.inj h
  exact PE.i (wk h0 [4, 5, 6] (wR rfl (wR rfl (wR rfl (wR rfl (wR rfl (wR rfl (wR rfl wTn))))))) (vR rfl (vR rfl (vR rfl wVn))) wLn)
  rintro ex tm' hp' ⟨rfl, hw⟩
  refine AW.weak hw ?_
  refine AW.seq ?_
  obtain ⟨a42_0, hy, h⟩ := bnd_some h
  refine jn ((PE cx .normal (fun a42_0 => [(0, dB a42_0)]) fun a42_0 => ⟨[], [], 0⟩) a42_0) ?_ ?_
  replace h := hy
  refine rg hx (by kernel_rfl) fun K hK => ?_
  iterate 2 refine s1 T_mv ?_
  rcases Bool.eq_false_or_eq_true a40_0 with hb56 | hb56
  replace h := cnd_t hb56 h
  refine g1 hb56 T_mv ?_
  refine g1 (d := dO 3 cS [(⟨#[97]⟩ : ByteArray), (⟨#[98]⟩ : ByteArray)]) hb56 (T_bsl tb_22 tb_9) ?_
  obtain ⟨x57, hx58, h⟩ := bnd_some h
  refine g1 (d := dB x57) hb56 (T_call rfl (w_ref01_SameTexts hx58) rfl (lA (le_refl' _) (lA (le_refl' _) lAn)) (.inl rfl)) ?_
  refine s1 (d := dB x57) (T_pickT hb56) ?_
  refine s1 T_mv ?_
  rcases Bool.eq_false_or_eq_true x57 with hb59 | hb59
  replace h := cnd_t hb59 h
  refine g1 hb59 (T_faP tb_25 tb_3) ?_
  refine g1 (d := dI .i64 x41.1.vWant) hb59 (T_ldC tb_3) ?_
  refine g1 hb59 T_eql ?_
  refine s1 (d := dB (decide (x41.1.vWant = (3 : Int)))) (T_pickT hb59) ?_
  refine s1 T_mv ?_
  rcases Bool.eq_false_or_eq_true (decide (x41.1.vWant = (3 : Int))) with hb60 | hb60
  replace h := cnd_t hb60 h
  refine g1 hb60 T_mv ?_
  refine g1 (d := dI .i64 ((x45.2).length : Int)) hb60 (T_len tb_22 tb_9) ?_
  refine g1 hb60 T_eql ?_
  refine s1 (d := dB (decide (((x45.2).length : Int) = (0 : Int)))) (T_pickT hb60) ?_
  refine s1 T_mv ?_
  rcases Bool.eq_false_or_eq_true (decide (((x45.2).length : Int) = (0 : Int))) with hb61 | hb61
  replace h := cnd_t hb61 h
  refine g1 (d := dG c_End x41.1) hb61 (T_ldA tb_25) ?_
  refine g1 (d := dG c_End x45.1) hb61 (T_ldA tb_25) ?_
  obtain ⟨x62, hx63, h⟩ := bnd_some h
  refine g1 (d := dB x62) hb61 (T_call rfl (w_ref42_Same hx63) (by simp only [List.map_cons, List.map_nil, List.all_cons, List.all_nil, Bool.and_true, Bool.and_eq_true]; exact ⟨pure_ex_G _ _, pure_ex_G _ _⟩) (lA (le_refl' _) (lA (le_refl' _) lAn)) (.inl rfl)) ?_
  refine s1 (d := dB x62) (T_pickT hb61) ?_
  refine s1 T_mv ?_
  rcases Bool.eq_false_or_eq_true x62 with hb64 | hb64
  replace h := cnd_t hb64 h
  refine g1 hb64 T_mv ?_
  refine g1 (d := dI .i64 ((x47.2).length : Int)) hb64 (T_len tb_22 tb_9) ?_
  refine g1 hb64 T_eql ?_
  refine s1 (d := dB (decide (((x47.2).length : Int) = (0 : Int)))) (T_pickT hb64) ?_
  refine s1 T_mv ?_
  rcases Bool.eq_false_or_eq_true (decide (((x47.2).length : Int) = (0 : Int))) with hb65 | hb65
  replace h := cnd_t hb65 h
  refine g1 (d := dG c_End x47.1) hb65 (T_ldA tb_25) ?_
  refine g1 (d := dO 4 cS [(⟨#[99]⟩ : ByteArray)]) hb65 (T_bsl tb_22 tb_9) ?_
  refine g1 (d := .ag [dI .i64 (3 : Int), dO 4 cS [(⟨#[99]⟩ : ByteArray)], dI .i64 (1 : Int), dN]) hb65 (T_build tb_25) ?_
  obtain ⟨x66, hx67, h⟩ := bnd_some h
  refine g1 (d := dB x66) hb65 (T_call rfl (w_ref42_Same hx67) (by simp only [List.map_cons, List.map_nil, List.all_cons, List.all_nil, Bool.and_true, Bool.and_eq_true]; exact ⟨pure_ex_G _ _, rfl⟩) (lA (le_refl' _) (lA (le_ag (wc (lc_r _) (wc (lc_r _) (wc (lc_r _) (wc (lc_n rfl) wcn))))) lAn)) (.inl rfl)) ?_
  refine s1 (d := dB x66) (T_pickT hb65) ?_
  refine s1 T_as ?_
  refine .nil (hK _ _ ?_)
  obtain rfl := Option.some.inj h
  exact PE.i (wk h0 [] (wR rfl wTn) wVn wLn)
  replace h := cnd_f hb65 h
  iterate 4 refine no_t rfl rfl hb65 ?_
  refine s1 (d := dB false) (T_pickF hb65) ?_
  refine s1 T_as ?_
  refine .nil (hK _ _ ?_)
  obtain rfl := Option.some.inj h
  exact PE.i (wk h0 [] (wR rfl wTn) wVn wLn)
  replace h := cnd_f hb64 h
  iterate 3 refine no_t rfl rfl hb64 ?_
  refine s1 (d := dB false) (T_pickF hb64) ?_
  refine s1 T_mv ?_
  iterate 4 refine no_t rfl rfl rfl ?_
  refine s1 (d := dB false) (T_pickF rfl) ?_
  refine s1 T_as ?_
  refine .nil (hK _ _ ?_)
  obtain rfl := Option.some.inj h
  exact PE.i (wk h0 [] (wR rfl wTn) wVn wLn)
  replace h := cnd_f hb61 h
  iterate 3 refine no_t rfl rfl hb61 ?_
  refine s1 (d := dB false) (T_pickF hb61) ?_
  refine s1 T_mv ?_
  iterate 3 refine no_t rfl rfl rfl ?_
  refine s1 (d := dB false) (T_pickF rfl) ?_
  refine s1 T_mv ?_
  iterate 4 refine no_t rfl rfl rfl ?_
  refine s1 (d := dB false) (T_pickF rfl) ?_
  refine s1 T_as ?_
  refine .nil (hK _ _ ?_)
  obtain rfl := Option.some.inj h
  exact PE.i (wk h0 [] (wR rfl wTn) wVn wLn)
  replace h := cnd_f hb60 h
  iterate 3 refine no_t rfl rfl hb60 ?_
  refine s1 (d := dB false) (T_pickF hb60) ?_
  refine s1 T_mv ?_
  iterate 3 refine no_t rfl rfl rfl ?_
  refine s1 (d := dB false) (T_pickF rfl) ?_
  refine s1 T_mv ?_
  iterate 3 refine no_t rfl rfl rfl ?_
  refine s1 (d := dB false) (T_pickF rfl) ?_
  refine s1 T_mv ?_
  iterate 4 refine no_t rfl rfl rfl ?_
  refine s1 (d := dB false) (T_pickF rfl) ?_
  refine s1 T_as ?_
  refine .nil (hK _ _ ?_)
  obtain rfl := Option.some.inj h
  exact PE.i (wk h0 [] (wR rfl wTn) wVn wLn)
  replace h := cnd_f hb59 h
  iterate 3 refine no_t rfl rfl hb59 ?_
  refine s1 (d := dB false) (T_pickF hb59) ?_
  refine s1 T_mv ?_
  iterate 3 refine no_t rfl rfl rfl ?_
  refine s1 (d := dB false) (T_pickF rfl) ?_
  refine s1 T_mv ?_
  iterate 3 refine no_t rfl rfl rfl ?_
  refine s1 (d := dB false) (T_pickF rfl) ?_
  refine s1 T_mv ?_
  iterate 3 refine no_t rfl rfl rfl ?_
  refine s1 (d := dB false) (T_pickF rfl) ?_
  refine s1 T_mv ?_
  iterate 4 refine no_t rfl rfl rfl ?_
  refine s1 (d := dB false) (T_pickF rfl) ?_
  refine s1 T_as ?_
  refine .nil (hK _ _ ?_)
  obtain rfl := Option.some.inj h
  exact PE.i (wk h0 [] (wR rfl wTn) wVn wLn)
  replace h := cnd_f hb56 h
  iterate 3 refine no_t rfl rfl hb56 ?_
  refine s1 (d := dB false) (T_pickF hb56) ?_
  refine s1 T_mv ?_
  iterate 3 refine no_t rfl rfl rfl ?_
  refine s1 (d := dB false) (T_pickF rfl) ?_
  refine s1 T_mv ?_
  iterate 3 refine no_t rfl rfl rfl ?_
  refine s1 (d := dB false) (T_pickF rfl) ?_
  refine s1 T_mv ?_
  iterate 3 refine no_t rfl rfl rfl ?_
  refine s1 (d := dB false) (T_pickF rfl) ?_
  refine s1 T_mv ?_
  iterate 3 refine no_t rfl rfl rfl ?_
  refine s1 (d := dB false) (T_pickF rfl) ?_
  refine s1 T_mv ?_
  iterate 4 refine no_t rfl rfl rfl ?_
  refine s1 (d := dB false) (T_pickF rfl) ?_
  refine s1 T_as ?_
  refine .nil (hK _ _ ?_)
  obtain rfl := Option.some.inj h
  exact PE.i (wk h0 [] (wR rfl wTn) wVn wLn)
  rintro ex tm' hp' ⟨rfl, hw⟩
  refine AW.weak hw ?_
  refine AW.ret ?_
  obtain rfl := Option.some.inj h
  exact RetV.mk1 (resD_t rfl (.inr (.inr ⟨_, (le_refl' _), rfl, rfl⟩)))
end Go.Proofs.Ytakbadleipbngaa
