/-
  What functions compute, read off the program's code (written by a program of mine). Conditions: none.
-/
import Derived.Test.YtakbadleipbngaaGX
set_option linter.all false
namespace Go.Proofs.Ytakbadleipbngaa
open Go.RowKit
structure S_Op where
  vKind : Int
  vSide : Int
  vN : Int
  deriving Inhabited, DecidableEq
def c_Op : Cd S_Op := ⟨3, fun x => [.lit (.int .u8 x.vKind), .lit (.int .u8 x.vSide), .lit (.int .u16 x.vN)], fun _ => rfl⟩
noncomputable def g_law42_sanity  : Option Bool := bnd (g_link_New) fun x1 => bnd (g_link_New) fun x3 => bnd (g_link_Send (⟨x1.vBase, ([] : List ByteArray), x1.vWant, ([] : List S_Held)⟩ : S_End) (⟨#[97]⟩ : ByteArray)) fun x5 => bnd (g_link_Send x5.1 (⟨#[98]⟩ : ByteArray)) fun x7 => bnd (g_link_Send x7.1 (⟨#[99]⟩ : ByteArray)) fun x9 => bnd (S := Bool) (cnd (decide (x5.2 ≠ (0 : Int))) (some (true)) (cnd (decide (x7.2 ≠ (0 : Int))) (some (true)) (cnd (decide (x9.2 ≠ (0 : Int))) (some (true)) (bnd (g_link_Check x9.1) fun x14 => cnd (decide (x14 ≠ (0 : Int))) (some (true)) (bnd (g_link_Idle x9.1) fun x17 => cnd x17 (some (true)) (bnd (g_link_Idle (⟨x3.vBase, ([] : List ByteArray), x3.vWant, ([] : List S_Held)⟩ : S_End)) fun x20 => some (!x20))))))) fun a15_0 => cnd a15_0 (some false) (bnd (g_link_Frames x9.1) fun x24 => bnd (S := Bool) (bnd (g_ref42_SameFrames x24 [(⟨(1 : Int), (1 : Int), (⟨#[97]⟩ : ByteArray)⟩ : S_Frame), (⟨(2 : Int), (1 : Int), (⟨#[98]⟩ : ByteArray)⟩ : S_Frame), (⟨(3 : Int), (1 : Int), (⟨#[99]⟩ : ByteArray)⟩ : S_Frame)]) fun x26 => cnd (!x26) (some (true)) (bnd (g_link_Frames (⟨x3.vBase, ([] : List ByteArray), x3.vWant, ([] : List S_Held)⟩ : S_End)) fun x29 => bnd (g_ref42_SameFrames x29 [(⟨(0 : Int), (1 : Int), ByteArray.empty⟩ : S_Frame)]) fun x31 => some (!x31))) fun a25_0 => cnd a25_0 (some false) (gd (0 ≤ (1 : Int) ∧ (1 : Int) < ((x24).length : Int)) (bnd (g_link_Receive (⟨x3.vBase, ([] : List ByteArray), x3.vWant, ([] : List S_Held)⟩ : S_End) ((x24)[((1 : Int)).toNat]!)) fun x37 => gd (0 ≤ (0 : Int) ∧ (0 : Int) < ((x24).length : Int)) (bnd (g_link_Receive x37.1 ((x24)[((0 : Int)).toNat]!)) fun x41 => gd (0 ≤ (0 : Int) ∧ (0 : Int) < ((x24).length : Int)) (bnd (g_link_Receive x41.1 ((x24)[((0 : Int)).toNat]!)) fun x45 => bnd (g_link_Receive x9.1 (⟨(0 : Int), (3 : Int), ByteArray.empty⟩ : S_Frame)) fun x47 => bnd (S := Bool) (cnd (decide (((x37.2).length : Int) = (0 : Int))) (cnd (decide (((x37.1.vHeld).length : Int) = (1 : Int))) (gd (0 ≤ (0 : Int) ∧ (0 : Int) < ((x37.1.vHeld).length : Int)) (bnd (some (decide ((x37.1.vHeld)[((0 : Int)).toNat]! = (⟨(2 : Int), (⟨#[98]⟩ : ByteArray)⟩ : S_Held)))) fun x53 => some (x53))) (some (false))) (some (false))) fun a40_0 => bnd (S := Bool) (cnd a40_0 (bnd (g_ref01_SameTexts x41.2 [(⟨#[97]⟩ : ByteArray), (⟨#[98]⟩ : ByteArray)]) fun x57 => cnd x57 (cnd (decide (x41.1.vWant = (3 : Int))) (cnd (decide (((x45.2).length : Int) = (0 : Int))) (bnd (g_ref42_Same x41.1 x45.1) fun x62 => cnd x62 (cnd (decide (((x47.2).length : Int) = (0 : Int))) (bnd (g_ref42_Same x47.1 (⟨(3 : Int), [(⟨#[99]⟩ : ByteArray)], (1 : Int), ([] : List S_Held)⟩ : S_End)) fun x66 => some (x66)) (some (false))) (some (false))) (some (false))) (some (false))) (some (false))) (some (false))) fun a42_0 => some a42_0)))))
theorem w_law42_sanity  {r : Bool} (h : g_law42_sanity = some r) : PCalls Try.prog 11 [] (dB r) := by
  refine PCalls.of (rs := [.tmp 0]) tok Try.func11 rfl rfl (Nat.le_of_ble_eq_true rfl) rfl (fun cx hx h0 => ?_)
  simp only [argsT, Nat.reduceAdd, Nat.zero_add]
  unfold g_law42_sanity at h
  refine AW.seq ?_
  refine rg hx (by kernel_rfl) fun K hK => ?_
  refine s1 (d := dB false) T_asg ?_
  refine .nil (hK _ _ ?_)
  refine AW.seq ?_
  refine rg hx (by kernel_rfl) fun K hK => ?_
  obtain ⟨x1, hx2, h⟩ := bnd_some h
  refine s1 (d := .ag [dI .i64 x1.vBase, dN, dI .i64 x1.vWant, dN]) (T_call rfl (w_link_New hx2) rfl lAn (.inl rfl)) ?_
  refine s1 (d := .pt 0 0) (T_alloc tb_25) ?_
  refine s0 (T_st (ds' := [dI .i64 x1.vBase, dN, dI .i64 x1.vWant, dN]) tb_25) ?_
  refine .nil (hK _ _ ?_)
  refine AW.seq ?_
  refine rg hx (by kernel_rfl) fun K hK => ?_
  obtain ⟨x3, hx4, h⟩ := bnd_some h
  refine s1 (d := .ag [dI .i64 x3.vBase, dN, dI .i64 x3.vWant, dN]) (T_call rfl (w_link_New hx4) rfl lAn (.inl rfl)) ?_
  refine s1 (d := .pt 1 0) (T_alloc tb_25) ?_
  refine s0 (T_st (ds' := [dI .i64 x3.vBase, dN, dI .i64 x3.vWant, dN]) tb_25) ?_
  refine .nil (hK _ _ ?_)
  refine AW.seq ?_
  refine rg hx (by kernel_rfl) fun K hK => ?_
  refine s1 (d := .ag [dI .i64 x1.vBase, dN, dI .i64 x1.vWant, dN]) (T_ldA tb_25) ?_
  obtain ⟨x5, hx6, h⟩ := bnd_some h
  refine s1 (T_call rfl (w_link_Send hx6) rfl (lA (le_ag (wc (lc_r _) (wc (lc_n rfl) (wc (lc_r _) (wc (lc_n rfl) wcn))))) (lA (le_refl' _) lAn)) (.inr ⟨_, rfl⟩)) ?_
  refine s1 T_mv ?_
  iterate 2 refine s1 T_ext ?_
  refine s0 (T_st (ds' := [dI .i64 x5.1.vBase, dL cS x5.1.vQueue, dI .i64 x5.1.vWant, dL c_Held x5.1.vHeld]) tb_25) ?_
  refine s1 T_as ?_
  refine .nil (hK _ _ ?_)
  refine AW.seq ?_
  refine rg hx (by kernel_rfl) fun K hK => ?_
  refine s1 (d := dG c_End x5.1) (T_ldA tb_25) ?_
  obtain ⟨x7, hx8, h⟩ := bnd_some h
  refine s1 (T_call rfl (w_link_Send hx8) (by simp only [List.map_cons, List.map_nil, List.all_cons, List.all_nil, Bool.and_true, Bool.and_eq_true]; exact ⟨pure_ex_G _ _, rfl⟩) (lA (le_refl' _) (lA (le_refl' _) lAn)) (.inr ⟨_, rfl⟩)) ?_
  refine s1 T_mv ?_
  iterate 2 refine s1 T_ext ?_
  refine s0 (T_st (ds' := [dI .i64 x7.1.vBase, dL cS x7.1.vQueue, dI .i64 x7.1.vWant, dL c_Held x7.1.vHeld]) tb_25) ?_
  refine s1 T_as ?_
  refine .nil (hK _ _ ?_)
  refine AW.seq ?_
  refine rg hx (by kernel_rfl) fun K hK => ?_
  refine s1 (d := dG c_End x7.1) (T_ldA tb_25) ?_
  obtain ⟨x9, hx10, h⟩ := bnd_some h
  refine s1 (T_call rfl (w_link_Send hx10) (by simp only [List.map_cons, List.map_nil, List.all_cons, List.all_nil, Bool.and_true, Bool.and_eq_true]; exact ⟨pure_ex_G _ _, rfl⟩) (lA (le_refl' _) (lA (le_refl' _) lAn)) (.inr ⟨_, rfl⟩)) ?_
  refine s1 T_mv ?_
  iterate 2 refine s1 T_ext ?_
  refine s0 (T_st (ds' := [dI .i64 x9.1.vBase, dL cS x9.1.vQueue, dI .i64 x9.1.vWant, dL c_Held x9.1.vHeld]) tb_25) ?_
  refine s1 T_as ?_
  refine .nil (hK _ _ ?_)
  iterate 2 refine AW.seq ?_
  obtain ⟨a15_0, hy, h⟩ := bnd_some h
  refine jn ((PE cx .normal (fun a15_0 => [(1, .pt 0 0), (2, .pt 1 0), (56, dB a15_0)]) fun a15_0 => ⟨[(0, [dI .i64 x9.1.vBase, dL cS x9.1.vQueue, dI .i64 x9.1.vWant, dL c_Held x9.1.vHeld]), (1, [dI .i64 x3.vBase, dN, dI .i64 x3.vWant, dN])], [], 2⟩) a15_0) ?_ ?_
  replace h := hy
  refine rg hx (by kernel_rfl) fun K hK => ?_
  refine s1 T_mv ?_
  refine s1 T_neq ?_
  refine s1 T_mv ?_
  rcases Bool.eq_false_or_eq_true (decide (x5.2 ≠ (0 : Int))) with hb11 | hb11
  replace h := cnd_t hb11 h
  iterate 2 refine no_t rfl rfl hb11 ?_
  refine s1 (d := dB true) (T_pickT hb11) ?_
  refine s1 T_mv ?_
  iterate 2 refine no_t rfl rfl rfl ?_
  refine s1 (d := dB true) (T_pickT rfl) ?_
  refine s1 T_mv ?_
  iterate 3 refine no_t rfl rfl rfl ?_
  refine s1 (d := dB true) (T_pickT rfl) ?_
  refine s1 T_mv ?_
  iterate 2 refine no_t rfl rfl rfl ?_
  refine s1 (d := dB true) (T_pickT rfl) ?_
  refine s1 T_mv ?_
  iterate 3 refine no_t rfl rfl rfl ?_
  refine s1 (d := dB true) (T_pickT rfl) ?_
  refine .nil (hK _ _ ?_)
  obtain rfl := Option.some.inj h
  exact PE.i (wk h0 [0, 1] (wR rfl (wR rfl (wR rfl wTn))) (vR rfl (vR rfl wVn)) wLn)
  replace h := cnd_f hb11 h
  refine g1 hb11 T_mv ?_
  refine g1 hb11 T_neq ?_
  refine s1 (d := dB (decide (x7.2 ≠ (0 : Int)))) (T_pickF hb11) ?_
  refine s1 T_mv ?_
  rcases Bool.eq_false_or_eq_true (decide (x7.2 ≠ (0 : Int))) with hb12 | hb12
  replace h := cnd_t hb12 h
  iterate 2 refine no_t rfl rfl hb12 ?_
  refine s1 (d := dB true) (T_pickT hb12) ?_
  refine s1 T_mv ?_
  iterate 3 refine no_t rfl rfl rfl ?_
  refine s1 (d := dB true) (T_pickT rfl) ?_
  refine s1 T_mv ?_
  iterate 2 refine no_t rfl rfl rfl ?_
  refine s1 (d := dB true) (T_pickT rfl) ?_
  refine s1 T_mv ?_
  iterate 3 refine no_t rfl rfl rfl ?_
  refine s1 (d := dB true) (T_pickT rfl) ?_
  refine .nil (hK _ _ ?_)
  obtain rfl := Option.some.inj h
  exact PE.i (wk h0 [0, 1] (wR rfl (wR rfl (wR rfl wTn))) (vR rfl (vR rfl wVn)) wLn)
  replace h := cnd_f hb12 h
  refine g1 hb12 T_mv ?_
  refine g1 hb12 T_neq ?_
  refine s1 (d := dB (decide (x9.2 ≠ (0 : Int)))) (T_pickF hb12) ?_
  refine s1 T_mv ?_
  rcases Bool.eq_false_or_eq_true (decide (x9.2 ≠ (0 : Int))) with hb13 | hb13
  replace h := cnd_t hb13 h
  iterate 3 refine no_t rfl rfl hb13 ?_
  refine s1 (d := dB true) (T_pickT hb13) ?_
  refine s1 T_mv ?_
  iterate 2 refine no_t rfl rfl rfl ?_
  refine s1 (d := dB true) (T_pickT rfl) ?_
  refine s1 T_mv ?_
  iterate 3 refine no_t rfl rfl rfl ?_
  refine s1 (d := dB true) (T_pickT rfl) ?_
  refine .nil (hK _ _ ?_)
  obtain rfl := Option.some.inj h
  exact PE.i (wk h0 [0, 1] (wR rfl (wR rfl (wR rfl wTn))) (vR rfl (vR rfl wVn)) wLn)
  replace h := cnd_f hb13 h
  refine g1 (d := dG c_End x9.1) hb13 (T_ldA tb_25) ?_
  obtain ⟨x14, hx15, h⟩ := bnd_some h
  refine g1 (d := dI .i64 x14) hb13 (T_call rfl (w_link_Check hx15) (by simp only [List.map_cons, List.map_nil, List.all_cons, List.all_nil, Bool.and_true, Bool.and_eq_true]; exact pure_ex_G _ _) (lA (le_refl' _) lAn) (.inl rfl)) ?_
  refine g1 hb13 T_neq ?_
  refine s1 (d := dB (decide (x14 ≠ (0 : Int)))) (T_pickF hb13) ?_
  refine s1 T_mv ?_
  rcases Bool.eq_false_or_eq_true (decide (x14 ≠ (0 : Int))) with hb16 | hb16
  replace h := cnd_t hb16 h
  iterate 2 refine no_t rfl rfl hb16 ?_
  refine s1 (d := dB true) (T_pickT hb16) ?_
  refine s1 T_mv ?_
  iterate 3 refine no_t rfl rfl rfl ?_
  refine s1 (d := dB true) (T_pickT rfl) ?_
  refine .nil (hK _ _ ?_)
  obtain rfl := Option.some.inj h
  exact PE.i (wk h0 [0, 1] (wR rfl (wR rfl (wR rfl wTn))) (vR rfl (vR rfl wVn)) wLn)
  replace h := cnd_f hb16 h
  refine g1 (d := dG c_End x9.1) hb16 (T_ldA tb_25) ?_
  obtain ⟨x17, hx18, h⟩ := bnd_some h
  refine g1 (d := dB x17) hb16 (T_call rfl (w_link_Idle hx18) (by simp only [List.map_cons, List.map_nil, List.all_cons, List.all_nil, Bool.and_true, Bool.and_eq_true]; exact pure_ex_G _ _) (lA (le_refl' _) lAn) (.inl rfl)) ?_
  refine s1 (d := dB x17) (T_pickF hb16) ?_
  refine s1 T_mv ?_
  rcases Bool.eq_false_or_eq_true x17 with hb19 | hb19
  replace h := cnd_t hb19 h
  iterate 3 refine no_t rfl rfl hb19 ?_
  refine s1 (d := dB true) (T_pickT hb19) ?_
  refine .nil (hK _ _ ?_)
  obtain rfl := Option.some.inj h
  exact PE.i (wk h0 [0, 1] (wR rfl (wR rfl (wR rfl wTn))) (vR rfl (vR rfl wVn)) wLn)
  replace h := cnd_f hb19 h
  refine g1 (d := .ag [dI .i64 x3.vBase, dN, dI .i64 x3.vWant, dN]) hb19 (T_ldA tb_25) ?_
  obtain ⟨x20, hx21, h⟩ := bnd_some h
  refine g1 (d := dB x20) hb19 (T_call rfl (w_link_Idle hx21) rfl (lA (le_ag (wc (lc_r _) (wc (lc_n rfl) (wc (lc_r _) (wc (lc_n rfl) wcn))))) lAn) (.inl rfl)) ?_
  refine g1 hb19 T_not ?_
  refine s1 (d := dB (!x20)) (T_pickF hb19) ?_
  refine .nil (hK _ _ ?_)
  obtain rfl := Option.some.inj h
  exact PE.i (wk h0 [0, 1] (wR rfl (wR rfl (wR rfl wTn))) (vR rfl (vR rfl wVn)) wLn)
  rintro ex tm' hp' ⟨rfl, hw⟩
  refine AW.weak hw ?_
  refine AW.condS rfl (fun hb23 => ?_) (fun hb23 => ?_)
  replace h := cnd_t hb23 h
  refine AW.seq ?_
  refine rg hx (by kernel_rfl) fun K hK => ?_
  refine s1 (d := dB false) T_asg ?_
  refine .nil (hK _ _ ?_)
  refine AW.ret ?_
  obtain rfl := Option.some.inj h
  exact RetV.mk1 (resD_t rfl (.inr (.inr ⟨_, (le_refl' _), rfl, rfl⟩)))
  replace h := cnd_f hb23 h
  refine AW.skip ?_
  refine AW.seq ?_
  refine rg hx (by kernel_rfl) fun K hK => ?_
  refine s1 (d := dG c_End x9.1) (T_ldA tb_25) ?_
  obtain ⟨x24, hx25, h⟩ := bnd_some h
  refine s1 (d := dO 2 c_Frame x24) (T_callO rfl (w_link_Frames hx25) (by simp only [List.map_cons, List.map_nil, List.all_cons, List.all_nil, Bool.and_true, Bool.and_eq_true]; exact pure_ex_G _ _) (lA (le_refl' _) lAn)) ?_
  refine s1 T_as ?_
  refine .nil (hK _ _ ?_)
  iterate 2 refine AW.seq ?_
  obtain ⟨a25_0, hy, h⟩ := bnd_some h
  refine jn ((PE cx .normal (fun a25_0 => [(1, .pt 0 0), (2, .pt 1 0), (6, dO 2 c_Frame x24), (73, dB a25_0)]) fun a25_0 => ⟨[(0, [dI .i64 x9.1.vBase, dL cS x9.1.vQueue, dI .i64 x9.1.vWant, dL c_Held x9.1.vHeld]), (1, [dI .i64 x3.vBase, dN, dI .i64 x3.vWant, dN])], [(2, (x24).length, 3, 27)], 3⟩) a25_0) ?_ ?_
  replace h := hy
  refine rg hx (by kernel_rfl) fun K hK => ?_
  refine s1 T_mv ?_
  refine s1 (d := dG c_Frame (⟨(1 : Int), (1 : Int), (⟨#[97]⟩ : ByteArray)⟩ : S_Frame)) (T_build tb_27) ?_
  refine s1 (d := dG c_Frame (⟨(2 : Int), (1 : Int), (⟨#[98]⟩ : ByteArray)⟩ : S_Frame)) (T_build tb_27) ?_
  refine s1 (d := dG c_Frame (⟨(3 : Int), (1 : Int), (⟨#[99]⟩ : ByteArray)⟩ : S_Frame)) (T_build tb_27) ?_
  refine s1 (d := dO 3 c_Frame [(⟨(1 : Int), (1 : Int), (⟨#[97]⟩ : ByteArray)⟩ : S_Frame), (⟨(2 : Int), (1 : Int), (⟨#[98]⟩ : ByteArray)⟩ : S_Frame), (⟨(3 : Int), (1 : Int), (⟨#[99]⟩ : ByteArray)⟩ : S_Frame)]) (T_bsl tb_45 tb_27) ?_
  obtain ⟨x26, hx27, h⟩ := bnd_some h
  refine s1 (d := dB x26) (T_call rfl (w_ref42_SameFrames hx27) rfl (lA (le_refl' _) (lA (le_refl' _) lAn)) (.inl rfl)) ?_
  refine s1 T_not ?_
  refine s1 T_mv ?_
  rcases Bool.eq_false_or_eq_true (!x26) with hb28 | hb28
  replace h := cnd_t hb28 h
  iterate 6 refine no_t rfl rfl hb28 ?_
  refine s1 (d := dB true) (T_pickT hb28) ?_
  refine .nil (hK _ _ ?_)
  obtain rfl := Option.some.inj h
  exact PE.i (wk h0 [0, 1, 2] (wR rfl (wR rfl (wR rfl (wR rfl wTn)))) (vR rfl (vR rfl wVn)) (wL rfl rfl wLn))
  replace h := cnd_f hb28 h
  refine g1 (d := .ag [dI .i64 x3.vBase, dN, dI .i64 x3.vWant, dN]) hb28 (T_ldA tb_25) ?_
  obtain ⟨x29, hx30, h⟩ := bnd_some h
  refine g1 (d := dO 4 c_Frame x29) hb28 (T_callO rfl (w_link_Frames hx30) rfl (lA (le_ag (wc (lc_r _) (wc (lc_n rfl) (wc (lc_r _) (wc (lc_n rfl) wcn))))) lAn)) ?_
  refine g1 (d := dG c_Frame (⟨(0 : Int), (1 : Int), ByteArray.empty⟩ : S_Frame)) hb28 (T_build tb_27) ?_
  refine g1 (d := dO 5 c_Frame [(⟨(0 : Int), (1 : Int), ByteArray.empty⟩ : S_Frame)]) hb28 (T_bsl tb_45 tb_27) ?_
  obtain ⟨x31, hx32, h⟩ := bnd_some h
  refine g1 (d := dB x31) hb28 (T_call rfl (w_ref42_SameFrames hx32) rfl (lA (le_refl' _) (lA (le_refl' _) lAn)) (.inl rfl)) ?_
  refine g1 hb28 T_not ?_
  refine s1 (d := dB (!x31)) (T_pickF hb28) ?_
  refine .nil (hK _ _ ?_)
  obtain rfl := Option.some.inj h
  exact PE.i (wk h0 [0, 1, 2] (wR rfl (wR rfl (wR rfl (wR rfl wTn)))) (vR rfl (vR rfl wVn)) (wL rfl rfl wLn))
  rintro ex tm' hp' ⟨rfl, hw⟩
  refine AW.weak hw ?_
  refine AW.condS rfl (fun hb34 => ?_) (fun hb34 => ?_)
  replace h := cnd_t hb34 h
  refine AW.seq ?_
  refine rg hx (by kernel_rfl) fun K hK => ?_
  refine s1 (d := dB false) T_asg ?_
  refine .nil (hK _ _ ?_)
  refine AW.ret ?_
  obtain rfl := Option.some.inj h
  exact RetV.mk1 (resD_t rfl (.inr (.inr ⟨_, (le_refl' _), rfl, rfl⟩)))
  replace h := cnd_f hb34 h
  refine AW.skip ?_
  refine AW.seq ?_
  refine rd [14] hx (by kernel_rfl) (by kernel_rfl) fun K hK => ?_
  refine s1 (d := .ag [dI .i64 x3.vBase, dN, dI .i64 x3.vWant, dN]) (T_ldA tb_25) ?_
  refine s1 T_mv ?_
  obtain ⟨hc35, h⟩ := gd_some h
  have hn36 : ((1 : Int)).toNat < (x24).length := by omega
  refine s1 (T_iaS hc35 tb_45 tb_27) ?_
  refine s1 (d := dG c_Frame ((x24)[((1 : Int)).toNat]!)) (T_ldG (c := c_Frame) (l := x24) (n := ((1 : Int)).toNat) (o := 0) tb_27 hn36 (whole_G _ _ rfl)) ?_
  obtain ⟨x37, hx38, h⟩ := bnd_some h
  refine sq tok (w_link_Receive hx38) (by simp only [List.map_cons, List.map_nil, List.all_cons, List.all_nil, Bool.and_true, Bool.and_eq_true]; exact ⟨rfl, pure_ex_G _ _⟩) (lA (le_ag (wc (lc_r _) (wc (lc_n rfl) (wc (lc_r _) (wc (lc_n rfl) wcn))))) (lA (le_refl' _) lAn)) (.inr ⟨_, rfl⟩) ?_
  refine s1 T_mv ?_
  iterate 2 refine s1 T_ext ?_
  refine s1 (d := .pt 3 0) (T_alloc tb_25) ?_
  refine s0 (T_st (ds' := [dI .i64 x37.1.vBase, dL cS x37.1.vQueue, dI .i64 x37.1.vWant, dL c_Held x37.1.vHeld]) tb_25) ?_
  refine s1 T_as ?_
  refine .nil (hK _ _ ?_)
  refine AW.seq ?_
  refine rd [14] hx (by kernel_rfl) (by kernel_rfl) fun K hK => ?_
  refine s1 (d := dG c_End x37.1) (T_ldA tb_25) ?_
  refine s1 T_mv ?_
  obtain ⟨hc39, h⟩ := gd_some h
  have hn40 : ((0 : Int)).toNat < (x24).length := by omega
  refine s1 (T_iaS hc39 tb_45 tb_27) ?_
  refine s1 (d := dG c_Frame ((x24)[((0 : Int)).toNat]!)) (T_ldG (c := c_Frame) (l := x24) (n := ((0 : Int)).toNat) (o := 0) tb_27 hn40 (whole_G _ _ rfl)) ?_
  obtain ⟨x41, hx42, h⟩ := bnd_some h
  refine sq tok (w_link_Receive hx42) (by simp only [List.map_cons, List.map_nil, List.all_cons, List.all_nil, Bool.and_true, Bool.and_eq_true]; exact ⟨pure_ex_G _ _, pure_ex_G _ _⟩) (lA (le_refl' _) (lA (le_refl' _) lAn)) (.inr ⟨_, rfl⟩) ?_
  refine s1 T_mv ?_
  iterate 2 refine s1 T_ext ?_
  refine s1 (d := .pt 4 0) (T_alloc tb_25) ?_
  refine s0 (T_st (ds' := [dI .i64 x41.1.vBase, dL cS x41.1.vQueue, dI .i64 x41.1.vWant, dL c_Held x41.1.vHeld]) tb_25) ?_
  refine s1 T_as ?_
  refine .nil (hK _ _ ?_)
  refine AW.seq ?_
  refine rd [14] hx (by kernel_rfl) (by kernel_rfl) fun K hK => ?_
  refine s1 (d := dG c_End x41.1) (T_ldA tb_25) ?_
  refine s1 T_mv ?_
  obtain ⟨hc43, h⟩ := gd_some h
  have hn44 : ((0 : Int)).toNat < (x24).length := by omega
  refine s1 (T_iaS hc43 tb_45 tb_27) ?_
  refine s1 (d := dG c_Frame ((x24)[((0 : Int)).toNat]!)) (T_ldG (c := c_Frame) (l := x24) (n := ((0 : Int)).toNat) (o := 0) tb_27 hn44 (whole_G _ _ rfl)) ?_
  obtain ⟨x45, hx46, h⟩ := bnd_some h
  refine sq tok (w_link_Receive hx46) (by simp only [List.map_cons, List.map_nil, List.all_cons, List.all_nil, Bool.and_true, Bool.and_eq_true]; exact ⟨pure_ex_G _ _, pure_ex_G _ _⟩) (lA (le_refl' _) (lA (le_refl' _) lAn)) (.inr ⟨_, rfl⟩) ?_
  refine s1 T_mv ?_
  iterate 2 refine s1 T_ext ?_
  refine s1 (d := .pt 5 0) (T_alloc tb_25) ?_
  refine s0 (T_st (ds' := [dI .i64 x45.1.vBase, dL cS x45.1.vQueue, dI .i64 x45.1.vWant, dL c_Held x45.1.vHeld]) tb_25) ?_
  refine s1 T_as ?_
  refine .nil (hK _ _ ?_)
  refine AW.seq ?_
  refine rg hx (by kernel_rfl) fun K hK => ?_
  refine s1 (d := dG c_End x9.1) (T_ldA tb_25) ?_
  refine s1 (d := dG c_Frame (⟨(0 : Int), (3 : Int), ByteArray.empty⟩ : S_Frame)) (T_build tb_27) ?_
  obtain ⟨x47, hx48, h⟩ := bnd_some h
  refine s1 (T_call rfl (w_link_Receive hx48) (by simp only [List.map_cons, List.map_nil, List.all_cons, List.all_nil, Bool.and_true, Bool.and_eq_true]; exact ⟨pure_ex_G _ _, pure_ex_G _ _⟩) (lA (le_refl' _) (lA (le_refl' _) lAn)) (.inr ⟨_, rfl⟩)) ?_
  refine s1 T_mv ?_
  iterate 2 refine s1 T_ext ?_
  refine s1 (d := .pt 6 0) (T_alloc tb_25) ?_
  refine s0 (T_st (ds' := [dI .i64 x47.1.vBase, dL cS x47.1.vQueue, dI .i64 x47.1.vWant, dL c_Held x47.1.vHeld]) tb_25) ?_
  refine s1 T_as ?_
  refine .nil (hK _ _ ?_)
  refine AW.seq ?_
  obtain ⟨a40_0, hy, h⟩ := bnd_some h
  refine jn ((PE cx .normal (fun a40_0 => [(9, .pt 0 0), (10, dL cS x41.2), (11, .pt 1 0), (12, dL cS x45.2), (13, .pt 2 0), (14, dL cS x47.2), (15, dB a40_0)]) fun a40_0 => ⟨[(0, [dI .i64 x41.1.vBase, dL cS x41.1.vQueue, dI .i64 x41.1.vWant, dL c_Held x41.1.vHeld]), (1, [dI .i64 x45.1.vBase, dL cS x45.1.vQueue, dI .i64 x45.1.vWant, dL c_Held x45.1.vHeld]), (2, [dI .i64 x47.1.vBase, dL cS x47.1.vQueue, dI .i64 x47.1.vWant, dL c_Held x47.1.vHeld])], [], 3⟩) a40_0) ?_ ?_
  replace h := hy
  refine rg hx (by kernel_rfl) fun K hK => ?_
  refine s1 T_mv ?_
  refine s1 (d := dI .i64 ((x37.2).length : Int)) (T_len tb_22 tb_9) ?_
  refine s1 T_eql ?_
  refine s1 T_mv ?_
  rcases Bool.eq_false_or_eq_true (decide (((x37.2).length : Int) = (0 : Int))) with hb49 | hb49
  replace h := cnd_t hb49 h
  refine g1 hb49 (T_faP tb_25 tb_23) ?_
  refine g1 (d := dL c_Held x37.1.vHeld) hb49 (T_ldC tb_23) ?_
  refine g1 (d := dI .i64 ((x37.1.vHeld).length : Int)) hb49 (T_len tb_23 tb_74) ?_
  refine g1 hb49 T_eql ?_
  refine s1 (d := dB (decide (((x37.1.vHeld).length : Int) = (1 : Int)))) (T_pickT hb49) ?_
  refine s1 T_mv ?_
  rcases Bool.eq_false_or_eq_true (decide (((x37.1.vHeld).length : Int) = (1 : Int))) with hb50 | hb50
  replace h := cnd_t hb50 h
  refine g1 hb50 (T_faP tb_25 tb_23) ?_
  refine g1 (d := dL c_Held x37.1.vHeld) hb50 (T_ldC tb_23) ?_
  obtain ⟨hc51, h⟩ := gd_some h
  have hn52 : ((0 : Int)).toNat < (x37.1.vHeld).length := by omega
  refine g1 hb50 (T_iaS hc51 tb_23 tb_74) ?_
  refine g1 (d := dG c_Held ((x37.1.vHeld)[((0 : Int)).toNat]!)) hb50 (T_ldG (c := c_Held) (l := x37.1.vHeld) (n := ((0 : Int)).toNat) (o := 0) tb_74 hn52 (whole_G _ _ rfl)) ?_
  refine g1 (d := dG c_Held (⟨(2 : Int), (⟨#[98]⟩ : ByteArray)⟩ : S_Held)) hb50 (T_build tb_74) ?_
  refine g1 hb50 (T_geql tok 6 (by decide) tb_74 rfl (by kernel_rfl) (by kernel_rfl) rfl rfl rfl rfl (eqF_Held _) (eqF_Held _) (eqI_Held _ _)) ?_
  refine s1 (d := dB (decide ((x37.1.vHeld)[((0 : Int)).toNat]! = (⟨(2 : Int), (⟨#[98]⟩ : ByteArray)⟩ : S_Held)))) (T_pickT hb50) ?_
  obtain ⟨x53, hx54, h⟩ := bnd_some h
  replace hx54 := Option.some.inj hx54
  refine s2 (d2 := dB x53) T_as (le_eq (congrArg dB hx54)) ?_
  refine .nil (hK _ _ ?_)
  obtain rfl := Option.some.inj h
  exact PE.i (wk h0 [4, 5, 6] (wR rfl (wR rfl (wR rfl (wR rfl (wR rfl (wR rfl (wR rfl wTn))))))) (vR rfl (vR rfl (vR rfl wVn))) wLn)
  replace h := cnd_f hb50 h
  iterate 6 refine no_t rfl rfl hb50 ?_
  refine s1 (d := dB false) (T_pickF hb50) ?_
  refine s1 T_as ?_
  refine .nil (hK _ _ ?_)
  obtain rfl := Option.some.inj h
  exact PE.i (wk h0 [4, 5, 6] (wR rfl (wR rfl (wR rfl (wR rfl (wR rfl (wR rfl (wR rfl wTn))))))) (vR rfl (vR rfl (vR rfl wVn))) wLn)
  replace h := cnd_f hb49 h
  iterate 4 refine no_t rfl rfl hb49 ?_
  refine s1 (d := dB false) (T_pickF hb49) ?_
  refine s1 T_mv ?_
  iterate 6 refine no_t rfl rfl rfl ?_
  refine s1 (d := dB false) (T_pickF rfl) ?_
  refine s1 T_as ?_
  refine .nil (hK _ _ ?_)
  obtain rfl := Option.some.inj h
  exact PE.i (wk h0 [4, 5, 6] (wR rfl (wR rfl (wR rfl (wR rfl (wR rfl (wR rfl (wR rfl wTn))))))) (vR rfl (vR rfl (vR rfl wVn))) wLn)
  rintro ex tm' hp' ⟨rfl, hw⟩
  refine AW.weak hw ?_
  refine AW.seq ?_
  obtain ⟨a42_0, hy, h⟩ := bnd_some h
  refine jn ((PE cx .normal (fun a42_0 => [(0, dB a42_0)]) fun a42_0 => ⟨[], [], 0⟩) a42_0) ?_ ?_
  replace h := hy
  refine rg hx (by kernel_rfl) fun K hK => ?_
  iterate 2 refine s1 T_mv ?_
  rcases Bool.eq_false_or_eq_true a40_0 with hb56 | hb56
  replace h := cnd_t hb56 h
  refine g1 hb56 T_mv ?_
  refine g1 (d := dO 3 cS [(⟨#[97]⟩ : ByteArray), (⟨#[98]⟩ : ByteArray)]) hb56 (T_bsl tb_22 tb_9) ?_
  obtain ⟨x57, hx58, h⟩ := bnd_some h
  refine g1 (d := dB x57) hb56 (T_call rfl (w_ref01_SameTexts hx58) rfl (lA (le_refl' _) (lA (le_refl' _) lAn)) (.inl rfl)) ?_
  refine s1 (d := dB x57) (T_pickT hb56) ?_
  refine s1 T_mv ?_
  rcases Bool.eq_false_or_eq_true x57 with hb59 | hb59
  replace h := cnd_t hb59 h
  refine g1 hb59 (T_faP tb_25 tb_3) ?_
  refine g1 (d := dI .i64 x41.1.vWant) hb59 (T_ldC tb_3) ?_
  refine g1 hb59 T_eql ?_
  refine s1 (d := dB (decide (x41.1.vWant = (3 : Int)))) (T_pickT hb59) ?_
  refine s1 T_mv ?_
  rcases Bool.eq_false_or_eq_true (decide (x41.1.vWant = (3 : Int))) with hb60 | hb60
  replace h := cnd_t hb60 h
  refine g1 hb60 T_mv ?_
  refine g1 (d := dI .i64 ((x45.2).length : Int)) hb60 (T_len tb_22 tb_9) ?_
  refine g1 hb60 T_eql ?_
  refine s1 (d := dB (decide (((x45.2).length : Int) = (0 : Int)))) (T_pickT hb60) ?_
  refine s1 T_mv ?_
  rcases Bool.eq_false_or_eq_true (decide (((x45.2).length : Int) = (0 : Int))) with hb61 | hb61
  replace h := cnd_t hb61 h
  refine g1 (d := dG c_End x41.1) hb61 (T_ldA tb_25) ?_
  refine g1 (d := dG c_End x45.1) hb61 (T_ldA tb_25) ?_
  obtain ⟨x62, hx63, h⟩ := bnd_some h
  refine g1 (d := dB x62) hb61 (T_call rfl (w_ref42_Same hx63) (by simp only [List.map_cons, List.map_nil, List.all_cons, List.all_nil, Bool.and_true, Bool.and_eq_true]; exact ⟨pure_ex_G _ _, pure_ex_G _ _⟩) (lA (le_refl' _) (lA (le_refl' _) lAn)) (.inl rfl)) ?_
  refine s1 (d := dB x62) (T_pickT hb61) ?_
  refine s1 T_mv ?_
  rcases Bool.eq_false_or_eq_true x62 with hb64 | hb64
  replace h := cnd_t hb64 h
  refine g1 hb64 T_mv ?_
  refine g1 (d := dI .i64 ((x47.2).length : Int)) hb64 (T_len tb_22 tb_9) ?_
  refine g1 hb64 T_eql ?_
  refine s1 (d := dB (decide (((x47.2).length : Int) = (0 : Int)))) (T_pickT hb64) ?_
  refine s1 T_mv ?_
  rcases Bool.eq_false_or_eq_true (decide (((x47.2).length : Int) = (0 : Int))) with hb65 | hb65
  replace h := cnd_t hb65 h
  refine g1 (d := dG c_End x47.1) hb65 (T_ldA tb_25) ?_
  refine g1 (d := dO 4 cS [(⟨#[99]⟩ : ByteArray)]) hb65 (T_bsl tb_22 tb_9) ?_
  refine g1 (d := .ag [dI .i64 (3 : Int), dO 4 cS [(⟨#[99]⟩ : ByteArray)], dI .i64 (1 : Int), dN]) hb65 (T_build tb_25) ?_
  obtain ⟨x66, hx67, h⟩ := bnd_some h
  refine g1 (d := dB x66) hb65 (T_call rfl (w_ref42_Same hx67) (by simp only [List.map_cons, List.map_nil, List.all_cons, List.all_nil, Bool.and_true, Bool.and_eq_true]; exact ⟨pure_ex_G _ _, rfl⟩) (lA (le_refl' _) (lA (le_ag (wc (lc_r _) (wc (lc_r _) (wc (lc_r _) (wc (lc_n rfl) wcn))))) lAn)) (.inl rfl)) ?_
  refine s1 (d := dB x66) (T_pickT hb65) ?_
  refine s1 T_as ?_
  refine .nil (hK _ _ ?_)
  obtain rfl := Option.some.inj h
  exact PE.i (wk h0 [] (wR rfl wTn) wVn wLn)
  replace h := cnd_f hb65 h
  iterate 4 refine no_t rfl rfl hb65 ?_
  refine s1 (d := dB false) (T_pickF hb65) ?_
  refine s1 T_as ?_
  refine .nil (hK _ _ ?_)
  obtain rfl := Option.some.inj h
  exact PE.i (wk h0 [] (wR rfl wTn) wVn wLn)
  replace h := cnd_f hb64 h
  iterate 3 refine no_t rfl rfl hb64 ?_
  refine s1 (d := dB false) (T_pickF hb64) ?_
  refine s1 T_mv ?_
  iterate 4 refine no_t rfl rfl rfl ?_
  refine s1 (d := dB false) (T_pickF rfl) ?_
  refine s1 T_as ?_
  refine .nil (hK _ _ ?_)
  obtain rfl := Option.some.inj h
  exact PE.i (wk h0 [] (wR rfl wTn) wVn wLn)
  replace h := cnd_f hb61 h
  iterate 3 refine no_t rfl rfl hb61 ?_
  refine s1 (d := dB false) (T_pickF hb61) ?_
  refine s1 T_mv ?_
  iterate 3 refine no_t rfl rfl rfl ?_
  refine s1 (d := dB false) (T_pickF rfl) ?_
  refine s1 T_mv ?_
  iterate 4 refine no_t rfl rfl rfl ?_
  refine s1 (d := dB false) (T_pickF rfl) ?_
  refine s1 T_as ?_
  refine .nil (hK _ _ ?_)
  obtain rfl := Option.some.inj h
  exact PE.i (wk h0 [] (wR rfl wTn) wVn wLn)
  replace h := cnd_f hb60 h
  iterate 3 refine no_t rfl rfl hb60 ?_
  refine s1 (d := dB false) (T_pickF hb60) ?_
  refine s1 T_mv ?_
  iterate 3 refine no_t rfl rfl rfl ?_
  refine s1 (d := dB false) (T_pickF rfl) ?_
  refine s1 T_mv ?_
  iterate 3 refine no_t rfl rfl rfl ?_
  refine s1 (d := dB false) (T_pickF rfl) ?_
  refine s1 T_mv ?_
  iterate 4 refine no_t rfl rfl rfl ?_
  refine s1 (d := dB false) (T_pickF rfl) ?_
  refine s1 T_as ?_
  refine .nil (hK _ _ ?_)
  obtain rfl := Option.some.inj h
  exact PE.i (wk h0 [] (wR rfl wTn) wVn wLn)
  replace h := cnd_f hb59 h
  iterate 3 refine no_t rfl rfl hb59 ?_
  refine s1 (d := dB false) (T_pickF hb59) ?_
  refine s1 T_mv ?_
  iterate 3 refine no_t rfl rfl rfl ?_
  refine s1 (d := dB false) (T_pickF rfl) ?_
  refine s1 T_mv ?_
  iterate 3 refine no_t rfl rfl rfl ?_
  refine s1 (d := dB false) (T_pickF rfl) ?_
  refine s1 T_mv ?_
  iterate 3 refine no_t rfl rfl rfl ?_
  refine s1 (d := dB false) (T_pickF rfl) ?_
  refine s1 T_mv ?_
  iterate 4 refine no_t rfl rfl rfl ?_
  refine s1 (d := dB false) (T_pickF rfl) ?_
  refine s1 T_as ?_
  refine .nil (hK _ _ ?_)
  obtain rfl := Option.some.inj h
  exact PE.i (wk h0 [] (wR rfl wTn) wVn wLn)
  replace h := cnd_f hb56 h
  iterate 3 refine no_t rfl rfl hb56 ?_
  refine s1 (d := dB false) (T_pickF hb56) ?_
  refine s1 T_mv ?_
  iterate 3 refine no_t rfl rfl rfl ?_
  refine s1 (d := dB false) (T_pickF rfl) ?_
  refine s1 T_mv ?_
  iterate 3 refine no_t rfl rfl rfl ?_
  refine s1 (d := dB false) (T_pickF rfl) ?_
  refine s1 T_mv ?_
  iterate 3 refine no_t rfl rfl rfl ?_
  refine s1 (d := dB false) (T_pickF rfl) ?_
  refine s1 T_mv ?_
  iterate 3 refine no_t rfl rfl rfl ?_
  refine s1 (d := dB false) (T_pickF rfl) ?_
  refine s1 T_mv ?_
  iterate 4 refine no_t rfl rfl rfl ?_
  refine s1 (d := dB false) (T_pickF rfl) ?_
  refine s1 T_as ?_
  refine .nil (hK _ _ ?_)
  obtain rfl := Option.some.inj h
  exact PE.i (wk h0 [] (wR rfl wTn) wVn wLn)
  rintro ex tm' hp' ⟨rfl, hw⟩
  refine AW.weak hw ?_
  refine AW.ret ?_
  obtain rfl := Option.some.inj h
  exact RetV.mk1 (resD_t rfl (.inr (.inr ⟨_, (le_refl' _), rfl, rfl⟩)))
noncomputable def g_law42_LinkRunsAsSpecified_l25 (p_l : List S_Op) : Int × Int × (List ByteArray) × (List ByteArray) × S_End × S_End × S_End × S_End × (List S_Frame) × (List S_Frame) → Option ((Int × Int × (List ByteArray) × (List ByteArray) × S_End × S_End × S_End × S_End × (List S_Frame) × (List S_Frame)) ⊕ (Bool ⊕ ((List ByteArray) × (List ByteArray) × S_End × S_End × S_End × S_End))) := fun (a25_0, a25_1, a25_2, a25_3, a25_4, a25_5, a25_6, a25_7, a25_8, a25_9) => cnd (decide (a25_1 < ((p_l).length : Int))) (bnd (S := (Int × (List ByteArray) × (List ByteArray) × S_End × S_End × S_End × S_End × (List S_Frame) × (List S_Frame)) ⊕ Bool) (gd (0 ≤ a25_1 ∧ a25_1 < ((p_l).length : Int)) (bnd (some (Int.tmod (IntKind.i64.wrap ((p_l)[(a25_1).toNat]!.vSide)) (2 : Int))) fun x15 => gd (0 ≤ a25_1 ∧ a25_1 < ((p_l).length : Int)) (cnd (decide ((Int.tmod ((p_l)[(a25_1).toNat]!.vKind) (5 : Int)) = (0 : Int))) (bnd (S := S_End × S_End) (cnd (decide (x15 = 0)) (bnd (g_law42_word x15 (IntKind.i64.wrap (a25_0 + (1 : Int)))) fun x21 => bnd (g_link_Send a25_6 x21) fun x23 => some ((x23.1, a25_7))) (gd (0 ≤ x15 ∧ x15 < 2) (bnd (g_law42_word x15 (IntKind.i64.wrap (a25_0 + (1 : Int)))) fun x27 => bnd (g_link_Send a25_7 x27) fun x29 => some ((a25_6, x29.1))))) fun (a45_0, a45_1) => cnd (decide (x15 = 0)) (bnd (g_law42_word x15 (IntKind.i64.wrap (a25_0 + (1 : Int)))) fun x33 => bnd (g_ref42_Send a25_4 x33) fun x35 => some (.inl (IntKind.i64.wrap (a25_0 + (1 : Int)), a25_2, a25_3, x35.vX, a25_5, a45_0, a45_1, a25_8, a25_9))) (gd (0 ≤ x15 ∧ x15 < 2) (bnd (g_law42_word x15 (IntKind.i64.wrap (a25_0 + (1 : Int)))) fun x39 => bnd (g_ref42_Send a25_5 x39) fun x41 => some (.inl (IntKind.i64.wrap (a25_0 + (1 : Int)), a25_2, a25_3, a25_4, x41.vX, a45_0, a45_1, a25_8, a25_9))))) (cnd (decide ((Int.tmod ((p_l)[(a25_1).toNat]!.vKind) (5 : Int)) = (1 : Int))) (bnd (S := (List S_Frame) × (List S_Frame)) (bnd (S := Bool) (cnd (decide (IntKind.i64.wrap ((1 : Int) - x15) = 0)) (some (decide (((a25_8).length : Int) < (100 : Int)))) (gd (0 ≤ IntKind.i64.wrap ((1 : Int) - x15) ∧ IntKind.i64.wrap ((1 : Int) - x15) < 2) (some (decide (((a25_9).length : Int) < (100 : Int)))))) fun a52_0 => cnd a52_0 (cnd (decide (IntKind.i64.wrap ((1 : Int) - x15) = 0)) (cnd (decide (x15 = 0)) (bnd (g_ref42_Frames a25_4) fun x51 => gd ((a25_8 ++ x51).length * 32 ≤ 140737488355328) (some ((a25_8 ++ x51, a25_9)))) (gd (0 ≤ x15 ∧ x15 < 2) (bnd (g_ref42_Frames a25_5) fun x56 => gd ((a25_8 ++ x56).length * 32 ≤ 140737488355328) (some ((a25_8 ++ x56, a25_9)))))) (gd (0 ≤ IntKind.i64.wrap ((1 : Int) - x15) ∧ IntKind.i64.wrap ((1 : Int) - x15) < 2) (cnd (decide (x15 = 0)) (bnd (g_ref42_Frames a25_4) fun x62 => gd ((a25_9 ++ x62).length * 32 ≤ 140737488355328) (some ((a25_8, a25_9 ++ x62)))) (gd (0 ≤ x15 ∧ x15 < 2) (bnd (g_ref42_Frames a25_5) fun x67 => gd ((a25_9 ++ x67).length * 32 ≤ 140737488355328) (some ((a25_8, a25_9 ++ x67)))))))) (some ((a25_8, a25_9)))) fun (a51_0, a51_1) => bnd (S := Bool) (cnd (decide (x15 = 0)) (bnd (g_link_Frames a25_6) fun x72 => bnd (g_ref42_Frames a25_4) fun x74 => bnd (g_ref42_SameFrames x72 x74) fun x76 => some (!x76)) (gd (0 ≤ x15 ∧ x15 < 2) (bnd (g_link_Frames a25_7) fun x80 => bnd (g_ref42_Frames a25_5) fun x82 => bnd (g_ref42_SameFrames x80 x82) fun x84 => some (!x84)))) fun a57_0 => cnd a57_0 (some (.inr false)) (some (.inl (a25_0, a25_2, a25_3, a25_4, a25_5, a25_6, a25_7, a51_0, a51_1)))) (bnd (S := Bool) (cnd (decide (x15 = 0)) (some (decide (((a25_8).length : Int) = (0 : Int)))) (gd (0 ≤ x15 ∧ x15 < 2) (some (decide (((a25_9).length : Int) = (0 : Int)))))) fun a65_0 => cnd a65_0 (some (.inl (a25_0, a25_2, a25_3, a25_4, a25_5, a25_6, a25_7, a25_8, a25_9))) (bnd (S := Int) (gd (0 ≤ a25_1 ∧ a25_1 < ((p_l).length : Int)) (cnd (decide (x15 = 0)) (gd (((a25_8).length : Int) ≠ 0) (bnd (some (Int.tmod (IntKind.i64.wrap ((p_l)[(a25_1).toNat]!.vN)) ((a25_8).length : Int))) fun x97 => some (x97))) (gd (0 ≤ x15 ∧ x15 < 2) (gd (((a25_9).length : Int) ≠ 0) (bnd (some (Int.tmod (IntKind.i64.wrap ((p_l)[(a25_1).toNat]!.vN)) ((a25_9).length : Int))) fun x102 => some (x102)))))) fun a70_0 => bnd (S := S_Frame) (cnd (decide (x15 = 0)) (gd (0 ≤ a70_0 ∧ a70_0 < ((a25_8).length : Int)) (some (((a25_8)[(a70_0).toNat]!)))) (gd (0 ≤ x15 ∧ x15 < 2) (gd (0 ≤ a70_0 ∧ a70_0 < ((a25_9).length : Int)) (some (((a25_9)[(a70_0).toNat]!)))))) fun a72_0 => bnd (S := (List S_Frame) × (List S_Frame)) (gd (0 ≤ a25_1 ∧ a25_1 < ((p_l).length : Int)) (cnd (decide ((Int.tmod ((p_l)[(a25_1).toNat]!.vKind) (5 : Int)) ≠ (3 : Int))) (cnd (decide (x15 = 0)) (gd (0 ≤ (0 : Int) ∧ (0 : Int) ≤ a70_0 ∧ a70_0 ≤ ((a25_8).length : Int)) (gd ((([] : List S_Frame) ++ (subL a25_8 (0 : Int) a70_0)).length * 32 ≤ 140737488355328) (gd (0 ≤ IntKind.i64.wrap (a70_0 + (1 : Int)) ∧ IntKind.i64.wrap (a70_0 + (1 : Int)) ≤ ((a25_8).length : Int) ∧ ((a25_8).length : Int) ≤ ((a25_8).length : Int)) (gd (((([] : List S_Frame) ++ (subL a25_8 (0 : Int) a70_0)) ++ (subL a25_8 (IntKind.i64.wrap (a70_0 + (1 : Int))) ((a25_8).length : Int))).length * 32 ≤ 140737488355328) (some (((([] : List S_Frame) ++ (subL a25_8 (0 : Int) a70_0)) ++ (subL a25_8 (IntKind.i64.wrap (a70_0 + (1 : Int))) ((a25_8).length : Int)), a25_9))))))) (gd (0 ≤ x15 ∧ x15 < 2) (gd (0 ≤ (0 : Int) ∧ (0 : Int) ≤ a70_0 ∧ a70_0 ≤ ((a25_9).length : Int)) (gd ((([] : List S_Frame) ++ (subL a25_9 (0 : Int) a70_0)).length * 32 ≤ 140737488355328) (gd (0 ≤ IntKind.i64.wrap (a70_0 + (1 : Int)) ∧ IntKind.i64.wrap (a70_0 + (1 : Int)) ≤ ((a25_9).length : Int) ∧ ((a25_9).length : Int) ≤ ((a25_9).length : Int)) (gd (((([] : List S_Frame) ++ (subL a25_9 (0 : Int) a70_0)) ++ (subL a25_9 (IntKind.i64.wrap (a70_0 + (1 : Int))) ((a25_9).length : Int))).length * 32 ≤ 140737488355328) (some ((a25_8, (([] : List S_Frame) ++ (subL a25_9 (0 : Int) a70_0)) ++ (subL a25_9 (IntKind.i64.wrap (a70_0 + (1 : Int))) ((a25_9).length : Int))))))))))) (some ((a25_8, a25_9))))) fun (a74_0, a74_1) => gd (0 ≤ a25_1 ∧ a25_1 < ((p_l).length : Int)) (cnd (decide ((Int.tmod ((p_l)[(a25_1).toNat]!.vKind) (5 : Int)) = (4 : Int))) (some (.inl (a25_0, a25_2, a25_3, a25_4, a25_5, a25_6, a25_7, a74_0, a74_1))) (bnd (S := (List ByteArray) × S_End) (cnd (decide (x15 = 0)) (bnd (g_link_Receive a25_6 a72_0) fun x132 => some ((x132.2, x132.1))) (gd (0 ≤ x15 ∧ x15 < 2) (bnd (g_link_Receive a25_7 a72_0) fun x136 => some ((x136.2, x136.1))))) fun (a86_0, a86_1) => bnd (S := S_Got) (cnd (decide (x15 = 0)) (bnd (g_ref42_Receive a25_4 a72_0) fun x140 => some (x140)) (gd (0 ≤ x15 ∧ x15 < 2) (bnd (g_ref42_Receive a25_5 a72_0) fun x144 => some (x144)))) fun a88_0 => bnd (S := Bool) (bnd (g_ref01_SameTexts a86_0 a88_0.vL) fun x147 => cnd (!x147) (some (true)) (bnd (g_ref42_Same a86_1 a88_0.vX) fun x150 => some (!x150))) fun a91_0 => cnd a91_0 (some (.inr false)) (bnd (S := S_End × S_End) (cnd (decide (x15 = 0)) (some ((a86_1, a25_7))) (gd (0 ≤ x15 ∧ x15 < 2) (some ((a25_6, a86_1))))) fun (a98_0, a98_1) => bnd (S := S_End × S_End) (cnd (decide (x15 = 0)) (some ((a88_0.vX, a25_5))) (gd (0 ≤ x15 ∧ x15 < 2) (some ((a25_4, a88_0.vX))))) fun (a100_0, a100_1) => cnd (decide (x15 = 0)) (gd ((a25_2 ++ a86_0).length * 16 ≤ 140737488355328) (some (.inl (a25_0, a25_2 ++ a86_0, a25_3, a100_0, a100_1, a98_0, a98_1, a74_0, a74_1)))) (gd (0 ≤ x15 ∧ x15 < 2) (gd ((a25_3 ++ a86_0).length * 16 ≤ 140737488355328) (some (.inl (a25_0, a25_2, a25_3 ++ a86_0, a100_0, a100_1, a98_0, a98_1, a74_0, a74_1)))))))))))))) fun y167 => match y167 with | .inl (a33_0, a33_1, a33_2, a33_3, a33_4, a33_5, a33_6, a33_7, a33_8) => some (.inl (a33_0, IntKind.i64.wrap (a25_1 + (1 : Int)), a33_1, a33_2, a33_3, a33_4, a33_5, a33_6, a33_7, a33_8)) | .inr r => some (.inr (.inl r))) (some (.inr (.inr (a25_2, a25_3, a25_4, a25_5, a25_6, a25_7))))
noncomputable def g_law42_LinkRunsAsSpecified (p_l : List S_Op) : Option Bool := cnd (decide ((300 : Int) < ((p_l).length : Int))) (bnd (g_law42_sanity) fun x2 => some x2) (bnd (g_ref42_New) fun x4 => bnd (g_ref42_New) fun x6 => bnd (g_link_New) fun x8 => bnd (g_link_New) fun x10 => bnd (loopO (g_law42_LinkRunsAsSpecified_l25 p_l) ((0 : Int), (0 : Int), ([] : List ByteArray), ([] : List ByteArray), (⟨x4.vBase, ([] : List ByteArray), x4.vWant, ([] : List S_Held)⟩ : S_End), (⟨x6.vBase, ([] : List ByteArray), x6.vWant, ([] : List S_Held)⟩ : S_End), (⟨x8.vBase, ([] : List ByteArray), x8.vWant, ([] : List S_Held)⟩ : S_End), (⟨x10.vBase, ([] : List ByteArray), x10.vWant, ([] : List S_Held)⟩ : S_End), ([] : List S_Frame), ([] : List S_Frame))) fun y168 => match y168 with | .inl r => some r | .inr (a25e0_0, a25e0_1, a25e0_2, a25e0_3, a25e0_4, a25e0_5) => bnd (S := Bool) (bnd (g_law42_sanity) fun x169 => cnd x169 (bnd (g_ref42_Same a25e0_2 a25e0_4) fun x172 => cnd x172 (bnd (g_ref42_Same a25e0_3 a25e0_5) fun x175 => cnd x175 (cnd (decide ((IntKind.i64.wrap (((a25e0_0).length : Int) + (1 : Int))) = a25e0_2.vWant)) (some (decide ((IntKind.i64.wrap (((a25e0_1).length : Int) + (1 : Int))) = a25e0_3.vWant))) (some (false))) (some (false))) (some (false))) (some (false))) fun a104_0 => some a104_0)
theorem w_law42_LinkRunsAsSpecified {p_l : List S_Op} {r : Bool} (h : g_law42_LinkRunsAsSpecified p_l = some r) : PCalls Try.prog 4 [dL c_Op p_l] (dB r) := by
  refine PCalls.of (rs := [.tmp 2]) tok Try.func4 rfl rfl (Nat.le_of_ble_eq_true rfl) rfl (fun cx hx h0 => ?_)
  simp only [argsT, Nat.reduceAdd, Nat.zero_add]
  unfold g_law42_LinkRunsAsSpecified at h
  refine AW.seq ?_
  refine rg hx (by kernel_rfl) fun K hK => ?_
  refine s1 (d := dB false) T_asg ?_
  refine .nil (hK _ _ ?_)
  iterate 2 refine AW.seq ?_
  refine rg hx (by kernel_rfl) fun K hK => ?_
  refine s1 T_mv ?_
  refine s1 (d := dI .i64 ((p_l).length : Int)) (T_len tb_48 tb_55) ?_
  refine s1 T_gtr ?_
  refine .nil (hK _ _ ?_)
  refine AW.condS rfl (fun hb1 => ?_) (fun hb1 => ?_)
  replace h := cnd_t hb1 h
  refine AW.seq ?_
  refine rg hx (by kernel_rfl) fun K hK => ?_
  obtain ⟨x2, hx3, h⟩ := bnd_some h
  refine s1 (d := dB x2) (T_call rfl (w_law42_sanity hx3) rfl lAn (.inl rfl)) ?_
  refine s1 T_as ?_
  refine .nil (hK _ _ ?_)
  refine AW.ret ?_
  obtain rfl := Option.some.inj h
  exact RetV.mk1 (resD_t rfl (.inr (.inr ⟨_, (le_refl' _), rfl, rfl⟩)))
  replace h := cnd_f hb1 h
  refine AW.skip ?_
  refine AW.seq ?_
  refine rg hx (by kernel_rfl) fun K hK => ?_
  refine s1 (d := .pt 0 0) (T_alloc tb_49) ?_
  refine .nil (hK _ _ ?_)
  refine AW.seq ?_
  refine rg hx (by kernel_rfl) fun K hK => ?_
  obtain ⟨x4, hx5, h⟩ := bnd_some h
  refine s1 (d := .ag [dI .i64 x4.vBase, dN, dI .i64 x4.vWant, dN]) (T_call rfl (w_ref42_New hx5) rfl lAn (.inl rfl)) ?_
  obtain ⟨x6, hx7, h⟩ := bnd_some h
  refine s1 (d := .ag [dI .i64 x6.vBase, dN, dI .i64 x6.vWant, dN]) (T_call rfl (w_ref42_New hx7) rfl lAn (.inl rfl)) ?_
  refine s1 (d := .ag [dI .i64 x4.vBase, dN, dI .i64 x4.vWant, dN, dI .i64 x6.vBase, dN, dI .i64 x6.vWant, dN]) (T_buildA tb_51 tb_25) ?_
  refine s1 (d := .pt 1 0) (T_alloc tb_51) ?_
  refine s0 (T_st (ds' := [dI .i64 x4.vBase, dN, dI .i64 x4.vWant, dN, dI .i64 x6.vBase, dN, dI .i64 x6.vWant, dN]) tb_51) ?_
  refine .nil (hK _ _ ?_)
  refine AW.seq ?_
  refine rg hx (by kernel_rfl) fun K hK => ?_
  obtain ⟨x8, hx9, h⟩ := bnd_some h
  refine s1 (d := .ag [dI .i64 x8.vBase, dN, dI .i64 x8.vWant, dN]) (T_call rfl (w_link_New hx9) rfl lAn (.inl rfl)) ?_
  obtain ⟨x10, hx11, h⟩ := bnd_some h
  refine s1 (d := .ag [dI .i64 x10.vBase, dN, dI .i64 x10.vWant, dN]) (T_call rfl (w_link_New hx11) rfl lAn (.inl rfl)) ?_
  refine s1 (d := .ag [dI .i64 x8.vBase, dN, dI .i64 x8.vWant, dN, dI .i64 x10.vBase, dN, dI .i64 x10.vWant, dN]) (T_buildA tb_51 tb_25) ?_
  refine s1 (d := .pt 2 0) (T_alloc tb_51) ?_
  refine s0 (T_st (ds' := [dI .i64 x8.vBase, dN, dI .i64 x8.vWant, dN, dI .i64 x10.vBase, dN, dI .i64 x10.vWant, dN]) tb_51) ?_
  refine .nil (hK _ _ ?_)
  refine AW.seq ?_
  refine rg hx (by kernel_rfl) fun K hK => ?_
  refine s1 (d := .pt 3 0) (T_alloc tb_52) ?_
  refine .nil (hK _ _ ?_)
  refine AW.seq ?_
  refine rg hx (by kernel_rfl) fun K hK => ?_
  refine s1 (d := dI .i64 (0 : Int)) T_asg ?_
  refine .nil (hK _ _ ?_)
  iterate 2 refine AW.seq ?_
  refine rg hx (by kernel_rfl) fun K hK => ?_
  refine s1 (d := dI .i64 (0 : Int)) T_asg ?_
  refine .nil (hK _ _ ?_)
  refine AW.block ?_
  obtain ⟨y, hy, h⟩ := bnd_some h
  refine lp (S := Int × Int × (List ByteArray) × (List ByteArray) × S_End × S_End × S_End × S_End × (List S_Frame) × (List S_Frame)) (X := Bool ⊕ ((List ByteArray) × (List ByteArray) × S_End × S_End × S_End × S_End)) (fun (a25_0, a25_1, a25_2, a25_3, a25_4, a25_5, a25_6, a25_7, a25_8, a25_9) => [(0, dL c_Op p_l), (3, .pt 0 0), (4, .pt 1 0), (5, .pt 2 0), (6, .pt 3 0), (7, dI .i64 a25_0), (8, dI .i64 a25_1)]) (fun (a25_0, a25_1, a25_2, a25_3, a25_4, a25_5, a25_6, a25_7, a25_8, a25_9) => ⟨[(0, [dO 4 cS a25_2, dO 5 cS a25_3]), (1, [dI .i64 a25_4.vBase, dL cS a25_4.vQueue, dI .i64 a25_4.vWant, dL c_Held a25_4.vHeld, dI .i64 a25_5.vBase, dL cS a25_5.vQueue, dI .i64 a25_5.vWant, dL c_Held a25_5.vHeld]), (2, [dI .i64 a25_6.vBase, dL cS a25_6.vQueue, dI .i64 a25_6.vWant, dL c_Held a25_6.vHeld, dI .i64 a25_7.vBase, dL cS a25_7.vQueue, dI .i64 a25_7.vWant, dL c_Held a25_7.vHeld]), (3, [dO 6 c_Frame a25_8, dO 7 c_Frame a25_9])], [(4, (a25_2).length, 1, 9), (5, (a25_3).length, 1, 9), (6, (a25_8).length, 3, 27), (7, (a25_9).length, 3, 27)], 8⟩) (PS (PR [.tmp 2] fun r => dB r) (PE cx (.exit 0) (fun (a25e0_0, a25e0_1, a25e0_2, a25e0_3, a25e0_4, a25e0_5) => [(3, .pt 0 0), (4, .pt 1 0), (5, .pt 2 0)]) fun (a25e0_0, a25e0_1, a25e0_2, a25e0_3, a25e0_4, a25e0_5) => ⟨[(0, [dO 3 cS a25e0_0, dO 4 cS a25e0_1]), (1, [dI .i64 a25e0_2.vBase, dL cS a25e0_2.vQueue, dI .i64 a25e0_2.vWant, dL c_Held a25e0_2.vHeld, dI .i64 a25e0_3.vBase, dL cS a25e0_3.vQueue, dI .i64 a25e0_3.vWant, dL c_Held a25e0_3.vHeld]), (2, [dI .i64 a25e0_4.vBase, dL cS a25e0_4.vQueue, dI .i64 a25e0_4.vWant, dL c_Held a25e0_4.vHeld, dI .i64 a25e0_5.vBase, dL cS a25e0_5.vQueue, dI .i64 a25e0_5.vWant, dL c_Held a25e0_5.vHeld])], [(3, (a25e0_0).length, 1, 9), (4, (a25e0_1).length, 1, 9)], 5⟩)) hy ?_ ?_ ?_
  exact Wk.trans (Wk.nilOwn (ds' := [dO 4 cS ([] : List ByteArray), dN]) 0 0 9 1) (Wk.trans (Wk.nilOwn (ds' := [dO 4 cS ([] : List ByteArray), dO 5 cS ([] : List ByteArray)]) 0 1 9 1) (Wk.trans (Wk.nilOwn (ds' := [dO 6 c_Frame ([] : List S_Frame), dN]) 3 0 27 3) (Wk.trans (Wk.nilOwn (ds' := [dO 6 c_Frame ([] : List S_Frame), dO 7 c_Frame ([] : List S_Frame)]) 3 1 27 3) (wk h0 [0, 1, 2, 3, 4, 5, 6, 7] (wR rfl (wR rfl (wR rfl (wR rfl (wR rfl (wR rfl (wR rfl wTn))))))) (vR rfl (wV rfl rfl (wc (lc_r _) (wc (lc_n rfl) (wc (lc_r _) (wc (lc_n rfl) (wc (lc_r _) (wc (lc_n rfl) (wc (lc_r _) (wc (lc_n rfl) wcn)))))))) rfl rfl (wV rfl rfl (wc (lc_r _) (wc (lc_n rfl) (wc (lc_r _) (wc (lc_n rfl) (wc (lc_r _) (wc (lc_n rfl) (wc (lc_r _) (wc (lc_n rfl) wcn)))))))) rfl rfl (vR rfl wVn)))) (wL rfl rfl (wL rfl rfl (wL rfl rfl (wL rfl rfl wLn))))))))
  clear hy h
  rintro ⟨a25_0, a25_1, a25_2, a25_3, a25_4, a25_5, a25_6, a25_7, a25_8, a25_9⟩ y h
  dsimp only [g_law42_LinkRunsAsSpecified_l25] at h
  iterate 2 refine AW.seq ?_
  refine rg hx (by kernel_rfl) fun K hK => ?_
  iterate 2 refine s1 T_mv ?_
  refine s1 (d := dI .i64 ((p_l).length : Int)) (T_len tb_48 tb_55) ?_
  refine s1 T_lss ?_
  refine .nil (hK _ _ ?_)
  refine AW.condS rfl (fun hb12 => ?_) (fun hb12 => ?_)
  replace h := cnd_t hb12 h
  refine AW.skip ?_
  refine AW.seq ?_
  obtain ⟨y, hy, h⟩ := bnd_some h
  refine jn ((PS (PE cx .normal (fun (a33_0, a33_1, a33_2, a33_3, a33_4, a33_5, a33_6, a33_7, a33_8) => [(0, dL c_Op p_l), (3, .pt 0 0), (4, .pt 1 0), (5, .pt 2 0), (6, .pt 3 0), (7, dI .i64 a33_0), (8, dI .i64 a25_1)]) fun (a33_0, a33_1, a33_2, a33_3, a33_4, a33_5, a33_6, a33_7, a33_8) => ⟨[(0, [dO 4 cS a33_1, dO 5 cS a33_2]), (1, [dI .i64 a33_3.vBase, dL cS a33_3.vQueue, dI .i64 a33_3.vWant, dL c_Held a33_3.vHeld, dI .i64 a33_4.vBase, dL cS a33_4.vQueue, dI .i64 a33_4.vWant, dL c_Held a33_4.vHeld]), (2, [dI .i64 a33_5.vBase, dL cS a33_5.vQueue, dI .i64 a33_5.vWant, dL c_Held a33_5.vHeld, dI .i64 a33_6.vBase, dL cS a33_6.vQueue, dI .i64 a33_6.vWant, dL c_Held a33_6.vHeld]), (3, [dO 6 c_Frame a33_7, dO 7 c_Frame a33_8])], [(4, (a33_1).length, 1, 9), (5, (a33_2).length, 1, 9), (6, (a33_7).length, 3, 27), (7, (a33_8).length, 3, 27)], 8⟩) (PR [.tmp 2] fun r => dB r)) y) ?_ ?_
  replace h := hy
  refine AW.block ?_
  refine AW.seq ?_
  refine rg hx (by kernel_rfl) fun K hK => ?_
  iterate 2 refine s1 T_mv ?_
  obtain ⟨hc13, h⟩ := gd_some h
  have hn14 : (a25_1).toNat < (p_l).length := by omega
  refine s1 (T_iaS hc13 tb_48 tb_55) ?_
  refine s1 (T_faF tb_55 tb_5) ?_
  refine s1 (d := dI .u8 ((p_l)[(a25_1).toNat]!.vSide)) (T_ldF (c := c_Op) (l := p_l) (n := (a25_1).toNat) (o := 1) tb_5 hn14) ?_
  refine s1 (d := dI .i64 (IntKind.i64.wrap ((p_l)[(a25_1).toNat]!.vSide))) (T_cvI tb_5 tb_3) ?_
  refine s1 (T_rem (b := (2 : Int)) (by decide)) ?_
  obtain ⟨x15, hx16, h⟩ := bnd_some h
  replace hx16 := Option.some.inj hx16
  refine s2 (d2 := dI .i64 x15) T_as (le_eq (congrArg (dI .i64) hx16)) ?_
  refine .nil (hK _ _ ?_)
  refine AW.seq ?_
  refine rg hx (by kernel_rfl) fun K hK => ?_
  iterate 2 refine s1 T_mv ?_
  obtain ⟨hc17, h⟩ := gd_some h
  have hn18 : (a25_1).toNat < (p_l).length := by omega
  refine s1 (T_iaS hc17 tb_48 tb_55) ?_
  refine s1 (T_faF tb_55 tb_5) ?_
  refine s1 (d := dI .u8 ((p_l)[(a25_1).toNat]!.vKind)) (T_ldF (c := c_Op) (l := p_l) (n := (a25_1).toNat) (o := 0) tb_5 hn18) ?_
  refine s1 (T_rem (b := (5 : Int)) (by decide)) ?_
  refine .nil (hK _ _ ?_)
  refine AW.block ?_
  refine AW.seq ?_
  refine rg hx (by kernel_rfl) fun K hK => ?_
  refine s1 T_eql ?_
  refine s1 T_as ?_
  refine .nil (hK _ _ ?_)
  refine AW.condS rfl (fun hb19 => ?_) (fun hb19 => ?_)
  replace h := cnd_t hb19 h
  refine AW.seq ?_
  refine rg hx (by kernel_rfl) fun K hK => ?_
  refine s1 T_mv ?_
  refine s1 T_add ?_
  refine s1 T_as ?_
  refine .nil (hK _ _ ?_)
  refine AW.seq ?_
  obtain ⟨y, hy, h⟩ := bnd_some h
  refine jn ((PE cx .normal (fun (a45_0, a45_1) => [(0, dL c_Op p_l), (3, .pt 0 0), (4, .pt 1 0), (5, .pt 2 0), (6, .pt 3 0), (7, dI .i64 (IntKind.i64.wrap (a25_0 + (1 : Int)))), (8, dI .i64 a25_1), (9, dI .i64 x15)]) fun (a45_0, a45_1) => ⟨[(0, [dO 4 cS a25_2, dO 5 cS a25_3]), (1, [dI .i64 a25_4.vBase, dL cS a25_4.vQueue, dI .i64 a25_4.vWant, dL c_Held a25_4.vHeld, dI .i64 a25_5.vBase, dL cS a25_5.vQueue, dI .i64 a25_5.vWant, dL c_Held a25_5.vHeld]), (2, [dI .i64 a45_0.vBase, dL cS a45_0.vQueue, dI .i64 a45_0.vWant, dL c_Held a45_0.vHeld, dI .i64 a45_1.vBase, dL cS a45_1.vQueue, dI .i64 a45_1.vWant, dL c_Held a45_1.vHeld]), (3, [dO 6 c_Frame a25_8, dO 7 c_Frame a25_9])], [(4, (a25_2).length, 1, 9), (5, (a25_3).length, 1, 9), (6, (a25_8).length, 3, 27), (7, (a25_9).length, 3, 27)], 8⟩) y) ?_ ?_
  replace h := hy
  refine rd [24, 12] hx (by kernel_rfl) (by kernel_rfl) fun K hK => ?_
  iterate 2 refine s1 T_mv ?_
  rcases Bool.eq_false_or_eq_true (decide (x15 = 0)) with hb20 | hb20
  replace h := cnd_t hb20 h
  refine s1 (T_iaK (n0 := 0) (n := 2) (v := x15) (of_decide_eq_true hb20) (by have := of_decide_eq_true hb20; omega) tb_51 tb_25) ?_
  refine s1 (d := dG c_End a25_6) (T_ldA tb_25) ?_
  iterate 2 refine s1 T_mv ?_
  obtain ⟨x21, hx22, h⟩ := bnd_some h
  refine sq tok (w_law42_word hx22) rfl (lA (le_refl' _) (lA (le_refl' _) lAn)) (.inl rfl) ?_
  obtain ⟨x23, hx24, h⟩ := bnd_some h
  refine sq tok (w_link_Send hx24) (by simp only [List.map_cons, List.map_nil, List.all_cons, List.all_nil, Bool.and_true, Bool.and_eq_true]; exact ⟨pure_ex_G _ _, rfl⟩) (lA (le_refl' _) (lA (le_refl' _) lAn)) (.inr ⟨_, rfl⟩) ?_
  refine s1 T_mv ?_
  iterate 2 refine s1 T_ext ?_
  refine s1 (T_iaK (n0 := 0) (n := 2) (v := x15) (of_decide_eq_true hb20) (by have := of_decide_eq_true hb20; omega) tb_51 tb_25) ?_
  refine s0 (T_st (ds' := [dI .i64 x23.1.vBase, dL cS x23.1.vQueue, dI .i64 x23.1.vWant, dL c_Held x23.1.vHeld, dI .i64 a25_7.vBase, dL cS a25_7.vQueue, dI .i64 a25_7.vWant, dL c_Held a25_7.vHeld]) tb_25) ?_
  refine .nil (hK _ _ ?_)
  obtain rfl := Option.some.inj h
  exact PE.i (wk h0 [0, 1, 2, 3, 4, 5, 6, 7] (wR rfl (wR rfl (wR rfl (wR rfl (wR rfl (wR rfl (wR rfl (wR rfl wTn)))))))) (vR rfl (vR rfl (vR rfl (vR rfl wVn)))) (wL rfl rfl (wL rfl rfl (wL rfl rfl (wL rfl rfl wLn)))))
  replace h := cnd_f hb20 h
  obtain ⟨hc25, h⟩ := gd_some h
  have hv26 : x15 = (1 : Int) := by have := of_decide_eq_false hb20; omega
  refine s1 (T_iaK (n0 := 1) hv26 hc25 tb_51 tb_25) ?_
  refine s1 (d := dG c_End a25_7) (T_ldA tb_25) ?_
  iterate 2 refine s1 T_mv ?_
  obtain ⟨x27, hx28, h⟩ := bnd_some h
  refine sq tok (w_law42_word hx28) rfl (lA (le_refl' _) (lA (le_refl' _) lAn)) (.inl rfl) ?_
  obtain ⟨x29, hx30, h⟩ := bnd_some h
  refine sq tok (w_link_Send hx30) (by simp only [List.map_cons, List.map_nil, List.all_cons, List.all_nil, Bool.and_true, Bool.and_eq_true]; exact ⟨pure_ex_G _ _, rfl⟩) (lA (le_refl' _) (lA (le_refl' _) lAn)) (.inr ⟨_, rfl⟩) ?_
  refine s1 T_mv ?_
  iterate 2 refine s1 T_ext ?_
  refine s1 (T_iaK (n0 := 1) (n := 2) (v := x15) (hv26) (by have := hv26; omega) tb_51 tb_25) ?_
  refine s0 (T_st (ds' := [dI .i64 a25_6.vBase, dL cS a25_6.vQueue, dI .i64 a25_6.vWant, dL c_Held a25_6.vHeld, dI .i64 x29.1.vBase, dL cS x29.1.vQueue, dI .i64 x29.1.vWant, dL c_Held x29.1.vHeld]) tb_25) ?_
  refine .nil (hK _ _ ?_)
  obtain rfl := Option.some.inj h
  exact PE.i (wk h0 [0, 1, 2, 3, 4, 5, 6, 7] (wR rfl (wR rfl (wR rfl (wR rfl (wR rfl (wR rfl (wR rfl (wR rfl wTn)))))))) (vR rfl (vR rfl (vR rfl (vR rfl wVn)))) (wL rfl rfl (wL rfl rfl (wL rfl rfl (wL rfl rfl wLn)))))
  obtain ⟨a45_0, a45_1⟩ := y
  rintro ex tm' hp' ⟨rfl, hw⟩
  refine AW.weak hw ?_
  refine rd [24, 13] hx (by kernel_rfl) (by kernel_rfl) fun K hK => ?_
  iterate 2 refine s1 T_mv ?_
  rcases Bool.eq_false_or_eq_true (decide (x15 = 0)) with hb32 | hb32
  replace h := cnd_t hb32 h
  refine s1 (T_iaK (n0 := 0) (n := 2) (v := x15) (of_decide_eq_true hb32) (by have := of_decide_eq_true hb32; omega) tb_51 tb_25) ?_
  refine s1 (d := dG c_End a25_4) (T_ldA tb_25) ?_
  iterate 2 refine s1 T_mv ?_
  obtain ⟨x33, hx34, h⟩ := bnd_some h
  refine sq tok (w_law42_word hx34) rfl (lA (le_refl' _) (lA (le_refl' _) lAn)) (.inl rfl) ?_
  obtain ⟨x35, hx36, h⟩ := bnd_some h
  refine sq tok (w_ref42_Send hx36) (by simp only [List.map_cons, List.map_nil, List.all_cons, List.all_nil, Bool.and_true, Bool.and_eq_true]; exact ⟨pure_ex_G _ _, rfl⟩) (lA (le_refl' _) (lA (le_refl' _) lAn)) (.inl (pure_G _ _)) ?_
  refine s1 (d := dG c_End x35.vX) (T_fldA tb_35 tb_25) ?_
  refine s1 (T_iaK (n0 := 0) (n := 2) (v := x15) (of_decide_eq_true hb32) (by have := of_decide_eq_true hb32; omega) tb_51 tb_25) ?_
  refine s0 (T_st (ds' := [dI .i64 x35.vX.vBase, dL cS x35.vX.vQueue, dI .i64 x35.vX.vWant, dL c_Held x35.vX.vHeld, dI .i64 a25_5.vBase, dL cS a25_5.vQueue, dI .i64 a25_5.vWant, dL c_Held a25_5.vHeld]) tb_25) ?_
  refine .nil (hK _ _ ?_)
  obtain rfl := Option.some.inj h
  exact PS.l (PE.i (wk h0 [0, 1, 2, 3, 4, 5, 6, 7] (wR rfl (wR rfl (wR rfl (wR rfl (wR rfl (wR rfl (wR rfl wTn))))))) (vR rfl (vR rfl (vR rfl (vR rfl wVn)))) (wL rfl rfl (wL rfl rfl (wL rfl rfl (wL rfl rfl wLn))))))
  replace h := cnd_f hb32 h
  obtain ⟨hc37, h⟩ := gd_some h
  have hv38 : x15 = (1 : Int) := by have := of_decide_eq_false hb32; omega
  refine s1 (T_iaK (n0 := 1) hv38 hc37 tb_51 tb_25) ?_
  refine s1 (d := dG c_End a25_5) (T_ldA tb_25) ?_
  iterate 2 refine s1 T_mv ?_
  obtain ⟨x39, hx40, h⟩ := bnd_some h
  refine sq tok (w_law42_word hx40) rfl (lA (le_refl' _) (lA (le_refl' _) lAn)) (.inl rfl) ?_
  obtain ⟨x41, hx42, h⟩ := bnd_some h
  refine sq tok (w_ref42_Send hx42) (by simp only [List.map_cons, List.map_nil, List.all_cons, List.all_nil, Bool.and_true, Bool.and_eq_true]; exact ⟨pure_ex_G _ _, rfl⟩) (lA (le_refl' _) (lA (le_refl' _) lAn)) (.inl (pure_G _ _)) ?_
  refine s1 (d := dG c_End x41.vX) (T_fldA tb_35 tb_25) ?_
  refine s1 (T_iaK (n0 := 1) (n := 2) (v := x15) (hv38) (by have := hv38; omega) tb_51 tb_25) ?_
  refine s0 (T_st (ds' := [dI .i64 a25_4.vBase, dL cS a25_4.vQueue, dI .i64 a25_4.vWant, dL c_Held a25_4.vHeld, dI .i64 x41.vX.vBase, dL cS x41.vX.vQueue, dI .i64 x41.vX.vWant, dL c_Held x41.vX.vHeld]) tb_25) ?_
  refine .nil (hK _ _ ?_)
  obtain rfl := Option.some.inj h
  exact PS.l (PE.i (wk h0 [0, 1, 2, 3, 4, 5, 6, 7] (wR rfl (wR rfl (wR rfl (wR rfl (wR rfl (wR rfl (wR rfl wTn))))))) (vR rfl (vR rfl (vR rfl (vR rfl wVn)))) (wL rfl rfl (wL rfl rfl (wL rfl rfl (wL rfl rfl wLn))))))
  replace h := cnd_f hb19 h
  refine AW.seq ?_
  refine rg hx (by kernel_rfl) fun K hK => ?_
  refine s1 T_eql ?_
  refine s1 T_as ?_
  refine .nil (hK _ _ ?_)
  refine AW.condS rfl (fun hb43 => ?_) (fun hb43 => ?_)
  replace h := cnd_t hb43 h
  refine AW.seq ?_
  obtain ⟨y, hy, h⟩ := bnd_some h
  refine jn ((PE cx .normal (fun (a51_0, a51_1) => [(0, dL c_Op p_l), (3, .pt 0 0), (4, .pt 1 0), (5, .pt 2 0), (6, .pt 3 0), (7, dI .i64 a25_0), (8, dI .i64 a25_1), (9, dI .i64 x15)]) fun (a51_0, a51_1) => ⟨[(0, [dO 4 cS a25_2, dO 5 cS a25_3]), (1, [dI .i64 a25_4.vBase, dL cS a25_4.vQueue, dI .i64 a25_4.vWant, dL c_Held a25_4.vHeld, dI .i64 a25_5.vBase, dL cS a25_5.vQueue, dI .i64 a25_5.vWant, dL c_Held a25_5.vHeld]), (2, [dI .i64 a25_6.vBase, dL cS a25_6.vQueue, dI .i64 a25_6.vWant, dL c_Held a25_6.vHeld, dI .i64 a25_7.vBase, dL cS a25_7.vQueue, dI .i64 a25_7.vWant, dL c_Held a25_7.vHeld]), (3, [dO 6 c_Frame a51_0, dO 7 c_Frame a51_1])], [(4, (a25_2).length, 1, 9), (5, (a25_3).length, 1, 9), (6, (a51_0).length, 3, 27), (7, (a51_1).length, 3, 27)], 8⟩) y) ?_ ?_
  replace h := hy
  refine AW.seq ?_
  obtain ⟨a52_0, hy, h⟩ := bnd_some h
  refine jn ((PE cx .normal (fun a52_0 => [(0, dL c_Op p_l), (3, .pt 0 0), (4, .pt 1 0), (5, .pt 2 0), (6, .pt 3 0), (7, dI .i64 a25_0), (8, dI .i64 a25_1), (9, dI .i64 x15), (168, dB a52_0)]) fun a52_0 => ⟨[(0, [dO 4 cS a25_2, dO 5 cS a25_3]), (1, [dI .i64 a25_4.vBase, dL cS a25_4.vQueue, dI .i64 a25_4.vWant, dL c_Held a25_4.vHeld, dI .i64 a25_5.vBase, dL cS a25_5.vQueue, dI .i64 a25_5.vWant, dL c_Held a25_5.vHeld]), (2, [dI .i64 a25_6.vBase, dL cS a25_6.vQueue, dI .i64 a25_6.vWant, dL c_Held a25_6.vHeld, dI .i64 a25_7.vBase, dL cS a25_7.vQueue, dI .i64 a25_7.vWant, dL c_Held a25_7.vHeld]), (3, [dO 6 c_Frame a25_8, dO 7 c_Frame a25_9])], [(4, (a25_2).length, 1, 9), (5, (a25_3).length, 1, 9), (6, (a25_8).length, 3, 27), (7, (a25_9).length, 3, 27)], 8⟩) a52_0) ?_ ?_
  replace h := hy
  refine rg hx (by kernel_rfl) fun K hK => ?_
  refine s1 T_mv ?_
  refine s1 T_sub ?_
  rcases Bool.eq_false_or_eq_true (decide (IntKind.i64.wrap ((1 : Int) - x15) = 0)) with hb44 | hb44
  replace h := cnd_t hb44 h
  refine s1 (T_iaK (n0 := 0) (n := 2) (v := IntKind.i64.wrap ((1 : Int) - x15)) (of_decide_eq_true hb44) (by have := of_decide_eq_true hb44; omega) tb_52 tb_45) ?_
  refine s1 (d := dO 6 c_Frame a25_8) (T_ldC tb_45) ?_
  refine s1 (d := dI .i64 ((a25_8).length : Int)) (T_len tb_45 tb_27) ?_
  refine s1 T_lss ?_
  refine .nil (hK _ _ ?_)
  obtain rfl := Option.some.inj h
  exact PE.i (wk h0 [0, 1, 2, 3, 4, 5, 6, 7] (wR rfl (wR rfl (wR rfl (wR rfl (wR rfl (wR rfl (wR rfl (wR rfl (wR rfl wTn))))))))) (vR rfl (vR rfl (vR rfl (vR rfl wVn)))) (wL rfl rfl (wL rfl rfl (wL rfl rfl (wL rfl rfl wLn)))))
  replace h := cnd_f hb44 h
  obtain ⟨hc45, h⟩ := gd_some h
  have hv46 : IntKind.i64.wrap ((1 : Int) - x15) = (1 : Int) := by have := of_decide_eq_false hb44; omega
  refine s1 (T_iaK (n0 := 1) hv46 hc45 tb_52 tb_45) ?_
  refine s1 (d := dO 7 c_Frame a25_9) (T_ldC tb_45) ?_
  refine s1 (d := dI .i64 ((a25_9).length : Int)) (T_len tb_45 tb_27) ?_
  refine s1 T_lss ?_
  refine .nil (hK _ _ ?_)
  obtain rfl := Option.some.inj h
  exact PE.i (wk h0 [0, 1, 2, 3, 4, 5, 6, 7] (wR rfl (wR rfl (wR rfl (wR rfl (wR rfl (wR rfl (wR rfl (wR rfl (wR rfl wTn))))))))) (vR rfl (vR rfl (vR rfl (vR rfl wVn)))) (wL rfl rfl (wL rfl rfl (wL rfl rfl (wL rfl rfl wLn)))))
  rintro ex tm' hp' ⟨rfl, hw⟩
  refine AW.weak hw ?_
  refine AW.condS rfl (fun hb48 => ?_) (fun hb48 => ?_)
  replace h := cnd_t hb48 h
  refine rd [] hx (by kernel_rfl) (by kernel_rfl) fun K hK => ?_
  refine s1 T_mv ?_
  refine s1 T_sub ?_
  refine s1 T_mv ?_
  refine s1 T_sub ?_
  rcases Bool.eq_false_or_eq_true (decide (IntKind.i64.wrap ((1 : Int) - x15) = 0)) with hb49 | hb49
  replace h := cnd_t hb49 h
  refine s1 (T_iaK (n0 := 0) (n := 2) (v := IntKind.i64.wrap ((1 : Int) - x15)) (of_decide_eq_true hb49) (by have := of_decide_eq_true hb49; omega) tb_52 tb_45) ?_
  refine s1 (d := dO 6 c_Frame a25_8) (T_ldC tb_45) ?_
  refine s1 T_mv ?_
  rcases Bool.eq_false_or_eq_true (decide (x15 = 0)) with hb50 | hb50
  replace h := cnd_t hb50 h
  refine s1 (T_iaK (n0 := 0) (n := 2) (v := x15) (of_decide_eq_true hb50) (by have := of_decide_eq_true hb50; omega) tb_51 tb_25) ?_
  refine s1 (d := dG c_End a25_4) (T_ldA tb_25) ?_
  obtain ⟨x51, hx52, h⟩ := bnd_some h
  refine s1 (d := dO 8 c_Frame x51) (T_callO rfl (w_ref42_Frames hx52) (by simp only [List.map_cons, List.map_nil, List.all_cons, List.all_nil, Bool.and_true, Bool.and_eq_true]; exact pure_ex_G _ _) (lA (le_refl' _) lAn)) ?_
  obtain ⟨hc53, h⟩ := gd_some h
  refine s1 (d := dO 6 c_Frame (a25_8 ++ x51)) (T_appO tb_45 tb_27 hc53) ?_
  refine s1 (T_iaK (n0 := 0) (n := 2) (v := IntKind.i64.wrap ((1 : Int) - x15)) (of_decide_eq_true hb49) (by have := of_decide_eq_true hb49; omega) tb_52 tb_45) ?_
  refine s0 (T_st (ds' := [dO 6 c_Frame (a25_8 ++ x51), dO 7 c_Frame a25_9]) tb_45) ?_
  refine .nil (hK _ _ ?_)
  obtain rfl := Option.some.inj h
  exact PE.i (wk h0 [0, 1, 2, 3, 4, 5, 6, 7] (wR rfl (wR rfl (wR rfl (wR rfl (wR rfl (wR rfl (wR rfl (wR rfl wTn)))))))) (vR rfl (vR rfl (vR rfl (vR rfl wVn)))) (wL rfl rfl (wL rfl rfl (wL rfl rfl (wL rfl rfl wLn)))))
  replace h := cnd_f hb50 h
  obtain ⟨hc54, h⟩ := gd_some h
  have hv55 : x15 = (1 : Int) := by have := of_decide_eq_false hb50; omega
  refine s1 (T_iaK (n0 := 1) hv55 hc54 tb_51 tb_25) ?_
  refine s1 (d := dG c_End a25_5) (T_ldA tb_25) ?_
  obtain ⟨x56, hx57, h⟩ := bnd_some h
  refine s1 (d := dO 8 c_Frame x56) (T_callO rfl (w_ref42_Frames hx57) (by simp only [List.map_cons, List.map_nil, List.all_cons, List.all_nil, Bool.and_true, Bool.and_eq_true]; exact pure_ex_G _ _) (lA (le_refl' _) lAn)) ?_
  obtain ⟨hc58, h⟩ := gd_some h
  refine s1 (d := dO 6 c_Frame (a25_8 ++ x56)) (T_appO tb_45 tb_27 hc58) ?_
  refine s1 (T_iaK (n0 := 0) (n := 2) (v := IntKind.i64.wrap ((1 : Int) - x15)) (of_decide_eq_true hb49) (by have := of_decide_eq_true hb49; omega) tb_52 tb_45) ?_
  refine s0 (T_st (ds' := [dO 6 c_Frame (a25_8 ++ x56), dO 7 c_Frame a25_9]) tb_45) ?_
  refine .nil (hK _ _ ?_)
  obtain rfl := Option.some.inj h
  exact PE.i (wk h0 [0, 1, 2, 3, 4, 5, 6, 7] (wR rfl (wR rfl (wR rfl (wR rfl (wR rfl (wR rfl (wR rfl (wR rfl wTn)))))))) (vR rfl (vR rfl (vR rfl (vR rfl wVn)))) (wL rfl rfl (wL rfl rfl (wL rfl rfl (wL rfl rfl wLn)))))
  replace h := cnd_f hb49 h
  obtain ⟨hc59, h⟩ := gd_some h
  have hv60 : IntKind.i64.wrap ((1 : Int) - x15) = (1 : Int) := by have := of_decide_eq_false hb49; omega
  refine s1 (T_iaK (n0 := 1) hv60 hc59 tb_52 tb_45) ?_
  refine s1 (d := dO 7 c_Frame a25_9) (T_ldC tb_45) ?_
  refine s1 T_mv ?_
  rcases Bool.eq_false_or_eq_true (decide (x15 = 0)) with hb61 | hb61
  replace h := cnd_t hb61 h
  refine s1 (T_iaK (n0 := 0) (n := 2) (v := x15) (of_decide_eq_true hb61) (by have := of_decide_eq_true hb61; omega) tb_51 tb_25) ?_
  refine s1 (d := dG c_End a25_4) (T_ldA tb_25) ?_
  obtain ⟨x62, hx63, h⟩ := bnd_some h
  refine s1 (d := dO 8 c_Frame x62) (T_callO rfl (w_ref42_Frames hx63) (by simp only [List.map_cons, List.map_nil, List.all_cons, List.all_nil, Bool.and_true, Bool.and_eq_true]; exact pure_ex_G _ _) (lA (le_refl' _) lAn)) ?_
  obtain ⟨hc64, h⟩ := gd_some h
  refine s1 (d := dO 7 c_Frame (a25_9 ++ x62)) (T_appO tb_45 tb_27 hc64) ?_
  refine s1 (T_iaK (n0 := 1) (n := 2) (v := IntKind.i64.wrap ((1 : Int) - x15)) (hv60) (by have := hv60; omega) tb_52 tb_45) ?_
  refine s0 (T_st (ds' := [dO 6 c_Frame a25_8, dO 7 c_Frame (a25_9 ++ x62)]) tb_45) ?_
  refine .nil (hK _ _ ?_)
  obtain rfl := Option.some.inj h
  exact PE.i (wk h0 [0, 1, 2, 3, 4, 5, 6, 7] (wR rfl (wR rfl (wR rfl (wR rfl (wR rfl (wR rfl (wR rfl (wR rfl wTn)))))))) (vR rfl (vR rfl (vR rfl (vR rfl wVn)))) (wL rfl rfl (wL rfl rfl (wL rfl rfl (wL rfl rfl wLn)))))
  replace h := cnd_f hb61 h
  obtain ⟨hc65, h⟩ := gd_some h
  have hv66 : x15 = (1 : Int) := by have := of_decide_eq_false hb61; omega
  refine s1 (T_iaK (n0 := 1) hv66 hc65 tb_51 tb_25) ?_
  refine s1 (d := dG c_End a25_5) (T_ldA tb_25) ?_
  obtain ⟨x67, hx68, h⟩ := bnd_some h
  refine s1 (d := dO 8 c_Frame x67) (T_callO rfl (w_ref42_Frames hx68) (by simp only [List.map_cons, List.map_nil, List.all_cons, List.all_nil, Bool.and_true, Bool.and_eq_true]; exact pure_ex_G _ _) (lA (le_refl' _) lAn)) ?_
  obtain ⟨hc69, h⟩ := gd_some h
  refine s1 (d := dO 7 c_Frame (a25_9 ++ x67)) (T_appO tb_45 tb_27 hc69) ?_
  refine s1 (T_iaK (n0 := 1) (n := 2) (v := IntKind.i64.wrap ((1 : Int) - x15)) (hv60) (by have := hv60; omega) tb_52 tb_45) ?_
  refine s0 (T_st (ds' := [dO 6 c_Frame a25_8, dO 7 c_Frame (a25_9 ++ x67)]) tb_45) ?_
  refine .nil (hK _ _ ?_)
  obtain rfl := Option.some.inj h
  exact PE.i (wk h0 [0, 1, 2, 3, 4, 5, 6, 7] (wR rfl (wR rfl (wR rfl (wR rfl (wR rfl (wR rfl (wR rfl (wR rfl wTn)))))))) (vR rfl (vR rfl (vR rfl (vR rfl wVn)))) (wL rfl rfl (wL rfl rfl (wL rfl rfl (wL rfl rfl wLn)))))
  replace h := cnd_f hb48 h
  refine AW.skip ?_
  obtain rfl := Option.some.inj h
  exact PE.i (wk h0 [0, 1, 2, 3, 4, 5, 6, 7] (wR rfl (wR rfl (wR rfl (wR rfl (wR rfl (wR rfl (wR rfl (wR rfl wTn)))))))) (vR rfl (vR rfl (vR rfl (vR rfl wVn)))) (wL rfl rfl (wL rfl rfl (wL rfl rfl (wL rfl rfl wLn)))))
  obtain ⟨a51_0, a51_1⟩ := y
  rintro ex tm' hp' ⟨rfl, hw⟩
  refine AW.weak hw ?_
  refine AW.seq ?_
  obtain ⟨a57_0, hy, h⟩ := bnd_some h
  refine jn ((PE cx .normal (fun a57_0 => [(0, dL c_Op p_l), (3, .pt 0 0), (4, .pt 1 0), (5, .pt 2 0), (6, .pt 3 0), (7, dI .i64 a25_0), (8, dI .i64 a25_1), (190, dB a57_0)]) fun a57_0 => ⟨[(0, [dO 4 cS a25_2, dO 5 cS a25_3]), (1, [dI .i64 a25_4.vBase, dL cS a25_4.vQueue, dI .i64 a25_4.vWant, dL c_Held a25_4.vHeld, dI .i64 a25_5.vBase, dL cS a25_5.vQueue, dI .i64 a25_5.vWant, dL c_Held a25_5.vHeld]), (2, [dI .i64 a25_6.vBase, dL cS a25_6.vQueue, dI .i64 a25_6.vWant, dL c_Held a25_6.vHeld, dI .i64 a25_7.vBase, dL cS a25_7.vQueue, dI .i64 a25_7.vWant, dL c_Held a25_7.vHeld]), (3, [dO 6 c_Frame a51_0, dO 7 c_Frame a51_1])], [(4, (a25_2).length, 1, 9), (5, (a25_3).length, 1, 9), (6, (a51_0).length, 3, 27), (7, (a51_1).length, 3, 27)], 8⟩) a57_0) ?_ ?_
  replace h := hy
  refine rd [18] hx (by kernel_rfl) (by kernel_rfl) fun K hK => ?_
  refine s1 T_mv ?_
  rcases Bool.eq_false_or_eq_true (decide (x15 = 0)) with hb71 | hb71
  replace h := cnd_t hb71 h
  refine s1 (T_iaK (n0 := 0) (n := 2) (v := x15) (of_decide_eq_true hb71) (by have := of_decide_eq_true hb71; omega) tb_51 tb_25) ?_
  refine s1 (d := dG c_End a25_6) (T_ldA tb_25) ?_
  obtain ⟨x72, hx73, h⟩ := bnd_some h
  refine s1 (d := dO 8 c_Frame x72) (T_callO rfl (w_link_Frames hx73) (by simp only [List.map_cons, List.map_nil, List.all_cons, List.all_nil, Bool.and_true, Bool.and_eq_true]; exact pure_ex_G _ _) (lA (le_refl' _) lAn)) ?_
  refine s1 T_mv ?_
  refine s1 (T_iaK (n0 := 0) (n := 2) (v := x15) (of_decide_eq_true hb71) (by have := of_decide_eq_true hb71; omega) tb_51 tb_25) ?_
  refine s1 (d := dG c_End a25_4) (T_ldA tb_25) ?_
  obtain ⟨x74, hx75, h⟩ := bnd_some h
  refine s1 (d := dO 9 c_Frame x74) (T_callO rfl (w_ref42_Frames hx75) (by simp only [List.map_cons, List.map_nil, List.all_cons, List.all_nil, Bool.and_true, Bool.and_eq_true]; exact pure_ex_G _ _) (lA (le_refl' _) lAn)) ?_
  obtain ⟨x76, hx77, h⟩ := bnd_some h
  refine sq tok (w_ref42_SameFrames hx77) rfl (lA (le_refl' _) (lA (le_refl' _) lAn)) (.inl rfl) ?_
  refine s1 T_not ?_
  refine .nil (hK _ _ ?_)
  obtain rfl := Option.some.inj h
  exact PE.i (wk h0 [0, 1, 2, 3, 4, 5, 6, 7] (wR rfl (wR rfl (wR rfl (wR rfl (wR rfl (wR rfl (wR rfl (wR rfl wTn)))))))) (vR rfl (vR rfl (vR rfl (vR rfl wVn)))) (wL rfl rfl (wL rfl rfl (wL rfl rfl (wL rfl rfl wLn)))))
  replace h := cnd_f hb71 h
  obtain ⟨hc78, h⟩ := gd_some h
  have hv79 : x15 = (1 : Int) := by have := of_decide_eq_false hb71; omega
  refine s1 (T_iaK (n0 := 1) hv79 hc78 tb_51 tb_25) ?_
  refine s1 (d := dG c_End a25_7) (T_ldA tb_25) ?_
  obtain ⟨x80, hx81, h⟩ := bnd_some h
  refine s1 (d := dO 8 c_Frame x80) (T_callO rfl (w_link_Frames hx81) (by simp only [List.map_cons, List.map_nil, List.all_cons, List.all_nil, Bool.and_true, Bool.and_eq_true]; exact pure_ex_G _ _) (lA (le_refl' _) lAn)) ?_
  refine s1 T_mv ?_
  refine s1 (T_iaK (n0 := 1) (n := 2) (v := x15) (hv79) (by have := hv79; omega) tb_51 tb_25) ?_
  refine s1 (d := dG c_End a25_5) (T_ldA tb_25) ?_
  obtain ⟨x82, hx83, h⟩ := bnd_some h
  refine s1 (d := dO 9 c_Frame x82) (T_callO rfl (w_ref42_Frames hx83) (by simp only [List.map_cons, List.map_nil, List.all_cons, List.all_nil, Bool.and_true, Bool.and_eq_true]; exact pure_ex_G _ _) (lA (le_refl' _) lAn)) ?_
  obtain ⟨x84, hx85, h⟩ := bnd_some h
  refine sq tok (w_ref42_SameFrames hx85) rfl (lA (le_refl' _) (lA (le_refl' _) lAn)) (.inl rfl) ?_
  refine s1 T_not ?_
  refine .nil (hK _ _ ?_)
  obtain rfl := Option.some.inj h
  exact PE.i (wk h0 [0, 1, 2, 3, 4, 5, 6, 7] (wR rfl (wR rfl (wR rfl (wR rfl (wR rfl (wR rfl (wR rfl (wR rfl wTn)))))))) (vR rfl (vR rfl (vR rfl (vR rfl wVn)))) (wL rfl rfl (wL rfl rfl (wL rfl rfl (wL rfl rfl wLn)))))
  rintro ex tm' hp' ⟨rfl, hw⟩
  refine AW.weak hw ?_
  refine AW.condS rfl (fun hb87 => ?_) (fun hb87 => ?_)
  replace h := cnd_t hb87 h
  refine AW.seq ?_
  refine rg hx (by kernel_rfl) fun K hK => ?_
  refine s1 (d := dB false) T_asg ?_
  refine .nil (hK _ _ ?_)
  refine AW.ret ?_
  obtain rfl := Option.some.inj h
  refine PS.r (PR.i ?_)
  exact RetV.mk1 (resD_t rfl (.inr (.inr ⟨_, (le_refl' _), rfl, rfl⟩)))
  replace h := cnd_f hb87 h
  refine AW.skip ?_
  obtain rfl := Option.some.inj h
  exact PS.l (PE.i (wk h0 [0, 1, 2, 3, 4, 5, 6, 7] (wR rfl (wR rfl (wR rfl (wR rfl (wR rfl (wR rfl (wR rfl wTn))))))) (vR rfl (vR rfl (vR rfl (vR rfl wVn)))) (wL rfl rfl (wL rfl rfl (wL rfl rfl (wL rfl rfl wLn))))))
  replace h := cnd_f hb43 h
  iterate 2 refine AW.seq ?_
  obtain ⟨a65_0, hy, h⟩ := bnd_some h
  refine jn ((PE cx .normal (fun a65_0 => [(0, dL c_Op p_l), (3, .pt 0 0), (4, .pt 1 0), (5, .pt 2 0), (6, .pt 3 0), (7, dI .i64 a25_0), (8, dI .i64 a25_1), (9, dI .i64 x15), (48, dB a65_0)]) fun a65_0 => ⟨[(0, [dO 4 cS a25_2, dO 5 cS a25_3]), (1, [dI .i64 a25_4.vBase, dL cS a25_4.vQueue, dI .i64 a25_4.vWant, dL c_Held a25_4.vHeld, dI .i64 a25_5.vBase, dL cS a25_5.vQueue, dI .i64 a25_5.vWant, dL c_Held a25_5.vHeld]), (2, [dI .i64 a25_6.vBase, dL cS a25_6.vQueue, dI .i64 a25_6.vWant, dL c_Held a25_6.vHeld, dI .i64 a25_7.vBase, dL cS a25_7.vQueue, dI .i64 a25_7.vWant, dL c_Held a25_7.vHeld]), (3, [dO 6 c_Frame a25_8, dO 7 c_Frame a25_9])], [(4, (a25_2).length, 1, 9), (5, (a25_3).length, 1, 9), (6, (a25_8).length, 3, 27), (7, (a25_9).length, 3, 27)], 8⟩) a65_0) ?_ ?_
  replace h := hy
  refine rg hx (by kernel_rfl) fun K hK => ?_
  refine s1 T_mv ?_
  rcases Bool.eq_false_or_eq_true (decide (x15 = 0)) with hb88 | hb88
  replace h := cnd_t hb88 h
  refine s1 (T_iaK (n0 := 0) (n := 2) (v := x15) (of_decide_eq_true hb88) (by have := of_decide_eq_true hb88; omega) tb_52 tb_45) ?_
  refine s1 (d := dO 6 c_Frame a25_8) (T_ldC tb_45) ?_
  refine s1 (d := dI .i64 ((a25_8).length : Int)) (T_len tb_45 tb_27) ?_
  refine s1 T_eql ?_
  refine .nil (hK _ _ ?_)
  obtain rfl := Option.some.inj h
  exact PE.i (wk h0 [0, 1, 2, 3, 4, 5, 6, 7] (wR rfl (wR rfl (wR rfl (wR rfl (wR rfl (wR rfl (wR rfl (wR rfl (wR rfl wTn))))))))) (vR rfl (vR rfl (vR rfl (vR rfl wVn)))) (wL rfl rfl (wL rfl rfl (wL rfl rfl (wL rfl rfl wLn)))))
  replace h := cnd_f hb88 h
  obtain ⟨hc89, h⟩ := gd_some h
  have hv90 : x15 = (1 : Int) := by have := of_decide_eq_false hb88; omega
  refine s1 (T_iaK (n0 := 1) hv90 hc89 tb_52 tb_45) ?_
  refine s1 (d := dO 7 c_Frame a25_9) (T_ldC tb_45) ?_
  refine s1 (d := dI .i64 ((a25_9).length : Int)) (T_len tb_45 tb_27) ?_
  refine s1 T_eql ?_
  refine .nil (hK _ _ ?_)
  obtain rfl := Option.some.inj h
  exact PE.i (wk h0 [0, 1, 2, 3, 4, 5, 6, 7] (wR rfl (wR rfl (wR rfl (wR rfl (wR rfl (wR rfl (wR rfl (wR rfl (wR rfl wTn))))))))) (vR rfl (vR rfl (vR rfl (vR rfl wVn)))) (wL rfl rfl (wL rfl rfl (wL rfl rfl (wL rfl rfl wLn)))))
  rintro ex tm' hp' ⟨rfl, hw⟩
  refine AW.weak hw ?_
  refine AW.condS rfl (fun hb92 => ?_) (fun hb92 => ?_)
  replace h := cnd_t hb92 h
  refine AW.exit ?_
  try dsimp only
  try simp only [if_true, reduceIte, Nat.reduceEqDiff, reduceCtorEq]
  obtain rfl := Option.some.inj h
  exact PS.l (PE.i (wk h0 [0, 1, 2, 3, 4, 5, 6, 7] (wR rfl (wR rfl (wR rfl (wR rfl (wR rfl (wR rfl (wR rfl wTn))))))) (vR rfl (vR rfl (vR rfl (vR rfl wVn)))) (wL rfl rfl (wL rfl rfl (wL rfl rfl (wL rfl rfl wLn))))))
  replace h := cnd_f hb92 h
  refine AW.skip ?_
  refine AW.seq ?_
  obtain ⟨a70_0, hy, h⟩ := bnd_some h
  refine jn ((PE cx .normal (fun a70_0 => [(0, dL c_Op p_l), (3, .pt 0 0), (4, .pt 1 0), (5, .pt 2 0), (6, .pt 3 0), (7, dI .i64 a25_0), (8, dI .i64 a25_1), (9, dI .i64 x15), (10, dI .i64 a70_0)]) fun a70_0 => ⟨[(0, [dO 4 cS a25_2, dO 5 cS a25_3]), (1, [dI .i64 a25_4.vBase, dL cS a25_4.vQueue, dI .i64 a25_4.vWant, dL c_Held a25_4.vHeld, dI .i64 a25_5.vBase, dL cS a25_5.vQueue, dI .i64 a25_5.vWant, dL c_Held a25_5.vHeld]), (2, [dI .i64 a25_6.vBase, dL cS a25_6.vQueue, dI .i64 a25_6.vWant, dL c_Held a25_6.vHeld, dI .i64 a25_7.vBase, dL cS a25_7.vQueue, dI .i64 a25_7.vWant, dL c_Held a25_7.vHeld]), (3, [dO 6 c_Frame a25_8, dO 7 c_Frame a25_9])], [(4, (a25_2).length, 1, 9), (5, (a25_3).length, 1, 9), (6, (a25_8).length, 3, 27), (7, (a25_9).length, 3, 27)], 8⟩) a70_0) ?_ ?_
  replace h := hy
  refine rd [] hx (by kernel_rfl) (by kernel_rfl) fun K hK => ?_
  iterate 2 refine s1 T_mv ?_
  obtain ⟨hc93, h⟩ := gd_some h
  have hn94 : (a25_1).toNat < (p_l).length := by omega
  refine s1 (T_iaS hc93 tb_48 tb_55) ?_
  refine s1 (T_faF tb_55 tb_53) ?_
  refine s1 (d := dI .u16 ((p_l)[(a25_1).toNat]!.vN)) (T_ldF (c := c_Op) (l := p_l) (n := (a25_1).toNat) (o := 2) tb_53 hn94) ?_
  refine s1 (d := dI .i64 (IntKind.i64.wrap ((p_l)[(a25_1).toNat]!.vN))) (T_cvI tb_53 tb_3) ?_
  refine s1 T_mv ?_
  rcases Bool.eq_false_or_eq_true (decide (x15 = 0)) with hb95 | hb95
  replace h := cnd_t hb95 h
  refine s1 (T_iaK (n0 := 0) (n := 2) (v := x15) (of_decide_eq_true hb95) (by have := of_decide_eq_true hb95; omega) tb_52 tb_45) ?_
  refine s1 (d := dO 6 c_Frame a25_8) (T_ldC tb_45) ?_
  refine s1 (d := dI .i64 ((a25_8).length : Int)) (T_len tb_45 tb_27) ?_
  obtain ⟨hc96, h⟩ := gd_some h
  refine s1 (T_rem hc96) ?_
  obtain ⟨x97, hx98, h⟩ := bnd_some h
  replace hx98 := Option.some.inj hx98
  refine s2 (d2 := dI .i64 x97) T_as (le_eq (congrArg (dI .i64) hx98)) ?_
  refine .nil (hK _ _ ?_)
  obtain rfl := Option.some.inj h
  exact PE.i (wk h0 [0, 1, 2, 3, 4, 5, 6, 7] (wR rfl (wR rfl (wR rfl (wR rfl (wR rfl (wR rfl (wR rfl (wR rfl (wR rfl wTn))))))))) (vR rfl (vR rfl (vR rfl (vR rfl wVn)))) (wL rfl rfl (wL rfl rfl (wL rfl rfl (wL rfl rfl wLn)))))
  replace h := cnd_f hb95 h
  obtain ⟨hc99, h⟩ := gd_some h
  have hv100 : x15 = (1 : Int) := by have := of_decide_eq_false hb95; omega
  refine s1 (T_iaK (n0 := 1) hv100 hc99 tb_52 tb_45) ?_
  refine s1 (d := dO 7 c_Frame a25_9) (T_ldC tb_45) ?_
  refine s1 (d := dI .i64 ((a25_9).length : Int)) (T_len tb_45 tb_27) ?_
  obtain ⟨hc101, h⟩ := gd_some h
  refine s1 (T_rem hc101) ?_
  obtain ⟨x102, hx103, h⟩ := bnd_some h
  replace hx103 := Option.some.inj hx103
  refine s2 (d2 := dI .i64 x102) T_as (le_eq (congrArg (dI .i64) hx103)) ?_
  refine .nil (hK _ _ ?_)
  obtain rfl := Option.some.inj h
  exact PE.i (wk h0 [0, 1, 2, 3, 4, 5, 6, 7] (wR rfl (wR rfl (wR rfl (wR rfl (wR rfl (wR rfl (wR rfl (wR rfl (wR rfl wTn))))))))) (vR rfl (vR rfl (vR rfl (vR rfl wVn)))) (wL rfl rfl (wL rfl rfl (wL rfl rfl (wL rfl rfl wLn)))))
  rintro ex tm' hp' ⟨rfl, hw⟩
  refine AW.weak hw ?_
  refine AW.seq ?_
  obtain ⟨a72_0, hy, h⟩ := bnd_some h
  refine jn ((PE cx .normal (fun a72_0 => [(0, dL c_Op p_l), (3, .pt 0 0), (4, .pt 1 0), (5, .pt 2 0), (6, .pt 3 0), (7, dI .i64 a25_0), (8, dI .i64 a25_1), (9, dI .i64 x15), (10, dI .i64 a70_0), (11, .pt 4 0)]) fun a72_0 => ⟨[(0, [dO 5 cS a25_2, dO 6 cS a25_3]), (1, [dI .i64 a25_4.vBase, dL cS a25_4.vQueue, dI .i64 a25_4.vWant, dL c_Held a25_4.vHeld, dI .i64 a25_5.vBase, dL cS a25_5.vQueue, dI .i64 a25_5.vWant, dL c_Held a25_5.vHeld]), (2, [dI .i64 a25_6.vBase, dL cS a25_6.vQueue, dI .i64 a25_6.vWant, dL c_Held a25_6.vHeld, dI .i64 a25_7.vBase, dL cS a25_7.vQueue, dI .i64 a25_7.vWant, dL c_Held a25_7.vHeld]), (3, [dO 7 c_Frame a25_8, dO 8 c_Frame a25_9]), (4, [dI .i64 a72_0.vSeq, dI .i64 a72_0.vAck, dS a72_0.vData])], [(5, (a25_2).length, 1, 9), (6, (a25_3).length, 1, 9), (7, (a25_8).length, 3, 27), (8, (a25_9).length, 3, 27)], 9⟩) a72_0) ?_ ?_
  replace h := hy
  refine rg hx (by kernel_rfl) fun K hK => ?_
  refine s1 T_mv ?_
  rcases Bool.eq_false_or_eq_true (decide (x15 = 0)) with hb105 | hb105
  replace h := cnd_t hb105 h
  refine s1 (T_iaK (n0 := 0) (n := 2) (v := x15) (of_decide_eq_true hb105) (by have := of_decide_eq_true hb105; omega) tb_52 tb_45) ?_
  refine s1 (d := dO 6 c_Frame a25_8) (T_ldC tb_45) ?_
  refine s1 T_mv ?_
  obtain ⟨hc106, h⟩ := gd_some h
  have hn107 : (a70_0).toNat < (a25_8).length := by omega
  refine s1 (T_iaS hc106 tb_45 tb_27) ?_
  refine s1 (d := dG c_Frame ((a25_8)[(a70_0).toNat]!)) (T_ldG (c := c_Frame) (l := a25_8) (n := (a70_0).toNat) (o := 0) tb_27 hn107 (whole_G _ _ rfl)) ?_
  refine s1 (d := .pt 8 0) (T_alloc tb_27) ?_
  refine s0 (T_st (ds' := [dI .i64 (((a25_8)[(a70_0).toNat]!).vSeq), dI .i64 (((a25_8)[(a70_0).toNat]!).vAck), dS (((a25_8)[(a70_0).toNat]!).vData)]) tb_27) ?_
  refine .nil (hK _ _ ?_)
  obtain rfl := Option.some.inj h
  exact PE.i (wk h0 [0, 1, 2, 3, 8, 4, 5, 6, 7] (wR rfl (wR rfl (wR rfl (wR rfl (wR rfl (wR rfl (wR rfl (wR rfl (wR rfl (wR rfl wTn)))))))))) (vR rfl (vR rfl (vR rfl (vR rfl (vR rfl wVn))))) (wL rfl rfl (wL rfl rfl (wL rfl rfl (wL rfl rfl wLn)))))
  replace h := cnd_f hb105 h
  obtain ⟨hc108, h⟩ := gd_some h
  have hv109 : x15 = (1 : Int) := by have := of_decide_eq_false hb105; omega
  refine s1 (T_iaK (n0 := 1) hv109 hc108 tb_52 tb_45) ?_
  refine s1 (d := dO 7 c_Frame a25_9) (T_ldC tb_45) ?_
  refine s1 T_mv ?_
  obtain ⟨hc110, h⟩ := gd_some h
  have hn111 : (a70_0).toNat < (a25_9).length := by omega
  refine s1 (T_iaS hc110 tb_45 tb_27) ?_
  refine s1 (d := dG c_Frame ((a25_9)[(a70_0).toNat]!)) (T_ldG (c := c_Frame) (l := a25_9) (n := (a70_0).toNat) (o := 0) tb_27 hn111 (whole_G _ _ rfl)) ?_
  refine s1 (d := .pt 8 0) (T_alloc tb_27) ?_
  refine s0 (T_st (ds' := [dI .i64 (((a25_9)[(a70_0).toNat]!).vSeq), dI .i64 (((a25_9)[(a70_0).toNat]!).vAck), dS (((a25_9)[(a70_0).toNat]!).vData)]) tb_27) ?_
  refine .nil (hK _ _ ?_)
  obtain rfl := Option.some.inj h
  exact PE.i (wk h0 [0, 1, 2, 3, 8, 4, 5, 6, 7] (wR rfl (wR rfl (wR rfl (wR rfl (wR rfl (wR rfl (wR rfl (wR rfl (wR rfl (wR rfl wTn)))))))))) (vR rfl (vR rfl (vR rfl (vR rfl (vR rfl wVn))))) (wL rfl rfl (wL rfl rfl (wL rfl rfl (wL rfl rfl wLn)))))
  rintro ex tm' hp' ⟨rfl, hw⟩
  refine AW.weak hw ?_
  refine AW.seq ?_
  obtain ⟨y, hy, h⟩ := bnd_some h
  refine jn ((PE cx .normal (fun (a74_0, a74_1) => [(0, dL c_Op p_l), (3, .pt 0 0), (4, .pt 1 0), (5, .pt 2 0), (6, .pt 3 0), (7, dI .i64 a25_0), (8, dI .i64 a25_1), (9, dI .i64 x15), (11, .pt 4 0)]) fun (a74_0, a74_1) => ⟨[(0, [dO 5 cS a25_2, dO 6 cS a25_3]), (1, [dI .i64 a25_4.vBase, dL cS a25_4.vQueue, dI .i64 a25_4.vWant, dL c_Held a25_4.vHeld, dI .i64 a25_5.vBase, dL cS a25_5.vQueue, dI .i64 a25_5.vWant, dL c_Held a25_5.vHeld]), (2, [dI .i64 a25_6.vBase, dL cS a25_6.vQueue, dI .i64 a25_6.vWant, dL c_Held a25_6.vHeld, dI .i64 a25_7.vBase, dL cS a25_7.vQueue, dI .i64 a25_7.vWant, dL c_Held a25_7.vHeld]), (3, [dO 7 c_Frame a74_0, dO 8 c_Frame a74_1]), (4, [dI .i64 a72_0.vSeq, dI .i64 a72_0.vAck, dS a72_0.vData])], [(5, (a25_2).length, 1, 9), (6, (a25_3).length, 1, 9), (7, (a74_0).length, 3, 27), (8, (a74_1).length, 3, 27)], 9⟩) y) ?_ ?_
  replace h := hy
  refine AW.seq ?_
  refine rg hx (by kernel_rfl) fun K hK => ?_
  iterate 2 refine s1 T_mv ?_
  obtain ⟨hc113, h⟩ := gd_some h
  have hn114 : (a25_1).toNat < (p_l).length := by omega
  refine s1 (T_iaS hc113 tb_48 tb_55) ?_
  refine s1 (T_faF tb_55 tb_5) ?_
  refine s1 (d := dI .u8 ((p_l)[(a25_1).toNat]!.vKind)) (T_ldF (c := c_Op) (l := p_l) (n := (a25_1).toNat) (o := 0) tb_5 hn114) ?_
  refine s1 (T_rem (b := (5 : Int)) (by decide)) ?_
  refine s1 T_neq ?_
  refine .nil (hK _ _ ?_)
  refine AW.condS rfl (fun hb115 => ?_) (fun hb115 => ?_)
  replace h := cnd_t hb115 h
  refine rd [] hx (by kernel_rfl) (by kernel_rfl) fun K hK => ?_
  refine s1 T_mv ?_
  refine s1 (d := dO 9 c_Frame ([] : List S_Frame)) (T_bsl0 tb_45 tb_27) ?_
  refine s1 T_mv ?_
  rcases Bool.eq_false_or_eq_true (decide (x15 = 0)) with hb116 | hb116
  replace h := cnd_t hb116 h
  refine s1 (T_iaK (n0 := 0) (n := 2) (v := x15) (of_decide_eq_true hb116) (by have := of_decide_eq_true hb116; omega) tb_52 tb_45) ?_
  refine s1 (d := dO 7 c_Frame a25_8) (T_ldC tb_45) ?_
  refine s1 T_mv ?_
  obtain ⟨hc117, h⟩ := gd_some h
  refine s1 (T_sl (c := c_Frame) (l := a25_8) (a := (0 : Int)) (b := a70_0) hc117 tb_45 tb_27) ?_
  obtain ⟨hc118, h⟩ := gd_some h
  refine s1 (d := dO 9 c_Frame (([] : List S_Frame) ++ (subL a25_8 (0 : Int) a70_0))) (T_appO tb_45 tb_27 hc118) ?_
  refine s1 T_mv ?_
  refine s1 (T_iaK (n0 := 0) (n := 2) (v := x15) (of_decide_eq_true hb116) (by have := of_decide_eq_true hb116; omega) tb_52 tb_45) ?_
  refine s1 (d := dO 7 c_Frame a25_8) (T_ldC tb_45) ?_
  refine s1 T_mv ?_
  refine s1 T_add ?_
  obtain ⟨hc119, h⟩ := gd_some h
  refine s1 (T_sl (c := c_Frame) (l := a25_8) (a := IntKind.i64.wrap (a70_0 + (1 : Int))) (b := ((a25_8).length : Int)) hc119 tb_45 tb_27) ?_
  obtain ⟨hc120, h⟩ := gd_some h
  refine s1 (d := dO 9 c_Frame ((([] : List S_Frame) ++ (subL a25_8 (0 : Int) a70_0)) ++ (subL a25_8 (IntKind.i64.wrap (a70_0 + (1 : Int))) ((a25_8).length : Int)))) (T_appO tb_45 tb_27 hc120) ?_
  refine s1 (T_iaK (n0 := 0) (n := 2) (v := x15) (of_decide_eq_true hb116) (by have := of_decide_eq_true hb116; omega) tb_52 tb_45) ?_
  refine s0 (T_st (ds' := [dO 9 c_Frame ((([] : List S_Frame) ++ (subL a25_8 (0 : Int) a70_0)) ++ (subL a25_8 (IntKind.i64.wrap (a70_0 + (1 : Int))) ((a25_8).length : Int))), dO 8 c_Frame a25_9]) tb_45) ?_
  refine .nil (hK _ _ ?_)
  obtain rfl := Option.some.inj h
  exact PE.i (wk h0 [0, 1, 2, 3, 4, 5, 6, 9, 8] (wR rfl (wR rfl (wR rfl (wR rfl (wR rfl (wR rfl (wR rfl (wR rfl (wR rfl wTn))))))))) (vR rfl (vR rfl (vR rfl (vR rfl (vR rfl wVn))))) (wL rfl rfl (wL rfl rfl (wL rfl rfl (wL rfl rfl wLn)))))
  replace h := cnd_f hb116 h
  obtain ⟨hc121, h⟩ := gd_some h
  have hv122 : x15 = (1 : Int) := by have := of_decide_eq_false hb116; omega
  refine s1 (T_iaK (n0 := 1) hv122 hc121 tb_52 tb_45) ?_
  refine s1 (d := dO 8 c_Frame a25_9) (T_ldC tb_45) ?_
  refine s1 T_mv ?_
  obtain ⟨hc123, h⟩ := gd_some h
  refine s1 (T_sl (c := c_Frame) (l := a25_9) (a := (0 : Int)) (b := a70_0) hc123 tb_45 tb_27) ?_
  obtain ⟨hc124, h⟩ := gd_some h
  refine s1 (d := dO 9 c_Frame (([] : List S_Frame) ++ (subL a25_9 (0 : Int) a70_0))) (T_appO tb_45 tb_27 hc124) ?_
  refine s1 T_mv ?_
  refine s1 (T_iaK (n0 := 1) (n := 2) (v := x15) (hv122) (by have := hv122; omega) tb_52 tb_45) ?_
  refine s1 (d := dO 8 c_Frame a25_9) (T_ldC tb_45) ?_
  refine s1 T_mv ?_
  refine s1 T_add ?_
  obtain ⟨hc125, h⟩ := gd_some h
  refine s1 (T_sl (c := c_Frame) (l := a25_9) (a := IntKind.i64.wrap (a70_0 + (1 : Int))) (b := ((a25_9).length : Int)) hc125 tb_45 tb_27) ?_
  obtain ⟨hc126, h⟩ := gd_some h
  refine s1 (d := dO 9 c_Frame ((([] : List S_Frame) ++ (subL a25_9 (0 : Int) a70_0)) ++ (subL a25_9 (IntKind.i64.wrap (a70_0 + (1 : Int))) ((a25_9).length : Int)))) (T_appO tb_45 tb_27 hc126) ?_
  refine s1 (T_iaK (n0 := 1) (n := 2) (v := x15) (hv122) (by have := hv122; omega) tb_52 tb_45) ?_
  refine s0 (T_st (ds' := [dO 7 c_Frame a25_8, dO 9 c_Frame ((([] : List S_Frame) ++ (subL a25_9 (0 : Int) a70_0)) ++ (subL a25_9 (IntKind.i64.wrap (a70_0 + (1 : Int))) ((a25_9).length : Int)))]) tb_45) ?_
  refine .nil (hK _ _ ?_)
  obtain rfl := Option.some.inj h
  exact PE.i (wk h0 [0, 1, 2, 3, 4, 5, 6, 7, 9] (wR rfl (wR rfl (wR rfl (wR rfl (wR rfl (wR rfl (wR rfl (wR rfl (wR rfl wTn))))))))) (vR rfl (vR rfl (vR rfl (vR rfl (vR rfl wVn))))) (wL rfl rfl (wL rfl rfl (wL rfl rfl (wL rfl rfl wLn)))))
  replace h := cnd_f hb115 h
  refine AW.skip ?_
  obtain rfl := Option.some.inj h
  exact PE.i (wk h0 [0, 1, 2, 3, 4, 5, 6, 7, 8] (wR rfl (wR rfl (wR rfl (wR rfl (wR rfl (wR rfl (wR rfl (wR rfl (wR rfl wTn))))))))) (vR rfl (vR rfl (vR rfl (vR rfl (vR rfl wVn))))) (wL rfl rfl (wL rfl rfl (wL rfl rfl (wL rfl rfl wLn)))))
  obtain ⟨a74_0, a74_1⟩ := y
  rintro ex tm' hp' ⟨rfl, hw⟩
  refine AW.weak hw ?_
  iterate 2 refine AW.seq ?_
  refine rg hx (by kernel_rfl) fun K hK => ?_
  iterate 2 refine s1 T_mv ?_
  obtain ⟨hc128, h⟩ := gd_some h
  have hn129 : (a25_1).toNat < (p_l).length := by omega
  refine s1 (T_iaS hc128 tb_48 tb_55) ?_
  refine s1 (T_faF tb_55 tb_5) ?_
  refine s1 (d := dI .u8 ((p_l)[(a25_1).toNat]!.vKind)) (T_ldF (c := c_Op) (l := p_l) (n := (a25_1).toNat) (o := 0) tb_5 hn129) ?_
  refine s1 (T_rem (b := (5 : Int)) (by decide)) ?_
  refine s1 T_eql ?_
  refine .nil (hK _ _ ?_)
  refine AW.condS rfl (fun hb130 => ?_) (fun hb130 => ?_)
  replace h := cnd_t hb130 h
  refine AW.exit ?_
  try dsimp only
  try simp only [if_true, reduceIte, Nat.reduceEqDiff, reduceCtorEq]
  obtain rfl := Option.some.inj h
  exact PS.l (PE.i (wk h0 [0, 1, 2, 3, 5, 6, 7, 8] (wR rfl (wR rfl (wR rfl (wR rfl (wR rfl (wR rfl (wR rfl wTn))))))) (vR rfl (vR rfl (vR rfl (vR rfl wVn)))) (wL rfl rfl (wL rfl rfl (wL rfl rfl (wL rfl rfl wLn))))))
  replace h := cnd_f hb130 h
  refine AW.skip ?_
  refine AW.seq ?_
  obtain ⟨y, hy, h⟩ := bnd_some h
  refine jn ((PE cx .normal (fun (a86_0, a86_1) => [(0, dL c_Op p_l), (3, .pt 0 0), (4, .pt 1 0), (5, .pt 2 0), (6, .pt 3 0), (7, dI .i64 a25_0), (8, dI .i64 a25_1), (9, dI .i64 x15), (11, .pt 4 0), (12, .pt 5 0), (13, dL cS a86_0)]) fun (a86_0, a86_1) => ⟨[(0, [dO 6 cS a25_2, dO 7 cS a25_3]), (1, [dI .i64 a25_4.vBase, dL cS a25_4.vQueue, dI .i64 a25_4.vWant, dL c_Held a25_4.vHeld, dI .i64 a25_5.vBase, dL cS a25_5.vQueue, dI .i64 a25_5.vWant, dL c_Held a25_5.vHeld]), (2, [dI .i64 a25_6.vBase, dL cS a25_6.vQueue, dI .i64 a25_6.vWant, dL c_Held a25_6.vHeld, dI .i64 a25_7.vBase, dL cS a25_7.vQueue, dI .i64 a25_7.vWant, dL c_Held a25_7.vHeld]), (3, [dO 8 c_Frame a74_0, dO 9 c_Frame a74_1]), (4, [dI .i64 a72_0.vSeq, dI .i64 a72_0.vAck, dS a72_0.vData]), (5, [dI .i64 a86_1.vBase, dL cS a86_1.vQueue, dI .i64 a86_1.vWant, dL c_Held a86_1.vHeld])], [(6, (a25_2).length, 1, 9), (7, (a25_3).length, 1, 9), (8, (a74_0).length, 3, 27), (9, (a74_1).length, 3, 27)], 10⟩) y) ?_ ?_
  replace h := hy
  refine rd [14] hx (by kernel_rfl) (by kernel_rfl) fun K hK => ?_
  refine s1 T_mv ?_
  rcases Bool.eq_false_or_eq_true (decide (x15 = 0)) with hb131 | hb131
  replace h := cnd_t hb131 h
  refine s1 (T_iaK (n0 := 0) (n := 2) (v := x15) (of_decide_eq_true hb131) (by have := of_decide_eq_true hb131; omega) tb_51 tb_25) ?_
  refine s1 (d := dG c_End a25_6) (T_ldA tb_25) ?_
  refine s1 (d := dG c_Frame a72_0) (T_ldA tb_27) ?_
  obtain ⟨x132, hx133, h⟩ := bnd_some h
  refine sq tok (w_link_Receive hx133) (by simp only [List.map_cons, List.map_nil, List.all_cons, List.all_nil, Bool.and_true, Bool.and_eq_true]; exact ⟨pure_ex_G _ _, pure_ex_G _ _⟩) (lA (le_refl' _) (lA (le_refl' _) lAn)) (.inr ⟨_, rfl⟩) ?_
  refine s1 T_mv ?_
  iterate 2 refine s1 T_ext ?_
  refine s1 (d := .pt 9 0) (T_alloc tb_25) ?_
  refine s0 (T_st (ds' := [dI .i64 x132.1.vBase, dL cS x132.1.vQueue, dI .i64 x132.1.vWant, dL c_Held x132.1.vHeld]) tb_25) ?_
  refine s1 T_as ?_
  refine .nil (hK _ _ ?_)
  obtain rfl := Option.some.inj h
  exact PE.i (wk h0 [0, 1, 2, 3, 4, 9, 5, 6, 7, 8] (wR rfl (wR rfl (wR rfl (wR rfl (wR rfl (wR rfl (wR rfl (wR rfl (wR rfl (wR rfl (wR rfl wTn))))))))))) (vR rfl (vR rfl (vR rfl (vR rfl (vR rfl (vR rfl wVn)))))) (wL rfl rfl (wL rfl rfl (wL rfl rfl (wL rfl rfl wLn)))))
  replace h := cnd_f hb131 h
  obtain ⟨hc134, h⟩ := gd_some h
  have hv135 : x15 = (1 : Int) := by have := of_decide_eq_false hb131; omega
  refine s1 (T_iaK (n0 := 1) hv135 hc134 tb_51 tb_25) ?_
  refine s1 (d := dG c_End a25_7) (T_ldA tb_25) ?_
  refine s1 (d := dG c_Frame a72_0) (T_ldA tb_27) ?_
  obtain ⟨x136, hx137, h⟩ := bnd_some h
  refine sq tok (w_link_Receive hx137) (by simp only [List.map_cons, List.map_nil, List.all_cons, List.all_nil, Bool.and_true, Bool.and_eq_true]; exact ⟨pure_ex_G _ _, pure_ex_G _ _⟩) (lA (le_refl' _) (lA (le_refl' _) lAn)) (.inr ⟨_, rfl⟩) ?_
  refine s1 T_mv ?_
  iterate 2 refine s1 T_ext ?_
  refine s1 (d := .pt 9 0) (T_alloc tb_25) ?_
  refine s0 (T_st (ds' := [dI .i64 x136.1.vBase, dL cS x136.1.vQueue, dI .i64 x136.1.vWant, dL c_Held x136.1.vHeld]) tb_25) ?_
  refine s1 T_as ?_
  refine .nil (hK _ _ ?_)
  obtain rfl := Option.some.inj h
  exact PE.i (wk h0 [0, 1, 2, 3, 4, 9, 5, 6, 7, 8] (wR rfl (wR rfl (wR rfl (wR rfl (wR rfl (wR rfl (wR rfl (wR rfl (wR rfl (wR rfl (wR rfl wTn))))))))))) (vR rfl (vR rfl (vR rfl (vR rfl (vR rfl (vR rfl wVn)))))) (wL rfl rfl (wL rfl rfl (wL rfl rfl (wL rfl rfl wLn)))))
  obtain ⟨a86_0, a86_1⟩ := y
  rintro ex tm' hp' ⟨rfl, hw⟩
  refine AW.weak hw ?_
  refine AW.seq ?_
  obtain ⟨a88_0, hy, h⟩ := bnd_some h
  refine jn ((PE cx .normal (fun a88_0 => [(0, dL c_Op p_l), (3, .pt 0 0), (4, .pt 1 0), (5, .pt 2 0), (6, .pt 3 0), (7, dI .i64 a25_0), (8, dI .i64 a25_1), (9, dI .i64 x15), (12, .pt 4 0), (13, dL cS a86_0), (14, .pt 5 0)]) fun a88_0 => ⟨[(0, [dO 6 cS a25_2, dO 7 cS a25_3]), (1, [dI .i64 a25_4.vBase, dL cS a25_4.vQueue, dI .i64 a25_4.vWant, dL c_Held a25_4.vHeld, dI .i64 a25_5.vBase, dL cS a25_5.vQueue, dI .i64 a25_5.vWant, dL c_Held a25_5.vHeld]), (2, [dI .i64 a25_6.vBase, dL cS a25_6.vQueue, dI .i64 a25_6.vWant, dL c_Held a25_6.vHeld, dI .i64 a25_7.vBase, dL cS a25_7.vQueue, dI .i64 a25_7.vWant, dL c_Held a25_7.vHeld]), (3, [dO 8 c_Frame a74_0, dO 9 c_Frame a74_1]), (4, [dI .i64 a86_1.vBase, dL cS a86_1.vQueue, dI .i64 a86_1.vWant, dL c_Held a86_1.vHeld]), (5, [dI .i64 a88_0.vX.vBase, dL cS a88_0.vX.vQueue, dI .i64 a88_0.vX.vWant, dL c_Held a88_0.vX.vHeld, dL cS a88_0.vL])], [(6, (a25_2).length, 1, 9), (7, (a25_3).length, 1, 9), (8, (a74_0).length, 3, 27), (9, (a74_1).length, 3, 27)], 10⟩) a88_0) ?_ ?_
  replace h := hy
  refine rd [15] hx (by kernel_rfl) (by kernel_rfl) fun K hK => ?_
  refine s1 T_mv ?_
  rcases Bool.eq_false_or_eq_true (decide (x15 = 0)) with hb139 | hb139
  replace h := cnd_t hb139 h
  refine s1 (T_iaK (n0 := 0) (n := 2) (v := x15) (of_decide_eq_true hb139) (by have := of_decide_eq_true hb139; omega) tb_51 tb_25) ?_
  refine s1 (d := dG c_End a25_4) (T_ldA tb_25) ?_
  refine s1 (d := dG c_Frame a72_0) (T_ldA tb_27) ?_
  obtain ⟨x140, hx141, h⟩ := bnd_some h
  refine sq tok (w_ref42_Receive hx141) (by simp only [List.map_cons, List.map_nil, List.all_cons, List.all_nil, Bool.and_true, Bool.and_eq_true]; exact ⟨pure_ex_G _ _, pure_ex_G _ _⟩) (lA (le_refl' _) (lA (le_refl' _) lAn)) (.inl (pure_G _ _)) ?_
  refine s1 (d := .pt 10 0) (T_alloc tb_40) ?_
  refine s0 (T_st (ds' := [dI .i64 x140.vX.vBase, dL cS x140.vX.vQueue, dI .i64 x140.vX.vWant, dL c_Held x140.vX.vHeld, dL cS x140.vL]) tb_40) ?_
  refine .nil (hK _ _ ?_)
  obtain rfl := Option.some.inj h
  exact PE.i (wk h0 [0, 1, 2, 3, 5, 10, 6, 7, 8, 9] (wR rfl (wR rfl (wR rfl (wR rfl (wR rfl (wR rfl (wR rfl (wR rfl (wR rfl (wR rfl (wR rfl wTn))))))))))) (vR rfl (vR rfl (vR rfl (vR rfl (vR rfl (vR rfl wVn)))))) (wL rfl rfl (wL rfl rfl (wL rfl rfl (wL rfl rfl wLn)))))
  replace h := cnd_f hb139 h
  obtain ⟨hc142, h⟩ := gd_some h
  have hv143 : x15 = (1 : Int) := by have := of_decide_eq_false hb139; omega
  refine s1 (T_iaK (n0 := 1) hv143 hc142 tb_51 tb_25) ?_
  refine s1 (d := dG c_End a25_5) (T_ldA tb_25) ?_
  refine s1 (d := dG c_Frame a72_0) (T_ldA tb_27) ?_
  obtain ⟨x144, hx145, h⟩ := bnd_some h
  refine sq tok (w_ref42_Receive hx145) (by simp only [List.map_cons, List.map_nil, List.all_cons, List.all_nil, Bool.and_true, Bool.and_eq_true]; exact ⟨pure_ex_G _ _, pure_ex_G _ _⟩) (lA (le_refl' _) (lA (le_refl' _) lAn)) (.inl (pure_G _ _)) ?_
  refine s1 (d := .pt 10 0) (T_alloc tb_40) ?_
  refine s0 (T_st (ds' := [dI .i64 x144.vX.vBase, dL cS x144.vX.vQueue, dI .i64 x144.vX.vWant, dL c_Held x144.vX.vHeld, dL cS x144.vL]) tb_40) ?_
  refine .nil (hK _ _ ?_)
  obtain rfl := Option.some.inj h
  exact PE.i (wk h0 [0, 1, 2, 3, 5, 10, 6, 7, 8, 9] (wR rfl (wR rfl (wR rfl (wR rfl (wR rfl (wR rfl (wR rfl (wR rfl (wR rfl (wR rfl (wR rfl wTn))))))))))) (vR rfl (vR rfl (vR rfl (vR rfl (vR rfl (vR rfl wVn)))))) (wL rfl rfl (wL rfl rfl (wL rfl rfl (wL rfl rfl wLn)))))
  rintro ex tm' hp' ⟨rfl, hw⟩
  refine AW.weak hw ?_
  iterate 2 refine AW.seq ?_
  obtain ⟨a91_0, hy, h⟩ := bnd_some h
  refine jn ((PE cx .normal (fun a91_0 => [(0, dL c_Op p_l), (3, .pt 0 0), (4, .pt 1 0), (5, .pt 2 0), (6, .pt 3 0), (7, dI .i64 a25_0), (8, dI .i64 a25_1), (9, dI .i64 x15), (12, .pt 4 0), (13, dL cS a86_0), (14, .pt 5 0), (120, dB a91_0)]) fun a91_0 => ⟨[(0, [dO 6 cS a25_2, dO 7 cS a25_3]), (1, [dI .i64 a25_4.vBase, dL cS a25_4.vQueue, dI .i64 a25_4.vWant, dL c_Held a25_4.vHeld, dI .i64 a25_5.vBase, dL cS a25_5.vQueue, dI .i64 a25_5.vWant, dL c_Held a25_5.vHeld]), (2, [dI .i64 a25_6.vBase, dL cS a25_6.vQueue, dI .i64 a25_6.vWant, dL c_Held a25_6.vHeld, dI .i64 a25_7.vBase, dL cS a25_7.vQueue, dI .i64 a25_7.vWant, dL c_Held a25_7.vHeld]), (3, [dO 8 c_Frame a74_0, dO 9 c_Frame a74_1]), (4, [dI .i64 a86_1.vBase, dL cS a86_1.vQueue, dI .i64 a86_1.vWant, dL c_Held a86_1.vHeld]), (5, [dI .i64 a88_0.vX.vBase, dL cS a88_0.vX.vQueue, dI .i64 a88_0.vX.vWant, dL c_Held a88_0.vX.vHeld, dL cS a88_0.vL])], [(6, (a25_2).length, 1, 9), (7, (a25_3).length, 1, 9), (8, (a74_0).length, 3, 27), (9, (a74_1).length, 3, 27)], 10⟩) a91_0) ?_ ?_
  replace h := hy
  refine rg hx (by kernel_rfl) fun K hK => ?_
  refine s1 T_mv ?_
  refine s1 (T_faP tb_40 tb_22) ?_
  refine s1 (d := dL cS a88_0.vL) (T_ldC tb_22) ?_
  obtain ⟨x147, hx148, h⟩ := bnd_some h
  refine s1 (d := dB x147) (T_call rfl (w_ref01_SameTexts hx148) rfl (lA (le_refl' _) (lA (le_refl' _) lAn)) (.inl rfl)) ?_
  refine s1 T_not ?_
  refine s1 T_mv ?_
  rcases Bool.eq_false_or_eq_true (!x147) with hb149 | hb149
  replace h := cnd_t hb149 h
  iterate 5 refine no_t rfl rfl hb149 ?_
  refine s1 (d := dB true) (T_pickT hb149) ?_
  refine .nil (hK _ _ ?_)
  obtain rfl := Option.some.inj h
  exact PE.i (wk h0 [0, 1, 2, 3, 4, 5, 6, 7, 8, 9] (wR rfl (wR rfl (wR rfl (wR rfl (wR rfl (wR rfl (wR rfl (wR rfl (wR rfl (wR rfl (wR rfl (wR rfl wTn)))))))))))) (vR rfl (vR rfl (vR rfl (vR rfl (vR rfl (vR rfl wVn)))))) (wL rfl rfl (wL rfl rfl (wL rfl rfl (wL rfl rfl wLn)))))
  replace h := cnd_f hb149 h
  refine g1 (d := dG c_End a86_1) hb149 (T_ldA tb_25) ?_
  refine g1 hb149 (T_faP tb_40 tb_25) ?_
  refine g1 (d := dG c_End a88_0.vX) hb149 (T_ldA tb_25) ?_
  obtain ⟨x150, hx151, h⟩ := bnd_some h
  refine g1 (d := dB x150) hb149 (T_call rfl (w_ref42_Same hx151) (by simp only [List.map_cons, List.map_nil, List.all_cons, List.all_nil, Bool.and_true, Bool.and_eq_true]; exact ⟨pure_ex_G _ _, pure_ex_G _ _⟩) (lA (le_refl' _) (lA (le_refl' _) lAn)) (.inl rfl)) ?_
  refine g1 hb149 T_not ?_
  refine s1 (d := dB (!x150)) (T_pickF hb149) ?_
  refine .nil (hK _ _ ?_)
  obtain rfl := Option.some.inj h
  exact PE.i (wk h0 [0, 1, 2, 3, 4, 5, 6, 7, 8, 9] (wR rfl (wR rfl (wR rfl (wR rfl (wR rfl (wR rfl (wR rfl (wR rfl (wR rfl (wR rfl (wR rfl (wR rfl wTn)))))))))))) (vR rfl (vR rfl (vR rfl (vR rfl (vR rfl (vR rfl wVn)))))) (wL rfl rfl (wL rfl rfl (wL rfl rfl (wL rfl rfl wLn)))))
  rintro ex tm' hp' ⟨rfl, hw⟩
  refine AW.weak hw ?_
  refine AW.condS rfl (fun hb153 => ?_) (fun hb153 => ?_)
  replace h := cnd_t hb153 h
  refine AW.seq ?_
  refine rg hx (by kernel_rfl) fun K hK => ?_
  refine s1 (d := dB false) T_asg ?_
  refine .nil (hK _ _ ?_)
  refine AW.ret ?_
  obtain rfl := Option.some.inj h
  refine PS.r (PR.i ?_)
  exact RetV.mk1 (resD_t rfl (.inr (.inr ⟨_, (le_refl' _), rfl, rfl⟩)))
  replace h := cnd_f hb153 h
  refine AW.skip ?_
  refine AW.seq ?_
  obtain ⟨y, hy, h⟩ := bnd_some h
  refine jn ((PE cx .normal (fun (a98_0, a98_1) => [(0, dL c_Op p_l), (3, .pt 0 0), (4, .pt 1 0), (5, .pt 2 0), (6, .pt 3 0), (7, dI .i64 a25_0), (8, dI .i64 a25_1), (9, dI .i64 x15), (13, dL cS a86_0), (14, .pt 4 0)]) fun (a98_0, a98_1) => ⟨[(0, [dO 5 cS a25_2, dO 6 cS a25_3]), (1, [dI .i64 a25_4.vBase, dL cS a25_4.vQueue, dI .i64 a25_4.vWant, dL c_Held a25_4.vHeld, dI .i64 a25_5.vBase, dL cS a25_5.vQueue, dI .i64 a25_5.vWant, dL c_Held a25_5.vHeld]), (2, [dI .i64 a98_0.vBase, dL cS a98_0.vQueue, dI .i64 a98_0.vWant, dL c_Held a98_0.vHeld, dI .i64 a98_1.vBase, dL cS a98_1.vQueue, dI .i64 a98_1.vWant, dL c_Held a98_1.vHeld]), (3, [dO 7 c_Frame a74_0, dO 8 c_Frame a74_1]), (4, [dI .i64 a88_0.vX.vBase, dL cS a88_0.vX.vQueue, dI .i64 a88_0.vX.vWant, dL c_Held a88_0.vX.vHeld, dL cS a88_0.vL])], [(5, (a25_2).length, 1, 9), (6, (a25_3).length, 1, 9), (7, (a74_0).length, 3, 27), (8, (a74_1).length, 3, 27)], 9⟩) y) ?_ ?_
  replace h := hy
  refine rg hx (by kernel_rfl) fun K hK => ?_
  refine s1 T_mv ?_
  refine s1 (d := dG c_End a86_1) (T_ldA tb_25) ?_
  rcases Bool.eq_false_or_eq_true (decide (x15 = 0)) with hb154 | hb154
  replace h := cnd_t hb154 h
  refine s1 (T_iaK (n0 := 0) (n := 2) (v := x15) (of_decide_eq_true hb154) (by have := of_decide_eq_true hb154; omega) tb_51 tb_25) ?_
  refine s0 (T_st (ds' := [dI .i64 a86_1.vBase, dL cS a86_1.vQueue, dI .i64 a86_1.vWant, dL c_Held a86_1.vHeld, dI .i64 a25_7.vBase, dL cS a25_7.vQueue, dI .i64 a25_7.vWant, dL c_Held a25_7.vHeld]) tb_25) ?_
  refine .nil (hK _ _ ?_)
  obtain rfl := Option.some.inj h
  exact PE.i (wk h0 [0, 1, 2, 3, 5, 6, 7, 8, 9] (wR rfl (wR rfl (wR rfl (wR rfl (wR rfl (wR rfl (wR rfl (wR rfl (wR rfl (wR rfl wTn)))))))))) (vR rfl (vR rfl (vR rfl (vR rfl (vR rfl wVn))))) (wL rfl rfl (wL rfl rfl (wL rfl rfl (wL rfl rfl wLn)))))
  replace h := cnd_f hb154 h
  obtain ⟨hc155, h⟩ := gd_some h
  have hv156 : x15 = (1 : Int) := by have := of_decide_eq_false hb154; omega
  refine s1 (T_iaK (n0 := 1) hv156 hc155 tb_51 tb_25) ?_
  refine s0 (T_st (ds' := [dI .i64 a25_6.vBase, dL cS a25_6.vQueue, dI .i64 a25_6.vWant, dL c_Held a25_6.vHeld, dI .i64 a86_1.vBase, dL cS a86_1.vQueue, dI .i64 a86_1.vWant, dL c_Held a86_1.vHeld]) tb_25) ?_
  refine .nil (hK _ _ ?_)
  obtain rfl := Option.some.inj h
  exact PE.i (wk h0 [0, 1, 2, 3, 5, 6, 7, 8, 9] (wR rfl (wR rfl (wR rfl (wR rfl (wR rfl (wR rfl (wR rfl (wR rfl (wR rfl (wR rfl wTn)))))))))) (vR rfl (vR rfl (vR rfl (vR rfl (vR rfl wVn))))) (wL rfl rfl (wL rfl rfl (wL rfl rfl (wL rfl rfl wLn)))))
  obtain ⟨a98_0, a98_1⟩ := y
  rintro ex tm' hp' ⟨rfl, hw⟩
  refine AW.weak hw ?_
  refine AW.seq ?_
  obtain ⟨y, hy, h⟩ := bnd_some h
  refine jn ((PE cx .normal (fun (a100_0, a100_1) => [(0, dL c_Op p_l), (3, .pt 0 0), (4, .pt 1 0), (5, .pt 2 0), (6, .pt 3 0), (7, dI .i64 a25_0), (8, dI .i64 a25_1), (9, dI .i64 x15), (13, dL cS a86_0)]) fun (a100_0, a100_1) => ⟨[(0, [dO 4 cS a25_2, dO 5 cS a25_3]), (1, [dI .i64 a100_0.vBase, dL cS a100_0.vQueue, dI .i64 a100_0.vWant, dL c_Held a100_0.vHeld, dI .i64 a100_1.vBase, dL cS a100_1.vQueue, dI .i64 a100_1.vWant, dL c_Held a100_1.vHeld]), (2, [dI .i64 a98_0.vBase, dL cS a98_0.vQueue, dI .i64 a98_0.vWant, dL c_Held a98_0.vHeld, dI .i64 a98_1.vBase, dL cS a98_1.vQueue, dI .i64 a98_1.vWant, dL c_Held a98_1.vHeld]), (3, [dO 6 c_Frame a74_0, dO 7 c_Frame a74_1])], [(4, (a25_2).length, 1, 9), (5, (a25_3).length, 1, 9), (6, (a74_0).length, 3, 27), (7, (a74_1).length, 3, 27)], 8⟩) y) ?_ ?_
  replace h := hy
  refine rg hx (by kernel_rfl) fun K hK => ?_
  refine s1 T_mv ?_
  refine s1 (T_faP tb_40 tb_25) ?_
  refine s1 (d := dG c_End a88_0.vX) (T_ldA tb_25) ?_
  rcases Bool.eq_false_or_eq_true (decide (x15 = 0)) with hb158 | hb158
  replace h := cnd_t hb158 h
  refine s1 (T_iaK (n0 := 0) (n := 2) (v := x15) (of_decide_eq_true hb158) (by have := of_decide_eq_true hb158; omega) tb_51 tb_25) ?_
  refine s0 (T_st (ds' := [dI .i64 a88_0.vX.vBase, dL cS a88_0.vX.vQueue, dI .i64 a88_0.vX.vWant, dL c_Held a88_0.vX.vHeld, dI .i64 a25_5.vBase, dL cS a25_5.vQueue, dI .i64 a25_5.vWant, dL c_Held a25_5.vHeld]) tb_25) ?_
  refine .nil (hK _ _ ?_)
  obtain rfl := Option.some.inj h
  exact PE.i (wk h0 [0, 1, 2, 3, 5, 6, 7, 8] (wR rfl (wR rfl (wR rfl (wR rfl (wR rfl (wR rfl (wR rfl (wR rfl (wR rfl wTn))))))))) (vR rfl (vR rfl (vR rfl (vR rfl wVn)))) (wL rfl rfl (wL rfl rfl (wL rfl rfl (wL rfl rfl wLn)))))
  replace h := cnd_f hb158 h
  obtain ⟨hc159, h⟩ := gd_some h
  have hv160 : x15 = (1 : Int) := by have := of_decide_eq_false hb158; omega
  refine s1 (T_iaK (n0 := 1) hv160 hc159 tb_51 tb_25) ?_
  refine s0 (T_st (ds' := [dI .i64 a25_4.vBase, dL cS a25_4.vQueue, dI .i64 a25_4.vWant, dL c_Held a25_4.vHeld, dI .i64 a88_0.vX.vBase, dL cS a88_0.vX.vQueue, dI .i64 a88_0.vX.vWant, dL c_Held a88_0.vX.vHeld]) tb_25) ?_
  refine .nil (hK _ _ ?_)
  obtain rfl := Option.some.inj h
  exact PE.i (wk h0 [0, 1, 2, 3, 5, 6, 7, 8] (wR rfl (wR rfl (wR rfl (wR rfl (wR rfl (wR rfl (wR rfl (wR rfl (wR rfl wTn))))))))) (vR rfl (vR rfl (vR rfl (vR rfl wVn)))) (wL rfl rfl (wL rfl rfl (wL rfl rfl (wL rfl rfl wLn)))))
  obtain ⟨a100_0, a100_1⟩ := y
  rintro ex tm' hp' ⟨rfl, hw⟩
  refine AW.weak hw ?_
  refine rg hx (by kernel_rfl) fun K hK => ?_
  iterate 2 refine s1 T_mv ?_
  rcases Bool.eq_false_or_eq_true (decide (x15 = 0)) with hb162 | hb162
  replace h := cnd_t hb162 h
  refine s1 (T_iaK (n0 := 0) (n := 2) (v := x15) (of_decide_eq_true hb162) (by have := of_decide_eq_true hb162; omega) tb_49 tb_22) ?_
  refine s1 (d := dO 4 cS a25_2) (T_ldC tb_22) ?_
  refine s1 T_mv ?_
  obtain ⟨hc163, h⟩ := gd_some h
  refine s1 (d := dO 4 cS (a25_2 ++ a86_0)) (T_appO tb_22 tb_9 hc163) ?_
  refine s1 (T_iaK (n0 := 0) (n := 2) (v := x15) (of_decide_eq_true hb162) (by have := of_decide_eq_true hb162; omega) tb_49 tb_22) ?_
  refine s0 (T_st (ds' := [dO 4 cS (a25_2 ++ a86_0), dO 5 cS a25_3]) tb_22) ?_
  refine .nil (hK _ _ ?_)
  obtain rfl := Option.some.inj h
  exact PS.l (PE.i (wk h0 [0, 1, 2, 3, 4, 5, 6, 7] (wR rfl (wR rfl (wR rfl (wR rfl (wR rfl (wR rfl (wR rfl wTn))))))) (vR rfl (vR rfl (vR rfl (vR rfl wVn)))) (wL rfl rfl (wL rfl rfl (wL rfl rfl (wL rfl rfl wLn))))))
  replace h := cnd_f hb162 h
  obtain ⟨hc164, h⟩ := gd_some h
  have hv165 : x15 = (1 : Int) := by have := of_decide_eq_false hb162; omega
  refine s1 (T_iaK (n0 := 1) hv165 hc164 tb_49 tb_22) ?_
  refine s1 (d := dO 5 cS a25_3) (T_ldC tb_22) ?_
  refine s1 T_mv ?_
  obtain ⟨hc166, h⟩ := gd_some h
  refine s1 (d := dO 5 cS (a25_3 ++ a86_0)) (T_appO tb_22 tb_9 hc166) ?_
  refine s1 (T_iaK (n0 := 1) (n := 2) (v := x15) (hv165) (by have := hv165; omega) tb_49 tb_22) ?_
  refine s0 (T_st (ds' := [dO 4 cS a25_2, dO 5 cS (a25_3 ++ a86_0)]) tb_22) ?_
  refine .nil (hK _ _ ?_)
  obtain rfl := Option.some.inj h
  exact PS.l (PE.i (wk h0 [0, 1, 2, 3, 4, 5, 6, 7] (wR rfl (wR rfl (wR rfl (wR rfl (wR rfl (wR rfl (wR rfl wTn))))))) (vR rfl (vR rfl (vR rfl (vR rfl wVn)))) (wL rfl rfl (wL rfl rfl (wL rfl rfl (wL rfl rfl wLn))))))
  rcases y with ⟨a33_0, a33_1, a33_2, a33_3, a33_4, a33_5, a33_6, a33_7, a33_8⟩ | r
  rintro ex tm' hp' ⟨rfl, hw⟩
  refine AW.weak hw ?_
  refine rg hx (by kernel_rfl) fun K hK => ?_
  refine s1 T_mv ?_
  refine s1 T_add ?_
  refine s1 T_as ?_
  refine .nil (hK _ _ ?_)
  obtain rfl := Option.some.inj h
  exact PS.l (PE.i (wk h0 [0, 1, 2, 3, 4, 5, 6, 7] (wR rfl (wR rfl (wR rfl (wR rfl (wR rfl (wR rfl (wR rfl wTn))))))) (vR rfl (vR rfl (vR rfl (vR rfl wVn)))) (wL rfl rfl (wL rfl rfl (wL rfl rfl (wL rfl rfl wLn))))))
  rintro ex tm' hp' ⟨rfl, hw⟩
  obtain rfl := Option.some.inj h
  exact PS.r ⟨by nofun, PS.l (PR.i hw)⟩
  replace h := cnd_f hb12 h
  refine AW.exit ?_
  try dsimp only
  try simp only [if_true, reduceIte, Nat.reduceEqDiff, reduceCtorEq]
  obtain rfl := Option.some.inj h
  exact PS.r ⟨by nofun, PS.r (PE.i (wk h0 [0, 1, 2, 4, 5] (wR rfl (wR rfl (wR rfl wTn))) (vR rfl (vR rfl (vR rfl wVn))) (wL rfl rfl (wL rfl rfl wLn))))⟩
  rcases y with r | ⟨a25e0_0, a25e0_1, a25e0_2, a25e0_3, a25e0_4, a25e0_5⟩
  rintro ex tm' hp' ⟨rfl, hw⟩
  obtain rfl := Option.some.inj h
  exact hw
  rintro ex tm' hp' ⟨rfl, hw⟩
  try dsimp only
  try simp only [if_true, reduceIte, Nat.reduceEqDiff, reduceCtorEq]
  refine AW.weak hw ?_
  refine AW.seq ?_
  obtain ⟨a104_0, hy, h⟩ := bnd_some h
  refine jn ((PE cx .normal (fun a104_0 => [(2, dB a104_0)]) fun a104_0 => ⟨[], [], 0⟩) a104_0) ?_ ?_
  replace h := hy
  refine rg hx (by kernel_rfl) fun K hK => ?_
  obtain ⟨x169, hx170, h⟩ := bnd_some h
  refine s1 (d := dB x169) (T_call rfl (w_law42_sanity hx170) rfl lAn (.inl rfl)) ?_
  refine s1 T_mv ?_
  rcases Bool.eq_false_or_eq_true x169 with hb171 | hb171
  replace h := cnd_t hb171 h
  refine g1 hb171 (T_iaK (n0 := 0) (n := 2) (v := (0 : Int)) rfl (by decide) tb_51 tb_25) ?_
  refine g1 (d := dG c_End a25e0_2) hb171 (T_ldA tb_25) ?_
  refine g1 hb171 (T_iaK (n0 := 0) (n := 2) (v := (0 : Int)) rfl (by decide) tb_51 tb_25) ?_
  refine g1 (d := dG c_End a25e0_4) hb171 (T_ldA tb_25) ?_
  obtain ⟨x172, hx173, h⟩ := bnd_some h
  refine g1 (d := dB x172) hb171 (T_call rfl (w_ref42_Same hx173) (by simp only [List.map_cons, List.map_nil, List.all_cons, List.all_nil, Bool.and_true, Bool.and_eq_true]; exact ⟨pure_ex_G _ _, pure_ex_G _ _⟩) (lA (le_refl' _) (lA (le_refl' _) lAn)) (.inl rfl)) ?_
  refine s1 (d := dB x172) (T_pickT hb171) ?_
  refine s1 T_mv ?_
  rcases Bool.eq_false_or_eq_true x172 with hb174 | hb174
  replace h := cnd_t hb174 h
  refine g1 hb174 (T_iaK (n0 := 1) (n := 2) (v := (1 : Int)) rfl (by decide) tb_51 tb_25) ?_
  refine g1 (d := dG c_End a25e0_3) hb174 (T_ldA tb_25) ?_
  refine g1 hb174 (T_iaK (n0 := 1) (n := 2) (v := (1 : Int)) rfl (by decide) tb_51 tb_25) ?_
  refine g1 (d := dG c_End a25e0_5) hb174 (T_ldA tb_25) ?_
  obtain ⟨x175, hx176, h⟩ := bnd_some h
  refine g1 (d := dB x175) hb174 (T_call rfl (w_ref42_Same hx176) (by simp only [List.map_cons, List.map_nil, List.all_cons, List.all_nil, Bool.and_true, Bool.and_eq_true]; exact ⟨pure_ex_G _ _, pure_ex_G _ _⟩) (lA (le_refl' _) (lA (le_refl' _) lAn)) (.inl rfl)) ?_
  refine s1 (d := dB x175) (T_pickT hb174) ?_
  refine s1 T_mv ?_
  rcases Bool.eq_false_or_eq_true x175 with hb177 | hb177
  replace h := cnd_t hb177 h
  refine g1 hb177 (T_iaK (n0 := 0) (n := 2) (v := (0 : Int)) rfl (by decide) tb_49 tb_22) ?_
  refine g1 (d := dO 3 cS a25e0_0) hb177 (T_ldC tb_22) ?_
  refine g1 (d := dI .i64 ((a25e0_0).length : Int)) hb177 (T_len tb_22 tb_9) ?_
  refine g1 hb177 T_add ?_
  refine g1 hb177 (T_iaK (n0 := 0) (n := 2) (v := (0 : Int)) rfl (by decide) tb_51 tb_25) ?_
  refine g1 hb177 (T_faP tb_25 tb_3) ?_
  refine g1 (d := dI .i64 a25e0_2.vWant) hb177 (T_ldC tb_3) ?_
  refine g1 hb177 T_eql ?_
  refine s1 (d := dB (decide ((IntKind.i64.wrap (((a25e0_0).length : Int) + (1 : Int))) = a25e0_2.vWant))) (T_pickT hb177) ?_
  refine s1 T_mv ?_
  rcases Bool.eq_false_or_eq_true (decide ((IntKind.i64.wrap (((a25e0_0).length : Int) + (1 : Int))) = a25e0_2.vWant)) with hb178 | hb178
  replace h := cnd_t hb178 h
  refine g1 hb178 (T_iaK (n0 := 1) (n := 2) (v := (1 : Int)) rfl (by decide) tb_49 tb_22) ?_
  refine g1 (d := dO 4 cS a25e0_1) hb178 (T_ldC tb_22) ?_
  refine g1 (d := dI .i64 ((a25e0_1).length : Int)) hb178 (T_len tb_22 tb_9) ?_
  refine g1 hb178 T_add ?_
  refine g1 hb178 (T_iaK (n0 := 1) (n := 2) (v := (1 : Int)) rfl (by decide) tb_51 tb_25) ?_
  refine g1 hb178 (T_faP tb_25 tb_3) ?_
  refine g1 (d := dI .i64 a25e0_3.vWant) hb178 (T_ldC tb_3) ?_
  refine g1 hb178 T_eql ?_
  refine s1 (d := dB (decide ((IntKind.i64.wrap (((a25e0_1).length : Int) + (1 : Int))) = a25e0_3.vWant))) (T_pickT hb178) ?_
  refine s1 T_as ?_
  refine .nil (hK _ _ ?_)
  obtain rfl := Option.some.inj h
  exact PE.i (wk h0 [] (wR rfl wTn) wVn wLn)
  replace h := cnd_f hb178 h
  iterate 8 refine no_t rfl rfl hb178 ?_
  refine s1 (d := dB false) (T_pickF hb178) ?_
  refine s1 T_as ?_
  refine .nil (hK _ _ ?_)
  obtain rfl := Option.some.inj h
  exact PE.i (wk h0 [] (wR rfl wTn) wVn wLn)
  replace h := cnd_f hb177 h
  iterate 8 refine no_t rfl rfl hb177 ?_
  refine s1 (d := dB false) (T_pickF hb177) ?_
  refine s1 T_mv ?_
  iterate 8 refine no_t rfl rfl rfl ?_
  refine s1 (d := dB false) (T_pickF rfl) ?_
  refine s1 T_as ?_
  refine .nil (hK _ _ ?_)
  obtain rfl := Option.some.inj h
  exact PE.i (wk h0 [] (wR rfl wTn) wVn wLn)
  replace h := cnd_f hb174 h
  iterate 5 refine no_t rfl rfl hb174 ?_
  refine s1 (d := dB false) (T_pickF hb174) ?_
  refine s1 T_mv ?_
  iterate 8 refine no_t rfl rfl rfl ?_
  refine s1 (d := dB false) (T_pickF rfl) ?_
  refine s1 T_mv ?_
  iterate 8 refine no_t rfl rfl rfl ?_
  refine s1 (d := dB false) (T_pickF rfl) ?_
  refine s1 T_as ?_
  refine .nil (hK _ _ ?_)
  obtain rfl := Option.some.inj h
  exact PE.i (wk h0 [] (wR rfl wTn) wVn wLn)
  replace h := cnd_f hb171 h
  iterate 5 refine no_t rfl rfl hb171 ?_
  refine s1 (d := dB false) (T_pickF hb171) ?_
  refine s1 T_mv ?_
  iterate 5 refine no_t rfl rfl rfl ?_
  refine s1 (d := dB false) (T_pickF rfl) ?_
  refine s1 T_mv ?_
  iterate 8 refine no_t rfl rfl rfl ?_
  refine s1 (d := dB false) (T_pickF rfl) ?_
  refine s1 T_mv ?_
  iterate 8 refine no_t rfl rfl rfl ?_
  refine s1 (d := dB false) (T_pickF rfl) ?_
  refine s1 T_as ?_
  refine .nil (hK _ _ ?_)
  obtain rfl := Option.some.inj h
  exact PE.i (wk h0 [] (wR rfl wTn) wVn wLn)
  rintro ex tm' hp' ⟨rfl, hw⟩
  refine AW.weak hw ?_
  refine AW.ret ?_
  obtain rfl := Option.some.inj h
  exact RetV.mk1 (resD_t rfl (.inr (.inr ⟨_, (le_refl' _), rfl, rfl⟩)))
end Go.Proofs.Ytakbadleipbngaa
