/-
  What functions compute, read off the program's code (written by a program of mine). Conditions: none.
-/
import Derived.Test.YtakbadleipbngaaGD
set_option linter.all false
namespace Go.Proofs.Ytakbadleipbngaa
open Go.RowKit
noncomputable def g_law42_prefix (p_a : List ByteArray) (p_b : List ByteArray) : Option Bool := bnd (S := Bool) (cnd (decide (((p_a).length : Int) ≤ ((p_b).length : Int))) (gd (0 ≤ (0 : Int) ∧ (0 : Int) ≤ ((p_a).length : Int) ∧ ((p_a).length : Int) ≤ ((p_b).length : Int)) (bnd (g_ref01_SameTexts p_a (subL p_b (0 : Int) ((p_a).length : Int))) fun x3 => some (x3))) (some (false))) fun a4_0 => some a4_0
theorem w_law42_prefix {p_a : List ByteArray} {p_b : List ByteArray} {r : Bool} (h : g_law42_prefix p_a p_b = some r) : PCalls Try.prog 30 [dL cS p_a, dL cS p_b] (dB r) := by
  refine PCalls.of (rs := [.tmp 4]) tok Try.func30 rfl rfl (Nat.le_of_ble_eq_true rfl) rfl (fun cx hx h0 => ?_)
  simp only [argsT, Nat.reduceAdd, Nat.zero_add]
  unfold g_law42_prefix at h
  refine AW.seq ?_
  refine rg hx (by kernel_rfl) fun K hK => ?_
  refine s1 (d := dB false) T_asg ?_
  refine .nil (hK _ _ ?_)
  refine AW.seq ?_
  obtain ⟨a4_0, hy, h⟩ := bnd_some h
  refine jn ((PE cx .normal (fun a4_0 => [(4, dB a4_0)]) fun a4_0 => ⟨[], [], 0⟩) a4_0) ?_ ?_
  replace h := hy
  refine rg hx (by kernel_rfl) fun K hK => ?_
  refine s1 T_mv ?_
  refine s1 (d := dI .i64 ((p_a).length : Int)) (T_len tb_22 tb_9) ?_
  refine s1 T_mv ?_
  refine s1 (d := dI .i64 ((p_b).length : Int)) (T_len tb_22 tb_9) ?_
  refine s1 T_leq ?_
  refine s1 T_mv ?_
  rcases Bool.eq_false_or_eq_true (decide (((p_a).length : Int) ≤ ((p_b).length : Int))) with hb1 | hb1
  replace h := cnd_t hb1 h
  iterate 3 refine g1 hb1 T_mv ?_
  refine g1 (d := dI .i64 ((p_a).length : Int)) hb1 (T_len tb_22 tb_9) ?_
  obtain ⟨hc2, h⟩ := gd_some h
  refine g1 hb1 (T_sl (c := cS) (l := p_b) (a := (0 : Int)) (b := ((p_a).length : Int)) hc2 tb_22 tb_9) ?_
  obtain ⟨x3, hx4, h⟩ := bnd_some h
  refine g1 (d := dB x3) hb1 (T_call rfl (w_ref01_SameTexts hx4) rfl (lA (le_refl' _) (lA (le_refl' _) lAn)) (.inl rfl)) ?_
  refine s1 (d := dB x3) (T_pickT hb1) ?_
  refine s1 T_as ?_
  refine .nil (hK _ _ ?_)
  obtain rfl := Option.some.inj h
  exact PE.i (wk h0 [] (wR rfl wTn) wVn wLn)
  replace h := cnd_f hb1 h
  iterate 6 refine no_t rfl rfl hb1 ?_
  refine s1 (d := dB false) (T_pickF hb1) ?_
  refine s1 T_as ?_
  refine .nil (hK _ _ ?_)
  obtain rfl := Option.some.inj h
  exact PE.i (wk h0 [] (wR rfl wTn) wVn wLn)
  rintro ex tm' hp' ⟨rfl, hw⟩
  refine AW.weak hw ?_
  refine AW.ret ?_
  obtain rfl := Option.some.inj h
  exact RetV.mk1 (resD_t rfl (.inr (.inr ⟨_, (le_refl' _), rfl, rfl⟩)))
noncomputable def g_law42_LinkKeepsOrder (p_l : List S_Op) : Option Bool := cnd (decide ((300 : Int) < ((p_l).length : Int))) (bnd (g_law42_sanity) fun x2 => some x2) (bnd (g_law42_run p_l) fun x4 => bnd (S := Bool) (bnd (g_law42_sanity) fun x6 => cnd x6 (cnd x4.2 (bnd (g_law42_prefix x4.1.v0.vgot x4.1.v1.voldS) fun x10 => cnd x10 (bnd (g_law42_prefix x4.1.v1.vgot x4.1.v0.voldS) fun x13 => cnd x13 (bnd (g_link_Check x4.1.v0.vx) fun x16 => cnd (decide (x16 = (0 : Int))) (bnd (g_link_Check x4.1.v1.vx) fun x19 => some (decide (x19 = (0 : Int)))) (some (false))) (some (false))) (some (false))) (some (false))) (some (false))) fun a14_0 => some a14_0)
theorem w_law42_LinkKeepsOrder {p_l : List S_Op} {r : Bool} (h : g_law42_LinkKeepsOrder p_l = some r) : PCalls Try.prog 6 [dL c_Op p_l] (dB r) := by
  refine PCalls.of (rs := [.tmp 2]) tok Try.func6 rfl rfl (Nat.le_of_ble_eq_true rfl) rfl (fun cx hx h0 => ?_)
  simp only [argsT, Nat.reduceAdd, Nat.zero_add]
  unfold g_law42_LinkKeepsOrder at h
  refine AW.seq ?_
  refine rg hx (by kernel_rfl) fun K hK => ?_
  refine s1 (d := dB false) T_asg ?_
  refine .nil (hK _ _ ?_)
  iterate 2 refine AW.seq ?_
  refine rg hx (by kernel_rfl) fun K hK => ?_
  refine s1 T_mv ?_
  refine s1 (d := dI .i64 ((p_l).length : Int)) (T_len tb_48 tb_55) ?_
  refine s1 T_gtr ?_
  refine .nil (hK _ _ ?_)
  refine AW.condS rfl (fun hb1 => ?_) (fun hb1 => ?_)
  replace h := cnd_t hb1 h
  refine AW.seq ?_
  refine rg hx (by kernel_rfl) fun K hK => ?_
  obtain ⟨x2, hx3, h⟩ := bnd_some h
  refine s1 (d := dB x2) (T_call rfl (w_law42_sanity hx3) rfl lAn (.inl rfl)) ?_
  refine s1 T_as ?_
  refine .nil (hK _ _ ?_)
  refine AW.ret ?_
  obtain rfl := Option.some.inj h
  exact RetV.mk1 (resD_t rfl (.inr (.inr ⟨_, (le_refl' _), rfl, rfl⟩)))
  replace h := cnd_f hb1 h
  refine AW.skip ?_
  refine AW.seq ?_
  refine rg hx (by kernel_rfl) fun K hK => ?_
  refine s1 T_mv ?_
  obtain ⟨x4, hx5, h⟩ := bnd_some h
  refine s1 (T_call rfl (w_law42_run hx5) rfl (lA (le_refl' _) lAn) (.inr ⟨_, rfl⟩)) ?_
  refine s1 T_mv ?_
  iterate 2 refine s1 T_ext ?_
  refine s1 (d := .pt 0 0) (T_alloc tb_69) ?_
  refine s0 (T_st (ds' := [dI .i64 x4.1.v0.vx.vBase, dL cS x4.1.v0.vx.vQueue, dI .i64 x4.1.v0.vx.vWant, dL c_Held x4.1.v0.vx.vHeld, dI .i64 x4.1.v0.vold.vBase, dL cS x4.1.v0.vold.vQueue, dI .i64 x4.1.v0.vold.vWant, dL c_Held x4.1.v0.vold.vHeld, dL cS x4.1.v0.vsent, dL cS x4.1.v0.vgot, dL cS x4.1.v0.voldS, dL cS x4.1.v0.voldG, dL c_Frame x4.1.v0.vway, dI .i64 x4.1.v1.vx.vBase, dL cS x4.1.v1.vx.vQueue, dI .i64 x4.1.v1.vx.vWant, dL c_Held x4.1.v1.vx.vHeld, dI .i64 x4.1.v1.vold.vBase, dL cS x4.1.v1.vold.vQueue, dI .i64 x4.1.v1.vold.vWant, dL c_Held x4.1.v1.vold.vHeld, dL cS x4.1.v1.vsent, dL cS x4.1.v1.vgot, dL cS x4.1.v1.voldS, dL cS x4.1.v1.voldG, dL c_Frame x4.1.v1.vway]) tb_69) ?_
  refine s1 T_as ?_
  refine .nil (hK _ _ ?_)
  refine AW.seq ?_
  obtain ⟨a14_0, hy, h⟩ := bnd_some h
  refine jn ((PE cx .normal (fun a14_0 => [(2, dB a14_0)]) fun a14_0 => ⟨[], [], 0⟩) a14_0) ?_ ?_
  replace h := hy
  refine rg hx (by kernel_rfl) fun K hK => ?_
  obtain ⟨x6, hx7, h⟩ := bnd_some h
  refine s1 (d := dB x6) (T_call rfl (w_law42_sanity hx7) rfl lAn (.inl rfl)) ?_
  refine s1 T_mv ?_
  rcases Bool.eq_false_or_eq_true x6 with hb8 | hb8
  replace h := cnd_t hb8 h
  refine g1 hb8 T_mv ?_
  refine s1 (d := dB x4.2) (T_pickT hb8) ?_
  refine s1 T_mv ?_
  rcases Bool.eq_false_or_eq_true x4.2 with hb9 | hb9
  replace h := cnd_t hb9 h
  refine g1 hb9 (T_iaK (n0 := 0) (n := 2) (v := (0 : Int)) rfl (by decide) tb_69 tb_68) ?_
  refine g1 hb9 (T_faP tb_68 tb_22) ?_
  refine g1 (d := dL cS x4.1.v0.vgot) hb9 (T_ldC tb_22) ?_
  refine g1 hb9 (T_iaK (n0 := 1) (n := 2) (v := (1 : Int)) rfl (by decide) tb_69 tb_68) ?_
  refine g1 hb9 (T_faP tb_68 tb_22) ?_
  refine g1 (d := dL cS x4.1.v1.voldS) hb9 (T_ldC tb_22) ?_
  obtain ⟨x10, hx11, h⟩ := bnd_some h
  refine g1 (d := dB x10) hb9 (T_call rfl (w_law42_prefix hx11) rfl (lA (le_refl' _) (lA (le_refl' _) lAn)) (.inl rfl)) ?_
  refine s1 (d := dB x10) (T_pickT hb9) ?_
  refine s1 T_mv ?_
  rcases Bool.eq_false_or_eq_true x10 with hb12 | hb12
  replace h := cnd_t hb12 h
  refine g1 hb12 (T_iaK (n0 := 1) (n := 2) (v := (1 : Int)) rfl (by decide) tb_69 tb_68) ?_
  refine g1 hb12 (T_faP tb_68 tb_22) ?_
  refine g1 (d := dL cS x4.1.v1.vgot) hb12 (T_ldC tb_22) ?_
  refine g1 hb12 (T_iaK (n0 := 0) (n := 2) (v := (0 : Int)) rfl (by decide) tb_69 tb_68) ?_
  refine g1 hb12 (T_faP tb_68 tb_22) ?_
  refine g1 (d := dL cS x4.1.v0.voldS) hb12 (T_ldC tb_22) ?_
  obtain ⟨x13, hx14, h⟩ := bnd_some h
  refine g1 (d := dB x13) hb12 (T_call rfl (w_law42_prefix hx14) rfl (lA (le_refl' _) (lA (le_refl' _) lAn)) (.inl rfl)) ?_
  refine s1 (d := dB x13) (T_pickT hb12) ?_
  refine s1 T_mv ?_
  rcases Bool.eq_false_or_eq_true x13 with hb15 | hb15
  replace h := cnd_t hb15 h
  refine g1 hb15 (T_iaK (n0 := 0) (n := 2) (v := (0 : Int)) rfl (by decide) tb_69 tb_68) ?_
  refine g1 hb15 (T_faP tb_68 tb_25) ?_
  refine g1 (d := dG c_End x4.1.v0.vx) hb15 (T_ldA tb_25) ?_
  obtain ⟨x16, hx17, h⟩ := bnd_some h
  refine g1 (d := dI .i64 x16) hb15 (T_call rfl (w_link_Check hx17) (by simp only [List.map_cons, List.map_nil, List.all_cons, List.all_nil, Bool.and_true, Bool.and_eq_true]; exact pure_ex_G _ _) (lA (le_refl' _) lAn) (.inl rfl)) ?_
  refine g1 hb15 T_eql ?_
  refine s1 (d := dB (decide (x16 = (0 : Int)))) (T_pickT hb15) ?_
  refine s1 T_mv ?_
  rcases Bool.eq_false_or_eq_true (decide (x16 = (0 : Int))) with hb18 | hb18
  replace h := cnd_t hb18 h
  refine g1 hb18 (T_iaK (n0 := 1) (n := 2) (v := (1 : Int)) rfl (by decide) tb_69 tb_68) ?_
  refine g1 hb18 (T_faP tb_68 tb_25) ?_
  refine g1 (d := dG c_End x4.1.v1.vx) hb18 (T_ldA tb_25) ?_
  obtain ⟨x19, hx20, h⟩ := bnd_some h
  refine g1 (d := dI .i64 x19) hb18 (T_call rfl (w_link_Check hx20) (by simp only [List.map_cons, List.map_nil, List.all_cons, List.all_nil, Bool.and_true, Bool.and_eq_true]; exact pure_ex_G _ _) (lA (le_refl' _) lAn) (.inl rfl)) ?_
  refine g1 hb18 T_eql ?_
  refine s1 (d := dB (decide (x19 = (0 : Int)))) (T_pickT hb18) ?_
  refine s1 T_as ?_
  refine .nil (hK _ _ ?_)
  obtain rfl := Option.some.inj h
  exact PE.i (wk h0 [] (wR rfl wTn) wVn wLn)
  replace h := cnd_f hb18 h
  iterate 5 refine no_t rfl rfl hb18 ?_
  refine s1 (d := dB false) (T_pickF hb18) ?_
  refine s1 T_as ?_
  refine .nil (hK _ _ ?_)
  obtain rfl := Option.some.inj h
  exact PE.i (wk h0 [] (wR rfl wTn) wVn wLn)
  replace h := cnd_f hb15 h
  iterate 5 refine no_t rfl rfl hb15 ?_
  refine s1 (d := dB false) (T_pickF hb15) ?_
  refine s1 T_mv ?_
  iterate 5 refine no_t rfl rfl rfl ?_
  refine s1 (d := dB false) (T_pickF rfl) ?_
  refine s1 T_as ?_
  refine .nil (hK _ _ ?_)
  obtain rfl := Option.some.inj h
  exact PE.i (wk h0 [] (wR rfl wTn) wVn wLn)
  replace h := cnd_f hb12 h
  iterate 7 refine no_t rfl rfl hb12 ?_
  refine s1 (d := dB false) (T_pickF hb12) ?_
  refine s1 T_mv ?_
  iterate 5 refine no_t rfl rfl rfl ?_
  refine s1 (d := dB false) (T_pickF rfl) ?_
  refine s1 T_mv ?_
  iterate 5 refine no_t rfl rfl rfl ?_
  refine s1 (d := dB false) (T_pickF rfl) ?_
  refine s1 T_as ?_
  refine .nil (hK _ _ ?_)
  obtain rfl := Option.some.inj h
  exact PE.i (wk h0 [] (wR rfl wTn) wVn wLn)
  replace h := cnd_f hb9 h
  iterate 7 refine no_t rfl rfl hb9 ?_
  refine s1 (d := dB false) (T_pickF hb9) ?_
  refine s1 T_mv ?_
  iterate 7 refine no_t rfl rfl rfl ?_
  refine s1 (d := dB false) (T_pickF rfl) ?_
  refine s1 T_mv ?_
  iterate 5 refine no_t rfl rfl rfl ?_
  refine s1 (d := dB false) (T_pickF rfl) ?_
  refine s1 T_mv ?_
  iterate 5 refine no_t rfl rfl rfl ?_
  refine s1 (d := dB false) (T_pickF rfl) ?_
  refine s1 T_as ?_
  refine .nil (hK _ _ ?_)
  obtain rfl := Option.some.inj h
  exact PE.i (wk h0 [] (wR rfl wTn) wVn wLn)
  replace h := cnd_f hb8 h
  refine no_t rfl rfl hb8 ?_
  refine s1 (d := dB false) (T_pickF hb8) ?_
  refine s1 T_mv ?_
  iterate 7 refine no_t rfl rfl rfl ?_
  refine s1 (d := dB false) (T_pickF rfl) ?_
  refine s1 T_mv ?_
  iterate 7 refine no_t rfl rfl rfl ?_
  refine s1 (d := dB false) (T_pickF rfl) ?_
  refine s1 T_mv ?_
  iterate 5 refine no_t rfl rfl rfl ?_
  refine s1 (d := dB false) (T_pickF rfl) ?_
  refine s1 T_mv ?_
  iterate 5 refine no_t rfl rfl rfl ?_
  refine s1 (d := dB false) (T_pickF rfl) ?_
  refine s1 T_as ?_
  refine .nil (hK _ _ ?_)
  obtain rfl := Option.some.inj h
  exact PE.i (wk h0 [] (wR rfl wTn) wVn wLn)
  rintro ex tm' hp' ⟨rfl, hw⟩
  refine AW.weak hw ?_
  refine AW.ret ?_
  obtain rfl := Option.some.inj h
  exact RetV.mk1 (resD_t rfl (.inr (.inr ⟨_, (le_refl' _), rfl, rfl⟩)))
end Go.Proofs.Ytakbadleipbngaa
