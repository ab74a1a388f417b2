/-
  What functions compute, read off the program's code (written by a program of mine). Conditions: none.
-/
import Derived.Test.YtakbadleipbngaaGS
set_option linter.all false
namespace Go.Proofs.Ytakbadleipbngaa
open Go.RowKit
theorem el_slices_Grow_byte_byte : El Try.prog 58 5 (.int .u8 (0)) 1 1 := ⟨Try.underlying58, info_parts (by kernel_rfl), rfl, by decide⟩
set_option maxHeartbeats 1000000 in
set_option maxRecDepth 100000 in
theorem wr_slices_Grow_byte_byte (n : Nat) (w : World) (hn : n ≤ 1000000) :
    Calls Try.prog 60 #[.slice none 0 0, .int .i64 (n : Int)] w fun e w' => ∃ q, e = .returned q ∧ w'.ownsRow w.heap.size 5 1 q 0 [] ∧ Below w.heap.size w w' := by
  obtain ⟨i0, hi, hz0, hz1, hz2⟩ := info_parts (P := Try.prog) (e := 5) (z := (.int .u8 (0))) (size := 1) (bytes := 1) (by kernel_rfl)
  have h1 : ¬ ((n : Int) < 0) := by omega
  have h3 : wrap64 ((n : Int) - wrap64 (0 - 0)) = (n : Int) := by unfold wrap64; omega
  have h3' : wrap64 (n : Int) = (n : Int) := by unfold wrap64; omega
  rcases Nat.eq_zero_or_pos n with h0 | h0
  · subst h0
    go_enter Try.func60, Try.ntmps60
    go_wp2
    go_ret
    exact ⟨_, rfl, World.ownsRow_nil _ _ _ _, Below.refl _ _⟩
  · have h4 : (n : Int) > 0 := by omega
    have hrz : ∀ ty, (Builtin.append_ #[58, 3] ty #[.slice none 0 0, .int .i64 (n : Int)]).run Try.prog w = .ok (.slice (some ⟨w.heap.size, 0, none⟩) n (grownCap w n 0 5)) (w.drew.alloc (.cells (Builtin.zeroCells (Value.cells (.int .u8 (0))) n ++ Builtin.zeroCells (Value.cells (.int .u8 (0))) (grownCap w n 0 5 - n)) 5)) := fun ty => by
      have h := Lib.run_append_grow_zeros (P := Try.prog) w 58 3 ty 5 i0 (.int .u8 (0)) .i64 .i64 Try.underlying58 Try.underlying3 hi hz0 none 0 0 [] (by simp [Builtin.firstCells]) n h0 (by rw [hz1]; decide) (by omega) (by omega) (by rw [hz2]; omega) (growslice_fits (by omega) (by rw [hz2]; omega))
      simpa using h
    have hGn : n ≤ grownCap w n 0 5 := grownCap_ge w _ _ _
    have hG63 : grownCap w n 0 5 ≤ maxLen := grownCap_le_maxLen w n 0 5 (by unfold maxLen; omega)
    obtain ⟨G, hG⟩ : ∃ G, G = grownCap w n 0 5 := ⟨_, rfl⟩
    rw [← hG] at hrz hGn hG63
    have hG64 : G ≤ 9223372036854775807 := hG63
    have hsz : (Builtin.zeroCells (Value.cells (.int .u8 (0))) n ++ Builtin.zeroCells (Value.cells (.int .u8 (0))) (G - n)).size = G * 1 := by
      have hz : ((Value.cells (.int .u8 (0)))).size = 1 := by kernel_rfl
      simp only [Builtin.zeroCells, Array.size_append, Array.size_map, Array.size_range, hz]
      rw [← Nat.add_mul]; congr 1; omega
    obtain ⟨C, hC⟩ : ∃ C, C = Builtin.zeroCells (Value.cells (.int .u8 (0))) n ++ Builtin.zeroCells (Value.cells (.int .u8 (0))) (G - n) := ⟨_, rfl⟩
    rw [← hC] at hrz hsz
    have HC := Lib.hid hC
    have HG := Lib.hid hG
    have HS := Lib.hid hsz
    have H63 := Lib.hid hG63
    clear hC hG hsz hG63
    go_enter Try.func60, Try.ntmps60
    go_wp2_with (at_builtin; refine Lib.wpList_append_run _ rfl _ _ _ _ rfl _ _ rfl rfl _ _ (hrz _) ?_)
    all_goals (go_ret; exact ⟨_, rfl, World.ownsRow_made w.drew C G (Nat.le_refl _) H63.out HS.out, ((Below.refl w.heap.size w).drew).alloc (Nat.le_refl _) _⟩)
noncomputable def g_slices_Grow_byte_byte (n : Int) : Option (List Int) := gd (0 ≤ n ∧ n ≤ 1000000) (some [])
theorem w_slices_Grow_byte_byte {n : Int} {r : List Int} (h : g_slices_Grow_byte_byte n = some r) : PCalls Try.prog 60 [dN, dI .i64 n] (.own 5 (cI .u8).sz r.length (r.flatMap (cI .u8).f)) := by
  obtain ⟨hn, h⟩ := gd_some h
  obtain rfl := Option.some.inj h
  obtain ⟨m, rfl⟩ : ∃ m : Nat, n = (m : Int) := ⟨n.toNat, by omega⟩
  exact grow_of (by decide) ⟨_, Try.func60, rfl, rfl⟩ (fun w => wr_slices_Grow_byte_byte m w (by omega))
noncomputable def g_slices_Concat_byte_byte_l9 (p_slices : List (List Int)) : Int × Int → Option ((Int × Int) ⊕ Int) := fun (a9_0, a9_1) => cnd (decide (a9_1 < ((p_slices).length : Int))) (gd (0 ≤ a9_1 ∧ a9_1 < ((p_slices).length : Int)) (bnd (some (IntKind.i64.wrap (a9_0 + (((p_slices)[(a9_1).toNat]!).length : Int)))) fun x4 => cnd (decide (x4 < (0 : Int))) (none) (some (.inl (x4, IntKind.i64.wrap (a9_1 + (1 : Int))))))) (some (.inr a9_0))
noncomputable def g_slices_Concat_byte_byte_l34 (p_slices : List (List Int)) : (List Int) × Int → Option (((List Int) × Int) ⊕ ((List Int))) := fun (a34_0, a34_1) => cnd (decide (a34_1 < ((p_slices).length : Int))) (gd (0 ≤ a34_1 ∧ a34_1 < ((p_slices).length : Int)) (gd ((a34_0 ++ ((p_slices)[(a34_1).toNat]!)).length * 1 ≤ 140737488355328) (some (.inl (a34_0 ++ ((p_slices)[(a34_1).toNat]!), IntKind.i64.wrap (a34_1 + (1 : Int))))))) (some (.inr a34_0))
noncomputable def g_slices_Concat_byte_byte (p_slices : List (List Int)) : Option (List Int) := bnd (loopO (g_slices_Concat_byte_byte_l9 p_slices) ((0 : Int), (0 : Int))) fun a9e0_0 => bnd (g_slices_Grow_byte_byte a9e0_0) fun x8 => bnd (loopO (g_slices_Concat_byte_byte_l34 p_slices) (x8, (0 : Int))) fun a34e2_0 => some a34e2_0
theorem w_slices_Concat_byte_byte {p_slices : List (List Int)} {r : List Int} (h : g_slices_Concat_byte_byte p_slices = some r) : PCalls Try.prog 44 [dL (cL (cI .u8)) p_slices] (.own 5 (cI .u8).sz r.length (r.flatMap (cI .u8).f)) := by
  refine PCalls.of (rs := [.tmp 2]) tok Try.func44 rfl rfl (Nat.le_of_ble_eq_true rfl) rfl (fun cx hx h0 => ?_)
  simp only [argsT, Nat.reduceAdd, Nat.zero_add]
  unfold g_slices_Concat_byte_byte at h
  refine AW.seq ?_
  refine rg hx (by kernel_rfl) fun K hK => ?_
  refine s1 (d := dO 0 (cI .u8) ([] : List Int)) (T_asgN tb_58 tb_5) ?_
  refine .nil (hK _ _ ?_)
  refine AW.seq ?_
  refine rg hx (by kernel_rfl) fun K hK => ?_
  refine s1 (d := dI .i64 (0 : Int)) T_asg ?_
  refine .nil (hK _ _ ?_)
  iterate 2 refine AW.seq ?_
  refine rg hx (by kernel_rfl) fun K hK => ?_
  refine s1 T_mv ?_
  refine s1 (d := dI .i64 ((p_slices).length : Int)) (T_len tb_102 tb_58) ?_
  refine s1 (d := dI .i64 (0 : Int)) T_move ?_
  refine .nil (hK _ _ ?_)
  refine AW.block ?_
  obtain ⟨a9e0_0, hy, h⟩ := bnd_some h
  refine lp (S := Int × Int) (X := Int) (fun (a9_0, a9_1) => [(0, dL (cL (cI .u8)) p_slices), (3, dI .i64 a9_0), (9, dL (cL (cI .u8)) p_slices), (10, dI .i64 ((p_slices).length : Int)), (11, dI .i64 a9_1)]) (fun (a9_0, a9_1) => ⟨[], [], 0⟩) (PE cx (.exit 0) (fun a9e0_0 => [(0, dL (cL (cI .u8)) p_slices), (3, dI .i64 a9e0_0)]) fun a9e0_0 => ⟨[], [], 0⟩) hy ?_ ?_ ?_
  exact wk h0 [] (wR rfl (wR rfl (wR rfl (wR rfl (wR rfl wTn))))) wVn wLn
  clear hy h
  rintro ⟨a9_0, a9_1⟩ y h
  dsimp only [g_slices_Concat_byte_byte_l9] at h
  refine AW.seq ?_
  refine rg hx (by kernel_rfl) fun K hK => ?_
  refine s1 T_lss ?_
  refine .nil (hK _ _ ?_)
  refine AW.seq ?_
  refine AW.condS rfl (fun hb1 => ?_) (fun hb1 => ?_)
  replace h := cnd_t hb1 h
  refine AW.skip ?_
  refine AW.seq ?_
  refine AW.block ?_
  refine AW.seq ?_
  refine rg hx (by kernel_rfl) fun K hK => ?_
  obtain ⟨hc2, h⟩ := gd_some h
  have hn3 : (a9_1).toNat < (p_slices).length := by omega
  refine s1 (T_iaS hc2 tb_102 tb_58) ?_
  refine s1 (d := dL (cI .u8) ((p_slices)[(a9_1).toNat]!)) (T_ldF (c := (cL (cI .u8))) (l := p_slices) (n := (a9_1).toNat) (o := 0) tb_58 hn3) ?_
  refine s1 T_as ?_
  refine .nil (hK _ _ ?_)
  refine AW.seq ?_
  refine rg hx (by kernel_rfl) fun K hK => ?_
  iterate 2 refine s1 T_mv ?_
  refine s1 (d := dI .i64 (((p_slices)[(a9_1).toNat]!).length : Int)) (T_len tb_58 tb_5) ?_
  refine s1 T_add ?_
  obtain ⟨x4, hx5, h⟩ := bnd_some h
  replace hx5 := Option.some.inj hx5
  refine s2 (d2 := dI .i64 x4) T_as (le_eq (congrArg (dI .i64) hx5)) ?_
  refine .nil (hK _ _ ?_)
  refine AW.seq ?_
  refine rg hx (by kernel_rfl) fun K hK => ?_
  refine s1 T_mv ?_
  refine s1 T_lss ?_
  refine .nil (hK _ _ ?_)
  refine AW.condS rfl (fun hb6 => ?_) (fun hb6 => ?_)
  replace h := cnd_t hb6 h
  refine rg hx (by kernel_rfl) fun K hK => ?_
  cases h
  replace h := cnd_f hb6 h
  refine AW.skip ?_
  refine rg hx (by kernel_rfl) fun K hK => ?_
  refine s1 T_add ?_
  refine s1 T_mv ?_
  refine .nil (hK _ _ ?_)
  obtain rfl := Option.some.inj h
  exact PS.l (PE.i (wk h0 [] (wR rfl (wR rfl (wR rfl (wR rfl (wR rfl wTn))))) wVn wLn))
  replace h := cnd_f hb1 h
  refine AW.exit ?_
  try dsimp only
  try simp only [if_true, reduceIte, Nat.reduceEqDiff, reduceCtorEq]
  obtain rfl := Option.some.inj h
  exact PS.r ⟨by nofun, PE.i (wk h0 [] (wR rfl (wR rfl wTn)) wVn wLn)⟩
  rintro ex tm' hp' ⟨rfl, hw⟩
  try dsimp only
  try simp only [if_true, reduceIte, Nat.reduceEqDiff, reduceCtorEq]
  refine AW.weak hw ?_
  refine AW.seq ?_
  refine rg hx (by kernel_rfl) fun K hK => ?_
  refine s1 T_mv ?_
  obtain ⟨x8, hx9, h⟩ := bnd_some h
  refine s1 (d := dO 0 (cI .u8) x8) (T_callO rfl (w_slices_Grow_byte_byte hx9) rfl (lA (le_refl' _) (lA (le_refl' _) lAn))) ?_
  refine s1 T_as ?_
  refine .nil (hK _ _ ?_)
  iterate 2 refine AW.seq ?_
  refine rg hx (by kernel_rfl) fun K hK => ?_
  refine s1 T_mv ?_
  refine s1 (d := dI .i64 ((p_slices).length : Int)) (T_len tb_102 tb_58) ?_
  refine s1 (d := dI .i64 (0 : Int)) T_move ?_
  refine .nil (hK _ _ ?_)
  refine AW.block ?_
  obtain ⟨a34e2_0, hy, h⟩ := bnd_some h
  refine lp (S := (List Int) × Int) (X := (List Int)) (fun (a34_0, a34_1) => [(6, dO 0 (cI .u8) a34_0), (25, dL (cL (cI .u8)) p_slices), (26, dI .i64 ((p_slices).length : Int)), (27, dI .i64 a34_1)]) (fun (a34_0, a34_1) => ⟨[], [(0, (a34_0).length, 1, 5)], 1⟩) (PE cx (.exit 2) (fun a34e2_0 => [(6, dO 0 (cI .u8) a34e2_0)]) fun a34e2_0 => ⟨[], [(0, (a34e2_0).length, 1, 5)], 1⟩) hy ?_ ?_ ?_
  exact wk h0 [0] (wR rfl (wR rfl (wR rfl (wR rfl wTn)))) wVn (wL rfl rfl wLn)
  clear hy h
  rintro ⟨a34_0, a34_1⟩ y h
  dsimp only [g_slices_Concat_byte_byte_l34] at h
  refine AW.seq ?_
  refine rg hx (by kernel_rfl) fun K hK => ?_
  refine s1 T_lss ?_
  refine .nil (hK _ _ ?_)
  refine AW.seq ?_
  refine AW.condS rfl (fun hb10 => ?_) (fun hb10 => ?_)
  replace h := cnd_t hb10 h
  refine AW.skip ?_
  refine AW.seq ?_
  refine AW.block ?_
  refine AW.seq ?_
  refine rg hx (by kernel_rfl) fun K hK => ?_
  obtain ⟨hc11, h⟩ := gd_some h
  have hn12 : (a34_1).toNat < (p_slices).length := by omega
  refine s1 (T_iaS hc11 tb_102 tb_58) ?_
  refine s1 (d := dL (cI .u8) ((p_slices)[(a34_1).toNat]!)) (T_ldF (c := (cL (cI .u8))) (l := p_slices) (n := (a34_1).toNat) (o := 0) tb_58 hn12) ?_
  refine s1 T_as ?_
  refine .nil (hK _ _ ?_)
  refine rg hx (by kernel_rfl) fun K hK => ?_
  iterate 2 refine s1 T_mv ?_
  obtain ⟨hc13, h⟩ := gd_some h
  refine s1 (d := dO 0 (cI .u8) (a34_0 ++ ((p_slices)[(a34_1).toNat]!))) (T_appO tb_58 tb_5 hc13) ?_
  refine s1 T_as ?_
  refine .nil (hK _ _ ?_)
  refine rg hx (by kernel_rfl) fun K hK => ?_
  refine s1 T_add ?_
  refine s1 T_mv ?_
  refine .nil (hK _ _ ?_)
  obtain rfl := Option.some.inj h
  exact PS.l (PE.i (wk h0 [0] (wR rfl (wR rfl (wR rfl (wR rfl wTn)))) wVn (wL rfl rfl wLn)))
  replace h := cnd_f hb10 h
  refine AW.exit ?_
  try dsimp only
  try simp only [if_true, reduceIte, Nat.reduceEqDiff, reduceCtorEq]
  obtain rfl := Option.some.inj h
  exact PS.r ⟨by nofun, PE.i (wk h0 [0] (wR rfl wTn) wVn (wL rfl rfl wLn))⟩
  rintro ex tm' hp' ⟨rfl, hw⟩
  try dsimp only
  try simp only [if_true, reduceIte, Nat.reduceEqDiff, reduceCtorEq]
  refine AW.weak hw ?_
  refine AW.seq ?_
  refine rg hx (by kernel_rfl) fun K hK => ?_
  refine s1 T_mv ?_
  refine s1 T_as ?_
  refine .nil (hK _ _ ?_)
  refine AW.ret ?_
  obtain rfl := Option.some.inj h
  exact RetV.own rfl rfl
noncomputable def g_wire_GetInt_l14 (p_b : List Int) : Int × Int → Option ((Int × Int) ⊕ ((Int × Int × Int) ⊕ (Int × Int))) := fun (a14_0, a14_1) => cnd (decide (a14_1 < ((p_b).length : Int))) (gd (0 ≤ a14_1 ∧ a14_1 < ((p_b).length : Int)) (bnd (S := Bool) (bnd (S := Bool) (cnd (decide (a14_1 = (9 : Int))) (some (decide ((1 : Int) < ((p_b)[(a14_1).toNat]!)))) (some (false))) fun a29_0 => cnd a29_0 (some (a29_0)) (cnd (decide ((0 : Int) < a14_1)) (some (decide (((p_b)[(a14_1).toNat]!) = (0 : Int)))) (some (false)))) fun a28_0 => cnd a28_0 (some (.inr (.inl ((0 : Int), (0 : Int), (11 : Int))))) (gd (0 ≤ IntKind.i64.wrap ((7 : Int) * a14_1)) (bnd (some (ior .u64 a14_0 (ishl .u64 (IntKind.u64.wrap (iand .u8 ((p_b)[(a14_1).toNat]!) (127 : Int))) (IntKind.i64.wrap ((7 : Int) * a14_1))))) fun x11 => cnd (decide (((p_b)[(a14_1).toNat]!) < (128 : Int))) (some (.inr (.inr (x11, IntKind.i64.wrap (a14_1 + (1 : Int)))))) (some (.inl (x11, IntKind.i64.wrap (a14_1 + (1 : Int))))))))) (some (.inr (.inr (a14_0, (0 : Int)))))
noncomputable def g_wire_GetInt (p_b : List Int) : Option (Int × Int × Int) := bnd (loopO (g_wire_GetInt_l14 p_b) ((0 : Int), (0 : Int))) fun y14 => match y14 with | .inl r => some r | .inr (a14e0_0, a14e0_1) => cnd (decide (a14e0_1 = (0 : Int))) (some ((0 : Int), (0 : Int), (10 : Int))) (some (ixor .i64 (IntKind.i64.wrap (ishr .u64 a14e0_0 (1 : Int))) (IntKind.i64.wrap (0 - (IntKind.i64.wrap (iand .u64 a14e0_0 (1 : Int))))), a14e0_1, (0 : Int)))
theorem w_wire_GetInt {p_b : List Int} {r : Int × Int × Int} (h : g_wire_GetInt p_b = some r) : PCalls Try.prog 52 [dL (cI .u8) p_b] (.tu [dI .i64 r.1, dI .i64 r.2.1, dI .i64 r.2.2]) := by
  refine PCalls.of (rs := [.tmp 2, .tmp 3, .tmp 4]) tok Try.func52 rfl rfl (Nat.le_of_ble_eq_true rfl) rfl (fun cx hx h0 => ?_)
  simp only [argsT, Nat.reduceAdd, Nat.zero_add]
  unfold g_wire_GetInt at h
  refine AW.seq ?_
  refine rg hx (by kernel_rfl) fun K hK => ?_
  iterate 3 refine s1 (d := dI .i64 (0 : Int)) T_asg ?_
  refine .nil (hK _ _ ?_)
  refine AW.scope ?_
  refine AW.seq ?_
  refine rg hx (by kernel_rfl) fun K hK => ?_
  refine s1 (d := dI .u64 (0 : Int)) T_asg ?_
  refine .nil (hK _ _ ?_)
  refine AW.seq ?_
  refine rg hx (by kernel_rfl) fun K hK => ?_
  refine s1 (d := dI .i64 (0 : Int)) T_asg ?_
  refine .nil (hK _ _ ?_)
  refine AW.seq ?_
  refine AW.label ?_
  iterate 2 refine AW.seq ?_
  refine rg hx (by kernel_rfl) fun K hK => ?_
  refine s1 T_mv ?_
  refine s1 (d := dI .i64 ((p_b).length : Int)) (T_len tb_58 tb_5) ?_
  refine s1 (d := dI .i64 (0 : Int)) T_move ?_
  refine .nil (hK _ _ ?_)
  refine AW.block ?_
  obtain ⟨y, hy, h⟩ := bnd_some h
  refine lp (S := Int × Int) (X := (Int × Int × Int) ⊕ (Int × Int)) (fun (a14_0, a14_1) => [(5, dI .u64 a14_0), (6, dI .i64 (0 : Int)), (9, dL (cI .u8) p_b), (10, dI .i64 ((p_b).length : Int)), (11, dI .i64 a14_1)]) (fun (a14_0, a14_1) => ⟨[], [], 0⟩) (PS (PR [.tmp 2, .tmp 3, .tmp 4] fun r => .tu [dI .i64 r.1, dI .i64 r.2.1, dI .i64 r.2.2]) (PE cx (.exit 0) (fun (a14e0_0, a14e0_1) => [(5, dI .u64 a14e0_0), (6, dI .i64 a14e0_1)]) fun (a14e0_0, a14e0_1) => ⟨[], [], 0⟩)) hy ?_ ?_ ?_
  exact wk h0 [] (wR rfl (wR rfl (wR rfl (wR rfl (wR rfl wTn))))) wVn wLn
  clear hy h
  rintro ⟨a14_0, a14_1⟩ y h
  dsimp only [g_wire_GetInt_l14] at h
  refine AW.seq ?_
  refine rg hx (by kernel_rfl) fun K hK => ?_
  refine s1 T_lss ?_
  refine .nil (hK _ _ ?_)
  refine AW.seq ?_
  refine AW.condS rfl (fun hb1 => ?_) (fun hb1 => ?_)
  replace h := cnd_t hb1 h
  refine AW.skip ?_
  refine AW.seq ?_
  refine AW.block ?_
  refine AW.seq ?_
  refine rg hx (by kernel_rfl) fun K hK => ?_
  refine s1 T_mv ?_
  obtain ⟨hc2, h⟩ := gd_some h
  have hn3 : (a14_1).toNat < (p_b).length := by omega
  refine s1 (T_iaS hc2 tb_58 tb_5) ?_
  refine s1 (d := dI .u8 ((p_b)[(a14_1).toNat]!)) (T_ldF (c := (cI .u8)) (l := p_b) (n := (a14_1).toNat) (o := 0) tb_5 hn3) ?_
  iterate 2 refine s1 T_as ?_
  refine .nil (hK _ _ ?_)
  refine AW.seq ?_
  refine AW.block ?_
  refine AW.seq ?_
  obtain ⟨a28_0, hy, h⟩ := bnd_some h
  refine jn ((PE cx .normal (fun a28_0 => [(5, dI .u64 a14_0), (6, dI .i64 (0 : Int)), (7, dI .i64 a14_1), (8, dI .u8 ((p_b)[(a14_1).toNat]!)), (9, dL (cI .u8) p_b), (10, dI .i64 ((p_b).length : Int)), (11, dI .i64 a14_1), (24, dB a28_0)]) fun a28_0 => ⟨[], [], 0⟩) a28_0) ?_ ?_
  replace h := hy
  refine AW.seq ?_
  obtain ⟨a29_0, hy, h⟩ := bnd_some h
  refine jn ((PE cx .normal (fun a29_0 => [(5, dI .u64 a14_0), (6, dI .i64 (0 : Int)), (7, dI .i64 a14_1), (8, dI .u8 ((p_b)[(a14_1).toNat]!)), (9, dL (cI .u8) p_b), (10, dI .i64 ((p_b).length : Int)), (11, dI .i64 a14_1), (24, dB a29_0)]) fun a29_0 => ⟨[], [], 0⟩) a29_0) ?_ ?_
  replace h := hy
  refine rg hx (by kernel_rfl) fun K hK => ?_
  refine s1 T_mv ?_
  refine s1 T_eql ?_
  refine s1 T_mv ?_
  rcases Bool.eq_false_or_eq_true (decide (a14_1 = (9 : Int))) with hb4 | hb4
  replace h := cnd_t hb4 h
  refine g1 hb4 T_mv ?_
  refine g1 hb4 T_gtr ?_
  refine s1 (d := dB (decide ((1 : Int) < ((p_b)[(a14_1).toNat]!)))) (T_pickT hb4) ?_
  refine s1 T_as ?_
  refine .nil (hK _ _ ?_)
  obtain rfl := Option.some.inj h
  exact PE.i (wk h0 [] (wR rfl (wR rfl (wR rfl (wR rfl (wR rfl (wR rfl (wR rfl (wR rfl wTn)))))))) wVn wLn)
  replace h := cnd_f hb4 h
  iterate 2 refine no_t rfl rfl hb4 ?_
  refine s1 (d := dB false) (T_pickF hb4) ?_
  refine s1 T_as ?_
  refine .nil (hK _ _ ?_)
  obtain rfl := Option.some.inj h
  exact PE.i (wk h0 [] (wR rfl (wR rfl (wR rfl (wR rfl (wR rfl (wR rfl (wR rfl (wR rfl wTn)))))))) wVn wLn)
  rintro ex tm' hp' ⟨rfl, hw⟩
  refine AW.weak hw ?_
  refine AW.condS rfl (fun hb6 => ?_) (fun hb6 => ?_)
  replace h := cnd_t hb6 h
  refine AW.skip ?_
  obtain rfl := Option.some.inj h
  exact PE.i (wk h0 [] (wR rfl (wR rfl (wR rfl (wR rfl (wR rfl (wR rfl (wR rfl (wR rfl wTn)))))))) wVn wLn)
  replace h := cnd_f hb6 h
  refine rg hx (by kernel_rfl) fun K hK => ?_
  refine s1 T_mv ?_
  refine s1 T_gtr ?_
  refine s1 T_mv ?_
  rcases Bool.eq_false_or_eq_true (decide ((0 : Int) < a14_1)) with hb7 | hb7
  replace h := cnd_t hb7 h
  refine g1 hb7 T_mv ?_
  refine g1 hb7 T_eql ?_
  refine s1 (d := dB (decide (((p_b)[(a14_1).toNat]!) = (0 : Int)))) (T_pickT hb7) ?_
  refine s1 T_as ?_
  refine .nil (hK _ _ ?_)
  obtain rfl := Option.some.inj h
  exact PE.i (wk h0 [] (wR rfl (wR rfl (wR rfl (wR rfl (wR rfl (wR rfl (wR rfl (wR rfl wTn)))))))) wVn wLn)
  replace h := cnd_f hb7 h
  iterate 2 refine no_t rfl rfl hb7 ?_
  refine s1 (d := dB false) (T_pickF hb7) ?_
  refine s1 T_as ?_
  refine .nil (hK _ _ ?_)
  obtain rfl := Option.some.inj h
  exact PE.i (wk h0 [] (wR rfl (wR rfl (wR rfl (wR rfl (wR rfl (wR rfl (wR rfl (wR rfl wTn)))))))) wVn wLn)
  rintro ex tm' hp' ⟨rfl, hw⟩
  refine AW.weak hw ?_
  refine AW.condS rfl (fun hb9 => ?_) (fun hb9 => ?_)
  replace h := cnd_t hb9 h
  refine AW.seq ?_
  refine rg hx (by kernel_rfl) fun K hK => ?_
  iterate 2 refine s1 (d := dI .i64 (0 : Int)) T_asg ?_
  refine s1 (d := dI .i64 (11 : Int)) T_asg ?_
  refine .nil (hK _ _ ?_)
  refine AW.ret ?_
  obtain rfl := Option.some.inj h
  refine PS.r ⟨by nofun, PS.l (PR.i ?_)⟩
  exact RetV.mk3 (resD_t rfl (resD_t rfl (resD_t rfl (.inr ⟨_, _, _, (le_refl' _), (le_refl' _), (le_refl' _), ⟨rfl, rfl, rfl⟩, rfl⟩))))
  replace h := cnd_f hb9 h
  refine rg hx (by kernel_rfl) fun K hK => ?_
  iterate 2 refine s1 T_mv ?_
  refine s1 T_and ?_
  refine s1 (d := dI .u64 (IntKind.u64.wrap (iand .u8 ((p_b)[(a14_1).toNat]!) (127 : Int)))) (T_cvI tb_5 tb_104) ?_
  refine s1 T_mv ?_
  refine s1 T_mul ?_
  obtain ⟨hc10, h⟩ := gd_some h
  refine s1 (T_shl hc10) ?_
  refine s1 T_or ?_
  obtain ⟨x11, hx12, h⟩ := bnd_some h
  replace hx12 := Option.some.inj hx12
  refine s2 (d2 := dI .u64 x11) T_as (le_eq (congrArg (dI .u64) hx12)) ?_
  refine .nil (hK _ _ ?_)
  refine AW.seq ?_
  refine rg hx (by kernel_rfl) fun K hK => ?_
  refine s1 T_mv ?_
  refine s1 T_lss ?_
  refine .nil (hK _ _ ?_)
  refine AW.condS rfl (fun hb13 => ?_) (fun hb13 => ?_)
  replace h := cnd_t hb13 h
  refine AW.seq ?_
  refine rg hx (by kernel_rfl) fun K hK => ?_
  refine s1 T_mv ?_
  refine s1 T_add ?_
  refine s1 T_as ?_
  refine .nil (hK _ _ ?_)
  refine AW.exit ?_
  try dsimp only
  try simp only [if_true, reduceIte, Nat.reduceEqDiff, reduceCtorEq]
  obtain rfl := Option.some.inj h
  exact PS.r ⟨by nofun, PS.r (PE.i (wk h0 [] (wR rfl (wR rfl wTn)) wVn wLn))⟩
  replace h := cnd_f hb13 h
  refine AW.skip ?_
  refine rg hx (by kernel_rfl) fun K hK => ?_
  refine s1 T_add ?_
  refine s1 T_mv ?_
  refine .nil (hK _ _ ?_)
  obtain rfl := Option.some.inj h
  exact PS.l (PE.i (wk h0 [] (wR rfl (wR rfl (wR rfl (wR rfl (wR rfl wTn))))) wVn wLn))
  replace h := cnd_f hb1 h
  refine AW.exit ?_
  try dsimp only
  try simp only [if_true, reduceIte, Nat.reduceEqDiff, reduceCtorEq]
  obtain rfl := Option.some.inj h
  exact PS.r ⟨by nofun, PS.r (PE.i (wk h0 [] (wR rfl (wR rfl wTn)) wVn wLn))⟩
  rcases y with r | ⟨a14e0_0, a14e0_1⟩
  rintro ex tm' hp' ⟨rfl, hw⟩
  obtain rfl := Option.some.inj h
  exact hw
  rintro ex tm' hp' ⟨rfl, hw⟩
  try dsimp only
  try simp only [if_true, reduceIte, Nat.reduceEqDiff, reduceCtorEq]
  refine AW.weak hw ?_
  iterate 2 refine AW.seq ?_
  refine rg hx (by kernel_rfl) fun K hK => ?_
  refine s1 T_mv ?_
  refine s1 T_eql ?_
  refine .nil (hK _ _ ?_)
  refine AW.condS rfl (fun hb15 => ?_) (fun hb15 => ?_)
  replace h := cnd_t hb15 h
  refine AW.seq ?_
  refine rg hx (by kernel_rfl) fun K hK => ?_
  iterate 2 refine s1 (d := dI .i64 (0 : Int)) T_asg ?_
  refine s1 (d := dI .i64 (10 : Int)) T_asg ?_
  refine .nil (hK _ _ ?_)
  refine AW.ret ?_
  obtain rfl := Option.some.inj h
  exact RetV.mk3 (resD_t rfl (resD_t rfl (resD_t rfl (.inr ⟨_, _, _, (le_refl' _), (le_refl' _), (le_refl' _), ⟨rfl, rfl, rfl⟩, rfl⟩))))
  replace h := cnd_f hb15 h
  refine AW.skip ?_
  refine AW.seq ?_
  refine rg hx (by kernel_rfl) fun K hK => ?_
  refine s1 T_mv ?_
  refine s1 (T_shr (b := (1 : Int)) (by decide)) ?_
  refine s1 (d := dI .i64 (IntKind.i64.wrap (ishr .u64 a14e0_0 (1 : Int)))) (T_cvI tb_104 tb_3) ?_
  refine s1 T_mv ?_
  refine s1 T_and ?_
  refine s1 (d := dI .i64 (IntKind.i64.wrap (iand .u64 a14e0_0 (1 : Int)))) (T_cvI tb_104 tb_3) ?_
  refine s1 T_neg ?_
  refine s1 T_xor ?_
  refine s1 T_mv ?_
  iterate 2 refine s1 T_as ?_
  refine s1 (d := dI .i64 (0 : Int)) T_asg ?_
  refine .nil (hK _ _ ?_)
  refine AW.ret ?_
  obtain rfl := Option.some.inj h
  exact RetV.mk3 (resD_t rfl (resD_t rfl (resD_t rfl (.inr ⟨_, _, _, (le_refl' _), (le_refl' _), (le_refl' _), ⟨rfl, rfl, rfl⟩, rfl⟩))))
noncomputable def g_link_get_int_v (p_v0 : List Int) (p_v1 : Bool) : Option (Int × (List Int) × Bool) := bnd (g_wire_GetInt p_v0) fun x1 => bnd (S := (List Int) × Bool) (cnd (decide (x1.2.2 ≠ (0 : Int))) (some ((p_v0, false))) (gd (0 ≤ x1.2.1 ∧ x1.2.1 ≤ ((p_v0).length : Int) ∧ ((p_v0).length : Int) ≤ ((p_v0).length : Int)) (some ((subL p_v0 x1.2.1 ((p_v0).length : Int), p_v1))))) fun (a6_0, a6_1) => some (x1.1, a6_0, a6_1)
theorem w_link_get_int_v {p_v0 : List Int} {p_v1 : Bool} {r : Int × (List Int) × Bool} (h : g_link_get_int_v p_v0 p_v1 = some r) : HC Try.prog 51 [.pt 0 0, .pt 1 0, .e (.lit (.func (.func 52) #[] #[]))] ⟨[(0, [dL (cI .u8) p_v0]), (1, [dB p_v1])], [], 2⟩ (dI .i64 r.1) ⟨[(0, [dL (cI .u8) r.2.1]), (1, [dB r.2.2])], [], 2⟩ := by
  refine HC.of (rs := [.tmp 6]) tok Try.func51 rfl rfl (Nat.le_of_ble_eq_true rfl) rfl (fun cx hx h1 hok => ?_)
  have h0 : cx.hp0.next = 2 := by rw [h1]
  simp only [argsT, Nat.reduceAdd, Nat.zero_add]
  unfold g_link_get_int_v at h
  refine AW.seq ?_
  refine rg hx (by kernel_rfl) fun K hK => ?_
  refine s1 (d := dI .i64 (0 : Int)) T_asg ?_
  refine .nil (hK _ _ ?_)
  refine AW.seq ?_
  refine rg hx (by kernel_rfl) fun K hK => ?_
  iterate 2 refine s1 T_mv ?_
  refine s1 T_nilP ?_
  refine s1 (d := dL (cI .u8) p_v0) (T_ldC tb_58) ?_
  obtain ⟨x1, hx2, h⟩ := bnd_some h
  refine s1 (T_call rfl (w_wire_GetInt hx2) rfl (lA (le_refl' _) lAn) (.inr ⟨_, rfl⟩)) ?_
  refine s1 T_mv ?_
  iterate 3 refine s1 T_ext ?_
  iterate 3 refine s1 T_as ?_
  refine .nil (hK _ _ ?_)
  refine AW.seq ?_
  obtain ⟨y, hy, h⟩ := bnd_some h
  refine jn ((PE cx .normal (fun (a6_0, a6_1) => [(7, dI .i64 x1.1)]) fun (a6_0, a6_1) => ⟨[(0, [dL (cI .u8) a6_0]), (1, [dB a6_1])], [], 2⟩) y) ?_ ?_
  replace h := hy
  refine AW.seq ?_
  refine rg hx (by kernel_rfl) fun K hK => ?_
  refine s1 T_mv ?_
  refine s1 T_neq ?_
  refine .nil (hK _ _ ?_)
  refine AW.condS rfl (fun hb3 => ?_) (fun hb3 => ?_)
  replace h := cnd_t hb3 h
  refine rg hx (by kernel_rfl) fun K hK => ?_
  refine s1 T_mv ?_
  refine s1 T_nilP ?_
  refine s0 (T_st (ds' := [dB false]) tb_4) ?_
  refine .nil (hK _ _ ?_)
  obtain rfl := Option.some.inj h
  exact PE.i (wkN h0 [] (wR rfl wTn) (vR rfl (vR rfl wVn)) wLn)
  replace h := cnd_f hb3 h
  refine rg hx (by kernel_rfl) fun K hK => ?_
  iterate 2 refine s1 T_mv ?_
  refine s1 T_nilP ?_
  refine s1 (d := dL (cI .u8) p_v0) (T_ldC tb_58) ?_
  refine s1 T_mv ?_
  obtain ⟨hc4, h⟩ := gd_some h
  refine s1 (T_sl (c := (cI .u8)) (l := p_v0) (a := x1.2.1) (b := ((p_v0).length : Int)) hc4 tb_58 tb_5) ?_
  refine s1 T_nilP ?_
  refine s0 (T_st (ds' := [dL (cI .u8) (subL p_v0 x1.2.1 ((p_v0).length : Int))]) tb_58) ?_
  refine .nil (hK _ _ ?_)
  obtain rfl := Option.some.inj h
  exact PE.i (wkN h0 [] (wR rfl wTn) (vR rfl (vR rfl wVn)) wLn)
  obtain ⟨a6_0, a6_1⟩ := y
  rintro ex tm' hp' ⟨rfl, hw⟩
  refine AW.weak hw ?_
  refine AW.seq ?_
  refine rg hx (by kernel_rfl) fun K hK => ?_
  refine s1 T_mv ?_
  refine s1 T_as ?_
  refine .nil (hK _ _ ?_)
  refine AW.ret ?_
  obtain rfl := Option.some.inj h
  exact rH1 (wkN h0 [] (wR rfl wTn) (vR rfl (vR rfl wVn)) wLn)
noncomputable def g_wire_length (p_b : List Int) (p_least : Int) : Option (Int × Int × Int) := bnd (g_wire_GetInt p_b) fun x1 => cnd (decide (x1.2.2 ≠ (0 : Int))) (some ((0 : Int), (0 : Int), x1.2.2)) (cnd (decide (x1.1 < (0 : Int))) (some ((0 : Int), (0 : Int), (11 : Int))) (gd (p_least ≠ 0) (cnd (decide ((IntKind.i64.wrap (Int.tdiv (IntKind.i64.wrap (((p_b).length : Int) - x1.2.1)) p_least)) < x1.1)) (some ((0 : Int), (0 : Int), (10 : Int))) (some (x1.1, x1.2.1, (0 : Int))))))
theorem w_wire_length {p_b : List Int} {p_least : Int} {r : Int × Int × Int} (h : g_wire_length p_b p_least = some r) : PCalls Try.prog 69 [dL (cI .u8) p_b, dI .i64 p_least] (.tu [dI .i64 r.1, dI .i64 r.2.1, dI .i64 r.2.2]) := by
  refine PCalls.of (rs := [.tmp 4, .tmp 5, .tmp 6]) tok Try.func69 rfl rfl (Nat.le_of_ble_eq_true rfl) rfl (fun cx hx h0 => ?_)
  simp only [argsT, Nat.reduceAdd, Nat.zero_add]
  unfold g_wire_length at h
  refine AW.seq ?_
  refine rg hx (by kernel_rfl) fun K hK => ?_
  iterate 3 refine s1 (d := dI .i64 (0 : Int)) T_asg ?_
  refine .nil (hK _ _ ?_)
  refine AW.seq ?_
  refine rg hx (by kernel_rfl) fun K hK => ?_
  refine s1 T_mv ?_
  obtain ⟨x1, hx2, h⟩ := bnd_some h
  refine s1 (T_call rfl (w_wire_GetInt hx2) rfl (lA (le_refl' _) lAn) (.inr ⟨_, rfl⟩)) ?_
  refine s1 T_mv ?_
  iterate 3 refine s1 T_ext ?_
  iterate 3 refine s1 T_as ?_
  refine .nil (hK _ _ ?_)
  refine AW.seq ?_
  refine AW.block ?_
  refine AW.seq ?_
  refine rg hx (by kernel_rfl) fun K hK => ?_
  refine s1 T_mv ?_
  refine s1 T_neq ?_
  refine s1 T_as ?_
  refine .nil (hK _ _ ?_)
  refine AW.condS rfl (fun hb3 => ?_) (fun hb3 => ?_)
  replace h := cnd_t hb3 h
  refine AW.seq ?_
  refine rg hx (by kernel_rfl) fun K hK => ?_
  refine s1 T_mv ?_
  iterate 2 refine s1 (d := dI .i64 (0 : Int)) T_asg ?_
  refine s1 T_as ?_
  refine .nil (hK _ _ ?_)
  refine AW.ret ?_
  obtain rfl := Option.some.inj h
  exact RetV.mk3 (resD_t rfl (resD_t rfl (resD_t rfl (.inr ⟨_, _, _, (le_refl' _), (le_refl' _), (le_refl' _), ⟨rfl, rfl, rfl⟩, rfl⟩))))
  replace h := cnd_f hb3 h
  refine AW.seq ?_
  refine rg hx (by kernel_rfl) fun K hK => ?_
  refine s1 T_mv ?_
  refine s1 T_lss ?_
  refine s1 T_as ?_
  refine .nil (hK _ _ ?_)
  refine AW.condS rfl (fun hb4 => ?_) (fun hb4 => ?_)
  replace h := cnd_t hb4 h
  refine AW.seq ?_
  refine rg hx (by kernel_rfl) fun K hK => ?_
  iterate 2 refine s1 (d := dI .i64 (0 : Int)) T_asg ?_
  refine s1 (d := dI .i64 (11 : Int)) T_asg ?_
  refine .nil (hK _ _ ?_)
  refine AW.ret ?_
  obtain rfl := Option.some.inj h
  exact RetV.mk3 (resD_t rfl (resD_t rfl (resD_t rfl (.inr ⟨_, _, _, (le_refl' _), (le_refl' _), (le_refl' _), ⟨rfl, rfl, rfl⟩, rfl⟩))))
  replace h := cnd_f hb4 h
  refine AW.seq ?_
  refine rg hx (by kernel_rfl) fun K hK => ?_
  iterate 2 refine s1 T_mv ?_
  refine s1 (d := dI .i64 ((p_b).length : Int)) (T_len tb_58 tb_5) ?_
  refine s1 T_mv ?_
  refine s1 T_sub ?_
  refine s1 T_mv ?_
  obtain ⟨hc5, h⟩ := gd_some h
  refine s1 (T_quo hc5) ?_
  refine s1 T_gtr ?_
  refine s1 T_as ?_
  refine .nil (hK _ _ ?_)
  refine AW.condS rfl (fun hb6 => ?_) (fun hb6 => ?_)
  replace h := cnd_t hb6 h
  refine AW.seq ?_
  refine rg hx (by kernel_rfl) fun K hK => ?_
  iterate 2 refine s1 (d := dI .i64 (0 : Int)) T_asg ?_
  refine s1 (d := dI .i64 (10 : Int)) T_asg ?_
  refine .nil (hK _ _ ?_)
  refine AW.ret ?_
  obtain rfl := Option.some.inj h
  exact RetV.mk3 (resD_t rfl (resD_t rfl (resD_t rfl (.inr ⟨_, _, _, (le_refl' _), (le_refl' _), (le_refl' _), ⟨rfl, rfl, rfl⟩, rfl⟩))))
  replace h := cnd_f hb6 h
  refine AW.skip ?_
  refine AW.seq ?_
  refine rg hx (by kernel_rfl) fun K hK => ?_
  iterate 2 refine s1 T_mv ?_
  iterate 2 refine s1 T_as ?_
  refine s1 (d := dI .i64 (0 : Int)) T_asg ?_
  refine .nil (hK _ _ ?_)
  refine AW.ret ?_
  obtain rfl := Option.some.inj h
  exact RetV.mk3 (resD_t rfl (resD_t rfl (resD_t rfl (.inr ⟨_, _, _, (le_refl' _), (le_refl' _), (le_refl' _), ⟨rfl, rfl, rfl⟩, rfl⟩))))
noncomputable def g_wire_GetBytes (p_b : List Int) : Option (ByteArray × Int × Int) := bnd (g_wire_length p_b (1 : Int)) fun x1 => cnd (decide (x1.2.2 ≠ (0 : Int))) (some (ByteArray.empty, (0 : Int), x1.2.2)) (gd (0 ≤ x1.2.1 ∧ x1.2.1 ≤ IntKind.i64.wrap (x1.2.1 + x1.1) ∧ IntKind.i64.wrap (x1.2.1 + x1.1) ≤ ((p_b).length : Int)) (some (bStr (subL p_b x1.2.1 (IntKind.i64.wrap (x1.2.1 + x1.1))), IntKind.i64.wrap (x1.2.1 + x1.1), (0 : Int))))
theorem w_wire_GetBytes {p_b : List Int} {r : ByteArray × Int × Int} (h : g_wire_GetBytes p_b = some r) : PCalls Try.prog 66 [dL (cI .u8) p_b] (.tu [dS r.1, dI .i64 r.2.1, dI .i64 r.2.2]) := by
  refine PCalls.of (rs := [.tmp 2, .tmp 3, .tmp 4]) tok Try.func66 rfl rfl (Nat.le_of_ble_eq_true rfl) rfl (fun cx hx h0 => ?_)
  simp only [argsT, Nat.reduceAdd, Nat.zero_add]
  unfold g_wire_GetBytes at h
  refine AW.seq ?_
  refine rg hx (by kernel_rfl) fun K hK => ?_
  refine s1 (d := dS ByteArray.empty) T_asg ?_
  iterate 2 refine s1 (d := dI .i64 (0 : Int)) T_asg ?_
  refine .nil (hK _ _ ?_)
  refine AW.seq ?_
  refine rg hx (by kernel_rfl) fun K hK => ?_
  refine s1 T_mv ?_
  obtain ⟨x1, hx2, h⟩ := bnd_some h
  refine s1 (T_call rfl (w_wire_length hx2) rfl (lA (le_refl' _) (lA (le_refl' _) lAn)) (.inr ⟨_, rfl⟩)) ?_
  refine s1 T_mv ?_
  iterate 3 refine s1 T_ext ?_
  iterate 3 refine s1 T_as ?_
  refine .nil (hK _ _ ?_)
  iterate 2 refine AW.seq ?_
  refine rg hx (by kernel_rfl) fun K hK => ?_
  refine s1 T_mv ?_
  refine s1 T_neq ?_
  refine .nil (hK _ _ ?_)
  refine AW.condS rfl (fun hb3 => ?_) (fun hb3 => ?_)
  replace h := cnd_t hb3 h
  refine AW.seq ?_
  refine rg hx (by kernel_rfl) fun K hK => ?_
  refine s1 T_mv ?_
  refine s1 (d := dS ByteArray.empty) T_asg ?_
  refine s1 (d := dI .i64 (0 : Int)) T_asg ?_
  refine s1 T_as ?_
  refine .nil (hK _ _ ?_)
  refine AW.ret ?_
  obtain rfl := Option.some.inj h
  exact RetV.mk3 (resD_t rfl (resD_t rfl (resD_t rfl (.inr ⟨_, _, _, (le_refl' _), (le_refl' _), (le_refl' _), ⟨rfl, rfl, rfl⟩, rfl⟩))))
  replace h := cnd_f hb3 h
  refine AW.skip ?_
  refine AW.seq ?_
  refine rg hx (by kernel_rfl) fun K hK => ?_
  iterate 4 refine s1 T_mv ?_
  refine s1 T_add ?_
  obtain ⟨hc4, h⟩ := gd_some h
  refine s1 (T_sl (c := (cI .u8)) (l := p_b) (a := x1.2.1) (b := IntKind.i64.wrap (x1.2.1 + x1.1)) hc4 tb_58 tb_5) ?_
  refine s1 (d := dS (bStr (subL p_b x1.2.1 (IntKind.i64.wrap (x1.2.1 + x1.1))))) (T_cvB tb_58 tb_9 tb_5 (fun _ h => by cases h)) ?_
  iterate 2 refine s1 T_mv ?_
  refine s1 T_add ?_
  iterate 2 refine s1 T_as ?_
  refine s1 (d := dI .i64 (0 : Int)) T_asg ?_
  refine .nil (hK _ _ ?_)
  refine AW.ret ?_
  obtain rfl := Option.some.inj h
  exact RetV.mk3 (resD_t rfl (resD_t rfl (resD_t rfl (.inr ⟨_, _, _, (le_refl' _), (le_refl' _), (le_refl' _), ⟨rfl, rfl, rfl⟩, rfl⟩))))
noncomputable def g_wire_get_string_wire_GetBytes_l19 (p_b : List Int) (x1 : Int × Int × Int) : Int × (List ByteArray) × Int → Option ((Int × (List ByteArray) × Int) ⊕ (((List ByteArray) × Int × Int) ⊕ (Int × (List ByteArray)))) := fun (a19_0, a19_1, a19_2) => cnd (decide (a19_2 < x1.1)) (gd (0 ≤ a19_0 ∧ a19_0 ≤ ((p_b).length : Int) ∧ ((p_b).length : Int) ≤ ((p_b).length : Int)) (bnd (g_wire_GetBytes (subL p_b a19_0 ((p_b).length : Int))) fun x6 => cnd (decide (x6.2.2 ≠ (0 : Int))) (some (.inr (.inl (([] : List ByteArray), (0 : Int), x6.2.2)))) (gd ((a19_1 ++ [x6.1]).length * 16 ≤ 140737488355328) (some (.inl (IntKind.i64.wrap (a19_0 + x6.2.1), a19_1 ++ [x6.1], IntKind.i64.wrap (a19_2 + (1 : Int)))))))) (some (.inr (.inr (a19_0, a19_1))))
noncomputable def g_wire_get_string_wire_GetBytes (p_b : List Int) (p_least : Int) : Option ((List ByteArray) × Int × Int) := bnd (g_wire_length p_b p_least) fun x1 => cnd (decide (x1.2.2 ≠ (0 : Int))) (some (([] : List ByteArray), (0 : Int), x1.2.2)) (bnd (loopO (g_wire_get_string_wire_GetBytes_l19 p_b x1) (x1.2.1, ([] : List ByteArray), (0 : Int))) fun y10 => match y10 with | .inl r => some r | .inr (a19e0_0, a19e0_1) => some (a19e0_1, a19e0_0, (0 : Int)))
theorem w_wire_get_string_wire_GetBytes {p_b : List Int} {p_least : Int} {r : (List ByteArray) × Int × Int} (h : g_wire_get_string_wire_GetBytes p_b p_least = some r) : PCalls Try.prog 65 [dL (cI .u8) p_b, dI .i64 p_least, .e (.lit (.func (.func 66) #[] #[]))] (.tu [dL cS r.1, dI .i64 r.2.1, dI .i64 r.2.2]) := by
  refine PCalls.of (rs := [.tmp 6, .tmp 7, .tmp 8]) tok Try.func65 rfl rfl (Nat.le_of_ble_eq_true rfl) rfl (fun cx hx h0 => ?_)
  simp only [argsT, Nat.reduceAdd, Nat.zero_add]
  unfold g_wire_get_string_wire_GetBytes at h
  refine AW.seq ?_
  refine rg hx (by kernel_rfl) fun K hK => ?_
  refine s1 (d := dO 0 cS ([] : List ByteArray)) (T_asgN tb_22 tb_9) ?_
  iterate 2 refine s1 (d := dI .i64 (0 : Int)) T_asg ?_
  refine .nil (hK _ _ ?_)
  refine AW.seq ?_
  refine rg hx (by kernel_rfl) fun K hK => ?_
  iterate 2 refine s1 T_mv ?_
  obtain ⟨x1, hx2, h⟩ := bnd_some h
  refine s1 (T_call rfl (w_wire_length hx2) rfl (lA (le_refl' _) (lA (le_refl' _) lAn)) (.inr ⟨_, rfl⟩)) ?_
  refine s1 T_mv ?_
  iterate 3 refine s1 T_ext ?_
  iterate 3 refine s1 T_as ?_
  refine .nil (hK _ _ ?_)
  iterate 2 refine AW.seq ?_
  refine rg hx (by kernel_rfl) fun K hK => ?_
  refine s1 T_mv ?_
  refine s1 T_neq ?_
  refine .nil (hK _ _ ?_)
  refine AW.condS rfl (fun hb3 => ?_) (fun hb3 => ?_)
  replace h := cnd_t hb3 h
  refine AW.seq ?_
  refine rg hx (by kernel_rfl) fun K hK => ?_
  refine s1 T_mv ?_
  refine s1 (d := dO 1 cS ([] : List ByteArray)) (T_asgN tb_22 tb_9) ?_
  refine s1 (d := dI .i64 (0 : Int)) T_asg ?_
  refine s1 T_as ?_
  refine .nil (hK _ _ ?_)
  refine AW.ret ?_
  obtain rfl := Option.some.inj h
  exact RetV.mk3 (resD_t rfl (resD_t rfl (resD_t rfl (.inr ⟨_, _, _, (le_ex _), (le_refl' _), (le_refl' _), ⟨rfl, rfl, rfl⟩, rfl⟩))))
  replace h := cnd_f hb3 h
  refine AW.skip ?_
  refine AW.seq ?_
  refine rg hx (by kernel_rfl) fun K hK => ?_
  refine s1 (d := dO 1 cS ([] : List ByteArray)) (T_asgN tb_22 tb_9) ?_
  refine .nil (hK _ _ ?_)
  iterate 2 refine AW.seq ?_
  refine rg hx (by kernel_rfl) fun K hK => ?_
  refine s1 T_mv ?_
  refine s1 (d := dI .i64 (0 : Int)) T_move ?_
  refine .nil (hK _ _ ?_)
  refine AW.block ?_
  obtain ⟨y, hy, h⟩ := bnd_some h
  refine lp (S := Int × (List ByteArray) × Int) (X := ((List ByteArray) × Int × Int) ⊕ (Int × (List ByteArray))) (fun (a19_0, a19_1, a19_2) => [(0, dL (cI .u8) p_b), (2, .e (.lit (.func (.func 66) #[] #[]))), (10, dI .i64 a19_0), (12, dO 0 cS a19_1), (26, dI .i64 x1.1), (27, dI .i64 a19_2)]) (fun (a19_0, a19_1, a19_2) => ⟨[], [(0, (a19_1).length, 1, 9)], 1⟩) (PS (PR [.tmp 6, .tmp 7, .tmp 8] fun r => .tu [dL cS r.1, dI .i64 r.2.1, dI .i64 r.2.2]) (PE cx (.exit 0) (fun (a19e0_0, a19e0_1) => [(10, dI .i64 a19e0_0), (12, dO 0 cS a19e0_1)]) fun (a19e0_0, a19e0_1) => ⟨[], [(0, (a19e0_1).length, 1, 9)], 1⟩)) hy ?_ ?_ ?_
  exact wk h0 [1] (wR rfl (wR rfl (wR rfl (wR rfl (wR rfl (wR rfl wTn)))))) wVn (wL rfl rfl wLn)
  clear hy h
  rintro ⟨a19_0, a19_1, a19_2⟩ y h
  dsimp only [g_wire_get_string_wire_GetBytes_l19] at h
  refine AW.seq ?_
  refine rg hx (by kernel_rfl) fun K hK => ?_
  refine s1 T_lss ?_
  refine .nil (hK _ _ ?_)
  refine AW.seq ?_
  refine AW.condS rfl (fun hb4 => ?_) (fun hb4 => ?_)
  replace h := cnd_t hb4 h
  refine AW.skip ?_
  refine AW.seq ?_
  refine AW.block ?_
  refine AW.seq ?_
  refine rg hx (by kernel_rfl) fun K hK => ?_
  iterate 3 refine s1 T_mv ?_
  obtain ⟨hc5, h⟩ := gd_some h
  refine s1 (T_sl (c := (cI .u8)) (l := p_b) (a := a19_0) (b := ((p_b).length : Int)) hc5 tb_58 tb_5) ?_
  obtain ⟨x6, hx7, h⟩ := bnd_some h
  refine s1 (T_call rfl (w_wire_GetBytes hx7) rfl (lA (le_refl' _) lAn) (.inr ⟨_, rfl⟩)) ?_
  refine s1 T_mv ?_
  iterate 3 refine s1 T_ext ?_
  iterate 3 refine s1 T_as ?_
  refine .nil (hK _ _ ?_)
  iterate 2 refine AW.seq ?_
  refine rg hx (by kernel_rfl) fun K hK => ?_
  refine s1 T_mv ?_
  refine s1 T_neq ?_
  refine .nil (hK _ _ ?_)
  refine AW.condS rfl (fun hb8 => ?_) (fun hb8 => ?_)
  replace h := cnd_t hb8 h
  refine AW.seq ?_
  refine rg hx (by kernel_rfl) fun K hK => ?_
  refine s1 T_mv ?_
  refine s1 (d := dO 1 cS ([] : List ByteArray)) (T_asgN tb_22 tb_9) ?_
  refine s1 (d := dI .i64 (0 : Int)) T_asg ?_
  refine s1 T_as ?_
  refine .nil (hK _ _ ?_)
  refine AW.ret ?_
  obtain rfl := Option.some.inj h
  refine PS.r ⟨by nofun, PS.l (PR.i ?_)⟩
  exact RetV.mk3 (resD_t rfl (resD_t rfl (resD_t rfl (.inr ⟨_, _, _, (le_ex _), (le_refl' _), (le_refl' _), ⟨rfl, rfl, rfl⟩, rfl⟩))))
  replace h := cnd_f hb8 h
  refine AW.skip ?_
  refine rg hx (by kernel_rfl) fun K hK => ?_
  iterate 2 refine s1 T_mv ?_
  refine s1 (d := dO 1 cS [x6.1]) (T_bsl tb_22 tb_9) ?_
  obtain ⟨hc9, h⟩ := gd_some h
  refine s1 (d := dO 0 cS (a19_1 ++ [x6.1])) (T_appO tb_22 tb_9 hc9) ?_
  iterate 2 refine s1 T_mv ?_
  refine s1 T_add ?_
  iterate 2 refine s1 T_as ?_
  refine .nil (hK _ _ ?_)
  refine rg hx (by kernel_rfl) fun K hK => ?_
  refine s1 T_add ?_
  refine s1 T_mv ?_
  refine .nil (hK _ _ ?_)
  obtain rfl := Option.some.inj h
  exact PS.l (PE.i (wk h0 [0] (wR rfl (wR rfl (wR rfl (wR rfl (wR rfl (wR rfl wTn)))))) wVn (wL rfl rfl wLn)))
  replace h := cnd_f hb4 h
  refine AW.exit ?_
  try dsimp only
  try simp only [if_true, reduceIte, Nat.reduceEqDiff, reduceCtorEq]
  obtain rfl := Option.some.inj h
  exact PS.r ⟨by nofun, PS.r (PE.i (wk h0 [0] (wR rfl (wR rfl wTn)) wVn (wL rfl rfl wLn)))⟩
  rcases y with r | ⟨a19e0_0, a19e0_1⟩
  rintro ex tm' hp' ⟨rfl, hw⟩
  obtain rfl := Option.some.inj h
  exact hw
  rintro ex tm' hp' ⟨rfl, hw⟩
  try dsimp only
  try simp only [if_true, reduceIte, Nat.reduceEqDiff, reduceCtorEq]
  refine AW.weak hw ?_
  refine AW.seq ?_
  refine rg hx (by kernel_rfl) fun K hK => ?_
  iterate 2 refine s1 T_mv ?_
  iterate 2 refine s1 T_as ?_
  refine s1 (d := dI .i64 (0 : Int)) T_asg ?_
  refine .nil (hK _ _ ?_)
  refine AW.ret ?_
  obtain rfl := Option.some.inj h
  exact RetV.mk3 (resD_t rfl (resD_t rfl (resD_t rfl (.inr ⟨_, _, _, (le_ex _), (le_refl' _), (le_refl' _), ⟨rfl, rfl, rfl⟩, rfl⟩))))
noncomputable def g_wire_GetStrings (p_b : List Int) : Option ((List ByteArray) × Int × Int) := bnd (g_wire_get_string_wire_GetBytes p_b (1 : Int)) fun x1 => some (x1.1, x1.2.1, x1.2.2)
theorem w_wire_GetStrings {p_b : List Int} {r : (List ByteArray) × Int × Int} (h : g_wire_GetStrings p_b = some r) : PCalls Try.prog 54 [dL (cI .u8) p_b] (.tu [dL cS r.1, dI .i64 r.2.1, dI .i64 r.2.2]) := by
  refine PCalls.of (rs := [.tmp 2, .tmp 3, .tmp 4]) tok Try.func54 rfl rfl (Nat.le_of_ble_eq_true rfl) rfl (fun cx hx h0 => ?_)
  simp only [argsT, Nat.reduceAdd, Nat.zero_add]
  unfold g_wire_GetStrings at h
  refine AW.seq ?_
  refine rg hx (by kernel_rfl) fun K hK => ?_
  refine s1 (d := dO 0 cS ([] : List ByteArray)) (T_asgN tb_22 tb_9) ?_
  iterate 2 refine s1 (d := dI .i64 (0 : Int)) T_asg ?_
  refine .nil (hK _ _ ?_)
  refine AW.seq ?_
  refine rg hx (by kernel_rfl) fun K hK => ?_
  refine s1 T_mv ?_
  obtain ⟨x1, hx2, h⟩ := bnd_some h
  refine s1 (T_call rfl (w_wire_get_string_wire_GetBytes hx2) rfl (lA (le_refl' _) (lA (le_refl' _) (lA (le_refl' _) lAn))) (.inr ⟨_, rfl⟩)) ?_
  iterate 3 refine s1 T_ext ?_
  iterate 3 refine s1 T_as ?_
  refine .nil (hK _ _ ?_)
  refine AW.ret ?_
  obtain rfl := Option.some.inj h
  exact RetV.mk3 (resD_t rfl (resD_t rfl (resD_t rfl (.inr ⟨_, _, _, (le_refl' _), (le_refl' _), (le_refl' _), ⟨rfl, rfl, rfl⟩, rfl⟩))))
noncomputable def g_link_get_string_v (p_v0 : List Int) (p_v1 : Bool) : Option ((List ByteArray) × (List Int) × Bool) := bnd (g_wire_GetStrings p_v0) fun x1 => bnd (S := (List Int) × Bool) (cnd (decide (x1.2.2 ≠ (0 : Int))) (some ((p_v0, false))) (gd (0 ≤ x1.2.1 ∧ x1.2.1 ≤ ((p_v0).length : Int) ∧ ((p_v0).length : Int) ≤ ((p_v0).length : Int)) (some ((subL p_v0 x1.2.1 ((p_v0).length : Int), p_v1))))) fun (a6_0, a6_1) => some (x1.1, a6_0, a6_1)
theorem w_link_get_string_v {p_v0 : List Int} {p_v1 : Bool} {r : (List ByteArray) × (List Int) × Bool} (h : g_link_get_string_v p_v0 p_v1 = some r) : HC Try.prog 53 [.pt 0 0, .pt 1 0, .e (.lit (.func (.func 54) #[] #[]))] ⟨[(0, [dL (cI .u8) p_v0]), (1, [dB p_v1])], [], 2⟩ (dL cS r.1) ⟨[(0, [dL (cI .u8) r.2.1]), (1, [dB r.2.2])], [], 2⟩ := by
  refine HC.of (rs := [.tmp 6]) tok Try.func53 rfl rfl (Nat.le_of_ble_eq_true rfl) rfl (fun cx hx h1 hok => ?_)
  have h0 : cx.hp0.next = 2 := by rw [h1]
  simp only [argsT, Nat.reduceAdd, Nat.zero_add]
  unfold g_link_get_string_v at h
  refine AW.seq ?_
  refine rg hx (by kernel_rfl) fun K hK => ?_
  refine s1 (d := dO 2 cS ([] : List ByteArray)) (T_asgN tb_22 tb_9) ?_
  refine .nil (hK _ _ ?_)
  refine AW.seq ?_
  refine rg hx (by kernel_rfl) fun K hK => ?_
  iterate 2 refine s1 T_mv ?_
  refine s1 T_nilP ?_
  refine s1 (d := dL (cI .u8) p_v0) (T_ldC tb_58) ?_
  obtain ⟨x1, hx2, h⟩ := bnd_some h
  refine s1 (T_call rfl (w_wire_GetStrings hx2) rfl (lA (le_refl' _) lAn) (.inr ⟨_, rfl⟩)) ?_
  refine s1 T_mv ?_
  iterate 3 refine s1 T_ext ?_
  iterate 3 refine s1 T_as ?_
  refine .nil (hK _ _ ?_)
  refine AW.seq ?_
  obtain ⟨y, hy, h⟩ := bnd_some h
  refine jn ((PE cx .normal (fun (a6_0, a6_1) => [(7, dL cS x1.1)]) fun (a6_0, a6_1) => ⟨[(0, [dL (cI .u8) a6_0]), (1, [dB a6_1])], [], 2⟩) y) ?_ ?_
  replace h := hy
  refine AW.seq ?_
  refine rg hx (by kernel_rfl) fun K hK => ?_
  refine s1 T_mv ?_
  refine s1 T_neq ?_
  refine .nil (hK _ _ ?_)
  refine AW.condS rfl (fun hb3 => ?_) (fun hb3 => ?_)
  replace h := cnd_t hb3 h
  refine rg hx (by kernel_rfl) fun K hK => ?_
  refine s1 T_mv ?_
  refine s1 T_nilP ?_
  refine s0 (T_st (ds' := [dB false]) tb_4) ?_
  refine .nil (hK _ _ ?_)
  obtain rfl := Option.some.inj h
  exact PE.i (wkN h0 [] (wR rfl wTn) (vR rfl (vR rfl wVn)) wLn)
  replace h := cnd_f hb3 h
  refine rg hx (by kernel_rfl) fun K hK => ?_
  iterate 2 refine s1 T_mv ?_
  refine s1 T_nilP ?_
  refine s1 (d := dL (cI .u8) p_v0) (T_ldC tb_58) ?_
  refine s1 T_mv ?_
  obtain ⟨hc4, h⟩ := gd_some h
  refine s1 (T_sl (c := (cI .u8)) (l := p_v0) (a := x1.2.1) (b := ((p_v0).length : Int)) hc4 tb_58 tb_5) ?_
  refine s1 T_nilP ?_
  refine s0 (T_st (ds' := [dL (cI .u8) (subL p_v0 x1.2.1 ((p_v0).length : Int))]) tb_58) ?_
  refine .nil (hK _ _ ?_)
  obtain rfl := Option.some.inj h
  exact PE.i (wkN h0 [] (wR rfl wTn) (vR rfl (vR rfl wVn)) wLn)
  obtain ⟨a6_0, a6_1⟩ := y
  rintro ex tm' hp' ⟨rfl, hw⟩
  refine AW.weak hw ?_
  refine AW.seq ?_
  refine rg hx (by kernel_rfl) fun K hK => ?_
  refine s1 T_mv ?_
  refine s1 T_as ?_
  refine .nil (hK _ _ ?_)
  refine AW.ret ?_
  obtain rfl := Option.some.inj h
  exact rH1 (wkN h0 [] (wR rfl wTn) (vR rfl (vR rfl wVn)) wLn)
noncomputable def g_wire_get_int_wire_GetInt_l19 (p_b : List Int) (x1 : Int × Int × Int) : Int × (List Int) × Int → Option ((Int × (List Int) × Int) ⊕ (((List Int) × Int × Int) ⊕ (Int × (List Int)))) := fun (a19_0, a19_1, a19_2) => cnd (decide (a19_2 < x1.1)) (gd (0 ≤ a19_0 ∧ a19_0 ≤ ((p_b).length : Int) ∧ ((p_b).length : Int) ≤ ((p_b).length : Int)) (bnd (g_wire_GetInt (subL p_b a19_0 ((p_b).length : Int))) fun x6 => cnd (decide (x6.2.2 ≠ (0 : Int))) (some (.inr (.inl (([] : List Int), (0 : Int), x6.2.2)))) (gd ((a19_1 ++ [x6.1]).length * 8 ≤ 140737488355328) (some (.inl (IntKind.i64.wrap (a19_0 + x6.2.1), a19_1 ++ [x6.1], IntKind.i64.wrap (a19_2 + (1 : Int)))))))) (some (.inr (.inr (a19_0, a19_1))))
noncomputable def g_wire_get_int_wire_GetInt (p_b : List Int) (p_least : Int) : Option ((List Int) × Int × Int) := bnd (g_wire_length p_b p_least) fun x1 => cnd (decide (x1.2.2 ≠ (0 : Int))) (some (([] : List Int), (0 : Int), x1.2.2)) (bnd (loopO (g_wire_get_int_wire_GetInt_l19 p_b x1) (x1.2.1, ([] : List Int), (0 : Int))) fun y10 => match y10 with | .inl r => some r | .inr (a19e0_0, a19e0_1) => some (a19e0_1, a19e0_0, (0 : Int)))
theorem w_wire_get_int_wire_GetInt {p_b : List Int} {p_least : Int} {r : (List Int) × Int × Int} (h : g_wire_get_int_wire_GetInt p_b p_least = some r) : PCalls Try.prog 67 [dL (cI .u8) p_b, dI .i64 p_least, .e (.lit (.func (.func 52) #[] #[]))] (.tu [dL (cI .i64) r.1, dI .i64 r.2.1, dI .i64 r.2.2]) := by
  refine PCalls.of (rs := [.tmp 6, .tmp 7, .tmp 8]) tok Try.func67 rfl rfl (Nat.le_of_ble_eq_true rfl) rfl (fun cx hx h0 => ?_)
  simp only [argsT, Nat.reduceAdd, Nat.zero_add]
  unfold g_wire_get_int_wire_GetInt at h
  refine AW.seq ?_
  refine rg hx (by kernel_rfl) fun K hK => ?_
  refine s1 (d := dO 0 (cI .i64) ([] : List Int)) (T_asgN tb_86 tb_3) ?_
  iterate 2 refine s1 (d := dI .i64 (0 : Int)) T_asg ?_
  refine .nil (hK _ _ ?_)
  refine AW.seq ?_
  refine rg hx (by kernel_rfl) fun K hK => ?_
  iterate 2 refine s1 T_mv ?_
  obtain ⟨x1, hx2, h⟩ := bnd_some h
  refine s1 (T_call rfl (w_wire_length hx2) rfl (lA (le_refl' _) (lA (le_refl' _) lAn)) (.inr ⟨_, rfl⟩)) ?_
  refine s1 T_mv ?_
  iterate 3 refine s1 T_ext ?_
  iterate 3 refine s1 T_as ?_
  refine .nil (hK _ _ ?_)
  iterate 2 refine AW.seq ?_
  refine rg hx (by kernel_rfl) fun K hK => ?_
  refine s1 T_mv ?_
  refine s1 T_neq ?_
  refine .nil (hK _ _ ?_)
  refine AW.condS rfl (fun hb3 => ?_) (fun hb3 => ?_)
  replace h := cnd_t hb3 h
  refine AW.seq ?_
  refine rg hx (by kernel_rfl) fun K hK => ?_
  refine s1 T_mv ?_
  refine s1 (d := dO 1 (cI .i64) ([] : List Int)) (T_asgN tb_86 tb_3) ?_
  refine s1 (d := dI .i64 (0 : Int)) T_asg ?_
  refine s1 T_as ?_
  refine .nil (hK _ _ ?_)
  refine AW.ret ?_
  obtain rfl := Option.some.inj h
  exact RetV.mk3 (resD_t rfl (resD_t rfl (resD_t rfl (.inr ⟨_, _, _, (le_ex _), (le_refl' _), (le_refl' _), ⟨rfl, rfl, rfl⟩, rfl⟩))))
  replace h := cnd_f hb3 h
  refine AW.skip ?_
  refine AW.seq ?_
  refine rg hx (by kernel_rfl) fun K hK => ?_
  refine s1 (d := dO 1 (cI .i64) ([] : List Int)) (T_asgN tb_86 tb_3) ?_
  refine .nil (hK _ _ ?_)
  iterate 2 refine AW.seq ?_
  refine rg hx (by kernel_rfl) fun K hK => ?_
  refine s1 T_mv ?_
  refine s1 (d := dI .i64 (0 : Int)) T_move ?_
  refine .nil (hK _ _ ?_)
  refine AW.block ?_
  obtain ⟨y, hy, h⟩ := bnd_some h
  refine lp (S := Int × (List Int) × Int) (X := ((List Int) × Int × Int) ⊕ (Int × (List Int))) (fun (a19_0, a19_1, a19_2) => [(0, dL (cI .u8) p_b), (2, .e (.lit (.func (.func 52) #[] #[]))), (10, dI .i64 a19_0), (12, dO 0 (cI .i64) a19_1), (26, dI .i64 x1.1), (27, dI .i64 a19_2)]) (fun (a19_0, a19_1, a19_2) => ⟨[], [(0, (a19_1).length, 1, 3)], 1⟩) (PS (PR [.tmp 6, .tmp 7, .tmp 8] fun r => .tu [dL (cI .i64) r.1, dI .i64 r.2.1, dI .i64 r.2.2]) (PE cx (.exit 0) (fun (a19e0_0, a19e0_1) => [(10, dI .i64 a19e0_0), (12, dO 0 (cI .i64) a19e0_1)]) fun (a19e0_0, a19e0_1) => ⟨[], [(0, (a19e0_1).length, 1, 3)], 1⟩)) hy ?_ ?_ ?_
  exact wk h0 [1] (wR rfl (wR rfl (wR rfl (wR rfl (wR rfl (wR rfl wTn)))))) wVn (wL rfl rfl wLn)
  clear hy h
  rintro ⟨a19_0, a19_1, a19_2⟩ y h
  dsimp only [g_wire_get_int_wire_GetInt_l19] at h
  refine AW.seq ?_
  refine rg hx (by kernel_rfl) fun K hK => ?_
  refine s1 T_lss ?_
  refine .nil (hK _ _ ?_)
  refine AW.seq ?_
  refine AW.condS rfl (fun hb4 => ?_) (fun hb4 => ?_)
  replace h := cnd_t hb4 h
  refine AW.skip ?_
  refine AW.seq ?_
  refine AW.block ?_
  refine AW.seq ?_
  refine rg hx (by kernel_rfl) fun K hK => ?_
  iterate 3 refine s1 T_mv ?_
  obtain ⟨hc5, h⟩ := gd_some h
  refine s1 (T_sl (c := (cI .u8)) (l := p_b) (a := a19_0) (b := ((p_b).length : Int)) hc5 tb_58 tb_5) ?_
  obtain ⟨x6, hx7, h⟩ := bnd_some h
  refine s1 (T_call rfl (w_wire_GetInt hx7) rfl (lA (le_refl' _) lAn) (.inr ⟨_, rfl⟩)) ?_
  refine s1 T_mv ?_
  iterate 3 refine s1 T_ext ?_
  iterate 3 refine s1 T_as ?_
  refine .nil (hK _ _ ?_)
  iterate 2 refine AW.seq ?_
  refine rg hx (by kernel_rfl) fun K hK => ?_
  refine s1 T_mv ?_
  refine s1 T_neq ?_
  refine .nil (hK _ _ ?_)
  refine AW.condS rfl (fun hb8 => ?_) (fun hb8 => ?_)
  replace h := cnd_t hb8 h
  refine AW.seq ?_
  refine rg hx (by kernel_rfl) fun K hK => ?_
  refine s1 T_mv ?_
  refine s1 (d := dO 1 (cI .i64) ([] : List Int)) (T_asgN tb_86 tb_3) ?_
  refine s1 (d := dI .i64 (0 : Int)) T_asg ?_
  refine s1 T_as ?_
  refine .nil (hK _ _ ?_)
  refine AW.ret ?_
  obtain rfl := Option.some.inj h
  refine PS.r ⟨by nofun, PS.l (PR.i ?_)⟩
  exact RetV.mk3 (resD_t rfl (resD_t rfl (resD_t rfl (.inr ⟨_, _, _, (le_ex _), (le_refl' _), (le_refl' _), ⟨rfl, rfl, rfl⟩, rfl⟩))))
  replace h := cnd_f hb8 h
  refine AW.skip ?_
  refine rg hx (by kernel_rfl) fun K hK => ?_
  iterate 2 refine s1 T_mv ?_
  refine s1 (d := dO 1 (cI .i64) [x6.1]) (T_bsl tb_86 tb_3) ?_
  obtain ⟨hc9, h⟩ := gd_some h
  refine s1 (d := dO 0 (cI .i64) (a19_1 ++ [x6.1])) (T_appO tb_86 tb_3 hc9) ?_
  iterate 2 refine s1 T_mv ?_
  refine s1 T_add ?_
  iterate 2 refine s1 T_as ?_
  refine .nil (hK _ _ ?_)
  refine rg hx (by kernel_rfl) fun K hK => ?_
  refine s1 T_add ?_
  refine s1 T_mv ?_
  refine .nil (hK _ _ ?_)
  obtain rfl := Option.some.inj h
  exact PS.l (PE.i (wk h0 [0] (wR rfl (wR rfl (wR rfl (wR rfl (wR rfl (wR rfl wTn)))))) wVn (wL rfl rfl wLn)))
  replace h := cnd_f hb4 h
  refine AW.exit ?_
  try dsimp only
  try simp only [if_true, reduceIte, Nat.reduceEqDiff, reduceCtorEq]
  obtain rfl := Option.some.inj h
  exact PS.r ⟨by nofun, PS.r (PE.i (wk h0 [0] (wR rfl (wR rfl wTn)) wVn (wL rfl rfl wLn)))⟩
  rcases y with r | ⟨a19e0_0, a19e0_1⟩
  rintro ex tm' hp' ⟨rfl, hw⟩
  obtain rfl := Option.some.inj h
  exact hw
  rintro ex tm' hp' ⟨rfl, hw⟩
  try dsimp only
  try simp only [if_true, reduceIte, Nat.reduceEqDiff, reduceCtorEq]
  refine AW.weak hw ?_
  refine AW.seq ?_
  refine rg hx (by kernel_rfl) fun K hK => ?_
  iterate 2 refine s1 T_mv ?_
  iterate 2 refine s1 T_as ?_
  refine s1 (d := dI .i64 (0 : Int)) T_asg ?_
  refine .nil (hK _ _ ?_)
  refine AW.ret ?_
  obtain rfl := Option.some.inj h
  exact RetV.mk3 (resD_t rfl (resD_t rfl (resD_t rfl (.inr ⟨_, _, _, (le_ex _), (le_refl' _), (le_refl' _), ⟨rfl, rfl, rfl⟩, rfl⟩))))
noncomputable def g_wire_GetInts (p_b : List Int) : Option ((List Int) × Int × Int) := bnd (g_wire_get_int_wire_GetInt p_b (1 : Int)) fun x1 => some (x1.1, x1.2.1, x1.2.2)
theorem w_wire_GetInts {p_b : List Int} {r : (List Int) × Int × Int} (h : g_wire_GetInts p_b = some r) : PCalls Try.prog 56 [dL (cI .u8) p_b] (.tu [dL (cI .i64) r.1, dI .i64 r.2.1, dI .i64 r.2.2]) := by
  refine PCalls.of (rs := [.tmp 2, .tmp 3, .tmp 4]) tok Try.func56 rfl rfl (Nat.le_of_ble_eq_true rfl) rfl (fun cx hx h0 => ?_)
  simp only [argsT, Nat.reduceAdd, Nat.zero_add]
  unfold g_wire_GetInts at h
  refine AW.seq ?_
  refine rg hx (by kernel_rfl) fun K hK => ?_
  refine s1 (d := dO 0 (cI .i64) ([] : List Int)) (T_asgN tb_86 tb_3) ?_
  iterate 2 refine s1 (d := dI .i64 (0 : Int)) T_asg ?_
  refine .nil (hK _ _ ?_)
  refine AW.seq ?_
  refine rg hx (by kernel_rfl) fun K hK => ?_
  refine s1 T_mv ?_
  obtain ⟨x1, hx2, h⟩ := bnd_some h
  refine s1 (T_call rfl (w_wire_get_int_wire_GetInt hx2) rfl (lA (le_refl' _) (lA (le_refl' _) (lA (le_refl' _) lAn))) (.inr ⟨_, rfl⟩)) ?_
  iterate 3 refine s1 T_ext ?_
  iterate 3 refine s1 T_as ?_
  refine .nil (hK _ _ ?_)
  refine AW.ret ?_
  obtain rfl := Option.some.inj h
  exact RetV.mk3 (resD_t rfl (resD_t rfl (resD_t rfl (.inr ⟨_, _, _, (le_refl' _), (le_refl' _), (le_refl' _), ⟨rfl, rfl, rfl⟩, rfl⟩))))
noncomputable def g_link_get_int_v2 (p_v0 : List Int) (p_v1 : Bool) : Option ((List Int) × (List Int) × Bool) := bnd (g_wire_GetInts p_v0) fun x1 => bnd (S := (List Int) × Bool) (cnd (decide (x1.2.2 ≠ (0 : Int))) (some ((p_v0, false))) (gd (0 ≤ x1.2.1 ∧ x1.2.1 ≤ ((p_v0).length : Int) ∧ ((p_v0).length : Int) ≤ ((p_v0).length : Int)) (some ((subL p_v0 x1.2.1 ((p_v0).length : Int), p_v1))))) fun (a6_0, a6_1) => some (x1.1, a6_0, a6_1)
theorem w_link_get_int_v2 {p_v0 : List Int} {p_v1 : Bool} {r : (List Int) × (List Int) × Bool} (h : g_link_get_int_v2 p_v0 p_v1 = some r) : HC Try.prog 55 [.pt 0 0, .pt 1 0, .e (.lit (.func (.func 56) #[] #[]))] ⟨[(0, [dL (cI .u8) p_v0]), (1, [dB p_v1])], [], 2⟩ (dL (cI .i64) r.1) ⟨[(0, [dL (cI .u8) r.2.1]), (1, [dB r.2.2])], [], 2⟩ := by
  refine HC.of (rs := [.tmp 6]) tok Try.func55 rfl rfl (Nat.le_of_ble_eq_true rfl) rfl (fun cx hx h1 hok => ?_)
  have h0 : cx.hp0.next = 2 := by rw [h1]
  simp only [argsT, Nat.reduceAdd, Nat.zero_add]
  unfold g_link_get_int_v2 at h
  refine AW.seq ?_
  refine rg hx (by kernel_rfl) fun K hK => ?_
  refine s1 (d := dO 2 (cI .i64) ([] : List Int)) (T_asgN tb_86 tb_3) ?_
  refine .nil (hK _ _ ?_)
  refine AW.seq ?_
  refine rg hx (by kernel_rfl) fun K hK => ?_
  iterate 2 refine s1 T_mv ?_
  refine s1 T_nilP ?_
  refine s1 (d := dL (cI .u8) p_v0) (T_ldC tb_58) ?_
  obtain ⟨x1, hx2, h⟩ := bnd_some h
  refine s1 (T_call rfl (w_wire_GetInts hx2) rfl (lA (le_refl' _) lAn) (.inr ⟨_, rfl⟩)) ?_
  refine s1 T_mv ?_
  iterate 3 refine s1 T_ext ?_
  iterate 3 refine s1 T_as ?_
  refine .nil (hK _ _ ?_)
  refine AW.seq ?_
  obtain ⟨y, hy, h⟩ := bnd_some h
  refine jn ((PE cx .normal (fun (a6_0, a6_1) => [(7, dL (cI .i64) x1.1)]) fun (a6_0, a6_1) => ⟨[(0, [dL (cI .u8) a6_0]), (1, [dB a6_1])], [], 2⟩) y) ?_ ?_
  replace h := hy
  refine AW.seq ?_
  refine rg hx (by kernel_rfl) fun K hK => ?_
  refine s1 T_mv ?_
  refine s1 T_neq ?_
  refine .nil (hK _ _ ?_)
  refine AW.condS rfl (fun hb3 => ?_) (fun hb3 => ?_)
  replace h := cnd_t hb3 h
  refine rg hx (by kernel_rfl) fun K hK => ?_
  refine s1 T_mv ?_
  refine s1 T_nilP ?_
  refine s0 (T_st (ds' := [dB false]) tb_4) ?_
  refine .nil (hK _ _ ?_)
  obtain rfl := Option.some.inj h
  exact PE.i (wkN h0 [] (wR rfl wTn) (vR rfl (vR rfl wVn)) wLn)
  replace h := cnd_f hb3 h
  refine rg hx (by kernel_rfl) fun K hK => ?_
  iterate 2 refine s1 T_mv ?_
  refine s1 T_nilP ?_
  refine s1 (d := dL (cI .u8) p_v0) (T_ldC tb_58) ?_
  refine s1 T_mv ?_
  obtain ⟨hc4, h⟩ := gd_some h
  refine s1 (T_sl (c := (cI .u8)) (l := p_v0) (a := x1.2.1) (b := ((p_v0).length : Int)) hc4 tb_58 tb_5) ?_
  refine s1 T_nilP ?_
  refine s0 (T_st (ds' := [dL (cI .u8) (subL p_v0 x1.2.1 ((p_v0).length : Int))]) tb_58) ?_
  refine .nil (hK _ _ ?_)
  obtain rfl := Option.some.inj h
  exact PE.i (wkN h0 [] (wR rfl wTn) (vR rfl (vR rfl wVn)) wLn)
  obtain ⟨a6_0, a6_1⟩ := y
  rintro ex tm' hp' ⟨rfl, hw⟩
  refine AW.weak hw ?_
  refine AW.seq ?_
  refine rg hx (by kernel_rfl) fun K hK => ?_
  refine s1 T_mv ?_
  refine s1 T_as ?_
  refine .nil (hK _ _ ?_)
  refine AW.ret ?_
  obtain rfl := Option.some.inj h
  exact rH1 (wkN h0 [] (wR rfl wTn) (vR rfl (vR rfl wVn)) wLn)
noncomputable def g_link_Unpack_l29 (x7 : (List Int) × (List Int) × Bool) (x9 : (List ByteArray) × (List Int) × Bool) : Int × (List S_Held) → Option ((Int × (List S_Held)) ⊕ ((List S_Held))) := fun (a29_0, a29_1) => cnd (decide (a29_0 < ((x7.1).length : Int))) (gd (0 ≤ a29_0 ∧ a29_0 < ((x7.1).length : Int)) (gd (0 ≤ a29_0 ∧ a29_0 < ((x9.1).length : Int)) (gd ((a29_1 ++ [(⟨(x7.1)[(a29_0).toNat]!, (x9.1)[(a29_0).toNat]!⟩ : S_Held)]).length * 24 ≤ 140737488355328) (some (.inl (IntKind.i64.wrap (a29_0 + (1 : Int)), a29_1 ++ [(⟨(x7.1)[(a29_0).toNat]!, (x9.1)[(a29_0).toNat]!⟩ : S_Held)])))))) (some (.inr a29_1))
noncomputable def g_link_Unpack (p_b : List Int) : Option (S_End × Int) := bnd (g_link_get_int_v p_b true) fun x1 => bnd (g_link_get_int_v x1.2.1 x1.2.2) fun x3 => bnd (g_link_get_string_v x3.2.1 x3.2.2) fun x5 => bnd (g_link_get_int_v2 x5.2.1 x5.2.2) fun x7 => bnd (g_link_get_string_v x7.2.1 x7.2.2) fun x9 => bnd (S := Bool) (cnd (!x9.2.2) (some (true)) (cnd (decide ((0 : Int) < ((x9.2.1).length : Int))) (some (true)) (some (decide (((x7.1).length : Int) ≠ ((x9.1).length : Int)))))) fun a13_0 => cnd a13_0 (some ((⟨(0 : Int), ([] : List ByteArray), (0 : Int), ([] : List S_Held)⟩ : S_End), (11 : Int))) (bnd (S := S_End) (cnd (decide (((x5.1).length : Int) = (0 : Int))) (some ((⟨x1.1, ([] : List ByteArray), x3.1, ([] : List S_Held)⟩ : S_End))) (some ((⟨x1.1, x5.1, x3.1, ([] : List S_Held)⟩ : S_End)))) fun a20_0 => bnd (loopO (g_link_Unpack_l29 x7 x9) ((0 : Int), ([] : List S_Held))) fun a29e0_0 => bnd (g_link_Check (⟨a20_0.vBase, a20_0.vQueue, a20_0.vWant, a29e0_0⟩ : S_End)) fun x24 => cnd (decide (x24 ≠ (0 : Int))) (some ((⟨(0 : Int), ([] : List ByteArray), (0 : Int), ([] : List S_Held)⟩ : S_End), (11 : Int))) (some ((⟨a20_0.vBase, a20_0.vQueue, a20_0.vWant, a29e0_0⟩ : S_End), (0 : Int))))
theorem w_link_Unpack {p_b : List Int} {r : S_End × Int} (h : g_link_Unpack p_b = some r) : PCalls Try.prog 28 [dL (cI .u8) p_b] (.tu [dG c_End r.1, dI .i64 r.2]) := by
  refine PCalls.of (rs := [.cell 2 25, .tmp 3]) tok Try.func28 rfl rfl (Nat.le_of_ble_eq_true rfl) rfl (fun cx hx h0 => ?_)
  simp only [argsT, Nat.reduceAdd, Nat.zero_add]
  unfold g_link_Unpack at h
  refine AW.seq ?_
  refine rg hx (by kernel_rfl) fun K hK => ?_
  refine s1 (d := .pt 0 0) (T_alloc tb_25) ?_
  refine s1 (d := dI .i64 (0 : Int)) T_asg ?_
  refine .nil (hK _ _ ?_)
  refine AW.seq ?_
  refine rg hx (by kernel_rfl) fun K hK => ?_
  refine s1 T_mv ?_
  refine s1 (d := .pt 1 0) (T_alloc tb_58) ?_
  refine s1 (d := .pt 2 0) (T_alloc tb_4) ?_
  refine s0 (T_st (ds' := [dL (cI .u8) p_b]) tb_58) ?_
  refine s0 (T_st (ds' := [dB true]) tb_4) ?_
  refine .nil (hK _ _ ?_)
  refine AW.seq ?_
  refine rg hx (by kernel_rfl) fun K hK => ?_
  obtain ⟨x1, hx2, h⟩ := bnd_some h
  refine s1 (d := dI .i64 x1.1) (T_callV [1, 2] rfl (w_link_get_int_v hx2) (fA (le_refl' _) (fA (le_refl' _) (fA (le_refl' _) fAn))) (vR rfl (vR rfl wVn)) wLn) ?_
  obtain ⟨x3, hx4, h⟩ := bnd_some h
  refine s1 (d := dI .i64 x3.1) (T_callV [1, 2] rfl (w_link_get_int_v hx4) (fA (le_refl' _) (fA (le_refl' _) (fA (le_refl' _) fAn))) (vR rfl (vR rfl wVn)) wLn) ?_
  obtain ⟨x5, hx6, h⟩ := bnd_some h
  refine s1 (d := dL cS x5.1) (T_callV [1, 2] rfl (w_link_get_string_v hx6) (fA (le_refl' _) (fA (le_refl' _) (fA (le_refl' _) fAn))) (vR rfl (vR rfl wVn)) wLn) ?_
  refine s1 (d := .ag [dI .i64 x1.1, dL cS x5.1, dI .i64 x3.1, dN]) (T_build tb_25) ?_
  refine s1 (d := .pt 3 0) (T_alloc tb_25) ?_
  refine s0 (T_st (ds' := [dI .i64 x1.1, dL cS x5.1, dI .i64 x3.1, dN]) tb_25) ?_
  refine .nil (hK _ _ ?_)
  refine AW.seq ?_
  refine rg hx (by kernel_rfl) fun K hK => ?_
  obtain ⟨x7, hx8, h⟩ := bnd_some h
  refine s1 (d := dL (cI .i64) x7.1) (T_callV [1, 2] rfl (w_link_get_int_v2 hx8) (fA (le_refl' _) (fA (le_refl' _) (fA (le_refl' _) fAn))) (vR rfl (vR rfl wVn)) wLn) ?_
  refine s1 T_as ?_
  refine .nil (hK _ _ ?_)
  refine AW.seq ?_
  refine rg hx (by kernel_rfl) fun K hK => ?_
  obtain ⟨x9, hx10, h⟩ := bnd_some h
  refine s1 (d := dL cS x9.1) (T_callV [1, 2] rfl (w_link_get_string_v hx10) (fA (le_refl' _) (fA (le_refl' _) (fA (le_refl' _) fAn))) (vR rfl (vR rfl wVn)) wLn) ?_
  refine s1 T_as ?_
  refine .nil (hK _ _ ?_)
  iterate 2 refine AW.seq ?_
  obtain ⟨a13_0, hy, h⟩ := bnd_some h
  refine jn ((PE cx .normal (fun a13_0 => [(2, .pt 0 0), (6, .pt 1 0), (7, dL (cI .i64) x7.1), (8, dL cS x9.1), (31, dB a13_0)]) fun a13_0 => ⟨[(0, [dI .i64 (0 : Int), dN, dI .i64 (0 : Int), dN]), (1, [dI .i64 x1.1, dL cS x5.1, dI .i64 x3.1, dN])], [], 2⟩) a13_0) ?_ ?_
  replace h := hy
  refine rg hx (by kernel_rfl) fun K hK => ?_
  refine s1 (d := dB x9.2.2) (T_ldC tb_4) ?_
  refine s1 T_not ?_
  refine s1 T_mv ?_
  rcases Bool.eq_false_or_eq_true (!x9.2.2) with hb11 | hb11
  replace h := cnd_t hb11 h
  iterate 3 refine no_t rfl rfl hb11 ?_
  refine s1 (d := dB true) (T_pickT hb11) ?_
  refine s1 T_mv ?_
  iterate 5 refine no_t rfl rfl rfl ?_
  refine s1 (d := dB true) (T_pickT rfl) ?_
  refine .nil (hK _ _ ?_)
  obtain rfl := Option.some.inj h
  exact PE.i (wk h0 [0, 3] (wR rfl (wR rfl (wR rfl (wR rfl (wR rfl wTn))))) (vR rfl (vR rfl wVn)) wLn)
  replace h := cnd_f hb11 h
  refine g1 (d := dL (cI .u8) x9.2.1) hb11 (T_ldC tb_58) ?_
  refine g1 (d := dI .i64 ((x9.2.1).length : Int)) hb11 (T_len tb_58 tb_5) ?_
  refine g1 hb11 T_gtr ?_
  refine s1 (d := dB (decide ((0 : Int) < ((x9.2.1).length : Int)))) (T_pickF hb11) ?_
  refine s1 T_mv ?_
  rcases Bool.eq_false_or_eq_true (decide ((0 : Int) < ((x9.2.1).length : Int))) with hb12 | hb12
  replace h := cnd_t hb12 h
  iterate 5 refine no_t rfl rfl hb12 ?_
  refine s1 (d := dB true) (T_pickT hb12) ?_
  refine .nil (hK _ _ ?_)
  obtain rfl := Option.some.inj h
  exact PE.i (wk h0 [0, 3] (wR rfl (wR rfl (wR rfl (wR rfl (wR rfl wTn))))) (vR rfl (vR rfl wVn)) wLn)
  replace h := cnd_f hb12 h
  refine g1 hb12 T_mv ?_
  refine g1 (d := dI .i64 ((x7.1).length : Int)) hb12 (T_len tb_86 tb_3) ?_
  refine g1 hb12 T_mv ?_
  refine g1 (d := dI .i64 ((x9.1).length : Int)) hb12 (T_len tb_22 tb_9) ?_
  refine g1 hb12 T_neq ?_
  refine s1 (d := dB (decide (((x7.1).length : Int) ≠ ((x9.1).length : Int)))) (T_pickF hb12) ?_
  refine .nil (hK _ _ ?_)
  obtain rfl := Option.some.inj h
  exact PE.i (wk h0 [0, 3] (wR rfl (wR rfl (wR rfl (wR rfl (wR rfl wTn))))) (vR rfl (vR rfl wVn)) wLn)
  rintro ex tm' hp' ⟨rfl, hw⟩
  refine AW.weak hw ?_
  refine AW.condS rfl (fun hb14 => ?_) (fun hb14 => ?_)
  replace h := cnd_t hb14 h
  refine AW.seq ?_
  refine rg hx (by kernel_rfl) fun K hK => ?_
  refine s1 (d := .ag [dI .i64 (0 : Int), dN, dI .i64 (0 : Int), dN]) (T_build tb_25) ?_
  refine s0 (T_st (ds' := [dI .i64 (0 : Int), dN, dI .i64 (0 : Int), dN]) tb_25) ?_
  refine s1 (d := dI .i64 (11 : Int)) T_asg ?_
  refine .nil (hK _ _ ?_)
  refine AW.ret ?_
  obtain rfl := Option.some.inj h
  exact RetV.mk2 (resD_a (es := [dI .i64 (0 : Int), dN, dI .i64 (0 : Int), dN]) rfl tb_25 rfl rfl (ltb rfl) (leb rfl) rfl (resD_t rfl (.inr ⟨_, _, (le_ag (wc (lc_r _) (wc (lc_n rfl) (wc (lc_r _) (wc (lc_n rfl) wcn))))), (le_refl' _), ⟨rfl, rfl⟩, rfl⟩)))
  replace h := cnd_f hb14 h
  refine AW.skip ?_
  refine AW.seq ?_
  obtain ⟨a20_0, hy, h⟩ := bnd_some h
  refine jn ((PE cx .normal (fun a20_0 => [(2, .pt 0 0), (6, .pt 1 0), (7, dL (cI .i64) x7.1), (8, dL cS x9.1)]) fun a20_0 => ⟨[(0, [dI .i64 (0 : Int), dN, dI .i64 (0 : Int), dN]), (1, [dI .i64 a20_0.vBase, dL cS a20_0.vQueue, dI .i64 a20_0.vWant, dN])], [], 2⟩) a20_0) ?_ ?_
  replace h := hy
  refine AW.seq ?_
  refine rg hx (by kernel_rfl) fun K hK => ?_
  refine s1 (T_faP tb_25 tb_22) ?_
  refine s1 (d := dL cS x5.1) (T_ldC tb_22) ?_
  refine s1 (d := dI .i64 ((x5.1).length : Int)) (T_len tb_22 tb_9) ?_
  refine s1 T_eql ?_
  refine .nil (hK _ _ ?_)
  refine AW.condS rfl (fun hb15 => ?_) (fun hb15 => ?_)
  replace h := cnd_t hb15 h
  refine rg hx (by kernel_rfl) fun K hK => ?_
  refine s1 (T_faP tb_25 tb_22) ?_
  refine s0 (T_st (ds' := [dI .i64 x1.1, dN, dI .i64 x3.1, dN]) tb_22) ?_
  refine .nil (hK _ _ ?_)
  obtain rfl := Option.some.inj h
  exact PE.i (wk h0 [0, 1] (wR rfl (wR rfl (wR rfl (wR rfl wTn)))) (vR rfl (wV rfl rfl (wc (lc_r _) (wc (lc_n rfl) (wc (lc_r _) (wc (lc_r _) wcn)))) rfl rfl wVn)) wLn)
  replace h := cnd_f hb15 h
  refine AW.skip ?_
  obtain rfl := Option.some.inj h
  exact PE.i (wk h0 [0, 1] (wR rfl (wR rfl (wR rfl (wR rfl wTn)))) (vR rfl (vR rfl wVn)) wLn)
  rintro ex tm' hp' ⟨rfl, hw⟩
  refine AW.weak hw ?_
  iterate 2 refine AW.seq ?_
  refine rg hx (by kernel_rfl) fun K hK => ?_
  refine s1 T_mv ?_
  refine s1 (d := dI .i64 ((x7.1).length : Int)) (T_len tb_86 tb_3) ?_
  refine s1 (d := dI .i64 (0 : Int)) T_move ?_
  refine .nil (hK _ _ ?_)
  refine AW.block ?_
  obtain ⟨a29e0_0, hy, h⟩ := bnd_some h
  refine lp (S := Int × (List S_Held)) (X := (List S_Held)) (fun (a29_0, a29_1) => [(2, .pt 0 0), (6, .pt 1 0), (8, dL cS x9.1), (38, dL (cI .i64) x7.1), (39, dI .i64 ((x7.1).length : Int)), (40, dI .i64 a29_0)]) (fun (a29_0, a29_1) => ⟨[(0, [dI .i64 (0 : Int), dN, dI .i64 (0 : Int), dN]), (1, [dI .i64 a20_0.vBase, dL cS a20_0.vQueue, dI .i64 a20_0.vWant, dO 2 c_Held a29_1])], [(2, (a29_1).length, 2, 74)], 3⟩) (PE cx (.exit 0) (fun a29e0_0 => [(2, .pt 0 0), (6, .pt 1 0)]) fun a29e0_0 => ⟨[(0, [dI .i64 (0 : Int), dN, dI .i64 (0 : Int), dN]), (1, [dI .i64 a20_0.vBase, dL cS a20_0.vQueue, dI .i64 a20_0.vWant, dO 2 c_Held a29e0_0])], [(2, (a29e0_0).length, 2, 74)], 3⟩) hy ?_ ?_ ?_
  exact Wk.trans (Wk.nilOwn (ds' := [dI .i64 a20_0.vBase, dL cS a20_0.vQueue, dI .i64 a20_0.vWant, dO 2 c_Held ([] : List S_Held)]) 1 3 74 2) (wk h0 [0, 1, 2] (wR rfl (wR rfl (wR rfl (wR rfl (wR rfl (wR rfl wTn)))))) (vR rfl (vR rfl wVn)) (wL rfl rfl wLn))
  clear hy h
  rintro ⟨a29_0, a29_1⟩ y h
  dsimp only [g_link_Unpack_l29] at h
  refine AW.seq ?_
  refine rg hx (by kernel_rfl) fun K hK => ?_
  refine s1 T_lss ?_
  refine .nil (hK _ _ ?_)
  refine AW.seq ?_
  refine AW.condS rfl (fun hb17 => ?_) (fun hb17 => ?_)
  replace h := cnd_t hb17 h
  refine AW.skip ?_
  refine AW.seq ?_
  refine AW.block ?_
  refine AW.seq ?_
  refine rg hx (by kernel_rfl) fun K hK => ?_
  refine s1 T_mv ?_
  obtain ⟨hc18, h⟩ := gd_some h
  have hn19 : (a29_0).toNat < (x7.1).length := by omega
  refine s1 (T_iaS hc18 tb_86 tb_3) ?_
  refine s1 (d := dI .i64 ((x7.1)[(a29_0).toNat]!)) (T_ldF (c := (cI .i64)) (l := x7.1) (n := (a29_0).toNat) (o := 0) tb_3 hn19) ?_
  iterate 2 refine s1 T_as ?_
  refine .nil (hK _ _ ?_)
  refine rd [] hx (by kernel_rfl) (by kernel_rfl) fun K hK => ?_
  refine s1 (T_faP tb_25 tb_23) ?_
  refine s1 (d := dO 2 c_Held a29_1) (T_ldC tb_23) ?_
  iterate 3 refine s1 T_mv ?_
  obtain ⟨hc20, h⟩ := gd_some h
  have hn21 : (a29_0).toNat < (x9.1).length := by omega
  refine s1 (T_iaS hc20 tb_22 tb_9) ?_
  refine s1 (d := dS ((x9.1)[(a29_0).toNat]!)) (T_ldF (c := cS) (l := x9.1) (n := (a29_0).toNat) (o := 0) tb_9 hn21) ?_
  refine s1 (d := dG c_Held (⟨(x7.1)[(a29_0).toNat]!, (x9.1)[(a29_0).toNat]!⟩ : S_Held)) (T_build tb_74) ?_
  refine s1 (T_bslD tb_23 tb_74) ?_
  obtain ⟨hc22, h⟩ := gd_some h
  refine s1 (d := dO 2 c_Held (a29_1 ++ [(⟨(x7.1)[(a29_0).toNat]!, (x9.1)[(a29_0).toNat]!⟩ : S_Held)])) (T_appO tb_23 tb_74 hc22) ?_
  refine s1 (T_faP tb_25 tb_23) ?_
  refine s0 (T_st (ds' := [dI .i64 a20_0.vBase, dL cS a20_0.vQueue, dI .i64 a20_0.vWant, dO 2 c_Held (a29_1 ++ [(⟨(x7.1)[(a29_0).toNat]!, (x9.1)[(a29_0).toNat]!⟩ : S_Held)])]) tb_23) ?_
  refine .nil (hK _ _ ?_)
  refine rg hx (by kernel_rfl) fun K hK => ?_
  refine s1 T_add ?_
  refine s1 T_mv ?_
  refine .nil (hK _ _ ?_)
  obtain rfl := Option.some.inj h
  exact PS.l (PE.i (wk h0 [0, 1, 2] (wR rfl (wR rfl (wR rfl (wR rfl (wR rfl (wR rfl wTn)))))) (vR rfl (vR rfl wVn)) (wL rfl rfl wLn)))
  replace h := cnd_f hb17 h
  refine AW.exit ?_
  try dsimp only
  try simp only [if_true, reduceIte, Nat.reduceEqDiff, reduceCtorEq]
  obtain rfl := Option.some.inj h
  exact PS.r ⟨by nofun, PE.i (wk h0 [0, 1, 2] (wR rfl (wR rfl wTn)) (vR rfl (vR rfl wVn)) (wL rfl rfl wLn))⟩
  rintro ex tm' hp' ⟨rfl, hw⟩
  try dsimp only
  try simp only [if_true, reduceIte, Nat.reduceEqDiff, reduceCtorEq]
  refine AW.weak hw ?_
  iterate 2 refine AW.seq ?_
  refine rg hx (by kernel_rfl) fun K hK => ?_
  refine s1 (d := .ag [dI .i64 a20_0.vBase, dL cS a20_0.vQueue, dI .i64 a20_0.vWant, dO 2 c_Held a29e0_0]) (T_ldA tb_25) ?_
  obtain ⟨x24, hx25, h⟩ := bnd_some h
  refine s1 (d := dI .i64 x24) (T_call rfl (w_link_Check hx25) rfl (lA (le_ag (wc (lc_r _) (wc (lc_r _) (wc (lc_r _) (wc (lc_r _) wcn))))) lAn) (.inl rfl)) ?_
  refine s1 T_neq ?_
  refine .nil (hK _ _ ?_)
  refine AW.condS rfl (fun hb26 => ?_) (fun hb26 => ?_)
  replace h := cnd_t hb26 h
  refine AW.seq ?_
  refine rg hx (by kernel_rfl) fun K hK => ?_
  refine s1 (d := .ag [dI .i64 (0 : Int), dN, dI .i64 (0 : Int), dN]) (T_build tb_25) ?_
  refine s0 (T_st (ds' := [dI .i64 (0 : Int), dN, dI .i64 (0 : Int), dN]) tb_25) ?_
  refine s1 (d := dI .i64 (11 : Int)) T_asg ?_
  refine .nil (hK _ _ ?_)
  refine AW.ret ?_
  obtain rfl := Option.some.inj h
  exact RetV.mk2 (resD_a (es := [dI .i64 (0 : Int), dN, dI .i64 (0 : Int), dN]) rfl tb_25 rfl rfl (ltb rfl) (leb rfl) rfl (resD_t rfl (.inr ⟨_, _, (le_ag (wc (lc_r _) (wc (lc_n rfl) (wc (lc_r _) (wc (lc_n rfl) wcn))))), (le_refl' _), ⟨rfl, rfl⟩, rfl⟩)))
  replace h := cnd_f hb26 h
  refine AW.skip ?_
  refine AW.seq ?_
  refine rg hx (by kernel_rfl) fun K hK => ?_
  refine s1 (d := .ag [dI .i64 a20_0.vBase, dL cS a20_0.vQueue, dI .i64 a20_0.vWant, dO 2 c_Held a29e0_0]) (T_ldA tb_25) ?_
  refine s0 (T_st (ds' := [dI .i64 a20_0.vBase, dL cS a20_0.vQueue, dI .i64 a20_0.vWant, dO 2 c_Held a29e0_0]) tb_25) ?_
  refine s1 (d := dI .i64 (0 : Int)) T_asg ?_
  refine .nil (hK _ _ ?_)
  refine AW.ret ?_
  obtain rfl := Option.some.inj h
  exact RetV.mk2 (resD_a (es := [dI .i64 a20_0.vBase, dL cS a20_0.vQueue, dI .i64 a20_0.vWant, dO 2 c_Held a29e0_0]) rfl tb_25 rfl rfl (ltb rfl) (leb rfl) rfl (resD_t rfl (.inr ⟨_, _, (le_ag (wc (lc_r _) (wc (lc_r _) (wc (lc_r _) (wc (lc_x _) wcn))))), (le_refl' _), ⟨rfl, rfl⟩, rfl⟩)))
noncomputable def g_wire_Int_l9  : Int × (List Int) → Option ((Int × (List Int)) ⊕ (Int × (List Int))) := fun (a9_0, a9_1) => cnd (decide ((127 : Int) < a9_0)) (gd ((a9_1 ++ [ior .u8 (IntKind.u8.wrap (a9_0)) (128 : Int)]).length * 1 ≤ 140737488355328) (some (.inl (ishr .u64 a9_0 (7 : Int), a9_1 ++ [ior .u8 (IntKind.u8.wrap (a9_0)) (128 : Int)])))) (some (.inr (a9_0, a9_1)))
noncomputable def g_wire_Int (p_n : Int) : Option (List Int) := bnd (some (ixor .u64 (ishl .u64 (IntKind.u64.wrap (p_n)) (1 : Int)) (IntKind.u64.wrap (ishr .i64 p_n (63 : Int))))) fun x1 => bnd (loopO (g_wire_Int_l9) (x1, ([] : List Int))) fun (a9e0_0, a9e0_1) => gd ((a9e0_1 ++ [IntKind.u8.wrap (a9e0_0)]).length * 1 ≤ 140737488355328) (some (a9e0_1 ++ [IntKind.u8.wrap (a9e0_0)]))
theorem w_wire_Int {p_n : Int} {r : List Int} (h : g_wire_Int p_n = some r) : PCalls Try.prog 45 [dI .i64 p_n] (.own 5 (cI .u8).sz r.length (r.flatMap (cI .u8).f)) := by
  refine PCalls.of (rs := [.tmp 2]) tok Try.func45 rfl rfl (Nat.le_of_ble_eq_true rfl) rfl (fun cx hx h0 => ?_)
  simp only [argsT, Nat.reduceAdd, Nat.zero_add]
  unfold g_wire_Int at h
  refine AW.seq ?_
  refine rg hx (by kernel_rfl) fun K hK => ?_
  refine s1 (d := dO 0 (cI .u8) ([] : List Int)) (T_asgN tb_58 tb_5) ?_
  refine .nil (hK _ _ ?_)
  refine AW.seq ?_
  refine rg hx (by kernel_rfl) fun K hK => ?_
  refine s1 T_mv ?_
  refine s1 (d := dI .u64 (IntKind.u64.wrap (p_n))) (T_cvI tb_3 tb_104) ?_
  refine s1 (T_shl (b := (1 : Int)) (by decide)) ?_
  refine s1 T_mv ?_
  refine s1 (T_shr (b := (63 : Int)) (by decide)) ?_
  refine s1 (d := dI .u64 (IntKind.u64.wrap (ishr .i64 p_n (63 : Int)))) (T_cvI tb_3 tb_104) ?_
  refine s1 T_xor ?_
  obtain ⟨x1, hx2, h⟩ := bnd_some h
  replace hx2 := Option.some.inj hx2
  refine s2 (d2 := dI .u64 x1) T_as (le_eq (congrArg (dI .u64) hx2)) ?_
  refine .nil (hK _ _ ?_)
  refine AW.seq ?_
  refine rg hx (by kernel_rfl) fun K hK => ?_
  refine s1 (d := dO 1 (cI .u8) ([] : List Int)) (T_asgN tb_58 tb_5) ?_
  refine .nil (hK _ _ ?_)
  refine AW.seq ?_
  refine AW.block ?_
  obtain ⟨y, hy, h⟩ := bnd_some h
  refine lp (S := Int × (List Int)) (X := Int × (List Int)) (fun (a9_0, a9_1) => [(3, dI .u64 a9_0), (4, dO 0 (cI .u8) a9_1)]) (fun (a9_0, a9_1) => ⟨[], [(0, (a9_1).length, 1, 5)], 1⟩) (PE cx (.exit 0) (fun (a9e0_0, a9e0_1) => [(3, dI .u64 a9e0_0), (4, dO 0 (cI .u8) a9e0_1)]) fun (a9e0_0, a9e0_1) => ⟨[], [(0, (a9e0_1).length, 1, 5)], 1⟩) hy ?_ ?_ ?_
  exact wk h0 [1] (wR rfl (wR rfl wTn)) wVn (wL rfl rfl wLn)
  clear hy h
  rintro ⟨a9_0, a9_1⟩ y h
  dsimp only [g_wire_Int_l9] at h
  iterate 2 refine AW.seq ?_
  refine rg hx (by kernel_rfl) fun K hK => ?_
  refine s1 T_mv ?_
  refine s1 T_gtr ?_
  refine .nil (hK _ _ ?_)
  refine AW.condS rfl (fun hb3 => ?_) (fun hb3 => ?_)
  replace h := cnd_t hb3 h
  refine AW.skip ?_
  refine AW.seq ?_
  refine AW.block ?_
  refine rg hx (by kernel_rfl) fun K hK => ?_
  iterate 2 refine s1 T_mv ?_
  refine s1 (d := dI .u8 (IntKind.u8.wrap (a9_0))) (T_cvI tb_104 tb_5) ?_
  refine s1 T_or ?_
  refine s1 (d := dO 1 (cI .u8) [ior .u8 (IntKind.u8.wrap (a9_0)) (128 : Int)]) (T_bsl tb_58 tb_5) ?_
  obtain ⟨hc4, h⟩ := gd_some h
  refine s1 (d := dO 0 (cI .u8) (a9_1 ++ [ior .u8 (IntKind.u8.wrap (a9_0)) (128 : Int)])) (T_appO tb_58 tb_5 hc4) ?_
  refine s1 T_as ?_
  refine .nil (hK _ _ ?_)
  refine rg hx (by kernel_rfl) fun K hK => ?_
  refine s1 T_mv ?_
  refine s1 (T_shr (b := (7 : Int)) (by decide)) ?_
  refine s1 T_as ?_
  refine .nil (hK _ _ ?_)
  obtain rfl := Option.some.inj h
  exact PS.l (PE.i (wk h0 [0] (wR rfl (wR rfl wTn)) wVn (wL rfl rfl wLn)))
  replace h := cnd_f hb3 h
  refine AW.exit ?_
  try dsimp only
  try simp only [if_true, reduceIte, Nat.reduceEqDiff, reduceCtorEq]
  obtain rfl := Option.some.inj h
  exact PS.r ⟨by nofun, PE.i (wk h0 [0] (wR rfl (wR rfl wTn)) wVn (wL rfl rfl wLn))⟩
  obtain ⟨a9e0_0, a9e0_1⟩ := y
  rintro ex tm' hp' ⟨rfl, hw⟩
  try dsimp only
  try simp only [if_true, reduceIte, Nat.reduceEqDiff, reduceCtorEq]
  refine AW.weak hw ?_
  refine AW.seq ?_
  refine rg hx (by kernel_rfl) fun K hK => ?_
  iterate 2 refine s1 T_mv ?_
  refine s1 (d := dI .u8 (IntKind.u8.wrap (a9e0_0))) (T_cvI tb_104 tb_5) ?_
  refine s1 (d := dO 1 (cI .u8) [IntKind.u8.wrap (a9e0_0)]) (T_bsl tb_58 tb_5) ?_
  obtain ⟨hc6, h⟩ := gd_some h
  refine s1 (d := dO 0 (cI .u8) (a9e0_1 ++ [IntKind.u8.wrap (a9e0_0)])) (T_appO tb_58 tb_5 hc6) ?_
  refine s1 T_as ?_
  refine .nil (hK _ _ ?_)
  refine AW.ret ?_
  obtain rfl := Option.some.inj h
  exact RetV.own rfl rfl
noncomputable def g_wire_Bytes (p_s : ByteArray) : Option (List Int) := bnd (g_wire_Int (p_s.size : Int)) fun x1 => gd ((x1 ++ strB p_s).length * 1 ≤ 140737488355328) (some (x1 ++ strB p_s))
theorem w_wire_Bytes {p_s : ByteArray} {r : List Int} (h : g_wire_Bytes p_s = some r) : PCalls Try.prog 62 [dS p_s] (.own 5 (cI .u8).sz r.length (r.flatMap (cI .u8).f)) := by
  refine PCalls.of (rs := [.tmp 2]) tok Try.func62 rfl rfl (Nat.le_of_ble_eq_true rfl) rfl (fun cx hx h0 => ?_)
  simp only [argsT, Nat.reduceAdd, Nat.zero_add]
  unfold g_wire_Bytes at h
  refine AW.seq ?_
  refine rg hx (by kernel_rfl) fun K hK => ?_
  refine s1 (d := dO 0 (cI .u8) ([] : List Int)) (T_asgN tb_58 tb_5) ?_
  refine .nil (hK _ _ ?_)
  refine AW.seq ?_
  refine rg hx (by kernel_rfl) fun K hK => ?_
  refine s1 T_mv ?_
  refine s1 (d := dI .i64 (p_s.size : Int)) (T_lenS tb_9) ?_
  obtain ⟨x1, hx2, h⟩ := bnd_some h
  refine s1 (d := dO 1 (cI .u8) x1) (T_callO rfl (w_wire_Int hx2) rfl (lA (le_refl' _) lAn)) ?_
  refine s1 T_mv ?_
  obtain ⟨hc3, h⟩ := gd_some h
  refine s1 (d := dO 1 (cI .u8) (x1 ++ strB p_s)) (T_appSO tb_58 tb_5 tb_9 hc3) ?_
  refine s1 T_as ?_
  refine .nil (hK _ _ ?_)
  refine AW.ret ?_
  obtain rfl := Option.some.inj h
  exact RetV.own rfl rfl
noncomputable def g_wire_list_string_wire_Bytes_l9 (p_l : List ByteArray) : (List Int) × Int → Option (((List Int) × Int) ⊕ ((List Int))) := fun (a9_0, a9_1) => cnd (decide (a9_1 < ((p_l).length : Int))) (gd (0 ≤ a9_1 ∧ a9_1 < ((p_l).length : Int)) (bnd (g_wire_Bytes ((p_l)[(a9_1).toNat]!)) fun x6 => gd ((a9_0 ++ x6).length * 1 ≤ 140737488355328) (some (.inl (a9_0 ++ x6, IntKind.i64.wrap (a9_1 + (1 : Int))))))) (some (.inr a9_0))
noncomputable def g_wire_list_string_wire_Bytes (p_l : List ByteArray) : Option (List Int) := bnd (g_wire_Int ((p_l).length : Int)) fun x1 => bnd (loopO (g_wire_list_string_wire_Bytes_l9 p_l) (x1, (0 : Int))) fun a9e0_0 => some a9e0_0
theorem w_wire_list_string_wire_Bytes {p_l : List ByteArray} {r : List Int} (h : g_wire_list_string_wire_Bytes p_l = some r) : PCalls Try.prog 61 [dL cS p_l, .e (.lit (.func (.func 62) #[] #[]))] (.own 5 (cI .u8).sz r.length (r.flatMap (cI .u8).f)) := by
  refine PCalls.of (rs := [.tmp 4]) tok Try.func61 rfl rfl (Nat.le_of_ble_eq_true rfl) rfl (fun cx hx h0 => ?_)
  simp only [argsT, Nat.reduceAdd, Nat.zero_add]
  unfold g_wire_list_string_wire_Bytes at h
  refine AW.seq ?_
  refine rg hx (by kernel_rfl) fun K hK => ?_
  refine s1 (d := dO 0 (cI .u8) ([] : List Int)) (T_asgN tb_58 tb_5) ?_
  refine .nil (hK _ _ ?_)
  refine AW.seq ?_
  refine rg hx (by kernel_rfl) fun K hK => ?_
  refine s1 T_mv ?_
  refine s1 (d := dI .i64 ((p_l).length : Int)) (T_len tb_22 tb_9) ?_
  obtain ⟨x1, hx2, h⟩ := bnd_some h
  refine s1 (d := dO 1 (cI .u8) x1) (T_callO rfl (w_wire_Int hx2) rfl (lA (le_refl' _) lAn)) ?_
  refine s1 T_as ?_
  refine .nil (hK _ _ ?_)
  iterate 2 refine AW.seq ?_
  refine rg hx (by kernel_rfl) fun K hK => ?_
  refine s1 T_mv ?_
  refine s1 (d := dI .i64 ((p_l).length : Int)) (T_len tb_22 tb_9) ?_
  refine s1 (d := dI .i64 (0 : Int)) T_move ?_
  refine .nil (hK _ _ ?_)
  refine AW.block ?_
  obtain ⟨a9e0_0, hy, h⟩ := bnd_some h
  refine lp (S := (List Int) × Int) (X := (List Int)) (fun (a9_0, a9_1) => [(1, .e (.lit (.func (.func 62) #[] #[]))), (5, dO 0 (cI .u8) a9_0), (11, dL cS p_l), (12, dI .i64 ((p_l).length : Int)), (13, dI .i64 a9_1)]) (fun (a9_0, a9_1) => ⟨[], [(0, (a9_0).length, 1, 5)], 1⟩) (PE cx (.exit 0) (fun a9e0_0 => [(5, dO 0 (cI .u8) a9e0_0)]) fun a9e0_0 => ⟨[], [(0, (a9e0_0).length, 1, 5)], 1⟩) hy ?_ ?_ ?_
  exact wk h0 [1] (wR rfl (wR rfl (wR rfl (wR rfl (wR rfl wTn))))) wVn (wL rfl rfl wLn)
  clear hy h
  rintro ⟨a9_0, a9_1⟩ y h
  dsimp only [g_wire_list_string_wire_Bytes_l9] at h
  refine AW.seq ?_
  refine rg hx (by kernel_rfl) fun K hK => ?_
  refine s1 T_lss ?_
  refine .nil (hK _ _ ?_)
  refine AW.seq ?_
  refine AW.condS rfl (fun hb3 => ?_) (fun hb3 => ?_)
  replace h := cnd_t hb3 h
  refine AW.skip ?_
  refine AW.seq ?_
  refine AW.block ?_
  refine AW.seq ?_
  refine rg hx (by kernel_rfl) fun K hK => ?_
  obtain ⟨hc4, h⟩ := gd_some h
  have hn5 : (a9_1).toNat < (p_l).length := by omega
  refine s1 (T_iaS hc4 tb_22 tb_9) ?_
  refine s1 (d := dS ((p_l)[(a9_1).toNat]!)) (T_ldF (c := cS) (l := p_l) (n := (a9_1).toNat) (o := 0) tb_9 hn5) ?_
  refine s1 T_as ?_
  refine .nil (hK _ _ ?_)
  refine rg hx (by kernel_rfl) fun K hK => ?_
  iterate 3 refine s1 T_mv ?_
  obtain ⟨x6, hx7, h⟩ := bnd_some h
  refine s1 (d := dO 1 (cI .u8) x6) (T_callO rfl (w_wire_Bytes hx7) rfl (lA (le_refl' _) lAn)) ?_
  obtain ⟨hc8, h⟩ := gd_some h
  refine s1 (d := dO 0 (cI .u8) (a9_0 ++ x6)) (T_appO tb_58 tb_5 hc8) ?_
  refine s1 T_as ?_
  refine .nil (hK _ _ ?_)
  refine rg hx (by kernel_rfl) fun K hK => ?_
  refine s1 T_add ?_
  refine s1 T_mv ?_
  refine .nil (hK _ _ ?_)
  obtain rfl := Option.some.inj h
  exact PS.l (PE.i (wk h0 [0] (wR rfl (wR rfl (wR rfl (wR rfl (wR rfl wTn))))) wVn (wL rfl rfl wLn)))
  replace h := cnd_f hb3 h
  refine AW.exit ?_
  try dsimp only
  try simp only [if_true, reduceIte, Nat.reduceEqDiff, reduceCtorEq]
  obtain rfl := Option.some.inj h
  exact PS.r ⟨by nofun, PE.i (wk h0 [0] (wR rfl wTn) wVn (wL rfl rfl wLn))⟩
  rintro ex tm' hp' ⟨rfl, hw⟩
  try dsimp only
  try simp only [if_true, reduceIte, Nat.reduceEqDiff, reduceCtorEq]
  refine AW.weak hw ?_
  refine AW.seq ?_
  refine rg hx (by kernel_rfl) fun K hK => ?_
  refine s1 T_mv ?_
  refine s1 T_as ?_
  refine .nil (hK _ _ ?_)
  refine AW.ret ?_
  obtain rfl := Option.some.inj h
  exact RetV.own rfl rfl
noncomputable def g_wire_Strings (p_l : List ByteArray) : Option (List Int) := bnd (g_wire_list_string_wire_Bytes p_l) fun x1 => some x1
theorem w_wire_Strings {p_l : List ByteArray} {r : List Int} (h : g_wire_Strings p_l = some r) : PCalls Try.prog 46 [dL cS p_l] (.own 5 (cI .u8).sz r.length (r.flatMap (cI .u8).f)) := by
  refine PCalls.of (rs := [.tmp 2]) tok Try.func46 rfl rfl (Nat.le_of_ble_eq_true rfl) rfl (fun cx hx h0 => ?_)
  simp only [argsT, Nat.reduceAdd, Nat.zero_add]
  unfold g_wire_Strings at h
  refine AW.seq ?_
  refine rg hx (by kernel_rfl) fun K hK => ?_
  refine s1 (d := dO 0 (cI .u8) ([] : List Int)) (T_asgN tb_58 tb_5) ?_
  refine .nil (hK _ _ ?_)
  refine AW.seq ?_
  refine rg hx (by kernel_rfl) fun K hK => ?_
  refine s1 T_mv ?_
  obtain ⟨x1, hx2, h⟩ := bnd_some h
  refine s1 (d := dO 1 (cI .u8) x1) (T_callO rfl (w_wire_list_string_wire_Bytes hx2) rfl (lA (le_refl' _) (lA (le_refl' _) lAn))) ?_
  refine s1 T_as ?_
  refine .nil (hK _ _ ?_)
  refine AW.ret ?_
  obtain rfl := Option.some.inj h
  exact RetV.own rfl rfl
noncomputable def g_wire_list_int_wire_Int_l9 (p_l : List Int) : (List Int) × Int → Option (((List Int) × Int) ⊕ ((List Int))) := fun (a9_0, a9_1) => cnd (decide (a9_1 < ((p_l).length : Int))) (gd (0 ≤ a9_1 ∧ a9_1 < ((p_l).length : Int)) (bnd (g_wire_Int ((p_l)[(a9_1).toNat]!)) fun x6 => gd ((a9_0 ++ x6).length * 1 ≤ 140737488355328) (some (.inl (a9_0 ++ x6, IntKind.i64.wrap (a9_1 + (1 : Int))))))) (some (.inr a9_0))
noncomputable def g_wire_list_int_wire_Int (p_l : List Int) : Option (List Int) := bnd (g_wire_Int ((p_l).length : Int)) fun x1 => bnd (loopO (g_wire_list_int_wire_Int_l9 p_l) (x1, (0 : Int))) fun a9e0_0 => some a9e0_0
theorem w_wire_list_int_wire_Int {p_l : List Int} {r : List Int} (h : g_wire_list_int_wire_Int p_l = some r) : PCalls Try.prog 63 [dL (cI .i64) p_l, .e (.lit (.func (.func 45) #[] #[]))] (.own 5 (cI .u8).sz r.length (r.flatMap (cI .u8).f)) := by
  refine PCalls.of (rs := [.tmp 4]) tok Try.func63 rfl rfl (Nat.le_of_ble_eq_true rfl) rfl (fun cx hx h0 => ?_)
  simp only [argsT, Nat.reduceAdd, Nat.zero_add]
  unfold g_wire_list_int_wire_Int at h
  refine AW.seq ?_
  refine rg hx (by kernel_rfl) fun K hK => ?_
  refine s1 (d := dO 0 (cI .u8) ([] : List Int)) (T_asgN tb_58 tb_5) ?_
  refine .nil (hK _ _ ?_)
  refine AW.seq ?_
  refine rg hx (by kernel_rfl) fun K hK => ?_
  refine s1 T_mv ?_
  refine s1 (d := dI .i64 ((p_l).length : Int)) (T_len tb_86 tb_3) ?_
  obtain ⟨x1, hx2, h⟩ := bnd_some h
  refine s1 (d := dO 1 (cI .u8) x1) (T_callO rfl (w_wire_Int hx2) rfl (lA (le_refl' _) lAn)) ?_
  refine s1 T_as ?_
  refine .nil (hK _ _ ?_)
  iterate 2 refine AW.seq ?_
  refine rg hx (by kernel_rfl) fun K hK => ?_
  refine s1 T_mv ?_
  refine s1 (d := dI .i64 ((p_l).length : Int)) (T_len tb_86 tb_3) ?_
  refine s1 (d := dI .i64 (0 : Int)) T_move ?_
  refine .nil (hK _ _ ?_)
  refine AW.block ?_
  obtain ⟨a9e0_0, hy, h⟩ := bnd_some h
  refine lp (S := (List Int) × Int) (X := (List Int)) (fun (a9_0, a9_1) => [(1, .e (.lit (.func (.func 45) #[] #[]))), (5, dO 0 (cI .u8) a9_0), (11, dL (cI .i64) p_l), (12, dI .i64 ((p_l).length : Int)), (13, dI .i64 a9_1)]) (fun (a9_0, a9_1) => ⟨[], [(0, (a9_0).length, 1, 5)], 1⟩) (PE cx (.exit 0) (fun a9e0_0 => [(5, dO 0 (cI .u8) a9e0_0)]) fun a9e0_0 => ⟨[], [(0, (a9e0_0).length, 1, 5)], 1⟩) hy ?_ ?_ ?_
  exact wk h0 [1] (wR rfl (wR rfl (wR rfl (wR rfl (wR rfl wTn))))) wVn (wL rfl rfl wLn)
  clear hy h
  rintro ⟨a9_0, a9_1⟩ y h
  dsimp only [g_wire_list_int_wire_Int_l9] at h
  refine AW.seq ?_
  refine rg hx (by kernel_rfl) fun K hK => ?_
  refine s1 T_lss ?_
  refine .nil (hK _ _ ?_)
  refine AW.seq ?_
  refine AW.condS rfl (fun hb3 => ?_) (fun hb3 => ?_)
  replace h := cnd_t hb3 h
  refine AW.skip ?_
  refine AW.seq ?_
  refine AW.block ?_
  refine AW.seq ?_
  refine rg hx (by kernel_rfl) fun K hK => ?_
  obtain ⟨hc4, h⟩ := gd_some h
  have hn5 : (a9_1).toNat < (p_l).length := by omega
  refine s1 (T_iaS hc4 tb_86 tb_3) ?_
  refine s1 (d := dI .i64 ((p_l)[(a9_1).toNat]!)) (T_ldF (c := (cI .i64)) (l := p_l) (n := (a9_1).toNat) (o := 0) tb_3 hn5) ?_
  refine s1 T_as ?_
  refine .nil (hK _ _ ?_)
  refine rg hx (by kernel_rfl) fun K hK => ?_
  iterate 3 refine s1 T_mv ?_
  obtain ⟨x6, hx7, h⟩ := bnd_some h
  refine s1 (d := dO 1 (cI .u8) x6) (T_callO rfl (w_wire_Int hx7) rfl (lA (le_refl' _) lAn)) ?_
  obtain ⟨hc8, h⟩ := gd_some h
  refine s1 (d := dO 0 (cI .u8) (a9_0 ++ x6)) (T_appO tb_58 tb_5 hc8) ?_
  refine s1 T_as ?_
  refine .nil (hK _ _ ?_)
  refine rg hx (by kernel_rfl) fun K hK => ?_
  refine s1 T_add ?_
  refine s1 T_mv ?_
  refine .nil (hK _ _ ?_)
  obtain rfl := Option.some.inj h
  exact PS.l (PE.i (wk h0 [0] (wR rfl (wR rfl (wR rfl (wR rfl (wR rfl wTn))))) wVn (wL rfl rfl wLn)))
  replace h := cnd_f hb3 h
  refine AW.exit ?_
  try dsimp only
  try simp only [if_true, reduceIte, Nat.reduceEqDiff, reduceCtorEq]
  obtain rfl := Option.some.inj h
  exact PS.r ⟨by nofun, PE.i (wk h0 [0] (wR rfl wTn) wVn (wL rfl rfl wLn))⟩
  rintro ex tm' hp' ⟨rfl, hw⟩
  try dsimp only
  try simp only [if_true, reduceIte, Nat.reduceEqDiff, reduceCtorEq]
  refine AW.weak hw ?_
  refine AW.seq ?_
  refine rg hx (by kernel_rfl) fun K hK => ?_
  refine s1 T_mv ?_
  refine s1 T_as ?_
  refine .nil (hK _ _ ?_)
  refine AW.ret ?_
  obtain rfl := Option.some.inj h
  exact RetV.own rfl rfl
noncomputable def g_wire_Ints (p_l : List Int) : Option (List Int) := bnd (g_wire_list_int_wire_Int p_l) fun x1 => some x1
theorem w_wire_Ints {p_l : List Int} {r : List Int} (h : g_wire_Ints p_l = some r) : PCalls Try.prog 47 [dL (cI .i64) p_l] (.own 5 (cI .u8).sz r.length (r.flatMap (cI .u8).f)) := by
  refine PCalls.of (rs := [.tmp 2]) tok Try.func47 rfl rfl (Nat.le_of_ble_eq_true rfl) rfl (fun cx hx h0 => ?_)
  simp only [argsT, Nat.reduceAdd, Nat.zero_add]
  unfold g_wire_Ints at h
  refine AW.seq ?_
  refine rg hx (by kernel_rfl) fun K hK => ?_
  refine s1 (d := dO 0 (cI .u8) ([] : List Int)) (T_asgN tb_58 tb_5) ?_
  refine .nil (hK _ _ ?_)
  refine AW.seq ?_
  refine rg hx (by kernel_rfl) fun K hK => ?_
  refine s1 T_mv ?_
  obtain ⟨x1, hx2, h⟩ := bnd_some h
  refine s1 (d := dO 1 (cI .u8) x1) (T_callO rfl (w_wire_list_int_wire_Int hx2) rfl (lA (le_refl' _) (lA (le_refl' _) lAn))) ?_
  refine s1 T_as ?_
  refine .nil (hK _ _ ?_)
  refine AW.ret ?_
  obtain rfl := Option.some.inj h
  exact RetV.own rfl rfl
noncomputable def g_link_Pack_l21 (p_x : S_End) : (List Int) × (List ByteArray) × Int → Option (((List Int) × (List ByteArray) × Int) ⊕ ((List Int) × (List ByteArray))) := fun (a21_0, a21_1, a21_2) => cnd (decide (a21_2 < ((p_x.vHeld).length : Int))) (gd (0 ≤ a21_2 ∧ a21_2 < ((p_x.vHeld).length : Int)) (gd ((a21_0 ++ [((p_x.vHeld)[(a21_2).toNat]!).vSeq]).length * 8 ≤ 140737488355328) (gd ((a21_1 ++ [((p_x.vHeld)[(a21_2).toNat]!).vData]).length * 16 ≤ 140737488355328) (some (.inl (a21_0 ++ [((p_x.vHeld)[(a21_2).toNat]!).vSeq], a21_1 ++ [((p_x.vHeld)[(a21_2).toNat]!).vData], IntKind.i64.wrap (a21_2 + (1 : Int)))))))) (some (.inr (a21_0, a21_1)))
noncomputable def g_link_Pack (p_x : S_End) : Option ((List Int) × Int) := bnd (g_link_Check p_x) fun x1 => cnd (decide (x1 ≠ (0 : Int))) (some (([] : List Int), x1)) (bnd (loopO (g_link_Pack_l21 p_x) (([] : List Int), ([] : List ByteArray), (0 : Int))) fun (a21e0_0, a21e0_1) => bnd (g_wire_Int p_x.vBase) fun x10 => bnd (g_wire_Int p_x.vWant) fun x12 => bnd (g_wire_Strings p_x.vQueue) fun x14 => bnd (g_wire_Ints a21e0_0) fun x16 => bnd (g_wire_Strings a21e0_1) fun x18 => bnd (g_slices_Concat_byte_byte [x10, x12, x14, x16, x18]) fun x20 => some (x20, (0 : Int)))
theorem w_link_Pack {p_x : S_End} {r : (List Int) × Int} (h : g_link_Pack p_x = some r) : PCalls Try.prog 25 [dG c_End p_x] (.tu [dL (cI .u8) r.1, dI .i64 r.2]) := by
  refine PCalls.of (rs := [.tmp 2, .tmp 3]) tok Try.func25 rfl rfl (Nat.le_of_ble_eq_true rfl) rfl (fun cx hx h0 => ?_)
  simp only [argsT, Nat.reduceAdd, Nat.zero_add]
  unfold g_link_Pack at h
  refine AW.seq ?_
  refine rg hx (by kernel_rfl) fun K hK => ?_
  refine s1 (d := .pt 0 0) T_box ?_
  refine s1 (d := dO 1 (cI .u8) ([] : List Int)) (T_asgN tb_58 tb_5) ?_
  refine s1 (d := dI .i64 (0 : Int)) T_asg ?_
  refine .nil (hK _ _ ?_)
  iterate 2 refine AW.seq ?_
  refine rg hx (by kernel_rfl) fun K hK => ?_
  refine s1 (d := dG c_End p_x) (T_ldA tb_25) ?_
  obtain ⟨x1, hx2, h⟩ := bnd_some h
  refine s1 (d := dI .i64 x1) (T_call rfl (w_link_Check hx2) (by simp only [List.map_cons, List.map_nil, List.all_cons, List.all_nil, Bool.and_true, Bool.and_eq_true]; exact pure_ex_G _ _) (lA (le_refl' _) lAn) (.inl rfl)) ?_
  refine s1 T_as ?_
  refine .nil (hK _ _ ?_)
  refine AW.seq ?_
  refine rg hx (by kernel_rfl) fun K hK => ?_
  refine s1 T_mv ?_
  refine s1 T_neq ?_
  refine .nil (hK _ _ ?_)
  refine AW.condS rfl (fun hb3 => ?_) (fun hb3 => ?_)
  replace h := cnd_t hb3 h
  refine AW.seq ?_
  refine rg hx (by kernel_rfl) fun K hK => ?_
  refine s1 T_mv ?_
  refine s1 (d := dO 2 (cI .u8) ([] : List Int)) (T_asgN tb_58 tb_5) ?_
  refine s1 T_as ?_
  refine .nil (hK _ _ ?_)
  refine AW.ret ?_
  obtain rfl := Option.some.inj h
  exact RetV.mk2 (resD_t rfl (resD_t rfl (.inr ⟨_, _, (le_ex _), (le_refl' _), ⟨rfl, rfl⟩, rfl⟩)))
  replace h := cnd_f hb3 h
  refine AW.skip ?_
  refine AW.seq ?_
  refine rg hx (by kernel_rfl) fun K hK => ?_
  refine s1 (d := dO 2 (cI .i64) ([] : List Int)) (T_asgN tb_86 tb_3) ?_
  refine .nil (hK _ _ ?_)
  refine AW.seq ?_
  refine rg hx (by kernel_rfl) fun K hK => ?_
  refine s1 (d := dO 3 cS ([] : List ByteArray)) (T_asgN tb_22 tb_9) ?_
  refine .nil (hK _ _ ?_)
  iterate 2 refine AW.seq ?_
  refine rg hx (by kernel_rfl) fun K hK => ?_
  refine s1 (T_faP tb_25 tb_23) ?_
  refine s1 (d := dL c_Held p_x.vHeld) (T_ldC tb_23) ?_
  refine s1 (d := dI .i64 ((p_x.vHeld).length : Int)) (T_len tb_23 tb_74) ?_
  refine s1 (d := dI .i64 (0 : Int)) T_move ?_
  refine .nil (hK _ _ ?_)
  refine AW.block ?_
  obtain ⟨y, hy, h⟩ := bnd_some h
  refine lp (S := (List Int) × (List ByteArray) × Int) (X := (List Int) × (List ByteArray)) (fun (a21_0, a21_1, a21_2) => [(1, .pt 0 0), (5, dO 1 (cI .i64) a21_0), (6, dO 2 cS a21_1), (15, dL c_Held p_x.vHeld), (16, dI .i64 ((p_x.vHeld).length : Int)), (17, dI .i64 a21_2)]) (fun (a21_0, a21_1, a21_2) => ⟨[(0, [dI .i64 p_x.vBase, dL cS p_x.vQueue, dI .i64 p_x.vWant, dL c_Held p_x.vHeld])], [(1, (a21_0).length, 1, 3), (2, (a21_1).length, 1, 9)], 3⟩) (PE cx (.exit 0) (fun (a21e0_0, a21e0_1) => [(1, .pt 0 0), (5, dO 1 (cI .i64) a21e0_0), (6, dO 2 cS a21e0_1)]) fun (a21e0_0, a21e0_1) => ⟨[(0, [dI .i64 p_x.vBase, dL cS p_x.vQueue, dI .i64 p_x.vWant, dL c_Held p_x.vHeld])], [(1, (a21e0_0).length, 1, 3), (2, (a21e0_1).length, 1, 9)], 3⟩) hy ?_ ?_ ?_
  exact wk h0 [0, 2, 3] (wR rfl (wR rfl (wR rfl (wR rfl (wR rfl (wR rfl wTn)))))) (vR rfl wVn) (wL rfl rfl (wL rfl rfl wLn))
  clear hy h
  rintro ⟨a21_0, a21_1, a21_2⟩ y h
  dsimp only [g_link_Pack_l21] at h
  refine AW.seq ?_
  refine rg hx (by kernel_rfl) fun K hK => ?_
  refine s1 T_lss ?_
  refine .nil (hK _ _ ?_)
  refine AW.seq ?_
  refine AW.condS rfl (fun hb4 => ?_) (fun hb4 => ?_)
  replace h := cnd_t hb4 h
  refine AW.skip ?_
  refine AW.seq ?_
  refine AW.block ?_
  refine AW.seq ?_
  refine rg hx (by kernel_rfl) fun K hK => ?_
  obtain ⟨hc5, h⟩ := gd_some h
  have hn6 : (a21_2).toNat < (p_x.vHeld).length := by omega
  refine s1 (T_iaS hc5 tb_23 tb_74) ?_
  refine s1 (d := dG c_Held ((p_x.vHeld)[(a21_2).toNat]!)) (T_ldG (c := c_Held) (l := p_x.vHeld) (n := (a21_2).toNat) (o := 0) tb_74 hn6 (whole_G _ _ rfl)) ?_
  refine s1 (d := .pt 3 0) (T_alloc tb_74) ?_
  refine s0 (T_st (ds' := [dI .i64 (((p_x.vHeld)[(a21_2).toNat]!).vSeq), dS (((p_x.vHeld)[(a21_2).toNat]!).vData)]) tb_74) ?_
  refine .nil (hK _ _ ?_)
  refine AW.seq ?_
  refine rg hx (by kernel_rfl) fun K hK => ?_
  refine s1 T_mv ?_
  refine s1 (T_faP tb_74 tb_3) ?_
  refine s1 (d := dI .i64 (((p_x.vHeld)[(a21_2).toNat]!).vSeq)) (T_ldC tb_3) ?_
  refine s1 (d := dO 4 (cI .i64) [((p_x.vHeld)[(a21_2).toNat]!).vSeq]) (T_bsl tb_86 tb_3) ?_
  obtain ⟨hc7, h⟩ := gd_some h
  refine s1 (d := dO 1 (cI .i64) (a21_0 ++ [((p_x.vHeld)[(a21_2).toNat]!).vSeq])) (T_appO tb_86 tb_3 hc7) ?_
  refine s1 T_as ?_
  refine .nil (hK _ _ ?_)
  refine rg hx (by kernel_rfl) fun K hK => ?_
  refine s1 T_mv ?_
  refine s1 (T_faP tb_74 tb_9) ?_
  refine s1 (d := dS (((p_x.vHeld)[(a21_2).toNat]!).vData)) (T_ldC tb_9) ?_
  refine s1 (d := dO 5 cS [((p_x.vHeld)[(a21_2).toNat]!).vData]) (T_bsl tb_22 tb_9) ?_
  obtain ⟨hc8, h⟩ := gd_some h
  refine s1 (d := dO 2 cS (a21_1 ++ [((p_x.vHeld)[(a21_2).toNat]!).vData])) (T_appO tb_22 tb_9 hc8) ?_
  refine s1 T_as ?_
  refine .nil (hK _ _ ?_)
  refine rg hx (by kernel_rfl) fun K hK => ?_
  refine s1 T_add ?_
  refine s1 T_mv ?_
  refine .nil (hK _ _ ?_)
  obtain rfl := Option.some.inj h
  exact PS.l (PE.i (wk h0 [0, 1, 2] (wR rfl (wR rfl (wR rfl (wR rfl (wR rfl (wR rfl wTn)))))) (vR rfl wVn) (wL rfl rfl (wL rfl rfl wLn))))
  replace h := cnd_f hb4 h
  refine AW.exit ?_
  try dsimp only
  try simp only [if_true, reduceIte, Nat.reduceEqDiff, reduceCtorEq]
  obtain rfl := Option.some.inj h
  exact PS.r ⟨by nofun, PE.i (wk h0 [0, 1, 2] (wR rfl (wR rfl (wR rfl wTn))) (vR rfl wVn) (wL rfl rfl (wL rfl rfl wLn)))⟩
  obtain ⟨a21e0_0, a21e0_1⟩ := y
  rintro ex tm' hp' ⟨rfl, hw⟩
  try dsimp only
  try simp only [if_true, reduceIte, Nat.reduceEqDiff, reduceCtorEq]
  refine AW.weak hw ?_
  refine AW.seq ?_
  refine rd [] hx (by kernel_rfl) (by kernel_rfl) fun K hK => ?_
  refine s1 (T_faP tb_25 tb_3) ?_
  refine s1 (d := dI .i64 p_x.vBase) (T_ldC tb_3) ?_
  obtain ⟨x10, hx11, h⟩ := bnd_some h
  refine s1 (d := dO 3 (cI .u8) x10) (T_callO rfl (w_wire_Int hx11) rfl (lA (le_refl' _) lAn)) ?_
  refine s1 (T_faP tb_25 tb_3) ?_
  refine s1 (d := dI .i64 p_x.vWant) (T_ldC tb_3) ?_
  obtain ⟨x12, hx13, h⟩ := bnd_some h
  refine s1 (d := dO 4 (cI .u8) x12) (T_callO rfl (w_wire_Int hx13) rfl (lA (le_refl' _) lAn)) ?_
  refine s1 (T_faP tb_25 tb_22) ?_
  refine s1 (d := dL cS p_x.vQueue) (T_ldC tb_22) ?_
  obtain ⟨x14, hx15, h⟩ := bnd_some h
  refine s1 (d := dO 5 (cI .u8) x14) (T_callO rfl (w_wire_Strings hx15) rfl (lA (le_refl' _) lAn)) ?_
  refine s1 T_mv ?_
  obtain ⟨x16, hx17, h⟩ := bnd_some h
  refine s1 (d := dO 6 (cI .u8) x16) (T_callO rfl (w_wire_Ints hx17) rfl (lA (le_refl' _) lAn)) ?_
  refine s1 T_mv ?_
  obtain ⟨x18, hx19, h⟩ := bnd_some h
  refine s1 (d := dO 7 (cI .u8) x18) (T_callO rfl (w_wire_Strings hx19) rfl (lA (le_refl' _) lAn)) ?_
  refine s1 (T_bslD tb_102 tb_58) ?_
  obtain ⟨x20, hx21, h⟩ := bnd_some h
  refine s1 (d := dO 8 (cI .u8) x20) (T_callO rfl (w_slices_Concat_byte_byte hx21) rfl (lA (le_refl' _) lAn)) ?_
  refine s1 T_as ?_
  refine s1 (d := dI .i64 (0 : Int)) T_asg ?_
  refine .nil (hK _ _ ?_)
  refine AW.ret ?_
  obtain rfl := Option.some.inj h
  exact RetV.mk2 (resD_t rfl (resD_t rfl (.inr ⟨_, _, (le_ex _), (le_refl' _), ⟨rfl, rfl⟩, rfl⟩)))
end Go.Proofs.Ytakbadleipbngaa
