/-
  What functions compute, read off the program's code (written by a program of mine). Conditions: none.
-/
import Derived.Test.YtakbadleipbngaaGC
set_option linter.all false
namespace Go.Proofs.Ytakbadleipbngaa
open Go.RowKit
structure S_Op where
  vKind : Int
  vSide : Int
  vN : Int
  deriving Inhabited, DecidableEq
def c_Op : Cd S_Op := ⟨3, fun x => [.lit (.int .u8 x.vKind), .lit (.int .u8 x.vSide), .lit (.int .u16 x.vN)], fun _ => rfl⟩
structure S_party where
  vx : S_End
  vold : S_End
  vsent : List ByteArray
  vgot : List ByteArray
  voldS : List ByteArray
  voldG : List ByteArray
  vway : List S_Frame
  deriving Inhabited, DecidableEq
def c_party : Cd S_party := ⟨13, fun x => c_End.f x.vx ++ c_End.f x.vold ++ [slE cS x.vsent, slE cS x.vgot, slE cS x.voldS, slE cS x.voldG, slE c_Frame x.vway], fun x => by simp [c_End.h, show c_End.sz = 4 from rfl]⟩
structure S_A2_party where
  v0 : S_party
  v1 : S_party
  deriving Inhabited, DecidableEq
def c_A2_party : Cd S_A2_party := ⟨26, fun x => c_party.f x.v0 ++ c_party.f x.v1, fun x => by simp [c_party.h, show c_party.sz = 13 from rfl]⟩
noncomputable def g_law42_fresh  : Option S_party := bnd (g_link_New) fun x1 => bnd (g_link_New) fun x3 => some (⟨(⟨x1.vBase, ([] : List ByteArray), x1.vWant, ([] : List S_Held)⟩ : S_End), (⟨x3.vBase, ([] : List ByteArray), x3.vWant, ([] : List S_Held)⟩ : S_End), ([] : List ByteArray), ([] : List ByteArray), ([] : List ByteArray), ([] : List ByteArray), ([] : List S_Frame)⟩ : S_party)
theorem w_law42_fresh  {r : S_party} (h : g_law42_fresh = some r) : PCalls Try.prog 57 [] (.ag [dI .i64 r.vx.vBase, dN, dI .i64 r.vx.vWant, dN, dI .i64 r.vold.vBase, dN, dI .i64 r.vold.vWant, dN, dN, dN, dN, dN, dN]) := by
  refine PCalls.of (rs := [.cell 0 68]) tok Try.func57 rfl rfl (Nat.le_of_ble_eq_true rfl) rfl (fun cx hx h0 => ?_)
  simp only [argsT, Nat.reduceAdd, Nat.zero_add]
  unfold g_law42_fresh at h
  refine AW.seq ?_
  refine rg hx (by kernel_rfl) fun K hK => ?_
  refine s1 (d := .pt 0 0) (T_alloc tb_68) ?_
  refine .nil (hK _ _ ?_)
  refine AW.seq ?_
  refine rg hx (by kernel_rfl) fun K hK => ?_
  obtain ⟨x1, hx2, h⟩ := bnd_some h
  refine s1 (d := .ag [dI .i64 x1.vBase, dN, dI .i64 x1.vWant, dN]) (T_call rfl (w_link_New hx2) rfl lAn (.inl rfl)) ?_
  obtain ⟨x3, hx4, h⟩ := bnd_some h
  refine s1 (d := .ag [dI .i64 x3.vBase, dN, dI .i64 x3.vWant, dN]) (T_call rfl (w_link_New hx4) rfl lAn (.inl rfl)) ?_
  refine s1 (d := .ag [dI .i64 x1.vBase, dN, dI .i64 x1.vWant, dN, dI .i64 x3.vBase, dN, dI .i64 x3.vWant, dN, dN, dN, dN, dN, dN]) (T_build tb_68) ?_
  refine s0 (T_st (ds' := [dI .i64 x1.vBase, dN, dI .i64 x1.vWant, dN, dI .i64 x3.vBase, dN, dI .i64 x3.vWant, dN, dN, dN, dN, dN, dN]) tb_68) ?_
  refine .nil (hK _ _ ?_)
  refine AW.ret ?_
  obtain rfl := Option.some.inj h
  exact RetV.mk1 (resD_a (es := [dI .i64 x1.vBase, dN, dI .i64 x1.vWant, dN, dI .i64 x3.vBase, dN, dI .i64 x3.vWant, dN, dN, dN, dN, dN, dN]) rfl tb_68 rfl rfl (ltb rfl) (leb rfl) rfl (.inr (.inr ⟨_, (le_ag (wc (lc_r _) (wc (lc_r _) (wc (lc_r _) (wc (lc_r _) (wc (lc_r _) (wc (lc_r _) (wc (lc_r _) (wc (lc_r _) (wc (lc_r _) (wc (lc_r _) (wc (lc_r _) (wc (lc_r _) (wc (lc_r _) wcn)))))))))))))), rfl, rfl⟩)))
noncomputable def g_law42_run_l9 (p_l : List S_Op) : Int × S_End × S_End × (List ByteArray) × (List ByteArray) × (List ByteArray) × (List ByteArray) × (List S_Frame) × S_End × S_End × (List ByteArray) × (List ByteArray) × (List ByteArray) × (List ByteArray) × (List S_Frame) → Option ((Int × S_End × S_End × (List ByteArray) × (List ByteArray) × (List ByteArray) × (List ByteArray) × (List S_Frame) × S_End × S_End × (List ByteArray) × (List ByteArray) × (List ByteArray) × (List ByteArray) × (List S_Frame)) ⊕ ((S_A2_party × Bool) ⊕ (S_End × S_End × (List ByteArray) × (List ByteArray) × (List ByteArray) × (List ByteArray) × (List S_Frame) × S_End × S_End × (List ByteArray) × (List ByteArray) × (List ByteArray) × (List ByteArray) × (List S_Frame)))) := fun (a9_0, a9_1, a9_2, a9_3, a9_4, a9_11, a9_12, a9_5, a9_6, a9_7, a9_8, a9_9, a9_13, a9_14, a9_10) => cnd (decide (a9_0 < ((p_l).length : Int))) (bnd (S := (S_End × S_End × (List ByteArray) × (List ByteArray) × (List ByteArray) × (List ByteArray) × (List S_Frame) × S_End × S_End × (List ByteArray) × (List ByteArray) × (List ByteArray) × (List ByteArray) × (List S_Frame)) ⊕ (S_A2_party × Bool)) (gd (0 ≤ a9_0 ∧ a9_0 < ((p_l).length : Int)) (bnd (some (Int.tmod (IntKind.i64.wrap ((p_l)[(a9_0).toNat]!.vSide)) (2 : Int))) fun x8 => gd (0 ≤ a9_0 ∧ a9_0 < ((p_l).length : Int)) (cnd (decide ((Int.tmod ((p_l)[(a9_0).toNat]!.vKind) (7 : Int)) = (0 : Int))) (bnd (S := ByteArray) (cnd (decide (x8 = 0)) (bnd (g_law42_word x8 ((a9_3).length : Int)) fun x14 => some (x14)) (gd (0 ≤ x8 ∧ x8 < 2) (bnd (g_law42_word x8 ((a9_8).length : Int)) fun x18 => some (x18)))) fun a27_0 => bnd (S := Int × S_End) (cnd (decide (x8 = 0)) (bnd (g_link_Send a9_1 a27_0) fun x22 => some ((x22.2, x22.1))) (gd (0 ≤ x8 ∧ x8 < 2) (bnd (g_link_Send a9_6 a27_0) fun x26 => some ((x26.2, x26.1))))) fun (a29_0, a29_1) => cnd (decide (a29_0 = (0 : Int))) (bnd (S := S_End × S_End) (cnd (decide (x8 = 0)) (some ((a29_1, a9_6))) (gd (0 ≤ x8 ∧ x8 < 2) (some ((a9_1, a29_1))))) fun (a34_0, a34_1) => cnd (decide (x8 = 0)) (gd (0 ≤ (0 : Int) ∧ (0 : Int) ≤ ((a9_3).length : Int) ∧ ((a9_3).length : Int) ≤ ((a9_3).length : Int)) (gd (((subL a9_3 (0 : Int) ((a9_3).length : Int)) ++ [a27_0]).length * 16 ≤ 140737488355328) (some (.inl (a34_0, a9_2, (subL a9_3 (0 : Int) ((a9_3).length : Int)) ++ [a27_0], a9_4, a9_11, a9_12, a9_5, a34_1, a9_7, a9_8, a9_9, a9_13, a9_14, a9_10))))) (gd (0 ≤ x8 ∧ x8 < 2) (gd (0 ≤ (0 : Int) ∧ (0 : Int) ≤ ((a9_8).length : Int) ∧ ((a9_8).length : Int) ≤ ((a9_8).length : Int)) (gd (((subL a9_8 (0 : Int) ((a9_8).length : Int)) ++ [a27_0]).length * 16 ≤ 140737488355328) (some (.inl (a34_0, a9_2, a9_3, a9_4, a9_11, a9_12, a9_5, a34_1, a9_7, (subL a9_8 (0 : Int) ((a9_8).length : Int)) ++ [a27_0], a9_9, a9_13, a9_14, a9_10))))))) (some (.inl (a9_1, a9_2, a9_3, a9_4, a9_11, a9_12, a9_5, a9_6, a9_7, a9_8, a9_9, a9_13, a9_14, a9_10)))) (cnd (decide ((Int.tmod ((p_l)[(a9_0).toNat]!.vKind) (7 : Int)) = (1 : Int))) (bnd (S := Bool) (cnd (decide (IntKind.i64.wrap ((1 : Int) - x8) = 0)) (some (decide (((a9_5).length : Int) < (100 : Int)))) (gd (0 ≤ IntKind.i64.wrap ((1 : Int) - x8) ∧ IntKind.i64.wrap ((1 : Int) - x8) < 2) (some (decide (((a9_10).length : Int) < (100 : Int)))))) fun a41_0 => cnd a41_0 (cnd (decide (IntKind.i64.wrap ((1 : Int) - x8) = 0)) (cnd (decide (x8 = 0)) (bnd (g_link_Frames a9_2) fun x49 => gd ((a9_5 ++ x49).length * 32 ≤ 140737488355328) (some (.inl (a9_1, a9_2, a9_3, a9_4, a9_11, a9_12, a9_5 ++ x49, a9_6, a9_7, a9_8, a9_9, a9_13, a9_14, a9_10)))) (gd (0 ≤ x8 ∧ x8 < 2) (bnd (g_link_Frames a9_7) fun x54 => gd ((a9_5 ++ x54).length * 32 ≤ 140737488355328) (some (.inl (a9_1, a9_2, a9_3, a9_4, a9_11, a9_12, a9_5 ++ x54, a9_6, a9_7, a9_8, a9_9, a9_13, a9_14, a9_10)))))) (gd (0 ≤ IntKind.i64.wrap ((1 : Int) - x8) ∧ IntKind.i64.wrap ((1 : Int) - x8) < 2) (cnd (decide (x8 = 0)) (bnd (g_link_Frames a9_2) fun x60 => gd ((a9_10 ++ x60).length * 32 ≤ 140737488355328) (some (.inl (a9_1, a9_2, a9_3, a9_4, a9_11, a9_12, a9_5, a9_6, a9_7, a9_8, a9_9, a9_13, a9_14, a9_10 ++ x60)))) (gd (0 ≤ x8 ∧ x8 < 2) (bnd (g_link_Frames a9_7) fun x65 => gd ((a9_10 ++ x65).length * 32 ≤ 140737488355328) (some (.inl (a9_1, a9_2, a9_3, a9_4, a9_11, a9_12, a9_5, a9_6, a9_7, a9_8, a9_9, a9_13, a9_14, a9_10 ++ x65)))))))) (some (.inl (a9_1, a9_2, a9_3, a9_4, a9_11, a9_12, a9_5, a9_6, a9_7, a9_8, a9_9, a9_13, a9_14, a9_10)))) (bnd (S := Bool) (cnd (decide ((Int.tmod ((p_l)[(a9_0).toNat]!.vKind) (7 : Int)) = (2 : Int))) (some (decide ((Int.tmod ((p_l)[(a9_0).toNat]!.vKind) (7 : Int)) = (2 : Int)))) (cnd (decide ((Int.tmod ((p_l)[(a9_0).toNat]!.vKind) (7 : Int)) = (3 : Int))) (some (decide ((Int.tmod ((p_l)[(a9_0).toNat]!.vKind) (7 : Int)) = (3 : Int)))) (some (decide ((Int.tmod ((p_l)[(a9_0).toNat]!.vKind) (7 : Int)) = (4 : Int)))))) fun a46_0 => cnd a46_0 (bnd (S := Bool) (cnd (decide (x8 = 0)) (some (decide (((a9_5).length : Int) = (0 : Int)))) (gd (0 ≤ x8 ∧ x8 < 2) (some (decide (((a9_10).length : Int) = (0 : Int)))))) fun a58_0 => cnd a58_0 (some (.inl (a9_1, a9_2, a9_3, a9_4, a9_11, a9_12, a9_5, a9_6, a9_7, a9_8, a9_9, a9_13, a9_14, a9_10))) (bnd (S := Int) (gd (0 ≤ a9_0 ∧ a9_0 < ((p_l).length : Int)) (cnd (decide (x8 = 0)) (gd (((a9_5).length : Int) ≠ 0) (bnd (some (Int.tmod (IntKind.i64.wrap ((p_l)[(a9_0).toNat]!.vN)) ((a9_5).length : Int))) fun x81 => some (x81))) (gd (0 ≤ x8 ∧ x8 < 2) (gd (((a9_10).length : Int) ≠ 0) (bnd (some (Int.tmod (IntKind.i64.wrap ((p_l)[(a9_0).toNat]!.vN)) ((a9_10).length : Int))) fun x86 => some (x86)))))) fun a63_0 => bnd (S := S_End × (List ByteArray) × S_End × (List ByteArray)) (gd (0 ≤ a9_0 ∧ a9_0 < ((p_l).length : Int)) (cnd (decide ((Int.tmod ((p_l)[(a9_0).toNat]!.vKind) (7 : Int)) ≠ (4 : Int))) (bnd (S := (List ByteArray) × S_End) (cnd (decide (x8 = 0)) (gd (0 ≤ a63_0 ∧ a63_0 < ((a9_5).length : Int)) (bnd (g_link_Receive a9_1 ((a9_5)[(a63_0).toNat]!)) fun x95 => some ((x95.2, x95.1)))) (gd (0 ≤ x8 ∧ x8 < 2) (gd (0 ≤ a63_0 ∧ a63_0 < ((a9_10).length : Int)) (bnd (g_link_Receive a9_6 ((a9_10)[(a63_0).toNat]!)) fun x101 => some ((x101.2, x101.1)))))) fun (a69_0, a69_1) => bnd (S := S_End × S_End) (cnd (decide (x8 = 0)) (some ((a69_1, a9_6))) (gd (0 ≤ x8 ∧ x8 < 2) (some ((a9_1, a69_1))))) fun (a71_0, a71_1) => cnd (decide (x8 = 0)) (gd (0 ≤ (0 : Int) ∧ (0 : Int) ≤ ((a9_4).length : Int) ∧ ((a9_4).length : Int) ≤ ((a9_4).length : Int)) (cnd (decide (0 < (a69_0).length)) (gd (((subL a9_4 (0 : Int) ((a9_4).length : Int)) ++ a69_0).length * 16 ≤ 140737488355328) (some ((a71_0, (subL a9_4 (0 : Int) ((a9_4).length : Int)) ++ a69_0, a71_1, a9_9)))) (some ((a71_0, subL a9_4 (0 : Int) ((a9_4).length : Int), a71_1, a9_9))))) (gd (0 ≤ x8 ∧ x8 < 2) (gd (0 ≤ (0 : Int) ∧ (0 : Int) ≤ ((a9_9).length : Int) ∧ ((a9_9).length : Int) ≤ ((a9_9).length : Int)) (cnd (decide (0 < (a69_0).length)) (gd (((subL a9_9 (0 : Int) ((a9_9).length : Int)) ++ a69_0).length * 16 ≤ 140737488355328) (some ((a71_0, a9_4, a71_1, (subL a9_9 (0 : Int) ((a9_9).length : Int)) ++ a69_0)))) (some ((a71_0, a9_4, a71_1, subL a9_9 (0 : Int) ((a9_9).length : Int)))))))) (some ((a9_1, a9_4, a9_6, a9_9))))) fun (a65_0, a65_1, a65_2, a65_3) => gd (0 ≤ a9_0 ∧ a9_0 < ((p_l).length : Int)) (cnd (decide ((Int.tmod ((p_l)[(a9_0).toNat]!.vKind) (7 : Int)) ≠ (3 : Int))) (cnd (decide (x8 = 0)) (gd (0 ≤ (0 : Int) ∧ (0 : Int) ≤ a63_0 ∧ a63_0 ≤ ((a9_5).length : Int)) (gd ((([] : List S_Frame) ++ (subL a9_5 (0 : Int) a63_0)).length * 32 ≤ 140737488355328) (gd (0 ≤ IntKind.i64.wrap (a63_0 + (1 : Int)) ∧ IntKind.i64.wrap (a63_0 + (1 : Int)) ≤ ((a9_5).length : Int) ∧ ((a9_5).length : Int) ≤ ((a9_5).length : Int)) (gd (((([] : List S_Frame) ++ (subL a9_5 (0 : Int) a63_0)) ++ (subL a9_5 (IntKind.i64.wrap (a63_0 + (1 : Int))) ((a9_5).length : Int))).length * 32 ≤ 140737488355328) (some (.inl (a65_0, a9_2, a9_3, a65_1, a9_11, a9_12, (([] : List S_Frame) ++ (subL a9_5 (0 : Int) a63_0)) ++ (subL a9_5 (IntKind.i64.wrap (a63_0 + (1 : Int))) ((a9_5).length : Int)), a65_2, a9_7, a9_8, a65_3, a9_13, a9_14, a9_10))))))) (gd (0 ≤ x8 ∧ x8 < 2) (gd (0 ≤ (0 : Int) ∧ (0 : Int) ≤ a63_0 ∧ a63_0 ≤ ((a9_10).length : Int)) (gd ((([] : List S_Frame) ++ (subL a9_10 (0 : Int) a63_0)).length * 32 ≤ 140737488355328) (gd (0 ≤ IntKind.i64.wrap (a63_0 + (1 : Int)) ∧ IntKind.i64.wrap (a63_0 + (1 : Int)) ≤ ((a9_10).length : Int) ∧ ((a9_10).length : Int) ≤ ((a9_10).length : Int)) (gd (((([] : List S_Frame) ++ (subL a9_10 (0 : Int) a63_0)) ++ (subL a9_10 (IntKind.i64.wrap (a63_0 + (1 : Int))) ((a9_10).length : Int))).length * 32 ≤ 140737488355328) (some (.inl (a65_0, a9_2, a9_3, a65_1, a9_11, a9_12, a9_5, a65_2, a9_7, a9_8, a65_3, a9_13, a9_14, (([] : List S_Frame) ++ (subL a9_10 (0 : Int) a63_0)) ++ (subL a9_10 (IntKind.i64.wrap (a63_0 + (1 : Int))) ((a9_10).length : Int))))))))))) (some (.inl (a65_0, a9_2, a9_3, a65_1, a9_11, a9_12, a9_5, a65_2, a9_7, a9_8, a65_3, a9_13, a9_14, a9_10)))))) (cnd (decide ((Int.tmod ((p_l)[(a9_0).toNat]!.vKind) (7 : Int)) = (5 : Int))) (bnd (S := (List Int) × Int) (cnd (decide (x8 = 0)) (bnd (g_link_Pack a9_1) fun x134 => some ((x134.1, x134.2))) (gd (0 ≤ x8 ∧ x8 < 2) (bnd (g_link_Pack a9_6) fun x138 => some ((x138.1, x138.2))))) fun (a83_0, a83_1) => bnd (g_link_Unpack a83_0) fun x141 => bnd (S := Bool) (cnd (decide (a83_1 ≠ (0 : Int))) (some (true)) (some (decide (x141.2 ≠ (0 : Int))))) fun a88_0 => cnd a88_0 (some (.inr ((⟨(⟨a9_1, a9_2, a9_3, a9_4, a9_11, a9_12, a9_5⟩ : S_party), (⟨a9_6, a9_7, a9_8, a9_9, a9_13, a9_14, a9_10⟩ : S_party)⟩ : S_A2_party), false))) (bnd (S := S_End × S_End) (cnd (decide (x8 = 0)) (some ((x141.1, a9_7))) (gd (0 ≤ x8 ∧ x8 < 2) (some ((a9_2, x141.1))))) fun (a95_0, a95_1) => bnd (S := (List ByteArray) × (List ByteArray)) (cnd (decide (x8 = 0)) (some ((a9_3, a9_13))) (gd (0 ≤ x8 ∧ x8 < 2) (some ((a9_11, a9_8))))) fun (a97_0, a97_1) => cnd (decide (x8 = 0)) (some (.inl (a9_1, a95_0, a9_3, a9_4, a97_0, a9_4, a9_5, a9_6, a95_1, a9_8, a9_9, a97_1, a9_14, a9_10))) (gd (0 ≤ x8 ∧ x8 < 2) (some (.inl (a9_1, a95_0, a9_3, a9_4, a97_0, a9_12, a9_5, a9_6, a95_1, a9_8, a9_9, a97_1, a9_9, a9_10)))))) (bnd (S := S_End × S_End) (cnd (decide (x8 = 0)) (some ((a9_2, a9_6))) (gd (0 ≤ x8 ∧ x8 < 2) (some ((a9_1, a9_7))))) fun (a100_0, a100_1) => bnd (S := (List ByteArray) × (List ByteArray)) (cnd (decide (x8 = 0)) (some ((a9_11, a9_8))) (gd (0 ≤ x8 ∧ x8 < 2) (some ((a9_3, a9_13))))) fun (a102_0, a102_1) => cnd (decide (x8 = 0)) (some (.inl (a100_0, a9_2, a102_0, a9_12, a9_11, a9_12, a9_5, a100_1, a9_7, a102_1, a9_9, a9_13, a9_14, a9_10))) (gd (0 ≤ x8 ∧ x8 < 2) (some (.inl (a100_0, a9_2, a102_0, a9_4, a9_11, a9_12, a9_5, a100_1, a9_7, a102_1, a9_14, a9_13, a9_14, a9_10))))))))))) fun y168 => match y168 with | .inl (a17_0, a17_1, a17_2, a17_3, a17_4, a17_5, a17_6, a17_7, a17_8, a17_9, a17_10, a17_11, a17_12, a17_13) => some (.inl (IntKind.i64.wrap (a9_0 + (1 : Int)), a17_0, a17_1, a17_2, a17_3, a17_4, a17_5, a17_6, a17_7, a17_8, a17_9, a17_10, a17_11, a17_12, a17_13)) | .inr r => some (.inr (.inl r))) (some (.inr (.inr (a9_1, a9_2, a9_3, a9_4, a9_11, a9_12, a9_5, a9_6, a9_7, a9_8, a9_9, a9_13, a9_14, a9_10))))
noncomputable def g_law42_run (p_l : List S_Op) : Option (S_A2_party × Bool) := bnd (g_law42_fresh) fun x1 => bnd (g_law42_fresh) fun x3 => bnd (loopO (g_law42_run_l9 p_l) ((0 : Int), (⟨x1.vx.vBase, ([] : List ByteArray), x1.vx.vWant, ([] : List S_Held)⟩ : S_End), (⟨x1.vold.vBase, ([] : List ByteArray), x1.vold.vWant, ([] : List S_Held)⟩ : S_End), ([] : List ByteArray), ([] : List ByteArray), ([] : List ByteArray), ([] : List ByteArray), ([] : List S_Frame), (⟨x3.vx.vBase, ([] : List ByteArray), x3.vx.vWant, ([] : List S_Held)⟩ : S_End), (⟨x3.vold.vBase, ([] : List ByteArray), x3.vold.vWant, ([] : List S_Held)⟩ : S_End), ([] : List ByteArray), ([] : List ByteArray), ([] : List ByteArray), ([] : List ByteArray), ([] : List S_Frame))) fun y169 => match y169 with | .inl r => some r | .inr (a9e0_0, a9e0_1, a9e0_2, a9e0_3, a9e0_4, a9e0_5, a9e0_6, a9e0_7, a9e0_8, a9e0_9, a9e0_10, a9e0_11, a9e0_12, a9e0_13) => some ((⟨(⟨a9e0_0, a9e0_1, a9e0_2, a9e0_3, a9e0_4, a9e0_5, a9e0_6⟩ : S_party), (⟨a9e0_7, a9e0_8, a9e0_9, a9e0_10, a9e0_11, a9e0_12, a9e0_13⟩ : S_party)⟩ : S_A2_party), true)
set_option maxHeartbeats 4000000 in
theorem w_law42_run {p_l : List S_Op} {r : S_A2_party × Bool} (h : g_law42_run p_l = some r) : PCalls Try.prog 29 [dL c_Op p_l] (.tu [dG c_A2_party r.1, dB r.2]) := by
  refine PCalls.of (rs := [.cell 2 69, .tmp 3]) tok Try.func29 rfl rfl (Nat.le_of_ble_eq_true rfl) rfl (fun cx hx h0 => ?_)
  simp only [argsT, Nat.reduceAdd, Nat.zero_add]
  unfold g_law42_run at h
  refine AW.seq ?_
  refine rg hx (by kernel_rfl) fun K hK => ?_
  refine s1 (d := .pt 0 0) (T_alloc tb_69) ?_
  refine s1 (d := dB false) T_asg ?_
  refine .nil (hK _ _ ?_)
  refine AW.seq ?_
  refine rg hx (by kernel_rfl) fun K hK => ?_
  obtain ⟨x1, hx2, h⟩ := bnd_some h
  refine s1 (d := .ag [dI .i64 x1.vx.vBase, dN, dI .i64 x1.vx.vWant, dN, dI .i64 x1.vold.vBase, dN, dI .i64 x1.vold.vWant, dN, dN, dN, dN, dN, dN]) (T_call rfl (w_law42_fresh hx2) rfl lAn (.inl rfl)) ?_
  obtain ⟨x3, hx4, h⟩ := bnd_some h
  refine s1 (d := .ag [dI .i64 x3.vx.vBase, dN, dI .i64 x3.vx.vWant, dN, dI .i64 x3.vold.vBase, dN, dI .i64 x3.vold.vWant, dN, dN, dN, dN, dN, dN]) (T_call rfl (w_law42_fresh hx4) rfl lAn (.inl rfl)) ?_
  refine s1 (d := .ag [dI .i64 x1.vx.vBase, dN, dI .i64 x1.vx.vWant, dN, dI .i64 x1.vold.vBase, dN, dI .i64 x1.vold.vWant, dN, dN, dN, dN, dN, dN, dI .i64 x3.vx.vBase, dN, dI .i64 x3.vx.vWant, dN, dI .i64 x3.vold.vBase, dN, dI .i64 x3.vold.vWant, dN, dN, dN, dN, dN, dN]) (T_buildA tb_69 tb_68) ?_
  refine s1 (d := .pt 1 0) (T_alloc tb_69) ?_
  refine s0 (T_st (ds' := [dI .i64 x1.vx.vBase, dN, dI .i64 x1.vx.vWant, dN, dI .i64 x1.vold.vBase, dN, dI .i64 x1.vold.vWant, dN, dN, dN, dN, dN, dN, dI .i64 x3.vx.vBase, dN, dI .i64 x3.vx.vWant, dN, dI .i64 x3.vold.vBase, dN, dI .i64 x3.vold.vWant, dN, dN, dN, dN, dN, dN]) tb_69) ?_
  refine .nil (hK _ _ ?_)
  iterate 2 refine AW.seq ?_
  refine rg hx (by kernel_rfl) fun K hK => ?_
  refine s1 (d := dI .i64 (0 : Int)) T_asg ?_
  refine .nil (hK _ _ ?_)
  refine AW.block ?_
  obtain ⟨y, hy, h⟩ := bnd_some h
  refine lp (S := Int × S_End × S_End × (List ByteArray) × (List ByteArray) × (List ByteArray) × (List ByteArray) × (List S_Frame) × S_End × S_End × (List ByteArray) × (List ByteArray) × (List ByteArray) × (List ByteArray) × (List S_Frame)) (X := (S_A2_party × Bool) ⊕ (S_End × S_End × (List ByteArray) × (List ByteArray) × (List ByteArray) × (List ByteArray) × (List S_Frame) × S_End × S_End × (List ByteArray) × (List ByteArray) × (List ByteArray) × (List ByteArray) × (List S_Frame))) (fun (a9_0, a9_1, a9_2, a9_3, a9_4, a9_11, a9_12, a9_5, a9_6, a9_7, a9_8, a9_9, a9_13, a9_14, a9_10) => [(0, dL c_Op p_l), (2, .pt 0 0), (4, .pt 1 0), (5, dI .i64 a9_0)]) (fun (a9_0, a9_1, a9_2, a9_3, a9_4, a9_11, a9_12, a9_5, a9_6, a9_7, a9_8, a9_9, a9_13, a9_14, a9_10) => ⟨[(0, [dI .i64 (0 : Int), dN, dI .i64 (0 : Int), dN, dI .i64 (0 : Int), dN, dI .i64 (0 : Int), dN, dN, dN, dN, dN, dN, dI .i64 (0 : Int), dN, dI .i64 (0 : Int), dN, dI .i64 (0 : Int), dN, dI .i64 (0 : Int), dN, dN, dN, dN, dN, dN]), (1, [dI .i64 a9_1.vBase, dL cS a9_1.vQueue, dI .i64 a9_1.vWant, dL c_Held a9_1.vHeld, dI .i64 a9_2.vBase, dL cS a9_2.vQueue, dI .i64 a9_2.vWant, dL c_Held a9_2.vHeld, dL cS a9_3, dL cS a9_4, dL cS a9_11, dL cS a9_12, dO 2 c_Frame a9_5, dI .i64 a9_6.vBase, dL cS a9_6.vQueue, dI .i64 a9_6.vWant, dL c_Held a9_6.vHeld, dI .i64 a9_7.vBase, dL cS a9_7.vQueue, dI .i64 a9_7.vWant, dL c_Held a9_7.vHeld, dL cS a9_8, dL cS a9_9, dL cS a9_13, dL cS a9_14, dO 3 c_Frame a9_10])], [(2, (a9_5).length, 3, 27), (3, (a9_10).length, 3, 27)], 4⟩) (PS (PR [.cell 2 69, .tmp 3] fun r => .tu [dG c_A2_party r.1, dB r.2]) (PE cx (.exit 0) (fun (a9e0_0, a9e0_1, a9e0_2, a9e0_3, a9e0_4, a9e0_5, a9e0_6, a9e0_7, a9e0_8, a9e0_9, a9e0_10, a9e0_11, a9e0_12, a9e0_13) => [(2, .pt 0 0), (4, .pt 1 0)]) fun (a9e0_0, a9e0_1, a9e0_2, a9e0_3, a9e0_4, a9e0_5, a9e0_6, a9e0_7, a9e0_8, a9e0_9, a9e0_10, a9e0_11, a9e0_12, a9e0_13) => ⟨[(0, [dI .i64 (0 : Int), dN, dI .i64 (0 : Int), dN, dI .i64 (0 : Int), dN, dI .i64 (0 : Int), dN, dN, dN, dN, dN, dN, dI .i64 (0 : Int), dN, dI .i64 (0 : Int), dN, dI .i64 (0 : Int), dN, dI .i64 (0 : Int), dN, dN, dN, dN, dN, dN]), (1, [dI .i64 a9e0_0.vBase, dL cS a9e0_0.vQueue, dI .i64 a9e0_0.vWant, dL c_Held a9e0_0.vHeld, dI .i64 a9e0_1.vBase, dL cS a9e0_1.vQueue, dI .i64 a9e0_1.vWant, dL c_Held a9e0_1.vHeld, dL cS a9e0_2, dL cS a9e0_3, dL cS a9e0_4, dL cS a9e0_5, dO 2 c_Frame a9e0_6, dI .i64 a9e0_7.vBase, dL cS a9e0_7.vQueue, dI .i64 a9e0_7.vWant, dL c_Held a9e0_7.vHeld, dI .i64 a9e0_8.vBase, dL cS a9e0_8.vQueue, dI .i64 a9e0_8.vWant, dL c_Held a9e0_8.vHeld, dL cS a9e0_9, dL cS a9e0_10, dL cS a9e0_11, dL cS a9e0_12, dO 3 c_Frame a9e0_13])], [(2, (a9e0_6).length, 3, 27), (3, (a9e0_13).length, 3, 27)], 4⟩)) hy ?_ ?_ ?_
  exact Wk.trans (Wk.nilOwn (ds' := [dI .i64 x1.vx.vBase, dN, dI .i64 x1.vx.vWant, dN, dI .i64 x1.vold.vBase, dN, dI .i64 x1.vold.vWant, dN, dN, dN, dN, dN, dO 2 c_Frame ([] : List S_Frame), dI .i64 x3.vx.vBase, dN, dI .i64 x3.vx.vWant, dN, dI .i64 x3.vold.vBase, dN, dI .i64 x3.vold.vWant, dN, dN, dN, dN, dN, dN]) 1 12 27 3) (Wk.trans (Wk.nilOwn (ds' := [dI .i64 x1.vx.vBase, dN, dI .i64 x1.vx.vWant, dN, dI .i64 x1.vold.vBase, dN, dI .i64 x1.vold.vWant, dN, dN, dN, dN, dN, dO 2 c_Frame ([] : List S_Frame), dI .i64 x3.vx.vBase, dN, dI .i64 x3.vx.vWant, dN, dI .i64 x3.vold.vBase, dN, dI .i64 x3.vold.vWant, dN, dN, dN, dN, dN, dO 3 c_Frame ([] : List S_Frame)]) 1 25 27 3) (wk h0 [0, 1, 2, 3] (wR rfl (wR rfl (wR rfl (wR rfl wTn)))) (vR rfl (wV rfl rfl (wc (lc_r _) (wc (lc_n rfl) (wc (lc_r _) (wc (lc_n rfl) (wc (lc_r _) (wc (lc_n rfl) (wc (lc_r _) (wc (lc_n rfl) (wc (lc_n rfl) (wc (lc_n rfl) (wc (lc_n rfl) (wc (lc_n rfl) (wc (lc_r _) (wc (lc_r _) (wc (lc_n rfl) (wc (lc_r _) (wc (lc_n rfl) (wc (lc_r _) (wc (lc_n rfl) (wc (lc_r _) (wc (lc_n rfl) (wc (lc_n rfl) (wc (lc_n rfl) (wc (lc_n rfl) (wc (lc_n rfl) (wc (lc_r _) wcn)))))))))))))))))))))))))) rfl rfl wVn)) (wL rfl rfl (wL rfl rfl wLn))))
  clear hy h
  rintro ⟨a9_0, a9_1, a9_2, a9_3, a9_4, a9_11, a9_12, a9_5, a9_6, a9_7, a9_8, a9_9, a9_13, a9_14, a9_10⟩ y h
  dsimp only [g_law42_run_l9] at h
  iterate 2 refine AW.seq ?_
  refine rg hx (by kernel_rfl) fun K hK => ?_
  iterate 2 refine s1 T_mv ?_
  refine s1 (d := dI .i64 ((p_l).length : Int)) (T_len tb_48 tb_55) ?_
  refine s1 T_lss ?_
  refine .nil (hK _ _ ?_)
  refine AW.condS rfl (fun hb5 => ?_) (fun hb5 => ?_)
  replace h := cnd_t hb5 h
  refine AW.skip ?_
  refine AW.seq ?_
  obtain ⟨y, hy, h⟩ := bnd_some h
  refine jn ((PS (PE cx .normal (fun (a17_0, a17_1, a17_2, a17_3, a17_4, a17_5, a17_6, a17_7, a17_8, a17_9, a17_10, a17_11, a17_12, a17_13) => [(0, dL c_Op p_l), (2, .pt 0 0), (4, .pt 1 0), (5, dI .i64 a9_0)]) fun (a17_0, a17_1, a17_2, a17_3, a17_4, a17_5, a17_6, a17_7, a17_8, a17_9, a17_10, a17_11, a17_12, a17_13) => ⟨[(0, [dI .i64 (0 : Int), dN, dI .i64 (0 : Int), dN, dI .i64 (0 : Int), dN, dI .i64 (0 : Int), dN, dN, dN, dN, dN, dN, dI .i64 (0 : Int), dN, dI .i64 (0 : Int), dN, dI .i64 (0 : Int), dN, dI .i64 (0 : Int), dN, dN, dN, dN, dN, dN]), (1, [dI .i64 a17_0.vBase, dL cS a17_0.vQueue, dI .i64 a17_0.vWant, dL c_Held a17_0.vHeld, dI .i64 a17_1.vBase, dL cS a17_1.vQueue, dI .i64 a17_1.vWant, dL c_Held a17_1.vHeld, dL cS a17_2, dL cS a17_3, dL cS a17_4, dL cS a17_5, dO 2 c_Frame a17_6, dI .i64 a17_7.vBase, dL cS a17_7.vQueue, dI .i64 a17_7.vWant, dL c_Held a17_7.vHeld, dI .i64 a17_8.vBase, dL cS a17_8.vQueue, dI .i64 a17_8.vWant, dL c_Held a17_8.vHeld, dL cS a17_9, dL cS a17_10, dL cS a17_11, dL cS a17_12, dO 3 c_Frame a17_13])], [(2, (a17_6).length, 3, 27), (3, (a17_13).length, 3, 27)], 4⟩) (PR [.cell 2 69, .tmp 3] fun r => .tu [dG c_A2_party r.1, dB r.2])) y) ?_ ?_
  replace h := hy
  refine AW.block ?_
  refine AW.seq ?_
  refine rg hx (by kernel_rfl) fun K hK => ?_
  iterate 2 refine s1 T_mv ?_
  obtain ⟨hc6, h⟩ := gd_some h
  have hn7 : (a9_0).toNat < (p_l).length := by omega
  refine s1 (T_iaS hc6 tb_48 tb_55) ?_
  refine s1 (T_faF tb_55 tb_5) ?_
  refine s1 (d := dI .u8 ((p_l)[(a9_0).toNat]!.vSide)) (T_ldF (c := c_Op) (l := p_l) (n := (a9_0).toNat) (o := 1) tb_5 hn7) ?_
  refine s1 (d := dI .i64 (IntKind.i64.wrap ((p_l)[(a9_0).toNat]!.vSide))) (T_cvI tb_5 tb_3) ?_
  refine s1 (T_rem (b := (2 : Int)) (by decide)) ?_
  obtain ⟨x8, hx9, h⟩ := bnd_some h
  replace hx9 := Option.some.inj hx9
  refine s2 (d2 := dI .i64 x8) T_as (le_eq (congrArg (dI .i64) hx9)) ?_
  refine .nil (hK _ _ ?_)
  refine AW.seq ?_
  refine rg hx (by kernel_rfl) fun K hK => ?_
  iterate 2 refine s1 T_mv ?_
  obtain ⟨hc10, h⟩ := gd_some h
  have hn11 : (a9_0).toNat < (p_l).length := by omega
  refine s1 (T_iaS hc10 tb_48 tb_55) ?_
  refine s1 (T_faF tb_55 tb_5) ?_
  refine s1 (d := dI .u8 ((p_l)[(a9_0).toNat]!.vKind)) (T_ldF (c := c_Op) (l := p_l) (n := (a9_0).toNat) (o := 0) tb_5 hn11) ?_
  refine s1 (T_rem (b := (7 : Int)) (by decide)) ?_
  refine .nil (hK _ _ ?_)
  refine AW.block ?_
  refine AW.seq ?_
  refine rg hx (by kernel_rfl) fun K hK => ?_
  refine s1 T_eql ?_
  refine s1 T_as ?_
  refine .nil (hK _ _ ?_)
  refine AW.condS rfl (fun hb12 => ?_) (fun hb12 => ?_)
  replace h := cnd_t hb12 h
  refine AW.seq ?_
  obtain ⟨a27_0, hy, h⟩ := bnd_some h
  refine jn ((PE cx .normal (fun a27_0 => [(0, dL c_Op p_l), (2, .pt 0 0), (4, .pt 1 0), (5, dI .i64 a9_0), (6, dI .i64 x8), (7, dS a27_0)]) fun a27_0 => ⟨[(0, [dI .i64 (0 : Int), dN, dI .i64 (0 : Int), dN, dI .i64 (0 : Int), dN, dI .i64 (0 : Int), dN, dN, dN, dN, dN, dN, dI .i64 (0 : Int), dN, dI .i64 (0 : Int), dN, dI .i64 (0 : Int), dN, dI .i64 (0 : Int), dN, dN, dN, dN, dN, dN]), (1, [dI .i64 a9_1.vBase, dL cS a9_1.vQueue, dI .i64 a9_1.vWant, dL c_Held a9_1.vHeld, dI .i64 a9_2.vBase, dL cS a9_2.vQueue, dI .i64 a9_2.vWant, dL c_Held a9_2.vHeld, dL cS a9_3, dL cS a9_4, dL cS a9_11, dL cS a9_12, dO 2 c_Frame a9_5, dI .i64 a9_6.vBase, dL cS a9_6.vQueue, dI .i64 a9_6.vWant, dL c_Held a9_6.vHeld, dI .i64 a9_7.vBase, dL cS a9_7.vQueue, dI .i64 a9_7.vWant, dL c_Held a9_7.vHeld, dL cS a9_8, dL cS a9_9, dL cS a9_13, dL cS a9_14, dO 3 c_Frame a9_10])], [(2, (a9_5).length, 3, 27), (3, (a9_10).length, 3, 27)], 4⟩) a27_0) ?_ ?_
  replace h := hy
  refine rg hx (by kernel_rfl) fun K hK => ?_
  iterate 2 refine s1 T_mv ?_
  rcases Bool.eq_false_or_eq_true (decide (x8 = 0)) with hb13 | hb13
  replace h := cnd_t hb13 h
  refine s1 (T_iaK (n0 := 0) (n := 2) (v := x8) (of_decide_eq_true hb13) (by have := of_decide_eq_true hb13; omega) tb_69 tb_68) ?_
  refine s1 (T_faP tb_68 tb_22) ?_
  refine s1 (d := dL cS a9_3) (T_ldC tb_22) ?_
  refine s1 (d := dI .i64 ((a9_3).length : Int)) (T_len tb_22 tb_9) ?_
  obtain ⟨x14, hx15, h⟩ := bnd_some h
  refine s1 (d := dS x14) (T_call rfl (w_law42_word hx15) rfl (lA (le_refl' _) (lA (le_refl' _) lAn)) (.inl rfl)) ?_
  refine s1 T_as ?_
  refine .nil (hK _ _ ?_)
  obtain rfl := Option.some.inj h
  exact PE.i (wk h0 [0, 1, 2, 3] (wR rfl (wR rfl (wR rfl (wR rfl (wR rfl (wR rfl wTn)))))) (vR rfl (vR rfl wVn)) (wL rfl rfl (wL rfl rfl wLn)))
  replace h := cnd_f hb13 h
  obtain ⟨hc16, h⟩ := gd_some h
  have hv17 : x8 = (1 : Int) := by have := of_decide_eq_false hb13; omega
  refine s1 (T_iaK (n0 := 1) hv17 hc16 tb_69 tb_68) ?_
  refine s1 (T_faP tb_68 tb_22) ?_
  refine s1 (d := dL cS a9_8) (T_ldC tb_22) ?_
  refine s1 (d := dI .i64 ((a9_8).length : Int)) (T_len tb_22 tb_9) ?_
  obtain ⟨x18, hx19, h⟩ := bnd_some h
  refine s1 (d := dS x18) (T_call rfl (w_law42_word hx19) rfl (lA (le_refl' _) (lA (le_refl' _) lAn)) (.inl rfl)) ?_
  refine s1 T_as ?_
  refine .nil (hK _ _ ?_)
  obtain rfl := Option.some.inj h
  exact PE.i (wk h0 [0, 1, 2, 3] (wR rfl (wR rfl (wR rfl (wR rfl (wR rfl (wR rfl wTn)))))) (vR rfl (vR rfl wVn)) (wL rfl rfl (wL rfl rfl wLn)))
  rintro ex tm' hp' ⟨rfl, hw⟩
  refine AW.weak hw ?_
  refine AW.seq ?_
  obtain ⟨y, hy, h⟩ := bnd_some h
  refine jn ((PE cx .normal (fun (a29_0, a29_1) => [(0, dL c_Op p_l), (2, .pt 0 0), (4, .pt 1 0), (5, dI .i64 a9_0), (6, dI .i64 x8), (7, dS a27_0), (8, .pt 2 0), (9, dI .i64 a29_0)]) fun (a29_0, a29_1) => ⟨[(0, [dI .i64 (0 : Int), dN, dI .i64 (0 : Int), dN, dI .i64 (0 : Int), dN, dI .i64 (0 : Int), dN, dN, dN, dN, dN, dN, dI .i64 (0 : Int), dN, dI .i64 (0 : Int), dN, dI .i64 (0 : Int), dN, dI .i64 (0 : Int), dN, dN, dN, dN, dN, dN]), (1, [dI .i64 a9_1.vBase, dL cS a9_1.vQueue, dI .i64 a9_1.vWant, dL c_Held a9_1.vHeld, dI .i64 a9_2.vBase, dL cS a9_2.vQueue, dI .i64 a9_2.vWant, dL c_Held a9_2.vHeld, dL cS a9_3, dL cS a9_4, dL cS a9_11, dL cS a9_12, dO 3 c_Frame a9_5, dI .i64 a9_6.vBase, dL cS a9_6.vQueue, dI .i64 a9_6.vWant, dL c_Held a9_6.vHeld, dI .i64 a9_7.vBase, dL cS a9_7.vQueue, dI .i64 a9_7.vWant, dL c_Held a9_7.vHeld, dL cS a9_8, dL cS a9_9, dL cS a9_13, dL cS a9_14, dO 4 c_Frame a9_10]), (2, [dI .i64 a29_1.vBase, dL cS a29_1.vQueue, dI .i64 a29_1.vWant, dL c_Held a29_1.vHeld])], [(3, (a9_5).length, 3, 27), (4, (a9_10).length, 3, 27)], 5⟩) y) ?_ ?_
  replace h := hy
  refine rg hx (by kernel_rfl) fun K hK => ?_
  refine s1 T_mv ?_
  rcases Bool.eq_false_or_eq_true (decide (x8 = 0)) with hb21 | hb21
  replace h := cnd_t hb21 h
  refine s1 (T_iaK (n0 := 0) (n := 2) (v := x8) (of_decide_eq_true hb21) (by have := of_decide_eq_true hb21; omega) tb_69 tb_68) ?_
  refine s1 (T_faP tb_68 tb_25) ?_
  refine s1 (d := dG c_End a9_1) (T_ldA tb_25) ?_
  refine s1 T_mv ?_
  obtain ⟨x22, hx23, h⟩ := bnd_some h
  refine s1 (T_call rfl (w_link_Send hx23) (by simp only [List.map_cons, List.map_nil, List.all_cons, List.all_nil, Bool.and_true, Bool.and_eq_true]; exact ⟨pure_ex_G _ _, rfl⟩) (lA (le_refl' _) (lA (le_refl' _) lAn)) (.inr ⟨_, rfl⟩)) ?_
  refine s1 T_mv ?_
  iterate 2 refine s1 T_ext ?_
  refine s1 (d := .pt 4 0) (T_alloc tb_25) ?_
  refine s0 (T_st (ds' := [dI .i64 x22.1.vBase, dL cS x22.1.vQueue, dI .i64 x22.1.vWant, dL c_Held x22.1.vHeld]) tb_25) ?_
  refine s1 T_as ?_
  refine .nil (hK _ _ ?_)
  obtain rfl := Option.some.inj h
  exact PE.i (wk h0 [0, 1, 4, 2, 3] (wR rfl (wR rfl (wR rfl (wR rfl (wR rfl (wR rfl (wR rfl (wR rfl wTn)))))))) (vR rfl (vR rfl (vR rfl wVn))) (wL rfl rfl (wL rfl rfl wLn)))
  replace h := cnd_f hb21 h
  obtain ⟨hc24, h⟩ := gd_some h
  have hv25 : x8 = (1 : Int) := by have := of_decide_eq_false hb21; omega
  refine s1 (T_iaK (n0 := 1) hv25 hc24 tb_69 tb_68) ?_
  refine s1 (T_faP tb_68 tb_25) ?_
  refine s1 (d := dG c_End a9_6) (T_ldA tb_25) ?_
  refine s1 T_mv ?_
  obtain ⟨x26, hx27, h⟩ := bnd_some h
  refine s1 (T_call rfl (w_link_Send hx27) (by simp only [List.map_cons, List.map_nil, List.all_cons, List.all_nil, Bool.and_true, Bool.and_eq_true]; exact ⟨pure_ex_G _ _, rfl⟩) (lA (le_refl' _) (lA (le_refl' _) lAn)) (.inr ⟨_, rfl⟩)) ?_
  refine s1 T_mv ?_
  iterate 2 refine s1 T_ext ?_
  refine s1 (d := .pt 4 0) (T_alloc tb_25) ?_
  refine s0 (T_st (ds' := [dI .i64 x26.1.vBase, dL cS x26.1.vQueue, dI .i64 x26.1.vWant, dL c_Held x26.1.vHeld]) tb_25) ?_
  refine s1 T_as ?_
  refine .nil (hK _ _ ?_)
  obtain rfl := Option.some.inj h
  exact PE.i (wk h0 [0, 1, 4, 2, 3] (wR rfl (wR rfl (wR rfl (wR rfl (wR rfl (wR rfl (wR rfl (wR rfl wTn)))))))) (vR rfl (vR rfl (vR rfl wVn))) (wL rfl rfl (wL rfl rfl wLn)))
  obtain ⟨a29_0, a29_1⟩ := y
  rintro ex tm' hp' ⟨rfl, hw⟩
  refine AW.weak hw ?_
  refine AW.seq ?_
  refine rg hx (by kernel_rfl) fun K hK => ?_
  refine s1 T_mv ?_
  refine s1 T_eql ?_
  refine .nil (hK _ _ ?_)
  refine AW.condS rfl (fun hb29 => ?_) (fun hb29 => ?_)
  replace h := cnd_t hb29 h
  refine AW.seq ?_
  obtain ⟨y, hy, h⟩ := bnd_some h
  refine jn ((PE cx .normal (fun (a34_0, a34_1) => [(0, dL c_Op p_l), (2, .pt 0 0), (4, .pt 1 0), (5, dI .i64 a9_0), (6, dI .i64 x8), (7, dS a27_0)]) fun (a34_0, a34_1) => ⟨[(0, [dI .i64 (0 : Int), dN, dI .i64 (0 : Int), dN, dI .i64 (0 : Int), dN, dI .i64 (0 : Int), dN, dN, dN, dN, dN, dN, dI .i64 (0 : Int), dN, dI .i64 (0 : Int), dN, dI .i64 (0 : Int), dN, dI .i64 (0 : Int), dN, dN, dN, dN, dN, dN]), (1, [dI .i64 a34_0.vBase, dL cS a34_0.vQueue, dI .i64 a34_0.vWant, dL c_Held a34_0.vHeld, dI .i64 a9_2.vBase, dL cS a9_2.vQueue, dI .i64 a9_2.vWant, dL c_Held a9_2.vHeld, dL cS a9_3, dL cS a9_4, dL cS a9_11, dL cS a9_12, dO 2 c_Frame a9_5, dI .i64 a34_1.vBase, dL cS a34_1.vQueue, dI .i64 a34_1.vWant, dL c_Held a34_1.vHeld, dI .i64 a9_7.vBase, dL cS a9_7.vQueue, dI .i64 a9_7.vWant, dL c_Held a9_7.vHeld, dL cS a9_8, dL cS a9_9, dL cS a9_13, dL cS a9_14, dO 3 c_Frame a9_10])], [(2, (a9_5).length, 3, 27), (3, (a9_10).length, 3, 27)], 4⟩) y) ?_ ?_
  replace h := hy
  refine rg hx (by kernel_rfl) fun K hK => ?_
  refine s1 T_mv ?_
  refine s1 (d := dG c_End a29_1) (T_ldA tb_25) ?_
  rcases Bool.eq_false_or_eq_true (decide (x8 = 0)) with hb30 | hb30
  replace h := cnd_t hb30 h
  refine s1 (T_iaK (n0 := 0) (n := 2) (v := x8) (of_decide_eq_true hb30) (by have := of_decide_eq_true hb30; omega) tb_69 tb_68) ?_
  refine s1 (T_faP tb_68 tb_25) ?_
  refine s0 (T_st (ds' := [dI .i64 a29_1.vBase, dL cS a29_1.vQueue, dI .i64 a29_1.vWant, dL c_Held a29_1.vHeld, dI .i64 a9_2.vBase, dL cS a9_2.vQueue, dI .i64 a9_2.vWant, dL c_Held a9_2.vHeld, dL cS a9_3, dL cS a9_4, dL cS a9_11, dL cS a9_12, dO 3 c_Frame a9_5, dI .i64 a9_6.vBase, dL cS a9_6.vQueue, dI .i64 a9_6.vWant, dL c_Held a9_6.vHeld, dI .i64 a9_7.vBase, dL cS a9_7.vQueue, dI .i64 a9_7.vWant, dL c_Held a9_7.vHeld, dL cS a9_8, dL cS a9_9, dL cS a9_13, dL cS a9_14, dO 4 c_Frame a9_10]) tb_25) ?_
  refine .nil (hK _ _ ?_)
  obtain rfl := Option.some.inj h
  exact PE.i (wk h0 [0, 1, 3, 4] (wR rfl (wR rfl (wR rfl (wR rfl (wR rfl (wR rfl wTn)))))) (vR rfl (vR rfl wVn)) (wL rfl rfl (wL rfl rfl wLn)))
  replace h := cnd_f hb30 h
  obtain ⟨hc31, h⟩ := gd_some h
  have hv32 : x8 = (1 : Int) := by have := of_decide_eq_false hb30; omega
  refine s1 (T_iaK (n0 := 1) hv32 hc31 tb_69 tb_68) ?_
  refine s1 (T_faP tb_68 tb_25) ?_
  refine s0 (T_st (ds' := [dI .i64 a9_1.vBase, dL cS a9_1.vQueue, dI .i64 a9_1.vWant, dL c_Held a9_1.vHeld, dI .i64 a9_2.vBase, dL cS a9_2.vQueue, dI .i64 a9_2.vWant, dL c_Held a9_2.vHeld, dL cS a9_3, dL cS a9_4, dL cS a9_11, dL cS a9_12, dO 3 c_Frame a9_5, dI .i64 a29_1.vBase, dL cS a29_1.vQueue, dI .i64 a29_1.vWant, dL c_Held a29_1.vHeld, dI .i64 a9_7.vBase, dL cS a9_7.vQueue, dI .i64 a9_7.vWant, dL c_Held a9_7.vHeld, dL cS a9_8, dL cS a9_9, dL cS a9_13, dL cS a9_14, dO 4 c_Frame a9_10]) tb_25) ?_
  refine .nil (hK _ _ ?_)
  obtain rfl := Option.some.inj h
  exact PE.i (wk h0 [0, 1, 3, 4] (wR rfl (wR rfl (wR rfl (wR rfl (wR rfl (wR rfl wTn)))))) (vR rfl (vR rfl wVn)) (wL rfl rfl (wL rfl rfl wLn)))
  obtain ⟨a34_0, a34_1⟩ := y
  rintro ex tm' hp' ⟨rfl, hw⟩
  refine AW.weak hw ?_
  refine rd [] hx (by kernel_rfl) (by kernel_rfl) fun K hK => ?_
  iterate 2 refine s1 T_mv ?_
  rcases Bool.eq_false_or_eq_true (decide (x8 = 0)) with hb34 | hb34
  replace h := cnd_t hb34 h
  refine s1 (T_iaK (n0 := 0) (n := 2) (v := x8) (of_decide_eq_true hb34) (by have := of_decide_eq_true hb34; omega) tb_69 tb_68) ?_
  refine s1 (T_faP tb_68 tb_22) ?_
  refine s1 (d := dL cS a9_3) (T_ldC tb_22) ?_
  refine s1 T_mv ?_
  refine s1 (T_iaK (n0 := 0) (n := 2) (v := x8) (of_decide_eq_true hb34) (by have := of_decide_eq_true hb34; omega) tb_69 tb_68) ?_
  refine s1 (T_faP tb_68 tb_22) ?_
  refine s1 (d := dL cS a9_3) (T_ldC tb_22) ?_
  refine s1 (d := dI .i64 ((a9_3).length : Int)) (T_len tb_22 tb_9) ?_
  refine s1 T_mv ?_
  refine s1 (T_iaK (n0 := 0) (n := 2) (v := x8) (of_decide_eq_true hb34) (by have := of_decide_eq_true hb34; omega) tb_69 tb_68) ?_
  refine s1 (T_faP tb_68 tb_22) ?_
  refine s1 (d := dL cS a9_3) (T_ldC tb_22) ?_
  refine s1 (d := dI .i64 ((a9_3).length : Int)) (T_len tb_22 tb_9) ?_
  obtain ⟨hc35, h⟩ := gd_some h
  refine s1 (T_slF (c := cS) (l := a9_3) (a := (0 : Int)) (b := ((a9_3).length : Int)) hc35 tb_22 tb_9) ?_
  refine s1 T_mv ?_
  refine s1 (T_bslD tb_22 tb_9) ?_
  obtain ⟨hc36, h⟩ := gd_some h
  refine s1 (d := dO 4 cS ((subL a9_3 (0 : Int) ((a9_3).length : Int)) ++ [a27_0])) (T_appF tb_22 tb_9 hc36 (by simp)) ?_
  refine s1 (T_iaK (n0 := 0) (n := 2) (v := x8) (of_decide_eq_true hb34) (by have := of_decide_eq_true hb34; omega) tb_69 tb_68) ?_
  refine s1 (T_faP tb_68 tb_22) ?_
  refine s0 (T_st (ds' := [dI .i64 a34_0.vBase, dL cS a34_0.vQueue, dI .i64 a34_0.vWant, dL c_Held a34_0.vHeld, dI .i64 a9_2.vBase, dL cS a9_2.vQueue, dI .i64 a9_2.vWant, dL c_Held a9_2.vHeld, dO 4 cS ((subL a9_3 (0 : Int) ((a9_3).length : Int)) ++ [a27_0]), dL cS a9_4, dL cS a9_11, dL cS a9_12, dO 2 c_Frame a9_5, dI .i64 a34_1.vBase, dL cS a34_1.vQueue, dI .i64 a34_1.vWant, dL c_Held a34_1.vHeld, dI .i64 a9_7.vBase, dL cS a9_7.vQueue, dI .i64 a9_7.vWant, dL c_Held a9_7.vHeld, dL cS a9_8, dL cS a9_9, dL cS a9_13, dL cS a9_14, dO 3 c_Frame a9_10]) tb_22) ?_
  refine .nil (hK _ _ ?_)
  obtain rfl := Option.some.inj h
  exact PS.l (PE.i (wk h0 [0, 1, 2, 3] (wR rfl (wR rfl (wR rfl (wR rfl wTn)))) (vR rfl (wV rfl rfl (wc (lc_r _) (wc (lc_r _) (wc (lc_r _) (wc (lc_r _) (wc (lc_r _) (wc (lc_r _) (wc (lc_r _) (wc (lc_r _) (wc (lc_x _) (wc (lc_r _) (wc (lc_r _) (wc (lc_r _) (wc (lc_r _) (wc (lc_r _) (wc (lc_r _) (wc (lc_r _) (wc (lc_r _) (wc (lc_r _) (wc (lc_r _) (wc (lc_r _) (wc (lc_r _) (wc (lc_r _) (wc (lc_r _) (wc (lc_r _) (wc (lc_r _) (wc (lc_r _) wcn)))))))))))))))))))))))))) rfl rfl wVn)) (wL rfl rfl (wL rfl rfl wLn))))
  replace h := cnd_f hb34 h
  obtain ⟨hc37, h⟩ := gd_some h
  have hv38 : x8 = (1 : Int) := by have := of_decide_eq_false hb34; omega
  refine s1 (T_iaK (n0 := 1) hv38 hc37 tb_69 tb_68) ?_
  refine s1 (T_faP tb_68 tb_22) ?_
  refine s1 (d := dL cS a9_8) (T_ldC tb_22) ?_
  refine s1 T_mv ?_
  refine s1 (T_iaK (n0 := 1) (n := 2) (v := x8) (hv38) (by have := hv38; omega) tb_69 tb_68) ?_
  refine s1 (T_faP tb_68 tb_22) ?_
  refine s1 (d := dL cS a9_8) (T_ldC tb_22) ?_
  refine s1 (d := dI .i64 ((a9_8).length : Int)) (T_len tb_22 tb_9) ?_
  refine s1 T_mv ?_
  refine s1 (T_iaK (n0 := 1) (n := 2) (v := x8) (hv38) (by have := hv38; omega) tb_69 tb_68) ?_
  refine s1 (T_faP tb_68 tb_22) ?_
  refine s1 (d := dL cS a9_8) (T_ldC tb_22) ?_
  refine s1 (d := dI .i64 ((a9_8).length : Int)) (T_len tb_22 tb_9) ?_
  obtain ⟨hc39, h⟩ := gd_some h
  refine s1 (T_slF (c := cS) (l := a9_8) (a := (0 : Int)) (b := ((a9_8).length : Int)) hc39 tb_22 tb_9) ?_
  refine s1 T_mv ?_
  refine s1 (T_bslD tb_22 tb_9) ?_
  obtain ⟨hc40, h⟩ := gd_some h
  refine s1 (d := dO 4 cS ((subL a9_8 (0 : Int) ((a9_8).length : Int)) ++ [a27_0])) (T_appF tb_22 tb_9 hc40 (by simp)) ?_
  refine s1 (T_iaK (n0 := 1) (n := 2) (v := x8) (hv38) (by have := hv38; omega) tb_69 tb_68) ?_
  refine s1 (T_faP tb_68 tb_22) ?_
  refine s0 (T_st (ds' := [dI .i64 a34_0.vBase, dL cS a34_0.vQueue, dI .i64 a34_0.vWant, dL c_Held a34_0.vHeld, dI .i64 a9_2.vBase, dL cS a9_2.vQueue, dI .i64 a9_2.vWant, dL c_Held a9_2.vHeld, dL cS a9_3, dL cS a9_4, dL cS a9_11, dL cS a9_12, dO 2 c_Frame a9_5, dI .i64 a34_1.vBase, dL cS a34_1.vQueue, dI .i64 a34_1.vWant, dL c_Held a34_1.vHeld, dI .i64 a9_7.vBase, dL cS a9_7.vQueue, dI .i64 a9_7.vWant, dL c_Held a9_7.vHeld, dO 4 cS ((subL a9_8 (0 : Int) ((a9_8).length : Int)) ++ [a27_0]), dL cS a9_9, dL cS a9_13, dL cS a9_14, dO 3 c_Frame a9_10]) tb_22) ?_
  refine .nil (hK _ _ ?_)
  obtain rfl := Option.some.inj h
  exact PS.l (PE.i (wk h0 [0, 1, 2, 3] (wR rfl (wR rfl (wR rfl (wR rfl wTn)))) (vR rfl (wV rfl rfl (wc (lc_r _) (wc (lc_r _) (wc (lc_r _) (wc (lc_r _) (wc (lc_r _) (wc (lc_r _) (wc (lc_r _) (wc (lc_r _) (wc (lc_r _) (wc (lc_r _) (wc (lc_r _) (wc (lc_r _) (wc (lc_r _) (wc (lc_r _) (wc (lc_r _) (wc (lc_r _) (wc (lc_r _) (wc (lc_r _) (wc (lc_r _) (wc (lc_r _) (wc (lc_r _) (wc (lc_x _) (wc (lc_r _) (wc (lc_r _) (wc (lc_r _) (wc (lc_r _) wcn)))))))))))))))))))))))))) rfl rfl wVn)) (wL rfl rfl (wL rfl rfl wLn))))
  replace h := cnd_f hb29 h
  refine AW.skip ?_
  obtain rfl := Option.some.inj h
  exact PS.l (PE.i (wk h0 [0, 1, 3, 4] (wR rfl (wR rfl (wR rfl (wR rfl wTn)))) (vR rfl (vR rfl wVn)) (wL rfl rfl (wL rfl rfl wLn))))
  replace h := cnd_f hb12 h
  refine AW.seq ?_
  refine rg hx (by kernel_rfl) fun K hK => ?_
  refine s1 T_eql ?_
  refine s1 T_as ?_
  refine .nil (hK _ _ ?_)
  refine AW.condS rfl (fun hb41 => ?_) (fun hb41 => ?_)
  replace h := cnd_t hb41 h
  refine AW.seq ?_
  obtain ⟨a41_0, hy, h⟩ := bnd_some h
  refine jn ((PE cx .normal (fun a41_0 => [(0, dL c_Op p_l), (2, .pt 0 0), (4, .pt 1 0), (5, dI .i64 a9_0), (6, dI .i64 x8), (113, dB a41_0)]) fun a41_0 => ⟨[(0, [dI .i64 (0 : Int), dN, dI .i64 (0 : Int), dN, dI .i64 (0 : Int), dN, dI .i64 (0 : Int), dN, dN, dN, dN, dN, dN, dI .i64 (0 : Int), dN, dI .i64 (0 : Int), dN, dI .i64 (0 : Int), dN, dI .i64 (0 : Int), dN, dN, dN, dN, dN, dN]), (1, [dI .i64 a9_1.vBase, dL cS a9_1.vQueue, dI .i64 a9_1.vWant, dL c_Held a9_1.vHeld, dI .i64 a9_2.vBase, dL cS a9_2.vQueue, dI .i64 a9_2.vWant, dL c_Held a9_2.vHeld, dL cS a9_3, dL cS a9_4, dL cS a9_11, dL cS a9_12, dO 2 c_Frame a9_5, dI .i64 a9_6.vBase, dL cS a9_6.vQueue, dI .i64 a9_6.vWant, dL c_Held a9_6.vHeld, dI .i64 a9_7.vBase, dL cS a9_7.vQueue, dI .i64 a9_7.vWant, dL c_Held a9_7.vHeld, dL cS a9_8, dL cS a9_9, dL cS a9_13, dL cS a9_14, dO 3 c_Frame a9_10])], [(2, (a9_5).length, 3, 27), (3, (a9_10).length, 3, 27)], 4⟩) a41_0) ?_ ?_
  replace h := hy
  refine rg hx (by kernel_rfl) fun K hK => ?_
  refine s1 T_mv ?_
  refine s1 T_sub ?_
  rcases Bool.eq_false_or_eq_true (decide (IntKind.i64.wrap ((1 : Int) - x8) = 0)) with hb42 | hb42
  replace h := cnd_t hb42 h
  refine s1 (T_iaK (n0 := 0) (n := 2) (v := IntKind.i64.wrap ((1 : Int) - x8)) (of_decide_eq_true hb42) (by have := of_decide_eq_true hb42; omega) tb_69 tb_68) ?_
  refine s1 (T_faP tb_68 tb_45) ?_
  refine s1 (d := dO 2 c_Frame a9_5) (T_ldC tb_45) ?_
  refine s1 (d := dI .i64 ((a9_5).length : Int)) (T_len tb_45 tb_27) ?_
  refine s1 T_lss ?_
  refine .nil (hK _ _ ?_)
  obtain rfl := Option.some.inj h
  exact PE.i (wk h0 [0, 1, 2, 3] (wR rfl (wR rfl (wR rfl (wR rfl (wR rfl (wR rfl wTn)))))) (vR rfl (vR rfl wVn)) (wL rfl rfl (wL rfl rfl wLn)))
  replace h := cnd_f hb42 h
  obtain ⟨hc43, h⟩ := gd_some h
  have hv44 : IntKind.i64.wrap ((1 : Int) - x8) = (1 : Int) := by have := of_decide_eq_false hb42; omega
  refine s1 (T_iaK (n0 := 1) hv44 hc43 tb_69 tb_68) ?_
  refine s1 (T_faP tb_68 tb_45) ?_
  refine s1 (d := dO 3 c_Frame a9_10) (T_ldC tb_45) ?_
  refine s1 (d := dI .i64 ((a9_10).length : Int)) (T_len tb_45 tb_27) ?_
  refine s1 T_lss ?_
  refine .nil (hK _ _ ?_)
  obtain rfl := Option.some.inj h
  exact PE.i (wk h0 [0, 1, 2, 3] (wR rfl (wR rfl (wR rfl (wR rfl (wR rfl (wR rfl wTn)))))) (vR rfl (vR rfl wVn)) (wL rfl rfl (wL rfl rfl wLn)))
  rintro ex tm' hp' ⟨rfl, hw⟩
  refine AW.weak hw ?_
  refine AW.condS rfl (fun hb46 => ?_) (fun hb46 => ?_)
  replace h := cnd_t hb46 h
  refine rd [] hx (by kernel_rfl) (by kernel_rfl) fun K hK => ?_
  refine s1 T_mv ?_
  refine s1 T_sub ?_
  refine s1 T_mv ?_
  refine s1 T_sub ?_
  rcases Bool.eq_false_or_eq_true (decide (IntKind.i64.wrap ((1 : Int) - x8) = 0)) with hb47 | hb47
  replace h := cnd_t hb47 h
  refine s1 (T_iaK (n0 := 0) (n := 2) (v := IntKind.i64.wrap ((1 : Int) - x8)) (of_decide_eq_true hb47) (by have := of_decide_eq_true hb47; omega) tb_69 tb_68) ?_
  refine s1 (T_faP tb_68 tb_45) ?_
  refine s1 (d := dO 2 c_Frame a9_5) (T_ldC tb_45) ?_
  refine s1 T_mv ?_
  rcases Bool.eq_false_or_eq_true (decide (x8 = 0)) with hb48 | hb48
  replace h := cnd_t hb48 h
  refine s1 (T_iaK (n0 := 0) (n := 2) (v := x8) (of_decide_eq_true hb48) (by have := of_decide_eq_true hb48; omega) tb_69 tb_68) ?_
  refine s1 (T_faP tb_68 tb_25) ?_
  refine s1 (d := dG c_End a9_2) (T_ldA tb_25) ?_
  obtain ⟨x49, hx50, h⟩ := bnd_some h
  refine s1 (d := dO 4 c_Frame x49) (T_callO rfl (w_link_Frames hx50) (by simp only [List.map_cons, List.map_nil, List.all_cons, List.all_nil, Bool.and_true, Bool.and_eq_true]; exact pure_ex_G _ _) (lA (le_refl' _) lAn)) ?_
  obtain ⟨hc51, h⟩ := gd_some h
  refine s1 (d := dO 2 c_Frame (a9_5 ++ x49)) (T_appO tb_45 tb_27 hc51) ?_
  refine s1 (T_iaK (n0 := 0) (n := 2) (v := IntKind.i64.wrap ((1 : Int) - x8)) (of_decide_eq_true hb47) (by have := of_decide_eq_true hb47; omega) tb_69 tb_68) ?_
  refine s1 (T_faP tb_68 tb_45) ?_
  refine s0 (T_st (ds' := [dI .i64 a9_1.vBase, dL cS a9_1.vQueue, dI .i64 a9_1.vWant, dL c_Held a9_1.vHeld, dI .i64 a9_2.vBase, dL cS a9_2.vQueue, dI .i64 a9_2.vWant, dL c_Held a9_2.vHeld, dL cS a9_3, dL cS a9_4, dL cS a9_11, dL cS a9_12, dO 2 c_Frame (a9_5 ++ x49), dI .i64 a9_6.vBase, dL cS a9_6.vQueue, dI .i64 a9_6.vWant, dL c_Held a9_6.vHeld, dI .i64 a9_7.vBase, dL cS a9_7.vQueue, dI .i64 a9_7.vWant, dL c_Held a9_7.vHeld, dL cS a9_8, dL cS a9_9, dL cS a9_13, dL cS a9_14, dO 3 c_Frame a9_10]) tb_45) ?_
  refine .nil (hK _ _ ?_)
  obtain rfl := Option.some.inj h
  exact PS.l (PE.i (wk h0 [0, 1, 2, 3] (wR rfl (wR rfl (wR rfl (wR rfl wTn)))) (vR rfl (vR rfl wVn)) (wL rfl rfl (wL rfl rfl wLn))))
  replace h := cnd_f hb48 h
  obtain ⟨hc52, h⟩ := gd_some h
  have hv53 : x8 = (1 : Int) := by have := of_decide_eq_false hb48; omega
  refine s1 (T_iaK (n0 := 1) hv53 hc52 tb_69 tb_68) ?_
  refine s1 (T_faP tb_68 tb_25) ?_
  refine s1 (d := dG c_End a9_7) (T_ldA tb_25) ?_
  obtain ⟨x54, hx55, h⟩ := bnd_some h
  refine s1 (d := dO 4 c_Frame x54) (T_callO rfl (w_link_Frames hx55) (by simp only [List.map_cons, List.map_nil, List.all_cons, List.all_nil, Bool.and_true, Bool.and_eq_true]; exact pure_ex_G _ _) (lA (le_refl' _) lAn)) ?_
  obtain ⟨hc56, h⟩ := gd_some h
  refine s1 (d := dO 2 c_Frame (a9_5 ++ x54)) (T_appO tb_45 tb_27 hc56) ?_
  refine s1 (T_iaK (n0 := 0) (n := 2) (v := IntKind.i64.wrap ((1 : Int) - x8)) (of_decide_eq_true hb47) (by have := of_decide_eq_true hb47; omega) tb_69 tb_68) ?_
  refine s1 (T_faP tb_68 tb_45) ?_
  refine s0 (T_st (ds' := [dI .i64 a9_1.vBase, dL cS a9_1.vQueue, dI .i64 a9_1.vWant, dL c_Held a9_1.vHeld, dI .i64 a9_2.vBase, dL cS a9_2.vQueue, dI .i64 a9_2.vWant, dL c_Held a9_2.vHeld, dL cS a9_3, dL cS a9_4, dL cS a9_11, dL cS a9_12, dO 2 c_Frame (a9_5 ++ x54), dI .i64 a9_6.vBase, dL cS a9_6.vQueue, dI .i64 a9_6.vWant, dL c_Held a9_6.vHeld, dI .i64 a9_7.vBase, dL cS a9_7.vQueue, dI .i64 a9_7.vWant, dL c_Held a9_7.vHeld, dL cS a9_8, dL cS a9_9, dL cS a9_13, dL cS a9_14, dO 3 c_Frame a9_10]) tb_45) ?_
  refine .nil (hK _ _ ?_)
  obtain rfl := Option.some.inj h
  exact PS.l (PE.i (wk h0 [0, 1, 2, 3] (wR rfl (wR rfl (wR rfl (wR rfl wTn)))) (vR rfl (vR rfl wVn)) (wL rfl rfl (wL rfl rfl wLn))))
  replace h := cnd_f hb47 h
  obtain ⟨hc57, h⟩ := gd_some h
  have hv58 : IntKind.i64.wrap ((1 : Int) - x8) = (1 : Int) := by have := of_decide_eq_false hb47; omega
  refine s1 (T_iaK (n0 := 1) hv58 hc57 tb_69 tb_68) ?_
  refine s1 (T_faP tb_68 tb_45) ?_
  refine s1 (d := dO 3 c_Frame a9_10) (T_ldC tb_45) ?_
  refine s1 T_mv ?_
  rcases Bool.eq_false_or_eq_true (decide (x8 = 0)) with hb59 | hb59
  replace h := cnd_t hb59 h
  refine s1 (T_iaK (n0 := 0) (n := 2) (v := x8) (of_decide_eq_true hb59) (by have := of_decide_eq_true hb59; omega) tb_69 tb_68) ?_
  refine s1 (T_faP tb_68 tb_25) ?_
  refine s1 (d := dG c_End a9_2) (T_ldA tb_25) ?_
  obtain ⟨x60, hx61, h⟩ := bnd_some h
  refine s1 (d := dO 4 c_Frame x60) (T_callO rfl (w_link_Frames hx61) (by simp only [List.map_cons, List.map_nil, List.all_cons, List.all_nil, Bool.and_true, Bool.and_eq_true]; exact pure_ex_G _ _) (lA (le_refl' _) lAn)) ?_
  obtain ⟨hc62, h⟩ := gd_some h
  refine s1 (d := dO 3 c_Frame (a9_10 ++ x60)) (T_appO tb_45 tb_27 hc62) ?_
  refine s1 (T_iaK (n0 := 1) (n := 2) (v := IntKind.i64.wrap ((1 : Int) - x8)) (hv58) (by have := hv58; omega) tb_69 tb_68) ?_
  refine s1 (T_faP tb_68 tb_45) ?_
  refine s0 (T_st (ds' := [dI .i64 a9_1.vBase, dL cS a9_1.vQueue, dI .i64 a9_1.vWant, dL c_Held a9_1.vHeld, dI .i64 a9_2.vBase, dL cS a9_2.vQueue, dI .i64 a9_2.vWant, dL c_Held a9_2.vHeld, dL cS a9_3, dL cS a9_4, dL cS a9_11, dL cS a9_12, dO 2 c_Frame a9_5, dI .i64 a9_6.vBase, dL cS a9_6.vQueue, dI .i64 a9_6.vWant, dL c_Held a9_6.vHeld, dI .i64 a9_7.vBase, dL cS a9_7.vQueue, dI .i64 a9_7.vWant, dL c_Held a9_7.vHeld, dL cS a9_8, dL cS a9_9, dL cS a9_13, dL cS a9_14, dO 3 c_Frame (a9_10 ++ x60)]) tb_45) ?_
  refine .nil (hK _ _ ?_)
  obtain rfl := Option.some.inj h
  exact PS.l (PE.i (wk h0 [0, 1, 2, 3] (wR rfl (wR rfl (wR rfl (wR rfl wTn)))) (vR rfl (vR rfl wVn)) (wL rfl rfl (wL rfl rfl wLn))))
  replace h := cnd_f hb59 h
  obtain ⟨hc63, h⟩ := gd_some h
  have hv64 : x8 = (1 : Int) := by have := of_decide_eq_false hb59; omega
  refine s1 (T_iaK (n0 := 1) hv64 hc63 tb_69 tb_68) ?_
  refine s1 (T_faP tb_68 tb_25) ?_
  refine s1 (d := dG c_End a9_7) (T_ldA tb_25) ?_
  obtain ⟨x65, hx66, h⟩ := bnd_some h
  refine s1 (d := dO 4 c_Frame x65) (T_callO rfl (w_link_Frames hx66) (by simp only [List.map_cons, List.map_nil, List.all_cons, List.all_nil, Bool.and_true, Bool.and_eq_true]; exact pure_ex_G _ _) (lA (le_refl' _) lAn)) ?_
  obtain ⟨hc67, h⟩ := gd_some h
  refine s1 (d := dO 3 c_Frame (a9_10 ++ x65)) (T_appO tb_45 tb_27 hc67) ?_
  refine s1 (T_iaK (n0 := 1) (n := 2) (v := IntKind.i64.wrap ((1 : Int) - x8)) (hv58) (by have := hv58; omega) tb_69 tb_68) ?_
  refine s1 (T_faP tb_68 tb_45) ?_
  refine s0 (T_st (ds' := [dI .i64 a9_1.vBase, dL cS a9_1.vQueue, dI .i64 a9_1.vWant, dL c_Held a9_1.vHeld, dI .i64 a9_2.vBase, dL cS a9_2.vQueue, dI .i64 a9_2.vWant, dL c_Held a9_2.vHeld, dL cS a9_3, dL cS a9_4, dL cS a9_11, dL cS a9_12, dO 2 c_Frame a9_5, dI .i64 a9_6.vBase, dL cS a9_6.vQueue, dI .i64 a9_6.vWant, dL c_Held a9_6.vHeld, dI .i64 a9_7.vBase, dL cS a9_7.vQueue, dI .i64 a9_7.vWant, dL c_Held a9_7.vHeld, dL cS a9_8, dL cS a9_9, dL cS a9_13, dL cS a9_14, dO 3 c_Frame (a9_10 ++ x65)]) tb_45) ?_
  refine .nil (hK _ _ ?_)
  obtain rfl := Option.some.inj h
  exact PS.l (PE.i (wk h0 [0, 1, 2, 3] (wR rfl (wR rfl (wR rfl (wR rfl wTn)))) (vR rfl (vR rfl wVn)) (wL rfl rfl (wL rfl rfl wLn))))
  replace h := cnd_f hb46 h
  refine AW.skip ?_
  obtain rfl := Option.some.inj h
  exact PS.l (PE.i (wk h0 [0, 1, 2, 3] (wR rfl (wR rfl (wR rfl (wR rfl wTn)))) (vR rfl (vR rfl wVn)) (wL rfl rfl (wL rfl rfl wLn))))
  replace h := cnd_f hb41 h
  refine AW.seq ?_
  obtain ⟨a46_0, hy, h⟩ := bnd_some h
  refine jn ((PE cx .normal (fun a46_0 => [(0, dL c_Op p_l), (2, .pt 0 0), (4, .pt 1 0), (5, dI .i64 a9_0), (6, dI .i64 x8), (38, dI .u8 (Int.tmod ((p_l)[(a9_0).toNat]!.vKind) (7 : Int))), (129, dB a46_0)]) fun a46_0 => ⟨[(0, [dI .i64 (0 : Int), dN, dI .i64 (0 : Int), dN, dI .i64 (0 : Int), dN, dI .i64 (0 : Int), dN, dN, dN, dN, dN, dN, dI .i64 (0 : Int), dN, dI .i64 (0 : Int), dN, dI .i64 (0 : Int), dN, dI .i64 (0 : Int), dN, dN, dN, dN, dN, dN]), (1, [dI .i64 a9_1.vBase, dL cS a9_1.vQueue, dI .i64 a9_1.vWant, dL c_Held a9_1.vHeld, dI .i64 a9_2.vBase, dL cS a9_2.vQueue, dI .i64 a9_2.vWant, dL c_Held a9_2.vHeld, dL cS a9_3, dL cS a9_4, dL cS a9_11, dL cS a9_12, dO 2 c_Frame a9_5, dI .i64 a9_6.vBase, dL cS a9_6.vQueue, dI .i64 a9_6.vWant, dL c_Held a9_6.vHeld, dI .i64 a9_7.vBase, dL cS a9_7.vQueue, dI .i64 a9_7.vWant, dL c_Held a9_7.vHeld, dL cS a9_8, dL cS a9_9, dL cS a9_13, dL cS a9_14, dO 3 c_Frame a9_10])], [(2, (a9_5).length, 3, 27), (3, (a9_10).length, 3, 27)], 4⟩) a46_0) ?_ ?_
  replace h := hy
  refine AW.seq ?_
  refine rg hx (by kernel_rfl) fun K hK => ?_
  refine s1 T_eql ?_
  refine s1 T_as ?_
  refine .nil (hK _ _ ?_)
  refine AW.condS rfl (fun hb68 => ?_) (fun hb68 => ?_)
  replace h := cnd_t hb68 h
  refine AW.skip ?_
  obtain rfl := Option.some.inj h
  exact PE.i (wk h0 [0, 1, 2, 3] (wR rfl (wR rfl (wR rfl (wR rfl (wR rfl (wR rfl (wR rfl wTn))))))) (vR rfl (vR rfl wVn)) (wL rfl rfl (wL rfl rfl wLn)))
  replace h := cnd_f hb68 h
  refine AW.seq ?_
  refine rg hx (by kernel_rfl) fun K hK => ?_
  refine s1 T_eql ?_
  refine s1 T_as ?_
  refine .nil (hK _ _ ?_)
  refine AW.condS rfl (fun hb69 => ?_) (fun hb69 => ?_)
  replace h := cnd_t hb69 h
  refine AW.skip ?_
  obtain rfl := Option.some.inj h
  exact PE.i (wk h0 [0, 1, 2, 3] (wR rfl (wR rfl (wR rfl (wR rfl (wR rfl (wR rfl (wR rfl wTn))))))) (vR rfl (vR rfl wVn)) (wL rfl rfl (wL rfl rfl wLn)))
  replace h := cnd_f hb69 h
  refine rg hx (by kernel_rfl) fun K hK => ?_
  refine s1 T_eql ?_
  refine s1 T_as ?_
  refine .nil (hK _ _ ?_)
  obtain rfl := Option.some.inj h
  exact PE.i (wk h0 [0, 1, 2, 3] (wR rfl (wR rfl (wR rfl (wR rfl (wR rfl (wR rfl (wR rfl wTn))))))) (vR rfl (vR rfl wVn)) (wL rfl rfl (wL rfl rfl wLn)))
  rintro ex tm' hp' ⟨rfl, hw⟩
  refine AW.weak hw ?_
  refine AW.condS rfl (fun hb71 => ?_) (fun hb71 => ?_)
  replace h := cnd_t hb71 h
  iterate 2 refine AW.seq ?_
  obtain ⟨a58_0, hy, h⟩ := bnd_some h
  refine jn ((PE cx .normal (fun a58_0 => [(0, dL c_Op p_l), (2, .pt 0 0), (4, .pt 1 0), (5, dI .i64 a9_0), (6, dI .i64 x8), (138, dB a58_0)]) fun a58_0 => ⟨[(0, [dI .i64 (0 : Int), dN, dI .i64 (0 : Int), dN, dI .i64 (0 : Int), dN, dI .i64 (0 : Int), dN, dN, dN, dN, dN, dN, dI .i64 (0 : Int), dN, dI .i64 (0 : Int), dN, dI .i64 (0 : Int), dN, dI .i64 (0 : Int), dN, dN, dN, dN, dN, dN]), (1, [dI .i64 a9_1.vBase, dL cS a9_1.vQueue, dI .i64 a9_1.vWant, dL c_Held a9_1.vHeld, dI .i64 a9_2.vBase, dL cS a9_2.vQueue, dI .i64 a9_2.vWant, dL c_Held a9_2.vHeld, dL cS a9_3, dL cS a9_4, dL cS a9_11, dL cS a9_12, dO 2 c_Frame a9_5, dI .i64 a9_6.vBase, dL cS a9_6.vQueue, dI .i64 a9_6.vWant, dL c_Held a9_6.vHeld, dI .i64 a9_7.vBase, dL cS a9_7.vQueue, dI .i64 a9_7.vWant, dL c_Held a9_7.vHeld, dL cS a9_8, dL cS a9_9, dL cS a9_13, dL cS a9_14, dO 3 c_Frame a9_10])], [(2, (a9_5).length, 3, 27), (3, (a9_10).length, 3, 27)], 4⟩) a58_0) ?_ ?_
  replace h := hy
  refine rg hx (by kernel_rfl) fun K hK => ?_
  refine s1 T_mv ?_
  rcases Bool.eq_false_or_eq_true (decide (x8 = 0)) with hb72 | hb72
  replace h := cnd_t hb72 h
  refine s1 (T_iaK (n0 := 0) (n := 2) (v := x8) (of_decide_eq_true hb72) (by have := of_decide_eq_true hb72; omega) tb_69 tb_68) ?_
  refine s1 (T_faP tb_68 tb_45) ?_
  refine s1 (d := dO 2 c_Frame a9_5) (T_ldC tb_45) ?_
  refine s1 (d := dI .i64 ((a9_5).length : Int)) (T_len tb_45 tb_27) ?_
  refine s1 T_eql ?_
  refine .nil (hK _ _ ?_)
  obtain rfl := Option.some.inj h
  exact PE.i (wk h0 [0, 1, 2, 3] (wR rfl (wR rfl (wR rfl (wR rfl (wR rfl (wR rfl wTn)))))) (vR rfl (vR rfl wVn)) (wL rfl rfl (wL rfl rfl wLn)))
  replace h := cnd_f hb72 h
  obtain ⟨hc73, h⟩ := gd_some h
  have hv74 : x8 = (1 : Int) := by have := of_decide_eq_false hb72; omega
  refine s1 (T_iaK (n0 := 1) hv74 hc73 tb_69 tb_68) ?_
  refine s1 (T_faP tb_68 tb_45) ?_
  refine s1 (d := dO 3 c_Frame a9_10) (T_ldC tb_45) ?_
  refine s1 (d := dI .i64 ((a9_10).length : Int)) (T_len tb_45 tb_27) ?_
  refine s1 T_eql ?_
  refine .nil (hK _ _ ?_)
  obtain rfl := Option.some.inj h
  exact PE.i (wk h0 [0, 1, 2, 3] (wR rfl (wR rfl (wR rfl (wR rfl (wR rfl (wR rfl wTn)))))) (vR rfl (vR rfl wVn)) (wL rfl rfl (wL rfl rfl wLn)))
  rintro ex tm' hp' ⟨rfl, hw⟩
  refine AW.weak hw ?_
  refine AW.condS rfl (fun hb76 => ?_) (fun hb76 => ?_)
  replace h := cnd_t hb76 h
  refine AW.exit ?_
  try dsimp only
  try simp only [if_true, reduceIte, Nat.reduceEqDiff, reduceCtorEq]
  obtain rfl := Option.some.inj h
  exact PS.l (PE.i (wk h0 [0, 1, 2, 3] (wR rfl (wR rfl (wR rfl (wR rfl wTn)))) (vR rfl (vR rfl wVn)) (wL rfl rfl (wL rfl rfl wLn))))
  replace h := cnd_f hb76 h
  refine AW.skip ?_
  refine AW.seq ?_
  obtain ⟨a63_0, hy, h⟩ := bnd_some h
  refine jn ((PE cx .normal (fun a63_0 => [(0, dL c_Op p_l), (2, .pt 0 0), (4, .pt 1 0), (5, dI .i64 a9_0), (6, dI .i64 x8), (10, dI .i64 a63_0)]) fun a63_0 => ⟨[(0, [dI .i64 (0 : Int), dN, dI .i64 (0 : Int), dN, dI .i64 (0 : Int), dN, dI .i64 (0 : Int), dN, dN, dN, dN, dN, dN, dI .i64 (0 : Int), dN, dI .i64 (0 : Int), dN, dI .i64 (0 : Int), dN, dI .i64 (0 : Int), dN, dN, dN, dN, dN, dN]), (1, [dI .i64 a9_1.vBase, dL cS a9_1.vQueue, dI .i64 a9_1.vWant, dL c_Held a9_1.vHeld, dI .i64 a9_2.vBase, dL cS a9_2.vQueue, dI .i64 a9_2.vWant, dL c_Held a9_2.vHeld, dL cS a9_3, dL cS a9_4, dL cS a9_11, dL cS a9_12, dO 2 c_Frame a9_5, dI .i64 a9_6.vBase, dL cS a9_6.vQueue, dI .i64 a9_6.vWant, dL c_Held a9_6.vHeld, dI .i64 a9_7.vBase, dL cS a9_7.vQueue, dI .i64 a9_7.vWant, dL c_Held a9_7.vHeld, dL cS a9_8, dL cS a9_9, dL cS a9_13, dL cS a9_14, dO 3 c_Frame a9_10])], [(2, (a9_5).length, 3, 27), (3, (a9_10).length, 3, 27)], 4⟩) a63_0) ?_ ?_
  replace h := hy
  refine rd [] hx (by kernel_rfl) (by kernel_rfl) fun K hK => ?_
  iterate 2 refine s1 T_mv ?_
  obtain ⟨hc77, h⟩ := gd_some h
  have hn78 : (a9_0).toNat < (p_l).length := by omega
  refine s1 (T_iaS hc77 tb_48 tb_55) ?_
  refine s1 (T_faF tb_55 tb_53) ?_
  refine s1 (d := dI .u16 ((p_l)[(a9_0).toNat]!.vN)) (T_ldF (c := c_Op) (l := p_l) (n := (a9_0).toNat) (o := 2) tb_53 hn78) ?_
  refine s1 (d := dI .i64 (IntKind.i64.wrap ((p_l)[(a9_0).toNat]!.vN))) (T_cvI tb_53 tb_3) ?_
  refine s1 T_mv ?_
  rcases Bool.eq_false_or_eq_true (decide (x8 = 0)) with hb79 | hb79
  replace h := cnd_t hb79 h
  refine s1 (T_iaK (n0 := 0) (n := 2) (v := x8) (of_decide_eq_true hb79) (by have := of_decide_eq_true hb79; omega) tb_69 tb_68) ?_
  refine s1 (T_faP tb_68 tb_45) ?_
  refine s1 (d := dO 2 c_Frame a9_5) (T_ldC tb_45) ?_
  refine s1 (d := dI .i64 ((a9_5).length : Int)) (T_len tb_45 tb_27) ?_
  obtain ⟨hc80, h⟩ := gd_some h
  refine s1 (T_rem hc80) ?_
  obtain ⟨x81, hx82, h⟩ := bnd_some h
  replace hx82 := Option.some.inj hx82
  refine s2 (d2 := dI .i64 x81) T_as (le_eq (congrArg (dI .i64) hx82)) ?_
  refine .nil (hK _ _ ?_)
  obtain rfl := Option.some.inj h
  exact PE.i (wk h0 [0, 1, 2, 3] (wR rfl (wR rfl (wR rfl (wR rfl (wR rfl (wR rfl wTn)))))) (vR rfl (vR rfl wVn)) (wL rfl rfl (wL rfl rfl wLn)))
  replace h := cnd_f hb79 h
  obtain ⟨hc83, h⟩ := gd_some h
  have hv84 : x8 = (1 : Int) := by have := of_decide_eq_false hb79; omega
  refine s1 (T_iaK (n0 := 1) hv84 hc83 tb_69 tb_68) ?_
  refine s1 (T_faP tb_68 tb_45) ?_
  refine s1 (d := dO 3 c_Frame a9_10) (T_ldC tb_45) ?_
  refine s1 (d := dI .i64 ((a9_10).length : Int)) (T_len tb_45 tb_27) ?_
  obtain ⟨hc85, h⟩ := gd_some h
  refine s1 (T_rem hc85) ?_
  obtain ⟨x86, hx87, h⟩ := bnd_some h
  replace hx87 := Option.some.inj hx87
  refine s2 (d2 := dI .i64 x86) T_as (le_eq (congrArg (dI .i64) hx87)) ?_
  refine .nil (hK _ _ ?_)
  obtain rfl := Option.some.inj h
  exact PE.i (wk h0 [0, 1, 2, 3] (wR rfl (wR rfl (wR rfl (wR rfl (wR rfl (wR rfl wTn)))))) (vR rfl (vR rfl wVn)) (wL rfl rfl (wL rfl rfl wLn)))
  rintro ex tm' hp' ⟨rfl, hw⟩
  refine AW.weak hw ?_
  refine AW.seq ?_
  obtain ⟨y, hy, h⟩ := bnd_some h
  refine jn ((PE cx .normal (fun (a65_0, a65_1, a65_2, a65_3) => [(0, dL c_Op p_l), (2, .pt 0 0), (4, .pt 1 0), (5, dI .i64 a9_0), (6, dI .i64 x8), (10, dI .i64 a63_0)]) fun (a65_0, a65_1, a65_2, a65_3) => ⟨[(0, [dI .i64 (0 : Int), dN, dI .i64 (0 : Int), dN, dI .i64 (0 : Int), dN, dI .i64 (0 : Int), dN, dN, dN, dN, dN, dN, dI .i64 (0 : Int), dN, dI .i64 (0 : Int), dN, dI .i64 (0 : Int), dN, dI .i64 (0 : Int), dN, dN, dN, dN, dN, dN]), (1, [dI .i64 a65_0.vBase, dL cS a65_0.vQueue, dI .i64 a65_0.vWant, dL c_Held a65_0.vHeld, dI .i64 a9_2.vBase, dL cS a9_2.vQueue, dI .i64 a9_2.vWant, dL c_Held a9_2.vHeld, dL cS a9_3, dL cS a65_1, dL cS a9_11, dL cS a9_12, dO 2 c_Frame a9_5, dI .i64 a65_2.vBase, dL cS a65_2.vQueue, dI .i64 a65_2.vWant, dL c_Held a65_2.vHeld, dI .i64 a9_7.vBase, dL cS a9_7.vQueue, dI .i64 a9_7.vWant, dL c_Held a9_7.vHeld, dL cS a9_8, dL cS a65_3, dL cS a9_13, dL cS a9_14, dO 3 c_Frame a9_10])], [(2, (a9_5).length, 3, 27), (3, (a9_10).length, 3, 27)], 4⟩) y) ?_ ?_
  replace h := hy
  refine AW.seq ?_
  refine rg hx (by kernel_rfl) fun K hK => ?_
  iterate 2 refine s1 T_mv ?_
  obtain ⟨hc89, h⟩ := gd_some h
  have hn90 : (a9_0).toNat < (p_l).length := by omega
  refine s1 (T_iaS hc89 tb_48 tb_55) ?_
  refine s1 (T_faF tb_55 tb_5) ?_
  refine s1 (d := dI .u8 ((p_l)[(a9_0).toNat]!.vKind)) (T_ldF (c := c_Op) (l := p_l) (n := (a9_0).toNat) (o := 0) tb_5 hn90) ?_
  refine s1 (T_rem (b := (7 : Int)) (by decide)) ?_
  refine s1 T_neq ?_
  refine .nil (hK _ _ ?_)
  refine AW.condS rfl (fun hb91 => ?_) (fun hb91 => ?_)
  replace h := cnd_t hb91 h
  refine AW.seq ?_
  obtain ⟨y, hy, h⟩ := bnd_some h
  refine jn ((PE cx .normal (fun (a69_0, a69_1) => [(0, dL c_Op p_l), (2, .pt 0 0), (4, .pt 1 0), (5, dI .i64 a9_0), (6, dI .i64 x8), (10, dI .i64 a63_0), (11, .pt 2 0), (12, dL cS a69_0)]) fun (a69_0, a69_1) => ⟨[(0, [dI .i64 (0 : Int), dN, dI .i64 (0 : Int), dN, dI .i64 (0 : Int), dN, dI .i64 (0 : Int), dN, dN, dN, dN, dN, dN, dI .i64 (0 : Int), dN, dI .i64 (0 : Int), dN, dI .i64 (0 : Int), dN, dI .i64 (0 : Int), dN, dN, dN, dN, dN, dN]), (1, [dI .i64 a9_1.vBase, dL cS a9_1.vQueue, dI .i64 a9_1.vWant, dL c_Held a9_1.vHeld, dI .i64 a9_2.vBase, dL cS a9_2.vQueue, dI .i64 a9_2.vWant, dL c_Held a9_2.vHeld, dL cS a9_3, dL cS a9_4, dL cS a9_11, dL cS a9_12, dO 3 c_Frame a9_5, dI .i64 a9_6.vBase, dL cS a9_6.vQueue, dI .i64 a9_6.vWant, dL c_Held a9_6.vHeld, dI .i64 a9_7.vBase, dL cS a9_7.vQueue, dI .i64 a9_7.vWant, dL c_Held a9_7.vHeld, dL cS a9_8, dL cS a9_9, dL cS a9_13, dL cS a9_14, dO 4 c_Frame a9_10]), (2, [dI .i64 a69_1.vBase, dL cS a69_1.vQueue, dI .i64 a69_1.vWant, dL c_Held a69_1.vHeld])], [(3, (a9_5).length, 3, 27), (4, (a9_10).length, 3, 27)], 5⟩) y) ?_ ?_
  replace h := hy
  refine rd [14] hx (by kernel_rfl) (by kernel_rfl) fun K hK => ?_
  refine s1 T_mv ?_
  rcases Bool.eq_false_or_eq_true (decide (x8 = 0)) with hb92 | hb92
  replace h := cnd_t hb92 h
  refine s1 (T_iaK (n0 := 0) (n := 2) (v := x8) (of_decide_eq_true hb92) (by have := of_decide_eq_true hb92; omega) tb_69 tb_68) ?_
  refine s1 (T_faP tb_68 tb_25) ?_
  refine s1 (d := dG c_End a9_1) (T_ldA tb_25) ?_
  refine s1 T_mv ?_
  refine s1 (T_iaK (n0 := 0) (n := 2) (v := x8) (of_decide_eq_true hb92) (by have := of_decide_eq_true hb92; omega) tb_69 tb_68) ?_
  refine s1 (T_faP tb_68 tb_45) ?_
  refine s1 (d := dO 2 c_Frame a9_5) (T_ldC tb_45) ?_
  refine s1 T_mv ?_
  obtain ⟨hc93, h⟩ := gd_some h
  have hn94 : (a63_0).toNat < (a9_5).length := by omega
  refine s1 (T_iaS hc93 tb_45 tb_27) ?_
  refine s1 (d := dG c_Frame ((a9_5)[(a63_0).toNat]!)) (T_ldG (c := c_Frame) (l := a9_5) (n := (a63_0).toNat) (o := 0) tb_27 hn94 (whole_G _ _ rfl)) ?_
  obtain ⟨x95, hx96, h⟩ := bnd_some h
  refine sq tok (w_link_Receive hx96) (by simp only [List.map_cons, List.map_nil, List.all_cons, List.all_nil, Bool.and_true, Bool.and_eq_true]; exact ⟨pure_ex_G _ _, pure_ex_G _ _⟩) (lA (le_refl' _) (lA (le_refl' _) lAn)) (.inr ⟨_, rfl⟩) ?_
  refine s1 T_mv ?_
  iterate 2 refine s1 T_ext ?_
  refine s1 (d := .pt 4 0) (T_alloc tb_25) ?_
  refine s0 (T_st (ds' := [dI .i64 x95.1.vBase, dL cS x95.1.vQueue, dI .i64 x95.1.vWant, dL c_Held x95.1.vHeld]) tb_25) ?_
  refine s1 T_as ?_
  refine .nil (hK _ _ ?_)
  obtain rfl := Option.some.inj h
  exact PE.i (wk h0 [0, 1, 4, 2, 3] (wR rfl (wR rfl (wR rfl (wR rfl (wR rfl (wR rfl (wR rfl (wR rfl wTn)))))))) (vR rfl (vR rfl (vR rfl wVn))) (wL rfl rfl (wL rfl rfl wLn)))
  replace h := cnd_f hb92 h
  obtain ⟨hc97, h⟩ := gd_some h
  have hv98 : x8 = (1 : Int) := by have := of_decide_eq_false hb92; omega
  refine s1 (T_iaK (n0 := 1) hv98 hc97 tb_69 tb_68) ?_
  refine s1 (T_faP tb_68 tb_25) ?_
  refine s1 (d := dG c_End a9_6) (T_ldA tb_25) ?_
  refine s1 T_mv ?_
  refine s1 (T_iaK (n0 := 1) (n := 2) (v := x8) (hv98) (by have := hv98; omega) tb_69 tb_68) ?_
  refine s1 (T_faP tb_68 tb_45) ?_
  refine s1 (d := dO 3 c_Frame a9_10) (T_ldC tb_45) ?_
  refine s1 T_mv ?_
  obtain ⟨hc99, h⟩ := gd_some h
  have hn100 : (a63_0).toNat < (a9_10).length := by omega
  refine s1 (T_iaS hc99 tb_45 tb_27) ?_
  refine s1 (d := dG c_Frame ((a9_10)[(a63_0).toNat]!)) (T_ldG (c := c_Frame) (l := a9_10) (n := (a63_0).toNat) (o := 0) tb_27 hn100 (whole_G _ _ rfl)) ?_
  obtain ⟨x101, hx102, h⟩ := bnd_some h
  refine sq tok (w_link_Receive hx102) (by simp only [List.map_cons, List.map_nil, List.all_cons, List.all_nil, Bool.and_true, Bool.and_eq_true]; exact ⟨pure_ex_G _ _, pure_ex_G _ _⟩) (lA (le_refl' _) (lA (le_refl' _) lAn)) (.inr ⟨_, rfl⟩) ?_
  refine s1 T_mv ?_
  iterate 2 refine s1 T_ext ?_
  refine s1 (d := .pt 4 0) (T_alloc tb_25) ?_
  refine s0 (T_st (ds' := [dI .i64 x101.1.vBase, dL cS x101.1.vQueue, dI .i64 x101.1.vWant, dL c_Held x101.1.vHeld]) tb_25) ?_
  refine s1 T_as ?_
  refine .nil (hK _ _ ?_)
  obtain rfl := Option.some.inj h
  exact PE.i (wk h0 [0, 1, 4, 2, 3] (wR rfl (wR rfl (wR rfl (wR rfl (wR rfl (wR rfl (wR rfl (wR rfl wTn)))))))) (vR rfl (vR rfl (vR rfl wVn))) (wL rfl rfl (wL rfl rfl wLn)))
  obtain ⟨a69_0, a69_1⟩ := y
  rintro ex tm' hp' ⟨rfl, hw⟩
  refine AW.weak hw ?_
  refine AW.seq ?_
  obtain ⟨y, hy, h⟩ := bnd_some h
  refine jn ((PE cx .normal (fun (a71_0, a71_1) => [(0, dL c_Op p_l), (2, .pt 0 0), (4, .pt 1 0), (5, dI .i64 a9_0), (6, dI .i64 x8), (10, dI .i64 a63_0), (12, dL cS a69_0)]) fun (a71_0, a71_1) => ⟨[(0, [dI .i64 (0 : Int), dN, dI .i64 (0 : Int), dN, dI .i64 (0 : Int), dN, dI .i64 (0 : Int), dN, dN, dN, dN, dN, dN, dI .i64 (0 : Int), dN, dI .i64 (0 : Int), dN, dI .i64 (0 : Int), dN, dI .i64 (0 : Int), dN, dN, dN, dN, dN, dN]), (1, [dI .i64 a71_0.vBase, dL cS a71_0.vQueue, dI .i64 a71_0.vWant, dL c_Held a71_0.vHeld, dI .i64 a9_2.vBase, dL cS a9_2.vQueue, dI .i64 a9_2.vWant, dL c_Held a9_2.vHeld, dL cS a9_3, dL cS a9_4, dL cS a9_11, dL cS a9_12, dO 2 c_Frame a9_5, dI .i64 a71_1.vBase, dL cS a71_1.vQueue, dI .i64 a71_1.vWant, dL c_Held a71_1.vHeld, dI .i64 a9_7.vBase, dL cS a9_7.vQueue, dI .i64 a9_7.vWant, dL c_Held a9_7.vHeld, dL cS a9_8, dL cS a9_9, dL cS a9_13, dL cS a9_14, dO 3 c_Frame a9_10])], [(2, (a9_5).length, 3, 27), (3, (a9_10).length, 3, 27)], 4⟩) y) ?_ ?_
  replace h := hy
  refine rg hx (by kernel_rfl) fun K hK => ?_
  refine s1 T_mv ?_
  refine s1 (d := dG c_End a69_1) (T_ldA tb_25) ?_
  rcases Bool.eq_false_or_eq_true (decide (x8 = 0)) with hb104 | hb104
  replace h := cnd_t hb104 h
  refine s1 (T_iaK (n0 := 0) (n := 2) (v := x8) (of_decide_eq_true hb104) (by have := of_decide_eq_true hb104; omega) tb_69 tb_68) ?_
  refine s1 (T_faP tb_68 tb_25) ?_
  refine s0 (T_st (ds' := [dI .i64 a69_1.vBase, dL cS a69_1.vQueue, dI .i64 a69_1.vWant, dL c_Held a69_1.vHeld, dI .i64 a9_2.vBase, dL cS a9_2.vQueue, dI .i64 a9_2.vWant, dL c_Held a9_2.vHeld, dL cS a9_3, dL cS a9_4, dL cS a9_11, dL cS a9_12, dO 3 c_Frame a9_5, dI .i64 a9_6.vBase, dL cS a9_6.vQueue, dI .i64 a9_6.vWant, dL c_Held a9_6.vHeld, dI .i64 a9_7.vBase, dL cS a9_7.vQueue, dI .i64 a9_7.vWant, dL c_Held a9_7.vHeld, dL cS a9_8, dL cS a9_9, dL cS a9_13, dL cS a9_14, dO 4 c_Frame a9_10]) tb_25) ?_
  refine .nil (hK _ _ ?_)
  obtain rfl := Option.some.inj h
  exact PE.i (wk h0 [0, 1, 3, 4] (wR rfl (wR rfl (wR rfl (wR rfl (wR rfl (wR rfl (wR rfl wTn))))))) (vR rfl (vR rfl wVn)) (wL rfl rfl (wL rfl rfl wLn)))
  replace h := cnd_f hb104 h
  obtain ⟨hc105, h⟩ := gd_some h
  have hv106 : x8 = (1 : Int) := by have := of_decide_eq_false hb104; omega
  refine s1 (T_iaK (n0 := 1) hv106 hc105 tb_69 tb_68) ?_
  refine s1 (T_faP tb_68 tb_25) ?_
  refine s0 (T_st (ds' := [dI .i64 a9_1.vBase, dL cS a9_1.vQueue, dI .i64 a9_1.vWant, dL c_Held a9_1.vHeld, dI .i64 a9_2.vBase, dL cS a9_2.vQueue, dI .i64 a9_2.vWant, dL c_Held a9_2.vHeld, dL cS a9_3, dL cS a9_4, dL cS a9_11, dL cS a9_12, dO 3 c_Frame a9_5, dI .i64 a69_1.vBase, dL cS a69_1.vQueue, dI .i64 a69_1.vWant, dL c_Held a69_1.vHeld, dI .i64 a9_7.vBase, dL cS a9_7.vQueue, dI .i64 a9_7.vWant, dL c_Held a9_7.vHeld, dL cS a9_8, dL cS a9_9, dL cS a9_13, dL cS a9_14, dO 4 c_Frame a9_10]) tb_25) ?_
  refine .nil (hK _ _ ?_)
  obtain rfl := Option.some.inj h
  exact PE.i (wk h0 [0, 1, 3, 4] (wR rfl (wR rfl (wR rfl (wR rfl (wR rfl (wR rfl (wR rfl wTn))))))) (vR rfl (vR rfl wVn)) (wL rfl rfl (wL rfl rfl wLn)))
  obtain ⟨a71_0, a71_1⟩ := y
  rintro ex tm' hp' ⟨rfl, hw⟩
  refine AW.weak hw ?_
  refine rd [] hx (by kernel_rfl) (by kernel_rfl) fun K hK => ?_
  iterate 2 refine s1 T_mv ?_
  rcases Bool.eq_false_or_eq_true (decide (x8 = 0)) with hb108 | hb108
  replace h := cnd_t hb108 h
  refine s1 (T_iaK (n0 := 0) (n := 2) (v := x8) (of_decide_eq_true hb108) (by have := of_decide_eq_true hb108; omega) tb_69 tb_68) ?_
  refine s1 (T_faP tb_68 tb_22) ?_
  refine s1 (d := dL cS a9_4) (T_ldC tb_22) ?_
  refine s1 T_mv ?_
  refine s1 (T_iaK (n0 := 0) (n := 2) (v := x8) (of_decide_eq_true hb108) (by have := of_decide_eq_true hb108; omega) tb_69 tb_68) ?_
  refine s1 (T_faP tb_68 tb_22) ?_
  refine s1 (d := dL cS a9_4) (T_ldC tb_22) ?_
  refine s1 (d := dI .i64 ((a9_4).length : Int)) (T_len tb_22 tb_9) ?_
  refine s1 T_mv ?_
  refine s1 (T_iaK (n0 := 0) (n := 2) (v := x8) (of_decide_eq_true hb108) (by have := of_decide_eq_true hb108; omega) tb_69 tb_68) ?_
  refine s1 (T_faP tb_68 tb_22) ?_
  refine s1 (d := dL cS a9_4) (T_ldC tb_22) ?_
  refine s1 (d := dI .i64 ((a9_4).length : Int)) (T_len tb_22 tb_9) ?_
  obtain ⟨hc109, h⟩ := gd_some h
  refine s1 (T_slF (c := cS) (l := a9_4) (a := (0 : Int)) (b := ((a9_4).length : Int)) hc109 tb_22 tb_9) ?_
  refine s1 T_mv ?_
  rcases Bool.eq_false_or_eq_true (decide (0 < (a69_0).length)) with hb110 | hb110
  replace h := cnd_t hb110 h
  obtain ⟨hc111, h⟩ := gd_some h
  refine s1 (d := dO 4 cS ((subL a9_4 (0 : Int) ((a9_4).length : Int)) ++ a69_0)) (T_appF tb_22 tb_9 hc111 (of_decide_eq_true hb110)) ?_
  refine s1 (T_iaK (n0 := 0) (n := 2) (v := x8) (of_decide_eq_true hb108) (by have := of_decide_eq_true hb108; omega) tb_69 tb_68) ?_
  refine s1 (T_faP tb_68 tb_22) ?_
  refine s0 (T_st (ds' := [dI .i64 a71_0.vBase, dL cS a71_0.vQueue, dI .i64 a71_0.vWant, dL c_Held a71_0.vHeld, dI .i64 a9_2.vBase, dL cS a9_2.vQueue, dI .i64 a9_2.vWant, dL c_Held a9_2.vHeld, dL cS a9_3, dO 4 cS ((subL a9_4 (0 : Int) ((a9_4).length : Int)) ++ a69_0), dL cS a9_11, dL cS a9_12, dO 2 c_Frame a9_5, dI .i64 a71_1.vBase, dL cS a71_1.vQueue, dI .i64 a71_1.vWant, dL c_Held a71_1.vHeld, dI .i64 a9_7.vBase, dL cS a9_7.vQueue, dI .i64 a9_7.vWant, dL c_Held a9_7.vHeld, dL cS a9_8, dL cS a9_9, dL cS a9_13, dL cS a9_14, dO 3 c_Frame a9_10]) tb_22) ?_
  refine .nil (hK _ _ ?_)
  obtain rfl := Option.some.inj h
  exact PE.i (wk h0 [0, 1, 2, 3] (wR rfl (wR rfl (wR rfl (wR rfl (wR rfl (wR rfl wTn)))))) (vR rfl (wV rfl rfl (wc (lc_r _) (wc (lc_r _) (wc (lc_r _) (wc (lc_r _) (wc (lc_r _) (wc (lc_r _) (wc (lc_r _) (wc (lc_r _) (wc (lc_r _) (wc (lc_x _) (wc (lc_r _) (wc (lc_r _) (wc (lc_r _) (wc (lc_r _) (wc (lc_r _) (wc (lc_r _) (wc (lc_r _) (wc (lc_r _) (wc (lc_r _) (wc (lc_r _) (wc (lc_r _) (wc (lc_r _) (wc (lc_r _) (wc (lc_r _) (wc (lc_r _) (wc (lc_r _) wcn)))))))))))))))))))))))))) rfl rfl wVn)) (wL rfl rfl (wL rfl rfl wLn)))
  replace h := cnd_f hb110 h
  refine sEm (l := a69_0) (c0 := cS) tb_22 tb_9 hb110 ?_
  refine s1 (T_iaK (n0 := 0) (n := 2) (v := x8) (of_decide_eq_true hb108) (by have := of_decide_eq_true hb108; omega) tb_69 tb_68) ?_
  refine s1 (T_faP tb_68 tb_22) ?_
  refine s0 (T_st (ds' := [dI .i64 a71_0.vBase, dL cS a71_0.vQueue, dI .i64 a71_0.vWant, dL c_Held a71_0.vHeld, dI .i64 a9_2.vBase, dL cS a9_2.vQueue, dI .i64 a9_2.vWant, dL c_Held a9_2.vHeld, dL cS a9_3, dF cS (subL a9_4 (0 : Int) ((a9_4).length : Int)), dL cS a9_11, dL cS a9_12, dO 2 c_Frame a9_5, dI .i64 a71_1.vBase, dL cS a71_1.vQueue, dI .i64 a71_1.vWant, dL c_Held a71_1.vHeld, dI .i64 a9_7.vBase, dL cS a9_7.vQueue, dI .i64 a9_7.vWant, dL c_Held a9_7.vHeld, dL cS a9_8, dL cS a9_9, dL cS a9_13, dL cS a9_14, dO 3 c_Frame a9_10]) tb_22) ?_
  refine .nil (hK _ _ ?_)
  obtain rfl := Option.some.inj h
  exact PE.i (wk h0 [0, 1, 2, 3] (wR rfl (wR rfl (wR rfl (wR rfl (wR rfl (wR rfl wTn)))))) (vR rfl (wV rfl rfl (wc (lc_r _) (wc (lc_r _) (wc (lc_r _) (wc (lc_r _) (wc (lc_r _) (wc (lc_r _) (wc (lc_r _) (wc (lc_r _) (wc (lc_r _) (wc (lc_x _) (wc (lc_r _) (wc (lc_r _) (wc (lc_r _) (wc (lc_r _) (wc (lc_r _) (wc (lc_r _) (wc (lc_r _) (wc (lc_r _) (wc (lc_r _) (wc (lc_r _) (wc (lc_r _) (wc (lc_r _) (wc (lc_r _) (wc (lc_r _) (wc (lc_r _) (wc (lc_r _) wcn)))))))))))))))))))))))))) rfl rfl wVn)) (wL rfl rfl (wL rfl rfl wLn)))
  replace h := cnd_f hb108 h
  obtain ⟨hc112, h⟩ := gd_some h
  have hv113 : x8 = (1 : Int) := by have := of_decide_eq_false hb108; omega
  refine s1 (T_iaK (n0 := 1) hv113 hc112 tb_69 tb_68) ?_
  refine s1 (T_faP tb_68 tb_22) ?_
  refine s1 (d := dL cS a9_9) (T_ldC tb_22) ?_
  refine s1 T_mv ?_
  refine s1 (T_iaK (n0 := 1) (n := 2) (v := x8) (hv113) (by have := hv113; omega) tb_69 tb_68) ?_
  refine s1 (T_faP tb_68 tb_22) ?_
  refine s1 (d := dL cS a9_9) (T_ldC tb_22) ?_
  refine s1 (d := dI .i64 ((a9_9).length : Int)) (T_len tb_22 tb_9) ?_
  refine s1 T_mv ?_
  refine s1 (T_iaK (n0 := 1) (n := 2) (v := x8) (hv113) (by have := hv113; omega) tb_69 tb_68) ?_
  refine s1 (T_faP tb_68 tb_22) ?_
  refine s1 (d := dL cS a9_9) (T_ldC tb_22) ?_
  refine s1 (d := dI .i64 ((a9_9).length : Int)) (T_len tb_22 tb_9) ?_
  obtain ⟨hc114, h⟩ := gd_some h
  refine s1 (T_slF (c := cS) (l := a9_9) (a := (0 : Int)) (b := ((a9_9).length : Int)) hc114 tb_22 tb_9) ?_
  refine s1 T_mv ?_
  rcases Bool.eq_false_or_eq_true (decide (0 < (a69_0).length)) with hb115 | hb115
  replace h := cnd_t hb115 h
  obtain ⟨hc116, h⟩ := gd_some h
  refine s1 (d := dO 4 cS ((subL a9_9 (0 : Int) ((a9_9).length : Int)) ++ a69_0)) (T_appF tb_22 tb_9 hc116 (of_decide_eq_true hb115)) ?_
  refine s1 (T_iaK (n0 := 1) (n := 2) (v := x8) (hv113) (by have := hv113; omega) tb_69 tb_68) ?_
  refine s1 (T_faP tb_68 tb_22) ?_
  refine s0 (T_st (ds' := [dI .i64 a71_0.vBase, dL cS a71_0.vQueue, dI .i64 a71_0.vWant, dL c_Held a71_0.vHeld, dI .i64 a9_2.vBase, dL cS a9_2.vQueue, dI .i64 a9_2.vWant, dL c_Held a9_2.vHeld, dL cS a9_3, dL cS a9_4, dL cS a9_11, dL cS a9_12, dO 2 c_Frame a9_5, dI .i64 a71_1.vBase, dL cS a71_1.vQueue, dI .i64 a71_1.vWant, dL c_Held a71_1.vHeld, dI .i64 a9_7.vBase, dL cS a9_7.vQueue, dI .i64 a9_7.vWant, dL c_Held a9_7.vHeld, dL cS a9_8, dO 4 cS ((subL a9_9 (0 : Int) ((a9_9).length : Int)) ++ a69_0), dL cS a9_13, dL cS a9_14, dO 3 c_Frame a9_10]) tb_22) ?_
  refine .nil (hK _ _ ?_)
  obtain rfl := Option.some.inj h
  exact PE.i (wk h0 [0, 1, 2, 3] (wR rfl (wR rfl (wR rfl (wR rfl (wR rfl (wR rfl wTn)))))) (vR rfl (wV rfl rfl (wc (lc_r _) (wc (lc_r _) (wc (lc_r _) (wc (lc_r _) (wc (lc_r _) (wc (lc_r _) (wc (lc_r _) (wc (lc_r _) (wc (lc_r _) (wc (lc_r _) (wc (lc_r _) (wc (lc_r _) (wc (lc_r _) (wc (lc_r _) (wc (lc_r _) (wc (lc_r _) (wc (lc_r _) (wc (lc_r _) (wc (lc_r _) (wc (lc_r _) (wc (lc_r _) (wc (lc_r _) (wc (lc_x _) (wc (lc_r _) (wc (lc_r _) (wc (lc_r _) wcn)))))))))))))))))))))))))) rfl rfl wVn)) (wL rfl rfl (wL rfl rfl wLn)))
  replace h := cnd_f hb115 h
  refine sEm (l := a69_0) (c0 := cS) tb_22 tb_9 hb115 ?_
  refine s1 (T_iaK (n0 := 1) (n := 2) (v := x8) (hv113) (by have := hv113; omega) tb_69 tb_68) ?_
  refine s1 (T_faP tb_68 tb_22) ?_
  refine s0 (T_st (ds' := [dI .i64 a71_0.vBase, dL cS a71_0.vQueue, dI .i64 a71_0.vWant, dL c_Held a71_0.vHeld, dI .i64 a9_2.vBase, dL cS a9_2.vQueue, dI .i64 a9_2.vWant, dL c_Held a9_2.vHeld, dL cS a9_3, dL cS a9_4, dL cS a9_11, dL cS a9_12, dO 2 c_Frame a9_5, dI .i64 a71_1.vBase, dL cS a71_1.vQueue, dI .i64 a71_1.vWant, dL c_Held a71_1.vHeld, dI .i64 a9_7.vBase, dL cS a9_7.vQueue, dI .i64 a9_7.vWant, dL c_Held a9_7.vHeld, dL cS a9_8, dF cS (subL a9_9 (0 : Int) ((a9_9).length : Int)), dL cS a9_13, dL cS a9_14, dO 3 c_Frame a9_10]) tb_22) ?_
  refine .nil (hK _ _ ?_)
  obtain rfl := Option.some.inj h
  exact PE.i (wk h0 [0, 1, 2, 3] (wR rfl (wR rfl (wR rfl (wR rfl (wR rfl (wR rfl wTn)))))) (vR rfl (wV rfl rfl (wc (lc_r _) (wc (lc_r _) (wc (lc_r _) (wc (lc_r _) (wc (lc_r _) (wc (lc_r _) (wc (lc_r _) (wc (lc_r _) (wc (lc_r _) (wc (lc_r _) (wc (lc_r _) (wc (lc_r _) (wc (lc_r _) (wc (lc_r _) (wc (lc_r _) (wc (lc_r _) (wc (lc_r _) (wc (lc_r _) (wc (lc_r _) (wc (lc_r _) (wc (lc_r _) (wc (lc_r _) (wc (lc_x _) (wc (lc_r _) (wc (lc_r _) (wc (lc_r _) wcn)))))))))))))))))))))))))) rfl rfl wVn)) (wL rfl rfl (wL rfl rfl wLn)))
  replace h := cnd_f hb91 h
  refine AW.skip ?_
  obtain rfl := Option.some.inj h
  exact PE.i (wk h0 [0, 1, 2, 3] (wR rfl (wR rfl (wR rfl (wR rfl (wR rfl (wR rfl wTn)))))) (vR rfl (vR rfl wVn)) (wL rfl rfl (wL rfl rfl wLn)))
  obtain ⟨a65_0, a65_1, a65_2, a65_3⟩ := y
  rintro ex tm' hp' ⟨rfl, hw⟩
  refine AW.weak hw ?_
  refine AW.seq ?_
  refine rg hx (by kernel_rfl) fun K hK => ?_
  iterate 2 refine s1 T_mv ?_
  obtain ⟨hc118, h⟩ := gd_some h
  have hn119 : (a9_0).toNat < (p_l).length := by omega
  refine s1 (T_iaS hc118 tb_48 tb_55) ?_
  refine s1 (T_faF tb_55 tb_5) ?_
  refine s1 (d := dI .u8 ((p_l)[(a9_0).toNat]!.vKind)) (T_ldF (c := c_Op) (l := p_l) (n := (a9_0).toNat) (o := 0) tb_5 hn119) ?_
  refine s1 (T_rem (b := (7 : Int)) (by decide)) ?_
  refine s1 T_neq ?_
  refine .nil (hK _ _ ?_)
  refine AW.condS rfl (fun hb120 => ?_) (fun hb120 => ?_)
  replace h := cnd_t hb120 h
  refine rd [] hx (by kernel_rfl) (by kernel_rfl) fun K hK => ?_
  refine s1 T_mv ?_
  refine s1 (d := dO 4 c_Frame ([] : List S_Frame)) (T_bsl0 tb_45 tb_27) ?_
  refine s1 T_mv ?_
  rcases Bool.eq_false_or_eq_true (decide (x8 = 0)) with hb121 | hb121
  replace h := cnd_t hb121 h
  refine s1 (T_iaK (n0 := 0) (n := 2) (v := x8) (of_decide_eq_true hb121) (by have := of_decide_eq_true hb121; omega) tb_69 tb_68) ?_
  refine s1 (T_faP tb_68 tb_45) ?_
  refine s1 (d := dO 2 c_Frame a9_5) (T_ldC tb_45) ?_
  refine s1 T_mv ?_
  obtain ⟨hc122, h⟩ := gd_some h
  refine s1 (T_sl (c := c_Frame) (l := a9_5) (a := (0 : Int)) (b := a63_0) hc122 tb_45 tb_27) ?_
  obtain ⟨hc123, h⟩ := gd_some h
  refine s1 (d := dO 4 c_Frame (([] : List S_Frame) ++ (subL a9_5 (0 : Int) a63_0))) (T_appO tb_45 tb_27 hc123) ?_
  refine s1 T_mv ?_
  refine s1 (T_iaK (n0 := 0) (n := 2) (v := x8) (of_decide_eq_true hb121) (by have := of_decide_eq_true hb121; omega) tb_69 tb_68) ?_
  refine s1 (T_faP tb_68 tb_45) ?_
  refine s1 (d := dO 2 c_Frame a9_5) (T_ldC tb_45) ?_
  refine s1 T_mv ?_
  refine s1 T_add ?_
  obtain ⟨hc124, h⟩ := gd_some h
  refine s1 (T_sl (c := c_Frame) (l := a9_5) (a := IntKind.i64.wrap (a63_0 + (1 : Int))) (b := ((a9_5).length : Int)) hc124 tb_45 tb_27) ?_
  obtain ⟨hc125, h⟩ := gd_some h
  refine s1 (d := dO 4 c_Frame ((([] : List S_Frame) ++ (subL a9_5 (0 : Int) a63_0)) ++ (subL a9_5 (IntKind.i64.wrap (a63_0 + (1 : Int))) ((a9_5).length : Int)))) (T_appO tb_45 tb_27 hc125) ?_
  refine s1 (T_iaK (n0 := 0) (n := 2) (v := x8) (of_decide_eq_true hb121) (by have := of_decide_eq_true hb121; omega) tb_69 tb_68) ?_
  refine s1 (T_faP tb_68 tb_45) ?_
  refine s0 (T_st (ds' := [dI .i64 a65_0.vBase, dL cS a65_0.vQueue, dI .i64 a65_0.vWant, dL c_Held a65_0.vHeld, dI .i64 a9_2.vBase, dL cS a9_2.vQueue, dI .i64 a9_2.vWant, dL c_Held a9_2.vHeld, dL cS a9_3, dL cS a65_1, dL cS a9_11, dL cS a9_12, dO 4 c_Frame ((([] : List S_Frame) ++ (subL a9_5 (0 : Int) a63_0)) ++ (subL a9_5 (IntKind.i64.wrap (a63_0 + (1 : Int))) ((a9_5).length : Int))), dI .i64 a65_2.vBase, dL cS a65_2.vQueue, dI .i64 a65_2.vWant, dL c_Held a65_2.vHeld, dI .i64 a9_7.vBase, dL cS a9_7.vQueue, dI .i64 a9_7.vWant, dL c_Held a9_7.vHeld, dL cS a9_8, dL cS a65_3, dL cS a9_13, dL cS a9_14, dO 3 c_Frame a9_10]) tb_45) ?_
  refine .nil (hK _ _ ?_)
  obtain rfl := Option.some.inj h
  exact PS.l (PE.i (wk h0 [0, 1, 4, 3] (wR rfl (wR rfl (wR rfl (wR rfl wTn)))) (vR rfl (vR rfl wVn)) (wL rfl rfl (wL rfl rfl wLn))))
  replace h := cnd_f hb121 h
  obtain ⟨hc126, h⟩ := gd_some h
  have hv127 : x8 = (1 : Int) := by have := of_decide_eq_false hb121; omega
  refine s1 (T_iaK (n0 := 1) hv127 hc126 tb_69 tb_68) ?_
  refine s1 (T_faP tb_68 tb_45) ?_
  refine s1 (d := dO 3 c_Frame a9_10) (T_ldC tb_45) ?_
  refine s1 T_mv ?_
  obtain ⟨hc128, h⟩ := gd_some h
  refine s1 (T_sl (c := c_Frame) (l := a9_10) (a := (0 : Int)) (b := a63_0) hc128 tb_45 tb_27) ?_
  obtain ⟨hc129, h⟩ := gd_some h
  refine s1 (d := dO 4 c_Frame (([] : List S_Frame) ++ (subL a9_10 (0 : Int) a63_0))) (T_appO tb_45 tb_27 hc129) ?_
  refine s1 T_mv ?_
  refine s1 (T_iaK (n0 := 1) (n := 2) (v := x8) (hv127) (by have := hv127; omega) tb_69 tb_68) ?_
  refine s1 (T_faP tb_68 tb_45) ?_
  refine s1 (d := dO 3 c_Frame a9_10) (T_ldC tb_45) ?_
  refine s1 T_mv ?_
  refine s1 T_add ?_
  obtain ⟨hc130, h⟩ := gd_some h
  refine s1 (T_sl (c := c_Frame) (l := a9_10) (a := IntKind.i64.wrap (a63_0 + (1 : Int))) (b := ((a9_10).length : Int)) hc130 tb_45 tb_27) ?_
  obtain ⟨hc131, h⟩ := gd_some h
  refine s1 (d := dO 4 c_Frame ((([] : List S_Frame) ++ (subL a9_10 (0 : Int) a63_0)) ++ (subL a9_10 (IntKind.i64.wrap (a63_0 + (1 : Int))) ((a9_10).length : Int)))) (T_appO tb_45 tb_27 hc131) ?_
  refine s1 (T_iaK (n0 := 1) (n := 2) (v := x8) (hv127) (by have := hv127; omega) tb_69 tb_68) ?_
  refine s1 (T_faP tb_68 tb_45) ?_
  refine s0 (T_st (ds' := [dI .i64 a65_0.vBase, dL cS a65_0.vQueue, dI .i64 a65_0.vWant, dL c_Held a65_0.vHeld, dI .i64 a9_2.vBase, dL cS a9_2.vQueue, dI .i64 a9_2.vWant, dL c_Held a9_2.vHeld, dL cS a9_3, dL cS a65_1, dL cS a9_11, dL cS a9_12, dO 2 c_Frame a9_5, dI .i64 a65_2.vBase, dL cS a65_2.vQueue, dI .i64 a65_2.vWant, dL c_Held a65_2.vHeld, dI .i64 a9_7.vBase, dL cS a9_7.vQueue, dI .i64 a9_7.vWant, dL c_Held a9_7.vHeld, dL cS a9_8, dL cS a65_3, dL cS a9_13, dL cS a9_14, dO 4 c_Frame ((([] : List S_Frame) ++ (subL a9_10 (0 : Int) a63_0)) ++ (subL a9_10 (IntKind.i64.wrap (a63_0 + (1 : Int))) ((a9_10).length : Int)))]) tb_45) ?_
  refine .nil (hK _ _ ?_)
  obtain rfl := Option.some.inj h
  exact PS.l (PE.i (wk h0 [0, 1, 2, 4] (wR rfl (wR rfl (wR rfl (wR rfl wTn)))) (vR rfl (vR rfl wVn)) (wL rfl rfl (wL rfl rfl wLn))))
  replace h := cnd_f hb120 h
  refine AW.skip ?_
  obtain rfl := Option.some.inj h
  exact PS.l (PE.i (wk h0 [0, 1, 2, 3] (wR rfl (wR rfl (wR rfl (wR rfl wTn)))) (vR rfl (vR rfl wVn)) (wL rfl rfl (wL rfl rfl wLn))))
  replace h := cnd_f hb71 h
  refine AW.seq ?_
  refine rg hx (by kernel_rfl) fun K hK => ?_
  refine s1 T_eql ?_
  refine s1 T_as ?_
  refine .nil (hK _ _ ?_)
  refine AW.condS rfl (fun hb132 => ?_) (fun hb132 => ?_)
  replace h := cnd_t hb132 h
  refine AW.seq ?_
  obtain ⟨y, hy, h⟩ := bnd_some h
  refine jn ((PE cx .normal (fun (a83_0, a83_1) => [(0, dL c_Op p_l), (2, .pt 0 0), (4, .pt 1 0), (5, dI .i64 a9_0), (6, dI .i64 x8), (13, dL (cI .u8) a83_0), (14, dI .i64 a83_1)]) fun (a83_0, a83_1) => ⟨[(0, [dI .i64 (0 : Int), dN, dI .i64 (0 : Int), dN, dI .i64 (0 : Int), dN, dI .i64 (0 : Int), dN, dN, dN, dN, dN, dN, dI .i64 (0 : Int), dN, dI .i64 (0 : Int), dN, dI .i64 (0 : Int), dN, dI .i64 (0 : Int), dN, dN, dN, dN, dN, dN]), (1, [dI .i64 a9_1.vBase, dL cS a9_1.vQueue, dI .i64 a9_1.vWant, dL c_Held a9_1.vHeld, dI .i64 a9_2.vBase, dL cS a9_2.vQueue, dI .i64 a9_2.vWant, dL c_Held a9_2.vHeld, dL cS a9_3, dL cS a9_4, dL cS a9_11, dL cS a9_12, dO 2 c_Frame a9_5, dI .i64 a9_6.vBase, dL cS a9_6.vQueue, dI .i64 a9_6.vWant, dL c_Held a9_6.vHeld, dI .i64 a9_7.vBase, dL cS a9_7.vQueue, dI .i64 a9_7.vWant, dL c_Held a9_7.vHeld, dL cS a9_8, dL cS a9_9, dL cS a9_13, dL cS a9_14, dO 3 c_Frame a9_10])], [(2, (a9_5).length, 3, 27), (3, (a9_10).length, 3, 27)], 4⟩) y) ?_ ?_
  replace h := hy
  refine rg hx (by kernel_rfl) fun K hK => ?_
  refine s1 T_mv ?_
  rcases Bool.eq_false_or_eq_true (decide (x8 = 0)) with hb133 | hb133
  replace h := cnd_t hb133 h
  refine s1 (T_iaK (n0 := 0) (n := 2) (v := x8) (of_decide_eq_true hb133) (by have := of_decide_eq_true hb133; omega) tb_69 tb_68) ?_
  refine s1 (T_faP tb_68 tb_25) ?_
  refine s1 (d := dG c_End a9_1) (T_ldA tb_25) ?_
  obtain ⟨x134, hx135, h⟩ := bnd_some h
  refine s1 (T_call rfl (w_link_Pack hx135) (by simp only [List.map_cons, List.map_nil, List.all_cons, List.all_nil, Bool.and_true, Bool.and_eq_true]; exact pure_ex_G _ _) (lA (le_refl' _) lAn) (.inr ⟨_, rfl⟩)) ?_
  refine s1 T_mv ?_
  iterate 2 refine s1 T_ext ?_
  iterate 2 refine s1 T_as ?_
  refine .nil (hK _ _ ?_)
  obtain rfl := Option.some.inj h
  exact PE.i (wk h0 [0, 1, 2, 3] (wR rfl (wR rfl (wR rfl (wR rfl (wR rfl (wR rfl (wR rfl wTn))))))) (vR rfl (vR rfl wVn)) (wL rfl rfl (wL rfl rfl wLn)))
  replace h := cnd_f hb133 h
  obtain ⟨hc136, h⟩ := gd_some h
  have hv137 : x8 = (1 : Int) := by have := of_decide_eq_false hb133; omega
  refine s1 (T_iaK (n0 := 1) hv137 hc136 tb_69 tb_68) ?_
  refine s1 (T_faP tb_68 tb_25) ?_
  refine s1 (d := dG c_End a9_6) (T_ldA tb_25) ?_
  obtain ⟨x138, hx139, h⟩ := bnd_some h
  refine s1 (T_call rfl (w_link_Pack hx139) (by simp only [List.map_cons, List.map_nil, List.all_cons, List.all_nil, Bool.and_true, Bool.and_eq_true]; exact pure_ex_G _ _) (lA (le_refl' _) lAn) (.inr ⟨_, rfl⟩)) ?_
  refine s1 T_mv ?_
  iterate 2 refine s1 T_ext ?_
  iterate 2 refine s1 T_as ?_
  refine .nil (hK _ _ ?_)
  obtain rfl := Option.some.inj h
  exact PE.i (wk h0 [0, 1, 2, 3] (wR rfl (wR rfl (wR rfl (wR rfl (wR rfl (wR rfl (wR rfl wTn))))))) (vR rfl (vR rfl wVn)) (wL rfl rfl (wL rfl rfl wLn)))
  obtain ⟨a83_0, a83_1⟩ := y
  rintro ex tm' hp' ⟨rfl, hw⟩
  refine AW.weak hw ?_
  refine AW.seq ?_
  refine rg hx (by kernel_rfl) fun K hK => ?_
  refine s1 T_mv ?_
  obtain ⟨x141, hx142, h⟩ := bnd_some h
  refine s1 (T_call rfl (w_link_Unpack hx142) rfl (lA (le_refl' _) lAn) (.inr ⟨_, rfl⟩)) ?_
  refine s1 T_mv ?_
  iterate 2 refine s1 T_ext ?_
  refine s1 (d := .pt 4 0) (T_alloc tb_25) ?_
  refine s0 (T_st (ds' := [dI .i64 x141.1.vBase, dL cS x141.1.vQueue, dI .i64 x141.1.vWant, dL c_Held x141.1.vHeld]) tb_25) ?_
  refine s1 T_as ?_
  refine .nil (hK _ _ ?_)
  iterate 2 refine AW.seq ?_
  obtain ⟨a88_0, hy, h⟩ := bnd_some h
  refine jn ((PE cx .normal (fun a88_0 => [(0, dL c_Op p_l), (2, .pt 0 0), (4, .pt 1 0), (5, dI .i64 a9_0), (6, dI .i64 x8), (15, .pt 2 0), (243, dB a88_0)]) fun a88_0 => ⟨[(0, [dI .i64 (0 : Int), dN, dI .i64 (0 : Int), dN, dI .i64 (0 : Int), dN, dI .i64 (0 : Int), dN, dN, dN, dN, dN, dN, dI .i64 (0 : Int), dN, dI .i64 (0 : Int), dN, dI .i64 (0 : Int), dN, dI .i64 (0 : Int), dN, dN, dN, dN, dN, dN]), (1, [dI .i64 a9_1.vBase, dL cS a9_1.vQueue, dI .i64 a9_1.vWant, dL c_Held a9_1.vHeld, dI .i64 a9_2.vBase, dL cS a9_2.vQueue, dI .i64 a9_2.vWant, dL c_Held a9_2.vHeld, dL cS a9_3, dL cS a9_4, dL cS a9_11, dL cS a9_12, dO 3 c_Frame a9_5, dI .i64 a9_6.vBase, dL cS a9_6.vQueue, dI .i64 a9_6.vWant, dL c_Held a9_6.vHeld, dI .i64 a9_7.vBase, dL cS a9_7.vQueue, dI .i64 a9_7.vWant, dL c_Held a9_7.vHeld, dL cS a9_8, dL cS a9_9, dL cS a9_13, dL cS a9_14, dO 4 c_Frame a9_10]), (2, [dI .i64 x141.1.vBase, dL cS x141.1.vQueue, dI .i64 x141.1.vWant, dL c_Held x141.1.vHeld])], [(3, (a9_5).length, 3, 27), (4, (a9_10).length, 3, 27)], 5⟩) a88_0) ?_ ?_
  replace h := hy
  refine rg hx (by kernel_rfl) fun K hK => ?_
  refine s1 T_mv ?_
  refine s1 T_neq ?_
  refine s1 T_mv ?_
  rcases Bool.eq_false_or_eq_true (decide (a83_1 ≠ (0 : Int))) with hb143 | hb143
  replace h := cnd_t hb143 h
  iterate 2 refine no_t rfl rfl hb143 ?_
  refine s1 (d := dB true) (T_pickT hb143) ?_
  refine .nil (hK _ _ ?_)
  obtain rfl := Option.some.inj h
  exact PE.i (wk h0 [0, 1, 4, 2, 3] (wR rfl (wR rfl (wR rfl (wR rfl (wR rfl (wR rfl (wR rfl wTn))))))) (vR rfl (vR rfl (vR rfl wVn))) (wL rfl rfl (wL rfl rfl wLn)))
  replace h := cnd_f hb143 h
  refine g1 hb143 T_mv ?_
  refine g1 hb143 T_neq ?_
  refine s1 (d := dB (decide (x141.2 ≠ (0 : Int)))) (T_pickF hb143) ?_
  refine .nil (hK _ _ ?_)
  obtain rfl := Option.some.inj h
  exact PE.i (wk h0 [0, 1, 4, 2, 3] (wR rfl (wR rfl (wR rfl (wR rfl (wR rfl (wR rfl (wR rfl wTn))))))) (vR rfl (vR rfl (vR rfl wVn))) (wL rfl rfl (wL rfl rfl wLn)))
  rintro ex tm' hp' ⟨rfl, hw⟩
  refine AW.weak hw ?_
  refine AW.condS rfl (fun hb145 => ?_) (fun hb145 => ?_)
  replace h := cnd_t hb145 h
  refine AW.seq ?_
  refine rg hx (by kernel_rfl) fun K hK => ?_
  refine s1 (d := .ag [dI .i64 a9_1.vBase, dL cS a9_1.vQueue, dI .i64 a9_1.vWant, dL c_Held a9_1.vHeld, dI .i64 a9_2.vBase, dL cS a9_2.vQueue, dI .i64 a9_2.vWant, dL c_Held a9_2.vHeld, dL cS a9_3, dL cS a9_4, dL cS a9_11, dL cS a9_12, dO 3 c_Frame a9_5, dI .i64 a9_6.vBase, dL cS a9_6.vQueue, dI .i64 a9_6.vWant, dL c_Held a9_6.vHeld, dI .i64 a9_7.vBase, dL cS a9_7.vQueue, dI .i64 a9_7.vWant, dL c_Held a9_7.vHeld, dL cS a9_8, dL cS a9_9, dL cS a9_13, dL cS a9_14, dO 4 c_Frame a9_10]) (T_ldA tb_69) ?_
  refine s0 (T_st (ds' := [dI .i64 a9_1.vBase, dL cS a9_1.vQueue, dI .i64 a9_1.vWant, dL c_Held a9_1.vHeld, dI .i64 a9_2.vBase, dL cS a9_2.vQueue, dI .i64 a9_2.vWant, dL c_Held a9_2.vHeld, dL cS a9_3, dL cS a9_4, dL cS a9_11, dL cS a9_12, dO 3 c_Frame a9_5, dI .i64 a9_6.vBase, dL cS a9_6.vQueue, dI .i64 a9_6.vWant, dL c_Held a9_6.vHeld, dI .i64 a9_7.vBase, dL cS a9_7.vQueue, dI .i64 a9_7.vWant, dL c_Held a9_7.vHeld, dL cS a9_8, dL cS a9_9, dL cS a9_13, dL cS a9_14, dO 4 c_Frame a9_10]) tb_69) ?_
  refine s1 (d := dB false) T_asg ?_
  refine .nil (hK _ _ ?_)
  refine AW.ret ?_
  obtain rfl := Option.some.inj h
  refine PS.r (PR.i ?_)
  exact RetV.mk2 (resD_a (es := [dI .i64 a9_1.vBase, dL cS a9_1.vQueue, dI .i64 a9_1.vWant, dL c_Held a9_1.vHeld, dI .i64 a9_2.vBase, dL cS a9_2.vQueue, dI .i64 a9_2.vWant, dL c_Held a9_2.vHeld, dL cS a9_3, dL cS a9_4, dL cS a9_11, dL cS a9_12, dO 3 c_Frame a9_5, dI .i64 a9_6.vBase, dL cS a9_6.vQueue, dI .i64 a9_6.vWant, dL c_Held a9_6.vHeld, dI .i64 a9_7.vBase, dL cS a9_7.vQueue, dI .i64 a9_7.vWant, dL c_Held a9_7.vHeld, dL cS a9_8, dL cS a9_9, dL cS a9_13, dL cS a9_14, dO 4 c_Frame a9_10]) rfl tb_69 rfl rfl (ltb rfl) (leb rfl) rfl (resD_t rfl (.inr ⟨_, _, (le_ag (wc (lc_r _) (wc (lc_r _) (wc (lc_r _) (wc (lc_r _) (wc (lc_r _) (wc (lc_r _) (wc (lc_r _) (wc (lc_r _) (wc (lc_r _) (wc (lc_r _) (wc (lc_r _) (wc (lc_r _) (wc (lc_x _) (wc (lc_r _) (wc (lc_r _) (wc (lc_r _) (wc (lc_r _) (wc (lc_r _) (wc (lc_r _) (wc (lc_r _) (wc (lc_r _) (wc (lc_r _) (wc (lc_r _) (wc (lc_r _) (wc (lc_r _) (wc (lc_x _) wcn))))))))))))))))))))))))))), (le_refl' _), ⟨rfl, rfl⟩, rfl⟩)))
  replace h := cnd_f hb145 h
  refine AW.skip ?_
  refine AW.seq ?_
  obtain ⟨y, hy, h⟩ := bnd_some h
  refine jn ((PE cx .normal (fun (a95_0, a95_1) => [(0, dL c_Op p_l), (2, .pt 0 0), (4, .pt 1 0), (5, dI .i64 a9_0), (6, dI .i64 x8)]) fun (a95_0, a95_1) => ⟨[(0, [dI .i64 (0 : Int), dN, dI .i64 (0 : Int), dN, dI .i64 (0 : Int), dN, dI .i64 (0 : Int), dN, dN, dN, dN, dN, dN, dI .i64 (0 : Int), dN, dI .i64 (0 : Int), dN, dI .i64 (0 : Int), dN, dI .i64 (0 : Int), dN, dN, dN, dN, dN, dN]), (1, [dI .i64 a9_1.vBase, dL cS a9_1.vQueue, dI .i64 a9_1.vWant, dL c_Held a9_1.vHeld, dI .i64 a95_0.vBase, dL cS a95_0.vQueue, dI .i64 a95_0.vWant, dL c_Held a95_0.vHeld, dL cS a9_3, dL cS a9_4, dL cS a9_11, dL cS a9_12, dO 2 c_Frame a9_5, dI .i64 a9_6.vBase, dL cS a9_6.vQueue, dI .i64 a9_6.vWant, dL c_Held a9_6.vHeld, dI .i64 a95_1.vBase, dL cS a95_1.vQueue, dI .i64 a95_1.vWant, dL c_Held a95_1.vHeld, dL cS a9_8, dL cS a9_9, dL cS a9_13, dL cS a9_14, dO 3 c_Frame a9_10])], [(2, (a9_5).length, 3, 27), (3, (a9_10).length, 3, 27)], 4⟩) y) ?_ ?_
  replace h := hy
  refine rg hx (by kernel_rfl) fun K hK => ?_
  refine s1 T_mv ?_
  refine s1 (d := dG c_End x141.1) (T_ldA tb_25) ?_
  rcases Bool.eq_false_or_eq_true (decide (x8 = 0)) with hb146 | hb146
  replace h := cnd_t hb146 h
  refine s1 (T_iaK (n0 := 0) (n := 2) (v := x8) (of_decide_eq_true hb146) (by have := of_decide_eq_true hb146; omega) tb_69 tb_68) ?_
  refine s1 (T_faP tb_68 tb_25) ?_
  refine s0 (T_st (ds' := [dI .i64 a9_1.vBase, dL cS a9_1.vQueue, dI .i64 a9_1.vWant, dL c_Held a9_1.vHeld, dI .i64 x141.1.vBase, dL cS x141.1.vQueue, dI .i64 x141.1.vWant, dL c_Held x141.1.vHeld, dL cS a9_3, dL cS a9_4, dL cS a9_11, dL cS a9_12, dO 3 c_Frame a9_5, dI .i64 a9_6.vBase, dL cS a9_6.vQueue, dI .i64 a9_6.vWant, dL c_Held a9_6.vHeld, dI .i64 a9_7.vBase, dL cS a9_7.vQueue, dI .i64 a9_7.vWant, dL c_Held a9_7.vHeld, dL cS a9_8, dL cS a9_9, dL cS a9_13, dL cS a9_14, dO 4 c_Frame a9_10]) tb_25) ?_
  refine .nil (hK _ _ ?_)
  obtain rfl := Option.some.inj h
  exact PE.i (wk h0 [0, 1, 3, 4] (wR rfl (wR rfl (wR rfl (wR rfl (wR rfl wTn))))) (vR rfl (vR rfl wVn)) (wL rfl rfl (wL rfl rfl wLn)))
  replace h := cnd_f hb146 h
  obtain ⟨hc147, h⟩ := gd_some h
  have hv148 : x8 = (1 : Int) := by have := of_decide_eq_false hb146; omega
  refine s1 (T_iaK (n0 := 1) hv148 hc147 tb_69 tb_68) ?_
  refine s1 (T_faP tb_68 tb_25) ?_
  refine s0 (T_st (ds' := [dI .i64 a9_1.vBase, dL cS a9_1.vQueue, dI .i64 a9_1.vWant, dL c_Held a9_1.vHeld, dI .i64 a9_2.vBase, dL cS a9_2.vQueue, dI .i64 a9_2.vWant, dL c_Held a9_2.vHeld, dL cS a9_3, dL cS a9_4, dL cS a9_11, dL cS a9_12, dO 3 c_Frame a9_5, dI .i64 a9_6.vBase, dL cS a9_6.vQueue, dI .i64 a9_6.vWant, dL c_Held a9_6.vHeld, dI .i64 x141.1.vBase, dL cS x141.1.vQueue, dI .i64 x141.1.vWant, dL c_Held x141.1.vHeld, dL cS a9_8, dL cS a9_9, dL cS a9_13, dL cS a9_14, dO 4 c_Frame a9_10]) tb_25) ?_
  refine .nil (hK _ _ ?_)
  obtain rfl := Option.some.inj h
  exact PE.i (wk h0 [0, 1, 3, 4] (wR rfl (wR rfl (wR rfl (wR rfl (wR rfl wTn))))) (vR rfl (vR rfl wVn)) (wL rfl rfl (wL rfl rfl wLn)))
  obtain ⟨a95_0, a95_1⟩ := y
  rintro ex tm' hp' ⟨rfl, hw⟩
  refine AW.weak hw ?_
  refine AW.seq ?_
  obtain ⟨y, hy, h⟩ := bnd_some h
  refine jn ((PE cx .normal (fun (a97_0, a97_1) => [(0, dL c_Op p_l), (2, .pt 0 0), (4, .pt 1 0), (5, dI .i64 a9_0), (6, dI .i64 x8)]) fun (a97_0, a97_1) => ⟨[(0, [dI .i64 (0 : Int), dN, dI .i64 (0 : Int), dN, dI .i64 (0 : Int), dN, dI .i64 (0 : Int), dN, dN, dN, dN, dN, dN, dI .i64 (0 : Int), dN, dI .i64 (0 : Int), dN, dI .i64 (0 : Int), dN, dI .i64 (0 : Int), dN, dN, dN, dN, dN, dN]), (1, [dI .i64 a9_1.vBase, dL cS a9_1.vQueue, dI .i64 a9_1.vWant, dL c_Held a9_1.vHeld, dI .i64 a95_0.vBase, dL cS a95_0.vQueue, dI .i64 a95_0.vWant, dL c_Held a95_0.vHeld, dL cS a9_3, dL cS a9_4, dL cS a97_0, dL cS a9_12, dO 2 c_Frame a9_5, dI .i64 a9_6.vBase, dL cS a9_6.vQueue, dI .i64 a9_6.vWant, dL c_Held a9_6.vHeld, dI .i64 a95_1.vBase, dL cS a95_1.vQueue, dI .i64 a95_1.vWant, dL c_Held a95_1.vHeld, dL cS a9_8, dL cS a9_9, dL cS a97_1, dL cS a9_14, dO 3 c_Frame a9_10])], [(2, (a9_5).length, 3, 27), (3, (a9_10).length, 3, 27)], 4⟩) y) ?_ ?_
  replace h := hy
  refine rg hx (by kernel_rfl) fun K hK => ?_
  iterate 2 refine s1 T_mv ?_
  rcases Bool.eq_false_or_eq_true (decide (x8 = 0)) with hb150 | hb150
  replace h := cnd_t hb150 h
  refine s1 (T_iaK (n0 := 0) (n := 2) (v := x8) (of_decide_eq_true hb150) (by have := of_decide_eq_true hb150; omega) tb_69 tb_68) ?_
  refine s1 (T_faP tb_68 tb_22) ?_
  refine s1 (d := dL cS a9_3) (T_ldC tb_22) ?_
  refine s1 (T_iaK (n0 := 0) (n := 2) (v := x8) (of_decide_eq_true hb150) (by have := of_decide_eq_true hb150; omega) tb_69 tb_68) ?_
  refine s1 (T_faP tb_68 tb_22) ?_
  refine s0 (T_st (ds' := [dI .i64 a9_1.vBase, dL cS a9_1.vQueue, dI .i64 a9_1.vWant, dL c_Held a9_1.vHeld, dI .i64 a95_0.vBase, dL cS a95_0.vQueue, dI .i64 a95_0.vWant, dL c_Held a95_0.vHeld, dL cS a9_3, dL cS a9_4, dL cS a9_3, dL cS a9_12, dO 2 c_Frame a9_5, dI .i64 a9_6.vBase, dL cS a9_6.vQueue, dI .i64 a9_6.vWant, dL c_Held a9_6.vHeld, dI .i64 a95_1.vBase, dL cS a95_1.vQueue, dI .i64 a95_1.vWant, dL c_Held a95_1.vHeld, dL cS a9_8, dL cS a9_9, dL cS a9_13, dL cS a9_14, dO 3 c_Frame a9_10]) tb_22) ?_
  refine .nil (hK _ _ ?_)
  obtain rfl := Option.some.inj h
  exact PE.i (wk h0 [0, 1, 2, 3] (wR rfl (wR rfl (wR rfl (wR rfl (wR rfl wTn))))) (vR rfl (vR rfl wVn)) (wL rfl rfl (wL rfl rfl wLn)))
  replace h := cnd_f hb150 h
  obtain ⟨hc151, h⟩ := gd_some h
  have hv152 : x8 = (1 : Int) := by have := of_decide_eq_false hb150; omega
  refine s1 (T_iaK (n0 := 1) hv152 hc151 tb_69 tb_68) ?_
  refine s1 (T_faP tb_68 tb_22) ?_
  refine s1 (d := dL cS a9_8) (T_ldC tb_22) ?_
  refine s1 (T_iaK (n0 := 1) (n := 2) (v := x8) (hv152) (by have := hv152; omega) tb_69 tb_68) ?_
  refine s1 (T_faP tb_68 tb_22) ?_
  refine s0 (T_st (ds' := [dI .i64 a9_1.vBase, dL cS a9_1.vQueue, dI .i64 a9_1.vWant, dL c_Held a9_1.vHeld, dI .i64 a95_0.vBase, dL cS a95_0.vQueue, dI .i64 a95_0.vWant, dL c_Held a95_0.vHeld, dL cS a9_3, dL cS a9_4, dL cS a9_11, dL cS a9_12, dO 2 c_Frame a9_5, dI .i64 a9_6.vBase, dL cS a9_6.vQueue, dI .i64 a9_6.vWant, dL c_Held a9_6.vHeld, dI .i64 a95_1.vBase, dL cS a95_1.vQueue, dI .i64 a95_1.vWant, dL c_Held a95_1.vHeld, dL cS a9_8, dL cS a9_9, dL cS a9_8, dL cS a9_14, dO 3 c_Frame a9_10]) tb_22) ?_
  refine .nil (hK _ _ ?_)
  obtain rfl := Option.some.inj h
  exact PE.i (wk h0 [0, 1, 2, 3] (wR rfl (wR rfl (wR rfl (wR rfl (wR rfl wTn))))) (vR rfl (vR rfl wVn)) (wL rfl rfl (wL rfl rfl wLn)))
  obtain ⟨a97_0, a97_1⟩ := y
  rintro ex tm' hp' ⟨rfl, hw⟩
  refine AW.weak hw ?_
  refine rg hx (by kernel_rfl) fun K hK => ?_
  iterate 2 refine s1 T_mv ?_
  rcases Bool.eq_false_or_eq_true (decide (x8 = 0)) with hb154 | hb154
  replace h := cnd_t hb154 h
  refine s1 (T_iaK (n0 := 0) (n := 2) (v := x8) (of_decide_eq_true hb154) (by have := of_decide_eq_true hb154; omega) tb_69 tb_68) ?_
  refine s1 (T_faP tb_68 tb_22) ?_
  refine s1 (d := dL cS a9_4) (T_ldC tb_22) ?_
  refine s1 (T_iaK (n0 := 0) (n := 2) (v := x8) (of_decide_eq_true hb154) (by have := of_decide_eq_true hb154; omega) tb_69 tb_68) ?_
  refine s1 (T_faP tb_68 tb_22) ?_
  refine s0 (T_st (ds' := [dI .i64 a9_1.vBase, dL cS a9_1.vQueue, dI .i64 a9_1.vWant, dL c_Held a9_1.vHeld, dI .i64 a95_0.vBase, dL cS a95_0.vQueue, dI .i64 a95_0.vWant, dL c_Held a95_0.vHeld, dL cS a9_3, dL cS a9_4, dL cS a97_0, dL cS a9_4, dO 2 c_Frame a9_5, dI .i64 a9_6.vBase, dL cS a9_6.vQueue, dI .i64 a9_6.vWant, dL c_Held a9_6.vHeld, dI .i64 a95_1.vBase, dL cS a95_1.vQueue, dI .i64 a95_1.vWant, dL c_Held a95_1.vHeld, dL cS a9_8, dL cS a9_9, dL cS a97_1, dL cS a9_14, dO 3 c_Frame a9_10]) tb_22) ?_
  refine .nil (hK _ _ ?_)
  obtain rfl := Option.some.inj h
  exact PS.l (PE.i (wk h0 [0, 1, 2, 3] (wR rfl (wR rfl (wR rfl (wR rfl wTn)))) (vR rfl (vR rfl wVn)) (wL rfl rfl (wL rfl rfl wLn))))
  replace h := cnd_f hb154 h
  obtain ⟨hc155, h⟩ := gd_some h
  have hv156 : x8 = (1 : Int) := by have := of_decide_eq_false hb154; omega
  refine s1 (T_iaK (n0 := 1) hv156 hc155 tb_69 tb_68) ?_
  refine s1 (T_faP tb_68 tb_22) ?_
  refine s1 (d := dL cS a9_9) (T_ldC tb_22) ?_
  refine s1 (T_iaK (n0 := 1) (n := 2) (v := x8) (hv156) (by have := hv156; omega) tb_69 tb_68) ?_
  refine s1 (T_faP tb_68 tb_22) ?_
  refine s0 (T_st (ds' := [dI .i64 a9_1.vBase, dL cS a9_1.vQueue, dI .i64 a9_1.vWant, dL c_Held a9_1.vHeld, dI .i64 a95_0.vBase, dL cS a95_0.vQueue, dI .i64 a95_0.vWant, dL c_Held a95_0.vHeld, dL cS a9_3, dL cS a9_4, dL cS a97_0, dL cS a9_12, dO 2 c_Frame a9_5, dI .i64 a9_6.vBase, dL cS a9_6.vQueue, dI .i64 a9_6.vWant, dL c_Held a9_6.vHeld, dI .i64 a95_1.vBase, dL cS a95_1.vQueue, dI .i64 a95_1.vWant, dL c_Held a95_1.vHeld, dL cS a9_8, dL cS a9_9, dL cS a97_1, dL cS a9_9, dO 3 c_Frame a9_10]) tb_22) ?_
  refine .nil (hK _ _ ?_)
  obtain rfl := Option.some.inj h
  exact PS.l (PE.i (wk h0 [0, 1, 2, 3] (wR rfl (wR rfl (wR rfl (wR rfl wTn)))) (vR rfl (vR rfl wVn)) (wL rfl rfl (wL rfl rfl wLn))))
  replace h := cnd_f hb132 h
  refine AW.seq ?_
  obtain ⟨y, hy, h⟩ := bnd_some h
  refine jn ((PE cx .normal (fun (a100_0, a100_1) => [(0, dL c_Op p_l), (2, .pt 0 0), (4, .pt 1 0), (5, dI .i64 a9_0), (6, dI .i64 x8)]) fun (a100_0, a100_1) => ⟨[(0, [dI .i64 (0 : Int), dN, dI .i64 (0 : Int), dN, dI .i64 (0 : Int), dN, dI .i64 (0 : Int), dN, dN, dN, dN, dN, dN, dI .i64 (0 : Int), dN, dI .i64 (0 : Int), dN, dI .i64 (0 : Int), dN, dI .i64 (0 : Int), dN, dN, dN, dN, dN, dN]), (1, [dI .i64 a100_0.vBase, dL cS a100_0.vQueue, dI .i64 a100_0.vWant, dL c_Held a100_0.vHeld, dI .i64 a9_2.vBase, dL cS a9_2.vQueue, dI .i64 a9_2.vWant, dL c_Held a9_2.vHeld, dL cS a9_3, dL cS a9_4, dL cS a9_11, dL cS a9_12, dO 2 c_Frame a9_5, dI .i64 a100_1.vBase, dL cS a100_1.vQueue, dI .i64 a100_1.vWant, dL c_Held a100_1.vHeld, dI .i64 a9_7.vBase, dL cS a9_7.vQueue, dI .i64 a9_7.vWant, dL c_Held a9_7.vHeld, dL cS a9_8, dL cS a9_9, dL cS a9_13, dL cS a9_14, dO 3 c_Frame a9_10])], [(2, (a9_5).length, 3, 27), (3, (a9_10).length, 3, 27)], 4⟩) y) ?_ ?_
  replace h := hy
  refine rg hx (by kernel_rfl) fun K hK => ?_
  iterate 2 refine s1 T_mv ?_
  rcases Bool.eq_false_or_eq_true (decide (x8 = 0)) with hb157 | hb157
  replace h := cnd_t hb157 h
  refine s1 (T_iaK (n0 := 0) (n := 2) (v := x8) (of_decide_eq_true hb157) (by have := of_decide_eq_true hb157; omega) tb_69 tb_68) ?_
  refine s1 (T_faP tb_68 tb_25) ?_
  refine s1 (d := dG c_End a9_2) (T_ldA tb_25) ?_
  refine s1 (T_iaK (n0 := 0) (n := 2) (v := x8) (of_decide_eq_true hb157) (by have := of_decide_eq_true hb157; omega) tb_69 tb_68) ?_
  refine s1 (T_faP tb_68 tb_25) ?_
  refine s0 (T_st (ds' := [dI .i64 a9_2.vBase, dL cS a9_2.vQueue, dI .i64 a9_2.vWant, dL c_Held a9_2.vHeld, dI .i64 a9_2.vBase, dL cS a9_2.vQueue, dI .i64 a9_2.vWant, dL c_Held a9_2.vHeld, dL cS a9_3, dL cS a9_4, dL cS a9_11, dL cS a9_12, dO 2 c_Frame a9_5, dI .i64 a9_6.vBase, dL cS a9_6.vQueue, dI .i64 a9_6.vWant, dL c_Held a9_6.vHeld, dI .i64 a9_7.vBase, dL cS a9_7.vQueue, dI .i64 a9_7.vWant, dL c_Held a9_7.vHeld, dL cS a9_8, dL cS a9_9, dL cS a9_13, dL cS a9_14, dO 3 c_Frame a9_10]) tb_25) ?_
  refine .nil (hK _ _ ?_)
  obtain rfl := Option.some.inj h
  exact PE.i (wk h0 [0, 1, 2, 3] (wR rfl (wR rfl (wR rfl (wR rfl (wR rfl wTn))))) (vR rfl (vR rfl wVn)) (wL rfl rfl (wL rfl rfl wLn)))
  replace h := cnd_f hb157 h
  obtain ⟨hc158, h⟩ := gd_some h
  have hv159 : x8 = (1 : Int) := by have := of_decide_eq_false hb157; omega
  refine s1 (T_iaK (n0 := 1) hv159 hc158 tb_69 tb_68) ?_
  refine s1 (T_faP tb_68 tb_25) ?_
  refine s1 (d := dG c_End a9_7) (T_ldA tb_25) ?_
  refine s1 (T_iaK (n0 := 1) (n := 2) (v := x8) (hv159) (by have := hv159; omega) tb_69 tb_68) ?_
  refine s1 (T_faP tb_68 tb_25) ?_
  refine s0 (T_st (ds' := [dI .i64 a9_1.vBase, dL cS a9_1.vQueue, dI .i64 a9_1.vWant, dL c_Held a9_1.vHeld, dI .i64 a9_2.vBase, dL cS a9_2.vQueue, dI .i64 a9_2.vWant, dL c_Held a9_2.vHeld, dL cS a9_3, dL cS a9_4, dL cS a9_11, dL cS a9_12, dO 2 c_Frame a9_5, dI .i64 a9_7.vBase, dL cS a9_7.vQueue, dI .i64 a9_7.vWant, dL c_Held a9_7.vHeld, dI .i64 a9_7.vBase, dL cS a9_7.vQueue, dI .i64 a9_7.vWant, dL c_Held a9_7.vHeld, dL cS a9_8, dL cS a9_9, dL cS a9_13, dL cS a9_14, dO 3 c_Frame a9_10]) tb_25) ?_
  refine .nil (hK _ _ ?_)
  obtain rfl := Option.some.inj h
  exact PE.i (wk h0 [0, 1, 2, 3] (wR rfl (wR rfl (wR rfl (wR rfl (wR rfl wTn))))) (vR rfl (vR rfl wVn)) (wL rfl rfl (wL rfl rfl wLn)))
  obtain ⟨a100_0, a100_1⟩ := y
  rintro ex tm' hp' ⟨rfl, hw⟩
  refine AW.weak hw ?_
  refine AW.seq ?_
  obtain ⟨y, hy, h⟩ := bnd_some h
  refine jn ((PE cx .normal (fun (a102_0, a102_1) => [(0, dL c_Op p_l), (2, .pt 0 0), (4, .pt 1 0), (5, dI .i64 a9_0), (6, dI .i64 x8)]) fun (a102_0, a102_1) => ⟨[(0, [dI .i64 (0 : Int), dN, dI .i64 (0 : Int), dN, dI .i64 (0 : Int), dN, dI .i64 (0 : Int), dN, dN, dN, dN, dN, dN, dI .i64 (0 : Int), dN, dI .i64 (0 : Int), dN, dI .i64 (0 : Int), dN, dI .i64 (0 : Int), dN, dN, dN, dN, dN, dN]), (1, [dI .i64 a100_0.vBase, dL cS a100_0.vQueue, dI .i64 a100_0.vWant, dL c_Held a100_0.vHeld, dI .i64 a9_2.vBase, dL cS a9_2.vQueue, dI .i64 a9_2.vWant, dL c_Held a9_2.vHeld, dL cS a102_0, dL cS a9_4, dL cS a9_11, dL cS a9_12, dO 2 c_Frame a9_5, dI .i64 a100_1.vBase, dL cS a100_1.vQueue, dI .i64 a100_1.vWant, dL c_Held a100_1.vHeld, dI .i64 a9_7.vBase, dL cS a9_7.vQueue, dI .i64 a9_7.vWant, dL c_Held a9_7.vHeld, dL cS a102_1, dL cS a9_9, dL cS a9_13, dL cS a9_14, dO 3 c_Frame a9_10])], [(2, (a9_5).length, 3, 27), (3, (a9_10).length, 3, 27)], 4⟩) y) ?_ ?_
  replace h := hy
  refine rg hx (by kernel_rfl) fun K hK => ?_
  iterate 2 refine s1 T_mv ?_
  rcases Bool.eq_false_or_eq_true (decide (x8 = 0)) with hb161 | hb161
  replace h := cnd_t hb161 h
  refine s1 (T_iaK (n0 := 0) (n := 2) (v := x8) (of_decide_eq_true hb161) (by have := of_decide_eq_true hb161; omega) tb_69 tb_68) ?_
  refine s1 (T_faP tb_68 tb_22) ?_
  refine s1 (d := dL cS a9_11) (T_ldC tb_22) ?_
  refine s1 (T_iaK (n0 := 0) (n := 2) (v := x8) (of_decide_eq_true hb161) (by have := of_decide_eq_true hb161; omega) tb_69 tb_68) ?_
  refine s1 (T_faP tb_68 tb_22) ?_
  refine s0 (T_st (ds' := [dI .i64 a100_0.vBase, dL cS a100_0.vQueue, dI .i64 a100_0.vWant, dL c_Held a100_0.vHeld, dI .i64 a9_2.vBase, dL cS a9_2.vQueue, dI .i64 a9_2.vWant, dL c_Held a9_2.vHeld, dL cS a9_11, dL cS a9_4, dL cS a9_11, dL cS a9_12, dO 2 c_Frame a9_5, dI .i64 a100_1.vBase, dL cS a100_1.vQueue, dI .i64 a100_1.vWant, dL c_Held a100_1.vHeld, dI .i64 a9_7.vBase, dL cS a9_7.vQueue, dI .i64 a9_7.vWant, dL c_Held a9_7.vHeld, dL cS a9_8, dL cS a9_9, dL cS a9_13, dL cS a9_14, dO 3 c_Frame a9_10]) tb_22) ?_
  refine .nil (hK _ _ ?_)
  obtain rfl := Option.some.inj h
  exact PE.i (wk h0 [0, 1, 2, 3] (wR rfl (wR rfl (wR rfl (wR rfl (wR rfl wTn))))) (vR rfl (vR rfl wVn)) (wL rfl rfl (wL rfl rfl wLn)))
  replace h := cnd_f hb161 h
  obtain ⟨hc162, h⟩ := gd_some h
  have hv163 : x8 = (1 : Int) := by have := of_decide_eq_false hb161; omega
  refine s1 (T_iaK (n0 := 1) hv163 hc162 tb_69 tb_68) ?_
  refine s1 (T_faP tb_68 tb_22) ?_
  refine s1 (d := dL cS a9_13) (T_ldC tb_22) ?_
  refine s1 (T_iaK (n0 := 1) (n := 2) (v := x8) (hv163) (by have := hv163; omega) tb_69 tb_68) ?_
  refine s1 (T_faP tb_68 tb_22) ?_
  refine s0 (T_st (ds' := [dI .i64 a100_0.vBase, dL cS a100_0.vQueue, dI .i64 a100_0.vWant, dL c_Held a100_0.vHeld, dI .i64 a9_2.vBase, dL cS a9_2.vQueue, dI .i64 a9_2.vWant, dL c_Held a9_2.vHeld, dL cS a9_3, dL cS a9_4, dL cS a9_11, dL cS a9_12, dO 2 c_Frame a9_5, dI .i64 a100_1.vBase, dL cS a100_1.vQueue, dI .i64 a100_1.vWant, dL c_Held a100_1.vHeld, dI .i64 a9_7.vBase, dL cS a9_7.vQueue, dI .i64 a9_7.vWant, dL c_Held a9_7.vHeld, dL cS a9_13, dL cS a9_9, dL cS a9_13, dL cS a9_14, dO 3 c_Frame a9_10]) tb_22) ?_
  refine .nil (hK _ _ ?_)
  obtain rfl := Option.some.inj h
  exact PE.i (wk h0 [0, 1, 2, 3] (wR rfl (wR rfl (wR rfl (wR rfl (wR rfl wTn))))) (vR rfl (vR rfl wVn)) (wL rfl rfl (wL rfl rfl wLn)))
  obtain ⟨a102_0, a102_1⟩ := y
  rintro ex tm' hp' ⟨rfl, hw⟩
  refine AW.weak hw ?_
  refine rg hx (by kernel_rfl) fun K hK => ?_
  iterate 2 refine s1 T_mv ?_
  rcases Bool.eq_false_or_eq_true (decide (x8 = 0)) with hb165 | hb165
  replace h := cnd_t hb165 h
  refine s1 (T_iaK (n0 := 0) (n := 2) (v := x8) (of_decide_eq_true hb165) (by have := of_decide_eq_true hb165; omega) tb_69 tb_68) ?_
  refine s1 (T_faP tb_68 tb_22) ?_
  refine s1 (d := dL cS a9_12) (T_ldC tb_22) ?_
  refine s1 (T_iaK (n0 := 0) (n := 2) (v := x8) (of_decide_eq_true hb165) (by have := of_decide_eq_true hb165; omega) tb_69 tb_68) ?_
  refine s1 (T_faP tb_68 tb_22) ?_
  refine s0 (T_st (ds' := [dI .i64 a100_0.vBase, dL cS a100_0.vQueue, dI .i64 a100_0.vWant, dL c_Held a100_0.vHeld, dI .i64 a9_2.vBase, dL cS a9_2.vQueue, dI .i64 a9_2.vWant, dL c_Held a9_2.vHeld, dL cS a102_0, dL cS a9_12, dL cS a9_11, dL cS a9_12, dO 2 c_Frame a9_5, dI .i64 a100_1.vBase, dL cS a100_1.vQueue, dI .i64 a100_1.vWant, dL c_Held a100_1.vHeld, dI .i64 a9_7.vBase, dL cS a9_7.vQueue, dI .i64 a9_7.vWant, dL c_Held a9_7.vHeld, dL cS a102_1, dL cS a9_9, dL cS a9_13, dL cS a9_14, dO 3 c_Frame a9_10]) tb_22) ?_
  refine .nil (hK _ _ ?_)
  obtain rfl := Option.some.inj h
  exact PS.l (PE.i (wk h0 [0, 1, 2, 3] (wR rfl (wR rfl (wR rfl (wR rfl wTn)))) (vR rfl (vR rfl wVn)) (wL rfl rfl (wL rfl rfl wLn))))
  replace h := cnd_f hb165 h
  obtain ⟨hc166, h⟩ := gd_some h
  have hv167 : x8 = (1 : Int) := by have := of_decide_eq_false hb165; omega
  refine s1 (T_iaK (n0 := 1) hv167 hc166 tb_69 tb_68) ?_
  refine s1 (T_faP tb_68 tb_22) ?_
  refine s1 (d := dL cS a9_14) (T_ldC tb_22) ?_
  refine s1 (T_iaK (n0 := 1) (n := 2) (v := x8) (hv167) (by have := hv167; omega) tb_69 tb_68) ?_
  refine s1 (T_faP tb_68 tb_22) ?_
  refine s0 (T_st (ds' := [dI .i64 a100_0.vBase, dL cS a100_0.vQueue, dI .i64 a100_0.vWant, dL c_Held a100_0.vHeld, dI .i64 a9_2.vBase, dL cS a9_2.vQueue, dI .i64 a9_2.vWant, dL c_Held a9_2.vHeld, dL cS a102_0, dL cS a9_4, dL cS a9_11, dL cS a9_12, dO 2 c_Frame a9_5, dI .i64 a100_1.vBase, dL cS a100_1.vQueue, dI .i64 a100_1.vWant, dL c_Held a100_1.vHeld, dI .i64 a9_7.vBase, dL cS a9_7.vQueue, dI .i64 a9_7.vWant, dL c_Held a9_7.vHeld, dL cS a102_1, dL cS a9_14, dL cS a9_13, dL cS a9_14, dO 3 c_Frame a9_10]) tb_22) ?_
  refine .nil (hK _ _ ?_)
  obtain rfl := Option.some.inj h
  exact PS.l (PE.i (wk h0 [0, 1, 2, 3] (wR rfl (wR rfl (wR rfl (wR rfl wTn)))) (vR rfl (vR rfl wVn)) (wL rfl rfl (wL rfl rfl wLn))))
  rcases y with ⟨a17_0, a17_1, a17_2, a17_3, a17_4, a17_5, a17_6, a17_7, a17_8, a17_9, a17_10, a17_11, a17_12, a17_13⟩ | r
  rintro ex tm' hp' ⟨rfl, hw⟩
  refine AW.weak hw ?_
  refine rg hx (by kernel_rfl) fun K hK => ?_
  refine s1 T_mv ?_
  refine s1 T_add ?_
  refine s1 T_as ?_
  refine .nil (hK _ _ ?_)
  obtain rfl := Option.some.inj h
  exact PS.l (PE.i (wk h0 [0, 1, 2, 3] (wR rfl (wR rfl (wR rfl (wR rfl wTn)))) (vR rfl (vR rfl wVn)) (wL rfl rfl (wL rfl rfl wLn))))
  rintro ex tm' hp' ⟨rfl, hw⟩
  obtain rfl := Option.some.inj h
  exact PS.r ⟨by nofun, PS.l (PR.i hw)⟩
  replace h := cnd_f hb5 h
  refine AW.exit ?_
  try dsimp only
  try simp only [if_true, reduceIte, Nat.reduceEqDiff, reduceCtorEq]
  obtain rfl := Option.some.inj h
  exact PS.r ⟨by nofun, PS.r (PE.i (wk h0 [0, 1, 2, 3] (wR rfl (wR rfl wTn)) (vR rfl (vR rfl wVn)) (wL rfl rfl (wL rfl rfl wLn))))⟩
  rcases y with r | ⟨a9e0_0, a9e0_1, a9e0_2, a9e0_3, a9e0_4, a9e0_5, a9e0_6, a9e0_7, a9e0_8, a9e0_9, a9e0_10, a9e0_11, a9e0_12, a9e0_13⟩
  rintro ex tm' hp' ⟨rfl, hw⟩
  obtain rfl := Option.some.inj h
  exact hw
  rintro ex tm' hp' ⟨rfl, hw⟩
  try dsimp only
  try simp only [if_true, reduceIte, Nat.reduceEqDiff, reduceCtorEq]
  refine AW.weak hw ?_
  refine AW.seq ?_
  refine rg hx (by kernel_rfl) fun K hK => ?_
  refine s1 (d := .ag [dI .i64 a9e0_0.vBase, dL cS a9e0_0.vQueue, dI .i64 a9e0_0.vWant, dL c_Held a9e0_0.vHeld, dI .i64 a9e0_1.vBase, dL cS a9e0_1.vQueue, dI .i64 a9e0_1.vWant, dL c_Held a9e0_1.vHeld, dL cS a9e0_2, dL cS a9e0_3, dL cS a9e0_4, dL cS a9e0_5, dO 2 c_Frame a9e0_6, dI .i64 a9e0_7.vBase, dL cS a9e0_7.vQueue, dI .i64 a9e0_7.vWant, dL c_Held a9e0_7.vHeld, dI .i64 a9e0_8.vBase, dL cS a9e0_8.vQueue, dI .i64 a9e0_8.vWant, dL c_Held a9e0_8.vHeld, dL cS a9e0_9, dL cS a9e0_10, dL cS a9e0_11, dL cS a9e0_12, dO 3 c_Frame a9e0_13]) (T_ldA tb_69) ?_
  refine s0 (T_st (ds' := [dI .i64 a9e0_0.vBase, dL cS a9e0_0.vQueue, dI .i64 a9e0_0.vWant, dL c_Held a9e0_0.vHeld, dI .i64 a9e0_1.vBase, dL cS a9e0_1.vQueue, dI .i64 a9e0_1.vWant, dL c_Held a9e0_1.vHeld, dL cS a9e0_2, dL cS a9e0_3, dL cS a9e0_4, dL cS a9e0_5, dO 2 c_Frame a9e0_6, dI .i64 a9e0_7.vBase, dL cS a9e0_7.vQueue, dI .i64 a9e0_7.vWant, dL c_Held a9e0_7.vHeld, dI .i64 a9e0_8.vBase, dL cS a9e0_8.vQueue, dI .i64 a9e0_8.vWant, dL c_Held a9e0_8.vHeld, dL cS a9e0_9, dL cS a9e0_10, dL cS a9e0_11, dL cS a9e0_12, dO 3 c_Frame a9e0_13]) tb_69) ?_
  refine s1 (d := dB true) T_asg ?_
  refine .nil (hK _ _ ?_)
  refine AW.ret ?_
  obtain rfl := Option.some.inj h
  exact RetV.mk2 (resD_a (es := [dI .i64 a9e0_0.vBase, dL cS a9e0_0.vQueue, dI .i64 a9e0_0.vWant, dL c_Held a9e0_0.vHeld, dI .i64 a9e0_1.vBase, dL cS a9e0_1.vQueue, dI .i64 a9e0_1.vWant, dL c_Held a9e0_1.vHeld, dL cS a9e0_2, dL cS a9e0_3, dL cS a9e0_4, dL cS a9e0_5, dO 2 c_Frame a9e0_6, dI .i64 a9e0_7.vBase, dL cS a9e0_7.vQueue, dI .i64 a9e0_7.vWant, dL c_Held a9e0_7.vHeld, dI .i64 a9e0_8.vBase, dL cS a9e0_8.vQueue, dI .i64 a9e0_8.vWant, dL c_Held a9e0_8.vHeld, dL cS a9e0_9, dL cS a9e0_10, dL cS a9e0_11, dL cS a9e0_12, dO 3 c_Frame a9e0_13]) rfl tb_69 rfl rfl (ltb rfl) (leb rfl) rfl (resD_t rfl (.inr ⟨_, _, (le_ag (wc (lc_r _) (wc (lc_r _) (wc (lc_r _) (wc (lc_r _) (wc (lc_r _) (wc (lc_r _) (wc (lc_r _) (wc (lc_r _) (wc (lc_r _) (wc (lc_r _) (wc (lc_r _) (wc (lc_r _) (wc (lc_x _) (wc (lc_r _) (wc (lc_r _) (wc (lc_r _) (wc (lc_r _) (wc (lc_r _) (wc (lc_r _) (wc (lc_r _) (wc (lc_r _) (wc (lc_r _) (wc (lc_r _) (wc (lc_r _) (wc (lc_r _) (wc (lc_x _) wcn))))))))))))))))))))))))))), (le_refl' _), ⟨rfl, rfl⟩, rfl⟩)))
end Go.Proofs.Ytakbadleipbngaa
