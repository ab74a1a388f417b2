/-
  What functions compute, read off the program's code (written by a program of mine). Conditions: none.
-/
import Derived.Test.YtakbadleipbngaaK42
set_option linter.all false
namespace Go.Proofs.Ytakbadleipbngaa
open Go.RowKit
structure S_Held where
  vSeq : Int
  vData : ByteArray
  deriving Inhabited, DecidableEq
def c_Held : Cd S_Held := ⟨2, fun x => [.lit (.int .i64 x.vSeq), .lit (.string x.vData)], fun _ => rfl⟩
structure S_End where
  vBase : Int
  vQueue : List ByteArray
  vWant : Int
  vHeld : List S_Held
  deriving Inhabited, DecidableEq
def c_End : Cd S_End := ⟨4, fun x => [.lit (.int .i64 x.vBase), slE cS x.vQueue, .lit (.int .i64 x.vWant), slE c_Held x.vHeld], fun _ => rfl⟩
structure S_Frame where
  vSeq : Int
  vAck : Int
  vData : ByteArray
  deriving Inhabited, DecidableEq
def c_Frame : Cd S_Frame := ⟨3, fun x => [.lit (.int .i64 x.vSeq), .lit (.int .i64 x.vAck), .lit (.string x.vData)], fun _ => rfl⟩
theorem eqF_Frame (x : S_Frame) : fitT tbl 6 27 [.int .i64 x.vSeq, .int .i64 x.vAck, .string x.vData] := by simp [fitT, fitFs, tb_27, tb_3, tb_9]
theorem eqI_Frame (x y : S_Frame) : ([.int .i64 x.vSeq, .int .i64 x.vAck, .string x.vData] : List Value) = [.int .i64 y.vSeq, .int .i64 y.vAck, .string y.vData] ↔ x = y := by cases x; cases y; simp [and_assoc]
theorem eqF_Held (x : S_Held) : fitT tbl 6 74 [.int .i64 x.vSeq, .string x.vData] := by simp [fitT, fitFs, tb_3, tb_74, tb_9]
theorem eqI_Held (x y : S_Held) : ([.int .i64 x.vSeq, .string x.vData] : List Value) = [.int .i64 y.vSeq, .string y.vData] ↔ x = y := by cases x; cases y; simp [and_assoc]
theorem el_slices_Clone_api_Held_api_Held : El Try.prog 23 74 (.agg #[.int .i64 (0), .string ⟨#[]⟩]) 2 24 := ⟨Try.underlying23, info_parts (by kernel_rfl), rfl, by decide⟩
set_option maxHeartbeats 1000000 in
set_option maxRecDepth 100000 in
theorem wr_slices_Clone_api_Held_api_Held (n : Nat) (us : List Value) (v : Value) (w : World) (hl : Sl w v 2 n us) (h1 : ∀ u ∈ us, u.oneCell' = true) (hn : n ≤ 1000000) :
    Calls Try.prog 34 #[v] w fun e w' => ∃ q, e = .returned q ∧ w'.ownsRow w.heap.size 74 2 q n us ∧ Below w.heap.size w w' := by
  obtain ⟨A, c, rfl, hnc, hcm, hr⟩ := id hl
  cases A with
  | none =>
    obtain rfl : n = 0 := by
      rcases Nat.eq_zero_or_pos n with h | h
      · exact h
      · obtain ⟨_, h, _⟩ := hr.2 h; cases h
    obtain rfl : us = [] := List.eq_nil_of_length_eq_zero (by simpa using hr.1)
    have he : (binOp .eql 23 (.slice none 0 c) (.slice none 0 0)).run Try.prog w = .ok (.bool true) w := by kernel_rfl
    go_enter Try.func34, Try.ntmps34
    go_wp2_with fail
    go_ret
    exact ⟨_, rfl, ⟨rfl, .inl ⟨rfl, rfl⟩⟩, Below.refl _ _⟩
  | some ad =>
    have he : (binOp .eql 23 (.slice (some ad) n c) (.slice none 0 0)).run Try.prog w = .ok (.bool false) w := by kernel_rfl
    go_enter Try.func34, Try.ntmps34
    have hown0 := own_mtG w 74 w.heap.size 2 (Nat.le_refl _)
    have hB0 := (Below.refl w.heap.size w).alloc (Nat.le_refl _) (.cells #[] 74)
    have hl2 := hl.below hB0
    have HL := Lib.hid hl2
    have H1 := Lib.hid h1
    clear hl hr hl2 h1
    go_wp2_with (at_builtin; refine wpList_append_all _ rfl _ _ _ rfl el_slices_Clone_api_Held_api_Held w.heap.size _ _ _ rfl hown0 _ _ _ rfl HL.out H1.out (by omega) (by omega) (by simp) w w.heap.size hB0 (Nat.le_refl _) ?_)
    intro v' w' hown hb
    go_wp2_with fail
    go_ret
    refine ⟨_, rfl, ?_, hb⟩
    simpa using hown
theorem wa_slices_Clone_api_Held_api_Held (n : Nat) (xs : List E) (hn : n ≤ 1000000) : PCalls Try.prog 34 [.e (.sl 2 n xs)] (.own 74 2 n xs) :=
  clone_of (by decide) ⟨_, Try.func34, rfl, rfl⟩ (fun us v w h1 h2 => wr_slices_Clone_api_Held_api_Held n us v w h1 h2 hn)
noncomputable def g_slices_Clone_api_Held_api_Held (l : List S_Held) : Option (List S_Held) := gd (l.length ≤ 1000000) (some l)
theorem w_slices_Clone_api_Held_api_Held {l r : List S_Held} (h : g_slices_Clone_api_Held_api_Held l = some r) : PCalls Try.prog 34 [dL c_Held l] (.own 74 c_Held.sz r.length (r.flatMap c_Held.f)) := by
  obtain ⟨hn, h⟩ := gd_some h
  obtain rfl := Option.some.inj h
  exact wa_slices_Clone_api_Held_api_Held _ _ hn
noncomputable def g_link_New  : Option S_End := some (⟨(1 : Int), ([] : List ByteArray), (1 : Int), ([] : List S_Held)⟩ : S_End)
theorem w_link_New  {r : S_End} (h : g_link_New = some r) : PCalls Try.prog 23 [] (.ag [dI .i64 r.vBase, dN, dI .i64 r.vWant, dN]) := by
  refine PCalls.of (rs := [.cell 0 25]) tok Try.func23 rfl rfl (Nat.le_of_ble_eq_true rfl) rfl (fun cx hx h0 => ?_)
  simp only [argsT, Nat.reduceAdd, Nat.zero_add]
  unfold g_link_New at h
  refine AW.seq ?_
  refine rg hx (by kernel_rfl) fun K hK => ?_
  refine s1 (d := .pt 0 0) (T_alloc tb_25) ?_
  refine .nil (hK _ _ ?_)
  refine AW.seq ?_
  refine rg hx (by kernel_rfl) fun K hK => ?_
  refine s1 (d := .ag [dI .i64 (1 : Int), dN, dI .i64 (1 : Int), dN]) (T_build tb_25) ?_
  refine s0 (T_st (ds' := [dI .i64 (1 : Int), dN, dI .i64 (1 : Int), dN]) tb_25) ?_
  refine .nil (hK _ _ ?_)
  refine AW.ret ?_
  obtain rfl := Option.some.inj h
  exact RetV.mk1 (resD_a (es := [dI .i64 (1 : Int), dN, dI .i64 (1 : Int), dN]) rfl tb_25 rfl rfl (ltb rfl) (leb rfl) rfl (.inr (.inr ⟨_, (le_ag (wc (lc_r _) (wc (lc_r _) (wc (lc_r _) (wc (lc_r _) wcn))))), rfl, rfl⟩)))
noncomputable def g_link_short (p_s : ByteArray) : Option Bool := some (decide ((p_s.size : Int) ≤ (4096 : Int)))
theorem w_link_short {p_s : ByteArray} {r : Bool} (h : g_link_short p_s = some r) : PCalls Try.prog 31 [dS p_s] (dB r) := by
  refine PCalls.of (rs := [.tmp 2]) tok Try.func31 rfl rfl (Nat.le_of_ble_eq_true rfl) rfl (fun cx hx h0 => ?_)
  simp only [argsT, Nat.reduceAdd, Nat.zero_add]
  unfold g_link_short at h
  refine AW.seq ?_
  refine rg hx (by kernel_rfl) fun K hK => ?_
  refine s1 (d := dB false) T_asg ?_
  refine .nil (hK _ _ ?_)
  refine AW.seq ?_
  refine rg hx (by kernel_rfl) fun K hK => ?_
  refine s1 T_mv ?_
  refine s1 (d := dI .i64 (p_s.size : Int)) (T_lenS tb_9) ?_
  refine s1 T_leq ?_
  refine s1 T_as ?_
  refine .nil (hK _ _ ?_)
  refine AW.ret ?_
  obtain rfl := Option.some.inj h
  exact RetV.mk1 (resD_t rfl (.inr (.inr ⟨_, (le_refl' _), rfl, rfl⟩)))
theorem el_slices_Clone_string_string : El Try.prog 22 9 (.string ⟨#[]⟩) 1 16 := ⟨Try.underlying22, info_parts (by kernel_rfl), rfl, by decide⟩
set_option maxHeartbeats 1000000 in
set_option maxRecDepth 100000 in
theorem wr_slices_Clone_string_string (n : Nat) (us : List Value) (v : Value) (w : World) (hl : Sl w v 1 n us) (h1 : ∀ u ∈ us, u.oneCell' = true) (hn : n ≤ 1000000) :
    Calls Try.prog 32 #[v] w fun e w' => ∃ q, e = .returned q ∧ w'.ownsRow w.heap.size 9 1 q n us ∧ Below w.heap.size w w' := by
  obtain ⟨A, c, rfl, hnc, hcm, hr⟩ := id hl
  cases A with
  | none =>
    obtain rfl : n = 0 := by
      rcases Nat.eq_zero_or_pos n with h | h
      · exact h
      · obtain ⟨_, h, _⟩ := hr.2 h; cases h
    obtain rfl : us = [] := List.eq_nil_of_length_eq_zero (by simpa using hr.1)
    have he : (binOp .eql 22 (.slice none 0 c) (.slice none 0 0)).run Try.prog w = .ok (.bool true) w := by kernel_rfl
    go_enter Try.func32, Try.ntmps32
    go_wp2_with fail
    go_ret
    exact ⟨_, rfl, ⟨rfl, .inl ⟨rfl, rfl⟩⟩, Below.refl _ _⟩
  | some ad =>
    have he : (binOp .eql 22 (.slice (some ad) n c) (.slice none 0 0)).run Try.prog w = .ok (.bool false) w := by kernel_rfl
    go_enter Try.func32, Try.ntmps32
    have hown0 := own_mtG w 9 w.heap.size 1 (Nat.le_refl _)
    have hB0 := (Below.refl w.heap.size w).alloc (Nat.le_refl _) (.cells #[] 9)
    have hl2 := hl.below hB0
    have HL := Lib.hid hl2
    have H1 := Lib.hid h1
    clear hl hr hl2 h1
    go_wp2_with (at_builtin; refine wpList_append_all _ rfl _ _ _ rfl el_slices_Clone_string_string w.heap.size _ _ _ rfl hown0 _ _ _ rfl HL.out H1.out (by omega) (by omega) (by simp) w w.heap.size hB0 (Nat.le_refl _) ?_)
    intro v' w' hown hb
    go_wp2_with fail
    go_ret
    refine ⟨_, rfl, ?_, hb⟩
    simpa using hown
theorem wa_slices_Clone_string_string (n : Nat) (xs : List E) (hn : n ≤ 1000000) : PCalls Try.prog 32 [.e (.sl 1 n xs)] (.own 9 1 n xs) :=
  clone_of (by decide) ⟨_, Try.func32, rfl, rfl⟩ (fun us v w h1 h2 => wr_slices_Clone_string_string n us v w h1 h2 hn)
noncomputable def g_slices_Clone_string_string (l : List ByteArray) : Option (List ByteArray) := gd (l.length ≤ 1000000) (some l)
theorem w_slices_Clone_string_string {l r : List ByteArray} (h : g_slices_Clone_string_string l = some r) : PCalls Try.prog 32 [dL cS l] (.own 9 cS.sz r.length (r.flatMap cS.f)) := by
  obtain ⟨hn, h⟩ := gd_some h
  obtain rfl := Option.some.inj h
  exact wa_slices_Clone_string_string _ _ hn
noncomputable def g_link_Send (p_x : S_End) (p_text : ByteArray) : Option (S_End × Int) := bnd (g_link_short p_text) fun x1 => cnd (!x1) (some (p_x, (2 : Int))) (cnd (decide ((64 : Int) ≤ ((p_x.vQueue).length : Int))) (some (p_x, (432 : Int))) (bnd (g_slices_Clone_string_string p_x.vQueue) fun x5 => gd ((x5 ++ [p_text]).length * 16 ≤ 140737488355328) (some ((⟨p_x.vBase, x5 ++ [p_text], p_x.vWant, p_x.vHeld⟩ : S_End), (0 : Int)))))
theorem w_link_Send {p_x : S_End} {p_text : ByteArray} {r : S_End × Int} (h : g_link_Send p_x p_text = some r) : PCalls Try.prog 12 [dG c_End p_x, dS p_text] (.tu [dG c_End r.1, dI .i64 r.2]) := by
  refine PCalls.of (rs := [.cell 4 25, .tmp 5]) tok Try.func12 rfl rfl (Nat.le_of_ble_eq_true rfl) rfl (fun cx hx h0 => ?_)
  simp only [argsT, Nat.reduceAdd, Nat.zero_add]
  unfold g_link_Send at h
  refine AW.seq ?_
  refine rg hx (by kernel_rfl) fun K hK => ?_
  refine s1 (d := .pt 0 0) T_box ?_
  refine s1 (d := .pt 1 0) (T_alloc tb_25) ?_
  refine s1 (d := dI .i64 (0 : Int)) T_asg ?_
  refine .nil (hK _ _ ?_)
  iterate 2 refine AW.seq ?_
  refine rg hx (by kernel_rfl) fun K hK => ?_
  refine s1 T_mv ?_
  obtain ⟨x1, hx2, h⟩ := bnd_some h
  refine s1 (d := dB x1) (T_call rfl (w_link_short hx2) rfl (lA (le_refl' _) lAn) (.inl rfl)) ?_
  refine s1 T_not ?_
  refine .nil (hK _ _ ?_)
  refine AW.condS rfl (fun hb3 => ?_) (fun hb3 => ?_)
  replace h := cnd_t hb3 h
  refine AW.seq ?_
  refine rg hx (by kernel_rfl) fun K hK => ?_
  refine s1 (d := dG c_End p_x) (T_ldA tb_25) ?_
  refine s0 (T_st (ds' := [dI .i64 p_x.vBase, dL cS p_x.vQueue, dI .i64 p_x.vWant, dL c_Held p_x.vHeld]) tb_25) ?_
  refine s1 (d := dI .i64 (2 : Int)) T_asg ?_
  refine .nil (hK _ _ ?_)
  refine AW.ret ?_
  obtain rfl := Option.some.inj h
  exact RetV.mk2 (resD_a (es := (c_End.f p_x).map .e) rfl tb_25 rfl rfl (ltb rfl) (leb rfl) rfl (resD_t rfl (.inr ⟨_, _, (le_refl' _), (le_refl' _), ⟨rfl, rfl⟩, rfl⟩)))
  replace h := cnd_f hb3 h
  refine AW.skip ?_
  iterate 2 refine AW.seq ?_
  refine rg hx (by kernel_rfl) fun K hK => ?_
  refine s1 (T_faP tb_25 tb_22) ?_
  refine s1 (d := dL cS p_x.vQueue) (T_ldC tb_22) ?_
  refine s1 (d := dI .i64 ((p_x.vQueue).length : Int)) (T_len tb_22 tb_9) ?_
  refine s1 T_geq ?_
  refine .nil (hK _ _ ?_)
  refine AW.condS rfl (fun hb4 => ?_) (fun hb4 => ?_)
  replace h := cnd_t hb4 h
  refine AW.seq ?_
  refine rg hx (by kernel_rfl) fun K hK => ?_
  refine s1 (d := dG c_End p_x) (T_ldA tb_25) ?_
  refine s0 (T_st (ds' := [dI .i64 p_x.vBase, dL cS p_x.vQueue, dI .i64 p_x.vWant, dL c_Held p_x.vHeld]) tb_25) ?_
  refine s1 (d := dI .i64 (432 : Int)) T_asg ?_
  refine .nil (hK _ _ ?_)
  refine AW.ret ?_
  obtain rfl := Option.some.inj h
  exact RetV.mk2 (resD_a (es := (c_End.f p_x).map .e) rfl tb_25 rfl rfl (ltb rfl) (leb rfl) rfl (resD_t rfl (.inr ⟨_, _, (le_refl' _), (le_refl' _), ⟨rfl, rfl⟩, rfl⟩)))
  replace h := cnd_f hb4 h
  refine AW.skip ?_
  refine AW.seq ?_
  refine rg hx (by kernel_rfl) fun K hK => ?_
  refine s1 (T_faP tb_25 tb_22) ?_
  refine s1 (d := dL cS p_x.vQueue) (T_ldC tb_22) ?_
  obtain ⟨x5, hx6, h⟩ := bnd_some h
  refine s1 (d := dO 2 cS x5) (T_callO rfl (w_slices_Clone_string_string hx6) rfl (lA (le_refl' _) lAn)) ?_
  refine s1 T_mv ?_
  refine s1 (d := dO 3 cS [p_text]) (T_bsl tb_22 tb_9) ?_
  obtain ⟨hc7, h⟩ := gd_some h
  refine s1 (d := dO 2 cS (x5 ++ [p_text])) (T_appO tb_22 tb_9 hc7) ?_
  refine s1 (T_faP tb_25 tb_22) ?_
  refine s0 (T_st (ds' := [dI .i64 p_x.vBase, dO 2 cS (x5 ++ [p_text]), dI .i64 p_x.vWant, dL c_Held p_x.vHeld]) tb_22) ?_
  refine .nil (hK _ _ ?_)
  refine AW.seq ?_
  refine rg hx (by kernel_rfl) fun K hK => ?_
  refine s1 (d := .ag [dI .i64 p_x.vBase, dO 2 cS (x5 ++ [p_text]), dI .i64 p_x.vWant, dL c_Held p_x.vHeld]) (T_ldA tb_25) ?_
  refine s0 (T_st (ds' := [dI .i64 p_x.vBase, dO 2 cS (x5 ++ [p_text]), dI .i64 p_x.vWant, dL c_Held p_x.vHeld]) tb_25) ?_
  refine s1 (d := dI .i64 (0 : Int)) T_asg ?_
  refine .nil (hK _ _ ?_)
  refine AW.ret ?_
  obtain rfl := Option.some.inj h
  exact RetV.mk2 (resD_a (es := [dI .i64 p_x.vBase, dO 2 cS (x5 ++ [p_text]), dI .i64 p_x.vWant, dL c_Held p_x.vHeld]) rfl tb_25 rfl rfl (ltb rfl) (leb rfl) rfl (resD_t rfl (.inr ⟨_, _, (le_ag (wc (lc_r _) (wc (lc_x _) (wc (lc_r _) (wc (lc_r _) wcn))))), (le_refl' _), ⟨rfl, rfl⟩, rfl⟩)))
noncomputable def g_link_Check_l9 (p_x : S_End) : Bool × Int → Option ((Bool × Int) ⊕ Bool) := fun (a9_0, a9_1) => cnd (decide (a9_1 < ((p_x.vQueue).length : Int))) (bnd (S := Bool) (gd (0 ≤ a9_1 ∧ a9_1 < ((p_x.vQueue).length : Int)) (cnd a9_0 (bnd (g_link_short ((p_x.vQueue)[(a9_1).toNat]!)) fun x12 => some (x12)) (some (false)))) fun a17_0 => some (.inl (a17_0, IntKind.i64.wrap (a9_1 + (1 : Int))))) (some (.inr a9_0))
noncomputable def g_link_Check_l28 (p_x : S_End) : Bool × Int × Int → Option ((Bool × Int × Int) ⊕ Bool) := fun (a28_0, a28_1, a28_2) => cnd (decide (a28_2 < ((p_x.vHeld).length : Int))) (gd (0 ≤ a28_2 ∧ a28_2 < ((p_x.vHeld).length : Int)) (bnd (S := Bool) (cnd a28_0 (cnd (decide (a28_1 < (((p_x.vHeld)[(a28_2).toNat]!).vSeq))) (cnd (decide ((IntKind.i64.wrap ((((p_x.vHeld)[(a28_2).toNat]!).vSeq) - p_x.vWant)) < (8 : Int))) (cnd (decide ((((p_x.vHeld)[(a28_2).toNat]!).vSeq) < (1099511627776 : Int))) (bnd (g_link_short (((p_x.vHeld)[(a28_2).toNat]!).vData)) fun x23 => some (x23)) (some (false))) (some (false))) (some (false))) (some (false))) fun a40_0 => some (.inl (a40_0, ((p_x.vHeld)[(a28_2).toNat]!).vSeq, IntKind.i64.wrap (a28_2 + (1 : Int)))))) (some (.inr a28_0))
noncomputable def g_link_Check (p_x : S_End) : Option Int := bnd (S := Bool) (cnd (decide ((1 : Int) ≤ p_x.vBase)) (cnd (decide (p_x.vBase ≤ (1099511627776 : Int))) (cnd (decide ((1 : Int) ≤ p_x.vWant)) (cnd (decide (p_x.vWant ≤ (1099511627776 : Int))) (bnd (some (decide (((p_x.vQueue).length : Int) ≤ (64 : Int)))) fun x5 => some (x5)) (some (false))) (some (false))) (some (false))) (some (false))) fun a4_0 => bnd (loopO (g_link_Check_l9 p_x) (a4_0, (0 : Int))) fun a9e0_0 => bnd (loopO (g_link_Check_l28 p_x) (a9e0_0, p_x.vWant, (0 : Int))) fun a28e2_0 => cnd (!a28e2_0) (some (3 : Int)) (some (0 : Int))
set_option maxHeartbeats 4000000 in
theorem w_link_Check {p_x : S_End} {r : Int} (h : g_link_Check p_x = some r) : PCalls Try.prog 9 [dG c_End p_x] (dI .i64 r) := by
  refine PCalls.of (rs := [.tmp 2]) tok Try.func9 rfl rfl (Nat.le_of_ble_eq_true rfl) rfl (fun cx hx h0 => ?_)
  simp only [argsT, Nat.reduceAdd, Nat.zero_add]
  unfold g_link_Check at h
  refine AW.seq ?_
  refine rg hx (by kernel_rfl) fun K hK => ?_
  refine s1 (d := .pt 0 0) T_box ?_
  refine s1 (d := dI .i64 (0 : Int)) T_asg ?_
  refine .nil (hK _ _ ?_)
  refine AW.seq ?_
  obtain ⟨a4_0, hy, h⟩ := bnd_some h
  refine jn ((PE cx .normal (fun a4_0 => [(1, .pt 0 0), (3, dB a4_0)]) fun a4_0 => ⟨[(0, [dI .i64 p_x.vBase, dL cS p_x.vQueue, dI .i64 p_x.vWant, dL c_Held p_x.vHeld])], [], 1⟩) a4_0) ?_ ?_
  replace h := hy
  refine rg hx (by kernel_rfl) fun K hK => ?_
  refine s1 (T_faP tb_25 tb_3) ?_
  refine s1 (d := dI .i64 p_x.vBase) (T_ldC tb_3) ?_
  refine s1 T_geq ?_
  refine s1 T_mv ?_
  rcases Bool.eq_false_or_eq_true (decide ((1 : Int) ≤ p_x.vBase)) with hb1 | hb1
  replace h := cnd_t hb1 h
  refine g1 hb1 (T_faP tb_25 tb_3) ?_
  refine g1 (d := dI .i64 p_x.vBase) hb1 (T_ldC tb_3) ?_
  refine g1 hb1 T_leq ?_
  refine s1 (d := dB (decide (p_x.vBase ≤ (1099511627776 : Int)))) (T_pickT hb1) ?_
  refine s1 T_mv ?_
  rcases Bool.eq_false_or_eq_true (decide (p_x.vBase ≤ (1099511627776 : Int))) with hb2 | hb2
  replace h := cnd_t hb2 h
  refine g1 hb2 (T_faP tb_25 tb_3) ?_
  refine g1 (d := dI .i64 p_x.vWant) hb2 (T_ldC tb_3) ?_
  refine g1 hb2 T_geq ?_
  refine s1 (d := dB (decide ((1 : Int) ≤ p_x.vWant))) (T_pickT hb2) ?_
  refine s1 T_mv ?_
  rcases Bool.eq_false_or_eq_true (decide ((1 : Int) ≤ p_x.vWant)) with hb3 | hb3
  replace h := cnd_t hb3 h
  refine g1 hb3 (T_faP tb_25 tb_3) ?_
  refine g1 (d := dI .i64 p_x.vWant) hb3 (T_ldC tb_3) ?_
  refine g1 hb3 T_leq ?_
  refine s1 (d := dB (decide (p_x.vWant ≤ (1099511627776 : Int)))) (T_pickT hb3) ?_
  refine s1 T_mv ?_
  rcases Bool.eq_false_or_eq_true (decide (p_x.vWant ≤ (1099511627776 : Int))) with hb4 | hb4
  replace h := cnd_t hb4 h
  refine g1 hb4 (T_faP tb_25 tb_22) ?_
  refine g1 (d := dL cS p_x.vQueue) hb4 (T_ldC tb_22) ?_
  refine g1 (d := dI .i64 ((p_x.vQueue).length : Int)) hb4 (T_len tb_22 tb_9) ?_
  refine g1 hb4 T_leq ?_
  refine s1 (d := dB (decide (((p_x.vQueue).length : Int) ≤ (64 : Int)))) (T_pickT hb4) ?_
  obtain ⟨x5, hx6, h⟩ := bnd_some h
  replace hx6 := Option.some.inj hx6
  refine s2 (d2 := dB x5) T_as (le_eq (congrArg dB hx6)) ?_
  refine .nil (hK _ _ ?_)
  obtain rfl := Option.some.inj h
  exact PE.i (wk h0 [0] (wR rfl (wR rfl wTn)) (vR rfl wVn) wLn)
  replace h := cnd_f hb4 h
  iterate 4 refine no_t rfl rfl hb4 ?_
  refine s1 (d := dB false) (T_pickF hb4) ?_
  refine s1 T_as ?_
  refine .nil (hK _ _ ?_)
  obtain rfl := Option.some.inj h
  exact PE.i (wk h0 [0] (wR rfl (wR rfl wTn)) (vR rfl wVn) wLn)
  replace h := cnd_f hb3 h
  iterate 3 refine no_t rfl rfl hb3 ?_
  refine s1 (d := dB false) (T_pickF hb3) ?_
  refine s1 T_mv ?_
  iterate 4 refine no_t rfl rfl rfl ?_
  refine s1 (d := dB false) (T_pickF rfl) ?_
  refine s1 T_as ?_
  refine .nil (hK _ _ ?_)
  obtain rfl := Option.some.inj h
  exact PE.i (wk h0 [0] (wR rfl (wR rfl wTn)) (vR rfl wVn) wLn)
  replace h := cnd_f hb2 h
  iterate 3 refine no_t rfl rfl hb2 ?_
  refine s1 (d := dB false) (T_pickF hb2) ?_
  refine s1 T_mv ?_
  iterate 3 refine no_t rfl rfl rfl ?_
  refine s1 (d := dB false) (T_pickF rfl) ?_
  refine s1 T_mv ?_
  iterate 4 refine no_t rfl rfl rfl ?_
  refine s1 (d := dB false) (T_pickF rfl) ?_
  refine s1 T_as ?_
  refine .nil (hK _ _ ?_)
  obtain rfl := Option.some.inj h
  exact PE.i (wk h0 [0] (wR rfl (wR rfl wTn)) (vR rfl wVn) wLn)
  replace h := cnd_f hb1 h
  iterate 3 refine no_t rfl rfl hb1 ?_
  refine s1 (d := dB false) (T_pickF hb1) ?_
  refine s1 T_mv ?_
  iterate 3 refine no_t rfl rfl rfl ?_
  refine s1 (d := dB false) (T_pickF rfl) ?_
  refine s1 T_mv ?_
  iterate 3 refine no_t rfl rfl rfl ?_
  refine s1 (d := dB false) (T_pickF rfl) ?_
  refine s1 T_mv ?_
  iterate 4 refine no_t rfl rfl rfl ?_
  refine s1 (d := dB false) (T_pickF rfl) ?_
  refine s1 T_as ?_
  refine .nil (hK _ _ ?_)
  obtain rfl := Option.some.inj h
  exact PE.i (wk h0 [0] (wR rfl (wR rfl wTn)) (vR rfl wVn) wLn)
  rintro ex tm' hp' ⟨rfl, hw⟩
  refine AW.weak hw ?_
  iterate 2 refine AW.seq ?_
  refine rg hx (by kernel_rfl) fun K hK => ?_
  refine s1 (T_faP tb_25 tb_22) ?_
  refine s1 (d := dL cS p_x.vQueue) (T_ldC tb_22) ?_
  refine s1 (d := dI .i64 ((p_x.vQueue).length : Int)) (T_len tb_22 tb_9) ?_
  refine s1 (d := dI .i64 (0 : Int)) T_move ?_
  refine .nil (hK _ _ ?_)
  refine AW.block ?_
  obtain ⟨a9e0_0, hy, h⟩ := bnd_some h
  refine lp (S := Bool × Int) (X := Bool) (fun (a9_0, a9_1) => [(1, .pt 0 0), (3, dB a9_0), (34, dL cS p_x.vQueue), (35, dI .i64 ((p_x.vQueue).length : Int)), (36, dI .i64 a9_1)]) (fun (a9_0, a9_1) => ⟨[(0, [dI .i64 p_x.vBase, dL cS p_x.vQueue, dI .i64 p_x.vWant, dL c_Held p_x.vHeld])], [], 1⟩) (PE cx (.exit 0) (fun a9e0_0 => [(1, .pt 0 0), (3, dB a9e0_0)]) fun a9e0_0 => ⟨[(0, [dI .i64 p_x.vBase, dL cS p_x.vQueue, dI .i64 p_x.vWant, dL c_Held p_x.vHeld])], [], 1⟩) hy ?_ ?_ ?_
  exact wk h0 [0] (wR rfl (wR rfl (wR rfl (wR rfl (wR rfl wTn))))) (vR rfl wVn) wLn
  clear hy h
  rintro ⟨a9_0, a9_1⟩ y h
  dsimp only [g_link_Check_l9] at h
  refine AW.seq ?_
  refine rg hx (by kernel_rfl) fun K hK => ?_
  refine s1 T_lss ?_
  refine .nil (hK _ _ ?_)
  refine AW.seq ?_
  refine AW.condS rfl (fun hb8 => ?_) (fun hb8 => ?_)
  replace h := cnd_t hb8 h
  refine AW.skip ?_
  refine AW.seq ?_
  obtain ⟨a17_0, hy, h⟩ := bnd_some h
  refine jn ((PE cx .normal (fun a17_0 => [(1, .pt 0 0), (3, dB a17_0), (34, dL cS p_x.vQueue), (35, dI .i64 ((p_x.vQueue).length : Int)), (36, dI .i64 a9_1)]) fun a17_0 => ⟨[(0, [dI .i64 p_x.vBase, dL cS p_x.vQueue, dI .i64 p_x.vWant, dL c_Held p_x.vHeld])], [], 1⟩) a17_0) ?_ ?_
  replace h := hy
  refine AW.block ?_
  refine AW.seq ?_
  refine rg hx (by kernel_rfl) fun K hK => ?_
  obtain ⟨hc9, h⟩ := gd_some h
  have hn10 : (a9_1).toNat < (p_x.vQueue).length := by omega
  refine s1 (T_iaS hc9 tb_22 tb_9) ?_
  refine s1 (d := dS ((p_x.vQueue)[(a9_1).toNat]!)) (T_ldF (c := cS) (l := p_x.vQueue) (n := (a9_1).toNat) (o := 0) tb_9 hn10) ?_
  refine s1 T_as ?_
  refine .nil (hK _ _ ?_)
  refine rg hx (by kernel_rfl) fun K hK => ?_
  iterate 2 refine s1 T_mv ?_
  rcases Bool.eq_false_or_eq_true a9_0 with hb11 | hb11
  replace h := cnd_t hb11 h
  refine g1 hb11 T_mv ?_
  obtain ⟨x12, hx13, h⟩ := bnd_some h
  refine g1 (d := dB x12) hb11 (T_call rfl (w_link_short hx13) rfl (lA (le_refl' _) lAn) (.inl rfl)) ?_
  refine s1 (d := dB x12) (T_pickT hb11) ?_
  refine s1 T_as ?_
  refine .nil (hK _ _ ?_)
  obtain rfl := Option.some.inj h
  exact PE.i (wk h0 [0] (wR rfl (wR rfl (wR rfl (wR rfl (wR rfl wTn))))) (vR rfl wVn) wLn)
  replace h := cnd_f hb11 h
  iterate 2 refine no_t rfl rfl hb11 ?_
  refine s1 (d := dB false) (T_pickF hb11) ?_
  refine s1 T_as ?_
  refine .nil (hK _ _ ?_)
  obtain rfl := Option.some.inj h
  exact PE.i (wk h0 [0] (wR rfl (wR rfl (wR rfl (wR rfl (wR rfl wTn))))) (vR rfl wVn) wLn)
  rintro ex tm' hp' ⟨rfl, hw⟩
  refine AW.weak hw ?_
  refine rg hx (by kernel_rfl) fun K hK => ?_
  refine s1 T_add ?_
  refine s1 T_mv ?_
  refine .nil (hK _ _ ?_)
  obtain rfl := Option.some.inj h
  exact PS.l (PE.i (wk h0 [0] (wR rfl (wR rfl (wR rfl (wR rfl (wR rfl wTn))))) (vR rfl wVn) wLn))
  replace h := cnd_f hb8 h
  refine AW.exit ?_
  try dsimp only
  try simp only [if_true, reduceIte, Nat.reduceEqDiff, reduceCtorEq]
  obtain rfl := Option.some.inj h
  exact PS.r ⟨by nofun, PE.i (wk h0 [0] (wR rfl (wR rfl wTn)) (vR rfl wVn) wLn)⟩
  rintro ex tm' hp' ⟨rfl, hw⟩
  try dsimp only
  try simp only [if_true, reduceIte, Nat.reduceEqDiff, reduceCtorEq]
  refine AW.weak hw ?_
  refine AW.seq ?_
  refine rg hx (by kernel_rfl) fun K hK => ?_
  refine s1 (T_faP tb_25 tb_3) ?_
  refine s1 (d := dI .i64 p_x.vWant) (T_ldC tb_3) ?_
  refine s1 T_as ?_
  refine .nil (hK _ _ ?_)
  iterate 2 refine AW.seq ?_
  refine rg hx (by kernel_rfl) fun K hK => ?_
  refine s1 (T_faP tb_25 tb_23) ?_
  refine s1 (d := dL c_Held p_x.vHeld) (T_ldC tb_23) ?_
  refine s1 (d := dI .i64 ((p_x.vHeld).length : Int)) (T_len tb_23 tb_74) ?_
  refine s1 (d := dI .i64 (0 : Int)) T_move ?_
  refine .nil (hK _ _ ?_)
  refine AW.block ?_
  obtain ⟨a28e2_0, hy, h⟩ := bnd_some h
  refine lp (S := Bool × Int × Int) (X := Bool) (fun (a28_0, a28_1, a28_2) => [(1, .pt 0 0), (3, dB a28_0), (6, dI .i64 a28_1), (49, dL c_Held p_x.vHeld), (50, dI .i64 ((p_x.vHeld).length : Int)), (51, dI .i64 a28_2)]) (fun (a28_0, a28_1, a28_2) => ⟨[(0, [dI .i64 p_x.vBase, dL cS p_x.vQueue, dI .i64 p_x.vWant, dL c_Held p_x.vHeld])], [], 1⟩) (PE cx (.exit 2) (fun a28e2_0 => [(3, dB a28e2_0)]) fun a28e2_0 => ⟨[], [], 0⟩) hy ?_ ?_ ?_
  exact wk h0 [0] (wR rfl (wR rfl (wR rfl (wR rfl (wR rfl (wR rfl wTn)))))) (vR rfl wVn) wLn
  clear hy h
  rintro ⟨a28_0, a28_1, a28_2⟩ y h
  dsimp only [g_link_Check_l28] at h
  refine AW.seq ?_
  refine rg hx (by kernel_rfl) fun K hK => ?_
  refine s1 T_lss ?_
  refine .nil (hK _ _ ?_)
  refine AW.seq ?_
  refine AW.condS rfl (fun hb16 => ?_) (fun hb16 => ?_)
  replace h := cnd_t hb16 h
  refine AW.skip ?_
  refine AW.seq ?_
  refine AW.block ?_
  refine AW.seq ?_
  refine rg hx (by kernel_rfl) fun K hK => ?_
  obtain ⟨hc17, h⟩ := gd_some h
  have hn18 : (a28_2).toNat < (p_x.vHeld).length := by omega
  refine s1 (T_iaS hc17 tb_23 tb_74) ?_
  refine s1 (d := dG c_Held ((p_x.vHeld)[(a28_2).toNat]!)) (T_ldG (c := c_Held) (l := p_x.vHeld) (n := (a28_2).toNat) (o := 0) tb_74 hn18 (whole_G _ _ rfl)) ?_
  refine s1 (d := .pt 1 0) (T_alloc tb_74) ?_
  refine s0 (T_st (ds' := [dI .i64 (((p_x.vHeld)[(a28_2).toNat]!).vSeq), dS (((p_x.vHeld)[(a28_2).toNat]!).vData)]) tb_74) ?_
  refine .nil (hK _ _ ?_)
  refine AW.seq ?_
  obtain ⟨a40_0, hy, h⟩ := bnd_some h
  refine jn ((PE cx .normal (fun a40_0 => [(1, .pt 0 0), (3, dB a40_0), (8, .pt 1 0), (49, dL c_Held p_x.vHeld), (50, dI .i64 ((p_x.vHeld).length : Int)), (51, dI .i64 a28_2)]) fun a40_0 => ⟨[(0, [dI .i64 p_x.vBase, dL cS p_x.vQueue, dI .i64 p_x.vWant, dL c_Held p_x.vHeld]), (1, [dI .i64 (((p_x.vHeld)[(a28_2).toNat]!).vSeq), dS (((p_x.vHeld)[(a28_2).toNat]!).vData)])], [], 2⟩) a40_0) ?_ ?_
  replace h := hy
  refine rg hx (by kernel_rfl) fun K hK => ?_
  iterate 2 refine s1 T_mv ?_
  rcases Bool.eq_false_or_eq_true a28_0 with hb19 | hb19
  replace h := cnd_t hb19 h
  refine g1 hb19 (T_faP tb_74 tb_3) ?_
  refine g1 (d := dI .i64 (((p_x.vHeld)[(a28_2).toNat]!).vSeq)) hb19 (T_ldC tb_3) ?_
  refine g1 hb19 T_mv ?_
  refine g1 hb19 T_gtr ?_
  refine s1 (d := dB (decide (a28_1 < (((p_x.vHeld)[(a28_2).toNat]!).vSeq)))) (T_pickT hb19) ?_
  refine s1 T_mv ?_
  rcases Bool.eq_false_or_eq_true (decide (a28_1 < (((p_x.vHeld)[(a28_2).toNat]!).vSeq))) with hb20 | hb20
  replace h := cnd_t hb20 h
  refine g1 hb20 (T_faP tb_74 tb_3) ?_
  refine g1 (d := dI .i64 (((p_x.vHeld)[(a28_2).toNat]!).vSeq)) hb20 (T_ldC tb_3) ?_
  refine g1 hb20 (T_faP tb_25 tb_3) ?_
  refine g1 (d := dI .i64 p_x.vWant) hb20 (T_ldC tb_3) ?_
  refine g1 hb20 T_sub ?_
  refine g1 hb20 T_lss ?_
  refine s1 (d := dB (decide ((IntKind.i64.wrap ((((p_x.vHeld)[(a28_2).toNat]!).vSeq) - p_x.vWant)) < (8 : Int)))) (T_pickT hb20) ?_
  refine s1 T_mv ?_
  rcases Bool.eq_false_or_eq_true (decide ((IntKind.i64.wrap ((((p_x.vHeld)[(a28_2).toNat]!).vSeq) - p_x.vWant)) < (8 : Int))) with hb21 | hb21
  replace h := cnd_t hb21 h
  refine g1 hb21 (T_faP tb_74 tb_3) ?_
  refine g1 (d := dI .i64 (((p_x.vHeld)[(a28_2).toNat]!).vSeq)) hb21 (T_ldC tb_3) ?_
  refine g1 hb21 T_lss ?_
  refine s1 (d := dB (decide ((((p_x.vHeld)[(a28_2).toNat]!).vSeq) < (1099511627776 : Int)))) (T_pickT hb21) ?_
  refine s1 T_mv ?_
  rcases Bool.eq_false_or_eq_true (decide ((((p_x.vHeld)[(a28_2).toNat]!).vSeq) < (1099511627776 : Int))) with hb22 | hb22
  replace h := cnd_t hb22 h
  refine g1 hb22 (T_faP tb_74 tb_9) ?_
  refine g1 (d := dS (((p_x.vHeld)[(a28_2).toNat]!).vData)) hb22 (T_ldC tb_9) ?_
  obtain ⟨x23, hx24, h⟩ := bnd_some h
  refine g1 (d := dB x23) hb22 (T_call rfl (w_link_short hx24) rfl (lA (le_refl' _) lAn) (.inl rfl)) ?_
  refine s1 (d := dB x23) (T_pickT hb22) ?_
  refine s1 T_as ?_
  refine .nil (hK _ _ ?_)
  obtain rfl := Option.some.inj h
  exact PE.i (wk h0 [0, 1] (wR rfl (wR rfl (wR rfl (wR rfl (wR rfl (wR rfl wTn)))))) (vR rfl (vR rfl wVn)) wLn)
  replace h := cnd_f hb22 h
  iterate 3 refine no_t rfl rfl hb22 ?_
  refine s1 (d := dB false) (T_pickF hb22) ?_
  refine s1 T_as ?_
  refine .nil (hK _ _ ?_)
  obtain rfl := Option.some.inj h
  exact PE.i (wk h0 [0, 1] (wR rfl (wR rfl (wR rfl (wR rfl (wR rfl (wR rfl wTn)))))) (vR rfl (vR rfl wVn)) wLn)
  replace h := cnd_f hb21 h
  iterate 3 refine no_t rfl rfl hb21 ?_
  refine s1 (d := dB false) (T_pickF hb21) ?_
  refine s1 T_mv ?_
  iterate 3 refine no_t rfl rfl rfl ?_
  refine s1 (d := dB false) (T_pickF rfl) ?_
  refine s1 T_as ?_
  refine .nil (hK _ _ ?_)
  obtain rfl := Option.some.inj h
  exact PE.i (wk h0 [0, 1] (wR rfl (wR rfl (wR rfl (wR rfl (wR rfl (wR rfl wTn)))))) (vR rfl (vR rfl wVn)) wLn)
  replace h := cnd_f hb20 h
  iterate 6 refine no_t rfl rfl hb20 ?_
  refine s1 (d := dB false) (T_pickF hb20) ?_
  refine s1 T_mv ?_
  iterate 3 refine no_t rfl rfl rfl ?_
  refine s1 (d := dB false) (T_pickF rfl) ?_
  refine s1 T_mv ?_
  iterate 3 refine no_t rfl rfl rfl ?_
  refine s1 (d := dB false) (T_pickF rfl) ?_
  refine s1 T_as ?_
  refine .nil (hK _ _ ?_)
  obtain rfl := Option.some.inj h
  exact PE.i (wk h0 [0, 1] (wR rfl (wR rfl (wR rfl (wR rfl (wR rfl (wR rfl wTn)))))) (vR rfl (vR rfl wVn)) wLn)
  replace h := cnd_f hb19 h
  iterate 4 refine no_t rfl rfl hb19 ?_
  refine s1 (d := dB false) (T_pickF hb19) ?_
  refine s1 T_mv ?_
  iterate 6 refine no_t rfl rfl rfl ?_
  refine s1 (d := dB false) (T_pickF rfl) ?_
  refine s1 T_mv ?_
  iterate 3 refine no_t rfl rfl rfl ?_
  refine s1 (d := dB false) (T_pickF rfl) ?_
  refine s1 T_mv ?_
  iterate 3 refine no_t rfl rfl rfl ?_
  refine s1 (d := dB false) (T_pickF rfl) ?_
  refine s1 T_as ?_
  refine .nil (hK _ _ ?_)
  obtain rfl := Option.some.inj h
  exact PE.i (wk h0 [0, 1] (wR rfl (wR rfl (wR rfl (wR rfl (wR rfl (wR rfl wTn)))))) (vR rfl (vR rfl wVn)) wLn)
  rintro ex tm' hp' ⟨rfl, hw⟩
  refine AW.weak hw ?_
  refine rg hx (by kernel_rfl) fun K hK => ?_
  refine s1 (T_faP tb_74 tb_3) ?_
  refine s1 (d := dI .i64 (((p_x.vHeld)[(a28_2).toNat]!).vSeq)) (T_ldC tb_3) ?_
  refine s1 T_as ?_
  refine .nil (hK _ _ ?_)
  refine rg hx (by kernel_rfl) fun K hK => ?_
  refine s1 T_add ?_
  refine s1 T_mv ?_
  refine .nil (hK _ _ ?_)
  obtain rfl := Option.some.inj h
  exact PS.l (PE.i (wk h0 [0] (wR rfl (wR rfl (wR rfl (wR rfl (wR rfl (wR rfl wTn)))))) (vR rfl wVn) wLn))
  replace h := cnd_f hb16 h
  refine AW.exit ?_
  try dsimp only
  try simp only [if_true, reduceIte, Nat.reduceEqDiff, reduceCtorEq]
  obtain rfl := Option.some.inj h
  exact PS.r ⟨by nofun, PE.i (wk h0 [] (wR rfl wTn) wVn wLn)⟩
  rintro ex tm' hp' ⟨rfl, hw⟩
  try dsimp only
  try simp only [if_true, reduceIte, Nat.reduceEqDiff, reduceCtorEq]
  refine AW.weak hw ?_
  iterate 2 refine AW.seq ?_
  refine rg hx (by kernel_rfl) fun K hK => ?_
  refine s1 T_mv ?_
  refine s1 T_not ?_
  refine .nil (hK _ _ ?_)
  refine AW.condS rfl (fun hb27 => ?_) (fun hb27 => ?_)
  replace h := cnd_t hb27 h
  refine AW.seq ?_
  refine rg hx (by kernel_rfl) fun K hK => ?_
  refine s1 (d := dI .i64 (3 : Int)) T_asg ?_
  refine .nil (hK _ _ ?_)
  refine AW.ret ?_
  obtain rfl := Option.some.inj h
  exact RetV.mk1 (resD_t rfl (.inr (.inr ⟨_, (le_refl' _), rfl, rfl⟩)))
  replace h := cnd_f hb27 h
  refine AW.skip ?_
  refine AW.seq ?_
  refine rg hx (by kernel_rfl) fun K hK => ?_
  refine s1 (d := dI .i64 (0 : Int)) T_asg ?_
  refine .nil (hK _ _ ?_)
  refine AW.ret ?_
  obtain rfl := Option.some.inj h
  exact RetV.mk1 (resD_t rfl (.inr (.inr ⟨_, (le_refl' _), rfl, rfl⟩)))
noncomputable def g_link_Idle (p_x : S_End) : Option Bool := some (decide (((p_x.vQueue).length : Int) = (0 : Int)))
theorem w_link_Idle {p_x : S_End} {r : Bool} (h : g_link_Idle p_x = some r) : PCalls Try.prog 21 [dG c_End p_x] (dB r) := by
  refine PCalls.of (rs := [.tmp 2]) tok Try.func21 rfl rfl (Nat.le_of_ble_eq_true rfl) rfl (fun cx hx h0 => ?_)
  simp only [argsT, Nat.reduceAdd, Nat.zero_add]
  unfold g_link_Idle at h
  refine AW.seq ?_
  refine rg hx (by kernel_rfl) fun K hK => ?_
  refine s1 (d := .pt 0 0) T_box ?_
  refine s1 (d := dB false) T_asg ?_
  refine .nil (hK _ _ ?_)
  refine AW.seq ?_
  refine rg hx (by kernel_rfl) fun K hK => ?_
  refine s1 (T_faP tb_25 tb_22) ?_
  refine s1 (d := dL cS p_x.vQueue) (T_ldC tb_22) ?_
  refine s1 (d := dI .i64 ((p_x.vQueue).length : Int)) (T_len tb_22 tb_9) ?_
  refine s1 T_eql ?_
  refine s1 T_as ?_
  refine .nil (hK _ _ ?_)
  refine AW.ret ?_
  obtain rfl := Option.some.inj h
  exact RetV.mk1 (resD_t rfl (.inr (.inr ⟨_, (le_refl' _), rfl, rfl⟩)))
noncomputable def g_link_Frames_l17 (p_x : S_End) : (List S_Frame) × Int → Option (((List S_Frame) × Int) ⊕ ((List S_Frame))) := fun (a17_0, a17_1) => cnd (decide (a17_1 < ((subL p_x.vQueue (0 : Int) (min ((p_x.vQueue).length : Int) (8 : Int))).length : Int))) (gd (0 ≤ a17_1 ∧ a17_1 < ((subL p_x.vQueue (0 : Int) (min ((p_x.vQueue).length : Int) (8 : Int))).length : Int)) (bnd (some ((subL p_x.vQueue (0 : Int) (min ((p_x.vQueue).length : Int) (8 : Int)))[(a17_1).toNat]!)) fun x8 => gd ((a17_0 ++ [(⟨IntKind.i64.wrap (p_x.vBase + a17_1), p_x.vWant, x8⟩ : S_Frame)]).length * 32 ≤ 140737488355328) (some (.inl (a17_0 ++ [(⟨IntKind.i64.wrap (p_x.vBase + a17_1), p_x.vWant, x8⟩ : S_Frame)], IntKind.i64.wrap (a17_1 + (1 : Int))))))) (some (.inr a17_0))
noncomputable def g_link_Frames (p_x : S_End) : Option (List S_Frame) := bnd (g_link_Idle p_x) fun x1 => cnd x1 (some [(⟨(0 : Int), p_x.vWant, ByteArray.empty⟩ : S_Frame)]) (gd (0 ≤ (0 : Int) ∧ (0 : Int) ≤ min ((p_x.vQueue).length : Int) (8 : Int) ∧ min ((p_x.vQueue).length : Int) (8 : Int) ≤ ((p_x.vQueue).length : Int)) (bnd (loopO (g_link_Frames_l17 p_x) (([] : List S_Frame), (0 : Int))) fun a17e0_0 => some a17e0_0))
theorem w_link_Frames {p_x : S_End} {r : List S_Frame} (h : g_link_Frames p_x = some r) : PCalls Try.prog 19 [dG c_End p_x] (.own 27 c_Frame.sz r.length (r.flatMap c_Frame.f)) := by
  refine PCalls.of (rs := [.tmp 2]) tok Try.func19 rfl rfl (Nat.le_of_ble_eq_true rfl) rfl (fun cx hx h0 => ?_)
  simp only [argsT, Nat.reduceAdd, Nat.zero_add]
  unfold g_link_Frames at h
  refine AW.seq ?_
  refine rg hx (by kernel_rfl) fun K hK => ?_
  refine s1 (d := .pt 0 0) T_box ?_
  refine s1 (d := dO 1 c_Frame ([] : List S_Frame)) (T_asgN tb_45 tb_27) ?_
  refine .nil (hK _ _ ?_)
  iterate 2 refine AW.seq ?_
  refine rg hx (by kernel_rfl) fun K hK => ?_
  refine s1 (d := dG c_End p_x) (T_ldA tb_25) ?_
  obtain ⟨x1, hx2, h⟩ := bnd_some h
  refine s1 (d := dB x1) (T_call rfl (w_link_Idle hx2) (by simp only [List.map_cons, List.map_nil, List.all_cons, List.all_nil, Bool.and_true, Bool.and_eq_true]; exact pure_ex_G _ _) (lA (le_refl' _) lAn) (.inl rfl)) ?_
  refine .nil (hK _ _ ?_)
  refine AW.condS rfl (fun hb3 => ?_) (fun hb3 => ?_)
  replace h := cnd_t hb3 h
  refine AW.seq ?_
  refine rg hx (by kernel_rfl) fun K hK => ?_
  refine s1 (T_faP tb_25 tb_3) ?_
  refine s1 (d := dI .i64 p_x.vWant) (T_ldC tb_3) ?_
  refine s1 (d := dG c_Frame (⟨(0 : Int), p_x.vWant, ByteArray.empty⟩ : S_Frame)) (T_build tb_27) ?_
  refine s1 (d := dO 2 c_Frame [(⟨(0 : Int), p_x.vWant, ByteArray.empty⟩ : S_Frame)]) (T_bsl tb_45 tb_27) ?_
  refine s1 T_as ?_
  refine .nil (hK _ _ ?_)
  refine AW.ret ?_
  obtain rfl := Option.some.inj h
  exact RetV.own rfl rfl
  replace h := cnd_f hb3 h
  refine AW.skip ?_
  refine AW.seq ?_
  refine rg hx (by kernel_rfl) fun K hK => ?_
  refine s1 (d := dO 2 c_Frame ([] : List S_Frame)) (T_asgN tb_45 tb_27) ?_
  refine .nil (hK _ _ ?_)
  iterate 2 refine AW.seq ?_
  refine rg hx (by kernel_rfl) fun K hK => ?_
  refine s1 (T_faP tb_25 tb_22) ?_
  refine s1 (d := dL cS p_x.vQueue) (T_ldC tb_22) ?_
  refine s1 (T_faP tb_25 tb_22) ?_
  refine s1 (d := dL cS p_x.vQueue) (T_ldC tb_22) ?_
  refine s1 (d := dI .i64 ((p_x.vQueue).length : Int)) (T_len tb_22 tb_9) ?_
  refine s1 (d := dI .i64 (min ((p_x.vQueue).length : Int) (8 : Int))) T_min ?_
  obtain ⟨hc4, h⟩ := gd_some h
  refine s1 (T_sl (c := cS) (l := p_x.vQueue) (a := (0 : Int)) (b := min ((p_x.vQueue).length : Int) (8 : Int)) hc4 tb_22 tb_9) ?_
  refine s1 (d := dI .i64 ((subL p_x.vQueue (0 : Int) (min ((p_x.vQueue).length : Int) (8 : Int))).length : Int)) (T_len tb_22 tb_9) ?_
  refine s1 (d := dI .i64 (0 : Int)) T_move ?_
  refine .nil (hK _ _ ?_)
  refine AW.block ?_
  obtain ⟨a17e0_0, hy, h⟩ := bnd_some h
  refine lp (S := (List S_Frame) × Int) (X := (List S_Frame)) (fun (a17_0, a17_1) => [(1, .pt 0 0), (3, dO 1 c_Frame a17_0), (18, dL cS (subL p_x.vQueue (0 : Int) (min ((p_x.vQueue).length : Int) (8 : Int)))), (19, dI .i64 ((subL p_x.vQueue (0 : Int) (min ((p_x.vQueue).length : Int) (8 : Int))).length : Int)), (20, dI .i64 a17_1)]) (fun (a17_0, a17_1) => ⟨[(0, [dI .i64 p_x.vBase, dL cS p_x.vQueue, dI .i64 p_x.vWant, dL c_Held p_x.vHeld])], [(1, (a17_0).length, 3, 27)], 2⟩) (PE cx (.exit 0) (fun a17e0_0 => [(3, dO 0 c_Frame a17e0_0)]) fun a17e0_0 => ⟨[], [(0, (a17e0_0).length, 3, 27)], 1⟩) hy ?_ ?_ ?_
  exact wk h0 [0, 2] (wR rfl (wR rfl (wR rfl (wR rfl (wR rfl wTn))))) (vR rfl wVn) (wL rfl rfl wLn)
  clear hy h
  rintro ⟨a17_0, a17_1⟩ y h
  dsimp only [g_link_Frames_l17] at h
  refine AW.seq ?_
  refine rg hx (by kernel_rfl) fun K hK => ?_
  refine s1 T_lss ?_
  refine .nil (hK _ _ ?_)
  refine AW.seq ?_
  refine AW.condS rfl (fun hb5 => ?_) (fun hb5 => ?_)
  replace h := cnd_t hb5 h
  refine AW.skip ?_
  refine AW.seq ?_
  refine AW.block ?_
  refine AW.seq ?_
  refine rg hx (by kernel_rfl) fun K hK => ?_
  refine s1 T_mv ?_
  obtain ⟨hc6, h⟩ := gd_some h
  have hn7 : (a17_1).toNat < (subL p_x.vQueue (0 : Int) (min ((p_x.vQueue).length : Int) (8 : Int))).length := by omega
  refine s1 (T_iaS hc6 tb_22 tb_9) ?_
  refine s1 (d := dS ((subL p_x.vQueue (0 : Int) (min ((p_x.vQueue).length : Int) (8 : Int)))[(a17_1).toNat]!)) (T_ldF (c := cS) (l := subL p_x.vQueue (0 : Int) (min ((p_x.vQueue).length : Int) (8 : Int))) (n := (a17_1).toNat) (o := 0) tb_9 hn7) ?_
  refine s1 T_as ?_
  obtain ⟨x8, hx9, h⟩ := bnd_some h
  replace hx9 := Option.some.inj hx9
  refine s2 (d2 := dS x8) T_as (le_eq (congrArg dS hx9)) ?_
  refine .nil (hK _ _ ?_)
  refine rg hx (by kernel_rfl) fun K hK => ?_
  refine s1 T_mv ?_
  refine s1 (T_faP tb_25 tb_3) ?_
  refine s1 (d := dI .i64 p_x.vBase) (T_ldC tb_3) ?_
  refine s1 T_mv ?_
  refine s1 T_add ?_
  refine s1 (T_faP tb_25 tb_3) ?_
  refine s1 (d := dI .i64 p_x.vWant) (T_ldC tb_3) ?_
  refine s1 T_mv ?_
  refine s1 (d := dG c_Frame (⟨IntKind.i64.wrap (p_x.vBase + a17_1), p_x.vWant, x8⟩ : S_Frame)) (T_build tb_27) ?_
  refine s1 (d := dO 2 c_Frame [(⟨IntKind.i64.wrap (p_x.vBase + a17_1), p_x.vWant, x8⟩ : S_Frame)]) (T_bsl tb_45 tb_27) ?_
  obtain ⟨hc10, h⟩ := gd_some h
  refine s1 (d := dO 1 c_Frame (a17_0 ++ [(⟨IntKind.i64.wrap (p_x.vBase + a17_1), p_x.vWant, x8⟩ : S_Frame)])) (T_appO tb_45 tb_27 hc10) ?_
  refine s1 T_as ?_
  refine .nil (hK _ _ ?_)
  refine rg hx (by kernel_rfl) fun K hK => ?_
  refine s1 T_add ?_
  refine s1 T_mv ?_
  refine .nil (hK _ _ ?_)
  obtain rfl := Option.some.inj h
  exact PS.l (PE.i (wk h0 [0, 1] (wR rfl (wR rfl (wR rfl (wR rfl (wR rfl wTn))))) (vR rfl wVn) (wL rfl rfl wLn)))
  replace h := cnd_f hb5 h
  refine AW.exit ?_
  try dsimp only
  try simp only [if_true, reduceIte, Nat.reduceEqDiff, reduceCtorEq]
  obtain rfl := Option.some.inj h
  exact PS.r ⟨by nofun, PE.i (wk h0 [1] (wR rfl wTn) wVn (wL rfl rfl wLn))⟩
  rintro ex tm' hp' ⟨rfl, hw⟩
  try dsimp only
  try simp only [if_true, reduceIte, Nat.reduceEqDiff, reduceCtorEq]
  refine AW.weak hw ?_
  refine AW.seq ?_
  refine rg hx (by kernel_rfl) fun K hK => ?_
  refine s1 T_mv ?_
  refine s1 T_as ?_
  refine .nil (hK _ _ ?_)
  refine AW.ret ?_
  obtain rfl := Option.some.inj h
  exact RetV.own rfl rfl
noncomputable def g_link_valid (p_f : S_Frame) : Option Bool := bnd (S := Bool) (cnd (decide ((0 : Int) ≤ p_f.vSeq)) (cnd (decide (p_f.vSeq ≤ (2199023255552 : Int))) (cnd (decide ((1 : Int) ≤ p_f.vAck)) (cnd (decide (p_f.vAck ≤ (2199023255552 : Int))) (bnd (g_link_short p_f.vData) fun x5 => cnd x5 (cnd (decide ((0 : Int) < p_f.vSeq)) (some (true)) (some (decide (p_f.vData = ByteArray.empty)))) (some (false))) (some (false))) (some (false))) (some (false))) (some (false))) fun a4_0 => some a4_0
theorem w_link_valid {p_f : S_Frame} {r : Bool} (h : g_link_valid p_f = some r) : PCalls Try.prog 33 [dG c_Frame p_f] (dB r) := by
  refine PCalls.of (rs := [.tmp 2]) tok Try.func33 rfl rfl (Nat.le_of_ble_eq_true rfl) rfl (fun cx hx h0 => ?_)
  simp only [argsT, Nat.reduceAdd, Nat.zero_add]
  unfold g_link_valid at h
  refine AW.seq ?_
  refine rg hx (by kernel_rfl) fun K hK => ?_
  refine s1 (d := .pt 0 0) T_box ?_
  refine s1 (d := dB false) T_asg ?_
  refine .nil (hK _ _ ?_)
  refine AW.seq ?_
  obtain ⟨a4_0, hy, h⟩ := bnd_some h
  refine jn ((PE cx .normal (fun a4_0 => [(2, dB a4_0)]) fun a4_0 => ⟨[], [], 0⟩) a4_0) ?_ ?_
  replace h := hy
  refine rg hx (by kernel_rfl) fun K hK => ?_
  refine s1 (T_faP tb_27 tb_3) ?_
  refine s1 (d := dI .i64 p_f.vSeq) (T_ldC tb_3) ?_
  refine s1 T_geq ?_
  refine s1 T_mv ?_
  rcases Bool.eq_false_or_eq_true (decide ((0 : Int) ≤ p_f.vSeq)) with hb1 | hb1
  replace h := cnd_t hb1 h
  refine g1 hb1 (T_faP tb_27 tb_3) ?_
  refine g1 (d := dI .i64 p_f.vSeq) hb1 (T_ldC tb_3) ?_
  refine g1 hb1 T_leq ?_
  refine s1 (d := dB (decide (p_f.vSeq ≤ (2199023255552 : Int)))) (T_pickT hb1) ?_
  refine s1 T_mv ?_
  rcases Bool.eq_false_or_eq_true (decide (p_f.vSeq ≤ (2199023255552 : Int))) with hb2 | hb2
  replace h := cnd_t hb2 h
  refine g1 hb2 (T_faP tb_27 tb_3) ?_
  refine g1 (d := dI .i64 p_f.vAck) hb2 (T_ldC tb_3) ?_
  refine g1 hb2 T_geq ?_
  refine s1 (d := dB (decide ((1 : Int) ≤ p_f.vAck))) (T_pickT hb2) ?_
  refine s1 T_mv ?_
  rcases Bool.eq_false_or_eq_true (decide ((1 : Int) ≤ p_f.vAck)) with hb3 | hb3
  replace h := cnd_t hb3 h
  refine g1 hb3 (T_faP tb_27 tb_3) ?_
  refine g1 (d := dI .i64 p_f.vAck) hb3 (T_ldC tb_3) ?_
  refine g1 hb3 T_leq ?_
  refine s1 (d := dB (decide (p_f.vAck ≤ (2199023255552 : Int)))) (T_pickT hb3) ?_
  refine s1 T_mv ?_
  rcases Bool.eq_false_or_eq_true (decide (p_f.vAck ≤ (2199023255552 : Int))) with hb4 | hb4
  replace h := cnd_t hb4 h
  refine g1 hb4 (T_faP tb_27 tb_9) ?_
  refine g1 (d := dS p_f.vData) hb4 (T_ldC tb_9) ?_
  obtain ⟨x5, hx6, h⟩ := bnd_some h
  refine g1 (d := dB x5) hb4 (T_call rfl (w_link_short hx6) rfl (lA (le_refl' _) lAn) (.inl rfl)) ?_
  refine s1 (d := dB x5) (T_pickT hb4) ?_
  refine s1 T_mv ?_
  rcases Bool.eq_false_or_eq_true x5 with hb7 | hb7
  replace h := cnd_t hb7 h
  refine g1 hb7 (T_faP tb_27 tb_3) ?_
  refine g1 (d := dI .i64 p_f.vSeq) hb7 (T_ldC tb_3) ?_
  refine g1 hb7 T_gtr ?_
  refine g1 hb7 T_mv ?_
  rcases Bool.eq_false_or_eq_true (decide ((0 : Int) < p_f.vSeq)) with hb8 | hb8
  replace h := cnd_t hb8 h
  iterate 3 refine no_t rfl rfl hb8 ?_
  refine g1 (d := dB true) hb7 (T_pickT hb8) ?_
  refine s1 (d := dB true) (T_pickT hb7) ?_
  refine s1 T_as ?_
  refine .nil (hK _ _ ?_)
  obtain rfl := Option.some.inj h
  exact PE.i (wk h0 [] (wR rfl wTn) wVn wLn)
  replace h := cnd_f hb8 h
  refine g1 hb8 (T_faP tb_27 tb_9) ?_
  refine g1 (d := dS p_f.vData) hb8 (T_ldC tb_9) ?_
  refine g1 hb8 T_seql ?_
  refine g1 (d := dB (decide (p_f.vData = ByteArray.empty))) hb7 (T_pickF hb8) ?_
  refine s1 (d := dB (decide (p_f.vData = ByteArray.empty))) (T_pickT hb7) ?_
  refine s1 T_as ?_
  refine .nil (hK _ _ ?_)
  obtain rfl := Option.some.inj h
  exact PE.i (wk h0 [] (wR rfl wTn) wVn wLn)
  replace h := cnd_f hb7 h
  iterate 4 refine no_t rfl rfl hb7 ?_
  iterate 3 refine nn_t rfl rfl ?_
  refine no_t rfl rfl hb7 ?_
  refine s1 (d := dB false) (T_pickF hb7) ?_
  refine s1 T_as ?_
  refine .nil (hK _ _ ?_)
  obtain rfl := Option.some.inj h
  exact PE.i (wk h0 [] (wR rfl wTn) wVn wLn)
  replace h := cnd_f hb4 h
  iterate 3 refine no_t rfl rfl hb4 ?_
  refine s1 (d := dB false) (T_pickF hb4) ?_
  refine s1 T_mv ?_
  iterate 4 refine no_t rfl rfl rfl ?_
  iterate 3 refine nn_t rfl rfl ?_
  refine no_t rfl rfl rfl ?_
  refine s1 (d := dB false) (T_pickF rfl) ?_
  refine s1 T_as ?_
  refine .nil (hK _ _ ?_)
  obtain rfl := Option.some.inj h
  exact PE.i (wk h0 [] (wR rfl wTn) wVn wLn)
  replace h := cnd_f hb3 h
  iterate 3 refine no_t rfl rfl hb3 ?_
  refine s1 (d := dB false) (T_pickF hb3) ?_
  refine s1 T_mv ?_
  iterate 3 refine no_t rfl rfl rfl ?_
  refine s1 (d := dB false) (T_pickF rfl) ?_
  refine s1 T_mv ?_
  iterate 4 refine no_t rfl rfl rfl ?_
  iterate 3 refine nn_t rfl rfl ?_
  refine no_t rfl rfl rfl ?_
  refine s1 (d := dB false) (T_pickF rfl) ?_
  refine s1 T_as ?_
  refine .nil (hK _ _ ?_)
  obtain rfl := Option.some.inj h
  exact PE.i (wk h0 [] (wR rfl wTn) wVn wLn)
  replace h := cnd_f hb2 h
  iterate 3 refine no_t rfl rfl hb2 ?_
  refine s1 (d := dB false) (T_pickF hb2) ?_
  refine s1 T_mv ?_
  iterate 3 refine no_t rfl rfl rfl ?_
  refine s1 (d := dB false) (T_pickF rfl) ?_
  refine s1 T_mv ?_
  iterate 3 refine no_t rfl rfl rfl ?_
  refine s1 (d := dB false) (T_pickF rfl) ?_
  refine s1 T_mv ?_
  iterate 4 refine no_t rfl rfl rfl ?_
  iterate 3 refine nn_t rfl rfl ?_
  refine no_t rfl rfl rfl ?_
  refine s1 (d := dB false) (T_pickF rfl) ?_
  refine s1 T_as ?_
  refine .nil (hK _ _ ?_)
  obtain rfl := Option.some.inj h
  exact PE.i (wk h0 [] (wR rfl wTn) wVn wLn)
  replace h := cnd_f hb1 h
  iterate 3 refine no_t rfl rfl hb1 ?_
  refine s1 (d := dB false) (T_pickF hb1) ?_
  refine s1 T_mv ?_
  iterate 3 refine no_t rfl rfl rfl ?_
  refine s1 (d := dB false) (T_pickF rfl) ?_
  refine s1 T_mv ?_
  iterate 3 refine no_t rfl rfl rfl ?_
  refine s1 (d := dB false) (T_pickF rfl) ?_
  refine s1 T_mv ?_
  iterate 3 refine no_t rfl rfl rfl ?_
  refine s1 (d := dB false) (T_pickF rfl) ?_
  refine s1 T_mv ?_
  iterate 4 refine no_t rfl rfl rfl ?_
  iterate 3 refine nn_t rfl rfl ?_
  refine no_t rfl rfl rfl ?_
  refine s1 (d := dB false) (T_pickF rfl) ?_
  refine s1 T_as ?_
  refine .nil (hK _ _ ?_)
  obtain rfl := Option.some.inj h
  exact PE.i (wk h0 [] (wR rfl wTn) wVn wLn)
  rintro ex tm' hp' ⟨rfl, hw⟩
  refine AW.weak hw ?_
  refine AW.ret ?_
  obtain rfl := Option.some.inj h
  exact RetV.mk1 (resD_t rfl (.inr (.inr ⟨_, (le_refl' _), rfl, rfl⟩)))
noncomputable def g_ref42_SameFrames_l15 (p_a : List S_Frame) (p_b : List S_Frame) : Int → Option (Int ⊕ (Bool ⊕ Unit)) := fun a15_0 => cnd (decide (a15_0 < ((p_a).length : Int))) (gd (0 ≤ a15_0 ∧ a15_0 < ((p_a).length : Int)) (gd (0 ≤ a15_0 ∧ a15_0 < ((p_b).length : Int)) (cnd (decide (¬ ((p_a)[(a15_0).toNat]! = (p_b)[(a15_0).toNat]!))) (some (.inr (.inl false))) (some (.inl (IntKind.i64.wrap (a15_0 + (1 : Int)))))))) (some (.inr (.inr ())))
noncomputable def g_ref42_SameFrames (p_a : List S_Frame) (p_b : List S_Frame) : Option Bool := cnd (decide (((p_a).length : Int) ≠ ((p_b).length : Int))) (some false) (bnd (loopO (g_ref42_SameFrames_l15 p_a p_b) (0 : Int)) fun y8 => match y8 with | .inl r => some r | .inr () => some true)
theorem w_ref42_SameFrames {p_a : List S_Frame} {p_b : List S_Frame} {r : Bool} (h : g_ref42_SameFrames p_a p_b = some r) : PCalls Try.prog 18 [dL c_Frame p_a, dL c_Frame p_b] (dB r) := by
  refine PCalls.of (rs := [.tmp 4]) tok Try.func18 rfl rfl (Nat.le_of_ble_eq_true rfl) rfl (fun cx hx h0 => ?_)
  simp only [argsT, Nat.reduceAdd, Nat.zero_add]
  unfold g_ref42_SameFrames at h
  refine AW.seq ?_
  refine rg hx (by kernel_rfl) fun K hK => ?_
  refine s1 (d := dB false) T_asg ?_
  refine .nil (hK _ _ ?_)
  iterate 2 refine AW.seq ?_
  refine rg hx (by kernel_rfl) fun K hK => ?_
  refine s1 T_mv ?_
  refine s1 (d := dI .i64 ((p_a).length : Int)) (T_len tb_45 tb_27) ?_
  refine s1 T_mv ?_
  refine s1 (d := dI .i64 ((p_b).length : Int)) (T_len tb_45 tb_27) ?_
  refine s1 T_neq ?_
  refine .nil (hK _ _ ?_)
  refine AW.condS rfl (fun hb1 => ?_) (fun hb1 => ?_)
  replace h := cnd_t hb1 h
  refine AW.seq ?_
  refine rg hx (by kernel_rfl) fun K hK => ?_
  refine s1 (d := dB false) T_asg ?_
  refine .nil (hK _ _ ?_)
  refine AW.ret ?_
  obtain rfl := Option.some.inj h
  exact RetV.mk1 (resD_t rfl (.inr (.inr ⟨_, (le_refl' _), rfl, rfl⟩)))
  replace h := cnd_f hb1 h
  refine AW.skip ?_
  iterate 2 refine AW.seq ?_
  refine rg hx (by kernel_rfl) fun K hK => ?_
  refine s1 (d := dI .i64 (0 : Int)) T_asg ?_
  refine .nil (hK _ _ ?_)
  refine AW.block ?_
  obtain ⟨y, hy, h⟩ := bnd_some h
  refine lp (S := Int) (X := Bool ⊕ Unit) (fun a15_0 => [(0, dL c_Frame p_a), (1, dL c_Frame p_b), (5, dI .i64 a15_0)]) (fun a15_0 => ⟨[], [], 0⟩) (PS (PR [.tmp 4] fun r => dB r) (PE cx (.exit 0) (fun () => []) fun () => ⟨[], [], 0⟩)) hy ?_ ?_ ?_
  exact wk h0 [] (wR rfl (wR rfl (wR rfl wTn))) wVn wLn
  clear hy h
  rintro a15_0 y h
  dsimp only [g_ref42_SameFrames_l15] at h
  iterate 2 refine AW.seq ?_
  refine rg hx (by kernel_rfl) fun K hK => ?_
  iterate 2 refine s1 T_mv ?_
  refine s1 (d := dI .i64 ((p_a).length : Int)) (T_len tb_45 tb_27) ?_
  refine s1 T_lss ?_
  refine .nil (hK _ _ ?_)
  refine AW.condS rfl (fun hb2 => ?_) (fun hb2 => ?_)
  replace h := cnd_t hb2 h
  refine AW.skip ?_
  refine AW.seq ?_
  refine AW.block ?_
  refine AW.seq ?_
  refine rd [] hx (by kernel_rfl) (by kernel_rfl) fun K hK => ?_
  iterate 2 refine s1 T_mv ?_
  obtain ⟨hc3, h⟩ := gd_some h
  have hn4 : (a15_0).toNat < (p_a).length := by omega
  refine s1 (T_iaS hc3 tb_45 tb_27) ?_
  refine s1 (d := dG c_Frame ((p_a)[(a15_0).toNat]!)) (T_ldG (c := c_Frame) (l := p_a) (n := (a15_0).toNat) (o := 0) tb_27 hn4 (whole_G _ _ rfl)) ?_
  iterate 2 refine s1 T_mv ?_
  obtain ⟨hc5, h⟩ := gd_some h
  have hn6 : (a15_0).toNat < (p_b).length := by omega
  refine s1 (T_iaS hc5 tb_45 tb_27) ?_
  refine s1 (d := dG c_Frame ((p_b)[(a15_0).toNat]!)) (T_ldG (c := c_Frame) (l := p_b) (n := (a15_0).toNat) (o := 0) tb_27 hn6 (whole_G _ _ rfl)) ?_
  refine s1 (T_gneq tok 6 (by decide) tb_27 rfl (by kernel_rfl) (by kernel_rfl) rfl rfl rfl rfl (eqF_Frame _) (eqF_Frame _) (eqI_Frame _ _)) ?_
  refine .nil (hK _ _ ?_)
  refine AW.condS rfl (fun hb7 => ?_) (fun hb7 => ?_)
  replace h := cnd_t hb7 h
  refine AW.seq ?_
  refine rg hx (by kernel_rfl) fun K hK => ?_
  refine s1 (d := dB false) T_asg ?_
  refine .nil (hK _ _ ?_)
  refine AW.ret ?_
  obtain rfl := Option.some.inj h
  refine PS.r ⟨by nofun, PS.l (PR.i ?_)⟩
  exact RetV.mk1 (resD_t rfl (.inr (.inr ⟨_, (le_refl' _), rfl, rfl⟩)))
  replace h := cnd_f hb7 h
  refine AW.skip ?_
  refine rg hx (by kernel_rfl) fun K hK => ?_
  refine s1 T_mv ?_
  refine s1 T_add ?_
  refine s1 T_as ?_
  refine .nil (hK _ _ ?_)
  obtain rfl := Option.some.inj h
  exact PS.l (PE.i (wk h0 [] (wR rfl (wR rfl (wR rfl wTn))) wVn wLn))
  replace h := cnd_f hb2 h
  refine AW.exit ?_
  try dsimp only
  try simp only [if_true, reduceIte, Nat.reduceEqDiff, reduceCtorEq]
  obtain rfl := Option.some.inj h
  exact PS.r ⟨by nofun, PS.r (PE.i (wk h0 [] wTn wVn wLn))⟩
  rcases y with r | ⟨⟩
  rintro ex tm' hp' ⟨rfl, hw⟩
  obtain rfl := Option.some.inj h
  exact hw
  rintro ex tm' hp' ⟨rfl, hw⟩
  try dsimp only
  try simp only [if_true, reduceIte, Nat.reduceEqDiff, reduceCtorEq]
  refine AW.weak hw ?_
  refine AW.seq ?_
  refine rg hx (by kernel_rfl) fun K hK => ?_
  refine s1 (d := dB true) T_asg ?_
  refine .nil (hK _ _ ?_)
  refine AW.ret ?_
  obtain rfl := Option.some.inj h
  exact RetV.mk1 (resD_t rfl (.inr (.inr ⟨_, (le_refl' _), rfl, rfl⟩)))
noncomputable def g_ref01_SameTexts_l15 (p_a : List ByteArray) (p_b : List ByteArray) : Int → Option (Int ⊕ (Bool ⊕ Unit)) := fun a15_0 => cnd (decide (a15_0 < ((p_a).length : Int))) (gd (0 ≤ a15_0 ∧ a15_0 < ((p_a).length : Int)) (gd (0 ≤ a15_0 ∧ a15_0 < ((p_b).length : Int)) (cnd (decide (((p_a)[(a15_0).toNat]!) ≠ ((p_b)[(a15_0).toNat]!))) (some (.inr (.inl false))) (some (.inl (IntKind.i64.wrap (a15_0 + (1 : Int)))))))) (some (.inr (.inr ())))
noncomputable def g_ref01_SameTexts (p_a : List ByteArray) (p_b : List ByteArray) : Option Bool := cnd (decide (((p_a).length : Int) ≠ ((p_b).length : Int))) (some false) (bnd (loopO (g_ref01_SameTexts_l15 p_a p_b) (0 : Int)) fun y8 => match y8 with | .inl r => some r | .inr () => some true)
theorem w_ref01_SameTexts {p_a : List ByteArray} {p_b : List ByteArray} {r : Bool} (h : g_ref01_SameTexts p_a p_b = some r) : PCalls Try.prog 17 [dL cS p_a, dL cS p_b] (dB r) := by
  refine PCalls.of (rs := [.tmp 4]) tok Try.func17 rfl rfl (Nat.le_of_ble_eq_true rfl) rfl (fun cx hx h0 => ?_)
  simp only [argsT, Nat.reduceAdd, Nat.zero_add]
  unfold g_ref01_SameTexts at h
  refine AW.seq ?_
  refine rg hx (by kernel_rfl) fun K hK => ?_
  refine s1 (d := dB false) T_asg ?_
  refine .nil (hK _ _ ?_)
  iterate 2 refine AW.seq ?_
  refine rg hx (by kernel_rfl) fun K hK => ?_
  refine s1 T_mv ?_
  refine s1 (d := dI .i64 ((p_a).length : Int)) (T_len tb_22 tb_9) ?_
  refine s1 T_mv ?_
  refine s1 (d := dI .i64 ((p_b).length : Int)) (T_len tb_22 tb_9) ?_
  refine s1 T_neq ?_
  refine .nil (hK _ _ ?_)
  refine AW.condS rfl (fun hb1 => ?_) (fun hb1 => ?_)
  replace h := cnd_t hb1 h
  refine AW.seq ?_
  refine rg hx (by kernel_rfl) fun K hK => ?_
  refine s1 (d := dB false) T_asg ?_
  refine .nil (hK _ _ ?_)
  refine AW.ret ?_
  obtain rfl := Option.some.inj h
  exact RetV.mk1 (resD_t rfl (.inr (.inr ⟨_, (le_refl' _), rfl, rfl⟩)))
  replace h := cnd_f hb1 h
  refine AW.skip ?_
  iterate 2 refine AW.seq ?_
  refine rg hx (by kernel_rfl) fun K hK => ?_
  refine s1 (d := dI .i64 (0 : Int)) T_asg ?_
  refine .nil (hK _ _ ?_)
  refine AW.block ?_
  obtain ⟨y, hy, h⟩ := bnd_some h
  refine lp (S := Int) (X := Bool ⊕ Unit) (fun a15_0 => [(0, dL cS p_a), (1, dL cS p_b), (5, dI .i64 a15_0)]) (fun a15_0 => ⟨[], [], 0⟩) (PS (PR [.tmp 4] fun r => dB r) (PE cx (.exit 0) (fun () => []) fun () => ⟨[], [], 0⟩)) hy ?_ ?_ ?_
  exact wk h0 [] (wR rfl (wR rfl (wR rfl wTn))) wVn wLn
  clear hy h
  rintro a15_0 y h
  dsimp only [g_ref01_SameTexts_l15] at h
  iterate 2 refine AW.seq ?_
  refine rg hx (by kernel_rfl) fun K hK => ?_
  iterate 2 refine s1 T_mv ?_
  refine s1 (d := dI .i64 ((p_a).length : Int)) (T_len tb_22 tb_9) ?_
  refine s1 T_lss ?_
  refine .nil (hK _ _ ?_)
  refine AW.condS rfl (fun hb2 => ?_) (fun hb2 => ?_)
  replace h := cnd_t hb2 h
  refine AW.skip ?_
  refine AW.seq ?_
  refine AW.block ?_
  refine AW.seq ?_
  refine rd [] hx (by kernel_rfl) (by kernel_rfl) fun K hK => ?_
  iterate 2 refine s1 T_mv ?_
  obtain ⟨hc3, h⟩ := gd_some h
  have hn4 : (a15_0).toNat < (p_a).length := by omega
  refine s1 (T_iaS hc3 tb_22 tb_9) ?_
  refine s1 (d := dS ((p_a)[(a15_0).toNat]!)) (T_ldF (c := cS) (l := p_a) (n := (a15_0).toNat) (o := 0) tb_9 hn4) ?_
  iterate 2 refine s1 T_mv ?_
  obtain ⟨hc5, h⟩ := gd_some h
  have hn6 : (a15_0).toNat < (p_b).length := by omega
  refine s1 (T_iaS hc5 tb_22 tb_9) ?_
  refine s1 (d := dS ((p_b)[(a15_0).toNat]!)) (T_ldF (c := cS) (l := p_b) (n := (a15_0).toNat) (o := 0) tb_9 hn6) ?_
  refine s1 T_sneq ?_
  refine .nil (hK _ _ ?_)
  refine AW.condS rfl (fun hb7 => ?_) (fun hb7 => ?_)
  replace h := cnd_t hb7 h
  refine AW.seq ?_
  refine rg hx (by kernel_rfl) fun K hK => ?_
  refine s1 (d := dB false) T_asg ?_
  refine .nil (hK _ _ ?_)
  refine AW.ret ?_
  obtain rfl := Option.some.inj h
  refine PS.r ⟨by nofun, PS.l (PR.i ?_)⟩
  exact RetV.mk1 (resD_t rfl (.inr (.inr ⟨_, (le_refl' _), rfl, rfl⟩)))
  replace h := cnd_f hb7 h
  refine AW.skip ?_
  refine rg hx (by kernel_rfl) fun K hK => ?_
  refine s1 T_mv ?_
  refine s1 T_add ?_
  refine s1 T_as ?_
  refine .nil (hK _ _ ?_)
  obtain rfl := Option.some.inj h
  exact PS.l (PE.i (wk h0 [] (wR rfl (wR rfl (wR rfl wTn))) wVn wLn))
  replace h := cnd_f hb2 h
  refine AW.exit ?_
  try dsimp only
  try simp only [if_true, reduceIte, Nat.reduceEqDiff, reduceCtorEq]
  obtain rfl := Option.some.inj h
  exact PS.r ⟨by nofun, PS.r (PE.i (wk h0 [] wTn wVn wLn))⟩
  rcases y with r | ⟨⟩
  rintro ex tm' hp' ⟨rfl, hw⟩
  obtain rfl := Option.some.inj h
  exact hw
  rintro ex tm' hp' ⟨rfl, hw⟩
  try dsimp only
  try simp only [if_true, reduceIte, Nat.reduceEqDiff, reduceCtorEq]
  refine AW.weak hw ?_
  refine AW.seq ?_
  refine rg hx (by kernel_rfl) fun K hK => ?_
  refine s1 (d := dB true) T_asg ?_
  refine .nil (hK _ _ ?_)
  refine AW.ret ?_
  obtain rfl := Option.some.inj h
  exact RetV.mk1 (resD_t rfl (.inr (.inr ⟨_, (le_refl' _), rfl, rfl⟩)))
noncomputable def g_ref42_Same_l15 (p_a : S_End) (p_b : S_End) : Int → Option (Int ⊕ (Bool ⊕ Unit)) := fun a15_0 => cnd (decide (a15_0 < ((p_a.vHeld).length : Int))) (gd (0 ≤ a15_0 ∧ a15_0 < ((p_a.vHeld).length : Int)) (gd (0 ≤ a15_0 ∧ a15_0 < ((p_b.vHeld).length : Int)) (cnd (decide (¬ ((p_a.vHeld)[(a15_0).toNat]! = (p_b.vHeld)[(a15_0).toNat]!))) (some (.inr (.inl false))) (some (.inl (IntKind.i64.wrap (a15_0 + (1 : Int)))))))) (some (.inr (.inr ())))
noncomputable def g_ref42_Same (p_a : S_End) (p_b : S_End) : Option Bool := bnd (S := Bool) (cnd (decide (p_a.vBase ≠ p_b.vBase)) (some (true)) (cnd (decide (p_a.vWant ≠ p_b.vWant)) (some (true)) (bnd (g_ref01_SameTexts p_a.vQueue p_b.vQueue) fun x3 => cnd (!x3) (some (true)) (some (decide (((p_a.vHeld).length : Int) ≠ ((p_b.vHeld).length : Int))))))) fun a5_0 => cnd a5_0 (some false) (bnd (loopO (g_ref42_Same_l15 p_a p_b) (0 : Int)) fun y14 => match y14 with | .inl r => some r | .inr () => some true)
theorem w_ref42_Same {p_a : S_End} {p_b : S_End} {r : Bool} (h : g_ref42_Same p_a p_b = some r) : PCalls Try.prog 16 [dG c_End p_a, dG c_End p_b] (dB r) := by
  refine PCalls.of (rs := [.tmp 4]) tok Try.func16 rfl rfl (Nat.le_of_ble_eq_true rfl) rfl (fun cx hx h0 => ?_)
  simp only [argsT, Nat.reduceAdd, Nat.zero_add]
  unfold g_ref42_Same at h
  refine AW.seq ?_
  refine rg hx (by kernel_rfl) fun K hK => ?_
  refine s1 (d := .pt 0 0) T_box ?_
  refine s1 (d := .pt 1 0) T_box ?_
  refine s1 (d := dB false) T_asg ?_
  refine .nil (hK _ _ ?_)
  iterate 2 refine AW.seq ?_
  obtain ⟨a5_0, hy, h⟩ := bnd_some h
  refine jn ((PE cx .normal (fun a5_0 => [(2, .pt 0 0), (3, .pt 1 0), (34, dB a5_0)]) fun a5_0 => ⟨[(0, [dI .i64 p_a.vBase, dL cS p_a.vQueue, dI .i64 p_a.vWant, dL c_Held p_a.vHeld]), (1, [dI .i64 p_b.vBase, dL cS p_b.vQueue, dI .i64 p_b.vWant, dL c_Held p_b.vHeld])], [], 2⟩) a5_0) ?_ ?_
  replace h := hy
  refine rg hx (by kernel_rfl) fun K hK => ?_
  refine s1 (T_faP tb_25 tb_3) ?_
  refine s1 (d := dI .i64 p_a.vBase) (T_ldC tb_3) ?_
  refine s1 (T_faP tb_25 tb_3) ?_
  refine s1 (d := dI .i64 p_b.vBase) (T_ldC tb_3) ?_
  refine s1 T_neq ?_
  refine s1 T_mv ?_
  rcases Bool.eq_false_or_eq_true (decide (p_a.vBase ≠ p_b.vBase)) with hb1 | hb1
  replace h := cnd_t hb1 h
  iterate 5 refine no_t rfl rfl hb1 ?_
  refine s1 (d := dB true) (T_pickT hb1) ?_
  refine s1 T_mv ?_
  iterate 6 refine no_t rfl rfl rfl ?_
  refine s1 (d := dB true) (T_pickT rfl) ?_
  refine s1 T_mv ?_
  iterate 7 refine no_t rfl rfl rfl ?_
  refine s1 (d := dB true) (T_pickT rfl) ?_
  refine .nil (hK _ _ ?_)
  obtain rfl := Option.some.inj h
  exact PE.i (wk h0 [0, 1] (wR rfl (wR rfl (wR rfl wTn))) (vR rfl (vR rfl wVn)) wLn)
  replace h := cnd_f hb1 h
  refine g1 hb1 (T_faP tb_25 tb_3) ?_
  refine g1 (d := dI .i64 p_a.vWant) hb1 (T_ldC tb_3) ?_
  refine g1 hb1 (T_faP tb_25 tb_3) ?_
  refine g1 (d := dI .i64 p_b.vWant) hb1 (T_ldC tb_3) ?_
  refine g1 hb1 T_neq ?_
  refine s1 (d := dB (decide (p_a.vWant ≠ p_b.vWant))) (T_pickF hb1) ?_
  refine s1 T_mv ?_
  rcases Bool.eq_false_or_eq_true (decide (p_a.vWant ≠ p_b.vWant)) with hb2 | hb2
  replace h := cnd_t hb2 h
  iterate 6 refine no_t rfl rfl hb2 ?_
  refine s1 (d := dB true) (T_pickT hb2) ?_
  refine s1 T_mv ?_
  iterate 7 refine no_t rfl rfl rfl ?_
  refine s1 (d := dB true) (T_pickT rfl) ?_
  refine .nil (hK _ _ ?_)
  obtain rfl := Option.some.inj h
  exact PE.i (wk h0 [0, 1] (wR rfl (wR rfl (wR rfl wTn))) (vR rfl (vR rfl wVn)) wLn)
  replace h := cnd_f hb2 h
  refine g1 hb2 (T_faP tb_25 tb_22) ?_
  refine g1 (d := dL cS p_a.vQueue) hb2 (T_ldC tb_22) ?_
  refine g1 hb2 (T_faP tb_25 tb_22) ?_
  refine g1 (d := dL cS p_b.vQueue) hb2 (T_ldC tb_22) ?_
  obtain ⟨x3, hx4, h⟩ := bnd_some h
  refine g1 (d := dB x3) hb2 (T_call rfl (w_ref01_SameTexts hx4) rfl (lA (le_refl' _) (lA (le_refl' _) lAn)) (.inl rfl)) ?_
  refine g1 hb2 T_not ?_
  refine s1 (d := dB (!x3)) (T_pickF hb2) ?_
  refine s1 T_mv ?_
  rcases Bool.eq_false_or_eq_true (!x3) with hb5 | hb5
  replace h := cnd_t hb5 h
  iterate 7 refine no_t rfl rfl hb5 ?_
  refine s1 (d := dB true) (T_pickT hb5) ?_
  refine .nil (hK _ _ ?_)
  obtain rfl := Option.some.inj h
  exact PE.i (wk h0 [0, 1] (wR rfl (wR rfl (wR rfl wTn))) (vR rfl (vR rfl wVn)) wLn)
  replace h := cnd_f hb5 h
  refine g1 hb5 (T_faP tb_25 tb_23) ?_
  refine g1 (d := dL c_Held p_a.vHeld) hb5 (T_ldC tb_23) ?_
  refine g1 (d := dI .i64 ((p_a.vHeld).length : Int)) hb5 (T_len tb_23 tb_74) ?_
  refine g1 hb5 (T_faP tb_25 tb_23) ?_
  refine g1 (d := dL c_Held p_b.vHeld) hb5 (T_ldC tb_23) ?_
  refine g1 (d := dI .i64 ((p_b.vHeld).length : Int)) hb5 (T_len tb_23 tb_74) ?_
  refine g1 hb5 T_neq ?_
  refine s1 (d := dB (decide (((p_a.vHeld).length : Int) ≠ ((p_b.vHeld).length : Int)))) (T_pickF hb5) ?_
  refine .nil (hK _ _ ?_)
  obtain rfl := Option.some.inj h
  exact PE.i (wk h0 [0, 1] (wR rfl (wR rfl (wR rfl wTn))) (vR rfl (vR rfl wVn)) wLn)
  rintro ex tm' hp' ⟨rfl, hw⟩
  refine AW.weak hw ?_
  refine AW.condS rfl (fun hb7 => ?_) (fun hb7 => ?_)
  replace h := cnd_t hb7 h
  refine AW.seq ?_
  refine rg hx (by kernel_rfl) fun K hK => ?_
  refine s1 (d := dB false) T_asg ?_
  refine .nil (hK _ _ ?_)
  refine AW.ret ?_
  obtain rfl := Option.some.inj h
  exact RetV.mk1 (resD_t rfl (.inr (.inr ⟨_, (le_refl' _), rfl, rfl⟩)))
  replace h := cnd_f hb7 h
  refine AW.skip ?_
  iterate 2 refine AW.seq ?_
  refine rg hx (by kernel_rfl) fun K hK => ?_
  refine s1 (d := dI .i64 (0 : Int)) T_asg ?_
  refine .nil (hK _ _ ?_)
  refine AW.block ?_
  obtain ⟨y, hy, h⟩ := bnd_some h
  refine lp (S := Int) (X := Bool ⊕ Unit) (fun a15_0 => [(2, .pt 0 0), (3, .pt 1 0), (5, dI .i64 a15_0)]) (fun a15_0 => ⟨[(0, [dI .i64 p_a.vBase, dL cS p_a.vQueue, dI .i64 p_a.vWant, dL c_Held p_a.vHeld]), (1, [dI .i64 p_b.vBase, dL cS p_b.vQueue, dI .i64 p_b.vWant, dL c_Held p_b.vHeld])], [], 2⟩) (PS (PR [.tmp 4] fun r => dB r) (PE cx (.exit 0) (fun () => []) fun () => ⟨[], [], 0⟩)) hy ?_ ?_ ?_
  exact wk h0 [0, 1] (wR rfl (wR rfl (wR rfl wTn))) (vR rfl (vR rfl wVn)) wLn
  clear hy h
  rintro a15_0 y h
  dsimp only [g_ref42_Same_l15] at h
  iterate 2 refine AW.seq ?_
  refine rg hx (by kernel_rfl) fun K hK => ?_
  refine s1 T_mv ?_
  refine s1 (T_faP tb_25 tb_23) ?_
  refine s1 (d := dL c_Held p_a.vHeld) (T_ldC tb_23) ?_
  refine s1 (d := dI .i64 ((p_a.vHeld).length : Int)) (T_len tb_23 tb_74) ?_
  refine s1 T_lss ?_
  refine .nil (hK _ _ ?_)
  refine AW.condS rfl (fun hb8 => ?_) (fun hb8 => ?_)
  replace h := cnd_t hb8 h
  refine AW.skip ?_
  refine AW.seq ?_
  refine AW.block ?_
  refine AW.seq ?_
  refine rd [] hx (by kernel_rfl) (by kernel_rfl) fun K hK => ?_
  refine s1 (T_faP tb_25 tb_23) ?_
  refine s1 (d := dL c_Held p_a.vHeld) (T_ldC tb_23) ?_
  refine s1 T_mv ?_
  obtain ⟨hc9, h⟩ := gd_some h
  have hn10 : (a15_0).toNat < (p_a.vHeld).length := by omega
  refine s1 (T_iaS hc9 tb_23 tb_74) ?_
  refine s1 (d := dG c_Held ((p_a.vHeld)[(a15_0).toNat]!)) (T_ldG (c := c_Held) (l := p_a.vHeld) (n := (a15_0).toNat) (o := 0) tb_74 hn10 (whole_G _ _ rfl)) ?_
  refine s1 (T_faP tb_25 tb_23) ?_
  refine s1 (d := dL c_Held p_b.vHeld) (T_ldC tb_23) ?_
  refine s1 T_mv ?_
  obtain ⟨hc11, h⟩ := gd_some h
  have hn12 : (a15_0).toNat < (p_b.vHeld).length := by omega
  refine s1 (T_iaS hc11 tb_23 tb_74) ?_
  refine s1 (d := dG c_Held ((p_b.vHeld)[(a15_0).toNat]!)) (T_ldG (c := c_Held) (l := p_b.vHeld) (n := (a15_0).toNat) (o := 0) tb_74 hn12 (whole_G _ _ rfl)) ?_
  refine s1 (T_gneq tok 6 (by decide) tb_74 rfl (by kernel_rfl) (by kernel_rfl) rfl rfl rfl rfl (eqF_Held _) (eqF_Held _) (eqI_Held _ _)) ?_
  refine .nil (hK _ _ ?_)
  refine AW.condS rfl (fun hb13 => ?_) (fun hb13 => ?_)
  replace h := cnd_t hb13 h
  refine AW.seq ?_
  refine rg hx (by kernel_rfl) fun K hK => ?_
  refine s1 (d := dB false) T_asg ?_
  refine .nil (hK _ _ ?_)
  refine AW.ret ?_
  obtain rfl := Option.some.inj h
  refine PS.r ⟨by nofun, PS.l (PR.i ?_)⟩
  exact RetV.mk1 (resD_t rfl (.inr (.inr ⟨_, (le_refl' _), rfl, rfl⟩)))
  replace h := cnd_f hb13 h
  refine AW.skip ?_
  refine rg hx (by kernel_rfl) fun K hK => ?_
  refine s1 T_mv ?_
  refine s1 T_add ?_
  refine s1 T_as ?_
  refine .nil (hK _ _ ?_)
  obtain rfl := Option.some.inj h
  exact PS.l (PE.i (wk h0 [0, 1] (wR rfl (wR rfl (wR rfl wTn))) (vR rfl (vR rfl wVn)) wLn))
  replace h := cnd_f hb8 h
  refine AW.exit ?_
  try dsimp only
  try simp only [if_true, reduceIte, Nat.reduceEqDiff, reduceCtorEq]
  obtain rfl := Option.some.inj h
  exact PS.r ⟨by nofun, PS.r (PE.i (wk h0 [] wTn wVn wLn))⟩
  rcases y with r | ⟨⟩
  rintro ex tm' hp' ⟨rfl, hw⟩
  obtain rfl := Option.some.inj h
  exact hw
  rintro ex tm' hp' ⟨rfl, hw⟩
  try dsimp only
  try simp only [if_true, reduceIte, Nat.reduceEqDiff, reduceCtorEq]
  refine AW.weak hw ?_
  refine AW.seq ?_
  refine rg hx (by kernel_rfl) fun K hK => ?_
  refine s1 (d := dB true) T_asg ?_
  refine .nil (hK _ _ ?_)
  refine AW.ret ?_
  obtain rfl := Option.some.inj h
  exact RetV.mk1 (resD_t rfl (.inr (.inr ⟨_, (le_refl' _), rfl, rfl⟩)))
noncomputable def g_law42_word (p_side : Int) (p_n : Int) : Option ByteArray := some (bStr [IntKind.u8.wrap (IntKind.i64.wrap ((97 : Int) + p_side)), IntKind.u8.wrap (IntKind.i64.wrap ((48 : Int) + (Int.tmod (IntKind.i64.wrap (Int.tdiv p_n (100 : Int))) (10 : Int)))), IntKind.u8.wrap (IntKind.i64.wrap ((48 : Int) + (Int.tmod (IntKind.i64.wrap (Int.tdiv p_n (10 : Int))) (10 : Int)))), IntKind.u8.wrap (IntKind.i64.wrap ((48 : Int) + (Int.tmod p_n (10 : Int))))])
theorem w_law42_word {p_side : Int} {p_n : Int} {r : ByteArray} (h : g_law42_word p_side p_n = some r) : PCalls Try.prog 24 [dI .i64 p_side, dI .i64 p_n] (dS r) := by
  refine PCalls.of (rs := [.tmp 4]) tok Try.func24 rfl rfl (Nat.le_of_ble_eq_true rfl) rfl (fun cx hx h0 => ?_)
  simp only [argsT, Nat.reduceAdd, Nat.zero_add]
  unfold g_law42_word at h
  refine AW.seq ?_
  refine rg hx (by kernel_rfl) fun K hK => ?_
  refine s1 (d := dS ByteArray.empty) T_asg ?_
  refine .nil (hK _ _ ?_)
  refine AW.seq ?_
  refine rg hx (by kernel_rfl) fun K hK => ?_
  refine s1 T_mv ?_
  refine s1 T_add ?_
  refine s1 (d := dI .u8 (IntKind.u8.wrap (IntKind.i64.wrap ((97 : Int) + p_side)))) (T_cvI tb_3 tb_5) ?_
  refine s1 T_mv ?_
  refine s1 (T_quo (b := (100 : Int)) (by decide)) ?_
  refine s1 (T_rem (b := (10 : Int)) (by decide)) ?_
  refine s1 T_add ?_
  refine s1 (d := dI .u8 (IntKind.u8.wrap (IntKind.i64.wrap ((48 : Int) + (Int.tmod (IntKind.i64.wrap (Int.tdiv p_n (100 : Int))) (10 : Int)))))) (T_cvI tb_3 tb_5) ?_
  refine s1 T_mv ?_
  refine s1 (T_quo (b := (10 : Int)) (by decide)) ?_
  refine s1 (T_rem (b := (10 : Int)) (by decide)) ?_
  refine s1 T_add ?_
  refine s1 (d := dI .u8 (IntKind.u8.wrap (IntKind.i64.wrap ((48 : Int) + (Int.tmod (IntKind.i64.wrap (Int.tdiv p_n (10 : Int))) (10 : Int)))))) (T_cvI tb_3 tb_5) ?_
  refine s1 T_mv ?_
  refine s1 (T_rem (b := (10 : Int)) (by decide)) ?_
  refine s1 T_add ?_
  refine s1 (d := dI .u8 (IntKind.u8.wrap (IntKind.i64.wrap ((48 : Int) + (Int.tmod p_n (10 : Int)))))) (T_cvI tb_3 tb_5) ?_
  refine s1 (d := dO 0 (cI .u8) [IntKind.u8.wrap (IntKind.i64.wrap ((97 : Int) + p_side)), IntKind.u8.wrap (IntKind.i64.wrap ((48 : Int) + (Int.tmod (IntKind.i64.wrap (Int.tdiv p_n (100 : Int))) (10 : Int)))), IntKind.u8.wrap (IntKind.i64.wrap ((48 : Int) + (Int.tmod (IntKind.i64.wrap (Int.tdiv p_n (10 : Int))) (10 : Int)))), IntKind.u8.wrap (IntKind.i64.wrap ((48 : Int) + (Int.tmod p_n (10 : Int))))]) (T_bsl tb_58 tb_5) ?_
  refine s1 (d := dS (bStr [IntKind.u8.wrap (IntKind.i64.wrap ((97 : Int) + p_side)), IntKind.u8.wrap (IntKind.i64.wrap ((48 : Int) + (Int.tmod (IntKind.i64.wrap (Int.tdiv p_n (100 : Int))) (10 : Int)))), IntKind.u8.wrap (IntKind.i64.wrap ((48 : Int) + (Int.tmod (IntKind.i64.wrap (Int.tdiv p_n (10 : Int))) (10 : Int)))), IntKind.u8.wrap (IntKind.i64.wrap ((48 : Int) + (Int.tmod p_n (10 : Int))))])) (T_cvB tb_58 tb_9 tb_5 (fun _ h => by cases h)) ?_
  refine s1 T_as ?_
  refine .nil (hK _ _ ?_)
  refine AW.ret ?_
  obtain rfl := Option.some.inj h
  exact RetV.mk1 (resD_t rfl (.inr (.inr ⟨_, (le_refl' _), rfl, rfl⟩)))
end Go.Proofs.Ytakbadleipbngaa
