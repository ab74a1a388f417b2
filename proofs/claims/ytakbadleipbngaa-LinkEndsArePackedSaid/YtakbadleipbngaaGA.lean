/-
  What functions compute, read off the program's code (written by a program of mine). Conditions: none.
-/
import Derived.Test.YtakbadleipbngaaK42
set_option linter.all false
namespace Go.Proofs.Ytakbadleipbngaa
open Go.RowKit
structure S_Held where
  vSeq : Int
  vData : ByteArray
  deriving Inhabited, DecidableEq
def c_Held : Cd S_Held := ⟨2, fun x => [.lit (.int .i64 x.vSeq), .lit (.string x.vData)], fun _ => rfl⟩
structure S_End where
  vBase : Int
  vQueue : List ByteArray
  vWant : Int
  vHeld : List S_Held
  deriving Inhabited, DecidableEq
def c_End : Cd S_End := ⟨4, fun x => [.lit (.int .i64 x.vBase), slE cS x.vQueue, .lit (.int .i64 x.vWant), slE c_Held x.vHeld], fun _ => rfl⟩
structure S_Frame where
  vSeq : Int
  vAck : Int
  vData : ByteArray
  deriving Inhabited, DecidableEq
def c_Frame : Cd S_Frame := ⟨3, fun x => [.lit (.int .i64 x.vSeq), .lit (.int .i64 x.vAck), .lit (.string x.vData)], fun _ => rfl⟩
structure S_Sent where
  vX : S_End
  vE : Int
  deriving Inhabited, DecidableEq
def c_Sent : Cd S_Sent := ⟨5, fun x => c_End.f x.vX ++ [.lit (.int .i64 x.vE)], fun x => by simp [c_End.h, show c_End.sz = 4 from rfl]⟩
structure S_Got where
  vX : S_End
  vL : List ByteArray
  deriving Inhabited, DecidableEq
def c_Got : Cd S_Got := ⟨5, fun x => c_End.f x.vX ++ [slE cS x.vL], fun x => by simp [c_End.h, show c_End.sz = 4 from rfl]⟩
theorem eqF_Frame (x : S_Frame) : fitT tbl 6 27 [.int .i64 x.vSeq, .int .i64 x.vAck, .string x.vData] := by simp [fitT, fitFs, tb_27, tb_3, tb_9]
theorem eqI_Frame (x y : S_Frame) : ([.int .i64 x.vSeq, .int .i64 x.vAck, .string x.vData] : List Value) = [.int .i64 y.vSeq, .int .i64 y.vAck, .string y.vData] ↔ x = y := by cases x; cases y; simp [and_assoc]
theorem eqF_Held (x : S_Held) : fitT tbl 6 74 [.int .i64 x.vSeq, .string x.vData] := by simp [fitT, fitFs, tb_3, tb_74, tb_9]
theorem eqI_Held (x y : S_Held) : ([.int .i64 x.vSeq, .string x.vData] : List Value) = [.int .i64 y.vSeq, .string y.vData] ↔ x = y := by cases x; cases y; simp [and_assoc]
theorem el_slices_Clone_api_Held_api_Held : El Try.prog 23 74 (.agg #[.int .i64 (0), .string ⟨#[]⟩]) 2 24 := ⟨Try.underlying23, info_parts (by kernel_rfl), rfl, by decide⟩
set_option maxHeartbeats 1000000 in
set_option maxRecDepth 100000 in
theorem wr_slices_Clone_api_Held_api_Held (n : Nat) (us : List Value) (v : Value) (w : World) (hl : Sl w v 2 n us) (h1 : ∀ u ∈ us, u.oneCell' = true) (hn : n ≤ 1000000) :
    Calls Try.prog 34 #[v] w fun e w' => ∃ q, e = .returned q ∧ w'.ownsRow w.heap.size 74 2 q n us ∧ Below w.heap.size w w' := by
  obtain ⟨A, c, rfl, hnc, hcm, hr⟩ := id hl
  cases A with
  | none =>
    obtain rfl : n = 0 := by
      rcases Nat.eq_zero_or_pos n with h | h
      · exact h
      · obtain ⟨_, h, _⟩ := hr.2 h; cases h
    obtain rfl : us = [] := List.eq_nil_of_length_eq_zero (by simpa using hr.1)
    have he : (binOp .eql 23 (.slice none 0 c) (.slice none 0 0)).run Try.prog w = .ok (.bool true) w := by kernel_rfl
    go_enter Try.func34, Try.ntmps34
    go_wp2_with fail
    go_ret
    exact ⟨_, rfl, ⟨rfl, .inl ⟨rfl, rfl⟩⟩, Below.refl _ _⟩
  | some ad =>
    have he : (binOp .eql 23 (.slice (some ad) n c) (.slice none 0 0)).run Try.prog w = .ok (.bool false) w := by kernel_rfl
    go_enter Try.func34, Try.ntmps34
    have hown0 := own_mtG w 74 w.heap.size 2 (Nat.le_refl _)
    have hB0 := (Below.refl w.heap.size w).alloc (Nat.le_refl _) (.cells #[] 74)
    have hl2 := hl.below hB0
    have HL := Lib.hid hl2
    have H1 := Lib.hid h1
    clear hl hr hl2 h1
    go_wp2_with (at_builtin; refine wpList_append_all _ rfl _ _ _ rfl el_slices_Clone_api_Held_api_Held w.heap.size _ _ _ rfl hown0 _ _ _ rfl HL.out H1.out (by omega) (by omega) (by simp) w w.heap.size hB0 (Nat.le_refl _) ?_)
    intro v' w' hown hb
    go_wp2_with fail
    go_ret
    refine ⟨_, rfl, ?_, hb⟩
    simpa using hown
theorem wa_slices_Clone_api_Held_api_Held (n : Nat) (xs : List E) (hn : n ≤ 1000000) : PCalls Try.prog 34 [.e (.sl 2 n xs)] (.own 74 2 n xs) :=
  clone_of (by decide) ⟨_, Try.func34, rfl, rfl⟩ (fun us v w h1 h2 => wr_slices_Clone_api_Held_api_Held n us v w h1 h2 hn)
noncomputable def g_slices_Clone_api_Held_api_Held (l : List S_Held) : Option (List S_Held) := gd (l.length ≤ 1000000) (some l)
theorem w_slices_Clone_api_Held_api_Held {l r : List S_Held} (h : g_slices_Clone_api_Held_api_Held l = some r) : PCalls Try.prog 34 [dL c_Held l] (.own 74 c_Held.sz r.length (r.flatMap c_Held.f)) := by
  obtain ⟨hn, h⟩ := gd_some h
  obtain rfl := Option.some.inj h
  exact wa_slices_Clone_api_Held_api_Held _ _ hn
noncomputable def g_link_New  : Option S_End := some (⟨(1 : Int), ([] : List ByteArray), (1 : Int), ([] : List S_Held)⟩ : S_End)
theorem w_link_New  {r : S_End} (h : g_link_New = some r) : PCalls Try.prog 23 [] (.ag [dI .i64 r.vBase, dN, dI .i64 r.vWant, dN]) := by
  refine PCalls.of (rs := [.cell 0 25]) tok Try.func23 rfl rfl (Nat.le_of_ble_eq_true rfl) rfl (fun cx hx h0 => ?_)
  simp only [argsT, Nat.reduceAdd, Nat.zero_add]
  unfold g_link_New at h
  refine AW.seq ?_
  refine rg hx (by kernel_rfl) fun K hK => ?_
  refine s1 (d := .pt 0 0) (T_alloc tb_25) ?_
  refine .nil (hK _ _ ?_)
  refine AW.seq ?_
  refine rg hx (by kernel_rfl) fun K hK => ?_
  refine s1 (d := .ag [dI .i64 (1 : Int), dN, dI .i64 (1 : Int), dN]) (T_build tb_25) ?_
  refine s0 (T_st (ds' := [dI .i64 (1 : Int), dN, dI .i64 (1 : Int), dN]) tb_25) ?_
  refine .nil (hK _ _ ?_)
  refine AW.ret ?_
  obtain rfl := Option.some.inj h
  exact RetV.mk1 (resD_a (es := [dI .i64 (1 : Int), dN, dI .i64 (1 : Int), dN]) rfl tb_25 rfl rfl (ltb rfl) (leb rfl) rfl (.inr (.inr ⟨_, (le_ag (wc (lc_r _) (wc (lc_r _) (wc (lc_r _) (wc (lc_r _) wcn))))), rfl, rfl⟩)))
noncomputable def g_link_short (p_s : ByteArray) : Option Bool := some (decide ((p_s.size : Int) ≤ (4096 : Int)))
theorem w_link_short {p_s : ByteArray} {r : Bool} (h : g_link_short p_s = some r) : PCalls Try.prog 31 [dS p_s] (dB r) := by
  refine PCalls.of (rs := [.tmp 2]) tok Try.func31 rfl rfl (Nat.le_of_ble_eq_true rfl) rfl (fun cx hx h0 => ?_)
  simp only [argsT, Nat.reduceAdd, Nat.zero_add]
  unfold g_link_short at h
  refine AW.seq ?_
  refine rg hx (by kernel_rfl) fun K hK => ?_
  refine s1 (d := dB false) T_asg ?_
  refine .nil (hK _ _ ?_)
  refine AW.seq ?_
  refine rg hx (by kernel_rfl) fun K hK => ?_
  refine s1 T_mv ?_
  refine s1 (d := dI .i64 (p_s.size : Int)) (T_lenS tb_9) ?_
  refine s1 T_leq ?_
  refine s1 T_as ?_
  refine .nil (hK _ _ ?_)
  refine AW.ret ?_
  obtain rfl := Option.some.inj h
  exact RetV.mk1 (resD_t rfl (.inr (.inr ⟨_, (le_refl' _), rfl, rfl⟩)))
theorem el_slices_Clone_string_string : El Try.prog 22 9 (.string ⟨#[]⟩) 1 16 := ⟨Try.underlying22, info_parts (by kernel_rfl), rfl, by decide⟩
set_option maxHeartbeats 1000000 in
set_option maxRecDepth 100000 in
theorem wr_slices_Clone_string_string (n : Nat) (us : List Value) (v : Value) (w : World) (hl : Sl w v 1 n us) (h1 : ∀ u ∈ us, u.oneCell' = true) (hn : n ≤ 1000000) :
    Calls Try.prog 32 #[v] w fun e w' => ∃ q, e = .returned q ∧ w'.ownsRow w.heap.size 9 1 q n us ∧ Below w.heap.size w w' := by
  obtain ⟨A, c, rfl, hnc, hcm, hr⟩ := id hl
  cases A with
  | none =>
    obtain rfl : n = 0 := by
      rcases Nat.eq_zero_or_pos n with h | h
      · exact h
      · obtain ⟨_, h, _⟩ := hr.2 h; cases h
    obtain rfl : us = [] := List.eq_nil_of_length_eq_zero (by simpa using hr.1)
    have he : (binOp .eql 22 (.slice none 0 c) (.slice none 0 0)).run Try.prog w = .ok (.bool true) w := by kernel_rfl
    go_enter Try.func32, Try.ntmps32
    go_wp2_with fail
    go_ret
    exact ⟨_, rfl, ⟨rfl, .inl ⟨rfl, rfl⟩⟩, Below.refl _ _⟩
  | some ad =>
    have he : (binOp .eql 22 (.slice (some ad) n c) (.slice none 0 0)).run Try.prog w = .ok (.bool false) w := by kernel_rfl
    go_enter Try.func32, Try.ntmps32
    have hown0 := own_mtG w 9 w.heap.size 1 (Nat.le_refl _)
    have hB0 := (Below.refl w.heap.size w).alloc (Nat.le_refl _) (.cells #[] 9)
    have hl2 := hl.below hB0
    have HL := Lib.hid hl2
    have H1 := Lib.hid h1
    clear hl hr hl2 h1
    go_wp2_with (at_builtin; refine wpList_append_all _ rfl _ _ _ rfl el_slices_Clone_string_string w.heap.size _ _ _ rfl hown0 _ _ _ rfl HL.out H1.out (by omega) (by omega) (by simp) w w.heap.size hB0 (Nat.le_refl _) ?_)
    intro v' w' hown hb
    go_wp2_with fail
    go_ret
    refine ⟨_, rfl, ?_, hb⟩
    simpa using hown
theorem wa_slices_Clone_string_string (n : Nat) (xs : List E) (hn : n ≤ 1000000) : PCalls Try.prog 32 [.e (.sl 1 n xs)] (.own 9 1 n xs) :=
  clone_of (by decide) ⟨_, Try.func32, rfl, rfl⟩ (fun us v w h1 h2 => wr_slices_Clone_string_string n us v w h1 h2 hn)
noncomputable def g_slices_Clone_string_string (l : List ByteArray) : Option (List ByteArray) := gd (l.length ≤ 1000000) (some l)
theorem w_slices_Clone_string_string {l r : List ByteArray} (h : g_slices_Clone_string_string l = some r) : PCalls Try.prog 32 [dL cS l] (.own 9 cS.sz r.length (r.flatMap cS.f)) := by
  obtain ⟨hn, h⟩ := gd_some h
  obtain rfl := Option.some.inj h
  exact wa_slices_Clone_string_string _ _ hn
noncomputable def g_link_Send (p_x : S_End) (p_text : ByteArray) : Option (S_End × Int) := bnd (g_link_short p_text) fun x1 => cnd (!x1) (some (p_x, (2 : Int))) (cnd (decide ((64 : Int) ≤ ((p_x.vQueue).length : Int))) (some (p_x, (432 : Int))) (bnd (g_slices_Clone_string_string p_x.vQueue) fun x5 => gd ((x5 ++ [p_text]).length * 16 ≤ 140737488355328) (some ((⟨p_x.vBase, x5 ++ [p_text], p_x.vWant, p_x.vHeld⟩ : S_End), (0 : Int)))))
theorem w_link_Send {p_x : S_End} {p_text : ByteArray} {r : S_End × Int} (h : g_link_Send p_x p_text = some r) : PCalls Try.prog 12 [dG c_End p_x, dS p_text] (.tu [dG c_End r.1, dI .i64 r.2]) := by
  refine PCalls.of (rs := [.cell 4 25, .tmp 5]) tok Try.func12 rfl rfl (Nat.le_of_ble_eq_true rfl) rfl (fun cx hx h0 => ?_)
  simp only [argsT, Nat.reduceAdd, Nat.zero_add]
  unfold g_link_Send at h
  refine AW.seq ?_
  refine rg hx (by kernel_rfl) fun K hK => ?_
  refine s1 (d := .pt 0 0) T_box ?_
  refine s1 (d := .pt 1 0) (T_alloc tb_25) ?_
  refine s1 (d := dI .i64 (0 : Int)) T_asg ?_
  refine .nil (hK _ _ ?_)
  iterate 2 refine AW.seq ?_
  refine rg hx (by kernel_rfl) fun K hK => ?_
  refine s1 T_mv ?_
  obtain ⟨x1, hx2, h⟩ := bnd_some h
  refine s1 (d := dB x1) (T_call rfl (w_link_short hx2) rfl (lA (le_refl' _) lAn) (.inl rfl)) ?_
  refine s1 T_not ?_
  refine .nil (hK _ _ ?_)
  refine AW.condS rfl (fun hb3 => ?_) (fun hb3 => ?_)
  replace h := cnd_t hb3 h
  refine AW.seq ?_
  refine rg hx (by kernel_rfl) fun K hK => ?_
  refine s1 (d := dG c_End p_x) (T_ldA tb_25) ?_
  refine s0 (T_st (ds' := [dI .i64 p_x.vBase, dL cS p_x.vQueue, dI .i64 p_x.vWant, dL c_Held p_x.vHeld]) tb_25) ?_
  refine s1 (d := dI .i64 (2 : Int)) T_asg ?_
  refine .nil (hK _ _ ?_)
  refine AW.ret ?_
  obtain rfl := Option.some.inj h
  exact RetV.mk2 (resD_a (es := (c_End.f p_x).map .e) rfl tb_25 rfl rfl (ltb rfl) (leb rfl) rfl (resD_t rfl (.inr ⟨_, _, (le_refl' _), (le_refl' _), ⟨rfl, rfl⟩, rfl⟩)))
  replace h := cnd_f hb3 h
  refine AW.skip ?_
  iterate 2 refine AW.seq ?_
  refine rg hx (by kernel_rfl) fun K hK => ?_
  refine s1 (T_faP tb_25 tb_22) ?_
  refine s1 (d := dL cS p_x.vQueue) (T_ldC tb_22) ?_
  refine s1 (d := dI .i64 ((p_x.vQueue).length : Int)) (T_len tb_22 tb_9) ?_
  refine s1 T_geq ?_
  refine .nil (hK _ _ ?_)
  refine AW.condS rfl (fun hb4 => ?_) (fun hb4 => ?_)
  replace h := cnd_t hb4 h
  refine AW.seq ?_
  refine rg hx (by kernel_rfl) fun K hK => ?_
  refine s1 (d := dG c_End p_x) (T_ldA tb_25) ?_
  refine s0 (T_st (ds' := [dI .i64 p_x.vBase, dL cS p_x.vQueue, dI .i64 p_x.vWant, dL c_Held p_x.vHeld]) tb_25) ?_
  refine s1 (d := dI .i64 (432 : Int)) T_asg ?_
  refine .nil (hK _ _ ?_)
  refine AW.ret ?_
  obtain rfl := Option.some.inj h
  exact RetV.mk2 (resD_a (es := (c_End.f p_x).map .e) rfl tb_25 rfl rfl (ltb rfl) (leb rfl) rfl (resD_t rfl (.inr ⟨_, _, (le_refl' _), (le_refl' _), ⟨rfl, rfl⟩, rfl⟩)))
  replace h := cnd_f hb4 h
  refine AW.skip ?_
  refine AW.seq ?_
  refine rg hx (by kernel_rfl) fun K hK => ?_
  refine s1 (T_faP tb_25 tb_22) ?_
  refine s1 (d := dL cS p_x.vQueue) (T_ldC tb_22) ?_
  obtain ⟨x5, hx6, h⟩ := bnd_some h
  refine s1 (d := dO 2 cS x5) (T_callO rfl (w_slices_Clone_string_string hx6) rfl (lA (le_refl' _) lAn)) ?_
  refine s1 T_mv ?_
  refine s1 (d := dO 3 cS [p_text]) (T_bsl tb_22 tb_9) ?_
  obtain ⟨hc7, h⟩ := gd_some h
  refine s1 (d := dO 2 cS (x5 ++ [p_text])) (T_appO tb_22 tb_9 hc7) ?_
  refine s1 (T_faP tb_25 tb_22) ?_
  refine s0 (T_st (ds' := [dI .i64 p_x.vBase, dO 2 cS (x5 ++ [p_text]), dI .i64 p_x.vWant, dL c_Held p_x.vHeld]) tb_22) ?_
  refine .nil (hK _ _ ?_)
  refine AW.seq ?_
  refine rg hx (by kernel_rfl) fun K hK => ?_
  refine s1 (d := .ag [dI .i64 p_x.vBase, dO 2 cS (x5 ++ [p_text]), dI .i64 p_x.vWant, dL c_Held p_x.vHeld]) (T_ldA tb_25) ?_
  refine s0 (T_st (ds' := [dI .i64 p_x.vBase, dO 2 cS (x5 ++ [p_text]), dI .i64 p_x.vWant, dL c_Held p_x.vHeld]) tb_25) ?_
  refine s1 (d := dI .i64 (0 : Int)) T_asg ?_
  refine .nil (hK _ _ ?_)
  refine AW.ret ?_
  obtain rfl := Option.some.inj h
  exact RetV.mk2 (resD_a (es := [dI .i64 p_x.vBase, dO 2 cS (x5 ++ [p_text]), dI .i64 p_x.vWant, dL c_Held p_x.vHeld]) rfl tb_25 rfl rfl (ltb rfl) (leb rfl) rfl (resD_t rfl (.inr ⟨_, _, (le_ag (wc (lc_r _) (wc (lc_x _) (wc (lc_r _) (wc (lc_r _) wcn))))), (le_refl' _), ⟨rfl, rfl⟩, rfl⟩)))
noncomputable def g_link_Check_l9 (p_x : S_End) : Bool × Int → Option ((Bool × Int) ⊕ Bool) := fun (a9_0, a9_1) => cnd (decide (a9_1 < ((p_x.vQueue).length : Int))) (bnd (S := Bool) (gd (0 ≤ a9_1 ∧ a9_1 < ((p_x.vQueue).length : Int)) (cnd a9_0 (bnd (g_link_short ((p_x.vQueue)[(a9_1).toNat]!)) fun x12 => some (x12)) (some (false)))) fun a17_0 => some (.inl (a17_0, IntKind.i64.wrap (a9_1 + (1 : Int))))) (some (.inr a9_0))
noncomputable def g_link_Check_l28 (p_x : S_End) : Bool × Int × Int → Option ((Bool × Int × Int) ⊕ Bool) := fun (a28_0, a28_1, a28_2) => cnd (decide (a28_2 < ((p_x.vHeld).length : Int))) (gd (0 ≤ a28_2 ∧ a28_2 < ((p_x.vHeld).length : Int)) (bnd (S := Bool) (cnd a28_0 (cnd (decide (a28_1 < (((p_x.vHeld)[(a28_2).toNat]!).vSeq))) (cnd (decide ((IntKind.i64.wrap ((((p_x.vHeld)[(a28_2).toNat]!).vSeq) - p_x.vWant)) < (8 : Int))) (cnd (decide ((((p_x.vHeld)[(a28_2).toNat]!).vSeq) < (1099511627776 : Int))) (bnd (g_link_short (((p_x.vHeld)[(a28_2).toNat]!).vData)) fun x23 => some (x23)) (some (false))) (some (false))) (some (false))) (some (false))) fun a40_0 => some (.inl (a40_0, ((p_x.vHeld)[(a28_2).toNat]!).vSeq, IntKind.i64.wrap (a28_2 + (1 : Int)))))) (some (.inr a28_0))
noncomputable def g_link_Check (p_x : S_End) : Option Int := bnd (S := Bool) (cnd (decide ((1 : Int) ≤ p_x.vBase)) (cnd (decide (p_x.vBase ≤ (1099511627776 : Int))) (cnd (decide ((1 : Int) ≤ p_x.vWant)) (cnd (decide (p_x.vWant ≤ (1099511627776 : Int))) (bnd (some (decide (((p_x.vQueue).length : Int) ≤ (64 : Int)))) fun x5 => some (x5)) (some (false))) (some (false))) (some (false))) (some (false))) fun a4_0 => bnd (loopO (g_link_Check_l9 p_x) (a4_0, (0 : Int))) fun a9e0_0 => bnd (loopO (g_link_Check_l28 p_x) (a9e0_0, p_x.vWant, (0 : Int))) fun a28e2_0 => cnd (!a28e2_0) (some (3 : Int)) (some (0 : Int))
theorem w_link_Check {p_x : S_End} {r : Int} (h : g_link_Check p_x = some r) : PCalls Try.prog 9 [dG c_End p_x] (dI .i64 r) := by
  refine PCalls.of (rs := [.tmp 2]) tok Try.func9 rfl rfl (Nat.le_of_ble_eq_true rfl) rfl (fun cx hx h0 => ?_)
  simp only [argsT, Nat.reduceAdd, Nat.zero_add]
  unfold g_link_Check at h
  refine AW.seq ?_
  refine rg hx (by kernel_rfl) fun K hK => ?_
  refine s1 (d := .pt 0 0) T_box ?_
  refine s1 (d := dI .i64 (0 : Int)) T_asg ?_
  refine .nil (hK _ _ ?_)
  refine AW.seq ?_
  obtain ⟨a4_0, hy, h⟩ := bnd_some h
  refine jn ((PE cx .normal (fun a4_0 => [(1, .pt 0 0), (3, dB a4_0)]) fun a4_0 => ⟨[(0, [dI .i64 p_x.vBase, dL cS p_x.vQueue, dI .i64 p_x.vWant, dL c_Held p_x.vHeld])], [], 1⟩) a4_0) ?_ ?_
  replace h := hy
  refine rg hx (by kernel_rfl) fun K hK => ?_
  refine s1 (T_faP tb_25 tb_3) ?_
  refine s1 (d := dI .i64 p_x.vBase) (T_ldC tb_3) ?_
  refine s1 T_geq ?_
  refine s1 T_mv ?_
  rcases Bool.eq_false_or_eq_true (decide ((1 : Int) ≤ p_x.vBase)) with hb1 | hb1
  replace h := cnd_t hb1 h
  refine g1 hb1 (T_faP tb_25 tb_3) ?_
  refine g1 (d := dI .i64 p_x.vBase) hb1 (T_ldC tb_3) ?_
  refine g1 hb1 T_leq ?_
  refine s1 (d := dB (decide (p_x.vBase ≤ (1099511627776 : Int)))) (T_pickT hb1) ?_
  refine s1 T_mv ?_
  rcases Bool.eq_false_or_eq_true (decide (p_x.vBase ≤ (1099511627776 : Int))) with hb2 | hb2
  replace h := cnd_t hb2 h
  refine g1 hb2 (T_faP tb_25 tb_3) ?_
  refine g1 (d := dI .i64 p_x.vWant) hb2 (T_ldC tb_3) ?_
  refine g1 hb2 T_geq ?_
  refine s1 (d := dB (decide ((1 : Int) ≤ p_x.vWant))) (T_pickT hb2) ?_
  refine s1 T_mv ?_
  rcases Bool.eq_false_or_eq_true (decide ((1 : Int) ≤ p_x.vWant)) with hb3 | hb3
  replace h := cnd_t hb3 h
  refine g1 hb3 (T_faP tb_25 tb_3) ?_
  refine g1 (d := dI .i64 p_x.vWant) hb3 (T_ldC tb_3) ?_
  refine g1 hb3 T_leq ?_
  refine s1 (d := dB (decide (p_x.vWant ≤ (1099511627776 : Int)))) (T_pickT hb3) ?_
  refine s1 T_mv ?_
  rcases Bool.eq_false_or_eq_true (decide (p_x.vWant ≤ (1099511627776 : Int))) with hb4 | hb4
  replace h := cnd_t hb4 h
  refine g1 hb4 (T_faP tb_25 tb_22) ?_
  refine g1 (d := dL cS p_x.vQueue) hb4 (T_ldC tb_22) ?_
  refine g1 (d := dI .i64 ((p_x.vQueue).length : Int)) hb4 (T_len tb_22 tb_9) ?_
  refine g1 hb4 T_leq ?_
  refine s1 (d := dB (decide (((p_x.vQueue).length : Int) ≤ (64 : Int)))) (T_pickT hb4) ?_
  obtain ⟨x5, hx6, h⟩ := bnd_some h
  replace hx6 := Option.some.inj hx6
  refine s2 (d2 := dB x5) T_as (le_eq (congrArg dB hx6)) ?_
  refine .nil (hK _ _ ?_)
  obtain rfl := Option.some.inj h
  exact PE.i (wk h0 [0] (wR rfl (wR rfl wTn)) (vR rfl wVn) wLn)
  replace h := cnd_f hb4 h
  iterate 4 refine no_t rfl rfl hb4 ?_
  refine s1 (d := dB false) (T_pickF hb4) ?_
  refine s1 T_as ?_
  refine .nil (hK _ _ ?_)
  obtain rfl := Option.some.inj h
  exact PE.i (wk h0 [0] (wR rfl (wR rfl wTn)) (vR rfl wVn) wLn)
  replace h := cnd_f hb3 h
  iterate 3 refine no_t rfl rfl hb3 ?_
  refine s1 (d := dB false) (T_pickF hb3) ?_
  refine s1 T_mv ?_
  iterate 4 refine no_t rfl rfl rfl ?_
  refine s1 (d := dB false) (T_pickF rfl) ?_
  refine s1 T_as ?_
  refine .nil (hK _ _ ?_)
  obtain rfl := Option.some.inj h
  exact PE.i (wk h0 [0] (wR rfl (wR rfl wTn)) (vR rfl wVn) wLn)
  replace h := cnd_f hb2 h
  iterate 3 refine no_t rfl rfl hb2 ?_
  refine s1 (d := dB false) (T_pickF hb2) ?_
  refine s1 T_mv ?_
  iterate 3 refine no_t rfl rfl rfl ?_
  refine s1 (d := dB false) (T_pickF rfl) ?_
  refine s1 T_mv ?_
  iterate 4 refine no_t rfl rfl rfl ?_
  refine s1 (d := dB false) (T_pickF rfl) ?_
  refine s1 T_as ?_
  refine .nil (hK _ _ ?_)
  obtain rfl := Option.some.inj h
  exact PE.i (wk h0 [0] (wR rfl (wR rfl wTn)) (vR rfl wVn) wLn)
  replace h := cnd_f hb1 h
  iterate 3 refine no_t rfl rfl hb1 ?_
  refine s1 (d := dB false) (T_pickF hb1) ?_
  refine s1 T_mv ?_
  iterate 3 refine no_t rfl rfl rfl ?_
  refine s1 (d := dB false) (T_pickF rfl) ?_
  refine s1 T_mv ?_
  iterate 3 refine no_t rfl rfl rfl ?_
  refine s1 (d := dB false) (T_pickF rfl) ?_
  refine s1 T_mv ?_
  iterate 4 refine no_t rfl rfl rfl ?_
  refine s1 (d := dB false) (T_pickF rfl) ?_
  refine s1 T_as ?_
  refine .nil (hK _ _ ?_)
  obtain rfl := Option.some.inj h
  exact PE.i (wk h0 [0] (wR rfl (wR rfl wTn)) (vR rfl wVn) wLn)
  rintro ex tm' hp' ⟨rfl, hw⟩
  refine AW.weak hw ?_
  iterate 2 refine AW.seq ?_
  refine rg hx (by kernel_rfl) fun K hK => ?_
  refine s1 (T_faP tb_25 tb_22) ?_
  refine s1 (d := dL cS p_x.vQueue) (T_ldC tb_22) ?_
  refine s1 (d := dI .i64 ((p_x.vQueue).length : Int)) (T_len tb_22 tb_9) ?_
  refine s1 (d := dI .i64 (0 : Int)) T_move ?_
  refine .nil (hK _ _ ?_)
  refine AW.block ?_
  obtain ⟨a9e0_0, hy, h⟩ := bnd_some h
  refine lp (S := Bool × Int) (X := Bool) (fun (a9_0, a9_1) => [(1, .pt 0 0), (3, dB a9_0), (34, dL cS p_x.vQueue), (35, dI .i64 ((p_x.vQueue).length : Int)), (36, dI .i64 a9_1)]) (fun (a9_0, a9_1) => ⟨[(0, [dI .i64 p_x.vBase, dL cS p_x.vQueue, dI .i64 p_x.vWant, dL c_Held p_x.vHeld])], [], 1⟩) (PE cx (.exit 0) (fun a9e0_0 => [(1, .pt 0 0), (3, dB a9e0_0)]) fun a9e0_0 => ⟨[(0, [dI .i64 p_x.vBase, dL cS p_x.vQueue, dI .i64 p_x.vWant, dL c_Held p_x.vHeld])], [], 1⟩) hy ?_ ?_ ?_
  exact wk h0 [0] (wR rfl (wR rfl (wR rfl (wR rfl (wR rfl wTn))))) (vR rfl wVn) wLn
  clear hy h
  rintro ⟨a9_0, a9_1⟩ y h
  dsimp only [g_link_Check_l9] at h
  refine AW.seq ?_
  refine rg hx (by kernel_rfl) fun K hK => ?_
  refine s1 T_lss ?_
  refine .nil (hK _ _ ?_)
  refine AW.seq ?_
  refine AW.condS rfl (fun hb8 => ?_) (fun hb8 => ?_)
  replace h := cnd_t hb8 h
  refine AW.skip ?_
  refine AW.seq ?_
  obtain ⟨a17_0, hy, h⟩ := bnd_some h
  refine jn ((PE cx .normal (fun a17_0 => [(1, .pt 0 0), (3, dB a17_0), (34, dL cS p_x.vQueue), (35, dI .i64 ((p_x.vQueue).length : Int)), (36, dI .i64 a9_1)]) fun a17_0 => ⟨[(0, [dI .i64 p_x.vBase, dL cS p_x.vQueue, dI .i64 p_x.vWant, dL c_Held p_x.vHeld])], [], 1⟩) a17_0) ?_ ?_
  replace h := hy
  refine AW.block ?_
  refine AW.seq ?_
  refine rg hx (by kernel_rfl) fun K hK => ?_
  obtain ⟨hc9, h⟩ := gd_some h
  have hn10 : (a9_1).toNat < (p_x.vQueue).length := by omega
  refine s1 (T_iaS hc9 tb_22 tb_9) ?_
  refine s1 (d := dS ((p_x.vQueue)[(a9_1).toNat]!)) (T_ldF (c := cS) (l := p_x.vQueue) (n := (a9_1).toNat) (o := 0) tb_9 hn10) ?_
  refine s1 T_as ?_
  refine .nil (hK _ _ ?_)
  refine rg hx (by kernel_rfl) fun K hK => ?_
  iterate 2 refine s1 T_mv ?_
  rcases Bool.eq_false_or_eq_true a9_0 with hb11 | hb11
  replace h := cnd_t hb11 h
  refine g1 hb11 T_mv ?_
  obtain ⟨x12, hx13, h⟩ := bnd_some h
  refine g1 (d := dB x12) hb11 (T_call rfl (w_link_short hx13) rfl (lA (le_refl' _) lAn) (.inl rfl)) ?_
  refine s1 (d := dB x12) (T_pickT hb11) ?_
  refine s1 T_as ?_
  refine .nil (hK _ _ ?_)
  obtain rfl := Option.some.inj h
  exact PE.i (wk h0 [0] (wR rfl (wR rfl (wR rfl (wR rfl (wR rfl wTn))))) (vR rfl wVn) wLn)
  replace h := cnd_f hb11 h
  iterate 2 refine no_t rfl rfl hb11 ?_
  refine s1 (d := dB false) (T_pickF hb11) ?_
  refine s1 T_as ?_
  refine .nil (hK _ _ ?_)
  obtain rfl := Option.some.inj h
  exact PE.i (wk h0 [0] (wR rfl (wR rfl (wR rfl (wR rfl (wR rfl wTn))))) (vR rfl wVn) wLn)
  rintro ex tm' hp' ⟨rfl, hw⟩
  refine AW.weak hw ?_
  refine rg hx (by kernel_rfl) fun K hK => ?_
  refine s1 T_add ?_
  refine s1 T_mv ?_
  refine .nil (hK _ _ ?_)
  obtain rfl := Option.some.inj h
  exact PS.l (PE.i (wk h0 [0] (wR rfl (wR rfl (wR rfl (wR rfl (wR rfl wTn))))) (vR rfl wVn) wLn))
  replace h := cnd_f hb8 h
  refine AW.exit ?_
  try dsimp only
  try simp only [if_true, reduceIte, Nat.reduceEqDiff, reduceCtorEq]
  obtain rfl := Option.some.inj h
  exact PS.r ⟨by nofun, PE.i (wk h0 [0] (wR rfl (wR rfl wTn)) (vR rfl wVn) wLn)⟩
  rintro ex tm' hp' ⟨rfl, hw⟩
  try dsimp only
  try simp only [if_true, reduceIte, Nat.reduceEqDiff, reduceCtorEq]
  refine AW.weak hw ?_
  refine AW.seq ?_
  refine rg hx (by kernel_rfl) fun K hK => ?_
  refine s1 (T_faP tb_25 tb_3) ?_
  refine s1 (d := dI .i64 p_x.vWant) (T_ldC tb_3) ?_
  refine s1 T_as ?_
  refine .nil (hK _ _ ?_)
  iterate 2 refine AW.seq ?_
  refine rg hx (by kernel_rfl) fun K hK => ?_
  refine s1 (T_faP tb_25 tb_23) ?_
  refine s1 (d := dL c_Held p_x.vHeld) (T_ldC tb_23) ?_
  refine s1 (d := dI .i64 ((p_x.vHeld).length : Int)) (T_len tb_23 tb_74) ?_
  refine s1 (d := dI .i64 (0 : Int)) T_move ?_
  refine .nil (hK _ _ ?_)
  refine AW.block ?_
  obtain ⟨a28e2_0, hy, h⟩ := bnd_some h
  refine lp (S := Bool × Int × Int) (X := Bool) (fun (a28_0, a28_1, a28_2) => [(1, .pt 0 0), (3, dB a28_0), (6, dI .i64 a28_1), (49, dL c_Held p_x.vHeld), (50, dI .i64 ((p_x.vHeld).length : Int)), (51, dI .i64 a28_2)]) (fun (a28_0, a28_1, a28_2) => ⟨[(0, [dI .i64 p_x.vBase, dL cS p_x.vQueue, dI .i64 p_x.vWant, dL c_Held p_x.vHeld])], [], 1⟩) (PE cx (.exit 2) (fun a28e2_0 => [(3, dB a28e2_0)]) fun a28e2_0 => ⟨[], [], 0⟩) hy ?_ ?_ ?_
  exact wk h0 [0] (wR rfl (wR rfl (wR rfl (wR rfl (wR rfl (wR rfl wTn)))))) (vR rfl wVn) wLn
  clear hy h
  rintro ⟨a28_0, a28_1, a28_2⟩ y h
  dsimp only [g_link_Check_l28] at h
  refine AW.seq ?_
  refine rg hx (by kernel_rfl) fun K hK => ?_
  refine s1 T_lss ?_
  refine .nil (hK _ _ ?_)
  refine AW.seq ?_
  refine AW.condS rfl (fun hb16 => ?_) (fun hb16 => ?_)
  replace h := cnd_t hb16 h
  refine AW.skip ?_
  refine AW.seq ?_
  refine AW.block ?_
  refine AW.seq ?_
  refine rg hx (by kernel_rfl) fun K hK => ?_
  obtain ⟨hc17, h⟩ := gd_some h
  have hn18 : (a28_2).toNat < (p_x.vHeld).length := by omega
  refine s1 (T_iaS hc17 tb_23 tb_74) ?_
  refine s1 (d := dG c_Held ((p_x.vHeld)[(a28_2).toNat]!)) (T_ldG (c := c_Held) (l := p_x.vHeld) (n := (a28_2).toNat) (o := 0) tb_74 hn18 (whole_G _ _ rfl)) ?_
  refine s1 (d := .pt 1 0) (T_alloc tb_74) ?_
  refine s0 (T_st (ds' := [dI .i64 (((p_x.vHeld)[(a28_2).toNat]!).vSeq), dS (((p_x.vHeld)[(a28_2).toNat]!).vData)]) tb_74) ?_
  refine .nil (hK _ _ ?_)
  refine AW.seq ?_
  obtain ⟨a40_0, hy, h⟩ := bnd_some h
  refine jn ((PE cx .normal (fun a40_0 => [(1, .pt 0 0), (3, dB a40_0), (8, .pt 1 0), (49, dL c_Held p_x.vHeld), (50, dI .i64 ((p_x.vHeld).length : Int)), (51, dI .i64 a28_2)]) fun a40_0 => ⟨[(0, [dI .i64 p_x.vBase, dL cS p_x.vQueue, dI .i64 p_x.vWant, dL c_Held p_x.vHeld]), (1, [dI .i64 (((p_x.vHeld)[(a28_2).toNat]!).vSeq), dS (((p_x.vHeld)[(a28_2).toNat]!).vData)])], [], 2⟩) a40_0) ?_ ?_
  replace h := hy
  refine rg hx (by kernel_rfl) fun K hK => ?_
  iterate 2 refine s1 T_mv ?_
  rcases Bool.eq_false_or_eq_true a28_0 with hb19 | hb19
  replace h := cnd_t hb19 h
  refine g1 hb19 (T_faP tb_74 tb_3) ?_
  refine g1 (d := dI .i64 (((p_x.vHeld)[(a28_2).toNat]!).vSeq)) hb19 (T_ldC tb_3) ?_
  refine g1 hb19 T_mv ?_
  refine g1 hb19 T_gtr ?_
  refine s1 (d := dB (decide (a28_1 < (((p_x.vHeld)[(a28_2).toNat]!).vSeq)))) (T_pickT hb19) ?_
  refine s1 T_mv ?_
  rcases Bool.eq_false_or_eq_true (decide (a28_1 < (((p_x.vHeld)[(a28_2).toNat]!).vSeq))) with hb20 | hb20
  replace h := cnd_t hb20 h
  refine g1 hb20 (T_faP tb_74 tb_3) ?_
  refine g1 (d := dI .i64 (((p_x.vHeld)[(a28_2).toNat]!).vSeq)) hb20 (T_ldC tb_3) ?_
  refine g1 hb20 (T_faP tb_25 tb_3) ?_
  refine g1 (d := dI .i64 p_x.vWant) hb20 (T_ldC tb_3) ?_
  refine g1 hb20 T_sub ?_
  refine g1 hb20 T_lss ?_
  refine s1 (d := dB (decide ((IntKind.i64.wrap ((((p_x.vHeld)[(a28_2).toNat]!).vSeq) - p_x.vWant)) < (8 : Int)))) (T_pickT hb20) ?_
  refine s1 T_mv ?_
  rcases Bool.eq_false_or_eq_true (decide ((IntKind.i64.wrap ((((p_x.vHeld)[(a28_2).toNat]!).vSeq) - p_x.vWant)) < (8 : Int))) with hb21 | hb21
  replace h := cnd_t hb21 h
  refine g1 hb21 (T_faP tb_74 tb_3) ?_
  refine g1 (d := dI .i64 (((p_x.vHeld)[(a28_2).toNat]!).vSeq)) hb21 (T_ldC tb_3) ?_
  refine g1 hb21 T_lss ?_
  refine s1 (d := dB (decide ((((p_x.vHeld)[(a28_2).toNat]!).vSeq) < (1099511627776 : Int)))) (T_pickT hb21) ?_
  refine s1 T_mv ?_
  rcases Bool.eq_false_or_eq_true (decide ((((p_x.vHeld)[(a28_2).toNat]!).vSeq) < (1099511627776 : Int))) with hb22 | hb22
  replace h := cnd_t hb22 h
  refine g1 hb22 (T_faP tb_74 tb_9) ?_
  refine g1 (d := dS (((p_x.vHeld)[(a28_2).toNat]!).vData)) hb22 (T_ldC tb_9) ?_
  obtain ⟨x23, hx24, h⟩ := bnd_some h
  refine g1 (d := dB x23) hb22 (T_call rfl (w_link_short hx24) rfl (lA (le_refl' _) lAn) (.inl rfl)) ?_
  refine s1 (d := dB x23) (T_pickT hb22) ?_
  refine s1 T_as ?_
  refine .nil (hK _ _ ?_)
  obtain rfl := Option.some.inj h
  exact PE.i (wk h0 [0, 1] (wR rfl (wR rfl (wR rfl (wR rfl (wR rfl (wR rfl wTn)))))) (vR rfl (vR rfl wVn)) wLn)
  replace h := cnd_f hb22 h
  iterate 3 refine no_t rfl rfl hb22 ?_
  refine s1 (d := dB false) (T_pickF hb22) ?_
  refine s1 T_as ?_
  refine .nil (hK _ _ ?_)
  obtain rfl := Option.some.inj h
  exact PE.i (wk h0 [0, 1] (wR rfl (wR rfl (wR rfl (wR rfl (wR rfl (wR rfl wTn)))))) (vR rfl (vR rfl wVn)) wLn)
  replace h := cnd_f hb21 h
  iterate 3 refine no_t rfl rfl hb21 ?_
  refine s1 (d := dB false) (T_pickF hb21) ?_
  refine s1 T_mv ?_
  iterate 3 refine no_t rfl rfl rfl ?_
  refine s1 (d := dB false) (T_pickF rfl) ?_
  refine s1 T_as ?_
  refine .nil (hK _ _ ?_)
  obtain rfl := Option.some.inj h
  exact PE.i (wk h0 [0, 1] (wR rfl (wR rfl (wR rfl (wR rfl (wR rfl (wR rfl wTn)))))) (vR rfl (vR rfl wVn)) wLn)
  replace h := cnd_f hb20 h
  iterate 6 refine no_t rfl rfl hb20 ?_
  refine s1 (d := dB false) (T_pickF hb20) ?_
  refine s1 T_mv ?_
  iterate 3 refine no_t rfl rfl rfl ?_
  refine s1 (d := dB false) (T_pickF rfl) ?_
  refine s1 T_mv ?_
  iterate 3 refine no_t rfl rfl rfl ?_
  refine s1 (d := dB false) (T_pickF rfl) ?_
  refine s1 T_as ?_
  refine .nil (hK _ _ ?_)
  obtain rfl := Option.some.inj h
  exact PE.i (wk h0 [0, 1] (wR rfl (wR rfl (wR rfl (wR rfl (wR rfl (wR rfl wTn)))))) (vR rfl (vR rfl wVn)) wLn)
  replace h := cnd_f hb19 h
  iterate 4 refine no_t rfl rfl hb19 ?_
  refine s1 (d := dB false) (T_pickF hb19) ?_
  refine s1 T_mv ?_
  iterate 6 refine no_t rfl rfl rfl ?_
  refine s1 (d := dB false) (T_pickF rfl) ?_
  refine s1 T_mv ?_
  iterate 3 refine no_t rfl rfl rfl ?_
  refine s1 (d := dB false) (T_pickF rfl) ?_
  refine s1 T_mv ?_
  iterate 3 refine no_t rfl rfl rfl ?_
  refine s1 (d := dB false) (T_pickF rfl) ?_
  refine s1 T_as ?_
  refine .nil (hK _ _ ?_)
  obtain rfl := Option.some.inj h
  exact PE.i (wk h0 [0, 1] (wR rfl (wR rfl (wR rfl (wR rfl (wR rfl (wR rfl wTn)))))) (vR rfl (vR rfl wVn)) wLn)
  rintro ex tm' hp' ⟨rfl, hw⟩
  refine AW.weak hw ?_
  refine rg hx (by kernel_rfl) fun K hK => ?_
  refine s1 (T_faP tb_74 tb_3) ?_
  refine s1 (d := dI .i64 (((p_x.vHeld)[(a28_2).toNat]!).vSeq)) (T_ldC tb_3) ?_
  refine s1 T_as ?_
  refine .nil (hK _ _ ?_)
  refine rg hx (by kernel_rfl) fun K hK => ?_
  refine s1 T_add ?_
  refine s1 T_mv ?_
  refine .nil (hK _ _ ?_)
  obtain rfl := Option.some.inj h
  exact PS.l (PE.i (wk h0 [0] (wR rfl (wR rfl (wR rfl (wR rfl (wR rfl (wR rfl wTn)))))) (vR rfl wVn) wLn))
  replace h := cnd_f hb16 h
  refine AW.exit ?_
  try dsimp only
  try simp only [if_true, reduceIte, Nat.reduceEqDiff, reduceCtorEq]
  obtain rfl := Option.some.inj h
  exact PS.r ⟨by nofun, PE.i (wk h0 [] (wR rfl wTn) wVn wLn)⟩
  rintro ex tm' hp' ⟨rfl, hw⟩
  try dsimp only
  try simp only [if_true, reduceIte, Nat.reduceEqDiff, reduceCtorEq]
  refine AW.weak hw ?_
  iterate 2 refine AW.seq ?_
  refine rg hx (by kernel_rfl) fun K hK => ?_
  refine s1 T_mv ?_
  refine s1 T_not ?_
  refine .nil (hK _ _ ?_)
  refine AW.condS rfl (fun hb27 => ?_) (fun hb27 => ?_)
  replace h := cnd_t hb27 h
  refine AW.seq ?_
  refine rg hx (by kernel_rfl) fun K hK => ?_
  refine s1 (d := dI .i64 (3 : Int)) T_asg ?_
  refine .nil (hK _ _ ?_)
  refine AW.ret ?_
  obtain rfl := Option.some.inj h
  exact RetV.mk1 (resD_t rfl (.inr (.inr ⟨_, (le_refl' _), rfl, rfl⟩)))
  replace h := cnd_f hb27 h
  refine AW.skip ?_
  refine AW.seq ?_
  refine rg hx (by kernel_rfl) fun K hK => ?_
  refine s1 (d := dI .i64 (0 : Int)) T_asg ?_
  refine .nil (hK _ _ ?_)
  refine AW.ret ?_
  obtain rfl := Option.some.inj h
  exact RetV.mk1 (resD_t rfl (.inr (.inr ⟨_, (le_refl' _), rfl, rfl⟩)))
noncomputable def g_link_Idle (p_x : S_End) : Option Bool := some (decide (((p_x.vQueue).length : Int) = (0 : Int)))
theorem w_link_Idle {p_x : S_End} {r : Bool} (h : g_link_Idle p_x = some r) : PCalls Try.prog 21 [dG c_End p_x] (dB r) := by
  refine PCalls.of (rs := [.tmp 2]) tok Try.func21 rfl rfl (Nat.le_of_ble_eq_true rfl) rfl (fun cx hx h0 => ?_)
  simp only [argsT, Nat.reduceAdd, Nat.zero_add]
  unfold g_link_Idle at h
  refine AW.seq ?_
  refine rg hx (by kernel_rfl) fun K hK => ?_
  refine s1 (d := .pt 0 0) T_box ?_
  refine s1 (d := dB false) T_asg ?_
  refine .nil (hK _ _ ?_)
  refine AW.seq ?_
  refine rg hx (by kernel_rfl) fun K hK => ?_
  refine s1 (T_faP tb_25 tb_22) ?_
  refine s1 (d := dL cS p_x.vQueue) (T_ldC tb_22) ?_
  refine s1 (d := dI .i64 ((p_x.vQueue).length : Int)) (T_len tb_22 tb_9) ?_
  refine s1 T_eql ?_
  refine s1 T_as ?_
  refine .nil (hK _ _ ?_)
  refine AW.ret ?_
  obtain rfl := Option.some.inj h
  exact RetV.mk1 (resD_t rfl (.inr (.inr ⟨_, (le_refl' _), rfl, rfl⟩)))
noncomputable def g_link_Frames_l17 (p_x : S_End) : (List S_Frame) × Int → Option (((List S_Frame) × Int) ⊕ ((List S_Frame))) := fun (a17_0, a17_1) => cnd (decide (a17_1 < ((subL p_x.vQueue (0 : Int) (min ((p_x.vQueue).length : Int) (8 : Int))).length : Int))) (gd (0 ≤ a17_1 ∧ a17_1 < ((subL p_x.vQueue (0 : Int) (min ((p_x.vQueue).length : Int) (8 : Int))).length : Int)) (bnd (some ((subL p_x.vQueue (0 : Int) (min ((p_x.vQueue).length : Int) (8 : Int)))[(a17_1).toNat]!)) fun x8 => gd ((a17_0 ++ [(⟨IntKind.i64.wrap (p_x.vBase + a17_1), p_x.vWant, x8⟩ : S_Frame)]).length * 32 ≤ 140737488355328) (some (.inl (a17_0 ++ [(⟨IntKind.i64.wrap (p_x.vBase + a17_1), p_x.vWant, x8⟩ : S_Frame)], IntKind.i64.wrap (a17_1 + (1 : Int))))))) (some (.inr a17_0))
noncomputable def g_link_Frames (p_x : S_End) : Option (List S_Frame) := bnd (g_link_Idle p_x) fun x1 => cnd x1 (some [(⟨(0 : Int), p_x.vWant, ByteArray.empty⟩ : S_Frame)]) (gd (0 ≤ (0 : Int) ∧ (0 : Int) ≤ min ((p_x.vQueue).length : Int) (8 : Int) ∧ min ((p_x.vQueue).length : Int) (8 : Int) ≤ ((p_x.vQueue).length : Int)) (bnd (loopO (g_link_Frames_l17 p_x) (([] : List S_Frame), (0 : Int))) fun a17e0_0 => some a17e0_0))
theorem w_link_Frames {p_x : S_End} {r : List S_Frame} (h : g_link_Frames p_x = some r) : PCalls Try.prog 19 [dG c_End p_x] (.own 27 c_Frame.sz r.length (r.flatMap c_Frame.f)) := by
  refine PCalls.of (rs := [.tmp 2]) tok Try.func19 rfl rfl (Nat.le_of_ble_eq_true rfl) rfl (fun cx hx h0 => ?_)
  simp only [argsT, Nat.reduceAdd, Nat.zero_add]
  unfold g_link_Frames at h
  refine AW.seq ?_
  refine rg hx (by kernel_rfl) fun K hK => ?_
  refine s1 (d := .pt 0 0) T_box ?_
  refine s1 (d := dO 1 c_Frame ([] : List S_Frame)) (T_asgN tb_45 tb_27) ?_
  refine .nil (hK _ _ ?_)
  iterate 2 refine AW.seq ?_
  refine rg hx (by kernel_rfl) fun K hK => ?_
  refine s1 (d := dG c_End p_x) (T_ldA tb_25) ?_
  obtain ⟨x1, hx2, h⟩ := bnd_some h
  refine s1 (d := dB x1) (T_call rfl (w_link_Idle hx2) (by simp only [List.map_cons, List.map_nil, List.all_cons, List.all_nil, Bool.and_true, Bool.and_eq_true]; exact pure_ex_G _ _) (lA (le_refl' _) lAn) (.inl rfl)) ?_
  refine .nil (hK _ _ ?_)
  refine AW.condS rfl (fun hb3 => ?_) (fun hb3 => ?_)
  replace h := cnd_t hb3 h
  refine AW.seq ?_
  refine rg hx (by kernel_rfl) fun K hK => ?_
  refine s1 (T_faP tb_25 tb_3) ?_
  refine s1 (d := dI .i64 p_x.vWant) (T_ldC tb_3) ?_
  refine s1 (d := dG c_Frame (⟨(0 : Int), p_x.vWant, ByteArray.empty⟩ : S_Frame)) (T_build tb_27) ?_
  refine s1 (d := dO 2 c_Frame [(⟨(0 : Int), p_x.vWant, ByteArray.empty⟩ : S_Frame)]) (T_bsl tb_45 tb_27) ?_
  refine s1 T_as ?_
  refine .nil (hK _ _ ?_)
  refine AW.ret ?_
  obtain rfl := Option.some.inj h
  exact RetV.own rfl rfl
  replace h := cnd_f hb3 h
  refine AW.skip ?_
  refine AW.seq ?_
  refine rg hx (by kernel_rfl) fun K hK => ?_
  refine s1 (d := dO 2 c_Frame ([] : List S_Frame)) (T_asgN tb_45 tb_27) ?_
  refine .nil (hK _ _ ?_)
  iterate 2 refine AW.seq ?_
  refine rg hx (by kernel_rfl) fun K hK => ?_
  refine s1 (T_faP tb_25 tb_22) ?_
  refine s1 (d := dL cS p_x.vQueue) (T_ldC tb_22) ?_
  refine s1 (T_faP tb_25 tb_22) ?_
  refine s1 (d := dL cS p_x.vQueue) (T_ldC tb_22) ?_
  refine s1 (d := dI .i64 ((p_x.vQueue).length : Int)) (T_len tb_22 tb_9) ?_
  refine s1 (d := dI .i64 (min ((p_x.vQueue).length : Int) (8 : Int))) T_min ?_
  obtain ⟨hc4, h⟩ := gd_some h
  refine s1 (T_sl (c := cS) (l := p_x.vQueue) (a := (0 : Int)) (b := min ((p_x.vQueue).length : Int) (8 : Int)) hc4 tb_22 tb_9) ?_
  refine s1 (d := dI .i64 ((subL p_x.vQueue (0 : Int) (min ((p_x.vQueue).length : Int) (8 : Int))).length : Int)) (T_len tb_22 tb_9) ?_
  refine s1 (d := dI .i64 (0 : Int)) T_move ?_
  refine .nil (hK _ _ ?_)
  refine AW.block ?_
  obtain ⟨a17e0_0, hy, h⟩ := bnd_some h
  refine lp (S := (List S_Frame) × Int) (X := (List S_Frame)) (fun (a17_0, a17_1) => [(1, .pt 0 0), (3, dO 1 c_Frame a17_0), (18, dL cS (subL p_x.vQueue (0 : Int) (min ((p_x.vQueue).length : Int) (8 : Int)))), (19, dI .i64 ((subL p_x.vQueue (0 : Int) (min ((p_x.vQueue).length : Int) (8 : Int))).length : Int)), (20, dI .i64 a17_1)]) (fun (a17_0, a17_1) => ⟨[(0, [dI .i64 p_x.vBase, dL cS p_x.vQueue, dI .i64 p_x.vWant, dL c_Held p_x.vHeld])], [(1, (a17_0).length, 3, 27)], 2⟩) (PE cx (.exit 0) (fun a17e0_0 => [(3, dO 0 c_Frame a17e0_0)]) fun a17e0_0 => ⟨[], [(0, (a17e0_0).length, 3, 27)], 1⟩) hy ?_ ?_ ?_
  exact wk h0 [0, 2] (wR rfl (wR rfl (wR rfl (wR rfl (wR rfl wTn))))) (vR rfl wVn) (wL rfl rfl wLn)
  clear hy h
  rintro ⟨a17_0, a17_1⟩ y h
  dsimp only [g_link_Frames_l17] at h
  refine AW.seq ?_
  refine rg hx (by kernel_rfl) fun K hK => ?_
  refine s1 T_lss ?_
  refine .nil (hK _ _ ?_)
  refine AW.seq ?_
  refine AW.condS rfl (fun hb5 => ?_) (fun hb5 => ?_)
  replace h := cnd_t hb5 h
  refine AW.skip ?_
  refine AW.seq ?_
  refine AW.block ?_
  refine AW.seq ?_
  refine rg hx (by kernel_rfl) fun K hK => ?_
  refine s1 T_mv ?_
  obtain ⟨hc6, h⟩ := gd_some h
  have hn7 : (a17_1).toNat < (subL p_x.vQueue (0 : Int) (min ((p_x.vQueue).length : Int) (8 : Int))).length := by omega
  refine s1 (T_iaS hc6 tb_22 tb_9) ?_
  refine s1 (d := dS ((subL p_x.vQueue (0 : Int) (min ((p_x.vQueue).length : Int) (8 : Int)))[(a17_1).toNat]!)) (T_ldF (c := cS) (l := subL p_x.vQueue (0 : Int) (min ((p_x.vQueue).length : Int) (8 : Int))) (n := (a17_1).toNat) (o := 0) tb_9 hn7) ?_
  refine s1 T_as ?_
  obtain ⟨x8, hx9, h⟩ := bnd_some h
  replace hx9 := Option.some.inj hx9
  refine s2 (d2 := dS x8) T_as (le_eq (congrArg dS hx9)) ?_
  refine .nil (hK _ _ ?_)
  refine rg hx (by kernel_rfl) fun K hK => ?_
  refine s1 T_mv ?_
  refine s1 (T_faP tb_25 tb_3) ?_
  refine s1 (d := dI .i64 p_x.vBase) (T_ldC tb_3) ?_
  refine s1 T_mv ?_
  refine s1 T_add ?_
  refine s1 (T_faP tb_25 tb_3) ?_
  refine s1 (d := dI .i64 p_x.vWant) (T_ldC tb_3) ?_
  refine s1 T_mv ?_
  refine s1 (d := dG c_Frame (⟨IntKind.i64.wrap (p_x.vBase + a17_1), p_x.vWant, x8⟩ : S_Frame)) (T_build tb_27) ?_
  refine s1 (d := dO 2 c_Frame [(⟨IntKind.i64.wrap (p_x.vBase + a17_1), p_x.vWant, x8⟩ : S_Frame)]) (T_bsl tb_45 tb_27) ?_
  obtain ⟨hc10, h⟩ := gd_some h
  refine s1 (d := dO 1 c_Frame (a17_0 ++ [(⟨IntKind.i64.wrap (p_x.vBase + a17_1), p_x.vWant, x8⟩ : S_Frame)])) (T_appO tb_45 tb_27 hc10) ?_
  refine s1 T_as ?_
  refine .nil (hK _ _ ?_)
  refine rg hx (by kernel_rfl) fun K hK => ?_
  refine s1 T_add ?_
  refine s1 T_mv ?_
  refine .nil (hK _ _ ?_)
  obtain rfl := Option.some.inj h
  exact PS.l (PE.i (wk h0 [0, 1] (wR rfl (wR rfl (wR rfl (wR rfl (wR rfl wTn))))) (vR rfl wVn) (wL rfl rfl wLn)))
  replace h := cnd_f hb5 h
  refine AW.exit ?_
  try dsimp only
  try simp only [if_true, reduceIte, Nat.reduceEqDiff, reduceCtorEq]
  obtain rfl := Option.some.inj h
  exact PS.r ⟨by nofun, PE.i (wk h0 [1] (wR rfl wTn) wVn (wL rfl rfl wLn))⟩
  rintro ex tm' hp' ⟨rfl, hw⟩
  try dsimp only
  try simp only [if_true, reduceIte, Nat.reduceEqDiff, reduceCtorEq]
  refine AW.weak hw ?_
  refine AW.seq ?_
  refine rg hx (by kernel_rfl) fun K hK => ?_
  refine s1 T_mv ?_
  refine s1 T_as ?_
  refine .nil (hK _ _ ?_)
  refine AW.ret ?_
  obtain rfl := Option.some.inj h
  exact RetV.own rfl rfl
noncomputable def g_link_valid (p_f : S_Frame) : Option Bool := bnd (S := Bool) (cnd (decide ((0 : Int) ≤ p_f.vSeq)) (cnd (decide (p_f.vSeq ≤ (2199023255552 : Int))) (cnd (decide ((1 : Int) ≤ p_f.vAck)) (cnd (decide (p_f.vAck ≤ (2199023255552 : Int))) (bnd (g_link_short p_f.vData) fun x5 => cnd x5 (cnd (decide ((0 : Int) < p_f.vSeq)) (some (true)) (some (decide (p_f.vData = ByteArray.empty)))) (some (false))) (some (false))) (some (false))) (some (false))) (some (false))) fun a4_0 => some a4_0
theorem w_link_valid {p_f : S_Frame} {r : Bool} (h : g_link_valid p_f = some r) : PCalls Try.prog 33 [dG c_Frame p_f] (dB r) := by
  refine PCalls.of (rs := [.tmp 2]) tok Try.func33 rfl rfl (Nat.le_of_ble_eq_true rfl) rfl (fun cx hx h0 => ?_)
  simp only [argsT, Nat.reduceAdd, Nat.zero_add]
  unfold g_link_valid at h
  refine AW.seq ?_
  refine rg hx (by kernel_rfl) fun K hK => ?_
  refine s1 (d := .pt 0 0) T_box ?_
  refine s1 (d := dB false) T_asg ?_
  refine .nil (hK _ _ ?_)
  refine AW.seq ?_
  obtain ⟨a4_0, hy, h⟩ := bnd_some h
  refine jn ((PE cx .normal (fun a4_0 => [(2, dB a4_0)]) fun a4_0 => ⟨[], [], 0⟩) a4_0) ?_ ?_
  replace h := hy
  refine rg hx (by kernel_rfl) fun K hK => ?_
  refine s1 (T_faP tb_27 tb_3) ?_
  refine s1 (d := dI .i64 p_f.vSeq) (T_ldC tb_3) ?_
  refine s1 T_geq ?_
  refine s1 T_mv ?_
  rcases Bool.eq_false_or_eq_true (decide ((0 : Int) ≤ p_f.vSeq)) with hb1 | hb1
  replace h := cnd_t hb1 h
  refine g1 hb1 (T_faP tb_27 tb_3) ?_
  refine g1 (d := dI .i64 p_f.vSeq) hb1 (T_ldC tb_3) ?_
  refine g1 hb1 T_leq ?_
  refine s1 (d := dB (decide (p_f.vSeq ≤ (2199023255552 : Int)))) (T_pickT hb1) ?_
  refine s1 T_mv ?_
  rcases Bool.eq_false_or_eq_true (decide (p_f.vSeq ≤ (2199023255552 : Int))) with hb2 | hb2
  replace h := cnd_t hb2 h
  refine g1 hb2 (T_faP tb_27 tb_3) ?_
  refine g1 (d := dI .i64 p_f.vAck) hb2 (T_ldC tb_3) ?_
  refine g1 hb2 T_geq ?_
  refine s1 (d := dB (decide ((1 : Int) ≤ p_f.vAck))) (T_pickT hb2) ?_
  refine s1 T_mv ?_
  rcases Bool.eq_false_or_eq_true (decide ((1 : Int) ≤ p_f.vAck)) with hb3 | hb3
  replace h := cnd_t hb3 h
  refine g1 hb3 (T_faP tb_27 tb_3) ?_
  refine g1 (d := dI .i64 p_f.vAck) hb3 (T_ldC tb_3) ?_
  refine g1 hb3 T_leq ?_
  refine s1 (d := dB (decide (p_f.vAck ≤ (2199023255552 : Int)))) (T_pickT hb3) ?_
  refine s1 T_mv ?_
  rcases Bool.eq_false_or_eq_true (decide (p_f.vAck ≤ (2199023255552 : Int))) with hb4 | hb4
  replace h := cnd_t hb4 h
  refine g1 hb4 (T_faP tb_27 tb_9) ?_
  refine g1 (d := dS p_f.vData) hb4 (T_ldC tb_9) ?_
  obtain ⟨x5, hx6, h⟩ := bnd_some h
  refine g1 (d := dB x5) hb4 (T_call rfl (w_link_short hx6) rfl (lA (le_refl' _) lAn) (.inl rfl)) ?_
  refine s1 (d := dB x5) (T_pickT hb4) ?_
  refine s1 T_mv ?_
  rcases Bool.eq_false_or_eq_true x5 with hb7 | hb7
  replace h := cnd_t hb7 h
  refine g1 hb7 (T_faP tb_27 tb_3) ?_
  refine g1 (d := dI .i64 p_f.vSeq) hb7 (T_ldC tb_3) ?_
  refine g1 hb7 T_gtr ?_
  refine g1 hb7 T_mv ?_
  rcases Bool.eq_false_or_eq_true (decide ((0 : Int) < p_f.vSeq)) with hb8 | hb8
  replace h := cnd_t hb8 h
  iterate 3 refine no_t rfl rfl hb8 ?_
  refine g1 (d := dB true) hb7 (T_pickT hb8) ?_
  refine s1 (d := dB true) (T_pickT hb7) ?_
  refine s1 T_as ?_
  refine .nil (hK _ _ ?_)
  obtain rfl := Option.some.inj h
  exact PE.i (wk h0 [] (wR rfl wTn) wVn wLn)
  replace h := cnd_f hb8 h
  refine g1 hb8 (T_faP tb_27 tb_9) ?_
  refine g1 (d := dS p_f.vData) hb8 (T_ldC tb_9) ?_
  refine g1 hb8 T_seql ?_
  refine g1 (d := dB (decide (p_f.vData = ByteArray.empty))) hb7 (T_pickF hb8) ?_
  refine s1 (d := dB (decide (p_f.vData = ByteArray.empty))) (T_pickT hb7) ?_
  refine s1 T_as ?_
  refine .nil (hK _ _ ?_)
  obtain rfl := Option.some.inj h
  exact PE.i (wk h0 [] (wR rfl wTn) wVn wLn)
  replace h := cnd_f hb7 h
  iterate 4 refine no_t rfl rfl hb7 ?_
  iterate 3 refine nn_t rfl rfl ?_
  refine no_t rfl rfl hb7 ?_
  refine s1 (d := dB false) (T_pickF hb7) ?_
  refine s1 T_as ?_
  refine .nil (hK _ _ ?_)
  obtain rfl := Option.some.inj h
  exact PE.i (wk h0 [] (wR rfl wTn) wVn wLn)
  replace h := cnd_f hb4 h
  iterate 3 refine no_t rfl rfl hb4 ?_
  refine s1 (d := dB false) (T_pickF hb4) ?_
  refine s1 T_mv ?_
  iterate 4 refine no_t rfl rfl rfl ?_
  iterate 3 refine nn_t rfl rfl ?_
  refine no_t rfl rfl rfl ?_
  refine s1 (d := dB false) (T_pickF rfl) ?_
  refine s1 T_as ?_
  refine .nil (hK _ _ ?_)
  obtain rfl := Option.some.inj h
  exact PE.i (wk h0 [] (wR rfl wTn) wVn wLn)
  replace h := cnd_f hb3 h
  iterate 3 refine no_t rfl rfl hb3 ?_
  refine s1 (d := dB false) (T_pickF hb3) ?_
  refine s1 T_mv ?_
  iterate 3 refine no_t rfl rfl rfl ?_
  refine s1 (d := dB false) (T_pickF rfl) ?_
  refine s1 T_mv ?_
  iterate 4 refine no_t rfl rfl rfl ?_
  iterate 3 refine nn_t rfl rfl ?_
  refine no_t rfl rfl rfl ?_
  refine s1 (d := dB false) (T_pickF rfl) ?_
  refine s1 T_as ?_
  refine .nil (hK _ _ ?_)
  obtain rfl := Option.some.inj h
  exact PE.i (wk h0 [] (wR rfl wTn) wVn wLn)
  replace h := cnd_f hb2 h
  iterate 3 refine no_t rfl rfl hb2 ?_
  refine s1 (d := dB false) (T_pickF hb2) ?_
  refine s1 T_mv ?_
  iterate 3 refine no_t rfl rfl rfl ?_
  refine s1 (d := dB false) (T_pickF rfl) ?_
  refine s1 T_mv ?_
  iterate 3 refine no_t rfl rfl rfl ?_
  refine s1 (d := dB false) (T_pickF rfl) ?_
  refine s1 T_mv ?_
  iterate 4 refine no_t rfl rfl rfl ?_
  iterate 3 refine nn_t rfl rfl ?_
  refine no_t rfl rfl rfl ?_
  refine s1 (d := dB false) (T_pickF rfl) ?_
  refine s1 T_as ?_
  refine .nil (hK _ _ ?_)
  obtain rfl := Option.some.inj h
  exact PE.i (wk h0 [] (wR rfl wTn) wVn wLn)
  replace h := cnd_f hb1 h
  iterate 3 refine no_t rfl rfl hb1 ?_
  refine s1 (d := dB false) (T_pickF hb1) ?_
  refine s1 T_mv ?_
  iterate 3 refine no_t rfl rfl rfl ?_
  refine s1 (d := dB false) (T_pickF rfl) ?_
  refine s1 T_mv ?_
  iterate 3 refine no_t rfl rfl rfl ?_
  refine s1 (d := dB false) (T_pickF rfl) ?_
  refine s1 T_mv ?_
  iterate 3 refine no_t rfl rfl rfl ?_
  refine s1 (d := dB false) (T_pickF rfl) ?_
  refine s1 T_mv ?_
  iterate 4 refine no_t rfl rfl rfl ?_
  iterate 3 refine nn_t rfl rfl ?_
  refine no_t rfl rfl rfl ?_
  refine s1 (d := dB false) (T_pickF rfl) ?_
  refine s1 T_as ?_
  refine .nil (hK _ _ ?_)
  obtain rfl := Option.some.inj h
  exact PE.i (wk h0 [] (wR rfl wTn) wVn wLn)
  rintro ex tm' hp' ⟨rfl, hw⟩
  refine AW.weak hw ?_
  refine AW.ret ?_
  obtain rfl := Option.some.inj h
  exact RetV.mk1 (resD_t rfl (.inr (.inr ⟨_, (le_refl' _), rfl, rfl⟩)))
noncomputable def g_ref42_SameFrames_l15 (p_a : List S_Frame) (p_b : List S_Frame) : Int → Option (Int ⊕ (Bool ⊕ Unit)) := fun a15_0 => cnd (decide (a15_0 < ((p_a).length : Int))) (gd (0 ≤ a15_0 ∧ a15_0 < ((p_a).length : Int)) (gd (0 ≤ a15_0 ∧ a15_0 < ((p_b).length : Int)) (cnd (decide (¬ ((p_a)[(a15_0).toNat]! = (p_b)[(a15_0).toNat]!))) (some (.inr (.inl false))) (some (.inl (IntKind.i64.wrap (a15_0 + (1 : Int)))))))) (some (.inr (.inr ())))
noncomputable def g_ref42_SameFrames (p_a : List S_Frame) (p_b : List S_Frame) : Option Bool := cnd (decide (((p_a).length : Int) ≠ ((p_b).length : Int))) (some false) (bnd (loopO (g_ref42_SameFrames_l15 p_a p_b) (0 : Int)) fun y8 => match y8 with | .inl r => some r | .inr () => some true)
theorem w_ref42_SameFrames {p_a : List S_Frame} {p_b : List S_Frame} {r : Bool} (h : g_ref42_SameFrames p_a p_b = some r) : PCalls Try.prog 18 [dL c_Frame p_a, dL c_Frame p_b] (dB r) := by
  refine PCalls.of (rs := [.tmp 4]) tok Try.func18 rfl rfl (Nat.le_of_ble_eq_true rfl) rfl (fun cx hx h0 => ?_)
  simp only [argsT, Nat.reduceAdd, Nat.zero_add]
  unfold g_ref42_SameFrames at h
  refine AW.seq ?_
  refine rg hx (by kernel_rfl) fun K hK => ?_
  refine s1 (d := dB false) T_asg ?_
  refine .nil (hK _ _ ?_)
  iterate 2 refine AW.seq ?_
  refine rg hx (by kernel_rfl) fun K hK => ?_
  refine s1 T_mv ?_
  refine s1 (d := dI .i64 ((p_a).length : Int)) (T_len tb_45 tb_27) ?_
  refine s1 T_mv ?_
  refine s1 (d := dI .i64 ((p_b).length : Int)) (T_len tb_45 tb_27) ?_
  refine s1 T_neq ?_
  refine .nil (hK _ _ ?_)
  refine AW.condS rfl (fun hb1 => ?_) (fun hb1 => ?_)
  replace h := cnd_t hb1 h
  refine AW.seq ?_
  refine rg hx (by kernel_rfl) fun K hK => ?_
  refine s1 (d := dB false) T_asg ?_
  refine .nil (hK _ _ ?_)
  refine AW.ret ?_
  obtain rfl := Option.some.inj h
  exact RetV.mk1 (resD_t rfl (.inr (.inr ⟨_, (le_refl' _), rfl, rfl⟩)))
  replace h := cnd_f hb1 h
  refine AW.skip ?_
  iterate 2 refine AW.seq ?_
  refine rg hx (by kernel_rfl) fun K hK => ?_
  refine s1 (d := dI .i64 (0 : Int)) T_asg ?_
  refine .nil (hK _ _ ?_)
  refine AW.block ?_
  obtain ⟨y, hy, h⟩ := bnd_some h
  refine lp (S := Int) (X := Bool ⊕ Unit) (fun a15_0 => [(0, dL c_Frame p_a), (1, dL c_Frame p_b), (5, dI .i64 a15_0)]) (fun a15_0 => ⟨[], [], 0⟩) (PS (PR [.tmp 4] fun r => dB r) (PE cx (.exit 0) (fun () => []) fun () => ⟨[], [], 0⟩)) hy ?_ ?_ ?_
  exact wk h0 [] (wR rfl (wR rfl (wR rfl wTn))) wVn wLn
  clear hy h
  rintro a15_0 y h
  dsimp only [g_ref42_SameFrames_l15] at h
  iterate 2 refine AW.seq ?_
  refine rg hx (by kernel_rfl) fun K hK => ?_
  iterate 2 refine s1 T_mv ?_
  refine s1 (d := dI .i64 ((p_a).length : Int)) (T_len tb_45 tb_27) ?_
  refine s1 T_lss ?_
  refine .nil (hK _ _ ?_)
  refine AW.condS rfl (fun hb2 => ?_) (fun hb2 => ?_)
  replace h := cnd_t hb2 h
  refine AW.skip ?_
  refine AW.seq ?_
  refine AW.block ?_
  refine AW.seq ?_
  refine rd [] hx (by kernel_rfl) (by kernel_rfl) fun K hK => ?_
  iterate 2 refine s1 T_mv ?_
  obtain ⟨hc3, h⟩ := gd_some h
  have hn4 : (a15_0).toNat < (p_a).length := by omega
  refine s1 (T_iaS hc3 tb_45 tb_27) ?_
  refine s1 (d := dG c_Frame ((p_a)[(a15_0).toNat]!)) (T_ldG (c := c_Frame) (l := p_a) (n := (a15_0).toNat) (o := 0) tb_27 hn4 (whole_G _ _ rfl)) ?_
  iterate 2 refine s1 T_mv ?_
  obtain ⟨hc5, h⟩ := gd_some h
  have hn6 : (a15_0).toNat < (p_b).length := by omega
  refine s1 (T_iaS hc5 tb_45 tb_27) ?_
  refine s1 (d := dG c_Frame ((p_b)[(a15_0).toNat]!)) (T_ldG (c := c_Frame) (l := p_b) (n := (a15_0).toNat) (o := 0) tb_27 hn6 (whole_G _ _ rfl)) ?_
  refine s1 (T_gneq tok 6 (by decide) tb_27 rfl (by kernel_rfl) (by kernel_rfl) rfl rfl rfl rfl (eqF_Frame _) (eqF_Frame _) (eqI_Frame _ _)) ?_
  refine .nil (hK _ _ ?_)
  refine AW.condS rfl (fun hb7 => ?_) (fun hb7 => ?_)
  replace h := cnd_t hb7 h
  refine AW.seq ?_
  refine rg hx (by kernel_rfl) fun K hK => ?_
  refine s1 (d := dB false) T_asg ?_
  refine .nil (hK _ _ ?_)
  refine AW.ret ?_
  obtain rfl := Option.some.inj h
  refine PS.r ⟨by nofun, PS.l (PR.i ?_)⟩
  exact RetV.mk1 (resD_t rfl (.inr (.inr ⟨_, (le_refl' _), rfl, rfl⟩)))
  replace h := cnd_f hb7 h
  refine AW.skip ?_
  refine rg hx (by kernel_rfl) fun K hK => ?_
  refine s1 T_mv ?_
  refine s1 T_add ?_
  refine s1 T_as ?_
  refine .nil (hK _ _ ?_)
  obtain rfl := Option.some.inj h
  exact PS.l (PE.i (wk h0 [] (wR rfl (wR rfl (wR rfl wTn))) wVn wLn))
  replace h := cnd_f hb2 h
  refine AW.exit ?_
  try dsimp only
  try simp only [if_true, reduceIte, Nat.reduceEqDiff, reduceCtorEq]
  obtain rfl := Option.some.inj h
  exact PS.r ⟨by nofun, PS.r (PE.i (wk h0 [] wTn wVn wLn))⟩
  rcases y with r | ⟨⟩
  rintro ex tm' hp' ⟨rfl, hw⟩
  obtain rfl := Option.some.inj h
  exact hw
  rintro ex tm' hp' ⟨rfl, hw⟩
  try dsimp only
  try simp only [if_true, reduceIte, Nat.reduceEqDiff, reduceCtorEq]
  refine AW.weak hw ?_
  refine AW.seq ?_
  refine rg hx (by kernel_rfl) fun K hK => ?_
  refine s1 (d := dB true) T_asg ?_
  refine .nil (hK _ _ ?_)
  refine AW.ret ?_
  obtain rfl := Option.some.inj h
  exact RetV.mk1 (resD_t rfl (.inr (.inr ⟨_, (le_refl' _), rfl, rfl⟩)))
noncomputable def g_ref01_SameTexts_l15 (p_a : List ByteArray) (p_b : List ByteArray) : Int → Option (Int ⊕ (Bool ⊕ Unit)) := fun a15_0 => cnd (decide (a15_0 < ((p_a).length : Int))) (gd (0 ≤ a15_0 ∧ a15_0 < ((p_a).length : Int)) (gd (0 ≤ a15_0 ∧ a15_0 < ((p_b).length : Int)) (cnd (decide (((p_a)[(a15_0).toNat]!) ≠ ((p_b)[(a15_0).toNat]!))) (some (.inr (.inl false))) (some (.inl (IntKind.i64.wrap (a15_0 + (1 : Int)))))))) (some (.inr (.inr ())))
noncomputable def g_ref01_SameTexts (p_a : List ByteArray) (p_b : List ByteArray) : Option Bool := cnd (decide (((p_a).length : Int) ≠ ((p_b).length : Int))) (some false) (bnd (loopO (g_ref01_SameTexts_l15 p_a p_b) (0 : Int)) fun y8 => match y8 with | .inl r => some r | .inr () => some true)
theorem w_ref01_SameTexts {p_a : List ByteArray} {p_b : List ByteArray} {r : Bool} (h : g_ref01_SameTexts p_a p_b = some r) : PCalls Try.prog 17 [dL cS p_a, dL cS p_b] (dB r) := by
  refine PCalls.of (rs := [.tmp 4]) tok Try.func17 rfl rfl (Nat.le_of_ble_eq_true rfl) rfl (fun cx hx h0 => ?_)
  simp only [argsT, Nat.reduceAdd, Nat.zero_add]
  unfold g_ref01_SameTexts at h
  refine AW.seq ?_
  refine rg hx (by kernel_rfl) fun K hK => ?_
  refine s1 (d := dB false) T_asg ?_
  refine .nil (hK _ _ ?_)
  iterate 2 refine AW.seq ?_
  refine rg hx (by kernel_rfl) fun K hK => ?_
  refine s1 T_mv ?_
  refine s1 (d := dI .i64 ((p_a).length : Int)) (T_len tb_22 tb_9) ?_
  refine s1 T_mv ?_
  refine s1 (d := dI .i64 ((p_b).length : Int)) (T_len tb_22 tb_9) ?_
  refine s1 T_neq ?_
  refine .nil (hK _ _ ?_)
  refine AW.condS rfl (fun hb1 => ?_) (fun hb1 => ?_)
  replace h := cnd_t hb1 h
  refine AW.seq ?_
  refine rg hx (by kernel_rfl) fun K hK => ?_
  refine s1 (d := dB false) T_asg ?_
  refine .nil (hK _ _ ?_)
  refine AW.ret ?_
  obtain rfl := Option.some.inj h
  exact RetV.mk1 (resD_t rfl (.inr (.inr ⟨_, (le_refl' _), rfl, rfl⟩)))
  replace h := cnd_f hb1 h
  refine AW.skip ?_
  iterate 2 refine AW.seq ?_
  refine rg hx (by kernel_rfl) fun K hK => ?_
  refine s1 (d := dI .i64 (0 : Int)) T_asg ?_
  refine .nil (hK _ _ ?_)
  refine AW.block ?_
  obtain ⟨y, hy, h⟩ := bnd_some h
  refine lp (S := Int) (X := Bool ⊕ Unit) (fun a15_0 => [(0, dL cS p_a), (1, dL cS p_b), (5, dI .i64 a15_0)]) (fun a15_0 => ⟨[], [], 0⟩) (PS (PR [.tmp 4] fun r => dB r) (PE cx (.exit 0) (fun () => []) fun () => ⟨[], [], 0⟩)) hy ?_ ?_ ?_
  exact wk h0 [] (wR rfl (wR rfl (wR rfl wTn))) wVn wLn
  clear hy h
  rintro a15_0 y h
  dsimp only [g_ref01_SameTexts_l15] at h
  iterate 2 refine AW.seq ?_
  refine rg hx (by kernel_rfl) fun K hK => ?_
  iterate 2 refine s1 T_mv ?_
  refine s1 (d := dI .i64 ((p_a).length : Int)) (T_len tb_22 tb_9) ?_
  refine s1 T_lss ?_
  refine .nil (hK _ _ ?_)
  refine AW.condS rfl (fun hb2 => ?_) (fun hb2 => ?_)
  replace h := cnd_t hb2 h
  refine AW.skip ?_
  refine AW.seq ?_
  refine AW.block ?_
  refine AW.seq ?_
  refine rd [] hx (by kernel_rfl) (by kernel_rfl) fun K hK => ?_
  iterate 2 refine s1 T_mv ?_
  obtain ⟨hc3, h⟩ := gd_some h
  have hn4 : (a15_0).toNat < (p_a).length := by omega
  refine s1 (T_iaS hc3 tb_22 tb_9) ?_
  refine s1 (d := dS ((p_a)[(a15_0).toNat]!)) (T_ldF (c := cS) (l := p_a) (n := (a15_0).toNat) (o := 0) tb_9 hn4) ?_
  iterate 2 refine s1 T_mv ?_
  obtain ⟨hc5, h⟩ := gd_some h
  have hn6 : (a15_0).toNat < (p_b).length := by omega
  refine s1 (T_iaS hc5 tb_22 tb_9) ?_
  refine s1 (d := dS ((p_b)[(a15_0).toNat]!)) (T_ldF (c := cS) (l := p_b) (n := (a15_0).toNat) (o := 0) tb_9 hn6) ?_
  refine s1 T_sneq ?_
  refine .nil (hK _ _ ?_)
  refine AW.condS rfl (fun hb7 => ?_) (fun hb7 => ?_)
  replace h := cnd_t hb7 h
  refine AW.seq ?_
  refine rg hx (by kernel_rfl) fun K hK => ?_
  refine s1 (d := dB false) T_asg ?_
  refine .nil (hK _ _ ?_)
  refine AW.ret ?_
  obtain rfl := Option.some.inj h
  refine PS.r ⟨by nofun, PS.l (PR.i ?_)⟩
  exact RetV.mk1 (resD_t rfl (.inr (.inr ⟨_, (le_refl' _), rfl, rfl⟩)))
  replace h := cnd_f hb7 h
  refine AW.skip ?_
  refine rg hx (by kernel_rfl) fun K hK => ?_
  refine s1 T_mv ?_
  refine s1 T_add ?_
  refine s1 T_as ?_
  refine .nil (hK _ _ ?_)
  obtain rfl := Option.some.inj h
  exact PS.l (PE.i (wk h0 [] (wR rfl (wR rfl (wR rfl wTn))) wVn wLn))
  replace h := cnd_f hb2 h
  refine AW.exit ?_
  try dsimp only
  try simp only [if_true, reduceIte, Nat.reduceEqDiff, reduceCtorEq]
  obtain rfl := Option.some.inj h
  exact PS.r ⟨by nofun, PS.r (PE.i (wk h0 [] wTn wVn wLn))⟩
  rcases y with r | ⟨⟩
  rintro ex tm' hp' ⟨rfl, hw⟩
  obtain rfl := Option.some.inj h
  exact hw
  rintro ex tm' hp' ⟨rfl, hw⟩
  try dsimp only
  try simp only [if_true, reduceIte, Nat.reduceEqDiff, reduceCtorEq]
  refine AW.weak hw ?_
  refine AW.seq ?_
  refine rg hx (by kernel_rfl) fun K hK => ?_
  refine s1 (d := dB true) T_asg ?_
  refine .nil (hK _ _ ?_)
  refine AW.ret ?_
  obtain rfl := Option.some.inj h
  exact RetV.mk1 (resD_t rfl (.inr (.inr ⟨_, (le_refl' _), rfl, rfl⟩)))
noncomputable def g_ref42_Same_l15 (p_a : S_End) (p_b : S_End) : Int → Option (Int ⊕ (Bool ⊕ Unit)) := fun a15_0 => cnd (decide (a15_0 < ((p_a.vHeld).length : Int))) (gd (0 ≤ a15_0 ∧ a15_0 < ((p_a.vHeld).length : Int)) (gd (0 ≤ a15_0 ∧ a15_0 < ((p_b.vHeld).length : Int)) (cnd (decide (¬ ((p_a.vHeld)[(a15_0).toNat]! = (p_b.vHeld)[(a15_0).toNat]!))) (some (.inr (.inl false))) (some (.inl (IntKind.i64.wrap (a15_0 + (1 : Int)))))))) (some (.inr (.inr ())))
noncomputable def g_ref42_Same (p_a : S_End) (p_b : S_End) : Option Bool := bnd (S := Bool) (cnd (decide (p_a.vBase ≠ p_b.vBase)) (some (true)) (cnd (decide (p_a.vWant ≠ p_b.vWant)) (some (true)) (bnd (g_ref01_SameTexts p_a.vQueue p_b.vQueue) fun x3 => cnd (!x3) (some (true)) (some (decide (((p_a.vHeld).length : Int) ≠ ((p_b.vHeld).length : Int))))))) fun a5_0 => cnd a5_0 (some false) (bnd (loopO (g_ref42_Same_l15 p_a p_b) (0 : Int)) fun y14 => match y14 with | .inl r => some r | .inr () => some true)
theorem w_ref42_Same {p_a : S_End} {p_b : S_End} {r : Bool} (h : g_ref42_Same p_a p_b = some r) : PCalls Try.prog 16 [dG c_End p_a, dG c_End p_b] (dB r) := by
  refine PCalls.of (rs := [.tmp 4]) tok Try.func16 rfl rfl (Nat.le_of_ble_eq_true rfl) rfl (fun cx hx h0 => ?_)
  simp only [argsT, Nat.reduceAdd, Nat.zero_add]
  unfold g_ref42_Same at h
  refine AW.seq ?_
  refine rg hx (by kernel_rfl) fun K hK => ?_
  refine s1 (d := .pt 0 0) T_box ?_
  refine s1 (d := .pt 1 0) T_box ?_
  refine s1 (d := dB false) T_asg ?_
  refine .nil (hK _ _ ?_)
  iterate 2 refine AW.seq ?_
  obtain ⟨a5_0, hy, h⟩ := bnd_some h
  refine jn ((PE cx .normal (fun a5_0 => [(2, .pt 0 0), (3, .pt 1 0), (34, dB a5_0)]) fun a5_0 => ⟨[(0, [dI .i64 p_a.vBase, dL cS p_a.vQueue, dI .i64 p_a.vWant, dL c_Held p_a.vHeld]), (1, [dI .i64 p_b.vBase, dL cS p_b.vQueue, dI .i64 p_b.vWant, dL c_Held p_b.vHeld])], [], 2⟩) a5_0) ?_ ?_
  replace h := hy
  refine rg hx (by kernel_rfl) fun K hK => ?_
  refine s1 (T_faP tb_25 tb_3) ?_
  refine s1 (d := dI .i64 p_a.vBase) (T_ldC tb_3) ?_
  refine s1 (T_faP tb_25 tb_3) ?_
  refine s1 (d := dI .i64 p_b.vBase) (T_ldC tb_3) ?_
  refine s1 T_neq ?_
  refine s1 T_mv ?_
  rcases Bool.eq_false_or_eq_true (decide (p_a.vBase ≠ p_b.vBase)) with hb1 | hb1
  replace h := cnd_t hb1 h
  iterate 5 refine no_t rfl rfl hb1 ?_
  refine s1 (d := dB true) (T_pickT hb1) ?_
  refine s1 T_mv ?_
  iterate 6 refine no_t rfl rfl rfl ?_
  refine s1 (d := dB true) (T_pickT rfl) ?_
  refine s1 T_mv ?_
  iterate 7 refine no_t rfl rfl rfl ?_
  refine s1 (d := dB true) (T_pickT rfl) ?_
  refine .nil (hK _ _ ?_)
  obtain rfl := Option.some.inj h
  exact PE.i (wk h0 [0, 1] (wR rfl (wR rfl (wR rfl wTn))) (vR rfl (vR rfl wVn)) wLn)
  replace h := cnd_f hb1 h
  refine g1 hb1 (T_faP tb_25 tb_3) ?_
  refine g1 (d := dI .i64 p_a.vWant) hb1 (T_ldC tb_3) ?_
  refine g1 hb1 (T_faP tb_25 tb_3) ?_
  refine g1 (d := dI .i64 p_b.vWant) hb1 (T_ldC tb_3) ?_
  refine g1 hb1 T_neq ?_
  refine s1 (d := dB (decide (p_a.vWant ≠ p_b.vWant))) (T_pickF hb1) ?_
  refine s1 T_mv ?_
  rcases Bool.eq_false_or_eq_true (decide (p_a.vWant ≠ p_b.vWant)) with hb2 | hb2
  replace h := cnd_t hb2 h
  iterate 6 refine no_t rfl rfl hb2 ?_
  refine s1 (d := dB true) (T_pickT hb2) ?_
  refine s1 T_mv ?_
  iterate 7 refine no_t rfl rfl rfl ?_
  refine s1 (d := dB true) (T_pickT rfl) ?_
  refine .nil (hK _ _ ?_)
  obtain rfl := Option.some.inj h
  exact PE.i (wk h0 [0, 1] (wR rfl (wR rfl (wR rfl wTn))) (vR rfl (vR rfl wVn)) wLn)
  replace h := cnd_f hb2 h
  refine g1 hb2 (T_faP tb_25 tb_22) ?_
  refine g1 (d := dL cS p_a.vQueue) hb2 (T_ldC tb_22) ?_
  refine g1 hb2 (T_faP tb_25 tb_22) ?_
  refine g1 (d := dL cS p_b.vQueue) hb2 (T_ldC tb_22) ?_
  obtain ⟨x3, hx4, h⟩ := bnd_some h
  refine g1 (d := dB x3) hb2 (T_call rfl (w_ref01_SameTexts hx4) rfl (lA (le_refl' _) (lA (le_refl' _) lAn)) (.inl rfl)) ?_
  refine g1 hb2 T_not ?_
  refine s1 (d := dB (!x3)) (T_pickF hb2) ?_
  refine s1 T_mv ?_
  rcases Bool.eq_false_or_eq_true (!x3) with hb5 | hb5
  replace h := cnd_t hb5 h
  iterate 7 refine no_t rfl rfl hb5 ?_
  refine s1 (d := dB true) (T_pickT hb5) ?_
  refine .nil (hK _ _ ?_)
  obtain rfl := Option.some.inj h
  exact PE.i (wk h0 [0, 1] (wR rfl (wR rfl (wR rfl wTn))) (vR rfl (vR rfl wVn)) wLn)
  replace h := cnd_f hb5 h
  refine g1 hb5 (T_faP tb_25 tb_23) ?_
  refine g1 (d := dL c_Held p_a.vHeld) hb5 (T_ldC tb_23) ?_
  refine g1 (d := dI .i64 ((p_a.vHeld).length : Int)) hb5 (T_len tb_23 tb_74) ?_
  refine g1 hb5 (T_faP tb_25 tb_23) ?_
  refine g1 (d := dL c_Held p_b.vHeld) hb5 (T_ldC tb_23) ?_
  refine g1 (d := dI .i64 ((p_b.vHeld).length : Int)) hb5 (T_len tb_23 tb_74) ?_
  refine g1 hb5 T_neq ?_
  refine s1 (d := dB (decide (((p_a.vHeld).length : Int) ≠ ((p_b.vHeld).length : Int)))) (T_pickF hb5) ?_
  refine .nil (hK _ _ ?_)
  obtain rfl := Option.some.inj h
  exact PE.i (wk h0 [0, 1] (wR rfl (wR rfl (wR rfl wTn))) (vR rfl (vR rfl wVn)) wLn)
  rintro ex tm' hp' ⟨rfl, hw⟩
  refine AW.weak hw ?_
  refine AW.condS rfl (fun hb7 => ?_) (fun hb7 => ?_)
  replace h := cnd_t hb7 h
  refine AW.seq ?_
  refine rg hx (by kernel_rfl) fun K hK => ?_
  refine s1 (d := dB false) T_asg ?_
  refine .nil (hK _ _ ?_)
  refine AW.ret ?_
  obtain rfl := Option.some.inj h
  exact RetV.mk1 (resD_t rfl (.inr (.inr ⟨_, (le_refl' _), rfl, rfl⟩)))
  replace h := cnd_f hb7 h
  refine AW.skip ?_
  iterate 2 refine AW.seq ?_
  refine rg hx (by kernel_rfl) fun K hK => ?_
  refine s1 (d := dI .i64 (0 : Int)) T_asg ?_
  refine .nil (hK _ _ ?_)
  refine AW.block ?_
  obtain ⟨y, hy, h⟩ := bnd_some h
  refine lp (S := Int) (X := Bool ⊕ Unit) (fun a15_0 => [(2, .pt 0 0), (3, .pt 1 0), (5, dI .i64 a15_0)]) (fun a15_0 => ⟨[(0, [dI .i64 p_a.vBase, dL cS p_a.vQueue, dI .i64 p_a.vWant, dL c_Held p_a.vHeld]), (1, [dI .i64 p_b.vBase, dL cS p_b.vQueue, dI .i64 p_b.vWant, dL c_Held p_b.vHeld])], [], 2⟩) (PS (PR [.tmp 4] fun r => dB r) (PE cx (.exit 0) (fun () => []) fun () => ⟨[], [], 0⟩)) hy ?_ ?_ ?_
  exact wk h0 [0, 1] (wR rfl (wR rfl (wR rfl wTn))) (vR rfl (vR rfl wVn)) wLn
  clear hy h
  rintro a15_0 y h
  dsimp only [g_ref42_Same_l15] at h
  iterate 2 refine AW.seq ?_
  refine rg hx (by kernel_rfl) fun K hK => ?_
  refine s1 T_mv ?_
  refine s1 (T_faP tb_25 tb_23) ?_
  refine s1 (d := dL c_Held p_a.vHeld) (T_ldC tb_23) ?_
  refine s1 (d := dI .i64 ((p_a.vHeld).length : Int)) (T_len tb_23 tb_74) ?_
  refine s1 T_lss ?_
  refine .nil (hK _ _ ?_)
  refine AW.condS rfl (fun hb8 => ?_) (fun hb8 => ?_)
  replace h := cnd_t hb8 h
  refine AW.skip ?_
  refine AW.seq ?_
  refine AW.block ?_
  refine AW.seq ?_
  refine rd [] hx (by kernel_rfl) (by kernel_rfl) fun K hK => ?_
  refine s1 (T_faP tb_25 tb_23) ?_
  refine s1 (d := dL c_Held p_a.vHeld) (T_ldC tb_23) ?_
  refine s1 T_mv ?_
  obtain ⟨hc9, h⟩ := gd_some h
  have hn10 : (a15_0).toNat < (p_a.vHeld).length := by omega
  refine s1 (T_iaS hc9 tb_23 tb_74) ?_
  refine s1 (d := dG c_Held ((p_a.vHeld)[(a15_0).toNat]!)) (T_ldG (c := c_Held) (l := p_a.vHeld) (n := (a15_0).toNat) (o := 0) tb_74 hn10 (whole_G _ _ rfl)) ?_
  refine s1 (T_faP tb_25 tb_23) ?_
  refine s1 (d := dL c_Held p_b.vHeld) (T_ldC tb_23) ?_
  refine s1 T_mv ?_
  obtain ⟨hc11, h⟩ := gd_some h
  have hn12 : (a15_0).toNat < (p_b.vHeld).length := by omega
  refine s1 (T_iaS hc11 tb_23 tb_74) ?_
  refine s1 (d := dG c_Held ((p_b.vHeld)[(a15_0).toNat]!)) (T_ldG (c := c_Held) (l := p_b.vHeld) (n := (a15_0).toNat) (o := 0) tb_74 hn12 (whole_G _ _ rfl)) ?_
  refine s1 (T_gneq tok 6 (by decide) tb_74 rfl (by kernel_rfl) (by kernel_rfl) rfl rfl rfl rfl (eqF_Held _) (eqF_Held _) (eqI_Held _ _)) ?_
  refine .nil (hK _ _ ?_)
  refine AW.condS rfl (fun hb13 => ?_) (fun hb13 => ?_)
  replace h := cnd_t hb13 h
  refine AW.seq ?_
  refine rg hx (by kernel_rfl) fun K hK => ?_
  refine s1 (d := dB false) T_asg ?_
  refine .nil (hK _ _ ?_)
  refine AW.ret ?_
  obtain rfl := Option.some.inj h
  refine PS.r ⟨by nofun, PS.l (PR.i ?_)⟩
  exact RetV.mk1 (resD_t rfl (.inr (.inr ⟨_, (le_refl' _), rfl, rfl⟩)))
  replace h := cnd_f hb13 h
  refine AW.skip ?_
  refine rg hx (by kernel_rfl) fun K hK => ?_
  refine s1 T_mv ?_
  refine s1 T_add ?_
  refine s1 T_as ?_
  refine .nil (hK _ _ ?_)
  obtain rfl := Option.some.inj h
  exact PS.l (PE.i (wk h0 [0, 1] (wR rfl (wR rfl (wR rfl wTn))) (vR rfl (vR rfl wVn)) wLn))
  replace h := cnd_f hb8 h
  refine AW.exit ?_
  try dsimp only
  try simp only [if_true, reduceIte, Nat.reduceEqDiff, reduceCtorEq]
  obtain rfl := Option.some.inj h
  exact PS.r ⟨by nofun, PS.r (PE.i (wk h0 [] wTn wVn wLn))⟩
  rcases y with r | ⟨⟩
  rintro ex tm' hp' ⟨rfl, hw⟩
  obtain rfl := Option.some.inj h
  exact hw
  rintro ex tm' hp' ⟨rfl, hw⟩
  try dsimp only
  try simp only [if_true, reduceIte, Nat.reduceEqDiff, reduceCtorEq]
  refine AW.weak hw ?_
  refine AW.seq ?_
  refine rg hx (by kernel_rfl) fun K hK => ?_
  refine s1 (d := dB true) T_asg ?_
  refine .nil (hK _ _ ?_)
  refine AW.ret ?_
  obtain rfl := Option.some.inj h
  exact RetV.mk1 (resD_t rfl (.inr (.inr ⟨_, (le_refl' _), rfl, rfl⟩)))
noncomputable def g_ref42_New  : Option S_End := some (⟨(1 : Int), ([] : List ByteArray), (1 : Int), ([] : List S_Held)⟩ : S_End)
theorem w_ref42_New  {r : S_End} (h : g_ref42_New = some r) : PCalls Try.prog 22 [] (.ag [dI .i64 r.vBase, dN, dI .i64 r.vWant, dN]) := by
  refine PCalls.of (rs := [.cell 0 25]) tok Try.func22 rfl rfl (Nat.le_of_ble_eq_true rfl) rfl (fun cx hx h0 => ?_)
  simp only [argsT, Nat.reduceAdd, Nat.zero_add]
  unfold g_ref42_New at h
  refine AW.seq ?_
  refine rg hx (by kernel_rfl) fun K hK => ?_
  refine s1 (d := .pt 0 0) (T_alloc tb_25) ?_
  refine .nil (hK _ _ ?_)
  refine AW.seq ?_
  refine rg hx (by kernel_rfl) fun K hK => ?_
  refine s1 (d := .ag [dI .i64 (1 : Int), dN, dI .i64 (1 : Int), dN]) (T_build tb_25) ?_
  refine s0 (T_st (ds' := [dI .i64 (1 : Int), dN, dI .i64 (1 : Int), dN]) tb_25) ?_
  refine .nil (hK _ _ ?_)
  refine AW.ret ?_
  obtain rfl := Option.some.inj h
  exact RetV.mk1 (resD_a (es := [dI .i64 (1 : Int), dN, dI .i64 (1 : Int), dN]) rfl tb_25 rfl rfl (ltb rfl) (leb rfl) rfl (.inr (.inr ⟨_, (le_ag (wc (lc_r _) (wc (lc_r _) (wc (lc_r _) (wc (lc_r _) wcn))))), rfl, rfl⟩)))
noncomputable def g_law42_word (p_side : Int) (p_n : Int) : Option ByteArray := some (bStr [IntKind.u8.wrap (IntKind.i64.wrap ((97 : Int) + p_side)), IntKind.u8.wrap (IntKind.i64.wrap ((48 : Int) + (Int.tmod (IntKind.i64.wrap (Int.tdiv p_n (100 : Int))) (10 : Int)))), IntKind.u8.wrap (IntKind.i64.wrap ((48 : Int) + (Int.tmod (IntKind.i64.wrap (Int.tdiv p_n (10 : Int))) (10 : Int)))), IntKind.u8.wrap (IntKind.i64.wrap ((48 : Int) + (Int.tmod p_n (10 : Int))))])
theorem w_law42_word {p_side : Int} {p_n : Int} {r : ByteArray} (h : g_law42_word p_side p_n = some r) : PCalls Try.prog 24 [dI .i64 p_side, dI .i64 p_n] (dS r) := by
  refine PCalls.of (rs := [.tmp 4]) tok Try.func24 rfl rfl (Nat.le_of_ble_eq_true rfl) rfl (fun cx hx h0 => ?_)
  simp only [argsT, Nat.reduceAdd, Nat.zero_add]
  unfold g_law42_word at h
  refine AW.seq ?_
  refine rg hx (by kernel_rfl) fun K hK => ?_
  refine s1 (d := dS ByteArray.empty) T_asg ?_
  refine .nil (hK _ _ ?_)
  refine AW.seq ?_
  refine rg hx (by kernel_rfl) fun K hK => ?_
  refine s1 T_mv ?_
  refine s1 T_add ?_
  refine s1 (d := dI .u8 (IntKind.u8.wrap (IntKind.i64.wrap ((97 : Int) + p_side)))) (T_cvI tb_3 tb_5) ?_
  refine s1 T_mv ?_
  refine s1 (T_quo (b := (100 : Int)) (by decide)) ?_
  refine s1 (T_rem (b := (10 : Int)) (by decide)) ?_
  refine s1 T_add ?_
  refine s1 (d := dI .u8 (IntKind.u8.wrap (IntKind.i64.wrap ((48 : Int) + (Int.tmod (IntKind.i64.wrap (Int.tdiv p_n (100 : Int))) (10 : Int)))))) (T_cvI tb_3 tb_5) ?_
  refine s1 T_mv ?_
  refine s1 (T_quo (b := (10 : Int)) (by decide)) ?_
  refine s1 (T_rem (b := (10 : Int)) (by decide)) ?_
  refine s1 T_add ?_
  refine s1 (d := dI .u8 (IntKind.u8.wrap (IntKind.i64.wrap ((48 : Int) + (Int.tmod (IntKind.i64.wrap (Int.tdiv p_n (10 : Int))) (10 : Int)))))) (T_cvI tb_3 tb_5) ?_
  refine s1 T_mv ?_
  refine s1 (T_rem (b := (10 : Int)) (by decide)) ?_
  refine s1 T_add ?_
  refine s1 (d := dI .u8 (IntKind.u8.wrap (IntKind.i64.wrap ((48 : Int) + (Int.tmod p_n (10 : Int)))))) (T_cvI tb_3 tb_5) ?_
  refine s1 (d := dO 0 (cI .u8) [IntKind.u8.wrap (IntKind.i64.wrap ((97 : Int) + p_side)), IntKind.u8.wrap (IntKind.i64.wrap ((48 : Int) + (Int.tmod (IntKind.i64.wrap (Int.tdiv p_n (100 : Int))) (10 : Int)))), IntKind.u8.wrap (IntKind.i64.wrap ((48 : Int) + (Int.tmod (IntKind.i64.wrap (Int.tdiv p_n (10 : Int))) (10 : Int)))), IntKind.u8.wrap (IntKind.i64.wrap ((48 : Int) + (Int.tmod p_n (10 : Int))))]) (T_bsl tb_58 tb_5) ?_
  refine s1 (d := dS (bStr [IntKind.u8.wrap (IntKind.i64.wrap ((97 : Int) + p_side)), IntKind.u8.wrap (IntKind.i64.wrap ((48 : Int) + (Int.tmod (IntKind.i64.wrap (Int.tdiv p_n (100 : Int))) (10 : Int)))), IntKind.u8.wrap (IntKind.i64.wrap ((48 : Int) + (Int.tmod (IntKind.i64.wrap (Int.tdiv p_n (10 : Int))) (10 : Int)))), IntKind.u8.wrap (IntKind.i64.wrap ((48 : Int) + (Int.tmod p_n (10 : Int))))])) (T_cvB tb_58 tb_9 tb_5 (fun _ h => by cases h)) ?_
  refine s1 T_as ?_
  refine .nil (hK _ _ ?_)
  refine AW.ret ?_
  obtain rfl := Option.some.inj h
  exact RetV.mk1 (resD_t rfl (.inr (.inr ⟨_, (le_refl' _), rfl, rfl⟩)))
noncomputable def g_ref42_Send (p_x : S_End) (p_text : ByteArray) : Option S_Sent := cnd (decide ((4096 : Int) < (p_text.size : Int))) (some (⟨p_x, (2 : Int)⟩ : S_Sent)) (cnd (decide ((64 : Int) ≤ ((p_x.vQueue).length : Int))) (some (⟨p_x, (432 : Int)⟩ : S_Sent)) (gd ((([] : List ByteArray) ++ p_x.vQueue).length * 16 ≤ 140737488355328) (gd (((([] : List ByteArray) ++ p_x.vQueue) ++ [p_text]).length * 16 ≤ 140737488355328) (some (⟨(⟨p_x.vBase, (([] : List ByteArray) ++ p_x.vQueue) ++ [p_text], p_x.vWant, p_x.vHeld⟩ : S_End), (0 : Int)⟩ : S_Sent)))))
theorem w_ref42_Send {p_x : S_End} {p_text : ByteArray} {r : S_Sent} (h : g_ref42_Send p_x p_text = some r) : PCalls Try.prog 13 [dG c_End p_x, dS p_text] (dG c_Sent r) := by
  refine PCalls.of (rs := [.cell 4 35]) tok Try.func13 rfl rfl (Nat.le_of_ble_eq_true rfl) rfl (fun cx hx h0 => ?_)
  simp only [argsT, Nat.reduceAdd, Nat.zero_add]
  unfold g_ref42_Send at h
  refine AW.seq ?_
  refine rg hx (by kernel_rfl) fun K hK => ?_
  refine s1 (d := .pt 0 0) T_box ?_
  refine s1 (d := .pt 1 0) (T_alloc tb_35) ?_
  refine .nil (hK _ _ ?_)
  iterate 2 refine AW.seq ?_
  refine rg hx (by kernel_rfl) fun K hK => ?_
  refine s1 T_mv ?_
  refine s1 (d := dI .i64 (p_text.size : Int)) (T_lenS tb_9) ?_
  refine s1 T_gtr ?_
  refine .nil (hK _ _ ?_)
  refine AW.condS rfl (fun hb1 => ?_) (fun hb1 => ?_)
  replace h := cnd_t hb1 h
  refine AW.seq ?_
  refine rg hx (by kernel_rfl) fun K hK => ?_
  refine s1 (d := dG c_End p_x) (T_ldA tb_25) ?_
  refine s1 (d := dG c_Sent (⟨p_x, (2 : Int)⟩ : S_Sent)) (T_build tb_35) ?_
  refine s0 (T_st (ds' := [dI .i64 p_x.vBase, dL cS p_x.vQueue, dI .i64 p_x.vWant, dL c_Held p_x.vHeld, dI .i64 (2 : Int)]) tb_35) ?_
  refine .nil (hK _ _ ?_)
  refine AW.ret ?_
  obtain rfl := Option.some.inj h
  exact RetV.mk1 (resD_a (es := (c_Sent.f (⟨p_x, (2 : Int)⟩ : S_Sent)).map .e) rfl tb_35 rfl rfl (ltb rfl) (leb rfl) rfl (.inr (.inr ⟨_, (le_refl' _), rfl, rfl⟩)))
  replace h := cnd_f hb1 h
  refine AW.skip ?_
  iterate 2 refine AW.seq ?_
  refine rg hx (by kernel_rfl) fun K hK => ?_
  refine s1 (T_faP tb_25 tb_22) ?_
  refine s1 (d := dL cS p_x.vQueue) (T_ldC tb_22) ?_
  refine s1 (d := dI .i64 ((p_x.vQueue).length : Int)) (T_len tb_22 tb_9) ?_
  refine s1 T_geq ?_
  refine .nil (hK _ _ ?_)
  refine AW.condS rfl (fun hb2 => ?_) (fun hb2 => ?_)
  replace h := cnd_t hb2 h
  refine AW.seq ?_
  refine rg hx (by kernel_rfl) fun K hK => ?_
  refine s1 (d := dG c_End p_x) (T_ldA tb_25) ?_
  refine s1 (d := dG c_Sent (⟨p_x, (432 : Int)⟩ : S_Sent)) (T_build tb_35) ?_
  refine s0 (T_st (ds' := [dI .i64 p_x.vBase, dL cS p_x.vQueue, dI .i64 p_x.vWant, dL c_Held p_x.vHeld, dI .i64 (432 : Int)]) tb_35) ?_
  refine .nil (hK _ _ ?_)
  refine AW.ret ?_
  obtain rfl := Option.some.inj h
  exact RetV.mk1 (resD_a (es := (c_Sent.f (⟨p_x, (432 : Int)⟩ : S_Sent)).map .e) rfl tb_35 rfl rfl (ltb rfl) (leb rfl) rfl (.inr (.inr ⟨_, (le_refl' _), rfl, rfl⟩)))
  replace h := cnd_f hb2 h
  refine AW.skip ?_
  refine AW.seq ?_
  refine rg hx (by kernel_rfl) fun K hK => ?_
  refine s1 (d := dO 2 cS ([] : List ByteArray)) (T_bsl0 tb_22 tb_9) ?_
  refine s1 (T_faP tb_25 tb_22) ?_
  refine s1 (d := dL cS p_x.vQueue) (T_ldC tb_22) ?_
  obtain ⟨hc3, h⟩ := gd_some h
  refine s1 (d := dO 2 cS (([] : List ByteArray) ++ p_x.vQueue)) (T_appO tb_22 tb_9 hc3) ?_
  refine s1 T_mv ?_
  refine s1 (d := dO 3 cS [p_text]) (T_bsl tb_22 tb_9) ?_
  obtain ⟨hc4, h⟩ := gd_some h
  refine s1 (d := dO 2 cS ((([] : List ByteArray) ++ p_x.vQueue) ++ [p_text])) (T_appO tb_22 tb_9 hc4) ?_
  refine s1 (T_faP tb_25 tb_22) ?_
  refine s0 (T_st (ds' := [dI .i64 p_x.vBase, dO 2 cS ((([] : List ByteArray) ++ p_x.vQueue) ++ [p_text]), dI .i64 p_x.vWant, dL c_Held p_x.vHeld]) tb_22) ?_
  refine .nil (hK _ _ ?_)
  refine AW.seq ?_
  refine rg hx (by kernel_rfl) fun K hK => ?_
  refine s1 (d := .ag [dI .i64 p_x.vBase, dO 2 cS ((([] : List ByteArray) ++ p_x.vQueue) ++ [p_text]), dI .i64 p_x.vWant, dL c_Held p_x.vHeld]) (T_ldA tb_25) ?_
  refine s2 (d2 := dG c_Sent (⟨(⟨p_x.vBase, (([] : List ByteArray) ++ p_x.vQueue) ++ [p_text], p_x.vWant, p_x.vHeld⟩ : S_End), (0 : Int)⟩ : S_Sent)) (T_build (es := [dI .i64 p_x.vBase, dO 2 cS ((([] : List ByteArray) ++ p_x.vQueue) ++ [p_text]), dI .i64 p_x.vWant, dL c_Held p_x.vHeld, dI .i64 (0 : Int)]) tb_35) (le_ag (wc (lc_r _) (wc (lc_x _) (wc (lc_r _) (wc (lc_r _) (wc (lc_r _) wcn)))))) ?_
  refine s0 (T_st (ds' := [dI .i64 p_x.vBase, dL cS ((([] : List ByteArray) ++ p_x.vQueue) ++ [p_text]), dI .i64 p_x.vWant, dL c_Held p_x.vHeld, dI .i64 (0 : Int)]) tb_35) ?_
  refine .nil (hK _ _ ?_)
  refine AW.ret ?_
  obtain rfl := Option.some.inj h
  exact RetV.mk1 (resD_a (es := (c_Sent.f (⟨(⟨p_x.vBase, (([] : List ByteArray) ++ p_x.vQueue) ++ [p_text], p_x.vWant, p_x.vHeld⟩ : S_End), (0 : Int)⟩ : S_Sent)).map .e) rfl tb_35 rfl rfl (ltb rfl) (leb rfl) rfl (.inr (.inr ⟨_, (le_refl' _), rfl, rfl⟩)))
noncomputable def g_ref42_Frames_l17 (p_x : S_End) : (List S_Frame) × Int → Option (((List S_Frame) × Int) ⊕ ((List S_Frame))) := fun (a17_0, a17_1) => bnd (S := Bool) (cnd (decide (a17_1 < ((p_x.vQueue).length : Int))) (some (decide (a17_1 < (8 : Int)))) (some (false))) fun a20_0 => cnd a20_0 (gd (0 ≤ a17_1 ∧ a17_1 < ((p_x.vQueue).length : Int)) (gd ((a17_0 ++ [(⟨IntKind.i64.wrap (p_x.vBase + a17_1), p_x.vWant, (p_x.vQueue)[(a17_1).toNat]!⟩ : S_Frame)]).length * 32 ≤ 140737488355328) (some (.inl (a17_0 ++ [(⟨IntKind.i64.wrap (p_x.vBase + a17_1), p_x.vWant, (p_x.vQueue)[(a17_1).toNat]!⟩ : S_Frame)], IntKind.i64.wrap (a17_1 + (1 : Int))))))) (some (.inr a17_0))
noncomputable def g_ref42_Frames (p_x : S_End) : Option (List S_Frame) := cnd (decide (((p_x.vQueue).length : Int) = (0 : Int))) (some [(⟨(0 : Int), p_x.vWant, ByteArray.empty⟩ : S_Frame)]) (bnd (loopO (g_ref42_Frames_l17 p_x) (([] : List S_Frame), (0 : Int))) fun a17e0_0 => some a17e0_0)
theorem w_ref42_Frames {p_x : S_End} {r : List S_Frame} (h : g_ref42_Frames p_x = some r) : PCalls Try.prog 20 [dG c_End p_x] (.own 27 c_Frame.sz r.length (r.flatMap c_Frame.f)) := by
  refine PCalls.of (rs := [.tmp 2]) tok Try.func20 rfl rfl (Nat.le_of_ble_eq_true rfl) rfl (fun cx hx h0 => ?_)
  simp only [argsT, Nat.reduceAdd, Nat.zero_add]
  unfold g_ref42_Frames at h
  refine AW.seq ?_
  refine rg hx (by kernel_rfl) fun K hK => ?_
  refine s1 (d := .pt 0 0) T_box ?_
  refine s1 (d := dO 1 c_Frame ([] : List S_Frame)) (T_asgN tb_45 tb_27) ?_
  refine .nil (hK _ _ ?_)
  iterate 2 refine AW.seq ?_
  refine rg hx (by kernel_rfl) fun K hK => ?_
  refine s1 (T_faP tb_25 tb_22) ?_
  refine s1 (d := dL cS p_x.vQueue) (T_ldC tb_22) ?_
  refine s1 (d := dI .i64 ((p_x.vQueue).length : Int)) (T_len tb_22 tb_9) ?_
  refine s1 T_eql ?_
  refine .nil (hK _ _ ?_)
  refine AW.condS rfl (fun hb1 => ?_) (fun hb1 => ?_)
  replace h := cnd_t hb1 h
  refine AW.seq ?_
  refine rg hx (by kernel_rfl) fun K hK => ?_
  refine s1 (T_faP tb_25 tb_3) ?_
  refine s1 (d := dI .i64 p_x.vWant) (T_ldC tb_3) ?_
  refine s1 (d := dG c_Frame (⟨(0 : Int), p_x.vWant, ByteArray.empty⟩ : S_Frame)) (T_build tb_27) ?_
  refine s1 (d := dO 2 c_Frame [(⟨(0 : Int), p_x.vWant, ByteArray.empty⟩ : S_Frame)]) (T_bsl tb_45 tb_27) ?_
  refine s1 T_as ?_
  refine .nil (hK _ _ ?_)
  refine AW.ret ?_
  obtain rfl := Option.some.inj h
  exact RetV.own rfl rfl
  replace h := cnd_f hb1 h
  refine AW.skip ?_
  refine AW.seq ?_
  refine rg hx (by kernel_rfl) fun K hK => ?_
  refine s1 (d := dO 2 c_Frame ([] : List S_Frame)) (T_asgN tb_45 tb_27) ?_
  refine .nil (hK _ _ ?_)
  iterate 2 refine AW.seq ?_
  refine rg hx (by kernel_rfl) fun K hK => ?_
  refine s1 (d := dI .i64 (0 : Int)) T_asg ?_
  refine .nil (hK _ _ ?_)
  refine AW.block ?_
  obtain ⟨a17e0_0, hy, h⟩ := bnd_some h
  refine lp (S := (List S_Frame) × Int) (X := (List S_Frame)) (fun (a17_0, a17_1) => [(1, .pt 0 0), (3, dO 1 c_Frame a17_0), (4, dI .i64 a17_1)]) (fun (a17_0, a17_1) => ⟨[(0, [dI .i64 p_x.vBase, dL cS p_x.vQueue, dI .i64 p_x.vWant, dL c_Held p_x.vHeld])], [(1, (a17_0).length, 3, 27)], 2⟩) (PE cx (.exit 0) (fun a17e0_0 => [(3, dO 0 c_Frame a17e0_0)]) fun a17e0_0 => ⟨[], [(0, (a17e0_0).length, 3, 27)], 1⟩) hy ?_ ?_ ?_
  exact wk h0 [0, 2] (wR rfl (wR rfl (wR rfl wTn))) (vR rfl wVn) (wL rfl rfl wLn)
  clear hy h
  rintro ⟨a17_0, a17_1⟩ y h
  dsimp only [g_ref42_Frames_l17] at h
  iterate 2 refine AW.seq ?_
  obtain ⟨a20_0, hy, h⟩ := bnd_some h
  refine jn ((PE cx .normal (fun a20_0 => [(1, .pt 0 0), (3, dO 1 c_Frame a17_0), (4, dI .i64 a17_1), (21, dB a20_0)]) fun a20_0 => ⟨[(0, [dI .i64 p_x.vBase, dL cS p_x.vQueue, dI .i64 p_x.vWant, dL c_Held p_x.vHeld])], [(1, (a17_0).length, 3, 27)], 2⟩) a20_0) ?_ ?_
  replace h := hy
  refine rg hx (by kernel_rfl) fun K hK => ?_
  refine s1 T_mv ?_
  refine s1 (T_faP tb_25 tb_22) ?_
  refine s1 (d := dL cS p_x.vQueue) (T_ldC tb_22) ?_
  refine s1 (d := dI .i64 ((p_x.vQueue).length : Int)) (T_len tb_22 tb_9) ?_
  refine s1 T_lss ?_
  refine s1 T_mv ?_
  rcases Bool.eq_false_or_eq_true (decide (a17_1 < ((p_x.vQueue).length : Int))) with hb2 | hb2
  replace h := cnd_t hb2 h
  refine g1 hb2 T_mv ?_
  refine g1 hb2 T_lss ?_
  refine s1 (d := dB (decide (a17_1 < (8 : Int)))) (T_pickT hb2) ?_
  refine .nil (hK _ _ ?_)
  obtain rfl := Option.some.inj h
  exact PE.i (wk h0 [0, 1] (wR rfl (wR rfl (wR rfl (wR rfl wTn)))) (vR rfl wVn) (wL rfl rfl wLn))
  replace h := cnd_f hb2 h
  iterate 2 refine no_t rfl rfl hb2 ?_
  refine s1 (d := dB false) (T_pickF hb2) ?_
  refine .nil (hK _ _ ?_)
  obtain rfl := Option.some.inj h
  exact PE.i (wk h0 [0, 1] (wR rfl (wR rfl (wR rfl (wR rfl wTn)))) (vR rfl wVn) (wL rfl rfl wLn))
  rintro ex tm' hp' ⟨rfl, hw⟩
  refine AW.weak hw ?_
  refine AW.condS rfl (fun hb4 => ?_) (fun hb4 => ?_)
  replace h := cnd_t hb4 h
  refine AW.skip ?_
  refine AW.seq ?_
  refine AW.block ?_
  refine rd [] hx (by kernel_rfl) (by kernel_rfl) fun K hK => ?_
  refine s1 T_mv ?_
  refine s1 (T_faP tb_25 tb_3) ?_
  refine s1 (d := dI .i64 p_x.vBase) (T_ldC tb_3) ?_
  refine s1 T_mv ?_
  refine s1 T_add ?_
  refine s1 (T_faP tb_25 tb_3) ?_
  refine s1 (d := dI .i64 p_x.vWant) (T_ldC tb_3) ?_
  refine s1 (T_faP tb_25 tb_22) ?_
  refine s1 (d := dL cS p_x.vQueue) (T_ldC tb_22) ?_
  refine s1 T_mv ?_
  obtain ⟨hc5, h⟩ := gd_some h
  have hn6 : (a17_1).toNat < (p_x.vQueue).length := by omega
  refine s1 (T_iaS hc5 tb_22 tb_9) ?_
  refine s1 (d := dS ((p_x.vQueue)[(a17_1).toNat]!)) (T_ldF (c := cS) (l := p_x.vQueue) (n := (a17_1).toNat) (o := 0) tb_9 hn6) ?_
  refine s1 (d := dG c_Frame (⟨IntKind.i64.wrap (p_x.vBase + a17_1), p_x.vWant, (p_x.vQueue)[(a17_1).toNat]!⟩ : S_Frame)) (T_build tb_27) ?_
  refine s1 (T_bslD tb_45 tb_27) ?_
  obtain ⟨hc7, h⟩ := gd_some h
  refine s1 (d := dO 1 c_Frame (a17_0 ++ [(⟨IntKind.i64.wrap (p_x.vBase + a17_1), p_x.vWant, (p_x.vQueue)[(a17_1).toNat]!⟩ : S_Frame)])) (T_appO tb_45 tb_27 hc7) ?_
  refine s1 T_as ?_
  refine .nil (hK _ _ ?_)
  refine rg hx (by kernel_rfl) fun K hK => ?_
  refine s1 T_mv ?_
  refine s1 T_add ?_
  refine s1 T_as ?_
  refine .nil (hK _ _ ?_)
  obtain rfl := Option.some.inj h
  exact PS.l (PE.i (wk h0 [0, 1] (wR rfl (wR rfl (wR rfl wTn))) (vR rfl wVn) (wL rfl rfl wLn)))
  replace h := cnd_f hb4 h
  refine AW.exit ?_
  try dsimp only
  try simp only [if_true, reduceIte, Nat.reduceEqDiff, reduceCtorEq]
  obtain rfl := Option.some.inj h
  exact PS.r ⟨by nofun, PE.i (wk h0 [1] (wR rfl wTn) wVn (wL rfl rfl wLn))⟩
  rintro ex tm' hp' ⟨rfl, hw⟩
  try dsimp only
  try simp only [if_true, reduceIte, Nat.reduceEqDiff, reduceCtorEq]
  refine AW.weak hw ?_
  refine AW.seq ?_
  refine rg hx (by kernel_rfl) fun K hK => ?_
  refine s1 T_mv ?_
  refine s1 T_as ?_
  refine .nil (hK _ _ ?_)
  refine AW.ret ?_
  obtain rfl := Option.some.inj h
  exact RetV.own rfl rfl
noncomputable def g_ref42_Valid (p_f : S_Frame) : Option Bool := bnd (S := Bool) (cnd (decide (p_f.vSeq < (0 : Int))) (some (true)) (cnd (decide ((2199023255552 : Int) < p_f.vSeq)) (some (true)) (cnd (decide (p_f.vAck < (1 : Int))) (some (true)) (cnd (decide ((2199023255552 : Int) < p_f.vAck)) (some (true)) (some (decide ((4096 : Int) < (p_f.vData.size : Int)))))))) fun a5_0 => cnd a5_0 (some false) (bnd (S := Bool) (cnd (decide ((0 : Int) < p_f.vSeq)) (some (true)) (some (decide ((p_f.vData.size : Int) = (0 : Int))))) fun a12_0 => some a12_0)
theorem w_ref42_Valid {p_f : S_Frame} {r : Bool} (h : g_ref42_Valid p_f = some r) : PCalls Try.prog 42 [dG c_Frame p_f] (dB r) := by
  refine PCalls.of (rs := [.tmp 2]) tok Try.func42 rfl rfl (Nat.le_of_ble_eq_true rfl) rfl (fun cx hx h0 => ?_)
  simp only [argsT, Nat.reduceAdd, Nat.zero_add]
  unfold g_ref42_Valid at h
  refine AW.seq ?_
  refine rg hx (by kernel_rfl) fun K hK => ?_
  refine s1 (d := .pt 0 0) T_box ?_
  refine s1 (d := dB false) T_asg ?_
  refine .nil (hK _ _ ?_)
  iterate 2 refine AW.seq ?_
  obtain ⟨a5_0, hy, h⟩ := bnd_some h
  refine jn ((PE cx .normal (fun a5_0 => [(1, .pt 0 0), (26, dB a5_0)]) fun a5_0 => ⟨[(0, [dI .i64 p_f.vSeq, dI .i64 p_f.vAck, dS p_f.vData])], [], 1⟩) a5_0) ?_ ?_
  replace h := hy
  refine rg hx (by kernel_rfl) fun K hK => ?_
  refine s1 (T_faP tb_27 tb_3) ?_
  refine s1 (d := dI .i64 p_f.vSeq) (T_ldC tb_3) ?_
  refine s1 T_lss ?_
  refine s1 T_mv ?_
  rcases Bool.eq_false_or_eq_true (decide (p_f.vSeq < (0 : Int))) with hb1 | hb1
  replace h := cnd_t hb1 h
  iterate 3 refine no_t rfl rfl hb1 ?_
  refine s1 (d := dB true) (T_pickT hb1) ?_
  refine s1 T_mv ?_
  iterate 3 refine no_t rfl rfl rfl ?_
  refine s1 (d := dB true) (T_pickT rfl) ?_
  refine s1 T_mv ?_
  iterate 3 refine no_t rfl rfl rfl ?_
  refine s1 (d := dB true) (T_pickT rfl) ?_
  refine s1 T_mv ?_
  iterate 4 refine no_t rfl rfl rfl ?_
  refine s1 (d := dB true) (T_pickT rfl) ?_
  refine .nil (hK _ _ ?_)
  obtain rfl := Option.some.inj h
  exact PE.i (wk h0 [0] (wR rfl (wR rfl wTn)) (vR rfl wVn) wLn)
  replace h := cnd_f hb1 h
  refine g1 hb1 (T_faP tb_27 tb_3) ?_
  refine g1 (d := dI .i64 p_f.vSeq) hb1 (T_ldC tb_3) ?_
  refine g1 hb1 T_gtr ?_
  refine s1 (d := dB (decide ((2199023255552 : Int) < p_f.vSeq))) (T_pickF hb1) ?_
  refine s1 T_mv ?_
  rcases Bool.eq_false_or_eq_true (decide ((2199023255552 : Int) < p_f.vSeq)) with hb2 | hb2
  replace h := cnd_t hb2 h
  iterate 3 refine no_t rfl rfl hb2 ?_
  refine s1 (d := dB true) (T_pickT hb2) ?_
  refine s1 T_mv ?_
  iterate 3 refine no_t rfl rfl rfl ?_
  refine s1 (d := dB true) (T_pickT rfl) ?_
  refine s1 T_mv ?_
  iterate 4 refine no_t rfl rfl rfl ?_
  refine s1 (d := dB true) (T_pickT rfl) ?_
  refine .nil (hK _ _ ?_)
  obtain rfl := Option.some.inj h
  exact PE.i (wk h0 [0] (wR rfl (wR rfl wTn)) (vR rfl wVn) wLn)
  replace h := cnd_f hb2 h
  refine g1 hb2 (T_faP tb_27 tb_3) ?_
  refine g1 (d := dI .i64 p_f.vAck) hb2 (T_ldC tb_3) ?_
  refine g1 hb2 T_lss ?_
  refine s1 (d := dB (decide (p_f.vAck < (1 : Int)))) (T_pickF hb2) ?_
  refine s1 T_mv ?_
  rcases Bool.eq_false_or_eq_true (decide (p_f.vAck < (1 : Int))) with hb3 | hb3
  replace h := cnd_t hb3 h
  iterate 3 refine no_t rfl rfl hb3 ?_
  refine s1 (d := dB true) (T_pickT hb3) ?_
  refine s1 T_mv ?_
  iterate 4 refine no_t rfl rfl rfl ?_
  refine s1 (d := dB true) (T_pickT rfl) ?_
  refine .nil (hK _ _ ?_)
  obtain rfl := Option.some.inj h
  exact PE.i (wk h0 [0] (wR rfl (wR rfl wTn)) (vR rfl wVn) wLn)
  replace h := cnd_f hb3 h
  refine g1 hb3 (T_faP tb_27 tb_3) ?_
  refine g1 (d := dI .i64 p_f.vAck) hb3 (T_ldC tb_3) ?_
  refine g1 hb3 T_gtr ?_
  refine s1 (d := dB (decide ((2199023255552 : Int) < p_f.vAck))) (T_pickF hb3) ?_
  refine s1 T_mv ?_
  rcases Bool.eq_false_or_eq_true (decide ((2199023255552 : Int) < p_f.vAck)) with hb4 | hb4
  replace h := cnd_t hb4 h
  iterate 4 refine no_t rfl rfl hb4 ?_
  refine s1 (d := dB true) (T_pickT hb4) ?_
  refine .nil (hK _ _ ?_)
  obtain rfl := Option.some.inj h
  exact PE.i (wk h0 [0] (wR rfl (wR rfl wTn)) (vR rfl wVn) wLn)
  replace h := cnd_f hb4 h
  refine g1 hb4 (T_faP tb_27 tb_9) ?_
  refine g1 (d := dS p_f.vData) hb4 (T_ldC tb_9) ?_
  refine g1 (d := dI .i64 (p_f.vData.size : Int)) hb4 (T_lenS tb_9) ?_
  refine g1 hb4 T_gtr ?_
  refine s1 (d := dB (decide ((4096 : Int) < (p_f.vData.size : Int)))) (T_pickF hb4) ?_
  refine .nil (hK _ _ ?_)
  obtain rfl := Option.some.inj h
  exact PE.i (wk h0 [0] (wR rfl (wR rfl wTn)) (vR rfl wVn) wLn)
  rintro ex tm' hp' ⟨rfl, hw⟩
  refine AW.weak hw ?_
  refine AW.condS rfl (fun hb6 => ?_) (fun hb6 => ?_)
  replace h := cnd_t hb6 h
  refine AW.seq ?_
  refine rg hx (by kernel_rfl) fun K hK => ?_
  refine s1 (d := dB false) T_asg ?_
  refine .nil (hK _ _ ?_)
  refine AW.ret ?_
  obtain rfl := Option.some.inj h
  exact RetV.mk1 (resD_t rfl (.inr (.inr ⟨_, (le_refl' _), rfl, rfl⟩)))
  replace h := cnd_f hb6 h
  refine AW.skip ?_
  refine AW.seq ?_
  obtain ⟨a12_0, hy, h⟩ := bnd_some h
  refine jn ((PE cx .normal (fun a12_0 => [(2, dB a12_0)]) fun a12_0 => ⟨[], [], 0⟩) a12_0) ?_ ?_
  replace h := hy
  refine rg hx (by kernel_rfl) fun K hK => ?_
  refine s1 (T_faP tb_27 tb_3) ?_
  refine s1 (d := dI .i64 p_f.vSeq) (T_ldC tb_3) ?_
  refine s1 T_gtr ?_
  refine s1 T_mv ?_
  rcases Bool.eq_false_or_eq_true (decide ((0 : Int) < p_f.vSeq)) with hb7 | hb7
  replace h := cnd_t hb7 h
  iterate 4 refine no_t rfl rfl hb7 ?_
  refine s1 (d := dB true) (T_pickT hb7) ?_
  refine s1 T_as ?_
  refine .nil (hK _ _ ?_)
  obtain rfl := Option.some.inj h
  exact PE.i (wk h0 [] (wR rfl wTn) wVn wLn)
  replace h := cnd_f hb7 h
  refine g1 hb7 (T_faP tb_27 tb_9) ?_
  refine g1 (d := dS p_f.vData) hb7 (T_ldC tb_9) ?_
  refine g1 (d := dI .i64 (p_f.vData.size : Int)) hb7 (T_lenS tb_9) ?_
  refine g1 hb7 T_eql ?_
  refine s1 (d := dB (decide ((p_f.vData.size : Int) = (0 : Int)))) (T_pickF hb7) ?_
  refine s1 T_as ?_
  refine .nil (hK _ _ ?_)
  obtain rfl := Option.some.inj h
  exact PE.i (wk h0 [] (wR rfl wTn) wVn wLn)
  rintro ex tm' hp' ⟨rfl, hw⟩
  refine AW.weak hw ?_
  refine AW.ret ?_
  obtain rfl := Option.some.inj h
  exact RetV.mk1 (resD_t rfl (.inr (.inr ⟨_, (le_refl' _), rfl, rfl⟩)))
noncomputable def g_ref42_hold_l11 (p_l : List S_Held) (p_f : S_Frame) : (List S_Held) × Bool × Int → Option (((List S_Held) × Bool × Int) ⊕ ((List S_Held) ⊕ ((List S_Held) × Bool))) := fun (a11_0, a11_1, a11_2) => cnd (decide (a11_2 < ((p_l).length : Int))) (gd (0 ≤ a11_2 ∧ a11_2 < ((p_l).length : Int)) (cnd (decide (((p_l)[(a11_2).toNat]!.vSeq) = p_f.vSeq)) (some (.inr (.inl p_l))) (bnd (S := (List S_Held) × Bool) (bnd (S := Bool) (cnd (!a11_1) (gd (0 ≤ a11_2 ∧ a11_2 < ((p_l).length : Int)) (some (decide (p_f.vSeq < ((p_l)[(a11_2).toNat]!.vSeq))))) (some (false))) fun a30_0 => cnd a30_0 (gd ((a11_0 ++ [(⟨p_f.vSeq, p_f.vData⟩ : S_Held)]).length * 24 ≤ 140737488355328) (some ((a11_0 ++ [(⟨p_f.vSeq, p_f.vData⟩ : S_Held)], true)))) (some ((a11_0, a11_1)))) fun (a29_0, a29_1) => gd (0 ≤ a11_2 ∧ a11_2 < ((p_l).length : Int)) (gd ((a29_0 ++ [(p_l)[(a11_2).toNat]!]).length * 24 ≤ 140737488355328) (some (.inl (a29_0 ++ [(p_l)[(a11_2).toNat]!], a29_1, IntKind.i64.wrap (a11_2 + (1 : Int))))))))) (some (.inr (.inr (a11_0, a11_1))))
noncomputable def g_ref42_hold (p_l : List S_Held) (p_f : S_Frame) : Option (List S_Held) := bnd (loopO (g_ref42_hold_l11 p_l p_f) (([] : List S_Held), false, (0 : Int))) fun y15 => match y15 with | .inl r => some r | .inr (a11e0_0, a11e0_1) => bnd (S := (List S_Held)) (cnd (!a11e0_1) (gd ((a11e0_0 ++ [(⟨p_f.vSeq, p_f.vData⟩ : S_Held)]).length * 24 ≤ 140737488355328) (some (a11e0_0 ++ [(⟨p_f.vSeq, p_f.vData⟩ : S_Held)]))) (some (a11e0_0))) fun a39_0 => some a39_0
theorem w_ref42_hold {p_l : List S_Held} {p_f : S_Frame} {r : List S_Held} (h : g_ref42_hold p_l p_f = some r) : PCalls Try.prog 43 [dL c_Held p_l, dG c_Frame p_f] (dL c_Held r) := by
  refine PCalls.of (rs := [.tmp 4]) tok Try.func43 rfl rfl (Nat.le_of_ble_eq_true rfl) rfl (fun cx hx h0 => ?_)
  simp only [argsT, Nat.reduceAdd, Nat.zero_add]
  unfold g_ref42_hold at h
  refine AW.seq ?_
  refine rg hx (by kernel_rfl) fun K hK => ?_
  refine s1 (d := .pt 0 0) T_box ?_
  refine s1 (d := dO 1 c_Held ([] : List S_Held)) (T_asgN tb_23 tb_74) ?_
  refine .nil (hK _ _ ?_)
  refine AW.seq ?_
  refine rg hx (by kernel_rfl) fun K hK => ?_
  refine s1 (d := dO 2 c_Held ([] : List S_Held)) (T_asgN tb_23 tb_74) ?_
  refine .nil (hK _ _ ?_)
  refine AW.seq ?_
  refine rg hx (by kernel_rfl) fun K hK => ?_
  refine s1 (d := dB false) T_asg ?_
  refine .nil (hK _ _ ?_)
  iterate 2 refine AW.seq ?_
  refine rg hx (by kernel_rfl) fun K hK => ?_
  refine s1 (d := dI .i64 (0 : Int)) T_asg ?_
  refine .nil (hK _ _ ?_)
  refine AW.block ?_
  obtain ⟨y, hy, h⟩ := bnd_some h
  refine lp (S := (List S_Held) × Bool × Int) (X := (List S_Held) ⊕ ((List S_Held) × Bool)) (fun (a11_0, a11_1, a11_2) => [(0, dL c_Held p_l), (3, .pt 0 0), (5, dO 1 c_Held a11_0), (6, dB a11_1), (7, dI .i64 a11_2)]) (fun (a11_0, a11_1, a11_2) => ⟨[(0, [dI .i64 p_f.vSeq, dI .i64 p_f.vAck, dS p_f.vData])], [(1, (a11_0).length, 2, 74)], 2⟩) (PS (PR [.tmp 4] fun r => dL c_Held r) (PE cx (.exit 0) (fun (a11e0_0, a11e0_1) => [(3, .pt 0 0), (5, dO 1 c_Held a11e0_0), (6, dB a11e0_1)]) fun (a11e0_0, a11e0_1) => ⟨[(0, [dI .i64 p_f.vSeq, dI .i64 p_f.vAck, dS p_f.vData])], [(1, (a11e0_0).length, 2, 74)], 2⟩)) hy ?_ ?_ ?_
  exact wk h0 [0, 2] (wR rfl (wR rfl (wR rfl (wR rfl (wR rfl wTn))))) (vR rfl wVn) (wL rfl rfl wLn)
  clear hy h
  rintro ⟨a11_0, a11_1, a11_2⟩ y h
  dsimp only [g_ref42_hold_l11] at h
  iterate 2 refine AW.seq ?_
  refine rg hx (by kernel_rfl) fun K hK => ?_
  iterate 2 refine s1 T_mv ?_
  refine s1 (d := dI .i64 ((p_l).length : Int)) (T_len tb_23 tb_74) ?_
  refine s1 T_lss ?_
  refine .nil (hK _ _ ?_)
  refine AW.condS rfl (fun hb1 => ?_) (fun hb1 => ?_)
  replace h := cnd_t hb1 h
  refine AW.skip ?_
  refine AW.seq ?_
  refine AW.block ?_
  iterate 2 refine AW.seq ?_
  refine rd [] hx (by kernel_rfl) (by kernel_rfl) fun K hK => ?_
  iterate 2 refine s1 T_mv ?_
  obtain ⟨hc2, h⟩ := gd_some h
  have hn3 : (a11_2).toNat < (p_l).length := by omega
  refine s1 (T_iaS hc2 tb_23 tb_74) ?_
  refine s1 (T_faF tb_74 tb_3) ?_
  refine s1 (d := dI .i64 ((p_l)[(a11_2).toNat]!.vSeq)) (T_ldF (c := c_Held) (l := p_l) (n := (a11_2).toNat) (o := 0) tb_3 hn3) ?_
  refine s1 (T_faP tb_27 tb_3) ?_
  refine s1 (d := dI .i64 p_f.vSeq) (T_ldC tb_3) ?_
  refine s1 T_eql ?_
  refine .nil (hK _ _ ?_)
  refine AW.condS rfl (fun hb4 => ?_) (fun hb4 => ?_)
  replace h := cnd_t hb4 h
  refine AW.seq ?_
  refine rg hx (by kernel_rfl) fun K hK => ?_
  refine s1 T_mv ?_
  refine s1 T_as ?_
  refine .nil (hK _ _ ?_)
  refine AW.ret ?_
  obtain rfl := Option.some.inj h
  refine PS.r ⟨by nofun, PS.l (PR.i ?_)⟩
  exact RetV.mk1 (resD_t rfl (.inr (.inr ⟨_, (le_refl' _), rfl, rfl⟩)))
  replace h := cnd_f hb4 h
  refine AW.skip ?_
  refine AW.seq ?_
  obtain ⟨y, hy, h⟩ := bnd_some h
  refine jn ((PE cx .normal (fun (a29_0, a29_1) => [(0, dL c_Held p_l), (3, .pt 0 0), (5, dO 1 c_Held a29_0), (6, dB a29_1), (7, dI .i64 a11_2)]) fun (a29_0, a29_1) => ⟨[(0, [dI .i64 p_f.vSeq, dI .i64 p_f.vAck, dS p_f.vData])], [(1, (a29_0).length, 2, 74)], 2⟩) y) ?_ ?_
  replace h := hy
  refine AW.seq ?_
  obtain ⟨a30_0, hy, h⟩ := bnd_some h
  refine jn ((PE cx .normal (fun a30_0 => [(0, dL c_Held p_l), (3, .pt 0 0), (5, dO 1 c_Held a11_0), (6, dB a11_1), (7, dI .i64 a11_2), (34, dB a30_0)]) fun a30_0 => ⟨[(0, [dI .i64 p_f.vSeq, dI .i64 p_f.vAck, dS p_f.vData])], [(1, (a11_0).length, 2, 74)], 2⟩) a30_0) ?_ ?_
  replace h := hy
  refine rd [] hx (by kernel_rfl) (by kernel_rfl) fun K hK => ?_
  refine s1 T_mv ?_
  refine s1 T_not ?_
  refine s1 T_mv ?_
  rcases Bool.eq_false_or_eq_true (!a11_1) with hb5 | hb5
  replace h := cnd_t hb5 h
  iterate 2 refine g1 hb5 T_mv ?_
  obtain ⟨hc6, h⟩ := gd_some h
  have hn7 : (a11_2).toNat < (p_l).length := by omega
  refine g1 hb5 (T_iaS hc6 tb_23 tb_74) ?_
  refine g1 hb5 (T_faF tb_74 tb_3) ?_
  refine g1 (d := dI .i64 ((p_l)[(a11_2).toNat]!.vSeq)) hb5 (T_ldF (c := c_Held) (l := p_l) (n := (a11_2).toNat) (o := 0) tb_3 hn7) ?_
  refine g1 hb5 (T_faP tb_27 tb_3) ?_
  refine g1 (d := dI .i64 p_f.vSeq) hb5 (T_ldC tb_3) ?_
  refine g1 hb5 T_gtr ?_
  refine s1 (d := dB (decide (p_f.vSeq < ((p_l)[(a11_2).toNat]!.vSeq)))) (T_pickT hb5) ?_
  refine .nil (hK _ _ ?_)
  obtain rfl := Option.some.inj h
  exact PE.i (wk h0 [0, 1] (wR rfl (wR rfl (wR rfl (wR rfl (wR rfl (wR rfl wTn)))))) (vR rfl wVn) (wL rfl rfl wLn))
  replace h := cnd_f hb5 h
  iterate 8 refine no_t rfl rfl hb5 ?_
  refine s1 (d := dB false) (T_pickF hb5) ?_
  refine .nil (hK _ _ ?_)
  obtain rfl := Option.some.inj h
  exact PE.i (wk h0 [0, 1] (wR rfl (wR rfl (wR rfl (wR rfl (wR rfl (wR rfl wTn)))))) (vR rfl wVn) (wL rfl rfl wLn))
  rintro ex tm' hp' ⟨rfl, hw⟩
  refine AW.weak hw ?_
  refine AW.condS rfl (fun hb9 => ?_) (fun hb9 => ?_)
  replace h := cnd_t hb9 h
  refine AW.seq ?_
  refine rg hx (by kernel_rfl) fun K hK => ?_
  refine s1 T_mv ?_
  refine s1 (T_faP tb_27 tb_3) ?_
  refine s1 (d := dI .i64 p_f.vSeq) (T_ldC tb_3) ?_
  refine s1 (T_faP tb_27 tb_9) ?_
  refine s1 (d := dS p_f.vData) (T_ldC tb_9) ?_
  refine s1 (d := dG c_Held (⟨p_f.vSeq, p_f.vData⟩ : S_Held)) (T_build tb_74) ?_
  refine s1 (d := dO 2 c_Held [(⟨p_f.vSeq, p_f.vData⟩ : S_Held)]) (T_bsl tb_23 tb_74) ?_
  obtain ⟨hc10, h⟩ := gd_some h
  refine s1 (d := dO 1 c_Held (a11_0 ++ [(⟨p_f.vSeq, p_f.vData⟩ : S_Held)])) (T_appO tb_23 tb_74 hc10) ?_
  refine s1 T_as ?_
  refine .nil (hK _ _ ?_)
  refine rg hx (by kernel_rfl) fun K hK => ?_
  refine s1 (d := dB true) T_asg ?_
  refine .nil (hK _ _ ?_)
  obtain rfl := Option.some.inj h
  exact PE.i (wk h0 [0, 1] (wR rfl (wR rfl (wR rfl (wR rfl (wR rfl wTn))))) (vR rfl wVn) (wL rfl rfl wLn))
  replace h := cnd_f hb9 h
  refine AW.skip ?_
  obtain rfl := Option.some.inj h
  exact PE.i (wk h0 [0, 1] (wR rfl (wR rfl (wR rfl (wR rfl (wR rfl wTn))))) (vR rfl wVn) (wL rfl rfl wLn))
  obtain ⟨a29_0, a29_1⟩ := y
  rintro ex tm' hp' ⟨rfl, hw⟩
  refine AW.weak hw ?_
  refine rg hx (by kernel_rfl) fun K hK => ?_
  iterate 3 refine s1 T_mv ?_
  obtain ⟨hc12, h⟩ := gd_some h
  have hn13 : (a11_2).toNat < (p_l).length := by omega
  refine s1 (T_iaS hc12 tb_23 tb_74) ?_
  refine s1 (d := dG c_Held ((p_l)[(a11_2).toNat]!)) (T_ldG (c := c_Held) (l := p_l) (n := (a11_2).toNat) (o := 0) tb_74 hn13 (whole_G _ _ rfl)) ?_
  refine s1 (d := dO 2 c_Held [(p_l)[(a11_2).toNat]!]) (T_bsl tb_23 tb_74) ?_
  obtain ⟨hc14, h⟩ := gd_some h
  refine s1 (d := dO 1 c_Held (a29_0 ++ [(p_l)[(a11_2).toNat]!])) (T_appO tb_23 tb_74 hc14) ?_
  refine s1 T_as ?_
  refine .nil (hK _ _ ?_)
  refine rg hx (by kernel_rfl) fun K hK => ?_
  refine s1 T_mv ?_
  refine s1 T_add ?_
  refine s1 T_as ?_
  refine .nil (hK _ _ ?_)
  obtain rfl := Option.some.inj h
  exact PS.l (PE.i (wk h0 [0, 1] (wR rfl (wR rfl (wR rfl (wR rfl (wR rfl wTn))))) (vR rfl wVn) (wL rfl rfl wLn)))
  replace h := cnd_f hb1 h
  refine AW.exit ?_
  try dsimp only
  try simp only [if_true, reduceIte, Nat.reduceEqDiff, reduceCtorEq]
  obtain rfl := Option.some.inj h
  exact PS.r ⟨by nofun, PS.r (PE.i (wk h0 [0, 1] (wR rfl (wR rfl (wR rfl wTn))) (vR rfl wVn) (wL rfl rfl wLn)))⟩
  rcases y with r | ⟨a11e0_0, a11e0_1⟩
  rintro ex tm' hp' ⟨rfl, hw⟩
  obtain rfl := Option.some.inj h
  exact hw
  rintro ex tm' hp' ⟨rfl, hw⟩
  try dsimp only
  try simp only [if_true, reduceIte, Nat.reduceEqDiff, reduceCtorEq]
  refine AW.weak hw ?_
  refine AW.seq ?_
  obtain ⟨a39_0, hy, h⟩ := bnd_some h
  refine jn ((PE cx .normal (fun a39_0 => [(5, dO 0 c_Held a39_0)]) fun a39_0 => ⟨[], [(0, (a39_0).length, 2, 74)], 1⟩) a39_0) ?_ ?_
  replace h := hy
  refine AW.seq ?_
  refine rg hx (by kernel_rfl) fun K hK => ?_
  refine s1 T_mv ?_
  refine s1 T_not ?_
  refine .nil (hK _ _ ?_)
  refine AW.condS rfl (fun hb16 => ?_) (fun hb16 => ?_)
  replace h := cnd_t hb16 h
  refine rg hx (by kernel_rfl) fun K hK => ?_
  refine s1 T_mv ?_
  refine s1 (T_faP tb_27 tb_3) ?_
  refine s1 (d := dI .i64 p_f.vSeq) (T_ldC tb_3) ?_
  refine s1 (T_faP tb_27 tb_9) ?_
  refine s1 (d := dS p_f.vData) (T_ldC tb_9) ?_
  refine s1 (d := dG c_Held (⟨p_f.vSeq, p_f.vData⟩ : S_Held)) (T_build tb_74) ?_
  refine s1 (d := dO 2 c_Held [(⟨p_f.vSeq, p_f.vData⟩ : S_Held)]) (T_bsl tb_23 tb_74) ?_
  obtain ⟨hc17, h⟩ := gd_some h
  refine s1 (d := dO 1 c_Held (a11e0_0 ++ [(⟨p_f.vSeq, p_f.vData⟩ : S_Held)])) (T_appO tb_23 tb_74 hc17) ?_
  refine s1 T_as ?_
  refine .nil (hK _ _ ?_)
  obtain rfl := Option.some.inj h
  exact PE.i (wk h0 [1] (wR rfl wTn) wVn (wL rfl rfl wLn))
  replace h := cnd_f hb16 h
  refine AW.skip ?_
  obtain rfl := Option.some.inj h
  exact PE.i (wk h0 [1] (wR rfl wTn) wVn (wL rfl rfl wLn))
  rintro ex tm' hp' ⟨rfl, hw⟩
  refine AW.weak hw ?_
  refine AW.seq ?_
  refine rg hx (by kernel_rfl) fun K hK => ?_
  refine s1 T_mv ?_
  refine s1 T_as ?_
  refine .nil (hK _ _ ?_)
  refine AW.ret ?_
  obtain rfl := Option.some.inj h
  exact RetV.mk1 (resD_t rfl (.inr (.inr ⟨_, (le_ex _), rfl, rfl⟩)))
noncomputable def g_ref42_Receive_l38  : (List ByteArray) × S_End → Option (((List ByteArray) × S_End) ⊕ ((List ByteArray) × S_End)) := fun (a38_0, a38_1) => bnd (S := Bool) (cnd (decide ((0 : Int) < ((a38_1.vHeld).length : Int))) (gd (0 ≤ (0 : Int) ∧ (0 : Int) < ((a38_1.vHeld).length : Int)) (cnd (decide (((a38_1.vHeld)[((0 : Int)).toNat]!.vSeq) = a38_1.vWant)) (some (decide (a38_1.vWant < (1099511627776 : Int)))) (some (false)))) (some (false))) fun a41_0 => cnd a41_0 (gd (0 ≤ (0 : Int) ∧ (0 : Int) < ((a38_1.vHeld).length : Int)) (gd ((a38_0 ++ [(a38_1.vHeld)[((0 : Int)).toNat]!.vData]).length * 16 ≤ 140737488355328) (gd (0 ≤ (1 : Int) ∧ (1 : Int) ≤ ((a38_1.vHeld).length : Int) ∧ ((a38_1.vHeld).length : Int) ≤ ((a38_1.vHeld).length : Int)) (some (.inl (a38_0 ++ [(a38_1.vHeld)[((0 : Int)).toNat]!.vData], (⟨a38_1.vBase, a38_1.vQueue, IntKind.i64.wrap (a38_1.vWant + (1 : Int)), subL a38_1.vHeld (1 : Int) ((a38_1.vHeld).length : Int)⟩ : S_End))))))) (some (.inr (a38_0, a38_1)))
noncomputable def g_ref42_Receive (p_x : S_End) (p_f : S_Frame) : Option S_Got := bnd (g_ref42_Valid p_f) fun x1 => cnd (!x1) (some (⟨p_x, ([] : List ByteArray)⟩ : S_Got)) (bnd (S := Int × (List ByteArray)) (bnd (S := Bool) (cnd (decide (p_x.vBase < p_f.vAck)) (cnd (decide (p_f.vAck ≤ (IntKind.i64.wrap (p_x.vBase + ((p_x.vQueue).length : Int))))) (some (decide (p_f.vAck ≤ (1099511627776 : Int)))) (some (false))) (some (false))) fun a15_0 => cnd a15_0 (gd (0 ≤ IntKind.i64.wrap (p_f.vAck - p_x.vBase) ∧ IntKind.i64.wrap (p_f.vAck - p_x.vBase) ≤ ((p_x.vQueue).length : Int) ∧ ((p_x.vQueue).length : Int) ≤ ((p_x.vQueue).length : Int)) (gd ((([] : List ByteArray) ++ (subL p_x.vQueue (IntKind.i64.wrap (p_f.vAck - p_x.vBase)) ((p_x.vQueue).length : Int))).length * 16 ≤ 140737488355328) (some ((p_f.vAck, ([] : List ByteArray) ++ (subL p_x.vQueue (IntKind.i64.wrap (p_f.vAck - p_x.vBase)) ((p_x.vQueue).length : Int))))))) (some ((p_x.vBase, p_x.vQueue)))) fun (a14_0, a14_1) => bnd (S := S_End) (bnd (S := Bool) (cnd (decide (p_x.vWant < p_f.vSeq)) (cnd (decide (p_f.vSeq < (IntKind.i64.wrap (p_x.vWant + (8 : Int))))) (some (decide (p_f.vSeq < (1099511627776 : Int)))) (some (false))) (some (false))) fun a23_0 => cnd a23_0 (bnd (g_ref42_hold p_x.vHeld p_f) fun x15 => some ((⟨a14_0, a14_1, p_x.vWant, x15⟩ : S_End))) (some ((⟨a14_0, a14_1, p_x.vWant, p_x.vHeld⟩ : S_End)))) fun a22_0 => bnd (S := (List ByteArray) × S_End) (bnd (S := Bool) (cnd (decide (p_f.vSeq = a22_0.vWant)) (some (decide (a22_0.vWant < (1099511627776 : Int)))) (some (false))) fun a31_0 => cnd a31_0 (gd ((([] : List ByteArray) ++ [p_f.vData]).length * 16 ≤ 140737488355328) (bnd (loopO (g_ref42_Receive_l38) (([] : List ByteArray) ++ [p_f.vData], (⟨a22_0.vBase, a22_0.vQueue, IntKind.i64.wrap (a22_0.vWant + (1 : Int)), a22_0.vHeld⟩ : S_End))) fun (a38e0_0, a38e0_1) => some ((a38e0_0, a38e0_1)))) (some ((([] : List ByteArray), a22_0)))) fun (a30_0, a30_1) => some (⟨a30_1, a30_0⟩ : S_Got))
theorem w_ref42_Receive {p_x : S_End} {p_f : S_Frame} {r : S_Got} (h : g_ref42_Receive p_x p_f = some r) : PCalls Try.prog 15 [dG c_End p_x, dG c_Frame p_f] (dG c_Got r) := by
  refine PCalls.of (rs := [.cell 4 40]) tok Try.func15 rfl rfl (Nat.le_of_ble_eq_true rfl) rfl (fun cx hx h0 => ?_)
  simp only [argsT, Nat.reduceAdd, Nat.zero_add]
  unfold g_ref42_Receive at h
  refine AW.seq ?_
  refine rg hx (by kernel_rfl) fun K hK => ?_
  refine s1 (d := .pt 0 0) T_box ?_
  refine s1 (d := .pt 1 0) T_box ?_
  refine s1 (d := .pt 2 0) (T_alloc tb_40) ?_
  refine .nil (hK _ _ ?_)
  refine AW.seq ?_
  refine rg hx (by kernel_rfl) fun K hK => ?_
  refine s1 (d := dG c_Frame p_f) (T_ldA tb_27) ?_
  obtain ⟨x1, hx2, h⟩ := bnd_some h
  refine s1 (d := dB x1) (T_call rfl (w_ref42_Valid hx2) (by simp only [List.map_cons, List.map_nil, List.all_cons, List.all_nil, Bool.and_true, Bool.and_eq_true]; exact pure_ex_G _ _) (lA (le_refl' _) lAn) (.inl rfl)) ?_
  refine s1 T_as ?_
  refine .nil (hK _ _ ?_)
  iterate 2 refine AW.seq ?_
  refine rg hx (by kernel_rfl) fun K hK => ?_
  refine s1 T_mv ?_
  refine s1 T_not ?_
  refine .nil (hK _ _ ?_)
  refine AW.condS rfl (fun hb3 => ?_) (fun hb3 => ?_)
  replace h := cnd_t hb3 h
  refine AW.seq ?_
  refine rg hx (by kernel_rfl) fun K hK => ?_
  refine s1 (d := dG c_End p_x) (T_ldA tb_25) ?_
  refine s1 (d := .ag [dI .i64 p_x.vBase, dL cS p_x.vQueue, dI .i64 p_x.vWant, dL c_Held p_x.vHeld, dN]) (T_build tb_40) ?_
  refine s0 (T_st (ds' := [dI .i64 p_x.vBase, dL cS p_x.vQueue, dI .i64 p_x.vWant, dL c_Held p_x.vHeld, dN]) tb_40) ?_
  refine .nil (hK _ _ ?_)
  refine AW.ret ?_
  obtain rfl := Option.some.inj h
  exact RetV.mk1 (resD_a (es := [dI .i64 p_x.vBase, dL cS p_x.vQueue, dI .i64 p_x.vWant, dL c_Held p_x.vHeld, dN]) rfl tb_40 rfl rfl (ltb rfl) (leb rfl) rfl (.inr (.inr ⟨_, (le_ag (wc (lc_r _) (wc (lc_r _) (wc (lc_r _) (wc (lc_r _) (wc (lc_n rfl) wcn)))))), rfl, rfl⟩)))
  replace h := cnd_f hb3 h
  refine AW.skip ?_
  refine AW.seq ?_
  obtain ⟨y, hy, h⟩ := bnd_some h
  refine jn ((PE cx .normal (fun (a14_0, a14_1) => [(2, .pt 0 0), (3, .pt 1 0), (4, .pt 2 0)]) fun (a14_0, a14_1) => ⟨[(0, [dI .i64 a14_0, dL cS a14_1, dI .i64 p_x.vWant, dL c_Held p_x.vHeld]), (1, [dI .i64 p_f.vSeq, dI .i64 p_f.vAck, dS p_f.vData]), (2, [dI .i64 (0 : Int), dN, dI .i64 (0 : Int), dN, dN])], [], 3⟩) y) ?_ ?_
  replace h := hy
  refine AW.seq ?_
  obtain ⟨a15_0, hy, h⟩ := bnd_some h
  refine jn ((PE cx .normal (fun a15_0 => [(2, .pt 0 0), (3, .pt 1 0), (4, .pt 2 0), (33, dB a15_0)]) fun a15_0 => ⟨[(0, [dI .i64 p_x.vBase, dL cS p_x.vQueue, dI .i64 p_x.vWant, dL c_Held p_x.vHeld]), (1, [dI .i64 p_f.vSeq, dI .i64 p_f.vAck, dS p_f.vData]), (2, [dI .i64 (0 : Int), dN, dI .i64 (0 : Int), dN, dN])], [], 3⟩) a15_0) ?_ ?_
  replace h := hy
  refine rg hx (by kernel_rfl) fun K hK => ?_
  refine s1 (T_faP tb_27 tb_3) ?_
  refine s1 (d := dI .i64 p_f.vAck) (T_ldC tb_3) ?_
  refine s1 (T_faP tb_25 tb_3) ?_
  refine s1 (d := dI .i64 p_x.vBase) (T_ldC tb_3) ?_
  refine s1 T_gtr ?_
  refine s1 T_mv ?_
  rcases Bool.eq_false_or_eq_true (decide (p_x.vBase < p_f.vAck)) with hb4 | hb4
  replace h := cnd_t hb4 h
  refine g1 hb4 (T_faP tb_27 tb_3) ?_
  refine g1 (d := dI .i64 p_f.vAck) hb4 (T_ldC tb_3) ?_
  refine g1 hb4 (T_faP tb_25 tb_3) ?_
  refine g1 (d := dI .i64 p_x.vBase) hb4 (T_ldC tb_3) ?_
  refine g1 hb4 (T_faP tb_25 tb_22) ?_
  refine g1 (d := dL cS p_x.vQueue) hb4 (T_ldC tb_22) ?_
  refine g1 (d := dI .i64 ((p_x.vQueue).length : Int)) hb4 (T_len tb_22 tb_9) ?_
  refine g1 hb4 T_add ?_
  refine g1 hb4 T_leq ?_
  refine s1 (d := dB (decide (p_f.vAck ≤ (IntKind.i64.wrap (p_x.vBase + ((p_x.vQueue).length : Int)))))) (T_pickT hb4) ?_
  refine s1 T_mv ?_
  rcases Bool.eq_false_or_eq_true (decide (p_f.vAck ≤ (IntKind.i64.wrap (p_x.vBase + ((p_x.vQueue).length : Int))))) with hb5 | hb5
  replace h := cnd_t hb5 h
  refine g1 hb5 (T_faP tb_27 tb_3) ?_
  refine g1 (d := dI .i64 p_f.vAck) hb5 (T_ldC tb_3) ?_
  refine g1 hb5 T_leq ?_
  refine s1 (d := dB (decide (p_f.vAck ≤ (1099511627776 : Int)))) (T_pickT hb5) ?_
  refine .nil (hK _ _ ?_)
  obtain rfl := Option.some.inj h
  exact PE.i (wk h0 [0, 1, 2] (wR rfl (wR rfl (wR rfl (wR rfl wTn)))) (vR rfl (vR rfl (vR rfl wVn))) wLn)
  replace h := cnd_f hb5 h
  iterate 3 refine no_t rfl rfl hb5 ?_
  refine s1 (d := dB false) (T_pickF hb5) ?_
  refine .nil (hK _ _ ?_)
  obtain rfl := Option.some.inj h
  exact PE.i (wk h0 [0, 1, 2] (wR rfl (wR rfl (wR rfl (wR rfl wTn)))) (vR rfl (vR rfl (vR rfl wVn))) wLn)
  replace h := cnd_f hb4 h
  iterate 9 refine no_t rfl rfl hb4 ?_
  refine s1 (d := dB false) (T_pickF hb4) ?_
  refine s1 T_mv ?_
  iterate 3 refine no_t rfl rfl rfl ?_
  refine s1 (d := dB false) (T_pickF rfl) ?_
  refine .nil (hK _ _ ?_)
  obtain rfl := Option.some.inj h
  exact PE.i (wk h0 [0, 1, 2] (wR rfl (wR rfl (wR rfl (wR rfl wTn)))) (vR rfl (vR rfl (vR rfl wVn))) wLn)
  rintro ex tm' hp' ⟨rfl, hw⟩
  refine AW.weak hw ?_
  refine AW.condS rfl (fun hb7 => ?_) (fun hb7 => ?_)
  replace h := cnd_t hb7 h
  refine AW.seq ?_
  refine rg hx (by kernel_rfl) fun K hK => ?_
  refine s1 (d := dO 3 cS ([] : List ByteArray)) (T_bsl0 tb_22 tb_9) ?_
  refine s1 (T_faP tb_25 tb_22) ?_
  refine s1 (d := dL cS p_x.vQueue) (T_ldC tb_22) ?_
  refine s1 (T_faP tb_27 tb_3) ?_
  refine s1 (d := dI .i64 p_f.vAck) (T_ldC tb_3) ?_
  refine s1 (T_faP tb_25 tb_3) ?_
  refine s1 (d := dI .i64 p_x.vBase) (T_ldC tb_3) ?_
  refine s1 T_sub ?_
  obtain ⟨hc8, h⟩ := gd_some h
  refine s1 (T_sl (c := cS) (l := p_x.vQueue) (a := IntKind.i64.wrap (p_f.vAck - p_x.vBase)) (b := ((p_x.vQueue).length : Int)) hc8 tb_22 tb_9) ?_
  obtain ⟨hc9, h⟩ := gd_some h
  refine s1 (d := dO 3 cS (([] : List ByteArray) ++ (subL p_x.vQueue (IntKind.i64.wrap (p_f.vAck - p_x.vBase)) ((p_x.vQueue).length : Int)))) (T_appO tb_22 tb_9 hc9) ?_
  refine s1 (T_faP tb_25 tb_22) ?_
  refine s0 (T_st (ds' := [dI .i64 p_x.vBase, dO 3 cS (([] : List ByteArray) ++ (subL p_x.vQueue (IntKind.i64.wrap (p_f.vAck - p_x.vBase)) ((p_x.vQueue).length : Int))), dI .i64 p_x.vWant, dL c_Held p_x.vHeld]) tb_22) ?_
  refine .nil (hK _ _ ?_)
  refine rg hx (by kernel_rfl) fun K hK => ?_
  refine s1 (T_faP tb_27 tb_3) ?_
  refine s1 (d := dI .i64 p_f.vAck) (T_ldC tb_3) ?_
  refine s1 (T_faP tb_25 tb_3) ?_
  refine s0 (T_st (ds' := [dI .i64 p_f.vAck, dO 3 cS (([] : List ByteArray) ++ (subL p_x.vQueue (IntKind.i64.wrap (p_f.vAck - p_x.vBase)) ((p_x.vQueue).length : Int))), dI .i64 p_x.vWant, dL c_Held p_x.vHeld]) tb_3) ?_
  refine .nil (hK _ _ ?_)
  obtain rfl := Option.some.inj h
  exact PE.i (wk h0 [0, 1, 2] (wR rfl (wR rfl (wR rfl wTn))) (wV rfl rfl (wc (lc_r _) (wc (lc_x _) (wc (lc_r _) (wc (lc_r _) wcn)))) rfl rfl (vR rfl (vR rfl wVn))) wLn)
  replace h := cnd_f hb7 h
  refine AW.skip ?_
  obtain rfl := Option.some.inj h
  exact PE.i (wk h0 [0, 1, 2] (wR rfl (wR rfl (wR rfl wTn))) (vR rfl (vR rfl (vR rfl wVn))) wLn)
  obtain ⟨a14_0, a14_1⟩ := y
  rintro ex tm' hp' ⟨rfl, hw⟩
  refine AW.weak hw ?_
  refine AW.seq ?_
  obtain ⟨a22_0, hy, h⟩ := bnd_some h
  refine jn ((PE cx .normal (fun a22_0 => [(2, .pt 0 0), (3, .pt 1 0), (4, .pt 2 0)]) fun a22_0 => ⟨[(0, [dI .i64 a22_0.vBase, dL cS a22_0.vQueue, dI .i64 a22_0.vWant, dL c_Held a22_0.vHeld]), (1, [dI .i64 p_f.vSeq, dI .i64 p_f.vAck, dS p_f.vData]), (2, [dI .i64 (0 : Int), dN, dI .i64 (0 : Int), dN, dN])], [], 3⟩) a22_0) ?_ ?_
  replace h := hy
  refine AW.seq ?_
  obtain ⟨a23_0, hy, h⟩ := bnd_some h
  refine jn ((PE cx .normal (fun a23_0 => [(2, .pt 0 0), (3, .pt 1 0), (4, .pt 2 0), (65, dB a23_0)]) fun a23_0 => ⟨[(0, [dI .i64 a14_0, dL cS a14_1, dI .i64 p_x.vWant, dL c_Held p_x.vHeld]), (1, [dI .i64 p_f.vSeq, dI .i64 p_f.vAck, dS p_f.vData]), (2, [dI .i64 (0 : Int), dN, dI .i64 (0 : Int), dN, dN])], [], 3⟩) a23_0) ?_ ?_
  replace h := hy
  refine rg hx (by kernel_rfl) fun K hK => ?_
  refine s1 (T_faP tb_27 tb_3) ?_
  refine s1 (d := dI .i64 p_f.vSeq) (T_ldC tb_3) ?_
  refine s1 (T_faP tb_25 tb_3) ?_
  refine s1 (d := dI .i64 p_x.vWant) (T_ldC tb_3) ?_
  refine s1 T_gtr ?_
  refine s1 T_mv ?_
  rcases Bool.eq_false_or_eq_true (decide (p_x.vWant < p_f.vSeq)) with hb11 | hb11
  replace h := cnd_t hb11 h
  refine g1 hb11 (T_faP tb_27 tb_3) ?_
  refine g1 (d := dI .i64 p_f.vSeq) hb11 (T_ldC tb_3) ?_
  refine g1 hb11 (T_faP tb_25 tb_3) ?_
  refine g1 (d := dI .i64 p_x.vWant) hb11 (T_ldC tb_3) ?_
  refine g1 hb11 T_add ?_
  refine g1 hb11 T_lss ?_
  refine s1 (d := dB (decide (p_f.vSeq < (IntKind.i64.wrap (p_x.vWant + (8 : Int)))))) (T_pickT hb11) ?_
  refine s1 T_mv ?_
  rcases Bool.eq_false_or_eq_true (decide (p_f.vSeq < (IntKind.i64.wrap (p_x.vWant + (8 : Int))))) with hb12 | hb12
  replace h := cnd_t hb12 h
  refine g1 hb12 (T_faP tb_27 tb_3) ?_
  refine g1 (d := dI .i64 p_f.vSeq) hb12 (T_ldC tb_3) ?_
  refine g1 hb12 T_lss ?_
  refine s1 (d := dB (decide (p_f.vSeq < (1099511627776 : Int)))) (T_pickT hb12) ?_
  refine .nil (hK _ _ ?_)
  obtain rfl := Option.some.inj h
  exact PE.i (wk h0 [0, 1, 2] (wR rfl (wR rfl (wR rfl (wR rfl wTn)))) (vR rfl (vR rfl (vR rfl wVn))) wLn)
  replace h := cnd_f hb12 h
  iterate 3 refine no_t rfl rfl hb12 ?_
  refine s1 (d := dB false) (T_pickF hb12) ?_
  refine .nil (hK _ _ ?_)
  obtain rfl := Option.some.inj h
  exact PE.i (wk h0 [0, 1, 2] (wR rfl (wR rfl (wR rfl (wR rfl wTn)))) (vR rfl (vR rfl (vR rfl wVn))) wLn)
  replace h := cnd_f hb11 h
  iterate 6 refine no_t rfl rfl hb11 ?_
  refine s1 (d := dB false) (T_pickF hb11) ?_
  refine s1 T_mv ?_
  iterate 3 refine no_t rfl rfl rfl ?_
  refine s1 (d := dB false) (T_pickF rfl) ?_
  refine .nil (hK _ _ ?_)
  obtain rfl := Option.some.inj h
  exact PE.i (wk h0 [0, 1, 2] (wR rfl (wR rfl (wR rfl (wR rfl wTn)))) (vR rfl (vR rfl (vR rfl wVn))) wLn)
  rintro ex tm' hp' ⟨rfl, hw⟩
  refine AW.weak hw ?_
  refine AW.condS rfl (fun hb14 => ?_) (fun hb14 => ?_)
  replace h := cnd_t hb14 h
  refine rg hx (by kernel_rfl) fun K hK => ?_
  refine s1 (T_faP tb_25 tb_23) ?_
  refine s1 (d := dL c_Held p_x.vHeld) (T_ldC tb_23) ?_
  refine s1 (d := dG c_Frame p_f) (T_ldA tb_27) ?_
  obtain ⟨x15, hx16, h⟩ := bnd_some h
  refine s1 (d := dL c_Held x15) (T_call rfl (w_ref42_hold hx16) (by simp only [List.map_cons, List.map_nil, List.all_cons, List.all_nil, Bool.and_true, Bool.and_eq_true]; exact ⟨rfl, pure_ex_G _ _⟩) (lA (le_refl' _) (lA (le_refl' _) lAn)) (.inl rfl)) ?_
  refine s1 (T_faP tb_25 tb_23) ?_
  refine s0 (T_st (ds' := [dI .i64 a14_0, dL cS a14_1, dI .i64 p_x.vWant, dL c_Held x15]) tb_23) ?_
  refine .nil (hK _ _ ?_)
  obtain rfl := Option.some.inj h
  exact PE.i (wk h0 [0, 1, 2] (wR rfl (wR rfl (wR rfl wTn))) (vR rfl (vR rfl (vR rfl wVn))) wLn)
  replace h := cnd_f hb14 h
  refine AW.skip ?_
  obtain rfl := Option.some.inj h
  exact PE.i (wk h0 [0, 1, 2] (wR rfl (wR rfl (wR rfl wTn))) (vR rfl (vR rfl (vR rfl wVn))) wLn)
  rintro ex tm' hp' ⟨rfl, hw⟩
  refine AW.weak hw ?_
  refine AW.seq ?_
  refine rg hx (by kernel_rfl) fun K hK => ?_
  refine s1 (d := dO 3 cS ([] : List ByteArray)) (T_asgN tb_22 tb_9) ?_
  refine .nil (hK _ _ ?_)
  refine AW.seq ?_
  obtain ⟨y, hy, h⟩ := bnd_some h
  refine jn ((PE cx .normal (fun (a30_0, a30_1) => [(2, .pt 0 0), (4, .pt 1 0), (6, dO 2 cS a30_0)]) fun (a30_0, a30_1) => ⟨[(0, [dI .i64 a30_1.vBase, dL cS a30_1.vQueue, dI .i64 a30_1.vWant, dL c_Held a30_1.vHeld]), (1, [dI .i64 (0 : Int), dN, dI .i64 (0 : Int), dN, dN])], [(2, (a30_0).length, 1, 9)], 3⟩) y) ?_ ?_
  replace h := hy
  refine AW.seq ?_
  obtain ⟨a31_0, hy, h⟩ := bnd_some h
  refine jn ((PE cx .normal (fun a31_0 => [(2, .pt 0 0), (3, .pt 1 0), (4, .pt 2 0), (6, dO 3 cS ([] : List ByteArray)), (80, dB a31_0)]) fun a31_0 => ⟨[(0, [dI .i64 a22_0.vBase, dL cS a22_0.vQueue, dI .i64 a22_0.vWant, dL c_Held a22_0.vHeld]), (1, [dI .i64 p_f.vSeq, dI .i64 p_f.vAck, dS p_f.vData]), (2, [dI .i64 (0 : Int), dN, dI .i64 (0 : Int), dN, dN])], [(3, (([] : List ByteArray)).length, 1, 9)], 4⟩) a31_0) ?_ ?_
  replace h := hy
  refine rg hx (by kernel_rfl) fun K hK => ?_
  refine s1 (T_faP tb_27 tb_3) ?_
  refine s1 (d := dI .i64 p_f.vSeq) (T_ldC tb_3) ?_
  refine s1 (T_faP tb_25 tb_3) ?_
  refine s1 (d := dI .i64 a22_0.vWant) (T_ldC tb_3) ?_
  refine s1 T_eql ?_
  refine s1 T_mv ?_
  rcases Bool.eq_false_or_eq_true (decide (p_f.vSeq = a22_0.vWant)) with hb18 | hb18
  replace h := cnd_t hb18 h
  refine g1 hb18 (T_faP tb_25 tb_3) ?_
  refine g1 (d := dI .i64 a22_0.vWant) hb18 (T_ldC tb_3) ?_
  refine g1 hb18 T_lss ?_
  refine s1 (d := dB (decide (a22_0.vWant < (1099511627776 : Int)))) (T_pickT hb18) ?_
  refine .nil (hK _ _ ?_)
  obtain rfl := Option.some.inj h
  exact PE.i (wk h0 [0, 1, 2, 3] (wR rfl (wR rfl (wR rfl (wR rfl (wR rfl wTn))))) (vR rfl (vR rfl (vR rfl wVn))) (wL rfl rfl wLn))
  replace h := cnd_f hb18 h
  iterate 3 refine no_t rfl rfl hb18 ?_
  refine s1 (d := dB false) (T_pickF hb18) ?_
  refine .nil (hK _ _ ?_)
  obtain rfl := Option.some.inj h
  exact PE.i (wk h0 [0, 1, 2, 3] (wR rfl (wR rfl (wR rfl (wR rfl (wR rfl wTn))))) (vR rfl (vR rfl (vR rfl wVn))) (wL rfl rfl wLn))
  rintro ex tm' hp' ⟨rfl, hw⟩
  refine AW.weak hw ?_
  refine AW.condS rfl (fun hb20 => ?_) (fun hb20 => ?_)
  replace h := cnd_t hb20 h
  refine AW.seq ?_
  refine rg hx (by kernel_rfl) fun K hK => ?_
  refine s1 T_mv ?_
  refine s1 (T_faP tb_27 tb_9) ?_
  refine s1 (d := dS p_f.vData) (T_ldC tb_9) ?_
  refine s1 (d := dO 4 cS [p_f.vData]) (T_bsl tb_22 tb_9) ?_
  obtain ⟨hc21, h⟩ := gd_some h
  refine s1 (d := dO 3 cS (([] : List ByteArray) ++ [p_f.vData])) (T_appO tb_22 tb_9 hc21) ?_
  refine s1 T_as ?_
  refine .nil (hK _ _ ?_)
  refine AW.seq ?_
  refine rg hx (by kernel_rfl) fun K hK => ?_
  refine s1 (T_faP tb_25 tb_3) ?_
  refine s1 (d := dI .i64 a22_0.vWant) (T_ldC tb_3) ?_
  refine s1 T_add ?_
  refine s1 (T_faP tb_25 tb_3) ?_
  refine s0 (T_st (ds' := [dI .i64 a22_0.vBase, dL cS a22_0.vQueue, dI .i64 (IntKind.i64.wrap (a22_0.vWant + (1 : Int))), dL c_Held a22_0.vHeld]) tb_3) ?_
  refine .nil (hK _ _ ?_)
  refine AW.block ?_
  obtain ⟨y, hy, h⟩ := bnd_some h
  refine lp (S := (List ByteArray) × S_End) (X := (List ByteArray) × S_End) (fun (a38_0, a38_1) => [(2, .pt 0 0), (4, .pt 1 0), (6, dO 2 cS a38_0)]) (fun (a38_0, a38_1) => ⟨[(0, [dI .i64 a38_1.vBase, dL cS a38_1.vQueue, dI .i64 a38_1.vWant, dL c_Held a38_1.vHeld]), (1, [dI .i64 (0 : Int), dN, dI .i64 (0 : Int), dN, dN])], [(2, (a38_0).length, 1, 9)], 3⟩) (PE cx (.exit 0) (fun (a38e0_0, a38e0_1) => [(2, .pt 0 0), (4, .pt 1 0), (6, dO 2 cS a38e0_0)]) fun (a38e0_0, a38e0_1) => ⟨[(0, [dI .i64 a38e0_1.vBase, dL cS a38e0_1.vQueue, dI .i64 a38e0_1.vWant, dL c_Held a38e0_1.vHeld]), (1, [dI .i64 (0 : Int), dN, dI .i64 (0 : Int), dN, dN])], [(2, (a38e0_0).length, 1, 9)], 3⟩) hy ?_ ?_ ?_
  exact wk h0 [0, 2, 3] (wR rfl (wR rfl (wR rfl wTn))) (vR rfl (vR rfl wVn)) (wL rfl rfl wLn)
  clear hy h
  rintro ⟨a38_0, a38_1⟩ y h
  dsimp only [g_ref42_Receive_l38] at h
  iterate 2 refine AW.seq ?_
  obtain ⟨a41_0, hy, h⟩ := bnd_some h
  refine jn ((PE cx .normal (fun a41_0 => [(2, .pt 0 0), (4, .pt 1 0), (6, dO 2 cS a38_0), (108, dB a41_0)]) fun a41_0 => ⟨[(0, [dI .i64 a38_1.vBase, dL cS a38_1.vQueue, dI .i64 a38_1.vWant, dL c_Held a38_1.vHeld]), (1, [dI .i64 (0 : Int), dN, dI .i64 (0 : Int), dN, dN])], [(2, (a38_0).length, 1, 9)], 3⟩) a41_0) ?_ ?_
  replace h := hy
  refine rd [] hx (by kernel_rfl) (by kernel_rfl) fun K hK => ?_
  refine s1 (T_faP tb_25 tb_23) ?_
  refine s1 (d := dL c_Held a38_1.vHeld) (T_ldC tb_23) ?_
  refine s1 (d := dI .i64 ((a38_1.vHeld).length : Int)) (T_len tb_23 tb_74) ?_
  refine s1 T_gtr ?_
  refine s1 T_mv ?_
  rcases Bool.eq_false_or_eq_true (decide ((0 : Int) < ((a38_1.vHeld).length : Int))) with hb22 | hb22
  replace h := cnd_t hb22 h
  refine g1 hb22 (T_faP tb_25 tb_23) ?_
  refine g1 (d := dL c_Held a38_1.vHeld) hb22 (T_ldC tb_23) ?_
  obtain ⟨hc23, h⟩ := gd_some h
  have hn24 : ((0 : Int)).toNat < (a38_1.vHeld).length := by omega
  refine g1 hb22 (T_iaS hc23 tb_23 tb_74) ?_
  refine g1 hb22 (T_faF tb_74 tb_3) ?_
  refine g1 (d := dI .i64 ((a38_1.vHeld)[((0 : Int)).toNat]!.vSeq)) hb22 (T_ldF (c := c_Held) (l := a38_1.vHeld) (n := ((0 : Int)).toNat) (o := 0) tb_3 hn24) ?_
  refine g1 hb22 (T_faP tb_25 tb_3) ?_
  refine g1 (d := dI .i64 a38_1.vWant) hb22 (T_ldC tb_3) ?_
  refine g1 hb22 T_eql ?_
  refine s1 (d := dB (decide (((a38_1.vHeld)[((0 : Int)).toNat]!.vSeq) = a38_1.vWant))) (T_pickT hb22) ?_
  refine s1 T_mv ?_
  rcases Bool.eq_false_or_eq_true (decide (((a38_1.vHeld)[((0 : Int)).toNat]!.vSeq) = a38_1.vWant)) with hb25 | hb25
  replace h := cnd_t hb25 h
  refine g1 hb25 (T_faP tb_25 tb_3) ?_
  refine g1 (d := dI .i64 a38_1.vWant) hb25 (T_ldC tb_3) ?_
  refine g1 hb25 T_lss ?_
  refine s1 (d := dB (decide (a38_1.vWant < (1099511627776 : Int)))) (T_pickT hb25) ?_
  refine .nil (hK _ _ ?_)
  obtain rfl := Option.some.inj h
  exact PE.i (wk h0 [0, 1, 2] (wR rfl (wR rfl (wR rfl (wR rfl wTn)))) (vR rfl (vR rfl wVn)) (wL rfl rfl wLn))
  replace h := cnd_f hb25 h
  iterate 3 refine no_t rfl rfl hb25 ?_
  refine s1 (d := dB false) (T_pickF hb25) ?_
  refine .nil (hK _ _ ?_)
  obtain rfl := Option.some.inj h
  exact PE.i (wk h0 [0, 1, 2] (wR rfl (wR rfl (wR rfl (wR rfl wTn)))) (vR rfl (vR rfl wVn)) (wL rfl rfl wLn))
  replace h := cnd_f hb22 h
  iterate 8 refine no_t rfl rfl hb22 ?_
  refine s1 (d := dB false) (T_pickF hb22) ?_
  refine s1 T_mv ?_
  iterate 3 refine no_t rfl rfl rfl ?_
  refine s1 (d := dB false) (T_pickF rfl) ?_
  refine .nil (hK _ _ ?_)
  obtain rfl := Option.some.inj h
  exact PE.i (wk h0 [0, 1, 2] (wR rfl (wR rfl (wR rfl (wR rfl wTn)))) (vR rfl (vR rfl wVn)) (wL rfl rfl wLn))
  rintro ex tm' hp' ⟨rfl, hw⟩
  refine AW.weak hw ?_
  refine AW.condS rfl (fun hb27 => ?_) (fun hb27 => ?_)
  replace h := cnd_t hb27 h
  refine AW.skip ?_
  refine AW.block ?_
  refine AW.seq ?_
  refine rg hx (by kernel_rfl) fun K hK => ?_
  refine s1 T_mv ?_
  refine s1 (T_faP tb_25 tb_23) ?_
  refine s1 (d := dL c_Held a38_1.vHeld) (T_ldC tb_23) ?_
  obtain ⟨hc28, h⟩ := gd_some h
  have hn29 : ((0 : Int)).toNat < (a38_1.vHeld).length := by omega
  refine s1 (T_iaS hc28 tb_23 tb_74) ?_
  refine s1 (T_faF tb_74 tb_9) ?_
  refine s1 (d := dS ((a38_1.vHeld)[((0 : Int)).toNat]!.vData)) (T_ldF (c := c_Held) (l := a38_1.vHeld) (n := ((0 : Int)).toNat) (o := 1) tb_9 hn29) ?_
  refine s1 (d := dO 3 cS [(a38_1.vHeld)[((0 : Int)).toNat]!.vData]) (T_bsl tb_22 tb_9) ?_
  obtain ⟨hc30, h⟩ := gd_some h
  refine s1 (d := dO 2 cS (a38_0 ++ [(a38_1.vHeld)[((0 : Int)).toNat]!.vData])) (T_appO tb_22 tb_9 hc30) ?_
  refine s1 T_as ?_
  refine .nil (hK _ _ ?_)
  refine AW.seq ?_
  refine rg hx (by kernel_rfl) fun K hK => ?_
  refine s1 (T_faP tb_25 tb_23) ?_
  refine s1 (d := dL c_Held a38_1.vHeld) (T_ldC tb_23) ?_
  obtain ⟨hc31, h⟩ := gd_some h
  refine s1 (T_sl (c := c_Held) (l := a38_1.vHeld) (a := (1 : Int)) (b := ((a38_1.vHeld).length : Int)) hc31 tb_23 tb_74) ?_
  refine s1 (T_faP tb_25 tb_23) ?_
  refine s0 (T_st (ds' := [dI .i64 a38_1.vBase, dL cS a38_1.vQueue, dI .i64 a38_1.vWant, dL c_Held (subL a38_1.vHeld (1 : Int) ((a38_1.vHeld).length : Int))]) tb_23) ?_
  refine .nil (hK _ _ ?_)
  refine rg hx (by kernel_rfl) fun K hK => ?_
  refine s1 (T_faP tb_25 tb_3) ?_
  refine s1 (d := dI .i64 a38_1.vWant) (T_ldC tb_3) ?_
  refine s1 T_add ?_
  refine s1 (T_faP tb_25 tb_3) ?_
  refine s0 (T_st (ds' := [dI .i64 a38_1.vBase, dL cS a38_1.vQueue, dI .i64 (IntKind.i64.wrap (a38_1.vWant + (1 : Int))), dL c_Held (subL a38_1.vHeld (1 : Int) ((a38_1.vHeld).length : Int))]) tb_3) ?_
  refine .nil (hK _ _ ?_)
  obtain rfl := Option.some.inj h
  exact PS.l (PE.i (wk h0 [0, 1, 2] (wR rfl (wR rfl (wR rfl wTn))) (vR rfl (vR rfl wVn)) (wL rfl rfl wLn)))
  replace h := cnd_f hb27 h
  refine AW.exit ?_
  try dsimp only
  try simp only [if_true, reduceIte, Nat.reduceEqDiff, reduceCtorEq]
  obtain rfl := Option.some.inj h
  exact PS.r ⟨by nofun, PE.i (wk h0 [0, 1, 2] (wR rfl (wR rfl (wR rfl wTn))) (vR rfl (vR rfl wVn)) (wL rfl rfl wLn))⟩
  obtain ⟨a38e0_0, a38e0_1⟩ := y
  rintro ex tm' hp' ⟨rfl, hw⟩
  try dsimp only
  try simp only [if_true, reduceIte, Nat.reduceEqDiff, reduceCtorEq]
  obtain rfl := Option.some.inj h
  exact PE.i (Wk.trans hw (wk h0 [0, 1, 2] (wR rfl (wR rfl (wR rfl wTn))) (vR rfl (vR rfl wVn)) (wL rfl rfl wLn)))
  replace h := cnd_f hb20 h
  refine AW.skip ?_
  obtain rfl := Option.some.inj h
  exact PE.i (wk h0 [0, 2, 3] (wR rfl (wR rfl (wR rfl wTn))) (vR rfl (vR rfl wVn)) (wL rfl rfl wLn))
  obtain ⟨a30_0, a30_1⟩ := y
  rintro ex tm' hp' ⟨rfl, hw⟩
  refine AW.weak hw ?_
  refine AW.seq ?_
  refine rg hx (by kernel_rfl) fun K hK => ?_
  refine s1 (d := dG c_End a30_1) (T_ldA tb_25) ?_
  refine s1 T_mv ?_
  refine s2 (d2 := dG c_Got (⟨a30_1, a30_0⟩ : S_Got)) (T_build (es := [dI .i64 a30_1.vBase, dL cS a30_1.vQueue, dI .i64 a30_1.vWant, dL c_Held a30_1.vHeld, dO 2 cS a30_0]) tb_40) (le_ag (wc (lc_r _) (wc (lc_r _) (wc (lc_r _) (wc (lc_r _) (wc (lc_x _) wcn)))))) ?_
  refine s0 (T_st (ds' := [dI .i64 a30_1.vBase, dL cS a30_1.vQueue, dI .i64 a30_1.vWant, dL c_Held a30_1.vHeld, dL cS a30_0]) tb_40) ?_
  refine .nil (hK _ _ ?_)
  refine AW.ret ?_
  obtain rfl := Option.some.inj h
  exact RetV.mk1 (resD_a (es := (c_Got.f (⟨a30_1, a30_0⟩ : S_Got)).map .e) rfl tb_40 rfl rfl (ltb rfl) (leb rfl) rfl (.inr (.inr ⟨_, (le_refl' _), rfl, rfl⟩)))
noncomputable def g_ref42_Check_l15 (p_x : S_End) : Int → Option (Int ⊕ (Int ⊕ Unit)) := fun a15_0 => cnd (decide (a15_0 < ((p_x.vQueue).length : Int))) (gd (0 ≤ a15_0 ∧ a15_0 < ((p_x.vQueue).length : Int)) (cnd (decide ((4096 : Int) < (((p_x.vQueue)[(a15_0).toNat]!).size : Int))) (some (.inr (.inl (3 : Int)))) (some (.inl (IntKind.i64.wrap (a15_0 + (1 : Int))))))) (some (.inr (.inr ())))
noncomputable def g_ref42_Check_l36 (p_x : S_End) : Int → Option (Int ⊕ (Int ⊕ Unit)) := fun a36_0 => cnd (decide (a36_0 < ((p_x.vHeld).length : Int))) (gd (0 ≤ a36_0 ∧ a36_0 < ((p_x.vHeld).length : Int)) (bnd (S := Bool) (cnd (decide ((((p_x.vHeld)[(a36_0).toNat]!).vSeq) ≤ p_x.vWant)) (some (true)) (cnd (decide ((IntKind.i64.wrap (p_x.vWant + (8 : Int))) ≤ (((p_x.vHeld)[(a36_0).toNat]!).vSeq))) (some (true)) (cnd (decide ((1099511627776 : Int) ≤ (((p_x.vHeld)[(a36_0).toNat]!).vSeq))) (some (true)) (cnd (decide ((4096 : Int) < ((((p_x.vHeld)[(a36_0).toNat]!).vData).size : Int))) (some (true)) (cnd (decide ((0 : Int) < a36_0)) (gd (0 ≤ IntKind.i64.wrap (a36_0 - (1 : Int)) ∧ IntKind.i64.wrap (a36_0 - (1 : Int)) < ((p_x.vHeld).length : Int)) (some (decide ((((p_x.vHeld)[(a36_0).toNat]!).vSeq) ≤ ((p_x.vHeld)[(IntKind.i64.wrap (a36_0 - (1 : Int))).toNat]!.vSeq))))) (some (false))))))) fun a48_0 => cnd a48_0 (some (.inr (.inl (3 : Int)))) (some (.inl (IntKind.i64.wrap (a36_0 + (1 : Int))))))) (some (.inr (.inr ())))
noncomputable def g_ref42_Check (p_x : S_End) : Option Int := bnd (S := Bool) (cnd (decide (p_x.vBase < (1 : Int))) (some (true)) (cnd (decide ((1099511627776 : Int) < p_x.vBase)) (some (true)) (cnd (decide (p_x.vWant < (1 : Int))) (some (true)) (cnd (decide ((1099511627776 : Int) < p_x.vWant)) (some (true)) (some (decide ((64 : Int) < ((p_x.vQueue).length : Int)))))))) fun a5_0 => cnd a5_0 (some (3 : Int)) (bnd (loopO (g_ref42_Check_l15 p_x) (0 : Int)) fun y11 => match y11 with | .inl r => some r | .inr () => bnd (loopO (g_ref42_Check_l36 p_x) (0 : Int)) fun y24 => match y24 with | .inl r => some r | .inr () => some (0 : Int))
theorem w_ref42_Check {p_x : S_End} {r : Int} (h : g_ref42_Check p_x = some r) : PCalls Try.prog 10 [dG c_End p_x] (dI .i64 r) := by
  refine PCalls.of (rs := [.tmp 2]) tok Try.func10 rfl rfl (Nat.le_of_ble_eq_true rfl) rfl (fun cx hx h0 => ?_)
  simp only [argsT, Nat.reduceAdd, Nat.zero_add]
  unfold g_ref42_Check at h
  refine AW.seq ?_
  refine rg hx (by kernel_rfl) fun K hK => ?_
  refine s1 (d := .pt 0 0) T_box ?_
  refine s1 (d := dI .i64 (0 : Int)) T_asg ?_
  refine .nil (hK _ _ ?_)
  iterate 2 refine AW.seq ?_
  obtain ⟨a5_0, hy, h⟩ := bnd_some h
  refine jn ((PE cx .normal (fun a5_0 => [(1, .pt 0 0), (29, dB a5_0)]) fun a5_0 => ⟨[(0, [dI .i64 p_x.vBase, dL cS p_x.vQueue, dI .i64 p_x.vWant, dL c_Held p_x.vHeld])], [], 1⟩) a5_0) ?_ ?_
  replace h := hy
  refine rg hx (by kernel_rfl) fun K hK => ?_
  refine s1 (T_faP tb_25 tb_3) ?_
  refine s1 (d := dI .i64 p_x.vBase) (T_ldC tb_3) ?_
  refine s1 T_lss ?_
  refine s1 T_mv ?_
  rcases Bool.eq_false_or_eq_true (decide (p_x.vBase < (1 : Int))) with hb1 | hb1
  replace h := cnd_t hb1 h
  iterate 3 refine no_t rfl rfl hb1 ?_
  refine s1 (d := dB true) (T_pickT hb1) ?_
  refine s1 T_mv ?_
  iterate 3 refine no_t rfl rfl rfl ?_
  refine s1 (d := dB true) (T_pickT rfl) ?_
  refine s1 T_mv ?_
  iterate 3 refine no_t rfl rfl rfl ?_
  refine s1 (d := dB true) (T_pickT rfl) ?_
  refine s1 T_mv ?_
  iterate 4 refine no_t rfl rfl rfl ?_
  refine s1 (d := dB true) (T_pickT rfl) ?_
  refine .nil (hK _ _ ?_)
  obtain rfl := Option.some.inj h
  exact PE.i (wk h0 [0] (wR rfl (wR rfl wTn)) (vR rfl wVn) wLn)
  replace h := cnd_f hb1 h
  refine g1 hb1 (T_faP tb_25 tb_3) ?_
  refine g1 (d := dI .i64 p_x.vBase) hb1 (T_ldC tb_3) ?_
  refine g1 hb1 T_gtr ?_
  refine s1 (d := dB (decide ((1099511627776 : Int) < p_x.vBase))) (T_pickF hb1) ?_
  refine s1 T_mv ?_
  rcases Bool.eq_false_or_eq_true (decide ((1099511627776 : Int) < p_x.vBase)) with hb2 | hb2
  replace h := cnd_t hb2 h
  iterate 3 refine no_t rfl rfl hb2 ?_
  refine s1 (d := dB true) (T_pickT hb2) ?_
  refine s1 T_mv ?_
  iterate 3 refine no_t rfl rfl rfl ?_
  refine s1 (d := dB true) (T_pickT rfl) ?_
  refine s1 T_mv ?_
  iterate 4 refine no_t rfl rfl rfl ?_
  refine s1 (d := dB true) (T_pickT rfl) ?_
  refine .nil (hK _ _ ?_)
  obtain rfl := Option.some.inj h
  exact PE.i (wk h0 [0] (wR rfl (wR rfl wTn)) (vR rfl wVn) wLn)
  replace h := cnd_f hb2 h
  refine g1 hb2 (T_faP tb_25 tb_3) ?_
  refine g1 (d := dI .i64 p_x.vWant) hb2 (T_ldC tb_3) ?_
  refine g1 hb2 T_lss ?_
  refine s1 (d := dB (decide (p_x.vWant < (1 : Int)))) (T_pickF hb2) ?_
  refine s1 T_mv ?_
  rcases Bool.eq_false_or_eq_true (decide (p_x.vWant < (1 : Int))) with hb3 | hb3
  replace h := cnd_t hb3 h
  iterate 3 refine no_t rfl rfl hb3 ?_
  refine s1 (d := dB true) (T_pickT hb3) ?_
  refine s1 T_mv ?_
  iterate 4 refine no_t rfl rfl rfl ?_
  refine s1 (d := dB true) (T_pickT rfl) ?_
  refine .nil (hK _ _ ?_)
  obtain rfl := Option.some.inj h
  exact PE.i (wk h0 [0] (wR rfl (wR rfl wTn)) (vR rfl wVn) wLn)
  replace h := cnd_f hb3 h
  refine g1 hb3 (T_faP tb_25 tb_3) ?_
  refine g1 (d := dI .i64 p_x.vWant) hb3 (T_ldC tb_3) ?_
  refine g1 hb3 T_gtr ?_
  refine s1 (d := dB (decide ((1099511627776 : Int) < p_x.vWant))) (T_pickF hb3) ?_
  refine s1 T_mv ?_
  rcases Bool.eq_false_or_eq_true (decide ((1099511627776 : Int) < p_x.vWant)) with hb4 | hb4
  replace h := cnd_t hb4 h
  iterate 4 refine no_t rfl rfl hb4 ?_
  refine s1 (d := dB true) (T_pickT hb4) ?_
  refine .nil (hK _ _ ?_)
  obtain rfl := Option.some.inj h
  exact PE.i (wk h0 [0] (wR rfl (wR rfl wTn)) (vR rfl wVn) wLn)
  replace h := cnd_f hb4 h
  refine g1 hb4 (T_faP tb_25 tb_22) ?_
  refine g1 (d := dL cS p_x.vQueue) hb4 (T_ldC tb_22) ?_
  refine g1 (d := dI .i64 ((p_x.vQueue).length : Int)) hb4 (T_len tb_22 tb_9) ?_
  refine g1 hb4 T_gtr ?_
  refine s1 (d := dB (decide ((64 : Int) < ((p_x.vQueue).length : Int)))) (T_pickF hb4) ?_
  refine .nil (hK _ _ ?_)
  obtain rfl := Option.some.inj h
  exact PE.i (wk h0 [0] (wR rfl (wR rfl wTn)) (vR rfl wVn) wLn)
  rintro ex tm' hp' ⟨rfl, hw⟩
  refine AW.weak hw ?_
  refine AW.condS rfl (fun hb6 => ?_) (fun hb6 => ?_)
  replace h := cnd_t hb6 h
  refine AW.seq ?_
  refine rg hx (by kernel_rfl) fun K hK => ?_
  refine s1 (d := dI .i64 (3 : Int)) T_asg ?_
  refine .nil (hK _ _ ?_)
  refine AW.ret ?_
  obtain rfl := Option.some.inj h
  exact RetV.mk1 (resD_t rfl (.inr (.inr ⟨_, (le_refl' _), rfl, rfl⟩)))
  replace h := cnd_f hb6 h
  refine AW.skip ?_
  iterate 2 refine AW.seq ?_
  refine rg hx (by kernel_rfl) fun K hK => ?_
  refine s1 (d := dI .i64 (0 : Int)) T_asg ?_
  refine .nil (hK _ _ ?_)
  refine AW.block ?_
  obtain ⟨y, hy, h⟩ := bnd_some h
  refine lp (S := Int) (X := Int ⊕ Unit) (fun a15_0 => [(1, .pt 0 0), (3, dI .i64 a15_0)]) (fun a15_0 => ⟨[(0, [dI .i64 p_x.vBase, dL cS p_x.vQueue, dI .i64 p_x.vWant, dL c_Held p_x.vHeld])], [], 1⟩) (PS (PR [.tmp 2] fun r => dI .i64 r) (PE cx (.exit 0) (fun () => [(1, .pt 0 0)]) fun () => ⟨[(0, [dI .i64 p_x.vBase, dL cS p_x.vQueue, dI .i64 p_x.vWant, dL c_Held p_x.vHeld])], [], 1⟩)) hy ?_ ?_ ?_
  exact wk h0 [0] (wR rfl (wR rfl wTn)) (vR rfl wVn) wLn
  clear hy h
  rintro a15_0 y h
  dsimp only [g_ref42_Check_l15] at h
  iterate 2 refine AW.seq ?_
  refine rg hx (by kernel_rfl) fun K hK => ?_
  refine s1 T_mv ?_
  refine s1 (T_faP tb_25 tb_22) ?_
  refine s1 (d := dL cS p_x.vQueue) (T_ldC tb_22) ?_
  refine s1 (d := dI .i64 ((p_x.vQueue).length : Int)) (T_len tb_22 tb_9) ?_
  refine s1 T_lss ?_
  refine .nil (hK _ _ ?_)
  refine AW.condS rfl (fun hb7 => ?_) (fun hb7 => ?_)
  replace h := cnd_t hb7 h
  refine AW.skip ?_
  refine AW.seq ?_
  refine AW.block ?_
  refine AW.seq ?_
  refine rg hx (by kernel_rfl) fun K hK => ?_
  refine s1 (T_faP tb_25 tb_22) ?_
  refine s1 (d := dL cS p_x.vQueue) (T_ldC tb_22) ?_
  refine s1 T_mv ?_
  obtain ⟨hc8, h⟩ := gd_some h
  have hn9 : (a15_0).toNat < (p_x.vQueue).length := by omega
  refine s1 (T_iaS hc8 tb_22 tb_9) ?_
  refine s1 (d := dS ((p_x.vQueue)[(a15_0).toNat]!)) (T_ldF (c := cS) (l := p_x.vQueue) (n := (a15_0).toNat) (o := 0) tb_9 hn9) ?_
  refine s1 (d := dI .i64 (((p_x.vQueue)[(a15_0).toNat]!).size : Int)) (T_lenS tb_9) ?_
  refine s1 T_gtr ?_
  refine .nil (hK _ _ ?_)
  refine AW.condS rfl (fun hb10 => ?_) (fun hb10 => ?_)
  replace h := cnd_t hb10 h
  refine AW.seq ?_
  refine rg hx (by kernel_rfl) fun K hK => ?_
  refine s1 (d := dI .i64 (3 : Int)) T_asg ?_
  refine .nil (hK _ _ ?_)
  refine AW.ret ?_
  obtain rfl := Option.some.inj h
  refine PS.r ⟨by nofun, PS.l (PR.i ?_)⟩
  exact RetV.mk1 (resD_t rfl (.inr (.inr ⟨_, (le_refl' _), rfl, rfl⟩)))
  replace h := cnd_f hb10 h
  refine AW.skip ?_
  refine rg hx (by kernel_rfl) fun K hK => ?_
  refine s1 T_mv ?_
  refine s1 T_add ?_
  refine s1 T_as ?_
  refine .nil (hK _ _ ?_)
  obtain rfl := Option.some.inj h
  exact PS.l (PE.i (wk h0 [0] (wR rfl (wR rfl wTn)) (vR rfl wVn) wLn))
  replace h := cnd_f hb7 h
  refine AW.exit ?_
  try dsimp only
  try simp only [if_true, reduceIte, Nat.reduceEqDiff, reduceCtorEq]
  obtain rfl := Option.some.inj h
  exact PS.r ⟨by nofun, PS.r (PE.i (wk h0 [0] (wR rfl wTn) (vR rfl wVn) wLn))⟩
  rcases y with r | ⟨⟩
  rintro ex tm' hp' ⟨rfl, hw⟩
  obtain rfl := Option.some.inj h
  exact hw
  rintro ex tm' hp' ⟨rfl, hw⟩
  try dsimp only
  try simp only [if_true, reduceIte, Nat.reduceEqDiff, reduceCtorEq]
  refine AW.weak hw ?_
  iterate 2 refine AW.seq ?_
  refine rg hx (by kernel_rfl) fun K hK => ?_
  refine s1 (d := dI .i64 (0 : Int)) T_asg ?_
  refine .nil (hK _ _ ?_)
  refine AW.block ?_
  obtain ⟨y, hy, h⟩ := bnd_some h
  refine lp (S := Int) (X := Int ⊕ Unit) (fun a36_0 => [(1, .pt 0 0), (4, dI .i64 a36_0)]) (fun a36_0 => ⟨[(0, [dI .i64 p_x.vBase, dL cS p_x.vQueue, dI .i64 p_x.vWant, dL c_Held p_x.vHeld])], [], 1⟩) (PS (PR [.tmp 2] fun r => dI .i64 r) (PE cx (.exit 2) (fun () => []) fun () => ⟨[], [], 0⟩)) hy ?_ ?_ ?_
  exact wk h0 [0] (wR rfl (wR rfl wTn)) (vR rfl wVn) wLn
  clear hy h
  rintro a36_0 y h
  dsimp only [g_ref42_Check_l36] at h
  iterate 2 refine AW.seq ?_
  refine rg hx (by kernel_rfl) fun K hK => ?_
  refine s1 T_mv ?_
  refine s1 (T_faP tb_25 tb_23) ?_
  refine s1 (d := dL c_Held p_x.vHeld) (T_ldC tb_23) ?_
  refine s1 (d := dI .i64 ((p_x.vHeld).length : Int)) (T_len tb_23 tb_74) ?_
  refine s1 T_lss ?_
  refine .nil (hK _ _ ?_)
  refine AW.condS rfl (fun hb12 => ?_) (fun hb12 => ?_)
  replace h := cnd_t hb12 h
  refine AW.skip ?_
  refine AW.seq ?_
  refine AW.block ?_
  refine AW.seq ?_
  refine rg hx (by kernel_rfl) fun K hK => ?_
  refine s1 (T_faP tb_25 tb_23) ?_
  refine s1 (d := dL c_Held p_x.vHeld) (T_ldC tb_23) ?_
  refine s1 T_mv ?_
  obtain ⟨hc13, h⟩ := gd_some h
  have hn14 : (a36_0).toNat < (p_x.vHeld).length := by omega
  refine s1 (T_iaS hc13 tb_23 tb_74) ?_
  refine s1 (d := dG c_Held ((p_x.vHeld)[(a36_0).toNat]!)) (T_ldG (c := c_Held) (l := p_x.vHeld) (n := (a36_0).toNat) (o := 0) tb_74 hn14 (whole_G _ _ rfl)) ?_
  refine s1 (d := .pt 1 0) (T_alloc tb_74) ?_
  refine s0 (T_st (ds' := [dI .i64 (((p_x.vHeld)[(a36_0).toNat]!).vSeq), dS (((p_x.vHeld)[(a36_0).toNat]!).vData)]) tb_74) ?_
  refine .nil (hK _ _ ?_)
  refine AW.seq ?_
  obtain ⟨a48_0, hy, h⟩ := bnd_some h
  refine jn ((PE cx .normal (fun a48_0 => [(1, .pt 0 0), (4, dI .i64 a36_0), (95, dB a48_0)]) fun a48_0 => ⟨[(0, [dI .i64 p_x.vBase, dL cS p_x.vQueue, dI .i64 p_x.vWant, dL c_Held p_x.vHeld])], [], 1⟩) a48_0) ?_ ?_
  replace h := hy
  refine rd [] hx (by kernel_rfl) (by kernel_rfl) fun K hK => ?_
  refine s1 (T_faP tb_74 tb_3) ?_
  refine s1 (d := dI .i64 (((p_x.vHeld)[(a36_0).toNat]!).vSeq)) (T_ldC tb_3) ?_
  refine s1 (T_faP tb_25 tb_3) ?_
  refine s1 (d := dI .i64 p_x.vWant) (T_ldC tb_3) ?_
  refine s1 T_leq ?_
  refine s1 T_mv ?_
  rcases Bool.eq_false_or_eq_true (decide ((((p_x.vHeld)[(a36_0).toNat]!).vSeq) ≤ p_x.vWant)) with hb15 | hb15
  replace h := cnd_t hb15 h
  iterate 6 refine no_t rfl rfl hb15 ?_
  refine s1 (d := dB true) (T_pickT hb15) ?_
  refine s1 T_mv ?_
  iterate 3 refine no_t rfl rfl rfl ?_
  refine s1 (d := dB true) (T_pickT rfl) ?_
  refine s1 T_mv ?_
  iterate 4 refine no_t rfl rfl rfl ?_
  refine s1 (d := dB true) (T_pickT rfl) ?_
  refine s1 T_mv ?_
  iterate 3 refine no_t rfl rfl rfl ?_
  iterate 10 refine nn_t rfl rfl ?_
  refine no_t rfl rfl rfl ?_
  refine s1 (d := dB true) (T_pickT rfl) ?_
  refine .nil (hK _ _ ?_)
  obtain rfl := Option.some.inj h
  exact PE.i (wk h0 [0] (wR rfl (wR rfl (wR rfl wTn))) (vR rfl wVn) wLn)
  replace h := cnd_f hb15 h
  refine g1 hb15 (T_faP tb_74 tb_3) ?_
  refine g1 (d := dI .i64 (((p_x.vHeld)[(a36_0).toNat]!).vSeq)) hb15 (T_ldC tb_3) ?_
  refine g1 hb15 (T_faP tb_25 tb_3) ?_
  refine g1 (d := dI .i64 p_x.vWant) hb15 (T_ldC tb_3) ?_
  refine g1 hb15 T_add ?_
  refine g1 hb15 T_geq ?_
  refine s1 (d := dB (decide ((IntKind.i64.wrap (p_x.vWant + (8 : Int))) ≤ (((p_x.vHeld)[(a36_0).toNat]!).vSeq)))) (T_pickF hb15) ?_
  refine s1 T_mv ?_
  rcases Bool.eq_false_or_eq_true (decide ((IntKind.i64.wrap (p_x.vWant + (8 : Int))) ≤ (((p_x.vHeld)[(a36_0).toNat]!).vSeq))) with hb16 | hb16
  replace h := cnd_t hb16 h
  iterate 3 refine no_t rfl rfl hb16 ?_
  refine s1 (d := dB true) (T_pickT hb16) ?_
  refine s1 T_mv ?_
  iterate 4 refine no_t rfl rfl rfl ?_
  refine s1 (d := dB true) (T_pickT rfl) ?_
  refine s1 T_mv ?_
  iterate 3 refine no_t rfl rfl rfl ?_
  iterate 10 refine nn_t rfl rfl ?_
  refine no_t rfl rfl rfl ?_
  refine s1 (d := dB true) (T_pickT rfl) ?_
  refine .nil (hK _ _ ?_)
  obtain rfl := Option.some.inj h
  exact PE.i (wk h0 [0] (wR rfl (wR rfl (wR rfl wTn))) (vR rfl wVn) wLn)
  replace h := cnd_f hb16 h
  refine g1 hb16 (T_faP tb_74 tb_3) ?_
  refine g1 (d := dI .i64 (((p_x.vHeld)[(a36_0).toNat]!).vSeq)) hb16 (T_ldC tb_3) ?_
  refine g1 hb16 T_geq ?_
  refine s1 (d := dB (decide ((1099511627776 : Int) ≤ (((p_x.vHeld)[(a36_0).toNat]!).vSeq)))) (T_pickF hb16) ?_
  refine s1 T_mv ?_
  rcases Bool.eq_false_or_eq_true (decide ((1099511627776 : Int) ≤ (((p_x.vHeld)[(a36_0).toNat]!).vSeq))) with hb17 | hb17
  replace h := cnd_t hb17 h
  iterate 4 refine no_t rfl rfl hb17 ?_
  refine s1 (d := dB true) (T_pickT hb17) ?_
  refine s1 T_mv ?_
  iterate 3 refine no_t rfl rfl rfl ?_
  iterate 10 refine nn_t rfl rfl ?_
  refine no_t rfl rfl rfl ?_
  refine s1 (d := dB true) (T_pickT rfl) ?_
  refine .nil (hK _ _ ?_)
  obtain rfl := Option.some.inj h
  exact PE.i (wk h0 [0] (wR rfl (wR rfl (wR rfl wTn))) (vR rfl wVn) wLn)
  replace h := cnd_f hb17 h
  refine g1 hb17 (T_faP tb_74 tb_9) ?_
  refine g1 (d := dS (((p_x.vHeld)[(a36_0).toNat]!).vData)) hb17 (T_ldC tb_9) ?_
  refine g1 (d := dI .i64 ((((p_x.vHeld)[(a36_0).toNat]!).vData).size : Int)) hb17 (T_lenS tb_9) ?_
  refine g1 hb17 T_gtr ?_
  refine s1 (d := dB (decide ((4096 : Int) < ((((p_x.vHeld)[(a36_0).toNat]!).vData).size : Int)))) (T_pickF hb17) ?_
  refine s1 T_mv ?_
  rcases Bool.eq_false_or_eq_true (decide ((4096 : Int) < ((((p_x.vHeld)[(a36_0).toNat]!).vData).size : Int))) with hb18 | hb18
  replace h := cnd_t hb18 h
  iterate 3 refine no_t rfl rfl hb18 ?_
  iterate 10 refine nn_t rfl rfl ?_
  refine no_t rfl rfl hb18 ?_
  refine s1 (d := dB true) (T_pickT hb18) ?_
  refine .nil (hK _ _ ?_)
  obtain rfl := Option.some.inj h
  exact PE.i (wk h0 [0] (wR rfl (wR rfl (wR rfl wTn))) (vR rfl wVn) wLn)
  replace h := cnd_f hb18 h
  refine g1 hb18 T_mv ?_
  refine g1 hb18 T_gtr ?_
  refine g1 hb18 T_mv ?_
  rcases Bool.eq_false_or_eq_true (decide ((0 : Int) < a36_0)) with hb19 | hb19
  replace h := cnd_t hb19 h
  refine g1 hb19 (T_faP tb_25 tb_23) ?_
  refine g1 (d := dL c_Held p_x.vHeld) hb19 (T_ldC tb_23) ?_
  refine g1 hb19 T_mv ?_
  refine g1 hb19 T_sub ?_
  obtain ⟨hc20, h⟩ := gd_some h
  have hn21 : (IntKind.i64.wrap (a36_0 - (1 : Int))).toNat < (p_x.vHeld).length := by omega
  refine g1 hb19 (T_iaS hc20 tb_23 tb_74) ?_
  refine g1 hb19 (T_faF tb_74 tb_3) ?_
  refine g1 (d := dI .i64 ((p_x.vHeld)[(IntKind.i64.wrap (a36_0 - (1 : Int))).toNat]!.vSeq)) hb19 (T_ldF (c := c_Held) (l := p_x.vHeld) (n := (IntKind.i64.wrap (a36_0 - (1 : Int))).toNat) (o := 0) tb_3 hn21) ?_
  refine g1 hb19 (T_faP tb_74 tb_3) ?_
  refine g1 (d := dI .i64 (((p_x.vHeld)[(a36_0).toNat]!).vSeq)) hb19 (T_ldC tb_3) ?_
  refine g1 hb19 T_geq ?_
  refine g1 (d := dB (decide ((((p_x.vHeld)[(a36_0).toNat]!).vSeq) ≤ ((p_x.vHeld)[(IntKind.i64.wrap (a36_0 - (1 : Int))).toNat]!.vSeq)))) hb18 (T_pickT hb19) ?_
  refine s1 (d := dB (decide ((((p_x.vHeld)[(a36_0).toNat]!).vSeq) ≤ ((p_x.vHeld)[(IntKind.i64.wrap (a36_0 - (1 : Int))).toNat]!.vSeq)))) (T_pickF hb18) ?_
  refine .nil (hK _ _ ?_)
  obtain rfl := Option.some.inj h
  exact PE.i (wk h0 [0] (wR rfl (wR rfl (wR rfl wTn))) (vR rfl wVn) wLn)
  replace h := cnd_f hb19 h
  iterate 10 refine no_t rfl rfl hb19 ?_
  refine g1 (d := dB false) hb18 (T_pickF hb19) ?_
  refine s1 (d := dB false) (T_pickF hb18) ?_
  refine .nil (hK _ _ ?_)
  obtain rfl := Option.some.inj h
  exact PE.i (wk h0 [0] (wR rfl (wR rfl (wR rfl wTn))) (vR rfl wVn) wLn)
  rintro ex tm' hp' ⟨rfl, hw⟩
  refine AW.weak hw ?_
  refine AW.condS rfl (fun hb23 => ?_) (fun hb23 => ?_)
  replace h := cnd_t hb23 h
  refine AW.seq ?_
  refine rg hx (by kernel_rfl) fun K hK => ?_
  refine s1 (d := dI .i64 (3 : Int)) T_asg ?_
  refine .nil (hK _ _ ?_)
  refine AW.ret ?_
  obtain rfl := Option.some.inj h
  refine PS.r ⟨by nofun, PS.l (PR.i ?_)⟩
  exact RetV.mk1 (resD_t rfl (.inr (.inr ⟨_, (le_refl' _), rfl, rfl⟩)))
  replace h := cnd_f hb23 h
  refine AW.skip ?_
  refine rg hx (by kernel_rfl) fun K hK => ?_
  refine s1 T_mv ?_
  refine s1 T_add ?_
  refine s1 T_as ?_
  refine .nil (hK _ _ ?_)
  obtain rfl := Option.some.inj h
  exact PS.l (PE.i (wk h0 [0] (wR rfl (wR rfl wTn)) (vR rfl wVn) wLn))
  replace h := cnd_f hb12 h
  refine AW.exit ?_
  try dsimp only
  try simp only [if_true, reduceIte, Nat.reduceEqDiff, reduceCtorEq]
  obtain rfl := Option.some.inj h
  exact PS.r ⟨by nofun, PS.r (PE.i (wk h0 [] wTn wVn wLn))⟩
  rcases y with r | ⟨⟩
  rintro ex tm' hp' ⟨rfl, hw⟩
  obtain rfl := Option.some.inj h
  exact hw
  rintro ex tm' hp' ⟨rfl, hw⟩
  try dsimp only
  try simp only [if_true, reduceIte, Nat.reduceEqDiff, reduceCtorEq]
  refine AW.weak hw ?_
  refine AW.seq ?_
  refine rg hx (by kernel_rfl) fun K hK => ?_
  refine s1 (d := dI .i64 (0 : Int)) T_asg ?_
  refine .nil (hK _ _ ?_)
  refine AW.ret ?_
  obtain rfl := Option.some.inj h
  exact RetV.mk1 (resD_t rfl (.inr (.inr ⟨_, (le_refl' _), rfl, rfl⟩)))
noncomputable def g_ref42_Few_l7 (p_x : S_End) : Int → Option (Int ⊕ (Bool ⊕ Unit)) := fun a7_0 => cnd (decide (a7_0 < ((p_x.vQueue).length : Int))) (gd (0 ≤ a7_0 ∧ a7_0 < ((p_x.vQueue).length : Int)) (cnd (decide ((200 : Int) < (((p_x.vQueue)[(a7_0).toNat]!).size : Int))) (some (.inr (.inl false))) (some (.inl (IntKind.i64.wrap (a7_0 + (1 : Int))))))) (some (.inr (.inr ())))
noncomputable def g_ref42_Few (p_x : S_End) : Option Bool := bnd (loopO (g_ref42_Few_l7 p_x) (0 : Int)) fun y5 => match y5 with | .inl r => some r | .inr () => bnd (g_ref42_Check p_x) fun x6 => some (decide (x6 = (0 : Int)))
theorem w_ref42_Few {p_x : S_End} {r : Bool} (h : g_ref42_Few p_x = some r) : PCalls Try.prog 8 [dG c_End p_x] (dB r) := by
  refine PCalls.of (rs := [.tmp 2]) tok Try.func8 rfl rfl (Nat.le_of_ble_eq_true rfl) rfl (fun cx hx h0 => ?_)
  simp only [argsT, Nat.reduceAdd, Nat.zero_add]
  unfold g_ref42_Few at h
  refine AW.seq ?_
  refine rg hx (by kernel_rfl) fun K hK => ?_
  refine s1 (d := .pt 0 0) T_box ?_
  refine s1 (d := dB false) T_asg ?_
  refine .nil (hK _ _ ?_)
  iterate 2 refine AW.seq ?_
  refine rg hx (by kernel_rfl) fun K hK => ?_
  refine s1 (d := dI .i64 (0 : Int)) T_asg ?_
  refine .nil (hK _ _ ?_)
  refine AW.block ?_
  obtain ⟨y, hy, h⟩ := bnd_some h
  refine lp (S := Int) (X := Bool ⊕ Unit) (fun a7_0 => [(1, .pt 0 0), (3, dI .i64 a7_0)]) (fun a7_0 => ⟨[(0, [dI .i64 p_x.vBase, dL cS p_x.vQueue, dI .i64 p_x.vWant, dL c_Held p_x.vHeld])], [], 1⟩) (PS (PR [.tmp 2] fun r => dB r) (PE cx (.exit 0) (fun () => [(1, .pt 0 0)]) fun () => ⟨[(0, [dI .i64 p_x.vBase, dL cS p_x.vQueue, dI .i64 p_x.vWant, dL c_Held p_x.vHeld])], [], 1⟩)) hy ?_ ?_ ?_
  exact wk h0 [0] (wR rfl (wR rfl wTn)) (vR rfl wVn) wLn
  clear hy h
  rintro a7_0 y h
  dsimp only [g_ref42_Few_l7] at h
  iterate 2 refine AW.seq ?_
  refine rg hx (by kernel_rfl) fun K hK => ?_
  refine s1 T_mv ?_
  refine s1 (T_faP tb_25 tb_22) ?_
  refine s1 (d := dL cS p_x.vQueue) (T_ldC tb_22) ?_
  refine s1 (d := dI .i64 ((p_x.vQueue).length : Int)) (T_len tb_22 tb_9) ?_
  refine s1 T_lss ?_
  refine .nil (hK _ _ ?_)
  refine AW.condS rfl (fun hb1 => ?_) (fun hb1 => ?_)
  replace h := cnd_t hb1 h
  refine AW.skip ?_
  refine AW.seq ?_
  refine AW.block ?_
  refine AW.seq ?_
  refine rg hx (by kernel_rfl) fun K hK => ?_
  refine s1 (T_faP tb_25 tb_22) ?_
  refine s1 (d := dL cS p_x.vQueue) (T_ldC tb_22) ?_
  refine s1 T_mv ?_
  obtain ⟨hc2, h⟩ := gd_some h
  have hn3 : (a7_0).toNat < (p_x.vQueue).length := by omega
  refine s1 (T_iaS hc2 tb_22 tb_9) ?_
  refine s1 (d := dS ((p_x.vQueue)[(a7_0).toNat]!)) (T_ldF (c := cS) (l := p_x.vQueue) (n := (a7_0).toNat) (o := 0) tb_9 hn3) ?_
  refine s1 (d := dI .i64 (((p_x.vQueue)[(a7_0).toNat]!).size : Int)) (T_lenS tb_9) ?_
  refine s1 T_gtr ?_
  refine .nil (hK _ _ ?_)
  refine AW.condS rfl (fun hb4 => ?_) (fun hb4 => ?_)
  replace h := cnd_t hb4 h
  refine AW.seq ?_
  refine rg hx (by kernel_rfl) fun K hK => ?_
  refine s1 (d := dB false) T_asg ?_
  refine .nil (hK _ _ ?_)
  refine AW.ret ?_
  obtain rfl := Option.some.inj h
  refine PS.r ⟨by nofun, PS.l (PR.i ?_)⟩
  exact RetV.mk1 (resD_t rfl (.inr (.inr ⟨_, (le_refl' _), rfl, rfl⟩)))
  replace h := cnd_f hb4 h
  refine AW.skip ?_
  refine rg hx (by kernel_rfl) fun K hK => ?_
  refine s1 T_mv ?_
  refine s1 T_add ?_
  refine s1 T_as ?_
  refine .nil (hK _ _ ?_)
  obtain rfl := Option.some.inj h
  exact PS.l (PE.i (wk h0 [0] (wR rfl (wR rfl wTn)) (vR rfl wVn) wLn))
  replace h := cnd_f hb1 h
  refine AW.exit ?_
  try dsimp only
  try simp only [if_true, reduceIte, Nat.reduceEqDiff, reduceCtorEq]
  obtain rfl := Option.some.inj h
  exact PS.r ⟨by nofun, PS.r (PE.i (wk h0 [0] (wR rfl wTn) (vR rfl wVn) wLn))⟩
  rcases y with r | ⟨⟩
  rintro ex tm' hp' ⟨rfl, hw⟩
  obtain rfl := Option.some.inj h
  exact hw
  rintro ex tm' hp' ⟨rfl, hw⟩
  try dsimp only
  try simp only [if_true, reduceIte, Nat.reduceEqDiff, reduceCtorEq]
  refine AW.weak hw ?_
  refine AW.seq ?_
  refine rg hx (by kernel_rfl) fun K hK => ?_
  refine s1 (d := dG c_End p_x) (T_ldA tb_25) ?_
  obtain ⟨x6, hx7, h⟩ := bnd_some h
  refine s1 (d := dI .i64 x6) (T_call rfl (w_ref42_Check hx7) (by simp only [List.map_cons, List.map_nil, List.all_cons, List.all_nil, Bool.and_true, Bool.and_eq_true]; exact pure_ex_G _ _) (lA (le_refl' _) lAn) (.inl rfl)) ?_
  refine s1 T_eql ?_
  refine s1 T_as ?_
  refine .nil (hK _ _ ?_)
  refine AW.ret ?_
  obtain rfl := Option.some.inj h
  exact RetV.mk1 (resD_t rfl (.inr (.inr ⟨_, (le_refl' _), rfl, rfl⟩)))
end Go.Proofs.Ytakbadleipbngaa
