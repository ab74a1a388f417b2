/-
  layer 42: the law LinkReceivesAsSpecified, walked. Conditions: none.
-/
import Derived.Test.YtakbadleipbngaaLinkO
set_option linter.all false
namespace Go.Proofs.Ytakbadleipbngaa
open Go.RowKit
theorem und_b : Try.prog.underlying 4 = some .bool := by kernel_rfl
theorem receive_len (x : LEnd) (f : LFrame) (h : x.Ok) : (x.receive f).2.length ≤ 1000000 := by
  unfold LEnd.receive
  split
  · unfold LEnd.gives
    split
    · have h1 := ((h.acked f).holds (LFrame.okB_data (by assumption))).held_len
      simp
      omega
    · simp
  · simp
theorem l_receives (x : LEnd) (t : ByteArray) (f : LFrame) (h64 : ∀ g ∈ x.held, I64 g.1) : PCalls Try.prog 3 [endD x, .e (.lit (.string t)), frD f] (.e (.lit (.bool true))) := by
  unfold endD frD
  refine PCalls.of (rs := [.tmp 6]) tok Try.func3 rfl rfl (Nat.le_of_ble_eq_true rfl) rfl (fun cx hx h0 => ?_)
  simp only [argsT, Nat.reduceAdd, Nat.zero_add]
  have hok := HpOk.nil
  refine AW.seq ?_
  refine AW.regS tbl (by rw [hx]; kernel_rfl) (fun K hK => ?_)
  iterate 3 refine st tok (by rfl) (by simp (disch := omega) only [sim_box, seval, Ty.agg, tb_3, tb_9, tb_22, tb_23, tb_25, tb_74, tb_27, sim_assign, tb_4]; (repeat' refine And.intro ?_ ?_) <;> first | exact Kq.here _ _ | omega | assumption | with_reducible rfl) ?_
  refine SOps.nil (hK _ _ ?_)
  clear hK
  dsimp only
  refine AW.seq ?_
  refine AW.regS tbl (by rw [hx]; kernel_rfl) (fun K hK => ?_)
  refine st tok (by rfl) (by simp (disch := omega) only [sim_load, seval, Ty.agg, tb_3, tb_9, tb_22, tb_23, tb_25, tb_74]; (repeat' refine And.intro ?_ ?_) <;> first | exact Kq.here _ _ | omega | assumption | with_reducible rfl) ?_
  -- stop: call ['f', 8] (line 35)
  refine st tok (by rfl) (by simp (disch := omega) only [sim_call, ↓newsV_eq, ↓lenV_eq, seval, Ty.agg, tb_3, tb_4, tb_9, tb_22, tb_23, tb_25, tb_74]; (repeat refine And.intro (by omega) ?_); apply call_of; (case ha => simp only [sim_ex]; exact rfl); (case hc => exact (a_refFew x h64)); (case hp1 => first | rfl | simp only [sim_pure]); (case h => ((try simp only [adopt_own, adopt_e, adopt_ag, adopt_tu, hp_tok, true_and]); exact Kq.here _ _))) ?_
  refine st tok (by rfl) (by simp (disch := omega) only [sim_assign, seval, Ty.agg, tb_4]; (repeat' refine And.intro ?_ ?_) <;> first | exact Kq.here _ _ | omega | assumption | with_reducible rfl) ?_
  refine SOps.nil (hK _ _ ?_)
  clear hK
  dsimp only
  refine AW.seq ?_
  refine AW.seq ?_
  refine AW.drwS tbl [9, 10, 11, 19, 20, 18, 21] (by kernel_rfl) (by rw [hx]; kernel_rfl) (by kernel_rfl) (fun K hK => ?_)
  refine st tok (by rfl) (by simp (disch := omega) only [sim_load, seval, Ty.agg, tb_3, tb_9, tb_22, tb_23, tb_25, tb_74]; (repeat' refine And.intro ?_ ?_) <;> first | exact Kq.here _ _ | omega | assumption | with_reducible rfl) ?_
  -- stop: call ['f', 9] (line 36)
  refine st_Q rfl (by apply q_call tok rfl; (case hc => (simp (disch := omega) only [sim_call, ↓newsV_eq, ↓lenV_eq, seval, Ty.agg, tb_3, tb_9, tb_22, tb_23, tb_25, tb_29, tb_74]; exact (a_Check x h64))); (case hp1 => (simp (disch := omega) only [sim_call, ↓newsV_eq, ↓lenV_eq, seval, Ty.agg, tb_3, tb_9, tb_22, tb_23, tb_25, tb_29, tb_74]; first | done | rfl | simp only [sim_pure])); (case hr => first | exact .inl rfl | exact .inr ⟨_, rfl⟩)) ?_
  simp only [put_some, put_none]
  refine st tok (by rfl) (by simp (disch := omega) only [sim_load, seval, Ty.agg, tb_3, tb_9, tb_22, tb_23, tb_25, tb_74]; (repeat' refine And.intro ?_ ?_) <;> first | exact Kq.here _ _ | omega | assumption | with_reducible rfl) ?_
  -- stop: call ['f', 10] (line 36)
  refine st_Q rfl (by apply q_call tok rfl; (case hc => (simp (disch := omega) only [sim_call, ↓newsV_eq, ↓lenV_eq, seval, Ty.agg, tb_3, tb_9, tb_22, tb_23, tb_25, tb_29, tb_74]; exact (a_refCheck x h64))); (case hp1 => (simp (disch := omega) only [sim_call, ↓newsV_eq, ↓lenV_eq, seval, Ty.agg, tb_3, tb_9, tb_22, tb_23, tb_25, tb_29, tb_74]; first | done | rfl | simp only [sim_pure])); (case hr => first | exact .inl rfl | exact .inr ⟨_, rfl⟩)) ?_
  simp only [put_some, put_none]
  refine st tok (by rfl) (by simp (disch := omega) only [sim_binOp, seval, Ty.agg, tb_29]; (repeat' refine And.intro ?_ ?_) <;> first | exact Kq.here _ _ | omega | assumption | with_reducible rfl) ?_
  refine SOps.nil (hK _ _ ?_)
  clear hK
  dsimp only
  refine AW.keep [1, 3, 5, 7, 21] ?_
  simp only [keepT_cons, keepT_nil, keepO_some, keepO_none, lk_cons, lk_nil, Nat.reduceBEq, cond_true, cond_false]
  -- stop: cond (live 1:text, 3:x, 5:f, 7:few, 21)
  refine AW.cond (b := false) (by simp only [sim_ev, Nat.reduceBEq]; (try rfl); all_goals (simp)) ?_
  dsimp only
  refine AW.skip ?_
  dsimp only
  refine AW.seq ?_
  refine AW.seq ?_
  refine AW.regS tbl (by rw [hx]; kernel_rfl) (fun K hK => ?_)
  iterate 2 refine st tok (by rfl) (by simp (disch := omega) only [sim_move, seval, Ty.agg, sim_unOp, tb_4]; (repeat' refine And.intro ?_ ?_) <;> first | exact Kq.here _ _ | omega | assumption | with_reducible rfl) ?_
  refine SOps.nil (hK _ _ ?_)
  clear hK
  dsimp only
  -- stop: cond (live 1:text, 3:x, 5:f, 23)
  refine AW.condS (by simp only [sim_ev, Nat.reduceBEq]; rfl) (fun hf => ?_) (fun hf => ?_)
  all_goals (try simp only [sim_bool] at hf)
  · skip
    refine AW.seq ?_
    refine AW.regS tbl (by rw [hx]; kernel_rfl) (fun K hK => ?_)
    -- stop: call ['f', 11] (line 40)
    refine st tok (by rfl) (by simp (disch := omega) only [sim_call, ↓newsV_eq, ↓lenV_eq, seval, Ty.agg, tb_4]; (repeat refine And.intro (by omega) ?_); apply call_of; (case ha => simp only [sim_ex]; exact rfl); (case hc => exact (s_sanity)); (case hp1 => first | rfl | simp only [sim_pure]); (case h => ((try simp only [adopt_own, adopt_e, adopt_ag, adopt_tu, hp_tok, true_and]); exact Kq.here _ _))) ?_
    refine st tok (by rfl) (by simp (disch := omega) only [sim_assign, seval, Ty.agg, tb_4]; (repeat' refine And.intro ?_ ?_) <;> first | exact Kq.here _ _ | omega | assumption | with_reducible rfl) ?_
    refine SOps.nil (hK _ _ ?_)
    clear hK
    dsimp only
    -- stop: ret (live 6)
    refine AW.ret ?_
    dsimp only
    simp only [RetV, resD, sim_all, ↓fieldOff_eq, ↓newsV_eq, ↓sliceV_eq, ↓lenV_eq, seval, Ty.agg, tb_all]
    exact .inl trivial
  · have hfew : x.fewB = true := hf
    have hok' : x.Ok := x.okB_iff.1 (by unfold LEnd.fewB at hfew; rw [Bool.and_eq_true] at hfew; exact hfew.2)
    have hq := hok'.ql
    have hl := hok'.held_len
    have hrok := hok'.receive f
    have hrq := hrok.ql
    have hrl := hrok.held_len
    have hr64 : ∀ g ∈ (x.receive f).1.held, I64 g.1 := by
      intro g hg
      have := (hrok.ho g hg)
      have h1 := grows_mem hrok.hg g hg
      have h2 := hrok.w1
      unfold I64
      have h3 := this.2.1
      omega
    have hrb : (x.receive f).1.okB = true := ((x.receive f).1.okB_iff).2 hrok
    obtain ⟨y, n, hy1, hy2, hs1, hs2⟩ : ∃ (y : LEnd) (n : Int), y.queue.length ≤ 65 ∧ y.held.length ≤ 7 ∧ PCalls Try.prog 12 [endD x, .e (.lit (.string t))] (.tu [endD y, .e (.lit (.int .i64 n))]) ∧ PCalls Try.prog 13 [endD x, .e (.lit (.string t))] (sentD y n) := by
      refine ⟨_, _, ?_, ?_, a_Send x t, r_Send x t⟩
      · split
        · simp [LEnd.send]; omega
        · omega
      · split <;> exact hl
    obtain ⟨z, l, hz1, hz2, hz3, hz4, hz5, hr1, hr2⟩ : ∃ (z : LEnd) (l : List ByteArray), z.queue.length ≤ 64 ∧ z.held.length ≤ 7 ∧ (∀ g ∈ z.held, I64 g.1) ∧ z.okB = true ∧ l.length ≤ 1000000 ∧ PCalls Try.prog 14 [endD x, frD f] (.tu [endD z, .e (.sl 1 l.length (l.map sE))]) ∧ PCalls Try.prog 15 [endD x, frD f] (gotD z l) :=
      ⟨_, _, hrq, hrl, hr64, hrb, receive_len x f hok', a_Receive x f hok', r_Receive x f hok'⟩
    have hfr := a_Frames x ⟨hok'.b1, hok'.b2⟩ hq
    have hfr2 := r_Frames x ⟨hok'.b1, hok'.b2⟩ hq
    have hfl : x.frames.length ≤ 1000000 := by
      unfold LEnd.frames
      split
      · simp
      · simp; omega
    refine AW.skip ?_
    dsimp only
    refine AW.seq ?_
    refine AW.regS tbl (by rw [hx]; kernel_rfl) (fun K hK => ?_)
    iterate 2 refine st tok (by rfl) (by simp (disch := omega) only [sim_load, seval, Ty.agg, tb_3, tb_9, tb_22, tb_23, tb_25, tb_74, endD, frD, sentD, gotD, sim_move]; (repeat' refine And.intro ?_ ?_) <;> first | exact Kq.here _ _ | omega | assumption | with_reducible rfl) ?_
    -- stop: call ['f', 12] (line 42)
    refine st tok (by rfl) (by simp (disch := omega) only [sim_call, ↓newsV_eq, ↓lenV_eq, seval, Ty.agg, tb_3, tb_9, tb_22, tb_23, tb_25, tb_74, endD, frD, sentD, gotD]; (repeat refine And.intro (by omega) ?_); apply call_of; (case ha => simp only [sim_ex]; exact rfl); (case hc => exact (hs1)); (case hp1 => first | rfl | simp only [sim_pure]); (case h => ((try simp only [adopt_own, adopt_e, adopt_ag, adopt_tu, hp_tok, true_and, endD, frD, sentD, gotD]); exact Kq.here _ _))) ?_
    iterate 6 (first | refine st tok (by rfl) (by simp (disch := omega) only [sim_move, seval, Ty.agg, endD, frD, sentD, gotD, sim_extract, sim_alloc, tb_3, tb_9, tb_22, tb_23, tb_25, tb_74, sim_store, sim_assign, tb_29]; (repeat' refine And.intro ?_ ?_) <;> first | exact Kq.here _ _ | omega | assumption | with_reducible rfl) ?_ | refine st_n tok (by rfl) (by simp (disch := omega) only [sim_move, seval, Ty.agg, endD, frD, sentD, gotD, sim_extract, sim_alloc, tb_3, tb_9, tb_22, tb_23, tb_25, tb_74, sim_store, sim_assign, tb_29]; (repeat' refine And.intro ?_ ?_) <;> first | exact Kq.here _ _ | omega | assumption | with_reducible rfl) ?_)
    refine SOps.nil (hK _ _ ?_)
    clear hK
    dsimp only
    refine AW.keep [1, 3, 5, 8, 9] ?_
    simp only [keepT_cons, keepT_nil, keepO_some, keepO_none, lk_cons, lk_nil, Nat.reduceBEq, cond_true, cond_false]
    refine AW.seq ?_
    refine AW.regS tbl (by rw [hx]; kernel_rfl) (fun K hK => ?_)
    iterate 2 refine st tok (by rfl) (by simp (disch := omega) only [sim_load, seval, Ty.agg, tb_3, tb_9, tb_22, tb_23, tb_25, tb_74, endD, frD, sentD, gotD, sim_move]; (repeat' refine And.intro ?_ ?_) <;> first | exact Kq.here _ _ | omega | assumption | with_reducible rfl) ?_
    -- stop: call ['f', 13] (line 43)
    refine st tok (by rfl) (by simp (disch := omega) only [sim_call, ↓newsV_eq, ↓lenV_eq, seval, Ty.agg, tb_3, tb_9, tb_22, tb_23, tb_25, tb_29, tb_35, tb_74, endD, frD, sentD, gotD]; (repeat refine And.intro (by omega) ?_); apply call_of; (case ha => simp only [sim_ex]; exact rfl); (case hc => exact (hs2)); (case hp1 => first | rfl | simp only [sim_pure]); (case h => ((try simp only [adopt_own, adopt_e, adopt_ag, adopt_tu, hp_tok, true_and, endD, frD, sentD, gotD]); exact Kq.here _ _))) ?_
    iterate 2 (first | refine st tok (by rfl) (by simp (disch := omega) only [sim_alloc, seval, Ty.agg, tb_3, tb_9, tb_22, tb_23, tb_25, tb_29, tb_35, tb_74, endD, frD, sentD, gotD, sim_store]; (repeat' refine And.intro ?_ ?_) <;> first | exact Kq.here _ _ | omega | assumption | with_reducible rfl) ?_ | refine st_n tok (by rfl) (by simp (disch := omega) only [sim_alloc, seval, Ty.agg, tb_3, tb_9, tb_22, tb_23, tb_25, tb_29, tb_35, tb_74, endD, frD, sentD, gotD, sim_store]; (repeat' refine And.intro ?_ ?_) <;> first | exact Kq.here _ _ | omega | assumption | with_reducible rfl) ?_)
    refine SOps.nil (hK _ _ ?_)
    clear hK
    dsimp only
    refine AW.keep [3, 5, 8, 9, 10] ?_
    simp only [keepT_cons, keepT_nil, keepO_some, keepO_none, lk_cons, lk_nil, Nat.reduceBEq, cond_true, cond_false]
    refine AW.seq ?_
    refine AW.regS tbl (by rw [hx]; kernel_rfl) (fun K hK => ?_)
    iterate 2 refine st tok (by rfl) (by simp (disch := omega) only [sim_load, seval, Ty.agg, tb_3, tb_9, tb_22, tb_23, tb_25, tb_74, endD, frD, sentD, gotD, tb_27]; (repeat' refine And.intro ?_ ?_) <;> first | exact Kq.here _ _ | omega | assumption | with_reducible rfl) ?_
    -- stop: call ['f', 14] (line 44)
    refine st tok (by rfl) (by simp (disch := omega) only [sim_call, ↓newsV_eq, ↓lenV_eq, seval, Ty.agg, tb_3, tb_9, tb_22, tb_23, tb_25, tb_27, tb_74, endD, frD, sentD, gotD]; (repeat refine And.intro (by omega) ?_); apply call_of; (case ha => simp only [sim_ex]; exact rfl); (case hc => exact (hr1)); (case hp1 => first | rfl | simp only [sim_pure]); (case h => ((try simp only [adopt_own, adopt_e, adopt_ag, adopt_tu, hp_tok, true_and, endD, frD, sentD, gotD]); exact Kq.here _ _))) ?_
    iterate 6 (first | refine st tok (by rfl) (by simp (disch := omega) only [sim_move, seval, Ty.agg, endD, frD, sentD, gotD, sim_extract, sim_alloc, tb_3, tb_9, tb_22, tb_23, tb_25, tb_74, sim_store, sim_assign]; (repeat' refine And.intro ?_ ?_) <;> first | exact Kq.here _ _ | omega | assumption | with_reducible rfl) ?_ | refine st_n tok (by rfl) (by simp (disch := omega) only [sim_move, seval, Ty.agg, endD, frD, sentD, gotD, sim_extract, sim_alloc, tb_3, tb_9, tb_22, tb_23, tb_25, tb_74, sim_store, sim_assign]; (repeat' refine And.intro ?_ ?_) <;> first | exact Kq.here _ _ | omega | assumption | with_reducible rfl) ?_)
    refine SOps.nil (hK _ _ ?_)
    clear hK
    dsimp only
    refine AW.keep [3, 5, 8, 9, 10, 11, 12] ?_
    simp only [keepT_cons, keepT_nil, keepO_some, keepO_none, lk_cons, lk_nil, Nat.reduceBEq, cond_true, cond_false]
    refine AW.seq ?_
    refine AW.regS tbl (by rw [hx]; kernel_rfl) (fun K hK => ?_)
    iterate 2 refine st tok (by rfl) (by simp (disch := omega) only [sim_load, seval, Ty.agg, tb_3, tb_9, tb_22, tb_23, tb_25, tb_74, endD, frD, sentD, gotD, tb_27]; (repeat' refine And.intro ?_ ?_) <;> first | exact Kq.here _ _ | omega | assumption | with_reducible rfl) ?_
    -- stop: call ['f', 15] (line 45)
    refine st tok (by rfl) (by simp (disch := omega) only [sim_call, ↓newsV_eq, ↓lenV_eq, seval, Ty.agg, tb_3, tb_9, tb_22, tb_23, tb_25, tb_27, tb_40, tb_74, endD, frD, sentD, gotD]; (repeat refine And.intro (by omega) ?_); apply call_of; (case ha => simp only [sim_ex]; exact rfl); (case hc => exact (hr2)); (case hp1 => first | rfl | simp only [sim_pure]); (case h => ((try simp only [adopt_own, adopt_e, adopt_ag, adopt_tu, hp_tok, true_and, endD, frD, sentD, gotD]); exact Kq.here _ _))) ?_
    iterate 2 (first | refine st tok (by rfl) (by simp (disch := omega) only [sim_alloc, seval, Ty.agg, tb_3, tb_9, tb_22, tb_23, tb_25, tb_40, tb_74, endD, frD, sentD, gotD, sim_store]; (repeat' refine And.intro ?_ ?_) <;> first | exact Kq.here _ _ | omega | assumption | with_reducible rfl) ?_ | refine st_n tok (by rfl) (by simp (disch := omega) only [sim_alloc, seval, Ty.agg, tb_3, tb_9, tb_22, tb_23, tb_25, tb_40, tb_74, endD, frD, sentD, gotD, sim_store]; (repeat' refine And.intro ?_ ?_) <;> first | exact Kq.here _ _ | omega | assumption | with_reducible rfl) ?_)
    refine SOps.nil (hK _ _ ?_)
    clear hK
    dsimp only
    refine AW.keep [3, 8, 9, 10, 11, 12, 13] ?_
    simp only [keepT_cons, keepT_nil, keepO_some, keepO_none, lk_cons, lk_nil, Nat.reduceBEq, cond_true, cond_false]
    refine AW.seq ?_
    refine AW.regS tbl (by rw [hx]; kernel_rfl) (fun K hK => ?_)
    iterate 5 refine st tok (by rfl) (by simp (disch := omega) only [sim_move, seval, Ty.agg, endD, frD, sentD, gotD, sim_fieldAddr, ↓fieldOff_eq, tb_3, tb_9, tb_22, tb_23, tb_25, tb_29, tb_35, tb_74, sim_load, sim_binOp]; (repeat' refine And.intro ?_ ?_) <;> first | exact Kq.here _ _ | omega | assumption | with_reducible rfl) ?_
    refine st_opt tok (by rfl) rfl (by simp only [sim_ev, Nat.reduceBEq]; rfl) (bq_t _) (fun hgd => by (have hgq := hgd; (try simp only [sim_bool] at hgq)); simp (disch := omega) only [hgd, sim_un, sim_load, seval, Ty.agg, tb_3, tb_9, tb_22, tb_23, tb_25, tb_74, endD, frD, sentD, gotD]; (repeat' refine And.intro ?_ ?_) <;> first | exact Kq.here _ _ | omega | assumption | with_reducible rfl) (by first | exact Or.inl rfl | exact Or.inr ⟨_, _, _, .tmp 8, rfl, by simp [Op.operands, Call.operands], by simp only [sim_ev, Nat.reduceBEq]; first | exact Or.inl rfl | exact Or.inr ⟨_, rfl⟩⟩) ?_
    refine st_opt tok (by rfl) rfl (by simp only [sim_ev, Nat.reduceBEq]; rfl) (bq_t _) (fun hgd => by (have hgq := hgd; (try simp only [sim_bool] at hgq)); simp (disch := omega) only [hgd, sim_un, sim_fieldAddr, ↓fieldOff_eq, seval, Ty.agg, tb_3, tb_9, tb_22, tb_23, tb_25, tb_29, tb_35, tb_74, endD, frD, sentD, gotD]; (repeat' refine And.intro ?_ ?_) <;> first | exact Kq.here _ _ | omega | assumption | with_reducible rfl) (by first | exact Or.inl rfl | exact Or.inr ⟨_, _, _, .tmp 10, rfl, by simp [Op.operands, Call.operands], by simp only [sim_ev, Nat.reduceBEq]; first | exact Or.inl rfl | exact Or.inr ⟨_, rfl⟩⟩) ?_
    refine st_opt tok (by rfl) rfl (by simp only [sim_ev, Nat.reduceBEq]; rfl) (bq_t _) (fun hgd => by (have hgq := hgd; (try simp only [sim_bool] at hgq)); simp (disch := omega) only [hgd, sim_un, sim_load, seval, Ty.agg, tb_3, tb_9, tb_22, tb_23, tb_25, tb_74, endD, frD, sentD, gotD]; (repeat' refine And.intro ?_ ?_) <;> first | exact Kq.here _ _ | omega | assumption | with_reducible rfl) (by first | exact Or.inl rfl | exact Or.inr ⟨_, _, _, .tmp 49, rfl, by simp [Op.operands, Call.operands], by simp only [sim_ev, Nat.reduceBEq]; first | exact Or.inl rfl | exact Or.inr ⟨_, rfl⟩⟩) ?_
    -- stop: call ['f', 16] (line 46)
    refine st_opt tok (by rfl) rfl (by simp only [sim_ev, Nat.reduceBEq]; rfl) (bq_t _) (fun hgd => by (have hgq := hgd; (try simp only [sim_bool] at hgq)); simp (disch := omega) only [hgd, sim_un, sim_call, ↓newsV_eq, ↓lenV_eq, seval, Ty.agg, tb_3, tb_4, tb_9, tb_22, tb_23, tb_25, tb_74, endD, frD, sentD, gotD]; (repeat refine And.intro (by omega) ?_); apply call_of; (case ha => simp only [sim_ex]; exact rfl); (case hc => exact (r_Same y (by omega) (by omega))); (case hp1 => first | rfl | simp only [sim_pure]); (case h => ((try simp only [adopt_own, adopt_e, adopt_ag, adopt_tu, hp_tok, true_and, endD, frD, sentD, gotD]); exact Kq.here _ _))) (by first | exact Or.inl rfl | exact Or.inr ⟨_, _, _, .tmp 48, rfl, by simp [Op.operands, Call.operands], by simp only [sim_ev, Nat.reduceBEq]; first | exact Or.inl rfl | exact Or.inr ⟨_, rfl⟩⟩) ?_
    refine st_and tok (by simp only [sim_ev, Nat.reduceBEq]; rfl) (fun hgd => by simp only [sim_ev, Nat.reduceBEq, sim_un, hgd, cond_true, Bool.not_false, Bool.not_true]; rfl) ?_
    refine st tok (by rfl) (by simp (disch := omega) only [sim_move, seval, Ty.agg, endD, frD, sentD, gotD]; (repeat' refine And.intro ?_ ?_) <;> first | exact Kq.here _ _ | omega | assumption | with_reducible rfl) ?_
    refine st_opt tok (by rfl) rfl (by simp only [sim_ev, Nat.reduceBEq]; rfl) (bq_t _) (fun hgd => by (have hgq := hgd; (try simp only [sim_bool] at hgq)); simp (disch := omega) only [hgd, sim_un, sim_load, seval, Ty.agg, tb_3, tb_9, tb_22, tb_23, tb_25, tb_74, endD, frD, sentD, gotD]; (repeat' refine And.intro ?_ ?_) <;> first | exact Kq.here _ _ | omega | assumption | with_reducible rfl) (by first | exact Or.inl rfl | exact Or.inr ⟨_, _, _, .tmp 11, rfl, by simp [Op.operands, Call.operands], by simp only [sim_ev, Nat.reduceBEq]; first | exact Or.inl rfl | exact Or.inr ⟨_, rfl⟩⟩) ?_
    refine st_opt tok (by rfl) rfl (by simp only [sim_ev, Nat.reduceBEq]; rfl) (bq_t _) (fun hgd => by (have hgq := hgd; (try simp only [sim_bool] at hgq)); simp (disch := omega) only [hgd, sim_un, sim_fieldAddr, ↓fieldOff_eq, seval, Ty.agg, tb_3, tb_9, tb_22, tb_23, tb_25, tb_40, tb_74, endD, frD, sentD, gotD]; (repeat' refine And.intro ?_ ?_) <;> first | exact Kq.here _ _ | omega | assumption | with_reducible rfl) (by first | exact Or.inl rfl | exact Or.inr ⟨_, _, _, .tmp 13, rfl, by simp [Op.operands, Call.operands], by simp only [sim_ev, Nat.reduceBEq]; first | exact Or.inl rfl | exact Or.inr ⟨_, rfl⟩⟩) ?_
    refine st_opt tok (by rfl) rfl (by simp only [sim_ev, Nat.reduceBEq]; rfl) (bq_t _) (fun hgd => by (have hgq := hgd; (try simp only [sim_bool] at hgq)); simp (disch := omega) only [hgd, sim_un, sim_load, seval, Ty.agg, tb_3, tb_9, tb_22, tb_23, tb_25, tb_74, endD, frD, sentD, gotD]; (repeat' refine And.intro ?_ ?_) <;> first | exact Kq.here _ _ | omega | assumption | with_reducible rfl) (by first | exact Or.inl rfl | exact Or.inr ⟨_, _, _, .tmp 55, rfl, by simp [Op.operands, Call.operands], by simp only [sim_ev, Nat.reduceBEq]; first | exact Or.inl rfl | exact Or.inr ⟨_, rfl⟩⟩) ?_
    -- stop: call ['f', 16] (line 46)
    refine st_opt tok (by rfl) rfl (by simp only [sim_ev, Nat.reduceBEq]; rfl) (bq_t _) (fun hgd => by (have hgq := hgd; (try simp only [sim_bool] at hgq)); simp (disch := omega) only [hgd, sim_un, sim_call, ↓newsV_eq, ↓lenV_eq, seval, Ty.agg, tb_3, tb_4, tb_9, tb_22, tb_23, tb_25, tb_74, endD, frD, sentD, gotD]; (repeat refine And.intro (by omega) ?_); apply call_of; (case ha => simp only [sim_ex]; exact rfl); (case hc => exact (r_Same z (by omega) (by omega))); (case hp1 => first | rfl | simp only [sim_pure]); (case h => ((try simp only [adopt_own, adopt_e, adopt_ag, adopt_tu, hp_tok, true_and, endD, frD, sentD, gotD]); exact Kq.here _ _))) (by first | exact Or.inl rfl | exact Or.inr ⟨_, _, _, .tmp 54, rfl, by simp [Op.operands, Call.operands], by simp only [sim_ev, Nat.reduceBEq]; first | exact Or.inl rfl | exact Or.inr ⟨_, rfl⟩⟩) ?_
    refine st_and tok (by simp only [sim_ev, Nat.reduceBEq]; rfl) (fun hgd => by simp only [sim_ev, Nat.reduceBEq, sim_un, hgd, cond_true, Bool.not_false, Bool.not_true]; rfl) ?_
    refine st tok (by rfl) (by simp (disch := omega) only [sim_move, seval, Ty.agg, endD, frD, sentD, gotD]; (repeat' refine And.intro ?_ ?_) <;> first | exact Kq.here _ _ | omega | assumption | with_reducible rfl) ?_
    refine st_opt tok (by rfl) rfl (by simp only [sim_ev, Nat.reduceBEq]; rfl) (bq_t _) (fun hgd => by (have hgq := hgd; (try simp only [sim_bool] at hgq)); simp (disch := omega) only [hgd, sim_un, sim_move, seval, Ty.agg, endD, frD, sentD, gotD]; (repeat' refine And.intro ?_ ?_) <;> first | exact Kq.here _ _ | omega | assumption | with_reducible rfl) (by first | exact Or.inl rfl | exact Or.inr ⟨_, _, _, .tmp 12, rfl, by simp [Op.operands, Call.operands], by simp only [sim_ev, Nat.reduceBEq]; first | exact Or.inl rfl | exact Or.inr ⟨_, rfl⟩⟩) ?_
    refine st_opt tok (by rfl) rfl (by simp only [sim_ev, Nat.reduceBEq]; rfl) (bq_t _) (fun hgd => by (have hgq := hgd; (try simp only [sim_bool] at hgq)); simp (disch := omega) only [hgd, sim_un, sim_fieldAddr, ↓fieldOff_eq, seval, Ty.agg, tb_3, tb_9, tb_22, tb_23, tb_25, tb_40, tb_74, endD, frD, sentD, gotD]; (repeat' refine And.intro ?_ ?_) <;> first | exact Kq.here _ _ | omega | assumption | with_reducible rfl) (by first | exact Or.inl rfl | exact Or.inr ⟨_, _, _, .tmp 13, rfl, by simp [Op.operands, Call.operands], by simp only [sim_ev, Nat.reduceBEq]; first | exact Or.inl rfl | exact Or.inr ⟨_, rfl⟩⟩) ?_
    refine st_opt tok (by rfl) rfl (by simp only [sim_ev, Nat.reduceBEq]; rfl) (bq_t _) (fun hgd => by (have hgq := hgd; (try simp only [sim_bool] at hgq)); simp (disch := omega) only [hgd, sim_un, sim_load, seval, Ty.agg, tb_9, tb_22, endD, frD, sentD, gotD]; (repeat' refine And.intro ?_ ?_) <;> first | exact Kq.here _ _ | omega | assumption | with_reducible rfl) (by first | exact Or.inl rfl | exact Or.inr ⟨_, _, _, .tmp 61, rfl, by simp [Op.operands, Call.operands], by simp only [sim_ev, Nat.reduceBEq]; first | exact Or.inl rfl | exact Or.inr ⟨_, rfl⟩⟩) ?_
    -- stop: call ['f', 17] (line 46)
    refine st_opt tok (by rfl) rfl (by simp only [sim_ev, Nat.reduceBEq]; rfl) (bq_t _) (fun hgd => by (have hgq := hgd; (try simp only [sim_bool] at hgq)); simp (disch := omega) only [hgd, sim_un, sim_call, ↓newsV_eq, ↓lenV_eq, seval, Ty.agg, tb_4, tb_9, tb_22, endD, frD, sentD, gotD]; (repeat refine And.intro (by omega) ?_); apply call_of; (case ha => simp only [sim_ex]; exact rfl); (case hc => exact (r_SameTexts l hz5)); (case hp1 => first | rfl | simp only [sim_pure]); (case h => ((try simp only [adopt_own, adopt_e, adopt_ag, adopt_tu, hp_tok, true_and, endD, frD, sentD, gotD]); exact Kq.here _ _))) (by first | exact Or.inl rfl | exact Or.inr ⟨_, _, _, .tmp 60, rfl, by simp [Op.operands, Call.operands], by simp only [sim_ev, Nat.reduceBEq]; first | exact Or.inl rfl | exact Or.inr ⟨_, rfl⟩⟩) ?_
    refine st_and tok (by simp only [sim_ev, Nat.reduceBEq]; rfl) (fun hgd => by simp only [sim_ev, Nat.reduceBEq, sim_un, hgd, cond_true, Bool.not_false, Bool.not_true]; rfl) ?_
    refine st tok (by rfl) (by simp (disch := omega) only [sim_assign, seval, Ty.agg, tb_4, endD, frD, sentD, gotD]; (repeat' refine And.intro ?_ ?_) <;> first | exact Kq.here _ _ | omega | assumption | with_reducible rfl) ?_
    refine SOps.nil (hK _ _ ?_)
    clear hK
    dsimp only
    refine AW.keep [3, 11, 14] ?_
    simp only [keepT_cons, keepT_nil, keepO_some, keepO_none, lk_cons, lk_nil, Nat.reduceBEq, cond_true, cond_false]
    refine AW.seq ?_
    refine AW.drwS tbl [9, 10, 11, 19, 20, 18, 21] (by kernel_rfl) (by rw [hx]; kernel_rfl) (by kernel_rfl) (fun K hK => ?_)
    -- stop: call ['f', 11] (line 47)
    refine st_Q rfl (by apply q_call tok rfl; (case hc => (simp (disch := omega) only [sim_call, ↓newsV_eq, ↓lenV_eq, seval, Ty.agg, tb_4, endD, frD, sentD, gotD]; exact (s_sanity))); (case hp1 => (simp (disch := omega) only [sim_call, ↓newsV_eq, ↓lenV_eq, seval, Ty.agg, tb_4, endD, frD, sentD, gotD]; first | done | rfl | simp only [sim_pure])); (case hr => first | exact .inl rfl | exact .inr ⟨_, rfl⟩)) ?_
    simp only [put_some, put_none, endD, frD, sentD, gotD]
    refine st tok (by rfl) (by simp (disch := omega) only [sim_move, seval, Ty.agg, endD, frD, sentD, gotD]; (repeat' refine And.intro ?_ ?_) <;> first | exact Kq.here _ _ | omega | assumption | with_reducible rfl) ?_
    refine st_opt tok (by rfl) rfl (by simp only [sim_ev, Nat.reduceBEq]; rfl) (bq_t _) (fun hgd => by (have hgq := hgd; (try simp only [sim_bool] at hgq)); simp (disch := omega) only [hgd, sim_un, sim_move, seval, Ty.agg, endD, frD, sentD, gotD]; (repeat' refine And.intro ?_ ?_) <;> first | exact Kq.here _ _ | omega | assumption | with_reducible rfl) (by first | exact Or.inl rfl | exact Or.inr ⟨_, _, _, .tmp 14, rfl, by simp [Op.operands, Call.operands], by simp only [sim_ev, Nat.reduceBEq]; first | exact Or.inl rfl | exact Or.inr ⟨_, rfl⟩⟩) ?_
    refine st_and tok (by simp only [sim_ev, Nat.reduceBEq]; rfl) (fun hgd => by simp only [sim_ev, Nat.reduceBEq, sim_un, hgd, cond_true, Bool.not_false, Bool.not_true]; rfl) ?_
    refine st tok (by rfl) (by simp (disch := omega) only [sim_move, seval, Ty.agg, endD, frD, sentD, gotD]; (repeat' refine And.intro ?_ ?_) <;> first | exact Kq.here _ _ | omega | assumption | with_reducible rfl) ?_
    refine st_opt tok (by rfl) rfl (by simp only [sim_ev, Nat.reduceBEq]; rfl) (bq_t _) (fun hgd => by (have hgq := hgd; (try simp only [sim_bool] at hgq)); simp (disch := omega) only [hgd, sim_un, sim_load, seval, Ty.agg, tb_3, tb_9, tb_22, tb_23, tb_25, tb_74, endD, frD, sentD, gotD]; (repeat' refine And.intro ?_ ?_) <;> first | exact Kq.here _ _ | omega | assumption | with_reducible rfl) (by first | exact Or.inl rfl | exact Or.inr ⟨_, _, _, .tmp 3, rfl, by simp [Op.operands, Call.operands], by simp only [sim_ev, Nat.reduceBEq]; first | exact Or.inl rfl | exact Or.inr ⟨_, rfl⟩⟩) ?_
    -- stop: call ['f', 19] (line 47)
    refine st_optQ rfl (by simp only [sim_ev, Nat.reduceBEq]; rfl) (bq_t _) (fun hgd => by (have hgq := hgd; (try simp only [sim_bool] at hgq)); apply q_call tok rfl; (case hc => (simp (disch := omega) only [sim_un, hgd, sim_call, ↓newsV_eq, ↓lenV_eq, seval, Ty.agg, tb_3, tb_9, tb_22, tb_23, tb_25, tb_27, tb_45, tb_74, endD, frD, sentD, gotD]; exact (hfr))); (case hp1 => (simp (disch := omega) only [sim_un, hgd, sim_call, ↓newsV_eq, ↓lenV_eq, seval, Ty.agg, tb_3, tb_9, tb_22, tb_23, tb_25, tb_27, tb_45, tb_74, endD, frD, sentD, gotD]; first | done | rfl | simp only [sim_pure])); (case hr => first | exact .inl rfl | exact .inr ⟨_, rfl⟩)) (by exact Or.inl rfl) ?_
    refine st_opt tok (by rfl) rfl (by simp only [sim_ev, Nat.reduceBEq]; rfl) (bq_t _) (fun hgd => by (have hgq := hgd; (try simp only [sim_bool] at hgq)); simp (disch := omega) only [hgd, sim_un, sim_load, seval, Ty.agg, tb_3, tb_9, tb_22, tb_23, tb_25, tb_74, endD, frD, sentD, gotD]; (repeat' refine And.intro ?_ ?_) <;> first | exact Kq.here _ _ | omega | assumption | with_reducible rfl) (by first | exact Or.inl rfl | exact Or.inr ⟨_, _, _, .tmp 3, rfl, by simp [Op.operands, Call.operands], by simp only [sim_ev, Nat.reduceBEq]; first | exact Or.inl rfl | exact Or.inr ⟨_, rfl⟩⟩) ?_
    -- stop: call ['f', 20] (line 47)
    refine st_optQ rfl (by simp only [sim_ev, Nat.reduceBEq]; rfl) (bq_t _) (fun hgd => by (have hgq := hgd; (try simp only [sim_bool] at hgq)); apply q_call tok rfl; (case hc => (simp (disch := omega) only [sim_un, hgd, sim_call, ↓newsV_eq, ↓lenV_eq, seval, Ty.agg, tb_3, tb_9, tb_22, tb_23, tb_25, tb_27, tb_45, tb_74, endD, frD, sentD, gotD]; exact (hfr2))); (case hp1 => (simp (disch := omega) only [sim_un, hgd, sim_call, ↓newsV_eq, ↓lenV_eq, seval, Ty.agg, tb_3, tb_9, tb_22, tb_23, tb_25, tb_27, tb_45, tb_74, endD, frD, sentD, gotD]; first | done | rfl | simp only [sim_pure])); (case hr => first | exact .inl rfl | exact .inr ⟨_, rfl⟩)) (by exact Or.inl rfl) ?_
    -- stop: call ['f', 18] (line 47)
    refine st_optQ rfl (by simp only [sim_ev, Nat.reduceBEq]; rfl) (bq_t _) (fun hgd => by (have hgq := hgd; (try simp only [sim_bool] at hgq)); apply q_call tok rfl; (case hc => (simp (disch := omega) only [sim_un, hgd, sim_call, ↓newsV_eq, ↓lenV_eq, seval, Ty.agg, tb_3, tb_4, tb_9, tb_27, tb_45, endD, frD, sentD, gotD]; exact (r_SameFrames x.frames hfl))); (case hp1 => (simp (disch := omega) only [sim_un, hgd, sim_call, ↓newsV_eq, ↓lenV_eq, seval, Ty.agg, tb_3, tb_4, tb_9, tb_27, tb_45, endD, frD, sentD, gotD]; first | done | rfl | simp only [sim_pure])); (case hr => first | exact .inl rfl | exact .inr ⟨_, rfl⟩)) (by exact Or.inl rfl) ?_
    refine st_and tok (by simp only [sim_ev, Nat.reduceBEq]; rfl) (fun hgd => by simp only [sim_ev, Nat.reduceBEq, sim_un, hgd, cond_true, Bool.not_false, Bool.not_true]; rfl) ?_
    refine st tok (by rfl) (by simp (disch := omega) only [sim_move, seval, Ty.agg, endD, frD, sentD, gotD]; (repeat' refine And.intro ?_ ?_) <;> first | exact Kq.here _ _ | omega | assumption | with_reducible rfl) ?_
    refine st_opt tok (by rfl) rfl (by simp only [sim_ev, Nat.reduceBEq]; rfl) (bq_t _) (fun hgd => by (have hgq := hgd; (try simp only [sim_bool] at hgq)); simp (disch := omega) only [hgd, sim_un, sim_load, seval, Ty.agg, tb_3, tb_9, tb_22, tb_23, tb_25, tb_74, endD, frD, sentD, gotD]; (repeat' refine And.intro ?_ ?_) <;> first | exact Kq.here _ _ | omega | assumption | with_reducible rfl) (by first | exact Or.inl rfl | exact Or.inr ⟨_, _, _, .tmp 3, rfl, by simp [Op.operands, Call.operands], by simp only [sim_ev, Nat.reduceBEq]; first | exact Or.inl rfl | exact Or.inr ⟨_, rfl⟩⟩) ?_
    -- stop: call ['f', 21] (line 47)
    refine st_optQ rfl (by simp only [sim_ev, Nat.reduceBEq]; rfl) (bq_t _) (fun hgd => by (have hgq := hgd; (try simp only [sim_bool] at hgq)); apply q_call tok rfl; (case hc => (simp (disch := omega) only [sim_un, hgd, sim_call, ↓newsV_eq, ↓lenV_eq, seval, Ty.agg, tb_3, tb_4, tb_9, tb_22, tb_23, tb_25, tb_74, und_b, endD, frD, sentD, gotD]; exact (a_Idle x))); (case hp1 => (simp (disch := omega) only [sim_un, hgd, sim_call, ↓newsV_eq, ↓lenV_eq, seval, Ty.agg, tb_3, tb_4, tb_9, tb_22, tb_23, tb_25, tb_74, und_b, endD, frD, sentD, gotD]; first | done | rfl | simp only [sim_pure])); (case hr => first | exact .inl rfl | exact .inr ⟨_, rfl⟩)) (by exact Or.inl rfl) ?_
    refine st_opt tok (by rfl) rfl (by simp only [sim_ev, Nat.reduceBEq]; rfl) (bq_t _) (fun hgd => by (have hgq := hgd; (try simp only [sim_bool] at hgq)); simp (disch := omega) only [hgd, sim_un, sim_fieldAddr, ↓fieldOff_eq, seval, Ty.agg, tb_3, tb_9, tb_22, tb_23, tb_25, tb_74, und_b, endD, frD, sentD, gotD]; (repeat' refine And.intro ?_ ?_) <;> first | exact Kq.here _ _ | omega | assumption | with_reducible rfl) (by first | exact Or.inl rfl | exact Or.inr ⟨_, _, _, .tmp 3, rfl, by simp [Op.operands, Call.operands], by simp only [sim_ev, Nat.reduceBEq]; first | exact Or.inl rfl | exact Or.inr ⟨_, rfl⟩⟩) ?_
    refine st_opt tok (by rfl) rfl (by simp only [sim_ev, Nat.reduceBEq]; rfl) (bq_t _) (fun hgd => by (have hgq := hgd; (try simp only [sim_bool] at hgq)); simp (disch := omega) only [hgd, sim_un, sim_load, seval, Ty.agg, tb_9, tb_22, und_b, endD, frD, sentD, gotD]; (repeat' refine And.intro ?_ ?_) <;> first | exact Kq.here _ _ | omega | assumption | with_reducible rfl) (by first | exact Or.inl rfl | exact Or.inr ⟨_, _, _, .tmp 79, rfl, by simp [Op.operands, Call.operands], by simp only [sim_ev, Nat.reduceBEq]; first | exact Or.inl rfl | exact Or.inr ⟨_, rfl⟩⟩) ?_
    refine st_opt tok (by rfl) rfl (by simp only [sim_ev, Nat.reduceBEq]; rfl) (bq_t _) (fun hgd => by (have hgq := hgd; (try simp only [sim_bool] at hgq)); simp (disch := omega) only [hgd, sim_un, sim_call, ↓newsV_eq, ↓lenV_eq, seval, Ty.agg, tb_3, tb_9, tb_22, und_b, endD, frD, sentD, gotD]; (repeat' refine And.intro ?_ ?_) <;> first | exact Kq.here _ _ | omega | assumption | with_reducible rfl) (by first | exact Or.inl rfl | exact Or.inr ⟨_, _, _, .tmp 80, rfl, by simp [Op.operands, Call.operands], by simp only [sim_ev, Nat.reduceBEq]; first | exact Or.inl rfl | exact Or.inr ⟨_, rfl⟩⟩) ?_
    refine st_opt tok (by rfl) rfl (by simp only [sim_ev, Nat.reduceBEq]; rfl) (bq_t _) (fun hgd => by (have hgq := hgd; (try simp only [sim_bool] at hgq)); simp (disch := omega) only [hgd, sim_un, sim_binOp, seval, Ty.agg, tb_3, und_b, endD, frD, sentD, gotD]; (repeat' refine And.intro ?_ ?_) <;> first | exact Kq.here _ _ | omega | assumption | with_reducible rfl) (by first | exact Or.inl rfl | exact Or.inr ⟨_, _, _, .tmp 81, rfl, by simp [Op.operands, Call.operands], by simp only [sim_ev, Nat.reduceBEq]; first | exact Or.inl rfl | exact Or.inr ⟨_, rfl⟩⟩) ?_
    refine st_opt tok (by rfl) rfl (by simp only [sim_ev, Nat.reduceBEq]; rfl) (bq_t _) (fun hgd => by (have hgq := hgd; (try simp only [sim_bool] at hgq)); simp (disch := omega) only [hgd, sim_un, sim_binOp, seval, Ty.agg, tb_4, und_b, endD, frD, sentD, gotD]; (repeat' refine And.intro ?_ ?_) <;> first | exact Kq.here _ _ | omega | assumption | with_reducible rfl) (by first | exact Or.inl rfl | exact Or.inr ⟨_, _, _, .tmp 78, rfl, by simp [Op.operands, Call.operands], by simp only [sim_ev, Nat.reduceBEq]; first | exact Or.inl rfl | exact Or.inr ⟨_, rfl⟩⟩) ?_
    refine st_and tok (by simp only [sim_ev, Nat.reduceBEq]; rfl) (fun hgd => by simp only [sim_ev, Nat.reduceBEq, sim_un, hgd, cond_true, Bool.not_false, Bool.not_true]; rfl) ?_
    refine st tok (by rfl) (by simp (disch := omega) only [sim_move, seval, Ty.agg, und_b, endD, frD, sentD, gotD]; (repeat' refine And.intro ?_ ?_) <;> first | exact Kq.here _ _ | omega | assumption | with_reducible rfl) ?_
    refine st_opt tok (by rfl) rfl (by simp only [sim_ev, Nat.reduceBEq]; rfl) (bq_t _) (fun hgd => by (have hgq := hgd; (try simp only [sim_bool] at hgq)); simp (disch := omega) only [hgd, sim_un, sim_load, seval, Ty.agg, tb_3, tb_9, tb_22, tb_23, tb_25, tb_74, und_b, endD, frD, sentD, gotD]; (repeat' refine And.intro ?_ ?_) <;> first | exact Kq.here _ _ | omega | assumption | with_reducible rfl) (by first | exact Or.inl rfl | exact Or.inr ⟨_, _, _, .tmp 11, rfl, by simp [Op.operands, Call.operands], by simp only [sim_ev, Nat.reduceBEq]; first | exact Or.inl rfl | exact Or.inr ⟨_, rfl⟩⟩) ?_
    -- stop: call ['f', 9] (line 47)
    refine st_optQ rfl (by simp only [sim_ev, Nat.reduceBEq]; rfl) (bq_t _) (fun hgd => by (have hgq := hgd; (try simp only [sim_bool] at hgq)); apply q_call tok rfl; (case hc => (simp (disch := omega) only [sim_un, hgd, sim_call, ↓newsV_eq, ↓lenV_eq, seval, Ty.agg, tb_3, tb_9, tb_22, tb_23, tb_25, tb_29, tb_74, errV, endD, frD, sentD, gotD]; exact (a_Check z hz3))); (case hp1 => (simp (disch := omega) only [sim_un, hgd, sim_call, ↓newsV_eq, ↓lenV_eq, seval, Ty.agg, tb_3, tb_9, tb_22, tb_23, tb_25, tb_29, tb_74, errV, endD, frD, sentD, gotD]; first | done | rfl | simp only [sim_pure])); (case hr => first | exact .inl rfl | exact .inr ⟨_, rfl⟩)) (by exact Or.inl rfl) ?_
    refine st_opt tok (by rfl) rfl (by simp only [sim_ev, Nat.reduceBEq]; rfl) (bq_t _) (fun hgd => by (have hgq := hgd; (try simp only [sim_bool] at hgq)); simp (disch := omega) only [hgd, sim_un, sim_binOp, seval, Ty.agg, tb_29, errV, endD, frD, sentD, gotD]; (repeat' refine And.intro ?_ ?_) <;> first | exact Kq.here _ _ | omega | assumption | with_reducible rfl) (by first | exact Or.inl rfl | exact Or.inr ⟨_, _, _, .tmp 87, rfl, by simp [Op.operands, Call.operands], by simp only [sim_ev, Nat.reduceBEq]; first | exact Or.inl rfl | exact Or.inr ⟨_, rfl⟩⟩) ?_
    refine st_and tok (by simp only [sim_ev, Nat.reduceBEq]; rfl) (fun hgd => by simp only [sim_ev, Nat.reduceBEq, sim_un, hgd, cond_true, Bool.not_false, Bool.not_true]; rfl) ?_
    refine st tok (by rfl) (by simp (disch := omega) only [sim_assign, seval, Ty.agg, tb_4, errV, endD, frD, sentD, gotD]; (repeat' refine And.intro ?_ ?_) <;> first | exact Kq.here _ _ | omega | assumption | with_reducible rfl) ?_
    refine SOps.nil (hK _ _ ?_)
    clear hK
    dsimp only
    refine AW.keep [6] ?_
    simp only [keepT_cons, keepT_nil, keepO_some, keepO_none, lk_cons, lk_nil, Nat.reduceBEq, cond_true, cond_false]
    -- stop: ret (live 6)
    refine AW.ret ?_
    dsimp only
    simp only [RetV, resD, sim_all, ↓fieldOff_eq, ↓newsV_eq, ↓sliceV_eq, ↓lenV_eq, seval, Ty.agg, tb_all]
    left
    rw [hz4]
    simp
end Go.Proofs.Ytakbadleipbngaa
