/-
  layer 42: Receive, and the specification's. Conditions: none.
-/
import Derived.Test.YtakbadleipbngaaLinkK2
set_option linter.all false
namespace Go.Proofs.Ytakbadleipbngaa
open Go.RowKit
/-- The end behind i handlers, and what was delivered. -/
def stage (x : LEnd) (f : LFrame) : Nat → LEnd
  | 0 => x
  | 1 => x.acked f
  | 2 => (x.acked f).holds f
  | _ => (((x.acked f).holds f).gives f).1
def outs (x : LEnd) (f : LFrame) : Nat → List ByteArray
  | 3 => (((x.acked f).holds f).gives f).2
  | _ => []
def zeroC : List D := [.e (.lit (.int .i64 0)), .e (.lit (.slice none 0 0)), .e (.lit (.int .i64 0)), .e (.lit (.slice none 0 0))]
def handD : D := .own 7 2 3 [.lit (.func (.func 35) #[] #[]), .lit (.func (.func 36) #[] #[]), .lit (.func (.func 37) #[] #[]), .lit (.func (.func 39) #[] #[]), .lit (.func (.func 40) #[] #[]), .lit (.func (.func 41) #[] #[])]
theorem putHeld_any (m : Int) (d : ByteArray) : ∀ {n : Int} {l : List LHeld}, Grows n l → (l.any fun g => decide (g.1 = m)) = true → putHeld (m, d) l = l
  | _, [], _, h => by simp at h
  | n, g :: l, hg, h => by
    unfold putHeld
    by_cases he : g.1 = m
    · simp [he]
    · have h' : (l.any fun g => decide (g.1 = m)) = true := by simpa [he] using h
      obtain ⟨g', hm, he'⟩ := List.any_eq_true.1 h'
      have := grows_mem hg.2 g' hm
      simp only [decide_eq_true_eq] at he'
      rw [if_neg he, if_neg (by show ¬ m < g.1; omega), putHeld_any m d hg.2 h']
theorem a_Receive (x : LEnd) (f : LFrame) (hok' : x.Ok) : PCalls Try.prog 14 [endD x, frD f] (.tu [endD (x.receive f).1, .e (.sl 1 (x.receive f).2.length ((x.receive f).2.map sE))]) := by
  unfold endD frD
  have hq := hok'.ql
  have hl := hok'.held_len
  refine PCalls.of (rs := [.cell 4 25, .tmp 5]) tok Try.func14 rfl rfl (Nat.le_of_ble_eq_true rfl) rfl (fun cx hx h0 => ?_)
  simp only [argsT, Nat.reduceAdd, Nat.zero_add]
  have hok := HpOk.nil
  refine AW.seq ?_
  refine AW.regS tbl (by rw [hx]; kernel_rfl) (fun K hK => ?_)
  iterate 4 refine st tok (by rfl) (by simp (disch := omega) only [sim_box, seval, Ty.agg, tb_3, tb_9, tb_22, tb_23, tb_25, tb_74, tb_27, sim_alloc, sim_assign]; (repeat' refine And.intro ?_ ?_) <;> first | exact Kq.here _ _ | omega | assumption | with_reducible rfl) ?_
  refine SOps.nil (hK _ _ ?_)
  clear hK
  dsimp only
  refine AW.seq ?_
  refine AW.seq ?_
  refine AW.regS tbl (by rw [hx]; kernel_rfl) (fun K hK => ?_)
  refine st tok (by rfl) (by simp (disch := omega) only [sim_load, seval, Ty.agg, tb_3, tb_9, tb_27]; (repeat' refine And.intro ?_ ?_) <;> first | exact Kq.here _ _ | omega | assumption | with_reducible rfl) ?_
  -- stop: call ['f', 33] (line 116)
  refine st tok (by rfl) (by simp (disch := omega) only [sim_call, ↓newsV_eq, ↓lenV_eq, seval, Ty.agg, tb_3, tb_4, tb_9, tb_27]; (repeat refine And.intro (by omega) ?_); apply call_of; (case ha => simp only [sim_ex]; exact rfl); (case hc => exact (a_valid f)); (case hp1 => first | rfl | simp only [sim_pure]); (case h => ((try simp only [adopt_own, adopt_e, adopt_ag, adopt_tu, hp_tok, true_and]); exact Kq.here _ _))) ?_
  refine st tok (by rfl) (by simp (disch := omega) only [sim_unOp, seval, Ty.agg, tb_4]; (repeat' refine And.intro ?_ ?_) <;> first | exact Kq.here _ _ | omega | assumption | with_reducible rfl) ?_
  refine SOps.nil (hK _ _ ?_)
  clear hK
  dsimp only
  -- stop: cond (live 2:x, 3:f, 4, 11)
  refine AW.condS (by simp only [sim_ev, Nat.reduceBEq]; rfl) (fun h => ?_) (fun h => ?_)
  all_goals (try simp only [sim_bool] at h)
  · skip
    refine AW.seq ?_
    refine AW.regS tbl (by rw [hx]; kernel_rfl) (fun K hK => ?_)
    iterate 3 (first | refine st tok (by rfl) (by simp (disch := omega) only [sim_load, seval, Ty.agg, tb_3, tb_9, tb_22, tb_23, tb_25, tb_74, sim_store, sim_assign]; (repeat' refine And.intro ?_ ?_) <;> first | exact Kq.here _ _ | omega | assumption | with_reducible rfl) ?_ | refine st_n tok (by rfl) (by simp (disch := omega) only [sim_load, seval, Ty.agg, tb_3, tb_9, tb_22, tb_23, tb_25, tb_74, sim_store, sim_assign]; (repeat' refine And.intro ?_ ?_) <;> first | exact Kq.here _ _ | omega | assumption | with_reducible rfl) ?_)
    refine SOps.nil (hK _ _ ?_)
    clear hK
    dsimp only
    -- stop: ret (live 4, 5)
    have h' : ¬ f.okB = true := by rw [h]; simp
    simp only [LEnd.receive, if_neg h']
    refine AW.ret ?_
    dsimp only
    simp only [RetV, resD, sim_all, ↓fieldOff_eq, ↓newsV_eq, ↓sliceV_eq, ↓lenV_eq, seval, Ty.agg, tb_all]
    simp
  · skip
    refine AW.skip ?_
    dsimp only
    refine AW.seq ?_
    refine AW.drwS tbl [] (by kernel_rfl) (by rw [hx]; kernel_rfl) (by kernel_rfl) (fun K hK => ?_)
    iterate 2 refine st tok (by rfl) (by simp (disch := omega) only [sim_fieldAddr, ↓fieldOff_eq, seval, Ty.agg, tb_3, tb_9, tb_22, tb_23, tb_25, tb_74, sim_load]; (repeat' refine And.intro ?_ ?_) <;> first | exact Kq.here _ _ | omega | assumption | with_reducible rfl) ?_
    -- stop: call ['f', 32] (line 119)
    refine st tok (by rfl) (by simp (disch := omega) only [sim_call, ↓newsV_eq, ↓lenV_eq, seval, Ty.agg, tb_9, tb_22]; (repeat refine And.intro (by omega) ?_); apply call_of; (case ha => simp only [sim_ex]; exact rfl); (case hc => exact (a_cloneS _ _ (by omega))); (case hp1 => first | rfl | simp only [sim_pure]); (case h => ((try simp only [adopt_own, adopt_e, adopt_ag, adopt_tu, hp_tok, true_and]); exact Kq.here _ _))) ?_
    iterate 2 refine st tok (by rfl) (by simp (disch := omega) only [sim_fieldAddr, ↓fieldOff_eq, seval, Ty.agg, tb_3, tb_9, tb_22, tb_23, tb_25, tb_74, sim_load]; (repeat' refine And.intro ?_ ?_) <;> first | exact Kq.here _ _ | omega | assumption | with_reducible rfl) ?_
    -- stop: call ['f', 34] (line 119)
    refine st tok (by rfl) (by simp (disch := omega) only [sim_call, ↓newsV_eq, ↓lenV_eq, seval, Ty.agg, tb_3, tb_9, tb_23, tb_74]; (repeat refine And.intro (by omega) ?_); apply call_of; (case ha => simp only [sim_ex]; exact rfl); (case hc => exact (a_cloneH _ _ (by omega))); (case hp1 => first | rfl | simp only [sim_pure]); (case h => ((try simp only [adopt_own, adopt_e, adopt_ag, adopt_tu, hp_tok, true_and]); exact Kq.here _ _))) ?_
    iterate 4 (first | refine st tok (by rfl) (by simp (disch := omega) only [sim_fieldAddr, ↓fieldOff_eq, seval, Ty.agg, tb_3, tb_9, tb_22, tb_23, tb_25, tb_74, sim_store]; (repeat' refine And.intro ?_ ?_) <;> first | exact Kq.here _ _ | omega | assumption | with_reducible rfl) ?_ | refine st_n tok (by rfl) (by simp (disch := omega) only [sim_fieldAddr, ↓fieldOff_eq, seval, Ty.agg, tb_3, tb_9, tb_22, tb_23, tb_25, tb_74, sim_store]; (repeat' refine And.intro ?_ ?_) <;> first | exact Kq.here _ _ | omega | assumption | with_reducible rfl) ?_)
    refine SOps.nil (hK _ _ ?_)
    clear hK
    dsimp only
    refine AW.keep [2, 3, 4] ?_
    simp only [keepT_cons, keepT_nil, keepO_some, keepO_none, lk_cons, lk_nil, Nat.reduceBEq, cond_true, cond_false]
    refine AW.seq ?_
    refine AW.regS tbl (by rw [hx]; kernel_rfl) (fun K hK => ?_)
    refine st tok (by rfl) (by simp (disch := omega) only [sim_assign, seval, Ty.agg, tb_9, tb_22]; (repeat' refine And.intro ?_ ?_) <;> first | exact Kq.here _ _ | omega | assumption | with_reducible rfl) ?_
    refine SOps.nil (hK _ _ ?_)
    clear hK
    dsimp only
    refine AW.seq ?_
    refine AW.seq ?_
    refine AW.regS tbl (by rw [hx]; kernel_rfl) (fun K hK => ?_)
    iterate 6 refine st tok (by rfl) (by simp (disch := omega) only [sim_build, seval, Ty.agg, tb_79, tb_80, tb_82, sim_buildSlice, tb_84, sim_call, ↓newsV_eq, ↓lenV_eq, tb_3, sim_move]; (repeat' refine And.intro ?_ ?_) <;> first | exact Kq.here _ _ | omega | assumption | with_reducible rfl) ?_
    refine SOps.nil (hK _ _ ?_)
    clear hK
    dsimp only
    refine AW.keep [2, 3, 4, 6, 24, 25, 26] ?_
    simp only [keepT_cons, keepT_nil, keepO_some, keepO_none, lk_cons, lk_nil, Nat.reduceBEq, cond_true, cond_false]
    refine AW.block ?_
    -- stop: loop (live 2:x, 3:f, 4, 6:out, 24, 25, 26)
    refine AW.loopW (fun i : Nat => [(2, .pt 0 0), (3, .pt 1 0), (4, .pt 2 0), (6, .own 6 1 (outs x f i).length ((outs x f i).map sE)), (24, handD), (25, .e (.lit (.int .i64 3))), (26, .e (.lit (.int .i64 i)))]) (fun i => ⟨[(0, endC (stage x f i)), (2, zeroC), (1, frC f)], [(6, (outs x f i).length, 1, 9), (7, 3, 2, 82)], 8⟩) (fun i => i ≤ 3) (fun i => 3 - i) 0 ?_ (by omega) ?_
    · unfold endC stage outs zeroC frC handD
      apply Wk.fin (ks := [0, 2, 1]) (kl := [6, 7]) h0 hok
      case hN => omega
      case hm => omega
      case hv => repeat first | exact TgtV.base | (refine TgtV.cons ⟨by omega, ?_, ?_⟩ ?_; (focus (simp (maxSteps := 2000000) (disch := omega) only [sim_all, ↓fieldOff_eq, ↓newsV_eq, ↓sliceV_eq, ↓lenV_eq, seval, Ty.agg, tb_all, Int.natCast_zero, List.length_nil, List.map_nil, wksL, D.leC, D.e.injEq, E.sl.injEq, exists_eq_right, exists_eq_right', D.idsB, D.idsC, decide_eq_true_eq, List.all_cons, List.all_nil, true_or, or_true]; done)); (focus (simp (maxSteps := 2000000) (disch := omega) only [sim_all, ↓fieldOff_eq, ↓newsV_eq, ↓sliceV_eq, ↓lenV_eq, seval, Ty.agg, tb_all, Int.natCast_zero, List.length_nil, List.map_nil, wksL, D.leC, D.e.injEq, E.sl.injEq, exists_eq_right, exists_eq_right', D.idsB, D.idsC, decide_eq_true_eq, List.all_cons, List.all_nil, true_or, or_true]; done)))
      case hc => repeat first | exact Cov.base | refine Cov.cons (by first | (left; omega) | (right; simp)) ?_
      case hl => repeat first | exact TgtL.base | (refine TgtL.cons ⟨by omega, ?_⟩ ?_; (focus (simp (maxSteps := 2000000) (disch := omega) only [sim_all, ↓fieldOff_eq, ↓newsV_eq, ↓sliceV_eq, ↓lenV_eq, seval, Ty.agg, tb_all, Int.natCast_zero, List.length_nil, List.map_nil, wksL, D.leC, D.e.injEq, E.sl.injEq, exists_eq_right, exists_eq_right', D.idsB, D.idsC, decide_eq_true_eq, List.all_cons, List.all_nil, true_or, or_true]; done)))
      case hcl => repeat first | exact Cov.base | refine Cov.cons (by first | (left; omega) | (right; simp)) ?_
      all_goals simp (maxSteps := 2000000) (disch := omega) only [sim_all, ↓fieldOff_eq, ↓newsV_eq, ↓sliceV_eq, ↓lenV_eq, seval, Ty.agg, tb_all, Int.natCast_zero, List.length_nil, List.map_nil, wksL, D.leC, D.e.injEq, E.sl.injEq, exists_eq_right, exists_eq_right', D.idsB, D.idsC, decide_eq_true_eq, List.all_cons, List.all_nil, true_or, or_true]
      all_goals (try omega)
    · intro i hi
      unfold handD
      have o0 : outs x f 0 = [] := rfl
      have o1 : outs x f 1 = [] := rfl
      have o2 : outs x f 2 = [] := rfl
      have ok1 : (x.acked f).Ok := hok'.acked f
      have ok2 : ((x.acked f).holds f).Ok := ok1.holds (LFrame.okB_data h)
      rcases (by omega : i = 0 ∨ i = 1 ∨ i = 2 ∨ i = 3) with rfl | rfl | rfl | rfl
      · skip
        refine AW.seq ?_
        refine AW.regS tbl (by rw [hx]; kernel_rfl) (fun K hK => ?_)
        refine st tok (by rfl) (by simp (disch := omega) only [sim_binOp, seval, Ty.agg, tb_3, o0]; (repeat' refine And.intro ?_ ?_) <;> first | exact Kq.here _ _ | omega | assumption | with_reducible rfl) ?_
        refine SOps.nil (hK _ _ ?_)
        clear hK
        dsimp only
        refine AW.seq ?_
        -- stop: cond (live 2:x, 3:f, 4, 6:out, 24, 25, 26, 27)
        refine AW.cond (b := true) (by simp only [sim_ev, Nat.reduceBEq]; (try rfl)) ?_
        dsimp only
        refine AW.skip ?_
        dsimp only
        refine AW.seq ?_
        refine AW.block ?_
        refine AW.seq ?_
        refine AW.regS tbl (by rw [hx]; kernel_rfl) (fun K hK => ?_)
        iterate 4 (first | refine st tok (by rfl) (by simp (disch := omega) only [sim_indexAddr, seval, Ty.agg, tb_79, tb_80, tb_82, tb_84, frC, sim_load, sim_alloc, sim_store]; (repeat' refine And.intro ?_ ?_) <;> first | exact Kq.here _ _ | omega | assumption | with_reducible rfl) ?_ | refine st_n tok (by rfl) (by simp (disch := omega) only [sim_indexAddr, seval, Ty.agg, tb_79, tb_80, tb_82, tb_84, frC, sim_load, sim_alloc, sim_store]; (repeat' refine And.intro ?_ ?_) <;> first | exact Kq.here _ _ | omega | assumption | with_reducible rfl) ?_)
        refine SOps.nil (hK _ _ ?_)
        clear hK
        dsimp only
        refine AW.seq ?_
        refine AW.regS tbl (by rw [hx]; kernel_rfl) (fun K hK => ?_)
        iterate 3 refine st tok (by rfl) (by simp (disch := omega) only [sim_fieldAddr, ↓fieldOff_eq, seval, Ty.agg, tb_79, tb_80, tb_82, frC, sim_load, tb_3, tb_9, tb_27]; (repeat' refine And.intro ?_ ?_) <;> first | exact Kq.here _ _ | omega | assumption | with_reducible rfl) ?_
        -- stop: call ['t', 31] (line 130)
        refine st tok (by rfl) (by simp (disch := omega) only [sim_call, ↓newsV_eq, ↓lenV_eq, seval, Ty.agg, tb_3, tb_4, tb_9, tb_27, tb_78, frC]; (repeat refine And.intro (by omega) ?_); apply callH_of; (case hc => exact (h_recv1 x f hq ⟨hok'.b1, hok'.b2⟩ rfl (by omega))); (case hh => first | rfl | kernel_rfl); (case h => ((try simp only [adopt_own, adopt_e, adopt_ag, adopt_tu, hp_tok, true_and, frC]); exact Kq.here _ _))) ?_
        refine SOps.nil (hK _ _ ?_)
        clear hK
        dsimp only
        -- stop: cond (live 2:x, 3:f, 4, 6:out, 8:h, 24, 25, 26, 33)
        refine AW.condS (by simp only [sim_ev, Nat.reduceBEq]; rfl) (fun c => ?_) (fun c => ?_)
        all_goals (try simp only [sim_bool] at c)
        · skip
          refine AW.regS tbl (by rw [hx]; kernel_rfl) (fun K hK => ?_)
          iterate 4 refine st tok (by rfl) (by simp (disch := omega) only [sim_move, seval, Ty.agg, frC, sim_fieldAddr, ↓fieldOff_eq, tb_79, tb_80, tb_82, sim_load, tb_3, tb_9, tb_27]; (repeat' refine And.intro ?_ ?_) <;> first | exact Kq.here _ _ | omega | assumption | with_reducible rfl) ?_
          -- stop: call ['t', 36] (line 131)
          refine st tok (by rfl) (by simp (disch := omega) only [sim_call, ↓newsV_eq, ↓lenV_eq, seval, Ty.agg, tb_3, tb_9, tb_22, tb_27, tb_78, frC, o0]; (repeat refine And.intro (by omega) ?_); apply callH_of; (case hc => exact (h_acknowledge x f (by omega) c.2.1 hq ⟨hok'.b1, hok'.b2⟩ rfl (by omega))); (case hh => first | rfl | kernel_rfl); (case h => ((try simp only [adopt_own, adopt_e, adopt_ag, adopt_tu, hp_tok, true_and, frC, o0]); exact Kq.here _ _))) ?_
          iterate 2 refine st tok (by rfl) (by simp (disch := omega) only [sim_call, ↓newsV_eq, ↓lenV_eq, seval, Ty.agg, tb_9, tb_22, frC, o0, sim_assign]; (repeat' refine And.intro ?_ ?_) <;> first | exact Kq.here _ _ | omega | assumption | with_reducible rfl) ?_
          refine SOps.nil (hK _ _ ?_)
          clear hK
          dsimp only
          refine AW.keep [2, 3, 4, 6, 24, 25, 26] ?_
          simp only [keepT_cons, keepT_nil, keepO_some, keepO_none, lk_cons, lk_nil, Nat.reduceBEq, cond_true, cond_false]
          refine AW.regS tbl (by rw [hx]; kernel_rfl) (fun K hK => ?_)
          iterate 2 refine st tok (by rfl) (by simp (disch := omega) only [sim_binOp, seval, Ty.agg, tb_3, frC, o0, sim_move]; (repeat' refine And.intro ?_ ?_) <;> first | exact Kq.here _ _ | omega | assumption | with_reducible rfl) ?_
          refine SOps.nil (hK _ _ ?_)
          clear hK
          dsimp only
          -- stop: round's end (live 2:x, 3:f, 4, 6:out, 24, 25, 26)
          have e : ackd x f = stage x f 1 := by show ackd x f = x.acked f; unfold LEnd.acked ackd; rw [if_pos c]
          rw [e]
          refine ⟨1, ?_, by omega, by omega⟩
          apply Wk.fin (ks := [0, 2, 1]) (kl := [6, 7]) h0 hok
          case hN => omega
          case hm => omega
          case hv => repeat first | exact TgtV.base | (refine TgtV.cons ⟨by omega, ?_, ?_⟩ ?_; (focus (simp (maxSteps := 2000000) (disch := omega) only [sim_all, ↓fieldOff_eq, ↓newsV_eq, ↓sliceV_eq, ↓lenV_eq, seval, Ty.agg, tb_all, endC, zeroC, frC, o1, Int.natCast_one, wksL, D.leC, D.e.injEq, E.sl.injEq, exists_eq_right, exists_eq_right', D.idsB, D.idsC, decide_eq_true_eq, List.all_cons, List.all_nil, true_or, or_true]; done)); (focus (simp (maxSteps := 2000000) (disch := omega) only [sim_all, ↓fieldOff_eq, ↓newsV_eq, ↓sliceV_eq, ↓lenV_eq, seval, Ty.agg, tb_all, endC, zeroC, frC, o1, Int.natCast_one, wksL, D.leC, D.e.injEq, E.sl.injEq, exists_eq_right, exists_eq_right', D.idsB, D.idsC, decide_eq_true_eq, List.all_cons, List.all_nil, true_or, or_true]; done)))
          case hc => repeat first | exact Cov.base | refine Cov.cons (by first | (left; omega) | (right; simp)) ?_
          case hl => repeat first | exact TgtL.base | (refine TgtL.cons ⟨by omega, ?_⟩ ?_; (focus (simp (maxSteps := 2000000) (disch := omega) only [sim_all, ↓fieldOff_eq, ↓newsV_eq, ↓sliceV_eq, ↓lenV_eq, seval, Ty.agg, tb_all, endC, zeroC, frC, o1, Int.natCast_one, wksL, D.leC, D.e.injEq, E.sl.injEq, exists_eq_right, exists_eq_right', D.idsB, D.idsC, decide_eq_true_eq, List.all_cons, List.all_nil, true_or, or_true]; done)))
          case hcl => repeat first | exact Cov.base | refine Cov.cons (by first | (left; omega) | (right; simp)) ?_
          all_goals simp (maxSteps := 2000000) (disch := omega) only [sim_all, ↓fieldOff_eq, ↓newsV_eq, ↓sliceV_eq, ↓lenV_eq, seval, Ty.agg, tb_all, endC, zeroC, frC, o1, Int.natCast_one, wksL, D.leC, D.e.injEq, E.sl.injEq, exists_eq_right, exists_eq_right', D.idsB, D.idsC, decide_eq_true_eq, List.all_cons, List.all_nil, true_or, or_true]
          all_goals (try omega)
        · skip
          refine AW.skip ?_
          dsimp only
          refine AW.regS tbl (by rw [hx]; kernel_rfl) (fun K hK => ?_)
          iterate 2 refine st tok (by rfl) (by simp (disch := omega) only [sim_binOp, seval, Ty.agg, tb_3, sim_move]; (repeat' refine And.intro ?_ ?_) <;> first | exact Kq.here _ _ | omega | assumption | with_reducible rfl) ?_
          refine SOps.nil (hK _ _ ?_)
          clear hK
          dsimp only
          -- stop: round's end (live 2:x, 3:f, 4, 6:out, 24, 25, 26)
          have e : stage x f 0 = stage x f 1 := by show x = x.acked f; unfold LEnd.acked; rw [if_neg (fun hc => by have := c hc.1 hc.2.1; omega)]
          rw [e]
          refine ⟨1, ?_, by omega, by omega⟩
          apply Wk.fin (ks := [0, 2, 1]) (kl := [6, 7]) h0 hok
          case hN => omega
          case hm => omega
          case hv => repeat first | exact TgtV.base | (refine TgtV.cons ⟨by omega, ?_, ?_⟩ ?_; (focus (simp (maxSteps := 2000000) (disch := omega) only [sim_all, ↓fieldOff_eq, ↓newsV_eq, ↓sliceV_eq, ↓lenV_eq, seval, Ty.agg, tb_all, endC, zeroC, frC, o0, o1, Int.natCast_one, wksL, D.leC, D.e.injEq, E.sl.injEq, exists_eq_right, exists_eq_right', D.idsB, D.idsC, decide_eq_true_eq, List.all_cons, List.all_nil, true_or, or_true]; done)); (focus (simp (maxSteps := 2000000) (disch := omega) only [sim_all, ↓fieldOff_eq, ↓newsV_eq, ↓sliceV_eq, ↓lenV_eq, seval, Ty.agg, tb_all, endC, zeroC, frC, o0, o1, Int.natCast_one, wksL, D.leC, D.e.injEq, E.sl.injEq, exists_eq_right, exists_eq_right', D.idsB, D.idsC, decide_eq_true_eq, List.all_cons, List.all_nil, true_or, or_true]; done)))
          case hc => repeat first | exact Cov.base | refine Cov.cons (by first | (left; omega) | (right; simp)) ?_
          case hl => repeat first | exact TgtL.base | (refine TgtL.cons ⟨by omega, ?_⟩ ?_; (focus (simp (maxSteps := 2000000) (disch := omega) only [sim_all, ↓fieldOff_eq, ↓newsV_eq, ↓sliceV_eq, ↓lenV_eq, seval, Ty.agg, tb_all, endC, zeroC, frC, o0, o1, Int.natCast_one, wksL, D.leC, D.e.injEq, E.sl.injEq, exists_eq_right, exists_eq_right', D.idsB, D.idsC, decide_eq_true_eq, List.all_cons, List.all_nil, true_or, or_true]; done)))
          case hcl => repeat first | exact Cov.base | refine Cov.cons (by first | (left; omega) | (right; simp)) ?_
          all_goals simp (maxSteps := 2000000) (disch := omega) only [sim_all, ↓fieldOff_eq, ↓newsV_eq, ↓sliceV_eq, ↓lenV_eq, seval, Ty.agg, tb_all, endC, zeroC, frC, o0, o1, Int.natCast_one, wksL, D.leC, D.e.injEq, E.sl.injEq, exists_eq_right, exists_eq_right', D.idsB, D.idsC, decide_eq_true_eq, List.all_cons, List.all_nil, true_or, or_true]
          all_goals (try omega)
      · skip
        refine AW.seq ?_
        refine AW.regS tbl (by rw [hx]; kernel_rfl) (fun K hK => ?_)
        refine st tok (by rfl) (by simp (disch := omega) only [sim_binOp, seval, Ty.agg, tb_3, o1]; (repeat' refine And.intro ?_ ?_) <;> first | exact Kq.here _ _ | omega | assumption | with_reducible rfl) ?_
        refine SOps.nil (hK _ _ ?_)
        clear hK
        dsimp only
        refine AW.seq ?_
        -- stop: cond (live 2:x, 3:f, 4, 6:out, 24, 25, 26, 27)
        refine AW.cond (b := true) (by simp only [sim_ev, Nat.reduceBEq]; (try rfl)) ?_
        dsimp only
        refine AW.skip ?_
        dsimp only
        refine AW.seq ?_
        refine AW.block ?_
        refine AW.seq ?_
        refine AW.regS tbl (by rw [hx]; kernel_rfl) (fun K hK => ?_)
        iterate 4 (first | refine st tok (by rfl) (by simp (disch := omega) only [sim_indexAddr, seval, Ty.agg, tb_79, tb_80, tb_82, tb_84, frC, sim_load, sim_alloc, sim_store]; (repeat' refine And.intro ?_ ?_) <;> first | exact Kq.here _ _ | omega | assumption | with_reducible rfl) ?_ | refine st_n tok (by rfl) (by simp (disch := omega) only [sim_indexAddr, seval, Ty.agg, tb_79, tb_80, tb_82, tb_84, frC, sim_load, sim_alloc, sim_store]; (repeat' refine And.intro ?_ ?_) <;> first | exact Kq.here _ _ | omega | assumption | with_reducible rfl) ?_)
        refine SOps.nil (hK _ _ ?_)
        clear hK
        dsimp only
        refine AW.seq ?_
        refine AW.regS tbl (by rw [hx]; kernel_rfl) (fun K hK => ?_)
        iterate 3 refine st tok (by rfl) (by simp (disch := omega) only [sim_fieldAddr, ↓fieldOff_eq, seval, Ty.agg, tb_79, tb_80, tb_82, frC, sim_load, tb_3, tb_9, tb_27]; (repeat' refine And.intro ?_ ?_) <;> first | exact Kq.here _ _ | omega | assumption | with_reducible rfl) ?_
        -- stop: call ['t', 31] (line 130)
        refine st tok (by rfl) (by simp (disch := omega) only [sim_call, ↓newsV_eq, ↓lenV_eq, seval, Ty.agg, tb_3, tb_4, tb_9, tb_27, tb_78, frC]; (repeat refine And.intro (by omega) ?_); apply callH_of; (case hc => exact (h_recv2 (x.acked f) f ok1.held_len ⟨ok1.w1, ok1.w2⟩ rfl (by omega))); (case hh => first | rfl | kernel_rfl); (case h => ((try simp only [adopt_own, adopt_e, adopt_ag, adopt_tu, hp_tok, true_and, frC]); exact Kq.here _ _))) ?_
        refine SOps.nil (hK _ _ ?_)
        clear hK
        dsimp only
        -- stop: cond (live 2:x, 3:f, 4, 6:out, 8:h, 24, 25, 26, 33)
        refine AW.condS (by simp only [sim_ev, Nat.reduceBEq]; rfl) (fun c => ?_) (fun c => ?_)
        all_goals (try simp only [sim_bool] at c)
        · skip
          refine AW.regS tbl (by rw [hx]; kernel_rfl) (fun K hK => ?_)
          iterate 4 refine st tok (by rfl) (by simp (disch := omega) only [sim_move, seval, Ty.agg, frC, sim_fieldAddr, ↓fieldOff_eq, tb_79, tb_80, tb_82, sim_load, tb_3, tb_9, tb_27]; (repeat' refine And.intro ?_ ?_) <;> first | exact Kq.here _ _ | omega | assumption | with_reducible rfl) ?_
          -- stop: call ['t', 36] (line 131)
          refine st tok (by rfl) (by simp (disch := omega) only [sim_call, ↓newsV_eq, ↓lenV_eq, seval, Ty.agg, tb_3, tb_9, tb_22, tb_27, tb_78, frC, o1]; (repeat refine And.intro (by omega) ?_); apply callH_of; (case hc => exact (h_hold (x.acked f) f ok1.held_len ok1.hg c.2 rfl (by omega))); (case hh => first | rfl | kernel_rfl); (case h => ((try simp only [adopt_own, adopt_e, adopt_ag, adopt_tu, hp_tok, true_and, frC, o1]); exact Kq.here _ _))) ?_
          iterate 2 refine st tok (by rfl) (by simp (disch := omega) only [sim_call, ↓newsV_eq, ↓lenV_eq, seval, Ty.agg, tb_9, tb_22, frC, o1, sim_assign]; (repeat' refine And.intro ?_ ?_) <;> first | exact Kq.here _ _ | omega | assumption | with_reducible rfl) ?_
          refine SOps.nil (hK _ _ ?_)
          clear hK
          dsimp only
          refine AW.keep [2, 3, 4, 6, 24, 25, 26] ?_
          simp only [keepT_cons, keepT_nil, keepO_some, keepO_none, lk_cons, lk_nil, Nat.reduceBEq, cond_true, cond_false]
          refine AW.regS tbl (by rw [hx]; kernel_rfl) (fun K hK => ?_)
          iterate 2 refine st tok (by rfl) (by simp (disch := omega) only [sim_binOp, seval, Ty.agg, tb_3, frC, o1, sim_move]; (repeat' refine And.intro ?_ ?_) <;> first | exact Kq.here _ _ | omega | assumption | with_reducible rfl) ?_
          refine SOps.nil (hK _ _ ?_)
          clear hK
          dsimp only
          -- stop: round's end (live 2:x, 3:f, 4, 6:out, 24, 25, 26)
          have e : { x.acked f with held := putHeld (f.seq, f.data) (x.acked f).held } = stage x f 2 := by show _ = (x.acked f).holds f; unfold LEnd.holds; rw [if_pos (by omega)]
          rw [e]
          refine ⟨2, ?_, by omega, by omega⟩
          apply Wk.fin (ks := [0, 2, 1]) (kl := [6, 7]) h0 hok
          case hN => omega
          case hm => omega
          case hv => repeat first | exact TgtV.base | (refine TgtV.cons ⟨by omega, ?_, ?_⟩ ?_; (focus (simp (maxSteps := 2000000) (disch := omega) only [sim_all, ↓fieldOff_eq, ↓newsV_eq, ↓sliceV_eq, ↓lenV_eq, seval, Ty.agg, tb_all, endC, zeroC, frC, o2, wksL, D.leC, D.e.injEq, E.sl.injEq, exists_eq_right, exists_eq_right', D.idsB, D.idsC, decide_eq_true_eq, List.all_cons, List.all_nil, true_or, or_true]; done)); (focus (simp (maxSteps := 2000000) (disch := omega) only [sim_all, ↓fieldOff_eq, ↓newsV_eq, ↓sliceV_eq, ↓lenV_eq, seval, Ty.agg, tb_all, endC, zeroC, frC, o2, wksL, D.leC, D.e.injEq, E.sl.injEq, exists_eq_right, exists_eq_right', D.idsB, D.idsC, decide_eq_true_eq, List.all_cons, List.all_nil, true_or, or_true]; done)))
          case hc => repeat first | exact Cov.base | refine Cov.cons (by first | (left; omega) | (right; simp)) ?_
          case hl => repeat first | exact TgtL.base | (refine TgtL.cons ⟨by omega, ?_⟩ ?_; (focus (simp (maxSteps := 2000000) (disch := omega) only [sim_all, ↓fieldOff_eq, ↓newsV_eq, ↓sliceV_eq, ↓lenV_eq, seval, Ty.agg, tb_all, endC, zeroC, frC, o2, wksL, D.leC, D.e.injEq, E.sl.injEq, exists_eq_right, exists_eq_right', D.idsB, D.idsC, decide_eq_true_eq, List.all_cons, List.all_nil, true_or, or_true]; done)))
          case hcl => repeat first | exact Cov.base | refine Cov.cons (by first | (left; omega) | (right; simp)) ?_
          all_goals simp (maxSteps := 2000000) (disch := omega) only [sim_all, ↓fieldOff_eq, ↓newsV_eq, ↓sliceV_eq, ↓lenV_eq, seval, Ty.agg, tb_all, endC, zeroC, frC, o2, wksL, D.leC, D.e.injEq, E.sl.injEq, exists_eq_right, exists_eq_right', D.idsB, D.idsC, decide_eq_true_eq, List.all_cons, List.all_nil, true_or, or_true]
          all_goals (try omega)
        · skip
          refine AW.skip ?_
          dsimp only
          refine AW.regS tbl (by rw [hx]; kernel_rfl) (fun K hK => ?_)
          iterate 2 refine st tok (by rfl) (by simp (disch := omega) only [sim_binOp, seval, Ty.agg, tb_3, sim_move]; (repeat' refine And.intro ?_ ?_) <;> first | exact Kq.here _ _ | omega | assumption | with_reducible rfl) ?_
          refine SOps.nil (hK _ _ ?_)
          clear hK
          dsimp only
          -- stop: round's end (live 2:x, 3:f, 4, 6:out, 24, 25, 26)
          have e : stage x f 1 = stage x f 2 := by
            show x.acked f = (x.acked f).holds f
            unfold LEnd.holds
            split
            · rename_i hc
              have hkn := c ⟨hc.1, by omega⟩
              rw [putHeld_any f.seq f.data ok1.hg hkn]
            · rfl
          rw [e]
          refine ⟨2, ?_, by omega, by omega⟩
          apply Wk.fin (ks := [0, 2, 1]) (kl := [6, 7]) h0 hok
          case hN => omega
          case hm => omega
          case hv => repeat first | exact TgtV.base | (refine TgtV.cons ⟨by omega, ?_, ?_⟩ ?_; (focus (simp (maxSteps := 2000000) (disch := omega) only [sim_all, ↓fieldOff_eq, ↓newsV_eq, ↓sliceV_eq, ↓lenV_eq, seval, Ty.agg, tb_all, endC, zeroC, frC, o1, o2, wksL, D.leC, D.e.injEq, E.sl.injEq, exists_eq_right, exists_eq_right', D.idsB, D.idsC, decide_eq_true_eq, List.all_cons, List.all_nil, true_or, or_true]; done)); (focus (simp (maxSteps := 2000000) (disch := omega) only [sim_all, ↓fieldOff_eq, ↓newsV_eq, ↓sliceV_eq, ↓lenV_eq, seval, Ty.agg, tb_all, endC, zeroC, frC, o1, o2, wksL, D.leC, D.e.injEq, E.sl.injEq, exists_eq_right, exists_eq_right', D.idsB, D.idsC, decide_eq_true_eq, List.all_cons, List.all_nil, true_or, or_true]; done)))
          case hc => repeat first | exact Cov.base | refine Cov.cons (by first | (left; omega) | (right; simp)) ?_
          case hl => repeat first | exact TgtL.base | (refine TgtL.cons ⟨by omega, ?_⟩ ?_; (focus (simp (maxSteps := 2000000) (disch := omega) only [sim_all, ↓fieldOff_eq, ↓newsV_eq, ↓sliceV_eq, ↓lenV_eq, seval, Ty.agg, tb_all, endC, zeroC, frC, o1, o2, wksL, D.leC, D.e.injEq, E.sl.injEq, exists_eq_right, exists_eq_right', D.idsB, D.idsC, decide_eq_true_eq, List.all_cons, List.all_nil, true_or, or_true]; done)))
          case hcl => repeat first | exact Cov.base | refine Cov.cons (by first | (left; omega) | (right; simp)) ?_
          all_goals simp (maxSteps := 2000000) (disch := omega) only [sim_all, ↓fieldOff_eq, ↓newsV_eq, ↓sliceV_eq, ↓lenV_eq, seval, Ty.agg, tb_all, endC, zeroC, frC, o1, o2, wksL, D.leC, D.e.injEq, E.sl.injEq, exists_eq_right, exists_eq_right', D.idsB, D.idsC, decide_eq_true_eq, List.all_cons, List.all_nil, true_or, or_true]
          all_goals (try omega)
      · skip
        refine AW.seq ?_
        refine AW.regS tbl (by rw [hx]; kernel_rfl) (fun K hK => ?_)
        refine st tok (by rfl) (by simp (disch := omega) only [sim_binOp, seval, Ty.agg, tb_3, o2]; (repeat' refine And.intro ?_ ?_) <;> first | exact Kq.here _ _ | omega | assumption | with_reducible rfl) ?_
        refine SOps.nil (hK _ _ ?_)
        clear hK
        dsimp only
        refine AW.seq ?_
        -- stop: cond (live 2:x, 3:f, 4, 6:out, 24, 25, 26, 27)
        refine AW.cond (b := true) (by simp only [sim_ev, Nat.reduceBEq]; (try rfl)) ?_
        dsimp only
        refine AW.skip ?_
        dsimp only
        refine AW.seq ?_
        refine AW.block ?_
        refine AW.seq ?_
        refine AW.regS tbl (by rw [hx]; kernel_rfl) (fun K hK => ?_)
        iterate 4 (first | refine st tok (by rfl) (by simp (disch := omega) only [sim_indexAddr, seval, Ty.agg, tb_79, tb_80, tb_82, tb_84, frC, sim_load, sim_alloc, sim_store]; (repeat' refine And.intro ?_ ?_) <;> first | exact Kq.here _ _ | omega | assumption | with_reducible rfl) ?_ | refine st_n tok (by rfl) (by simp (disch := omega) only [sim_indexAddr, seval, Ty.agg, tb_79, tb_80, tb_82, tb_84, frC, sim_load, sim_alloc, sim_store]; (repeat' refine And.intro ?_ ?_) <;> first | exact Kq.here _ _ | omega | assumption | with_reducible rfl) ?_)
        refine SOps.nil (hK _ _ ?_)
        clear hK
        dsimp only
        refine AW.seq ?_
        refine AW.regS tbl (by rw [hx]; kernel_rfl) (fun K hK => ?_)
        iterate 3 refine st tok (by rfl) (by simp (disch := omega) only [sim_fieldAddr, ↓fieldOff_eq, seval, Ty.agg, tb_79, tb_80, tb_82, frC, sim_load, tb_3, tb_9, tb_27]; (repeat' refine And.intro ?_ ?_) <;> first | exact Kq.here _ _ | omega | assumption | with_reducible rfl) ?_
        -- stop: call ['t', 31] (line 130)
        refine st tok (by rfl) (by simp (disch := omega) only [sim_call, ↓newsV_eq, ↓lenV_eq, seval, Ty.agg, tb_3, tb_4, tb_9, tb_27, tb_78, frC]; (repeat refine And.intro (by omega) ?_); apply callH_of; (case hc => exact (h_recv3 ((x.acked f).holds f) f rfl (by omega))); (case hh => first | rfl | kernel_rfl); (case h => ((try simp only [adopt_own, adopt_e, adopt_ag, adopt_tu, hp_tok, true_and, frC]); exact Kq.here _ _))) ?_
        refine SOps.nil (hK _ _ ?_)
        clear hK
        dsimp only
        -- stop: cond (live 2:x, 3:f, 4, 6:out, 8:h, 24, 25, 26, 33)
        refine AW.condS (by simp only [sim_ev, Nat.reduceBEq]; rfl) (fun c => ?_) (fun c => ?_)
        all_goals (try simp only [sim_bool] at c)
        · skip
          refine AW.regS tbl (by rw [hx]; kernel_rfl) (fun K hK => ?_)
          iterate 4 refine st tok (by rfl) (by simp (disch := omega) only [sim_move, seval, Ty.agg, frC, sim_fieldAddr, ↓fieldOff_eq, tb_79, tb_80, tb_82, sim_load, tb_3, tb_9, tb_27]; (repeat' refine And.intro ?_ ?_) <;> first | exact Kq.here _ _ | omega | assumption | with_reducible rfl) ?_
          -- stop: call ['t', 36] (line 131)
          have hr := runLen_le (((x.acked f).holds f).want + 1) ((x.acked f).holds f).held
          have hl2 := ok2.held_len
          refine st tok (by rfl) (by simp (disch := omega) only [sim_call, ↓newsV_eq, ↓lenV_eq, seval, Ty.agg, tb_3, tb_9, tb_22, tb_27, tb_78, frC, o2]; (repeat refine And.intro (by omega) ?_); apply callH_of; (case hc => exact (h_deliver ((x.acked f).holds f) f hl2 ⟨ok2.w1, c.2⟩ rfl (by omega))); (case hh => first | rfl | kernel_rfl); (case h => ((try simp only [adopt_own, adopt_e, adopt_ag, adopt_tu, hp_tok, true_and, frC, o2]); exact Kq.here _ _))) ?_
          iterate 2 refine st tok (by rfl) (by simp (disch := omega) only [sim_call, ↓newsV_eq, ↓lenV_eq, seval, Ty.agg, tb_9, tb_22, frC, o2, sim_assign]; (repeat' refine And.intro ?_ ?_) <;> first | exact Kq.here _ _ | omega | assumption | with_reducible rfl) ?_
          refine SOps.nil (hK _ _ ?_)
          clear hK
          dsimp only
          refine AW.keep [2, 3, 4, 6, 24, 25, 26] ?_
          simp only [keepT_cons, keepT_nil, keepO_some, keepO_none, lk_cons, lk_nil, Nat.reduceBEq, cond_true, cond_false]
          refine AW.regS tbl (by rw [hx]; kernel_rfl) (fun K hK => ?_)
          iterate 2 refine st tok (by rfl) (by simp (disch := omega) only [sim_binOp, seval, Ty.agg, tb_3, frC, o2, sim_move]; (repeat' refine And.intro ?_ ?_) <;> first | exact Kq.here _ _ | omega | assumption | with_reducible rfl) ?_
          refine SOps.nil (hK _ _ ?_)
          clear hK
          dsimp only
          -- stop: round's end (live 2:x, 3:f, 4, 6:out, 24, 25, 26)
          have e3 : stage x f 3 = ⟨((x.acked f).holds f).base, ((x.acked f).holds f).queue, ((x.acked f).holds f).want + 1 + runLen (((x.acked f).holds f).want + 1) ((x.acked f).holds f).held, ((x.acked f).holds f).held.drop (runLen (((x.acked f).holds f).want + 1) ((x.acked f).holds f).held)⟩ := by
            show (((x.acked f).holds f).gives f).1 = _
            unfold LEnd.gives; rw [if_pos c]
          have o3 : outs x f 3 = f.data :: (((x.acked f).holds f).held.take (runLen (((x.acked f).holds f).want + 1) ((x.acked f).holds f).held)).map (·.2) := by
            show (((x.acked f).holds f).gives f).2 = _
            unfold LEnd.gives; rw [if_pos c]
          have ol : (outs x f 3).length = runLen (((x.acked f).holds f).want + 1) ((x.acked f).holds f).held + 1 := by rw [o3]; simp; omega
          have om := congrArg (List.map sE) o3
          rw [List.map_cons] at om
          refine ⟨3, ?_, by omega, by omega⟩
          rw [e3]
          apply Wk.fin (ks := [0, 2, 1]) (kl := [6, 7]) h0 hok
          case hN => omega
          case hm => omega
          case hv => repeat first | exact TgtV.base | (refine TgtV.cons ⟨by omega, ?_, ?_⟩ ?_; (focus (simp (maxSteps := 2000000) (disch := omega) only [sim_all, ↓fieldOff_eq, ↓newsV_eq, ↓sliceV_eq, ↓lenV_eq, seval, Ty.agg, tb_all, endC, zeroC, frC, List.nil_append, ol, om, wksL, D.leC, D.e.injEq, E.sl.injEq, exists_eq_right, exists_eq_right', D.idsB, D.idsC, decide_eq_true_eq, List.all_cons, List.all_nil, true_or, or_true]; done)); (focus (simp (maxSteps := 2000000) (disch := omega) only [sim_all, ↓fieldOff_eq, ↓newsV_eq, ↓sliceV_eq, ↓lenV_eq, seval, Ty.agg, tb_all, endC, zeroC, frC, List.nil_append, ol, om, wksL, D.leC, D.e.injEq, E.sl.injEq, exists_eq_right, exists_eq_right', D.idsB, D.idsC, decide_eq_true_eq, List.all_cons, List.all_nil, true_or, or_true]; done)))
          case hc => repeat first | exact Cov.base | refine Cov.cons (by first | (left; omega) | (right; simp)) ?_
          case hl => repeat first | exact TgtL.base | (refine TgtL.cons ⟨by omega, ?_⟩ ?_; (focus (simp (maxSteps := 2000000) (disch := omega) only [sim_all, ↓fieldOff_eq, ↓newsV_eq, ↓sliceV_eq, ↓lenV_eq, seval, Ty.agg, tb_all, endC, zeroC, frC, List.nil_append, ol, om, wksL, D.leC, D.e.injEq, E.sl.injEq, exists_eq_right, exists_eq_right', D.idsB, D.idsC, decide_eq_true_eq, List.all_cons, List.all_nil, true_or, or_true]; done)))
          case hcl => repeat first | exact Cov.base | refine Cov.cons (by first | (left; omega) | (right; simp)) ?_
          all_goals simp (maxSteps := 2000000) (disch := omega) only [sim_all, ↓fieldOff_eq, ↓newsV_eq, ↓sliceV_eq, ↓lenV_eq, seval, Ty.agg, tb_all, endC, zeroC, frC, List.nil_append, ol, om, wksL, D.leC, D.e.injEq, E.sl.injEq, exists_eq_right, exists_eq_right', D.idsB, D.idsC, decide_eq_true_eq, List.all_cons, List.all_nil, true_or, or_true]
          all_goals (try omega)
        · skip
          refine AW.skip ?_
          dsimp only
          refine AW.regS tbl (by rw [hx]; kernel_rfl) (fun K hK => ?_)
          iterate 2 refine st tok (by rfl) (by simp (disch := omega) only [sim_binOp, seval, Ty.agg, tb_3, sim_move]; (repeat' refine And.intro ?_ ?_) <;> first | exact Kq.here _ _ | omega | assumption | with_reducible rfl) ?_
          refine SOps.nil (hK _ _ ?_)
          clear hK
          dsimp only
          -- stop: round's end (live 2:x, 3:f, 4, 6:out, 24, 25, 26)
          have hg : ((x.acked f).holds f).gives f = ((x.acked f).holds f, []) := by
            unfold LEnd.gives; rw [if_neg (fun hc => by have := c hc.1; omega)]
          have e3 : stage x f 3 = stage x f 2 := congrArg Prod.fst hg
          have o3 : outs x f 3 = [] := congrArg Prod.snd hg
          refine ⟨3, ?_, by omega, by omega⟩
          rw [e3]
          apply Wk.fin (ks := [0, 2, 1]) (kl := [6, 7]) h0 hok
          case hN => omega
          case hm => omega
          case hv => repeat first | exact TgtV.base | (refine TgtV.cons ⟨by omega, ?_, ?_⟩ ?_; (focus (simp (maxSteps := 2000000) (disch := omega) only [sim_all, ↓fieldOff_eq, ↓newsV_eq, ↓sliceV_eq, ↓lenV_eq, seval, Ty.agg, tb_all, endC, zeroC, frC, o2, o3, wksL, D.leC, D.e.injEq, E.sl.injEq, exists_eq_right, exists_eq_right', D.idsB, D.idsC, decide_eq_true_eq, List.all_cons, List.all_nil, true_or, or_true]; done)); (focus (simp (maxSteps := 2000000) (disch := omega) only [sim_all, ↓fieldOff_eq, ↓newsV_eq, ↓sliceV_eq, ↓lenV_eq, seval, Ty.agg, tb_all, endC, zeroC, frC, o2, o3, wksL, D.leC, D.e.injEq, E.sl.injEq, exists_eq_right, exists_eq_right', D.idsB, D.idsC, decide_eq_true_eq, List.all_cons, List.all_nil, true_or, or_true]; done)))
          case hc => repeat first | exact Cov.base | refine Cov.cons (by first | (left; omega) | (right; simp)) ?_
          case hl => repeat first | exact TgtL.base | (refine TgtL.cons ⟨by omega, ?_⟩ ?_; (focus (simp (maxSteps := 2000000) (disch := omega) only [sim_all, ↓fieldOff_eq, ↓newsV_eq, ↓sliceV_eq, ↓lenV_eq, seval, Ty.agg, tb_all, endC, zeroC, frC, o2, o3, wksL, D.leC, D.e.injEq, E.sl.injEq, exists_eq_right, exists_eq_right', D.idsB, D.idsC, decide_eq_true_eq, List.all_cons, List.all_nil, true_or, or_true]; done)))
          case hcl => repeat first | exact Cov.base | refine Cov.cons (by first | (left; omega) | (right; simp)) ?_
          all_goals simp (maxSteps := 2000000) (disch := omega) only [sim_all, ↓fieldOff_eq, ↓newsV_eq, ↓sliceV_eq, ↓lenV_eq, seval, Ty.agg, tb_all, endC, zeroC, frC, o2, o3, wksL, D.leC, D.e.injEq, E.sl.injEq, exists_eq_right, exists_eq_right', D.idsB, D.idsC, decide_eq_true_eq, List.all_cons, List.all_nil, true_or, or_true]
          all_goals (try omega)
      · skip
        refine AW.seq ?_
        refine AW.regS tbl (by rw [hx]; kernel_rfl) (fun K hK => ?_)
        refine st tok (by rfl) (by simp (disch := omega) only [sim_binOp, seval, Ty.agg, tb_3]; (repeat' refine And.intro ?_ ?_) <;> first | exact Kq.here _ _ | omega | assumption | with_reducible rfl) ?_
        refine SOps.nil (hK _ _ ?_)
        clear hK
        dsimp only
        refine AW.seq ?_
        -- stop: cond (live 2:x, 3:f, 4, 6:out, 24, 25, 26, 27)
        refine AW.cond (b := false) (by simp only [sim_ev, Nat.reduceBEq]; (try rfl)) ?_
        dsimp only
        refine AW.exit ?_
        dsimp only
        (try simp only [if_true, reduceIte, Nat.reduceEqDiff, reduceCtorEq])
        refine AW.seq ?_
        refine AW.regS tbl (by rw [hx]; kernel_rfl) (fun K hK => ?_)
        iterate 4 (first | refine st tok (by rfl) (by simp (disch := omega) only [sim_load, seval, Ty.agg, tb_3, tb_9, tb_22, tb_23, tb_25, tb_74, endC, zeroC, sim_move, sim_store, sim_assign]; (repeat' refine And.intro ?_ ?_) <;> first | exact Kq.here _ _ | omega | assumption | with_reducible rfl) ?_ | refine st_n tok (by rfl) (by simp (disch := omega) only [sim_load, seval, Ty.agg, tb_3, tb_9, tb_22, tb_23, tb_25, tb_74, endC, zeroC, sim_move, sim_store, sim_assign]; (repeat' refine And.intro ?_ ?_) <;> first | exact Kq.here _ _ | omega | assumption | with_reducible rfl) ?_)
        refine SOps.nil (hK _ _ ?_)
        clear hK
        dsimp only
        -- stop: ret (live 4, 5)
        have hr : x.receive f = (((x.acked f).holds f).gives f) := by unfold LEnd.receive; rw [if_pos h]
        rw [hr]
        refine AW.ret ?_
        dsimp only
        simp only [RetV, resD, sim_all, ↓fieldOff_eq, ↓newsV_eq, ↓sliceV_eq, ↓lenV_eq, seval, Ty.agg, tb_all]
        simp [stage, outs]
end Go.Proofs.Ytakbadleipbngaa
