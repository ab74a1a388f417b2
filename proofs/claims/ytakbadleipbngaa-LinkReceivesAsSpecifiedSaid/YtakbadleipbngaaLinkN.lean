/-
  layer 42: ends, frames and texts compared with themselves. Conditions: none.
-/
import Derived.Test.YtakbadleipbngaaLinkM
import Derived.Test.YtakbadleipbngaaAbF
set_option linter.all false
namespace Go.Proofs.Ytakbadleipbngaa
open Go.RowKit
theorem sE_g {l : List ByteArray} {i : Nat} (h : i < l.length) : (l.map sE).getD i .any = .lit (.string l[i]!) := by
  rw [getD_map (List.getElem?_eq_getElem h), getElem!_pos l i h]; rfl
theorem fE_length (l : List LFrame) : (fE l).length = l.length * 3 := by
  induction l with
  | nil => rfl
  | cons g l ih => simp only [fE, List.flatMap_cons, List.length_append, List.length_cons, List.length_nil] at ih ⊢; omega
instance : Inhabited LFrame := ⟨⟨0, 0, .empty⟩⟩
theorem fE_gn {l : List LFrame} {i : Nat} (h : i < l.length) (c : Nat) (hc : c < 3) : (fE l).getD (i * 3 + c) .any = ([.lit (.int .i64 l[i]!.seq), .lit (.int .i64 l[i]!.ack), .lit (.string l[i]!.data)] : List E).getD c .any := by
  induction l generalizing i with
  | nil => simp at h
  | cons f l ih =>
    cases i with
    | zero =>
      rw [Nat.zero_mul, Nat.zero_add]
      have e : fE (f :: l) = [.lit (.int .i64 f.seq), .lit (.int .i64 f.ack), .lit (.string f.data)] ++ fE l := rfl
      rw [e]
      match c, hc with
      | 0, _ => rfl
      | 1, _ => rfl
      | 2, _ => rfl
    | succ i =>
      have e : fE (f :: l) = [.lit (.int .i64 f.seq), .lit (.int .i64 f.ack), .lit (.string f.data)] ++ fE l := rfl
      have h' : i < l.length := by simpa using h
      have h2 := ih h'
      rw [e, show (i + 1) * 3 + c = i * 3 + c + 1 + 1 + 1 by omega]
      show (fE l).getD (i * 3 + c) .any = _
      rw [h2]
      simp
theorem fE_g0 {l : List LFrame} {i : Nat} (h : i < l.length) : (fE l).getD (i * 3) .any = .lit (.int .i64 l[i]!.seq) := fE_gn h 0 (by omega)
theorem fE_g1 {l : List LFrame} {i : Nat} (h : i < l.length) : (fE l).getD (i * 3 + 1) .any = .lit (.int .i64 l[i]!.ack) := fE_gn h 1 (by omega)
theorem fE_g2 {l : List LFrame} {i : Nat} (h : i < l.length) : (fE l).getD (i * 3 + 2) .any = .lit (.string l[i]!.data) := fE_gn h 2 (by omega)
theorem r_SameTexts (l : List ByteArray) (hl : l.length ≤ 1000000) : PCalls Try.prog 17 [.e (.sl 1 l.length (l.map sE)), .e (.sl 1 l.length (l.map sE))] (.e (.lit (.bool true))) := by
  refine PCalls.of (rs := [.tmp 4]) tok Try.func17 rfl rfl (Nat.le_of_ble_eq_true rfl) rfl (fun cx hx h0 => ?_)
  simp only [argsT, Nat.reduceAdd, Nat.zero_add]
  have hok := HpOk.nil
  refine AW.seq ?_
  refine AW.regS tbl (by rw [hx]; kernel_rfl) (fun K hK => ?_)
  refine st tok (by rfl) (by simp (disch := omega) only [sim_assign, seval, Ty.agg, tb_4]; (repeat' refine And.intro ?_ ?_) <;> first | exact Kq.here _ _ | omega | assumption | with_reducible rfl) ?_
  refine SOps.nil (hK _ _ ?_)
  clear hK
  dsimp only
  refine AW.seq ?_
  refine AW.seq ?_
  refine AW.regS tbl (by rw [hx]; kernel_rfl) (fun K hK => ?_)
  iterate 5 refine st tok (by rfl) (by simp (disch := omega) only [sim_move, seval, Ty.agg, sim_call, ↓newsV_eq, ↓lenV_eq, tb_3, tb_9, tb_22, sim_binOp]; (repeat' refine And.intro ?_ ?_) <;> first | exact Kq.here _ _ | omega | assumption | with_reducible rfl) ?_
  refine SOps.nil (hK _ _ ?_)
  clear hK
  dsimp only
  refine AW.keep [0, 1, 10] ?_
  simp only [keepT_cons, keepT_nil, keepO_some, keepO_none, lk_cons, lk_nil, Nat.reduceBEq, cond_true, cond_false]
  -- stop: cond (live 0:a, 1:b, 10)
  refine AW.cond (b := false) (by simp only [sim_ev, Nat.reduceBEq]; (try rfl); all_goals (simp)) ?_
  dsimp only
  refine AW.skip ?_
  dsimp only
  refine AW.seq ?_
  refine AW.seq ?_
  refine AW.regS tbl (by rw [hx]; kernel_rfl) (fun K hK => ?_)
  refine st tok (by rfl) (by simp (disch := omega) only [sim_assign, seval, Ty.agg, tb_3]; (repeat' refine And.intro ?_ ?_) <;> first | exact Kq.here _ _ | omega | assumption | with_reducible rfl) ?_
  refine SOps.nil (hK _ _ ?_)
  clear hK
  dsimp only
  refine AW.block ?_
  -- stop: loop (live 0:a, 1:b, 5:k)
  refine AW.loopW (fun k : Nat => [(0, .e (.sl 1 l.length (l.map sE))), (1, .e (.sl 1 l.length (l.map sE))), (5, .e (.lit (.int .i64 k)))]) (fun _ => ⟨[], [], 0⟩) (fun k => k ≤ l.length) (fun k => l.length - k) 0 ?_ (Nat.zero_le _) ?_
  · skip
    apply Wk.fin (ks := []) (kl := []) h0 hok
    case hN => omega
    case hm => omega
    case hv => repeat first | exact TgtV.base | (refine TgtV.cons ⟨by omega, ?_, ?_⟩ ?_; (focus (simp (maxSteps := 2000000) (disch := omega) only [sim_all, ↓fieldOff_eq, ↓newsV_eq, ↓sliceV_eq, ↓lenV_eq, seval, Ty.agg, tb_all, Int.natCast_zero, wksL, D.leC, D.e.injEq, E.sl.injEq, exists_eq_right, exists_eq_right', D.idsB, D.idsC, decide_eq_true_eq, List.all_cons, List.all_nil, true_or, or_true]; done)); (focus (simp (maxSteps := 2000000) (disch := omega) only [sim_all, ↓fieldOff_eq, ↓newsV_eq, ↓sliceV_eq, ↓lenV_eq, seval, Ty.agg, tb_all, Int.natCast_zero, wksL, D.leC, D.e.injEq, E.sl.injEq, exists_eq_right, exists_eq_right', D.idsB, D.idsC, decide_eq_true_eq, List.all_cons, List.all_nil, true_or, or_true]; done)))
    case hc => repeat first | exact Cov.base | refine Cov.cons (by first | (left; omega) | (right; simp)) ?_
    case hl => repeat first | exact TgtL.base | (refine TgtL.cons ⟨by omega, ?_⟩ ?_; (focus (simp (maxSteps := 2000000) (disch := omega) only [sim_all, ↓fieldOff_eq, ↓newsV_eq, ↓sliceV_eq, ↓lenV_eq, seval, Ty.agg, tb_all, Int.natCast_zero, wksL, D.leC, D.e.injEq, E.sl.injEq, exists_eq_right, exists_eq_right', D.idsB, D.idsC, decide_eq_true_eq, List.all_cons, List.all_nil, true_or, or_true]; done)))
    case hcl => repeat first | exact Cov.base | refine Cov.cons (by first | (left; omega) | (right; simp)) ?_
    all_goals simp (maxSteps := 2000000) (disch := omega) only [sim_all, ↓fieldOff_eq, ↓newsV_eq, ↓sliceV_eq, ↓lenV_eq, seval, Ty.agg, tb_all, Int.natCast_zero, wksL, D.leC, D.e.injEq, E.sl.injEq, exists_eq_right, exists_eq_right', D.idsB, D.idsC, decide_eq_true_eq, List.all_cons, List.all_nil, true_or, or_true]
    all_goals (try omega)
  · intro k hk
    refine AW.seq ?_
    refine AW.seq ?_
    refine AW.regS tbl (by rw [hx]; kernel_rfl) (fun K hK => ?_)
    iterate 4 refine st tok (by rfl) (by simp (disch := omega) only [sim_move, seval, Ty.agg, sim_call, ↓newsV_eq, ↓lenV_eq, tb_3, tb_9, tb_22, sim_binOp]; (repeat' refine And.intro ?_ ?_) <;> first | exact Kq.here _ _ | omega | assumption | with_reducible rfl) ?_
    refine SOps.nil (hK _ _ ?_)
    clear hK
    dsimp only
    -- stop: cond (live 0:a, 1:b, 5:k, 14)
    refine AW.condS (by simp only [sim_ev, Nat.reduceBEq]; rfl) (fun h => ?_) (fun h => ?_)
    all_goals (try simp only [sim_bool] at h)
    · skip
      refine AW.skip ?_
      dsimp only
      refine AW.seq ?_
      refine AW.block ?_
      refine AW.seq ?_
      refine AW.drwS tbl [] (by kernel_rfl) (by rw [hx]; kernel_rfl) (by kernel_rfl) (fun K hK => ?_)
      iterate 9 refine st tok (by rfl) (by simp (disch := omega) only [sim_move, seval, Ty.agg, sE_g, List.length_map, sim_indexAddr, tb_9, tb_22, sim_load, sim_binOp]; (repeat' refine And.intro ?_ ?_) <;> first | exact Kq.here _ _ | omega | assumption | with_reducible rfl) ?_
      refine SOps.nil (hK _ _ ?_)
      clear hK
      dsimp only
      refine AW.keep [0, 1, 5, 25] ?_
      simp only [keepT_cons, keepT_nil, keepO_some, keepO_none, lk_cons, lk_nil, Nat.reduceBEq, cond_true, cond_false]
      -- stop: cond (live 0:a, 1:b, 5:k, 25)
      refine AW.cond (b := false) (by simp only [sim_ev, Nat.reduceBEq]; (try rfl); all_goals (simp)) ?_
      dsimp only
      refine AW.skip ?_
      dsimp only
      refine AW.regS tbl (by rw [hx]; kernel_rfl) (fun K hK => ?_)
      iterate 3 refine st tok (by rfl) (by simp (disch := omega) only [sim_move, seval, Ty.agg, sim_binOp, tb_3, sim_assign]; (repeat' refine And.intro ?_ ?_) <;> first | exact Kq.here _ _ | omega | assumption | with_reducible rfl) ?_
      refine SOps.nil (hK _ _ ?_)
      clear hK
      dsimp only
      -- stop: round's end (live 0:a, 1:b, 5:k)
      refine ⟨k + 1, ?_, by omega, by omega⟩
      apply Wk.fin (ks := []) (kl := []) h0 hok
      case hN => omega
      case hm => omega
      case hv => repeat first | exact TgtV.base | (refine TgtV.cons ⟨by omega, ?_, ?_⟩ ?_; (focus (simp (maxSteps := 2000000) (disch := omega) only [sim_all, ↓fieldOff_eq, ↓newsV_eq, ↓sliceV_eq, ↓lenV_eq, seval, Ty.agg, tb_all, Int.natCast_add, wksL, D.leC, D.e.injEq, E.sl.injEq, exists_eq_right, exists_eq_right', D.idsB, D.idsC, decide_eq_true_eq, List.all_cons, List.all_nil, true_or, or_true]; done)); (focus (simp (maxSteps := 2000000) (disch := omega) only [sim_all, ↓fieldOff_eq, ↓newsV_eq, ↓sliceV_eq, ↓lenV_eq, seval, Ty.agg, tb_all, Int.natCast_add, wksL, D.leC, D.e.injEq, E.sl.injEq, exists_eq_right, exists_eq_right', D.idsB, D.idsC, decide_eq_true_eq, List.all_cons, List.all_nil, true_or, or_true]; done)))
      case hc => repeat first | exact Cov.base | refine Cov.cons (by first | (left; omega) | (right; simp)) ?_
      case hl => repeat first | exact TgtL.base | (refine TgtL.cons ⟨by omega, ?_⟩ ?_; (focus (simp (maxSteps := 2000000) (disch := omega) only [sim_all, ↓fieldOff_eq, ↓newsV_eq, ↓sliceV_eq, ↓lenV_eq, seval, Ty.agg, tb_all, Int.natCast_add, wksL, D.leC, D.e.injEq, E.sl.injEq, exists_eq_right, exists_eq_right', D.idsB, D.idsC, decide_eq_true_eq, List.all_cons, List.all_nil, true_or, or_true]; done)))
      case hcl => repeat first | exact Cov.base | refine Cov.cons (by first | (left; omega) | (right; simp)) ?_
      all_goals simp (maxSteps := 2000000) (disch := omega) only [sim_all, ↓fieldOff_eq, ↓newsV_eq, ↓sliceV_eq, ↓lenV_eq, seval, Ty.agg, tb_all, Int.natCast_add, wksL, D.leC, D.e.injEq, E.sl.injEq, exists_eq_right, exists_eq_right', D.idsB, D.idsC, decide_eq_true_eq, List.all_cons, List.all_nil, true_or, or_true]
      all_goals (try omega)
    · skip
      refine AW.exit ?_
      dsimp only
      (try simp only [if_true, reduceIte, Nat.reduceEqDiff, reduceCtorEq])
      refine AW.seq ?_
      refine AW.regS tbl (by rw [hx]; kernel_rfl) (fun K hK => ?_)
      refine st tok (by rfl) (by simp (disch := omega) only [sim_assign, seval, Ty.agg, tb_4]; (repeat' refine And.intro ?_ ?_) <;> first | exact Kq.here _ _ | omega | assumption | with_reducible rfl) ?_
      refine SOps.nil (hK _ _ ?_)
      clear hK
      dsimp only
      -- stop: ret (live 4)
      refine AW.ret ?_
      dsimp only
      simp only [RetV, resD, sim_all, ↓fieldOff_eq, ↓newsV_eq, ↓sliceV_eq, ↓lenV_eq, seval, Ty.agg, tb_all]
      exact .inl trivial
theorem r_SameFrames (l : List LFrame) (hl : l.length ≤ 1000000) : PCalls Try.prog 18 [.e (.sl 3 l.length (fE l)), .e (.sl 3 l.length (fE l))] (.e (.lit (.bool true))) := by
  refine PCalls.of (rs := [.tmp 4]) tok Try.func18 rfl rfl (Nat.le_of_ble_eq_true rfl) rfl (fun cx hx h0 => ?_)
  simp only [argsT, Nat.reduceAdd, Nat.zero_add]
  have hok := HpOk.nil
  refine AW.seq ?_
  refine AW.regS tbl (by rw [hx]; kernel_rfl) (fun K hK => ?_)
  refine st tok (by rfl) (by simp (disch := omega) only [sim_assign, seval, Ty.agg, tb_4]; (repeat' refine And.intro ?_ ?_) <;> first | exact Kq.here _ _ | omega | assumption | with_reducible rfl) ?_
  refine SOps.nil (hK _ _ ?_)
  clear hK
  dsimp only
  refine AW.seq ?_
  refine AW.seq ?_
  refine AW.regS tbl (by rw [hx]; kernel_rfl) (fun K hK => ?_)
  iterate 5 refine st tok (by rfl) (by simp (disch := omega) only [sim_move, seval, Ty.agg, sim_call, ↓newsV_eq, ↓lenV_eq, tb_3, tb_9, tb_27, tb_45, sim_binOp]; (repeat' refine And.intro ?_ ?_) <;> first | exact Kq.here _ _ | omega | assumption | with_reducible rfl) ?_
  refine SOps.nil (hK _ _ ?_)
  clear hK
  dsimp only
  refine AW.keep [0, 1, 10] ?_
  simp only [keepT_cons, keepT_nil, keepO_some, keepO_none, lk_cons, lk_nil, Nat.reduceBEq, cond_true, cond_false]
  -- stop: cond (live 0:a, 1:b, 10)
  refine AW.cond (b := false) (by simp only [sim_ev, Nat.reduceBEq]; (try rfl); all_goals (simp)) ?_
  dsimp only
  refine AW.skip ?_
  dsimp only
  refine AW.seq ?_
  refine AW.seq ?_
  refine AW.regS tbl (by rw [hx]; kernel_rfl) (fun K hK => ?_)
  refine st tok (by rfl) (by simp (disch := omega) only [sim_assign, seval, Ty.agg, tb_3]; (repeat' refine And.intro ?_ ?_) <;> first | exact Kq.here _ _ | omega | assumption | with_reducible rfl) ?_
  refine SOps.nil (hK _ _ ?_)
  clear hK
  dsimp only
  refine AW.block ?_
  -- stop: loop (live 0:a, 1:b, 5:k)
  refine AW.loopW (fun k : Nat => [(0, .e (.sl 3 l.length (fE l))), (1, .e (.sl 3 l.length (fE l))), (5, .e (.lit (.int .i64 k)))]) (fun _ => ⟨[], [], 0⟩) (fun k => k ≤ l.length) (fun k => l.length - k) 0 ?_ (Nat.zero_le _) ?_
  · skip
    apply Wk.fin (ks := []) (kl := []) h0 hok
    case hN => omega
    case hm => omega
    case hv => repeat first | exact TgtV.base | (refine TgtV.cons ⟨by omega, ?_, ?_⟩ ?_; (focus (simp (maxSteps := 2000000) (disch := omega) only [sim_all, ↓fieldOff_eq, ↓newsV_eq, ↓sliceV_eq, ↓lenV_eq, seval, Ty.agg, tb_all, Int.natCast_zero, wksL, D.leC, D.e.injEq, E.sl.injEq, exists_eq_right, exists_eq_right', D.idsB, D.idsC, decide_eq_true_eq, List.all_cons, List.all_nil, true_or, or_true]; done)); (focus (simp (maxSteps := 2000000) (disch := omega) only [sim_all, ↓fieldOff_eq, ↓newsV_eq, ↓sliceV_eq, ↓lenV_eq, seval, Ty.agg, tb_all, Int.natCast_zero, wksL, D.leC, D.e.injEq, E.sl.injEq, exists_eq_right, exists_eq_right', D.idsB, D.idsC, decide_eq_true_eq, List.all_cons, List.all_nil, true_or, or_true]; done)))
    case hc => repeat first | exact Cov.base | refine Cov.cons (by first | (left; omega) | (right; simp)) ?_
    case hl => repeat first | exact TgtL.base | (refine TgtL.cons ⟨by omega, ?_⟩ ?_; (focus (simp (maxSteps := 2000000) (disch := omega) only [sim_all, ↓fieldOff_eq, ↓newsV_eq, ↓sliceV_eq, ↓lenV_eq, seval, Ty.agg, tb_all, Int.natCast_zero, wksL, D.leC, D.e.injEq, E.sl.injEq, exists_eq_right, exists_eq_right', D.idsB, D.idsC, decide_eq_true_eq, List.all_cons, List.all_nil, true_or, or_true]; done)))
    case hcl => repeat first | exact Cov.base | refine Cov.cons (by first | (left; omega) | (right; simp)) ?_
    all_goals simp (maxSteps := 2000000) (disch := omega) only [sim_all, ↓fieldOff_eq, ↓newsV_eq, ↓sliceV_eq, ↓lenV_eq, seval, Ty.agg, tb_all, Int.natCast_zero, wksL, D.leC, D.e.injEq, E.sl.injEq, exists_eq_right, exists_eq_right', D.idsB, D.idsC, decide_eq_true_eq, List.all_cons, List.all_nil, true_or, or_true]
    all_goals (try omega)
  · intro k hk
    refine AW.seq ?_
    refine AW.seq ?_
    refine AW.regS tbl (by rw [hx]; kernel_rfl) (fun K hK => ?_)
    iterate 4 refine st tok (by rfl) (by simp (disch := omega) only [sim_move, seval, Ty.agg, sim_call, ↓newsV_eq, ↓lenV_eq, tb_3, tb_9, tb_27, tb_45, sim_binOp]; (repeat' refine And.intro ?_ ?_) <;> first | exact Kq.here _ _ | omega | assumption | with_reducible rfl) ?_
    refine SOps.nil (hK _ _ ?_)
    clear hK
    dsimp only
    -- stop: cond (live 0:a, 1:b, 5:k, 14)
    refine AW.condS (by simp only [sim_ev, Nat.reduceBEq]; rfl) (fun h => ?_) (fun h => ?_)
    all_goals (try simp only [sim_bool] at h)
    · skip
      refine AW.skip ?_
      dsimp only
      refine AW.seq ?_
      refine AW.block ?_
      refine AW.seq ?_
      refine AW.drwS tbl [] (by kernel_rfl) (by rw [hx]; kernel_rfl) (by kernel_rfl) (fun K hK => ?_)
      iterate 8 refine st tok (by rfl) (by simp (disch := omega) only [sim_move, seval, Ty.agg, fE_g0, fE_g1, fE_g2, fE_length, sim_indexAddr, tb_3, tb_9, tb_27, tb_45, sim_load]; (repeat' refine And.intro ?_ ?_) <;> first | exact Kq.here _ _ | omega | assumption | with_reducible rfl) ?_
      refine st tok (by rfl) (by simp (disch := omega) only [sim_binOp, seval, Ty.agg, tb_3, tb_9, tb_27, fE_g0, fE_g1, fE_g2, fE_length]; refine binV_agN tok 6 (by decide) tb_27 rfl (by kernel_rfl) (by kernel_rfl) (by simp only [lits_cons, lits_nil, Option.map_some]; rfl) (by simp only [lits_cons, lits_nil, Option.map_some]; rfl) (by simp [fitT, fitFs, tb_3, tb_9, tb_27]) (by simp [fitT, fitFs, tb_3, tb_9, tb_27]) (by simp only [List.cons.injEq, Value.int.injEq, Value.string.injEq, Value.bool.injEq, and_true, true_and]; exact Iff.rfl) (by infer_instance) (by exact Kq.here _ _)) ?_
      refine SOps.nil (hK _ _ ?_)
      clear hK
      dsimp only
      refine AW.keep [0, 1, 5, 25] ?_
      simp only [keepT_cons, keepT_nil, keepO_some, keepO_none, lk_cons, lk_nil, Nat.reduceBEq, cond_true, cond_false]
      -- stop: cond (live 0:a, 1:b, 5:k, 25)
      refine AW.cond (b := false) (by simp only [sim_ev, Nat.reduceBEq]; (try rfl); all_goals (simp)) ?_
      dsimp only
      refine AW.skip ?_
      dsimp only
      refine AW.regS tbl (by rw [hx]; kernel_rfl) (fun K hK => ?_)
      iterate 3 refine st tok (by rfl) (by simp (disch := omega) only [sim_move, seval, Ty.agg, sim_binOp, tb_3, sim_assign]; (repeat' refine And.intro ?_ ?_) <;> first | exact Kq.here _ _ | omega | assumption | with_reducible rfl) ?_
      refine SOps.nil (hK _ _ ?_)
      clear hK
      dsimp only
      -- stop: round's end (live 0:a, 1:b, 5:k)
      refine ⟨k + 1, ?_, by omega, by omega⟩
      apply Wk.fin (ks := []) (kl := []) h0 hok
      case hN => omega
      case hm => omega
      case hv => repeat first | exact TgtV.base | (refine TgtV.cons ⟨by omega, ?_, ?_⟩ ?_; (focus (simp (maxSteps := 2000000) (disch := omega) only [sim_all, ↓fieldOff_eq, ↓newsV_eq, ↓sliceV_eq, ↓lenV_eq, seval, Ty.agg, tb_all, Int.natCast_add, wksL, D.leC, D.e.injEq, E.sl.injEq, exists_eq_right, exists_eq_right', D.idsB, D.idsC, decide_eq_true_eq, List.all_cons, List.all_nil, true_or, or_true]; done)); (focus (simp (maxSteps := 2000000) (disch := omega) only [sim_all, ↓fieldOff_eq, ↓newsV_eq, ↓sliceV_eq, ↓lenV_eq, seval, Ty.agg, tb_all, Int.natCast_add, wksL, D.leC, D.e.injEq, E.sl.injEq, exists_eq_right, exists_eq_right', D.idsB, D.idsC, decide_eq_true_eq, List.all_cons, List.all_nil, true_or, or_true]; done)))
      case hc => repeat first | exact Cov.base | refine Cov.cons (by first | (left; omega) | (right; simp)) ?_
      case hl => repeat first | exact TgtL.base | (refine TgtL.cons ⟨by omega, ?_⟩ ?_; (focus (simp (maxSteps := 2000000) (disch := omega) only [sim_all, ↓fieldOff_eq, ↓newsV_eq, ↓sliceV_eq, ↓lenV_eq, seval, Ty.agg, tb_all, Int.natCast_add, wksL, D.leC, D.e.injEq, E.sl.injEq, exists_eq_right, exists_eq_right', D.idsB, D.idsC, decide_eq_true_eq, List.all_cons, List.all_nil, true_or, or_true]; done)))
      case hcl => repeat first | exact Cov.base | refine Cov.cons (by first | (left; omega) | (right; simp)) ?_
      all_goals simp (maxSteps := 2000000) (disch := omega) only [sim_all, ↓fieldOff_eq, ↓newsV_eq, ↓sliceV_eq, ↓lenV_eq, seval, Ty.agg, tb_all, Int.natCast_add, wksL, D.leC, D.e.injEq, E.sl.injEq, exists_eq_right, exists_eq_right', D.idsB, D.idsC, decide_eq_true_eq, List.all_cons, List.all_nil, true_or, or_true]
      all_goals (try omega)
    · skip
      refine AW.exit ?_
      dsimp only
      (try simp only [if_true, reduceIte, Nat.reduceEqDiff, reduceCtorEq])
      refine AW.seq ?_
      refine AW.regS tbl (by rw [hx]; kernel_rfl) (fun K hK => ?_)
      refine st tok (by rfl) (by simp (disch := omega) only [sim_assign, seval, Ty.agg, tb_4]; (repeat' refine And.intro ?_ ?_) <;> first | exact Kq.here _ _ | omega | assumption | with_reducible rfl) ?_
      refine SOps.nil (hK _ _ ?_)
      clear hK
      dsimp only
      -- stop: ret (live 4)
      refine AW.ret ?_
      dsimp only
      simp only [RetV, resD, sim_all, ↓fieldOff_eq, ↓newsV_eq, ↓sliceV_eq, ↓lenV_eq, seval, Ty.agg, tb_all]
      exact .inl trivial
theorem r_Same (x : LEnd) (hq : x.queue.length ≤ 1000000) (hl : x.held.length ≤ 1000000) : PCalls Try.prog 16 [endD x, endD x] (.e (.lit (.bool true))) := by
  unfold endD
  refine PCalls.of (rs := [.tmp 4]) tok Try.func16 rfl rfl (Nat.le_of_ble_eq_true rfl) rfl (fun cx hx h0 => ?_)
  simp only [argsT, Nat.reduceAdd, Nat.zero_add]
  have hok := HpOk.nil
  refine AW.seq ?_
  refine AW.regS tbl (by rw [hx]; kernel_rfl) (fun K hK => ?_)
  iterate 3 refine st tok (by rfl) (by simp (disch := omega) only [sim_box, seval, Ty.agg, tb_3, tb_9, tb_22, tb_23, tb_25, tb_74, sim_assign, tb_4]; (repeat' refine And.intro ?_ ?_) <;> first | exact Kq.here _ _ | omega | assumption | with_reducible rfl) ?_
  refine SOps.nil (hK _ _ ?_)
  clear hK
  dsimp only
  refine AW.seq ?_
  refine AW.seq ?_
  refine AW.regS tbl (by rw [hx]; kernel_rfl) (fun K hK => ?_)
  iterate 6 refine st tok (by rfl) (by simp (disch := omega) only [sim_fieldAddr, ↓fieldOff_eq, seval, Ty.agg, tb_3, tb_9, tb_22, tb_23, tb_25, tb_74, sim_load, sim_binOp, sim_move]; (repeat' refine And.intro ?_ ?_) <;> first | exact Kq.here _ _ | omega | assumption | with_reducible rfl) ?_
  refine st_opt tok (by rfl) rfl (by simp only [sim_ev, Nat.reduceBEq]; rfl) (bq_f _) (fun hgd => by (have hgq := hgd; (try simp only [sim_bool] at hgq)); simp (disch := omega) only [hgd, sim_un, sim_fieldAddr, ↓fieldOff_eq, seval, Ty.agg, tb_3, tb_9, tb_22, tb_23, tb_25, tb_74]; (repeat' refine And.intro ?_ ?_) <;> first | exact Kq.here _ _ | omega | assumption | with_reducible rfl) (by first | exact Or.inl rfl | exact Or.inr ⟨_, _, _, .tmp 2, rfl, by simp [Op.operands, Call.operands], by simp only [sim_ev, Nat.reduceBEq]; first | exact Or.inl rfl | exact Or.inr ⟨_, rfl⟩⟩) ?_
  refine st_opt tok (by rfl) rfl (by simp only [sim_ev, Nat.reduceBEq]; rfl) (bq_f _) (fun hgd => by (have hgq := hgd; (try simp only [sim_bool] at hgq)); simp (disch := omega) only [hgd, sim_un, sim_load, seval, Ty.agg, tb_3]; (repeat' refine And.intro ?_ ?_) <;> first | exact Kq.here _ _ | omega | assumption | with_reducible rfl) (by first | exact Or.inl rfl | exact Or.inr ⟨_, _, _, .tmp 12, rfl, by simp [Op.operands, Call.operands], by simp only [sim_ev, Nat.reduceBEq]; first | exact Or.inl rfl | exact Or.inr ⟨_, rfl⟩⟩) ?_
  refine st_opt tok (by rfl) rfl (by simp only [sim_ev, Nat.reduceBEq]; rfl) (bq_f _) (fun hgd => by (have hgq := hgd; (try simp only [sim_bool] at hgq)); simp (disch := omega) only [hgd, sim_un, sim_fieldAddr, ↓fieldOff_eq, seval, Ty.agg, tb_3, tb_9, tb_22, tb_23, tb_25, tb_74]; (repeat' refine And.intro ?_ ?_) <;> first | exact Kq.here _ _ | omega | assumption | with_reducible rfl) (by first | exact Or.inl rfl | exact Or.inr ⟨_, _, _, .tmp 3, rfl, by simp [Op.operands, Call.operands], by simp only [sim_ev, Nat.reduceBEq]; first | exact Or.inl rfl | exact Or.inr ⟨_, rfl⟩⟩) ?_
  refine st_opt tok (by rfl) rfl (by simp only [sim_ev, Nat.reduceBEq]; rfl) (bq_f _) (fun hgd => by (have hgq := hgd; (try simp only [sim_bool] at hgq)); simp (disch := omega) only [hgd, sim_un, sim_load, seval, Ty.agg, tb_3]; (repeat' refine And.intro ?_ ?_) <;> first | exact Kq.here _ _ | omega | assumption | with_reducible rfl) (by first | exact Or.inl rfl | exact Or.inr ⟨_, _, _, .tmp 14, rfl, by simp [Op.operands, Call.operands], by simp only [sim_ev, Nat.reduceBEq]; first | exact Or.inl rfl | exact Or.inr ⟨_, rfl⟩⟩) ?_
  refine st_opt tok (by rfl) rfl (by simp only [sim_ev, Nat.reduceBEq]; rfl) (bq_f _) (fun hgd => by (have hgq := hgd; (try simp only [sim_bool] at hgq)); simp (disch := omega) only [hgd, sim_un, sim_binOp, seval, Ty.agg, tb_3]; (repeat' refine And.intro ?_ ?_) <;> first | exact Kq.here _ _ | omega | assumption | with_reducible rfl) (by first | exact Or.inl rfl | exact Or.inr ⟨_, _, _, .tmp 13, rfl, by simp [Op.operands, Call.operands], by simp only [sim_ev, Nat.reduceBEq]; first | exact Or.inl rfl | exact Or.inr ⟨_, rfl⟩⟩) ?_
  refine st_or tok (by simp only [sim_ev, Nat.reduceBEq]; rfl) (fun hgd => by simp only [sim_ev, Nat.reduceBEq, sim_un, hgd, cond_true, Bool.not_false, Bool.not_true]; rfl) ?_
  refine st tok (by rfl) (by simp (disch := omega) only [sim_move, seval, Ty.agg]; (repeat' refine And.intro ?_ ?_) <;> first | exact Kq.here _ _ | omega | assumption | with_reducible rfl) ?_
  refine st_opt tok (by rfl) rfl (by simp only [sim_ev, Nat.reduceBEq]; rfl) (bq_f _) (fun hgd => by (have hgq := hgd; (try simp only [sim_bool] at hgq)); simp (disch := omega) only [hgd, sim_un, sim_fieldAddr, ↓fieldOff_eq, seval, Ty.agg, tb_3, tb_9, tb_22, tb_23, tb_25, tb_74]; (repeat' refine And.intro ?_ ?_) <;> first | exact Kq.here _ _ | omega | assumption | with_reducible rfl) (by first | exact Or.inl rfl | exact Or.inr ⟨_, _, _, .tmp 2, rfl, by simp [Op.operands, Call.operands], by simp only [sim_ev, Nat.reduceBEq]; first | exact Or.inl rfl | exact Or.inr ⟨_, rfl⟩⟩) ?_
  refine st_opt tok (by rfl) rfl (by simp only [sim_ev, Nat.reduceBEq]; rfl) (bq_f _) (fun hgd => by (have hgq := hgd; (try simp only [sim_bool] at hgq)); simp (disch := omega) only [hgd, sim_un, sim_load, seval, Ty.agg, tb_9, tb_22]; (repeat' refine And.intro ?_ ?_) <;> first | exact Kq.here _ _ | omega | assumption | with_reducible rfl) (by first | exact Or.inl rfl | exact Or.inr ⟨_, _, _, .tmp 19, rfl, by simp [Op.operands, Call.operands], by simp only [sim_ev, Nat.reduceBEq]; first | exact Or.inl rfl | exact Or.inr ⟨_, rfl⟩⟩) ?_
  refine st_opt tok (by rfl) rfl (by simp only [sim_ev, Nat.reduceBEq]; rfl) (bq_f _) (fun hgd => by (have hgq := hgd; (try simp only [sim_bool] at hgq)); simp (disch := omega) only [hgd, sim_un, sim_fieldAddr, ↓fieldOff_eq, seval, Ty.agg, tb_3, tb_9, tb_22, tb_23, tb_25, tb_74]; (repeat' refine And.intro ?_ ?_) <;> first | exact Kq.here _ _ | omega | assumption | with_reducible rfl) (by first | exact Or.inl rfl | exact Or.inr ⟨_, _, _, .tmp 3, rfl, by simp [Op.operands, Call.operands], by simp only [sim_ev, Nat.reduceBEq]; first | exact Or.inl rfl | exact Or.inr ⟨_, rfl⟩⟩) ?_
  refine st_opt tok (by rfl) rfl (by simp only [sim_ev, Nat.reduceBEq]; rfl) (bq_f _) (fun hgd => by (have hgq := hgd; (try simp only [sim_bool] at hgq)); simp (disch := omega) only [hgd, sim_un, sim_load, seval, Ty.agg, tb_9, tb_22]; (repeat' refine And.intro ?_ ?_) <;> first | exact Kq.here _ _ | omega | assumption | with_reducible rfl) (by first | exact Or.inl rfl | exact Or.inr ⟨_, _, _, .tmp 21, rfl, by simp [Op.operands, Call.operands], by simp only [sim_ev, Nat.reduceBEq]; first | exact Or.inl rfl | exact Or.inr ⟨_, rfl⟩⟩) ?_
  -- stop: call ['f', 17] (line 182)
  refine st_opt tok (by rfl) rfl (by simp only [sim_ev, Nat.reduceBEq]; rfl) (bq_f _) (fun hgd => by (have hgq := hgd; (try simp only [sim_bool] at hgq)); simp (disch := omega) only [hgd, sim_un, sim_call, ↓newsV_eq, ↓lenV_eq, seval, Ty.agg, tb_4, tb_9, tb_22]; (repeat refine And.intro (by omega) ?_); apply call_of; (case ha => simp only [sim_ex]; exact rfl); (case hc => exact (r_SameTexts x.queue hq)); (case hp1 => first | rfl | simp only [sim_pure]); (case h => ((try simp only [adopt_own, adopt_e, adopt_ag, adopt_tu, hp_tok, true_and]); exact Kq.here _ _))) (by first | exact Or.inl rfl | exact Or.inr ⟨_, _, _, .tmp 20, rfl, by simp [Op.operands, Call.operands], by simp only [sim_ev, Nat.reduceBEq]; first | exact Or.inl rfl | exact Or.inr ⟨_, rfl⟩⟩) ?_
  refine st_opt tok (by rfl) rfl (by simp only [sim_ev, Nat.reduceBEq]; rfl) (bq_f _) (fun hgd => by (have hgq := hgd; (try simp only [sim_bool] at hgq)); simp (disch := omega) only [hgd, sim_un, sim_unOp, seval, Ty.agg, tb_4]; (repeat' refine And.intro ?_ ?_) <;> first | exact Kq.here _ _ | omega | assumption | with_reducible rfl) (by first | exact Or.inl rfl | exact Or.inr ⟨_, _, _, .tmp 23, rfl, by simp [Op.operands, Call.operands], by simp only [sim_ev, Nat.reduceBEq]; first | exact Or.inl rfl | exact Or.inr ⟨_, rfl⟩⟩) ?_
  refine st_or tok (by simp only [sim_ev, Nat.reduceBEq]; rfl) (fun hgd => by simp only [sim_ev, Nat.reduceBEq, sim_un, hgd, cond_true, Bool.not_false, Bool.not_true]; rfl) ?_
  refine st tok (by rfl) (by simp (disch := omega) only [sim_move, seval, Ty.agg]; (repeat' refine And.intro ?_ ?_) <;> first | exact Kq.here _ _ | omega | assumption | with_reducible rfl) ?_
  refine st_opt tok (by rfl) rfl (by simp only [sim_ev, Nat.reduceBEq]; rfl) (bq_f _) (fun hgd => by (have hgq := hgd; (try simp only [sim_bool] at hgq)); simp (disch := omega) only [hgd, sim_un, sim_fieldAddr, ↓fieldOff_eq, seval, Ty.agg, tb_3, tb_9, tb_22, tb_23, tb_25, tb_74]; (repeat' refine And.intro ?_ ?_) <;> first | exact Kq.here _ _ | omega | assumption | with_reducible rfl) (by first | exact Or.inl rfl | exact Or.inr ⟨_, _, _, .tmp 2, rfl, by simp [Op.operands, Call.operands], by simp only [sim_ev, Nat.reduceBEq]; first | exact Or.inl rfl | exact Or.inr ⟨_, rfl⟩⟩) ?_
  refine st_opt tok (by rfl) rfl (by simp only [sim_ev, Nat.reduceBEq]; rfl) (bq_f _) (fun hgd => by (have hgq := hgd; (try simp only [sim_bool] at hgq)); simp (disch := omega) only [hgd, sim_un, sim_load, seval, Ty.agg, tb_3, tb_9, tb_23, tb_74]; (repeat' refine And.intro ?_ ?_) <;> first | exact Kq.here _ _ | omega | assumption | with_reducible rfl) (by first | exact Or.inl rfl | exact Or.inr ⟨_, _, _, .tmp 27, rfl, by simp [Op.operands, Call.operands], by simp only [sim_ev, Nat.reduceBEq]; first | exact Or.inl rfl | exact Or.inr ⟨_, rfl⟩⟩) ?_
  refine st_opt tok (by rfl) rfl (by simp only [sim_ev, Nat.reduceBEq]; rfl) (bq_f _) (fun hgd => by (have hgq := hgd; (try simp only [sim_bool] at hgq)); simp (disch := omega) only [hgd, sim_un, sim_call, ↓newsV_eq, ↓lenV_eq, seval, Ty.agg, tb_3, tb_9, tb_23, tb_74]; (repeat' refine And.intro ?_ ?_) <;> first | exact Kq.here _ _ | omega | assumption | with_reducible rfl) (by first | exact Or.inl rfl | exact Or.inr ⟨_, _, _, .tmp 28, rfl, by simp [Op.operands, Call.operands], by simp only [sim_ev, Nat.reduceBEq]; first | exact Or.inl rfl | exact Or.inr ⟨_, rfl⟩⟩) ?_
  refine st_opt tok (by rfl) rfl (by simp only [sim_ev, Nat.reduceBEq]; rfl) (bq_f _) (fun hgd => by (have hgq := hgd; (try simp only [sim_bool] at hgq)); simp (disch := omega) only [hgd, sim_un, sim_fieldAddr, ↓fieldOff_eq, seval, Ty.agg, tb_3, tb_9, tb_22, tb_23, tb_25, tb_74]; (repeat' refine And.intro ?_ ?_) <;> first | exact Kq.here _ _ | omega | assumption | with_reducible rfl) (by first | exact Or.inl rfl | exact Or.inr ⟨_, _, _, .tmp 3, rfl, by simp [Op.operands, Call.operands], by simp only [sim_ev, Nat.reduceBEq]; first | exact Or.inl rfl | exact Or.inr ⟨_, rfl⟩⟩) ?_
  refine st_opt tok (by rfl) rfl (by simp only [sim_ev, Nat.reduceBEq]; rfl) (bq_f _) (fun hgd => by (have hgq := hgd; (try simp only [sim_bool] at hgq)); simp (disch := omega) only [hgd, sim_un, sim_load, seval, Ty.agg, tb_3, tb_9, tb_23, tb_74]; (repeat' refine And.intro ?_ ?_) <;> first | exact Kq.here _ _ | omega | assumption | with_reducible rfl) (by first | exact Or.inl rfl | exact Or.inr ⟨_, _, _, .tmp 30, rfl, by simp [Op.operands, Call.operands], by simp only [sim_ev, Nat.reduceBEq]; first | exact Or.inl rfl | exact Or.inr ⟨_, rfl⟩⟩) ?_
  refine st_opt tok (by rfl) rfl (by simp only [sim_ev, Nat.reduceBEq]; rfl) (bq_f _) (fun hgd => by (have hgq := hgd; (try simp only [sim_bool] at hgq)); simp (disch := omega) only [hgd, sim_un, sim_call, ↓newsV_eq, ↓lenV_eq, seval, Ty.agg, tb_3, tb_9, tb_23, tb_74]; (repeat' refine And.intro ?_ ?_) <;> first | exact Kq.here _ _ | omega | assumption | with_reducible rfl) (by first | exact Or.inl rfl | exact Or.inr ⟨_, _, _, .tmp 31, rfl, by simp [Op.operands, Call.operands], by simp only [sim_ev, Nat.reduceBEq]; first | exact Or.inl rfl | exact Or.inr ⟨_, rfl⟩⟩) ?_
  refine st_opt tok (by rfl) rfl (by simp only [sim_ev, Nat.reduceBEq]; rfl) (bq_f _) (fun hgd => by (have hgq := hgd; (try simp only [sim_bool] at hgq)); simp (disch := omega) only [hgd, sim_un, sim_binOp, seval, Ty.agg, tb_3]; (repeat' refine And.intro ?_ ?_) <;> first | exact Kq.here _ _ | omega | assumption | with_reducible rfl) (by first | exact Or.inl rfl | exact Or.inr ⟨_, _, _, .tmp 29, rfl, by simp [Op.operands, Call.operands], by simp only [sim_ev, Nat.reduceBEq]; first | exact Or.inl rfl | exact Or.inr ⟨_, rfl⟩⟩) ?_
  refine st_or tok (by simp only [sim_ev, Nat.reduceBEq]; rfl) (fun hgd => by simp only [sim_ev, Nat.reduceBEq, sim_un, hgd, cond_true, Bool.not_false, Bool.not_true]; rfl) ?_
  refine SOps.nil (hK _ _ ?_)
  clear hK
  dsimp only
  refine AW.keep [2, 3, 34] ?_
  simp only [keepT_cons, keepT_nil, keepO_some, keepO_none, lk_cons, lk_nil, Nat.reduceBEq, cond_true, cond_false]
  -- stop: cond (live 2:a, 3:b, 34)
  refine AW.cond (b := false) (by simp only [sim_ev, Nat.reduceBEq]; (try rfl); all_goals (simp)) ?_
  dsimp only
  refine AW.skip ?_
  dsimp only
  refine AW.seq ?_
  refine AW.seq ?_
  refine AW.regS tbl (by rw [hx]; kernel_rfl) (fun K hK => ?_)
  refine st tok (by rfl) (by simp (disch := omega) only [sim_assign, seval, Ty.agg, tb_3]; (repeat' refine And.intro ?_ ?_) <;> first | exact Kq.here _ _ | omega | assumption | with_reducible rfl) ?_
  refine SOps.nil (hK _ _ ?_)
  clear hK
  dsimp only
  refine AW.block ?_
  -- stop: loop (live 2:a, 3:b, 5:k)
  refine AW.loopW (fun k : Nat => [(2, .pt 0 0), (3, .pt 1 0), (5, .e (.lit (.int .i64 k)))]) (fun _ => ⟨[(1, endC x), (0, endC x)], [], 2⟩) (fun k => k ≤ x.held.length) (fun k => x.held.length - k) 0 ?_ (Nat.zero_le _) ?_
  · skip
    apply Wk.fin (ks := [1, 0]) (kl := []) h0 hok
    case hN => omega
    case hm => omega
    case hv => repeat first | exact TgtV.base | (refine TgtV.cons ⟨by omega, ?_, ?_⟩ ?_; (focus (simp (maxSteps := 2000000) (disch := omega) only [sim_all, ↓fieldOff_eq, ↓newsV_eq, ↓sliceV_eq, ↓lenV_eq, seval, Ty.agg, tb_all, endC, Int.natCast_zero, wksL, D.leC, D.e.injEq, E.sl.injEq, exists_eq_right, exists_eq_right', D.idsB, D.idsC, decide_eq_true_eq, List.all_cons, List.all_nil, true_or, or_true]; done)); (focus (simp (maxSteps := 2000000) (disch := omega) only [sim_all, ↓fieldOff_eq, ↓newsV_eq, ↓sliceV_eq, ↓lenV_eq, seval, Ty.agg, tb_all, endC, Int.natCast_zero, wksL, D.leC, D.e.injEq, E.sl.injEq, exists_eq_right, exists_eq_right', D.idsB, D.idsC, decide_eq_true_eq, List.all_cons, List.all_nil, true_or, or_true]; done)))
    case hc => repeat first | exact Cov.base | refine Cov.cons (by first | (left; omega) | (right; simp)) ?_
    case hl => repeat first | exact TgtL.base | (refine TgtL.cons ⟨by omega, ?_⟩ ?_; (focus (simp (maxSteps := 2000000) (disch := omega) only [sim_all, ↓fieldOff_eq, ↓newsV_eq, ↓sliceV_eq, ↓lenV_eq, seval, Ty.agg, tb_all, endC, Int.natCast_zero, wksL, D.leC, D.e.injEq, E.sl.injEq, exists_eq_right, exists_eq_right', D.idsB, D.idsC, decide_eq_true_eq, List.all_cons, List.all_nil, true_or, or_true]; done)))
    case hcl => repeat first | exact Cov.base | refine Cov.cons (by first | (left; omega) | (right; simp)) ?_
    all_goals simp (maxSteps := 2000000) (disch := omega) only [sim_all, ↓fieldOff_eq, ↓newsV_eq, ↓sliceV_eq, ↓lenV_eq, seval, Ty.agg, tb_all, endC, Int.natCast_zero, wksL, D.leC, D.e.injEq, E.sl.injEq, exists_eq_right, exists_eq_right', D.idsB, D.idsC, decide_eq_true_eq, List.all_cons, List.all_nil, true_or, or_true]
    all_goals (try omega)
  · intro k hk
    refine AW.seq ?_
    refine AW.seq ?_
    refine AW.regS tbl (by rw [hx]; kernel_rfl) (fun K hK => ?_)
    iterate 5 refine st tok (by rfl) (by simp (disch := omega) only [sim_move, seval, Ty.agg, endC, sim_fieldAddr, ↓fieldOff_eq, tb_3, tb_9, tb_22, tb_23, tb_25, tb_74, sim_load, sim_call, ↓newsV_eq, ↓lenV_eq, sim_binOp]; (repeat' refine And.intro ?_ ?_) <;> first | exact Kq.here _ _ | omega | assumption | with_reducible rfl) ?_
    refine SOps.nil (hK _ _ ?_)
    clear hK
    dsimp only
    refine AW.keep [2, 3, 5, 39] ?_
    simp only [keepT_cons, keepT_nil, keepO_some, keepO_none, lk_cons, lk_nil, Nat.reduceBEq, cond_true, cond_false]
    -- stop: cond (live 2:a, 3:b, 5:k, 39)
    refine AW.condS (by simp only [sim_ev, Nat.reduceBEq]; rfl) (fun h => ?_) (fun h => ?_)
    all_goals (try simp only [sim_bool] at h)
    · skip
      refine AW.skip ?_
      dsimp only
      refine AW.seq ?_
      refine AW.block ?_
      refine AW.seq ?_
      refine AW.drwS tbl [] (by kernel_rfl) (by rw [hx]; kernel_rfl) (by kernel_rfl) (fun K hK => ?_)
      iterate 10 refine st tok (by rfl) (by simp (disch := omega) only [sim_fieldAddr, ↓fieldOff_eq, seval, Ty.agg, tb_3, tb_9, tb_22, tb_23, tb_25, tb_74, endC, hE_g0, hE_g1, hE_length, sim_load, sim_move, sim_indexAddr]; (repeat' refine And.intro ?_ ?_) <;> first | exact Kq.here _ _ | omega | assumption | with_reducible rfl) ?_
      refine st tok (by rfl) (by simp (disch := omega) only [sim_binOp, seval, Ty.agg, tb_3, tb_9, tb_74, endC, hE_g0, hE_g1, hE_length]; refine binV_agN tok 6 (by decide) tb_74 rfl (by kernel_rfl) (by kernel_rfl) (by simp only [lits_cons, lits_nil, Option.map_some]; rfl) (by simp only [lits_cons, lits_nil, Option.map_some]; rfl) (by simp [fitT, fitFs, tb_3, tb_9, tb_74]) (by simp [fitT, fitFs, tb_3, tb_9, tb_74]) (by simp only [List.cons.injEq, Value.int.injEq, Value.string.injEq, Value.bool.injEq, and_true, true_and]; exact Iff.rfl) (by infer_instance) (by exact Kq.here _ _)) ?_
      refine SOps.nil (hK _ _ ?_)
      clear hK
      dsimp only
      refine AW.keep [2, 3, 5, 52] ?_
      simp only [keepT_cons, keepT_nil, keepO_some, keepO_none, lk_cons, lk_nil, Nat.reduceBEq, cond_true, cond_false]
      -- stop: cond (live 2:a, 3:b, 5:k, 52)
      refine AW.cond (b := false) (by simp only [sim_ev, Nat.reduceBEq]; (try rfl); all_goals (simp)) ?_
      dsimp only
      refine AW.skip ?_
      dsimp only
      refine AW.regS tbl (by rw [hx]; kernel_rfl) (fun K hK => ?_)
      iterate 3 refine st tok (by rfl) (by simp (disch := omega) only [sim_move, seval, Ty.agg, sim_binOp, tb_3, sim_assign]; (repeat' refine And.intro ?_ ?_) <;> first | exact Kq.here _ _ | omega | assumption | with_reducible rfl) ?_
      refine SOps.nil (hK _ _ ?_)
      clear hK
      dsimp only
      -- stop: round's end (live 2:a, 3:b, 5:k)
      refine ⟨k + 1, ?_, by omega, by omega⟩
      apply Wk.fin (ks := [1, 0]) (kl := []) h0 hok
      case hN => omega
      case hm => omega
      case hv => repeat first | exact TgtV.base | (refine TgtV.cons ⟨by omega, ?_, ?_⟩ ?_; (focus (simp (maxSteps := 2000000) (disch := omega) only [sim_all, ↓fieldOff_eq, ↓newsV_eq, ↓sliceV_eq, ↓lenV_eq, seval, Ty.agg, tb_all, endC, Int.natCast_add, wksL, D.leC, D.e.injEq, E.sl.injEq, exists_eq_right, exists_eq_right', D.idsB, D.idsC, decide_eq_true_eq, List.all_cons, List.all_nil, true_or, or_true]; done)); (focus (simp (maxSteps := 2000000) (disch := omega) only [sim_all, ↓fieldOff_eq, ↓newsV_eq, ↓sliceV_eq, ↓lenV_eq, seval, Ty.agg, tb_all, endC, Int.natCast_add, wksL, D.leC, D.e.injEq, E.sl.injEq, exists_eq_right, exists_eq_right', D.idsB, D.idsC, decide_eq_true_eq, List.all_cons, List.all_nil, true_or, or_true]; done)))
      case hc => repeat first | exact Cov.base | refine Cov.cons (by first | (left; omega) | (right; simp)) ?_
      case hl => repeat first | exact TgtL.base | (refine TgtL.cons ⟨by omega, ?_⟩ ?_; (focus (simp (maxSteps := 2000000) (disch := omega) only [sim_all, ↓fieldOff_eq, ↓newsV_eq, ↓sliceV_eq, ↓lenV_eq, seval, Ty.agg, tb_all, endC, Int.natCast_add, wksL, D.leC, D.e.injEq, E.sl.injEq, exists_eq_right, exists_eq_right', D.idsB, D.idsC, decide_eq_true_eq, List.all_cons, List.all_nil, true_or, or_true]; done)))
      case hcl => repeat first | exact Cov.base | refine Cov.cons (by first | (left; omega) | (right; simp)) ?_
      all_goals simp (maxSteps := 2000000) (disch := omega) only [sim_all, ↓fieldOff_eq, ↓newsV_eq, ↓sliceV_eq, ↓lenV_eq, seval, Ty.agg, tb_all, endC, Int.natCast_add, wksL, D.leC, D.e.injEq, E.sl.injEq, exists_eq_right, exists_eq_right', D.idsB, D.idsC, decide_eq_true_eq, List.all_cons, List.all_nil, true_or, or_true]
      all_goals (try omega)
    · skip
      refine AW.exit ?_
      dsimp only
      (try simp only [if_true, reduceIte, Nat.reduceEqDiff, reduceCtorEq])
      refine AW.seq ?_
      refine AW.regS tbl (by rw [hx]; kernel_rfl) (fun K hK => ?_)
      refine st tok (by rfl) (by simp (disch := omega) only [sim_assign, seval, Ty.agg, tb_4]; (repeat' refine And.intro ?_ ?_) <;> first | exact Kq.here _ _ | omega | assumption | with_reducible rfl) ?_
      refine SOps.nil (hK _ _ ?_)
      clear hK
      dsimp only
      -- stop: ret (live 4)
      refine AW.ret ?_
      dsimp only
      simp only [RetV, resD, sim_all, ↓fieldOff_eq, ↓newsV_eq, ↓sliceV_eq, ↓lenV_eq, seval, Ty.agg, tb_all]
      exact .inl trivial
end Go.Proofs.Ytakbadleipbngaa
