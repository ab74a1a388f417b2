/-
  layer 42: the specification's Receive. Conditions: none.
-/
import Derived.Test.YtakbadleipbngaaLinkL
set_option linter.all false
namespace Go.Proofs.Ytakbadleipbngaa
open Go.RowKit
theorem hE_snoc (l : List LHeld) (g : LHeld) : hE (l ++ [g]) = hE l ++ [.lit (.int .i64 g.1), .lit (.string g.2)] := by rw [hE_append]; rfl
theorem grows_drop : ∀ {n : Int} {l : List LHeld}, Grows n l → ∀ k, Grows n (l.drop k)
  | _, [], _, k => by simp [Grows]
  | _, _ :: _, h, 0 => h
  | n, g :: l, h, k + 1 => grows_le (grows_drop h.2 k) (by have := h.1; omega)
theorem r_hold (l : List LHeld) (n : Int) (f : LFrame) (hl : l.length ≤ 1000) (hg : Grows n l) : PCalls Try.prog 43 [.e (.sl 2 l.length (hE l)), frD f] (.e (.sl 2 (putHeld (f.seq, f.data) l).length (hE (putHeld (f.seq, f.data) l)))) := by
  unfold frD
  refine PCalls.of (rs := [.tmp 4]) tok Try.func43 rfl rfl (Nat.le_of_ble_eq_true rfl) rfl (fun cx hx h0 => ?_)
  simp only [argsT, Nat.reduceAdd, Nat.zero_add]
  have hok := HpOk.nil
  refine AW.seq ?_
  refine AW.regS tbl (by rw [hx]; kernel_rfl) (fun K hK => ?_)
  iterate 2 refine st tok (by rfl) (by simp (disch := omega) only [sim_box, seval, Ty.agg, tb_3, tb_9, tb_27, sim_assign, tb_23, tb_74]; (repeat' refine And.intro ?_ ?_) <;> first | exact Kq.here _ _ | omega | assumption | with_reducible rfl) ?_
  refine SOps.nil (hK _ _ ?_)
  clear hK
  dsimp only
  refine AW.seq ?_
  refine AW.regS tbl (by rw [hx]; kernel_rfl) (fun K hK => ?_)
  refine st tok (by rfl) (by simp (disch := omega) only [sim_assign, seval, Ty.agg, tb_3, tb_9, tb_23, tb_74]; (repeat' refine And.intro ?_ ?_) <;> first | exact Kq.here _ _ | omega | assumption | with_reducible rfl) ?_
  refine SOps.nil (hK _ _ ?_)
  clear hK
  dsimp only
  refine AW.seq ?_
  refine AW.regS tbl (by rw [hx]; kernel_rfl) (fun K hK => ?_)
  refine st tok (by rfl) (by simp (disch := omega) only [sim_assign, seval, Ty.agg, tb_4]; (repeat' refine And.intro ?_ ?_) <;> first | exact Kq.here _ _ | omega | assumption | with_reducible rfl) ?_
  refine SOps.nil (hK _ _ ?_)
  clear hK
  dsimp only
  refine AW.seq ?_
  refine AW.seq ?_
  refine AW.regS tbl (by rw [hx]; kernel_rfl) (fun K hK => ?_)
  refine st tok (by rfl) (by simp (disch := omega) only [sim_assign, seval, Ty.agg, tb_3]; (repeat' refine And.intro ?_ ?_) <;> first | exact Kq.here _ _ | omega | assumption | with_reducible rfl) ?_
  refine SOps.nil (hK _ _ ?_)
  clear hK
  dsimp only
  refine AW.block ?_
  -- stop: loop (live 0:l, 3:f, 5:out, 6:put, 7:k)
  refine AW.loopW (fun s : Nat × Bool × List LHeld => [(0, .e (.sl 2 l.length (hE l))), (3, .pt 0 0), (5, .own 2 2 s.2.2.length (hE s.2.2)), (6, .e (.lit (.bool s.2.1))), (7, .e (.lit (.int .i64 s.1)))]) (fun s => ⟨[(0, [.e (.lit (.int .i64 f.seq)), .e (.lit (.int .i64 f.ack)), .e (.lit (.string f.data))])], [(2, s.2.2.length, 2, 74)], 3⟩) (fun s => s.1 ≤ l.length ∧ s.2.2.length ≤ s.1 + 1 ∧ (s.2.1 = false → s.2.2 = l.take s.1 ∧ ∀ g ∈ l.take s.1, g.1 < f.seq) ∧ (s.2.1 = true → s.2.2 ++ l.drop s.1 = putHeld (f.seq, f.data) l ∧ ∀ g ∈ l.drop s.1, f.seq < g.1)) (fun s => l.length - s.1) (0, false, []) ?_ ⟨Nat.zero_le _, by simp, fun _ => ⟨rfl, by simp⟩, fun h => by cases h⟩ ?_
  · skip
    apply Wk.fin (ks := [0]) (kl := [2]) h0 hok
    case hN => omega
    case hm => omega
    case hv => repeat first | exact TgtV.base | (refine TgtV.cons ⟨by omega, ?_, ?_⟩ ?_; (focus (simp (maxSteps := 2000000) (disch := omega) only [sim_all, ↓fieldOff_eq, ↓newsV_eq, ↓sliceV_eq, ↓lenV_eq, seval, Ty.agg, tb_all, Int.natCast_zero, List.length_nil, hE, List.flatMap_nil, wksL, D.leC, D.e.injEq, E.sl.injEq, exists_eq_right, exists_eq_right', D.idsB, D.idsC, decide_eq_true_eq, List.all_cons, List.all_nil, true_or, or_true]; done)); (focus (simp (maxSteps := 2000000) (disch := omega) only [sim_all, ↓fieldOff_eq, ↓newsV_eq, ↓sliceV_eq, ↓lenV_eq, seval, Ty.agg, tb_all, Int.natCast_zero, List.length_nil, hE, List.flatMap_nil, wksL, D.leC, D.e.injEq, E.sl.injEq, exists_eq_right, exists_eq_right', D.idsB, D.idsC, decide_eq_true_eq, List.all_cons, List.all_nil, true_or, or_true]; done)))
    case hc => repeat first | exact Cov.base | refine Cov.cons (by first | (left; omega) | (right; simp)) ?_
    case hl => repeat first | exact TgtL.base | (refine TgtL.cons ⟨by omega, ?_⟩ ?_; (focus (simp (maxSteps := 2000000) (disch := omega) only [sim_all, ↓fieldOff_eq, ↓newsV_eq, ↓sliceV_eq, ↓lenV_eq, seval, Ty.agg, tb_all, Int.natCast_zero, List.length_nil, hE, List.flatMap_nil, wksL, D.leC, D.e.injEq, E.sl.injEq, exists_eq_right, exists_eq_right', D.idsB, D.idsC, decide_eq_true_eq, List.all_cons, List.all_nil, true_or, or_true]; done)))
    case hcl => repeat first | exact Cov.base | refine Cov.cons (by first | (left; omega) | (right; simp)) ?_
    all_goals simp (maxSteps := 2000000) (disch := omega) only [sim_all, ↓fieldOff_eq, ↓newsV_eq, ↓sliceV_eq, ↓lenV_eq, seval, Ty.agg, tb_all, Int.natCast_zero, List.length_nil, hE, List.flatMap_nil, wksL, D.leC, D.e.injEq, E.sl.injEq, exists_eq_right, exists_eq_right', D.idsB, D.idsC, decide_eq_true_eq, List.all_cons, List.all_nil, true_or, or_true]
    all_goals (try omega)
  · rintro ⟨k, p, o⟩ ⟨hk, hol, hp0, hp1⟩
    dsimp only at hk hol hp0 hp1 ⊢
    refine AW.seq ?_
    refine AW.seq ?_
    refine AW.regS tbl (by rw [hx]; kernel_rfl) (fun K hK => ?_)
    iterate 4 refine st tok (by rfl) (by simp (disch := omega) only [sim_move, seval, Ty.agg, sim_call, ↓newsV_eq, ↓lenV_eq, tb_3, tb_9, tb_23, tb_74, sim_binOp]; (repeat' refine And.intro ?_ ?_) <;> first | exact Kq.here _ _ | omega | assumption | with_reducible rfl) ?_
    refine SOps.nil (hK _ _ ?_)
    clear hK
    dsimp only
    -- stop: cond (live 0:l, 3:f, 5:out, 6:put, 7:k, 11)
    refine AW.condS (by simp only [sim_ev, Nat.reduceBEq]; rfl) (fun h => ?_) (fun h => ?_)
    all_goals (try simp only [sim_bool] at h)
    · have hlt : k < l.length := by omega
      have hk0 : l[k]? = some l[k] := List.getElem?_eq_getElem hlt
      have hk1 : l[k]! = l[k] := getElem!_pos l k hlt
      have hdr : l.drop k = l[k] :: l.drop (k + 1) := List.drop_eq_getElem_cons hlt
      have htk : l.take (k + 1) = l.take k ++ [l[k]] := by rw [List.take_add_one, hk0]; rfl
      have hin : l[k] ∈ l.drop k := by rw [hdr]; exact List.mem_cons_self ..
      refine AW.skip ?_
      dsimp only
      refine AW.seq ?_
      refine AW.block ?_
      refine AW.seq ?_
      refine AW.seq ?_
      refine AW.drwS tbl [] (by kernel_rfl) (by rw [hx]; kernel_rfl) (by kernel_rfl) (fun K hK => ?_)
      iterate 8 refine st tok (by rfl) (by simp (disch := omega) only [sim_move, seval, Ty.agg, hE_g0, hE_g1, hE_length, sim_indexAddr, tb_3, tb_9, tb_23, tb_74, sim_fieldAddr, ↓fieldOff_eq, sim_load, tb_27, sim_binOp]; (repeat' refine And.intro ?_ ?_) <;> first | exact Kq.here _ _ | omega | assumption | with_reducible rfl) ?_
      refine SOps.nil (hK _ _ ?_)
      clear hK
      dsimp only
      refine AW.keep [0, 3, 5, 6, 7, 21] ?_
      simp only [keepT_cons, keepT_nil, keepO_some, keepO_none, lk_cons, lk_nil, Nat.reduceBEq, cond_true, cond_false]
      -- stop: cond (live 0:l, 3:f, 5:out, 6:put, 7:k, 21)
      refine AW.condS (by simp only [sim_ev, Nat.reduceBEq]; rfl) (fun h2 => ?_) (fun h2 => ?_)
      all_goals (try simp only [sim_bool] at h2)
      · skip
        refine AW.seq ?_
        refine AW.regS tbl (by rw [hx]; kernel_rfl) (fun K hK => ?_)
        iterate 2 refine st tok (by rfl) (by simp (disch := omega) only [sim_move, seval, Ty.agg, sim_assign, tb_3, tb_9, tb_23, tb_74]; (repeat' refine And.intro ?_ ?_) <;> first | exact Kq.here _ _ | omega | assumption | with_reducible rfl) ?_
        refine SOps.nil (hK _ _ ?_)
        clear hK
        dsimp only
        -- stop: ret (live 4)
        rw [hk1] at h2
        have hput : putHeld (f.seq, f.data) l = l := by
          cases p with
          | true => have := (hp1 rfl).2 _ hin; omega
          | false => exact putHeld_known _ l k _ hk0 h2 (hp0 rfl).2
        rw [hput]
        refine AW.ret ?_
        dsimp only
        simp only [RetV, resD, sim_all, ↓fieldOff_eq, ↓newsV_eq, ↓sliceV_eq, ↓lenV_eq, seval, Ty.agg, tb_all]
        exact .inl trivial
      · skip
        refine AW.skip ?_
        dsimp only
        refine AW.seq ?_
        refine AW.seq ?_
        refine AW.drwS tbl [] (by kernel_rfl) (by rw [hx]; kernel_rfl) (by kernel_rfl) (fun K hK => ?_)
        iterate 3 refine st tok (by rfl) (by simp (disch := omega) only [sim_move, seval, Ty.agg, hE_g0, hE_g1, hE_length, sim_unOp, tb_4]; (repeat' refine And.intro ?_ ?_) <;> first | exact Kq.here _ _ | omega | assumption | with_reducible rfl) ?_
        refine st_opt tok (by rfl) rfl (by simp only [sim_ev, Nat.reduceBEq]; rfl) (bq_t _) (fun hgd => by (have hgq := hgd; (try simp only [sim_bool] at hgq)); simp (disch := omega) only [hgd, sim_un, sim_move, seval, Ty.agg, hE_g0, hE_g1, hE_length]; (repeat' refine And.intro ?_ ?_) <;> first | exact Kq.here _ _ | omega | assumption | with_reducible rfl) (by first | exact Or.inl rfl | exact Or.inr ⟨_, _, _, .tmp 0, rfl, by simp [Op.operands, Call.operands], by simp only [sim_ev, Nat.reduceBEq]; first | exact Or.inl rfl | exact Or.inr ⟨_, rfl⟩⟩) ?_
        refine st_opt tok (by rfl) rfl (by simp only [sim_ev, Nat.reduceBEq]; rfl) (bq_t _) (fun hgd => by (have hgq := hgd; (try simp only [sim_bool] at hgq)); simp (disch := omega) only [hgd, sim_un, sim_move, seval, Ty.agg, hE_g0, hE_g1, hE_length]; (repeat' refine And.intro ?_ ?_) <;> first | exact Kq.here _ _ | omega | assumption | with_reducible rfl) (by first | exact Or.inl rfl | exact Or.inr ⟨_, _, _, .tmp 7, rfl, by simp [Op.operands, Call.operands], by simp only [sim_ev, Nat.reduceBEq]; first | exact Or.inl rfl | exact Or.inr ⟨_, rfl⟩⟩) ?_
        refine st_opt tok (by rfl) rfl (by simp only [sim_ev, Nat.reduceBEq]; rfl) (bq_t _) (fun hgd => by (have hgq := hgd; (try simp only [sim_bool] at hgq)); simp (disch := omega) only [hgd, sim_un, sim_indexAddr, seval, Ty.agg, tb_3, tb_9, tb_23, tb_74, hE_g0, hE_g1, hE_length]; (repeat' refine And.intro ?_ ?_) <;> first | exact Kq.here _ _ | omega | assumption | with_reducible rfl) (by first | exact Or.inl rfl | exact Or.inr ⟨_, _, _, .tmp 26, rfl, by simp [Op.operands, Call.operands], by simp only [sim_ev, Nat.reduceBEq]; first | exact Or.inl rfl | exact Or.inr ⟨_, rfl⟩⟩) ?_
        refine st_opt tok (by rfl) rfl (by simp only [sim_ev, Nat.reduceBEq]; rfl) (bq_t _) (fun hgd => by (have hgq := hgd; (try simp only [sim_bool] at hgq)); simp (disch := omega) only [hgd, sim_un, sim_fieldAddr, ↓fieldOff_eq, seval, Ty.agg, tb_3, tb_9, tb_74, hE_g0, hE_g1, hE_length]; (repeat' refine And.intro ?_ ?_) <;> first | exact Kq.here _ _ | omega | assumption | with_reducible rfl) (by first | exact Or.inl rfl | exact Or.inr ⟨_, _, _, .tmp 28, rfl, by simp [Op.operands, Call.operands], by simp only [sim_ev, Nat.reduceBEq]; first | exact Or.inl rfl | exact Or.inr ⟨_, rfl⟩⟩) ?_
        refine st_opt tok (by rfl) rfl (by simp only [sim_ev, Nat.reduceBEq]; rfl) (bq_t _) (fun hgd => by (have hgq := hgd; (try simp only [sim_bool] at hgq)); simp (disch := omega) only [hgd, sim_un, sim_load, seval, Ty.agg, tb_3, hE_g0, hE_g1, hE_length]; (repeat' refine And.intro ?_ ?_) <;> first | exact Kq.here _ _ | omega | assumption | with_reducible rfl) (by first | exact Or.inl rfl | exact Or.inr ⟨_, _, _, .tmp 29, rfl, by simp [Op.operands, Call.operands], by simp only [sim_ev, Nat.reduceBEq]; first | exact Or.inl rfl | exact Or.inr ⟨_, rfl⟩⟩) ?_
        refine st_opt tok (by rfl) rfl (by simp only [sim_ev, Nat.reduceBEq]; rfl) (bq_t _) (fun hgd => by (have hgq := hgd; (try simp only [sim_bool] at hgq)); simp (disch := omega) only [hgd, sim_un, sim_fieldAddr, ↓fieldOff_eq, seval, Ty.agg, tb_3, tb_9, tb_27, hE_g0, hE_g1, hE_length]; (repeat' refine And.intro ?_ ?_) <;> first | exact Kq.here _ _ | omega | assumption | with_reducible rfl) (by first | exact Or.inl rfl | exact Or.inr ⟨_, _, _, .tmp 3, rfl, by simp [Op.operands, Call.operands], by simp only [sim_ev, Nat.reduceBEq]; first | exact Or.inl rfl | exact Or.inr ⟨_, rfl⟩⟩) ?_
        refine st_opt tok (by rfl) rfl (by simp only [sim_ev, Nat.reduceBEq]; rfl) (bq_t _) (fun hgd => by (have hgq := hgd; (try simp only [sim_bool] at hgq)); simp (disch := omega) only [hgd, sim_un, sim_load, seval, Ty.agg, tb_3, hE_g0, hE_g1, hE_length]; (repeat' refine And.intro ?_ ?_) <;> first | exact Kq.here _ _ | omega | assumption | with_reducible rfl) (by first | exact Or.inl rfl | exact Or.inr ⟨_, _, _, .tmp 31, rfl, by simp [Op.operands, Call.operands], by simp only [sim_ev, Nat.reduceBEq]; first | exact Or.inl rfl | exact Or.inr ⟨_, rfl⟩⟩) ?_
        refine st_opt tok (by rfl) rfl (by simp only [sim_ev, Nat.reduceBEq]; rfl) (bq_t _) (fun hgd => by (have hgq := hgd; (try simp only [sim_bool] at hgq)); simp (disch := omega) only [hgd, sim_un, sim_binOp, seval, Ty.agg, tb_3, hE_g0, hE_g1, hE_length]; (repeat' refine And.intro ?_ ?_) <;> first | exact Kq.here _ _ | omega | assumption | with_reducible rfl) (by first | exact Or.inl rfl | exact Or.inr ⟨_, _, _, .tmp 30, rfl, by simp [Op.operands, Call.operands], by simp only [sim_ev, Nat.reduceBEq]; first | exact Or.inl rfl | exact Or.inr ⟨_, rfl⟩⟩) ?_
        refine st_and tok (by simp only [sim_ev, Nat.reduceBEq]; rfl) (fun hgd => by simp only [sim_ev, Nat.reduceBEq, sim_un, hgd, cond_true, Bool.not_false, Bool.not_true]; rfl) ?_
        refine SOps.nil (hK _ _ ?_)
        clear hK
        dsimp only
        refine AW.keep [0, 3, 5, 6, 7, 34] ?_
        simp only [keepT_cons, keepT_nil, keepO_some, keepO_none, lk_cons, lk_nil, Nat.reduceBEq, cond_true, cond_false]
        -- stop: cond (live 0:l, 3:f, 5:out, 6:put, 7:k, 34)
        rw [hk1] at h2
        refine AW.condS (by simp only [sim_ev, Nat.reduceBEq]; rfl) (fun h3 => ?_) (fun h3 => ?_)
        all_goals (try simp only [sim_bool] at h3)
        · skip
          refine AW.seq ?_
          refine AW.regS tbl (by rw [hx]; kernel_rfl) (fun K hK => ?_)
          iterate 9 refine st tok (by rfl) (by simp (disch := omega) only [sim_move, seval, Ty.agg, hE_g0, hE_g1, hE_length, sim_fieldAddr, ↓fieldOff_eq, tb_3, tb_9, tb_27, sim_load, sim_build, tb_74, sim_buildSlice, tb_23, sim_call, ↓newsV_eq, ↓lenV_eq, sim_assign]; (repeat' refine And.intro ?_ ?_) <;> first | exact Kq.here _ _ | omega | assumption | with_reducible rfl) ?_
          refine SOps.nil (hK _ _ ?_)
          clear hK
          dsimp only
          refine AW.keep [0, 3, 5, 7] ?_
          simp only [keepT_cons, keepT_nil, keepO_some, keepO_none, lk_cons, lk_nil, Nat.reduceBEq, cond_true, cond_false]
          refine AW.regS tbl (by rw [hx]; kernel_rfl) (fun K hK => ?_)
          refine st tok (by rfl) (by simp (disch := omega) only [sim_assign, seval, Ty.agg, tb_4, hE_g0, hE_g1, hE_length]; (repeat' refine And.intro ?_ ?_) <;> first | exact Kq.here _ _ | omega | assumption | with_reducible rfl) ?_
          refine SOps.nil (hK _ _ ?_)
          clear hK
          dsimp only
          refine AW.regS tbl (by rw [hx]; kernel_rfl) (fun K hK => ?_)
          iterate 8 refine st tok (by rfl) (by simp (disch := omega) only [sim_move, seval, Ty.agg, hE_g0, hE_g1, hE_length, sim_indexAddr, tb_3, tb_9, tb_23, tb_74, sim_load, sim_buildSlice, sim_call, ↓newsV_eq, ↓lenV_eq, sim_assign]; (repeat' refine And.intro ?_ ?_) <;> first | exact Kq.here _ _ | omega | assumption | with_reducible rfl) ?_
          refine SOps.nil (hK _ _ ?_)
          clear hK
          dsimp only
          refine AW.keep [0, 3, 5, 6, 7] ?_
          simp only [keepT_cons, keepT_nil, keepO_some, keepO_none, lk_cons, lk_nil, Nat.reduceBEq, cond_true, cond_false]
          refine AW.regS tbl (by rw [hx]; kernel_rfl) (fun K hK => ?_)
          iterate 3 refine st tok (by rfl) (by simp (disch := omega) only [sim_move, seval, Ty.agg, hE_g0, hE_g1, hE_length, sim_binOp, tb_3, sim_assign]; (repeat' refine And.intro ?_ ?_) <;> first | exact Kq.here _ _ | omega | assumption | with_reducible rfl) ?_
          refine SOps.nil (hK _ _ ?_)
          clear hK
          dsimp only
          -- stop: round's end (live 0:l, 3:f, 5:out, 6:put, 7:k)
          obtain ⟨h3, h4⟩ := h3
          rw [hk1] at h4
          obtain ⟨ho, hlow⟩ := hp0 h3
          have hol2 : o.length = k := by rw [ho, List.length_take]; omega
          have hgl : Grows l[k].1 (l.drop (k + 1)) := by
            have := grows_drop hg k
            rw [hdr] at this
            exact this.2
          have hcut := putHeld_cut (f.seq, f.data) l k hk hlow (fun g hgk => by rw [hk0] at hgk; injection hgk with e; rw [← e]; exact h4)
          refine ⟨(k + 1, true, o ++ [(f.seq, f.data)] ++ [l[k]]), ?_, ⟨by dsimp only; omega, by simp; omega, (fun h => by cases h), fun _ => ⟨?_, ?_⟩⟩, by dsimp only; omega⟩
          · rw [hk1]
            apply Wk.fin (ks := [0]) (kl := [2]) h0 hok
            case hN => omega
            case hm => omega
            case hv => repeat first | exact TgtV.base | (refine TgtV.cons ⟨by omega, ?_, ?_⟩ ?_; (focus (simp (maxSteps := 2000000) (disch := omega) only [sim_all, ↓fieldOff_eq, ↓newsV_eq, ↓sliceV_eq, ↓lenV_eq, seval, Ty.agg, tb_all, hE_snoc, List.length_append, List.length_cons, List.length_nil, Int.natCast_add, wksL, D.leC, D.e.injEq, E.sl.injEq, exists_eq_right, exists_eq_right', D.idsB, D.idsC, decide_eq_true_eq, List.all_cons, List.all_nil, true_or, or_true]; done)); (focus (simp (maxSteps := 2000000) (disch := omega) only [sim_all, ↓fieldOff_eq, ↓newsV_eq, ↓sliceV_eq, ↓lenV_eq, seval, Ty.agg, tb_all, hE_snoc, List.length_append, List.length_cons, List.length_nil, Int.natCast_add, wksL, D.leC, D.e.injEq, E.sl.injEq, exists_eq_right, exists_eq_right', D.idsB, D.idsC, decide_eq_true_eq, List.all_cons, List.all_nil, true_or, or_true]; done)))
            case hc => repeat first | exact Cov.base | refine Cov.cons (by first | (left; omega) | (right; simp)) ?_
            case hl => repeat first | exact TgtL.base | (refine TgtL.cons ⟨by omega, ?_⟩ ?_; (focus (simp (maxSteps := 2000000) (disch := omega) only [sim_all, ↓fieldOff_eq, ↓newsV_eq, ↓sliceV_eq, ↓lenV_eq, seval, Ty.agg, tb_all, hE_snoc, List.length_append, List.length_cons, List.length_nil, Int.natCast_add, wksL, D.leC, D.e.injEq, E.sl.injEq, exists_eq_right, exists_eq_right', D.idsB, D.idsC, decide_eq_true_eq, List.all_cons, List.all_nil, true_or, or_true]; done)))
            case hcl => repeat first | exact Cov.base | refine Cov.cons (by first | (left; omega) | (right; simp)) ?_
            all_goals simp (maxSteps := 2000000) (disch := omega) only [sim_all, ↓fieldOff_eq, ↓newsV_eq, ↓sliceV_eq, ↓lenV_eq, seval, Ty.agg, tb_all, hE_snoc, List.length_append, List.length_cons, List.length_nil, Int.natCast_add, wksL, D.leC, D.e.injEq, E.sl.injEq, exists_eq_right, exists_eq_right', D.idsB, D.idsC, decide_eq_true_eq, List.all_cons, List.all_nil, true_or, or_true]
            all_goals (try omega)
          · dsimp only; rw [hcut, hdr, ho]; simp
          · exact fun g hgm => by have := grows_mem hgl g hgm; omega
        · skip
          refine AW.skip ?_
          dsimp only
          refine AW.regS tbl (by rw [hx]; kernel_rfl) (fun K hK => ?_)
          iterate 8 refine st tok (by rfl) (by simp (disch := omega) only [sim_move, seval, Ty.agg, hE_g0, hE_g1, hE_length, sim_indexAddr, tb_3, tb_9, tb_23, tb_74, sim_load, sim_buildSlice, sim_call, ↓newsV_eq, ↓lenV_eq, sim_assign]; (repeat' refine And.intro ?_ ?_) <;> first | exact Kq.here _ _ | omega | assumption | with_reducible rfl) ?_
          refine SOps.nil (hK _ _ ?_)
          clear hK
          dsimp only
          refine AW.keep [0, 3, 5, 6, 7] ?_
          simp only [keepT_cons, keepT_nil, keepO_some, keepO_none, lk_cons, lk_nil, Nat.reduceBEq, cond_true, cond_false]
          refine AW.regS tbl (by rw [hx]; kernel_rfl) (fun K hK => ?_)
          iterate 3 refine st tok (by rfl) (by simp (disch := omega) only [sim_move, seval, Ty.agg, hE_g0, hE_g1, hE_length, sim_binOp, tb_3, sim_assign]; (repeat' refine And.intro ?_ ?_) <;> first | exact Kq.here _ _ | omega | assumption | with_reducible rfl) ?_
          refine SOps.nil (hK _ _ ?_)
          clear hK
          dsimp only
          -- stop: round's end (live 0:l, 3:f, 5:out, 6:put, 7:k)
          rw [hk1] at h3
          refine ⟨(k + 1, p, o ++ [l[k]]), ?_, ⟨by dsimp only; omega, by simp; omega, fun hp => ⟨?_, ?_⟩, fun hp => ⟨?_, ?_⟩⟩, by dsimp only; omega⟩
          · rw [hk1]
            apply Wk.fin (ks := [0]) (kl := [2]) h0 hok
            case hN => omega
            case hm => omega
            case hv => repeat first | exact TgtV.base | (refine TgtV.cons ⟨by omega, ?_, ?_⟩ ?_; (focus (simp (maxSteps := 2000000) (disch := omega) only [sim_all, ↓fieldOff_eq, ↓newsV_eq, ↓sliceV_eq, ↓lenV_eq, seval, Ty.agg, tb_all, hE_snoc, List.length_append, List.length_cons, List.length_nil, Int.natCast_add, wksL, D.leC, D.e.injEq, E.sl.injEq, exists_eq_right, exists_eq_right', D.idsB, D.idsC, decide_eq_true_eq, List.all_cons, List.all_nil, true_or, or_true]; done)); (focus (simp (maxSteps := 2000000) (disch := omega) only [sim_all, ↓fieldOff_eq, ↓newsV_eq, ↓sliceV_eq, ↓lenV_eq, seval, Ty.agg, tb_all, hE_snoc, List.length_append, List.length_cons, List.length_nil, Int.natCast_add, wksL, D.leC, D.e.injEq, E.sl.injEq, exists_eq_right, exists_eq_right', D.idsB, D.idsC, decide_eq_true_eq, List.all_cons, List.all_nil, true_or, or_true]; done)))
            case hc => repeat first | exact Cov.base | refine Cov.cons (by first | (left; omega) | (right; simp)) ?_
            case hl => repeat first | exact TgtL.base | (refine TgtL.cons ⟨by omega, ?_⟩ ?_; (focus (simp (maxSteps := 2000000) (disch := omega) only [sim_all, ↓fieldOff_eq, ↓newsV_eq, ↓sliceV_eq, ↓lenV_eq, seval, Ty.agg, tb_all, hE_snoc, List.length_append, List.length_cons, List.length_nil, Int.natCast_add, wksL, D.leC, D.e.injEq, E.sl.injEq, exists_eq_right, exists_eq_right', D.idsB, D.idsC, decide_eq_true_eq, List.all_cons, List.all_nil, true_or, or_true]; done)))
            case hcl => repeat first | exact Cov.base | refine Cov.cons (by first | (left; omega) | (right; simp)) ?_
            all_goals simp (maxSteps := 2000000) (disch := omega) only [sim_all, ↓fieldOff_eq, ↓newsV_eq, ↓sliceV_eq, ↓lenV_eq, seval, Ty.agg, tb_all, hE_snoc, List.length_append, List.length_cons, List.length_nil, Int.natCast_add, wksL, D.leC, D.e.injEq, E.sl.injEq, exists_eq_right, exists_eq_right', D.idsB, D.idsC, decide_eq_true_eq, List.all_cons, List.all_nil, true_or, or_true]
            all_goals (try omega)
          · dsimp only at hp ⊢; rw [(hp0 hp).1, htk]
          · dsimp only at hp ⊢
            intro g hgm
            rw [htk] at hgm
            rcases List.mem_append.1 hgm with hgm | hgm
            · exact (hp0 hp).2 g hgm
            · obtain rfl : g = l[k] := by simpa using hgm
              have := h3 hp
              omega
          · dsimp only at hp ⊢; rw [← (hp1 hp).1, hdr]; simp
          · dsimp only at hp ⊢
            exact fun g hgm => (hp1 hp).2 g (by rw [hdr]; exact List.mem_cons_of_mem _ hgm)
    · have hk2 : k = l.length := by omega
      refine AW.exit ?_
      dsimp only
      (try simp only [if_true, reduceIte, Nat.reduceEqDiff, reduceCtorEq])
      refine AW.seq ?_
      refine AW.seq ?_
      refine AW.regS tbl (by rw [hx]; kernel_rfl) (fun K hK => ?_)
      iterate 2 refine st tok (by rfl) (by simp (disch := omega) only [sim_move, seval, Ty.agg, sim_unOp, tb_4]; (repeat' refine And.intro ?_ ?_) <;> first | exact Kq.here _ _ | omega | assumption | with_reducible rfl) ?_
      refine SOps.nil (hK _ _ ?_)
      clear hK
      dsimp only
      -- stop: cond (live 3:f, 5:out, 51)
      refine AW.condS (by simp only [sim_ev, Nat.reduceBEq]; rfl) (fun h2 => ?_) (fun h2 => ?_)
      all_goals (try simp only [sim_bool] at h2)
      · skip
        refine AW.regS tbl (by rw [hx]; kernel_rfl) (fun K hK => ?_)
        iterate 9 refine st tok (by rfl) (by simp (disch := omega) only [sim_move, seval, Ty.agg, sim_fieldAddr, ↓fieldOff_eq, tb_3, tb_9, tb_27, sim_load, sim_build, tb_74, sim_buildSlice, tb_23, sim_call, ↓newsV_eq, ↓lenV_eq, sim_assign]; (repeat' refine And.intro ?_ ?_) <;> first | exact Kq.here _ _ | omega | assumption | with_reducible rfl) ?_
        refine SOps.nil (hK _ _ ?_)
        clear hK
        dsimp only
        refine AW.keep [5] ?_
        simp only [keepT_cons, keepT_nil, keepO_some, keepO_none, lk_cons, lk_nil, Nat.reduceBEq, cond_true, cond_false]
        refine AW.seq ?_
        refine AW.regS tbl (by rw [hx]; kernel_rfl) (fun K hK => ?_)
        iterate 2 refine st tok (by rfl) (by simp (disch := omega) only [sim_move, seval, Ty.agg, sim_assign, tb_3, tb_9, tb_23, tb_74]; (repeat' refine And.intro ?_ ?_) <;> first | exact Kq.here _ _ | omega | assumption | with_reducible rfl) ?_
        refine SOps.nil (hK _ _ ?_)
        clear hK
        dsimp only
        -- stop: ret (live 4)
        obtain ⟨ho, hlow⟩ := hp0 h2
        have hcut := putHeld_cut (f.seq, f.data) l k hk hlow (fun g hgk => by rw [hk2] at hgk; simp at hgk)
        have hput : putHeld (f.seq, f.data) l = o ++ [(f.seq, f.data)] := by rw [hcut, ho, hk2]; simp
        rw [hput]
        refine AW.ret ?_
        dsimp only
        simp only [RetV, resD, sim_all, ↓fieldOff_eq, ↓newsV_eq, ↓sliceV_eq, ↓lenV_eq, seval, Ty.agg, tb_all]
        refine .inl ?_
        simp [hE_snoc]
      · skip
        refine AW.skip ?_
        dsimp only
        refine AW.seq ?_
        refine AW.regS tbl (by rw [hx]; kernel_rfl) (fun K hK => ?_)
        iterate 2 refine st tok (by rfl) (by simp (disch := omega) only [sim_move, seval, Ty.agg, sim_assign, tb_3, tb_9, tb_23, tb_74]; (repeat' refine And.intro ?_ ?_) <;> first | exact Kq.here _ _ | omega | assumption | with_reducible rfl) ?_
        refine SOps.nil (hK _ _ ?_)
        clear hK
        dsimp only
        -- stop: ret (live 4)
        have hput : putHeld (f.seq, f.data) l = o := by have := (hp1 h2).1; rw [hk2] at this; simpa using this.symm
        rw [hput]
        refine AW.ret ?_
        dsimp only
        simp only [RetV, resD, sim_all, ↓fieldOff_eq, ↓newsV_eq, ↓sliceV_eq, ↓lenV_eq, seval, Ty.agg, tb_all]
        exact .inl trivial
def gotD (x : LEnd) (l : List ByteArray) : D := .ag [.e (.lit (.int .i64 x.base)), .e (.sl 1 x.queue.length (x.queue.map sE)), .e (.lit (.int .i64 x.want)), .e (.sl 2 x.held.length (hE x.held)), .e (.sl 1 l.length (l.map sE))]
theorem ack_cut (x : LEnd) (f : LFrame) (h1 : x.base ≤ f.ack) (h2 : f.ack ≤ x.base + x.queue.length) :
    (((x.queue.map sE).drop (f.ack - x.base).toNat).take (x.queue.drop (f.ack - x.base).toNat).length) = (x.queue.drop (f.ack - x.base).toNat).map sE ∧ ((x.queue.length : Int) - (f.ack - x.base)).toNat = (x.queue.drop (f.ack - x.base).toNat).length := by
  refine ⟨?_, by rw [List.length_drop]; omega⟩
  rw [List.take_of_length_le (by rw [List.length_drop, List.length_map, List.length_drop]; exact Nat.le_refl _), List.map_drop]
theorem r_Receive (x : LEnd) (f : LFrame) (hok' : x.Ok) : PCalls Try.prog 15 [endD x, frD f] (gotD (x.receive f).1 (x.receive f).2) := by
  unfold endD frD
  have hq := hok'.ql
  have hl := hok'.held_len
  have hb1 := hok'.b1
  have hb2 := hok'.b2
  have hw1 := hok'.w1
  have hw2 := hok'.w2
  refine PCalls.of (rs := [.cell 4 40]) tok Try.func15 rfl rfl (Nat.le_of_ble_eq_true rfl) rfl (fun cx hx h0 => ?_)
  simp only [argsT, Nat.reduceAdd, Nat.zero_add]
  have hok := HpOk.nil
  refine AW.seq ?_
  refine AW.regS tbl (by rw [hx]; kernel_rfl) (fun K hK => ?_)
  iterate 3 refine st tok (by rfl) (by simp (disch := omega) only [sim_box, seval, Ty.agg, tb_3, tb_9, tb_22, tb_23, tb_25, tb_74, tb_27, sim_alloc, tb_40]; (repeat' refine And.intro ?_ ?_) <;> first | exact Kq.here _ _ | omega | assumption | with_reducible rfl) ?_
  refine SOps.nil (hK _ _ ?_)
  clear hK
  dsimp only
  refine AW.seq ?_
  refine AW.regS tbl (by rw [hx]; kernel_rfl) (fun K hK => ?_)
  refine st tok (by rfl) (by simp (disch := omega) only [sim_load, seval, Ty.agg, tb_3, tb_9, tb_27]; (repeat' refine And.intro ?_ ?_) <;> first | exact Kq.here _ _ | omega | assumption | with_reducible rfl) ?_
  -- stop: call ['f', 42] (line 98)
  refine st tok (by rfl) (by simp (disch := omega) only [sim_call, ↓newsV_eq, ↓lenV_eq, seval, Ty.agg, tb_3, tb_4, tb_9, tb_27]; (repeat refine And.intro (by omega) ?_); apply call_of; (case ha => simp only [sim_ex]; exact rfl); (case hc => exact (a_refValid f)); (case hp1 => first | rfl | simp only [sim_pure]); (case h => ((try simp only [adopt_own, adopt_e, adopt_ag, adopt_tu, hp_tok, true_and]); exact Kq.here _ _))) ?_
  refine st tok (by rfl) (by simp (disch := omega) only [sim_assign, seval, Ty.agg, tb_4]; (repeat' refine And.intro ?_ ?_) <;> first | exact Kq.here _ _ | omega | assumption | with_reducible rfl) ?_
  refine SOps.nil (hK _ _ ?_)
  clear hK
  dsimp only
  refine AW.seq ?_
  refine AW.seq ?_
  refine AW.regS tbl (by rw [hx]; kernel_rfl) (fun K hK => ?_)
  iterate 2 refine st tok (by rfl) (by simp (disch := omega) only [sim_move, seval, Ty.agg, sim_unOp, tb_4]; (repeat' refine And.intro ?_ ?_) <;> first | exact Kq.here _ _ | omega | assumption | with_reducible rfl) ?_
  refine SOps.nil (hK _ _ ?_)
  clear hK
  dsimp only
  -- stop: cond (live 2:x, 3:f, 4, 10)
  refine AW.condS (by simp only [sim_ev, Nat.reduceBEq]; rfl) (fun h => ?_) (fun h => ?_)
  all_goals (try simp only [sim_bool] at h)
  · skip
    refine AW.seq ?_
    refine AW.regS tbl (by rw [hx]; kernel_rfl) (fun K hK => ?_)
    iterate 3 (first | refine st tok (by rfl) (by simp (disch := omega) only [sim_load, seval, Ty.agg, tb_3, tb_9, tb_22, tb_23, tb_25, tb_74, sim_build, tb_40, sim_store]; (repeat' refine And.intro ?_ ?_) <;> first | exact Kq.here _ _ | omega | assumption | with_reducible rfl) ?_ | refine st_n tok (by rfl) (by simp (disch := omega) only [sim_load, seval, Ty.agg, tb_3, tb_9, tb_22, tb_23, tb_25, tb_74, sim_build, tb_40, sim_store]; (repeat' refine And.intro ?_ ?_) <;> first | exact Kq.here _ _ | omega | assumption | with_reducible rfl) ?_)
    refine SOps.nil (hK _ _ ?_)
    clear hK
    dsimp only
    -- stop: ret (live 4)
    have h' : ¬ f.okB = true := by rw [h]; simp
    simp only [LEnd.receive, if_neg h']
    unfold gotD
    refine AW.ret ?_
    dsimp only
    simp only [RetV, resD, sim_all, ↓fieldOff_eq, ↓newsV_eq, ↓sliceV_eq, ↓lenV_eq, seval, Ty.agg, tb_all]
    refine ⟨⟨_, rfl⟩, .inr (.inr ⟨_, .inr (.inr ⟨_, _, rfl, rfl, ?_⟩), rfl, rfl⟩)⟩
    simp [wksL, D.leC]
  · skip
    refine AW.skip ?_
    dsimp only
    refine AW.seq ?_
    refine AW.seq ?_
    refine AW.regS tbl (by rw [hx]; kernel_rfl) (fun K hK => ?_)
    iterate 6 refine st tok (by rfl) (by simp (disch := omega) only [sim_fieldAddr, ↓fieldOff_eq, seval, Ty.agg, tb_3, tb_9, tb_27, sim_load, tb_22, tb_23, tb_25, tb_74, sim_binOp, sim_move]; (repeat' refine And.intro ?_ ?_) <;> first | exact Kq.here _ _ | omega | assumption | with_reducible rfl) ?_
    refine st_opt tok (by rfl) rfl (by simp only [sim_ev, Nat.reduceBEq]; rfl) (bq_t _) (fun hgd => by (have hgq := hgd; (try simp only [sim_bool] at hgq)); simp (disch := omega) only [hgd, sim_un, sim_fieldAddr, ↓fieldOff_eq, seval, Ty.agg, tb_3, tb_9, tb_27]; (repeat' refine And.intro ?_ ?_) <;> first | exact Kq.here _ _ | omega | assumption | with_reducible rfl) (by first | exact Or.inl rfl | exact Or.inr ⟨_, _, _, .tmp 3, rfl, by simp [Op.operands, Call.operands], by simp only [sim_ev, Nat.reduceBEq]; first | exact Or.inl rfl | exact Or.inr ⟨_, rfl⟩⟩) ?_
    refine st_opt tok (by rfl) rfl (by simp only [sim_ev, Nat.reduceBEq]; rfl) (bq_t _) (fun hgd => by (have hgq := hgd; (try simp only [sim_bool] at hgq)); simp (disch := omega) only [hgd, sim_un, sim_load, seval, Ty.agg, tb_3]; (repeat' refine And.intro ?_ ?_) <;> first | exact Kq.here _ _ | omega | assumption | with_reducible rfl) (by first | exact Or.inl rfl | exact Or.inr ⟨_, _, _, .tmp 19, rfl, by simp [Op.operands, Call.operands], by simp only [sim_ev, Nat.reduceBEq]; first | exact Or.inl rfl | exact Or.inr ⟨_, rfl⟩⟩) ?_
    refine st_opt tok (by rfl) rfl (by simp only [sim_ev, Nat.reduceBEq]; rfl) (bq_t _) (fun hgd => by (have hgq := hgd; (try simp only [sim_bool] at hgq)); simp (disch := omega) only [hgd, sim_un, sim_fieldAddr, ↓fieldOff_eq, seval, Ty.agg, tb_3, tb_9, tb_22, tb_23, tb_25, tb_74]; (repeat' refine And.intro ?_ ?_) <;> first | exact Kq.here _ _ | omega | assumption | with_reducible rfl) (by first | exact Or.inl rfl | exact Or.inr ⟨_, _, _, .tmp 2, rfl, by simp [Op.operands, Call.operands], by simp only [sim_ev, Nat.reduceBEq]; first | exact Or.inl rfl | exact Or.inr ⟨_, rfl⟩⟩) ?_
    refine st_opt tok (by rfl) rfl (by simp only [sim_ev, Nat.reduceBEq]; rfl) (bq_t _) (fun hgd => by (have hgq := hgd; (try simp only [sim_bool] at hgq)); simp (disch := omega) only [hgd, sim_un, sim_load, seval, Ty.agg, tb_3]; (repeat' refine And.intro ?_ ?_) <;> first | exact Kq.here _ _ | omega | assumption | with_reducible rfl) (by first | exact Or.inl rfl | exact Or.inr ⟨_, _, _, .tmp 21, rfl, by simp [Op.operands, Call.operands], by simp only [sim_ev, Nat.reduceBEq]; first | exact Or.inl rfl | exact Or.inr ⟨_, rfl⟩⟩) ?_
    refine st_opt tok (by rfl) rfl (by simp only [sim_ev, Nat.reduceBEq]; rfl) (bq_t _) (fun hgd => by (have hgq := hgd; (try simp only [sim_bool] at hgq)); simp (disch := omega) only [hgd, sim_un, sim_fieldAddr, ↓fieldOff_eq, seval, Ty.agg, tb_3, tb_9, tb_22, tb_23, tb_25, tb_74]; (repeat' refine And.intro ?_ ?_) <;> first | exact Kq.here _ _ | omega | assumption | with_reducible rfl) (by first | exact Or.inl rfl | exact Or.inr ⟨_, _, _, .tmp 2, rfl, by simp [Op.operands, Call.operands], by simp only [sim_ev, Nat.reduceBEq]; first | exact Or.inl rfl | exact Or.inr ⟨_, rfl⟩⟩) ?_
    refine st_opt tok (by rfl) rfl (by simp only [sim_ev, Nat.reduceBEq]; rfl) (bq_t _) (fun hgd => by (have hgq := hgd; (try simp only [sim_bool] at hgq)); simp (disch := omega) only [hgd, sim_un, sim_load, seval, Ty.agg, tb_9, tb_22]; (repeat' refine And.intro ?_ ?_) <;> first | exact Kq.here _ _ | omega | assumption | with_reducible rfl) (by first | exact Or.inl rfl | exact Or.inr ⟨_, _, _, .tmp 23, rfl, by simp [Op.operands, Call.operands], by simp only [sim_ev, Nat.reduceBEq]; first | exact Or.inl rfl | exact Or.inr ⟨_, rfl⟩⟩) ?_
    refine st_opt tok (by rfl) rfl (by simp only [sim_ev, Nat.reduceBEq]; rfl) (bq_t _) (fun hgd => by (have hgq := hgd; (try simp only [sim_bool] at hgq)); simp (disch := omega) only [hgd, sim_un, sim_call, ↓newsV_eq, ↓lenV_eq, seval, Ty.agg, tb_3, tb_9, tb_22]; (repeat' refine And.intro ?_ ?_) <;> first | exact Kq.here _ _ | omega | assumption | with_reducible rfl) (by first | exact Or.inl rfl | exact Or.inr ⟨_, _, _, .tmp 24, rfl, by simp [Op.operands, Call.operands], by simp only [sim_ev, Nat.reduceBEq]; first | exact Or.inl rfl | exact Or.inr ⟨_, rfl⟩⟩) ?_
    refine st_opt tok (by rfl) rfl (by simp only [sim_ev, Nat.reduceBEq]; rfl) (bq_t _) (fun hgd => by (have hgq := hgd; (try simp only [sim_bool] at hgq)); simp (disch := omega) only [hgd, sim_un, sim_binOp, seval, Ty.agg, tb_3]; (repeat' refine And.intro ?_ ?_) <;> first | exact Kq.here _ _ | omega | assumption | with_reducible rfl) (by first | exact Or.inl rfl | exact Or.inr ⟨_, _, _, .tmp 22, rfl, by simp [Op.operands, Call.operands], by simp only [sim_ev, Nat.reduceBEq]; first | exact Or.inl rfl | exact Or.inr ⟨_, rfl⟩⟩) ?_
    refine st_opt tok (by rfl) rfl (by simp only [sim_ev, Nat.reduceBEq]; rfl) (bq_t _) (fun hgd => by (have hgq := hgd; (try simp only [sim_bool] at hgq)); simp (disch := omega) only [hgd, sim_un, sim_binOp, seval, Ty.agg, tb_3]; (repeat' refine And.intro ?_ ?_) <;> first | exact Kq.here _ _ | omega | assumption | with_reducible rfl) (by first | exact Or.inl rfl | exact Or.inr ⟨_, _, _, .tmp 20, rfl, by simp [Op.operands, Call.operands], by simp only [sim_ev, Nat.reduceBEq]; first | exact Or.inl rfl | exact Or.inr ⟨_, rfl⟩⟩) ?_
    refine st_and tok (by simp only [sim_ev, Nat.reduceBEq]; rfl) (fun hgd => by simp only [sim_ev, Nat.reduceBEq, sim_un, hgd, cond_true, Bool.not_false, Bool.not_true]; rfl) ?_
    refine st tok (by rfl) (by simp (disch := omega) only [sim_move, seval, Ty.agg]; (repeat' refine And.intro ?_ ?_) <;> first | exact Kq.here _ _ | omega | assumption | with_reducible rfl) ?_
    refine st_opt tok (by rfl) rfl (by simp only [sim_ev, Nat.reduceBEq]; rfl) (bq_t _) (fun hgd => by (have hgq := hgd; (try simp only [sim_bool] at hgq)); simp (disch := omega) only [hgd, sim_un, sim_fieldAddr, ↓fieldOff_eq, seval, Ty.agg, tb_3, tb_9, tb_27]; (repeat' refine And.intro ?_ ?_) <;> first | exact Kq.here _ _ | omega | assumption | with_reducible rfl) (by first | exact Or.inl rfl | exact Or.inr ⟨_, _, _, .tmp 3, rfl, by simp [Op.operands, Call.operands], by simp only [sim_ev, Nat.reduceBEq]; first | exact Or.inl rfl | exact Or.inr ⟨_, rfl⟩⟩) ?_
    refine st_opt tok (by rfl) rfl (by simp only [sim_ev, Nat.reduceBEq]; rfl) (bq_t _) (fun hgd => by (have hgq := hgd; (try simp only [sim_bool] at hgq)); simp (disch := omega) only [hgd, sim_un, sim_load, seval, Ty.agg, tb_3]; (repeat' refine And.intro ?_ ?_) <;> first | exact Kq.here _ _ | omega | assumption | with_reducible rfl) (by first | exact Or.inl rfl | exact Or.inr ⟨_, _, _, .tmp 30, rfl, by simp [Op.operands, Call.operands], by simp only [sim_ev, Nat.reduceBEq]; first | exact Or.inl rfl | exact Or.inr ⟨_, rfl⟩⟩) ?_
    refine st_opt tok (by rfl) rfl (by simp only [sim_ev, Nat.reduceBEq]; rfl) (bq_t _) (fun hgd => by (have hgq := hgd; (try simp only [sim_bool] at hgq)); simp (disch := omega) only [hgd, sim_un, sim_binOp, seval, Ty.agg, tb_3]; (repeat' refine And.intro ?_ ?_) <;> first | exact Kq.here _ _ | omega | assumption | with_reducible rfl) (by first | exact Or.inl rfl | exact Or.inr ⟨_, _, _, .tmp 31, rfl, by simp [Op.operands, Call.operands], by simp only [sim_ev, Nat.reduceBEq]; first | exact Or.inl rfl | exact Or.inr ⟨_, rfl⟩⟩) ?_
    refine st_and tok (by simp only [sim_ev, Nat.reduceBEq]; rfl) (fun hgd => by simp only [sim_ev, Nat.reduceBEq, sim_un, hgd, cond_true, Bool.not_false, Bool.not_true]; rfl) ?_
    refine SOps.nil (hK _ _ ?_)
    clear hK
    dsimp only
    refine AW.keep [2, 3, 4, 33] ?_
    simp only [keepT_cons, keepT_nil, keepO_some, keepO_none, lk_cons, lk_nil, Nat.reduceBEq, cond_true, cond_false]
    -- stop: cond (live 2:x, 3:f, 4, 33)
    refine AW.join [(2, .pt 0 0), (3, .pt 1 0), (4, .pt 2 0)] ⟨[(0, endC (x.acked f)), (2, zeroC ++ [.e (.lit (.slice none 0 0))]), (1, frC f)], [], 3⟩ ?_ ?_
    · skip
      refine AW.condS (by simp only [sim_ev, Nat.reduceBEq]; rfl) (fun c => ?_) (fun c => ?_)
      all_goals (try simp only [sim_bool] at c)
      · skip
        refine AW.seq ?_
        refine AW.regS tbl (by rw [hx]; kernel_rfl) (fun K hK => ?_)
        iterate 12 (first | refine st tok (by rfl) (by simp (disch := omega) only [sim_buildSlice, seval, Ty.agg, tb_9, tb_22, sim_fieldAddr, ↓fieldOff_eq, tb_3, tb_23, tb_25, tb_74, sim_load, tb_27, sim_binOp, sim_slice, ↓sliceV_eq, sim_call, ↓newsV_eq, ↓lenV_eq, sim_store]; (repeat' refine And.intro ?_ ?_) <;> first | exact Kq.here _ _ | omega | assumption | with_reducible rfl) ?_ | refine st_n tok (by rfl) (by simp (disch := omega) only [sim_buildSlice, seval, Ty.agg, tb_9, tb_22, sim_fieldAddr, ↓fieldOff_eq, tb_3, tb_23, tb_25, tb_74, sim_load, tb_27, sim_binOp, sim_slice, ↓sliceV_eq, sim_call, ↓newsV_eq, ↓lenV_eq, sim_store]; (repeat' refine And.intro ?_ ?_) <;> first | exact Kq.here _ _ | omega | assumption | with_reducible rfl) ?_)
        refine SOps.nil (hK _ _ ?_)
        clear hK
        dsimp only
        refine AW.keep [2, 3, 4] ?_
        simp only [keepT_cons, keepT_nil, keepO_some, keepO_none, lk_cons, lk_nil, Nat.reduceBEq, cond_true, cond_false]
        refine AW.regS tbl (by rw [hx]; kernel_rfl) (fun K hK => ?_)
        iterate 4 (first | refine st tok (by rfl) (by simp (disch := omega) only [sim_fieldAddr, ↓fieldOff_eq, seval, Ty.agg, tb_3, tb_9, tb_27, sim_load, tb_22, tb_23, tb_25, tb_74, sim_store]; (repeat' refine And.intro ?_ ?_) <;> first | exact Kq.here _ _ | omega | assumption | with_reducible rfl) ?_ | refine st_n tok (by rfl) (by simp (disch := omega) only [sim_fieldAddr, ↓fieldOff_eq, seval, Ty.agg, tb_3, tb_9, tb_27, sim_load, tb_22, tb_23, tb_25, tb_74, sim_store]; (repeat' refine And.intro ?_ ?_) <;> first | exact Kq.here _ _ | omega | assumption | with_reducible rfl) ?_)
        refine SOps.nil (hK _ _ ?_)
        clear hK
        dsimp only
        -- stop: round's end (live 2:x, 3:f, 4)
        obtain ⟨e1, e2⟩ := ack_cut x f (by omega) c.1.2
        have e : x.acked f = ⟨f.ack, x.queue.drop (f.ack - x.base).toNat, x.want, x.held⟩ := by unfold LEnd.acked; rw [if_pos (by omega)]
        rw [e, e2, e1]
        apply Wk.fin (ks := [0, 2, 1]) (kl := []) h0 hok
        case hN => omega
        case hm => omega
        case hv => repeat first | exact TgtV.base | (refine TgtV.cons ⟨by omega, ?_, ?_⟩ ?_; (focus (simp (maxSteps := 2000000) (disch := omega) only [sim_all, ↓fieldOff_eq, ↓newsV_eq, ↓sliceV_eq, ↓lenV_eq, seval, Ty.agg, tb_all, endC, frC, zeroC, wksL, D.leC, D.e.injEq, E.sl.injEq, exists_eq_right, exists_eq_right', D.idsB, D.idsC, decide_eq_true_eq, List.all_cons, List.all_nil, true_or, or_true]; done)); (focus (simp (maxSteps := 2000000) (disch := omega) only [sim_all, ↓fieldOff_eq, ↓newsV_eq, ↓sliceV_eq, ↓lenV_eq, seval, Ty.agg, tb_all, endC, frC, zeroC, wksL, D.leC, D.e.injEq, E.sl.injEq, exists_eq_right, exists_eq_right', D.idsB, D.idsC, decide_eq_true_eq, List.all_cons, List.all_nil, true_or, or_true]; done)))
        case hc => repeat first | exact Cov.base | refine Cov.cons (by first | (left; omega) | (right; simp)) ?_
        case hl => repeat first | exact TgtL.base | (refine TgtL.cons ⟨by omega, ?_⟩ ?_; (focus (simp (maxSteps := 2000000) (disch := omega) only [sim_all, ↓fieldOff_eq, ↓newsV_eq, ↓sliceV_eq, ↓lenV_eq, seval, Ty.agg, tb_all, endC, frC, zeroC, wksL, D.leC, D.e.injEq, E.sl.injEq, exists_eq_right, exists_eq_right', D.idsB, D.idsC, decide_eq_true_eq, List.all_cons, List.all_nil, true_or, or_true]; done)))
        case hcl => repeat first | exact Cov.base | refine Cov.cons (by first | (left; omega) | (right; simp)) ?_
        all_goals simp (maxSteps := 2000000) (disch := omega) only [sim_all, ↓fieldOff_eq, ↓newsV_eq, ↓sliceV_eq, ↓lenV_eq, seval, Ty.agg, tb_all, endC, frC, zeroC, wksL, D.leC, D.e.injEq, E.sl.injEq, exists_eq_right, exists_eq_right', D.idsB, D.idsC, decide_eq_true_eq, List.all_cons, List.all_nil, true_or, or_true]
        all_goals (try omega)
      · skip
        refine AW.skip ?_
        dsimp only
        -- stop: round's end (live 2:x, 3:f, 4)
        have e : x.acked f = x := by unfold LEnd.acked; rw [if_neg (fun hc => by have := c ⟨hc.1, hc.2.1⟩; omega)]
        rw [e]
        apply Wk.fin (ks := [0, 2, 1]) (kl := []) h0 hok
        case hN => omega
        case hm => omega
        case hv => repeat first | exact TgtV.base | (refine TgtV.cons ⟨by omega, ?_, ?_⟩ ?_; (focus (simp (maxSteps := 2000000) (disch := omega) only [sim_all, ↓fieldOff_eq, ↓newsV_eq, ↓sliceV_eq, ↓lenV_eq, seval, Ty.agg, tb_all, endC, frC, zeroC, wksL, D.leC, D.e.injEq, E.sl.injEq, exists_eq_right, exists_eq_right', D.idsB, D.idsC, decide_eq_true_eq, List.all_cons, List.all_nil, true_or, or_true]; done)); (focus (simp (maxSteps := 2000000) (disch := omega) only [sim_all, ↓fieldOff_eq, ↓newsV_eq, ↓sliceV_eq, ↓lenV_eq, seval, Ty.agg, tb_all, endC, frC, zeroC, wksL, D.leC, D.e.injEq, E.sl.injEq, exists_eq_right, exists_eq_right', D.idsB, D.idsC, decide_eq_true_eq, List.all_cons, List.all_nil, true_or, or_true]; done)))
        case hc => repeat first | exact Cov.base | refine Cov.cons (by first | (left; omega) | (right; simp)) ?_
        case hl => repeat first | exact TgtL.base | (refine TgtL.cons ⟨by omega, ?_⟩ ?_; (focus (simp (maxSteps := 2000000) (disch := omega) only [sim_all, ↓fieldOff_eq, ↓newsV_eq, ↓sliceV_eq, ↓lenV_eq, seval, Ty.agg, tb_all, endC, frC, zeroC, wksL, D.leC, D.e.injEq, E.sl.injEq, exists_eq_right, exists_eq_right', D.idsB, D.idsC, decide_eq_true_eq, List.all_cons, List.all_nil, true_or, or_true]; done)))
        case hcl => repeat first | exact Cov.base | refine Cov.cons (by first | (left; omega) | (right; simp)) ?_
        all_goals simp (maxSteps := 2000000) (disch := omega) only [sim_all, ↓fieldOff_eq, ↓newsV_eq, ↓sliceV_eq, ↓lenV_eq, seval, Ty.agg, tb_all, endC, frC, zeroC, wksL, D.leC, D.e.injEq, E.sl.injEq, exists_eq_right, exists_eq_right', D.idsB, D.idsC, decide_eq_true_eq, List.all_cons, List.all_nil, true_or, or_true]
        all_goals (try omega)
    · have ok1 := hok'.acked f
      have ok2 := ok1.holds (LFrame.okB_data h)
      have w1 := ok1.w1
      have w2 := ok1.w2
      have w3 := ok2.w1
      have w4 := ok2.w2
      have hl1 := ok1.held_len
      have hl2 := ok2.held_len
      refine AW.seq ?_
      refine AW.seq ?_
      refine AW.regS tbl (by rw [hx]; kernel_rfl) (fun K hK => ?_)
      iterate 6 refine st tok (by rfl) (by simp (disch := omega) only [sim_fieldAddr, ↓fieldOff_eq, seval, Ty.agg, tb_3, tb_9, tb_27, frC, endC, sim_load, tb_22, tb_23, tb_25, tb_74, sim_binOp, sim_move]; (repeat' refine And.intro ?_ ?_) <;> first | exact Kq.here _ _ | omega | assumption | with_reducible rfl) ?_
      refine st_opt tok (by rfl) rfl (by simp only [sim_ev, Nat.reduceBEq]; rfl) (bq_t _) (fun hgd => by (have hgq := hgd; (try simp only [sim_bool] at hgq)); simp (disch := omega) only [hgd, sim_un, sim_fieldAddr, ↓fieldOff_eq, seval, Ty.agg, tb_3, tb_9, tb_27, frC, endC]; (repeat' refine And.intro ?_ ?_) <;> first | exact Kq.here _ _ | omega | assumption | with_reducible rfl) (by first | exact Or.inl rfl | exact Or.inr ⟨_, _, _, .tmp 3, rfl, by simp [Op.operands, Call.operands], by simp only [sim_ev, Nat.reduceBEq]; first | exact Or.inl rfl | exact Or.inr ⟨_, rfl⟩⟩) ?_
      refine st_opt tok (by rfl) rfl (by simp only [sim_ev, Nat.reduceBEq]; rfl) (bq_t _) (fun hgd => by (have hgq := hgd; (try simp only [sim_bool] at hgq)); simp (disch := omega) only [hgd, sim_un, sim_load, seval, Ty.agg, tb_3, frC, endC]; (repeat' refine And.intro ?_ ?_) <;> first | exact Kq.here _ _ | omega | assumption | with_reducible rfl) (by first | exact Or.inl rfl | exact Or.inr ⟨_, _, _, .tmp 54, rfl, by simp [Op.operands, Call.operands], by simp only [sim_ev, Nat.reduceBEq]; first | exact Or.inl rfl | exact Or.inr ⟨_, rfl⟩⟩) ?_
      refine st_opt tok (by rfl) rfl (by simp only [sim_ev, Nat.reduceBEq]; rfl) (bq_t _) (fun hgd => by (have hgq := hgd; (try simp only [sim_bool] at hgq)); simp (disch := omega) only [hgd, sim_un, sim_fieldAddr, ↓fieldOff_eq, seval, Ty.agg, tb_3, tb_9, tb_22, tb_23, tb_25, tb_74, frC, endC]; (repeat' refine And.intro ?_ ?_) <;> first | exact Kq.here _ _ | omega | assumption | with_reducible rfl) (by first | exact Or.inl rfl | exact Or.inr ⟨_, _, _, .tmp 2, rfl, by simp [Op.operands, Call.operands], by simp only [sim_ev, Nat.reduceBEq]; first | exact Or.inl rfl | exact Or.inr ⟨_, rfl⟩⟩) ?_
      refine st_opt tok (by rfl) rfl (by simp only [sim_ev, Nat.reduceBEq]; rfl) (bq_t _) (fun hgd => by (have hgq := hgd; (try simp only [sim_bool] at hgq)); simp (disch := omega) only [hgd, sim_un, sim_load, seval, Ty.agg, tb_3, frC, endC]; (repeat' refine And.intro ?_ ?_) <;> first | exact Kq.here _ _ | omega | assumption | with_reducible rfl) (by first | exact Or.inl rfl | exact Or.inr ⟨_, _, _, .tmp 56, rfl, by simp [Op.operands, Call.operands], by simp only [sim_ev, Nat.reduceBEq]; first | exact Or.inl rfl | exact Or.inr ⟨_, rfl⟩⟩) ?_
      refine st_opt tok (by rfl) rfl (by simp only [sim_ev, Nat.reduceBEq]; rfl) (bq_t _) (fun hgd => by (have hgq := hgd; (try simp only [sim_bool] at hgq)); simp (disch := omega) only [hgd, sim_un, sim_binOp, seval, Ty.agg, tb_3, frC, endC]; (repeat' refine And.intro ?_ ?_) <;> first | exact Kq.here _ _ | omega | assumption | with_reducible rfl) (by first | exact Or.inl rfl | exact Or.inr ⟨_, _, _, .tmp 57, rfl, by simp [Op.operands, Call.operands], by simp only [sim_ev, Nat.reduceBEq]; first | exact Or.inl rfl | exact Or.inr ⟨_, rfl⟩⟩) ?_
      refine st_opt tok (by rfl) rfl (by simp only [sim_ev, Nat.reduceBEq]; rfl) (bq_t _) (fun hgd => by (have hgq := hgd; (try simp only [sim_bool] at hgq)); simp (disch := omega) only [hgd, sim_un, sim_binOp, seval, Ty.agg, tb_3, frC, endC]; (repeat' refine And.intro ?_ ?_) <;> first | exact Kq.here _ _ | omega | assumption | with_reducible rfl) (by first | exact Or.inl rfl | exact Or.inr ⟨_, _, _, .tmp 55, rfl, by simp [Op.operands, Call.operands], by simp only [sim_ev, Nat.reduceBEq]; first | exact Or.inl rfl | exact Or.inr ⟨_, rfl⟩⟩) ?_
      refine st_and tok (by simp only [sim_ev, Nat.reduceBEq]; rfl) (fun hgd => by simp only [sim_ev, Nat.reduceBEq, sim_un, hgd, cond_true, Bool.not_false, Bool.not_true]; rfl) ?_
      refine st tok (by rfl) (by simp (disch := omega) only [sim_move, seval, Ty.agg, frC, endC]; (repeat' refine And.intro ?_ ?_) <;> first | exact Kq.here _ _ | omega | assumption | with_reducible rfl) ?_
      refine st_opt tok (by rfl) rfl (by simp only [sim_ev, Nat.reduceBEq]; rfl) (bq_t _) (fun hgd => by (have hgq := hgd; (try simp only [sim_bool] at hgq)); simp (disch := omega) only [hgd, sim_un, sim_fieldAddr, ↓fieldOff_eq, seval, Ty.agg, tb_3, tb_9, tb_27, frC, endC]; (repeat' refine And.intro ?_ ?_) <;> first | exact Kq.here _ _ | omega | assumption | with_reducible rfl) (by first | exact Or.inl rfl | exact Or.inr ⟨_, _, _, .tmp 3, rfl, by simp [Op.operands, Call.operands], by simp only [sim_ev, Nat.reduceBEq]; first | exact Or.inl rfl | exact Or.inr ⟨_, rfl⟩⟩) ?_
      refine st_opt tok (by rfl) rfl (by simp only [sim_ev, Nat.reduceBEq]; rfl) (bq_t _) (fun hgd => by (have hgq := hgd; (try simp only [sim_bool] at hgq)); simp (disch := omega) only [hgd, sim_un, sim_load, seval, Ty.agg, tb_3, frC, endC]; (repeat' refine And.intro ?_ ?_) <;> first | exact Kq.here _ _ | omega | assumption | with_reducible rfl) (by first | exact Or.inl rfl | exact Or.inr ⟨_, _, _, .tmp 62, rfl, by simp [Op.operands, Call.operands], by simp only [sim_ev, Nat.reduceBEq]; first | exact Or.inl rfl | exact Or.inr ⟨_, rfl⟩⟩) ?_
      refine st_opt tok (by rfl) rfl (by simp only [sim_ev, Nat.reduceBEq]; rfl) (bq_t _) (fun hgd => by (have hgq := hgd; (try simp only [sim_bool] at hgq)); simp (disch := omega) only [hgd, sim_un, sim_binOp, seval, Ty.agg, tb_3, frC, endC]; (repeat' refine And.intro ?_ ?_) <;> first | exact Kq.here _ _ | omega | assumption | with_reducible rfl) (by first | exact Or.inl rfl | exact Or.inr ⟨_, _, _, .tmp 63, rfl, by simp [Op.operands, Call.operands], by simp only [sim_ev, Nat.reduceBEq]; first | exact Or.inl rfl | exact Or.inr ⟨_, rfl⟩⟩) ?_
      refine st_and tok (by simp only [sim_ev, Nat.reduceBEq]; rfl) (fun hgd => by simp only [sim_ev, Nat.reduceBEq, sim_un, hgd, cond_true, Bool.not_false, Bool.not_true]; rfl) ?_
      refine SOps.nil (hK _ _ ?_)
      clear hK
      dsimp only
      refine AW.keep [2, 3, 4, 65] ?_
      simp only [keepT_cons, keepT_nil, keepO_some, keepO_none, lk_cons, lk_nil, Nat.reduceBEq, cond_true, cond_false]
      -- stop: cond (live 2:x, 3:f, 4, 65)
      refine AW.join [(2, .pt 0 0), (3, .pt 1 0), (4, .pt 2 0)] ⟨[(0, endC ((x.acked f).holds f)), (2, zeroC ++ [.e (.lit (.slice none 0 0))]), (1, frC f)], [], 3⟩ ?_ ?_
      · skip
        refine AW.condS (by simp only [sim_ev, Nat.reduceBEq]; rfl) (fun c => ?_) (fun c => ?_)
        all_goals (try simp only [sim_bool] at c)
        · skip
          refine AW.regS tbl (by rw [hx]; kernel_rfl) (fun K hK => ?_)
          iterate 3 refine st tok (by rfl) (by simp (disch := omega) only [sim_fieldAddr, ↓fieldOff_eq, seval, Ty.agg, tb_3, tb_9, tb_22, tb_23, tb_25, tb_74, sim_load, tb_27]; (repeat' refine And.intro ?_ ?_) <;> first | exact Kq.here _ _ | omega | assumption | with_reducible rfl) ?_
          -- stop: call ['f', 43] (line 107)
          refine st tok (by rfl) (by simp (disch := omega) only [sim_call, ↓newsV_eq, ↓lenV_eq, seval, Ty.agg, tb_3, tb_9, tb_23, tb_27, tb_74]; (repeat refine And.intro (by omega) ?_); apply call_of; (case ha => simp only [sim_ex]; exact rfl); (case hc => exact (r_hold (x.acked f).held (x.acked f).want f (by omega) ok1.hg)); (case hp1 => first | rfl | simp only [sim_pure]); (case h => ((try simp only [adopt_own, adopt_e, adopt_ag, adopt_tu, hp_tok, true_and]); exact Kq.here _ _))) ?_
          iterate 2 (first | refine st tok (by rfl) (by simp (disch := omega) only [sim_fieldAddr, ↓fieldOff_eq, seval, Ty.agg, tb_3, tb_9, tb_22, tb_23, tb_25, tb_74, sim_store]; (repeat' refine And.intro ?_ ?_) <;> first | exact Kq.here _ _ | omega | assumption | with_reducible rfl) ?_ | refine st_n tok (by rfl) (by simp (disch := omega) only [sim_fieldAddr, ↓fieldOff_eq, seval, Ty.agg, tb_3, tb_9, tb_22, tb_23, tb_25, tb_74, sim_store]; (repeat' refine And.intro ?_ ?_) <;> first | exact Kq.here _ _ | omega | assumption | with_reducible rfl) ?_)
          refine SOps.nil (hK _ _ ?_)
          clear hK
          dsimp only
          -- stop: round's end (live 2:x, 3:f, 4)
          have e : (x.acked f).holds f = ⟨(x.acked f).base, (x.acked f).queue, (x.acked f).want, putHeld (f.seq, f.data) (x.acked f).held⟩ := by unfold LEnd.holds; rw [if_pos (by omega)]
          rw [e]
          apply Wk.fin (ks := [0, 2, 1]) (kl := []) h0 hok
          case hN => omega
          case hm => omega
          case hv => repeat first | exact TgtV.base | (refine TgtV.cons ⟨by omega, ?_, ?_⟩ ?_; (focus (simp (maxSteps := 2000000) (disch := omega) only [sim_all, ↓fieldOff_eq, ↓newsV_eq, ↓sliceV_eq, ↓lenV_eq, seval, Ty.agg, tb_all, endC, frC, zeroC, wksL, D.leC, D.e.injEq, E.sl.injEq, exists_eq_right, exists_eq_right', D.idsB, D.idsC, decide_eq_true_eq, List.all_cons, List.all_nil, true_or, or_true]; done)); (focus (simp (maxSteps := 2000000) (disch := omega) only [sim_all, ↓fieldOff_eq, ↓newsV_eq, ↓sliceV_eq, ↓lenV_eq, seval, Ty.agg, tb_all, endC, frC, zeroC, wksL, D.leC, D.e.injEq, E.sl.injEq, exists_eq_right, exists_eq_right', D.idsB, D.idsC, decide_eq_true_eq, List.all_cons, List.all_nil, true_or, or_true]; done)))
          case hc => repeat first | exact Cov.base | refine Cov.cons (by first | (left; omega) | (right; simp)) ?_
          case hl => repeat first | exact TgtL.base | (refine TgtL.cons ⟨by omega, ?_⟩ ?_; (focus (simp (maxSteps := 2000000) (disch := omega) only [sim_all, ↓fieldOff_eq, ↓newsV_eq, ↓sliceV_eq, ↓lenV_eq, seval, Ty.agg, tb_all, endC, frC, zeroC, wksL, D.leC, D.e.injEq, E.sl.injEq, exists_eq_right, exists_eq_right', D.idsB, D.idsC, decide_eq_true_eq, List.all_cons, List.all_nil, true_or, or_true]; done)))
          case hcl => repeat first | exact Cov.base | refine Cov.cons (by first | (left; omega) | (right; simp)) ?_
          all_goals simp (maxSteps := 2000000) (disch := omega) only [sim_all, ↓fieldOff_eq, ↓newsV_eq, ↓sliceV_eq, ↓lenV_eq, seval, Ty.agg, tb_all, endC, frC, zeroC, wksL, D.leC, D.e.injEq, E.sl.injEq, exists_eq_right, exists_eq_right', D.idsB, D.idsC, decide_eq_true_eq, List.all_cons, List.all_nil, true_or, or_true]
          all_goals (try omega)
        · skip
          refine AW.skip ?_
          dsimp only
          -- stop: round's end (live 2:x, 3:f, 4)
          have e : (x.acked f).holds f = x.acked f := by unfold LEnd.holds; rw [if_neg (fun hc => by have := c ⟨hc.1, hc.2.1⟩; omega)]
          rw [e]
          apply Wk.fin (ks := [0, 2, 1]) (kl := []) h0 hok
          case hN => omega
          case hm => omega
          case hv => repeat first | exact TgtV.base | (refine TgtV.cons ⟨by omega, ?_, ?_⟩ ?_; (focus (simp (maxSteps := 2000000) (disch := omega) only [sim_all, ↓fieldOff_eq, ↓newsV_eq, ↓sliceV_eq, ↓lenV_eq, seval, Ty.agg, tb_all, endC, frC, zeroC, wksL, D.leC, D.e.injEq, E.sl.injEq, exists_eq_right, exists_eq_right', D.idsB, D.idsC, decide_eq_true_eq, List.all_cons, List.all_nil, true_or, or_true]; done)); (focus (simp (maxSteps := 2000000) (disch := omega) only [sim_all, ↓fieldOff_eq, ↓newsV_eq, ↓sliceV_eq, ↓lenV_eq, seval, Ty.agg, tb_all, endC, frC, zeroC, wksL, D.leC, D.e.injEq, E.sl.injEq, exists_eq_right, exists_eq_right', D.idsB, D.idsC, decide_eq_true_eq, List.all_cons, List.all_nil, true_or, or_true]; done)))
          case hc => repeat first | exact Cov.base | refine Cov.cons (by first | (left; omega) | (right; simp)) ?_
          case hl => repeat first | exact TgtL.base | (refine TgtL.cons ⟨by omega, ?_⟩ ?_; (focus (simp (maxSteps := 2000000) (disch := omega) only [sim_all, ↓fieldOff_eq, ↓newsV_eq, ↓sliceV_eq, ↓lenV_eq, seval, Ty.agg, tb_all, endC, frC, zeroC, wksL, D.leC, D.e.injEq, E.sl.injEq, exists_eq_right, exists_eq_right', D.idsB, D.idsC, decide_eq_true_eq, List.all_cons, List.all_nil, true_or, or_true]; done)))
          case hcl => repeat first | exact Cov.base | refine Cov.cons (by first | (left; omega) | (right; simp)) ?_
          all_goals simp (maxSteps := 2000000) (disch := omega) only [sim_all, ↓fieldOff_eq, ↓newsV_eq, ↓sliceV_eq, ↓lenV_eq, seval, Ty.agg, tb_all, endC, frC, zeroC, wksL, D.leC, D.e.injEq, E.sl.injEq, exists_eq_right, exists_eq_right', D.idsB, D.idsC, decide_eq_true_eq, List.all_cons, List.all_nil, true_or, or_true]
          all_goals (try omega)
      · have hrc : x.receive f = (((x.acked f).holds f).gives f) := by unfold LEnd.receive; rw [if_pos h]
        rw [hrc]
        generalize hy : (x.acked f).holds f = y at *
        refine AW.seq ?_
        refine AW.regS tbl (by rw [hx]; kernel_rfl) (fun K hK => ?_)
        refine st tok (by rfl) (by simp (disch := omega) only [sim_assign, seval, Ty.agg, tb_9, tb_22, frC, endC]; (repeat' refine And.intro ?_ ?_) <;> first | exact Kq.here _ _ | omega | assumption | with_reducible rfl) ?_
        refine SOps.nil (hK _ _ ?_)
        clear hK
        dsimp only
        refine AW.seq ?_
        refine AW.seq ?_
        refine AW.regS tbl (by rw [hx]; kernel_rfl) (fun K hK => ?_)
        iterate 6 refine st tok (by rfl) (by simp (disch := omega) only [sim_fieldAddr, ↓fieldOff_eq, seval, Ty.agg, tb_3, tb_9, tb_27, frC, endC, sim_load, tb_22, tb_23, tb_25, tb_74, sim_binOp, sim_move]; (repeat' refine And.intro ?_ ?_) <;> first | exact Kq.here _ _ | omega | assumption | with_reducible rfl) ?_
        refine st_opt tok (by rfl) rfl (by simp only [sim_ev, Nat.reduceBEq]; rfl) (bq_t _) (fun hgd => by (have hgq := hgd; (try simp only [sim_bool] at hgq)); simp (disch := omega) only [hgd, sim_un, sim_fieldAddr, ↓fieldOff_eq, seval, Ty.agg, tb_3, tb_9, tb_22, tb_23, tb_25, tb_74, frC, endC]; (repeat' refine And.intro ?_ ?_) <;> first | exact Kq.here _ _ | omega | assumption | with_reducible rfl) (by first | exact Or.inl rfl | exact Or.inr ⟨_, _, _, .tmp 2, rfl, by simp [Op.operands, Call.operands], by simp only [sim_ev, Nat.reduceBEq]; first | exact Or.inl rfl | exact Or.inr ⟨_, rfl⟩⟩) ?_
        refine st_opt tok (by rfl) rfl (by simp only [sim_ev, Nat.reduceBEq]; rfl) (bq_t _) (fun hgd => by (have hgq := hgd; (try simp only [sim_bool] at hgq)); simp (disch := omega) only [hgd, sim_un, sim_load, seval, Ty.agg, tb_3, frC, endC]; (repeat' refine And.intro ?_ ?_) <;> first | exact Kq.here _ _ | omega | assumption | with_reducible rfl) (by first | exact Or.inl rfl | exact Or.inr ⟨_, _, _, .tmp 77, rfl, by simp [Op.operands, Call.operands], by simp only [sim_ev, Nat.reduceBEq]; first | exact Or.inl rfl | exact Or.inr ⟨_, rfl⟩⟩) ?_
        refine st_opt tok (by rfl) rfl (by simp only [sim_ev, Nat.reduceBEq]; rfl) (bq_t _) (fun hgd => by (have hgq := hgd; (try simp only [sim_bool] at hgq)); simp (disch := omega) only [hgd, sim_un, sim_binOp, seval, Ty.agg, tb_3, frC, endC]; (repeat' refine And.intro ?_ ?_) <;> first | exact Kq.here _ _ | omega | assumption | with_reducible rfl) (by first | exact Or.inl rfl | exact Or.inr ⟨_, _, _, .tmp 78, rfl, by simp [Op.operands, Call.operands], by simp only [sim_ev, Nat.reduceBEq]; first | exact Or.inl rfl | exact Or.inr ⟨_, rfl⟩⟩) ?_
        refine st_and tok (by simp only [sim_ev, Nat.reduceBEq]; rfl) (fun hgd => by simp only [sim_ev, Nat.reduceBEq, sim_un, hgd, cond_true, Bool.not_false, Bool.not_true]; rfl) ?_
        refine SOps.nil (hK _ _ ?_)
        clear hK
        dsimp only
        refine AW.keep [2, 3, 4, 6, 80] ?_
        simp only [keepT_cons, keepT_nil, keepO_some, keepO_none, lk_cons, lk_nil, Nat.reduceBEq, cond_true, cond_false]
        -- stop: cond (live 2:x, 3:f, 4, 6:out, 80)
        refine AW.condS (by simp only [sim_ev, Nat.reduceBEq]; rfl) (fun c => ?_) (fun c => ?_)
        all_goals (try simp only [sim_bool] at c)
        · have hg : y.gives f = (⟨y.base, y.queue, y.want + 1 + runLen (y.want + 1) y.held, y.held.drop (runLen (y.want + 1) y.held)⟩, f.data :: (y.held.take (runLen (y.want + 1) y.held)).map (·.2)) := by unfold LEnd.gives; rw [if_pos c]
          rw [hg]
          refine AW.seq ?_
          refine AW.regS tbl (by rw [hx]; kernel_rfl) (fun K hK => ?_)
          iterate 6 refine st tok (by rfl) (by simp (disch := omega) only [sim_move, seval, Ty.agg, sim_fieldAddr, ↓fieldOff_eq, tb_3, tb_9, tb_27, sim_load, sim_buildSlice, tb_22, sim_call, ↓newsV_eq, ↓lenV_eq, sim_assign]; (repeat' refine And.intro ?_ ?_) <;> first | exact Kq.here _ _ | omega | assumption | with_reducible rfl) ?_
          refine SOps.nil (hK _ _ ?_)
          clear hK
          dsimp only
          refine AW.keep [2, 4, 6] ?_
          simp only [keepT_cons, keepT_nil, keepO_some, keepO_none, lk_cons, lk_nil, Nat.reduceBEq, cond_true, cond_false]
          refine AW.seq ?_
          refine AW.regS tbl (by rw [hx]; kernel_rfl) (fun K hK => ?_)
          iterate 5 (first | refine st tok (by rfl) (by simp (disch := omega) only [sim_fieldAddr, ↓fieldOff_eq, seval, Ty.agg, tb_3, tb_9, tb_22, tb_23, tb_25, tb_74, sim_load, sim_binOp, sim_store]; (repeat' refine And.intro ?_ ?_) <;> first | exact Kq.here _ _ | omega | assumption | with_reducible rfl) ?_ | refine st_n tok (by rfl) (by simp (disch := omega) only [sim_fieldAddr, ↓fieldOff_eq, seval, Ty.agg, tb_3, tb_9, tb_22, tb_23, tb_25, tb_74, sim_load, sim_binOp, sim_store]; (repeat' refine And.intro ?_ ?_) <;> first | exact Kq.here _ _ | omega | assumption | with_reducible rfl) ?_)
          refine SOps.nil (hK _ _ ?_)
          clear hK
          dsimp only
          refine AW.keep [2, 4, 6] ?_
          simp only [keepT_cons, keepT_nil, keepO_some, keepO_none, lk_cons, lk_nil, Nat.reduceBEq, cond_true, cond_false]
          refine AW.block ?_
          -- stop: loop (live 2:x, 4, 6:out)
          refine AW.loopW (fun j : Nat => [(2, .pt 0 0), (4, .pt 2 0), (6, .own 3 1 (j + 1) ((f.data :: (y.held.take j).map (·.2)).map sE))]) (fun j => ⟨[(0, [.e (.lit (.int .i64 y.base)), .e (.sl 1 y.queue.length (y.queue.map sE)), .e (.lit (.int .i64 (y.want + 1 + j))), .e (.sl 2 (y.held.drop j).length (hE (y.held.drop j)))]), (2, zeroC ++ [.e (.lit (.slice none 0 0))]), (1, frC f)], [(3, j + 1, 1, 9)], 4⟩) (fun j => runLen (y.want + 1) y.held = j + runLen (y.want + 1 + j) (y.held.drop j) ∧ y.want + 1 + j ≤ 1099511627776) (fun j => y.held.length - j) 0 ?_ ⟨by simp, by omega⟩ ?_
          · skip
            apply Wk.fin (ks := [0, 2, 1]) (kl := [3]) h0 hok
            case hN => omega
            case hm => omega
            case hv => repeat first | exact TgtV.base | (refine TgtV.cons ⟨by omega, ?_, ?_⟩ ?_; (focus (simp (maxSteps := 2000000) (disch := omega) only [sim_all, ↓fieldOff_eq, ↓newsV_eq, ↓sliceV_eq, ↓lenV_eq, seval, Ty.agg, tb_all, frC, zeroC, List.cons_append, List.nil_append, Int.natCast_zero, Int.add_zero, List.drop_zero, List.take_zero, List.map_nil, List.map_cons, sE, wksL, D.leC, D.e.injEq, E.sl.injEq, exists_eq_right, exists_eq_right', D.idsB, D.idsC, decide_eq_true_eq, List.all_cons, List.all_nil, true_or, or_true]; done)); (focus (simp (maxSteps := 2000000) (disch := omega) only [sim_all, ↓fieldOff_eq, ↓newsV_eq, ↓sliceV_eq, ↓lenV_eq, seval, Ty.agg, tb_all, frC, zeroC, List.cons_append, List.nil_append, Int.natCast_zero, Int.add_zero, List.drop_zero, List.take_zero, List.map_nil, List.map_cons, sE, wksL, D.leC, D.e.injEq, E.sl.injEq, exists_eq_right, exists_eq_right', D.idsB, D.idsC, decide_eq_true_eq, List.all_cons, List.all_nil, true_or, or_true]; done)))
            case hc => repeat first | exact Cov.base | refine Cov.cons (by first | (left; omega) | (right; simp)) ?_
            case hl => repeat first | exact TgtL.base | (refine TgtL.cons ⟨by omega, ?_⟩ ?_; (focus (simp (maxSteps := 2000000) (disch := omega) only [sim_all, ↓fieldOff_eq, ↓newsV_eq, ↓sliceV_eq, ↓lenV_eq, seval, Ty.agg, tb_all, frC, zeroC, List.cons_append, List.nil_append, Int.natCast_zero, Int.add_zero, List.drop_zero, List.take_zero, List.map_nil, List.map_cons, sE, wksL, D.leC, D.e.injEq, E.sl.injEq, exists_eq_right, exists_eq_right', D.idsB, D.idsC, decide_eq_true_eq, List.all_cons, List.all_nil, true_or, or_true]; done)))
            case hcl => repeat first | exact Cov.base | refine Cov.cons (by first | (left; omega) | (right; simp)) ?_
            all_goals simp (maxSteps := 2000000) (disch := omega) only [sim_all, ↓fieldOff_eq, ↓newsV_eq, ↓sliceV_eq, ↓lenV_eq, seval, Ty.agg, tb_all, frC, zeroC, List.cons_append, List.nil_append, Int.natCast_zero, Int.add_zero, List.drop_zero, List.take_zero, List.map_nil, List.map_cons, sE, wksL, D.leC, D.e.injEq, E.sl.injEq, exists_eq_right, exists_eq_right', D.idsB, D.idsC, decide_eq_true_eq, List.all_cons, List.all_nil, true_or, or_true]
            all_goals (try omega)
          · intro j ⟨hr, hj⟩
            obtain ⟨hjl, hyes, hno⟩ := runLen_at hr
            refine AW.seq ?_
            refine AW.seq ?_
            refine AW.drwS tbl [] (by kernel_rfl) (by rw [hx]; kernel_rfl) (by kernel_rfl) (fun K hK => ?_)
            iterate 5 refine st tok (by rfl) (by simp (disch := omega) only [sim_fieldAddr, ↓fieldOff_eq, seval, Ty.agg, tb_3, tb_9, tb_22, tb_23, tb_25, tb_74, hE_z0, hE_z1, hE_length, sim_load, sim_call, ↓newsV_eq, ↓lenV_eq, sim_binOp, sim_move]; (repeat' refine And.intro ?_ ?_) <;> first | exact Kq.here _ _ | omega | assumption | with_reducible rfl) ?_
            refine st_opt tok (by rfl) rfl (by simp only [sim_ev, Nat.reduceBEq]; rfl) (bq_t _) (fun hgd => by (have hgq := hgd; (try simp only [sim_bool] at hgq)); simp (disch := omega) only [hgd, sim_un, sim_fieldAddr, ↓fieldOff_eq, seval, Ty.agg, tb_3, tb_9, tb_22, tb_23, tb_25, tb_74, hE_z0, hE_z1, hE_length]; (repeat' refine And.intro ?_ ?_) <;> first | exact Kq.here _ _ | omega | assumption | with_reducible rfl) (by first | exact Or.inl rfl | exact Or.inr ⟨_, _, _, .tmp 2, rfl, by simp [Op.operands, Call.operands], by simp only [sim_ev, Nat.reduceBEq]; first | exact Or.inl rfl | exact Or.inr ⟨_, rfl⟩⟩) ?_
            refine st_opt tok (by rfl) rfl (by simp only [sim_ev, Nat.reduceBEq]; rfl) (bq_t _) (fun hgd => by (have hgq := hgd; (try simp only [sim_bool] at hgq)); simp (disch := omega) only [hgd, sim_un, sim_load, seval, Ty.agg, tb_3, tb_9, tb_23, tb_74, hE_z0, hE_z1, hE_length]; (repeat' refine And.intro ?_ ?_) <;> first | exact Kq.here _ _ | omega | assumption | with_reducible rfl) (by first | exact Or.inl rfl | exact Or.inr ⟨_, _, _, .tmp 95, rfl, by simp [Op.operands, Call.operands], by simp only [sim_ev, Nat.reduceBEq]; first | exact Or.inl rfl | exact Or.inr ⟨_, rfl⟩⟩) ?_
            refine st_opt tok (by rfl) rfl (by simp only [sim_ev, Nat.reduceBEq]; rfl) (bq_t _) (fun hgd => by (have hgq := hgd; (try simp only [sim_bool] at hgq)); simp (disch := omega) only [hgd, sim_un, sim_indexAddr, seval, Ty.agg, tb_3, tb_9, tb_23, tb_74, hE_z0, hE_z1, hE_length]; (repeat' refine And.intro ?_ ?_) <;> first | exact Kq.here _ _ | omega | assumption | with_reducible rfl) (by first | exact Or.inl rfl | exact Or.inr ⟨_, _, _, .tmp 96, rfl, by simp [Op.operands, Call.operands], by simp only [sim_ev, Nat.reduceBEq]; first | exact Or.inl rfl | exact Or.inr ⟨_, rfl⟩⟩) ?_
            refine st_opt tok (by rfl) rfl (by simp only [sim_ev, Nat.reduceBEq]; rfl) (bq_t _) (fun hgd => by (have hgq := hgd; (try simp only [sim_bool] at hgq)); simp (disch := omega) only [hgd, sim_un, sim_fieldAddr, ↓fieldOff_eq, seval, Ty.agg, tb_3, tb_9, tb_74, hE_z0, hE_z1, hE_length]; (repeat' refine And.intro ?_ ?_) <;> first | exact Kq.here _ _ | omega | assumption | with_reducible rfl) (by first | exact Or.inl rfl | exact Or.inr ⟨_, _, _, .tmp 97, rfl, by simp [Op.operands, Call.operands], by simp only [sim_ev, Nat.reduceBEq]; first | exact Or.inl rfl | exact Or.inr ⟨_, rfl⟩⟩) ?_
            refine st_opt tok (by rfl) rfl (by simp only [sim_ev, Nat.reduceBEq]; rfl) (bq_t _) (fun hgd => by (have hgq := hgd; (try simp only [sim_bool] at hgq)); simp (disch := omega) only [hgd, sim_un, sim_load, seval, Ty.agg, tb_3, hE_z0, hE_z1, hE_length]; (repeat' refine And.intro ?_ ?_) <;> first | exact Kq.here _ _ | omega | assumption | with_reducible rfl) (by first | exact Or.inl rfl | exact Or.inr ⟨_, _, _, .tmp 98, rfl, by simp [Op.operands, Call.operands], by simp only [sim_ev, Nat.reduceBEq]; first | exact Or.inl rfl | exact Or.inr ⟨_, rfl⟩⟩) ?_
            refine st_opt tok (by rfl) rfl (by simp only [sim_ev, Nat.reduceBEq]; rfl) (bq_t _) (fun hgd => by (have hgq := hgd; (try simp only [sim_bool] at hgq)); simp (disch := omega) only [hgd, sim_un, sim_fieldAddr, ↓fieldOff_eq, seval, Ty.agg, tb_3, tb_9, tb_22, tb_23, tb_25, tb_74, hE_z0, hE_z1, hE_length]; (repeat' refine And.intro ?_ ?_) <;> first | exact Kq.here _ _ | omega | assumption | with_reducible rfl) (by first | exact Or.inl rfl | exact Or.inr ⟨_, _, _, .tmp 2, rfl, by simp [Op.operands, Call.operands], by simp only [sim_ev, Nat.reduceBEq]; first | exact Or.inl rfl | exact Or.inr ⟨_, rfl⟩⟩) ?_
            refine st_opt tok (by rfl) rfl (by simp only [sim_ev, Nat.reduceBEq]; rfl) (bq_t _) (fun hgd => by (have hgq := hgd; (try simp only [sim_bool] at hgq)); simp (disch := omega) only [hgd, sim_un, sim_load, seval, Ty.agg, tb_3, hE_z0, hE_z1, hE_length]; (repeat' refine And.intro ?_ ?_) <;> first | exact Kq.here _ _ | omega | assumption | with_reducible rfl) (by first | exact Or.inl rfl | exact Or.inr ⟨_, _, _, .tmp 100, rfl, by simp [Op.operands, Call.operands], by simp only [sim_ev, Nat.reduceBEq]; first | exact Or.inl rfl | exact Or.inr ⟨_, rfl⟩⟩) ?_
            refine st_opt tok (by rfl) rfl (by simp only [sim_ev, Nat.reduceBEq]; rfl) (bq_t _) (fun hgd => by (have hgq := hgd; (try simp only [sim_bool] at hgq)); simp (disch := omega) only [hgd, sim_un, sim_binOp, seval, Ty.agg, tb_3, hE_z0, hE_z1, hE_length]; (repeat' refine And.intro ?_ ?_) <;> first | exact Kq.here _ _ | omega | assumption | with_reducible rfl) (by first | exact Or.inl rfl | exact Or.inr ⟨_, _, _, .tmp 99, rfl, by simp [Op.operands, Call.operands], by simp only [sim_ev, Nat.reduceBEq]; first | exact Or.inl rfl | exact Or.inr ⟨_, rfl⟩⟩) ?_
            refine st_and tok (by simp only [sim_ev, Nat.reduceBEq]; rfl) (fun hgd => by simp only [sim_ev, Nat.reduceBEq, sim_un, hgd, cond_true, Bool.not_false, Bool.not_true]; rfl) ?_
            refine st tok (by rfl) (by simp (disch := omega) only [sim_move, seval, Ty.agg, hE_z0, hE_z1, hE_length]; (repeat' refine And.intro ?_ ?_) <;> first | exact Kq.here _ _ | omega | assumption | with_reducible rfl) ?_
            refine st_opt tok (by rfl) rfl (by simp only [sim_ev, Nat.reduceBEq]; rfl) (bq_t _) (fun hgd => by (have hgq := hgd; (try simp only [sim_bool] at hgq)); simp (disch := omega) only [hgd, sim_un, sim_fieldAddr, ↓fieldOff_eq, seval, Ty.agg, tb_3, tb_9, tb_22, tb_23, tb_25, tb_74, hE_z0, hE_z1, hE_length]; (repeat' refine And.intro ?_ ?_) <;> first | exact Kq.here _ _ | omega | assumption | with_reducible rfl) (by first | exact Or.inl rfl | exact Or.inr ⟨_, _, _, .tmp 2, rfl, by simp [Op.operands, Call.operands], by simp only [sim_ev, Nat.reduceBEq]; first | exact Or.inl rfl | exact Or.inr ⟨_, rfl⟩⟩) ?_
            refine st_opt tok (by rfl) rfl (by simp only [sim_ev, Nat.reduceBEq]; rfl) (bq_t _) (fun hgd => by (have hgq := hgd; (try simp only [sim_bool] at hgq)); simp (disch := omega) only [hgd, sim_un, sim_load, seval, Ty.agg, tb_3, hE_z0, hE_z1, hE_length]; (repeat' refine And.intro ?_ ?_) <;> first | exact Kq.here _ _ | omega | assumption | with_reducible rfl) (by first | exact Or.inl rfl | exact Or.inr ⟨_, _, _, .tmp 105, rfl, by simp [Op.operands, Call.operands], by simp only [sim_ev, Nat.reduceBEq]; first | exact Or.inl rfl | exact Or.inr ⟨_, rfl⟩⟩) ?_
            refine st_opt tok (by rfl) rfl (by simp only [sim_ev, Nat.reduceBEq]; rfl) (bq_t _) (fun hgd => by (have hgq := hgd; (try simp only [sim_bool] at hgq)); simp (disch := omega) only [hgd, sim_un, sim_binOp, seval, Ty.agg, tb_3, hE_z0, hE_z1, hE_length]; (repeat' refine And.intro ?_ ?_) <;> first | exact Kq.here _ _ | omega | assumption | with_reducible rfl) (by first | exact Or.inl rfl | exact Or.inr ⟨_, _, _, .tmp 106, rfl, by simp [Op.operands, Call.operands], by simp only [sim_ev, Nat.reduceBEq]; first | exact Or.inl rfl | exact Or.inr ⟨_, rfl⟩⟩) ?_
            refine st_and tok (by simp only [sim_ev, Nat.reduceBEq]; rfl) (fun hgd => by simp only [sim_ev, Nat.reduceBEq, sim_un, hgd, cond_true, Bool.not_false, Bool.not_true]; rfl) ?_
            refine SOps.nil (hK _ _ ?_)
            clear hK
            dsimp only
            refine AW.keep [2, 4, 6, 108] ?_
            simp only [keepT_cons, keepT_nil, keepO_some, keepO_none, lk_cons, lk_nil, Nat.reduceBEq, cond_true, cond_false]
            -- stop: cond (live 2:x, 4, 6:out, 108)
            refine AW.condS (by simp only [sim_ev, Nat.reduceBEq]; rfl) (fun h3 => ?_) (fun h3 => ?_)
            all_goals (try simp only [sim_bool] at h3)
            · obtain ⟨⟨h1, h2⟩, h3⟩ := h3
              have hlt : j < y.held.length := by rw [List.length_drop] at h1; omega
              have hd0 : (y.held.drop j)[0]! = y.held[j] := by rw [List.drop_eq_getElem_cons hlt]; rfl
              rw [hd0] at h2
              have hd1 : (y.held.drop j).drop 1 = y.held.drop (j + 1) := by rw [List.drop_drop]
              refine AW.skip ?_
              dsimp only
              refine AW.block ?_
              refine AW.seq ?_
              refine AW.regS tbl (by rw [hx]; kernel_rfl) (fun K hK => ?_)
              iterate 9 refine st tok (by rfl) (by simp (disch := omega) only [sim_move, seval, Ty.agg, hE_z1, hE_length, hE_t1, hE_t2, sim_fieldAddr, ↓fieldOff_eq, tb_3, tb_9, tb_22, tb_23, tb_25, tb_74, sim_load, sim_indexAddr, sim_buildSlice, sim_call, ↓newsV_eq, ↓lenV_eq, sim_assign]; (repeat' refine And.intro ?_ ?_) <;> first | exact Kq.here _ _ | omega | assumption | with_reducible rfl) ?_
              refine SOps.nil (hK _ _ ?_)
              clear hK
              dsimp only
              refine AW.keep [2, 4, 6] ?_
              simp only [keepT_cons, keepT_nil, keepO_some, keepO_none, lk_cons, lk_nil, Nat.reduceBEq, cond_true, cond_false]
              refine AW.seq ?_
              refine AW.regS tbl (by rw [hx]; kernel_rfl) (fun K hK => ?_)
              iterate 5 (first | refine st tok (by rfl) (by simp (disch := omega) only [sim_fieldAddr, ↓fieldOff_eq, seval, Ty.agg, tb_3, tb_9, tb_22, tb_23, tb_25, tb_74, hE_z1, hE_length, hE_t1, hE_t2, sim_load, sim_slice, ↓sliceV_eq, sim_store]; (repeat' refine And.intro ?_ ?_) <;> first | exact Kq.here _ _ | omega | assumption | with_reducible rfl) ?_ | refine st_n tok (by rfl) (by simp (disch := omega) only [sim_fieldAddr, ↓fieldOff_eq, seval, Ty.agg, tb_3, tb_9, tb_22, tb_23, tb_25, tb_74, hE_z1, hE_length, hE_t1, hE_t2, sim_load, sim_slice, ↓sliceV_eq, sim_store]; (repeat' refine And.intro ?_ ?_) <;> first | exact Kq.here _ _ | omega | assumption | with_reducible rfl) ?_)
              refine SOps.nil (hK _ _ ?_)
              clear hK
              dsimp only
              refine AW.keep [2, 4, 6] ?_
              simp only [keepT_cons, keepT_nil, keepO_some, keepO_none, lk_cons, lk_nil, Nat.reduceBEq, cond_true, cond_false]
              refine AW.regS tbl (by rw [hx]; kernel_rfl) (fun K hK => ?_)
              iterate 5 (first | refine st tok (by rfl) (by simp (disch := omega) only [sim_fieldAddr, ↓fieldOff_eq, seval, Ty.agg, tb_3, tb_9, tb_22, tb_23, tb_25, tb_74, hE_z1, hE_length, hE_t1, hE_t2, sim_load, sim_binOp, sim_store]; (repeat' refine And.intro ?_ ?_) <;> first | exact Kq.here _ _ | omega | assumption | with_reducible rfl) ?_ | refine st_n tok (by rfl) (by simp (disch := omega) only [sim_fieldAddr, ↓fieldOff_eq, seval, Ty.agg, tb_3, tb_9, tb_22, tb_23, tb_25, tb_74, hE_z1, hE_length, hE_t1, hE_t2, sim_load, sim_binOp, sim_store]; (repeat' refine And.intro ?_ ?_) <;> first | exact Kq.here _ _ | omega | assumption | with_reducible rfl) ?_)
              refine SOps.nil (hK _ _ ?_)
              clear hK
              dsimp only
              -- stop: round's end (live 2:x, 4, 6:out)
              rw [hd0, hd1]
              refine ⟨j + 1, ?_, ⟨hyes _ (List.getElem?_eq_getElem hlt) h2 h3, by omega⟩, by omega⟩
              have ht : y.held.take (j + 1) = y.held.take j ++ [y.held[j]] := by rw [List.take_add_one, List.getElem?_eq_getElem hlt]; rfl
              have hn : y.want + 1 + ((j + 1 : Nat) : Int) = y.want + 1 + j + 1 := by omega
              rw [ht, hn]
              apply Wk.fin (ks := [0, 2, 1]) (kl := [3]) h0 hok
              case hN => omega
              case hm => omega
              case hv => repeat first | exact TgtV.base | (refine TgtV.cons ⟨by omega, ?_, ?_⟩ ?_; (focus (simp (maxSteps := 2000000) (disch := omega) only [sim_all, ↓fieldOff_eq, ↓newsV_eq, ↓sliceV_eq, ↓lenV_eq, seval, Ty.agg, tb_all, frC, zeroC, List.cons_append, List.nil_append, List.map_append, List.map_cons, List.map_nil, sE, wksL, D.leC, D.e.injEq, E.sl.injEq, exists_eq_right, exists_eq_right', D.idsB, D.idsC, decide_eq_true_eq, List.all_cons, List.all_nil, true_or, or_true]; done)); (focus (simp (maxSteps := 2000000) (disch := omega) only [sim_all, ↓fieldOff_eq, ↓newsV_eq, ↓sliceV_eq, ↓lenV_eq, seval, Ty.agg, tb_all, frC, zeroC, List.cons_append, List.nil_append, List.map_append, List.map_cons, List.map_nil, sE, wksL, D.leC, D.e.injEq, E.sl.injEq, exists_eq_right, exists_eq_right', D.idsB, D.idsC, decide_eq_true_eq, List.all_cons, List.all_nil, true_or, or_true]; done)))
              case hc => repeat first | exact Cov.base | refine Cov.cons (by first | (left; omega) | (right; simp)) ?_
              case hl => repeat first | exact TgtL.base | (refine TgtL.cons ⟨by omega, ?_⟩ ?_; (focus (simp (maxSteps := 2000000) (disch := omega) only [sim_all, ↓fieldOff_eq, ↓newsV_eq, ↓sliceV_eq, ↓lenV_eq, seval, Ty.agg, tb_all, frC, zeroC, List.cons_append, List.nil_append, List.map_append, List.map_cons, List.map_nil, sE, wksL, D.leC, D.e.injEq, E.sl.injEq, exists_eq_right, exists_eq_right', D.idsB, D.idsC, decide_eq_true_eq, List.all_cons, List.all_nil, true_or, or_true]; done)))
              case hcl => repeat first | exact Cov.base | refine Cov.cons (by first | (left; omega) | (right; simp)) ?_
              all_goals simp (maxSteps := 2000000) (disch := omega) only [sim_all, ↓fieldOff_eq, ↓newsV_eq, ↓sliceV_eq, ↓lenV_eq, seval, Ty.agg, tb_all, frC, zeroC, List.cons_append, List.nil_append, List.map_append, List.map_cons, List.map_nil, sE, wksL, D.leC, D.e.injEq, E.sl.injEq, exists_eq_right, exists_eq_right', D.idsB, D.idsC, decide_eq_true_eq, List.all_cons, List.all_nil, true_or, or_true]
              all_goals (try omega)
            · have hj' : runLen (y.want + 1) y.held = j := hno fun g hgg ⟨h1, h2⟩ => by
                obtain ⟨hlt, hg'⟩ := List.getElem?_eq_some_iff.1 hgg
                have hd0 : (y.held.drop j)[0]! = y.held[j] := by rw [List.drop_eq_getElem_cons hlt]; rfl
                have := h3 ⟨by rw [List.length_drop]; omega, by rw [hd0, hg']; exact h1⟩
                omega
              refine AW.exit ?_
              dsimp only
              (try simp only [if_true, reduceIte, Nat.reduceEqDiff, reduceCtorEq])
              refine AW.seq ?_
              refine AW.regS tbl (by rw [hx]; kernel_rfl) (fun K hK => ?_)
              iterate 4 (first | refine st tok (by rfl) (by simp (disch := omega) only [sim_load, seval, Ty.agg, tb_3, tb_9, tb_22, tb_23, tb_25, tb_74, zeroC, sim_move, sim_build, tb_40, sim_store]; (repeat' refine And.intro ?_ ?_) <;> first | exact Kq.here _ _ | omega | assumption | with_reducible rfl) ?_ | refine st_n tok (by rfl) (by simp (disch := omega) only [sim_load, seval, Ty.agg, tb_3, tb_9, tb_22, tb_23, tb_25, tb_74, zeroC, sim_move, sim_build, tb_40, sim_store]; (repeat' refine And.intro ?_ ?_) <;> first | exact Kq.here _ _ | omega | assumption | with_reducible rfl) ?_)
              refine SOps.nil (hK _ _ ?_)
              clear hK
              dsimp only
              -- stop: ret (live 4)
              rw [hj']
              unfold gotD
              refine AW.ret ?_
              dsimp only
              simp only [RetV, resD, sim_all, ↓fieldOff_eq, ↓newsV_eq, ↓sliceV_eq, ↓lenV_eq, seval, Ty.agg, tb_all]
              refine ⟨⟨_, rfl⟩, .inl ?_⟩
              have : min j y.held.length = j := by omega
              simp [this]
        · have hg : y.gives f = (y, []) := by
            unfold LEnd.gives; rw [if_neg (fun hc => by have := c hc.1; omega)]
          rw [hg]
          refine AW.skip ?_
          dsimp only
          refine AW.seq ?_
          refine AW.regS tbl (by rw [hx]; kernel_rfl) (fun K hK => ?_)
          iterate 4 (first | refine st tok (by rfl) (by simp (disch := omega) only [sim_load, seval, Ty.agg, tb_3, tb_9, tb_22, tb_23, tb_25, tb_74, zeroC, sim_move, sim_build, tb_40, sim_store]; (repeat' refine And.intro ?_ ?_) <;> first | exact Kq.here _ _ | omega | assumption | with_reducible rfl) ?_ | refine st_n tok (by rfl) (by simp (disch := omega) only [sim_load, seval, Ty.agg, tb_3, tb_9, tb_22, tb_23, tb_25, tb_74, zeroC, sim_move, sim_build, tb_40, sim_store]; (repeat' refine And.intro ?_ ?_) <;> first | exact Kq.here _ _ | omega | assumption | with_reducible rfl) ?_)
          refine SOps.nil (hK _ _ ?_)
          clear hK
          dsimp only
          -- stop: ret (live 4)
          unfold gotD
          refine AW.ret ?_
          dsimp only
          simp only [RetV, resD, sim_all, ↓fieldOff_eq, ↓newsV_eq, ↓sliceV_eq, ↓lenV_eq, seval, Ty.agg, tb_all]
          exact ⟨⟨_, rfl⟩, .inl trivial⟩
end Go.Proofs.Ytakbadleipbngaa
