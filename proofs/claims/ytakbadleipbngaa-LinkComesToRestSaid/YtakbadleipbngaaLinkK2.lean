/-
  layer 42: hold, deliver. Conditions: none.
-/
import Derived.Test.YtakbadleipbngaaLinkJ2
set_option linter.all false
namespace Go.Proofs.Ytakbadleipbngaa
open Go.RowKit
theorem hE_g0 {l : List LHeld} {i : Nat} (h : i < l.length) : (hE l).getD (i * 2) .any = .lit (.int .i64 l[i]!.1) := by
  rw [(hE_get (List.getElem?_eq_getElem h)).1, getElem!_pos l i h]
theorem hE_g1 {l : List LHeld} {i : Nat} (h : i < l.length) : (hE l).getD (i * 2 + 1) .any = .lit (.string l[i]!.2) := by
  rw [(hE_get (List.getElem?_eq_getElem h)).2, getElem!_pos l i h]
theorem hE_z0 {l : List LHeld} (h : 0 < l.length) : (hE l).getD 0 .any = .lit (.int .i64 l[0]!.1) := hE_g0 (i := 0) h
theorem hE_z1 {l : List LHeld} (h : 0 < l.length) : (hE l).getD 1 .any = .lit (.string l[0]!.2) := hE_g1 (i := 0) h
theorem hE_t1 {l : List LHeld} : ((l.length : Int) - 1).toNat = (l.drop 1).length := by rw [List.length_drop]; omega
theorem hE_t2 {l : List LHeld} : ((hE l).drop 2).take ((l.drop 1).length * 2) = hE (l.drop 1) := by
  rw [show (hE l).drop 2 = hE (l.drop 1) from hE_drop l 1, List.take_of_length_le (by rw [hE_length]; exact Nat.le_refl _)]
theorem hE_fill (x : LEnd) (f : LFrame) (i : Nat) (hi : i ≤ x.held.length) (hlow : ∀ g ∈ x.held.take i, g.1 < f.seq) (hup : ∀ g, x.held[i]? = some g → f.seq < g.1) :
    (hE x.held).take (i * 2) ++ [.lit (.int .i64 f.seq), .lit (.string f.data)] ++ ((hE x.held).drop (i * 2)).take ((x.held.length - i) * 2) = hE (putHeld (f.seq, f.data) x.held) ∧ (putHeld (f.seq, f.data) x.held).length = i + 1 + (x.held.length - i) := by
  rw [putHeld_cut (f.seq, f.data) x.held i hi hlow hup]
  refine ⟨?_, by simp; omega⟩
  rw [hE_take, hE_drop, List.take_of_length_le (l := hE (x.held.drop i)) (by rw [hE_length, List.length_drop]; omega), hE_append]
  simp [hE]
section
variable {vs : List (Nat × List D)} {lv : List (Nat × Nat × Nat × TypeId)} {N k : Nat}
theorem h_hold (x : LEnd) (f : LFrame) (hl : x.held.length ≤ 7) (hg : Grows x.want x.held) (hkn : knownB x f.seq = false) (hk : vs.lookup k = some (endC x)) (hN : k < N) :
    HC Try.prog 39 [.pt k 0, frD f] ⟨vs, lv, N⟩ (.e (.sl 1 0 [])) ⟨(k, endC { x with held := putHeld (f.seq, f.data) x.held }) :: vs, lv, N⟩ := by
  unfold frD
  unfold endC at hk ⊢
  refine HC.of (rs := [.tmp 4]) tok Try.func39 rfl rfl (Nat.le_of_ble_eq_true rfl) rfl (fun cx hx h0 hok => ?_)
  simp only [argsT, Nat.reduceAdd, Nat.zero_add]
  refine AW.seq ?_
  refine AW.regS tbl (by rw [hx]; kernel_rfl) (fun K hK => ?_)
  iterate 2 refine st tok (by rfl) (by simp (disch := omega) only [sim_box, seval, Ty.agg, tb_3, tb_9, tb_27, hk, beq_lt0 hN, beq_lt hN, beq_gt0 hN, beq_gt hN, sim_assign, tb_22]; (repeat' refine And.intro ?_ ?_) <;> first | exact Kq.here _ _ | omega | assumption | with_reducible rfl) ?_
  refine SOps.nil (hK _ _ ?_)
  clear hK
  dsimp only
  refine AW.seq ?_
  refine AW.regS tbl (by rw [hx]; kernel_rfl) (fun K hK => ?_)
  refine st tok (by rfl) (by simp (disch := omega) only [sim_assign, seval, Ty.agg, tb_3, hk, beq_lt0 hN, beq_lt hN, beq_gt0 hN, beq_gt hN]; (repeat' refine And.intro ?_ ?_) <;> first | exact Kq.here _ _ | omega | assumption | with_reducible rfl) ?_
  refine SOps.nil (hK _ _ ?_)
  clear hK
  dsimp only
  refine AW.seq ?_
  refine AW.block ?_
  -- stop: loop (live 0:x, 3:f, 5:k)
  refine AW.loopW (fun i : Nat => [(0, .pt k 0), (3, .pt N 0), (5, .e (.lit (.int .i64 i)))]) (fun _ => ⟨(N, [.e (.lit (.int .i64 f.seq)), .e (.lit (.int .i64 f.ack)), .e (.lit (.string f.data))]) :: vs, lv, N + 1⟩) (fun i => i ≤ x.held.length ∧ ∀ g ∈ x.held.take i, g.1 < f.seq) (fun i => x.held.length - i) 0 ?_ ⟨Nat.zero_le _, by simp⟩ ?_
  · skip
    apply Wk.fin (ks := [N]) (kl := []) h0 hok
    case hN => omega
    case hm => omega
    case hv => repeat first | exact TgtV.base | (refine TgtV.cons ⟨by omega, ?_, ?_⟩ ?_; (focus (simp (maxSteps := 2000000) (disch := omega) only [sim_all, ↓fieldOff_eq, ↓newsV_eq, ↓sliceV_eq, ↓lenV_eq, seval, Ty.agg, tb_all, Int.natCast_zero, hk, beq_lt0 hN, beq_lt hN, beq_gt0 hN, beq_gt hN, wksL, D.leC, D.e.injEq, E.sl.injEq, exists_eq_right, exists_eq_right', D.idsB, D.idsC, decide_eq_true_eq, List.all_cons, List.all_nil, true_or, or_true]; done)); (focus (simp (maxSteps := 2000000) (disch := omega) only [sim_all, ↓fieldOff_eq, ↓newsV_eq, ↓sliceV_eq, ↓lenV_eq, seval, Ty.agg, tb_all, Int.natCast_zero, hk, beq_lt0 hN, beq_lt hN, beq_gt0 hN, beq_gt hN, wksL, D.leC, D.e.injEq, E.sl.injEq, exists_eq_right, exists_eq_right', D.idsB, D.idsC, decide_eq_true_eq, List.all_cons, List.all_nil, true_or, or_true]; done)))
    case hc => repeat first | exact Cov.base | refine Cov.cons (by first | (left; omega) | (right; simp)) ?_
    case hl => repeat first | exact TgtL.base | (refine TgtL.cons ⟨by omega, ?_⟩ ?_; (focus (simp (maxSteps := 2000000) (disch := omega) only [sim_all, ↓fieldOff_eq, ↓newsV_eq, ↓sliceV_eq, ↓lenV_eq, seval, Ty.agg, tb_all, Int.natCast_zero, hk, beq_lt0 hN, beq_lt hN, beq_gt0 hN, beq_gt hN, wksL, D.leC, D.e.injEq, E.sl.injEq, exists_eq_right, exists_eq_right', D.idsB, D.idsC, decide_eq_true_eq, List.all_cons, List.all_nil, true_or, or_true]; done)))
    case hcl => repeat first | exact Cov.base | refine Cov.cons (by first | (left; omega) | (right; simp)) ?_
    all_goals simp (maxSteps := 2000000) (disch := omega) only [sim_all, ↓fieldOff_eq, ↓newsV_eq, ↓sliceV_eq, ↓lenV_eq, seval, Ty.agg, tb_all, Int.natCast_zero, hk, beq_lt0 hN, beq_lt hN, beq_gt0 hN, beq_gt hN, wksL, D.leC, D.e.injEq, E.sl.injEq, exists_eq_right, exists_eq_right', D.idsB, D.idsC, decide_eq_true_eq, List.all_cons, List.all_nil, true_or, or_true]
    all_goals (try omega)
  · intro i ⟨hi, hlow⟩
    refine AW.seq ?_
    refine AW.seq ?_
    refine AW.drwS tbl [] (by kernel_rfl) (by rw [hx]; kernel_rfl) (by kernel_rfl) (fun K hK => ?_)
    iterate 8 refine st tok (by rfl) (by simp (disch := omega) only [sim_move, seval, Ty.agg, hE_g0, hE_g1, hE_length, hk, beq_lt0 hN, beq_lt hN, beq_gt0 hN, beq_gt hN, sim_nilCheck, sim_fieldAddr, ↓fieldOff_eq, tb_3, tb_9, tb_22, tb_23, tb_25, tb_74, sim_load, sim_call, ↓newsV_eq, ↓lenV_eq, sim_binOp]; (repeat' refine And.intro ?_ ?_) <;> first | exact Kq.here _ _ | omega | assumption | with_reducible rfl) ?_
    refine st_opt tok (by rfl) rfl (by simp only [sim_ev, Nat.reduceBEq]; rfl) (bq_t _) (fun hgd => by (have hgq := hgd; (try simp only [sim_bool] at hgq)); simp (disch := omega) only [hgd, sim_un, sim_move, seval, Ty.agg, hE_g0, hE_g1, hE_length, hk, beq_lt0 hN, beq_lt hN, beq_gt0 hN, beq_gt hN]; (repeat' refine And.intro ?_ ?_) <;> first | exact Kq.here _ _ | omega | assumption | with_reducible rfl) (by first | exact Or.inl rfl | exact Or.inr ⟨_, _, _, .tmp 0, rfl, by simp [Op.operands, Call.operands], by simp only [sim_ev, Nat.reduceBEq]; first | exact Or.inl rfl | exact Or.inr ⟨_, rfl⟩⟩) ?_
    refine st_opt tok (by rfl) rfl (by simp only [sim_ev, Nat.reduceBEq]; rfl) (bq_t _) (fun hgd => by (have hgq := hgd; (try simp only [sim_bool] at hgq)); simp (disch := omega) only [hgd, sim_un, sim_nilCheck, seval, Ty.agg, hE_g0, hE_g1, hE_length, hk, beq_lt0 hN, beq_lt hN, beq_gt0 hN, beq_gt hN]; (repeat' refine And.intro ?_ ?_) <;> first | exact Kq.here _ _ | omega | assumption | with_reducible rfl) (by first | exact Or.inl rfl | exact Or.inr ⟨_, _, _, .tmp 14, rfl, by simp [Op.operands, Call.operands], by simp only [sim_ev, Nat.reduceBEq]; first | exact Or.inl rfl | exact Or.inr ⟨_, rfl⟩⟩) ?_
    refine st_opt tok (by rfl) rfl (by simp only [sim_ev, Nat.reduceBEq]; rfl) (bq_t _) (fun hgd => by (have hgq := hgd; (try simp only [sim_bool] at hgq)); simp (disch := omega) only [hgd, sim_un, sim_fieldAddr, ↓fieldOff_eq, seval, Ty.agg, tb_3, tb_9, tb_22, tb_23, tb_25, tb_74, hE_g0, hE_g1, hE_length, hk, beq_lt0 hN, beq_lt hN, beq_gt0 hN, beq_gt hN]; (repeat' refine And.intro ?_ ?_) <;> first | exact Kq.here _ _ | omega | assumption | with_reducible rfl) (by first | exact Or.inl rfl | exact Or.inr ⟨_, _, _, .tmp 15, rfl, by simp [Op.operands, Call.operands], by simp only [sim_ev, Nat.reduceBEq]; first | exact Or.inl rfl | exact Or.inr ⟨_, rfl⟩⟩) ?_
    refine st_opt tok (by rfl) rfl (by simp only [sim_ev, Nat.reduceBEq]; rfl) (bq_t _) (fun hgd => by (have hgq := hgd; (try simp only [sim_bool] at hgq)); simp (disch := omega) only [hgd, sim_un, sim_load, seval, Ty.agg, tb_3, tb_9, tb_23, tb_74, hE_g0, hE_g1, hE_length, hk, beq_lt0 hN, beq_lt hN, beq_gt0 hN, beq_gt hN]; (repeat' refine And.intro ?_ ?_) <;> first | exact Kq.here _ _ | omega | assumption | with_reducible rfl) (by first | exact Or.inl rfl | exact Or.inr ⟨_, _, _, .tmp 16, rfl, by simp [Op.operands, Call.operands], by simp only [sim_ev, Nat.reduceBEq]; first | exact Or.inl rfl | exact Or.inr ⟨_, rfl⟩⟩) ?_
    refine st_opt tok (by rfl) rfl (by simp only [sim_ev, Nat.reduceBEq]; rfl) (bq_t _) (fun hgd => by (have hgq := hgd; (try simp only [sim_bool] at hgq)); simp (disch := omega) only [hgd, sim_un, sim_move, seval, Ty.agg, hE_g0, hE_g1, hE_length, hk, beq_lt0 hN, beq_lt hN, beq_gt0 hN, beq_gt hN]; (repeat' refine And.intro ?_ ?_) <;> first | exact Kq.here _ _ | omega | assumption | with_reducible rfl) (by first | exact Or.inl rfl | exact Or.inr ⟨_, _, _, .tmp 5, rfl, by simp [Op.operands, Call.operands], by simp only [sim_ev, Nat.reduceBEq]; first | exact Or.inl rfl | exact Or.inr ⟨_, rfl⟩⟩) ?_
    refine st_opt tok (by rfl) rfl (by simp only [sim_ev, Nat.reduceBEq]; rfl) (bq_t _) (fun hgd => by (have hgq := hgd; (try simp only [sim_bool] at hgq)); simp (disch := omega) only [hgd, sim_un, sim_indexAddr, seval, Ty.agg, tb_3, tb_9, tb_23, tb_74, hE_g0, hE_g1, hE_length, hk, beq_lt0 hN, beq_lt hN, beq_gt0 hN, beq_gt hN]; (repeat' refine And.intro ?_ ?_) <;> first | exact Kq.here _ _ | omega | assumption | with_reducible rfl) (by first | exact Or.inl rfl | exact Or.inr ⟨_, _, _, .tmp 17, rfl, by simp [Op.operands, Call.operands], by simp only [sim_ev, Nat.reduceBEq]; first | exact Or.inl rfl | exact Or.inr ⟨_, rfl⟩⟩) ?_
    refine st_opt tok (by rfl) rfl (by simp only [sim_ev, Nat.reduceBEq]; rfl) (bq_t _) (fun hgd => by (have hgq := hgd; (try simp only [sim_bool] at hgq)); simp (disch := omega) only [hgd, sim_un, sim_fieldAddr, ↓fieldOff_eq, seval, Ty.agg, tb_3, tb_9, tb_74, hE_g0, hE_g1, hE_length, hk, beq_lt0 hN, beq_lt hN, beq_gt0 hN, beq_gt hN]; (repeat' refine And.intro ?_ ?_) <;> first | exact Kq.here _ _ | omega | assumption | with_reducible rfl) (by first | exact Or.inl rfl | exact Or.inr ⟨_, _, _, .tmp 19, rfl, by simp [Op.operands, Call.operands], by simp only [sim_ev, Nat.reduceBEq]; first | exact Or.inl rfl | exact Or.inr ⟨_, rfl⟩⟩) ?_
    refine st_opt tok (by rfl) rfl (by simp only [sim_ev, Nat.reduceBEq]; rfl) (bq_t _) (fun hgd => by (have hgq := hgd; (try simp only [sim_bool] at hgq)); simp (disch := omega) only [hgd, sim_un, sim_load, seval, Ty.agg, tb_3, hE_g0, hE_g1, hE_length, hk, beq_lt0 hN, beq_lt hN, beq_gt0 hN, beq_gt hN]; (repeat' refine And.intro ?_ ?_) <;> first | exact Kq.here _ _ | omega | assumption | with_reducible rfl) (by first | exact Or.inl rfl | exact Or.inr ⟨_, _, _, .tmp 20, rfl, by simp [Op.operands, Call.operands], by simp only [sim_ev, Nat.reduceBEq]; first | exact Or.inl rfl | exact Or.inr ⟨_, rfl⟩⟩) ?_
    refine st_opt tok (by rfl) rfl (by simp only [sim_ev, Nat.reduceBEq]; rfl) (bq_t _) (fun hgd => by (have hgq := hgd; (try simp only [sim_bool] at hgq)); simp (disch := omega) only [hgd, sim_un, sim_fieldAddr, ↓fieldOff_eq, seval, Ty.agg, tb_3, tb_9, tb_27, hE_g0, hE_g1, hE_length, hk, beq_lt0 hN, beq_lt hN, beq_gt0 hN, beq_gt hN]; (repeat' refine And.intro ?_ ?_) <;> first | exact Kq.here _ _ | omega | assumption | with_reducible rfl) (by first | exact Or.inl rfl | exact Or.inr ⟨_, _, _, .tmp 3, rfl, by simp [Op.operands, Call.operands], by simp only [sim_ev, Nat.reduceBEq]; first | exact Or.inl rfl | exact Or.inr ⟨_, rfl⟩⟩) ?_
    refine st_opt tok (by rfl) rfl (by simp only [sim_ev, Nat.reduceBEq]; rfl) (bq_t _) (fun hgd => by (have hgq := hgd; (try simp only [sim_bool] at hgq)); simp (disch := omega) only [hgd, sim_un, sim_load, seval, Ty.agg, tb_3, hE_g0, hE_g1, hE_length, hk, beq_lt0 hN, beq_lt hN, beq_gt0 hN, beq_gt hN]; (repeat' refine And.intro ?_ ?_) <;> first | exact Kq.here _ _ | omega | assumption | with_reducible rfl) (by first | exact Or.inl rfl | exact Or.inr ⟨_, _, _, .tmp 22, rfl, by simp [Op.operands, Call.operands], by simp only [sim_ev, Nat.reduceBEq]; first | exact Or.inl rfl | exact Or.inr ⟨_, rfl⟩⟩) ?_
    refine st_opt tok (by rfl) rfl (by simp only [sim_ev, Nat.reduceBEq]; rfl) (bq_t _) (fun hgd => by (have hgq := hgd; (try simp only [sim_bool] at hgq)); simp (disch := omega) only [hgd, sim_un, sim_binOp, seval, Ty.agg, tb_3, hE_g0, hE_g1, hE_length, hk, beq_lt0 hN, beq_lt hN, beq_gt0 hN, beq_gt hN]; (repeat' refine And.intro ?_ ?_) <;> first | exact Kq.here _ _ | omega | assumption | with_reducible rfl) (by first | exact Or.inl rfl | exact Or.inr ⟨_, _, _, .tmp 21, rfl, by simp [Op.operands, Call.operands], by simp only [sim_ev, Nat.reduceBEq]; first | exact Or.inl rfl | exact Or.inr ⟨_, rfl⟩⟩) ?_
    refine st_and tok (by simp only [sim_ev, Nat.reduceBEq]; rfl) (fun hgd => by simp only [sim_ev, Nat.reduceBEq, sim_un, hgd, cond_true, Bool.not_false, Bool.not_true]; rfl) ?_
    refine SOps.nil (hK _ _ ?_)
    clear hK
    dsimp only
    refine AW.keep [0, 3, 5, 25] ?_
    simp only [keepT_cons, keepT_nil, keepO_some, keepO_none, lk_cons, lk_nil, Nat.reduceBEq, cond_true, cond_false]
    -- stop: cond (live 0:x, 3:f, 5:k, 25)
    refine AW.condS (by simp only [sim_ev, Nat.reduceBEq]; rfl) (fun h => ?_) (fun h => ?_)
    all_goals (try simp only [sim_bool] at h)
    · skip
      refine AW.skip ?_
      dsimp only
      refine AW.block ?_
      refine AW.regS tbl (by rw [hx]; kernel_rfl) (fun K hK => ?_)
      iterate 3 refine st tok (by rfl) (by simp (disch := omega) only [sim_move, seval, Ty.agg, hk, beq_lt0 hN, beq_lt hN, beq_gt0 hN, beq_gt hN, sim_binOp, tb_3, sim_assign]; (repeat' refine And.intro ?_ ?_) <;> first | exact Kq.here _ _ | omega | assumption | with_reducible rfl) ?_
      refine SOps.nil (hK _ _ ?_)
      clear hK
      dsimp only
      -- stop: round's end (live 0:x, 3:f, 5:k)
      have hlt : i < x.held.length := by omega
      refine ⟨i + 1, ?_, ⟨by omega, ?_⟩, by omega⟩
      · skip
        apply Wk.fin (ks := [N]) (kl := []) h0 hok
        case hN => omega
        case hm => omega
        case hv => repeat first | exact TgtV.base | (refine TgtV.cons ⟨by omega, ?_, ?_⟩ ?_; (focus (simp (maxSteps := 2000000) (disch := omega) only [sim_all, ↓fieldOff_eq, ↓newsV_eq, ↓sliceV_eq, ↓lenV_eq, seval, Ty.agg, tb_all, Int.natCast_add, Int.cast_ofNat_Int, hk, beq_lt0 hN, beq_lt hN, beq_gt0 hN, beq_gt hN, wksL, D.leC, D.e.injEq, E.sl.injEq, exists_eq_right, exists_eq_right', D.idsB, D.idsC, decide_eq_true_eq, List.all_cons, List.all_nil, true_or, or_true]; done)); (focus (simp (maxSteps := 2000000) (disch := omega) only [sim_all, ↓fieldOff_eq, ↓newsV_eq, ↓sliceV_eq, ↓lenV_eq, seval, Ty.agg, tb_all, Int.natCast_add, Int.cast_ofNat_Int, hk, beq_lt0 hN, beq_lt hN, beq_gt0 hN, beq_gt hN, wksL, D.leC, D.e.injEq, E.sl.injEq, exists_eq_right, exists_eq_right', D.idsB, D.idsC, decide_eq_true_eq, List.all_cons, List.all_nil, true_or, or_true]; done)))
        case hc => repeat first | exact Cov.base | refine Cov.cons (by first | (left; omega) | (right; simp)) ?_
        case hl => repeat first | exact TgtL.base | (refine TgtL.cons ⟨by omega, ?_⟩ ?_; (focus (simp (maxSteps := 2000000) (disch := omega) only [sim_all, ↓fieldOff_eq, ↓newsV_eq, ↓sliceV_eq, ↓lenV_eq, seval, Ty.agg, tb_all, Int.natCast_add, Int.cast_ofNat_Int, hk, beq_lt0 hN, beq_lt hN, beq_gt0 hN, beq_gt hN, wksL, D.leC, D.e.injEq, E.sl.injEq, exists_eq_right, exists_eq_right', D.idsB, D.idsC, decide_eq_true_eq, List.all_cons, List.all_nil, true_or, or_true]; done)))
        case hcl => repeat first | exact Cov.base | refine Cov.cons (by first | (left; omega) | (right; simp)) ?_
        all_goals simp (maxSteps := 2000000) (disch := omega) only [sim_all, ↓fieldOff_eq, ↓newsV_eq, ↓sliceV_eq, ↓lenV_eq, seval, Ty.agg, tb_all, Int.natCast_add, Int.cast_ofNat_Int, hk, beq_lt0 hN, beq_lt hN, beq_gt0 hN, beq_gt hN, wksL, D.leC, D.e.injEq, E.sl.injEq, exists_eq_right, exists_eq_right', D.idsB, D.idsC, decide_eq_true_eq, List.all_cons, List.all_nil, true_or, or_true]
        all_goals (try omega)
      · intro g hgm
        rw [List.take_add_one, List.getElem?_eq_getElem hlt] at hgm
        rcases List.mem_append.1 hgm with hgm | hgm
        · exact hlow g hgm
        · obtain rfl : g = x.held[i] := by simpa using hgm
          rw [getElem!_pos x.held i hlt] at h
          exact h.2
    · skip
      refine AW.exit ?_
      dsimp only
      (try simp only [if_true, reduceIte, Nat.reduceEqDiff, reduceCtorEq])
      refine AW.seq ?_
      refine AW.drwS tbl [] (by kernel_rfl) (by rw [hx]; kernel_rfl) (by kernel_rfl) (fun K hK => ?_)
      iterate 25 (first | refine st tok (by rfl) (by simp (disch := omega) only [sim_move, seval, Ty.agg, hE_length, hk, beq_lt0 hN, beq_lt hN, beq_gt0 hN, beq_gt hN, sim_nilCheck, sim_fieldAddr, ↓fieldOff_eq, tb_3, tb_9, tb_22, tb_23, tb_25, tb_74, sim_load, sim_slice, ↓sliceV_eq, tb_27, sim_build, sim_buildSlice, sim_call, ↓newsV_eq, ↓lenV_eq, sim_store]; (repeat' refine And.intro ?_ ?_) <;> first | exact Kq.here _ _ | omega | assumption | with_reducible rfl) ?_ | refine st_n tok (by rfl) (by simp (disch := omega) only [sim_move, seval, Ty.agg, hE_length, hk, beq_lt0 hN, beq_lt hN, beq_gt0 hN, beq_gt hN, sim_nilCheck, sim_fieldAddr, ↓fieldOff_eq, tb_3, tb_9, tb_22, tb_23, tb_25, tb_74, sim_load, sim_slice, ↓sliceV_eq, tb_27, sim_build, sim_buildSlice, sim_call, ↓newsV_eq, ↓lenV_eq, sim_store]; (repeat' refine And.intro ?_ ?_) <;> first | exact Kq.here _ _ | omega | assumption | with_reducible rfl) ?_)
      refine SOps.nil (hK _ _ ?_)
      clear hK
      dsimp only
      refine AW.keep [] ?_
      simp only [keepT_cons, keepT_nil, keepO_some, keepO_none, lk_cons, lk_nil, Nat.reduceBEq, cond_true, cond_false]
      refine AW.seq ?_
      refine AW.regS tbl (by rw [hx]; kernel_rfl) (fun K hK => ?_)
      refine st tok (by rfl) (by simp (disch := omega) only [sim_assign, seval, Ty.agg, tb_9, tb_22, hE_length, hk, beq_lt0 hN, beq_lt hN, beq_gt0 hN, beq_gt hN]; (repeat' refine And.intro ?_ ?_) <;> first | exact Kq.here _ _ | omega | assumption | with_reducible rfl) ?_
      refine SOps.nil (hK _ _ ?_)
      clear hK
      dsimp only
      -- stop: ret (live 4)
      have hup : ∀ g, x.held[i]? = some g → f.seq < g.1 := by
        intro g hgi
        obtain ⟨hlt, hgi'⟩ := List.getElem?_eq_some_iff.1 hgi
        have h1 := h (by omega)
        rw [getElem!_pos x.held i hlt, hgi'] at h1
        have h2 : g.1 ≠ f.seq := by
          intro e
          have : knownB x f.seq = true := List.any_eq_true.2 ⟨g, by rw [← hgi']; exact List.getElem_mem hlt, by simp [e]⟩
          rw [hkn] at this; cases this
        omega
      obtain ⟨e1, e2⟩ := hE_fill x f i hi hlow hup
      have hn : ((x.held.length : Int) - i).toNat = x.held.length - i := by omega
      rw [hn, e1, ← e2]
      refine AW.ret ?_
      dsimp only
      refine retH1 (by simp only [sim_ev, Nat.reduceBEq]; rfl)  ?e ?w
      case e => ((try simp only [sim_ex]); all_goals (rfl))
      (try simp only [sim_ex])
      apply Wk.fin (ks := [k]) (kl := []) h0 hok
      case hN => omega
      case hm => omega
      case hv => repeat first | exact TgtV.base | (refine TgtV.cons ⟨by omega, ?_, ?_⟩ ?_; (focus (simp (maxSteps := 2000000) (disch := omega) only [sim_all, ↓fieldOff_eq, ↓newsV_eq, ↓sliceV_eq, ↓lenV_eq, seval, Ty.agg, tb_all, hk, beq_lt0 hN, beq_lt hN, beq_gt0 hN, beq_gt hN, wksL, D.leC, D.e.injEq, E.sl.injEq, exists_eq_right, exists_eq_right', D.idsB, D.idsC, decide_eq_true_eq, List.all_cons, List.all_nil, true_or, or_true]; done)); (focus (simp (maxSteps := 2000000) (disch := omega) only [sim_all, ↓fieldOff_eq, ↓newsV_eq, ↓sliceV_eq, ↓lenV_eq, seval, Ty.agg, tb_all, hk, beq_lt0 hN, beq_lt hN, beq_gt0 hN, beq_gt hN, wksL, D.leC, D.e.injEq, E.sl.injEq, exists_eq_right, exists_eq_right', D.idsB, D.idsC, decide_eq_true_eq, List.all_cons, List.all_nil, true_or, or_true]; done)))
      case hc => repeat first | exact Cov.base | refine Cov.cons (by first | (left; omega) | (right; simp)) ?_
      case hl => repeat first | exact TgtL.base | (refine TgtL.cons ⟨by omega, ?_⟩ ?_; (focus (simp (maxSteps := 2000000) (disch := omega) only [sim_all, ↓fieldOff_eq, ↓newsV_eq, ↓sliceV_eq, ↓lenV_eq, seval, Ty.agg, tb_all, hk, beq_lt0 hN, beq_lt hN, beq_gt0 hN, beq_gt hN, wksL, D.leC, D.e.injEq, E.sl.injEq, exists_eq_right, exists_eq_right', D.idsB, D.idsC, decide_eq_true_eq, List.all_cons, List.all_nil, true_or, or_true]; done)))
      case hcl => repeat first | exact Cov.base | refine Cov.cons (by first | (left; omega) | (right; simp)) ?_
      all_goals simp (maxSteps := 2000000) (disch := omega) only [sim_all, ↓fieldOff_eq, ↓newsV_eq, ↓sliceV_eq, ↓lenV_eq, seval, Ty.agg, tb_all, hk, beq_lt0 hN, beq_lt hN, beq_gt0 hN, beq_gt hN, wksL, D.leC, D.e.injEq, E.sl.injEq, exists_eq_right, exists_eq_right', D.idsB, D.idsC, decide_eq_true_eq, List.all_cons, List.all_nil, true_or, or_true]
      all_goals (try omega)
/-- The texts at the head that follow what is wanted. -/
theorem runLen_at {n : Int} {l : List LHeld} {j : Nat} (hr : runLen n l = j + runLen (n + j) (l.drop j)) : j ≤ l.length ∧ (∀ g, l[j]? = some g → g.1 = n + j → n + j < 1099511627776 → runLen n l = j + 1 + runLen (n + (j + 1 : Nat)) (l.drop (j + 1))) ∧
    ((∀ g, l[j]? = some g → ¬ (g.1 = n + j ∧ n + j < 1099511627776)) → runLen n l = j) := by
  have hle := runLen_le n l
  refine ⟨by omega, fun g hg h1 h2 => ?_, fun h => ?_⟩
  · obtain ⟨hlt, rfl⟩ := List.getElem?_eq_some_iff.1 hg
    rw [hr, List.drop_eq_getElem_cons hlt, runLen, if_pos ⟨h1, h2⟩, show n + ((j + 1 : Nat) : Int) = n + j + 1 by omega]
    exact (by omega : ∀ a b : Nat, b + (a + 1) = b + 1 + a) _ _
  · rw [hr]
    rcases Nat.lt_or_ge j l.length with hlt | hge
    · rw [List.drop_eq_getElem_cons hlt, runLen, if_neg (h _ (List.getElem?_eq_getElem hlt))]; rfl
    · rw [List.drop_of_length_le hge]; rfl
theorem h_deliver (x : LEnd) (f : LFrame) (hl : x.held.length ≤ 7) (hw : 1 ≤ x.want ∧ x.want < 1099511627776) (hk : vs.lookup k = some (endC x)) (hN : k < N) :
    HC Try.prog 41 [.pt k 0, frD f] ⟨vs, lv, N⟩ (.e (.sl 1 (runLen (x.want + 1) x.held + 1) ((f.data :: (x.held.take (runLen (x.want + 1) x.held)).map (·.2)).map sE)))
      ⟨(k, endC { x with want := x.want + 1 + runLen (x.want + 1) x.held, held := x.held.drop (runLen (x.want + 1) x.held) }) :: vs, lv, N⟩ := by
  unfold frD
  unfold endC at hk ⊢
  refine HC.of (rs := [.tmp 4]) tok Try.func41 rfl rfl (Nat.le_of_ble_eq_true rfl) rfl (fun cx hx h0 hok => ?_)
  simp only [argsT, Nat.reduceAdd, Nat.zero_add]
  refine AW.seq ?_
  refine AW.regS tbl (by rw [hx]; kernel_rfl) (fun K hK => ?_)
  iterate 2 refine st tok (by rfl) (by simp (disch := omega) only [sim_box, seval, Ty.agg, tb_3, tb_9, tb_27, hk, beq_lt0 hN, beq_lt hN, beq_gt0 hN, beq_gt hN, sim_assign, tb_22]; (repeat' refine And.intro ?_ ?_) <;> first | exact Kq.here _ _ | omega | assumption | with_reducible rfl) ?_
  refine SOps.nil (hK _ _ ?_)
  clear hK
  dsimp only
  refine AW.seq ?_
  refine AW.regS tbl (by rw [hx]; kernel_rfl) (fun K hK => ?_)
  iterate 4 refine st tok (by rfl) (by simp (disch := omega) only [sim_fieldAddr, ↓fieldOff_eq, seval, Ty.agg, tb_3, tb_9, tb_27, hk, beq_lt0 hN, beq_lt hN, beq_gt0 hN, beq_gt hN, sim_load, sim_buildSlice, tb_22, sim_assign]; (repeat' refine And.intro ?_ ?_) <;> first | exact Kq.here _ _ | omega | assumption | with_reducible rfl) ?_
  refine SOps.nil (hK _ _ ?_)
  clear hK
  dsimp only
  refine AW.seq ?_
  refine AW.regS tbl (by rw [hx]; kernel_rfl) (fun K hK => ?_)
  iterate 8 (first | refine st tok (by rfl) (by simp (disch := omega) only [sim_move, seval, Ty.agg, hk, beq_lt0 hN, beq_lt hN, beq_gt0 hN, beq_gt hN, sim_nilCheck, sim_fieldAddr, ↓fieldOff_eq, tb_3, tb_9, tb_22, tb_23, tb_25, tb_74, sim_load, sim_binOp, sim_store]; (repeat' refine And.intro ?_ ?_) <;> first | exact Kq.here _ _ | omega | assumption | with_reducible rfl) ?_ | refine st_n tok (by rfl) (by simp (disch := omega) only [sim_move, seval, Ty.agg, hk, beq_lt0 hN, beq_lt hN, beq_gt0 hN, beq_gt hN, sim_nilCheck, sim_fieldAddr, ↓fieldOff_eq, tb_3, tb_9, tb_22, tb_23, tb_25, tb_74, sim_load, sim_binOp, sim_store]; (repeat' refine And.intro ?_ ?_) <;> first | exact Kq.here _ _ | omega | assumption | with_reducible rfl) ?_)
  refine SOps.nil (hK _ _ ?_)
  clear hK
  dsimp only
  refine AW.keep [0, 5] ?_
  simp only [keepT_cons, keepT_nil, keepO_some, keepO_none, lk_cons, lk_nil, Nat.reduceBEq, cond_true, cond_false]
  refine AW.seq ?_
  refine AW.block ?_
  -- stop: loop (live 0:x, 5:out)
  refine AW.loopW (fun j : Nat => [(0, .pt k 0), (5, .own (N + 1 + 1) 1 (j + 1) ((f.data :: (x.held.take j).map (·.2)).map sE))]) (fun j => ⟨(k, [.e (.lit (.int .i64 x.base)), .e (.sl 1 x.queue.length (x.queue.map sE)), .e (.lit (.int .i64 (x.want + 1 + j))), .e (.sl 2 (x.held.drop j).length (hE (x.held.drop j)))]) :: (N, [.e (.lit (.int .i64 f.seq)), .e (.lit (.int .i64 f.ack)), .e (.lit (.string f.data))]) :: vs, (N + 1 + 1, j + 1, 1, 9) :: lv, N + 1 + 1 + 1⟩) (fun j => runLen (x.want + 1) x.held = j + runLen (x.want + 1 + j) (x.held.drop j) ∧ x.want + 1 + j ≤ 1099511627776) (fun j => x.held.length - j) 0 ?_ ⟨by simp, by omega⟩ ?_
  · skip
    apply Wk.fin (ks := [k, N]) (kl := [N + 1 + 1]) h0 hok
    case hN => omega
    case hm => omega
    case hv => repeat first | exact TgtV.base | (refine TgtV.cons ⟨by omega, ?_, ?_⟩ ?_; (focus (simp (maxSteps := 2000000) (disch := omega) only [sim_all, ↓fieldOff_eq, ↓newsV_eq, ↓sliceV_eq, ↓lenV_eq, seval, Ty.agg, tb_all, Int.natCast_zero, Int.add_zero, List.drop_zero, List.take_zero, List.map_nil, List.map_cons, sE, hk, beq_lt0 hN, beq_lt hN, beq_gt0 hN, beq_gt hN, wksL, D.leC, D.e.injEq, E.sl.injEq, exists_eq_right, exists_eq_right', D.idsB, D.idsC, decide_eq_true_eq, List.all_cons, List.all_nil, true_or, or_true]; done)); (focus (simp (maxSteps := 2000000) (disch := omega) only [sim_all, ↓fieldOff_eq, ↓newsV_eq, ↓sliceV_eq, ↓lenV_eq, seval, Ty.agg, tb_all, Int.natCast_zero, Int.add_zero, List.drop_zero, List.take_zero, List.map_nil, List.map_cons, sE, hk, beq_lt0 hN, beq_lt hN, beq_gt0 hN, beq_gt hN, wksL, D.leC, D.e.injEq, E.sl.injEq, exists_eq_right, exists_eq_right', D.idsB, D.idsC, decide_eq_true_eq, List.all_cons, List.all_nil, true_or, or_true]; done)))
    case hc => repeat first | exact Cov.base | refine Cov.cons (by first | (left; omega) | (right; simp)) ?_
    case hl => repeat first | exact TgtL.base | (refine TgtL.cons ⟨by omega, ?_⟩ ?_; (focus (simp (maxSteps := 2000000) (disch := omega) only [sim_all, ↓fieldOff_eq, ↓newsV_eq, ↓sliceV_eq, ↓lenV_eq, seval, Ty.agg, tb_all, Int.natCast_zero, Int.add_zero, List.drop_zero, List.take_zero, List.map_nil, List.map_cons, sE, hk, beq_lt0 hN, beq_lt hN, beq_gt0 hN, beq_gt hN, wksL, D.leC, D.e.injEq, E.sl.injEq, exists_eq_right, exists_eq_right', D.idsB, D.idsC, decide_eq_true_eq, List.all_cons, List.all_nil, true_or, or_true]; done)))
    case hcl => repeat first | exact Cov.base | refine Cov.cons (by first | (left; omega) | (right; simp)) ?_
    all_goals simp (maxSteps := 2000000) (disch := omega) only [sim_all, ↓fieldOff_eq, ↓newsV_eq, ↓sliceV_eq, ↓lenV_eq, seval, Ty.agg, tb_all, Int.natCast_zero, Int.add_zero, List.drop_zero, List.take_zero, List.map_nil, List.map_cons, sE, hk, beq_lt0 hN, beq_lt hN, beq_gt0 hN, beq_gt hN, wksL, D.leC, D.e.injEq, E.sl.injEq, exists_eq_right, exists_eq_right', D.idsB, D.idsC, decide_eq_true_eq, List.all_cons, List.all_nil, true_or, or_true]
    all_goals (try omega)
  · intro j ⟨hr, hj⟩
    obtain ⟨hjl, hyes, hno⟩ := runLen_at hr
    refine AW.seq ?_
    refine AW.seq ?_
    refine AW.drwS tbl [] (by kernel_rfl) (by rw [hx]; kernel_rfl) (by kernel_rfl) (fun K hK => ?_)
    iterate 7 refine st tok (by rfl) (by simp (disch := omega) only [sim_move, seval, Ty.agg, hE_z0, hE_z1, hE_length, hk, beq_lt0 hN, beq_lt hN, beq_gt0 hN, beq_gt hN, sim_nilCheck, sim_fieldAddr, ↓fieldOff_eq, tb_3, tb_9, tb_22, tb_23, tb_25, tb_74, sim_load, sim_call, ↓newsV_eq, ↓lenV_eq, sim_binOp]; (repeat' refine And.intro ?_ ?_) <;> first | exact Kq.here _ _ | omega | assumption | with_reducible rfl) ?_
    refine st_opt tok (by rfl) rfl (by simp only [sim_ev, Nat.reduceBEq]; rfl) (bq_t _) (fun hgd => by (have hgq := hgd; (try simp only [sim_bool] at hgq)); simp (disch := omega) only [hgd, sim_un, sim_move, seval, Ty.agg, hE_z0, hE_z1, hE_length, hk, beq_lt0 hN, beq_lt hN, beq_gt0 hN, beq_gt hN]; (repeat' refine And.intro ?_ ?_) <;> first | exact Kq.here _ _ | omega | assumption | with_reducible rfl) (by first | exact Or.inl rfl | exact Or.inr ⟨_, _, _, .tmp 0, rfl, by simp [Op.operands, Call.operands], by simp only [sim_ev, Nat.reduceBEq]; first | exact Or.inl rfl | exact Or.inr ⟨_, rfl⟩⟩) ?_
    refine st_opt tok (by rfl) rfl (by simp only [sim_ev, Nat.reduceBEq]; rfl) (bq_t _) (fun hgd => by (have hgq := hgd; (try simp only [sim_bool] at hgq)); simp (disch := omega) only [hgd, sim_un, sim_nilCheck, seval, Ty.agg, hE_z0, hE_z1, hE_length, hk, beq_lt0 hN, beq_lt hN, beq_gt0 hN, beq_gt hN]; (repeat' refine And.intro ?_ ?_) <;> first | exact Kq.here _ _ | omega | assumption | with_reducible rfl) (by first | exact Or.inl rfl | exact Or.inr ⟨_, _, _, .tmp 23, rfl, by simp [Op.operands, Call.operands], by simp only [sim_ev, Nat.reduceBEq]; first | exact Or.inl rfl | exact Or.inr ⟨_, rfl⟩⟩) ?_
    refine st_opt tok (by rfl) rfl (by simp only [sim_ev, Nat.reduceBEq]; rfl) (bq_t _) (fun hgd => by (have hgq := hgd; (try simp only [sim_bool] at hgq)); simp (disch := omega) only [hgd, sim_un, sim_fieldAddr, ↓fieldOff_eq, seval, Ty.agg, tb_3, tb_9, tb_22, tb_23, tb_25, tb_74, hE_z0, hE_z1, hE_length, hk, beq_lt0 hN, beq_lt hN, beq_gt0 hN, beq_gt hN]; (repeat' refine And.intro ?_ ?_) <;> first | exact Kq.here _ _ | omega | assumption | with_reducible rfl) (by first | exact Or.inl rfl | exact Or.inr ⟨_, _, _, .tmp 24, rfl, by simp [Op.operands, Call.operands], by simp only [sim_ev, Nat.reduceBEq]; first | exact Or.inl rfl | exact Or.inr ⟨_, rfl⟩⟩) ?_
    refine st_opt tok (by rfl) rfl (by simp only [sim_ev, Nat.reduceBEq]; rfl) (bq_t _) (fun hgd => by (have hgq := hgd; (try simp only [sim_bool] at hgq)); simp (disch := omega) only [hgd, sim_un, sim_load, seval, Ty.agg, tb_3, tb_9, tb_23, tb_74, hE_z0, hE_z1, hE_length, hk, beq_lt0 hN, beq_lt hN, beq_gt0 hN, beq_gt hN]; (repeat' refine And.intro ?_ ?_) <;> first | exact Kq.here _ _ | omega | assumption | with_reducible rfl) (by first | exact Or.inl rfl | exact Or.inr ⟨_, _, _, .tmp 25, rfl, by simp [Op.operands, Call.operands], by simp only [sim_ev, Nat.reduceBEq]; first | exact Or.inl rfl | exact Or.inr ⟨_, rfl⟩⟩) ?_
    refine st_opt tok (by rfl) rfl (by simp only [sim_ev, Nat.reduceBEq]; rfl) (bq_t _) (fun hgd => by (have hgq := hgd; (try simp only [sim_bool] at hgq)); simp (disch := omega) only [hgd, sim_un, sim_indexAddr, seval, Ty.agg, tb_3, tb_9, tb_23, tb_74, hE_z0, hE_z1, hE_length, hk, beq_lt0 hN, beq_lt hN, beq_gt0 hN, beq_gt hN]; (repeat' refine And.intro ?_ ?_) <;> first | exact Kq.here _ _ | omega | assumption | with_reducible rfl) (by first | exact Or.inl rfl | exact Or.inr ⟨_, _, _, .tmp 26, rfl, by simp [Op.operands, Call.operands], by simp only [sim_ev, Nat.reduceBEq]; first | exact Or.inl rfl | exact Or.inr ⟨_, rfl⟩⟩) ?_
    refine st_opt tok (by rfl) rfl (by simp only [sim_ev, Nat.reduceBEq]; rfl) (bq_t _) (fun hgd => by (have hgq := hgd; (try simp only [sim_bool] at hgq)); simp (disch := omega) only [hgd, sim_un, sim_fieldAddr, ↓fieldOff_eq, seval, Ty.agg, tb_3, tb_9, tb_74, hE_z0, hE_z1, hE_length, hk, beq_lt0 hN, beq_lt hN, beq_gt0 hN, beq_gt hN]; (repeat' refine And.intro ?_ ?_) <;> first | exact Kq.here _ _ | omega | assumption | with_reducible rfl) (by first | exact Or.inl rfl | exact Or.inr ⟨_, _, _, .tmp 27, rfl, by simp [Op.operands, Call.operands], by simp only [sim_ev, Nat.reduceBEq]; first | exact Or.inl rfl | exact Or.inr ⟨_, rfl⟩⟩) ?_
    refine st_opt tok (by rfl) rfl (by simp only [sim_ev, Nat.reduceBEq]; rfl) (bq_t _) (fun hgd => by (have hgq := hgd; (try simp only [sim_bool] at hgq)); simp (disch := omega) only [hgd, sim_un, sim_load, seval, Ty.agg, tb_3, hE_z0, hE_z1, hE_length, hk, beq_lt0 hN, beq_lt hN, beq_gt0 hN, beq_gt hN]; (repeat' refine And.intro ?_ ?_) <;> first | exact Kq.here _ _ | omega | assumption | with_reducible rfl) (by first | exact Or.inl rfl | exact Or.inr ⟨_, _, _, .tmp 28, rfl, by simp [Op.operands, Call.operands], by simp only [sim_ev, Nat.reduceBEq]; first | exact Or.inl rfl | exact Or.inr ⟨_, rfl⟩⟩) ?_
    refine st_opt tok (by rfl) rfl (by simp only [sim_ev, Nat.reduceBEq]; rfl) (bq_t _) (fun hgd => by (have hgq := hgd; (try simp only [sim_bool] at hgq)); simp (disch := omega) only [hgd, sim_un, sim_move, seval, Ty.agg, hE_z0, hE_z1, hE_length, hk, beq_lt0 hN, beq_lt hN, beq_gt0 hN, beq_gt hN]; (repeat' refine And.intro ?_ ?_) <;> first | exact Kq.here _ _ | omega | assumption | with_reducible rfl) (by first | exact Or.inl rfl | exact Or.inr ⟨_, _, _, .tmp 0, rfl, by simp [Op.operands, Call.operands], by simp only [sim_ev, Nat.reduceBEq]; first | exact Or.inl rfl | exact Or.inr ⟨_, rfl⟩⟩) ?_
    refine st_opt tok (by rfl) rfl (by simp only [sim_ev, Nat.reduceBEq]; rfl) (bq_t _) (fun hgd => by (have hgq := hgd; (try simp only [sim_bool] at hgq)); simp (disch := omega) only [hgd, sim_un, sim_nilCheck, seval, Ty.agg, hE_z0, hE_z1, hE_length, hk, beq_lt0 hN, beq_lt hN, beq_gt0 hN, beq_gt hN]; (repeat' refine And.intro ?_ ?_) <;> first | exact Kq.here _ _ | omega | assumption | with_reducible rfl) (by first | exact Or.inl rfl | exact Or.inr ⟨_, _, _, .tmp 30, rfl, by simp [Op.operands, Call.operands], by simp only [sim_ev, Nat.reduceBEq]; first | exact Or.inl rfl | exact Or.inr ⟨_, rfl⟩⟩) ?_
    refine st_opt tok (by rfl) rfl (by simp only [sim_ev, Nat.reduceBEq]; rfl) (bq_t _) (fun hgd => by (have hgq := hgd; (try simp only [sim_bool] at hgq)); simp (disch := omega) only [hgd, sim_un, sim_fieldAddr, ↓fieldOff_eq, seval, Ty.agg, tb_3, tb_9, tb_22, tb_23, tb_25, tb_74, hE_z0, hE_z1, hE_length, hk, beq_lt0 hN, beq_lt hN, beq_gt0 hN, beq_gt hN]; (repeat' refine And.intro ?_ ?_) <;> first | exact Kq.here _ _ | omega | assumption | with_reducible rfl) (by first | exact Or.inl rfl | exact Or.inr ⟨_, _, _, .tmp 31, rfl, by simp [Op.operands, Call.operands], by simp only [sim_ev, Nat.reduceBEq]; first | exact Or.inl rfl | exact Or.inr ⟨_, rfl⟩⟩) ?_
    refine st_opt tok (by rfl) rfl (by simp only [sim_ev, Nat.reduceBEq]; rfl) (bq_t _) (fun hgd => by (have hgq := hgd; (try simp only [sim_bool] at hgq)); simp (disch := omega) only [hgd, sim_un, sim_load, seval, Ty.agg, tb_3, hE_z0, hE_z1, hE_length, hk, beq_lt0 hN, beq_lt hN, beq_gt0 hN, beq_gt hN]; (repeat' refine And.intro ?_ ?_) <;> first | exact Kq.here _ _ | omega | assumption | with_reducible rfl) (by first | exact Or.inl rfl | exact Or.inr ⟨_, _, _, .tmp 32, rfl, by simp [Op.operands, Call.operands], by simp only [sim_ev, Nat.reduceBEq]; first | exact Or.inl rfl | exact Or.inr ⟨_, rfl⟩⟩) ?_
    refine st_opt tok (by rfl) rfl (by simp only [sim_ev, Nat.reduceBEq]; rfl) (bq_t _) (fun hgd => by (have hgq := hgd; (try simp only [sim_bool] at hgq)); simp (disch := omega) only [hgd, sim_un, sim_binOp, seval, Ty.agg, tb_3, hE_z0, hE_z1, hE_length, hk, beq_lt0 hN, beq_lt hN, beq_gt0 hN, beq_gt hN]; (repeat' refine And.intro ?_ ?_) <;> first | exact Kq.here _ _ | omega | assumption | with_reducible rfl) (by first | exact Or.inl rfl | exact Or.inr ⟨_, _, _, .tmp 29, rfl, by simp [Op.operands, Call.operands], by simp only [sim_ev, Nat.reduceBEq]; first | exact Or.inl rfl | exact Or.inr ⟨_, rfl⟩⟩) ?_
    refine st_and tok (by simp only [sim_ev, Nat.reduceBEq]; rfl) (fun hgd => by simp only [sim_ev, Nat.reduceBEq, sim_un, hgd, cond_true, Bool.not_false, Bool.not_true]; rfl) ?_
    refine st tok (by rfl) (by simp (disch := omega) only [sim_move, seval, Ty.agg, hE_z0, hE_z1, hE_length, hk, beq_lt0 hN, beq_lt hN, beq_gt0 hN, beq_gt hN]; (repeat' refine And.intro ?_ ?_) <;> first | exact Kq.here _ _ | omega | assumption | with_reducible rfl) ?_
    refine st_opt tok (by rfl) rfl (by simp only [sim_ev, Nat.reduceBEq]; rfl) (bq_t _) (fun hgd => by (have hgq := hgd; (try simp only [sim_bool] at hgq)); simp (disch := omega) only [hgd, sim_un, sim_move, seval, Ty.agg, hE_z0, hE_z1, hE_length, hk, beq_lt0 hN, beq_lt hN, beq_gt0 hN, beq_gt hN]; (repeat' refine And.intro ?_ ?_) <;> first | exact Kq.here _ _ | omega | assumption | with_reducible rfl) (by first | exact Or.inl rfl | exact Or.inr ⟨_, _, _, .tmp 0, rfl, by simp [Op.operands, Call.operands], by simp only [sim_ev, Nat.reduceBEq]; first | exact Or.inl rfl | exact Or.inr ⟨_, rfl⟩⟩) ?_
    refine st_opt tok (by rfl) rfl (by simp only [sim_ev, Nat.reduceBEq]; rfl) (bq_t _) (fun hgd => by (have hgq := hgd; (try simp only [sim_bool] at hgq)); simp (disch := omega) only [hgd, sim_un, sim_nilCheck, seval, Ty.agg, hE_z0, hE_z1, hE_length, hk, beq_lt0 hN, beq_lt hN, beq_gt0 hN, beq_gt hN]; (repeat' refine And.intro ?_ ?_) <;> first | exact Kq.here _ _ | omega | assumption | with_reducible rfl) (by first | exact Or.inl rfl | exact Or.inr ⟨_, _, _, .tmp 37, rfl, by simp [Op.operands, Call.operands], by simp only [sim_ev, Nat.reduceBEq]; first | exact Or.inl rfl | exact Or.inr ⟨_, rfl⟩⟩) ?_
    refine st_opt tok (by rfl) rfl (by simp only [sim_ev, Nat.reduceBEq]; rfl) (bq_t _) (fun hgd => by (have hgq := hgd; (try simp only [sim_bool] at hgq)); simp (disch := omega) only [hgd, sim_un, sim_fieldAddr, ↓fieldOff_eq, seval, Ty.agg, tb_3, tb_9, tb_22, tb_23, tb_25, tb_74, hE_z0, hE_z1, hE_length, hk, beq_lt0 hN, beq_lt hN, beq_gt0 hN, beq_gt hN]; (repeat' refine And.intro ?_ ?_) <;> first | exact Kq.here _ _ | omega | assumption | with_reducible rfl) (by first | exact Or.inl rfl | exact Or.inr ⟨_, _, _, .tmp 38, rfl, by simp [Op.operands, Call.operands], by simp only [sim_ev, Nat.reduceBEq]; first | exact Or.inl rfl | exact Or.inr ⟨_, rfl⟩⟩) ?_
    refine st_opt tok (by rfl) rfl (by simp only [sim_ev, Nat.reduceBEq]; rfl) (bq_t _) (fun hgd => by (have hgq := hgd; (try simp only [sim_bool] at hgq)); simp (disch := omega) only [hgd, sim_un, sim_load, seval, Ty.agg, tb_3, hE_z0, hE_z1, hE_length, hk, beq_lt0 hN, beq_lt hN, beq_gt0 hN, beq_gt hN]; (repeat' refine And.intro ?_ ?_) <;> first | exact Kq.here _ _ | omega | assumption | with_reducible rfl) (by first | exact Or.inl rfl | exact Or.inr ⟨_, _, _, .tmp 39, rfl, by simp [Op.operands, Call.operands], by simp only [sim_ev, Nat.reduceBEq]; first | exact Or.inl rfl | exact Or.inr ⟨_, rfl⟩⟩) ?_
    refine st_opt tok (by rfl) rfl (by simp only [sim_ev, Nat.reduceBEq]; rfl) (bq_t _) (fun hgd => by (have hgq := hgd; (try simp only [sim_bool] at hgq)); simp (disch := omega) only [hgd, sim_un, sim_binOp, seval, Ty.agg, tb_3, hE_z0, hE_z1, hE_length, hk, beq_lt0 hN, beq_lt hN, beq_gt0 hN, beq_gt hN]; (repeat' refine And.intro ?_ ?_) <;> first | exact Kq.here _ _ | omega | assumption | with_reducible rfl) (by first | exact Or.inl rfl | exact Or.inr ⟨_, _, _, .tmp 40, rfl, by simp [Op.operands, Call.operands], by simp only [sim_ev, Nat.reduceBEq]; first | exact Or.inl rfl | exact Or.inr ⟨_, rfl⟩⟩) ?_
    refine st_and tok (by simp only [sim_ev, Nat.reduceBEq]; rfl) (fun hgd => by simp only [sim_ev, Nat.reduceBEq, sim_un, hgd, cond_true, Bool.not_false, Bool.not_true]; rfl) ?_
    refine SOps.nil (hK _ _ ?_)
    clear hK
    dsimp only
    refine AW.keep [0, 5, 42] ?_
    simp only [keepT_cons, keepT_nil, keepO_some, keepO_none, lk_cons, lk_nil, Nat.reduceBEq, cond_true, cond_false]
    -- stop: cond (live 0:x, 5:out, 42)
    refine AW.condS (by simp only [sim_ev, Nat.reduceBEq]; rfl) (fun h => ?_) (fun h => ?_)
    all_goals (try simp only [sim_bool] at h)
    · obtain ⟨⟨h1, h2⟩, h3⟩ := h
      have hlt : j < x.held.length := by rw [List.length_drop] at h1; omega
      have hd0 : (x.held.drop j)[0]! = x.held[j] := by rw [List.drop_eq_getElem_cons hlt]; rfl
      rw [hd0] at h2
      have hd1 : (x.held.drop j).drop 1 = x.held.drop (j + 1) := by rw [List.drop_drop]
      refine AW.skip ?_
      dsimp only
      refine AW.block ?_
      refine AW.seq ?_
      refine AW.regS tbl (by rw [hx]; kernel_rfl) (fun K hK => ?_)
      iterate 11 refine st tok (by rfl) (by simp (disch := omega) only [sim_move, seval, Ty.agg, hE_z1, hE_length, hE_t1, hE_t2, hk, beq_lt0 hN, beq_lt hN, beq_gt0 hN, beq_gt hN, sim_nilCheck, sim_fieldAddr, ↓fieldOff_eq, tb_3, tb_9, tb_22, tb_23, tb_25, tb_74, sim_load, sim_indexAddr, sim_buildSlice, sim_call, ↓newsV_eq, ↓lenV_eq, sim_assign]; (repeat' refine And.intro ?_ ?_) <;> first | exact Kq.here _ _ | omega | assumption | with_reducible rfl) ?_
      refine SOps.nil (hK _ _ ?_)
      clear hK
      dsimp only
      refine AW.keep [0, 5] ?_
      simp only [keepT_cons, keepT_nil, keepO_some, keepO_none, lk_cons, lk_nil, Nat.reduceBEq, cond_true, cond_false]
      refine AW.seq ?_
      refine AW.regS tbl (by rw [hx]; kernel_rfl) (fun K hK => ?_)
      iterate 9 (first | refine st tok (by rfl) (by simp (disch := omega) only [sim_move, seval, Ty.agg, hE_z1, hE_length, hE_t1, hE_t2, hk, beq_lt0 hN, beq_lt hN, beq_gt0 hN, beq_gt hN, sim_nilCheck, sim_fieldAddr, ↓fieldOff_eq, tb_3, tb_9, tb_22, tb_23, tb_25, tb_74, sim_load, sim_slice, ↓sliceV_eq, sim_store]; (repeat' refine And.intro ?_ ?_) <;> first | exact Kq.here _ _ | omega | assumption | with_reducible rfl) ?_ | refine st_n tok (by rfl) (by simp (disch := omega) only [sim_move, seval, Ty.agg, hE_z1, hE_length, hE_t1, hE_t2, hk, beq_lt0 hN, beq_lt hN, beq_gt0 hN, beq_gt hN, sim_nilCheck, sim_fieldAddr, ↓fieldOff_eq, tb_3, tb_9, tb_22, tb_23, tb_25, tb_74, sim_load, sim_slice, ↓sliceV_eq, sim_store]; (repeat' refine And.intro ?_ ?_) <;> first | exact Kq.here _ _ | omega | assumption | with_reducible rfl) ?_)
      refine SOps.nil (hK _ _ ?_)
      clear hK
      dsimp only
      refine AW.keep [0, 5] ?_
      simp only [keepT_cons, keepT_nil, keepO_some, keepO_none, lk_cons, lk_nil, Nat.reduceBEq, cond_true, cond_false]
      refine AW.regS tbl (by rw [hx]; kernel_rfl) (fun K hK => ?_)
      iterate 8 (first | refine st tok (by rfl) (by simp (disch := omega) only [sim_move, seval, Ty.agg, hE_z1, hE_length, hE_t1, hE_t2, hk, beq_lt0 hN, beq_lt hN, beq_gt0 hN, beq_gt hN, sim_nilCheck, sim_fieldAddr, ↓fieldOff_eq, tb_3, tb_9, tb_22, tb_23, tb_25, tb_74, sim_load, sim_binOp, sim_store]; (repeat' refine And.intro ?_ ?_) <;> first | exact Kq.here _ _ | omega | assumption | with_reducible rfl) ?_ | refine st_n tok (by rfl) (by simp (disch := omega) only [sim_move, seval, Ty.agg, hE_z1, hE_length, hE_t1, hE_t2, hk, beq_lt0 hN, beq_lt hN, beq_gt0 hN, beq_gt hN, sim_nilCheck, sim_fieldAddr, ↓fieldOff_eq, tb_3, tb_9, tb_22, tb_23, tb_25, tb_74, sim_load, sim_binOp, sim_store]; (repeat' refine And.intro ?_ ?_) <;> first | exact Kq.here _ _ | omega | assumption | with_reducible rfl) ?_)
      refine SOps.nil (hK _ _ ?_)
      clear hK
      dsimp only
      -- stop: round's end (live 0:x, 5:out)
      rw [hd0, hd1]
      refine ⟨j + 1, ?_, ⟨hyes _ (List.getElem?_eq_getElem hlt) h2 h3, by omega⟩, by omega⟩
      have ht : x.held.take (j + 1) = x.held.take j ++ [x.held[j]] := by rw [List.take_add_one, List.getElem?_eq_getElem hlt]; rfl
      have hn : x.want + 1 + ((j + 1 : Nat) : Int) = x.want + 1 + j + 1 := by omega
      rw [ht, hn]
      apply Wk.fin (ks := [k, N]) (kl := [N + 1 + 1]) h0 hok
      case hN => omega
      case hm => omega
      case hv => repeat first | exact TgtV.base | (refine TgtV.cons ⟨by omega, ?_, ?_⟩ ?_; (focus (simp (maxSteps := 2000000) (disch := omega) only [sim_all, ↓fieldOff_eq, ↓newsV_eq, ↓sliceV_eq, ↓lenV_eq, seval, Ty.agg, tb_all, List.map_append, List.map_cons, List.map_nil, sE, hk, beq_lt0 hN, beq_lt hN, beq_gt0 hN, beq_gt hN, wksL, D.leC, D.e.injEq, E.sl.injEq, exists_eq_right, exists_eq_right', D.idsB, D.idsC, decide_eq_true_eq, List.all_cons, List.all_nil, true_or, or_true]; done)); (focus (simp (maxSteps := 2000000) (disch := omega) only [sim_all, ↓fieldOff_eq, ↓newsV_eq, ↓sliceV_eq, ↓lenV_eq, seval, Ty.agg, tb_all, List.map_append, List.map_cons, List.map_nil, sE, hk, beq_lt0 hN, beq_lt hN, beq_gt0 hN, beq_gt hN, wksL, D.leC, D.e.injEq, E.sl.injEq, exists_eq_right, exists_eq_right', D.idsB, D.idsC, decide_eq_true_eq, List.all_cons, List.all_nil, true_or, or_true]; done)))
      case hc => repeat first | exact Cov.base | refine Cov.cons (by first | (left; omega) | (right; simp)) ?_
      case hl => repeat first | exact TgtL.base | (refine TgtL.cons ⟨by omega, ?_⟩ ?_; (focus (simp (maxSteps := 2000000) (disch := omega) only [sim_all, ↓fieldOff_eq, ↓newsV_eq, ↓sliceV_eq, ↓lenV_eq, seval, Ty.agg, tb_all, List.map_append, List.map_cons, List.map_nil, sE, hk, beq_lt0 hN, beq_lt hN, beq_gt0 hN, beq_gt hN, wksL, D.leC, D.e.injEq, E.sl.injEq, exists_eq_right, exists_eq_right', D.idsB, D.idsC, decide_eq_true_eq, List.all_cons, List.all_nil, true_or, or_true]; done)))
      case hcl => repeat first | exact Cov.base | refine Cov.cons (by first | (left; omega) | (right; simp)) ?_
      all_goals simp (maxSteps := 2000000) (disch := omega) only [sim_all, ↓fieldOff_eq, ↓newsV_eq, ↓sliceV_eq, ↓lenV_eq, seval, Ty.agg, tb_all, List.map_append, List.map_cons, List.map_nil, sE, hk, beq_lt0 hN, beq_lt hN, beq_gt0 hN, beq_gt hN, wksL, D.leC, D.e.injEq, E.sl.injEq, exists_eq_right, exists_eq_right', D.idsB, D.idsC, decide_eq_true_eq, List.all_cons, List.all_nil, true_or, or_true]
      all_goals (try omega)
    · have hj' : runLen (x.want + 1) x.held = j := hno fun g hg ⟨h1, h2⟩ => by
        obtain ⟨hlt, hg'⟩ := List.getElem?_eq_some_iff.1 hg
        have hd0 : (x.held.drop j)[0]! = x.held[j] := by rw [List.drop_eq_getElem_cons hlt]; rfl
        have := h ⟨by rw [List.length_drop]; omega, by rw [hd0, hg']; exact h1⟩
        omega
      refine AW.exit ?_
      dsimp only
      (try simp only [if_true, reduceIte, Nat.reduceEqDiff, reduceCtorEq])
      refine AW.seq ?_
      refine AW.regS tbl (by rw [hx]; kernel_rfl) (fun K hK => ?_)
      iterate 2 refine st tok (by rfl) (by simp (disch := omega) only [sim_move, seval, Ty.agg, hk, beq_lt0 hN, beq_lt hN, beq_gt0 hN, beq_gt hN, sim_assign, tb_9, tb_22]; (repeat' refine And.intro ?_ ?_) <;> first | exact Kq.here _ _ | omega | assumption | with_reducible rfl) ?_
      refine SOps.nil (hK _ _ ?_)
      clear hK
      dsimp only
      -- stop: ret (live 4)
      rw [hj']
      refine AW.ret ?_
      dsimp only
      refine retH1 (by simp only [sim_ev, Nat.reduceBEq]; rfl)  ?e ?w
      case e => ((try simp only [sim_ex]); all_goals (rfl))
      (try simp only [sim_ex])
      apply Wk.fin (ks := [k]) (kl := []) h0 hok
      case hN => omega
      case hm => omega
      case hv => repeat first | exact TgtV.base | (refine TgtV.cons ⟨by omega, ?_, ?_⟩ ?_; (focus (simp (maxSteps := 2000000) (disch := omega) only [sim_all, ↓fieldOff_eq, ↓newsV_eq, ↓sliceV_eq, ↓lenV_eq, seval, Ty.agg, tb_all, hk, beq_lt0 hN, beq_lt hN, beq_gt0 hN, beq_gt hN, wksL, D.leC, D.e.injEq, E.sl.injEq, exists_eq_right, exists_eq_right', D.idsB, D.idsC, decide_eq_true_eq, List.all_cons, List.all_nil, true_or, or_true]; done)); (focus (simp (maxSteps := 2000000) (disch := omega) only [sim_all, ↓fieldOff_eq, ↓newsV_eq, ↓sliceV_eq, ↓lenV_eq, seval, Ty.agg, tb_all, hk, beq_lt0 hN, beq_lt hN, beq_gt0 hN, beq_gt hN, wksL, D.leC, D.e.injEq, E.sl.injEq, exists_eq_right, exists_eq_right', D.idsB, D.idsC, decide_eq_true_eq, List.all_cons, List.all_nil, true_or, or_true]; done)))
      case hc => repeat first | exact Cov.base | refine Cov.cons (by first | (left; omega) | (right; simp)) ?_
      case hl => repeat first | exact TgtL.base | (refine TgtL.cons ⟨by omega, ?_⟩ ?_; (focus (simp (maxSteps := 2000000) (disch := omega) only [sim_all, ↓fieldOff_eq, ↓newsV_eq, ↓sliceV_eq, ↓lenV_eq, seval, Ty.agg, tb_all, hk, beq_lt0 hN, beq_lt hN, beq_gt0 hN, beq_gt hN, wksL, D.leC, D.e.injEq, E.sl.injEq, exists_eq_right, exists_eq_right', D.idsB, D.idsC, decide_eq_true_eq, List.all_cons, List.all_nil, true_or, or_true]; done)))
      case hcl => repeat first | exact Cov.base | refine Cov.cons (by first | (left; omega) | (right; simp)) ?_
      all_goals simp (maxSteps := 2000000) (disch := omega) only [sim_all, ↓fieldOff_eq, ↓newsV_eq, ↓sliceV_eq, ↓lenV_eq, seval, Ty.agg, tb_all, hk, beq_lt0 hN, beq_lt hN, beq_gt0 hN, beq_gt hN, wksL, D.leC, D.e.injEq, E.sl.injEq, exists_eq_right, exists_eq_right', D.idsB, D.idsC, decide_eq_true_eq, List.all_cons, List.all_nil, true_or, or_true]
      all_goals (try omega)
end
end Go.Proofs.Ytakbadleipbngaa
