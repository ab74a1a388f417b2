/-
  Lemmas, part 3. Conditions: none.
-/
import Derived.Test.YtakbadleipbngaaDoorP2
import Derived.Deep.OwnRows
import Derived.Laws.Rows
import Derived.Lib.Hide
import Derived.WalkKit
import Derived.Laws.BitsAllLaws
set_option linter.all false
set_option maxRecDepth 100000
namespace Go.Proofs.YtakbadleipbngaaDoor
open Go.RowKit
section
theorem hE_g0 {l : List LHeld} {i : Nat} (h : i < l.length) : (hE l).getD (i * 2) .any = .lit (.int .i64 l[i]!.1) := by
  rw [(hE_get (List.getElem?_eq_getElem h)).1, getElem!_pos l i h]
theorem hE_g1 {l : List LHeld} {i : Nat} (h : i < l.length) : (hE l).getD (i * 2 + 1) .any = .lit (.string l[i]!.2) := by
  rw [(hE_get (List.getElem?_eq_getElem h)).2, getElem!_pos l i h]
theorem hE_z0 {l : List LHeld} (h : 0 < l.length) : (hE l).getD 0 .any = .lit (.int .i64 l[0]!.1) := hE_g0 (i := 0) h
theorem hE_z1 {l : List LHeld} (h : 0 < l.length) : (hE l).getD 1 .any = .lit (.string l[0]!.2) := hE_g1 (i := 0) h
theorem hE_t1 {l : List LHeld} : ((l.length : Int) - 1).toNat = (l.drop 1).length := by rw [List.length_drop]; omega
theorem hE_t2 {l : List LHeld} : ((hE l).drop 2).take ((l.drop 1).length * 2) = hE (l.drop 1) := by
  rw [show (hE l).drop 2 = hE (l.drop 1) from hE_drop l 1, List.take_of_length_le (by rw [hE_length]; exact Nat.le_refl _)]
theorem hE_fill (x : LEnd) (f : LFrame) (i : Nat) (hi : i ≤ x.held.length) (hlow : ∀ g ∈ x.held.take i, g.1 < f.seq) (hup : ∀ g, x.held[i]? = some g → f.seq < g.1) :
    (hE x.held).take (i * 2) ++ [.lit (.int .i64 f.seq), .lit (.string f.data)] ++ ((hE x.held).drop (i * 2)).take ((x.held.length - i) * 2) = hE (putHeld (f.seq, f.data) x.held) ∧ (putHeld (f.seq, f.data) x.held).length = i + 1 + (x.held.length - i) := by
  rw [putHeld_cut (f.seq, f.data) x.held i hi hlow hup]
  refine ⟨?_, by simp; omega⟩
  rw [hE_take, hE_drop, List.take_of_length_le (l := hE (x.held.drop i)) (by rw [hE_length, List.length_drop]; omega), hE_append]
  simp [hE]
section
variable {vs : List (Nat × List D)} {lv : List (Nat × Nat × Nat × TypeId)} {N k : Nat}
theorem h_hold (x : LEnd) (f : LFrame) (hl : x.held.length ≤ 7) (hg : Grows x.want x.held) (hkn : knownB x f.seq = false) (hk : vs.lookup k = some (endC x)) (hN : k < N) :
    HC Tryd.prog 40 [.pt k 0, frD f] ⟨vs, lv, N⟩ (.e (.sl 1 0 [])) ⟨(k, endC { x with held := putHeld (f.seq, f.data) x.held }) :: vs, lv, N⟩ := by
  unfold frD
  unfold endC at hk ⊢
  refine HC.of (rs := [.tmp 4]) tok Tryd.func40 rfl rfl (Nat.le_of_ble_eq_true rfl) rfl (fun cx hx h0 hok => ?_)
  simp only [argsT, Nat.reduceAdd, Nat.zero_add]
  refine AW.seq ?_
  refine AW.regS tbl (by rw [hx]; kernel_rfl) (fun K hK => ?_)
  iterate 2 refine st tok (by rfl) (by simp (disch := omega) only [sim_box, seval, Ty.agg, tb_3, tb_9, tb_23, hk, beq_lt0 hN, beq_lt hN, beq_gt0 hN, beq_gt hN, sim_assign, tb_36]; (repeat' refine And.intro ?_ ?_) <;> first | exact Kq.here _ _ | omega | assumption | with_reducible rfl) ?_
  refine SOps.nil (hK _ _ ?_)
  clear hK
  dsimp only
  refine AW.seq ?_
  refine AW.regS tbl (by rw [hx]; kernel_rfl) (fun K hK => ?_)
  refine st tok (by rfl) (by simp (disch := omega) only [sim_assign, seval, Ty.agg, tb_3, hk, beq_lt0 hN, beq_lt hN, beq_gt0 hN, beq_gt hN]; (repeat' refine And.intro ?_ ?_) <;> first | exact Kq.here _ _ | omega | assumption | with_reducible rfl) ?_
  refine SOps.nil (hK _ _ ?_)
  clear hK
  dsimp only
  refine AW.seq ?_
  refine AW.block ?_
  -- stop: loop (live 0:x, 3:f, 5:k)
  refine AW.loopW (fun i : Nat => [(0, .pt k 0), (3, .pt N 0), (5, .e (.lit (.int .i64 i)))]) (fun _ => ⟨(N, [.e (.lit (.int .i64 f.seq)), .e (.lit (.int .i64 f.ack)), .e (.lit (.string f.data))]) :: vs, lv, N + 1⟩) (fun i => i ≤ x.held.length ∧ ∀ g ∈ x.held.take i, g.1 < f.seq) (fun i => x.held.length - i) 0 ?_ ⟨Nat.zero_le _, by simp⟩ ?_
  · skip
    apply Wk.fin (ks := [N]) (kl := []) h0 hok
    case hN => omega
    case hm => omega
    case hv => repeat first | exact TgtV.base | (refine TgtV.cons ⟨by omega, ?_, ?_⟩ ?_; (focus (simp (maxSteps := 2000000) (disch := omega) only [sim_all, ↓fieldOff_eq, ↓newsV_eq, ↓sliceV_eq, ↓lenV_eq, seval, Ty.agg, tb_all, Int.natCast_zero, hk, beq_lt0 hN, beq_lt hN, beq_gt0 hN, beq_gt hN, wksL, D.leC, D.e.injEq, E.sl.injEq, exists_eq_right, exists_eq_right', D.idsB, D.idsC, decide_eq_true_eq, List.all_cons, List.all_nil, true_or, or_true]; done)); (focus (simp (maxSteps := 2000000) (disch := omega) only [sim_all, ↓fieldOff_eq, ↓newsV_eq, ↓sliceV_eq, ↓lenV_eq, seval, Ty.agg, tb_all, Int.natCast_zero, hk, beq_lt0 hN, beq_lt hN, beq_gt0 hN, beq_gt hN, wksL, D.leC, D.e.injEq, E.sl.injEq, exists_eq_right, exists_eq_right', D.idsB, D.idsC, decide_eq_true_eq, List.all_cons, List.all_nil, true_or, or_true]; done)))
    case hc => repeat first | exact Cov.base | refine Cov.cons (by first | (left; omega) | (right; simp)) ?_
    case hl => repeat first | exact TgtL.base | (refine TgtL.cons ⟨by omega, ?_⟩ ?_; (focus (simp (maxSteps := 2000000) (disch := omega) only [sim_all, ↓fieldOff_eq, ↓newsV_eq, ↓sliceV_eq, ↓lenV_eq, seval, Ty.agg, tb_all, Int.natCast_zero, hk, beq_lt0 hN, beq_lt hN, beq_gt0 hN, beq_gt hN, wksL, D.leC, D.e.injEq, E.sl.injEq, exists_eq_right, exists_eq_right', D.idsB, D.idsC, decide_eq_true_eq, List.all_cons, List.all_nil, true_or, or_true]; done)))
    case hcl => repeat first | exact Cov.base | refine Cov.cons (by first | (left; omega) | (right; simp)) ?_
    all_goals simp (maxSteps := 2000000) (disch := omega) only [sim_all, ↓fieldOff_eq, ↓newsV_eq, ↓sliceV_eq, ↓lenV_eq, seval, Ty.agg, tb_all, Int.natCast_zero, hk, beq_lt0 hN, beq_lt hN, beq_gt0 hN, beq_gt hN, wksL, D.leC, D.e.injEq, E.sl.injEq, exists_eq_right, exists_eq_right', D.idsB, D.idsC, decide_eq_true_eq, List.all_cons, List.all_nil, true_or, or_true]
    all_goals (try omega)
  · intro i ⟨hi, hlow⟩
    refine AW.seq ?_
    refine AW.seq ?_
    refine AW.drwS tbl [] (by kernel_rfl) (by rw [hx]; kernel_rfl) (by kernel_rfl) (fun K hK => ?_)
    iterate 8 refine st tok (by rfl) (by simp (disch := omega) only [sim_move, seval, Ty.agg, hE_g0, hE_g1, hE_length, hk, beq_lt0 hN, beq_lt hN, beq_gt0 hN, beq_gt hN, sim_nilCheck, sim_fieldAddr, ↓fieldOff_eq, tb_3, tb_9, tb_36, tb_37, tb_39, tb_51, sim_load, sim_call, ↓newsV_eq, ↓lenV_eq, sim_binOp]; (repeat' refine And.intro ?_ ?_) <;> first | exact Kq.here _ _ | omega | assumption | with_reducible rfl) ?_
    refine st_opt tok (by rfl) rfl (by simp only [sim_ev, Nat.reduceBEq]; rfl) (bq_t _) (fun hgd => by (have hgq := hgd; (try simp only [sim_bool] at hgq)); simp (disch := omega) only [hgd, sim_un, sim_move, seval, Ty.agg, hE_g0, hE_g1, hE_length, hk, beq_lt0 hN, beq_lt hN, beq_gt0 hN, beq_gt hN]; (repeat' refine And.intro ?_ ?_) <;> first | exact Kq.here _ _ | omega | assumption | with_reducible rfl) (by first | exact Or.inl rfl | exact Or.inr ⟨_, _, _, .tmp 0, rfl, by simp [Op.operands, Call.operands], by simp only [sim_ev, Nat.reduceBEq]; first | exact Or.inl rfl | exact Or.inr ⟨_, rfl⟩⟩) ?_
    refine st_opt tok (by rfl) rfl (by simp only [sim_ev, Nat.reduceBEq]; rfl) (bq_t _) (fun hgd => by (have hgq := hgd; (try simp only [sim_bool] at hgq)); simp (disch := omega) only [hgd, sim_un, sim_nilCheck, seval, Ty.agg, hE_g0, hE_g1, hE_length, hk, beq_lt0 hN, beq_lt hN, beq_gt0 hN, beq_gt hN]; (repeat' refine And.intro ?_ ?_) <;> first | exact Kq.here _ _ | omega | assumption | with_reducible rfl) (by first | exact Or.inl rfl | exact Or.inr ⟨_, _, _, .tmp 14, rfl, by simp [Op.operands, Call.operands], by simp only [sim_ev, Nat.reduceBEq]; first | exact Or.inl rfl | exact Or.inr ⟨_, rfl⟩⟩) ?_
    refine st_opt tok (by rfl) rfl (by simp only [sim_ev, Nat.reduceBEq]; rfl) (bq_t _) (fun hgd => by (have hgq := hgd; (try simp only [sim_bool] at hgq)); simp (disch := omega) only [hgd, sim_un, sim_fieldAddr, ↓fieldOff_eq, seval, Ty.agg, tb_3, tb_9, tb_36, tb_37, tb_39, tb_51, hE_g0, hE_g1, hE_length, hk, beq_lt0 hN, beq_lt hN, beq_gt0 hN, beq_gt hN]; (repeat' refine And.intro ?_ ?_) <;> first | exact Kq.here _ _ | omega | assumption | with_reducible rfl) (by first | exact Or.inl rfl | exact Or.inr ⟨_, _, _, .tmp 15, rfl, by simp [Op.operands, Call.operands], by simp only [sim_ev, Nat.reduceBEq]; first | exact Or.inl rfl | exact Or.inr ⟨_, rfl⟩⟩) ?_
    refine st_opt tok (by rfl) rfl (by simp only [sim_ev, Nat.reduceBEq]; rfl) (bq_t _) (fun hgd => by (have hgq := hgd; (try simp only [sim_bool] at hgq)); simp (disch := omega) only [hgd, sim_un, sim_load, seval, Ty.agg, tb_3, tb_9, tb_37, tb_51, hE_g0, hE_g1, hE_length, hk, beq_lt0 hN, beq_lt hN, beq_gt0 hN, beq_gt hN]; (repeat' refine And.intro ?_ ?_) <;> first | exact Kq.here _ _ | omega | assumption | with_reducible rfl) (by first | exact Or.inl rfl | exact Or.inr ⟨_, _, _, .tmp 16, rfl, by simp [Op.operands, Call.operands], by simp only [sim_ev, Nat.reduceBEq]; first | exact Or.inl rfl | exact Or.inr ⟨_, rfl⟩⟩) ?_
    refine st_opt tok (by rfl) rfl (by simp only [sim_ev, Nat.reduceBEq]; rfl) (bq_t _) (fun hgd => by (have hgq := hgd; (try simp only [sim_bool] at hgq)); simp (disch := omega) only [hgd, sim_un, sim_move, seval, Ty.agg, hE_g0, hE_g1, hE_length, hk, beq_lt0 hN, beq_lt hN, beq_gt0 hN, beq_gt hN]; (repeat' refine And.intro ?_ ?_) <;> first | exact Kq.here _ _ | omega | assumption | with_reducible rfl) (by first | exact Or.inl rfl | exact Or.inr ⟨_, _, _, .tmp 5, rfl, by simp [Op.operands, Call.operands], by simp only [sim_ev, Nat.reduceBEq]; first | exact Or.inl rfl | exact Or.inr ⟨_, rfl⟩⟩) ?_
    refine st_opt tok (by rfl) rfl (by simp only [sim_ev, Nat.reduceBEq]; rfl) (bq_t _) (fun hgd => by (have hgq := hgd; (try simp only [sim_bool] at hgq)); simp (disch := omega) only [hgd, sim_un, sim_indexAddr, seval, Ty.agg, tb_3, tb_9, tb_37, tb_51, hE_g0, hE_g1, hE_length, hk, beq_lt0 hN, beq_lt hN, beq_gt0 hN, beq_gt hN]; (repeat' refine And.intro ?_ ?_) <;> first | exact Kq.here _ _ | omega | assumption | with_reducible rfl) (by first | exact Or.inl rfl | exact Or.inr ⟨_, _, _, .tmp 17, rfl, by simp [Op.operands, Call.operands], by simp only [sim_ev, Nat.reduceBEq]; first | exact Or.inl rfl | exact Or.inr ⟨_, rfl⟩⟩) ?_
    refine st_opt tok (by rfl) rfl (by simp only [sim_ev, Nat.reduceBEq]; rfl) (bq_t _) (fun hgd => by (have hgq := hgd; (try simp only [sim_bool] at hgq)); simp (disch := omega) only [hgd, sim_un, sim_fieldAddr, ↓fieldOff_eq, seval, Ty.agg, tb_3, tb_9, tb_51, hE_g0, hE_g1, hE_length, hk, beq_lt0 hN, beq_lt hN, beq_gt0 hN, beq_gt hN]; (repeat' refine And.intro ?_ ?_) <;> first | exact Kq.here _ _ | omega | assumption | with_reducible rfl) (by first | exact Or.inl rfl | exact Or.inr ⟨_, _, _, .tmp 19, rfl, by simp [Op.operands, Call.operands], by simp only [sim_ev, Nat.reduceBEq]; first | exact Or.inl rfl | exact Or.inr ⟨_, rfl⟩⟩) ?_
    refine st_opt tok (by rfl) rfl (by simp only [sim_ev, Nat.reduceBEq]; rfl) (bq_t _) (fun hgd => by (have hgq := hgd; (try simp only [sim_bool] at hgq)); simp (disch := omega) only [hgd, sim_un, sim_load, seval, Ty.agg, tb_3, hE_g0, hE_g1, hE_length, hk, beq_lt0 hN, beq_lt hN, beq_gt0 hN, beq_gt hN]; (repeat' refine And.intro ?_ ?_) <;> first | exact Kq.here _ _ | omega | assumption | with_reducible rfl) (by first | exact Or.inl rfl | exact Or.inr ⟨_, _, _, .tmp 20, rfl, by simp [Op.operands, Call.operands], by simp only [sim_ev, Nat.reduceBEq]; first | exact Or.inl rfl | exact Or.inr ⟨_, rfl⟩⟩) ?_
    refine st_opt tok (by rfl) rfl (by simp only [sim_ev, Nat.reduceBEq]; rfl) (bq_t _) (fun hgd => by (have hgq := hgd; (try simp only [sim_bool] at hgq)); simp (disch := omega) only [hgd, sim_un, sim_fieldAddr, ↓fieldOff_eq, seval, Ty.agg, tb_3, tb_9, tb_23, hE_g0, hE_g1, hE_length, hk, beq_lt0 hN, beq_lt hN, beq_gt0 hN, beq_gt hN]; (repeat' refine And.intro ?_ ?_) <;> first | exact Kq.here _ _ | omega | assumption | with_reducible rfl) (by first | exact Or.inl rfl | exact Or.inr ⟨_, _, _, .tmp 3, rfl, by simp [Op.operands, Call.operands], by simp only [sim_ev, Nat.reduceBEq]; first | exact Or.inl rfl | exact Or.inr ⟨_, rfl⟩⟩) ?_
    refine st_opt tok (by rfl) rfl (by simp only [sim_ev, Nat.reduceBEq]; rfl) (bq_t _) (fun hgd => by (have hgq := hgd; (try simp only [sim_bool] at hgq)); simp (disch := omega) only [hgd, sim_un, sim_load, seval, Ty.agg, tb_3, hE_g0, hE_g1, hE_length, hk, beq_lt0 hN, beq_lt hN, beq_gt0 hN, beq_gt hN]; (repeat' refine And.intro ?_ ?_) <;> first | exact Kq.here _ _ | omega | assumption | with_reducible rfl) (by first | exact Or.inl rfl | exact Or.inr ⟨_, _, _, .tmp 22, rfl, by simp [Op.operands, Call.operands], by simp only [sim_ev, Nat.reduceBEq]; first | exact Or.inl rfl | exact Or.inr ⟨_, rfl⟩⟩) ?_
    refine st_opt tok (by rfl) rfl (by simp only [sim_ev, Nat.reduceBEq]; rfl) (bq_t _) (fun hgd => by (have hgq := hgd; (try simp only [sim_bool] at hgq)); simp (disch := omega) only [hgd, sim_un, sim_binOp, seval, Ty.agg, tb_3, hE_g0, hE_g1, hE_length, hk, beq_lt0 hN, beq_lt hN, beq_gt0 hN, beq_gt hN]; (repeat' refine And.intro ?_ ?_) <;> first | exact Kq.here _ _ | omega | assumption | with_reducible rfl) (by first | exact Or.inl rfl | exact Or.inr ⟨_, _, _, .tmp 21, rfl, by simp [Op.operands, Call.operands], by simp only [sim_ev, Nat.reduceBEq]; first | exact Or.inl rfl | exact Or.inr ⟨_, rfl⟩⟩) ?_
    refine st_and tok (by simp only [sim_ev, Nat.reduceBEq]; rfl) (fun hgd => by simp only [sim_ev, Nat.reduceBEq, sim_un, hgd, cond_true, Bool.not_false, Bool.not_true]; rfl) ?_
    refine SOps.nil (hK _ _ ?_)
    clear hK
    dsimp only
    refine AW.keep [0, 3, 5, 25] ?_
    simp only [keepT_cons, keepT_nil, keepO_some, keepO_none, lk_cons, lk_nil, Nat.reduceBEq, cond_true, cond_false]
    -- stop: cond (live 0:x, 3:f, 5:k, 25)
    refine AW.condS (by simp only [sim_ev, Nat.reduceBEq]; rfl) (fun h => ?_) (fun h => ?_)
    all_goals (try simp only [sim_bool] at h)
    · skip
      refine AW.skip ?_
      dsimp only
      refine AW.block ?_
      refine AW.regS tbl (by rw [hx]; kernel_rfl) (fun K hK => ?_)
      iterate 3 refine st tok (by rfl) (by simp (disch := omega) only [sim_move, seval, Ty.agg, hk, beq_lt0 hN, beq_lt hN, beq_gt0 hN, beq_gt hN, sim_binOp, tb_3, sim_assign]; (repeat' refine And.intro ?_ ?_) <;> first | exact Kq.here _ _ | omega | assumption | with_reducible rfl) ?_
      refine SOps.nil (hK _ _ ?_)
      clear hK
      dsimp only
      -- stop: round's end (live 0:x, 3:f, 5:k)
      have hlt : i < x.held.length := by omega
      refine ⟨i + 1, ?_, ⟨by omega, ?_⟩, by omega⟩
      · skip
        apply Wk.fin (ks := [N]) (kl := []) h0 hok
        case hN => omega
        case hm => omega
        case hv => repeat first | exact TgtV.base | (refine TgtV.cons ⟨by omega, ?_, ?_⟩ ?_; (focus (simp (maxSteps := 2000000) (disch := omega) only [sim_all, ↓fieldOff_eq, ↓newsV_eq, ↓sliceV_eq, ↓lenV_eq, seval, Ty.agg, tb_all, Int.natCast_add, Int.cast_ofNat_Int, hk, beq_lt0 hN, beq_lt hN, beq_gt0 hN, beq_gt hN, wksL, D.leC, D.e.injEq, E.sl.injEq, exists_eq_right, exists_eq_right', D.idsB, D.idsC, decide_eq_true_eq, List.all_cons, List.all_nil, true_or, or_true]; done)); (focus (simp (maxSteps := 2000000) (disch := omega) only [sim_all, ↓fieldOff_eq, ↓newsV_eq, ↓sliceV_eq, ↓lenV_eq, seval, Ty.agg, tb_all, Int.natCast_add, Int.cast_ofNat_Int, hk, beq_lt0 hN, beq_lt hN, beq_gt0 hN, beq_gt hN, wksL, D.leC, D.e.injEq, E.sl.injEq, exists_eq_right, exists_eq_right', D.idsB, D.idsC, decide_eq_true_eq, List.all_cons, List.all_nil, true_or, or_true]; done)))
        case hc => repeat first | exact Cov.base | refine Cov.cons (by first | (left; omega) | (right; simp)) ?_
        case hl => repeat first | exact TgtL.base | (refine TgtL.cons ⟨by omega, ?_⟩ ?_; (focus (simp (maxSteps := 2000000) (disch := omega) only [sim_all, ↓fieldOff_eq, ↓newsV_eq, ↓sliceV_eq, ↓lenV_eq, seval, Ty.agg, tb_all, Int.natCast_add, Int.cast_ofNat_Int, hk, beq_lt0 hN, beq_lt hN, beq_gt0 hN, beq_gt hN, wksL, D.leC, D.e.injEq, E.sl.injEq, exists_eq_right, exists_eq_right', D.idsB, D.idsC, decide_eq_true_eq, List.all_cons, List.all_nil, true_or, or_true]; done)))
        case hcl => repeat first | exact Cov.base | refine Cov.cons (by first | (left; omega) | (right; simp)) ?_
        all_goals simp (maxSteps := 2000000) (disch := omega) only [sim_all, ↓fieldOff_eq, ↓newsV_eq, ↓sliceV_eq, ↓lenV_eq, seval, Ty.agg, tb_all, Int.natCast_add, Int.cast_ofNat_Int, hk, beq_lt0 hN, beq_lt hN, beq_gt0 hN, beq_gt hN, wksL, D.leC, D.e.injEq, E.sl.injEq, exists_eq_right, exists_eq_right', D.idsB, D.idsC, decide_eq_true_eq, List.all_cons, List.all_nil, true_or, or_true]
        all_goals (try omega)
      · intro g hgm
        rw [List.take_add_one, List.getElem?_eq_getElem hlt] at hgm
        rcases List.mem_append.1 hgm with hgm | hgm
        · exact hlow g hgm
        · obtain rfl : g = x.held[i] := by simpa using hgm
          rw [getElem!_pos x.held i hlt] at h
          exact h.2
    · skip
      refine AW.exit ?_
      dsimp only
      (try simp only [if_true, reduceIte, Nat.reduceEqDiff, reduceCtorEq])
      refine AW.seq ?_
      refine AW.drwS tbl [] (by kernel_rfl) (by rw [hx]; kernel_rfl) (by kernel_rfl) (fun K hK => ?_)
      iterate 25 (first | refine st tok (by rfl) (by simp (disch := omega) only [sim_move, seval, Ty.agg, hE_length, hk, beq_lt0 hN, beq_lt hN, beq_gt0 hN, beq_gt hN, sim_nilCheck, sim_fieldAddr, ↓fieldOff_eq, tb_3, tb_9, tb_36, tb_37, tb_39, tb_51, sim_load, sim_slice, ↓sliceV_eq, tb_23, sim_build, sim_buildSlice, sim_call, ↓newsV_eq, ↓lenV_eq, sim_store]; (repeat' refine And.intro ?_ ?_) <;> first | exact Kq.here _ _ | omega | assumption | with_reducible rfl) ?_ | refine st_n tok (by rfl) (by simp (disch := omega) only [sim_move, seval, Ty.agg, hE_length, hk, beq_lt0 hN, beq_lt hN, beq_gt0 hN, beq_gt hN, sim_nilCheck, sim_fieldAddr, ↓fieldOff_eq, tb_3, tb_9, tb_36, tb_37, tb_39, tb_51, sim_load, sim_slice, ↓sliceV_eq, tb_23, sim_build, sim_buildSlice, sim_call, ↓newsV_eq, ↓lenV_eq, sim_store]; (repeat' refine And.intro ?_ ?_) <;> first | exact Kq.here _ _ | omega | assumption | with_reducible rfl) ?_)
      refine SOps.nil (hK _ _ ?_)
      clear hK
      dsimp only
      refine AW.keep [] ?_
      simp only [keepT_cons, keepT_nil, keepO_some, keepO_none, lk_cons, lk_nil, Nat.reduceBEq, cond_true, cond_false]
      refine AW.seq ?_
      refine AW.regS tbl (by rw [hx]; kernel_rfl) (fun K hK => ?_)
      refine st tok (by rfl) (by simp (disch := omega) only [sim_assign, seval, Ty.agg, tb_9, tb_36, hE_length, hk, beq_lt0 hN, beq_lt hN, beq_gt0 hN, beq_gt hN]; (repeat' refine And.intro ?_ ?_) <;> first | exact Kq.here _ _ | omega | assumption | with_reducible rfl) ?_
      refine SOps.nil (hK _ _ ?_)
      clear hK
      dsimp only
      -- stop: ret (live 4)
      have hup : ∀ g, x.held[i]? = some g → f.seq < g.1 := by
        intro g hgi
        obtain ⟨hlt, hgi'⟩ := List.getElem?_eq_some_iff.1 hgi
        have h1 := h (by omega)
        rw [getElem!_pos x.held i hlt, hgi'] at h1
        have h2 : g.1 ≠ f.seq := by
          intro e
          have : knownB x f.seq = true := List.any_eq_true.2 ⟨g, by rw [← hgi']; exact List.getElem_mem hlt, by simp [e]⟩
          rw [hkn] at this; cases this
        omega
      obtain ⟨e1, e2⟩ := hE_fill x f i hi hlow hup
      have hn : ((x.held.length : Int) - i).toNat = x.held.length - i := by omega
      rw [hn, e1, ← e2]
      refine AW.ret ?_
      dsimp only
      refine retH1 (by simp only [sim_ev, Nat.reduceBEq]; rfl)  ?e ?w
      case e => ((try simp only [sim_ex]); all_goals (rfl))
      (try simp only [sim_ex])
      apply Wk.fin (ks := [k]) (kl := []) h0 hok
      case hN => omega
      case hm => omega
      case hv => repeat first | exact TgtV.base | (refine TgtV.cons ⟨by omega, ?_, ?_⟩ ?_; (focus (simp (maxSteps := 2000000) (disch := omega) only [sim_all, ↓fieldOff_eq, ↓newsV_eq, ↓sliceV_eq, ↓lenV_eq, seval, Ty.agg, tb_all, hk, beq_lt0 hN, beq_lt hN, beq_gt0 hN, beq_gt hN, wksL, D.leC, D.e.injEq, E.sl.injEq, exists_eq_right, exists_eq_right', D.idsB, D.idsC, decide_eq_true_eq, List.all_cons, List.all_nil, true_or, or_true]; done)); (focus (simp (maxSteps := 2000000) (disch := omega) only [sim_all, ↓fieldOff_eq, ↓newsV_eq, ↓sliceV_eq, ↓lenV_eq, seval, Ty.agg, tb_all, hk, beq_lt0 hN, beq_lt hN, beq_gt0 hN, beq_gt hN, wksL, D.leC, D.e.injEq, E.sl.injEq, exists_eq_right, exists_eq_right', D.idsB, D.idsC, decide_eq_true_eq, List.all_cons, List.all_nil, true_or, or_true]; done)))
      case hc => repeat first | exact Cov.base | refine Cov.cons (by first | (left; omega) | (right; simp)) ?_
      case hl => repeat first | exact TgtL.base | (refine TgtL.cons ⟨by omega, ?_⟩ ?_; (focus (simp (maxSteps := 2000000) (disch := omega) only [sim_all, ↓fieldOff_eq, ↓newsV_eq, ↓sliceV_eq, ↓lenV_eq, seval, Ty.agg, tb_all, hk, beq_lt0 hN, beq_lt hN, beq_gt0 hN, beq_gt hN, wksL, D.leC, D.e.injEq, E.sl.injEq, exists_eq_right, exists_eq_right', D.idsB, D.idsC, decide_eq_true_eq, List.all_cons, List.all_nil, true_or, or_true]; done)))
      case hcl => repeat first | exact Cov.base | refine Cov.cons (by first | (left; omega) | (right; simp)) ?_
      all_goals simp (maxSteps := 2000000) (disch := omega) only [sim_all, ↓fieldOff_eq, ↓newsV_eq, ↓sliceV_eq, ↓lenV_eq, seval, Ty.agg, tb_all, hk, beq_lt0 hN, beq_lt hN, beq_gt0 hN, beq_gt hN, wksL, D.leC, D.e.injEq, E.sl.injEq, exists_eq_right, exists_eq_right', D.idsB, D.idsC, decide_eq_true_eq, List.all_cons, List.all_nil, true_or, or_true]
      all_goals (try omega)
theorem runLen_at {n : Int} {l : List LHeld} {j : Nat} (hr : runLen n l = j + runLen (n + j) (l.drop j)) : j ≤ l.length ∧ (∀ g, l[j]? = some g → g.1 = n + j → n + j < 1099511627776 → runLen n l = j + 1 + runLen (n + (j + 1 : Nat)) (l.drop (j + 1))) ∧
    ((∀ g, l[j]? = some g → ¬ (g.1 = n + j ∧ n + j < 1099511627776)) → runLen n l = j) := by
  have hle := runLen_le n l
  refine ⟨by omega, fun g hg h1 h2 => ?_, fun h => ?_⟩
  · obtain ⟨hlt, rfl⟩ := List.getElem?_eq_some_iff.1 hg
    rw [hr, List.drop_eq_getElem_cons hlt, runLen, if_pos ⟨h1, h2⟩, show n + ((j + 1 : Nat) : Int) = n + j + 1 by omega]
    exact (by omega : ∀ a b : Nat, b + (a + 1) = b + 1 + a) _ _
  · rw [hr]
    rcases Nat.lt_or_ge j l.length with hlt | hge
    · rw [List.drop_eq_getElem_cons hlt, runLen, if_neg (h _ (List.getElem?_eq_getElem hlt))]; rfl
    · rw [List.drop_of_length_le hge]; rfl
theorem h_deliver (x : LEnd) (f : LFrame) (hl : x.held.length ≤ 7) (hw : 1 ≤ x.want ∧ x.want < 1099511627776) (hk : vs.lookup k = some (endC x)) (hN : k < N) :
    HC Tryd.prog 42 [.pt k 0, frD f] ⟨vs, lv, N⟩ (.e (.sl 1 (runLen (x.want + 1) x.held + 1) ((f.data :: (x.held.take (runLen (x.want + 1) x.held)).map (·.2)).map sE)))
      ⟨(k, endC { x with want := x.want + 1 + runLen (x.want + 1) x.held, held := x.held.drop (runLen (x.want + 1) x.held) }) :: vs, lv, N⟩ := by
  unfold frD
  unfold endC at hk ⊢
  refine HC.of (rs := [.tmp 4]) tok Tryd.func42 rfl rfl (Nat.le_of_ble_eq_true rfl) rfl (fun cx hx h0 hok => ?_)
  simp only [argsT, Nat.reduceAdd, Nat.zero_add]
  refine AW.seq ?_
  refine AW.regS tbl (by rw [hx]; kernel_rfl) (fun K hK => ?_)
  iterate 2 refine st tok (by rfl) (by simp (disch := omega) only [sim_box, seval, Ty.agg, tb_3, tb_9, tb_23, hk, beq_lt0 hN, beq_lt hN, beq_gt0 hN, beq_gt hN, sim_assign, tb_36]; (repeat' refine And.intro ?_ ?_) <;> first | exact Kq.here _ _ | omega | assumption | with_reducible rfl) ?_
  refine SOps.nil (hK _ _ ?_)
  clear hK
  dsimp only
  refine AW.seq ?_
  refine AW.regS tbl (by rw [hx]; kernel_rfl) (fun K hK => ?_)
  iterate 4 refine st tok (by rfl) (by simp (disch := omega) only [sim_fieldAddr, ↓fieldOff_eq, seval, Ty.agg, tb_3, tb_9, tb_23, hk, beq_lt0 hN, beq_lt hN, beq_gt0 hN, beq_gt hN, sim_load, sim_buildSlice, tb_36, sim_assign]; (repeat' refine And.intro ?_ ?_) <;> first | exact Kq.here _ _ | omega | assumption | with_reducible rfl) ?_
  refine SOps.nil (hK _ _ ?_)
  clear hK
  dsimp only
  refine AW.seq ?_
  refine AW.regS tbl (by rw [hx]; kernel_rfl) (fun K hK => ?_)
  iterate 8 (first | refine st tok (by rfl) (by simp (disch := omega) only [sim_move, seval, Ty.agg, hk, beq_lt0 hN, beq_lt hN, beq_gt0 hN, beq_gt hN, sim_nilCheck, sim_fieldAddr, ↓fieldOff_eq, tb_3, tb_9, tb_36, tb_37, tb_39, tb_51, sim_load, sim_binOp, sim_store]; (repeat' refine And.intro ?_ ?_) <;> first | exact Kq.here _ _ | omega | assumption | with_reducible rfl) ?_ | refine st_n tok (by rfl) (by simp (disch := omega) only [sim_move, seval, Ty.agg, hk, beq_lt0 hN, beq_lt hN, beq_gt0 hN, beq_gt hN, sim_nilCheck, sim_fieldAddr, ↓fieldOff_eq, tb_3, tb_9, tb_36, tb_37, tb_39, tb_51, sim_load, sim_binOp, sim_store]; (repeat' refine And.intro ?_ ?_) <;> first | exact Kq.here _ _ | omega | assumption | with_reducible rfl) ?_)
  refine SOps.nil (hK _ _ ?_)
  clear hK
  dsimp only
  refine AW.keep [0, 5] ?_
  simp only [keepT_cons, keepT_nil, keepO_some, keepO_none, lk_cons, lk_nil, Nat.reduceBEq, cond_true, cond_false]
  refine AW.seq ?_
  refine AW.block ?_
  -- stop: loop (live 0:x, 5:out)
  refine AW.loopW (fun j : Nat => [(0, .pt k 0), (5, .own (N + 1 + 1) 1 (j + 1) ((f.data :: (x.held.take j).map (·.2)).map sE))]) (fun j => ⟨(k, [.e (.lit (.int .i64 x.base)), .e (.sl 1 x.queue.length (x.queue.map sE)), .e (.lit (.int .i64 (x.want + 1 + j))), .e (.sl 2 (x.held.drop j).length (hE (x.held.drop j)))]) :: (N, [.e (.lit (.int .i64 f.seq)), .e (.lit (.int .i64 f.ack)), .e (.lit (.string f.data))]) :: vs, (N + 1 + 1, j + 1, 1, 9) :: lv, N + 1 + 1 + 1⟩) (fun j => runLen (x.want + 1) x.held = j + runLen (x.want + 1 + j) (x.held.drop j) ∧ x.want + 1 + j ≤ 1099511627776) (fun j => x.held.length - j) 0 ?_ ⟨by simp, by omega⟩ ?_
  · skip
    apply Wk.fin (ks := [k, N]) (kl := [N + 1 + 1]) h0 hok
    case hN => omega
    case hm => omega
    case hv => repeat first | exact TgtV.base | (refine TgtV.cons ⟨by omega, ?_, ?_⟩ ?_; (focus (simp (maxSteps := 2000000) (disch := omega) only [sim_all, ↓fieldOff_eq, ↓newsV_eq, ↓sliceV_eq, ↓lenV_eq, seval, Ty.agg, tb_all, Int.natCast_zero, Int.add_zero, List.drop_zero, List.take_zero, List.map_nil, List.map_cons, sE, hk, beq_lt0 hN, beq_lt hN, beq_gt0 hN, beq_gt hN, wksL, D.leC, D.e.injEq, E.sl.injEq, exists_eq_right, exists_eq_right', D.idsB, D.idsC, decide_eq_true_eq, List.all_cons, List.all_nil, true_or, or_true]; done)); (focus (simp (maxSteps := 2000000) (disch := omega) only [sim_all, ↓fieldOff_eq, ↓newsV_eq, ↓sliceV_eq, ↓lenV_eq, seval, Ty.agg, tb_all, Int.natCast_zero, Int.add_zero, List.drop_zero, List.take_zero, List.map_nil, List.map_cons, sE, hk, beq_lt0 hN, beq_lt hN, beq_gt0 hN, beq_gt hN, wksL, D.leC, D.e.injEq, E.sl.injEq, exists_eq_right, exists_eq_right', D.idsB, D.idsC, decide_eq_true_eq, List.all_cons, List.all_nil, true_or, or_true]; done)))
    case hc => repeat first | exact Cov.base | refine Cov.cons (by first | (left; omega) | (right; simp)) ?_
    case hl => repeat first | exact TgtL.base | (refine TgtL.cons ⟨by omega, ?_⟩ ?_; (focus (simp (maxSteps := 2000000) (disch := omega) only [sim_all, ↓fieldOff_eq, ↓newsV_eq, ↓sliceV_eq, ↓lenV_eq, seval, Ty.agg, tb_all, Int.natCast_zero, Int.add_zero, List.drop_zero, List.take_zero, List.map_nil, List.map_cons, sE, hk, beq_lt0 hN, beq_lt hN, beq_gt0 hN, beq_gt hN, wksL, D.leC, D.e.injEq, E.sl.injEq, exists_eq_right, exists_eq_right', D.idsB, D.idsC, decide_eq_true_eq, List.all_cons, List.all_nil, true_or, or_true]; done)))
    case hcl => repeat first | exact Cov.base | refine Cov.cons (by first | (left; omega) | (right; simp)) ?_
    all_goals simp (maxSteps := 2000000) (disch := omega) only [sim_all, ↓fieldOff_eq, ↓newsV_eq, ↓sliceV_eq, ↓lenV_eq, seval, Ty.agg, tb_all, Int.natCast_zero, Int.add_zero, List.drop_zero, List.take_zero, List.map_nil, List.map_cons, sE, hk, beq_lt0 hN, beq_lt hN, beq_gt0 hN, beq_gt hN, wksL, D.leC, D.e.injEq, E.sl.injEq, exists_eq_right, exists_eq_right', D.idsB, D.idsC, decide_eq_true_eq, List.all_cons, List.all_nil, true_or, or_true]
    all_goals (try omega)
  · intro j ⟨hr, hj⟩
    obtain ⟨hjl, hyes, hno⟩ := runLen_at hr
    refine AW.seq ?_
    refine AW.seq ?_
    refine AW.drwS tbl [] (by kernel_rfl) (by rw [hx]; kernel_rfl) (by kernel_rfl) (fun K hK => ?_)
    iterate 7 refine st tok (by rfl) (by simp (disch := omega) only [sim_move, seval, Ty.agg, hE_z0, hE_z1, hE_length, hk, beq_lt0 hN, beq_lt hN, beq_gt0 hN, beq_gt hN, sim_nilCheck, sim_fieldAddr, ↓fieldOff_eq, tb_3, tb_9, tb_36, tb_37, tb_39, tb_51, sim_load, sim_call, ↓newsV_eq, ↓lenV_eq, sim_binOp]; (repeat' refine And.intro ?_ ?_) <;> first | exact Kq.here _ _ | omega | assumption | with_reducible rfl) ?_
    refine st_opt tok (by rfl) rfl (by simp only [sim_ev, Nat.reduceBEq]; rfl) (bq_t _) (fun hgd => by (have hgq := hgd; (try simp only [sim_bool] at hgq)); simp (disch := omega) only [hgd, sim_un, sim_move, seval, Ty.agg, hE_z0, hE_z1, hE_length, hk, beq_lt0 hN, beq_lt hN, beq_gt0 hN, beq_gt hN]; (repeat' refine And.intro ?_ ?_) <;> first | exact Kq.here _ _ | omega | assumption | with_reducible rfl) (by first | exact Or.inl rfl | exact Or.inr ⟨_, _, _, .tmp 0, rfl, by simp [Op.operands, Call.operands], by simp only [sim_ev, Nat.reduceBEq]; first | exact Or.inl rfl | exact Or.inr ⟨_, rfl⟩⟩) ?_
    refine st_opt tok (by rfl) rfl (by simp only [sim_ev, Nat.reduceBEq]; rfl) (bq_t _) (fun hgd => by (have hgq := hgd; (try simp only [sim_bool] at hgq)); simp (disch := omega) only [hgd, sim_un, sim_nilCheck, seval, Ty.agg, hE_z0, hE_z1, hE_length, hk, beq_lt0 hN, beq_lt hN, beq_gt0 hN, beq_gt hN]; (repeat' refine And.intro ?_ ?_) <;> first | exact Kq.here _ _ | omega | assumption | with_reducible rfl) (by first | exact Or.inl rfl | exact Or.inr ⟨_, _, _, .tmp 23, rfl, by simp [Op.operands, Call.operands], by simp only [sim_ev, Nat.reduceBEq]; first | exact Or.inl rfl | exact Or.inr ⟨_, rfl⟩⟩) ?_
    refine st_opt tok (by rfl) rfl (by simp only [sim_ev, Nat.reduceBEq]; rfl) (bq_t _) (fun hgd => by (have hgq := hgd; (try simp only [sim_bool] at hgq)); simp (disch := omega) only [hgd, sim_un, sim_fieldAddr, ↓fieldOff_eq, seval, Ty.agg, tb_3, tb_9, tb_36, tb_37, tb_39, tb_51, hE_z0, hE_z1, hE_length, hk, beq_lt0 hN, beq_lt hN, beq_gt0 hN, beq_gt hN]; (repeat' refine And.intro ?_ ?_) <;> first | exact Kq.here _ _ | omega | assumption | with_reducible rfl) (by first | exact Or.inl rfl | exact Or.inr ⟨_, _, _, .tmp 24, rfl, by simp [Op.operands, Call.operands], by simp only [sim_ev, Nat.reduceBEq]; first | exact Or.inl rfl | exact Or.inr ⟨_, rfl⟩⟩) ?_
    refine st_opt tok (by rfl) rfl (by simp only [sim_ev, Nat.reduceBEq]; rfl) (bq_t _) (fun hgd => by (have hgq := hgd; (try simp only [sim_bool] at hgq)); simp (disch := omega) only [hgd, sim_un, sim_load, seval, Ty.agg, tb_3, tb_9, tb_37, tb_51, hE_z0, hE_z1, hE_length, hk, beq_lt0 hN, beq_lt hN, beq_gt0 hN, beq_gt hN]; (repeat' refine And.intro ?_ ?_) <;> first | exact Kq.here _ _ | omega | assumption | with_reducible rfl) (by first | exact Or.inl rfl | exact Or.inr ⟨_, _, _, .tmp 25, rfl, by simp [Op.operands, Call.operands], by simp only [sim_ev, Nat.reduceBEq]; first | exact Or.inl rfl | exact Or.inr ⟨_, rfl⟩⟩) ?_
    refine st_opt tok (by rfl) rfl (by simp only [sim_ev, Nat.reduceBEq]; rfl) (bq_t _) (fun hgd => by (have hgq := hgd; (try simp only [sim_bool] at hgq)); simp (disch := omega) only [hgd, sim_un, sim_indexAddr, seval, Ty.agg, tb_3, tb_9, tb_37, tb_51, hE_z0, hE_z1, hE_length, hk, beq_lt0 hN, beq_lt hN, beq_gt0 hN, beq_gt hN]; (repeat' refine And.intro ?_ ?_) <;> first | exact Kq.here _ _ | omega | assumption | with_reducible rfl) (by first | exact Or.inl rfl | exact Or.inr ⟨_, _, _, .tmp 26, rfl, by simp [Op.operands, Call.operands], by simp only [sim_ev, Nat.reduceBEq]; first | exact Or.inl rfl | exact Or.inr ⟨_, rfl⟩⟩) ?_
    refine st_opt tok (by rfl) rfl (by simp only [sim_ev, Nat.reduceBEq]; rfl) (bq_t _) (fun hgd => by (have hgq := hgd; (try simp only [sim_bool] at hgq)); simp (disch := omega) only [hgd, sim_un, sim_fieldAddr, ↓fieldOff_eq, seval, Ty.agg, tb_3, tb_9, tb_51, hE_z0, hE_z1, hE_length, hk, beq_lt0 hN, beq_lt hN, beq_gt0 hN, beq_gt hN]; (repeat' refine And.intro ?_ ?_) <;> first | exact Kq.here _ _ | omega | assumption | with_reducible rfl) (by first | exact Or.inl rfl | exact Or.inr ⟨_, _, _, .tmp 27, rfl, by simp [Op.operands, Call.operands], by simp only [sim_ev, Nat.reduceBEq]; first | exact Or.inl rfl | exact Or.inr ⟨_, rfl⟩⟩) ?_
    refine st_opt tok (by rfl) rfl (by simp only [sim_ev, Nat.reduceBEq]; rfl) (bq_t _) (fun hgd => by (have hgq := hgd; (try simp only [sim_bool] at hgq)); simp (disch := omega) only [hgd, sim_un, sim_load, seval, Ty.agg, tb_3, hE_z0, hE_z1, hE_length, hk, beq_lt0 hN, beq_lt hN, beq_gt0 hN, beq_gt hN]; (repeat' refine And.intro ?_ ?_) <;> first | exact Kq.here _ _ | omega | assumption | with_reducible rfl) (by first | exact Or.inl rfl | exact Or.inr ⟨_, _, _, .tmp 28, rfl, by simp [Op.operands, Call.operands], by simp only [sim_ev, Nat.reduceBEq]; first | exact Or.inl rfl | exact Or.inr ⟨_, rfl⟩⟩) ?_
    refine st_opt tok (by rfl) rfl (by simp only [sim_ev, Nat.reduceBEq]; rfl) (bq_t _) (fun hgd => by (have hgq := hgd; (try simp only [sim_bool] at hgq)); simp (disch := omega) only [hgd, sim_un, sim_move, seval, Ty.agg, hE_z0, hE_z1, hE_length, hk, beq_lt0 hN, beq_lt hN, beq_gt0 hN, beq_gt hN]; (repeat' refine And.intro ?_ ?_) <;> first | exact Kq.here _ _ | omega | assumption | with_reducible rfl) (by first | exact Or.inl rfl | exact Or.inr ⟨_, _, _, .tmp 0, rfl, by simp [Op.operands, Call.operands], by simp only [sim_ev, Nat.reduceBEq]; first | exact Or.inl rfl | exact Or.inr ⟨_, rfl⟩⟩) ?_
    refine st_opt tok (by rfl) rfl (by simp only [sim_ev, Nat.reduceBEq]; rfl) (bq_t _) (fun hgd => by (have hgq := hgd; (try simp only [sim_bool] at hgq)); simp (disch := omega) only [hgd, sim_un, sim_nilCheck, seval, Ty.agg, hE_z0, hE_z1, hE_length, hk, beq_lt0 hN, beq_lt hN, beq_gt0 hN, beq_gt hN]; (repeat' refine And.intro ?_ ?_) <;> first | exact Kq.here _ _ | omega | assumption | with_reducible rfl) (by first | exact Or.inl rfl | exact Or.inr ⟨_, _, _, .tmp 30, rfl, by simp [Op.operands, Call.operands], by simp only [sim_ev, Nat.reduceBEq]; first | exact Or.inl rfl | exact Or.inr ⟨_, rfl⟩⟩) ?_
    refine st_opt tok (by rfl) rfl (by simp only [sim_ev, Nat.reduceBEq]; rfl) (bq_t _) (fun hgd => by (have hgq := hgd; (try simp only [sim_bool] at hgq)); simp (disch := omega) only [hgd, sim_un, sim_fieldAddr, ↓fieldOff_eq, seval, Ty.agg, tb_3, tb_9, tb_36, tb_37, tb_39, tb_51, hE_z0, hE_z1, hE_length, hk, beq_lt0 hN, beq_lt hN, beq_gt0 hN, beq_gt hN]; (repeat' refine And.intro ?_ ?_) <;> first | exact Kq.here _ _ | omega | assumption | with_reducible rfl) (by first | exact Or.inl rfl | exact Or.inr ⟨_, _, _, .tmp 31, rfl, by simp [Op.operands, Call.operands], by simp only [sim_ev, Nat.reduceBEq]; first | exact Or.inl rfl | exact Or.inr ⟨_, rfl⟩⟩) ?_
    refine st_opt tok (by rfl) rfl (by simp only [sim_ev, Nat.reduceBEq]; rfl) (bq_t _) (fun hgd => by (have hgq := hgd; (try simp only [sim_bool] at hgq)); simp (disch := omega) only [hgd, sim_un, sim_load, seval, Ty.agg, tb_3, hE_z0, hE_z1, hE_length, hk, beq_lt0 hN, beq_lt hN, beq_gt0 hN, beq_gt hN]; (repeat' refine And.intro ?_ ?_) <;> first | exact Kq.here _ _ | omega | assumption | with_reducible rfl) (by first | exact Or.inl rfl | exact Or.inr ⟨_, _, _, .tmp 32, rfl, by simp [Op.operands, Call.operands], by simp only [sim_ev, Nat.reduceBEq]; first | exact Or.inl rfl | exact Or.inr ⟨_, rfl⟩⟩) ?_
    refine st_opt tok (by rfl) rfl (by simp only [sim_ev, Nat.reduceBEq]; rfl) (bq_t _) (fun hgd => by (have hgq := hgd; (try simp only [sim_bool] at hgq)); simp (disch := omega) only [hgd, sim_un, sim_binOp, seval, Ty.agg, tb_3, hE_z0, hE_z1, hE_length, hk, beq_lt0 hN, beq_lt hN, beq_gt0 hN, beq_gt hN]; (repeat' refine And.intro ?_ ?_) <;> first | exact Kq.here _ _ | omega | assumption | with_reducible rfl) (by first | exact Or.inl rfl | exact Or.inr ⟨_, _, _, .tmp 29, rfl, by simp [Op.operands, Call.operands], by simp only [sim_ev, Nat.reduceBEq]; first | exact Or.inl rfl | exact Or.inr ⟨_, rfl⟩⟩) ?_
    refine st_and tok (by simp only [sim_ev, Nat.reduceBEq]; rfl) (fun hgd => by simp only [sim_ev, Nat.reduceBEq, sim_un, hgd, cond_true, Bool.not_false, Bool.not_true]; rfl) ?_
    refine st tok (by rfl) (by simp (disch := omega) only [sim_move, seval, Ty.agg, hE_z0, hE_z1, hE_length, hk, beq_lt0 hN, beq_lt hN, beq_gt0 hN, beq_gt hN]; (repeat' refine And.intro ?_ ?_) <;> first | exact Kq.here _ _ | omega | assumption | with_reducible rfl) ?_
    refine st_opt tok (by rfl) rfl (by simp only [sim_ev, Nat.reduceBEq]; rfl) (bq_t _) (fun hgd => by (have hgq := hgd; (try simp only [sim_bool] at hgq)); simp (disch := omega) only [hgd, sim_un, sim_move, seval, Ty.agg, hE_z0, hE_z1, hE_length, hk, beq_lt0 hN, beq_lt hN, beq_gt0 hN, beq_gt hN]; (repeat' refine And.intro ?_ ?_) <;> first | exact Kq.here _ _ | omega | assumption | with_reducible rfl) (by first | exact Or.inl rfl | exact Or.inr ⟨_, _, _, .tmp 0, rfl, by simp [Op.operands, Call.operands], by simp only [sim_ev, Nat.reduceBEq]; first | exact Or.inl rfl | exact Or.inr ⟨_, rfl⟩⟩) ?_
    refine st_opt tok (by rfl) rfl (by simp only [sim_ev, Nat.reduceBEq]; rfl) (bq_t _) (fun hgd => by (have hgq := hgd; (try simp only [sim_bool] at hgq)); simp (disch := omega) only [hgd, sim_un, sim_nilCheck, seval, Ty.agg, hE_z0, hE_z1, hE_length, hk, beq_lt0 hN, beq_lt hN, beq_gt0 hN, beq_gt hN]; (repeat' refine And.intro ?_ ?_) <;> first | exact Kq.here _ _ | omega | assumption | with_reducible rfl) (by first | exact Or.inl rfl | exact Or.inr ⟨_, _, _, .tmp 37, rfl, by simp [Op.operands, Call.operands], by simp only [sim_ev, Nat.reduceBEq]; first | exact Or.inl rfl | exact Or.inr ⟨_, rfl⟩⟩) ?_
    refine st_opt tok (by rfl) rfl (by simp only [sim_ev, Nat.reduceBEq]; rfl) (bq_t _) (fun hgd => by (have hgq := hgd; (try simp only [sim_bool] at hgq)); simp (disch := omega) only [hgd, sim_un, sim_fieldAddr, ↓fieldOff_eq, seval, Ty.agg, tb_3, tb_9, tb_36, tb_37, tb_39, tb_51, hE_z0, hE_z1, hE_length, hk, beq_lt0 hN, beq_lt hN, beq_gt0 hN, beq_gt hN]; (repeat' refine And.intro ?_ ?_) <;> first | exact Kq.here _ _ | omega | assumption | with_reducible rfl) (by first | exact Or.inl rfl | exact Or.inr ⟨_, _, _, .tmp 38, rfl, by simp [Op.operands, Call.operands], by simp only [sim_ev, Nat.reduceBEq]; first | exact Or.inl rfl | exact Or.inr ⟨_, rfl⟩⟩) ?_
    refine st_opt tok (by rfl) rfl (by simp only [sim_ev, Nat.reduceBEq]; rfl) (bq_t _) (fun hgd => by (have hgq := hgd; (try simp only [sim_bool] at hgq)); simp (disch := omega) only [hgd, sim_un, sim_load, seval, Ty.agg, tb_3, hE_z0, hE_z1, hE_length, hk, beq_lt0 hN, beq_lt hN, beq_gt0 hN, beq_gt hN]; (repeat' refine And.intro ?_ ?_) <;> first | exact Kq.here _ _ | omega | assumption | with_reducible rfl) (by first | exact Or.inl rfl | exact Or.inr ⟨_, _, _, .tmp 39, rfl, by simp [Op.operands, Call.operands], by simp only [sim_ev, Nat.reduceBEq]; first | exact Or.inl rfl | exact Or.inr ⟨_, rfl⟩⟩) ?_
    refine st_opt tok (by rfl) rfl (by simp only [sim_ev, Nat.reduceBEq]; rfl) (bq_t _) (fun hgd => by (have hgq := hgd; (try simp only [sim_bool] at hgq)); simp (disch := omega) only [hgd, sim_un, sim_binOp, seval, Ty.agg, tb_3, hE_z0, hE_z1, hE_length, hk, beq_lt0 hN, beq_lt hN, beq_gt0 hN, beq_gt hN]; (repeat' refine And.intro ?_ ?_) <;> first | exact Kq.here _ _ | omega | assumption | with_reducible rfl) (by first | exact Or.inl rfl | exact Or.inr ⟨_, _, _, .tmp 40, rfl, by simp [Op.operands, Call.operands], by simp only [sim_ev, Nat.reduceBEq]; first | exact Or.inl rfl | exact Or.inr ⟨_, rfl⟩⟩) ?_
    refine st_and tok (by simp only [sim_ev, Nat.reduceBEq]; rfl) (fun hgd => by simp only [sim_ev, Nat.reduceBEq, sim_un, hgd, cond_true, Bool.not_false, Bool.not_true]; rfl) ?_
    refine SOps.nil (hK _ _ ?_)
    clear hK
    dsimp only
    refine AW.keep [0, 5, 42] ?_
    simp only [keepT_cons, keepT_nil, keepO_some, keepO_none, lk_cons, lk_nil, Nat.reduceBEq, cond_true, cond_false]
    -- stop: cond (live 0:x, 5:out, 42)
    refine AW.condS (by simp only [sim_ev, Nat.reduceBEq]; rfl) (fun h => ?_) (fun h => ?_)
    all_goals (try simp only [sim_bool] at h)
    · obtain ⟨⟨h1, h2⟩, h3⟩ := h
      have hlt : j < x.held.length := by rw [List.length_drop] at h1; omega
      have hd0 : (x.held.drop j)[0]! = x.held[j] := by rw [List.drop_eq_getElem_cons hlt]; rfl
      rw [hd0] at h2
      have hd1 : (x.held.drop j).drop 1 = x.held.drop (j + 1) := by rw [List.drop_drop]
      refine AW.skip ?_
      dsimp only
      refine AW.block ?_
      refine AW.seq ?_
      refine AW.regS tbl (by rw [hx]; kernel_rfl) (fun K hK => ?_)
      iterate 11 refine st tok (by rfl) (by simp (disch := omega) only [sim_move, seval, Ty.agg, hE_z1, hE_length, hE_t1, hE_t2, hk, beq_lt0 hN, beq_lt hN, beq_gt0 hN, beq_gt hN, sim_nilCheck, sim_fieldAddr, ↓fieldOff_eq, tb_3, tb_9, tb_36, tb_37, tb_39, tb_51, sim_load, sim_indexAddr, sim_buildSlice, sim_call, ↓newsV_eq, ↓lenV_eq, sim_assign]; (repeat' refine And.intro ?_ ?_) <;> first | exact Kq.here _ _ | omega | assumption | with_reducible rfl) ?_
      refine SOps.nil (hK _ _ ?_)
      clear hK
      dsimp only
      refine AW.keep [0, 5] ?_
      simp only [keepT_cons, keepT_nil, keepO_some, keepO_none, lk_cons, lk_nil, Nat.reduceBEq, cond_true, cond_false]
      refine AW.seq ?_
      refine AW.regS tbl (by rw [hx]; kernel_rfl) (fun K hK => ?_)
      iterate 9 (first | refine st tok (by rfl) (by simp (disch := omega) only [sim_move, seval, Ty.agg, hE_z1, hE_length, hE_t1, hE_t2, hk, beq_lt0 hN, beq_lt hN, beq_gt0 hN, beq_gt hN, sim_nilCheck, sim_fieldAddr, ↓fieldOff_eq, tb_3, tb_9, tb_36, tb_37, tb_39, tb_51, sim_load, sim_slice, ↓sliceV_eq, sim_store]; (repeat' refine And.intro ?_ ?_) <;> first | exact Kq.here _ _ | omega | assumption | with_reducible rfl) ?_ | refine st_n tok (by rfl) (by simp (disch := omega) only [sim_move, seval, Ty.agg, hE_z1, hE_length, hE_t1, hE_t2, hk, beq_lt0 hN, beq_lt hN, beq_gt0 hN, beq_gt hN, sim_nilCheck, sim_fieldAddr, ↓fieldOff_eq, tb_3, tb_9, tb_36, tb_37, tb_39, tb_51, sim_load, sim_slice, ↓sliceV_eq, sim_store]; (repeat' refine And.intro ?_ ?_) <;> first | exact Kq.here _ _ | omega | assumption | with_reducible rfl) ?_)
      refine SOps.nil (hK _ _ ?_)
      clear hK
      dsimp only
      refine AW.keep [0, 5] ?_
      simp only [keepT_cons, keepT_nil, keepO_some, keepO_none, lk_cons, lk_nil, Nat.reduceBEq, cond_true, cond_false]
      refine AW.regS tbl (by rw [hx]; kernel_rfl) (fun K hK => ?_)
      iterate 8 (first | refine st tok (by rfl) (by simp (disch := omega) only [sim_move, seval, Ty.agg, hE_z1, hE_length, hE_t1, hE_t2, hk, beq_lt0 hN, beq_lt hN, beq_gt0 hN, beq_gt hN, sim_nilCheck, sim_fieldAddr, ↓fieldOff_eq, tb_3, tb_9, tb_36, tb_37, tb_39, tb_51, sim_load, sim_binOp, sim_store]; (repeat' refine And.intro ?_ ?_) <;> first | exact Kq.here _ _ | omega | assumption | with_reducible rfl) ?_ | refine st_n tok (by rfl) (by simp (disch := omega) only [sim_move, seval, Ty.agg, hE_z1, hE_length, hE_t1, hE_t2, hk, beq_lt0 hN, beq_lt hN, beq_gt0 hN, beq_gt hN, sim_nilCheck, sim_fieldAddr, ↓fieldOff_eq, tb_3, tb_9, tb_36, tb_37, tb_39, tb_51, sim_load, sim_binOp, sim_store]; (repeat' refine And.intro ?_ ?_) <;> first | exact Kq.here _ _ | omega | assumption | with_reducible rfl) ?_)
      refine SOps.nil (hK _ _ ?_)
      clear hK
      dsimp only
      -- stop: round's end (live 0:x, 5:out)
      rw [hd0, hd1]
      refine ⟨j + 1, ?_, ⟨hyes _ (List.getElem?_eq_getElem hlt) h2 h3, by omega⟩, by omega⟩
      have ht : x.held.take (j + 1) = x.held.take j ++ [x.held[j]] := by rw [List.take_add_one, List.getElem?_eq_getElem hlt]; rfl
      have hn : x.want + 1 + ((j + 1 : Nat) : Int) = x.want + 1 + j + 1 := by omega
      rw [ht, hn]
      apply Wk.fin (ks := [k, N]) (kl := [N + 1 + 1]) h0 hok
      case hN => omega
      case hm => omega
      case hv => repeat first | exact TgtV.base | (refine TgtV.cons ⟨by omega, ?_, ?_⟩ ?_; (focus (simp (maxSteps := 2000000) (disch := omega) only [sim_all, ↓fieldOff_eq, ↓newsV_eq, ↓sliceV_eq, ↓lenV_eq, seval, Ty.agg, tb_all, List.map_append, List.map_cons, List.map_nil, sE, hk, beq_lt0 hN, beq_lt hN, beq_gt0 hN, beq_gt hN, wksL, D.leC, D.e.injEq, E.sl.injEq, exists_eq_right, exists_eq_right', D.idsB, D.idsC, decide_eq_true_eq, List.all_cons, List.all_nil, true_or, or_true]; done)); (focus (simp (maxSteps := 2000000) (disch := omega) only [sim_all, ↓fieldOff_eq, ↓newsV_eq, ↓sliceV_eq, ↓lenV_eq, seval, Ty.agg, tb_all, List.map_append, List.map_cons, List.map_nil, sE, hk, beq_lt0 hN, beq_lt hN, beq_gt0 hN, beq_gt hN, wksL, D.leC, D.e.injEq, E.sl.injEq, exists_eq_right, exists_eq_right', D.idsB, D.idsC, decide_eq_true_eq, List.all_cons, List.all_nil, true_or, or_true]; done)))
      case hc => repeat first | exact Cov.base | refine Cov.cons (by first | (left; omega) | (right; simp)) ?_
      case hl => repeat first | exact TgtL.base | (refine TgtL.cons ⟨by omega, ?_⟩ ?_; (focus (simp (maxSteps := 2000000) (disch := omega) only [sim_all, ↓fieldOff_eq, ↓newsV_eq, ↓sliceV_eq, ↓lenV_eq, seval, Ty.agg, tb_all, List.map_append, List.map_cons, List.map_nil, sE, hk, beq_lt0 hN, beq_lt hN, beq_gt0 hN, beq_gt hN, wksL, D.leC, D.e.injEq, E.sl.injEq, exists_eq_right, exists_eq_right', D.idsB, D.idsC, decide_eq_true_eq, List.all_cons, List.all_nil, true_or, or_true]; done)))
      case hcl => repeat first | exact Cov.base | refine Cov.cons (by first | (left; omega) | (right; simp)) ?_
      all_goals simp (maxSteps := 2000000) (disch := omega) only [sim_all, ↓fieldOff_eq, ↓newsV_eq, ↓sliceV_eq, ↓lenV_eq, seval, Ty.agg, tb_all, List.map_append, List.map_cons, List.map_nil, sE, hk, beq_lt0 hN, beq_lt hN, beq_gt0 hN, beq_gt hN, wksL, D.leC, D.e.injEq, E.sl.injEq, exists_eq_right, exists_eq_right', D.idsB, D.idsC, decide_eq_true_eq, List.all_cons, List.all_nil, true_or, or_true]
      all_goals (try omega)
    · have hj' : runLen (x.want + 1) x.held = j := hno fun g hg ⟨h1, h2⟩ => by
        obtain ⟨hlt, hg'⟩ := List.getElem?_eq_some_iff.1 hg
        have hd0 : (x.held.drop j)[0]! = x.held[j] := by rw [List.drop_eq_getElem_cons hlt]; rfl
        have := h ⟨by rw [List.length_drop]; omega, by rw [hd0, hg']; exact h1⟩
        omega
      refine AW.exit ?_
      dsimp only
      (try simp only [if_true, reduceIte, Nat.reduceEqDiff, reduceCtorEq])
      refine AW.seq ?_
      refine AW.regS tbl (by rw [hx]; kernel_rfl) (fun K hK => ?_)
      iterate 2 refine st tok (by rfl) (by simp (disch := omega) only [sim_move, seval, Ty.agg, hk, beq_lt0 hN, beq_lt hN, beq_gt0 hN, beq_gt hN, sim_assign, tb_9, tb_36]; (repeat' refine And.intro ?_ ?_) <;> first | exact Kq.here _ _ | omega | assumption | with_reducible rfl) ?_
      refine SOps.nil (hK _ _ ?_)
      clear hK
      dsimp only
      -- stop: ret (live 4)
      rw [hj']
      refine AW.ret ?_
      dsimp only
      refine retH1 (by simp only [sim_ev, Nat.reduceBEq]; rfl)  ?e ?w
      case e => ((try simp only [sim_ex]); all_goals (rfl))
      (try simp only [sim_ex])
      apply Wk.fin (ks := [k]) (kl := []) h0 hok
      case hN => omega
      case hm => omega
      case hv => repeat first | exact TgtV.base | (refine TgtV.cons ⟨by omega, ?_, ?_⟩ ?_; (focus (simp (maxSteps := 2000000) (disch := omega) only [sim_all, ↓fieldOff_eq, ↓newsV_eq, ↓sliceV_eq, ↓lenV_eq, seval, Ty.agg, tb_all, hk, beq_lt0 hN, beq_lt hN, beq_gt0 hN, beq_gt hN, wksL, D.leC, D.e.injEq, E.sl.injEq, exists_eq_right, exists_eq_right', D.idsB, D.idsC, decide_eq_true_eq, List.all_cons, List.all_nil, true_or, or_true]; done)); (focus (simp (maxSteps := 2000000) (disch := omega) only [sim_all, ↓fieldOff_eq, ↓newsV_eq, ↓sliceV_eq, ↓lenV_eq, seval, Ty.agg, tb_all, hk, beq_lt0 hN, beq_lt hN, beq_gt0 hN, beq_gt hN, wksL, D.leC, D.e.injEq, E.sl.injEq, exists_eq_right, exists_eq_right', D.idsB, D.idsC, decide_eq_true_eq, List.all_cons, List.all_nil, true_or, or_true]; done)))
      case hc => repeat first | exact Cov.base | refine Cov.cons (by first | (left; omega) | (right; simp)) ?_
      case hl => repeat first | exact TgtL.base | (refine TgtL.cons ⟨by omega, ?_⟩ ?_; (focus (simp (maxSteps := 2000000) (disch := omega) only [sim_all, ↓fieldOff_eq, ↓newsV_eq, ↓sliceV_eq, ↓lenV_eq, seval, Ty.agg, tb_all, hk, beq_lt0 hN, beq_lt hN, beq_gt0 hN, beq_gt hN, wksL, D.leC, D.e.injEq, E.sl.injEq, exists_eq_right, exists_eq_right', D.idsB, D.idsC, decide_eq_true_eq, List.all_cons, List.all_nil, true_or, or_true]; done)))
      case hcl => repeat first | exact Cov.base | refine Cov.cons (by first | (left; omega) | (right; simp)) ?_
      all_goals simp (maxSteps := 2000000) (disch := omega) only [sim_all, ↓fieldOff_eq, ↓newsV_eq, ↓sliceV_eq, ↓lenV_eq, seval, Ty.agg, tb_all, hk, beq_lt0 hN, beq_lt hN, beq_gt0 hN, beq_gt hN, wksL, D.leC, D.e.injEq, E.sl.injEq, exists_eq_right, exists_eq_right', D.idsB, D.idsC, decide_eq_true_eq, List.all_cons, List.all_nil, true_or, or_true]
      all_goals (try omega)
end
end
def stage (x : LEnd) (f : LFrame) : Nat → LEnd
  | 0 => x
  | 1 => x.acked f
  | 2 => (x.acked f).holds f
  | _ => (((x.acked f).holds f).gives f).1
def outs (x : LEnd) (f : LFrame) : Nat → List ByteArray
  | 3 => (((x.acked f).holds f).gives f).2
  | _ => []
def zeroC : List D := [.e (.lit (.int .i64 0)), .e (.lit (.slice none 0 0)), .e (.lit (.int .i64 0)), .e (.lit (.slice none 0 0))]
def handD : D := .own 7 2 3 [.lit (.func (.func 36) #[] #[]), .lit (.func (.func 37) #[] #[]), .lit (.func (.func 38) #[] #[]), .lit (.func (.func 40) #[] #[]), .lit (.func (.func 41) #[] #[]), .lit (.func (.func 42) #[] #[])]
theorem putHeld_any (m : Int) (d : ByteArray) : ∀ {n : Int} {l : List LHeld}, Grows n l → (l.any fun g => decide (g.1 = m)) = true → putHeld (m, d) l = l
  | _, [], _, h => by simp at h
  | n, g :: l, hg, h => by
    unfold putHeld
    by_cases he : g.1 = m
    · simp [he]
    · have h' : (l.any fun g => decide (g.1 = m)) = true := by simpa [he] using h
      obtain ⟨g', hm, he'⟩ := List.any_eq_true.1 h'
      have := grows_mem hg.2 g' hm
      simp only [decide_eq_true_eq] at he'
      rw [if_neg he, if_neg (by show ¬ m < g.1; omega), putHeld_any m d hg.2 h']
theorem a_Receive (x : LEnd) (f : LFrame) (hok' : x.Ok) : PCalls Tryd.prog 16 [endD x, frD f] (.tu [endD (x.receive f).1, .e (.sl 1 (x.receive f).2.length ((x.receive f).2.map sE))]) := by
  unfold endD frD
  have hq := hok'.ql
  have hl := hok'.held_len
  refine PCalls.of (rs := [.cell 4 39, .tmp 5]) tok Tryd.func16 rfl rfl (Nat.le_of_ble_eq_true rfl) rfl (fun cx hx h0 => ?_)
  simp only [argsT, Nat.reduceAdd, Nat.zero_add]
  have hok := HpOk.nil
  refine AW.seq ?_
  refine AW.regS tbl (by rw [hx]; kernel_rfl) (fun K hK => ?_)
  iterate 4 refine st tok (by rfl) (by simp (disch := omega) only [sim_box, seval, Ty.agg, tb_3, tb_9, tb_36, tb_37, tb_39, tb_51, tb_23, sim_alloc, sim_assign]; (repeat' refine And.intro ?_ ?_) <;> first | exact Kq.here _ _ | omega | assumption | with_reducible rfl) ?_
  refine SOps.nil (hK _ _ ?_)
  clear hK
  dsimp only
  refine AW.seq ?_
  refine AW.seq ?_
  refine AW.regS tbl (by rw [hx]; kernel_rfl) (fun K hK => ?_)
  refine st tok (by rfl) (by simp (disch := omega) only [sim_load, seval, Ty.agg, tb_3, tb_9, tb_23]; (repeat' refine And.intro ?_ ?_) <;> first | exact Kq.here _ _ | omega | assumption | with_reducible rfl) ?_
  -- stop: call ['f', 19] (line 116)
  refine st tok (by rfl) (by simp (disch := omega) only [sim_call, ↓newsV_eq, ↓lenV_eq, seval, Ty.agg, tb_3, tb_4, tb_9, tb_23]; (repeat refine And.intro (by omega) ?_); apply call_of; (case ha => simp only [sim_ex]; exact rfl); (case hc => exact (a_valid f)); (case hp1 => first | rfl | simp only [sim_pure]); (case h => ((try simp only [adopt_own, adopt_e, adopt_ag, adopt_tu, hp_tok, true_and]); exact Kq.here _ _))) ?_
  refine st tok (by rfl) (by simp (disch := omega) only [sim_unOp, seval, Ty.agg, tb_4]; (repeat' refine And.intro ?_ ?_) <;> first | exact Kq.here _ _ | omega | assumption | with_reducible rfl) ?_
  refine SOps.nil (hK _ _ ?_)
  clear hK
  dsimp only
  -- stop: cond (live 2:x, 3:f, 4, 11)
  refine AW.condS (by simp only [sim_ev, Nat.reduceBEq]; rfl) (fun h => ?_) (fun h => ?_)
  all_goals (try simp only [sim_bool] at h)
  · skip
    refine AW.seq ?_
    refine AW.regS tbl (by rw [hx]; kernel_rfl) (fun K hK => ?_)
    iterate 3 (first | refine st tok (by rfl) (by simp (disch := omega) only [sim_load, seval, Ty.agg, tb_3, tb_9, tb_36, tb_37, tb_39, tb_51, sim_store, sim_assign]; (repeat' refine And.intro ?_ ?_) <;> first | exact Kq.here _ _ | omega | assumption | with_reducible rfl) ?_ | refine st_n tok (by rfl) (by simp (disch := omega) only [sim_load, seval, Ty.agg, tb_3, tb_9, tb_36, tb_37, tb_39, tb_51, sim_store, sim_assign]; (repeat' refine And.intro ?_ ?_) <;> first | exact Kq.here _ _ | omega | assumption | with_reducible rfl) ?_)
    refine SOps.nil (hK _ _ ?_)
    clear hK
    dsimp only
    -- stop: ret (live 4, 5)
    have h' : ¬ f.okB = true := by rw [h]; simp
    simp only [LEnd.receive, if_neg h']
    refine AW.ret ?_
    dsimp only
    simp only [RetV, resD, sim_all, ↓fieldOff_eq, ↓newsV_eq, ↓sliceV_eq, ↓lenV_eq, seval, Ty.agg, tb_all]
    simp
  · skip
    refine AW.skip ?_
    dsimp only
    refine AW.seq ?_
    refine AW.drwS tbl [] (by kernel_rfl) (by rw [hx]; kernel_rfl) (by kernel_rfl) (fun K hK => ?_)
    iterate 2 refine st tok (by rfl) (by simp (disch := omega) only [sim_fieldAddr, ↓fieldOff_eq, seval, Ty.agg, tb_3, tb_9, tb_36, tb_37, tb_39, tb_51, sim_load]; (repeat' refine And.intro ?_ ?_) <;> first | exact Kq.here _ _ | omega | assumption | with_reducible rfl) ?_
    -- stop: call ['f', 34] (line 119)
    refine st tok (by rfl) (by simp (disch := omega) only [sim_call, ↓newsV_eq, ↓lenV_eq, seval, Ty.agg, tb_9, tb_36]; (repeat refine And.intro (by omega) ?_); apply call_of; (case ha => simp only [sim_ex]; exact rfl); (case hc => exact (a_cloneS _ _ (by omega))); (case hp1 => first | rfl | simp only [sim_pure]); (case h => ((try simp only [adopt_own, adopt_e, adopt_ag, adopt_tu, hp_tok, true_and]); exact Kq.here _ _))) ?_
    iterate 2 refine st tok (by rfl) (by simp (disch := omega) only [sim_fieldAddr, ↓fieldOff_eq, seval, Ty.agg, tb_3, tb_9, tb_36, tb_37, tb_39, tb_51, sim_load]; (repeat' refine And.intro ?_ ?_) <;> first | exact Kq.here _ _ | omega | assumption | with_reducible rfl) ?_
    -- stop: call ['f', 35] (line 119)
    refine st tok (by rfl) (by simp (disch := omega) only [sim_call, ↓newsV_eq, ↓lenV_eq, seval, Ty.agg, tb_3, tb_9, tb_37, tb_51]; (repeat refine And.intro (by omega) ?_); apply call_of; (case ha => simp only [sim_ex]; exact rfl); (case hc => exact (a_cloneH _ _ (by omega))); (case hp1 => first | rfl | simp only [sim_pure]); (case h => ((try simp only [adopt_own, adopt_e, adopt_ag, adopt_tu, hp_tok, true_and]); exact Kq.here _ _))) ?_
    iterate 4 (first | refine st tok (by rfl) (by simp (disch := omega) only [sim_fieldAddr, ↓fieldOff_eq, seval, Ty.agg, tb_3, tb_9, tb_36, tb_37, tb_39, tb_51, sim_store]; (repeat' refine And.intro ?_ ?_) <;> first | exact Kq.here _ _ | omega | assumption | with_reducible rfl) ?_ | refine st_n tok (by rfl) (by simp (disch := omega) only [sim_fieldAddr, ↓fieldOff_eq, seval, Ty.agg, tb_3, tb_9, tb_36, tb_37, tb_39, tb_51, sim_store]; (repeat' refine And.intro ?_ ?_) <;> first | exact Kq.here _ _ | omega | assumption | with_reducible rfl) ?_)
    refine SOps.nil (hK _ _ ?_)
    clear hK
    dsimp only
    refine AW.keep [2, 3, 4] ?_
    simp only [keepT_cons, keepT_nil, keepO_some, keepO_none, lk_cons, lk_nil, Nat.reduceBEq, cond_true, cond_false]
    refine AW.seq ?_
    refine AW.regS tbl (by rw [hx]; kernel_rfl) (fun K hK => ?_)
    refine st tok (by rfl) (by simp (disch := omega) only [sim_assign, seval, Ty.agg, tb_9, tb_36]; (repeat' refine And.intro ?_ ?_) <;> first | exact Kq.here _ _ | omega | assumption | with_reducible rfl) ?_
    refine SOps.nil (hK _ _ ?_)
    clear hK
    dsimp only
    refine AW.seq ?_
    refine AW.seq ?_
    refine AW.regS tbl (by rw [hx]; kernel_rfl) (fun K hK => ?_)
    iterate 6 refine st tok (by rfl) (by simp (disch := omega) only [sim_build, seval, Ty.agg, tb_70, tb_71, tb_73, sim_buildSlice, tb_75, sim_call, ↓newsV_eq, ↓lenV_eq, tb_3, sim_move]; (repeat' refine And.intro ?_ ?_) <;> first | exact Kq.here _ _ | omega | assumption | with_reducible rfl) ?_
    refine SOps.nil (hK _ _ ?_)
    clear hK
    dsimp only
    refine AW.keep [2, 3, 4, 6, 24, 25, 26] ?_
    simp only [keepT_cons, keepT_nil, keepO_some, keepO_none, lk_cons, lk_nil, Nat.reduceBEq, cond_true, cond_false]
    refine AW.block ?_
    -- stop: loop (live 2:x, 3:f, 4, 6:out, 24, 25, 26)
    refine AW.loopW (fun i : Nat => [(2, .pt 0 0), (3, .pt 1 0), (4, .pt 2 0), (6, .own 6 1 (outs x f i).length ((outs x f i).map sE)), (24, handD), (25, .e (.lit (.int .i64 3))), (26, .e (.lit (.int .i64 i)))]) (fun i => ⟨[(0, endC (stage x f i)), (2, zeroC), (1, frC f)], [(6, (outs x f i).length, 1, 9), (7, 3, 2, 73)], 8⟩) (fun i => i ≤ 3) (fun i => 3 - i) 0 ?_ (by omega) ?_
    · unfold endC stage outs zeroC frC handD
      apply Wk.fin (ks := [0, 2, 1]) (kl := [6, 7]) h0 hok
      case hN => omega
      case hm => omega
      case hv => repeat first | exact TgtV.base | (refine TgtV.cons ⟨by omega, ?_, ?_⟩ ?_; (focus (simp (maxSteps := 2000000) (disch := omega) only [sim_all, ↓fieldOff_eq, ↓newsV_eq, ↓sliceV_eq, ↓lenV_eq, seval, Ty.agg, tb_all, Int.natCast_zero, List.length_nil, List.map_nil, wksL, D.leC, D.e.injEq, E.sl.injEq, exists_eq_right, exists_eq_right', D.idsB, D.idsC, decide_eq_true_eq, List.all_cons, List.all_nil, true_or, or_true]; done)); (focus (simp (maxSteps := 2000000) (disch := omega) only [sim_all, ↓fieldOff_eq, ↓newsV_eq, ↓sliceV_eq, ↓lenV_eq, seval, Ty.agg, tb_all, Int.natCast_zero, List.length_nil, List.map_nil, wksL, D.leC, D.e.injEq, E.sl.injEq, exists_eq_right, exists_eq_right', D.idsB, D.idsC, decide_eq_true_eq, List.all_cons, List.all_nil, true_or, or_true]; done)))
      case hc => repeat first | exact Cov.base | refine Cov.cons (by first | (left; omega) | (right; simp)) ?_
      case hl => repeat first | exact TgtL.base | (refine TgtL.cons ⟨by omega, ?_⟩ ?_; (focus (simp (maxSteps := 2000000) (disch := omega) only [sim_all, ↓fieldOff_eq, ↓newsV_eq, ↓sliceV_eq, ↓lenV_eq, seval, Ty.agg, tb_all, Int.natCast_zero, List.length_nil, List.map_nil, wksL, D.leC, D.e.injEq, E.sl.injEq, exists_eq_right, exists_eq_right', D.idsB, D.idsC, decide_eq_true_eq, List.all_cons, List.all_nil, true_or, or_true]; done)))
      case hcl => repeat first | exact Cov.base | refine Cov.cons (by first | (left; omega) | (right; simp)) ?_
      all_goals simp (maxSteps := 2000000) (disch := omega) only [sim_all, ↓fieldOff_eq, ↓newsV_eq, ↓sliceV_eq, ↓lenV_eq, seval, Ty.agg, tb_all, Int.natCast_zero, List.length_nil, List.map_nil, wksL, D.leC, D.e.injEq, E.sl.injEq, exists_eq_right, exists_eq_right', D.idsB, D.idsC, decide_eq_true_eq, List.all_cons, List.all_nil, true_or, or_true]
      all_goals (try omega)
    · intro i hi
      unfold handD
      have o0 : outs x f 0 = [] := rfl
      have o1 : outs x f 1 = [] := rfl
      have o2 : outs x f 2 = [] := rfl
      have ok1 : (x.acked f).Ok := hok'.acked f
      have ok2 : ((x.acked f).holds f).Ok := ok1.holds (LFrame.okB_data h)
      rcases (by omega : i = 0 ∨ i = 1 ∨ i = 2 ∨ i = 3) with rfl | rfl | rfl | rfl
      · skip
        refine AW.seq ?_
        refine AW.regS tbl (by rw [hx]; kernel_rfl) (fun K hK => ?_)
        refine st tok (by rfl) (by simp (disch := omega) only [sim_binOp, seval, Ty.agg, tb_3, o0]; (repeat' refine And.intro ?_ ?_) <;> first | exact Kq.here _ _ | omega | assumption | with_reducible rfl) ?_
        refine SOps.nil (hK _ _ ?_)
        clear hK
        dsimp only
        refine AW.seq ?_
        -- stop: cond (live 2:x, 3:f, 4, 6:out, 24, 25, 26, 27)
        refine AW.cond (b := true) (by simp only [sim_ev, Nat.reduceBEq]; (try rfl)) ?_
        dsimp only
        refine AW.skip ?_
        dsimp only
        refine AW.seq ?_
        refine AW.block ?_
        refine AW.seq ?_
        refine AW.regS tbl (by rw [hx]; kernel_rfl) (fun K hK => ?_)
        iterate 4 (first | refine st tok (by rfl) (by simp (disch := omega) only [sim_indexAddr, seval, Ty.agg, tb_70, tb_71, tb_73, tb_75, frC, sim_load, sim_alloc, sim_store]; (repeat' refine And.intro ?_ ?_) <;> first | exact Kq.here _ _ | omega | assumption | with_reducible rfl) ?_ | refine st_n tok (by rfl) (by simp (disch := omega) only [sim_indexAddr, seval, Ty.agg, tb_70, tb_71, tb_73, tb_75, frC, sim_load, sim_alloc, sim_store]; (repeat' refine And.intro ?_ ?_) <;> first | exact Kq.here _ _ | omega | assumption | with_reducible rfl) ?_)
        refine SOps.nil (hK _ _ ?_)
        clear hK
        dsimp only
        refine AW.seq ?_
        refine AW.regS tbl (by rw [hx]; kernel_rfl) (fun K hK => ?_)
        iterate 3 refine st tok (by rfl) (by simp (disch := omega) only [sim_fieldAddr, ↓fieldOff_eq, seval, Ty.agg, tb_70, tb_71, tb_73, frC, sim_load, tb_3, tb_9, tb_23]; (repeat' refine And.intro ?_ ?_) <;> first | exact Kq.here _ _ | omega | assumption | with_reducible rfl) ?_
        -- stop: call ['t', 31] (line 130)
        refine st tok (by rfl) (by simp (disch := omega) only [sim_call, ↓newsV_eq, ↓lenV_eq, seval, Ty.agg, tb_3, tb_4, tb_9, tb_23, tb_69, frC]; (repeat refine And.intro (by omega) ?_); apply callH_of; (case hc => exact (h_recv1 x f hq ⟨hok'.b1, hok'.b2⟩ rfl (by omega))); (case hh => first | rfl | kernel_rfl); (case h => ((try simp only [adopt_own, adopt_e, adopt_ag, adopt_tu, hp_tok, true_and, frC]); exact Kq.here _ _))) ?_
        refine SOps.nil (hK _ _ ?_)
        clear hK
        dsimp only
        -- stop: cond (live 2:x, 3:f, 4, 6:out, 8:h, 24, 25, 26, 33)
        refine AW.condS (by simp only [sim_ev, Nat.reduceBEq]; rfl) (fun c => ?_) (fun c => ?_)
        all_goals (try simp only [sim_bool] at c)
        · skip
          refine AW.regS tbl (by rw [hx]; kernel_rfl) (fun K hK => ?_)
          iterate 4 refine st tok (by rfl) (by simp (disch := omega) only [sim_move, seval, Ty.agg, frC, sim_fieldAddr, ↓fieldOff_eq, tb_70, tb_71, tb_73, sim_load, tb_3, tb_9, tb_23]; (repeat' refine And.intro ?_ ?_) <;> first | exact Kq.here _ _ | omega | assumption | with_reducible rfl) ?_
          -- stop: call ['t', 36] (line 131)
          refine st tok (by rfl) (by simp (disch := omega) only [sim_call, ↓newsV_eq, ↓lenV_eq, seval, Ty.agg, tb_3, tb_9, tb_23, tb_36, tb_69, frC, o0]; (repeat refine And.intro (by omega) ?_); apply callH_of; (case hc => exact (h_acknowledge x f (by omega) c.2.1 hq ⟨hok'.b1, hok'.b2⟩ rfl (by omega))); (case hh => first | rfl | kernel_rfl); (case h => ((try simp only [adopt_own, adopt_e, adopt_ag, adopt_tu, hp_tok, true_and, frC, o0]); exact Kq.here _ _))) ?_
          iterate 2 refine st tok (by rfl) (by simp (disch := omega) only [sim_call, ↓newsV_eq, ↓lenV_eq, seval, Ty.agg, tb_9, tb_36, frC, o0, sim_assign]; (repeat' refine And.intro ?_ ?_) <;> first | exact Kq.here _ _ | omega | assumption | with_reducible rfl) ?_
          refine SOps.nil (hK _ _ ?_)
          clear hK
          dsimp only
          refine AW.keep [2, 3, 4, 6, 24, 25, 26] ?_
          simp only [keepT_cons, keepT_nil, keepO_some, keepO_none, lk_cons, lk_nil, Nat.reduceBEq, cond_true, cond_false]
          refine AW.regS tbl (by rw [hx]; kernel_rfl) (fun K hK => ?_)
          iterate 2 refine st tok (by rfl) (by simp (disch := omega) only [sim_binOp, seval, Ty.agg, tb_3, frC, o0, sim_move]; (repeat' refine And.intro ?_ ?_) <;> first | exact Kq.here _ _ | omega | assumption | with_reducible rfl) ?_
          refine SOps.nil (hK _ _ ?_)
          clear hK
          dsimp only
          -- stop: round's end (live 2:x, 3:f, 4, 6:out, 24, 25, 26)
          have e : ackd x f = stage x f 1 := by show ackd x f = x.acked f; unfold LEnd.acked ackd; rw [if_pos c]
          rw [e]
          refine ⟨1, ?_, by omega, by omega⟩
          apply Wk.fin (ks := [0, 2, 1]) (kl := [6, 7]) h0 hok
          case hN => omega
          case hm => omega
          case hv => repeat first | exact TgtV.base | (refine TgtV.cons ⟨by omega, ?_, ?_⟩ ?_; (focus (simp (maxSteps := 2000000) (disch := omega) only [sim_all, ↓fieldOff_eq, ↓newsV_eq, ↓sliceV_eq, ↓lenV_eq, seval, Ty.agg, tb_all, endC, zeroC, frC, o1, Int.natCast_one, wksL, D.leC, D.e.injEq, E.sl.injEq, exists_eq_right, exists_eq_right', D.idsB, D.idsC, decide_eq_true_eq, List.all_cons, List.all_nil, true_or, or_true]; done)); (focus (simp (maxSteps := 2000000) (disch := omega) only [sim_all, ↓fieldOff_eq, ↓newsV_eq, ↓sliceV_eq, ↓lenV_eq, seval, Ty.agg, tb_all, endC, zeroC, frC, o1, Int.natCast_one, wksL, D.leC, D.e.injEq, E.sl.injEq, exists_eq_right, exists_eq_right', D.idsB, D.idsC, decide_eq_true_eq, List.all_cons, List.all_nil, true_or, or_true]; done)))
          case hc => repeat first | exact Cov.base | refine Cov.cons (by first | (left; omega) | (right; simp)) ?_
          case hl => repeat first | exact TgtL.base | (refine TgtL.cons ⟨by omega, ?_⟩ ?_; (focus (simp (maxSteps := 2000000) (disch := omega) only [sim_all, ↓fieldOff_eq, ↓newsV_eq, ↓sliceV_eq, ↓lenV_eq, seval, Ty.agg, tb_all, endC, zeroC, frC, o1, Int.natCast_one, wksL, D.leC, D.e.injEq, E.sl.injEq, exists_eq_right, exists_eq_right', D.idsB, D.idsC, decide_eq_true_eq, List.all_cons, List.all_nil, true_or, or_true]; done)))
          case hcl => repeat first | exact Cov.base | refine Cov.cons (by first | (left; omega) | (right; simp)) ?_
          all_goals simp (maxSteps := 2000000) (disch := omega) only [sim_all, ↓fieldOff_eq, ↓newsV_eq, ↓sliceV_eq, ↓lenV_eq, seval, Ty.agg, tb_all, endC, zeroC, frC, o1, Int.natCast_one, wksL, D.leC, D.e.injEq, E.sl.injEq, exists_eq_right, exists_eq_right', D.idsB, D.idsC, decide_eq_true_eq, List.all_cons, List.all_nil, true_or, or_true]
          all_goals (try omega)
        · skip
          refine AW.skip ?_
          dsimp only
          refine AW.regS tbl (by rw [hx]; kernel_rfl) (fun K hK => ?_)
          iterate 2 refine st tok (by rfl) (by simp (disch := omega) only [sim_binOp, seval, Ty.agg, tb_3, sim_move]; (repeat' refine And.intro ?_ ?_) <;> first | exact Kq.here _ _ | omega | assumption | with_reducible rfl) ?_
          refine SOps.nil (hK _ _ ?_)
          clear hK
          dsimp only
          -- stop: round's end (live 2:x, 3:f, 4, 6:out, 24, 25, 26)
          have e : stage x f 0 = stage x f 1 := by show x = x.acked f; unfold LEnd.acked; rw [if_neg (fun hc => by have := c hc.1 hc.2.1; omega)]
          rw [e]
          refine ⟨1, ?_, by omega, by omega⟩
          apply Wk.fin (ks := [0, 2, 1]) (kl := [6, 7]) h0 hok
          case hN => omega
          case hm => omega
          case hv => repeat first | exact TgtV.base | (refine TgtV.cons ⟨by omega, ?_, ?_⟩ ?_; (focus (simp (maxSteps := 2000000) (disch := omega) only [sim_all, ↓fieldOff_eq, ↓newsV_eq, ↓sliceV_eq, ↓lenV_eq, seval, Ty.agg, tb_all, endC, zeroC, frC, o0, o1, Int.natCast_one, wksL, D.leC, D.e.injEq, E.sl.injEq, exists_eq_right, exists_eq_right', D.idsB, D.idsC, decide_eq_true_eq, List.all_cons, List.all_nil, true_or, or_true]; done)); (focus (simp (maxSteps := 2000000) (disch := omega) only [sim_all, ↓fieldOff_eq, ↓newsV_eq, ↓sliceV_eq, ↓lenV_eq, seval, Ty.agg, tb_all, endC, zeroC, frC, o0, o1, Int.natCast_one, wksL, D.leC, D.e.injEq, E.sl.injEq, exists_eq_right, exists_eq_right', D.idsB, D.idsC, decide_eq_true_eq, List.all_cons, List.all_nil, true_or, or_true]; done)))
          case hc => repeat first | exact Cov.base | refine Cov.cons (by first | (left; omega) | (right; simp)) ?_
          case hl => repeat first | exact TgtL.base | (refine TgtL.cons ⟨by omega, ?_⟩ ?_; (focus (simp (maxSteps := 2000000) (disch := omega) only [sim_all, ↓fieldOff_eq, ↓newsV_eq, ↓sliceV_eq, ↓lenV_eq, seval, Ty.agg, tb_all, endC, zeroC, frC, o0, o1, Int.natCast_one, wksL, D.leC, D.e.injEq, E.sl.injEq, exists_eq_right, exists_eq_right', D.idsB, D.idsC, decide_eq_true_eq, List.all_cons, List.all_nil, true_or, or_true]; done)))
          case hcl => repeat first | exact Cov.base | refine Cov.cons (by first | (left; omega) | (right; simp)) ?_
          all_goals simp (maxSteps := 2000000) (disch := omega) only [sim_all, ↓fieldOff_eq, ↓newsV_eq, ↓sliceV_eq, ↓lenV_eq, seval, Ty.agg, tb_all, endC, zeroC, frC, o0, o1, Int.natCast_one, wksL, D.leC, D.e.injEq, E.sl.injEq, exists_eq_right, exists_eq_right', D.idsB, D.idsC, decide_eq_true_eq, List.all_cons, List.all_nil, true_or, or_true]
          all_goals (try omega)
      · skip
        refine AW.seq ?_
        refine AW.regS tbl (by rw [hx]; kernel_rfl) (fun K hK => ?_)
        refine st tok (by rfl) (by simp (disch := omega) only [sim_binOp, seval, Ty.agg, tb_3, o1]; (repeat' refine And.intro ?_ ?_) <;> first | exact Kq.here _ _ | omega | assumption | with_reducible rfl) ?_
        refine SOps.nil (hK _ _ ?_)
        clear hK
        dsimp only
        refine AW.seq ?_
        -- stop: cond (live 2:x, 3:f, 4, 6:out, 24, 25, 26, 27)
        refine AW.cond (b := true) (by simp only [sim_ev, Nat.reduceBEq]; (try rfl)) ?_
        dsimp only
        refine AW.skip ?_
        dsimp only
        refine AW.seq ?_
        refine AW.block ?_
        refine AW.seq ?_
        refine AW.regS tbl (by rw [hx]; kernel_rfl) (fun K hK => ?_)
        iterate 4 (first | refine st tok (by rfl) (by simp (disch := omega) only [sim_indexAddr, seval, Ty.agg, tb_70, tb_71, tb_73, tb_75, frC, sim_load, sim_alloc, sim_store]; (repeat' refine And.intro ?_ ?_) <;> first | exact Kq.here _ _ | omega | assumption | with_reducible rfl) ?_ | refine st_n tok (by rfl) (by simp (disch := omega) only [sim_indexAddr, seval, Ty.agg, tb_70, tb_71, tb_73, tb_75, frC, sim_load, sim_alloc, sim_store]; (repeat' refine And.intro ?_ ?_) <;> first | exact Kq.here _ _ | omega | assumption | with_reducible rfl) ?_)
        refine SOps.nil (hK _ _ ?_)
        clear hK
        dsimp only
        refine AW.seq ?_
        refine AW.regS tbl (by rw [hx]; kernel_rfl) (fun K hK => ?_)
        iterate 3 refine st tok (by rfl) (by simp (disch := omega) only [sim_fieldAddr, ↓fieldOff_eq, seval, Ty.agg, tb_70, tb_71, tb_73, frC, sim_load, tb_3, tb_9, tb_23]; (repeat' refine And.intro ?_ ?_) <;> first | exact Kq.here _ _ | omega | assumption | with_reducible rfl) ?_
        -- stop: call ['t', 31] (line 130)
        refine st tok (by rfl) (by simp (disch := omega) only [sim_call, ↓newsV_eq, ↓lenV_eq, seval, Ty.agg, tb_3, tb_4, tb_9, tb_23, tb_69, frC]; (repeat refine And.intro (by omega) ?_); apply callH_of; (case hc => exact (h_recv2 (x.acked f) f ok1.held_len ⟨ok1.w1, ok1.w2⟩ rfl (by omega))); (case hh => first | rfl | kernel_rfl); (case h => ((try simp only [adopt_own, adopt_e, adopt_ag, adopt_tu, hp_tok, true_and, frC]); exact Kq.here _ _))) ?_
        refine SOps.nil (hK _ _ ?_)
        clear hK
        dsimp only
        -- stop: cond (live 2:x, 3:f, 4, 6:out, 8:h, 24, 25, 26, 33)
        refine AW.condS (by simp only [sim_ev, Nat.reduceBEq]; rfl) (fun c => ?_) (fun c => ?_)
        all_goals (try simp only [sim_bool] at c)
        · skip
          refine AW.regS tbl (by rw [hx]; kernel_rfl) (fun K hK => ?_)
          iterate 4 refine st tok (by rfl) (by simp (disch := omega) only [sim_move, seval, Ty.agg, frC, sim_fieldAddr, ↓fieldOff_eq, tb_70, tb_71, tb_73, sim_load, tb_3, tb_9, tb_23]; (repeat' refine And.intro ?_ ?_) <;> first | exact Kq.here _ _ | omega | assumption | with_reducible rfl) ?_
          -- stop: call ['t', 36] (line 131)
          refine st tok (by rfl) (by simp (disch := omega) only [sim_call, ↓newsV_eq, ↓lenV_eq, seval, Ty.agg, tb_3, tb_9, tb_23, tb_36, tb_69, frC, o1]; (repeat refine And.intro (by omega) ?_); apply callH_of; (case hc => exact (h_hold (x.acked f) f ok1.held_len ok1.hg c.2 rfl (by omega))); (case hh => first | rfl | kernel_rfl); (case h => ((try simp only [adopt_own, adopt_e, adopt_ag, adopt_tu, hp_tok, true_and, frC, o1]); exact Kq.here _ _))) ?_
          iterate 2 refine st tok (by rfl) (by simp (disch := omega) only [sim_call, ↓newsV_eq, ↓lenV_eq, seval, Ty.agg, tb_9, tb_36, frC, o1, sim_assign]; (repeat' refine And.intro ?_ ?_) <;> first | exact Kq.here _ _ | omega | assumption | with_reducible rfl) ?_
          refine SOps.nil (hK _ _ ?_)
          clear hK
          dsimp only
          refine AW.keep [2, 3, 4, 6, 24, 25, 26] ?_
          simp only [keepT_cons, keepT_nil, keepO_some, keepO_none, lk_cons, lk_nil, Nat.reduceBEq, cond_true, cond_false]
          refine AW.regS tbl (by rw [hx]; kernel_rfl) (fun K hK => ?_)
          iterate 2 refine st tok (by rfl) (by simp (disch := omega) only [sim_binOp, seval, Ty.agg, tb_3, frC, o1, sim_move]; (repeat' refine And.intro ?_ ?_) <;> first | exact Kq.here _ _ | omega | assumption | with_reducible rfl) ?_
          refine SOps.nil (hK _ _ ?_)
          clear hK
          dsimp only
          -- stop: round's end (live 2:x, 3:f, 4, 6:out, 24, 25, 26)
          have e : { x.acked f with held := putHeld (f.seq, f.data) (x.acked f).held } = stage x f 2 := by show _ = (x.acked f).holds f; unfold LEnd.holds; rw [if_pos (by omega)]
          rw [e]
          refine ⟨2, ?_, by omega, by omega⟩
          apply Wk.fin (ks := [0, 2, 1]) (kl := [6, 7]) h0 hok
          case hN => omega
          case hm => omega
          case hv => repeat first | exact TgtV.base | (refine TgtV.cons ⟨by omega, ?_, ?_⟩ ?_; (focus (simp (maxSteps := 2000000) (disch := omega) only [sim_all, ↓fieldOff_eq, ↓newsV_eq, ↓sliceV_eq, ↓lenV_eq, seval, Ty.agg, tb_all, endC, zeroC, frC, o2, wksL, D.leC, D.e.injEq, E.sl.injEq, exists_eq_right, exists_eq_right', D.idsB, D.idsC, decide_eq_true_eq, List.all_cons, List.all_nil, true_or, or_true]; done)); (focus (simp (maxSteps := 2000000) (disch := omega) only [sim_all, ↓fieldOff_eq, ↓newsV_eq, ↓sliceV_eq, ↓lenV_eq, seval, Ty.agg, tb_all, endC, zeroC, frC, o2, wksL, D.leC, D.e.injEq, E.sl.injEq, exists_eq_right, exists_eq_right', D.idsB, D.idsC, decide_eq_true_eq, List.all_cons, List.all_nil, true_or, or_true]; done)))
          case hc => repeat first | exact Cov.base | refine Cov.cons (by first | (left; omega) | (right; simp)) ?_
          case hl => repeat first | exact TgtL.base | (refine TgtL.cons ⟨by omega, ?_⟩ ?_; (focus (simp (maxSteps := 2000000) (disch := omega) only [sim_all, ↓fieldOff_eq, ↓newsV_eq, ↓sliceV_eq, ↓lenV_eq, seval, Ty.agg, tb_all, endC, zeroC, frC, o2, wksL, D.leC, D.e.injEq, E.sl.injEq, exists_eq_right, exists_eq_right', D.idsB, D.idsC, decide_eq_true_eq, List.all_cons, List.all_nil, true_or, or_true]; done)))
          case hcl => repeat first | exact Cov.base | refine Cov.cons (by first | (left; omega) | (right; simp)) ?_
          all_goals simp (maxSteps := 2000000) (disch := omega) only [sim_all, ↓fieldOff_eq, ↓newsV_eq, ↓sliceV_eq, ↓lenV_eq, seval, Ty.agg, tb_all, endC, zeroC, frC, o2, wksL, D.leC, D.e.injEq, E.sl.injEq, exists_eq_right, exists_eq_right', D.idsB, D.idsC, decide_eq_true_eq, List.all_cons, List.all_nil, true_or, or_true]
          all_goals (try omega)
        · skip
          refine AW.skip ?_
          dsimp only
          refine AW.regS tbl (by rw [hx]; kernel_rfl) (fun K hK => ?_)
          iterate 2 refine st tok (by rfl) (by simp (disch := omega) only [sim_binOp, seval, Ty.agg, tb_3, sim_move]; (repeat' refine And.intro ?_ ?_) <;> first | exact Kq.here _ _ | omega | assumption | with_reducible rfl) ?_
          refine SOps.nil (hK _ _ ?_)
          clear hK
          dsimp only
          -- stop: round's end (live 2:x, 3:f, 4, 6:out, 24, 25, 26)
          have e : stage x f 1 = stage x f 2 := by
            show x.acked f = (x.acked f).holds f
            unfold LEnd.holds
            split
            · rename_i hc
              have hkn := c ⟨hc.1, by omega⟩
              rw [putHeld_any f.seq f.data ok1.hg hkn]
            · rfl
          rw [e]
          refine ⟨2, ?_, by omega, by omega⟩
          apply Wk.fin (ks := [0, 2, 1]) (kl := [6, 7]) h0 hok
          case hN => omega
          case hm => omega
          case hv => repeat first | exact TgtV.base | (refine TgtV.cons ⟨by omega, ?_, ?_⟩ ?_; (focus (simp (maxSteps := 2000000) (disch := omega) only [sim_all, ↓fieldOff_eq, ↓newsV_eq, ↓sliceV_eq, ↓lenV_eq, seval, Ty.agg, tb_all, endC, zeroC, frC, o1, o2, wksL, D.leC, D.e.injEq, E.sl.injEq, exists_eq_right, exists_eq_right', D.idsB, D.idsC, decide_eq_true_eq, List.all_cons, List.all_nil, true_or, or_true]; done)); (focus (simp (maxSteps := 2000000) (disch := omega) only [sim_all, ↓fieldOff_eq, ↓newsV_eq, ↓sliceV_eq, ↓lenV_eq, seval, Ty.agg, tb_all, endC, zeroC, frC, o1, o2, wksL, D.leC, D.e.injEq, E.sl.injEq, exists_eq_right, exists_eq_right', D.idsB, D.idsC, decide_eq_true_eq, List.all_cons, List.all_nil, true_or, or_true]; done)))
          case hc => repeat first | exact Cov.base | refine Cov.cons (by first | (left; omega) | (right; simp)) ?_
          case hl => repeat first | exact TgtL.base | (refine TgtL.cons ⟨by omega, ?_⟩ ?_; (focus (simp (maxSteps := 2000000) (disch := omega) only [sim_all, ↓fieldOff_eq, ↓newsV_eq, ↓sliceV_eq, ↓lenV_eq, seval, Ty.agg, tb_all, endC, zeroC, frC, o1, o2, wksL, D.leC, D.e.injEq, E.sl.injEq, exists_eq_right, exists_eq_right', D.idsB, D.idsC, decide_eq_true_eq, List.all_cons, List.all_nil, true_or, or_true]; done)))
          case hcl => repeat first | exact Cov.base | refine Cov.cons (by first | (left; omega) | (right; simp)) ?_
          all_goals simp (maxSteps := 2000000) (disch := omega) only [sim_all, ↓fieldOff_eq, ↓newsV_eq, ↓sliceV_eq, ↓lenV_eq, seval, Ty.agg, tb_all, endC, zeroC, frC, o1, o2, wksL, D.leC, D.e.injEq, E.sl.injEq, exists_eq_right, exists_eq_right', D.idsB, D.idsC, decide_eq_true_eq, List.all_cons, List.all_nil, true_or, or_true]
          all_goals (try omega)
      · skip
        refine AW.seq ?_
        refine AW.regS tbl (by rw [hx]; kernel_rfl) (fun K hK => ?_)
        refine st tok (by rfl) (by simp (disch := omega) only [sim_binOp, seval, Ty.agg, tb_3, o2]; (repeat' refine And.intro ?_ ?_) <;> first | exact Kq.here _ _ | omega | assumption | with_reducible rfl) ?_
        refine SOps.nil (hK _ _ ?_)
        clear hK
        dsimp only
        refine AW.seq ?_
        -- stop: cond (live 2:x, 3:f, 4, 6:out, 24, 25, 26, 27)
        refine AW.cond (b := true) (by simp only [sim_ev, Nat.reduceBEq]; (try rfl)) ?_
        dsimp only
        refine AW.skip ?_
        dsimp only
        refine AW.seq ?_
        refine AW.block ?_
        refine AW.seq ?_
        refine AW.regS tbl (by rw [hx]; kernel_rfl) (fun K hK => ?_)
        iterate 4 (first | refine st tok (by rfl) (by simp (disch := omega) only [sim_indexAddr, seval, Ty.agg, tb_70, tb_71, tb_73, tb_75, frC, sim_load, sim_alloc, sim_store]; (repeat' refine And.intro ?_ ?_) <;> first | exact Kq.here _ _ | omega | assumption | with_reducible rfl) ?_ | refine st_n tok (by rfl) (by simp (disch := omega) only [sim_indexAddr, seval, Ty.agg, tb_70, tb_71, tb_73, tb_75, frC, sim_load, sim_alloc, sim_store]; (repeat' refine And.intro ?_ ?_) <;> first | exact Kq.here _ _ | omega | assumption | with_reducible rfl) ?_)
        refine SOps.nil (hK _ _ ?_)
        clear hK
        dsimp only
        refine AW.seq ?_
        refine AW.regS tbl (by rw [hx]; kernel_rfl) (fun K hK => ?_)
        iterate 3 refine st tok (by rfl) (by simp (disch := omega) only [sim_fieldAddr, ↓fieldOff_eq, seval, Ty.agg, tb_70, tb_71, tb_73, frC, sim_load, tb_3, tb_9, tb_23]; (repeat' refine And.intro ?_ ?_) <;> first | exact Kq.here _ _ | omega | assumption | with_reducible rfl) ?_
        -- stop: call ['t', 31] (line 130)
        refine st tok (by rfl) (by simp (disch := omega) only [sim_call, ↓newsV_eq, ↓lenV_eq, seval, Ty.agg, tb_3, tb_4, tb_9, tb_23, tb_69, frC]; (repeat refine And.intro (by omega) ?_); apply callH_of; (case hc => exact (h_recv3 ((x.acked f).holds f) f rfl (by omega))); (case hh => first | rfl | kernel_rfl); (case h => ((try simp only [adopt_own, adopt_e, adopt_ag, adopt_tu, hp_tok, true_and, frC]); exact Kq.here _ _))) ?_
        refine SOps.nil (hK _ _ ?_)
        clear hK
        dsimp only
        -- stop: cond (live 2:x, 3:f, 4, 6:out, 8:h, 24, 25, 26, 33)
        refine AW.condS (by simp only [sim_ev, Nat.reduceBEq]; rfl) (fun c => ?_) (fun c => ?_)
        all_goals (try simp only [sim_bool] at c)
        · skip
          refine AW.regS tbl (by rw [hx]; kernel_rfl) (fun K hK => ?_)
          iterate 4 refine st tok (by rfl) (by simp (disch := omega) only [sim_move, seval, Ty.agg, frC, sim_fieldAddr, ↓fieldOff_eq, tb_70, tb_71, tb_73, sim_load, tb_3, tb_9, tb_23]; (repeat' refine And.intro ?_ ?_) <;> first | exact Kq.here _ _ | omega | assumption | with_reducible rfl) ?_
          -- stop: call ['t', 36] (line 131)
          have hr := runLen_le (((x.acked f).holds f).want + 1) ((x.acked f).holds f).held
          have hl2 := ok2.held_len
          refine st tok (by rfl) (by simp (disch := omega) only [sim_call, ↓newsV_eq, ↓lenV_eq, seval, Ty.agg, tb_3, tb_9, tb_23, tb_36, tb_69, frC, o2]; (repeat refine And.intro (by omega) ?_); apply callH_of; (case hc => exact (h_deliver ((x.acked f).holds f) f hl2 ⟨ok2.w1, c.2⟩ rfl (by omega))); (case hh => first | rfl | kernel_rfl); (case h => ((try simp only [adopt_own, adopt_e, adopt_ag, adopt_tu, hp_tok, true_and, frC, o2]); exact Kq.here _ _))) ?_
          iterate 2 refine st tok (by rfl) (by simp (disch := omega) only [sim_call, ↓newsV_eq, ↓lenV_eq, seval, Ty.agg, tb_9, tb_36, frC, o2, sim_assign]; (repeat' refine And.intro ?_ ?_) <;> first | exact Kq.here _ _ | omega | assumption | with_reducible rfl) ?_
          refine SOps.nil (hK _ _ ?_)
          clear hK
          dsimp only
          refine AW.keep [2, 3, 4, 6, 24, 25, 26] ?_
          simp only [keepT_cons, keepT_nil, keepO_some, keepO_none, lk_cons, lk_nil, Nat.reduceBEq, cond_true, cond_false]
          refine AW.regS tbl (by rw [hx]; kernel_rfl) (fun K hK => ?_)
          iterate 2 refine st tok (by rfl) (by simp (disch := omega) only [sim_binOp, seval, Ty.agg, tb_3, frC, o2, sim_move]; (repeat' refine And.intro ?_ ?_) <;> first | exact Kq.here _ _ | omega | assumption | with_reducible rfl) ?_
          refine SOps.nil (hK _ _ ?_)
          clear hK
          dsimp only
          -- stop: round's end (live 2:x, 3:f, 4, 6:out, 24, 25, 26)
          have e3 : stage x f 3 = ⟨((x.acked f).holds f).base, ((x.acked f).holds f).queue, ((x.acked f).holds f).want + 1 + runLen (((x.acked f).holds f).want + 1) ((x.acked f).holds f).held, ((x.acked f).holds f).held.drop (runLen (((x.acked f).holds f).want + 1) ((x.acked f).holds f).held)⟩ := by
            show (((x.acked f).holds f).gives f).1 = _
            unfold LEnd.gives; rw [if_pos c]
          have o3 : outs x f 3 = f.data :: (((x.acked f).holds f).held.take (runLen (((x.acked f).holds f).want + 1) ((x.acked f).holds f).held)).map (·.2) := by
            show (((x.acked f).holds f).gives f).2 = _
            unfold LEnd.gives; rw [if_pos c]
          have ol : (outs x f 3).length = runLen (((x.acked f).holds f).want + 1) ((x.acked f).holds f).held + 1 := by rw [o3]; simp; omega
          have om := congrArg (List.map sE) o3
          rw [List.map_cons] at om
          refine ⟨3, ?_, by omega, by omega⟩
          rw [e3]
          apply Wk.fin (ks := [0, 2, 1]) (kl := [6, 7]) h0 hok
          case hN => omega
          case hm => omega
          case hv => repeat first | exact TgtV.base | (refine TgtV.cons ⟨by omega, ?_, ?_⟩ ?_; (focus (simp (maxSteps := 2000000) (disch := omega) only [sim_all, ↓fieldOff_eq, ↓newsV_eq, ↓sliceV_eq, ↓lenV_eq, seval, Ty.agg, tb_all, endC, zeroC, frC, List.nil_append, ol, om, wksL, D.leC, D.e.injEq, E.sl.injEq, exists_eq_right, exists_eq_right', D.idsB, D.idsC, decide_eq_true_eq, List.all_cons, List.all_nil, true_or, or_true]; done)); (focus (simp (maxSteps := 2000000) (disch := omega) only [sim_all, ↓fieldOff_eq, ↓newsV_eq, ↓sliceV_eq, ↓lenV_eq, seval, Ty.agg, tb_all, endC, zeroC, frC, List.nil_append, ol, om, wksL, D.leC, D.e.injEq, E.sl.injEq, exists_eq_right, exists_eq_right', D.idsB, D.idsC, decide_eq_true_eq, List.all_cons, List.all_nil, true_or, or_true]; done)))
          case hc => repeat first | exact Cov.base | refine Cov.cons (by first | (left; omega) | (right; simp)) ?_
          case hl => repeat first | exact TgtL.base | (refine TgtL.cons ⟨by omega, ?_⟩ ?_; (focus (simp (maxSteps := 2000000) (disch := omega) only [sim_all, ↓fieldOff_eq, ↓newsV_eq, ↓sliceV_eq, ↓lenV_eq, seval, Ty.agg, tb_all, endC, zeroC, frC, List.nil_append, ol, om, wksL, D.leC, D.e.injEq, E.sl.injEq, exists_eq_right, exists_eq_right', D.idsB, D.idsC, decide_eq_true_eq, List.all_cons, List.all_nil, true_or, or_true]; done)))
          case hcl => repeat first | exact Cov.base | refine Cov.cons (by first | (left; omega) | (right; simp)) ?_
          all_goals simp (maxSteps := 2000000) (disch := omega) only [sim_all, ↓fieldOff_eq, ↓newsV_eq, ↓sliceV_eq, ↓lenV_eq, seval, Ty.agg, tb_all, endC, zeroC, frC, List.nil_append, ol, om, wksL, D.leC, D.e.injEq, E.sl.injEq, exists_eq_right, exists_eq_right', D.idsB, D.idsC, decide_eq_true_eq, List.all_cons, List.all_nil, true_or, or_true]
          all_goals (try omega)
        · skip
          refine AW.skip ?_
          dsimp only
          refine AW.regS tbl (by rw [hx]; kernel_rfl) (fun K hK => ?_)
          iterate 2 refine st tok (by rfl) (by simp (disch := omega) only [sim_binOp, seval, Ty.agg, tb_3, sim_move]; (repeat' refine And.intro ?_ ?_) <;> first | exact Kq.here _ _ | omega | assumption | with_reducible rfl) ?_
          refine SOps.nil (hK _ _ ?_)
          clear hK
          dsimp only
          -- stop: round's end (live 2:x, 3:f, 4, 6:out, 24, 25, 26)
          have hg : ((x.acked f).holds f).gives f = ((x.acked f).holds f, []) := by
            unfold LEnd.gives; rw [if_neg (fun hc => by have := c hc.1; omega)]
          have e3 : stage x f 3 = stage x f 2 := congrArg Prod.fst hg
          have o3 : outs x f 3 = [] := congrArg Prod.snd hg
          refine ⟨3, ?_, by omega, by omega⟩
          rw [e3]
          apply Wk.fin (ks := [0, 2, 1]) (kl := [6, 7]) h0 hok
          case hN => omega
          case hm => omega
          case hv => repeat first | exact TgtV.base | (refine TgtV.cons ⟨by omega, ?_, ?_⟩ ?_; (focus (simp (maxSteps := 2000000) (disch := omega) only [sim_all, ↓fieldOff_eq, ↓newsV_eq, ↓sliceV_eq, ↓lenV_eq, seval, Ty.agg, tb_all, endC, zeroC, frC, o2, o3, wksL, D.leC, D.e.injEq, E.sl.injEq, exists_eq_right, exists_eq_right', D.idsB, D.idsC, decide_eq_true_eq, List.all_cons, List.all_nil, true_or, or_true]; done)); (focus (simp (maxSteps := 2000000) (disch := omega) only [sim_all, ↓fieldOff_eq, ↓newsV_eq, ↓sliceV_eq, ↓lenV_eq, seval, Ty.agg, tb_all, endC, zeroC, frC, o2, o3, wksL, D.leC, D.e.injEq, E.sl.injEq, exists_eq_right, exists_eq_right', D.idsB, D.idsC, decide_eq_true_eq, List.all_cons, List.all_nil, true_or, or_true]; done)))
          case hc => repeat first | exact Cov.base | refine Cov.cons (by first | (left; omega) | (right; simp)) ?_
          case hl => repeat first | exact TgtL.base | (refine TgtL.cons ⟨by omega, ?_⟩ ?_; (focus (simp (maxSteps := 2000000) (disch := omega) only [sim_all, ↓fieldOff_eq, ↓newsV_eq, ↓sliceV_eq, ↓lenV_eq, seval, Ty.agg, tb_all, endC, zeroC, frC, o2, o3, wksL, D.leC, D.e.injEq, E.sl.injEq, exists_eq_right, exists_eq_right', D.idsB, D.idsC, decide_eq_true_eq, List.all_cons, List.all_nil, true_or, or_true]; done)))
          case hcl => repeat first | exact Cov.base | refine Cov.cons (by first | (left; omega) | (right; simp)) ?_
          all_goals simp (maxSteps := 2000000) (disch := omega) only [sim_all, ↓fieldOff_eq, ↓newsV_eq, ↓sliceV_eq, ↓lenV_eq, seval, Ty.agg, tb_all, endC, zeroC, frC, o2, o3, wksL, D.leC, D.e.injEq, E.sl.injEq, exists_eq_right, exists_eq_right', D.idsB, D.idsC, decide_eq_true_eq, List.all_cons, List.all_nil, true_or, or_true]
          all_goals (try omega)
      · skip
        refine AW.seq ?_
        refine AW.regS tbl (by rw [hx]; kernel_rfl) (fun K hK => ?_)
        refine st tok (by rfl) (by simp (disch := omega) only [sim_binOp, seval, Ty.agg, tb_3]; (repeat' refine And.intro ?_ ?_) <;> first | exact Kq.here _ _ | omega | assumption | with_reducible rfl) ?_
        refine SOps.nil (hK _ _ ?_)
        clear hK
        dsimp only
        refine AW.seq ?_
        -- stop: cond (live 2:x, 3:f, 4, 6:out, 24, 25, 26, 27)
        refine AW.cond (b := false) (by simp only [sim_ev, Nat.reduceBEq]; (try rfl)) ?_
        dsimp only
        refine AW.exit ?_
        dsimp only
        (try simp only [if_true, reduceIte, Nat.reduceEqDiff, reduceCtorEq])
        refine AW.seq ?_
        refine AW.regS tbl (by rw [hx]; kernel_rfl) (fun K hK => ?_)
        iterate 4 (first | refine st tok (by rfl) (by simp (disch := omega) only [sim_load, seval, Ty.agg, tb_3, tb_9, tb_36, tb_37, tb_39, tb_51, endC, zeroC, sim_move, sim_store, sim_assign]; (repeat' refine And.intro ?_ ?_) <;> first | exact Kq.here _ _ | omega | assumption | with_reducible rfl) ?_ | refine st_n tok (by rfl) (by simp (disch := omega) only [sim_load, seval, Ty.agg, tb_3, tb_9, tb_36, tb_37, tb_39, tb_51, endC, zeroC, sim_move, sim_store, sim_assign]; (repeat' refine And.intro ?_ ?_) <;> first | exact Kq.here _ _ | omega | assumption | with_reducible rfl) ?_)
        refine SOps.nil (hK _ _ ?_)
        clear hK
        dsimp only
        -- stop: ret (live 4, 5)
        have hr : x.receive f = (((x.acked f).holds f).gives f) := by unfold LEnd.receive; rw [if_pos h]
        rw [hr]
        refine AW.ret ?_
        dsimp only
        simp only [RetV, resD, sim_all, ↓fieldOff_eq, ↓newsV_eq, ↓sliceV_eq, ↓lenV_eq, seval, Ty.agg, tb_all]
        simp [stage, outs]
noncomputable def g_link_Receive (x : S_End) (f : S_Frame) : Option (S_End × List ByteArray) := gd ((toL x).okB = true) (some (ofL ((toL x).receive (toF f)).1, ((toL x).receive (toF f)).2))
theorem w_link_Receive {x : S_End} {f : S_Frame} {r : S_End × List ByteArray} (h : g_link_Receive x f = some r) : PCalls Tryd.prog 16 [dG c_End x, dG c_Frame f] (.tu [dG c_End r.1, dL cS r.2]) := by
  obtain ⟨hok, h⟩ := gd_some h
  obtain rfl := Option.some.inj h
  have := a_Receive (toL x) (toF f) ((LEnd.okB_iff _).1 hok)
  rw [← endD_of, ← endD_of, ofL_toL] at this
  dsimp only [dL, slE]
  rw [sE_of]
  exact this
theorem G_Receive {x : LEnd} (h : x.Ok) (f : LFrame) : g_link_Receive (ofL x) (ofF f) = some (ofL (x.receive f).1, (x.receive f).2) := by
  unfold g_link_Receive
  rw [toL_ofL, toF_ofF, gd_pos ((LEnd.okB_iff _).2 h)]
noncomputable def g_law42_sanity  : Option Bool := bnd (g_link_New) fun x1 => bnd (g_link_New) fun x3 => bnd (g_link_Send (⟨x1.vBase, ([] : List ByteArray), x1.vWant, ([] : List S_Held)⟩ : S_End) (⟨#[97]⟩ : ByteArray)) fun x5 => bnd (g_link_Send x5.1 (⟨#[98]⟩ : ByteArray)) fun x7 => bnd (g_link_Send x7.1 (⟨#[99]⟩ : ByteArray)) fun x9 => bnd (S := Bool) (cnd (decide (x5.2 ≠ (0 : Int))) (some (true)) (cnd (decide (x7.2 ≠ (0 : Int))) (some (true)) (cnd (decide (x9.2 ≠ (0 : Int))) (some (true)) (bnd (g_link_Check x9.1) fun x14 => cnd (decide (x14 ≠ (0 : Int))) (some (true)) (bnd (g_link_Idle x9.1) fun x17 => cnd x17 (some (true)) (bnd (g_link_Idle (⟨x3.vBase, ([] : List ByteArray), x3.vWant, ([] : List S_Held)⟩ : S_End)) fun x20 => some (!x20))))))) fun a15_0 => cnd a15_0 (some false) (bnd (g_link_Frames x9.1) fun x24 => bnd (S := Bool) (bnd (g_ref42_SameFrames x24 [(⟨(1 : Int), (1 : Int), (⟨#[97]⟩ : ByteArray)⟩ : S_Frame), (⟨(2 : Int), (1 : Int), (⟨#[98]⟩ : ByteArray)⟩ : S_Frame), (⟨(3 : Int), (1 : Int), (⟨#[99]⟩ : ByteArray)⟩ : S_Frame)]) fun x26 => cnd (!x26) (some (true)) (bnd (g_link_Frames (⟨x3.vBase, ([] : List ByteArray), x3.vWant, ([] : List S_Held)⟩ : S_End)) fun x29 => bnd (g_ref42_SameFrames x29 [(⟨(0 : Int), (1 : Int), ByteArray.empty⟩ : S_Frame)]) fun x31 => some (!x31))) fun a25_0 => cnd a25_0 (some false) (gd (0 ≤ (1 : Int) ∧ (1 : Int) < ((x24).length : Int)) (bnd (g_link_Receive (⟨x3.vBase, ([] : List ByteArray), x3.vWant, ([] : List S_Held)⟩ : S_End) ((x24)[((1 : Int)).toNat]!)) fun x37 => gd (0 ≤ (0 : Int) ∧ (0 : Int) < ((x24).length : Int)) (bnd (g_link_Receive x37.1 ((x24)[((0 : Int)).toNat]!)) fun x41 => gd (0 ≤ (0 : Int) ∧ (0 : Int) < ((x24).length : Int)) (bnd (g_link_Receive x41.1 ((x24)[((0 : Int)).toNat]!)) fun x45 => bnd (g_link_Receive x9.1 (⟨(0 : Int), (3 : Int), ByteArray.empty⟩ : S_Frame)) fun x47 => bnd (S := Bool) (cnd (decide (((x37.2).length : Int) = (0 : Int))) (cnd (decide (((x37.1.vHeld).length : Int) = (1 : Int))) (gd (0 ≤ (0 : Int) ∧ (0 : Int) < ((x37.1.vHeld).length : Int)) (bnd (some (decide ((x37.1.vHeld)[((0 : Int)).toNat]! = (⟨(2 : Int), (⟨#[98]⟩ : ByteArray)⟩ : S_Held)))) fun x53 => some (x53))) (some (false))) (some (false))) fun a40_0 => bnd (S := Bool) (cnd a40_0 (bnd (g_ref01_SameTexts x41.2 [(⟨#[97]⟩ : ByteArray), (⟨#[98]⟩ : ByteArray)]) fun x57 => cnd x57 (cnd (decide (x41.1.vWant = (3 : Int))) (cnd (decide (((x45.2).length : Int) = (0 : Int))) (bnd (g_ref42_Same x41.1 x45.1) fun x62 => cnd x62 (cnd (decide (((x47.2).length : Int) = (0 : Int))) (bnd (g_ref42_Same x47.1 (⟨(3 : Int), [(⟨#[99]⟩ : ByteArray)], (1 : Int), ([] : List S_Held)⟩ : S_End)) fun x66 => some (x66)) (some (false))) (some (false))) (some (false))) (some (false))) (some (false))) (some (false))) fun a42_0 => some a42_0)))))
set_option maxHeartbeats 40000000 in
theorem w_law42_sanity  {r : Bool} (h : g_law42_sanity = some r) : PCalls Tryd.prog 4 [] (dB r) := by
  refine PCalls.of (rs := [.tmp 0]) tok Tryd.func4 rfl rfl (Nat.le_of_ble_eq_true rfl) rfl (fun cx hx h0 => ?_)
  simp only [argsT, Nat.reduceAdd, Nat.zero_add]
  unfold g_law42_sanity at h
  refine AW.seq ?_
  refine rg hx (by kernel_rfl) fun K hK => ?_
  refine s1 (d := dB false) T_asg ?_
  refine .nil (hK _ _ ?_)
  refine AW.seq ?_
  refine rg hx (by kernel_rfl) fun K hK => ?_
  obtain ⟨x1, hx2, h⟩ := bnd_some h
  refine s1 (d := .ag [dI .i64 x1.vBase, dN, dI .i64 x1.vWant, dN]) (T_call rfl (w_link_New hx2) rfl lAn (.inl rfl)) ?_
  refine s1 (d := .pt 0 0) (T_alloc tb_39) ?_
  refine s0 (T_st (ds' := [dI .i64 x1.vBase, dN, dI .i64 x1.vWant, dN]) tb_39) ?_
  refine .nil (hK _ _ ?_)
  refine AW.seq ?_
  refine rg hx (by kernel_rfl) fun K hK => ?_
  obtain ⟨x3, hx4, h⟩ := bnd_some h
  refine s1 (d := .ag [dI .i64 x3.vBase, dN, dI .i64 x3.vWant, dN]) (T_call rfl (w_link_New hx4) rfl lAn (.inl rfl)) ?_
  refine s1 (d := .pt 1 0) (T_alloc tb_39) ?_
  refine s0 (T_st (ds' := [dI .i64 x3.vBase, dN, dI .i64 x3.vWant, dN]) tb_39) ?_
  refine .nil (hK _ _ ?_)
  refine AW.seq ?_
  refine rg hx (by kernel_rfl) fun K hK => ?_
  refine s1 (d := .ag [dI .i64 x1.vBase, dN, dI .i64 x1.vWant, dN]) (T_ldA tb_39) ?_
  obtain ⟨x5, hx6, h⟩ := bnd_some h
  refine s1 (T_call rfl (w_link_Send hx6) rfl (lA (le_ag (wc (lc_r _) (wc (lc_n rfl) (wc (lc_r _) (wc (lc_n rfl) wcn))))) (lA (le_refl' _) lAn)) (.inr ⟨_, rfl⟩)) ?_
  refine s1 T_mv ?_
  iterate 2 refine s1 T_ext ?_
  refine s0 (T_st (ds' := [dI .i64 x5.1.vBase, dL cS x5.1.vQueue, dI .i64 x5.1.vWant, dL c_Held x5.1.vHeld]) tb_39) ?_
  refine s1 T_as ?_
  refine .nil (hK _ _ ?_)
  refine AW.seq ?_
  refine rg hx (by kernel_rfl) fun K hK => ?_
  refine s1 (d := dG c_End x5.1) (T_ldA tb_39) ?_
  obtain ⟨x7, hx8, h⟩ := bnd_some h
  refine s1 (T_call rfl (w_link_Send hx8) (by simp only [List.map_cons, List.map_nil, List.all_cons, List.all_nil, Bool.and_true, Bool.and_eq_true]; exact ⟨pure_ex_G _ _, rfl⟩) (lA (le_refl' _) (lA (le_refl' _) lAn)) (.inr ⟨_, rfl⟩)) ?_
  refine s1 T_mv ?_
  iterate 2 refine s1 T_ext ?_
  refine s0 (T_st (ds' := [dI .i64 x7.1.vBase, dL cS x7.1.vQueue, dI .i64 x7.1.vWant, dL c_Held x7.1.vHeld]) tb_39) ?_
  refine s1 T_as ?_
  refine .nil (hK _ _ ?_)
  refine AW.seq ?_
  refine rg hx (by kernel_rfl) fun K hK => ?_
  refine s1 (d := dG c_End x7.1) (T_ldA tb_39) ?_
  obtain ⟨x9, hx10, h⟩ := bnd_some h
  refine s1 (T_call rfl (w_link_Send hx10) (by simp only [List.map_cons, List.map_nil, List.all_cons, List.all_nil, Bool.and_true, Bool.and_eq_true]; exact ⟨pure_ex_G _ _, rfl⟩) (lA (le_refl' _) (lA (le_refl' _) lAn)) (.inr ⟨_, rfl⟩)) ?_
  refine s1 T_mv ?_
  iterate 2 refine s1 T_ext ?_
  refine s0 (T_st (ds' := [dI .i64 x9.1.vBase, dL cS x9.1.vQueue, dI .i64 x9.1.vWant, dL c_Held x9.1.vHeld]) tb_39) ?_
  refine s1 T_as ?_
  refine .nil (hK _ _ ?_)
  iterate 2 refine AW.seq ?_
  obtain ⟨a15_0, hy, h⟩ := bnd_some h
  refine jn ((PE cx .normal (fun a15_0 => [(1, .pt 0 0), (2, .pt 1 0), (56, dB a15_0)]) fun a15_0 => ⟨[(0, [dI .i64 x9.1.vBase, dL cS x9.1.vQueue, dI .i64 x9.1.vWant, dL c_Held x9.1.vHeld]), (1, [dI .i64 x3.vBase, dN, dI .i64 x3.vWant, dN])], [], 2⟩) a15_0) ?_ ?_
  replace h := hy
  refine rg hx (by kernel_rfl) fun K hK => ?_
  refine s1 T_mv ?_
  refine s1 T_neq ?_
  refine s1 T_mv ?_
  rcases Bool.eq_false_or_eq_true (decide (x5.2 ≠ (0 : Int))) with hb11 | hb11
  replace h := cnd_t hb11 h
  iterate 2 refine no_t rfl rfl hb11 ?_
  refine s1 (d := dB true) (T_pickT hb11) ?_
  refine s1 T_mv ?_
  iterate 2 refine no_t rfl rfl rfl ?_
  refine s1 (d := dB true) (T_pickT rfl) ?_
  refine s1 T_mv ?_
  iterate 3 refine no_t rfl rfl rfl ?_
  refine s1 (d := dB true) (T_pickT rfl) ?_
  refine s1 T_mv ?_
  iterate 2 refine no_t rfl rfl rfl ?_
  refine s1 (d := dB true) (T_pickT rfl) ?_
  refine s1 T_mv ?_
  iterate 3 refine no_t rfl rfl rfl ?_
  refine s1 (d := dB true) (T_pickT rfl) ?_
  refine .nil (hK _ _ ?_)
  obtain rfl := Option.some.inj h
  exact PE.i (wk h0 [0, 1] (wR rfl (wR rfl (wR rfl wTn))) (vR rfl (vR rfl wVn)) wLn)
  replace h := cnd_f hb11 h
  refine g1 hb11 T_mv ?_
  refine g1 hb11 T_neq ?_
  refine s1 (d := dB (decide (x7.2 ≠ (0 : Int)))) (T_pickF hb11) ?_
  refine s1 T_mv ?_
  rcases Bool.eq_false_or_eq_true (decide (x7.2 ≠ (0 : Int))) with hb12 | hb12
  replace h := cnd_t hb12 h
  iterate 2 refine no_t rfl rfl hb12 ?_
  refine s1 (d := dB true) (T_pickT hb12) ?_
  refine s1 T_mv ?_
  iterate 3 refine no_t rfl rfl rfl ?_
  refine s1 (d := dB true) (T_pickT rfl) ?_
  refine s1 T_mv ?_
  iterate 2 refine no_t rfl rfl rfl ?_
  refine s1 (d := dB true) (T_pickT rfl) ?_
  refine s1 T_mv ?_
  iterate 3 refine no_t rfl rfl rfl ?_
  refine s1 (d := dB true) (T_pickT rfl) ?_
  refine .nil (hK _ _ ?_)
  obtain rfl := Option.some.inj h
  exact PE.i (wk h0 [0, 1] (wR rfl (wR rfl (wR rfl wTn))) (vR rfl (vR rfl wVn)) wLn)
  replace h := cnd_f hb12 h
  refine g1 hb12 T_mv ?_
  refine g1 hb12 T_neq ?_
  refine s1 (d := dB (decide (x9.2 ≠ (0 : Int)))) (T_pickF hb12) ?_
  refine s1 T_mv ?_
  rcases Bool.eq_false_or_eq_true (decide (x9.2 ≠ (0 : Int))) with hb13 | hb13
  replace h := cnd_t hb13 h
  iterate 3 refine no_t rfl rfl hb13 ?_
  refine s1 (d := dB true) (T_pickT hb13) ?_
  refine s1 T_mv ?_
  iterate 2 refine no_t rfl rfl rfl ?_
  refine s1 (d := dB true) (T_pickT rfl) ?_
  refine s1 T_mv ?_
  iterate 3 refine no_t rfl rfl rfl ?_
  refine s1 (d := dB true) (T_pickT rfl) ?_
  refine .nil (hK _ _ ?_)
  obtain rfl := Option.some.inj h
  exact PE.i (wk h0 [0, 1] (wR rfl (wR rfl (wR rfl wTn))) (vR rfl (vR rfl wVn)) wLn)
  replace h := cnd_f hb13 h
  refine g1 (d := dG c_End x9.1) hb13 (T_ldA tb_39) ?_
  obtain ⟨x14, hx15, h⟩ := bnd_some h
  refine g1 (d := dI .i64 x14) hb13 (T_call rfl (w_link_Check hx15) (by simp only [List.map_cons, List.map_nil, List.all_cons, List.all_nil, Bool.and_true, Bool.and_eq_true]; exact pure_ex_G _ _) (lA (le_refl' _) lAn) (.inl rfl)) ?_
  refine g1 hb13 T_neq ?_
  refine s1 (d := dB (decide (x14 ≠ (0 : Int)))) (T_pickF hb13) ?_
  refine s1 T_mv ?_
  rcases Bool.eq_false_or_eq_true (decide (x14 ≠ (0 : Int))) with hb16 | hb16
  replace h := cnd_t hb16 h
  iterate 2 refine no_t rfl rfl hb16 ?_
  refine s1 (d := dB true) (T_pickT hb16) ?_
  refine s1 T_mv ?_
  iterate 3 refine no_t rfl rfl rfl ?_
  refine s1 (d := dB true) (T_pickT rfl) ?_
  refine .nil (hK _ _ ?_)
  obtain rfl := Option.some.inj h
  exact PE.i (wk h0 [0, 1] (wR rfl (wR rfl (wR rfl wTn))) (vR rfl (vR rfl wVn)) wLn)
  replace h := cnd_f hb16 h
  refine g1 (d := dG c_End x9.1) hb16 (T_ldA tb_39) ?_
  obtain ⟨x17, hx18, h⟩ := bnd_some h
  refine g1 (d := dB x17) hb16 (T_call rfl (w_link_Idle hx18) (by simp only [List.map_cons, List.map_nil, List.all_cons, List.all_nil, Bool.and_true, Bool.and_eq_true]; exact pure_ex_G _ _) (lA (le_refl' _) lAn) (.inl rfl)) ?_
  refine s1 (d := dB x17) (T_pickF hb16) ?_
  refine s1 T_mv ?_
  rcases Bool.eq_false_or_eq_true x17 with hb19 | hb19
  replace h := cnd_t hb19 h
  iterate 3 refine no_t rfl rfl hb19 ?_
  refine s1 (d := dB true) (T_pickT hb19) ?_
  refine .nil (hK _ _ ?_)
  obtain rfl := Option.some.inj h
  exact PE.i (wk h0 [0, 1] (wR rfl (wR rfl (wR rfl wTn))) (vR rfl (vR rfl wVn)) wLn)
  replace h := cnd_f hb19 h
  refine g1 (d := .ag [dI .i64 x3.vBase, dN, dI .i64 x3.vWant, dN]) hb19 (T_ldA tb_39) ?_
  obtain ⟨x20, hx21, h⟩ := bnd_some h
  refine g1 (d := dB x20) hb19 (T_call rfl (w_link_Idle hx21) rfl (lA (le_ag (wc (lc_r _) (wc (lc_n rfl) (wc (lc_r _) (wc (lc_n rfl) wcn))))) lAn) (.inl rfl)) ?_
  refine g1 hb19 T_not ?_
  refine s1 (d := dB (!x20)) (T_pickF hb19) ?_
  refine .nil (hK _ _ ?_)
  obtain rfl := Option.some.inj h
  exact PE.i (wk h0 [0, 1] (wR rfl (wR rfl (wR rfl wTn))) (vR rfl (vR rfl wVn)) wLn)
  rintro ex tm' hp' ⟨rfl, hw⟩
  refine AW.weak hw ?_
  refine AW.condS rfl (fun hb23 => ?_) (fun hb23 => ?_)
  replace h := cnd_t hb23 h
  refine AW.seq ?_
  refine rg hx (by kernel_rfl) fun K hK => ?_
  refine s1 (d := dB false) T_asg ?_
  refine .nil (hK _ _ ?_)
  refine AW.ret ?_
  obtain rfl := Option.some.inj h
  exact RetV.mk1 (resD_t rfl (.inr (.inr ⟨_, (le_refl' _), rfl, rfl⟩)))
  replace h := cnd_f hb23 h
  refine AW.skip ?_
  refine AW.seq ?_
  refine rg hx (by kernel_rfl) fun K hK => ?_
  refine s1 (d := dG c_End x9.1) (T_ldA tb_39) ?_
  obtain ⟨x24, hx25, h⟩ := bnd_some h
  refine s1 (d := dO 2 c_Frame x24) (T_callO rfl (w_link_Frames hx25) (by simp only [List.map_cons, List.map_nil, List.all_cons, List.all_nil, Bool.and_true, Bool.and_eq_true]; exact pure_ex_G _ _) (lA (le_refl' _) lAn)) ?_
  refine s1 T_as ?_
  refine .nil (hK _ _ ?_)
  iterate 2 refine AW.seq ?_
  obtain ⟨a25_0, hy, h⟩ := bnd_some h
  refine jn ((PE cx .normal (fun a25_0 => [(1, .pt 0 0), (2, .pt 1 0), (6, dO 2 c_Frame x24), (73, dB a25_0)]) fun a25_0 => ⟨[(0, [dI .i64 x9.1.vBase, dL cS x9.1.vQueue, dI .i64 x9.1.vWant, dL c_Held x9.1.vHeld]), (1, [dI .i64 x3.vBase, dN, dI .i64 x3.vWant, dN])], [(2, (x24).length, 3, 23)], 3⟩) a25_0) ?_ ?_
  replace h := hy
  refine rg hx (by kernel_rfl) fun K hK => ?_
  refine s1 T_mv ?_
  refine s1 (d := dG c_Frame (⟨(1 : Int), (1 : Int), (⟨#[97]⟩ : ByteArray)⟩ : S_Frame)) (T_build tb_23) ?_
  refine s1 (d := dG c_Frame (⟨(2 : Int), (1 : Int), (⟨#[98]⟩ : ByteArray)⟩ : S_Frame)) (T_build tb_23) ?_
  refine s1 (d := dG c_Frame (⟨(3 : Int), (1 : Int), (⟨#[99]⟩ : ByteArray)⟩ : S_Frame)) (T_build tb_23) ?_
  refine s1 (d := dO 3 c_Frame [(⟨(1 : Int), (1 : Int), (⟨#[97]⟩ : ByteArray)⟩ : S_Frame), (⟨(2 : Int), (1 : Int), (⟨#[98]⟩ : ByteArray)⟩ : S_Frame), (⟨(3 : Int), (1 : Int), (⟨#[99]⟩ : ByteArray)⟩ : S_Frame)]) (T_bsl tb_45 tb_23) ?_
  obtain ⟨x26, hx27, h⟩ := bnd_some h
  refine s1 (d := dB x26) (T_call rfl (w_ref42_SameFrames hx27) rfl (lA (le_refl' _) (lA (le_refl' _) lAn)) (.inl rfl)) ?_
  refine s1 T_not ?_
  refine s1 T_mv ?_
  rcases Bool.eq_false_or_eq_true (!x26) with hb28 | hb28
  replace h := cnd_t hb28 h
  iterate 6 refine no_t rfl rfl hb28 ?_
  refine s1 (d := dB true) (T_pickT hb28) ?_
  refine .nil (hK _ _ ?_)
  obtain rfl := Option.some.inj h
  exact PE.i (wk h0 [0, 1, 2] (wR rfl (wR rfl (wR rfl (wR rfl wTn)))) (vR rfl (vR rfl wVn)) (wL rfl rfl wLn))
  replace h := cnd_f hb28 h
  refine g1 (d := .ag [dI .i64 x3.vBase, dN, dI .i64 x3.vWant, dN]) hb28 (T_ldA tb_39) ?_
  obtain ⟨x29, hx30, h⟩ := bnd_some h
  refine g1 (d := dO 4 c_Frame x29) hb28 (T_callO rfl (w_link_Frames hx30) rfl (lA (le_ag (wc (lc_r _) (wc (lc_n rfl) (wc (lc_r _) (wc (lc_n rfl) wcn))))) lAn)) ?_
  refine g1 (d := dG c_Frame (⟨(0 : Int), (1 : Int), ByteArray.empty⟩ : S_Frame)) hb28 (T_build tb_23) ?_
  refine g1 (d := dO 5 c_Frame [(⟨(0 : Int), (1 : Int), ByteArray.empty⟩ : S_Frame)]) hb28 (T_bsl tb_45 tb_23) ?_
  obtain ⟨x31, hx32, h⟩ := bnd_some h
  refine g1 (d := dB x31) hb28 (T_call rfl (w_ref42_SameFrames hx32) rfl (lA (le_refl' _) (lA (le_refl' _) lAn)) (.inl rfl)) ?_
  refine g1 hb28 T_not ?_
  refine s1 (d := dB (!x31)) (T_pickF hb28) ?_
  refine .nil (hK _ _ ?_)
  obtain rfl := Option.some.inj h
  exact PE.i (wk h0 [0, 1, 2] (wR rfl (wR rfl (wR rfl (wR rfl wTn)))) (vR rfl (vR rfl wVn)) (wL rfl rfl wLn))
  rintro ex tm' hp' ⟨rfl, hw⟩
  refine AW.weak hw ?_
  refine AW.condS rfl (fun hb34 => ?_) (fun hb34 => ?_)
  replace h := cnd_t hb34 h
  refine AW.seq ?_
  refine rg hx (by kernel_rfl) fun K hK => ?_
  refine s1 (d := dB false) T_asg ?_
  refine .nil (hK _ _ ?_)
  refine AW.ret ?_
  obtain rfl := Option.some.inj h
  exact RetV.mk1 (resD_t rfl (.inr (.inr ⟨_, (le_refl' _), rfl, rfl⟩)))
  replace h := cnd_f hb34 h
  refine AW.skip ?_
  refine AW.seq ?_
  refine rd [16] hx (by kernel_rfl) (by kernel_rfl) fun K hK => ?_
  refine s1 (d := .ag [dI .i64 x3.vBase, dN, dI .i64 x3.vWant, dN]) (T_ldA tb_39) ?_
  refine s1 T_mv ?_
  obtain ⟨hc35, h⟩ := gd_some h
  have hn36 : ((1 : Int)).toNat < (x24).length := by omega
  refine s1 (T_iaS hc35 tb_45 tb_23) ?_
  refine s1 (d := dG c_Frame ((x24)[((1 : Int)).toNat]!)) (T_ldG (c := c_Frame) (l := x24) (n := ((1 : Int)).toNat) (o := 0) tb_23 hn36 (whole_G _ _ rfl)) ?_
  obtain ⟨x37, hx38, h⟩ := bnd_some h
  refine sq tok (w_link_Receive hx38) (by simp only [List.map_cons, List.map_nil, List.all_cons, List.all_nil, Bool.and_true, Bool.and_eq_true]; exact ⟨rfl, pure_ex_G _ _⟩) (lA (le_ag (wc (lc_r _) (wc (lc_n rfl) (wc (lc_r _) (wc (lc_n rfl) wcn))))) (lA (le_refl' _) lAn)) (.inr ⟨_, rfl⟩) ?_
  refine s1 T_mv ?_
  iterate 2 refine s1 T_ext ?_
  refine s1 (d := .pt 3 0) (T_alloc tb_39) ?_
  refine s0 (T_st (ds' := [dI .i64 x37.1.vBase, dL cS x37.1.vQueue, dI .i64 x37.1.vWant, dL c_Held x37.1.vHeld]) tb_39) ?_
  refine s1 T_as ?_
  refine .nil (hK _ _ ?_)
  refine AW.seq ?_
  refine rd [16] hx (by kernel_rfl) (by kernel_rfl) fun K hK => ?_
  refine s1 (d := dG c_End x37.1) (T_ldA tb_39) ?_
  refine s1 T_mv ?_
  obtain ⟨hc39, h⟩ := gd_some h
  have hn40 : ((0 : Int)).toNat < (x24).length := by omega
  refine s1 (T_iaS hc39 tb_45 tb_23) ?_
  refine s1 (d := dG c_Frame ((x24)[((0 : Int)).toNat]!)) (T_ldG (c := c_Frame) (l := x24) (n := ((0 : Int)).toNat) (o := 0) tb_23 hn40 (whole_G _ _ rfl)) ?_
  obtain ⟨x41, hx42, h⟩ := bnd_some h
  refine sq tok (w_link_Receive hx42) (by simp only [List.map_cons, List.map_nil, List.all_cons, List.all_nil, Bool.and_true, Bool.and_eq_true]; exact ⟨pure_ex_G _ _, pure_ex_G _ _⟩) (lA (le_refl' _) (lA (le_refl' _) lAn)) (.inr ⟨_, rfl⟩) ?_
  refine s1 T_mv ?_
  iterate 2 refine s1 T_ext ?_
  refine s1 (d := .pt 4 0) (T_alloc tb_39) ?_
  refine s0 (T_st (ds' := [dI .i64 x41.1.vBase, dL cS x41.1.vQueue, dI .i64 x41.1.vWant, dL c_Held x41.1.vHeld]) tb_39) ?_
  refine s1 T_as ?_
  refine .nil (hK _ _ ?_)
  refine AW.seq ?_
  refine rd [16] hx (by kernel_rfl) (by kernel_rfl) fun K hK => ?_
  refine s1 (d := dG c_End x41.1) (T_ldA tb_39) ?_
  refine s1 T_mv ?_
  obtain ⟨hc43, h⟩ := gd_some h
  have hn44 : ((0 : Int)).toNat < (x24).length := by omega
  refine s1 (T_iaS hc43 tb_45 tb_23) ?_
  refine s1 (d := dG c_Frame ((x24)[((0 : Int)).toNat]!)) (T_ldG (c := c_Frame) (l := x24) (n := ((0 : Int)).toNat) (o := 0) tb_23 hn44 (whole_G _ _ rfl)) ?_
  obtain ⟨x45, hx46, h⟩ := bnd_some h
  refine sq tok (w_link_Receive hx46) (by simp only [List.map_cons, List.map_nil, List.all_cons, List.all_nil, Bool.and_true, Bool.and_eq_true]; exact ⟨pure_ex_G _ _, pure_ex_G _ _⟩) (lA (le_refl' _) (lA (le_refl' _) lAn)) (.inr ⟨_, rfl⟩) ?_
  refine s1 T_mv ?_
  iterate 2 refine s1 T_ext ?_
  refine s1 (d := .pt 5 0) (T_alloc tb_39) ?_
  refine s0 (T_st (ds' := [dI .i64 x45.1.vBase, dL cS x45.1.vQueue, dI .i64 x45.1.vWant, dL c_Held x45.1.vHeld]) tb_39) ?_
  refine s1 T_as ?_
  refine .nil (hK _ _ ?_)
  refine AW.seq ?_
  refine rg hx (by kernel_rfl) fun K hK => ?_
  refine s1 (d := dG c_End x9.1) (T_ldA tb_39) ?_
  refine s1 (d := dG c_Frame (⟨(0 : Int), (3 : Int), ByteArray.empty⟩ : S_Frame)) (T_build tb_23) ?_
  obtain ⟨x47, hx48, h⟩ := bnd_some h
  refine s1 (T_call rfl (w_link_Receive hx48) (by simp only [List.map_cons, List.map_nil, List.all_cons, List.all_nil, Bool.and_true, Bool.and_eq_true]; exact ⟨pure_ex_G _ _, pure_ex_G _ _⟩) (lA (le_refl' _) (lA (le_refl' _) lAn)) (.inr ⟨_, rfl⟩)) ?_
  refine s1 T_mv ?_
  iterate 2 refine s1 T_ext ?_
  refine s1 (d := .pt 6 0) (T_alloc tb_39) ?_
  refine s0 (T_st (ds' := [dI .i64 x47.1.vBase, dL cS x47.1.vQueue, dI .i64 x47.1.vWant, dL c_Held x47.1.vHeld]) tb_39) ?_
  refine s1 T_as ?_
  refine .nil (hK _ _ ?_)
  refine AW.seq ?_
  obtain ⟨a40_0, hy, h⟩ := bnd_some h
  refine jn ((PE cx .normal (fun a40_0 => [(9, .pt 0 0), (10, dL cS x41.2), (11, .pt 1 0), (12, dL cS x45.2), (13, .pt 2 0), (14, dL cS x47.2), (15, dB a40_0)]) fun a40_0 => ⟨[(0, [dI .i64 x41.1.vBase, dL cS x41.1.vQueue, dI .i64 x41.1.vWant, dL c_Held x41.1.vHeld]), (1, [dI .i64 x45.1.vBase, dL cS x45.1.vQueue, dI .i64 x45.1.vWant, dL c_Held x45.1.vHeld]), (2, [dI .i64 x47.1.vBase, dL cS x47.1.vQueue, dI .i64 x47.1.vWant, dL c_Held x47.1.vHeld])], [], 3⟩) a40_0) ?_ ?_
  replace h := hy
  refine rg hx (by kernel_rfl) fun K hK => ?_
  refine s1 T_mv ?_
  refine s1 (d := dI .i64 ((x37.2).length : Int)) (T_len tb_36 tb_9) ?_
  refine s1 T_eql ?_
  refine s1 T_mv ?_
  rcases Bool.eq_false_or_eq_true (decide (((x37.2).length : Int) = (0 : Int))) with hb49 | hb49
  replace h := cnd_t hb49 h
  refine g1 hb49 (T_faP tb_39 tb_37) ?_
  refine g1 (d := dL c_Held x37.1.vHeld) hb49 (T_ldC tb_37) ?_
  refine g1 (d := dI .i64 ((x37.1.vHeld).length : Int)) hb49 (T_len tb_37 tb_51) ?_
  refine g1 hb49 T_eql ?_
  refine s1 (d := dB (decide (((x37.1.vHeld).length : Int) = (1 : Int)))) (T_pickT hb49) ?_
  refine s1 T_mv ?_
  rcases Bool.eq_false_or_eq_true (decide (((x37.1.vHeld).length : Int) = (1 : Int))) with hb50 | hb50
  replace h := cnd_t hb50 h
  refine g1 hb50 (T_faP tb_39 tb_37) ?_
  refine g1 (d := dL c_Held x37.1.vHeld) hb50 (T_ldC tb_37) ?_
  obtain ⟨hc51, h⟩ := gd_some h
  have hn52 : ((0 : Int)).toNat < (x37.1.vHeld).length := by omega
  refine g1 hb50 (T_iaS hc51 tb_37 tb_51) ?_
  refine g1 (d := dG c_Held ((x37.1.vHeld)[((0 : Int)).toNat]!)) hb50 (T_ldG (c := c_Held) (l := x37.1.vHeld) (n := ((0 : Int)).toNat) (o := 0) tb_51 hn52 (whole_G _ _ rfl)) ?_
  refine g1 (d := dG c_Held (⟨(2 : Int), (⟨#[98]⟩ : ByteArray)⟩ : S_Held)) hb50 (T_build tb_51) ?_
  refine g1 hb50 (T_geql tok 6 (by decide) tb_51 rfl (by kernel_rfl) (by kernel_rfl) rfl rfl rfl rfl (eqF_Held _) (eqF_Held _) (eqI_Held _ _)) ?_
  refine s1 (d := dB (decide ((x37.1.vHeld)[((0 : Int)).toNat]! = (⟨(2 : Int), (⟨#[98]⟩ : ByteArray)⟩ : S_Held)))) (T_pickT hb50) ?_
  obtain ⟨x53, hx54, h⟩ := bnd_some h
  replace hx54 := Option.some.inj hx54
  refine s2 (d2 := dB x53) T_as (le_eq (congrArg dB hx54)) ?_
  refine .nil (hK _ _ ?_)
  obtain rfl := Option.some.inj h
  exact PE.i (wk h0 [4, 5, 6] (wR rfl (wR rfl (wR rfl (wR rfl (wR rfl (wR rfl (wR rfl wTn))))))) (vR rfl (vR rfl (vR rfl wVn))) wLn)
  replace h := cnd_f hb50 h
  iterate 6 refine no_t rfl rfl hb50 ?_
  refine s1 (d := dB false) (T_pickF hb50) ?_
  refine s1 T_as ?_
  refine .nil (hK _ _ ?_)
  obtain rfl := Option.some.inj h
  exact PE.i (wk h0 [4, 5, 6] (wR rfl (wR rfl (wR rfl (wR rfl (wR rfl (wR rfl (wR rfl wTn))))))) (vR rfl (vR rfl (vR rfl wVn))) wLn)
  replace h := cnd_f hb49 h
  iterate 4 refine no_t rfl rfl hb49 ?_
  refine s1 (d := dB false) (T_pickF hb49) ?_
  refine s1 T_mv ?_
  iterate 6 refine no_t rfl rfl rfl ?_
  refine s1 (d := dB false) (T_pickF rfl) ?_
  refine s1 T_as ?_
  refine .nil (hK _ _ ?_)
  obtain rfl := Option.some.inj h
  exact PE.i (wk h0 [4, 5, 6] (wR rfl (wR rfl (wR rfl (wR rfl (wR rfl (wR rfl (wR rfl wTn))))))) (vR rfl (vR rfl (vR rfl wVn))) wLn)
  rintro ex tm' hp' ⟨rfl, hw⟩
  refine AW.weak hw ?_
  refine AW.seq ?_
  obtain ⟨a42_0, hy, h⟩ := bnd_some h
  refine jn ((PE cx .normal (fun a42_0 => [(0, dB a42_0)]) fun a42_0 => ⟨[], [], 0⟩) a42_0) ?_ ?_
  replace h := hy
  refine rg hx (by kernel_rfl) fun K hK => ?_
  iterate 2 refine s1 T_mv ?_
  rcases Bool.eq_false_or_eq_true a40_0 with hb56 | hb56
  replace h := cnd_t hb56 h
  refine g1 hb56 T_mv ?_
  refine g1 (d := dO 3 cS [(⟨#[97]⟩ : ByteArray), (⟨#[98]⟩ : ByteArray)]) hb56 (T_bsl tb_36 tb_9) ?_
  obtain ⟨x57, hx58, h⟩ := bnd_some h
  refine g1 (d := dB x57) hb56 (T_call rfl (w_ref01_SameTexts hx58) rfl (lA (le_refl' _) (lA (le_refl' _) lAn)) (.inl rfl)) ?_
  refine s1 (d := dB x57) (T_pickT hb56) ?_
  refine s1 T_mv ?_
  rcases Bool.eq_false_or_eq_true x57 with hb59 | hb59
  replace h := cnd_t hb59 h
  refine g1 hb59 (T_faP tb_39 tb_3) ?_
  refine g1 (d := dI .i64 x41.1.vWant) hb59 (T_ldC tb_3) ?_
  refine g1 hb59 T_eql ?_
  refine s1 (d := dB (decide (x41.1.vWant = (3 : Int)))) (T_pickT hb59) ?_
  refine s1 T_mv ?_
  rcases Bool.eq_false_or_eq_true (decide (x41.1.vWant = (3 : Int))) with hb60 | hb60
  replace h := cnd_t hb60 h
  refine g1 hb60 T_mv ?_
  refine g1 (d := dI .i64 ((x45.2).length : Int)) hb60 (T_len tb_36 tb_9) ?_
  refine g1 hb60 T_eql ?_
  refine s1 (d := dB (decide (((x45.2).length : Int) = (0 : Int)))) (T_pickT hb60) ?_
  refine s1 T_mv ?_
  rcases Bool.eq_false_or_eq_true (decide (((x45.2).length : Int) = (0 : Int))) with hb61 | hb61
  replace h := cnd_t hb61 h
  refine g1 (d := dG c_End x41.1) hb61 (T_ldA tb_39) ?_
  refine g1 (d := dG c_End x45.1) hb61 (T_ldA tb_39) ?_
  obtain ⟨x62, hx63, h⟩ := bnd_some h
  refine g1 (d := dB x62) hb61 (T_call rfl (w_ref42_Same hx63) (by simp only [List.map_cons, List.map_nil, List.all_cons, List.all_nil, Bool.and_true, Bool.and_eq_true]; exact ⟨pure_ex_G _ _, pure_ex_G _ _⟩) (lA (le_refl' _) (lA (le_refl' _) lAn)) (.inl rfl)) ?_
  refine s1 (d := dB x62) (T_pickT hb61) ?_
  refine s1 T_mv ?_
  rcases Bool.eq_false_or_eq_true x62 with hb64 | hb64
  replace h := cnd_t hb64 h
  refine g1 hb64 T_mv ?_
  refine g1 (d := dI .i64 ((x47.2).length : Int)) hb64 (T_len tb_36 tb_9) ?_
  refine g1 hb64 T_eql ?_
  refine s1 (d := dB (decide (((x47.2).length : Int) = (0 : Int)))) (T_pickT hb64) ?_
  refine s1 T_mv ?_
  rcases Bool.eq_false_or_eq_true (decide (((x47.2).length : Int) = (0 : Int))) with hb65 | hb65
  replace h := cnd_t hb65 h
  refine g1 (d := dG c_End x47.1) hb65 (T_ldA tb_39) ?_
  refine g1 (d := dO 4 cS [(⟨#[99]⟩ : ByteArray)]) hb65 (T_bsl tb_36 tb_9) ?_
  refine g1 (d := .ag [dI .i64 (3 : Int), dO 4 cS [(⟨#[99]⟩ : ByteArray)], dI .i64 (1 : Int), dN]) hb65 (T_build tb_39) ?_
  obtain ⟨x66, hx67, h⟩ := bnd_some h
  refine g1 (d := dB x66) hb65 (T_call rfl (w_ref42_Same hx67) (by simp only [List.map_cons, List.map_nil, List.all_cons, List.all_nil, Bool.and_true, Bool.and_eq_true]; exact ⟨pure_ex_G _ _, rfl⟩) (lA (le_refl' _) (lA (le_ag (wc (lc_r _) (wc (lc_r _) (wc (lc_r _) (wc (lc_n rfl) wcn))))) lAn)) (.inl rfl)) ?_
  refine s1 (d := dB x66) (T_pickT hb65) ?_
  refine s1 T_as ?_
  refine .nil (hK _ _ ?_)
  obtain rfl := Option.some.inj h
  exact PE.i (wk h0 [] (wR rfl wTn) wVn wLn)
  replace h := cnd_f hb65 h
  iterate 4 refine no_t rfl rfl hb65 ?_
  refine s1 (d := dB false) (T_pickF hb65) ?_
  refine s1 T_as ?_
  refine .nil (hK _ _ ?_)
  obtain rfl := Option.some.inj h
  exact PE.i (wk h0 [] (wR rfl wTn) wVn wLn)
  replace h := cnd_f hb64 h
  iterate 3 refine no_t rfl rfl hb64 ?_
  refine s1 (d := dB false) (T_pickF hb64) ?_
  refine s1 T_mv ?_
  iterate 4 refine no_t rfl rfl rfl ?_
  refine s1 (d := dB false) (T_pickF rfl) ?_
  refine s1 T_as ?_
  refine .nil (hK _ _ ?_)
  obtain rfl := Option.some.inj h
  exact PE.i (wk h0 [] (wR rfl wTn) wVn wLn)
  replace h := cnd_f hb61 h
  iterate 3 refine no_t rfl rfl hb61 ?_
  refine s1 (d := dB false) (T_pickF hb61) ?_
  refine s1 T_mv ?_
  iterate 3 refine no_t rfl rfl rfl ?_
  refine s1 (d := dB false) (T_pickF rfl) ?_
  refine s1 T_mv ?_
  iterate 4 refine no_t rfl rfl rfl ?_
  refine s1 (d := dB false) (T_pickF rfl) ?_
  refine s1 T_as ?_
  refine .nil (hK _ _ ?_)
  obtain rfl := Option.some.inj h
  exact PE.i (wk h0 [] (wR rfl wTn) wVn wLn)
  replace h := cnd_f hb60 h
  iterate 3 refine no_t rfl rfl hb60 ?_
  refine s1 (d := dB false) (T_pickF hb60) ?_
  refine s1 T_mv ?_
  iterate 3 refine no_t rfl rfl rfl ?_
  refine s1 (d := dB false) (T_pickF rfl) ?_
  refine s1 T_mv ?_
  iterate 3 refine no_t rfl rfl rfl ?_
  refine s1 (d := dB false) (T_pickF rfl) ?_
  refine s1 T_mv ?_
  iterate 4 refine no_t rfl rfl rfl ?_
  refine s1 (d := dB false) (T_pickF rfl) ?_
  refine s1 T_as ?_
  refine .nil (hK _ _ ?_)
  obtain rfl := Option.some.inj h
  exact PE.i (wk h0 [] (wR rfl wTn) wVn wLn)
  replace h := cnd_f hb59 h
  iterate 3 refine no_t rfl rfl hb59 ?_
  refine s1 (d := dB false) (T_pickF hb59) ?_
  refine s1 T_mv ?_
  iterate 3 refine no_t rfl rfl rfl ?_
  refine s1 (d := dB false) (T_pickF rfl) ?_
  refine s1 T_mv ?_
  iterate 3 refine no_t rfl rfl rfl ?_
  refine s1 (d := dB false) (T_pickF rfl) ?_
  refine s1 T_mv ?_
  iterate 3 refine no_t rfl rfl rfl ?_
  refine s1 (d := dB false) (T_pickF rfl) ?_
  refine s1 T_mv ?_
  iterate 4 refine no_t rfl rfl rfl ?_
  refine s1 (d := dB false) (T_pickF rfl) ?_
  refine s1 T_as ?_
  refine .nil (hK _ _ ?_)
  obtain rfl := Option.some.inj h
  exact PE.i (wk h0 [] (wR rfl wTn) wVn wLn)
  replace h := cnd_f hb56 h
  iterate 3 refine no_t rfl rfl hb56 ?_
  refine s1 (d := dB false) (T_pickF hb56) ?_
  refine s1 T_mv ?_
  iterate 3 refine no_t rfl rfl rfl ?_
  refine s1 (d := dB false) (T_pickF rfl) ?_
  refine s1 T_mv ?_
  iterate 3 refine no_t rfl rfl rfl ?_
  refine s1 (d := dB false) (T_pickF rfl) ?_
  refine s1 T_mv ?_
  iterate 3 refine no_t rfl rfl rfl ?_
  refine s1 (d := dB false) (T_pickF rfl) ?_
  refine s1 T_mv ?_
  iterate 3 refine no_t rfl rfl rfl ?_
  refine s1 (d := dB false) (T_pickF rfl) ?_
  refine s1 T_mv ?_
  iterate 4 refine no_t rfl rfl rfl ?_
  refine s1 (d := dB false) (T_pickF rfl) ?_
  refine s1 T_as ?_
  refine .nil (hK _ _ ?_)
  obtain rfl := Option.some.inj h
  exact PE.i (wk h0 [] (wR rfl wTn) wVn wLn)
  rintro ex tm' hp' ⟨rfl, hw⟩
  refine AW.weak hw ?_
  refine AW.ret ?_
  obtain rfl := Option.some.inj h
  exact RetV.mk1 (resD_t rfl (.inr (.inr ⟨_, (le_refl' _), rfl, rfl⟩)))
set_option maxHeartbeats 1000000 in
set_option maxRecDepth 100000 in
theorem wr_slices_Grow_byte_byte (n : Nat) (w : World) (hn : n ≤ 1000000) :
    Calls Tryd.prog 43 #[.slice none 0 0, .int .i64 (n : Int)] w fun e w' => ∃ q, e = .returned q ∧ w'.ownsRow w.heap.size 5 1 q 0 [] ∧ Below w.heap.size w w' := by
  obtain ⟨i0, hi, hz0, hz1, hz2⟩ := info_parts (P := Tryd.prog) (e := 5) (z := (.int .u8 (0))) (size := 1) (bytes := 1) (by kernel_rfl)
  have h1 : ¬ ((n : Int) < 0) := by omega
  have h3 : wrap64 ((n : Int) - wrap64 (0 - 0)) = (n : Int) := by unfold wrap64; omega
  have h3' : wrap64 (n : Int) = (n : Int) := by unfold wrap64; omega
  rcases Nat.eq_zero_or_pos n with h0 | h0
  · subst h0
    go_enter Tryd.func43, Tryd.ntmps43
    go_wp2
    go_ret
    exact ⟨_, rfl, World.ownsRow_nil _ _ _ _, Below.refl _ _⟩
  · have h4 : (n : Int) > 0 := by omega
    have hrz : ∀ ty, (Builtin.append_ #[24, 3] ty #[.slice none 0 0, .int .i64 (n : Int)]).run Tryd.prog w = .ok (.slice (some ⟨w.heap.size, 0, none⟩) n (grownCap w n 0 5)) (w.drew.alloc (.cells (Builtin.zeroCells (Value.cells (.int .u8 (0))) n ++ Builtin.zeroCells (Value.cells (.int .u8 (0))) (grownCap w n 0 5 - n)) 5)) := fun ty => by
      have h := Lib.run_append_grow_zeros (P := Tryd.prog) w 24 3 ty 5 i0 (.int .u8 (0)) .i64 .i64 Tryd.underlying24 Tryd.underlying3 hi hz0 none 0 0 [] (by simp [Builtin.firstCells]) n h0 (by rw [hz1]; decide) (by omega) (by omega) (by rw [hz2]; omega) (growslice_fits (by omega) (by rw [hz2]; omega))
      simpa using h
    have hGn : n ≤ grownCap w n 0 5 := grownCap_ge w _ _ _
    have hG63 : grownCap w n 0 5 ≤ maxLen := grownCap_le_maxLen w n 0 5 (by unfold maxLen; omega)
    obtain ⟨G, hG⟩ : ∃ G, G = grownCap w n 0 5 := ⟨_, rfl⟩
    rw [← hG] at hrz hGn hG63
    have hG64 : G ≤ 9223372036854775807 := hG63
    have hsz : (Builtin.zeroCells (Value.cells (.int .u8 (0))) n ++ Builtin.zeroCells (Value.cells (.int .u8 (0))) (G - n)).size = G * 1 := by
      have hz : ((Value.cells (.int .u8 (0)))).size = 1 := by kernel_rfl
      simp only [Builtin.zeroCells, Array.size_append, Array.size_map, Array.size_range, hz]
      rw [← Nat.add_mul]; congr 1; omega
    obtain ⟨C, hC⟩ : ∃ C, C = Builtin.zeroCells (Value.cells (.int .u8 (0))) n ++ Builtin.zeroCells (Value.cells (.int .u8 (0))) (G - n) := ⟨_, rfl⟩
    rw [← hC] at hrz hsz
    have HC := Lib.hid hC
    have HG := Lib.hid hG
    have HS := Lib.hid hsz
    have H63 := Lib.hid hG63
    clear hC hG hsz hG63
    go_enter Tryd.func43, Tryd.ntmps43
    go_wp2_with (at_builtin; refine Lib.wpList_append_run _ rfl _ _ _ _ rfl _ _ rfl rfl _ _ (hrz _) ?_)
    all_goals (go_ret; exact ⟨_, rfl, World.ownsRow_made w.drew C G (Nat.le_refl _) H63.out HS.out, ((Below.refl w.heap.size w).drew).alloc (Nat.le_refl _) _⟩)
noncomputable def g_slices_Grow_byte_byte (n : Int) : Option (List Int) := gd (0 ≤ n ∧ n ≤ 1000000) (some [])
theorem w_slices_Grow_byte_byte {n : Int} {r : List Int} (h : g_slices_Grow_byte_byte n = some r) : PCalls Tryd.prog 43 [dN, dI .i64 n] (.own 5 (cI .u8).sz r.length (r.flatMap (cI .u8).f)) := by
  obtain ⟨hn, h⟩ := gd_some h
  obtain rfl := Option.some.inj h
  obtain ⟨m, rfl⟩ : ∃ m : Nat, n = (m : Int) := ⟨n.toNat, by omega⟩
  exact grow_of (by decide) ⟨_, Tryd.func43, rfl, rfl⟩ (fun w => wr_slices_Grow_byte_byte m w (by omega))
noncomputable def g_slices_Concat_byte_byte_l9 (p_slices : List (List Int)) : Int × Int → Option ((Int × Int) ⊕ Int) := fun (a9_0, a9_1) => cnd (decide (a9_1 < ((p_slices).length : Int))) (gd (0 ≤ a9_1 ∧ a9_1 < ((p_slices).length : Int)) (bnd (some (IntKind.i64.wrap (a9_0 + (((p_slices)[(a9_1).toNat]!).length : Int)))) fun x4 => cnd (decide (x4 < (0 : Int))) (none) (some (.inl (x4, IntKind.i64.wrap (a9_1 + (1 : Int))))))) (some (.inr a9_0))
noncomputable def g_slices_Concat_byte_byte_l34 (p_slices : List (List Int)) : (List Int) × Int → Option (((List Int) × Int) ⊕ ((List Int))) := fun (a34_0, a34_1) => cnd (decide (a34_1 < ((p_slices).length : Int))) (gd (0 ≤ a34_1 ∧ a34_1 < ((p_slices).length : Int)) (gd ((a34_0 ++ ((p_slices)[(a34_1).toNat]!)).length * 1 ≤ 140737488355328) (some (.inl (a34_0 ++ ((p_slices)[(a34_1).toNat]!), IntKind.i64.wrap (a34_1 + (1 : Int))))))) (some (.inr a34_0))
noncomputable def g_slices_Concat_byte_byte (p_slices : List (List Int)) : Option (List Int) := bnd (loopO (g_slices_Concat_byte_byte_l9 p_slices) ((0 : Int), (0 : Int))) fun a9e0_0 => bnd (g_slices_Grow_byte_byte a9e0_0) fun x8 => bnd (loopO (g_slices_Concat_byte_byte_l34 p_slices) (x8, (0 : Int))) fun a34e2_0 => some a34e2_0
set_option maxHeartbeats 4000000 in
theorem w_slices_Concat_byte_byte {p_slices : List (List Int)} {r : List Int} (h : g_slices_Concat_byte_byte p_slices = some r) : PCalls Tryd.prog 20 [dL (cL (cI .u8)) p_slices] (.own 5 (cI .u8).sz r.length (r.flatMap (cI .u8).f)) := by
  refine PCalls.of (rs := [.tmp 2]) tok Tryd.func20 rfl rfl (Nat.le_of_ble_eq_true rfl) rfl (fun cx hx h0 => ?_)
  simp only [argsT, Nat.reduceAdd, Nat.zero_add]
  unfold g_slices_Concat_byte_byte at h
  refine AW.seq ?_
  refine rg hx (by kernel_rfl) fun K hK => ?_
  refine s1 (d := dO 0 (cI .u8) ([] : List Int)) (T_asgN tb_24 tb_5) ?_
  refine .nil (hK _ _ ?_)
  refine AW.seq ?_
  refine rg hx (by kernel_rfl) fun K hK => ?_
  refine s1 (d := dI .i64 (0 : Int)) T_asg ?_
  refine .nil (hK _ _ ?_)
  iterate 2 refine AW.seq ?_
  refine rg hx (by kernel_rfl) fun K hK => ?_
  refine s1 T_mv ?_
  refine s1 (d := dI .i64 ((p_slices).length : Int)) (T_len tb_76 tb_24) ?_
  refine s1 (d := dI .i64 (0 : Int)) T_move ?_
  refine .nil (hK _ _ ?_)
  refine AW.block ?_
  obtain ⟨a9e0_0, hy, h⟩ := bnd_some h
  refine lp (S := Int × Int) (X := Int) (fun (a9_0, a9_1) => [(0, dL (cL (cI .u8)) p_slices), (3, dI .i64 a9_0), (9, dL (cL (cI .u8)) p_slices), (10, dI .i64 ((p_slices).length : Int)), (11, dI .i64 a9_1)]) (fun (a9_0, a9_1) => ⟨[], [], 0⟩) (PE cx (.exit 0) (fun a9e0_0 => [(0, dL (cL (cI .u8)) p_slices), (3, dI .i64 a9e0_0)]) fun a9e0_0 => ⟨[], [], 0⟩) hy ?_ ?_ ?_
  exact wk h0 [] (wR rfl (wR rfl (wR rfl (wR rfl (wR rfl wTn))))) wVn wLn
  clear hy h
  rintro ⟨a9_0, a9_1⟩ y h
  dsimp only [g_slices_Concat_byte_byte_l9] at h
  refine AW.seq ?_
  refine rg hx (by kernel_rfl) fun K hK => ?_
  refine s1 T_lss ?_
  refine .nil (hK _ _ ?_)
  refine AW.seq ?_
  refine AW.condS rfl (fun hb1 => ?_) (fun hb1 => ?_)
  replace h := cnd_t hb1 h
  refine AW.skip ?_
  refine AW.seq ?_
  refine AW.block ?_
  refine AW.seq ?_
  refine rg hx (by kernel_rfl) fun K hK => ?_
  obtain ⟨hc2, h⟩ := gd_some h
  have hn3 : (a9_1).toNat < (p_slices).length := by omega
  refine s1 (T_iaS hc2 tb_76 tb_24) ?_
  refine s1 (d := dL (cI .u8) ((p_slices)[(a9_1).toNat]!)) (T_ldF (c := (cL (cI .u8))) (l := p_slices) (n := (a9_1).toNat) (o := 0) tb_24 hn3) ?_
  refine s1 T_as ?_
  refine .nil (hK _ _ ?_)
  refine AW.seq ?_
  refine rg hx (by kernel_rfl) fun K hK => ?_
  iterate 2 refine s1 T_mv ?_
  refine s1 (d := dI .i64 (((p_slices)[(a9_1).toNat]!).length : Int)) (T_len tb_24 tb_5) ?_
  refine s1 T_add ?_
  obtain ⟨x4, hx5, h⟩ := bnd_some h
  replace hx5 := Option.some.inj hx5
  refine s2 (d2 := dI .i64 x4) T_as (le_eq (congrArg (dI .i64) hx5)) ?_
  refine .nil (hK _ _ ?_)
  refine AW.seq ?_
  refine rg hx (by kernel_rfl) fun K hK => ?_
  refine s1 T_mv ?_
  refine s1 T_lss ?_
  refine .nil (hK _ _ ?_)
  refine AW.condS rfl (fun hb6 => ?_) (fun hb6 => ?_)
  replace h := cnd_t hb6 h
  refine rg hx (by kernel_rfl) fun K hK => ?_
  cases h
  replace h := cnd_f hb6 h
  refine AW.skip ?_
  refine rg hx (by kernel_rfl) fun K hK => ?_
  refine s1 T_add ?_
  refine s1 T_mv ?_
  refine .nil (hK _ _ ?_)
  obtain rfl := Option.some.inj h
  exact PS.l (PE.i (wk h0 [] (wR rfl (wR rfl (wR rfl (wR rfl (wR rfl wTn))))) wVn wLn))
  replace h := cnd_f hb1 h
  refine AW.exit ?_
  try dsimp only
  try simp only [if_true, reduceIte, Nat.reduceEqDiff, reduceCtorEq]
  obtain rfl := Option.some.inj h
  exact PS.r ⟨by nofun, PE.i (wk h0 [] (wR rfl (wR rfl wTn)) wVn wLn)⟩
  rintro ex tm' hp' ⟨rfl, hw⟩
  try dsimp only
  try simp only [if_true, reduceIte, Nat.reduceEqDiff, reduceCtorEq]
  refine AW.weak hw ?_
  refine AW.seq ?_
  refine rg hx (by kernel_rfl) fun K hK => ?_
  refine s1 T_mv ?_
  obtain ⟨x8, hx9, h⟩ := bnd_some h
  refine s1 (d := dO 0 (cI .u8) x8) (T_callO rfl (w_slices_Grow_byte_byte hx9) rfl (lA (le_refl' _) (lA (le_refl' _) lAn))) ?_
  refine s1 T_as ?_
  refine .nil (hK _ _ ?_)
  iterate 2 refine AW.seq ?_
  refine rg hx (by kernel_rfl) fun K hK => ?_
  refine s1 T_mv ?_
  refine s1 (d := dI .i64 ((p_slices).length : Int)) (T_len tb_76 tb_24) ?_
  refine s1 (d := dI .i64 (0 : Int)) T_move ?_
  refine .nil (hK _ _ ?_)
  refine AW.block ?_
  obtain ⟨a34e2_0, hy, h⟩ := bnd_some h
  refine lp (S := (List Int) × Int) (X := (List Int)) (fun (a34_0, a34_1) => [(6, dO 0 (cI .u8) a34_0), (25, dL (cL (cI .u8)) p_slices), (26, dI .i64 ((p_slices).length : Int)), (27, dI .i64 a34_1)]) (fun (a34_0, a34_1) => ⟨[], [(0, (a34_0).length, 1, 5)], 1⟩) (PE cx (.exit 2) (fun a34e2_0 => [(6, dO 0 (cI .u8) a34e2_0)]) fun a34e2_0 => ⟨[], [(0, (a34e2_0).length, 1, 5)], 1⟩) hy ?_ ?_ ?_
  exact wk h0 [0] (wR rfl (wR rfl (wR rfl (wR rfl wTn)))) wVn (wL rfl rfl wLn)
  clear hy h
  rintro ⟨a34_0, a34_1⟩ y h
  dsimp only [g_slices_Concat_byte_byte_l34] at h
  refine AW.seq ?_
  refine rg hx (by kernel_rfl) fun K hK => ?_
  refine s1 T_lss ?_
  refine .nil (hK _ _ ?_)
  refine AW.seq ?_
  refine AW.condS rfl (fun hb10 => ?_) (fun hb10 => ?_)
  replace h := cnd_t hb10 h
  refine AW.skip ?_
  refine AW.seq ?_
  refine AW.block ?_
  refine AW.seq ?_
  refine rg hx (by kernel_rfl) fun K hK => ?_
  obtain ⟨hc11, h⟩ := gd_some h
  have hn12 : (a34_1).toNat < (p_slices).length := by omega
  refine s1 (T_iaS hc11 tb_76 tb_24) ?_
  refine s1 (d := dL (cI .u8) ((p_slices)[(a34_1).toNat]!)) (T_ldF (c := (cL (cI .u8))) (l := p_slices) (n := (a34_1).toNat) (o := 0) tb_24 hn12) ?_
  refine s1 T_as ?_
  refine .nil (hK _ _ ?_)
  refine rg hx (by kernel_rfl) fun K hK => ?_
  iterate 2 refine s1 T_mv ?_
  obtain ⟨hc13, h⟩ := gd_some h
  refine s1 (d := dO 0 (cI .u8) (a34_0 ++ ((p_slices)[(a34_1).toNat]!))) (T_appO tb_24 tb_5 hc13) ?_
  refine s1 T_as ?_
  refine .nil (hK _ _ ?_)
  refine rg hx (by kernel_rfl) fun K hK => ?_
  refine s1 T_add ?_
  refine s1 T_mv ?_
  refine .nil (hK _ _ ?_)
  obtain rfl := Option.some.inj h
  exact PS.l (PE.i (wk h0 [0] (wR rfl (wR rfl (wR rfl (wR rfl wTn)))) wVn (wL rfl rfl wLn)))
  replace h := cnd_f hb10 h
  refine AW.exit ?_
  try dsimp only
  try simp only [if_true, reduceIte, Nat.reduceEqDiff, reduceCtorEq]
  obtain rfl := Option.some.inj h
  exact PS.r ⟨by nofun, PE.i (wk h0 [0] (wR rfl wTn) wVn (wL rfl rfl wLn))⟩
  rintro ex tm' hp' ⟨rfl, hw⟩
  try dsimp only
  try simp only [if_true, reduceIte, Nat.reduceEqDiff, reduceCtorEq]
  refine AW.weak hw ?_
  refine AW.seq ?_
  refine rg hx (by kernel_rfl) fun K hK => ?_
  refine s1 T_mv ?_
  refine s1 T_as ?_
  refine .nil (hK _ _ ?_)
  refine AW.ret ?_
  obtain rfl := Option.some.inj h
  exact RetV.own rfl rfl
noncomputable def g_wire_GetInt_l14 (p_b : List Int) : Int × Int → Option ((Int × Int) ⊕ ((Int × Int × Int) ⊕ (Int × Int))) := fun (a14_0, a14_1) => cnd (decide (a14_1 < ((p_b).length : Int))) (gd (0 ≤ a14_1 ∧ a14_1 < ((p_b).length : Int)) (bnd (S := Bool) (bnd (S := Bool) (cnd (decide (a14_1 = (9 : Int))) (some (decide ((1 : Int) < ((p_b)[(a14_1).toNat]!)))) (some (false))) fun a29_0 => cnd a29_0 (some (a29_0)) (cnd (decide ((0 : Int) < a14_1)) (some (decide (((p_b)[(a14_1).toNat]!) = (0 : Int)))) (some (false)))) fun a28_0 => cnd a28_0 (some (.inr (.inl ((0 : Int), (0 : Int), (11 : Int))))) (gd (0 ≤ IntKind.i64.wrap ((7 : Int) * a14_1)) (bnd (some (ior .u64 a14_0 (ishl .u64 (IntKind.u64.wrap (iand .u8 ((p_b)[(a14_1).toNat]!) (127 : Int))) (IntKind.i64.wrap ((7 : Int) * a14_1))))) fun x11 => cnd (decide (((p_b)[(a14_1).toNat]!) < (128 : Int))) (some (.inr (.inr (x11, IntKind.i64.wrap (a14_1 + (1 : Int)))))) (some (.inl (x11, IntKind.i64.wrap (a14_1 + (1 : Int))))))))) (some (.inr (.inr (a14_0, (0 : Int)))))
noncomputable def g_wire_GetInt (p_b : List Int) : Option (Int × Int × Int) := bnd (loopO (g_wire_GetInt_l14 p_b) ((0 : Int), (0 : Int))) fun y14 => match y14 with | .inl r => some r | .inr (a14e0_0, a14e0_1) => cnd (decide (a14e0_1 = (0 : Int))) (some ((0 : Int), (0 : Int), (10 : Int))) (some (ixor .i64 (IntKind.i64.wrap (ishr .u64 a14e0_0 (1 : Int))) (IntKind.i64.wrap (0 - (IntKind.i64.wrap (iand .u64 a14e0_0 (1 : Int))))), a14e0_1, (0 : Int)))
set_option maxHeartbeats 4000000 in
theorem w_wire_GetInt {p_b : List Int} {r : Int × Int × Int} (h : g_wire_GetInt p_b = some r) : PCalls Tryd.prog 28 [dL (cI .u8) p_b] (.tu [dI .i64 r.1, dI .i64 r.2.1, dI .i64 r.2.2]) := by
  refine PCalls.of (rs := [.tmp 2, .tmp 3, .tmp 4]) tok Tryd.func28 rfl rfl (Nat.le_of_ble_eq_true rfl) rfl (fun cx hx h0 => ?_)
  simp only [argsT, Nat.reduceAdd, Nat.zero_add]
  unfold g_wire_GetInt at h
  refine AW.seq ?_
  refine rg hx (by kernel_rfl) fun K hK => ?_
  iterate 3 refine s1 (d := dI .i64 (0 : Int)) T_asg ?_
  refine .nil (hK _ _ ?_)
  refine AW.scope ?_
  refine AW.seq ?_
  refine rg hx (by kernel_rfl) fun K hK => ?_
  refine s1 (d := dI .u64 (0 : Int)) T_asg ?_
  refine .nil (hK _ _ ?_)
  refine AW.seq ?_
  refine rg hx (by kernel_rfl) fun K hK => ?_
  refine s1 (d := dI .i64 (0 : Int)) T_asg ?_
  refine .nil (hK _ _ ?_)
  refine AW.seq ?_
  refine AW.label ?_
  iterate 2 refine AW.seq ?_
  refine rg hx (by kernel_rfl) fun K hK => ?_
  refine s1 T_mv ?_
  refine s1 (d := dI .i64 ((p_b).length : Int)) (T_len tb_24 tb_5) ?_
  refine s1 (d := dI .i64 (0 : Int)) T_move ?_
  refine .nil (hK _ _ ?_)
  refine AW.block ?_
  obtain ⟨y, hy, h⟩ := bnd_some h
  refine lp (S := Int × Int) (X := (Int × Int × Int) ⊕ (Int × Int)) (fun (a14_0, a14_1) => [(5, dI .u64 a14_0), (6, dI .i64 (0 : Int)), (9, dL (cI .u8) p_b), (10, dI .i64 ((p_b).length : Int)), (11, dI .i64 a14_1)]) (fun (a14_0, a14_1) => ⟨[], [], 0⟩) (PS (PR [.tmp 2, .tmp 3, .tmp 4] fun r => .tu [dI .i64 r.1, dI .i64 r.2.1, dI .i64 r.2.2]) (PE cx (.exit 0) (fun (a14e0_0, a14e0_1) => [(5, dI .u64 a14e0_0), (6, dI .i64 a14e0_1)]) fun (a14e0_0, a14e0_1) => ⟨[], [], 0⟩)) hy ?_ ?_ ?_
  exact wk h0 [] (wR rfl (wR rfl (wR rfl (wR rfl (wR rfl wTn))))) wVn wLn
  clear hy h
  rintro ⟨a14_0, a14_1⟩ y h
  dsimp only [g_wire_GetInt_l14] at h
  refine AW.seq ?_
  refine rg hx (by kernel_rfl) fun K hK => ?_
  refine s1 T_lss ?_
  refine .nil (hK _ _ ?_)
  refine AW.seq ?_
  refine AW.condS rfl (fun hb1 => ?_) (fun hb1 => ?_)
  replace h := cnd_t hb1 h
  refine AW.skip ?_
  refine AW.seq ?_
  refine AW.block ?_
  refine AW.seq ?_
  refine rg hx (by kernel_rfl) fun K hK => ?_
  refine s1 T_mv ?_
  obtain ⟨hc2, h⟩ := gd_some h
  have hn3 : (a14_1).toNat < (p_b).length := by omega
  refine s1 (T_iaS hc2 tb_24 tb_5) ?_
  refine s1 (d := dI .u8 ((p_b)[(a14_1).toNat]!)) (T_ldF (c := (cI .u8)) (l := p_b) (n := (a14_1).toNat) (o := 0) tb_5 hn3) ?_
  iterate 2 refine s1 T_as ?_
  refine .nil (hK _ _ ?_)
  refine AW.seq ?_
  refine AW.block ?_
  refine AW.seq ?_
  obtain ⟨a28_0, hy, h⟩ := bnd_some h
  refine jn ((PE cx .normal (fun a28_0 => [(5, dI .u64 a14_0), (6, dI .i64 (0 : Int)), (7, dI .i64 a14_1), (8, dI .u8 ((p_b)[(a14_1).toNat]!)), (9, dL (cI .u8) p_b), (10, dI .i64 ((p_b).length : Int)), (11, dI .i64 a14_1), (24, dB a28_0)]) fun a28_0 => ⟨[], [], 0⟩) a28_0) ?_ ?_
  replace h := hy
  refine AW.seq ?_
  obtain ⟨a29_0, hy, h⟩ := bnd_some h
  refine jn ((PE cx .normal (fun a29_0 => [(5, dI .u64 a14_0), (6, dI .i64 (0 : Int)), (7, dI .i64 a14_1), (8, dI .u8 ((p_b)[(a14_1).toNat]!)), (9, dL (cI .u8) p_b), (10, dI .i64 ((p_b).length : Int)), (11, dI .i64 a14_1), (24, dB a29_0)]) fun a29_0 => ⟨[], [], 0⟩) a29_0) ?_ ?_
  replace h := hy
  refine rg hx (by kernel_rfl) fun K hK => ?_
  refine s1 T_mv ?_
  refine s1 T_eql ?_
  refine s1 T_mv ?_
  rcases Bool.eq_false_or_eq_true (decide (a14_1 = (9 : Int))) with hb4 | hb4
  replace h := cnd_t hb4 h
  refine g1 hb4 T_mv ?_
  refine g1 hb4 T_gtr ?_
  refine s1 (d := dB (decide ((1 : Int) < ((p_b)[(a14_1).toNat]!)))) (T_pickT hb4) ?_
  refine s1 T_as ?_
  refine .nil (hK _ _ ?_)
  obtain rfl := Option.some.inj h
  exact PE.i (wk h0 [] (wR rfl (wR rfl (wR rfl (wR rfl (wR rfl (wR rfl (wR rfl (wR rfl wTn)))))))) wVn wLn)
  replace h := cnd_f hb4 h
  iterate 2 refine no_t rfl rfl hb4 ?_
  refine s1 (d := dB false) (T_pickF hb4) ?_
  refine s1 T_as ?_
  refine .nil (hK _ _ ?_)
  obtain rfl := Option.some.inj h
  exact PE.i (wk h0 [] (wR rfl (wR rfl (wR rfl (wR rfl (wR rfl (wR rfl (wR rfl (wR rfl wTn)))))))) wVn wLn)
  rintro ex tm' hp' ⟨rfl, hw⟩
  refine AW.weak hw ?_
  refine AW.condS rfl (fun hb6 => ?_) (fun hb6 => ?_)
  replace h := cnd_t hb6 h
  refine AW.skip ?_
  obtain rfl := Option.some.inj h
  exact PE.i (wk h0 [] (wR rfl (wR rfl (wR rfl (wR rfl (wR rfl (wR rfl (wR rfl (wR rfl wTn)))))))) wVn wLn)
  replace h := cnd_f hb6 h
  refine rg hx (by kernel_rfl) fun K hK => ?_
  refine s1 T_mv ?_
  refine s1 T_gtr ?_
  refine s1 T_mv ?_
  rcases Bool.eq_false_or_eq_true (decide ((0 : Int) < a14_1)) with hb7 | hb7
  replace h := cnd_t hb7 h
  refine g1 hb7 T_mv ?_
  refine g1 hb7 T_eql ?_
  refine s1 (d := dB (decide (((p_b)[(a14_1).toNat]!) = (0 : Int)))) (T_pickT hb7) ?_
  refine s1 T_as ?_
  refine .nil (hK _ _ ?_)
  obtain rfl := Option.some.inj h
  exact PE.i (wk h0 [] (wR rfl (wR rfl (wR rfl (wR rfl (wR rfl (wR rfl (wR rfl (wR rfl wTn)))))))) wVn wLn)
  replace h := cnd_f hb7 h
  iterate 2 refine no_t rfl rfl hb7 ?_
  refine s1 (d := dB false) (T_pickF hb7) ?_
  refine s1 T_as ?_
  refine .nil (hK _ _ ?_)
  obtain rfl := Option.some.inj h
  exact PE.i (wk h0 [] (wR rfl (wR rfl (wR rfl (wR rfl (wR rfl (wR rfl (wR rfl (wR rfl wTn)))))))) wVn wLn)
  rintro ex tm' hp' ⟨rfl, hw⟩
  refine AW.weak hw ?_
  refine AW.condS rfl (fun hb9 => ?_) (fun hb9 => ?_)
  replace h := cnd_t hb9 h
  refine AW.seq ?_
  refine rg hx (by kernel_rfl) fun K hK => ?_
  iterate 2 refine s1 (d := dI .i64 (0 : Int)) T_asg ?_
  refine s1 (d := dI .i64 (11 : Int)) T_asg ?_
  refine .nil (hK _ _ ?_)
  refine AW.ret ?_
  obtain rfl := Option.some.inj h
  refine PS.r ⟨by nofun, PS.l (PR.i ?_)⟩
  exact RetV.mk3 (resD_t rfl (resD_t rfl (resD_t rfl (.inr ⟨_, _, _, (le_refl' _), (le_refl' _), (le_refl' _), ⟨rfl, rfl, rfl⟩, rfl⟩))))
  replace h := cnd_f hb9 h
  refine rg hx (by kernel_rfl) fun K hK => ?_
  iterate 2 refine s1 T_mv ?_
  refine s1 T_and ?_
  refine s1 (d := dI .u64 (IntKind.u64.wrap (iand .u8 ((p_b)[(a14_1).toNat]!) (127 : Int)))) (T_cvI tb_5 tb_78) ?_
  refine s1 T_mv ?_
  refine s1 T_mul ?_
  obtain ⟨hc10, h⟩ := gd_some h
  refine s1 (T_shl hc10) ?_
  refine s1 T_or ?_
  obtain ⟨x11, hx12, h⟩ := bnd_some h
  replace hx12 := Option.some.inj hx12
  refine s2 (d2 := dI .u64 x11) T_as (le_eq (congrArg (dI .u64) hx12)) ?_
  refine .nil (hK _ _ ?_)
  refine AW.seq ?_
  refine rg hx (by kernel_rfl) fun K hK => ?_
  refine s1 T_mv ?_
  refine s1 T_lss ?_
  refine .nil (hK _ _ ?_)
  refine AW.condS rfl (fun hb13 => ?_) (fun hb13 => ?_)
  replace h := cnd_t hb13 h
  refine AW.seq ?_
  refine rg hx (by kernel_rfl) fun K hK => ?_
  refine s1 T_mv ?_
  refine s1 T_add ?_
  refine s1 T_as ?_
  refine .nil (hK _ _ ?_)
  refine AW.exit ?_
  try dsimp only
  try simp only [if_true, reduceIte, Nat.reduceEqDiff, reduceCtorEq]
  obtain rfl := Option.some.inj h
  exact PS.r ⟨by nofun, PS.r (PE.i (wk h0 [] (wR rfl (wR rfl wTn)) wVn wLn))⟩
  replace h := cnd_f hb13 h
  refine AW.skip ?_
  refine rg hx (by kernel_rfl) fun K hK => ?_
  refine s1 T_add ?_
  refine s1 T_mv ?_
  refine .nil (hK _ _ ?_)
  obtain rfl := Option.some.inj h
  exact PS.l (PE.i (wk h0 [] (wR rfl (wR rfl (wR rfl (wR rfl (wR rfl wTn))))) wVn wLn))
  replace h := cnd_f hb1 h
  refine AW.exit ?_
  try dsimp only
  try simp only [if_true, reduceIte, Nat.reduceEqDiff, reduceCtorEq]
  obtain rfl := Option.some.inj h
  exact PS.r ⟨by nofun, PS.r (PE.i (wk h0 [] (wR rfl (wR rfl wTn)) wVn wLn))⟩
  rcases y with r | ⟨a14e0_0, a14e0_1⟩
  rintro ex tm' hp' ⟨rfl, hw⟩
  obtain rfl := Option.some.inj h
  exact hw
  rintro ex tm' hp' ⟨rfl, hw⟩
  try dsimp only
  try simp only [if_true, reduceIte, Nat.reduceEqDiff, reduceCtorEq]
  refine AW.weak hw ?_
  iterate 2 refine AW.seq ?_
  refine rg hx (by kernel_rfl) fun K hK => ?_
  refine s1 T_mv ?_
  refine s1 T_eql ?_
  refine .nil (hK _ _ ?_)
  refine AW.condS rfl (fun hb15 => ?_) (fun hb15 => ?_)
  replace h := cnd_t hb15 h
  refine AW.seq ?_
  refine rg hx (by kernel_rfl) fun K hK => ?_
  iterate 2 refine s1 (d := dI .i64 (0 : Int)) T_asg ?_
  refine s1 (d := dI .i64 (10 : Int)) T_asg ?_
  refine .nil (hK _ _ ?_)
  refine AW.ret ?_
  obtain rfl := Option.some.inj h
  exact RetV.mk3 (resD_t rfl (resD_t rfl (resD_t rfl (.inr ⟨_, _, _, (le_refl' _), (le_refl' _), (le_refl' _), ⟨rfl, rfl, rfl⟩, rfl⟩))))
  replace h := cnd_f hb15 h
  refine AW.skip ?_
  refine AW.seq ?_
  refine rg hx (by kernel_rfl) fun K hK => ?_
  refine s1 T_mv ?_
  refine s1 (T_shr (b := (1 : Int)) (by decide)) ?_
  refine s1 (d := dI .i64 (IntKind.i64.wrap (ishr .u64 a14e0_0 (1 : Int)))) (T_cvI tb_78 tb_3) ?_
  refine s1 T_mv ?_
  refine s1 T_and ?_
  refine s1 (d := dI .i64 (IntKind.i64.wrap (iand .u64 a14e0_0 (1 : Int)))) (T_cvI tb_78 tb_3) ?_
  refine s1 T_neg ?_
  refine s1 T_xor ?_
  refine s1 T_mv ?_
  iterate 2 refine s1 T_as ?_
  refine s1 (d := dI .i64 (0 : Int)) T_asg ?_
  refine .nil (hK _ _ ?_)
  refine AW.ret ?_
  obtain rfl := Option.some.inj h
  exact RetV.mk3 (resD_t rfl (resD_t rfl (resD_t rfl (.inr ⟨_, _, _, (le_refl' _), (le_refl' _), (le_refl' _), ⟨rfl, rfl, rfl⟩, rfl⟩))))
noncomputable def g_wire_length (p_b : List Int) (p_least : Int) : Option (Int × Int × Int) := bnd (g_wire_GetInt p_b) fun x1 => cnd (decide (x1.2.2 ≠ (0 : Int))) (some ((0 : Int), (0 : Int), x1.2.2)) (cnd (decide (x1.1 < (0 : Int))) (some ((0 : Int), (0 : Int), (11 : Int))) (gd (p_least ≠ 0) (cnd (decide ((IntKind.i64.wrap (Int.tdiv (IntKind.i64.wrap (((p_b).length : Int) - x1.2.1)) p_least)) < x1.1)) (some ((0 : Int), (0 : Int), (10 : Int))) (some (x1.1, x1.2.1, (0 : Int))))))
theorem w_wire_length {p_b : List Int} {p_least : Int} {r : Int × Int × Int} (h : g_wire_length p_b p_least = some r) : PCalls Tryd.prog 49 [dL (cI .u8) p_b, dI .i64 p_least] (.tu [dI .i64 r.1, dI .i64 r.2.1, dI .i64 r.2.2]) := by
  refine PCalls.of (rs := [.tmp 4, .tmp 5, .tmp 6]) tok Tryd.func49 rfl rfl (Nat.le_of_ble_eq_true rfl) rfl (fun cx hx h0 => ?_)
  simp only [argsT, Nat.reduceAdd, Nat.zero_add]
  unfold g_wire_length at h
  refine AW.seq ?_
  refine rg hx (by kernel_rfl) fun K hK => ?_
  iterate 3 refine s1 (d := dI .i64 (0 : Int)) T_asg ?_
  refine .nil (hK _ _ ?_)
  refine AW.seq ?_
  refine rg hx (by kernel_rfl) fun K hK => ?_
  refine s1 T_mv ?_
  obtain ⟨x1, hx2, h⟩ := bnd_some h
  refine s1 (T_call rfl (w_wire_GetInt hx2) rfl (lA (le_refl' _) lAn) (.inr ⟨_, rfl⟩)) ?_
  refine s1 T_mv ?_
  iterate 3 refine s1 T_ext ?_
  iterate 3 refine s1 T_as ?_
  refine .nil (hK _ _ ?_)
  refine AW.seq ?_
  refine AW.block ?_
  refine AW.seq ?_
  refine rg hx (by kernel_rfl) fun K hK => ?_
  refine s1 T_mv ?_
  refine s1 T_neq ?_
  refine s1 T_as ?_
  refine .nil (hK _ _ ?_)
  refine AW.condS rfl (fun hb3 => ?_) (fun hb3 => ?_)
  replace h := cnd_t hb3 h
  refine AW.seq ?_
  refine rg hx (by kernel_rfl) fun K hK => ?_
  refine s1 T_mv ?_
  iterate 2 refine s1 (d := dI .i64 (0 : Int)) T_asg ?_
  refine s1 T_as ?_
  refine .nil (hK _ _ ?_)
  refine AW.ret ?_
  obtain rfl := Option.some.inj h
  exact RetV.mk3 (resD_t rfl (resD_t rfl (resD_t rfl (.inr ⟨_, _, _, (le_refl' _), (le_refl' _), (le_refl' _), ⟨rfl, rfl, rfl⟩, rfl⟩))))
  replace h := cnd_f hb3 h
  refine AW.seq ?_
  refine rg hx (by kernel_rfl) fun K hK => ?_
  refine s1 T_mv ?_
  refine s1 T_lss ?_
  refine s1 T_as ?_
  refine .nil (hK _ _ ?_)
  refine AW.condS rfl (fun hb4 => ?_) (fun hb4 => ?_)
  replace h := cnd_t hb4 h
  refine AW.seq ?_
  refine rg hx (by kernel_rfl) fun K hK => ?_
  iterate 2 refine s1 (d := dI .i64 (0 : Int)) T_asg ?_
  refine s1 (d := dI .i64 (11 : Int)) T_asg ?_
  refine .nil (hK _ _ ?_)
  refine AW.ret ?_
  obtain rfl := Option.some.inj h
  exact RetV.mk3 (resD_t rfl (resD_t rfl (resD_t rfl (.inr ⟨_, _, _, (le_refl' _), (le_refl' _), (le_refl' _), ⟨rfl, rfl, rfl⟩, rfl⟩))))
  replace h := cnd_f hb4 h
  refine AW.seq ?_
  refine rg hx (by kernel_rfl) fun K hK => ?_
  iterate 2 refine s1 T_mv ?_
  refine s1 (d := dI .i64 ((p_b).length : Int)) (T_len tb_24 tb_5) ?_
  refine s1 T_mv ?_
  refine s1 T_sub ?_
  refine s1 T_mv ?_
  obtain ⟨hc5, h⟩ := gd_some h
  refine s1 (T_quo hc5) ?_
  refine s1 T_gtr ?_
  refine s1 T_as ?_
  refine .nil (hK _ _ ?_)
  refine AW.condS rfl (fun hb6 => ?_) (fun hb6 => ?_)
  replace h := cnd_t hb6 h
  refine AW.seq ?_
  refine rg hx (by kernel_rfl) fun K hK => ?_
  iterate 2 refine s1 (d := dI .i64 (0 : Int)) T_asg ?_
  refine s1 (d := dI .i64 (10 : Int)) T_asg ?_
  refine .nil (hK _ _ ?_)
  refine AW.ret ?_
  obtain rfl := Option.some.inj h
  exact RetV.mk3 (resD_t rfl (resD_t rfl (resD_t rfl (.inr ⟨_, _, _, (le_refl' _), (le_refl' _), (le_refl' _), ⟨rfl, rfl, rfl⟩, rfl⟩))))
  replace h := cnd_f hb6 h
  refine AW.skip ?_
  refine AW.seq ?_
  refine rg hx (by kernel_rfl) fun K hK => ?_
  iterate 2 refine s1 T_mv ?_
  iterate 2 refine s1 T_as ?_
  refine s1 (d := dI .i64 (0 : Int)) T_asg ?_
  refine .nil (hK _ _ ?_)
  refine AW.ret ?_
  obtain rfl := Option.some.inj h
  exact RetV.mk3 (resD_t rfl (resD_t rfl (resD_t rfl (.inr ⟨_, _, _, (le_refl' _), (le_refl' _), (le_refl' _), ⟨rfl, rfl, rfl⟩, rfl⟩))))
noncomputable def g_wire_GetBytes (p_b : List Int) : Option (ByteArray × Int × Int) := bnd (g_wire_length p_b (1 : Int)) fun x1 => cnd (decide (x1.2.2 ≠ (0 : Int))) (some (ByteArray.empty, (0 : Int), x1.2.2)) (gd (0 ≤ x1.2.1 ∧ x1.2.1 ≤ IntKind.i64.wrap (x1.2.1 + x1.1) ∧ IntKind.i64.wrap (x1.2.1 + x1.1) ≤ ((p_b).length : Int)) (some (bStr (subL p_b x1.2.1 (IntKind.i64.wrap (x1.2.1 + x1.1))), IntKind.i64.wrap (x1.2.1 + x1.1), (0 : Int))))
theorem w_wire_GetBytes {p_b : List Int} {r : ByteArray × Int × Int} (h : g_wire_GetBytes p_b = some r) : PCalls Tryd.prog 29 [dL (cI .u8) p_b] (.tu [dS r.1, dI .i64 r.2.1, dI .i64 r.2.2]) := by
  refine PCalls.of (rs := [.tmp 2, .tmp 3, .tmp 4]) tok Tryd.func29 rfl rfl (Nat.le_of_ble_eq_true rfl) rfl (fun cx hx h0 => ?_)
  simp only [argsT, Nat.reduceAdd, Nat.zero_add]
  unfold g_wire_GetBytes at h
  refine AW.seq ?_
  refine rg hx (by kernel_rfl) fun K hK => ?_
  refine s1 (d := dS ByteArray.empty) T_asg ?_
  iterate 2 refine s1 (d := dI .i64 (0 : Int)) T_asg ?_
  refine .nil (hK _ _ ?_)
  refine AW.seq ?_
  refine rg hx (by kernel_rfl) fun K hK => ?_
  refine s1 T_mv ?_
  obtain ⟨x1, hx2, h⟩ := bnd_some h
  refine s1 (T_call rfl (w_wire_length hx2) rfl (lA (le_refl' _) (lA (le_refl' _) lAn)) (.inr ⟨_, rfl⟩)) ?_
  refine s1 T_mv ?_
  iterate 3 refine s1 T_ext ?_
  iterate 3 refine s1 T_as ?_
  refine .nil (hK _ _ ?_)
  iterate 2 refine AW.seq ?_
  refine rg hx (by kernel_rfl) fun K hK => ?_
  refine s1 T_mv ?_
  refine s1 T_neq ?_
  refine .nil (hK _ _ ?_)
  refine AW.condS rfl (fun hb3 => ?_) (fun hb3 => ?_)
  replace h := cnd_t hb3 h
  refine AW.seq ?_
  refine rg hx (by kernel_rfl) fun K hK => ?_
  refine s1 T_mv ?_
  refine s1 (d := dS ByteArray.empty) T_asg ?_
  refine s1 (d := dI .i64 (0 : Int)) T_asg ?_
  refine s1 T_as ?_
  refine .nil (hK _ _ ?_)
  refine AW.ret ?_
  obtain rfl := Option.some.inj h
  exact RetV.mk3 (resD_t rfl (resD_t rfl (resD_t rfl (.inr ⟨_, _, _, (le_refl' _), (le_refl' _), (le_refl' _), ⟨rfl, rfl, rfl⟩, rfl⟩))))
  replace h := cnd_f hb3 h
  refine AW.skip ?_
  refine AW.seq ?_
  refine rg hx (by kernel_rfl) fun K hK => ?_
  iterate 4 refine s1 T_mv ?_
  refine s1 T_add ?_
  obtain ⟨hc4, h⟩ := gd_some h
  refine s1 (T_sl (c := (cI .u8)) (l := p_b) (a := x1.2.1) (b := IntKind.i64.wrap (x1.2.1 + x1.1)) hc4 tb_24 tb_5) ?_
  refine s1 (d := dS (bStr (subL p_b x1.2.1 (IntKind.i64.wrap (x1.2.1 + x1.1))))) (T_cvB tb_24 tb_9 tb_5 (fun _ h => by cases h)) ?_
  iterate 2 refine s1 T_mv ?_
  refine s1 T_add ?_
  iterate 2 refine s1 T_as ?_
  refine s1 (d := dI .i64 (0 : Int)) T_asg ?_
  refine .nil (hK _ _ ?_)
  refine AW.ret ?_
  obtain rfl := Option.some.inj h
  exact RetV.mk3 (resD_t rfl (resD_t rfl (resD_t rfl (.inr ⟨_, _, _, (le_refl' _), (le_refl' _), (le_refl' _), ⟨rfl, rfl, rfl⟩, rfl⟩))))
noncomputable def g_wire_Int_l9  : Int × (List Int) → Option ((Int × (List Int)) ⊕ (Int × (List Int))) := fun (a9_0, a9_1) => cnd (decide ((127 : Int) < a9_0)) (gd ((a9_1 ++ [ior .u8 (IntKind.u8.wrap (a9_0)) (128 : Int)]).length * 1 ≤ 140737488355328) (some (.inl (ishr .u64 a9_0 (7 : Int), a9_1 ++ [ior .u8 (IntKind.u8.wrap (a9_0)) (128 : Int)])))) (some (.inr (a9_0, a9_1)))
noncomputable def g_wire_Int (p_n : Int) : Option (List Int) := bnd (some (ixor .u64 (ishl .u64 (IntKind.u64.wrap (p_n)) (1 : Int)) (IntKind.u64.wrap (ishr .i64 p_n (63 : Int))))) fun x1 => bnd (loopO (g_wire_Int_l9) (x1, ([] : List Int))) fun (a9e0_0, a9e0_1) => gd ((a9e0_1 ++ [IntKind.u8.wrap (a9e0_0)]).length * 1 ≤ 140737488355328) (some (a9e0_1 ++ [IntKind.u8.wrap (a9e0_0)]))
theorem w_wire_Int {p_n : Int} {r : List Int} (h : g_wire_Int p_n = some r) : PCalls Tryd.prog 21 [dI .i64 p_n] (.own 5 (cI .u8).sz r.length (r.flatMap (cI .u8).f)) := by
  refine PCalls.of (rs := [.tmp 2]) tok Tryd.func21 rfl rfl (Nat.le_of_ble_eq_true rfl) rfl (fun cx hx h0 => ?_)
  simp only [argsT, Nat.reduceAdd, Nat.zero_add]
  unfold g_wire_Int at h
  refine AW.seq ?_
  refine rg hx (by kernel_rfl) fun K hK => ?_
  refine s1 (d := dO 0 (cI .u8) ([] : List Int)) (T_asgN tb_24 tb_5) ?_
  refine .nil (hK _ _ ?_)
  refine AW.seq ?_
  refine rg hx (by kernel_rfl) fun K hK => ?_
  refine s1 T_mv ?_
  refine s1 (d := dI .u64 (IntKind.u64.wrap (p_n))) (T_cvI tb_3 tb_78) ?_
  refine s1 (T_shl (b := (1 : Int)) (by decide)) ?_
  refine s1 T_mv ?_
  refine s1 (T_shr (b := (63 : Int)) (by decide)) ?_
  refine s1 (d := dI .u64 (IntKind.u64.wrap (ishr .i64 p_n (63 : Int)))) (T_cvI tb_3 tb_78) ?_
  refine s1 T_xor ?_
  obtain ⟨x1, hx2, h⟩ := bnd_some h
  replace hx2 := Option.some.inj hx2
  refine s2 (d2 := dI .u64 x1) T_as (le_eq (congrArg (dI .u64) hx2)) ?_
  refine .nil (hK _ _ ?_)
  refine AW.seq ?_
  refine rg hx (by kernel_rfl) fun K hK => ?_
  refine s1 (d := dO 1 (cI .u8) ([] : List Int)) (T_asgN tb_24 tb_5) ?_
  refine .nil (hK _ _ ?_)
  refine AW.seq ?_
  refine AW.block ?_
  obtain ⟨y, hy, h⟩ := bnd_some h
  refine lp (S := Int × (List Int)) (X := Int × (List Int)) (fun (a9_0, a9_1) => [(3, dI .u64 a9_0), (4, dO 0 (cI .u8) a9_1)]) (fun (a9_0, a9_1) => ⟨[], [(0, (a9_1).length, 1, 5)], 1⟩) (PE cx (.exit 0) (fun (a9e0_0, a9e0_1) => [(3, dI .u64 a9e0_0), (4, dO 0 (cI .u8) a9e0_1)]) fun (a9e0_0, a9e0_1) => ⟨[], [(0, (a9e0_1).length, 1, 5)], 1⟩) hy ?_ ?_ ?_
  exact wk h0 [1] (wR rfl (wR rfl wTn)) wVn (wL rfl rfl wLn)
  clear hy h
  rintro ⟨a9_0, a9_1⟩ y h
  dsimp only [g_wire_Int_l9] at h
  iterate 2 refine AW.seq ?_
  refine rg hx (by kernel_rfl) fun K hK => ?_
  refine s1 T_mv ?_
  refine s1 T_gtr ?_
  refine .nil (hK _ _ ?_)
  refine AW.condS rfl (fun hb3 => ?_) (fun hb3 => ?_)
  replace h := cnd_t hb3 h
  refine AW.skip ?_
  refine AW.seq ?_
  refine AW.block ?_
  refine rg hx (by kernel_rfl) fun K hK => ?_
  iterate 2 refine s1 T_mv ?_
  refine s1 (d := dI .u8 (IntKind.u8.wrap (a9_0))) (T_cvI tb_78 tb_5) ?_
  refine s1 T_or ?_
  refine s1 (d := dO 1 (cI .u8) [ior .u8 (IntKind.u8.wrap (a9_0)) (128 : Int)]) (T_bsl tb_24 tb_5) ?_
  obtain ⟨hc4, h⟩ := gd_some h
  refine s1 (d := dO 0 (cI .u8) (a9_1 ++ [ior .u8 (IntKind.u8.wrap (a9_0)) (128 : Int)])) (T_appO tb_24 tb_5 hc4) ?_
  refine s1 T_as ?_
  refine .nil (hK _ _ ?_)
  refine rg hx (by kernel_rfl) fun K hK => ?_
  refine s1 T_mv ?_
  refine s1 (T_shr (b := (7 : Int)) (by decide)) ?_
  refine s1 T_as ?_
  refine .nil (hK _ _ ?_)
  obtain rfl := Option.some.inj h
  exact PS.l (PE.i (wk h0 [0] (wR rfl (wR rfl wTn)) wVn (wL rfl rfl wLn)))
  replace h := cnd_f hb3 h
  refine AW.exit ?_
  try dsimp only
  try simp only [if_true, reduceIte, Nat.reduceEqDiff, reduceCtorEq]
  obtain rfl := Option.some.inj h
  exact PS.r ⟨by nofun, PE.i (wk h0 [0] (wR rfl (wR rfl wTn)) wVn (wL rfl rfl wLn))⟩
  obtain ⟨a9e0_0, a9e0_1⟩ := y
  rintro ex tm' hp' ⟨rfl, hw⟩
  try dsimp only
  try simp only [if_true, reduceIte, Nat.reduceEqDiff, reduceCtorEq]
  refine AW.weak hw ?_
  refine AW.seq ?_
  refine rg hx (by kernel_rfl) fun K hK => ?_
  iterate 2 refine s1 T_mv ?_
  refine s1 (d := dI .u8 (IntKind.u8.wrap (a9e0_0))) (T_cvI tb_78 tb_5) ?_
  refine s1 (d := dO 1 (cI .u8) [IntKind.u8.wrap (a9e0_0)]) (T_bsl tb_24 tb_5) ?_
  obtain ⟨hc6, h⟩ := gd_some h
  refine s1 (d := dO 0 (cI .u8) (a9e0_1 ++ [IntKind.u8.wrap (a9e0_0)])) (T_appO tb_24 tb_5 hc6) ?_
  refine s1 T_as ?_
  refine .nil (hK _ _ ?_)
  refine AW.ret ?_
  obtain rfl := Option.some.inj h
  exact RetV.own rfl rfl
noncomputable def g_wire_Bytes (p_s : ByteArray) : Option (List Int) := bnd (g_wire_Int (p_s.size : Int)) fun x1 => gd ((x1 ++ strB p_s).length * 1 ≤ 140737488355328) (some (x1 ++ strB p_s))
theorem w_wire_Bytes {p_s : ByteArray} {r : List Int} (h : g_wire_Bytes p_s = some r) : PCalls Tryd.prog 22 [dS p_s] (.own 5 (cI .u8).sz r.length (r.flatMap (cI .u8).f)) := by
  refine PCalls.of (rs := [.tmp 2]) tok Tryd.func22 rfl rfl (Nat.le_of_ble_eq_true rfl) rfl (fun cx hx h0 => ?_)
  simp only [argsT, Nat.reduceAdd, Nat.zero_add]
  unfold g_wire_Bytes at h
  refine AW.seq ?_
  refine rg hx (by kernel_rfl) fun K hK => ?_
  refine s1 (d := dO 0 (cI .u8) ([] : List Int)) (T_asgN tb_24 tb_5) ?_
  refine .nil (hK _ _ ?_)
  refine AW.seq ?_
  refine rg hx (by kernel_rfl) fun K hK => ?_
  refine s1 T_mv ?_
  refine s1 (d := dI .i64 (p_s.size : Int)) (T_lenS tb_9) ?_
  obtain ⟨x1, hx2, h⟩ := bnd_some h
  refine s1 (d := dO 1 (cI .u8) x1) (T_callO rfl (w_wire_Int hx2) rfl (lA (le_refl' _) lAn)) ?_
  refine s1 T_mv ?_
  obtain ⟨hc3, h⟩ := gd_some h
  refine s1 (d := dO 1 (cI .u8) (x1 ++ strB p_s)) (T_appSO tb_24 tb_5 tb_9 hc3) ?_
  refine s1 T_as ?_
  refine .nil (hK _ _ ?_)
  refine AW.ret ?_
  obtain rfl := Option.some.inj h
  exact RetV.own rfl rfl
noncomputable def g_ref01_Int_l15  : Int × (List Int) → Option ((Int × (List Int)) ⊕ (Int × (List Int))) := fun (a15_0, a15_1) => cnd (decide ((128 : Int) ≤ a15_0)) (gd ((a15_1 ++ [IntKind.u8.wrap ((IntKind.u8.wrap (Int.tmod a15_0 (128 : Int))) + (128 : Int))]).length * 1 ≤ 140737488355328) (some (.inl (IntKind.u64.wrap (Int.tdiv a15_0 (128 : Int)), a15_1 ++ [IntKind.u8.wrap ((IntKind.u8.wrap (Int.tmod a15_0 (128 : Int))) + (128 : Int))])))) (some (.inr (a15_0, a15_1)))
noncomputable def g_ref01_Int (p_n : Int) : Option (List Int) := bnd (some (IntKind.u64.wrap ((IntKind.u64.wrap (p_n)) * (2 : Int)))) fun x1 => bnd (S := Int) (cnd (decide (p_n < (0 : Int))) (bnd (some (IntKind.u64.wrap ((IntKind.u64.wrap ((IntKind.u64.wrap (IntKind.i64.wrap ((-1 : Int) - p_n))) * (2 : Int))) + (1 : Int)))) fun x4 => some (x4)) (some (x1))) fun a6_0 => bnd (loopO (g_ref01_Int_l15) (a6_0, ([] : List Int))) fun (a15e0_0, a15e0_1) => gd ((a15e0_1 ++ [IntKind.u8.wrap (a15e0_0)]).length * 1 ≤ 140737488355328) (some (a15e0_1 ++ [IntKind.u8.wrap (a15e0_0)]))
set_option maxHeartbeats 4000000 in
theorem w_ref01_Int {p_n : Int} {r : List Int} (h : g_ref01_Int p_n = some r) : PCalls Tryd.prog 25 [dI .i64 p_n] (.own 5 (cI .u8).sz r.length (r.flatMap (cI .u8).f)) := by
  refine PCalls.of (rs := [.tmp 2]) tok Tryd.func25 rfl rfl (Nat.le_of_ble_eq_true rfl) rfl (fun cx hx h0 => ?_)
  simp only [argsT, Nat.reduceAdd, Nat.zero_add]
  unfold g_ref01_Int at h
  refine AW.seq ?_
  refine rg hx (by kernel_rfl) fun K hK => ?_
  refine s1 (d := dO 0 (cI .u8) ([] : List Int)) (T_asgN tb_24 tb_5) ?_
  refine .nil (hK _ _ ?_)
  refine AW.seq ?_
  refine rg hx (by kernel_rfl) fun K hK => ?_
  refine s1 T_mv ?_
  refine s1 (d := dI .u64 (IntKind.u64.wrap (p_n))) (T_cvI tb_3 tb_78) ?_
  refine s1 T_mul ?_
  obtain ⟨x1, hx2, h⟩ := bnd_some h
  replace hx2 := Option.some.inj hx2
  refine s2 (d2 := dI .u64 x1) T_as (le_eq (congrArg (dI .u64) hx2)) ?_
  refine .nil (hK _ _ ?_)
  refine AW.seq ?_
  obtain ⟨a6_0, hy, h⟩ := bnd_some h
  refine jn ((PE cx .normal (fun a6_0 => [(3, dI .u64 a6_0)]) fun a6_0 => ⟨[], [], 0⟩) a6_0) ?_ ?_
  replace h := hy
  refine AW.seq ?_
  refine rg hx (by kernel_rfl) fun K hK => ?_
  refine s1 T_mv ?_
  refine s1 T_lss ?_
  refine .nil (hK _ _ ?_)
  refine AW.condS rfl (fun hb3 => ?_) (fun hb3 => ?_)
  replace h := cnd_t hb3 h
  refine rg hx (by kernel_rfl) fun K hK => ?_
  refine s1 T_mv ?_
  refine s1 T_sub ?_
  refine s1 (d := dI .u64 (IntKind.u64.wrap (IntKind.i64.wrap ((-1 : Int) - p_n)))) (T_cvI tb_3 tb_78) ?_
  refine s1 T_mul ?_
  refine s1 T_add ?_
  obtain ⟨x4, hx5, h⟩ := bnd_some h
  replace hx5 := Option.some.inj hx5
  refine s2 (d2 := dI .u64 x4) T_as (le_eq (congrArg (dI .u64) hx5)) ?_
  refine .nil (hK _ _ ?_)
  obtain rfl := Option.some.inj h
  exact PE.i (wk h0 [] (wR rfl wTn) wVn wLn)
  replace h := cnd_f hb3 h
  refine AW.skip ?_
  obtain rfl := Option.some.inj h
  exact PE.i (wk h0 [] (wR rfl wTn) wVn wLn)
  rintro ex tm' hp' ⟨rfl, hw⟩
  refine AW.weak hw ?_
  refine AW.seq ?_
  refine rg hx (by kernel_rfl) fun K hK => ?_
  refine s1 (d := dO 0 (cI .u8) ([] : List Int)) (T_asgN tb_24 tb_5) ?_
  refine .nil (hK _ _ ?_)
  refine AW.seq ?_
  refine AW.block ?_
  obtain ⟨y, hy, h⟩ := bnd_some h
  refine lp (S := Int × (List Int)) (X := Int × (List Int)) (fun (a15_0, a15_1) => [(3, dI .u64 a15_0), (4, dO 0 (cI .u8) a15_1)]) (fun (a15_0, a15_1) => ⟨[], [(0, (a15_1).length, 1, 5)], 1⟩) (PE cx (.exit 0) (fun (a15e0_0, a15e0_1) => [(3, dI .u64 a15e0_0), (4, dO 0 (cI .u8) a15e0_1)]) fun (a15e0_0, a15e0_1) => ⟨[], [(0, (a15e0_1).length, 1, 5)], 1⟩) hy ?_ ?_ ?_
  exact wk h0 [0] (wR rfl (wR rfl wTn)) wVn (wL rfl rfl wLn)
  clear hy h
  rintro ⟨a15_0, a15_1⟩ y h
  dsimp only [g_ref01_Int_l15] at h
  iterate 2 refine AW.seq ?_
  refine rg hx (by kernel_rfl) fun K hK => ?_
  refine s1 T_mv ?_
  refine s1 T_geq ?_
  refine .nil (hK _ _ ?_)
  refine AW.condS rfl (fun hb7 => ?_) (fun hb7 => ?_)
  replace h := cnd_t hb7 h
  refine AW.skip ?_
  refine AW.block ?_
  refine AW.seq ?_
  refine rg hx (by kernel_rfl) fun K hK => ?_
  iterate 2 refine s1 T_mv ?_
  refine s1 (T_rem (b := (128 : Int)) (by decide)) ?_
  refine s1 (d := dI .u8 (IntKind.u8.wrap (Int.tmod a15_0 (128 : Int)))) (T_cvI tb_78 tb_5) ?_
  refine s1 T_add ?_
  refine s1 (d := dO 1 (cI .u8) [IntKind.u8.wrap ((IntKind.u8.wrap (Int.tmod a15_0 (128 : Int))) + (128 : Int))]) (T_bsl tb_24 tb_5) ?_
  obtain ⟨hc8, h⟩ := gd_some h
  refine s1 (d := dO 0 (cI .u8) (a15_1 ++ [IntKind.u8.wrap ((IntKind.u8.wrap (Int.tmod a15_0 (128 : Int))) + (128 : Int))])) (T_appO tb_24 tb_5 hc8) ?_
  refine s1 T_as ?_
  refine .nil (hK _ _ ?_)
  refine rg hx (by kernel_rfl) fun K hK => ?_
  refine s1 T_mv ?_
  refine s1 (T_quo (b := (128 : Int)) (by decide)) ?_
  refine s1 T_as ?_
  refine .nil (hK _ _ ?_)
  obtain rfl := Option.some.inj h
  exact PS.l (PE.i (wk h0 [0] (wR rfl (wR rfl wTn)) wVn (wL rfl rfl wLn)))
  replace h := cnd_f hb7 h
  refine AW.exit ?_
  try dsimp only
  try simp only [if_true, reduceIte, Nat.reduceEqDiff, reduceCtorEq]
  obtain rfl := Option.some.inj h
  exact PS.r ⟨by nofun, PE.i (wk h0 [0] (wR rfl (wR rfl wTn)) wVn (wL rfl rfl wLn))⟩
  obtain ⟨a15e0_0, a15e0_1⟩ := y
  rintro ex tm' hp' ⟨rfl, hw⟩
  try dsimp only
  try simp only [if_true, reduceIte, Nat.reduceEqDiff, reduceCtorEq]
  refine AW.weak hw ?_
  refine AW.seq ?_
  refine rg hx (by kernel_rfl) fun K hK => ?_
  iterate 2 refine s1 T_mv ?_
  refine s1 (d := dI .u8 (IntKind.u8.wrap (a15e0_0))) (T_cvI tb_78 tb_5) ?_
  refine s1 (d := dO 1 (cI .u8) [IntKind.u8.wrap (a15e0_0)]) (T_bsl tb_24 tb_5) ?_
  obtain ⟨hc10, h⟩ := gd_some h
  refine s1 (d := dO 0 (cI .u8) (a15e0_1 ++ [IntKind.u8.wrap (a15e0_0)])) (T_appO tb_24 tb_5 hc10) ?_
  refine s1 T_as ?_
  refine .nil (hK _ _ ?_)
  refine AW.ret ?_
  obtain rfl := Option.some.inj h
  exact RetV.own rfl rfl
noncomputable def g_ref01_Bytes (p_s : ByteArray) : Option (List Int) := bnd (g_ref01_Int (p_s.size : Int)) fun x1 => gd ((x1 ++ strB p_s).length * 1 ≤ 140737488355328) (some (x1 ++ strB p_s))
theorem w_ref01_Bytes {p_s : ByteArray} {r : List Int} (h : g_ref01_Bytes p_s = some r) : PCalls Tryd.prog 26 [dS p_s] (.own 5 (cI .u8).sz r.length (r.flatMap (cI .u8).f)) := by
  refine PCalls.of (rs := [.tmp 2]) tok Tryd.func26 rfl rfl (Nat.le_of_ble_eq_true rfl) rfl (fun cx hx h0 => ?_)
  simp only [argsT, Nat.reduceAdd, Nat.zero_add]
  unfold g_ref01_Bytes at h
  refine AW.seq ?_
  refine rg hx (by kernel_rfl) fun K hK => ?_
  refine s1 (d := dO 0 (cI .u8) ([] : List Int)) (T_asgN tb_24 tb_5) ?_
  refine .nil (hK _ _ ?_)
  refine AW.seq ?_
  refine rg hx (by kernel_rfl) fun K hK => ?_
  refine s1 T_mv ?_
  refine s1 (d := dI .i64 (p_s.size : Int)) (T_lenS tb_9) ?_
  obtain ⟨x1, hx2, h⟩ := bnd_some h
  refine s1 (d := dO 1 (cI .u8) x1) (T_callO rfl (w_ref01_Int hx2) rfl (lA (le_refl' _) lAn)) ?_
  refine s1 T_mv ?_
  obtain ⟨hc3, h⟩ := gd_some h
  refine s1 (d := dO 1 (cI .u8) (x1 ++ strB p_s)) (T_appSO tb_24 tb_5 tb_9 hc3) ?_
  refine s1 T_as ?_
  refine .nil (hK _ _ ?_)
  refine AW.ret ?_
  obtain rfl := Option.some.inj h
  exact RetV.own rfl rfl
noncomputable def g_ref01_Same (p_a : List Int) (p_b : List Int) : Option Bool := some (decide ((bStr p_a) = (bStr p_b)))
theorem w_ref01_Same {p_a : List Int} {p_b : List Int} {r : Bool} (h : g_ref01_Same p_a p_b = some r) : PCalls Tryd.prog 7 [dL (cI .u8) p_a, dL (cI .u8) p_b] (dB r) := by
  refine PCalls.of (rs := [.tmp 4]) tok Tryd.func7 rfl rfl (Nat.le_of_ble_eq_true rfl) rfl (fun cx hx h0 => ?_)
  simp only [argsT, Nat.reduceAdd, Nat.zero_add]
  unfold g_ref01_Same at h
  refine AW.seq ?_
  refine rg hx (by kernel_rfl) fun K hK => ?_
  refine s1 (d := dB false) T_asg ?_
  refine .nil (hK _ _ ?_)
  refine AW.seq ?_
  refine rg hx (by kernel_rfl) fun K hK => ?_
  refine s1 T_mv ?_
  refine s1 (d := dS (bStr p_a)) (T_cvB tb_24 tb_9 tb_5 (fun _ h => by cases h)) ?_
  refine s1 T_mv ?_
  refine s1 (d := dS (bStr p_b)) (T_cvB tb_24 tb_9 tb_5 (fun _ h => by cases h)) ?_
  refine s1 T_seql ?_
  refine s1 T_as ?_
  refine .nil (hK _ _ ?_)
  refine AW.ret ?_
  obtain rfl := Option.some.inj h
  exact RetV.mk1 (resD_t rfl (.inr (.inr ⟨_, (le_refl' _), rfl, rfl⟩)))
noncomputable def g_ref42_Valid (p_f : S_Frame) : Option Bool := bnd (S := Bool) (cnd (decide (p_f.vSeq < (0 : Int))) (some (true)) (cnd (decide ((2199023255552 : Int) < p_f.vSeq)) (some (true)) (cnd (decide (p_f.vAck < (1 : Int))) (some (true)) (cnd (decide ((2199023255552 : Int) < p_f.vAck)) (some (true)) (some (decide ((4096 : Int) < (p_f.vData.size : Int)))))))) fun a5_0 => cnd a5_0 (some false) (bnd (S := Bool) (cnd (decide ((0 : Int) < p_f.vSeq)) (some (true)) (some (decide ((p_f.vData.size : Int) = (0 : Int))))) fun a12_0 => some a12_0)
set_option maxHeartbeats 4000000 in
theorem w_ref42_Valid {p_f : S_Frame} {r : Bool} (h : g_ref42_Valid p_f = some r) : PCalls Tryd.prog 24 [dG c_Frame p_f] (dB r) := by
  refine PCalls.of (rs := [.tmp 2]) tok Tryd.func24 rfl rfl (Nat.le_of_ble_eq_true rfl) rfl (fun cx hx h0 => ?_)
  simp only [argsT, Nat.reduceAdd, Nat.zero_add]
  unfold g_ref42_Valid at h
  refine AW.seq ?_
  refine rg hx (by kernel_rfl) fun K hK => ?_
  refine s1 (d := .pt 0 0) T_box ?_
  refine s1 (d := dB false) T_asg ?_
  refine .nil (hK _ _ ?_)
  iterate 2 refine AW.seq ?_
  obtain ⟨a5_0, hy, h⟩ := bnd_some h
  refine jn ((PE cx .normal (fun a5_0 => [(1, .pt 0 0), (26, dB a5_0)]) fun a5_0 => ⟨[(0, [dI .i64 p_f.vSeq, dI .i64 p_f.vAck, dS p_f.vData])], [], 1⟩) a5_0) ?_ ?_
  replace h := hy
  refine rg hx (by kernel_rfl) fun K hK => ?_
  refine s1 (T_faP tb_23 tb_3) ?_
  refine s1 (d := dI .i64 p_f.vSeq) (T_ldC tb_3) ?_
  refine s1 T_lss ?_
  refine s1 T_mv ?_
  rcases Bool.eq_false_or_eq_true (decide (p_f.vSeq < (0 : Int))) with hb1 | hb1
  replace h := cnd_t hb1 h
  iterate 3 refine no_t rfl rfl hb1 ?_
  refine s1 (d := dB true) (T_pickT hb1) ?_
  refine s1 T_mv ?_
  iterate 3 refine no_t rfl rfl rfl ?_
  refine s1 (d := dB true) (T_pickT rfl) ?_
  refine s1 T_mv ?_
  iterate 3 refine no_t rfl rfl rfl ?_
  refine s1 (d := dB true) (T_pickT rfl) ?_
  refine s1 T_mv ?_
  iterate 4 refine no_t rfl rfl rfl ?_
  refine s1 (d := dB true) (T_pickT rfl) ?_
  refine .nil (hK _ _ ?_)
  obtain rfl := Option.some.inj h
  exact PE.i (wk h0 [0] (wR rfl (wR rfl wTn)) (vR rfl wVn) wLn)
  replace h := cnd_f hb1 h
  refine g1 hb1 (T_faP tb_23 tb_3) ?_
  refine g1 (d := dI .i64 p_f.vSeq) hb1 (T_ldC tb_3) ?_
  refine g1 hb1 T_gtr ?_
  refine s1 (d := dB (decide ((2199023255552 : Int) < p_f.vSeq))) (T_pickF hb1) ?_
  refine s1 T_mv ?_
  rcases Bool.eq_false_or_eq_true (decide ((2199023255552 : Int) < p_f.vSeq)) with hb2 | hb2
  replace h := cnd_t hb2 h
  iterate 3 refine no_t rfl rfl hb2 ?_
  refine s1 (d := dB true) (T_pickT hb2) ?_
  refine s1 T_mv ?_
  iterate 3 refine no_t rfl rfl rfl ?_
  refine s1 (d := dB true) (T_pickT rfl) ?_
  refine s1 T_mv ?_
  iterate 4 refine no_t rfl rfl rfl ?_
  refine s1 (d := dB true) (T_pickT rfl) ?_
  refine .nil (hK _ _ ?_)
  obtain rfl := Option.some.inj h
  exact PE.i (wk h0 [0] (wR rfl (wR rfl wTn)) (vR rfl wVn) wLn)
  replace h := cnd_f hb2 h
  refine g1 hb2 (T_faP tb_23 tb_3) ?_
  refine g1 (d := dI .i64 p_f.vAck) hb2 (T_ldC tb_3) ?_
  refine g1 hb2 T_lss ?_
  refine s1 (d := dB (decide (p_f.vAck < (1 : Int)))) (T_pickF hb2) ?_
  refine s1 T_mv ?_
  rcases Bool.eq_false_or_eq_true (decide (p_f.vAck < (1 : Int))) with hb3 | hb3
  replace h := cnd_t hb3 h
  iterate 3 refine no_t rfl rfl hb3 ?_
  refine s1 (d := dB true) (T_pickT hb3) ?_
  refine s1 T_mv ?_
  iterate 4 refine no_t rfl rfl rfl ?_
  refine s1 (d := dB true) (T_pickT rfl) ?_
  refine .nil (hK _ _ ?_)
  obtain rfl := Option.some.inj h
  exact PE.i (wk h0 [0] (wR rfl (wR rfl wTn)) (vR rfl wVn) wLn)
  replace h := cnd_f hb3 h
  refine g1 hb3 (T_faP tb_23 tb_3) ?_
  refine g1 (d := dI .i64 p_f.vAck) hb3 (T_ldC tb_3) ?_
  refine g1 hb3 T_gtr ?_
  refine s1 (d := dB (decide ((2199023255552 : Int) < p_f.vAck))) (T_pickF hb3) ?_
  refine s1 T_mv ?_
  rcases Bool.eq_false_or_eq_true (decide ((2199023255552 : Int) < p_f.vAck)) with hb4 | hb4
  replace h := cnd_t hb4 h
  iterate 4 refine no_t rfl rfl hb4 ?_
  refine s1 (d := dB true) (T_pickT hb4) ?_
  refine .nil (hK _ _ ?_)
  obtain rfl := Option.some.inj h
  exact PE.i (wk h0 [0] (wR rfl (wR rfl wTn)) (vR rfl wVn) wLn)
  replace h := cnd_f hb4 h
  refine g1 hb4 (T_faP tb_23 tb_9) ?_
  refine g1 (d := dS p_f.vData) hb4 (T_ldC tb_9) ?_
  refine g1 (d := dI .i64 (p_f.vData.size : Int)) hb4 (T_lenS tb_9) ?_
  refine g1 hb4 T_gtr ?_
  refine s1 (d := dB (decide ((4096 : Int) < (p_f.vData.size : Int)))) (T_pickF hb4) ?_
  refine .nil (hK _ _ ?_)
  obtain rfl := Option.some.inj h
  exact PE.i (wk h0 [0] (wR rfl (wR rfl wTn)) (vR rfl wVn) wLn)
  rintro ex tm' hp' ⟨rfl, hw⟩
  refine AW.weak hw ?_
  refine AW.condS rfl (fun hb6 => ?_) (fun hb6 => ?_)
  replace h := cnd_t hb6 h
  refine AW.seq ?_
  refine rg hx (by kernel_rfl) fun K hK => ?_
  refine s1 (d := dB false) T_asg ?_
  refine .nil (hK _ _ ?_)
  refine AW.ret ?_
  obtain rfl := Option.some.inj h
  exact RetV.mk1 (resD_t rfl (.inr (.inr ⟨_, (le_refl' _), rfl, rfl⟩)))
  replace h := cnd_f hb6 h
  refine AW.skip ?_
  refine AW.seq ?_
  obtain ⟨a12_0, hy, h⟩ := bnd_some h
  refine jn ((PE cx .normal (fun a12_0 => [(2, dB a12_0)]) fun a12_0 => ⟨[], [], 0⟩) a12_0) ?_ ?_
  replace h := hy
  refine rg hx (by kernel_rfl) fun K hK => ?_
  refine s1 (T_faP tb_23 tb_3) ?_
  refine s1 (d := dI .i64 p_f.vSeq) (T_ldC tb_3) ?_
  refine s1 T_gtr ?_
  refine s1 T_mv ?_
  rcases Bool.eq_false_or_eq_true (decide ((0 : Int) < p_f.vSeq)) with hb7 | hb7
  replace h := cnd_t hb7 h
  iterate 4 refine no_t rfl rfl hb7 ?_
  refine s1 (d := dB true) (T_pickT hb7) ?_
  refine s1 T_as ?_
  refine .nil (hK _ _ ?_)
  obtain rfl := Option.some.inj h
  exact PE.i (wk h0 [] (wR rfl wTn) wVn wLn)
  replace h := cnd_f hb7 h
  refine g1 hb7 (T_faP tb_23 tb_9) ?_
  refine g1 (d := dS p_f.vData) hb7 (T_ldC tb_9) ?_
  refine g1 (d := dI .i64 (p_f.vData.size : Int)) hb7 (T_lenS tb_9) ?_
  refine g1 hb7 T_eql ?_
  refine s1 (d := dB (decide ((p_f.vData.size : Int) = (0 : Int)))) (T_pickF hb7) ?_
  refine s1 T_as ?_
  refine .nil (hK _ _ ?_)
  obtain rfl := Option.some.inj h
  exact PE.i (wk h0 [] (wR rfl wTn) wVn wLn)
  rintro ex tm' hp' ⟨rfl, hw⟩
  refine AW.weak hw ?_
  refine AW.ret ?_
  obtain rfl := Option.some.inj h
  exact RetV.mk1 (resD_t rfl (.inr (.inr ⟨_, (le_refl' _), rfl, rfl⟩)))
def enc (z : Nat) : List UInt8 :=
  if z < 128 then [UInt8.ofNat z] else UInt8.ofNat (z % 128 + 128) :: enc (z / 128)
termination_by z
decreasing_by omega
theorem enc_small {z : Nat} (h : z < 128) : enc z = [UInt8.ofNat z] := by rw [enc, if_pos h]
theorem enc_big {z : Nat} (h : ¬ z < 128) : enc z = UInt8.ofNat (z % 128 + 128) :: enc (z / 128) := by rw [enc, if_neg h]
def zig (n : Int) : Nat := if n < 0 then ((-1 - n) * 2 + 1).toNat else (n * 2).toNat
def encInt (n : Int) : List UInt8 := enc (zig n)
theorem zig_lt (n : Int) (h1 : -9223372036854775808 ≤ n) (h2 : n ≤ 9223372036854775807) : zig n < 18446744073709551616 := by
  unfold zig; split <;> omega
theorem enc_length_pos (z : Nat) : 0 < (enc z).length := by
  by_cases h : z < 128
  · rw [enc_small h]; simp
  · rw [enc_big h]; simp
theorem enc_length_le (k : Nat) : ∀ z : Nat, z < 128 ^ k → (enc z).length ≤ max k 1 := by
  induction k with
  | zero => intro z h; have : z = 0 := by simpa using h
            subst this; rw [enc_small (by omega)]; simp
  | succ k ih =>
    intro z h
    by_cases hz : z < 128
    · rw [enc_small hz]; simp only [List.length_cons, List.length_nil]; omega
    · rw [enc_big hz]
      have := ih (z / 128) (by rw [Nat.pow_succ] at h; exact Nat.div_lt_of_lt_mul (by omega))
      by_cases hk : k = 0
      · subst hk; simp at h; omega
      · simp only [List.length_cons]; omega
theorem enc_length_10 (z : Nat) (h : z < 18446744073709551616) : (enc z).length ≤ 10 := by
  have := enc_length_le 10 z (by omega)
  omega
def I64 (n : Int) : Prop := -9223372036854775808 ≤ n ∧ n ≤ 9223372036854775807
theorem xor_all (a : Nat) (h : a < 18446744073709551616) : a ^^^ 18446744073709551615 = 18446744073709551615 - a := by
  have e : (BitVec.ofNat 64 a ^^^ BitVec.allOnes 64).toNat = (~~~ (BitVec.ofNat 64 a)).toNat := by rw [BitVec.xor_allOnes]
  rw [BitVec.toNat_xor, BitVec.toNat_not, BitVec.toNat_allOnes, BitVec.toNat_ofNat, Nat.mod_eq_of_lt (by omega)] at e
  simpa using e
theorem xor_zig (n : Int) (h1 : -9223372036854775808 ≤ n) (h2 : n ≤ 9223372036854775807) :
    bits BinOp.xor IntKind.u64 (IntKind.u64.wrap (IntKind.u64.wrap n * 2)) (IntKind.u64.wrap (n / 9223372036854775808)) = (zig n : Int) := by
  by_cases hn : n < 0
  · obtain ⟨a, ha⟩ : ∃ a : Nat, IntKind.u64.wrap (IntKind.u64.wrap n * 2) = (a : Int) ∧ a < 18446744073709551616 ∧ 18446744073709551615 - a = zig n := by
      refine ⟨((n + 9223372036854775808) * 2).toNat, ?_, by omega, ?_⟩
      · rw [IntKind.wrap_u64, IntKind.wrap_u64]; omega
      · unfold zig; rw [if_pos hn]; omega
    have hb : IntKind.u64.wrap (n / 9223372036854775808) = ((18446744073709551615 : Nat) : Int) := by rw [IntKind.wrap_u64]; omega
    rw [ha.1, hb, u64_xor_nat a _ ha.2.1 (by omega), xor_all a ha.2.1, ha.2.2]
  · obtain ⟨a, ha⟩ : ∃ a : Nat, IntKind.u64.wrap (IntKind.u64.wrap n * 2) = (a : Int) ∧ a < 18446744073709551616 ∧ a = zig n := by
      refine ⟨(n * 2).toNat, ?_, by omega, ?_⟩
      · rw [IntKind.wrap_u64, IntKind.wrap_u64]; omega
      · unfold zig; rw [if_neg hn]
    have hb : IntKind.u64.wrap (n / 9223372036854775808) = ((0 : Nat) : Int) := by rw [IntKind.wrap_u64]; omega
    rw [ha.1, hb, u64_xor_nat a _ ha.2.1 (by omega), Nat.xor_zero, ha.2.2]
theorem or128 (z : Nat) : bits BinOp.or IntKind.u8 ((z : Int) % 256) 128 = ((z % 128 + 128 : Nat) : Int) := by
  rw [show ((z : Int) % 256) = ((z % 256 : Nat) : Int) from by omega, show (128 : Int) = ((128 : Nat) : Int) from rfl, u8_or_nat _ _ (by omega) (by omega)]
  congr 1
  have h : z % 256 = z % 128 ∨ z % 256 = z % 128 + 128 := by omega
  have hlt : z % 128 < 2 ^ 7 := by omega
  rcases h with h | h
  · rw [h, Nat.or_comm, nat_join 7 128 (z % 128) (by decide) hlt]; omega
  · rw [h, Nat.add_comm (z % 128) 128, ← nat_join 7 128 (z % 128) (by decide) hlt, Nat.or_assoc, Nat.or_comm (z % 128) 128, ← Nat.or_assoc, Nat.or_self]
def encBytes (s : ByteArray) : List UInt8 := encInt s.size ++ s.data.toList
theorem encBytes_len (s : ByteArray) : (encBytes s).length = (encInt s.size).length + s.size := by simp [encBytes]
def dec : List UInt8 → Nat → Nat → Nat × Nat × Int
  | [], _, _ => (0, 0, 10)
  | c :: r, k, z => if (k = 9 ∧ 1 < c.toNat) ∨ (0 < k ∧ c.toNat = 0) then (0, 0, 11) else
      if c.toNat < 128 then (z + c.toNat * 128 ^ k, k + 1, 0) else dec r (k + 1) (z + (c.toNat % 128) * 128 ^ k)
def unzig (z : Nat) : Int := if z % 2 = 1 then -1 - (z / 2 : Nat) else (z / 2 : Nat)
def getInt (l : List UInt8) : Int × Int × Int :=
  if (dec l 0 0).2.2 = 0 then (unzig (dec l 0 0).1, ((dec l 0 0).2.1 : Int), 0) else (0, 0, (dec l 0 0).2.2)
theorem ofInt_i64 (a : Nat) (ha : a < 9223372036854775808) : (BitVec.ofInt 64 (a : Int)).toNat = a := by
  rw [BitVec.ofInt_natCast, BitVec.toNat_ofNat]; exact Nat.mod_eq_of_lt (by omega)
theorem i64_xor_zero (a : Nat) (ha : a < 9223372036854775808) : bits .xor .i64 (a : Int) 0 = a := by
  show IntKind.i64.wrap ((BitVec.ofInt 64 (a : Int) ^^^ BitVec.ofInt 64 0).toNat : Int) = _
  rw [BitVec.toNat_xor, ofInt_i64 a ha, show (BitVec.ofInt 64 0).toNat = 0 from by decide, Nat.xor_zero, IntKind.wrap_i64]
  omega
theorem i64_xor_ones (a : Nat) (ha : a < 9223372036854775808) : bits .xor .i64 (a : Int) (-1) = -1 - (a : Int) := by
  show IntKind.i64.wrap ((BitVec.ofInt 64 (a : Int) ^^^ BitVec.ofInt 64 (-1)).toNat : Int) = _
  rw [BitVec.toNat_xor, ofInt_i64 a ha, show (BitVec.ofInt 64 (-1)).toNat = 18446744073709551615 from by decide, xor_all a (by omega), IntKind.wrap_i64]
  omega
theorem unzig_bits (Z : Nat) (hZ : Z < 18446744073709551616) :
    bits BinOp.xor IntKind.i64 (wrap64 ((Z : Int) / 2)) (wrap64 (-wrap64 (bits BinOp.and IntKind.u64 (Z : Int) 1))) = unzig Z := by
  rw [show (1 : Int) = ((1 : Nat) : Int) from rfl, u64_and_nat Z 1 hZ (by omega), nat_mask1, show wrap64 ((Z : Int) / 2) = ((Z / 2 : Nat) : Int) from by unfold wrap64; omega]
  unfold unzig
  rcases Nat.mod_two_eq_zero_or_one Z with h | h
  · rw [h, if_neg (by omega), show wrap64 (-wrap64 ((0 : Nat) : Int)) = 0 from by simp [wrap64]]
    exact i64_xor_zero _ (by omega)
  · rw [h, if_pos rfl, show wrap64 (-wrap64 ((1 : Nat) : Int)) = -1 from by simp [wrap64]]
    exact i64_xor_ones _ (by omega)
theorem and127 (b : Nat) (hb : b < 256) : IntKind.u64.wrap (bits BinOp.and IntKind.u8 (b : Int) 127) = ((b % 128 : Nat) : Int) := by
  rw [show (127 : Int) = ((127 : Nat) : Int) from rfl, u8_and_nat b 127 hb (by omega), nat_mask7, IntKind.wrap_u64]
  omega
theorem acc_bits (z b k : Nat) (hz : z < 128 ^ k) (hb : b < 256) (hk : k < 9) :
    bits BinOp.or IntKind.u64 (z : Int) (IntKind.u64.wrap (IntKind.u64.wrap (bits BinOp.and IntKind.u8 (b : Int) 127) * 2 ^ (7 * k))) = ((z + b % 128 * 128 ^ k : Nat) : Int) := by
  have h1 : 128 ^ (k + 1) ≤ 128 ^ 9 := Nat.pow_le_pow_right (by omega) hk
  have h2 : b % 128 * 128 ^ k < 128 ^ (k + 1) := by rw [Nat.pow_succ, Nat.mul_comm]; exact Nat.mul_lt_mul_of_pos_left (by omega) (Nat.pow_pos (by omega))
  have h3 : 128 ^ k ≤ 128 ^ 9 := Nat.pow_le_pow_right (by omega) (by omega)
  have e : (2 : Int) ^ (7 * k) = ((128 ^ k : Nat) : Int) := by rw [Int.pow_mul]; simp
  rw [and127 b hb, e, ← Int.natCast_mul, IntKind.wrap_u64, show (((b % 128 * 128 ^ k : Nat) : Int) % 18446744073709551616) = ((b % 128 * 128 ^ k : Nat) : Int) from by omega, u64_or_nat _ _ (by omega) (by omega)]
  congr 1
  rw [Nat.or_comm, nat_join (7 * k) (b % 128 * 128 ^ k) z (by rw [show 128 = 2 ^ 7 from rfl, ← Nat.pow_mul]; exact Nat.mul_mod_left _ _) (by rw [Nat.pow_mul]; exact hz)]
  omega
theorem acc_bits9 (z b : Nat) (hz : z < 128 ^ 9) (hb : b ≤ 1) :
    bits BinOp.or IntKind.u64 (z : Int) (IntKind.u64.wrap (IntKind.u64.wrap (bits BinOp.and IntKind.u8 (b : Int) 127) * 9223372036854775808)) = ((z + b * 128 ^ 9 : Nat) : Int) := by
  have e : ((b % 128 : Nat) : Int) * 9223372036854775808 = ((b * 2 ^ 63 : Nat) : Int) := by omega
  rw [and127 b (by omega), e, IntKind.wrap_u64, show (((b * 2 ^ 63 : Nat) : Int) % 18446744073709551616) = ((b * 2 ^ 63 : Nat) : Int) from by omega, u64_or_nat _ _ (by omega) (by omega)]
  congr 1
  rw [Nat.or_comm, nat_join 63 (b * 2 ^ 63) z (Nat.mul_mod_left _ _) (by omega)]
  omega
theorem acc_lt (z b k : Nat) (hz : z < 128 ^ k) : z + b % 128 * 128 ^ k < 128 ^ (k + 1) := by
  have : (b % 128 + 1) * 128 ^ k ≤ 128 * 128 ^ k := Nat.mul_le_mul_right _ (by omega)
  rw [Nat.pow_succ, Nat.mul_comm (128 ^ k)]
  rw [Nat.add_mul] at this
  omega
theorem dec_cases : ∀ (l : List UInt8) (k z : Nat), z < 128 ^ k → k ≤ 9 → (∃ n u, dec l k z = (n, u, 0) ∧ k < u ∧ u ≤ k + l.length ∧ n < 18446744073709551616) ∨ dec l k z = (0, 0, 10) ∨ dec l k z = (0, 0, 11) := by
  intro l
  induction l with
  | nil => intro k z _ _; exact .inr (.inl rfl)
  | cons c r ih =>
    intro k z hz hk
    rw [dec]
    by_cases h1 : (k = 9 ∧ 1 < c.toNat) ∨ (0 < k ∧ c.toNat = 0)
    · rw [if_pos h1]; exact .inr (.inr rfl)
    · rw [if_neg h1]
      have hl := acc_lt z c.toNat k hz
      by_cases h2 : c.toNat < 128
      · rw [if_pos h2]
        refine .inl ⟨_, _, rfl, by omega, by simp, ?_⟩
        rw [Nat.mod_eq_of_lt h2] at hl
        by_cases h9 : k = 9
        · subst h9
          have : c.toNat ≤ 1 := by omega
          have : c.toNat * 128 ^ 9 ≤ 1 * 128 ^ 9 := Nat.mul_le_mul_right _ this
          omega
        · have : 128 ^ (k + 1) ≤ 128 ^ 9 := Nat.pow_le_pow_right (by omega) (by omega)
          omega
      · rw [if_neg h2]
        rcases ih (k + 1) _ hl (by have := c.toNat_lt; omega) with ⟨n, u, h, h3, h4, h5⟩ | h | h
        · exact .inl ⟨n, u, h, by omega, by simp; omega, h5⟩
        · exact .inr (.inl h)
        · exact .inr (.inr h)
theorem getInt_cases (l : List UInt8) : (∃ (n : Int) (u : Nat), getInt l = (n, (u : Int), 0) ∧ 1 ≤ u ∧ u ≤ l.length ∧ I64 n) ∨ getInt l = (0, 0, 10) ∨ getInt l = (0, 0, 11) := by
  unfold getInt
  rcases dec_cases l 0 0 (by simp) (by omega) with ⟨n, u, h, h1, h2, h3⟩ | h | h
  · rw [h]
    exact .inl ⟨unzig n, u, by simp, by omega, by omega, by unfold unzig I64; split <;> omega⟩
  · rw [h]; exact .inr (.inl (by simp))
  · rw [h]; exact .inr (.inr (by simp))
def getLen (l : List UInt8) (least : Int) : Int × Int × Int :=
  let r := getInt l
  if r.2.2 ≠ 0 then (0, 0, r.2.2) else if r.1 < 0 then (0, 0, 11) else if r.1 > ((l.length : Int) - r.2.1) / least then (0, 0, 10) else (r.1, r.2.1, 0)
def getBytes (l : List UInt8) : List UInt8 × Int × Int :=
  let r := getLen l 1
  if r.2.2 ≠ 0 then ([], 0, r.2.2) else ((l.drop r.2.1.toNat).take r.1.toNat, r.2.1 + r.1, 0)
theorem getLen_cases (l : List UInt8) (least : Int) :
    (∃ (n u : Nat), getLen l least = ((n : Int), (u : Int), 0) ∧ 1 ≤ u ∧ u ≤ l.length ∧ (n : Int) ≤ ((l.length : Int) - u) / least) ∨ getLen l least = (0, 0, 10) ∨ getLen l least = (0, 0, 11) := by
  unfold getLen
  rcases getInt_cases l with ⟨n, u, hg, hu1, hu2, hn1, hn2⟩ | hg | hg
  · rw [hg]
    simp only [ne_eq, not_true, if_false]
    by_cases hneg : n < 0
    · rw [if_pos hneg]; exact .inr (.inr rfl)
    · rw [if_neg hneg]
      by_cases hgt : n > ((l.length : Int) - u) / least
      · rw [if_pos hgt]; exact .inr (.inl rfl)
      · rw [if_neg hgt]
        refine .inl ⟨n.toNat, u, ?_, hu1, hu2, ?_⟩
        · rw [Int.toNat_of_nonneg (by omega)]
        · rw [Int.toNat_of_nonneg (by omega)]; omega
  · rw [hg]; exact .inr (.inl rfl)
  · rw [hg]; exact .inr (.inr rfl)
theorem toNat_small {z : Nat} (h : z < 256) : (UInt8.ofNat z).toNat = z := by rw [UInt8.toNat_ofNat', Nat.mod_eq_of_lt h]
theorem big_step {z k : Nat} (hz : ¬ z < 128) (h : z * 128 ^ k < 18446744073709551616) (hk : k ≤ 9) : k ≤ 8 ∧ z / 128 * 128 ^ (k + 1) + z % 128 * 128 ^ k = z * 128 ^ k := by
  refine ⟨?_, ?_⟩
  · rcases Nat.lt_or_eq_of_le hk with h9 | h9
    · omega
    · subst h9
      have : 128 * 128 ^ 9 ≤ z * 128 ^ 9 := Nat.mul_le_mul_right _ (by omega)
      omega
  · rw [Nat.pow_succ, ← Nat.mul_assoc, Nat.mul_right_comm, ← Nat.add_mul, Nat.mul_comm (z / 128) 128, Nat.div_add_mod]
theorem dec_enc (t : List UInt8) : ∀ (z k acc : Nat), (k = 0 ∨ 0 < z) → z * 128 ^ k < 18446744073709551616 → k ≤ 9 → dec (enc z ++ t) k acc = (acc + z * 128 ^ k, k + (enc z).length, 0) := by
  intro z
  induction z using Nat.strongRecOn with
  | _ z ih =>
    intro k acc hz h hk
    by_cases hs : z < 128
    · rw [enc_small hs, List.singleton_append, dec, toNat_small (by omega), if_neg, if_pos hs]
      · rfl
      · rintro (⟨h1, h2⟩ | ⟨h1, h2⟩)
        · subst h1
          have : 2 * 128 ^ 9 ≤ z * 128 ^ 9 := Nat.mul_le_mul_right _ h2
          omega
        · omega
    · obtain ⟨h8, hst⟩ := big_step hs h hk
      have hlt : z / 128 * 128 ^ (k + 1) < 18446744073709551616 := by omega
      rw [enc_big hs, List.cons_append, dec, toNat_small (by omega), if_neg (by omega), if_neg (by omega), show (z % 128 + 128) % 128 = z % 128 from by omega, ih (z / 128) (by omega) (k + 1) _ (.inr (by omega)) hlt (by omega)]
      simp only [List.length_cons, Prod.mk.injEq, and_true]
      omega
theorem unzig_zig (n : Int) : unzig (zig n) = n := by
  unfold unzig zig; split <;> split <;> omega
theorem getInt_enc {n : Int} (hn : I64 n) (t : List UInt8) : getInt (encInt n ++ t) = (n, ((encInt n).length : Int), 0) := by
  have h := dec_enc t (zig n) 0 0 (.inl rfl) (by simpa using zig_lt n hn.1 hn.2) (by omega)
  unfold getInt encInt
  rw [h]
  simp [unzig_zig]
theorem encInt_len {n : Int} (hn : I64 n) : 1 ≤ (encInt n).length ∧ (encInt n).length ≤ 10 := ⟨enc_length_pos _, enc_length_10 _ (zig_lt n hn.1 hn.2)⟩
theorem i64_nat {k : Nat} (h : k ≤ 9223372036854775807) : I64 (k : Int) := ⟨by omega, by omega⟩
def encB (x : List UInt8) : List UInt8 := encInt x.length ++ x
theorem encBytes_eq (s : ByteArray) : encBytes s = encB s.data.toList := by
  unfold encBytes encB; rw [Array.length_toList]; rfl
theorem getLen_enc {n : Nat} {lst : Int} (least : Nat) (hm : lst = (least : Int)) (hn : n ≤ 1152921504606846976) (hl : 1 ≤ least) {t : List UInt8} (ht : n * least ≤ t.length) : getLen (encInt n ++ t) lst = ((n : Int), ((encInt n).length : Int), 0) := by
  subst hm
  unfold getLen
  rw [getInt_enc (i64_nat (by omega))]
  simp only [ne_eq, not_true, if_false, List.length_append]
  rw [if_neg (by omega), if_neg]
  have h1 : (((encInt (n : Int)).length + t.length : Nat) : Int) - ((encInt (n : Int)).length : Int) = ((t.length : Nat) : Int) := by omega
  rw [h1, ← Int.natCast_ediv]
  have : n ≤ t.length / least := (Nat.le_div_iff_mul_le (by omega)).2 ht
  omega
theorem getBytes_enc {x : List UInt8} (hx : x.length ≤ 1152921504606846976) (t : List UInt8) : getBytes (encB x ++ t) = (x, ((encB x).length : Int), 0) := by
  unfold getBytes encB
  rw [List.append_assoc, getLen_enc (lst := 1) 1 rfl hx (by omega) (by simp)]
  simp
abbrev B8 (l : List UInt8) : List Int := l.map fun b => (b.toNat : Int)
theorem B8_get {l : List UInt8} {k : Nat} (h : k < l.length) : (B8 l)[((k : Int)).toNat]! = (l[k].toNat : Int) := by
  rw [Int.toNat_natCast, getElem!_pos (B8 l) k (by simpa using h), List.getElem_map]
theorem B8_app (a b : List UInt8) : B8 (a ++ b) = B8 a ++ B8 b := List.map_append
theorem B8_len (l : List UInt8) : (B8 l).length = l.length := List.length_map _
theorem B8_drop (l : List UInt8) (n : Nat) : subL (B8 l) (n : Int) (((B8 l).length : Nat) : Int) = B8 (l.drop n) := by
  rw [subL_from, Int.toNat_natCast]
  exact (List.map_drop ..).symm
theorem B8_sub (l : List UInt8) (a n : Nat) : subL (B8 l) (a : Int) ((a + n : Nat) : Int) = B8 ((l.drop a).take n) := by
  rw [subL_nat, show a + n - a = n by omega]
  show _ = ((l.drop a).take n).map _
  rw [List.map_take, List.map_drop]
theorem bStr_B8 (l : List UInt8) : bStr (B8 l) = ⟨l.toArray⟩ := by
  unfold bStr B8
  rw [List.map_map]
  congr 2
  conv => rhs; rw [← List.map_id l]
  exact List.map_congr_left fun b _ => by show UInt8.ofNat ((b.toNat : Int)).toNat = b; rw [Int.toNat_natCast, UInt8.ofNat_toNat]
theorem B8_of {b : List Int} (h : ∀ x ∈ b, 0 ≤ x ∧ x ≤ 255) : ∃ l, b = B8 l := by
  refine ⟨b.map fun x => UInt8.ofNat x.toNat, ?_⟩
  show b = List.map _ (List.map _ b)
  rw [List.map_map]
  conv => lhs; rw [← List.map_id b]
  refine List.map_congr_left fun x hx => ?_
  have := h x hx
  show x = ((UInt8.ofNat x.toNat).toNat : Int)
  rw [UInt8.toNat_ofNat', Nat.mod_eq_of_lt (by omega)]
  omega
theorem u64w {z : Nat} (h : z < 18446744073709551616) : IntKind.u64.wrap (z : Int) = (z : Int) := by rw [IntKind.wrap_u64]; omega
theorem u8w (z : Nat) : IntKind.u8.wrap (z : Int) = ((z % 256 : Nat) : Int) := by
  show (z : Int) % 256 = _
  omega
theorem int_loop : ∀ (z : Nat) (out : List UInt8), z < 18446744073709551616 → out.length + (enc z).length ≤ 1000 → ∃ (z' : Nat) (out' : List UInt8), loopO g_wire_Int_l9 ((z : Int), B8 out) = some ((z' : Int), B8 out') ∧ out' ++ [UInt8.ofNat z'] = out ++ enc z ∧ z' < 128 := by
  intro z
  induction z using Nat.strongRecOn with
  | _ z ih =>
    intro out hz ho
    by_cases hs : z < 128
    · refine ⟨z, out, loopO_inr ?_, by rw [enc_small hs], hs⟩
      simp (disch := omega) only [g_wire_Int_l9, cnd_dec, if_neg]
    · rw [enc_big hs, List.length_cons] at ho
      obtain ⟨z', out', h1, h2, h3⟩ := ih (z / 128) (by omega) (out ++ [UInt8.ofNat (z % 128 + 128)]) (by omega) (by simp; omega)
      refine ⟨z', out', ?_, by rw [h2, enc_big hs]; simp, h3⟩
      rw [← h1]
      refine loopO_inl ?_
      have e1 : ior .u8 (IntKind.u8.wrap (z : Int)) 128 = ((z % 128 + 128 : Nat) : Int) := or128 z
      have e2 : ishr .u64 (z : Int) 7 = ((z / 128 : Nat) : Int) := by
        show (z : Int).fdiv 128 = _
        rw [Int.fdiv_eq_ediv_of_nonneg _ (by omega)]; omega
      have e3 : B8 (out ++ [UInt8.ofNat (z % 128 + 128)]) = B8 out ++ [((z % 128 + 128 : Nat) : Int)] := by
        rw [B8_app]; congr 1
        show [((UInt8.ofNat (z % 128 + 128)).toNat : Int)] = _
        rw [toNat_small (by omega)]
      simp only [g_wire_Int_l9]
      rw [cndT _ _ (by omega), e1, e2, e3, gd_pos (by simp [B8_len]; omega)]
theorem zig_bits (n : Int) (h : I64 n) : ixor .u64 (ishl .u64 (IntKind.u64.wrap n) 1) (IntKind.u64.wrap (ishr .i64 n 63)) = (zig n : Int) := by
  have e : ishr .i64 n 63 = n / 9223372036854775808 := Int.fdiv_eq_ediv_of_nonneg _ (by decide)
  rw [e]
  exact xor_zig n h.1 h.2
theorem G_Int {n : Int} (h : I64 n) : g_wire_Int n = some (B8 (encInt n)) := by
  have hz := zig_lt n h.1 h.2
  have hl := enc_length_10 _ hz
  obtain ⟨z', out', h1, h2, h3⟩ := int_loop (zig n) [] hz (by simp; omega)
  have h1' : loopO g_wire_Int_l9 ((zig n : Int), ([] : List Int)) = some ((z' : Int), B8 out') := h1
  unfold g_wire_Int
  rw [zig_bits n h, bnd_eq, h1', bnd_eq]
  have e : B8 out' ++ [IntKind.u8.wrap (z' : Int)] = B8 (encInt n) := by
    show _ = B8 (enc (zig n))
    rw [← List.nil_append (enc (zig n)), ← h2, B8_app, u8w]
    rw [Nat.mod_eq_of_lt (by omega)]
    show _ = _ ++ [((UInt8.ofNat z').toNat : Int)]
    rw [toNat_small (by omega)]
  dsimp only
  rw [e, gd_pos (by rw [B8_len]; unfold encInt; omega)]
theorem B8_bytes (s : ByteArray) : B8 (encInt (s.size : Int)) ++ strB s = B8 (encBytes s) := by
  unfold encBytes
  rw [B8_app]; rfl
theorem G_Bytes {s : ByteArray} (h : s.size ≤ 1000000000) : g_wire_Bytes s = some (B8 (encBytes s)) := by
  have hi : I64 (s.size : Int) := ⟨by omega, by omega⟩
  have := (encInt_len hi).2
  unfold g_wire_Bytes
  rw [G_Int hi, bnd_eq, B8_bytes, gd_pos (by rw [B8_len, encBytes_len]; omega)]
theorem take_flat {α β : Type} (f : α → List β) (l : List α) (k : Nat) (h : k < l.length) : (l.take (k + 1)).flatMap f = (l.take k).flatMap f ++ f l[k] := by
  rw [List.take_succ_eq_append_getElem h, List.flatMap_append]; simp
theorem flat_le {α : Type} (f : α → List UInt8) (l : List α) (k : Nat) : ((l.take k).flatMap f).length ≤ (l.flatMap f).length := by
  conv => rhs; rw [← List.take_append_drop k l, List.flatMap_append, List.length_append]
  omega
theorem list_up {α : Type} [Inhabited α] {enc1 : α → List UInt8} {b : (List Int) × Int → Option (((List Int) × Int) ⊕ (List Int))} (l : List α) (out : List UInt8)
    (hr : ∀ (o : List UInt8) (i : Nat) (h : i < l.length), o.length + (enc1 l[i]).length ≤ out.length + (l.flatMap enc1).length → b (B8 o, (i : Int)) = some (.inl (B8 (o ++ enc1 l[i]), ((i + 1 : Nat) : Int))))
    (he : ∀ o : List UInt8, b (B8 o, (l.length : Int)) = some (.inr (B8 o))) : loopO b (B8 out, (0 : Int)) = some (B8 (out ++ l.flatMap enc1)) := by
  have := loopO_up (b := b) (fun i => (B8 (out ++ (l.take i).flatMap enc1), (i : Int))) 0 l.length (B8 (out ++ l.flatMap enc1)) (Nat.zero_le _) (fun i _ hi => by
    have h1 := flat_le enc1 l (i + 1)
    rw [take_flat _ _ _ hi, List.length_append] at h1
    rw [hr _ i hi (by simp only [List.length_append]; omega), take_flat _ _ _ hi, List.append_assoc]) (by
    rw [he, List.take_length])
  simpa using this
theorem dec_loop (l : List UInt8) (hl : l.length ≤ 1000000000) : ∀ (m k z : Nat), m + k = l.length → k ≤ 9 → z < 128 ^ k →
    (∃ n u, dec (l.drop k) k z = (n, u, 0) ∧ loopO (g_wire_GetInt_l14 (B8 l)) ((z : Int), (k : Int)) = some (.inr ((n : Int), (u : Int)))) ∨
    (dec (l.drop k) k z = (0, 0, 11) ∧ loopO (g_wire_GetInt_l14 (B8 l)) ((z : Int), (k : Int)) = some (.inl (0, 0, 11))) ∨
    (dec (l.drop k) k z = (0, 0, 10) ∧ ∃ z', loopO (g_wire_GetInt_l14 (B8 l)) ((z : Int), (k : Int)) = some (.inr (z', 0))) := by
  intro m
  induction m with
  | zero =>
    intro k z hm hk hz
    refine .inr (.inr ⟨by rw [List.drop_of_length_le (by omega)]; rfl, (z : Int), loopO_inr ?_⟩)
    simp only [g_wire_GetInt_l14]
    rw [cndF _ _ (by rw [B8_len]; omega)]
  | succ m ih =>
    intro k z hm hk hz
    have hkl : k < l.length := by omega
    have hc := l[k].toNat_lt
    have hbad : (bnd (S := Bool) (bnd (S := Bool) (cnd (decide ((k : Int) = 9)) (some (decide ((1 : Int) < (l[k].toNat : Int)))) (some false)) fun a => cnd a (some a) (cnd (decide ((0 : Int) < (k : Int))) (some (decide ((l[k].toNat : Int) = 0))) (some false))) fun a => some a) = some (decide ((k = 9 ∧ 1 < l[k].toNat) ∨ (0 < k ∧ l[k].toNat = 0))) := by
      rw [cnd_and, cnd_and, bnd_eq, bnd_id]
      have : ∀ a b : Bool, cnd a (some a) (some b) = some (a || b) := by intro a b; cases a <;> rfl
      rw [this]
      congr 1
      rw [Bool.eq_iff_iff]
      simp only [Bool.or_eq_true, Bool.and_eq_true, decide_eq_true_eq]
      omega
    have hb2 : ∀ K : Bool → Option ((Int × Int) ⊕ ((Int × Int × Int) ⊕ (Int × Int))), bnd (S := Bool) (bnd (S := Bool) (cnd (decide ((k : Int) = 9)) (some (decide ((1 : Int) < (l[k].toNat : Int)))) (some false)) fun a => cnd a (some a) (cnd (decide ((0 : Int) < (k : Int))) (some (decide ((l[k].toNat : Int) = 0))) (some false))) K = K (decide ((k = 9 ∧ 1 < l[k].toNat) ∨ (0 < k ∧ l[k].toNat = 0))) := fun K => bnd_of ((bnd_id _).symm.trans hbad) K
    rw [List.drop_eq_getElem_cons hkl, dec]
    by_cases h1 : (k = 9 ∧ 1 < l[k].toNat) ∨ (0 < k ∧ l[k].toNat = 0)
    · refine .inr (.inl ⟨if_pos h1, loopO_inr ?_⟩)
      simp only [g_wire_GetInt_l14]
      rw [cndT _ _ (by rw [B8_len]; omega), gd_pos (by rw [B8_len]; omega), B8_get hkl, hb2, cndT _ _ h1]
    · have hacc : ior .u64 (z : Int) (ishl .u64 (IntKind.u64.wrap (iand .u8 (l[k].toNat : Int) 127)) ((7 * k : Nat) : Int)) = ((z + l[k].toNat % 128 * 128 ^ k : Nat) : Int) := by
        have e : ishl .u64 (IntKind.u64.wrap (iand .u8 (l[k].toNat : Int) 127)) ((7 * k : Nat) : Int) = IntKind.u64.wrap (IntKind.u64.wrap (bits BinOp.and IntKind.u8 (l[k].toNat : Int) 127) * 2 ^ (7 * k)) := by
          show IntKind.u64.wrap (_ * 2 ^ min ((7 * k : Nat) : Int).toNat 64) = _
          rw [Int.toNat_natCast, Nat.min_eq_left (by omega)]; rfl
        rw [e]
        by_cases h9 : k = 9
        · subst h9
          have : l[9].toNat ≤ 1 := by omega
          have h := acc_bits9 z l[9].toNat hz this
          rw [Nat.mod_eq_of_lt (by omega)]
          exact h
        · exact acc_bits z l[k].toNat k hz hc (by omega)
      have hstep : g_wire_GetInt_l14 (B8 l) ((z : Int), (k : Int)) = if l[k].toNat < 128 then some (.inr (.inr (((z + l[k].toNat % 128 * 128 ^ k : Nat) : Int), ((k + 1 : Nat) : Int)))) else some (.inl (((z + l[k].toNat % 128 * 128 ^ k : Nat) : Int), ((k + 1 : Nat) : Int))) := by
        simp only [g_wire_GetInt_l14]
        rw [cndT _ _ (by rw [B8_len]; omega), gd_pos (by rw [B8_len]; omega), B8_get hkl, hb2, cndF _ _ h1, w_id (show _ ≤ (7 : Int) * (k : Int) ∧ (7 : Int) * (k : Int) ≤ _ by omega), gd_pos (by omega), show (7 : Int) * (k : Int) = ((7 * k : Nat) : Int) by omega, hacc, bnd_eq, w_id (show _ ≤ (k : Int) + 1 ∧ (k : Int) + 1 ≤ _ by omega), cnd_dec]
        by_cases h2 : l[k].toNat < 128
        · rw [if_pos (by omega), if_pos h2]; rfl
        · rw [if_neg (by omega), if_neg h2]; rfl
      rw [if_neg h1]
      by_cases h2 : l[k].toNat < 128
      · rw [if_pos h2] at hstep ⊢
        rw [Nat.mod_eq_of_lt h2] at hstep
        exact .inl ⟨_, _, rfl, loopO_inr hstep⟩
      · rw [if_neg h2] at hstep ⊢
        rw [loopO_inl hstep]
        exact ih (k + 1) _ (by omega) (by omega) (acc_lt z _ k hz)
theorem G_GetInt (l : List UInt8) (hl : l.length ≤ 1000000000) : g_wire_GetInt (B8 l) = some (getInt l) := by
  unfold g_wire_GetInt getInt
  rcases dec_loop l hl l.length 0 0 rfl (by omega) (by simp) with ⟨n, u, h1, h2⟩ | ⟨h1, h2⟩ | ⟨h1, z', h2⟩
  all_goals
    rw [List.drop_zero] at h1
    rw [show ((0 : Int), (0 : Int)) = (((0 : Nat) : Int), ((0 : Nat) : Int)) from rfl, h2, bnd_eq, h1]
    dsimp only
  · have hn : 0 < u ∧ n < 18446744073709551616 := by
      rcases dec_cases l 0 0 (by simp) (by omega) with ⟨n', u', h, h3, h4, h5⟩ | h | h
      · rw [h1] at h
        simp only [Prod.mk.injEq] at h
        omega
      · rw [h1] at h; simp at h
      · rw [h1] at h; simp at h
    rw [cndF _ _ (by omega), if_pos rfl]
    congr 2
    have e1 : ishr .u64 (n : Int) 1 = (n : Int) / 2 := Int.fdiv_eq_ediv_of_nonneg _ (by decide)
    have e2 : iand .u64 (n : Int) 1 = bits BinOp.and IntKind.u64 (n : Int) 1 := rfl
    have := unzig_bits n hn.2
    rw [e1, e2, Int.zero_sub]
    have w : ∀ x, IntKind.i64.wrap x = wrap64 x := fun x => by unfold wrap64; rw [IntKind.wrap_i64]
    rw [w, w, w]
    exact this
  · rw [if_neg (by decide)]
  · rw [cndT _ _ rfl, if_neg (by decide)]
theorem G_length (l : List UInt8) (hl : l.length ≤ 1000000000) : g_wire_length (B8 l) 1 = some (getLen l 1) := by
  unfold g_wire_length
  rw [G_GetInt l hl, bnd_eq]
  rcases getInt_cases l with ⟨n, u, h, h1, h2, h3⟩ | h | h
  · have hn := h3.1
    have hn2 := h3.2
    have e : getLen l 1 = if n < 0 then (0, 0, 11) else if n > ((l.length : Int) - u) / 1 then (0, 0, 10) else (n, (u : Int), 0) := by
      unfold getLen; rw [h]; simp
    rw [e, h, cndF _ _ (fun h => h rfl), cnd_dec]
    dsimp only
    by_cases h0 : n < 0
    · rw [if_pos h0, if_pos h0]
    · rw [if_neg h0, if_neg h0, gd_pos (by decide), B8_len, Int.tdiv_one, w_id (z := (l.length : Int) - u) (by omega), w_id (by omega), Int.ediv_one, cnd_dec]
      by_cases h5 : (l.length : Int) - u < n
      · rw [if_pos h5, if_pos h5]
      · rw [if_neg h5, if_neg h5]
  · have e : getLen l 1 = (0, 0, 10) := by unfold getLen; rw [h]; simp
    rw [e, h, cndT _ _ (by decide)]
  · have e : getLen l 1 = (0, 0, 11) := by unfold getLen; rw [h]; simp
    rw [e, h, cndT _ _ (by decide)]
def ofB (x : List UInt8) : ByteArray := ⟨x.toArray⟩
theorem G_GetBytes (l : List UInt8) (hl : l.length ≤ 1000000000) : g_wire_GetBytes (B8 l) = some (ofB (getBytes l).1, (getBytes l).2.1, (getBytes l).2.2) := by
  unfold g_wire_GetBytes
  rw [G_length l hl, bnd_eq]
  rcases getLen_cases l 1 with ⟨n, u, h, h1, h2, h3⟩ | h | h
  · have e : getBytes l = ((l.drop u).take n, (u : Int) + (n : Int), 0) := by unfold getBytes; rw [h]; simp
    rw [e, h, cndF _ _ (fun h => h rfl)]
    dsimp only
    have : (n : Int) ≤ (l.length : Int) - u := by omega
    rw [w_id (by omega), gd_pos (by rw [B8_len]; omega), ← Int.natCast_add, B8_sub, bStr_B8]
    rfl
  · have e : getBytes l = ([], 0, 10) := by unfold getBytes; rw [h]; simp
    rw [e, h, cndT _ _ (by decide)]
    rfl
  · have e : getBytes l = ([], 0, 11) := by unfold getBytes; rw [h]; simp
    rw [e, h, cndT _ _ (by decide)]
    rfl
theorem rint_loop : ∀ (z : Nat) (out : List UInt8), z < 18446744073709551616 → out.length + (enc z).length ≤ 1000 → ∃ (z' : Nat) (out' : List UInt8), loopO g_ref01_Int_l15 ((z : Int), B8 out) = some ((z' : Int), B8 out') ∧ out' ++ [UInt8.ofNat z'] = out ++ enc z ∧ z' < 128 := by
  intro z
  induction z using Nat.strongRecOn with
  | _ z ih =>
    intro out hz ho
    by_cases hs : z < 128
    · refine ⟨z, out, loopO_inr ?_, by rw [enc_small hs], hs⟩
      simp (disch := omega) only [g_ref01_Int_l15, cnd_dec, if_neg]
    · rw [enc_big hs, List.length_cons] at ho
      obtain ⟨z', out', h1, h2, h3⟩ := ih (z / 128) (by omega) (out ++ [UInt8.ofNat (z % 128 + 128)]) (by omega) (by simp; omega)
      refine ⟨z', out', ?_, by rw [h2, enc_big hs]; simp, h3⟩
      rw [← h1]
      refine loopO_inl ?_
      have e1 : IntKind.u8.wrap (IntKind.u8.wrap (Int.tmod (z : Int) 128) + 128) = ((z % 128 + 128 : Nat) : Int) := by
        rw [Int.tmod_eq_emod_of_nonneg (by omega)]
        show (((z : Int) % 128) % 256 + 128) % 256 = _
        omega
      have e2 : IntKind.u64.wrap (Int.tdiv (z : Int) 128) = ((z / 128 : Nat) : Int) := by
        rw [Int.tdiv_eq_ediv_of_nonneg (by omega), show (z : Int) / 128 = ((z / 128 : Nat) : Int) by omega]
        exact u64w (by omega)
      have e3 : B8 (out ++ [UInt8.ofNat (z % 128 + 128)]) = B8 out ++ [((z % 128 + 128 : Nat) : Int)] := by
        rw [B8_app]; congr 1
        show [((UInt8.ofNat (z % 128 + 128)).toNat : Int)] = _
        rw [toNat_small (by omega)]
      simp only [g_ref01_Int_l15]
      rw [cndT _ _ (by omega), e1, e2, e3, gd_pos (by simp [B8_len]; omega)]
theorem G_rInt {n : Int} (h : I64 n) : g_ref01_Int n = some (B8 (encInt n)) := by
  have hz := zig_lt n h.1 h.2
  have hl := enc_length_10 _ hz
  obtain ⟨z', out', h1, h2, h3⟩ := rint_loop (zig n) [] hz (by simp; omega)
  have hn1 := h.1
  have hn2 := h.2
  have e0 : ∀ k : Int → Option (List Int), bnd (cnd (decide (n < 0)) (bnd (some (IntKind.u64.wrap ((IntKind.u64.wrap ((IntKind.u64.wrap (IntKind.i64.wrap ((-1 : Int) - n))) * (2 : Int))) + (1 : Int)))) fun x4 => some x4) (some (IntKind.u64.wrap ((IntKind.u64.wrap n) * (2 : Int))))) k = k (zig n : Int) := by
    intro k
    by_cases h0 : n < 0
    · rw [cndT _ _ h0, bnd_eq, bnd_eq]
      congr 1
      rw [w_id (by omega)]
      simp only [IntKind.wrap_u64]
      unfold zig; rw [if_pos h0]; omega
    · rw [cndF _ _ h0, bnd_eq]
      congr 1
      simp only [IntKind.wrap_u64]
      unfold zig; rw [if_neg h0]; omega
  unfold g_ref01_Int
  have h1' : loopO g_ref01_Int_l15 ((zig n : Int), ([] : List Int)) = some ((z' : Int), B8 out') := h1
  rw [bnd_eq, e0, h1', bnd_eq]
  have e : B8 out' ++ [IntKind.u8.wrap (z' : Int)] = B8 (encInt n) := by
    show _ = B8 (enc (zig n))
    rw [← List.nil_append (enc (zig n)), ← h2, B8_app, u8w]
    rw [Nat.mod_eq_of_lt (by omega)]
    show _ = _ ++ [((UInt8.ofNat z').toNat : Int)]
    rw [toNat_small (by omega)]
  dsimp only
  rw [e, gd_pos (by rw [B8_len]; unfold encInt; omega)]
theorem G_rBytes {s : ByteArray} (h : s.size ≤ 1000000000) : g_ref01_Bytes s = some (B8 (encBytes s)) := by
  have hi : I64 (s.size : Int) := ⟨by omega, by omega⟩
  have := (encInt_len hi).2
  unfold g_ref01_Bytes
  rw [G_rInt hi, bnd_eq, B8_bytes, gd_pos (by rw [B8_len, encBytes_len]; omega)]
section
def arr (n : Nat) (f : Nat → Value) : Array Value := ((List.range n).map f).toArray
theorem arr_size (n : Nat) (f : Nat → Value) : (arr n f).size = n := by simp [arr]
theorem arr_at (n : Nat) (f : Nat → Value) (i : Nat) (hi : i < n) : (arr n f)[i]? = some (f i) := by simp [arr, hi]
theorem arr_one {n : Nat} {f : Nat → Value} (h : ∀ i, i < n → (f i).oneCell' = true) : (arr n f).all (·.oneCell') = true := by
  rw [Array.all_eq_true]
  intro i hi
  have h1 : i < n := by simpa [arr] using hi
  simpa [arr] using h i h1
theorem arr_ones {n : Nat} {f : Nat → Value} (h : ∀ i, i < n → (f i).oneCell' = true) : ∀ u ∈ (arr n f).toList, u.oneCell' = true := by
  intro u hu
  obtain ⟨i, hi, rfl⟩ := List.mem_map.1 (by simpa [arr] using hu : u ∈ (List.range n).map f)
  exact h i (by simpa using hi)
theorem arr_of {n : Nat} {f : Nat → Value} {c : Array Value} (hn : c.size = n) (hc : ∀ i, i < n → c[i]? = some (f i)) : c = arr n f := by
  apply Array.ext_getElem?
  intro i
  by_cases hi : i < n
  · rw [hc i hi, arr_at n f i hi]
  · rw [Array.getElem?_eq_none (by omega), Array.getElem?_eq_none (by rw [arr_size]; omega)]
section
variable {w w' : World} {b : Nat} {t : TypeId} {n : Nat} {f g : Nat → Value}
theorem row_block (h : w.rowIs b t n f) : w.heap[b]? = some (.cells (arr n f) t (0, 0)) := by
  obtain ⟨c, hb, hn, hc⟩ := h
  rw [hb, arr_of hn hc]
theorem row_of_block (h : w.heap[b]? = some (.cells (arr n f) t (0, 0))) : w.rowIs b t n f := ⟨_, h, arr_size _ _, fun i hi => arr_at _ _ i hi⟩
theorem row_alloc (w : World) (t : TypeId) (n : Nat) (f : Nat → Value) : (w.alloc (.cells (arr n f) t)).rowIs w.heap.size t n f := row_of_block (heap_alloc_new w _)
theorem row_new (w : World) (c : Array Value) (t : TypeId) (n : Nat) (f : Nat → Value) (hn : c.size = n) (hc : ∀ i, i < n → c[i]? = some (f i)) : (w.alloc (.cells c t)).rowIs w.heap.size t n f := by
  rw [arr_of hn hc]; exact row_alloc w t n f
theorem row_below {B : Nat} (h : w.rowIs b t n f) (hb : Below B w w') (hB : b < B) : w'.rowIs b t n f := h.of_block (hb.block b hB)
theorem row_setRow (h : w.rowIs b t n f) (g : Nat → Value) : (w.setRow b (arr n g)).rowIs b t n g := row_of_block (setRow_heap w b _ _ t _ (row_block h))
theorem row_setRow_other {b' : Nat} (h : w.rowIs b t n f) (hne : b ≠ b') (cs : Array Value) : (w.setRow b' cs).rowIs b t n f := h.of_block (setRow_other w b' b cs hne)
end
theorem below_setRow' {B : Nat} {w0 w : World} (hb : Below B w0 w) {g : Nat} (hg : B ≤ g) (cs : Array Value) : Below B w0 (w.setRow g cs) :=
  hb.trans ⟨rfl, rfl, rfl, by simp [World.setRow], fun k hk => setRow_other w g k cs (by omega)⟩
section
variable {P : Program}
theorem wpList_load_arr {ops : Array Oper} {rest : List Oper} {o : Oper} {a : Act} {w : World} {Q : Exit → Act → World → Prop} (hgd : o.guard = none) (ty : TypeId) (x : Operand) (ho : o.op = .load ty x)
    {b : Nat} {t : TypeId} {n : Nat} {f : Nat → Value} (hr : w.rowIs b t n f) (hx : a.eval x = .pointer (some ⟨b, 0, none⟩)) (ag : Agg P ty n)
    (h : wpList P ops Q rest (a.put o.dst (.agg (arr n f))) w) : wpList P ops Q (o :: rest) a w := by
  obtain ⟨⟨d, hu, hd⟩, hi⟩ := ag
  exact wpList_load_row hgd ty x ho b hx t _ (0, 0) d (row_block hr) hu (by cases d <;> simp_all) (by rw [hi, arr_size]) h
theorem wpList_store_arr {ops : Array Oper} {rest : List Oper} {o : Oper} {a : Act} {w : World} {Q : Exit → Act → World → Prop} (hgd : o.guard = none) (ty : TypeId) (x y : Operand) (ho : o.op = .store ty x y)
    {b : Nat} {t : TypeId} {n : Nat} {f g : Nat → Value} (hr : w.rowIs b t n f) (hx : a.eval x = .pointer (some ⟨b, 0, none⟩)) (hy : a.eval y = .agg (arr n g)) (ag : Agg P ty n) (h1 : ∀ i, i < n → (g i).oneCell' = true)
    (h : (w.setRow b (arr n g)).rowIs b t n g → wpList P ops Q rest (a.put o.dst undef) (w.setRow b (arr n g))) : wpList P ops Q (o :: rest) a w :=
  wpList_store_row hgd ty x y ho b _ hx hy t _ (row_block hr) (by rw [ag.2, arr_size]) (by rw [arr_size, arr_size]) (arr_one h1) (h (row_setRow hr g))
theorem bodyPost_arr {fn : Func} {R : Ending → World → Prop} {a : Act} {w : World} {p : Tmp} {ty : TypeId} (h : fn.results = #[.cell p ty]) {b : Nat} {t : TypeId} {n : Nat} {f : Nat → Value} (hr : w.rowIs b t n f)
    (hp : a.tmps.getD p undef = .pointer (some ⟨b, 0, none⟩)) (ag : Agg P ty n) (hd : a.defers = []) (hR : R (.returned (.agg (arr n f))) w) : bodyPost P fn R .ret a w := by
  obtain ⟨⟨d, hu, hd'⟩, hi⟩ := ag
  exact bodyPost_ret (v := .agg (arr n f)) (results_cell_row h _ w b t _ (0, 0) d hp (row_block hr) hu (by cases d <;> simp_all) (by rw [hi, arr_size])) hd hR
theorem wpList_load_far {ops : Array Oper} {rest : List Oper} {o : Oper} {a : Act} {w : World} {Q : Exit → Act → World → Prop} (hgd : o.guard = none) (ty : TypeId) (x : Operand) (ho : o.op = .load ty x)
    {ad : Addr} {n : Nat} {f : Nat → Value} (hc : ∀ i, i < n → w.cell? (ad.add i) = some (f i)) (hx : a.eval x = .pointer (some ad)) (ag : Agg P ty n)
    (h : wpList P ops Q rest (a.put o.dst (.agg (arr n f))) w) : wpList P ops Q (o :: rest) a w :=
  wpList_load_cells hgd ty x ho ad hx ((List.range n).map f) ag (by simp) (fun j u hu => by
    have hj : j < n := by
      rcases Nat.lt_or_ge j n with h | h
      · exact h
      · rw [List.getElem?_eq_none (by simpa using h)] at hu; cases hu
    have : u = f j := by simpa [hj, eq_comm] using hu
    rw [this]; exact hc j hj) h
theorem run_index_arr (t e : TypeId) (n : Nat) (f : Nat → Value) {z : Value} {bytes : Nat} (ht : P.underlying t = some (.array n e)) (hi : ∃ i, P.info? e = some i ∧ i.zero = some z ∧ i.size = 1 ∧ i.bytes = bytes)
    {kd : IntKind} (he : P.underlying e = some (.int kd)) (k : Nat) (hk : k < n) (w : World) : (Instr.index t (.agg (arr n f)) (.int .i64 (k : Int))).run P w = .ok (f k) w := by
  obtain ⟨i, h1, _, h3, _⟩ := hi
  have h4 := arr_at n f k hk
  simp [Instr.index, asIntOf, run_underlying ht, hk, sizeOf, typeInfo, h1, h3, Go.part, isAgg, run_underlying he, h4]
end
end
namespace Sha
abbrev W := BitVec 32
def rotr (x : W) (n : Nat) : W := (x >>> n) ||| (x <<< (32 - n))
def ks : List Nat := [
  0x428a2f98, 0x71374491, 0xb5c0fbcf, 0xe9b5dba5, 0x3956c25b, 0x59f111f1, 0x923f82a4, 0xab1c5ed5,
  0xd807aa98, 0x12835b01, 0x243185be, 0x550c7dc3, 0x72be5d74, 0x80deb1fe, 0x9bdc06a7, 0xc19bf174,
  0xe49b69c1, 0xefbe4786, 0x0fc19dc6, 0x240ca1cc, 0x2de92c6f, 0x4a7484aa, 0x5cb0a9dc, 0x76f988da,
  0x983e5152, 0xa831c66d, 0xb00327c8, 0xbf597fc7, 0xc6e00bf3, 0xd5a79147, 0x06ca6351, 0x14292967,
  0x27b70a85, 0x2e1b2138, 0x4d2c6dfc, 0x53380d13, 0x650a7354, 0x766a0abb, 0x81c2c92e, 0x92722c85,
  0xa2bfe8a1, 0xa81a664b, 0xc24b8b70, 0xc76c51a3, 0xd192e819, 0xd6990624, 0xf40e3585, 0x106aa070,
  0x19a4c116, 0x1e376c08, 0x2748774c, 0x34b0bcb5, 0x391c0cb3, 0x4ed8aa4a, 0x5b9cca4f, 0x682e6ff3,
  0x748f82ee, 0x78a5636f, 0x84c87814, 0x8cc70208, 0x90befffa, 0xa4506ceb, 0xbef9a3f7, 0xc67178f2]
structure St where
  a : W
  b : W
  c : W
  d : W
  e : W
  f : W
  g : W
  h : W
def St.add (s t : St) : St := ⟨s.a + t.a, s.b + t.b, s.c + t.c, s.d + t.d, s.e + t.e, s.f + t.f, s.g + t.g, s.h + t.h⟩
def St.toList (s : St) : List W := [s.a, s.b, s.c, s.d, s.e, s.f, s.g, s.h]
def init : St := ⟨0x6a09e667#32, 0xbb67ae85#32, 0x3c6ef372#32, 0xa54ff53a#32, 0x510e527f#32, 0x9b05688c#32, 0x1f83d9ab#32, 0x5be0cd19#32⟩
def mix (x : W) (i j k : Nat) : W := rotr x i ^^^ rotr x j ^^^ rotr x k
def round (s : St) (k w : W) : St :=
  let x := s.h + mix s.e 6 11 25 + ((s.e &&& s.f) ^^^ ((~~~ s.e) &&& s.g)) + k + w
  let y := mix s.a 2 13 22 + ((s.a &&& s.b) ^^^ (s.a &&& s.c) ^^^ (s.b &&& s.c))
  ⟨x + y, s.a, s.b, s.c, s.d + x, s.e, s.f, s.g⟩
def byteAt (b : List UInt8) (i : Nat) : W := BitVec.ofNat 32 (b.getD i 0).toNat
def word (b : List UInt8) (t : Nat) : W := ((((((byteAt b (4 * t)) <<< 8) ||| byteAt b (4 * t + 1)) <<< 8) ||| byteAt b (4 * t + 2)) <<< 8) ||| byteAt b (4 * t + 3)
def s0 (p : W) : W := rotr p 7 ^^^ rotr p 18 ^^^ (p >>> 3)
def s1 (q : W) : W := rotr q 17 ^^^ rotr q 19 ^^^ (q >>> 10)
def nextW (b : List UInt8) (t : Nat) (r : List W) : W :=
  if t < 16 then word b t else r.getD 15 0#32 + s0 (r.getD 14 0#32) + r.getD 6 0#32 + s1 (r.getD 1 0#32)
def revW (b : List UInt8) : Nat → List W
  | 0 => []
  | t + 1 => nextW b t (revW b t) :: revW b t
def wAt (b : List UInt8) (t : Nat) : W := nextW b t (revW b t)
def rounds (b : List UInt8) (s : St) : Nat → St
  | 0 => s
  | t + 1 => round (rounds b s t) (BitVec.ofNat 32 (ks.getD t 0)) (wAt b t)
def compress (s : St) (b : List UInt8) : St := s.add (rounds b s 64)
def feed : Nat → St → List UInt8 → St
  | 0, s, _ => s
  | n + 1, s, l => feed n (compress s (l.take 64)) (l.drop 64)
def len8 (n : Nat) : List UInt8 := (List.range 8).map fun i => UInt8.ofNat (n >>> (56 - 8 * i) % 256)
def zeros (n : Nat) : Nat := (119 - n % 64) % 64
def pad (l : List UInt8) : List UInt8 := l ++ 128 :: (List.replicate (zeros l.length) 0 ++ len8 (8 * l.length % 18446744073709551616))
def bytesOf (w : W) : List UInt8 := (List.range 4).map fun i => UInt8.ofNat ((w.toNat >>> (24 - 8 * i)) % 256)
def out (s : St) : List UInt8 := s.toList.flatMap bytesOf
def sha (l : List UInt8) : List UInt8 := out (feed ((pad l).length / 64) init (pad l))
end Sha
theorem ofInt_toNat {n : Nat} (x : BitVec n) : BitVec.ofInt n (x.toNat : Int) = x := by
  rw [BitVec.ofInt_natCast, BitVec.ofNat_toNat, BitVec.setWidth_eq]
theorem wrap_u32_toNat (x : BitVec 32) : IntKind.u32.wrap (x.toNat : Int) = x.toNat := by
  have := x.isLt
  rw [IntKind.wrap_u32]; omega
theorem u32_xor (x y : BitVec 32) : bits .xor .u32 (x.toNat : Int) (y.toNat : Int) = ((x ^^^ y).toNat : Int) := by
  show IntKind.u32.wrap ((BitVec.ofInt 32 (x.toNat : Int) ^^^ BitVec.ofInt 32 (y.toNat : Int)).toNat : Int) = _
  rw [ofInt_toNat, ofInt_toNat, wrap_u32_toNat]
theorem u32_and (x y : BitVec 32) : bits .and .u32 (x.toNat : Int) (y.toNat : Int) = ((x &&& y).toNat : Int) := by
  show IntKind.u32.wrap ((BitVec.ofInt 32 (x.toNat : Int) &&& BitVec.ofInt 32 (y.toNat : Int)).toNat : Int) = _
  rw [ofInt_toNat, ofInt_toNat, wrap_u32_toNat]
theorem u32_or (x y : BitVec 32) : bits .or .u32 (x.toNat : Int) (y.toNat : Int) = ((x ||| y).toNat : Int) := by
  show IntKind.u32.wrap ((BitVec.ofInt 32 (x.toNat : Int) ||| BitVec.ofInt 32 (y.toNat : Int)).toNat : Int) = _
  rw [ofInt_toNat, ofInt_toNat, wrap_u32_toNat]
theorem u32_add (x y : BitVec 32) : IntKind.u32.wrap ((x.toNat : Int) + (y.toNat : Int)) = ((x + y).toNat : Int) := by
  rw [IntKind.wrap_u32, BitVec.toNat_add]; omega
theorem u32_shr (x : BitVec 32) (k : Nat) : (x.toNat : Int) / 2 ^ k = ((x >>> k).toNat : Int) := by
  rw [BitVec.toNat_ushiftRight, Nat.shiftRight_eq_div_pow]; simp
theorem u32_shl (x : BitVec 32) (k : Nat) : IntKind.u32.wrap ((x.toNat : Int) * 2 ^ k) = ((x <<< k).toNat : Int) := by
  rw [BitVec.toNat_shiftLeft, Nat.shiftLeft_eq, IntKind.wrap_u32]; simp
end Go.Proofs.YtakbadleipbngaaDoor
