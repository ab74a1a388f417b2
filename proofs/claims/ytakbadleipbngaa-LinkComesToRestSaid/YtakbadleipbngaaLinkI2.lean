/-
  layer 42: the functions that are given the end: known, acknowledge, hold, deliver. Conditions: none.
-/
import Derived.Test.YtakbadleipbngaaLinkG2
import Derived.Test.YtakbadleipbngaaAbD
set_option linter.all false
namespace Go.Proofs.Ytakbadleipbngaa
open Go.RowKit
def endC (x : LEnd) : List D := [.e (.lit (.int .i64 x.base)), .e (.sl 1 x.queue.length (x.queue.map sE)), .e (.lit (.int .i64 x.want)), .e (.sl 2 x.held.length (hE x.held))]
def hD (g : LHeld) : D := .ag [.e (.lit (.int .i64 g.1)), .e (.lit (.string g.2))]
section
variable {vs : List (Nat × List D)} {lv : List (Nat × Nat × Nat × TypeId)} {N k : Nat}
theorem h_known1 (n : Int) (g : LHeld) (hk : vs.lookup k = some [.e (.lit (.int .i64 n))]) (hN : k < N) :
    HC Try.prog 59 [hD g, .pt k 0] ⟨vs, lv, N⟩ (.e (.lit (.bool (decide (g.1 = n))))) ⟨vs, lv, N⟩ := by
  unfold hD
  refine HC.of (rs := [.tmp 3]) tok Try.func59 rfl rfl (Nat.le_of_ble_eq_true rfl) rfl (fun cx hx h0 hok => ?_)
  simp only [argsT]
  repeat refine AW.seq ?_
  first | refine AW.region tok (by rw [hx]; kernel_rfl) (fun K hK => ?_) | refine AW.draw tok (by kernel_rfl) (by rw [hx]; kernel_rfl) (by kernel_rfl) (fun K hK => ?_)
  simp (maxSteps := 2000000) (disch := omega) only [sim_all, ↓fieldOff_eq, ↓newsV_eq, ↓sliceV_eq, ↓lenV_eq, seval, Ty.agg, tb_all, hk, beq_lt0 hN, beq_lt hN, beq_gt0 hN, beq_gt hN]
  repeat refine And.intro (by omega) ?_
  refine hK _ _ ?_
  clear hK
  dsimp only
  repeat refine AW.seq ?_
  first | refine AW.region tok (by rw [hx]; kernel_rfl) (fun K hK => ?_) | refine AW.draw tok (by kernel_rfl) (by rw [hx]; kernel_rfl) (by kernel_rfl) (fun K hK => ?_)
  simp (maxSteps := 2000000) (disch := omega) only [sim_all, ↓fieldOff_eq, ↓newsV_eq, ↓sliceV_eq, ↓lenV_eq, seval, Ty.agg, tb_all, hk, beq_lt0 hN, beq_lt hN, beq_gt0 hN, beq_gt hN]
  repeat refine And.intro (by omega) ?_
  refine hK _ _ ?_
  clear hK
  dsimp only
  refine AW.ret ?_
  dsimp only
  refine ⟨[(3, .e (.lit (.bool (decide (g.1 = n)))))], ?_, ?_⟩
  rotate_left
  simp only [RetH, resD, exists_eq, exists_eq', sim_all, ↓fieldOff_eq, ↓newsV_eq, ↓sliceV_eq, ↓lenV_eq, seval, Ty.agg, tb_all, hk, beq_lt0 hN, beq_lt hN, beq_gt0 hN, beq_gt hN]
  apply Wk.fin (ks := []) (kl := []) h0 hok
  case hN => omega
  case hm => omega
  case hv => repeat first | exact TgtV.base | (refine TgtV.cons ⟨by omega, ?_, ?_⟩ ?_; (focus (simp (maxSteps := 2000000) (disch := omega) only [sim_all, ↓fieldOff_eq, ↓newsV_eq, ↓sliceV_eq, ↓lenV_eq, seval, Ty.agg, tb_all, hk, beq_lt0 hN, beq_lt hN, beq_gt0 hN, beq_gt hN, wksL, D.leC, D.e.injEq, E.sl.injEq, exists_eq_right, exists_eq_right', D.idsB, D.idsC, decide_eq_true_eq, List.all_cons, List.all_nil, true_or, or_true]; done)); (focus (simp (maxSteps := 2000000) (disch := omega) only [sim_all, ↓fieldOff_eq, ↓newsV_eq, ↓sliceV_eq, ↓lenV_eq, seval, Ty.agg, tb_all, hk, beq_lt0 hN, beq_lt hN, beq_gt0 hN, beq_gt hN, wksL, D.leC, D.e.injEq, E.sl.injEq, exists_eq_right, exists_eq_right', D.idsB, D.idsC, decide_eq_true_eq, List.all_cons, List.all_nil, true_or, or_true]; done)))
  case hc => repeat first | exact Cov.base | refine Cov.cons (by first | (left; omega) | (right; simp)) ?_
  case hl => repeat first | exact TgtL.base | (refine TgtL.cons ⟨by omega, ?_⟩ ?_; (focus (simp (maxSteps := 2000000) (disch := omega) only [sim_all, ↓fieldOff_eq, ↓newsV_eq, ↓sliceV_eq, ↓lenV_eq, seval, Ty.agg, tb_all, hk, beq_lt0 hN, beq_lt hN, beq_gt0 hN, beq_gt hN, wksL, D.leC, D.e.injEq, E.sl.injEq, exists_eq_right, exists_eq_right', D.idsB, D.idsC, decide_eq_true_eq, List.all_cons, List.all_nil, true_or, or_true]; done)))
  case hcl => repeat first | exact Cov.base | refine Cov.cons (by first | (left; omega) | (right; simp)) ?_
  all_goals simp (maxSteps := 2000000) (disch := omega) only [sim_all, ↓fieldOff_eq, ↓newsV_eq, ↓sliceV_eq, ↓lenV_eq, seval, Ty.agg, tb_all, hk, beq_lt0 hN, beq_lt hN, beq_gt0 hN, beq_gt hN, wksL, D.leC, D.e.injEq, E.sl.injEq, exists_eq_right, exists_eq_right', D.idsB, D.idsC, decide_eq_true_eq, List.all_cons, List.all_nil, true_or, or_true]
  all_goals (try omega)
/-- The first index at which p holds, or -1. -/
def findI (p : Nat → Bool) (n : Nat) : Int := match (List.range n).find? p with | some i => i | none => -1
theorem h_index (f : FuncId) (ks : List Nat) (p : Nat → Bool) (n : Nat) (xs : List E) (hxs : xs.length = n * 2) (hks : ks.all (fun k => decide (k < N)) = true) (hn : n ≤ 1000000)
    (hp : ∀ i, i < n → HC Try.prog f (.ag [.e (xs.getD (i * 2) .any), .e (xs.getD (i * 2 + 1) .any)] :: ks.map fun k => .pt k 0) ⟨vs, lv, N⟩ (.e (.lit (.bool (p i)))) ⟨vs, lv, N⟩) :
    HC Try.prog 68 [.e (.sl 2 n xs), .fn f ks] ⟨vs, lv, N⟩ (.e (.lit (.int .i64 (findI p n)))) ⟨vs, lv, N⟩ := by
  refine HC.of (rs := [.tmp 4]) tok Try.func68 rfl rfl (Nat.le_of_ble_eq_true rfl) rfl (fun cx hx h0 hok => ?_)
  simp only [argsT]
  repeat refine AW.seq ?_
  first | refine AW.region tok (by rw [hx]; kernel_rfl) (fun K hK => ?_) | refine AW.draw tok (by kernel_rfl) (by rw [hx]; kernel_rfl) (by kernel_rfl) (fun K hK => ?_)
  simp (maxSteps := 2000000) (disch := omega) only [sim_all, ↓fieldOff_eq, ↓newsV_eq, ↓sliceV_eq, ↓lenV_eq, seval, Ty.agg, tb_all]
  repeat refine And.intro (by omega) ?_
  refine hK _ _ ?_
  clear hK
  dsimp only
  repeat refine AW.seq ?_
  first | refine AW.region tok (by rw [hx]; kernel_rfl) (fun K hK => ?_) | refine AW.draw tok (by kernel_rfl) (by rw [hx]; kernel_rfl) (by kernel_rfl) (fun K hK => ?_)
  simp (maxSteps := 2000000) (disch := omega) only [sim_all, ↓fieldOff_eq, ↓newsV_eq, ↓sliceV_eq, ↓lenV_eq, seval, Ty.agg, tb_all]
  repeat refine And.intro (by omega) ?_
  refine hK _ _ ?_
  clear hK
  dsimp only
  repeat refine AW.seq ?_
  refine AW.block ?_
  refine AW.loopW (fun i : Nat => [(8, .e (.lit (.int .i64 i))), (7, .e (.lit (.int .i64 n))), (1, .fn f ks), (0, .e (.sl 2 n xs))])
      (fun _ => ⟨vs, lv, N⟩) (fun i => i ≤ n ∧ ∀ j, j < i → p j = false) (fun i => n - i) 0 ?_ ⟨Nat.zero_le _, fun j hj => absurd hj (Nat.not_lt_zero _)⟩ ?_
  · skip
    apply Wk.fin (ks := []) (kl := []) h0 hok
    case hN => omega
    case hm => omega
    case hv => repeat first | exact TgtV.base | (refine TgtV.cons ⟨by omega, ?_, ?_⟩ ?_; (focus (simp (maxSteps := 2000000) (disch := omega) only [sim_all, ↓fieldOff_eq, ↓newsV_eq, ↓sliceV_eq, ↓lenV_eq, seval, Ty.agg, tb_all, hks, Int.natCast_zero, wksL, D.leC, D.e.injEq, E.sl.injEq, exists_eq_right, exists_eq_right', D.idsB, D.idsC, decide_eq_true_eq, List.all_cons, List.all_nil, true_or, or_true]; done)); (focus (simp (maxSteps := 2000000) (disch := omega) only [sim_all, ↓fieldOff_eq, ↓newsV_eq, ↓sliceV_eq, ↓lenV_eq, seval, Ty.agg, tb_all, hks, Int.natCast_zero, wksL, D.leC, D.e.injEq, E.sl.injEq, exists_eq_right, exists_eq_right', D.idsB, D.idsC, decide_eq_true_eq, List.all_cons, List.all_nil, true_or, or_true]; done)))
    case hc => repeat first | exact Cov.base | refine Cov.cons (by first | (left; omega) | (right; simp)) ?_
    case hl => repeat first | exact TgtL.base | (refine TgtL.cons ⟨by omega, ?_⟩ ?_; (focus (simp (maxSteps := 2000000) (disch := omega) only [sim_all, ↓fieldOff_eq, ↓newsV_eq, ↓sliceV_eq, ↓lenV_eq, seval, Ty.agg, tb_all, hks, Int.natCast_zero, wksL, D.leC, D.e.injEq, E.sl.injEq, exists_eq_right, exists_eq_right', D.idsB, D.idsC, decide_eq_true_eq, List.all_cons, List.all_nil, true_or, or_true]; done)))
    case hcl => repeat first | exact Cov.base | refine Cov.cons (by first | (left; omega) | (right; simp)) ?_
    all_goals simp (maxSteps := 2000000) (disch := omega) only [sim_all, ↓fieldOff_eq, ↓newsV_eq, ↓sliceV_eq, ↓lenV_eq, seval, Ty.agg, tb_all, hks, Int.natCast_zero, wksL, D.leC, D.e.injEq, E.sl.injEq, exists_eq_right, exists_eq_right', D.idsB, D.idsC, decide_eq_true_eq, List.all_cons, List.all_nil, true_or, or_true]
    all_goals (try omega)
  · intro i ⟨hi, hlow⟩
    by_cases hlt : i < n
    · have hi1 : (i : Int) < n := by omega
      repeat refine AW.seq ?_
      first | refine AW.region tok (by rw [hx]; kernel_rfl) (fun K hK => ?_) | refine AW.draw tok (by kernel_rfl) (by rw [hx]; kernel_rfl) (by kernel_rfl) (fun K hK => ?_)
      simp (maxSteps := 2000000) (disch := omega) only [sim_all, ↓fieldOff_eq, ↓newsV_eq, ↓sliceV_eq, ↓lenV_eq, seval, Ty.agg, tb_all, hi1]
      repeat refine And.intro (by omega) ?_
      refine hK _ _ ?_
      clear hK
      dsimp only
      repeat refine AW.seq ?_
      refine AW.cond (b := true) (by rfl) ?_
      dsimp only
      refine AW.skip ?_
      dsimp only
      repeat refine AW.seq ?_
      refine AW.block ?_
      repeat refine AW.seq ?_
      first | refine AW.region tok (by rw [hx]; kernel_rfl) (fun K hK => ?_) | refine AW.draw tok (by kernel_rfl) (by rw [hx]; kernel_rfl) (by kernel_rfl) (fun K hK => ?_)
      simp (maxSteps := 2000000) (disch := omega) only [sim_all, ↓fieldOff_eq, ↓newsV_eq, ↓sliceV_eq, ↓lenV_eq, seval, Ty.agg, tb_all]
      repeat refine And.intro (by omega) ?_
      refine hK _ _ ?_
      clear hK
      dsimp only
      repeat refine AW.seq ?_
      first | refine AW.region tok (by rw [hx]; kernel_rfl) (fun K hK => ?_) | refine AW.draw tok (by kernel_rfl) (by rw [hx]; kernel_rfl) (by kernel_rfl) (fun K hK => ?_)
      simp (maxSteps := 2000000) (disch := omega) only [sim_all, ↓fieldOff_eq, ↓newsV_eq, ↓sliceV_eq, ↓lenV_eq, seval, Ty.agg, tb_all, hi1]
      repeat refine And.intro (by omega) ?_
      refine callH_of (hp i hlt) (by first | rfl | kernel_rfl) ?_
      simp (maxSteps := 2000000) (disch := omega) only [sim_all, ↓fieldOff_eq, ↓newsV_eq, ↓sliceV_eq, ↓lenV_eq, seval, Ty.agg, tb_all]
      repeat refine And.intro (by omega) ?_
      refine hK _ _ ?_
      clear hK
      dsimp only
      repeat refine AW.seq ?_
      refine AW.condS rfl (fun h => ?_) (fun h => ?_)
      · have h1 : p i = true := h
        have hf : findI p n = i := by
          unfold findI
          have : (List.range n).find? p = some i := by
            rw [List.find?_range_eq_some]
            exact ⟨h1, List.mem_range.2 hlt, fun j hj => by rw [hlow j hj]; rfl⟩
          rw [this]
        rw [hf]
        repeat refine AW.seq ?_
        first | refine AW.region tok (by rw [hx]; kernel_rfl) (fun K hK => ?_) | refine AW.draw tok (by kernel_rfl) (by rw [hx]; kernel_rfl) (by kernel_rfl) (fun K hK => ?_)
        simp (maxSteps := 2000000) (disch := omega) only [sim_all, ↓fieldOff_eq, ↓newsV_eq, ↓sliceV_eq, ↓lenV_eq, seval, Ty.agg, tb_all]
        repeat refine And.intro (by omega) ?_
        refine hK _ _ ?_
        clear hK
        dsimp only
        refine AW.ret ?_
        dsimp only
        refine ⟨[(4, .e (.lit (.int .i64 i)))], ?_, ?_⟩
        rotate_left
        simp only [RetH, resD, exists_eq, exists_eq', sim_all, ↓fieldOff_eq, ↓newsV_eq, ↓sliceV_eq, ↓lenV_eq, seval, Ty.agg, tb_all]
        apply Wk.fin (ks := []) (kl := []) h0 hok
        case hN => omega
        case hm => omega
        case hv => repeat first | exact TgtV.base | (refine TgtV.cons ⟨by omega, ?_, ?_⟩ ?_; (focus (simp (maxSteps := 2000000) (disch := omega) only [sim_all, ↓fieldOff_eq, ↓newsV_eq, ↓sliceV_eq, ↓lenV_eq, seval, Ty.agg, tb_all, wksL, D.leC, D.e.injEq, E.sl.injEq, exists_eq_right, exists_eq_right', D.idsB, D.idsC, decide_eq_true_eq, List.all_cons, List.all_nil, true_or, or_true]; done)); (focus (simp (maxSteps := 2000000) (disch := omega) only [sim_all, ↓fieldOff_eq, ↓newsV_eq, ↓sliceV_eq, ↓lenV_eq, seval, Ty.agg, tb_all, wksL, D.leC, D.e.injEq, E.sl.injEq, exists_eq_right, exists_eq_right', D.idsB, D.idsC, decide_eq_true_eq, List.all_cons, List.all_nil, true_or, or_true]; done)))
        case hc => repeat first | exact Cov.base | refine Cov.cons (by first | (left; omega) | (right; simp)) ?_
        case hl => repeat first | exact TgtL.base | (refine TgtL.cons ⟨by omega, ?_⟩ ?_; (focus (simp (maxSteps := 2000000) (disch := omega) only [sim_all, ↓fieldOff_eq, ↓newsV_eq, ↓sliceV_eq, ↓lenV_eq, seval, Ty.agg, tb_all, wksL, D.leC, D.e.injEq, E.sl.injEq, exists_eq_right, exists_eq_right', D.idsB, D.idsC, decide_eq_true_eq, List.all_cons, List.all_nil, true_or, or_true]; done)))
        case hcl => repeat first | exact Cov.base | refine Cov.cons (by first | (left; omega) | (right; simp)) ?_
        all_goals simp (maxSteps := 2000000) (disch := omega) only [sim_all, ↓fieldOff_eq, ↓newsV_eq, ↓sliceV_eq, ↓lenV_eq, seval, Ty.agg, tb_all, wksL, D.leC, D.e.injEq, E.sl.injEq, exists_eq_right, exists_eq_right', D.idsB, D.idsC, decide_eq_true_eq, List.all_cons, List.all_nil, true_or, or_true]
        all_goals (try omega)
      · have h1 : p i = false := h
        refine AW.skip ?_
        dsimp only
        repeat refine AW.seq ?_
        first | refine AW.region tok (by rw [hx]; kernel_rfl) (fun K hK => ?_) | refine AW.draw tok (by kernel_rfl) (by rw [hx]; kernel_rfl) (by kernel_rfl) (fun K hK => ?_)
        simp (maxSteps := 2000000) (disch := omega) only [sim_all, ↓fieldOff_eq, ↓newsV_eq, ↓sliceV_eq, ↓lenV_eq, seval, Ty.agg, tb_all, wrap_id]
        repeat refine And.intro (by omega) ?_
        refine hK _ _ ?_
        clear hK
        dsimp only
        refine ⟨i + 1, ?_, ⟨by omega, fun j hj => ?_⟩, by omega⟩
        · skip
          apply Wk.fin (ks := []) (kl := []) h0 hok
          case hN => omega
          case hm => omega
          case hv => repeat first | exact TgtV.base | (refine TgtV.cons ⟨by omega, ?_, ?_⟩ ?_; (focus (simp (maxSteps := 2000000) (disch := omega) only [sim_all, ↓fieldOff_eq, ↓newsV_eq, ↓sliceV_eq, ↓lenV_eq, seval, Ty.agg, tb_all, hks, Int.natCast_add, Int.cast_ofNat_Int, wksL, D.leC, D.e.injEq, E.sl.injEq, exists_eq_right, exists_eq_right', D.idsB, D.idsC, decide_eq_true_eq, List.all_cons, List.all_nil, true_or, or_true]; done)); (focus (simp (maxSteps := 2000000) (disch := omega) only [sim_all, ↓fieldOff_eq, ↓newsV_eq, ↓sliceV_eq, ↓lenV_eq, seval, Ty.agg, tb_all, hks, Int.natCast_add, Int.cast_ofNat_Int, wksL, D.leC, D.e.injEq, E.sl.injEq, exists_eq_right, exists_eq_right', D.idsB, D.idsC, decide_eq_true_eq, List.all_cons, List.all_nil, true_or, or_true]; done)))
          case hc => repeat first | exact Cov.base | refine Cov.cons (by first | (left; omega) | (right; simp)) ?_
          case hl => repeat first | exact TgtL.base | (refine TgtL.cons ⟨by omega, ?_⟩ ?_; (focus (simp (maxSteps := 2000000) (disch := omega) only [sim_all, ↓fieldOff_eq, ↓newsV_eq, ↓sliceV_eq, ↓lenV_eq, seval, Ty.agg, tb_all, hks, Int.natCast_add, Int.cast_ofNat_Int, wksL, D.leC, D.e.injEq, E.sl.injEq, exists_eq_right, exists_eq_right', D.idsB, D.idsC, decide_eq_true_eq, List.all_cons, List.all_nil, true_or, or_true]; done)))
          case hcl => repeat first | exact Cov.base | refine Cov.cons (by first | (left; omega) | (right; simp)) ?_
          all_goals simp (maxSteps := 2000000) (disch := omega) only [sim_all, ↓fieldOff_eq, ↓newsV_eq, ↓sliceV_eq, ↓lenV_eq, seval, Ty.agg, tb_all, hks, Int.natCast_add, Int.cast_ofNat_Int, wksL, D.leC, D.e.injEq, E.sl.injEq, exists_eq_right, exists_eq_right', D.idsB, D.idsC, decide_eq_true_eq, List.all_cons, List.all_nil, true_or, or_true]
          all_goals (try omega)
        · rcases Nat.lt_or_ge j i with h2 | h2
          · exact hlow j h2
          · obtain rfl : j = i := by omega
            exact h1
    · have hi1 : ¬ (i : Int) < n := by omega
      repeat refine AW.seq ?_
      first | refine AW.region tok (by rw [hx]; kernel_rfl) (fun K hK => ?_) | refine AW.draw tok (by kernel_rfl) (by rw [hx]; kernel_rfl) (by kernel_rfl) (fun K hK => ?_)
      simp (maxSteps := 2000000) (disch := omega) only [sim_all, ↓fieldOff_eq, ↓newsV_eq, ↓sliceV_eq, ↓lenV_eq, seval, Ty.agg, tb_all, hi1]
      repeat refine And.intro (by omega) ?_
      refine hK _ _ ?_
      clear hK
      dsimp only
      repeat refine AW.seq ?_
      refine AW.cond (b := false) (by rfl) ?_
      dsimp only
      refine AW.exit ?_
      dsimp only
      simp only [if_true]
      have hf : findI p n = -1 := by
        unfold findI
        have : (List.range n).find? p = none := by
          rw [List.find?_range_eq_none]
          exact fun j hj => by rw [hlow j (by omega)]; rfl
        rw [this]
      rw [hf]
      repeat refine AW.seq ?_
      first | refine AW.region tok (by rw [hx]; kernel_rfl) (fun K hK => ?_) | refine AW.draw tok (by kernel_rfl) (by rw [hx]; kernel_rfl) (by kernel_rfl) (fun K hK => ?_)
      simp (maxSteps := 2000000) (disch := omega) only [sim_all, ↓fieldOff_eq, ↓newsV_eq, ↓sliceV_eq, ↓lenV_eq, seval, Ty.agg, tb_all]
      repeat refine And.intro (by omega) ?_
      refine hK _ _ ?_
      clear hK
      dsimp only
      refine AW.ret ?_
      dsimp only
      refine ⟨[(4, .e (.lit (.int .i64 (-1))))], ?_, ?_⟩
      rotate_left
      simp only [RetH, resD, exists_eq, exists_eq', sim_all, ↓fieldOff_eq, ↓newsV_eq, ↓sliceV_eq, ↓lenV_eq, seval, Ty.agg, tb_all]
      apply Wk.fin (ks := []) (kl := []) h0 hok
      case hN => omega
      case hm => omega
      case hv => repeat first | exact TgtV.base | (refine TgtV.cons ⟨by omega, ?_, ?_⟩ ?_; (focus (simp (maxSteps := 2000000) (disch := omega) only [sim_all, ↓fieldOff_eq, ↓newsV_eq, ↓sliceV_eq, ↓lenV_eq, seval, Ty.agg, tb_all, wksL, D.leC, D.e.injEq, E.sl.injEq, exists_eq_right, exists_eq_right', D.idsB, D.idsC, decide_eq_true_eq, List.all_cons, List.all_nil, true_or, or_true]; done)); (focus (simp (maxSteps := 2000000) (disch := omega) only [sim_all, ↓fieldOff_eq, ↓newsV_eq, ↓sliceV_eq, ↓lenV_eq, seval, Ty.agg, tb_all, wksL, D.leC, D.e.injEq, E.sl.injEq, exists_eq_right, exists_eq_right', D.idsB, D.idsC, decide_eq_true_eq, List.all_cons, List.all_nil, true_or, or_true]; done)))
      case hc => repeat first | exact Cov.base | refine Cov.cons (by first | (left; omega) | (right; simp)) ?_
      case hl => repeat first | exact TgtL.base | (refine TgtL.cons ⟨by omega, ?_⟩ ?_; (focus (simp (maxSteps := 2000000) (disch := omega) only [sim_all, ↓fieldOff_eq, ↓newsV_eq, ↓sliceV_eq, ↓lenV_eq, seval, Ty.agg, tb_all, wksL, D.leC, D.e.injEq, E.sl.injEq, exists_eq_right, exists_eq_right', D.idsB, D.idsC, decide_eq_true_eq, List.all_cons, List.all_nil, true_or, or_true]; done)))
      case hcl => repeat first | exact Cov.base | refine Cov.cons (by first | (left; omega) | (right; simp)) ?_
      all_goals simp (maxSteps := 2000000) (disch := omega) only [sim_all, ↓fieldOff_eq, ↓newsV_eq, ↓sliceV_eq, ↓lenV_eq, seval, Ty.agg, tb_all, wksL, D.leC, D.e.injEq, E.sl.injEq, exists_eq_right, exists_eq_right', D.idsB, D.idsC, decide_eq_true_eq, List.all_cons, List.all_nil, true_or, or_true]
      all_goals (try omega)
theorem h_contains (f : FuncId) (ks : List Nat) (p : Nat → Bool) (n : Nat) (xs : List E) (hxs : xs.length = n * 2) (hks : ks.all (fun k => decide (k < N)) = true) (hn : n ≤ 1000000)
    (hp : ∀ i, i < n → HC Try.prog f (.ag [.e (xs.getD (i * 2) .any), .e (xs.getD (i * 2 + 1) .any)] :: ks.map fun k => .pt k 0) ⟨vs, lv, N⟩ (.e (.lit (.bool (p i)))) ⟨vs, lv, N⟩) :
    HC Try.prog 58 [.e (.sl 2 n xs), .fn f ks] ⟨vs, lv, N⟩ (.e (.lit (.bool (decide (0 ≤ findI p n))))) ⟨vs, lv, N⟩ := by
  refine HC.of (rs := [.tmp 4]) tok Try.func58 rfl rfl (Nat.le_of_ble_eq_true rfl) rfl (fun cx hx h0 hok => ?_)
  simp only [argsT]
  repeat refine AW.seq ?_
  first | refine AW.region tok (by rw [hx]; kernel_rfl) (fun K hK => ?_) | refine AW.draw tok (by kernel_rfl) (by rw [hx]; kernel_rfl) (by kernel_rfl) (fun K hK => ?_)
  simp (maxSteps := 2000000) (disch := omega) only [sim_all, ↓fieldOff_eq, ↓newsV_eq, ↓sliceV_eq, ↓lenV_eq, seval, Ty.agg, tb_all]
  repeat refine And.intro (by omega) ?_
  refine hK _ _ ?_
  clear hK
  dsimp only
  repeat refine AW.seq ?_
  first | refine AW.region tok (by rw [hx]; kernel_rfl) (fun K hK => ?_) | refine AW.draw tok (by kernel_rfl) (by rw [hx]; kernel_rfl) (by kernel_rfl) (fun K hK => ?_)
  simp (maxSteps := 2000000) (disch := omega) only [sim_all, ↓fieldOff_eq, ↓newsV_eq, ↓sliceV_eq, ↓lenV_eq, seval, Ty.agg, tb_all]
  repeat refine And.intro (by omega) ?_
  refine callH_of (h_index f ks p n xs hxs hks hn hp) (by first | rfl | kernel_rfl) ?_
  simp (maxSteps := 2000000) (disch := omega) only [sim_all, ↓fieldOff_eq, ↓newsV_eq, ↓sliceV_eq, ↓lenV_eq, seval, Ty.agg, tb_all]
  repeat refine And.intro (by omega) ?_
  refine hK _ _ ?_
  clear hK
  dsimp only
  refine AW.ret ?_
  dsimp only
  refine ⟨[(4, .e (.lit (.bool (decide (0 ≤ findI p n)))))], ?_, ?_⟩
  rotate_left
  simp only [RetH, resD, exists_eq, exists_eq', sim_all, ↓fieldOff_eq, ↓newsV_eq, ↓sliceV_eq, ↓lenV_eq, seval, Ty.agg, tb_all]
  apply Wk.fin (ks := []) (kl := []) h0 hok
  case hN => omega
  case hm => omega
  case hv => repeat first | exact TgtV.base | (refine TgtV.cons ⟨by omega, ?_, ?_⟩ ?_; (focus (simp (maxSteps := 2000000) (disch := omega) only [sim_all, ↓fieldOff_eq, ↓newsV_eq, ↓sliceV_eq, ↓lenV_eq, seval, Ty.agg, tb_all, wksL, D.leC, D.e.injEq, E.sl.injEq, exists_eq_right, exists_eq_right', D.idsB, D.idsC, decide_eq_true_eq, List.all_cons, List.all_nil, true_or, or_true]; done)); (focus (simp (maxSteps := 2000000) (disch := omega) only [sim_all, ↓fieldOff_eq, ↓newsV_eq, ↓sliceV_eq, ↓lenV_eq, seval, Ty.agg, tb_all, wksL, D.leC, D.e.injEq, E.sl.injEq, exists_eq_right, exists_eq_right', D.idsB, D.idsC, decide_eq_true_eq, List.all_cons, List.all_nil, true_or, or_true]; done)))
  case hc => repeat first | exact Cov.base | refine Cov.cons (by first | (left; omega) | (right; simp)) ?_
  case hl => repeat first | exact TgtL.base | (refine TgtL.cons ⟨by omega, ?_⟩ ?_; (focus (simp (maxSteps := 2000000) (disch := omega) only [sim_all, ↓fieldOff_eq, ↓newsV_eq, ↓sliceV_eq, ↓lenV_eq, seval, Ty.agg, tb_all, wksL, D.leC, D.e.injEq, E.sl.injEq, exists_eq_right, exists_eq_right', D.idsB, D.idsC, decide_eq_true_eq, List.all_cons, List.all_nil, true_or, or_true]; done)))
  case hcl => repeat first | exact Cov.base | refine Cov.cons (by first | (left; omega) | (right; simp)) ?_
  all_goals simp (maxSteps := 2000000) (disch := omega) only [sim_all, ↓fieldOff_eq, ↓newsV_eq, ↓sliceV_eq, ↓lenV_eq, seval, Ty.agg, tb_all, wksL, D.leC, D.e.injEq, E.sl.injEq, exists_eq_right, exists_eq_right', D.idsB, D.idsC, decide_eq_true_eq, List.all_cons, List.all_nil, true_or, or_true]
  all_goals (try omega)
theorem hE_length (l : List LHeld) : (hE l).length = l.length * 2 := by
  induction l with
  | nil => rfl
  | cons g l ih => simp only [hE, List.flatMap_cons, List.length_append, List.length_cons, List.length_nil] at ih ⊢; omega
theorem hE_drop : ∀ (l : List LHeld) (i : Nat), (hE l).drop (i * 2) = hE (l.drop i)
  | [], i => by simp [hE]
  | g :: l, 0 => rfl
  | g :: l, i + 1 => by
    have := hE_drop l i
    rw [show (i + 1) * 2 = i * 2 + 1 + 1 by omega]
    exact this
theorem hE_take : ∀ (l : List LHeld) (i : Nat), (hE l).take (i * 2) = hE (l.take i)
  | [], i => by simp [hE]
  | g :: l, 0 => rfl
  | g :: l, i + 1 => by
    have := hE_take l i
    rw [show (i + 1) * 2 = i * 2 + 1 + 1 by omega]
    show _ :: _ :: (hE l).take (i * 2) = _
    rw [this]
    rfl
theorem hE_append (l l' : List LHeld) : hE (l ++ l') = hE l ++ hE l' := by simp [hE]
theorem hE_get {l : List LHeld} {i : Nat} {g : LHeld} (h : l[i]? = some g) : (hE l).getD (i * 2) .any = .lit (.int .i64 g.1) ∧ (hE l).getD (i * 2 + 1) .any = .lit (.string g.2) := by
  have hd : (hE l).drop (i * 2) = .lit (.int .i64 g.1) :: .lit (.string g.2) :: hE (l.drop (i + 1)) := by
    rw [hE_drop]
    have hlt := (List.getElem?_eq_some_iff.1 h).1
    rw [List.drop_eq_getElem_cons hlt]
    have : l[i] = g := by rw [List.getElem?_eq_getElem hlt] at h; injection h
    rw [this]
    rfl
  have h1 : (hE l)[i * 2]? = some (.lit (.int .i64 g.1)) := by
    have := congrArg (·[0]?) hd
    simpa [List.getElem?_drop] using this
  have h2 : (hE l)[i * 2 + 1]? = some (.lit (.string g.2)) := by
    have := congrArg (·[1]?) hd
    simpa [List.getElem?_drop] using this
  exact ⟨by simp [List.getD, h1], by simp [List.getD, h2]⟩
def knownB (x : LEnd) (n : Int) : Bool := x.held.any fun g => decide (g.1 = n)
theorem findI_any (l : List LHeld) (n : Int) : decide (0 ≤ findI (fun i => decide ((l.getD i (0, .empty)).1 = n)) l.length) = l.any fun g => decide (g.1 = n) := by
  rw [Bool.eq_iff_iff]
  simp only [decide_eq_true_eq, List.any_eq_true]
  unfold findI
  constructor
  · intro h
    split at h
    · rename_i i hi
      rw [List.find?_range_eq_some] at hi
      have hlt : i < l.length := List.mem_range.1 hi.2.1
      refine ⟨l[i], List.getElem_mem hlt, ?_⟩
      have := hi.1
      simpa [List.getD, List.getElem?_eq_getElem hlt] using this
    · omega
  · rintro ⟨g, hg, hgn⟩
    split
    · omega
    · rename_i hn
      rw [List.find?_range_eq_none] at hn
      obtain ⟨i, hi⟩ := List.getElem?_of_mem hg
      have hlt := (List.getElem?_eq_some_iff.1 hi).1
      have := hn i hlt
      simp [List.getD, hi, hgn] at this
theorem h_knownP (x : LEnd) (n : Int) (i : Nat) (hi : i < x.held.length) :
    HC Try.prog 59 (.ag [.e ((hE x.held).getD (i * 2) .any), .e ((hE x.held).getD (i * 2 + 1) .any)] :: [N].map fun k => .pt k 0) ⟨(N, [.e (.lit (.int .i64 n))]) :: vs, lv, N + 1⟩ (.e (.lit (.bool (decide ((x.held.getD i (0, .empty)).1 = n))))) ⟨(N, [.e (.lit (.int .i64 n))]) :: vs, lv, N + 1⟩ := by
  have hi' : x.held[i]? = some (x.held[i]) := List.getElem?_eq_getElem hi
  obtain ⟨h1, h2⟩ := hE_get hi'
  rw [h1, h2]
  have h3 : x.held.getD i (0, .empty) = x.held[i] := by simp [List.getD, hi']
  rw [h3]
  exact h_known1 n x.held[i] lookup_cons_eq (Nat.lt_succ_self N)
theorem h_known (x : LEnd) (n : Int) (hl : x.held.length ≤ 7) (hk : vs.lookup k = some (endC x)) (hN : k < N) :
    HC Try.prog 38 [.pt k 0, .e (.lit (.int .i64 n))] ⟨vs, lv, N⟩ (.e (.lit (.bool (knownB x n)))) ⟨vs, lv, N⟩ := by
  unfold endC at hk
  refine HC.of (rs := [.tmp 4]) tok Try.func38 rfl rfl (Nat.le_of_ble_eq_true rfl) rfl (fun cx hx h0 hok => ?_)
  simp only [argsT]
  repeat refine AW.seq ?_
  first | refine AW.region tok (by rw [hx]; kernel_rfl) (fun K hK => ?_) | refine AW.draw tok (by kernel_rfl) (by rw [hx]; kernel_rfl) (by kernel_rfl) (fun K hK => ?_)
  simp (maxSteps := 2000000) (disch := omega) only [sim_all, ↓fieldOff_eq, ↓newsV_eq, ↓sliceV_eq, ↓lenV_eq, seval, Ty.agg, tb_all, hk, beq_lt0 hN, beq_lt hN, beq_gt0 hN, beq_gt hN]
  repeat refine And.intro (by omega) ?_
  refine hK _ _ ?_
  clear hK
  dsimp only
  repeat refine AW.seq ?_
  first | refine AW.region tok (by rw [hx]; kernel_rfl) (fun K hK => ?_) | refine AW.draw tok (by kernel_rfl) (by rw [hx]; kernel_rfl) (by kernel_rfl) (fun K hK => ?_)
  simp (maxSteps := 2000000) (disch := omega) only [sim_all, ↓fieldOff_eq, ↓newsV_eq, ↓sliceV_eq, ↓lenV_eq, seval, Ty.agg, tb_all, hk, beq_lt0 hN, beq_lt hN, beq_gt0 hN, beq_gt hN]
  repeat refine And.intro (by omega) ?_
  refine callH_of (h_contains 59 [N] (fun i => decide ((x.held.getD i (0, .empty)).1 = n)) x.held.length (hE x.held) (hE_length _) (by simp) (by omega) (fun i hi => h_knownP x n i hi)) (by first | rfl | kernel_rfl) ?_
  simp (maxSteps := 2000000) (disch := omega) only [sim_all, ↓fieldOff_eq, ↓newsV_eq, ↓sliceV_eq, ↓lenV_eq, seval, Ty.agg, tb_all, hk, beq_lt0 hN, beq_lt hN, beq_gt0 hN, beq_gt hN]
  repeat refine And.intro (by omega) ?_
  refine hK _ _ ?_
  clear hK
  dsimp only
  rw [findI_any, show (x.held.any fun g => decide (g.1 = n)) = knownB x n from rfl]
  refine AW.ret ?_
  dsimp only
  refine ⟨[(4, .e (.lit (.bool (knownB x n))))], ?_, ?_⟩
  rotate_left
  simp only [RetH, resD, exists_eq, exists_eq', sim_all, ↓fieldOff_eq, ↓newsV_eq, ↓sliceV_eq, ↓lenV_eq, seval, Ty.agg, tb_all, hk, beq_lt0 hN, beq_lt hN, beq_gt0 hN, beq_gt hN]
  apply Wk.fin (ks := []) (kl := []) h0 hok
  case hN => omega
  case hm => omega
  case hv => repeat first | exact TgtV.base | (refine TgtV.cons ⟨by omega, ?_, ?_⟩ ?_; (focus (simp (maxSteps := 2000000) (disch := omega) only [sim_all, ↓fieldOff_eq, ↓newsV_eq, ↓sliceV_eq, ↓lenV_eq, seval, Ty.agg, tb_all, hk, beq_lt0 hN, beq_lt hN, beq_gt0 hN, beq_gt hN, wksL, D.leC, D.e.injEq, E.sl.injEq, exists_eq_right, exists_eq_right', D.idsB, D.idsC, decide_eq_true_eq, List.all_cons, List.all_nil, true_or, or_true]; done)); (focus (simp (maxSteps := 2000000) (disch := omega) only [sim_all, ↓fieldOff_eq, ↓newsV_eq, ↓sliceV_eq, ↓lenV_eq, seval, Ty.agg, tb_all, hk, beq_lt0 hN, beq_lt hN, beq_gt0 hN, beq_gt hN, wksL, D.leC, D.e.injEq, E.sl.injEq, exists_eq_right, exists_eq_right', D.idsB, D.idsC, decide_eq_true_eq, List.all_cons, List.all_nil, true_or, or_true]; done)))
  case hc => repeat first | exact Cov.base | refine Cov.cons (by first | (left; omega) | (right; simp)) ?_
  case hl => repeat first | exact TgtL.base | (refine TgtL.cons ⟨by omega, ?_⟩ ?_; (focus (simp (maxSteps := 2000000) (disch := omega) only [sim_all, ↓fieldOff_eq, ↓newsV_eq, ↓sliceV_eq, ↓lenV_eq, seval, Ty.agg, tb_all, hk, beq_lt0 hN, beq_lt hN, beq_gt0 hN, beq_gt hN, wksL, D.leC, D.e.injEq, E.sl.injEq, exists_eq_right, exists_eq_right', D.idsB, D.idsC, decide_eq_true_eq, List.all_cons, List.all_nil, true_or, or_true]; done)))
  case hcl => repeat first | exact Cov.base | refine Cov.cons (by first | (left; omega) | (right; simp)) ?_
  all_goals simp (maxSteps := 2000000) (disch := omega) only [sim_all, ↓fieldOff_eq, ↓newsV_eq, ↓sliceV_eq, ↓lenV_eq, seval, Ty.agg, tb_all, hk, beq_lt0 hN, beq_lt hN, beq_gt0 hN, beq_gt hN, wksL, D.leC, D.e.injEq, E.sl.injEq, exists_eq_right, exists_eq_right', D.idsB, D.idsC, decide_eq_true_eq, List.all_cons, List.all_nil, true_or, or_true]
  all_goals (try omega)
def frC (f : LFrame) : List D := [.e (.lit (.int .i64 f.seq)), .e (.lit (.int .i64 f.ack)), .e (.lit (.string f.data))]
def ackd (x : LEnd) (f : LFrame) : LEnd := { x with base := f.ack, queue := x.queue.drop (f.ack - x.base).toNat }
theorem h_acknowledge (x : LEnd) (f : LFrame) (h1 : x.base ≤ f.ack) (h2 : f.ack ≤ x.base + x.queue.length) (hq : x.queue.length ≤ 64) (hb : 1 ≤ x.base ∧ x.base ≤ 1099511627776) (hk : vs.lookup k = some (endC x)) (hN : k < N) :
    HC Try.prog 36 [.pt k 0, frD f] ⟨vs, lv, N⟩ (.e (.sl 1 0 [])) ⟨(k, endC (ackd x f)) :: vs, lv, N⟩ := by
  unfold frD endC ackd
  unfold endC at hk
  have hd : ∀ m : Nat, m = (f.ack - x.base).toNat → (((x.queue.map sE).drop (m * 1)).take (((x.queue.length : Int) - (f.ack - x.base)).toNat * 1)) = (x.queue.drop (f.ack - x.base).toNat).map sE ∧ ((x.queue.length : Int) - (f.ack - x.base)).toNat = (x.queue.drop (f.ack - x.base).toNat).length := by
    intro m hm
    subst hm
    refine ⟨?_, by rw [List.length_drop]; omega⟩
    simp only [Nat.mul_one]
    rw [List.take_of_length_le (by rw [List.length_drop, List.length_map]; omega), List.map_drop]
  obtain ⟨hd1, hd2⟩ := hd _ rfl
  simp only [Nat.mul_one] at hd1
  rw [hd2] at hd1
  refine HC.of (rs := [.tmp 4]) tok Try.func36 rfl rfl (Nat.le_of_ble_eq_true rfl) rfl (fun cx hx h0 hok => ?_)
  simp only [argsT]
  repeat refine AW.seq ?_
  first | refine AW.region tok (by rw [hx]; kernel_rfl) (fun K hK => ?_) | refine AW.draw tok (by kernel_rfl) (by rw [hx]; kernel_rfl) (by kernel_rfl) (fun K hK => ?_)
  simp (maxSteps := 2000000) (disch := omega) only [sim_all, ↓fieldOff_eq, ↓newsV_eq, ↓sliceV_eq, ↓lenV_eq, seval, Ty.agg, tb_all, hk, beq_lt0 hN, beq_lt hN, beq_gt0 hN, beq_gt hN]
  repeat refine And.intro (by omega) ?_
  refine hK _ _ ?_
  clear hK
  dsimp only
  repeat refine AW.seq ?_
  first | refine AW.region tok (by rw [hx]; kernel_rfl) (fun K hK => ?_) | refine AW.draw tok (by kernel_rfl) (by rw [hx]; kernel_rfl) (by kernel_rfl) (fun K hK => ?_)
  simp (maxSteps := 2000000) (disch := omega) only [sim_all, ↓fieldOff_eq, ↓newsV_eq, ↓sliceV_eq, ↓lenV_eq, seval, Ty.agg, tb_all, wrap_id, hd1, hd2, hk, beq_lt0 hN, beq_lt hN, beq_gt0 hN, beq_gt hN]
  repeat refine And.intro (by omega) ?_
  refine hK _ _ ?_
  clear hK
  dsimp only
  repeat refine AW.seq ?_
  first | refine AW.region tok (by rw [hx]; kernel_rfl) (fun K hK => ?_) | refine AW.draw tok (by kernel_rfl) (by rw [hx]; kernel_rfl) (by kernel_rfl) (fun K hK => ?_)
  simp (maxSteps := 2000000) (disch := omega) only [sim_all, ↓fieldOff_eq, ↓newsV_eq, ↓sliceV_eq, ↓lenV_eq, seval, Ty.agg, tb_all, hk, beq_lt0 hN, beq_lt hN, beq_gt0 hN, beq_gt hN]
  repeat refine And.intro (by omega) ?_
  refine hK _ _ ?_
  clear hK
  dsimp only
  repeat refine AW.seq ?_
  first | refine AW.region tok (by rw [hx]; kernel_rfl) (fun K hK => ?_) | refine AW.draw tok (by kernel_rfl) (by rw [hx]; kernel_rfl) (by kernel_rfl) (fun K hK => ?_)
  simp (maxSteps := 2000000) (disch := omega) only [sim_all, ↓fieldOff_eq, ↓newsV_eq, ↓sliceV_eq, ↓lenV_eq, seval, Ty.agg, tb_all, hk, beq_lt0 hN, beq_lt hN, beq_gt0 hN, beq_gt hN]
  repeat refine And.intro (by omega) ?_
  refine hK _ _ ?_
  clear hK
  dsimp only
  refine AW.ret ?_
  dsimp only
  refine ⟨[(4, .e (.sl 1 0 []))], ?_, ?_⟩
  rotate_left
  simp only [RetH, resD, exists_eq, exists_eq', sim_all, ↓fieldOff_eq, ↓newsV_eq, ↓sliceV_eq, ↓lenV_eq, seval, Ty.agg, tb_all, hk, beq_lt0 hN, beq_lt hN, beq_gt0 hN, beq_gt hN]
  apply Wk.fin (ks := [k]) (kl := []) h0 hok
  case hN => omega
  case hm => omega
  case hv => repeat first | exact TgtV.base | (refine TgtV.cons ⟨by omega, ?_, ?_⟩ ?_; (focus (simp (maxSteps := 2000000) (disch := omega) only [sim_all, ↓fieldOff_eq, ↓newsV_eq, ↓sliceV_eq, ↓lenV_eq, seval, Ty.agg, tb_all, hk, beq_lt0 hN, beq_lt hN, beq_gt0 hN, beq_gt hN, wksL, D.leC, D.e.injEq, E.sl.injEq, exists_eq_right, exists_eq_right', D.idsB, D.idsC, decide_eq_true_eq, List.all_cons, List.all_nil, true_or, or_true]; done)); (focus (simp (maxSteps := 2000000) (disch := omega) only [sim_all, ↓fieldOff_eq, ↓newsV_eq, ↓sliceV_eq, ↓lenV_eq, seval, Ty.agg, tb_all, hk, beq_lt0 hN, beq_lt hN, beq_gt0 hN, beq_gt hN, wksL, D.leC, D.e.injEq, E.sl.injEq, exists_eq_right, exists_eq_right', D.idsB, D.idsC, decide_eq_true_eq, List.all_cons, List.all_nil, true_or, or_true]; done)))
  case hc => repeat first | exact Cov.base | refine Cov.cons (by first | (left; omega) | (right; simp)) ?_
  case hl => repeat first | exact TgtL.base | (refine TgtL.cons ⟨by omega, ?_⟩ ?_; (focus (simp (maxSteps := 2000000) (disch := omega) only [sim_all, ↓fieldOff_eq, ↓newsV_eq, ↓sliceV_eq, ↓lenV_eq, seval, Ty.agg, tb_all, hk, beq_lt0 hN, beq_lt hN, beq_gt0 hN, beq_gt hN, wksL, D.leC, D.e.injEq, E.sl.injEq, exists_eq_right, exists_eq_right', D.idsB, D.idsC, decide_eq_true_eq, List.all_cons, List.all_nil, true_or, or_true]; done)))
  case hcl => repeat first | exact Cov.base | refine Cov.cons (by first | (left; omega) | (right; simp)) ?_
  all_goals simp (maxSteps := 2000000) (disch := omega) only [sim_all, ↓fieldOff_eq, ↓newsV_eq, ↓sliceV_eq, ↓lenV_eq, seval, Ty.agg, tb_all, hk, beq_lt0 hN, beq_lt hN, beq_gt0 hN, beq_gt hN, wksL, D.leC, D.e.injEq, E.sl.injEq, exists_eq_right, exists_eq_right', D.idsB, D.idsC, decide_eq_true_eq, List.all_cons, List.all_nil, true_or, or_true]
  all_goals (try omega)
end
end Go.Proofs.Ytakbadleipbngaa
