/-
  layer 42 in the abstract layer: Send, Frames. Conditions: none.
-/
import Derived.Test.YtakbadleipbngaaLinkG
set_option linter.all false
namespace Go.Proofs.Ytakbadleipbngaa
open Go.RowKit
theorem a_Send (e : LEnd) (s : ByteArray) : PCalls Try.prog 12 [endD e, .e (.lit (.string s))]
    (.tu [endD (if s.size ≤ 4096 ∧ e.queue.length < 64 then e.send s else e), .e (.lit (.int .i64 (if s.size ≤ 4096 then if e.queue.length < 64 then 0 else 432 else 2)))]) := by
  unfold endD
  refine PCalls.of (rs := [.cell 4 25, .tmp 5]) tok Try.func12 rfl rfl (Nat.le_of_ble_eq_true rfl) rfl (fun cx hx h0 => ?_)
  simp only [argsT]
  repeat refine AW.seq ?_
  first | refine AW.region tok (by rw [hx]; kernel_rfl) (fun K hK => ?_) | refine AW.draw tok (by kernel_rfl) (by rw [hx]; kernel_rfl) (by kernel_rfl) (fun K hK => ?_)
  simp (maxSteps := 2000000) (disch := omega) only [sim_all, ↓fieldOff_eq, ↓newsV_eq, ↓sliceV_eq, ↓lenV_eq, seval, Ty.agg, tb_all]
  repeat refine And.intro (by omega) ?_
  refine hK _ _ ?_
  clear hK
  dsimp only
  repeat refine AW.seq ?_
  first | refine AW.region tok (by rw [hx]; kernel_rfl) (fun K hK => ?_) | refine AW.draw tok (by kernel_rfl) (by rw [hx]; kernel_rfl) (by kernel_rfl) (fun K hK => ?_)
  simp (maxSteps := 2000000) (disch := omega) only [sim_all, ↓fieldOff_eq, ↓newsV_eq, ↓sliceV_eq, ↓lenV_eq, seval, Ty.agg, tb_all]
  repeat refine And.intro (by omega) ?_
  refine call_of (a_short s) rfl rfl ?_
  simp (maxSteps := 2000000) (disch := omega) only [sim_all, ↓fieldOff_eq, ↓newsV_eq, ↓sliceV_eq, ↓lenV_eq, seval, Ty.agg, tb_all]
  repeat refine And.intro (by omega) ?_
  refine hK _ _ ?_
  clear hK
  dsimp only
  repeat refine AW.seq ?_
  refine AW.condS rfl (fun h => ?_) (fun h => ?_)
  · skip
    repeat refine AW.seq ?_
    first | refine AW.region tok (by rw [hx]; kernel_rfl) (fun K hK => ?_) | refine AW.draw tok (by kernel_rfl) (by rw [hx]; kernel_rfl) (by kernel_rfl) (fun K hK => ?_)
    simp (maxSteps := 2000000) (disch := omega) only [sim_all, ↓fieldOff_eq, ↓newsV_eq, ↓sliceV_eq, ↓lenV_eq, seval, Ty.agg, tb_all]
    repeat refine And.intro (by omega) ?_
    refine hK _ _ ?_
    clear hK
    dsimp only
    refine AW.ret ?_
    dsimp only
    simp only [RetV, resD, sim_all, ↓fieldOff_eq, ↓newsV_eq, ↓sliceV_eq, ↓lenV_eq, seval, Ty.agg, tb_all]
    simp [shortB] at h
    simp [endD, Nat.not_le.2 h]
  · have h1 : s.size ≤ 4096 := by simpa [shortB] using h
    refine AW.skip ?_
    dsimp only
    repeat refine AW.seq ?_
    first | refine AW.region tok (by rw [hx]; kernel_rfl) (fun K hK => ?_) | refine AW.draw tok (by kernel_rfl) (by rw [hx]; kernel_rfl) (by kernel_rfl) (fun K hK => ?_)
    simp (maxSteps := 2000000) (disch := omega) only [sim_all, ↓fieldOff_eq, ↓newsV_eq, ↓sliceV_eq, ↓lenV_eq, seval, Ty.agg, tb_all]
    repeat refine And.intro (by omega) ?_
    refine hK _ _ ?_
    clear hK
    dsimp only
    repeat refine AW.seq ?_
    refine AW.condS rfl (fun h2 => ?_) (fun h2 => ?_)
    · skip
      repeat refine AW.seq ?_
      first | refine AW.region tok (by rw [hx]; kernel_rfl) (fun K hK => ?_) | refine AW.draw tok (by kernel_rfl) (by rw [hx]; kernel_rfl) (by kernel_rfl) (fun K hK => ?_)
      simp (maxSteps := 2000000) (disch := omega) only [sim_all, ↓fieldOff_eq, ↓newsV_eq, ↓sliceV_eq, ↓lenV_eq, seval, Ty.agg, tb_all]
      repeat refine And.intro (by omega) ?_
      refine hK _ _ ?_
      clear hK
      dsimp only
      refine AW.ret ?_
      dsimp only
      simp only [RetV, resD, sim_all, ↓fieldOff_eq, ↓newsV_eq, ↓sliceV_eq, ↓lenV_eq, seval, Ty.agg, tb_all]
      have h2' : ¬ e.queue.length < 64 := by simp at h2; omega
      simp [endD, h1, h2']
    · have h2' : e.queue.length < 64 := by simp at h2; omega
      refine AW.skip ?_
      dsimp only
      repeat refine AW.seq ?_
      first | refine AW.region tok (by rw [hx]; kernel_rfl) (fun K hK => ?_) | refine AW.draw tok (by kernel_rfl) (by rw [hx]; kernel_rfl) (by kernel_rfl) (fun K hK => ?_)
      simp (maxSteps := 2000000) (disch := omega) only [sim_all, ↓fieldOff_eq, ↓newsV_eq, ↓sliceV_eq, ↓lenV_eq, seval, Ty.agg, tb_all]
      repeat refine And.intro (by omega) ?_
      refine call_of (a_cloneS _ _ (by omega)) rfl rfl ?_
      simp (maxSteps := 2000000) (disch := omega) only [sim_all, ↓fieldOff_eq, ↓newsV_eq, ↓sliceV_eq, ↓lenV_eq, seval, Ty.agg, tb_all]
      repeat refine And.intro (by omega) ?_
      refine hK _ _ ?_
      clear hK
      dsimp only
      repeat refine AW.seq ?_
      first | refine AW.region tok (by rw [hx]; kernel_rfl) (fun K hK => ?_) | refine AW.draw tok (by kernel_rfl) (by rw [hx]; kernel_rfl) (by kernel_rfl) (fun K hK => ?_)
      simp (maxSteps := 2000000) (disch := omega) only [sim_all, ↓fieldOff_eq, ↓newsV_eq, ↓sliceV_eq, ↓lenV_eq, seval, Ty.agg, tb_all]
      repeat refine And.intro (by omega) ?_
      refine hK _ _ ?_
      clear hK
      dsimp only
      refine AW.ret ?_
      dsimp only
      simp only [RetV, resD, sim_all, ↓fieldOff_eq, ↓newsV_eq, ↓sliceV_eq, ↓lenV_eq, seval, Ty.agg, tb_all]
      simp [endD, h1, h2', LEnd.send, sE]
theorem a_Idle (x : LEnd) : PCalls Try.prog 21 [endD x] (.e (.lit (.bool (decide (x.queue.length = 0))))) := by
  unfold endD
  refine PCalls.of (rs := [.tmp 2]) tok Try.func21 rfl rfl (Nat.le_of_ble_eq_true rfl) rfl (fun cx hx h0 => ?_)
  simp only [argsT]
  repeat refine AW.seq ?_
  first | refine AW.region tok (by rw [hx]; kernel_rfl) (fun K hK => ?_) | refine AW.draw tok (by kernel_rfl) (by rw [hx]; kernel_rfl) (by kernel_rfl) (fun K hK => ?_)
  simp (maxSteps := 2000000) (disch := omega) only [sim_all, ↓fieldOff_eq, ↓newsV_eq, ↓sliceV_eq, ↓lenV_eq, seval, Ty.agg, tb_all]
  repeat refine And.intro (by omega) ?_
  refine hK _ _ ?_
  clear hK
  dsimp only
  repeat refine AW.seq ?_
  first | refine AW.region tok (by rw [hx]; kernel_rfl) (fun K hK => ?_) | refine AW.draw tok (by kernel_rfl) (by rw [hx]; kernel_rfl) (by kernel_rfl) (fun K hK => ?_)
  simp (maxSteps := 2000000) (disch := omega) only [sim_all, ↓fieldOff_eq, ↓newsV_eq, ↓sliceV_eq, ↓lenV_eq, seval, Ty.agg, tb_all]
  repeat refine And.intro (by omega) ?_
  refine hK _ _ ?_
  clear hK
  dsimp only
  refine AW.ret ?_
  dsimp only
  simp only [RetV, resD, sim_all, ↓fieldOff_eq, ↓newsV_eq, ↓sliceV_eq, ↓lenV_eq, seval, Ty.agg, tb_all]
  left
  simp
theorem a_Frames (x : LEnd) (hb : 1 ≤ x.base ∧ x.base ≤ 1099511627776) (hq : x.queue.length ≤ 64) : PCalls Try.prog 19 [endD x] (.e (.sl 3 x.frames.length (fE x.frames))) := by
  unfold endD
  refine PCalls.of (rs := [.tmp 2]) tok Try.func19 rfl rfl (Nat.le_of_ble_eq_true rfl) rfl (fun cx hx h0 => ?_)
  simp only [argsT]
  repeat refine AW.seq ?_
  first | refine AW.region tok (by rw [hx]; kernel_rfl) (fun K hK => ?_) | refine AW.draw tok (by kernel_rfl) (by rw [hx]; kernel_rfl) (by kernel_rfl) (fun K hK => ?_)
  simp (maxSteps := 2000000) (disch := omega) only [sim_all, ↓fieldOff_eq, ↓newsV_eq, ↓sliceV_eq, ↓lenV_eq, seval, Ty.agg, tb_all]
  repeat refine And.intro (by omega) ?_
  refine hK _ _ ?_
  clear hK
  dsimp only
  repeat refine AW.seq ?_
  first | refine AW.region tok (by rw [hx]; kernel_rfl) (fun K hK => ?_) | refine AW.draw tok (by kernel_rfl) (by rw [hx]; kernel_rfl) (by kernel_rfl) (fun K hK => ?_)
  simp (maxSteps := 2000000) (disch := omega) only [sim_all, ↓fieldOff_eq, ↓newsV_eq, ↓sliceV_eq, ↓lenV_eq, seval, Ty.agg, tb_all]
  repeat refine And.intro (by omega) ?_
  refine call_of (a_Idle x) rfl rfl ?_
  simp (maxSteps := 2000000) (disch := omega) only [sim_all, ↓fieldOff_eq, ↓newsV_eq, ↓sliceV_eq, ↓lenV_eq, seval, Ty.agg, tb_all]
  repeat refine And.intro (by omega) ?_
  refine hK _ _ ?_
  clear hK
  dsimp only
  repeat refine AW.seq ?_
  refine AW.condS rfl (fun h => ?_) (fun h => ?_)
  · skip
    repeat refine AW.seq ?_
    first | refine AW.region tok (by rw [hx]; kernel_rfl) (fun K hK => ?_) | refine AW.draw tok (by kernel_rfl) (by rw [hx]; kernel_rfl) (by kernel_rfl) (fun K hK => ?_)
    simp (maxSteps := 2000000) (disch := omega) only [sim_all, ↓fieldOff_eq, ↓newsV_eq, ↓sliceV_eq, ↓lenV_eq, seval, Ty.agg, tb_all]
    repeat refine And.intro (by omega) ?_
    refine hK _ _ ?_
    clear hK
    dsimp only
    refine AW.ret ?_
    dsimp only
    simp only [RetV, resD, sim_all, ↓fieldOff_eq, ↓newsV_eq, ↓sliceV_eq, ↓lenV_eq, seval, Ty.agg, tb_all]
    simp only [decide_eq_true_eq] at h
    left
    simp [LEnd.frames, h, fE]
    rfl
  · skip
    refine AW.skip ?_
    dsimp only
    simp only [decide_eq_false_iff_not] at h
    repeat refine AW.seq ?_
    first | refine AW.region tok (by rw [hx]; kernel_rfl) (fun K hK => ?_) | refine AW.draw tok (by kernel_rfl) (by rw [hx]; kernel_rfl) (by kernel_rfl) (fun K hK => ?_)
    simp (maxSteps := 2000000) (disch := omega) only [sim_all, ↓fieldOff_eq, ↓newsV_eq, ↓sliceV_eq, ↓lenV_eq, seval, Ty.agg, tb_all]
    repeat refine And.intro (by omega) ?_
    refine hK _ _ ?_
    clear hK
    dsimp only
    repeat refine AW.seq ?_
    first | refine AW.region tok (by rw [hx]; kernel_rfl) (fun K hK => ?_) | refine AW.draw tok (by kernel_rfl) (by rw [hx]; kernel_rfl) (by kernel_rfl) (fun K hK => ?_)
    simp (maxSteps := 2000000) (disch := omega) only [sim_all, ↓fieldOff_eq, ↓newsV_eq, ↓sliceV_eq, ↓lenV_eq, seval, Ty.agg, tb_all]
    repeat refine And.intro (by omega) ?_
    refine hK _ _ ?_
    clear hK
    dsimp only
    have hK : (min (x.queue.length : Int) 8).toNat = min x.queue.length 8 := by omega
    rw [hK]
    repeat refine AW.seq ?_
    refine AW.block ?_
    refine AW.loopW (fun i : Nat => [(20, .e (.lit (.int .i64 i))), (19, .e (.lit (.int .i64 (min x.queue.length 8 : Nat)))), (18, .e (.sl 1 (min x.queue.length 8) ((x.queue.map sE).take (min x.queue.length 8)))), (3, .own 2 3 i (fE (x.frames.take i))), (1, .pt 0 0)])
      (fun i => ⟨[(0, [.e (.lit (.int .i64 x.base)), .e (.sl 1 x.queue.length (x.queue.map sE)), .e (.lit (.int .i64 x.want)), .e (.sl 2 x.held.length (hE x.held))])], [(2, i, 3, 27)], 3⟩)
      (fun i => i ≤ min x.queue.length 8) (fun i => min x.queue.length 8 - i) 0 ?_ (Nat.zero_le _) ?_
    · skip
      refine Wk.mk (by first | (rw [h0]; exact Nat.zero_le _) | (rw [h0]; exact Nat.le_refl _) | (rw [h0]; simp; done) | (rw [h0]; simp; omega)) (by first | exact Nat.le_refl _ | (simp only [sim_all, ↓fieldOff_eq, ↓newsV_eq, ↓sliceV_eq, ↓lenV_eq, seval, Ty.agg, tb_all]; done) | omega) ?_ ?_ ?_
      all_goals simp only [sim_all, ↓fieldOff_eq, ↓newsV_eq, ↓sliceV_eq, ↓lenV_eq, seval, Ty.agg, tb_all, List.take_zero, fE, List.flatMap_nil, Int.natCast_zero, D.idsB, D.idsC, decide_eq_true_eq, List.all_cons, List.all_nil, Int.natCast_add, Int.cast_ofNat_Int, Nat.reduceLT]
      trace_state
    · intro i hi
      repeat refine AW.seq ?_
      first | refine AW.region tok (by rw [hx]; kernel_rfl) (fun K hK => ?_) | refine AW.draw tok (by kernel_rfl) (by rw [hx]; kernel_rfl) (by kernel_rfl) (fun K hK => ?_)
      simp (maxSteps := 2000000) (disch := omega) only [sim_all, ↓fieldOff_eq, ↓newsV_eq, ↓sliceV_eq, ↓lenV_eq, seval, Ty.agg, tb_all]
      repeat refine And.intro (by omega) ?_
      refine hK _ _ ?_
      clear hK
      dsimp only
      repeat refine AW.seq ?_
      refine AW.condS rfl (fun h => ?_) (fun h => ?_)
      · simp only [decide_eq_true_eq] at h
        have hlt : i < min x.queue.length 8 := by omega
        obtain ⟨s, hs⟩ : ∃ s, x.queue[i]? = some s := ⟨x.queue[i]'(by omega), List.getElem?_eq_getElem _⟩
        have hg : ((x.queue.map sE).take (min x.queue.length 8)).getD i .any = .lit (.string s) := by
          rw [List.getD, List.getElem?_take, if_pos hlt, List.getElem?_map, hs]; rfl
        have hfr : x.frames[i]? = some ⟨x.base + i, x.want, s⟩ := by
          simp [LEnd.frames, List.getElem?_zipIdx, List.getElem?_take, hs, *]
          omega
        have hf : fE (x.frames.take (i + 1)) = fE (x.frames.take i) ++ [.lit (.int .i64 (x.base + i)), .lit (.int .i64 x.want), .lit (.string s)] := by
          rw [List.take_add_one, hfr]; simp [fE]
        have hlen : i < ((x.queue.map sE).take (min x.queue.length 8)).length := by simp; omega
        refine AW.skip ?_
        dsimp only
        repeat refine AW.seq ?_
        refine AW.block ?_
        repeat refine AW.seq ?_
        first | refine AW.region tok (by rw [hx]; kernel_rfl) (fun K hK => ?_) | refine AW.draw tok (by kernel_rfl) (by rw [hx]; kernel_rfl) (by kernel_rfl) (fun K hK => ?_)
        simp (maxSteps := 2000000) (disch := omega) only [sim_all, ↓fieldOff_eq, ↓newsV_eq, ↓sliceV_eq, ↓lenV_eq, seval, Ty.agg, tb_all, hg]
        repeat refine And.intro (by omega) ?_
        refine hK _ _ ?_
        clear hK
        dsimp only
        repeat refine AW.seq ?_
        first | refine AW.region tok (by rw [hx]; kernel_rfl) (fun K hK => ?_) | refine AW.draw tok (by kernel_rfl) (by rw [hx]; kernel_rfl) (by kernel_rfl) (fun K hK => ?_)
        simp (maxSteps := 2000000) (disch := omega) only [sim_all, ↓fieldOff_eq, ↓newsV_eq, ↓sliceV_eq, ↓lenV_eq, seval, Ty.agg, tb_all, wrap_id]
        repeat refine And.intro (by omega) ?_
        refine hK _ _ ?_
        clear hK
        dsimp only
        repeat refine AW.seq ?_
        first | refine AW.region tok (by rw [hx]; kernel_rfl) (fun K hK => ?_) | refine AW.draw tok (by kernel_rfl) (by rw [hx]; kernel_rfl) (by kernel_rfl) (fun K hK => ?_)
        simp (maxSteps := 2000000) (disch := omega) only [sim_all, ↓fieldOff_eq, ↓newsV_eq, ↓sliceV_eq, ↓lenV_eq, seval, Ty.agg, tb_all, wrap_id]
        repeat refine And.intro (by omega) ?_
        refine hK _ _ ?_
        clear hK
        dsimp only
        refine ⟨i + 1, ?_, by omega, by omega⟩
        refine Wk.mk (by first | (rw [h0]; exact Nat.zero_le _) | (rw [h0]; exact Nat.le_refl _) | (rw [h0]; simp; done) | (rw [h0]; simp; omega)) (by first | exact Nat.le_refl _ | (simp only [sim_all, ↓fieldOff_eq, ↓newsV_eq, ↓sliceV_eq, ↓lenV_eq, seval, Ty.agg, tb_all]; done) | omega) ?_ ?_ ?_
        all_goals simp only [sim_all, ↓fieldOff_eq, ↓newsV_eq, ↓sliceV_eq, ↓lenV_eq, seval, Ty.agg, tb_all, hf, D.idsB, D.idsC, decide_eq_true_eq, List.all_cons, List.all_nil, Int.natCast_add, Int.cast_ofNat_Int, Nat.reduceLT]
      · simp only [decide_eq_false_iff_not] at h
        obtain rfl : i = min x.queue.length 8 := by omega
        refine AW.exit ?_
        dsimp only
        simp only [if_true]
        repeat refine AW.seq ?_
        first | refine AW.region tok (by rw [hx]; kernel_rfl) (fun K hK => ?_) | refine AW.draw tok (by kernel_rfl) (by rw [hx]; kernel_rfl) (by kernel_rfl) (fun K hK => ?_)
        simp (maxSteps := 2000000) (disch := omega) only [sim_all, ↓fieldOff_eq, ↓newsV_eq, ↓sliceV_eq, ↓lenV_eq, seval, Ty.agg, tb_all]
        repeat refine And.intro (by omega) ?_
        refine hK _ _ ?_
        clear hK
        dsimp only
        refine AW.ret ?_
        dsimp only
        simp only [RetV, resD, sim_all, ↓fieldOff_eq, ↓newsV_eq, ↓sliceV_eq, ↓lenV_eq, seval, Ty.agg, tb_all]
        have hl : x.frames.length = min x.queue.length 8 := by simp [LEnd.frames, *]; omega
        rw [List.take_of_length_le (by omega), hl]
        simp

def sentD (x : LEnd) (n : Int) : D := .ag [.e (.lit (.int .i64 x.base)), .e (.sl 1 x.queue.length (x.queue.map sE)), .e (.lit (.int .i64 x.want)), .e (.sl 2 x.held.length (hE x.held)), .e (.lit (.int .i64 n))]
theorem r_Send (e : LEnd) (s : ByteArray) : PCalls Try.prog 13 [endD e, .e (.lit (.string s))]
    (sentD (if s.size ≤ 4096 ∧ e.queue.length < 64 then e.send s else e) (if s.size ≤ 4096 then if e.queue.length < 64 then 0 else 432 else 2)) := by
  unfold endD
  refine PCalls.of (rs := [.cell 4 35]) tok Try.func13 rfl rfl (Nat.le_of_ble_eq_true rfl) rfl (fun cx hx h0 => ?_)
  simp only [argsT]
  repeat refine AW.seq ?_
  first | refine AW.region tok (by rw [hx]; kernel_rfl) (fun K hK => ?_) | refine AW.draw tok (by kernel_rfl) (by rw [hx]; kernel_rfl) (by kernel_rfl) (fun K hK => ?_)
  simp (maxSteps := 2000000) (disch := omega) only [sim_all, ↓fieldOff_eq, ↓newsV_eq, ↓sliceV_eq, ↓lenV_eq, seval, Ty.agg, tb_all]
  repeat refine And.intro (by omega) ?_
  refine hK _ _ ?_
  clear hK
  dsimp only
  repeat refine AW.seq ?_
  first | refine AW.region tok (by rw [hx]; kernel_rfl) (fun K hK => ?_) | refine AW.draw tok (by kernel_rfl) (by rw [hx]; kernel_rfl) (by kernel_rfl) (fun K hK => ?_)
  simp (maxSteps := 2000000) (disch := omega) only [sim_all, ↓fieldOff_eq, ↓newsV_eq, ↓sliceV_eq, ↓lenV_eq, seval, Ty.agg, tb_all]
  repeat refine And.intro (by omega) ?_
  refine hK _ _ ?_
  clear hK
  dsimp only
  repeat refine AW.seq ?_
  refine AW.condS rfl (fun h => ?_) (fun h => ?_)
  · skip
    repeat refine AW.seq ?_
    first | refine AW.region tok (by rw [hx]; kernel_rfl) (fun K hK => ?_) | refine AW.draw tok (by kernel_rfl) (by rw [hx]; kernel_rfl) (by kernel_rfl) (fun K hK => ?_)
    simp (maxSteps := 2000000) (disch := omega) only [sim_all, ↓fieldOff_eq, ↓newsV_eq, ↓sliceV_eq, ↓lenV_eq, seval, Ty.agg, tb_all]
    repeat refine And.intro (by omega) ?_
    refine hK _ _ ?_
    clear hK
    dsimp only
    refine AW.ret ?_
    dsimp only
    simp only [RetV, resD, sim_all, ↓fieldOff_eq, ↓newsV_eq, ↓sliceV_eq, ↓lenV_eq, seval, Ty.agg, tb_all]
    have h1 : ¬ s.size ≤ 4096 := by simp at h; omega
    simp [sentD, h1]
  · have h1 : s.size ≤ 4096 := by simp at h; omega
    refine AW.skip ?_
    dsimp only
    repeat refine AW.seq ?_
    first | refine AW.region tok (by rw [hx]; kernel_rfl) (fun K hK => ?_) | refine AW.draw tok (by kernel_rfl) (by rw [hx]; kernel_rfl) (by kernel_rfl) (fun K hK => ?_)
    simp (maxSteps := 2000000) (disch := omega) only [sim_all, ↓fieldOff_eq, ↓newsV_eq, ↓sliceV_eq, ↓lenV_eq, seval, Ty.agg, tb_all]
    repeat refine And.intro (by omega) ?_
    refine hK _ _ ?_
    clear hK
    dsimp only
    repeat refine AW.seq ?_
    refine AW.condS rfl (fun h2 => ?_) (fun h2 => ?_)
    · skip
      repeat refine AW.seq ?_
      first | refine AW.region tok (by rw [hx]; kernel_rfl) (fun K hK => ?_) | refine AW.draw tok (by kernel_rfl) (by rw [hx]; kernel_rfl) (by kernel_rfl) (fun K hK => ?_)
      simp (maxSteps := 2000000) (disch := omega) only [sim_all, ↓fieldOff_eq, ↓newsV_eq, ↓sliceV_eq, ↓lenV_eq, seval, Ty.agg, tb_all]
      repeat refine And.intro (by omega) ?_
      refine hK _ _ ?_
      clear hK
      dsimp only
      refine AW.ret ?_
      dsimp only
      simp only [RetV, resD, sim_all, ↓fieldOff_eq, ↓newsV_eq, ↓sliceV_eq, ↓lenV_eq, seval, Ty.agg, tb_all]
      have h2' : ¬ e.queue.length < 64 := by simp at h2; omega
      simp [sentD, h1, h2']
    · have h2' : e.queue.length < 64 := by simp at h2; omega
      refine AW.skip ?_
      dsimp only
      repeat refine AW.seq ?_
      first | refine AW.region tok (by rw [hx]; kernel_rfl) (fun K hK => ?_) | refine AW.draw tok (by kernel_rfl) (by rw [hx]; kernel_rfl) (by kernel_rfl) (fun K hK => ?_)
      simp (maxSteps := 2000000) (disch := omega) only [sim_all, ↓fieldOff_eq, ↓newsV_eq, ↓sliceV_eq, ↓lenV_eq, seval, Ty.agg, tb_all]
      repeat refine And.intro (by omega) ?_
      refine hK _ _ ?_
      clear hK
      dsimp only
      repeat refine AW.seq ?_
      first | refine AW.region tok (by rw [hx]; kernel_rfl) (fun K hK => ?_) | refine AW.draw tok (by kernel_rfl) (by rw [hx]; kernel_rfl) (by kernel_rfl) (fun K hK => ?_)
      simp (maxSteps := 2000000) (disch := omega) only [sim_all, ↓fieldOff_eq, ↓newsV_eq, ↓sliceV_eq, ↓lenV_eq, seval, Ty.agg, tb_all]
      repeat refine And.intro (by omega) ?_
      refine hK _ _ ?_
      clear hK
      dsimp only
      refine AW.ret ?_
      dsimp only
      simp only [RetV, resD, sim_all, ↓fieldOff_eq, ↓newsV_eq, ↓sliceV_eq, ↓lenV_eq, seval, Ty.agg, tb_all]
      simp [sentD, h1, h2', LEnd.send, sE]
theorem frames_at (x : LEnd) (h : ¬ x.queue.length = 0) (i : Nat) (hi : i < min x.queue.length 8) : x.frames[i]? = some ⟨x.base + i, x.want, x.queue[i]'(by omega)⟩ := by
  have hs : x.queue[i]? = some (x.queue[i]'(by omega)) := List.getElem?_eq_getElem _
  simp [LEnd.frames, h, List.getElem?_zipIdx, List.getElem?_take]
  omega
theorem fE_take (l : List LFrame) (i : Nat) (f : LFrame) (h : l[i]? = some f) : fE (l.take (i + 1)) = fE (l.take i) ++ [.lit (.int .i64 f.seq), .lit (.int .i64 f.ack), .lit (.string f.data)] := by
  rw [List.take_add_one, h]; simp [fE]
theorem getD_map {α : Type} {l : List α} {f : α → E} {k : Nat} {a : α} (h : l[k]? = some a) : (l.map f).getD k .any = f a := by
  rw [List.getD, List.getElem?_map, h]; rfl
theorem r_Frames (x : LEnd) (hb : 1 ≤ x.base ∧ x.base ≤ 1099511627776) (hq : x.queue.length ≤ 64) : PCalls Try.prog 20 [endD x] (.e (.sl 3 x.frames.length (fE x.frames))) := by
  unfold endD
  refine PCalls.of (rs := [.tmp 2]) tok Try.func20 rfl rfl (Nat.le_of_ble_eq_true rfl) rfl (fun cx hx h0 => ?_)
  simp only [argsT]
  repeat refine AW.seq ?_
  first | refine AW.region tok (by rw [hx]; kernel_rfl) (fun K hK => ?_) | refine AW.draw tok (by kernel_rfl) (by rw [hx]; kernel_rfl) (by kernel_rfl) (fun K hK => ?_)
  simp (maxSteps := 2000000) (disch := omega) only [sim_all, ↓fieldOff_eq, ↓newsV_eq, ↓sliceV_eq, ↓lenV_eq, seval, Ty.agg, tb_all]
  repeat refine And.intro (by omega) ?_
  refine hK _ _ ?_
  clear hK
  dsimp only
  repeat refine AW.seq ?_
  first | refine AW.region tok (by rw [hx]; kernel_rfl) (fun K hK => ?_) | refine AW.draw tok (by kernel_rfl) (by rw [hx]; kernel_rfl) (by kernel_rfl) (fun K hK => ?_)
  simp (maxSteps := 2000000) (disch := omega) only [sim_all, ↓fieldOff_eq, ↓newsV_eq, ↓sliceV_eq, ↓lenV_eq, seval, Ty.agg, tb_all]
  repeat refine And.intro (by omega) ?_
  refine hK _ _ ?_
  clear hK
  dsimp only
  repeat refine AW.seq ?_
  refine AW.condS rfl (fun h => ?_) (fun h => ?_)
  · skip
    repeat refine AW.seq ?_
    first | refine AW.region tok (by rw [hx]; kernel_rfl) (fun K hK => ?_) | refine AW.draw tok (by kernel_rfl) (by rw [hx]; kernel_rfl) (by kernel_rfl) (fun K hK => ?_)
    simp (maxSteps := 2000000) (disch := omega) only [sim_all, ↓fieldOff_eq, ↓newsV_eq, ↓sliceV_eq, ↓lenV_eq, seval, Ty.agg, tb_all]
    repeat refine And.intro (by omega) ?_
    refine hK _ _ ?_
    clear hK
    dsimp only
    refine AW.ret ?_
    dsimp only
    simp only [RetV, resD, sim_all, ↓fieldOff_eq, ↓newsV_eq, ↓sliceV_eq, ↓lenV_eq, seval, Ty.agg, tb_all]
    have h1 : x.queue.length = 0 := by simpa using h
    left
    simp [LEnd.frames, h1, fE]
    rfl
  · have h1 : ¬ x.queue.length = 0 := by simpa using h
    refine AW.skip ?_
    dsimp only
    repeat refine AW.seq ?_
    first | refine AW.region tok (by rw [hx]; kernel_rfl) (fun K hK => ?_) | refine AW.draw tok (by kernel_rfl) (by rw [hx]; kernel_rfl) (by kernel_rfl) (fun K hK => ?_)
    simp (maxSteps := 2000000) (disch := omega) only [sim_all, ↓fieldOff_eq, ↓newsV_eq, ↓sliceV_eq, ↓lenV_eq, seval, Ty.agg, tb_all]
    repeat refine And.intro (by omega) ?_
    refine hK _ _ ?_
    clear hK
    dsimp only
    repeat refine AW.seq ?_
    first | refine AW.region tok (by rw [hx]; kernel_rfl) (fun K hK => ?_) | refine AW.draw tok (by kernel_rfl) (by rw [hx]; kernel_rfl) (by kernel_rfl) (fun K hK => ?_)
    simp (maxSteps := 2000000) (disch := omega) only [sim_all, ↓fieldOff_eq, ↓newsV_eq, ↓sliceV_eq, ↓lenV_eq, seval, Ty.agg, tb_all]
    repeat refine And.intro (by omega) ?_
    refine hK _ _ ?_
    clear hK
    dsimp only
    repeat refine AW.seq ?_
    refine AW.block ?_
    refine AW.loopW (fun i : Nat => [(4, .e (.lit (.int .i64 i))), (3, .own 2 3 i (fE (x.frames.take i))), (1, .pt 0 0)])
      (fun i => ⟨[(0, [.e (.lit (.int .i64 x.base)), .e (.sl 1 x.queue.length (x.queue.map sE)), .e (.lit (.int .i64 x.want)), .e (.sl 2 x.held.length (hE x.held))])], [(2, i, 3, 27)], 3⟩)
      (fun i => i ≤ min x.queue.length 8) (fun i => min x.queue.length 8 - i) 0 ?_ (Nat.zero_le _) ?_
    · skip
      refine Wk.mk (by first | (rw [h0]; exact Nat.zero_le _) | (rw [h0]; exact Nat.le_refl _) | (rw [h0]; simp; done) | (rw [h0]; simp; omega)) (by first | exact Nat.le_refl _ | (simp only [sim_all, ↓fieldOff_eq, ↓newsV_eq, ↓sliceV_eq, ↓lenV_eq, seval, Ty.agg, tb_all]; done) | omega) ?_ ?_ ?_
      all_goals simp only [sim_all, ↓fieldOff_eq, ↓newsV_eq, ↓sliceV_eq, ↓lenV_eq, seval, Ty.agg, tb_all, List.take_zero, fE, List.flatMap_nil, Int.natCast_zero, D.idsB, D.idsC, decide_eq_true_eq, List.all_cons, List.all_nil, Int.natCast_add, Int.cast_ofNat_Int, Nat.reduceLT]
    · intro i hi
      by_cases hlt : i < min x.queue.length 8
      · have hi1 : (i : Int) < x.queue.length := by omega
        have hi2 : (i : Int) < 8 := by omega
        obtain ⟨s, hs⟩ : ∃ s, x.queue[i]? = some s := ⟨x.queue[i]'(by omega), List.getElem?_eq_getElem _⟩
        have hg := getD_map (f := sE) hs
        have hf := fE_take _ _ _ (frames_at x h1 i hlt)
        have hsx : x.queue[i]'(by omega) = s := by rw [List.getElem?_eq_getElem (by omega)] at hs; injection hs
        rw [hsx] at hf
        repeat refine AW.seq ?_
        first | refine AW.region tok (by rw [hx]; kernel_rfl) (fun K hK => ?_) | refine AW.draw tok (by kernel_rfl) (by rw [hx]; kernel_rfl) (by kernel_rfl) (fun K hK => ?_)
        simp (maxSteps := 2000000) (disch := omega) only [sim_all, ↓fieldOff_eq, ↓newsV_eq, ↓sliceV_eq, ↓lenV_eq, seval, Ty.agg, tb_all, hi1, hi2]
        repeat refine And.intro (by omega) ?_
        refine hK _ _ ?_
        clear hK
        dsimp only
        repeat refine AW.seq ?_
        refine AW.cond (b := true) (by rfl) ?_
        dsimp only
        refine AW.skip ?_
        dsimp only
        repeat refine AW.seq ?_
        refine AW.block ?_
        repeat refine AW.seq ?_
        first | refine AW.region tok (by rw [hx]; kernel_rfl) (fun K hK => ?_) | refine AW.draw tok (by kernel_rfl) (by rw [hx]; kernel_rfl) (by kernel_rfl) (fun K hK => ?_)
        simp (maxSteps := 2000000) (disch := omega) only [sim_all, ↓fieldOff_eq, ↓newsV_eq, ↓sliceV_eq, ↓lenV_eq, seval, Ty.agg, tb_all, hg, sE, wrap_id, List.length_map]
        repeat refine And.intro (by omega) ?_
        refine hK _ _ ?_
        clear hK
        dsimp only
        repeat refine AW.seq ?_
        first | refine AW.region tok (by rw [hx]; kernel_rfl) (fun K hK => ?_) | refine AW.draw tok (by kernel_rfl) (by rw [hx]; kernel_rfl) (by kernel_rfl) (fun K hK => ?_)
        simp (maxSteps := 2000000) (disch := omega) only [sim_all, ↓fieldOff_eq, ↓newsV_eq, ↓sliceV_eq, ↓lenV_eq, seval, Ty.agg, tb_all, wrap_id]
        repeat refine And.intro (by omega) ?_
        refine hK _ _ ?_
        clear hK
        dsimp only
        refine ⟨i + 1, ?_, by omega, by omega⟩
        refine Wk.mk (by first | (rw [h0]; exact Nat.zero_le _) | (rw [h0]; exact Nat.le_refl _) | (rw [h0]; simp; done) | (rw [h0]; simp; omega)) (by first | exact Nat.le_refl _ | (simp only [sim_all, ↓fieldOff_eq, ↓newsV_eq, ↓sliceV_eq, ↓lenV_eq, seval, Ty.agg, tb_all]; done) | omega) ?_ ?_ ?_
        all_goals simp only [sim_all, ↓fieldOff_eq, ↓newsV_eq, ↓sliceV_eq, ↓lenV_eq, seval, Ty.agg, tb_all, hf, D.idsB, D.idsC, decide_eq_true_eq, List.all_cons, List.all_nil, Int.natCast_add, Int.cast_ofNat_Int, Nat.reduceLT]
      · obtain rfl : i = min x.queue.length 8 := by omega
        have hl : x.frames.length = min x.queue.length 8 := by simp [LEnd.frames, h1]; omega
        have fin : ∀ b, b = false → True := fun _ _ => trivial
        by_cases hi1 : ((min x.queue.length 8 : Nat) : Int) < x.queue.length
        · have hi2 : ¬ ((min x.queue.length 8 : Nat) : Int) < 8 := by omega
          repeat refine AW.seq ?_
          first | refine AW.region tok (by rw [hx]; kernel_rfl) (fun K hK => ?_) | refine AW.draw tok (by kernel_rfl) (by rw [hx]; kernel_rfl) (by kernel_rfl) (fun K hK => ?_)
          simp (maxSteps := 2000000) (disch := omega) only [sim_all, ↓fieldOff_eq, ↓newsV_eq, ↓sliceV_eq, ↓lenV_eq, seval, Ty.agg, tb_all, hi1, hi2]
          repeat refine And.intro (by omega) ?_
          refine hK _ _ ?_
          clear hK
          dsimp only
          repeat refine AW.seq ?_
          refine AW.cond (b := false) (by rfl) ?_
          dsimp only
          refine AW.exit ?_
          dsimp only
          simp only [if_true]
          repeat refine AW.seq ?_
          first | refine AW.region tok (by rw [hx]; kernel_rfl) (fun K hK => ?_) | refine AW.draw tok (by kernel_rfl) (by rw [hx]; kernel_rfl) (by kernel_rfl) (fun K hK => ?_)
          simp (maxSteps := 2000000) (disch := omega) only [sim_all, ↓fieldOff_eq, ↓newsV_eq, ↓sliceV_eq, ↓lenV_eq, seval, Ty.agg, tb_all]
          repeat refine And.intro (by omega) ?_
          refine hK _ _ ?_
          clear hK
          dsimp only
          refine AW.ret ?_
          dsimp only
          simp only [RetV, resD, sim_all, ↓fieldOff_eq, ↓newsV_eq, ↓sliceV_eq, ↓lenV_eq, seval, Ty.agg, tb_all]
          rw [List.take_of_length_le (by omega), hl]
          simp
        · skip
          repeat refine AW.seq ?_
          first | refine AW.region tok (by rw [hx]; kernel_rfl) (fun K hK => ?_) | refine AW.draw tok (by kernel_rfl) (by rw [hx]; kernel_rfl) (by kernel_rfl) (fun K hK => ?_)
          simp (maxSteps := 2000000) (disch := omega) only [sim_all, ↓fieldOff_eq, ↓newsV_eq, ↓sliceV_eq, ↓lenV_eq, seval, Ty.agg, tb_all, hi1]
          repeat refine And.intro (by omega) ?_
          refine hK _ _ ?_
          clear hK
          dsimp only
          repeat refine AW.seq ?_
          refine AW.cond (b := false) (by rfl) ?_
          dsimp only
          refine AW.exit ?_
          dsimp only
          simp only [if_true]
          repeat refine AW.seq ?_
          first | refine AW.region tok (by rw [hx]; kernel_rfl) (fun K hK => ?_) | refine AW.draw tok (by kernel_rfl) (by rw [hx]; kernel_rfl) (by kernel_rfl) (fun K hK => ?_)
          simp (maxSteps := 2000000) (disch := omega) only [sim_all, ↓fieldOff_eq, ↓newsV_eq, ↓sliceV_eq, ↓lenV_eq, seval, Ty.agg, tb_all]
          repeat refine And.intro (by omega) ?_
          refine hK _ _ ?_
          clear hK
          dsimp only
          refine AW.ret ?_
          dsimp only
          simp only [RetV, resD, sim_all, ↓fieldOff_eq, ↓newsV_eq, ↓sliceV_eq, ↓lenV_eq, seval, Ty.agg, tb_all]
          rw [List.take_of_length_le (by omega), hl]
          simp
end Go.Proofs.Ytakbadleipbngaa
