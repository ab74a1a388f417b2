/-
  layer 42: LinkRunsAsSpecified, in plain terms. Conditions: none.
-/
import Derived.Test.YtakbadleipbngaaLinkW
set_option linter.all false
namespace Go.Proofs.Ytakbadleipbngaa
open Go.RowKit
def S_Op.Wt (o : S_Op) : Prop := (0 ≤ o.vKind ∧ o.vKind ≤ 255) ∧ (0 ≤ o.vSide ∧ o.vSide ≤ 255) ∧ 0 ≤ o.vN ∧ o.vN ≤ 65535
abbrev RSt := Int × Int × List ByteArray × List ByteArray × S_End × S_End × S_End × S_End × List S_Frame × List S_Frame
def rst (n i : Nat) (g h : List ByteArray) (a b : LEnd) (v w : List LFrame) : RSt := ((n : Int), (i : Int), g, h, ofL a, ofL b, ofL a, ofL b, v.map ofF, w.map ofF)
structure RInv (l : List S_Op) (n i : Nat) (g h : List ByteArray) (a b : LEnd) (v w : List LFrame) : Prop where
  jn : n ≤ i
  ji : i ≤ l.length
  ja : a.Ok
  jb : b.Ok
  jg : (g.length : Int) + 1 = a.want
  jh : (h.length : Int) + 1 = b.want
  jv : v.length ≤ 107
  jw : w.length ≤ 107
theorem cut_map (v : List LFrame) (k : Nat) : ([] ++ subL (v.map ofF) 0 (k : Int)) ++ subL (v.map ofF) ((k : Int) + 1) ((v.map ofF).length : Int) = (v.take k ++ v.drop (k + 1)).map ofF := by
  rw [subL_to _ _ (by omega), subL_from, List.nil_append, Int.toNat_natCast, show ((k : Int) + 1).toNat = k + 1 by omega, List.map_append, List.map_take, List.map_drop]
theorem tmod_range {x : Int} (hx : 0 ≤ x) {m : Nat} (hm : 0 < m) : ∃ k : Nat, Int.tmod x m = k ∧ k < m := by
  refine ⟨(Int.tmod x m).toNat, ?_, ?_⟩
  · rw [Int.toNat_of_nonneg (Int.tmod_nonneg _ hx)]
  · have := Int.tmod_lt_of_pos x (show (0 : Int) < m by omega)
    have := Int.tmod_nonneg (m : Int) hx
    omega
section
variable {l : List S_Op} {n i : Nat} {g h : List ByteArray} {a b : LEnd} {v w : List LFrame} {o : S_Op}
def RStep (l : List S_Op) (n i : Nat) (g h : List ByteArray) (a b : LEnd) (v w : List LFrame) : Prop :=
    ∃ n' g' h' a' b' v' w', g_law42_LinkRunsAsSpecified_l25 l (rst n i g h a b v w) = some (.inl (rst n' (i + 1) g' h' a' b' v' w')) ∧ RInv l n' (i + 1) g' h' a' b' v' w'
set_option maxHeartbeats 4000000 in
theorem rs_send0 (hl : l.length ≤ 300) (I : RInv l n i g h a b v w) (hi : i < l.length) (e : l[((i : Nat) : Int).toNat]! = o) (ho : o.Wt) (hx : Int.tmod o.vSide 2 = 0) (hk : Int.tmod o.vKind 5 = 0) : RStep l n i g h a b v w := by
  obtain ⟨in1, ii, ia, ib, ig, ih, iv, iw⟩ := I
  obtain ⟨⟨k1, k2⟩, ⟨s1, s2⟩, n1, n2⟩ := ho
  have hvl : (v.map ofF).length = v.length := List.length_map ..
  have hwl : (w.map ofF).length = w.length := List.length_map ..
  have hfa := frames_len a
  have hfb := frames_len b
  have ga := ia.w2
  have gb := ib.w2
  unfold RStep rst
  obtain ⟨t, ht, _⟩ := word_ex 0 ((n : Int) + 1)
  have hs := sendE_ok ia t
  refine ⟨n + 1, g, h, (sendE a t).1, b, v, w, ?_, ⟨by omega, by omega, hs.1, ib, by rw [hs.2]; exact ig, ih, iv, iw⟩⟩
  simp (disch := first | omega | (simp; omega)) only [g_law42_LinkRunsAsSpecified_l25, ↓e, ↓hx, ↓hk, ↓cndT, ↓cndF, ↓gd_pos, cndT, cndF, cnd_dec, if_pos, if_neg, gd_pos, bnd_eq, e, hx, hk, w_id, hwl, hvl, decide_eq_true_eq, Bool.not_true, cnd_false, if_true, ht, G_Send ia, G_rSend ia]
  rfl
set_option maxHeartbeats 4000000 in
theorem rs_frames0 (hl : l.length ≤ 300) (I : RInv l n i g h a b v w) (hi : i < l.length) (e : l[((i : Nat) : Int).toNat]! = o) (ho : o.Wt) (hx : Int.tmod o.vSide 2 = 0) (hk : Int.tmod o.vKind 5 = 1) : RStep l n i g h a b v w := by
  obtain ⟨in1, ii, ia, ib, ig, ih, iv, iw⟩ := I
  obtain ⟨⟨k1, k2⟩, ⟨s1, s2⟩, n1, n2⟩ := ho
  have hvl : (v.map ofF).length = v.length := List.length_map ..
  have hwl : (w.map ofF).length = w.length := List.length_map ..
  have hfa := frames_len a
  have hfb := frames_len b
  have ga := ia.w2
  have gb := ib.w2
  unfold RStep rst
  have f1 := G_sameFrames (a.frames.map ofF) (by simp; omega)
  by_cases hc : w.length < 100
  · refine ⟨n, g, h, a, b, v, w ++ a.frames, ?_, ⟨by omega, by omega, ia, ib, ig, ih, iv, by simp; omega⟩⟩
    simp (disch := first | omega | (simp; omega)) only [g_law42_LinkRunsAsSpecified_l25, ↓e, ↓hx, ↓hk, ↓cndT, ↓cndF, ↓gd_pos, cndT, cndF, cnd_dec, if_pos, if_neg, gd_pos, bnd_eq, e, hx, hk, w_id, hwl, hvl, decide_eq_true_eq, Bool.not_true, cnd_false, if_true, G_rFrames ia, G_Frames ia, f1]
    simp only [List.map_append]
    rfl
  · refine ⟨n, g, h, a, b, v, w, ?_, ⟨by omega, by omega, ia, ib, ig, ih, iv, iw⟩⟩
    simp (disch := first | omega | (simp; omega)) only [g_law42_LinkRunsAsSpecified_l25, ↓e, ↓hx, ↓hk, ↓cndT, ↓cndF, ↓gd_pos, cndT, cndF, cnd_dec, if_pos, if_neg, gd_pos, bnd_eq, e, hx, hk, w_id, hwl, hvl, decide_eq_true_eq, Bool.not_true, cnd_false, if_true, G_rFrames ia, G_Frames ia, f1]
    rfl
set_option maxHeartbeats 4000000 in
theorem rs_way2_0 (hl : l.length ≤ 300) (I : RInv l n i g h a b v w) (hi : i < l.length) (e : l[((i : Nat) : Int).toNat]! = o) (ho : o.Wt) (hx : Int.tmod o.vSide 2 = 0) (hk : Int.tmod o.vKind 5 = 2) : RStep l n i g h a b v w := by
  obtain ⟨in1, ii, ia, ib, ig, ih, iv, iw⟩ := I
  obtain ⟨⟨k1, k2⟩, ⟨s1, s2⟩, n1, n2⟩ := ho
  have hvl : (v.map ofF).length = v.length := List.length_map ..
  have hwl : (w.map ofF).length = w.length := List.length_map ..
  have hfa := frames_len a
  have hfb := frames_len b
  have ga := ia.w2
  have gb := ib.w2
  unfold RStep rst
  by_cases hv0 : v.length = 0
  · refine ⟨n, g, h, a, b, v, w, ?_, ⟨by omega, by omega, ia, ib, ig, ih, iv, iw⟩⟩
    simp (disch := first | omega | (simp; omega)) only [g_law42_LinkRunsAsSpecified_l25, ↓e, ↓hx, ↓hk, ↓cndT, ↓cndF, ↓gd_pos, cndT, cndF, cnd_dec, if_pos, if_neg, gd_pos, bnd_eq, e, hx, hk, w_id, hwl, hvl, decide_eq_true_eq, Bool.not_true, cnd_false, if_true]
    rfl
  obtain ⟨k, hk1, hk2⟩ := tmod_range n1 (show 0 < v.length by omega)
  have hgt : (v.map ofF)[((k : Nat) : Int).toNat]! = ofF v[k] := by rw [getE _ _ (by rw [List.length_map]; omega)]; exact List.getElem_map ..
  generalize v[k] = f at hgt
  have hcut := cut_map v k
  have hc1 : ([] ++ (subL (v.map ofF) 0 (k : Int))).length * 32 ≤ 140737488355328 := by rw [List.nil_append, subL_to _ _ (by omega), List.length_take]; omega
  have hc2 : ([] ++ subL (v.map ofF) 0 (k : Int) ++ subL (v.map ofF) ((k : Int) + 1) ((v.map ofF).length : Int)).length * 32 ≤ 140737488355328 := by rw [hcut, List.length_map, List.length_append, List.length_take, List.length_drop]; omega
  rw [List.length_map] at hcut hc2
  have hcl : (v.take k ++ v.drop (k + 1)).length ≤ 107 := by rw [List.length_append, List.length_take, List.length_drop]; omega
  have hr := ia.receive f
  have hcount := receive_count a f ia
  have hw2 := hr.w2
  have t1 := G_sameTexts (a.receive f).2 (by have := receive_len a f ia; omega)
  have m1 := G_same (ofL (a.receive f).1) (by have := hr.ql; show (a.receive f).1.queue.length ≤ _; omega) (by have := hr.held_len; show ((a.receive f).1.held.map ofH).length ≤ _; rw [List.length_map]; omega)
  have hgl : (g ++ (a.receive f).2).length * 16 ≤ 140737488355328 := by rw [List.length_append]; omega
  refine ⟨n, g ++ (a.receive f).2, h, (a.receive f).1, b, v.take k ++ v.drop (k + 1), w, ?_, ⟨by omega, by omega, hr, ib, by rw [List.length_append]; omega, ih, hcl, iw⟩⟩
  simp (disch := first | omega | (simp; omega)) only [g_law42_LinkRunsAsSpecified_l25, ↓e, ↓hx, ↓hk, ↓cndT, ↓cndF, ↓gd_pos, cndT, cndF, cnd_dec, if_pos, if_neg, gd_pos, bnd_eq, e, hx, hk, w_id, hwl, hvl, decide_eq_true_eq, Bool.not_true, cnd_false, if_true, hk1, hgt, hcut, gd_pos hc1, gd_pos hc2, G_Receive ia, G_rReceive ia, t1, m1, gd_pos hgl]
  rfl
set_option maxHeartbeats 4000000 in
theorem rs_way3_0 (hl : l.length ≤ 300) (I : RInv l n i g h a b v w) (hi : i < l.length) (e : l[((i : Nat) : Int).toNat]! = o) (ho : o.Wt) (hx : Int.tmod o.vSide 2 = 0) (hk : Int.tmod o.vKind 5 = 3) : RStep l n i g h a b v w := by
  obtain ⟨in1, ii, ia, ib, ig, ih, iv, iw⟩ := I
  obtain ⟨⟨k1, k2⟩, ⟨s1, s2⟩, n1, n2⟩ := ho
  have hvl : (v.map ofF).length = v.length := List.length_map ..
  have hwl : (w.map ofF).length = w.length := List.length_map ..
  have hfa := frames_len a
  have hfb := frames_len b
  have ga := ia.w2
  have gb := ib.w2
  unfold RStep rst
  by_cases hv0 : v.length = 0
  · refine ⟨n, g, h, a, b, v, w, ?_, ⟨by omega, by omega, ia, ib, ig, ih, iv, iw⟩⟩
    simp (disch := first | omega | (simp; omega)) only [g_law42_LinkRunsAsSpecified_l25, ↓e, ↓hx, ↓hk, ↓cndT, ↓cndF, ↓gd_pos, cndT, cndF, cnd_dec, if_pos, if_neg, gd_pos, bnd_eq, e, hx, hk, w_id, hwl, hvl, decide_eq_true_eq, Bool.not_true, cnd_false, if_true]
    rfl
  obtain ⟨k, hk1, hk2⟩ := tmod_range n1 (show 0 < v.length by omega)
  have hgt : (v.map ofF)[((k : Nat) : Int).toNat]! = ofF v[k] := by rw [getE _ _ (by rw [List.length_map]; omega)]; exact List.getElem_map ..
  generalize v[k] = f at hgt
  have hcut := cut_map v k
  have hc1 : ([] ++ (subL (v.map ofF) 0 (k : Int))).length * 32 ≤ 140737488355328 := by rw [List.nil_append, subL_to _ _ (by omega), List.length_take]; omega
  have hc2 : ([] ++ subL (v.map ofF) 0 (k : Int) ++ subL (v.map ofF) ((k : Int) + 1) ((v.map ofF).length : Int)).length * 32 ≤ 140737488355328 := by rw [hcut, List.length_map, List.length_append, List.length_take, List.length_drop]; omega
  rw [List.length_map] at hcut hc2
  have hcl : (v.take k ++ v.drop (k + 1)).length ≤ 107 := by rw [List.length_append, List.length_take, List.length_drop]; omega
  have hr := ia.receive f
  have hcount := receive_count a f ia
  have hw2 := hr.w2
  have t1 := G_sameTexts (a.receive f).2 (by have := receive_len a f ia; omega)
  have m1 := G_same (ofL (a.receive f).1) (by have := hr.ql; show (a.receive f).1.queue.length ≤ _; omega) (by have := hr.held_len; show ((a.receive f).1.held.map ofH).length ≤ _; rw [List.length_map]; omega)
  have hgl : (g ++ (a.receive f).2).length * 16 ≤ 140737488355328 := by rw [List.length_append]; omega
  refine ⟨n, g ++ (a.receive f).2, h, (a.receive f).1, b, v, w, ?_, ⟨by omega, by omega, hr, ib, by rw [List.length_append]; omega, ih, iv, iw⟩⟩
  simp (disch := first | omega | (simp; omega)) only [g_law42_LinkRunsAsSpecified_l25, ↓e, ↓hx, ↓hk, ↓cndT, ↓cndF, ↓gd_pos, cndT, cndF, cnd_dec, if_pos, if_neg, gd_pos, bnd_eq, e, hx, hk, w_id, hwl, hvl, decide_eq_true_eq, Bool.not_true, cnd_false, if_true, hk1, hgt, hcut, gd_pos hc1, gd_pos hc2, G_Receive ia, G_rReceive ia, t1, m1, gd_pos hgl]
  rfl
set_option maxHeartbeats 4000000 in
theorem rs_way4_0 (hl : l.length ≤ 300) (I : RInv l n i g h a b v w) (hi : i < l.length) (e : l[((i : Nat) : Int).toNat]! = o) (ho : o.Wt) (hx : Int.tmod o.vSide 2 = 0) (hk : Int.tmod o.vKind 5 = 4) : RStep l n i g h a b v w := by
  obtain ⟨in1, ii, ia, ib, ig, ih, iv, iw⟩ := I
  obtain ⟨⟨k1, k2⟩, ⟨s1, s2⟩, n1, n2⟩ := ho
  have hvl : (v.map ofF).length = v.length := List.length_map ..
  have hwl : (w.map ofF).length = w.length := List.length_map ..
  have hfa := frames_len a
  have hfb := frames_len b
  have ga := ia.w2
  have gb := ib.w2
  unfold RStep rst
  by_cases hv0 : v.length = 0
  · refine ⟨n, g, h, a, b, v, w, ?_, ⟨by omega, by omega, ia, ib, ig, ih, iv, iw⟩⟩
    simp (disch := first | omega | (simp; omega)) only [g_law42_LinkRunsAsSpecified_l25, ↓e, ↓hx, ↓hk, ↓cndT, ↓cndF, ↓gd_pos, cndT, cndF, cnd_dec, if_pos, if_neg, gd_pos, bnd_eq, e, hx, hk, w_id, hwl, hvl, decide_eq_true_eq, Bool.not_true, cnd_false, if_true]
    rfl
  obtain ⟨k, hk1, hk2⟩ := tmod_range n1 (show 0 < v.length by omega)
  have hgt : (v.map ofF)[((k : Nat) : Int).toNat]! = ofF v[k] := by rw [getE _ _ (by rw [List.length_map]; omega)]; exact List.getElem_map ..
  generalize v[k] = f at hgt
  have hcut := cut_map v k
  have hc1 : ([] ++ (subL (v.map ofF) 0 (k : Int))).length * 32 ≤ 140737488355328 := by rw [List.nil_append, subL_to _ _ (by omega), List.length_take]; omega
  have hc2 : ([] ++ subL (v.map ofF) 0 (k : Int) ++ subL (v.map ofF) ((k : Int) + 1) ((v.map ofF).length : Int)).length * 32 ≤ 140737488355328 := by rw [hcut, List.length_map, List.length_append, List.length_take, List.length_drop]; omega
  rw [List.length_map] at hcut hc2
  have hcl : (v.take k ++ v.drop (k + 1)).length ≤ 107 := by rw [List.length_append, List.length_take, List.length_drop]; omega
  refine ⟨n, g, h, a, b, v.take k ++ v.drop (k + 1), w, ?_, ⟨by omega, by omega, ia, ib, ig, ih, hcl, iw⟩⟩
  simp (disch := first | omega | (simp; omega)) only [g_law42_LinkRunsAsSpecified_l25, ↓e, ↓hx, ↓hk, ↓cndT, ↓cndF, ↓gd_pos, cndT, cndF, cnd_dec, if_pos, if_neg, gd_pos, bnd_eq, e, hx, hk, w_id, hwl, hvl, decide_eq_true_eq, Bool.not_true, cnd_false, if_true, hk1, hgt, hcut, gd_pos hc1, gd_pos hc2]
  rfl
set_option maxHeartbeats 4000000 in
theorem rs_send1 (hl : l.length ≤ 300) (I : RInv l n i g h a b v w) (hi : i < l.length) (e : l[((i : Nat) : Int).toNat]! = o) (ho : o.Wt) (hx : Int.tmod o.vSide 2 = 1) (hk : Int.tmod o.vKind 5 = 0) : RStep l n i g h a b v w := by
  obtain ⟨in1, ii, ia, ib, ig, ih, iv, iw⟩ := I
  obtain ⟨⟨k1, k2⟩, ⟨s1, s2⟩, n1, n2⟩ := ho
  have hvl : (v.map ofF).length = v.length := List.length_map ..
  have hwl : (w.map ofF).length = w.length := List.length_map ..
  have hfa := frames_len a
  have hfb := frames_len b
  have ga := ia.w2
  have gb := ib.w2
  unfold RStep rst
  obtain ⟨t, ht, _⟩ := word_ex 1 ((n : Int) + 1)
  have hs := sendE_ok ib t
  refine ⟨n + 1, g, h, a, (sendE b t).1, v, w, ?_, ⟨by omega, by omega, ia, hs.1, ig, by rw [hs.2]; exact ih, iv, iw⟩⟩
  simp (disch := first | omega | (simp; omega)) only [g_law42_LinkRunsAsSpecified_l25, ↓e, ↓hx, ↓hk, ↓cndT, ↓cndF, ↓gd_pos, cndT, cndF, cnd_dec, if_pos, if_neg, gd_pos, bnd_eq, e, hx, hk, w_id, hwl, hvl, decide_eq_true_eq, Bool.not_true, cnd_false, if_true, ht, G_Send ib, G_rSend ib]
  rfl
set_option maxHeartbeats 4000000 in
theorem rs_frames1 (hl : l.length ≤ 300) (I : RInv l n i g h a b v w) (hi : i < l.length) (e : l[((i : Nat) : Int).toNat]! = o) (ho : o.Wt) (hx : Int.tmod o.vSide 2 = 1) (hk : Int.tmod o.vKind 5 = 1) : RStep l n i g h a b v w := by
  obtain ⟨in1, ii, ia, ib, ig, ih, iv, iw⟩ := I
  obtain ⟨⟨k1, k2⟩, ⟨s1, s2⟩, n1, n2⟩ := ho
  have hvl : (v.map ofF).length = v.length := List.length_map ..
  have hwl : (w.map ofF).length = w.length := List.length_map ..
  have hfa := frames_len a
  have hfb := frames_len b
  have ga := ia.w2
  have gb := ib.w2
  unfold RStep rst
  have f1 := G_sameFrames (b.frames.map ofF) (by simp; omega)
  by_cases hc : v.length < 100
  · refine ⟨n, g, h, a, b, v ++ b.frames, w, ?_, ⟨by omega, by omega, ia, ib, ig, ih, by simp; omega, iw⟩⟩
    simp (disch := first | omega | (simp; omega)) only [g_law42_LinkRunsAsSpecified_l25, ↓e, ↓hx, ↓hk, ↓cndT, ↓cndF, ↓gd_pos, cndT, cndF, cnd_dec, if_pos, if_neg, gd_pos, bnd_eq, e, hx, hk, w_id, hwl, hvl, decide_eq_true_eq, Bool.not_true, cnd_false, if_true, G_rFrames ib, G_Frames ib, f1]
    simp only [List.map_append]
    rfl
  · refine ⟨n, g, h, a, b, v, w, ?_, ⟨by omega, by omega, ia, ib, ig, ih, iv, iw⟩⟩
    simp (disch := first | omega | (simp; omega)) only [g_law42_LinkRunsAsSpecified_l25, ↓e, ↓hx, ↓hk, ↓cndT, ↓cndF, ↓gd_pos, cndT, cndF, cnd_dec, if_pos, if_neg, gd_pos, bnd_eq, e, hx, hk, w_id, hwl, hvl, decide_eq_true_eq, Bool.not_true, cnd_false, if_true, G_rFrames ib, G_Frames ib, f1]
    rfl
set_option maxHeartbeats 4000000 in
theorem rs_way2_1 (hl : l.length ≤ 300) (I : RInv l n i g h a b v w) (hi : i < l.length) (e : l[((i : Nat) : Int).toNat]! = o) (ho : o.Wt) (hx : Int.tmod o.vSide 2 = 1) (hk : Int.tmod o.vKind 5 = 2) : RStep l n i g h a b v w := by
  obtain ⟨in1, ii, ia, ib, ig, ih, iv, iw⟩ := I
  obtain ⟨⟨k1, k2⟩, ⟨s1, s2⟩, n1, n2⟩ := ho
  have hvl : (v.map ofF).length = v.length := List.length_map ..
  have hwl : (w.map ofF).length = w.length := List.length_map ..
  have hfa := frames_len a
  have hfb := frames_len b
  have ga := ia.w2
  have gb := ib.w2
  unfold RStep rst
  by_cases hv0 : w.length = 0
  · refine ⟨n, g, h, a, b, v, w, ?_, ⟨by omega, by omega, ia, ib, ig, ih, iv, iw⟩⟩
    simp (disch := first | omega | (simp; omega)) only [g_law42_LinkRunsAsSpecified_l25, ↓e, ↓hx, ↓hk, ↓cndT, ↓cndF, ↓gd_pos, cndT, cndF, cnd_dec, if_pos, if_neg, gd_pos, bnd_eq, e, hx, hk, w_id, hwl, hvl, decide_eq_true_eq, Bool.not_true, cnd_false, if_true]
    rfl
  obtain ⟨k, hk1, hk2⟩ := tmod_range n1 (show 0 < w.length by omega)
  have hgt : (w.map ofF)[((k : Nat) : Int).toNat]! = ofF w[k] := by rw [getE _ _ (by rw [List.length_map]; omega)]; exact List.getElem_map ..
  generalize w[k] = f at hgt
  have hcut := cut_map w k
  have hc1 : ([] ++ (subL (w.map ofF) 0 (k : Int))).length * 32 ≤ 140737488355328 := by rw [List.nil_append, subL_to _ _ (by omega), List.length_take]; omega
  have hc2 : ([] ++ subL (w.map ofF) 0 (k : Int) ++ subL (w.map ofF) ((k : Int) + 1) ((w.map ofF).length : Int)).length * 32 ≤ 140737488355328 := by rw [hcut, List.length_map, List.length_append, List.length_take, List.length_drop]; omega
  rw [List.length_map] at hcut hc2
  have hcl : (w.take k ++ w.drop (k + 1)).length ≤ 107 := by rw [List.length_append, List.length_take, List.length_drop]; omega
  have hr := ib.receive f
  have hcount := receive_count b f ib
  have hw2 := hr.w2
  have t1 := G_sameTexts (b.receive f).2 (by have := receive_len b f ib; omega)
  have m1 := G_same (ofL (b.receive f).1) (by have := hr.ql; show (b.receive f).1.queue.length ≤ _; omega) (by have := hr.held_len; show ((b.receive f).1.held.map ofH).length ≤ _; rw [List.length_map]; omega)
  have hgl : (h ++ (b.receive f).2).length * 16 ≤ 140737488355328 := by rw [List.length_append]; omega
  refine ⟨n, g, h ++ (b.receive f).2, a, (b.receive f).1, v, w.take k ++ w.drop (k + 1), ?_, ⟨by omega, by omega, ia, hr, ig, by rw [List.length_append]; omega, iv, hcl⟩⟩
  simp (disch := first | omega | (simp; omega)) only [g_law42_LinkRunsAsSpecified_l25, ↓e, ↓hx, ↓hk, ↓cndT, ↓cndF, ↓gd_pos, cndT, cndF, cnd_dec, if_pos, if_neg, gd_pos, bnd_eq, e, hx, hk, w_id, hwl, hvl, decide_eq_true_eq, Bool.not_true, cnd_false, if_true, hk1, hgt, hcut, gd_pos hc1, gd_pos hc2, G_Receive ib, G_rReceive ib, t1, m1, gd_pos hgl]
  rfl
set_option maxHeartbeats 4000000 in
theorem rs_way3_1 (hl : l.length ≤ 300) (I : RInv l n i g h a b v w) (hi : i < l.length) (e : l[((i : Nat) : Int).toNat]! = o) (ho : o.Wt) (hx : Int.tmod o.vSide 2 = 1) (hk : Int.tmod o.vKind 5 = 3) : RStep l n i g h a b v w := by
  obtain ⟨in1, ii, ia, ib, ig, ih, iv, iw⟩ := I
  obtain ⟨⟨k1, k2⟩, ⟨s1, s2⟩, n1, n2⟩ := ho
  have hvl : (v.map ofF).length = v.length := List.length_map ..
  have hwl : (w.map ofF).length = w.length := List.length_map ..
  have hfa := frames_len a
  have hfb := frames_len b
  have ga := ia.w2
  have gb := ib.w2
  unfold RStep rst
  by_cases hv0 : w.length = 0
  · refine ⟨n, g, h, a, b, v, w, ?_, ⟨by omega, by omega, ia, ib, ig, ih, iv, iw⟩⟩
    simp (disch := first | omega | (simp; omega)) only [g_law42_LinkRunsAsSpecified_l25, ↓e, ↓hx, ↓hk, ↓cndT, ↓cndF, ↓gd_pos, cndT, cndF, cnd_dec, if_pos, if_neg, gd_pos, bnd_eq, e, hx, hk, w_id, hwl, hvl, decide_eq_true_eq, Bool.not_true, cnd_false, if_true]
    rfl
  obtain ⟨k, hk1, hk2⟩ := tmod_range n1 (show 0 < w.length by omega)
  have hgt : (w.map ofF)[((k : Nat) : Int).toNat]! = ofF w[k] := by rw [getE _ _ (by rw [List.length_map]; omega)]; exact List.getElem_map ..
  generalize w[k] = f at hgt
  have hcut := cut_map w k
  have hc1 : ([] ++ (subL (w.map ofF) 0 (k : Int))).length * 32 ≤ 140737488355328 := by rw [List.nil_append, subL_to _ _ (by omega), List.length_take]; omega
  have hc2 : ([] ++ subL (w.map ofF) 0 (k : Int) ++ subL (w.map ofF) ((k : Int) + 1) ((w.map ofF).length : Int)).length * 32 ≤ 140737488355328 := by rw [hcut, List.length_map, List.length_append, List.length_take, List.length_drop]; omega
  rw [List.length_map] at hcut hc2
  have hcl : (w.take k ++ w.drop (k + 1)).length ≤ 107 := by rw [List.length_append, List.length_take, List.length_drop]; omega
  have hr := ib.receive f
  have hcount := receive_count b f ib
  have hw2 := hr.w2
  have t1 := G_sameTexts (b.receive f).2 (by have := receive_len b f ib; omega)
  have m1 := G_same (ofL (b.receive f).1) (by have := hr.ql; show (b.receive f).1.queue.length ≤ _; omega) (by have := hr.held_len; show ((b.receive f).1.held.map ofH).length ≤ _; rw [List.length_map]; omega)
  have hgl : (h ++ (b.receive f).2).length * 16 ≤ 140737488355328 := by rw [List.length_append]; omega
  refine ⟨n, g, h ++ (b.receive f).2, a, (b.receive f).1, v, w, ?_, ⟨by omega, by omega, ia, hr, ig, by rw [List.length_append]; omega, iv, iw⟩⟩
  simp (disch := first | omega | (simp; omega)) only [g_law42_LinkRunsAsSpecified_l25, ↓e, ↓hx, ↓hk, ↓cndT, ↓cndF, ↓gd_pos, cndT, cndF, cnd_dec, if_pos, if_neg, gd_pos, bnd_eq, e, hx, hk, w_id, hwl, hvl, decide_eq_true_eq, Bool.not_true, cnd_false, if_true, hk1, hgt, hcut, gd_pos hc1, gd_pos hc2, G_Receive ib, G_rReceive ib, t1, m1, gd_pos hgl]
  rfl
set_option maxHeartbeats 4000000 in
theorem rs_way4_1 (hl : l.length ≤ 300) (I : RInv l n i g h a b v w) (hi : i < l.length) (e : l[((i : Nat) : Int).toNat]! = o) (ho : o.Wt) (hx : Int.tmod o.vSide 2 = 1) (hk : Int.tmod o.vKind 5 = 4) : RStep l n i g h a b v w := by
  obtain ⟨in1, ii, ia, ib, ig, ih, iv, iw⟩ := I
  obtain ⟨⟨k1, k2⟩, ⟨s1, s2⟩, n1, n2⟩ := ho
  have hvl : (v.map ofF).length = v.length := List.length_map ..
  have hwl : (w.map ofF).length = w.length := List.length_map ..
  have hfa := frames_len a
  have hfb := frames_len b
  have ga := ia.w2
  have gb := ib.w2
  unfold RStep rst
  by_cases hv0 : w.length = 0
  · refine ⟨n, g, h, a, b, v, w, ?_, ⟨by omega, by omega, ia, ib, ig, ih, iv, iw⟩⟩
    simp (disch := first | omega | (simp; omega)) only [g_law42_LinkRunsAsSpecified_l25, ↓e, ↓hx, ↓hk, ↓cndT, ↓cndF, ↓gd_pos, cndT, cndF, cnd_dec, if_pos, if_neg, gd_pos, bnd_eq, e, hx, hk, w_id, hwl, hvl, decide_eq_true_eq, Bool.not_true, cnd_false, if_true]
    rfl
  obtain ⟨k, hk1, hk2⟩ := tmod_range n1 (show 0 < w.length by omega)
  have hgt : (w.map ofF)[((k : Nat) : Int).toNat]! = ofF w[k] := by rw [getE _ _ (by rw [List.length_map]; omega)]; exact List.getElem_map ..
  generalize w[k] = f at hgt
  have hcut := cut_map w k
  have hc1 : ([] ++ (subL (w.map ofF) 0 (k : Int))).length * 32 ≤ 140737488355328 := by rw [List.nil_append, subL_to _ _ (by omega), List.length_take]; omega
  have hc2 : ([] ++ subL (w.map ofF) 0 (k : Int) ++ subL (w.map ofF) ((k : Int) + 1) ((w.map ofF).length : Int)).length * 32 ≤ 140737488355328 := by rw [hcut, List.length_map, List.length_append, List.length_take, List.length_drop]; omega
  rw [List.length_map] at hcut hc2
  have hcl : (w.take k ++ w.drop (k + 1)).length ≤ 107 := by rw [List.length_append, List.length_take, List.length_drop]; omega
  refine ⟨n, g, h, a, b, v, w.take k ++ w.drop (k + 1), ?_, ⟨by omega, by omega, ia, ib, ig, ih, iv, hcl⟩⟩
  simp (disch := first | omega | (simp; omega)) only [g_law42_LinkRunsAsSpecified_l25, ↓e, ↓hx, ↓hk, ↓cndT, ↓cndF, ↓gd_pos, cndT, cndF, cnd_dec, if_pos, if_neg, gd_pos, bnd_eq, e, hx, hk, w_id, hwl, hvl, decide_eq_true_eq, Bool.not_true, cnd_false, if_true, hk1, hgt, hcut, gd_pos hc1, gd_pos hc2]
  rfl
theorem runs_step (l : List S_Op) (hw : ∀ o ∈ l, o.Wt) (hl : l.length ≤ 300) {n i : Nat} {g h : List ByteArray} {a b : LEnd} {v w : List LFrame} (I : RInv l n i g h a b v w) (hi : i < l.length) : RStep l n i g h a b v w := by
  have e : l[((i : Nat) : Int).toNat]! = l[i] := getE _ _ hi
  have ho := hw l[i] (List.getElem_mem hi)
  generalize l[i] = o at e ho
  have hx : Int.tmod o.vSide 2 = 0 ∨ Int.tmod o.vSide 2 = 1 := by
    rw [Int.tmod_eq_emod_of_nonneg ho.2.1.1]; omega
  have hk : Int.tmod o.vKind 5 = 0 ∨ Int.tmod o.vKind 5 = 1 ∨ Int.tmod o.vKind 5 = 2 ∨ Int.tmod o.vKind 5 = 3 ∨ Int.tmod o.vKind 5 = 4 := by
    rw [Int.tmod_eq_emod_of_nonneg ho.1.1]; omega
  rcases hx with hx | hx <;> rcases hk with hk | hk | hk | hk | hk
  · exact rs_send0 hl I hi e ho hx hk
  · exact rs_frames0 hl I hi e ho hx hk
  · exact rs_way2_0 hl I hi e ho hx hk
  · exact rs_way3_0 hl I hi e ho hx hk
  · exact rs_way4_0 hl I hi e ho hx hk
  · exact rs_send1 hl I hi e ho hx hk
  · exact rs_frames1 hl I hi e ho hx hk
  · exact rs_way2_1 hl I hi e ho hx hk
  · exact rs_way3_1 hl I hi e ho hx hk
  · exact rs_way4_1 hl I hi e ho hx hk
end
theorem runs_loop (l : List S_Op) (hw : ∀ o ∈ l, o.Wt) (hl : l.length ≤ 300) : ∀ (k n i : Nat) (g h : List ByteArray) (a b : LEnd) (v w : List LFrame), l.length - i = k → RInv l n i g h a b v w →
    ∃ g' h' a' b', loopO (g_law42_LinkRunsAsSpecified_l25 l) (rst n i g h a b v w) = some (.inr (g', h', ofL a', ofL b', ofL a', ofL b')) ∧ a'.Ok ∧ b'.Ok ∧ (g'.length : Int) + 1 = a'.want ∧ (h'.length : Int) + 1 = b'.want
  | 0, n, i, g, h, a, b, v, w, hk, I => by
    refine ⟨g, h, a, b, loopO_inr ?_, I.ja, I.jb, I.jg, I.jh⟩
    have := I.ji
    unfold g_law42_LinkRunsAsSpecified_l25 rst
    dsimp only
    rw [cnd_neg _ _ (decide_eq_false (by omega))]
  | k + 1, n, i, g, h, a, b, v, w, hk, I => by
    obtain ⟨n', g', h', a', b', v', w', h1, h2⟩ := runs_step l hw hl I (by omega)
    rw [loopO_inl h1]
    exact runs_loop l hw hl k n' (i + 1) g' h' a' b' v' w' (by omega) h2
theorem G_runs (l : List S_Op) (hw : ∀ o ∈ l, o.Wt) : g_law42_LinkRunsAsSpecified l = some true := by
  unfold g_law42_LinkRunsAsSpecified
  rw [G_sanity, G_New, G_rNew, cnd_dec]
  by_cases hl : l.length ≤ 300
  · rw [if_neg (by omega)]
    simp only [bnd_eq]
    have h0 : RInv l 0 0 [] [] e0 e0 [] [] := ⟨by omega, by omega, e0_ok, e0_ok, rfl, rfl, by simp, by simp⟩
    obtain ⟨g, h, a, b, h1, h2, h3, h4, h5⟩ := runs_loop l hw hl _ _ _ _ _ _ _ _ _ rfl h0
    have w1 := h2.w2; have w2 := h3.w2
    refine (bnd_of h1 _).trans ?_
    dsimp only
    have m1 := G_same (ofL a) (by have := h2.ql; show a.queue.length ≤ _; omega) (by have := h2.held_len; show (a.held.map ofH).length ≤ _; rw [List.length_map]; omega)
    have m2 := G_same (ofL b) (by have := h3.ql; show b.queue.length ≤ _; omega) (by have := h3.held_len; show (b.held.map ofH).length ≤ _; rw [List.length_map]; omega)
    rw [m1, m2, bnd_eq, bnd_eq, cnd_true, cnd_true, w_id (by omega), w_id (by omega), cnd_dec, if_pos (show ((g.length : Int) + 1) = (ofL a).vWant from h4)]
    rw [decide_eq_true (show ((h.length : Int) + 1) = (ofL b).vWant from h5)]
    rfl
  · rw [if_pos (by omega)]; rfl
end Go.Proofs.Ytakbadleipbngaa
