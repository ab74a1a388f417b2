/-
  layer 42: one operation on two ends, as it is in the law (written by a program of mine). Conditions: none.
-/
import Derived.Test.YtakbadleipbngaaLinkY
import Derived.Test.YtakbadleipbngaaLinkZ
import Derived.Test.YtakbadleipbngaaGD
set_option linter.all false
namespace Go.Proofs.Ytakbadleipbngaa
open Go.RowKit
def S_Op.Wt (o : S_Op) : Prop := (0 ≤ o.vKind ∧ o.vKind ≤ 255) ∧ (0 ≤ o.vSide ∧ o.vSide ≤ 255) ∧ 0 ≤ o.vN ∧ o.vN ≤ 65535
abbrev KSt := Int × S_End × S_End × List ByteArray × List ByteArray × List ByteArray × List ByteArray × List S_Frame × S_End × S_End × List ByteArray × List ByteArray × List ByteArray × List ByteArray × List S_Frame
def kst (i : Nat) (p q : Pty) : KSt := ((i : Int), ofL p.x, ofL p.old, p.sent, p.got, p.oldS, p.oldG, p.way.map ofF, ofL q.x, ofL q.old, q.sent, q.got, q.oldS, q.oldG, q.way.map ofF)
structure KInv (i : Nat) (p q : Pty) : Prop where
  b : Both p q
  p : p.Fit i
  q : q.Fit i
theorem Pty.Fit.up {p : Pty} {i : Nat} (h : p.Fit i) : p.Fit (i + 1) := ⟨h.x, h.old, by have := h.s; omega, h.y⟩
theorem KInv.lens {i : Nat} {p q : Pty} (h : KInv i p q) : p.got.length ≤ i ∧ q.got.length ≤ i ∧ p.oldS.length ≤ i ∧ q.oldS.length ≤ i := by
  have h1 := h.b.1.pr.length_le
  have h2 := h.b.2.pr.length_le
  have h3 := h.p.s
  have h4 := h.q.s
  have g1 : p.got.length ≤ q.oldS.length := by rw [h.b.2.rx.g, List.length_take]; omega
  have g2 : q.got.length ≤ p.oldS.length := by rw [h.b.1.rx.g, List.length_take]; omega
  omega
def KStep (l : List S_Op) (i : Nat) (p q : Pty) : Prop := ∃ p' q', g_law42_run_l9 l (kst i p q) = some (.inl (kst (i + 1) p' q')) ∧ KInv (i + 1) p' q'
theorem cut_map (v : List LFrame) (k : Nat) : ([] ++ subL (v.map ofF) 0 (k : Int)) ++ subL (v.map ofF) ((k : Int) + 1) ((v.map ofF).length : Int) = (v.take k ++ v.drop (k + 1)).map ofF := by
  rw [subL_to _ _ (by omega), subL_from, List.nil_append, Int.toNat_natCast, show ((k : Int) + 1).toNat = k + 1 by omega, List.map_append, List.map_take, List.map_drop]
theorem tmod_range {x : Int} (hx : 0 ≤ x) {m : Nat} (hm : 0 < m) : ∃ k : Nat, Int.tmod x m = k ∧ k < m := by
  refine ⟨(Int.tmod x m).toNat, ?_, ?_⟩
  · rw [Int.toNat_of_nonneg (Int.tmod_nonneg _ hx)]
  · have := Int.tmod_lt_of_pos x (show (0 : Int) < m by omega)
    have := Int.tmod_nonneg (m : Int) hx
    omega
theorem cut_mem {v : List LFrame} {k : Nat} : ∀ f ∈ v.take k ++ v.drop (k + 1), f ∈ v := fun f hf => by
  rcases List.mem_append.1 hf with hf | hf
  · exact List.mem_of_mem_take hf
  · exact List.mem_of_mem_drop hf
section
variable {l : List S_Op} {i : Nat} {p q : Pty} {o : S_Op}
set_option maxHeartbeats 4000000 in
theorem ks_send0 (hl : l.length ≤ 300) (I : KInv i p q) (hi : i < l.length) (e : l[((i : Nat) : Int).toNat]! = o) (ho : o.Wt) (hx : Int.tmod o.vSide 2 = 0) (hk : Int.tmod o.vKind 7 = 0) : KStep l i p q := by
  obtain ⟨⟨k1, k2⟩, ⟨s1, s2⟩, n1, n2⟩ := ho
  obtain ⟨lg, lh, lo, lp⟩ := I.lens
  have ls := I.p.s
  have lt := I.q.s
  have ly := I.p.y
  have lz := I.q.y
  have hvl : (p.way.map ofF).length = p.way.length := List.length_map ..
  have hwl : (q.way.map ofF).length = q.way.length := List.length_map ..
  have hfa := frames_len p.old
  have hfb := frames_len q.old
  unfold KStep kst
  obtain ⟨t, ht, ht4⟩ := word_ex 0 ((p.sent.length : Nat) : Int)
  have hok := I.p.x
  by_cases hq : 64 ≤ p.x.queue.length
  · have hs : sendE p.x t = (p.x, 432) := by unfold sendE; rw [if_neg (by omega), if_pos hq]
    refine ⟨p, q, ?_, ⟨I.b, I.p.up, I.q.up⟩⟩
    simp (disch := first | omega | (simp; omega)) only [g_law42_run_l9, ↓e, ↓hx, ↓hk, ↓cndT, ↓cndF, ↓gd_pos, cndT, cndF, gd_pos, bnd_eq, e, hx, hk, w_id, hwl, hvl, Bool.not_true, cnd_false, cnd_true, subL_self, ne_eq, not_true_eq_false, not_false_eq_true, ht, G_Send hok, hs]
    rfl
  · have hs : sendE p.x t = (p.x.send t, 0) := by unfold sendE; rw [if_neg (by omega), if_neg hq]
    have hok2 := (sendE_ok hok t).1
    rw [hs] at hok2
    refine ⟨{ p with x := p.x.send t, sent := p.sent ++ [t] }, q, ?_, ⟨I.b.send t, ⟨hok2, I.p.old, by show (p.sent ++ [t]).length ≤ _; rw [List.length_append]; have := I.p.s; simp; omega, I.p.y⟩, I.q.up⟩⟩
    simp (disch := first | omega | (simp; omega)) only [g_law42_run_l9, ↓e, ↓hx, ↓hk, ↓cndT, ↓cndF, ↓gd_pos, cndT, cndF, gd_pos, bnd_eq, e, hx, hk, w_id, hwl, hvl, Bool.not_true, cnd_false, cnd_true, subL_self, ne_eq, not_true_eq_false, not_false_eq_true, ht, G_Send hok, hs]
    rfl
set_option maxHeartbeats 4000000 in
theorem ks_frames0 (hl : l.length ≤ 300) (I : KInv i p q) (hi : i < l.length) (e : l[((i : Nat) : Int).toNat]! = o) (ho : o.Wt) (hx : Int.tmod o.vSide 2 = 0) (hk : Int.tmod o.vKind 7 = 1) : KStep l i p q := by
  obtain ⟨⟨k1, k2⟩, ⟨s1, s2⟩, n1, n2⟩ := ho
  obtain ⟨lg, lh, lo, lp⟩ := I.lens
  have ls := I.p.s
  have lt := I.q.s
  have ly := I.p.y
  have lz := I.q.y
  have hvl : (p.way.map ofF).length = p.way.length := List.length_map ..
  have hwl : (q.way.map ofF).length = q.way.length := List.length_map ..
  have hfa := frames_len p.old
  have hfb := frames_len q.old
  unfold KStep kst
  have hok := I.p.old
  by_cases hc : q.way.length < 100
  · refine ⟨p, { q with way := q.way ++ p.old.frames }, ?_, ⟨I.b.frames, I.p.up, ⟨I.q.x, I.q.old, by have := I.q.s; show q.sent.length ≤ _; omega, by show (q.way ++ p.old.frames).length ≤ _; rw [List.length_append]; omega⟩⟩⟩
    simp (disch := first | omega | (simp; omega)) only [g_law42_run_l9, ↓e, ↓hx, ↓hk, ↓cndT, ↓cndF, ↓gd_pos, cndT, cndF, gd_pos, bnd_eq, e, hx, hk, w_id, hwl, hvl, Bool.not_true, cnd_false, cnd_true, subL_self, ne_eq, not_true_eq_false, not_false_eq_true, G_Frames hok]
    simp only [List.map_append]
    rfl
  · refine ⟨p, q, ?_, ⟨I.b, I.p.up, I.q.up⟩⟩
    simp (disch := first | omega | (simp; omega)) only [g_law42_run_l9, ↓e, ↓hx, ↓hk, ↓cndT, ↓cndF, ↓gd_pos, cndT, cndF, gd_pos, bnd_eq, e, hx, hk, w_id, hwl, hvl, Bool.not_true, cnd_false, cnd_true, subL_self, ne_eq, not_true_eq_false, not_false_eq_true]
    rfl
set_option maxHeartbeats 4000000 in
theorem ks_one0 (hl : l.length ≤ 300) (I : KInv i p q) (hi : i < l.length) (e : l[((i : Nat) : Int).toNat]! = o) (ho : o.Wt) (hx : Int.tmod o.vSide 2 = 0) (hk : Int.tmod o.vKind 7 = 2) : KStep l i p q := by
  obtain ⟨⟨k1, k2⟩, ⟨s1, s2⟩, n1, n2⟩ := ho
  obtain ⟨lg, lh, lo, lp⟩ := I.lens
  have ls := I.p.s
  have lt := I.q.s
  have ly := I.p.y
  have lz := I.q.y
  have hvl : (p.way.map ofF).length = p.way.length := List.length_map ..
  have hwl : (q.way.map ofF).length = q.way.length := List.length_map ..
  have hfa := frames_len p.old
  have hfb := frames_len q.old
  unfold KStep kst
  by_cases hv0 : p.way.length = 0
  · refine ⟨p, q, ?_, ⟨I.b, I.p.up, I.q.up⟩⟩
    simp (disch := first | omega | (simp; omega)) only [g_law42_run_l9, ↓e, ↓hx, ↓hk, ↓cndT, ↓cndF, ↓gd_pos, cndT, cndF, gd_pos, bnd_eq, e, hx, hk, w_id, hwl, hvl, Bool.not_true, cnd_false, cnd_true, subL_self, ne_eq, not_true_eq_false, not_false_eq_true]
    rfl
  obtain ⟨k, hk1, hk2⟩ := tmod_range n1 (show 0 < p.way.length by omega)
  have hgt : (p.way.map ofF)[((k : Nat) : Int).toNat]! = ofF p.way[k] := by rw [getE _ _ (by rw [List.length_map]; omega)]; exact List.getElem_map ..
  have hmem : p.way[k] ∈ p.way := List.getElem_mem _
  generalize p.way[k] = f at hgt hmem
  have hcut := cut_map p.way k
  have hc1 : ([] ++ (subL (p.way.map ofF) 0 (k : Int))).length * 32 ≤ 140737488355328 := by rw [List.nil_append, subL_to _ _ (by omega), List.length_take]; omega
  have hc2 : ([] ++ subL (p.way.map ofF) 0 (k : Int) ++ subL (p.way.map ofF) ((k : Int) + 1) ((p.way.map ofF).length : Int)).length * 32 ≤ 140737488355328 := by rw [hcut, List.length_map, List.length_append, List.length_take, List.length_drop]; omega
  rw [List.length_map] at hcut hc2
  have hcl : (p.way.take k ++ p.way.drop (k + 1)).length ≤ 107 := by rw [List.length_append, List.length_take, List.length_drop]; omega
  have hok := I.p.x
  have hr := hok.receive f
  have hrl := receive_len p.x f hok
  have hgl : (p.got ++ (p.x.receive f).2).length * 16 ≤ 140737488355328 := by rw [List.length_append]; omega
  refine ⟨{ p with x := (p.x.receive f).1, got := p.got ++ (p.x.receive f).2, way := p.way.take k ++ p.way.drop (k + 1) }, q, ?_, ⟨(I.b.recv hmem).cut (l := p.way.take k ++ p.way.drop (k + 1)) cut_mem, ⟨hr, I.p.old, by have := I.p.s; show p.sent.length ≤ _; omega, hcl⟩, I.q.up⟩⟩
  by_cases htx : 0 < (p.x.receive f).2.length
  · simp (disch := first | omega | (simp; omega)) only [g_law42_run_l9, ↓e, ↓hx, ↓hk, ↓cndT, ↓cndF, ↓gd_pos, cndT, cndF, gd_pos, bnd_eq, e, hx, hk, w_id, hwl, hvl, Bool.not_true, cnd_false, cnd_true, subL_self, ne_eq, not_true_eq_false, not_false_eq_true, hk1, hgt, hcut, gd_pos hc1, gd_pos hc2, G_Receive hok, gd_pos hgl]
    rfl
  · have hnil : (p.x.receive f).2 = [] := List.eq_nil_of_length_eq_zero (by omega)
    simp (disch := first | omega | (simp; omega)) only [g_law42_run_l9, ↓e, ↓hx, ↓hk, ↓cndT, ↓cndF, ↓gd_pos, cndT, cndF, gd_pos, bnd_eq, e, hx, hk, w_id, hwl, hvl, Bool.not_true, cnd_false, cnd_true, subL_self, ne_eq, not_true_eq_false, not_false_eq_true, hk1, hgt, hcut, gd_pos hc1, gd_pos hc2, G_Receive hok, hnil, List.append_nil]
    rfl
set_option maxHeartbeats 4000000 in
theorem ks_two0 (hl : l.length ≤ 300) (I : KInv i p q) (hi : i < l.length) (e : l[((i : Nat) : Int).toNat]! = o) (ho : o.Wt) (hx : Int.tmod o.vSide 2 = 0) (hk : Int.tmod o.vKind 7 = 3) : KStep l i p q := by
  obtain ⟨⟨k1, k2⟩, ⟨s1, s2⟩, n1, n2⟩ := ho
  obtain ⟨lg, lh, lo, lp⟩ := I.lens
  have ls := I.p.s
  have lt := I.q.s
  have ly := I.p.y
  have lz := I.q.y
  have hvl : (p.way.map ofF).length = p.way.length := List.length_map ..
  have hwl : (q.way.map ofF).length = q.way.length := List.length_map ..
  have hfa := frames_len p.old
  have hfb := frames_len q.old
  unfold KStep kst
  by_cases hv0 : p.way.length = 0
  · refine ⟨p, q, ?_, ⟨I.b, I.p.up, I.q.up⟩⟩
    simp (disch := first | omega | (simp; omega)) only [g_law42_run_l9, ↓e, ↓hx, ↓hk, ↓cndT, ↓cndF, ↓gd_pos, cndT, cndF, gd_pos, bnd_eq, e, hx, hk, w_id, hwl, hvl, Bool.not_true, cnd_false, cnd_true, subL_self, ne_eq, not_true_eq_false, not_false_eq_true]
    rfl
  obtain ⟨k, hk1, hk2⟩ := tmod_range n1 (show 0 < p.way.length by omega)
  have hgt : (p.way.map ofF)[((k : Nat) : Int).toNat]! = ofF p.way[k] := by rw [getE _ _ (by rw [List.length_map]; omega)]; exact List.getElem_map ..
  have hmem : p.way[k] ∈ p.way := List.getElem_mem _
  generalize p.way[k] = f at hgt hmem
  have hok := I.p.x
  have hr := hok.receive f
  have hrl := receive_len p.x f hok
  have hgl : (p.got ++ (p.x.receive f).2).length * 16 ≤ 140737488355328 := by rw [List.length_append]; omega
  refine ⟨{ p with x := (p.x.receive f).1, got := p.got ++ (p.x.receive f).2 }, q, ?_, ⟨I.b.recv hmem, ⟨hr, I.p.old, by have := I.p.s; show p.sent.length ≤ _; omega, I.p.y⟩, I.q.up⟩⟩
  by_cases htx : 0 < (p.x.receive f).2.length
  · simp (disch := first | omega | (simp; omega)) only [g_law42_run_l9, ↓e, ↓hx, ↓hk, ↓cndT, ↓cndF, ↓gd_pos, cndT, cndF, gd_pos, bnd_eq, e, hx, hk, w_id, hwl, hvl, Bool.not_true, cnd_false, cnd_true, subL_self, ne_eq, not_true_eq_false, not_false_eq_true, hk1, hgt, G_Receive hok, gd_pos hgl]
    rfl
  · have hnil : (p.x.receive f).2 = [] := List.eq_nil_of_length_eq_zero (by omega)
    simp (disch := first | omega | (simp; omega)) only [g_law42_run_l9, ↓e, ↓hx, ↓hk, ↓cndT, ↓cndF, ↓gd_pos, cndT, cndF, gd_pos, bnd_eq, e, hx, hk, w_id, hwl, hvl, Bool.not_true, cnd_false, cnd_true, subL_self, ne_eq, not_true_eq_false, not_false_eq_true, hk1, hgt, G_Receive hok, hnil, List.append_nil]
    rfl
set_option maxHeartbeats 4000000 in
theorem ks_lost0 (hl : l.length ≤ 300) (I : KInv i p q) (hi : i < l.length) (e : l[((i : Nat) : Int).toNat]! = o) (ho : o.Wt) (hx : Int.tmod o.vSide 2 = 0) (hk : Int.tmod o.vKind 7 = 4) : KStep l i p q := by
  obtain ⟨⟨k1, k2⟩, ⟨s1, s2⟩, n1, n2⟩ := ho
  obtain ⟨lg, lh, lo, lp⟩ := I.lens
  have ls := I.p.s
  have lt := I.q.s
  have ly := I.p.y
  have lz := I.q.y
  have hvl : (p.way.map ofF).length = p.way.length := List.length_map ..
  have hwl : (q.way.map ofF).length = q.way.length := List.length_map ..
  have hfa := frames_len p.old
  have hfb := frames_len q.old
  unfold KStep kst
  by_cases hv0 : p.way.length = 0
  · refine ⟨p, q, ?_, ⟨I.b, I.p.up, I.q.up⟩⟩
    simp (disch := first | omega | (simp; omega)) only [g_law42_run_l9, ↓e, ↓hx, ↓hk, ↓cndT, ↓cndF, ↓gd_pos, cndT, cndF, gd_pos, bnd_eq, e, hx, hk, w_id, hwl, hvl, Bool.not_true, cnd_false, cnd_true, subL_self, ne_eq, not_true_eq_false, not_false_eq_true]
    rfl
  obtain ⟨k, hk1, hk2⟩ := tmod_range n1 (show 0 < p.way.length by omega)
  have hgt : (p.way.map ofF)[((k : Nat) : Int).toNat]! = ofF p.way[k] := by rw [getE _ _ (by rw [List.length_map]; omega)]; exact List.getElem_map ..
  have hmem : p.way[k] ∈ p.way := List.getElem_mem _
  generalize p.way[k] = f at hgt hmem
  have hcut := cut_map p.way k
  have hc1 : ([] ++ (subL (p.way.map ofF) 0 (k : Int))).length * 32 ≤ 140737488355328 := by rw [List.nil_append, subL_to _ _ (by omega), List.length_take]; omega
  have hc2 : ([] ++ subL (p.way.map ofF) 0 (k : Int) ++ subL (p.way.map ofF) ((k : Int) + 1) ((p.way.map ofF).length : Int)).length * 32 ≤ 140737488355328 := by rw [hcut, List.length_map, List.length_append, List.length_take, List.length_drop]; omega
  rw [List.length_map] at hcut hc2
  have hcl : (p.way.take k ++ p.way.drop (k + 1)).length ≤ 107 := by rw [List.length_append, List.length_take, List.length_drop]; omega
  refine ⟨{ p with way := p.way.take k ++ p.way.drop (k + 1) }, q, ?_, ⟨I.b.cut (l := p.way.take k ++ p.way.drop (k + 1)) cut_mem, ⟨I.p.x, I.p.old, by have := I.p.s; show p.sent.length ≤ _; omega, hcl⟩, I.q.up⟩⟩
  simp (disch := first | omega | (simp; omega)) only [g_law42_run_l9, ↓e, ↓hx, ↓hk, ↓cndT, ↓cndF, ↓gd_pos, cndT, cndF, gd_pos, bnd_eq, e, hx, hk, w_id, hwl, hvl, Bool.not_true, cnd_false, cnd_true, subL_self, ne_eq, not_true_eq_false, not_false_eq_true, hk1, hcut, gd_pos hc1, gd_pos hc2]
  rfl
set_option maxHeartbeats 4000000 in
theorem ks_pack0 (hl : l.length ≤ 300) (I : KInv i p q) (hi : i < l.length) (e : l[((i : Nat) : Int).toNat]! = o) (ho : o.Wt) (hx : Int.tmod o.vSide 2 = 0) (hk : Int.tmod o.vKind 7 = 5) : KStep l i p q := by
  obtain ⟨⟨k1, k2⟩, ⟨s1, s2⟩, n1, n2⟩ := ho
  obtain ⟨lg, lh, lo, lp⟩ := I.lens
  have ls := I.p.s
  have lt := I.q.s
  have ly := I.p.y
  have lz := I.q.y
  have hvl : (p.way.map ofF).length = p.way.length := List.length_map ..
  have hwl : (q.way.map ofF).length = q.way.length := List.length_map ..
  have hfa := frames_len p.old
  have hfb := frames_len q.old
  unfold KStep kst
  have hok := I.p.x
  have hp := G_Pack p.x hok.mach
  rw [if_pos ((LEnd.okB_iff _).2 hok)] at hp
  have hpl := pack_lens hok.pk
  have hu := G_Unpack p.x.pack (by unfold LEnd.pack; simp only [List.length_append]; omega)
  rw [unpack_pack hok] at hu
  dsimp only at hu
  refine ⟨{ p with old := p.x, oldS := p.sent, oldG := p.got }, q, ?_, ⟨I.b.pack, ⟨I.p.x, I.p.x, by have := I.p.s; show p.sent.length ≤ _; omega, I.p.y⟩, I.q.up⟩⟩
  simp (disch := first | omega | (simp; omega)) only [g_law42_run_l9, ↓e, ↓hx, ↓hk, ↓cndT, ↓cndF, ↓gd_pos, cndT, cndF, gd_pos, bnd_eq, e, hx, hk, w_id, hwl, hvl, Bool.not_true, cnd_false, cnd_true, subL_self, ne_eq, not_true_eq_false, not_false_eq_true, hp, hu]
  rfl
set_option maxHeartbeats 4000000 in
theorem ks_back0 (hl : l.length ≤ 300) (I : KInv i p q) (hi : i < l.length) (e : l[((i : Nat) : Int).toNat]! = o) (ho : o.Wt) (hx : Int.tmod o.vSide 2 = 0) (hk : Int.tmod o.vKind 7 = 6) : KStep l i p q := by
  obtain ⟨⟨k1, k2⟩, ⟨s1, s2⟩, n1, n2⟩ := ho
  obtain ⟨lg, lh, lo, lp⟩ := I.lens
  have ls := I.p.s
  have lt := I.q.s
  have ly := I.p.y
  have lz := I.q.y
  have hvl : (p.way.map ofF).length = p.way.length := List.length_map ..
  have hwl : (q.way.map ofF).length = q.way.length := List.length_map ..
  have hfa := frames_len p.old
  have hfb := frames_len q.old
  unfold KStep kst
  have hlo := I.b.1.pr.length_le
  refine ⟨{ p with x := p.old, sent := p.oldS, got := p.oldG }, q, ?_, ⟨I.b.back, ⟨I.p.old, I.p.old, by have := I.p.s; show p.oldS.length ≤ _; omega, I.p.y⟩, I.q.up⟩⟩
  simp (disch := first | omega | (simp; omega)) only [g_law42_run_l9, ↓e, ↓hx, ↓hk, ↓cndT, ↓cndF, ↓gd_pos, cndT, cndF, gd_pos, bnd_eq, e, hx, hk, w_id, hwl, hvl, Bool.not_true, cnd_false, cnd_true, subL_self, ne_eq, not_true_eq_false, not_false_eq_true]
  rfl
set_option maxHeartbeats 4000000 in
theorem ks_send1 (hl : l.length ≤ 300) (I : KInv i p q) (hi : i < l.length) (e : l[((i : Nat) : Int).toNat]! = o) (ho : o.Wt) (hx : Int.tmod o.vSide 2 = 1) (hk : Int.tmod o.vKind 7 = 0) : KStep l i p q := by
  obtain ⟨⟨k1, k2⟩, ⟨s1, s2⟩, n1, n2⟩ := ho
  obtain ⟨lg, lh, lo, lp⟩ := I.lens
  have ls := I.p.s
  have lt := I.q.s
  have ly := I.p.y
  have lz := I.q.y
  have hvl : (p.way.map ofF).length = p.way.length := List.length_map ..
  have hwl : (q.way.map ofF).length = q.way.length := List.length_map ..
  have hfa := frames_len p.old
  have hfb := frames_len q.old
  unfold KStep kst
  obtain ⟨t, ht, ht4⟩ := word_ex 1 ((q.sent.length : Nat) : Int)
  have hok := I.q.x
  by_cases hq : 64 ≤ q.x.queue.length
  · have hs : sendE q.x t = (q.x, 432) := by unfold sendE; rw [if_neg (by omega), if_pos hq]
    refine ⟨p, q, ?_, ⟨I.b, I.p.up, I.q.up⟩⟩
    simp (disch := first | omega | (simp; omega)) only [g_law42_run_l9, ↓e, ↓hx, ↓hk, ↓cndT, ↓cndF, ↓gd_pos, cndT, cndF, gd_pos, bnd_eq, e, hx, hk, w_id, hwl, hvl, Bool.not_true, cnd_false, cnd_true, subL_self, ne_eq, not_true_eq_false, not_false_eq_true, ht, G_Send hok, hs]
    rfl
  · have hs : sendE q.x t = (q.x.send t, 0) := by unfold sendE; rw [if_neg (by omega), if_neg hq]
    have hok2 := (sendE_ok hok t).1
    rw [hs] at hok2
    refine ⟨p, { q with x := q.x.send t, sent := q.sent ++ [t] }, ?_, ⟨(I.b.symm.send t).symm, I.p.up, ⟨hok2, I.q.old, by show (q.sent ++ [t]).length ≤ _; rw [List.length_append]; have := I.q.s; simp; omega, I.q.y⟩⟩⟩
    simp (disch := first | omega | (simp; omega)) only [g_law42_run_l9, ↓e, ↓hx, ↓hk, ↓cndT, ↓cndF, ↓gd_pos, cndT, cndF, gd_pos, bnd_eq, e, hx, hk, w_id, hwl, hvl, Bool.not_true, cnd_false, cnd_true, subL_self, ne_eq, not_true_eq_false, not_false_eq_true, ht, G_Send hok, hs]
    rfl
set_option maxHeartbeats 4000000 in
theorem ks_frames1 (hl : l.length ≤ 300) (I : KInv i p q) (hi : i < l.length) (e : l[((i : Nat) : Int).toNat]! = o) (ho : o.Wt) (hx : Int.tmod o.vSide 2 = 1) (hk : Int.tmod o.vKind 7 = 1) : KStep l i p q := by
  obtain ⟨⟨k1, k2⟩, ⟨s1, s2⟩, n1, n2⟩ := ho
  obtain ⟨lg, lh, lo, lp⟩ := I.lens
  have ls := I.p.s
  have lt := I.q.s
  have ly := I.p.y
  have lz := I.q.y
  have hvl : (p.way.map ofF).length = p.way.length := List.length_map ..
  have hwl : (q.way.map ofF).length = q.way.length := List.length_map ..
  have hfa := frames_len p.old
  have hfb := frames_len q.old
  unfold KStep kst
  have hok := I.q.old
  by_cases hc : p.way.length < 100
  · refine ⟨{ p with way := p.way ++ q.old.frames }, q, ?_, ⟨(I.b.symm.frames).symm, ⟨I.p.x, I.p.old, by have := I.p.s; show p.sent.length ≤ _; omega, by show (p.way ++ q.old.frames).length ≤ _; rw [List.length_append]; omega⟩, I.q.up⟩⟩
    simp (disch := first | omega | (simp; omega)) only [g_law42_run_l9, ↓e, ↓hx, ↓hk, ↓cndT, ↓cndF, ↓gd_pos, cndT, cndF, gd_pos, bnd_eq, e, hx, hk, w_id, hwl, hvl, Bool.not_true, cnd_false, cnd_true, subL_self, ne_eq, not_true_eq_false, not_false_eq_true, G_Frames hok]
    simp only [List.map_append]
    rfl
  · refine ⟨p, q, ?_, ⟨I.b, I.p.up, I.q.up⟩⟩
    simp (disch := first | omega | (simp; omega)) only [g_law42_run_l9, ↓e, ↓hx, ↓hk, ↓cndT, ↓cndF, ↓gd_pos, cndT, cndF, gd_pos, bnd_eq, e, hx, hk, w_id, hwl, hvl, Bool.not_true, cnd_false, cnd_true, subL_self, ne_eq, not_true_eq_false, not_false_eq_true]
    rfl
set_option maxHeartbeats 4000000 in
theorem ks_one1 (hl : l.length ≤ 300) (I : KInv i p q) (hi : i < l.length) (e : l[((i : Nat) : Int).toNat]! = o) (ho : o.Wt) (hx : Int.tmod o.vSide 2 = 1) (hk : Int.tmod o.vKind 7 = 2) : KStep l i p q := by
  obtain ⟨⟨k1, k2⟩, ⟨s1, s2⟩, n1, n2⟩ := ho
  obtain ⟨lg, lh, lo, lp⟩ := I.lens
  have ls := I.p.s
  have lt := I.q.s
  have ly := I.p.y
  have lz := I.q.y
  have hvl : (p.way.map ofF).length = p.way.length := List.length_map ..
  have hwl : (q.way.map ofF).length = q.way.length := List.length_map ..
  have hfa := frames_len p.old
  have hfb := frames_len q.old
  unfold KStep kst
  by_cases hv0 : q.way.length = 0
  · refine ⟨p, q, ?_, ⟨I.b, I.p.up, I.q.up⟩⟩
    simp (disch := first | omega | (simp; omega)) only [g_law42_run_l9, ↓e, ↓hx, ↓hk, ↓cndT, ↓cndF, ↓gd_pos, cndT, cndF, gd_pos, bnd_eq, e, hx, hk, w_id, hwl, hvl, Bool.not_true, cnd_false, cnd_true, subL_self, ne_eq, not_true_eq_false, not_false_eq_true]
    rfl
  obtain ⟨k, hk1, hk2⟩ := tmod_range n1 (show 0 < q.way.length by omega)
  have hgt : (q.way.map ofF)[((k : Nat) : Int).toNat]! = ofF q.way[k] := by rw [getE _ _ (by rw [List.length_map]; omega)]; exact List.getElem_map ..
  have hmem : q.way[k] ∈ q.way := List.getElem_mem _
  generalize q.way[k] = f at hgt hmem
  have hcut := cut_map q.way k
  have hc1 : ([] ++ (subL (q.way.map ofF) 0 (k : Int))).length * 32 ≤ 140737488355328 := by rw [List.nil_append, subL_to _ _ (by omega), List.length_take]; omega
  have hc2 : ([] ++ subL (q.way.map ofF) 0 (k : Int) ++ subL (q.way.map ofF) ((k : Int) + 1) ((q.way.map ofF).length : Int)).length * 32 ≤ 140737488355328 := by rw [hcut, List.length_map, List.length_append, List.length_take, List.length_drop]; omega
  rw [List.length_map] at hcut hc2
  have hcl : (q.way.take k ++ q.way.drop (k + 1)).length ≤ 107 := by rw [List.length_append, List.length_take, List.length_drop]; omega
  have hok := I.q.x
  have hr := hok.receive f
  have hrl := receive_len q.x f hok
  have hgl : (q.got ++ (q.x.receive f).2).length * 16 ≤ 140737488355328 := by rw [List.length_append]; omega
  refine ⟨p, { q with x := (q.x.receive f).1, got := q.got ++ (q.x.receive f).2, way := q.way.take k ++ q.way.drop (k + 1) }, ?_, ⟨((I.b.symm.recv hmem).cut (l := q.way.take k ++ q.way.drop (k + 1)) cut_mem).symm, I.p.up, ⟨hr, I.q.old, by have := I.q.s; show q.sent.length ≤ _; omega, hcl⟩⟩⟩
  by_cases htx : 0 < (q.x.receive f).2.length
  · simp (disch := first | omega | (simp; omega)) only [g_law42_run_l9, ↓e, ↓hx, ↓hk, ↓cndT, ↓cndF, ↓gd_pos, cndT, cndF, gd_pos, bnd_eq, e, hx, hk, w_id, hwl, hvl, Bool.not_true, cnd_false, cnd_true, subL_self, ne_eq, not_true_eq_false, not_false_eq_true, hk1, hgt, hcut, gd_pos hc1, gd_pos hc2, G_Receive hok, gd_pos hgl]
    rfl
  · have hnil : (q.x.receive f).2 = [] := List.eq_nil_of_length_eq_zero (by omega)
    simp (disch := first | omega | (simp; omega)) only [g_law42_run_l9, ↓e, ↓hx, ↓hk, ↓cndT, ↓cndF, ↓gd_pos, cndT, cndF, gd_pos, bnd_eq, e, hx, hk, w_id, hwl, hvl, Bool.not_true, cnd_false, cnd_true, subL_self, ne_eq, not_true_eq_false, not_false_eq_true, hk1, hgt, hcut, gd_pos hc1, gd_pos hc2, G_Receive hok, hnil, List.append_nil]
    rfl
set_option maxHeartbeats 4000000 in
theorem ks_two1 (hl : l.length ≤ 300) (I : KInv i p q) (hi : i < l.length) (e : l[((i : Nat) : Int).toNat]! = o) (ho : o.Wt) (hx : Int.tmod o.vSide 2 = 1) (hk : Int.tmod o.vKind 7 = 3) : KStep l i p q := by
  obtain ⟨⟨k1, k2⟩, ⟨s1, s2⟩, n1, n2⟩ := ho
  obtain ⟨lg, lh, lo, lp⟩ := I.lens
  have ls := I.p.s
  have lt := I.q.s
  have ly := I.p.y
  have lz := I.q.y
  have hvl : (p.way.map ofF).length = p.way.length := List.length_map ..
  have hwl : (q.way.map ofF).length = q.way.length := List.length_map ..
  have hfa := frames_len p.old
  have hfb := frames_len q.old
  unfold KStep kst
  by_cases hv0 : q.way.length = 0
  · refine ⟨p, q, ?_, ⟨I.b, I.p.up, I.q.up⟩⟩
    simp (disch := first | omega | (simp; omega)) only [g_law42_run_l9, ↓e, ↓hx, ↓hk, ↓cndT, ↓cndF, ↓gd_pos, cndT, cndF, gd_pos, bnd_eq, e, hx, hk, w_id, hwl, hvl, Bool.not_true, cnd_false, cnd_true, subL_self, ne_eq, not_true_eq_false, not_false_eq_true]
    rfl
  obtain ⟨k, hk1, hk2⟩ := tmod_range n1 (show 0 < q.way.length by omega)
  have hgt : (q.way.map ofF)[((k : Nat) : Int).toNat]! = ofF q.way[k] := by rw [getE _ _ (by rw [List.length_map]; omega)]; exact List.getElem_map ..
  have hmem : q.way[k] ∈ q.way := List.getElem_mem _
  generalize q.way[k] = f at hgt hmem
  have hok := I.q.x
  have hr := hok.receive f
  have hrl := receive_len q.x f hok
  have hgl : (q.got ++ (q.x.receive f).2).length * 16 ≤ 140737488355328 := by rw [List.length_append]; omega
  refine ⟨p, { q with x := (q.x.receive f).1, got := q.got ++ (q.x.receive f).2 }, ?_, ⟨(I.b.symm.recv hmem).symm, I.p.up, ⟨hr, I.q.old, by have := I.q.s; show q.sent.length ≤ _; omega, I.q.y⟩⟩⟩
  by_cases htx : 0 < (q.x.receive f).2.length
  · simp (disch := first | omega | (simp; omega)) only [g_law42_run_l9, ↓e, ↓hx, ↓hk, ↓cndT, ↓cndF, ↓gd_pos, cndT, cndF, gd_pos, bnd_eq, e, hx, hk, w_id, hwl, hvl, Bool.not_true, cnd_false, cnd_true, subL_self, ne_eq, not_true_eq_false, not_false_eq_true, hk1, hgt, G_Receive hok, gd_pos hgl]
    rfl
  · have hnil : (q.x.receive f).2 = [] := List.eq_nil_of_length_eq_zero (by omega)
    simp (disch := first | omega | (simp; omega)) only [g_law42_run_l9, ↓e, ↓hx, ↓hk, ↓cndT, ↓cndF, ↓gd_pos, cndT, cndF, gd_pos, bnd_eq, e, hx, hk, w_id, hwl, hvl, Bool.not_true, cnd_false, cnd_true, subL_self, ne_eq, not_true_eq_false, not_false_eq_true, hk1, hgt, G_Receive hok, hnil, List.append_nil]
    rfl
set_option maxHeartbeats 4000000 in
theorem ks_lost1 (hl : l.length ≤ 300) (I : KInv i p q) (hi : i < l.length) (e : l[((i : Nat) : Int).toNat]! = o) (ho : o.Wt) (hx : Int.tmod o.vSide 2 = 1) (hk : Int.tmod o.vKind 7 = 4) : KStep l i p q := by
  obtain ⟨⟨k1, k2⟩, ⟨s1, s2⟩, n1, n2⟩ := ho
  obtain ⟨lg, lh, lo, lp⟩ := I.lens
  have ls := I.p.s
  have lt := I.q.s
  have ly := I.p.y
  have lz := I.q.y
  have hvl : (p.way.map ofF).length = p.way.length := List.length_map ..
  have hwl : (q.way.map ofF).length = q.way.length := List.length_map ..
  have hfa := frames_len p.old
  have hfb := frames_len q.old
  unfold KStep kst
  by_cases hv0 : q.way.length = 0
  · refine ⟨p, q, ?_, ⟨I.b, I.p.up, I.q.up⟩⟩
    simp (disch := first | omega | (simp; omega)) only [g_law42_run_l9, ↓e, ↓hx, ↓hk, ↓cndT, ↓cndF, ↓gd_pos, cndT, cndF, gd_pos, bnd_eq, e, hx, hk, w_id, hwl, hvl, Bool.not_true, cnd_false, cnd_true, subL_self, ne_eq, not_true_eq_false, not_false_eq_true]
    rfl
  obtain ⟨k, hk1, hk2⟩ := tmod_range n1 (show 0 < q.way.length by omega)
  have hgt : (q.way.map ofF)[((k : Nat) : Int).toNat]! = ofF q.way[k] := by rw [getE _ _ (by rw [List.length_map]; omega)]; exact List.getElem_map ..
  have hmem : q.way[k] ∈ q.way := List.getElem_mem _
  generalize q.way[k] = f at hgt hmem
  have hcut := cut_map q.way k
  have hc1 : ([] ++ (subL (q.way.map ofF) 0 (k : Int))).length * 32 ≤ 140737488355328 := by rw [List.nil_append, subL_to _ _ (by omega), List.length_take]; omega
  have hc2 : ([] ++ subL (q.way.map ofF) 0 (k : Int) ++ subL (q.way.map ofF) ((k : Int) + 1) ((q.way.map ofF).length : Int)).length * 32 ≤ 140737488355328 := by rw [hcut, List.length_map, List.length_append, List.length_take, List.length_drop]; omega
  rw [List.length_map] at hcut hc2
  have hcl : (q.way.take k ++ q.way.drop (k + 1)).length ≤ 107 := by rw [List.length_append, List.length_take, List.length_drop]; omega
  refine ⟨p, { q with way := q.way.take k ++ q.way.drop (k + 1) }, ?_, ⟨(I.b.symm.cut (l := q.way.take k ++ q.way.drop (k + 1)) cut_mem).symm, I.p.up, ⟨I.q.x, I.q.old, by have := I.q.s; show q.sent.length ≤ _; omega, hcl⟩⟩⟩
  simp (disch := first | omega | (simp; omega)) only [g_law42_run_l9, ↓e, ↓hx, ↓hk, ↓cndT, ↓cndF, ↓gd_pos, cndT, cndF, gd_pos, bnd_eq, e, hx, hk, w_id, hwl, hvl, Bool.not_true, cnd_false, cnd_true, subL_self, ne_eq, not_true_eq_false, not_false_eq_true, hk1, hcut, gd_pos hc1, gd_pos hc2]
  rfl
set_option maxHeartbeats 4000000 in
theorem ks_pack1 (hl : l.length ≤ 300) (I : KInv i p q) (hi : i < l.length) (e : l[((i : Nat) : Int).toNat]! = o) (ho : o.Wt) (hx : Int.tmod o.vSide 2 = 1) (hk : Int.tmod o.vKind 7 = 5) : KStep l i p q := by
  obtain ⟨⟨k1, k2⟩, ⟨s1, s2⟩, n1, n2⟩ := ho
  obtain ⟨lg, lh, lo, lp⟩ := I.lens
  have ls := I.p.s
  have lt := I.q.s
  have ly := I.p.y
  have lz := I.q.y
  have hvl : (p.way.map ofF).length = p.way.length := List.length_map ..
  have hwl : (q.way.map ofF).length = q.way.length := List.length_map ..
  have hfa := frames_len p.old
  have hfb := frames_len q.old
  unfold KStep kst
  have hok := I.q.x
  have hp := G_Pack q.x hok.mach
  rw [if_pos ((LEnd.okB_iff _).2 hok)] at hp
  have hpl := pack_lens hok.pk
  have hu := G_Unpack q.x.pack (by unfold LEnd.pack; simp only [List.length_append]; omega)
  rw [unpack_pack hok] at hu
  dsimp only at hu
  refine ⟨p, { q with old := q.x, oldS := q.sent, oldG := q.got }, ?_, ⟨(I.b.symm.pack).symm, I.p.up, ⟨I.q.x, I.q.x, by have := I.q.s; show q.sent.length ≤ _; omega, I.q.y⟩⟩⟩
  simp (disch := first | omega | (simp; omega)) only [g_law42_run_l9, ↓e, ↓hx, ↓hk, ↓cndT, ↓cndF, ↓gd_pos, cndT, cndF, gd_pos, bnd_eq, e, hx, hk, w_id, hwl, hvl, Bool.not_true, cnd_false, cnd_true, subL_self, ne_eq, not_true_eq_false, not_false_eq_true, hp, hu]
  rfl
set_option maxHeartbeats 4000000 in
theorem ks_back1 (hl : l.length ≤ 300) (I : KInv i p q) (hi : i < l.length) (e : l[((i : Nat) : Int).toNat]! = o) (ho : o.Wt) (hx : Int.tmod o.vSide 2 = 1) (hk : Int.tmod o.vKind 7 = 6) : KStep l i p q := by
  obtain ⟨⟨k1, k2⟩, ⟨s1, s2⟩, n1, n2⟩ := ho
  obtain ⟨lg, lh, lo, lp⟩ := I.lens
  have ls := I.p.s
  have lt := I.q.s
  have ly := I.p.y
  have lz := I.q.y
  have hvl : (p.way.map ofF).length = p.way.length := List.length_map ..
  have hwl : (q.way.map ofF).length = q.way.length := List.length_map ..
  have hfa := frames_len p.old
  have hfb := frames_len q.old
  unfold KStep kst
  have hlo := I.b.symm.1.pr.length_le
  refine ⟨p, { q with x := q.old, sent := q.oldS, got := q.oldG }, ?_, ⟨(I.b.symm.back).symm, I.p.up, ⟨I.q.old, I.q.old, by have := I.q.s; show q.oldS.length ≤ _; omega, I.q.y⟩⟩⟩
  simp (disch := first | omega | (simp; omega)) only [g_law42_run_l9, ↓e, ↓hx, ↓hk, ↓cndT, ↓cndF, ↓gd_pos, cndT, cndF, gd_pos, bnd_eq, e, hx, hk, w_id, hwl, hvl, Bool.not_true, cnd_false, cnd_true, subL_self, ne_eq, not_true_eq_false, not_false_eq_true]
  rfl
theorem keep_step (l : List S_Op) (hw : ∀ o ∈ l, o.Wt) (hl : l.length ≤ 300) {i : Nat} {p q : Pty} (I : KInv i p q) (hi : i < l.length) : KStep l i p q := by
  have e : l[((i : Nat) : Int).toNat]! = l[i] := getE _ _ hi
  have ho := hw l[i] (List.getElem_mem hi)
  generalize l[i] = o at e ho
  have hx : Int.tmod o.vSide 2 = 0 ∨ Int.tmod o.vSide 2 = 1 := by
    rw [Int.tmod_eq_emod_of_nonneg ho.2.1.1]; omega
  have hk : Int.tmod o.vKind 7 = 0 ∨ Int.tmod o.vKind 7 = 1 ∨ Int.tmod o.vKind 7 = 2 ∨ Int.tmod o.vKind 7 = 3 ∨ Int.tmod o.vKind 7 = 4 ∨ Int.tmod o.vKind 7 = 5 ∨ Int.tmod o.vKind 7 = 6 := by
    rw [Int.tmod_eq_emod_of_nonneg ho.1.1]; omega
  rcases hx with hx | hx <;> rcases hk with hk | hk | hk | hk | hk | hk | hk
  · exact ks_send0 hl I hi e ho hx hk
  · exact ks_frames0 hl I hi e ho hx hk
  · exact ks_one0 hl I hi e ho hx hk
  · exact ks_two0 hl I hi e ho hx hk
  · exact ks_lost0 hl I hi e ho hx hk
  · exact ks_pack0 hl I hi e ho hx hk
  · exact ks_back0 hl I hi e ho hx hk
  · exact ks_send1 hl I hi e ho hx hk
  · exact ks_frames1 hl I hi e ho hx hk
  · exact ks_one1 hl I hi e ho hx hk
  · exact ks_two1 hl I hi e ho hx hk
  · exact ks_lost1 hl I hi e ho hx hk
  · exact ks_pack1 hl I hi e ho hx hk
  · exact ks_back1 hl I hi e ho hx hk
end
theorem keep_loop (l : List S_Op) (hw : ∀ o ∈ l, o.Wt) (hl : l.length ≤ 300) : ∀ (k i : Nat) (p q : Pty), l.length - i = k → i ≤ l.length → KInv i p q → ∃ p' q', loopO (g_law42_run_l9 l) (kst i p q) = some (.inr (kst 0 p' q').2) ∧ KInv l.length p' q'
  | 0, i, p, q, hk, hi, I => by
    obtain rfl : i = l.length := by omega
    refine ⟨p, q, loopO_inr ?_, I⟩
    unfold g_law42_run_l9 kst
    dsimp only
    rw [cnd_neg _ _ (decide_eq_false (by omega))]
  | k + 1, i, p, q, hk, hi, I => by
    obtain ⟨p', q', h1, h2⟩ := keep_step l hw hl I (by omega)
    rw [loopO_inl h1]
    exact keep_loop l hw hl k (i + 1) p' q' (by omega) (by omega) h2
def ofP (p : Pty) : S_party := ⟨ofL p.x, ofL p.old, p.sent, p.got, p.oldS, p.oldG, p.way.map ofF⟩
theorem G_run (l : List S_Op) (hw : ∀ o ∈ l, o.Wt) (hl : l.length ≤ 300) : ∃ p q, g_law42_run l = some (⟨ofP p, ofP q⟩, true) ∧ KInv l.length p q := by
  have k0 : KInv 0 p0 p0 := by
    have f : p0.Fit 0 := ⟨e0_ok, e0_ok, Nat.le_refl _, by show 0 ≤ 107; omega⟩
    exact ⟨both0, f, f⟩
  obtain ⟨p, q, h1, h2⟩ := keep_loop l hw hl _ 0 p0 p0 rfl (Nat.zero_le _) k0
  refine ⟨p, q, ?_, h2⟩
  have hf : g_law42_fresh = some (ofP p0) := rfl
  unfold g_law42_run
  rw [hf, bnd_eq, bnd_eq]
  refine (bnd_of h1 _).trans ?_
  rfl
end Go.Proofs.Ytakbadleipbngaa
