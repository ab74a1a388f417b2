/-
  LinkComesToRest in plain terms. Conditions: none.
-/
import Derived.Test.YtakbadleipbngaaLinkKS
import Derived.Test.YtakbadleipbngaaGD3
set_option linter.all false
namespace Go.Proofs.Ytakbadleipbngaa
open Go.RowKit
/-! ### Plain: all frames of the other end, in order -/
def recv (p : Pty) (f : LFrame) : Pty := { p with x := (p.x.receive f).1, got := p.got ++ (p.x.receive f).2 }
def recvAll (p : Pty) (F : List LFrame) : Pty := F.foldl recv p
theorem recvAll_sent (F : List LFrame) : ∀ p : Pty, (recvAll p F).sent = p.sent := by
  induction F with
  | nil => intro p; rfl
  | cons f F ih => intro p; exact (ih (recv p f)).trans rfl
theorem recvAll_snoc (p : Pty) (F : List LFrame) (f : LFrame) : recvAll p (F ++ [f]) = recv (recvAll p F) f := by
  unfold recvAll
  rw [List.foldl_append]; rfl
structure Rest (p q : Pty) : Prop where
  sp : Snds p.sent p.x
  sq : Snds q.sent q.x
  rp : Rcvs q.sent p.x p.got
  rq : Rcvs p.sent q.x q.got
  bp : p.x.base ≤ q.x.want
  bq : q.x.base ≤ p.x.want
  op : p.x.Ok
  oq : q.x.Ok
  lp : p.sent.length ≤ 300
  lq : q.sent.length ≤ 300
theorem Rest.symm {p q : Pty} (h : Rest p q) : Rest q p := ⟨h.sq, h.sp, h.rq, h.rp, h.bq, h.bp, h.oq, h.op, h.lq, h.lp⟩
theorem KInv.rest {i : Nat} {p q : Pty} (h : KInv i p q) (hi : i ≤ 300) : Rest p q :=
  ⟨h.b.1.sx, h.b.2.sx, h.b.2.rx.mono h.b.2.pr, h.b.1.rx.mono h.b.1.pr, Int.le_trans h.b.1.b1 h.b.1.w, Int.le_trans h.b.2.b1 h.b.2.w, h.p.x, h.q.x, by have := h.p.s; omega, by have := h.q.s; omega⟩
section
variable {p q : Pty}
theorem Rest.recv (h : Rest p q) {f : LFrame} (hf : Frm q.sent f) (ha : f.ack = q.x.want) : Rest (recv p f) q :=
  ⟨h.sp.receive f, h.sq, h.rp.receive hf, h.rq, receive_base p.x f h.bp (by omega), Int.le_trans h.bq (receive_want p.x f), h.op.receive f, h.oq, h.lp, h.lq⟩
theorem Rest.all {F : List LFrame} : ∀ {p : Pty}, Rest p q → (∀ f ∈ F, Frm q.sent f ∧ f.ack = q.x.want) → Rest (recvAll p F) q := by
  induction F with
  | nil => intro p h _; exact h
  | cons f F ih =>
    intro p h hF
    have h1 := hF f (by simp)
    exact ih (h.recv h1.1 h1.2) (fun g hg => hF g (by simp [hg]))
theorem Rest.frames (h : Rest p q) : ∀ f ∈ q.x.frames, Frm q.sent f ∧ f.ack = q.x.want := fun f hf => ⟨h.sq.frm f hf, (frames_mem hf).1⟩
theorem Rest.qlen (h : Rest p q) : (p.x.queue.length : Int) = p.sent.length + 1 - p.x.base := by
  have h1 := h.sp.b1; have h2 := h.sp.b2
  rw [h.sp.q, List.length_drop]
  omega
theorem base_now (h : Rest p q) {f : LFrame} (hv : f.okB = true) (ha : f.ack = q.x.want) : (recv p f).x.base = q.x.want := by
  show (p.x.receive f).1.base = _
  unfold LEnd.receive
  rw [if_pos hv, (gives_base _ f).1, (holds_base _ f).1]
  unfold LEnd.acked
  have h1 := h.bp; have h2 := h.qlen; have h3 := h.rq.w2; have h4 := h.oq.w2; have h5 := h.rq.w1
  split
  · exact ha
  · rename_i hn
    omega
theorem want_next (h : Rest p q) {f : LFrame} (hv : f.okB = true) (hs : f.seq ≤ p.x.want) : f.seq + 1 ≤ (recv p f).x.want := by
  have hw := receive_want p.x f
  show f.seq + 1 ≤ (p.x.receive f).1.want
  by_cases he : f.seq < p.x.want
  · omega
  · have h1 := h.rp.w1; have h2 := h.rp.w2; have h3 := h.lq
    have e : f.seq = p.x.want := by omega
    unfold LEnd.receive
    rw [if_pos hv]
    have e2 : ((p.x.acked f).holds f).want = p.x.want := (holds_base _ f).2.2.trans (acked_want _ f).1
    unfold LEnd.gives
    rw [if_pos ⟨by rw [e2]; exact e, by rw [e2]; omega⟩]
    show f.seq + 1 ≤ ((p.x.acked f).holds f).want + 1 + _
    rw [e2]
    omega
theorem frame_ok (h : Rest p q) {k : Nat} (hk : k < q.x.queue.length) : (q.x.frameAt k).okB = true := by
  have h1 := h.oq.b1; have h2 := h.oq.b2; have h3 := h.oq.w1; have h4 := h.oq.w2; have h5 := h.oq.ql
  have hs := h.oq.qs _ (List.getElem_mem hk)
  have e : q.x.queue.getD k .empty = q.x.queue[k] := by rw [List.getD, List.getElem?_eq_getElem hk]; rfl
  unfold LFrame.okB LEnd.frameAt shortB
  rw [e]
  simp only [Bool.and_eq_true, Bool.or_eq_true, decide_eq_true_eq]
  refine ⟨⟨⟨⟨⟨?_, ?_⟩, ?_⟩, ?_⟩, ?_⟩, .inl ?_⟩ <;> omega
theorem empty_ok (h : Rest p q) : (⟨0, q.x.want, .empty⟩ : LFrame).okB = true := by
  have h3 := h.oq.w1; have h4 := h.oq.w2
  unfold LFrame.okB shortB
  simp only [Bool.and_eq_true, Bool.or_eq_true, decide_eq_true_eq]
  refine ⟨⟨⟨⟨⟨?_, ?_⟩, ?_⟩, ?_⟩, ?_⟩, .inr rfl⟩ <;> first | omega | exact Nat.zero_le _
theorem half (h : Rest p q) : Rest (recvAll p q.x.frames) q ∧ (recvAll p q.x.frames).x.base = q.x.want ∧ q.x.base + min q.x.queue.length 8 ≤ (recvAll p q.x.frames).x.want := by
  by_cases h0 : q.x.queue.length = 0
  · have e : q.x.frames = [⟨0, q.x.want, .empty⟩] := by unfold LEnd.frames; rw [if_pos h0]
    have hf := h.frames ⟨0, q.x.want, .empty⟩ (by rw [e]; simp)
    rw [e]
    refine ⟨h.recv hf.1 hf.2, base_now h (empty_ok h) rfl, ?_⟩
    have := receive_want p.x ⟨0, q.x.want, .empty⟩
    have := h.bq
    show q.x.base + _ ≤ (p.x.receive ⟨0, q.x.want, .empty⟩).1.want
    omega
  · rw [frames_take q.x h0]
    have hall := h.frames
    rw [frames_take q.x h0] at hall
    have key : ∀ i, i ≤ min q.x.queue.length 8 → Rest (recvAll p ((List.range i).map fun k => q.x.frameAt k)) q ∧ (1 ≤ i → (recvAll p ((List.range i).map fun k => q.x.frameAt k)).x.base = q.x.want) ∧ q.x.base + (i : Nat) ≤ (recvAll p ((List.range i).map fun k => q.x.frameAt k)).x.want := by
      intro i
      induction i with
      | zero => intro _; exact ⟨h, fun h => absurd h (by omega), by have := h.bq; show q.x.base + _ ≤ p.x.want; omega⟩
      | succ i ih =>
        intro hi
        obtain ⟨h1, _, h3⟩ := ih (by omega)
        rw [List.range_succ, List.map_append, List.map_cons, List.map_nil, recvAll_snoc]
        have hf := hall (q.x.frameAt i) (List.mem_map.2 ⟨i, List.mem_range.2 (by omega), rfl⟩)
        have hv := frame_ok h (k := i) (by omega)
        refine ⟨h1.recv hf.1 hf.2, fun _ => base_now h1 hv hf.2, ?_⟩
        have := want_next h1 hv (show q.x.base + (i : Int) ≤ _ from h3)
        have : (q.x.base + (i : Int)) + 1 ≤ (recv (recvAll p ((List.range i).map fun k => q.x.frameAt k)) (q.x.frameAt i)).x.want := this
        omega
    obtain ⟨h1, h2, h3⟩ := key (min q.x.queue.length 8) (Nat.le_refl _)
    exact ⟨h1, h2 (by omega), by omega⟩
end
def turnP (p q : Pty) : Pty × Pty := (recvAll p q.x.frames, recvAll q (recvAll p q.x.frames).x.frames)
structure Turns (Q P : Int) (r : Nat) (p q : Pty) : Prop where
  h : Rest p q
  ql : (q.x.queue.length : Int) ≤ max 0 (Q - 8 * r)
  pl : (p.x.queue.length : Int) ≤ max 0 (P - 8 * ((r - 1 : Nat) : Int))
  e : 1 ≤ r → p.x.base + min p.x.queue.length 8 ≤ q.x.want
theorem Turns.next {Q P : Int} {r : Nat} {p q : Pty} (h : Turns Q P r p q) : Turns Q P (r + 1) (turnP p q).1 (turnP p q).2 := by
  obtain ⟨a1, a2, a3⟩ := half h.h
  obtain ⟨b1, b2, b3⟩ := half a1.symm
  have q0 := h.h.symm.qlen
  have p0 := h.h.qlen
  have q1 := b1.qlen
  have p1 := a1.qlen
  have es : (recvAll q (recvAll p q.x.frames).x.frames).sent = q.sent := recvAll_sent _ _
  have ps : (recvAll p q.x.frames).sent = p.sent := recvAll_sent _ _
  rw [es] at q1
  rw [ps] at p1
  have hq := h.ql
  have hp := h.pl
  have hbp := h.h.bp
  refine ⟨b1.symm, ?_, ?_, fun _ => b3⟩
  · show ((recvAll q (recvAll p q.x.frames).x.frames).x.queue.length : Int) ≤ _
    omega
  · show ((recvAll p q.x.frames).x.queue.length : Int) ≤ _
    by_cases hr : 1 ≤ r
    · have := h.e hr
      omega
    · omega
/-! ### The loops -/
theorem recv_len {p q : Pty} (h : Rest p q) : p.got.length ≤ 300 := by
  have := h.rp.g
  have h2 := h.lq
  rw [this, List.length_take]; omega
set_option maxHeartbeats 2000000 in
theorem l53_0 {F : List LFrame} {p q : Pty} (h : Rest p q) {j : Nat} (hj : j < F.length) (hF : F.length ≤ 100) : g_law42_LinkComesToRest_l53 0 (F.map ofF) ((j : Int), ofP p, ofP q) = some (.inl (((j + 1 : Nat) : Int), ofP (recv p F[j]), ofP q)) := by
  have hgt : (F.map ofF)[((j : Nat) : Int).toNat]! = ofF F[j] := by rw [getE _ _ (by rw [List.length_map]; omega)]; exact List.getElem_map ..
  have hl : (F.map ofF).length = F.length := List.length_map ..
  generalize F[j] = f at hgt
  have hok := h.op
  have hrl := receive_len p.x f hok
  have hgot := recv_len h
  have hgl : (p.got ++ (p.x.receive f).2).length * 16 ≤ 140737488355328 := by rw [List.length_append]; omega
  unfold recv ofP
  by_cases htx : 0 < (p.x.receive f).2.length
  · simp (disch := first | omega | (simp; omega)) only [g_law42_LinkComesToRest_l53, ↓cndT, ↓cndF, ↓gd_pos, cndT, cndF, gd_pos, bnd_eq, w_id, hl, hgt, subL_self, G_Receive hok, gd_pos hgl]
    rfl
  · have hnil : (p.x.receive f).2 = [] := List.eq_nil_of_length_eq_zero (by omega)
    simp (disch := first | omega | (simp; omega)) only [g_law42_LinkComesToRest_l53, ↓cndT, ↓cndF, ↓gd_pos, cndT, cndF, gd_pos, bnd_eq, w_id, hl, hgt, subL_self, G_Receive hok, hnil, List.append_nil]
    rfl
set_option maxHeartbeats 2000000 in
theorem l53_1 {F : List LFrame} {p q : Pty} (h : Rest p q) {j : Nat} (hj : j < F.length) (hF : F.length ≤ 100) : g_law42_LinkComesToRest_l53 1 (F.map ofF) ((j : Int), ofP p, ofP q) = some (.inl (((j + 1 : Nat) : Int), ofP p, ofP (recv q F[j]))) := by
  have hgt : (F.map ofF)[((j : Nat) : Int).toNat]! = ofF F[j] := by rw [getE _ _ (by rw [List.length_map]; omega)]; exact List.getElem_map ..
  have hl : (F.map ofF).length = F.length := List.length_map ..
  generalize F[j] = f at hgt
  have hok := h.oq
  have hrl := receive_len q.x f hok
  have hgot := recv_len h.symm
  have hgl : (q.got ++ (q.x.receive f).2).length * 16 ≤ 140737488355328 := by rw [List.length_append]; omega
  unfold recv ofP
  by_cases htx : 0 < (q.x.receive f).2.length
  · simp (disch := first | omega | (simp; omega)) only [g_law42_LinkComesToRest_l53, ↓cndT, ↓cndF, ↓gd_pos, cndT, cndF, gd_pos, bnd_eq, w_id, hl, hgt, subL_self, G_Receive hok, gd_pos hgl]
    rfl
  · have hnil : (q.x.receive f).2 = [] := List.eq_nil_of_length_eq_zero (by omega)
    simp (disch := first | omega | (simp; omega)) only [g_law42_LinkComesToRest_l53, ↓cndT, ↓cndF, ↓gd_pos, cndT, cndF, gd_pos, bnd_eq, w_id, hl, hgt, subL_self, G_Receive hok, hnil, List.append_nil]
    rfl
theorem take_mem {α : Type} {l : List α} {j : Nat} : ∀ f ∈ l.take j, f ∈ l := fun _ hf => List.mem_of_mem_take hf
theorem in_0 {p q : Pty} (h : Rest p q) : loopO (g_law42_LinkComesToRest_l53 0 (q.x.frames.map ofF)) ((0 : Int), ofP p, ofP q) = some (ofP (recvAll p q.x.frames), ofP q) := by
  have hl := frames_len q.x
  have hm : (q.x.frames.map ofF).length = q.x.frames.length := List.length_map ..
  have := loopO_up (b := g_law42_LinkComesToRest_l53 0 (q.x.frames.map ofF)) (fun j => ((j : Int), ofP (recvAll p (q.x.frames.take j)), ofP q)) 0 q.x.frames.length (ofP (recvAll p q.x.frames), ofP q) (Nat.zero_le _) (fun j _ hj => by
    rw [l53_0 (h.all fun f hf => h.frames f (take_mem f hf)) hj (by omega), List.take_succ_eq_append_getElem hj, recvAll_snoc]) (by
    simp only [g_law42_LinkComesToRest_l53]
    rw [cndF _ _ (by rw [hm]; omega), List.take_length])
  exact this
theorem in_1 {p q : Pty} (h : Rest p q) : loopO (g_law42_LinkComesToRest_l53 1 (p.x.frames.map ofF)) ((0 : Int), ofP p, ofP q) = some (ofP p, ofP (recvAll q p.x.frames)) := by
  have hl := frames_len p.x
  have hm : (p.x.frames.map ofF).length = p.x.frames.length := List.length_map ..
  have h' := h.symm
  have := loopO_up (b := g_law42_LinkComesToRest_l53 1 (p.x.frames.map ofF)) (fun j => ((j : Int), ofP p, ofP (recvAll q (p.x.frames.take j)))) 0 p.x.frames.length (ofP p, ofP (recvAll q p.x.frames)) (Nat.zero_le _) (fun j _ hj => by
    rw [l53_1 (h'.all fun f hf => h'.frames f (take_mem f hf)).symm hj (by omega), List.take_succ_eq_append_getElem hj, recvAll_snoc]) (by
    simp only [g_law42_LinkComesToRest_l53]
    rw [cndF _ _ (by rw [hm]; omega), List.take_length])
  exact this
theorem l39 {p q : Pty} (h : Rest p q) : loopO g_law42_LinkComesToRest_l39 ((0 : Int), ofP p, ofP q) = some (ofP (turnP p q).1, ofP (turnP p q).2) := by
  have h1 := (half h).1
  rw [loopO_inl (s' := ((1 : Int), ofP (recvAll p q.x.frames), ofP q)), loopO_inl (s' := ((2 : Int), ofP (turnP p q).1, ofP (turnP p q).2)), loopO_inr (x := (ofP (turnP p q).1, ofP (turnP p q).2))]
  · simp only [g_law42_LinkComesToRest_l39]
    rw [cndF _ _ (by omega)]
  · simp only [g_law42_LinkComesToRest_l39]
    rw [cndT _ _ (by omega), w_id (z := 1 - 1) (by omega), cndT _ _ (by omega)]
    show bnd (bnd (g_link_Frames (ofL (recvAll p q.x.frames).x)) _) _ = _
    rw [G_Frames h1.op, bnd_eq, bnd_eq, in_1 h1, bnd_eq]
    rfl
  · simp only [g_law42_LinkComesToRest_l39]
    rw [cndT _ _ (by omega), w_id (z := 1 - 0) (by omega), cndF _ _ (by omega), gd_pos (by omega)]
    show bnd (bnd (g_link_Frames (ofL q.x)) _) _ = _
    rw [G_Frames h.oq, bnd_eq, bnd_eq, in_0 h, bnd_eq]
    rfl
theorem l27 (n : Nat) (hn : n ≤ 1000) {Q P : Int} : ∀ (m r : Nat) (p q : Pty), m + r = n → Turns Q P r p q → ∃ p' q', loopO (g_law42_LinkComesToRest_l27 (n : Int)) ((r : Int), ofP p, ofP q) = some (ofP p', ofP q') ∧ Turns Q P n p' q' ∧ p'.sent = p.sent ∧ q'.sent = q.sent := by
  intro m
  induction m with
  | zero =>
    intro r p q hm h
    obtain rfl : r = n := by omega
    refine ⟨p, q, loopO_inr ?_, h, rfl, rfl⟩
    simp only [g_law42_LinkComesToRest_l27]
    rw [cndF _ _ (by omega)]
  | succ m ih =>
    intro r p q hm h
    obtain ⟨p', q', h1, h2, h3, h4⟩ := ih (r + 1) _ _ (by omega) h.next
    refine ⟨p', q', ?_, h2, h3.trans (recvAll_sent _ _), h4.trans (recvAll_sent _ _)⟩
    rw [← h1]
    refine loopO_inl ?_
    simp only [g_law42_LinkComesToRest_l27]
    rw [cndT _ _ (by omega), l39 h.h, bnd_eq, w_id (by omega)]
    rfl
theorem all_got {p q : Pty} (h : Rest p q) (h0 : p.x.queue.length = 0) : q.got = p.sent := by
  have h1 := h.qlen
  have h2 := h.bp
  have h3 := h.rq.w2
  rw [h.rq.g, List.take_of_length_le]
  omega
theorem G_rests (l : List S_Op) (hw : ∀ o ∈ l, o.Wt) : g_law42_LinkComesToRest l = some true := by
  unfold g_law42_LinkComesToRest
  rw [G_sanity, cnd_dec]
  by_cases hl : l.length ≤ 300
  · rw [if_neg (by omega)]
    obtain ⟨p, q, h1, h2⟩ := G_run l hw hl
    have hr := h2.rest hl
    have qp := hr.op.ql
    have qq := hr.oq.ql
    have hturn : IntKind.i64.wrap ((IntKind.i64.wrap (Int.tdiv (IntKind.i64.wrap ((IntKind.i64.wrap ((max (((ofL p.x).vQueue).length : Int) (((ofL q.x).vQueue).length : Int)) + (8 : Int))) - (1 : Int))) (8 : Int))) + (2 : Int)) = (((max p.x.queue.length q.x.queue.length + 7) / 8 + 2 : Nat) : Int) := by
      show IntKind.i64.wrap ((IntKind.i64.wrap (Int.tdiv (IntKind.i64.wrap ((IntKind.i64.wrap ((max (p.x.queue.length : Int) (q.x.queue.length : Int)) + (8 : Int))) - (1 : Int))) (8 : Int))) + (2 : Int)) = _
      rw [w_id (z := max (p.x.queue.length : Int) (q.x.queue.length : Int) + 8) (by omega), w_id (z := max (p.x.queue.length : Int) (q.x.queue.length : Int) + 8 - 1) (by omega), Int.tdiv_eq_ediv_of_nonneg (by omega), w_id (z := (max (p.x.queue.length : Int) (q.x.queue.length : Int) + 8 - 1) / 8) (by omega), w_id (by omega)]
      omega
    have t0 : Turns q.x.queue.length p.x.queue.length 0 p q := ⟨hr, by omega, by omega, fun h => absurd h (by omega)⟩
    obtain ⟨p', q', e1, e2, e3, e4⟩ := l27 ((max p.x.queue.length q.x.queue.length + 7) / 8 + 2) (by omega) _ 0 p q rfl t0
    rw [h1, bnd_eq, bnd_eq]
    show cnd (!true) _ _ = _
    rw [Bool.not_true, cnd_false]
    refine (bnd_eq _ _).trans ?_
    refine (bnd_of (s := (ofP p', ofP q')) (by rw [← e1]; congr 1; exact congrArg _ hturn) _).trans ?_
    have q0 : q'.x.queue.length = 0 := by have := e2.ql; omega
    have p0 : p'.x.queue.length = 0 := by have := e2.pl; omega
    have g1 : q'.got = p'.sent := all_got e2.h p0
    have g2 : p'.got = q'.sent := all_got e2.h.symm q0
    dsimp only
    rw [bnd_eq, cnd_true]
    have c1 : g_ref01_SameTexts (ofP p').vgot (ofP q').vsent = some true := by
      show g_ref01_SameTexts p'.got q'.sent = _
      rw [g2]; exact G_sameTexts _ (by have := e2.h.lq; omega)
    have c2 : g_ref01_SameTexts (ofP q').vgot (ofP p').vsent = some true := by
      show g_ref01_SameTexts q'.got p'.sent = _
      rw [g1]; exact G_sameTexts _ (by have := e2.h.lp; omega)
    have c3 : g_link_Idle (ofP p').vx = some true := by
      show g_link_Idle (ofL p'.x) = _
      rw [G_Idle, p0]; rfl
    have c4 : g_link_Idle (ofP q').vx = some true := by
      show g_link_Idle (ofL q'.x) = _
      rw [G_Idle, q0]; rfl
    rw [c1, bnd_eq, cnd_true, c2, bnd_eq, cnd_true, c3, bnd_eq, cnd_true, c4]
    rfl
  · rw [if_pos (by omega)]
    rfl
end Go.Proofs.Ytakbadleipbngaa
