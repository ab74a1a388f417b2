/-
  layer 42: two ends and the frames between them: what holds whatever is done. Plain: no program. Conditions: none.
-/
import Derived.Test.YtakbadleipbngaaLinkQ
set_option linter.all false
namespace Go.Proofs.Ytakbadleipbngaa
open Go.RowKit
/-- The queue is what was sent, from the base on. -/
structure Snds (S : List ByteArray) (x : LEnd) : Prop where
  b1 : 1 ≤ x.base
  b2 : (x.base - 1).toNat ≤ S.length
  q : x.queue = S.drop (x.base - 1).toNat
/-- What was delivered are the first texts that were sent; what came too early is as it was sent. -/
structure Rcvs (S : List ByteArray) (x : LEnd) (got : List ByteArray) : Prop where
  w1 : 1 ≤ x.want
  w2 : (x.want - 1).toNat ≤ S.length
  g : got = S.take (x.want - 1).toNat
  h : ∀ e ∈ x.held, S[(e.1 - 1).toNat]? = some e.2
/-- A frame carries what was sent. -/
def Frm (S : List ByteArray) (f : LFrame) : Prop := f.seq ≠ 0 → S[(f.seq - 1).toNat]? = some f.data
theorem pre_get {S T : List ByteArray} (h : S <+: T) {i : Nat} {d : ByteArray} (hd : S[i]? = some d) : T[i]? = some d := by
  obtain ⟨u, rfl⟩ := h
  rw [List.getElem?_append_left (List.getElem?_eq_some_iff.1 hd).1]
  exact hd
theorem pre_take {S T : List ByteArray} (h : S <+: T) {i : Nat} (hi : i ≤ S.length) : T.take i = S.take i := by
  obtain ⟨u, rfl⟩ := h
  rw [List.take_append_of_le_length hi]
theorem Frm.mono {S T : List ByteArray} {f : LFrame} (h : Frm S f) (hp : S <+: T) : Frm T f := fun h0 => pre_get hp (h h0)
theorem Rcvs.mono {S T : List ByteArray} {x : LEnd} {got : List ByteArray} (h : Rcvs S x got) (hp : S <+: T) : Rcvs T x got :=
  ⟨h.w1, Nat.le_trans h.w2 hp.length_le, by rw [pre_take hp h.w2]; exact h.g, fun e he => pre_get hp (h.h e he)⟩
theorem Snds.send {S : List ByteArray} {x : LEnd} (h : Snds S x) (t : ByteArray) : Snds (S ++ [t]) (x.send t) := by
  refine ⟨h.b1, by show (x.base - 1).toNat ≤ _; rw [List.length_append]; have := h.b2; omega, ?_⟩
  show x.queue ++ [t] = _
  rw [show (x.send t).base = x.base from rfl, List.drop_append_of_le_length h.b2, ← h.q]
theorem Snds.acked {S : List ByteArray} {x : LEnd} (h : Snds S x) (f : LFrame) : Snds S (x.acked f) := by
  unfold LEnd.acked
  split
  · rename_i hc
    have hl : x.queue.length = S.length - (x.base - 1).toNat := by rw [h.q, List.length_drop]
    have h1 := h.b1; have h2 := h.b2
    refine ⟨by show 1 ≤ f.ack; omega, by show (f.ack - 1).toNat ≤ _; omega, ?_⟩
    show x.queue.drop _ = S.drop (f.ack - 1).toNat
    rw [h.q, List.drop_drop]
    congr 1
    omega
  · exact h
theorem holds_base (x : LEnd) (f : LFrame) : (x.holds f).base = x.base ∧ (x.holds f).queue = x.queue ∧ (x.holds f).want = x.want := by
  unfold LEnd.holds; split <;> exact ⟨rfl, rfl, rfl⟩
theorem gives_base (x : LEnd) (f : LFrame) : (x.gives f).1.base = x.base ∧ (x.gives f).1.queue = x.queue := by
  unfold LEnd.gives; split <;> exact ⟨rfl, rfl⟩
theorem Snds.congr {S : List ByteArray} {x y : LEnd} (h : Snds S x) (hb : y.base = x.base) (hq : y.queue = x.queue) : Snds S y :=
  ⟨by rw [hb]; exact h.b1, by rw [hb]; exact h.b2, by rw [hb, hq]; exact h.q⟩
theorem Snds.receive {S : List ByteArray} {x : LEnd} (h : Snds S x) (f : LFrame) : Snds S (x.receive f).1 := by
  unfold LEnd.receive
  split
  · exact (h.acked f).congr ((gives_base _ f).1.trans (holds_base _ f).1) ((gives_base _ f).2.trans (holds_base _ f).2.1)
  · exact h
theorem receive_base (x : LEnd) (f : LFrame) {B : Int} (hx : x.base ≤ B) (hf : f.ack ≤ B) : (x.receive f).1.base ≤ B := by
  unfold LEnd.receive
  split
  · rw [(gives_base _ f).1, (holds_base _ f).1]
    unfold LEnd.acked
    split
    · exact hf
    · exact hx
  · exact hx
theorem acked_want (x : LEnd) (f : LFrame) : (x.acked f).want = x.want ∧ (x.acked f).held = x.held := by unfold LEnd.acked; split <;> exact ⟨rfl, rfl⟩
theorem receive_want (x : LEnd) (f : LFrame) : x.want ≤ (x.receive f).1.want := by
  unfold LEnd.receive
  split
  · unfold LEnd.gives
    split
    · show x.want ≤ ((x.acked f).holds f).want + 1 + _
      rw [(holds_base _ f).2.2, (acked_want x f).1]
      omega
    · show x.want ≤ ((x.acked f).holds f).want
      rw [(holds_base _ f).2.2, (acked_want x f).1]
      exact Int.le_refl _
  · exact Int.le_refl _
theorem Rcvs.congr {S : List ByteArray} {x y : LEnd} {got : List ByteArray} (h : Rcvs S x got) (hw : y.want = x.want) (hh : y.held = x.held) : Rcvs S y got :=
  ⟨by rw [hw]; exact h.w1, by rw [hw]; exact h.w2, by rw [hw]; exact h.g, by rw [hh]; exact h.h⟩
theorem Rcvs.holds {S : List ByteArray} {x : LEnd} {got : List ByteArray} (h : Rcvs S x got) {f : LFrame} (hf : Frm S f) : Rcvs S (x.holds f) got := by
  unfold LEnd.holds
  split
  · rename_i hc
    refine ⟨h.w1, h.w2, h.g, fun e he => ?_⟩
    rcases putHeld_mem _ he with rfl | he
    · have := h.w1
      exact hf (by omega)
    · exact h.h e he
  · exact h
theorem run_data (S : List ByteArray) : ∀ (n : Int) (l : List LHeld), 1 ≤ n → (n - 1).toNat ≤ S.length → (∀ e ∈ l, S[(e.1 - 1).toNat]? = some e.2) →
    S.take (n - 1).toNat ++ (l.take (runLen n l)).map (·.2) = S.take (n - 1 + runLen n l).toNat ∧ (n - 1 + runLen n l).toNat ≤ S.length
  | n, [], h1, h2, _ => by simp [runLen]; omega
  | n, g :: l, h1, h2, h => by
    unfold runLen
    split
    · rename_i hc
      have hg := h g (by simp)
      rw [hc.1] at hg
      have hlt := (List.getElem?_eq_some_iff.1 hg).1
      obtain ⟨e1, e2⟩ := run_data S (n + 1) l (by omega) (by omega) (fun e he => h e (by simp [he]))
      have ht : S.take (n - 1).toNat ++ [g.2] = S.take (n + 1 - 1).toNat := by
        rw [show (n + 1 - 1).toNat = (n - 1).toNat + 1 by omega, List.take_add_one, hg]; rfl
      rw [List.take_succ_cons, List.map_cons, show g.2 :: (l.take (runLen (n + 1) l)).map (·.2) = [g.2] ++ (l.take (runLen (n + 1) l)).map (·.2) from rfl, ← List.append_assoc, ht, e1]
      exact ⟨by congr 1; omega, by omega⟩
    · simp; omega
theorem Rcvs.gives {S : List ByteArray} {x : LEnd} {got : List ByteArray} (h : Rcvs S x got) {f : LFrame} (hf : Frm S f) : Rcvs S (x.gives f).1 (got ++ (x.gives f).2) := by
  unfold LEnd.gives
  split
  · rename_i hc
    have h1 := h.w1
    have hd := hf (by omega)
    rw [hc.1] at hd
    have hlt := (List.getElem?_eq_some_iff.1 hd).1
    obtain ⟨e1, e2⟩ := run_data S (x.want + 1) x.held (by omega) (by omega) h.h
    have ht : got ++ [f.data] = S.take (x.want + 1 - 1).toNat := by
      rw [h.g, show (x.want + 1 - 1).toNat = (x.want - 1).toNat + 1 by omega, List.take_add_one, hd]; rfl
    refine ⟨?_, ?_, ?_, fun e he => h.h e (List.mem_of_mem_drop he)⟩
    · show 1 ≤ x.want + 1 + _; omega
    · show (x.want + 1 + _ - 1).toNat ≤ _; omega
    · show got ++ (f.data :: (x.held.take (runLen (x.want + 1) x.held)).map (·.2)) = S.take (x.want + 1 + (runLen (x.want + 1) x.held : Int) - 1).toNat
      rw [show f.data :: (x.held.take (runLen (x.want + 1) x.held)).map (·.2) = [f.data] ++ (x.held.take (runLen (x.want + 1) x.held)).map (·.2) from rfl, ← List.append_assoc, ht, e1]
      congr 1
      omega
  · rw [List.append_nil]; exact h
theorem Rcvs.receive {S : List ByteArray} {x : LEnd} {got : List ByteArray} (h : Rcvs S x got) {f : LFrame} (hf : Frm S f) : Rcvs S (x.receive f).1 (got ++ (x.receive f).2) := by
  unfold LEnd.receive
  split
  · exact ((h.congr (acked_want x f).1 (acked_want x f).2).holds hf).gives hf
  · rw [List.append_nil]; exact h
theorem frames_mem {x : LEnd} {f : LFrame} (hf : f ∈ x.frames) : f.ack = x.want ∧ (f.seq = 0 ∨ ∃ k : Nat, x.queue[k]? = some f.data ∧ f.seq = x.base + k) := by
  unfold LEnd.frames at hf
  split at hf
  · obtain rfl := List.mem_singleton.1 hf
    exact ⟨rfl, .inl rfl⟩
  · obtain ⟨p, hp, rfl⟩ := List.mem_map.1 hf
    refine ⟨rfl, .inr ⟨p.2, ?_, rfl⟩⟩
    have := List.mem_zipIdx_iff_getElem?.1 hp
    rw [List.getElem?_take] at this
    split at this
    · exact this
    · cases this
theorem Snds.frm {S : List ByteArray} {x : LEnd} (h : Snds S x) : ∀ f ∈ x.frames, Frm S f := by
  intro f hf h0
  rcases (frames_mem hf).2 with h1 | ⟨k, h1, h2⟩
  · exact absurd h1 h0
  · rw [h.q, List.getElem?_drop] at h1
    rw [h2, ← h1]
    have := h.b1
    congr 1
    omega
/-- One end: what it is, what it was when it was packed, what it sent and delivered then and now, and the frames on the way to it. -/
structure Pty where
  x : LEnd
  old : LEnd
  sent : List ByteArray
  got : List ByteArray
  oldS : List ByteArray
  oldG : List ByteArray
  way : List LFrame
/-- From s to r. -/
structure Flow (s r : Pty) : Prop where
  sx : Snds s.sent s.x
  so : Snds s.oldS s.old
  pr : s.oldS <+: s.sent
  rx : Rcvs s.oldS r.x r.got
  ro : Rcvs s.oldS r.old r.oldG
  wy : ∀ f ∈ r.way, Frm s.oldS f
  ak : ∀ f ∈ s.way, f.ack ≤ r.old.want
  b1 : s.x.base ≤ r.old.want
  b2 : s.old.base ≤ r.old.want
  w : r.old.want ≤ r.x.want
def Both (a b : Pty) : Prop := Flow a b ∧ Flow b a
section
variable {a b : Pty}
theorem Both.symm (h : Both a b) : Both b a := ⟨h.2, h.1⟩
theorem Both.send (h : Both a b) (t : ByteArray) : Both { a with x := a.x.send t, sent := a.sent ++ [t] } b :=
  ⟨⟨h.1.sx.send t, h.1.so, h.1.pr.trans (List.prefix_append _ _), h.1.rx, h.1.ro, h.1.wy, h.1.ak, h.1.b1, h.1.b2, h.1.w⟩,
   ⟨h.2.sx, h.2.so, h.2.pr, h.2.rx.congr rfl rfl, h.2.ro, h.2.wy, h.2.ak, h.2.b1, h.2.b2, h.2.w⟩⟩
theorem Both.frames (h : Both a b) : Both a { b with way := b.way ++ a.old.frames } :=
  ⟨⟨h.1.sx, h.1.so, h.1.pr, h.1.rx, h.1.ro, fun f hf => by
      rcases List.mem_append.1 hf with hf | hf
      · exact h.1.wy f hf
      · exact h.1.so.frm f hf, h.1.ak, h.1.b1, h.1.b2, h.1.w⟩,
   ⟨h.2.sx, h.2.so, h.2.pr, h.2.rx, h.2.ro, h.2.wy, fun f hf => by
      rcases List.mem_append.1 hf with hf | hf
      · exact h.2.ak f hf
      · rw [(frames_mem hf).1]; exact Int.le_refl _, h.2.b1, h.2.b2, h.2.w⟩⟩
theorem Both.recv (h : Both a b) {f : LFrame} (hf : f ∈ a.way) : Both { a with x := (a.x.receive f).1, got := a.got ++ (a.x.receive f).2 } b :=
  ⟨⟨h.1.sx.receive f, h.1.so, h.1.pr, h.1.rx, h.1.ro, h.1.wy, h.1.ak, receive_base a.x f h.1.b1 (h.1.ak f hf), h.1.b2, h.1.w⟩,
   ⟨h.2.sx, h.2.so, h.2.pr, h.2.rx.receive (h.2.wy f hf), h.2.ro, h.2.wy, h.2.ak, h.2.b1, h.2.b2, Int.le_trans h.2.w (receive_want a.x f)⟩⟩
theorem Both.cut (h : Both a b) {l : List LFrame} (hl : ∀ f ∈ l, f ∈ a.way) : Both { a with way := l } b :=
  ⟨⟨h.1.sx, h.1.so, h.1.pr, h.1.rx, h.1.ro, h.1.wy, fun f hf => h.1.ak f (hl f hf), h.1.b1, h.1.b2, h.1.w⟩,
   ⟨h.2.sx, h.2.so, h.2.pr, h.2.rx, h.2.ro, fun f hf => h.2.wy f (hl f hf), h.2.ak, h.2.b1, h.2.b2, h.2.w⟩⟩
theorem Both.pack (h : Both a b) : Both { a with old := a.x, oldS := a.sent, oldG := a.got } b :=
  ⟨⟨h.1.sx, h.1.sx, List.prefix_refl _, h.1.rx.mono h.1.pr, h.1.ro.mono h.1.pr, fun f hf => (h.1.wy f hf).mono h.1.pr, h.1.ak, h.1.b1, h.1.b1, h.1.w⟩,
   ⟨h.2.sx, h.2.so, h.2.pr, h.2.rx, h.2.rx, h.2.wy, fun f hf => Int.le_trans (h.2.ak f hf) h.2.w, Int.le_trans h.2.b1 h.2.w, Int.le_trans h.2.b2 h.2.w, Int.le_refl _⟩⟩
theorem Both.back (h : Both a b) : Both { a with x := a.old, sent := a.oldS, got := a.oldG } b :=
  ⟨⟨h.1.so, h.1.so, List.prefix_refl _, h.1.rx, h.1.ro, h.1.wy, h.1.ak, h.1.b2, h.1.b2, h.1.w⟩,
   ⟨h.2.sx, h.2.so, h.2.pr, h.2.ro, h.2.ro, h.2.wy, h.2.ak, h.2.b1, h.2.b2, Int.le_refl _⟩⟩
end
/-- What else holds behind i operations. -/
structure Pty.Fit (p : Pty) (i : Nat) : Prop where
  x : p.x.Ok
  old : p.old.Ok
  s : p.sent.length ≤ i
  y : p.way.length ≤ 107
def p0 : Pty := ⟨⟨1, [], 1, []⟩, ⟨1, [], 1, []⟩, [], [], [], [], []⟩
theorem both0 : Both p0 p0 := by
  have s : Snds [] ⟨1, [], 1, []⟩ := ⟨by simp, by simp, by simp⟩
  have r : Rcvs [] ⟨1, [], 1, []⟩ [] := ⟨by simp, by simp, by simp, by simp⟩
  have f : Flow p0 p0 := ⟨s, s, List.prefix_refl _, r, r, by simp [p0], by simp [p0], Int.le_refl _, Int.le_refl _, Int.le_refl _⟩
  exact ⟨f, f⟩
end Go.Proofs.Ytakbadleipbngaa
