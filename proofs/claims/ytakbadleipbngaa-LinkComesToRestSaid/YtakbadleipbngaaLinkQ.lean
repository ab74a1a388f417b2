/-
  The ends of a link as lists: what is received leaves a valid end; the texts that came too early stay in order. Plain: no program. Conditions: none.
-/
import Derived.Test.YtakbadleipbngaaLinkP
set_option linter.all false
namespace Go.Proofs.Ytakbadleipbngaa
open Go.RowKit

/-- Each number is above the one before it, the first above n. -/
def Grows (n : Int) : List LHeld → Prop
  | [] => True
  | g :: l => n < g.1 ∧ Grows g.1 l
def lastN (n : Int) : List LHeld → Int
  | [] => n
  | g :: l => lastN g.1 l
/-- What else is asked of a text that came too early. -/
def HeldOk (n : Int) (g : LHeld) : Prop := g.1 < n + 8 ∧ g.1 < 1099511627776 ∧ g.2.size ≤ 4096

theorem lastN_snoc : ∀ (n : Int) (l : List LHeld) (g : LHeld), lastN n (l ++ [g]) = g.1
  | _, [], _ => rfl
  | _, h :: l, g => lastN_snoc h.1 l g
theorem grows_snoc : ∀ (n : Int) (l : List LHeld) (g : LHeld), Grows n (l ++ [g]) ↔ Grows n l ∧ lastN n l < g.1
  | n, [], g => by simp [Grows, lastN]
  | n, h :: l, g => by
    show n < h.1 ∧ Grows h.1 (l ++ [g]) ↔ (n < h.1 ∧ Grows h.1 l) ∧ lastN h.1 l < g.1
    rw [grows_snoc h.1 l g, and_assoc]
theorem grows_le : ∀ {n m : Int} {l : List LHeld}, Grows n l → m ≤ n → Grows m l
  | _, _, [], _, _ => trivial
  | _, _, _ :: _, h, hm => ⟨by have := h.1; omega, h.2⟩
theorem grows_mem : ∀ {n : Int} {l : List LHeld}, Grows n l → ∀ g ∈ l, n < g.1
  | _, [], _, g, hg => by cases hg
  | n, h :: l, hG, g, hg => by
    rcases List.mem_cons.1 hg with rfl | h2
    · exact hG.1
    · have := grows_mem hG.2 g h2
      have := hG.1
      omega
theorem grows_len : ∀ {n m : Int} {l : List LHeld}, Grows n l → (∀ g ∈ l, g.1 < m) → n < m → (l.length : Int) < m - n
  | n, m, [], _, _, h => by simp; omega
  | n, m, g :: l, hG, hm, h => by
    have h1 := grows_len hG.2 (fun k hk => hm k (List.mem_cons_of_mem _ hk)) (hm g (List.mem_cons_self ..))
    have h2 := hG.1
    simp only [List.length_cons]
    omega

theorem LEnd.prev_take (x : LEnd) : ∀ {k : Nat}, k ≤ x.held.length → x.prev k = lastN x.want (x.held.take k)
  | 0, _ => by simp [LEnd.prev, lastN]
  | k + 1, hk => by
    have hg : x.held[k]? = some x.held[k] := List.getElem?_eq_getElem (by omega)
    rw [List.take_add_one, hg]
    show _ = lastN x.want (x.held.take k ++ [x.held[k]])
    rw [lastN_snoc]
    simp [LEnd.prev, List.getD, hg]
theorem LEnd.heldB_take (x : LEnd) : ∀ {k : Nat}, k ≤ x.held.length → (x.heldB k = true ↔ Grows x.want (x.held.take k) ∧ ∀ g ∈ x.held.take k, HeldOk x.want g)
  | 0, _ => by simp [LEnd.heldB, Grows]
  | k + 1, hk => by
    have hg : x.held[k]? = some x.held[k] := List.getElem?_eq_getElem (by omega)
    rw [x.heldB_succ k _ hg, Bool.and_eq_true, x.heldB_take (show k ≤ x.held.length by omega), List.take_add_one, hg]
    show _ ↔ Grows x.want (x.held.take k ++ [x.held[k]]) ∧ ∀ g ∈ x.held.take k ++ [x.held[k]], HeldOk x.want g
    rw [grows_snoc, ← x.prev_take (by omega)]
    unfold LEnd.heldAt shortB HeldOk
    simp only [Bool.and_eq_true, decide_eq_true_eq, List.mem_append, List.mem_singleton]
    constructor
    · rintro ⟨⟨a, b⟩, ⟨⟨c, d⟩, e⟩, f⟩
      refine ⟨⟨a, c⟩, fun g hg => ?_⟩
      rcases hg with hg | rfl
      · exact b g hg
      · exact ⟨d, e, f⟩
    · rintro ⟨⟨a, c⟩, b⟩
      obtain ⟨d, e, f⟩ := b _ (.inr rfl)
      exact ⟨⟨a, fun g hg => b g (.inl hg)⟩, ⟨⟨c, d⟩, e⟩, f⟩
/-- What Check asks. -/
structure LEnd.Ok (x : LEnd) : Prop where
  b1 : 1 ≤ x.base
  b2 : x.base ≤ 1099511627776
  w1 : 1 ≤ x.want
  w2 : x.want ≤ 1099511627776
  ql : x.queue.length ≤ 64
  qs : ∀ s ∈ x.queue, s.size ≤ 4096
  hg : Grows x.want x.held
  ho : ∀ g ∈ x.held, HeldOk x.want g
theorem LEnd.okB_iff (x : LEnd) : x.okB = true ↔ x.Ok := by
  have h := x.heldB_take (Nat.le_refl _)
  rw [List.take_length] at h
  unfold LEnd.okB LEnd.headB LEnd.queueB shortB
  rw [Bool.and_eq_true, h]
  simp only [Bool.and_eq_true, decide_eq_true_eq, List.take_length, List.all_eq_true]
  constructor
  · rintro ⟨⟨⟨⟨⟨⟨a, b⟩, c⟩, d⟩, e⟩, f⟩, g, i⟩
    exact ⟨a, b, c, d, e, f, g, i⟩
  · rintro ⟨a, b, c, d, e, f, g, i⟩
    exact ⟨⟨⟨⟨⟨⟨a, b⟩, c⟩, d⟩, e⟩, f⟩, g, i⟩
theorem LEnd.Ok.held_len {x : LEnd} (h : x.Ok) : x.held.length ≤ 7 := by
  have := grows_len h.hg (fun g hg => (h.ho g hg).1) (by omega)
  omega

theorem putHeld_grows (h : LHeld) : ∀ {n : Int} {l : List LHeld}, Grows n l → n < h.1 → Grows n (putHeld h l)
  | n, [], _, hn => ⟨hn, trivial⟩
  | n, g :: l, hG, hn => by
    unfold putHeld
    split
    · exact hG
    · split
      · exact ⟨hn, by assumption, hG.2⟩
      · exact ⟨hG.1, putHeld_grows h hG.2 (by omega)⟩
theorem putHeld_mem (h : LHeld) : ∀ {l : List LHeld} {g : LHeld}, g ∈ putHeld h l → g = h ∨ g ∈ l
  | [], g, hg => by simpa [putHeld] using hg
  | k :: l, g, hg => by
    unfold putHeld at hg
    split at hg
    · exact .inr hg
    · split at hg
      · rcases List.mem_cons.1 hg with h1 | h1
        · exact .inl h1
        · exact .inr h1
      · rcases List.mem_cons.1 hg with h1 | h1
        · exact .inr (h1 ▸ List.mem_cons_self ..)
        · rcases putHeld_mem h h1 with h2 | h2
          · exact .inl h2
          · exact .inr (List.mem_cons_of_mem _ h2)
/-- Put in at its place. -/
theorem putHeld_cut (h : LHeld) : ∀ (l : List LHeld) (k : Nat), k ≤ l.length → (∀ g ∈ l.take k, g.1 < h.1) → (∀ g, l[k]? = some g → h.1 < g.1) → putHeld h l = l.take k ++ h :: l.drop k
  | [], k, hk, _, _ => by
    obtain rfl : k = 0 := by simpa using hk
    rfl
  | g :: l, 0, _, _, h2 => by
    have := h2 g rfl
    unfold putHeld
    rw [if_neg (by omega), if_pos this]; rfl
  | g :: l, k + 1, hk, h1, h2 => by
    have := h1 g (by simp)
    unfold putHeld
    rw [if_neg (by omega), if_neg (by omega), putHeld_cut h l k (by simpa using hk) (fun j hj => h1 j (by simp [hj])) (fun j hj => h2 j (by simpa using hj))]
    rfl
theorem putHeld_known (h : LHeld) : ∀ (l : List LHeld) (k : Nat) (g : LHeld), l[k]? = some g → g.1 = h.1 → (∀ g ∈ l.take k, g.1 < h.1) → putHeld h l = l
  | [], k, g, hk, _, _ => by simp at hk
  | g :: l, 0, g', hk, he, _ => by
    obtain rfl : g = g' := by simpa using hk
    unfold putHeld
    rw [if_pos he]
  | g :: l, k + 1, g', hk, he, h1 => by
    have := h1 g (by simp)
    unfold putHeld
    rw [if_neg (by omega), if_neg (by omega), putHeld_known h l k g' (by simpa using hk) he (fun j hj => h1 j (by simp [hj]))]

theorem runLen_le : ∀ (n : Int) (l : List LHeld), runLen n l ≤ l.length
  | _, [] => Nat.le_refl _
  | n, g :: l => by
    unfold runLen
    split
    · have := runLen_le (n + 1) l
      simp only [List.length_cons]; omega
    · omega
theorem runLen_grows : ∀ {n m : Int} {l : List LHeld}, Grows m l → n - 1 ≤ m → n ≤ 1099511627776 → (∀ g ∈ l, g.1 < 1099511627776) → Grows (n + runLen n l) (l.drop (runLen n l)) ∧ n + runLen n l ≤ 1099511627776
  | n, m, [], _, _, h, _ => ⟨trivial, by simpa [runLen] using h⟩
  | n, m, g :: l, hG, hm, hn, hs => by
    have h1 := hG.1
    have h2 := hs g (List.mem_cons_self ..)
    unfold runLen
    split
    · rename_i hc
      have h3 := runLen_grows (n := n + 1) (m := g.1) hG.2 (by omega) (by omega) (fun k hk => hs k (List.mem_cons_of_mem _ hk))
      have e : n + ((runLen (n + 1) l + 1 : Nat) : Int) = n + 1 + (runLen (n + 1) l : Int) := by omega
      rw [e]
      exact h3
    · rename_i hc
      refine ⟨?_, by simpa using hn⟩
      show Grows (n + ((0 : Nat) : Int)) (g :: l)
      exact ⟨by omega, hG.2⟩

theorem LEnd.Ok.acked {x : LEnd} (h : x.Ok) (f : LFrame) : (x.acked f).Ok := by
  unfold LEnd.acked
  split
  · rename_i hc
    have := h.b1
    exact ⟨by simp; omega, by simp; omega, h.w1, h.w2, by simp; have := h.ql; omega, fun s hs => h.qs s (List.mem_of_mem_drop hs), h.hg, h.ho⟩
  · exact h
theorem LEnd.Ok.holds {x : LEnd} (h : x.Ok) {f : LFrame} (hf : f.data.size ≤ 4096) : (x.holds f).Ok := by
  unfold LEnd.holds
  split
  · rename_i hc
    refine ⟨h.b1, h.b2, h.w1, h.w2, h.ql, h.qs, putHeld_grows _ h.hg hc.1, fun g hg => ?_⟩
    rcases putHeld_mem _ hg with rfl | hg
    · exact ⟨hc.2.1, hc.2.2, hf⟩
    · exact h.ho g hg
  · exact h
theorem LEnd.Ok.gives {x : LEnd} (h : x.Ok) (f : LFrame) : (x.gives f).1.Ok := by
  unfold LEnd.gives
  split
  · rename_i hc
    have h1 := runLen_grows (n := x.want + 1) (m := x.want) h.hg (by omega) (by omega) (fun g hg => (h.ho g hg).2.1)
    have := h.w1
    refine ⟨h.b1, h.b2, ?_, h1.2, h.ql, h.qs, h1.1, fun g hg => ?_⟩
    · show 1 ≤ x.want + 1 + (runLen (x.want + 1) x.held : Int)
      omega
    · have h2 := h.ho g (List.mem_of_mem_drop hg)
      refine ⟨?_, h2.2.1, h2.2.2⟩
      have := h2.1
      show g.1 < x.want + 1 + (runLen (x.want + 1) x.held : Int) + 8
      omega
  · exact h
theorem LFrame.okB_data {f : LFrame} (h : f.okB = true) : f.data.size ≤ 4096 := by
  unfold LFrame.okB shortB at h
  simp only [Bool.and_eq_true, decide_eq_true_eq] at h
  exact h.1.2
/-- What is received leaves a valid end. -/
theorem LEnd.Ok.receive {x : LEnd} (h : x.Ok) (f : LFrame) : (x.receive f).1.Ok := by
  unfold LEnd.receive
  split
  · rename_i hf
    exact ((h.acked f).holds (LFrame.okB_data hf)).gives f
  · exact h
end Go.Proofs.Ytakbadleipbngaa
