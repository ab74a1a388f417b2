/-
  The ends of a link as lists: what Check, Send, Frames and Receive are. Plain: no program. Conditions: none.
-/
import Derived.Test.YtakbadleipbngaaBase
set_option linter.all false
namespace Go.Proofs.Ytakbadleipbngaa
open Go.RowKit

/-- A text that came too early: its number and its bytes. -/
abbrev LHeld := Int × ByteArray
structure LEnd where
  base : Int
  queue : List ByteArray
  want : Int
  held : List LHeld
structure LFrame where
  seq : Int
  ack : Int
  data : ByteArray
deriving DecidableEq

/-! ### Check -/
/-- The number before the k-th of the texts that came too early. -/
def LEnd.prev (x : LEnd) (k : Nat) : Int := if k = 0 then x.want else (x.held.getD (k - 1) (0, .empty)).1
def LEnd.headB (x : LEnd) : Bool := decide (1 ≤ x.base) && decide (x.base ≤ 1099511627776) && decide (1 ≤ x.want) && decide (x.want ≤ 1099511627776) && decide (x.queue.length ≤ 64)
def shortB (s : ByteArray) : Bool := decide (s.size ≤ 4096)
def LEnd.queueB (x : LEnd) (k : Nat) : Bool := (x.queue.take k).all shortB
def LEnd.heldAt (x : LEnd) (k : Nat) (h : LHeld) : Bool := decide (x.prev k < h.1) && decide (h.1 < x.want + 8) && decide (h.1 < 1099511627776) && shortB h.2
/-- The first k texts that came too early are as they should be. -/
def LEnd.heldB (x : LEnd) : Nat → Bool
  | 0 => true
  | k + 1 => x.heldB k && match x.held[k]? with
    | none => true
    | some h => x.heldAt k h
def LEnd.okB (x : LEnd) : Bool := x.headB && x.queueB x.queue.length && x.heldB x.held.length

theorem LEnd.queueB_succ (x : LEnd) (k : Nat) (s : ByteArray) (h : x.queue[k]? = some s) : x.queueB (k + 1) = (x.queueB k && shortB s) := by
  unfold LEnd.queueB
  rw [List.take_add_one, h]
  simp
theorem LEnd.heldB_succ (x : LEnd) (k : Nat) (h : LHeld) (hk : x.held[k]? = some h) : x.heldB (k + 1) = (x.heldB k && x.heldAt k h) := by
  show (x.heldB k && match x.held[k]? with | none => true | some h => x.heldAt k h) = _
  rw [hk]
theorem LEnd.heldB_mono (x : LEnd) {i k : Nat} (h : x.heldB k = true) (hi : i ≤ k) : x.heldB i = true := by
  induction k with
  | zero => obtain rfl : i = 0 := by omega
            rfl
  | succ k ih =>
    rcases Nat.lt_or_ge i (k + 1) with hlt | hge
    · refine ih ?_ (by omega)
      have h2 : (x.heldB k && match x.held[k]? with | none => true | some h => x.heldAt k h) = true := h
      rw [Bool.and_eq_true] at h2
      exact h2.1
    · obtain rfl : i = k + 1 := by omega
      exact h
theorem LEnd.heldAt_of (x : LEnd) {k i : Nat} (h : x.heldB k = true) (hi : i < k) {g : LHeld} (hg : x.held[i]? = some g) : x.heldAt i g = true := by
  have h2 := x.heldB_mono h (show i + 1 ≤ k by omega)
  rw [x.heldB_succ i g hg, Bool.and_eq_true] at h2
  exact h2.2
/-- The numbers grow: each is above what is wanted. -/
theorem LEnd.want_le_prev (x : LEnd) : ∀ {k : Nat}, x.heldB k = true → k ≤ x.held.length → x.want ≤ x.prev k
  | 0, _, _ => by unfold LEnd.prev; simp
  | k + 1, h, hk => by
    have hlt : k < x.held.length := by omega
    have hg : x.held[k]? = some x.held[k] := List.getElem?_eq_getElem hlt
    have h1 := x.heldAt_of h (by omega) hg
    have h2 := x.want_le_prev (x.heldB_mono h (Nat.le_succ k)) (by omega)
    unfold LEnd.heldAt at h1
    simp only [Bool.and_eq_true, decide_eq_true_eq] at h1
    have h3 : x.prev (k + 1) = x.held[k].1 := by
      unfold LEnd.prev
      rw [if_neg (by omega), Nat.add_sub_cancel]
      simp [List.getD, hg]
    omega
/-- What the specification asks of the k-th, behind those before it. -/
theorem LEnd.heldAt_ref (x : LEnd) {k : Nat} (h : x.heldB k = true) {g : LHeld} (hg : x.held[k]? = some g) :
    x.heldAt k g = (decide (x.want < g.1) && decide (g.1 < x.want + 8) && decide (g.1 < 1099511627776) && shortB g.2 && (decide (k = 0) || decide ((x.held.getD (k - 1) (0, .empty)).1 < g.1))) := by
  have hk : k < x.held.length := by
    rcases Nat.lt_or_ge k x.held.length with h | h
    · exact h
    · rw [List.getElem?_eq_none h] at hg; cases hg
  have h2 := x.want_le_prev h (by omega)
  rw [Bool.eq_iff_iff]
  unfold LEnd.heldAt
  simp only [Bool.and_eq_true, decide_eq_true_eq, Bool.or_eq_true]
  by_cases h0 : k = 0
  · subst h0
    have : x.prev 0 = x.want := by unfold LEnd.prev; simp
    rw [this]
    simp
  · have e : x.prev k = (x.held.getD (k - 1) (0, .empty)).1 := by unfold LEnd.prev; rw [if_neg h0]
    rw [← e]
    constructor
    · rintro ⟨⟨⟨a, b⟩, c⟩, d⟩
      exact ⟨⟨⟨⟨by omega, b⟩, c⟩, d⟩, .inr a⟩
    · rintro ⟨⟨⟨⟨a, b⟩, c⟩, d⟩, e⟩
      rcases e with e | e
      · exact absurd e h0
      · exact ⟨⟨⟨e, b⟩, c⟩, d⟩

/-! ### Send, Frames -/
def LEnd.send (x : LEnd) (s : ByteArray) : LEnd := { x with queue := x.queue ++ [s] }
def LEnd.frames (x : LEnd) : List LFrame :=
  if x.queue.length = 0 then [⟨0, x.want, .empty⟩] else (x.queue.take 8).zipIdx.map fun p => ⟨x.base + p.2, x.want, p.1⟩
def LEnd.frameAt (x : LEnd) (k : Nat) : LFrame := ⟨x.base + k, x.want, x.queue.getD k .empty⟩

/-! ### Receive -/
def LFrame.okB (f : LFrame) : Bool := decide (0 ≤ f.seq) && decide (f.seq ≤ 2199023255552) && decide (1 ≤ f.ack) && decide (f.ack ≤ 2199023255552) && shortB f.data && (decide (0 < f.seq) || decide (f.data.size = 0))
def LEnd.acked (x : LEnd) (f : LFrame) : LEnd :=
  if x.base < f.ack ∧ f.ack ≤ x.base + x.queue.length ∧ f.ack ≤ 1099511627776 then { x with base := f.ack, queue := x.queue.drop (f.ack - x.base).toNat } else x
/-- The list with an element put in by its number; as it is if there is one with this number. -/
def putHeld (h : LHeld) : List LHeld → List LHeld
  | [] => [h]
  | g :: l => if g.1 = h.1 then g :: l else if h.1 < g.1 then h :: g :: l else g :: putHeld h l
def LEnd.holds (x : LEnd) (f : LFrame) : LEnd :=
  if x.want < f.seq ∧ f.seq < x.want + 8 ∧ f.seq < 1099511627776 then { x with held := putHeld (f.seq, f.data) x.held } else x
/-- How many of the texts at the head follow what is wanted. -/
def runLen (n : Int) : List LHeld → Nat
  | [] => 0
  | g :: l => if g.1 = n ∧ n < 1099511627776 then runLen (n + 1) l + 1 else 0
def LEnd.gives (x : LEnd) (f : LFrame) : LEnd × List ByteArray :=
  if f.seq = x.want ∧ x.want < 1099511627776 then
    let k := runLen (x.want + 1) x.held
    ({ x with want := x.want + 1 + k, held := x.held.drop k }, f.data :: (x.held.take k).map (·.2))
  else (x, [])
def LEnd.receive (x : LEnd) (f : LFrame) : LEnd × List ByteArray :=
  if f.okB then ((x.acked f).holds f).gives f else (x, [])
end Go.Proofs.Ytakbadleipbngaa
