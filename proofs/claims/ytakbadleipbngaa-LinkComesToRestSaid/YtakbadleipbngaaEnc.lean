/-
  Lists of structs as cells: what lies where. Conditions: none.
-/
import Derived.Test.YtakbadleipbngaaAb1
set_option linter.all false
namespace Go.Proofs.Ytakbadleipbngaa
open Go.RowKit
theorem flat_length {α : Type} (f : α → List E) {z : Nat} (hz : ∀ a, (f a).length = z) (l : List α) : (l.flatMap f).length = l.length * z := by
  induction l with
  | nil => simp
  | cons a l ih => rw [List.flatMap_cons, List.length_append, hz, ih, List.length_cons, Nat.add_mul, Nat.one_mul, Nat.add_comm]
theorem flat_getD {α : Type} [Inhabited α] (f : α → List E) {z : Nat} (hz : ∀ a, (f a).length = z) {l : List α} {i : Nat} (h : i < l.length) {c : Nat} (hc : c < z) : (l.flatMap f).getD (i * z + c) .any = (f l[i]!).getD c .any := by
  induction l generalizing i with
  | nil => simp at h
  | cons a l ih =>
    cases i with
    | zero =>
      simp only [List.flatMap_cons, Nat.zero_mul, Nat.zero_add, List.getD, List.getElem!_cons_zero]
      rw [List.getElem?_append_left (by rw [hz]; exact hc)]
    | succ i =>
      have := ih (i := i) (by simpa using h)
      rw [List.getElem!_cons_succ, ← this]
      simp only [List.flatMap_cons, List.getD]
      rw [List.getElem?_append_right (by rw [hz, Nat.add_mul]; omega), hz]
      congr 2
      rw [Nat.add_mul]
      omega
theorem flat_take {α : Type} (f : α → List E) {z : Nat} (hz : ∀ a, (f a).length = z) : ∀ (l : List α) (i : Nat), (l.flatMap f).take (i * z) = (l.take i).flatMap f
  | [], i => by simp
  | a :: l, 0 => by simp
  | a :: l, i + 1 => by
    rw [List.flatMap_cons, List.take_succ_cons, List.flatMap_cons, ← flat_take f hz l i, List.take_append, hz, List.take_of_length_le (by rw [hz, Nat.add_mul]; omega), Nat.add_mul]
    congr 2
    omega
theorem flat_drop {α : Type} (f : α → List E) {z : Nat} (hz : ∀ a, (f a).length = z) : ∀ (l : List α) (i : Nat), (l.flatMap f).drop (i * z) = (l.drop i).flatMap f
  | [], i => by simp
  | a :: l, 0 => by simp
  | a :: l, i + 1 => by
    rw [List.flatMap_cons, List.drop_succ_cons, ← flat_drop f hz l i, List.drop_append, hz, List.drop_eq_nil_of_le (by rw [hz, Nat.add_mul]; omega), Nat.add_mul, List.nil_append]
    congr 2
    omega
end Go.Proofs.Ytakbadleipbngaa
