/-
  What functions compute: equations. Conditions: none.
-/
import Derived.Test.YtakbadleipbngaaG1
set_option linter.all false
namespace Go.Proofs.Ytakbadleipbngaa
open Go.RowKit
section
variable {R S T : Type}
theorem cnd_true (x y : Option R) : cnd true x y = x := rfl
theorem cnd_false (x y : Option R) : cnd false x y = y := rfl
theorem cnd_and (b c : Bool) : cnd b (some c) (some false) = some (b && c) := by cases b <;> rfl
theorem cnd_or (b c : Bool) : cnd b (some true) (some c) = some (b || c) := by cases b <;> rfl
theorem cnd_nand (b c : Bool) : cnd b (some false) (some c) = some (!b && c) := by cases b <;> rfl
theorem cnd_nor (b c : Bool) : cnd b (some c) (some true) = some (!b || c) := by cases b <;> rfl
theorem cnd_same (b : Bool) (x : Option R) : cnd b x x = x := by cases b <;> rfl
theorem cnd_some (b : Bool) (x y : R) : cnd b (some x) (some y) = some (bif b then x else y) := by cases b <;> rfl
theorem cnd_bnd (b : Bool) (x y : Option S) (k : S → Option R) : bnd (cnd b x y) k = cnd b (bnd x k) (bnd y k) := by cases b <;> rfl
theorem bnd_id (x : Option R) : (bnd x fun a => some a) = x := by cases x <;> rfl
theorem bnd_none (k : S → Option R) : bnd none k = none := rfl
theorem bnd_bnd (x : Option S) (k : S → Option T) (m : T → Option R) : bnd (bnd x k) m = bnd x fun s => bnd (k s) m := by cases x <;> rfl
theorem cnd_pos {b : Bool} (x y : Option R) (h : b = true) : cnd b x y = x := by subst h; rfl
theorem cnd_neg {b : Bool} (x y : Option R) (h : b = false) : cnd b x y = y := by subst h; rfl
theorem cnd_dec (p : Prop) [Decidable p] (x y : Option R) : cnd (decide p) x y = if p then x else y := by
  by_cases h : p <;> simp [h, cnd]
theorem cndT {p : Prop} [Decidable p] (x y : Option R) (h : p) : cnd (decide p) x y = x := by rw [decide_eq_true h]; rfl
theorem cndF {p : Prop} [Decidable p] (x y : Option R) (h : ¬ p) : cnd (decide p) x y = y := by rw [decide_eq_false h]; rfl
theorem gd_bnd (c : Prop) [Decidable c] (x : Option S) (k : S → Option R) : bnd (gd c x) k = gd c (bnd x k) := by
  unfold gd; split <;> rfl
end
theorem subL_self {α : Type} (l : List α) : subL l 0 l.length = l := by
  unfold subL; simp
theorem subL_to {α : Type} (l : List α) (b : Int) (h : 0 ≤ b) : subL l 0 b = l.take b.toNat := by
  unfold subL; simp
theorem subL_from {α : Type} (l : List α) (a : Int) : subL l a l.length = l.drop a.toNat := by
  unfold subL
  refine List.take_of_length_le ?_
  rw [List.length_drop]; omega
theorem subL_nat {α : Type} (l : List α) (a b : Nat) : subL l a b = (l.drop a).take (b - a) := by
  unfold subL
  congr 1
  omega
theorem w_id {z : Int} (h : -9223372036854775808 ≤ z ∧ z ≤ 9223372036854775807) : IntKind.i64.wrap z = z := wrap_id h.1 h.2
theorem bs_size0 (s : ByteArray) : s = ByteArray.empty ↔ s.size = 0 := by
  constructor
  · rintro rfl; rfl
  · intro h
    rcases s with ⟨⟨l⟩⟩
    have h' : l.length = 0 := h
    obtain rfl := List.eq_nil_of_length_eq_zero h'
    rfl
theorem bs_size0B (s : ByteArray) : decide (s = ByteArray.empty) = decide (s.size = 0) := decide_eq_decide.2 (bs_size0 s)
end Go.Proofs.Ytakbadleipbngaa
