/-
  layer 42: short, Idle, New, valid and the specification's New, Valid. Conditions: none.
-/
import Derived.Test.YtakbadleipbngaaLinkQ
import Derived.Test.YtakbadleipbngaaArr3
import Derived.Test.YtakbadleipbngaaWireA
set_option linter.all false
namespace Go.Proofs.Ytakbadleipbngaa
open Go.RowKit
def frV (f : LFrame) : Value := .agg #[.int .i64 f.seq, .int .i64 f.ack, .string f.data]
theorem link_short (s : ByteArray) (w : World) : Calls Try.prog 31 #[.string s] w fun e w' => e = .returned (.bool (shortB s)) ∧ w = w' := by
  go_enter Try.func31, Try.ntmps31
  go_wp2_with fail
  go_ret
  refine ⟨?_, rfl⟩
  unfold shortB
  have h : ((s.size : Int) ≤ 4096) ↔ s.size ≤ 4096 := by omega
  simp [h]
/-- An end's value. -/
def endV (b : Int) (q : Value) (n : Int) (h : Value) : Value := .agg #[.int .i64 b, q, .int .i64 n, h]
def endF (b : Int) (q : Value) (n : Int) (h : Value) : Nat → Value
  | 0 => .int .i64 b
  | 1 => q
  | 2 => .int .i64 n
  | _ => h
theorem aggEnd : Agg Try.prog 25 4 := ⟨⟨_, Try.underlying25, rfl⟩, by kernel_rfl⟩
theorem toList_isEmpty (d : ByteArray) : d.toList.isEmpty = decide (d.size = 0) := by
  rw [ByteArray.toList_eq, Bool.eq_iff_iff, decide_eq_true_eq, List.isEmpty_iff]
  show d.data.toList = [] ↔ d.data.size = 0
  rw [← Array.length_toList, List.length_eq_zero_iff]
theorem link_New (w : World) : Calls Try.prog 23 #[] w fun e w' => e = .returned (endV 1 (.slice none 0 0) 1 (.slice none 0 0)) ∧ Below w.heap.size w w' := by
  go_enter Try.func23, Try.ntmps23
  go_wp2_with fail
  exact bodyPost_arr (p := 0) (by rfl) (row_alloc w 25 4 (endF 1 (.slice none 0 0) 1 (.slice none 0 0))) (by rfl) aggEnd (by rfl) ⟨rfl, (Below.refl _ _).alloc (Nat.le_refl _) _⟩
theorem ref_New (w : World) : Calls Try.prog 22 #[] w fun e w' => e = .returned (endV 1 (.slice none 0 0) 1 (.slice none 0 0)) ∧ Below w.heap.size w w' := by
  go_enter Try.func22, Try.ntmps22
  go_wp2_with fail
  exact bodyPost_arr (p := 0) (by rfl) (row_alloc w 25 4 (endF 1 (.slice none 0 0) 1 (.slice none 0 0))) (by rfl) aggEnd (by rfl) ⟨rfl, (Below.refl _ _).alloc (Nat.le_refl _) _⟩
theorem link_Idle (b n : Int) (A : Option Addr) (k c : Nat) (h : Value) (w : World) : Calls Try.prog 21 #[endV b (.slice A k c) n h] w fun e w' => e = .returned (.bool (decide (k = 0))) ∧ Below w.heap.size w w' := by
  have hB := (Below.refl w.heap.size w).alloc (Nat.le_refl _) (.cells #[.int .i64 b, .slice A k c, .int .i64 n, h] 25)
  unfold endV
  go_enter Try.func21, Try.ntmps21
  go_wp2_with fail
  go_ret
  refine ⟨?_, hB⟩
  show Ending.returned (.bool ((k : Int) == 0)) = _
  rw [show ((k : Int) == 0) = decide (k = 0) by rw [Bool.eq_iff_iff, beq_iff_eq, decide_eq_true_eq]; omega]
set_option maxHeartbeats 1000000 in
theorem link_valid (f : LFrame) (w : World) : Calls Try.prog 33 #[frV f] w fun e w' => e = .returned (.bool f.okB) ∧ Below w.heap.size w w' := by
  obtain ⟨s, a, d⟩ := f
  unfold frV
  have hB := (Below.refl w.heap.size w).alloc (Nat.le_refl _) (.cells #[.int .i64 s, .int .i64 a, .string d] 27)
  by_cases h0 : 0 ≤ s
  · by_cases h1 : s ≤ 2199023255552
    · by_cases h2 : 1 ≤ a
      · by_cases h3 : a ≤ 2199023255552
        · by_cases h4 : d.size ≤ 4096
          · by_cases h5 : 0 < s
            · go_enter Try.func33, Try.ntmps33
              go_wp2_with fail
              refine (link_short d _).mono ?_
              rw [show shortB d = true by unfold shortB; simp; omega]
              rintro e w1 ⟨rfl, rfl⟩
              go_wp2_with fail
              go_ret
              refine ⟨?_, hB⟩
              rw [show (⟨s, a, d⟩ : LFrame).okB = true by unfold LFrame.okB shortB; simp; omega]
              rfl
            · go_enter Try.func33, Try.ntmps33
              go_wp2_with fail
              refine (link_short d _).mono ?_
              rw [show shortB d = true by unfold shortB; simp; omega]
              rintro e w1 ⟨rfl, rfl⟩
              go_wp2_with fail
              go_ret
              refine ⟨?_, hB⟩
              show Ending.returned (.bool (decide (0 < s) || d.toList.isEmpty)) = _
              rw [toList_isEmpty, show (⟨s, a, d⟩ : LFrame).okB = decide (d.size = 0) by unfold LFrame.okB shortB; rw [Bool.eq_iff_iff]; simp only [Bool.and_eq_true, Bool.or_eq_true, decide_eq_true_eq]; omega]
              rw [show decide (0 < s) = false by simp; omega]
              rfl
          · go_enter Try.func33, Try.ntmps33
            go_wp2_with fail
            refine (link_short d _).mono ?_
            rw [show shortB d = false by unfold shortB; simp; omega]
            rintro e w1 ⟨rfl, rfl⟩
            go_wp2_with fail
            go_ret
            refine ⟨?_, hB⟩
            rw [show (⟨s, a, d⟩ : LFrame).okB = false by unfold LFrame.okB shortB; simp; omega]
            rfl
        · go_enter Try.func33, Try.ntmps33
          go_wp2_with fail
          go_ret
          refine ⟨?_, hB⟩
          rw [show (⟨s, a, d⟩ : LFrame).okB = false by unfold LFrame.okB shortB; simp; omega]
          rfl
      · go_enter Try.func33, Try.ntmps33
        go_wp2_with fail
        go_ret
        refine ⟨?_, hB⟩
        rw [show (⟨s, a, d⟩ : LFrame).okB = false by unfold LFrame.okB shortB; simp; omega]
        rfl
    · go_enter Try.func33, Try.ntmps33
      go_wp2_with fail
      go_ret
      refine ⟨?_, hB⟩
      rw [show (⟨s, a, d⟩ : LFrame).okB = false by unfold LFrame.okB shortB; simp; omega]
      rfl
  · go_enter Try.func33, Try.ntmps33
    go_wp2_with fail
    go_ret
    refine ⟨?_, hB⟩
    rw [show (⟨s, a, d⟩ : LFrame).okB = false by unfold LFrame.okB shortB; simp; omega]
    rfl
set_option maxHeartbeats 1000000 in
theorem ref_Valid (f : LFrame) (w : World) : Calls Try.prog 42 #[frV f] w fun e w' => e = .returned (.bool f.okB) ∧ Below w.heap.size w w' := by
  obtain ⟨s, a, d⟩ := f
  unfold frV
  have hB := (Below.refl w.heap.size w).alloc (Nat.le_refl _) (.cells #[.int .i64 s, .int .i64 a, .string d] 27)
  by_cases h0 : 0 ≤ s
  · by_cases h1 : s ≤ 2199023255552
    · by_cases h2 : 1 ≤ a
      · by_cases h3 : a ≤ 2199023255552
        · by_cases h4 : d.size ≤ 4096
          · by_cases h5 : 0 < s
            · have hd : (d.size : Int) ≤ 4096 := by omega
              go_enter Try.func42, Try.ntmps42
              go_wp2_with fail
              go_ret
              refine ⟨?_, hB⟩
              rw [show (⟨s, a, d⟩ : LFrame).okB = true by unfold LFrame.okB shortB; simp; omega]
              rfl
            · have hd : (d.size : Int) ≤ 4096 := by omega
              go_enter Try.func42, Try.ntmps42
              go_wp2_with fail
              go_ret
              refine ⟨?_, hB⟩
              show Ending.returned (.bool ((d.size : Int) == 0)) = _
              rw [show (⟨s, a, d⟩ : LFrame).okB = decide (d.size = 0) by unfold LFrame.okB shortB; rw [Bool.eq_iff_iff]; simp only [Bool.and_eq_true, Bool.or_eq_true, decide_eq_true_eq]; omega, show ((d.size : Int) == 0) = decide (d.size = 0) by rw [Bool.eq_iff_iff, beq_iff_eq, decide_eq_true_eq]; omega]
          · have hd : ¬ (d.size : Int) ≤ 4096 := by omega
            go_enter Try.func42, Try.ntmps42
            go_wp2_with fail
            go_ret
            refine ⟨?_, hB⟩
            rw [show (⟨s, a, d⟩ : LFrame).okB = false by unfold LFrame.okB shortB; simp; omega]
            rfl
        · go_enter Try.func42, Try.ntmps42
          go_wp2_with fail
          go_ret
          refine ⟨?_, hB⟩
          rw [show (⟨s, a, d⟩ : LFrame).okB = false by unfold LFrame.okB shortB; simp; omega]
          rfl
      · go_enter Try.func42, Try.ntmps42
        go_wp2_with fail
        go_ret
        refine ⟨?_, hB⟩
        rw [show (⟨s, a, d⟩ : LFrame).okB = false by unfold LFrame.okB shortB; simp; omega]
        rfl
    · go_enter Try.func42, Try.ntmps42
      go_wp2_with fail
      go_ret
      refine ⟨?_, hB⟩
      rw [show (⟨s, a, d⟩ : LFrame).okB = false by unfold LFrame.okB shortB; simp; omega]
      rfl
  · go_enter Try.func42, Try.ntmps42
    go_wp2_with fail
    go_ret
    refine ⟨?_, hB⟩
    rw [show (⟨s, a, d⟩ : LFrame).okB = false by unfold LFrame.okB shortB; simp; omega]
    rfl
end Go.Proofs.Ytakbadleipbngaa
