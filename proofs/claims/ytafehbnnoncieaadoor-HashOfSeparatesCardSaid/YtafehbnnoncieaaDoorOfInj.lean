/-
  What is hashed for a tag and parts tells the tag and the parts. Conditions: none.
-/
import Derived.Test.YtafehbnnoncieaaDoorHashM
namespace Go.Proofs.YtafehbnnoncieaaDoor
open Go.RowKit
theorem enc_cancel : ∀ (a b : Nat) (x y : List UInt8), enc a ++ x = enc b ++ y → a = b ∧ x = y := by
  intro a
  induction a using Nat.strongRecOn with
  | ind a ih =>
    intro b x y h
    by_cases ha : a < 128
    · rw [enc_small ha] at h
      by_cases hb : b < 128
      · rw [enc_small hb] at h
        simp only [List.cons_append, List.nil_append, List.cons.injEq] at h
        refine ⟨?_, h.2⟩
        have := congrArg UInt8.toNat h.1
        simp only [UInt8.toNat_ofNat'] at this
        omega
      · rw [enc_big hb] at h
        simp only [List.cons_append, List.nil_append, List.cons.injEq] at h
        have := congrArg UInt8.toNat h.1
        simp only [UInt8.toNat_ofNat'] at this
        omega
    · rw [enc_big ha] at h
      by_cases hb : b < 128
      · rw [enc_small hb] at h
        simp only [List.cons_append, List.nil_append, List.cons.injEq] at h
        have := congrArg UInt8.toNat h.1
        simp only [UInt8.toNat_ofNat'] at this
        omega
      · rw [enc_big hb] at h
        simp only [List.cons_append, List.cons.injEq] at h
        have h1 := congrArg UInt8.toNat h.1
        simp only [UInt8.toNat_ofNat'] at h1
        obtain ⟨h2, h3⟩ := ih (a / 128) (by omega) (b / 128) x y h.2
        exact ⟨by omega, h3⟩
theorem encBytes_cancel (s t : ByteArray) (x y : List UInt8) (h : encBytes s ++ x = encBytes t ++ y) : s = t ∧ x = y := by
  unfold encBytes encInt at h
  rw [List.append_assoc, List.append_assoc] at h
  obtain ⟨h1, h2⟩ := enc_cancel _ _ _ _ h
  have hz : s.size = t.size := by
    simp only [zig] at h1
    rw [if_neg (by omega), if_neg (by omega)] at h1
    omega
  have hl : s.data.toList.length = t.data.toList.length := by
    rw [Array.length_toList, Array.length_toList]; exact hz
  obtain ⟨h3, h4⟩ := List.append_inj h2 hl
  refine ⟨?_, h4⟩
  apply ByteArray.ext
  exact Array.toList_inj.1 h3
theorem encBytes_pos (s : ByteArray) : encBytes s ≠ [] := by
  unfold encBytes encInt
  intro h
  have := congrArg List.length h
  have h2 := enc_length_pos (zig (s.size : Int))
  simp only [List.length_append, List.length_nil] at this
  omega
theorem parts_inj : ∀ (l m : List ByteArray), l.flatMap encBytes = m.flatMap encBytes → l = m
  | [], [], _ => rfl
  | [], t :: m, h => by
    simp only [List.flatMap_nil, List.flatMap_cons] at h
    exact absurd (List.append_eq_nil_iff.1 h.symm).1 (encBytes_pos t)
  | s :: l, [], h => by
    simp only [List.flatMap_nil, List.flatMap_cons] at h
    exact absurd (List.append_eq_nil_iff.1 h).1 (encBytes_pos s)
  | s :: l, t :: m, h => by
    simp only [List.flatMap_cons] at h
    obtain ⟨rfl, h2⟩ := encBytes_cancel _ _ _ _ h
    rw [parts_inj l m h2]
theorem ofInput_inj (t u : UInt8) (l m : List ByteArray) (h : ofInput (t.toNat : Int) l = ofInput (u.toNat : Int) m) : t = u ∧ l = m := by
  unfold ofInput at h
  simp only [List.cons.injEq] at h
  refine ⟨?_, parts_inj l m h.2⟩
  have h1 := congrArg UInt8.toNat h.1
  have ht := t.toNat_lt
  have hu := u.toNat_lt
  simp only [UInt8.toNat_ofNat'] at h1
  exact UInt8.toNat_inj.1 (by omega)
end Go.Proofs.YtafehbnnoncieaaDoor
