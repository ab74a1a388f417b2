/-
  Plain laws of the encoding: decoding what was encoded; what is decoded was encoded; what is cut is noticed. Conditions: none.
-/
import Derived.Test.YtjdoellkoofnmaaWireJ
namespace Go.Proofs.Ytjdoellkoofnmaa
open Go.RowKit
theorem pow_64 {k : Nat} (hk : k ≤ 9) : 128 ^ k ≤ 9223372036854775808 := by
  have : 128 ^ k ≤ 128 ^ 9 := Nat.pow_le_pow_right (by omega) hk
  omega
theorem toNat_small {z : Nat} (h : z < 256) : (UInt8.ofNat z).toNat = z := by rw [UInt8.toNat_ofNat', Nat.mod_eq_of_lt h]
theorem big_step {z k : Nat} (hz : ¬ z < 128) (h : z * 128 ^ k < 18446744073709551616) (hk : k ≤ 9) : k ≤ 8 ∧ z / 128 * 128 ^ (k + 1) + z % 128 * 128 ^ k = z * 128 ^ k := by
  refine ⟨?_, ?_⟩
  · rcases Nat.lt_or_eq_of_le hk with h9 | h9
    · omega
    · subst h9
      have : 128 * 128 ^ 9 ≤ z * 128 ^ 9 := Nat.mul_le_mul_right _ (by omega)
      omega
  · rw [Nat.pow_succ, ← Nat.mul_assoc, Nat.mul_right_comm, ← Nat.add_mul, Nat.mul_comm (z / 128) 128, Nat.div_add_mod]
theorem dec_enc (t : List UInt8) : ∀ (z k acc : Nat), (k = 0 ∨ 0 < z) → z * 128 ^ k < 18446744073709551616 → k ≤ 9 → dec (enc z ++ t) k acc = (acc + z * 128 ^ k, k + (enc z).length, 0) := by
  intro z
  induction z using Nat.strongRecOn with
  | _ z ih =>
    intro k acc hz h hk
    by_cases hs : z < 128
    · rw [enc_small hs, List.singleton_append, dec, toNat_small (by omega), if_neg, if_pos hs]
      · rfl
      · rintro (⟨h1, h2⟩ | ⟨h1, h2⟩)
        · subst h1
          have : 2 * 128 ^ 9 ≤ z * 128 ^ 9 := Nat.mul_le_mul_right _ h2
          omega
        · omega
    · obtain ⟨h8, hst⟩ := big_step hs h hk
      have hlt : z / 128 * 128 ^ (k + 1) < 18446744073709551616 := by omega
      rw [enc_big hs, List.cons_append, dec, toNat_small (by omega), if_neg (by omega), if_neg (by omega), show (z % 128 + 128) % 128 = z % 128 from by omega, ih (z / 128) (by omega) (k + 1) _ (.inr (by omega)) hlt (by omega)]
      simp only [List.length_cons, Prod.mk.injEq, and_true]
      omega
theorem dec_trunc : ∀ (z k acc i : Nat), (k = 0 ∨ 0 < z) → z * 128 ^ k < 18446744073709551616 → k ≤ 9 → i < (enc z).length → dec ((enc z).take i) k acc = (0, 0, 10) := by
  intro z
  induction z using Nat.strongRecOn with
  | _ z ih =>
    intro k acc i hz h hk hi
    by_cases hs : z < 128
    · rw [enc_small hs] at hi ⊢
      obtain rfl : i = 0 := by simpa using hi
      rfl
    · obtain ⟨h8, hst⟩ := big_step hs h hk
      have hlt : z / 128 * 128 ^ (k + 1) < 18446744073709551616 := by omega
      rw [enc_big hs] at hi ⊢
      cases i with
      | zero => rfl
      | succ i =>
        rw [List.take_succ_cons, dec, toNat_small (by omega), if_neg (by omega), if_neg (by omega)]
        exact ih (z / 128) (by omega) (k + 1) _ i (.inr (by omega)) hlt (by omega) (by simpa using hi)
theorem dec_canon : ∀ (l : List UInt8) (k acc n u : Nat), dec l k acc = (n, u, 0) → ∃ z, (k = 0 ∨ 0 < z) ∧ n = acc + z * 128 ^ k ∧ k + (enc z).length = u ∧ l.take (u - k) = enc z := by
  intro l
  induction l with
  | nil => intro k acc n u h; simp [dec] at h
  | cons c r ih =>
    intro k acc n u h
    have hc := c.toNat_lt
    rw [dec] at h
    by_cases h1 : (k = 9 ∧ 1 < c.toNat) ∨ (0 < k ∧ c.toNat = 0)
    · rw [if_pos h1] at h; simp at h
    · rw [if_neg h1] at h
      by_cases h2 : c.toNat < 128
      · rw [if_pos h2] at h
        simp only [Prod.mk.injEq, and_true] at h
        obtain ⟨rfl, rfl⟩ := h
        refine ⟨c.toNat, by omega, rfl, ?_, ?_⟩
        · rw [enc_small h2]; rfl
        · rw [enc_small h2, show k + 1 - k = 1 from by omega]; simp
      · rw [if_neg h2] at h
        obtain ⟨z, hz, hn, hu, ht⟩ := ih _ _ _ _ h
        have hz0 : 0 < z := by omega
        have hbig : ¬ z * 128 + c.toNat % 128 < 128 := by omega
        refine ⟨z * 128 + c.toNat % 128, by omega, ?_, ?_, ?_⟩
        · rw [hn, Nat.pow_succ, Nat.add_mul, Nat.add_assoc, Nat.mul_comm (128 ^ k) 128, ← Nat.mul_assoc, Nat.add_comm (c.toNat % 128 * 128 ^ k)]
        · rw [enc_big hbig, List.length_cons, show (z * 128 + c.toNat % 128) / 128 = z from by omega]; omega
        · rw [enc_big hbig, show (z * 128 + c.toNat % 128) / 128 = z from by omega, show u - k = (u - (k + 1)) + 1 from by omega, List.take_succ_cons, ht, show (z * 128 + c.toNat % 128) % 128 + 128 = c.toNat from by omega]
          simp
theorem unzig_zig (n : Int) : unzig (zig n) = n := by
  unfold unzig zig; split <;> split <;> omega
theorem zig_unzig (z : Nat) : zig (unzig z) = z := by
  unfold unzig zig; split <;> split <;> omega
theorem getInt_enc {n : Int} (hn : I64 n) (t : List UInt8) : getInt (encInt n ++ t) = (n, ((encInt n).length : Int), 0) := by
  have h := dec_enc t (zig n) 0 0 (.inl rfl) (by simpa using zig_lt n hn.1 hn.2) (by omega)
  unfold getInt encInt
  rw [h]
  simp [unzig_zig]
theorem getInt_trunc {n : Int} (hn : I64 n) {i : Nat} (hi : i < (encInt n).length) : getInt ((encInt n).take i) = (0, 0, 10) := by
  have h := dec_trunc (zig n) 0 0 i (.inl rfl) (by simpa using zig_lt n hn.1 hn.2) (by omega) hi
  unfold getInt encInt
  rw [h]
  simp
theorem getInt_canon {l : List UInt8} {n : Int} {u : Nat} (h : getInt l = (n, (u : Int), 0)) : l.take u = encInt n ∧ (encInt n).length = u := by
  unfold getInt at h
  by_cases h0 : (dec l 0 0).2.2 = 0
  · rw [if_pos h0] at h
    obtain ⟨z, _, hz, hu, ht⟩ := dec_canon l 0 0 (dec l 0 0).1 (dec l 0 0).2.1 (by rw [← h0])
    simp only [Prod.mk.injEq, and_true] at h
    obtain ⟨h1, h2⟩ := h
    have hu2 : (dec l 0 0).2.1 = u := by omega
    rw [hu2] at hu ht
    have hz2 : (dec l 0 0).1 = z := by simpa using hz
    rw [hz2] at h1
    unfold encInt
    rw [← h1, zig_unzig]
    exact ⟨by simpa using ht, by omega⟩
  · rw [if_neg h0] at h
    simp only [Prod.mk.injEq] at h
    exact absurd h.2.2 h0
theorem encInt_len {n : Int} (hn : I64 n) : 1 ≤ (encInt n).length ∧ (encInt n).length ≤ 10 := ⟨enc_length_pos _, enc_length_10 _ (zig_lt n hn.1 hn.2)⟩
theorem i64_nat {k : Nat} (h : k ≤ 9223372036854775807) : I64 (k : Int) := ⟨by omega, by omega⟩

/-! ### Lengths and prefixes -/
theorem enc_mono : ∀ (a b : Nat), a ≤ b → (enc a).length ≤ (enc b).length := by
  intro a
  induction a using Nat.strongRecOn with
  | _ a ih =>
    intro b h
    by_cases ha : a < 128
    · rw [enc_small ha]; exact enc_length_pos b
    · rw [enc_big ha, enc_big (show ¬ b < 128 by omega), List.length_cons, List.length_cons]
      have := ih (a / 128) (by omega) (b / 128) (by omega)
      omega
theorem enc_half : ∀ (a b : Nat), a / 2 = b / 2 → (enc a).length = (enc b).length := by
  intro a
  induction a using Nat.strongRecOn with
  | _ a ih =>
    intro b h
    by_cases ha : a < 128
    · rw [enc_small ha, enc_small (show b < 128 by omega)]; rfl
    · rw [enc_big ha, enc_big (show ¬ b < 128 by omega), List.length_cons, List.length_cons, show b / 128 = a / 128 from by omega]
def far (n : Int) : Int := max n (-1 - n)
theorem zig_half (n : Int) : ((zig n / 2 : Nat) : Int) = far n := by
  unfold zig far; split <;> omega
theorem len_le {m n : Int} (h : far m ≤ far n) : (encInt m).length ≤ (encInt n).length := by
  unfold encInt
  rw [enc_half (zig m) (2 * (zig m / 2)) (by omega), enc_half (zig n) (2 * (zig n / 2)) (by omega)]
  refine enc_mono _ _ ?_
  have h1 := zig_half m
  have h2 := zig_half n
  omega
theorem len_one (n : Int) : (encInt n).length = 1 ↔ far n < 64 := by
  have h1 := zig_half n
  unfold encInt
  by_cases h : zig n < 128
  · rw [enc_small h]; simp; omega
  · rw [enc_big h]
    have := enc_length_pos (zig n / 128)
    simp only [List.length_cons]
    omega
theorem len_flip (n : Int) : (encInt (-1 - n)).length = (encInt n).length := by
  have h : far (-1 - n) = far n := by unfold far; omega
  have h1 := len_le (m := -1 - n) (n := n) (by omega)
  have h2 := len_le (m := n) (n := -1 - n) (by omega)
  omega
theorem prefix_same {m n : Int} (hm : I64 m) (hn : I64 n) {k : Nat} (hk : k = min (encInt m).length (encInt n).length) (h : (encInt m).take k = (encInt n).take k) : m = n := by
  rcases Nat.le_total (encInt m).length (encInt n).length with hle | hle
  · rw [hk, Nat.min_eq_left hle, List.take_length] at h
    have h1 := getInt_enc hn []
    rw [← List.take_append_drop (encInt m).length (encInt n), ← h, List.append_assoc, getInt_enc hm] at h1
    simp only [Prod.mk.injEq] at h1
    exact h1.1
  · rw [hk, Nat.min_eq_right hle, List.take_length] at h
    have h1 := getInt_enc hm []
    rw [← List.take_append_drop (encInt n).length (encInt m), h, List.append_assoc, getInt_enc hn] at h1
    simp only [Prod.mk.injEq] at h1
    exact h1.1.symm
end Go.Proofs.Ytjdoellkoofnmaa
