/-
  The encoding of integers, byte strings and lists, in plain terms: what is decoded was encoded, and the other way round. Conditions: none.
-/
import Derived.Test.YtakbadleipbngaaGP
set_option linter.all false
namespace Go.Proofs.Ytakbadleipbngaa
open Go.RowKit
def enc (z : Nat) : List UInt8 :=
  if z < 128 then [UInt8.ofNat z] else UInt8.ofNat (z % 128 + 128) :: enc (z / 128)
termination_by z
decreasing_by omega
theorem enc_small {z : Nat} (h : z < 128) : enc z = [UInt8.ofNat z] := by rw [enc, if_pos h]
theorem enc_big {z : Nat} (h : ¬ z < 128) : enc z = UInt8.ofNat (z % 128 + 128) :: enc (z / 128) := by rw [enc, if_neg h]
def zig (n : Int) : Nat := if n < 0 then ((-1 - n) * 2 + 1).toNat else (n * 2).toNat
def encInt (n : Int) : List UInt8 := enc (zig n)
theorem zig_lt (n : Int) (h1 : -9223372036854775808 ≤ n) (h2 : n ≤ 9223372036854775807) : zig n < 18446744073709551616 := by
  unfold zig; split <;> omega
theorem enc_length_pos (z : Nat) : 0 < (enc z).length := by
  by_cases h : z < 128
  · rw [enc_small h]; simp
  · rw [enc_big h]; simp
theorem enc_length_le (k : Nat) : ∀ z : Nat, z < 128 ^ k → (enc z).length ≤ max k 1 := by
  induction k with
  | zero => intro z h; have : z = 0 := by simpa using h
            subst this; rw [enc_small (by omega)]; simp
  | succ k ih =>
    intro z h
    by_cases hz : z < 128
    · rw [enc_small hz]; simp only [List.length_cons, List.length_nil]; omega
    · rw [enc_big hz]
      have := ih (z / 128) (by rw [Nat.pow_succ] at h; exact Nat.div_lt_of_lt_mul (by omega))
      by_cases hk : k = 0
      · subst hk; simp at h; omega
      · simp only [List.length_cons]; omega
theorem enc_length_10 (z : Nat) (h : z < 18446744073709551616) : (enc z).length ≤ 10 := by
  have := enc_length_le 10 z (by omega)
  omega
def I64 (n : Int) : Prop := -9223372036854775808 ≤ n ∧ n ≤ 9223372036854775807
theorem xor_all (a : Nat) (h : a < 18446744073709551616) : a ^^^ 18446744073709551615 = 18446744073709551615 - a := by
  have e : (BitVec.ofNat 64 a ^^^ BitVec.allOnes 64).toNat = (~~~ (BitVec.ofNat 64 a)).toNat := by rw [BitVec.xor_allOnes]
  rw [BitVec.toNat_xor, BitVec.toNat_not, BitVec.toNat_allOnes, BitVec.toNat_ofNat, Nat.mod_eq_of_lt (by omega)] at e
  simpa using e
theorem xor_zig (n : Int) (h1 : -9223372036854775808 ≤ n) (h2 : n ≤ 9223372036854775807) :
    bits BinOp.xor IntKind.u64 (IntKind.u64.wrap (IntKind.u64.wrap n * 2)) (IntKind.u64.wrap (n / 9223372036854775808)) = (zig n : Int) := by
  by_cases hn : n < 0
  · obtain ⟨a, ha⟩ : ∃ a : Nat, IntKind.u64.wrap (IntKind.u64.wrap n * 2) = (a : Int) ∧ a < 18446744073709551616 ∧ 18446744073709551615 - a = zig n := by
      refine ⟨((n + 9223372036854775808) * 2).toNat, ?_, by omega, ?_⟩
      · rw [IntKind.wrap_u64, IntKind.wrap_u64]; omega
      · unfold zig; rw [if_pos hn]; omega
    have hb : IntKind.u64.wrap (n / 9223372036854775808) = ((18446744073709551615 : Nat) : Int) := by rw [IntKind.wrap_u64]; omega
    rw [ha.1, hb, u64_xor_nat a _ ha.2.1 (by omega), xor_all a ha.2.1, ha.2.2]
  · obtain ⟨a, ha⟩ : ∃ a : Nat, IntKind.u64.wrap (IntKind.u64.wrap n * 2) = (a : Int) ∧ a < 18446744073709551616 ∧ a = zig n := by
      refine ⟨(n * 2).toNat, ?_, by omega, ?_⟩
      · rw [IntKind.wrap_u64, IntKind.wrap_u64]; omega
      · unfold zig; rw [if_neg hn]
    have hb : IntKind.u64.wrap (n / 9223372036854775808) = ((0 : Nat) : Int) := by rw [IntKind.wrap_u64]; omega
    rw [ha.1, hb, u64_xor_nat a _ ha.2.1 (by omega), Nat.xor_zero, ha.2.2]
theorem or128 (z : Nat) : bits BinOp.or IntKind.u8 ((z : Int) % 256) 128 = ((z % 128 + 128 : Nat) : Int) := by
  rw [show ((z : Int) % 256) = ((z % 256 : Nat) : Int) from by omega, show (128 : Int) = ((128 : Nat) : Int) from rfl, u8_or_nat _ _ (by omega) (by omega)]
  congr 1
  have h : z % 256 = z % 128 ∨ z % 256 = z % 128 + 128 := by omega
  have hlt : z % 128 < 2 ^ 7 := by omega
  rcases h with h | h
  · rw [h, Nat.or_comm, nat_join 7 128 (z % 128) (by decide) hlt]; omega
  · rw [h, Nat.add_comm (z % 128) 128, ← nat_join 7 128 (z % 128) (by decide) hlt, Nat.or_assoc, Nat.or_comm (z % 128) 128, ← Nat.or_assoc, Nat.or_self]
def encBytes (s : ByteArray) : List UInt8 := encInt s.size ++ s.data.toList
def encInts (l : List Int) : List UInt8 := encInt l.length ++ l.flatMap encInt
def encStrings (l : List ByteArray) : List UInt8 := encInt l.length ++ l.flatMap encBytes
theorem encBytes_len (s : ByteArray) : (encBytes s).length = (encInt s.size).length + s.size := by simp [encBytes]
def dec : List UInt8 → Nat → Nat → Nat × Nat × Int
  | [], _, _ => (0, 0, 10)
  | c :: r, k, z => if (k = 9 ∧ 1 < c.toNat) ∨ (0 < k ∧ c.toNat = 0) then (0, 0, 11) else
      if c.toNat < 128 then (z + c.toNat * 128 ^ k, k + 1, 0) else dec r (k + 1) (z + (c.toNat % 128) * 128 ^ k)
def unzig (z : Nat) : Int := if z % 2 = 1 then -1 - (z / 2 : Nat) else (z / 2 : Nat)
def getInt (l : List UInt8) : Int × Int × Int :=
  if (dec l 0 0).2.2 = 0 then (unzig (dec l 0 0).1, ((dec l 0 0).2.1 : Int), 0) else (0, 0, (dec l 0 0).2.2)
theorem ofInt_i64 (a : Nat) (ha : a < 9223372036854775808) : (BitVec.ofInt 64 (a : Int)).toNat = a := by
  rw [BitVec.ofInt_natCast, BitVec.toNat_ofNat]; exact Nat.mod_eq_of_lt (by omega)
theorem i64_xor_zero (a : Nat) (ha : a < 9223372036854775808) : bits .xor .i64 (a : Int) 0 = a := by
  show IntKind.i64.wrap ((BitVec.ofInt 64 (a : Int) ^^^ BitVec.ofInt 64 0).toNat : Int) = _
  rw [BitVec.toNat_xor, ofInt_i64 a ha, show (BitVec.ofInt 64 0).toNat = 0 from by decide, Nat.xor_zero, IntKind.wrap_i64]
  omega
theorem i64_xor_ones (a : Nat) (ha : a < 9223372036854775808) : bits .xor .i64 (a : Int) (-1) = -1 - (a : Int) := by
  show IntKind.i64.wrap ((BitVec.ofInt 64 (a : Int) ^^^ BitVec.ofInt 64 (-1)).toNat : Int) = _
  rw [BitVec.toNat_xor, ofInt_i64 a ha, show (BitVec.ofInt 64 (-1)).toNat = 18446744073709551615 from by decide, xor_all a (by omega), IntKind.wrap_i64]
  omega
theorem unzig_bits (Z : Nat) (hZ : Z < 18446744073709551616) :
    bits BinOp.xor IntKind.i64 (wrap64 ((Z : Int) / 2)) (wrap64 (-wrap64 (bits BinOp.and IntKind.u64 (Z : Int) 1))) = unzig Z := by
  rw [show (1 : Int) = ((1 : Nat) : Int) from rfl, u64_and_nat Z 1 hZ (by omega), nat_mask1, show wrap64 ((Z : Int) / 2) = ((Z / 2 : Nat) : Int) from by unfold wrap64; omega]
  unfold unzig
  rcases Nat.mod_two_eq_zero_or_one Z with h | h
  · rw [h, if_neg (by omega), show wrap64 (-wrap64 ((0 : Nat) : Int)) = 0 from by simp [wrap64]]
    exact i64_xor_zero _ (by omega)
  · rw [h, if_pos rfl, show wrap64 (-wrap64 ((1 : Nat) : Int)) = -1 from by simp [wrap64]]
    exact i64_xor_ones _ (by omega)
theorem and127 (b : Nat) (hb : b < 256) : IntKind.u64.wrap (bits BinOp.and IntKind.u8 (b : Int) 127) = ((b % 128 : Nat) : Int) := by
  rw [show (127 : Int) = ((127 : Nat) : Int) from rfl, u8_and_nat b 127 hb (by omega), nat_mask7, IntKind.wrap_u64]
  omega
theorem acc_bits (z b k : Nat) (hz : z < 128 ^ k) (hb : b < 256) (hk : k < 9) :
    bits BinOp.or IntKind.u64 (z : Int) (IntKind.u64.wrap (IntKind.u64.wrap (bits BinOp.and IntKind.u8 (b : Int) 127) * 2 ^ (7 * k))) = ((z + b % 128 * 128 ^ k : Nat) : Int) := by
  have h1 : 128 ^ (k + 1) ≤ 128 ^ 9 := Nat.pow_le_pow_right (by omega) hk
  have h2 : b % 128 * 128 ^ k < 128 ^ (k + 1) := by rw [Nat.pow_succ, Nat.mul_comm]; exact Nat.mul_lt_mul_of_pos_left (by omega) (Nat.pow_pos (by omega))
  have h3 : 128 ^ k ≤ 128 ^ 9 := Nat.pow_le_pow_right (by omega) (by omega)
  have e : (2 : Int) ^ (7 * k) = ((128 ^ k : Nat) : Int) := by rw [Int.pow_mul]; simp
  rw [and127 b hb, e, ← Int.natCast_mul, IntKind.wrap_u64, show (((b % 128 * 128 ^ k : Nat) : Int) % 18446744073709551616) = ((b % 128 * 128 ^ k : Nat) : Int) from by omega, u64_or_nat _ _ (by omega) (by omega)]
  congr 1
  rw [Nat.or_comm, nat_join (7 * k) (b % 128 * 128 ^ k) z (by rw [show 128 = 2 ^ 7 from rfl, ← Nat.pow_mul]; exact Nat.mul_mod_left _ _) (by rw [Nat.pow_mul]; exact hz)]
  omega
theorem acc_bits9 (z b : Nat) (hz : z < 128 ^ 9) (hb : b ≤ 1) :
    bits BinOp.or IntKind.u64 (z : Int) (IntKind.u64.wrap (IntKind.u64.wrap (bits BinOp.and IntKind.u8 (b : Int) 127) * 9223372036854775808)) = ((z + b * 128 ^ 9 : Nat) : Int) := by
  have e : ((b % 128 : Nat) : Int) * 9223372036854775808 = ((b * 2 ^ 63 : Nat) : Int) := by omega
  rw [and127 b (by omega), e, IntKind.wrap_u64, show (((b * 2 ^ 63 : Nat) : Int) % 18446744073709551616) = ((b * 2 ^ 63 : Nat) : Int) from by omega, u64_or_nat _ _ (by omega) (by omega)]
  congr 1
  rw [Nat.or_comm, nat_join 63 (b * 2 ^ 63) z (Nat.mul_mod_left _ _) (by omega)]
  omega
theorem acc_lt (z b k : Nat) (hz : z < 128 ^ k) : z + b % 128 * 128 ^ k < 128 ^ (k + 1) := by
  have : (b % 128 + 1) * 128 ^ k ≤ 128 * 128 ^ k := Nat.mul_le_mul_right _ (by omega)
  rw [Nat.pow_succ, Nat.mul_comm (128 ^ k)]
  rw [Nat.add_mul] at this
  omega
theorem dec_cases : ∀ (l : List UInt8) (k z : Nat), z < 128 ^ k → k ≤ 9 → (∃ n u, dec l k z = (n, u, 0) ∧ k < u ∧ u ≤ k + l.length ∧ n < 18446744073709551616) ∨ dec l k z = (0, 0, 10) ∨ dec l k z = (0, 0, 11) := by
  intro l
  induction l with
  | nil => intro k z _ _; exact .inr (.inl rfl)
  | cons c r ih =>
    intro k z hz hk
    rw [dec]
    by_cases h1 : (k = 9 ∧ 1 < c.toNat) ∨ (0 < k ∧ c.toNat = 0)
    · rw [if_pos h1]; exact .inr (.inr rfl)
    · rw [if_neg h1]
      have hl := acc_lt z c.toNat k hz
      by_cases h2 : c.toNat < 128
      · rw [if_pos h2]
        refine .inl ⟨_, _, rfl, by omega, by simp, ?_⟩
        rw [Nat.mod_eq_of_lt h2] at hl
        by_cases h9 : k = 9
        · subst h9
          have : c.toNat ≤ 1 := by omega
          have : c.toNat * 128 ^ 9 ≤ 1 * 128 ^ 9 := Nat.mul_le_mul_right _ this
          omega
        · have : 128 ^ (k + 1) ≤ 128 ^ 9 := Nat.pow_le_pow_right (by omega) (by omega)
          omega
      · rw [if_neg h2]
        rcases ih (k + 1) _ hl (by have := c.toNat_lt; omega) with ⟨n, u, h, h3, h4, h5⟩ | h | h
        · exact .inl ⟨n, u, h, by omega, by simp; omega, h5⟩
        · exact .inr (.inl h)
        · exact .inr (.inr h)
theorem getInt_cases (l : List UInt8) : (∃ (n : Int) (u : Nat), getInt l = (n, (u : Int), 0) ∧ 1 ≤ u ∧ u ≤ l.length ∧ I64 n) ∨ getInt l = (0, 0, 10) ∨ getInt l = (0, 0, 11) := by
  unfold getInt
  rcases dec_cases l 0 0 (by simp) (by omega) with ⟨n, u, h, h1, h2, h3⟩ | h | h
  · rw [h]
    exact .inl ⟨unzig n, u, by simp, by omega, by omega, by unfold unzig I64; split <;> omega⟩
  · rw [h]; exact .inr (.inl (by simp))
  · rw [h]; exact .inr (.inr (by simp))
def getLen (l : List UInt8) (least : Int) : Int × Int × Int :=
  let r := getInt l
  if r.2.2 ≠ 0 then (0, 0, r.2.2) else if r.1 < 0 then (0, 0, 11) else if r.1 > ((l.length : Int) - r.2.1) / least then (0, 0, 10) else (r.1, r.2.1, 0)
def getBytes (l : List UInt8) : List UInt8 × Int × Int :=
  let r := getLen l 1
  if r.2.2 ≠ 0 then ([], 0, r.2.2) else ((l.drop r.2.1.toNat).take r.1.toNat, r.2.1 + r.1, 0)
theorem getLen_cases (l : List UInt8) (least : Int) :
    (∃ (n u : Nat), getLen l least = ((n : Int), (u : Int), 0) ∧ 1 ≤ u ∧ u ≤ l.length ∧ (n : Int) ≤ ((l.length : Int) - u) / least) ∨ getLen l least = (0, 0, 10) ∨ getLen l least = (0, 0, 11) := by
  unfold getLen
  rcases getInt_cases l with ⟨n, u, hg, hu1, hu2, hn1, hn2⟩ | hg | hg
  · rw [hg]
    simp only [ne_eq, not_true, if_false]
    by_cases hneg : n < 0
    · rw [if_pos hneg]; exact .inr (.inr rfl)
    · rw [if_neg hneg]
      by_cases hgt : n > ((l.length : Int) - u) / least
      · rw [if_pos hgt]; exact .inr (.inl rfl)
      · rw [if_neg hgt]
        refine .inl ⟨n.toNat, u, ?_, hu1, hu2, ?_⟩
        · rw [Int.toNat_of_nonneg (by omega)]
        · rw [Int.toNat_of_nonneg (by omega)]; omega
  · rw [hg]; exact .inr (.inl rfl)
  · rw [hg]; exact .inr (.inr rfl)
def getGo {α : Type} (one : List UInt8 → α × Int × Int) (l : List UInt8) : Nat → Nat → List α → List α × Int × Int
  | 0, at_, acc => (acc, (at_ : Int), 0)
  | n + 1, at_, acc => if (one (l.drop at_)).2.2 ≠ 0 then ([], 0, (one (l.drop at_)).2.2) else getGo one l n (at_ + (one (l.drop at_)).2.1.toNat) (acc ++ [(one (l.drop at_)).1])
def getList {α : Type} (one : List UInt8 → α × Int × Int) (least : Int) (l : List UInt8) : List α × Int × Int :=
  if (getLen l least).2.2 ≠ 0 then ([], 0, (getLen l least).2.2) else getGo one l (getLen l least).1.toNat (getLen l least).2.1.toNat []
theorem getGo_err {α : Type} {one : List UInt8 → α × Int × Int} {l : List UInt8} {n a : Nat} {acc : List α} {x : α} {u e : Int} (h : one (l.drop a) = (x, u, e)) (he : e ≠ 0) : getGo one l (n + 1) a acc = ([], 0, e) := by
  rw [getGo, h, if_pos he]
theorem getGo_ok {α : Type} {one : List UInt8 → α × Int × Int} {l : List UInt8} {n a u : Nat} {acc : List α} {x : α} (h : one (l.drop a) = (x, (u : Int), 0)) : getGo one l (n + 1) a acc = getGo one l n (a + u) (acc ++ [x]) := by
  rw [getGo, h]; simp
theorem getBytes_cases (l : List UInt8) : (∃ (x : List UInt8) (u : Nat), getBytes l = (x, (u : Int), 0) ∧ 1 ≤ u ∧ u ≤ l.length) ∨ getBytes l = ([], 0, 10) ∨ getBytes l = ([], 0, 11) := by
  unfold getBytes
  rcases getLen_cases l 1 with ⟨n, u, hg, hu1, hu2, hn⟩ | hg | hg
  · rw [hg]
    rw [Int.ediv_one] at hn
    exact .inl ⟨(l.drop u).take n, u + n, by simp, by omega, by omega⟩
  · rw [hg]; exact .inr (.inl rfl)
  · rw [hg]; exact .inr (.inr rfl)
theorem pow_64 {k : Nat} (hk : k ≤ 9) : 128 ^ k ≤ 9223372036854775808 := by
  have : 128 ^ k ≤ 128 ^ 9 := Nat.pow_le_pow_right (by omega) hk
  omega
theorem toNat_small {z : Nat} (h : z < 256) : (UInt8.ofNat z).toNat = z := by rw [UInt8.toNat_ofNat', Nat.mod_eq_of_lt h]
theorem big_step {z k : Nat} (hz : ¬ z < 128) (h : z * 128 ^ k < 18446744073709551616) (hk : k ≤ 9) : k ≤ 8 ∧ z / 128 * 128 ^ (k + 1) + z % 128 * 128 ^ k = z * 128 ^ k := by
  refine ⟨?_, ?_⟩
  · rcases Nat.lt_or_eq_of_le hk with h9 | h9
    · omega
    · subst h9
      have : 128 * 128 ^ 9 ≤ z * 128 ^ 9 := Nat.mul_le_mul_right _ (by omega)
      omega
  · rw [Nat.pow_succ, ← Nat.mul_assoc, Nat.mul_right_comm, ← Nat.add_mul, Nat.mul_comm (z / 128) 128, Nat.div_add_mod]
theorem dec_enc (t : List UInt8) : ∀ (z k acc : Nat), (k = 0 ∨ 0 < z) → z * 128 ^ k < 18446744073709551616 → k ≤ 9 → dec (enc z ++ t) k acc = (acc + z * 128 ^ k, k + (enc z).length, 0) := by
  intro z
  induction z using Nat.strongRecOn with
  | _ z ih =>
    intro k acc hz h hk
    by_cases hs : z < 128
    · rw [enc_small hs, List.singleton_append, dec, toNat_small (by omega), if_neg, if_pos hs]
      · rfl
      · rintro (⟨h1, h2⟩ | ⟨h1, h2⟩)
        · subst h1
          have : 2 * 128 ^ 9 ≤ z * 128 ^ 9 := Nat.mul_le_mul_right _ h2
          omega
        · omega
    · obtain ⟨h8, hst⟩ := big_step hs h hk
      have hlt : z / 128 * 128 ^ (k + 1) < 18446744073709551616 := by omega
      rw [enc_big hs, List.cons_append, dec, toNat_small (by omega), if_neg (by omega), if_neg (by omega), show (z % 128 + 128) % 128 = z % 128 from by omega, ih (z / 128) (by omega) (k + 1) _ (.inr (by omega)) hlt (by omega)]
      simp only [List.length_cons, Prod.mk.injEq, and_true]
      omega
theorem dec_trunc : ∀ (z k acc i : Nat), (k = 0 ∨ 0 < z) → z * 128 ^ k < 18446744073709551616 → k ≤ 9 → i < (enc z).length → dec ((enc z).take i) k acc = (0, 0, 10) := by
  intro z
  induction z using Nat.strongRecOn with
  | _ z ih =>
    intro k acc i hz h hk hi
    by_cases hs : z < 128
    · rw [enc_small hs] at hi ⊢
      obtain rfl : i = 0 := by simpa using hi
      rfl
    · obtain ⟨h8, hst⟩ := big_step hs h hk
      have hlt : z / 128 * 128 ^ (k + 1) < 18446744073709551616 := by omega
      rw [enc_big hs] at hi ⊢
      cases i with
      | zero => rfl
      | succ i =>
        rw [List.take_succ_cons, dec, toNat_small (by omega), if_neg (by omega), if_neg (by omega)]
        exact ih (z / 128) (by omega) (k + 1) _ i (.inr (by omega)) hlt (by omega) (by simpa using hi)
theorem dec_canon : ∀ (l : List UInt8) (k acc n u : Nat), dec l k acc = (n, u, 0) → ∃ z, (k = 0 ∨ 0 < z) ∧ n = acc + z * 128 ^ k ∧ k + (enc z).length = u ∧ l.take (u - k) = enc z := by
  intro l
  induction l with
  | nil => intro k acc n u h; simp [dec] at h
  | cons c r ih =>
    intro k acc n u h
    have hc := c.toNat_lt
    rw [dec] at h
    by_cases h1 : (k = 9 ∧ 1 < c.toNat) ∨ (0 < k ∧ c.toNat = 0)
    · rw [if_pos h1] at h; simp at h
    · rw [if_neg h1] at h
      by_cases h2 : c.toNat < 128
      · rw [if_pos h2] at h
        simp only [Prod.mk.injEq, and_true] at h
        obtain ⟨rfl, rfl⟩ := h
        refine ⟨c.toNat, by omega, rfl, ?_, ?_⟩
        · rw [enc_small h2]; rfl
        · rw [enc_small h2, show k + 1 - k = 1 from by omega]; simp
      · rw [if_neg h2] at h
        obtain ⟨z, hz, hn, hu, ht⟩ := ih _ _ _ _ h
        have hz0 : 0 < z := by omega
        have hbig : ¬ z * 128 + c.toNat % 128 < 128 := by omega
        refine ⟨z * 128 + c.toNat % 128, by omega, ?_, ?_, ?_⟩
        · rw [hn, Nat.pow_succ, Nat.add_mul, Nat.add_assoc, Nat.mul_comm (128 ^ k) 128, ← Nat.mul_assoc, Nat.add_comm (c.toNat % 128 * 128 ^ k)]
        · rw [enc_big hbig, List.length_cons, show (z * 128 + c.toNat % 128) / 128 = z from by omega]; omega
        · rw [enc_big hbig, show (z * 128 + c.toNat % 128) / 128 = z from by omega, show u - k = (u - (k + 1)) + 1 from by omega, List.take_succ_cons, ht, show (z * 128 + c.toNat % 128) % 128 + 128 = c.toNat from by omega]
          simp
theorem unzig_zig (n : Int) : unzig (zig n) = n := by
  unfold unzig zig; split <;> split <;> omega
theorem zig_unzig (z : Nat) : zig (unzig z) = z := by
  unfold unzig zig; split <;> split <;> omega
theorem getInt_enc {n : Int} (hn : I64 n) (t : List UInt8) : getInt (encInt n ++ t) = (n, ((encInt n).length : Int), 0) := by
  have h := dec_enc t (zig n) 0 0 (.inl rfl) (by simpa using zig_lt n hn.1 hn.2) (by omega)
  unfold getInt encInt
  rw [h]
  simp [unzig_zig]
theorem getInt_trunc {n : Int} (hn : I64 n) {i : Nat} (hi : i < (encInt n).length) : getInt ((encInt n).take i) = (0, 0, 10) := by
  have h := dec_trunc (zig n) 0 0 i (.inl rfl) (by simpa using zig_lt n hn.1 hn.2) (by omega) hi
  unfold getInt encInt
  rw [h]
  simp
theorem getInt_canon {l : List UInt8} {n : Int} {u : Nat} (h : getInt l = (n, (u : Int), 0)) : l.take u = encInt n ∧ (encInt n).length = u := by
  unfold getInt at h
  by_cases h0 : (dec l 0 0).2.2 = 0
  · rw [if_pos h0] at h
    obtain ⟨z, _, hz, hu, ht⟩ := dec_canon l 0 0 (dec l 0 0).1 (dec l 0 0).2.1 (by rw [← h0])
    simp only [Prod.mk.injEq, and_true] at h
    obtain ⟨h1, h2⟩ := h
    have hu2 : (dec l 0 0).2.1 = u := by omega
    rw [hu2] at hu ht
    have hz2 : (dec l 0 0).1 = z := by simpa using hz
    rw [hz2] at h1
    unfold encInt
    rw [← h1, zig_unzig]
    exact ⟨by simpa using ht, by omega⟩
  · rw [if_neg h0] at h
    simp only [Prod.mk.injEq] at h
    exact absurd h.2.2 h0
theorem encInt_len {n : Int} (hn : I64 n) : 1 ≤ (encInt n).length ∧ (encInt n).length ≤ 10 := ⟨enc_length_pos _, enc_length_10 _ (zig_lt n hn.1 hn.2)⟩
theorem i64_nat {k : Nat} (h : k ≤ 9223372036854775807) : I64 (k : Int) := ⟨by omega, by omega⟩
def encB (x : List UInt8) : List UInt8 := encInt x.length ++ x
theorem encBytes_eq (s : ByteArray) : encBytes s = encB s.data.toList := by
  unfold encBytes encB; rw [Array.length_toList]; rfl
theorem getLen_enc {n : Nat} {lst : Int} (least : Nat) (hm : lst = (least : Int)) (hn : n ≤ 1152921504606846976) (hl : 1 ≤ least) {t : List UInt8} (ht : n * least ≤ t.length) : getLen (encInt n ++ t) lst = ((n : Int), ((encInt n).length : Int), 0) := by
  subst hm
  unfold getLen
  rw [getInt_enc (i64_nat (by omega))]
  simp only [ne_eq, not_true, if_false, List.length_append]
  rw [if_neg (by omega), if_neg]
  have h1 : (((encInt (n : Int)).length + t.length : Nat) : Int) - ((encInt (n : Int)).length : Int) = ((t.length : Nat) : Int) := by omega
  rw [h1, ← Int.natCast_ediv]
  have : n ≤ t.length / least := (Nat.le_div_iff_mul_le (by omega)).2 ht
  omega
theorem getLen_short {n : Nat} {lst : Int} (least : Nat) (hm : lst = (least : Int)) (hn : n ≤ 1152921504606846976) (hl : 1 ≤ least) {t : List UInt8} (ht : t.length < n * least) : getLen (encInt n ++ t) lst = (0, 0, 10) := by
  subst hm
  unfold getLen
  rw [getInt_enc (i64_nat (by omega))]
  simp only [ne_eq, not_true, if_false, List.length_append]
  rw [if_neg (by omega), if_pos]
  have h1 : (((encInt (n : Int)).length + t.length : Nat) : Int) - ((encInt (n : Int)).length : Int) = ((t.length : Nat) : Int) := by omega
  rw [h1, ← Int.natCast_ediv]
  have : t.length / least < n := (Nat.div_lt_iff_lt_mul (by omega)).2 ht
  omega
theorem getLen_trunc {n : Nat} {least : Int} (hn : n ≤ 1152921504606846976) {i : Nat} (hi : i < (encInt (n : Int)).length) : getLen ((encInt (n : Int)).take i) least = (0, 0, 10) := by
  unfold getLen
  rw [getInt_trunc (i64_nat (by omega)) hi]
  simp
theorem getLen_canon {l : List UInt8} {least : Int} {n u : Nat} (h : getLen l least = ((n : Int), (u : Int), 0)) : l.take u = encInt n ∧ (encInt (n : Int)).length = u := by
  unfold getLen at h
  rcases getInt_cases l with ⟨m, u', hg, _⟩ | hg | hg
  · rw [hg] at h
    simp only [ne_eq, not_true, if_false] at h
    split at h
    · simp at h
    · split at h
      · simp at h
      · simp only [Prod.mk.injEq, and_true] at h
        obtain ⟨rfl, h2⟩ := h
        obtain rfl : u' = u := by omega
        exact getInt_canon hg
  · rw [hg] at h; simp at h
  · rw [hg] at h; simp at h
theorem getBytes_enc {x : List UInt8} (hx : x.length ≤ 1152921504606846976) (t : List UInt8) : getBytes (encB x ++ t) = (x, ((encB x).length : Int), 0) := by
  unfold getBytes encB
  rw [List.append_assoc, getLen_enc (lst := 1) 1 rfl hx (by omega) (by simp)]
  simp
theorem getBytes_trunc {x : List UInt8} (hx : x.length ≤ 1152921504606846976) {i : Nat} (hi : i < (encB x).length) : (getBytes ((encB x).take i)).2.2 = 10 := by
  unfold getBytes encB at *
  rw [List.take_append]
  rcases Nat.lt_or_ge i (encInt (x.length : Int)).length with h | h
  · rw [Nat.sub_eq_zero_of_le (by omega), List.take_zero, List.append_nil, getLen_trunc hx h]
    simp
  · rw [List.take_of_length_le h, getLen_short (lst := 1) 1 rfl hx (by omega) (by simp at hi ⊢; omega)]
    simp
theorem getBytes_canon {l x : List UInt8} {u : Nat} (h : getBytes l = (x, (u : Int), 0)) : l.take u = encB x ∧ (encB x).length = u := by
  unfold getBytes at h
  rcases getLen_cases l 1 with ⟨n, u', hg, h1, h2, h3⟩ | hg | hg
  · have hc := getLen_canon hg
    rw [hg] at h
    rw [Int.ediv_one] at h3
    simp only [ne_eq, not_true, if_false, Int.toNat_natCast, Prod.mk.injEq, and_true] at h
    obtain ⟨rfl, h5⟩ := h
    have hlen : ((l.drop u').take n).length = n := by rw [List.length_take, List.length_drop]; omega
    unfold encB
    rw [hlen, List.length_append, hlen, hc.2]
    refine ⟨?_, by omega⟩
    rw [show u = u' + n from by omega, List.take_add, hc.1]
  · rw [hg] at h; simp at h
  · rw [hg] at h; simp at h
structure Codec {α : Type} (f : α → List UInt8) (one : List UInt8 → α × Int × Int) (good : α → Prop) : Prop where
  dec_ : ∀ x t, good x → one (f x ++ t) = (x, ((f x).length : Int), 0)
  canon : ∀ l x (u : Nat), one l = (x, (u : Int), 0) → l.take u = f x ∧ (f x).length = u
  trunc : ∀ x i, good x → i < (f x).length → (one ((f x).take i)).2.2 = 10
  ok : ∀ l, (∃ x, ∃ u : Nat, one l = (x, (u : Int), 0) ∧ u ≤ l.length) ∨ (one l).2.2 ≠ 0
theorem codecInt : Codec encInt getInt I64 where
  dec_ x t h := getInt_enc h t
  canon l x u h := getInt_canon h
  trunc x i h hi := by rw [getInt_trunc h hi]
  ok l := by
    rcases getInt_cases l with ⟨n, u, h, h1, h2, _⟩ | h | h
    · exact .inl ⟨n, u, h, h2⟩
    · rw [h]; exact .inr (by simp)
    · rw [h]; exact .inr (by simp)
def Short (x : List UInt8) : Prop := x.length ≤ 1152921504606846976
theorem codecBytes : Codec encB getBytes Short where
  dec_ x t h := getBytes_enc h t
  canon l x u h := getBytes_canon h
  trunc x i h hi := getBytes_trunc h hi
  ok l := by
    rcases getBytes_cases l with ⟨n, u, h, h1, h2⟩ | h | h
    · exact .inl ⟨n, u, h, h2⟩
    · rw [h]; exact .inr (by simp)
    · rw [h]; exact .inr (by simp)
section
variable {α : Type} {f : α → List UInt8} {one : List UInt8 → α × Int × Int} {good : α → Prop}
theorem getGo_enc (C : Codec f one good) (l : List UInt8) : ∀ (xs : List α) (a : Nat) (acc : List α) (t : List UInt8), (∀ x ∈ xs, good x) → l.drop a = xs.flatMap f ++ t → getGo one l xs.length a acc = (acc ++ xs, ((a + (xs.flatMap f).length : Nat) : Int), 0) := by
  intro xs
  induction xs with
  | nil => intro a acc t _ _; simp [getGo]
  | cons x xs ih =>
    intro a acc t hg h
    rw [List.flatMap_cons, List.append_assoc] at h
    have h1 := C.dec_ x (xs.flatMap f ++ t) (hg x (by simp))
    rw [← h] at h1
    have h2 : l.drop (a + (f x).length) = xs.flatMap f ++ t := by rw [← List.drop_drop, h, List.drop_left]
    rw [List.length_cons, getGo_ok h1, ih _ _ t (fun y hy => hg y (by simp [hy])) h2, List.append_assoc, List.flatMap_cons, List.length_append, Nat.add_assoc]
    rfl
theorem getGo_canon (C : Codec f one good) (l : List UInt8) : ∀ (n a : Nat) (acc r : List α) (u : Nat), a ≤ l.length → getGo one l n a acc = (r, (u : Int), 0) → ∃ xs, r = acc ++ xs ∧ xs.length = n ∧ u = a + (xs.flatMap f).length ∧ (l.drop a).take (xs.flatMap f).length = xs.flatMap f ∧ u ≤ l.length := by
  intro n
  induction n with
  | zero =>
    intro a acc r u ha h
    simp only [getGo, Prod.mk.injEq, and_true] at h
    exact ⟨[], by simp [h.1], rfl, by simp; omega, by simp, by omega⟩
  | succ n ih =>
    intro a acc r u ha h
    rcases C.ok (l.drop a) with ⟨x, u1, h1, hu1⟩ | h1
    · rw [List.length_drop] at hu1
      rw [getGo_ok h1] at h
      obtain ⟨xs, e1, e2, e3, e4, e5⟩ := ih _ _ _ _ (by omega) h
      obtain ⟨c1, c2⟩ := C.canon _ _ _ h1
      refine ⟨x :: xs, by rw [e1]; simp, by simp [e2], ?_, ?_, e5⟩
      · rw [List.flatMap_cons, List.length_append]; omega
      · rw [List.flatMap_cons, List.length_append, List.take_add, c2, c1, List.drop_drop, e4]
    · rw [getGo, if_pos h1] at h
      simp only [Prod.mk.injEq] at h
      exact absurd h.2.2 h1
def encList (f : α → List UInt8) (xs : List α) : List UInt8 := encInt xs.length ++ xs.flatMap f
theorem flat_ge (hf : ∀ x, 1 ≤ (f x).length) (xs : List α) : xs.length * 1 ≤ (xs.flatMap f).length := by
  induction xs with
  | nil => simp
  | cons x xs ih => rw [List.flatMap_cons, List.length_append, List.length_cons]; have := hf x; omega
theorem getList_enc (C : Codec f one good) (hf : ∀ x, 1 ≤ (f x).length) {xs : List α} (hg : ∀ x ∈ xs, good x) (hn : xs.length ≤ 1152921504606846976) (t : List UInt8) : getList one 1 (encList f xs ++ t) = (xs, ((encList f xs).length : Int), 0) := by
  have h1 : getLen (encList f xs ++ t) 1 = ((xs.length : Int), ((encInt xs.length).length : Int), 0) := by
    unfold encList
    rw [List.append_assoc]
    exact getLen_enc (lst := 1) 1 rfl hn (by omega) (by have := flat_ge hf xs; rw [List.length_append]; omega)
  unfold getList
  rw [h1]
  simp only [ne_eq, not_true, if_false, Int.toNat_natCast]
  rw [getGo_enc C _ xs _ [] t hg (by unfold encList; rw [List.append_assoc, List.drop_left])]
  unfold encList
  rw [List.length_append]
  rfl
theorem getList_canon (C : Codec f one good) {l : List UInt8} {r : List α} {u : Nat} (h : getList one 1 l = (r, (u : Int), 0)) : l.take u = encList f r ∧ (encList f r).length = u ∧ u ≤ l.length := by
  unfold getList at h
  rcases getLen_cases l 1 with ⟨n, u', hg, h1, h2, h3⟩ | hg | hg
  · have hc := getLen_canon hg
    rw [hg] at h
    simp only [ne_eq, not_true, if_false, Int.toNat_natCast] at h
    obtain ⟨xs, e1, e2, e3, e4, e5⟩ := getGo_canon C l n u' [] r u h2 h
    simp only [List.nil_append] at e1
    subst e1
    unfold encList
    rw [e2, List.length_append, hc.2]
    refine ⟨?_, by omega, e5⟩
    rw [e3, List.take_add, hc.1, e4]
  · rw [hg] at h; simp at h
  · rw [hg] at h; simp at h
end
theorem encInts_eq (l : List Int) : encInts l = encList encInt l := rfl
theorem encStrings_eq (l : List ByteArray) : encStrings l = encList encB (l.map fun s => s.data.toList) := by
  unfold encStrings encList
  rw [List.length_map, List.flatMap_map]
  rfl
end Go.Proofs.Ytakbadleipbngaa
