/-
  Words of 32 and of 64 bits as the program has them: integers and their bits. Conditions: none.
-/
import Derived.WalkKit
import Derived.Lib.Hide
import Derived.Laws.BitsAllLaws
namespace Go.Proofs.YtafehbnnoncieaaDoor
open Go.RowKit
theorem ofInt_toNat {n : Nat} (x : BitVec n) : BitVec.ofInt n (x.toNat : Int) = x := by
  rw [BitVec.ofInt_natCast, BitVec.ofNat_toNat, BitVec.setWidth_eq]
theorem wrap_u32_toNat (x : BitVec 32) : IntKind.u32.wrap (x.toNat : Int) = x.toNat := by
  have := x.isLt
  rw [IntKind.wrap_u32]; omega
theorem wrap_u64_toNat (x : BitVec 64) : IntKind.u64.wrap (x.toNat : Int) = x.toNat := by
  have := x.isLt
  rw [IntKind.wrap_u64]; omega
theorem u32_xor (x y : BitVec 32) : bits .xor .u32 (x.toNat : Int) (y.toNat : Int) = ((x ^^^ y).toNat : Int) := by
  show IntKind.u32.wrap ((BitVec.ofInt 32 (x.toNat : Int) ^^^ BitVec.ofInt 32 (y.toNat : Int)).toNat : Int) = _
  rw [ofInt_toNat, ofInt_toNat, wrap_u32_toNat]
theorem u32_and (x y : BitVec 32) : bits .and .u32 (x.toNat : Int) (y.toNat : Int) = ((x &&& y).toNat : Int) := by
  show IntKind.u32.wrap ((BitVec.ofInt 32 (x.toNat : Int) &&& BitVec.ofInt 32 (y.toNat : Int)).toNat : Int) = _
  rw [ofInt_toNat, ofInt_toNat, wrap_u32_toNat]
theorem u32_or (x y : BitVec 32) : bits .or .u32 (x.toNat : Int) (y.toNat : Int) = ((x ||| y).toNat : Int) := by
  show IntKind.u32.wrap ((BitVec.ofInt 32 (x.toNat : Int) ||| BitVec.ofInt 32 (y.toNat : Int)).toNat : Int) = _
  rw [ofInt_toNat, ofInt_toNat, wrap_u32_toNat]
theorem u64_xor (x y : BitVec 64) : bits .xor .u64 (x.toNat : Int) (y.toNat : Int) = ((x ^^^ y).toNat : Int) := by
  show IntKind.u64.wrap ((BitVec.ofInt 64 (x.toNat : Int) ^^^ BitVec.ofInt 64 (y.toNat : Int)).toNat : Int) = _
  rw [ofInt_toNat, ofInt_toNat, wrap_u64_toNat]
theorem u64_and (x y : BitVec 64) : bits .and .u64 (x.toNat : Int) (y.toNat : Int) = ((x &&& y).toNat : Int) := by
  show IntKind.u64.wrap ((BitVec.ofInt 64 (x.toNat : Int) &&& BitVec.ofInt 64 (y.toNat : Int)).toNat : Int) = _
  rw [ofInt_toNat, ofInt_toNat, wrap_u64_toNat]
theorem u32_add (x y : BitVec 32) : IntKind.u32.wrap ((x.toNat : Int) + (y.toNat : Int)) = ((x + y).toNat : Int) := by
  rw [IntKind.wrap_u32, BitVec.toNat_add]; omega
theorem u32_shr (x : BitVec 32) (k : Nat) : (x.toNat : Int) / 2 ^ k = ((x >>> k).toNat : Int) := by
  rw [BitVec.toNat_ushiftRight, Nat.shiftRight_eq_div_pow]; simp
theorem u32_shl (x : BitVec 32) (k : Nat) : IntKind.u32.wrap ((x.toNat : Int) * 2 ^ k) = ((x <<< k).toNat : Int) := by
  rw [BitVec.toNat_shiftLeft, Nat.shiftLeft_eq, IntKind.wrap_u32]; simp
/-! ### Registers of 40 bits in words of 64 -/
theorem r40_xor (u v : BitVec 40) : bits .xor .u64 (u.toNat : Int) (v.toNat : Int) = ((u ^^^ v).toNat : Int) := by
  have h1 := u.isLt
  have h2 := v.isLt
  rw [u64_xor_nat _ _ (by omega) (by omega), BitVec.toNat_xor]
theorem r40_and (u v : BitVec 40) : bits .and .u64 (u.toNat : Int) (v.toNat : Int) = ((u &&& v).toNat : Int) := by
  have h1 := u.isLt
  have h2 := v.isLt
  rw [u64_and_nat _ _ (by omega) (by omega), BitVec.toNat_and]
theorem mask40 (n : Nat) (h : n < 18446744073709551616) : bits .and .u64 (n : Int) 1099511627775 = ((BitVec.ofNat 40 n).toNat : Int) := by
  rw [show (1099511627775 : Int) = ((1099511627775 : Nat) : Int) from rfl, u64_and_nat _ _ h (by omega), BitVec.toNat_ofNat]
  congr 1
  exact Nat.and_two_pow_sub_one_eq_mod n 40
theorem r40_shl (v : BitVec 40) (k : Nat) (hk : k ≤ 20) : bits .and .u64 (IntKind.u64.wrap ((v.toNat : Int) * 2 ^ k)) 1099511627775 = ((v <<< k).toNat : Int) := by
  have h1 := v.isLt
  have h2 : 2 ^ k ≤ 2 ^ 20 := Nat.pow_le_pow_right (by omega) hk
  have h3 : v.toNat * 2 ^ k < 2 ^ 40 * 2 ^ 20 := Nat.mul_lt_mul_of_lt_of_le h1 h2 (by omega)
  have e : ((v.toNat : Int) * 2 ^ k) = ((v.toNat * 2 ^ k : Nat) : Int) := by simp
  rw [e, IntKind.wrap_u64, show (((v.toNat * 2 ^ k : Nat) : Int) % 18446744073709551616) = ((v.toNat * 2 ^ k : Nat) : Int) from by omega, mask40 _ (by omega)]
  congr 1
  rw [BitVec.toNat_shiftLeft, Nat.shiftLeft_eq, BitVec.toNat_ofNat]
theorem r40_shl' (v : BitVec 40) (k : Nat) (hk : k ≤ 20) : bits .and .u64 ((v.toNat : Int) * 2 ^ k) 1099511627775 = ((v <<< k).toNat : Int) := by
  have h1 := v.isLt
  have h2 : 2 ^ k ≤ 2 ^ 20 := Nat.pow_le_pow_right (by omega) hk
  have h3 : v.toNat * 2 ^ k < 2 ^ 40 * 2 ^ 20 := Nat.mul_lt_mul_of_lt_of_le h1 h2 (by omega)
  have e : ((v.toNat : Int) * 2 ^ k) = ((v.toNat * 2 ^ k : Nat) : Int) := by simp
  rw [e, mask40 _ (by omega)]
  congr 1
  rw [BitVec.toNat_shiftLeft, Nat.shiftLeft_eq, BitVec.toNat_ofNat]
theorem b01 (b : Bool) : (if b then (1 : Int) else 0) = ((b.toNat : Nat) : Int) := by cases b <;> rfl
theorem r40_top (v : BitVec 40) : bits .and .u64 ((v.toNat : Int) / 549755813888) 1 = if v.getLsbD 39 then 1 else 0 := by
  have h1 := v.isLt
  rw [show ((v.toNat : Int) / 549755813888) = ((v.toNat / 549755813888 : Nat) : Int) from by omega, show (1 : Int) = ((1 : Nat) : Int) from rfl, u64_and_nat _ _ (by omega) (by omega), nat_mask1]
  rw [BitVec.getLsbD, Nat.testBit_eq_decide_div_mod_eq]
  rcases Nat.mod_two_eq_zero_or_one (v.toNat / 549755813888) with h | h <;> rw [show v.toNat / 2 ^ 39 = v.toNat / 549755813888 from rfl, h] <;> rfl
theorem xor01 (a b : Bool) : bits .xor .u64 (if a then 1 else 0) (if b then 1 else 0) = if (a ^^ b) then 1 else 0 := by
  cases a <;> cases b <;> decide
theorem bit_of (n k : Nat) (h : n < 18446744073709551616) : bits .and .u64 ((n : Int) / 2 ^ k) 1 = if n.testBit k then 1 else 0 := by
  have h2 : n / 2 ^ k ≤ n := Nat.div_le_self _ _
  rw [show ((n : Int) / 2 ^ k) = ((n / 2 ^ k : Nat) : Int) from by simp, show (1 : Int) = ((1 : Nat) : Int) from rfl, u64_and_nat _ _ (by omega) (by omega), nat_mask1, Nat.testBit_eq_decide_div_mod_eq]
  rcases Nat.mod_two_eq_zero_or_one (n / 2 ^ k) with h | h <;> rw [h] <;> rfl
end Go.Proofs.YtafehbnnoncieaaDoor
