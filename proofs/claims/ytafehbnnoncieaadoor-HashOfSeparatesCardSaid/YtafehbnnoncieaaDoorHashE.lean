/-
  The check of 40 bits: checks are joined. Conditions: none.
-/
import Derived.Test.YtafehbnnoncieaaDoorHashD
import Derived.Deep.Light
namespace Go.Proofs.YtafehbnnoncieaaDoor
open Go.RowKit
theorem mask_int (a : Int) : bits .and .u64 (IntKind.u64.wrap a) 1099511627775 = ((BitVec.ofInt 40 a).toNat : Int) := by
  rw [IntKind.wrap_u64, show a % 18446744073709551616 = ((a % 18446744073709551616).toNat : Int) from by omega, mask40 _ (by omega)]
  rw [BitVec.toNat_ofNat, BitVec.toNat_ofInt]
  omega
theorem odd_test (m : Nat) (h : m < 9223372036854775808) : (bits .and .i64 (m : Int) 1 == 1) = decide (m % 2 = 1) := by
  have e : bits .and .i64 (m : Int) 1 = ((m &&& 1 : Nat) : Int) := by
    show IntKind.i64.wrap ((BitVec.ofInt 64 (m : Int) &&& BitVec.ofInt 64 1).toNat : Int) = _
    rw [BitVec.toNat_and, BitVec.ofInt_natCast, BitVec.toNat_ofNat, Nat.mod_eq_of_lt (by omega), show (BitVec.ofInt 64 1).toNat = 1 from by decide, IntKind.wrap_i64]
    have : m &&& 1 ≤ 1 := Nat.and_le_right
    omega
  rw [e, nat_mask1, Bool.eq_iff_iff, beq_iff_eq, decide_eq_true_iff]
  omega
def joinVal (a b : Int) (n : Nat) : Value := .int .i64 (Crc.join (BitVec.ofInt 40 a) (BitVec.ofInt 40 b) n).toNat
theorem join_end (a b : Int) (n : Nat) : bits .xor .u64 ((Crc.it Crc.S (8 * n) (BitVec.ofInt 40 a)).toNat : Int) (bits .and .u64 (IntKind.u64.wrap b) 1099511627775) = ((Crc.join (BitVec.ofInt 40 a) (BitVec.ofInt 40 b) n).toNat : Int) := by
  rw [mask_int, r40_xor]; rfl

set_option maxHeartbeats 400000 in
theorem hash_Join_neg (a b n : Int) (_h1 : -9223372036854775808 ≤ n) (hn : n < 0) (w : World) :
    Calls Tryd.prog 26 #[.int .i64 a, .int .i64 b, .int .i64 n] w fun e w' => e = .returned (.int .i64 0) ∧ w = w' := by
  go_enter Tryd.func26, Tryd.ntmps26
  go_wp2_with fail
  go_ret
  exact ⟨rfl, rfl⟩
set_option maxHeartbeats 400000 in
theorem ref_Join_neg (a b n : Int) (_h1 : -9223372036854775808 ≤ n) (hn : n < 0) (w : World) :
    Calls Tryd.prog 27 #[.int .i64 a, .int .i64 b, .int .i64 n] w fun e w' => e = .returned (.int .i64 0) ∧ w = w' := by
  go_enter Tryd.func27, Tryd.ntmps27
  go_wp2_with fail
  go_ret
  exact ⟨rfl, rfl⟩
theorem pow_split (p m : Nat) (_hp : 0 < p) : m % 2 = 1 → p + 2 * p * (m / 2) = p * m := by
  intro h
  obtain ⟨q, rfl⟩ : ∃ q, m = 2 * q + 1 := ⟨m / 2, by omega⟩
  rw [show (2 * q + 1) / 2 = q from by omega, Nat.mul_add, Nat.mul_one, Nat.mul_comm 2 p, Nat.mul_assoc]; omega
theorem pow_split0 (p m : Nat) : ¬ m % 2 = 1 → 2 * p * (m / 2) = p * m := by
  intro h
  obtain ⟨q, rfl⟩ : ∃ q, m = 2 * q := ⟨m / 2, by omega⟩
  rw [show (2 * q) / 2 = q from by omega, Nat.mul_comm 2 p, Nat.mul_assoc]

set_option maxHeartbeats 800000 in
theorem hash_Join (a b n' : Int) (n : Nat) (hn' : n' = n) (hn : n < 9223372036854775808) (w : World) (hN : Nibs w) :
    Calls Tryd.prog 26 #[.int .i64 a, .int .i64 b, .int .i64 n'] w fun e w' => e = .returned (joinVal a b n) ∧ w = w' := by
  subst hn'
  have hma := mask_int a
  have HMA := Lib.hid hma
  have HE := Lib.hid (join_end a b n)
  clear hma
  have hnn : 0 ≤ (n : Int) := by omega
  have hnn2 : (n : Int) ≤ 9223372036854775807 := by omega
  go_enter Tryd.func26, Tryd.ntmps26
  go_wp2_with fail
  go_loop [2, 7, 8] (fun u2 u7 u8 => ∃ m p s : Nat, m < 9223372036854775808 ∧ 0 < p ∧ s + p * m = 8 * n ∧ u2 = .int .i64 m ∧ u7 = .int .u64 (Crc.it Crc.S s (BitVec.ofInt 40 a)).toNat ∧ u8 = .int .u64 (Crc.X p).toNat) (fun u2 _ _ => (intOf u2).toNat)
  case atStart => exact ⟨n, 8, 0, hn, by omega, by omega, rfl, by rw [HMA.out]; rfl, by rw [Crc.X_8]; rfl⟩
  case round =>
    obtain ⟨m, p, s, hm, hp0, hs, rfl, rfl, rfl⟩ := hrel
    have HS := Lib.hid hs
    clear hs
    by_cases hm0 : 0 < m
    · have hodd := odd_test m hm
      by_cases ho : m % 2 = 1
      · rw [decide_eq_true ho] at hodd
        have HO := Lib.hid ho
        clear ho
        go_wp2_with fail
        with_reducible refine (hash_times (Crc.it Crc.S s (BitVec.ofInt 40 a)) (Crc.X p) _ _ rfl rfl _ hN).mono ?_
        rintro e w' ⟨rfl, rfl⟩
        go_wp2_with fail
        with_reducible refine (hash_times (Crc.X p) (Crc.X p) _ _ rfl rfl _ hN).mono ?_
        rintro e w' ⟨rfl, rfl⟩
        go_wp2_with fail
        go_round
        case rel => exact ⟨m / 2, 2 * p, s + p, by omega, by omega, by have := pow_split p m hp0 HO.out; have := HS.out; omega, by go_num, by rw [Crc.mul_X, ← Crc.it_add], by rw [Crc.X_X]⟩
        case measure => go_light; simp [intOf]; omega
      · rw [decide_eq_false ho] at hodd
        have HO := Lib.hid ho
        clear ho
        go_wp2_with fail
        with_reducible refine (hash_times (Crc.X p) (Crc.X p) _ _ rfl rfl _ hN).mono ?_
        rintro e w' ⟨rfl, rfl⟩
        go_wp2_with fail
        go_round
        case rel => exact ⟨m / 2, 2 * p, s, by omega, by omega, by have := pow_split0 p m HO.out; have := HS.out; omega, by go_num, rfl, by rw [Crc.X_X]⟩
        case measure => go_light; simp [intOf]; omega
    · obtain rfl : m = 0 := by omega
      obtain rfl : s = 8 * n := by have := HS.out; omega
      have hlt2 := (Crc.join (BitVec.ofInt 40 a) (BitVec.ofInt 40 b) n).isLt
      have hz : Value.int .i64 ((Crc.join (BitVec.ofInt 40 a) (BitVec.ofInt 40 b) n).toNat : Int) = joinVal a b n := rfl
      have he := HE.out
      generalize (Crc.join (BitVec.ofInt 40 a) (BitVec.ofInt 40 b) n).toNat = z at *
      have HZ := Lib.hid hz
      clear hz
      go_wp2_with fail
      go_ret
      exact ⟨congrArg Ending.returned HZ.out, rfl⟩

set_option maxHeartbeats 800000 in
theorem ref_Join (a b n' : Int) (n : Nat) (hn' : n' = n) (hn : n < 1000000000) (w : World) :
    Calls Tryd.prog 27 #[.int .i64 a, .int .i64 b, .int .i64 n'] w fun e w' => e = .returned (joinVal a b n) ∧ w = w' := by
  subst hn'
  have hma := mask_int a
  have HMA := Lib.hid hma
  have HE := Lib.hid (join_end a b n)
  clear hma
  go_enter Tryd.func27, Tryd.ntmps27
  go_wp2_with fail
  go_loop [7, 8] (fun u7 u8 => ∃ s : Nat, s ≤ 8 * n ∧ u8 = .int .i64 s ∧ u7 = .int .u64 (Crc.it Crc.S s (BitVec.ofInt 40 a)).toNat) (fun _ u8 => 8 * n - (intOf u8).toNat)
  case atStart => exact ⟨0, by omega, rfl, by rw [HMA.out]; rfl⟩
  case round =>
    obtain ⟨s, hs, rfl, rfl⟩ := hrel
    by_cases hlt : s < 8 * n
    · have HS := Lib.hid (Crc.it_succ Crc.S s (BitVec.ofInt 40 a))
      generalize hv : Crc.it Crc.S s (BitVec.ofInt 40 a) = v at *
      have HV := Lib.hid hv
      clear hv
      go_wp2_with fail
      with_reducible refine (ref_step v false _ 0 rfl rfl _).mono ?_
      rintro e w' ⟨rfl, rfl⟩
      go_wp2_with fail
      go_round
      case rel => exact ⟨s + 1, by omega, by go_num, by rw [HS.out]; simp [Crc.T]⟩
      case measure => go_light; simp [intOf]; omega
    · obtain rfl : s = 8 * n := by omega
      have hlt2 := (Crc.join (BitVec.ofInt 40 a) (BitVec.ofInt 40 b) n).isLt
      have hz : Value.int .i64 ((Crc.join (BitVec.ofInt 40 a) (BitVec.ofInt 40 b) n).toNat : Int) = joinVal a b n := rfl
      have he := HE.out
      generalize (Crc.join (BitVec.ofInt 40 a) (BitVec.ofInt 40 b) n).toNat = z at *
      have HZ := Lib.hid hz
      clear hz
      go_wp2_with fail
      go_ret
      exact ⟨congrArg Ending.returned HZ.out, rfl⟩
end Go.Proofs.YtafehbnnoncieaaDoor
