/-
  The decoder of integers. Conditions: none.
-/
import Derived.Test.YtjdoellkoofnmaaWireD
namespace Go.Proofs.Ytjdoellkoofnmaa
open Go.RowKit
/-! ### Plain -/
def dec : List UInt8 → Nat → Nat → Nat × Nat × Int
  | [], _, _ => (0, 0, 10)
  | c :: r, k, z => if (k = 9 ∧ 1 < c.toNat) ∨ (0 < k ∧ c.toNat = 0) then (0, 0, 11) else
      if c.toNat < 128 then (z + c.toNat * 128 ^ k, k + 1, 0) else dec r (k + 1) (z + (c.toNat % 128) * 128 ^ k)
def unzig (z : Nat) : Int := if z % 2 = 1 then -1 - (z / 2 : Nat) else (z / 2 : Nat)
def getInt (l : List UInt8) : Int × Int × Int :=
  if (dec l 0 0).2.2 = 0 then (unzig (dec l 0 0).1, ((dec l 0 0).2.1 : Int), 0) else (0, 0, (dec l 0 0).2.2)
def trip (r : Int × Int × Int) : Value := .tuple #[.int .i64 r.1, .int .i64 r.2.1, .int .i64 r.2.2]

theorem dec_at {l : List UInt8} {k z b : Nat} {x : UInt8} (hx : l[k]? = some x) (hb : x.toNat = b) : dec (l.drop k) k z = if (k = 9 ∧ 1 < b) ∨ (0 < k ∧ b = 0) then (0, 0, 11) else
      if b < 128 then (z + b * 128 ^ k, k + 1, 0) else dec (l.drop (k + 1)) (k + 1) (z + (b % 128) * 128 ^ k) := by
  obtain ⟨hk, rfl⟩ := List.getElem?_eq_some_iff.1 hx
  rw [List.drop_eq_getElem_cons hk, dec, hb]
theorem dec_bad {l : List UInt8} {k z b : Nat} {x : UInt8} (hd : dec (l.drop k) k z = dec l 0 0) (hx : l[k]? = some x) (hb : x.toNat = b) (h : (k = 9 ∧ 1 < b) ∨ (0 < k ∧ b = 0)) : trip (getInt l) = .tuple #[.int .i64 0, .int .i64 0, .int .i64 11] := by
  rw [dec_at hx hb, if_pos h] at hd
  simp [getInt, ← hd, trip]
theorem dec_end {l : List UInt8} {k z : Nat} (hd : dec (l.drop k) k z = dec l 0 0) (hk : k = l.length) : trip (getInt l) = .tuple #[.int .i64 0, .int .i64 0, .int .i64 10] := by
  rw [hk, List.drop_length, dec] at hd
  simp [getInt, ← hd, trip]
theorem dec_ok {l : List UInt8} {k z b : Nat} {x : UInt8} (hd : dec (l.drop k) k z = dec l 0 0) (hx : l[k]? = some x) (hb : x.toNat = b) (h : ¬ ((k = 9 ∧ 1 < b) ∨ (0 < k ∧ b = 0))) (hlt : b < 128) :
    trip (getInt l) = .tuple #[.int .i64 (unzig (z + b * 128 ^ k)), .int .i64 ((k : Int) + 1), .int .i64 0] := by
  rw [dec_at hx hb, if_neg h, if_pos hlt] at hd
  simp [getInt, ← hd, trip]
theorem dec_go {l : List UInt8} {k z b : Nat} {x : UInt8} (hd : dec (l.drop k) k z = dec l 0 0) (hx : l[k]? = some x) (hb : x.toNat = b) (h : ¬ ((k = 9 ∧ 1 < b) ∨ (0 < k ∧ b = 0))) (hlt : ¬ b < 128) :
    dec (l.drop (k + 1)) (k + 1) (z + (b % 128) * 128 ^ k) = dec l 0 0 := by
  rw [dec_at hx hb, if_neg h, if_neg hlt] at hd
  exact hd

theorem ofInt_i64 (a : Nat) (ha : a < 9223372036854775808) : (BitVec.ofInt 64 (a : Int)).toNat = a := by
  rw [BitVec.ofInt_natCast, BitVec.toNat_ofNat]; exact Nat.mod_eq_of_lt (by omega)
theorem i64_xor_zero (a : Nat) (ha : a < 9223372036854775808) : bits .xor .i64 (a : Int) 0 = a := by
  show IntKind.i64.wrap ((BitVec.ofInt 64 (a : Int) ^^^ BitVec.ofInt 64 0).toNat : Int) = _
  rw [BitVec.toNat_xor, ofInt_i64 a ha, show (BitVec.ofInt 64 0).toNat = 0 from by decide, Nat.xor_zero, IntKind.wrap_i64]
  omega
theorem i64_xor_ones (a : Nat) (ha : a < 9223372036854775808) : bits .xor .i64 (a : Int) (-1) = -1 - (a : Int) := by
  show IntKind.i64.wrap ((BitVec.ofInt 64 (a : Int) ^^^ BitVec.ofInt 64 (-1)).toNat : Int) = _
  rw [BitVec.toNat_xor, ofInt_i64 a ha, show (BitVec.ofInt 64 (-1)).toNat = 18446744073709551615 from by decide, xor_all a (by omega), IntKind.wrap_i64]
  omega
theorem unzig_bits (Z : Nat) (hZ : Z < 18446744073709551616) :
    bits BinOp.xor IntKind.i64 (wrap64 ((Z : Int) / 2)) (wrap64 (-wrap64 (bits BinOp.and IntKind.u64 (Z : Int) 1))) = unzig Z := by
  rw [show (1 : Int) = ((1 : Nat) : Int) from rfl, u64_and_nat Z 1 hZ (by omega), nat_mask1, show wrap64 ((Z : Int) / 2) = ((Z / 2 : Nat) : Int) from by unfold wrap64; omega]
  unfold unzig
  rcases Nat.mod_two_eq_zero_or_one Z with h | h
  · rw [h, if_neg (by omega), show wrap64 (-wrap64 ((0 : Nat) : Int)) = 0 from by simp [wrap64]]
    exact i64_xor_zero _ (by omega)
  · rw [h, if_pos rfl, show wrap64 (-wrap64 ((1 : Nat) : Int)) = -1 from by simp [wrap64]]
    exact i64_xor_ones _ (by omega)
theorem and127 (b : Nat) (hb : b < 256) : IntKind.u64.wrap (bits BinOp.and IntKind.u8 (b : Int) 127) = ((b % 128 : Nat) : Int) := by
  rw [show (127 : Int) = ((127 : Nat) : Int) from rfl, u8_and_nat b 127 hb (by omega), nat_mask7, IntKind.wrap_u64]
  omega
theorem acc_bits (z b k : Nat) (hz : z < 128 ^ k) (hb : b < 256) (hk : k < 9) :
    bits BinOp.or IntKind.u64 (z : Int) (IntKind.u64.wrap (IntKind.u64.wrap (bits BinOp.and IntKind.u8 (b : Int) 127) * 2 ^ (7 * k))) = ((z + b % 128 * 128 ^ k : Nat) : Int) := by
  have h1 : 128 ^ (k + 1) ≤ 128 ^ 9 := Nat.pow_le_pow_right (by omega) hk
  have h2 : b % 128 * 128 ^ k < 128 ^ (k + 1) := by rw [Nat.pow_succ, Nat.mul_comm]; exact Nat.mul_lt_mul_of_pos_left (by omega) (Nat.pow_pos (by omega))
  have h3 : 128 ^ k ≤ 128 ^ 9 := Nat.pow_le_pow_right (by omega) (by omega)
  have e : (2 : Int) ^ (7 * k) = ((128 ^ k : Nat) : Int) := by rw [Int.pow_mul]; simp
  rw [and127 b hb, e, ← Int.natCast_mul, IntKind.wrap_u64, show (((b % 128 * 128 ^ k : Nat) : Int) % 18446744073709551616) = ((b % 128 * 128 ^ k : Nat) : Int) from by omega, u64_or_nat _ _ (by omega) (by omega)]
  congr 1
  rw [Nat.or_comm, nat_join (7 * k) (b % 128 * 128 ^ k) z (by rw [show 128 = 2 ^ 7 from rfl, ← Nat.pow_mul]; exact Nat.mul_mod_left _ _) (by rw [Nat.pow_mul]; exact hz)]
  omega
theorem acc_bits9 (z b : Nat) (hz : z < 128 ^ 9) (hb : b ≤ 1) :
    bits BinOp.or IntKind.u64 (z : Int) (IntKind.u64.wrap (IntKind.u64.wrap (bits BinOp.and IntKind.u8 (b : Int) 127) * 9223372036854775808)) = ((z + b * 128 ^ 9 : Nat) : Int) := by
  have e : ((b % 128 : Nat) : Int) * 9223372036854775808 = ((b * 2 ^ 63 : Nat) : Int) := by omega
  rw [and127 b (by omega), e, IntKind.wrap_u64, show (((b * 2 ^ 63 : Nat) : Int) % 18446744073709551616) = ((b * 2 ^ 63 : Nat) : Int) from by omega, u64_or_nat _ _ (by omega) (by omega)]
  congr 1
  rw [Nat.or_comm, nat_join 63 (b * 2 ^ 63) z (Nat.mul_mod_left _ _) (by omega)]
  omega
theorem acc_lt (z b k : Nat) (hz : z < 128 ^ k) : z + b % 128 * 128 ^ k < 128 ^ (k + 1) := by
  have : (b % 128 + 1) * 128 ^ k ≤ 128 * 128 ^ k := Nat.mul_le_mul_right _ (by omega)
  rw [Nat.pow_succ, Nat.mul_comm (128 ^ k)]
  rw [Nat.add_mul] at this
  omega

set_option maxHeartbeats 400000 in
set_option maxRecDepth 100000 in
theorem wire_GetInt (l : List UInt8) (v : Value) (w : World) (hl : Sl w v 1 l.length (l.map bv)) :
    Calls Try.prog 24 #[v] w fun e w' => e = .returned (trip (getInt l)) ∧ w = w' := by
  obtain ⟨A, c, rfl, hnc, hcm, hr⟩ := hl
  unfold maxLen at hcm
  go_enter Try.func24, Try.ntmps24
  go_wp2_with fail
  go_step3
  go_wp2_with fail
  go_step3
  go_wp2_with fail
  go_loop [5, 6, 11] (fun u5 u6 i => ∃ k z : Nat, k ≤ l.length ∧ k ≤ 9 ∧ z < 128 ^ k ∧ i = .int .i64 k ∧ u5 = .int .u64 z ∧ u6 = .int .i64 0 ∧ dec (l.drop k) k z = dec l 0 0) (fun _ _ i => l.length - (intOf i).toNat)
  case atStart => exact ⟨0, 0, Nat.zero_le _, by omega, by simp, rfl, rfl, rfl, rfl⟩
  case round =>
    obtain ⟨k, z, hk, hk9, hz, rfl, rfl, rfl, hd⟩ := hrel
    have HD := Lib.hid hd
    clear hd
    by_cases hlt : k < l.length
    · obtain ⟨ad, x, rfl, hab, hx, hc⟩ := hr.elem hlt rfl
      have HX := Lib.hid hx
      unfold bv at hc
      clear hx
      have hx256 := x.toNat_lt
      generalize hbx : x.toNat = b at *
      have HB := Lib.hid hbx
      clear hbx
      by_cases hbad : (k = 9 ∧ 1 < b) ∨ (0 < k ∧ b = 0)
      · go_wp2_with fail
        all_goals
          go_ret3
          exact ⟨congrArg Ending.returned (dec_bad HD.out HX.out HB.out hbad).symm, rfl⟩
      · have hz64 : z < 18446744073709551616 := by
          have : 128 ^ k ≤ 128 ^ 9 := Nat.pow_le_pow_right (by omega) hk9
          omega
        have HBAD := Lib.hid hbad
        have hnb1 : ¬ (k = 9 ∧ 1 < b) := fun h => hbad (.inl h)
        have hnb2 : ¬ (0 < k ∧ b = 0) := fun h => hbad (.inr h)
        clear hbad
        by_cases h9 : k = 9
        · subst h9
          have hb1 : b ≤ 1 := by omega
          have hb0 : ((b : Int) == 0) = false := by simp; omega
          have hc9 : w.cell? ⟨ad.block, ad.off + 9, none⟩ = some (.int .u8 (b : Int)) := hc
          clear hnb1 hnb2
          go_wp2_with fail
          go_ret3
          rw [acc_bits9 z b hz hb1, unzig_bits _ (by omega), dec_ok HD.out HX.out HB.out (fun h => HBAD.out (h.imp (fun x => ⟨trivial, x.2⟩) id)) (by omega)]
          exact ⟨rfl, rfl⟩
        · have h9' : ((k : Int) == 9) = false := by simp; omega
          have hzk := acc_lt z b k hz
          have hzl : 128 ^ (k + 1) ≤ 128 ^ 9 := Nat.pow_le_pow_right (by omega) (by omega)
          clear hnb1
          by_cases hb : b < 128
          · have hbm : b % 128 = b := by omega
            have HBM := Lib.hid hbm
            clear hbm
            have HZ := Lib.hid hzk
            clear hzk
            go_wp2_with fail
            all_goals
              have HZ' := HZ.out
              go_ret3
              rw [acc_bits z b k hz hx256 (by omega), unzig_bits _ (by omega), dec_ok HD.out HX.out HB.out HBAD.out hb, HBM.out]
              exact ⟨rfl, rfl⟩
          · have HZ := Lib.hid hzk
            clear hzk
            go_wp2_with fail
            all_goals
              go_round
              case rel => exact ⟨k + 1, _, by omega, by omega, HZ.out, by go_num, by rw [acc_bits z b k hz hx256 (by omega)], rfl, dec_go HD.out HX.out HB.out HBAD.out hb⟩
              case measure => simp [intOf]; omega
    · obtain rfl : k = l.length := by omega
      go_wp2_with fail
      go_ret3
      exact ⟨congrArg Ending.returned (dec_end HD.out rfl).symm, rfl⟩
end Go.Proofs.Ytjdoellkoofnmaa
