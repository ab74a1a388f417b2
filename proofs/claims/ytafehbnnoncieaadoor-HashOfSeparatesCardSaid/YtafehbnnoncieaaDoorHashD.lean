/-
  The check of 40 bits: multiplication and shifts. Conditions: none.
-/
import Derived.Test.YtafehbnnoncieaaDoorHashC
namespace Go.Proofs.YtafehbnnoncieaaDoor
open Go.RowKit

/-! ### Multiplication and shifts -/
namespace Crc
theorem S_sel (v : V) : S v = (v <<< 1) ^^^ sel (v.getLsbD 39) poly := by
  unfold S sel
  cases v.getLsbD 39 <;> simp
end Crc
/-- The program's step of 'times': the register twice, and reduced. -/
theorem times_step (v : Crc.V) : (((v.toNat : Int) * 2 / 1099511627776 == 1) = v.getLsbD 39) ∧ bits .and .u64 ((v.toNat : Int) * 2) 1099511627775 = ((v <<< 1).toNat : Int) ∧
    (v.getLsbD 39 = false → Int.mul (v.toNat : Int) 2 = ((v <<< 1).toNat : Int)) := by
  have h1 := v.isLt
  have e : v.getLsbD 39 = decide (549755813888 ≤ v.toNat) := by
    rw [BitVec.getLsbD, Nat.testBit_eq_decide_div_mod_eq]
    apply decide_eq_decide.2
    have : v.toNat / 2 ^ 39 < 2 := by omega
    omega
  refine ⟨?_, r40_shl' v 1 (by omega), fun h => ?_⟩
  · rw [e, Bool.eq_iff_iff, beq_iff_eq, decide_eq_true_iff]; omega
  · rw [e, decide_eq_false_iff_not] at h
    rw [BitVec.toNat_shiftLeft, Nat.shiftLeft_eq]; show (v.toNat : Int) * 2 = _; omega

set_option maxHeartbeats 800000 in
theorem hash_times (a b : Crc.V) (x y : Int) (hx : x = a.toNat) (hy : y = b.toNat) (w : World) (hN : Nibs w) :
    Calls Tryd.prog 43 #[.int .u64 x, .int .u64 y] w fun e w' => e = .returned (.int .u64 (Crc.mul a b).toNat) ∧ w = w' := by
  have hc1 : w.cell? ⟨1, 1, none⟩ = some (.int .u64 75628553) := hN.2 1 (by omega)
  have hxl : 0 ≤ x ∧ x < 1099511627776 := by have := a.isLt; omega
  have hyl : 0 ≤ y ∧ y < 1099511627776 := by have := b.isLt; omega
  obtain ⟨hx1, hx2⟩ := hxl
  obtain ⟨hy1, hy2⟩ := hyl
  have HX := Lib.hid hx
  have HY := Lib.hid hy
  clear hx hy hN
  go_enter Tryd.func43, Tryd.ntmps43
  go_wp2_with fail
  go_loop [5, 6] (fun u5 u6 => ∃ n : Nat, n ≤ 40 ∧ u6 = .int .i64 (39 - (n : Int)) ∧ u5 = .int .u64 (Crc.hor a b n).toNat) (fun _ u6 => (intOf u6 + 1).toNat)
  case atStart => exact ⟨0, by omega, rfl, rfl⟩
  case round =>
    obtain ⟨n, hn, rfl, rfl⟩ := hrel
    by_cases hlt : n < 40
    · generalize hh : Crc.hor a b n = h at *
      have HH := Lib.hid hh
      clear hh
      obtain ⟨ht, hs, hp⟩ := times_step h
      have hlt0 := h.isLt
      have hbt := bit_of b.toNat (39 - n) (by have := b.isLt; omega)
      rw [← HY.out] at hbt
      have hbt' : (bits .and .u64 (y / 2 ^ (39 - n)) 1 == 1) = b.getLsbD (39 - n) := by
        rw [hbt, BitVec.getLsbD]; cases b.toNat.testBit (39 - n) <;> rfl
      have hor1 : Crc.hor a b (n + 1) = Crc.S h ^^^ (if b.getLsbD (39 - n) then a else 0#40) := by rw [← HH.out]; rfl
      have hS := Crc.S_sel h
      clear hbt
      cases hm : h.getLsbD 39 <;> cases hb : b.getLsbD (39 - n)
      all_goals
        rw [hm] at ht hS
        rw [hb] at hbt' hor1
        rw [hS] at hor1
        clear hS
      · have hp' : (h.toNat : Int) * (2 : Int) = ((h <<< 1).toNat : Int) := hp hm
        have H1 := Lib.hid hor1
        have H2 := Lib.hid hp'
        clear hor1 hp' hp hs hm hb
        go_wp2_with fail
        go_round
        case rel => exact ⟨n + 1, by omega, by go_num, by rw [H1.out, H2.out]; simp [Crc.sel]⟩
        case measure => go_light; simp [intOf]; omega
      · have hp' : (h.toNat : Int) * (2 : Int) = ((h <<< 1).toNat : Int) := hp hm
        have H1 := Lib.hid hor1
        have H2 := Lib.hid hp'
        clear hor1 hp' hp hs hm hb
        go_wp2_with fail
        go_round
        case rel => exact ⟨n + 1, by omega, by go_num, by rw [H1.out, H2.out, HX.out, r40_xor]; simp [Crc.sel]⟩
        case measure => go_light; simp [intOf]; omega
      · have H1 := Lib.hid hor1
        have H2 := Lib.hid hs
        clear hor1 hp hs hm hb
        go_wp2_with fail
        go_round
        case rel => exact ⟨n + 1, by omega, by go_num, by rw [H1.out, H2.out, Crc.xor_poly]; simp [Crc.sel]⟩
        case measure => go_light; simp [intOf]; omega
      · have H1 := Lib.hid hor1
        have H2 := Lib.hid hs
        clear hor1 hp hs hm hb
        go_wp2_with fail
        go_round
        case rel => exact ⟨n + 1, by omega, by go_num, by rw [H1.out, H2.out, Crc.xor_poly, HX.out, r40_xor]; simp [Crc.sel]⟩
        case measure => go_light; simp [intOf]; omega
    · obtain rfl : n = 40 := by omega
      go_wp2_with fail
      go_ret
      exact ⟨rfl, rfl⟩
end Go.Proofs.YtafehbnnoncieaaDoor
