/-
  The check of 40 bits of a sequence of bytes: the program's and the specification's. Conditions: none.
-/
import Derived.Test.YtafehbnnoncieaaDoorHashB
import Derived.Deep.Light
import Derived.Test.YtafehbnnoncieaaDoorWireA
namespace Go.Proofs.YtafehbnnoncieaaDoor
open Go.RowKit
theorem ba_size (l : List UInt8) : (⟨l.toArray⟩ : ByteArray).size = l.length := rfl
def crcVal (l : List UInt8) : Value := .int .i64 (Crc.crc l).toNat

set_option maxHeartbeats 400000 in
theorem hash_Crc40 (l : List UInt8) (x : Value) (w : World) (hl : Sl w x 1 l.length (l.map bv)) (hN : Nibs w) (hb : l.length ≤ 140737488355328) :
    Calls Tryd.prog 16 #[x] w fun e w' => e = .returned (crcVal l) ∧ Below w.heap.size w w' := by
  have hconv : ∀ w', Below w.heap.size w w' → (convert 22 9 x).run Tryd.prog w' = .ok (.string ⟨l.toArray⟩) w' := fun w' h => run_bytes_string w' _ _ _ elBytes.ht Tryd.underlying5 Tryd.underlying9 (hl.below h)
  go_enter Tryd.func16, Tryd.ntmps16
  go_wp2_with fail
  refine wp_region_lasts (fun w' => Below w.heap.size w w') (fun _ => false) (by kernel_rfl) ((Below.refl _ _).drew) (fun hHeld => ?_)
  refine tk_1 (v := ?_) (by kernel_rfl) (by kernel_rfl) (by kernel_rfl) (by kernel_rfl) (fun _ _ _ h => h) (Or.inl ⟨by kernel_rfl, ?_⟩) (by assumption) ?_
  rotate_left
  · (intro wS hSw; (try dsimp only at hSw); (go_simp); (all_goals (with_reducible rfl)))
  try go_frame
  refine tk_2 (v := ?_) (by kernel_rfl) (by kernel_rfl) (by kernel_rfl) (by kernel_rfl) (fun _ _ _ h => h) (Or.inl ⟨by kernel_rfl, ?_⟩) (by assumption) ?_
  rotate_left
  · (intro wS hSw; (try dsimp only at hSw); (refine exec_conv (u := x) (v := .string ⟨l.toArray⟩) _ _ (.tmp 4) ?_ ?_ (hconv _ hSw) <;> rfl); (all_goals (with_reducible rfl)))
  try go_frame
  refine dn_0 (by kernel_rfl) (fun K hK => ?_)
  rw [if_pos (by kernel_rfl)]
  go_simp; go_at_call 19; with_reducible refine (hash_BeginCrc _).mono ?_; rintro e w1 ⟨rfl, hb1⟩; go_simp
  refine hK.out _ _ (fun _ => by (try dsimp only); exact bl_on hHeld hb1) (fun hHeld => ?_)
  replace hHeld := hHeld rfl
  clear hK K
  try go_frame
  refine dn_3 (by kernel_rfl) (fun K hK => ?_)
  rw [if_pos (by kernel_rfl)]
  go_simp; go_at_call 20; with_reducible refine (hash_Add Crc.ones ⟨l.toArray⟩ (by rw [ba_size]; exact hb) 1099511627775 (by decide) _ (by exact hN.below hHeld)).mono ?_; rintro e w1 ⟨rfl, hb1⟩; go_simp
  refine hK.out _ _ (fun _ => by (try dsimp only); exact bl_on hHeld hb1) (fun hHeld => ?_)
  replace hHeld := hHeld rfl
  clear hK K
  try go_frame
  refine dn_4 (by kernel_rfl) (fun K hK => ?_)
  rw [if_pos (by kernel_rfl)]
  go_simp; go_at_call 22; with_reducible refine (hash_Value (Crc.run Crc.ones (Crc.bitsOf l)) _).mono ?_; rintro e w1 ⟨rfl, hb1⟩; go_simp
  refine hK.out _ _ (fun _ => by (try dsimp only); exact bl_on hHeld hb1) (fun hHeld => ?_)
  replace hHeld := hHeld rfl
  clear hK K
  try go_frame
  refine tk_5 (v := ?_) (by kernel_rfl) (by kernel_rfl) (by kernel_rfl) (by kernel_rfl) (fun _ _ _ h => h) (Or.inl ⟨by kernel_rfl, ?_⟩) (by assumption) ?_
  rotate_left
  · (intro wS hSw; (try dsimp only at hSw); (go_simp); (all_goals (with_reducible rfl)))
  try go_frame
  refine wpAnyT_done (by kernel_rfl) ?_ _
  refine NoPanic.normal ?_
  go_wp2_with fail
  go_ret
  exact ⟨rfl, hHeld⟩

namespace Crc
theorem bits8_snoc (v : V) (b j : Nat) (hj : j < 8) : run v ((bits8 b).take (j + 1)) = T (run v ((bits8 b).take j)) (b.testBit (7 - j)) := by
  have h : (bits8 b).take (j + 1) = (bits8 b).take j ++ [b.testBit (7 - j)] := by
    rcases j with _ | _ | _ | _ | _ | _ | _ | _ | j
    all_goals first | rfl | omega
  rw [h, run_append]; rfl
theorem run_byte_snoc (v : V) (l : List UInt8) (k : Nat) (x : UInt8) (hx : l[k]? = some x) : run (run v (bitsOf (l.take k))) (bits8 x.toNat) = run v (bitsOf (l.take (k + 1))) := by
  obtain ⟨hk, rfl⟩ := List.getElem?_eq_some_iff.1 hx
  rw [List.take_succ_eq_append_getElem hk, bitsOf_snoc, run_append]
end Crc

set_option maxHeartbeats 400000 in
theorem ref_Crc40 (l : List UInt8) (x : Value) (w : World) (hl : Sl w x 1 l.length (l.map bv)) :
    Calls Tryd.prog 17 #[x] w fun e w' => e = .returned (crcVal l) ∧ w = w' := by
  obtain ⟨A, c, rfl, hnc, hcm, hr⟩ := hl
  unfold maxLen at hcm
  go_enter Tryd.func17, Tryd.ntmps17
  go_wp2_with fail
  go_loop [3, 4] (fun u3 u4 => ∃ k : Nat, k ≤ l.length ∧ u4 = .int .i64 k ∧ u3 = .int .u64 (Crc.run Crc.ones (Crc.bitsOf (l.take k))).toNat) (fun _ u4 => l.length - (intOf u4).toNat)
  case atStart => exact ⟨0, Nat.zero_le _, rfl, rfl⟩
  case round =>
    obtain ⟨k, hk, rfl, rfl⟩ := hrel
    by_cases hlt : k < l.length
    · obtain ⟨ad, x, rfl, hab, hx, hc⟩ := hr.elem hlt rfl
      have HX := Lib.hid hx
      unfold bv at hc
      clear hx
      have hx256 := x.toNat_lt
      generalize hbx : x.toNat = b at *
      have HB := Lib.hid hbx
      clear hbx
      generalize hv : Crc.run Crc.ones (Crc.bitsOf (l.take k)) = v at *
      have HV := Lib.hid hv
      clear hv
      go_wp2_with fail
      go_loop [3, 5] (fun u3 u5 => ∃ j : Nat, j ≤ 8 ∧ u5 = .int .i64 j ∧ u3 = .int .u64 (Crc.run v ((Crc.bits8 b).take j)).toNat) (fun _ u5 => 8 - (intOf u5).toNat)
      case atStart => exact ⟨0, by omega, rfl, rfl⟩
      case round =>
        obtain ⟨j, hj, rfl, rfl⟩ := hrel
        by_cases hj8 : j < 8
        · have hbit := bit_of b (7 - j) (by omega)
          have HBit := Lib.hid hbit
          clear hbit
          have HS := Lib.hid (Crc.bits8_snoc v b j hj8)
          go_wp2_with fail
          with_reducible refine (ref_step (Crc.run v ((Crc.bits8 b).take j)) (b.testBit (7 - j)) _ _ rfl HBit.out _).mono ?_
          rintro e w' ⟨rfl, rfl⟩
          rw [← HS.out]
          go_wp2_with fail
          go_round
          case rel => exact ⟨j + 1, by omega, by go_num, rfl⟩
          case measure => go_light; simp [intOf]; omega
        · obtain rfl : j = 8 := by omega
          go_wp2_with fail
          go_round
          case rel => exact ⟨k + 1, by omega, by go_num, by rw [← HV.out, ← HB.out]; exact congrArg (fun v : Crc.V => Value.int .u64 (v.toNat : Int)) (Crc.run_byte_snoc _ _ _ _ HX.out)⟩
          case measure => go_light; simp [intOf]; omega
    · obtain rfl : k = l.length := by omega
      have hx : bits .xor .u64 ((Crc.run Crc.ones (Crc.bitsOf (l.take l.length))).toNat : Int) 1099511627775 = ((Crc.run Crc.ones (Crc.bitsOf (l.take l.length)) ^^^ Crc.ones).toNat : Int) := r40_xor _ Crc.ones
      have hlt2 := (Crc.run Crc.ones (Crc.bitsOf (l.take l.length)) ^^^ Crc.ones).isLt
      have hz : Value.int .i64 ((Crc.run Crc.ones (Crc.bitsOf (l.take l.length)) ^^^ Crc.ones).toNat : Int) = crcVal l := by rw [List.take_of_length_le (Nat.le_refl _)]; rfl
      generalize (Crc.run Crc.ones (Crc.bitsOf (l.take l.length)) ^^^ Crc.ones).toNat = z at *
      generalize (Crc.run Crc.ones (Crc.bitsOf (l.take l.length))).toNat = y at *
      have HZ := Lib.hid hz
      clear hz
      go_wp2_with fail
      go_ret
      exact ⟨congrArg Ending.returned HZ.out, rfl⟩
end Go.Proofs.YtafehbnnoncieaaDoor
