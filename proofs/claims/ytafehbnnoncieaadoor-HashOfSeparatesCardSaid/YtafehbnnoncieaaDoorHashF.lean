/-
  The hash of 256 bits: rotations and the schedule. Conditions: none.
-/
import Derived.Test.YtafehbnnoncieaaDoorArr
import Derived.Test.YtafehbnnoncieaaDoorShaP
import Derived.Test.YtafehbnnoncieaaDoorBits
import Derived.Test.YtafehbnnoncieaaDoorDrawn
import Derived.Deep.OwnRows
import Derived.Deep.Light
import Derived.Test.YtafehbnnoncieaaDoorProg
namespace Go.Proofs.YtafehbnnoncieaaDoor
open Go.RowKit
abbrev wv (x : Sha.W) : Value := .int .u32 (x.toNat : Int)
theorem rot_count (j : Nat) (h0 : 0 < j) (hj : j < 32) : bits .and .u64 (IntKind.u64.wrap (-(j : Int))) 31 = ((32 - j : Nat) : Int) := by
  rw [IntKind.wrap_u64, show (-(j : Int)) % 18446744073709551616 = ((18446744073709551616 - j : Nat) : Int) from by omega, show (31 : Int) = ((31 : Nat) : Int) from rfl, u64_and_nat _ _ (by omega) (by omega)]
  congr 1
  have := Nat.and_two_pow_sub_one_eq_mod (18446744073709551616 - j) 5
  rw [show (31 : Nat) = 2 ^ 5 - 1 from rfl, this]
  omega
theorem rot_val (x : Sha.W) (j : Nat) (hj : j ≤ 32) : bits .or .u32 ((x.toNat : Int) * 2 ^ (32 - j) % 4294967296) ((x.toNat : Int) / 2 ^ (32 - (32 - j))) = ((Sha.rotr x j).toNat : Int) := by
  rw [← IntKind.wrap_u32, u32_shl, u32_shr, u32_or, show 32 - (32 - j) = j from by omega]
  unfold Sha.rotr
  rw [BitVec.or_comm]

set_option maxHeartbeats 400000 in
theorem RotateLeft32 (x : Sha.W) (k y : Int) (j : Nat) (hk : k = -(j : Int)) (hy : y = x.toNat) (h0 : 0 < j) (hj : j < 32) (w : World) :
    Calls Tryd.prog 55 #[.int .u32 y, .int .i64 k] w fun e w' => e = .returned (wv (Sha.rotr x j)) ∧ w = w' := by
  subst hk; subst hy
  have hc := rot_count j h0 hj
  have hv := Lib.hid (rot_val x j (by omega))
  have hlt := x.isLt
  obtain ⟨c, hcj⟩ : ∃ c, c = 32 - j := ⟨_, rfl⟩
  rw [← hcj] at hc hv
  have hc1 : 0 < c := by omega
  have hc2 : c < 32 := by omega
  clear hcj
  go_enter Tryd.func55, Tryd.ntmps55
  go_wp2_with fail
  go_ret
  exact ⟨congrArg (fun z => Ending.returned (.int .u32 z)) hv.out, rfl⟩

set_option maxHeartbeats 400000 in
theorem hash_mix (x : Sha.W) (y ki kj kk : Int) (i j k : Nat) (hy : y = x.toNat) (hi : ki = i) (hj : kj = j) (hk : kk = k) (bi : 0 < i ∧ i < 32) (bj : 0 < j ∧ j < 32) (bk : 0 < k ∧ k < 32) (w : World) :
    Calls Tryd.prog 52 #[.int .u32 y, .int .i64 ki, .int .i64 kj, .int .i64 kk] w fun e w' => e = .returned (wv (Sha.mix x i j k)) ∧ w = w' := by
  subst hi; subst hj; subst hk; subst hy
  go_enter Tryd.func52, Tryd.ntmps52
  go_wp2_with fail
  with_reducible refine (RotateLeft32 x (-(i : Int)) _ i rfl rfl bi.1 bi.2 _).mono ?_
  rintro e w' ⟨rfl, rfl⟩
  go_wp2_with fail
  with_reducible refine (RotateLeft32 x (-(j : Int)) _ j rfl rfl bj.1 bj.2 _).mono ?_
  rintro e w' ⟨rfl, rfl⟩
  go_wp2_with fail
  with_reducible refine (RotateLeft32 x (-(k : Int)) _ k rfl rfl bk.1 bk.2 _).mono ?_
  rintro e w' ⟨rfl, rfl⟩
  go_wp2_with fail
  go_ret
  exact ⟨by rw [u32_xor, u32_xor]; rfl, rfl⟩
end Go.Proofs.YtafehbnnoncieaaDoor
