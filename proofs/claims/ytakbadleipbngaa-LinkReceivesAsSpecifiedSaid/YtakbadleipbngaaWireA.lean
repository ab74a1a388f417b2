/-
  The encoding of integers, as lists of bytes. Conditions: none.
-/
import Derived.Test.YtakbadleipbngaaBase
import Derived.Test.YtakbadleipbngaaRows
set_option linter.all false
namespace Go.Proofs.Ytakbadleipbngaa
open Go.RowKit

/-! ### Plain -/
def enc (z : Nat) : List UInt8 :=
  if z < 128 then [UInt8.ofNat z] else UInt8.ofNat (z % 128 + 128) :: enc (z / 128)
termination_by z
decreasing_by omega
theorem enc_small {z : Nat} (h : z < 128) : enc z = [UInt8.ofNat z] := by rw [enc, if_pos h]
theorem enc_big {z : Nat} (h : ¬ z < 128) : enc z = UInt8.ofNat (z % 128 + 128) :: enc (z / 128) := by rw [enc, if_neg h]

/-- The natural number that is encoded for an integer. -/
def zig (n : Int) : Nat := if n < 0 then ((-1 - n) * 2 + 1).toNat else (n * 2).toNat
def encInt (n : Int) : List UInt8 := enc (zig n)

theorem zig_lt (n : Int) (h1 : -9223372036854775808 ≤ n) (h2 : n ≤ 9223372036854775807) : zig n < 18446744073709551616 := by
  unfold zig; split <;> omega

theorem enc_length_pos (z : Nat) : 0 < (enc z).length := by
  by_cases h : z < 128
  · rw [enc_small h]; simp
  · rw [enc_big h]; simp
theorem enc_length_le (k : Nat) : ∀ z : Nat, z < 128 ^ k → (enc z).length ≤ max k 1 := by
  induction k with
  | zero => intro z h; have : z = 0 := by simpa using h
            subst this; rw [enc_small (by omega)]; simp
  | succ k ih =>
    intro z h
    by_cases hz : z < 128
    · rw [enc_small hz]; simp only [List.length_cons, List.length_nil]; omega
    · rw [enc_big hz]
      have := ih (z / 128) (by rw [Nat.pow_succ] at h; exact Nat.div_lt_of_lt_mul (by omega))
      by_cases hk : k = 0
      · subst hk; simp at h; omega
      · simp only [List.length_cons]; omega
theorem enc_length_10 (z : Nat) (h : z < 18446744073709551616) : (enc z).length ≤ 10 := by
  have := enc_length_le 10 z (by omega)
  omega

def iv (n : Int) : Value := .int .i64 n
def I64 (n : Int) : Prop := -9223372036854775808 ≤ n ∧ n ≤ 9223372036854775807
theorem elBytes : El Try.prog 58 5 (.int .u8 0) 1 1 := ⟨Try.underlying58, info_parts (by kernel_rfl), rfl, by decide⟩

theorem xor_all (a : Nat) (h : a < 18446744073709551616) : a ^^^ 18446744073709551615 = 18446744073709551615 - a := by
  have e : (BitVec.ofNat 64 a ^^^ BitVec.allOnes 64).toNat = (~~~ (BitVec.ofNat 64 a)).toNat := by rw [BitVec.xor_allOnes]
  rw [BitVec.toNat_xor, BitVec.toNat_not, BitVec.toNat_allOnes, BitVec.toNat_ofNat, Nat.mod_eq_of_lt (by omega)] at e
  simpa using e
theorem xor_zig (n : Int) (h1 : -9223372036854775808 ≤ n) (h2 : n ≤ 9223372036854775807) :
    bits BinOp.xor IntKind.u64 (IntKind.u64.wrap (IntKind.u64.wrap n * 2)) (IntKind.u64.wrap (n / 9223372036854775808)) = (zig n : Int) := by
  by_cases hn : n < 0
  · obtain ⟨a, ha⟩ : ∃ a : Nat, IntKind.u64.wrap (IntKind.u64.wrap n * 2) = (a : Int) ∧ a < 18446744073709551616 ∧ 18446744073709551615 - a = zig n := by
      refine ⟨((n + 9223372036854775808) * 2).toNat, ?_, by omega, ?_⟩
      · rw [IntKind.wrap_u64, IntKind.wrap_u64]; omega
      · unfold zig; rw [if_pos hn]; omega
    have hb : IntKind.u64.wrap (n / 9223372036854775808) = ((18446744073709551615 : Nat) : Int) := by rw [IntKind.wrap_u64]; omega
    rw [ha.1, hb, u64_xor_nat a _ ha.2.1 (by omega), xor_all a ha.2.1, ha.2.2]
  · obtain ⟨a, ha⟩ : ∃ a : Nat, IntKind.u64.wrap (IntKind.u64.wrap n * 2) = (a : Int) ∧ a < 18446744073709551616 ∧ a = zig n := by
      refine ⟨(n * 2).toNat, ?_, by omega, ?_⟩
      · rw [IntKind.wrap_u64, IntKind.wrap_u64]; omega
      · unfold zig; rw [if_neg hn]
    have hb : IntKind.u64.wrap (n / 9223372036854775808) = ((0 : Nat) : Int) := by rw [IntKind.wrap_u64]; omega
    rw [ha.1, hb, u64_xor_nat a _ ha.2.1 (by omega), Nat.xor_zero, ha.2.2]

theorem or128 (z : Nat) : bits BinOp.or IntKind.u8 ((z : Int) % 256) 128 = ((z % 128 + 128 : Nat) : Int) := by
  rw [show ((z : Int) % 256) = ((z % 256 : Nat) : Int) from by omega, show (128 : Int) = ((128 : Nat) : Int) from rfl, u8_or_nat _ _ (by omega) (by omega)]
  congr 1
  have h : z % 256 = z % 128 ∨ z % 256 = z % 128 + 128 := by omega
  have hlt : z % 128 < 2 ^ 7 := by omega
  rcases h with h | h
  · rw [h, Nat.or_comm, nat_join 7 128 (z % 128) (by decide) hlt]; omega
  · rw [h, Nat.add_comm (z % 128) 128, ← nat_join 7 128 (z % 128) (by decide) hlt, Nat.or_assoc, Nat.or_comm (z % 128) 128, ← Nat.or_assoc, Nat.or_self]

/-- What an encoder leaves: a row of its own that holds the bytes l; all that was there is as it was. -/
def Made (l : List UInt8) (w : World) (e : Ending) (w' : World) : Prop :=
  ∃ v, e = .returned v ∧ w'.ownsRow w.heap.size 5 1 v l.length (l.map bv) ∧ Below w.heap.size w w'

theorem enc_step {l : List UInt8} {z : Nat} (hz : ¬ z < 128) (n : Int) (h : l ++ enc z = encInt n) : (l ++ [UInt8.ofNat (z % 128 + 128)]) ++ enc (z / 128) = encInt n := by
  rw [← h, enc_big hz]; simp
theorem enc_last {l : List UInt8} {z : Nat} (hz : z < 128) (n : Int) (h : l ++ enc z = encInt n) : l ++ [UInt8.ofNat z] = encInt n := by
  rw [← h, enc_small hz]
theorem enc_short {l : List UInt8} {z : Nat} (n : Int) (h1 : -9223372036854775808 ≤ n) (h2 : n ≤ 9223372036854775807) (h : l ++ enc z = encInt n) : l.length + 1 ≤ 10 := by
  have := enc_length_10 (zig n) (zig_lt n h1 h2)
  have h' := congrArg List.length h
  have := enc_length_pos z
  simp only [encInt, List.length_append] at h'
  omega
theorem own_snoc {w : World} {base : Nat} {v : Value} {l : List UInt8} {k : Int} {u : UInt8} (hk : Value.int .u8 k = bv u) (h : w.ownsRow base 5 1 v (l.length + 1) (l.map bv ++ [.int .u8 k])) :
    w.ownsRow base 5 1 v (l ++ [u]).length ((l ++ [u]).map bv) := by
  rw [hk] at h; simpa using h

/-- The relation of both encoders' loops. -/
def EncRel (n : Int) (w : World) (u3 u4 : Value) (wr : World) : Prop :=
  ∃ (z : Nat) (l : List UInt8), u3 = .int .u64 z ∧ z < 18446744073709551616 ∧ l ++ enc z = encInt n ∧ wr.ownsRow w.heap.size 5 1 u4 l.length (l.map bv) ∧ Below w.heap.size w wr

set_option maxHeartbeats 400000 in
theorem wire_Int (n : Int) (w : World) (h1 : -9223372036854775808 ≤ n) (h2 : n ≤ 9223372036854775807) :
    Calls Try.prog 45 #[.int .i64 n] w (Made (encInt n) w) := by
  go_enter Try.func45, Try.ntmps45
  go_wp2
  rw [xor_zig n h1 h2]
  go_loopw [3, 4] (EncRel n w) (fun u3 _ _ => (intOf u3).toNat)
  case atStart => exact ⟨zig n, [], rfl, zig_lt n h1 h2, rfl, World.ownsRow_nil _ _ _ _, Below.refl _ _⟩
  case round =>
    obtain ⟨z, l, rfl, hz, hl, hown, hb⟩ := hrel
    have hsh := enc_short n h1 h2 hl
    have H := Lib.hid hl
    clear hl
    by_cases hlt : z < 128
    · go_wp2_with (at_builtin; refine wpList_append_one _ rfl _ _ _ rfl elBytes w.heap.size _ _ _ rfl hown _ rfl rfl (by omega) (by omega) hb.size w w.heap.size hb (Nat.le_refl _) ?_)
      intro v' w' hown' hb'
      go_wp2
      go_ret
      refine ⟨v', rfl, ?_, hb'⟩
      have := own_snoc (u := UInt8.ofNat z) (by rw [bv_ofNat z (by omega)]) hown'
      rw [← enc_last hlt n H.out]
      exact this
    · go_wp2_with (at_builtin; refine wpList_append_one _ rfl _ _ _ rfl elBytes w.heap.size _ _ _ rfl hown _ rfl rfl (by omega) (by omega) hb.size w w.heap.size hb (Nat.le_refl _) ?_)
      intro v' w' hown' hb'
      have hown2 := own_snoc (u := UInt8.ofNat (z % 128 + 128)) (by rw [or128, bv_ofNat _ (by omega)]) hown'
      clear hown' hown
      go_wp2
      go_roundw
      case rel => exact ⟨z / 128, _, by go_num, by omega, enc_step hlt n H.out, hown2, hb'⟩
      case measure => simp [intOf]; omega
end Go.Proofs.Ytakbadleipbngaa
