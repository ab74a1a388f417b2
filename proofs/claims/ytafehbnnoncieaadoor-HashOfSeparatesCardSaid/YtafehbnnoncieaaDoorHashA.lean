/-
  The check of 40 bits: the steps of the program's register and of the specification's. Conditions: none.
-/
import Derived.Test.YtafehbnnoncieaaDoorBase3
import Derived.Test.YtafehbnnoncieaaDoorCrcP
import Derived.Test.YtafehbnnoncieaaDoorBits
import Derived.Test.YtafehbnnoncieaaDoorProg
import Derived.RegionTactic
import Derived.ChangeAlike
namespace Go.Proofs.YtafehbnnoncieaaDoor
open Go.RowKit

def nibTab : List Int := [0, 75628553, 151257106, 226885659, 302514212, 378142765, 453771318, 529399871, 605028424, 546439233, 756285530, 697696339, 907542636, 848953445, 1058799742, 1000210551]
/-- The table of the products lies where the program's start has laid it. -/
def Nibs (w : World) : Prop := 1 < w.heap.size ∧ ∀ i : Nat, i < 16 → w.cell? ⟨1, i, none⟩ = some (.int .u64 (nibTab.getD i 0))
theorem Nibs.below {w w' : World} (h : Nibs w) (hb : Below w.heap.size w w') : Nibs w' :=
  ⟨Nat.lt_of_lt_of_le h.1 hb.size, fun i hi => (hb.cell (p := ⟨1, i, none⟩) h.1).trans (h.2 i hi)⟩
theorem Nibs.alloc {w : World} (h : Nibs w) (o : Obj) : Nibs (w.alloc o) := h.below ((Below.refl _ _).alloc (Nat.le_refl _) o)

namespace Crc
theorem step_test (v : V) (b : Bool) {r x : Int} (hr : r = v.toNat) (hx : x = if b then 1 else 0) : bits .xor .u64 (bits .and .u64 (r / 549755813888) 1) x = if (v.getLsbD 39 ^^ b) then 1 else 0 := by
  subst hr; subst hx
  rw [r40_top, xor01]
theorem step_next (v : V) {r : Int} (hr : r = v.toNat) : bits .and .u64 (r * 2) 1099511627775 = ((v <<< 1).toNat : Int) := by
  subst hr
  exact r40_shl' v 1 (by omega)
theorem T_of (v : V) (b : Bool) : T v b = if (v.getLsbD 39 ^^ b) then (v <<< 1) ^^^ poly else v <<< 1 := by
  unfold T S
  cases v.getLsbD 39 <;> cases b <;> simp
  rw [BitVec.xor_assoc, BitVec.xor_self, BitVec.xor_zero]
theorem xor_poly (v : V) : bits .xor .u64 (v.toNat : Int) 75628553 = ((v ^^^ poly).toNat : Int) := r40_xor v poly
end Crc

set_option maxHeartbeats 400000 in
theorem ref_step (v : Crc.V) (b : Bool) (r x : Int) (hr : r = v.toNat) (hx : x = if b then 1 else 0) (w : World) :
    Calls Tryd.prog 40 #[.int .u64 r, .int .u64 x] w fun e w' => e = .returned (.int .u64 (Crc.T v b).toNat) ∧ w = w' := by
  have ht := Crc.step_test v b hr hx
  have hn := Crc.step_next v hr
  have hT := Crc.T_of v b
  have hb : 0 ≤ r ∧ r < 1099511627776 := by have := v.isLt; omega
  obtain ⟨hb1, hb2⟩ := hb
  clear hr hx
  have HN := Lib.hid hn
  clear hn
  cases hc : (v.getLsbD 39 ^^ b)
  · rw [hc, if_neg (by simp)] at ht hT
    have HT := Lib.hid hT
    have ht' : (bits .xor .u64 (bits .and .u64 (r / 549755813888) 1) x == 1) = false := by rw [ht]; rfl
    clear hT hc ht
    go_enter Tryd.func40, Tryd.ntmps40
    go_wp2_with fail
    go_ret
    rw [HT.out, HN.out]
    exact ⟨rfl, rfl⟩
  · rw [hc, if_pos rfl] at ht hT
    have HT := Lib.hid hT
    have ht' : (bits .xor .u64 (bits .and .u64 (r / 549755813888) 1) x == 1) = true := by rw [ht]; rfl
    clear hT hc ht
    go_enter Tryd.func40, Tryd.ntmps40
    go_wp2_with fail
    go_ret
    rw [HT.out, HN.out, Crc.xor_poly]
    exact ⟨rfl, rfl⟩

set_option maxHeartbeats 400000 in
theorem hash_BeginCrc (w : World) :
    Calls Tryd.prog 19 #[] w fun e w' => e = .returned (.agg #[.int .u64 1099511627775]) ∧ Below w.heap.size w w' := by
  go_enter Tryd.func19, Tryd.ntmps19
  go_wp2
  exact bodyPost_ret (v := .agg #[.int .u64 1099511627775]) (by simp [results, Tryd.results19, go_sem]) rfl ⟨rfl, (Below.refl _ _).alloc (Nat.le_refl _) _⟩

set_option maxHeartbeats 400000 in
theorem hash_Value (v : Crc.V) (w : World) :
    Calls Tryd.prog 22 #[.agg #[.int .u64 v.toNat]] w fun e w' => e = .returned (.int .i64 (v ^^^ Crc.ones).toNat) ∧ Below w.heap.size w w' := by
  have hx : bits .xor .u64 (v.toNat : Int) 1099511627775 = ((v ^^^ Crc.ones).toNat : Int) := r40_xor v Crc.ones
  have hlt := (v ^^^ Crc.ones).isLt
  generalize (v ^^^ Crc.ones).toNat = z at *
  go_enter Tryd.func22, Tryd.ntmps22
  go_wp2
  go_ret
  exact ⟨rfl, (Below.refl _ _).alloc (Nat.le_refl _) _⟩

namespace Crc
def sel (c : Bool) (v : V) : V := if c then v else 0#40
theorem T_sel (v : V) (b : Bool) : T v b = (v <<< 1) ^^^ sel (v.getLsbD 39 ^^ b) poly := by
  rw [T_of]
  cases (v.getLsbD 39 ^^ b) <;> simp [sel]
theorem sel_shl (c : Bool) (v : V) (k : Nat) : (sel c v) <<< k = sel c (v <<< k) := by cases c <;> simp [sel]
theorem sel_get (c : Bool) (v : V) (i : Nat) (h : v.getLsbD i = false) : (sel c v).getLsbD i = false := by cases c <;> simp [sel, h]
theorem run4 (v : V) (n : Nat) : run v (bits4 n) = (v <<< 4) ^^^ sel (v.getLsbD 39 ^^ n.testBit 3) (poly <<< 3) ^^^ sel (v.getLsbD 38 ^^ n.testBit 2) (poly <<< 2) ^^^ sel (v.getLsbD 37 ^^ n.testBit 1) (poly <<< 1) ^^^ sel (v.getLsbD 36 ^^ n.testBit 0) poly := by
  show T (T (T (T v (n.testBit 3)) (n.testBit 2)) (n.testBit 1)) (n.testBit 0) = _
  generalize h3 : n.testBit 3 = b3
  generalize h2 : n.testBit 2 = b2
  generalize h1 : n.testBit 1 = b1
  generalize h0 : n.testBit 0 = b0
  rw [T_sel v b3, T_sel _ b2]
  have e2 : ((v <<< 1) ^^^ sel (v.getLsbD 39 ^^ b3) poly).getLsbD 39 = v.getLsbD 38 := by
    rw [BitVec.getLsbD_xor, sel_get _ _ _ (by decide), BitVec.getLsbD_shiftLeft]; simp
  rw [e2, T_sel _ b1]
  have e1 : (((v <<< 1) ^^^ sel (v.getLsbD 39 ^^ b3) poly) <<< 1 ^^^ sel (v.getLsbD 38 ^^ b2) poly).getLsbD 39 = v.getLsbD 37 := by
    rw [BitVec.shiftLeft_xor_distrib, sel_shl, BitVec.getLsbD_xor, BitVec.getLsbD_xor, sel_get _ _ _ (by decide), sel_get _ _ _ (by decide), BitVec.getLsbD_shiftLeft, BitVec.getLsbD_shiftLeft]; simp
  rw [e1, T_sel _ b0]
  have e0 : ((((v <<< 1) ^^^ sel (v.getLsbD 39 ^^ b3) poly) <<< 1 ^^^ sel (v.getLsbD 38 ^^ b2) poly) <<< 1 ^^^ sel (v.getLsbD 37 ^^ b1) poly).getLsbD 39 = v.getLsbD 36 := by
    simp only [BitVec.shiftLeft_xor_distrib, sel_shl, BitVec.getLsbD_xor]
    rw [sel_get _ _ _ (by decide), sel_get _ _ _ (by decide), sel_get _ _ _ (by decide), BitVec.getLsbD_shiftLeft, BitVec.getLsbD_shiftLeft, BitVec.getLsbD_shiftLeft]; simp
  rw [e0]
  simp only [BitVec.shiftLeft_xor_distrib, sel_shl]
  simp only [← BitVec.shiftLeft_add]
theorem nib_at : ∀ k : Nat, k < 16 → nibTab.getD k 0 = ((sel (k.testBit 3) (poly <<< 3) ^^^ sel (k.testBit 2) (poly <<< 2) ^^^ sel (k.testBit 1) (poly <<< 1) ^^^ sel (k.testBit 0) poly).toNat : Int) := by decide
/-- The number of the product that is added. -/
def nibIdx (v : V) (n : Nat) : Nat := ((v.toNat / 68719476736) ^^^ n) % 16
theorem nibIdx_bit (v : V) (n i : Nat) (hi : i < 4) : (nibIdx v n).testBit i = (v.getLsbD (36 + i) ^^ n.testBit i) := by
  unfold nibIdx
  rw [show (16 : Nat) = 2 ^ 4 from rfl, Nat.testBit_mod_two_pow, Nat.testBit_xor, show (68719476736 : Nat) = 2 ^ 36 from rfl, Nat.testBit_div_two_pow, BitVec.getLsbD]
  simp [hi, Nat.add_comm]
theorem nib_idx (v : V) (n : Nat) (hn : n < 256) : bits .and .u8 (bits .xor .u8 ((v.toNat : Int) / 68719476736) (n : Int)) 15 = (nibIdx v n : Int) := by
  have h1 := v.isLt
  have h2 : v.toNat / 68719476736 < 16 := by omega
  have h3 : (v.toNat / 68719476736) ^^^ n < 2 ^ 8 := Nat.xor_lt_two_pow (by omega) (by omega)
  rw [show ((v.toNat : Int) / 68719476736) = ((v.toNat / 68719476736 : Nat) : Int) from by omega, u8_xor_nat _ _ (by omega) (by omega), show (15 : Int) = ((15 : Nat) : Int) from rfl, u8_and_nat _ _ (by omega) (by omega)]
  congr 1
  exact Nat.and_two_pow_sub_one_eq_mod _ 4
theorem nib_result (v : V) (n : Nat) : bits .xor .u64 ((v <<< 4).toNat : Int) (nibTab.getD (nibIdx v n) 0) = ((run v (bits4 n)).toNat : Int) := by
  rw [nib_at _ (by unfold nibIdx; omega), r40_xor, run4, nibIdx_bit v n 3 (by omega), nibIdx_bit v n 2 (by omega), nibIdx_bit v n 1 (by omega), nibIdx_bit v n 0 (by omega)]
  simp only [BitVec.xor_assoc]
end Crc

set_option maxHeartbeats 400000 in
theorem hash_nibble_nat (v : Crc.V) (n : Nat) (hn : n < 256) (w : World) (hN : Nibs w) :
    Calls Tryd.prog 41 #[.agg #[.int .u64 v.toNat], .int .u8 n] w fun e w' => e = .returned (.agg #[.int .u64 (Crc.run v (Crc.bits4 n)).toNat]) ∧ Below w.heap.size w w' := by
  have hlt := v.isLt
  have hi := Crc.nib_idx v n hn
  have hk : Crc.nibIdx v n < 16 := by unfold Crc.nibIdx; omega
  have hs := Crc.nib_result v n
  have hg := hN.1
  have hc := hN.2 _ hk
  have hm := r40_shl' v 4 (by omega)
  generalize hz : nibTab.getD (Crc.nibIdx v n) 0 = z at *
  generalize Crc.nibIdx v n = k at *
  generalize v.toNat = r at *
  have HS := Lib.hid hs
  have HM := Lib.hid hm
  have hca : ∀ o1 o2, ((w.alloc o1).alloc o2).cell? ⟨1, k, none⟩ = some (.int .u64 z) := fun o1 o2 => by
    rw [World.cell?_alloc_lt _ _ _ (by simp; omega), World.cell?_alloc_lt _ _ _ (by simp; omega)]; exact hc
  clear hs hz hN hm hc
  have hk' : (0 : Int) ≤ (k : Int) ∧ (k : Int) < 16 := by omega
  obtain ⟨hk1, hk2⟩ := hk'
  go_enter Tryd.func41, Tryd.ntmps41
  go_wp2_with fail
  go_region
  all_goals
    go_wp2_with fail
    rw [show ((r : Int) * 16) = (r : Int) * 2 ^ 4 from rfl, HM.out, HS.out]
    exact bodyPost_ret (v := .agg #[.int .u64 (Crc.run v (Crc.bits4 n)).toNat]) (by simp [results, Tryd.results41, go_sem]) rfl ⟨rfl, ((((Below.refl _ _).alloc (Nat.le_refl _) _).alloc (by simp) _).drew)⟩
theorem hash_nibble (v : Crc.V) (n r : Int) (hr : r = v.toNat) (h0 : 0 ≤ n) (hn : n < 256) (w : World) (hN : Nibs w) :
    Calls Tryd.prog 41 #[.agg #[.int .u64 r], .int .u8 n] w fun e w' => e = .returned (.agg #[.int .u64 (Crc.run v (Crc.bits4 n.toNat)).toNat]) ∧ Below w.heap.size w w' := by
  subst hr
  obtain ⟨m, rfl⟩ := Int.eq_ofNat_of_zero_le h0
  exact hash_nibble_nat v m (by omega) w hN
end Go.Proofs.YtafehbnnoncieaaDoor
