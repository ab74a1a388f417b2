/-
  The check of a list of words of 40 bits. Conditions: none.
-/
import Derived.Test.YtafehbnnoncieaaDoorHashQ
namespace Go.Proofs.YtafehbnnoncieaaDoor
open Go.RowKit
theorem i64_and_mask (m : Int) (k : Nat) (hk : k ≤ 62) : bits .and .i64 m ((2 : Int) ^ k - 1) = m % 2 ^ k := by
  have hp : 0 < 2 ^ k := Nat.pow_pos (by omega)
  have hp2 : 2 ^ k ≤ 2 ^ 62 := Nat.pow_le_pow_right (by omega) hk
  have e1 : ((2 : Int) ^ k - 1) = ((2 ^ k - 1 : Nat) : Int) := by
    rw [Int.natCast_sub (by omega)]; simp
  have e2 : (BitVec.ofInt 64 ((2 ^ k - 1 : Nat) : Int)).toNat = 2 ^ k - 1 := by
    rw [BitVec.ofInt_natCast, BitVec.toNat_ofNat]; exact Nat.mod_eq_of_lt (by omega)
  rw [e1]
  show IntKind.i64.wrap ((BitVec.ofInt 64 m &&& BitVec.ofInt 64 ((2 ^ k - 1 : Nat) : Int)).toNat : Int) = _
  rw [BitVec.toNat_and, e2, Nat.and_two_pow_sub_one_eq_mod, BitVec.toNat_ofInt, IntKind.wrap_i64]
  have e3 : (((m % ((2 ^ 64 : Nat) : Int)).toNat % 2 ^ k : Nat) : Int) = m % 2 ^ k := by
    rw [Int.natCast_emod, Int.toNat_of_nonneg (Int.emod_nonneg _ (by decide))]
    have hd : ((2 : Int) ^ k) ∣ ((2 ^ 64 : Nat) : Int) := by
      refine ⟨2 ^ (64 - k), ?_⟩
      rw [← Int.pow_add, show k + (64 - k) = 64 by omega]; simp
    have := Int.emod_emod_of_dvd m hd
    simpa using this
  rw [e3]
  have h1 := Int.emod_nonneg m (show (2 : Int) ^ k ≠ 0 by have : (0 : Int) < 2 ^ k := Int.pow_pos (by decide); omega)
  have h2 := Int.emod_lt_of_pos m (show (0 : Int) < 2 ^ k from Int.pow_pos (by decide))
  have h3 : (2 : Int) ^ k ≤ 2 ^ 62 := by exact_mod_cast hp2
  omega
theorem nib_val (n : Int) (j sh : Nat) (hs : sh = 36 - 4 * j) : IntKind.u8.wrap (bits .and .i64 (n / 2 ^ sh) 15) = (Crc.nibAt n j : Int) := by
  subst hs
  have h := i64_and_mask (n / 2 ^ (36 - 4 * j)) 4 (by omega)
  rw [show ((2 : Int) ^ 4 - 1) = 15 from rfl] at h
  rw [h, IntKind.wrap_u8]
  unfold Crc.nibAt
  omega

set_option maxHeartbeats 1000000 in
set_option maxRecDepth 100000 in
theorem hash_Words (l : List Int) (x : Value) (w : World) (hl : Sl w x 1 l.length (l.map iv)) (hg : ∀ n ∈ l, I64 n) (hN : Nibs w) :
    Calls Tryd.prog 23 #[x] w fun e w' => e = .returned (crcVal (Crc.words l)) ∧ Below w.heap.size w w' := by
  obtain ⟨A, c, rfl, hnc, hcm, hr⟩ := hl
  unfold maxLen at hcm
  go_enter Tryd.func23, Tryd.ntmps23
  go_wp2_with fail
  refine (hash_BeginCrc _).mono ?_
  rintro e w1 ⟨rfl, hb1⟩
  go_wp2_with fail
  have hrow0 : (w1.alloc (.cells #[.int .u64 1099511627775] 30)).rowIs w1.heap.size 30 1 (fun _ => .int .u64 (Crc.run Crc.ones (Crc.bitsOf (Crc.words (l.take 0)))).toNat) :=
    row_new w1 _ _ 1 _ rfl (fun i hi => by
      obtain rfl : i = 0 := by omega
      rfl)
  have hB0 := hb1.alloc hb1.size (.cells #[.int .u64 1099511627775] 30)
  have hgs := hb1.size
  generalize w1.alloc (.cells #[.int .u64 1099511627775] 30) = w2 at *
  generalize w1.heap.size = g at *
  go_loopw [10] (fun u10 wr => ∃ k : Nat, k ≤ l.length ∧ u10 = .int .i64 k ∧ wr.rowIs g 30 1 (fun _ => .int .u64 (Crc.run Crc.ones (Crc.bitsOf (Crc.words (l.take k)))).toNat) ∧ Below w.heap.size w wr) (fun u10 _ => l.length - (intOf u10).toNat)
  case atStart => exact ⟨0, Nat.zero_le _, rfl, hrow0, hB0⟩
  case round =>
    clear hrow0 hB0 hb1
    obtain ⟨k, hk, rfl, hrow, hB⟩ := hrel
    by_cases hlt : k < l.length
    · obtain ⟨ad, n, rfl, hab, hx, hc⟩ := (hr.below hB).elem hlt rfl
      obtain ⟨g1, g2⟩ := hg n (List.mem_of_getElem? hx)
      have HW := Lib.hid (Crc.words_snoc Crc.ones l k n hx)
      unfold iv at hc
      generalize hv : Crc.run Crc.ones (Crc.bitsOf (Crc.words (l.take k))) = v at *
      have HV := Lib.hid hv
      clear hv hx hg
      go_wp2_with fail
      obtain ⟨wo, hwo⟩ : ∃ wo : World, wo = wr := ⟨_, rfl⟩
      go_loopw [6] (fun u6 wr => ∃ j : Nat, j ≤ 10 ∧ u6 = .int .i64 (36 - 4 * (j : Int)) ∧ wr.rowIs g 30 1 (fun _ => .int .u64 (Crc.run v (Crc.nibs n j)).toNat) ∧ Below w.heap.size w wr) (fun u6 _ => (intOf u6 + 4).toNat)
      case atStart => exact ⟨0, by omega, rfl, hrow, hB⟩
      case round =>
        clear hrow hB hwo hc
        obtain ⟨j, hj, rfl, hrow, hB⟩ := hrel
        by_cases hj10 : j < 10
        · have hcell := hrow.cell (i := 0) (by omega)
          have hfr := hrow.frozen 0
          have hNr : Nibs wr := hN.below hB
          have hnl := hrow.lt
          have HNS := Lib.hid (Crc.nibs_succ n j)
          have hrs := Crc.run_append v (Crc.nibs n j) (Crc.bits4 (Crc.nibAt n j))
          have HRS := Lib.hid hrs
          obtain ⟨sh, hsh⟩ : ∃ sh, sh = 36 - 4 * j := ⟨_, rfl⟩
          have hs1 : (36 : Int) - 4 * (j : Int) = (sh : Int) := by omega
          have hnv := nib_val n j sh hsh
          have hnb : Crc.nibAt n j < 16 := by unfold Crc.nibAt; omega
          generalize Crc.nibAt n j = m at *
          have HSH := Lib.hid hsh
          have HNV := Lib.hid hnv
          rw [hs1]
          have HS1 := Lib.hid hs1
          clear hsh hs1 hnv hrs
          generalize hv2 : Crc.run v (Crc.nibs n j) = v2 at *
          have HV2 := Lib.hid hv2
          clear hv2
          go_wp2_with fail
          have hnv := HNV.out
          have hmin : min sh 64 = sh := by have := HSH.out; omega
          refine wp_region_lasts (fun w' => Below wr.heap.size wr w') (fun i => i == 7) (by kernel_rfl) ((Below.refl _ _).drew) (fun hHeld => ?_)
          refine tk_0 (v := ?_) (by kernel_rfl) (by kernel_rfl) (by kernel_rfl) (by kernel_rfl) (fun _ _ _ h => h) (Or.inl ⟨by kernel_rfl, ?_⟩) (by assumption) ?_
          rotate_left
          · (intro wS hSw; (try dsimp only at hSw); (have hcw : wS.cell? ⟨g, 0, none⟩ = some (.int .u64 v2.toNat) := (hSw.cell (p := ⟨g, 0, none⟩) hnl).trans hcell; go_simp); (all_goals (with_reducible rfl)))
          try go_frame
          refine tk_1 (v := ?_) (by kernel_rfl) (by kernel_rfl) (by kernel_rfl) (by kernel_rfl) (fun _ _ _ h => h) (Or.inl ⟨by kernel_rfl, ?_⟩) (by assumption) ?_
          rotate_left
          · (intro wS hSw; (try dsimp only at hSw); (go_simp); (all_goals (with_reducible rfl)))
          try go_frame
          refine tk_2 (v := ?_) (by kernel_rfl) (by kernel_rfl) (by kernel_rfl) (by kernel_rfl) (fun _ _ _ h => h) (Or.inl ⟨by kernel_rfl, ?_⟩) (by assumption) ?_
          rotate_left
          · (intro wS hSw; (try dsimp only at hSw); (go_simp); (all_goals (with_reducible rfl)))
          try go_frame
          refine tk_3 (v := ?_) (by kernel_rfl) (by kernel_rfl) (by kernel_rfl) (by kernel_rfl) (fun _ _ _ h => h) (Or.inl ⟨by kernel_rfl, ?_⟩) (by assumption) ?_
          rotate_left
          · (intro wS hSw; (try dsimp only at hSw); (go_simp); (all_goals (with_reducible rfl)))
          try go_frame
          refine tk_4 (v := ?_) (by kernel_rfl) (by kernel_rfl) (by kernel_rfl) (by kernel_rfl) (fun _ _ _ h => h) (Or.inl ⟨by kernel_rfl, ?_⟩) (by assumption) ?_
          rotate_left
          · (intro wS hSw; (try dsimp only at hSw); (go_simp); (all_goals (with_reducible rfl)))
          try go_frame
          refine tk_5 (v := ?_) (by kernel_rfl) (by kernel_rfl) (by kernel_rfl) (by kernel_rfl) (fun _ _ _ h => h) (Or.inl ⟨by kernel_rfl, ?_⟩) (by assumption) ?_
          rotate_left
          · (intro wS hSw; (try dsimp only at hSw); (go_simp); (all_goals (with_reducible rfl)))
          try go_frame
          refine dn_6 (by kernel_rfl) (fun K hK => ?_)
          rw [if_pos (by kernel_rfl)]
          go_simp; go_at_call 41; with_reducible refine (hash_nibble v2 m _ rfl (by omega) (by omega) _ (by exact hNr.below hHeld)).mono ?_; rintro e w1 ⟨rfl, hb1⟩; have hrow2 := rowIs_below hrow (bl_on hHeld hb1); have hcell2 := hrow2.cell (i := 0) (by omega); have hfr2 := hrow2.frozen 0; go_simp
          refine hK.out _ _ (fun _ => by (try dsimp only); exact bl_on hHeld hb1) (fun hHeld => ?_)
          replace hHeld := hHeld rfl
          clear hK K
          try go_frame
          refine dn_7 (by kernel_rfl) (fun K hK => ?_)
          rw [if_pos (by kernel_rfl)]
          go_simp
          refine hK.out _ _ (fun h => by cases h) (fun _ => ?_)
          clear hK K
          try go_frame
          refine wpAnyT_done (by kernel_rfl) ?_ _
          refine NoPanic.normal ?_
          clear hnv hmin
          have hrow3 : (w1.setCell ⟨g, 0, none⟩ (.int .u64 (Crc.run v2 (Crc.bits4 m)).toNat)).rowIs g 30 1 (fun _ => .int .u64 (Crc.run v (Crc.nibs n (j + 1))).toNat) := (hrow2.set 0 _).congr (fun i hi => by
            rw [if_pos (by omega), HNS.out, HRS.out])
          have hB3 := (hB.trans (hHeld.mono hB.size)).setCell (p := ⟨g, 0, none⟩) hgs (.int .u64 (Crc.run v2 (Crc.bits4 m)).toNat)
          generalize w1.setCell ⟨g, 0, none⟩ (.int .u64 (Crc.run v2 (Crc.bits4 m)).toNat) = w3 at *
          have hsh36 : sh ≤ 36 := by have := HSH.out; omega
          go_wp2_with fail
          go_roundw
          case rel => exact ⟨j + 1, by omega, congrArg (Value.int .i64) (by have := HS1.out; omega), hrow3, hB3⟩
          case measure => go_light; simp [intOf]; have := HS1.out; omega
        · obtain rfl : j = 10 := by omega
          rw [HW.out] at hrow
          go_wp2_with fail
          go_roundw
          case rel => exact ⟨k + 1, hlt, by go_num, hrow, hB⟩
          case measure => go_light; simp [intOf]; omega
    · obtain rfl : k = l.length := by omega
      rw [List.take_length] at hrow
      have hcell := hrow.cell (i := 0) (by omega)
      have hz : crcVal (Crc.words l) = .int .i64 (Crc.run Crc.ones (Crc.bitsOf (Crc.words l)) ^^^ Crc.ones).toNat := rfl
      have HZ := Lib.hid hz
      clear hz
      generalize Crc.run Crc.ones (Crc.bitsOf (Crc.words l)) = v at *
      go_wp2_with fail
      refine (hash_Value v _).mono ?_
      rintro e w3 ⟨rfl, hb3⟩
      go_wp2_with fail
      go_ret
      exact ⟨by rw [HZ.out]; rfl, bl_on hB hb3⟩
end Go.Proofs.YtafehbnnoncieaaDoor
