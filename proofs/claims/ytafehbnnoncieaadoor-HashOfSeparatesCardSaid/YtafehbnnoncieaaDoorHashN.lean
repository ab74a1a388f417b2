/-
  The hash of 256 bits: the specification's rotation, schedule and padding. Conditions: none.
-/
import Derived.Test.YtafehbnnoncieaaDoorHashG
import Derived.Test.YtafehbnnoncieaaDoorWireB
namespace Go.Proofs.YtafehbnnoncieaaDoor
open Go.RowKit
theorem rotr_val (x : Sha.W) (j : Nat) : bits .or .u32 ((x.toNat : Int) / 2 ^ j) ((x.toNat : Int) * 2 ^ (32 - j) % 4294967296) = ((Sha.rotr x j).toNat : Int) := by
  rw [← IntKind.wrap_u32, u32_shl, u32_shr, u32_or]
  rfl
set_option maxHeartbeats 400000 in
theorem ref_rotr (x : Sha.W) (k y : Int) (j : Nat) (hk : k = (j : Int)) (hy : y = x.toNat) (h0 : 0 < j) (hj : j < 32) (w : World) :
    Calls Tryd.prog 46 #[.int .u32 y, .int .i64 k] w fun e w' => e = .returned (wv (Sha.rotr x j)) ∧ w' = w.drew := by
  subst hk; subst hy
  have hv := Lib.hid (rotr_val x j)
  have hlt := x.isLt
  have hs : IntKind.i64.wrap (32 - (j : Int)) = ((32 - j : Nat) : Int) := by rw [IntKind.wrap_i64]; omega
  go_enter Tryd.func46, Tryd.ntmps46
  go_wp2_with fail
  go_region
  all_goals go_wp2_with fail
  all_goals go_ret
  all_goals exact ⟨congrArg (fun z => Ending.returned (.int .u32 z)) hv.out, rfl⟩

theorem byteAt_u (b : List UInt8) (i : Nat) : ((Sha.byteAt b i).toNat : Int) = ((b.getD i 0).toNat : Int) := by
  unfold Sha.byteAt
  have := (b.getD i 0).toNat_lt
  rw [BitVec.toNat_ofNat, Nat.mod_eq_of_lt (by omega)]
theorem u32_or4 (x0 x1 x2 x3 : Sha.W) : bits .or .u32 (bits .or .u32 (bits .or .u32 (IntKind.u32.wrap (IntKind.u32.wrap (x0.toNat : Int) * (16777216 : Int))) (IntKind.u32.wrap (IntKind.u32.wrap (x1.toNat : Int) * (65536 : Int)))) (IntKind.u32.wrap (IntKind.u32.wrap (x2.toNat : Int) * (256 : Int)))) (IntKind.u32.wrap (x3.toNat : Int)) =
    (((((((x0 <<< 8) ||| x1) <<< 8) ||| x2) <<< 8) ||| x3).toNat : Int) := by
  have e0 : IntKind.u32.wrap ((x0.toNat : Int) * (16777216 : Int)) = ((x0 <<< 24).toNat : Int) := u32_shl x0 24
  have e1 : IntKind.u32.wrap ((x1.toNat : Int) * (65536 : Int)) = ((x1 <<< 16).toNat : Int) := u32_shl x1 16
  have e2 : IntKind.u32.wrap ((x2.toNat : Int) * (256 : Int)) = ((x2 <<< 8).toNat : Int) := u32_shl x2 8
  rw [wrap_u32_toNat, wrap_u32_toNat, wrap_u32_toNat, wrap_u32_toNat, e0, e1, e2, u32_or, u32_or, u32_or]
  simp only [BitVec.shiftLeft_or_distrib, ← BitVec.shiftLeft_add]
theorem word_val (b : List UInt8) (k : Nat) : bits .or .u32 (bits .or .u32 (bits .or .u32 (IntKind.u32.wrap (IntKind.u32.wrap ((b.getD (4 * k + 0) 0).toNat : Int) * (16777216 : Int))) (IntKind.u32.wrap (IntKind.u32.wrap ((b.getD (4 * k + 1) 0).toNat : Int) * (65536 : Int)))) (IntKind.u32.wrap (IntKind.u32.wrap ((b.getD (4 * k + 2) 0).toNat : Int) * (256 : Int)))) (IntKind.u32.wrap ((b.getD (4 * k + 3) 0).toNat : Int)) = ((Sha.word b k).toNat : Int) := by
  rw [← byteAt_u, ← byteAt_u, ← byteAt_u, ← byteAt_u, u32_or4]
  rfl
theorem s0_val (x : Sha.W) : bits .xor .u32 (bits .xor .u32 ((Sha.rotr x 7).toNat : Int) ((Sha.rotr x 18).toNat : Int)) ((x.toNat : Int) / (8 : Int)) = ((Sha.s0 x).toNat : Int) := by
  rw [shr3, u32_xor, u32_xor]; rfl
theorem s1_val (x : Sha.W) : bits .xor .u32 (bits .xor .u32 ((Sha.rotr x 17).toNat : Int) ((Sha.rotr x 19).toNat : Int)) ((x.toNat : Int) / (1024 : Int)) = ((Sha.s1 x).toNat : Int) := by
  rw [shr10, u32_xor, u32_xor]; rfl
theorem u32_add4 (x16 a x7 b : Sha.W) : IntKind.u32.wrap (IntKind.u32.wrap (IntKind.u32.wrap ((x16.toNat : Int) + (a.toNat : Int)) + (x7.toNat : Int)) + (b.toNat : Int)) = ((x16 + a + x7 + b).toNat : Int) := by
  rw [u32_add, u32_add, u32_add]
set_option maxHeartbeats 1000000 in
set_option maxRecDepth 100000 in
theorem ref_words (b : List UInt8) (x : Value) (w : World) (hb : b.length = 64) (hl : Sl w x 1 b.length (b.map bv)) :
    Calls Tryd.prog 45 #[x] w fun e w' => e = .returned (schedVal b) ∧ Below w.heap.size w w' := by
  obtain ⟨A, c, rfl, hnc, hcm, hr⟩ := id hl
  unfold maxLen at hcm
  obtain ⟨ad, rfl, hab, hcell⟩ := hr.2 (by omega)
  have hb1 : 64 ≤ b.length := by omega
  have HB := Lib.hid hb
  clear hb
  have hzero : ∀ i, i < 64 → (List.replicate 64 (wv 0#32)).toArray[i]? = some (wv 0#32) := fun i hi => rep_at 64 i _ hi
  go_enter Tryd.func45, Tryd.ntmps45
  go_wp2_with fail
  go_loopw [4] (fun u4 wr => ∃ k : Nat, k ≤ 16 ∧ u4 = .int .i64 k ∧ wr.rowIs (w.heap.size + 1) 73 64 (Sha.wrow b k 0#32) ∧ wr.rowIs w.heap.size 73 64 (fun _ => wv 0#32) ∧ Below w.heap.size w wr) (fun u4 _ => 16 - (intOf u4).toNat)
  case atStart =>
    refine ⟨0, by omega, rfl, ?_, ?_, ((Below.refl _ _).alloc (Nat.le_refl _) _).alloc (by simp) _⟩
    · have h1 := row_new (w.alloc (.cells (List.replicate 64 (wv 0#32)).toArray 73)) (List.replicate 64 (wv 0#32)).toArray 73 64 (Sha.wrow b 0 0#32) rfl (fun i hi => by
        rw [hzero i hi]; unfold Sha.wrow; rw [if_neg (by omega)]; simp)
      have h2 : (w.alloc (.cells (List.replicate 64 (wv 0#32)).toArray 73)).heap.size = w.heap.size + 1 := by simp
      rw [h2] at h1
      exact h1
    · exact (row_new w (List.replicate 64 (wv 0#32)).toArray 73 64 (fun _ => wv 0#32) rfl hzero).alloc _
  case round =>
    clear hzero
    obtain ⟨k, hk, rfl, hw, hres, hbl⟩ := hrel
    by_cases hlt : k < 16
    · have hc : ∀ j, j < 4 → wr.cell? (ad.add (4 * k + j)) = some (.int .u8 ((b.getD (4 * k + j) 0).toNat : Int)) := fun j hj => by
        refine (hbl.cell (p := ad.add (4 * k + j)) (by rw [block_of_add]; exact hab)).trans (hcell _ _ ?_)
        have h1 : 4 * k + j < b.length := by omega
        simp [List.getElem?_eq_getElem h1, bv]
      have c0 := hc 0 (by omega)
      have c1 := hc 1 (by omega)
      have c2 := hc 2 (by omega)
      have c3 := hc 3 (by omega)
      have hv := word_val b k
      generalize (b.getD (4 * k + 0) 0).toNat = u0 at *
      generalize (b.getD (4 * k + 1) 0).toNat = u1 at *
      generalize (b.getD (4 * k + 2) 0).toNat = u2 at *
      generalize (b.getD (4 * k + 3) 0).toNat = u3 at *
      obtain ⟨m0, hm0⟩ : ∃ m, m = 4 * k + 0 := ⟨_, rfl⟩
      obtain ⟨m1, hm1⟩ : ∃ m, m = 4 * k + 1 := ⟨_, rfl⟩
      obtain ⟨m2, hm2⟩ : ∃ m, m = 4 * k + 2 := ⟨_, rfl⟩
      obtain ⟨m3, hm3⟩ : ∃ m, m = 4 * k + 3 := ⟨_, rfl⟩
      rw [← hm0] at c0
      rw [← hm1] at c1
      rw [← hm2] at c2
      rw [← hm3] at c3
      have b0 : m0 < b.length ∧ m1 < b.length ∧ m2 < b.length ∧ m3 < b.length := by omega
      obtain ⟨b0, b1, b2, b3⟩ := b0
      have k64 : (k : Int) < 64 := by omega
      have s0 : IntKind.i64.wrap (4 * (k : Int)) = (m0 : Int) := by rw [IntKind.wrap_i64]; omega
      have s1 : IntKind.i64.wrap ((m0 : Int) + 1) = (m1 : Int) := by clear s0; rw [IntKind.wrap_i64]; omega
      have s2 : IntKind.i64.wrap ((m0 : Int) + 2) = (m2 : Int) := by clear s0 s1; rw [IntKind.wrap_i64]; omega
      have s3 : IntKind.i64.wrap ((m0 : Int) + 3) = (m3 : Int) := by clear s0 s1 s2; rw [IntKind.wrap_i64]; omega
      have HV := Lib.hid hv
      clear hv hc hcell hl hr hm0 hm1 hm2 hm3
      have ck := hw.cell (i := k) (by omega)
      rw [Sha.wrow_at] at ck
      have hfr := hw.frozen k
      go_wp2_with fail
      refine wp_region_lasts (fun w' => w'.cell? (ad.add m0) = some (.int .u8 u0) ∧ w'.cell? (ad.add m1) = some (.int .u8 u1) ∧ w'.cell? (ad.add m2) = some (.int .u8 u2) ∧ w'.cell? (ad.add m3) = some (.int .u8 u3)) (fun i => i == 35) (by kernel_rfl) ⟨c0, c1, c2, c3⟩ (fun hHeld => ?_)
      refine tk_0 (v := ?_) (by kernel_rfl) (by kernel_rfl) (by kernel_rfl) (by kernel_rfl) (fun _ _ _ h => h) (Or.inl ⟨by kernel_rfl, ?_⟩) (by assumption) ?_
      rotate_left
      · (intro wS hSw; (try dsimp only at hSw); (go_simp); (all_goals (with_reducible rfl)))
      try go_frame
      refine tk_1 (v := ?_) (by kernel_rfl) (by kernel_rfl) (by kernel_rfl) (by kernel_rfl) (fun _ _ _ h => h) (Or.inl ⟨by kernel_rfl, ?_⟩) (by assumption) ?_
      rotate_left
      · (intro wS hSw; (try dsimp only at hSw); (go_simp); (all_goals (with_reducible rfl)))
      try go_frame
      refine tk_2 (v := ?_) (by kernel_rfl) (by kernel_rfl) (by kernel_rfl) (by kernel_rfl) (fun _ _ _ h => h) (Or.inl ⟨by kernel_rfl, ?_⟩) (by assumption) ?_
      rotate_left
      · (intro wS hSw; (try dsimp only at hSw); (go_simp); (all_goals (with_reducible rfl)))
      try go_frame
      refine tk_3 (v := ?_) (by kernel_rfl) (by kernel_rfl) (by kernel_rfl) (by kernel_rfl) (fun _ _ _ h => h) (Or.inl ⟨by kernel_rfl, ?_⟩) (by assumption) ?_
      rotate_left
      · (intro wS hSw; (try dsimp only at hSw); (go_simp); (all_goals (with_reducible rfl)))
      try go_frame
      refine tk_4 (v := ?_) (by kernel_rfl) (by kernel_rfl) (by kernel_rfl) (by kernel_rfl) (fun _ _ _ h => h) (Or.inl ⟨by kernel_rfl, ?_⟩) (by assumption) ?_
      rotate_left
      · (intro wS hSw; (try dsimp only at hSw); (go_simp); (all_goals (with_reducible rfl)))
      try go_frame
      refine tk_5 (v := ?_) (by kernel_rfl) (by kernel_rfl) (by kernel_rfl) (by kernel_rfl) (fun _ _ _ h => h) (Or.inl ⟨by kernel_rfl, ?_⟩) (by assumption) ?_
      rotate_left
      · (intro wS hSw; (try dsimp only at hSw); (obtain ⟨q0, q1, q2, q3⟩ := hSw; go_simp); (all_goals (with_reducible rfl)))
      try go_frame
      refine tk_6 (v := ?_) (by kernel_rfl) (by kernel_rfl) (by kernel_rfl) (by kernel_rfl) (fun _ _ _ h => h) (Or.inl ⟨by kernel_rfl, ?_⟩) (by assumption) ?_
      rotate_left
      · (intro wS hSw; (try dsimp only at hSw); (go_simp); (all_goals (with_reducible rfl)))
      try go_frame
      refine tk_7 (v := ?_) (by kernel_rfl) (by kernel_rfl) (by kernel_rfl) (by kernel_rfl) (fun _ _ _ h => h) (Or.inl ⟨by kernel_rfl, ?_⟩) (by assumption) ?_
      rotate_left
      · (intro wS hSw; (try dsimp only at hSw); (go_simp); (all_goals (with_reducible rfl)))
      try go_frame
      refine tk_8 (v := ?_) (by kernel_rfl) (by kernel_rfl) (by kernel_rfl) (by kernel_rfl) (fun _ _ _ h => h) (Or.inl ⟨by kernel_rfl, ?_⟩) (by assumption) ?_
      rotate_left
      · (intro wS hSw; (try dsimp only at hSw); (go_simp); (all_goals (with_reducible rfl)))
      try go_frame
      refine tk_9 (v := ?_) (by kernel_rfl) (by kernel_rfl) (by kernel_rfl) (by kernel_rfl) (fun _ _ _ h => h) (Or.inl ⟨by kernel_rfl, ?_⟩) (by assumption) ?_
      rotate_left
      · (intro wS hSw; (try dsimp only at hSw); (go_simp); (all_goals (with_reducible rfl)))
      try go_frame
      refine tk_10 (v := ?_) (by kernel_rfl) (by kernel_rfl) (by kernel_rfl) (by kernel_rfl) (fun _ _ _ h => h) (Or.inl ⟨by kernel_rfl, ?_⟩) (by assumption) ?_
      rotate_left
      · (intro wS hSw; (try dsimp only at hSw); (go_simp); (all_goals (with_reducible rfl)))
      try go_frame
      refine tk_11 (v := ?_) (by kernel_rfl) (by kernel_rfl) (by kernel_rfl) (by kernel_rfl) (fun _ _ _ h => h) (Or.inl ⟨by kernel_rfl, ?_⟩) (by assumption) ?_
      rotate_left
      · (intro wS hSw; (try dsimp only at hSw); (go_simp); (all_goals (with_reducible rfl)))
      try go_frame
      refine tk_12 (v := ?_) (by kernel_rfl) (by kernel_rfl) (by kernel_rfl) (by kernel_rfl) (fun _ _ _ h => h) (Or.inl ⟨by kernel_rfl, ?_⟩) (by assumption) ?_
      rotate_left
      · (intro wS hSw; (try dsimp only at hSw); (go_simp); (all_goals (with_reducible rfl)))
      try go_frame
      refine tk_13 (v := ?_) (by kernel_rfl) (by kernel_rfl) (by kernel_rfl) (by kernel_rfl) (fun _ _ _ h => h) (Or.inl ⟨by kernel_rfl, ?_⟩) (by assumption) ?_
      rotate_left
      · (intro wS hSw; (try dsimp only at hSw); (obtain ⟨q0, q1, q2, q3⟩ := hSw; go_simp); (all_goals (with_reducible rfl)))
      try go_frame
      refine tk_14 (v := ?_) (by kernel_rfl) (by kernel_rfl) (by kernel_rfl) (by kernel_rfl) (fun _ _ _ h => h) (Or.inl ⟨by kernel_rfl, ?_⟩) (by assumption) ?_
      rotate_left
      · (intro wS hSw; (try dsimp only at hSw); (go_simp); (all_goals (with_reducible rfl)))
      try go_frame
      refine tk_15 (v := ?_) (by kernel_rfl) (by kernel_rfl) (by kernel_rfl) (by kernel_rfl) (fun _ _ _ h => h) (Or.inl ⟨by kernel_rfl, ?_⟩) (by assumption) ?_
      rotate_left
      · (intro wS hSw; (try dsimp only at hSw); (go_simp); (all_goals (with_reducible rfl)))
      try go_frame
      refine tk_16 (v := ?_) (by kernel_rfl) (by kernel_rfl) (by kernel_rfl) (by kernel_rfl) (fun _ _ _ h => h) (Or.inl ⟨by kernel_rfl, ?_⟩) (by assumption) ?_
      rotate_left
      · (intro wS hSw; (try dsimp only at hSw); (go_simp); (all_goals (with_reducible rfl)))
      try go_frame
      refine tk_17 (v := ?_) (by kernel_rfl) (by kernel_rfl) (by kernel_rfl) (by kernel_rfl) (fun _ _ _ h => h) (Or.inl ⟨by kernel_rfl, ?_⟩) (by assumption) ?_
      rotate_left
      · (intro wS hSw; (try dsimp only at hSw); (go_simp); (all_goals (with_reducible rfl)))
      try go_frame
      refine tk_18 (v := ?_) (by kernel_rfl) (by kernel_rfl) (by kernel_rfl) (by kernel_rfl) (fun _ _ _ h => h) (Or.inl ⟨by kernel_rfl, ?_⟩) (by assumption) ?_
      rotate_left
      · (intro wS hSw; (try dsimp only at hSw); (go_simp); (all_goals (with_reducible rfl)))
      try go_frame
      refine tk_19 (v := ?_) (by kernel_rfl) (by kernel_rfl) (by kernel_rfl) (by kernel_rfl) (fun _ _ _ h => h) (Or.inl ⟨by kernel_rfl, ?_⟩) (by assumption) ?_
      rotate_left
      · (intro wS hSw; (try dsimp only at hSw); (go_simp); (all_goals (with_reducible rfl)))
      try go_frame
      refine tk_20 (v := ?_) (by kernel_rfl) (by kernel_rfl) (by kernel_rfl) (by kernel_rfl) (fun _ _ _ h => h) (Or.inl ⟨by kernel_rfl, ?_⟩) (by assumption) ?_
      rotate_left
      · (intro wS hSw; (try dsimp only at hSw); (go_simp); (all_goals (with_reducible rfl)))
      try go_frame
      refine tk_21 (v := ?_) (by kernel_rfl) (by kernel_rfl) (by kernel_rfl) (by kernel_rfl) (fun _ _ _ h => h) (Or.inl ⟨by kernel_rfl, ?_⟩) (by assumption) ?_
      rotate_left
      · (intro wS hSw; (try dsimp only at hSw); (go_simp); (all_goals (with_reducible rfl)))
      try go_frame
      refine tk_22 (v := ?_) (by kernel_rfl) (by kernel_rfl) (by kernel_rfl) (by kernel_rfl) (fun _ _ _ h => h) (Or.inl ⟨by kernel_rfl, ?_⟩) (by assumption) ?_
      rotate_left
      · (intro wS hSw; (try dsimp only at hSw); (obtain ⟨q0, q1, q2, q3⟩ := hSw; go_simp); (all_goals (with_reducible rfl)))
      try go_frame
      refine tk_23 (v := ?_) (by kernel_rfl) (by kernel_rfl) (by kernel_rfl) (by kernel_rfl) (fun _ _ _ h => h) (Or.inl ⟨by kernel_rfl, ?_⟩) (by assumption) ?_
      rotate_left
      · (intro wS hSw; (try dsimp only at hSw); (go_simp); (all_goals (with_reducible rfl)))
      try go_frame
      refine tk_24 (v := ?_) (by kernel_rfl) (by kernel_rfl) (by kernel_rfl) (by kernel_rfl) (fun _ _ _ h => h) (Or.inl ⟨by kernel_rfl, ?_⟩) (by assumption) ?_
      rotate_left
      · (intro wS hSw; (try dsimp only at hSw); (go_simp); (all_goals (with_reducible rfl)))
      try go_frame
      refine tk_25 (v := ?_) (by kernel_rfl) (by kernel_rfl) (by kernel_rfl) (by kernel_rfl) (fun _ _ _ h => h) (Or.inl ⟨by kernel_rfl, ?_⟩) (by assumption) ?_
      rotate_left
      · (intro wS hSw; (try dsimp only at hSw); (go_simp); (all_goals (with_reducible rfl)))
      try go_frame
      refine tk_26 (v := ?_) (by kernel_rfl) (by kernel_rfl) (by kernel_rfl) (by kernel_rfl) (fun _ _ _ h => h) (Or.inl ⟨by kernel_rfl, ?_⟩) (by assumption) ?_
      rotate_left
      · (intro wS hSw; (try dsimp only at hSw); (go_simp); (all_goals (with_reducible rfl)))
      try go_frame
      refine tk_27 (v := ?_) (by kernel_rfl) (by kernel_rfl) (by kernel_rfl) (by kernel_rfl) (fun _ _ _ h => h) (Or.inl ⟨by kernel_rfl, ?_⟩) (by assumption) ?_
      rotate_left
      · (intro wS hSw; (try dsimp only at hSw); (go_simp); (all_goals (with_reducible rfl)))
      try go_frame
      refine tk_28 (v := ?_) (by kernel_rfl) (by kernel_rfl) (by kernel_rfl) (by kernel_rfl) (fun _ _ _ h => h) (Or.inl ⟨by kernel_rfl, ?_⟩) (by assumption) ?_
      rotate_left
      · (intro wS hSw; (try dsimp only at hSw); (go_simp); (all_goals (with_reducible rfl)))
      try go_frame
      refine tk_29 (v := ?_) (by kernel_rfl) (by kernel_rfl) (by kernel_rfl) (by kernel_rfl) (fun _ _ _ h => h) (Or.inl ⟨by kernel_rfl, ?_⟩) (by assumption) ?_
      rotate_left
      · (intro wS hSw; (try dsimp only at hSw); (go_simp); (all_goals (with_reducible rfl)))
      try go_frame
      refine tk_30 (v := ?_) (by kernel_rfl) (by kernel_rfl) (by kernel_rfl) (by kernel_rfl) (fun _ _ _ h => h) (Or.inl ⟨by kernel_rfl, ?_⟩) (by assumption) ?_
      rotate_left
      · (intro wS hSw; (try dsimp only at hSw); (go_simp); (all_goals (with_reducible rfl)))
      try go_frame
      refine tk_31 (v := ?_) (by kernel_rfl) (by kernel_rfl) (by kernel_rfl) (by kernel_rfl) (fun _ _ _ h => h) (Or.inl ⟨by kernel_rfl, ?_⟩) (by assumption) ?_
      rotate_left
      · (intro wS hSw; (try dsimp only at hSw); (obtain ⟨q0, q1, q2, q3⟩ := hSw; go_simp); (all_goals (with_reducible rfl)))
      try go_frame
      refine tk_32 (v := ?_) (by kernel_rfl) (by kernel_rfl) (by kernel_rfl) (by kernel_rfl) (fun _ _ _ h => h) (Or.inl ⟨by kernel_rfl, ?_⟩) (by assumption) ?_
      rotate_left
      · (intro wS hSw; (try dsimp only at hSw); (go_simp); (all_goals (with_reducible rfl)))
      try go_frame
      refine tk_33 (v := ?_) (by kernel_rfl) (by kernel_rfl) (by kernel_rfl) (by kernel_rfl) (fun _ _ _ h => h) (Or.inl ⟨by kernel_rfl, ?_⟩) (by assumption) ?_
      rotate_left
      · (intro wS hSw; (try dsimp only at hSw); (go_simp); (all_goals (with_reducible rfl)))
      try go_frame
      refine tk_34 (v := ?_) (by kernel_rfl) (by kernel_rfl) (by kernel_rfl) (by kernel_rfl) (fun _ _ _ h => h) (Or.inl ⟨by kernel_rfl, ?_⟩) (by assumption) ?_
      rotate_left
      · (intro wS hSw; (try dsimp only at hSw); (go_simp); (all_goals (with_reducible rfl)))
      try go_frame
      refine dn_35 (by kernel_rfl) (fun K hK => ?_)
      rw [if_pos (by kernel_rfl)]
      go_simp
      refine hK.out _ _ (fun h => by cases h) (fun _ => ?_)
      clear hK K
      try go_frame
      refine wpAnyT_done (by kernel_rfl) ?_ _
      refine NoPanic.normal ?_
      clear s0 s1 s2 s3
      rw [HV.out, ← Sha.wAt_lo b k hlt]
      have HN := Lib.hid (Sha.wrow_next b k (Sha.wAt b k) rfl)
      have HX := Lib.hid (Sha.wrow_set b k 0#32 (Sha.wAt b k))
      generalize Sha.wAt b k = v at *
      go_wp2_with fail
      go_roundw
      case rel => exact ⟨k + 1, by omega, by go_num, (hw.set k _).congr (fun i _ => (HX.out i).trans (HN.out i)), hres.setOther (by simp) _, (hbl.setCell (by simp) _).drew⟩
      case measure => go_light; simp [intOf]; omega
    · obtain rfl : k = 16 := by omega
      go_wp2_with fail
      obtain ⟨wo, hwo⟩ : ∃ wo : World, wo = wr := ⟨_, rfl⟩
      go_loopw [5] (fun u5 wr => ∃ k : Nat, 16 ≤ k ∧ k ≤ 64 ∧ u5 = .int .i64 k ∧ wr.rowIs (w.heap.size + 1) 73 64 (Sha.wrow b k 0#32) ∧ wr.rowIs w.heap.size 73 64 (fun _ => wv 0#32) ∧ Below w.heap.size w wr) (fun u5 _ => 64 - (intOf u5).toNat)
      case atStart => exact ⟨16, by omega, by omega, rfl, hw, hres, hbl⟩
      case round =>
        clear hw hres hbl
        obtain ⟨k, hk16, hk, rfl, hw, hres, hbl⟩ := hrel
        by_cases hlt : k < 64
        · have c16 := hw.cell (i := k - 16) (by omega)
          have c15 := hw.cell (i := k - 15) (by omega)
          have c7 := hw.cell (i := k - 7) (by omega)
          have c2 := hw.cell (i := k - 2) (by omega)
          rw [Sha.wrow_lo _ _ _ _ (by omega)] at c16 c15 c7 c2
          have ck := hw.cell (i := k) (by omega)
          rw [Sha.wrow_at] at ck
          have hfr := hw.frozen k
          have hwh := Sha.wAt_hi b k (by omega)
          generalize Sha.wAt b (k - 16) = x16 at *
          generalize Sha.wAt b (k - 15) = x15 at *
          generalize Sha.wAt b (k - 7) = x7 at *
          generalize Sha.wAt b (k - 2) = x2 at *
          have HW := Lib.hid hwh
          clear hwh hl hr hcell
          have k64 : (k : Int) < 64 := by omega
          have b15 : ((k - 15 : Nat) : Int) < 64 := by omega
          have b2 : ((k - 2 : Nat) : Int) < 64 := by omega
          have b16 : ((k - 16 : Nat) : Int) < 64 := by omega
          have b7 : ((k - 7 : Nat) : Int) < 64 := by omega
          have S15 := Lib.hid (show IntKind.i64.wrap ((k : Int) - 15) = ((k - 15 : Nat) : Int) by rw [IntKind.wrap_i64]; omega)
          have S2 := Lib.hid (show IntKind.i64.wrap ((k : Int) - 2) = ((k - 2 : Nat) : Int) by rw [IntKind.wrap_i64]; omega)
          have S16 := Lib.hid (show IntKind.i64.wrap ((k : Int) - 16) = ((k - 16 : Nat) : Int) by rw [IntKind.wrap_i64]; omega)
          have S7 := Lib.hid (show IntKind.i64.wrap ((k : Int) - 7) = ((k - 7 : Nat) : Int) by rw [IntKind.wrap_i64]; omega)
          go_wp2_with fail
          have s15 := S15.out
          refine wp_region_lasts (fun w' => w'.cell? ⟨w.heap.size + 1, k - 15, none⟩ = some (wv x15)) (fun _ => false) (by kernel_rfl) c15 (fun hHeld => ?_)
          refine tk_0 (v := ?_) (by kernel_rfl) (by kernel_rfl) (by kernel_rfl) (by kernel_rfl) (fun _ _ _ h => h) (Or.inl ⟨by kernel_rfl, ?_⟩) (by assumption) ?_
          rotate_left
          · (intro wS hSw; (try dsimp only at hSw); (go_simp); (all_goals (with_reducible rfl)))
          try go_frame
          refine tk_1 (v := ?_) (by kernel_rfl) (by kernel_rfl) (by kernel_rfl) (by kernel_rfl) (fun _ _ _ h => h) (Or.inl ⟨by kernel_rfl, ?_⟩) (by assumption) ?_
          rotate_left
          · (intro wS hSw; (try dsimp only at hSw); (go_simp); (all_goals (with_reducible rfl)))
          try go_frame
          refine tk_2 (v := ?_) (by kernel_rfl) (by kernel_rfl) (by kernel_rfl) (by kernel_rfl) (fun _ _ _ h => h) (Or.inl ⟨by kernel_rfl, ?_⟩) (by assumption) ?_
          rotate_left
          · (intro wS hSw; (try dsimp only at hSw); (go_simp); (all_goals (with_reducible rfl)))
          try go_frame
          refine tk_3 (v := ?_) (by kernel_rfl) (by kernel_rfl) (by kernel_rfl) (by kernel_rfl) (fun _ _ _ h => h) (Or.inl ⟨by kernel_rfl, ?_⟩) (by assumption) ?_
          rotate_left
          · (intro wS hSw; (try dsimp only at hSw); (go_simp); (all_goals (with_reducible rfl)))
          try go_frame
          refine tk_5 (v := ?_) (by kernel_rfl) (by kernel_rfl) (by kernel_rfl) (by kernel_rfl) (fun _ _ _ h => h) (Or.inl ⟨by kernel_rfl, ?_⟩) (by assumption) ?_
          rotate_left
          · (intro wS hSw; (try dsimp only at hSw); (go_simp); (all_goals (with_reducible rfl)))
          try go_frame
          refine tk_6 (v := ?_) (by kernel_rfl) (by kernel_rfl) (by kernel_rfl) (by kernel_rfl) (fun _ _ _ h => h) (Or.inl ⟨by kernel_rfl, ?_⟩) (by assumption) ?_
          rotate_left
          · (intro wS hSw; (try dsimp only at hSw); (go_simp); (all_goals (with_reducible rfl)))
          try go_frame
          refine tk_7 (v := ?_) (by kernel_rfl) (by kernel_rfl) (by kernel_rfl) (by kernel_rfl) (fun _ _ _ h => h) (Or.inl ⟨by kernel_rfl, ?_⟩) (by assumption) ?_
          rotate_left
          · (intro wS hSw; (try dsimp only at hSw); (go_simp); (all_goals (with_reducible rfl)))
          try go_frame
          refine tk_8 (v := ?_) (by kernel_rfl) (by kernel_rfl) (by kernel_rfl) (by kernel_rfl) (fun _ _ _ h => h) (Or.inl ⟨by kernel_rfl, ?_⟩) (by assumption) ?_
          rotate_left
          · (intro wS hSw; (try dsimp only at hSw); (go_simp); (all_goals (with_reducible rfl)))
          try go_frame
          refine tk_11 (v := ?_) (by kernel_rfl) (by kernel_rfl) (by kernel_rfl) (by kernel_rfl) (fun _ _ _ h => h) (Or.inl ⟨by kernel_rfl, ?_⟩) (by assumption) ?_
          rotate_left
          · (intro wS hSw; (try dsimp only at hSw); (go_simp); (all_goals (with_reducible rfl)))
          try go_frame
          refine tk_12 (v := ?_) (by kernel_rfl) (by kernel_rfl) (by kernel_rfl) (by kernel_rfl) (fun _ _ _ h => h) (Or.inl ⟨by kernel_rfl, ?_⟩) (by assumption) ?_
          rotate_left
          · (intro wS hSw; (try dsimp only at hSw); (go_simp); (all_goals (with_reducible rfl)))
          try go_frame
          refine tk_13 (v := ?_) (by kernel_rfl) (by kernel_rfl) (by kernel_rfl) (by kernel_rfl) (fun _ _ _ h => h) (Or.inl ⟨by kernel_rfl, ?_⟩) (by assumption) ?_
          rotate_left
          · (intro wS hSw; (try dsimp only at hSw); (go_simp); (all_goals (with_reducible rfl)))
          try go_frame
          refine tk_14 (v := ?_) (by kernel_rfl) (by kernel_rfl) (by kernel_rfl) (by kernel_rfl) (fun _ _ _ h => h) (Or.inl ⟨by kernel_rfl, ?_⟩) (by assumption) ?_
          rotate_left
          · (intro wS hSw; (try dsimp only at hSw); (go_simp); (all_goals (with_reducible rfl)))
          try go_frame
          refine tk_15 (v := ?_) (by kernel_rfl) (by kernel_rfl) (by kernel_rfl) (by kernel_rfl) (fun _ _ _ h => h) (Or.inl ⟨by kernel_rfl, ?_⟩) (by assumption) ?_
          rotate_left
          · (intro wS hSw; (try dsimp only at hSw); (go_simp); (all_goals (with_reducible rfl)))
          try go_frame
          refine dn_4 (by kernel_rfl) (fun K hK => ?_)
          rw [if_pos (by kernel_rfl)]
          go_simp; go_at_call 46; with_reducible refine (ref_rotr x15 7 _ 7 rfl rfl (by decide) (by decide) _).mono ?_; rintro e w' ⟨rfl, rfl⟩; go_simp
          refine hK.out _ _ (fun _ => by (try dsimp only); exact hHeld) (fun hHeld => ?_)
          replace hHeld := hHeld rfl
          clear hK K
          try go_frame
          refine dn_9 (by kernel_rfl) (fun K hK => ?_)
          rw [if_pos (by kernel_rfl)]
          go_simp; go_at_call 46; with_reducible refine (ref_rotr x15 18 _ 18 rfl rfl (by decide) (by decide) _).mono ?_; rintro e w' ⟨rfl, rfl⟩; go_simp
          refine hK.out _ _ (fun _ => by (try dsimp only); exact hHeld) (fun hHeld => ?_)
          replace hHeld := hHeld rfl
          clear hK K
          try go_frame
          refine tk_10 (v := ?_) (by kernel_rfl) (by kernel_rfl) (by kernel_rfl) (by kernel_rfl) (fun _ _ _ h => h) (Or.inl ⟨by kernel_rfl, ?_⟩) (by assumption) ?_
          rotate_left
          · (intro wS hSw; (try dsimp only at hSw); (go_simp); (all_goals (with_reducible rfl)))
          try go_frame
          refine tk_16 (v := ?_) (by kernel_rfl) (by kernel_rfl) (by kernel_rfl) (by kernel_rfl) (fun _ _ _ h => h) (Or.inl ⟨by kernel_rfl, ?_⟩) (by assumption) ?_
          rotate_left
          · (intro wS hSw; (try dsimp only at hSw); (go_simp); (all_goals (with_reducible rfl)))
          try go_frame
          refine tk_17 (v := ?_) (by kernel_rfl) (by kernel_rfl) (by kernel_rfl) (by kernel_rfl) (fun _ _ _ h => h) (Or.inl ⟨by kernel_rfl, ?_⟩) (by assumption) ?_
          rotate_left
          · (intro wS hSw; (try dsimp only at hSw); (go_simp); (all_goals (with_reducible rfl)))
          try go_frame
          refine wpAnyT_done (by kernel_rfl) ?_ _
          refine NoPanic.normal ?_
          clear s15
          rw [s0_val]
          go_wp2_with fail
          have s2 := S2.out
          refine wp_region_lasts (fun w' => w'.cell? ⟨w.heap.size + 1, k - 2, none⟩ = some (wv x2)) (fun _ => false) (by kernel_rfl) c2 (fun hHeld => ?_)
          refine tk_0 (v := ?_) (by kernel_rfl) (by kernel_rfl) (by kernel_rfl) (by kernel_rfl) (fun _ _ _ h => h) (Or.inl ⟨by kernel_rfl, ?_⟩) (by assumption) ?_
          rotate_left
          · (intro wS hSw; (try dsimp only at hSw); (go_simp); (all_goals (with_reducible rfl)))
          try go_frame
          refine tk_1 (v := ?_) (by kernel_rfl) (by kernel_rfl) (by kernel_rfl) (by kernel_rfl) (fun _ _ _ h => h) (Or.inl ⟨by kernel_rfl, ?_⟩) (by assumption) ?_
          rotate_left
          · (intro wS hSw; (try dsimp only at hSw); (go_simp); (all_goals (with_reducible rfl)))
          try go_frame
          refine tk_2 (v := ?_) (by kernel_rfl) (by kernel_rfl) (by kernel_rfl) (by kernel_rfl) (fun _ _ _ h => h) (Or.inl ⟨by kernel_rfl, ?_⟩) (by assumption) ?_
          rotate_left
          · (intro wS hSw; (try dsimp only at hSw); (go_simp); (all_goals (with_reducible rfl)))
          try go_frame
          refine tk_3 (v := ?_) (by kernel_rfl) (by kernel_rfl) (by kernel_rfl) (by kernel_rfl) (fun _ _ _ h => h) (Or.inl ⟨by kernel_rfl, ?_⟩) (by assumption) ?_
          rotate_left
          · (intro wS hSw; (try dsimp only at hSw); (go_simp); (all_goals (with_reducible rfl)))
          try go_frame
          refine tk_5 (v := ?_) (by kernel_rfl) (by kernel_rfl) (by kernel_rfl) (by kernel_rfl) (fun _ _ _ h => h) (Or.inl ⟨by kernel_rfl, ?_⟩) (by assumption) ?_
          rotate_left
          · (intro wS hSw; (try dsimp only at hSw); (go_simp); (all_goals (with_reducible rfl)))
          try go_frame
          refine tk_6 (v := ?_) (by kernel_rfl) (by kernel_rfl) (by kernel_rfl) (by kernel_rfl) (fun _ _ _ h => h) (Or.inl ⟨by kernel_rfl, ?_⟩) (by assumption) ?_
          rotate_left
          · (intro wS hSw; (try dsimp only at hSw); (go_simp); (all_goals (with_reducible rfl)))
          try go_frame
          refine tk_7 (v := ?_) (by kernel_rfl) (by kernel_rfl) (by kernel_rfl) (by kernel_rfl) (fun _ _ _ h => h) (Or.inl ⟨by kernel_rfl, ?_⟩) (by assumption) ?_
          rotate_left
          · (intro wS hSw; (try dsimp only at hSw); (go_simp); (all_goals (with_reducible rfl)))
          try go_frame
          refine tk_8 (v := ?_) (by kernel_rfl) (by kernel_rfl) (by kernel_rfl) (by kernel_rfl) (fun _ _ _ h => h) (Or.inl ⟨by kernel_rfl, ?_⟩) (by assumption) ?_
          rotate_left
          · (intro wS hSw; (try dsimp only at hSw); (go_simp); (all_goals (with_reducible rfl)))
          try go_frame
          refine tk_11 (v := ?_) (by kernel_rfl) (by kernel_rfl) (by kernel_rfl) (by kernel_rfl) (fun _ _ _ h => h) (Or.inl ⟨by kernel_rfl, ?_⟩) (by assumption) ?_
          rotate_left
          · (intro wS hSw; (try dsimp only at hSw); (go_simp); (all_goals (with_reducible rfl)))
          try go_frame
          refine tk_12 (v := ?_) (by kernel_rfl) (by kernel_rfl) (by kernel_rfl) (by kernel_rfl) (fun _ _ _ h => h) (Or.inl ⟨by kernel_rfl, ?_⟩) (by assumption) ?_
          rotate_left
          · (intro wS hSw; (try dsimp only at hSw); (go_simp); (all_goals (with_reducible rfl)))
          try go_frame
          refine tk_13 (v := ?_) (by kernel_rfl) (by kernel_rfl) (by kernel_rfl) (by kernel_rfl) (fun _ _ _ h => h) (Or.inl ⟨by kernel_rfl, ?_⟩) (by assumption) ?_
          rotate_left
          · (intro wS hSw; (try dsimp only at hSw); (go_simp); (all_goals (with_reducible rfl)))
          try go_frame
          refine tk_14 (v := ?_) (by kernel_rfl) (by kernel_rfl) (by kernel_rfl) (by kernel_rfl) (fun _ _ _ h => h) (Or.inl ⟨by kernel_rfl, ?_⟩) (by assumption) ?_
          rotate_left
          · (intro wS hSw; (try dsimp only at hSw); (go_simp); (all_goals (with_reducible rfl)))
          try go_frame
          refine tk_15 (v := ?_) (by kernel_rfl) (by kernel_rfl) (by kernel_rfl) (by kernel_rfl) (fun _ _ _ h => h) (Or.inl ⟨by kernel_rfl, ?_⟩) (by assumption) ?_
          rotate_left
          · (intro wS hSw; (try dsimp only at hSw); (go_simp); (all_goals (with_reducible rfl)))
          try go_frame
          refine dn_4 (by kernel_rfl) (fun K hK => ?_)
          rw [if_pos (by kernel_rfl)]
          go_simp; go_at_call 46; with_reducible refine (ref_rotr x2 17 _ 17 rfl rfl (by decide) (by decide) _).mono ?_; rintro e w' ⟨rfl, rfl⟩; go_simp
          refine hK.out _ _ (fun _ => by (try dsimp only); exact hHeld) (fun hHeld => ?_)
          replace hHeld := hHeld rfl
          clear hK K
          try go_frame
          refine dn_9 (by kernel_rfl) (fun K hK => ?_)
          rw [if_pos (by kernel_rfl)]
          go_simp; go_at_call 46; with_reducible refine (ref_rotr x2 19 _ 19 rfl rfl (by decide) (by decide) _).mono ?_; rintro e w' ⟨rfl, rfl⟩; go_simp
          refine hK.out _ _ (fun _ => by (try dsimp only); exact hHeld) (fun hHeld => ?_)
          replace hHeld := hHeld rfl
          clear hK K
          try go_frame
          refine tk_10 (v := ?_) (by kernel_rfl) (by kernel_rfl) (by kernel_rfl) (by kernel_rfl) (fun _ _ _ h => h) (Or.inl ⟨by kernel_rfl, ?_⟩) (by assumption) ?_
          rotate_left
          · (intro wS hSw; (try dsimp only at hSw); (go_simp); (all_goals (with_reducible rfl)))
          try go_frame
          refine tk_16 (v := ?_) (by kernel_rfl) (by kernel_rfl) (by kernel_rfl) (by kernel_rfl) (fun _ _ _ h => h) (Or.inl ⟨by kernel_rfl, ?_⟩) (by assumption) ?_
          rotate_left
          · (intro wS hSw; (try dsimp only at hSw); (go_simp); (all_goals (with_reducible rfl)))
          try go_frame
          refine tk_17 (v := ?_) (by kernel_rfl) (by kernel_rfl) (by kernel_rfl) (by kernel_rfl) (fun _ _ _ h => h) (Or.inl ⟨by kernel_rfl, ?_⟩) (by assumption) ?_
          rotate_left
          · (intro wS hSw; (try dsimp only at hSw); (go_simp); (all_goals (with_reducible rfl)))
          try go_frame
          refine wpAnyT_done (by kernel_rfl) ?_ _
          refine NoPanic.normal ?_
          clear s2
          rw [s1_val]
          go_wp2_with fail
          have s16 := S16.out
          have s7 := S7.out
          refine wp_region_lasts (fun w' => w'.cell? ⟨w.heap.size + 1, k - 16, none⟩ = some (wv x16) ∧ w'.cell? ⟨w.heap.size + 1, k - 7, none⟩ = some (wv x7)) (fun i => i == 15) (by kernel_rfl) ⟨c16, c7⟩ (fun hHeld => ?_)
          refine tk_0 (v := ?_) (by kernel_rfl) (by kernel_rfl) (by kernel_rfl) (by kernel_rfl) (fun _ _ _ h => h) (Or.inl ⟨by kernel_rfl, ?_⟩) (by assumption) ?_
          rotate_left
          · (intro wS hSw; (try dsimp only at hSw); (go_simp); (all_goals (with_reducible rfl)))
          try go_frame
          refine tk_1 (v := ?_) (by kernel_rfl) (by kernel_rfl) (by kernel_rfl) (by kernel_rfl) (fun _ _ _ h => h) (Or.inl ⟨by kernel_rfl, ?_⟩) (by assumption) ?_
          rotate_left
          · (intro wS hSw; (try dsimp only at hSw); (go_simp); (all_goals (with_reducible rfl)))
          try go_frame
          refine tk_2 (v := ?_) (by kernel_rfl) (by kernel_rfl) (by kernel_rfl) (by kernel_rfl) (fun _ _ _ h => h) (Or.inl ⟨by kernel_rfl, ?_⟩) (by assumption) ?_
          rotate_left
          · (intro wS hSw; (try dsimp only at hSw); (go_simp); (all_goals (with_reducible rfl)))
          try go_frame
          refine tk_3 (v := ?_) (by kernel_rfl) (by kernel_rfl) (by kernel_rfl) (by kernel_rfl) (fun _ _ _ h => h) (Or.inl ⟨by kernel_rfl, ?_⟩) (by assumption) ?_
          rotate_left
          · (intro wS hSw; (try dsimp only at hSw); (go_simp); (all_goals (with_reducible rfl)))
          try go_frame
          refine tk_4 (v := ?_) (by kernel_rfl) (by kernel_rfl) (by kernel_rfl) (by kernel_rfl) (fun _ _ _ h => h) (Or.inl ⟨by kernel_rfl, ?_⟩) (by assumption) ?_
          rotate_left
          · (intro wS hSw; (try dsimp only at hSw); (obtain ⟨q0, q1⟩ := hSw; go_simp); (all_goals (with_reducible rfl)))
          try go_frame
          refine tk_5 (v := ?_) (by kernel_rfl) (by kernel_rfl) (by kernel_rfl) (by kernel_rfl) (fun _ _ _ h => h) (Or.inl ⟨by kernel_rfl, ?_⟩) (by assumption) ?_
          rotate_left
          · (intro wS hSw; (try dsimp only at hSw); (go_simp); (all_goals (with_reducible rfl)))
          try go_frame
          refine tk_6 (v := ?_) (by kernel_rfl) (by kernel_rfl) (by kernel_rfl) (by kernel_rfl) (fun _ _ _ h => h) (Or.inl ⟨by kernel_rfl, ?_⟩) (by assumption) ?_
          rotate_left
          · (intro wS hSw; (try dsimp only at hSw); (go_simp); (all_goals (with_reducible rfl)))
          try go_frame
          refine tk_7 (v := ?_) (by kernel_rfl) (by kernel_rfl) (by kernel_rfl) (by kernel_rfl) (fun _ _ _ h => h) (Or.inl ⟨by kernel_rfl, ?_⟩) (by assumption) ?_
          rotate_left
          · (intro wS hSw; (try dsimp only at hSw); (go_simp); (all_goals (with_reducible rfl)))
          try go_frame
          refine tk_8 (v := ?_) (by kernel_rfl) (by kernel_rfl) (by kernel_rfl) (by kernel_rfl) (fun _ _ _ h => h) (Or.inl ⟨by kernel_rfl, ?_⟩) (by assumption) ?_
          rotate_left
          · (intro wS hSw; (try dsimp only at hSw); (go_simp); (all_goals (with_reducible rfl)))
          try go_frame
          refine tk_9 (v := ?_) (by kernel_rfl) (by kernel_rfl) (by kernel_rfl) (by kernel_rfl) (fun _ _ _ h => h) (Or.inl ⟨by kernel_rfl, ?_⟩) (by assumption) ?_
          rotate_left
          · (intro wS hSw; (try dsimp only at hSw); (go_simp); (all_goals (with_reducible rfl)))
          try go_frame
          refine tk_10 (v := ?_) (by kernel_rfl) (by kernel_rfl) (by kernel_rfl) (by kernel_rfl) (fun _ _ _ h => h) (Or.inl ⟨by kernel_rfl, ?_⟩) (by assumption) ?_
          rotate_left
          · (intro wS hSw; (try dsimp only at hSw); (obtain ⟨q0, q1⟩ := hSw; go_simp); (all_goals (with_reducible rfl)))
          try go_frame
          refine tk_11 (v := ?_) (by kernel_rfl) (by kernel_rfl) (by kernel_rfl) (by kernel_rfl) (fun _ _ _ h => h) (Or.inl ⟨by kernel_rfl, ?_⟩) (by assumption) ?_
          rotate_left
          · (intro wS hSw; (try dsimp only at hSw); (go_simp); (all_goals (with_reducible rfl)))
          try go_frame
          refine tk_12 (v := ?_) (by kernel_rfl) (by kernel_rfl) (by kernel_rfl) (by kernel_rfl) (fun _ _ _ h => h) (Or.inl ⟨by kernel_rfl, ?_⟩) (by assumption) ?_
          rotate_left
          · (intro wS hSw; (try dsimp only at hSw); (go_simp); (all_goals (with_reducible rfl)))
          try go_frame
          refine tk_13 (v := ?_) (by kernel_rfl) (by kernel_rfl) (by kernel_rfl) (by kernel_rfl) (fun _ _ _ h => h) (Or.inl ⟨by kernel_rfl, ?_⟩) (by assumption) ?_
          rotate_left
          · (intro wS hSw; (try dsimp only at hSw); (go_simp); (all_goals (with_reducible rfl)))
          try go_frame
          refine tk_14 (v := ?_) (by kernel_rfl) (by kernel_rfl) (by kernel_rfl) (by kernel_rfl) (fun _ _ _ h => h) (Or.inl ⟨by kernel_rfl, ?_⟩) (by assumption) ?_
          rotate_left
          · (intro wS hSw; (try dsimp only at hSw); (go_simp); (all_goals (with_reducible rfl)))
          try go_frame
          refine dn_15 (by kernel_rfl) (fun K hK => ?_)
          rw [if_pos (by kernel_rfl)]
          go_simp
          refine hK.out _ _ (fun h => by cases h) (fun _ => ?_)
          clear hK K
          try go_frame
          refine wpAnyT_done (by kernel_rfl) ?_ _
          refine NoPanic.normal ?_
          clear s16 s7
          rw [u32_add4, ← HW.out]
          have HN := Lib.hid (Sha.wrow_next b k (Sha.wAt b k) rfl)
          have HX := Lib.hid (Sha.wrow_set b k 0#32 (Sha.wAt b k))
          generalize Sha.wAt b k = v at *
          go_wp2_with fail
          go_roundw
          case rel =>
            repeat apply Exists.intro
            exact ⟨⟨k + 1, by omega, by omega, by go_num, (hw.set k _).congr (fun i _ => (HX.out i).trans (HN.out i)), hres.setOther (by simp) _, by repeat (first | exact hbl.setCell (by simp) _ | apply Below.drew)⟩, rfl⟩
          case measure => go_light; simp [intOf]; omega
        · obtain rfl : k = 64 := by omega
          have hw2 : wr.rowIs (w.heap.size + 1) 73 64 (fun i => wv (Sha.wAt b i)) := hw.congr (fun i hi => Sha.wrow_lo b 64 i _ hi)
          go_wp2_with (first | (refine wpList_load_arr (o := ⟨some 100, _, _, _, _, _⟩) rfl _ _ rfl hw2 rfl aggW64 ?_) | (refine wpList_store_arr (o := ⟨none, _, _, _, _, _⟩) rfl _ _ _ rfl hres rfl rfl aggW64 (fun _ _ => rfl) ?_; intro hres2))
          exact bodyPost_arr (p := 2) (by rfl) hres2 (by rfl) aggW64 (by rfl) ⟨rfl, below_setRow' hbl (Nat.le_refl _) _⟩
end Go.Proofs.YtafehbnnoncieaaDoor
