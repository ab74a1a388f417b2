/-
  The hash of 256 bits: the schedule of a block. Conditions: none.
-/
import Derived.Test.YtafehbnnoncieaaDoorHashF
import Derived.Test.YtafehbnnoncieaaDoorWireA
namespace Go.Proofs.YtafehbnnoncieaaDoor
open Go.RowKit
theorem rep_at (n i : Nat) (v : Value) (h : i < n) : (List.replicate n v).toArray[i]? = some v := by rw [List.getElem?_toArray, List.getElem?_replicate, if_pos h]
namespace Sha
/-- The first j bytes of word t. -/
def part (b : List UInt8) (t : Nat) : Nat → W
  | 0 => 0#32
  | j + 1 => (part b t j <<< 8) ||| byteAt b (4 * t + j)
theorem part_4 (b : List UInt8) (t : Nat) : part b t 4 = word b t := by
  simp [part, word]
theorem wAt_lo (b : List UInt8) (t : Nat) (h : t < 16) : wAt b t = word b t := by
  unfold wAt nextW; rw [if_pos h]
theorem revW_at (b : List UInt8) : ∀ (n i : Nat), i < n → (revW b n).getD i 0#32 = wAt b (n - 1 - i)
  | n + 1, 0, _ => rfl
  | n + 1, i + 1, h => by
    show (revW b n).getD i 0#32 = _
    rw [revW_at b n i (by omega)]
    congr 1; omega
theorem wAt_hi (b : List UInt8) (t : Nat) (h : ¬ t < 16) : wAt b t = wAt b (t - 16) + s0 (wAt b (t - 15)) + wAt b (t - 7) + s1 (wAt b (t - 2)) := by
  have h15 := revW_at b t 15 (by omega)
  have h14 := revW_at b t 14 (by omega)
  have h6 := revW_at b t 6 (by omega)
  have h1 := revW_at b t 1 (by omega)
  unfold wAt
  conv => lhs; unfold nextW
  rw [if_neg h, h15, h14, h6, h1, show t - 1 - 15 = t - 16 from by omega, show t - 1 - 14 = t - 15 from by omega, show t - 1 - 6 = t - 7 from by omega, show t - 1 - 1 = t - 2 from by omega]
  rfl
/-- What the array holds when k words are known, and p stands at the next. -/
def wrow (b : List UInt8) (k : Nat) (p : W) (i : Nat) : Value := if i < k then wv (wAt b i) else if i = k then wv p else wv 0#32
theorem wrow_at (b : List UInt8) (k : Nat) (p : W) : wrow b k p k = wv p := by unfold wrow; rw [if_neg (by omega), if_pos rfl]
theorem wrow_lo (b : List UInt8) (k i : Nat) (p : W) (h : i < k) : wrow b k p i = wv (wAt b i) := by unfold wrow; rw [if_pos h]
theorem wrow_set (b : List UInt8) (k : Nat) (p q : W) (j : Nat) : (if j = k then wv q else wrow b k p j) = wrow b k q j := by
  unfold wrow
  by_cases h : j = k
  · subst h; simp
  · simp [h]
theorem wrow_next (b : List UInt8) (k : Nat) (p : W) (h : p = wAt b k) (j : Nat) : wrow b k p j = wrow b (k + 1) 0#32 j := by
  subst h
  unfold wrow
  by_cases h1 : j < k
  · rw [if_pos h1, if_pos (by omega)]
  · by_cases h2 : j = k
    · subst h2; rw [if_neg h1, if_pos rfl, if_pos (by omega)]
    · rw [if_neg h1, if_neg h2, if_neg (by omega)]; simp
end Sha
theorem aggW64 : Agg Tryd.prog 73 64 := ⟨⟨_, Tryd.underlying73, rfl⟩, by kernel_rfl⟩
/-- What the schedule leaves. -/
def schedVal (b : List UInt8) : Value := .agg (arr 64 fun i => wv (Sha.wAt b i))

theorem shl8_or (p : Sha.W) (b : List UInt8) (i u : Nat) (hu : (b.getD i 0).toNat = u) : bits .or .u32 ((p.toNat : Int) * 256 % 4294967296) (u : Int) = (((p <<< 8) ||| Sha.byteAt b i).toNat : Int) := by
  have e1 : (p.toNat : Int) * (256 : Int) % (4294967296 : Int) = ((p <<< 8).toNat : Int) := by rw [← IntKind.wrap_u32]; exact u32_shl p 8
  have e2 : (u : Int) = ((Sha.byteAt b i).toNat : Int) := by
    unfold Sha.byteAt
    have := (b.getD i 0).toNat_lt
    rw [BitVec.toNat_ofNat, hu, Nat.mod_eq_of_lt (by omega)]
  rw [e1, e2, u32_or]

theorem shr3 (x : Sha.W) : (x.toNat : Int) / (8 : Int) = ((x >>> 3).toNat : Int) := u32_shr x 3
theorem shr10 (x : Sha.W) : (x.toNat : Int) / (1024 : Int) = ((x >>> 10).toNat : Int) := u32_shr x 10
theorem sched_val (x16 x15 x7 x2 : Sha.W) : IntKind.u32.wrap (IntKind.u32.wrap (IntKind.u32.wrap ((x16.toNat : Int) + bits .xor .u32 (bits .xor .u32 ((Sha.rotr x15 7).toNat : Int) ((Sha.rotr x15 18).toNat : Int)) ((x15.toNat : Int) / (8 : Int))) + (x7.toNat : Int)) +
    bits .xor .u32 (bits .xor .u32 ((Sha.rotr x2 17).toNat : Int) ((Sha.rotr x2 19).toNat : Int)) ((x2.toNat : Int) / (1024 : Int))) = ((x16 + Sha.s0 x15 + x7 + Sha.s1 x2).toNat : Int) := by
  rw [shr3, shr10, u32_xor, u32_xor, u32_xor, u32_xor, u32_add, u32_add, u32_add]; rfl

set_option maxHeartbeats 1000000 in
set_option maxRecDepth 100000 in
theorem hash_schedule (b : List UInt8) (x : Value) (w : World) (hb : b.length = 64) (hl : Sl w x 1 b.length (b.map bv)) :
    Calls Tryd.prog 51 #[x] w fun e w' => e = .returned (schedVal b) ∧ Below w.heap.size w w' := by
  obtain ⟨A, c, rfl, hnc, hcm, hr⟩ := id hl
  unfold maxLen at hcm
  obtain ⟨ad, rfl, hab, hcell⟩ := hr.2 (by omega)
  have hb1 : 64 ≤ b.length := by omega
  have HB := Lib.hid hb
  clear hb
  have hzero : ∀ i, i < 64 → (List.replicate 64 (wv 0#32)).toArray[i]? = some (wv 0#32) := fun i hi => rep_at 64 i _ hi
  go_enter Tryd.func51, Tryd.ntmps51
  go_wp2_with fail
  go_loopw [11] (fun u11 wr => ∃ k : Nat, k ≤ 64 ∧ u11 = .int .i64 k ∧ wr.rowIs (w.heap.size + 1) 73 64 (Sha.wrow b k 0#32) ∧ wr.rowIs w.heap.size 73 64 (fun _ => wv 0#32) ∧ Below w.heap.size w wr) (fun u11 _ => 64 - (intOf u11).toNat)
  case atStart =>
    refine ⟨0, by omega, rfl, ?_, ?_, ((Below.refl _ _).alloc (Nat.le_refl _) _).alloc (by simp) _⟩
    · have h1 := row_new (w.alloc (.cells (List.replicate 64 (wv 0#32)).toArray 73)) (List.replicate 64 (wv 0#32)).toArray 73 64 (Sha.wrow b 0 0#32) rfl (fun i hi => by
        rw [hzero i hi]; unfold Sha.wrow; rw [if_neg (by omega)]; simp)
      have h2 : (w.alloc (.cells (List.replicate 64 (wv 0#32)).toArray 73)).heap.size = w.heap.size + 1 := by simp
      rw [h2] at h1
      exact h1
    · exact (row_new w (List.replicate 64 (wv 0#32)).toArray 73 64 (fun _ => wv 0#32) rfl hzero).alloc _
  case round =>
    clear hzero
    obtain ⟨k, hk, rfl, hw, hres, hbl⟩ := hrel
    by_cases hlt : k < 64
    · by_cases h16 : k < 16
      · go_wp2_with fail
        have hadd : ∀ j, (ad.add (4 * k)).add j = ad.add (4 * k + j) := fun j => add_of_add _ _ _
        have hbytes : ∀ j, j < 4 → w.cell? ((ad.add (4 * k)).add j) = some (.int .u8 ((b.getD (4 * k + j) 0).toNat : Int)) := fun j hj => by
          rw [hadd]
          refine hcell _ _ ?_
          have h1 : 4 * k + j < b.length := by omega
          simp [List.getElem?_eq_getElem h1, bv]
        have hblk : (ad.add (4 * k)).block < w.heap.size := by rw [block_of_add]; exact hab
        generalize ad.add (4 * k) = ad2 at *
        clear hadd
        obtain ⟨wo, rfl⟩ : ∃ wo : World, wo = wr := ⟨_, rfl⟩
        go_loopw [24] (fun u24 wi => ∃ j : Nat, j ≤ 4 ∧ u24 = .int .i64 j ∧ wi.rowIs (w.heap.size + 1) 73 64 (Sha.wrow b k (Sha.part b k j)) ∧ wi.rowIs w.heap.size 73 64 (fun _ => wv 0#32) ∧ Below w.heap.size w wi) (fun u24 _ => 4 - (intOf u24).toNat)
        case atStart => exact ⟨0, by omega, rfl, hw, hres, hbl⟩
        case round =>
          obtain ⟨j, hj, rfl, hwi, hri, hbi⟩ := hrel
          by_cases hj4 : j < 4
          · have hcj := hbytes j hj4
            have hcj' : wr.cell? (ad2.add j) = some (.int .u8 ((b.getD (4 * k + j) 0).toNat : Int)) := (hbi.cell (p := ad2.add j) (by rw [block_of_add]; exact hblk)).trans hcj
            have hu := (b.getD (4 * k + j) 0).toNat_lt
            have hwk := hwi.cell (i := k) (by omega)
            rw [Sha.wrow_at] at hwk
            have hfr := hwi.frozen k
            have hv := shl8_or (Sha.part b k j) b (4 * k + j) _ rfl
            have hpn : Sha.part b k (j + 1) = (Sha.part b k j <<< 8) ||| Sha.byteAt b (4 * k + j) := rfl
            rw [← hpn] at hv
            clear hbytes hcj hpn
            generalize hun : (b.getD (4 * k + j) 0).toNat = u at *
            clear hun
            generalize hpj : Sha.part b k j = p at *
            generalize hpj1 : Sha.part b k (j + 1) = p1 at *
            have HV := Lib.hid hv
            have HP1 := Lib.hid hpj1
            clear hpj hv hpj1
            go_wp2_with fail
            go_roundw
            case rel =>
              refine ⟨j + 1, by omega, by go_num, ?_, hri.setOther (by simp) _, hbi.setCell (by simp) _⟩
              rw [HV.out, ← HP1.out]
              refine (hwi.set k _).congr (fun i _ => ?_)
              rw [HP1.out]
              exact Sha.wrow_set b k p p1 i
            case measure => go_light; simp [intOf]; omega
          · obtain rfl : j = 4 := by omega
            have HW := Lib.hid (Sha.wrow_next b k (Sha.part b k 4) (by rw [Sha.part_4, Sha.wAt_lo b k h16]))
            go_wp2_with fail
            go_roundw
            case rel => exact ⟨k + 1, by omega, by go_num, hwi.congr (fun i _ => HW.out i), hri, hbi⟩
            case measure => go_light; simp [intOf]; omega
      · have c16 := hw.cell (i := k - 16) (by omega)
        have c15 := hw.cell (i := k - 15) (by omega)
        have c7 := hw.cell (i := k - 7) (by omega)
        have c2 := hw.cell (i := k - 2) (by omega)
        rw [Sha.wrow_lo _ _ _ _ (by omega)] at c16 c15 c7 c2
        have ck := hw.cell (i := k) (by omega)
        rw [Sha.wrow_at] at ck
        have hfr := hw.frozen k
        have hwh := Sha.wAt_hi b k h16
        generalize Sha.wAt b (k - 16) = x16 at *
        generalize Sha.wAt b (k - 15) = x15 at *
        generalize Sha.wAt b (k - 7) = x7 at *
        generalize Sha.wAt b (k - 2) = x2 at *
        have HW := Lib.hid hwh
        clear hwh hl hr hcell
        go_wp2_with fail
        have k64 : (k : Int) < 64 := by omega
        have b15 : ((k - 15 : Nat) : Int) < 64 := by omega
        have b2 : ((k - 2 : Nat) : Int) < 64 := by omega
        have b16 : ((k - 16 : Nat) : Int) < 64 := by omega
        have b7 : ((k - 7 : Nat) : Int) < 64 := by omega
        have s15 : IntKind.i64.wrap ((k : Int) - 15) = ((k - 15 : Nat) : Int) := by rw [IntKind.wrap_i64]; omega
        have s2 : IntKind.i64.wrap ((k : Int) - 2) = ((k - 2 : Nat) : Int) := by rw [IntKind.wrap_i64]; clear s15; omega
        have s16 : IntKind.i64.wrap ((k : Int) - 16) = ((k - 16 : Nat) : Int) := by rw [IntKind.wrap_i64]; clear s15 s2; omega
        have s7 : IntKind.i64.wrap ((k : Int) - 7) = ((k - 7 : Nat) : Int) := by rw [IntKind.wrap_i64]; clear s15 s2 s16; omega
        have S16 := Lib.hid s16
        have S7 := Lib.hid s7
        clear s16 s7
        refine wp_region_lasts (fun w' => w'.cell? ⟨w.heap.size + 1, k - 15, none⟩ = some (wv x15) ∧ w'.cell? ⟨w.heap.size + 1, k - 2, none⟩ = some (wv x2)) (fun _ => false) (by kernel_rfl) ⟨c15, c2⟩ (fun hHeld => ?_)
        refine tk_0 (v := ?_) (by kernel_rfl) (by kernel_rfl) (by kernel_rfl) (by kernel_rfl) (fun _ _ _ h => h) (Or.inl ⟨by kernel_rfl, ?_⟩) (by assumption) ?_
        rotate_left
        · (intro wS hSw; (try dsimp only at hSw); (go_simp); (all_goals (with_reducible rfl)))
        try go_frame
        refine tk_1 (v := ?_) (by kernel_rfl) (by kernel_rfl) (by kernel_rfl) (by kernel_rfl) (fun _ _ _ h => h) (Or.inl ⟨by kernel_rfl, ?_⟩) (by assumption) ?_
        rotate_left
        · (intro wS hSw; (try dsimp only at hSw); (go_simp); (all_goals (with_reducible rfl)))
        try go_frame
        refine tk_2 (v := ?_) (by kernel_rfl) (by kernel_rfl) (by kernel_rfl) (by kernel_rfl) (fun _ _ _ h => h) (Or.inl ⟨by kernel_rfl, ?_⟩) (by assumption) ?_
        rotate_left
        · (intro wS hSw; (try dsimp only at hSw); (go_simp); (all_goals (with_reducible rfl)))
        try go_frame
        refine tk_3 (v := ?_) (by kernel_rfl) (by kernel_rfl) (by kernel_rfl) (by kernel_rfl) (fun _ _ _ h => h) (Or.inl ⟨by kernel_rfl, ?_⟩) (by assumption) ?_
        rotate_left
        · (intro wS hSw; (try dsimp only at hSw); (obtain ⟨g1, g2⟩ := hSw; go_simp); (all_goals (with_reducible rfl)))
        try go_frame
        refine tk_4 (v := ?_) (by kernel_rfl) (by kernel_rfl) (by kernel_rfl) (by kernel_rfl) (fun _ _ _ h => h) (Or.inl ⟨by kernel_rfl, ?_⟩) (by assumption) ?_
        rotate_left
        · (intro wS hSw; (try dsimp only at hSw); (go_simp); (all_goals (with_reducible rfl)))
        try go_frame
        refine tk_5 (v := ?_) (by kernel_rfl) (by kernel_rfl) (by kernel_rfl) (by kernel_rfl) (fun _ _ _ h => h) (Or.inl ⟨by kernel_rfl, ?_⟩) (by assumption) ?_
        rotate_left
        · (intro wS hSw; (try dsimp only at hSw); (go_simp); (all_goals (with_reducible rfl)))
        try go_frame
        refine tk_6 (v := ?_) (by kernel_rfl) (by kernel_rfl) (by kernel_rfl) (by kernel_rfl) (fun _ _ _ h => h) (Or.inl ⟨by kernel_rfl, ?_⟩) (by assumption) ?_
        rotate_left
        · (intro wS hSw; (try dsimp only at hSw); (go_simp); (all_goals (with_reducible rfl)))
        try go_frame
        refine tk_7 (v := ?_) (by kernel_rfl) (by kernel_rfl) (by kernel_rfl) (by kernel_rfl) (fun _ _ _ h => h) (Or.inl ⟨by kernel_rfl, ?_⟩) (by assumption) ?_
        rotate_left
        · (intro wS hSw; (try dsimp only at hSw); (obtain ⟨g1, g2⟩ := hSw; go_simp); (all_goals (with_reducible rfl)))
        try go_frame
        refine tk_8 (v := ?_) (by kernel_rfl) (by kernel_rfl) (by kernel_rfl) (by kernel_rfl) (fun _ _ _ h => h) (Or.inl ⟨by kernel_rfl, ?_⟩) (by assumption) ?_
        rotate_left
        · (intro wS hSw; (try dsimp only at hSw); (go_simp); (all_goals (with_reducible rfl)))
        try go_frame
        refine tk_9 (v := ?_) (by kernel_rfl) (by kernel_rfl) (by kernel_rfl) (by kernel_rfl) (fun _ _ _ h => h) (Or.inl ⟨by kernel_rfl, ?_⟩) (by assumption) ?_
        rotate_left
        · (intro wS hSw; (try dsimp only at hSw); (go_simp); (all_goals (with_reducible rfl)))
        try go_frame
        refine wpAnyT_done (by kernel_rfl) ?_ _
        refine NoPanic.normal ?_
        clear s15 s2
        go_wp2_with fail
        with_reducible refine (RotateLeft32 x15 (-7) _ 7 rfl rfl (by decide) (by decide) _).mono ?_
        rintro e w' ⟨rfl, rfl⟩
        go_wp2_with fail
        with_reducible refine (RotateLeft32 x15 (-18) _ 18 rfl rfl (by decide) (by decide) _).mono ?_
        rintro e w' ⟨rfl, rfl⟩
        go_wp2_with fail
        with_reducible refine (RotateLeft32 x2 (-17) _ 17 rfl rfl (by decide) (by decide) _).mono ?_
        rintro e w' ⟨rfl, rfl⟩
        go_wp2_with fail
        with_reducible refine (RotateLeft32 x2 (-19) _ 19 rfl rfl (by decide) (by decide) _).mono ?_
        rintro e w' ⟨rfl, rfl⟩
        go_wp2_with fail
        have s16 := S16.out
        have s7 := S7.out
        refine wp_region_lasts (fun w' => w'.cell? ⟨w.heap.size + 1, k - 16, none⟩ = some (wv x16) ∧ w'.cell? ⟨w.heap.size + 1, k - 7, none⟩ = some (wv x7)) (fun i => i == 15) (by kernel_rfl) ⟨c16, c7⟩ (fun hHeld => ?_)
        refine tk_0 (v := ?_) (by kernel_rfl) (by kernel_rfl) (by kernel_rfl) (by kernel_rfl) (fun _ _ _ h => h) (Or.inl ⟨by kernel_rfl, ?_⟩) (by assumption) ?_
        rotate_left
        · (intro wS hSw; (try dsimp only at hSw); (go_simp); (all_goals (with_reducible rfl)))
        try go_frame
        refine tk_1 (v := ?_) (by kernel_rfl) (by kernel_rfl) (by kernel_rfl) (by kernel_rfl) (fun _ _ _ h => h) (Or.inl ⟨by kernel_rfl, ?_⟩) (by assumption) ?_
        rotate_left
        · (intro wS hSw; (try dsimp only at hSw); (go_simp); (all_goals (with_reducible rfl)))
        try go_frame
        refine tk_2 (v := ?_) (by kernel_rfl) (by kernel_rfl) (by kernel_rfl) (by kernel_rfl) (fun _ _ _ h => h) (Or.inl ⟨by kernel_rfl, ?_⟩) (by assumption) ?_
        rotate_left
        · (intro wS hSw; (try dsimp only at hSw); (go_simp); (all_goals (with_reducible rfl)))
        try go_frame
        refine tk_3 (v := ?_) (by kernel_rfl) (by kernel_rfl) (by kernel_rfl) (by kernel_rfl) (fun _ _ _ h => h) (Or.inl ⟨by kernel_rfl, ?_⟩) (by assumption) ?_
        rotate_left
        · (intro wS hSw; (try dsimp only at hSw); (go_simp); (all_goals (with_reducible rfl)))
        try go_frame
        refine tk_4 (v := ?_) (by kernel_rfl) (by kernel_rfl) (by kernel_rfl) (by kernel_rfl) (fun _ _ _ h => h) (Or.inl ⟨by kernel_rfl, ?_⟩) (by assumption) ?_
        rotate_left
        · (intro wS hSw; (try dsimp only at hSw); (obtain ⟨g1, g2⟩ := hSw; go_simp); (all_goals (with_reducible rfl)))
        try go_frame
        refine tk_5 (v := ?_) (by kernel_rfl) (by kernel_rfl) (by kernel_rfl) (by kernel_rfl) (fun _ _ _ h => h) (Or.inl ⟨by kernel_rfl, ?_⟩) (by assumption) ?_
        rotate_left
        · (intro wS hSw; (try dsimp only at hSw); (go_simp); (all_goals (with_reducible rfl)))
        try go_frame
        refine tk_6 (v := ?_) (by kernel_rfl) (by kernel_rfl) (by kernel_rfl) (by kernel_rfl) (fun _ _ _ h => h) (Or.inl ⟨by kernel_rfl, ?_⟩) (by assumption) ?_
        rotate_left
        · (intro wS hSw; (try dsimp only at hSw); (go_simp); (all_goals (with_reducible rfl)))
        try go_frame
        refine tk_7 (v := ?_) (by kernel_rfl) (by kernel_rfl) (by kernel_rfl) (by kernel_rfl) (fun _ _ _ h => h) (Or.inl ⟨by kernel_rfl, ?_⟩) (by assumption) ?_
        rotate_left
        · (intro wS hSw; (try dsimp only at hSw); (go_simp); (all_goals (with_reducible rfl)))
        try go_frame
        refine tk_8 (v := ?_) (by kernel_rfl) (by kernel_rfl) (by kernel_rfl) (by kernel_rfl) (fun _ _ _ h => h) (Or.inl ⟨by kernel_rfl, ?_⟩) (by assumption) ?_
        rotate_left
        · (intro wS hSw; (try dsimp only at hSw); (go_simp); (all_goals (with_reducible rfl)))
        try go_frame
        refine tk_9 (v := ?_) (by kernel_rfl) (by kernel_rfl) (by kernel_rfl) (by kernel_rfl) (fun _ _ _ h => h) (Or.inl ⟨by kernel_rfl, ?_⟩) (by assumption) ?_
        rotate_left
        · (intro wS hSw; (try dsimp only at hSw); (go_simp); (all_goals (with_reducible rfl)))
        try go_frame
        refine tk_10 (v := ?_) (by kernel_rfl) (by kernel_rfl) (by kernel_rfl) (by kernel_rfl) (fun _ _ _ h => h) (Or.inl ⟨by kernel_rfl, ?_⟩) (by assumption) ?_
        rotate_left
        · (intro wS hSw; (try dsimp only at hSw); (obtain ⟨g1, g2⟩ := hSw; go_simp); (all_goals (with_reducible rfl)))
        try go_frame
        refine tk_11 (v := ?_) (by kernel_rfl) (by kernel_rfl) (by kernel_rfl) (by kernel_rfl) (fun _ _ _ h => h) (Or.inl ⟨by kernel_rfl, ?_⟩) (by assumption) ?_
        rotate_left
        · (intro wS hSw; (try dsimp only at hSw); (go_simp); (all_goals (with_reducible rfl)))
        try go_frame
        refine tk_12 (v := ?_) (by kernel_rfl) (by kernel_rfl) (by kernel_rfl) (by kernel_rfl) (fun _ _ _ h => h) (Or.inl ⟨by kernel_rfl, ?_⟩) (by assumption) ?_
        rotate_left
        · (intro wS hSw; (try dsimp only at hSw); (go_simp); (all_goals (with_reducible rfl)))
        try go_frame
        refine tk_13 (v := ?_) (by kernel_rfl) (by kernel_rfl) (by kernel_rfl) (by kernel_rfl) (fun _ _ _ h => h) (Or.inl ⟨by kernel_rfl, ?_⟩) (by assumption) ?_
        rotate_left
        · (intro wS hSw; (try dsimp only at hSw); (go_simp); (all_goals (with_reducible rfl)))
        try go_frame
        refine tk_14 (v := ?_) (by kernel_rfl) (by kernel_rfl) (by kernel_rfl) (by kernel_rfl) (fun _ _ _ h => h) (Or.inl ⟨by kernel_rfl, ?_⟩) (by assumption) ?_
        rotate_left
        · (intro wS hSw; (try dsimp only at hSw); (go_simp); (all_goals (with_reducible rfl)))
        try go_frame
        refine dn_15 (by kernel_rfl) (fun K hK => ?_)
        rw [if_pos (by kernel_rfl)]
        go_simp
        refine hK.out _ _ (fun h => by cases h) (fun _ => ?_)
        clear hK K
        try go_frame
        refine wpAnyT_done (by kernel_rfl) ?_ _
        refine NoPanic.normal ?_
        clear s16 s7
        rw [sched_val, ← HW.out]
        have HN := Lib.hid (Sha.wrow_next b k (Sha.wAt b k) rfl)
        have HX := Lib.hid (Sha.wrow_set b k 0#32 (Sha.wAt b k))
        generalize Sha.wAt b k = v at *
        go_wp2_with fail
        go_roundw
        case rel => exact ⟨k + 1, by omega, by go_num, (hw.set k _).congr (fun i _ => (HX.out i).trans (HN.out i)), hres.setOther (by simp) _, (hbl.setCell (by simp) _).drew.drew⟩
        case measure => go_light; simp [intOf]; omega
    · obtain rfl : k = 64 := by omega
      have hw2 : wr.rowIs (w.heap.size + 1) 73 64 (fun i => wv (Sha.wAt b i)) := hw.congr (fun i hi => Sha.wrow_lo b 64 i _ hi)
      go_wp2_with (first | (refine wpList_load_arr (o := ⟨some 78, _, _, _, _, _⟩) rfl _ _ rfl hw2 rfl aggW64 ?_) | (refine wpList_store_arr (o := ⟨none, _, _, _, _, _⟩) rfl _ _ _ rfl hres rfl rfl aggW64 (fun _ _ => rfl) ?_; intro hres2))
      exact bodyPost_arr (p := 2) (by rfl) hres2 (by rfl) aggW64 (by rfl) ⟨rfl, below_setRow' hbl (Nat.le_refl _) _⟩
end Go.Proofs.YtafehbnnoncieaaDoor
