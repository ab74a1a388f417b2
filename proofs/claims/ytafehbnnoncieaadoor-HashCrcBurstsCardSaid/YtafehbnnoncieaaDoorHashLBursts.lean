/-
  Bursts: the walk of a statement. Conditions: none.
-/
import Derived.Test.YtafehbnnoncieaaDoorHashLCrc
namespace Go.Proofs.YtafehbnnoncieaaDoor
open Go.RowKit
theorem flips_succ_t {l : List UInt8} {first : Nat} {p : Nat → Bool} {k : Nat} (h : p k = true) : Crc.flips l first p (k + 1) = Crc.flipB (Crc.flips l first p k) (first + k) := by simp [Crc.flips, h]
theorem flips_succ_f {l : List UInt8} {first : Nat} {p : Nat → Bool} {k : Nat} (h : p k = false) : Crc.flips l first p (k + 1) = Crc.flips l first p k := by simp [Crc.flips, h]
theorem own_set {w : World} {base : Nat} {e : TypeId} {g cap n : Nat} {xs : List Value} (h : w.ownsRow base e 1 (.slice (some ⟨g, 0, none⟩) n cap) n xs) (q : Nat) (v : Value) : (w.setCell ⟨g, q, none⟩ v).ownsRow base e 1 (.slice (some ⟨g, 0, none⟩) n cap) n (xs.set q v) := by
  refine ⟨by rw [List.length_set]; exact h.1, ?_⟩
  rcases h.2 with ⟨h0, _⟩ | ⟨g', cap', cur, hv, hb, hh, h1, h2, h3, h4⟩
  · cases h0
  · injection hv with e1 e2 e3
    injection e1 with e1
    injection e1 with e1
    subst e1; subst e3
    refine .inr ⟨g, cap, cur.setIfInBounds q v, rfl, hb, ?_, h1, h2, by rw [Array.size_setIfInBounds]; exact h3, ?_⟩
    · rw [setCell_eq_setRow w g q cur e (0, 0) v hh]
      exact setRow_heap w g _ _ e _ hh
    · rw [Array.toList_setIfInBounds, List.take_set, h4]
theorem own_frozen {w : World} {base : Nat} {e : TypeId} {size : Nat} {g cap n : Nat} {xs : List Value} (h : w.ownsRow base e size (.slice (some ⟨g, 0, none⟩) n cap) n xs) (q : Nat) : w.frozen? ⟨g, q, none⟩ = false := by
  rcases h.2 with ⟨h0, _⟩ | ⟨g', cap', cur, hv, hb, hh, _⟩
  · cases h0
  · injection hv with e1
    injection e1 with e1
    injection e1 with e1
    subst e1
    simp [World.frozen?, hh]
theorem flip_val (u : UInt8) (sh : Nat) (h : sh ≤ 7) : Value.int .u8 (bits .xor .u8 (u.toNat : Int) (IntKind.u8.wrap ((2 : Int) ^ min sh 8))) = bv (u ^^^ UInt8.ofNat (2 ^ sh)) := by
  have h2 : 2 ^ sh ≤ 2 ^ 7 := Nat.pow_le_pow_right (by omega) h
  have h3 : ((2 : Int) ^ sh) = ((2 ^ sh : Nat) : Int) := by simp
  obtain ⟨t, ht⟩ : ∃ t : Nat, t = 2 ^ sh := ⟨_, rfl⟩
  rw [← ht] at h2 h3 ⊢
  unfold bv
  rw [Nat.min_eq_left (by omega), h3, IntKind.wrap_u8, show (t : Int) % 256 = (t : Int) from by omega, u8_xor_nat _ _ u.toNat_lt (by omega), UInt8.toNat_xor, UInt8.toNat_ofNat', Nat.mod_eq_of_lt (show t < 2 ^ 8 by omega)]
/-- Is one of the first k bits of the pattern set? -/
def anyB (p : Nat → Bool) (k : Nat) : Bool := (List.range k).any p
theorem anyB_succ (p : Nat → Bool) (k : Nat) : anyB p (k + 1) = (anyB p k || p k) := by simp [anyB, List.range_succ]
theorem anyB_none (p : Nat → Bool) (k : Nat) : anyB p k = false ↔ ∀ i, i < k → p i = false := by simp [anyB]

set_option maxHeartbeats 2000000 in
set_option maxRecDepth 100000 in
theorem bursts_walk (l : List UInt8) (x : Value) (at_ pat : Int) (w : World) (hl : Sl w x 1 l.length (l.map bv)) (ha0 : 0 ≤ at_) (ha1 : at_ ≤ 65535) (hp0 : 0 ≤ pat) (hp1 : pat ≤ 18446744073709551615) (hT : Nibs w ∧ Consts w) :
    Calls Tryd.prog 10 #[x, .int .u16 at_, .int .u64 pat] w fun e w' => e = .returned (.bool true) ∧ Below w.heap.size w w' := by
  obtain ⟨hN, hC⟩ := hT
  obtain ⟨L, hLl⟩ : ∃ L, L = l.length := ⟨_, rfl⟩
  rw [← hLl] at hl
  have HLL := Lib.hid hLl
  clear hLl
  obtain ⟨A, c, rfl, hnc, hcm, _⟩ := id hl
  unfold maxLen at hcm
  by_cases h : 0 < L ∧ L ≤ 400
  · obtain ⟨hl0, hl4⟩ := h
    obtain ⟨pn, hpn⟩ : ∃ pn : Nat, pat = pn := ⟨pat.toNat, by omega⟩
    have hpl : pn < 18446744073709551616 := by omega
    subst hpn
    obtain ⟨first, hf⟩ : ∃ f : Nat, at_.toNat % (8 * L) = f := ⟨_, rfl⟩
    have hfl : first < 8 * L := by rw [← hf]; exact Nat.mod_lt _ (by omega)
    have e1 : at_ % (8 * (L : Int)) = (first : Int) := by rw [← hf, Int.natCast_emod, Int.toNat_of_nonneg ha0]; simp
    have e2 : at_.tmod (8 * (L : Int)) = (first : Int) := by rw [Int.tmod_eq_emod_of_nonneg ha0]; exact e1
    have ez : ((L : Int) == 0) = false := by rw [beq_eq_false_iff_ne]; omega
    clear hf
    have HPL := Lib.hid hpl
    clear hpl hp0 hp1
    go_enter Tryd.func10, Tryd.ntmps10
    go_wp2_with fail
    refine (law_sanity _ hN hC).mono ?_
    rintro e w1 ⟨rfl, hb1⟩
    have hN1 := hN.below hb1
    have hl1 := hl.below hb1
    have hown0 := own_empty w1 5 w1.heap.size 1 (Nat.le_refl _)
    have hl2 := hl1.alloc (.cells #[] 5)
    have hB0 := (Below.refl w1.heap.size w1).alloc (Nat.le_refl _) (.cells #[] 5)
    go_wp2_with (at_builtin; refine wpList_append_all _ rfl _ _ _ rfl elBytes w1.heap.size _ _ _ rfl hown0 _ _ _ rfl hl2 (bvs_one l) (by omega) (by omega) (by simp) w1 w1.heap.size hB0 (Nat.le_refl _) ?_)
    intro v2 w2 hown2 hb2
    have hown3 : w2.ownsRow w1.heap.size 5 1 v2 L (l.map bv) := by simpa using hown2
    clear hown2 hown0 hl2 hB0
    obtain ⟨g8, c8, rfl, hg8, hg8'⟩ := hown3.form (by omega)
    go_wp2_with fail
    obtain ⟨p, hp⟩ : ∃ p : Nat → Bool, p = fun i => pn.testBit i := ⟨_, rfl⟩
    have HP := Lib.hid hp
    clear hp
    go_loopw [10, 11] (fun u10 u11 wr => ∃ k : Nat, k ≤ 40 ∧ first + k ≤ 8 * L ∧ u11 = .int .i64 k ∧ u10 = .bool (anyB p k) ∧ wr.ownsRow w1.heap.size 5 1 (.slice (some ⟨g8, 0, none⟩) L c8) L ((Crc.flips l first p k).map bv) ∧ Below w1.heap.size w1 wr) (fun _ u11 _ => 40 - (intOf u11).toNat)
    case atStart => exact ⟨0, by omega, by omega, rfl, rfl, hown3, hb2⟩
    case round =>
      clear hown3 hb2
      obtain ⟨k, hk, hfk, rfl, rfl, hown, hB⟩ := hrel
      by_cases hlt : k < 40 ∧ first + k < 8 * L
      · obtain ⟨hk40, hk8⟩ := hlt
        have hbit := bit_of pn k HPL.out
        have hpk : p k = pn.testBit k := by rw [HP.out]
        rw [← hpk] at hbit
        cases hpc : p k
        · rw [hpc] at hbit
          have hbit2 : (bits .and .u64 ((pn : Int) / 2 ^ k) 1 == 1) = false := by rw [hbit]; rfl
          have HFL := Lib.hid (flips_succ_f (l := l) (first := first) hpc)
          have HAN := Lib.hid (anyB_succ p k)
          have HPC := Lib.hid hpc
          clear hbit hpk hpc
          generalize hav : anyB p k = av at *
          have HAV := Lib.hid hav
          clear hav
          go_wp2_with fail
          go_roundw
          case rel => exact ⟨k + 1, by omega, by omega, by go_num, by rw [HAN.out, HPC.out, Bool.or_false], by rw [HFL.out]; exact hown, hB⟩
          case measure => go_light; simp [intOf]; omega
        · rw [hpc] at hbit
          have hbit2 : (bits .and .u64 ((pn : Int) / 2 ^ k) 1 == 1) = true := by rw [hbit]; rfl
          have HFL := Lib.hid (flips_succ_t (l := l) (first := first) hpc)
          have HAN := Lib.hid (anyB_succ p k)
          have HPC := Lib.hid hpc
          clear hbit hpk hpc
          generalize hav : anyB p k = av at *
          have HAV := Lib.hid hav
          have hlen : (Crc.flips l first p k).length = L := by rw [Crc.flips_length, HLL.out]
          obtain ⟨m, hm⟩ : ∃ m, m = first + k := ⟨_, rfl⟩
          have hm8 : m / 8 < L := by omega
          obtain ⟨q, hq⟩ : ∃ q, q = m / 8 := ⟨_, rfl⟩
          obtain ⟨u, hu⟩ : ∃ u, u = (Crc.flips l first p k).getD q 0 := ⟨_, rfl⟩
          have hcu : ((Crc.flips l first p k).map bv)[q]? = some (.int .u8 u.toNat) := by
            rw [List.getElem?_map, List.getElem?_eq_getElem (by omega), hu, List.getD_eq_getElem?_getD, List.getElem?_eq_getElem (by omega)]; rfl
          have hc := hown.cells (g := g8) rfl q _ hcu
          rw [Addr.add_lit, Nat.zero_add] at hc
          have hfr := own_frozen hown q
          have HM := Lib.hid hm
          have HQ := Lib.hid hq
          have HU := Lib.hid hu
          have hm1 : (first : Int) + (k : Int) = (m : Int) := by omega
          have hql : (q : Int) < (L : Int) := by omega
          clear hav hu hcu hm hq
          go_wp2_with fail
          have d1 : IntKind.i64.wrap ((m : Int).tdiv 8) = (q : Int) := by rw [Int.tdiv_eq_ediv_of_nonneg (by omega), IntKind.wrap_i64]; have := HQ.out; omega
          have d2 : IntKind.i64.wrap ((m : Int) / 8) = (q : Int) := by rw [IntKind.wrap_i64]; have := HQ.out; omega
          obtain ⟨r, hr⟩ : ∃ r, r = m % 8 := ⟨_, rfl⟩
          have HR := Lib.hid hr
          obtain ⟨sh, hsh⟩ : ∃ sh, sh = 7 - r := ⟨_, rfl⟩
          have HSH := Lib.hid hsh
          have d3 : (m : Int).tmod 8 = (r : Int) := by rw [Int.tmod_eq_emod_of_nonneg (by omega)]; omega
          have d3' : (m : Int) % 8 = (r : Int) := by omega
          have d4 : IntKind.i64.wrap (7 - (r : Int)) = (sh : Int) := by rw [IntKind.wrap_i64]; omega
          have hsh0 : (0 : Int) ≤ (sh : Int) := by omega
          clear hsh hr
          refine wp_region_lasts (fun w' => w'.cell? ⟨g8, q, none⟩ = some (.int .u8 u.toNat)) (fun i => i == 14) (by kernel_rfl) hc (fun hHeld => ?_)
          refine tk_0 (v := ?_) (by kernel_rfl) (by kernel_rfl) (by kernel_rfl) (by kernel_rfl) (fun _ _ _ h => h) (Or.inl ⟨by kernel_rfl, ?_⟩) (by assumption) ?_
          rotate_left
          · (intro wS hSw; (try dsimp only at hSw); (go_simp); (all_goals (with_reducible rfl)))
          try go_frame
          refine tk_1 (v := ?_) (by kernel_rfl) (by kernel_rfl) (by kernel_rfl) (by kernel_rfl) (fun _ _ _ h => h) (Or.inl ⟨by kernel_rfl, ?_⟩) (by assumption) ?_
          rotate_left
          · (intro wS hSw; (try dsimp only at hSw); (go_simp); (all_goals (with_reducible rfl)))
          try go_frame
          refine tk_2 (v := ?_) (by kernel_rfl) (by kernel_rfl) (by kernel_rfl) (by kernel_rfl) (fun _ _ _ h => h) (Or.inl ⟨by kernel_rfl, ?_⟩) (by assumption) ?_
          rotate_left
          · (intro wS hSw; (try dsimp only at hSw); (go_simp); (all_goals (with_reducible rfl)))
          try go_frame
          refine tk_3 (v := ?_) (by kernel_rfl) (by kernel_rfl) (by kernel_rfl) (by kernel_rfl) (fun _ _ _ h => h) (Or.inl ⟨by kernel_rfl, ?_⟩) (by assumption) ?_
          rotate_left
          · (intro wS hSw; (try dsimp only at hSw); (go_simp); (all_goals (with_reducible rfl)))
          try go_frame
          refine tk_4 (v := ?_) (by kernel_rfl) (by kernel_rfl) (by kernel_rfl) (by kernel_rfl) (fun _ _ _ h => h) (Or.inl ⟨by kernel_rfl, ?_⟩) (by assumption) ?_
          rotate_left
          · (intro wS hSw; (try dsimp only at hSw); (go_simp); (all_goals (with_reducible rfl)))
          try go_frame
          refine tk_5 (v := ?_) (by kernel_rfl) (by kernel_rfl) (by kernel_rfl) (by kernel_rfl) (fun _ _ _ h => h) (Or.inl ⟨by kernel_rfl, ?_⟩) (by assumption) ?_
          rotate_left
          · (intro wS hSw; (try dsimp only at hSw); (go_simp); (all_goals (with_reducible rfl)))
          try go_frame
          refine tk_6 (v := ?_) (by kernel_rfl) (by kernel_rfl) (by kernel_rfl) (by kernel_rfl) (fun _ _ _ h => h) (Or.inl ⟨by kernel_rfl, ?_⟩) (by assumption) ?_
          rotate_left
          · (intro wS hSw; (try dsimp only at hSw); (go_simp); (all_goals (with_reducible rfl)))
          try go_frame
          refine tk_7 (v := ?_) (by kernel_rfl) (by kernel_rfl) (by kernel_rfl) (by kernel_rfl) (fun _ _ _ h => h) (Or.inl ⟨by kernel_rfl, ?_⟩) (by assumption) ?_
          rotate_left
          · (intro wS hSw; (try dsimp only at hSw); (go_simp); (all_goals (with_reducible rfl)))
          try go_frame
          refine tk_8 (v := ?_) (by kernel_rfl) (by kernel_rfl) (by kernel_rfl) (by kernel_rfl) (fun _ _ _ h => h) (Or.inl ⟨by kernel_rfl, ?_⟩) (by assumption) ?_
          rotate_left
          · (intro wS hSw; (try dsimp only at hSw); (go_simp); (all_goals (with_reducible rfl)))
          try go_frame
          refine tk_9 (v := ?_) (by kernel_rfl) (by kernel_rfl) (by kernel_rfl) (by kernel_rfl) (fun _ _ _ h => h) (Or.inl ⟨by kernel_rfl, ?_⟩) (by assumption) ?_
          rotate_left
          · (intro wS hSw; (try dsimp only at hSw); (go_simp); (all_goals (with_reducible rfl)))
          try go_frame
          refine tk_10 (v := ?_) (by kernel_rfl) (by kernel_rfl) (by kernel_rfl) (by kernel_rfl) (fun _ _ _ h => h) (Or.inl ⟨by kernel_rfl, ?_⟩) (by assumption) ?_
          rotate_left
          · (intro wS hSw; (try dsimp only at hSw); (go_simp); (all_goals (with_reducible rfl)))
          try go_frame
          refine tk_11 (v := ?_) (by kernel_rfl) (by kernel_rfl) (by kernel_rfl) (by kernel_rfl) (fun _ _ _ h => h) (Or.inl ⟨by kernel_rfl, ?_⟩) (by assumption) ?_
          rotate_left
          · (intro wS hSw; (try dsimp only at hSw); (go_simp); (all_goals (with_reducible rfl)))
          try go_frame
          refine tk_12 (v := ?_) (by kernel_rfl) (by kernel_rfl) (by kernel_rfl) (by kernel_rfl) (fun _ _ _ h => h) (Or.inl ⟨by kernel_rfl, ?_⟩) (by assumption) ?_
          rotate_left
          · (intro wS hSw; (try dsimp only at hSw); (go_simp); (all_goals (with_reducible rfl)))
          try go_frame
          refine tk_13 (v := ?_) (by kernel_rfl) (by kernel_rfl) (by kernel_rfl) (by kernel_rfl) (fun _ _ _ h => h) (Or.inl ⟨by kernel_rfl, ?_⟩) (by assumption) ?_
          rotate_left
          · (intro wS hSw; (try dsimp only at hSw); (go_simp); (all_goals (with_reducible rfl)))
          try go_frame
          refine dn_14 (by kernel_rfl) (fun K hK => ?_)
          rw [if_pos (by kernel_rfl)]
          go_simp
          refine hK.out _ _ (fun h => by cases h) (fun _ => ?_)
          clear hK K
          try go_frame
          refine wpAnyT_done (by kernel_rfl) ?_ _
          refine NoPanic.normal ?_
          clear d1 d2 d3 d3' d4
          rw [flip_val u sh (by have := HSH.out; omega)]
          have hownN : ((wr.setCell ⟨g8, q, none⟩ (bv (u ^^^ UInt8.ofNat (2 ^ sh)))).drew).ownsRow w1.heap.size 5 1 (.slice (some ⟨g8, 0, none⟩) L c8) L ((Crc.flips l first p (k + 1)).map bv) := by
            have h := own_set hown q (bv (u ^^^ UInt8.ofNat (2 ^ sh)))
            rw [HFL.out]
            unfold Crc.flipB
            rw [← HM.out, ← HQ.out, List.map_set, ← HU.out, ← HR.out, ← HSH.out]
            exact h
          have hBN := (hB.setCell (p := ⟨g8, q, none⟩) hg8 (bv (u ^^^ UInt8.ofNat (2 ^ sh)))).drew
          generalize (wr.setCell ⟨g8, q, none⟩ (bv (u ^^^ UInt8.ofNat (2 ^ sh)))).drew = w5 at *
          clear hown hB hc hfr hm1
          go_wp2_with fail
          go_roundw
          case rel =>
            first
              | exact ⟨k + 1, by omega, by omega, by go_num, by rw [HAN.out, HPC.out, Bool.or_true], hownN, hBN⟩
              | (repeat apply Exists.intro
                 exact ⟨⟨k + 1, by omega, by omega, by go_num, by rw [HAN.out, HPC.out, Bool.or_true], hownN, hBN⟩, rfl⟩)
          case measure => go_light; simp [intOf]; omega
      · have hend : k = 40 ∨ (k < 40 ∧ first + k = 8 * L) := by omega
        have hbc := Crc.burst_crc l first k p hk (by rw [← HLL.out]; exact hfk)
        have hfle : (Crc.flips l first p k).length = L := by rw [Crc.flips_length, HLL.out]
        have hsl : Sl wr (.slice (some ⟨g8, 0, none⟩) L c8) 1 (Crc.flips l first p k).length ((Crc.flips l first p k).map bv) := by rw [hfle]; exact Sl.of_own hown
        have hlr : Sl wr (.slice A L c) 1 l.length (l.map bv) := by rw [← HLL.out]; exact hl1.below hB
        have hNr := hN1.below hB
        have hlb1 : l.length ≤ 140737488355328 := by rw [← HLL.out]; omega
        have hlb2 : (Crc.flips l first p k).length ≤ 140737488355328 := by omega
        have HB1 := Lib.hid hlb1
        have HB2 := Lib.hid hlb2
        cases hav : anyB p k
        · have hcr := hbc.2 ((anyB_none p k).1 hav)
          have hval : crcVal (Crc.flips l first p k) = crcVal l := by unfold crcVal; rw [hcr]
          obtain ⟨z, hz, _⟩ := crcVal_lt l
          rw [hz] at hval
          have HZ1 := Lib.hid hz
          have HZ2 := Lib.hid hval
          clear hz hval hcr hbc hav hlb1 hlb2 hlt hfle
          rcases hend with rfl | ⟨hk1, hk2⟩
          all_goals
            go_wp2_with fail
            refine (hash_Crc40 l _ _ hlr hNr HB1.out).mono ?_
            rw [HZ1.out]
            rintro e w5 ⟨rfl, hb5⟩
            go_wp2_with fail
            refine (hash_Crc40 _ _ _ (hsl.below hb5) (hNr.below hb5) HB2.out).mono ?_
            rw [HZ2.out]
            rintro e w6 ⟨rfl, hb6⟩
            go_wp2_with fail
            go_ret
            exact ⟨rfl, bl_on (bl_on (bl_on hb1 hB) hb5) hb6⟩
        · have hne : Crc.crc (Crc.flips l first p k) ≠ Crc.crc l := fun h => by
            have := (anyB_none p k).2 (hbc.1 h)
            rw [this] at hav; cases hav
          have hz1 : crcVal l = .int .i64 (Crc.crc l).toNat := rfl
          have hz2 : crcVal (Crc.flips l first p k) = .int .i64 (Crc.crc (Crc.flips l first p k)).toNat := rfl
          have hzn : (Crc.crc l).toNat ≠ (Crc.crc (Crc.flips l first p k)).toNat := fun h => hne (BitVec.eq_of_toNat_eq h.symm)
          have hzd : (((Crc.crc l).toNat : Int) == ((Crc.crc (Crc.flips l first p k)).toNat : Int)) = false := by rw [beq_eq_false_iff_ne]; omega
          generalize (Crc.crc l).toNat = z1 at *
          generalize (Crc.crc (Crc.flips l first p k)).toNat = z2 at *
          have HZ1 := Lib.hid hz1
          have HZ2 := Lib.hid hz2
          clear hz1 hz2 hzn hne hbc hav hlb1 hlb2 hlt hfle
          rcases hend with rfl | ⟨hk1, hk2⟩
          all_goals
            go_wp2_with fail
            refine (hash_Crc40 l _ _ hlr hNr HB1.out).mono ?_
            rw [HZ1.out]
            rintro e w5 ⟨rfl, hb5⟩
            go_wp2_with fail
            refine (hash_Crc40 _ _ _ (hsl.below hb5) (hNr.below hb5) HB2.out).mono ?_
            rw [HZ2.out]
            rintro e w6 ⟨rfl, hb6⟩
            go_wp2_with fail
            go_ret
            exact ⟨rfl, bl_on (bl_on (bl_on hb1 hB) hb5) hb6⟩
  · have hcase : L = 0 ∨ 400 < L := by omega
    clear h
    rcases hcase with h | h
    · have ez : ((L : Int) == 0) = true := by rw [beq_iff_eq]; omega
      clear h
      go_enter Tryd.func10, Tryd.ntmps10
      go_wp2_with fail
      refine (law_sanity _ hN hC).mono ?_
      rintro e w1 ⟨rfl, hb1⟩
      go_wp2_with fail
      go_ret
      exact ⟨rfl, hb1⟩
    · have ez : ((L : Int) == 0) = false := by rw [beq_eq_false_iff_ne]; omega
      go_enter Tryd.func10, Tryd.ntmps10
      go_wp2_with fail
      refine (law_sanity _ hN hC).mono ?_
      rintro e w1 ⟨rfl, hb1⟩
      go_wp2_with fail
      go_ret
      exact ⟨rfl, hb1⟩
end Go.Proofs.YtafehbnnoncieaaDoor
