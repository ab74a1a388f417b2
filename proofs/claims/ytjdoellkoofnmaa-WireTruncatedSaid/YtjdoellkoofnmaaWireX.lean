/-
  The law on encodings that are cut: the walk. Conditions: the strings' lengths add up to less than 2^40.
-/
import Derived.Test.YtjdoellkoofnmaaWireW
namespace Go.Proofs.Ytjdoellkoofnmaa
open Go.RowKit
theorem trunc_bytes {s : ByteArray} (h : s.size ≤ 1152921504606846976) {i : Nat} (hi : i < (encBytes s).length) : (getBytes ((encBytes s).take i)).2.2 = 10 := by
  rw [encBytes_eq] at hi ⊢
  exact getBytes_trunc (by rw [Array.length_toList]; exact h) hi
theorem trunc_ints {l : List Int} (hg : ∀ n ∈ l, I64 n) (hn : l.length ≤ 1152921504606846976) {i : Nat} (hi : i < (encInts l).length) : (getList getInt 1 ((encInts l).take i)).2.2 = 10 := by
  rw [encInts_eq] at hi ⊢
  exact getList_trunc codecInt hg hn hi
theorem trunc_strings {x : List ByteArray} (h : x.length + sizes x ≤ 1152921504606846976) {i : Nat} (hi : i < (encStrings x).length) : (getList getBytes 1 ((encStrings x).take i)).2.2 = 10 := by
  rw [encStrings_eq] at hi ⊢
  exact getList_trunc codecBytes (short_of (by omega)) (by rw [List.length_map]; omega) hi
theorem cut_of {w : World} {X : Option Addr} {E : List UInt8} {j m d : Nat} (hm : m = j) (hj : j ≤ E.length) (h : Sl w (.slice X m d) 1 m ((E.map bv).take (m * 1))) : Sl w (.slice X m d) 1 (E.take j).length ((E.take j).map bv) := by
  subst hm
  rw [List.length_take, Nat.min_eq_left hj, List.map_take]
  rwa [Nat.mul_one] at h
set_option maxHeartbeats 4000000 in
set_option maxRecDepth 100000 in
theorem truncated_walk (n : Int) (s : ByteArray) (l : List Int) (x : List ByteArray) (d : List (List UInt8)) (vl vx vd : Value) (w : World) (hn : I64 n) (hg : ∀ n ∈ l, I64 n) (hd : ∀ e ∈ d, e.length = 16)
    (hl : Sl w vl 1 l.length (l.map iv)) (hx : Sl w vx 1 x.length (x.map Value.string)) (hdd : Sl w vd 16 d.length (flat d)) (b1 : s.size ≤ 140737488351232) (b2 : l.length ≤ 140737488351232) (b3 : x.length ≤ 40 → sizes x ≤ 1000000000000000000) (b4 : d.length ≤ 140737488351232) :
    Calls Try.prog 9 #[.int .i64 n, .string s, vl, vx, vd] w (Says true w) := by
  obtain ⟨Al, cl, rfl, hncl, hcml, hl0⟩ := hl.open_
  obtain ⟨Ad, cd, rfl, hncd, hcmd, hd0⟩ := hdd.open_
  obtain ⟨Ax, cx, rfl, hncx, hcmx, hx0⟩ := hx.open_
  clear hl hdd hx
  have t1 := encBytes_len_le s (by omega)
  have t2 := encInts_len_le hg (by omega)
  have t4 := encDigests_len_le hd (by omega)
  have t0 := (encInt_len hn).2
  by_cases hlen : 400 < s.size + 10 * l.length + 16 * d.length ∨ 40 < x.length
  · rcases Nat.lt_or_ge 400 (s.size + 10 * l.length + 16 * d.length) with h | h
    all_goals
      go_enter Try.func9, Try.ntmps9
      go_wp2_with fail
      refine (sanity_true _).mono ?_
      rintro e w1 ⟨rfl, hb1⟩
      go_wp2_with fail
      go_ret
      exact ⟨rfl, hb1⟩
  · have hlen1 : s.size + 10 * l.length + 16 * d.length ≤ 400 := by omega
    have hlen2 : x.length ≤ 40 := by omega
    clear hlen
    replace b3 : x.length + sizes x ≤ 1152921504606846976 := by have := b3 hlen2; omega
    have t3 := encStrings_len_le b3
    by_cases hfew : (x.length : Int) + (sizes x : Int) ≤ 2000
    · have HF := Lib.hid (decide_eq_true hfew)
      go_enter Try.func9, Try.ntmps9
      go_wp2_with fail
      refine (few_any x _ _ hx0 b3).mono ?_
      rintro e w1 ⟨rfl, rfl⟩
      rw [HF.out]
      go_wp2_with fail
      refine (wire_Int n _ hn.1 hn.2).mono ?_
      rintro e w0 ⟨v0, rfl, hE0, hb0⟩
      replace hE0 := Sl.of_own hE0
      replace hl0 := hl0.below hb0
      replace hd0 := hd0.below hb0
      replace hx0 := hx0.below hb0
      go_wp2_with fail
      refine (wire_Bytes s _ (by omega)).mono ?_
      rintro e w1 ⟨v1, rfl, hE1, hb1⟩
      replace hE1 := Sl.of_own hE1
      replace hE0 := hE0.below hb1
      replace hl0 := hl0.below hb1
      replace hd0 := hd0.below hb1
      replace hx0 := hx0.below hb1
      replace hb1 := bl_next hb0 hb1
      clear hb0
      go_wp2_with fail
      refine (wire_Ints l _ _ hl0 hg (by omega) (by omega)).mono ?_
      rintro e w2 ⟨v2, rfl, hE2, hb2⟩
      replace hE2 := Sl.of_own hE2
      replace hE0 := hE0.below hb2
      replace hE1 := hE1.below hb2
      replace hd0 := hd0.below hb2
      replace hx0 := hx0.below hb2
      replace hb2 := bl_next hb1 hb2
      clear hb1 hl0
      go_wp2_with fail
      refine (wire_Strings x _ _ hx0 (by omega) (by omega)).mono ?_
      rintro e w3 ⟨v3, rfl, hE3, hb3⟩
      replace hE3 := Sl.of_own hE3
      replace hE0 := hE0.below hb3
      replace hE1 := hE1.below hb3
      replace hE2 := hE2.below hb3
      replace hd0 := hd0.below hb3
      replace hb3 := bl_next hb2 hb3
      clear hb2 hx0
      go_wp2_with fail
      refine (wire_Digests d _ _ hd0 hd (by omega) (by omega)).mono ?_
      rintro e w4 ⟨v4, rfl, hE4, hb4⟩
      replace hE4 := Sl.of_own hE4
      replace hE0 := hE0.below hb4
      replace hE1 := hE1.below hb4
      replace hE2 := hE2.below hb4
      replace hE3 := hE3.below hb4
      replace hb4 := bl_next hb3 hb4
      clear hb3 hd0
      obtain ⟨A0, c0, rfl, _, _, hE0⟩ := hE0.open_
      obtain ⟨A1, c1, rfl, _, _, hE1⟩ := hE1.open_
      obtain ⟨A2, c2, rfl, _, _, hE2⟩ := hE2.open_
      obtain ⟨A3, c3, rfl, _, _, hE3⟩ := hE3.open_
      obtain ⟨A4, c4, rfl, _, _, hE4⟩ := hE4.open_
      have T0 := Lib.hid (fun i (hi : i < (encInt n).length) => (congrArg (fun r => r.2.2) (getInt_trunc hn hi)))
      have T1 := Lib.hid (fun i (hi : i < (encBytes s).length) => trunc_bytes (by omega) hi)
      have T2 := Lib.hid (fun i (hi : i < (encInts l).length) => trunc_ints hg (by omega) hi)
      have T3 := Lib.hid (fun i (hi : i < (encStrings x).length) => trunc_strings b3 hi)
      have T4 := Lib.hid (fun i (hi : i < (encDigests d).length) => getDigests_trunc hd (by omega) hi)
      generalize encInt n = E0 at *
      generalize encBytes s = E1 at *
      generalize encInts l = E2 at *
      generalize encStrings x = E3 at *
      generalize encDigests d = E4 at *
      go_wp2_with fail
      have hbW := bl_alloc hb4 (.cells #[.slice A0 E0.length c0, .slice A1 E1.length c1, .slice A2 E2.length c2, .slice A3 E3.length c3, .slice A4 E4.length c4] 28)
      have S0 := hE0.alloc (.cells #[.slice A0 E0.length c0, .slice A1 E1.length c1, .slice A2 E2.length c2, .slice A3 E3.length c3, .slice A4 E4.length c4] 28)
      have X0 : (w4.alloc (.cells #[.slice A0 E0.length c0, .slice A1 E1.length c1, .slice A2 E2.length c2, .slice A3 E3.length c3, .slice A4 E4.length c4] 28)).cell? ⟨w4.heap.size, 0, none⟩ = some (.slice A0 E0.length c0) := by rw [World.cell?_alloc_at _ _ _ _ rfl]; rfl
      have S1 := hE1.alloc (.cells #[.slice A0 E0.length c0, .slice A1 E1.length c1, .slice A2 E2.length c2, .slice A3 E3.length c3, .slice A4 E4.length c4] 28)
      have X1 : (w4.alloc (.cells #[.slice A0 E0.length c0, .slice A1 E1.length c1, .slice A2 E2.length c2, .slice A3 E3.length c3, .slice A4 E4.length c4] 28)).cell? ⟨w4.heap.size, 1, none⟩ = some (.slice A1 E1.length c1) := by rw [World.cell?_alloc_at _ _ _ _ rfl]; rfl
      have S2 := hE2.alloc (.cells #[.slice A0 E0.length c0, .slice A1 E1.length c1, .slice A2 E2.length c2, .slice A3 E3.length c3, .slice A4 E4.length c4] 28)
      have X2 : (w4.alloc (.cells #[.slice A0 E0.length c0, .slice A1 E1.length c1, .slice A2 E2.length c2, .slice A3 E3.length c3, .slice A4 E4.length c4] 28)).cell? ⟨w4.heap.size, 2, none⟩ = some (.slice A2 E2.length c2) := by rw [World.cell?_alloc_at _ _ _ _ rfl]; rfl
      have S3 := hE3.alloc (.cells #[.slice A0 E0.length c0, .slice A1 E1.length c1, .slice A2 E2.length c2, .slice A3 E3.length c3, .slice A4 E4.length c4] 28)
      have X3 : (w4.alloc (.cells #[.slice A0 E0.length c0, .slice A1 E1.length c1, .slice A2 E2.length c2, .slice A3 E3.length c3, .slice A4 E4.length c4] 28)).cell? ⟨w4.heap.size, 3, none⟩ = some (.slice A3 E3.length c3) := by rw [World.cell?_alloc_at _ _ _ _ rfl]; rfl
      have S4 := hE4.alloc (.cells #[.slice A0 E0.length c0, .slice A1 E1.length c1, .slice A2 E2.length c2, .slice A3 E3.length c3, .slice A4 E4.length c4] 28)
      have X4 : (w4.alloc (.cells #[.slice A0 E0.length c0, .slice A1 E1.length c1, .slice A2 E2.length c2, .slice A3 E3.length c3, .slice A4 E4.length c4] 28)).cell? ⟨w4.heap.size, 4, none⟩ = some (.slice A4 E4.length c4) := by rw [World.cell?_alloc_at _ _ _ _ rfl]; rfl
      have hgt : w4.heap.size < (w4.alloc (.cells #[.slice A0 E0.length c0, .slice A1 E1.length c1, .slice A2 E2.length c2, .slice A3 E3.length c3, .slice A4 E4.length c4] 28)).heap.size := by simp
      generalize w4.alloc (.cells #[.slice A0 E0.length c0, .slice A1 E1.length c1, .slice A2 E2.length c2, .slice A3 E3.length c3, .slice A4 E4.length c4] 28) = W at *
      go_loopw [49] (fun i wr => ∃ k : Int, 0 ≤ k ∧ k ≤ 5 ∧ i = .int .i64 k ∧ Below W.heap.size W wr) (fun i _ => 5 - (intOf i).toNat)
      case atStart => exact ⟨0, by omega, by omega, rfl, Below.refl _ _⟩
      case round =>
        obtain ⟨k, hk0, hk, rfl, hbr⟩ := hrel
        obtain ⟨wo, rfl⟩ : ∃ wo : World, wo = wr := ⟨_, rfl⟩
        rcases (show k = 0 ∨ k = 1 ∨ k = 2 ∨ k = 3 ∨ k = 4 ∨ k = 5 by omega) with rfl | rfl | rfl | rfl | rfl | rfl
        · have hX : wo.cell? ⟨w4.heap.size, 0, none⟩ = some (.slice A0 E0.length c0) := (hbr.cell hgt).trans X0
          have hle0 := S0.le_cap
          have hle1 := hle0.1
          have hle2 : c0 ≤ 9223372036854775807 := by have := hle0.2; unfold maxLen at this; omega
          have h500 : E0.length ≤ 500 := by omega
          all_goals
            go_wp2_with fail
            go_loopw [57] (fun i wr => ∃ j : Nat, j ≤ E0.length ∧ j ≤ 500 ∧ i = .int .i64 (j : Int) ∧ Below W.heap.size W wr) (fun i _ => 500 - (intOf i).toNat)
            case atStart => exact ⟨0, by omega, by omega, rfl, hbr⟩
            case round =>
              obtain ⟨j, hj, hj5, rfl, hbr2⟩ := hrel
              by_cases hlt : j < E0.length ∧ j < 500
              · obtain ⟨hlt1, hlt2⟩ := hlt
                have hsl := S0.below hbr2
                have hcut := hsl.firstn j (by omega)
                have HT := Lib.hid (T0.out j hlt1)
                have hslx := hsl
                go_wp2_with (refine wpList_slice_h (o := ⟨some 74, _, _, _, _, _⟩) rfl _ _ _ rfl elBytes rfl hslx _ j rfl rfl (by omega) ?_; intro X d m hm hs1; have HM := Lib.hid hm; clear hm)
                refine (wire_GetInt (E0.take j) _ _ (cut_of HM.out (by omega) hs1)).mono ?_
                rintro e w5 ⟨rfl, rfl⟩
                unfold trip
                rw [HT.out]
                go_wp2_with fail
                go_roundw
                case rel => exact ⟨j + 1, by omega, by omega, by go_num, hbr2⟩
                case measure => simp [intOf]; omega
              · go_wp2_with fail
                go_roundw
                case rel => exact ⟨0 + 1, by omega, by omega, by first | rfl | go_num, hbr2⟩
                case measure => simp [intOf]
        · have hX : wo.cell? ⟨w4.heap.size, 1, none⟩ = some (.slice A1 E1.length c1) := (hbr.cell hgt).trans X1
          have hlec := S1.le_cap
          have hle1 := hlec.1
          have hle2 : c1 ≤ 9223372036854775807 := by have := hlec.2; unfold maxLen at this; omega
          have h500 : E1.length ≤ 500 := by omega
          all_goals
            go_wp2_with fail
            go_loopw [57] (fun i wr => ∃ j : Nat, j ≤ E1.length ∧ j ≤ 500 ∧ i = .int .i64 (j : Int) ∧ Below W.heap.size W wr) (fun i _ => 500 - (intOf i).toNat)
            case atStart => exact ⟨0, by omega, by omega, rfl, hbr⟩
            case round =>
              obtain ⟨j, hj, hj5, rfl, hbr2⟩ := hrel
              by_cases hlt : j < E1.length ∧ j < 500
              · obtain ⟨hlt1, hlt2⟩ := hlt
                have hsl := S1.below hbr2
                have hcut := hsl.firstn j (by omega)
                have HT := Lib.hid (T1.out j hlt1)
                have hslx := hsl
                go_wp2_with (refine wpList_slice_h (o := ⟨some 84, _, _, _, _, _⟩) rfl _ _ _ rfl elBytes rfl hslx _ j rfl rfl (by omega) ?_; intro X d m hm hs1; have HM := Lib.hid hm; clear hm)
                refine (wire_GetBytes (E1.take j) _ _ (cut_of HM.out (by omega) hs1)).mono ?_
                rintro e w5 ⟨rfl, rfl⟩
                unfold tripB
                rw [HT.out]
                go_wp2_with fail
                go_roundw
                case rel => exact ⟨j + 1, by omega, by omega, by go_num, hbr2⟩
                case measure => simp [intOf]; omega
              · go_wp2_with fail
                go_roundw
                case rel => exact ⟨1 + 1, by omega, by omega, by first | rfl | go_num, hbr2⟩
                case measure => simp [intOf]
        · have hX : wo.cell? ⟨w4.heap.size, 2, none⟩ = some (.slice A2 E2.length c2) := (hbr.cell hgt).trans X2
          have hle2 := S2.le_cap
          have hle1 := hle2.1
          have hle2 : c2 ≤ 9223372036854775807 := by have := hle2.2; unfold maxLen at this; omega
          have h500 : E2.length ≤ 500 := by omega
          all_goals
            go_wp2_with fail
            go_loopw [57] (fun i wr => ∃ j : Nat, j ≤ E2.length ∧ j ≤ 500 ∧ i = .int .i64 (j : Int) ∧ Below W.heap.size W wr) (fun i _ => 500 - (intOf i).toNat)
            case atStart => exact ⟨0, by omega, by omega, rfl, hbr⟩
            case round =>
              obtain ⟨j, hj, hj5, rfl, hbr2⟩ := hrel
              by_cases hlt : j < E2.length ∧ j < 500
              · obtain ⟨hlt1, hlt2⟩ := hlt
                have hsl := S2.below hbr2
                have hcut := hsl.firstn j (by omega)
                have HT := Lib.hid (T2.out j hlt1)
                have hslx := hsl
                go_wp2_with (refine wpList_slice_h (o := ⟨some 94, _, _, _, _, _⟩) rfl _ _ _ rfl elBytes rfl hslx _ j rfl rfl (by omega) ?_; intro X d m hm hs1; have HM := Lib.hid hm; clear hm)
                refine (wire_GetInts (E2.take j) _ _ (cut_of HM.out (by omega) hs1) (by rw [List.length_take]; omega)).mono ?_
                rintro e w5 ⟨v5, rfl, _, hb5⟩
                rw [HT.out]
                go_wp2_with fail
                go_roundw
                case rel => exact ⟨j + 1, by omega, by omega, by go_num, bl_next hbr2 hb5⟩
                case measure => simp [intOf]; omega
              · go_wp2_with fail
                go_roundw
                case rel => exact ⟨2 + 1, by omega, by omega, by first | rfl | go_num, hbr2⟩
                case measure => simp [intOf]
        · have hX : wo.cell? ⟨w4.heap.size, 3, none⟩ = some (.slice A3 E3.length c3) := (hbr.cell hgt).trans X3
          have hle3 := S3.le_cap
          have hle1 := hle3.1
          have hle2 : c3 ≤ 9223372036854775807 := by have := hle3.2; unfold maxLen at this; omega
          by_cases h500 : E3.length ≤ 500
          all_goals
            go_wp2_with fail
            go_loopw [57] (fun i wr => ∃ j : Nat, j ≤ E3.length ∧ j ≤ 500 ∧ i = .int .i64 (j : Int) ∧ Below W.heap.size W wr) (fun i _ => 500 - (intOf i).toNat)
            case atStart => exact ⟨0, by omega, by omega, rfl, hbr⟩
            case round =>
              obtain ⟨j, hj, hj5, rfl, hbr2⟩ := hrel
              by_cases hlt : j < E3.length ∧ j < 500
              · obtain ⟨hlt1, hlt2⟩ := hlt
                have hsl := S3.below hbr2
                have hcut := hsl.firstn j (by omega)
                have HT := Lib.hid (T3.out j hlt1)
                have hslx := hsl
                go_wp2_with (refine wpList_slice_h (o := ⟨some 104, _, _, _, _, _⟩) rfl _ _ _ rfl elBytes rfl hslx _ j rfl rfl (by omega) ?_; intro X d m hm hs1; have HM := Lib.hid hm; clear hm)
                refine (wire_GetStrings (E3.take j) _ _ (cut_of HM.out (by omega) hs1) (by rw [List.length_take]; omega)).mono ?_
                rintro e w5 ⟨v5, rfl, _, hb5⟩
                rw [HT.out]
                go_wp2_with fail
                go_roundw
                case rel => exact ⟨j + 1, by omega, by omega, by go_num, bl_next hbr2 hb5⟩
                case measure => simp [intOf]; omega
              · go_wp2_with fail
                go_roundw
                case rel => exact ⟨3 + 1, by omega, by omega, by first | rfl | go_num, hbr2⟩
                case measure => simp [intOf]
        · have hX : wo.cell? ⟨w4.heap.size, 4, none⟩ = some (.slice A4 E4.length c4) := (hbr.cell hgt).trans X4
          have hle4 := S4.le_cap
          have hle1 := hle4.1
          have hle2 : c4 ≤ 9223372036854775807 := by have := hle4.2; unfold maxLen at this; omega
          have h500 : E4.length ≤ 500 := by omega
          all_goals
            go_wp2_with fail
            go_loopw [57] (fun i wr => ∃ j : Nat, j ≤ E4.length ∧ j ≤ 500 ∧ i = .int .i64 (j : Int) ∧ Below W.heap.size W wr) (fun i _ => 500 - (intOf i).toNat)
            case atStart => exact ⟨0, by omega, by omega, rfl, hbr⟩
            case round =>
              obtain ⟨j, hj, hj5, rfl, hbr2⟩ := hrel
              by_cases hlt : j < E4.length ∧ j < 500
              · obtain ⟨hlt1, hlt2⟩ := hlt
                have hsl := S4.below hbr2
                have hcut := hsl.firstn j (by omega)
                have HT := Lib.hid (T4.out j hlt1)
                have hslx := hsl
                go_wp2_with (refine wpList_slice_h (o := ⟨some 64, _, _, _, _, _⟩) rfl _ _ _ rfl elBytes rfl hslx _ j rfl rfl (by omega) ?_; intro X d m hm hs1; have HM := Lib.hid hm; clear hm)
                refine (wire_GetDigests (E4.take j) _ _ (cut_of HM.out (by omega) hs1) (by rw [List.length_take]; omega)).mono ?_
                rintro e w5 ⟨v5, rfl, _, hb5⟩
                rw [HT.out]
                go_wp2_with fail
                go_roundw
                case rel => exact ⟨j + 1, by omega, by omega, by go_num, bl_next hbr2 hb5⟩
                case measure => simp [intOf]; omega
              · go_wp2_with fail
                go_roundw
                case rel => exact ⟨4 + 1, by omega, by omega, by first | rfl | go_num, hbr2⟩
                case measure => simp [intOf]
        · go_wp2_with fail
          refine (sanity_true _).mono ?_
          rintro e w5 ⟨rfl, hb5⟩
          go_wp2_with fail
          go_ret
          exact ⟨rfl, bl_next hbW (bl_next hbr hb5)⟩
    · have HF := Lib.hid (decide_eq_false hfew)
      go_enter Try.func9, Try.ntmps9
      go_wp2_with fail
      refine (few_any x _ _ hx0 b3).mono ?_
      rintro e w1 ⟨rfl, rfl⟩
      rw [HF.out]
      go_wp2_with fail
      refine (sanity_true _).mono ?_
      rintro e w1 ⟨rfl, hb1⟩
      go_wp2_with fail
      go_ret
      exact ⟨rfl, hb1⟩
end Go.Proofs.Ytjdoellkoofnmaa
