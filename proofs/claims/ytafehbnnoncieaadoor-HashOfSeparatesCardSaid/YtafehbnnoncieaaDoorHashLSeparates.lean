/-
  Digests that are equal though tags or parts differ: the walk of a statement. Conditions: none.
-/
import Derived.Test.YtafehbnnoncieaaDoorHashLSha
import Derived.Test.YtafehbnnoncieaaDoorOfInj
import Derived.Deep.DeepCutAuto
import Derived.Deep.CutBlock
namespace Go.Proofs.YtafehbnnoncieaaDoor
open Go.RowKit
theorem aggTwo : Agg Tryd.prog 62 2 := ⟨⟨_, Tryd.underlying62, rfl⟩, by kernel_rfl⟩
set_option maxHeartbeats 2000000 in
set_option maxRecDepth 100000 in
theorem separates_walk (t : List UInt8) (ht : t.length = 2) (l m : List ByteArray) (x y : Value) (w : World) (hl : Sl w x 1 l.length (l.map Value.string)) (hm : Sl w y 1 m.length (m.map Value.string)) (hT : Nibs w ∧ Consts w) :
    Calls Tryd.prog 14 #[.agg (t.map bv).toArray, x, y] w fun e w' => e = .returned (.bool true) ∧ Below w.heap.size w w' := by
  obtain ⟨hN, hC⟩ := hT
  obtain ⟨t0, t1, rfl⟩ : ∃ t0 t1, t = [t0, t1] := by
    match t, ht with
    | [a, b], _ => exact ⟨a, b, rfl⟩
  clear ht
  have hrow0 := row_new w #[bv t0, bv t1] 62 2 (fun i => bv ([t0, t1].getD i 0)) rfl (fun i hi => by
    match i, hi with
    | 0, _ => rfl
    | 1, _ => rfl)
  have hBx := (Below.refl w.heap.size w).alloc (Nat.le_refl _) (.cells #[bv t0, bv t1] 62)
  have hl0 := hl.below hBx
  have hm0 := hm.below hBx
  have hN0 := hN.below hBx
  have hC0 := hC.below hBx
  show Calls Tryd.prog 14 #[.agg #[bv t0, bv t1], x, y] w _
  cases hfl : fewB l
  · have HF := Lib.hid hfl
    clear hfl
    go_enter Tryd.func14, Tryd.ntmps14
    go_wp2_with fail
    refine (law_sanity _ hN0 hC0).mono ?_
    rintro e w1 ⟨rfl, hb1⟩
    go_wp2_with fail
    refine (ref_Few l _ _ (hl0.below hb1)).mono ?_
    rw [HF.out]
    rintro e w' ⟨rfl, rfl⟩
    go_wp2_with fail
    go_ret
    exact ⟨rfl, bl_on hBx hb1⟩
  have HF := Lib.hid hfl
  cases hfm : fewB m
  · have HFm := Lib.hid hfm
    clear hfl hfm
    go_enter Tryd.func14, Tryd.ntmps14
    go_wp2_with fail
    refine (law_sanity _ hN0 hC0).mono ?_
    rintro e w1 ⟨rfl, hb1⟩
    go_wp2_with fail
    refine (ref_Few l _ _ (hl0.below hb1)).mono ?_
    rw [HF.out]
    rintro e w' ⟨rfl, rfl⟩
    go_wp2_with fail
    refine (ref_Few m _ _ (hm0.below hb1)).mono ?_
    rw [HFm.out]
    rintro e w' ⟨rfl, rfl⟩
    go_wp2_with fail
    go_ret
    exact ⟨rfl, bl_on hBx hb1⟩
  have HFm := Lib.hid hfm
  obtain ⟨l1, l2⟩ := (fewB_iff l).1 hfl
  obtain ⟨m1, m2⟩ := (fewB_iff m).1 hfm
  have HL2 := Lib.hid l2
  have HM2 := Lib.hid m2
  clear hfl hfm l2 m2
  go_enter Tryd.func14, Tryd.ntmps14
  go_wp2_with fail
  refine (law_sanity _ hN0 hC0).mono ?_
  rintro e w1 ⟨rfl, hb1⟩
  have hl1 := hl0.below hb1
  have hm1 := hm0.below hb1
  have hB1 := bl_on hBx hb1
  have hr1 := rowIs_below' hrow0 hb1
  have hN1 := hN0.below hb1
  have hC1 := hC0.below hb1
  clear hrow0 hBx hl0 hm0 hN0 hC0 hb1
  go_wp2_with fail
  refine (ref_Few l _ _ hl1).mono ?_
  rw [HF.out]
  rintro e w' ⟨rfl, rfl⟩
  go_wp2_with fail
  refine (ref_Few m _ _ hm1).mono ?_
  rw [HFm.out]
  rintro e w' ⟨rfl, rfl⟩
  obtain ⟨A, ca, rfl, hna, hcma, hra⟩ := id hl1
  obtain ⟨B, cb, rfl, hnb, hcmb, hrb⟩ := id hm1
  unfold maxLen at hcma hcmb
  have c0 : w1.cell? ⟨w.heap.size, 0, none⟩ = some (bv t0) := hr1.cell (i := 0) (by decide)
  have c1 : w1.cell? ⟨w.heap.size, 1, none⟩ = some (bv t1) := hr1.cell (i := 1) (by decide)
  unfold bv at c0 c1
  have hle0 : ∃ L1, L1 = l.length := ⟨_, rfl⟩
  go_upto_region 4 with (fail)
  go_cut [8] (fun u8 wc => ∃ b : Bool, u8 = .bool b ∧ (b = true ↔ t0 = t1 ∧ l.length = m.length) ∧ wc = w1)
  case first =>
    obtain ⟨b0, hb0⟩ : ∃ b0, b0 = ((t0.toNat : Int) == (t1.toNat : Int)) := ⟨_, rfl⟩
    obtain ⟨b1, hb1⟩ : ∃ b1, b1 = ((l.length : Int) == (m.length : Int)) := ⟨_, rfl⟩
    have e0 : b0 = true ↔ t0 = t1 := by
      rw [hb0, beq_iff_eq]
      exact ⟨fun h => UInt8.toNat_inj.1 (by omega), fun h => by rw [h]⟩
    have e1 : b1 = true ↔ l.length = m.length := by
      rw [hb1, beq_iff_eq]; omega
    have E0 := Lib.hid e0
    have E1 := Lib.hid e1
    have f0 := hb0.symm
    have f1 := hb1.symm
    clear hb0 hb1 e0 e1
    cases b0 <;> cases b1
    all_goals
      go_wp2_with fail
      go_meet
      refine ⟨_, rfl, ?_, rfl⟩
      rw [← E0.out, ← E1.out]
      decide
  case rest =>
    obtain ⟨b, rfl, hb, rfl⟩ := hcut
    have HB := Lib.hid hb
    clear hb hle0
    obtain ⟨w1, hw1⟩ : ∃ w1, w1 = wc := ⟨_, rfl⟩
    subst hw1
    obtain ⟨q, hq⟩ : ∃ q : Bool, (q = true ↔ t0 = t1 ∧ l = m) := by
      by_cases h : t0 = t1 ∧ l = m
      · exact ⟨true, by simp [h]⟩
      · exact ⟨false, by simp [h]⟩
    have HQ := Lib.hid hq
    clear hq
    go_upto_block 0 with (fail)
    go_cut [8] (fun u8 wd => u8 = .bool q ∧ Below w1.heap.size w1 wd)
    case first =>
      go_wp2_with fail
      go_loopw [8, 9] (fun u8 u9 wr => ∃ (i : Nat) (b : Bool), i ≤ l.length ∧ u9 = .int .i64 i ∧ u8 = .bool b ∧ (b = true → t0 = t1 ∧ l.length = m.length ∧ l.take i = m.take i) ∧ (b = false → ¬ (t0 = t1 ∧ l = m)) ∧ Below w1.heap.size w1 wr) (fun _ u9 _ => l.length - (intOf u9).toNat)
      case atStart => exact ⟨0, b, Nat.zero_le _, rfl, rfl, fun h => ⟨(HB.out.1 h).1, (HB.out.1 h).2, by simp⟩, (fun (h : b = false) (hh : t0 = t1 ∧ l = m) => by
        have h2 := HB.out.2 ⟨hh.1, by rw [hh.2]⟩
        rw [h2] at h; cases h), Below.refl _ _⟩
      case round =>
        obtain ⟨i, b, hi, rfl, rfl, hbt, hbf, hB⟩ := hrel
        have HT := Lib.hid hbt
        have HFa := Lib.hid hbf
        clear hbt hbf
        by_cases hgo : b = true ∧ i < l.length
        · obtain ⟨rfl, hlt⟩ := hgo
          obtain ⟨q1, q2, q3⟩ := HT.out rfl
          obtain ⟨ad, s, rfl, hab, hx, hc⟩ := (hra.below hB).elem hlt rfl
          obtain ⟨bd, s', rfl, hab', hx', hc'⟩ := (hrb.below hB).elem (show i < m.length by omega) rfl
          have him : (i : Int) < (m.length : Int) := by omega
          have hil : (i : Int) < (l.length : Int) := by omega
          obtain ⟨r, hr⟩ : ∃ r, r = (s.toList == s'.toList) := ⟨_, rfl⟩
          have er : r = true ↔ s = s' := by
            rw [hr, beq_iff_eq, ByteArray.toList_eq, ByteArray.toList_eq]
            exact ⟨fun h => ByteArray.ext (Array.toList_inj.1 h), fun h => by rw [h]⟩
          have tk : ∀ {n : List ByteArray} {z : ByteArray}, n[i]? = some z → n.take (i + 1) = n.take i ++ [z] := fun h => by
            rw [List.take_add_one, h]; rfl
          have hyes : r = true → t0 = t1 ∧ l.length = m.length ∧ l.take (i + 1) = m.take (i + 1) := fun h => ⟨q1, q2, by rw [tk hx, tk hx', q3, er.1 h]⟩
          have hno : r = false → ¬ (t0 = t1 ∧ l = m) := fun h hh => by
            have h2 := hh.2 ▸ hx
            rw [hx'] at h2
            injection h2 with h2
            rw [er.2 h2.symm] at h; cases h
          have HY := Lib.hid hyes
          have HN := Lib.hid hno
          have f := hr.symm
          clear hx hx' q1 q2 q3 hr er tk hyes hno
          go_wp2_with fail
          refine wp_region_lasts (fun w' => w'.cell? (ad.add i) = some (.string s) ∧ w'.cell? (bd.add i) = some (.string s')) (fun _ => false) (by kernel_rfl) ⟨hc, hc'⟩ (fun hHeld => ?_)
          refine tk_0 (v := ?_) (by kernel_rfl) (by kernel_rfl) (by kernel_rfl) (by kernel_rfl) (fun _ _ _ h => h) (Or.inl ⟨by kernel_rfl, ?_⟩) (by assumption) ?_
          rotate_left
          · (intro wS hSw; (try dsimp only at hSw); (go_simp); (all_goals (with_reducible rfl)))
          try go_frame
          refine tk_1 (v := ?_) (by kernel_rfl) (by kernel_rfl) (by kernel_rfl) (by kernel_rfl) (fun _ _ _ h => h) (Or.inl ⟨by kernel_rfl, ?_⟩) (by assumption) ?_
          rotate_left
          · (intro wS hSw; (try dsimp only at hSw); (go_simp); (all_goals (with_reducible rfl)))
          try go_frame
          refine tk_2 (v := ?_) (by kernel_rfl) (by kernel_rfl) (by kernel_rfl) (by kernel_rfl) (fun _ _ _ h => h) (Or.inl ⟨by kernel_rfl, ?_⟩) (by assumption) ?_
          rotate_left
          · (intro wS hSw; (try dsimp only at hSw); (go_simp); (all_goals (with_reducible rfl)))
          try go_frame
          refine tk_3 (v := ?_) (by kernel_rfl) (by kernel_rfl) (by kernel_rfl) (by kernel_rfl) (fun _ _ _ h => h) (Or.inl ⟨by kernel_rfl, ?_⟩) (by assumption) ?_
          rotate_left
          · (intro wS hSw; (try dsimp only at hSw); (obtain ⟨p1, p2⟩ := hSw; go_simp); (all_goals (with_reducible rfl)))
          try go_frame
          refine tk_4 (v := ?_) (by kernel_rfl) (by kernel_rfl) (by kernel_rfl) (by kernel_rfl) (fun _ _ _ h => h) (Or.inl ⟨by kernel_rfl, ?_⟩) (by assumption) ?_
          rotate_left
          · (intro wS hSw; (try dsimp only at hSw); (go_simp); (all_goals (with_reducible rfl)))
          try go_frame
          refine tk_5 (v := ?_) (by kernel_rfl) (by kernel_rfl) (by kernel_rfl) (by kernel_rfl) (fun _ _ _ h => h) (Or.inl ⟨by kernel_rfl, ?_⟩) (by assumption) ?_
          rotate_left
          · (intro wS hSw; (try dsimp only at hSw); (go_simp); (all_goals (with_reducible rfl)))
          try go_frame
          refine tk_6 (v := ?_) (by kernel_rfl) (by kernel_rfl) (by kernel_rfl) (by kernel_rfl) (fun _ _ _ h => h) (Or.inl ⟨by kernel_rfl, ?_⟩) (by assumption) ?_
          rotate_left
          · (intro wS hSw; (try dsimp only at hSw); (go_simp); (all_goals (with_reducible rfl)))
          try go_frame
          refine tk_7 (v := ?_) (by kernel_rfl) (by kernel_rfl) (by kernel_rfl) (by kernel_rfl) (fun _ _ _ h => h) (Or.inl ⟨by kernel_rfl, ?_⟩) (by assumption) ?_
          rotate_left
          · (intro wS hSw; (try dsimp only at hSw); (obtain ⟨p1, p2⟩ := hSw; go_simp); (all_goals (with_reducible rfl)))
          try go_frame
          refine tk_8 (v := ?_) (by kernel_rfl) (by kernel_rfl) (by kernel_rfl) (by kernel_rfl) (fun _ _ _ h => h) (Or.inl ⟨by kernel_rfl, ?_⟩) (by assumption) ?_
          rotate_left
          · (intro wS hSw; (try dsimp only at hSw); (go_simp); (all_goals (with_reducible rfl)))
          try go_frame
          refine tk_9 (v := ?_) (by kernel_rfl) (by kernel_rfl) (by kernel_rfl) (by kernel_rfl) (fun _ _ _ h => h) (Or.inl ⟨by kernel_rfl, ?_⟩) (by assumption) ?_
          rotate_left
          · (intro wS hSw; (try dsimp only at hSw); (go_simp); (all_goals (with_reducible rfl)))
          try go_frame
          refine wpAnyT_done (by kernel_rfl) ?_ _
          refine NoPanic.normal ?_
          all_goals
            have hBr : ∃ we, we = wr.drew ∧ Below w1.heap.size w1 we := ⟨_, rfl, hB.drew⟩
            obtain ⟨we, hwe, hBr⟩ := hBr
            try rw [← hwe]
            clear hwe hHeld hc hc' hB
            go_wp2_with fail
            go_roundw
          case rel => exact ⟨i + 1, r, hlt, by go_num, rfl, HY.out, HN.out, hBr⟩
          case measure => go_light; simp [intOf]; omega
        · have hend : b = q := by
            cases b
            · cases hq : q
              · rfl
              · exact absurd (HQ.out.1 hq) (HFa.out rfl)
            · obtain ⟨q1, q2, q3⟩ := HT.out rfl
              obtain rfl : i = l.length := by
                have h9 : ¬ i < l.length := fun h => hgo ⟨rfl, h⟩
                omega
              rw [List.take_length, q2, List.take_length] at q3
              exact (HQ.out.2 ⟨q1, q3⟩).symm
          cases hend
          cases q
          · by_cases hlt : i < l.length
            · have hil : (i : Int) < (l.length : Int) := by omega
              clear hgo
              go_wp2_with fail
              go_meet
              exact ⟨rfl, hB⟩
            · obtain rfl : i = l.length := by omega
              clear hgo hlt
              go_wp2_with fail
              go_meet
              exact ⟨rfl, hB⟩
          · obtain rfl : i = l.length := by
              have h9 : ¬ i < l.length := fun h => hgo ⟨rfl, h⟩
              omega
            clear hgo
            go_wp2_with fail
            go_meet
            exact ⟨rfl, hB⟩
    case rest =>
      obtain ⟨rfl, hb2⟩ := hcut
      have hl2 := hl1.below hb2
      have hm2 := hm1.below hb2
      have hB2 := bl_on hB1 hb2
      have hr2 := rowIs_below' hr1 hb2
      have hC2 := hC1.below hb2
      clear HB hB1 hr1 hN1 hC1 hN hC hra hrb hl1 hm1 c0 c1 hb2 hl hm
      obtain ⟨X, hX⟩ : ∃ X, X = ofInput (t0.toNat : Int) l := ⟨_, rfl⟩
      obtain ⟨Y, hY⟩ : ∃ Y, Y = ofInput (t1.toNat : Int) m := ⟨_, rfl⟩
      have hXl := of_len' (t0.toNat : Int) l l1 HL2.out
      have hYl := of_len' (t1.toNat : Int) m m1 HM2.out
      rw [← hX] at hXl
      rw [← hY] at hYl
      have hxy : X = Y → t0 = t1 ∧ l = m := fun h => ofInput_inj t0 t1 l m (by rw [← hX, ← hY, h])
      have HX := Lib.hid hX.symm
      have HY := Lib.hid hY.symm
      have HXY := Lib.hid hxy
      clear hX hY hxy
      have c0 : wc.cell? ⟨w.heap.size, 0, none⟩ = some (bv t0) := hr2.cell (i := 0) (by decide)
      unfold bv at c0
      have b0 : (t0.toNat : Int) < 256 := by have := t0.toNat_lt; omega
      have b1 : (t1.toNat : Int) < 256 := by have := t1.toNat_lt; omega
      go_wp2_with fail
      refine (ref_Input (t0.toNat : Int) l _ _ hl2 l1 HL2.out).mono ?_
      rw [HX.out]
      rintro e w3 ⟨v10, rfl, hown, hb3⟩
      have hx3 := Sl.of_own hown
      have hl3 := hl2.below hb3
      have hm3 := hm2.below hb3
      have hB3 := bl_on hB2 hb3
      have hr3 := rowIs_below' hr2 hb3
      have hC3 := hC2.below hb3
      clear hown hb3 hl2 hm2 hB2 hr2 hC2 c0
      have c1 : w3.cell? ⟨w.heap.size, 1, none⟩ = some (bv t1) := hr3.cell (i := 1) (by decide)
      unfold bv at c1
      go_wp2_with fail
      refine (ref_Input (t1.toNat : Int) m _ _ hm3 m1 HM2.out).mono ?_
      rw [HY.out]
      rintro e w4 ⟨v11, rfl, hown, hb4⟩
      have hy4 := Sl.of_own hown
      have hx4 := hx3.below hb4
      have hl4 := hl3.below hb4
      have hm4 := hm3.below hb4
      have hB4 := bl_on hB3 hb4
      have hr4 := rowIs_below' hr3 hb4
      have hC4 := hC3.below hb4
      clear hown hb4 hl3 hm3 hB3 hr3 hC3 c1 hx3
      cases q
      · have hne : ((⟨X.toArray⟩ : ByteArray).toList == (⟨Y.toArray⟩ : ByteArray).toList) = false := by
          rw [beq_eq_false_iff_ne, ByteArray.toList_eq, ByteArray.toList_eq]
          intro h
          have h2 : X = Y := h
          have := HQ.out.2 (HXY.out h2)
          cases this
        have hne2 : (X == Y) = false := beq_eq_false_iff_ne.2 fun h2 => by
          have := HQ.out.2 (HXY.out h2)
          cases this
        have HNE := Lib.hid hne
        have HNE2 := Lib.hid hne2
        clear hne hne2
        obtain ⟨F, hF⟩ : ∃ F : Nat → UInt8, F = fun i => (Sha.sha X).getD i 0 := ⟨_, rfl⟩
        obtain ⟨G, hG⟩ : ∃ G : Nat → UInt8, G = fun i => (Sha.sha Y).getD i 0 := ⟨_, rfl⟩
        have hv : shaVal X = .agg (arr 32 fun i => bv (F i)) := by rw [hF]; rfl
        have hv' : shaVal Y = .agg (arr 32 fun i => bv (G i)) := by rw [hG]; rfl
        have hd : digVal X = .agg (arr 16 fun i => bv (F i)) := by rw [hF]; rfl
        have hd' : digVal Y = .agg (arr 16 fun i => bv (G i)) := by rw [hG]; rfl
        have HV := Lib.hid hv
        have HV' := Lib.hid hv'
        have HD := Lib.hid hd
        have HD' := Lib.hid hd'
        clear hF hG hv hv' hd hd'
        have c0 : w4.cell? ⟨w.heap.size, 0, none⟩ = some (bv t0) := hr4.cell (i := 0) (by decide)
        unfold bv at c0
        go_wp2_with fail
        refine (hash_Of (t0.toNat : Int) l _ _ (by omega) (by omega) hl4 (fun s hs => by have := HL2.out s hs; omega) (by omega) hC4).mono ?_
        rw [HX.out, HD.out]
        rintro e w5 ⟨rfl, hb5⟩
        have hBx := (Below.refl w5.heap.size w5).alloc (Nat.le_refl _) (.cells (arr 16 fun i => bv (F i)) 58)
        have hr5 := rowIs_below' hr4 (bl_on hb5 hBx)
        have c1 : (w5.alloc (.cells (arr 16 fun i => bv (F i)) 58)).cell? ⟨w.heap.size, 1, none⟩ = some (.int .u8 (t1.toNat : Int)) := hr5.cell (i := 1) (by decide)
        go_wp2_with (with_reducible refine wpList_store_fresh (o := ⟨none, _, _, _, _, _⟩) rfl _ _ _ rfl _ (arr 16 fun i => bv (F i)) rfl rfl aggDig rfl (arr_size _ _) (arr_ones (fun _ _ => rfl)) ?_)
        have hr5' := row_alloc w5 58 16 (fun i => bv (F i))
        have hb5' := bl_on hb5 hBx
        have hy5 := hy4.below hb5'
        have hx5 := hx4.below hb5'
        have hm5 := hm4.below hb5'
        have hB5 := bl_on hB4 hb5'
        have hC5 := hC4.below hb5'
        clear hBx hb5' hb5 hy4 hx4 hl4 hm4 hB4 hC4 hr4 c0 c1 hr5
        generalize w5.alloc (.cells (arr 16 fun i => bv (F i)) 58) = w6 at *
        generalize w5.heap.size = g12 at *
        refine (hash_Of (t1.toNat : Int) m _ _ (by omega) (by omega) hm5 (fun s hs => by have := HM2.out s hs; omega) (by omega) hC5).mono ?_
        rw [HY.out, HD'.out]
        rintro e w7 ⟨rfl, hb7⟩
        have hr6' := row_alloc w7 58 16 (fun i => bv (G i))
        have hBx := (Below.refl w7.heap.size w7).alloc (Nat.le_refl _) (.cells (arr 16 fun i => bv (G i)) 58)
        have hb7' := bl_on hb7 hBx
        have hx7 := hx5.below hb7'
        have hC7 := hC5.below hb7'
        go_wp2_with (with_reducible refine wpList_store_fresh (o := ⟨none, _, _, _, _, _⟩) rfl _ _ _ rfl _ (arr 16 fun i => bv (G i)) rfl rfl aggDig rfl (arr_size _ _) (arr_ones (fun _ _ => rfl)) ?_)
        have hy7 := hy5.below hb7'
        have hB7 := bl_on hB5 hb7'
        have hr7 := rowIs_below' hr5' hb7'
        clear hBx hb7' hb7 hy5 hx5 hm5 hB5 hC5 hr5'
        generalize w7.alloc (.cells (arr 16 fun i => bv (G i)) 58) = w8 at *
        generalize w7.heap.size = g13 at *
        refine (hash_Sum X _ _ hx7 (by omega) hC7).mono ?_
        rw [HV.out]
        rintro e w9 ⟨rfl, hb9⟩
        have hrF := row_alloc w9 47 32 (fun i => bv (F i))
        have hBx := (Below.refl w9.heap.size w9).alloc (Nat.le_refl _) (.cells (arr 32 fun i => bv (F i)) 47)
        have hb9' := bl_on hb9 hBx
        go_wp2_with (with_reducible refine wpList_store_fresh (o := ⟨none, _, _, _, _, _⟩) rfl _ _ _ rfl _ (arr 32 fun i => bv (F i)) rfl rfl aggSum rfl (arr_size _ _) (arr_ones (fun _ _ => rfl)) ?_)
        have hx9 := hx7.below hb9'
        have hy9 := hy7.below hb9'
        have hC9 := hC7.below hb9'
        have hB9 := bl_on hB7 hb9'
        have hd9 := rowIs_below' hr7 hb9'
        have he9 := rowIs_below' hr6' hb9'
        clear hBx hb9' hb9 hx7 hy7 hC7 hB7 hr7 hr6'
        generalize w9.alloc (.cells (arr 32 fun i => bv (F i)) 47) = w10 at *
        generalize w9.heap.size = g14 at *
        refine (hash_Sum Y _ _ hy9 (by omega) hC9).mono ?_
        rw [HV'.out]
        rintro e w11 ⟨rfl, hb11⟩
        have hrG := row_alloc w11 47 32 (fun i => bv (G i))
        have hBx := (Below.refl w11.heap.size w11).alloc (Nat.le_refl _) (.cells (arr 32 fun i => bv (G i)) 47)
        have hb11' := bl_on hb11 hBx
        go_wp2_with (with_reducible refine wpList_store_fresh (o := ⟨none, _, _, _, _, _⟩) rfl _ _ _ rfl _ (arr 32 fun i => bv (G i)) rfl rfl aggSum rfl (arr_size _ _) (arr_ones (fun _ _ => rfl)) ?_)
        have hx11 := hx9.below hb11'
        have hy11 := hy9.below hb11'
        have hB11 := bl_on hB9 hb11'
        have hd11 := rowIs_below' hd9 hb11'
        have he11 := rowIs_below' he9 hb11'
        have hF11 := rowIs_below' hrF hb11'
        clear hBx hb11' hb11 hx9 hy9 hC9 hB9 hd9 he9 hrF
        generalize w11.alloc (.cells (arr 32 fun i => bv (G i)) 47) = w12 at *
        generalize w11.heap.size = g15 at *
        have hall0 : true = true ↔ ∀ j, j < 0 → F j = G j := ⟨fun _ j hj => absurd hj (Nat.not_lt_zero _), fun _ => rfl⟩
        obtain ⟨w0, hw0⟩ : ∃ w0, w0 = w12 := ⟨_, rfl⟩
        go_loopw [16, 17] (fun u16 u17 wr => ∃ (i : Nat) (b : Bool), i ≤ 16 ∧ u16 = .bool b ∧ u17 = .int .i64 i ∧ (b = true ↔ ∀ j, j < i → F j = G j) ∧ Below w12.heap.size w12 wr) (fun _ u17 _ => 16 - (intOf u17).toNat)
        case atStart => exact ⟨0, true, Nat.zero_le _, rfl, rfl, hall0, Below.refl _ _⟩
        case round =>
          clear hall0 hw0
          obtain ⟨i, b2, hi, rfl, rfl, hall, hB⟩ := hrel
          have HA := Lib.hid hall
          clear hall
          by_cases hlt : i < 16
          ·
            obtain ⟨c, hc⟩ : ∃ c, c = (((F i).toNat : Int) == ((G i).toNat : Int)) := ⟨_, rfl⟩
            have ec : c = true ↔ F i = G i := by
              rw [hc, beq_iff_eq]
              exact ⟨fun h => UInt8.toNat_inj.1 (by omega), fun h => by rw [h]⟩
            have hnew : (b2 && c) = true ↔ ∀ j, j < i + 1 → F j = G j := by
              rw [Bool.and_eq_true, HA.out, ec]
              constructor
              · rintro ⟨h1, h2⟩ j hj
                rcases Nat.lt_succ_iff_lt_or_eq.1 hj with h | h
                · exact h1 j h
                · rw [h]; exact h2
              · intro h
                exact ⟨fun j hj => h j (by omega), h i (by omega)⟩
            have HNEW := Lib.hid hnew
            have f := hc.symm
            have kF : wr.cell? ⟨g14, i, none⟩ = some (.int .u8 ((F i).toNat : Int)) := (rowIs_below' hF11 hB).cell (by omega)
            have kG : wr.cell? ⟨g15, i, none⟩ = some (.int .u8 ((G i).toNat : Int)) := (rowIs_below' hrG hB).cell (by omega)
            have hil : (i : Int) < 16 := by omega
            have hil2 : (i : Int) < 32 := by omega
            clear hc ec hnew
            cases b2
            · go_wp2_with fail
              refine wp_region_lasts (fun w' => w'.cell? ⟨g14, i, none⟩ = some (.int .u8 ((F i).toNat : Int)) ∧ w'.cell? ⟨g15, i, none⟩ = some (.int .u8 ((G i).toNat : Int))) (fun _ => false) (by kernel_rfl) ⟨kF, kG⟩ (fun hHeld => ?_)
              refine tk_0 (v := ?_) (by kernel_rfl) (by kernel_rfl) (by kernel_rfl) (by kernel_rfl) (fun _ _ _ h => h) (Or.inl ⟨by kernel_rfl, ?_⟩) (by assumption) ?_
              rotate_left
              · (intro wS hSw; (try dsimp only at hSw); (go_simp); (all_goals (with_reducible rfl)))
              try go_frame
              refine tk_1 (v := ?_) (by kernel_rfl) (by kernel_rfl) (by kernel_rfl) (by kernel_rfl) (fun _ _ _ h => h) (Or.inl ⟨by kernel_rfl, ?_⟩) (by assumption) ?_
              rotate_left
              · (intro wS hSw; (try dsimp only at hSw); (go_simp); (all_goals (with_reducible rfl)))
              try go_frame
              refine tk_2 (v := undef) (by kernel_rfl) (by kernel_rfl) (by kernel_rfl) (by kernel_rfl) (fun _ _ _ h => h) (Or.inr ⟨by rfl, rfl⟩) (by assumption) ?_
              try go_frame
              refine tk_3 (v := undef) (by kernel_rfl) (by kernel_rfl) (by kernel_rfl) (by kernel_rfl) (fun _ _ _ h => h) (Or.inr ⟨by rfl, rfl⟩) (by assumption) ?_
              try go_frame
              refine tk_4 (v := undef) (by kernel_rfl) (by kernel_rfl) (by kernel_rfl) (by kernel_rfl) (fun _ _ _ h => h) (Or.inr ⟨by rfl, rfl⟩) (by assumption) ?_
              try go_frame
              refine tk_5 (v := undef) (by kernel_rfl) (by kernel_rfl) (by kernel_rfl) (by kernel_rfl) (fun _ _ _ h => h) (Or.inr ⟨by rfl, rfl⟩) (by assumption) ?_
              try go_frame
              refine tk_6 (v := undef) (by kernel_rfl) (by kernel_rfl) (by kernel_rfl) (by kernel_rfl) (fun _ _ _ h => h) (Or.inr ⟨by rfl, rfl⟩) (by assumption) ?_
              try go_frame
              refine tk_7 (v := undef) (by kernel_rfl) (by kernel_rfl) (by kernel_rfl) (by kernel_rfl) (fun _ _ _ h => h) (Or.inr ⟨by rfl, rfl⟩) (by assumption) ?_
              try go_frame
              refine tk_8 (v := undef) (by kernel_rfl) (by kernel_rfl) (by kernel_rfl) (by kernel_rfl) (fun _ _ _ h => h) (Or.inr ⟨by rfl, rfl⟩) (by assumption) ?_
              try go_frame
              refine tk_9 (v := ?_) (by kernel_rfl) (by kernel_rfl) (by kernel_rfl) (by kernel_rfl) (fun _ _ _ h => h) (Or.inl ⟨by kernel_rfl, ?_⟩) (by assumption) ?_
              rotate_left
              · (intro wS hSw; (try dsimp only at hSw); (go_simp); (all_goals (with_reducible rfl)))
              try go_frame
              refine tk_10 (v := ?_) (by kernel_rfl) (by kernel_rfl) (by kernel_rfl) (by kernel_rfl) (fun _ _ _ h => h) (Or.inl ⟨by kernel_rfl, ?_⟩) (by assumption) ?_
              rotate_left
              · (intro wS hSw; (try dsimp only at hSw); (go_simp); (all_goals (with_reducible rfl)))
              try go_frame
              refine wpAnyT_done (by kernel_rfl) ?_ _
              refine NoPanic.normal ?_
              all_goals
                obtain ⟨we, hwe, hBr⟩ : ∃ we, we = wr.drew ∧ Below w12.heap.size w12 we := ⟨_, rfl, hB.drew⟩
                try rw [← hwe]
                clear hwe hHeld kF kG hB
                go_wp2_with fail
                go_roundw
              case rel => exact ⟨i + 1, false && c, hlt, rfl, by go_num, HNEW.out, hBr⟩
              case measure => go_light; simp [intOf]; omega
            · go_wp2_with fail
              refine wp_region_lasts (fun w' => w'.cell? ⟨g14, i, none⟩ = some (.int .u8 ((F i).toNat : Int)) ∧ w'.cell? ⟨g15, i, none⟩ = some (.int .u8 ((G i).toNat : Int))) (fun _ => false) (by kernel_rfl) ⟨kF, kG⟩ (fun hHeld => ?_)
              refine tk_0 (v := ?_) (by kernel_rfl) (by kernel_rfl) (by kernel_rfl) (by kernel_rfl) (fun _ _ _ h => h) (Or.inl ⟨by kernel_rfl, ?_⟩) (by assumption) ?_
              rotate_left
              · (intro wS hSw; (try dsimp only at hSw); (go_simp); (all_goals (with_reducible rfl)))
              try go_frame
              refine tk_1 (v := ?_) (by kernel_rfl) (by kernel_rfl) (by kernel_rfl) (by kernel_rfl) (fun _ _ _ h => h) (Or.inl ⟨by kernel_rfl, ?_⟩) (by assumption) ?_
              rotate_left
              · (intro wS hSw; (try dsimp only at hSw); (go_simp); (all_goals (with_reducible rfl)))
              try go_frame
              refine tk_2 (v := ?_) (by kernel_rfl) (by kernel_rfl) (by kernel_rfl) (by kernel_rfl) (fun _ _ _ h => h) (Or.inl ⟨by kernel_rfl, ?_⟩) (by assumption) ?_
              rotate_left
              · (intro wS hSw; (try dsimp only at hSw); (go_simp); (all_goals (with_reducible rfl)))
              try go_frame
              refine tk_3 (v := ?_) (by kernel_rfl) (by kernel_rfl) (by kernel_rfl) (by kernel_rfl) (fun _ _ _ h => h) (Or.inl ⟨by kernel_rfl, ?_⟩) (by assumption) ?_
              rotate_left
              · (intro wS hSw; (try dsimp only at hSw); (go_simp); (all_goals (with_reducible rfl)))
              try go_frame
              refine tk_4 (v := ?_) (by kernel_rfl) (by kernel_rfl) (by kernel_rfl) (by kernel_rfl) (fun _ _ _ h => h) (Or.inl ⟨by kernel_rfl, ?_⟩) (by assumption) ?_
              rotate_left
              · (intro wS hSw; (try dsimp only at hSw); (obtain ⟨p1, p2⟩ := hSw; go_simp); (all_goals (with_reducible rfl)))
              try go_frame
              refine tk_5 (v := ?_) (by kernel_rfl) (by kernel_rfl) (by kernel_rfl) (by kernel_rfl) (fun _ _ _ h => h) (Or.inl ⟨by kernel_rfl, ?_⟩) (by assumption) ?_
              rotate_left
              · (intro wS hSw; (try dsimp only at hSw); (go_simp); (all_goals (with_reducible rfl)))
              try go_frame
              refine tk_6 (v := ?_) (by kernel_rfl) (by kernel_rfl) (by kernel_rfl) (by kernel_rfl) (fun _ _ _ h => h) (Or.inl ⟨by kernel_rfl, ?_⟩) (by assumption) ?_
              rotate_left
              · (intro wS hSw; (try dsimp only at hSw); (go_simp); (all_goals (with_reducible rfl)))
              try go_frame
              refine tk_7 (v := ?_) (by kernel_rfl) (by kernel_rfl) (by kernel_rfl) (by kernel_rfl) (fun _ _ _ h => h) (Or.inl ⟨by kernel_rfl, ?_⟩) (by assumption) ?_
              rotate_left
              · (intro wS hSw; (try dsimp only at hSw); (obtain ⟨p1, p2⟩ := hSw; go_simp); (all_goals (with_reducible rfl)))
              try go_frame
              refine tk_8 (v := ?_) (by kernel_rfl) (by kernel_rfl) (by kernel_rfl) (by kernel_rfl) (fun _ _ _ h => h) (Or.inl ⟨by kernel_rfl, ?_⟩) (by assumption) ?_
              rotate_left
              · (intro wS hSw; (try dsimp only at hSw); (go_simp); (all_goals (with_reducible rfl)))
              try go_frame
              refine tk_9 (v := ?_) (by kernel_rfl) (by kernel_rfl) (by kernel_rfl) (by kernel_rfl) (fun _ _ _ h => h) (Or.inl ⟨by kernel_rfl, ?_⟩) (by assumption) ?_
              rotate_left
              · (intro wS hSw; (try dsimp only at hSw); (go_simp); (all_goals (with_reducible rfl)))
              try go_frame
              refine tk_10 (v := ?_) (by kernel_rfl) (by kernel_rfl) (by kernel_rfl) (by kernel_rfl) (fun _ _ _ h => h) (Or.inl ⟨by kernel_rfl, ?_⟩) (by assumption) ?_
              rotate_left
              · (intro wS hSw; (try dsimp only at hSw); (go_simp); (all_goals (with_reducible rfl)))
              try go_frame
              refine wpAnyT_done (by kernel_rfl) ?_ _
              refine NoPanic.normal ?_
              all_goals
                obtain ⟨we, hwe, hBr⟩ : ∃ we, we = wr.drew ∧ Below w12.heap.size w12 we := ⟨_, rfl, hB.drew⟩
                try rw [← hwe]
                clear hwe hHeld kF kG hB
                go_wp2_with fail
                go_roundw
              case rel => exact ⟨i + 1, true && c, hlt, rfl, by go_num, HNEW.out, hBr⟩
              case measure => go_light; simp [intOf]; omega
          · obtain rfl : i = 16 := by omega
            have hx13 := hx11.below hB
            have hy13 := hy11.below hB
            have hd13 := rowIs_below' hd11 hB
            have he13 := rowIs_below' he11 hB
            have hB13 := bl_on hB11 hB
            have hb : ((List.range 16).map F == (List.range 16).map G) = b2 := by
              rw [Bool.eq_iff_iff, HA.out, beq_iff_eq]
              constructor
              · intro h j hj
                have := congrArg (fun l => l[j]?) h
                simpa [hj] using this
              · intro h
                exact List.map_congr_left fun j hj => h j (List.mem_range.1 hj)
            have HBB := Lib.hid hb
            clear hb hlt hi
            go_wp2_with (first | (refine wpList_btos_g (o := ⟨some 108, _, _, _, _, _⟩) rfl _ _ _ _ rfl Tryd.underlying22 Tryd.underlying5 Tryd.underlying9 rfl X hx13 ?_) | (refine wpList_btos_g (o := ⟨some 110, _, _, _, _, _⟩) rfl _ _ _ _ rfl Tryd.underlying22 Tryd.underlying5 Tryd.underlying9 rfl Y hy13 ?_; have hne := HNE.out; have hne2 := HNE2.out) | (refine wpList_load_arr_g (o := ⟨some 114, _, _, _, _, _⟩) rfl _ _ rfl hd13 rfl aggDig ?_) | (refine wpList_load_arr_g (o := ⟨some 115, _, _, _, _, _⟩) rfl _ _ rfl he13 rfl aggDig ?_) | (refine wpList_eql_arr (o := ⟨some 116, _, _, _, _, _⟩) rfl _ _ _ _ rfl F G rfl rfl Tryd.underlying58 Tryd.underlying5 (run_sizeOf_el elBytes) (by kernel_rfl) b2 HBB.out ?_))
            go_ret
            exact ⟨rfl, hB13⟩
      · obtain ⟨rfl, rfl⟩ := HQ.out.1 rfl
        have hXY : X = Y := by rw [← HX.out, ← HY.out]
        have HE := Lib.hid hXY
        clear hXY
        go_wp2_with (first | (refine wpList_btos_g (o := ⟨some 72, _, _, _, _, _⟩) rfl _ _ _ _ rfl Tryd.underlying22 Tryd.underlying5 Tryd.underlying9 rfl X hx4 ?_; rw [HE.out]) | (refine wpList_btos_g (o := ⟨some 74, _, _, _, _, _⟩) rfl _ _ _ _ rfl Tryd.underlying22 Tryd.underlying5 Tryd.underlying9 rfl Y hy4 ?_))
        go_ret
        exact ⟨rfl, hB4⟩
end Go.Proofs.YtafehbnnoncieaaDoor
