/-
  Checks and hashes piece by piece: the walks of two statements. Conditions: none.
-/
import Derived.Test.YtafehbnnoncieaaDoorHashLSha
namespace Go.Proofs.YtafehbnnoncieaaDoor
open Go.RowKit
theorem elStrs02 : El Tryd.prog 26 9 (.string ⟨#[]⟩) 1 16 := ⟨Tryd.underlying26, info_parts (by kernel_rfl), rfl, by decide⟩
def runJ (l : List UInt8) : Crc.V := Crc.run Crc.ones (Crc.bitsOf l)
theorem runJ_snoc (l : List ByteArray) (k : Nat) (s : ByteArray) (h : l[k]? = some s) : Crc.run (runJ (joined (l.take k))) (Crc.bitsOf s.data.toList) = runJ (joined (l.take (k + 1))) := by
  unfold runJ
  rw [joined_snoc l k s h, Crc.bitsOf_append, Crc.run_append]
theorem runJ_more (l m : List UInt8) : Crc.run (runJ l) (Crc.bitsOf m) = runJ (l ++ m) := by
  unfold runJ
  rw [Crc.bitsOf_append, Crc.run_append]
theorem runJ_val (l : List UInt8) : crcVal l = .int .i64 (runJ l ^^^ Crc.ones).toNat := rfl
theorem runJ_both (l : List UInt8) : ∃ z : Int, Value.int .i64 ((runJ l ^^^ Crc.ones).toNat : Int) = .int .i64 z ∧ crcVal l = .int .i64 z := ⟨_, rfl, rfl⟩
theorem row1_new (w : World) (t : TypeId) (v : Value) : (w.alloc (.cells #[v] t)).rowIs w.heap.size t 1 (fun _ => v) :=
  row_new w _ _ 1 _ rfl (fun i hi => by
    obtain rfl : i = 0 := by omega
    rfl)
theorem joined_take_le (l : List ByteArray) (k : Nat) (h1 : l.length ≤ 12) (h2 : ∀ s ∈ l, s.size ≤ 400) : (joined (l.take k)).length ≤ 4800 := by
  have := joined_len (l.take k) (fun s hs => h2 s (List.mem_of_mem_take hs))
  rw [List.length_take] at this
  omega

set_option maxHeartbeats 2000000 in
set_option maxRecDepth 100000 in
theorem crcStreams_walk (l : List ByteArray) (x : Value) (o : ByteArray) (n : Int) (w : World) (hl : Sl w x 1 l.length (l.map Value.string)) (_ho : o.size ≤ 140737488351232) (hn0 : 0 ≤ n) (hn1 : n ≤ 255) (hT : Nibs w ∧ Consts w) :
    Calls Tryd.prog 4 #[x, .string o, .int .u8 n] w fun e w' => e = .returned (.bool true) ∧ Below w.heap.size w w' := by
  obtain ⟨hN, hC⟩ := hT
  cases hf : fewB l
  · have HF := Lib.hid hf
    clear hf
    go_enter Tryd.func4, Tryd.ntmps4
    go_wp2_with fail
    refine (law_sanity _ hN hC).mono ?_
    rintro e w1 ⟨rfl, hb1⟩
    go_wp2_with fail
    refine (ref_Few l _ _ (hl.below hb1)).mono ?_
    rw [HF.out]
    rintro e w' ⟨rfl, rfl⟩
    go_wp2_with fail
    go_ret
    exact ⟨rfl, hb1⟩
  obtain ⟨l1, l2⟩ := (fewB_iff l).1 hf
  have HF := Lib.hid hf
  have HL2 := Lib.hid l2
  have HJ := Lib.hid (fun k => joined_take_le l k l1 l2)
  clear hf l2
  by_cases ho : o.size ≤ 400
  · obtain ⟨K, hK⟩ : ∃ K : Nat, n.toNat % (l.length + 1) = K := ⟨_, rfl⟩
    have hKl : K ≤ l.length := by rw [← hK]; have := Nat.mod_lt n.toNat (show 0 < l.length + 1 by omega); omega
    have e1 : n % ((l.length : Int) + 1) = (K : Int) := by rw [← hK, Int.natCast_emod, Int.toNat_of_nonneg hn0]; simp
    have e2 : n.tmod ((l.length : Int) + 1) = (K : Int) := by rw [Int.tmod_eq_emod_of_nonneg hn0]; exact e1
    clear hK
    obtain ⟨A, c, rfl, hnc, hcm, _⟩ := id hl
    unfold maxLen at hcm
    go_enter Tryd.func4, Tryd.ntmps4
    go_wp2_with fail
    refine (law_sanity _ hN hC).mono ?_
    rintro e w1 ⟨rfl, hb1⟩
    have hl1 := hl.below hb1
    go_wp2_with fail
    refine (ref_Few l _ _ hl1).mono ?_
    rw [HF.out]
    rintro e w' ⟨rfl, rfl⟩
    go_wp2_with fail
    refine (hash_BeginCrc _).mono ?_
    rintro e w2 ⟨rfl, hb2⟩
    have hB2 := bl_on hb1 hb2
    go_wp2_with fail
    have hrow0 := row1_new w2 30 (.int .u64 1099511627775)
    have hB3 := hB2.alloc hB2.size (.cells #[.int .u64 1099511627775] 30)
    have hgs := hB2.size
    have HE1 := Lib.hid e1
    have HE2 := Lib.hid e2
    clear e1 e2 hb2 hb1 hl1
    generalize w2.alloc (.cells #[.int .u64 1099511627775] 30) = w3 at *
    generalize w2.heap.size = g9 at *
    go_loopw [10] (fun u10 wr => ∃ i : Nat, i ≤ K ∧ u10 = .int .i64 i ∧ wr.rowIs g9 30 1 (fun _ => .int .u64 (runJ (joined (l.take i))).toNat) ∧ Below w.heap.size w wr) (fun u10 _ => K - (intOf u10).toNat)
    case atStart => exact ⟨0, Nat.zero_le _, rfl, hrow0, hB3⟩
    case round =>
      clear hrow0 hB3
      obtain ⟨i, hi, rfl, hrow, hB⟩ := hrel
      by_cases hlt : i < K
      · skip
        have hcell := hrow.cell (i := 0) (by omega)
        have hlr := hl.below hB
        obtain ⟨_, _, hv1, _, _, hr1⟩ := id hlr
        injection hv1 with q1 q2 q3
        subst q1; subst q3
        obtain ⟨ad, s, rfl, hab, hx, hc⟩ := hr1.elem (k := i) (by omega) rfl
        have hs4 := HL2.out s (List.mem_of_getElem? hx)
        have HS := Lib.hid (runJ_snoc l i s hx)
        have hil : (i : Int) < l.length := by omega
        have hNr := hN.below hB
        generalize hv : runJ (joined (l.take i)) = v at *
        have HV := Lib.hid hv
        clear hv hx hr1 hlr
        go_wp2_with fail
        have hnl := hrow.lt
        refine wp_region_lasts (fun w' => Below wr.heap.size wr w') (fun i => i == 6) (by kernel_rfl) (Below.refl _ _).drew (fun hHeld => ?_)
        refine tk_0 (v := ?_) (by kernel_rfl) (by kernel_rfl) (by kernel_rfl) (by kernel_rfl) (fun _ _ _ h => h) (Or.inl ⟨by kernel_rfl, ?_⟩) (by assumption) ?_
        rotate_left
        · (intro wS hSw; (try dsimp only at hSw); (have hcw : wS.cell? ⟨g9, 0, none⟩ = some (.int .u64 v.toNat) := (hSw.cell (p := ⟨g9, 0, none⟩) hnl).trans hcell; go_simp); (all_goals (with_reducible rfl)))
        try go_frame
        refine tk_1 (v := ?_) (by kernel_rfl) (by kernel_rfl) (by kernel_rfl) (by kernel_rfl) (fun _ _ _ h => h) (Or.inl ⟨by kernel_rfl, ?_⟩) (by assumption) ?_
        rotate_left
        · (intro wS hSw; (try dsimp only at hSw); (go_simp); (all_goals (with_reducible rfl)))
        try go_frame
        refine tk_2 (v := ?_) (by kernel_rfl) (by kernel_rfl) (by kernel_rfl) (by kernel_rfl) (fun _ _ _ h => h) (Or.inl ⟨by kernel_rfl, ?_⟩) (by assumption) ?_
        rotate_left
        · (intro wS hSw; (try dsimp only at hSw); (go_simp); (all_goals (with_reducible rfl)))
        try go_frame
        refine tk_3 (v := ?_) (by kernel_rfl) (by kernel_rfl) (by kernel_rfl) (by kernel_rfl) (fun _ _ _ h => h) (Or.inl ⟨by kernel_rfl, ?_⟩) (by assumption) ?_
        rotate_left
        · (intro wS hSw; (try dsimp only at hSw); (go_simp); (all_goals (with_reducible rfl)))
        try go_frame
        refine tk_4 (v := ?_) (by kernel_rfl) (by kernel_rfl) (by kernel_rfl) (by kernel_rfl) (fun _ _ _ h => h) (Or.inl ⟨by kernel_rfl, ?_⟩) (by assumption) ?_
        rotate_left
        · (intro wS hSw; (try dsimp only at hSw); (have hcw : wS.cell? (ad.add i) = some (.string s) := (hSw.cell (p := ad.add i) (by rw [block_of_add]; exact hab)).trans hc; go_simp); (all_goals (with_reducible rfl)))
        try go_frame
        refine dn_5 (by kernel_rfl) (fun K hK => ?_)
        rw [if_pos (by kernel_rfl)]
        go_simp; go_at_call 20; with_reducible refine (hash_Add v s (by omega) _ rfl _ (by exact hNr.below hHeld)).mono ?_; rintro e w5 ⟨rfl, hb5⟩; have hrow2 := rowIs_below hrow (bl_on hHeld hb5); have hcell2 := hrow2.cell (i := 0) (by omega); have hfr2 := hrow2.frozen 0; go_simp
        refine hK.out _ _ (fun _ => by (try dsimp only); exact bl_on hHeld hb5) (fun hHeld => ?_)
        replace hHeld := hHeld rfl
        clear hK K
        try go_frame
        refine dn_6 (by kernel_rfl) (fun K hK => ?_)
        rw [if_pos (by kernel_rfl)]
        go_simp
        refine hK.out _ _ (fun h => by cases h) (fun _ => ?_)
        clear hK K
        try go_frame
        refine wpAnyT_done (by kernel_rfl) ?_ _
        refine NoPanic.normal ?_
        rw [HS.out]
        have hrow3 := (hrow2.set 0 (.int .u64 (runJ (joined (l.take (i + 1)))).toNat)).congr (g := fun _ => .int .u64 (runJ (joined (l.take (i + 1)))).toNat) (fun j hj => by rw [if_pos (by omega)])
        have hB3 := (hB.trans (hHeld.mono hB.size)).setCell (p := ⟨g9, 0, none⟩) hgs (.int .u64 (runJ (joined (l.take (i + 1)))).toNat)
        generalize w5.setCell ⟨g9, 0, none⟩ (.int .u64 (runJ (joined (l.take (i + 1)))).toNat) = w6 at *
        clear hrow hrow2 hcell hcell2 hfr2 hB hHeld hc hNr
        go_wp2_with fail
        go_roundw
        case rel => exact ⟨i + 1, hlt, by go_num, hrow3, hB3⟩
        case measure => go_light; simp [intOf]; omega
      · obtain rfl : i = K := by omega
        have hcell := hrow.cell (i := 0) (by omega)
        have hnl := hrow.lt
        go_wp2_with fail
        have hrow11 := row1_new wr 30 (.int .u64 (runJ (joined (l.take i))).toNat)
        have hrow9 := hrow.alloc (.cells #[.int .u64 (runJ (joined (l.take i))).toNat] 30)
        have hB4 := hB.alloc hB.size (.cells #[.int .u64 (runJ (joined (l.take i))).toNat] 30)
        have hg11 : w.heap.size ≤ wr.heap.size := hB.size
        generalize wr.alloc (.cells #[.int .u64 (runJ (joined (l.take i))).toNat] 30) = w4 at *
        generalize wr.heap.size = g11 at *
        obtain ⟨K, hK⟩ : ∃ K, K = i := ⟨_, rfl⟩
        subst hK
        clear hrow hcell hB
        go_loopw [12] (fun u12 wr => ∃ i : Nat, K ≤ i ∧ i ≤ l.length ∧ u12 = .int .i64 i ∧ wr.rowIs g9 30 1 (fun _ => .int .u64 (runJ (joined (l.take i))).toNat) ∧ wr.rowIs g11 30 1 (fun _ => .int .u64 (runJ (joined (l.take K))).toNat) ∧ Below w.heap.size w wr) (fun u12 _ => l.length - (intOf u12).toNat)
        case atStart => exact ⟨K, Nat.le_refl _, hKl, rfl, hrow9, hrow11, hB4⟩
        case round =>
         clear hrow9 hrow11 hB4 hB2
         obtain ⟨i, hiK, hi, rfl, hrow, hrow11, hB⟩ := hrel
         by_cases hlt2 : i < l.length
         · skip
           have hcell := hrow.cell (i := 0) (by omega)
           have hlr := hl.below hB
           obtain ⟨_, _, hv1, _, _, hr1⟩ := id hlr
           injection hv1 with q1 q2 q3
           subst q1; subst q3
           obtain ⟨ad, s, rfl, hab, hx, hc⟩ := hr1.elem (k := i) (by omega) rfl
           have hs4 := HL2.out s (List.mem_of_getElem? hx)
           have HS := Lib.hid (runJ_snoc l i s hx)
           have hil : (i : Int) < l.length := by omega
           have hNr := hN.below hB
           generalize hv : runJ (joined (l.take i)) = v at *
           have HV := Lib.hid hv
           clear hv hx hr1 hlr
           go_wp2_with fail
           have hnl9 := hrow.lt
           refine wp_region_lasts (fun w' => Below wr.heap.size wr w') (fun i => i == 6) (by kernel_rfl) (Below.refl _ _).drew (fun hHeld => ?_)
           refine tk_0 (v := ?_) (by kernel_rfl) (by kernel_rfl) (by kernel_rfl) (by kernel_rfl) (fun _ _ _ h => h) (Or.inl ⟨by kernel_rfl, ?_⟩) (by assumption) ?_
           rotate_left
           · (intro wS hSw; (try dsimp only at hSw); (have hcw : wS.cell? ⟨g9, 0, none⟩ = some (.int .u64 v.toNat) := (hSw.cell (p := ⟨g9, 0, none⟩) hnl9).trans hcell; go_simp); (all_goals (with_reducible rfl)))
           try go_frame
           refine tk_1 (v := ?_) (by kernel_rfl) (by kernel_rfl) (by kernel_rfl) (by kernel_rfl) (fun _ _ _ h => h) (Or.inl ⟨by kernel_rfl, ?_⟩) (by assumption) ?_
           rotate_left
           · (intro wS hSw; (try dsimp only at hSw); (go_simp); (all_goals (with_reducible rfl)))
           try go_frame
           refine tk_2 (v := ?_) (by kernel_rfl) (by kernel_rfl) (by kernel_rfl) (by kernel_rfl) (fun _ _ _ h => h) (Or.inl ⟨by kernel_rfl, ?_⟩) (by assumption) ?_
           rotate_left
           · (intro wS hSw; (try dsimp only at hSw); (go_simp); (all_goals (with_reducible rfl)))
           try go_frame
           refine tk_3 (v := ?_) (by kernel_rfl) (by kernel_rfl) (by kernel_rfl) (by kernel_rfl) (fun _ _ _ h => h) (Or.inl ⟨by kernel_rfl, ?_⟩) (by assumption) ?_
           rotate_left
           · (intro wS hSw; (try dsimp only at hSw); (go_simp); (all_goals (with_reducible rfl)))
           try go_frame
           refine tk_4 (v := ?_) (by kernel_rfl) (by kernel_rfl) (by kernel_rfl) (by kernel_rfl) (fun _ _ _ h => h) (Or.inl ⟨by kernel_rfl, ?_⟩) (by assumption) ?_
           rotate_left
           · (intro wS hSw; (try dsimp only at hSw); (have hcw : wS.cell? (ad.add i) = some (.string s) := (hSw.cell (p := ad.add i) (by rw [block_of_add]; exact hab)).trans hc; go_simp); (all_goals (with_reducible rfl)))
           try go_frame
           refine dn_5 (by kernel_rfl) (fun K hK => ?_)
           rw [if_pos (by kernel_rfl)]
           go_simp; go_at_call 20; with_reducible refine (hash_Add v s (by omega) _ rfl _ (by exact hNr.below hHeld)).mono ?_; rintro e w5 ⟨rfl, hb5⟩; have hrow2 := rowIs_below hrow (bl_on hHeld hb5); have hrow112 := rowIs_below hrow11 (bl_on hHeld hb5); have hcell2 := hrow2.cell (i := 0) (by omega); have hfr2 := hrow2.frozen 0; go_simp
           refine hK.out _ _ (fun _ => by (try dsimp only); exact bl_on hHeld hb5) (fun hHeld => ?_)
           replace hHeld := hHeld rfl
           clear hK K
           try go_frame
           refine dn_6 (by kernel_rfl) (fun K hK => ?_)
           rw [if_pos (by kernel_rfl)]
           go_simp
           refine hK.out _ _ (fun h => by cases h) (fun _ => ?_)
           clear hK K
           try go_frame
           refine wpAnyT_done (by kernel_rfl) ?_ _
           refine NoPanic.normal ?_
           rw [HS.out]
           have hrow3 := (hrow2.set 0 (.int .u64 (runJ (joined (l.take (i + 1)))).toNat)).congr (g := fun _ => .int .u64 (runJ (joined (l.take (i + 1)))).toNat) (fun j hj => by rw [if_pos (by omega)])
           have hB3 := (hB.trans (hHeld.mono hB.size)).setCell (p := ⟨g9, 0, none⟩) hgs (.int .u64 (runJ (joined (l.take (i + 1)))).toNat)
           have hrow113 := hrow112.setOther (a := ⟨g9, 0, none⟩) (show g11 ≠ g9 by omega) (.int .u64 (runJ (joined (l.take (i + 1)))).toNat)
           generalize w5.setCell ⟨g9, 0, none⟩ (.int .u64 (runJ (joined (l.take (i + 1)))).toNat) = w6 at *
           clear hrow hrow2 hcell hcell2 hfr2 hB hHeld hc hNr hrow11 hrow112
           go_wp2_with fail
           go_roundw
           case rel => exact ⟨i + 1, by omega, hlt2, by go_num, hrow3, hrow113, hB3⟩
           case measure => go_light; simp [intOf]; omega
         · obtain rfl : i = l.length := by omega
           rw [List.take_length] at hrow
           have hc11 := hrow11.cell (i := 0) (by omega)
           have hNr := hN.below hB
           have hjl := HJ.out l.length
           rw [List.take_length] at hjl
           have hjk := HJ.out K
           have HM := Lib.hid (runJ_more (joined (l.take K)) o.data.toList)
           have HA := Lib.hid (ba_append (joined (l.take K)) o)
           have HAA := ba_append (joined (l.take K)) o
           have hlr := hl.below hB
           have hos : o.data.toList.length = o.size := by rw [Array.length_toList]; rfl
           have hlenA : (joined (l.take K) ++ o.data.toList).length ≤ 5200 := by rw [List.length_append]; omega
           obtain ⟨z1, hz1, hz1'⟩ := runJ_both (joined l)
           obtain ⟨z2, hz2, hz2'⟩ := runJ_both (joined (l.take K))
           obtain ⟨z3, hz3, hz3'⟩ := runJ_both (joined (l.take K) ++ o.data.toList)
           have Z1 := Lib.hid hz1
           have Z1' := Lib.hid hz1'
           have Z2 := Lib.hid hz2
           have Z2' := Lib.hid hz2'
           have Z3 := Lib.hid hz3
           have Z3' := Lib.hid hz3'
           clear hz1 hz2 hz3 hz1' hz2' hz3'
           clear hos
           go_wp2_with fail
           refine (hash_Add (runJ (joined (l.take K))) o (by omega) _ rfl _ hNr).mono ?_
           rw [HM.out]
           rintro e w5 ⟨rfl, hb5⟩
           have hl5 := hlr.below hb5
           have hB5 := bl_on hB hb5
           replace hrow := rowIs_below hrow hb5
           replace hrow11 := rowIs_below hrow11 hb5
           clear hB hb5 hNr hlr hc11
           go_wp2_with fail
           have hrow13 := row1_new w5 30 (.int .u64 (runJ (joined (l.take K) ++ o.data.toList)).toNat)
           have hBx := (Below.refl w5.heap.size w5).alloc (Nat.le_refl _) (.cells #[.int .u64 (runJ (joined (l.take K) ++ o.data.toList)).toNat] 30)
           replace hrow := rowIs_below hrow hBx
           replace hrow11 := rowIs_below hrow11 hBx
           have hl6 := hl5.below hBx
           have hB6 := bl_on hB5 hBx
           clear hBx hB5 hl5
           generalize w5.alloc (.cells #[.int .u64 (runJ (joined (l.take K) ++ o.data.toList)).toNat] 30) = w6 at *
           generalize w5.heap.size = g13 at *
           refine (ref_Joined l _ _ hl6 l1 HL2.out).mono ?_
           rintro e w' ⟨rfl, rfl⟩
           go_wp2_with (refine wpList_slice_h (o := ⟨some 65, _, _, _, _, _⟩) rfl _ _ _ rfl elStrs02 rfl hl6 _ K rfl rfl hKl ?_; intro X d m hm hslm)
           rw [hm] at hslm
           clear hm
           have hslk : Sl w6 (.slice X K d) 1 (l.take K).length ((l.take K).map Value.string) := by
             rw [List.length_take, Nat.min_eq_left hKl, List.map_take]
             simpa using hslm
           refine (ref_Joined (l.take K) _ _ hslk (by rw [List.length_take]; omega) (fun s hs => HL2.out s (List.mem_of_mem_take hs))).mono ?_
           rintro e w' ⟨rfl, rfl⟩
           have hN6 := hN.below hB6
           clear hslk hslm hl6
           generalize joined (l.take K) = JK at *
           generalize joined l = JL at *
           have c9 := hrow.cell (i := 0) (by omega)
           go_wp2_with fail
           refine (hash_Value (runJ JL) _).mono ?_
           rw [Z1.out]
           rintro e w7 ⟨rfl, hb7⟩
           replace hrow11 := rowIs_below hrow11 hb7
           replace hrow13 := rowIs_below hrow13 hb7
           have hN7 := hN6.below hb7
           have hB7 := bl_on hB6 hb7
           clear hb7 hB6 hN6 hrow c9
           go_wp2_with (refine wpList_stob (o := ⟨some 72, _, _, _, _, _⟩) rfl _ _ _ rfl Tryd.underlying9 Tryd.underlying22 Tryd.underlying5 rfl (by rw [ba_size]; exact Nat.le_trans hjl (by decide)) ?_; intro v8 w8 hsl8 hb8)
           refine (hash_Crc40 JL _ _ hsl8 (hN7.below hb8) (by omega)).mono ?_
           rw [Z1'.out]
           rintro e w9 ⟨rfl, hb9⟩
           have hb89 := bl_on hb8 hb9
           replace hrow11 := rowIs_below hrow11 hb89
           replace hrow13 := rowIs_below hrow13 hb89
           have hN9 := hN7.below hb89
           have hB9 := bl_on hB7 hb89
           clear hb8 hb9 hb89 hB7 hN7 hsl8
           have c11 := hrow11.cell (i := 0) (by omega)
           go_wp2_with fail
           refine (hash_Value (runJ JK) _).mono ?_
           rw [Z2.out]
           rintro e w10 ⟨rfl, hb10⟩
           replace hrow13 := rowIs_below hrow13 hb10
           have hN10 := hN9.below hb10
           have hB10 := bl_on hB9 hb10
           clear hb10 hB9 hN9 hrow11 c11
           go_wp2_with (refine wpList_stob (o := ⟨some 80, _, _, _, _, _⟩) rfl _ _ _ rfl Tryd.underlying9 Tryd.underlying22 Tryd.underlying5 rfl (by rw [ba_size]; exact Nat.le_trans hjk (by decide)) ?_; intro v11 w11 hsl11 hb11)
           refine (hash_Crc40 JK _ _ hsl11 (hN10.below hb11) (by omega)).mono ?_
           rw [Z2'.out]
           rintro e w12 ⟨rfl, hb12⟩
           have hb12' := bl_on hb11 hb12
           replace hrow13 := rowIs_below hrow13 hb12'
           have hN12 := hN10.below hb12'
           have hB12 := bl_on hB10 hb12'
           clear hb11 hb12 hb12' hB10 hN10 hsl11
           have c13 := hrow13.cell (i := 0) (by omega)
           go_wp2_with fail
           refine (hash_Value (runJ (JK ++ o.data.toList)) _).mono ?_
           rw [Z3.out]
           rintro e w13 ⟨rfl, hb13⟩
           have hN13 := hN12.below hb13
           have hB13 := bl_on hB12 hb13
           clear hb13 hB12 hN12 hrow13 c13
           go_wp2_with (refine wpList_stob (o := ⟨some 90, _, _, _, _, _⟩) rfl _ _ _ rfl Tryd.underlying9 Tryd.underlying22 Tryd.underlying5 rfl (by rw [ba_size]; exact Nat.le_trans hlenA (by decide)) ?_; intro v14 w14 hsl14 hb14)
           refine (hash_Crc40 (JK ++ o.data.toList) _ _ hsl14 (hN13.below hb14) (by omega)).mono ?_
           rw [Z3'.out]
           rintro e w15 ⟨rfl, hb15⟩
           go_wp2_with fail
           go_ret
           exact ⟨rfl, bl_on (bl_on hB13 hb14) hb15⟩
  · go_enter Tryd.func4, Tryd.ntmps4
    go_wp2_with fail
    refine (law_sanity _ hN hC).mono ?_
    rintro e w1 ⟨rfl, hb1⟩
    go_wp2_with fail
    refine (ref_Few l _ _ (hl.below hb1)).mono ?_
    rw [HF.out]
    rintro e w' ⟨rfl, rfl⟩
    go_wp2_with fail
    go_ret
    exact ⟨rfl, hb1⟩
theorem stream_form {v : Value} {m : List UInt8} (h : Sha.IsStream v m) : ∃ F : Nat → Value, v = .agg (arr 73 F) ∧ ∀ i, i < 73 → (F i).oneCell' = true := by
  obtain ⟨blk, rfl, _, _⟩ := h
  exact ⟨_, rfl, fun i _ => Sha.strF_one _ _ _ i⟩
theorem stream_one {F : Nat → Value} {m : List UInt8} (h : Sha.IsStream (.agg (arr 73 F)) m) : ∀ i, i < 73 → (F i).oneCell' = true := by
  obtain ⟨F', e, h1⟩ := stream_form h
  intro i hi
  have := congrArg (fun v => match v with | Value.agg c => c[i]? | _ => none) e
  simp only [arr_at _ _ _ hi] at this
  injection this with this
  rw [this]; exact h1 i hi
set_option maxHeartbeats 2000000 in
set_option maxRecDepth 100000 in
theorem streams_walk (l : List ByteArray) (x : Value) (o : ByteArray) (n : Int) (w : World) (hl : Sl w x 1 l.length (l.map Value.string)) (_ho : o.size ≤ 140737488351232) (hn0 : 0 ≤ n) (hn1 : n ≤ 255) (hT : Nibs w ∧ Consts w) :
    Calls Tryd.prog 12 #[x, .string o, .int .u8 n] w fun e w' => e = .returned (.bool true) ∧ Below w.heap.size w w' := by
  obtain ⟨hN, hC⟩ := hT
  cases hf : fewB l
  · have HF := Lib.hid hf
    clear hf
    go_enter Tryd.func12, Tryd.ntmps12
    go_wp2_with fail
    refine (law_sanity _ hN hC).mono ?_
    rintro e w1 ⟨rfl, hb1⟩
    go_wp2_with fail
    refine (ref_Few l _ _ (hl.below hb1)).mono ?_
    rw [HF.out]
    rintro e w' ⟨rfl, rfl⟩
    go_wp2_with fail
    go_ret
    exact ⟨rfl, hb1⟩
  obtain ⟨l1, l2⟩ := (fewB_iff l).1 hf
  have HF := Lib.hid hf
  have HL2 := Lib.hid l2
  have HJ := Lib.hid (fun k => joined_take_le l k l1 l2)
  clear hf l2
  by_cases ho : o.size ≤ 400
  · obtain ⟨K, hK⟩ : ∃ K : Nat, n.toNat % (l.length + 1) = K := ⟨_, rfl⟩
    have hKl : K ≤ l.length := by rw [← hK]; have := Nat.mod_lt n.toNat (show 0 < l.length + 1 by omega); omega
    have e1 : n % ((l.length : Int) + 1) = (K : Int) := by rw [← hK, Int.natCast_emod, Int.toNat_of_nonneg hn0]; simp
    have e2 : n.tmod ((l.length : Int) + 1) = (K : Int) := by rw [Int.tmod_eq_emod_of_nonneg hn0]; exact e1
    clear hK
    obtain ⟨A, c, rfl, hnc, hcm, _⟩ := id hl
    unfold maxLen at hcm
    go_enter Tryd.func12, Tryd.ntmps12
    go_wp2_with fail
    refine (law_sanity _ hN hC).mono ?_
    rintro e w1 ⟨rfl, hb1⟩
    have hl1 := hl.below hb1
    go_wp2_with fail
    refine (ref_Few l _ _ hl1).mono ?_
    rw [HF.out]
    rintro e w' ⟨rfl, rfl⟩
    go_wp2_with fail
    refine (hash_Begin _).mono ?_
    rintro e w2 ⟨v2, rfl, hst0, hb2⟩
    have hB2 := bl_on hb1 hb2
    obtain ⟨F0, rfl, h10⟩ := stream_form hst0
    have HO := Lib.hid h10
    have hz := str_zero
    clear h10
    go_wp2_with (refine wpList_store_fresh (o := ⟨none, _, _, _, _, _⟩) rfl _ _ _ rfl _ (arr 73 F0) rfl rfl aggStr (arr_size _ _) (arr_size _ _) (arr_ones HO.out) ?_)
    have hrow0 := row_alloc w2 53 73 F0
    have hB3 := hB2.alloc hB2.size (.cells (arr 73 F0) 53)
    have hgs := hB2.size
    have HE1 := Lib.hid e1
    have HE2 := Lib.hid e2
    clear e1 e2 hb2 hb1 hl1
    generalize w2.alloc (.cells (arr 73 F0) 53) = w3 at *
    generalize w2.heap.size = g9 at *
    go_loopw [10] (fun u10 wr => ∃ (i : Nat) (F : Nat → Value), i ≤ K ∧ u10 = .int .i64 i ∧ wr.rowIs g9 53 73 F ∧ Sha.IsStream (.agg (arr 73 F)) (joined (l.take i)) ∧ Below w.heap.size w wr) (fun u10 _ => K - (intOf u10).toNat)
    case atStart => exact ⟨0, F0, Nat.zero_le _, rfl, hrow0, hst0, hB3⟩
    case round =>
      clear hrow0 hB3 hst0
      obtain ⟨i, F, hi, rfl, hrow, hst, hB⟩ := hrel
      by_cases hlt : i < K
      · skip
        have hlr := hl.below hB
        obtain ⟨_, _, hv1, _, _, hr1⟩ := id hlr
        injection hv1 with q1 q2 q3
        subst q1; subst q3
        obtain ⟨ad, s, rfl, hab, hx, hc⟩ := hr1.elem (k := i) (by omega) rfl
        have hs4 := HL2.out s (List.mem_of_getElem? hx)
        have hjs := joined_snoc l i s hx
        have HS := Lib.hid hjs
        have hji := HJ.out i
        have hil : (i : Int) < l.length := by omega
        have hCr := hC.below hB
        clear hjs hx hr1 hlr
        generalize hv : joined (l.take i) = m at *
        have HV := Lib.hid hv
        clear hv
        go_wp2_with fail
        refine wp_region_lasts (fun w' => Below wr.heap.size wr w') (fun i => i == 6) (by kernel_rfl) (Below.refl _ _).drew (fun hHeld => ?_)
        refine tk_0 (v := ?_) (by kernel_rfl) (by kernel_rfl) (by kernel_rfl) (by kernel_rfl) (fun _ _ _ h => h) (Or.inl ⟨by kernel_rfl, ?_⟩) (by assumption) ?_
        rotate_left
        · (intro wS hSw; (try dsimp only at hSw); (refine exec_load_arr 53 (.tmp 9) ?_ (rowIs_below' hrow hSw) ?_ aggStr <;> rfl); (all_goals (with_reducible rfl)))
        try go_frame
        refine tk_1 (v := ?_) (by kernel_rfl) (by kernel_rfl) (by kernel_rfl) (by kernel_rfl) (fun _ _ _ h => h) (Or.inl ⟨by kernel_rfl, ?_⟩) (by assumption) ?_
        rotate_left
        · (intro wS hSw; (try dsimp only at hSw); (go_simp); (all_goals (with_reducible rfl)))
        try go_frame
        refine tk_2 (v := ?_) (by kernel_rfl) (by kernel_rfl) (by kernel_rfl) (by kernel_rfl) (fun _ _ _ h => h) (Or.inl ⟨by kernel_rfl, ?_⟩) (by assumption) ?_
        rotate_left
        · (intro wS hSw; (try dsimp only at hSw); (go_simp); (all_goals (with_reducible rfl)))
        try go_frame
        refine tk_3 (v := ?_) (by kernel_rfl) (by kernel_rfl) (by kernel_rfl) (by kernel_rfl) (fun _ _ _ h => h) (Or.inl ⟨by kernel_rfl, ?_⟩) (by assumption) ?_
        rotate_left
        · (intro wS hSw; (try dsimp only at hSw); (go_simp); (all_goals (with_reducible rfl)))
        try go_frame
        refine tk_4 (v := ?_) (by kernel_rfl) (by kernel_rfl) (by kernel_rfl) (by kernel_rfl) (fun _ _ _ h => h) (Or.inl ⟨by kernel_rfl, ?_⟩) (by assumption) ?_
        rotate_left
        · (intro wS hSw; (try dsimp only at hSw); (have hcw : wS.cell? (ad.add i) = some (.string s) := (hSw.cell (p := ad.add i) (by rw [block_of_add]; exact hab)).trans hc; go_simp); (all_goals (with_reducible rfl)))
        try go_frame
        refine dn_5 (by kernel_rfl) (fun K hK => ?_)
        rw [if_pos (by kernel_rfl)]
        go_simp; go_at_call 32; (with_reducible refine (hash_StreamAdd _ m s _ hst (by omega) (by exact hCr.below hHeld)).mono ?_); rintro e w5 ⟨v2, rfl, hst2, hb5⟩; obtain ⟨F6, rfl, h16⟩ := stream_form hst2; have H16 := Lib.hid h16; clear h16; have hr5 := rowIs_below' hrow (bl_on hHeld hb5); have hB5 := hB.trans ((bl_on hHeld hb5).mono hB.size); go_simp
        refine hK.out _ _ (fun _ => by (try dsimp only); exact bl_on hHeld hb5) (fun hHeld => ?_)
        replace hHeld := hHeld rfl
        clear hK K
        try go_frame
        refine dn_6 (by kernel_rfl) (fun K hK => ?_)
        rw [if_pos (by kernel_rfl)]
        refine wp_store_over (g := F6) _ _ _ rfl hr5 rfl rfl (by decide) aggStr H16.out ?_
        refine hK.out _ _ (fun h => by cases h) (fun _ => ?_)
        clear hK K
        try go_frame
        refine wpAnyT_done (by kernel_rfl) ?_ _
        refine NoPanic.normal ?_
        have hrowN := (row_setRow hr5 (over F 0 73 F6)).congr (g := F6) (fun j hj => by unfold over; rw [if_pos (by omega)]; simp)
        have hstN : Sha.IsStream (.agg (arr 73 F6)) (joined (l.take (i + 1))) := Eq.mpr (congrArg (Sha.IsStream _) HS.out) hst2
        have hB6 := below_setRow' hB5 hgs (arr 73 (over F 0 73 F6))
        generalize w5.setRow g9 (arr 73 (over F 0 73 F6)) = w6 at *
        clear hrow hr5 hB hB5 hHeld hc hCr hst hst2 hb5
        go_wp2_with fail
        go_roundw
        case rel => exact ⟨i + 1, F6, hlt, by go_num, hrowN, hstN, hB6⟩
        case measure => go_light; simp [intOf]; omega
      · obtain rfl : i = K := by omega
        have hnl := hrow.lt
        have hzr := row_alloc wr 53 73 zF
        have HO2 := Lib.hid (stream_one hst)
        go_wp2_with (first | (with_reducible refine wpList_load_arr (o := ⟨some 44, _, _, _, _, _⟩) rfl _ _ rfl hrow rfl aggStr ?_) | (refine wpList_store_fresh (o := ⟨none, _, _, _, _, _⟩) rfl _ _ _ rfl _ (arr 73 F) rfl rfl aggStr (arr_size _ _) (arr_size _ _) (arr_ones HO2.out) ?_))
        have hrow11 := row_alloc wr 53 73 F
        have hrow9 := hrow.alloc (.cells (arr 73 F) 53)
        have hB4 := hB.alloc hB.size (.cells (arr 73 F) 53)
        have hg11 : w.heap.size ≤ wr.heap.size := hB.size
        generalize wr.alloc (.cells (arr 73 F) 53) = w4 at *
        generalize wr.heap.size = g11 at *
        obtain ⟨K, hK⟩ : ∃ K, K = i := ⟨_, rfl⟩
        subst hK
        clear hrow hB hzr
        obtain ⟨FK, hFK⟩ : ∃ FK, FK = F := ⟨_, rfl⟩
        subst hFK
        have hst11 := hst
        go_loopw [12] (fun u12 wr => ∃ (i : Nat) (F : Nat → Value), K ≤ i ∧ i ≤ l.length ∧ u12 = .int .i64 i ∧ wr.rowIs g9 53 73 F ∧ Sha.IsStream (.agg (arr 73 F)) (joined (l.take i)) ∧ wr.rowIs g11 53 73 FK ∧ Below w.heap.size w wr) (fun u12 _ => l.length - (intOf u12).toNat)
        case atStart => exact ⟨K, FK, Nat.le_refl _, hKl, rfl, hrow9, hst, hrow11, hB4⟩
        case round =>
         clear hrow9 hrow11 hB4 hB2 hst
         obtain ⟨i, F, hiK, hi, rfl, hrow, hst, hrow11, hB⟩ := hrel
         by_cases hlt2 : i < l.length
         · skip
           have hlr := hl.below hB
           obtain ⟨_, _, hv1, _, _, hr1⟩ := id hlr
           injection hv1 with q1 q2 q3
           subst q1; subst q3
           obtain ⟨ad, s, rfl, hab, hx, hc⟩ := hr1.elem (k := i) (by omega) rfl
           have hs4 := HL2.out s (List.mem_of_getElem? hx)
           have hjs := joined_snoc l i s hx
           have HS := Lib.hid hjs
           have hji := HJ.out i
           have hil : (i : Int) < l.length := by omega
           have hCr := hC.below hB
           clear hjs hx hr1 hlr
           generalize hv : joined (l.take i) = m at *
           have HV := Lib.hid hv
           clear hv
           go_wp2_with fail
           refine wp_region_lasts (fun w' => Below wr.heap.size wr w') (fun i => i == 6) (by kernel_rfl) (Below.refl _ _).drew (fun hHeld => ?_)
           refine tk_0 (v := ?_) (by kernel_rfl) (by kernel_rfl) (by kernel_rfl) (by kernel_rfl) (fun _ _ _ h => h) (Or.inl ⟨by kernel_rfl, ?_⟩) (by assumption) ?_
           rotate_left
           · (intro wS hSw; (try dsimp only at hSw); (refine exec_load_arr 53 (.tmp 9) ?_ (rowIs_below' hrow hSw) ?_ aggStr <;> rfl); (all_goals (with_reducible rfl)))
           try go_frame
           refine tk_1 (v := ?_) (by kernel_rfl) (by kernel_rfl) (by kernel_rfl) (by kernel_rfl) (fun _ _ _ h => h) (Or.inl ⟨by kernel_rfl, ?_⟩) (by assumption) ?_
           rotate_left
           · (intro wS hSw; (try dsimp only at hSw); (go_simp); (all_goals (with_reducible rfl)))
           try go_frame
           refine tk_2 (v := ?_) (by kernel_rfl) (by kernel_rfl) (by kernel_rfl) (by kernel_rfl) (fun _ _ _ h => h) (Or.inl ⟨by kernel_rfl, ?_⟩) (by assumption) ?_
           rotate_left
           · (intro wS hSw; (try dsimp only at hSw); (go_simp); (all_goals (with_reducible rfl)))
           try go_frame
           refine tk_3 (v := ?_) (by kernel_rfl) (by kernel_rfl) (by kernel_rfl) (by kernel_rfl) (fun _ _ _ h => h) (Or.inl ⟨by kernel_rfl, ?_⟩) (by assumption) ?_
           rotate_left
           · (intro wS hSw; (try dsimp only at hSw); (go_simp); (all_goals (with_reducible rfl)))
           try go_frame
           refine tk_4 (v := ?_) (by kernel_rfl) (by kernel_rfl) (by kernel_rfl) (by kernel_rfl) (fun _ _ _ h => h) (Or.inl ⟨by kernel_rfl, ?_⟩) (by assumption) ?_
           rotate_left
           · (intro wS hSw; (try dsimp only at hSw); (have hcw : wS.cell? (ad.add i) = some (.string s) := (hSw.cell (p := ad.add i) (by rw [block_of_add]; exact hab)).trans hc; go_simp); (all_goals (with_reducible rfl)))
           try go_frame
           refine dn_5 (by kernel_rfl) (fun K hK => ?_)
           rw [if_pos (by kernel_rfl)]
           go_simp; go_at_call 32; (with_reducible refine (hash_StreamAdd _ m s _ hst (by omega) (by exact hCr.below hHeld)).mono ?_); rintro e w5 ⟨v2, rfl, hst2, hb5⟩; obtain ⟨F6, rfl, h16⟩ := stream_form hst2; have H16 := Lib.hid h16; clear h16; have hr5 := rowIs_below' hrow (bl_on hHeld hb5); have hB5 := hB.trans ((bl_on hHeld hb5).mono hB.size); have hr11 := rowIs_below' hrow11 (bl_on hHeld hb5); go_simp
           refine hK.out _ _ (fun _ => by (try dsimp only); exact bl_on hHeld hb5) (fun hHeld => ?_)
           replace hHeld := hHeld rfl
           clear hK K
           try go_frame
           refine dn_6 (by kernel_rfl) (fun K hK => ?_)
           rw [if_pos (by kernel_rfl)]
           refine wp_store_over (g := F6) _ _ _ rfl hr5 rfl rfl (by decide) aggStr H16.out ?_
           refine hK.out _ _ (fun h => by cases h) (fun _ => ?_)
           clear hK K
           try go_frame
           refine wpAnyT_done (by kernel_rfl) ?_ _
           refine NoPanic.normal ?_
           have hrowN := (row_setRow hr5 (over F 0 73 F6)).congr (g := F6) (fun j hj => by unfold over; rw [if_pos (by omega)]; simp)
           have hstN : Sha.IsStream (.agg (arr 73 F6)) (joined (l.take (i + 1))) := Eq.mpr (congrArg (Sha.IsStream _) HS.out) hst2
           have hB6 := below_setRow' hB5 hgs (arr 73 (over F 0 73 F6))
           have hrow11N := row_setRow_other hr11 (show g11 ≠ g9 by omega) (arr 73 (over F 0 73 F6))
           generalize w5.setRow g9 (arr 73 (over F 0 73 F6)) = w6 at *
           clear hrow hr5 hB hB5 hHeld hc hCr hst hst2 hb5 hrow11 hr11
           go_wp2_with fail
           go_roundw
           case rel => exact ⟨i + 1, F6, by omega, hlt2, by go_num, hrowN, hstN, hrow11N, hB6⟩
           case measure => go_light; simp [intOf]; omega
         · obtain rfl : i = l.length := by omega
           rw [List.take_length] at hst
           have hCr := hC.below hB
           have hjl := HJ.out l.length
           rw [List.take_length] at hjl
           have hjk := HJ.out K
           have HA := ba_append (joined (l.take K)) o
           have hlr := hl.below hB
           have hos : o.data.toList.length = o.size := by rw [Array.length_toList]; rfl
           have hlenA : (joined (l.take K) ++ o.data.toList).length ≤ 5200 := by rw [List.length_append]; omega
           obtain ⟨S1, hS1⟩ : ∃ F : Nat → UInt8, F = fun i => (Sha.sha (joined l)).getD i 0 := ⟨_, rfl⟩
           obtain ⟨S2, hS2⟩ : ∃ F : Nat → UInt8, F = fun i => (Sha.sha (joined (l.take K))).getD i 0 := ⟨_, rfl⟩
           obtain ⟨S3, hS3⟩ : ∃ F : Nat → UInt8, F = fun i => (Sha.sha (joined (l.take K) ++ o.data.toList)).getD i 0 := ⟨_, rfl⟩
           have Z1 := Lib.hid (show shaVal (joined l) = .agg (arr 32 fun i => bv (S1 i)) by rw [hS1]; rfl)
           have Z2 := Lib.hid (show shaVal (joined (l.take K)) = .agg (arr 32 fun i => bv (S2 i)) by rw [hS2]; rfl)
           have Z3 := Lib.hid (show shaVal (joined (l.take K) ++ o.data.toList) = .agg (arr 32 fun i => bv (S3 i)) by rw [hS3]; rfl)
           have Z1' := Lib.hid (show Value.agg (arr 32 (fun i => bv ((Sha.sha (joined l)).getD i 0))) = .agg (arr 32 fun i => bv (S1 i)) by rw [hS1])
           have Z2' := Lib.hid (show Value.agg (arr 32 (fun i => bv ((Sha.sha (joined (l.take K))).getD i 0))) = .agg (arr 32 fun i => bv (S2 i)) by rw [hS2])
           have Z3' := Lib.hid (show Value.agg (arr 32 (fun i => bv ((Sha.sha (joined (l.take K) ++ o.data.toList)).getD i 0))) = .agg (arr 32 fun i => bv (S3 i)) by rw [hS3])
           clear hos hS1 hS2 hS3
           go_wp2_with (with_reducible refine wpList_load_arr (o := ⟨some 58, _, _, _, _, _⟩) rfl _ _ rfl hrow11 rfl aggStr ?_)
           refine (hash_StreamAdd _ (joined (l.take K)) o _ hst11 (by omega) hCr).mono ?_
           rintro e w5 ⟨v5, rfl, hst13, hb5⟩
           obtain ⟨F13, rfl, h13⟩ := stream_form hst13
           have H13 := Lib.hid h13
           have hl5 := hlr.below hb5
           have hB5 := bl_on hB hb5
           replace hrow := rowIs_below' hrow hb5
           replace hrow11 := rowIs_below' hrow11 hb5
           clear hB hb5 hCr hlr h13
           go_wp2_with (refine wpList_store_fresh (o := ⟨none, _, _, _, _, _⟩) rfl _ _ _ rfl _ (arr 73 F13) rfl rfl aggStr (arr_size _ _) (arr_size _ _) (arr_ones H13.out) ?_)
           have hrow13 := row_alloc w5 53 73 F13
           have hBx := (Below.refl w5.heap.size w5).alloc (Nat.le_refl _) (.cells (arr 73 F13) 53)
           replace hrow := rowIs_below' hrow hBx
           replace hrow11 := rowIs_below' hrow11 hBx
           have hl6 := hl5.below hBx
           have hB6 := bl_on hB5 hBx
           clear hBx hB5 hl5
           generalize w5.alloc (.cells (arr 73 F13) 53) = w6 at *
           generalize w5.heap.size = g13 at *
           refine (ref_Joined l _ _ hl6 l1 HL2.out).mono ?_
           rintro e w' ⟨rfl, rfl⟩
           go_wp2_with (refine wpList_slice_h (o := ⟨some 65, _, _, _, _, _⟩) rfl _ _ _ rfl elStrs02 rfl hl6 _ K rfl rfl hKl ?_; intro X d m hm hslm)
           rw [hm] at hslm
           clear hm
           have hslk : Sl w6 (.slice X K d) 1 (l.take K).length ((l.take K).map Value.string) := by
             rw [List.length_take, Nat.min_eq_left hKl, List.map_take]
             simpa using hslm
           refine (ref_Joined (l.take K) _ _ hslk (by rw [List.length_take]; omega) (fun s hs => HL2.out s (List.mem_of_mem_take hs))).mono ?_
           rintro e w' ⟨rfl, rfl⟩
           have hC6 := hC.below hB6
           clear hslk hslm hl6
           generalize joined (l.take K) = JK at *
           generalize joined l = JL at *
           go_wp2_with (refine wpList_load_arr_g (o := ⟨some 69, _, _, _, _, _⟩) rfl _ _ rfl hrow rfl aggStr ?_)
           refine (hash_StreamSum _ JL _ hst (by omega) hC6).mono ?_
           rw [Z1'.out]
           rintro e w7 ⟨rfl, hb7⟩
           replace hrow11 := rowIs_below' hrow11 hb7
           replace hrow13 := rowIs_below' hrow13 hb7
           have hC7 := hC6.below hb7
           have hB7 := bl_on hB6 hb7
           clear hb7 hB6 hC6 hrow hst
           go_wp2_with (refine wpList_stob (o := ⟨some 72, _, _, _, _, _⟩) rfl _ _ _ rfl Tryd.underlying9 Tryd.underlying22 Tryd.underlying5 rfl (by rw [ba_size]; exact Nat.le_trans hjl (by decide)) ?_; intro v8 w8 hsl8 hb8)
           refine (hash_Sum JL _ _ hsl8 (by omega) (hC7.below hb8)).mono ?_
           rw [Z1.out]
           rintro e w9 ⟨rfl, hb9⟩
           have hb89 := bl_on hb8 hb9
           replace hrow11 := rowIs_below' hrow11 hb89
           replace hrow13 := rowIs_below' hrow13 hb89
           have hC9 := hC7.below hb89
           have hB9 := bl_on hB7 hb89
           clear hb8 hb9 hb89 hB7 hC7 hsl8
           go_wp2_with (first | (refine wpList_eql_arr (o := ⟨some 74, _, _, _, _, _⟩) rfl _ _ _ _ rfl S1 S1 rfl rfl Tryd.underlying47 Tryd.underlying5 (run_sizeOf_el elBytes) (by kernel_rfl) true (by simp) ?_) | (refine wpList_load_arr_g (o := ⟨some 77, _, _, _, _, _⟩) rfl _ _ rfl hrow11 rfl aggStr ?_))
           refine (hash_StreamSum _ JK _ hst11 (by omega) hC9).mono ?_
           rw [Z2'.out]
           rintro e w10 ⟨rfl, hb10⟩
           replace hrow13 := rowIs_below' hrow13 hb10
           have hC10 := hC9.below hb10
           have hB10 := bl_on hB9 hb10
           clear hb10 hB9 hC9 hrow11 hst11
           go_wp2_with (refine wpList_stob (o := ⟨some 80, _, _, _, _, _⟩) rfl _ _ _ rfl Tryd.underlying9 Tryd.underlying22 Tryd.underlying5 rfl (by rw [ba_size]; exact Nat.le_trans hjk (by decide)) ?_; intro v11 w11 hsl11 hb11)
           refine (hash_Sum JK _ _ hsl11 (by omega) (hC10.below hb11)).mono ?_
           rw [Z2.out]
           rintro e w12 ⟨rfl, hb12⟩
           have hb12' := bl_on hb11 hb12
           replace hrow13 := rowIs_below' hrow13 hb12'
           have hC12 := hC10.below hb12'
           have hB12 := bl_on hB10 hb12'
           clear hb11 hb12 hb12' hB10 hC10 hsl11
           go_wp2_with (first | (refine wpList_eql_arr (o := ⟨some 82, _, _, _, _, _⟩) rfl _ _ _ _ rfl S2 S2 rfl rfl Tryd.underlying47 Tryd.underlying5 (run_sizeOf_el elBytes) (by kernel_rfl) true (by simp) ?_) | (refine wpList_load_arr_g (o := ⟨some 85, _, _, _, _, _⟩) rfl _ _ rfl hrow13 rfl aggStr ?_))
           refine (hash_StreamSum _ (JK ++ o.data.toList) _ hst13 (by omega) hC12).mono ?_
           rw [Z3'.out]
           rintro e w13 ⟨rfl, hb13⟩
           have hC13 := hC12.below hb13
           have hB13 := bl_on hB12 hb13
           clear hb13 hB12 hC12 hrow13 hst13
           go_wp2_with (refine wpList_stob (o := ⟨some 90, _, _, _, _, _⟩) rfl _ _ _ rfl Tryd.underlying9 Tryd.underlying22 Tryd.underlying5 rfl (by rw [ba_size]; exact Nat.le_trans hlenA (by decide)) ?_; intro v14 w14 hsl14 hb14)
           refine (hash_Sum (JK ++ o.data.toList) _ _ hsl14 (by omega) (hC13.below hb14)).mono ?_
           rw [Z3.out]
           rintro e w15 ⟨rfl, hb15⟩
           go_wp2_with (refine wpList_eql_arr (o := ⟨some 92, _, _, _, _, _⟩) rfl _ _ _ _ rfl S3 S3 rfl rfl Tryd.underlying47 Tryd.underlying5 (run_sizeOf_el elBytes) (by kernel_rfl) true (by simp) ?_)
           go_ret
           exact ⟨rfl, bl_on (bl_on hB13 hb14) hb15⟩
  · go_enter Tryd.func12, Tryd.ntmps12
    go_wp2_with fail
    refine (law_sanity _ hN hC).mono ?_
    rintro e w1 ⟨rfl, hb1⟩
    go_wp2_with fail
    refine (ref_Few l _ _ (hl.below hb1)).mono ?_
    rw [HF.out]
    rintro e w' ⟨rfl, rfl⟩
    go_wp2_with fail
    go_ret
    exact ⟨rfl, hb1⟩
end Go.Proofs.YtafehbnnoncieaaDoor
