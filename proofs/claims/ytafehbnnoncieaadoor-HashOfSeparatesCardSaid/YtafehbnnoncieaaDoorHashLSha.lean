/-
  The hash of 256 bits and digests: the walks of two statements. Conditions: none.
-/
import Derived.Test.YtafehbnnoncieaaDoorHashLCrc
namespace Go.Proofs.YtafehbnnoncieaaDoor
open Go.RowKit
theorem exec_eql_arr {P : Program} {ρ : Operand → Value} {o : Oper} {w : World} (t tt : TypeId) (x y : Operand) (ho : o.op = .binOp .eql t x y tt) {n : Nat} (f g : Nat → UInt8) (hx : ρ x = .agg (arr n fun i => bv (f i))) (hy : ρ y = .agg (arr n fun i => bv (g i)))
    {e : TypeId} (ht : P.underlying t = some (.array n e)) (he : P.underlying e = some (.int .u8)) (hsz : ∀ w, (sizeOf e).run P w = .ok 1 w) (hm : P.eqGuardType P.depth t = false) (b : Bool) (hb : ((List.range n).map f == (List.range n).map g) = b) :
    (execOp ρ o).run P w = .ok (.value (.bool b)) w := by
  subst hb
  have hr := run_eql_arr w t e n ht he hsz f g
  unfold execOp
  simp only [ho, hx, hy, Sem.run_bind, Sem.run_pure, run_eqGuard_agg _ _ _ _ _ _ _ hm, Result.andThen_ok, hr]

set_option maxHeartbeats 1000000 in
set_option maxRecDepth 100000 in
theorem sum_walk (l : List UInt8) (x : Value) (w : World) (hl : Sl w x 1 l.length (l.map bv)) (hT : Nibs w ∧ Consts w ∧ RConsts w) :
    Calls Tryd.prog 11 #[x] w fun e w' => e = .returned (.bool true) ∧ Below w.heap.size w w' := by
  obtain ⟨hN, hC, hR⟩ := hT
  obtain ⟨A, c, rfl, hnc, hcm, _⟩ := id hl
  unfold maxLen at hcm
  by_cases h6 : l.length ≤ 600
  · obtain ⟨F, hF⟩ : ∃ F : Nat → UInt8, F = fun i => (Sha.sha l).getD i 0 := ⟨_, rfl⟩
    have hv : shaVal l = .agg (arr 32 fun i => bv (F i)) := by rw [hF]; rfl
    have HV := Lib.hid hv
    clear hF hv
    go_enter Tryd.func11, Tryd.ntmps11
    go_wp2_with fail
    refine (law_sanity _ hN hC).mono ?_
    rintro e w1 ⟨rfl, hb1⟩
    have hC1 := hC.below hb1
    have hR1 := hR.below hb1
    have hl1 := hl.below hb1
    go_wp2_with (refine wpList_bytes_string (o := ⟨some 12, _, _, _, _, _⟩) rfl _ _ _ _ rfl Tryd.underlying22 Tryd.underlying5 Tryd.underlying9 rfl l hl1 ?_)
    refine (hash_Sum l _ _ hl1 (by omega) hC1).mono ?_
    rw [HV.out]
    rintro e w2 ⟨rfl, hb2⟩
    have hl2 := hl1.below hb2
    have hR2 := hR1.below hb2
    have hB2 := bl_on hb1 hb2
    go_wp2_with (with_reducible refine wpList_store_fresh (o := ⟨none, _, _, _, _, _⟩) rfl _ _ _ rfl _ (arr 32 fun i => bv (F i)) rfl rfl aggSum rfl (arr_size _ _) (arr_ones (fun _ _ => rfl)) ?_)
    have hr3 := row_alloc w2 47 32 (fun i => bv (F i))
    have hl3 := hl2.alloc (.cells (arr 32 fun i => bv (F i)) 47)
    have hB3 := hB2.alloc hB2.size (.cells (arr 32 fun i => bv (F i)) 47)
    have hR3 := hR2.below ((Below.refl w2.heap.size w2).alloc (Nat.le_refl _) (.cells (arr 32 fun i => bv (F i)) 47))
    generalize w2.alloc (.cells (arr 32 fun i => bv (F i)) 47) = w3 at *
    generalize w2.heap.size = g at *
    have hconv : ∀ w', Below w3.heap.size w3 w' → (convert 22 9 (.slice A l.length c)).run Tryd.prog w' = .ok (.string ⟨l.toArray⟩) w' := fun w' h => run_bytes_string w' _ _ _ elBytes.ht Tryd.underlying5 Tryd.underlying9 (hl3.below h)
    refine wp_region_lasts (fun w' => Below w3.heap.size w3 w') (fun _ => false) (by kernel_rfl) (Below.refl _ _).drew (fun hHeld => ?_)
    refine tk_0 (v := ?_) (by kernel_rfl) (by kernel_rfl) (by kernel_rfl) (by kernel_rfl) (fun _ _ _ h => h) (Or.inl ⟨by kernel_rfl, ?_⟩) (by assumption) ?_
    rotate_left
    · (intro wS hSw; (try dsimp only at hSw); (go_simp); (all_goals (with_reducible rfl)))
    try go_frame
    refine tk_1 (v := ?_) (by kernel_rfl) (by kernel_rfl) (by kernel_rfl) (by kernel_rfl) (fun _ _ _ h => h) (Or.inl ⟨by kernel_rfl, ?_⟩) (by assumption) ?_
    rotate_left
    · (intro wS hSw; (try dsimp only at hSw); (go_simp); (all_goals (with_reducible rfl)))
    try go_frame
    refine tk_2 (v := ?_) (by kernel_rfl) (by kernel_rfl) (by kernel_rfl) (by kernel_rfl) (fun _ _ _ h => h) (Or.inl ⟨by kernel_rfl, ?_⟩) (by assumption) ?_
    rotate_left
    · (intro wS hSw; (try dsimp only at hSw); (refine exec_load_arr 47 (.tmp 5) ?_ (rowIs_below' hr3 hSw) ?_ aggSum <;> rfl); (all_goals (with_reducible rfl)))
    try go_frame
    refine tk_3 (v := ?_) (by kernel_rfl) (by kernel_rfl) (by kernel_rfl) (by kernel_rfl) (fun _ _ _ h => h) (Or.inl ⟨by kernel_rfl, ?_⟩) (by assumption) ?_
    rotate_left
    · (intro wS hSw; (try dsimp only at hSw); (go_simp); (all_goals (with_reducible rfl)))
    try go_frame
    refine dn_4 (by kernel_rfl) (fun K hK => ?_)
    rw [if_pos (by kernel_rfl)]
    refine wp_stob _ _ _ rfl Tryd.underlying9 Tryd.underlying22 Tryd.underlying5 rfl (by rw [ba_size]; exact Nat.le_trans h6 (by decide)) ?_; intro v4 w4 hsl4 hb4
    refine hK.out _ _ (fun _ => by (try dsimp only); exact bl_on hHeld hb4) (fun hHeld => ?_)
    replace hHeld := hHeld rfl
    clear hK K
    try go_frame
    refine dn_5 (by kernel_rfl) (fun K hK => ?_)
    rw [if_pos (by kernel_rfl)]
    go_simp; go_at_call 30; refine (ref_Sum l _ _ hsl4 (by omega) (by exact hR3.below hHeld)).mono ?_; rw [HV.out]; rintro e w5 ⟨rfl, hb5⟩; go_simp
    refine hK.out _ _ (fun _ => by (try dsimp only); exact bl_on hHeld hb5) (fun hHeld => ?_)
    replace hHeld := hHeld rfl
    clear hK K
    try go_frame
    refine tk_6 (v := ?_) (by kernel_rfl) (by kernel_rfl) (by kernel_rfl) (by kernel_rfl) (fun _ _ _ h => h) (Or.inl ⟨by kernel_rfl, ?_⟩) (by assumption) ?_
    rotate_left
    · (intro wS hSw; (try dsimp only at hSw); (refine exec_eql_arr 47 47 (.tmp 17) (.tmp 20) ?_ F F ?_ ?_ Tryd.underlying47 Tryd.underlying5 (run_sizeOf_el elBytes) (by kernel_rfl) true (by simp) <;> rfl); (all_goals (with_reducible rfl)))
    try go_frame
    refine tk_7 (v := ?_) (by kernel_rfl) (by kernel_rfl) (by kernel_rfl) (by kernel_rfl) (fun _ _ _ h => h) (Or.inl ⟨by kernel_rfl, ?_⟩) (by assumption) ?_
    rotate_left
    · (intro wS hSw; (try dsimp only at hSw); (go_simp); (all_goals (with_reducible rfl)))
    try go_frame
    refine tk_8 (v := ?_) (by kernel_rfl) (by kernel_rfl) (by kernel_rfl) (by kernel_rfl) (fun _ _ _ h => h) (Or.inl ⟨by kernel_rfl, ?_⟩) (by assumption) ?_
    rotate_left
    · (intro wS hSw; (try dsimp only at hSw); (go_simp); (all_goals (with_reducible rfl)))
    try go_frame
    refine tk_9 (v := ?_) (by kernel_rfl) (by kernel_rfl) (by kernel_rfl) (by kernel_rfl) (fun _ _ _ h => h) (Or.inl ⟨by kernel_rfl, ?_⟩) (by assumption) ?_
    rotate_left
    · (intro wS hSw; (try dsimp only at hSw); (go_simp); (all_goals (with_reducible rfl)))
    try go_frame
    refine tk_10 (v := ?_) (by kernel_rfl) (by kernel_rfl) (by kernel_rfl) (by kernel_rfl) (fun _ _ _ h => h) (Or.inl ⟨by kernel_rfl, ?_⟩) (by assumption) ?_
    rotate_left
    · (intro wS hSw; (try dsimp only at hSw); (refine exec_conv (u := .slice A l.length c) (v := .string ⟨l.toArray⟩) _ _ (.tmp 24) ?_ ?_ (hconv _ hSw) <;> rfl); (all_goals (with_reducible rfl)))
    try go_frame
    refine tk_11 (v := ?_) (by kernel_rfl) (by kernel_rfl) (by kernel_rfl) (by kernel_rfl) (fun _ _ _ h => h) (Or.inl ⟨by kernel_rfl, ?_⟩) (by assumption) ?_
    rotate_left
    · (intro wS hSw; (try dsimp only at hSw); (go_simp); (all_goals (with_reducible rfl)))
    try go_frame
    refine tk_12 (v := ?_) (by kernel_rfl) (by kernel_rfl) (by kernel_rfl) (by kernel_rfl) (fun _ _ _ h => h) (Or.inl ⟨by kernel_rfl, ?_⟩) (by assumption) ?_
    rotate_left
    · (intro wS hSw; (try dsimp only at hSw); (go_simp); (all_goals (with_reducible rfl)))
    try go_frame
    refine tk_13 (v := ?_) (by kernel_rfl) (by kernel_rfl) (by kernel_rfl) (by kernel_rfl) (fun _ _ _ h => h) (Or.inl ⟨by kernel_rfl, ?_⟩) (by assumption) ?_
    rotate_left
    · (intro wS hSw; (try dsimp only at hSw); (go_simp); (all_goals (with_reducible rfl)))
    try go_frame
    refine tk_14 (v := ?_) (by kernel_rfl) (by kernel_rfl) (by kernel_rfl) (by kernel_rfl) (fun _ _ _ h => h) (Or.inl ⟨by kernel_rfl, ?_⟩) (by assumption) ?_
    rotate_left
    · (intro wS hSw; (try dsimp only at hSw); (go_simp); (all_goals (with_reducible rfl)))
    try go_frame
    refine wpAnyT_done (by kernel_rfl) ?_ _
    refine NoPanic.normal ?_
    go_wp2_with fail
    go_ret
    exact ⟨rfl, bl_on hB3 hHeld⟩
  · go_enter Tryd.func11, Tryd.ntmps11
    go_wp2_with fail
    refine (law_sanity _ hN hC).mono ?_
    rintro e w1 ⟨rfl, hb1⟩
    go_wp2_with fail
    go_ret
    exact ⟨rfl, hb1⟩

set_option maxHeartbeats 1000000 in
set_option maxRecDepth 100000 in
theorem of_walk (tag : Int) (l : List ByteArray) (x : Value) (w : World) (h1 : -9223372036854775808 ≤ tag) (h2 : tag ≤ 9223372036854775807) (hl : Sl w x 1 l.length (l.map Value.string)) (hT : Nibs w ∧ Consts w ∧ RConsts w) :
    Calls Tryd.prog 13 #[.int .i64 tag, x] w fun e w' => e = .returned (.bool true) ∧ Below w.heap.size w w' := by
  obtain ⟨hN, hC, hR⟩ := hT
  cases hf : fewB l
  · have HF := Lib.hid hf
    clear hf
    go_enter Tryd.func13, Tryd.ntmps13
    go_wp2_with fail
    refine (law_sanity _ hN hC).mono ?_
    rintro e w1 ⟨rfl, hb1⟩
    go_wp2_with fail
    refine (ref_Few l _ _ (hl.below hb1)).mono ?_
    rw [HF.out]
    rintro e w' ⟨rfl, rfl⟩
    go_wp2_with fail
    go_ret
    exact ⟨rfl, hb1⟩
  · obtain ⟨l1, l2⟩ := (fewB_iff l).1 hf
    have HF := Lib.hid hf
    have HL2 := Lib.hid l2
    clear hf l2
    obtain ⟨F, hF⟩ : ∃ F : Nat → UInt8, F = fun i => (Sha.sha (ofInput tag l)).getD i 0 := ⟨_, rfl⟩
    have hv : digVal (ofInput tag l) = .agg (arr 16 fun i => bv (F i)) := by rw [hF]; rfl
    have hm := i64_and_mask tag 8 (by decide)
    rw [show ((2 : Int) ^ 8 - 1) = 255 from rfl, show ((2 : Int) ^ 8) = 256 from rfl] at hm
    have ht : ofInput (tag % 256) l = ofInput tag l := by unfold ofInput; rw [Int.emod_emod_of_dvd tag (Int.dvd_refl 256)]
    have HV := Lib.hid hv
    have HT := Lib.hid ht
    clear hF hv ht
    go_enter Tryd.func13, Tryd.ntmps13
    go_wp2_with fail
    refine (law_sanity _ hN hC).mono ?_
    rintro e w1 ⟨rfl, hb1⟩
    have hC1 := hC.below hb1
    have hR1 := hR.below hb1
    have hl1 := hl.below hb1
    go_wp2_with fail
    refine (ref_Few l _ _ hl1).mono ?_
    rw [HF.out]
    rintro e w' ⟨rfl, rfl⟩
    go_wp2_with fail
    refine (hash_Of tag l _ _ h1 h2 hl1 (fun s hs => by have := HL2.out s hs; omega) (by omega) hC1).mono ?_
    rw [HV.out]
    rintro e w2 ⟨rfl, hb2⟩
    have hl2 := hl1.below hb2
    have hR2 := hR1.below hb2
    have hC2 := hC1.below hb2
    have hB2 := bl_on hb1 hb2
    go_wp2_with (with_reducible refine wpList_store_fresh (o := ⟨none, _, _, _, _, _⟩) rfl _ _ _ rfl _ (arr 16 fun i => bv (F i)) rfl rfl aggDig rfl (arr_size _ _) (arr_ones (fun _ _ => rfl)) ?_)
    have hr3 := row_alloc w2 58 16 (fun i => bv (F i))
    have hBx := (Below.refl w2.heap.size w2).alloc (Nat.le_refl _) (.cells (arr 16 fun i => bv (F i)) 58)
    have hl3 := hl2.below hBx
    have hB3 := bl_on hB2 hBx
    have hR3 := hR2.below hBx
    have hC3 := hC2.below hBx
    clear hBx
    generalize w2.alloc (.cells (arr 16 fun i => bv (F i)) 58) = w3 at *
    generalize w2.heap.size = g at *
    refine wp_region_lasts (fun w' => Below w3.heap.size w3 w') (fun _ => false) (by kernel_rfl) (Below.refl _ _).drew (fun hHeld => ?_)
    refine tk_0 (v := ?_) (by kernel_rfl) (by kernel_rfl) (by kernel_rfl) (by kernel_rfl) (fun _ _ _ h => h) (Or.inl ⟨by kernel_rfl, ?_⟩) (by assumption) ?_
    rotate_left
    · (intro wS hSw; (try dsimp only at hSw); (go_simp); (all_goals (with_reducible rfl)))
    try go_frame
    refine tk_1 (v := ?_) (by kernel_rfl) (by kernel_rfl) (by kernel_rfl) (by kernel_rfl) (fun _ _ _ h => h) (Or.inl ⟨by kernel_rfl, ?_⟩) (by assumption) ?_
    rotate_left
    · (intro wS hSw; (try dsimp only at hSw); (go_simp); (all_goals (with_reducible rfl)))
    try go_frame
    refine tk_2 (v := ?_) (by kernel_rfl) (by kernel_rfl) (by kernel_rfl) (by kernel_rfl) (fun _ _ _ h => h) (Or.inl ⟨by kernel_rfl, ?_⟩) (by assumption) ?_
    rotate_left
    · (intro wS hSw; (try dsimp only at hSw); (refine exec_load_arr 58 (.tmp 6) ?_ (rowIs_below' hr3 hSw) ?_ aggDig <;> rfl); (all_goals (with_reducible rfl)))
    try go_frame
    refine tk_3 (v := ?_) (by kernel_rfl) (by kernel_rfl) (by kernel_rfl) (by kernel_rfl) (fun _ _ _ h => h) (Or.inl ⟨by kernel_rfl, ?_⟩) (by assumption) ?_
    rotate_left
    · (intro wS hSw; (try dsimp only at hSw); (go_simp); (all_goals (with_reducible rfl)))
    try go_frame
    refine tk_4 (v := ?_) (by kernel_rfl) (by kernel_rfl) (by kernel_rfl) (by kernel_rfl) (fun _ _ _ h => h) (Or.inl ⟨by kernel_rfl, ?_⟩) (by assumption) ?_
    rotate_left
    · (intro wS hSw; (try dsimp only at hSw); (go_simp); (all_goals (with_reducible rfl)))
    try go_frame
    refine dn_5 (by kernel_rfl) (fun K hK => ?_)
    rw [if_pos (by kernel_rfl)]
    go_simp; go_at_call 35; refine (ref_Of tag l _ _ (by exact hl3.below hHeld) l1 HL2.out (by exact hR3.below hHeld)).mono ?_; rw [HV.out]; rintro e w5 ⟨rfl, hb5⟩; go_simp
    refine hK.out _ _ (fun _ => by (try dsimp only); exact bl_on hHeld hb5) (fun hHeld => ?_)
    replace hHeld := hHeld rfl
    clear hK K
    try go_frame
    refine tk_6 (v := ?_) (by kernel_rfl) (by kernel_rfl) (by kernel_rfl) (by kernel_rfl) (fun _ _ _ h => h) (Or.inl ⟨by kernel_rfl, ?_⟩) (by assumption) ?_
    rotate_left
    · (intro wS hSw; (try dsimp only at hSw); (refine exec_eql_arr 58 58 (.tmp 17) (.tmp 20) ?_ F F ?_ ?_ Tryd.underlying58 Tryd.underlying5 (run_sizeOf_el elBytes) (by kernel_rfl) true (by simp) <;> rfl); (all_goals (with_reducible rfl)))
    try go_frame
    refine tk_7 (v := ?_) (by kernel_rfl) (by kernel_rfl) (by kernel_rfl) (by kernel_rfl) (fun _ _ _ h => h) (Or.inl ⟨by kernel_rfl, ?_⟩) (by assumption) ?_
    rotate_left
    · (intro wS hSw; (try dsimp only at hSw); (go_simp); (all_goals (with_reducible rfl)))
    try go_frame
    refine tk_8 (v := ?_) (by kernel_rfl) (by kernel_rfl) (by kernel_rfl) (by kernel_rfl) (fun _ _ _ h => h) (Or.inl ⟨by kernel_rfl, ?_⟩) (by assumption) ?_
    rotate_left
    · (intro wS hSw; (try dsimp only at hSw); (go_simp); (all_goals (with_reducible rfl)))
    try go_frame
    refine tk_9 (v := ?_) (by kernel_rfl) (by kernel_rfl) (by kernel_rfl) (by kernel_rfl) (fun _ _ _ h => h) (Or.inl ⟨by kernel_rfl, ?_⟩) (by assumption) ?_
    rotate_left
    · (intro wS hSw; (try dsimp only at hSw); (refine exec_load_arr 58 (.tmp 6) ?_ (rowIs_below' hr3 hSw) ?_ aggDig <;> rfl); (all_goals (with_reducible rfl)))
    try go_frame
    refine tk_10 (v := ?_) (by kernel_rfl) (by kernel_rfl) (by kernel_rfl) (by kernel_rfl) (fun _ _ _ h => h) (Or.inl ⟨by kernel_rfl, ?_⟩) (by assumption) ?_
    rotate_left
    · (intro wS hSw; (try dsimp only at hSw); (go_simp); (all_goals (with_reducible rfl)))
    try go_frame
    refine tk_11 (v := ?_) (by kernel_rfl) (by kernel_rfl) (by kernel_rfl) (by kernel_rfl) (fun _ _ _ h => h) (Or.inl ⟨by kernel_rfl, ?_⟩) (by assumption) ?_
    rotate_left
    · (intro wS hSw; (try dsimp only at hSw); (go_simp); (all_goals (with_reducible rfl)))
    try go_frame
    refine tk_12 (v := ?_) (by kernel_rfl) (by kernel_rfl) (by kernel_rfl) (by kernel_rfl) (fun _ _ _ h => h) (Or.inl ⟨by kernel_rfl, ?_⟩) (by assumption) ?_
    rotate_left
    · (intro wS hSw; (try dsimp only at hSw); (go_simp); (all_goals (with_reducible rfl)))
    try go_frame
    refine dn_13 (by kernel_rfl) (fun K hK => ?_)
    rw [if_pos (by kernel_rfl)]
    go_simp; go_at_call 34; refine (hash_Of (tag % 256) l _ _ (by omega) (by omega) (by exact hl3.below hHeld) (fun s hs => by have := HL2.out s hs; omega) (by omega) (by exact hC3.below hHeld)).mono ?_; rw [HT.out, HV.out]; rintro e w6 ⟨rfl, hb6⟩; go_simp
    refine hK.out _ _ (fun _ => by (try dsimp only); exact bl_on hHeld hb6) (fun hHeld => ?_)
    replace hHeld := hHeld rfl
    clear hK K
    try go_frame
    refine tk_14 (v := ?_) (by kernel_rfl) (by kernel_rfl) (by kernel_rfl) (by kernel_rfl) (fun _ _ _ h => h) (Or.inl ⟨by kernel_rfl, ?_⟩) (by assumption) ?_
    rotate_left
    · (intro wS hSw; (try dsimp only at hSw); (refine exec_eql_arr 58 58 (.tmp 24) (.tmp 28) ?_ F F ?_ ?_ Tryd.underlying58 Tryd.underlying5 (run_sizeOf_el elBytes) (by kernel_rfl) true (by simp) <;> rfl); (all_goals (with_reducible rfl)))
    try go_frame
    refine tk_15 (v := ?_) (by kernel_rfl) (by kernel_rfl) (by kernel_rfl) (by kernel_rfl) (fun _ _ _ h => h) (Or.inl ⟨by kernel_rfl, ?_⟩) (by assumption) ?_
    rotate_left
    · (intro wS hSw; (try dsimp only at hSw); (go_simp); (all_goals (with_reducible rfl)))
    try go_frame
    refine tk_16 (v := ?_) (by kernel_rfl) (by kernel_rfl) (by kernel_rfl) (by kernel_rfl) (fun _ _ _ h => h) (Or.inl ⟨by kernel_rfl, ?_⟩) (by assumption) ?_
    rotate_left
    · (intro wS hSw; (try dsimp only at hSw); (go_simp); (all_goals (with_reducible rfl)))
    try go_frame
    refine wpAnyT_done (by kernel_rfl) ?_ _
    refine NoPanic.normal ?_
    go_wp2_with fail
    go_ret
    exact ⟨rfl, bl_on hB3 hHeld⟩
end Go.Proofs.YtafehbnnoncieaaDoor
