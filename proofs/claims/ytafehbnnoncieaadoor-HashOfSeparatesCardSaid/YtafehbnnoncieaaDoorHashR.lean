/-
  The specification's digests; exclusive or of bytes; texts of hashes. Conditions: none.
-/
import Derived.Test.YtafehbnnoncieaaDoorHashM
import Derived.Test.YtafehbnnoncieaaDoorHashP
import Derived.Test.YtafehbnnoncieaaDoorHashQ
namespace Go.Proofs.YtafehbnnoncieaaDoor
open Go.RowKit
theorem xor_val (x y : UInt8) : Value.int .u8 (bits .xor .u8 (x.toNat : Int) (y.toNat : Int)) = bv (x ^^^ y) := by
  unfold bv
  rw [u8_xor_nat _ _ x.toNat_lt y.toNat_lt, UInt8.toNat_xor]
theorem getD_of {l : List UInt8} {k : Nat} {x : UInt8} (h : l[k]? = some x) : l.getD k 0 = x := by simp [h]
theorem xor_snoc (a b : List UInt8) (k : Nat) : (List.range (k + 1)).map (fun i => a.getD i 0 ^^^ b.getD i 0) = (List.range k).map (fun i => a.getD i 0 ^^^ b.getD i 0) ++ [a.getD k 0 ^^^ b.getD k 0] := by
  rw [List.range_succ, List.map_append]; rfl
set_option maxHeartbeats 1000000 in
set_option maxRecDepth 100000 in
theorem ref_Xor (a b : List UInt8) (x y : Value) (w : World) (ha : Sl w x 1 a.length (a.map bv)) (hb : Sl w y 1 b.length (b.map bv)) (hn : a.length ≤ 1000000) :
    Calls Tryd.prog 28 #[x, y] w (Made (Crc.xorL a b) w) := by
  obtain ⟨A, c, rfl, hnc, hcm, hr⟩ := ha
  obtain ⟨A2, c2, rfl, hnc2, hcm2, hr2⟩ := hb
  unfold maxLen at hcm hcm2
  go_enter Tryd.func28, Tryd.ntmps28
  go_wp2_with fail
  go_loopw [5, 6] (fun u5 u6 wr => ∃ k : Nat, k ≤ a.length ∧ u6 = .int .i64 k ∧ wr.ownsRow w.heap.size 5 1 u5 k (((List.range k).map (fun i => a.getD i 0 ^^^ b.getD i 0)).map bv) ∧ Below w.heap.size w wr) (fun _ u6 _ => a.length - (intOf u6).toNat)
  case atStart => exact ⟨0, Nat.zero_le _, rfl, World.ownsRow_nil _ _ _ _, Below.refl _ _⟩
  case round =>
    obtain ⟨k, hk, rfl, hown, hB⟩ := hrel
    by_cases hlt : k < a.length
    · obtain ⟨ad, u, rfl, hab, hx, hc⟩ := (hr.below hB).elem hlt rfl
      have hxs := xor_snoc a b k
      rw [getD_of hx] at hxs
      have hsz := hB.size
      by_cases hlt2 : k < b.length
      · obtain ⟨ad2, u2, rfl, hab2, hx2, hc2⟩ := (hr2.below hB).elem hlt2 rfl
        have hv := xor_val u u2
        rw [getD_of hx2] at hxs
        unfold bv at hc hc2
        have HV := Lib.hid hv
        have HXS := Lib.hid hxs
        clear hv hxs hx hx2
        go_wp2_with (at_builtin; refine wpList_append_one _ rfl _ _ _ rfl elBytes w.heap.size _ _ _ rfl hown _ rfl rfl (by omega) (by omega) hB.size w w.heap.size hB (Nat.le_refl _) ?_)
        intro v' w' hown' hb'
        rw [HV.out] at hown'
        have hown2 : w'.ownsRow w.heap.size 5 1 v' (k + 1) (((List.range (k + 1)).map (fun i => a.getD i 0 ^^^ b.getD i 0)).map bv) := by rw [HXS.out]; simpa using hown'
        clear hown' hown
        go_wp2_with fail
        go_roundw
        case rel => exact ⟨k + 1, hlt, by go_num, hown2, hb'⟩
        case measure => go_light; simp [intOf]; omega
      · have e0 : b.getD k 0 = 0 := by simp [List.getElem?_eq_none (show b.length ≤ k by omega)]
        rw [e0, UInt8.xor_zero] at hxs
        unfold bv at hc
        have HXS := Lib.hid hxs
        clear hxs hx e0
        go_wp2_with (at_builtin; refine wpList_append_one _ rfl _ _ _ rfl elBytes w.heap.size _ _ _ rfl hown _ rfl rfl (by omega) (by omega) hB.size w w.heap.size hB (Nat.le_refl _) ?_)
        intro v' w' hown' hb'
        have hown2 : w'.ownsRow w.heap.size 5 1 v' (k + 1) (((List.range (k + 1)).map (fun i => a.getD i 0 ^^^ b.getD i 0)).map bv) := by rw [HXS.out]; simpa [bv] using hown'
        clear hown' hown
        go_wp2_with fail
        go_roundw
        case rel => exact ⟨k + 1, hlt, by go_num, hown2, hb'⟩
        case measure => go_light; simp [intOf]; omega
    · obtain rfl : k = a.length := by omega
      have e : (List.range a.length).map (fun i => a.getD i 0 ^^^ b.getD i 0) = Crc.xorL a b := rfl
      rw [e] at hown
      have el := Crc.xorL_length a b
      have hown2 : wr.ownsRow w.heap.size 5 1 u5 (Crc.xorL a b).length ((Crc.xorL a b).map bv) := by rw [el]; exact hown
      clear e el hown
      go_wp2_with fail
      go_ret
      exact ⟨_, rfl, hown2, hB⟩

theorem text_snoc (f : Nat → UInt8) (k : Nat) : (List.range (k + 1)).map f = (List.range k).map f ++ [f k] := by
  rw [List.range_succ, List.map_append]; rfl
set_option maxHeartbeats 1000000 in
set_option maxRecDepth 100000 in
theorem ref_Bytes32 (f : Nat → UInt8) (x : Value) (hx : x = .agg (arr 32 fun i => bv (f i))) (w : World) :
    Calls Tryd.prog 38 #[x] w fun e w' => e = .returned (.string ⟨((List.range 32).map f).toArray⟩) ∧ Below w.heap.size w w' := by
  subst hx
  have hrow := row_alloc w 47 32 (fun i => bv (f i))
  have hB := (Below.refl w.heap.size w).alloc (Nat.le_refl _) (.cells (arr 32 fun i => bv (f i)) 47)
  have hz : (w.alloc (.cells (arr 32 fun i => bv (f i)) 47)).heap.size = w.heap.size + 1 := by simp
  go_enter Tryd.func38, Tryd.ntmps38
  go_wp2_with fail
  generalize w.alloc (.cells (arr 32 fun i => bv (f i)) 47) = w1 at *
  go_loopw [3, 4] (fun u3 u4 wr => ∃ k : Nat, k ≤ 32 ∧ u4 = .int .i64 k ∧ wr.rowIs w.heap.size 47 32 (fun i => bv (f i)) ∧ wr.ownsRow (w.heap.size + 1) 5 1 u3 k (((List.range k).map f).map bv) ∧ Below w.heap.size w wr) (fun _ u4 _ => 32 - (intOf u4).toNat)
  case atStart => exact ⟨0, by omega, rfl, hrow, World.ownsRow_nil _ _ _ _, hB⟩
  case round =>
    clear hrow hB hz
    obtain ⟨k, hk, rfl, hrow, hown, hB⟩ := hrel
    have hsz : w.heap.size + 1 ≤ wr.heap.size := hrow.lt
    by_cases hlt : k < 32
    · have hc := hrow.cell (i := k) hlt
      have HS := Lib.hid (text_snoc f k)
      unfold bv at hc
      go_wp2_with (at_builtin; refine wpList_append_one _ rfl _ _ _ rfl elBytes (w.heap.size + 1) _ _ _ rfl hown _ rfl rfl (by omega) (by omega) hsz wr (w.heap.size + 1) (Below.refl _ _) (Nat.le_refl _) ?_)
      intro v' w' hown' hb'
      have hown2 : w'.ownsRow (w.heap.size + 1) 5 1 v' (k + 1) (((List.range (k + 1)).map f).map bv) := by rw [HS.out]; simpa [bv] using hown'
      have hrow2 := row_below hrow hb' (by omega)
      have hB2 := hB.trans (hb'.mono (by omega))
      clear hown' hown hrow hB hc hb'
      go_wp2_with fail
      go_roundw
      case rel => exact ⟨k + 1, hlt, by go_num, hrow2, hown2, hB2⟩
      case measure => go_light; simp [intOf]; omega
    · obtain rfl : k = 32 := by omega
      have hsl : Sl wr u3 1 ((List.range 32).map f).length (((List.range 32).map f).map bv) := by
        have := Sl.of_own hown
        rw [List.length_map, List.length_range]; exact this
      go_wp2_with (refine wpList_bytes_string (o := ⟨some 16, _, _, _, _, _⟩) rfl _ _ _ _ rfl Tryd.underlying22 Tryd.underlying5 Tryd.underlying9 rfl _ hsl ?_)
      go_ret
      exact ⟨rfl, hB⟩
set_option maxHeartbeats 1000000 in
set_option maxRecDepth 100000 in
theorem ref_Text (f : Nat → UInt8) (x : Value) (hx : x = .agg (arr 16 fun i => bv (f i))) (w : World) :
    Calls Tryd.prog 39 #[x] w fun e w' => e = .returned (.string ⟨((List.range 16).map f).toArray⟩) ∧ Below w.heap.size w w' := by
  subst hx
  have hrow := row_alloc w 58 16 (fun i => bv (f i))
  have hB := (Below.refl w.heap.size w).alloc (Nat.le_refl _) (.cells (arr 16 fun i => bv (f i)) 58)
  have hz : (w.alloc (.cells (arr 16 fun i => bv (f i)) 58)).heap.size = w.heap.size + 1 := by simp
  go_enter Tryd.func39, Tryd.ntmps39
  go_wp2_with fail
  generalize w.alloc (.cells (arr 16 fun i => bv (f i)) 58) = w1 at *
  go_loopw [3, 4] (fun u3 u4 wr => ∃ k : Nat, k ≤ 16 ∧ u4 = .int .i64 k ∧ wr.rowIs w.heap.size 58 16 (fun i => bv (f i)) ∧ wr.ownsRow (w.heap.size + 1) 5 1 u3 k (((List.range k).map f).map bv) ∧ Below w.heap.size w wr) (fun _ u4 _ => 16 - (intOf u4).toNat)
  case atStart => exact ⟨0, by omega, rfl, hrow, World.ownsRow_nil _ _ _ _, hB⟩
  case round =>
    clear hrow hB hz
    obtain ⟨k, hk, rfl, hrow, hown, hB⟩ := hrel
    have hsz : w.heap.size + 1 ≤ wr.heap.size := hrow.lt
    by_cases hlt : k < 16
    · have hc := hrow.cell (i := k) hlt
      have HS := Lib.hid (text_snoc f k)
      unfold bv at hc
      go_wp2_with (at_builtin; refine wpList_append_one _ rfl _ _ _ rfl elBytes (w.heap.size + 1) _ _ _ rfl hown _ rfl rfl (by omega) (by omega) hsz wr (w.heap.size + 1) (Below.refl _ _) (Nat.le_refl _) ?_)
      intro v' w' hown' hb'
      have hown2 : w'.ownsRow (w.heap.size + 1) 5 1 v' (k + 1) (((List.range (k + 1)).map f).map bv) := by rw [HS.out]; simpa [bv] using hown'
      have hrow2 := row_below hrow hb' (by omega)
      have hB2 := hB.trans (hb'.mono (by omega))
      clear hown' hown hrow hB hc hb'
      go_wp2_with fail
      go_roundw
      case rel => exact ⟨k + 1, hlt, by go_num, hrow2, hown2, hB2⟩
      case measure => go_light; simp [intOf]; omega
    · obtain rfl : k = 16 := by omega
      have hsl : Sl wr u3 1 ((List.range 16).map f).length (((List.range 16).map f).map bv) := by
        have := Sl.of_own hown
        rw [List.length_map, List.length_range]; exact this
      go_wp2_with (refine wpList_bytes_string (o := ⟨some 16, _, _, _, _, _⟩) rfl _ _ _ _ rfl Tryd.underlying22 Tryd.underlying5 Tryd.underlying9 rfl _ hsl ?_)
      go_ret
      exact ⟨rfl, hB⟩

set_option maxHeartbeats 1000000 in
set_option maxRecDepth 100000 in
theorem ref_Short (l : List UInt8) (x : Value) (w : World) (hl : Sl w x 1 l.length (l.map bv)) (hb : l.length ≤ 10000000000000) (hC : RConsts w) :
    Calls Tryd.prog 49 #[x] w fun e w' => e = .returned (digVal l) ∧ Below w.heap.size w w' := by
  have hinit : ((Tryd.prog.built 58 []).getD #[]) = arr 16 (fun _ => bv 0) := by kernel_rfl
  have hr0 := row_new w (List.replicate 16 (bv 0)).toArray 58 16 (fun _ => bv 0) rfl (fun i hi => rep_at 16 i _ hi)
  have hB0 := (Below.refl w.heap.size w).alloc (Nat.le_refl _) (.cells (List.replicate 16 (bv 0)).toArray 58)
  have hl0 := hl.below hB0
  have hC0 := hC.below hB0
  have HI := Lib.hid hinit
  clear hinit
  go_enter Tryd.func49, Tryd.ntmps49
  go_wp2_with fail
  refine (ref_Sum l x _ hl0 hb hC0).mono ?_
  rintro e w1 ⟨rfl, hb1⟩
  have hr1 := rowIs_below' hr0 hb1
  have hB1 := bl_on hB0 hb1
  unfold shaVal
  clear hr0 hB0 hl0 hC0 hl hC hb1
  have hrz := row_new w1 (List.replicate 32 (bv 0)).toArray 47 32 (fun _ => bv 0) rfl (fun i hi => rep_at 32 i _ hi)
  have hz1 : w.heap.size < w1.heap.size := hr1.lt
  have hr2 := hr1.alloc (.cells (List.replicate 32 (bv 0)).toArray 47)
  have hB2 := hB1.alloc hB1.size (.cells (List.replicate 32 (bv 0)).toArray 47)
  have hinit := HI.out
  have hr3 := row_setRow_other hr2 (Nat.ne_of_lt hz1) (arr 32 fun i => bv ((Sha.sha l).getD i 0))
  have hB3 := below_setRow' hB2 (Nat.le_of_lt hz1) (arr 32 fun i => bv ((Sha.sha l).getD i 0))
  have hz3 : ((w1.alloc (.cells (List.replicate 32 (bv 0)).toArray 47)).setRow w1.heap.size (arr 32 fun i => bv ((Sha.sha l).getD i 0))).heap.size = w1.heap.size + 1 := by rw [size_setRow, World.size_alloc]
  have hrd := row_new ((w1.alloc (.cells (List.replicate 32 (bv 0)).toArray 47)).setRow w1.heap.size (arr 32 fun i => bv ((Sha.sha l).getD i 0))) (List.replicate 16 (bv 0)).toArray 58 16 (fun _ => bv 0) rfl (fun i hi => rep_at 16 i _ hi)
  rw [hz3] at hrd
  have hr4 := hr3.alloc (.cells (List.replicate 16 (bv 0)).toArray 58)
  have hB4 := hB3.alloc hB3.size (.cells (List.replicate 16 (bv 0)).toArray 58)
  clear hz3
  go_wp2_with (first | (refine wpList_build (o := ⟨some 8, _, _, _, _, _⟩) rfl _ _ rfl (by kernel_rfl) ?_) |
    (refine wpList_store_arr (o := ⟨none, _, _, _, _, _⟩) (g := fun i => bv ((Sha.sha l).getD i 0)) rfl _ _ _ rfl hrz rfl rfl aggSum (fun _ _ => rfl) ?_; intro hs2; have hs4 := hs2.alloc (.cells (List.replicate 16 (bv 0)).toArray 58)) |
    (refine wpList_store_arr (o := ⟨none, _, _, _, _, _⟩) (g := fun _ => bv 0) rfl _ _ _ rfl hrd rfl rfl aggDig (fun _ _ => rfl) ?_; intro hd4))
  replace hr4 := row_setRow_other hr4 (show w.heap.size ≠ w1.heap.size + 1 by omega) (arr 16 fun _ => bv 0)
  replace hs4 := row_setRow_other hs4 (show w1.heap.size ≠ w1.heap.size + 1 by omega) (arr 16 fun _ => bv 0)
  replace hB4 := below_setRow' hB4 (show w.heap.size ≤ w1.heap.size + 1 by omega) (arr 16 fun _ => bv 0)
  clear hinit hrz hrd hs2 hr1 hr2 hr3 hB1 hB2 hB3
  go_loopw [5] (fun u5 wr => ∃ k : Nat, k ≤ 16 ∧ u5 = .int .i64 k ∧ wr.rowIs w.heap.size 58 16 (fun _ => bv 0) ∧ wr.rowIs w1.heap.size 47 32 (fun i => bv ((Sha.sha l).getD i 0)) ∧
    wr.rowIs (w1.heap.size + 1) 58 16 (fun i => if i < k then bv ((Sha.sha l).getD i 0) else bv 0) ∧ Below w.heap.size w wr) (fun u5 _ => 16 - (intOf u5).toNat)
  case atStart => exact ⟨0, by omega, rfl, hr4, hs4, hd4.congr (fun i _ => by rw [if_neg (by omega)]), hB4⟩
  case round =>
    clear hr4 hs4 hd4 hB4
    obtain ⟨k, hk, rfl, hr, hs, hd, hB⟩ := hrel
    by_cases hlt : k < 16
    · have c1 := hs.cell (i := k) (by omega)
      have c2 := hd.cell (i := k) hlt
      have f2 := hd.frozen k
      rw [if_neg (by omega)] at c2
      obtain ⟨u, hu⟩ : ∃ u, u = (Sha.sha l).getD k 0 := ⟨_, rfl⟩
      rw [← hu] at c1
      have HU := Lib.hid hu
      unfold bv at c1
      clear hu
      go_wp2_with fail
      go_roundw
      case rel =>
        refine ⟨k + 1, by omega, by go_num, hr.setOther (show w.heap.size ≠ w1.heap.size + 1 by omega) _, hs.setOther (show w1.heap.size ≠ w1.heap.size + 1 by omega) _, (hd.set k _).congr (fun j _ => ?_), hB.setCell (show w.heap.size ≤ w1.heap.size + 1 by omega) _⟩
        by_cases hji : j = k
        · subst hji; rw [if_pos rfl, if_pos (by omega), ← HU.out]; rfl
        · rw [if_neg hji]
          by_cases h2 : j < k
          · rw [if_pos h2, if_pos (by omega)]
          · rw [if_neg h2, if_neg (by omega)]
      case measure => go_light; simp [intOf]; omega
    · obtain rfl : k = 16 := by omega
      have hd2 : wr.rowIs (w1.heap.size + 1) 58 16 (fun i => bv ((Sha.sha l).getD i 0)) := hd.congr (fun i hi => by rw [if_pos hi])
      go_wp2_with (first | (with_reducible refine wpList_load_arr (o := ⟨some 18, _, _, _, _, _⟩) rfl _ _ rfl hd2 rfl aggDig ?_) | (refine wpList_store_arr (o := ⟨none, _, _, _, _, _⟩) rfl _ _ _ rfl hr rfl rfl aggDig (fun _ _ => rfl) ?_; intro hr2))
      exact bodyPost_arr (p := 2) (by rfl) hr2 (by rfl) aggDig (by rfl) ⟨rfl, below_setRow' hB (Nat.le_refl _) _⟩

theorem of_len' (tag : Int) (l : List ByteArray) (h1 : l.length ≤ 12) (h2 : ∀ s ∈ l, s.size ≤ 400) : (ofInput tag l).length ≤ 20000000 := by
  have := of_len tag l (fun s hs => by have := h2 s hs; omega)
  omega
theorem of_snoc' (tag : Int) (l : List ByteArray) (k : Nat) (s : ByteArray) (h : l[k]? = some s) : ofInput tag (l.take (k + 1)) = ofInput tag (l.take k) ++ encBytes s := by
  unfold ofInput
  rw [List.take_add_one, h]; simp
theorem tag_val (tag : Int) : Value.int .u8 (tag % 256) = bv (UInt8.ofNat (tag % 256).toNat) := by
  rw [bv_ofNat _ (by omega)]; congr 1; omega
set_option maxHeartbeats 1000000 in
set_option maxRecDepth 100000 in
theorem ref_Input (tag : Int) (l : List ByteArray) (x : Value) (w : World) (hl : Sl w x 1 l.length (l.map Value.string)) (hn : l.length ≤ 12) (hb : ∀ s ∈ l, s.size ≤ 400) :
    Calls Tryd.prog 36 #[.int .i64 tag, x] w (Made (ofInput tag l) w) := by
  obtain ⟨A, c, rfl, hnc, hcm, hr⟩ := hl
  unfold maxLen at hcm
  have htv := Lib.hid (tag_val tag)
  have hown0 := own_new w (bv (UInt8.ofNat (tag % 256).toNat)) 5 w.heap.size (Nat.le_refl _)
  have hB0 := (Below.refl w.heap.size w).alloc (Nat.le_refl _) (.cells #[bv (UInt8.ofNat (tag % 256).toNat)] 5)
  rw [← htv.out] at hown0 hB0
  go_enter Tryd.func36, Tryd.ntmps36
  go_wp2_with fail
  go_loopw [5, 6] (fun u5 u6 wr => ∃ k : Nat, k ≤ l.length ∧ u6 = .int .i64 k ∧ wr.ownsRow w.heap.size 5 1 u5 (ofInput tag (l.take k)).length ((ofInput tag (l.take k)).map bv) ∧ Below w.heap.size w wr) (fun _ u6 _ => l.length - (intOf u6).toNat)
  case atStart => exact ⟨0, Nat.zero_le _, rfl, by simpa [ofInput, htv.out] using hown0, hB0⟩
  case round =>
    clear hown0 hB0
    obtain ⟨k, hk, rfl, hown, hB⟩ := hrel
    have hsz := hB.size
    by_cases hlt : k < l.length
    · obtain ⟨ad, s, rfl, hab, hx, hc⟩ := (hr.below hB).elem hlt rfl
      have hs := hb s (List.mem_of_getElem? hx)
      have hlen := of_len' tag (l.take k) (by rw [List.length_take]; omega) (fun t ht => hb t (List.mem_of_mem_take ht))
      have HS := Lib.hid (of_snoc' tag l k s hx)
      have hel := encBytes_10 s (by omega)
      clear hx hb
      go_wp2_with fail
      refine (ref_Bytes s _ (by omega)).mono ?_
      rintro e w1 ⟨v1, rfl, hown1, hb1⟩
      have hsl := Sl.of_own hown1
      go_wp2_with (at_builtin; refine wpList_append_all _ rfl _ _ _ rfl elBytes w.heap.size _ _ _ rfl (own_below hown hb1) _ _ _ rfl hsl (bvs_one _) (by omega) (by omega) (Nat.le_trans hsz hb1.size) w w.heap.size (hB.trans (hb1.mono hsz)) (Nat.le_refl _) ?_)
      intro v2 w2 hown2 hb2
      have hown3 : w2.ownsRow w.heap.size 5 1 v2 (ofInput tag (l.take (k + 1))).length ((ofInput tag (l.take (k + 1))).map bv) := by rw [HS.out, List.length_append, List.map_append]; exact hown2
      clear hown2 hown hown1 hsl hB hb1
      go_wp2_with fail
      go_roundw
      case rel => exact ⟨k + 1, hlt, by go_num, hown3, hb2⟩
      case measure => go_light; simp [intOf]; omega
    · obtain rfl : k = l.length := by omega
      rw [List.take_length] at hown
      go_wp2_with fail
      go_ret
      exact ⟨_, rfl, hown, hB⟩
set_option maxHeartbeats 1000000 in
set_option maxRecDepth 100000 in
theorem ref_Of (tag : Int) (l : List ByteArray) (x : Value) (w : World) (hl : Sl w x 1 l.length (l.map Value.string)) (hn : l.length ≤ 12) (hb : ∀ s ∈ l, s.size ≤ 400) (hC : RConsts w) :
    Calls Tryd.prog 35 #[.int .i64 tag, x] w fun e w' => e = .returned (digVal (ofInput tag l)) ∧ Below w.heap.size w w' := by
  have hr0 := row_new w (List.replicate 16 (bv 0)).toArray 58 16 (fun _ => bv 0) rfl (fun i hi => rep_at 16 i _ hi)
  have hB0 := (Below.refl w.heap.size w).alloc (Nat.le_refl _) (.cells (List.replicate 16 (bv 0)).toArray 58)
  have hl0 := hl.below hB0
  have hC0 := hC.below hB0
  go_enter Tryd.func35, Tryd.ntmps35
  go_wp2_with fail
  refine (ref_Input tag l x _ hl0 hn hb).mono ?_
  rintro e w1 ⟨v1, rfl, hown1, hb1⟩
  go_wp2_with fail
  refine (ref_Short _ _ _ (Sl.of_own hown1) (by have := of_len' tag l hn hb; omega) (hC0.below hb1)).mono ?_
  rintro e w2 ⟨rfl, hb2⟩
  have hr2 := rowIs_below' (rowIs_below' hr0 hb1) hb2
  have hB2 := bl_on (bl_on hB0 hb1) hb2
  clear hr0 hB0 hl0 hC0 hown1 hb1 hb2
  unfold digVal
  go_wp2_with (refine wpList_store_arr (o := ⟨none, _, _, _, _, _⟩) rfl _ _ _ rfl hr2 rfl rfl aggDig (fun _ _ => rfl) ?_; intro hr3)
  exact bodyPost_arr (p := 4) (by rfl) hr3 (by rfl) aggDig (by rfl) ⟨rfl, below_setRow' hB2 (Nat.le_refl _) _⟩
end Go.Proofs.YtafehbnnoncieaaDoor
