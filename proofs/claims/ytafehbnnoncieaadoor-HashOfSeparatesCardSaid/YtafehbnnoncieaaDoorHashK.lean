/-
  The hash of 256 bits: the hash of a stream. Conditions: none.
-/
import Derived.Test.YtafehbnnoncieaaDoorHashJ
import Derived.Test.YtafehbnnoncieaaDoorWireA
namespace Go.Proofs.YtafehbnnoncieaaDoor
open Go.RowKit
namespace Sha
theorem pad_test (n j : Nat) : ((n + (1 + j)) % 64 = 56) ↔ (119 - n % 64) % 64 = j % 64 := by omega
theorem zeros_lt (n : Nat) : zeros n < 64 := by unfold zeros; omega
theorem zeros_test (n j : Nat) (hj : j ≤ zeros n) : ((n + (1 + j)) % 64 = 56) ↔ j = zeros n := by
  have := zeros_lt n
  rw [pad_test]; unfold zeros at *; omega
end Sha
theorem Sha.out_at (st : Sha.St) : ∀ i, i < 32 → (Sha.out st).getD i 0 = UInt8.ofNat ((st.toList.getD (i / 4) 0#32).toNat >>> (24 - 8 * (i % 4)) % 256)
  | 0, _ => rfl
  | 1, _ => rfl
  | 2, _ => rfl
  | 3, _ => rfl
  | 4, _ => rfl
  | 5, _ => rfl
  | 6, _ => rfl
  | 7, _ => rfl
  | 8, _ => rfl
  | 9, _ => rfl
  | 10, _ => rfl
  | 11, _ => rfl
  | 12, _ => rfl
  | 13, _ => rfl
  | 14, _ => rfl
  | 15, _ => rfl
  | 16, _ => rfl
  | 17, _ => rfl
  | 18, _ => rfl
  | 19, _ => rfl
  | 20, _ => rfl
  | 21, _ => rfl
  | 22, _ => rfl
  | 23, _ => rfl
  | 24, _ => rfl
  | 25, _ => rfl
  | 26, _ => rfl
  | 27, _ => rfl
  | 28, _ => rfl
  | 29, _ => rfl
  | 30, _ => rfl
  | 31, _ => rfl
  | n + 32, h => absurd h (by omega)
theorem out_val (st : Sha.St) (i : Nat) (hi : i < 32) : Value.int .u8 (((st.toList.getD (i / 4) 0#32).toNat : Int) / 2 ^ (24 - 8 * (i % 4)) % 256) = bv ((Sha.out st).getD i 0) := by
  rw [Sha.out_at st i hi, bv_ofNat _ (by omega), Nat.shiftRight_eq_div_pow]
  simp
theorem len8_snoc (N i : Nat) (hi : i < 8) : (Sha.len8 N).take (i + 1) = (Sha.len8 N).take i ++ [UInt8.ofNat (N >>> (56 - 8 * i) % 256)] := by
  have hl : i < (Sha.len8 N).length := by simp [Sha.len8]; omega
  rw [List.take_succ_eq_append_getElem hl]
  simp [Sha.len8]
theorem len8_val (n i : Nat) : Value.int .u8 (8 * (n : Int) / 2 ^ (56 - 8 * i) % 256) = bv (UInt8.ofNat ((8 * n) >>> (56 - 8 * i) % 256)) := by
  rw [bv_ofNat _ (by omega), Nat.shiftRight_eq_div_pow]
  simp
theorem own_new (w : World) (u : Value) (e : TypeId) (base : Nat) (hb : base ≤ w.heap.size) : (w.alloc (.cells #[u] e)).ownsRow base e 1 (.slice (some ⟨w.heap.size, 0, none⟩) 1 1) 1 [u] :=
  ⟨rfl, .inr ⟨w.heap.size, 1, #[u], rfl, hb, heap_alloc_new w _, Nat.le_refl _, by decide, rfl, rfl⟩⟩
theorem u8_zero : UInt8.ofNat 0 = 0 := rfl

set_option maxHeartbeats 2000000 in
set_option maxRecDepth 100000 in
theorem hash_StreamSum (v : Value) (m : List UInt8) (w : World) (hv : Sha.IsStream v m) (hs : m.length ≤ 100000000000000) (hC : Consts w) :
    Calls Tryd.prog 33 #[v] w fun e w' => e = .returned (.agg (arr 32 (fun i => bv ((Sha.sha m).getD i 0)))) ∧ Below w.heap.size w w' := by
  obtain ⟨blk, rfl, hbl, hbt⟩ := id hv
  have HV := Lib.hid hv
  clear hv hbt
  have hst0 := row_alloc w 53 73 (Sha.strF (Sha.feed (m.length / 64) Sha.init m) blk m.length)
  have hcell := hst0.cell (i := 72) (by omega)
  replace hcell : (w.alloc (.cells (arr 73 (Sha.strF (Sha.feed (m.length / 64) Sha.init m) blk m.length)) 53)).cell? ⟨w.heap.size, 72, none⟩ = some (.int .u64 (m.length : Int)) := hcell
  have hout0 := row_new (w.alloc (.cells (arr 73 (Sha.strF (Sha.feed (m.length / 64) Sha.init m) blk m.length)) 53)) (List.replicate 32 (bv 0)).toArray 47 32 (fun _ => bv 0) rfl (fun i hi => rep_at 32 i _ hi)
  have hz0 : (w.alloc (.cells (arr 73 (Sha.strF (Sha.feed (m.length / 64) Sha.init m) blk m.length)) 53)).heap.size = w.heap.size + 1 := by simp
  rw [hz0] at hout0
  have hst1 := hst0.alloc (.cells (List.replicate 32 (bv 0)).toArray 47)
  have hca : ∀ o, ((w.alloc (.cells (arr 73 (Sha.strF (Sha.feed (m.length / 64) Sha.init m) blk m.length)) 53)).alloc o).cell? ⟨w.heap.size, 72, none⟩ = some (.int .u64 (m.length : Int)) := fun o => by
    rw [World.cell?_alloc_lt _ _ _ (by simp)]; exact hcell
  go_enter Tryd.func33, Tryd.ntmps33
  go_wp2_with fail
  generalize hstt : Sha.feed (m.length / 64) Sha.init m = st at *
  have HSTT := Lib.hid hstt
  clear hstt
  generalize hn : m.length = n at *
  have HN := Lib.hid hn
  clear hcell hca hz0 hst0 hn
  have hz2 : ((w.alloc (.cells (arr 73 (Sha.strF st blk n)) 53)).alloc (.cells (List.replicate 32 (bv 0)).toArray 47)).heap.size = w.heap.size + 2 := by simp
  have hown0 := own_new ((w.alloc (.cells (arr 73 (Sha.strF st blk n)) 53)).alloc (.cells (List.replicate 32 (bv 0)).toArray 47)) (bv 128) 5 (w.heap.size + 2) (by omega)
  rw [hz2] at hown0
  go_loopw [4] (fun u4 wr => ∃ j : Nat, j ≤ Sha.zeros n ∧ wr.rowIs w.heap.size 53 73 (Sha.strF st blk n) ∧ wr.rowIs (w.heap.size + 1) 47 32 (fun _ => bv 0) ∧ wr.ownsRow (w.heap.size + 2) 5 1 u4 (j + 1) ((128 :: List.replicate j 0).map bv) ∧ Below w.heap.size w wr)
    (fun u4 _ => match u4 with | .slice _ len _ => 65 - len | _ => 0)
  case atStart => exact ⟨0, Nat.zero_le _, hst1.alloc _, hout0.alloc _, hown0, (((Below.refl _ _).alloc (Nat.le_refl _) _).alloc (by simp) _).alloc (by simp; omega) _⟩
  case round =>
    clear hown0 hz2 hst1 hout0
    obtain ⟨j, hj, hst, hout, hown, hB⟩ := hrel
    have hzl := Sha.zeros_lt n
    have hzt := Sha.zeros_test n j hj
    have hcell := hst.cell (i := 72) (by omega)
    replace hcell : wr.cell? ⟨w.heap.size, 72, none⟩ = some (.int .u64 (n : Int)) := hcell
    have hzs := hB.size
    have hz2 : w.heap.size + 2 ≤ wr.heap.size := hout.lt
    obtain ⟨g, cap, rfl, _, _⟩ := hown.form (by omega)
    by_cases hjz : j = Sha.zeros n
    · have ht : (((n : Int) + ((j : Int) + 1)) % 64 != 56) = false := by
        have := hzt.2 hjz
        rw [bne_eq_false_iff_eq]; omega
      clear hzt
      subst hjz
      generalize hz : Sha.zeros n = z at *
      have HZ := Lib.hid hz
      clear hz
      go_wp2_with fail
      have hown1 : wr.ownsRow (w.heap.size + 2) 5 1 (.slice (some ⟨g, 0, none⟩) (z + 1) cap) (z + 1 + 0) ((128 :: List.replicate z 0 ++ (Sha.len8 (8 * n)).take 0).map bv) := by simpa using hown
      obtain ⟨wo, rfl⟩ : ∃ wo : World, wo = wr := ⟨_, rfl⟩
      go_loopw [4, 23] (fun u4 u23 wi => ∃ i : Nat, i ≤ 8 ∧ u23 = .int .i64 i ∧ wi.rowIs w.heap.size 53 73 (Sha.strF st blk n) ∧ wi.rowIs (w.heap.size + 1) 47 32 (fun _ => bv 0) ∧ wi.ownsRow (w.heap.size + 2) 5 1 u4 (z + 1 + i) ((128 :: List.replicate z 0 ++ (Sha.len8 (8 * n)).take i).map bv) ∧ Below w.heap.size w wi)
        (fun _ u23 _ => 8 - (intOf u23).toNat)
      case atStart => exact ⟨0, by omega, rfl, hst, hout, hown1, hB⟩
      case round =>
        clear hown1 hown hst hout hB hcell
        obtain ⟨i, hi, rfl, hst, hout, hown, hB⟩ := hrel
        have hz2 : w.heap.size + 2 ≤ wr.heap.size := hout.lt
        by_cases hi8 : i < 8
        · go_wp2_with (at_builtin; refine wpList_append_one _ rfl _ _ _ rfl elBytes (w.heap.size + 2) _ _ _ rfl hown _ rfl rfl (by omega) (by omega) hz2 wr (w.heap.size + 2) (Below.refl _ _) (Nat.le_refl _) ?_)
          intro v' w' hown' hb'
          have hst' := row_below hst hb' (by omega)
          have hout' := row_below hout hb' (by omega)
          have hB' := hB.trans (hb'.mono (by omega))
          have hown2 : w'.ownsRow (w.heap.size + 2) 5 1 v' (z + 1 + (i + 1)) ((128 :: List.replicate z 0 ++ (Sha.len8 (8 * n)).take (i + 1)).map bv) := by
            rw [len8_val] at hown'
            have e : (128 :: List.replicate z 0 ++ (Sha.len8 (8 * n)).take (i + 1)).map bv = bv 128 :: (List.replicate z (bv 0) ++ (List.take i (List.map bv (Sha.len8 (8 * n))) ++ [bv (UInt8.ofNat ((8 * n) >>> (56 - 8 * i) % 256))])) := by
              rw [len8_snoc _ _ hi8]; simp [List.map_take]
            rw [e]; exact hown'
          clear hown hown' hst hout hB hb'
          go_wp2_with fail
          go_roundw
          case rel => exact ⟨i + 1, by omega, by go_num, hst', hout', hown2, hB'⟩
          case measure => go_light; simp [intOf]; omega
        · obtain rfl : i = 8 := by omega
          have hpl : 128 :: List.replicate z 0 ++ (Sha.len8 (8 * n)).take 8 = 128 :: (List.replicate (Sha.zeros m.length) 0 ++ Sha.len8 (8 * m.length % 18446744073709551616)) := by
            rw [HN.out, HZ.out, Nat.mod_eq_of_lt (by omega), List.take_of_length_le (by simp [Sha.len8])]; rfl
          rw [hpl] at hown
          have hlen : z + 1 + 8 = (128 :: (List.replicate (Sha.zeros m.length) 0 ++ Sha.len8 (8 * m.length % 18446744073709551616))).length := by
            have := hown.1; rw [List.length_map] at this; omega
          rw [hlen] at hown
          have HLP : Hid (m ++ 128 :: (List.replicate (Sha.zeros m.length) 0 ++ Sha.len8 (8 * m.length % 18446744073709551616)) = Sha.pad m) := rfl
          have hlt : (128 :: (List.replicate (Sha.zeros m.length) 0 ++ Sha.len8 (8 * m.length % 18446744073709551616))).length < 100 := by omega
          clear hpl hlen
          generalize 128 :: (List.replicate (Sha.zeros m.length) 0 ++ Sha.len8 (8 * m.length % 18446744073709551616)) = P at *
          have hsl := Sl.of_own hown
          go_wp2_with (first | (with_reducible refine wpList_load_arr (o := ⟨some 36, _, _, _, _, _⟩) rfl _ _ rfl hst rfl aggStr ?_) | (refine wpList_bytes_string (o := ⟨some 38, _, _, _, _, _⟩) rfl _ _ _ _ rfl Tryd.underlying22 Tryd.underlying5 Tryd.underlying9 rfl P hsl ?_))
          refine (hash_StreamAdd _ m ⟨P.toArray⟩ _ HV.out (by rw [HN.out]; show n + P.toArray.size ≤ _; simp; omega) (hC.below hB)).mono ?_
          rintro e w5 ⟨v5, rfl, hv5, hb5⟩
          obtain ⟨blk5, rfl, hbl5, hbt5⟩ := hv5
          have eP : (⟨P.toArray⟩ : ByteArray).data.toList = P := by simp
          have hsha : Sha.sha m = Sha.out (Sha.feed ((Sha.pad m).length / 64) Sha.init (Sha.pad m)) := rfl
          rw [eP, HLP.out]
          clear hbt5 eP hlt hsl hown
          generalize Sha.feed ((Sha.pad m).length / 64) Sha.init (Sha.pad m) = sf at *
          generalize (Sha.pad m).length = N at *
          have HSHA := Lib.hid hsha
          clear hsha
          have hst5 := rowIs_below' hst hb5
          have hout5 := rowIs_below' hout hb5
          have hB5 := bl_on hB hb5
          have hz5 : w.heap.size + 2 ≤ w5.heap.size := Nat.le_trans hz2 hb5.size
          clear hst hout hB hb5 hz2
          go_wp2_with (refine wpList_store_arr (o := ⟨none, _, _, _, _, _⟩) rfl _ _ _ rfl hst5 rfl rfl aggStr (fun i _ => Sha.strF_one _ _ _ i) ?_; intro hst6)
          have hout6 := row_setRow_other hout5 (show w.heap.size + 1 ≠ w.heap.size by omega) (arr 73 (Sha.strF sf blk5 N))
          have hB6 := below_setRow' hB5 (Nat.le_refl _) (arr 73 (Sha.strF sf blk5 N))
          have hz6 : (w5.setRow w.heap.size (arr 73 (Sha.strF sf blk5 N))).heap.size = w5.heap.size := size_setRow _ _ _
          have hnew := row_new (w5.setRow w.heap.size (arr 73 (Sha.strF sf blk5 N))) (List.replicate 32 (bv 0)).toArray 47 32 (fun j => if j < 0 then bv ((Sha.out sf).getD j 0) else bv 0) rfl (fun i hi => by rw [rep_at 32 i _ hi, if_neg (by omega)])
          rw [hz6] at hnew
          have hst7 := hst6.alloc (.cells (List.replicate 32 (bv 0)).toArray 47)
          have hout7 := hout6.alloc (.cells (List.replicate 32 (bv 0)).toArray 47)
          have hB7 := hB6.alloc (show w.heap.size ≤ (w5.setRow w.heap.size (arr 73 (Sha.strF sf blk5 N))).heap.size by rw [hz6]; omega) (.cells (List.replicate 32 (bv 0)).toArray 47)
          go_loopw [40] (fun u40 wi => ∃ i : Nat, i ≤ 32 ∧ u40 = .int .i64 i ∧ wi.rowIs w.heap.size 53 73 (Sha.strF sf blk5 N) ∧ wi.rowIs (w.heap.size + 1) 47 32 (fun _ => bv 0) ∧
            wi.rowIs w5.heap.size 47 32 (fun j => if j < i then bv ((Sha.out sf).getD j 0) else bv 0) ∧ Below w.heap.size w wi) (fun u40 _ => 32 - (intOf u40).toNat)
          case atStart => exact ⟨0, by omega, rfl, hst7, hout7, hnew, hB7⟩
          case round =>
            clear hst5 hout5 hB5 hst6 hout6 hB6 hz6 hnew hst7 hout7 hB7
            obtain ⟨i, hi, rfl, hst, hout, hnew, hB⟩ := hrel
            by_cases hi32 : i < 32
            · have hc1 := hst.cell (i := i / 4) (by omega)
              have e1 : Sha.strF sf blk5 N (i / 4) = wv (sf.toList.getD (i / 4) 0#32) := by unfold Sha.strF; rw [if_pos (by omega)]; rfl
              rw [e1] at hc1
              have hc2 := hnew.cell (i := i) hi32
              rw [if_neg (by omega)] at hc2
              have hfr := hnew.frozen i
              have hov := Lib.hid (out_val sf i hi32)
              clear e1
              generalize sf.toList.getD (i / 4) 0#32 = x at *
              have hx := x.isLt
              go_wp2_with fail
              rw [hov.out]
              go_roundw
              case rel =>
                refine ⟨i + 1, by omega, by go_num, hst.setOther (show w.heap.size ≠ w5.heap.size by omega) _, hout.setOther (show w.heap.size + 1 ≠ w5.heap.size by omega) _, (hnew.set i _).congr (fun j _ => ?_), hB.setCell (show w.heap.size ≤ w5.heap.size by omega) _⟩
                by_cases hji : j = i
                · subst hji; rw [if_pos rfl, if_pos (by omega)]
                · rw [if_neg hji]
                  by_cases h2 : j < i
                  · rw [if_pos h2, if_pos (by omega)]
                  · rw [if_neg h2, if_neg (by omega)]
              case measure => go_light; simp [intOf]; omega
            · obtain rfl : i = 32 := by omega
              have hn2 : wr.rowIs w5.heap.size 47 32 (fun j => bv ((Sha.sha m).getD j 0)) := hnew.congr (fun j hj => by rw [if_pos hj, HSHA.out])
              go_wp2_with (first | (with_reducible refine wpList_load_arr (o := ⟨some 57, _, _, _, _, _⟩) rfl _ _ rfl hn2 rfl aggSum ?_) | (refine wpList_store_arr (o := ⟨none, _, _, _, _, _⟩) rfl _ _ _ rfl hout rfl rfl aggSum (fun _ _ => rfl) ?_; intro hr2))
              exact bodyPost_arr (p := 2) (by rfl) hr2 (by rfl) aggSum (by rfl) ⟨rfl, below_setRow' hB (by omega) _⟩
    · have ht : (((n : Int) + ((j : Int) + 1)) % 64 != 56) = true := by
        have := fun h => hjz (hzt.1 h)
        rw [bne_iff_ne]; intro h; exact this (by omega)
      clear hzt
      go_wp2_with (at_builtin; refine wpList_append_one _ rfl _ _ _ rfl elBytes (w.heap.size + 2) _ _ _ rfl hown _ rfl rfl (by omega) (by omega) hz2 wr (w.heap.size + 2) (Below.refl _ _) (Nat.le_refl _) ?_)
      intro v' w' hown' hb'
      obtain ⟨g', cap', rfl, _, _⟩ := hown'.form (by omega)
      have hst' := row_below hst hb' (by omega)
      have hout' := row_below hout hb' (by omega)
      have hB' := hB.trans (hb'.mono (by omega))
      have hown2 : w'.ownsRow (w.heap.size + 2) 5 1 (.slice (some ⟨g', 0, none⟩) (j + 1 + 1) cap') (j + 1 + 1) ((128 :: List.replicate (j + 1) 0).map bv) := by
        have e : (128 :: List.replicate (j + 1) (0 : UInt8)).map bv = bv 128 :: (List.replicate j (bv 0) ++ [Value.int .u8 0]) := by
          rw [List.replicate_succ']; simp [bv]
        rw [e]; exact hown'
      clear hown hown' hst hout hB hb' hcell
      go_wp2_with fail
      go_roundw
      case rel => exact ⟨j + 1, by omega, hst', hout', hown2, hB'⟩
      case measure => go_light; simp; omega
end Go.Proofs.YtafehbnnoncieaaDoor
