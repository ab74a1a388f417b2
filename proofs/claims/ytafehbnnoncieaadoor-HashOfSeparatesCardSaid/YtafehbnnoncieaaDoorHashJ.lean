/-
  The hash of 256 bits: a stream takes in a text. Conditions: none.
-/
import Derived.Test.YtafehbnnoncieaaDoorHashI
namespace Go.Proofs.YtafehbnnoncieaaDoor
open Go.RowKit
namespace Sha
theorem blkIn_at (bk x : List UInt8) (a j : Nat) (h : bk.length = 64) (hx : a + x.length ≤ 64) (hj : j < 64) : (blkIn bk a x).getD j 0 = if a ≤ j ∧ j < a + x.length then x.getD (j - a) 0 else bk.getD j 0 := by
  unfold blkIn
  simp only [List.getD, List.getElem?_append, List.length_append, List.length_take, List.getElem?_take, List.getElem?_drop]
  by_cases h1 : j < a
  · rw [if_pos (by omega), if_pos (by omega), if_pos h1, if_neg (by omega)]
  · by_cases h2 : j < a + x.length
    · rw [if_pos (by omega), if_neg (by omega), if_pos (by omega)]
      congr 2; omega
    · rw [if_neg (by omega), if_neg (by omega)]
      congr 2; omega
theorem strF_over (st : St) (bk rl : List UInt8) (n a k : Nat) (h : bk.length = 64) (hk : a + k ≤ 64) (hl : k ≤ rl.length) (j : Nat) (hj : j < 73) :
    over (strF st bk n) (8 + a) k (fun i => bv (rl.getD i 0)) j = strF st (blkIn bk a (rl.take k)) n j := by
  have hxl : (rl.take k).length = k := by rw [List.length_take]; omega
  unfold over strF
  by_cases h1 : j < 8
  · rw [if_neg (by omega), if_pos h1, if_pos h1]
  · by_cases h2 : j < 72
    · rw [if_neg h1, if_pos h2, if_neg h1, if_pos h2, blkIn_at bk _ a (j - 8) h (by omega) (by omega), hxl]
      by_cases h3 : a ≤ j - 8 ∧ j - 8 < a + k
      · rw [if_pos (by omega), if_pos h3]
        have e : j - (8 + a) = j - 8 - a := by omega
        rw [e]
        simp only [List.getD, List.getElem?_take, show j - 8 - a < k by omega, if_true]
      · rw [if_neg (by omega), if_neg h3]
    · rw [if_neg (by omega), if_neg h1, if_neg h2, if_neg h1, if_neg h2]
theorem strF_n (st : St) (bk : List UInt8) (n n' : Nat) (j : Nat) : (if j = 72 then Value.int .u64 (n' : Int) else strF st bk n j) = if j < 73 then strF st bk n' j else strF st bk n j := by
  unfold strF
  by_cases h1 : j < 8
  · rw [if_neg (by omega), if_pos h1, if_pos (by omega), if_pos h1]
  · by_cases h2 : j < 72
    · rw [if_neg (by omega), if_neg h1, if_pos h2, if_pos (by omega), if_neg h1, if_pos h2]
    · by_cases h3 : j = 72
      · rw [if_pos h3, if_pos (by omega), if_neg h1, if_neg h2]
      · rw [if_neg h3, if_neg h1, if_neg h2, if_neg (by omega)]
theorem strF_st (st st' : St) (bk : List UInt8) (n : Nat) (j : Nat) : over (strF st bk n) 0 8 (stF st') j = strF st' bk n j := by
  unfold over strF
  by_cases h1 : j < 8
  · rw [if_pos (by omega), if_pos h1]; rfl
  · rw [if_neg (by omega), if_neg h1, if_neg h1]
end Sha
theorem str_block {w : World} {g : Nat} {st : Sha.St} {bk : List UInt8} {n : Nat} {t : TypeId} (h : w.rowIs g t 73 (Sha.strF st bk n)) (hb : bk.length = 64) : Sl w (.slice (some ⟨g, 8, none⟩) 64 64) 1 bk.length (bk.map bv) := by
  rw [hb]
  refine ⟨_, _, rfl, Nat.le_refl _, by decide, by simp [hb], fun _ => ⟨_, rfl, h.lt, fun j u hu => ?_⟩⟩
  have hj : j < 64 := by
    rcases Nat.lt_or_ge j 64 with h | h
    · exact h
    · rw [List.getElem?_eq_none (by simp; omega)] at hu; cases hu
  rw [Addr.add_lit, h.cell (i := 8 + j) (by omega)]
  have h2 : j < bk.length := by omega
  unfold Sha.strF
  rw [if_neg (by omega), if_pos (by omega), show 8 + j - 8 = j by omega, ← hu]
  simp [List.getD, List.getElem?_eq_getElem h2]

theorem Consts.below' {w w' : World} (h : Consts w) (hb : Below w.heap.size w w') : Consts w' := h.below hb
theorem extract_drop (r : ByteArray) (k : Nat) : (r.extract k r.size).data.toList = r.data.toList.drop k := by
  have h : r.size = r.data.toList.length := by rw [Array.length_toList]; rfl
  rw [ByteArray.data_extract, Array.toList_extract, h, List.extract_eq_take_drop]
  rw [List.take_of_length_le (by simp)]
theorem add_rest (m' : List UInt8) (r : ByteArray) (k : Nat) (l : List UInt8) (h : m' ++ r.data.toList = l) : (m' ++ r.data.toList.take k) ++ (r.extract k r.size).data.toList = l := by
  rw [extract_drop, List.append_assoc, List.take_append_drop, h]
theorem row_n {w : World} {g : Nat} {st : Sha.St} {bk : List UInt8} {n : Nat} {t : TypeId} (h : w.rowIs g t 73 (Sha.strF st bk n)) (n' : Nat) (z : Int) (hz : z = (n' : Int)) : (w.setCell ⟨g, 72, none⟩ (.int .u64 z)).rowIs g t 73 (Sha.strF st bk n') := by
  subst hz
  exact (h.set 72 _).congr fun j hj => by rw [Sha.strF_n, if_pos hj]

set_option maxHeartbeats 2000000 in
set_option maxRecDepth 100000 in
theorem hash_StreamAdd (v : Value) (m : List UInt8) (s : ByteArray) (w : World) (hv : Sha.IsStream v m) (hs : m.length + s.size ≤ 1000000000000000) (hC : Consts w) :
    Calls Tryd.prog 32 #[v, .string s] w fun e w' => ∃ v', e = .returned v' ∧ Sha.IsStream v' (m ++ s.data.toList) ∧ Below w.heap.size w w' := by
  obtain ⟨blk, rfl, hbl, hbt⟩ := hv
  have hz := str_zero
  go_enter Tryd.func32, Tryd.ntmps32
  go_wp2_with fail
  have hr0 := row_alloc (w.alloc (.cells (arr 73 (Sha.strF (Sha.feed (m.length / 64) Sha.init m) blk m.length)) 53)) 53 73 zF
  simp only [World.size_alloc] at hr0
  go_loopw [1] (fun u1 wr => ∃ (r : ByteArray) (m' blk' : List UInt8), u1 = .string r ∧ m' ++ r.data.toList = m ++ s.data.toList ∧ wr.rowIs w.heap.size 53 73 (Sha.strF (Sha.feed (m'.length / 64) Sha.init m') blk' m'.length) ∧ blk'.length = 64 ∧
    blk'.take (m'.length % 64) = m'.drop (64 * (m'.length / 64)) ∧ (∃ f, wr.rowIs (w.heap.size + 1) 53 73 f) ∧ Below w.heap.size w wr) (fun u1 _ => match u1 with | .string r => r.size | _ => 0)
  case atStart => exact ⟨s, m, blk, rfl, rfl, (row_alloc w _ 73 _).alloc _, hbl, hbt, ⟨_, hr0⟩, ((Below.refl _ _).alloc (Nat.le_refl _) _).alloc (by simp) _⟩
  case round =>
    clear hbl hbt hr0
    obtain ⟨r, m', bk, rfl, hmr, hst, hbl, hbt, ⟨f, hrr⟩, hB⟩ := hrel
    by_cases hr0 : 0 < r.size
    · have hne : (!r.toList.isEmpty) = true := by
        rw [ByteArray.toList_eq]
        cases hl : r.data.toList with
        | nil => have : r.data.toList.length = 0 := by rw [hl]; rfl
                 rw [Array.length_toList] at this; exact absurd hr0 (by show ¬ 0 < r.data.size; omega)
        | cons _ _ => rfl
      have hn := hst.cell (i := 72) (by omega)
      replace hn : wr.cell? ⟨w.heap.size, 72, none⟩ = some (.int .u64 (m'.length : Int)) := hn
      have hfn := hst.frozen 72
      have hlen : m'.length + r.size = m.length + s.size := by
        have := congrArg List.length hmr
        simp only [List.length_append, Array.length_toList] at this
        exact this
      have ht : m'.length % 64 < 64 := Nat.mod_lt _ (by omega)
      obtain ⟨n, hnl⟩ : ∃ n, n = m'.length := ⟨_, rfl⟩
      obtain ⟨at_, hat⟩ : ∃ k, k = m'.length % 64 := ⟨_, rfl⟩
      have hat1 : ((m'.length : Int)) % 64 = (at_ : Int) := by omega
      rw [← hnl] at hn hat1 hlen
      have HST := Lib.hid hst
      have HBT := Lib.hid hbt
      have HAT := Lib.hid hat
      have HNL := Lib.hid hnl
      have HMR := Lib.hid hmr
      have HLEN : n + r.size ≤ 1000000000000000 := by omega
      have at64 : at_ < 64 := by omega
      clear hst hbt hat hnl hmr hlen ht
      have hsl := run_sliceAt_arr (P := Tryd.prog) 51 5 64 Tryd.underlying51 (by kernel_rfl) w.heap.size 8 at_ at64
      obtain ⟨k, hkm⟩ : ∃ k, k = min r.size (64 - at_) := ⟨_, rfl⟩
      have hk1 : k ≤ r.size := by omega
      have hk2 : at_ + k ≤ 64 := by omega
      have hk3 : at_ + k = 64 ∨ k = r.size := by omega
      have hk4 : 0 < k := by omega
      have HKM := Lib.hid hkm
      clear hkm
      have hrl : k ≤ r.data.toList.length := by rw [Array.length_toList]; exact hk1
      generalize hstt : Sha.feed (m'.length / 64) Sha.init m' = st at *
      have HSTT := Lib.hid hstt
      clear hstt
      have HBK := Lib.hid (Sha.blkIn_length bk at_ (r.data.toList.take k) hbl (by rw [List.length_take]; omega))
      rw [← HNL.out] at HST
      go_wp2_with (refine wpList_copy_over (o := ⟨some 17, _, _, _, _, _⟩) rfl _ _ _ _ rfl Tryd.underlying22 (by kernel_rfl) HST.out (off := 8 + at_) (dLen := 64 - at_) rfl rfl (by omega) HKM.out ?_; intro wc hwc; have hst2 := (row_setRow HST.out (over (Sha.strF st bk n) (8 + at_) k (fun i => bv (r.data.toList.getD i 0)))).congr (fun j hj => Sha.strF_over st bk r.data.toList n at_ k hbl hk2 hrl j hj); have hrr2 := row_setRow_other hrr (show w.heap.size + 1 ≠ w.heap.size by omega) (arr 73 (over (Sha.strF st bk n) (8 + at_) k (fun i => bv (r.data.toList.getD i 0)))); have hB2 := below_setRow' hB (Nat.le_refl _) (arr 73 (over (Sha.strF st bk n) (8 + at_) k (fun i => bv (r.data.toList.getD i 0)))); rw [← hwc] at hst2 hrr2 hB2; clear hwc hn hfn hrr hB; have hn2 := hst2.cell (i := 72) (by omega); replace hn2 : wc.cell? ⟨w.heap.size, 72, none⟩ = some (.int .u64 (n : Int)) := hn2; have hfn2 := hst2.frozen 72)
      · have hfull : at_ + k = 64 := by
          have : ((at_ : Int) + (k : Int) == 64) = true := by assumption
          rw [beq_iff_eq] at this; omega
        have hst3 := row_n hst2 (n + k) ((n : Int) + (k : Int)) (by omega)
        have hrr3 := hrr2.setOther (a := ⟨w.heap.size, 72, none⟩) (show w.heap.size + 1 ≠ w.heap.size by omega) (.int .u64 ((n : Int) + (k : Int)))
        have hB3 := hB2.setCell (p := ⟨w.heap.size, 72, none⟩) (Nat.le_refl _) (.int .u64 ((n : Int) + (k : Int)))
        clear hst2 hrr2 hB2 hn2 hfn2
        generalize wc.setCell ⟨w.heap.size, 72, none⟩ (.int .u64 ((n : Int) + (k : Int))) = wd at *
        generalize hbk2 : Sha.blkIn bk at_ (r.data.toList.take k) = bk2 at *
        have HBK2 := Lib.hid hbk2
        clear hbk2
        refine wp_region_lasts (fun w' => w'.rowIs w.heap.size 53 73 (Sha.strF st bk2 (n + k)) ∧ (∃ f, w'.rowIs (w.heap.size + 1) 53 73 f) ∧ Below w.heap.size w w') (fun i => i == 6) (by kernel_rfl) ⟨hst3.drew, ⟨_, hrr3.drew⟩, hB3.drew⟩ (fun hHeld => ?_)
        refine tk_0 (v := ?_) (by kernel_rfl) (by kernel_rfl) (by kernel_rfl) (by kernel_rfl) (fun _ _ _ h => h) (Or.inl ⟨by kernel_rfl, ?_⟩) (by assumption) ?_
        rotate_left
        · (intro wS hSw; (try dsimp only at hSw); (go_simp); (all_goals (with_reducible rfl)))
        try go_frame
        refine tk_1 (v := ?_) (by kernel_rfl) (by kernel_rfl) (by kernel_rfl) (by kernel_rfl) (fun _ _ _ h => h) (Or.inl ⟨by kernel_rfl, ?_⟩) (by assumption) ?_
        rotate_left
        · (intro wS hSw; (try dsimp only at hSw); (replace hSw := hSw.1; have q0 : wS.cell? ⟨w.heap.size, 0, none⟩ = some (wv st.a) := hSw.cell (i := 0) (by decide); have q1 : wS.cell? ⟨w.heap.size, 1, none⟩ = some (wv st.b) := hSw.cell (i := 1) (by decide); have q2 : wS.cell? ⟨w.heap.size, 2, none⟩ = some (wv st.c) := hSw.cell (i := 2) (by decide); have q3 : wS.cell? ⟨w.heap.size, 3, none⟩ = some (wv st.d) := hSw.cell (i := 3) (by decide); have q4 : wS.cell? ⟨w.heap.size, 4, none⟩ = some (wv st.e) := hSw.cell (i := 4) (by decide); have q5 : wS.cell? ⟨w.heap.size, 5, none⟩ = some (wv st.f) := hSw.cell (i := 5) (by decide); have q6 : wS.cell? ⟨w.heap.size, 6, none⟩ = some (wv st.g) := hSw.cell (i := 6) (by decide); have q7 : wS.cell? ⟨w.heap.size, 7, none⟩ = some (wv st.h) := hSw.cell (i := 7) (by decide); go_simp); (all_goals (with_reducible rfl)))
        try go_frame
        refine tk_2 (v := ?_) (by kernel_rfl) (by kernel_rfl) (by kernel_rfl) (by kernel_rfl) (fun _ _ _ h => h) (Or.inl ⟨by kernel_rfl, ?_⟩) (by assumption) ?_
        rotate_left
        · (intro wS hSw; (try dsimp only at hSw); (go_simp); (all_goals (with_reducible rfl)))
        try go_frame
        refine tk_3 (v := ?_) (by kernel_rfl) (by kernel_rfl) (by kernel_rfl) (by kernel_rfl) (fun _ _ _ h => h) (Or.inl ⟨by kernel_rfl, ?_⟩) (by assumption) ?_
        rotate_left
        · (intro wS hSw; (try dsimp only at hSw); (go_simp); (all_goals (with_reducible rfl)))
        try go_frame
        refine dn_4 (by kernel_rfl) (fun K hK => ?_)
        rw [if_pos (by kernel_rfl)]
        go_simp; go_at_call 47; refine (hash_compress st bk2 _ _ rfl _ HBK.out (str_block hHeld.1 HBK.out) (hC.below' hHeld.2.2)).mono ?_; rintro e w4 ⟨rfl, hb4⟩; go_simp
        refine hK.out _ _ (fun _ => by (try dsimp only); exact ⟨rowIs_below' hHeld.1 hb4, ⟨_, rowIs_below' hHeld.2.1.choose_spec hb4⟩, bl_on hHeld.2.2 hb4⟩) (fun hHeld => ?_)
        replace hHeld := hHeld rfl
        clear hK K
        try go_frame
        obtain ⟨hst4, ⟨f4, hrr4⟩, hB4⟩ := id hHeld
        refine tk_5 (v := ?_) (by kernel_rfl) (by kernel_rfl) (by kernel_rfl) (by kernel_rfl) (fun _ _ _ h => h) (Or.inl ⟨by kernel_rfl, ?_⟩) (by assumption) ?_
        rotate_left
        · (intro wS hSw; (try dsimp only at hSw); (go_simp); (all_goals (with_reducible rfl)))
        try go_frame
        refine dn_6 (by kernel_rfl) (fun K hK => ?_)
        rw [if_pos (by kernel_rfl)]
        refine wp_store_over (g := Sha.stF (Sha.compress st bk2)) _ _ _ rfl hst4 rfl rfl (by decide) aggW8 (fun _ _ => rfl) ?_
        refine hK.out _ _ (fun h => by cases h) (fun _ => ?_)
        clear hK K
        try go_frame
        refine wpAnyT_done (by kernel_rfl) ?_ _
        refine NoPanic.normal ?_
        have hst5 : (w4.setRow w.heap.size (arr 73 (over (Sha.strF st bk2 (n + k)) 0 8 (Sha.stF (Sha.compress st bk2))))).rowIs w.heap.size 53 73 (Sha.strF (Sha.compress st bk2) bk2 (n + k)) := (row_setRow hst4 _).congr (fun j _ => Sha.strF_st _ _ _ _ j)
        have hrr5 := row_setRow_other hrr4 (show w.heap.size + 1 ≠ w.heap.size by omega) (arr 73 (over (Sha.strF st bk2 (n + k)) 0 8 (Sha.stF (Sha.compress st bk2))))
        have hB5 := below_setRow' hB4 (Nat.le_refl _) (arr 73 (over (Sha.strF st bk2 (n + k)) 0 8 (Sha.stF (Sha.compress st bk2))))
        have HF := Lib.hid (Sha.step_full bk m' (r.data.toList.take k) hbl (by rw [← HAT.out, List.length_take]; omega) HBT.out)
        have HL : Hid ((m' ++ r.data.toList.take k).length = n + k) := by show _ = _; rw [List.length_append, List.length_take, HNL.out]; omega
        clear hHeld hst3 hrr3 hB3 hst4 hrr4 hB4
        generalize w4.setRow w.heap.size (arr 73 (over (Sha.strF st bk2 (n + k)) 0 8 (Sha.stF (Sha.compress st bk2)))) = w5 at *
        go_wp2_with fail
        go_roundw
        case rel =>
          have h1 := HF.out
          rw [HSTT.out, ← HAT.out, HBK2.out] at h1
          exact ⟨r.extract k r.size, m' ++ r.data.toList.take k, bk2, rfl, add_rest m' r k _ HMR.out, by rw [h1.1, HL.out]; exact hst5, HBK.out, h1.2, ⟨_, hrr5⟩, hB5⟩
        case measure => go_light; simp; omega
      · have hpart : at_ + k < 64 := by
          have : ((at_ : Int) + (k : Int) == 64) = false := by assumption
          rw [beq_eq_false_iff_ne] at this; omega
        have hst3 := row_n hst2 (n + k) ((n : Int) + (k : Int)) (by omega)
        have hrr3 := hrr2.setOther (a := ⟨w.heap.size, 72, none⟩) (show w.heap.size + 1 ≠ w.heap.size by omega) (.int .u64 ((n : Int) + (k : Int)))
        have hB3 := hB2.setCell (p := ⟨w.heap.size, 72, none⟩) (Nat.le_refl _) (.int .u64 ((n : Int) + (k : Int)))
        have HF := Lib.hid (Sha.step_part bk m' (r.data.toList.take k) hbl (by rw [← HAT.out, List.length_take]; omega) HBT.out)
        have HL : Hid ((m' ++ r.data.toList.take k).length = n + k) := by show _ = _; rw [List.length_append, List.length_take, HNL.out]; omega
        go_roundw
        case rel =>
          have h1 := HF.out
          rw [HSTT.out, ← HAT.out] at h1
          exact ⟨r.extract k r.size, m' ++ r.data.toList.take k, _, rfl, add_rest m' r k _ HMR.out, by rw [h1.1, HL.out]; exact hst3, HBK.out, h1.2, ⟨_, hrr3⟩, hB3⟩
        case measure => go_light; simp; omega
    · have hne : (!r.toList.isEmpty) = false := by
        rw [ByteArray.toList_eq]
        have : r.data.toList.length = 0 := by rw [Array.length_toList]; show r.size = 0; omega
        rw [List.eq_nil_of_length_eq_zero this]; rfl
      have hnil : r.data.toList = [] := List.eq_nil_of_length_eq_zero (by rw [Array.length_toList]; show r.size = 0; omega)
      rw [hnil, List.append_nil] at hmr
      subst hmr
      clear hnil
      go_wp2_with (first | (with_reducible refine wpList_load_arr (o := ⟨some 37, _, _, _, _, _⟩) rfl _ _ rfl hst rfl aggStr ?_) | (refine wpList_store_arr (o := ⟨none, _, _, _, _, _⟩) rfl _ _ _ rfl hrr rfl rfl aggStr (fun i _ => Sha.strF_one _ _ _ i) ?_; intro hr2))
      exact bodyPost_arr (p := 4) (by rfl) hr2 (by rfl) aggStr (by rfl) ⟨_, rfl, ⟨bk, rfl, hbl, hbt⟩, below_setRow' hB (by omega) _⟩
end Go.Proofs.YtafehbnnoncieaaDoor
