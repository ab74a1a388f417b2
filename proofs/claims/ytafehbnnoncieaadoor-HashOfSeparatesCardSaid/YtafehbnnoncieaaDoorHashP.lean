/-
  The hash of 256 bits: the specification's hash. Conditions: none.
-/
import Derived.Test.YtafehbnnoncieaaDoorHashN
import Derived.Test.YtafehbnnoncieaaDoorHashO
import Derived.Test.YtafehbnnoncieaaDoorHashL
namespace Go.Proofs.YtafehbnnoncieaaDoor
open Go.RowKit
/-- The specification's constants lie where the program's start has laid them. -/
def RConsts (w : World) : Prop := 0 < w.heap.size ∧ ∀ i : Nat, i < 64 → w.cell? ⟨0, i, none⟩ = some (kF i)
theorem RConsts.below {w w' : World} (h : RConsts w) (hb : Below w.heap.size w w') : RConsts w' :=
  ⟨Nat.lt_of_lt_of_le h.1 hb.size, fun i hi => (hb.cell (p := ⟨0, i, none⟩) h.1).trans (h.2 i hi)⟩
theorem own_keep {w w' : World} {base : Nat} {e : TypeId} {size : Nat} {v : Value} {n : Nat} {xs : List Value} (h : w.ownsRow base e size v n xs) (hk : ∀ g, base ≤ g → g < w.heap.size → w'.heap[g]? = w.heap[g]?) : w'.ownsRow base e size v n xs := by
  refine ⟨h.1, ?_⟩
  rcases h.2 with h0 | ⟨g, cap, cur, hv, hg, hh, r⟩
  · exact .inl h0
  · exact .inr ⟨g, cap, cur, hv, hg, (hk g hg (Array.getElem?_eq_some_iff.1 hh).1).trans hh, r⟩
theorem own_setCell {w : World} {base : Nat} {e : TypeId} {size : Nat} {v : Value} {n : Nat} {xs : List Value} (h : w.ownsRow base e size v n xs) {p : Addr} (hp : p.block < base) (u : Value) : (w.setCell p u).ownsRow base e size v n xs :=
  own_keep h fun g hg _ => by
    show (w.heap.modify p.block _)[g]? = _
    rw [Array.getElem?_modify, if_neg (by omega)]
theorem own_setCell_ge {w : World} {base : Nat} {e : TypeId} {size : Nat} {g cap : Nat} {n : Nat} {xs : List Value} (h : w.ownsRow base e size (.slice (some ⟨g, 0, none⟩) n cap) n xs) {p : Addr} (hp : p.block ≠ g) (u : Value) : (w.setCell p u).ownsRow base e size (.slice (some ⟨g, 0, none⟩) n cap) n xs := by
  refine ⟨h.1, ?_⟩
  rcases h.2 with h0 | ⟨g', cap', cur, hv, hg, hh, r⟩
  · exact .inl h0
  · refine .inr ⟨g', cap', cur, hv, hg, ?_, r⟩
    injection hv with e1
    injection e1 with e1
    injection e1 with e1
    show (w.heap.modify p.block _)[g']? = _
    rw [Array.getElem?_modify, if_neg (by omega), hh]
theorem own_setRow_ge {w : World} {base : Nat} {e : TypeId} {size : Nat} {g cap : Nat} {n : Nat} {xs : List Value} (h : w.ownsRow base e size (.slice (some ⟨g, 0, none⟩) n cap) n xs) {b : Nat} (hp : b ≠ g) (cs : Array Value) : (w.setRow b cs).ownsRow base e size (.slice (some ⟨g, 0, none⟩) n cap) n xs := by
  refine ⟨h.1, ?_⟩
  rcases h.2 with h0 | ⟨g', cap', cur, hv, hg, hh, r⟩
  · exact .inl h0
  · refine .inr ⟨g', cap', cur, hv, hg, ?_, r⟩
    injection hv with e1
    injection e1 with e1
    injection e1 with e1
    rw [setRow_other w b g' cs (by omega), hh]
theorem Sha.pad_len (l : List UInt8) : (Sha.pad l).length = 64 * ((Sha.pad l).length / 64) ∧ 64 ≤ (Sha.pad l).length ∧ (Sha.pad l).length ≤ l.length + 73 := by
  have h : (Sha.pad l).length = l.length + 1 + Sha.zeros l.length + 8 := by simp [Sha.pad, Sha.len8]; omega
  have h2 := Sha.zeros_lt l.length
  rw [h]
  unfold Sha.zeros at *
  omega
theorem x_val2 (te tf tg th kk wk : Sha.W) : IntKind.u32.wrap (IntKind.u32.wrap (IntKind.u32.wrap (IntKind.u32.wrap ((th.toNat : Int) + bits .xor .u32 (bits .xor .u32 ((Sha.rotr te 6).toNat : Int) ((Sha.rotr te 11).toNat : Int)) ((Sha.rotr te 25).toNat : Int)) +
    bits .xor .u32 (bits .and .u32 (te.toNat : Int) (tf.toNat : Int)) (bits .and .u32 (bits .xor .u32 (te.toNat : Int) 4294967295) (tg.toNat : Int))) + (kk.toNat : Int)) + (wk.toNat : Int)) =
    ((th + Sha.mix te 6 11 25 + ((te &&& tf) ^^^ ((~~~ te) &&& tg)) + kk + wk).toNat : Int) := by
  have h : (4294967295 : Int) = ((BitVec.allOnes 32).toNat : Int) := by decide
  rw [h, u32_xor te, BitVec.xor_allOnes, u32_and, u32_and, u32_xor, u32_xor, u32_xor, u32_add, u32_add, u32_add, u32_add]
  rfl
theorem y_val2 (ta tb tc : Sha.W) : IntKind.u32.wrap (bits .xor .u32 (bits .xor .u32 ((Sha.rotr ta 2).toNat : Int) ((Sha.rotr ta 13).toNat : Int)) ((Sha.rotr ta 22).toNat : Int) + bits .xor .u32 (bits .xor .u32 (bits .and .u32 (ta.toNat : Int) (tb.toNat : Int)) (bits .and .u32 (ta.toNat : Int) (tc.toNat : Int))) (bits .and .u32 (tb.toNat : Int) (tc.toNat : Int))) =
    ((Sha.mix ta 2 13 22 + ((ta &&& tb) ^^^ (ta &&& tc) ^^^ (tb &&& tc))).toNat : Int) := by
  rw [u32_and, u32_and, u32_and, u32_xor, u32_xor, u32_xor, u32_xor, u32_add]
  rfl
theorem rowIs_cells8 {w : World} {b : Nat} {t : TypeId} {f : Nat → Value} (h : w.rowIs b t 8 f) : w.cell? ⟨b, 0, none⟩ = some (f 0) ∧ w.cell? ⟨b, 1, none⟩ = some (f 1) ∧ w.cell? ⟨b, 2, none⟩ = some (f 2) ∧ w.cell? ⟨b, 3, none⟩ = some (f 3) ∧
    w.cell? ⟨b, 4, none⟩ = some (f 4) ∧ w.cell? ⟨b, 5, none⟩ = some (f 5) ∧ w.cell? ⟨b, 6, none⟩ = some (f 6) ∧ w.cell? ⟨b, 7, none⟩ = some (f 7) :=
  ⟨h.cell (by decide), h.cell (by decide), h.cell (by decide), h.cell (by decide), h.cell (by decide), h.cell (by decide), h.cell (by decide), h.cell (by decide)⟩

theorem st_add (s t : Sha.St) : ∀ i, i < 8 → ∃ x y : Sha.W, Sha.stF s i = wv x ∧ Sha.stF t i = wv y ∧ Sha.stF (s.add t) i = wv (x + y)
  | 0, _ => ⟨_, _, rfl, rfl, rfl⟩
  | 1, _ => ⟨_, _, rfl, rfl, rfl⟩
  | 2, _ => ⟨_, _, rfl, rfl, rfl⟩
  | 3, _ => ⟨_, _, rfl, rfl, rfl⟩
  | 4, _ => ⟨_, _, rfl, rfl, rfl⟩
  | 5, _ => ⟨_, _, rfl, rfl, rfl⟩
  | 6, _ => ⟨_, _, rfl, rfl, rfl⟩
  | 7, _ => ⟨_, _, rfl, rfl, rfl⟩
  | n + 8, h => absurd h (by omega)
set_option maxHeartbeats 4000000 in
set_option maxRecDepth 100000 in
theorem ref_Sum (l : List UInt8) (x : Value) (w : World) (hl : Sl w x 1 l.length (l.map bv)) (hb : l.length ≤ 10000000000000) (hC : RConsts w) :
    Calls Tryd.prog 30 #[x] w fun e w' => e = .returned (shaVal l) ∧ Below w.heap.size w w' := by
  have hinit : ((Tryd.prog.built 50 [(0, .int .u32 1779033703), (1, .int .u32 3144134277), (2, .int .u32 1013904242), (3, .int .u32 2773480762), (4, .int .u32 1359893119), (5, .int .u32 2600822924), (6, .int .u32 528734635), (7, .int .u32 1541459225)]).getD #[]) = arr 8 (Sha.stF Sha.init) := by kernel_rfl
  have hrz := row_new (w.alloc (.cells (List.replicate 32 (bv 0)).toArray 47)) (List.replicate 8 (wv 0#32)).toArray 50 8 (fun _ => wv 0#32) rfl (fun i hi => rep_at 8 i _ hi)
  rw [World.size_alloc] at hrz
  have hr0 := (row_new w (List.replicate 32 (bv 0)).toArray 47 32 (fun _ => bv 0) rfl (fun i hi => rep_at 32 i _ hi)).alloc (.cells (List.replicate 8 (wv 0#32)).toArray 50)
  have hl0 := (hl.alloc (.cells (List.replicate 32 (bv 0)).toArray 47)).alloc (.cells (List.replicate 8 (wv 0#32)).toArray 50)
  have hB0 := ((Below.refl w.heap.size w).alloc (Nat.le_refl _) (.cells (List.replicate 32 (bv 0)).toArray 47)).alloc (by simp) (.cells (List.replicate 8 (wv 0#32)).toArray 50)
  have HZ0 := Lib.hid (show ((w.alloc (.cells (List.replicate 32 (bv 0)).toArray 47)).alloc (.cells (List.replicate 8 (wv 0#32)).toArray 50)).heap.size = w.heap.size + 2 by simp)
  go_enter Tryd.func30, Tryd.ntmps30
  go_wp2_with (first | (refine wpList_build (o := ⟨some 14, _, _, _, _, _⟩) rfl _ _ rfl (by kernel_rfl) ?_) |
    (refine wpList_store_arr (o := ⟨none, _, _, _, _, _⟩) (g := Sha.stF Sha.init) rfl _ _ _ rfl hrz rfl rfl aggW8 (fun _ _ => rfl) ?_; intro hs0))
  clear hinit
  replace hr0 := row_setRow_other hr0 (show w.heap.size ≠ w.heap.size + 1 by omega) (arr 8 (Sha.stF Sha.init))
  replace hB0 := below_setRow' hB0 (show w.heap.size ≤ w.heap.size + 1 by omega) (arr 8 (Sha.stF Sha.init))
  have hl1 := hl.below hB0
  refine (ref_padded l x _ hl1 (by omega)).mono ?_
  rintro e w1 ⟨v4, rfl, hown, hb1⟩
  have hs1 := rowIs_below' hs0 hb1
  have hr1 := rowIs_below' hr0 hb1
  have hB1 := bl_on hB0 hb1
  replace hown := own_mono hown (base' := w.heap.size + 2) (by rw [size_setRow]; exact Nat.le_of_eq HZ0.out.symm)
  obtain ⟨hP64, hPpos, hPle⟩ := Sha.pad_len l
  have hsha : shaVal l = .agg (arr 32 (fun i => bv ((Sha.out (Sha.feed ((Sha.pad l).length / 64) Sha.init (Sha.pad l))).getD i 0))) := rfl
  have HSHA := Lib.hid hsha
  clear hsha hrz hl0 hs0 hr0 hB0 hb1 hl1 hl
  generalize Sha.pad l = P at *
  obtain ⟨Q, hQ⟩ : ∃ Q, Q = P.length / 64 := ⟨_, rfl⟩
  rw [← hQ] at hP64 HSHA
  clear hQ
  have HP := Lib.hid hP64
  clear hP64
  have hPle2 : P.length ≤ 20000000000000 := by omega
  obtain ⟨g4, c4, rfl, hg4, hg4'⟩ := hown.form (by omega)
  go_wp2_with fail
  go_loopw [5] (fun u5 wr => ∃ q : Nat, q ≤ Q ∧ u5 = .int .i64 ((64 * q : Nat) : Int) ∧ wr.rowIs w.heap.size 47 32 (fun _ => bv 0) ∧ wr.rowIs (w.heap.size + 1) 50 8 (Sha.stF (Sha.feed q Sha.init P)) ∧
    wr.ownsRow (w.heap.size + 2) 5 1 (.slice (some ⟨g4, 0, none⟩) P.length c4) P.length (P.map bv) ∧ Below w.heap.size w wr) (fun u5 _ => P.length - (intOf u5).toNat)
  case atStart => exact ⟨0, Nat.zero_le _, rfl, hr1, hs1, hown, hB1⟩
  case round =>
    clear hr1 hs1 hown hB1
    obtain ⟨q, hq, rfl, hr, hs, hown, hB⟩ := hrel
    have hP := HP.out
    by_cases hlt : 64 * q < P.length
    · skip
      have hsl := Sl.of_own hown
      have hblen : ((P.drop (64 * q)).take 64).length = 64 := by rw [List.length_take, List.length_drop]; omega
      have hfl := Sha.feed_last q Sha.init P
      have hq64 : 64 * q + 64 ≤ P.length := by omega
      have hq1 : q + 1 ≤ Q := by omega
      clear hP
      go_wp2_with (refine wpList_slice_lh (o := ⟨some 27, _, _, _, _, _⟩) rfl _ _ _ _ rfl elBytes rfl hsl _ _ (64 * q) (64 * q + 64) rfl rfl (by omega) (by omega) (by omega) (by omega) ?_; intro X d m hm hslm)
      obtain rfl : m = 64 := by omega
      clear hm
      have hslb : Sl wr (.slice X 64 d) 1 ((P.drop (64 * q)).take 64).length (((P.drop (64 * q)).take 64).map bv) := by
        rw [hblen]; simpa [List.map_take, List.map_drop] using hslm
      clear hslm hsl
      generalize (P.drop (64 * q)).take 64 = blk at *
      have HBL := Lib.hid hblen
      have HFL := Lib.hid hfl
      clear hblen hfl
      refine (ref_words blk _ _ HBL.out hslb).mono ?_
      rintro e w2 ⟨rfl, hb2⟩
      unfold schedVal
      have hr2 := (rowIs_below' hr hb2).alloc (.cells (arr 64 fun i => wv (Sha.wAt blk i)) 73)
      have hs2 := (rowIs_below' hs hb2).alloc (.cells (arr 64 fun i => wv (Sha.wAt blk i)) 73)
      generalize hst : Sha.feed q Sha.init P = s at *
      have HST := Lib.hid hst
      clear hst
      have hrz := row_new (w2.alloc (.cells (arr 64 fun i => wv (Sha.wAt blk i)) 73)) (List.replicate 8 (wv 0#32)).toArray 50 8 (fun _ => wv 0#32) rfl (fun i hi => rep_at 8 i _ hi)
      rw [World.size_alloc] at hrz
      go_wp2_with (first | (with_reducible refine wpList_store_fresh (o := ⟨none, _, _, _, _, _⟩) rfl _ _ _ rfl _ (arr 64 fun i => wv (Sha.wAt blk i)) rfl rfl aggW64 rfl (arr_size _ _) (arr_ones (fun _ _ => rfl)) ?_) |
        (refine wpList_load_arr (o := ⟨some 29, _, _, _, _, _⟩) rfl _ _ rfl hs2 rfl aggW8 ?_) |
        (refine wpList_store_arr (o := ⟨none, _, _, _, _, _⟩) (g := Sha.stF s) rfl _ _ _ rfl hrz rfl rfl aggW8 (fun _ _ => rfl) ?_; intro hV))
      have hown2 := (own_below hown hb2).alloc (.cells (arr 64 fun i => wv (Sha.wAt blk i)) 73)
      have hg42 : g4 < w2.heap.size := by
        obtain ⟨g, cap, e1, _, e2⟩ := (own_below hown hb2).form (by omega)
        injection e1 with e1; injection e1 with e1; injection e1 with e1; omega
      have hW2 := (row_alloc w2 73 64 (fun i => wv (Sha.wAt blk i))).alloc (.cells (List.replicate 8 (wv 0#32)).toArray 50)
      replace hr2 := hr2.alloc (.cells (List.replicate 8 (wv 0#32)).toArray 50)
      replace hs2 := hs2.alloc (.cells (List.replicate 8 (wv 0#32)).toArray 50)
      replace hown2 := hown2.alloc (.cells (List.replicate 8 (wv 0#32)).toArray 50)
      have hz2 := hB.size
      have hz3 := hb2.size
      have hz4 : w.heap.size + 1 < w2.heap.size := (rowIs_below' hs hb2).lt
      have hB2 : Below w.heap.size w ((w2.alloc (.cells (arr 64 fun i => wv (Sha.wAt blk i)) 73)).alloc (.cells (List.replicate 8 (wv 0#32)).toArray 50)) := ((bl_on hB hb2).alloc (by omega) _).alloc (by rw [World.size_alloc]; omega) _
      replace hW2 := row_setRow_other hW2 (show w2.heap.size ≠ w2.heap.size + 1 by omega) (arr 8 (Sha.stF s))
      replace hr2 := row_setRow_other hr2 (show w.heap.size ≠ w2.heap.size + 1 by omega) (arr 8 (Sha.stF s))
      replace hs2 := row_setRow_other hs2 (show w.heap.size + 1 ≠ w2.heap.size + 1 by omega) (arr 8 (Sha.stF s))
      replace hown2 := own_setRow_ge hown2 (show w2.heap.size + 1 ≠ g4 by omega) (arr 8 (Sha.stF s))
      replace hB2 := below_setRow' hB2 (show w.heap.size ≤ w2.heap.size + 1 by omega) (arr 8 (Sha.stF s))
      clear hr hs hown hB hslb hrz
      clear hb2
      obtain ⟨W4, hW4⟩ : ∃ W4 : World, W4 = ((w2.alloc (.cells (arr 64 fun i => wv (Sha.wAt blk i)) 73)).alloc (.cells (List.replicate 8 (wv 0#32)).toArray 50)).setRow (w2.heap.size + 1) (arr 8 (Sha.stF s)) := ⟨_, rfl⟩
      have hG4 : W4 = ((w2.alloc (.cells (arr 64 fun i => wv (Sha.wAt blk i)) 73)).alloc (.cells #[.int .u32 0, .int .u32 0, .int .u32 0, .int .u32 0, .int .u32 0, .int .u32 0, .int .u32 0, .int .u32 0] 50)).setRow (w2.heap.size + 1) (arr 8 (Sha.stF s)) := hW4
      replace hV : W4.rowIs (w2.heap.size + 1) 50 8 (Sha.stF s) := by rw [hG4]; exact hV
      rw [← hW4] at hW2 hr2 hs2 hown2 hB2
      rw [← hG4]
      clear hW4 hG4 hz2 hz3
      generalize w2.heap.size = g6 at *
      clear w2
      obtain ⟨wo, hwo⟩ : ∃ wo : World, wo = wr := ⟨_, rfl⟩
      go_loopw [8] (fun u8 wr => ∃ k : Nat, k ≤ 64 ∧ u8 = .int .i64 k ∧ wr.rowIs w.heap.size 47 32 (fun _ => bv 0) ∧ wr.rowIs (w.heap.size + 1) 50 8 (Sha.stF s) ∧
        wr.ownsRow (w.heap.size + 2) 5 1 (.slice (some ⟨g4, 0, none⟩) P.length c4) P.length (P.map bv) ∧ wr.rowIs g6 73 64 (fun i => wv (Sha.wAt blk i)) ∧ wr.rowIs (g6 + 1) 50 8 (Sha.stF (Sha.rounds blk s k)) ∧ Below w.heap.size w wr) (fun u8 _ => 64 - (intOf u8).toNat)
      case atStart => exact ⟨0, by omega, rfl, hr2, hs2, hown2, hW2, hV, hB2⟩
      case round =>
        clear hr2 hs2 hown2 hW2 hV hB2 hwo
        clear W4 wo
        obtain ⟨k, hk, rfl, hr, hs, hown, hW, hV, hB⟩ := hrel
        by_cases hlt : k < 64
        · skip
          have hkw := (hB.cell (p := ⟨0, k, none⟩) hC.1).trans (hC.2 k hlt)
          rw [kF_wv k hlt] at hkw
          have hwk := hW.cell (i := k) hlt
          have hrd : Sha.rounds blk s (k + 1) = Sha.round (Sha.rounds blk s k) (BitVec.ofNat 32 (Sha.ks.getD k 0)) (Sha.wAt blk k) := rfl
          generalize BitVec.ofNat 32 (Sha.ks.getD k 0) = kk at *
          generalize Sha.wAt blk k = wk at *
          generalize hrk : Sha.rounds blk s k = t at *
          obtain ⟨ta, tb, tc, td, te, tf, tg, th⟩ := t
          obtain ⟨v0, v1, v2, v3, v4, v5, v6, v7⟩ := rowIs_cells8 hV
          replace v0 : wr.cell? ⟨g6 + 1, 0, none⟩ = some (wv ta) := v0
          replace v1 : wr.cell? ⟨g6 + 1, 1, none⟩ = some (wv tb) := v1
          replace v2 : wr.cell? ⟨g6 + 1, 2, none⟩ = some (wv tc) := v2
          replace v3 : wr.cell? ⟨g6 + 1, 3, none⟩ = some (wv td) := v3
          replace v4 : wr.cell? ⟨g6 + 1, 4, none⟩ = some (wv te) := v4
          replace v5 : wr.cell? ⟨g6 + 1, 5, none⟩ = some (wv tf) := v5
          replace v6 : wr.cell? ⟨g6 + 1, 6, none⟩ = some (wv tg) := v6
          replace v7 : wr.cell? ⟨g6 + 1, 7, none⟩ = some (wv th) := v7
          have HRD := Lib.hid hrd
          have HRK := Lib.hid hrk
          clear hrd hrk
          have k0 : (0 : Int) ≤ (k : Int) := by omega
          have k64 : (k : Int) < 64 := by omega
          go_wp2_with fail
          refine wp_region_lasts (fun w' => w'.cell? ⟨g6 + 1, 4, none⟩ = some (wv te) ∧ w'.cell? ⟨g6 + 1, 5, none⟩ = some (wv tf) ∧ w'.cell? ⟨g6 + 1, 6, none⟩ = some (wv tg) ∧ w'.cell? ⟨g6 + 1, 7, none⟩ = some (wv th) ∧ w'.cell? ⟨g6, k, none⟩ = some (wv wk) ∧ w'.cell? ⟨0, k, none⟩ = some (wv kk)) (fun _ => false) (by kernel_rfl) ⟨v4, v5, v6, v7, hwk, hkw⟩ (fun hHeld => ?_)
          refine tk_0 (v := ?_) (by kernel_rfl) (by kernel_rfl) (by kernel_rfl) (by kernel_rfl) (fun _ _ _ h => h) (Or.inl ⟨by kernel_rfl, ?_⟩) (by assumption) ?_
          rotate_left
          · (intro wS hSw; (try dsimp only at hSw); (go_simp); (all_goals (with_reducible rfl)))
          try go_frame
          refine tk_1 (v := ?_) (by kernel_rfl) (by kernel_rfl) (by kernel_rfl) (by kernel_rfl) (fun _ _ _ h => h) (Or.inl ⟨by kernel_rfl, ?_⟩) (by assumption) ?_
          rotate_left
          · (intro wS hSw; (try dsimp only at hSw); (obtain ⟨q0, q1, q2, q3, q4, q5⟩ := hSw; go_simp); (all_goals (with_reducible rfl)))
          try go_frame
          refine tk_2 (v := ?_) (by kernel_rfl) (by kernel_rfl) (by kernel_rfl) (by kernel_rfl) (fun _ _ _ h => h) (Or.inl ⟨by kernel_rfl, ?_⟩) (by assumption) ?_
          rotate_left
          · (intro wS hSw; (try dsimp only at hSw); (go_simp); (all_goals (with_reducible rfl)))
          try go_frame
          refine tk_3 (v := ?_) (by kernel_rfl) (by kernel_rfl) (by kernel_rfl) (by kernel_rfl) (fun _ _ _ h => h) (Or.inl ⟨by kernel_rfl, ?_⟩) (by assumption) ?_
          rotate_left
          · (intro wS hSw; (try dsimp only at hSw); (obtain ⟨q0, q1, q2, q3, q4, q5⟩ := hSw; go_simp); (all_goals (with_reducible rfl)))
          try go_frame
          refine tk_5 (v := ?_) (by kernel_rfl) (by kernel_rfl) (by kernel_rfl) (by kernel_rfl) (fun _ _ _ h => h) (Or.inl ⟨by kernel_rfl, ?_⟩) (by assumption) ?_
          rotate_left
          · (intro wS hSw; (try dsimp only at hSw); (go_simp); (all_goals (with_reducible rfl)))
          try go_frame
          refine tk_6 (v := ?_) (by kernel_rfl) (by kernel_rfl) (by kernel_rfl) (by kernel_rfl) (fun _ _ _ h => h) (Or.inl ⟨by kernel_rfl, ?_⟩) (by assumption) ?_
          rotate_left
          · (intro wS hSw; (try dsimp only at hSw); (obtain ⟨q0, q1, q2, q3, q4, q5⟩ := hSw; go_simp); (all_goals (with_reducible rfl)))
          try go_frame
          refine tk_9 (v := ?_) (by kernel_rfl) (by kernel_rfl) (by kernel_rfl) (by kernel_rfl) (fun _ _ _ h => h) (Or.inl ⟨by kernel_rfl, ?_⟩) (by assumption) ?_
          rotate_left
          · (intro wS hSw; (try dsimp only at hSw); (go_simp); (all_goals (with_reducible rfl)))
          try go_frame
          refine tk_10 (v := ?_) (by kernel_rfl) (by kernel_rfl) (by kernel_rfl) (by kernel_rfl) (fun _ _ _ h => h) (Or.inl ⟨by kernel_rfl, ?_⟩) (by assumption) ?_
          rotate_left
          · (intro wS hSw; (try dsimp only at hSw); (obtain ⟨q0, q1, q2, q3, q4, q5⟩ := hSw; go_simp); (all_goals (with_reducible rfl)))
          try go_frame
          refine tk_14 (v := ?_) (by kernel_rfl) (by kernel_rfl) (by kernel_rfl) (by kernel_rfl) (fun _ _ _ h => h) (Or.inl ⟨by kernel_rfl, ?_⟩) (by assumption) ?_
          rotate_left
          · (intro wS hSw; (try dsimp only at hSw); (go_simp); (all_goals (with_reducible rfl)))
          try go_frame
          refine tk_15 (v := ?_) (by kernel_rfl) (by kernel_rfl) (by kernel_rfl) (by kernel_rfl) (fun _ _ _ h => h) (Or.inl ⟨by kernel_rfl, ?_⟩) (by assumption) ?_
          rotate_left
          · (intro wS hSw; (try dsimp only at hSw); (obtain ⟨q0, q1, q2, q3, q4, q5⟩ := hSw; go_simp); (all_goals (with_reducible rfl)))
          try go_frame
          refine tk_16 (v := ?_) (by kernel_rfl) (by kernel_rfl) (by kernel_rfl) (by kernel_rfl) (fun _ _ _ h => h) (Or.inl ⟨by kernel_rfl, ?_⟩) (by assumption) ?_
          rotate_left
          · (intro wS hSw; (try dsimp only at hSw); (go_simp); (all_goals (with_reducible rfl)))
          try go_frame
          refine tk_17 (v := ?_) (by kernel_rfl) (by kernel_rfl) (by kernel_rfl) (by kernel_rfl) (fun _ _ _ h => h) (Or.inl ⟨by kernel_rfl, ?_⟩) (by assumption) ?_
          rotate_left
          · (intro wS hSw; (try dsimp only at hSw); (obtain ⟨q0, q1, q2, q3, q4, q5⟩ := hSw; go_simp); (all_goals (with_reducible rfl)))
          try go_frame
          refine tk_18 (v := ?_) (by kernel_rfl) (by kernel_rfl) (by kernel_rfl) (by kernel_rfl) (fun _ _ _ h => h) (Or.inl ⟨by kernel_rfl, ?_⟩) (by assumption) ?_
          rotate_left
          · (intro wS hSw; (try dsimp only at hSw); (go_simp); (all_goals (with_reducible rfl)))
          try go_frame
          refine tk_19 (v := ?_) (by kernel_rfl) (by kernel_rfl) (by kernel_rfl) (by kernel_rfl) (fun _ _ _ h => h) (Or.inl ⟨by kernel_rfl, ?_⟩) (by assumption) ?_
          rotate_left
          · (intro wS hSw; (try dsimp only at hSw); (go_simp); (all_goals (with_reducible rfl)))
          try go_frame
          refine tk_20 (v := ?_) (by kernel_rfl) (by kernel_rfl) (by kernel_rfl) (by kernel_rfl) (fun _ _ _ h => h) (Or.inl ⟨by kernel_rfl, ?_⟩) (by assumption) ?_
          rotate_left
          · (intro wS hSw; (try dsimp only at hSw); (obtain ⟨q0, q1, q2, q3, q4, q5⟩ := hSw; go_simp); (all_goals (with_reducible rfl)))
          try go_frame
          refine tk_21 (v := ?_) (by kernel_rfl) (by kernel_rfl) (by kernel_rfl) (by kernel_rfl) (fun _ _ _ h => h) (Or.inl ⟨by kernel_rfl, ?_⟩) (by assumption) ?_
          rotate_left
          · (intro wS hSw; (try dsimp only at hSw); (go_simp); (all_goals (with_reducible rfl)))
          try go_frame
          refine tk_22 (v := ?_) (by kernel_rfl) (by kernel_rfl) (by kernel_rfl) (by kernel_rfl) (fun _ _ _ h => h) (Or.inl ⟨by kernel_rfl, ?_⟩) (by assumption) ?_
          rotate_left
          · (intro wS hSw; (try dsimp only at hSw); (go_simp); (all_goals (with_reducible rfl)))
          try go_frame
          refine tk_23 (v := ?_) (by kernel_rfl) (by kernel_rfl) (by kernel_rfl) (by kernel_rfl) (fun _ _ _ h => h) (Or.inl ⟨by kernel_rfl, ?_⟩) (by assumption) ?_
          rotate_left
          · (intro wS hSw; (try dsimp only at hSw); (obtain ⟨q0, q1, q2, q3, q4, q5⟩ := hSw; go_simp); (all_goals (with_reducible rfl)))
          try go_frame
          refine tk_24 (v := ?_) (by kernel_rfl) (by kernel_rfl) (by kernel_rfl) (by kernel_rfl) (fun _ _ _ h => h) (Or.inl ⟨by kernel_rfl, ?_⟩) (by assumption) ?_
          rotate_left
          · (intro wS hSw; (try dsimp only at hSw); (go_simp); (all_goals (with_reducible rfl)))
          try go_frame
          refine tk_25 (v := ?_) (by kernel_rfl) (by kernel_rfl) (by kernel_rfl) (by kernel_rfl) (fun _ _ _ h => h) (Or.inl ⟨by kernel_rfl, ?_⟩) (by assumption) ?_
          rotate_left
          · (intro wS hSw; (try dsimp only at hSw); (go_simp); (all_goals (with_reducible rfl)))
          try go_frame
          refine tk_27 (v := ?_) (by kernel_rfl) (by kernel_rfl) (by kernel_rfl) (by kernel_rfl) (fun _ _ _ h => h) (Or.inl ⟨by kernel_rfl, ?_⟩) (by assumption) ?_
          rotate_left
          · (intro wS hSw; (try dsimp only at hSw); (go_simp); (all_goals (with_reducible rfl)))
          try go_frame
          refine tk_28 (v := ?_) (by kernel_rfl) (by kernel_rfl) (by kernel_rfl) (by kernel_rfl) (fun _ _ _ h => h) (Or.inl ⟨by kernel_rfl, ?_⟩) (by assumption) ?_
          rotate_left
          · (intro wS hSw; (try dsimp only at hSw); (go_simp); (all_goals (with_reducible rfl)))
          try go_frame
          refine tk_29 (v := ?_) (by kernel_rfl) (by kernel_rfl) (by kernel_rfl) (by kernel_rfl) (fun _ _ _ h => h) (Or.inl ⟨by kernel_rfl, ?_⟩) (by assumption) ?_
          rotate_left
          · (intro wS hSw; (try dsimp only at hSw); (obtain ⟨q0, q1, q2, q3, q4, q5⟩ := hSw; go_simp); (all_goals (with_reducible rfl)))
          try go_frame
          refine tk_31 (v := ?_) (by kernel_rfl) (by kernel_rfl) (by kernel_rfl) (by kernel_rfl) (fun _ _ _ h => h) (Or.inl ⟨by kernel_rfl, ?_⟩) (by assumption) ?_
          rotate_left
          · (intro wS hSw; (try dsimp only at hSw); (go_simp); (all_goals (with_reducible rfl)))
          try go_frame
          refine tk_32 (v := ?_) (by kernel_rfl) (by kernel_rfl) (by kernel_rfl) (by kernel_rfl) (fun _ _ _ h => h) (Or.inl ⟨by kernel_rfl, ?_⟩) (by assumption) ?_
          rotate_left
          · (intro wS hSw; (try dsimp only at hSw); (go_simp); (all_goals (with_reducible rfl)))
          try go_frame
          refine tk_33 (v := ?_) (by kernel_rfl) (by kernel_rfl) (by kernel_rfl) (by kernel_rfl) (fun _ _ _ h => h) (Or.inl ⟨by kernel_rfl, ?_⟩) (by assumption) ?_
          rotate_left
          · (intro wS hSw; (try dsimp only at hSw); (obtain ⟨q0, q1, q2, q3, q4, q5⟩ := hSw; go_simp); (all_goals (with_reducible rfl)))
          try go_frame
          refine dn_4 (by kernel_rfl) (fun K hK => ?_)
          rw [if_pos (by kernel_rfl)]
          go_simp; go_at_call 46; with_reducible refine (ref_rotr te 6 _ 6 rfl rfl (by decide) (by decide) _).mono ?_; rintro e w' ⟨rfl, rfl⟩; go_simp
          refine hK.out _ _ (fun _ => by (try dsimp only); exact hHeld) (fun hHeld => ?_)
          replace hHeld := hHeld rfl
          clear hK K
          try go_frame
          refine dn_7 (by kernel_rfl) (fun K hK => ?_)
          rw [if_pos (by kernel_rfl)]
          go_simp; go_at_call 46; with_reducible refine (ref_rotr te 11 _ 11 rfl rfl (by decide) (by decide) _).mono ?_; rintro e w' ⟨rfl, rfl⟩; go_simp
          refine hK.out _ _ (fun _ => by (try dsimp only); exact hHeld) (fun hHeld => ?_)
          replace hHeld := hHeld rfl
          clear hK K
          try go_frame
          refine tk_8 (v := ?_) (by kernel_rfl) (by kernel_rfl) (by kernel_rfl) (by kernel_rfl) (fun _ _ _ h => h) (Or.inl ⟨by kernel_rfl, ?_⟩) (by assumption) ?_
          rotate_left
          · (intro wS hSw; (try dsimp only at hSw); (go_simp); (all_goals (with_reducible rfl)))
          try go_frame
          refine dn_11 (by kernel_rfl) (fun K hK => ?_)
          rw [if_pos (by kernel_rfl)]
          go_simp; go_at_call 46; with_reducible refine (ref_rotr te 25 _ 25 rfl rfl (by decide) (by decide) _).mono ?_; rintro e w' ⟨rfl, rfl⟩; go_simp
          refine hK.out _ _ (fun _ => by (try dsimp only); exact hHeld) (fun hHeld => ?_)
          replace hHeld := hHeld rfl
          clear hK K
          try go_frame
          refine tk_12 (v := ?_) (by kernel_rfl) (by kernel_rfl) (by kernel_rfl) (by kernel_rfl) (fun _ _ _ h => h) (Or.inl ⟨by kernel_rfl, ?_⟩) (by assumption) ?_
          rotate_left
          · (intro wS hSw; (try dsimp only at hSw); (go_simp); (all_goals (with_reducible rfl)))
          try go_frame
          refine tk_13 (v := ?_) (by kernel_rfl) (by kernel_rfl) (by kernel_rfl) (by kernel_rfl) (fun _ _ _ h => h) (Or.inl ⟨by kernel_rfl, ?_⟩) (by assumption) ?_
          rotate_left
          · (intro wS hSw; (try dsimp only at hSw); (go_simp); (all_goals (with_reducible rfl)))
          try go_frame
          refine tk_26 (v := ?_) (by kernel_rfl) (by kernel_rfl) (by kernel_rfl) (by kernel_rfl) (fun _ _ _ h => h) (Or.inl ⟨by kernel_rfl, ?_⟩) (by assumption) ?_
          rotate_left
          · (intro wS hSw; (try dsimp only at hSw); (go_simp); (all_goals (with_reducible rfl)))
          try go_frame
          refine tk_30 (v := ?_) (by kernel_rfl) (by kernel_rfl) (by kernel_rfl) (by kernel_rfl) (fun _ _ _ h => h) (Or.inl ⟨by kernel_rfl, ?_⟩) (by assumption) ?_
          rotate_left
          · (intro wS hSw; (try dsimp only at hSw); (go_simp); (all_goals (with_reducible rfl)))
          try go_frame
          refine tk_34 (v := ?_) (by kernel_rfl) (by kernel_rfl) (by kernel_rfl) (by kernel_rfl) (fun _ _ _ h => h) (Or.inl ⟨by kernel_rfl, ?_⟩) (by assumption) ?_
          rotate_left
          · (intro wS hSw; (try dsimp only at hSw); (go_simp); (all_goals (with_reducible rfl)))
          try go_frame
          refine tk_35 (v := ?_) (by kernel_rfl) (by kernel_rfl) (by kernel_rfl) (by kernel_rfl) (fun _ _ _ h => h) (Or.inl ⟨by kernel_rfl, ?_⟩) (by assumption) ?_
          rotate_left
          · (intro wS hSw; (try dsimp only at hSw); (go_simp); (all_goals (with_reducible rfl)))
          try go_frame
          refine wpAnyT_done (by kernel_rfl) ?_ _
          refine NoPanic.normal ?_
          rw [x_val2]
          generalize hxx : (th + Sha.mix te 6 11 25 + ((te &&& tf) ^^^ ((~~~ te) &&& tg)) + kk + wk) = xx at *
          have HX := Lib.hid hxx
          clear hxx hHeld hwk hkw
          go_wp2_with fail
          refine wp_region_lasts (fun w' => w'.cell? ⟨g6 + 1, 0, none⟩ = some (wv ta) ∧ w'.cell? ⟨g6 + 1, 1, none⟩ = some (wv tb) ∧ w'.cell? ⟨g6 + 1, 2, none⟩ = some (wv tc)) (fun _ => false) (by kernel_rfl) ⟨v0, v1, v2⟩ (fun hHeld => ?_)
          refine tk_0 (v := ?_) (by kernel_rfl) (by kernel_rfl) (by kernel_rfl) (by kernel_rfl) (fun _ _ _ h => h) (Or.inl ⟨by kernel_rfl, ?_⟩) (by assumption) ?_
          rotate_left
          · (intro wS hSw; (try dsimp only at hSw); (go_simp); (all_goals (with_reducible rfl)))
          try go_frame
          refine tk_1 (v := ?_) (by kernel_rfl) (by kernel_rfl) (by kernel_rfl) (by kernel_rfl) (fun _ _ _ h => h) (Or.inl ⟨by kernel_rfl, ?_⟩) (by assumption) ?_
          rotate_left
          · (intro wS hSw; (try dsimp only at hSw); (obtain ⟨q0, q1, q2⟩ := hSw; go_simp); (all_goals (with_reducible rfl)))
          try go_frame
          refine tk_3 (v := ?_) (by kernel_rfl) (by kernel_rfl) (by kernel_rfl) (by kernel_rfl) (fun _ _ _ h => h) (Or.inl ⟨by kernel_rfl, ?_⟩) (by assumption) ?_
          rotate_left
          · (intro wS hSw; (try dsimp only at hSw); (go_simp); (all_goals (with_reducible rfl)))
          try go_frame
          refine tk_4 (v := ?_) (by kernel_rfl) (by kernel_rfl) (by kernel_rfl) (by kernel_rfl) (fun _ _ _ h => h) (Or.inl ⟨by kernel_rfl, ?_⟩) (by assumption) ?_
          rotate_left
          · (intro wS hSw; (try dsimp only at hSw); (obtain ⟨q0, q1, q2⟩ := hSw; go_simp); (all_goals (with_reducible rfl)))
          try go_frame
          refine tk_7 (v := ?_) (by kernel_rfl) (by kernel_rfl) (by kernel_rfl) (by kernel_rfl) (fun _ _ _ h => h) (Or.inl ⟨by kernel_rfl, ?_⟩) (by assumption) ?_
          rotate_left
          · (intro wS hSw; (try dsimp only at hSw); (go_simp); (all_goals (with_reducible rfl)))
          try go_frame
          refine tk_8 (v := ?_) (by kernel_rfl) (by kernel_rfl) (by kernel_rfl) (by kernel_rfl) (fun _ _ _ h => h) (Or.inl ⟨by kernel_rfl, ?_⟩) (by assumption) ?_
          rotate_left
          · (intro wS hSw; (try dsimp only at hSw); (obtain ⟨q0, q1, q2⟩ := hSw; go_simp); (all_goals (with_reducible rfl)))
          try go_frame
          refine tk_11 (v := ?_) (by kernel_rfl) (by kernel_rfl) (by kernel_rfl) (by kernel_rfl) (fun _ _ _ h => h) (Or.inl ⟨by kernel_rfl, ?_⟩) (by assumption) ?_
          rotate_left
          · (intro wS hSw; (try dsimp only at hSw); (go_simp); (all_goals (with_reducible rfl)))
          try go_frame
          refine tk_12 (v := ?_) (by kernel_rfl) (by kernel_rfl) (by kernel_rfl) (by kernel_rfl) (fun _ _ _ h => h) (Or.inl ⟨by kernel_rfl, ?_⟩) (by assumption) ?_
          rotate_left
          · (intro wS hSw; (try dsimp only at hSw); (obtain ⟨q0, q1, q2⟩ := hSw; go_simp); (all_goals (with_reducible rfl)))
          try go_frame
          refine tk_13 (v := ?_) (by kernel_rfl) (by kernel_rfl) (by kernel_rfl) (by kernel_rfl) (fun _ _ _ h => h) (Or.inl ⟨by kernel_rfl, ?_⟩) (by assumption) ?_
          rotate_left
          · (intro wS hSw; (try dsimp only at hSw); (go_simp); (all_goals (with_reducible rfl)))
          try go_frame
          refine tk_14 (v := ?_) (by kernel_rfl) (by kernel_rfl) (by kernel_rfl) (by kernel_rfl) (fun _ _ _ h => h) (Or.inl ⟨by kernel_rfl, ?_⟩) (by assumption) ?_
          rotate_left
          · (intro wS hSw; (try dsimp only at hSw); (obtain ⟨q0, q1, q2⟩ := hSw; go_simp); (all_goals (with_reducible rfl)))
          try go_frame
          refine tk_15 (v := ?_) (by kernel_rfl) (by kernel_rfl) (by kernel_rfl) (by kernel_rfl) (fun _ _ _ h => h) (Or.inl ⟨by kernel_rfl, ?_⟩) (by assumption) ?_
          rotate_left
          · (intro wS hSw; (try dsimp only at hSw); (go_simp); (all_goals (with_reducible rfl)))
          try go_frame
          refine tk_16 (v := ?_) (by kernel_rfl) (by kernel_rfl) (by kernel_rfl) (by kernel_rfl) (fun _ _ _ h => h) (Or.inl ⟨by kernel_rfl, ?_⟩) (by assumption) ?_
          rotate_left
          · (intro wS hSw; (try dsimp only at hSw); (go_simp); (all_goals (with_reducible rfl)))
          try go_frame
          refine tk_17 (v := ?_) (by kernel_rfl) (by kernel_rfl) (by kernel_rfl) (by kernel_rfl) (fun _ _ _ h => h) (Or.inl ⟨by kernel_rfl, ?_⟩) (by assumption) ?_
          rotate_left
          · (intro wS hSw; (try dsimp only at hSw); (obtain ⟨q0, q1, q2⟩ := hSw; go_simp); (all_goals (with_reducible rfl)))
          try go_frame
          refine tk_18 (v := ?_) (by kernel_rfl) (by kernel_rfl) (by kernel_rfl) (by kernel_rfl) (fun _ _ _ h => h) (Or.inl ⟨by kernel_rfl, ?_⟩) (by assumption) ?_
          rotate_left
          · (intro wS hSw; (try dsimp only at hSw); (go_simp); (all_goals (with_reducible rfl)))
          try go_frame
          refine tk_19 (v := ?_) (by kernel_rfl) (by kernel_rfl) (by kernel_rfl) (by kernel_rfl) (fun _ _ _ h => h) (Or.inl ⟨by kernel_rfl, ?_⟩) (by assumption) ?_
          rotate_left
          · (intro wS hSw; (try dsimp only at hSw); (obtain ⟨q0, q1, q2⟩ := hSw; go_simp); (all_goals (with_reducible rfl)))
          try go_frame
          refine tk_20 (v := ?_) (by kernel_rfl) (by kernel_rfl) (by kernel_rfl) (by kernel_rfl) (fun _ _ _ h => h) (Or.inl ⟨by kernel_rfl, ?_⟩) (by assumption) ?_
          rotate_left
          · (intro wS hSw; (try dsimp only at hSw); (go_simp); (all_goals (with_reducible rfl)))
          try go_frame
          refine tk_21 (v := ?_) (by kernel_rfl) (by kernel_rfl) (by kernel_rfl) (by kernel_rfl) (fun _ _ _ h => h) (Or.inl ⟨by kernel_rfl, ?_⟩) (by assumption) ?_
          rotate_left
          · (intro wS hSw; (try dsimp only at hSw); (go_simp); (all_goals (with_reducible rfl)))
          try go_frame
          refine tk_22 (v := ?_) (by kernel_rfl) (by kernel_rfl) (by kernel_rfl) (by kernel_rfl) (fun _ _ _ h => h) (Or.inl ⟨by kernel_rfl, ?_⟩) (by assumption) ?_
          rotate_left
          · (intro wS hSw; (try dsimp only at hSw); (go_simp); (all_goals (with_reducible rfl)))
          try go_frame
          refine tk_23 (v := ?_) (by kernel_rfl) (by kernel_rfl) (by kernel_rfl) (by kernel_rfl) (fun _ _ _ h => h) (Or.inl ⟨by kernel_rfl, ?_⟩) (by assumption) ?_
          rotate_left
          · (intro wS hSw; (try dsimp only at hSw); (obtain ⟨q0, q1, q2⟩ := hSw; go_simp); (all_goals (with_reducible rfl)))
          try go_frame
          refine tk_24 (v := ?_) (by kernel_rfl) (by kernel_rfl) (by kernel_rfl) (by kernel_rfl) (fun _ _ _ h => h) (Or.inl ⟨by kernel_rfl, ?_⟩) (by assumption) ?_
          rotate_left
          · (intro wS hSw; (try dsimp only at hSw); (go_simp); (all_goals (with_reducible rfl)))
          try go_frame
          refine tk_25 (v := ?_) (by kernel_rfl) (by kernel_rfl) (by kernel_rfl) (by kernel_rfl) (fun _ _ _ h => h) (Or.inl ⟨by kernel_rfl, ?_⟩) (by assumption) ?_
          rotate_left
          · (intro wS hSw; (try dsimp only at hSw); (obtain ⟨q0, q1, q2⟩ := hSw; go_simp); (all_goals (with_reducible rfl)))
          try go_frame
          refine tk_26 (v := ?_) (by kernel_rfl) (by kernel_rfl) (by kernel_rfl) (by kernel_rfl) (fun _ _ _ h => h) (Or.inl ⟨by kernel_rfl, ?_⟩) (by assumption) ?_
          rotate_left
          · (intro wS hSw; (try dsimp only at hSw); (go_simp); (all_goals (with_reducible rfl)))
          try go_frame
          refine tk_27 (v := ?_) (by kernel_rfl) (by kernel_rfl) (by kernel_rfl) (by kernel_rfl) (fun _ _ _ h => h) (Or.inl ⟨by kernel_rfl, ?_⟩) (by assumption) ?_
          rotate_left
          · (intro wS hSw; (try dsimp only at hSw); (go_simp); (all_goals (with_reducible rfl)))
          try go_frame
          refine dn_2 (by kernel_rfl) (fun K hK => ?_)
          rw [if_pos (by kernel_rfl)]
          go_simp; go_at_call 46; with_reducible refine (ref_rotr ta 2 _ 2 rfl rfl (by decide) (by decide) _).mono ?_; rintro e w' ⟨rfl, rfl⟩; go_simp
          refine hK.out _ _ (fun _ => by (try dsimp only); exact hHeld) (fun hHeld => ?_)
          replace hHeld := hHeld rfl
          clear hK K
          try go_frame
          refine dn_5 (by kernel_rfl) (fun K hK => ?_)
          rw [if_pos (by kernel_rfl)]
          go_simp; go_at_call 46; with_reducible refine (ref_rotr ta 13 _ 13 rfl rfl (by decide) (by decide) _).mono ?_; rintro e w' ⟨rfl, rfl⟩; go_simp
          refine hK.out _ _ (fun _ => by (try dsimp only); exact hHeld) (fun hHeld => ?_)
          replace hHeld := hHeld rfl
          clear hK K
          try go_frame
          refine tk_6 (v := ?_) (by kernel_rfl) (by kernel_rfl) (by kernel_rfl) (by kernel_rfl) (fun _ _ _ h => h) (Or.inl ⟨by kernel_rfl, ?_⟩) (by assumption) ?_
          rotate_left
          · (intro wS hSw; (try dsimp only at hSw); (go_simp); (all_goals (with_reducible rfl)))
          try go_frame
          refine dn_9 (by kernel_rfl) (fun K hK => ?_)
          rw [if_pos (by kernel_rfl)]
          go_simp; go_at_call 46; with_reducible refine (ref_rotr ta 22 _ 22 rfl rfl (by decide) (by decide) _).mono ?_; rintro e w' ⟨rfl, rfl⟩; go_simp
          refine hK.out _ _ (fun _ => by (try dsimp only); exact hHeld) (fun hHeld => ?_)
          replace hHeld := hHeld rfl
          clear hK K
          try go_frame
          refine tk_10 (v := ?_) (by kernel_rfl) (by kernel_rfl) (by kernel_rfl) (by kernel_rfl) (fun _ _ _ h => h) (Or.inl ⟨by kernel_rfl, ?_⟩) (by assumption) ?_
          rotate_left
          · (intro wS hSw; (try dsimp only at hSw); (go_simp); (all_goals (with_reducible rfl)))
          try go_frame
          refine tk_28 (v := ?_) (by kernel_rfl) (by kernel_rfl) (by kernel_rfl) (by kernel_rfl) (fun _ _ _ h => h) (Or.inl ⟨by kernel_rfl, ?_⟩) (by assumption) ?_
          rotate_left
          · (intro wS hSw; (try dsimp only at hSw); (go_simp); (all_goals (with_reducible rfl)))
          try go_frame
          refine tk_29 (v := ?_) (by kernel_rfl) (by kernel_rfl) (by kernel_rfl) (by kernel_rfl) (fun _ _ _ h => h) (Or.inl ⟨by kernel_rfl, ?_⟩) (by assumption) ?_
          rotate_left
          · (intro wS hSw; (try dsimp only at hSw); (go_simp); (all_goals (with_reducible rfl)))
          try go_frame
          refine wpAnyT_done (by kernel_rfl) ?_ _
          refine NoPanic.normal ?_
          rw [y_val2]
          generalize hyy : (Sha.mix ta 2 13 22 + ((ta &&& tb) ^^^ (ta &&& tc) ^^^ (tb &&& tc))) = yy at *
          have HY := Lib.hid hyy
          clear hyy hHeld
          have H8 : ∃ wd, wr.drew.drew.drew.drew.drew.drew.drew.drew = wd ∧ wd.rowIs w.heap.size 47 32 (fun _ => bv 0) ∧ wd.rowIs (w.heap.size + 1) 50 8 (Sha.stF s) ∧ wd.ownsRow (w.heap.size + 2) 5 1 (.slice (some ⟨g4, 0, none⟩) P.length c4) P.length (P.map bv) ∧
              wd.rowIs g6 73 64 (fun i => wv (Sha.wAt blk i)) ∧ wd.rowIs (g6 + 1) 50 8 (Sha.stF ⟨ta, tb, tc, td, te, tf, tg, th⟩) ∧ Below w.heap.size w wd ∧ wd.cell? ⟨g6 + 1, 0, none⟩ = some (wv ta) ∧ wd.cell? ⟨g6 + 1, 1, none⟩ = some (wv tb) ∧ wd.cell? ⟨g6 + 1, 2, none⟩ = some (wv tc) ∧ wd.cell? ⟨g6 + 1, 3, none⟩ = some (wv td) ∧
              wd.cell? ⟨g6 + 1, 4, none⟩ = some (wv te) ∧ wd.cell? ⟨g6 + 1, 5, none⟩ = some (wv tf) ∧ wd.cell? ⟨g6 + 1, 6, none⟩ = some (wv tg) := ⟨_, rfl, hr, hs, hown, hW, hV, hB.drew.drew.drew.drew.drew.drew.drew.drew, v0, v1, v2, v3, v4, v5, v6⟩
          clear hr hs hown hW hV hB v0 v1 v2 v3 v4 v5 v6 v7
          obtain ⟨wd, hwd, hr, hs, hown, hW, hV, hB, v0, v1, v2, v3, v4, v5, v6⟩ := H8
          rw [hwd]
          clear hwd
          have hnew : Sha.rounds blk s (k + 1) = ⟨xx + yy, ta, tb, tc, td + xx, te, tf, tg⟩ := by rw [HRD.out, ← HX.out, ← HY.out]; rfl
          have HN := Lib.hid hnew
          have hE : Value.agg #[.int .u32 (((xx.toNat : Int) + (yy.toNat : Int)) % 4294967296), wv ta, wv tb, wv tc, .int .u32 (((td.toNat : Int) + (xx.toNat : Int)) % 4294967296), wv te, wv tf, wv tg] = .agg (arr 8 (Sha.stF ⟨xx + yy, ta, tb, tc, td + xx, te, tf, tg⟩)) := by rw [u32_add', u32_add']; rfl
          have hE2 : Value.agg #[.int .u32 (IntKind.u32.wrap ((xx.toNat : Int) + (yy.toNat : Int))), wv ta, wv tb, wv tc, .int .u32 (IntKind.u32.wrap ((td.toNat : Int) + (xx.toNat : Int))), wv te, wv tf, wv tg] = .agg (arr 8 (Sha.stF ⟨xx + yy, ta, tb, tc, td + xx, te, tf, tg⟩)) := by rw [u32_add, u32_add]; rfl
          have HE := Lib.hid hE
          have HE2 := Lib.hid hE2
          clear hnew hE hE2 HRD HRK HX HY
          go_wp2_with (refine wpList_store_arr (o := ⟨none, _, _, _, _, _⟩) (g := Sha.stF ⟨xx + yy, ta, tb, tc, td + xx, te, tf, tg⟩) rfl _ _ _ rfl hV rfl (by first | exact HE.out | exact HE2.out) aggW8 (fun _ _ => rfl) ?_; intro hV2)
          replace hr := row_setRow_other hr (show w.heap.size ≠ g6 + 1 by omega) (arr 8 (Sha.stF ⟨xx + yy, ta, tb, tc, td + xx, te, tf, tg⟩))
          replace hs := row_setRow_other hs (show w.heap.size + 1 ≠ g6 + 1 by omega) (arr 8 (Sha.stF ⟨xx + yy, ta, tb, tc, td + xx, te, tf, tg⟩))
          replace hW := row_setRow_other hW (show g6 ≠ g6 + 1 by omega) (arr 8 (Sha.stF ⟨xx + yy, ta, tb, tc, td + xx, te, tf, tg⟩))
          replace hown := own_setRow_ge hown (show g6 + 1 ≠ g4 by omega) (arr 8 (Sha.stF ⟨xx + yy, ta, tb, tc, td + xx, te, tf, tg⟩))
          replace hB := below_setRow' hB (show w.heap.size ≤ g6 + 1 by omega) (arr 8 (Sha.stF ⟨xx + yy, ta, tb, tc, td + xx, te, tf, tg⟩))
          go_roundw
          case rel =>
            exact ⟨k + 1, by omega, by go_num, hr, hs, hown, hW, by rw [HN.out]; exact hV2, hB⟩
          case measure => go_light; simp [intOf]; omega
        · obtain rfl : k = 64 := by omega
          go_wp2_with fail
          obtain ⟨wo, hwo⟩ : ∃ wo : World, wo = wr := ⟨_, rfl⟩
          have hcp : Sha.compress s blk = s.add (Sha.rounds blk s 64) := rfl
          have HCP := Lib.hid hcp
          clear hcp
          generalize Sha.rounds blk s 64 = t at *
          go_loopw [11] (fun u11 wr => ∃ i : Nat, i ≤ 8 ∧ u11 = .int .i64 i ∧ wr.rowIs w.heap.size 47 32 (fun _ => bv 0) ∧ wr.rowIs (w.heap.size + 1) 50 8 (fun j => if j < i then Sha.stF (s.add t) j else Sha.stF s j) ∧
            wr.ownsRow (w.heap.size + 2) 5 1 (.slice (some ⟨g4, 0, none⟩) P.length c4) P.length (P.map bv) ∧ wr.rowIs (g6 + 1) 50 8 (Sha.stF t) ∧ Below w.heap.size w wr) (fun u11 _ => 8 - (intOf u11).toNat)
          case atStart => exact ⟨0, by omega, rfl, hr, hs, hown, hV, hB⟩
          case round =>
            clear hr hs hown hW hV hB hwo
            clear wo
            obtain ⟨i, hi, rfl, hr, hs, hown, hV, hB⟩ := hrel
            by_cases hi8 : i < 8
            · have c1 := hs.cell (i := i) (by omega)
              have f1 := hs.frozen i
              have c2 := hV.cell (i := i) hi8
              rw [if_neg (by omega)] at c1
              obtain ⟨x, y, ex, ey, exy⟩ := st_add s t i hi8
              rw [ex] at c1
              rw [ey] at c2
              have HXY := Lib.hid exy
              clear ex ey exy
              have i8 : (i : Int) < 8 := by omega
              have i0 : (0 : Int) ≤ (i : Int) := by omega
              go_wp2_with fail
              refine wp_region_lasts (fun w' => w'.cell? ⟨w.heap.size + 1, i, none⟩ = some (wv x) ∧ w'.cell? ⟨g6 + 1, i, none⟩ = some (wv y)) (fun i => i == 9) (by kernel_rfl) ⟨c1, c2⟩ (fun hHeld => ?_)
              refine tk_0 (v := ?_) (by kernel_rfl) (by kernel_rfl) (by kernel_rfl) (by kernel_rfl) (fun _ _ _ h => h) (Or.inl ⟨by kernel_rfl, ?_⟩) (by assumption) ?_
              rotate_left
              · (intro wS hSw; (try dsimp only at hSw); (go_simp); (all_goals (with_reducible rfl)))
              try go_frame
              refine tk_1 (v := ?_) (by kernel_rfl) (by kernel_rfl) (by kernel_rfl) (by kernel_rfl) (fun _ _ _ h => h) (Or.inl ⟨by kernel_rfl, ?_⟩) (by assumption) ?_
              rotate_left
              · (intro wS hSw; (try dsimp only at hSw); (go_simp); (all_goals (with_reducible rfl)))
              try go_frame
              refine tk_2 (v := ?_) (by kernel_rfl) (by kernel_rfl) (by kernel_rfl) (by kernel_rfl) (fun _ _ _ h => h) (Or.inl ⟨by kernel_rfl, ?_⟩) (by assumption) ?_
              rotate_left
              · (intro wS hSw; (try dsimp only at hSw); (go_simp); (all_goals (with_reducible rfl)))
              try go_frame
              refine tk_3 (v := ?_) (by kernel_rfl) (by kernel_rfl) (by kernel_rfl) (by kernel_rfl) (fun _ _ _ h => h) (Or.inl ⟨by kernel_rfl, ?_⟩) (by assumption) ?_
              rotate_left
              · (intro wS hSw; (try dsimp only at hSw); (obtain ⟨q0, q1⟩ := hSw; go_simp); (all_goals (with_reducible rfl)))
              try go_frame
              refine tk_4 (v := ?_) (by kernel_rfl) (by kernel_rfl) (by kernel_rfl) (by kernel_rfl) (fun _ _ _ h => h) (Or.inl ⟨by kernel_rfl, ?_⟩) (by assumption) ?_
              rotate_left
              · (intro wS hSw; (try dsimp only at hSw); (go_simp); (all_goals (with_reducible rfl)))
              try go_frame
              refine tk_5 (v := ?_) (by kernel_rfl) (by kernel_rfl) (by kernel_rfl) (by kernel_rfl) (fun _ _ _ h => h) (Or.inl ⟨by kernel_rfl, ?_⟩) (by assumption) ?_
              rotate_left
              · (intro wS hSw; (try dsimp only at hSw); (go_simp); (all_goals (with_reducible rfl)))
              try go_frame
              refine tk_6 (v := ?_) (by kernel_rfl) (by kernel_rfl) (by kernel_rfl) (by kernel_rfl) (fun _ _ _ h => h) (Or.inl ⟨by kernel_rfl, ?_⟩) (by assumption) ?_
              rotate_left
              · (intro wS hSw; (try dsimp only at hSw); (obtain ⟨q0, q1⟩ := hSw; go_simp); (all_goals (with_reducible rfl)))
              try go_frame
              refine tk_7 (v := ?_) (by kernel_rfl) (by kernel_rfl) (by kernel_rfl) (by kernel_rfl) (fun _ _ _ h => h) (Or.inl ⟨by kernel_rfl, ?_⟩) (by assumption) ?_
              rotate_left
              · (intro wS hSw; (try dsimp only at hSw); (go_simp); (all_goals (with_reducible rfl)))
              try go_frame
              refine tk_8 (v := ?_) (by kernel_rfl) (by kernel_rfl) (by kernel_rfl) (by kernel_rfl) (fun _ _ _ h => h) (Or.inl ⟨by kernel_rfl, ?_⟩) (by assumption) ?_
              rotate_left
              · (intro wS hSw; (try dsimp only at hSw); (go_simp); (all_goals (with_reducible rfl)))
              try go_frame
              refine dn_9 (by kernel_rfl) (fun K hK => ?_)
              rw [if_pos (by kernel_rfl)]
              go_simp
              refine hK.out _ _ (fun h => by cases h) (fun _ => ?_)
              clear hK K
              try go_frame
              refine wpAnyT_done (by kernel_rfl) ?_ _
              refine NoPanic.normal ?_
              rw [u32_add]
              go_wp2_with fail
              go_roundw
              case rel =>
                have hs3 : ((wr.setCell ⟨w.heap.size + 1, i, none⟩ (wv (x + y))).drew).rowIs (w.heap.size + 1) 50 8 (fun j => if j < i + 1 then Sha.stF (s.add t) j else Sha.stF s j) := ((hs.set i _).congr (fun j _ => by
                  by_cases hji : j = i
                  · subst hji; rw [if_pos rfl, if_pos (by omega), HXY.out]
                  · rw [if_neg hji]
                    by_cases h2 : j < i
                    · rw [if_pos h2, if_pos (by omega)]
                    · rw [if_neg h2, if_neg (by omega)])).drew
                have hr3 := (hr.setOther (a := ⟨w.heap.size + 1, i, none⟩) (show w.heap.size ≠ w.heap.size + 1 by omega) (wv (x + y))).drew
                have hV3 := (hV.setOther (a := ⟨w.heap.size + 1, i, none⟩) (show g6 + 1 ≠ w.heap.size + 1 by omega) (wv (x + y))).drew
                have hown3 := own_setCell hown (p := ⟨w.heap.size + 1, i, none⟩) (show w.heap.size + 1 < w.heap.size + 2 by omega) (wv (x + y))
                have hB3 := (hB.setCell (p := ⟨w.heap.size + 1, i, none⟩) (show w.heap.size ≤ w.heap.size + 1 by omega) (wv (x + y))).drew
                repeat apply Exists.intro
                exact ⟨⟨i + 1, by omega, by go_num, hr3, hs3, hown3, hV3, hB3⟩, rfl⟩
              case measure => go_light; simp [intOf]; omega
            · obtain rfl : i = 8 := by omega
              have hs2 : wr.rowIs (w.heap.size + 1) 50 8 (Sha.stF (Sha.feed (q + 1) Sha.init P)) := by rw [HFL.out, HCP.out]; exact hs.congr (fun j hj => by rw [if_pos hj])
              go_wp2_with fail
              go_roundw
              case rel => exact ⟨q + 1, hq1, by go_num, hr, hs2, hown, hB⟩
              case measure => go_light; simp [intOf]; omega
    · obtain rfl : q = Q := by omega
      have hnl : ¬ (64 * q < P.length) := hlt
      clear hP
      go_wp2_with fail
      generalize Sha.feed q Sha.init P = sf at *
      have hnew := row_new wr (List.replicate 32 (bv 0)).toArray 47 32 (fun j => if j < 0 then bv ((Sha.out sf).getD j 0) else bv 0) rfl (fun i hi => by rw [rep_at 32 i _ hi, if_neg (by omega)])
      have hr7 := hr.alloc (.cells (List.replicate 32 (bv 0)).toArray 47)
      have hs7 := hs.alloc (.cells (List.replicate 32 (bv 0)).toArray 47)
      have hB7 := hB.alloc hB.size (.cells (List.replicate 32 (bv 0)).toArray 47)
      have hz7 : w.heap.size + 1 < wr.heap.size := hs.lt
      generalize wr.heap.size = g12 at *
      go_loopw [13] (fun u13 wi => ∃ i : Nat, i ≤ 32 ∧ u13 = .int .i64 i ∧ wi.rowIs w.heap.size 47 32 (fun _ => bv 0) ∧ wi.rowIs (w.heap.size + 1) 50 8 (Sha.stF sf) ∧
        wi.rowIs g12 47 32 (fun j => if j < i then bv ((Sha.out sf).getD j 0) else bv 0) ∧ Below w.heap.size w wi) (fun u13 _ => 32 - (intOf u13).toNat)
      case atStart => exact ⟨0, by omega, rfl, hr7, hs7, hnew, hB7⟩
      case round =>
        clear hnew hr7 hs7 hB7 hr hs hB hown
        obtain ⟨i, hi, rfl, hr, hs, hnew, hB⟩ := hrel
        by_cases hi32 : i < 32
        · have hc1 := hs.cell (i := i / 4) (by omega)
          have e1 : Sha.stF sf (i / 4) = wv (sf.toList.getD (i / 4) 0#32) := rfl
          rw [e1] at hc1
          have hc2 := hnew.cell (i := i) hi32
          rw [if_neg (by omega)] at hc2
          have hfr := hnew.frozen i
          have hov := Lib.hid (out_val sf i hi32)
          clear e1
          generalize sf.toList.getD (i / 4) 0#32 = x at *
          have hx := x.isLt
          go_wp2_with fail
          rw [hov.out]
          go_roundw
          case rel =>
            refine ⟨i + 1, by omega, by go_num, hr.setOther (show w.heap.size ≠ g12 by omega) _, hs.setOther (show w.heap.size + 1 ≠ g12 by omega) _, (hnew.set i _).congr (fun j _ => ?_), hB.setCell (show w.heap.size ≤ g12 by omega) _⟩
            by_cases hji : j = i
            · subst hji; rw [if_pos rfl, if_pos (by omega)]
            · rw [if_neg hji]
              by_cases h2 : j < i
              · rw [if_pos h2, if_pos (by omega)]
              · rw [if_neg h2, if_neg (by omega)]
          case measure => go_light; simp [intOf]; omega
        · obtain rfl : i = 32 := by omega
          have hn2 : wr.rowIs g12 47 32 (fun j => bv ((Sha.out sf).getD j 0)) := hnew.congr (fun j hj => by rw [if_pos hj])
          go_wp2_with (first | (with_reducible refine wpList_load_arr (o := ⟨some 147, _, _, _, _, _⟩) rfl _ _ rfl hn2 rfl aggSum ?_) | (refine wpList_store_arr (o := ⟨none, _, _, _, _, _⟩) rfl _ _ _ rfl hr rfl rfl aggSum (fun _ _ => rfl) ?_; intro hr2))
          refine bodyPost_arr (p := 2) (by rfl) hr2 (by rfl) aggSum (by rfl) ⟨?_, below_setRow' hB (by omega) _⟩
          rw [HSHA.out]
end Go.Proofs.YtafehbnnoncieaaDoor
