/-
  The hash of 256 bits: a block is compressed. Conditions: none.
-/
import Derived.Test.YtafehbnnoncieaaDoorHashG
import Derived.Deep.DeepCutAuto
import Derived.Laws.Cover3
namespace Go.Proofs.YtafehbnnoncieaaDoor
open Go.RowKit
theorem aggW8 : Agg Tryd.prog 50 8 := ⟨⟨_, Tryd.underlying50, rfl⟩, by kernel_rfl⟩
theorem aggW4 : Agg Tryd.prog 80 4 := ⟨⟨_, Tryd.underlying80, rfl⟩, by kernel_rfl⟩
namespace Sha
def stF (s : St) (i : Nat) : Value := wv (s.toList.getD i 0#32)
def stA (s : St) (i : Nat) : Value := wv ([s.a, s.b, s.c, s.d].getD i 0#32)
def stE (s : St) (i : Nat) : Value := wv ([s.e, s.f, s.g, s.h].getD i 0#32)
end Sha
def stVal (s : Sha.St) : Value := .agg (arr 8 (Sha.stF s))
/-- The constants lie where the program's start has laid them. -/
def Consts (w : World) : Prop := 2 < w.heap.size ∧ ∀ i : Nat, i < 64 → w.cell? ⟨2, i, none⟩ = some (.int .u32 ((Sha.ks.getD i 0 : Nat) : Int))
theorem Consts.below {w w' : World} (h : Consts w) (hb : Below w.heap.size w w') : Consts w' :=
  ⟨Nat.lt_of_lt_of_le h.1 hb.size, fun i hi => (hb.cell (p := ⟨2, i, none⟩) h.1).trans (h.2 i hi)⟩

theorem rowIs_below' {w w' : World} {b : Nat} {t : TypeId} {n : Nat} {f : Nat → Value} (h : w.rowIs b t n f) (hb : Below w.heap.size w w') : w'.rowIs b t n f := h.of_block (hb.block b h.lt)

def kF (i : Nat) : Value := .int .u32 ((Sha.ks.getD i 0 : Nat) : Int)
theorem k_index (k : Nat) (hk : k < 64) (w : World) : (Instr.index 73 (.agg (arr 64 kF)) (.int .i64 (k : Int))).run Tryd.prog w = .ok (kF k) w :=
  run_index_arr (z := .int .u32 0) (bytes := 4) _ _ 64 kF Tryd.underlying73 (info_parts (by kernel_rfl)) Tryd.underlying49 k hk w
theorem stA_at (s : Sha.St) : ∀ i, i < 4 → (#[wv s.a, wv s.b, wv s.c, wv s.d] : Array Value)[i]? = some (Sha.stA s i)
  | 0, _ => rfl
  | 1, _ => rfl
  | 2, _ => rfl
  | 3, _ => rfl
  | n + 4, h => absurd h (by omega)
theorem stE_at (s : Sha.St) : ∀ i, i < 4 → (#[wv s.e, wv s.f, wv s.g, wv s.h] : Array Value)[i]? = some (Sha.stE s i)
  | 0, _ => rfl
  | 1, _ => rfl
  | 2, _ => rfl
  | 3, _ => rfl
  | n + 4, h => absurd h (by omega)

theorem ks_lt : ∀ k : Nat, k < 64 → Sha.ks.getD k 0 < 4294967296 := by decide
theorem kF_wv (k : Nat) (hk : k < 64) : kF k = wv (BitVec.ofNat 32 (Sha.ks.getD k 0)) := by
  unfold kF wv
  rw [BitVec.toNat_ofNat, Nat.mod_eq_of_lt (ks_lt k hk)]
theorem u32_not (x : Sha.W) : bits .xor .u32 (if IntKind.u32.signed = true then -1 else IntKind.u32.max) (x.toNat : Int) = ((~~~ x).toNat : Int) := by
  have h : (if IntKind.u32.signed = true then (-1 : Int) else IntKind.u32.max) = ((BitVec.allOnes 32).toNat : Int) := by decide
  rw [h, u32_xor, BitVec.allOnes_xor]
theorem x_val (te tf tg th kk wk : Sha.W) : IntKind.u32.wrap (IntKind.u32.wrap (IntKind.u32.wrap (IntKind.u32.wrap ((th.toNat : Int) + ((Sha.mix te 6 11 25).toNat : Int)) +
    bits .xor .u32 (bits .and .u32 (te.toNat : Int) (tf.toNat : Int)) (bits .and .u32 (bits .xor .u32 (if IntKind.u32.signed = true then -1 else IntKind.u32.max) (te.toNat : Int)) (tg.toNat : Int))) + (kk.toNat : Int)) + (wk.toNat : Int)) =
    ((th + Sha.mix te 6 11 25 + ((te &&& tf) ^^^ ((~~~ te) &&& tg)) + kk + wk).toNat : Int) := by
  rw [u32_not, u32_and, u32_and, u32_xor, u32_add, u32_add, u32_add, u32_add]
theorem y_val (ta tb tc : Sha.W) : IntKind.u32.wrap (((Sha.mix ta 2 13 22).toNat : Int) + bits .xor .u32 (bits .xor .u32 (bits .and .u32 (ta.toNat : Int) (tb.toNat : Int)) (bits .and .u32 (ta.toNat : Int) (tc.toNat : Int))) (bits .and .u32 (tb.toNat : Int) (tc.toNat : Int))) =
    ((Sha.mix ta 2 13 22 + ((ta &&& tb) ^^^ (ta &&& tc) ^^^ (tb &&& tc))).toNat : Int) := by
  rw [u32_and, u32_and, u32_and, u32_xor, u32_xor, u32_add]
theorem u32_add' (x y : Sha.W) : ((x.toNat : Int) + (y.toNat : Int)) % (4294967296 : Int) = ((x + y).toNat : Int) := by
  rw [← IntKind.wrap_u32]; exact u32_add x y
theorem rowIs_cells4 {w : World} {b : Nat} {t : TypeId} {f : Nat → Value} (h : w.rowIs b t 4 f) : w.cell? ⟨b, 0, none⟩ = some (f 0) ∧ w.cell? ⟨b, 1, none⟩ = some (f 1) ∧ w.cell? ⟨b, 2, none⟩ = some (f 2) ∧ w.cell? ⟨b, 3, none⟩ = some (f 3) :=
  ⟨h.cell (by decide), h.cell (by decide), h.cell (by decide), h.cell (by decide)⟩

namespace Sha
theorem add_lo (s t : St) : ∀ i, i < 4 → (s.add t).toList.getD i 0#32 = s.toList.getD i 0#32 + [t.a, t.b, t.c, t.d].getD i 0#32
  | 0, _ => rfl
  | 1, _ => rfl
  | 2, _ => rfl
  | 3, _ => rfl
  | n + 4, h => absurd h (by omega)
theorem add_hi (s t : St) : ∀ i, i < 4 → (s.add t).toList.getD (i + 4) 0#32 = s.toList.getD (i + 4) 0#32 + [t.e, t.f, t.g, t.h].getD i 0#32
  | 0, _ => rfl
  | 1, _ => rfl
  | 2, _ => rfl
  | 3, _ => rfl
  | n + 4, h => absurd h (by omega)
/-- The state when i words of each half have been added, and e of the second one. -/
def midF (s t : St) (i e : Nat) (j : Nat) : Value := if j < i ∨ (4 ≤ j ∧ j < 4 + e) then stF (s.add t) j else stF s j
theorem midF_0 (s t : St) (j : Nat) : stF s j = midF s t 0 0 j := by unfold midF; rw [if_neg (by omega)]
theorem midF_8 (s t : St) (j : Nat) (h : j < 8) : midF s t 4 4 j = stF (s.add t) j := by unfold midF; rw [if_pos (by omega)]
theorem midF_lo (s t : St) (i j : Nat) (hi : i < 4) : (if j = i then stF (s.add t) i else midF s t i i j) = midF s t (i + 1) i j := by
  unfold midF
  by_cases h : j = i
  · subst h; rw [if_pos rfl, if_pos (by omega)]
  · rw [if_neg h]
    by_cases h2 : j < i ∨ (4 ≤ j ∧ j < 4 + i)
    · rw [if_pos h2, if_pos (by omega)]
    · rw [if_neg h2, if_neg (by omega)]
theorem midF_hi (s t : St) (i j : Nat) (hi : i < 4) : (if j = i + 4 then stF (s.add t) (i + 4) else midF s t (i + 1) i j) = midF s t (i + 1) (i + 1) j := by
  unfold midF
  by_cases h : j = i + 4
  · subst h; rw [if_pos rfl, if_pos (by omega)]
  · rw [if_neg h]
    by_cases h2 : j < i + 1 ∨ (4 ≤ j ∧ j < 4 + i)
    · rw [if_pos h2, if_pos (by omega)]
    · rw [if_neg h2, if_neg (by omega)]
end Sha

set_option maxHeartbeats 4000000 in
set_option maxRecDepth 100000 in
theorem hash_compress (s : Sha.St) (b : List UInt8) (x y : Value) (hx : x = stVal s) (w : World) (hb : b.length = 64) (hl : Sl w y 1 b.length (b.map bv)) (hC : Consts w) :
    Calls Tryd.prog 47 #[x, y] w fun e w' => e = .returned (stVal (Sha.compress s b)) ∧ Below w.heap.size w w' := by
  subst hx
  unfold stVal
  obtain ⟨A, c, rfl, hnc, hcm, hr⟩ := id hl
  have hl2 := Lib.hid hl
  have HB := Lib.hid hb
  clear hb hl hr
  go_enter Tryd.func47, Tryd.ntmps47
  go_wp2_with fail
  refine (hash_schedule b _ _ HB.out ((hl2.out.alloc _).alloc _)).mono ?_
  rintro e w1 ⟨rfl, hb1⟩
  unfold schedVal
  go_wp2_with (with_reducible refine wpList_store_fresh (o := ⟨none, _, _, _, _, _⟩) rfl _ _ _ rfl _ (arr 64 fun i => wv (Sha.wAt b i)) rfl rfl aggW64 rfl (arr_size _ _) (arr_ones (fun _ _ => rfl)) ?_)
  try go_frame
  have hB0 : Below w.heap.size w ((w.alloc (.cells (arr 8 (Sha.stF s)) 50)).alloc (.cells (List.replicate 8 (wv 0#32)).toArray 50)) := ((Below.refl _ _).alloc (Nat.le_refl _) _).alloc (by simp) _
  have hs0 := ((row_alloc w 50 8 (Sha.stF s)).alloc (.cells (List.replicate 8 (wv 0#32)).toArray 50))
  have hr0 := row_new (w.alloc (.cells (arr 8 (Sha.stF s)) 50)) (List.replicate 8 (wv 0#32)).toArray 50 8 (fun _ => wv 0#32) rfl (fun i hi => rep_at 8 i _ hi)
  have hz0 : (w.alloc (.cells (arr 8 (Sha.stF s)) 50)).heap.size = w.heap.size + 1 := by simp
  rw [hz0] at hr0
  have hz1 : w.heap.size + 2 ≤ w1.heap.size := by have := hb1.size; simp at this; omega
  have hs1 := rowIs_below' hs0 hb1
  have hr1 := rowIs_below' hr0 hb1
  have hB1 := bl_on hB0 hb1
  have hW2 := row_alloc w1 73 64 (fun i => wv (Sha.wAt b i))
  have hs2 := hs1.alloc (.cells (arr 64 fun i => wv (Sha.wAt b i)) 73)
  have hr2 := hr1.alloc (.cells (arr 64 fun i => wv (Sha.wAt b i)) 73)
  have hB2 : Below w.heap.size w (w1.alloc (.cells (arr 64 fun i => wv (Sha.wAt b i)) 73)) := hB1.alloc (by omega) _
  have hz2 : (w1.alloc (.cells (arr 64 fun i => wv (Sha.wAt b i)) 73)).heap.size = w1.heap.size + 1 := by simp
  clear hB0 hs0 hr0 hz0 hs1 hr1 hB1 hb1
  generalize w1.alloc (.cells (arr 64 fun i => wv (Sha.wAt b i)) 73) = w2 at *
  have hz3 : w1.heap.size < w2.heap.size := by omega
  clear hz2
  generalize w1.heap.size = g5 at *
  clear w1
  go_cut [6, 7] (fun u6 u7 wc => ∃ g6 g7 : Nat, u6 = .pointer (some ⟨g6, 0, none⟩) ∧ u7 = .pointer (some ⟨g7, 0, none⟩) ∧ g5 < g6 ∧ g5 < g7 ∧ g6 ≠ g7 ∧ wc.rowIs w.heap.size 50 8 (Sha.stF s) ∧ wc.rowIs (w.heap.size + 1) 50 8 (fun _ => wv 0#32) ∧
    wc.rowIs g5 73 64 (fun i => wv (Sha.wAt b i)) ∧ wc.rowIs g6 80 4 (Sha.stA s) ∧ wc.rowIs g7 80 4 (Sha.stE s) ∧ Below w.heap.size w wc)
  case first =>
    refine wp_region_lasts (fun w' => w'.rowIs w.heap.size 50 8 (Sha.stF s)) (fun _ => false) (by kernel_rfl) hs2 (fun hHeld => ?_)
    have harr := fun (W : World) (X : Option Addr) (d : Nat) => run_arrayAt (P := Tryd.prog) W 80 _ 4 X 4 d Tryd.underlying80 (Nat.le_refl _)
    refine tk_0 (v := ?_) (by kernel_rfl) (by kernel_rfl) (by kernel_rfl) (by kernel_rfl) (fun _ _ _ h => h) (Or.inl ⟨by kernel_rfl, ?_⟩) (by assumption) ?_
    rotate_left
    · (intro wS hSw; (try dsimp only at hSw); (go_simp); (all_goals (with_reducible rfl)))
    try go_frame
    refine tk_1 (v := ?_) (by kernel_rfl) (by kernel_rfl) (by kernel_rfl) (by kernel_rfl) (fun _ _ _ h => h) (Or.inl ⟨by kernel_rfl, ?_⟩) (by assumption) ?_
    rotate_left
    · (intro wS hSw; (try dsimp only at hSw); (go_simp); (all_goals (with_reducible rfl)))
    try go_frame
    refine tk_2 (v := ?_) (by kernel_rfl) (by kernel_rfl) (by kernel_rfl) (by kernel_rfl) (fun _ _ _ h => h) (Or.inl ⟨by kernel_rfl, ?_⟩) (by assumption) ?_
    rotate_left
    · (intro wS hSw; (try dsimp only at hSw); (have q0 : wS.cell? ⟨w.heap.size, 0, none⟩ = some (wv s.a) := hSw.cell (i := 0) (by decide); have q1 : wS.cell? ⟨w.heap.size, 1, none⟩ = some (wv s.b) := hSw.cell (i := 1) (by decide); have q2 : wS.cell? ⟨w.heap.size, 2, none⟩ = some (wv s.c) := hSw.cell (i := 2) (by decide); have q3 : wS.cell? ⟨w.heap.size, 3, none⟩ = some (wv s.d) := hSw.cell (i := 3) (by decide); go_simp); (all_goals (with_reducible rfl)))
    try go_frame
    refine tk_3 (v := ?_) (by kernel_rfl) (by kernel_rfl) (by kernel_rfl) (by kernel_rfl) (fun _ _ _ h => h) (Or.inl ⟨by kernel_rfl, ?_⟩) (by assumption) ?_
    rotate_left
    · (intro wS hSw; (try dsimp only at hSw); (go_simp); (all_goals (with_reducible rfl)))
    try go_frame
    refine tk_4 (v := ?_) (by kernel_rfl) (by kernel_rfl) (by kernel_rfl) (by kernel_rfl) (fun _ _ _ h => h) (Or.inl ⟨by kernel_rfl, ?_⟩) (by assumption) ?_
    rotate_left
    · (intro wS hSw; (try dsimp only at hSw); (go_simp); (all_goals (with_reducible rfl)))
    try go_frame
    refine tk_5 (v := ?_) (by kernel_rfl) (by kernel_rfl) (by kernel_rfl) (by kernel_rfl) (fun _ _ _ h => h) (Or.inl ⟨by kernel_rfl, ?_⟩) (by assumption) ?_
    rotate_left
    · (intro wS hSw; (try dsimp only at hSw); (have q4 : wS.cell? ⟨w.heap.size, 4, none⟩ = some (wv s.e) := hSw.cell (i := 4) (by decide); have q5 : wS.cell? ⟨w.heap.size, 5, none⟩ = some (wv s.f) := hSw.cell (i := 5) (by decide); have q6 : wS.cell? ⟨w.heap.size, 6, none⟩ = some (wv s.g) := hSw.cell (i := 6) (by decide); have q7 : wS.cell? ⟨w.heap.size, 7, none⟩ = some (wv s.h) := hSw.cell (i := 7) (by decide); go_simp); (all_goals (with_reducible rfl)))
    try go_frame
    refine dt_6 (by kernel_rfl) (fun K hK => ?_) (fun K hK => ?_)
    · skip
      rw [if_pos (by kernel_rfl)]
      go_simp
      refine hK.out _ _ (fun _ => by (try dsimp only); first | exact hs2.alloc _ | exact (hs2.alloc _).alloc _) (fun hHeld => ?_)
      replace hHeld := hHeld rfl
      clear hK K
      try go_frame
      refine dn_7 (by kernel_rfl) (fun K hK => ?_)
      rw [if_pos (by kernel_rfl)]
      go_simp
      refine hK.out _ _ (fun _ => by (try dsimp only); first | exact hs2.alloc _ | exact (hs2.alloc _).alloc _) (fun hHeld => ?_)
      replace hHeld := hHeld rfl
      clear hK K
      try go_frame
      refine dn_8 (by kernel_rfl) (fun K hK => ?_)
      rw [if_pos (by kernel_rfl)]
      go_simp
      refine hK.out _ _ (fun _ => by (try dsimp only); first | exact hs2.alloc _ | exact (hs2.alloc _).alloc _) (fun hHeld => ?_)
      replace hHeld := hHeld rfl
      clear hK K
      try go_frame
      refine dn_9 (by kernel_rfl) (fun K hK => ?_)
      rw [if_pos (by kernel_rfl)]
      go_simp
      refine hK.out _ _ (fun _ => by (try dsimp only); first | exact hs2.alloc _ | exact (hs2.alloc _).alloc _) (fun hHeld => ?_)
      replace hHeld := hHeld rfl
      clear hK K
      try go_frame
      refine wpAnyT_done (by kernel_rfl) ?_ _
      refine NoPanic.normal ?_
      go_wp2_with fail
      go_meet
      exact ⟨w2.heap.size, w2.heap.size + 1, rfl, rfl, by omega, by omega, by omega, (hs2.alloc _).alloc _, (hr2.alloc _).alloc _, (hW2.alloc _).alloc _, (row_new w2 _ 80 4 (Sha.stA s) rfl (stA_at s)).alloc _,
        by have := row_new (w2.alloc (.cells #[wv s.a, wv s.b, wv s.c, wv s.d] 80)) _ 80 4 (Sha.stE s) rfl (stE_at s); simp only [World.size_alloc] at this; exact this, ((hB2.alloc (by omega) _).alloc (by simp; omega) _).drew⟩
    · skip
      rw [if_pos (by kernel_rfl)]
      go_simp
      refine hK.out _ _ (fun _ => by (try dsimp only); first | exact hs2.alloc _ | exact (hs2.alloc _).alloc _) (fun hHeld => ?_)
      replace hHeld := hHeld rfl
      clear hK K
      try go_frame
      refine dn_6 (by kernel_rfl) (fun K hK => ?_)
      rw [if_pos (by kernel_rfl)]
      go_simp
      refine hK.out _ _ (fun _ => by (try dsimp only); first | exact hs2.alloc _ | exact (hs2.alloc _).alloc _) (fun hHeld => ?_)
      replace hHeld := hHeld rfl
      clear hK K
      try go_frame
      refine dn_8 (by kernel_rfl) (fun K hK => ?_)
      rw [if_pos (by kernel_rfl)]
      go_simp
      refine hK.out _ _ (fun _ => by (try dsimp only); first | exact hs2.alloc _ | exact (hs2.alloc _).alloc _) (fun hHeld => ?_)
      replace hHeld := hHeld rfl
      clear hK K
      try go_frame
      refine dn_9 (by kernel_rfl) (fun K hK => ?_)
      rw [if_pos (by kernel_rfl)]
      go_simp
      refine hK.out _ _ (fun _ => by (try dsimp only); first | exact hs2.alloc _ | exact (hs2.alloc _).alloc _) (fun hHeld => ?_)
      replace hHeld := hHeld rfl
      clear hK K
      try go_frame
      refine wpAnyT_done (by kernel_rfl) ?_ _
      refine NoPanic.normal ?_
      go_wp2_with fail
      go_meet
      exact ⟨w2.heap.size + 1, w2.heap.size, rfl, rfl, by omega, by omega, by omega, (hs2.alloc _).alloc _, (hr2.alloc _).alloc _, (hW2.alloc _).alloc _,
        by have := row_new (w2.alloc (.cells #[wv s.e, wv s.f, wv s.g, wv s.h] 80)) _ 80 4 (Sha.stA s) rfl (stA_at s); simp only [World.size_alloc] at this; exact this,
        (row_new w2 _ 80 4 (Sha.stE s) rfl (stE_at s)).alloc _, ((hB2.alloc (by omega) _).alloc (by simp; omega) _).drew⟩
  case rest =>
    obtain ⟨g6, g7, rfl, rfl, hg6, hg7, hne, hs, hr, hW, hv, he, hB⟩ := hcut
    have hcB : ∀ i, i < 64 → wc.cell? ((⟨2, 0, none⟩ : Addr).add i) = some (kF i) := fun i hi => by
      rw [Addr.add_lit, Nat.zero_add]
      exact (hB.cell (p := ⟨2, i, none⟩) hC.1).trans (hC.2 i hi)
    clear hs2 hr2 hW2 hB2 hz3 hC
    clear w2
    go_wp2_with (with_reducible refine wpList_load_far (o := ⟨some 21, _, _, _, _, _⟩) rfl _ _ rfl hcB rfl aggW64 ?_)
    try go_frame
    clear hcB
    go_loopw [22] (fun u22 wr => ∃ k : Nat, k ≤ 64 ∧ u22 = .int .i64 k ∧ wr.rowIs w.heap.size 50 8 (Sha.stF s) ∧ wr.rowIs (w.heap.size + 1) 50 8 (fun _ => wv 0#32) ∧
      wr.rowIs g5 73 64 (fun i => wv (Sha.wAt b i)) ∧ wr.rowIs g6 80 4 (Sha.stA (Sha.rounds b s k)) ∧ wr.rowIs g7 80 4 (Sha.stE (Sha.rounds b s k)) ∧ Below w.heap.size w wr) (fun u22 _ => 64 - (intOf u22).toNat)
    case atStart => exact ⟨0, by omega, rfl, hs, hr, hW, hv, he, hB⟩
    case round =>
      clear hs hr hW hv he hB
      clear wc
      obtain ⟨k, hk, rfl, hs, hr, hW, hv, he, hB⟩ := hrel
      by_cases hlt : k < 64
      · have hik := k_index k hlt
        have hkw := kF_wv k hlt
        have hwk := hW.cell (i := k) hlt
        have hrd : Sha.rounds b s (k + 1) = Sha.round (Sha.rounds b s k) (BitVec.ofNat 32 (Sha.ks.getD k 0)) (Sha.wAt b k) := rfl
        rw [hkw] at hik
        generalize BitVec.ofNat 32 (Sha.ks.getD k 0) = kk at *
        generalize Sha.wAt b k = wk at *
        generalize hrk : Sha.rounds b s k = t at *
        obtain ⟨ta, tb, tc, td, te, tf, tg, th⟩ := t
        obtain ⟨v0, v1, v2, v3⟩ := rowIs_cells4 hv
        obtain ⟨e0, e1, e2, e3⟩ := rowIs_cells4 he
        replace v0 : wr.cell? ⟨g6, 0, none⟩ = some (wv ta) := v0
        replace v1 : wr.cell? ⟨g6, 1, none⟩ = some (wv tb) := v1
        replace v2 : wr.cell? ⟨g6, 2, none⟩ = some (wv tc) := v2
        replace v3 : wr.cell? ⟨g6, 3, none⟩ = some (wv td) := v3
        replace e0 : wr.cell? ⟨g7, 0, none⟩ = some (wv te) := e0
        replace e1 : wr.cell? ⟨g7, 1, none⟩ = some (wv tf) := e1
        replace e2 : wr.cell? ⟨g7, 2, none⟩ = some (wv tg) := e2
        replace e3 : wr.cell? ⟨g7, 3, none⟩ = some (wv th) := e3
        have HRD := Lib.hid hrd
        have HRK := Lib.hid hrk
        clear hrd hrk hkw
        have k0 : (0 : Int) ≤ (k : Int) := by omega
        have k64 : (k : Int) < 64 := by omega
        go_wp2_with fail
        refine wp_region_lasts (fun w' => w'.cell? ⟨g7, 0, none⟩ = some (wv te) ∧ w'.cell? ⟨g7, 1, none⟩ = some (wv tf) ∧ w'.cell? ⟨g7, 2, none⟩ = some (wv tg) ∧ w'.cell? ⟨g7, 3, none⟩ = some (wv th) ∧ w'.cell? ⟨g5, k, none⟩ = some (wv wk)) (fun _ => false) (by kernel_rfl) ⟨e0, e1, e2, e3, hwk⟩ (fun hHeld => ?_)
        refine tk_0 (v := ?_) (by kernel_rfl) (by kernel_rfl) (by kernel_rfl) (by kernel_rfl) (fun _ _ _ h => h) (Or.inl ⟨by kernel_rfl, ?_⟩) (by assumption) ?_
        rotate_left
        · (intro wS hSw; (try dsimp only at hSw); (go_simp); (all_goals (with_reducible rfl)))
        try go_frame
        refine tk_1 (v := ?_) (by kernel_rfl) (by kernel_rfl) (by kernel_rfl) (by kernel_rfl) (fun _ _ _ h => h) (Or.inl ⟨by kernel_rfl, ?_⟩) (by assumption) ?_
        rotate_left
        · (intro wS hSw; (try dsimp only at hSw); (obtain ⟨q0, q1, q2, q3, q4⟩ := hSw; go_simp); (all_goals (with_reducible rfl)))
        try go_frame
        refine tk_2 (v := ?_) (by kernel_rfl) (by kernel_rfl) (by kernel_rfl) (by kernel_rfl) (fun _ _ _ h => h) (Or.inl ⟨by kernel_rfl, ?_⟩) (by assumption) ?_
        rotate_left
        · (intro wS hSw; (try dsimp only at hSw); (go_simp); (all_goals (with_reducible rfl)))
        try go_frame
        refine tk_3 (v := ?_) (by kernel_rfl) (by kernel_rfl) (by kernel_rfl) (by kernel_rfl) (fun _ _ _ h => h) (Or.inl ⟨by kernel_rfl, ?_⟩) (by assumption) ?_
        rotate_left
        · (intro wS hSw; (try dsimp only at hSw); (obtain ⟨q0, q1, q2, q3, q4⟩ := hSw; go_simp); (all_goals (with_reducible rfl)))
        try go_frame
        refine tk_6 (v := ?_) (by kernel_rfl) (by kernel_rfl) (by kernel_rfl) (by kernel_rfl) (fun _ _ _ h => h) (Or.inl ⟨by kernel_rfl, ?_⟩) (by assumption) ?_
        rotate_left
        · (intro wS hSw; (try dsimp only at hSw); (go_simp); (all_goals (with_reducible rfl)))
        try go_frame
        refine tk_7 (v := ?_) (by kernel_rfl) (by kernel_rfl) (by kernel_rfl) (by kernel_rfl) (fun _ _ _ h => h) (Or.inl ⟨by kernel_rfl, ?_⟩) (by assumption) ?_
        rotate_left
        · (intro wS hSw; (try dsimp only at hSw); (obtain ⟨q0, q1, q2, q3, q4⟩ := hSw; go_simp); (all_goals (with_reducible rfl)))
        try go_frame
        refine tk_8 (v := ?_) (by kernel_rfl) (by kernel_rfl) (by kernel_rfl) (by kernel_rfl) (fun _ _ _ h => h) (Or.inl ⟨by kernel_rfl, ?_⟩) (by assumption) ?_
        rotate_left
        · (intro wS hSw; (try dsimp only at hSw); (go_simp); (all_goals (with_reducible rfl)))
        try go_frame
        refine tk_9 (v := ?_) (by kernel_rfl) (by kernel_rfl) (by kernel_rfl) (by kernel_rfl) (fun _ _ _ h => h) (Or.inl ⟨by kernel_rfl, ?_⟩) (by assumption) ?_
        rotate_left
        · (intro wS hSw; (try dsimp only at hSw); (obtain ⟨q0, q1, q2, q3, q4⟩ := hSw; go_simp); (all_goals (with_reducible rfl)))
        try go_frame
        refine tk_10 (v := ?_) (by kernel_rfl) (by kernel_rfl) (by kernel_rfl) (by kernel_rfl) (fun _ _ _ h => h) (Or.inl ⟨by kernel_rfl, ?_⟩) (by assumption) ?_
        rotate_left
        · (intro wS hSw; (try dsimp only at hSw); (go_simp); (all_goals (with_reducible rfl)))
        try go_frame
        refine tk_11 (v := ?_) (by kernel_rfl) (by kernel_rfl) (by kernel_rfl) (by kernel_rfl) (fun _ _ _ h => h) (Or.inl ⟨by kernel_rfl, ?_⟩) (by assumption) ?_
        rotate_left
        · (intro wS hSw; (try dsimp only at hSw); (go_simp); (all_goals (with_reducible rfl)))
        try go_frame
        refine tk_12 (v := ?_) (by kernel_rfl) (by kernel_rfl) (by kernel_rfl) (by kernel_rfl) (fun _ _ _ h => h) (Or.inl ⟨by kernel_rfl, ?_⟩) (by assumption) ?_
        rotate_left
        · (intro wS hSw; (try dsimp only at hSw); (obtain ⟨q0, q1, q2, q3, q4⟩ := hSw; go_simp); (all_goals (with_reducible rfl)))
        try go_frame
        refine tk_13 (v := ?_) (by kernel_rfl) (by kernel_rfl) (by kernel_rfl) (by kernel_rfl) (fun _ _ _ h => h) (Or.inl ⟨by kernel_rfl, ?_⟩) (by assumption) ?_
        rotate_left
        · (intro wS hSw; (try dsimp only at hSw); (go_simp); (all_goals (with_reducible rfl)))
        try go_frame
        refine tk_14 (v := ?_) (by kernel_rfl) (by kernel_rfl) (by kernel_rfl) (by kernel_rfl) (fun _ _ _ h => h) (Or.inl ⟨by kernel_rfl, ?_⟩) (by assumption) ?_
        rotate_left
        · (intro wS hSw; (try dsimp only at hSw); (go_simp); (all_goals (with_reducible rfl)))
        try go_frame
        refine tk_15 (v := ?_) (by kernel_rfl) (by kernel_rfl) (by kernel_rfl) (by kernel_rfl) (fun _ _ _ h => h) (Or.inl ⟨by kernel_rfl, ?_⟩) (by assumption) ?_
        rotate_left
        · (intro wS hSw; (try dsimp only at hSw); (obtain ⟨q0, q1, q2, q3, q4⟩ := hSw; go_simp); (all_goals (with_reducible rfl)))
        try go_frame
        refine tk_16 (v := ?_) (by kernel_rfl) (by kernel_rfl) (by kernel_rfl) (by kernel_rfl) (fun _ _ _ h => h) (Or.inl ⟨by kernel_rfl, ?_⟩) (by assumption) ?_
        rotate_left
        · (intro wS hSw; (try dsimp only at hSw); (go_simp); (all_goals (with_reducible rfl)))
        try go_frame
        refine tk_17 (v := ?_) (by kernel_rfl) (by kernel_rfl) (by kernel_rfl) (by kernel_rfl) (fun _ _ _ h => h) (Or.inl ⟨by kernel_rfl, ?_⟩) (by assumption) ?_
        rotate_left
        · (intro wS hSw; (try dsimp only at hSw); (go_simp); (all_goals (with_reducible rfl)))
        try go_frame
        refine tk_19 (v := ?_) (by kernel_rfl) (by kernel_rfl) (by kernel_rfl) (by kernel_rfl) (fun _ _ _ h => h) (Or.inl ⟨by kernel_rfl, ?_⟩) (by assumption) ?_
        rotate_left
        · (intro wS hSw; (try dsimp only at hSw); (go_simp); (all_goals (with_reducible rfl)))
        try go_frame
        refine tk_21 (v := ?_) (by kernel_rfl) (by kernel_rfl) (by kernel_rfl) (by kernel_rfl) (fun _ _ _ h => h) (Or.inl ⟨by kernel_rfl, ?_⟩) (by assumption) ?_
        rotate_left
        · (intro wS hSw; (try dsimp only at hSw); (go_simp); (all_goals (with_reducible rfl)))
        try go_frame
        refine tk_22 (v := ?_) (by kernel_rfl) (by kernel_rfl) (by kernel_rfl) (by kernel_rfl) (fun _ _ _ h => h) (Or.inl ⟨by kernel_rfl, ?_⟩) (by assumption) ?_
        rotate_left
        · (intro wS hSw; (try dsimp only at hSw); (go_simp); (all_goals (with_reducible rfl)))
        try go_frame
        refine tk_23 (v := ?_) (by kernel_rfl) (by kernel_rfl) (by kernel_rfl) (by kernel_rfl) (fun _ _ _ h => h) (Or.inl ⟨by kernel_rfl, ?_⟩) (by assumption) ?_
        rotate_left
        · (intro wS hSw; (try dsimp only at hSw); (obtain ⟨q0, q1, q2, q3, q4⟩ := hSw; go_simp); (all_goals (with_reducible rfl)))
        try go_frame
        refine dn_4 (by kernel_rfl) (fun K hK => ?_)
        rw [if_pos (by kernel_rfl)]
        go_simp; go_at_call 52; with_reducible refine (hash_mix te _ 6 11 25 6 11 25 rfl rfl rfl rfl (by decide) (by decide) (by decide) _).mono ?_; rintro e w' ⟨rfl, rfl⟩; go_simp
        refine hK.out _ _ (fun _ => by (try dsimp only); exact hHeld) (fun hHeld => ?_)
        replace hHeld := hHeld rfl
        clear hK K
        try go_frame
        refine tk_5 (v := ?_) (by kernel_rfl) (by kernel_rfl) (by kernel_rfl) (by kernel_rfl) (fun _ _ _ h => h) (Or.inl ⟨by kernel_rfl, ?_⟩) (by assumption) ?_
        rotate_left
        · (intro wS hSw; (try dsimp only at hSw); (go_simp); (all_goals (with_reducible rfl)))
        try go_frame
        refine tk_18 (v := ?_) (by kernel_rfl) (by kernel_rfl) (by kernel_rfl) (by kernel_rfl) (fun _ _ _ h => h) (Or.inl ⟨by kernel_rfl, ?_⟩) (by assumption) ?_
        rotate_left
        · (intro wS hSw; (try dsimp only at hSw); (go_simp); (all_goals (with_reducible rfl)))
        try go_frame
        refine tk_20 (v := ?_) (by kernel_rfl) (by kernel_rfl) (by kernel_rfl) (by kernel_rfl) (fun _ _ _ h => h) (Or.inl ⟨by kernel_rfl, ?_⟩) (by assumption) ?_
        rotate_left
        · (intro wS hSw; (try dsimp only at hSw); (go_simp); (all_goals (with_reducible rfl)))
        try go_frame
        refine tk_24 (v := ?_) (by kernel_rfl) (by kernel_rfl) (by kernel_rfl) (by kernel_rfl) (fun _ _ _ h => h) (Or.inl ⟨by kernel_rfl, ?_⟩) (by assumption) ?_
        rotate_left
        · (intro wS hSw; (try dsimp only at hSw); (go_simp); (all_goals (with_reducible rfl)))
        try go_frame
        refine tk_25 (v := ?_) (by kernel_rfl) (by kernel_rfl) (by kernel_rfl) (by kernel_rfl) (fun _ _ _ h => h) (Or.inl ⟨by kernel_rfl, ?_⟩) (by assumption) ?_
        rotate_left
        · (intro wS hSw; (try dsimp only at hSw); (go_simp); (all_goals (with_reducible rfl)))
        try go_frame
        refine wpAnyT_done (by kernel_rfl) ?_ _
        refine NoPanic.normal ?_
        rw [x_val, show (if IntKind.u32.signed = true then (-1 : Int) else IntKind.u32.max) = 4294967295 from by decide]
        generalize hxx : (th + Sha.mix te 6 11 25 + ((te &&& tf) ^^^ ((~~~ te) &&& tg)) + kk + wk) = xx at *
        have HX := Lib.hid hxx
        clear hxx hHeld hik hwk e0 e1 e2 e3
        go_wp2_with fail
        refine wp_region_lasts (fun w' => w'.cell? ⟨g6, 0, none⟩ = some (wv ta) ∧ w'.cell? ⟨g6, 1, none⟩ = some (wv tb) ∧ w'.cell? ⟨g6, 2, none⟩ = some (wv tc)) (fun _ => false) (by kernel_rfl) ⟨v0, v1, v2⟩ (fun hHeld => ?_)
        refine tk_0 (v := ?_) (by kernel_rfl) (by kernel_rfl) (by kernel_rfl) (by kernel_rfl) (fun _ _ _ h => h) (Or.inl ⟨by kernel_rfl, ?_⟩) (by assumption) ?_
        rotate_left
        · (intro wS hSw; (try dsimp only at hSw); (go_simp); (all_goals (with_reducible rfl)))
        try go_frame
        refine tk_1 (v := ?_) (by kernel_rfl) (by kernel_rfl) (by kernel_rfl) (by kernel_rfl) (fun _ _ _ h => h) (Or.inl ⟨by kernel_rfl, ?_⟩) (by assumption) ?_
        rotate_left
        · (intro wS hSw; (try dsimp only at hSw); (obtain ⟨q0, q1, q2⟩ := hSw; go_simp); (all_goals (with_reducible rfl)))
        try go_frame
        refine tk_3 (v := ?_) (by kernel_rfl) (by kernel_rfl) (by kernel_rfl) (by kernel_rfl) (fun _ _ _ h => h) (Or.inl ⟨by kernel_rfl, ?_⟩) (by assumption) ?_
        rotate_left
        · (intro wS hSw; (try dsimp only at hSw); (go_simp); (all_goals (with_reducible rfl)))
        try go_frame
        refine tk_4 (v := ?_) (by kernel_rfl) (by kernel_rfl) (by kernel_rfl) (by kernel_rfl) (fun _ _ _ h => h) (Or.inl ⟨by kernel_rfl, ?_⟩) (by assumption) ?_
        rotate_left
        · (intro wS hSw; (try dsimp only at hSw); (obtain ⟨q0, q1, q2⟩ := hSw; go_simp); (all_goals (with_reducible rfl)))
        try go_frame
        refine tk_5 (v := ?_) (by kernel_rfl) (by kernel_rfl) (by kernel_rfl) (by kernel_rfl) (fun _ _ _ h => h) (Or.inl ⟨by kernel_rfl, ?_⟩) (by assumption) ?_
        rotate_left
        · (intro wS hSw; (try dsimp only at hSw); (go_simp); (all_goals (with_reducible rfl)))
        try go_frame
        refine tk_6 (v := ?_) (by kernel_rfl) (by kernel_rfl) (by kernel_rfl) (by kernel_rfl) (fun _ _ _ h => h) (Or.inl ⟨by kernel_rfl, ?_⟩) (by assumption) ?_
        rotate_left
        · (intro wS hSw; (try dsimp only at hSw); (obtain ⟨q0, q1, q2⟩ := hSw; go_simp); (all_goals (with_reducible rfl)))
        try go_frame
        refine tk_7 (v := ?_) (by kernel_rfl) (by kernel_rfl) (by kernel_rfl) (by kernel_rfl) (fun _ _ _ h => h) (Or.inl ⟨by kernel_rfl, ?_⟩) (by assumption) ?_
        rotate_left
        · (intro wS hSw; (try dsimp only at hSw); (go_simp); (all_goals (with_reducible rfl)))
        try go_frame
        refine tk_8 (v := ?_) (by kernel_rfl) (by kernel_rfl) (by kernel_rfl) (by kernel_rfl) (fun _ _ _ h => h) (Or.inl ⟨by kernel_rfl, ?_⟩) (by assumption) ?_
        rotate_left
        · (intro wS hSw; (try dsimp only at hSw); (go_simp); (all_goals (with_reducible rfl)))
        try go_frame
        refine tk_9 (v := ?_) (by kernel_rfl) (by kernel_rfl) (by kernel_rfl) (by kernel_rfl) (fun _ _ _ h => h) (Or.inl ⟨by kernel_rfl, ?_⟩) (by assumption) ?_
        rotate_left
        · (intro wS hSw; (try dsimp only at hSw); (obtain ⟨q0, q1, q2⟩ := hSw; go_simp); (all_goals (with_reducible rfl)))
        try go_frame
        refine tk_10 (v := ?_) (by kernel_rfl) (by kernel_rfl) (by kernel_rfl) (by kernel_rfl) (fun _ _ _ h => h) (Or.inl ⟨by kernel_rfl, ?_⟩) (by assumption) ?_
        rotate_left
        · (intro wS hSw; (try dsimp only at hSw); (go_simp); (all_goals (with_reducible rfl)))
        try go_frame
        refine tk_11 (v := ?_) (by kernel_rfl) (by kernel_rfl) (by kernel_rfl) (by kernel_rfl) (fun _ _ _ h => h) (Or.inl ⟨by kernel_rfl, ?_⟩) (by assumption) ?_
        rotate_left
        · (intro wS hSw; (try dsimp only at hSw); (obtain ⟨q0, q1, q2⟩ := hSw; go_simp); (all_goals (with_reducible rfl)))
        try go_frame
        refine tk_12 (v := ?_) (by kernel_rfl) (by kernel_rfl) (by kernel_rfl) (by kernel_rfl) (fun _ _ _ h => h) (Or.inl ⟨by kernel_rfl, ?_⟩) (by assumption) ?_
        rotate_left
        · (intro wS hSw; (try dsimp only at hSw); (go_simp); (all_goals (with_reducible rfl)))
        try go_frame
        refine tk_13 (v := ?_) (by kernel_rfl) (by kernel_rfl) (by kernel_rfl) (by kernel_rfl) (fun _ _ _ h => h) (Or.inl ⟨by kernel_rfl, ?_⟩) (by assumption) ?_
        rotate_left
        · (intro wS hSw; (try dsimp only at hSw); (go_simp); (all_goals (with_reducible rfl)))
        try go_frame
        refine tk_14 (v := ?_) (by kernel_rfl) (by kernel_rfl) (by kernel_rfl) (by kernel_rfl) (fun _ _ _ h => h) (Or.inl ⟨by kernel_rfl, ?_⟩) (by assumption) ?_
        rotate_left
        · (intro wS hSw; (try dsimp only at hSw); (go_simp); (all_goals (with_reducible rfl)))
        try go_frame
        refine tk_15 (v := ?_) (by kernel_rfl) (by kernel_rfl) (by kernel_rfl) (by kernel_rfl) (fun _ _ _ h => h) (Or.inl ⟨by kernel_rfl, ?_⟩) (by assumption) ?_
        rotate_left
        · (intro wS hSw; (try dsimp only at hSw); (obtain ⟨q0, q1, q2⟩ := hSw; go_simp); (all_goals (with_reducible rfl)))
        try go_frame
        refine tk_16 (v := ?_) (by kernel_rfl) (by kernel_rfl) (by kernel_rfl) (by kernel_rfl) (fun _ _ _ h => h) (Or.inl ⟨by kernel_rfl, ?_⟩) (by assumption) ?_
        rotate_left
        · (intro wS hSw; (try dsimp only at hSw); (go_simp); (all_goals (with_reducible rfl)))
        try go_frame
        refine tk_17 (v := ?_) (by kernel_rfl) (by kernel_rfl) (by kernel_rfl) (by kernel_rfl) (fun _ _ _ h => h) (Or.inl ⟨by kernel_rfl, ?_⟩) (by assumption) ?_
        rotate_left
        · (intro wS hSw; (try dsimp only at hSw); (obtain ⟨q0, q1, q2⟩ := hSw; go_simp); (all_goals (with_reducible rfl)))
        try go_frame
        refine tk_18 (v := ?_) (by kernel_rfl) (by kernel_rfl) (by kernel_rfl) (by kernel_rfl) (fun _ _ _ h => h) (Or.inl ⟨by kernel_rfl, ?_⟩) (by assumption) ?_
        rotate_left
        · (intro wS hSw; (try dsimp only at hSw); (go_simp); (all_goals (with_reducible rfl)))
        try go_frame
        refine tk_19 (v := ?_) (by kernel_rfl) (by kernel_rfl) (by kernel_rfl) (by kernel_rfl) (fun _ _ _ h => h) (Or.inl ⟨by kernel_rfl, ?_⟩) (by assumption) ?_
        rotate_left
        · (intro wS hSw; (try dsimp only at hSw); (go_simp); (all_goals (with_reducible rfl)))
        try go_frame
        refine dn_2 (by kernel_rfl) (fun K hK => ?_)
        rw [if_pos (by kernel_rfl)]
        go_simp; go_at_call 52; with_reducible refine (hash_mix ta _ 2 13 22 2 13 22 rfl rfl rfl rfl (by decide) (by decide) (by decide) _).mono ?_; rintro e w' ⟨rfl, rfl⟩; go_simp
        refine hK.out _ _ (fun _ => by (try dsimp only); exact hHeld) (fun hHeld => ?_)
        replace hHeld := hHeld rfl
        clear hK K
        try go_frame
        refine tk_20 (v := ?_) (by kernel_rfl) (by kernel_rfl) (by kernel_rfl) (by kernel_rfl) (fun _ _ _ h => h) (Or.inl ⟨by kernel_rfl, ?_⟩) (by assumption) ?_
        rotate_left
        · (intro wS hSw; (try dsimp only at hSw); (go_simp); (all_goals (with_reducible rfl)))
        try go_frame
        refine tk_21 (v := ?_) (by kernel_rfl) (by kernel_rfl) (by kernel_rfl) (by kernel_rfl) (fun _ _ _ h => h) (Or.inl ⟨by kernel_rfl, ?_⟩) (by assumption) ?_
        rotate_left
        · (intro wS hSw; (try dsimp only at hSw); (go_simp); (all_goals (with_reducible rfl)))
        try go_frame
        refine wpAnyT_done (by kernel_rfl) ?_ _
        refine NoPanic.normal ?_
        rw [y_val]
        generalize hyy : (Sha.mix ta 2 13 22 + ((ta &&& tb) ^^^ (ta &&& tc) ^^^ (tb &&& tc))) = yy at *
        have HY := Lib.hid hyy
        clear hyy hHeld
        clear v0 v1 v2 v3
        replace hs := hs.drew.drew
        replace hr := hr.drew.drew
        replace hW := hW.drew.drew
        replace hv := hv.drew.drew
        replace he := he.drew.drew
        replace hB := hB.drew.drew
        generalize wr.drew.drew = wd at *
        obtain ⟨v0, v1, v2, v3⟩ := rowIs_cells4 hv
        obtain ⟨e0, e1, e2, e3⟩ := rowIs_cells4 he
        replace v3 : wd.cell? ⟨g6, 3, none⟩ = some (wv td) := v3
        replace e0 : wd.cell? ⟨g7, 0, none⟩ = some (wv te) := e0
        replace e1 : wd.cell? ⟨g7, 1, none⟩ = some (wv tf) := e1
        replace e2 : wd.cell? ⟨g7, 2, none⟩ = some (wv tg) := e2
        clear v0 v1 v2 e3
        have hnew : Sha.rounds b s (k + 1) = ⟨xx + yy, ta, tb, tc, td + xx, te, tf, tg⟩ := by rw [HRD.out, ← HX.out, ← HY.out]; rfl
        have HN := Lib.hid hnew
        have hE2 : Value.agg #[.int .u32 (((td.toNat : Int) + (xx.toNat : Int)) % 4294967296), wv te, wv tf, wv tg] = .agg (arr 4 (Sha.stE ⟨xx + yy, ta, tb, tc, td + xx, te, tf, tg⟩)) := by rw [u32_add']; rfl
        have hA2 : Value.agg #[.int .u32 (((xx.toNat : Int) + (yy.toNat : Int)) % 4294967296), wv ta, wv tb, wv tc] = .agg (arr 4 (Sha.stA ⟨xx + yy, ta, tb, tc, td + xx, te, tf, tg⟩)) := by rw [u32_add']; rfl
        have hE3 : Value.agg #[.int .u32 (IntKind.u32.wrap ((td.toNat : Int) + (xx.toNat : Int))), wv te, wv tf, wv tg] = .agg (arr 4 (Sha.stE ⟨xx + yy, ta, tb, tc, td + xx, te, tf, tg⟩)) := by rw [u32_add]; rfl
        have hA3 : Value.agg #[.int .u32 (IntKind.u32.wrap ((xx.toNat : Int) + (yy.toNat : Int))), wv ta, wv tb, wv tc] = .agg (arr 4 (Sha.stA ⟨xx + yy, ta, tb, tc, td + xx, te, tf, tg⟩)) := by rw [u32_add]; rfl
        have HE2 := Lib.hid hE2
        have HA2 := Lib.hid hA2
        have HE3 := Lib.hid hE3
        have HA3 := Lib.hid hA3
        clear hE2 hA2 hE3 hA3
        have hE : Value.agg #[wv (td + xx), wv te, wv tf, wv tg] = .agg (arr 4 (Sha.stE ⟨xx + yy, ta, tb, tc, td + xx, te, tf, tg⟩)) := rfl
        have hA : Value.agg #[wv (xx + yy), wv ta, wv tb, wv tc] = .agg (arr 4 (Sha.stA ⟨xx + yy, ta, tb, tc, td + xx, te, tf, tg⟩)) := rfl
        have HE := Lib.hid hE
        have HA := Lib.hid hA
        have HO : Hid (∀ (t : Sha.St) (i : Nat), i < 4 → (Sha.stE t i).oneCell' = true) := fun _ _ _ => rfl
        have HO2 : Hid (∀ (t : Sha.St) (i : Nat), i < 4 → (Sha.stA t i).oneCell' = true) := fun _ _ _ => rfl
        clear hnew hE hA HRD HRK HX HY
        go_wp2_with (refine wpList_store_arr (o := ⟨none, _, _, _, _, _⟩) (g := Sha.stE ⟨xx + yy, ta, tb, tc, td + xx, te, tf, tg⟩) rfl _ _ _ rfl he rfl ?_ aggW4 (HO.out _) ?_)
        · first | exact HE2.out | exact HE3.out | exact HE.out
        intro he2
        try go_frame
        replace hv := row_setRow_other hv hne (arr 4 (Sha.stE ⟨xx + yy, ta, tb, tc, td + xx, te, tf, tg⟩))
        replace hs := row_setRow_other hs (show w.heap.size ≠ g7 by omega) (arr 4 (Sha.stE ⟨xx + yy, ta, tb, tc, td + xx, te, tf, tg⟩))
        replace hr := row_setRow_other hr (show w.heap.size + 1 ≠ g7 by omega) (arr 4 (Sha.stE ⟨xx + yy, ta, tb, tc, td + xx, te, tf, tg⟩))
        replace hW := row_setRow_other hW (show g5 ≠ g7 by omega) (arr 4 (Sha.stE ⟨xx + yy, ta, tb, tc, td + xx, te, tf, tg⟩))
        replace hB := below_setRow' hB (show w.heap.size ≤ g7 by omega) (arr 4 (Sha.stE ⟨xx + yy, ta, tb, tc, td + xx, te, tf, tg⟩))
        clear v3 e0 e1 e2 he
        generalize wd.setRow g7 (arr 4 (Sha.stE ⟨xx + yy, ta, tb, tc, td + xx, te, tf, tg⟩)) = we at *
        obtain ⟨v0, v1, v2, v3⟩ := rowIs_cells4 hv
        replace v0 : we.cell? ⟨g6, 0, none⟩ = some (wv ta) := v0
        replace v1 : we.cell? ⟨g6, 1, none⟩ = some (wv tb) := v1
        replace v2 : we.cell? ⟨g6, 2, none⟩ = some (wv tc) := v2
        clear v3
        go_wp2_with (refine wpList_store_arr (o := ⟨none, _, _, _, _, _⟩) (g := Sha.stA ⟨xx + yy, ta, tb, tc, td + xx, te, tf, tg⟩) rfl _ _ _ rfl hv rfl ?_ aggW4 (HO2.out _) ?_)
        · first | exact HA2.out | exact HA3.out | exact HA.out
        intro hv2
        try go_frame
        replace he2 := row_setRow_other he2 (Ne.symm hne) (arr 4 (Sha.stA ⟨xx + yy, ta, tb, tc, td + xx, te, tf, tg⟩))
        replace hs := row_setRow_other hs (show w.heap.size ≠ g6 by omega) (arr 4 (Sha.stA ⟨xx + yy, ta, tb, tc, td + xx, te, tf, tg⟩))
        replace hr := row_setRow_other hr (show w.heap.size + 1 ≠ g6 by omega) (arr 4 (Sha.stA ⟨xx + yy, ta, tb, tc, td + xx, te, tf, tg⟩))
        replace hW := row_setRow_other hW (show g5 ≠ g6 by omega) (arr 4 (Sha.stA ⟨xx + yy, ta, tb, tc, td + xx, te, tf, tg⟩))
        replace hB := below_setRow' hB (show w.heap.size ≤ g6 by omega) (arr 4 (Sha.stA ⟨xx + yy, ta, tb, tc, td + xx, te, tf, tg⟩))
        clear v0 v1 v2 hv
        generalize we.setRow g6 (arr 4 (Sha.stA ⟨xx + yy, ta, tb, tc, td + xx, te, tf, tg⟩)) = wf at *
        rw [← HN.out] at he2 hv2
        go_wp2_with fail
        go_roundw
        case rel => exact ⟨k + 1, by omega, by go_num, hs, hr, hW, hv2, he2, hB⟩
        case measure => go_light; simp [intOf]; omega
      · obtain rfl : k = 64 := by omega
        have hcp : Sha.compress s b = s.add (Sha.rounds b s 64) := rfl
        generalize Sha.rounds b s 64 = t at *
        have HCP := Lib.hid hcp
        clear hcp
        replace hs := hs.congr (fun j _ => Sha.midF_0 s t j)
        go_wp2_with fail
        go_loopw [94] (fun u94 wi => ∃ i : Nat, i ≤ 4 ∧ u94 = .int .i64 i ∧ wi.rowIs w.heap.size 50 8 (Sha.midF s t i i) ∧ wi.rowIs (w.heap.size + 1) 50 8 (fun _ => wv 0#32) ∧
          wi.rowIs g6 80 4 (Sha.stA t) ∧ wi.rowIs g7 80 4 (Sha.stE t) ∧ Below w.heap.size w wi) (fun u94 _ => 4 - (intOf u94).toNat)
        case atStart => exact ⟨0, by omega, rfl, hs, hr, hv, he, hB⟩
        case round =>
          clear hs hr hW hv he hB
          obtain ⟨i, hi, rfl, hs, hr, hv, he, hB⟩ := hrel
          by_cases hi4 : i < 4
          · have c1 := hs.cell (i := i) (by omega)
            have f1 := hs.frozen i
            have c2 := hv.cell (i := i) (by omega)
            have e1 : Sha.midF s t i i i = wv (s.toList.getD i 0#32) := by unfold Sha.midF; rw [if_neg (by omega)]; rfl
            have e2 : Sha.stA t i = wv ([t.a, t.b, t.c, t.d].getD i 0#32) := rfl
            rw [e1] at c1
            rw [e2] at c2
            have hlo := Sha.add_lo s t i hi4
            have hst : Sha.stF (s.add t) i = wv ((s.add t).toList.getD i 0#32) := rfl
            rw [hlo] at hst
            clear e1 e2 hlo
            generalize s.toList.getD i 0#32 = x1 at *
            generalize [t.a, t.b, t.c, t.d].getD i 0#32 = x2 at *
            have HST := Lib.hid hst
            clear hst
            have i0 : (0 : Int) ≤ (i : Int) := by omega
            have i4 : (i : Int) < 4 := by omega
            have i8 : (i : Int) < 8 := by omega
            have s4 : IntKind.i64.wrap ((i : Int) + 4) = ((i + 4 : Nat) : Int) := by rw [IntKind.wrap_i64]; omega
            have S4 := Lib.hid s4
            clear s4
            go_wp2_with fail
            refine wp_region_lasts (fun w' => w'.cell? ⟨w.heap.size, i, none⟩ = some (wv x1) ∧ w'.cell? ⟨g6, i, none⟩ = some (wv x2)) (fun i => i == 8) (by kernel_rfl) ⟨c1, c2⟩ (fun hHeld => ?_)
            refine tk_0 (v := ?_) (by kernel_rfl) (by kernel_rfl) (by kernel_rfl) (by kernel_rfl) (fun _ _ _ h => h) (Or.inl ⟨by kernel_rfl, ?_⟩) (by assumption) ?_
            rotate_left
            · (intro wS hSw; (try dsimp only at hSw); (go_simp); (all_goals (with_reducible rfl)))
            try go_frame
            refine tk_1 (v := ?_) (by kernel_rfl) (by kernel_rfl) (by kernel_rfl) (by kernel_rfl) (fun _ _ _ h => h) (Or.inl ⟨by kernel_rfl, ?_⟩) (by assumption) ?_
            rotate_left
            · (intro wS hSw; (try dsimp only at hSw); (go_simp); (all_goals (with_reducible rfl)))
            try go_frame
            refine tk_2 (v := ?_) (by kernel_rfl) (by kernel_rfl) (by kernel_rfl) (by kernel_rfl) (fun _ _ _ h => h) (Or.inl ⟨by kernel_rfl, ?_⟩) (by assumption) ?_
            rotate_left
            · (intro wS hSw; (try dsimp only at hSw); (obtain ⟨q0, q1⟩ := hSw; go_simp); (all_goals (with_reducible rfl)))
            try go_frame
            refine tk_3 (v := ?_) (by kernel_rfl) (by kernel_rfl) (by kernel_rfl) (by kernel_rfl) (fun _ _ _ h => h) (Or.inl ⟨by kernel_rfl, ?_⟩) (by assumption) ?_
            rotate_left
            · (intro wS hSw; (try dsimp only at hSw); (go_simp); (all_goals (with_reducible rfl)))
            try go_frame
            refine tk_4 (v := ?_) (by kernel_rfl) (by kernel_rfl) (by kernel_rfl) (by kernel_rfl) (fun _ _ _ h => h) (Or.inl ⟨by kernel_rfl, ?_⟩) (by assumption) ?_
            rotate_left
            · (intro wS hSw; (try dsimp only at hSw); (go_simp); (all_goals (with_reducible rfl)))
            try go_frame
            refine tk_5 (v := ?_) (by kernel_rfl) (by kernel_rfl) (by kernel_rfl) (by kernel_rfl) (fun _ _ _ h => h) (Or.inl ⟨by kernel_rfl, ?_⟩) (by assumption) ?_
            rotate_left
            · (intro wS hSw; (try dsimp only at hSw); (obtain ⟨q0, q1⟩ := hSw; go_simp); (all_goals (with_reducible rfl)))
            try go_frame
            refine tk_6 (v := ?_) (by kernel_rfl) (by kernel_rfl) (by kernel_rfl) (by kernel_rfl) (fun _ _ _ h => h) (Or.inl ⟨by kernel_rfl, ?_⟩) (by assumption) ?_
            rotate_left
            · (intro wS hSw; (try dsimp only at hSw); (go_simp); (all_goals (with_reducible rfl)))
            try go_frame
            refine tk_7 (v := ?_) (by kernel_rfl) (by kernel_rfl) (by kernel_rfl) (by kernel_rfl) (fun _ _ _ h => h) (Or.inl ⟨by kernel_rfl, ?_⟩) (by assumption) ?_
            rotate_left
            · (intro wS hSw; (try dsimp only at hSw); (go_simp); (all_goals (with_reducible rfl)))
            try go_frame
            refine dn_8 (by kernel_rfl) (fun K hK => ?_)
            rw [if_pos (by kernel_rfl)]
            go_simp
            refine hK.out _ _ (fun h => by cases h) (fun _ => ?_)
            clear hK K
            try go_frame
            refine wpAnyT_done (by kernel_rfl) ?_ _
            refine NoPanic.normal ?_
            rw [u32_add]
            have hs1 : (wr.setCell ⟨w.heap.size, i, none⟩ (wv (x1 + x2))).drew.rowIs w.heap.size 50 8 (Sha.midF s t (i + 1) i) := ((hs.set i (wv (x1 + x2))).congr (fun j _ => by rw [← HST.out]; exact Sha.midF_lo s t i j hi4)).drew
            have hr1 := (hr.setOther (a := ⟨w.heap.size, i, none⟩) (show w.heap.size + 1 ≠ w.heap.size by omega) (wv (x1 + x2))).drew
            have hv1 := (hv.setOther (a := ⟨w.heap.size, i, none⟩) (show g6 ≠ w.heap.size by omega) (wv (x1 + x2))).drew
            have he1 := (he.setOther (a := ⟨w.heap.size, i, none⟩) (show g7 ≠ w.heap.size by omega) (wv (x1 + x2))).drew
            have hB1 := (hB.setCell (p := ⟨w.heap.size, i, none⟩) (Nat.le_refl _) (wv (x1 + x2))).drew
            clear c1 f1 c2 hHeld hs hr hv he hB
            generalize (wr.setCell ⟨w.heap.size, i, none⟩ (wv (x1 + x2))).drew = wg at *
            obtain ⟨m, hm⟩ : ∃ m, m = i + 4 := ⟨_, rfl⟩
            have c1 := hs1.cell (i := m) (by omega)
            have f1 := hs1.frozen m
            have c2 := he1.cell (i := i) (by omega)
            have e1 : Sha.midF s t (i + 1) i m = wv (s.toList.getD m 0#32) := by unfold Sha.midF; rw [if_neg (by omega)]; rfl
            have e2 : Sha.stE t i = wv ([t.e, t.f, t.g, t.h].getD i 0#32) := rfl
            rw [e1] at c1
            rw [e2] at c2
            have hlo := Sha.add_hi s t i hi4
            rw [← hm] at hlo
            have hst : Sha.stF (s.add t) m = wv ((s.add t).toList.getD m 0#32) := rfl
            rw [hlo] at hst
            clear e1 e2 hlo
            generalize s.toList.getD m 0#32 = x3 at *
            generalize [t.e, t.f, t.g, t.h].getD i 0#32 = x4 at *
            have HST2 := Lib.hid hst
            clear hst
            have s4 : IntKind.i64.wrap ((i : Int) + 4) = (m : Int) := by rw [S4.out, hm]
            have i48 : (m : Int) < 8 := by clear s4; omega
            have HM := Lib.hid hm
            clear hm
            go_wp2_with fail
            refine wp_region_lasts (fun w' => w'.cell? ⟨w.heap.size, m, none⟩ = some (wv x3) ∧ w'.cell? ⟨g7, i, none⟩ = some (wv x4)) (fun i => i == 9) (by kernel_rfl) ⟨c1, c2⟩ (fun hHeld => ?_)
            refine tk_0 (v := ?_) (by kernel_rfl) (by kernel_rfl) (by kernel_rfl) (by kernel_rfl) (fun _ _ _ h => h) (Or.inl ⟨by kernel_rfl, ?_⟩) (by assumption) ?_
            rotate_left
            · (intro wS hSw; (try dsimp only at hSw); (go_simp); (all_goals (with_reducible rfl)))
            try go_frame
            refine tk_1 (v := ?_) (by kernel_rfl) (by kernel_rfl) (by kernel_rfl) (by kernel_rfl) (fun _ _ _ h => h) (Or.inl ⟨by kernel_rfl, ?_⟩) (by assumption) ?_
            rotate_left
            · (intro wS hSw; (try dsimp only at hSw); (go_simp); (all_goals (with_reducible rfl)))
            try go_frame
            refine tk_2 (v := ?_) (by kernel_rfl) (by kernel_rfl) (by kernel_rfl) (by kernel_rfl) (fun _ _ _ h => h) (Or.inl ⟨by kernel_rfl, ?_⟩) (by assumption) ?_
            rotate_left
            · (intro wS hSw; (try dsimp only at hSw); (go_simp); (all_goals (with_reducible rfl)))
            try go_frame
            refine tk_3 (v := ?_) (by kernel_rfl) (by kernel_rfl) (by kernel_rfl) (by kernel_rfl) (fun _ _ _ h => h) (Or.inl ⟨by kernel_rfl, ?_⟩) (by assumption) ?_
            rotate_left
            · (intro wS hSw; (try dsimp only at hSw); (obtain ⟨q0, q1⟩ := hSw; go_simp); (all_goals (with_reducible rfl)))
            try go_frame
            refine tk_4 (v := ?_) (by kernel_rfl) (by kernel_rfl) (by kernel_rfl) (by kernel_rfl) (fun _ _ _ h => h) (Or.inl ⟨by kernel_rfl, ?_⟩) (by assumption) ?_
            rotate_left
            · (intro wS hSw; (try dsimp only at hSw); (go_simp); (all_goals (with_reducible rfl)))
            try go_frame
            refine tk_5 (v := ?_) (by kernel_rfl) (by kernel_rfl) (by kernel_rfl) (by kernel_rfl) (fun _ _ _ h => h) (Or.inl ⟨by kernel_rfl, ?_⟩) (by assumption) ?_
            rotate_left
            · (intro wS hSw; (try dsimp only at hSw); (go_simp); (all_goals (with_reducible rfl)))
            try go_frame
            refine tk_6 (v := ?_) (by kernel_rfl) (by kernel_rfl) (by kernel_rfl) (by kernel_rfl) (fun _ _ _ h => h) (Or.inl ⟨by kernel_rfl, ?_⟩) (by assumption) ?_
            rotate_left
            · (intro wS hSw; (try dsimp only at hSw); (obtain ⟨q0, q1⟩ := hSw; go_simp); (all_goals (with_reducible rfl)))
            try go_frame
            refine tk_7 (v := ?_) (by kernel_rfl) (by kernel_rfl) (by kernel_rfl) (by kernel_rfl) (fun _ _ _ h => h) (Or.inl ⟨by kernel_rfl, ?_⟩) (by assumption) ?_
            rotate_left
            · (intro wS hSw; (try dsimp only at hSw); (go_simp); (all_goals (with_reducible rfl)))
            try go_frame
            refine tk_8 (v := ?_) (by kernel_rfl) (by kernel_rfl) (by kernel_rfl) (by kernel_rfl) (fun _ _ _ h => h) (Or.inl ⟨by kernel_rfl, ?_⟩) (by assumption) ?_
            rotate_left
            · (intro wS hSw; (try dsimp only at hSw); (go_simp); (all_goals (with_reducible rfl)))
            try go_frame
            refine dn_9 (by kernel_rfl) (fun K hK => ?_)
            rw [if_pos (by kernel_rfl)]
            go_simp
            refine hK.out _ _ (fun h => by cases h) (fun _ => ?_)
            clear hK K
            try go_frame
            refine wpAnyT_done (by kernel_rfl) ?_ _
            refine NoPanic.normal ?_
            rw [u32_add]
            clear s4
            have hs2 : (wg.setCell ⟨w.heap.size, m, none⟩ (wv (x3 + x4))).drew.rowIs w.heap.size 50 8 (Sha.midF s t (i + 1) (i + 1)) := ((hs1.set m (wv (x3 + x4))).congr (fun j _ => by rw [← HST2.out, HM.out]; exact Sha.midF_hi s t i j hi4)).drew
            have hr2 := (hr1.setOther (a := ⟨w.heap.size, m, none⟩) (show w.heap.size + 1 ≠ w.heap.size by omega) (wv (x3 + x4))).drew
            have hv2 := (hv1.setOther (a := ⟨w.heap.size, m, none⟩) (show g6 ≠ w.heap.size by omega) (wv (x3 + x4))).drew
            have he2 := (he1.setOther (a := ⟨w.heap.size, m, none⟩) (show g7 ≠ w.heap.size by omega) (wv (x3 + x4))).drew
            have hB2 := (hB1.setCell (p := ⟨w.heap.size, m, none⟩) (Nat.le_refl _) (wv (x3 + x4))).drew
            clear c1 f1 c2 hHeld hs1 hr1 hv1 he1 hB1
            generalize (wg.setCell ⟨w.heap.size, m, none⟩ (wv (x3 + x4))).drew = wh at *
            go_wp2_with fail
            go_roundw
            case rel =>
              repeat apply Exists.intro
              exact ⟨⟨i + 1, by omega, by go_num, hs2, hr2, hv2, he2, hB2⟩, rfl⟩
            case measure => go_light; simp [intOf]; omega
          · obtain rfl : i = 4 := by omega
            have hs2 : wr.rowIs w.heap.size 50 8 (Sha.stF (Sha.compress s b)) := by rw [HCP.out]; exact hs.congr (fun j hj => Sha.midF_8 s t j hj)
            go_wp2_with (first | (with_reducible refine wpList_load_arr (o := ⟨some 115, _, _, _, _, _⟩) rfl _ _ rfl hs2 rfl aggW8 ?_) | (refine wpList_store_arr (o := ⟨none, _, _, _, _, _⟩) rfl _ _ _ rfl hr rfl rfl aggW8 (fun _ _ => rfl) ?_; intro hr2))
            exact bodyPost_arr (p := 4) (by rfl) hr2 (by rfl) aggW8 (by rfl) ⟨rfl, below_setRow' hB (by omega) _⟩
end Go.Proofs.YtafehbnnoncieaaDoor
