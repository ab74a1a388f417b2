/-
  The check of 40 bits: messages. Conditions: none.
-/
import Derived.Test.YtafehbnnoncieaaDoorHashA
import Derived.Deep.OwnRows
import Derived.Test.YtafehbnnoncieaaDoorDrawn
import Derived.Deep.Light
namespace Go.Proofs.YtafehbnnoncieaaDoor
open Go.RowKit
namespace Crc
theorem bits_div (n : Nat) : bits8 n = bits4 (n / 16) ++ bits4 n := by
  unfold bits8 bits4
  have h : ∀ i, (n / 16).testBit i = n.testBit (4 + i) := fun i => by
    rw [show (16 : Nat) = 2 ^ 4 from rfl, Nat.testBit_div_two_pow, Nat.add_comm]
  simp [h]
theorem run_byte (v : V) (n : Nat) : run (run v (bits4 (n / 16))) (bits4 n) = run v (bits8 n) := by
  rw [bits_div, run_append]
theorem bitsOf_snoc (l : List UInt8) (u : UInt8) : bitsOf (l ++ [u]) = bitsOf l ++ bits8 u.toNat := by
  rw [bitsOf_append]; simp [bitsOf]
end Crc
theorem take_snoc (s : ByteArray) (k : Nat) (h : k < s.size) : s.data.toList.take (k + 1) = s.data.toList.take k ++ [s[k]] := by
  rw [List.take_succ_eq_append_getElem (by simpa using h)]; rfl

theorem rowIs_below {w w' : World} {b : Nat} {t : TypeId} {n : Nat} {f : Nat → Value} (h : w.rowIs b t n f) (hb : Below w.heap.size w w') : w'.rowIs b t n f := h.of_block (hb.block b h.lt)
theorem run_add_step (v v1 : Crc.V) (s : ByteArray) (k : Nat) (hk : k < s.size) (h : Crc.run v (Crc.bitsOf (s.data.toList.take k)) = v1) (m : Nat) (hm : m = (s[k]).toNat / 16) (m' : Nat) (hm' : m' = (s[k]).toNat) :
    Crc.run (Crc.run v1 (Crc.bits4 m)) (Crc.bits4 m') = Crc.run v (Crc.bitsOf (s.data.toList.take (k + 1))) := by
  subst hm; subst hm'; subst h
  rw [Crc.run_byte, take_snoc s k hk, Crc.bitsOf_snoc, Crc.run_append]

set_option maxHeartbeats 800000 in
theorem hash_Add (v : Crc.V) (s : ByteArray) (hs : s.size ≤ 140737488355328) (r : Int) (hr : r = v.toNat) (w : World) (hN : Nibs w) :
    Calls Tryd.prog 20 #[.agg #[.int .u64 r], .string s] w fun e w' => e = .returned (.agg #[.int .u64 (Crc.run v (Crc.bitsOf s.data.toList)).toNat]) ∧ Below w.heap.size w w' := by
  subst hr
  go_enter Tryd.func20, Tryd.ntmps20
  go_wp2_with fail
  go_loopw [5, 8] (fun _ u8 wr => ∃ k : Nat, k ≤ s.size ∧ u8 = .int .i64 k ∧ wr.rowIs w.heap.size 30 1 (fun _ => .int .u64 (Crc.run v (Crc.bitsOf (s.data.toList.take k))).toNat) ∧ wr.rowIs (w.heap.size + 1) 30 1 (fun _ => .int .u64 0) ∧ Below w.heap.size w wr) (fun _ u8 _ => s.size - (intOf u8).toNat)
  case atStart =>
    refine ⟨0, Nat.zero_le _, rfl, ?_, ?_, ((Below.refl _ _).alloc (Nat.le_refl _) _).alloc (by simp) _⟩
    · have := World.rowIs_alloc w #[.int .u64 v.toNat] 30 (fun _ => .int .u64 v.toNat) (fun i hi => by
        have : i = 0 := by simp at hi; omega
        subst this; rfl)
      exact this.alloc _
    · have := World.rowIs_alloc (w.alloc (.cells #[.int .u64 v.toNat] 30)) #[.int .u64 0] 30 (fun _ => .int .u64 0) (fun i hi => by
        have : i = 0 := by simp at hi; omega
        subst this; rfl)
      simpa using this
  case round =>
    obtain ⟨k, hk, rfl, hc, hd, hb⟩ := hrel
    by_cases hlt : k < s.size
    · have hcell := hc.cell (i := 0) (by omega)
      generalize hv : Crc.run v (Crc.bitsOf (s.data.toList.take k)) = v1 at *
      have hk1 : (0 : Int) ≤ k := by omega
      have hk2 : (k : Int) < s.size := by omega
      have hsz := hb.size
      have hsz2 := hd.lt
      have hfr := hc.frozen 0
      have hNr : Nibs wr := hN.below hb
      go_wp2_with fail
      have HV := Lib.hid hv
      clear hv
      have hcB : ∀ w', Below wr.heap.size wr w' → w'.cell? ⟨w.heap.size, 0, none⟩ = some (.int .u64 v1.toNat) := fun w' h => (h.cell (p := ⟨w.heap.size, 0, none⟩) (by simp; omega)).trans hcell
      have hx := (s[k]).toNat_lt
      refine wp_region_lasts (fun w' => Below wr.heap.size wr w') (fun i => i == 10) (by kernel_rfl) ((Below.refl _ _).drew) (fun hHeld => ?_)
      refine tk_1 (v := ?_) (by kernel_rfl) (by kernel_rfl) (by kernel_rfl) (by kernel_rfl) (fun _ _ _ h => h) (Or.inl ⟨by kernel_rfl, ?_⟩) (by assumption) ?_
      rotate_left
      · (intro wS hSw; (try dsimp only at hSw); (go_simp); (all_goals (with_reducible rfl)))
      try go_frame
      refine tk_2 (v := ?_) (by kernel_rfl) (by kernel_rfl) (by kernel_rfl) (by kernel_rfl) (fun _ _ _ h => h) (Or.inl ⟨by kernel_rfl, ?_⟩) (by assumption) ?_
      rotate_left
      · (intro wS hSw; (try dsimp only at hSw); (go_simp); (all_goals (with_reducible rfl)))
      try go_frame
      refine tk_3 (v := ?_) (by kernel_rfl) (by kernel_rfl) (by kernel_rfl) (by kernel_rfl) (fun _ _ _ h => h) (Or.inl ⟨by kernel_rfl, ?_⟩) (by assumption) ?_
      rotate_left
      · (intro wS hSw; (try dsimp only at hSw); (go_simp); (all_goals (with_reducible rfl)))
      try go_frame
      refine tk_4 (v := ?_) (by kernel_rfl) (by kernel_rfl) (by kernel_rfl) (by kernel_rfl) (fun _ _ _ h => h) (Or.inl ⟨by kernel_rfl, ?_⟩) (by assumption) ?_
      rotate_left
      · (intro wS hSw; (try dsimp only at hSw); (go_simp); (all_goals (with_reducible rfl)))
      try go_frame
      refine tk_6 (v := ?_) (by kernel_rfl) (by kernel_rfl) (by kernel_rfl) (by kernel_rfl) (fun _ _ _ h => h) (Or.inl ⟨by kernel_rfl, ?_⟩) (by assumption) ?_
      rotate_left
      · (intro wS hSw; (try dsimp only at hSw); (go_simp); (all_goals (with_reducible rfl)))
      try go_frame
      refine tk_7 (v := ?_) (by kernel_rfl) (by kernel_rfl) (by kernel_rfl) (by kernel_rfl) (fun _ _ _ h => h) (Or.inl ⟨by kernel_rfl, ?_⟩) (by assumption) ?_
      rotate_left
      · (intro wS hSw; (try dsimp only at hSw); (go_simp); (all_goals (with_reducible rfl)))
      try go_frame
      refine tk_8 (v := ?_) (by kernel_rfl) (by kernel_rfl) (by kernel_rfl) (by kernel_rfl) (fun _ _ _ h => h) (Or.inl ⟨by kernel_rfl, ?_⟩) (by assumption) ?_
      rotate_left
      · (intro wS hSw; (try dsimp only at hSw); (go_simp); (all_goals (with_reducible rfl)))
      try go_frame
      refine tk_0 (v := ?_) (by kernel_rfl) (by kernel_rfl) (by kernel_rfl) (by kernel_rfl) (fun _ _ _ h => h) (Or.inl ⟨by kernel_rfl, ?_⟩) (by assumption) ?_
      rotate_left
      · (intro wS hSw; (try dsimp only at hSw); (have hcw := hcB _ hSw; go_simp); (all_goals (with_reducible rfl)))
      try go_frame
      refine dn_5 (by kernel_rfl) (fun K hK => ?_)
      rw [if_pos (by kernel_rfl)]
      go_simp; go_at_call 41; with_reducible refine (hash_nibble v1 (↑(s[k]).toNat / 16) _ rfl (by omega) (by omega) _ (by exact hNr.below hHeld)).mono ?_; rintro e w1 ⟨rfl, hb1⟩; go_simp
      refine hK.out _ _ (fun _ => by (try dsimp only); exact hHeld.trans (hb1.mono hHeld.size)) (fun hHeld => ?_)
      replace hHeld := hHeld rfl
      clear hK K
      try go_frame
      refine dn_9 (by kernel_rfl) (fun K hK => ?_)
      rw [if_pos (by kernel_rfl)]
      go_simp; go_at_call 41; with_reducible refine (hash_nibble (Crc.run v1 (Crc.bits4 (↑(s[k]).toNat / 16 : Int).toNat)) (↑(s[k]).toNat) _ rfl (by omega) (by omega) _ (by exact hNr.below hHeld)).mono ?_; rintro e w1 ⟨rfl, hb1⟩; go_simp
      refine hK.out _ _ (fun _ => by (try dsimp only); exact hHeld.trans (hb1.mono hHeld.size)) (fun hHeld => ?_)
      replace hHeld := hHeld rfl
      clear hK K
      try go_frame
      have hrow2 := rowIs_below hc hHeld
      have hcell2 := hrow2.cell (i := 0) (by omega)
      have hfr2 := hrow2.frozen 0
      refine dn_10 (by kernel_rfl) (fun K hK => ?_)
      rw [if_pos (by kernel_rfl)]
      go_simp
      refine hK.out _ _ (fun h => by cases h) (fun _ => ?_)
      clear hK K
      try go_frame
      refine wpAnyT_done (by kernel_rfl) ?_ _
      refine NoPanic.normal ?_
      have hstep := Lib.hid (run_add_step v v1 s k hlt HV.out ((s[k]).toNat / 16) rfl (s[k]).toNat rfl)
      have hrowd := rowIs_below hd hHeld
      go_wp2_with fail
      go_roundw
      case rel =>
        refine ⟨k + 1, hlt, by go_num, ?_, ?_, ?_⟩
        · refine (hrow2.set 0 _).congr (fun i hi => ?_)
          rw [if_pos (by omega), ← hstep.out]
        · exact hrowd.setOther (by simp) _
        · exact (hb.trans (hHeld.mono hb.size)).setCell (by simp) _
      case measure => go_light; simp [intOf]; omega
    · obtain rfl : k = s.size := by omega
      have hv : List.take s.size s.data.toList = s.data.toList := List.take_of_length_le (by rw [Array.length_toList]; exact Nat.le_refl _)
      rw [hv] at hc
      generalize hv1 : Crc.run v (Crc.bitsOf s.data.toList) = v1 at *
      have HV := Lib.hid hv1
      clear hv1
      have hcell := hc.cell (i := 0) (by omega)
      have hcell2 := hd.cell (i := 0) (by omega)
      have hfr2 := hd.frozen 0
      have hres := (hd.set 0 (.int .u64 v1.toNat)).cell (i := 0) (by omega)
      rw [if_pos rfl] at hres
      clear hv
      go_wp2_with fail
      exact bodyPost_ret (v := .agg #[.int .u64 v1.toNat]) (by simp [results, Tryd.results20, go_sem, hres]) rfl ⟨by rw [HV.out], hb.setCell (by simp) _⟩
end Go.Proofs.YtafehbnnoncieaaDoor
