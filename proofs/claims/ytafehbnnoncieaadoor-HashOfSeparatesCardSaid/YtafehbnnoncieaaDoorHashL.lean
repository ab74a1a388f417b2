/-
  The hash of 256 bits of a sequence of bytes. Conditions: none.
-/
import Derived.Test.YtafehbnnoncieaaDoorHashK
namespace Go.Proofs.YtafehbnnoncieaaDoor
open Go.RowKit
theorem ba_sz (l : List UInt8) : (⟨l.toArray⟩ : ByteArray).size = l.length := rfl
def shaVal (l : List UInt8) : Value := .agg (arr 32 (fun i => bv ((Sha.sha l).getD i 0)))

set_option maxHeartbeats 1000000 in
set_option maxRecDepth 100000 in
theorem hash_Sum (l : List UInt8) (x : Value) (w : World) (hl : Sl w x 1 l.length (l.map bv)) (hb : l.length ≤ 100000000000000) (hC : Consts w) :
    Calls Tryd.prog 29 #[x] w fun e w' => e = .returned (shaVal l) ∧ Below w.heap.size w w' := by
  have hrow := row_new w (List.replicate 32 (bv 0)).toArray 47 32 (fun _ => bv 0) rfl (fun i hi => rep_at 32 i _ hi)
  have hB := (Below.refl w.heap.size w).alloc (Nat.le_refl _) (.cells (List.replicate 32 (bv 0)).toArray 47)
  have hl2 := hl.alloc (.cells (List.replicate 32 (bv 0)).toArray 47)
  have hC2 := hC.below hB
  go_enter Tryd.func29, Tryd.ntmps29
  go_wp2_with fail
  obtain ⟨W0, hW0⟩ : ∃ W0, W0 = w.alloc (.cells (List.replicate 32 (bv 0)).toArray 47) := ⟨_, rfl⟩
  have hS : Below W0.heap.size W0 (w.alloc (.cells (List.replicate 32 (bv 0)).toArray 47)).drew := by rw [hW0]; exact (Below.refl _ _).drew
  rw [← hW0] at hrow hB hl2 hC2
  clear hW0 hl hC
  have hconv : ∀ w', Below W0.heap.size W0 w' → (convert 22 9 x).run Tryd.prog w' = .ok (.string ⟨l.toArray⟩) w' := fun w' h => run_bytes_string w' _ _ _ elBytes.ht Tryd.underlying5 Tryd.underlying9 (hl2.below h)
  refine wp_region_lasts (fun w' => Below W0.heap.size W0 w') (fun i => i == 5) (by kernel_rfl) hS (fun hHeld => ?_)
  refine tk_1 (v := ?_) (by kernel_rfl) (by kernel_rfl) (by kernel_rfl) (by kernel_rfl) (fun _ _ _ h => h) (Or.inl ⟨by kernel_rfl, ?_⟩) (by assumption) ?_
  rotate_left
  · (intro wS hSw; (try dsimp only at hSw); (go_simp); (all_goals (with_reducible rfl)))
  try go_frame
  refine tk_2 (v := ?_) (by kernel_rfl) (by kernel_rfl) (by kernel_rfl) (by kernel_rfl) (fun _ _ _ h => h) (Or.inl ⟨by kernel_rfl, ?_⟩) (by assumption) ?_
  rotate_left
  · (intro wS hSw; (try dsimp only at hSw); (refine exec_conv (u := x) (v := .string ⟨l.toArray⟩) _ _ (.tmp 4) ?_ ?_ (hconv _ hSw) <;> rfl); (all_goals (with_reducible rfl)))
  try go_frame
  refine dn_0 (by kernel_rfl) (fun K hK => ?_)
  rw [if_pos (by kernel_rfl)]
  go_simp; go_at_call 31; with_reducible refine (hash_Begin _).mono ?_; rintro e w1 ⟨v1, rfl, hv1, hb1⟩; go_simp
  refine hK.out _ _ (fun _ => by (try dsimp only); exact bl_on hHeld hb1) (fun hHeld => ?_)
  replace hHeld := hHeld rfl
  clear hK K
  try go_frame
  refine dn_3 (by kernel_rfl) (fun K hK => ?_)
  rw [if_pos (by kernel_rfl)]
  go_simp; go_at_call 32; with_reducible refine (hash_StreamAdd v1 [] ⟨l.toArray⟩ _ hv1 (by rw [ba_sz, List.length_nil]; omega) (by exact hC2.below hHeld)).mono ?_; rintro e w1 ⟨v2, rfl, hv2, hb2⟩; go_simp
  refine hK.out _ _ (fun _ => by (try dsimp only); exact bl_on hHeld hb2) (fun hHeld => ?_)
  replace hHeld := hHeld rfl
  clear hK K
  try go_frame
  rw [show ([] : List UInt8) ++ (⟨l.toArray⟩ : ByteArray).data.toList = l by simp] at hv2
  refine dn_4 (by kernel_rfl) (fun K hK => ?_)
  rw [if_pos (by kernel_rfl)]
  go_simp; go_at_call 33; with_reducible refine (hash_StreamSum v2 l _ hv2 hb (by exact hC2.below hHeld)).mono ?_; rintro e w1 ⟨rfl, hb3⟩; go_simp
  refine hK.out _ _ (fun _ => by (try dsimp only); exact bl_on hHeld hb3) (fun hHeld => ?_)
  replace hHeld := hHeld rfl
  clear hK K
  try go_frame
  have hrow2 := rowIs_below' hrow hHeld
  have hB2 := hB.trans (hHeld.mono hB.size)
  refine dn_5 (by kernel_rfl) (fun K hK => ?_)
  rw [if_pos (by kernel_rfl)]
  refine wp_store_over (g := fun i => bv ((Sha.sha l).getD i 0)) _ _ _ rfl hrow2 rfl rfl (by decide) aggSum (fun _ _ => rfl) ?_
  refine hK.out _ _ (fun h => by cases h) (fun _ => ?_)
  clear hK K
  try go_frame
  refine wpAnyT_done (by kernel_rfl) ?_ _
  refine NoPanic.normal ?_
  have hrow3 := (row_setRow hrow2 (over (fun _ => bv 0) 0 32 (fun i => bv ((Sha.sha l).getD i 0)))).congr (g := fun i => bv ((Sha.sha l).getD i 0)) (fun i hi => by unfold over; rw [if_pos (by omega)]; rfl)
  have hB3 := below_setRow' hB2 (Nat.le_refl _) (arr 32 (over (fun _ => bv 0) 0 32 (fun i => bv ((Sha.sha l).getD i 0))))
  go_wp2_with fail
  exact bodyPost_arr (p := 2) (by rfl) hrow3 (by rfl) aggSum (by rfl) ⟨rfl, hB3⟩
end Go.Proofs.YtafehbnnoncieaaDoor
