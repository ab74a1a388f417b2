/-
  Digests: the hash of a tag and of parts. Conditions: none.
-/
import Derived.Test.YtafehbnnoncieaaDoorHashL
import Derived.Test.YtafehbnnoncieaaDoorWireB
namespace Go.Proofs.YtafehbnnoncieaaDoor
open Go.RowKit
theorem aggDig : Agg Tryd.prog 58 16 := ⟨⟨_, Tryd.underlying58, rfl⟩, by kernel_rfl⟩
/-- What is hashed for a tag and parts. -/
def ofInput (tag : Int) (l : List ByteArray) : List UInt8 := UInt8.ofNat (tag % 256).toNat :: l.flatMap encBytes
theorem encBytes_10 (s : ByteArray) (h : s.size ≤ 1000000) : (encBytes s).length ≤ s.size + 10 := by
  have := enc_length_10 (zig s.size) (zig_lt _ (by omega) (by omega))
  simp only [encBytes, encInt, List.length_append]
  simp
  omega
theorem of_len (tag : Int) : ∀ (l : List ByteArray), (∀ s ∈ l, s.size ≤ 1000000) → (ofInput tag l).length ≤ 1 + l.length * 1000100
  | [], _ => by simp [ofInput]
  | s :: l, h => by
    have h1 := of_len tag l (fun x hx => h x (List.mem_cons_of_mem _ hx))
    have h3 := h s (List.mem_cons_self ..)
    have h2 := encBytes_10 s h3
    simp only [ofInput, List.length_cons, List.flatMap_cons, List.length_append] at h1 ⊢
    omega
theorem of_snoc (tag : Int) (l : List ByteArray) (k : Nat) (s : ByteArray) (h : l[k]? = some s) : ofInput tag (l.take (k + 1)) = ofInput tag (l.take k) ++ encBytes s := by
  unfold ofInput
  rw [List.take_add_one, h]; simp
def digVal (l : List UInt8) : Value := .agg (arr 16 (fun i => bv ((Sha.sha l).getD i 0)))

set_option maxHeartbeats 2000000 in
set_option maxRecDepth 100000 in
theorem hash_Of (tag : Int) (l : List ByteArray) (x : Value) (w : World) (_h1 : -9223372036854775808 ≤ tag) (_h2 : tag ≤ 9223372036854775807) (hl : Sl w x 1 l.length (l.map Value.string)) (hb : ∀ s ∈ l, s.size ≤ 1000000) (hn : l.length ≤ 1000000) (hC : Consts w) :
    Calls Tryd.prog 34 #[.int .i64 tag, x] w fun e w' => e = .returned (digVal (ofInput tag l)) ∧ Below w.heap.size w w' := by
  have hrow := row_new w (List.replicate 16 (bv 0)).toArray 58 16 (fun _ => bv 0) rfl (fun i hi => rep_at 16 i _ hi)
  have hB := (Below.refl w.heap.size w).alloc (Nat.le_refl _) (.cells (List.replicate 16 (bv 0)).toArray 58)
  have hl2 := hl.alloc (.cells (List.replicate 16 (bv 0)).toArray 58)
  have hC2 := hC.below hB
  have hz := str_zero
  go_enter Tryd.func34, Tryd.ntmps34
  go_wp2_with fail
  obtain ⟨W0, hW0⟩ : ∃ W0, W0 = w.alloc (.cells (List.replicate 16 (bv 0)).toArray 58) := ⟨_, rfl⟩
  have hS : Below W0.heap.size W0 (w.alloc (.cells (List.replicate 16 (bv 0)).toArray 58)).drew := by rw [hW0]; exact (Below.refl _ _).drew
  have hz0 : W0.heap.size = w.heap.size + 1 := by rw [hW0]; simp
  rw [← hW0] at hrow hB hl2 hC2
  clear hW0 hl hC
  have htag : bv (UInt8.ofNat (tag % 256).toNat) = .int .u8 (IntKind.u8.wrap tag) := by
    rw [bv_ofNat _ (by omega), IntKind.wrap_u8]; congr 1; omega
  have HT := Lib.hid htag
  clear htag
  have hone : ([] : List UInt8).length + (⟨#[UInt8.ofNat (tag % 256).toNat]⟩ : ByteArray).size ≤ 1000000000000000 := by show 0 + 1 ≤ _; omega
  go_cut [5] (fun u5 wc => ∃ (g : Nat) (F : Nat → Value), u5 = .pointer (some ⟨g, 0, none⟩) ∧ W0.heap.size ≤ g ∧ wc.rowIs g 53 73 F ∧ Sha.IsStream (.agg (arr 73 F)) (ofInput tag []) ∧ Below W0.heap.size W0 wc)
  case first =>
    refine wp_region_lasts (fun w' => Below W0.heap.size W0 w') (fun i => i == 7) (by kernel_rfl) hS (fun hHeld => ?_)
    refine tk_1 (v := ?_) (by kernel_rfl) (by kernel_rfl) (by kernel_rfl) (by kernel_rfl) (fun _ _ _ h => h) (Or.inl ⟨by kernel_rfl, ?_⟩) (by assumption) ?_
    rotate_left
    · (intro wS hSw; (try dsimp only at hSw); (go_simp); (all_goals (with_reducible rfl)))
    try go_frame
    refine tk_2 (v := ?_) (by kernel_rfl) (by kernel_rfl) (by kernel_rfl) (by kernel_rfl) (fun _ _ _ h => h) (Or.inl ⟨by kernel_rfl, ?_⟩) (by assumption) ?_
    rotate_left
    · (intro wS hSw; (try dsimp only at hSw); (go_simp); (all_goals (with_reducible rfl)))
    try go_frame
    refine wpAnyT_ready (rs := [0, 3, 6]) (by kernel_rfl) (by simp) (ca_0 (fun K hK => ?_) (ca_3 (fun K hK => ?_) (ca_6 (fun K hK => ?_) AllT.nil)))
    · skip
      rw [if_pos (by kernel_rfl)]
      go_simp; go_at_call 31; with_reducible refine (hash_Begin _).mono ?_; rintro e w1 ⟨v1, rfl, hv1, hb1⟩; (try replace hsl := hsl.below hb1); (try replace hr5 := rowIs_below' hr5 hb1); go_simp
      refine hK.out _ _ (fun _ => by (try dsimp only); exact bl_on hHeld hb1) (fun hHeld => ?_)
      replace hHeld := hHeld rfl
      clear hK K
      try go_frame
      refine wpAnyT_ready (rs := [3, 6]) (by kernel_rfl) (by simp) (ca_3 (fun K hK => ?_) (ca_6 (fun K hK => ?_) AllT.nil))
      · skip
        rw [if_pos (by kernel_rfl)]
        refine wp_built_byte _ _ rfl elBytes rfl ?_; intro g3 w1 _ hsl hb1; (try replace hr5 := rowIs_below' hr5 hb1)
        refine hK.out _ _ (fun _ => by (try dsimp only); exact bl_on hHeld hb1) (fun hHeld => ?_)
        replace hHeld := hHeld rfl
        clear hK K
        try go_frame
        refine wpAnyT_ready (rs := [4, 6]) (by kernel_rfl) (by simp) (ca_4 (fun K hK => ?_) (ca_6 (fun K hK => ?_) AllT.nil))
        · skip
          rw [if_pos (by kernel_rfl)]
          have hcv := run_bytes_string _ 22 9 5 elBytes.ht Tryd.underlying5 Tryd.underlying9 (l := [UInt8.ofNat (tag % 256).toNat]) (by rw [← HT.out] at hsl; exact hsl); go_simp
          refine hK.out _ _ (fun _ => by (try dsimp only); exact hHeld) (fun hHeld => ?_)
          replace hHeld := hHeld rfl
          clear hK K
          try go_frame
          refine wpAnyT_ready (rs := [5, 6]) (by kernel_rfl) (by simp) (ca_5 (fun K hK => ?_) (ca_6 (fun K hK => ?_) AllT.nil))
          · skip
            rw [if_pos (by kernel_rfl)]
            go_simp; go_at_call 32; with_reducible refine (hash_StreamAdd v1 [] ⟨#[UInt8.ofNat (tag % 256).toNat]⟩ _ hv1 hone (by exact hC2.below hHeld)).mono ?_; rintro e w1 ⟨v2, rfl, hv2, hb1⟩; (try replace hsl := hsl.below hb1); (try replace hr5 := rowIs_below' hr5 hb1); go_simp
            refine hK.out _ _ (fun _ => by (try dsimp only); exact bl_on hHeld hb1) (fun hHeld => ?_)
            replace hHeld := hHeld rfl
            clear hK K
            try go_frame
            refine dn_6 (by kernel_rfl) (fun K hK => ?_)
            rw [if_pos (by kernel_rfl)]
            refine wp_alloc_arr rfl str_zero ?_; intro g5 w1 hg5 hr5 hb1; replace hg5 := Nat.le_trans hHeld.size hg5; (try replace hsl := hsl.below hb1)
            refine hK.out _ _ (fun _ => by (try dsimp only); exact bl_on hHeld hb1) (fun hHeld => ?_)
            replace hHeld := hHeld rfl
            clear hK K
            try go_frame
            refine dn_7 (by kernel_rfl) (fun K hK => ?_)
            rw [if_pos (by kernel_rfl)]
            obtain ⟨bk5, rfl, hbl5, hbt5⟩ := id hv2; refine wp_store_over (g := Sha.strF _ bk5 _) _ _ _ rfl hr5 rfl rfl (by decide) aggStr (fun i _ => Sha.strF_one _ _ _ i) ?_
            refine hK.out _ _ (fun h => by cases h) (fun _ => ?_)
            clear hK K
            try go_frame
            refine wpAnyT_done (by kernel_rfl) ?_ _
            refine NoPanic.normal ?_
            go_wp2_with fail; go_meet; exact ⟨g5, Sha.strF (Sha.feed 0 Sha.init [UInt8.ofNat (tag % 256).toNat]) bk5 1, rfl, hg5, (row_setRow hr5 _).congr (fun j hj => by unfold over; rw [if_pos (by omega)]; rfl), (by simpa [ofInput] using hv2), below_setRow' hHeld hg5 _⟩
          · skip
            rw [if_pos (by kernel_rfl)]
            refine wp_alloc_arr rfl str_zero ?_; intro g5 w1 hg5 hr5 hb1; replace hg5 := Nat.le_trans hHeld.size hg5; (try replace hsl := hsl.below hb1)
            refine hK.out _ _ (fun _ => by (try dsimp only); exact bl_on hHeld hb1) (fun hHeld => ?_)
            replace hHeld := hHeld rfl
            clear hK K
            try go_frame
            refine dn_5 (by kernel_rfl) (fun K hK => ?_)
            rw [if_pos (by kernel_rfl)]
            go_simp; go_at_call 32; with_reducible refine (hash_StreamAdd v1 [] ⟨#[UInt8.ofNat (tag % 256).toNat]⟩ _ hv1 hone (by exact hC2.below hHeld)).mono ?_; rintro e w1 ⟨v2, rfl, hv2, hb1⟩; (try replace hsl := hsl.below hb1); (try replace hr5 := rowIs_below' hr5 hb1); go_simp
            refine hK.out _ _ (fun _ => by (try dsimp only); exact bl_on hHeld hb1) (fun hHeld => ?_)
            replace hHeld := hHeld rfl
            clear hK K
            try go_frame
            refine dn_7 (by kernel_rfl) (fun K hK => ?_)
            rw [if_pos (by kernel_rfl)]
            obtain ⟨bk5, rfl, hbl5, hbt5⟩ := id hv2; refine wp_store_over (g := Sha.strF _ bk5 _) _ _ _ rfl hr5 rfl rfl (by decide) aggStr (fun i _ => Sha.strF_one _ _ _ i) ?_
            refine hK.out _ _ (fun h => by cases h) (fun _ => ?_)
            clear hK K
            try go_frame
            refine wpAnyT_done (by kernel_rfl) ?_ _
            refine NoPanic.normal ?_
            go_wp2_with fail; go_meet; exact ⟨g5, Sha.strF (Sha.feed 0 Sha.init [UInt8.ofNat (tag % 256).toNat]) bk5 1, rfl, hg5, (row_setRow hr5 _).congr (fun j hj => by unfold over; rw [if_pos (by omega)]; rfl), (by simpa [ofInput] using hv2), below_setRow' hHeld hg5 _⟩
        · skip
          rw [if_pos (by kernel_rfl)]
          refine wp_alloc_arr rfl str_zero ?_; intro g5 w1 hg5 hr5 hb1; replace hg5 := Nat.le_trans hHeld.size hg5; (try replace hsl := hsl.below hb1)
          refine hK.out _ _ (fun _ => by (try dsimp only); exact bl_on hHeld hb1) (fun hHeld => ?_)
          replace hHeld := hHeld rfl
          clear hK K
          try go_frame
          refine dn_4 (by kernel_rfl) (fun K hK => ?_)
          rw [if_pos (by kernel_rfl)]
          have hcv := run_bytes_string _ 22 9 5 elBytes.ht Tryd.underlying5 Tryd.underlying9 (l := [UInt8.ofNat (tag % 256).toNat]) (by rw [← HT.out] at hsl; exact hsl); go_simp
          refine hK.out _ _ (fun _ => by (try dsimp only); exact hHeld) (fun hHeld => ?_)
          replace hHeld := hHeld rfl
          clear hK K
          try go_frame
          refine dn_5 (by kernel_rfl) (fun K hK => ?_)
          rw [if_pos (by kernel_rfl)]
          go_simp; go_at_call 32; with_reducible refine (hash_StreamAdd v1 [] ⟨#[UInt8.ofNat (tag % 256).toNat]⟩ _ hv1 hone (by exact hC2.below hHeld)).mono ?_; rintro e w1 ⟨v2, rfl, hv2, hb1⟩; (try replace hsl := hsl.below hb1); (try replace hr5 := rowIs_below' hr5 hb1); go_simp
          refine hK.out _ _ (fun _ => by (try dsimp only); exact bl_on hHeld hb1) (fun hHeld => ?_)
          replace hHeld := hHeld rfl
          clear hK K
          try go_frame
          refine dn_7 (by kernel_rfl) (fun K hK => ?_)
          rw [if_pos (by kernel_rfl)]
          obtain ⟨bk5, rfl, hbl5, hbt5⟩ := id hv2; refine wp_store_over (g := Sha.strF _ bk5 _) _ _ _ rfl hr5 rfl rfl (by decide) aggStr (fun i _ => Sha.strF_one _ _ _ i) ?_
          refine hK.out _ _ (fun h => by cases h) (fun _ => ?_)
          clear hK K
          try go_frame
          refine wpAnyT_done (by kernel_rfl) ?_ _
          refine NoPanic.normal ?_
          go_wp2_with fail; go_meet; exact ⟨g5, Sha.strF (Sha.feed 0 Sha.init [UInt8.ofNat (tag % 256).toNat]) bk5 1, rfl, hg5, (row_setRow hr5 _).congr (fun j hj => by unfold over; rw [if_pos (by omega)]; rfl), (by simpa [ofInput] using hv2), below_setRow' hHeld hg5 _⟩
      · skip
        rw [if_pos (by kernel_rfl)]
        refine wp_alloc_arr rfl str_zero ?_; intro g5 w1 hg5 hr5 hb1; replace hg5 := Nat.le_trans hHeld.size hg5; (try replace hsl := hsl.below hb1)
        refine hK.out _ _ (fun _ => by (try dsimp only); exact bl_on hHeld hb1) (fun hHeld => ?_)
        replace hHeld := hHeld rfl
        clear hK K
        try go_frame
        refine dn_3 (by kernel_rfl) (fun K hK => ?_)
        rw [if_pos (by kernel_rfl)]
        refine wp_built_byte _ _ rfl elBytes rfl ?_; intro g3 w1 _ hsl hb1; (try replace hr5 := rowIs_below' hr5 hb1)
        refine hK.out _ _ (fun _ => by (try dsimp only); exact bl_on hHeld hb1) (fun hHeld => ?_)
        replace hHeld := hHeld rfl
        clear hK K
        try go_frame
        refine dn_4 (by kernel_rfl) (fun K hK => ?_)
        rw [if_pos (by kernel_rfl)]
        have hcv := run_bytes_string _ 22 9 5 elBytes.ht Tryd.underlying5 Tryd.underlying9 (l := [UInt8.ofNat (tag % 256).toNat]) (by rw [← HT.out] at hsl; exact hsl); go_simp
        refine hK.out _ _ (fun _ => by (try dsimp only); exact hHeld) (fun hHeld => ?_)
        replace hHeld := hHeld rfl
        clear hK K
        try go_frame
        refine dn_5 (by kernel_rfl) (fun K hK => ?_)
        rw [if_pos (by kernel_rfl)]
        go_simp; go_at_call 32; with_reducible refine (hash_StreamAdd v1 [] ⟨#[UInt8.ofNat (tag % 256).toNat]⟩ _ hv1 hone (by exact hC2.below hHeld)).mono ?_; rintro e w1 ⟨v2, rfl, hv2, hb1⟩; (try replace hsl := hsl.below hb1); (try replace hr5 := rowIs_below' hr5 hb1); go_simp
        refine hK.out _ _ (fun _ => by (try dsimp only); exact bl_on hHeld hb1) (fun hHeld => ?_)
        replace hHeld := hHeld rfl
        clear hK K
        try go_frame
        refine dn_7 (by kernel_rfl) (fun K hK => ?_)
        rw [if_pos (by kernel_rfl)]
        obtain ⟨bk5, rfl, hbl5, hbt5⟩ := id hv2; refine wp_store_over (g := Sha.strF _ bk5 _) _ _ _ rfl hr5 rfl rfl (by decide) aggStr (fun i _ => Sha.strF_one _ _ _ i) ?_
        refine hK.out _ _ (fun h => by cases h) (fun _ => ?_)
        clear hK K
        try go_frame
        refine wpAnyT_done (by kernel_rfl) ?_ _
        refine NoPanic.normal ?_
        go_wp2_with fail; go_meet; exact ⟨g5, Sha.strF (Sha.feed 0 Sha.init [UInt8.ofNat (tag % 256).toNat]) bk5 1, rfl, hg5, (row_setRow hr5 _).congr (fun j hj => by unfold over; rw [if_pos (by omega)]; rfl), (by simpa [ofInput] using hv2), below_setRow' hHeld hg5 _⟩
    · skip
      rw [if_pos (by kernel_rfl)]
      refine wp_built_byte _ _ rfl elBytes rfl ?_; intro g3 w1 _ hsl hb1; (try replace hr5 := rowIs_below' hr5 hb1)
      refine hK.out _ _ (fun _ => by (try dsimp only); exact bl_on hHeld hb1) (fun hHeld => ?_)
      replace hHeld := hHeld rfl
      clear hK K
      try go_frame
      refine wpAnyT_ready (rs := [0, 4, 6]) (by kernel_rfl) (by simp) (ca_0 (fun K hK => ?_) (ca_4 (fun K hK => ?_) (ca_6 (fun K hK => ?_) AllT.nil)))
      · skip
        rw [if_pos (by kernel_rfl)]
        go_simp; go_at_call 31; with_reducible refine (hash_Begin _).mono ?_; rintro e w1 ⟨v1, rfl, hv1, hb1⟩; (try replace hsl := hsl.below hb1); (try replace hr5 := rowIs_below' hr5 hb1); go_simp
        refine hK.out _ _ (fun _ => by (try dsimp only); exact bl_on hHeld hb1) (fun hHeld => ?_)
        replace hHeld := hHeld rfl
        clear hK K
        try go_frame
        refine wpAnyT_ready (rs := [4, 6]) (by kernel_rfl) (by simp) (ca_4 (fun K hK => ?_) (ca_6 (fun K hK => ?_) AllT.nil))
        · skip
          rw [if_pos (by kernel_rfl)]
          have hcv := run_bytes_string _ 22 9 5 elBytes.ht Tryd.underlying5 Tryd.underlying9 (l := [UInt8.ofNat (tag % 256).toNat]) (by rw [← HT.out] at hsl; exact hsl); go_simp
          refine hK.out _ _ (fun _ => by (try dsimp only); exact hHeld) (fun hHeld => ?_)
          replace hHeld := hHeld rfl
          clear hK K
          try go_frame
          refine wpAnyT_ready (rs := [5, 6]) (by kernel_rfl) (by simp) (ca_5 (fun K hK => ?_) (ca_6 (fun K hK => ?_) AllT.nil))
          · skip
            rw [if_pos (by kernel_rfl)]
            go_simp; go_at_call 32; with_reducible refine (hash_StreamAdd v1 [] ⟨#[UInt8.ofNat (tag % 256).toNat]⟩ _ hv1 hone (by exact hC2.below hHeld)).mono ?_; rintro e w1 ⟨v2, rfl, hv2, hb1⟩; (try replace hsl := hsl.below hb1); (try replace hr5 := rowIs_below' hr5 hb1); go_simp
            refine hK.out _ _ (fun _ => by (try dsimp only); exact bl_on hHeld hb1) (fun hHeld => ?_)
            replace hHeld := hHeld rfl
            clear hK K
            try go_frame
            refine dn_6 (by kernel_rfl) (fun K hK => ?_)
            rw [if_pos (by kernel_rfl)]
            refine wp_alloc_arr rfl str_zero ?_; intro g5 w1 hg5 hr5 hb1; replace hg5 := Nat.le_trans hHeld.size hg5; (try replace hsl := hsl.below hb1)
            refine hK.out _ _ (fun _ => by (try dsimp only); exact bl_on hHeld hb1) (fun hHeld => ?_)
            replace hHeld := hHeld rfl
            clear hK K
            try go_frame
            refine dn_7 (by kernel_rfl) (fun K hK => ?_)
            rw [if_pos (by kernel_rfl)]
            obtain ⟨bk5, rfl, hbl5, hbt5⟩ := id hv2; refine wp_store_over (g := Sha.strF _ bk5 _) _ _ _ rfl hr5 rfl rfl (by decide) aggStr (fun i _ => Sha.strF_one _ _ _ i) ?_
            refine hK.out _ _ (fun h => by cases h) (fun _ => ?_)
            clear hK K
            try go_frame
            refine wpAnyT_done (by kernel_rfl) ?_ _
            refine NoPanic.normal ?_
            go_wp2_with fail; go_meet; exact ⟨g5, Sha.strF (Sha.feed 0 Sha.init [UInt8.ofNat (tag % 256).toNat]) bk5 1, rfl, hg5, (row_setRow hr5 _).congr (fun j hj => by unfold over; rw [if_pos (by omega)]; rfl), (by simpa [ofInput] using hv2), below_setRow' hHeld hg5 _⟩
          · skip
            rw [if_pos (by kernel_rfl)]
            refine wp_alloc_arr rfl str_zero ?_; intro g5 w1 hg5 hr5 hb1; replace hg5 := Nat.le_trans hHeld.size hg5; (try replace hsl := hsl.below hb1)
            refine hK.out _ _ (fun _ => by (try dsimp only); exact bl_on hHeld hb1) (fun hHeld => ?_)
            replace hHeld := hHeld rfl
            clear hK K
            try go_frame
            refine dn_5 (by kernel_rfl) (fun K hK => ?_)
            rw [if_pos (by kernel_rfl)]
            go_simp; go_at_call 32; with_reducible refine (hash_StreamAdd v1 [] ⟨#[UInt8.ofNat (tag % 256).toNat]⟩ _ hv1 hone (by exact hC2.below hHeld)).mono ?_; rintro e w1 ⟨v2, rfl, hv2, hb1⟩; (try replace hsl := hsl.below hb1); (try replace hr5 := rowIs_below' hr5 hb1); go_simp
            refine hK.out _ _ (fun _ => by (try dsimp only); exact bl_on hHeld hb1) (fun hHeld => ?_)
            replace hHeld := hHeld rfl
            clear hK K
            try go_frame
            refine dn_7 (by kernel_rfl) (fun K hK => ?_)
            rw [if_pos (by kernel_rfl)]
            obtain ⟨bk5, rfl, hbl5, hbt5⟩ := id hv2; refine wp_store_over (g := Sha.strF _ bk5 _) _ _ _ rfl hr5 rfl rfl (by decide) aggStr (fun i _ => Sha.strF_one _ _ _ i) ?_
            refine hK.out _ _ (fun h => by cases h) (fun _ => ?_)
            clear hK K
            try go_frame
            refine wpAnyT_done (by kernel_rfl) ?_ _
            refine NoPanic.normal ?_
            go_wp2_with fail; go_meet; exact ⟨g5, Sha.strF (Sha.feed 0 Sha.init [UInt8.ofNat (tag % 256).toNat]) bk5 1, rfl, hg5, (row_setRow hr5 _).congr (fun j hj => by unfold over; rw [if_pos (by omega)]; rfl), (by simpa [ofInput] using hv2), below_setRow' hHeld hg5 _⟩
        · skip
          rw [if_pos (by kernel_rfl)]
          refine wp_alloc_arr rfl str_zero ?_; intro g5 w1 hg5 hr5 hb1; replace hg5 := Nat.le_trans hHeld.size hg5; (try replace hsl := hsl.below hb1)
          refine hK.out _ _ (fun _ => by (try dsimp only); exact bl_on hHeld hb1) (fun hHeld => ?_)
          replace hHeld := hHeld rfl
          clear hK K
          try go_frame
          refine dn_4 (by kernel_rfl) (fun K hK => ?_)
          rw [if_pos (by kernel_rfl)]
          have hcv := run_bytes_string _ 22 9 5 elBytes.ht Tryd.underlying5 Tryd.underlying9 (l := [UInt8.ofNat (tag % 256).toNat]) (by rw [← HT.out] at hsl; exact hsl); go_simp
          refine hK.out _ _ (fun _ => by (try dsimp only); exact hHeld) (fun hHeld => ?_)
          replace hHeld := hHeld rfl
          clear hK K
          try go_frame
          refine dn_5 (by kernel_rfl) (fun K hK => ?_)
          rw [if_pos (by kernel_rfl)]
          go_simp; go_at_call 32; with_reducible refine (hash_StreamAdd v1 [] ⟨#[UInt8.ofNat (tag % 256).toNat]⟩ _ hv1 hone (by exact hC2.below hHeld)).mono ?_; rintro e w1 ⟨v2, rfl, hv2, hb1⟩; (try replace hsl := hsl.below hb1); (try replace hr5 := rowIs_below' hr5 hb1); go_simp
          refine hK.out _ _ (fun _ => by (try dsimp only); exact bl_on hHeld hb1) (fun hHeld => ?_)
          replace hHeld := hHeld rfl
          clear hK K
          try go_frame
          refine dn_7 (by kernel_rfl) (fun K hK => ?_)
          rw [if_pos (by kernel_rfl)]
          obtain ⟨bk5, rfl, hbl5, hbt5⟩ := id hv2; refine wp_store_over (g := Sha.strF _ bk5 _) _ _ _ rfl hr5 rfl rfl (by decide) aggStr (fun i _ => Sha.strF_one _ _ _ i) ?_
          refine hK.out _ _ (fun h => by cases h) (fun _ => ?_)
          clear hK K
          try go_frame
          refine wpAnyT_done (by kernel_rfl) ?_ _
          refine NoPanic.normal ?_
          go_wp2_with fail; go_meet; exact ⟨g5, Sha.strF (Sha.feed 0 Sha.init [UInt8.ofNat (tag % 256).toNat]) bk5 1, rfl, hg5, (row_setRow hr5 _).congr (fun j hj => by unfold over; rw [if_pos (by omega)]; rfl), (by simpa [ofInput] using hv2), below_setRow' hHeld hg5 _⟩
      · skip
        rw [if_pos (by kernel_rfl)]
        have hcv := run_bytes_string _ 22 9 5 elBytes.ht Tryd.underlying5 Tryd.underlying9 (l := [UInt8.ofNat (tag % 256).toNat]) (by rw [← HT.out] at hsl; exact hsl); go_simp
        refine hK.out _ _ (fun _ => by (try dsimp only); exact hHeld) (fun hHeld => ?_)
        replace hHeld := hHeld rfl
        clear hK K
        try go_frame
        refine wpAnyT_ready (rs := [0, 6]) (by kernel_rfl) (by simp) (ca_0 (fun K hK => ?_) (ca_6 (fun K hK => ?_) AllT.nil))
        · skip
          rw [if_pos (by kernel_rfl)]
          go_simp; go_at_call 31; with_reducible refine (hash_Begin _).mono ?_; rintro e w1 ⟨v1, rfl, hv1, hb1⟩; (try replace hsl := hsl.below hb1); (try replace hr5 := rowIs_below' hr5 hb1); go_simp
          refine hK.out _ _ (fun _ => by (try dsimp only); exact bl_on hHeld hb1) (fun hHeld => ?_)
          replace hHeld := hHeld rfl
          clear hK K
          try go_frame
          refine wpAnyT_ready (rs := [5, 6]) (by kernel_rfl) (by simp) (ca_5 (fun K hK => ?_) (ca_6 (fun K hK => ?_) AllT.nil))
          · skip
            rw [if_pos (by kernel_rfl)]
            go_simp; go_at_call 32; with_reducible refine (hash_StreamAdd v1 [] ⟨#[UInt8.ofNat (tag % 256).toNat]⟩ _ hv1 hone (by exact hC2.below hHeld)).mono ?_; rintro e w1 ⟨v2, rfl, hv2, hb1⟩; (try replace hsl := hsl.below hb1); (try replace hr5 := rowIs_below' hr5 hb1); go_simp
            refine hK.out _ _ (fun _ => by (try dsimp only); exact bl_on hHeld hb1) (fun hHeld => ?_)
            replace hHeld := hHeld rfl
            clear hK K
            try go_frame
            refine dn_6 (by kernel_rfl) (fun K hK => ?_)
            rw [if_pos (by kernel_rfl)]
            refine wp_alloc_arr rfl str_zero ?_; intro g5 w1 hg5 hr5 hb1; replace hg5 := Nat.le_trans hHeld.size hg5; (try replace hsl := hsl.below hb1)
            refine hK.out _ _ (fun _ => by (try dsimp only); exact bl_on hHeld hb1) (fun hHeld => ?_)
            replace hHeld := hHeld rfl
            clear hK K
            try go_frame
            refine dn_7 (by kernel_rfl) (fun K hK => ?_)
            rw [if_pos (by kernel_rfl)]
            obtain ⟨bk5, rfl, hbl5, hbt5⟩ := id hv2; refine wp_store_over (g := Sha.strF _ bk5 _) _ _ _ rfl hr5 rfl rfl (by decide) aggStr (fun i _ => Sha.strF_one _ _ _ i) ?_
            refine hK.out _ _ (fun h => by cases h) (fun _ => ?_)
            clear hK K
            try go_frame
            refine wpAnyT_done (by kernel_rfl) ?_ _
            refine NoPanic.normal ?_
            go_wp2_with fail; go_meet; exact ⟨g5, Sha.strF (Sha.feed 0 Sha.init [UInt8.ofNat (tag % 256).toNat]) bk5 1, rfl, hg5, (row_setRow hr5 _).congr (fun j hj => by unfold over; rw [if_pos (by omega)]; rfl), (by simpa [ofInput] using hv2), below_setRow' hHeld hg5 _⟩
          · skip
            rw [if_pos (by kernel_rfl)]
            refine wp_alloc_arr rfl str_zero ?_; intro g5 w1 hg5 hr5 hb1; replace hg5 := Nat.le_trans hHeld.size hg5; (try replace hsl := hsl.below hb1)
            refine hK.out _ _ (fun _ => by (try dsimp only); exact bl_on hHeld hb1) (fun hHeld => ?_)
            replace hHeld := hHeld rfl
            clear hK K
            try go_frame
            refine dn_5 (by kernel_rfl) (fun K hK => ?_)
            rw [if_pos (by kernel_rfl)]
            go_simp; go_at_call 32; with_reducible refine (hash_StreamAdd v1 [] ⟨#[UInt8.ofNat (tag % 256).toNat]⟩ _ hv1 hone (by exact hC2.below hHeld)).mono ?_; rintro e w1 ⟨v2, rfl, hv2, hb1⟩; (try replace hsl := hsl.below hb1); (try replace hr5 := rowIs_below' hr5 hb1); go_simp
            refine hK.out _ _ (fun _ => by (try dsimp only); exact bl_on hHeld hb1) (fun hHeld => ?_)
            replace hHeld := hHeld rfl
            clear hK K
            try go_frame
            refine dn_7 (by kernel_rfl) (fun K hK => ?_)
            rw [if_pos (by kernel_rfl)]
            obtain ⟨bk5, rfl, hbl5, hbt5⟩ := id hv2; refine wp_store_over (g := Sha.strF _ bk5 _) _ _ _ rfl hr5 rfl rfl (by decide) aggStr (fun i _ => Sha.strF_one _ _ _ i) ?_
            refine hK.out _ _ (fun h => by cases h) (fun _ => ?_)
            clear hK K
            try go_frame
            refine wpAnyT_done (by kernel_rfl) ?_ _
            refine NoPanic.normal ?_
            go_wp2_with fail; go_meet; exact ⟨g5, Sha.strF (Sha.feed 0 Sha.init [UInt8.ofNat (tag % 256).toNat]) bk5 1, rfl, hg5, (row_setRow hr5 _).congr (fun j hj => by unfold over; rw [if_pos (by omega)]; rfl), (by simpa [ofInput] using hv2), below_setRow' hHeld hg5 _⟩
        · skip
          rw [if_pos (by kernel_rfl)]
          refine wp_alloc_arr rfl str_zero ?_; intro g5 w1 hg5 hr5 hb1; replace hg5 := Nat.le_trans hHeld.size hg5; (try replace hsl := hsl.below hb1)
          refine hK.out _ _ (fun _ => by (try dsimp only); exact bl_on hHeld hb1) (fun hHeld => ?_)
          replace hHeld := hHeld rfl
          clear hK K
          try go_frame
          refine dn_0 (by kernel_rfl) (fun K hK => ?_)
          rw [if_pos (by kernel_rfl)]
          go_simp; go_at_call 31; with_reducible refine (hash_Begin _).mono ?_; rintro e w1 ⟨v1, rfl, hv1, hb1⟩; (try replace hsl := hsl.below hb1); (try replace hr5 := rowIs_below' hr5 hb1); go_simp
          refine hK.out _ _ (fun _ => by (try dsimp only); exact bl_on hHeld hb1) (fun hHeld => ?_)
          replace hHeld := hHeld rfl
          clear hK K
          try go_frame
          refine dn_5 (by kernel_rfl) (fun K hK => ?_)
          rw [if_pos (by kernel_rfl)]
          go_simp; go_at_call 32; with_reducible refine (hash_StreamAdd v1 [] ⟨#[UInt8.ofNat (tag % 256).toNat]⟩ _ hv1 hone (by exact hC2.below hHeld)).mono ?_; rintro e w1 ⟨v2, rfl, hv2, hb1⟩; (try replace hsl := hsl.below hb1); (try replace hr5 := rowIs_below' hr5 hb1); go_simp
          refine hK.out _ _ (fun _ => by (try dsimp only); exact bl_on hHeld hb1) (fun hHeld => ?_)
          replace hHeld := hHeld rfl
          clear hK K
          try go_frame
          refine dn_7 (by kernel_rfl) (fun K hK => ?_)
          rw [if_pos (by kernel_rfl)]
          obtain ⟨bk5, rfl, hbl5, hbt5⟩ := id hv2; refine wp_store_over (g := Sha.strF _ bk5 _) _ _ _ rfl hr5 rfl rfl (by decide) aggStr (fun i _ => Sha.strF_one _ _ _ i) ?_
          refine hK.out _ _ (fun h => by cases h) (fun _ => ?_)
          clear hK K
          try go_frame
          refine wpAnyT_done (by kernel_rfl) ?_ _
          refine NoPanic.normal ?_
          go_wp2_with fail; go_meet; exact ⟨g5, Sha.strF (Sha.feed 0 Sha.init [UInt8.ofNat (tag % 256).toNat]) bk5 1, rfl, hg5, (row_setRow hr5 _).congr (fun j hj => by unfold over; rw [if_pos (by omega)]; rfl), (by simpa [ofInput] using hv2), below_setRow' hHeld hg5 _⟩
      · skip
        rw [if_pos (by kernel_rfl)]
        refine wp_alloc_arr rfl str_zero ?_; intro g5 w1 hg5 hr5 hb1; replace hg5 := Nat.le_trans hHeld.size hg5; (try replace hsl := hsl.below hb1)
        refine hK.out _ _ (fun _ => by (try dsimp only); exact bl_on hHeld hb1) (fun hHeld => ?_)
        replace hHeld := hHeld rfl
        clear hK K
        try go_frame
        refine wpAnyT_ready (rs := [0, 4]) (by kernel_rfl) (by simp) (ca_0 (fun K hK => ?_) (ca_4 (fun K hK => ?_) AllT.nil))
        · skip
          rw [if_pos (by kernel_rfl)]
          go_simp; go_at_call 31; with_reducible refine (hash_Begin _).mono ?_; rintro e w1 ⟨v1, rfl, hv1, hb1⟩; (try replace hsl := hsl.below hb1); (try replace hr5 := rowIs_below' hr5 hb1); go_simp
          refine hK.out _ _ (fun _ => by (try dsimp only); exact bl_on hHeld hb1) (fun hHeld => ?_)
          replace hHeld := hHeld rfl
          clear hK K
          try go_frame
          refine dn_4 (by kernel_rfl) (fun K hK => ?_)
          rw [if_pos (by kernel_rfl)]
          have hcv := run_bytes_string _ 22 9 5 elBytes.ht Tryd.underlying5 Tryd.underlying9 (l := [UInt8.ofNat (tag % 256).toNat]) (by rw [← HT.out] at hsl; exact hsl); go_simp
          refine hK.out _ _ (fun _ => by (try dsimp only); exact hHeld) (fun hHeld => ?_)
          replace hHeld := hHeld rfl
          clear hK K
          try go_frame
          refine dn_5 (by kernel_rfl) (fun K hK => ?_)
          rw [if_pos (by kernel_rfl)]
          go_simp; go_at_call 32; with_reducible refine (hash_StreamAdd v1 [] ⟨#[UInt8.ofNat (tag % 256).toNat]⟩ _ hv1 hone (by exact hC2.below hHeld)).mono ?_; rintro e w1 ⟨v2, rfl, hv2, hb1⟩; (try replace hsl := hsl.below hb1); (try replace hr5 := rowIs_below' hr5 hb1); go_simp
          refine hK.out _ _ (fun _ => by (try dsimp only); exact bl_on hHeld hb1) (fun hHeld => ?_)
          replace hHeld := hHeld rfl
          clear hK K
          try go_frame
          refine dn_7 (by kernel_rfl) (fun K hK => ?_)
          rw [if_pos (by kernel_rfl)]
          obtain ⟨bk5, rfl, hbl5, hbt5⟩ := id hv2; refine wp_store_over (g := Sha.strF _ bk5 _) _ _ _ rfl hr5 rfl rfl (by decide) aggStr (fun i _ => Sha.strF_one _ _ _ i) ?_
          refine hK.out _ _ (fun h => by cases h) (fun _ => ?_)
          clear hK K
          try go_frame
          refine wpAnyT_done (by kernel_rfl) ?_ _
          refine NoPanic.normal ?_
          go_wp2_with fail; go_meet; exact ⟨g5, Sha.strF (Sha.feed 0 Sha.init [UInt8.ofNat (tag % 256).toNat]) bk5 1, rfl, hg5, (row_setRow hr5 _).congr (fun j hj => by unfold over; rw [if_pos (by omega)]; rfl), (by simpa [ofInput] using hv2), below_setRow' hHeld hg5 _⟩
        · skip
          rw [if_pos (by kernel_rfl)]
          have hcv := run_bytes_string _ 22 9 5 elBytes.ht Tryd.underlying5 Tryd.underlying9 (l := [UInt8.ofNat (tag % 256).toNat]) (by rw [← HT.out] at hsl; exact hsl); go_simp
          refine hK.out _ _ (fun _ => by (try dsimp only); exact hHeld) (fun hHeld => ?_)
          replace hHeld := hHeld rfl
          clear hK K
          try go_frame
          refine dn_0 (by kernel_rfl) (fun K hK => ?_)
          rw [if_pos (by kernel_rfl)]
          go_simp; go_at_call 31; with_reducible refine (hash_Begin _).mono ?_; rintro e w1 ⟨v1, rfl, hv1, hb1⟩; (try replace hsl := hsl.below hb1); (try replace hr5 := rowIs_below' hr5 hb1); go_simp
          refine hK.out _ _ (fun _ => by (try dsimp only); exact bl_on hHeld hb1) (fun hHeld => ?_)
          replace hHeld := hHeld rfl
          clear hK K
          try go_frame
          refine dn_5 (by kernel_rfl) (fun K hK => ?_)
          rw [if_pos (by kernel_rfl)]
          go_simp; go_at_call 32; with_reducible refine (hash_StreamAdd v1 [] ⟨#[UInt8.ofNat (tag % 256).toNat]⟩ _ hv1 hone (by exact hC2.below hHeld)).mono ?_; rintro e w1 ⟨v2, rfl, hv2, hb1⟩; (try replace hsl := hsl.below hb1); (try replace hr5 := rowIs_below' hr5 hb1); go_simp
          refine hK.out _ _ (fun _ => by (try dsimp only); exact bl_on hHeld hb1) (fun hHeld => ?_)
          replace hHeld := hHeld rfl
          clear hK K
          try go_frame
          refine dn_7 (by kernel_rfl) (fun K hK => ?_)
          rw [if_pos (by kernel_rfl)]
          obtain ⟨bk5, rfl, hbl5, hbt5⟩ := id hv2; refine wp_store_over (g := Sha.strF _ bk5 _) _ _ _ rfl hr5 rfl rfl (by decide) aggStr (fun i _ => Sha.strF_one _ _ _ i) ?_
          refine hK.out _ _ (fun h => by cases h) (fun _ => ?_)
          clear hK K
          try go_frame
          refine wpAnyT_done (by kernel_rfl) ?_ _
          refine NoPanic.normal ?_
          go_wp2_with fail; go_meet; exact ⟨g5, Sha.strF (Sha.feed 0 Sha.init [UInt8.ofNat (tag % 256).toNat]) bk5 1, rfl, hg5, (row_setRow hr5 _).congr (fun j hj => by unfold over; rw [if_pos (by omega)]; rfl), (by simpa [ofInput] using hv2), below_setRow' hHeld hg5 _⟩
    · skip
      rw [if_pos (by kernel_rfl)]
      refine wp_alloc_arr rfl str_zero ?_; intro g5 w1 hg5 hr5 hb1; replace hg5 := Nat.le_trans hHeld.size hg5; (try replace hsl := hsl.below hb1)
      refine hK.out _ _ (fun _ => by (try dsimp only); exact bl_on hHeld hb1) (fun hHeld => ?_)
      replace hHeld := hHeld rfl
      clear hK K
      try go_frame
      refine wpAnyT_ready (rs := [0, 3]) (by kernel_rfl) (by simp) (ca_0 (fun K hK => ?_) (ca_3 (fun K hK => ?_) AllT.nil))
      · skip
        rw [if_pos (by kernel_rfl)]
        go_simp; go_at_call 31; with_reducible refine (hash_Begin _).mono ?_; rintro e w1 ⟨v1, rfl, hv1, hb1⟩; (try replace hsl := hsl.below hb1); (try replace hr5 := rowIs_below' hr5 hb1); go_simp
        refine hK.out _ _ (fun _ => by (try dsimp only); exact bl_on hHeld hb1) (fun hHeld => ?_)
        replace hHeld := hHeld rfl
        clear hK K
        try go_frame
        refine dn_3 (by kernel_rfl) (fun K hK => ?_)
        rw [if_pos (by kernel_rfl)]
        refine wp_built_byte _ _ rfl elBytes rfl ?_; intro g3 w1 _ hsl hb1; (try replace hr5 := rowIs_below' hr5 hb1)
        refine hK.out _ _ (fun _ => by (try dsimp only); exact bl_on hHeld hb1) (fun hHeld => ?_)
        replace hHeld := hHeld rfl
        clear hK K
        try go_frame
        refine dn_4 (by kernel_rfl) (fun K hK => ?_)
        rw [if_pos (by kernel_rfl)]
        have hcv := run_bytes_string _ 22 9 5 elBytes.ht Tryd.underlying5 Tryd.underlying9 (l := [UInt8.ofNat (tag % 256).toNat]) (by rw [← HT.out] at hsl; exact hsl); go_simp
        refine hK.out _ _ (fun _ => by (try dsimp only); exact hHeld) (fun hHeld => ?_)
        replace hHeld := hHeld rfl
        clear hK K
        try go_frame
        refine dn_5 (by kernel_rfl) (fun K hK => ?_)
        rw [if_pos (by kernel_rfl)]
        go_simp; go_at_call 32; with_reducible refine (hash_StreamAdd v1 [] ⟨#[UInt8.ofNat (tag % 256).toNat]⟩ _ hv1 hone (by exact hC2.below hHeld)).mono ?_; rintro e w1 ⟨v2, rfl, hv2, hb1⟩; (try replace hsl := hsl.below hb1); (try replace hr5 := rowIs_below' hr5 hb1); go_simp
        refine hK.out _ _ (fun _ => by (try dsimp only); exact bl_on hHeld hb1) (fun hHeld => ?_)
        replace hHeld := hHeld rfl
        clear hK K
        try go_frame
        refine dn_7 (by kernel_rfl) (fun K hK => ?_)
        rw [if_pos (by kernel_rfl)]
        obtain ⟨bk5, rfl, hbl5, hbt5⟩ := id hv2; refine wp_store_over (g := Sha.strF _ bk5 _) _ _ _ rfl hr5 rfl rfl (by decide) aggStr (fun i _ => Sha.strF_one _ _ _ i) ?_
        refine hK.out _ _ (fun h => by cases h) (fun _ => ?_)
        clear hK K
        try go_frame
        refine wpAnyT_done (by kernel_rfl) ?_ _
        refine NoPanic.normal ?_
        go_wp2_with fail; go_meet; exact ⟨g5, Sha.strF (Sha.feed 0 Sha.init [UInt8.ofNat (tag % 256).toNat]) bk5 1, rfl, hg5, (row_setRow hr5 _).congr (fun j hj => by unfold over; rw [if_pos (by omega)]; rfl), (by simpa [ofInput] using hv2), below_setRow' hHeld hg5 _⟩
      · skip
        rw [if_pos (by kernel_rfl)]
        refine wp_built_byte _ _ rfl elBytes rfl ?_; intro g3 w1 _ hsl hb1; (try replace hr5 := rowIs_below' hr5 hb1)
        refine hK.out _ _ (fun _ => by (try dsimp only); exact bl_on hHeld hb1) (fun hHeld => ?_)
        replace hHeld := hHeld rfl
        clear hK K
        try go_frame
        refine wpAnyT_ready (rs := [0, 4]) (by kernel_rfl) (by simp) (ca_0 (fun K hK => ?_) (ca_4 (fun K hK => ?_) AllT.nil))
        · skip
          rw [if_pos (by kernel_rfl)]
          go_simp; go_at_call 31; with_reducible refine (hash_Begin _).mono ?_; rintro e w1 ⟨v1, rfl, hv1, hb1⟩; (try replace hsl := hsl.below hb1); (try replace hr5 := rowIs_below' hr5 hb1); go_simp
          refine hK.out _ _ (fun _ => by (try dsimp only); exact bl_on hHeld hb1) (fun hHeld => ?_)
          replace hHeld := hHeld rfl
          clear hK K
          try go_frame
          refine dn_4 (by kernel_rfl) (fun K hK => ?_)
          rw [if_pos (by kernel_rfl)]
          have hcv := run_bytes_string _ 22 9 5 elBytes.ht Tryd.underlying5 Tryd.underlying9 (l := [UInt8.ofNat (tag % 256).toNat]) (by rw [← HT.out] at hsl; exact hsl); go_simp
          refine hK.out _ _ (fun _ => by (try dsimp only); exact hHeld) (fun hHeld => ?_)
          replace hHeld := hHeld rfl
          clear hK K
          try go_frame
          refine dn_5 (by kernel_rfl) (fun K hK => ?_)
          rw [if_pos (by kernel_rfl)]
          go_simp; go_at_call 32; with_reducible refine (hash_StreamAdd v1 [] ⟨#[UInt8.ofNat (tag % 256).toNat]⟩ _ hv1 hone (by exact hC2.below hHeld)).mono ?_; rintro e w1 ⟨v2, rfl, hv2, hb1⟩; (try replace hsl := hsl.below hb1); (try replace hr5 := rowIs_below' hr5 hb1); go_simp
          refine hK.out _ _ (fun _ => by (try dsimp only); exact bl_on hHeld hb1) (fun hHeld => ?_)
          replace hHeld := hHeld rfl
          clear hK K
          try go_frame
          refine dn_7 (by kernel_rfl) (fun K hK => ?_)
          rw [if_pos (by kernel_rfl)]
          obtain ⟨bk5, rfl, hbl5, hbt5⟩ := id hv2; refine wp_store_over (g := Sha.strF _ bk5 _) _ _ _ rfl hr5 rfl rfl (by decide) aggStr (fun i _ => Sha.strF_one _ _ _ i) ?_
          refine hK.out _ _ (fun h => by cases h) (fun _ => ?_)
          clear hK K
          try go_frame
          refine wpAnyT_done (by kernel_rfl) ?_ _
          refine NoPanic.normal ?_
          go_wp2_with fail; go_meet; exact ⟨g5, Sha.strF (Sha.feed 0 Sha.init [UInt8.ofNat (tag % 256).toNat]) bk5 1, rfl, hg5, (row_setRow hr5 _).congr (fun j hj => by unfold over; rw [if_pos (by omega)]; rfl), (by simpa [ofInput] using hv2), below_setRow' hHeld hg5 _⟩
        · skip
          rw [if_pos (by kernel_rfl)]
          have hcv := run_bytes_string _ 22 9 5 elBytes.ht Tryd.underlying5 Tryd.underlying9 (l := [UInt8.ofNat (tag % 256).toNat]) (by rw [← HT.out] at hsl; exact hsl); go_simp
          refine hK.out _ _ (fun _ => by (try dsimp only); exact hHeld) (fun hHeld => ?_)
          replace hHeld := hHeld rfl
          clear hK K
          try go_frame
          refine dn_0 (by kernel_rfl) (fun K hK => ?_)
          rw [if_pos (by kernel_rfl)]
          go_simp; go_at_call 31; with_reducible refine (hash_Begin _).mono ?_; rintro e w1 ⟨v1, rfl, hv1, hb1⟩; (try replace hsl := hsl.below hb1); (try replace hr5 := rowIs_below' hr5 hb1); go_simp
          refine hK.out _ _ (fun _ => by (try dsimp only); exact bl_on hHeld hb1) (fun hHeld => ?_)
          replace hHeld := hHeld rfl
          clear hK K
          try go_frame
          refine dn_5 (by kernel_rfl) (fun K hK => ?_)
          rw [if_pos (by kernel_rfl)]
          go_simp; go_at_call 32; with_reducible refine (hash_StreamAdd v1 [] ⟨#[UInt8.ofNat (tag % 256).toNat]⟩ _ hv1 hone (by exact hC2.below hHeld)).mono ?_; rintro e w1 ⟨v2, rfl, hv2, hb1⟩; (try replace hsl := hsl.below hb1); (try replace hr5 := rowIs_below' hr5 hb1); go_simp
          refine hK.out _ _ (fun _ => by (try dsimp only); exact bl_on hHeld hb1) (fun hHeld => ?_)
          replace hHeld := hHeld rfl
          clear hK K
          try go_frame
          refine dn_7 (by kernel_rfl) (fun K hK => ?_)
          rw [if_pos (by kernel_rfl)]
          obtain ⟨bk5, rfl, hbl5, hbt5⟩ := id hv2; refine wp_store_over (g := Sha.strF _ bk5 _) _ _ _ rfl hr5 rfl rfl (by decide) aggStr (fun i _ => Sha.strF_one _ _ _ i) ?_
          refine hK.out _ _ (fun h => by cases h) (fun _ => ?_)
          clear hK K
          try go_frame
          refine wpAnyT_done (by kernel_rfl) ?_ _
          refine NoPanic.normal ?_
          go_wp2_with fail; go_meet; exact ⟨g5, Sha.strF (Sha.feed 0 Sha.init [UInt8.ofNat (tag % 256).toNat]) bk5 1, rfl, hg5, (row_setRow hr5 _).congr (fun j hj => by unfold over; rw [if_pos (by omega)]; rfl), (by simpa [ofInput] using hv2), below_setRow' hHeld hg5 _⟩
  case rest =>
    obtain ⟨g, F, rfl, hg, hrg, hv, hBc⟩ := hcut
    clear hS hone HT
    obtain ⟨A, c, rfl, hnc, hcm, hr⟩ := hl2
    unfold maxLen at hcm
    go_wp2_with fail
    obtain ⟨wo, hwo⟩ : ∃ wo : World, wo = W0 := ⟨_, rfl⟩
    go_loopw [17] (fun u17 wi => ∃ (k : Nat) (F : Nat → Value), k ≤ l.length ∧ u17 = .int .i64 k ∧ wi.rowIs g 53 73 F ∧ Sha.IsStream (.agg (arr 73 F)) (ofInput tag (l.take k)) ∧ Below W0.heap.size W0 wi) (fun u17 _ => l.length - (intOf u17).toNat)
    case atStart => exact ⟨0, F, Nat.zero_le _, rfl, hrg, by simpa using hv, hBc⟩
    case round =>
      clear hrg hv hBc
      obtain ⟨k, F, hk, rfl, hrg, hv, hBi⟩ := hrel
      have hr1 := hr.below hBi
      by_cases hlt : k < l.length
      · obtain ⟨ad, s, rfl, hab, hx, hc⟩ := hr1.elem hlt rfl
        have hsz : s.size ≤ 1000000 := hb s (List.mem_of_getElem? hx)
        have hel := encBytes_10 s hsz
        have hlen := of_len tag (l.take k) (fun x hx => hb x (List.mem_of_mem_take hx))
        have htl : (l.take k).length = k := by rw [List.length_take]; omega
        rw [htl] at hlen
        have hlen2 : (ofInput tag (l.take k)).length + (⟨(encBytes s).toArray⟩ : ByteArray).size ≤ 1000000000000000 := by rw [ba_sz]; omega
        have HS := Lib.hid (of_snoc tag l k s hx)
        have HL := Lib.hid htl
        clear htl hlen hel hx hr1 hb
        go_wp2_with fail
        refine wp_region_lasts (fun w' => Below wr.heap.size wr w') (fun i => i == 5) (by kernel_rfl) (Below.refl _ _).drew (fun hHeld => ?_)
        refine tk_1 (v := ?_) (by kernel_rfl) (by kernel_rfl) (by kernel_rfl) (by kernel_rfl) (fun _ _ _ h => h) (Or.inl ⟨by kernel_rfl, ?_⟩) (by assumption) ?_
        rotate_left
        · (intro wS hSw; (try dsimp only at hSw); (go_simp); (all_goals (with_reducible rfl)))
        try go_frame
        refine tk_0 (v := ?_) (by kernel_rfl) (by kernel_rfl) (by kernel_rfl) (by kernel_rfl) (fun _ _ _ h => h) (Or.inl ⟨by kernel_rfl, ?_⟩) (by assumption) ?_
        rotate_left
        · (intro wS hSw; (try dsimp only at hSw); (refine exec_load_arr 53 (.tmp 5) ?_ (rowIs_below' hrg hSw) ?_ aggStr <;> rfl); (all_goals (with_reducible rfl)))
        try go_frame
        refine dn_2 (by kernel_rfl) (fun K hK => ?_)
        rw [if_pos (by kernel_rfl)]
        go_simp; go_at_call 48; (with_reducible refine (wire_Bytes s _ (by omega)).mono ?_); intro e w1 hmade; obtain ⟨v1, rfl, hown1, hb1⟩ := hmade; have hsl := Sl.of_own hown1; go_simp
        refine hK.out _ _ (fun _ => by (try dsimp only); exact bl_on hHeld hb1) (fun hHeld => ?_)
        replace hHeld := hHeld rfl
        clear hK K
        try go_frame
        refine dn_3 (by kernel_rfl) (fun K hK => ?_)
        rw [if_pos (by kernel_rfl)]
        have hcv := run_bytes_string _ 22 9 5 elBytes.ht Tryd.underlying5 Tryd.underlying9 hsl; go_simp
        refine hK.out _ _ (fun _ => by (try dsimp only); exact hHeld) (fun hHeld => ?_)
        replace hHeld := hHeld rfl
        clear hK K
        try go_frame
        refine dn_4 (by kernel_rfl) (fun K hK => ?_)
        rw [if_pos (by kernel_rfl)]
        go_simp; go_at_call 32; with_reducible refine (hash_StreamAdd _ _ ⟨(encBytes s).toArray⟩ _ hv hlen2 (by exact hC2.below (hBi.trans (hHeld.mono hBi.size)))).mono ?_; rintro e w1 ⟨v2, rfl, hv2, hb1⟩; go_simp
        refine hK.out _ _ (fun _ => by (try dsimp only); exact bl_on hHeld hb1) (fun hHeld => ?_)
        replace hHeld := hHeld rfl
        clear hK K
        try go_frame
        obtain ⟨bk5, rfl, hbl5, hbt5⟩ := id hv2
        have hr5 := rowIs_below' hrg hHeld
        have hB5 := hBi.trans (hHeld.mono hBi.size)
        refine dn_5 (by kernel_rfl) (fun K hK => ?_)
        rw [if_pos (by kernel_rfl)]
        refine wp_store_over (g := Sha.strF _ bk5 _) _ _ _ rfl hr5 rfl rfl (by decide) aggStr (fun i _ => Sha.strF_one _ _ _ i) ?_
        refine hK.out _ _ (fun h => by cases h) (fun _ => ?_)
        clear hK K
        try go_frame
        refine wpAnyT_done (by kernel_rfl) ?_ _
        refine NoPanic.normal ?_
        go_wp2_with fail
        go_roundw
        case rel => exact ⟨k + 1, _, hlt, by go_num, (row_setRow hr5 _).congr (g := Sha.strF _ bk5 _) (fun j hj => by unfold over; rw [if_pos (by omega)]; simp), Eq.mpr (congrArg (Sha.IsStream _) HS.out) hv2, below_setRow' hB5 hg _⟩
        case measure => simp [intOf]; omega
      · obtain rfl : k = l.length := by omega
        rw [List.take_length] at hv
        go_wp2_with (with_reducible refine wpList_load_arr (o := ⟨some 27, _, _, _, _, _⟩) rfl _ _ rfl hrg rfl aggStr ?_)
        have hlen := of_len tag l hb
        refine (hash_StreamSum _ _ _ hv (by omega) (hC2.below hBi)).mono ?_
        rintro e w1 ⟨rfl, hb1⟩
        have hrw := row_new w1 (List.replicate 32 (bv 0)).toArray 47 32 (fun _ => bv 0) rfl (fun i hi => rep_at 32 i _ hi)
        have hat : ∀ w' : World, (Instr.arrayAt 58 (.slice (some ⟨w1.heap.size, 0, none⟩) 16 32)).run Tryd.prog w' = .ok (.pointer (some ⟨w1.heap.size, 0, none⟩)) w' := fun w' => by simp [Instr.arrayAt, run_underlying Tryd.underlying58]
        have hrowE := rowIs_below' hrow (hBi.trans (hb1.mono hBi.size))
        have hwlt : w.heap.size < w1.heap.size := hrowE.lt
        have hBE : Below w.heap.size w w1 := (hB.trans (hBi.mono hB.size)).trans (hb1.mono (Nat.le_trans hB.size hBi.size))
        have hwle := Nat.le_of_lt hwlt
        have HNE := Lib.hid (Nat.ne_of_lt hwlt)
        go_wp2_with (first
          | (refine wpList_store_arr (o := ⟨none, _, _, _, _, _⟩) rfl _ _ _ rfl hrw rfl rfl aggSum (fun _ _ => rfl) ?_; intro hrw2; have hrow3 := row_setRow_other (hrowE.alloc (.cells (List.replicate 32 (bv 0)).toArray 47)) HNE.out (arr 32 fun i => bv ((Sha.sha (ofInput tag l)).getD i 0)); have hB3 := below_setRow' (hBE.alloc hwle (.cells (List.replicate 32 (bv 0)).toArray 47)) hwle (arr 32 fun i => bv ((Sha.sha (ofInput tag l)).getD i 0)))
          | (with_reducible refine wpList_load_far (o := ⟨some 31, _, _, _, _, _⟩) (ad := ⟨w1.heap.size, 0, none⟩) (n := 16) (f := fun i => bv ((Sha.sha (ofInput tag l)).getD i 0)) rfl _ _ rfl (fun i hi => ?_) rfl aggDig ?_)
          | (refine wpList_store_arr (o := ⟨none, _, _, _, _, _⟩) rfl _ _ _ rfl hrow3 rfl rfl aggDig (fun _ _ => rfl) ?_; intro hrow4))
        · rw [Addr.add_lit, Nat.zero_add]
          exact hrw2.cell (by omega)
        · exact bodyPost_arr (p := 4) (by rfl) hrow4 (by rfl) aggDig (by rfl) ⟨rfl, below_setRow' hB3 (Nat.le_refl _) _⟩
end Go.Proofs.YtafehbnnoncieaaDoor
