/-
  Lemmas, part 5. Conditions: none.
-/
import Derived.Test.YtakbadleipbngaaDoorP4
import Derived.Laws.MakeOwn
import Derived.Laws.CopyRow
set_option linter.all false
set_option maxRecDepth 100000
namespace Go.Proofs.YtakbadleipbngaaDoor
open Go.RowKit
theorem aggDig : Agg Tryd.prog 59 16 := ⟨⟨_, Tryd.underlying59, rfl⟩, by kernel_rfl⟩
def ofInput (tag : Int) (l : List ByteArray) : List UInt8 := UInt8.ofNat (tag % 256).toNat :: l.flatMap encBytes
theorem encBytes_10 (s : ByteArray) (h : s.size ≤ 1000000) : (encBytes s).length ≤ s.size + 10 := by
  have := enc_length_10 (zig s.size) (zig_lt _ (by omega) (by omega))
  simp only [encBytes, encInt, List.length_append]
  simp
  omega
theorem of_len (tag : Int) : ∀ (l : List ByteArray), (∀ s ∈ l, s.size ≤ 1000000) → (ofInput tag l).length ≤ 1 + l.length * 1000100
  | [], _ => by simp [ofInput]
  | s :: l, h => by
    have h1 := of_len tag l (fun x hx => h x (List.mem_cons_of_mem _ hx))
    have h3 := h s (List.mem_cons_self ..)
    have h2 := encBytes_10 s h3
    simp only [ofInput, List.length_cons, List.flatMap_cons, List.length_append] at h1 ⊢
    omega
theorem of_snoc (tag : Int) (l : List ByteArray) (k : Nat) (s : ByteArray) (h : l[k]? = some s) : ofInput tag (l.take (k + 1)) = ofInput tag (l.take k) ++ encBytes s := by
  unfold ofInput
  rw [List.take_add_one, h]; simp
def digVal (l : List UInt8) : Value := .agg (arr 16 (fun i => bv ((Sha.sha l).getD i 0)))
set_option maxHeartbeats 2000000 in
set_option maxRecDepth 100000 in
theorem hash_Of (tag : Int) (l : List ByteArray) (x : Value) (w : World) (_h1 : -9223372036854775808 ≤ tag) (_h2 : tag ≤ 9223372036854775807) (hl : Sl w x 1 l.length (l.map Value.string)) (hb : ∀ s ∈ l, s.size ≤ 1000000) (hn : l.length ≤ 1000000) (hC : Consts w) :
    Calls Tryd.prog 23 #[.int .i64 tag, x] w fun e w' => e = .returned (digVal (ofInput tag l)) ∧ Below w.heap.size w w' := by
  have hrow := row_new w (List.replicate 16 (bv 0)).toArray 59 16 (fun _ => bv 0) rfl (fun i hi => rep_at 16 i _ hi)
  have hB := (Below.refl w.heap.size w).alloc (Nat.le_refl _) (.cells (List.replicate 16 (bv 0)).toArray 59)
  have hl2 := hl.alloc (.cells (List.replicate 16 (bv 0)).toArray 59)
  have hC2 := hC.below hB
  have hz := str_zero
  go_enter Tryd.func23, Tryd.ntmps23
  go_wp2_with fail
  obtain ⟨W0, hW0⟩ : ∃ W0, W0 = w.alloc (.cells (List.replicate 16 (bv 0)).toArray 59) := ⟨_, rfl⟩
  have hS : Below W0.heap.size W0 (w.alloc (.cells (List.replicate 16 (bv 0)).toArray 59)).drew := by rw [hW0]; exact (Below.refl _ _).drew
  have hz0 : W0.heap.size = w.heap.size + 1 := by rw [hW0]; simp
  rw [← hW0] at hrow hB hl2 hC2
  clear hW0 hl hC
  have htag : bv (UInt8.ofNat (tag % 256).toNat) = .int .u8 (IntKind.u8.wrap tag) := by
    rw [bv_ofNat _ (by omega), IntKind.wrap_u8]; congr 1; omega
  have HT := Lib.hid htag
  clear htag
  have hone : ([] : List UInt8).length + (⟨#[UInt8.ofNat (tag % 256).toNat]⟩ : ByteArray).size ≤ 1000000000000000 := by show 0 + 1 ≤ _; omega
  go_cut [5] (fun u5 wc => ∃ (g : Nat) (F : Nat → Value), u5 = .pointer (some ⟨g, 0, none⟩) ∧ W0.heap.size ≤ g ∧ wc.rowIs g 84 73 F ∧ Sha.IsStream (.agg (arr 73 F)) (ofInput tag []) ∧ Below W0.heap.size W0 wc)
  case first =>
    refine wp_region_lasts (fun w' => Below W0.heap.size W0 w') (fun i => i == 7) (by kernel_rfl) hS (fun hHeld => ?_)
    refine tk_1 (v := ?_) (by kernel_rfl) (by kernel_rfl) (by kernel_rfl) (by kernel_rfl) (fun _ _ _ h => h) (Or.inl ⟨by kernel_rfl, ?_⟩) (by assumption) ?_
    rotate_left
    · (intro wS hSw; (try dsimp only at hSw); (go_simp); (all_goals (with_reducible rfl)))
    try go_frame
    refine tk_2 (v := ?_) (by kernel_rfl) (by kernel_rfl) (by kernel_rfl) (by kernel_rfl) (fun _ _ _ h => h) (Or.inl ⟨by kernel_rfl, ?_⟩) (by assumption) ?_
    rotate_left
    · (intro wS hSw; (try dsimp only at hSw); (go_simp); (all_goals (with_reducible rfl)))
    try go_frame
    refine wpAnyT_ready (rs := [0, 3, 6]) (by kernel_rfl) (by simp) (ca_0 (fun K hK => ?_) (ca_3 (fun K hK => ?_) (ca_6 (fun K hK => ?_) AllT.nil)))
    · skip
      rw [if_pos (by kernel_rfl)]
      go_simp; go_at_call 44; with_reducible refine (hash_Begin _).mono ?_; rintro e w1 ⟨v1, rfl, hv1, hb1⟩; (try replace hsl := hsl.below hb1); (try replace hr5 := rowIs_below' hr5 hb1); go_simp
      refine hK.out _ _ (fun _ => by (try dsimp only); exact bl_on hHeld hb1) (fun hHeld => ?_)
      replace hHeld := hHeld rfl
      clear hK K
      try go_frame
      refine wpAnyT_ready (rs := [3, 6]) (by kernel_rfl) (by simp) (ca_3 (fun K hK => ?_) (ca_6 (fun K hK => ?_) AllT.nil))
      · skip
        rw [if_pos (by kernel_rfl)]
        refine wp_built_byte _ _ rfl elBytes rfl ?_; intro g3 w1 _ hsl hb1; (try replace hr5 := rowIs_below' hr5 hb1)
        refine hK.out _ _ (fun _ => by (try dsimp only); exact bl_on hHeld hb1) (fun hHeld => ?_)
        replace hHeld := hHeld rfl
        clear hK K
        try go_frame
        refine wpAnyT_ready (rs := [4, 6]) (by kernel_rfl) (by simp) (ca_4 (fun K hK => ?_) (ca_6 (fun K hK => ?_) AllT.nil))
        · skip
          rw [if_pos (by kernel_rfl)]
          have hcv := run_bytes_string _ 24 9 5 elBytes.ht Tryd.underlying5 Tryd.underlying9 (l := [UInt8.ofNat (tag % 256).toNat]) (by rw [← HT.out] at hsl; exact hsl); go_simp
          refine hK.out _ _ (fun _ => by (try dsimp only); exact hHeld) (fun hHeld => ?_)
          replace hHeld := hHeld rfl
          clear hK K
          try go_frame
          refine wpAnyT_ready (rs := [5, 6]) (by kernel_rfl) (by simp) (ca_5 (fun K hK => ?_) (ca_6 (fun K hK => ?_) AllT.nil))
          · skip
            rw [if_pos (by kernel_rfl)]
            go_simp; go_at_call 45; with_reducible refine (hash_StreamAdd v1 [] ⟨#[UInt8.ofNat (tag % 256).toNat]⟩ _ hv1 hone (by exact hC2.below hHeld)).mono ?_; rintro e w1 ⟨v2, rfl, hv2, hb1⟩; (try replace hsl := hsl.below hb1); (try replace hr5 := rowIs_below' hr5 hb1); go_simp
            refine hK.out _ _ (fun _ => by (try dsimp only); exact bl_on hHeld hb1) (fun hHeld => ?_)
            replace hHeld := hHeld rfl
            clear hK K
            try go_frame
            refine dn_6 (by kernel_rfl) (fun K hK => ?_)
            rw [if_pos (by kernel_rfl)]
            refine wp_alloc_arr rfl str_zero ?_; intro g5 w1 hg5 hr5 hb1; replace hg5 := Nat.le_trans hHeld.size hg5; (try replace hsl := hsl.below hb1)
            refine hK.out _ _ (fun _ => by (try dsimp only); exact bl_on hHeld hb1) (fun hHeld => ?_)
            replace hHeld := hHeld rfl
            clear hK K
            try go_frame
            refine dn_7 (by kernel_rfl) (fun K hK => ?_)
            rw [if_pos (by kernel_rfl)]
            obtain ⟨bk5, rfl, hbl5, hbt5⟩ := id hv2; refine wp_store_over (g := Sha.strF _ bk5 _) _ _ _ rfl hr5 rfl rfl (by decide) aggStr (fun i _ => Sha.strF_one _ _ _ i) ?_
            refine hK.out _ _ (fun h => by cases h) (fun _ => ?_)
            clear hK K
            try go_frame
            refine wpAnyT_done (by kernel_rfl) ?_ _
            refine NoPanic.normal ?_
            go_wp2_with fail; go_meet; exact ⟨g5, Sha.strF (Sha.feed 0 Sha.init [UInt8.ofNat (tag % 256).toNat]) bk5 1, rfl, hg5, (row_setRow hr5 _).congr (fun j hj => by unfold over; rw [if_pos (by omega)]; rfl), (by simpa [ofInput] using hv2), below_setRow' hHeld hg5 _⟩
          · skip
            rw [if_pos (by kernel_rfl)]
            refine wp_alloc_arr rfl str_zero ?_; intro g5 w1 hg5 hr5 hb1; replace hg5 := Nat.le_trans hHeld.size hg5; (try replace hsl := hsl.below hb1)
            refine hK.out _ _ (fun _ => by (try dsimp only); exact bl_on hHeld hb1) (fun hHeld => ?_)
            replace hHeld := hHeld rfl
            clear hK K
            try go_frame
            refine dn_5 (by kernel_rfl) (fun K hK => ?_)
            rw [if_pos (by kernel_rfl)]
            go_simp; go_at_call 45; with_reducible refine (hash_StreamAdd v1 [] ⟨#[UInt8.ofNat (tag % 256).toNat]⟩ _ hv1 hone (by exact hC2.below hHeld)).mono ?_; rintro e w1 ⟨v2, rfl, hv2, hb1⟩; (try replace hsl := hsl.below hb1); (try replace hr5 := rowIs_below' hr5 hb1); go_simp
            refine hK.out _ _ (fun _ => by (try dsimp only); exact bl_on hHeld hb1) (fun hHeld => ?_)
            replace hHeld := hHeld rfl
            clear hK K
            try go_frame
            refine dn_7 (by kernel_rfl) (fun K hK => ?_)
            rw [if_pos (by kernel_rfl)]
            obtain ⟨bk5, rfl, hbl5, hbt5⟩ := id hv2; refine wp_store_over (g := Sha.strF _ bk5 _) _ _ _ rfl hr5 rfl rfl (by decide) aggStr (fun i _ => Sha.strF_one _ _ _ i) ?_
            refine hK.out _ _ (fun h => by cases h) (fun _ => ?_)
            clear hK K
            try go_frame
            refine wpAnyT_done (by kernel_rfl) ?_ _
            refine NoPanic.normal ?_
            go_wp2_with fail; go_meet; exact ⟨g5, Sha.strF (Sha.feed 0 Sha.init [UInt8.ofNat (tag % 256).toNat]) bk5 1, rfl, hg5, (row_setRow hr5 _).congr (fun j hj => by unfold over; rw [if_pos (by omega)]; rfl), (by simpa [ofInput] using hv2), below_setRow' hHeld hg5 _⟩
        · skip
          rw [if_pos (by kernel_rfl)]
          refine wp_alloc_arr rfl str_zero ?_; intro g5 w1 hg5 hr5 hb1; replace hg5 := Nat.le_trans hHeld.size hg5; (try replace hsl := hsl.below hb1)
          refine hK.out _ _ (fun _ => by (try dsimp only); exact bl_on hHeld hb1) (fun hHeld => ?_)
          replace hHeld := hHeld rfl
          clear hK K
          try go_frame
          refine dn_4 (by kernel_rfl) (fun K hK => ?_)
          rw [if_pos (by kernel_rfl)]
          have hcv := run_bytes_string _ 24 9 5 elBytes.ht Tryd.underlying5 Tryd.underlying9 (l := [UInt8.ofNat (tag % 256).toNat]) (by rw [← HT.out] at hsl; exact hsl); go_simp
          refine hK.out _ _ (fun _ => by (try dsimp only); exact hHeld) (fun hHeld => ?_)
          replace hHeld := hHeld rfl
          clear hK K
          try go_frame
          refine dn_5 (by kernel_rfl) (fun K hK => ?_)
          rw [if_pos (by kernel_rfl)]
          go_simp; go_at_call 45; with_reducible refine (hash_StreamAdd v1 [] ⟨#[UInt8.ofNat (tag % 256).toNat]⟩ _ hv1 hone (by exact hC2.below hHeld)).mono ?_; rintro e w1 ⟨v2, rfl, hv2, hb1⟩; (try replace hsl := hsl.below hb1); (try replace hr5 := rowIs_below' hr5 hb1); go_simp
          refine hK.out _ _ (fun _ => by (try dsimp only); exact bl_on hHeld hb1) (fun hHeld => ?_)
          replace hHeld := hHeld rfl
          clear hK K
          try go_frame
          refine dn_7 (by kernel_rfl) (fun K hK => ?_)
          rw [if_pos (by kernel_rfl)]
          obtain ⟨bk5, rfl, hbl5, hbt5⟩ := id hv2; refine wp_store_over (g := Sha.strF _ bk5 _) _ _ _ rfl hr5 rfl rfl (by decide) aggStr (fun i _ => Sha.strF_one _ _ _ i) ?_
          refine hK.out _ _ (fun h => by cases h) (fun _ => ?_)
          clear hK K
          try go_frame
          refine wpAnyT_done (by kernel_rfl) ?_ _
          refine NoPanic.normal ?_
          go_wp2_with fail; go_meet; exact ⟨g5, Sha.strF (Sha.feed 0 Sha.init [UInt8.ofNat (tag % 256).toNat]) bk5 1, rfl, hg5, (row_setRow hr5 _).congr (fun j hj => by unfold over; rw [if_pos (by omega)]; rfl), (by simpa [ofInput] using hv2), below_setRow' hHeld hg5 _⟩
      · skip
        rw [if_pos (by kernel_rfl)]
        refine wp_alloc_arr rfl str_zero ?_; intro g5 w1 hg5 hr5 hb1; replace hg5 := Nat.le_trans hHeld.size hg5; (try replace hsl := hsl.below hb1)
        refine hK.out _ _ (fun _ => by (try dsimp only); exact bl_on hHeld hb1) (fun hHeld => ?_)
        replace hHeld := hHeld rfl
        clear hK K
        try go_frame
        refine dn_3 (by kernel_rfl) (fun K hK => ?_)
        rw [if_pos (by kernel_rfl)]
        refine wp_built_byte _ _ rfl elBytes rfl ?_; intro g3 w1 _ hsl hb1; (try replace hr5 := rowIs_below' hr5 hb1)
        refine hK.out _ _ (fun _ => by (try dsimp only); exact bl_on hHeld hb1) (fun hHeld => ?_)
        replace hHeld := hHeld rfl
        clear hK K
        try go_frame
        refine dn_4 (by kernel_rfl) (fun K hK => ?_)
        rw [if_pos (by kernel_rfl)]
        have hcv := run_bytes_string _ 24 9 5 elBytes.ht Tryd.underlying5 Tryd.underlying9 (l := [UInt8.ofNat (tag % 256).toNat]) (by rw [← HT.out] at hsl; exact hsl); go_simp
        refine hK.out _ _ (fun _ => by (try dsimp only); exact hHeld) (fun hHeld => ?_)
        replace hHeld := hHeld rfl
        clear hK K
        try go_frame
        refine dn_5 (by kernel_rfl) (fun K hK => ?_)
        rw [if_pos (by kernel_rfl)]
        go_simp; go_at_call 45; with_reducible refine (hash_StreamAdd v1 [] ⟨#[UInt8.ofNat (tag % 256).toNat]⟩ _ hv1 hone (by exact hC2.below hHeld)).mono ?_; rintro e w1 ⟨v2, rfl, hv2, hb1⟩; (try replace hsl := hsl.below hb1); (try replace hr5 := rowIs_below' hr5 hb1); go_simp
        refine hK.out _ _ (fun _ => by (try dsimp only); exact bl_on hHeld hb1) (fun hHeld => ?_)
        replace hHeld := hHeld rfl
        clear hK K
        try go_frame
        refine dn_7 (by kernel_rfl) (fun K hK => ?_)
        rw [if_pos (by kernel_rfl)]
        obtain ⟨bk5, rfl, hbl5, hbt5⟩ := id hv2; refine wp_store_over (g := Sha.strF _ bk5 _) _ _ _ rfl hr5 rfl rfl (by decide) aggStr (fun i _ => Sha.strF_one _ _ _ i) ?_
        refine hK.out _ _ (fun h => by cases h) (fun _ => ?_)
        clear hK K
        try go_frame
        refine wpAnyT_done (by kernel_rfl) ?_ _
        refine NoPanic.normal ?_
        go_wp2_with fail; go_meet; exact ⟨g5, Sha.strF (Sha.feed 0 Sha.init [UInt8.ofNat (tag % 256).toNat]) bk5 1, rfl, hg5, (row_setRow hr5 _).congr (fun j hj => by unfold over; rw [if_pos (by omega)]; rfl), (by simpa [ofInput] using hv2), below_setRow' hHeld hg5 _⟩
    · skip
      rw [if_pos (by kernel_rfl)]
      refine wp_built_byte _ _ rfl elBytes rfl ?_; intro g3 w1 _ hsl hb1; (try replace hr5 := rowIs_below' hr5 hb1)
      refine hK.out _ _ (fun _ => by (try dsimp only); exact bl_on hHeld hb1) (fun hHeld => ?_)
      replace hHeld := hHeld rfl
      clear hK K
      try go_frame
      refine wpAnyT_ready (rs := [0, 4, 6]) (by kernel_rfl) (by simp) (ca_0 (fun K hK => ?_) (ca_4 (fun K hK => ?_) (ca_6 (fun K hK => ?_) AllT.nil)))
      · skip
        rw [if_pos (by kernel_rfl)]
        go_simp; go_at_call 44; with_reducible refine (hash_Begin _).mono ?_; rintro e w1 ⟨v1, rfl, hv1, hb1⟩; (try replace hsl := hsl.below hb1); (try replace hr5 := rowIs_below' hr5 hb1); go_simp
        refine hK.out _ _ (fun _ => by (try dsimp only); exact bl_on hHeld hb1) (fun hHeld => ?_)
        replace hHeld := hHeld rfl
        clear hK K
        try go_frame
        refine wpAnyT_ready (rs := [4, 6]) (by kernel_rfl) (by simp) (ca_4 (fun K hK => ?_) (ca_6 (fun K hK => ?_) AllT.nil))
        · skip
          rw [if_pos (by kernel_rfl)]
          have hcv := run_bytes_string _ 24 9 5 elBytes.ht Tryd.underlying5 Tryd.underlying9 (l := [UInt8.ofNat (tag % 256).toNat]) (by rw [← HT.out] at hsl; exact hsl); go_simp
          refine hK.out _ _ (fun _ => by (try dsimp only); exact hHeld) (fun hHeld => ?_)
          replace hHeld := hHeld rfl
          clear hK K
          try go_frame
          refine wpAnyT_ready (rs := [5, 6]) (by kernel_rfl) (by simp) (ca_5 (fun K hK => ?_) (ca_6 (fun K hK => ?_) AllT.nil))
          · skip
            rw [if_pos (by kernel_rfl)]
            go_simp; go_at_call 45; with_reducible refine (hash_StreamAdd v1 [] ⟨#[UInt8.ofNat (tag % 256).toNat]⟩ _ hv1 hone (by exact hC2.below hHeld)).mono ?_; rintro e w1 ⟨v2, rfl, hv2, hb1⟩; (try replace hsl := hsl.below hb1); (try replace hr5 := rowIs_below' hr5 hb1); go_simp
            refine hK.out _ _ (fun _ => by (try dsimp only); exact bl_on hHeld hb1) (fun hHeld => ?_)
            replace hHeld := hHeld rfl
            clear hK K
            try go_frame
            refine dn_6 (by kernel_rfl) (fun K hK => ?_)
            rw [if_pos (by kernel_rfl)]
            refine wp_alloc_arr rfl str_zero ?_; intro g5 w1 hg5 hr5 hb1; replace hg5 := Nat.le_trans hHeld.size hg5; (try replace hsl := hsl.below hb1)
            refine hK.out _ _ (fun _ => by (try dsimp only); exact bl_on hHeld hb1) (fun hHeld => ?_)
            replace hHeld := hHeld rfl
            clear hK K
            try go_frame
            refine dn_7 (by kernel_rfl) (fun K hK => ?_)
            rw [if_pos (by kernel_rfl)]
            obtain ⟨bk5, rfl, hbl5, hbt5⟩ := id hv2; refine wp_store_over (g := Sha.strF _ bk5 _) _ _ _ rfl hr5 rfl rfl (by decide) aggStr (fun i _ => Sha.strF_one _ _ _ i) ?_
            refine hK.out _ _ (fun h => by cases h) (fun _ => ?_)
            clear hK K
            try go_frame
            refine wpAnyT_done (by kernel_rfl) ?_ _
            refine NoPanic.normal ?_
            go_wp2_with fail; go_meet; exact ⟨g5, Sha.strF (Sha.feed 0 Sha.init [UInt8.ofNat (tag % 256).toNat]) bk5 1, rfl, hg5, (row_setRow hr5 _).congr (fun j hj => by unfold over; rw [if_pos (by omega)]; rfl), (by simpa [ofInput] using hv2), below_setRow' hHeld hg5 _⟩
          · skip
            rw [if_pos (by kernel_rfl)]
            refine wp_alloc_arr rfl str_zero ?_; intro g5 w1 hg5 hr5 hb1; replace hg5 := Nat.le_trans hHeld.size hg5; (try replace hsl := hsl.below hb1)
            refine hK.out _ _ (fun _ => by (try dsimp only); exact bl_on hHeld hb1) (fun hHeld => ?_)
            replace hHeld := hHeld rfl
            clear hK K
            try go_frame
            refine dn_5 (by kernel_rfl) (fun K hK => ?_)
            rw [if_pos (by kernel_rfl)]
            go_simp; go_at_call 45; with_reducible refine (hash_StreamAdd v1 [] ⟨#[UInt8.ofNat (tag % 256).toNat]⟩ _ hv1 hone (by exact hC2.below hHeld)).mono ?_; rintro e w1 ⟨v2, rfl, hv2, hb1⟩; (try replace hsl := hsl.below hb1); (try replace hr5 := rowIs_below' hr5 hb1); go_simp
            refine hK.out _ _ (fun _ => by (try dsimp only); exact bl_on hHeld hb1) (fun hHeld => ?_)
            replace hHeld := hHeld rfl
            clear hK K
            try go_frame
            refine dn_7 (by kernel_rfl) (fun K hK => ?_)
            rw [if_pos (by kernel_rfl)]
            obtain ⟨bk5, rfl, hbl5, hbt5⟩ := id hv2; refine wp_store_over (g := Sha.strF _ bk5 _) _ _ _ rfl hr5 rfl rfl (by decide) aggStr (fun i _ => Sha.strF_one _ _ _ i) ?_
            refine hK.out _ _ (fun h => by cases h) (fun _ => ?_)
            clear hK K
            try go_frame
            refine wpAnyT_done (by kernel_rfl) ?_ _
            refine NoPanic.normal ?_
            go_wp2_with fail; go_meet; exact ⟨g5, Sha.strF (Sha.feed 0 Sha.init [UInt8.ofNat (tag % 256).toNat]) bk5 1, rfl, hg5, (row_setRow hr5 _).congr (fun j hj => by unfold over; rw [if_pos (by omega)]; rfl), (by simpa [ofInput] using hv2), below_setRow' hHeld hg5 _⟩
        · skip
          rw [if_pos (by kernel_rfl)]
          refine wp_alloc_arr rfl str_zero ?_; intro g5 w1 hg5 hr5 hb1; replace hg5 := Nat.le_trans hHeld.size hg5; (try replace hsl := hsl.below hb1)
          refine hK.out _ _ (fun _ => by (try dsimp only); exact bl_on hHeld hb1) (fun hHeld => ?_)
          replace hHeld := hHeld rfl
          clear hK K
          try go_frame
          refine dn_4 (by kernel_rfl) (fun K hK => ?_)
          rw [if_pos (by kernel_rfl)]
          have hcv := run_bytes_string _ 24 9 5 elBytes.ht Tryd.underlying5 Tryd.underlying9 (l := [UInt8.ofNat (tag % 256).toNat]) (by rw [← HT.out] at hsl; exact hsl); go_simp
          refine hK.out _ _ (fun _ => by (try dsimp only); exact hHeld) (fun hHeld => ?_)
          replace hHeld := hHeld rfl
          clear hK K
          try go_frame
          refine dn_5 (by kernel_rfl) (fun K hK => ?_)
          rw [if_pos (by kernel_rfl)]
          go_simp; go_at_call 45; with_reducible refine (hash_StreamAdd v1 [] ⟨#[UInt8.ofNat (tag % 256).toNat]⟩ _ hv1 hone (by exact hC2.below hHeld)).mono ?_; rintro e w1 ⟨v2, rfl, hv2, hb1⟩; (try replace hsl := hsl.below hb1); (try replace hr5 := rowIs_below' hr5 hb1); go_simp
          refine hK.out _ _ (fun _ => by (try dsimp only); exact bl_on hHeld hb1) (fun hHeld => ?_)
          replace hHeld := hHeld rfl
          clear hK K
          try go_frame
          refine dn_7 (by kernel_rfl) (fun K hK => ?_)
          rw [if_pos (by kernel_rfl)]
          obtain ⟨bk5, rfl, hbl5, hbt5⟩ := id hv2; refine wp_store_over (g := Sha.strF _ bk5 _) _ _ _ rfl hr5 rfl rfl (by decide) aggStr (fun i _ => Sha.strF_one _ _ _ i) ?_
          refine hK.out _ _ (fun h => by cases h) (fun _ => ?_)
          clear hK K
          try go_frame
          refine wpAnyT_done (by kernel_rfl) ?_ _
          refine NoPanic.normal ?_
          go_wp2_with fail; go_meet; exact ⟨g5, Sha.strF (Sha.feed 0 Sha.init [UInt8.ofNat (tag % 256).toNat]) bk5 1, rfl, hg5, (row_setRow hr5 _).congr (fun j hj => by unfold over; rw [if_pos (by omega)]; rfl), (by simpa [ofInput] using hv2), below_setRow' hHeld hg5 _⟩
      · skip
        rw [if_pos (by kernel_rfl)]
        have hcv := run_bytes_string _ 24 9 5 elBytes.ht Tryd.underlying5 Tryd.underlying9 (l := [UInt8.ofNat (tag % 256).toNat]) (by rw [← HT.out] at hsl; exact hsl); go_simp
        refine hK.out _ _ (fun _ => by (try dsimp only); exact hHeld) (fun hHeld => ?_)
        replace hHeld := hHeld rfl
        clear hK K
        try go_frame
        refine wpAnyT_ready (rs := [0, 6]) (by kernel_rfl) (by simp) (ca_0 (fun K hK => ?_) (ca_6 (fun K hK => ?_) AllT.nil))
        · skip
          rw [if_pos (by kernel_rfl)]
          go_simp; go_at_call 44; with_reducible refine (hash_Begin _).mono ?_; rintro e w1 ⟨v1, rfl, hv1, hb1⟩; (try replace hsl := hsl.below hb1); (try replace hr5 := rowIs_below' hr5 hb1); go_simp
          refine hK.out _ _ (fun _ => by (try dsimp only); exact bl_on hHeld hb1) (fun hHeld => ?_)
          replace hHeld := hHeld rfl
          clear hK K
          try go_frame
          refine wpAnyT_ready (rs := [5, 6]) (by kernel_rfl) (by simp) (ca_5 (fun K hK => ?_) (ca_6 (fun K hK => ?_) AllT.nil))
          · skip
            rw [if_pos (by kernel_rfl)]
            go_simp; go_at_call 45; with_reducible refine (hash_StreamAdd v1 [] ⟨#[UInt8.ofNat (tag % 256).toNat]⟩ _ hv1 hone (by exact hC2.below hHeld)).mono ?_; rintro e w1 ⟨v2, rfl, hv2, hb1⟩; (try replace hsl := hsl.below hb1); (try replace hr5 := rowIs_below' hr5 hb1); go_simp
            refine hK.out _ _ (fun _ => by (try dsimp only); exact bl_on hHeld hb1) (fun hHeld => ?_)
            replace hHeld := hHeld rfl
            clear hK K
            try go_frame
            refine dn_6 (by kernel_rfl) (fun K hK => ?_)
            rw [if_pos (by kernel_rfl)]
            refine wp_alloc_arr rfl str_zero ?_; intro g5 w1 hg5 hr5 hb1; replace hg5 := Nat.le_trans hHeld.size hg5; (try replace hsl := hsl.below hb1)
            refine hK.out _ _ (fun _ => by (try dsimp only); exact bl_on hHeld hb1) (fun hHeld => ?_)
            replace hHeld := hHeld rfl
            clear hK K
            try go_frame
            refine dn_7 (by kernel_rfl) (fun K hK => ?_)
            rw [if_pos (by kernel_rfl)]
            obtain ⟨bk5, rfl, hbl5, hbt5⟩ := id hv2; refine wp_store_over (g := Sha.strF _ bk5 _) _ _ _ rfl hr5 rfl rfl (by decide) aggStr (fun i _ => Sha.strF_one _ _ _ i) ?_
            refine hK.out _ _ (fun h => by cases h) (fun _ => ?_)
            clear hK K
            try go_frame
            refine wpAnyT_done (by kernel_rfl) ?_ _
            refine NoPanic.normal ?_
            go_wp2_with fail; go_meet; exact ⟨g5, Sha.strF (Sha.feed 0 Sha.init [UInt8.ofNat (tag % 256).toNat]) bk5 1, rfl, hg5, (row_setRow hr5 _).congr (fun j hj => by unfold over; rw [if_pos (by omega)]; rfl), (by simpa [ofInput] using hv2), below_setRow' hHeld hg5 _⟩
          · skip
            rw [if_pos (by kernel_rfl)]
            refine wp_alloc_arr rfl str_zero ?_; intro g5 w1 hg5 hr5 hb1; replace hg5 := Nat.le_trans hHeld.size hg5; (try replace hsl := hsl.below hb1)
            refine hK.out _ _ (fun _ => by (try dsimp only); exact bl_on hHeld hb1) (fun hHeld => ?_)
            replace hHeld := hHeld rfl
            clear hK K
            try go_frame
            refine dn_5 (by kernel_rfl) (fun K hK => ?_)
            rw [if_pos (by kernel_rfl)]
            go_simp; go_at_call 45; with_reducible refine (hash_StreamAdd v1 [] ⟨#[UInt8.ofNat (tag % 256).toNat]⟩ _ hv1 hone (by exact hC2.below hHeld)).mono ?_; rintro e w1 ⟨v2, rfl, hv2, hb1⟩; (try replace hsl := hsl.below hb1); (try replace hr5 := rowIs_below' hr5 hb1); go_simp
            refine hK.out _ _ (fun _ => by (try dsimp only); exact bl_on hHeld hb1) (fun hHeld => ?_)
            replace hHeld := hHeld rfl
            clear hK K
            try go_frame
            refine dn_7 (by kernel_rfl) (fun K hK => ?_)
            rw [if_pos (by kernel_rfl)]
            obtain ⟨bk5, rfl, hbl5, hbt5⟩ := id hv2; refine wp_store_over (g := Sha.strF _ bk5 _) _ _ _ rfl hr5 rfl rfl (by decide) aggStr (fun i _ => Sha.strF_one _ _ _ i) ?_
            refine hK.out _ _ (fun h => by cases h) (fun _ => ?_)
            clear hK K
            try go_frame
            refine wpAnyT_done (by kernel_rfl) ?_ _
            refine NoPanic.normal ?_
            go_wp2_with fail; go_meet; exact ⟨g5, Sha.strF (Sha.feed 0 Sha.init [UInt8.ofNat (tag % 256).toNat]) bk5 1, rfl, hg5, (row_setRow hr5 _).congr (fun j hj => by unfold over; rw [if_pos (by omega)]; rfl), (by simpa [ofInput] using hv2), below_setRow' hHeld hg5 _⟩
        · skip
          rw [if_pos (by kernel_rfl)]
          refine wp_alloc_arr rfl str_zero ?_; intro g5 w1 hg5 hr5 hb1; replace hg5 := Nat.le_trans hHeld.size hg5; (try replace hsl := hsl.below hb1)
          refine hK.out _ _ (fun _ => by (try dsimp only); exact bl_on hHeld hb1) (fun hHeld => ?_)
          replace hHeld := hHeld rfl
          clear hK K
          try go_frame
          refine dn_0 (by kernel_rfl) (fun K hK => ?_)
          rw [if_pos (by kernel_rfl)]
          go_simp; go_at_call 44; with_reducible refine (hash_Begin _).mono ?_; rintro e w1 ⟨v1, rfl, hv1, hb1⟩; (try replace hsl := hsl.below hb1); (try replace hr5 := rowIs_below' hr5 hb1); go_simp
          refine hK.out _ _ (fun _ => by (try dsimp only); exact bl_on hHeld hb1) (fun hHeld => ?_)
          replace hHeld := hHeld rfl
          clear hK K
          try go_frame
          refine dn_5 (by kernel_rfl) (fun K hK => ?_)
          rw [if_pos (by kernel_rfl)]
          go_simp; go_at_call 45; with_reducible refine (hash_StreamAdd v1 [] ⟨#[UInt8.ofNat (tag % 256).toNat]⟩ _ hv1 hone (by exact hC2.below hHeld)).mono ?_; rintro e w1 ⟨v2, rfl, hv2, hb1⟩; (try replace hsl := hsl.below hb1); (try replace hr5 := rowIs_below' hr5 hb1); go_simp
          refine hK.out _ _ (fun _ => by (try dsimp only); exact bl_on hHeld hb1) (fun hHeld => ?_)
          replace hHeld := hHeld rfl
          clear hK K
          try go_frame
          refine dn_7 (by kernel_rfl) (fun K hK => ?_)
          rw [if_pos (by kernel_rfl)]
          obtain ⟨bk5, rfl, hbl5, hbt5⟩ := id hv2; refine wp_store_over (g := Sha.strF _ bk5 _) _ _ _ rfl hr5 rfl rfl (by decide) aggStr (fun i _ => Sha.strF_one _ _ _ i) ?_
          refine hK.out _ _ (fun h => by cases h) (fun _ => ?_)
          clear hK K
          try go_frame
          refine wpAnyT_done (by kernel_rfl) ?_ _
          refine NoPanic.normal ?_
          go_wp2_with fail; go_meet; exact ⟨g5, Sha.strF (Sha.feed 0 Sha.init [UInt8.ofNat (tag % 256).toNat]) bk5 1, rfl, hg5, (row_setRow hr5 _).congr (fun j hj => by unfold over; rw [if_pos (by omega)]; rfl), (by simpa [ofInput] using hv2), below_setRow' hHeld hg5 _⟩
      · skip
        rw [if_pos (by kernel_rfl)]
        refine wp_alloc_arr rfl str_zero ?_; intro g5 w1 hg5 hr5 hb1; replace hg5 := Nat.le_trans hHeld.size hg5; (try replace hsl := hsl.below hb1)
        refine hK.out _ _ (fun _ => by (try dsimp only); exact bl_on hHeld hb1) (fun hHeld => ?_)
        replace hHeld := hHeld rfl
        clear hK K
        try go_frame
        refine wpAnyT_ready (rs := [0, 4]) (by kernel_rfl) (by simp) (ca_0 (fun K hK => ?_) (ca_4 (fun K hK => ?_) AllT.nil))
        · skip
          rw [if_pos (by kernel_rfl)]
          go_simp; go_at_call 44; with_reducible refine (hash_Begin _).mono ?_; rintro e w1 ⟨v1, rfl, hv1, hb1⟩; (try replace hsl := hsl.below hb1); (try replace hr5 := rowIs_below' hr5 hb1); go_simp
          refine hK.out _ _ (fun _ => by (try dsimp only); exact bl_on hHeld hb1) (fun hHeld => ?_)
          replace hHeld := hHeld rfl
          clear hK K
          try go_frame
          refine dn_4 (by kernel_rfl) (fun K hK => ?_)
          rw [if_pos (by kernel_rfl)]
          have hcv := run_bytes_string _ 24 9 5 elBytes.ht Tryd.underlying5 Tryd.underlying9 (l := [UInt8.ofNat (tag % 256).toNat]) (by rw [← HT.out] at hsl; exact hsl); go_simp
          refine hK.out _ _ (fun _ => by (try dsimp only); exact hHeld) (fun hHeld => ?_)
          replace hHeld := hHeld rfl
          clear hK K
          try go_frame
          refine dn_5 (by kernel_rfl) (fun K hK => ?_)
          rw [if_pos (by kernel_rfl)]
          go_simp; go_at_call 45; with_reducible refine (hash_StreamAdd v1 [] ⟨#[UInt8.ofNat (tag % 256).toNat]⟩ _ hv1 hone (by exact hC2.below hHeld)).mono ?_; rintro e w1 ⟨v2, rfl, hv2, hb1⟩; (try replace hsl := hsl.below hb1); (try replace hr5 := rowIs_below' hr5 hb1); go_simp
          refine hK.out _ _ (fun _ => by (try dsimp only); exact bl_on hHeld hb1) (fun hHeld => ?_)
          replace hHeld := hHeld rfl
          clear hK K
          try go_frame
          refine dn_7 (by kernel_rfl) (fun K hK => ?_)
          rw [if_pos (by kernel_rfl)]
          obtain ⟨bk5, rfl, hbl5, hbt5⟩ := id hv2; refine wp_store_over (g := Sha.strF _ bk5 _) _ _ _ rfl hr5 rfl rfl (by decide) aggStr (fun i _ => Sha.strF_one _ _ _ i) ?_
          refine hK.out _ _ (fun h => by cases h) (fun _ => ?_)
          clear hK K
          try go_frame
          refine wpAnyT_done (by kernel_rfl) ?_ _
          refine NoPanic.normal ?_
          go_wp2_with fail; go_meet; exact ⟨g5, Sha.strF (Sha.feed 0 Sha.init [UInt8.ofNat (tag % 256).toNat]) bk5 1, rfl, hg5, (row_setRow hr5 _).congr (fun j hj => by unfold over; rw [if_pos (by omega)]; rfl), (by simpa [ofInput] using hv2), below_setRow' hHeld hg5 _⟩
        · skip
          rw [if_pos (by kernel_rfl)]
          have hcv := run_bytes_string _ 24 9 5 elBytes.ht Tryd.underlying5 Tryd.underlying9 (l := [UInt8.ofNat (tag % 256).toNat]) (by rw [← HT.out] at hsl; exact hsl); go_simp
          refine hK.out _ _ (fun _ => by (try dsimp only); exact hHeld) (fun hHeld => ?_)
          replace hHeld := hHeld rfl
          clear hK K
          try go_frame
          refine dn_0 (by kernel_rfl) (fun K hK => ?_)
          rw [if_pos (by kernel_rfl)]
          go_simp; go_at_call 44; with_reducible refine (hash_Begin _).mono ?_; rintro e w1 ⟨v1, rfl, hv1, hb1⟩; (try replace hsl := hsl.below hb1); (try replace hr5 := rowIs_below' hr5 hb1); go_simp
          refine hK.out _ _ (fun _ => by (try dsimp only); exact bl_on hHeld hb1) (fun hHeld => ?_)
          replace hHeld := hHeld rfl
          clear hK K
          try go_frame
          refine dn_5 (by kernel_rfl) (fun K hK => ?_)
          rw [if_pos (by kernel_rfl)]
          go_simp; go_at_call 45; with_reducible refine (hash_StreamAdd v1 [] ⟨#[UInt8.ofNat (tag % 256).toNat]⟩ _ hv1 hone (by exact hC2.below hHeld)).mono ?_; rintro e w1 ⟨v2, rfl, hv2, hb1⟩; (try replace hsl := hsl.below hb1); (try replace hr5 := rowIs_below' hr5 hb1); go_simp
          refine hK.out _ _ (fun _ => by (try dsimp only); exact bl_on hHeld hb1) (fun hHeld => ?_)
          replace hHeld := hHeld rfl
          clear hK K
          try go_frame
          refine dn_7 (by kernel_rfl) (fun K hK => ?_)
          rw [if_pos (by kernel_rfl)]
          obtain ⟨bk5, rfl, hbl5, hbt5⟩ := id hv2; refine wp_store_over (g := Sha.strF _ bk5 _) _ _ _ rfl hr5 rfl rfl (by decide) aggStr (fun i _ => Sha.strF_one _ _ _ i) ?_
          refine hK.out _ _ (fun h => by cases h) (fun _ => ?_)
          clear hK K
          try go_frame
          refine wpAnyT_done (by kernel_rfl) ?_ _
          refine NoPanic.normal ?_
          go_wp2_with fail; go_meet; exact ⟨g5, Sha.strF (Sha.feed 0 Sha.init [UInt8.ofNat (tag % 256).toNat]) bk5 1, rfl, hg5, (row_setRow hr5 _).congr (fun j hj => by unfold over; rw [if_pos (by omega)]; rfl), (by simpa [ofInput] using hv2), below_setRow' hHeld hg5 _⟩
    · skip
      rw [if_pos (by kernel_rfl)]
      refine wp_alloc_arr rfl str_zero ?_; intro g5 w1 hg5 hr5 hb1; replace hg5 := Nat.le_trans hHeld.size hg5; (try replace hsl := hsl.below hb1)
      refine hK.out _ _ (fun _ => by (try dsimp only); exact bl_on hHeld hb1) (fun hHeld => ?_)
      replace hHeld := hHeld rfl
      clear hK K
      try go_frame
      refine wpAnyT_ready (rs := [0, 3]) (by kernel_rfl) (by simp) (ca_0 (fun K hK => ?_) (ca_3 (fun K hK => ?_) AllT.nil))
      · skip
        rw [if_pos (by kernel_rfl)]
        go_simp; go_at_call 44; with_reducible refine (hash_Begin _).mono ?_; rintro e w1 ⟨v1, rfl, hv1, hb1⟩; (try replace hsl := hsl.below hb1); (try replace hr5 := rowIs_below' hr5 hb1); go_simp
        refine hK.out _ _ (fun _ => by (try dsimp only); exact bl_on hHeld hb1) (fun hHeld => ?_)
        replace hHeld := hHeld rfl
        clear hK K
        try go_frame
        refine dn_3 (by kernel_rfl) (fun K hK => ?_)
        rw [if_pos (by kernel_rfl)]
        refine wp_built_byte _ _ rfl elBytes rfl ?_; intro g3 w1 _ hsl hb1; (try replace hr5 := rowIs_below' hr5 hb1)
        refine hK.out _ _ (fun _ => by (try dsimp only); exact bl_on hHeld hb1) (fun hHeld => ?_)
        replace hHeld := hHeld rfl
        clear hK K
        try go_frame
        refine dn_4 (by kernel_rfl) (fun K hK => ?_)
        rw [if_pos (by kernel_rfl)]
        have hcv := run_bytes_string _ 24 9 5 elBytes.ht Tryd.underlying5 Tryd.underlying9 (l := [UInt8.ofNat (tag % 256).toNat]) (by rw [← HT.out] at hsl; exact hsl); go_simp
        refine hK.out _ _ (fun _ => by (try dsimp only); exact hHeld) (fun hHeld => ?_)
        replace hHeld := hHeld rfl
        clear hK K
        try go_frame
        refine dn_5 (by kernel_rfl) (fun K hK => ?_)
        rw [if_pos (by kernel_rfl)]
        go_simp; go_at_call 45; with_reducible refine (hash_StreamAdd v1 [] ⟨#[UInt8.ofNat (tag % 256).toNat]⟩ _ hv1 hone (by exact hC2.below hHeld)).mono ?_; rintro e w1 ⟨v2, rfl, hv2, hb1⟩; (try replace hsl := hsl.below hb1); (try replace hr5 := rowIs_below' hr5 hb1); go_simp
        refine hK.out _ _ (fun _ => by (try dsimp only); exact bl_on hHeld hb1) (fun hHeld => ?_)
        replace hHeld := hHeld rfl
        clear hK K
        try go_frame
        refine dn_7 (by kernel_rfl) (fun K hK => ?_)
        rw [if_pos (by kernel_rfl)]
        obtain ⟨bk5, rfl, hbl5, hbt5⟩ := id hv2; refine wp_store_over (g := Sha.strF _ bk5 _) _ _ _ rfl hr5 rfl rfl (by decide) aggStr (fun i _ => Sha.strF_one _ _ _ i) ?_
        refine hK.out _ _ (fun h => by cases h) (fun _ => ?_)
        clear hK K
        try go_frame
        refine wpAnyT_done (by kernel_rfl) ?_ _
        refine NoPanic.normal ?_
        go_wp2_with fail; go_meet; exact ⟨g5, Sha.strF (Sha.feed 0 Sha.init [UInt8.ofNat (tag % 256).toNat]) bk5 1, rfl, hg5, (row_setRow hr5 _).congr (fun j hj => by unfold over; rw [if_pos (by omega)]; rfl), (by simpa [ofInput] using hv2), below_setRow' hHeld hg5 _⟩
      · skip
        rw [if_pos (by kernel_rfl)]
        refine wp_built_byte _ _ rfl elBytes rfl ?_; intro g3 w1 _ hsl hb1; (try replace hr5 := rowIs_below' hr5 hb1)
        refine hK.out _ _ (fun _ => by (try dsimp only); exact bl_on hHeld hb1) (fun hHeld => ?_)
        replace hHeld := hHeld rfl
        clear hK K
        try go_frame
        refine wpAnyT_ready (rs := [0, 4]) (by kernel_rfl) (by simp) (ca_0 (fun K hK => ?_) (ca_4 (fun K hK => ?_) AllT.nil))
        · skip
          rw [if_pos (by kernel_rfl)]
          go_simp; go_at_call 44; with_reducible refine (hash_Begin _).mono ?_; rintro e w1 ⟨v1, rfl, hv1, hb1⟩; (try replace hsl := hsl.below hb1); (try replace hr5 := rowIs_below' hr5 hb1); go_simp
          refine hK.out _ _ (fun _ => by (try dsimp only); exact bl_on hHeld hb1) (fun hHeld => ?_)
          replace hHeld := hHeld rfl
          clear hK K
          try go_frame
          refine dn_4 (by kernel_rfl) (fun K hK => ?_)
          rw [if_pos (by kernel_rfl)]
          have hcv := run_bytes_string _ 24 9 5 elBytes.ht Tryd.underlying5 Tryd.underlying9 (l := [UInt8.ofNat (tag % 256).toNat]) (by rw [← HT.out] at hsl; exact hsl); go_simp
          refine hK.out _ _ (fun _ => by (try dsimp only); exact hHeld) (fun hHeld => ?_)
          replace hHeld := hHeld rfl
          clear hK K
          try go_frame
          refine dn_5 (by kernel_rfl) (fun K hK => ?_)
          rw [if_pos (by kernel_rfl)]
          go_simp; go_at_call 45; with_reducible refine (hash_StreamAdd v1 [] ⟨#[UInt8.ofNat (tag % 256).toNat]⟩ _ hv1 hone (by exact hC2.below hHeld)).mono ?_; rintro e w1 ⟨v2, rfl, hv2, hb1⟩; (try replace hsl := hsl.below hb1); (try replace hr5 := rowIs_below' hr5 hb1); go_simp
          refine hK.out _ _ (fun _ => by (try dsimp only); exact bl_on hHeld hb1) (fun hHeld => ?_)
          replace hHeld := hHeld rfl
          clear hK K
          try go_frame
          refine dn_7 (by kernel_rfl) (fun K hK => ?_)
          rw [if_pos (by kernel_rfl)]
          obtain ⟨bk5, rfl, hbl5, hbt5⟩ := id hv2; refine wp_store_over (g := Sha.strF _ bk5 _) _ _ _ rfl hr5 rfl rfl (by decide) aggStr (fun i _ => Sha.strF_one _ _ _ i) ?_
          refine hK.out _ _ (fun h => by cases h) (fun _ => ?_)
          clear hK K
          try go_frame
          refine wpAnyT_done (by kernel_rfl) ?_ _
          refine NoPanic.normal ?_
          go_wp2_with fail; go_meet; exact ⟨g5, Sha.strF (Sha.feed 0 Sha.init [UInt8.ofNat (tag % 256).toNat]) bk5 1, rfl, hg5, (row_setRow hr5 _).congr (fun j hj => by unfold over; rw [if_pos (by omega)]; rfl), (by simpa [ofInput] using hv2), below_setRow' hHeld hg5 _⟩
        · skip
          rw [if_pos (by kernel_rfl)]
          have hcv := run_bytes_string _ 24 9 5 elBytes.ht Tryd.underlying5 Tryd.underlying9 (l := [UInt8.ofNat (tag % 256).toNat]) (by rw [← HT.out] at hsl; exact hsl); go_simp
          refine hK.out _ _ (fun _ => by (try dsimp only); exact hHeld) (fun hHeld => ?_)
          replace hHeld := hHeld rfl
          clear hK K
          try go_frame
          refine dn_0 (by kernel_rfl) (fun K hK => ?_)
          rw [if_pos (by kernel_rfl)]
          go_simp; go_at_call 44; with_reducible refine (hash_Begin _).mono ?_; rintro e w1 ⟨v1, rfl, hv1, hb1⟩; (try replace hsl := hsl.below hb1); (try replace hr5 := rowIs_below' hr5 hb1); go_simp
          refine hK.out _ _ (fun _ => by (try dsimp only); exact bl_on hHeld hb1) (fun hHeld => ?_)
          replace hHeld := hHeld rfl
          clear hK K
          try go_frame
          refine dn_5 (by kernel_rfl) (fun K hK => ?_)
          rw [if_pos (by kernel_rfl)]
          go_simp; go_at_call 45; with_reducible refine (hash_StreamAdd v1 [] ⟨#[UInt8.ofNat (tag % 256).toNat]⟩ _ hv1 hone (by exact hC2.below hHeld)).mono ?_; rintro e w1 ⟨v2, rfl, hv2, hb1⟩; (try replace hsl := hsl.below hb1); (try replace hr5 := rowIs_below' hr5 hb1); go_simp
          refine hK.out _ _ (fun _ => by (try dsimp only); exact bl_on hHeld hb1) (fun hHeld => ?_)
          replace hHeld := hHeld rfl
          clear hK K
          try go_frame
          refine dn_7 (by kernel_rfl) (fun K hK => ?_)
          rw [if_pos (by kernel_rfl)]
          obtain ⟨bk5, rfl, hbl5, hbt5⟩ := id hv2; refine wp_store_over (g := Sha.strF _ bk5 _) _ _ _ rfl hr5 rfl rfl (by decide) aggStr (fun i _ => Sha.strF_one _ _ _ i) ?_
          refine hK.out _ _ (fun h => by cases h) (fun _ => ?_)
          clear hK K
          try go_frame
          refine wpAnyT_done (by kernel_rfl) ?_ _
          refine NoPanic.normal ?_
          go_wp2_with fail; go_meet; exact ⟨g5, Sha.strF (Sha.feed 0 Sha.init [UInt8.ofNat (tag % 256).toNat]) bk5 1, rfl, hg5, (row_setRow hr5 _).congr (fun j hj => by unfold over; rw [if_pos (by omega)]; rfl), (by simpa [ofInput] using hv2), below_setRow' hHeld hg5 _⟩
  case rest =>
    obtain ⟨g, F, rfl, hg, hrg, hv, hBc⟩ := hcut
    clear hS hone HT
    obtain ⟨A, c, rfl, hnc, hcm, hr⟩ := hl2
    unfold maxLen at hcm
    go_wp2_with fail
    obtain ⟨wo, hwo⟩ : ∃ wo : World, wo = W0 := ⟨_, rfl⟩
    go_loopw [17] (fun u17 wi => ∃ (k : Nat) (F : Nat → Value), k ≤ l.length ∧ u17 = .int .i64 k ∧ wi.rowIs g 84 73 F ∧ Sha.IsStream (.agg (arr 73 F)) (ofInput tag (l.take k)) ∧ Below W0.heap.size W0 wi) (fun u17 _ => l.length - (intOf u17).toNat)
    case atStart => exact ⟨0, F, Nat.zero_le _, rfl, hrg, by simpa using hv, hBc⟩
    case round =>
      clear hrg hv hBc
      obtain ⟨k, F, hk, rfl, hrg, hv, hBi⟩ := hrel
      have hr1 := hr.below hBi
      by_cases hlt : k < l.length
      · obtain ⟨ad, s, rfl, hab, hx, hc⟩ := hr1.elem hlt rfl
        have hsz : s.size ≤ 1000000 := hb s (List.mem_of_getElem? hx)
        have hel := encBytes_10 s hsz
        have hlen := of_len tag (l.take k) (fun x hx => hb x (List.mem_of_mem_take hx))
        have htl : (l.take k).length = k := by rw [List.length_take]; omega
        rw [htl] at hlen
        have hlen2 : (ofInput tag (l.take k)).length + (⟨(encBytes s).toArray⟩ : ByteArray).size ≤ 1000000000000000 := by rw [ba_sz]; omega
        have HS := Lib.hid (of_snoc tag l k s hx)
        have HL := Lib.hid htl
        clear htl hlen hel hx hr1 hb
        go_wp2_with fail
        refine wp_region_lasts (fun w' => Below wr.heap.size wr w') (fun i => i == 5) (by kernel_rfl) (Below.refl _ _).drew (fun hHeld => ?_)
        refine tk_1 (v := ?_) (by kernel_rfl) (by kernel_rfl) (by kernel_rfl) (by kernel_rfl) (fun _ _ _ h => h) (Or.inl ⟨by kernel_rfl, ?_⟩) (by assumption) ?_
        rotate_left
        · (intro wS hSw; (try dsimp only at hSw); (go_simp); (all_goals (with_reducible rfl)))
        try go_frame
        refine tk_0 (v := ?_) (by kernel_rfl) (by kernel_rfl) (by kernel_rfl) (by kernel_rfl) (fun _ _ _ h => h) (Or.inl ⟨by kernel_rfl, ?_⟩) (by assumption) ?_
        rotate_left
        · (intro wS hSw; (try dsimp only at hSw); (refine exec_load_arr 84 (.tmp 5) ?_ (rowIs_below' hrg hSw) ?_ aggStr <;> rfl); (all_goals (with_reducible rfl)))
        try go_frame
        refine dn_2 (by kernel_rfl) (fun K hK => ?_)
        rw [if_pos (by kernel_rfl)]
        go_simp; go_at_call 22; (with_reducible refine (wire_Bytes s _ (by omega)).mono ?_); intro e w1 hmade; obtain ⟨v1, rfl, hown1, hb1⟩ := hmade; have hsl := Sl.of_own hown1; go_simp
        refine hK.out _ _ (fun _ => by (try dsimp only); exact bl_on hHeld hb1) (fun hHeld => ?_)
        replace hHeld := hHeld rfl
        clear hK K
        try go_frame
        refine dn_3 (by kernel_rfl) (fun K hK => ?_)
        rw [if_pos (by kernel_rfl)]
        have hcv := run_bytes_string _ 24 9 5 elBytes.ht Tryd.underlying5 Tryd.underlying9 hsl; go_simp
        refine hK.out _ _ (fun _ => by (try dsimp only); exact hHeld) (fun hHeld => ?_)
        replace hHeld := hHeld rfl
        clear hK K
        try go_frame
        refine dn_4 (by kernel_rfl) (fun K hK => ?_)
        rw [if_pos (by kernel_rfl)]
        go_simp; go_at_call 45; with_reducible refine (hash_StreamAdd _ _ ⟨(encBytes s).toArray⟩ _ hv hlen2 (by exact hC2.below (hBi.trans (hHeld.mono hBi.size)))).mono ?_; rintro e w1 ⟨v2, rfl, hv2, hb1⟩; go_simp
        refine hK.out _ _ (fun _ => by (try dsimp only); exact bl_on hHeld hb1) (fun hHeld => ?_)
        replace hHeld := hHeld rfl
        clear hK K
        try go_frame
        obtain ⟨bk5, rfl, hbl5, hbt5⟩ := id hv2
        have hr5 := rowIs_below' hrg hHeld
        have hB5 := hBi.trans (hHeld.mono hBi.size)
        refine dn_5 (by kernel_rfl) (fun K hK => ?_)
        rw [if_pos (by kernel_rfl)]
        refine wp_store_over (g := Sha.strF _ bk5 _) _ _ _ rfl hr5 rfl rfl (by decide) aggStr (fun i _ => Sha.strF_one _ _ _ i) ?_
        refine hK.out _ _ (fun h => by cases h) (fun _ => ?_)
        clear hK K
        try go_frame
        refine wpAnyT_done (by kernel_rfl) ?_ _
        refine NoPanic.normal ?_
        go_wp2_with fail
        go_roundw
        case rel => exact ⟨k + 1, _, hlt, by go_num, (row_setRow hr5 _).congr (g := Sha.strF _ bk5 _) (fun j hj => by unfold over; rw [if_pos (by omega)]; simp), Eq.mpr (congrArg (Sha.IsStream _) HS.out) hv2, below_setRow' hB5 hg _⟩
        case measure => simp [intOf]; omega
      · obtain rfl : k = l.length := by omega
        rw [List.take_length] at hv
        go_wp2_with (with_reducible refine wpList_load_arr (o := ⟨some 27, _, _, _, _, _⟩) rfl _ _ rfl hrg rfl aggStr ?_)
        have hlen := of_len tag l hb
        refine (hash_StreamSum _ _ _ hv (by omega) (hC2.below hBi)).mono ?_
        rintro e w1 ⟨rfl, hb1⟩
        have hrw := row_new w1 (List.replicate 32 (bv 0)).toArray 87 32 (fun _ => bv 0) rfl (fun i hi => rep_at 32 i _ hi)
        have hat : ∀ w' : World, (Instr.arrayAt 59 (.slice (some ⟨w1.heap.size, 0, none⟩) 16 32)).run Tryd.prog w' = .ok (.pointer (some ⟨w1.heap.size, 0, none⟩)) w' := fun w' => by simp [Instr.arrayAt, run_underlying Tryd.underlying59]
        have hrowE := rowIs_below' hrow (hBi.trans (hb1.mono hBi.size))
        have hwlt : w.heap.size < w1.heap.size := hrowE.lt
        have hBE : Below w.heap.size w w1 := (hB.trans (hBi.mono hB.size)).trans (hb1.mono (Nat.le_trans hB.size hBi.size))
        have hwle := Nat.le_of_lt hwlt
        have HNE := Lib.hid (Nat.ne_of_lt hwlt)
        go_wp2_with (first
          | (refine wpList_store_arr (o := ⟨none, _, _, _, _, _⟩) rfl _ _ _ rfl hrw rfl rfl aggSum (fun _ _ => rfl) ?_; intro hrw2; have hrow3 := row_setRow_other (hrowE.alloc (.cells (List.replicate 32 (bv 0)).toArray 87)) HNE.out (arr 32 fun i => bv ((Sha.sha (ofInput tag l)).getD i 0)); have hB3 := below_setRow' (hBE.alloc hwle (.cells (List.replicate 32 (bv 0)).toArray 87)) hwle (arr 32 fun i => bv ((Sha.sha (ofInput tag l)).getD i 0)))
          | (with_reducible refine wpList_load_far (o := ⟨some 31, _, _, _, _, _⟩) (ad := ⟨w1.heap.size, 0, none⟩) (n := 16) (f := fun i => bv ((Sha.sha (ofInput tag l)).getD i 0)) rfl _ _ rfl (fun i hi => ?_) rfl aggDig ?_)
          | (refine wpList_store_arr (o := ⟨none, _, _, _, _, _⟩) rfl _ _ _ rfl hrow3 rfl rfl aggDig (fun _ _ => rfl) ?_; intro hrow4))
        · rw [Addr.add_lit, Nat.zero_add]
          exact hrw2.cell (by omega)
        · exact bodyPost_arr (p := 4) (by rfl) hrow4 (by rfl) aggDig (by rfl) ⟨rfl, below_setRow' hB3 (Nat.le_refl _) _⟩
theorem rotr_val (x : Sha.W) (j : Nat) : bits .or .u32 ((x.toNat : Int) / 2 ^ j) ((x.toNat : Int) * 2 ^ (32 - j) % 4294967296) = ((Sha.rotr x j).toNat : Int) := by
  rw [← IntKind.wrap_u32, u32_shl, u32_shr, u32_or]
  rfl
set_option maxHeartbeats 400000 in
theorem ref_rotr (x : Sha.W) (k y : Int) (j : Nat) (hk : k = (j : Int)) (hy : y = x.toNat) (h0 : 0 < j) (hj : j < 32) (w : World) :
    Calls Tryd.prog 59 #[.int .u32 y, .int .i64 k] w fun e w' => e = .returned (wv (Sha.rotr x j)) ∧ w' = w.drew := by
  subst hk; subst hy
  have hv := Lib.hid (rotr_val x j)
  have hlt := x.isLt
  have hs : IntKind.i64.wrap (32 - (j : Int)) = ((32 - j : Nat) : Int) := by rw [IntKind.wrap_i64]; omega
  go_enter Tryd.func59, Tryd.ntmps59
  go_wp2_with fail
  go_region
  all_goals go_wp2_with fail
  all_goals go_ret
  all_goals exact ⟨congrArg (fun z => Ending.returned (.int .u32 z)) hv.out, rfl⟩
theorem byteAt_u (b : List UInt8) (i : Nat) : ((Sha.byteAt b i).toNat : Int) = ((b.getD i 0).toNat : Int) := by
  unfold Sha.byteAt
  have := (b.getD i 0).toNat_lt
  rw [BitVec.toNat_ofNat, Nat.mod_eq_of_lt (by omega)]
theorem u32_or4 (x0 x1 x2 x3 : Sha.W) : bits .or .u32 (bits .or .u32 (bits .or .u32 (IntKind.u32.wrap (IntKind.u32.wrap (x0.toNat : Int) * (16777216 : Int))) (IntKind.u32.wrap (IntKind.u32.wrap (x1.toNat : Int) * (65536 : Int)))) (IntKind.u32.wrap (IntKind.u32.wrap (x2.toNat : Int) * (256 : Int)))) (IntKind.u32.wrap (x3.toNat : Int)) =
    (((((((x0 <<< 8) ||| x1) <<< 8) ||| x2) <<< 8) ||| x3).toNat : Int) := by
  have e0 : IntKind.u32.wrap ((x0.toNat : Int) * (16777216 : Int)) = ((x0 <<< 24).toNat : Int) := u32_shl x0 24
  have e1 : IntKind.u32.wrap ((x1.toNat : Int) * (65536 : Int)) = ((x1 <<< 16).toNat : Int) := u32_shl x1 16
  have e2 : IntKind.u32.wrap ((x2.toNat : Int) * (256 : Int)) = ((x2 <<< 8).toNat : Int) := u32_shl x2 8
  rw [wrap_u32_toNat, wrap_u32_toNat, wrap_u32_toNat, wrap_u32_toNat, e0, e1, e2, u32_or, u32_or, u32_or]
  simp only [BitVec.shiftLeft_or_distrib, ← BitVec.shiftLeft_add]
theorem word_val (b : List UInt8) (k : Nat) : bits .or .u32 (bits .or .u32 (bits .or .u32 (IntKind.u32.wrap (IntKind.u32.wrap ((b.getD (4 * k + 0) 0).toNat : Int) * (16777216 : Int))) (IntKind.u32.wrap (IntKind.u32.wrap ((b.getD (4 * k + 1) 0).toNat : Int) * (65536 : Int)))) (IntKind.u32.wrap (IntKind.u32.wrap ((b.getD (4 * k + 2) 0).toNat : Int) * (256 : Int)))) (IntKind.u32.wrap ((b.getD (4 * k + 3) 0).toNat : Int)) = ((Sha.word b k).toNat : Int) := by
  rw [← byteAt_u, ← byteAt_u, ← byteAt_u, ← byteAt_u, u32_or4]
  rfl
theorem s0_val (x : Sha.W) : bits .xor .u32 (bits .xor .u32 ((Sha.rotr x 7).toNat : Int) ((Sha.rotr x 18).toNat : Int)) ((x.toNat : Int) / (8 : Int)) = ((Sha.s0 x).toNat : Int) := by
  rw [shr3, u32_xor, u32_xor]; rfl
theorem s1_val (x : Sha.W) : bits .xor .u32 (bits .xor .u32 ((Sha.rotr x 17).toNat : Int) ((Sha.rotr x 19).toNat : Int)) ((x.toNat : Int) / (1024 : Int)) = ((Sha.s1 x).toNat : Int) := by
  rw [shr10, u32_xor, u32_xor]; rfl
theorem u32_add4 (x16 a x7 b : Sha.W) : IntKind.u32.wrap (IntKind.u32.wrap (IntKind.u32.wrap ((x16.toNat : Int) + (a.toNat : Int)) + (x7.toNat : Int)) + (b.toNat : Int)) = ((x16 + a + x7 + b).toNat : Int) := by
  rw [u32_add, u32_add, u32_add]
set_option maxHeartbeats 1000000 in
set_option maxRecDepth 100000 in
theorem ref_words (b : List UInt8) (x : Value) (w : World) (hb : b.length = 64) (hl : Sl w x 1 b.length (b.map bv)) :
    Calls Tryd.prog 58 #[x] w fun e w' => e = .returned (schedVal b) ∧ Below w.heap.size w w' := by
  obtain ⟨A, c, rfl, hnc, hcm, hr⟩ := id hl
  unfold maxLen at hcm
  obtain ⟨ad, rfl, hab, hcell⟩ := hr.2 (by omega)
  have hb1 : 64 ≤ b.length := by omega
  have HB := Lib.hid hb
  clear hb
  have hzero : ∀ i, i < 64 → (List.replicate 64 (wv 0#32)).toArray[i]? = some (wv 0#32) := fun i hi => rep_at 64 i _ hi
  go_enter Tryd.func58, Tryd.ntmps58
  go_wp2_with fail
  go_loopw [4] (fun u4 wr => ∃ k : Nat, k ≤ 16 ∧ u4 = .int .i64 k ∧ wr.rowIs (w.heap.size + 1) 97 64 (Sha.wrow b k 0#32) ∧ wr.rowIs w.heap.size 97 64 (fun _ => wv 0#32) ∧ Below w.heap.size w wr) (fun u4 _ => 16 - (intOf u4).toNat)
  case atStart =>
    refine ⟨0, by omega, rfl, ?_, ?_, ((Below.refl _ _).alloc (Nat.le_refl _) _).alloc (by simp) _⟩
    · have h1 := row_new (w.alloc (.cells (List.replicate 64 (wv 0#32)).toArray 97)) (List.replicate 64 (wv 0#32)).toArray 97 64 (Sha.wrow b 0 0#32) rfl (fun i hi => by
        rw [hzero i hi]; unfold Sha.wrow; rw [if_neg (by omega)]; simp)
      have h2 : (w.alloc (.cells (List.replicate 64 (wv 0#32)).toArray 97)).heap.size = w.heap.size + 1 := by simp
      rw [h2] at h1
      exact h1
    · exact (row_new w (List.replicate 64 (wv 0#32)).toArray 97 64 (fun _ => wv 0#32) rfl hzero).alloc _
  case round =>
    clear hzero
    obtain ⟨k, hk, rfl, hw, hres, hbl⟩ := hrel
    by_cases hlt : k < 16
    · have hc : ∀ j, j < 4 → wr.cell? (ad.add (4 * k + j)) = some (.int .u8 ((b.getD (4 * k + j) 0).toNat : Int)) := fun j hj => by
        refine (hbl.cell (p := ad.add (4 * k + j)) (by rw [block_of_add]; exact hab)).trans (hcell _ _ ?_)
        have h1 : 4 * k + j < b.length := by omega
        simp [List.getElem?_eq_getElem h1, bv]
      have c0 := hc 0 (by omega)
      have c1 := hc 1 (by omega)
      have c2 := hc 2 (by omega)
      have c3 := hc 3 (by omega)
      have hv := word_val b k
      generalize (b.getD (4 * k + 0) 0).toNat = u0 at *
      generalize (b.getD (4 * k + 1) 0).toNat = u1 at *
      generalize (b.getD (4 * k + 2) 0).toNat = u2 at *
      generalize (b.getD (4 * k + 3) 0).toNat = u3 at *
      obtain ⟨m0, hm0⟩ : ∃ m, m = 4 * k + 0 := ⟨_, rfl⟩
      obtain ⟨m1, hm1⟩ : ∃ m, m = 4 * k + 1 := ⟨_, rfl⟩
      obtain ⟨m2, hm2⟩ : ∃ m, m = 4 * k + 2 := ⟨_, rfl⟩
      obtain ⟨m3, hm3⟩ : ∃ m, m = 4 * k + 3 := ⟨_, rfl⟩
      rw [← hm0] at c0
      rw [← hm1] at c1
      rw [← hm2] at c2
      rw [← hm3] at c3
      have b0 : m0 < b.length ∧ m1 < b.length ∧ m2 < b.length ∧ m3 < b.length := by omega
      obtain ⟨b0, b1, b2, b3⟩ := b0
      have k64 : (k : Int) < 64 := by omega
      have s0 : IntKind.i64.wrap (4 * (k : Int)) = (m0 : Int) := by rw [IntKind.wrap_i64]; omega
      have s1 : IntKind.i64.wrap ((m0 : Int) + 1) = (m1 : Int) := by clear s0; rw [IntKind.wrap_i64]; omega
      have s2 : IntKind.i64.wrap ((m0 : Int) + 2) = (m2 : Int) := by clear s0 s1; rw [IntKind.wrap_i64]; omega
      have s3 : IntKind.i64.wrap ((m0 : Int) + 3) = (m3 : Int) := by clear s0 s1 s2; rw [IntKind.wrap_i64]; omega
      have HV := Lib.hid hv
      clear hv hc hcell hl hr hm0 hm1 hm2 hm3
      have ck := hw.cell (i := k) (by omega)
      rw [Sha.wrow_at] at ck
      have hfr := hw.frozen k
      go_wp2_with fail
      refine wp_region_lasts (fun w' => w'.cell? (ad.add m0) = some (.int .u8 u0) ∧ w'.cell? (ad.add m1) = some (.int .u8 u1) ∧ w'.cell? (ad.add m2) = some (.int .u8 u2) ∧ w'.cell? (ad.add m3) = some (.int .u8 u3)) (fun i => i == 35) (by kernel_rfl) ⟨c0, c1, c2, c3⟩ (fun hHeld => ?_)
      refine tk_0 (v := ?_) (by kernel_rfl) (by kernel_rfl) (by kernel_rfl) (by kernel_rfl) (fun _ _ _ h => h) (Or.inl ⟨by kernel_rfl, ?_⟩) (by assumption) ?_
      rotate_left
      · (intro wS hSw; (try dsimp only at hSw); (go_simp); (all_goals (with_reducible rfl)))
      try go_frame
      refine tk_1 (v := ?_) (by kernel_rfl) (by kernel_rfl) (by kernel_rfl) (by kernel_rfl) (fun _ _ _ h => h) (Or.inl ⟨by kernel_rfl, ?_⟩) (by assumption) ?_
      rotate_left
      · (intro wS hSw; (try dsimp only at hSw); (go_simp); (all_goals (with_reducible rfl)))
      try go_frame
      refine tk_2 (v := ?_) (by kernel_rfl) (by kernel_rfl) (by kernel_rfl) (by kernel_rfl) (fun _ _ _ h => h) (Or.inl ⟨by kernel_rfl, ?_⟩) (by assumption) ?_
      rotate_left
      · (intro wS hSw; (try dsimp only at hSw); (go_simp); (all_goals (with_reducible rfl)))
      try go_frame
      refine tk_3 (v := ?_) (by kernel_rfl) (by kernel_rfl) (by kernel_rfl) (by kernel_rfl) (fun _ _ _ h => h) (Or.inl ⟨by kernel_rfl, ?_⟩) (by assumption) ?_
      rotate_left
      · (intro wS hSw; (try dsimp only at hSw); (go_simp); (all_goals (with_reducible rfl)))
      try go_frame
      refine tk_4 (v := ?_) (by kernel_rfl) (by kernel_rfl) (by kernel_rfl) (by kernel_rfl) (fun _ _ _ h => h) (Or.inl ⟨by kernel_rfl, ?_⟩) (by assumption) ?_
      rotate_left
      · (intro wS hSw; (try dsimp only at hSw); (go_simp); (all_goals (with_reducible rfl)))
      try go_frame
      refine tk_5 (v := ?_) (by kernel_rfl) (by kernel_rfl) (by kernel_rfl) (by kernel_rfl) (fun _ _ _ h => h) (Or.inl ⟨by kernel_rfl, ?_⟩) (by assumption) ?_
      rotate_left
      · (intro wS hSw; (try dsimp only at hSw); (obtain ⟨q0, q1, q2, q3⟩ := hSw; go_simp); (all_goals (with_reducible rfl)))
      try go_frame
      refine tk_6 (v := ?_) (by kernel_rfl) (by kernel_rfl) (by kernel_rfl) (by kernel_rfl) (fun _ _ _ h => h) (Or.inl ⟨by kernel_rfl, ?_⟩) (by assumption) ?_
      rotate_left
      · (intro wS hSw; (try dsimp only at hSw); (go_simp); (all_goals (with_reducible rfl)))
      try go_frame
      refine tk_7 (v := ?_) (by kernel_rfl) (by kernel_rfl) (by kernel_rfl) (by kernel_rfl) (fun _ _ _ h => h) (Or.inl ⟨by kernel_rfl, ?_⟩) (by assumption) ?_
      rotate_left
      · (intro wS hSw; (try dsimp only at hSw); (go_simp); (all_goals (with_reducible rfl)))
      try go_frame
      refine tk_8 (v := ?_) (by kernel_rfl) (by kernel_rfl) (by kernel_rfl) (by kernel_rfl) (fun _ _ _ h => h) (Or.inl ⟨by kernel_rfl, ?_⟩) (by assumption) ?_
      rotate_left
      · (intro wS hSw; (try dsimp only at hSw); (go_simp); (all_goals (with_reducible rfl)))
      try go_frame
      refine tk_9 (v := ?_) (by kernel_rfl) (by kernel_rfl) (by kernel_rfl) (by kernel_rfl) (fun _ _ _ h => h) (Or.inl ⟨by kernel_rfl, ?_⟩) (by assumption) ?_
      rotate_left
      · (intro wS hSw; (try dsimp only at hSw); (go_simp); (all_goals (with_reducible rfl)))
      try go_frame
      refine tk_10 (v := ?_) (by kernel_rfl) (by kernel_rfl) (by kernel_rfl) (by kernel_rfl) (fun _ _ _ h => h) (Or.inl ⟨by kernel_rfl, ?_⟩) (by assumption) ?_
      rotate_left
      · (intro wS hSw; (try dsimp only at hSw); (go_simp); (all_goals (with_reducible rfl)))
      try go_frame
      refine tk_11 (v := ?_) (by kernel_rfl) (by kernel_rfl) (by kernel_rfl) (by kernel_rfl) (fun _ _ _ h => h) (Or.inl ⟨by kernel_rfl, ?_⟩) (by assumption) ?_
      rotate_left
      · (intro wS hSw; (try dsimp only at hSw); (go_simp); (all_goals (with_reducible rfl)))
      try go_frame
      refine tk_12 (v := ?_) (by kernel_rfl) (by kernel_rfl) (by kernel_rfl) (by kernel_rfl) (fun _ _ _ h => h) (Or.inl ⟨by kernel_rfl, ?_⟩) (by assumption) ?_
      rotate_left
      · (intro wS hSw; (try dsimp only at hSw); (go_simp); (all_goals (with_reducible rfl)))
      try go_frame
      refine tk_13 (v := ?_) (by kernel_rfl) (by kernel_rfl) (by kernel_rfl) (by kernel_rfl) (fun _ _ _ h => h) (Or.inl ⟨by kernel_rfl, ?_⟩) (by assumption) ?_
      rotate_left
      · (intro wS hSw; (try dsimp only at hSw); (obtain ⟨q0, q1, q2, q3⟩ := hSw; go_simp); (all_goals (with_reducible rfl)))
      try go_frame
      refine tk_14 (v := ?_) (by kernel_rfl) (by kernel_rfl) (by kernel_rfl) (by kernel_rfl) (fun _ _ _ h => h) (Or.inl ⟨by kernel_rfl, ?_⟩) (by assumption) ?_
      rotate_left
      · (intro wS hSw; (try dsimp only at hSw); (go_simp); (all_goals (with_reducible rfl)))
      try go_frame
      refine tk_15 (v := ?_) (by kernel_rfl) (by kernel_rfl) (by kernel_rfl) (by kernel_rfl) (fun _ _ _ h => h) (Or.inl ⟨by kernel_rfl, ?_⟩) (by assumption) ?_
      rotate_left
      · (intro wS hSw; (try dsimp only at hSw); (go_simp); (all_goals (with_reducible rfl)))
      try go_frame
      refine tk_16 (v := ?_) (by kernel_rfl) (by kernel_rfl) (by kernel_rfl) (by kernel_rfl) (fun _ _ _ h => h) (Or.inl ⟨by kernel_rfl, ?_⟩) (by assumption) ?_
      rotate_left
      · (intro wS hSw; (try dsimp only at hSw); (go_simp); (all_goals (with_reducible rfl)))
      try go_frame
      refine tk_17 (v := ?_) (by kernel_rfl) (by kernel_rfl) (by kernel_rfl) (by kernel_rfl) (fun _ _ _ h => h) (Or.inl ⟨by kernel_rfl, ?_⟩) (by assumption) ?_
      rotate_left
      · (intro wS hSw; (try dsimp only at hSw); (go_simp); (all_goals (with_reducible rfl)))
      try go_frame
      refine tk_18 (v := ?_) (by kernel_rfl) (by kernel_rfl) (by kernel_rfl) (by kernel_rfl) (fun _ _ _ h => h) (Or.inl ⟨by kernel_rfl, ?_⟩) (by assumption) ?_
      rotate_left
      · (intro wS hSw; (try dsimp only at hSw); (go_simp); (all_goals (with_reducible rfl)))
      try go_frame
      refine tk_19 (v := ?_) (by kernel_rfl) (by kernel_rfl) (by kernel_rfl) (by kernel_rfl) (fun _ _ _ h => h) (Or.inl ⟨by kernel_rfl, ?_⟩) (by assumption) ?_
      rotate_left
      · (intro wS hSw; (try dsimp only at hSw); (go_simp); (all_goals (with_reducible rfl)))
      try go_frame
      refine tk_20 (v := ?_) (by kernel_rfl) (by kernel_rfl) (by kernel_rfl) (by kernel_rfl) (fun _ _ _ h => h) (Or.inl ⟨by kernel_rfl, ?_⟩) (by assumption) ?_
      rotate_left
      · (intro wS hSw; (try dsimp only at hSw); (go_simp); (all_goals (with_reducible rfl)))
      try go_frame
      refine tk_21 (v := ?_) (by kernel_rfl) (by kernel_rfl) (by kernel_rfl) (by kernel_rfl) (fun _ _ _ h => h) (Or.inl ⟨by kernel_rfl, ?_⟩) (by assumption) ?_
      rotate_left
      · (intro wS hSw; (try dsimp only at hSw); (go_simp); (all_goals (with_reducible rfl)))
      try go_frame
      refine tk_22 (v := ?_) (by kernel_rfl) (by kernel_rfl) (by kernel_rfl) (by kernel_rfl) (fun _ _ _ h => h) (Or.inl ⟨by kernel_rfl, ?_⟩) (by assumption) ?_
      rotate_left
      · (intro wS hSw; (try dsimp only at hSw); (obtain ⟨q0, q1, q2, q3⟩ := hSw; go_simp); (all_goals (with_reducible rfl)))
      try go_frame
      refine tk_23 (v := ?_) (by kernel_rfl) (by kernel_rfl) (by kernel_rfl) (by kernel_rfl) (fun _ _ _ h => h) (Or.inl ⟨by kernel_rfl, ?_⟩) (by assumption) ?_
      rotate_left
      · (intro wS hSw; (try dsimp only at hSw); (go_simp); (all_goals (with_reducible rfl)))
      try go_frame
      refine tk_24 (v := ?_) (by kernel_rfl) (by kernel_rfl) (by kernel_rfl) (by kernel_rfl) (fun _ _ _ h => h) (Or.inl ⟨by kernel_rfl, ?_⟩) (by assumption) ?_
      rotate_left
      · (intro wS hSw; (try dsimp only at hSw); (go_simp); (all_goals (with_reducible rfl)))
      try go_frame
      refine tk_25 (v := ?_) (by kernel_rfl) (by kernel_rfl) (by kernel_rfl) (by kernel_rfl) (fun _ _ _ h => h) (Or.inl ⟨by kernel_rfl, ?_⟩) (by assumption) ?_
      rotate_left
      · (intro wS hSw; (try dsimp only at hSw); (go_simp); (all_goals (with_reducible rfl)))
      try go_frame
      refine tk_26 (v := ?_) (by kernel_rfl) (by kernel_rfl) (by kernel_rfl) (by kernel_rfl) (fun _ _ _ h => h) (Or.inl ⟨by kernel_rfl, ?_⟩) (by assumption) ?_
      rotate_left
      · (intro wS hSw; (try dsimp only at hSw); (go_simp); (all_goals (with_reducible rfl)))
      try go_frame
      refine tk_27 (v := ?_) (by kernel_rfl) (by kernel_rfl) (by kernel_rfl) (by kernel_rfl) (fun _ _ _ h => h) (Or.inl ⟨by kernel_rfl, ?_⟩) (by assumption) ?_
      rotate_left
      · (intro wS hSw; (try dsimp only at hSw); (go_simp); (all_goals (with_reducible rfl)))
      try go_frame
      refine tk_28 (v := ?_) (by kernel_rfl) (by kernel_rfl) (by kernel_rfl) (by kernel_rfl) (fun _ _ _ h => h) (Or.inl ⟨by kernel_rfl, ?_⟩) (by assumption) ?_
      rotate_left
      · (intro wS hSw; (try dsimp only at hSw); (go_simp); (all_goals (with_reducible rfl)))
      try go_frame
      refine tk_29 (v := ?_) (by kernel_rfl) (by kernel_rfl) (by kernel_rfl) (by kernel_rfl) (fun _ _ _ h => h) (Or.inl ⟨by kernel_rfl, ?_⟩) (by assumption) ?_
      rotate_left
      · (intro wS hSw; (try dsimp only at hSw); (go_simp); (all_goals (with_reducible rfl)))
      try go_frame
      refine tk_30 (v := ?_) (by kernel_rfl) (by kernel_rfl) (by kernel_rfl) (by kernel_rfl) (fun _ _ _ h => h) (Or.inl ⟨by kernel_rfl, ?_⟩) (by assumption) ?_
      rotate_left
      · (intro wS hSw; (try dsimp only at hSw); (go_simp); (all_goals (with_reducible rfl)))
      try go_frame
      refine tk_31 (v := ?_) (by kernel_rfl) (by kernel_rfl) (by kernel_rfl) (by kernel_rfl) (fun _ _ _ h => h) (Or.inl ⟨by kernel_rfl, ?_⟩) (by assumption) ?_
      rotate_left
      · (intro wS hSw; (try dsimp only at hSw); (obtain ⟨q0, q1, q2, q3⟩ := hSw; go_simp); (all_goals (with_reducible rfl)))
      try go_frame
      refine tk_32 (v := ?_) (by kernel_rfl) (by kernel_rfl) (by kernel_rfl) (by kernel_rfl) (fun _ _ _ h => h) (Or.inl ⟨by kernel_rfl, ?_⟩) (by assumption) ?_
      rotate_left
      · (intro wS hSw; (try dsimp only at hSw); (go_simp); (all_goals (with_reducible rfl)))
      try go_frame
      refine tk_33 (v := ?_) (by kernel_rfl) (by kernel_rfl) (by kernel_rfl) (by kernel_rfl) (fun _ _ _ h => h) (Or.inl ⟨by kernel_rfl, ?_⟩) (by assumption) ?_
      rotate_left
      · (intro wS hSw; (try dsimp only at hSw); (go_simp); (all_goals (with_reducible rfl)))
      try go_frame
      refine tk_34 (v := ?_) (by kernel_rfl) (by kernel_rfl) (by kernel_rfl) (by kernel_rfl) (fun _ _ _ h => h) (Or.inl ⟨by kernel_rfl, ?_⟩) (by assumption) ?_
      rotate_left
      · (intro wS hSw; (try dsimp only at hSw); (go_simp); (all_goals (with_reducible rfl)))
      try go_frame
      refine dn_35 (by kernel_rfl) (fun K hK => ?_)
      rw [if_pos (by kernel_rfl)]
      go_simp
      refine hK.out _ _ (fun h => by cases h) (fun _ => ?_)
      clear hK K
      try go_frame
      refine wpAnyT_done (by kernel_rfl) ?_ _
      refine NoPanic.normal ?_
      clear s0 s1 s2 s3
      rw [HV.out, ← Sha.wAt_lo b k hlt]
      have HN := Lib.hid (Sha.wrow_next b k (Sha.wAt b k) rfl)
      have HX := Lib.hid (Sha.wrow_set b k 0#32 (Sha.wAt b k))
      generalize Sha.wAt b k = v at *
      go_wp2_with fail
      go_roundw
      case rel => exact ⟨k + 1, by omega, by go_num, (hw.set k _).congr (fun i _ => (HX.out i).trans (HN.out i)), hres.setOther (by simp) _, (hbl.setCell (by simp) _).drew⟩
      case measure => go_light; simp [intOf]; omega
    · obtain rfl : k = 16 := by omega
      go_wp2_with fail
      obtain ⟨wo, hwo⟩ : ∃ wo : World, wo = wr := ⟨_, rfl⟩
      go_loopw [5] (fun u5 wr => ∃ k : Nat, 16 ≤ k ∧ k ≤ 64 ∧ u5 = .int .i64 k ∧ wr.rowIs (w.heap.size + 1) 97 64 (Sha.wrow b k 0#32) ∧ wr.rowIs w.heap.size 97 64 (fun _ => wv 0#32) ∧ Below w.heap.size w wr) (fun u5 _ => 64 - (intOf u5).toNat)
      case atStart => exact ⟨16, by omega, by omega, rfl, hw, hres, hbl⟩
      case round =>
        clear hw hres hbl
        obtain ⟨k, hk16, hk, rfl, hw, hres, hbl⟩ := hrel
        by_cases hlt : k < 64
        · have c16 := hw.cell (i := k - 16) (by omega)
          have c15 := hw.cell (i := k - 15) (by omega)
          have c7 := hw.cell (i := k - 7) (by omega)
          have c2 := hw.cell (i := k - 2) (by omega)
          rw [Sha.wrow_lo _ _ _ _ (by omega)] at c16 c15 c7 c2
          have ck := hw.cell (i := k) (by omega)
          rw [Sha.wrow_at] at ck
          have hfr := hw.frozen k
          have hwh := Sha.wAt_hi b k (by omega)
          generalize Sha.wAt b (k - 16) = x16 at *
          generalize Sha.wAt b (k - 15) = x15 at *
          generalize Sha.wAt b (k - 7) = x7 at *
          generalize Sha.wAt b (k - 2) = x2 at *
          have HW := Lib.hid hwh
          clear hwh hl hr hcell
          have k64 : (k : Int) < 64 := by omega
          have b15 : ((k - 15 : Nat) : Int) < 64 := by omega
          have b2 : ((k - 2 : Nat) : Int) < 64 := by omega
          have b16 : ((k - 16 : Nat) : Int) < 64 := by omega
          have b7 : ((k - 7 : Nat) : Int) < 64 := by omega
          have S15 := Lib.hid (show IntKind.i64.wrap ((k : Int) - 15) = ((k - 15 : Nat) : Int) by rw [IntKind.wrap_i64]; omega)
          have S2 := Lib.hid (show IntKind.i64.wrap ((k : Int) - 2) = ((k - 2 : Nat) : Int) by rw [IntKind.wrap_i64]; omega)
          have S16 := Lib.hid (show IntKind.i64.wrap ((k : Int) - 16) = ((k - 16 : Nat) : Int) by rw [IntKind.wrap_i64]; omega)
          have S7 := Lib.hid (show IntKind.i64.wrap ((k : Int) - 7) = ((k - 7 : Nat) : Int) by rw [IntKind.wrap_i64]; omega)
          go_wp2_with fail
          have s15 := S15.out
          refine wp_region_lasts (fun w' => w'.cell? ⟨w.heap.size + 1, k - 15, none⟩ = some (wv x15)) (fun _ => false) (by kernel_rfl) c15 (fun hHeld => ?_)
          refine tk_0 (v := ?_) (by kernel_rfl) (by kernel_rfl) (by kernel_rfl) (by kernel_rfl) (fun _ _ _ h => h) (Or.inl ⟨by kernel_rfl, ?_⟩) (by assumption) ?_
          rotate_left
          · (intro wS hSw; (try dsimp only at hSw); (go_simp); (all_goals (with_reducible rfl)))
          try go_frame
          refine tk_1 (v := ?_) (by kernel_rfl) (by kernel_rfl) (by kernel_rfl) (by kernel_rfl) (fun _ _ _ h => h) (Or.inl ⟨by kernel_rfl, ?_⟩) (by assumption) ?_
          rotate_left
          · (intro wS hSw; (try dsimp only at hSw); (go_simp); (all_goals (with_reducible rfl)))
          try go_frame
          refine tk_2 (v := ?_) (by kernel_rfl) (by kernel_rfl) (by kernel_rfl) (by kernel_rfl) (fun _ _ _ h => h) (Or.inl ⟨by kernel_rfl, ?_⟩) (by assumption) ?_
          rotate_left
          · (intro wS hSw; (try dsimp only at hSw); (go_simp); (all_goals (with_reducible rfl)))
          try go_frame
          refine tk_3 (v := ?_) (by kernel_rfl) (by kernel_rfl) (by kernel_rfl) (by kernel_rfl) (fun _ _ _ h => h) (Or.inl ⟨by kernel_rfl, ?_⟩) (by assumption) ?_
          rotate_left
          · (intro wS hSw; (try dsimp only at hSw); (go_simp); (all_goals (with_reducible rfl)))
          try go_frame
          refine tk_5 (v := ?_) (by kernel_rfl) (by kernel_rfl) (by kernel_rfl) (by kernel_rfl) (fun _ _ _ h => h) (Or.inl ⟨by kernel_rfl, ?_⟩) (by assumption) ?_
          rotate_left
          · (intro wS hSw; (try dsimp only at hSw); (go_simp); (all_goals (with_reducible rfl)))
          try go_frame
          refine tk_6 (v := ?_) (by kernel_rfl) (by kernel_rfl) (by kernel_rfl) (by kernel_rfl) (fun _ _ _ h => h) (Or.inl ⟨by kernel_rfl, ?_⟩) (by assumption) ?_
          rotate_left
          · (intro wS hSw; (try dsimp only at hSw); (go_simp); (all_goals (with_reducible rfl)))
          try go_frame
          refine tk_7 (v := ?_) (by kernel_rfl) (by kernel_rfl) (by kernel_rfl) (by kernel_rfl) (fun _ _ _ h => h) (Or.inl ⟨by kernel_rfl, ?_⟩) (by assumption) ?_
          rotate_left
          · (intro wS hSw; (try dsimp only at hSw); (go_simp); (all_goals (with_reducible rfl)))
          try go_frame
          refine tk_8 (v := ?_) (by kernel_rfl) (by kernel_rfl) (by kernel_rfl) (by kernel_rfl) (fun _ _ _ h => h) (Or.inl ⟨by kernel_rfl, ?_⟩) (by assumption) ?_
          rotate_left
          · (intro wS hSw; (try dsimp only at hSw); (go_simp); (all_goals (with_reducible rfl)))
          try go_frame
          refine tk_11 (v := ?_) (by kernel_rfl) (by kernel_rfl) (by kernel_rfl) (by kernel_rfl) (fun _ _ _ h => h) (Or.inl ⟨by kernel_rfl, ?_⟩) (by assumption) ?_
          rotate_left
          · (intro wS hSw; (try dsimp only at hSw); (go_simp); (all_goals (with_reducible rfl)))
          try go_frame
          refine tk_12 (v := ?_) (by kernel_rfl) (by kernel_rfl) (by kernel_rfl) (by kernel_rfl) (fun _ _ _ h => h) (Or.inl ⟨by kernel_rfl, ?_⟩) (by assumption) ?_
          rotate_left
          · (intro wS hSw; (try dsimp only at hSw); (go_simp); (all_goals (with_reducible rfl)))
          try go_frame
          refine tk_13 (v := ?_) (by kernel_rfl) (by kernel_rfl) (by kernel_rfl) (by kernel_rfl) (fun _ _ _ h => h) (Or.inl ⟨by kernel_rfl, ?_⟩) (by assumption) ?_
          rotate_left
          · (intro wS hSw; (try dsimp only at hSw); (go_simp); (all_goals (with_reducible rfl)))
          try go_frame
          refine tk_14 (v := ?_) (by kernel_rfl) (by kernel_rfl) (by kernel_rfl) (by kernel_rfl) (fun _ _ _ h => h) (Or.inl ⟨by kernel_rfl, ?_⟩) (by assumption) ?_
          rotate_left
          · (intro wS hSw; (try dsimp only at hSw); (go_simp); (all_goals (with_reducible rfl)))
          try go_frame
          refine tk_15 (v := ?_) (by kernel_rfl) (by kernel_rfl) (by kernel_rfl) (by kernel_rfl) (fun _ _ _ h => h) (Or.inl ⟨by kernel_rfl, ?_⟩) (by assumption) ?_
          rotate_left
          · (intro wS hSw; (try dsimp only at hSw); (go_simp); (all_goals (with_reducible rfl)))
          try go_frame
          refine dn_4 (by kernel_rfl) (fun K hK => ?_)
          rw [if_pos (by kernel_rfl)]
          go_simp; go_at_call 59; with_reducible refine (ref_rotr x15 7 _ 7 rfl rfl (by decide) (by decide) _).mono ?_; rintro e w' ⟨rfl, rfl⟩; go_simp
          refine hK.out _ _ (fun _ => by (try dsimp only); exact hHeld) (fun hHeld => ?_)
          replace hHeld := hHeld rfl
          clear hK K
          try go_frame
          refine dn_9 (by kernel_rfl) (fun K hK => ?_)
          rw [if_pos (by kernel_rfl)]
          go_simp; go_at_call 59; with_reducible refine (ref_rotr x15 18 _ 18 rfl rfl (by decide) (by decide) _).mono ?_; rintro e w' ⟨rfl, rfl⟩; go_simp
          refine hK.out _ _ (fun _ => by (try dsimp only); exact hHeld) (fun hHeld => ?_)
          replace hHeld := hHeld rfl
          clear hK K
          try go_frame
          refine tk_10 (v := ?_) (by kernel_rfl) (by kernel_rfl) (by kernel_rfl) (by kernel_rfl) (fun _ _ _ h => h) (Or.inl ⟨by kernel_rfl, ?_⟩) (by assumption) ?_
          rotate_left
          · (intro wS hSw; (try dsimp only at hSw); (go_simp); (all_goals (with_reducible rfl)))
          try go_frame
          refine tk_16 (v := ?_) (by kernel_rfl) (by kernel_rfl) (by kernel_rfl) (by kernel_rfl) (fun _ _ _ h => h) (Or.inl ⟨by kernel_rfl, ?_⟩) (by assumption) ?_
          rotate_left
          · (intro wS hSw; (try dsimp only at hSw); (go_simp); (all_goals (with_reducible rfl)))
          try go_frame
          refine tk_17 (v := ?_) (by kernel_rfl) (by kernel_rfl) (by kernel_rfl) (by kernel_rfl) (fun _ _ _ h => h) (Or.inl ⟨by kernel_rfl, ?_⟩) (by assumption) ?_
          rotate_left
          · (intro wS hSw; (try dsimp only at hSw); (go_simp); (all_goals (with_reducible rfl)))
          try go_frame
          refine wpAnyT_done (by kernel_rfl) ?_ _
          refine NoPanic.normal ?_
          clear s15
          rw [s0_val]
          go_wp2_with fail
          have s2 := S2.out
          refine wp_region_lasts (fun w' => w'.cell? ⟨w.heap.size + 1, k - 2, none⟩ = some (wv x2)) (fun _ => false) (by kernel_rfl) c2 (fun hHeld => ?_)
          refine tk_0 (v := ?_) (by kernel_rfl) (by kernel_rfl) (by kernel_rfl) (by kernel_rfl) (fun _ _ _ h => h) (Or.inl ⟨by kernel_rfl, ?_⟩) (by assumption) ?_
          rotate_left
          · (intro wS hSw; (try dsimp only at hSw); (go_simp); (all_goals (with_reducible rfl)))
          try go_frame
          refine tk_1 (v := ?_) (by kernel_rfl) (by kernel_rfl) (by kernel_rfl) (by kernel_rfl) (fun _ _ _ h => h) (Or.inl ⟨by kernel_rfl, ?_⟩) (by assumption) ?_
          rotate_left
          · (intro wS hSw; (try dsimp only at hSw); (go_simp); (all_goals (with_reducible rfl)))
          try go_frame
          refine tk_2 (v := ?_) (by kernel_rfl) (by kernel_rfl) (by kernel_rfl) (by kernel_rfl) (fun _ _ _ h => h) (Or.inl ⟨by kernel_rfl, ?_⟩) (by assumption) ?_
          rotate_left
          · (intro wS hSw; (try dsimp only at hSw); (go_simp); (all_goals (with_reducible rfl)))
          try go_frame
          refine tk_3 (v := ?_) (by kernel_rfl) (by kernel_rfl) (by kernel_rfl) (by kernel_rfl) (fun _ _ _ h => h) (Or.inl ⟨by kernel_rfl, ?_⟩) (by assumption) ?_
          rotate_left
          · (intro wS hSw; (try dsimp only at hSw); (go_simp); (all_goals (with_reducible rfl)))
          try go_frame
          refine tk_5 (v := ?_) (by kernel_rfl) (by kernel_rfl) (by kernel_rfl) (by kernel_rfl) (fun _ _ _ h => h) (Or.inl ⟨by kernel_rfl, ?_⟩) (by assumption) ?_
          rotate_left
          · (intro wS hSw; (try dsimp only at hSw); (go_simp); (all_goals (with_reducible rfl)))
          try go_frame
          refine tk_6 (v := ?_) (by kernel_rfl) (by kernel_rfl) (by kernel_rfl) (by kernel_rfl) (fun _ _ _ h => h) (Or.inl ⟨by kernel_rfl, ?_⟩) (by assumption) ?_
          rotate_left
          · (intro wS hSw; (try dsimp only at hSw); (go_simp); (all_goals (with_reducible rfl)))
          try go_frame
          refine tk_7 (v := ?_) (by kernel_rfl) (by kernel_rfl) (by kernel_rfl) (by kernel_rfl) (fun _ _ _ h => h) (Or.inl ⟨by kernel_rfl, ?_⟩) (by assumption) ?_
          rotate_left
          · (intro wS hSw; (try dsimp only at hSw); (go_simp); (all_goals (with_reducible rfl)))
          try go_frame
          refine tk_8 (v := ?_) (by kernel_rfl) (by kernel_rfl) (by kernel_rfl) (by kernel_rfl) (fun _ _ _ h => h) (Or.inl ⟨by kernel_rfl, ?_⟩) (by assumption) ?_
          rotate_left
          · (intro wS hSw; (try dsimp only at hSw); (go_simp); (all_goals (with_reducible rfl)))
          try go_frame
          refine tk_11 (v := ?_) (by kernel_rfl) (by kernel_rfl) (by kernel_rfl) (by kernel_rfl) (fun _ _ _ h => h) (Or.inl ⟨by kernel_rfl, ?_⟩) (by assumption) ?_
          rotate_left
          · (intro wS hSw; (try dsimp only at hSw); (go_simp); (all_goals (with_reducible rfl)))
          try go_frame
          refine tk_12 (v := ?_) (by kernel_rfl) (by kernel_rfl) (by kernel_rfl) (by kernel_rfl) (fun _ _ _ h => h) (Or.inl ⟨by kernel_rfl, ?_⟩) (by assumption) ?_
          rotate_left
          · (intro wS hSw; (try dsimp only at hSw); (go_simp); (all_goals (with_reducible rfl)))
          try go_frame
          refine tk_13 (v := ?_) (by kernel_rfl) (by kernel_rfl) (by kernel_rfl) (by kernel_rfl) (fun _ _ _ h => h) (Or.inl ⟨by kernel_rfl, ?_⟩) (by assumption) ?_
          rotate_left
          · (intro wS hSw; (try dsimp only at hSw); (go_simp); (all_goals (with_reducible rfl)))
          try go_frame
          refine tk_14 (v := ?_) (by kernel_rfl) (by kernel_rfl) (by kernel_rfl) (by kernel_rfl) (fun _ _ _ h => h) (Or.inl ⟨by kernel_rfl, ?_⟩) (by assumption) ?_
          rotate_left
          · (intro wS hSw; (try dsimp only at hSw); (go_simp); (all_goals (with_reducible rfl)))
          try go_frame
          refine tk_15 (v := ?_) (by kernel_rfl) (by kernel_rfl) (by kernel_rfl) (by kernel_rfl) (fun _ _ _ h => h) (Or.inl ⟨by kernel_rfl, ?_⟩) (by assumption) ?_
          rotate_left
          · (intro wS hSw; (try dsimp only at hSw); (go_simp); (all_goals (with_reducible rfl)))
          try go_frame
          refine dn_4 (by kernel_rfl) (fun K hK => ?_)
          rw [if_pos (by kernel_rfl)]
          go_simp; go_at_call 59; with_reducible refine (ref_rotr x2 17 _ 17 rfl rfl (by decide) (by decide) _).mono ?_; rintro e w' ⟨rfl, rfl⟩; go_simp
          refine hK.out _ _ (fun _ => by (try dsimp only); exact hHeld) (fun hHeld => ?_)
          replace hHeld := hHeld rfl
          clear hK K
          try go_frame
          refine dn_9 (by kernel_rfl) (fun K hK => ?_)
          rw [if_pos (by kernel_rfl)]
          go_simp; go_at_call 59; with_reducible refine (ref_rotr x2 19 _ 19 rfl rfl (by decide) (by decide) _).mono ?_; rintro e w' ⟨rfl, rfl⟩; go_simp
          refine hK.out _ _ (fun _ => by (try dsimp only); exact hHeld) (fun hHeld => ?_)
          replace hHeld := hHeld rfl
          clear hK K
          try go_frame
          refine tk_10 (v := ?_) (by kernel_rfl) (by kernel_rfl) (by kernel_rfl) (by kernel_rfl) (fun _ _ _ h => h) (Or.inl ⟨by kernel_rfl, ?_⟩) (by assumption) ?_
          rotate_left
          · (intro wS hSw; (try dsimp only at hSw); (go_simp); (all_goals (with_reducible rfl)))
          try go_frame
          refine tk_16 (v := ?_) (by kernel_rfl) (by kernel_rfl) (by kernel_rfl) (by kernel_rfl) (fun _ _ _ h => h) (Or.inl ⟨by kernel_rfl, ?_⟩) (by assumption) ?_
          rotate_left
          · (intro wS hSw; (try dsimp only at hSw); (go_simp); (all_goals (with_reducible rfl)))
          try go_frame
          refine tk_17 (v := ?_) (by kernel_rfl) (by kernel_rfl) (by kernel_rfl) (by kernel_rfl) (fun _ _ _ h => h) (Or.inl ⟨by kernel_rfl, ?_⟩) (by assumption) ?_
          rotate_left
          · (intro wS hSw; (try dsimp only at hSw); (go_simp); (all_goals (with_reducible rfl)))
          try go_frame
          refine wpAnyT_done (by kernel_rfl) ?_ _
          refine NoPanic.normal ?_
          clear s2
          rw [s1_val]
          go_wp2_with fail
          have s16 := S16.out
          have s7 := S7.out
          refine wp_region_lasts (fun w' => w'.cell? ⟨w.heap.size + 1, k - 16, none⟩ = some (wv x16) ∧ w'.cell? ⟨w.heap.size + 1, k - 7, none⟩ = some (wv x7)) (fun i => i == 15) (by kernel_rfl) ⟨c16, c7⟩ (fun hHeld => ?_)
          refine tk_0 (v := ?_) (by kernel_rfl) (by kernel_rfl) (by kernel_rfl) (by kernel_rfl) (fun _ _ _ h => h) (Or.inl ⟨by kernel_rfl, ?_⟩) (by assumption) ?_
          rotate_left
          · (intro wS hSw; (try dsimp only at hSw); (go_simp); (all_goals (with_reducible rfl)))
          try go_frame
          refine tk_1 (v := ?_) (by kernel_rfl) (by kernel_rfl) (by kernel_rfl) (by kernel_rfl) (fun _ _ _ h => h) (Or.inl ⟨by kernel_rfl, ?_⟩) (by assumption) ?_
          rotate_left
          · (intro wS hSw; (try dsimp only at hSw); (go_simp); (all_goals (with_reducible rfl)))
          try go_frame
          refine tk_2 (v := ?_) (by kernel_rfl) (by kernel_rfl) (by kernel_rfl) (by kernel_rfl) (fun _ _ _ h => h) (Or.inl ⟨by kernel_rfl, ?_⟩) (by assumption) ?_
          rotate_left
          · (intro wS hSw; (try dsimp only at hSw); (go_simp); (all_goals (with_reducible rfl)))
          try go_frame
          refine tk_3 (v := ?_) (by kernel_rfl) (by kernel_rfl) (by kernel_rfl) (by kernel_rfl) (fun _ _ _ h => h) (Or.inl ⟨by kernel_rfl, ?_⟩) (by assumption) ?_
          rotate_left
          · (intro wS hSw; (try dsimp only at hSw); (go_simp); (all_goals (with_reducible rfl)))
          try go_frame
          refine tk_4 (v := ?_) (by kernel_rfl) (by kernel_rfl) (by kernel_rfl) (by kernel_rfl) (fun _ _ _ h => h) (Or.inl ⟨by kernel_rfl, ?_⟩) (by assumption) ?_
          rotate_left
          · (intro wS hSw; (try dsimp only at hSw); (obtain ⟨q0, q1⟩ := hSw; go_simp); (all_goals (with_reducible rfl)))
          try go_frame
          refine tk_5 (v := ?_) (by kernel_rfl) (by kernel_rfl) (by kernel_rfl) (by kernel_rfl) (fun _ _ _ h => h) (Or.inl ⟨by kernel_rfl, ?_⟩) (by assumption) ?_
          rotate_left
          · (intro wS hSw; (try dsimp only at hSw); (go_simp); (all_goals (with_reducible rfl)))
          try go_frame
          refine tk_6 (v := ?_) (by kernel_rfl) (by kernel_rfl) (by kernel_rfl) (by kernel_rfl) (fun _ _ _ h => h) (Or.inl ⟨by kernel_rfl, ?_⟩) (by assumption) ?_
          rotate_left
          · (intro wS hSw; (try dsimp only at hSw); (go_simp); (all_goals (with_reducible rfl)))
          try go_frame
          refine tk_7 (v := ?_) (by kernel_rfl) (by kernel_rfl) (by kernel_rfl) (by kernel_rfl) (fun _ _ _ h => h) (Or.inl ⟨by kernel_rfl, ?_⟩) (by assumption) ?_
          rotate_left
          · (intro wS hSw; (try dsimp only at hSw); (go_simp); (all_goals (with_reducible rfl)))
          try go_frame
          refine tk_8 (v := ?_) (by kernel_rfl) (by kernel_rfl) (by kernel_rfl) (by kernel_rfl) (fun _ _ _ h => h) (Or.inl ⟨by kernel_rfl, ?_⟩) (by assumption) ?_
          rotate_left
          · (intro wS hSw; (try dsimp only at hSw); (go_simp); (all_goals (with_reducible rfl)))
          try go_frame
          refine tk_9 (v := ?_) (by kernel_rfl) (by kernel_rfl) (by kernel_rfl) (by kernel_rfl) (fun _ _ _ h => h) (Or.inl ⟨by kernel_rfl, ?_⟩) (by assumption) ?_
          rotate_left
          · (intro wS hSw; (try dsimp only at hSw); (go_simp); (all_goals (with_reducible rfl)))
          try go_frame
          refine tk_10 (v := ?_) (by kernel_rfl) (by kernel_rfl) (by kernel_rfl) (by kernel_rfl) (fun _ _ _ h => h) (Or.inl ⟨by kernel_rfl, ?_⟩) (by assumption) ?_
          rotate_left
          · (intro wS hSw; (try dsimp only at hSw); (obtain ⟨q0, q1⟩ := hSw; go_simp); (all_goals (with_reducible rfl)))
          try go_frame
          refine tk_11 (v := ?_) (by kernel_rfl) (by kernel_rfl) (by kernel_rfl) (by kernel_rfl) (fun _ _ _ h => h) (Or.inl ⟨by kernel_rfl, ?_⟩) (by assumption) ?_
          rotate_left
          · (intro wS hSw; (try dsimp only at hSw); (go_simp); (all_goals (with_reducible rfl)))
          try go_frame
          refine tk_12 (v := ?_) (by kernel_rfl) (by kernel_rfl) (by kernel_rfl) (by kernel_rfl) (fun _ _ _ h => h) (Or.inl ⟨by kernel_rfl, ?_⟩) (by assumption) ?_
          rotate_left
          · (intro wS hSw; (try dsimp only at hSw); (go_simp); (all_goals (with_reducible rfl)))
          try go_frame
          refine tk_13 (v := ?_) (by kernel_rfl) (by kernel_rfl) (by kernel_rfl) (by kernel_rfl) (fun _ _ _ h => h) (Or.inl ⟨by kernel_rfl, ?_⟩) (by assumption) ?_
          rotate_left
          · (intro wS hSw; (try dsimp only at hSw); (go_simp); (all_goals (with_reducible rfl)))
          try go_frame
          refine tk_14 (v := ?_) (by kernel_rfl) (by kernel_rfl) (by kernel_rfl) (by kernel_rfl) (fun _ _ _ h => h) (Or.inl ⟨by kernel_rfl, ?_⟩) (by assumption) ?_
          rotate_left
          · (intro wS hSw; (try dsimp only at hSw); (go_simp); (all_goals (with_reducible rfl)))
          try go_frame
          refine dn_15 (by kernel_rfl) (fun K hK => ?_)
          rw [if_pos (by kernel_rfl)]
          go_simp
          refine hK.out _ _ (fun h => by cases h) (fun _ => ?_)
          clear hK K
          try go_frame
          refine wpAnyT_done (by kernel_rfl) ?_ _
          refine NoPanic.normal ?_
          clear s16 s7
          rw [u32_add4, ← HW.out]
          have HN := Lib.hid (Sha.wrow_next b k (Sha.wAt b k) rfl)
          have HX := Lib.hid (Sha.wrow_set b k 0#32 (Sha.wAt b k))
          generalize Sha.wAt b k = v at *
          go_wp2_with fail
          go_roundw
          case rel =>
            repeat apply Exists.intro
            exact ⟨⟨k + 1, by omega, by omega, by go_num, (hw.set k _).congr (fun i _ => (HX.out i).trans (HN.out i)), hres.setOther (by simp) _, by repeat (first | exact hbl.setCell (by simp) _ | apply Below.drew)⟩, rfl⟩
          case measure => go_light; simp [intOf]; omega
        · obtain rfl : k = 64 := by omega
          have hw2 : wr.rowIs (w.heap.size + 1) 97 64 (fun i => wv (Sha.wAt b i)) := hw.congr (fun i hi => Sha.wrow_lo b 64 i _ hi)
          go_wp2_with (first | (refine wpList_load_arr (o := ⟨some 100, _, _, _, _, _⟩) rfl _ _ rfl hw2 rfl aggW64 ?_) | (refine wpList_store_arr (o := ⟨none, _, _, _, _, _⟩) rfl _ _ _ rfl hres rfl rfl aggW64 (fun _ _ => rfl) ?_; intro hres2))
          exact bodyPost_arr (p := 2) (by rfl) hres2 (by rfl) aggW64 (by rfl) ⟨rfl, below_setRow' hbl (Nat.le_refl _) _⟩
theorem own_empty (w : World) (e : TypeId) (base size : Nat) (hb : base ≤ w.heap.size) : (w.alloc (.cells #[] e)).ownsRow base e size (.slice (some ⟨w.heap.size, 0, none⟩) 0 0) 0 [] :=
  ⟨by simp, .inr ⟨w.heap.size, 0, #[], rfl, hb, heap_alloc_new w _, Nat.le_refl _, by decide, by simp, by simp⟩⟩
set_option maxHeartbeats 1000000 in
set_option maxRecDepth 100000 in
theorem ref_padded (l : List UInt8) (x : Value) (w : World) (hl : Sl w x 1 l.length (l.map bv)) (hb : l.length ≤ 100000000000000) :
    Calls Tryd.prog 57 #[x] w (Made (Sha.pad l) w) := by
  have hown0 := own_empty w 5 w.heap.size 1 (Nat.le_refl _)
  have hl0 := hl.alloc (.cells #[] 5)
  have hB0 := (Below.refl w.heap.size w).alloc (Nat.le_refl _) (.cells #[] 5)
  obtain ⟨A, c, hx, _, _, _⟩ := id hl
  subst hx
  obtain ⟨n, hn⟩ : ∃ n, n = l.length := ⟨_, rfl⟩
  have HN := Lib.hid hn
  rw [← hn] at hl0 hb hl ⊢
  clear hn
  go_enter Tryd.func57, Tryd.ntmps57
  go_wp2_with (at_builtin; refine wpList_append_all _ rfl _ _ _ rfl elBytes w.heap.size _ _ _ rfl hown0 _ _ _ rfl hl0 (bvs_one l) (by omega) (by omega) (by simp) w w.heap.size hB0 (Nat.le_refl _) ?_)
  intro v1 w1 hown1 hb1
  clear hown0 hl0 hB0
  go_wp2_with (at_builtin; refine wpList_append_one _ rfl _ _ _ rfl elBytes w.heap.size _ _ _ rfl hown1 _ rfl rfl (by omega) (by omega) hb1.size w w.heap.size hb1 (Nat.le_refl _) ?_)
  intro v2 w2 hown2 hb2
  clear hown1 hb1
  have hown3 : w2.ownsRow w.heap.size 5 1 v2 (n + 1 + 0) ((l ++ 128 :: List.replicate 0 0).map bv) := by simpa [bv] using hown2
  clear hown2
  go_wp2_with fail
  go_loopw [3] (fun u3 wr => ∃ j : Nat, j ≤ Sha.zeros n ∧ wr.ownsRow w.heap.size 5 1 u3 (n + 1 + j) ((l ++ 128 :: List.replicate j 0).map bv) ∧ Below w.heap.size w wr)
    (fun u3 _ => match u3 with | .slice _ len _ => n + 65 - len | _ => 0)
  case atStart => exact ⟨0, Nat.zero_le _, hown3, hb2⟩
  case round =>
    clear hown3 hb2 
    obtain ⟨j, hj, hown, hB⟩ := hrel
    have hzl := Sha.zeros_lt n
    have hzt := Sha.zeros_test n j hj
    obtain ⟨g, cap, rfl, _, _⟩ := hown.form (by omega)
    by_cases hjz : j = Sha.zeros n
    · have ht : (((n : Int) + 1 + (j : Int)) % 64 != 56) = false := by
        have := hzt.2 hjz
        rw [bne_eq_false_iff_eq]; omega
      clear hzt
      subst hjz
      generalize hz : Sha.zeros n = z at *
      have HZ := Lib.hid hz
      clear hz
      go_wp2_with fail
      have hown1 : wr.ownsRow w.heap.size 5 1 (.slice (some ⟨g, 0, none⟩) (n + 1 + z) cap) (n + 1 + z + 0) ((l ++ 128 :: List.replicate z 0 ++ (Sha.len8 (8 * n)).take 0).map bv) := by simpa using hown
      obtain ⟨wo, rfl⟩ : ∃ wo : World, wo = wr := ⟨_, rfl⟩
      go_loopw [3, 5] (fun u3 u5 wi => ∃ i : Nat, i ≤ 8 ∧ u5 = .int .i64 i ∧ wi.ownsRow w.heap.size 5 1 u3 (n + 1 + z + i) ((l ++ 128 :: List.replicate z 0 ++ (Sha.len8 (8 * n)).take i).map bv) ∧ Below w.heap.size w wi)
        (fun _ u5 _ => 8 - (intOf u5).toNat)
      case atStart => exact ⟨0, by omega, rfl, hown1, hB⟩
      case round =>
        clear hown1 hown hB
        obtain ⟨i, hi, rfl, hown, hB⟩ := hrel
        by_cases hi8 : i < 8
        · go_wp2_with (at_builtin; refine wpList_append_one _ rfl _ _ _ rfl elBytes w.heap.size _ _ _ rfl hown _ rfl rfl (by omega) (by omega) hB.size w w.heap.size hB (Nat.le_refl _) ?_)
          intro v' w' hown' hb'
          have hown2 : w'.ownsRow w.heap.size 5 1 v' (n + 1 + z + (i + 1)) ((l ++ 128 :: List.replicate z 0 ++ (Sha.len8 (8 * n)).take (i + 1)).map bv) := by
            rw [len8_val] at hown'
            have e : (l ++ 128 :: List.replicate z 0 ++ (Sha.len8 (8 * n)).take (i + 1)).map bv = (l ++ 128 :: List.replicate z 0 ++ (Sha.len8 (8 * n)).take i).map bv ++ [bv (UInt8.ofNat ((8 * n) >>> (56 - 8 * i) % 256))] := by
              rw [len8_snoc _ _ hi8]; simp [List.map_take]
            rw [e]; simp only [List.map_append, List.map_cons, List.map_replicate, List.map_take, List.append_assoc, List.cons_append] at hown' ⊢; exact hown'
          clear hown hown' hB
          go_wp2_with fail
          go_roundw
          case rel => exact ⟨i + 1, by omega, by go_num, hown2, hb'⟩
          case measure => go_light; simp [intOf]; omega
        · obtain rfl : i = 8 := by omega
          have hpl : l ++ 128 :: List.replicate z 0 ++ (Sha.len8 (8 * n)).take 8 = Sha.pad l := by
            unfold Sha.pad
            rw [← HN.out, HZ.out, Nat.mod_eq_of_lt (by omega), List.take_of_length_le (by simp [Sha.len8])]; simp
          rw [hpl] at hown
          have hlen : n + 1 + z + 8 = (Sha.pad l).length := by
            have := hown.1; rw [List.length_map] at this; omega
          rw [hlen] at hown
          clear hpl hlen
          go_wp2_with fail
          go_ret
          exact ⟨_, rfl, hown, hB⟩
    · have ht : (((n : Int) + 1 + (j : Int)) % 64 != 56) = true := by
        have := fun h => hjz (hzt.1 h)
        rw [bne_iff_ne]; intro h; exact this (by omega)
      clear hzt
      go_wp2_with (at_builtin; refine wpList_append_one _ rfl _ _ _ rfl elBytes w.heap.size _ _ _ rfl hown _ rfl rfl (by omega) (by omega) hB.size w w.heap.size hB (Nat.le_refl _) ?_)
      intro v' w' hown' hb'
      obtain ⟨g', cap', rfl, _, _⟩ := hown'.form (by omega)
      have hown2 : w'.ownsRow w.heap.size 5 1 (.slice (some ⟨g', 0, none⟩) (n + 1 + j + 1) cap') (n + 1 + (j + 1)) ((l ++ 128 :: List.replicate (j + 1) 0).map bv) := by
        have e : (l ++ 128 :: List.replicate (j + 1) (0 : UInt8)).map bv = (l ++ 128 :: List.replicate j 0).map bv ++ [Value.int .u8 0] := by
          rw [List.replicate_succ']; simp [bv]
        rw [e]; simp only [List.map_append, List.map_cons, List.map_replicate, List.append_assoc, List.cons_append] at hown' ⊢; exact hown'
      clear hown hown' hB
      go_wp2_with fail
      go_roundw
      case rel => exact ⟨j + 1, by omega, hown2, hb'⟩
      case measure => go_light; simp; omega
def RConsts (w : World) : Prop := 1 < w.heap.size ∧ ∀ i : Nat, i < 64 → w.cell? ⟨1, i, none⟩ = some (kF i)
theorem RConsts.below {w w' : World} (h : RConsts w) (hb : Below w.heap.size w w') : RConsts w' :=
  ⟨Nat.lt_of_lt_of_le h.1 hb.size, fun i hi => (hb.cell (p := ⟨1, i, none⟩) h.1).trans (h.2 i hi)⟩
theorem own_keep {w w' : World} {base : Nat} {e : TypeId} {size : Nat} {v : Value} {n : Nat} {xs : List Value} (h : w.ownsRow base e size v n xs) (hk : ∀ g, base ≤ g → g < w.heap.size → w'.heap[g]? = w.heap[g]?) : w'.ownsRow base e size v n xs := by
  refine ⟨h.1, ?_⟩
  rcases h.2 with h0 | ⟨g, cap, cur, hv, hg, hh, r⟩
  · exact .inl h0
  · exact .inr ⟨g, cap, cur, hv, hg, (hk g hg (Array.getElem?_eq_some_iff.1 hh).1).trans hh, r⟩
theorem own_setCell {w : World} {base : Nat} {e : TypeId} {size : Nat} {v : Value} {n : Nat} {xs : List Value} (h : w.ownsRow base e size v n xs) {p : Addr} (hp : p.block < base) (u : Value) : (w.setCell p u).ownsRow base e size v n xs :=
  own_keep h fun g hg _ => by
    show (w.heap.modify p.block _)[g]? = _
    rw [Array.getElem?_modify, if_neg (by omega)]
theorem own_setRow_ge {w : World} {base : Nat} {e : TypeId} {size : Nat} {g cap : Nat} {n : Nat} {xs : List Value} (h : w.ownsRow base e size (.slice (some ⟨g, 0, none⟩) n cap) n xs) {b : Nat} (hp : b ≠ g) (cs : Array Value) : (w.setRow b cs).ownsRow base e size (.slice (some ⟨g, 0, none⟩) n cap) n xs := by
  refine ⟨h.1, ?_⟩
  rcases h.2 with h0 | ⟨g', cap', cur, hv, hg, hh, r⟩
  · exact .inl h0
  · refine .inr ⟨g', cap', cur, hv, hg, ?_, r⟩
    injection hv with e1
    injection e1 with e1
    injection e1 with e1
    rw [setRow_other w b g' cs (by omega), hh]
theorem Sha.pad_len (l : List UInt8) : (Sha.pad l).length = 64 * ((Sha.pad l).length / 64) ∧ 64 ≤ (Sha.pad l).length ∧ (Sha.pad l).length ≤ l.length + 73 := by
  have h : (Sha.pad l).length = l.length + 1 + Sha.zeros l.length + 8 := by simp [Sha.pad, Sha.len8]; omega
  have h2 := Sha.zeros_lt l.length
  rw [h]
  unfold Sha.zeros at *
  omega
theorem x_val2 (te tf tg th kk wk : Sha.W) : IntKind.u32.wrap (IntKind.u32.wrap (IntKind.u32.wrap (IntKind.u32.wrap ((th.toNat : Int) + bits .xor .u32 (bits .xor .u32 ((Sha.rotr te 6).toNat : Int) ((Sha.rotr te 11).toNat : Int)) ((Sha.rotr te 25).toNat : Int)) +
    bits .xor .u32 (bits .and .u32 (te.toNat : Int) (tf.toNat : Int)) (bits .and .u32 (bits .xor .u32 (te.toNat : Int) 4294967295) (tg.toNat : Int))) + (kk.toNat : Int)) + (wk.toNat : Int)) =
    ((th + Sha.mix te 6 11 25 + ((te &&& tf) ^^^ ((~~~ te) &&& tg)) + kk + wk).toNat : Int) := by
  have h : (4294967295 : Int) = ((BitVec.allOnes 32).toNat : Int) := by decide
  rw [h, u32_xor te, BitVec.xor_allOnes, u32_and, u32_and, u32_xor, u32_xor, u32_xor, u32_add, u32_add, u32_add, u32_add]
  rfl
theorem y_val2 (ta tb tc : Sha.W) : IntKind.u32.wrap (bits .xor .u32 (bits .xor .u32 ((Sha.rotr ta 2).toNat : Int) ((Sha.rotr ta 13).toNat : Int)) ((Sha.rotr ta 22).toNat : Int) + bits .xor .u32 (bits .xor .u32 (bits .and .u32 (ta.toNat : Int) (tb.toNat : Int)) (bits .and .u32 (ta.toNat : Int) (tc.toNat : Int))) (bits .and .u32 (tb.toNat : Int) (tc.toNat : Int))) =
    ((Sha.mix ta 2 13 22 + ((ta &&& tb) ^^^ (ta &&& tc) ^^^ (tb &&& tc))).toNat : Int) := by
  rw [u32_and, u32_and, u32_and, u32_xor, u32_xor, u32_xor, u32_xor, u32_add]
  rfl
theorem rowIs_cells8 {w : World} {b : Nat} {t : TypeId} {f : Nat → Value} (h : w.rowIs b t 8 f) : w.cell? ⟨b, 0, none⟩ = some (f 0) ∧ w.cell? ⟨b, 1, none⟩ = some (f 1) ∧ w.cell? ⟨b, 2, none⟩ = some (f 2) ∧ w.cell? ⟨b, 3, none⟩ = some (f 3) ∧
    w.cell? ⟨b, 4, none⟩ = some (f 4) ∧ w.cell? ⟨b, 5, none⟩ = some (f 5) ∧ w.cell? ⟨b, 6, none⟩ = some (f 6) ∧ w.cell? ⟨b, 7, none⟩ = some (f 7) :=
  ⟨h.cell (by decide), h.cell (by decide), h.cell (by decide), h.cell (by decide), h.cell (by decide), h.cell (by decide), h.cell (by decide), h.cell (by decide)⟩
theorem st_add (s t : Sha.St) : ∀ i, i < 8 → ∃ x y : Sha.W, Sha.stF s i = wv x ∧ Sha.stF t i = wv y ∧ Sha.stF (s.add t) i = wv (x + y)
  | 0, _ => ⟨_, _, rfl, rfl, rfl⟩
  | 1, _ => ⟨_, _, rfl, rfl, rfl⟩
  | 2, _ => ⟨_, _, rfl, rfl, rfl⟩
  | 3, _ => ⟨_, _, rfl, rfl, rfl⟩
  | 4, _ => ⟨_, _, rfl, rfl, rfl⟩
  | 5, _ => ⟨_, _, rfl, rfl, rfl⟩
  | 6, _ => ⟨_, _, rfl, rfl, rfl⟩
  | 7, _ => ⟨_, _, rfl, rfl, rfl⟩
  | n + 8, h => absurd h (by omega)
set_option maxHeartbeats 4000000 in
set_option maxRecDepth 100000 in
theorem ref_Sum (l : List UInt8) (x : Value) (w : World) (hl : Sl w x 1 l.length (l.map bv)) (hb : l.length ≤ 10000000000000) (hC : RConsts w) :
    Calls Tryd.prog 53 #[x] w fun e w' => e = .returned (shaVal l) ∧ Below w.heap.size w w' := by
  have hinit : ((Tryd.prog.built 81 [(0, .int .u32 1779033703), (1, .int .u32 3144134277), (2, .int .u32 1013904242), (3, .int .u32 2773480762), (4, .int .u32 1359893119), (5, .int .u32 2600822924), (6, .int .u32 528734635), (7, .int .u32 1541459225)]).getD #[]) = arr 8 (Sha.stF Sha.init) := by kernel_rfl
  have hrz := row_new (w.alloc (.cells (List.replicate 32 (bv 0)).toArray 87)) (List.replicate 8 (wv 0#32)).toArray 81 8 (fun _ => wv 0#32) rfl (fun i hi => rep_at 8 i _ hi)
  rw [World.size_alloc] at hrz
  have hr0 := (row_new w (List.replicate 32 (bv 0)).toArray 87 32 (fun _ => bv 0) rfl (fun i hi => rep_at 32 i _ hi)).alloc (.cells (List.replicate 8 (wv 0#32)).toArray 81)
  have hl0 := (hl.alloc (.cells (List.replicate 32 (bv 0)).toArray 87)).alloc (.cells (List.replicate 8 (wv 0#32)).toArray 81)
  have hB0 := ((Below.refl w.heap.size w).alloc (Nat.le_refl _) (.cells (List.replicate 32 (bv 0)).toArray 87)).alloc (by simp) (.cells (List.replicate 8 (wv 0#32)).toArray 81)
  have HZ0 := Lib.hid (show ((w.alloc (.cells (List.replicate 32 (bv 0)).toArray 87)).alloc (.cells (List.replicate 8 (wv 0#32)).toArray 81)).heap.size = w.heap.size + 2 by simp)
  go_enter Tryd.func53, Tryd.ntmps53
  go_wp2_with (first | (refine wpList_build (o := ⟨some 14, _, _, _, _, _⟩) rfl _ _ rfl (by kernel_rfl) ?_) |
    (refine wpList_store_arr (o := ⟨none, _, _, _, _, _⟩) (g := Sha.stF Sha.init) rfl _ _ _ rfl hrz rfl rfl aggW8 (fun _ _ => rfl) ?_; intro hs0))
  clear hinit
  replace hr0 := row_setRow_other hr0 (show w.heap.size ≠ w.heap.size + 1 by omega) (arr 8 (Sha.stF Sha.init))
  replace hB0 := below_setRow' hB0 (show w.heap.size ≤ w.heap.size + 1 by omega) (arr 8 (Sha.stF Sha.init))
  have hl1 := hl.below hB0
  refine (ref_padded l x _ hl1 (by omega)).mono ?_
  rintro e w1 ⟨v4, rfl, hown, hb1⟩
  have hs1 := rowIs_below' hs0 hb1
  have hr1 := rowIs_below' hr0 hb1
  have hB1 := bl_on hB0 hb1
  replace hown := own_mono hown (base' := w.heap.size + 2) (by rw [size_setRow]; exact Nat.le_of_eq HZ0.out.symm)
  obtain ⟨hP64, hPpos, hPle⟩ := Sha.pad_len l
  have hsha : shaVal l = .agg (arr 32 (fun i => bv ((Sha.out (Sha.feed ((Sha.pad l).length / 64) Sha.init (Sha.pad l))).getD i 0))) := rfl
  have HSHA := Lib.hid hsha
  clear hsha hrz hl0 hs0 hr0 hB0 hb1 hl1 hl
  generalize Sha.pad l = P at *
  obtain ⟨Q, hQ⟩ : ∃ Q, Q = P.length / 64 := ⟨_, rfl⟩
  rw [← hQ] at hP64 HSHA
  clear hQ
  have HP := Lib.hid hP64
  clear hP64
  have hPle2 : P.length ≤ 20000000000000 := by omega
  obtain ⟨g4, c4, rfl, hg4, hg4'⟩ := hown.form (by omega)
  go_wp2_with fail
  go_loopw [5] (fun u5 wr => ∃ q : Nat, q ≤ Q ∧ u5 = .int .i64 ((64 * q : Nat) : Int) ∧ wr.rowIs w.heap.size 87 32 (fun _ => bv 0) ∧ wr.rowIs (w.heap.size + 1) 81 8 (Sha.stF (Sha.feed q Sha.init P)) ∧
    wr.ownsRow (w.heap.size + 2) 5 1 (.slice (some ⟨g4, 0, none⟩) P.length c4) P.length (P.map bv) ∧ Below w.heap.size w wr) (fun u5 _ => P.length - (intOf u5).toNat)
  case atStart => exact ⟨0, Nat.zero_le _, rfl, hr1, hs1, hown, hB1⟩
  case round =>
    clear hr1 hs1 hown hB1
    obtain ⟨q, hq, rfl, hr, hs, hown, hB⟩ := hrel
    have hP := HP.out
    by_cases hlt : 64 * q < P.length
    · skip
      have hsl := Sl.of_own hown
      have hblen : ((P.drop (64 * q)).take 64).length = 64 := by rw [List.length_take, List.length_drop]; omega
      have hfl := Sha.feed_last q Sha.init P
      have hq64 : 64 * q + 64 ≤ P.length := by omega
      have hq1 : q + 1 ≤ Q := by omega
      clear hP
      go_wp2_with (refine wpList_slice_lh (o := ⟨some 27, _, _, _, _, _⟩) rfl _ _ _ _ rfl elBytes rfl hsl _ _ (64 * q) (64 * q + 64) rfl rfl (by omega) (by omega) (by omega) (by omega) ?_; intro X d m hm hslm)
      obtain rfl : m = 64 := by omega
      clear hm
      have hslb : Sl wr (.slice X 64 d) 1 ((P.drop (64 * q)).take 64).length (((P.drop (64 * q)).take 64).map bv) := by
        rw [hblen]; simpa [List.map_take, List.map_drop] using hslm
      clear hslm hsl
      generalize (P.drop (64 * q)).take 64 = blk at *
      have HBL := Lib.hid hblen
      have HFL := Lib.hid hfl
      clear hblen hfl
      refine (ref_words blk _ _ HBL.out hslb).mono ?_
      rintro e w2 ⟨rfl, hb2⟩
      unfold schedVal
      have hr2 := (rowIs_below' hr hb2).alloc (.cells (arr 64 fun i => wv (Sha.wAt blk i)) 97)
      have hs2 := (rowIs_below' hs hb2).alloc (.cells (arr 64 fun i => wv (Sha.wAt blk i)) 97)
      generalize hst : Sha.feed q Sha.init P = s at *
      have HST := Lib.hid hst
      clear hst
      have hrz := row_new (w2.alloc (.cells (arr 64 fun i => wv (Sha.wAt blk i)) 97)) (List.replicate 8 (wv 0#32)).toArray 81 8 (fun _ => wv 0#32) rfl (fun i hi => rep_at 8 i _ hi)
      rw [World.size_alloc] at hrz
      go_wp2_with (first | (with_reducible refine wpList_store_fresh (o := ⟨none, _, _, _, _, _⟩) rfl _ _ _ rfl _ (arr 64 fun i => wv (Sha.wAt blk i)) rfl rfl aggW64 rfl (arr_size _ _) (arr_ones (fun _ _ => rfl)) ?_) |
        (refine wpList_load_arr (o := ⟨some 29, _, _, _, _, _⟩) rfl _ _ rfl hs2 rfl aggW8 ?_) |
        (refine wpList_store_arr (o := ⟨none, _, _, _, _, _⟩) (g := Sha.stF s) rfl _ _ _ rfl hrz rfl rfl aggW8 (fun _ _ => rfl) ?_; intro hV))
      have hown2 := (own_below hown hb2).alloc (.cells (arr 64 fun i => wv (Sha.wAt blk i)) 97)
      have hg42 : g4 < w2.heap.size := by
        obtain ⟨g, cap, e1, _, e2⟩ := (own_below hown hb2).form (by omega)
        injection e1 with e1; injection e1 with e1; injection e1 with e1; omega
      have hW2 := (row_alloc w2 97 64 (fun i => wv (Sha.wAt blk i))).alloc (.cells (List.replicate 8 (wv 0#32)).toArray 81)
      replace hr2 := hr2.alloc (.cells (List.replicate 8 (wv 0#32)).toArray 81)
      replace hs2 := hs2.alloc (.cells (List.replicate 8 (wv 0#32)).toArray 81)
      replace hown2 := hown2.alloc (.cells (List.replicate 8 (wv 0#32)).toArray 81)
      have hz2 := hB.size
      have hz3 := hb2.size
      have hz4 : w.heap.size + 1 < w2.heap.size := (rowIs_below' hs hb2).lt
      have hB2 : Below w.heap.size w ((w2.alloc (.cells (arr 64 fun i => wv (Sha.wAt blk i)) 97)).alloc (.cells (List.replicate 8 (wv 0#32)).toArray 81)) := ((bl_on hB hb2).alloc (by omega) _).alloc (by rw [World.size_alloc]; omega) _
      replace hW2 := row_setRow_other hW2 (show w2.heap.size ≠ w2.heap.size + 1 by omega) (arr 8 (Sha.stF s))
      replace hr2 := row_setRow_other hr2 (show w.heap.size ≠ w2.heap.size + 1 by omega) (arr 8 (Sha.stF s))
      replace hs2 := row_setRow_other hs2 (show w.heap.size + 1 ≠ w2.heap.size + 1 by omega) (arr 8 (Sha.stF s))
      replace hown2 := own_setRow_ge hown2 (show w2.heap.size + 1 ≠ g4 by omega) (arr 8 (Sha.stF s))
      replace hB2 := below_setRow' hB2 (show w.heap.size ≤ w2.heap.size + 1 by omega) (arr 8 (Sha.stF s))
      clear hr hs hown hB hslb hrz
      clear hb2
      obtain ⟨W4, hW4⟩ : ∃ W4 : World, W4 = ((w2.alloc (.cells (arr 64 fun i => wv (Sha.wAt blk i)) 97)).alloc (.cells (List.replicate 8 (wv 0#32)).toArray 81)).setRow (w2.heap.size + 1) (arr 8 (Sha.stF s)) := ⟨_, rfl⟩
      have hG4 : W4 = ((w2.alloc (.cells (arr 64 fun i => wv (Sha.wAt blk i)) 97)).alloc (.cells #[.int .u32 0, .int .u32 0, .int .u32 0, .int .u32 0, .int .u32 0, .int .u32 0, .int .u32 0, .int .u32 0] 81)).setRow (w2.heap.size + 1) (arr 8 (Sha.stF s)) := hW4
      replace hV : W4.rowIs (w2.heap.size + 1) 81 8 (Sha.stF s) := by rw [hG4]; exact hV
      rw [← hW4] at hW2 hr2 hs2 hown2 hB2
      rw [← hG4]
      clear hW4 hG4 hz2 hz3
      generalize w2.heap.size = g6 at *
      clear w2
      obtain ⟨wo, hwo⟩ : ∃ wo : World, wo = wr := ⟨_, rfl⟩
      go_loopw [8] (fun u8 wr => ∃ k : Nat, k ≤ 64 ∧ u8 = .int .i64 k ∧ wr.rowIs w.heap.size 87 32 (fun _ => bv 0) ∧ wr.rowIs (w.heap.size + 1) 81 8 (Sha.stF s) ∧
        wr.ownsRow (w.heap.size + 2) 5 1 (.slice (some ⟨g4, 0, none⟩) P.length c4) P.length (P.map bv) ∧ wr.rowIs g6 97 64 (fun i => wv (Sha.wAt blk i)) ∧ wr.rowIs (g6 + 1) 81 8 (Sha.stF (Sha.rounds blk s k)) ∧ Below w.heap.size w wr) (fun u8 _ => 64 - (intOf u8).toNat)
      case atStart => exact ⟨0, by omega, rfl, hr2, hs2, hown2, hW2, hV, hB2⟩
      case round =>
        clear hr2 hs2 hown2 hW2 hV hB2 hwo
        clear W4 wo
        obtain ⟨k, hk, rfl, hr, hs, hown, hW, hV, hB⟩ := hrel
        by_cases hlt : k < 64
        · skip
          have hkw := (hB.cell (p := ⟨1, k, none⟩) hC.1).trans (hC.2 k hlt)
          rw [kF_wv k hlt] at hkw
          have hwk := hW.cell (i := k) hlt
          have hrd : Sha.rounds blk s (k + 1) = Sha.round (Sha.rounds blk s k) (BitVec.ofNat 32 (Sha.ks.getD k 0)) (Sha.wAt blk k) := rfl
          generalize BitVec.ofNat 32 (Sha.ks.getD k 0) = kk at *
          generalize Sha.wAt blk k = wk at *
          generalize hrk : Sha.rounds blk s k = t at *
          obtain ⟨ta, tb, tc, td, te, tf, tg, th⟩ := t
          obtain ⟨v0, v1, v2, v3, v4, v5, v6, v7⟩ := rowIs_cells8 hV
          replace v0 : wr.cell? ⟨g6 + 1, 0, none⟩ = some (wv ta) := v0
          replace v1 : wr.cell? ⟨g6 + 1, 1, none⟩ = some (wv tb) := v1
          replace v2 : wr.cell? ⟨g6 + 1, 2, none⟩ = some (wv tc) := v2
          replace v3 : wr.cell? ⟨g6 + 1, 3, none⟩ = some (wv td) := v3
          replace v4 : wr.cell? ⟨g6 + 1, 4, none⟩ = some (wv te) := v4
          replace v5 : wr.cell? ⟨g6 + 1, 5, none⟩ = some (wv tf) := v5
          replace v6 : wr.cell? ⟨g6 + 1, 6, none⟩ = some (wv tg) := v6
          replace v7 : wr.cell? ⟨g6 + 1, 7, none⟩ = some (wv th) := v7
          have HRD := Lib.hid hrd
          have HRK := Lib.hid hrk
          clear hrd hrk
          have k0 : (0 : Int) ≤ (k : Int) := by omega
          have k64 : (k : Int) < 64 := by omega
          go_wp2_with fail
          refine wp_region_lasts (fun w' => w'.cell? ⟨g6 + 1, 4, none⟩ = some (wv te) ∧ w'.cell? ⟨g6 + 1, 5, none⟩ = some (wv tf) ∧ w'.cell? ⟨g6 + 1, 6, none⟩ = some (wv tg) ∧ w'.cell? ⟨g6 + 1, 7, none⟩ = some (wv th) ∧ w'.cell? ⟨g6, k, none⟩ = some (wv wk) ∧ w'.cell? ⟨1, k, none⟩ = some (wv kk)) (fun _ => false) (by kernel_rfl) ⟨v4, v5, v6, v7, hwk, hkw⟩ (fun hHeld => ?_)
          refine tk_0 (v := ?_) (by kernel_rfl) (by kernel_rfl) (by kernel_rfl) (by kernel_rfl) (fun _ _ _ h => h) (Or.inl ⟨by kernel_rfl, ?_⟩) (by assumption) ?_
          rotate_left
          · (intro wS hSw; (try dsimp only at hSw); (go_simp); (all_goals (with_reducible rfl)))
          try go_frame
          refine tk_1 (v := ?_) (by kernel_rfl) (by kernel_rfl) (by kernel_rfl) (by kernel_rfl) (fun _ _ _ h => h) (Or.inl ⟨by kernel_rfl, ?_⟩) (by assumption) ?_
          rotate_left
          · (intro wS hSw; (try dsimp only at hSw); (obtain ⟨q0, q1, q2, q3, q4, q5⟩ := hSw; go_simp); (all_goals (with_reducible rfl)))
          try go_frame
          refine tk_2 (v := ?_) (by kernel_rfl) (by kernel_rfl) (by kernel_rfl) (by kernel_rfl) (fun _ _ _ h => h) (Or.inl ⟨by kernel_rfl, ?_⟩) (by assumption) ?_
          rotate_left
          · (intro wS hSw; (try dsimp only at hSw); (go_simp); (all_goals (with_reducible rfl)))
          try go_frame
          refine tk_3 (v := ?_) (by kernel_rfl) (by kernel_rfl) (by kernel_rfl) (by kernel_rfl) (fun _ _ _ h => h) (Or.inl ⟨by kernel_rfl, ?_⟩) (by assumption) ?_
          rotate_left
          · (intro wS hSw; (try dsimp only at hSw); (obtain ⟨q0, q1, q2, q3, q4, q5⟩ := hSw; go_simp); (all_goals (with_reducible rfl)))
          try go_frame
          refine tk_5 (v := ?_) (by kernel_rfl) (by kernel_rfl) (by kernel_rfl) (by kernel_rfl) (fun _ _ _ h => h) (Or.inl ⟨by kernel_rfl, ?_⟩) (by assumption) ?_
          rotate_left
          · (intro wS hSw; (try dsimp only at hSw); (go_simp); (all_goals (with_reducible rfl)))
          try go_frame
          refine tk_6 (v := ?_) (by kernel_rfl) (by kernel_rfl) (by kernel_rfl) (by kernel_rfl) (fun _ _ _ h => h) (Or.inl ⟨by kernel_rfl, ?_⟩) (by assumption) ?_
          rotate_left
          · (intro wS hSw; (try dsimp only at hSw); (obtain ⟨q0, q1, q2, q3, q4, q5⟩ := hSw; go_simp); (all_goals (with_reducible rfl)))
          try go_frame
          refine tk_9 (v := ?_) (by kernel_rfl) (by kernel_rfl) (by kernel_rfl) (by kernel_rfl) (fun _ _ _ h => h) (Or.inl ⟨by kernel_rfl, ?_⟩) (by assumption) ?_
          rotate_left
          · (intro wS hSw; (try dsimp only at hSw); (go_simp); (all_goals (with_reducible rfl)))
          try go_frame
          refine tk_10 (v := ?_) (by kernel_rfl) (by kernel_rfl) (by kernel_rfl) (by kernel_rfl) (fun _ _ _ h => h) (Or.inl ⟨by kernel_rfl, ?_⟩) (by assumption) ?_
          rotate_left
          · (intro wS hSw; (try dsimp only at hSw); (obtain ⟨q0, q1, q2, q3, q4, q5⟩ := hSw; go_simp); (all_goals (with_reducible rfl)))
          try go_frame
          refine tk_14 (v := ?_) (by kernel_rfl) (by kernel_rfl) (by kernel_rfl) (by kernel_rfl) (fun _ _ _ h => h) (Or.inl ⟨by kernel_rfl, ?_⟩) (by assumption) ?_
          rotate_left
          · (intro wS hSw; (try dsimp only at hSw); (go_simp); (all_goals (with_reducible rfl)))
          try go_frame
          refine tk_15 (v := ?_) (by kernel_rfl) (by kernel_rfl) (by kernel_rfl) (by kernel_rfl) (fun _ _ _ h => h) (Or.inl ⟨by kernel_rfl, ?_⟩) (by assumption) ?_
          rotate_left
          · (intro wS hSw; (try dsimp only at hSw); (obtain ⟨q0, q1, q2, q3, q4, q5⟩ := hSw; go_simp); (all_goals (with_reducible rfl)))
          try go_frame
          refine tk_16 (v := ?_) (by kernel_rfl) (by kernel_rfl) (by kernel_rfl) (by kernel_rfl) (fun _ _ _ h => h) (Or.inl ⟨by kernel_rfl, ?_⟩) (by assumption) ?_
          rotate_left
          · (intro wS hSw; (try dsimp only at hSw); (go_simp); (all_goals (with_reducible rfl)))
          try go_frame
          refine tk_17 (v := ?_) (by kernel_rfl) (by kernel_rfl) (by kernel_rfl) (by kernel_rfl) (fun _ _ _ h => h) (Or.inl ⟨by kernel_rfl, ?_⟩) (by assumption) ?_
          rotate_left
          · (intro wS hSw; (try dsimp only at hSw); (obtain ⟨q0, q1, q2, q3, q4, q5⟩ := hSw; go_simp); (all_goals (with_reducible rfl)))
          try go_frame
          refine tk_18 (v := ?_) (by kernel_rfl) (by kernel_rfl) (by kernel_rfl) (by kernel_rfl) (fun _ _ _ h => h) (Or.inl ⟨by kernel_rfl, ?_⟩) (by assumption) ?_
          rotate_left
          · (intro wS hSw; (try dsimp only at hSw); (go_simp); (all_goals (with_reducible rfl)))
          try go_frame
          refine tk_19 (v := ?_) (by kernel_rfl) (by kernel_rfl) (by kernel_rfl) (by kernel_rfl) (fun _ _ _ h => h) (Or.inl ⟨by kernel_rfl, ?_⟩) (by assumption) ?_
          rotate_left
          · (intro wS hSw; (try dsimp only at hSw); (go_simp); (all_goals (with_reducible rfl)))
          try go_frame
          refine tk_20 (v := ?_) (by kernel_rfl) (by kernel_rfl) (by kernel_rfl) (by kernel_rfl) (fun _ _ _ h => h) (Or.inl ⟨by kernel_rfl, ?_⟩) (by assumption) ?_
          rotate_left
          · (intro wS hSw; (try dsimp only at hSw); (obtain ⟨q0, q1, q2, q3, q4, q5⟩ := hSw; go_simp); (all_goals (with_reducible rfl)))
          try go_frame
          refine tk_21 (v := ?_) (by kernel_rfl) (by kernel_rfl) (by kernel_rfl) (by kernel_rfl) (fun _ _ _ h => h) (Or.inl ⟨by kernel_rfl, ?_⟩) (by assumption) ?_
          rotate_left
          · (intro wS hSw; (try dsimp only at hSw); (go_simp); (all_goals (with_reducible rfl)))
          try go_frame
          refine tk_22 (v := ?_) (by kernel_rfl) (by kernel_rfl) (by kernel_rfl) (by kernel_rfl) (fun _ _ _ h => h) (Or.inl ⟨by kernel_rfl, ?_⟩) (by assumption) ?_
          rotate_left
          · (intro wS hSw; (try dsimp only at hSw); (go_simp); (all_goals (with_reducible rfl)))
          try go_frame
          refine tk_23 (v := ?_) (by kernel_rfl) (by kernel_rfl) (by kernel_rfl) (by kernel_rfl) (fun _ _ _ h => h) (Or.inl ⟨by kernel_rfl, ?_⟩) (by assumption) ?_
          rotate_left
          · (intro wS hSw; (try dsimp only at hSw); (obtain ⟨q0, q1, q2, q3, q4, q5⟩ := hSw; go_simp); (all_goals (with_reducible rfl)))
          try go_frame
          refine tk_24 (v := ?_) (by kernel_rfl) (by kernel_rfl) (by kernel_rfl) (by kernel_rfl) (fun _ _ _ h => h) (Or.inl ⟨by kernel_rfl, ?_⟩) (by assumption) ?_
          rotate_left
          · (intro wS hSw; (try dsimp only at hSw); (go_simp); (all_goals (with_reducible rfl)))
          try go_frame
          refine tk_25 (v := ?_) (by kernel_rfl) (by kernel_rfl) (by kernel_rfl) (by kernel_rfl) (fun _ _ _ h => h) (Or.inl ⟨by kernel_rfl, ?_⟩) (by assumption) ?_
          rotate_left
          · (intro wS hSw; (try dsimp only at hSw); (go_simp); (all_goals (with_reducible rfl)))
          try go_frame
          refine tk_27 (v := ?_) (by kernel_rfl) (by kernel_rfl) (by kernel_rfl) (by kernel_rfl) (fun _ _ _ h => h) (Or.inl ⟨by kernel_rfl, ?_⟩) (by assumption) ?_
          rotate_left
          · (intro wS hSw; (try dsimp only at hSw); (go_simp); (all_goals (with_reducible rfl)))
          try go_frame
          refine tk_28 (v := ?_) (by kernel_rfl) (by kernel_rfl) (by kernel_rfl) (by kernel_rfl) (fun _ _ _ h => h) (Or.inl ⟨by kernel_rfl, ?_⟩) (by assumption) ?_
          rotate_left
          · (intro wS hSw; (try dsimp only at hSw); (go_simp); (all_goals (with_reducible rfl)))
          try go_frame
          refine tk_29 (v := ?_) (by kernel_rfl) (by kernel_rfl) (by kernel_rfl) (by kernel_rfl) (fun _ _ _ h => h) (Or.inl ⟨by kernel_rfl, ?_⟩) (by assumption) ?_
          rotate_left
          · (intro wS hSw; (try dsimp only at hSw); (obtain ⟨q0, q1, q2, q3, q4, q5⟩ := hSw; go_simp); (all_goals (with_reducible rfl)))
          try go_frame
          refine tk_31 (v := ?_) (by kernel_rfl) (by kernel_rfl) (by kernel_rfl) (by kernel_rfl) (fun _ _ _ h => h) (Or.inl ⟨by kernel_rfl, ?_⟩) (by assumption) ?_
          rotate_left
          · (intro wS hSw; (try dsimp only at hSw); (go_simp); (all_goals (with_reducible rfl)))
          try go_frame
          refine tk_32 (v := ?_) (by kernel_rfl) (by kernel_rfl) (by kernel_rfl) (by kernel_rfl) (fun _ _ _ h => h) (Or.inl ⟨by kernel_rfl, ?_⟩) (by assumption) ?_
          rotate_left
          · (intro wS hSw; (try dsimp only at hSw); (go_simp); (all_goals (with_reducible rfl)))
          try go_frame
          refine tk_33 (v := ?_) (by kernel_rfl) (by kernel_rfl) (by kernel_rfl) (by kernel_rfl) (fun _ _ _ h => h) (Or.inl ⟨by kernel_rfl, ?_⟩) (by assumption) ?_
          rotate_left
          · (intro wS hSw; (try dsimp only at hSw); (obtain ⟨q0, q1, q2, q3, q4, q5⟩ := hSw; go_simp); (all_goals (with_reducible rfl)))
          try go_frame
          refine dn_4 (by kernel_rfl) (fun K hK => ?_)
          rw [if_pos (by kernel_rfl)]
          go_simp; go_at_call 59; with_reducible refine (ref_rotr te 6 _ 6 rfl rfl (by decide) (by decide) _).mono ?_; rintro e w' ⟨rfl, rfl⟩; go_simp
          refine hK.out _ _ (fun _ => by (try dsimp only); exact hHeld) (fun hHeld => ?_)
          replace hHeld := hHeld rfl
          clear hK K
          try go_frame
          refine dn_7 (by kernel_rfl) (fun K hK => ?_)
          rw [if_pos (by kernel_rfl)]
          go_simp; go_at_call 59; with_reducible refine (ref_rotr te 11 _ 11 rfl rfl (by decide) (by decide) _).mono ?_; rintro e w' ⟨rfl, rfl⟩; go_simp
          refine hK.out _ _ (fun _ => by (try dsimp only); exact hHeld) (fun hHeld => ?_)
          replace hHeld := hHeld rfl
          clear hK K
          try go_frame
          refine tk_8 (v := ?_) (by kernel_rfl) (by kernel_rfl) (by kernel_rfl) (by kernel_rfl) (fun _ _ _ h => h) (Or.inl ⟨by kernel_rfl, ?_⟩) (by assumption) ?_
          rotate_left
          · (intro wS hSw; (try dsimp only at hSw); (go_simp); (all_goals (with_reducible rfl)))
          try go_frame
          refine dn_11 (by kernel_rfl) (fun K hK => ?_)
          rw [if_pos (by kernel_rfl)]
          go_simp; go_at_call 59; with_reducible refine (ref_rotr te 25 _ 25 rfl rfl (by decide) (by decide) _).mono ?_; rintro e w' ⟨rfl, rfl⟩; go_simp
          refine hK.out _ _ (fun _ => by (try dsimp only); exact hHeld) (fun hHeld => ?_)
          replace hHeld := hHeld rfl
          clear hK K
          try go_frame
          refine tk_12 (v := ?_) (by kernel_rfl) (by kernel_rfl) (by kernel_rfl) (by kernel_rfl) (fun _ _ _ h => h) (Or.inl ⟨by kernel_rfl, ?_⟩) (by assumption) ?_
          rotate_left
          · (intro wS hSw; (try dsimp only at hSw); (go_simp); (all_goals (with_reducible rfl)))
          try go_frame
          refine tk_13 (v := ?_) (by kernel_rfl) (by kernel_rfl) (by kernel_rfl) (by kernel_rfl) (fun _ _ _ h => h) (Or.inl ⟨by kernel_rfl, ?_⟩) (by assumption) ?_
          rotate_left
          · (intro wS hSw; (try dsimp only at hSw); (go_simp); (all_goals (with_reducible rfl)))
          try go_frame
          refine tk_26 (v := ?_) (by kernel_rfl) (by kernel_rfl) (by kernel_rfl) (by kernel_rfl) (fun _ _ _ h => h) (Or.inl ⟨by kernel_rfl, ?_⟩) (by assumption) ?_
          rotate_left
          · (intro wS hSw; (try dsimp only at hSw); (go_simp); (all_goals (with_reducible rfl)))
          try go_frame
          refine tk_30 (v := ?_) (by kernel_rfl) (by kernel_rfl) (by kernel_rfl) (by kernel_rfl) (fun _ _ _ h => h) (Or.inl ⟨by kernel_rfl, ?_⟩) (by assumption) ?_
          rotate_left
          · (intro wS hSw; (try dsimp only at hSw); (go_simp); (all_goals (with_reducible rfl)))
          try go_frame
          refine tk_34 (v := ?_) (by kernel_rfl) (by kernel_rfl) (by kernel_rfl) (by kernel_rfl) (fun _ _ _ h => h) (Or.inl ⟨by kernel_rfl, ?_⟩) (by assumption) ?_
          rotate_left
          · (intro wS hSw; (try dsimp only at hSw); (go_simp); (all_goals (with_reducible rfl)))
          try go_frame
          refine tk_35 (v := ?_) (by kernel_rfl) (by kernel_rfl) (by kernel_rfl) (by kernel_rfl) (fun _ _ _ h => h) (Or.inl ⟨by kernel_rfl, ?_⟩) (by assumption) ?_
          rotate_left
          · (intro wS hSw; (try dsimp only at hSw); (go_simp); (all_goals (with_reducible rfl)))
          try go_frame
          refine wpAnyT_done (by kernel_rfl) ?_ _
          refine NoPanic.normal ?_
          rw [x_val2]
          generalize hxx : (th + Sha.mix te 6 11 25 + ((te &&& tf) ^^^ ((~~~ te) &&& tg)) + kk + wk) = xx at *
          have HX := Lib.hid hxx
          clear hxx hHeld hwk hkw
          go_wp2_with fail
          refine wp_region_lasts (fun w' => w'.cell? ⟨g6 + 1, 0, none⟩ = some (wv ta) ∧ w'.cell? ⟨g6 + 1, 1, none⟩ = some (wv tb) ∧ w'.cell? ⟨g6 + 1, 2, none⟩ = some (wv tc)) (fun _ => false) (by kernel_rfl) ⟨v0, v1, v2⟩ (fun hHeld => ?_)
          refine tk_0 (v := ?_) (by kernel_rfl) (by kernel_rfl) (by kernel_rfl) (by kernel_rfl) (fun _ _ _ h => h) (Or.inl ⟨by kernel_rfl, ?_⟩) (by assumption) ?_
          rotate_left
          · (intro wS hSw; (try dsimp only at hSw); (go_simp); (all_goals (with_reducible rfl)))
          try go_frame
          refine tk_1 (v := ?_) (by kernel_rfl) (by kernel_rfl) (by kernel_rfl) (by kernel_rfl) (fun _ _ _ h => h) (Or.inl ⟨by kernel_rfl, ?_⟩) (by assumption) ?_
          rotate_left
          · (intro wS hSw; (try dsimp only at hSw); (obtain ⟨q0, q1, q2⟩ := hSw; go_simp); (all_goals (with_reducible rfl)))
          try go_frame
          refine tk_3 (v := ?_) (by kernel_rfl) (by kernel_rfl) (by kernel_rfl) (by kernel_rfl) (fun _ _ _ h => h) (Or.inl ⟨by kernel_rfl, ?_⟩) (by assumption) ?_
          rotate_left
          · (intro wS hSw; (try dsimp only at hSw); (go_simp); (all_goals (with_reducible rfl)))
          try go_frame
          refine tk_4 (v := ?_) (by kernel_rfl) (by kernel_rfl) (by kernel_rfl) (by kernel_rfl) (fun _ _ _ h => h) (Or.inl ⟨by kernel_rfl, ?_⟩) (by assumption) ?_
          rotate_left
          · (intro wS hSw; (try dsimp only at hSw); (obtain ⟨q0, q1, q2⟩ := hSw; go_simp); (all_goals (with_reducible rfl)))
          try go_frame
          refine tk_7 (v := ?_) (by kernel_rfl) (by kernel_rfl) (by kernel_rfl) (by kernel_rfl) (fun _ _ _ h => h) (Or.inl ⟨by kernel_rfl, ?_⟩) (by assumption) ?_
          rotate_left
          · (intro wS hSw; (try dsimp only at hSw); (go_simp); (all_goals (with_reducible rfl)))
          try go_frame
          refine tk_8 (v := ?_) (by kernel_rfl) (by kernel_rfl) (by kernel_rfl) (by kernel_rfl) (fun _ _ _ h => h) (Or.inl ⟨by kernel_rfl, ?_⟩) (by assumption) ?_
          rotate_left
          · (intro wS hSw; (try dsimp only at hSw); (obtain ⟨q0, q1, q2⟩ := hSw; go_simp); (all_goals (with_reducible rfl)))
          try go_frame
          refine tk_11 (v := ?_) (by kernel_rfl) (by kernel_rfl) (by kernel_rfl) (by kernel_rfl) (fun _ _ _ h => h) (Or.inl ⟨by kernel_rfl, ?_⟩) (by assumption) ?_
          rotate_left
          · (intro wS hSw; (try dsimp only at hSw); (go_simp); (all_goals (with_reducible rfl)))
          try go_frame
          refine tk_12 (v := ?_) (by kernel_rfl) (by kernel_rfl) (by kernel_rfl) (by kernel_rfl) (fun _ _ _ h => h) (Or.inl ⟨by kernel_rfl, ?_⟩) (by assumption) ?_
          rotate_left
          · (intro wS hSw; (try dsimp only at hSw); (obtain ⟨q0, q1, q2⟩ := hSw; go_simp); (all_goals (with_reducible rfl)))
          try go_frame
          refine tk_13 (v := ?_) (by kernel_rfl) (by kernel_rfl) (by kernel_rfl) (by kernel_rfl) (fun _ _ _ h => h) (Or.inl ⟨by kernel_rfl, ?_⟩) (by assumption) ?_
          rotate_left
          · (intro wS hSw; (try dsimp only at hSw); (go_simp); (all_goals (with_reducible rfl)))
          try go_frame
          refine tk_14 (v := ?_) (by kernel_rfl) (by kernel_rfl) (by kernel_rfl) (by kernel_rfl) (fun _ _ _ h => h) (Or.inl ⟨by kernel_rfl, ?_⟩) (by assumption) ?_
          rotate_left
          · (intro wS hSw; (try dsimp only at hSw); (obtain ⟨q0, q1, q2⟩ := hSw; go_simp); (all_goals (with_reducible rfl)))
          try go_frame
          refine tk_15 (v := ?_) (by kernel_rfl) (by kernel_rfl) (by kernel_rfl) (by kernel_rfl) (fun _ _ _ h => h) (Or.inl ⟨by kernel_rfl, ?_⟩) (by assumption) ?_
          rotate_left
          · (intro wS hSw; (try dsimp only at hSw); (go_simp); (all_goals (with_reducible rfl)))
          try go_frame
          refine tk_16 (v := ?_) (by kernel_rfl) (by kernel_rfl) (by kernel_rfl) (by kernel_rfl) (fun _ _ _ h => h) (Or.inl ⟨by kernel_rfl, ?_⟩) (by assumption) ?_
          rotate_left
          · (intro wS hSw; (try dsimp only at hSw); (go_simp); (all_goals (with_reducible rfl)))
          try go_frame
          refine tk_17 (v := ?_) (by kernel_rfl) (by kernel_rfl) (by kernel_rfl) (by kernel_rfl) (fun _ _ _ h => h) (Or.inl ⟨by kernel_rfl, ?_⟩) (by assumption) ?_
          rotate_left
          · (intro wS hSw; (try dsimp only at hSw); (obtain ⟨q0, q1, q2⟩ := hSw; go_simp); (all_goals (with_reducible rfl)))
          try go_frame
          refine tk_18 (v := ?_) (by kernel_rfl) (by kernel_rfl) (by kernel_rfl) (by kernel_rfl) (fun _ _ _ h => h) (Or.inl ⟨by kernel_rfl, ?_⟩) (by assumption) ?_
          rotate_left
          · (intro wS hSw; (try dsimp only at hSw); (go_simp); (all_goals (with_reducible rfl)))
          try go_frame
          refine tk_19 (v := ?_) (by kernel_rfl) (by kernel_rfl) (by kernel_rfl) (by kernel_rfl) (fun _ _ _ h => h) (Or.inl ⟨by kernel_rfl, ?_⟩) (by assumption) ?_
          rotate_left
          · (intro wS hSw; (try dsimp only at hSw); (obtain ⟨q0, q1, q2⟩ := hSw; go_simp); (all_goals (with_reducible rfl)))
          try go_frame
          refine tk_20 (v := ?_) (by kernel_rfl) (by kernel_rfl) (by kernel_rfl) (by kernel_rfl) (fun _ _ _ h => h) (Or.inl ⟨by kernel_rfl, ?_⟩) (by assumption) ?_
          rotate_left
          · (intro wS hSw; (try dsimp only at hSw); (go_simp); (all_goals (with_reducible rfl)))
          try go_frame
          refine tk_21 (v := ?_) (by kernel_rfl) (by kernel_rfl) (by kernel_rfl) (by kernel_rfl) (fun _ _ _ h => h) (Or.inl ⟨by kernel_rfl, ?_⟩) (by assumption) ?_
          rotate_left
          · (intro wS hSw; (try dsimp only at hSw); (go_simp); (all_goals (with_reducible rfl)))
          try go_frame
          refine tk_22 (v := ?_) (by kernel_rfl) (by kernel_rfl) (by kernel_rfl) (by kernel_rfl) (fun _ _ _ h => h) (Or.inl ⟨by kernel_rfl, ?_⟩) (by assumption) ?_
          rotate_left
          · (intro wS hSw; (try dsimp only at hSw); (go_simp); (all_goals (with_reducible rfl)))
          try go_frame
          refine tk_23 (v := ?_) (by kernel_rfl) (by kernel_rfl) (by kernel_rfl) (by kernel_rfl) (fun _ _ _ h => h) (Or.inl ⟨by kernel_rfl, ?_⟩) (by assumption) ?_
          rotate_left
          · (intro wS hSw; (try dsimp only at hSw); (obtain ⟨q0, q1, q2⟩ := hSw; go_simp); (all_goals (with_reducible rfl)))
          try go_frame
          refine tk_24 (v := ?_) (by kernel_rfl) (by kernel_rfl) (by kernel_rfl) (by kernel_rfl) (fun _ _ _ h => h) (Or.inl ⟨by kernel_rfl, ?_⟩) (by assumption) ?_
          rotate_left
          · (intro wS hSw; (try dsimp only at hSw); (go_simp); (all_goals (with_reducible rfl)))
          try go_frame
          refine tk_25 (v := ?_) (by kernel_rfl) (by kernel_rfl) (by kernel_rfl) (by kernel_rfl) (fun _ _ _ h => h) (Or.inl ⟨by kernel_rfl, ?_⟩) (by assumption) ?_
          rotate_left
          · (intro wS hSw; (try dsimp only at hSw); (obtain ⟨q0, q1, q2⟩ := hSw; go_simp); (all_goals (with_reducible rfl)))
          try go_frame
          refine tk_26 (v := ?_) (by kernel_rfl) (by kernel_rfl) (by kernel_rfl) (by kernel_rfl) (fun _ _ _ h => h) (Or.inl ⟨by kernel_rfl, ?_⟩) (by assumption) ?_
          rotate_left
          · (intro wS hSw; (try dsimp only at hSw); (go_simp); (all_goals (with_reducible rfl)))
          try go_frame
          refine tk_27 (v := ?_) (by kernel_rfl) (by kernel_rfl) (by kernel_rfl) (by kernel_rfl) (fun _ _ _ h => h) (Or.inl ⟨by kernel_rfl, ?_⟩) (by assumption) ?_
          rotate_left
          · (intro wS hSw; (try dsimp only at hSw); (go_simp); (all_goals (with_reducible rfl)))
          try go_frame
          refine dn_2 (by kernel_rfl) (fun K hK => ?_)
          rw [if_pos (by kernel_rfl)]
          go_simp; go_at_call 59; with_reducible refine (ref_rotr ta 2 _ 2 rfl rfl (by decide) (by decide) _).mono ?_; rintro e w' ⟨rfl, rfl⟩; go_simp
          refine hK.out _ _ (fun _ => by (try dsimp only); exact hHeld) (fun hHeld => ?_)
          replace hHeld := hHeld rfl
          clear hK K
          try go_frame
          refine dn_5 (by kernel_rfl) (fun K hK => ?_)
          rw [if_pos (by kernel_rfl)]
          go_simp; go_at_call 59; with_reducible refine (ref_rotr ta 13 _ 13 rfl rfl (by decide) (by decide) _).mono ?_; rintro e w' ⟨rfl, rfl⟩; go_simp
          refine hK.out _ _ (fun _ => by (try dsimp only); exact hHeld) (fun hHeld => ?_)
          replace hHeld := hHeld rfl
          clear hK K
          try go_frame
          refine tk_6 (v := ?_) (by kernel_rfl) (by kernel_rfl) (by kernel_rfl) (by kernel_rfl) (fun _ _ _ h => h) (Or.inl ⟨by kernel_rfl, ?_⟩) (by assumption) ?_
          rotate_left
          · (intro wS hSw; (try dsimp only at hSw); (go_simp); (all_goals (with_reducible rfl)))
          try go_frame
          refine dn_9 (by kernel_rfl) (fun K hK => ?_)
          rw [if_pos (by kernel_rfl)]
          go_simp; go_at_call 59; with_reducible refine (ref_rotr ta 22 _ 22 rfl rfl (by decide) (by decide) _).mono ?_; rintro e w' ⟨rfl, rfl⟩; go_simp
          refine hK.out _ _ (fun _ => by (try dsimp only); exact hHeld) (fun hHeld => ?_)
          replace hHeld := hHeld rfl
          clear hK K
          try go_frame
          refine tk_10 (v := ?_) (by kernel_rfl) (by kernel_rfl) (by kernel_rfl) (by kernel_rfl) (fun _ _ _ h => h) (Or.inl ⟨by kernel_rfl, ?_⟩) (by assumption) ?_
          rotate_left
          · (intro wS hSw; (try dsimp only at hSw); (go_simp); (all_goals (with_reducible rfl)))
          try go_frame
          refine tk_28 (v := ?_) (by kernel_rfl) (by kernel_rfl) (by kernel_rfl) (by kernel_rfl) (fun _ _ _ h => h) (Or.inl ⟨by kernel_rfl, ?_⟩) (by assumption) ?_
          rotate_left
          · (intro wS hSw; (try dsimp only at hSw); (go_simp); (all_goals (with_reducible rfl)))
          try go_frame
          refine tk_29 (v := ?_) (by kernel_rfl) (by kernel_rfl) (by kernel_rfl) (by kernel_rfl) (fun _ _ _ h => h) (Or.inl ⟨by kernel_rfl, ?_⟩) (by assumption) ?_
          rotate_left
          · (intro wS hSw; (try dsimp only at hSw); (go_simp); (all_goals (with_reducible rfl)))
          try go_frame
          refine wpAnyT_done (by kernel_rfl) ?_ _
          refine NoPanic.normal ?_
          rw [y_val2]
          generalize hyy : (Sha.mix ta 2 13 22 + ((ta &&& tb) ^^^ (ta &&& tc) ^^^ (tb &&& tc))) = yy at *
          have HY := Lib.hid hyy
          clear hyy hHeld
          have H8 : ∃ wd, wr.drew.drew.drew.drew.drew.drew.drew.drew = wd ∧ wd.rowIs w.heap.size 87 32 (fun _ => bv 0) ∧ wd.rowIs (w.heap.size + 1) 81 8 (Sha.stF s) ∧ wd.ownsRow (w.heap.size + 2) 5 1 (.slice (some ⟨g4, 0, none⟩) P.length c4) P.length (P.map bv) ∧
              wd.rowIs g6 97 64 (fun i => wv (Sha.wAt blk i)) ∧ wd.rowIs (g6 + 1) 81 8 (Sha.stF ⟨ta, tb, tc, td, te, tf, tg, th⟩) ∧ Below w.heap.size w wd ∧ wd.cell? ⟨g6 + 1, 0, none⟩ = some (wv ta) ∧ wd.cell? ⟨g6 + 1, 1, none⟩ = some (wv tb) ∧ wd.cell? ⟨g6 + 1, 2, none⟩ = some (wv tc) ∧ wd.cell? ⟨g6 + 1, 3, none⟩ = some (wv td) ∧
              wd.cell? ⟨g6 + 1, 4, none⟩ = some (wv te) ∧ wd.cell? ⟨g6 + 1, 5, none⟩ = some (wv tf) ∧ wd.cell? ⟨g6 + 1, 6, none⟩ = some (wv tg) := ⟨_, rfl, hr, hs, hown, hW, hV, hB.drew.drew.drew.drew.drew.drew.drew.drew, v0, v1, v2, v3, v4, v5, v6⟩
          clear hr hs hown hW hV hB v0 v1 v2 v3 v4 v5 v6 v7
          obtain ⟨wd, hwd, hr, hs, hown, hW, hV, hB, v0, v1, v2, v3, v4, v5, v6⟩ := H8
          rw [hwd]
          clear hwd
          have hnew : Sha.rounds blk s (k + 1) = ⟨xx + yy, ta, tb, tc, td + xx, te, tf, tg⟩ := by rw [HRD.out, ← HX.out, ← HY.out]; rfl
          have HN := Lib.hid hnew
          have hE : Value.agg #[.int .u32 (((xx.toNat : Int) + (yy.toNat : Int)) % 4294967296), wv ta, wv tb, wv tc, .int .u32 (((td.toNat : Int) + (xx.toNat : Int)) % 4294967296), wv te, wv tf, wv tg] = .agg (arr 8 (Sha.stF ⟨xx + yy, ta, tb, tc, td + xx, te, tf, tg⟩)) := by rw [u32_add', u32_add']; rfl
          have hE2 : Value.agg #[.int .u32 (IntKind.u32.wrap ((xx.toNat : Int) + (yy.toNat : Int))), wv ta, wv tb, wv tc, .int .u32 (IntKind.u32.wrap ((td.toNat : Int) + (xx.toNat : Int))), wv te, wv tf, wv tg] = .agg (arr 8 (Sha.stF ⟨xx + yy, ta, tb, tc, td + xx, te, tf, tg⟩)) := by rw [u32_add, u32_add]; rfl
          have HE := Lib.hid hE
          have HE2 := Lib.hid hE2
          clear hnew hE hE2 HRD HRK HX HY
          go_wp2_with (refine wpList_store_arr (o := ⟨none, _, _, _, _, _⟩) (g := Sha.stF ⟨xx + yy, ta, tb, tc, td + xx, te, tf, tg⟩) rfl _ _ _ rfl hV rfl (by first | exact HE.out | exact HE2.out) aggW8 (fun _ _ => rfl) ?_; intro hV2)
          replace hr := row_setRow_other hr (show w.heap.size ≠ g6 + 1 by omega) (arr 8 (Sha.stF ⟨xx + yy, ta, tb, tc, td + xx, te, tf, tg⟩))
          replace hs := row_setRow_other hs (show w.heap.size + 1 ≠ g6 + 1 by omega) (arr 8 (Sha.stF ⟨xx + yy, ta, tb, tc, td + xx, te, tf, tg⟩))
          replace hW := row_setRow_other hW (show g6 ≠ g6 + 1 by omega) (arr 8 (Sha.stF ⟨xx + yy, ta, tb, tc, td + xx, te, tf, tg⟩))
          replace hown := own_setRow_ge hown (show g6 + 1 ≠ g4 by omega) (arr 8 (Sha.stF ⟨xx + yy, ta, tb, tc, td + xx, te, tf, tg⟩))
          replace hB := below_setRow' hB (show w.heap.size ≤ g6 + 1 by omega) (arr 8 (Sha.stF ⟨xx + yy, ta, tb, tc, td + xx, te, tf, tg⟩))
          go_roundw
          case rel =>
            exact ⟨k + 1, by omega, by go_num, hr, hs, hown, hW, by rw [HN.out]; exact hV2, hB⟩
          case measure => go_light; simp [intOf]; omega
        · obtain rfl : k = 64 := by omega
          go_wp2_with fail
          obtain ⟨wo, hwo⟩ : ∃ wo : World, wo = wr := ⟨_, rfl⟩
          have hcp : Sha.compress s blk = s.add (Sha.rounds blk s 64) := rfl
          have HCP := Lib.hid hcp
          clear hcp
          generalize Sha.rounds blk s 64 = t at *
          go_loopw [11] (fun u11 wr => ∃ i : Nat, i ≤ 8 ∧ u11 = .int .i64 i ∧ wr.rowIs w.heap.size 87 32 (fun _ => bv 0) ∧ wr.rowIs (w.heap.size + 1) 81 8 (fun j => if j < i then Sha.stF (s.add t) j else Sha.stF s j) ∧
            wr.ownsRow (w.heap.size + 2) 5 1 (.slice (some ⟨g4, 0, none⟩) P.length c4) P.length (P.map bv) ∧ wr.rowIs (g6 + 1) 81 8 (Sha.stF t) ∧ Below w.heap.size w wr) (fun u11 _ => 8 - (intOf u11).toNat)
          case atStart => exact ⟨0, by omega, rfl, hr, hs, hown, hV, hB⟩
          case round =>
            clear hr hs hown hW hV hB hwo
            clear wo
            obtain ⟨i, hi, rfl, hr, hs, hown, hV, hB⟩ := hrel
            by_cases hi8 : i < 8
            · have c1 := hs.cell (i := i) (by omega)
              have f1 := hs.frozen i
              have c2 := hV.cell (i := i) hi8
              rw [if_neg (by omega)] at c1
              obtain ⟨x, y, ex, ey, exy⟩ := st_add s t i hi8
              rw [ex] at c1
              rw [ey] at c2
              have HXY := Lib.hid exy
              clear ex ey exy
              have i8 : (i : Int) < 8 := by omega
              have i0 : (0 : Int) ≤ (i : Int) := by omega
              go_wp2_with fail
              refine wp_region_lasts (fun w' => w'.cell? ⟨w.heap.size + 1, i, none⟩ = some (wv x) ∧ w'.cell? ⟨g6 + 1, i, none⟩ = some (wv y)) (fun i => i == 9) (by kernel_rfl) ⟨c1, c2⟩ (fun hHeld => ?_)
              refine tk_0 (v := ?_) (by kernel_rfl) (by kernel_rfl) (by kernel_rfl) (by kernel_rfl) (fun _ _ _ h => h) (Or.inl ⟨by kernel_rfl, ?_⟩) (by assumption) ?_
              rotate_left
              · (intro wS hSw; (try dsimp only at hSw); (go_simp); (all_goals (with_reducible rfl)))
              try go_frame
              refine tk_1 (v := ?_) (by kernel_rfl) (by kernel_rfl) (by kernel_rfl) (by kernel_rfl) (fun _ _ _ h => h) (Or.inl ⟨by kernel_rfl, ?_⟩) (by assumption) ?_
              rotate_left
              · (intro wS hSw; (try dsimp only at hSw); (go_simp); (all_goals (with_reducible rfl)))
              try go_frame
              refine tk_2 (v := ?_) (by kernel_rfl) (by kernel_rfl) (by kernel_rfl) (by kernel_rfl) (fun _ _ _ h => h) (Or.inl ⟨by kernel_rfl, ?_⟩) (by assumption) ?_
              rotate_left
              · (intro wS hSw; (try dsimp only at hSw); (go_simp); (all_goals (with_reducible rfl)))
              try go_frame
              refine tk_3 (v := ?_) (by kernel_rfl) (by kernel_rfl) (by kernel_rfl) (by kernel_rfl) (fun _ _ _ h => h) (Or.inl ⟨by kernel_rfl, ?_⟩) (by assumption) ?_
              rotate_left
              · (intro wS hSw; (try dsimp only at hSw); (obtain ⟨q0, q1⟩ := hSw; go_simp); (all_goals (with_reducible rfl)))
              try go_frame
              refine tk_4 (v := ?_) (by kernel_rfl) (by kernel_rfl) (by kernel_rfl) (by kernel_rfl) (fun _ _ _ h => h) (Or.inl ⟨by kernel_rfl, ?_⟩) (by assumption) ?_
              rotate_left
              · (intro wS hSw; (try dsimp only at hSw); (go_simp); (all_goals (with_reducible rfl)))
              try go_frame
              refine tk_5 (v := ?_) (by kernel_rfl) (by kernel_rfl) (by kernel_rfl) (by kernel_rfl) (fun _ _ _ h => h) (Or.inl ⟨by kernel_rfl, ?_⟩) (by assumption) ?_
              rotate_left
              · (intro wS hSw; (try dsimp only at hSw); (go_simp); (all_goals (with_reducible rfl)))
              try go_frame
              refine tk_6 (v := ?_) (by kernel_rfl) (by kernel_rfl) (by kernel_rfl) (by kernel_rfl) (fun _ _ _ h => h) (Or.inl ⟨by kernel_rfl, ?_⟩) (by assumption) ?_
              rotate_left
              · (intro wS hSw; (try dsimp only at hSw); (obtain ⟨q0, q1⟩ := hSw; go_simp); (all_goals (with_reducible rfl)))
              try go_frame
              refine tk_7 (v := ?_) (by kernel_rfl) (by kernel_rfl) (by kernel_rfl) (by kernel_rfl) (fun _ _ _ h => h) (Or.inl ⟨by kernel_rfl, ?_⟩) (by assumption) ?_
              rotate_left
              · (intro wS hSw; (try dsimp only at hSw); (go_simp); (all_goals (with_reducible rfl)))
              try go_frame
              refine tk_8 (v := ?_) (by kernel_rfl) (by kernel_rfl) (by kernel_rfl) (by kernel_rfl) (fun _ _ _ h => h) (Or.inl ⟨by kernel_rfl, ?_⟩) (by assumption) ?_
              rotate_left
              · (intro wS hSw; (try dsimp only at hSw); (go_simp); (all_goals (with_reducible rfl)))
              try go_frame
              refine dn_9 (by kernel_rfl) (fun K hK => ?_)
              rw [if_pos (by kernel_rfl)]
              go_simp
              refine hK.out _ _ (fun h => by cases h) (fun _ => ?_)
              clear hK K
              try go_frame
              refine wpAnyT_done (by kernel_rfl) ?_ _
              refine NoPanic.normal ?_
              rw [u32_add]
              go_wp2_with fail
              go_roundw
              case rel =>
                have hs3 : ((wr.setCell ⟨w.heap.size + 1, i, none⟩ (wv (x + y))).drew).rowIs (w.heap.size + 1) 81 8 (fun j => if j < i + 1 then Sha.stF (s.add t) j else Sha.stF s j) := ((hs.set i _).congr (fun j _ => by
                  by_cases hji : j = i
                  · subst hji; rw [if_pos rfl, if_pos (by omega), HXY.out]
                  · rw [if_neg hji]
                    by_cases h2 : j < i
                    · rw [if_pos h2, if_pos (by omega)]
                    · rw [if_neg h2, if_neg (by omega)])).drew
                have hr3 := (hr.setOther (a := ⟨w.heap.size + 1, i, none⟩) (show w.heap.size ≠ w.heap.size + 1 by omega) (wv (x + y))).drew
                have hV3 := (hV.setOther (a := ⟨w.heap.size + 1, i, none⟩) (show g6 + 1 ≠ w.heap.size + 1 by omega) (wv (x + y))).drew
                have hown3 := own_setCell hown (p := ⟨w.heap.size + 1, i, none⟩) (show w.heap.size + 1 < w.heap.size + 2 by omega) (wv (x + y))
                have hB3 := (hB.setCell (p := ⟨w.heap.size + 1, i, none⟩) (show w.heap.size ≤ w.heap.size + 1 by omega) (wv (x + y))).drew
                repeat apply Exists.intro
                exact ⟨⟨i + 1, by omega, by go_num, hr3, hs3, hown3, hV3, hB3⟩, rfl⟩
              case measure => go_light; simp [intOf]; omega
            · obtain rfl : i = 8 := by omega
              have hs2 : wr.rowIs (w.heap.size + 1) 81 8 (Sha.stF (Sha.feed (q + 1) Sha.init P)) := by rw [HFL.out, HCP.out]; exact hs.congr (fun j hj => by rw [if_pos hj])
              go_wp2_with fail
              go_roundw
              case rel => exact ⟨q + 1, hq1, by go_num, hr, hs2, hown, hB⟩
              case measure => go_light; simp [intOf]; omega
    · obtain rfl : q = Q := by omega
      have hnl : ¬ (64 * q < P.length) := hlt
      clear hP
      go_wp2_with fail
      generalize Sha.feed q Sha.init P = sf at *
      have hnew := row_new wr (List.replicate 32 (bv 0)).toArray 87 32 (fun j => if j < 0 then bv ((Sha.out sf).getD j 0) else bv 0) rfl (fun i hi => by rw [rep_at 32 i _ hi, if_neg (by omega)])
      have hr7 := hr.alloc (.cells (List.replicate 32 (bv 0)).toArray 87)
      have hs7 := hs.alloc (.cells (List.replicate 32 (bv 0)).toArray 87)
      have hB7 := hB.alloc hB.size (.cells (List.replicate 32 (bv 0)).toArray 87)
      have hz7 : w.heap.size + 1 < wr.heap.size := hs.lt
      generalize wr.heap.size = g12 at *
      go_loopw [13] (fun u13 wi => ∃ i : Nat, i ≤ 32 ∧ u13 = .int .i64 i ∧ wi.rowIs w.heap.size 87 32 (fun _ => bv 0) ∧ wi.rowIs (w.heap.size + 1) 81 8 (Sha.stF sf) ∧
        wi.rowIs g12 87 32 (fun j => if j < i then bv ((Sha.out sf).getD j 0) else bv 0) ∧ Below w.heap.size w wi) (fun u13 _ => 32 - (intOf u13).toNat)
      case atStart => exact ⟨0, by omega, rfl, hr7, hs7, hnew, hB7⟩
      case round =>
        clear hnew hr7 hs7 hB7 hr hs hB hown
        obtain ⟨i, hi, rfl, hr, hs, hnew, hB⟩ := hrel
        by_cases hi32 : i < 32
        · have hc1 := hs.cell (i := i / 4) (by omega)
          have e1 : Sha.stF sf (i / 4) = wv (sf.toList.getD (i / 4) 0#32) := rfl
          rw [e1] at hc1
          have hc2 := hnew.cell (i := i) hi32
          rw [if_neg (by omega)] at hc2
          have hfr := hnew.frozen i
          have hov := Lib.hid (out_val sf i hi32)
          clear e1
          generalize sf.toList.getD (i / 4) 0#32 = x at *
          have hx := x.isLt
          go_wp2_with fail
          rw [hov.out]
          go_roundw
          case rel =>
            refine ⟨i + 1, by omega, by go_num, hr.setOther (show w.heap.size ≠ g12 by omega) _, hs.setOther (show w.heap.size + 1 ≠ g12 by omega) _, (hnew.set i _).congr (fun j _ => ?_), hB.setCell (show w.heap.size ≤ g12 by omega) _⟩
            by_cases hji : j = i
            · subst hji; rw [if_pos rfl, if_pos (by omega)]
            · rw [if_neg hji]
              by_cases h2 : j < i
              · rw [if_pos h2, if_pos (by omega)]
              · rw [if_neg h2, if_neg (by omega)]
          case measure => go_light; simp [intOf]; omega
        · obtain rfl : i = 32 := by omega
          have hn2 : wr.rowIs g12 87 32 (fun j => bv ((Sha.out sf).getD j 0)) := hnew.congr (fun j hj => by rw [if_pos hj])
          go_wp2_with (first | (with_reducible refine wpList_load_arr (o := ⟨some 147, _, _, _, _, _⟩) rfl _ _ rfl hn2 rfl aggSum ?_) | (refine wpList_store_arr (o := ⟨none, _, _, _, _, _⟩) rfl _ _ _ rfl hr rfl rfl aggSum (fun _ _ => rfl) ?_; intro hr2))
          refine bodyPost_arr (p := 2) (by rfl) hr2 (by rfl) aggSum (by rfl) ⟨?_, below_setRow' hB (by omega) _⟩
          rw [HSHA.out]
set_option maxHeartbeats 1000000 in
set_option maxRecDepth 100000 in
theorem ref_Short (l : List UInt8) (x : Value) (w : World) (hl : Sl w x 1 l.length (l.map bv)) (hb : l.length ≤ 10000000000000) (hC : RConsts w) :
    Calls Tryd.prog 47 #[x] w fun e w' => e = .returned (digVal l) ∧ Below w.heap.size w w' := by
  have hinit : ((Tryd.prog.built 59 []).getD #[]) = arr 16 (fun _ => bv 0) := by kernel_rfl
  have hr0 := row_new w (List.replicate 16 (bv 0)).toArray 59 16 (fun _ => bv 0) rfl (fun i hi => rep_at 16 i _ hi)
  have hB0 := (Below.refl w.heap.size w).alloc (Nat.le_refl _) (.cells (List.replicate 16 (bv 0)).toArray 59)
  have hl0 := hl.below hB0
  have hC0 := hC.below hB0
  have HI := Lib.hid hinit
  clear hinit
  go_enter Tryd.func47, Tryd.ntmps47
  go_wp2_with fail
  refine (ref_Sum l x _ hl0 hb hC0).mono ?_
  rintro e w1 ⟨rfl, hb1⟩
  have hr1 := rowIs_below' hr0 hb1
  have hB1 := bl_on hB0 hb1
  unfold shaVal
  clear hr0 hB0 hl0 hC0 hl hC hb1
  have hrz := row_new w1 (List.replicate 32 (bv 0)).toArray 87 32 (fun _ => bv 0) rfl (fun i hi => rep_at 32 i _ hi)
  have hz1 : w.heap.size < w1.heap.size := hr1.lt
  have hr2 := hr1.alloc (.cells (List.replicate 32 (bv 0)).toArray 87)
  have hB2 := hB1.alloc hB1.size (.cells (List.replicate 32 (bv 0)).toArray 87)
  have hinit := HI.out
  have hr3 := row_setRow_other hr2 (Nat.ne_of_lt hz1) (arr 32 fun i => bv ((Sha.sha l).getD i 0))
  have hB3 := below_setRow' hB2 (Nat.le_of_lt hz1) (arr 32 fun i => bv ((Sha.sha l).getD i 0))
  have hz3 : ((w1.alloc (.cells (List.replicate 32 (bv 0)).toArray 87)).setRow w1.heap.size (arr 32 fun i => bv ((Sha.sha l).getD i 0))).heap.size = w1.heap.size + 1 := by rw [size_setRow, World.size_alloc]
  have hrd := row_new ((w1.alloc (.cells (List.replicate 32 (bv 0)).toArray 87)).setRow w1.heap.size (arr 32 fun i => bv ((Sha.sha l).getD i 0))) (List.replicate 16 (bv 0)).toArray 59 16 (fun _ => bv 0) rfl (fun i hi => rep_at 16 i _ hi)
  rw [hz3] at hrd
  have hr4 := hr3.alloc (.cells (List.replicate 16 (bv 0)).toArray 59)
  have hB4 := hB3.alloc hB3.size (.cells (List.replicate 16 (bv 0)).toArray 59)
  clear hz3
  go_wp2_with (first | (refine wpList_build (o := ⟨some 8, _, _, _, _, _⟩) rfl _ _ rfl (by kernel_rfl) ?_) |
    (refine wpList_store_arr (o := ⟨none, _, _, _, _, _⟩) (g := fun i => bv ((Sha.sha l).getD i 0)) rfl _ _ _ rfl hrz rfl rfl aggSum (fun _ _ => rfl) ?_; intro hs2; have hs4 := hs2.alloc (.cells (List.replicate 16 (bv 0)).toArray 59)) |
    (refine wpList_store_arr (o := ⟨none, _, _, _, _, _⟩) (g := fun _ => bv 0) rfl _ _ _ rfl hrd rfl rfl aggDig (fun _ _ => rfl) ?_; intro hd4))
  replace hr4 := row_setRow_other hr4 (show w.heap.size ≠ w1.heap.size + 1 by omega) (arr 16 fun _ => bv 0)
  replace hs4 := row_setRow_other hs4 (show w1.heap.size ≠ w1.heap.size + 1 by omega) (arr 16 fun _ => bv 0)
  replace hB4 := below_setRow' hB4 (show w.heap.size ≤ w1.heap.size + 1 by omega) (arr 16 fun _ => bv 0)
  clear hinit hrz hrd hs2 hr1 hr2 hr3 hB1 hB2 hB3
  go_loopw [5] (fun u5 wr => ∃ k : Nat, k ≤ 16 ∧ u5 = .int .i64 k ∧ wr.rowIs w.heap.size 59 16 (fun _ => bv 0) ∧ wr.rowIs w1.heap.size 87 32 (fun i => bv ((Sha.sha l).getD i 0)) ∧
    wr.rowIs (w1.heap.size + 1) 59 16 (fun i => if i < k then bv ((Sha.sha l).getD i 0) else bv 0) ∧ Below w.heap.size w wr) (fun u5 _ => 16 - (intOf u5).toNat)
  case atStart => exact ⟨0, by omega, rfl, hr4, hs4, hd4.congr (fun i _ => by rw [if_neg (by omega)]), hB4⟩
  case round =>
    clear hr4 hs4 hd4 hB4
    obtain ⟨k, hk, rfl, hr, hs, hd, hB⟩ := hrel
    by_cases hlt : k < 16
    · have c1 := hs.cell (i := k) (by omega)
      have c2 := hd.cell (i := k) hlt
      have f2 := hd.frozen k
      rw [if_neg (by omega)] at c2
      obtain ⟨u, hu⟩ : ∃ u, u = (Sha.sha l).getD k 0 := ⟨_, rfl⟩
      rw [← hu] at c1
      have HU := Lib.hid hu
      unfold bv at c1
      clear hu
      go_wp2_with fail
      go_roundw
      case rel =>
        refine ⟨k + 1, by omega, by go_num, hr.setOther (show w.heap.size ≠ w1.heap.size + 1 by omega) _, hs.setOther (show w1.heap.size ≠ w1.heap.size + 1 by omega) _, (hd.set k _).congr (fun j _ => ?_), hB.setCell (show w.heap.size ≤ w1.heap.size + 1 by omega) _⟩
        by_cases hji : j = k
        · subst hji; rw [if_pos rfl, if_pos (by omega), ← HU.out]; rfl
        · rw [if_neg hji]
          by_cases h2 : j < k
          · rw [if_pos h2, if_pos (by omega)]
          · rw [if_neg h2, if_neg (by omega)]
      case measure => go_light; simp [intOf]; omega
    · obtain rfl : k = 16 := by omega
      have hd2 : wr.rowIs (w1.heap.size + 1) 59 16 (fun i => bv ((Sha.sha l).getD i 0)) := hd.congr (fun i hi => by rw [if_pos hi])
      go_wp2_with (first | (with_reducible refine wpList_load_arr (o := ⟨some 18, _, _, _, _, _⟩) rfl _ _ rfl hd2 rfl aggDig ?_) | (refine wpList_store_arr (o := ⟨none, _, _, _, _, _⟩) rfl _ _ _ rfl hr rfl rfl aggDig (fun _ _ => rfl) ?_; intro hr2))
      exact bodyPost_arr (p := 2) (by rfl) hr2 (by rfl) aggDig (by rfl) ⟨rfl, below_setRow' hB (Nat.le_refl _) _⟩
theorem of_len' (tag : Int) (l : List ByteArray) {M : Nat} (h1 : l.length ≤ 12) (h2 : ∀ s ∈ l, s.size ≤ M) (hM : M ≤ 100000 := by decide) : (ofInput tag l).length ≤ 20000000 := by
  have := of_len tag l (fun s hs => by have := h2 s hs; omega)
  omega
theorem of_snoc' (tag : Int) (l : List ByteArray) (k : Nat) (s : ByteArray) (h : l[k]? = some s) : ofInput tag (l.take (k + 1)) = ofInput tag (l.take k) ++ encBytes s := by
  unfold ofInput
  rw [List.take_add_one, h]; simp
theorem tag_val (tag : Int) : Value.int .u8 (tag % 256) = bv (UInt8.ofNat (tag % 256).toNat) := by
  rw [bv_ofNat _ (by omega)]; congr 1; omega
set_option maxHeartbeats 1000000 in
set_option maxRecDepth 100000 in
theorem ref_Input (tag : Int) (l : List ByteArray) (x : Value) (w : World) (hl : Sl w x 1 l.length (l.map Value.string)) {M : Nat} (hn : l.length ≤ 12) (hb : ∀ s ∈ l, s.size ≤ M) (hM : M ≤ 100000 := by decide) :
    Calls Tryd.prog 48 #[.int .i64 tag, x] w (Made (ofInput tag l) w) := by
  obtain ⟨A, c, rfl, hnc, hcm, hr⟩ := hl
  unfold maxLen at hcm
  have htv := Lib.hid (tag_val tag)
  have hown0 := own_new w (bv (UInt8.ofNat (tag % 256).toNat)) 5 w.heap.size (Nat.le_refl _)
  have hB0 := (Below.refl w.heap.size w).alloc (Nat.le_refl _) (.cells #[bv (UInt8.ofNat (tag % 256).toNat)] 5)
  rw [← htv.out] at hown0 hB0
  go_enter Tryd.func48, Tryd.ntmps48
  go_wp2_with fail
  go_loopw [5, 6] (fun u5 u6 wr => ∃ k : Nat, k ≤ l.length ∧ u6 = .int .i64 k ∧ wr.ownsRow w.heap.size 5 1 u5 (ofInput tag (l.take k)).length ((ofInput tag (l.take k)).map bv) ∧ Below w.heap.size w wr) (fun _ u6 _ => l.length - (intOf u6).toNat)
  case atStart => exact ⟨0, Nat.zero_le _, rfl, by simpa [ofInput, htv.out] using hown0, hB0⟩
  case round =>
    clear hown0 hB0
    obtain ⟨k, hk, rfl, hown, hB⟩ := hrel
    have hsz := hB.size
    by_cases hlt : k < l.length
    · obtain ⟨ad, s, rfl, hab, hx, hc⟩ := (hr.below hB).elem hlt rfl
      have hs := hb s (List.mem_of_getElem? hx)
      have hlen := of_len' tag (l.take k) (by rw [List.length_take]; omega) (fun t ht => hb t (List.mem_of_mem_take ht)) hM
      have HS := Lib.hid (of_snoc' tag l k s hx)
      have hel := encBytes_10 s (by omega)
      clear hx hb
      go_wp2_with fail
      refine (ref_Bytes s _ (by omega)).mono ?_
      rintro e w1 ⟨v1, rfl, hown1, hb1⟩
      have hsl := Sl.of_own hown1
      go_wp2_with (at_builtin; refine wpList_append_all _ rfl _ _ _ rfl elBytes w.heap.size _ _ _ rfl (own_below hown hb1) _ _ _ rfl hsl (bvs_one _) (by omega) (by omega) (Nat.le_trans hsz hb1.size) w w.heap.size (hB.trans (hb1.mono hsz)) (Nat.le_refl _) ?_)
      intro v2 w2 hown2 hb2
      have hown3 : w2.ownsRow w.heap.size 5 1 v2 (ofInput tag (l.take (k + 1))).length ((ofInput tag (l.take (k + 1))).map bv) := by rw [HS.out, List.length_append, List.map_append]; exact hown2
      clear hown2 hown hown1 hsl hB hb1
      go_wp2_with fail
      go_roundw
      case rel => exact ⟨k + 1, hlt, by go_num, hown3, hb2⟩
      case measure => go_light; simp [intOf]; omega
    · obtain rfl : k = l.length := by omega
      rw [List.take_length] at hown
      go_wp2_with fail
      go_ret
      exact ⟨_, rfl, hown, hB⟩
set_option maxHeartbeats 1000000 in
set_option maxRecDepth 100000 in
theorem ref_Of (tag : Int) (l : List ByteArray) (x : Value) (w : World) (hl : Sl w x 1 l.length (l.map Value.string)) {M : Nat} (hn : l.length ≤ 12) (hb : ∀ s ∈ l, s.size ≤ M) (hC : RConsts w) (hM : M ≤ 100000 := by decide) :
    Calls Tryd.prog 27 #[.int .i64 tag, x] w fun e w' => e = .returned (digVal (ofInput tag l)) ∧ Below w.heap.size w w' := by
  have hr0 := row_new w (List.replicate 16 (bv 0)).toArray 59 16 (fun _ => bv 0) rfl (fun i hi => rep_at 16 i _ hi)
  have hB0 := (Below.refl w.heap.size w).alloc (Nat.le_refl _) (.cells (List.replicate 16 (bv 0)).toArray 59)
  have hl0 := hl.below hB0
  have hC0 := hC.below hB0
  go_enter Tryd.func27, Tryd.ntmps27
  go_wp2_with fail
  refine (ref_Input tag l x _ hl0 hn hb hM).mono ?_
  rintro e w1 ⟨v1, rfl, hown1, hb1⟩
  go_wp2_with fail
  refine (ref_Short _ _ _ (Sl.of_own hown1) (by have := of_len' tag l hn hb hM; omega) (hC0.below hb1)).mono ?_
  rintro e w2 ⟨rfl, hb2⟩
  have hr2 := rowIs_below' (rowIs_below' hr0 hb1) hb2
  have hB2 := bl_on (bl_on hB0 hb1) hb2
  clear hr0 hB0 hl0 hC0 hown1 hb1 hb2
  unfold digVal
  go_wp2_with (refine wpList_store_arr (o := ⟨none, _, _, _, _, _⟩) rfl _ _ _ rfl hr2 rfl rfl aggDig (fun _ _ => rfl) ?_; intro hr3)
  exact bodyPost_arr (p := 4) (by rfl) hr3 (by rfl) aggDig (by rfl) ⟨rfl, below_setRow' hB2 (Nat.le_refl _) _⟩
section
def dC (es : List E) : List D := es.map D.e
theorem dC_len (es : List E) : (dC es).length = es.length := List.length_map _
structure LnAt {β : Type} (F : List E) (c' : Cd β) (o : Nat) (b : β) (F' : β → List E) : Prop where
  le : o + c'.sz ≤ F.length
  g : (F.drop o).take c'.sz = c'.f b
  p : ∀ y, F.take o ++ c'.f y ++ F.drop (o + c'.sz) = F' y
section
variable {α β γ : Type} {F : List E}
theorem LnAt.id (c : Cd α) (x : α) : LnAt (c.f x) c 0 x c.f :=
  ⟨by rw [c.h]; omega, by rw [List.drop_zero, List.take_of_length_le (by rw [c.h]; exact Nat.le_refl _)], fun y => by rw [List.take_zero, Nat.zero_add, List.drop_of_length_le (by rw [c.h]; exact Nat.le_refl _), List.nil_append, List.append_nil]⟩
end
section
variable {P : Program} {tb : TypeId → Option TyE} {dr : Bool} {ty : TypeId} {ev : Operand → D} {x y : Operand} {vs : List (Nat × List D)} {lv : List (Nat × Nat × Nat × TypeId)} {N k o : Nat} {F : List E} {β : Type} {c' : Cd β} {b : β} {F' : β → List E} {t : TypeId} {i : TyE}
theorem T_stV {b' : β} (L : LnAt F c' o b F') (ht : tb t = some i) (hy : (ev y).cells = some (dC (c'.f b')) := by exact rfl) (hz : c'.sz = i.size := by exact rfl) (hx : ev x = .pt k o := by exact rfl) (hv : vs.lookup k = some (dC F) := by exact rfl) : AVC P tb dr (.store t x y) ty ev ⟨vs, lv, N⟩ (Kq .top ⟨(k, dC (F' b')) :: vs, lv, N⟩) := by
  rw [av_store, hx, storeV_pt, ht, hv, hy]
  have hl : (dC (c'.f b')).length = i.size := by rw [dC_len, c'.h, hz]
  refine ⟨hl, by rw [dC_len, ← hz]; exact L.le, ?_⟩
  have : (dC F).take o ++ dC (c'.f b') ++ (dC F).drop (o + (dC (c'.f b')).length) = dC (F' b') := by
    rw [hl, ← hz, ← L.p b']
    unfold dC
    simp only [List.map_append, List.map_take, List.map_drop]
  rw [this]
  exact Kq.here _ _
theorem T_alV (ht : tb t = some i) (hz : i.zero.map E.lit = F := by kernel_rfl) : AVC P tb dr (.alloc t) ty ev ⟨vs, lv, N⟩ (Kq (.pt N 0) ⟨(N, dC F) :: vs, lv, N + 1⟩) := by
  subst hz
  have := T_alloc (P := P) (dr := dr) (ty := ty) (ev := ev) (vs := vs) (lv := lv) (N0 := N) ht
  unfold dC
  rw [List.map_map]
  exact this
variable {hp : Hp} {j : TyE} {e : TypeId} {n : Nat} {kn : IntKind} {v : Int}
variable {s tt : TypeId} {fi : Nat} {fs : List (Nat × TypeId)}
end
theorem WkS.frz {tm : List (Nat × D)} {vs : List (Nat × List D)} {lv : List (Nat × Nat × Nat × TypeId)} {N t k z n : Nat} {F : List E} (hz : 0 < z) (ht : tm.lookup t = some (.ow k 0 z n)) (hv : vs.lookup k = some (dC F)) (hF : F.length = n * z) :
    WkS tm ⟨vs, lv, N⟩ ((t, .e (.sl z n F)) :: tm) ⟨vs.filter fun p => !([k] : List Nat).contains p.1, lv, N⟩ := by
  intro B g w ρ hr htm
  obtain ⟨h1, h2, h3, cs, ty, h4, h5, h6⟩ := hr.var k _ hv
  have look : ∀ {j : Nat} {ds : List D}, (vs.filter fun p => !([k] : List Nat).contains p.1).lookup j = some ds → j ≠ k ∧ vs.lookup j = some ds := by
    intro j ds h
    obtain ⟨a, b⟩ := lookup_filt h
    exact ⟨by simpa using a, b⟩
  have hne : ∀ {j : Nat} {ds : List D}, j ≠ k → vs.lookup j = some ds → g.μ j ≠ g.μ k := fun hj hl e => hj (hr.inj _ _ _ _ hl hv e)
  have mo : Mono ⟨vs, lv, N⟩ g w ⟨vs.filter fun p => !([k] : List Nat).contains p.1, lv, N⟩ ⟨g.μ, g.τ, fun p => g.F p ∧ p.block ≠ g.μ k⟩ w := by
    refine ⟨Nat.le_refl _, fun _ _ _ => rfl, fun _ _ h => h.1, Nat.le_refl _, fun _ _ => rfl, fun _ _ m _ h => ⟨m, h, Nat.le_refl _, fun _ => rfl⟩, fun b hb hf => ⟨rfl, fun p hp hq => ⟨hq, ?_⟩, fun j ds hj => hf.1 j ds (look hj).2, hf.2⟩, fun _ => .same fun _ => rfl⟩
    rw [hp]; exact fun e => hf.1 k _ hv e.symm
  refine ⟨⟨g.μ, g.τ, fun p => g.F p ∧ p.block ≠ g.μ k⟩, ⟨fun j ds hj => ?_, fun j j' ds ds' hj hj' he => hr.inj j j' ds ds' (look hj).2 (look hj').2 he, fun id m e hi => ?_, hr.tinj, hr.base, fun p hp => hr.fits p hp.1⟩, mo, fun t' d hd => ?_, fun p hp hq => ⟨hq, ?_⟩⟩
  · obtain ⟨a1, a2⟩ := look hj
    obtain ⟨b1, b2, b3, cs', ty', b4, b5, b6⟩ := hr.var j ds a2
    exact ⟨b1, b2, fun p hp => ⟨b3 p hp, by rw [hp]; exact hne a1 a2⟩, cs', ty', b4, b5, fun i u hu => ⟨(b6 i u hu).1, fun d hd => ((b6 i u hu).2 d hd).mono mo⟩⟩
  · obtain ⟨b1, us, b2, b3, b4⟩ := hr.tok id m e hi
    exact ⟨b1, us, b2, b3, fun b hb => ⟨fun p hp hq => ⟨(b4 b hb).1 p hp hq, by rw [hp]; exact fun e => (b4 b hb).2 k _ hv e.symm⟩, fun j ds hj => (b4 b hb).2 j ds (look hj).2⟩⟩
  · by_cases htt : t' = t
    · subst htt
      have : some (D.e (.sl z n F)) = some d := by rw [← hd]; exact lookup_cons_eq.symm
      injection this with this
      subst this
      have hrep := htm t' _ ht
      generalize hq : ρ t' = u at hrep
      cases hrep with
      | ow _ _ _ _ c hk hnc hcm =>
        have hcs : F.length ≤ cs.size := by rw [dC_len] at h5; exact h5
        refine .e _ _ (.sl z n F (some ⟨g.μ k, 0, none⟩) c (fun i => cs.getD i undef) hF hz hnc hcm (fun _ => ⟨_, rfl, (Array.getElem?_eq_some_iff.1 h4).1⟩) (fun ad ha i e hi => ?_) (fun i e hi => ?_))
        · injection ha with ha
          subst ha
          have hlt : i < cs.size := Nat.lt_of_lt_of_le (List.getElem?_eq_some_iff.1 hi).1 hcs
          refine ⟨?_, fun hf => hf.2 (by rw [block_of_add])⟩
          have e0 : w.cell? (({ block := g.μ k, off := 0, spot := none } : Addr).add i) = cs[0 + i]? := by
            by_cases h0 : i = 0
            · subst h0; simp [World.cell?, Addr.add, h4]
            · simp [World.cell?, Addr.add, h4, h0]
          rw [e0, Nat.zero_add]
          simp [Array.getD_eq_getD_getElem?, hlt]
        · have hlt : i < cs.size := Nat.lt_of_lt_of_le (List.getElem?_eq_some_iff.1 hi).1 hcs
          have hu := h6 i (cs.getD i undef) (by simp [Array.getD_eq_getD_getElem?, hlt])
          have := hu.2 (.e e) (by unfold dC; rw [List.getElem?_map, hi]; rfl)
          cases this with
          | e _ _ h7 => exact RepE.less h7 fun p hp => hp.1
    · exact (htm t' d (by rw [← hd]; exact (lookup_cons_ne htt).symm)).mono mo
  · intro e
    omega
end
theorem PCalls.of2T {P : Program} {f : FuncId} {d1 d2 r : D} (hf : FnOk P f) (h : ∀ (w : World) (F : Addr → Prop) (v1 v2 : Value), TT w.heap.size w → (∀ p : Addr, F p → p.block < w.heap.size) → PRep w F d1 v1 → PRep w F d2 v2 → Calls P f #[v1, v2] w fun e w' => ∃ u, e = .returned u ∧ PRes w.heap.size F w' r u ∧ Below w.heap.size w w') : PCalls P f [d1, d2] r := by
  refine ⟨hf, fun w F vs hTT hF hsz hvs => ?_⟩
  obtain ⟨v1, v2, rfl⟩ : ∃ v1 v2, vs = #[v1, v2] := by
    rcases vs with ⟨_ | ⟨v1, _ | ⟨v2, _ | ⟨v3, l⟩⟩⟩⟩ <;> simp at hsz
    exact ⟨v1, v2, rfl⟩
  exact h w F v1 v2 hTT hF (hvs 0 d1 v1 rfl rfl) (hvs 1 d2 v2 rfl rfl)
theorem tabK_0 : ∀ i : Nat, i < 64 → tabK[i]? = some (Sha.ks.getD i 0) := by decide +kernel
theorem tabK_at (i : Nat) (hi : i < 64) : (tabK.map fun k : Nat => Value.int .u32 (k : Int))[i]? = some (.int .u32 ((Sha.ks.getD i 0 : Nat) : Int)) := by
  rw [List.getElem?_map, tabK_0 i hi]; rfl
theorem consts_TT {w : World} (h : TT w.heap.size w) : Consts w := by
  have := h (0, tabK.map fun k : Nat => .int .u32 (k : Int)) (by simp [tabL])
  exact ⟨this.1, fun i hi => this.2 i _ (tabK_at i hi)⟩
theorem rconsts_TT {w : World} (h : TT w.heap.size w) : RConsts w := by
  have := h (1, tabK.map fun k : Nat => .int .u32 (k : Int)) (by simp [tabL])
  exact ⟨this.1, fun i hi => this.2 i _ (tabK_at i hi)⟩
def digV (l : List UInt8) : Vector Int 16 := Vector.ofFn fun i : Fin 16 => ((((Sha.sha l).getD i.1 0).toNat : Nat) : Int)
theorem digV_e (l : List UInt8) : dG (cA 16 (cI .u8)) (digV l) = .ag ((List.range 16).map fun i => D.e (.lit (bv ((Sha.sha l).getD i 0)))) := by kernel_rfl
theorem digV_rep {w : World} {F : Addr → Prop} (l : List UInt8) : PRep w F (dG (cA 16 (cI .u8)) (digV l)) (digVal l) := by
  rw [digV_e]
  refine .ag _ _ (by simp [arr]) (fun j u hu => ?_) (fun j d u hd hu => ?_)
  · have hu : ((List.range 16).map fun i => bv ((Sha.sha l).getD i 0))[j]? = some u := by simpa [arr] using hu
    rw [List.getElem?_map] at hu
    cases hj : (List.range 16)[j]? with
    | none => rw [hj] at hu; cases hu
    | some i => rw [hj] at hu; cases hu; rfl
  · have hu : ((List.range 16).map fun i => bv ((Sha.sha l).getD i 0))[j]? = some u := by simpa [arr] using hu
    rw [List.getElem?_map] at hu hd
    cases hj : (List.range 16)[j]? with
    | none => rw [hj] at hu; cases hu
    | some i => rw [hj] at hu hd; cases hu; cases hd; exact .e _ _ (.lit _ rfl)
theorem strs_sl {w : World} {F : Addr → Prop} {l : List ByteArray} {v : Value} (h : PRep w F (dL cS l) v) : Sl w v 1 l.length (l.map Value.string) := by
  obtain ⟨us, h1, h2⟩ := sl_rep h.e_inv
  have e : us = l.map Value.string := by
    have hf : l.flatMap cS.f = l.map fun s => E.lit (.string s) := by
      induction l with
      | nil => rfl
      | cons a l ih => rw [List.flatMap_cons, List.map_cons]; exact congrArg _ (by clear h h1 h2 ih; induction l with | nil => rfl | cons b l ih => rw [List.flatMap_cons, List.map_cons, ih]; rfl)
    rw [hf] at h2
    apply List.ext_getElem?
    intro j
    have hl := h2.1
    rw [List.length_map] at hl
    cases hj : l[j]? with
    | none =>
      rw [List.getElem?_map, hj]
      rw [List.getElem?_eq_none_iff] at hj
      rw [List.getElem?_eq_none (by omega)]; rfl
    | some a =>
      rw [List.getElem?_map, hj]
      have hlt := (List.getElem?_eq_some_iff.1 hj).1
      have hu : us[j]? = some us[j] := List.getElem?_eq_getElem (by omega)
      have := h2.2 j (.lit (.string a)) us[j] (by rw [List.getElem?_map, hj]; rfl) hu
      rw [hu, this.lit_inv]; rfl
  rw [← e]
  exact h1
def hashB (l : List ByteArray) (n m : Nat) : Bool := decide (l.length ≤ n) && l.all fun s => decide (s.size ≤ m)
theorem hashB_ok {l : List ByteArray} {n m : Nat} (h : hashB l n m = true) : l.length ≤ n ∧ ∀ s ∈ l, s.size ≤ m := by
  unfold hashB at h
  rw [Bool.and_eq_true, List.all_eq_true] at h
  exact ⟨of_decide_eq_true h.1, fun s hs => of_decide_eq_true (h.2 s hs)⟩
def g_hash_Of (tag : Int) (l : List ByteArray) : Option (Vector Int 16) := gd (-9223372036854775808 ≤ tag ∧ tag ≤ 9223372036854775807) (gd (hashB l 1000000 1000000 = true) (some (digV (ofInput tag l))))
theorem w_hash_Of {tag : Int} {l : List ByteArray} {r : Vector Int 16} (h : g_hash_Of tag l = some r) : PCalls Tryd.prog 23 [dI .i64 tag, dL cS l] (dG (cA 16 (cI .u8)) r) := by
  obtain ⟨⟨h1, h2⟩, h⟩ := gd_some h
  obtain ⟨h3, h⟩ := gd_some h
  cases h
  obtain ⟨h4, h5⟩ := hashB_ok h3
  refine PCalls.of2T ⟨_, Tryd.func23, rfl, rfl⟩ fun w F v1 v2 hT hF r1 r2 => ?_
  obtain rfl := r1.lit
  refine (hash_Of tag l v2 w h1 h2 (strs_sl r2) h5 h4 (consts_TT hT)).mono ?_
  rintro e w' ⟨rfl, hb⟩
  exact ⟨_, rfl, digV_rep _, hb⟩
def g_ref02_Of (tag : Int) (l : List ByteArray) : Option (Vector Int 16) := gd (hashB l 12 100000 = true) (some (digV (ofInput tag l)))
theorem w_ref02_Of {tag : Int} {l : List ByteArray} {r : Vector Int 16} (h : g_ref02_Of tag l = some r) : PCalls Tryd.prog 27 [dI .i64 tag, dL cS l] (dG (cA 16 (cI .u8)) r) := by
  obtain ⟨h3, h⟩ := gd_some h
  cases h
  obtain ⟨h4, h5⟩ := hashB_ok h3
  refine PCalls.of2T ⟨_, Tryd.func27, rfl, rfl⟩ fun w F v1 v2 hT hF r1 r2 => ?_
  obtain rfl := r1.lit
  refine (ref_Of tag l v2 w (strs_sl r2) h4 h5 (rconsts_TT hT)).mono ?_
  rintro e w' ⟨rfl, hb⟩
  exact ⟨_, rfl, digV_rep _, hb⟩
section
section
variable {P : Program} {tb : TypeId → Option TyE} {ev : Operand → D} {vs : List (Nat × List D)} {lv : List (Nat × Nat × Nat × TypeId)} {N : Nat}
theorem slAF (tok : TOk P tb) {t e ty2 : TypeId} {ti j : TyE} {x : Operand} {k n : Nat} {F : List E} {dst : Option Tmp} {pos : String} {af : Array Edge} {gd : Option (Nat × Bool)} (ht : tb t = some ti) (he : tb e = some j) (hti : ti.ty = .arr n e) (hx : ev x = .pt k 0) (hv : vs.lookup k = some (dC F)) (hF : F.length = n * j.size) (hz : 0 < j.size) (hn : 0 < n ∧ n ≤ 1000000) :
    OpOk P ⟨dst, .slice t x none none none, ty2, pos, af, gd⟩ ev ⟨vs, lv, N⟩ (.fu j.size n F) ⟨vs.filter fun p => !([k] : List Nat).contains p.1, lv, N⟩ := by
  intro B g w a Kn Q _ hr hxx hk
  have h1 := hxx x (by simp [Op.operands])
  rw [hx] at h1
  have hbd := run_sliceBounds_ok (P := P) (w := w) false n n none none 0 n (.inl ⟨rfl, rfl⟩) (.inl ⟨rfl, rfl⟩) (by omega) (by omega)
  have hs := tok.run_sizeOf he w
  generalize hva : a.eval x = v at h1
  cases h1 with
  | pt _ _ hkN =>
    have hrun : (execOp a.eval ⟨dst, .slice t x none none none, ty2, pos, af, gd⟩).run P w = .ok (.value (.slice (some ⟨g.μ k, 0, none⟩) n n)) w := by
      have hne : ¬ n = 0 := by omega
      have had : (⟨g.μ k, 0, none⟩ : Addr).add 0 = ⟨g.μ k, 0, none⟩ := by unfold Addr.add; rw [if_pos rfl]
      simp [execOp, Instr.sliceAt, Instr.sureAddr, hva, run_underlying (tok.arr ht hti), hbd, hs, hne, had]
    obtain ⟨g', hr', mo, hrep, hfo⟩ := WkS.frz (tm := [(0, .ow k 0 j.size n)]) (t := 0) (N := N) (lv := lv) hz rfl hv hF B g w (fun _ => .slice (some ⟨g.μ k, 0, none⟩) n n) hr (fun t d hd => by
      by_cases h0 : t = 0
      · subst h0
        rw [lookup_cons_eq] at hd
        cases hd
        exact .ow _ _ _ _ _ hkN (Nat.le_refl _) (by unfold maxLen; omega)
      · rw [lookup_cons_ne h0] at hd; cases hd)
    have h2 := hrep 0 _ lookup_cons_eq
    unfold Oper.wp
    rw [hrun]
    refine hk _ g' w hr' mo ?_ (Below.refl _ _) hfo
    cases h2 with
    | e _ _ h3 => exact .fu _ _ _ _ h3
theorem qZ {md : Md} {ops : Array Oper} {K : List (Nat × D) → Hp → Prop} {os : List Oper} {tm : List (Nat × D)} {hp hp' : Hp} {t : Tmp} {op : Op} {ty : TypeId} {pos : String} {af : Array Edge} {d : D} (hmd : md = .seq) (h : OpOk P ⟨some t, op, ty, pos, af, none⟩ (evD tm) hp d hp') (h2 : SOps P tb md ops K os ((t, d) :: tm) hp') : SOps P tb md ops K (⟨some t, op, ty, pos, af, none⟩ :: os) tm hp := .sq hmd d hp' rfl h h2
theorem slAFv {α : Type} {c : Cd α} {n : Nat} (v : Vector α n) (tok : TOk P tb) {t e ty2 : TypeId} {ti j : TyE} {x : Operand} {k : Nat} {hp' : Hp} {dst : Option Tmp} {pos : String} {af : Array Edge} {gd : Option (Nat × Bool)} (ht : tb t = some ti) (he : tb e = some j) (hti : ti.ty = .arr n e) (hx : ev x = .pt k 0) (hv : vs.lookup k = some (dC ((cA n c).f v))) (hc : c.sz = j.size) (hz : Nat.ble 1 j.size = true) (hn : Nat.ble 1 n = true) (hn2 : Nat.ble n 1000000 = true) (hh : ⟨vs.filter fun p => !([k] : List Nat).contains p.1, lv, N⟩ = hp') :
    OpOk P ⟨dst, .slice t x none none none, ty2, pos, af, gd⟩ ev ⟨vs, lv, N⟩ (dF c v.toList) hp' := by
  subst hh
  have := slAF (P := P) (tb := tb) (ev := ev) (lv := lv) (N := N) (dst := dst) (pos := pos) (af := af) (gd := gd) (ty2 := ty2) tok ht he hti hx hv (by
    show (v.toList.flatMap c.f).length = _
    rw [flat_length c.f c.h, Vector.length_toList, hc]) (Nat.le_of_ble_eq_true hz) ⟨Nat.le_of_ble_eq_true hn, Nat.le_of_ble_eq_true hn2⟩
  show OpOk P _ ev _ (.fu c.sz v.toList.length (v.toList.flatMap c.f)) _
  rw [Vector.length_toList, hc]
  exact this
end
end
structure S_Bytes where
  vB : List Int
  vE : Int
  deriving Inhabited, DecidableEq
def c_Bytes : Cd S_Bytes := ⟨2, fun x => [slE (cI .u8) x.vB, .lit (.int .i64 x.vE)], fun _ => rfl⟩
noncomputable def g_bytes_Equal (p_a : List Int) (p_b : List Int) : Option Bool := some (decide ((bStr p_a) = (bStr p_b)))
theorem w_bytes_Equal {p_a : List Int} {p_b : List Int} {r : Bool} (h : g_bytes_Equal p_a p_b = some r) : PCalls Tryd.prog 30 [dL (cI .u8) p_a, dL (cI .u8) p_b] (dB r) := by
  refine PCalls.of (rs := [.tmp 4]) tok Tryd.func30 rfl rfl (Nat.le_of_ble_eq_true rfl) rfl (fun cx hx h0 => ?_)
  simp only [argsT, Nat.reduceAdd, Nat.zero_add]
  unfold g_bytes_Equal at h
  refine AW.seq ?_
  refine rg hx (by kernel_rfl) fun K hK => ?_
  refine s1 (d := dB false) T_asg ?_
  refine .nil (hK _ _ ?_)
  refine AW.seq ?_
  refine rg hx (by kernel_rfl) fun K hK => ?_
  refine s1 T_mv ?_
  refine s1 (d := dS (bStr p_a)) (T_cvB tb_24 tb_9 tb_5 (fun _ h => by cases h)) ?_
  refine s1 T_mv ?_
  refine s1 (d := dS (bStr p_b)) (T_cvB tb_24 tb_9 tb_5 (fun _ h => by cases h)) ?_
  refine s1 T_seql ?_
  refine s1 T_as ?_
  refine .nil (hK _ _ ?_)
  refine AW.ret ?_
  obtain rfl := Option.some.inj h
  exact RetV.mk1 (resD_t rfl (.inr (.inr ⟨_, (le_refl' _), rfl, rfl⟩)))
noncomputable def g_ref01_GetInt_l7 (p_b : List Int) : Int → Option (Int ⊕ Int) := fun a7_0 => bnd (S := Bool) (cnd (decide (a7_0 < ((p_b).length : Int))) (cnd (decide (a7_0 < (10 : Int))) (gd (0 ≤ a7_0 ∧ a7_0 < ((p_b).length : Int)) (some (decide ((128 : Int) ≤ ((p_b)[(a7_0).toNat]!))))) (some (false))) (some (false))) fun a10_0 => cnd a10_0 (some (.inl (IntKind.i64.wrap (a7_0 + (1 : Int))))) (some (.inr a7_0))
noncomputable def g_ref01_GetInt_l46 (p_b : List Int) : Int × Int → Option ((Int × Int) ⊕ Int) := fun (a46_0, a46_1) => cnd (decide ((0 : Int) ≤ a46_1)) (gd (0 ≤ a46_1 ∧ a46_1 < ((p_b).length : Int)) (bnd (some (IntKind.u64.wrap ((IntKind.u64.wrap (a46_0 * (128 : Int))) + (IntKind.u64.wrap (Int.tmod ((p_b)[(a46_1).toNat]!) (128 : Int)))))) fun x25 => some (.inl (x25, IntKind.i64.wrap (a46_1 - (1 : Int)))))) (some (.inr a46_0))
noncomputable def g_ref01_GetInt (p_b : List Int) : Option (Int × Int × Int) := bnd (loopO (g_ref01_GetInt_l7 p_b) (0 : Int)) fun a7e0_0 => cnd (decide (a7e0_0 = (10 : Int))) (some ((0 : Int), (0 : Int), (11 : Int))) (cnd (decide (a7e0_0 = ((p_b).length : Int))) (some ((0 : Int), (0 : Int), (10 : Int))) (bnd (S := Bool) (cnd (decide (a7e0_0 = (9 : Int))) (gd (0 ≤ a7e0_0 ∧ a7e0_0 < ((p_b).length : Int)) (cnd (decide ((1 : Int) < ((p_b)[(a7e0_0).toNat]!))) (some (true)) (cnd (decide ((0 : Int) < a7e0_0)) (gd (0 ≤ a7e0_0 ∧ a7e0_0 < ((p_b).length : Int)) (some (decide (((p_b)[(a7e0_0).toNat]!) = (0 : Int))))) (some (false))))) (cnd (decide ((0 : Int) < a7e0_0)) (gd (0 ≤ a7e0_0 ∧ a7e0_0 < ((p_b).length : Int)) (some (decide (((p_b)[(a7e0_0).toNat]!) = (0 : Int))))) (some (false)))) fun a34_0 => cnd a34_0 (some ((0 : Int), (0 : Int), (11 : Int))) (bnd (loopO (g_ref01_GetInt_l46 p_b) ((0 : Int), a7e0_0)) fun a46e2_0 => cnd (decide ((Int.tmod a46e2_0 (2 : Int)) = (1 : Int))) (some (IntKind.i64.wrap ((-1 : Int) - (IntKind.i64.wrap (IntKind.u64.wrap (Int.tdiv a46e2_0 (2 : Int))))), IntKind.i64.wrap (a7e0_0 + (1 : Int)), (0 : Int))) (some (IntKind.i64.wrap (IntKind.u64.wrap (Int.tdiv a46e2_0 (2 : Int))), IntKind.i64.wrap (a7e0_0 + (1 : Int)), (0 : Int))))))
set_option maxHeartbeats 4000000 in
theorem w_ref01_GetInt {p_b : List Int} {r : Int × Int × Int} (h : g_ref01_GetInt p_b = some r) : PCalls Tryd.prog 31 [dL (cI .u8) p_b] (.tu [dI .i64 r.1, dI .i64 r.2.1, dI .i64 r.2.2]) := by
  refine PCalls.of (rs := [.tmp 2, .tmp 3, .tmp 4]) tok Tryd.func31 rfl rfl (Nat.le_of_ble_eq_true rfl) rfl (fun cx hx h0 => ?_)
  simp only [argsT, Nat.reduceAdd, Nat.zero_add]
  unfold g_ref01_GetInt at h
  refine AW.seq ?_
  refine rg hx (by kernel_rfl) fun K hK => ?_
  iterate 3 refine s1 (d := dI .i64 (0 : Int)) T_asg ?_
  refine .nil (hK _ _ ?_)
  refine AW.seq ?_
  refine rg hx (by kernel_rfl) fun K hK => ?_
  refine s1 (d := dI .i64 (0 : Int)) T_asg ?_
  refine .nil (hK _ _ ?_)
  refine AW.seq ?_
  refine AW.block ?_
  obtain ⟨a7e0_0, hy, h⟩ := bnd_some h
  refine lp (S := Int) (X := Int) (fun a7_0 => [(0, dL (cI .u8) p_b), (5, dI .i64 a7_0)]) (fun a7_0 => ⟨[], [], 0⟩) (PE cx (.exit 0) (fun a7e0_0 => [(0, dL (cI .u8) p_b), (5, dI .i64 a7e0_0)]) fun a7e0_0 => ⟨[], [], 0⟩) hy ?_ ?_ ?_
  exact wk h0 [] (wR rfl (wR rfl wTn)) wVn wLn
  clear hy h
  rintro a7_0 y h
  dsimp only [g_ref01_GetInt_l7] at h
  iterate 2 refine AW.seq ?_
  obtain ⟨a10_0, hy, h⟩ := bnd_some h
  refine jn ((PE cx .normal (fun a10_0 => [(0, dL (cI .u8) p_b), (5, dI .i64 a7_0), (22, dB a10_0)]) fun a10_0 => ⟨[], [], 0⟩) a10_0) ?_ ?_
  replace h := hy
  refine rg hx (by kernel_rfl) fun K hK => ?_
  iterate 2 refine s1 T_mv ?_
  refine s1 (d := dI .i64 ((p_b).length : Int)) (T_len tb_24 tb_5) ?_
  refine s1 T_lss ?_
  refine s1 T_mv ?_
  rcases Bool.eq_false_or_eq_true (decide (a7_0 < ((p_b).length : Int))) with hb1 | hb1
  replace h := cnd_t hb1 h
  refine g1 hb1 T_mv ?_
  refine g1 hb1 T_lss ?_
  refine s1 (d := dB (decide (a7_0 < (10 : Int)))) (T_pickT hb1) ?_
  refine s1 T_mv ?_
  rcases Bool.eq_false_or_eq_true (decide (a7_0 < (10 : Int))) with hb2 | hb2
  replace h := cnd_t hb2 h
  iterate 2 refine g1 hb2 T_mv ?_
  obtain ⟨hc3, h⟩ := gd_some h
  have hn4 : (a7_0).toNat < (p_b).length := by omega
  refine g1 hb2 (T_iaS hc3 tb_24 tb_5) ?_
  refine g1 (d := dI .u8 ((p_b)[(a7_0).toNat]!)) hb2 (T_ldF (c := (cI .u8)) (l := p_b) (n := (a7_0).toNat) (o := 0) tb_5 hn4) ?_
  refine g1 hb2 T_geq ?_
  refine s1 (d := dB (decide ((128 : Int) ≤ ((p_b)[(a7_0).toNat]!)))) (T_pickT hb2) ?_
  refine .nil (hK _ _ ?_)
  obtain rfl := Option.some.inj h
  exact PE.i (wk h0 [] (wR rfl (wR rfl (wR rfl wTn))) wVn wLn)
  replace h := cnd_f hb2 h
  iterate 5 refine no_t rfl rfl hb2 ?_
  refine s1 (d := dB false) (T_pickF hb2) ?_
  refine .nil (hK _ _ ?_)
  obtain rfl := Option.some.inj h
  exact PE.i (wk h0 [] (wR rfl (wR rfl (wR rfl wTn))) wVn wLn)
  replace h := cnd_f hb1 h
  iterate 2 refine no_t rfl rfl hb1 ?_
  refine s1 (d := dB false) (T_pickF hb1) ?_
  refine s1 T_mv ?_
  iterate 5 refine no_t rfl rfl rfl ?_
  refine s1 (d := dB false) (T_pickF rfl) ?_
  refine .nil (hK _ _ ?_)
  obtain rfl := Option.some.inj h
  exact PE.i (wk h0 [] (wR rfl (wR rfl (wR rfl wTn))) wVn wLn)
  rintro ex tm' hp' ⟨rfl, hw⟩
  refine AW.weak hw ?_
  refine AW.condS rfl (fun hb6 => ?_) (fun hb6 => ?_)
  replace h := cnd_t hb6 h
  refine AW.skip ?_
  refine AW.block ?_
  refine rg hx (by kernel_rfl) fun K hK => ?_
  refine s1 T_mv ?_
  refine s1 T_add ?_
  refine s1 T_as ?_
  refine .nil (hK _ _ ?_)
  obtain rfl := Option.some.inj h
  exact PS.l (PE.i (wk h0 [] (wR rfl (wR rfl wTn)) wVn wLn))
  replace h := cnd_f hb6 h
  refine AW.exit ?_
  try dsimp only
  try simp only [if_true, reduceIte, Nat.reduceEqDiff, reduceCtorEq]
  obtain rfl := Option.some.inj h
  exact PS.r ⟨by nofun, PE.i (wk h0 [] (wR rfl (wR rfl wTn)) wVn wLn)⟩
  rintro ex tm' hp' ⟨rfl, hw⟩
  try dsimp only
  try simp only [if_true, reduceIte, Nat.reduceEqDiff, reduceCtorEq]
  refine AW.weak hw ?_
  iterate 2 refine AW.seq ?_
  refine rg hx (by kernel_rfl) fun K hK => ?_
  refine s1 T_mv ?_
  refine s1 T_eql ?_
  refine .nil (hK _ _ ?_)
  refine AW.condS rfl (fun hb8 => ?_) (fun hb8 => ?_)
  replace h := cnd_t hb8 h
  refine AW.seq ?_
  refine rg hx (by kernel_rfl) fun K hK => ?_
  iterate 2 refine s1 (d := dI .i64 (0 : Int)) T_asg ?_
  refine s1 (d := dI .i64 (11 : Int)) T_asg ?_
  refine .nil (hK _ _ ?_)
  refine AW.ret ?_
  obtain rfl := Option.some.inj h
  exact RetV.mk3 (resD_t rfl (resD_t rfl (resD_t rfl (.inr ⟨_, _, _, (le_refl' _), (le_refl' _), (le_refl' _), ⟨rfl, rfl, rfl⟩, rfl⟩))))
  replace h := cnd_f hb8 h
  refine AW.skip ?_
  iterate 2 refine AW.seq ?_
  refine rg hx (by kernel_rfl) fun K hK => ?_
  iterate 2 refine s1 T_mv ?_
  refine s1 (d := dI .i64 ((p_b).length : Int)) (T_len tb_24 tb_5) ?_
  refine s1 T_eql ?_
  refine .nil (hK _ _ ?_)
  refine AW.condS rfl (fun hb9 => ?_) (fun hb9 => ?_)
  replace h := cnd_t hb9 h
  refine AW.seq ?_
  refine rg hx (by kernel_rfl) fun K hK => ?_
  iterate 2 refine s1 (d := dI .i64 (0 : Int)) T_asg ?_
  refine s1 (d := dI .i64 (10 : Int)) T_asg ?_
  refine .nil (hK _ _ ?_)
  refine AW.ret ?_
  obtain rfl := Option.some.inj h
  exact RetV.mk3 (resD_t rfl (resD_t rfl (resD_t rfl (.inr ⟨_, _, _, (le_refl' _), (le_refl' _), (le_refl' _), ⟨rfl, rfl, rfl⟩, rfl⟩))))
  replace h := cnd_f hb9 h
  refine AW.skip ?_
  iterate 2 refine AW.seq ?_
  obtain ⟨a34_0, hy, h⟩ := bnd_some h
  refine jn ((PE cx .normal (fun a34_0 => [(0, dL (cI .u8) p_b), (5, dI .i64 a7e0_0), (50, dB a34_0)]) fun a34_0 => ⟨[], [], 0⟩) a34_0) ?_ ?_
  replace h := hy
  refine rg hx (by kernel_rfl) fun K hK => ?_
  refine s1 T_mv ?_
  refine s1 T_eql ?_
  refine s1 T_mv ?_
  rcases Bool.eq_false_or_eq_true (decide (a7e0_0 = (9 : Int))) with hb10 | hb10
  replace h := cnd_t hb10 h
  iterate 2 refine g1 hb10 T_mv ?_
  obtain ⟨hc11, h⟩ := gd_some h
  have hn12 : (a7e0_0).toNat < (p_b).length := by omega
  refine g1 hb10 (T_iaS hc11 tb_24 tb_5) ?_
  refine g1 (d := dI .u8 ((p_b)[(a7e0_0).toNat]!)) hb10 (T_ldF (c := (cI .u8)) (l := p_b) (n := (a7e0_0).toNat) (o := 0) tb_5 hn12) ?_
  refine g1 hb10 T_gtr ?_
  refine s1 (d := dB (decide ((1 : Int) < ((p_b)[(a7e0_0).toNat]!)))) (T_pickT hb10) ?_
  refine s1 T_mv ?_
  rcases Bool.eq_false_or_eq_true (decide ((1 : Int) < ((p_b)[(a7e0_0).toNat]!))) with hb13 | hb13
  replace h := cnd_t hb13 h
  iterate 3 refine no_t rfl rfl hb13 ?_
  iterate 5 refine nn_t rfl rfl ?_
  refine no_t rfl rfl hb13 ?_
  refine s1 (d := dB true) (T_pickT hb13) ?_
  refine .nil (hK _ _ ?_)
  obtain rfl := Option.some.inj h
  exact PE.i (wk h0 [] (wR rfl (wR rfl (wR rfl wTn))) wVn wLn)
  replace h := cnd_f hb13 h
  refine g1 hb13 T_mv ?_
  refine g1 hb13 T_gtr ?_
  refine g1 hb13 T_mv ?_
  rcases Bool.eq_false_or_eq_true (decide ((0 : Int) < a7e0_0)) with hb14 | hb14
  replace h := cnd_t hb14 h
  iterate 2 refine g1 hb14 T_mv ?_
  obtain ⟨hc15, h⟩ := gd_some h
  have hn16 : (a7e0_0).toNat < (p_b).length := by omega
  refine g1 hb14 (T_iaS hc15 tb_24 tb_5) ?_
  refine g1 (d := dI .u8 ((p_b)[(a7e0_0).toNat]!)) hb14 (T_ldF (c := (cI .u8)) (l := p_b) (n := (a7e0_0).toNat) (o := 0) tb_5 hn16) ?_
  refine g1 hb14 T_eql ?_
  refine g1 (d := dB (decide (((p_b)[(a7e0_0).toNat]!) = (0 : Int)))) hb13 (T_pickT hb14) ?_
  refine s1 (d := dB (decide (((p_b)[(a7e0_0).toNat]!) = (0 : Int)))) (T_pickF hb13) ?_
  refine .nil (hK _ _ ?_)
  obtain rfl := Option.some.inj h
  exact PE.i (wk h0 [] (wR rfl (wR rfl (wR rfl wTn))) wVn wLn)
  replace h := cnd_f hb14 h
  iterate 5 refine no_t rfl rfl hb14 ?_
  refine g1 (d := dB false) hb13 (T_pickF hb14) ?_
  refine s1 (d := dB false) (T_pickF hb13) ?_
  refine .nil (hK _ _ ?_)
  obtain rfl := Option.some.inj h
  exact PE.i (wk h0 [] (wR rfl (wR rfl (wR rfl wTn))) wVn wLn)
  replace h := cnd_f hb10 h
  iterate 5 refine no_t rfl rfl hb10 ?_
  refine s1 (d := dB false) (T_pickF hb10) ?_
  refine s1 T_mv ?_
  refine g1 rfl T_mv ?_
  refine g1 rfl T_gtr ?_
  refine g1 rfl T_mv ?_
  rcases Bool.eq_false_or_eq_true (decide ((0 : Int) < a7e0_0)) with hb17 | hb17
  replace h := cnd_t hb17 h
  iterate 2 refine g1 hb17 T_mv ?_
  obtain ⟨hc18, h⟩ := gd_some h
  have hn19 : (a7e0_0).toNat < (p_b).length := by omega
  refine g1 hb17 (T_iaS hc18 tb_24 tb_5) ?_
  refine g1 (d := dI .u8 ((p_b)[(a7e0_0).toNat]!)) hb17 (T_ldF (c := (cI .u8)) (l := p_b) (n := (a7e0_0).toNat) (o := 0) tb_5 hn19) ?_
  refine g1 hb17 T_eql ?_
  refine g1 (d := dB (decide (((p_b)[(a7e0_0).toNat]!) = (0 : Int)))) rfl (T_pickT hb17) ?_
  refine s1 (d := dB (decide (((p_b)[(a7e0_0).toNat]!) = (0 : Int)))) (T_pickF rfl) ?_
  refine .nil (hK _ _ ?_)
  obtain rfl := Option.some.inj h
  exact PE.i (wk h0 [] (wR rfl (wR rfl (wR rfl wTn))) wVn wLn)
  replace h := cnd_f hb17 h
  iterate 5 refine no_t rfl rfl hb17 ?_
  refine g1 (d := dB false) rfl (T_pickF hb17) ?_
  refine s1 (d := dB false) (T_pickF rfl) ?_
  refine .nil (hK _ _ ?_)
  obtain rfl := Option.some.inj h
  exact PE.i (wk h0 [] (wR rfl (wR rfl (wR rfl wTn))) wVn wLn)
  rintro ex tm' hp' ⟨rfl, hw⟩
  refine AW.weak hw ?_
  refine AW.condS rfl (fun hb21 => ?_) (fun hb21 => ?_)
  replace h := cnd_t hb21 h
  refine AW.seq ?_
  refine rg hx (by kernel_rfl) fun K hK => ?_
  iterate 2 refine s1 (d := dI .i64 (0 : Int)) T_asg ?_
  refine s1 (d := dI .i64 (11 : Int)) T_asg ?_
  refine .nil (hK _ _ ?_)
  refine AW.ret ?_
  obtain rfl := Option.some.inj h
  exact RetV.mk3 (resD_t rfl (resD_t rfl (resD_t rfl (.inr ⟨_, _, _, (le_refl' _), (le_refl' _), (le_refl' _), ⟨rfl, rfl, rfl⟩, rfl⟩))))
  replace h := cnd_f hb21 h
  refine AW.skip ?_
  refine AW.seq ?_
  refine rg hx (by kernel_rfl) fun K hK => ?_
  refine s1 (d := dI .u64 (0 : Int)) T_asg ?_
  refine .nil (hK _ _ ?_)
  iterate 2 refine AW.seq ?_
  refine rg hx (by kernel_rfl) fun K hK => ?_
  refine s1 T_mv ?_
  refine s1 T_as ?_
  refine .nil (hK _ _ ?_)
  refine AW.block ?_
  obtain ⟨a46e2_0, hy, h⟩ := bnd_some h
  refine lp (S := Int × Int) (X := Int) (fun (a46_0, a46_1) => [(0, dL (cI .u8) p_b), (5, dI .i64 a7e0_0), (6, dI .u64 a46_0), (7, dI .i64 a46_1)]) (fun (a46_0, a46_1) => ⟨[], [], 0⟩) (PE cx (.exit 2) (fun a46e2_0 => [(5, dI .i64 a7e0_0), (6, dI .u64 a46e2_0)]) fun a46e2_0 => ⟨[], [], 0⟩) hy ?_ ?_ ?_
  exact wk h0 [] (wR rfl (wR rfl (wR rfl (wR rfl wTn)))) wVn wLn
  clear hy h
  rintro ⟨a46_0, a46_1⟩ y h
  dsimp only [g_ref01_GetInt_l46] at h
  iterate 2 refine AW.seq ?_
  refine rg hx (by kernel_rfl) fun K hK => ?_
  refine s1 T_mv ?_
  refine s1 T_geq ?_
  refine .nil (hK _ _ ?_)
  refine AW.condS rfl (fun hb22 => ?_) (fun hb22 => ?_)
  replace h := cnd_t hb22 h
  refine AW.skip ?_
  refine AW.seq ?_
  refine AW.block ?_
  refine rg hx (by kernel_rfl) fun K hK => ?_
  refine s1 T_mv ?_
  refine s1 T_mul ?_
  iterate 2 refine s1 T_mv ?_
  obtain ⟨hc23, h⟩ := gd_some h
  have hn24 : (a46_1).toNat < (p_b).length := by omega
  refine s1 (T_iaS hc23 tb_24 tb_5) ?_
  refine s1 (d := dI .u8 ((p_b)[(a46_1).toNat]!)) (T_ldF (c := (cI .u8)) (l := p_b) (n := (a46_1).toNat) (o := 0) tb_5 hn24) ?_
  refine s1 (T_rem (b := (128 : Int)) (by decide)) ?_
  refine s1 (d := dI .u64 (IntKind.u64.wrap (Int.tmod ((p_b)[(a46_1).toNat]!) (128 : Int)))) (T_cvI tb_5 tb_78) ?_
  refine s1 T_add ?_
  obtain ⟨x25, hx26, h⟩ := bnd_some h
  replace hx26 := Option.some.inj hx26
  refine s2 (d2 := dI .u64 x25) T_as (le_eq (congrArg (dI .u64) hx26)) ?_
  refine .nil (hK _ _ ?_)
  refine rg hx (by kernel_rfl) fun K hK => ?_
  refine s1 T_mv ?_
  refine s1 T_sub ?_
  refine s1 T_as ?_
  refine .nil (hK _ _ ?_)
  obtain rfl := Option.some.inj h
  exact PS.l (PE.i (wk h0 [] (wR rfl (wR rfl (wR rfl (wR rfl wTn)))) wVn wLn))
  replace h := cnd_f hb22 h
  refine AW.exit ?_
  try dsimp only
  try simp only [if_true, reduceIte, Nat.reduceEqDiff, reduceCtorEq]
  obtain rfl := Option.some.inj h
  exact PS.r ⟨by nofun, PE.i (wk h0 [] (wR rfl (wR rfl wTn)) wVn wLn)⟩
  rintro ex tm' hp' ⟨rfl, hw⟩
  try dsimp only
  try simp only [if_true, reduceIte, Nat.reduceEqDiff, reduceCtorEq]
  refine AW.weak hw ?_
  iterate 2 refine AW.seq ?_
  refine rg hx (by kernel_rfl) fun K hK => ?_
  refine s1 T_mv ?_
  refine s1 (T_rem (b := (2 : Int)) (by decide)) ?_
  refine s1 T_eql ?_
  refine .nil (hK _ _ ?_)
  refine AW.condS rfl (fun hb28 => ?_) (fun hb28 => ?_)
  replace h := cnd_t hb28 h
  refine AW.seq ?_
  refine rg hx (by kernel_rfl) fun K hK => ?_
  refine s1 T_mv ?_
  refine s1 (T_quo (b := (2 : Int)) (by decide)) ?_
  refine s1 (d := dI .i64 (IntKind.i64.wrap (IntKind.u64.wrap (Int.tdiv a46e2_0 (2 : Int))))) (T_cvI tb_78 tb_3) ?_
  refine s1 T_sub ?_
  refine s1 T_mv ?_
  refine s1 T_add ?_
  iterate 2 refine s1 T_as ?_
  refine s1 (d := dI .i64 (0 : Int)) T_asg ?_
  refine .nil (hK _ _ ?_)
  refine AW.ret ?_
  obtain rfl := Option.some.inj h
  exact RetV.mk3 (resD_t rfl (resD_t rfl (resD_t rfl (.inr ⟨_, _, _, (le_refl' _), (le_refl' _), (le_refl' _), ⟨rfl, rfl, rfl⟩, rfl⟩))))
  replace h := cnd_f hb28 h
  refine AW.skip ?_
  refine AW.seq ?_
  refine rg hx (by kernel_rfl) fun K hK => ?_
  refine s1 T_mv ?_
  refine s1 (T_quo (b := (2 : Int)) (by decide)) ?_
  refine s1 (d := dI .i64 (IntKind.i64.wrap (IntKind.u64.wrap (Int.tdiv a46e2_0 (2 : Int))))) (T_cvI tb_78 tb_3) ?_
  refine s1 T_mv ?_
  refine s1 T_add ?_
  iterate 2 refine s1 T_as ?_
  refine s1 (d := dI .i64 (0 : Int)) T_asg ?_
  refine .nil (hK _ _ ?_)
  refine AW.ret ?_
  obtain rfl := Option.some.inj h
  exact RetV.mk3 (resD_t rfl (resD_t rfl (resD_t rfl (.inr ⟨_, _, _, (le_refl' _), (le_refl' _), (le_refl' _), ⟨rfl, rfl, rfl⟩, rfl⟩))))
noncomputable def g_ref01_GetBytes (p_b : List Int) : Option (ByteArray × Int × Int) := bnd (g_ref01_GetInt p_b) fun x1 => cnd (decide (x1.2.2 ≠ (0 : Int))) (some (ByteArray.empty, (0 : Int), x1.2.2)) (cnd (decide (x1.1 < (0 : Int))) (some (ByteArray.empty, (0 : Int), (11 : Int))) (cnd (decide ((IntKind.i64.wrap (((p_b).length : Int) - x1.2.1)) < x1.1)) (some (ByteArray.empty, (0 : Int), (10 : Int))) (gd (0 ≤ x1.2.1 ∧ x1.2.1 ≤ IntKind.i64.wrap (x1.2.1 + x1.1) ∧ IntKind.i64.wrap (x1.2.1 + x1.1) ≤ ((p_b).length : Int)) (some (bStr (subL p_b x1.2.1 (IntKind.i64.wrap (x1.2.1 + x1.1))), IntKind.i64.wrap (x1.2.1 + x1.1), (0 : Int))))))
set_option maxHeartbeats 4000000 in
theorem w_ref01_GetBytes {p_b : List Int} {r : ByteArray × Int × Int} (h : g_ref01_GetBytes p_b = some r) : PCalls Tryd.prog 32 [dL (cI .u8) p_b] (.tu [dS r.1, dI .i64 r.2.1, dI .i64 r.2.2]) := by
  refine PCalls.of (rs := [.tmp 2, .tmp 3, .tmp 4]) tok Tryd.func32 rfl rfl (Nat.le_of_ble_eq_true rfl) rfl (fun cx hx h0 => ?_)
  simp only [argsT, Nat.reduceAdd, Nat.zero_add]
  unfold g_ref01_GetBytes at h
  refine AW.seq ?_
  refine rg hx (by kernel_rfl) fun K hK => ?_
  refine s1 (d := dS ByteArray.empty) T_asg ?_
  iterate 2 refine s1 (d := dI .i64 (0 : Int)) T_asg ?_
  refine .nil (hK _ _ ?_)
  refine AW.seq ?_
  refine rg hx (by kernel_rfl) fun K hK => ?_
  refine s1 T_mv ?_
  obtain ⟨x1, hx2, h⟩ := bnd_some h
  refine s1 (T_call rfl (w_ref01_GetInt hx2) rfl (lA (le_refl' _) lAn) (.inr ⟨_, rfl⟩)) ?_
  refine s1 T_mv ?_
  iterate 3 refine s1 T_ext ?_
  iterate 3 refine s1 T_as ?_
  refine .nil (hK _ _ ?_)
  iterate 2 refine AW.seq ?_
  refine rg hx (by kernel_rfl) fun K hK => ?_
  refine s1 T_mv ?_
  refine s1 T_neq ?_
  refine .nil (hK _ _ ?_)
  refine AW.condS rfl (fun hb3 => ?_) (fun hb3 => ?_)
  replace h := cnd_t hb3 h
  refine AW.seq ?_
  refine rg hx (by kernel_rfl) fun K hK => ?_
  refine s1 T_mv ?_
  refine s1 (d := dS ByteArray.empty) T_asg ?_
  refine s1 (d := dI .i64 (0 : Int)) T_asg ?_
  refine s1 T_as ?_
  refine .nil (hK _ _ ?_)
  refine AW.ret ?_
  obtain rfl := Option.some.inj h
  exact RetV.mk3 (resD_t rfl (resD_t rfl (resD_t rfl (.inr ⟨_, _, _, (le_refl' _), (le_refl' _), (le_refl' _), ⟨rfl, rfl, rfl⟩, rfl⟩))))
  replace h := cnd_f hb3 h
  refine AW.skip ?_
  iterate 2 refine AW.seq ?_
  refine rg hx (by kernel_rfl) fun K hK => ?_
  refine s1 T_mv ?_
  refine s1 T_lss ?_
  refine .nil (hK _ _ ?_)
  refine AW.condS rfl (fun hb4 => ?_) (fun hb4 => ?_)
  replace h := cnd_t hb4 h
  refine AW.seq ?_
  refine rg hx (by kernel_rfl) fun K hK => ?_
  refine s1 (d := dS ByteArray.empty) T_asg ?_
  refine s1 (d := dI .i64 (0 : Int)) T_asg ?_
  refine s1 (d := dI .i64 (11 : Int)) T_asg ?_
  refine .nil (hK _ _ ?_)
  refine AW.ret ?_
  obtain rfl := Option.some.inj h
  exact RetV.mk3 (resD_t rfl (resD_t rfl (resD_t rfl (.inr ⟨_, _, _, (le_refl' _), (le_refl' _), (le_refl' _), ⟨rfl, rfl, rfl⟩, rfl⟩))))
  replace h := cnd_f hb4 h
  refine AW.skip ?_
  iterate 2 refine AW.seq ?_
  refine rg hx (by kernel_rfl) fun K hK => ?_
  iterate 2 refine s1 T_mv ?_
  refine s1 (d := dI .i64 ((p_b).length : Int)) (T_len tb_24 tb_5) ?_
  refine s1 T_mv ?_
  refine s1 T_sub ?_
  refine s1 T_gtr ?_
  refine .nil (hK _ _ ?_)
  refine AW.condS rfl (fun hb5 => ?_) (fun hb5 => ?_)
  replace h := cnd_t hb5 h
  refine AW.seq ?_
  refine rg hx (by kernel_rfl) fun K hK => ?_
  refine s1 (d := dS ByteArray.empty) T_asg ?_
  refine s1 (d := dI .i64 (0 : Int)) T_asg ?_
  refine s1 (d := dI .i64 (10 : Int)) T_asg ?_
  refine .nil (hK _ _ ?_)
  refine AW.ret ?_
  obtain rfl := Option.some.inj h
  exact RetV.mk3 (resD_t rfl (resD_t rfl (resD_t rfl (.inr ⟨_, _, _, (le_refl' _), (le_refl' _), (le_refl' _), ⟨rfl, rfl, rfl⟩, rfl⟩))))
  replace h := cnd_f hb5 h
  refine AW.skip ?_
  refine AW.seq ?_
  refine rg hx (by kernel_rfl) fun K hK => ?_
  iterate 4 refine s1 T_mv ?_
  refine s1 T_add ?_
  obtain ⟨hc6, h⟩ := gd_some h
  refine s1 (T_sl (c := (cI .u8)) (l := p_b) (a := x1.2.1) (b := IntKind.i64.wrap (x1.2.1 + x1.1)) hc6 tb_24 tb_5) ?_
  refine s1 (d := dS (bStr (subL p_b x1.2.1 (IntKind.i64.wrap (x1.2.1 + x1.1))))) (T_cvB tb_24 tb_9 tb_5 (fun _ h => by cases h)) ?_
  iterate 2 refine s1 T_mv ?_
  refine s1 T_add ?_
  iterate 2 refine s1 T_as ?_
  refine s1 (d := dI .i64 (0 : Int)) T_asg ?_
  refine .nil (hK _ _ ?_)
  refine AW.ret ?_
  obtain rfl := Option.some.inj h
  exact RetV.mk3 (resD_t rfl (resD_t rfl (resD_t rfl (.inr ⟨_, _, _, (le_refl' _), (le_refl' _), (le_refl' _), ⟨rfl, rfl, rfl⟩, rfl⟩))))
noncomputable def g_link_Encode (p_f : S_Frame) : Option ((List Int) × Int) := bnd (g_link_valid p_f) fun x1 => cnd (!x1) (some (([] : List Int), (3 : Int))) (bnd (g_wire_Int p_f.vSeq) fun x4 => bnd (g_wire_Int p_f.vAck) fun x6 => bnd (g_wire_Bytes p_f.vData) fun x8 => bnd (g_slices_Concat_byte_byte [x4, x6, x8]) fun x10 => bnd (g_hash_Of (42 : Int) [bStr x10]) fun x12 => bnd (S := (List Int)) (cnd (decide (0 < (x10).length)) (gd ((((x12).toList) ++ x10).length * 1 ≤ 140737488355328) (some (((x12).toList) ++ x10))) (some ((x12).toList))) fun a16_0 => some (a16_0, (0 : Int)))
theorem w_link_Encode {p_f : S_Frame} {r : (List Int) × Int} (h : g_link_Encode p_f = some r) : PCalls Tryd.prog 5 [dG c_Frame p_f] (.tu [dL (cI .u8) r.1, dI .i64 r.2]) := by
  refine PCalls.of (rs := [.tmp 2, .tmp 3]) tok Tryd.func5 rfl rfl (Nat.le_of_ble_eq_true rfl) rfl (fun cx hx h0 => ?_)
  simp only [argsT, Nat.reduceAdd, Nat.zero_add]
  unfold g_link_Encode at h
  refine AW.seq ?_
  refine rg hx (by kernel_rfl) fun K hK => ?_
  refine s1 (d := .pt 0 0) T_box ?_
  refine s1 (d := dO 1 (cI .u8) ([] : List Int)) (T_asgN tb_24 tb_5) ?_
  refine s1 (d := dI .i64 (0 : Int)) T_asg ?_
  refine .nil (hK _ _ ?_)
  iterate 2 refine AW.seq ?_
  refine rg hx (by kernel_rfl) fun K hK => ?_
  refine s1 (d := dG c_Frame p_f) (T_ldA tb_23) ?_
  obtain ⟨x1, hx2, h⟩ := bnd_some h
  refine s1 (d := dB x1) (T_call rfl (w_link_valid hx2) (by simp only [List.map_cons, List.map_nil, List.all_cons, List.all_nil, Bool.and_true, Bool.and_eq_true]; exact pure_ex_G _ _) (lA (le_refl' _) lAn) (.inl rfl)) ?_
  refine s1 T_not ?_
  refine .nil (hK _ _ ?_)
  refine AW.condS rfl (fun hb3 => ?_) (fun hb3 => ?_)
  replace h := cnd_t hb3 h
  refine AW.seq ?_
  refine rg hx (by kernel_rfl) fun K hK => ?_
  refine s1 (d := dO 2 (cI .u8) ([] : List Int)) (T_asgN tb_24 tb_5) ?_
  refine s1 (d := dI .i64 (3 : Int)) T_asg ?_
  refine .nil (hK _ _ ?_)
  refine AW.ret ?_
  obtain rfl := Option.some.inj h
  exact RetV.mk2 (resD_t rfl (resD_t rfl (.inr ⟨_, _, (le_ex _), (le_refl' _), ⟨rfl, rfl⟩, rfl⟩)))
  replace h := cnd_f hb3 h
  refine AW.skip ?_
  refine AW.seq ?_
  refine rd [] hx (by kernel_rfl) (by kernel_rfl) fun K hK => ?_
  refine s1 (T_faP tb_23 tb_3) ?_
  refine s1 (d := dI .i64 p_f.vSeq) (T_ldC tb_3) ?_
  obtain ⟨x4, hx5, h⟩ := bnd_some h
  refine s1 (d := dO 2 (cI .u8) x4) (T_callO rfl (w_wire_Int hx5) rfl (lA (le_refl' _) lAn)) ?_
  refine s1 (T_faP tb_23 tb_3) ?_
  refine s1 (d := dI .i64 p_f.vAck) (T_ldC tb_3) ?_
  obtain ⟨x6, hx7, h⟩ := bnd_some h
  refine s1 (d := dO 3 (cI .u8) x6) (T_callO rfl (w_wire_Int hx7) rfl (lA (le_refl' _) lAn)) ?_
  refine s1 (T_faP tb_23 tb_9) ?_
  refine s1 (d := dS p_f.vData) (T_ldC tb_9) ?_
  obtain ⟨x8, hx9, h⟩ := bnd_some h
  refine s1 (d := dO 4 (cI .u8) x8) (T_callO rfl (w_wire_Bytes hx9) rfl (lA (le_refl' _) lAn)) ?_
  refine s1 (T_bslD tb_76 tb_24) ?_
  obtain ⟨x10, hx11, h⟩ := bnd_some h
  refine s1 (d := dO 5 (cI .u8) x10) (T_callO rfl (w_slices_Concat_byte_byte hx11) rfl (lA (le_refl' _) lAn)) ?_
  refine s1 T_as ?_
  refine .nil (hK _ _ ?_)
  refine AW.seq ?_
  refine rg hx (by kernel_rfl) fun K hK => ?_
  refine s1 T_mv ?_
  refine s1 (d := dS (bStr x10)) (T_cvB tb_24 tb_9 tb_5 (fun _ h => by cases h)) ?_
  refine s1 (d := dO 6 cS [bStr x10]) (T_bsl tb_36 tb_9) ?_
  obtain ⟨x12, hx13, h⟩ := bnd_some h
  refine s1 (d := dG (cA 16 (cI .u8)) x12) (T_call rfl (w_hash_Of hx13) rfl (lA (le_refl' _) (lA (le_refl' _) lAn)) (.inl (pure_G _ _))) ?_
  refine s1 (d := .pt 7 0) (T_alV (F := (cA 16 (cI .u8)).f (Vector.replicate 16 (0 : Int))) tb_59) ?_
  refine s0 (T_stV (b' := x12) (LnAt.id _ _) tb_59) ?_
  refine .nil (hK _ _ ?_)
  refine AW.seq ?_
  obtain ⟨a16_0, hy, h⟩ := bnd_some h
  refine jn ((PE cx .normal (fun a16_0 => [(2, dL (cI .u8) a16_0), (3, dI .i64 (0 : Int))]) fun a16_0 => ⟨[], [], 0⟩) a16_0) ?_ ?_
  replace h := hy
  refine rg hx (by kernel_rfl) fun K hK => ?_
  refine qZ (d := dF (cI .u8) (x12).toList) (hp' := ⟨[(0, [dI .i64 p_f.vSeq, dI .i64 p_f.vAck, dS p_f.vData])], [(6, ([bStr x10]).length, 1, 9), (5, (x10).length, 1, 5), (4, (x8).length, 1, 5), (3, (x6).length, 1, 5), (2, (x4).length, 1, 5), (1, (([] : List Int)).length, 1, 5)], 8⟩) rfl (slAFv (c := (cI .u8)) (x12) tok tb_59 tb_5 rfl rfl rfl rfl rfl rfl rfl rfl) ?_
  refine s1 T_mv ?_
  rcases Bool.eq_false_or_eq_true (decide (0 < (x10).length)) with hb14 | hb14
  replace h := cnd_t hb14 h
  obtain ⟨hc15, h⟩ := gd_some h
  refine s1 (d := dO 8 (cI .u8) (((x12).toList) ++ x10)) (T_appF tb_24 tb_5 hc15 (of_decide_eq_true hb14)) ?_
  refine s1 T_as ?_
  refine s1 (d := dI .i64 (0 : Int)) T_asg ?_
  refine .nil (hK _ _ ?_)
  obtain rfl := Option.some.inj h
  exact PE.i (wk h0 [] (wT rfl (le_ex _) rfl rfl (wR rfl wTn)) wVn wLn)
  replace h := cnd_f hb14 h
  refine sEm (l := x10) (c0 := (cI .u8)) tb_24 tb_5 hb14 ?_
  refine s1 T_as ?_
  refine s1 (d := dI .i64 (0 : Int)) T_asg ?_
  refine .nil (hK _ _ ?_)
  obtain rfl := Option.some.inj h
  exact PE.i (wk h0 [] (wT rfl (le_ex _) rfl rfl (wR rfl wTn)) wVn wLn)
  rintro ex tm' hp' ⟨rfl, hw⟩
  refine AW.weak hw ?_
  refine AW.ret ?_
  obtain rfl := Option.some.inj h
  exact RetV.mk2 (resD_t rfl (resD_t rfl (.inr ⟨_, _, (le_refl' _), (le_refl' _), ⟨rfl, rfl⟩, rfl⟩)))
noncomputable def g_link_Decode (p_b : List Int) : Option (S_Frame × Int) := cnd (decide (((p_b).length : Int) < (16 : Int))) (some ((⟨(0 : Int), (0 : Int), ByteArray.empty⟩ : S_Frame), (11 : Int))) (gd (0 ≤ (16 : Int) ∧ (16 : Int) ≤ ((p_b).length : Int) ∧ ((p_b).length : Int) ≤ ((p_b).length : Int)) (bnd (g_wire_GetInt (subL p_b (16 : Int) ((p_b).length : Int))) fun x3 => bnd (S := Unit ⊕ (S_Frame × Int)) (cnd (decide (x3.2.2 = (0 : Int))) (gd (0 ≤ x3.2.1 ∧ x3.2.1 ≤ ((subL p_b (16 : Int) ((p_b).length : Int)).length : Int) ∧ ((subL p_b (16 : Int) ((p_b).length : Int)).length : Int) ≤ ((subL p_b (16 : Int) ((p_b).length : Int)).length : Int)) (bnd (g_wire_GetInt (subL (subL p_b (16 : Int) ((p_b).length : Int)) x3.2.1 ((subL p_b (16 : Int) ((p_b).length : Int)).length : Int))) fun x7 => cnd (decide (x7.2.2 = (0 : Int))) (gd (0 ≤ IntKind.i64.wrap (x3.2.1 + x7.2.1) ∧ IntKind.i64.wrap (x3.2.1 + x7.2.1) ≤ ((subL p_b (16 : Int) ((p_b).length : Int)).length : Int) ∧ ((subL p_b (16 : Int) ((p_b).length : Int)).length : Int) ≤ ((subL p_b (16 : Int) ((p_b).length : Int)).length : Int)) (bnd (g_wire_GetBytes (subL (subL p_b (16 : Int) ((p_b).length : Int)) (IntKind.i64.wrap (x3.2.1 + x7.2.1)) ((subL p_b (16 : Int) ((p_b).length : Int)).length : Int))) fun x11 => bnd (g_link_Encode (⟨x3.1, x7.1, x11.1⟩ : S_Frame)) fun x13 => bnd (S := Bool) (cnd (decide (x11.2.2 = (0 : Int))) (cnd (decide (x13.2 = (0 : Int))) (bnd (g_bytes_Equal p_b x13.1) fun x17 => some (x17)) (some (false))) (some (false))) fun a33_0 => cnd a33_0 (some (.inr ((⟨x3.1, x7.1, x11.1⟩ : S_Frame), (0 : Int)))) (some (.inl ())))) (some (.inl ())))) (some (.inl ()))) fun y21 => match y21 with | .inl () => some ((⟨(0 : Int), (0 : Int), ByteArray.empty⟩ : S_Frame), (11 : Int)) | .inr r => some r))
set_option maxHeartbeats 4000000 in
theorem w_link_Decode {p_b : List Int} {r : S_Frame × Int} (h : g_link_Decode p_b = some r) : PCalls Tryd.prog 8 [dL (cI .u8) p_b] (.tu [dG c_Frame r.1, dI .i64 r.2]) := by
  refine PCalls.of (rs := [.cell 2 23, .tmp 3]) tok Tryd.func8 rfl rfl (Nat.le_of_ble_eq_true rfl) rfl (fun cx hx h0 => ?_)
  simp only [argsT, Nat.reduceAdd, Nat.zero_add]
  unfold g_link_Decode at h
  refine AW.seq ?_
  refine rg hx (by kernel_rfl) fun K hK => ?_
  refine s1 (d := .pt 0 0) (T_alloc tb_23) ?_
  refine s1 (d := dI .i64 (0 : Int)) T_asg ?_
  refine .nil (hK _ _ ?_)
  iterate 2 refine AW.seq ?_
  refine rg hx (by kernel_rfl) fun K hK => ?_
  refine s1 T_mv ?_
  refine s1 (d := dI .i64 ((p_b).length : Int)) (T_len tb_24 tb_5) ?_
  refine s1 T_lss ?_
  refine .nil (hK _ _ ?_)
  refine AW.condS rfl (fun hb1 => ?_) (fun hb1 => ?_)
  replace h := cnd_t hb1 h
  refine AW.seq ?_
  refine rg hx (by kernel_rfl) fun K hK => ?_
  refine s1 (d := dG c_Frame (⟨(0 : Int), (0 : Int), ByteArray.empty⟩ : S_Frame)) (T_build tb_23) ?_
  refine s0 (T_st (ds' := [dI .i64 (0 : Int), dI .i64 (0 : Int), dS ByteArray.empty]) tb_23) ?_
  refine s1 (d := dI .i64 (11 : Int)) T_asg ?_
  refine .nil (hK _ _ ?_)
  refine AW.ret ?_
  obtain rfl := Option.some.inj h
  exact RetV.mk2 (resD_a (es := (c_Frame.f (⟨(0 : Int), (0 : Int), ByteArray.empty⟩ : S_Frame)).map .e) rfl tb_23 rfl rfl (ltb rfl) (leb rfl) rfl (resD_t rfl (.inr ⟨_, _, (le_refl' _), (le_refl' _), ⟨rfl, rfl⟩, rfl⟩)))
  replace h := cnd_f hb1 h
  refine AW.skip ?_
  refine AW.seq ?_
  refine rg hx (by kernel_rfl) fun K hK => ?_
  refine s1 T_mv ?_
  obtain ⟨hc2, h⟩ := gd_some h
  refine s1 (T_sl (c := (cI .u8)) (l := p_b) (a := (16 : Int)) (b := ((p_b).length : Int)) hc2 tb_24 tb_5) ?_
  refine s1 T_as ?_
  refine .nil (hK _ _ ?_)
  refine AW.seq ?_
  refine rg hx (by kernel_rfl) fun K hK => ?_
  refine s1 T_mv ?_
  obtain ⟨x3, hx4, h⟩ := bnd_some h
  refine s1 (T_call rfl (w_wire_GetInt hx4) rfl (lA (le_refl' _) lAn) (.inr ⟨_, rfl⟩)) ?_
  refine s1 T_mv ?_
  iterate 3 refine s1 T_ext ?_
  iterate 3 refine s1 T_as ?_
  refine .nil (hK _ _ ?_)
  refine AW.seq ?_
  obtain ⟨y, hy, h⟩ := bnd_some h
  refine jn ((PS (PE cx .normal (fun () => [(2, .pt 0 0)]) fun () => ⟨[(0, [dI .i64 (0 : Int), dI .i64 (0 : Int), dS ByteArray.empty])], [], 1⟩) (PR [.cell 2 23, .tmp 3] fun r => .tu [dG c_Frame r.1, dI .i64 r.2])) y) ?_ ?_
  replace h := hy
  refine AW.seq ?_
  refine rg hx (by kernel_rfl) fun K hK => ?_
  refine s1 T_mv ?_
  refine s1 T_eql ?_
  refine .nil (hK _ _ ?_)
  refine AW.condS rfl (fun hb5 => ?_) (fun hb5 => ?_)
  replace h := cnd_t hb5 h
  refine AW.seq ?_
  refine rg hx (by kernel_rfl) fun K hK => ?_
  iterate 2 refine s1 T_mv ?_
  obtain ⟨hc6, h⟩ := gd_some h
  refine s1 (T_sl (c := (cI .u8)) (l := subL p_b (16 : Int) ((p_b).length : Int)) (a := x3.2.1) (b := ((subL p_b (16 : Int) ((p_b).length : Int)).length : Int)) hc6 tb_24 tb_5) ?_
  obtain ⟨x7, hx8, h⟩ := bnd_some h
  refine s1 (T_call rfl (w_wire_GetInt hx8) rfl (lA (le_refl' _) lAn) (.inr ⟨_, rfl⟩)) ?_
  refine s1 T_mv ?_
  iterate 3 refine s1 T_ext ?_
  iterate 3 refine s1 T_as ?_
  refine .nil (hK _ _ ?_)
  refine AW.seq ?_
  refine rg hx (by kernel_rfl) fun K hK => ?_
  refine s1 T_mv ?_
  refine s1 T_as ?_
  refine .nil (hK _ _ ?_)
  refine AW.seq ?_
  refine rg hx (by kernel_rfl) fun K hK => ?_
  refine s1 T_mv ?_
  refine s1 T_eql ?_
  refine .nil (hK _ _ ?_)
  refine AW.condS rfl (fun hb9 => ?_) (fun hb9 => ?_)
  replace h := cnd_t hb9 h
  refine AW.seq ?_
  refine rg hx (by kernel_rfl) fun K hK => ?_
  iterate 3 refine s1 T_mv ?_
  refine s1 T_add ?_
  obtain ⟨hc10, h⟩ := gd_some h
  refine s1 (T_sl (c := (cI .u8)) (l := subL p_b (16 : Int) ((p_b).length : Int)) (a := IntKind.i64.wrap (x3.2.1 + x7.2.1)) (b := ((subL p_b (16 : Int) ((p_b).length : Int)).length : Int)) hc10 tb_24 tb_5) ?_
  obtain ⟨x11, hx12, h⟩ := bnd_some h
  refine s1 (T_call rfl (w_wire_GetBytes hx12) rfl (lA (le_refl' _) lAn) (.inr ⟨_, rfl⟩)) ?_
  refine s1 T_mv ?_
  iterate 3 refine s1 T_ext ?_
  iterate 3 refine s1 T_as ?_
  refine .nil (hK _ _ ?_)
  refine AW.seq ?_
  refine rg hx (by kernel_rfl) fun K hK => ?_
  iterate 3 refine s1 T_mv ?_
  refine s1 (d := dG c_Frame (⟨x3.1, x7.1, x11.1⟩ : S_Frame)) (T_build tb_23) ?_
  refine s1 (d := .pt 1 0) (T_alloc tb_23) ?_
  refine s0 (T_st (ds' := [dI .i64 x3.1, dI .i64 x7.1, dS x11.1]) tb_23) ?_
  refine .nil (hK _ _ ?_)
  refine AW.seq ?_
  refine rg hx (by kernel_rfl) fun K hK => ?_
  refine s1 (d := dG c_Frame (⟨x3.1, x7.1, x11.1⟩ : S_Frame)) (T_ldA tb_23) ?_
  obtain ⟨x13, hx14, h⟩ := bnd_some h
  refine s1 (T_call rfl (w_link_Encode hx14) (by simp only [List.map_cons, List.map_nil, List.all_cons, List.all_nil, Bool.and_true, Bool.and_eq_true]; exact pure_ex_G _ _) (lA (le_refl' _) lAn) (.inr ⟨_, rfl⟩)) ?_
  refine s1 T_mv ?_
  iterate 2 refine s1 T_ext ?_
  iterate 2 refine s1 T_as ?_
  refine .nil (hK _ _ ?_)
  refine AW.seq ?_
  obtain ⟨a33_0, hy, h⟩ := bnd_some h
  refine jn ((PE cx .normal (fun a33_0 => [(2, .pt 0 0), (14, .pt 1 0), (71, dB a33_0)]) fun a33_0 => ⟨[(0, [dI .i64 (0 : Int), dI .i64 (0 : Int), dS ByteArray.empty]), (1, [dI .i64 x3.1, dI .i64 x7.1, dS x11.1])], [], 2⟩) a33_0) ?_ ?_
  replace h := hy
  refine rg hx (by kernel_rfl) fun K hK => ?_
  refine s1 T_mv ?_
  refine s1 T_eql ?_
  refine s1 T_mv ?_
  rcases Bool.eq_false_or_eq_true (decide (x11.2.2 = (0 : Int))) with hb15 | hb15
  replace h := cnd_t hb15 h
  refine g1 hb15 T_mv ?_
  refine g1 hb15 T_eql ?_
  refine s1 (d := dB (decide (x13.2 = (0 : Int)))) (T_pickT hb15) ?_
  refine s1 T_mv ?_
  rcases Bool.eq_false_or_eq_true (decide (x13.2 = (0 : Int))) with hb16 | hb16
  replace h := cnd_t hb16 h
  iterate 2 refine g1 hb16 T_mv ?_
  obtain ⟨x17, hx18, h⟩ := bnd_some h
  refine g1 (d := dB x17) hb16 (T_call rfl (w_bytes_Equal hx18) rfl (lA (le_refl' _) (lA (le_refl' _) lAn)) (.inl rfl)) ?_
  refine s1 (d := dB x17) (T_pickT hb16) ?_
  refine .nil (hK _ _ ?_)
  obtain rfl := Option.some.inj h
  exact PE.i (wk h0 [0, 1] (wR rfl (wR rfl (wR rfl wTn))) (vR rfl (vR rfl wVn)) wLn)
  replace h := cnd_f hb16 h
  iterate 3 refine no_t rfl rfl hb16 ?_
  refine s1 (d := dB false) (T_pickF hb16) ?_
  refine .nil (hK _ _ ?_)
  obtain rfl := Option.some.inj h
  exact PE.i (wk h0 [0, 1] (wR rfl (wR rfl (wR rfl wTn))) (vR rfl (vR rfl wVn)) wLn)
  replace h := cnd_f hb15 h
  iterate 2 refine no_t rfl rfl hb15 ?_
  refine s1 (d := dB false) (T_pickF hb15) ?_
  refine s1 T_mv ?_
  iterate 3 refine no_t rfl rfl rfl ?_
  refine s1 (d := dB false) (T_pickF rfl) ?_
  refine .nil (hK _ _ ?_)
  obtain rfl := Option.some.inj h
  exact PE.i (wk h0 [0, 1] (wR rfl (wR rfl (wR rfl wTn))) (vR rfl (vR rfl wVn)) wLn)
  rintro ex tm' hp' ⟨rfl, hw⟩
  refine AW.weak hw ?_
  refine AW.condS rfl (fun hb20 => ?_) (fun hb20 => ?_)
  replace h := cnd_t hb20 h
  refine AW.seq ?_
  refine rg hx (by kernel_rfl) fun K hK => ?_
  refine s1 (d := dG c_Frame (⟨x3.1, x7.1, x11.1⟩ : S_Frame)) (T_ldA tb_23) ?_
  refine s0 (T_st (ds' := [dI .i64 x3.1, dI .i64 x7.1, dS x11.1]) tb_23) ?_
  refine s1 (d := dI .i64 (0 : Int)) T_asg ?_
  refine .nil (hK _ _ ?_)
  refine AW.ret ?_
  obtain rfl := Option.some.inj h
  refine PS.r (PR.i ?_)
  exact RetV.mk2 (resD_a (es := (c_Frame.f (⟨x3.1, x7.1, x11.1⟩ : S_Frame)).map .e) rfl tb_23 rfl rfl (ltb rfl) (leb rfl) rfl (resD_t rfl (.inr ⟨_, _, (le_refl' _), (le_refl' _), ⟨rfl, rfl⟩, rfl⟩)))
  replace h := cnd_f hb20 h
  refine AW.skip ?_
  obtain rfl := Option.some.inj h
  exact PS.l (PE.i (wk h0 [0] (wR rfl wTn) (vR rfl wVn) wLn))
  replace h := cnd_f hb9 h
  refine AW.skip ?_
  obtain rfl := Option.some.inj h
  exact PS.l (PE.i (wk h0 [0] (wR rfl wTn) (vR rfl wVn) wLn))
  replace h := cnd_f hb5 h
  refine AW.skip ?_
  obtain rfl := Option.some.inj h
  exact PS.l (PE.i (wk h0 [0] (wR rfl wTn) (vR rfl wVn) wLn))
  rcases y with ⟨⟩ | r
  rintro ex tm' hp' ⟨rfl, hw⟩
  refine AW.weak hw ?_
  refine AW.seq ?_
  refine rg hx (by kernel_rfl) fun K hK => ?_
  refine s1 (d := dG c_Frame (⟨(0 : Int), (0 : Int), ByteArray.empty⟩ : S_Frame)) (T_build tb_23) ?_
  refine s0 (T_st (ds' := [dI .i64 (0 : Int), dI .i64 (0 : Int), dS ByteArray.empty]) tb_23) ?_
  refine s1 (d := dI .i64 (11 : Int)) T_asg ?_
  refine .nil (hK _ _ ?_)
  refine AW.ret ?_
  obtain rfl := Option.some.inj h
  exact RetV.mk2 (resD_a (es := (c_Frame.f (⟨(0 : Int), (0 : Int), ByteArray.empty⟩ : S_Frame)).map .e) rfl tb_23 rfl rfl (ltb rfl) (leb rfl) rfl (resD_t rfl (.inr ⟨_, _, (le_refl' _), (le_refl' _), ⟨rfl, rfl⟩, rfl⟩)))
  rintro ex tm' hp' ⟨rfl, hw⟩
  obtain rfl := Option.some.inj h
  exact hw
noncomputable def g_ref42_Encode (p_f : S_Frame) : Option S_Bytes := bnd (g_ref42_Valid p_f) fun x1 => cnd (!x1) (some (⟨([] : List Int), (3 : Int)⟩ : S_Bytes)) (bnd (g_ref01_Int p_f.vSeq) fun x4 => bnd (g_ref01_Int p_f.vAck) fun x6 => gd ((x4 ++ x6).length * 1 ≤ 140737488355328) (bnd (g_ref01_Bytes p_f.vData) fun x9 => gd (((x4 ++ x6) ++ x9).length * 1 ≤ 140737488355328) (bnd (g_ref02_Of (42 : Int) [bStr ((x4 ++ x6) ++ x9)]) fun x12 => bnd (S := S_Bytes) (cnd (decide (0 < ((x4 ++ x6) ++ x9).length)) (gd ((((x12).toList) ++ ((x4 ++ x6) ++ x9)).length * 1 ≤ 140737488355328) (some ((⟨((x12).toList) ++ ((x4 ++ x6) ++ x9), (0 : Int)⟩ : S_Bytes)))) (some ((⟨(x12).toList, (0 : Int)⟩ : S_Bytes)))) fun a20_0 => some a20_0)))
theorem w_ref42_Encode {p_f : S_Frame} {r : S_Bytes} (h : g_ref42_Encode p_f = some r) : PCalls Tryd.prog 6 [dG c_Frame p_f] (dG c_Bytes r) := by
  refine PCalls.of (rs := [.cell 2 30]) tok Tryd.func6 rfl rfl (Nat.le_of_ble_eq_true rfl) rfl (fun cx hx h0 => ?_)
  simp only [argsT, Nat.reduceAdd, Nat.zero_add]
  unfold g_ref42_Encode at h
  refine AW.seq ?_
  refine rg hx (by kernel_rfl) fun K hK => ?_
  refine s1 (d := .pt 0 0) T_box ?_
  refine s1 (d := .pt 1 0) (T_alloc tb_30) ?_
  refine .nil (hK _ _ ?_)
  refine AW.seq ?_
  refine rg hx (by kernel_rfl) fun K hK => ?_
  refine s1 (d := dG c_Frame p_f) (T_ldA tb_23) ?_
  obtain ⟨x1, hx2, h⟩ := bnd_some h
  refine s1 (d := dB x1) (T_call rfl (w_ref42_Valid hx2) (by simp only [List.map_cons, List.map_nil, List.all_cons, List.all_nil, Bool.and_true, Bool.and_eq_true]; exact pure_ex_G _ _) (lA (le_refl' _) lAn) (.inl rfl)) ?_
  refine s1 T_as ?_
  refine .nil (hK _ _ ?_)
  iterate 2 refine AW.seq ?_
  refine rg hx (by kernel_rfl) fun K hK => ?_
  refine s1 T_mv ?_
  refine s1 T_not ?_
  refine .nil (hK _ _ ?_)
  refine AW.condS rfl (fun hb3 => ?_) (fun hb3 => ?_)
  replace h := cnd_t hb3 h
  refine AW.seq ?_
  refine rg hx (by kernel_rfl) fun K hK => ?_
  refine s1 (d := .ag [dN, dI .i64 (3 : Int)]) (T_build tb_30) ?_
  refine s0 (T_st (ds' := [dN, dI .i64 (3 : Int)]) tb_30) ?_
  refine .nil (hK _ _ ?_)
  refine AW.ret ?_
  obtain rfl := Option.some.inj h
  exact RetV.mk1 (resD_a (es := [dN, dI .i64 (3 : Int)]) rfl tb_30 rfl rfl (ltb rfl) (leb rfl) rfl (.inr (.inr ⟨_, (le_ag (wc (lc_n rfl) (wc (lc_r _) wcn))), rfl, rfl⟩)))
  replace h := cnd_f hb3 h
  refine AW.skip ?_
  refine AW.seq ?_
  refine rd [] hx (by kernel_rfl) (by kernel_rfl) fun K hK => ?_
  refine s1 (T_faP tb_23 tb_3) ?_
  refine s1 (d := dI .i64 p_f.vSeq) (T_ldC tb_3) ?_
  obtain ⟨x4, hx5, h⟩ := bnd_some h
  refine s1 (d := dO 2 (cI .u8) x4) (T_callO rfl (w_ref01_Int hx5) rfl (lA (le_refl' _) lAn)) ?_
  refine s1 (T_faP tb_23 tb_3) ?_
  refine s1 (d := dI .i64 p_f.vAck) (T_ldC tb_3) ?_
  obtain ⟨x6, hx7, h⟩ := bnd_some h
  refine s1 (d := dO 3 (cI .u8) x6) (T_callO rfl (w_ref01_Int hx7) rfl (lA (le_refl' _) lAn)) ?_
  obtain ⟨hc8, h⟩ := gd_some h
  refine s1 (d := dO 2 (cI .u8) (x4 ++ x6)) (T_appO tb_24 tb_5 hc8) ?_
  refine s1 T_as ?_
  refine .nil (hK _ _ ?_)
  refine AW.seq ?_
  refine rg hx (by kernel_rfl) fun K hK => ?_
  refine s1 T_mv ?_
  refine s1 (T_faP tb_23 tb_9) ?_
  refine s1 (d := dS p_f.vData) (T_ldC tb_9) ?_
  obtain ⟨x9, hx10, h⟩ := bnd_some h
  refine s1 (d := dO 4 (cI .u8) x9) (T_callO rfl (w_ref01_Bytes hx10) rfl (lA (le_refl' _) lAn)) ?_
  obtain ⟨hc11, h⟩ := gd_some h
  refine s1 (d := dO 2 (cI .u8) ((x4 ++ x6) ++ x9)) (T_appO tb_24 tb_5 hc11) ?_
  refine s1 T_as ?_
  refine .nil (hK _ _ ?_)
  refine AW.seq ?_
  refine rg hx (by kernel_rfl) fun K hK => ?_
  refine s1 T_mv ?_
  refine s1 (d := dS (bStr ((x4 ++ x6) ++ x9))) (T_cvB tb_24 tb_9 tb_5 (fun _ h => by cases h)) ?_
  refine s1 (d := dO 5 cS [bStr ((x4 ++ x6) ++ x9)]) (T_bsl tb_36 tb_9) ?_
  obtain ⟨x12, hx13, h⟩ := bnd_some h
  refine s1 (d := dG (cA 16 (cI .u8)) x12) (T_call rfl (w_ref02_Of hx13) rfl (lA (le_refl' _) (lA (le_refl' _) lAn)) (.inl (pure_G _ _))) ?_
  refine s1 (d := .pt 6 0) (T_alV (F := (cA 16 (cI .u8)).f (Vector.replicate 16 (0 : Int))) tb_59) ?_
  refine s0 (T_stV (b' := x12) (LnAt.id _ _) tb_59) ?_
  refine .nil (hK _ _ ?_)
  refine AW.seq ?_
  obtain ⟨a20_0, hy, h⟩ := bnd_some h
  refine jn ((PE cx .normal (fun a20_0 => [(2, .pt 0 0)]) fun a20_0 => ⟨[(0, [dL (cI .u8) a20_0.vB, dI .i64 a20_0.vE])], [], 1⟩) a20_0) ?_ ?_
  replace h := hy
  refine rg hx (by kernel_rfl) fun K hK => ?_
  refine qZ (d := dF (cI .u8) (x12).toList) (hp' := ⟨[(1, [dN, dI .i64 (0 : Int)]), (0, [dI .i64 p_f.vSeq, dI .i64 p_f.vAck, dS p_f.vData])], [(5, ([bStr ((x4 ++ x6) ++ x9)]).length, 1, 9), (2, ((x4 ++ x6) ++ x9).length, 1, 5), (4, (x9).length, 1, 5), (2, (x4 ++ x6).length, 1, 5), (3, (x6).length, 1, 5), (2, (x4).length, 1, 5)], 7⟩) rfl (slAFv (c := (cI .u8)) (x12) tok tb_59 tb_5 rfl rfl rfl rfl rfl rfl rfl rfl) ?_
  refine s1 T_mv ?_
  rcases Bool.eq_false_or_eq_true (decide (0 < ((x4 ++ x6) ++ x9).length)) with hb14 | hb14
  replace h := cnd_t hb14 h
  obtain ⟨hc15, h⟩ := gd_some h
  refine s1 (d := dO 7 (cI .u8) (((x12).toList) ++ ((x4 ++ x6) ++ x9))) (T_appF tb_24 tb_5 hc15 (of_decide_eq_true hb14)) ?_
  refine s2 (d2 := dG c_Bytes (⟨((x12).toList) ++ ((x4 ++ x6) ++ x9), (0 : Int)⟩ : S_Bytes)) (T_build (es := [dO 7 (cI .u8) (((x12).toList) ++ ((x4 ++ x6) ++ x9)), dI .i64 (0 : Int)]) tb_30) (le_ag (wc (lc_x _) (wc (lc_r _) wcn))) ?_
  refine s0 (T_st (ds' := [dL (cI .u8) (((x12).toList) ++ ((x4 ++ x6) ++ x9)), dI .i64 (0 : Int)]) tb_30) ?_
  refine .nil (hK _ _ ?_)
  obtain rfl := Option.some.inj h
  exact PE.i (wk h0 [1] (wR rfl wTn) (vR rfl wVn) wLn)
  replace h := cnd_f hb14 h
  refine sEm (l := (x4 ++ x6) ++ x9) (c0 := (cI .u8)) tb_24 tb_5 hb14 ?_
  refine s2 (d2 := dG c_Bytes (⟨(x12).toList, (0 : Int)⟩ : S_Bytes)) (T_build (es := [dF (cI .u8) ((x12).toList), dI .i64 (0 : Int)]) tb_30) (le_ag (wc (lc_x _) (wc (lc_r _) wcn))) ?_
  refine s0 (T_st (ds' := [dL (cI .u8) ((x12).toList), dI .i64 (0 : Int)]) tb_30) ?_
  refine .nil (hK _ _ ?_)
  obtain rfl := Option.some.inj h
  exact PE.i (wk h0 [1] (wR rfl wTn) (vR rfl wVn) wLn)
  rintro ex tm' hp' ⟨rfl, hw⟩
  refine AW.weak hw ?_
  refine AW.ret ?_
  obtain rfl := Option.some.inj h
  exact RetV.mk1 (resD_a (es := (c_Bytes.f a20_0).map .e) rfl tb_30 rfl rfl (ltb rfl) (leb rfl) rfl (.inr (.inr ⟨_, (le_refl' _), rfl, rfl⟩)))
noncomputable def g_ref42_Decode (p_b : List Int) : Option (S_Frame × Int) := cnd (decide (((p_b).length : Int) < (16 : Int))) (some ((⟨(0 : Int), (0 : Int), ByteArray.empty⟩ : S_Frame), (11 : Int))) (gd (0 ≤ (16 : Int) ∧ (16 : Int) ≤ ((p_b).length : Int) ∧ ((p_b).length : Int) ≤ ((p_b).length : Int)) (bnd (g_ref01_GetInt (subL p_b (16 : Int) ((p_b).length : Int))) fun x3 => cnd (decide (x3.2.2 ≠ (0 : Int))) (some ((⟨(0 : Int), (0 : Int), ByteArray.empty⟩ : S_Frame), (11 : Int))) (gd (0 ≤ x3.2.1 ∧ x3.2.1 ≤ ((subL p_b (16 : Int) ((p_b).length : Int)).length : Int) ∧ ((subL p_b (16 : Int) ((p_b).length : Int)).length : Int) ≤ ((subL p_b (16 : Int) ((p_b).length : Int)).length : Int)) (bnd (g_ref01_GetInt (subL (subL p_b (16 : Int) ((p_b).length : Int)) x3.2.1 ((subL p_b (16 : Int) ((p_b).length : Int)).length : Int))) fun x7 => cnd (decide (x7.2.2 ≠ (0 : Int))) (some ((⟨(0 : Int), (0 : Int), ByteArray.empty⟩ : S_Frame), (11 : Int))) (gd (0 ≤ IntKind.i64.wrap (x3.2.1 + x7.2.1) ∧ IntKind.i64.wrap (x3.2.1 + x7.2.1) ≤ ((subL p_b (16 : Int) ((p_b).length : Int)).length : Int) ∧ ((subL p_b (16 : Int) ((p_b).length : Int)).length : Int) ≤ ((subL p_b (16 : Int) ((p_b).length : Int)).length : Int)) (bnd (g_ref01_GetBytes (subL (subL p_b (16 : Int) ((p_b).length : Int)) (IntKind.i64.wrap (x3.2.1 + x7.2.1)) ((subL p_b (16 : Int) ((p_b).length : Int)).length : Int))) fun x11 => bnd (g_ref42_Encode (⟨x3.1, x7.1, x11.1⟩ : S_Frame)) fun x13 => bnd (S := Bool) (cnd (decide (x11.2.2 ≠ (0 : Int))) (some (true)) (cnd (decide (x13.vE ≠ (0 : Int))) (some (true)) (bnd (g_ref01_Same x13.vB p_b) fun x17 => some (!x17)))) fun a41_0 => cnd a41_0 (some ((⟨(0 : Int), (0 : Int), ByteArray.empty⟩ : S_Frame), (11 : Int))) (some ((⟨x3.1, x7.1, x11.1⟩ : S_Frame), (0 : Int)))))))))
set_option maxHeartbeats 4000000 in
theorem w_ref42_Decode {p_b : List Int} {r : S_Frame × Int} (h : g_ref42_Decode p_b = some r) : PCalls Tryd.prog 9 [dL (cI .u8) p_b] (.tu [dG c_Frame r.1, dI .i64 r.2]) := by
  refine PCalls.of (rs := [.cell 2 23, .tmp 3]) tok Tryd.func9 rfl rfl (Nat.le_of_ble_eq_true rfl) rfl (fun cx hx h0 => ?_)
  simp only [argsT, Nat.reduceAdd, Nat.zero_add]
  unfold g_ref42_Decode at h
  refine AW.seq ?_
  refine rg hx (by kernel_rfl) fun K hK => ?_
  refine s1 (d := .pt 0 0) (T_alloc tb_23) ?_
  refine s1 (d := dI .i64 (0 : Int)) T_asg ?_
  refine .nil (hK _ _ ?_)
  iterate 2 refine AW.seq ?_
  refine rg hx (by kernel_rfl) fun K hK => ?_
  refine s1 T_mv ?_
  refine s1 (d := dI .i64 ((p_b).length : Int)) (T_len tb_24 tb_5) ?_
  refine s1 T_lss ?_
  refine .nil (hK _ _ ?_)
  refine AW.condS rfl (fun hb1 => ?_) (fun hb1 => ?_)
  replace h := cnd_t hb1 h
  refine AW.seq ?_
  refine rg hx (by kernel_rfl) fun K hK => ?_
  refine s1 (d := dG c_Frame (⟨(0 : Int), (0 : Int), ByteArray.empty⟩ : S_Frame)) (T_build tb_23) ?_
  refine s0 (T_st (ds' := [dI .i64 (0 : Int), dI .i64 (0 : Int), dS ByteArray.empty]) tb_23) ?_
  refine s1 (d := dI .i64 (11 : Int)) T_asg ?_
  refine .nil (hK _ _ ?_)
  refine AW.ret ?_
  obtain rfl := Option.some.inj h
  exact RetV.mk2 (resD_a (es := (c_Frame.f (⟨(0 : Int), (0 : Int), ByteArray.empty⟩ : S_Frame)).map .e) rfl tb_23 rfl rfl (ltb rfl) (leb rfl) rfl (resD_t rfl (.inr ⟨_, _, (le_refl' _), (le_refl' _), ⟨rfl, rfl⟩, rfl⟩)))
  replace h := cnd_f hb1 h
  refine AW.skip ?_
  refine AW.seq ?_
  refine rg hx (by kernel_rfl) fun K hK => ?_
  refine s1 T_mv ?_
  obtain ⟨hc2, h⟩ := gd_some h
  refine s1 (T_sl (c := (cI .u8)) (l := p_b) (a := (16 : Int)) (b := ((p_b).length : Int)) hc2 tb_24 tb_5) ?_
  refine s1 T_as ?_
  refine .nil (hK _ _ ?_)
  refine AW.seq ?_
  refine rg hx (by kernel_rfl) fun K hK => ?_
  refine s1 T_mv ?_
  obtain ⟨x3, hx4, h⟩ := bnd_some h
  refine s1 (T_call rfl (w_ref01_GetInt hx4) rfl (lA (le_refl' _) lAn) (.inr ⟨_, rfl⟩)) ?_
  refine s1 T_mv ?_
  iterate 3 refine s1 T_ext ?_
  iterate 3 refine s1 T_as ?_
  refine .nil (hK _ _ ?_)
  iterate 2 refine AW.seq ?_
  refine rg hx (by kernel_rfl) fun K hK => ?_
  refine s1 T_mv ?_
  refine s1 T_neq ?_
  refine .nil (hK _ _ ?_)
  refine AW.condS rfl (fun hb5 => ?_) (fun hb5 => ?_)
  replace h := cnd_t hb5 h
  refine AW.seq ?_
  refine rg hx (by kernel_rfl) fun K hK => ?_
  refine s1 (d := dG c_Frame (⟨(0 : Int), (0 : Int), ByteArray.empty⟩ : S_Frame)) (T_build tb_23) ?_
  refine s0 (T_st (ds' := [dI .i64 (0 : Int), dI .i64 (0 : Int), dS ByteArray.empty]) tb_23) ?_
  refine s1 (d := dI .i64 (11 : Int)) T_asg ?_
  refine .nil (hK _ _ ?_)
  refine AW.ret ?_
  obtain rfl := Option.some.inj h
  exact RetV.mk2 (resD_a (es := (c_Frame.f (⟨(0 : Int), (0 : Int), ByteArray.empty⟩ : S_Frame)).map .e) rfl tb_23 rfl rfl (ltb rfl) (leb rfl) rfl (resD_t rfl (.inr ⟨_, _, (le_refl' _), (le_refl' _), ⟨rfl, rfl⟩, rfl⟩)))
  replace h := cnd_f hb5 h
  refine AW.skip ?_
  refine AW.seq ?_
  refine rg hx (by kernel_rfl) fun K hK => ?_
  iterate 2 refine s1 T_mv ?_
  obtain ⟨hc6, h⟩ := gd_some h
  refine s1 (T_sl (c := (cI .u8)) (l := subL p_b (16 : Int) ((p_b).length : Int)) (a := x3.2.1) (b := ((subL p_b (16 : Int) ((p_b).length : Int)).length : Int)) hc6 tb_24 tb_5) ?_
  obtain ⟨x7, hx8, h⟩ := bnd_some h
  refine s1 (T_call rfl (w_ref01_GetInt hx8) rfl (lA (le_refl' _) lAn) (.inr ⟨_, rfl⟩)) ?_
  refine s1 T_mv ?_
  iterate 3 refine s1 T_ext ?_
  iterate 3 refine s1 T_as ?_
  refine .nil (hK _ _ ?_)
  iterate 2 refine AW.seq ?_
  refine rg hx (by kernel_rfl) fun K hK => ?_
  refine s1 T_mv ?_
  refine s1 T_neq ?_
  refine .nil (hK _ _ ?_)
  refine AW.condS rfl (fun hb9 => ?_) (fun hb9 => ?_)
  replace h := cnd_t hb9 h
  refine AW.seq ?_
  refine rg hx (by kernel_rfl) fun K hK => ?_
  refine s1 (d := dG c_Frame (⟨(0 : Int), (0 : Int), ByteArray.empty⟩ : S_Frame)) (T_build tb_23) ?_
  refine s0 (T_st (ds' := [dI .i64 (0 : Int), dI .i64 (0 : Int), dS ByteArray.empty]) tb_23) ?_
  refine s1 (d := dI .i64 (11 : Int)) T_asg ?_
  refine .nil (hK _ _ ?_)
  refine AW.ret ?_
  obtain rfl := Option.some.inj h
  exact RetV.mk2 (resD_a (es := (c_Frame.f (⟨(0 : Int), (0 : Int), ByteArray.empty⟩ : S_Frame)).map .e) rfl tb_23 rfl rfl (ltb rfl) (leb rfl) rfl (resD_t rfl (.inr ⟨_, _, (le_refl' _), (le_refl' _), ⟨rfl, rfl⟩, rfl⟩)))
  replace h := cnd_f hb9 h
  refine AW.skip ?_
  refine AW.seq ?_
  refine rg hx (by kernel_rfl) fun K hK => ?_
  iterate 3 refine s1 T_mv ?_
  refine s1 T_add ?_
  obtain ⟨hc10, h⟩ := gd_some h
  refine s1 (T_sl (c := (cI .u8)) (l := subL p_b (16 : Int) ((p_b).length : Int)) (a := IntKind.i64.wrap (x3.2.1 + x7.2.1)) (b := ((subL p_b (16 : Int) ((p_b).length : Int)).length : Int)) hc10 tb_24 tb_5) ?_
  obtain ⟨x11, hx12, h⟩ := bnd_some h
  refine s1 (T_call rfl (w_ref01_GetBytes hx12) rfl (lA (le_refl' _) lAn) (.inr ⟨_, rfl⟩)) ?_
  refine s1 T_mv ?_
  iterate 3 refine s1 T_ext ?_
  iterate 3 refine s1 T_as ?_
  refine .nil (hK _ _ ?_)
  refine AW.seq ?_
  refine rg hx (by kernel_rfl) fun K hK => ?_
  iterate 3 refine s1 T_mv ?_
  refine s1 (d := dG c_Frame (⟨x3.1, x7.1, x11.1⟩ : S_Frame)) (T_build tb_23) ?_
  refine s1 (d := .pt 1 0) (T_alloc tb_23) ?_
  refine s0 (T_st (ds' := [dI .i64 x3.1, dI .i64 x7.1, dS x11.1]) tb_23) ?_
  refine .nil (hK _ _ ?_)
  refine AW.seq ?_
  refine rg hx (by kernel_rfl) fun K hK => ?_
  refine s1 (d := dG c_Frame (⟨x3.1, x7.1, x11.1⟩ : S_Frame)) (T_ldA tb_23) ?_
  obtain ⟨x13, hx14, h⟩ := bnd_some h
  refine s1 (d := dG c_Bytes x13) (T_call rfl (w_ref42_Encode hx14) (by simp only [List.map_cons, List.map_nil, List.all_cons, List.all_nil, Bool.and_true, Bool.and_eq_true]; exact pure_ex_G _ _) (lA (le_refl' _) lAn) (.inl (pure_G _ _))) ?_
  refine s1 (d := .pt 2 0) (T_alloc tb_30) ?_
  refine s0 (T_st (ds' := [dL (cI .u8) x13.vB, dI .i64 x13.vE]) tb_30) ?_
  refine .nil (hK _ _ ?_)
  iterate 2 refine AW.seq ?_
  obtain ⟨a41_0, hy, h⟩ := bnd_some h
  refine jn ((PE cx .normal (fun a41_0 => [(2, .pt 0 0), (14, .pt 1 0), (71, dB a41_0)]) fun a41_0 => ⟨[(0, [dI .i64 (0 : Int), dI .i64 (0 : Int), dS ByteArray.empty]), (1, [dI .i64 x3.1, dI .i64 x7.1, dS x11.1])], [], 2⟩) a41_0) ?_ ?_
  replace h := hy
  refine rg hx (by kernel_rfl) fun K hK => ?_
  refine s1 T_mv ?_
  refine s1 T_neq ?_
  refine s1 T_mv ?_
  rcases Bool.eq_false_or_eq_true (decide (x11.2.2 ≠ (0 : Int))) with hb15 | hb15
  replace h := cnd_t hb15 h
  iterate 3 refine no_t rfl rfl hb15 ?_
  refine s1 (d := dB true) (T_pickT hb15) ?_
  refine s1 T_mv ?_
  iterate 5 refine no_t rfl rfl rfl ?_
  refine s1 (d := dB true) (T_pickT rfl) ?_
  refine .nil (hK _ _ ?_)
  obtain rfl := Option.some.inj h
  exact PE.i (wk h0 [0, 1] (wR rfl (wR rfl (wR rfl wTn))) (vR rfl (vR rfl wVn)) wLn)
  replace h := cnd_f hb15 h
  refine g1 hb15 (T_faP tb_30 tb_26) ?_
  refine g1 (d := dI .i64 x13.vE) hb15 (T_ldC tb_26) ?_
  refine g1 hb15 T_neq ?_
  refine s1 (d := dB (decide (x13.vE ≠ (0 : Int)))) (T_pickF hb15) ?_
  refine s1 T_mv ?_
  rcases Bool.eq_false_or_eq_true (decide (x13.vE ≠ (0 : Int))) with hb16 | hb16
  replace h := cnd_t hb16 h
  iterate 5 refine no_t rfl rfl hb16 ?_
  refine s1 (d := dB true) (T_pickT hb16) ?_
  refine .nil (hK _ _ ?_)
  obtain rfl := Option.some.inj h
  exact PE.i (wk h0 [0, 1] (wR rfl (wR rfl (wR rfl wTn))) (vR rfl (vR rfl wVn)) wLn)
  replace h := cnd_f hb16 h
  refine g1 hb16 (T_faP tb_30 tb_24) ?_
  refine g1 (d := dL (cI .u8) x13.vB) hb16 (T_ldC tb_24) ?_
  refine g1 hb16 T_mv ?_
  obtain ⟨x17, hx18, h⟩ := bnd_some h
  refine g1 (d := dB x17) hb16 (T_call rfl (w_ref01_Same hx18) rfl (lA (le_refl' _) (lA (le_refl' _) lAn)) (.inl rfl)) ?_
  refine g1 hb16 T_not ?_
  refine s1 (d := dB (!x17)) (T_pickF hb16) ?_
  refine .nil (hK _ _ ?_)
  obtain rfl := Option.some.inj h
  exact PE.i (wk h0 [0, 1] (wR rfl (wR rfl (wR rfl wTn))) (vR rfl (vR rfl wVn)) wLn)
  rintro ex tm' hp' ⟨rfl, hw⟩
  refine AW.weak hw ?_
  refine AW.condS rfl (fun hb20 => ?_) (fun hb20 => ?_)
  replace h := cnd_t hb20 h
  refine AW.seq ?_
  refine rg hx (by kernel_rfl) fun K hK => ?_
  refine s1 (d := dG c_Frame (⟨(0 : Int), (0 : Int), ByteArray.empty⟩ : S_Frame)) (T_build tb_23) ?_
  refine s0 (T_st (ds' := [dI .i64 (0 : Int), dI .i64 (0 : Int), dS ByteArray.empty]) tb_23) ?_
  refine s1 (d := dI .i64 (11 : Int)) T_asg ?_
  refine .nil (hK _ _ ?_)
  refine AW.ret ?_
  obtain rfl := Option.some.inj h
  exact RetV.mk2 (resD_a (es := (c_Frame.f (⟨(0 : Int), (0 : Int), ByteArray.empty⟩ : S_Frame)).map .e) rfl tb_23 rfl rfl (ltb rfl) (leb rfl) rfl (resD_t rfl (.inr ⟨_, _, (le_refl' _), (le_refl' _), ⟨rfl, rfl⟩, rfl⟩)))
  replace h := cnd_f hb20 h
  refine AW.skip ?_
  refine AW.seq ?_
  refine rg hx (by kernel_rfl) fun K hK => ?_
  refine s1 (d := dG c_Frame (⟨x3.1, x7.1, x11.1⟩ : S_Frame)) (T_ldA tb_23) ?_
  refine s0 (T_st (ds' := [dI .i64 x3.1, dI .i64 x7.1, dS x11.1]) tb_23) ?_
  refine s1 (d := dI .i64 (0 : Int)) T_asg ?_
  refine .nil (hK _ _ ?_)
  refine AW.ret ?_
  obtain rfl := Option.some.inj h
  exact RetV.mk2 (resD_a (es := (c_Frame.f (⟨x3.1, x7.1, x11.1⟩ : S_Frame)).map .e) rfl tb_23 rfl rfl (ltb rfl) (leb rfl) rfl (resD_t rfl (.inr ⟨_, _, (le_refl' _), (le_refl' _), ⟨rfl, rfl⟩, rfl⟩)))
theorem getE {α : Type} [Inhabited α] (l : List α) (i : Nat) (h : i < l.length) : l[((i : Int)).toNat]! = l[i] := by
  rw [Int.toNat_natCast, getElem!_pos l i h]
theorem G_Concat (l : List (List UInt8)) (hn : l.length ≤ 1000) (hl : (l.flatMap fun x => x).length ≤ 1000000) : g_slices_Concat_byte_byte (l.map B8) = some (B8 (l.flatMap fun x => x)) := by
  have hml : (l.map B8).length = l.length := List.length_map _
  have hget : ∀ i, i < l.length → (l.map B8)[((i : Int)).toNat]! = B8 (l[i]!) := fun i hi => by
    rw [getE _ _ (by rw [hml]; exact hi), List.getElem_map, getElem!_pos l i hi]
  have hpre : ∀ i, i < l.length → ((l.take (i + 1)).flatMap fun x => x) = ((l.take i).flatMap fun x => x) ++ l[i]! := fun i hi => by
    rw [take_flat (fun x : List UInt8 => x) l i hi, getElem!_pos l i hi]
  have hle : ∀ i, ((l.take i).flatMap fun x => x).length ≤ 1000000 := fun i => Nat.le_trans (flat_le (fun x : List UInt8 => x) l i) hl
  have h1 := loopO_up (b := g_slices_Concat_byte_byte_l9 (l.map B8)) (fun i => ((((l.take i).flatMap fun x => x).length : Int), (i : Int))) 0 l.length ((l.flatMap fun x => x).length : Int) (Nat.zero_le _) (fun i _ hi => by
    have h2 := hle (i + 1)
    rw [hpre i hi, List.length_append] at h2
    simp only [g_slices_Concat_byte_byte_l9]
    rw [cndT _ _ (by rw [hml]; omega), gd_pos (by rw [hml]; omega), hget i hi, bnd_eq, B8_len, w_id (by omega), cndF _ _ (by omega), w_id (by omega), hpre i hi, List.length_append]
    rfl) (by
    simp only [g_slices_Concat_byte_byte_l9]
    rw [cndF _ _ (by rw [hml]; omega), List.take_length])
  have h2 := list_up (enc1 := fun x : List UInt8 => x) (b := g_slices_Concat_byte_byte_l34 (l.map B8)) l [] (fun o i h ho => by
    simp only [g_slices_Concat_byte_byte_l34]
    rw [cndT _ _ (by rw [hml]; omega), gd_pos (by rw [hml]; omega), hget i h, getElem!_pos l i h, ← B8_app, gd_pos (by rw [B8_len, List.length_append]; simp only [List.length_nil] at ho; omega), w_id (by omega)]
    rfl) (fun o => by
    simp only [g_slices_Concat_byte_byte_l34]
    rw [cndF _ _ (by rw [hml]; omega)])
  have h1' : loopO (g_slices_Concat_byte_byte_l9 (l.map B8)) ((0 : Int), (0 : Int)) = some ((l.flatMap fun x => x).length : Int) := h1
  have h2' : loopO (g_slices_Concat_byte_byte_l34 (l.map B8)) (([] : List Int), (0 : Int)) = some (B8 (l.flatMap fun x => x)) := h2
  unfold g_slices_Concat_byte_byte g_slices_Grow_byte_byte
  rw [h1', bnd_eq, gd_pos (by omega), bnd_eq, h2', bnd_eq]
theorem G_rValid0 (a b : Int) (c : ByteArray) : g_ref42_Valid ⟨a, b, c⟩ = some (LFrame.okB ⟨a, b, c⟩) := by
  unfold g_ref42_Valid LFrame.okB shortB
  simp only [cnd_or, bnd_eq, bnd_id, cnd_nand]
  congr 1
  rw [Bool.eq_iff_iff]
  simp
  omega
def frB (f : S_Frame) : List UInt8 := encInt f.vSeq ++ encInt f.vAck ++ encBytes f.vData
def frOk (f : S_Frame) : Bool := LFrame.okB ⟨f.vSeq, f.vAck, f.vData⟩
def frE (f : S_Frame) : List Int := (digV (ofInput 42 [⟨(frB f).toArray⟩])).toList ++ B8 (frB f)
theorem frOk_b {f : S_Frame} (h : frOk f = true) : I64 f.vSeq ∧ I64 f.vAck ∧ f.vData.size ≤ 4096 := by
  unfold frOk LFrame.okB shortB at h
  simp only [Bool.and_eq_true, decide_eq_true_eq] at h
  obtain ⟨⟨⟨⟨⟨h1, h2⟩, h3⟩, h4⟩, h5⟩, h6⟩ := h
  exact ⟨⟨by omega, by omega⟩, ⟨by omega, by omega⟩, h5⟩
theorem frB_len {f : S_Frame} (h : frOk f = true) : 3 ≤ (frB f).length ∧ (frB f).length ≤ 5000 := by
  obtain ⟨h1, h2, h3⟩ := frOk_b h
  have a1 := encInt_len h1
  have a2 := encInt_len h2
  have a3 := encInt_len (i64_nat (k := f.vData.size) (by omega))
  have a4 := encBytes_len f.vData
  unfold frB
  rw [List.length_append, List.length_append]
  omega
theorem digV_len (l : List UInt8) : (digV l).toList.length = 16 := Vector.length_toList
theorem G_Encode (f : S_Frame) : g_link_Encode f = some (if frOk f = true then (frE f, 0) else ([], 3)) := by
  obtain ⟨a, b, c⟩ := f
  unfold g_link_Encode
  rw [G_valid0]
  simp only [bnd_eq]
  cases h : frOk ⟨a, b, c⟩ with
  | false => rw [show LFrame.okB ⟨a, b, c⟩ = false from h]; rfl
  | true =>
    rw [show LFrame.okB ⟨a, b, c⟩ = true from h, show (!true) = false from rfl, cnd_false]
    obtain ⟨h1, h2, h3⟩ := frOk_b h
    have h1 : I64 a := h1
    have h2 : I64 b := h2
    have h3 : c.size ≤ 4096 := h3
    have hl := frB_len h
    have hd := digV_len (ofInput 42 [⟨(frB ⟨a, b, c⟩).toArray⟩])
    rw [G_Int h1, G_Int h2, G_Bytes (by omega)]
    simp only [bnd_eq]
    have hc := G_Concat [encInt a, encInt b, encBytes c] (by simp) (by
      show ((encInt a) ++ ((encInt b) ++ ((encBytes c) ++ []))).length ≤ _
      have : (encInt a ++ encInt b ++ encBytes c).length ≤ 5000 := hl.2
      simp only [List.length_append, List.length_nil] at this ⊢
      omega)
    rw [show (([encInt a, encInt b, encBytes c].flatMap fun x => x)) = frB ⟨a, b, c⟩ by show (encInt a) ++ ((encInt b) ++ ((encBytes c) ++ [])) = encInt a ++ encInt b ++ encBytes c; rw [List.append_nil, List.append_assoc]] at hc
    rw [show [B8 (encInt a), B8 (encInt b), B8 (encBytes c)] = [encInt a, encInt b, encBytes c].map B8 from rfl, hc]
    simp only [bnd_eq]
    unfold g_hash_Of
    rw [bStr_B8, gd_pos (by omega), gd_pos (by
      unfold hashB
      rw [Bool.and_eq_true]
      refine ⟨rfl, ?_⟩
      simp only [List.all_cons, List.all_nil, Bool.and_true]
      exact decide_eq_true (by show (frB ⟨a, b, c⟩).length ≤ _; omega))]
    simp only [bnd_eq]
    rw [cndT _ _ (by rw [B8_len]; omega), gd_pos (by rw [List.length_append, hd, B8_len]; omega)]
    rfl
theorem G_rEncode (f : S_Frame) : g_ref42_Encode f = some (if frOk f = true then ⟨frE f, 0⟩ else ⟨[], 3⟩) := by
  obtain ⟨a, b, c⟩ := f
  unfold g_ref42_Encode
  rw [G_rValid0]
  simp only [bnd_eq]
  cases h : frOk ⟨a, b, c⟩ with
  | false => rw [show LFrame.okB ⟨a, b, c⟩ = false from h]; rfl
  | true =>
    rw [show LFrame.okB ⟨a, b, c⟩ = true from h, show (!true) = false from rfl, cnd_false]
    obtain ⟨h1, h2, h3⟩ := frOk_b h
    have h1 : I64 a := h1
    have h2 : I64 b := h2
    have h3 : c.size ≤ 4096 := h3
    have hl := frB_len h
    have hd := digV_len (ofInput 42 [⟨(frB ⟨a, b, c⟩).toArray⟩])
    have hb : (encInt a ++ encInt b ++ encBytes c).length ≤ 5000 := hl.2
    rw [G_rInt h1, G_rInt h2, G_rBytes (by omega)]
    simp only [bnd_eq]
    rw [← B8_app, ← B8_app, show encInt a ++ encInt b ++ encBytes c = frB ⟨a, b, c⟩ from rfl, gd_pos (by
      simp only [List.length_append] at hb
      rw [B8_len, List.length_append]; omega), gd_pos (by rw [B8_len]; omega)]
    unfold g_ref02_Of
    rw [bStr_B8, gd_pos (by
      unfold hashB
      rw [Bool.and_eq_true]
      refine ⟨rfl, ?_⟩
      simp only [List.all_cons, List.all_nil, Bool.and_true]
      exact decide_eq_true (by show (frB ⟨a, b, c⟩).length ≤ _; omega))]
    simp only [bnd_eq]
    rw [cndT _ _ (by rw [B8_len]; omega), gd_pos (by rw [List.length_append, hd, B8_len]; omega)]
    rfl
end Go.Proofs.YtakbadleipbngaaDoor
