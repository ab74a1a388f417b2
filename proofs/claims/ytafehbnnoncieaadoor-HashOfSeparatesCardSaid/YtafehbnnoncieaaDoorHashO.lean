/-
  The hash of 256 bits: the specification's padding. Conditions: none.
-/
import Derived.Test.YtafehbnnoncieaaDoorHashK
import Derived.Test.YtafehbnnoncieaaDoorWireB
namespace Go.Proofs.YtafehbnnoncieaaDoor
open Go.RowKit
theorem own_empty (w : World) (e : TypeId) (base size : Nat) (hb : base ≤ w.heap.size) : (w.alloc (.cells #[] e)).ownsRow base e size (.slice (some ⟨w.heap.size, 0, none⟩) 0 0) 0 [] :=
  ⟨by simp, .inr ⟨w.heap.size, 0, #[], rfl, hb, heap_alloc_new w _, Nat.le_refl _, by decide, by simp, by simp⟩⟩

set_option maxHeartbeats 1000000 in
set_option maxRecDepth 100000 in
theorem ref_padded (l : List UInt8) (x : Value) (w : World) (hl : Sl w x 1 l.length (l.map bv)) (hb : l.length ≤ 100000000000000) :
    Calls Tryd.prog 44 #[x] w (Made (Sha.pad l) w) := by
  have hown0 := own_empty w 5 w.heap.size 1 (Nat.le_refl _)
  have hl0 := hl.alloc (.cells #[] 5)
  have hB0 := (Below.refl w.heap.size w).alloc (Nat.le_refl _) (.cells #[] 5)
  obtain ⟨A, c, hx, _, _, _⟩ := id hl
  subst hx
  obtain ⟨n, hn⟩ : ∃ n, n = l.length := ⟨_, rfl⟩
  have HN := Lib.hid hn
  rw [← hn] at hl0 hb hl ⊢
  clear hn
  go_enter Tryd.func44, Tryd.ntmps44
  go_wp2_with (at_builtin; refine wpList_append_all _ rfl _ _ _ rfl elBytes w.heap.size _ _ _ rfl hown0 _ _ _ rfl hl0 (bvs_one l) (by omega) (by omega) (by simp) w w.heap.size hB0 (Nat.le_refl _) ?_)
  intro v1 w1 hown1 hb1
  clear hown0 hl0 hB0
  go_wp2_with (at_builtin; refine wpList_append_one _ rfl _ _ _ rfl elBytes w.heap.size _ _ _ rfl hown1 _ rfl rfl (by omega) (by omega) hb1.size w w.heap.size hb1 (Nat.le_refl _) ?_)
  intro v2 w2 hown2 hb2
  clear hown1 hb1
  have hown3 : w2.ownsRow w.heap.size 5 1 v2 (n + 1 + 0) ((l ++ 128 :: List.replicate 0 0).map bv) := by simpa [bv] using hown2
  clear hown2
  go_wp2_with fail
  go_loopw [3] (fun u3 wr => ∃ j : Nat, j ≤ Sha.zeros n ∧ wr.ownsRow w.heap.size 5 1 u3 (n + 1 + j) ((l ++ 128 :: List.replicate j 0).map bv) ∧ Below w.heap.size w wr)
    (fun u3 _ => match u3 with | .slice _ len _ => n + 65 - len | _ => 0)
  case atStart => exact ⟨0, Nat.zero_le _, hown3, hb2⟩
  case round =>
    clear hown3 hb2 
    obtain ⟨j, hj, hown, hB⟩ := hrel
    have hzl := Sha.zeros_lt n
    have hzt := Sha.zeros_test n j hj
    obtain ⟨g, cap, rfl, _, _⟩ := hown.form (by omega)
    by_cases hjz : j = Sha.zeros n
    · have ht : (((n : Int) + 1 + (j : Int)) % 64 != 56) = false := by
        have := hzt.2 hjz
        rw [bne_eq_false_iff_eq]; omega
      clear hzt
      subst hjz
      generalize hz : Sha.zeros n = z at *
      have HZ := Lib.hid hz
      clear hz
      go_wp2_with fail
      have hown1 : wr.ownsRow w.heap.size 5 1 (.slice (some ⟨g, 0, none⟩) (n + 1 + z) cap) (n + 1 + z + 0) ((l ++ 128 :: List.replicate z 0 ++ (Sha.len8 (8 * n)).take 0).map bv) := by simpa using hown
      obtain ⟨wo, rfl⟩ : ∃ wo : World, wo = wr := ⟨_, rfl⟩
      go_loopw [3, 5] (fun u3 u5 wi => ∃ i : Nat, i ≤ 8 ∧ u5 = .int .i64 i ∧ wi.ownsRow w.heap.size 5 1 u3 (n + 1 + z + i) ((l ++ 128 :: List.replicate z 0 ++ (Sha.len8 (8 * n)).take i).map bv) ∧ Below w.heap.size w wi)
        (fun _ u5 _ => 8 - (intOf u5).toNat)
      case atStart => exact ⟨0, by omega, rfl, hown1, hB⟩
      case round =>
        clear hown1 hown hB
        obtain ⟨i, hi, rfl, hown, hB⟩ := hrel
        by_cases hi8 : i < 8
        · go_wp2_with (at_builtin; refine wpList_append_one _ rfl _ _ _ rfl elBytes w.heap.size _ _ _ rfl hown _ rfl rfl (by omega) (by omega) hB.size w w.heap.size hB (Nat.le_refl _) ?_)
          intro v' w' hown' hb'
          have hown2 : w'.ownsRow w.heap.size 5 1 v' (n + 1 + z + (i + 1)) ((l ++ 128 :: List.replicate z 0 ++ (Sha.len8 (8 * n)).take (i + 1)).map bv) := by
            rw [len8_val] at hown'
            have e : (l ++ 128 :: List.replicate z 0 ++ (Sha.len8 (8 * n)).take (i + 1)).map bv = (l ++ 128 :: List.replicate z 0 ++ (Sha.len8 (8 * n)).take i).map bv ++ [bv (UInt8.ofNat ((8 * n) >>> (56 - 8 * i) % 256))] := by
              rw [len8_snoc _ _ hi8]; simp [List.map_take]
            rw [e]; simp only [List.map_append, List.map_cons, List.map_replicate, List.map_take, List.append_assoc, List.cons_append] at hown' ⊢; exact hown'
          clear hown hown' hB
          go_wp2_with fail
          go_roundw
          case rel => exact ⟨i + 1, by omega, by go_num, hown2, hb'⟩
          case measure => go_light; simp [intOf]; omega
        · obtain rfl : i = 8 := by omega
          have hpl : l ++ 128 :: List.replicate z 0 ++ (Sha.len8 (8 * n)).take 8 = Sha.pad l := by
            unfold Sha.pad
            rw [← HN.out, HZ.out, Nat.mod_eq_of_lt (by omega), List.take_of_length_le (by simp [Sha.len8])]; simp
          rw [hpl] at hown
          have hlen : n + 1 + z + 8 = (Sha.pad l).length := by
            have := hown.1; rw [List.length_map] at this; omega
          rw [hlen] at hown
          clear hpl hlen
          go_wp2_with fail
          go_ret
          exact ⟨_, rfl, hown, hB⟩
    · have ht : (((n : Int) + 1 + (j : Int)) % 64 != 56) = true := by
        have := fun h => hjz (hzt.1 h)
        rw [bne_iff_ne]; intro h; exact this (by omega)
      clear hzt
      go_wp2_with (at_builtin; refine wpList_append_one _ rfl _ _ _ rfl elBytes w.heap.size _ _ _ rfl hown _ rfl rfl (by omega) (by omega) hB.size w w.heap.size hB (Nat.le_refl _) ?_)
      intro v' w' hown' hb'
      obtain ⟨g', cap', rfl, _, _⟩ := hown'.form (by omega)
      have hown2 : w'.ownsRow w.heap.size 5 1 (.slice (some ⟨g', 0, none⟩) (n + 1 + j + 1) cap') (n + 1 + (j + 1)) ((l ++ 128 :: List.replicate (j + 1) 0).map bv) := by
        have e : (l ++ 128 :: List.replicate (j + 1) (0 : UInt8)).map bv = (l ++ 128 :: List.replicate j 0).map bv ++ [Value.int .u8 0] := by
          rw [List.replicate_succ']; simp [bv]
        rw [e]; simp only [List.map_append, List.map_cons, List.map_replicate, List.append_assoc, List.cons_append] at hown' ⊢; exact hown'
      clear hown hown' hB
      go_wp2_with fail
      go_roundw
      case rel => exact ⟨j + 1, by omega, hown2, hb'⟩
      case measure => go_light; simp; omega
end Go.Proofs.YtafehbnnoncieaaDoor
