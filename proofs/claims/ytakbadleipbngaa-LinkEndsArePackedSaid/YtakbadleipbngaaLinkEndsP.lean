/-
  LinkEndsArePacked in plain terms. Conditions: none.
-/
import Derived.Test.YtakbadleipbngaaLinkY
import Derived.Test.YtakbadleipbngaaGE
set_option linter.all false
namespace Go.Proofs.Ytakbadleipbngaa
open Go.RowKit
theorem G_bSame (a : List Int) : g_ref01_Same a a = some true := by
  unfold g_ref01_Same
  rw [decide_eq_true rfl]
theorem zero_same : g_ref42_Same ⟨0, [], 0, []⟩ ⟨0, [], 0, []⟩ = some true := G_same ⟨0, [], 0, []⟩ (by simp) (by simp)
theorem ends_tail (l : List UInt8) (hl : l.length ≤ 20000) : (bnd (g_link_Unpack (B8 l)) fun x33 => cnd (decide (x33.2 ≠ (0 : Int))) (bnd (S := Bool) (bnd (g_law42_sanity) fun x36 => cnd x36 (cnd (decide (x33.2 = (11 : Int))) (bnd (g_ref42_Same x33.1 (⟨(0 : Int), ([] : List ByteArray), (0 : Int), ([] : List S_Held)⟩ : S_End)) fun x40 => some (x40)) (some (false))) (some (false))) fun a46_0 => some a46_0) (bnd (g_ref42_Pack x33.1) fun x43 => bnd (S := Bool) (bnd (g_law42_sanity) fun x45 => cnd x45 (cnd (decide (x43.vE = (0 : Int))) (bnd (g_ref01_Same x43.vB (B8 l)) fun x49 => some (x49)) (some (false))) (some (false))) fun a52_0 => some a52_0)) = some true := by
  rw [G_Unpack l (by omega), bnd_eq]
  cases hu : unpack l with
  | none =>
    dsimp only
    rw [cndT _ _ (by decide), G_sanity, bnd_eq, cnd_true, cndT _ _ rfl, zero_same]
    rfl
  | some y =>
    obtain ⟨hy, hp⟩ := unpack_canon hu
    dsimp only
    rw [cndF _ _ (fun h => h rfl), G_rPack y hy.mach, if_pos ((LEnd.okB_iff y).2 hy), bnd_eq, G_sanity, bnd_eq, cnd_true, cndT _ _ rfl, hp, G_bSame]
    rfl
theorem G_ends (x : S_End) (b : List Int) (hm : (toL x).Mach) (hb : ∀ n ∈ b, 0 ≤ n ∧ n ≤ 255) : g_law42_LinkEndsArePacked x b = some true := by
  obtain ⟨l, rfl⟩ := B8_of hb
  obtain ⟨y, rfl⟩ : ∃ y, x = ofL y := ⟨toL x, (ofL_toL x).symm⟩
  rw [toL_ofL] at hm
  obtain ⟨f, hf, hf1⟩ := G_Few y hm
  have hc : ∃ c, (cnd (!f) (bnd (g_ref42_Check (ofL y)) fun x4 => cnd (decide (x4 = (0 : Int))) (some (true)) (cnd (decide ((20000 : Int) < ((B8 l).length : Int))) (some (true)) (cnd (decide ((100 : Int) < (((ofL y).vQueue).length : Int))) (some (true)) (some (decide ((100 : Int) < (((ofL y).vHeld).length : Int))))))) (cnd (decide ((20000 : Int) < ((B8 l).length : Int))) (some (true)) (cnd (decide ((100 : Int) < (((ofL y).vQueue).length : Int))) (some (true)) (some (decide ((100 : Int) < (((ofL y).vHeld).length : Int))))))) = some c ∧ (c = false → l.length ≤ 20000) := by
    have hk : ∀ d : Bool, (cnd (decide ((20000 : Int) < ((B8 l).length : Int))) (some (true)) (cnd (decide ((100 : Int) < (((ofL y).vQueue).length : Int))) (some (true)) (some d))) = some (decide ((20000 : Int) < ((B8 l).length : Int)) || (decide ((100 : Int) < (((ofL y).vQueue).length : Int)) || d)) := fun d => by rw [cnd_or, cnd_or]
    have hk2 : ∀ d : Bool, (decide ((20000 : Int) < ((B8 l).length : Int)) || d) = false → l.length ≤ 20000 := fun d h => by
      rw [Bool.or_eq_false_iff] at h
      have := of_decide_eq_false h.1
      rw [B8_len] at this
      omega
    rw [hk]
    cases f
    · rw [Bool.not_false, cnd_true, G_rCheck y hm, bnd_eq, cnd_or]
      refine ⟨_, rfl, fun h => ?_⟩
      rw [Bool.or_eq_false_iff] at h
      exact hk2 _ h.2
    · rw [Bool.not_true, cnd_false]
      exact ⟨_, rfl, fun h => hk2 _ h⟩
  obtain ⟨c, hc1, hc2⟩ := hc
  unfold g_law42_LinkEndsArePacked
  rw [hf, bnd_eq, hc1, bnd_eq]
  cases c
  · have hl := hc2 rfl
    rw [cnd_false, G_Pack y hm, bnd_eq, G_rPack y hm, bnd_eq]
    cases hb : y.okB
    · rw [if_neg (by decide), if_neg (by decide)]
      dsimp only
      rw [cndF _ _ (fun h => h rfl), G_bSame, bnd_eq, bnd_eq, Bool.not_true, cnd_false, cndF _ _ (by decide), bnd_eq]
      exact ends_tail l hl
    · have hy := (LEnd.okB_iff y).1 hb
      have hpl := pack_lens hy.pk
      rw [if_pos rfl, if_pos rfl]
      dsimp only
      rw [cndF _ _ (fun h => h rfl), G_bSame, bnd_eq, bnd_eq, Bool.not_true, cnd_false, cndT _ _ rfl, G_Unpack y.pack (by unfold LEnd.pack; simp only [List.length_append]; omega), unpack_pack hy, bnd_eq]
      dsimp only
      rw [cndF _ _ (fun h => h rfl), G_same (ofL y) (by show y.queue.length ≤ _; have := hy.ql; omega) (by show (y.held.map ofH).length ≤ _; rw [List.length_map]; have := hy.held_len; omega), bnd_eq, bnd_eq, Bool.not_true, cnd_false, bnd_eq]
      exact ends_tail l hl
  · rw [cnd_true, G_sanity]; rfl
end Go.Proofs.Ytakbadleipbngaa
