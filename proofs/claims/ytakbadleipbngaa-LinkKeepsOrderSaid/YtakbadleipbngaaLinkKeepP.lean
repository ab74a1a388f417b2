/-
  LinkKeepsOrder in plain terms. Conditions: none.
-/
import Derived.Test.YtakbadleipbngaaLinkKS
import Derived.Test.YtakbadleipbngaaGD2
set_option linter.all false
namespace Go.Proofs.Ytakbadleipbngaa
open Go.RowKit
theorem G_prefix (b : List ByteArray) (n : Nat) (hn : n ≤ b.length) (hb : n ≤ 1000000) : g_law42_prefix (b.take n) b = some true := by
  have hl : (b.take n).length = n := by rw [List.length_take, Nat.min_eq_left hn]
  have hs : subL b (0 : Int) ((b.take n).length : Int) = b.take n := by rw [subL_to _ _ (by omega), Int.toNat_natCast, hl]
  unfold g_law42_prefix
  rw [hs, cndT _ _ (by rw [hl]; omega), gd_pos (by rw [hl]; omega), G_sameTexts _ (by rw [hl]; exact hb)]
  rfl
theorem G_keeps (l : List S_Op) (hw : ∀ o ∈ l, o.Wt) : g_law42_LinkKeepsOrder l = some true := by
  unfold g_law42_LinkKeepsOrder
  rw [G_sanity, cnd_dec]
  by_cases hl : l.length ≤ 300
  · rw [if_neg (by omega)]
    obtain ⟨p, q, h1, h2⟩ := G_run l hw hl
    obtain ⟨l1, l2, l3, l4⟩ := h2.lens
    have f1 : g_law42_prefix p.got q.oldS = some true := by
      have := h2.b.2.rx
      rw [this.g]
      exact G_prefix _ _ this.w2 (by have := this.w2; omega)
    have f2 : g_law42_prefix q.got p.oldS = some true := by
      have := h2.b.1.rx
      rw [this.g]
      exact G_prefix _ _ this.w2 (by have := this.w2; omega)
    rw [h1, bnd_eq, bnd_eq, cnd_true, cnd_true]
    show bnd (bnd (g_law42_prefix p.got q.oldS) _) _ = _
    rw [f1, bnd_eq, cnd_true]
    show bnd (bnd (g_law42_prefix q.got p.oldS) _) _ = _
    rw [f2, bnd_eq, cnd_true]
    show bnd (bnd (g_link_Check (ofL p.x)) _) _ = _
    rw [G_CheckOk h2.p.x, bnd_eq, cndT _ _ rfl]
    show bnd (bnd (g_link_Check (ofL q.x)) _) _ = _
    rw [G_CheckOk h2.q.x, bnd_eq]
    rfl
  · rw [if_pos (by omega)]
    rfl
end Go.Proofs.Ytakbadleipbngaa
