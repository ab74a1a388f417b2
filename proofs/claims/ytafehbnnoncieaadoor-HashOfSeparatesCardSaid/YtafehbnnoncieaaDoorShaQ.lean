/-
  The hash of 256 bits, in plain words: streams. Conditions: none.
-/
import Derived.Test.YtafehbnnoncieaaDoorShaP
namespace Go.Proofs.YtafehbnnoncieaaDoor
namespace Sha
theorem feed_prefix : ∀ (q : Nat) (s : St) (l x : List UInt8), 64 * q ≤ l.length → feed q s (l ++ x) = feed q s l
  | 0, _, _, _, _ => rfl
  | q + 1, s, l, x, h => by
    simp only [feed]
    rw [List.take_append_of_le_length (by omega), List.drop_append_of_le_length (by omega)]
    exact feed_prefix q _ _ _ (by rw [List.length_drop]; omega)
theorem feed_last : ∀ (q : Nat) (s : St) (l : List UInt8), feed (q + 1) s l = compress (feed q s l) ((l.drop (64 * q)).take 64)
  | 0, _, _ => by simp [feed]
  | q + 1, s, l => by
    have h := feed_last q (compress s (l.take 64)) (l.drop 64)
    simp only [feed] at h ⊢
    rw [h, List.drop_drop]
    congr 3
    omega
/-- The block of a stream when k more bytes have been copied in. -/
def blkIn (blk : List UInt8) (at_ : Nat) (x : List UInt8) : List UInt8 := blk.take at_ ++ x ++ blk.drop (at_ + x.length)
theorem blkIn_length (blk : List UInt8) (a : Nat) (x : List UInt8) (h : blk.length = 64) (hx : a + x.length ≤ 64) : (blkIn blk a x).length = 64 := by
  unfold blkIn; simp; omega
theorem blkIn_take (blk m x : List UInt8) (hb : blk.take (m.length % 64) = m.drop (64 * (m.length / 64))) :
    (blkIn blk (m.length % 64) x).take (m.length % 64 + x.length) = (m ++ x).drop (64 * (m.length / 64)) := by
  unfold blkIn
  rw [hb, List.drop_append_of_le_length (by omega), List.take_append_of_le_length (by simp; omega), List.take_of_length_le (by simp; omega)]
/-- Fewer bytes than fill the block. -/
theorem step_part (blk m x : List UInt8) (_h : blk.length = 64) (hx : m.length % 64 + x.length < 64) (hb : blk.take (m.length % 64) = m.drop (64 * (m.length / 64))) :
    feed ((m ++ x).length / 64) init (m ++ x) = feed (m.length / 64) init m ∧ (blkIn blk (m.length % 64) x).take ((m ++ x).length % 64) = (m ++ x).drop (64 * ((m ++ x).length / 64)) := by
  have hq : (m ++ x).length / 64 = m.length / 64 := by rw [List.length_append]; omega
  have hr : (m ++ x).length % 64 = m.length % 64 + x.length := by rw [List.length_append]; omega
  rw [hq, hr]
  exact ⟨feed_prefix _ _ _ _ (by omega), blkIn_take blk m x hb⟩
/-- Just as many as fill it. -/
theorem step_full (blk m x : List UInt8) (h : blk.length = 64) (hx : m.length % 64 + x.length = 64) (hb : blk.take (m.length % 64) = m.drop (64 * (m.length / 64))) :
    feed ((m ++ x).length / 64) init (m ++ x) = compress (feed (m.length / 64) init m) (blkIn blk (m.length % 64) x) ∧ (blkIn blk (m.length % 64) x).take ((m ++ x).length % 64) = (m ++ x).drop (64 * ((m ++ x).length / 64)) := by
  have hq : (m ++ x).length / 64 = m.length / 64 + 1 := by rw [List.length_append]; omega
  have hr : (m ++ x).length % 64 = 0 := by rw [List.length_append]; omega
  have hb2 := blkIn_take blk m x hb
  have hl := blkIn_length blk (m.length % 64) x h (by omega)
  rw [hq, hr]
  refine ⟨?_, ?_⟩
  · rw [feed_last, feed_prefix _ _ _ _ (by omega), ← hb2, hx, List.take_take, Nat.min_self, List.take_of_length_le (by omega)]
  · rw [List.drop_of_length_le (by rw [List.length_append]; omega)]; rfl
end Sha
end Go.Proofs.YtafehbnnoncieaaDoor
