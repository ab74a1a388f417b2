/-
  layer 42: what the functions compute, in plain terms. Conditions: none.
-/
import Derived.Test.YtakbadleipbngaaGS
set_option linter.all false
namespace Go.Proofs.Ytakbadleipbngaa
open Go.RowKit
theorem loopO_inv {S X : Type} {b : S → Option (S ⊕ X)} (Inv : S → Prop) (μ : S → Nat) (Post : X → Prop) (h : ∀ s, Inv s → (∃ s', b s = some (.inl s') ∧ Inv s' ∧ μ s' < μ s) ∨ ∃ x, b s = some (.inr x) ∧ Post x) (s : S) (hs : Inv s) : ∃ x, loopO b s = some x ∧ Post x := by
  generalize hm : μ s = m
  induction m using Nat.strongRecOn generalizing s with
  | _ m ih =>
    rcases h s hs with ⟨s', h1, h2, h3⟩ | ⟨x, h1, h2⟩
    · obtain ⟨x, h4, h5⟩ := ih (μ s') (by omega) s' h2 rfl
      exact ⟨x, (loopO_inl h1).trans h4, h5⟩
    · exact ⟨x, loopO_inr h1, h2⟩
def e0 : LEnd := ⟨1, [], 1, []⟩
theorem e0_ok : e0.Ok := by
  constructor <;> simp [e0, Grows]
theorem G_New : g_link_New = some (ofL e0) := rfl
theorem getE {α : Type} [Inhabited α] (l : List α) (i : Nat) (h : i < l.length) : l[((i : Int)).toNat]! = l[i] := by
  rw [Int.toNat_natCast, getElem!_pos l i h]
theorem G_sameTexts (l : List ByteArray) (hl : l.length ≤ 1000000) : g_ref01_SameTexts l l = some true := by
  unfold g_ref01_SameTexts
  rw [cnd_neg _ _ (by simp)]
  have := loopO_up (b := g_ref01_SameTexts_l15 l l) (fun i => (i : Int)) 0 l.length (.inr ()) (Nat.zero_le _) (fun i _ hi => by
    simp (disch := omega) only [g_ref01_SameTexts_l15, cnd_dec, if_pos, gd_pos, ne_eq, not_true_eq_false, if_false, w_id]
    rfl) (by simp (disch := omega) only [g_ref01_SameTexts_l15, cnd_dec, if_neg])
  exact (bnd_of this _).trans rfl
theorem G_sameFrames (l : List S_Frame) (hl : l.length ≤ 1000000) : g_ref42_SameFrames l l = some true := by
  unfold g_ref42_SameFrames
  rw [cnd_neg _ _ (by simp)]
  have := loopO_up (b := g_ref42_SameFrames_l15 l l) (fun i => (i : Int)) 0 l.length (.inr ()) (Nat.zero_le _) (fun i _ hi => by
    simp (disch := omega) only [g_ref42_SameFrames_l15, cnd_dec, if_pos, gd_pos, not_true_eq_false, if_false, w_id]
    rfl) (by simp (disch := omega) only [g_ref42_SameFrames_l15, cnd_dec, if_neg])
  exact (bnd_of this _).trans rfl
theorem G_same (x : S_End) (hq : x.vQueue.length ≤ 1000000) (hl : x.vHeld.length ≤ 1000000) : g_ref42_Same x x = some true := by
  unfold g_ref42_Same
  have := loopO_up (b := g_ref42_Same_l15 x x) (fun i => (i : Int)) 0 x.vHeld.length (.inr ()) (Nat.zero_le _) (fun i _ hi => by
    simp (disch := omega) only [g_ref42_Same_l15, cnd_dec, if_pos, gd_pos, not_true_eq_false, if_false, w_id]
    rfl) (by simp (disch := omega) only [g_ref42_Same_l15, cnd_dec, if_neg])
  simp only [cnd_dec, ne_eq, not_true_eq_false, if_false, G_sameTexts _ hq, bnd_eq, Bool.not_true, cnd_false, decide_false]
  exact (bnd_of this _).trans rfl
def sendE (x : LEnd) (s : ByteArray) : LEnd × Int := if 4096 < s.size then (x, 2) else if 64 ≤ x.queue.length then (x, 432) else (x.send s, 0)
theorem G_Send {x : LEnd} (h : x.Ok) (s : ByteArray) : g_link_Send (ofL x) s = some (ofL (sendE x s).1, (sendE x s).2) := by
  have hq := h.ql
  unfold g_link_Send sendE
  rw [G_short]
  simp only [bnd_eq, shortB]
  by_cases h1 : 4096 < s.size
  · rw [cnd_pos _ _ (by simp; omega), if_pos h1]
  · rw [cnd_neg _ _ (by simp; omega), if_neg h1, cnd_dec]
    by_cases h2 : 64 ≤ x.queue.length
    · rw [if_pos (by show (64 : Int) ≤ (x.queue.length : Int); omega), if_pos h2]
    · rw [if_neg (by show ¬ (64 : Int) ≤ (x.queue.length : Int); omega), if_neg h2]
      unfold g_slices_Clone_string_string
      rw [gd_pos (by show x.queue.length ≤ _; omega), bnd_eq, gd_pos (by show (x.queue ++ [s]).length * 16 ≤ _; simp; omega)]
      rfl
theorem sendE_ok {x : LEnd} (h : x.Ok) (s : ByteArray) : (sendE x s).1.Ok ∧ (sendE x s).1.want = x.want := by
  unfold sendE
  split
  · exact ⟨h, rfl⟩
  · split
    · exact ⟨h, rfl⟩
    · refine ⟨⟨h.b1, h.b2, h.w1, h.w2, ?_, ?_, h.hg, h.ho⟩, rfl⟩
      · show (x.queue ++ [s]).length ≤ 64
        simp; omega
      · intro t ht
        rcases List.mem_append.1 ht with ht | ht
        · exact h.qs t ht
        · obtain rfl := List.mem_singleton.1 ht
          omega
theorem G_Idle (x : LEnd) : g_link_Idle (ofL x) = some (decide (x.queue.length = 0)) := by
  unfold g_link_Idle
  congr 1
  exact decide_eq_decide.2 (by show ((x.queue.length : Int)) = 0 ↔ _; omega)
theorem frames_take (x : LEnd) (h : x.queue.length ≠ 0) : x.frames = (List.range (min x.queue.length 8)).map fun k => x.frameAt k := by
  unfold LEnd.frames LEnd.frameAt
  rw [if_neg h]
  refine List.ext_getElem? fun k => ?_
  rw [List.getElem?_map, List.getElem?_map, List.getElem?_zipIdx, List.getElem?_take]
  by_cases hk : k < min x.queue.length 8
  · rw [if_pos (by omega), List.getElem?_range hk, List.getElem?_eq_getElem (by omega)]
    simp [List.getD, List.getElem?_eq_getElem (show k < x.queue.length by omega)]
  · rw [List.getElem?_eq_none (l := List.range _) (by simp; omega)]
    by_cases h8 : k < 8
    · rw [if_pos h8, List.getElem?_eq_none (by omega)]; rfl
    · rw [if_neg h8]; rfl
theorem frames_len (x : LEnd) : x.frames.length ≤ 8 := by
  by_cases h : x.queue.length = 0
  · unfold LEnd.frames; rw [if_pos h]; simp
  · rw [frames_take x h]; simp; omega
theorem G_Frames {x : LEnd} (h : x.Ok) : g_link_Frames (ofL x) = some (x.frames.map ofF) := by
  have hq := h.ql; have hb := h.b1; have hb2 := h.b2
  unfold g_link_Frames
  rw [G_Idle, bnd_eq, cnd_dec]
  by_cases h0 : x.queue.length = 0
  · rw [if_pos h0]; unfold LEnd.frames; rw [if_pos h0]; rfl
  · rw [if_neg h0, frames_take x h0]
    have hm : min ((ofL x).vQueue.length : Int) 8 = ((min x.queue.length 8 : Nat) : Int) := by show min ((x.queue.length : Nat) : Int) 8 = _; omega
    have hsub : (subL (ofL x).vQueue 0 (min ((ofL x).vQueue.length : Int) 8)) = x.queue.take (min x.queue.length 8) := by
      rw [hm]; show subL x.queue 0 _ = _
      rw [subL_to _ _ (by omega), Int.toNat_natCast]
    have hlen : (x.queue.take (min x.queue.length 8)).length = min x.queue.length 8 := by rw [List.length_take]; omega
    have := loopO_up (b := g_link_Frames_l17 (ofL x)) (fun i => ((List.range i).map fun k => ofF (x.frameAt k), (i : Int))) 0 (min x.queue.length 8) (((List.range (min x.queue.length 8)).map fun k => ofF (x.frameAt k))) (Nat.zero_le _) (fun i _ hi => by
        simp (disch := omega) only [g_link_Frames_l17, hsub, hlen, cnd_dec, if_pos, gd_pos, bnd_eq]
        rw [gd_pos (by simp; omega), w_id (z := (i : Int) + 1) (by omega), w_id (by show _ ≤ x.base + _ ∧ x.base + _ ≤ _; omega), List.range_succ, List.map_append, List.map_cons, List.map_nil, getE _ _ (by omega), List.getElem_take]
        congr 3
        simp only [ofF, LEnd.frameAt, List.getD, List.getElem?_eq_getElem (show i < x.queue.length by omega)]
        rfl) (by simp (disch := omega) only [g_link_Frames_l17, hsub, hlen, cnd_dec, if_neg])
    rw [gd_pos (by rw [hm]; show 0 ≤ (0 : Int) ∧ _ ∧ _ ≤ ((x.queue.length : Nat) : Int); omega)]
    refine (bnd_of this _).trans ?_
    rw [List.map_map]; rfl
theorem receive_count (x : LEnd) (f : LFrame) (h : x.Ok) : ((x.receive f).2.length : Int) + x.want = (x.receive f).1.want := by
  unfold LEnd.receive
  split
  · have hw : ((x.acked f).holds f).want = x.want := by
      unfold LEnd.holds LEnd.acked
      split <;> split <;> rfl
    rw [← hw]
    generalize (x.acked f).holds f = y
    unfold LEnd.gives
    split
    · have := runLen_le (y.want + 1) y.held
      simp only [List.length_cons, List.length_map, List.length_take]
      rw [Nat.min_eq_left this]
      omega
    · simp
  · simp
theorem receive_len (x : LEnd) (f : LFrame) (h : x.Ok) : (x.receive f).2.length ≤ 8 := by
  unfold LEnd.receive
  split
  · rename_i hok
    have hY := ((h.acked f).holds (LFrame.okB_data hok)).held_len
    generalize (x.acked f).holds f = y at hY
    unfold LEnd.gives
    split
    · have := runLen_le (y.want + 1) y.held
      simp only [List.length_cons, List.length_map, List.length_take]
      omega
    · simp
  · simp
end Go.Proofs.Ytakbadleipbngaa
