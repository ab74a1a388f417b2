/-
  layer 42: what the functions compute, in plain terms. Conditions: none.
-/
import Derived.Test.YtakbadleipbngaaGS
set_option linter.all false
namespace Go.Proofs.Ytakbadleipbngaa
open Go.RowKit
theorem loopO_inv {S X : Type} {b : S → Option (S ⊕ X)} (Inv : S → Prop) (μ : S → Nat) (Post : X → Prop) (h : ∀ s, Inv s → (∃ s', b s = some (.inl s') ∧ Inv s' ∧ μ s' < μ s) ∨ ∃ x, b s = some (.inr x) ∧ Post x) (s : S) (hs : Inv s) : ∃ x, loopO b s = some x ∧ Post x := by
  generalize hm : μ s = m
  induction m using Nat.strongRecOn generalizing s with
  | _ m ih =>
    rcases h s hs with ⟨s', h1, h2, h3⟩ | ⟨x, h1, h2⟩
    · obtain ⟨x, h4, h5⟩ := ih (μ s') (by omega) s' h2 rfl
      exact ⟨x, (loopO_inl h1).trans h4, h5⟩
    · exact ⟨x, loopO_inr h1, h2⟩
def e0 : LEnd := ⟨1, [], 1, []⟩
theorem e0_ok : e0.Ok := by
  constructor <;> simp [e0, Grows]
theorem G_New : g_link_New = some (ofL e0) := rfl
theorem G_rNew : g_ref42_New = some (ofL e0) := rfl
theorem getE {α : Type} [Inhabited α] (l : List α) (i : Nat) (h : i < l.length) : l[((i : Int)).toNat]! = l[i] := by
  rw [Int.toNat_natCast, getElem!_pos l i h]
theorem G_sameTexts (l : List ByteArray) (hl : l.length ≤ 1000000) : g_ref01_SameTexts l l = some true := by
  unfold g_ref01_SameTexts
  rw [cnd_neg _ _ (by simp)]
  have := loopO_up (b := g_ref01_SameTexts_l15 l l) (fun i => (i : Int)) 0 l.length (.inr ()) (Nat.zero_le _) (fun i _ hi => by
    simp (disch := omega) only [g_ref01_SameTexts_l15, cnd_dec, if_pos, gd_pos, ne_eq, not_true_eq_false, if_false, w_id]
    rfl) (by simp (disch := omega) only [g_ref01_SameTexts_l15, cnd_dec, if_neg])
  exact (bnd_of this _).trans rfl
theorem G_sameFrames (l : List S_Frame) (hl : l.length ≤ 1000000) : g_ref42_SameFrames l l = some true := by
  unfold g_ref42_SameFrames
  rw [cnd_neg _ _ (by simp)]
  have := loopO_up (b := g_ref42_SameFrames_l15 l l) (fun i => (i : Int)) 0 l.length (.inr ()) (Nat.zero_le _) (fun i _ hi => by
    simp (disch := omega) only [g_ref42_SameFrames_l15, cnd_dec, if_pos, gd_pos, not_true_eq_false, if_false, w_id]
    rfl) (by simp (disch := omega) only [g_ref42_SameFrames_l15, cnd_dec, if_neg])
  exact (bnd_of this _).trans rfl
theorem G_same (x : S_End) (hq : x.vQueue.length ≤ 1000000) (hl : x.vHeld.length ≤ 1000000) : g_ref42_Same x x = some true := by
  unfold g_ref42_Same
  have := loopO_up (b := g_ref42_Same_l15 x x) (fun i => (i : Int)) 0 x.vHeld.length (.inr ()) (Nat.zero_le _) (fun i _ hi => by
    simp (disch := omega) only [g_ref42_Same_l15, cnd_dec, if_pos, gd_pos, not_true_eq_false, if_false, w_id]
    rfl) (by simp (disch := omega) only [g_ref42_Same_l15, cnd_dec, if_neg])
  simp only [cnd_dec, ne_eq, not_true_eq_false, if_false, G_sameTexts _ hq, bnd_eq, Bool.not_true, cnd_false, decide_false]
  exact (bnd_of this _).trans rfl
def sendE (x : LEnd) (s : ByteArray) : LEnd × Int := if 4096 < s.size then (x, 2) else if 64 ≤ x.queue.length then (x, 432) else (x.send s, 0)
theorem G_Send {x : LEnd} (h : x.Ok) (s : ByteArray) : g_link_Send (ofL x) s = some (ofL (sendE x s).1, (sendE x s).2) := by
  have hq := h.ql
  unfold g_link_Send sendE
  rw [G_short]
  simp only [bnd_eq, shortB]
  by_cases h1 : 4096 < s.size
  · rw [cnd_pos _ _ (by simp; omega), if_pos h1]
  · rw [cnd_neg _ _ (by simp; omega), if_neg h1, cnd_dec]
    by_cases h2 : 64 ≤ x.queue.length
    · rw [if_pos (by show (64 : Int) ≤ (x.queue.length : Int); omega), if_pos h2]
    · rw [if_neg (by show ¬ (64 : Int) ≤ (x.queue.length : Int); omega), if_neg h2]
      unfold g_slices_Clone_string_string
      rw [gd_pos (by show x.queue.length ≤ _; omega), bnd_eq, gd_pos (by show (x.queue ++ [s]).length * 16 ≤ _; simp; omega)]
      rfl
theorem G_rSend {x : LEnd} (h : x.Ok) (s : ByteArray) : g_ref42_Send (ofL x) s = some ⟨ofL (sendE x s).1, (sendE x s).2⟩ := by
  have hq := h.ql
  unfold g_ref42_Send sendE
  rw [cnd_dec]
  by_cases h1 : 4096 < s.size
  · rw [if_pos (by omega), if_pos h1]
  · rw [if_neg (by omega), if_neg h1, cnd_dec]
    by_cases h2 : 64 ≤ x.queue.length
    · rw [if_pos (by show (64 : Int) ≤ (x.queue.length : Int); omega), if_pos h2]
    · rw [if_neg (by show ¬ (64 : Int) ≤ (x.queue.length : Int); omega), if_neg h2]
      rw [gd_pos (by show ([] ++ x.queue).length * 16 ≤ _; simp; omega), gd_pos (by show ([] ++ x.queue ++ [s]).length * 16 ≤ _; simp; omega)]
      rfl
theorem sendE_ok {x : LEnd} (h : x.Ok) (s : ByteArray) : (sendE x s).1.Ok ∧ (sendE x s).1.want = x.want := by
  unfold sendE
  split
  · exact ⟨h, rfl⟩
  · split
    · exact ⟨h, rfl⟩
    · refine ⟨⟨h.b1, h.b2, h.w1, h.w2, ?_, ?_, h.hg, h.ho⟩, rfl⟩
      · show (x.queue ++ [s]).length ≤ 64
        simp; omega
      · intro t ht
        rcases List.mem_append.1 ht with ht | ht
        · exact h.qs t ht
        · obtain rfl := List.mem_singleton.1 ht
          omega
theorem G_Idle (x : LEnd) : g_link_Idle (ofL x) = some (decide (x.queue.length = 0)) := by
  unfold g_link_Idle
  congr 1
  exact decide_eq_decide.2 (by show ((x.queue.length : Int)) = 0 ↔ _; omega)
theorem frames_take (x : LEnd) (h : x.queue.length ≠ 0) : x.frames = (List.range (min x.queue.length 8)).map fun k => x.frameAt k := by
  unfold LEnd.frames LEnd.frameAt
  rw [if_neg h]
  refine List.ext_getElem? fun k => ?_
  rw [List.getElem?_map, List.getElem?_map, List.getElem?_zipIdx, List.getElem?_take]
  by_cases hk : k < min x.queue.length 8
  · rw [if_pos (by omega), List.getElem?_range hk, List.getElem?_eq_getElem (by omega)]
    simp [List.getD, List.getElem?_eq_getElem (show k < x.queue.length by omega)]
  · rw [List.getElem?_eq_none (l := List.range _) (by simp; omega)]
    by_cases h8 : k < 8
    · rw [if_pos h8, List.getElem?_eq_none (by omega)]; rfl
    · rw [if_neg h8]; rfl
theorem frames_len (x : LEnd) : x.frames.length ≤ 8 := by
  by_cases h : x.queue.length = 0
  · unfold LEnd.frames; rw [if_pos h]; simp
  · rw [frames_take x h]; simp; omega
theorem G_Frames {x : LEnd} (h : x.Ok) : g_link_Frames (ofL x) = some (x.frames.map ofF) := by
  have hq := h.ql; have hb := h.b1; have hb2 := h.b2
  unfold g_link_Frames
  rw [G_Idle, bnd_eq, cnd_dec]
  by_cases h0 : x.queue.length = 0
  · rw [if_pos h0]; unfold LEnd.frames; rw [if_pos h0]; rfl
  · rw [if_neg h0, frames_take x h0]
    have hm : min ((ofL x).vQueue.length : Int) 8 = ((min x.queue.length 8 : Nat) : Int) := by show min ((x.queue.length : Nat) : Int) 8 = _; omega
    have hsub : (subL (ofL x).vQueue 0 (min ((ofL x).vQueue.length : Int) 8)) = x.queue.take (min x.queue.length 8) := by
      rw [hm]; show subL x.queue 0 _ = _
      rw [subL_to _ _ (by omega), Int.toNat_natCast]
    have hlen : (x.queue.take (min x.queue.length 8)).length = min x.queue.length 8 := by rw [List.length_take]; omega
    have := loopO_up (b := g_link_Frames_l17 (ofL x)) (fun i => ((List.range i).map fun k => ofF (x.frameAt k), (i : Int))) 0 (min x.queue.length 8) (((List.range (min x.queue.length 8)).map fun k => ofF (x.frameAt k))) (Nat.zero_le _) (fun i _ hi => by
        simp (disch := omega) only [g_link_Frames_l17, hsub, hlen, cnd_dec, if_pos, gd_pos, bnd_eq]
        rw [gd_pos (by simp; omega), w_id (z := (i : Int) + 1) (by omega), w_id (by show _ ≤ x.base + _ ∧ x.base + _ ≤ _; omega), List.range_succ, List.map_append, List.map_cons, List.map_nil, getE _ _ (by omega), List.getElem_take]
        congr 3
        simp only [ofF, LEnd.frameAt, List.getD, List.getElem?_eq_getElem (show i < x.queue.length by omega)]
        rfl) (by simp (disch := omega) only [g_link_Frames_l17, hsub, hlen, cnd_dec, if_neg])
    rw [gd_pos (by rw [hm]; show 0 ≤ (0 : Int) ∧ _ ∧ _ ≤ ((x.queue.length : Nat) : Int); omega)]
    refine (bnd_of this _).trans ?_
    rw [List.map_map]; rfl
theorem G_rFrames {x : LEnd} (h : x.Ok) : g_ref42_Frames (ofL x) = some (x.frames.map ofF) := by
  have hq := h.ql; have hb := h.b1; have hb2 := h.b2
  unfold g_ref42_Frames
  rw [cnd_dec]
  by_cases h0 : x.queue.length = 0
  · rw [if_pos (by show ((x.queue.length : Nat) : Int) = 0; omega)]; unfold LEnd.frames; rw [if_pos h0]; rfl
  · rw [if_neg (by show ¬ ((x.queue.length : Nat) : Int) = 0; omega), frames_take x h0]
    have hl : (ofL x).vQueue = x.queue := rfl
    have := loopO_up (b := g_ref42_Frames_l17 (ofL x)) (fun i => ((List.range i).map fun k => ofF (x.frameAt k), (i : Int))) 0 (min x.queue.length 8) (((List.range (min x.queue.length 8)).map fun k => ofF (x.frameAt k))) (Nat.zero_le _) (fun i _ hi => by
        simp (disch := omega) only [g_ref42_Frames_l17, hl, cnd_dec, if_pos, gd_pos, bnd_eq, decide_true, decide_false, cnd_true]
        rw [gd_pos (by simp; omega), w_id (z := (i : Int) + 1) (by omega), w_id (by show _ ≤ x.base + _ ∧ x.base + _ ≤ _; omega), List.range_succ, List.map_append, List.map_cons, List.map_nil, getE _ _ (by omega)]
        congr 3
        simp only [ofF, LEnd.frameAt, List.getD, List.getElem?_eq_getElem (show i < x.queue.length by omega)]
        rfl) (by
        simp only [g_ref42_Frames_l17, hl, cnd_dec]
        by_cases h8 : x.queue.length ≤ 8
        · simp (disch := omega) only [if_neg, bnd_eq, Bool.false_eq_true, cnd_false, cnd_dec]
        · simp (disch := omega) only [if_pos, bnd_eq, decide_eq_true_eq, cnd_dec, if_neg])
    refine (bnd_of this _).trans ?_
    rw [List.map_map]; rfl
theorem map_ofH_drop (l : List LHeld) (i : Nat) : (l.map ofH).drop i = (l.drop i).map ofH := by rw [List.map_drop]
/-- The reference's loop that delivers. -/
theorem rdel (b : Int) (q : List ByteArray) : ∀ (l : List LHeld) (n : Int) (out : List ByteArray), l.length ≤ 1000 → out.length + l.length ≤ 100000 → 0 ≤ n ∧ n ≤ 1099511627776 →
    loopO g_ref42_Receive_l38 (out, (⟨b, q, n, l.map ofH⟩ : S_End)) = some (out ++ (l.take (runLen n l)).map (·.2), (⟨b, q, n + runLen n l, (l.drop (runLen n l)).map ofH⟩ : S_End))
  | [], n, out, _, _, _ => by
    rw [loopO_inr (x := (out, (⟨b, q, n, []⟩ : S_End)))]
    · simp [runLen]
    · simp [g_ref42_Receive_l38, bnd_eq, cnd_false]
  | g :: l, n, out, hl, ho, hn => by
    simp only [List.length_cons] at hl ho
    by_cases h : g.1 = n ∧ n < 1099511627776
    · rw [loopO_inl (s' := (out ++ [g.2], (⟨b, q, n + 1, l.map ofH⟩ : S_End)))]
      · rw [rdel b q l (n + 1) _ (by omega) (by simp; omega) (by omega), runLen, if_pos h]
        simp only [List.take_succ_cons, List.drop_succ_cons, List.map_cons, List.append_assoc, List.cons_append, List.nil_append, Int.natCast_add, Int.cast_ofNat_Int]
        rw [show n + 1 + ((runLen (n + 1) l : Nat) : Int) = n + (((runLen (n + 1) l : Nat) : Int) + 1) by omega]
      · obtain ⟨h1, h2⟩ := h
        have e1 : (ofH g).vSeq = n := h1
        have e2 : subL (ofH g :: l.map ofH) 1 (((ofH g :: l.map ofH).length : Nat) : Int) = l.map ofH := subL_from _ 1
        simp only [List.length_cons, List.length_map, Int.natCast_add, Int.cast_ofNat_Int] at e2
        simp (disch := first | omega | (simp; omega)) only [g_ref42_Receive_l38, List.map_cons, List.length_cons, List.length_map, gd_pos, cnd_dec, if_pos, bnd_eq, decide_eq_true_eq, Int.natCast_add, Int.cast_ofNat_Int, Int.toNat_zero, List.getElem!_cons_zero, e1, e2, w_id, h2, decide_true, cnd_true]
        rfl
    · rw [loopO_inr (x := (out, (⟨b, q, n, (g :: l).map ofH⟩ : S_End)))]
      · rw [runLen, if_neg h]; simp
      · simp (disch := omega) only [g_ref42_Receive_l38, List.map_cons, List.length_cons, List.length_map, gd_pos, cnd_dec, if_pos, bnd_eq, decide_eq_true_eq, Int.natCast_add, Int.cast_ofNat_Int, Int.toNat_zero, List.getElem!_cons_zero]
        by_cases h1 : g.1 = n
        · rw [if_pos (show (ofH g).vSeq = n from h1), bnd_eq, cnd_neg _ _ (decide_eq_false (by omega))]
        · rw [if_neg (show ¬ (ofH g).vSeq = n from h1), bnd_eq]
          rfl
theorem drop_head {α : Type} [Inhabited α] {L s : List α} {a : α} {i : Nat} (h : L.drop i = a :: s) : i < L.length ∧ L[((i : Nat) : Int).toNat]! = a ∧ L.drop (i + 1) = s := by
  have hi : i < L.length := by
    rcases Nat.lt_or_ge i L.length with h1 | h1
    · exact h1
    · rw [List.drop_of_length_le h1] at h; cases h
  rw [List.drop_eq_getElem_cons hi] at h
  injection h with h1 h2
  exact ⟨hi, by rw [getE _ _ hi]; exact h1, h2⟩
theorem hold_t (L : List S_Held) (f : S_Frame) (hL : L.length ≤ 1000) : ∀ (s : List S_Held) (i : Nat) (out : List S_Held), L.drop i = s → out.length + s.length ≤ 100000 → (∀ g ∈ s, f.vSeq < g.vSeq) → i ≤ L.length → loopO (g_ref42_hold_l11 L f) (out, true, (i : Int)) = some (.inr (out ++ s, true))
  | [], i, out, hd, _, _, hi => by
    have h1 : L.length ≤ i := by
      rcases Nat.lt_or_ge i L.length with h | h
      · have h2 := congrArg List.length hd
        rw [List.length_drop, List.length_nil] at h2
        omega
      · exact h
    rw [loopO_inr (x := .inr (out, true)), List.append_nil]
    simp (disch := omega) only [g_ref42_hold_l11, cnd_dec, if_neg]
  | g :: s, i, out, hd, ho, hg, _ => by
    obtain ⟨h1, h2, h3⟩ := drop_head hd
    have h4 : f.vSeq < g.vSeq := hg g (by simp)
    simp only [List.length_cons] at ho
    rw [loopO_inl (s' := (out ++ [g], true, ((i + 1 : Nat) : Int))), hold_t L f hL s (i + 1) _ h3 (by simp; omega) (fun g hg' => hg g (by simp [hg'])) (by omega), List.append_assoc]
    · rfl
    · simp (disch := first | omega | (simp; omega)) only [g_ref42_hold_l11, h2, cnd_dec, if_pos, if_neg, gd_pos, Bool.not_true, cnd_false, bnd_eq, w_id]
      rfl
def holdFin (f : S_Frame) : (List S_Held) ⊕ ((List S_Held) × Bool) → List S_Held
  | .inl r => r
  | .inr (o, true) => o
  | .inr (o, false) => o ++ [⟨f.vSeq, f.vData⟩]
theorem hold_f (L : List S_Held) (f : LFrame) (hL : L.length ≤ 1000) : ∀ (s : List LHeld) (i : Nat) (m : Int) (out : List S_Held), L.drop i = s.map ofH → out.length + s.length ≤ 10000 → Grows m s → i ≤ L.length → (∀ y, holdFin (ofF f) y ≠ holdFin (ofF f) y → False) →
    ∃ y, loopO (g_ref42_hold_l11 L (ofF f)) (out, false, (i : Int)) = some y ∧ (match y with | .inr (o, false) => o.length ≤ 100000 | _ => True) ∧ holdFin (ofF f) y = if s.any (fun g => decide (g.1 = f.seq)) then L else out ++ (putHeld (f.seq, f.data) s).map ofH
  | [], i, m, out, hd, ho, _, hi, _ => by
    have h1 : L.length ≤ i := by
      rcases Nat.lt_or_ge i L.length with h | h
      · have h2 := congrArg List.length hd
        simp only [List.length_drop, List.map_nil, List.length_nil] at h2
        omega
      · exact h
    refine ⟨.inr (out, false), loopO_inr ?_, ?_, ?_⟩
    · simp (disch := omega) only [g_ref42_hold_l11, cnd_dec, if_neg]
    · show out.length ≤ _
      simp at ho; omega
    · rfl
  | g :: s, i, m, out, hd, ho, hg, hi, hx => by
    obtain ⟨h1, h2, h3⟩ := drop_head hd
    simp only [List.length_cons] at ho
    by_cases he : g.1 = f.seq
    · refine ⟨.inl L, loopO_inr ?_, trivial, ?_⟩
      · have : (ofH g).vSeq = (ofF f).vSeq := he
        simp (disch := omega) only [g_ref42_hold_l11, h2, cnd_dec, if_pos, gd_pos, this, if_true]
      · simp [holdFin, he]
    · have hne : ¬ (ofH g).vSeq = (ofF f).vSeq := he
      by_cases hlt : f.seq < g.1
      · have hlt' : (ofF f).vSeq < (ofH g).vSeq := hlt
        have hall : ∀ g' ∈ s.map ofH, (ofF f).vSeq < g'.vSeq := by
          intro g' hg'
          obtain ⟨q, hq, rfl⟩ := List.mem_map.1 hg'
          have := grows_mem hg.2 q hq
          show f.seq < q.1
          omega
        refine ⟨.inr (out ++ [ofH (f.seq, f.data)] ++ [ofH g] ++ s.map ofH, true), ?_, trivial, ?_⟩
        · rw [loopO_inl (s' := (out ++ [ofH (f.seq, f.data)] ++ [ofH g], true, ((i + 1 : Nat) : Int))), hold_t L (ofF f) hL _ (i + 1) _ h3 (by simp; omega) hall (by omega)]
          simp (disch := first | omega | (simp; omega)) only [g_ref42_hold_l11, h2, cnd_dec, if_pos, if_neg, gd_pos, Bool.not_false, cnd_true, bnd_eq, w_id, hlt', decide_true]
          rfl
        · have hany : ((g :: s).any fun g => decide (g.1 = f.seq)) = false := by
            rw [List.any_eq_false]
            intro q hq
            rcases List.mem_cons.1 hq with rfl | hq
            · simpa using he
            · have := grows_mem hg.2 q hq
              simp; omega
          rw [hany, if_neg (by simp), putHeld, if_neg he, if_pos hlt]
          simp [holdFin]
      · have hlt' : ¬ (ofF f).vSeq < (ofH g).vSeq := hlt
        obtain ⟨y, hy, hy1, hy2⟩ := hold_f L f hL s (i + 1) g.1 (out ++ [ofH g]) h3 (by simp; omega) hg.2 (by omega) hx
        refine ⟨y, ?_, hy1, ?_⟩
        · rw [loopO_inl (s' := (out ++ [ofH g], false, ((i + 1 : Nat) : Int))), hy]
          simp (disch := first | omega | (simp; omega)) only [g_ref42_hold_l11, h2, cnd_dec, if_pos, if_neg, gd_pos, Bool.not_false, cnd_true, bnd_eq, w_id, hlt', decide_false, cnd_false, Bool.false_eq_true]
          rfl
        · rw [hy2, List.any_cons, decide_eq_false he, Bool.false_or, putHeld, if_neg he, if_neg hlt, List.map_cons]
          simp
theorem G_rhold (l : List LHeld) (n : Int) (f : LFrame) (hl : l.length ≤ 1000) (hg : Grows n l) : g_ref42_hold (l.map ofH) (ofF f) = some ((putHeld (f.seq, f.data) l).map ofH) := by
  obtain ⟨y, hy, hy1, hy2⟩ := hold_f (l.map ofH) f (by simpa using hl) l 0 n [] rfl (by simp; omega) hg (Nat.zero_le _) (fun _ h => h rfl)
  have hfin : holdFin (ofF f) y = (putHeld (f.seq, f.data) l).map ofH := by
    rw [hy2]
    split
    · rename_i h; rw [putHeld_any f.seq f.data hg h]
    · rfl
  unfold g_ref42_hold
  rw [show ((0 : Int)) = ((0 : Nat) : Int) from rfl, bnd_of hy]
  rcases y with r | ⟨o, b⟩
  · exact congrArg some hfin
  · cases b
    · simp only [Bool.not_false, cnd_true, bnd_id]
      rw [gd_pos (by have : o.length ≤ 100000 := hy1; simp; omega)]
      exact congrArg some hfin
    · simp only [Bool.not_true, cnd_false, bnd_eq]
      exact congrArg some hfin
theorem G_rValid0 (a b : Int) (c : ByteArray) : g_ref42_Valid ⟨a, b, c⟩ = some (LFrame.okB ⟨a, b, c⟩) := by
  unfold g_ref42_Valid LFrame.okB shortB
  simp only [cnd_or, bnd_eq, bnd_id, cnd_nand]
  congr 1
  rw [Bool.eq_iff_iff]
  simp
  omega
theorem G_rValid (f : LFrame) : g_ref42_Valid (ofF f) = some f.okB := G_rValid0 _ _ _
theorem ackCond (x : LEnd) (f : LFrame) (h : x.Ok) : (cnd (decide ((ofL x).vBase < (ofF f).vAck)) (cnd (decide ((ofF f).vAck ≤ (IntKind.i64.wrap ((ofL x).vBase + (((ofL x).vQueue).length : Int))))) (some (decide ((ofF f).vAck ≤ (1099511627776 : Int)))) (some (false))) (some (false))) = some (decide (x.base < f.ack ∧ f.ack ≤ x.base + x.queue.length ∧ f.ack ≤ 1099511627776)) := by
  have h1 := h.b1; have h2 := h.b2; have h3 := h.ql
  rw [show IntKind.i64.wrap ((ofL x).vBase + (((ofL x).vQueue).length : Int)) = x.base + x.queue.length from w_id (by show _ ≤ x.base + x.queue.length ∧ x.base + x.queue.length ≤ _; omega)]
  simp only [cnd_and]
  congr 1
  rw [Bool.eq_iff_iff]
  simp only [Bool.and_eq_true, decide_eq_true_eq]
  exact Iff.rfl
theorem holdCond (x : LEnd) (f : LFrame) (h : x.Ok) : (cnd (decide ((ofL x).vWant < (ofF f).vSeq)) (cnd (decide ((ofF f).vSeq < (IntKind.i64.wrap ((ofL x).vWant + (8 : Int))))) (some (decide ((ofF f).vSeq < (1099511627776 : Int)))) (some (false))) (some (false))) = some (decide (x.want < f.seq ∧ f.seq < x.want + 8 ∧ f.seq < 1099511627776)) := by
  have h1 := h.w1; have h2 := h.w2
  rw [show IntKind.i64.wrap ((ofL x).vWant + (8 : Int)) = x.want + 8 from w_id (by show _ ≤ x.want + 8 ∧ x.want + 8 ≤ _; omega)]
  simp only [cnd_and]
  congr 1
  rw [Bool.eq_iff_iff]
  simp only [Bool.and_eq_true, decide_eq_true_eq]
  exact Iff.rfl
theorem G_rReceive {x : LEnd} (h : x.Ok) (f : LFrame) : g_ref42_Receive (ofL x) (ofF f) = some ⟨ofL (x.receive f).1, (x.receive f).2⟩ := by
  have h1 := h.b1; have h2 := h.b2; have h3 := h.ql
  unfold g_ref42_Receive LEnd.receive
  rw [G_rValid, bnd_eq]
  cases hok : f.okB with
  | false => rfl
  | true =>
    simp only [Bool.not_true, cnd_false, if_true]
    rw [ackCond x f h, holdCond x f h, bnd_eq]
    have hd := LFrame.okB_data hok
    -- the queue
    have hA : (cnd (decide (x.base < f.ack ∧ f.ack ≤ x.base + x.queue.length ∧ f.ack ≤ 1099511627776)) (gd (0 ≤ IntKind.i64.wrap ((ofF f).vAck - (ofL x).vBase) ∧ IntKind.i64.wrap ((ofF f).vAck - (ofL x).vBase) ≤ (((ofL x).vQueue).length : Int) ∧ (((ofL x).vQueue).length : Int) ≤ (((ofL x).vQueue).length : Int)) (gd ((([] : List ByteArray) ++ (subL (ofL x).vQueue (IntKind.i64.wrap ((ofF f).vAck - (ofL x).vBase)) (((ofL x).vQueue).length : Int))).length * 16 ≤ 140737488355328) (some (((ofF f).vAck, ([] : List ByteArray) ++ (subL (ofL x).vQueue (IntKind.i64.wrap ((ofF f).vAck - (ofL x).vBase)) (((ofL x).vQueue).length : Int))))))) (some (((ofL x).vBase, (ofL x).vQueue)))) = some ((x.acked f).base, (x.acked f).queue) := by
      rw [cnd_dec]
      unfold LEnd.acked
      by_cases hc : x.base < f.ack ∧ f.ack ≤ x.base + x.queue.length ∧ f.ack ≤ 1099511627776
      · rw [if_pos hc, if_pos hc]
        have e : IntKind.i64.wrap ((ofF f).vAck - (ofL x).vBase) = f.ack - x.base := w_id (by show _ ≤ f.ack - x.base ∧ f.ack - x.base ≤ _; omega)
        rw [e, gd_pos (by show 0 ≤ f.ack - x.base ∧ f.ack - x.base ≤ (x.queue.length : Int) ∧ (x.queue.length : Int) ≤ (x.queue.length : Int); omega)]
        have e2 : subL (ofL x).vQueue (f.ack - x.base) (((ofL x).vQueue).length : Int) = x.queue.drop (f.ack - x.base).toNat := subL_from _ _
        rw [e2, gd_pos (by simp; omega)]
        rfl
      · rw [if_neg hc, if_neg hc]; rfl
    rw [hA, bnd_eq]
    dsimp only
    have hh : (x.acked f).want = x.want ∧ (x.acked f).held = x.held := by unfold LEnd.acked; split <;> exact ⟨rfl, rfl⟩
    have hB : (cnd (decide (x.want < f.seq ∧ f.seq < x.want + 8 ∧ f.seq < 1099511627776)) (bnd (g_ref42_hold (ofL x).vHeld (ofF f)) fun x15 => some ((⟨(x.acked f).base, (x.acked f).queue, (ofL x).vWant, x15⟩ : S_End))) (some ((⟨(x.acked f).base, (x.acked f).queue, (ofL x).vWant, (ofL x).vHeld⟩ : S_End)))) = some (ofL ((x.acked f).holds f)) := by
      rw [cnd_dec]
      unfold LEnd.holds
      rw [hh.1, hh.2]
      by_cases hc : x.want < f.seq ∧ f.seq < x.want + 8 ∧ f.seq < 1099511627776
      · rw [if_pos hc, if_pos hc]
        have := G_rhold x.held x.want f (by have := h.held_len; omega) h.hg
        rw [show (ofL x).vHeld = x.held.map ofH from rfl, this, bnd_eq]
        simp only [ofL, hh.1]
      · rw [if_neg hc, if_neg hc]
        simp only [ofL, hh.1, hh.2]
    rw [bnd_eq, hB, bnd_eq]
    have hY : ((x.acked f).holds f).Ok := (h.acked f).holds hd
    generalize (x.acked f).holds f = y at hY ⊢
    have w1 := hY.w1; have w2 := hY.w2; have hl := hY.held_len
    have e : (cnd (decide ((ofF f).vSeq = (ofL y).vWant)) (some (decide ((ofL y).vWant < (1099511627776 : Int)))) (some (false))) = some (decide (f.seq = y.want ∧ y.want < 1099511627776)) := by
      rw [cnd_and]
      congr 1
      rw [Bool.eq_iff_iff]
      simp only [Bool.and_eq_true, decide_eq_true_eq]
      exact Iff.rfl
    rw [e, bnd_eq, cnd_dec]
    unfold LEnd.gives
    by_cases hc : f.seq = y.want ∧ y.want < 1099511627776
    · rw [if_pos hc, if_pos hc, gd_pos (by simp)]
      have e3 : IntKind.i64.wrap ((ofL y).vWant + 1) = y.want + 1 := w_id (by show _ ≤ y.want + 1 ∧ y.want + 1 ≤ _; omega)
      have := rdel y.base y.queue y.held (y.want + 1) ([] ++ [(ofF f).vData]) (by omega) (by simp; omega) (by omega)
      rw [e3, show (⟨(ofL y).vBase, (ofL y).vQueue, y.want + 1, (ofL y).vHeld⟩ : S_End) = ⟨y.base, y.queue, y.want + 1, y.held.map ofH⟩ from rfl, this]
      rfl
    · rw [if_neg hc, if_neg hc]; rfl
theorem receive_count (x : LEnd) (f : LFrame) (h : x.Ok) : ((x.receive f).2.length : Int) + x.want = (x.receive f).1.want := by
  unfold LEnd.receive
  split
  · have hw : ((x.acked f).holds f).want = x.want := by
      unfold LEnd.holds LEnd.acked
      split <;> split <;> rfl
    rw [← hw]
    generalize (x.acked f).holds f = y
    unfold LEnd.gives
    split
    · have := runLen_le (y.want + 1) y.held
      simp only [List.length_cons, List.length_map, List.length_take]
      rw [Nat.min_eq_left this]
      omega
    · simp
  · simp
theorem receive_len (x : LEnd) (f : LFrame) (h : x.Ok) : (x.receive f).2.length ≤ 8 := by
  unfold LEnd.receive
  split
  · rename_i hok
    have hY := ((h.acked f).holds (LFrame.okB_data hok)).held_len
    generalize (x.acked f).holds f = y at hY
    unfold LEnd.gives
    split
    · have := runLen_le (y.want + 1) y.held
      simp only [List.length_cons, List.length_map, List.length_take]
      omega
    · simp
  · simp
end Go.Proofs.Ytakbadleipbngaa
