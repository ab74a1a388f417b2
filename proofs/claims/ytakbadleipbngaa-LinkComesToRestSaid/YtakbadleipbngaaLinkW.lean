/-
  layer 42: Check, the examples, the texts. Conditions: none.
-/
import Derived.Test.YtakbadleipbngaaLinkV
set_option linter.all false
namespace Go.Proofs.Ytakbadleipbngaa
open Go.RowKit
theorem G_Check (x : LEnd) (h64 : ∀ g ∈ x.held, g.1 ≤ 9223372036854775807) (hq : x.queue.length ≤ 9223372036854775807) (hh : x.held.length ≤ 9223372036854775807) : g_link_Check (ofL x) = some (if x.okB then 0 else 3) := by
  have hhead : (cnd (decide ((1 : Int) ≤ (ofL x).vBase)) (cnd (decide ((ofL x).vBase ≤ (1099511627776 : Int))) (cnd (decide ((1 : Int) ≤ (ofL x).vWant)) (cnd (decide ((ofL x).vWant ≤ (1099511627776 : Int))) (bnd (some (decide ((((ofL x).vQueue).length : Int) ≤ (64 : Int)))) fun x5 => some (x5)) (some (false))) (some (false))) (some (false))) (some (false))) = some x.headB := by
    simp only [bnd_eq, cnd_and]
    congr 1
    rw [Bool.eq_iff_iff]
    unfold LEnd.headB
    simp only [Bool.and_eq_true, decide_eq_true_eq]
    show (1 ≤ x.base ∧ x.base ≤ 1099511627776 ∧ 1 ≤ x.want ∧ x.want ≤ 1099511627776 ∧ ((x.queue.length : Nat) : Int) ≤ 64) ↔ _
    omega
  have hl1 : loopO (g_link_Check_l9 (ofL x)) (x.headB, 0) = some (x.headB && x.queueB x.queue.length) := by
    have := loopO_up (b := g_link_Check_l9 (ofL x)) (fun i => (x.headB && x.queueB i, (i : Int))) 0 x.queue.length (x.headB && x.queueB x.queue.length) (Nat.zero_le _) (fun i _ hi => by
      have hqq : (ofL x).vQueue = x.queue := rfl
      have hget : x.queue[((i : Nat) : Int).toNat]! = x.queue[i] := getE _ _ hi
      rw [x.queueB_succ i _ (List.getElem?_eq_getElem hi)]
      simp (disch := omega) only [g_link_Check_l9, hqq, cnd_dec, if_pos, gd_pos, hget, G_short, bnd_eq, cnd_and, w_id, Bool.and_assoc]
      rfl) (by
      have hqq : (ofL x).vQueue = x.queue := rfl
      simp (disch := omega) only [g_link_Check_l9, hqq, cnd_dec, if_neg])
    simpa [LEnd.queueB] using this
  have hl2 : loopO (g_link_Check_l28 (ofL x)) (x.headB && x.queueB x.queue.length, (ofL x).vWant, 0) = some x.okB := by
    have := loopO_up (b := g_link_Check_l28 (ofL x)) (fun i => (x.headB && x.queueB x.queue.length && x.heldB i, x.prev i, (i : Int))) 0 x.held.length x.okB (Nat.zero_le _) (fun i _ hi => by
      have hlen : ((ofL x).vHeld).length = x.held.length := List.length_map ..
      have hget : ((ofL x).vHeld)[((i : Nat) : Int).toNat]! = ofH x.held[i] := by
        rw [getE _ _ (by rw [hlen]; exact hi)]; exact List.getElem_map ..
      have hmem : x.held[i] ∈ x.held := List.getElem_mem hi
      have hle := h64 _ hmem
      have hp : x.prev (i + 1) = x.held[i].1 := by simp [LEnd.prev, List.getElem?_eq_getElem hi]
      rw [x.heldB_succ i _ (List.getElem?_eq_getElem hi), hp]
      simp (disch := omega) only [g_link_Check_l28, hlen, cnd_dec, if_pos, gd_pos, hget, G_short, bnd_eq, w_id]
      have hcond : (cnd (x.headB && x.queueB x.queue.length && x.heldB i) (if x.prev i < (ofH x.held[i]).vSeq then (if IntKind.i64.wrap ((ofH x.held[i]).vSeq - (ofL x).vWant) < 8 then (if (ofH x.held[i]).vSeq < 1099511627776 then some (shortB (ofH x.held[i]).vData) else some false) else some false) else some false) (some false)) = some (x.headB && x.queueB x.queue.length && (x.heldB i && x.heldAt i x.held[i])) := by
        cases hb : (x.headB && x.queueB x.queue.length && x.heldB i) with
        | false =>
          rw [cnd_false]
          simp only [← Bool.and_assoc, hb, Bool.false_and]
        | true =>
          rw [cnd_true]
          simp only [Bool.and_eq_true] at hb
          obtain ⟨⟨h1, h2⟩, h3⟩ := hb
          have hw := x.want_le_prev h3 (by omega)
          have hw2 : 1 ≤ x.want ∧ x.want ≤ 1099511627776 := by
            simp only [LEnd.headB, Bool.and_eq_true, decide_eq_true_eq] at h1; omega
          rw [h1, h2, h3, Bool.true_and, Bool.true_and, Bool.true_and]
          unfold LEnd.heldAt
          by_cases h4 : x.prev i < x.held[i].1
          · rw [if_pos (show x.prev i < (ofH x.held[i]).vSeq from h4), show IntKind.i64.wrap ((ofH x.held[i]).vSeq - (ofL x).vWant) = x.held[i].1 - x.want from w_id (by show _ ≤ x.held[i].1 - x.want ∧ x.held[i].1 - x.want ≤ _; omega)]
            by_cases h5 : x.held[i].1 < x.want + 8
            · rw [if_pos (by omega)]
              by_cases h6 : x.held[i].1 < 1099511627776
              · rw [if_pos (show (ofH x.held[i]).vSeq < _ from h6)]
                simp [h4, h5, h6]; rfl
              · rw [if_neg (show ¬ (ofH x.held[i]).vSeq < _ from h6)]
                simp [h6]
            · rw [if_neg (by omega)]
              simp [h5]
          · rw [if_neg (show ¬ x.prev i < (ofH x.held[i]).vSeq from h4)]
            simp [h4]
      rw [hcond, bnd_eq]
      simp only [Bool.and_assoc]
      rfl) (by
      have hlen : ((ofL x).vHeld).length = x.held.length := List.length_map ..
      simp (disch := omega) only [g_link_Check_l28, hlen, cnd_dec, if_neg]
      rfl)
    have h0 : x.heldB 0 = true := rfl
    have h1 : x.prev 0 = (ofL x).vWant := rfl
    rw [← this, h0, h1, Bool.and_true]
    rfl
  unfold g_link_Check
  rw [hhead, bnd_eq, hl1, bnd_eq, hl2, bnd_eq]
  cases x.okB <;> rfl
theorem G_CheckOk {x : LEnd} (h : x.Ok) : g_link_Check (ofL x) = some 0 := by
  rw [G_Check x (fun g hg => by have := (h.ho g hg).2.1; omega) (by have := h.ql; omega) (by have := h.held_len; omega), (LEnd.okB_iff x).2 h]; rfl
def sa : ByteArray := ⟨#[97]⟩
def sb : ByteArray := ⟨#[98]⟩
def sc : ByteArray := ⟨#[99]⟩
def a1 : LEnd := ⟨1, [sa], 1, []⟩
def a2 : LEnd := ⟨1, [sa, sb], 1, []⟩
def a3 : LEnd := ⟨1, [sa, sb, sc], 1, []⟩
def fr1 : LFrame := ⟨1, 1, sa⟩
def fr2 : LFrame := ⟨2, 1, sb⟩
def fr3 : LFrame := ⟨3, 1, sc⟩
def b1 : LEnd := ⟨1, [], 1, [(2, sb)]⟩
def b2 : LEnd := ⟨1, [], 3, []⟩
def a4 : LEnd := ⟨3, [sc], 1, []⟩
def fa : LFrame := ⟨0, 3, .empty⟩
theorem a1_ok : a1.Ok := (LEnd.okB_iff _).1 (by rfl)
theorem a2_ok : a2.Ok := (LEnd.okB_iff _).1 (by rfl)
theorem a3_ok : a3.Ok := (LEnd.okB_iff _).1 (by rfl)
theorem b1_ok : b1.Ok := (LEnd.okB_iff _).1 (by rfl)
theorem b2_ok : b2.Ok := (LEnd.okB_iff _).1 (by rfl)
theorem G_sanity : g_law42_sanity = some true := by
  have s1 : g_link_Send (⟨(ofL e0).vBase, [], (ofL e0).vWant, []⟩ : S_End) ⟨#[97]⟩ = some (ofL a1, 0) := (G_Send e0_ok ⟨#[97]⟩).trans rfl
  have s2 : g_link_Send (ofL a1) ⟨#[98]⟩ = some (ofL a2, 0) := (G_Send a1_ok ⟨#[98]⟩).trans rfl
  have s3 : g_link_Send (ofL a2) ⟨#[99]⟩ = some (ofL a3, 0) := (G_Send a2_ok ⟨#[99]⟩).trans rfl
  have c1 := G_CheckOk a3_ok
  have i1 : g_link_Idle (ofL a3) = some false := (G_Idle a3).trans rfl
  have i2 : g_link_Idle (⟨(ofL e0).vBase, [], (ofL e0).vWant, []⟩ : S_End) = some true := (G_Idle e0).trans rfl
  have r1 : g_link_Frames (ofL a3) = some ([fr1, fr2, fr3].map ofF) := (G_Frames a3_ok).trans rfl
  have r2 : g_link_Frames (⟨(ofL e0).vBase, [], (ofL e0).vWant, []⟩ : S_End) = some ([⟨0, 1, .empty⟩].map ofF) := (G_Frames e0_ok).trans rfl
  have q1 : g_link_Receive (⟨(ofL e0).vBase, [], (ofL e0).vWant, []⟩ : S_End) (ofF fr2) = some (ofL b1, []) := (G_Receive e0_ok fr2).trans (by rfl)
  have q2 : g_link_Receive (ofL b1) (ofF fr1) = some (ofL b2, [sa, sb]) := (G_Receive b1_ok fr1).trans (by rfl)
  have q3 : g_link_Receive (ofL b2) (ofF fr1) = some (ofL b2, []) := (G_Receive b2_ok fr1).trans (by rfl)
  have q4 : g_link_Receive (ofL a3) (ofF fa) = some (ofL a4, []) := (G_Receive a3_ok fa).trans (by rfl)
  unfold g_law42_sanity
  rw [G_New, bnd_eq, bnd_eq, s1, bnd_eq]
  dsimp only
  rw [s2, bnd_eq]
  dsimp only
  rw [s3, bnd_eq]
  dsimp only
  rw [c1, i1, i2, r1, r2]
  have m1 := G_sameFrames ([fr1, fr2, fr3].map ofF) (by decide)
  have m2 := G_sameFrames ([⟨0, 1, .empty⟩].map ofF) (by decide)
  have m3 := G_sameTexts [sa, sb] (by decide)
  have m4 := G_same (ofL b2) (by decide) (by decide)
  have m5 := G_same (ofL a4) (by decide) (by decide)
  simp only [bnd_eq, ne_eq, not_true_eq_false, decide_false, cnd_false, Bool.not_true]
  rw [show g_ref42_SameFrames (List.map ofF [fr1, fr2, fr3]) [(⟨(1 : Int), (1 : Int), (⟨#[97]⟩ : ByteArray)⟩ : S_Frame), (⟨(2 : Int), (1 : Int), (⟨#[98]⟩ : ByteArray)⟩ : S_Frame), (⟨(3 : Int), (1 : Int), (⟨#[99]⟩ : ByteArray)⟩ : S_Frame)] = some true from m1,
    show g_ref42_SameFrames (List.map ofF [⟨0, 1, .empty⟩]) [(⟨(0 : Int), (1 : Int), ByteArray.empty⟩ : S_Frame)] = some true from m2]
  simp only [bnd_eq, Bool.not_true, cnd_false]
  rw [gd_pos (by decide), show ((List.map ofF [fr1, fr2, fr3])[((1 : Int)).toNat]!) = ofF fr2 from rfl, q1, bnd_eq]
  dsimp only
  rw [gd_pos (by decide), show ((List.map ofF [fr1, fr2, fr3])[((0 : Int)).toNat]!) = ofF fr1 from rfl, q2, bnd_eq]
  dsimp only
  rw [gd_pos (by decide), q3, bnd_eq]
  dsimp only
  rw [show (⟨(0 : Int), (3 : Int), ByteArray.empty⟩ : S_Frame) = ofF fa from rfl, q4, bnd_eq]
  dsimp only
  rw [show g_ref01_SameTexts [sa, sb] [(⟨#[97]⟩ : ByteArray), (⟨#[98]⟩ : ByteArray)] = some true from m3, m4, show g_ref42_Same (ofL a4) (⟨(3 : Int), [(⟨#[99]⟩ : ByteArray)], (1 : Int), ([] : List S_Held)⟩ : S_End) = some true from m5]
  rfl
theorem word_ex (s n : Int) : ∃ b, g_law42_word s n = some b ∧ b.size = 4 := ⟨_, rfl, rfl⟩
end Go.Proofs.Ytakbadleipbngaa
