/-
  Lemmas, part 6. Conditions: none.
-/
import Derived.Test.YtakbadleipbngaaDoorP5
import Derived.Test.YtakbadleipbngaaDoorRows
import Derived.ProofKit
import Derived.OpenShut
import Derived.ChangeSame
import Derived.Deep.Slices
import Derived.JoinedCond
import Derived.SizedLaws
import Derived.Deep.CondSized
set_option linter.all false
set_option maxRecDepth 100000
namespace Go.Proofs.YtakbadleipbngaaDoor
open Go.RowKit
def horS : List UInt8 → Nat
  | [] => 0
  | c :: r => c.toNat % 128 + 128 * horS r
theorem horS_lt : ∀ (l : List UInt8), horS l < 128 ^ l.length
  | [] => by simp [horS]
  | c :: r => by
    have := horS_lt r
    rw [List.length_cons, Nat.pow_succ]
    show c.toNat % 128 + 128 * horS r < _
    omega
theorem scan_loop (l : List UInt8) (hl : l.length ≤ 1000000000) : ∀ (m n : Nat), n + m = l.length → n ≤ 10 → (∀ j, j < n → 128 ≤ (l[j]!).toNat) → ∃ n' : Nat, loopO (g_ref01_GetInt_l7 (B8 l)) (n : Int) = some (n' : Int) ∧ n ≤ n' ∧ n' ≤ l.length ∧ n' ≤ 10 ∧ (∀ j, j < n' → 128 ≤ (l[j]!).toNat) ∧ (n' = l.length ∨ n' = 10 ∨ (l[n']!).toNat < 128)
  | 0, n, h, h10, hb => by
    refine ⟨n, loopO_inr ?_, Nat.le_refl _, by omega, h10, hb, .inl (by omega)⟩
    unfold g_ref01_GetInt_l7
    try dsimp only
    rw [cndF _ _ (by rw [B8_len]; omega), bnd_eq]
    rfl
  | m + 1, n, h, h10, hb => by
    have hlt : n < l.length := by omega
    by_cases e : n = 10
    · refine ⟨n, loopO_inr ?_, Nat.le_refl _, by omega, h10, hb, .inr (.inl e)⟩
      unfold g_ref01_GetInt_l7
      try dsimp only
      rw [cndT _ _ (by rw [B8_len]; omega), cndF _ _ (by omega), bnd_eq]
      rfl
    · have hg : (B8 l)[((n : Int)).toNat]! = ((l[n]!).toNat : Int) := by rw [B8_get hlt, getElem!_pos l n hlt]
      by_cases c : 128 ≤ (l[n]!).toNat
      · obtain ⟨n', h1, h2, h3⟩ := scan_loop l hl m (n + 1) (by omega) (by omega) (fun j hj => by
          by_cases ej : j = n
          · subst ej; exact c
          · exact hb j (by omega))
        refine ⟨n', ?_, by omega, h3⟩
        rw [loopO_inl (s' := ((n + 1 : Nat) : Int)) ?_]
        · exact h1
        · unfold g_ref01_GetInt_l7
          try dsimp only
          rw [cndT _ _ (by rw [B8_len]; omega), cndT _ _ (by omega), gd_pos (by rw [B8_len]; omega), hg, bnd_eq, cndT _ _ (by omega), w_id ⟨by omega, by omega⟩]
          rfl
      · refine ⟨n, loopO_inr ?_, Nat.le_refl _, by omega, h10, hb, .inr (.inr (by omega))⟩
        unfold g_ref01_GetInt_l7
        try dsimp only
        rw [cndT _ _ (by rw [B8_len]; omega), cndT _ _ (by omega), gd_pos (by rw [B8_len]; omega), hg, bnd_eq, cndF _ _ (by omega)]
theorem horS_drop : ∀ (l : List UInt8) (k : Nat), horS (l.drop k) ≤ horS l
  | [], k => by simp
  | c :: r, 0 => Nat.le_refl _
  | c :: r, k + 1 => by
    have := horS_drop r k
    show horS (r.drop k) ≤ c.toNat % 128 + 128 * horS r
    omega
theorem hor_loop (l : List UInt8) (n : Nat) (hn : n ≤ l.length) (hl : l.length ≤ 1000000000) (hH : horS (l.take n) < 18446744073709551616) : ∀ k : Nat, k ≤ n → loopO (g_ref01_GetInt_l46 (B8 l)) ((horS ((l.take n).drop k) : Int), (k : Int) - 1) = some (horS (l.take n) : Int)
  | 0, _ => by
    refine loopO_inr ?_
    unfold g_ref01_GetInt_l46
    try dsimp only
    rw [cndF _ _ (by omega)]
    rfl
  | k + 1, hk => by
    have ih := hor_loop l n hn hl hH k (by omega)
    have hlt : k < l.length := by omega
    have e : (l.take n).drop k = l[k] :: (l.take n).drop (k + 1) := by
      rw [List.drop_eq_getElem_cons (by rw [List.length_take]; omega), List.getElem_take]
    have e2 : horS ((l.take n).drop k) = l[k].toNat % 128 + 128 * horS ((l.take n).drop (k + 1)) := by rw [e]; rfl
    have h1 := horS_drop (l.take n) k
    have hg : (B8 l)[((k : Int)).toNat]! = (l[k].toNat : Int) := B8_get hlt
    rw [loopO_inl (s' := ((horS ((l.take n).drop k) : Int), (k : Int) - 1)) ?_]
    · exact ih
    · unfold g_ref01_GetInt_l46
      try dsimp only
      have ek : ((k + 1 : Nat) : Int) - 1 = (k : Int) := by omega
      rw [ek, cndT _ _ (by omega), gd_pos (by rw [B8_len]; omega), hg, bnd_eq, Int.tmod_eq_emod_of_nonneg (by omega)]
      have w1 : IntKind.u64.wrap ((horS ((l.take n).drop (k + 1)) : Int) * 128) = ((horS ((l.take n).drop (k + 1)) * 128 : Nat) : Int) := by
        rw [show ((horS ((l.take n).drop (k + 1)) : Int) * 128) = ((horS ((l.take n).drop (k + 1)) * 128 : Nat) : Int) by omega]
        exact u64w (by omega)
      have w2 : IntKind.u64.wrap ((l[k].toNat : Int) % 128) = ((l[k].toNat % 128 : Nat) : Int) := by
        rw [show ((l[k].toNat : Int) % 128) = ((l[k].toNat % 128 : Nat) : Int) by omega]
        exact u64w (by omega)
      rw [w1, w2, ← Int.natCast_add, u64w (by omega), w_id ⟨by omega, by omega⟩, e2, Nat.add_comm, Nat.mul_comm 128]
theorem horS_snoc : ∀ (l : List UInt8) (c : UInt8), horS (l ++ [c]) = horS l + c.toNat % 128 * 128 ^ l.length
  | [], c => by show c.toNat % 128 + 128 * 0 = 0 + c.toNat % 128 * 1; omega
  | a :: l, c => by
    show a.toNat % 128 + 128 * horS (l ++ [c]) = a.toNat % 128 + 128 * horS l + c.toNat % 128 * 128 ^ (l.length + 1)
    rw [horS_snoc l c, Nat.pow_succ, Nat.mul_add, Nat.add_assoc]
    congr 2
    rw [Nat.mul_comm 128, Nat.mul_assoc]
theorem take_snoc {l : List UInt8} {k : Nat} (h : k < l.length) : l.take (k + 1) = l.take k ++ [l[k]] := by
  rw [List.take_add_one, List.getElem?_eq_getElem h]; rfl
theorem horS_take {l : List UInt8} {k : Nat} (h : k < l.length) : horS (l.take (k + 1)) = horS (l.take k) + l[k].toNat % 128 * 128 ^ k := by
  rw [take_snoc h, horS_snoc, List.length_take, Nat.min_eq_left (by omega)]
theorem dec_run (l : List UInt8) : ∀ K : Nat, K ≤ 9 → K ≤ l.length → (∀ j, j < K → 128 ≤ (l[j]!).toNat) → dec l 0 0 = dec (l.drop K) K (horS (l.take K))
  | 0, _, _, _ => rfl
  | K + 1, h9, hl, hb => by
    have ih := dec_run l K (by omega) (by omega) fun j hj => hb j (by omega)
    have hlt : K < l.length := by omega
    have hc := hb K (by omega)
    rw [getElem!_pos l K hlt] at hc
    rw [ih, List.drop_eq_getElem_cons hlt, dec, if_neg (by omega), if_neg (by omega), horS_take hlt]
theorem G_rGetInt (l : List UInt8) (hl : l.length ≤ 1000000000) : g_ref01_GetInt (B8 l) = some (getInt l) := by
  obtain ⟨n, h1, _, h3, h4, h5, h6⟩ := scan_loop l hl l.length 0 (by omega) (by omega) fun j hj => by omega
  unfold g_ref01_GetInt
  have h1 : loopO (g_ref01_GetInt_l7 (B8 l)) (0 : Int) = some (n : Int) := h1
  rw [h1, bnd_eq]
  unfold getInt
  by_cases e10 : n = 10
  · have hd := dec_run l 9 (by omega) (by omega) fun j hj => h5 j (by omega)
    have hc := h5 9 (by omega)
    rw [getElem!_pos l 9 (by omega)] at hc
    rw [List.drop_eq_getElem_cons (show 9 < l.length by omega), dec, if_pos (.inl ⟨rfl, by omega⟩)] at hd
    rw [cndT _ _ (by omega), hd]; rfl
  · rw [cndF _ _ (by omega)]
    by_cases el : n = l.length
    · have hd := dec_run l n (by omega) h3 h5
      rw [List.drop_eq_nil_of_le (by omega)] at hd
      rw [cndT _ _ (by rw [B8_len]; omega), hd]; rfl
    · have hlt : n < l.length := by omega
      have hc : (l[n]!).toNat < 128 := by omega
      rw [getElem!_pos l n hlt] at hc
      have hg : (B8 l)[((n : Int)).toNat]! = (l[n].toNat : Int) := B8_get hlt
      have hd := dec_run l n (by omega) h3 h5
      rw [List.drop_eq_getElem_cons hlt, dec] at hd
      rw [cndF _ _ (by rw [B8_len]; omega), hg]
      generalize hcc : l[n].toNat = c at hc hd hg
      have hbl : (B8 l).length = l.length := B8_len l
      have hbad : (cnd (decide ((n : Int) = (9 : Int))) (gd (0 ≤ (n : Int) ∧ (n : Int) < ((B8 l).length : Int)) (cnd (decide ((1 : Int) < (c : Int))) (some (true)) (cnd (decide ((0 : Int) < (n : Int))) (gd (0 ≤ (n : Int) ∧ (n : Int) < ((B8 l).length : Int)) (some (decide ((c : Int) = (0 : Int))))) (some (false))))) (cnd (decide ((0 : Int) < (n : Int))) (gd (0 ≤ (n : Int) ∧ (n : Int) < ((B8 l).length : Int)) (some (decide ((c : Int) = (0 : Int))))) (some (false)))) = some (decide ((n = 9 ∧ 1 < c) ∨ (0 < n ∧ c = 0))) := by
        have hgd : 0 ≤ (n : Int) ∧ (n : Int) < ((B8 l).length : Int) := by rw [hbl]; omega
        by_cases q9 : n = 9
        · rw [cndT _ _ (by omega), gd_pos hgd]
          by_cases q1 : 1 < c
          · rw [cndT _ _ (by omega), decide_eq_true (.inl ⟨q9, q1⟩)]
          · rw [cndF _ _ (by omega), cndT _ _ (by omega), gd_pos hgd]
            congr 1
            rw [decide_eq_decide]; omega
        · rw [cndF _ _ (by omega)]
          by_cases q0 : 0 < n
          · rw [cndT _ _ (by omega), gd_pos hgd]
            congr 1
            rw [decide_eq_decide]; omega
          · rw [cndF _ _ (by omega), decide_eq_false (by omega)]
      rw [hbad]
      simp only [bnd_eq]
      by_cases hb : (n = 9 ∧ 1 < c) ∨ (0 < n ∧ c = 0)
      · rw [if_pos hb] at hd
        rw [cndT _ _ hb, hd]; rfl
      · rw [if_neg hb, if_pos hc] at hd
        have ht := horS_take hlt
        rw [hcc, Nat.mod_eq_of_lt hc] at ht
        rw [← ht] at hd
        have hlen : (l.take n).length = n := by rw [List.length_take]; omega
        have hlo := horS_lt (l.take n)
        rw [hlen] at hlo
        have hz : horS (l.take (n + 1)) < 18446744073709551616 := by
          rw [ht]
          by_cases q9 : n = 9
          · subst q9
            have : c ≤ 1 := by omega
            have h9 : (128 : Nat) ^ 9 = 9223372036854775808 := by decide
            rw [h9] at hlo ⊢
            have : c * 9223372036854775808 ≤ 1 * 9223372036854775808 := Nat.mul_le_mul_right _ this
            omega
          · have hp : (128 : Nat) ^ n ≤ 128 ^ 8 := Nat.pow_le_pow_right (by omega) (by omega)
            have h8 : (128 : Nat) ^ 8 = 72057594037927936 := by decide
            rw [h8] at hp
            have : c * 128 ^ n ≤ 127 * 72057594037927936 := Nat.mul_le_mul (by omega) hp
            omega
        have hloop := hor_loop l (n + 1) (by omega) hl hz (n + 1) (Nat.le_refl _)
        rw [List.drop_eq_nil_of_le (by rw [List.length_take]; omega), show ((n + 1 : Nat) : Int) - 1 = (n : Int) by omega] at hloop
        have hloop : loopO (g_ref01_GetInt_l46 (B8 l)) ((0 : Int), (n : Int)) = some (horS (l.take (n + 1)) : Int) := hloop
        rw [cndF _ _ hb, hloop, hd, if_pos rfl]
        simp only [bnd_eq]
        generalize horS (l.take (n + 1)) = z at hz ⊢
        unfold unzig
        have hm : Int.tmod (z : Int) 2 = ((z % 2 : Nat) : Int) := by rw [Int.tmod_eq_emod_of_nonneg (by omega)]; omega
        have hv : Int.tdiv (z : Int) 2 = ((z / 2 : Nat) : Int) := by rw [Int.tdiv_eq_ediv_of_nonneg (by omega)]; omega
        rw [hm, hv, u64w (by omega), w_id (z := ((z / 2 : Nat) : Int)) ⟨by omega, by omega⟩, w_id (z := (n : Int) + 1) ⟨by omega, by omega⟩]
        by_cases qz : z % 2 = 1
        · rw [cndT _ _ (by omega), if_pos qz, w_id ⟨by omega, by omega⟩]
          rfl
        · rw [cndF _ _ (by omega), if_neg qz]
          rfl
theorem G_rGetBytes (l : List UInt8) (hl : l.length ≤ 1000000000) : g_ref01_GetBytes (B8 l) = some (ofB (getBytes l).1, (getBytes l).2.1, (getBytes l).2.2) := by
  unfold g_ref01_GetBytes getBytes
  rw [G_rGetInt l hl]
  simp only [bnd_eq]
  rcases getInt_cases l with ⟨n, u, hg, hu1, hu2, hn⟩ | hg | hg
  · have hbl : (B8 l).length = l.length := B8_len l
    have hn1 := hn.1
    have hn2 := hn.2
    have hgl : getLen l 1 = if n < 0 then (0, 0, 11) else if (l.length : Int) - (u : Int) < n then (0, 0, 10) else (n, (u : Int), 0) := by
      unfold getLen
      rw [hg]
      dsimp only
      rw [if_neg (fun h => h rfl), Int.ediv_one]
    rw [hg, hgl, cndF _ _ (fun h => h rfl)]
    dsimp only
    by_cases h0 : n < 0
    · rw [cndT _ _ h0, if_pos h0]; rfl
    · rw [cndF _ _ h0, if_neg h0, hbl, w_id (z := (l.length : Int) - (u : Int)) ⟨by omega, by omega⟩]
      by_cases h1 : (l.length : Int) - (u : Int) < n
      · rw [cndT _ _ h1, if_pos h1]; rfl
      · obtain ⟨k, rfl⟩ : ∃ k : Nat, n = k := ⟨n.toNat, by omega⟩
        rw [cndF _ _ h1, if_neg h1, w_id (z := (u : Int) + (k : Int)) ⟨by omega, by omega⟩, gd_pos ⟨by omega, by omega, by omega⟩, show ((u : Int) + (k : Int)) = ((u + k : Nat) : Int) by omega, B8_sub, bStr_B8]
        dsimp only
        rw [if_neg (fun h => h rfl), Int.toNat_natCast, Int.toNat_natCast]
        rfl
  · have hgl : getLen l 1 = (0, 0, 10) := by
      unfold getLen
      rw [hg]
      rfl
    rw [hg, hgl, cndT _ _ (by decide)]; rfl
  · have hgl : getLen l 1 = (0, 0, 11) := by
      unfold getLen
      rw [hg]
      rfl
    rw [hg, hgl, cndT _ _ (by decide)]; rfl
abbrev frZ0 : S_Frame := ⟨0, 0, ByteArray.empty⟩
def digB (l : List UInt8) : List UInt8 := (List.range 16).map fun i => (Sha.sha l).getD i 0
theorem digB_eq (l : List UInt8) : (digV l).toList = B8 (digB l) := by kernel_rfl
def frBy (f : S_Frame) : List UInt8 := digB (ofInput 42 [⟨(frB f).toArray⟩]) ++ frB f
theorem frE_eq (f : S_Frame) : frE f = B8 (frBy f) := by
  unfold frE frBy
  rw [digB_eq, B8_app]
def decT (l : List UInt8) (a b : Int × Int × Int) : S_Frame × Int :=
  if (getBytes ((l.drop 16).drop (a.2.1.toNat + b.2.1.toNat))).2.2 = 0 ∧ frOk ⟨a.1, b.1, ofB (getBytes ((l.drop 16).drop (a.2.1.toNat + b.2.1.toNat))).1⟩ = true ∧ l = frBy ⟨a.1, b.1, ofB (getBytes ((l.drop 16).drop (a.2.1.toNat + b.2.1.toNat))).1⟩ then (⟨a.1, b.1, ofB (getBytes ((l.drop 16).drop (a.2.1.toNat + b.2.1.toNat))).1⟩, 0) else (frZ0, 11)
def decF (l : List UInt8) : S_Frame × Int :=
  if l.length < 16 then (frZ0, 11) else if (getInt (l.drop 16)).2.2 ≠ 0 then (frZ0, 11) else
  if (getInt ((l.drop 16).drop (getInt (l.drop 16)).2.1.toNat)).2.2 ≠ 0 then (frZ0, 11) else decT l (getInt (l.drop 16)) (getInt ((l.drop 16).drop (getInt (l.drop 16)).2.1.toNat))
theorem eqB (x y : List UInt8) : decide (bStr (B8 x) = bStr (B8 y)) = decide (x = y) := by
  rw [bStr_B8, bStr_B8, decide_eq_decide]
  constructor
  · intro h
    injection h with h
    have := congrArg Array.toList h
    simpa using this
  · rintro rfl; rfl
theorem G_Decode (l : List UInt8) (hl : l.length ≤ 1000000) : g_link_Decode (B8 l) = some (decF l) := by
  have hbl : (B8 l).length = l.length := B8_len l
  unfold g_link_Decode decF
  by_cases h16 : l.length < 16
  · rw [cndT _ _ (by rw [hbl]; omega), if_pos h16]
  · rw [cndF _ _ (by rw [hbl]; omega), if_neg h16, gd_pos ⟨by omega, by rw [hbl]; omega, by omega⟩]
    have hs : subL (B8 l) (16 : Int) (((B8 l).length : Nat) : Int) = B8 (l.drop 16) := B8_drop l 16
    rw [hs]
    generalize hr : l.drop 16 = r
    have hrl : r.length ≤ 1000000 := by rw [← hr, List.length_drop]; omega
    have hbr : (B8 r).length = r.length := B8_len r
    rw [G_GetInt r (by omega)]
    simp only [bnd_eq]
    rcases getInt_cases r with ⟨n, u, hg, hu1, hu2, hn⟩ | hg | hg
    · rw [hg, cndT _ _ rfl, if_neg (fun h => h rfl)]
      dsimp only
      rw [gd_pos ⟨by omega, by rw [hbr]; omega, by omega⟩, B8_drop r u, Int.toNat_natCast, G_GetInt (r.drop u) (by rw [List.length_drop]; omega)]
      simp only [bnd_eq]
      rcases getInt_cases (r.drop u) with ⟨n2, u2, hg2, hv1, hv2, hn2⟩ | hg2 | hg2
      · rw [List.length_drop] at hv2
        rw [hg2, cndT _ _ rfl, if_neg (fun h => h rfl)]
        dsimp only
        rw [w_id (z := (u : Int) + (u2 : Int)) ⟨by omega, by omega⟩, gd_pos ⟨by omega, by rw [hbr]; omega, by omega⟩, show ((u : Int) + (u2 : Int)) = ((u + u2 : Nat) : Int) by omega, B8_drop r (u + u2), G_GetBytes (r.drop (u + u2)) (by rw [List.length_drop]; omega)]
        simp only [bnd_eq]
        rw [G_Encode]
        simp only [bnd_eq]
        unfold decT
        dsimp only
        rw [hr, Int.toNat_natCast, Int.toNat_natCast]
        generalize getBytes (r.drop (u + u2)) = d
        unfold g_bytes_Equal
        by_cases hd : d.2.2 = 0
        · rw [cndT _ _ hd]
          by_cases hf : frOk ⟨n, n2, ofB d.1⟩ = true
          · rw [if_pos hf, cndT _ _ rfl, frE_eq, eqB]
            simp only [bnd_eq]
            by_cases he : l = frBy ⟨n, n2, ofB d.1⟩
            · rw [decide_eq_true he, if_pos ⟨hd, hf, he⟩]; rfl
            · rw [decide_eq_false he, if_neg (fun h => he h.2.2)]; rfl
          · rw [if_neg hf, if_neg (fun h => hf h.2.1)]; rfl
        · rw [cndF _ _ hd, if_neg (fun h => hd h.1)]; rfl
      · rw [hg2]; rfl
      · rw [hg2]; rfl
    · rw [hg]; rfl
    · rw [hg]; rfl
def e0 : LEnd := ⟨1, [], 1, []⟩
theorem e0_ok : e0.Ok := by
  constructor <;> simp [e0, Grows]
theorem G_New : g_link_New = some (ofL e0) := rfl
theorem G_sameTexts (l : List ByteArray) (hl : l.length ≤ 1000000) : g_ref01_SameTexts l l = some true := by
  unfold g_ref01_SameTexts
  rw [cnd_neg _ _ (by simp)]
  have := loopO_up (b := g_ref01_SameTexts_l15 l l) (fun i => (i : Int)) 0 l.length (.inr ()) (Nat.zero_le _) (fun i _ hi => by
    simp (disch := omega) only [g_ref01_SameTexts_l15, cnd_dec, if_pos, gd_pos, ne_eq, not_true_eq_false, if_false, w_id]
    rfl) (by simp (disch := omega) only [g_ref01_SameTexts_l15, cnd_dec, if_neg])
  exact (bnd_of this _).trans rfl
theorem G_sameFrames (l : List S_Frame) (hl : l.length ≤ 1000000) : g_ref42_SameFrames l l = some true := by
  unfold g_ref42_SameFrames
  rw [cnd_neg _ _ (by simp)]
  have := loopO_up (b := g_ref42_SameFrames_l15 l l) (fun i => (i : Int)) 0 l.length (.inr ()) (Nat.zero_le _) (fun i _ hi => by
    simp (disch := omega) only [g_ref42_SameFrames_l15, cnd_dec, if_pos, gd_pos, not_true_eq_false, if_false, w_id]
    rfl) (by simp (disch := omega) only [g_ref42_SameFrames_l15, cnd_dec, if_neg])
  exact (bnd_of this _).trans rfl
theorem G_same (x : S_End) (hq : x.vQueue.length ≤ 1000000) (hl : x.vHeld.length ≤ 1000000) : g_ref42_Same x x = some true := by
  unfold g_ref42_Same
  have := loopO_up (b := g_ref42_Same_l15 x x) (fun i => (i : Int)) 0 x.vHeld.length (.inr ()) (Nat.zero_le _) (fun i _ hi => by
    simp (disch := omega) only [g_ref42_Same_l15, cnd_dec, if_pos, gd_pos, not_true_eq_false, if_false, w_id]
    rfl) (by simp (disch := omega) only [g_ref42_Same_l15, cnd_dec, if_neg])
  simp only [cnd_dec, ne_eq, not_true_eq_false, if_false, G_sameTexts _ hq, bnd_eq, Bool.not_true, cnd_false, decide_false]
  exact (bnd_of this _).trans rfl
def sendE (x : LEnd) (s : ByteArray) : LEnd × Int := if 4096 < s.size then (x, 2) else if 64 ≤ x.queue.length then (x, 432) else (x.send s, 0)
theorem G_Send {x : LEnd} (h : x.Ok) (s : ByteArray) : g_link_Send (ofL x) s = some (ofL (sendE x s).1, (sendE x s).2) := by
  have hq := h.ql
  unfold g_link_Send sendE
  rw [G_short]
  simp only [bnd_eq, shortB]
  by_cases h1 : 4096 < s.size
  · rw [cnd_pos _ _ (by simp; omega), if_pos h1]
  · rw [cnd_neg _ _ (by simp; omega), if_neg h1, cnd_dec]
    by_cases h2 : 64 ≤ x.queue.length
    · rw [if_pos (by show (64 : Int) ≤ (x.queue.length : Int); omega), if_pos h2]
    · rw [if_neg (by show ¬ (64 : Int) ≤ (x.queue.length : Int); omega), if_neg h2]
      unfold g_slices_Clone_string_string
      rw [gd_pos (by show x.queue.length ≤ _; omega), bnd_eq, gd_pos (by show (x.queue ++ [s]).length * 16 ≤ _; simp; omega)]
      rfl
theorem G_Idle (x : LEnd) : g_link_Idle (ofL x) = some (decide (x.queue.length = 0)) := by
  unfold g_link_Idle
  congr 1
  exact decide_eq_decide.2 (by show ((x.queue.length : Int)) = 0 ↔ _; omega)
theorem frames_take (x : LEnd) (h : x.queue.length ≠ 0) : x.frames = (List.range (min x.queue.length 8)).map fun k => x.frameAt k := by
  unfold LEnd.frames LEnd.frameAt
  rw [if_neg h]
  refine List.ext_getElem? fun k => ?_
  rw [List.getElem?_map, List.getElem?_map, List.getElem?_zipIdx, List.getElem?_take]
  by_cases hk : k < min x.queue.length 8
  · rw [if_pos (by omega), List.getElem?_range hk, List.getElem?_eq_getElem (by omega)]
    simp [List.getD, List.getElem?_eq_getElem (show k < x.queue.length by omega)]
  · rw [List.getElem?_eq_none (l := List.range _) (by simp; omega)]
    by_cases h8 : k < 8
    · rw [if_pos h8, List.getElem?_eq_none (by omega)]; rfl
    · rw [if_neg h8]; rfl
theorem G_Frames {x : LEnd} (h : x.Ok) : g_link_Frames (ofL x) = some (x.frames.map ofF) := by
  have hq := h.ql; have hb := h.b1; have hb2 := h.b2
  unfold g_link_Frames
  rw [G_Idle, bnd_eq, cnd_dec]
  by_cases h0 : x.queue.length = 0
  · rw [if_pos h0]; unfold LEnd.frames; rw [if_pos h0]; rfl
  · rw [if_neg h0, frames_take x h0]
    have hm : min ((ofL x).vQueue.length : Int) 8 = ((min x.queue.length 8 : Nat) : Int) := by show min ((x.queue.length : Nat) : Int) 8 = _; omega
    have hsub : (subL (ofL x).vQueue 0 (min ((ofL x).vQueue.length : Int) 8)) = x.queue.take (min x.queue.length 8) := by
      rw [hm]; show subL x.queue 0 _ = _
      rw [subL_to _ _ (by omega), Int.toNat_natCast]
    have hlen : (x.queue.take (min x.queue.length 8)).length = min x.queue.length 8 := by rw [List.length_take]; omega
    have := loopO_up (b := g_link_Frames_l17 (ofL x)) (fun i => ((List.range i).map fun k => ofF (x.frameAt k), (i : Int))) 0 (min x.queue.length 8) (((List.range (min x.queue.length 8)).map fun k => ofF (x.frameAt k))) (Nat.zero_le _) (fun i _ hi => by
        simp (disch := omega) only [g_link_Frames_l17, hsub, hlen, cnd_dec, if_pos, gd_pos, bnd_eq]
        rw [gd_pos (by simp; omega), w_id (z := (i : Int) + 1) (by omega), w_id (by show _ ≤ x.base + _ ∧ x.base + _ ≤ _; omega), List.range_succ, List.map_append, List.map_cons, List.map_nil, getE _ _ (by omega), List.getElem_take]
        congr 3
        simp only [ofF, LEnd.frameAt, List.getD, List.getElem?_eq_getElem (show i < x.queue.length by omega)]
        rfl) (by simp (disch := omega) only [g_link_Frames_l17, hsub, hlen, cnd_dec, if_neg])
    rw [gd_pos (by rw [hm]; show 0 ≤ (0 : Int) ∧ _ ∧ _ ≤ ((x.queue.length : Nat) : Int); omega)]
    refine (bnd_of this _).trans ?_
    rw [List.map_map]; rfl
theorem G_Check (x : LEnd) (h64 : ∀ g ∈ x.held, g.1 ≤ 9223372036854775807) (hq : x.queue.length ≤ 9223372036854775807) (hh : x.held.length ≤ 9223372036854775807) : g_link_Check (ofL x) = some (if x.okB then 0 else 3) := by
  have hhead : (cnd (decide ((1 : Int) ≤ (ofL x).vBase)) (cnd (decide ((ofL x).vBase ≤ (1099511627776 : Int))) (cnd (decide ((1 : Int) ≤ (ofL x).vWant)) (cnd (decide ((ofL x).vWant ≤ (1099511627776 : Int))) (bnd (some (decide ((((ofL x).vQueue).length : Int) ≤ (64 : Int)))) fun x5 => some (x5)) (some (false))) (some (false))) (some (false))) (some (false))) = some x.headB := by
    simp only [bnd_eq, cnd_and]
    congr 1
    rw [Bool.eq_iff_iff]
    unfold LEnd.headB
    simp only [Bool.and_eq_true, decide_eq_true_eq]
    show (1 ≤ x.base ∧ x.base ≤ 1099511627776 ∧ 1 ≤ x.want ∧ x.want ≤ 1099511627776 ∧ ((x.queue.length : Nat) : Int) ≤ 64) ↔ _
    omega
  have hl1 : loopO (g_link_Check_l9 (ofL x)) (x.headB, 0) = some (x.headB && x.queueB x.queue.length) := by
    have := loopO_up (b := g_link_Check_l9 (ofL x)) (fun i => (x.headB && x.queueB i, (i : Int))) 0 x.queue.length (x.headB && x.queueB x.queue.length) (Nat.zero_le _) (fun i _ hi => by
      have hqq : (ofL x).vQueue = x.queue := rfl
      have hget : x.queue[((i : Nat) : Int).toNat]! = x.queue[i] := getE _ _ hi
      rw [x.queueB_succ i _ (List.getElem?_eq_getElem hi)]
      simp (disch := omega) only [g_link_Check_l9, hqq, cnd_dec, if_pos, gd_pos, hget, G_short, bnd_eq, cnd_and, w_id, Bool.and_assoc]
      rfl) (by
      have hqq : (ofL x).vQueue = x.queue := rfl
      simp (disch := omega) only [g_link_Check_l9, hqq, cnd_dec, if_neg])
    simpa [LEnd.queueB] using this
  have hl2 : loopO (g_link_Check_l28 (ofL x)) (x.headB && x.queueB x.queue.length, (ofL x).vWant, 0) = some x.okB := by
    have := loopO_up (b := g_link_Check_l28 (ofL x)) (fun i => (x.headB && x.queueB x.queue.length && x.heldB i, x.prev i, (i : Int))) 0 x.held.length x.okB (Nat.zero_le _) (fun i _ hi => by
      have hlen : ((ofL x).vHeld).length = x.held.length := List.length_map ..
      have hget : ((ofL x).vHeld)[((i : Nat) : Int).toNat]! = ofH x.held[i] := by
        rw [getE _ _ (by rw [hlen]; exact hi)]; exact List.getElem_map ..
      have hmem : x.held[i] ∈ x.held := List.getElem_mem hi
      have hle := h64 _ hmem
      have hp : x.prev (i + 1) = x.held[i].1 := by simp [LEnd.prev, List.getElem?_eq_getElem hi]
      rw [x.heldB_succ i _ (List.getElem?_eq_getElem hi), hp]
      simp (disch := omega) only [g_link_Check_l28, hlen, cnd_dec, if_pos, gd_pos, hget, G_short, bnd_eq, w_id]
      have hcond : (cnd (x.headB && x.queueB x.queue.length && x.heldB i) (if x.prev i < (ofH x.held[i]).vSeq then (if IntKind.i64.wrap ((ofH x.held[i]).vSeq - (ofL x).vWant) < 8 then (if (ofH x.held[i]).vSeq < 1099511627776 then some (shortB (ofH x.held[i]).vData) else some false) else some false) else some false) (some false)) = some (x.headB && x.queueB x.queue.length && (x.heldB i && x.heldAt i x.held[i])) := by
        cases hb : (x.headB && x.queueB x.queue.length && x.heldB i) with
        | false =>
          rw [cnd_false]
          simp only [← Bool.and_assoc, hb, Bool.false_and]
        | true =>
          rw [cnd_true]
          simp only [Bool.and_eq_true] at hb
          obtain ⟨⟨h1, h2⟩, h3⟩ := hb
          have hw := x.want_le_prev h3 (by omega)
          have hw2 : 1 ≤ x.want ∧ x.want ≤ 1099511627776 := by
            simp only [LEnd.headB, Bool.and_eq_true, decide_eq_true_eq] at h1; omega
          rw [h1, h2, h3, Bool.true_and, Bool.true_and, Bool.true_and]
          unfold LEnd.heldAt
          by_cases h4 : x.prev i < x.held[i].1
          · rw [if_pos (show x.prev i < (ofH x.held[i]).vSeq from h4), show IntKind.i64.wrap ((ofH x.held[i]).vSeq - (ofL x).vWant) = x.held[i].1 - x.want from w_id (by show _ ≤ x.held[i].1 - x.want ∧ x.held[i].1 - x.want ≤ _; omega)]
            by_cases h5 : x.held[i].1 < x.want + 8
            · rw [if_pos (by omega)]
              by_cases h6 : x.held[i].1 < 1099511627776
              · rw [if_pos (show (ofH x.held[i]).vSeq < _ from h6)]
                simp [h4, h5, h6]; rfl
              · rw [if_neg (show ¬ (ofH x.held[i]).vSeq < _ from h6)]
                simp [h6]
            · rw [if_neg (by omega)]
              simp [h5]
          · rw [if_neg (show ¬ x.prev i < (ofH x.held[i]).vSeq from h4)]
            simp [h4]
      rw [hcond, bnd_eq]
      simp only [Bool.and_assoc]
      rfl) (by
      have hlen : ((ofL x).vHeld).length = x.held.length := List.length_map ..
      simp (disch := omega) only [g_link_Check_l28, hlen, cnd_dec, if_neg]
      rfl)
    have h0 : x.heldB 0 = true := rfl
    have h1 : x.prev 0 = (ofL x).vWant := rfl
    rw [← this, h0, h1, Bool.and_true]
    rfl
  unfold g_link_Check
  rw [hhead, bnd_eq, hl1, bnd_eq, hl2, bnd_eq]
  cases x.okB <;> rfl
theorem G_CheckOk {x : LEnd} (h : x.Ok) : g_link_Check (ofL x) = some 0 := by
  rw [G_Check x (fun g hg => by have := (h.ho g hg).2.1; omega) (by have := h.ql; omega) (by have := h.held_len; omega), (LEnd.okB_iff x).2 h]; rfl
def sa : ByteArray := ⟨#[97]⟩
def sb : ByteArray := ⟨#[98]⟩
def sc : ByteArray := ⟨#[99]⟩
def a1 : LEnd := ⟨1, [sa], 1, []⟩
def a2 : LEnd := ⟨1, [sa, sb], 1, []⟩
def a3 : LEnd := ⟨1, [sa, sb, sc], 1, []⟩
def fr1 : LFrame := ⟨1, 1, sa⟩
def fr2 : LFrame := ⟨2, 1, sb⟩
def fr3 : LFrame := ⟨3, 1, sc⟩
def b1 : LEnd := ⟨1, [], 1, [(2, sb)]⟩
def b2 : LEnd := ⟨1, [], 3, []⟩
def a4 : LEnd := ⟨3, [sc], 1, []⟩
def fa : LFrame := ⟨0, 3, .empty⟩
theorem a1_ok : a1.Ok := (LEnd.okB_iff _).1 (by rfl)
theorem a2_ok : a2.Ok := (LEnd.okB_iff _).1 (by rfl)
theorem a3_ok : a3.Ok := (LEnd.okB_iff _).1 (by rfl)
theorem b1_ok : b1.Ok := (LEnd.okB_iff _).1 (by rfl)
theorem b2_ok : b2.Ok := (LEnd.okB_iff _).1 (by rfl)
theorem G_sanity : g_law42_sanity = some true := by
  have s1 : g_link_Send (⟨(ofL e0).vBase, [], (ofL e0).vWant, []⟩ : S_End) ⟨#[97]⟩ = some (ofL a1, 0) := (G_Send e0_ok ⟨#[97]⟩).trans rfl
  have s2 : g_link_Send (ofL a1) ⟨#[98]⟩ = some (ofL a2, 0) := (G_Send a1_ok ⟨#[98]⟩).trans rfl
  have s3 : g_link_Send (ofL a2) ⟨#[99]⟩ = some (ofL a3, 0) := (G_Send a2_ok ⟨#[99]⟩).trans rfl
  have c1 := G_CheckOk a3_ok
  have i1 : g_link_Idle (ofL a3) = some false := (G_Idle a3).trans rfl
  have i2 : g_link_Idle (⟨(ofL e0).vBase, [], (ofL e0).vWant, []⟩ : S_End) = some true := (G_Idle e0).trans rfl
  have r1 : g_link_Frames (ofL a3) = some ([fr1, fr2, fr3].map ofF) := (G_Frames a3_ok).trans rfl
  have r2 : g_link_Frames (⟨(ofL e0).vBase, [], (ofL e0).vWant, []⟩ : S_End) = some ([⟨0, 1, .empty⟩].map ofF) := (G_Frames e0_ok).trans rfl
  have q1 : g_link_Receive (⟨(ofL e0).vBase, [], (ofL e0).vWant, []⟩ : S_End) (ofF fr2) = some (ofL b1, []) := (G_Receive e0_ok fr2).trans (by rfl)
  have q2 : g_link_Receive (ofL b1) (ofF fr1) = some (ofL b2, [sa, sb]) := (G_Receive b1_ok fr1).trans (by rfl)
  have q3 : g_link_Receive (ofL b2) (ofF fr1) = some (ofL b2, []) := (G_Receive b2_ok fr1).trans (by rfl)
  have q4 : g_link_Receive (ofL a3) (ofF fa) = some (ofL a4, []) := (G_Receive a3_ok fa).trans (by rfl)
  unfold g_law42_sanity
  rw [G_New, bnd_eq, bnd_eq, s1, bnd_eq]
  dsimp only
  rw [s2, bnd_eq]
  dsimp only
  rw [s3, bnd_eq]
  dsimp only
  rw [c1, i1, i2, r1, r2]
  have m1 := G_sameFrames ([fr1, fr2, fr3].map ofF) (by decide)
  have m2 := G_sameFrames ([⟨0, 1, .empty⟩].map ofF) (by decide)
  have m3 := G_sameTexts [sa, sb] (by decide)
  have m4 := G_same (ofL b2) (by decide) (by decide)
  have m5 := G_same (ofL a4) (by decide) (by decide)
  simp only [bnd_eq, ne_eq, not_true_eq_false, decide_false, cnd_false, Bool.not_true]
  rw [show g_ref42_SameFrames (List.map ofF [fr1, fr2, fr3]) [(⟨(1 : Int), (1 : Int), (⟨#[97]⟩ : ByteArray)⟩ : S_Frame), (⟨(2 : Int), (1 : Int), (⟨#[98]⟩ : ByteArray)⟩ : S_Frame), (⟨(3 : Int), (1 : Int), (⟨#[99]⟩ : ByteArray)⟩ : S_Frame)] = some true from m1,
    show g_ref42_SameFrames (List.map ofF [⟨0, 1, .empty⟩]) [(⟨(0 : Int), (1 : Int), ByteArray.empty⟩ : S_Frame)] = some true from m2]
  simp only [bnd_eq, Bool.not_true, cnd_false]
  rw [gd_pos (by decide), show ((List.map ofF [fr1, fr2, fr3])[((1 : Int)).toNat]!) = ofF fr2 from rfl, q1, bnd_eq]
  dsimp only
  rw [gd_pos (by decide), show ((List.map ofF [fr1, fr2, fr3])[((0 : Int)).toNat]!) = ofF fr1 from rfl, q2, bnd_eq]
  dsimp only
  rw [gd_pos (by decide), q3, bnd_eq]
  dsimp only
  rw [show (⟨(0 : Int), (3 : Int), ByteArray.empty⟩ : S_Frame) = ofF fa from rfl, q4, bnd_eq]
  dsimp only
  rw [show g_ref01_SameTexts [sa, sb] [(⟨#[97]⟩ : ByteArray), (⟨#[98]⟩ : ByteArray)] = some true from m3, m4, show g_ref42_Same (ofL a4) (⟨(3 : Int), [(⟨#[99]⟩ : ByteArray)], (1 : Int), ([] : List S_Held)⟩ : S_End) = some true from m5]
  rfl
noncomputable def g_law42_LinkFramesAreCoded (p_f : S_Frame) (p_b : List Int) : Option Bool := cnd (decide ((20000 : Int) < ((p_b).length : Int))) (bnd (g_law42_sanity) fun x2 => some x2) (bnd (g_link_Encode p_f) fun x4 => bnd (g_ref42_Encode p_f) fun x6 => bnd (S := Bool) (cnd (decide (x4.2 ≠ x6.vE)) (some (true)) (bnd (g_ref01_Same x4.1 x6.vB) fun x9 => some (!x9))) fun a17_0 => cnd a17_0 (some false) (bnd (S := Unit ⊕ Bool) (cnd (decide (x4.2 = (0 : Int))) (bnd (g_link_Decode x4.1) fun x14 => bnd (S := Bool) (cnd (decide (¬ (x14.1 = p_f))) (some (true)) (some (decide (x14.2 ≠ (0 : Int))))) fun a30_0 => cnd a30_0 (some (.inr false)) (some (.inl ()))) (some (.inl ()))) fun y19 => match y19 with | .inl () => bnd (g_link_Decode p_b) fun x20 => bnd (g_ref42_Decode p_b) fun x22 => bnd (S := Bool) (bnd (g_law42_sanity) fun x24 => cnd x24 (cnd (decide (x20.1 = x22.1)) (some (decide (x20.2 = x22.2))) (some (false))) (some (false))) fun a42_0 => some a42_0 | .inr r => some r))
set_option maxHeartbeats 4000000 in
theorem w_law42_LinkFramesAreCoded {p_f : S_Frame} {p_b : List Int} {r : Bool} (h : g_law42_LinkFramesAreCoded p_f p_b = some r) : PCalls Tryd.prog 3 [dG c_Frame p_f, dL (cI .u8) p_b] (dB r) := by
  refine PCalls.of (rs := [.tmp 4]) tok Tryd.func3 rfl rfl (Nat.le_of_ble_eq_true rfl) rfl (fun cx hx h0 => ?_)
  simp only [argsT, Nat.reduceAdd, Nat.zero_add]
  unfold g_law42_LinkFramesAreCoded at h
  refine AW.seq ?_
  refine rg hx (by kernel_rfl) fun K hK => ?_
  refine s1 (d := .pt 0 0) T_box ?_
  refine s1 (d := dB false) T_asg ?_
  refine .nil (hK _ _ ?_)
  iterate 2 refine AW.seq ?_
  refine rg hx (by kernel_rfl) fun K hK => ?_
  refine s1 T_mv ?_
  refine s1 (d := dI .i64 ((p_b).length : Int)) (T_len tb_24 tb_5) ?_
  refine s1 T_gtr ?_
  refine .nil (hK _ _ ?_)
  refine AW.condS rfl (fun hb1 => ?_) (fun hb1 => ?_)
  replace h := cnd_t hb1 h
  refine AW.seq ?_
  refine rg hx (by kernel_rfl) fun K hK => ?_
  obtain ⟨x2, hx3, h⟩ := bnd_some h
  refine s1 (d := dB x2) (T_call rfl (w_law42_sanity hx3) rfl lAn (.inl rfl)) ?_
  refine s1 T_as ?_
  refine .nil (hK _ _ ?_)
  refine AW.ret ?_
  obtain rfl := Option.some.inj h
  exact RetV.mk1 (resD_t rfl (.inr (.inr ⟨_, (le_refl' _), rfl, rfl⟩)))
  replace h := cnd_f hb1 h
  refine AW.skip ?_
  refine AW.seq ?_
  refine rg hx (by kernel_rfl) fun K hK => ?_
  refine s1 (d := dG c_Frame p_f) (T_ldA tb_23) ?_
  obtain ⟨x4, hx5, h⟩ := bnd_some h
  refine s1 (T_call rfl (w_link_Encode hx5) (by simp only [List.map_cons, List.map_nil, List.all_cons, List.all_nil, Bool.and_true, Bool.and_eq_true]; exact pure_ex_G _ _) (lA (le_refl' _) lAn) (.inr ⟨_, rfl⟩)) ?_
  refine s1 T_mv ?_
  iterate 2 refine s1 T_ext ?_
  iterate 2 refine s1 T_as ?_
  refine .nil (hK _ _ ?_)
  refine AW.seq ?_
  refine rg hx (by kernel_rfl) fun K hK => ?_
  refine s1 (d := dG c_Frame p_f) (T_ldA tb_23) ?_
  obtain ⟨x6, hx7, h⟩ := bnd_some h
  refine s1 (d := dG c_Bytes x6) (T_call rfl (w_ref42_Encode hx7) (by simp only [List.map_cons, List.map_nil, List.all_cons, List.all_nil, Bool.and_true, Bool.and_eq_true]; exact pure_ex_G _ _) (lA (le_refl' _) lAn) (.inl (pure_G _ _))) ?_
  refine s1 (d := .pt 1 0) (T_alloc tb_30) ?_
  refine s0 (T_st (ds' := [dL (cI .u8) x6.vB, dI .i64 x6.vE]) tb_30) ?_
  refine .nil (hK _ _ ?_)
  iterate 2 refine AW.seq ?_
  obtain ⟨a17_0, hy, h⟩ := bnd_some h
  refine jn ((PE cx .normal (fun a17_0 => [(1, dL (cI .u8) p_b), (2, .pt 0 0), (5, dL (cI .u8) x4.1), (6, dI .i64 x4.2), (35, dB a17_0)]) fun a17_0 => ⟨[(0, [dI .i64 p_f.vSeq, dI .i64 p_f.vAck, dS p_f.vData])], [], 1⟩) a17_0) ?_ ?_
  replace h := hy
  refine rg hx (by kernel_rfl) fun K hK => ?_
  refine s1 T_mv ?_
  refine s1 (T_faP tb_30 tb_26) ?_
  refine s1 (d := dI .i64 x6.vE) (T_ldC tb_26) ?_
  refine s1 T_neq ?_
  refine s1 T_mv ?_
  rcases Bool.eq_false_or_eq_true (decide (x4.2 ≠ x6.vE)) with hb8 | hb8
  replace h := cnd_t hb8 h
  iterate 5 refine no_t rfl rfl hb8 ?_
  refine s1 (d := dB true) (T_pickT hb8) ?_
  refine .nil (hK _ _ ?_)
  obtain rfl := Option.some.inj h
  exact PE.i (wk h0 [0] (wR rfl (wR rfl (wR rfl (wR rfl (wR rfl wTn))))) (vR rfl wVn) wLn)
  replace h := cnd_f hb8 h
  refine g1 hb8 T_mv ?_
  refine g1 hb8 (T_faP tb_30 tb_24) ?_
  refine g1 (d := dL (cI .u8) x6.vB) hb8 (T_ldC tb_24) ?_
  obtain ⟨x9, hx10, h⟩ := bnd_some h
  refine g1 (d := dB x9) hb8 (T_call rfl (w_ref01_Same hx10) rfl (lA (le_refl' _) (lA (le_refl' _) lAn)) (.inl rfl)) ?_
  refine g1 hb8 T_not ?_
  refine s1 (d := dB (!x9)) (T_pickF hb8) ?_
  refine .nil (hK _ _ ?_)
  obtain rfl := Option.some.inj h
  exact PE.i (wk h0 [0] (wR rfl (wR rfl (wR rfl (wR rfl (wR rfl wTn))))) (vR rfl wVn) wLn)
  rintro ex tm' hp' ⟨rfl, hw⟩
  refine AW.weak hw ?_
  refine AW.condS rfl (fun hb12 => ?_) (fun hb12 => ?_)
  replace h := cnd_t hb12 h
  refine AW.seq ?_
  refine rg hx (by kernel_rfl) fun K hK => ?_
  refine s1 (d := dB false) T_asg ?_
  refine .nil (hK _ _ ?_)
  refine AW.ret ?_
  obtain rfl := Option.some.inj h
  exact RetV.mk1 (resD_t rfl (.inr (.inr ⟨_, (le_refl' _), rfl, rfl⟩)))
  replace h := cnd_f hb12 h
  refine AW.skip ?_
  refine AW.seq ?_
  obtain ⟨y, hy, h⟩ := bnd_some h
  refine jn ((PS (PE cx .normal (fun () => [(1, dL (cI .u8) p_b)]) fun () => ⟨[], [], 0⟩) (PR [.tmp 4] fun r => dB r)) y) ?_ ?_
  replace h := hy
  refine AW.seq ?_
  refine rg hx (by kernel_rfl) fun K hK => ?_
  refine s1 T_mv ?_
  refine s1 T_eql ?_
  refine .nil (hK _ _ ?_)
  refine AW.condS rfl (fun hb13 => ?_) (fun hb13 => ?_)
  replace h := cnd_t hb13 h
  refine AW.seq ?_
  refine rg hx (by kernel_rfl) fun K hK => ?_
  refine s1 T_mv ?_
  obtain ⟨x14, hx15, h⟩ := bnd_some h
  refine s1 (T_call rfl (w_link_Decode hx15) rfl (lA (le_refl' _) lAn) (.inr ⟨_, rfl⟩)) ?_
  refine s1 T_mv ?_
  iterate 2 refine s1 T_ext ?_
  refine s1 (d := .pt 1 0) (T_alloc tb_23) ?_
  refine s0 (T_st (ds' := [dI .i64 x14.1.vSeq, dI .i64 x14.1.vAck, dS x14.1.vData]) tb_23) ?_
  refine s1 T_as ?_
  refine .nil (hK _ _ ?_)
  refine AW.seq ?_
  obtain ⟨a30_0, hy, h⟩ := bnd_some h
  refine jn ((PE cx .normal (fun a30_0 => [(1, dL (cI .u8) p_b), (49, dB a30_0)]) fun a30_0 => ⟨[], [], 0⟩) a30_0) ?_ ?_
  replace h := hy
  refine rg hx (by kernel_rfl) fun K hK => ?_
  refine s1 (d := dG c_Frame x14.1) (T_ldA tb_23) ?_
  refine s1 (d := dG c_Frame p_f) (T_ldA tb_23) ?_
  refine s1 (T_gneq tok 6 (by decide) tb_23 rfl (by kernel_rfl) (by kernel_rfl) rfl rfl rfl rfl (eqF_Frame _) (eqF_Frame _) (eqI_Frame _ _)) ?_
  refine s1 T_mv ?_
  rcases Bool.eq_false_or_eq_true (decide (¬ (x14.1 = p_f))) with hb16 | hb16
  replace h := cnd_t hb16 h
  iterate 2 refine no_t rfl rfl hb16 ?_
  refine s1 (d := dB true) (T_pickT hb16) ?_
  refine .nil (hK _ _ ?_)
  obtain rfl := Option.some.inj h
  exact PE.i (wk h0 [] (wR rfl (wR rfl wTn)) wVn wLn)
  replace h := cnd_f hb16 h
  refine g1 hb16 T_mv ?_
  refine g1 hb16 T_neq ?_
  refine s1 (d := dB (decide (x14.2 ≠ (0 : Int)))) (T_pickF hb16) ?_
  refine .nil (hK _ _ ?_)
  obtain rfl := Option.some.inj h
  exact PE.i (wk h0 [] (wR rfl (wR rfl wTn)) wVn wLn)
  rintro ex tm' hp' ⟨rfl, hw⟩
  refine AW.weak hw ?_
  refine AW.condS rfl (fun hb18 => ?_) (fun hb18 => ?_)
  replace h := cnd_t hb18 h
  refine AW.seq ?_
  refine rg hx (by kernel_rfl) fun K hK => ?_
  refine s1 (d := dB false) T_asg ?_
  refine .nil (hK _ _ ?_)
  refine AW.ret ?_
  obtain rfl := Option.some.inj h
  refine PS.r (PR.i ?_)
  exact RetV.mk1 (resD_t rfl (.inr (.inr ⟨_, (le_refl' _), rfl, rfl⟩)))
  replace h := cnd_f hb18 h
  refine AW.skip ?_
  obtain rfl := Option.some.inj h
  exact PS.l (PE.i (wk h0 [] (wR rfl wTn) wVn wLn))
  replace h := cnd_f hb13 h
  refine AW.skip ?_
  obtain rfl := Option.some.inj h
  exact PS.l (PE.i (wk h0 [] (wR rfl wTn) wVn wLn))
  rcases y with ⟨⟩ | r
  rintro ex tm' hp' ⟨rfl, hw⟩
  refine AW.weak hw ?_
  refine AW.seq ?_
  refine rg hx (by kernel_rfl) fun K hK => ?_
  refine s1 T_mv ?_
  obtain ⟨x20, hx21, h⟩ := bnd_some h
  refine s1 (T_call rfl (w_link_Decode hx21) rfl (lA (le_refl' _) lAn) (.inr ⟨_, rfl⟩)) ?_
  refine s1 T_mv ?_
  iterate 2 refine s1 T_ext ?_
  refine s1 (d := .pt 0 0) (T_alloc tb_23) ?_
  refine s0 (T_st (ds' := [dI .i64 x20.1.vSeq, dI .i64 x20.1.vAck, dS x20.1.vData]) tb_23) ?_
  refine s1 T_as ?_
  refine .nil (hK _ _ ?_)
  refine AW.seq ?_
  refine rg hx (by kernel_rfl) fun K hK => ?_
  refine s1 T_mv ?_
  obtain ⟨x22, hx23, h⟩ := bnd_some h
  refine s1 (T_call rfl (w_ref42_Decode hx23) rfl (lA (le_refl' _) lAn) (.inr ⟨_, rfl⟩)) ?_
  refine s1 T_mv ?_
  iterate 2 refine s1 T_ext ?_
  refine s1 (d := .pt 1 0) (T_alloc tb_23) ?_
  refine s0 (T_st (ds' := [dI .i64 x22.1.vSeq, dI .i64 x22.1.vAck, dS x22.1.vData]) tb_23) ?_
  refine s1 T_as ?_
  refine .nil (hK _ _ ?_)
  refine AW.seq ?_
  obtain ⟨a42_0, hy, h⟩ := bnd_some h
  refine jn ((PE cx .normal (fun a42_0 => [(4, dB a42_0)]) fun a42_0 => ⟨[], [], 0⟩) a42_0) ?_ ?_
  replace h := hy
  refine rg hx (by kernel_rfl) fun K hK => ?_
  obtain ⟨x24, hx25, h⟩ := bnd_some h
  refine s1 (d := dB x24) (T_call rfl (w_law42_sanity hx25) rfl lAn (.inl rfl)) ?_
  refine s1 T_mv ?_
  rcases Bool.eq_false_or_eq_true x24 with hb26 | hb26
  replace h := cnd_t hb26 h
  refine g1 (d := dG c_Frame x20.1) hb26 (T_ldA tb_23) ?_
  refine g1 (d := dG c_Frame x22.1) hb26 (T_ldA tb_23) ?_
  refine g1 hb26 (T_geql tok 6 (by decide) tb_23 rfl (by kernel_rfl) (by kernel_rfl) rfl rfl rfl rfl (eqF_Frame _) (eqF_Frame _) (eqI_Frame _ _)) ?_
  refine s1 (d := dB (decide (x20.1 = x22.1))) (T_pickT hb26) ?_
  refine s1 T_mv ?_
  rcases Bool.eq_false_or_eq_true (decide (x20.1 = x22.1)) with hb27 | hb27
  replace h := cnd_t hb27 h
  iterate 2 refine g1 hb27 T_mv ?_
  refine g1 hb27 T_eql ?_
  refine s1 (d := dB (decide (x20.2 = x22.2))) (T_pickT hb27) ?_
  refine s1 T_as ?_
  refine .nil (hK _ _ ?_)
  obtain rfl := Option.some.inj h
  exact PE.i (wk h0 [] (wR rfl wTn) wVn wLn)
  replace h := cnd_f hb27 h
  iterate 3 refine no_t rfl rfl hb27 ?_
  refine s1 (d := dB false) (T_pickF hb27) ?_
  refine s1 T_as ?_
  refine .nil (hK _ _ ?_)
  obtain rfl := Option.some.inj h
  exact PE.i (wk h0 [] (wR rfl wTn) wVn wLn)
  replace h := cnd_f hb26 h
  iterate 3 refine no_t rfl rfl hb26 ?_
  refine s1 (d := dB false) (T_pickF hb26) ?_
  refine s1 T_mv ?_
  iterate 3 refine no_t rfl rfl rfl ?_
  refine s1 (d := dB false) (T_pickF rfl) ?_
  refine s1 T_as ?_
  refine .nil (hK _ _ ?_)
  obtain rfl := Option.some.inj h
  exact PE.i (wk h0 [] (wR rfl wTn) wVn wLn)
  rintro ex tm' hp' ⟨rfl, hw⟩
  refine AW.weak hw ?_
  refine AW.ret ?_
  obtain rfl := Option.some.inj h
  exact RetV.mk1 (resD_t rfl (.inr (.inr ⟨_, (le_refl' _), rfl, rfl⟩)))
  rintro ex tm' hp' ⟨rfl, hw⟩
  obtain rfl := Option.some.inj h
  exact hw
theorem G_rSame (x y : List UInt8) : g_ref01_Same (B8 x) (B8 y) = some (decide (x = y)) := by
  unfold g_ref01_Same
  rw [eqB]
theorem G_rDecode (l : List UInt8) (hl : l.length ≤ 1000000) : g_ref42_Decode (B8 l) = some (decF l) := by
  have hbl : (B8 l).length = l.length := B8_len l
  unfold g_ref42_Decode decF
  by_cases h16 : l.length < 16
  · rw [cndT _ _ (by rw [hbl]; omega), if_pos h16]
  · rw [cndF _ _ (by rw [hbl]; omega), if_neg h16, gd_pos ⟨by omega, by rw [hbl]; omega, by omega⟩]
    have hs : subL (B8 l) (16 : Int) (((B8 l).length : Nat) : Int) = B8 (l.drop 16) := B8_drop l 16
    rw [hs]
    generalize hr : l.drop 16 = r
    have hrl : r.length ≤ 1000000 := by rw [← hr, List.length_drop]; omega
    have hbr : (B8 r).length = r.length := B8_len r
    rw [G_rGetInt r (by omega)]
    simp only [bnd_eq]
    rcases getInt_cases r with ⟨n, u, hg, hu1, hu2, hn⟩ | hg | hg
    · rw [hg, cndF _ _ (fun h => h rfl), if_neg (fun h => h rfl)]
      dsimp only
      rw [gd_pos ⟨by omega, by rw [hbr]; omega, by omega⟩, B8_drop r u, Int.toNat_natCast, G_rGetInt (r.drop u) (by rw [List.length_drop]; omega)]
      simp only [bnd_eq]
      rcases getInt_cases (r.drop u) with ⟨n2, u2, hg2, hv1, hv2, hn2⟩ | hg2 | hg2
      · rw [List.length_drop] at hv2
        rw [hg2, cndF _ _ (fun h => h rfl), if_neg (fun h => h rfl)]
        dsimp only
        rw [w_id (z := (u : Int) + (u2 : Int)) ⟨by omega, by omega⟩, gd_pos ⟨by omega, by rw [hbr]; omega, by omega⟩, show ((u : Int) + (u2 : Int)) = ((u + u2 : Nat) : Int) by omega, B8_drop r (u + u2), G_rGetBytes (r.drop (u + u2)) (by rw [List.length_drop]; omega)]
        simp only [bnd_eq]
        rw [G_rEncode]
        simp only [bnd_eq]
        unfold decT
        dsimp only
        rw [hr, Int.toNat_natCast, Int.toNat_natCast]
        generalize getBytes (r.drop (u + u2)) = d
        by_cases hd : d.2.2 = 0
        · rw [cndF _ _ (fun h => h hd)]
          by_cases hf : frOk ⟨n, n2, ofB d.1⟩ = true
          · rw [if_pos hf, cndF _ _ (fun h => h rfl), frE_eq, G_rSame]
            simp only [bnd_eq]
            by_cases he : l = frBy ⟨n, n2, ofB d.1⟩
            · rw [decide_eq_true he.symm, if_pos ⟨hd, hf, he⟩]; rfl
            · rw [decide_eq_false (fun h => he h.symm), if_neg (fun h => he h.2.2)]; rfl
          · rw [if_neg hf, if_neg (fun h => hf h.2.1)]; rfl
        · rw [cndT _ _ hd, if_neg (fun h => hd h.1)]; rfl
      · rw [hg2]; rfl
      · rw [hg2]; rfl
    · rw [hg]; rfl
    · rw [hg]; rfl
theorem digB_len (l : List UInt8) : (digB l).length = 16 := by
  unfold digB
  rw [List.length_map, List.length_range]
theorem drop_app {α : Type} (a b : List α) : (a ++ b).drop a.length = b := by
  rw [List.drop_append, List.drop_length, Nat.sub_self, List.drop_zero, List.nil_append]
theorem decF_enc (f : S_Frame) (h : frOk f = true) : decF (frBy f) = (f, 0) := by
  obtain ⟨a, b, c⟩ := f
  obtain ⟨h1, h2, h3⟩ := frOk_b h
  have h1 : I64 a := h1
  have h2 : I64 b := h2
  have h3 : c.size ≤ 4096 := h3
  have hdl := digB_len (ofInput 42 [⟨(frB ⟨a, b, c⟩).toArray⟩])
  have hd16 : (frBy ⟨a, b, c⟩).drop 16 = encInt a ++ (encInt b ++ encBytes c) := by
    unfold frBy
    rw [← hdl, drop_app]
    unfold frB
    rw [List.append_assoc]
  have hlen : ¬ (frBy ⟨a, b, c⟩).length < 16 := by
    unfold frBy
    rw [List.length_append, hdl]; omega
  have g1 : getInt (encInt a ++ (encInt b ++ encBytes c)) = (a, ((encInt a).length : Int), 0) := getInt_enc h1 _
  have g2 : getInt (encInt b ++ encBytes c) = (b, ((encInt b).length : Int), 0) := getInt_enc h2 _
  have g3 : getBytes (encBytes c) = (c.data.toList, ((encBytes c).length : Int), 0) := by
    have := getBytes_enc (x := c.data.toList) (by show c.size ≤ _; omega) []
    rw [List.append_nil, ← encBytes_eq] at this
    exact this
  have hdr : (encInt a ++ (encInt b ++ encBytes c)).drop ((encInt a).length + (encInt b).length) = encBytes c := by
    rw [← List.append_assoc, ← List.length_append, drop_app]
  have hob : ofB c.data.toList = c := rfl
  unfold decF
  rw [if_neg hlen, hd16, g1, if_neg (fun h => h rfl)]
  dsimp only
  rw [Int.toNat_natCast, drop_app, g2, if_neg (fun h => h rfl)]
  unfold decT
  dsimp only
  rw [hd16, Int.toNat_natCast, Int.toNat_natCast, hdr, g3]
  dsimp only
  rw [hob, if_pos ⟨rfl, h, rfl⟩]
theorem frBy_len {f : S_Frame} (h : frOk f = true) : (frBy f).length ≤ 6000 := by
  have := frB_len h
  unfold frBy
  rw [List.length_append, digB_len]
  omega
theorem G_frames (f : S_Frame) (b : List Int) (hb : ∀ n ∈ b, 0 ≤ n ∧ n ≤ 255) : g_law42_LinkFramesAreCoded f b = some true := by
  obtain ⟨l, rfl⟩ := B8_of hb
  have hbl : (B8 l).length = l.length := B8_len l
  unfold g_law42_LinkFramesAreCoded
  by_cases hl : (20000 : Int) < ((B8 l).length : Int)
  · rw [cndT _ _ hl, G_sanity]; rfl
  · have hl2 : l.length ≤ 20000 := by omega
    rw [cndF _ _ hl, G_Encode, G_rEncode, G_Decode l (by omega), G_rDecode l (by omega), G_sanity]
    simp only [bnd_eq]
    have htail : (bnd (S := Bool) (cnd true (cnd (decide True) (some (decide True)) (some (false))) (some (false))) fun a42_0 => some a42_0) = some true := by
      rw [decide_eq_true trivial]; rfl
    by_cases hf : frOk f = true
    · rw [if_pos hf, if_pos hf, frE_eq]
      dsimp only
      rw [cndF _ _ (fun h => h rfl), G_rSame, decide_eq_true rfl]
      simp only [bnd_eq]
      rw [Bool.not_true, cnd_false, cndT _ _ trivial, G_Decode _ (Nat.le_trans (frBy_len hf) (by omega)), decF_enc f hf]
      simp only [bnd_eq]
      rw [cndF _ _ (fun h => h trivial), decide_eq_false (fun h => h rfl)]
      simp only [bnd_eq, cnd_false]
      exact htail
    · rw [if_neg hf, if_neg hf]
      dsimp only
      rw [cndF _ _ (fun h => h rfl), show g_ref01_Same [] [] = some (decide (([] : List UInt8) = [])) from G_rSame [] [], decide_eq_true rfl]
      simp only [bnd_eq]
      rw [Bool.not_true, cnd_false, cndF _ _ (by decide)]
      simp only [bnd_eq]
      exact htail
section
open Go.ChangeShapes Go.WideShapes Go.ChangeAt Go.RowKit Go.Deep
section
variable {H : Type} {enc : TypeId × Value → H} {P : Program}
theorem post_of_below {f : Func} {s : ChangeSpec} {apart fresh handsOn again : Bool} {W W' : World} {args : Array Value} {v : Value} {ds gs : List (DataW H)} {before pa pv : List MemPlace}
    (hW : DataW.Whole enc P f.params.toList s.vars apart W args.toList ds gs before)
    (hres : ∀ (b : Nat) (sp : Nat → Bool) (hd : Bool), DataW.TrodAll enc P W' b sp hd f.resultTypes.toList (v.resultList f.resultTypes.size) (s.fn H (ds ++ gs)).results [])
    (hargs : ∀ sp : Nat → Bool, (∀ p ∈ before, sp p.block = true) → DataW.TrodAll enc P W' 0 sp true f.params.toList args.toList (s.fn H (ds ++ gs)).args pa)
    (hvars : ∀ sp : Nat → Bool, (∀ p ∈ before, sp p.block = true) → DataW.TrodVars enc P W' sp s.vars (s.fn H (ds ++ gs)).vars pv)
    (hps : before = pa ++ pv) (hb : Below W.heap.size W W')
    (hok : ∀ (j : Nat) (t : TypeId) (r : Value), f.resultTypes[j]? = some t → (v.resultList f.resultTypes.size)[j]? = some r → Value.okWide P W' .any 0 t r) :
    s.post enc P f apart fresh handsOn again W args v W' := by
  have hlt : ∀ p ∈ before, p.block < W.heap.size := fun p hp => hW.lt p hp
  have hold : ∀ p ∈ before, (fun b => decide (b < W.heap.size)) p.block = true := fun p hp => by simpa using hlt p hp
  refine ⟨ds, gs, before, [], pa, pv, hW, hres _ _ _, hargs _ hold, hvars _ hold, World.keptBut_mono (fun p hp => ⟨hp, ?_⟩) (hb.frame (· ∈ before)), fun _ => ?_⟩
  · rw [hps, List.mem_append] at hp
    exact Or.inr hp
  · obtain ⟨_, _, _, _, _, hz, hn⟩ := hW
    refine ⟨hok, _, _, ([] ++ pa) ++ pv, ⟨[] ++ pa, pv, trodAll_append (hargs _ (fun _ _ => rfl)) (hres _ _ _), hvars _ (fun _ _ => rfl), rfl, ?_, ?_⟩, ?_⟩
    · intro b off hp
      have hin : MemPlace.cell b off ∈ before := by rw [hps]; simpa using hp
      rw [hb.frozen (hlt _ hin)]
      exact hz b off hin
    · intro ha
      have := hn ha
      rw [hps] at this
      simpa using this
    · intro p hp _
      rw [hps]
      simpa using hp
theorem trodAll_below (hl : laidOutB P = true) {W W' : World} (hb : Below W.heap.size W W') {sp : Nat → Bool} : ∀ (ts : List TypeId) (vs : List Value) (ds : List (DataW H)) (p : List MemPlace),
    (ts.all fun t => P.readableRec t && decide (t < P.types.size)) = true → DataW.TrodAll enc P W 0 (fun _ => true) true ts vs ds p → (∀ x ∈ p, x.block < W.heap.size) → (∀ x ∈ p, sp x.block = true) →
    DataW.TrodAll enc P W' 0 sp true ts vs ds p := by
  intro ts
  induction ts with
  | nil =>
    intro vs ds p _ h _ _
    cases vs with
    | nil => cases ds with
      | nil => exact h
      | cons d ds => exact h.elim
    | cons v vs => exact h.elim
  | cons t ts ih =>
    intro vs ds p hr h hlt hs
    cases vs with
    | nil => exact h.elim
    | cons v vs =>
      cases ds with
      | nil => exact h.elim
      | cons d ds =>
        obtain ⟨p1, q, h1, h2, rfl⟩ := h
        simp only [List.all_cons, Bool.and_eq_true, decide_eq_true_eq] at hr
        refine ⟨p1, q, WideElems.Trod_stays hl hr.1.1 hr.1.2 h1 (fun x hx => hb.same (hlt x (by simp [hx]))) (fun x hx => hs x (by simp [hx])), ih vs ds q hr.2 h2 (fun x hx => hlt x (by simp [hx])) (fun x hx => hs x (by simp [hx])), rfl⟩
theorem law_post {f : Func} {s : ChangeSpec} {W W' : World} {args : Array Value} {ds gs : List (DataW H)} {before : List MemPlace} {tb : TypeId}
    (hl : laidOutB P = true) (hv : s.vars = []) (hrec : (f.params.toList.all fun t => P.readableRec t && decide (t < P.types.size)) = true)
    (hres : f.resultTypes = #[tb]) (htb : P.underlying tb = some .bool)
    (hW : DataW.Whole enc P f.params.toList s.vars false W args.toList ds gs before)
    (hfn : s.fn H (ds ++ gs) = { results := [.lit (.bool true)], args := ds }) (hb : Below W.heap.size W W') :
    s.post enc P f false true false false W args (.bool true) W' := by
  have hW' := hW
  obtain ⟨p, q, hA, hV, hpq, _, _⟩ := hW
  rw [hv] at hV
  have hq : q = [] := by
    cases gs with
    | nil => exact hV
    | cons g gs => exact hV.elim
  subst hq
  rw [List.append_nil] at hpq
  subst hpq
  refine post_of_below (pa := before) (pv := []) hW' (fun b sp hd => ?_) (fun sp hsp => ?_) (fun sp _ => ?_) (by simp) hb ?_
  · rw [hres, hfn]
    exact trodAll_cons_mk (shut_bool htb _) trodAll_mk0
  · rw [hfn]
    exact trodAll_below hl hb _ _ _ _ hrec hA (fun x hx => hW'.lt x hx) hsp
  · rw [hv, hfn]; rfl
  · exact ok_one hres rfl (okWide_bool_mk htb _)
end
theorem hv_of {P : Program} {W : World} {params : Array TypeId} {args : Array Value} (h : ∀ (j : Nat) t v, params[j]? = some t → args[j]? = some v → Value.okWide P W .any 0 t v ∨ ∃ base, Value.okWide P W .any base t v) (j : Nat) {t : TypeId} {v : Value}
    (h1 : params[j]? = some t) (h2 : args[j]? = some v) : ∃ base, Value.okWide P W .any base t v := by
  rcases h j t v h1 h2 with h | h
  · exact ⟨0, h⟩
  · exact h
end
section
open Go.ChangeShapes Go.WideShapes Go.ChangeAt Go.RowKit Go.Deep
def wtFs (tb : TypeId → Option TyE) (f : TypeId → List E → Prop) : List (Nat × TypeId) → List E → Prop
  | [], xs => xs = []
  | (_, t) :: fs, xs => ∃ j, tb t = some j ∧ j.size ≤ xs.length ∧ f t (xs.take j.size) ∧ wtFs tb f fs (xs.drop j.size)
def wtE (tb : TypeId → Option TyE) : Nat → TypeId → List E → Prop
  | 0, _, _ => False
  | k + 1, t, xs => ∃ i, tb t = some i ∧ xs.length = i.size ∧ match i.ty with
    | .int kd => ∃ n, xs = [.lit (.int kd n)] ∧ (Lit.int kd n).wf = true
    | .bool => ∃ b, xs = [.lit (.bool b)]
    | .str => ∃ s : ByteArray, xs = [.lit (.string s)] ∧ s.size ≤ maxLen
    | .slice e => ∃ j n ys, tb e = some j ∧ xs = [.sl j.size n ys] ∧ ys.length = n * j.size ∧ n ≤ maxLen ∧ ∀ i, i < n → wtE tb k e ((ys.drop (i * j.size)).take j.size)
    | .struct fs => wtFs tb (wtE tb k) fs xs
    | .arr n e => ∃ j, tb e = some j ∧ xs.length = n * j.size ∧ ∀ i, i < n → wtE tb k e ((xs.drop (i * j.size)).take j.size)
    | _ => False
def tileFs (tb : TypeId → Option TyE) (f : TypeId → Bool) : List (Nat × TypeId) → Nat → Nat → Bool
  | [], off, n => off == n
  | (o, t) :: fs, off, n => o == off && f t && match tb t with
    | some j => tileFs tb f fs (off + j.size) n
    | none => false
def okTy (tb : TypeId → Option TyE) : Nat → TypeId → Bool
  | 0, _ => false
  | k + 1, t => match tb t with
    | some i => match i.ty with
      | .int _ | .bool | .str => i.size == 1
      | .slice e => i.size == 1 && okTy tb k e && match tb e with
        | some j => decide (0 < j.size)
        | none => false
      | .struct fs => tileFs tb (okTy tb k) fs 0 i.size
      | .arr n e => okTy tb k e && match tb e with
        | some j => i.size == n * j.size
        | none => false
      | _ => false
    | none => false
section
variable {H : Type} {enc : TypeId × Value → H} {P : Program} {tb : TypeId → Option TyE} {W : World} {sp : Nat → Bool} {hd : Bool} {base : Nat}
theorem TOk.cells (tok : TOk P tb) {t : TypeId} {i : TyE} (h : tb t = some i) : P.cellsOf t = i.size := by
  obtain ⟨f, z, h1, h2, _⟩ := tok.inf h
  unfold Program.cellsOf
  rw [h1]
  exact h2
def F0 : Addr → Prop := fun _ => False
theorem chunks_ex {z : Nat} {us : List Value} {Good : List E → Prop} : ∀ (n : Nat), us.length = n * z → (∀ i, i < n → ∃ xs, Pw (RepE W F0) xs ((us.drop (i * z)).take z) ∧ Good xs) →
    ∃ ys, Pw (RepE W F0) ys us ∧ ys.length = n * z ∧ ∀ i, i < n → Good ((ys.drop (i * z)).take z)
  | 0, hl, _ => ⟨[], by rw [Nat.zero_mul] at hl; rw [List.eq_nil_of_length_eq_zero hl]; exact Pw.nil, by simp, fun i h => absurd h (Nat.not_lt_zero _)⟩
  | n + 1, hl, h => by
    rw [Nat.succ_mul] at hl
    have hlt : (us.take (n * z)).length = n * z := by rw [List.length_take]; omega
    obtain ⟨ys, h1, h2, h3⟩ := chunks_ex (us := us.take (n * z)) n hlt fun i hi => by
      obtain ⟨xs, g1, g2⟩ := h i (by omega)
      have hm : i * z + z ≤ n * z := by rw [← Nat.succ_mul]; exact Nat.mul_le_mul_right _ hi
      refine ⟨xs, ?_, g2⟩
      rw [List.drop_take, List.take_take, Nat.min_eq_left (by omega)]
      exact g1
    obtain ⟨xs, g1, g2⟩ := h n (by omega)
    have hx : xs.length = z := by rw [g1.1, List.length_take, List.length_drop]; omega
    refine ⟨ys ++ xs, ?_, by rw [List.length_append, h2, hx, Nat.succ_mul], fun i hi => ?_⟩
    · have e : us = us.take (n * z) ++ (us.drop (n * z)).take z := by
        rw [List.take_of_length_le (l := us.drop (n * z)) (by rw [List.length_drop]; omega), List.take_append_drop]
      rw [e]
      exact h1.append g1
    · rcases Nat.lt_or_ge i n with hin | hin
      · have hm : i * z + z ≤ n * z := by rw [← Nat.succ_mul]; exact Nat.mul_le_mul_right _ hin
        rw [List.drop_append_of_le_length (by omega), List.take_append_of_le_length (by rw [List.length_drop]; omega)]
        exact h3 i hin
      · obtain rfl : i = n := by omega
        rw [List.drop_append, h2, Nat.sub_self, List.drop_of_length_le (by omega)]
        simp only [List.drop_zero, List.nil_append]
        rw [List.take_of_length_le (by omega)]
        exact g2
theorem e_of_trod (tok : TOk P tb) : ∀ (k : Nat) (fuel : Nat) (t : TypeId) (cs : List Value) (x : DataW H × List MemPlace), okTy tb k t = true → DataW.trod enc P W base sp hd fuel t cs = some x → ∃ xs, Pw (RepE W F0) xs cs ∧ wtE tb k t xs
  | 0, _, _, _, _, h, _ => by cases h
  | k + 1, fuel, t, cs, x, hok, h => by
    unfold okTy at hok
    cases ht : tb t with
    | none => rw [ht] at hok; cases hok
    | some i =>
      rw [ht] at hok
      dsimp only at hok
      cases hty : i.ty with
      | int kd =>
        rw [hty] at hok
        have hz : i.size = 1 := by simpa using hok
        obtain ⟨n, rfl, _, hw⟩ := DataW.trod_int (tok.int ht hty) h
        exact ⟨[.lit (.int kd n)], Pw.cons (.lit _ rfl) Pw.nil, i, ht, by rw [hz]; rfl, by rw [hty]; exact ⟨n, rfl, hw⟩⟩
      | bool =>
        rw [hty] at hok
        have hz : i.size = 1 := by simpa using hok
        obtain ⟨dd, hd1, hd2⟩ := tok.und ht
        rw [hty] at hd2
        have hb : P.underlying t = some .bool := by cases dd <;> simp [Ty.of] at hd2; exact hd1
        obtain ⟨b, rfl, _⟩ := DataW.trod_bool hb h
        exact ⟨[.lit (.bool b)], Pw.cons (.lit _ rfl) Pw.nil, i, ht, by rw [hz]; rfl, by rw [hty]; exact ⟨b, rfl⟩⟩
      | str =>
        rw [hty] at hok
        have hz : i.size = 1 := by simpa using hok
        obtain ⟨s, rfl, _, hs⟩ := DataW.trod_string (tok.str ht hty) h
        exact ⟨[.lit (.string s)], Pw.cons (.lit _ rfl) Pw.nil, i, ht, by rw [hz]; rfl, by rw [hty]; exact ⟨s, rfl, hs⟩⟩
      | slice e =>
        rw [hty] at hok
        dsimp only at hok
        cases he : tb e with
        | none => rw [he] at hok; simp at hok
        | some j =>
          rw [he] at hok
          simp only [Bool.and_eq_true, beq_iff_eq, decide_eq_true_eq] at hok
          obtain ⟨⟨hz, hoe⟩, hjz⟩ := hok
          have hce := tok.cells he
          rcases open_slice (tok.slice ht hty) h with ⟨rfl, _⟩ | ⟨a, len, cap, m, n, D, Pl, rfl, hb, hlc, hcm, hm, _, hi⟩
          · exact ⟨[.sl j.size 0 []], Pw.cons (.sl _ 0 [] none 0 (fun _ => undef) (by simp) hjz (Nat.le_refl _) (Nat.zero_le _) (fun h => absurd h (Nat.lt_irrefl _)) (fun _ h => by cases h) (fun _ _ h => by simp at h)) Pw.nil,
              i, ht, by rw [hz]; rfl, by rw [hty]; exact ⟨j, 0, [], he, rfl, by simp, Nat.zero_le _, fun i h => absurd h (Nat.not_lt_zero _)⟩⟩
          · have hle : len ≤ m := by rw [hm]; split <;> omega
            rw [hce] at hi
            let us : List Value := (List.range (len * j.size)).map fun q => (W.cell? (a.add q)).getD undef
            have hul : us.length = len * j.size := by simp [us]
            have hu : ∀ q, q < len * j.size → us[q]? = some ((W.cell? (a.add q)).getD undef) := fun q hq => by simp [us, hq]
            have hchunk : ∀ i, i < len → ∃ cs', W.cells? base (a.add (i * j.size)) j.size = some cs' ∧ cs' = (us.drop (i * j.size)).take j.size := by
              intro i hil
              obtain ⟨cs', hc, _⟩ := hi i (by omega)
              obtain ⟨_, hcl, hcc⟩ := World.cells?_some hc
              refine ⟨cs', hc, List.ext_getElem? fun q => ?_⟩
              have hm2 : i * j.size + j.size ≤ len * j.size := by rw [← Nat.succ_mul]; exact Nat.mul_le_mul_right _ hil
              rw [List.getElem?_take, List.getElem?_drop]
              split
              · rename_i hq
                have h1 := hcc q hq
                rw [add_of_add] at h1
                rw [hu _ (by omega), h1]
                rw [List.getElem?_eq_getElem (by omega)]; rfl
              · rename_i hq
                rw [List.getElem?_eq_none (by omega)]
            obtain ⟨ys, hy1, hy2, hy3⟩ := chunks_ex (W := W) (us := us) (z := j.size) (Good := wtE tb k e) len hul fun i hil => by
              obtain ⟨cs', hc, hcs'⟩ := hchunk i hil
              obtain ⟨cs2, hc2, htr⟩ := hi i (by omega)
              rw [hc] at hc2
              injection hc2 with hc2
              subst hc2
              rw [← hcs']
              exact e_of_trod tok k _ e cs' _ hoe htr
            have hcell : ∀ q v, us[q]? = some v → W.cell? (a.add q) = some v := by
              intro q v hv
              have hq : q < len * j.size := by
                rcases Nat.lt_or_ge q us.length with h | h
                · omega
                · rw [List.getElem?_eq_none h] at hv; cases hv
              -- the cell lies in a chunk
              have hqd : q / j.size < len := Nat.div_lt_of_lt_mul (by rw [Nat.mul_comm]; exact hq)
              obtain ⟨cs', hc, hcs'⟩ := hchunk (q / j.size) hqd
              obtain ⟨_, hcl, hcc⟩ := World.cells?_some hc
              have h1 := hcc (q % j.size) (Nat.mod_lt _ hjz)
              rw [add_of_add, Nat.mul_comm, Nat.div_add_mod] at h1
              rw [hu q hq] at hv
              injection hv with hv
              rw [h1] at hv
              rw [h1, List.getElem?_eq_getElem (by have := Nat.mod_lt q hjz; omega)] at *
              simp only [Option.getD_some] at hv
              rw [hv]
            refine ⟨[.sl j.size len ys], Pw.cons (.sl _ len ys (some a) cap (fun q => us.getD q undef) hy2 hjz hlc hcm (fun hpl => ⟨a, rfl, ?_⟩) (fun ad had q y hq => ?_) (fun q y hq => ?_)) Pw.nil, i, ht, by rw [hz]; rfl, by rw [hty]; exact ⟨j, len, ys, he, rfl, hy2, Nat.le_trans hlc hcm, hy3⟩⟩
            · have h0 : 0 < len * j.size := Nat.mul_pos hpl hjz
              have := World.block_lt_of_cell? W _ (hcell 0 _ (hu 0 h0))
              rwa [block_of_add] at this
            · injection had with had
              subst had
              obtain ⟨v, hv, _⟩ := hy1.get hq
              refine ⟨?_, fun hf => hf⟩
              rw [hcell q v hv, List.getD, hv]; rfl
            · obtain ⟨v, hv, hr⟩ := hy1.get hq
              rw [List.getD, hv]
              exact hr
      | other => rw [hty] at hok; cases hok
      | struct fs =>
        rw [hty] at hok
        dsimp only at hok
        obtain ⟨fields, hf, hfs⟩ := tok.struct ht hty
        obtain ⟨xs, n, _, _, hcl, hxl, hall⟩ := DataW.trod_struct hf h
        rw [tok.cells ht] at hcl
        have key : ∀ (l : List Field) (off : Nat), (∀ f ∈ l, ∃ x, DataW.trod enc P W base sp hd n f.type ((cs.drop f.offset).take (P.cellsOf f.type)) = some x) → off ≤ cs.length → tileFs tb (okTy tb k) (l.map fun f => (f.offset, f.type)) off i.size = true →
            ∃ ys, Pw (RepE W F0) ys (cs.drop off) ∧ wtFs tb (wtE tb k) (l.map fun f => (f.offset, f.type)) ys := by
          intro l
          induction l with
          | nil =>
            intro off _ ho htile
            have : off = i.size := by simpa [tileFs] using htile
            exact ⟨[], by rw [List.drop_of_length_le (by omega)]; exact Pw.nil, rfl⟩
          | cons f l ih =>
            intro off hl ho htile
            simp only [List.map_cons, tileFs, Bool.and_eq_true, beq_iff_eq] at htile
            obtain ⟨⟨hof, hok2⟩, htile⟩ := htile
            cases hj : tb f.type with
            | none => rw [hj] at htile; cases htile
            | some j =>
              rw [hj] at htile
              dsimp only at htile
              obtain ⟨x, hx⟩ := hl f (List.mem_cons_self ..)
              rw [tok.cells hj, hof] at hx
              obtain ⟨zs, hz1, hz2⟩ := e_of_trod tok k _ f.type _ _ hok2 hx
              have hzl : zs.length = j.size := by
                cases k with
                | zero => cases hz2
                | succ k =>
                  obtain ⟨j', hj', hl', _⟩ := hz2
                  rw [hj] at hj'
                  injection hj' with hj'
                  subst hj'
                  exact hl'
              have hlen : off + j.size ≤ cs.length := by
                have := hz1.1
                rw [hzl, List.length_take, List.length_drop] at this
                omega
              obtain ⟨ys, hy1, hy2⟩ := ih (off + j.size) (fun g hg => hl g (List.mem_cons_of_mem _ hg)) hlen htile
              refine ⟨zs ++ ys, ?_, j, hj, by rw [List.length_append]; omega, ?_, ?_⟩
              · have e : cs.drop off = (cs.drop off).take j.size ++ cs.drop (off + j.size) := by
                  rw [← List.drop_drop, List.take_append_drop]
                rw [e]
                exact hz1.append hy1
              · rw [List.take_append_of_le_length (by omega), List.take_of_length_le (by omega)]
                exact hz2
              · rw [List.drop_append_of_le_length (by omega), List.drop_of_length_le (by omega)]
                exact hy2
        obtain ⟨ys, hy1, hy2⟩ := key fields.toList 0 (fun f hfm => by
          obtain ⟨q, hq⟩ := List.getElem?_of_mem hfm
          have hq' : fields[q]? = some f := by simpa using hq
          have hlt : q < xs.length := by rw [hxl]; exact (Array.getElem?_eq_some_iff.1 hq').1
          exact ⟨xs[q], by rw [hall q f hq', List.getElem?_eq_getElem hlt]⟩) (Nat.zero_le _) (by rw [hfs]; exact hok)
        rw [List.drop_zero] at hy1
        exact ⟨ys, hy1, i, ht, by rw [hy1.1, hcl], by rw [hty]; rw [hfs] at hy2; exact hy2⟩
      | arr n e =>
        rw [hty] at hok
        dsimp only at hok
        cases he : tb e with
        | none => rw [he] at hok; simp at hok
        | some j =>
          rw [he] at hok
          simp only [Bool.and_eq_true, beq_iff_eq] at hok
          obtain ⟨hoe, hz⟩ := hok
          obtain ⟨xs, m, _, _, hcl, hxl, hall⟩ := DataW.trod_array (tok.arr ht hty) h
          rw [tok.cells ht] at hcl
          rw [tok.cells he] at hall
          obtain ⟨ys, hy1, hy2, hy3⟩ := chunks_ex (W := W) (us := cs) (z := j.size) (Good := wtE tb k e) n (by rw [hcl, hz]) fun q hq => by
            have hq' := hall q hq
            rw [List.getElem?_eq_getElem (by omega)] at hq'
            exact e_of_trod tok k _ e _ _ hoe hq'
          exact ⟨ys, hy1, i, ht, by rw [hy1.1, hcl], by rw [hty]; exact ⟨j, he, hy2, hy3⟩⟩
def argD (g : Bool) (xs : List E) : D := match g with
  | true => .ag (xs.map D.e)
  | false => .e (xs.headD .any)
theorem arg_rep (tok : TOk P tb) {k : Nat} {t : TypeId} {i : TyE} {v : Value} {d : DataW H} {p : List MemPlace} {r : Reach} {b0 : Nat} (hok : okTy tb k t = true) (ht : tb t = some i) (hval : Value.okWide P W r b0 t v) (h : DataW.Trod enc P W base sp hd t v d p) :
    ∃ xs, wtE tb k t xs ∧ PRep W F0 (argD i.ty.agg xs) v := by
  obtain ⟨fuel, hf⟩ := h
  obtain ⟨xs, hx, hw⟩ := e_of_trod tok k fuel t _ _ hok hf
  refine ⟨xs, hw, ?_⟩
  have one : v.cells = #[v] → PRep W F0 (.e (xs.headD .any)) v := by
    intro hv
    rw [hv] at hx
    cases xs with
    | nil => have := hx.1; simp at this
    | cons y ys => exact RepD.e _ _ (hx.2 0 y v rfl rfl)
  have agg : ∀ cs, v = .agg cs → PRep W F0 (.ag (xs.map D.e)) v := by
    rintro cs rfl
    have hx' : Pw (RepE W F0) xs cs.toList := hx
    refine RepD.ag _ cs (by simpa using hx'.1.symm) (fun j u hu => ?_) (fun j d u hd hu => ?_)
    · have hu' : cs.toList[j]? = some u := by simpa using hu
      have hlt : j < xs.length := by
        rw [hx'.1]
        exact (List.getElem?_eq_some_iff.1 hu').1
      exact (hx'.2 j _ u (List.getElem?_eq_getElem hlt) hu').one
    · rw [List.getElem?_map] at hd
      cases hxj : xs[j]? with
      | none => simp [hxj] at hd
      | some y =>
        simp only [hxj, Option.map_some, Option.some.injEq] at hd
        subst hd
        exact .e _ _ (hx'.2 j y u hxj (by simpa using hu))
  cases hty : i.ty with
  | int kd => obtain ⟨n, rfl⟩ := okWide_int (tok.int ht hty) hval; exact one rfl
  | bool =>
    obtain ⟨dd, hd1, hd2⟩ := tok.und ht
    rw [hty] at hd2
    have hb : P.underlying t = some .bool := by cases dd <;> simp [Ty.of] at hd2; exact hd1
    obtain ⟨b, rfl⟩ := okWide_bool hb hval
    exact one rfl
  | str => obtain ⟨s, rfl⟩ := okWide_string (tok.str ht hty) hval; exact one rfl
  | slice e => obtain ⟨a, l, c, rfl⟩ := okWide_slice (tok.slice ht hty) hval; exact one rfl
  | struct fs =>
    obtain ⟨fields, hf, _⟩ := tok.struct ht hty
    obtain ⟨cs, rfl, _⟩ := okWide_struct hf hval
    exact agg cs rfl
  | arr n e =>
    have ha := tok.arr ht hty
    unfold Value.okWide at hval
    rw [ha] at hval
    obtain ⟨cs, rfl, _⟩ := hval
    exact agg cs rfl
  | other =>
    cases k with
    | zero => cases hok
    | succ k => unfold okTy at hok; rw [ht] at hok; dsimp only at hok; rw [hty] at hok; cases hok
theorem says_of {f : FuncId} {ds : List D} {args : Array Value} (hc : PCalls P f ds (.e (.lit (.bool true)))) (hsz : args.size = ds.length) (hargs : ∀ (j : Nat) (d : D) (u : Value), ds[j]? = some d → args[j]? = some u → PRep W F0 d u) (hT : TT W.heap.size W := by exact TT.none rfl) :
    Calls P f args W fun e w' => e = .returned (.bool true) ∧ Below W.heap.size W w' := by
  refine (hc.2 W F0 args hT (fun _ h => h.elim) hsz hargs).mono ?_
  rintro e w' ⟨v, rfl, hres, hb⟩
  have hr : PRep w' F0 (.e (.lit (.bool true))) v := hres
  exact ⟨by rw [RepD.lit hr], hb⟩
theorem chunks_typed {α : Type} (cells : α → List E) (z : Nat) (good : α → Prop) : ∀ (n : Nat) (ys : List E), ys.length = n * z → (∀ i, i < n → ∃ a, (ys.drop (i * z)).take z = cells a ∧ good a) → ∃ l : List α, l.length = n ∧ ys = l.flatMap cells ∧ ∀ a ∈ l, good a
  | 0, ys, hl, _ => ⟨[], rfl, by rw [Nat.zero_mul] at hl; rw [List.eq_nil_of_length_eq_zero hl]; rfl, by simp⟩
  | n + 1, ys, hl, h => by
    rw [Nat.succ_mul] at hl
    obtain ⟨a, ha, hga⟩ := h 0 (Nat.succ_pos n)
    obtain ⟨l, h1, h2, h3⟩ := chunks_typed cells z good n (ys.drop z) (by rw [List.length_drop]; omega) fun i hi => by
      have := h (i + 1) (by omega)
      rw [List.drop_drop, show z + i * z = (i + 1) * z by rw [Nat.succ_mul]; omega]
      exact this
    simp only [Nat.zero_mul, List.drop_zero] at ha
    refine ⟨a :: l, by simp [h1], ?_, fun b hb => ?_⟩
    · rw [List.flatMap_cons, ← ha, ← h2, List.take_append_drop]
    · rcases List.mem_cons.1 hb with rfl | hb
      · exact hga
      · exact h3 b hb
end
end
section
def Rd (tb : TypeId → Option TyE) (t : TypeId) (d : Nat) {α : Type} (c : Cd α) (W : α → Prop) : Prop := ∀ k xs, wtE tb (k + d) t xs → ∃ a, xs = c.f a ∧ W a
def Wi (k : IntKind) (n : Int) : Prop := k.min ≤ n ∧ n ≤ k.max
section
variable {tb : TypeId → Option TyE} {t e : TypeId} {i j : TyE} {d : Nat} {α : Type} {c : Cd α} {W : α → Prop}
theorem rd_I {k : IntKind} (ht : tb t = some i) (hi : i.ty = .int k) : Rd tb t 1 (cI k) (Wi k) := by
  intro n xs h
  obtain ⟨i', h1, _, h⟩ := h
  rw [ht] at h1; cases h1
  rw [hi] at h
  obtain ⟨m, h1, h2⟩ := h
  exact ⟨m, h1, by unfold Wi; simpa [Lit.wf] using h2⟩
theorem rd_S (ht : tb t = some i) (hi : i.ty = .str) : Rd tb t 1 cS (fun s => s.size ≤ maxLen) := by
  intro n xs h
  obtain ⟨i', h1, _, h⟩ := h
  rw [ht] at h1; cases h1
  rw [hi] at h
  obtain ⟨m, h1, h2⟩ := h
  exact ⟨m, h1, h2⟩
theorem rd_L (ht : tb t = some i) (he : tb e = some j) (hc : Rd tb e d c W) (hi : i.ty = .slice e := by exact rfl) (hz : c.sz = j.size := by exact rfl) : Rd tb t (d + 1) (cL c) (fun l => l.length ≤ maxLen ∧ ∀ a ∈ l, W a) := by
  intro n xs h
  obtain ⟨i', h1, _, h⟩ := h
  rw [ht] at h1; cases h1
  rw [hi] at h
  obtain ⟨j', m, ys, h1, h2, h3, h4, h5⟩ := h
  rw [he] at h1; cases h1
  obtain ⟨l, h6, h7, h8⟩ := chunks_typed c.f j.size W m ys h3 fun i hi => hc n _ (h5 i hi)
  refine ⟨l, ?_, by omega, h8⟩
  rw [h2, h7, ← h6, ← hz]; rfl
theorem take_parts {xs : List E} {n : Nat} {ys zs : List E} (h1 : xs.take n = ys) (h2 : xs.drop n = zs) : xs = ys ++ zs := by
  rw [← h1, ← h2, List.take_append_drop]
theorem arg_of {P : Program} {H : Type} {enc : TypeId × Value → H} {Wd : World} {sp : Nat → Bool} {hd : Bool} {base k : Nat} {v : Value} {dw : DataW H} {p : List MemPlace} {r : Reach} {b0 : Nat} (tok : TOk P tb) (hok : okTy tb (k + d) t = true) (ht : tb t = some i) (hc : Rd tb t d c W) (hval : Value.okWide P Wd r b0 t v) (h : DataW.Trod enc P Wd base sp hd t v dw p) :
    ∃ a, PRep Wd F0 (argD i.ty.agg (c.f a)) v ∧ W a := by
  obtain ⟨xs, h1, h2⟩ := arg_rep tok hok ht hval h
  obtain ⟨a, rfl, h3⟩ := hc k xs h1
  exact ⟨a, h2, h3⟩
end
end
end Go.Proofs.YtakbadleipbngaaDoor
