/-
  The decoders of lengths and of byte strings. Conditions: none.
-/
import Derived.Test.YtjdoellkoofnmaaWireF
namespace Go.Proofs.Ytjdoellkoofnmaa
open Go.RowKit
theorem dec_cases : ∀ (l : List UInt8) (k z : Nat), z < 128 ^ k → k ≤ 9 → (∃ n u, dec l k z = (n, u, 0) ∧ k < u ∧ u ≤ k + l.length ∧ n < 18446744073709551616) ∨ dec l k z = (0, 0, 10) ∨ dec l k z = (0, 0, 11) := by
  intro l
  induction l with
  | nil => intro k z _ _; exact .inr (.inl rfl)
  | cons c r ih =>
    intro k z hz hk
    rw [dec]
    by_cases h1 : (k = 9 ∧ 1 < c.toNat) ∨ (0 < k ∧ c.toNat = 0)
    · rw [if_pos h1]; exact .inr (.inr rfl)
    · rw [if_neg h1]
      have hl := acc_lt z c.toNat k hz
      by_cases h2 : c.toNat < 128
      · rw [if_pos h2]
        refine .inl ⟨_, _, rfl, by omega, by simp, ?_⟩
        rw [Nat.mod_eq_of_lt h2] at hl
        by_cases h9 : k = 9
        · subst h9
          have : c.toNat ≤ 1 := by omega
          have : c.toNat * 128 ^ 9 ≤ 1 * 128 ^ 9 := Nat.mul_le_mul_right _ this
          omega
        · have : 128 ^ (k + 1) ≤ 128 ^ 9 := Nat.pow_le_pow_right (by omega) (by omega)
          omega
      · rw [if_neg h2]
        rcases ih (k + 1) _ hl (by have := c.toNat_lt; omega) with ⟨n, u, h, h3, h4, h5⟩ | h | h
        · exact .inl ⟨n, u, h, by omega, by simp; omega, h5⟩
        · exact .inr (.inl h)
        · exact .inr (.inr h)
theorem getInt_cases (l : List UInt8) : (∃ (n : Int) (u : Nat), getInt l = (n, (u : Int), 0) ∧ 1 ≤ u ∧ u ≤ l.length ∧ I64 n) ∨ getInt l = (0, 0, 10) ∨ getInt l = (0, 0, 11) := by
  unfold getInt
  rcases dec_cases l 0 0 (by simp) (by omega) with ⟨n, u, h, h1, h2, h3⟩ | h | h
  · rw [h]
    exact .inl ⟨unzig n, u, by simp, by omega, by omega, by unfold unzig I64; split <;> omega⟩
  · rw [h]; exact .inr (.inl (by simp))
  · rw [h]; exact .inr (.inr (by simp))
def getLen (l : List UInt8) (least : Int) : Int × Int × Int :=
  let r := getInt l
  if r.2.2 ≠ 0 then (0, 0, r.2.2) else if r.1 < 0 then (0, 0, 11) else if r.1 > ((l.length : Int) - r.2.1) / least then (0, 0, 10) else (r.1, r.2.1, 0)

set_option maxHeartbeats 400000 in
theorem wire_length (l : List UInt8) (v : Value) (least : Int) (w : World) (hl : Sl w v 1 l.length (l.map bv)) (h1 : 1 ≤ least) (h2 : least ≤ 1000) :
    Calls Try.prog 42 #[v, .int .i64 least] w fun e w' => e = .returned (trip (getLen l least)) ∧ w = w' := by
  have hl0 := hl
  obtain ⟨A, c, rfl, hnc, hcm, hr⟩ := hl
  unfold maxLen at hcm
  rcases getInt_cases l with ⟨n, u, hg, hu1, hu2, hn1, hn2⟩ | hg | hg
  all_goals
    have HG := Lib.hid hg
    clear hg
  · have hfin : getLen l least = if n < 0 then (0, 0, 11) else if n > ((l.length : Int) - u) / least then (0, 0, 10) else (n, (u : Int), 0) := by
      unfold getLen; rw [HG.out]; simp
    have HF := Lib.hid hfin
    clear hfin
    have hq : ((l.length : Int) - u) / least ≤ (l.length : Int) - u := Int.ediv_le_self _ (by omega)
    have hq0 : 0 ≤ ((l.length : Int) - u) / least := Int.ediv_nonneg (by omega) (by omega)
    by_cases hneg : n < 0
    · go_enter Try.func42, Try.ntmps42
      go_wp2_with fail
      refine (wire_GetInt l _ _ hl0).mono ?_
      rintro e w' ⟨rfl, rfl⟩
      rw [HG.out]
      unfold trip
      go_wp2_with fail
      go_ret3
      rw [HF.out, if_pos hneg]
      exact ⟨rfl, rfl⟩
    · by_cases hgt : n > ((l.length : Int) - u) / least
      all_goals
        go_enter Try.func42, Try.ntmps42
        go_wp2_with fail
        refine (wire_GetInt l _ _ hl0).mono ?_
        rintro e w' ⟨rfl, rfl⟩
        rw [HG.out]
        unfold trip
        go_wp2_with fail
        go_ret3
        rw [HF.out, if_neg (by omega)]
        first | rw [if_pos (by omega)] | rw [if_neg (by omega)]
        exact ⟨rfl, rfl⟩
  all_goals
    go_enter Try.func42, Try.ntmps42
    go_wp2_with fail
    refine (wire_GetInt l _ _ hl0).mono ?_
    rintro e w' ⟨rfl, rfl⟩
    rw [HG.out]
    unfold trip
    go_wp2_with fail
    go_ret3
    unfold getLen
    rw [HG.out]
    exact ⟨rfl, rfl⟩

set_option maxHeartbeats 400000 in
theorem ref_length (l : List UInt8) (v : Value) (least : Int) (w : World) (hl : Sl w v 1 l.length (l.map bv)) (h1 : 1 ≤ least) (h2 : least ≤ 1000) :
    Calls Try.prog 44 #[v, .int .i64 least] w fun e w' => e = .returned (trip (getLen l least)) ∧ w = w' := by
  have hl0 := hl
  obtain ⟨A, c, rfl, hnc, hcm, hr⟩ := hl
  unfold maxLen at hcm
  rcases getInt_cases l with ⟨n, u, hg, hu1, hu2, hn1, hn2⟩ | hg | hg
  all_goals
    have HG := Lib.hid hg
    clear hg
  · have hfin : getLen l least = if n < 0 then (0, 0, 11) else if n > ((l.length : Int) - u) / least then (0, 0, 10) else (n, (u : Int), 0) := by
      unfold getLen; rw [HG.out]; simp
    have HF := Lib.hid hfin
    clear hfin
    have hq : ((l.length : Int) - u) / least ≤ (l.length : Int) - u := Int.ediv_le_self _ (by omega)
    have hq0 : 0 ≤ ((l.length : Int) - u) / least := Int.ediv_nonneg (by omega) (by omega)
    by_cases hneg : n < 0
    · go_enter Try.func44, Try.ntmps44
      go_wp2_with fail
      refine (ref_GetInt l _ _ hl0).mono ?_
      rintro e w' ⟨rfl, rfl⟩
      rw [HG.out]
      unfold trip
      go_wp2_with fail
      go_ret3
      rw [HF.out, if_pos hneg]
      exact ⟨rfl, rfl⟩
    · by_cases hgt : n > ((l.length : Int) - u) / least
      all_goals
        go_enter Try.func44, Try.ntmps44
        go_wp2_with fail
        refine (ref_GetInt l _ _ hl0).mono ?_
        rintro e w' ⟨rfl, rfl⟩
        rw [HG.out]
        unfold trip
        go_wp2_with fail
        go_ret3
        rw [HF.out, if_neg (by omega)]
        first | rw [if_pos (by omega)] | rw [if_neg (by omega)]
        exact ⟨rfl, rfl⟩
  all_goals
    go_enter Try.func44, Try.ntmps44
    go_wp2_with fail
    refine (ref_GetInt l _ _ hl0).mono ?_
    rintro e w' ⟨rfl, rfl⟩
    rw [HG.out]
    unfold trip
    go_wp2_with fail
    go_ret3
    unfold getLen
    rw [HG.out]
    exact ⟨rfl, rfl⟩

def getBytes (l : List UInt8) : List UInt8 × Int × Int :=
  let r := getLen l 1
  if r.2.2 ≠ 0 then ([], 0, r.2.2) else ((l.drop r.2.1.toNat).take r.1.toNat, r.2.1 + r.1, 0)
def str (l : List UInt8) : Value := .string ⟨l.toArray⟩
def tripB (r : List UInt8 × Int × Int) : Value := .tuple #[str r.1, .int .i64 r.2.1, .int .i64 r.2.2]
theorem getLen_cases (l : List UInt8) (least : Int) :
    (∃ (n u : Nat), getLen l least = ((n : Int), (u : Int), 0) ∧ 1 ≤ u ∧ u ≤ l.length ∧ (n : Int) ≤ ((l.length : Int) - u) / least) ∨ getLen l least = (0, 0, 10) ∨ getLen l least = (0, 0, 11) := by
  unfold getLen
  rcases getInt_cases l with ⟨n, u, hg, hu1, hu2, hn1, hn2⟩ | hg | hg
  · rw [hg]
    simp only [ne_eq, not_true, if_false]
    by_cases hneg : n < 0
    · rw [if_pos hneg]; exact .inr (.inr rfl)
    · rw [if_neg hneg]
      by_cases hgt : n > ((l.length : Int) - u) / least
      · rw [if_pos hgt]; exact .inr (.inl rfl)
      · rw [if_neg hgt]
        refine .inl ⟨n.toNat, u, ?_, hu1, hu2, ?_⟩
        · rw [Int.toNat_of_nonneg (by omega)]
        · rw [Int.toNat_of_nonneg (by omega)]; omega
  · rw [hg]; exact .inr (.inl rfl)
  · rw [hg]; exact .inr (.inr rfl)
set_option maxHeartbeats 400000 in
theorem wire_GetBytes (l : List UInt8) (v : Value) (w : World) (hl : Sl w v 1 l.length (l.map bv)) :
    Calls Try.prog 26 #[v] w fun e w' => e = .returned (tripB (getBytes l)) ∧ w = w' := by
  have hl0 := hl
  obtain ⟨A, c, rfl, hnc, hcm, hr⟩ := hl
  have hcm' := hcm
  unfold maxLen at hcm
  rcases getLen_cases l 1 with ⟨n, u, hg, hu1, hu2, hn⟩ | hg | hg
  all_goals
    have HG := Lib.hid hg
    clear hg
    go_enter Try.func26, Try.ntmps26
    go_wp2_with fail
    refine (wire_length l _ 1 _ hl0 (by omega) (by omega)).mono ?_
    rintro e w' ⟨rfl, rfl⟩
    rw [HG.out]
    unfold trip
  · rw [Int.ediv_one] at hn
    go_wp2_with (refine wpList_bytes_string (o := ⟨some 23, _, _, _, _, _⟩) rfl _ _ _ _ rfl elBytes.ht Try.underlying5 Try.underlying9 rfl ((l.drop u).take n) (Sl.cut (k := u) (n := n) hr hnc hcm' (by omega) (by omega) (by intro h; simp [h])) ?_)
    all_goals
      go_ret3
      unfold getBytes
      rw [HG.out]
      exact ⟨rfl, rfl⟩
  all_goals
    go_wp2_with fail
    go_ret3
    unfold getBytes
    rw [HG.out]
    exact ⟨rfl, rfl⟩

theorem getBytes_of {l : List UInt8} {n : Int} {u : Nat} (hg : getInt l = (n, (u : Int), 0)) :
    getBytes l = if n < 0 then ([], 0, 11) else if n > (l.length : Int) - u then ([], 0, 10) else ((l.drop u).take n.toNat, (u : Int) + n, 0) := by
  unfold getBytes getLen
  rw [hg]
  simp only [ne_eq, not_true, if_false, Int.ediv_one]
  by_cases h1 : n < 0
  · rw [if_pos h1, if_pos h1]; rfl
  · rw [if_neg h1, if_neg h1]
    by_cases h2 : n > (l.length : Int) - u
    · rw [if_pos h2, if_pos h2]; rfl
    · rw [if_neg h2, if_neg h2]; rfl
set_option maxHeartbeats 400000 in
theorem ref_GetBytes (l : List UInt8) (v : Value) (w : World) (hl : Sl w v 1 l.length (l.map bv)) :
    Calls Try.prog 27 #[v] w fun e w' => e = .returned (tripB (getBytes l)) ∧ w = w' := by
  have hl0 := hl
  obtain ⟨A, c, rfl, hnc, hcm, hr⟩ := hl
  have hcm' := hcm
  unfold maxLen at hcm
  rcases getInt_cases l with ⟨n, u, hg, hu1, hu2, hn1, hn2⟩ | hg | hg
  · have HG := Lib.hid hg
    have HF := Lib.hid (getBytes_of hg)
    clear hg
    by_cases hneg : n < 0
    · go_enter Try.func27, Try.ntmps27
      go_wp2_with fail
      refine (ref_GetInt l _ _ hl0).mono ?_
      rintro e w' ⟨rfl, rfl⟩
      rw [HG.out]
      unfold trip
      go_wp2_with fail
      go_ret3
      rw [HF.out, if_pos hneg]
      exact ⟨rfl, rfl⟩
    · obtain ⟨n, rfl⟩ := Int.eq_ofNat_of_zero_le (Int.not_lt.1 hneg)
      by_cases hgt : (n : Int) > (l.length : Int) - u
      · go_enter Try.func27, Try.ntmps27
        go_wp2_with fail
        refine (ref_GetInt l _ _ hl0).mono ?_
        rintro e w' ⟨rfl, rfl⟩
        rw [HG.out]
        unfold trip
        go_wp2_with fail
        go_ret3
        rw [HF.out, if_neg (by omega), if_pos (by omega)]
        exact ⟨rfl, rfl⟩
      · go_enter Try.func27, Try.ntmps27
        go_wp2_with fail
        refine (ref_GetInt l _ _ hl0).mono ?_
        rintro e w' ⟨rfl, rfl⟩
        rw [HG.out]
        unfold trip
        go_wp2_with (refine wpList_bytes_string (o := ⟨some 31, _, _, _, _, _⟩) rfl _ _ _ _ rfl elBytes.ht Try.underlying5 Try.underlying9 rfl ((l.drop u).take n) (Sl.cut (k := u) (n := n) hr hnc hcm' (by omega) (by omega) (by intro h; simp [h])) ?_)
        all_goals
          go_ret3
          rw [HF.out, if_neg (by omega), if_neg (by omega)]
          exact ⟨rfl, rfl⟩
  all_goals
    have HG := Lib.hid hg
    clear hg
    go_enter Try.func27, Try.ntmps27
    go_wp2_with fail
    refine (ref_GetInt l _ _ hl0).mono ?_
    rintro e w' ⟨rfl, rfl⟩
    rw [HG.out]
    unfold trip
    go_wp2_with fail
    go_ret3
    unfold getBytes getLen
    rw [HG.out]
    exact ⟨rfl, rfl⟩
end Go.Proofs.Ytjdoellkoofnmaa
