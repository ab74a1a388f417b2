/-
  The decoder of integers that the specification gives. Conditions: none.
-/
import Derived.Test.YtjdoellkoofnmaaWireE
namespace Go.Proofs.Ytjdoellkoofnmaa
open Go.RowKit
def num : List UInt8 → Nat
  | [] => 0
  | c :: r => c.toNat % 128 + 128 * num r
theorem num_snoc (a : List UInt8) (c : UInt8) : num (a ++ [c]) = num a + c.toNat % 128 * 128 ^ a.length := by
  induction a with
  | nil => simp [num]
  | cons x a ih =>
    simp only [List.cons_append, num, ih, List.length_cons, Nat.pow_succ]
    rw [Nat.mul_add, Nat.add_assoc, Nat.mul_comm (c.toNat % 128 * 128 ^ a.length) 128 |>.symm, Nat.mul_assoc]
theorem num_lt (a : List UInt8) : num a < 128 ^ a.length := by
  induction a with
  | nil => simp [num]
  | cons x a ih => simp only [num, List.length_cons, Nat.pow_succ]; omega
theorem num_take {l : List UInt8} {j : Nat} {x : UInt8} (hx : l[j]? = some x) : num (l.take (j + 1)) = num (l.take j) + x.toNat % 128 * 128 ^ j := by
  obtain ⟨hj, rfl⟩ := List.getElem?_eq_some_iff.1 hx
  rw [List.take_add_one, hx]
  simp only [Option.toList_some]
  rw [num_snoc, List.length_take, Nat.min_eq_left (by omega)]
def High (l : List UInt8) (k : Nat) : Prop := ∀ j x, j < k → l[j]? = some x → 128 ≤ x.toNat
theorem High.zero (l : List UInt8) : High l 0 := fun j x h => absurd h (by omega)
theorem High.succ {l : List UInt8} {k : Nat} (h : High l k) {x : UInt8} (hx : l[k]? = some x) (hb : 128 ≤ x.toNat) : High l (k + 1) := by
  intro j y hj hy
  rcases Nat.lt_or_eq_of_le (Nat.le_of_lt_succ hj) with h1 | h1
  · exact h j y h1 hy
  · subst h1; rw [hx] at hy; cases hy; exact hb
theorem dec_run {l : List UInt8} {k : Nat} (hk : k ≤ 9) (hl : k ≤ l.length) (h : High l k) : dec l 0 0 = dec (l.drop k) k (num (l.take k)) := by
  induction k with
  | zero => simp [num]
  | succ k ih =>
    rw [ih (by omega) (by omega) (fun j x hj => h j x (by omega))]
    have hx : l[k]? = some l[k] := List.getElem?_eq_getElem (by omega)
    have hb := h k _ (by omega) hx
    rw [dec_at hx rfl, if_neg (by omega), if_neg (by omega), num_take hx]
theorem dec_ten {l : List UInt8} (hl : 10 ≤ l.length) (h : High l 10) : trip (getInt l) = .tuple #[.int .i64 0, .int .i64 0, .int .i64 11] := by
  have hx : l[9]? = some l[9] := List.getElem?_eq_getElem (by omega)
  have hb := h 9 _ (by omega) hx
  exact dec_bad (dec_run (k := 9) (by omega) (by omega) (fun j x hj => h j x (by omega))).symm hx rfl (.inl ⟨rfl, by omega⟩)
theorem num_drop_lt {l : List UInt8} {k i : Nat} {x : UInt8} (hk : k ≤ 9) (hx : l[k]? = some x) (h9 : k = 9 → x.toNat ≤ 1) (hi : 1 ≤ i) : num ((l.take (k + 1)).drop i) < 144115188075855872 := by
  obtain ⟨hkl, rfl⟩ := List.getElem?_eq_some_iff.1 hx
  by_cases h : k = 9
  · subst h
    by_cases hi9 : i ≤ 9
    · rw [List.take_add_one, hx]
      simp only [Option.toList_some]
      rw [List.drop_append_of_le_length (by rw [List.length_take]; omega), num_snoc]
      have h1 := num_lt ((l.take 9).drop i)
      have h2 : ((l.take 9).drop i).length = 9 - i := by rw [List.length_drop, List.length_take]; omega
      rw [h2] at h1 ⊢
      have h3 : 128 ^ (9 - i) ≤ 128 ^ 8 := Nat.pow_le_pow_right (by omega) (by omega)
      have := h9 rfl
      have h4 : l[9].toNat % 128 * 128 ^ (9 - i) ≤ 1 * 128 ^ (9 - i) := Nat.mul_le_mul_right _ (by omega)
      omega
    · rw [List.drop_eq_nil_of_le (by rw [List.length_take]; omega)]; simp [num]
  · have h1 := num_lt ((l.take (k + 1)).drop i)
    rw [List.length_drop, List.length_take, Nat.min_eq_left (by omega)] at h1
    have h3 : 128 ^ (k + 1 - i) ≤ 128 ^ 8 := Nat.pow_le_pow_right (by omega) (by omega)
    omega
theorem num_drop_step {l : List UInt8} {k i : Nat} {x : UInt8} (hi : i ≤ k) (hx : l[i]? = some x) : num ((l.take (k + 1)).drop i) = num ((l.take (k + 1)).drop (i + 1)) * 128 + x.toNat % 128 := by
  obtain ⟨hil, rfl⟩ := List.getElem?_eq_some_iff.1 hx
  rw [List.drop_eq_getElem_cons (by rw [List.length_take]; omega), num, List.getElem_take]
  omega
theorem dec_num {l : List UInt8} {k : Nat} {x : UInt8} (hk : k ≤ 9) (h : High l k) (hx : l[k]? = some x) (hb : x.toNat < 128) (hg : ¬ ((k = 9 ∧ 1 < x.toNat) ∨ (0 < k ∧ x.toNat = 0))) :
    trip (getInt l) = .tuple #[.int .i64 (unzig (num (l.take (k + 1)))), .int .i64 ((k : Int) + 1), .int .i64 0] := by
  obtain ⟨hkl, rfl⟩ := List.getElem?_eq_some_iff.1 hx
  rw [dec_ok (dec_run hk (by omega) h).symm hx rfl hg hb, num_take hx, Nat.mod_eq_of_lt hb]
theorem num_top {l : List UInt8} {k : Nat} {x : UInt8} (hk : k ≤ 9) (hx : l[k]? = some x) (h9 : k = 9 → x.toNat ≤ 1) : num (l.take (k + 1)) < 18446744073709551616 := by
  obtain ⟨hkl, e⟩ := List.getElem?_eq_some_iff.1 hx
  have hx0 : l[0]? = some l[0] := List.getElem?_eq_getElem (by omega)
  have := num_drop_step (k := k) (Nat.zero_le _) hx0
  have h2 := num_drop_lt (i := 1) hk hx h9 (by omega)
  simp only [List.drop_zero, Nat.zero_add] at this h2
  omega

theorem ne_of_beq {k : Nat} (h : ((k : Int) == 10) = false) : k ≠ 10 := by
  intro e
  subst e
  simp at h
theorem cases_bad {k b : Nat} (h : (k = 9 ∧ 1 < b) ∨ (0 < k ∧ b = 0)) : (((k : Int) == 9) = true ∧ 1 < b) ∨ (((k : Int) == 9) = true ∧ b ≤ 1 ∧ (0 < k ∧ ((b : Int) == 0) = true)) ∨ (((k : Int) == 9) = false ∧ 0 < k ∧ ((b : Int) == 0) = true) := by
  by_cases h9 : k = 9
  · subst h9
    by_cases hb : 1 < b
    · exact .inl ⟨rfl, hb⟩
    · exact .inr (.inl ⟨rfl, by omega, by omega, by simp; omega⟩)
  · exact .inr (.inr ⟨by simp; omega, by omega, by simp; omega⟩)
theorem cases_good {k b : Nat} (h : ¬ ((k = 9 ∧ 1 < b) ∨ (0 < k ∧ b = 0))) : (((k : Int) == 9) = true ∧ b ≤ 1 ∧ (0 < k ∧ ((b : Int) == 0) = false)) ∨ (((k : Int) == 9) = false ∧ 0 < k ∧ ((b : Int) == 0) = false) ∨ (((k : Int) == 9) = false ∧ k ≤ 0) := by
  by_cases h9 : k = 9
  · subst h9
    exact .inl ⟨rfl, by omega, by omega, by simp; omega⟩
  · rcases Nat.eq_zero_or_pos k with h0 | h0
    · exact .inr (.inr ⟨by simp; omega, by omega⟩)
    · exact .inr (.inl ⟨by simp; omega, h0, by simp; omega⟩)
theorem zig_cases (Z : Nat) : (((Z : Int) % 2 == 1) = true ∧ unzig Z = -1 - (Z : Int) / 2) ∨ (((Z : Int) % 2 == 1) = false ∧ unzig Z = (Z : Int) / 2) := by
  unfold unzig
  by_cases h : Z % 2 = 1
  · exact .inl ⟨by simp; omega, by rw [if_pos h]; omega⟩
  · exact .inr ⟨by simp; omega, by rw [if_neg h]; omega⟩
set_option maxHeartbeats 400000 in
set_option maxRecDepth 100000 in
theorem ref_GetInt (l : List UInt8) (v : Value) (w : World) (hl : Sl w v 1 l.length (l.map bv)) :
    Calls Try.prog 25 #[v] w fun e w' => e = .returned (trip (getInt l)) ∧ w = w' := by
  obtain ⟨A, c, rfl, hnc, hcm, hr⟩ := hl
  unfold maxLen at hcm
  go_enter Try.func25, Try.ntmps25
  go_wp2_with fail
  go_loop [5] (fun i => ∃ k : Nat, k ≤ l.length ∧ k ≤ 10 ∧ i = .int .i64 k ∧ High l k) (fun i => l.length - (intOf i).toNat)
  case atStart => exact ⟨0, Nat.zero_le _, by omega, rfl, High.zero l⟩
  case round =>
    obtain ⟨k, hk, hk10, rfl, hh⟩ := hrel
    have HH := Lib.hid hh
    clear hh
    by_cases hlt : k < l.length
    · obtain ⟨ad, x, rfl, hab, hx, hc⟩ := hr.elem hlt rfl
      have HX := Lib.hid hx
      unfold bv at hc
      clear hx
      have hx256 := x.toNat_lt
      generalize hbx : x.toNat = b at *
      have HB := Lib.hid hbx
      clear hbx
      by_cases h10 : k < 10
      · by_cases hb : 128 ≤ b
        · go_wp2_with fail
          go_round
          case rel => exact ⟨k + 1, by omega, by omega, by go_num, HH.out.succ HX.out (by rw [HB.out]; exact hb)⟩
          case measure => simp [intOf]; omega
        · have e10 : ((k : Int) == 10) = false := by simp; omega
          have el : ((k : Int) == (l.length : Int)) = false := by simp; omega
          by_cases hbad : (k = 9 ∧ 1 < b) ∨ (0 < k ∧ b = 0)
          · have HBAD := Lib.hid hbad
            rcases cases_bad hbad with ⟨h1, h2⟩ | ⟨h1, h2, h3⟩ | ⟨h1, h2, h3⟩
            all_goals
              clear hbad
              go_wp2_with fail
              go_ret3
              exact ⟨congrArg Ending.returned (dec_bad (dec_run (by omega) (by omega) HH.out).symm HX.out HB.out HBAD.out).symm, rfl⟩
          · have HBAD := Lib.hid hbad
            have hx9 : k = 9 → b ≤ 1 := fun h => by omega
            have HX9 := Lib.hid hx9
            clear hx9
            rcases cases_good hbad with ⟨h1, h2, h3⟩ | ⟨h1, h2, h3⟩ | ⟨h1, h2⟩
            all_goals
              clear hbad
              go_wp2_with fail
              clear h1 h2 e10 el hc
              try clear h3
              go_loop [6, 7] (fun u6 u7 => ∃ i : Nat, i ≤ k + 1 ∧ u7 = .int .i64 ((i : Int) - 1) ∧ u6 = .int .u64 (num ((l.take (k + 1)).drop i) : Nat)) (fun _ i => (intOf i + 1).toNat)
              case atStart => exact ⟨k + 1, Nat.le_refl _, by go_num, by rw [List.drop_eq_nil_of_le (by rw [List.length_take]; omega)]; rfl⟩
              case round =>
                obtain ⟨i, hi, rfl, rfl⟩ := hrel
                have hzi := Lib.hid (num_drop_lt (i := i) (by omega) HX.out (by rw [HB.out]; exact HX9.out))
                rcases Nat.eq_zero_or_pos i with h0 | h0
                · subst h0
                  have htop := num_top (by omega) HX.out (by rw [HB.out]; exact HX9.out)
                  have hfin := dec_num (by omega) HH.out HX.out (by rw [HB.out]; omega) (by rw [HB.out]; exact HBAD.out)
                  simp only [List.drop_zero]
                  generalize num (l.take (k + 1)) = Z at *
                  have HF := Lib.hid hfin
                  clear hfin
                  rcases zig_cases Z with ⟨p1, p2⟩ | ⟨p1, p2⟩
                  all_goals
                    have P2 := Lib.hid p2
                    clear p2
                    go_wp2_with fail
                    go_ret3
                    rw [HF.out, P2.out]
                    exact ⟨rfl, rfl⟩
                · obtain ⟨i, rfl⟩ : ∃ j, i = j + 1 := ⟨i - 1, by omega⟩
                  obtain ⟨ad', y, had, hab', hy, hcy⟩ := hr.elem (k := i) (by omega) rfl
                  obtain rfl : ad = ad' := Option.some.inj had
                  have hst := Lib.hid (num_drop_step (k := k) (by omega) hy)
                  have hy256 := y.toNat_lt
                  have hzi' := hzi.out h0
                  clear had
                  unfold bv at hcy
                  generalize num ((l.take (k + 1)).drop (i + 1)) = Z at *
                  clear hy
                  generalize y.toNat = yb at *
                  go_wp2_with fail
                  go_round
                  case rel => exact ⟨i, by omega, rfl, by rw [hst.out]; go_num⟩
                  case measure => simp [intOf]
      · obtain rfl : k = 10 := by omega
        go_wp2_with fail
        go_ret3
        exact ⟨congrArg Ending.returned (dec_ten (by omega) HH.out).symm, rfl⟩
    · obtain rfl : k = l.length := by omega
      have HH' := HH.out
      have e10 : l.length = 10 ∨ ((l.length : Int) == 10) = false := by
        by_cases h : l.length = 10
        · exact .inl h
        · exact .inr (by simp; omega)
      rcases e10 with e10 | e10
      · have HE := Lib.hid e10
        have e10' : ((l.length : Int) == 10) = true := by simp; omega
        clear e10
        go_wp2_with fail
        go_ret3
        exact ⟨congrArg Ending.returned (dec_ten (by rw [HE.out]; omega) (by rw [← HE.out]; exact HH.out)).symm, rfl⟩
      · go_wp2_with fail
        go_ret3
        exact ⟨congrArg Ending.returned (dec_end (dec_run (by have := ne_of_beq e10; omega) (Nat.le_refl _) HH.out).symm rfl).symm, rfl⟩
end Go.Proofs.Ytjdoellkoofnmaa
