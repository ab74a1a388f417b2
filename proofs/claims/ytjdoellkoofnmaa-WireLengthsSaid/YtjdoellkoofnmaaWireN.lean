/-
  The law on decoding: the walk. Conditions: none.
-/
import Derived.Test.YtjdoellkoofnmaaWireM
namespace Go.Proofs.Ytjdoellkoofnmaa
open Go.RowKit
def ofBytes (l : List UInt8) : ByteArray := ⟨l.toArray⟩
theorem strs_sl {w : World} {v : Value} {l : List (List UInt8)} (h : Sl w v 1 l.length (l.map str)) : Sl w v 1 (l.map ofBytes).length ((l.map ofBytes).map Value.string) := by
  rw [List.length_map, List.map_map]; exact h
theorem getGoD_len {l : List UInt8} : ∀ (n a : Nat) (acc : List (List UInt8)), a + 16 * n ≤ l.length → (∀ d ∈ acc, d.length = 16) → ∀ d ∈ (getGo oneD l n a acc).1, d.length = 16 := by
  intro n
  induction n with
  | zero => intro a acc _ h; exact h
  | succ n ih =>
    intro a acc ha h
    rw [oneD_ok]
    refine ih _ _ (by omega) (fun d hd => ?_)
    rcases List.mem_append.1 hd with hd | hd
    · exact h d hd
    · rw [List.mem_singleton.1 hd, List.length_take, List.length_drop]; omega
theorem getDigests_len (l : List UInt8) : ∀ d ∈ (getList oneD 16 l).1, d.length = 16 := by
  unfold getList
  rcases getLen_cases l 16 with ⟨n, u, hg, hu1, hu2, hn⟩ | hg | hg
  · rw [hg]
    simp only [ne_eq, not_true, if_false, Int.toNat_natCast]
    exact getGoD_len n u [] (by omega) (by simp)
  · rw [hg]; simp
  · rw [hg]; simp
set_option maxHeartbeats 1000000 in
set_option maxRecDepth 100000 in
theorem decode_walk (l : List UInt8) (v : Value) (w : World) (hl : Sl w v 1 l.length (l.map bv)) (hs : l.length ≤ 140737488355328) :
    Calls Try.prog 4 #[v] w (Says true w) := by
  have hl0 := hl
  obtain ⟨A, c, rfl, hnc, hcm, hr⟩ := hl
  unfold maxLen at hcm
  clear hr
  by_cases hlen : 2000 < l.length
  · go_enter Try.func4, Try.ntmps4
    go_wp2_with fail
    refine (sanity_true _).mono ?_
    rintro e w1 ⟨rfl, hb1⟩
    go_wp2_with fail
    go_ret
    exact ⟨rfl, hb1⟩
  · go_enter Try.func4, Try.ntmps4
    go_wp2_with fail
    refine (wire_GetInt l _ _ hl0).mono ?_
    rintro e w1 ⟨rfl, rfl⟩
    unfold trip
    go_wp2_with fail
    refine (ref_GetInt l _ _ hl0).mono ?_
    rintro e w1 ⟨rfl, rfl⟩
    unfold trip
    go_wp2_with fail
    refine (wire_GetBytes l _ _ hl0).mono ?_
    rintro e w1 ⟨rfl, rfl⟩
    unfold tripB str
    go_wp2_with fail
    refine (ref_GetBytes l _ _ hl0).mono ?_
    rintro e w1 ⟨rfl, rfl⟩
    unfold tripB str
    go_wp2_with fail
    refine (wire_GetInts l _ _ hl0 (by omega)).mono ?_
    rintro e w1 ⟨v1, rfl, ho1, hb1⟩
    replace ho1 := Sl.of_own ho1
    have hl1 := hl0.below hb1
    go_wp2_with fail
    refine (ref_GetInts l _ _ hl1 (by omega)).mono ?_
    rintro e w2 ⟨v2, rfl, ho2, hb2⟩
    replace ho2 := Sl.of_own ho2
    replace ho1 := ho1.below hb2
    replace hl1 := hl1.below hb2
    replace hb2 := bl_next hb1 hb2; clear hb1
    go_wp2_with fail
    refine (SameInts_true _ _ _ _ ho1 ho2).mono ?_
    rintro e w3 ⟨rfl, hb3⟩
    replace hl1 := hl1.below hb3
    replace hb3 := bl_next hb2 hb3; clear hb2 ho1 ho2
    go_wp2_with fail
    refine (wire_GetStrings l _ _ hl1 (by omega)).mono ?_
    rintro e w4 ⟨v4, rfl, ho1, hb4⟩
    replace ho1 := Sl.of_own ho1
    replace hl1 := hl1.below hb4
    replace hb4 := bl_next hb3 hb4; clear hb3
    go_wp2_with fail
    refine (ref_GetStrings l _ _ hl1 (by omega)).mono ?_
    rintro e w5 ⟨v5, rfl, ho2, hb5⟩
    replace ho2 := Sl.of_own ho2
    replace ho1 := ho1.below hb5
    replace hl1 := hl1.below hb5
    replace hb5 := bl_next hb4 hb5; clear hb4
    go_wp2_with fail
    refine (SameTexts_true ((getList getBytes 1 l).1.map ofBytes) _ _ _ (strs_sl ho1) (strs_sl ho2)).mono ?_
    rintro e w6 ⟨rfl, hb6⟩
    replace hl1 := hl1.below hb6
    replace hb6 := bl_next hb5 hb6; clear hb5 ho1 ho2
    go_wp2_with fail
    refine (wire_GetDigests l _ _ hl1 (by omega)).mono ?_
    rintro e w7 ⟨v7, rfl, ho1, hb7⟩
    replace ho1 := Sl.of_own ho1
    replace hl1 := hl1.below hb7
    replace hb7 := bl_next hb6 hb7; clear hb6
    go_wp2_with fail
    refine (ref_GetDigests l _ _ hl1 (by omega)).mono ?_
    rintro e w8 ⟨v8, rfl, ho2, hb8⟩
    replace ho2 := Sl.of_own ho2
    replace ho1 := ho1.below hb8
    replace hb8 := bl_next hb7 hb8; clear hb7 hl1
    go_wp2_with fail
    refine (sanity_true _).mono ?_
    rintro e w9 ⟨rfl, hb9⟩
    replace ho2 := ho2.below hb9
    replace ho1 := ho1.below hb9
    replace hb9 := bl_next hb8 hb9; clear hb8
    go_wp2_with fail
    refine (SameDigests_true _ _ _ _ ho1 ho2 (getDigests_len l)).mono ?_
    rintro e w10 ⟨rfl, hb10⟩
    replace hb10 := bl_next hb9 hb10
    go_wp2_with fail
    go_ret
    exact ⟨rfl, hb10⟩
end Go.Proofs.Ytjdoellkoofnmaa
