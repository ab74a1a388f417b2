/-
  The laws on integers: the walks. Conditions: none.
-/
import Derived.Test.YtjdoellkoofnmaaWireN
import Derived.Test.YtjdoellkoofnmaaWireQ
import Derived.Test.YtjdoellkoofnmaaBase3
namespace Go.Proofs.Ytjdoellkoofnmaa
open Go.RowKit
theorem ret_true {b : Bool} (h : b = true) : Ending.returned (.bool b) = .returned (.bool true) := by rw [h]
/-- A slice value, taken apart. -/
theorem Sl.open_ {w : World} {v : Value} {size n : Nat} {xs : List Value} (h : Sl w v size n xs) : ∃ A c, v = .slice A n c ∧ n ≤ c ∧ c ≤ 9223372036854775807 ∧ Sl w (.slice A n c) size n xs := by
  have h' := h
  obtain ⟨A, c, rfl, h1, h2, _⟩ := h
  exact ⟨A, c, rfl, h1, by unfold maxLen at h2; omega, h'⟩
theorem bytes_append {w : World} {v : Value} {l l' : List UInt8} {n m : Nat} (hn : n = l.length) (hm : m = l'.length) (h : Sl w v 1 (n + m) ((l.map bv).take (n * 1) ++ l'.map bv)) : Sl w v 1 (l ++ l').length ((l ++ l').map bv) := by
  subst hn; subst hm
  rw [Nat.mul_one, List.take_of_length_le (by simp)] at h
  rw [List.length_append, List.map_append]; exact h
set_option maxHeartbeats 1000000 in
set_option maxRecDepth 100000 in
theorem intRoundTrip_walk (n : Int) (hn : I64 n) (l : List UInt8) (v : Value) (w : World) (hl : Sl w v 1 l.length (l.map bv)) (hs : l.length ≤ 140737488355328) :
    Calls Try.prog 6 #[.int .i64 n, v] w (Says true w) := by
  obtain ⟨A, c, rfl, hnc, hcm, hl0⟩ := hl.open_
  clear hl
  by_cases hlen : 2000 < l.length
  · go_enter Try.func6, Try.ntmps6
    go_wp2_with fail
    refine (sanity_true _).mono ?_
    rintro e w1 ⟨rfl, hb1⟩
    go_wp2_with fail
    go_ret
    exact ⟨rfl, hb1⟩
  · go_enter Try.func6, Try.ntmps6
    go_wp2_with fail
    refine (wire_Int n _ hn.1 hn.2).mono ?_
    rintro e w1 ⟨v1, rfl, ho1, hb1⟩
    obtain ⟨A1, c1, rfl, hnc1, hcm1, hs1⟩ := (Sl.of_own ho1).open_
    have hl1 := hl0.below hb1
    obtain ⟨hel1, hel2⟩ := encInt_len hn
    have HG := Lib.hid (getInt_enc hn l)
    generalize hE : encInt n = E at *
    have HE := Lib.hid hE
    clear hE ho1
    go_wp2_with (first
      | (refine wpList_slice_hm (o := ⟨some 21, _, _, _, _, _⟩) rfl _ _ _ _ rfl elBytes rfl hs1 _ _ E.length rfl rfl rfl rfl (Nat.le_refl _) (by omega) ?_; intro hs2)
      | (at_builtin; refine wpList_append_full rfl _ _ _ rfl elBytes rfl hs2 (by omega) _ _ _ rfl hl1 (by omega) (by omega) ?_; intro v2 w2 hs3 hb2))
    replace hb2 := bl_next hb1 hb2
    refine (wire_GetInt (E ++ l) _ _ (bytes_append rfl rfl hs3)).mono ?_
    rintro e w3 ⟨rfl, rfl⟩
    rw [HG.out]; unfold trip
    go_wp2_with fail
    refine (sanity_true _).mono ?_
    rintro e w4 ⟨rfl, hb4⟩
    replace hb4 := bl_next hb2 hb4
    go_wp2_with fail
    go_ret
    exact ⟨ret_true (by simp; omega), hb4⟩
end Go.Proofs.Ytjdoellkoofnmaa
