/-
  The law on encodings that are written one after the other: the walk. Conditions: none.
-/
import Derived.Test.YtjdoellkoofnmaaWireR
namespace Go.Proofs.Ytjdoellkoofnmaa
open Go.RowKit
theorem str_eq (s : ByteArray) : str s.data.toList = .string s := rfl
theorem encBytes_len_le (s : ByteArray) (h : s.size ≤ 9223372036854775807) : (encBytes s).length ≤ s.size + 10 := by
  rw [encBytes_len]
  have := (encInt_len (i64_nat h)).2
  omega
theorem flat_le_10 {l : List Int} (hg : ∀ n ∈ l, I64 n) : (l.flatMap encInt).length ≤ 10 * l.length := by
  induction l with
  | nil => simp
  | cons x xs ih =>
    rw [List.flatMap_cons, List.length_append, List.length_cons]
    have h1 := (encInt_len (hg x (by simp))).2
    have h2 := ih (fun n hn => hg n (by simp [hn]))
    omega
theorem encInts_len_le {l : List Int} (hg : ∀ n ∈ l, I64 n) (h : l.length ≤ 9223372036854775807) : (encInts l).length ≤ 10 * l.length + 10 := by
  unfold encInts
  rw [List.length_append]
  have h1 := (encInt_len (i64_nat h)).2
  have h2 := flat_le_10 hg
  omega
theorem enc_pos (x : Int) : 1 ≤ (encInt x).length := enc_length_pos _
theorem own_bytes {w : World} {base : Nat} {v : Value} {E F : List UInt8} (h : w.ownsRow base 5 1 v (E.length + F.length) (E.map bv ++ F.map bv)) : Sl w v 1 (E ++ F).length ((E ++ F).map bv) := by
  rw [List.length_append, List.map_append]; exact Sl.of_own h
set_option maxHeartbeats 1000000 in
set_option maxRecDepth 100000 in
theorem concat_walk (s : ByteArray) (l : List Int) (hg : ∀ n ∈ l, I64 n) (v : Value) (w : World) (hss : s.size ≤ 140737488351232) (hl : Sl w v 1 l.length (l.map iv)) (hs : l.length ≤ 140737488351232) :
    Calls Try.prog 10 #[.string s, v] w (Says true w) := by
  obtain ⟨A, c, rfl, hnc, hcm, hl0⟩ := hl.open_
  clear hl
  by_cases hlen : 2000 < s.size + l.length
  · go_enter Try.func10, Try.ntmps10
    go_wp2_with fail
    refine (sanity_true _).mono ?_
    rintro e w1 ⟨rfl, hb1⟩
    go_wp2_with fail
    go_ret
    exact ⟨rfl, hb1⟩
  · have hE1 := encBytes_len_le s (by omega)
    have hF1 := encInts_len_le hg (by omega)
    have HE := Lib.hid (encBytes_eq s)
    have HB := Lib.hid (fun t => getBytes_enc (x := s.data.toList) (by rw [Array.length_toList]; exact Nat.le_trans (show s.data.size ≤ 140737488351232 from hss) (by omega)) t)
    have HI := Lib.hid (getList_enc codecInt enc_pos hg (by omega) [])
    go_enter Try.func10, Try.ntmps10
    go_wp2_with fail
    refine (wire_Bytes s _ (by omega)).mono ?_
    rintro e w1 ⟨v1, rfl, ho1, hb1⟩
    have hl1 := hl0.below hb1
    go_wp2_with fail
    refine (wire_Ints l _ _ hl1 hg (by omega) (by omega)).mono ?_
    rintro e w2 ⟨v2, rfl, ho2, hb2⟩
    have hl2 := hl1.below hb2
    replace ho1 := own_below ho1 hb2
    replace hb2 := bl_next hb1 hb2
    generalize hE : encBytes s = E at *
    generalize hF : encInts l = F at *
    have HE0 := Lib.hid hE
    have HF0 := Lib.hid hF
    have hEl : 1 ≤ E.length := by rw [← hE, encBytes_len]; have := enc_pos (s.size : Int); omega
    clear hE hF hb1 hl1 hl2
    go_wp2_with (at_builtin; refine wpList_append_all _ rfl _ _ _ rfl elBytes w.heap.size _ _ _ rfl ho1 _ _ _ rfl (Sl.of_own ho2) (bvs_one _) (by omega) (by omega) hb2.size w w.heap.size hb2 (Nat.le_refl _) ?_; intro v3 w3 ho3 hb3)
    obtain ⟨A3, c3, rfl, hnc3, hcm3, hs3⟩ := (own_bytes ho3).open_
    have hl3 := hl0.below hb3
    clear ho3 ho1 ho2
    have hEF : (E ++ F).length = E.length + F.length := List.length_append
    have hcut : Sl w3 (.slice A3 (E.length + F.length) c3) 1 (E.length + F.length) ((E ++ F).map bv) := by rw [← hEF]; exact hs3
    have HG1 := Lib.hid (show getBytes (E ++ F) = (s.data.toList, (E.length : Int), 0) by rw [HE.out]; exact HB.out F)
    have HG2 := Lib.hid (show getList getInt 1 F = (l, (F.length : Int), 0) by have := HI.out; rw [List.append_nil, ← encInts_eq, HF0.out] at this; exact this)
    have hnc3' : E.length + F.length ≤ c3 := by omega
    clear hnc3
    rw [hEF] at hs3 ⊢
    refine (wire_GetBytes (E ++ F) _ _ (by rw [hEF]; exact hs3)).mono ?_
    rintro e w4 ⟨rfl, rfl⟩
    rw [HG1.out]
    unfold tripB
    rw [str_eq]
    clear HE HB HE0 HF0 hEF
    go_wp2_with (refine wpList_slice_l (o := ⟨some 45, _, _, _, _, _⟩) rfl _ _ _ rfl elBytes rfl hcut _ E.length rfl rfl (by omega) ?_; intro X d m hm hsl; have HM := Lib.hid hm; clear hm)
    have hsl' : Sl w3 (.slice X m d) 1 F.length (F.map bv) := by
      have h1 := hsl
      rw [Nat.mul_one, List.map_append, List.drop_left' (by simp)] at h1
      have h2 := HM.out
      rwa [show m = F.length from by omega] at h1 ⊢
    refine (got_eq HG2.out (wire_GetInts F _ _ hsl' (by omega))).mono ?_
    rintro e w5 ⟨v5, rfl, ho5, hb5⟩
    have hl5 := hl3.below hb5
    replace hb5 := bl_next hb3 hb5
    replace ho5 := Sl.of_own ho5
    go_wp2_with fail
    refine (sanity_true _).mono ?_
    rintro e w6 ⟨rfl, hb6⟩
    replace ho5 := ho5.below hb6
    have hl6 := hl5.below hb6
    replace hb6 := bl_next hb5 hb6
    go_wp2_with fail
    refine (SameInts_true l _ _ _ ho5 hl6).mono ?_
    rintro e w7 ⟨rfl, hb7⟩
    replace hb7 := bl_next hb6 hb7
    go_wp2_with fail
    go_ret
    exact ⟨ret_true (by simp), hb7⟩
end Go.Proofs.Ytjdoellkoofnmaa
