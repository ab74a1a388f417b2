/-
  The law on lists that are encoded and decoded: the walk. Conditions: the strings' lengths add up to less than 2^40.
-/
import Derived.Test.YtjdoellkoofnmaaWireV
namespace Go.Proofs.Ytjdoellkoofnmaa
open Go.RowKit
theorem bytes_app {w : World} {v : Value} {l l' : List UInt8} {n m : Nat} (hn : n = l.length) (hm : m = l'.length) (h : Sl w v 1 (n + m) ((l.map bv).take (n * 1) ++ l'.map bv)) : Sl w v 1 (l ++ l').length ((l ++ l').map bv) := bytes_append hn hm h
theorem strs_back {w : World} {v : Value} {x : List ByteArray} (h : Sl w v 1 (x.map fun s => s.data.toList).length ((x.map fun s => s.data.toList).map str)) : Sl w v 1 x.length (x.map Value.string) := by
  rw [List.length_map, List.map_map] at h
  exact h
theorem mem_sizes {x : List ByteArray} {s : ByteArray} (h : s ∈ x) : s.size ≤ sizes x := by
  induction x with
  | nil => cases h
  | cons a x ih =>
    have e : sizes (a :: x) = a.size + sizes x := by simp [sizes]
    rw [e]
    rcases List.mem_cons.1 h with h | h
    · subst h; omega
    · have := ih h; omega
theorem short_of {x : List ByteArray} (h : sizes x ≤ 1152921504606846976) : ∀ y ∈ (x.map fun s => s.data.toList), Short y := by
  intro y hy
  obtain ⟨s, hs, rfl⟩ := List.mem_map.1 hy
  have := mem_sizes hs
  unfold Short
  rw [Array.length_toList]
  have e : s.data.size = s.size := rfl
  omega
set_option maxHeartbeats 4000000 in
set_option maxRecDepth 100000 in
theorem listRoundTrip_walk (s : ByteArray) (l : List Int) (x : List ByteArray) (d : List (List UInt8)) (q : List UInt8) (vl vx vd vq : Value) (w : World) (hg : ∀ n ∈ l, I64 n) (hd : ∀ e ∈ d, e.length = 16)
    (hl : Sl w vl 1 l.length (l.map iv)) (hx : Sl w vx 1 x.length (x.map Value.string)) (hdd : Sl w vd 16 d.length (flat d)) (hq : Sl w vq 1 q.length (q.map bv)) (b1 : s.size ≤ 140737488351232) (b2 : l.length ≤ 140737488351232) (b3 : x.length + sizes x ≤ 1099511627776) (b4 : d.length ≤ 140737488351232) (b5 : q.length ≤ 140737488351232) :
    Calls Try.prog 8 #[.string s, vl, vx, vd, vq] w (Says true w) := by
  obtain ⟨Al, cl, rfl, hncl, hcml, hl0⟩ := hl.open_
  obtain ⟨Ad, cd, rfl, hncd, hcmd, hd0⟩ := hdd.open_
  obtain ⟨Aq, cq, rfl, hncq, hcmq, hq0⟩ := hq.open_
  clear hl hdd hq
  have t1 := encBytes_len_le s (by omega)
  have t2 := encInts_len_le hg (by omega)
  have t3 := encStrings_len_le (l := x) (by omega)
  have t4 := encDigests_len_le hd (by omega)
  by_cases hlen : 2000 < s.size + l.length + d.length + q.length
  · go_enter Try.func8, Try.ntmps8
    go_wp2_with fail
    refine (sanity_true _).mono ?_
    rintro e w1 ⟨rfl, hb1⟩
    go_wp2_with fail
    go_ret
    exact ⟨rfl, hb1⟩
  · by_cases hfew : (x.length : Int) + (sizes x : Int) ≤ 2000
    · have HF := Lib.hid (decide_eq_true hfew)
      have G1 := Lib.hid (getBytes_enc (x := s.data.toList) (by rw [Array.length_toList]; exact Nat.le_trans (show s.data.size ≤ 140737488351232 from b1) (by omega)) q)
      have G2 := Lib.hid (getList_enc codecInt enc_pos hg (by omega) q)
      have G3 := Lib.hid (getDigests_enc hd (by omega) q)
      have G4 := Lib.hid (getList_enc codecBytes encB_pos (short_of (x := x) (by omega)) (by rw [List.length_map]; omega) q)
      have G1' := Lib.hid (show getBytes (encBytes s ++ q) = (s.data.toList, ((encBytes s).length : Int), 0) by rw [encBytes_eq]; exact G1.out)
      have G4' := Lib.hid (show getList getBytes 1 (encStrings x ++ q) = (x.map fun s => s.data.toList, ((encStrings x).length : Int), 0) by rw [encStrings_eq]; exact G4.out)
      clear G1 G4
      go_enter Try.func8, Try.ntmps8
      go_wp2_with fail
      refine (few_any x _ _ hx (by omega)).mono ?_
      rintro e w1 ⟨rfl, rfl⟩
      rw [HF.out]
      go_wp2_with fail
      refine (wire_Bytes s _ (by omega)).mono ?_
      rintro e w1 ⟨v1, rfl, hE1, hb1⟩
      replace hE1 := Sl.of_own hE1
      replace hl0 := hl0.below hb1
      replace hd0 := hd0.below hb1
      replace hx := hx.below hb1
      replace hq0 := hq0.below hb1
      go_wp2_with fail
      refine (wire_Ints l _ _ hl0 hg (by omega) (by omega)).mono ?_
      rintro e w2 ⟨v2, rfl, hE2, hb2⟩
      replace hE2 := Sl.of_own hE2
      replace hE1 := hE1.below hb2
      replace hl0 := hl0.below hb2
      replace hd0 := hd0.below hb2
      replace hx := hx.below hb2
      replace hq0 := hq0.below hb2
      replace hb2 := bl_next hb1 hb2
      clear hb1
      go_wp2_with fail
      refine (wire_Digests d _ _ hd0 hd (by omega) (by omega)).mono ?_
      rintro e w3 ⟨v3, rfl, hE3, hb3⟩
      replace hE3 := Sl.of_own hE3
      replace hE1 := hE1.below hb3
      replace hE2 := hE2.below hb3
      replace hl0 := hl0.below hb3
      replace hd0 := hd0.below hb3
      replace hx := hx.below hb3
      replace hq0 := hq0.below hb3
      replace hb3 := bl_next hb2 hb3
      clear hb2
      go_wp2_with fail
      refine (wire_Strings x _ _ hx (by omega) (by omega)).mono ?_
      rintro e w4 ⟨v4, rfl, hE4, hb4⟩
      replace hE4 := Sl.of_own hE4
      replace hE1 := hE1.below hb4
      replace hE2 := hE2.below hb4
      replace hE3 := hE3.below hb4
      replace hl0 := hl0.below hb4
      replace hd0 := hd0.below hb4
      replace hx := hx.below hb4
      replace hq0 := hq0.below hb4
      replace hb4 := bl_next hb3 hb4
      clear hb3
      obtain ⟨A1, c1, rfl, _, _, hE1⟩ := hE1.open_
      obtain ⟨A2, c2, rfl, _, _, hE2⟩ := hE2.open_
      obtain ⟨A3, c3, rfl, _, _, hE3⟩ := hE3.open_
      obtain ⟨A4, c4, rfl, _, _, hE4⟩ := hE4.open_
      have p1 : 1 ≤ (encBytes s).length := by rw [encBytes_len]; have := enc_pos (s.size : Int); omega
      have p2 : 1 ≤ (encInts l).length := by rw [encInts_eq]; exact encList_pos _ _
      have p3 : 1 ≤ (encDigests d).length := by unfold encDigests; rw [List.length_append]; have := enc_pos (d.length : Int); omega
      have p4 : 1 ≤ (encStrings x).length := by rw [encStrings_eq]; exact encList_pos _ _
      rw [← encInts_eq] at G2
      generalize encBytes s = E1 at *
      generalize encInts l = E2 at *
      generalize encDigests d = E3 at *
      generalize encStrings x = E4 at *
      go_wp2_with (first
        | (refine wpList_slice_hm (o := ⟨some 59, _, _, _, _, _⟩) rfl _ _ _ _ rfl elBytes rfl hE1 _ _ E1.length rfl rfl rfl rfl (Nat.le_refl _) (by omega) ?_; intro hsx)
        | (at_builtin; refine wpList_append_full rfl _ _ _ rfl elBytes rfl hsx (by omega) _ _ _ rfl hq0 (by omega) (by omega) ?_; intro va5 w5 hsa hb5))
      clear hsx
      replace hE1 := hE1.below hb5
      replace hE2 := hE2.below hb5
      replace hE3 := hE3.below hb5
      replace hE4 := hE4.below hb5
      replace hl0 := hl0.below hb5
      replace hd0 := hd0.below hb5
      replace hx := hx.below hb5
      replace hq0 := hq0.below hb5
      replace hb5 := bl_next hb4 hb5
      clear hb4
      refine (wire_GetBytes (E1 ++ q) _ _ (bytes_app rfl rfl hsa)).mono ?_
      rintro e w0 ⟨rfl, rfl⟩
      rw [G1'.out]
      unfold tripB
      rw [str_eq]
      clear hsa
      go_wp2_with (first
        | (refine wpList_slice_hm (o := ⟨some 72, _, _, _, _, _⟩) rfl _ _ _ _ rfl elBytes rfl hE2 _ _ E2.length rfl rfl rfl rfl (Nat.le_refl _) (by omega) ?_; intro hsx)
        | (at_builtin; refine wpList_append_full rfl _ _ _ rfl elBytes rfl hsx (by omega) _ _ _ rfl hq0 (by omega) (by omega) ?_; intro va6 w6 hsa hb6))
      clear hsx
      replace hE1 := hE1.below hb6
      replace hE2 := hE2.below hb6
      replace hE3 := hE3.below hb6
      replace hE4 := hE4.below hb6
      replace hl0 := hl0.below hb6
      replace hd0 := hd0.below hb6
      replace hx := hx.below hb6
      replace hq0 := hq0.below hb6
      replace hb6 := bl_next hb5 hb6
      clear hb5
      refine (got_eq G2.out (wire_GetInts (E2 ++ q) _ _ (bytes_app rfl rfl hsa) (by rw [List.length_append]; omega))).mono ?_
      rintro e w7 ⟨vr2, rfl, hr2, hb7⟩
      replace hE1 := hE1.below hb7
      replace hE2 := hE2.below hb7
      replace hE3 := hE3.below hb7
      replace hE4 := hE4.below hb7
      replace hl0 := hl0.below hb7
      replace hd0 := hd0.below hb7
      replace hx := hx.below hb7
      replace hq0 := hq0.below hb7
      replace hb7 := bl_next hb6 hb7
      clear hb6 hsa
      replace hr2 := Sl.of_own hr2
      go_wp2_with (first
        | (refine wpList_slice_hm (o := ⟨some 85, _, _, _, _, _⟩) rfl _ _ _ _ rfl elBytes rfl hE3 _ _ E3.length rfl rfl rfl rfl (Nat.le_refl _) (by omega) ?_; intro hsx)
        | (at_builtin; refine wpList_append_full rfl _ _ _ rfl elBytes rfl hsx (by omega) _ _ _ rfl hq0 (by omega) (by omega) ?_; intro va8 w8 hsa hb8))
      clear hsx
      replace hE1 := hE1.below hb8
      replace hE2 := hE2.below hb8
      replace hE3 := hE3.below hb8
      replace hE4 := hE4.below hb8
      replace hl0 := hl0.below hb8
      replace hd0 := hd0.below hb8
      replace hx := hx.below hb8
      replace hq0 := hq0.below hb8
      replace hr2 := hr2.below hb8
      replace hb8 := bl_next hb7 hb8
      clear hb7
      refine (got_eq G3.out (wire_GetDigests (E3 ++ q) _ _ (bytes_app rfl rfl hsa) (by rw [List.length_append]; omega))).mono ?_
      rintro e w9 ⟨vr3, rfl, hr3, hb9⟩
      replace hE1 := hE1.below hb9
      replace hE2 := hE2.below hb9
      replace hE3 := hE3.below hb9
      replace hE4 := hE4.below hb9
      replace hl0 := hl0.below hb9
      replace hd0 := hd0.below hb9
      replace hx := hx.below hb9
      replace hq0 := hq0.below hb9
      replace hr2 := hr2.below hb9
      replace hb9 := bl_next hb8 hb9
      clear hb8 hsa
      replace hr3 := Sl.of_own hr3
      go_wp2_with (first
        | (refine wpList_slice_hm (o := ⟨some 98, _, _, _, _, _⟩) rfl _ _ _ _ rfl elBytes rfl hE4 _ _ E4.length rfl rfl rfl rfl (Nat.le_refl _) (by omega) ?_; intro hsx)
        | (at_builtin; refine wpList_append_full rfl _ _ _ rfl elBytes rfl hsx (by omega) _ _ _ rfl hq0 (by omega) (by omega) ?_; intro va10 w10 hsa hb10))
      clear hsx
      replace hE1 := hE1.below hb10
      replace hE2 := hE2.below hb10
      replace hE3 := hE3.below hb10
      replace hE4 := hE4.below hb10
      replace hl0 := hl0.below hb10
      replace hd0 := hd0.below hb10
      replace hx := hx.below hb10
      replace hq0 := hq0.below hb10
      replace hr2 := hr2.below hb10
      replace hr3 := hr3.below hb10
      replace hb10 := bl_next hb9 hb10
      clear hb9
      refine (got_eq G4'.out (wire_GetStrings (E4 ++ q) _ _ (bytes_app rfl rfl hsa) (by rw [List.length_append]; omega))).mono ?_
      rintro e w11 ⟨vr4, rfl, hr4, hb11⟩
      replace hE1 := hE1.below hb11
      replace hE2 := hE2.below hb11
      replace hE3 := hE3.below hb11
      replace hE4 := hE4.below hb11
      replace hl0 := hl0.below hb11
      replace hd0 := hd0.below hb11
      replace hx := hx.below hb11
      replace hq0 := hq0.below hb11
      replace hr2 := hr2.below hb11
      replace hr3 := hr3.below hb11
      replace hb11 := bl_next hb10 hb11
      clear hb10 hsa
      replace hr4 := strs_back (Sl.of_own hr4)
      go_wp2_with fail
      refine (sanity_true _).mono ?_
      rintro e w12 ⟨rfl, hb12⟩
      replace hr2 := hr2.below hb12
      replace hr3 := hr3.below hb12
      replace hr4 := hr4.below hb12
      replace hl0 := hl0.below hb12
      replace hd0 := hd0.below hb12
      replace hx := hx.below hb12
      replace hb12 := bl_next hb11 hb12
      clear hb11
      go_wp2_with fail
      refine (SameTexts_true x _ _ _ hr4 hx).mono ?_
      rintro e w13 ⟨rfl, hb13⟩
      replace hr2 := hr2.below hb13
      replace hr3 := hr3.below hb13
      replace hl0 := hl0.below hb13
      replace hd0 := hd0.below hb13
      replace hb13 := bl_next hb12 hb13
      clear hb12
      go_wp2_with fail
      refine (SameInts_true l _ _ _ hr2 hl0).mono ?_
      rintro e w14 ⟨rfl, hb14⟩
      replace hr3 := hr3.below hb14
      replace hd0 := hd0.below hb14
      replace hb14 := bl_next hb13 hb14
      clear hb13
      go_wp2_with fail
      refine (SameDigests_true d _ _ _ hr3 hd0 hd).mono ?_
      rintro e w15 ⟨rfl, hb15⟩
      replace hb15 := bl_next hb14 hb15
      clear hb14
      go_wp2_with fail
      go_ret
      exact ⟨ret_true (by simp), hb15⟩
    · have HF := Lib.hid (decide_eq_false hfew)
      go_enter Try.func8, Try.ntmps8
      go_wp2_with fail
      refine (few_any x _ _ hx (by omega)).mono ?_
      rintro e w1 ⟨rfl, rfl⟩
      rw [HF.out]
      go_wp2_with fail
      refine (sanity_true _).mono ?_
      rintro e w1 ⟨rfl, hb1⟩
      go_wp2_with fail
      go_ret
      exact ⟨rfl, hb1⟩
end Go.Proofs.Ytjdoellkoofnmaa
