/-
  The law on encoding: the walk. Conditions: the strings' lengths add up to less than 2^40.
-/
import Derived.Test.YtjdoellkoofnmaaWireT
namespace Go.Proofs.Ytjdoellkoofnmaa
open Go.RowKit
def sizes (l : List ByteArray) : Nat := (l.map fun s => s.size).sum
theorem sizes_take {l : List ByteArray} {k : Nat} {s : ByteArray} (h : l[k]? = some s) : sizes (l.take (k + 1)) = sizes (l.take k) + s.size := by
  unfold sizes
  rw [List.take_add_one, h]
  simp
theorem sizes_le (l : List ByteArray) (k : Nat) : sizes (l.take k) ≤ sizes l := by
  have h : sizes l = sizes (l.take k) + sizes (l.drop k) := by
    unfold sizes
    rw [← List.sum_append, ← List.map_append, List.take_append_drop]
  omega
theorem encStrings_len_le {l : List ByteArray} (h : l.length + sizes l ≤ 1152921504606846976) : (encStrings l).length ≤ 10 + 10 * l.length + sizes l := by
  unfold encStrings
  rw [List.length_append]
  have h1 := (encInt_len (i64_nat (k := l.length) (by omega))).2
  have h2 : ∀ l : List ByteArray, sizes l ≤ 1152921504606846976 → (l.flatMap encBytes).length ≤ 10 * l.length + sizes l := by
    intro l
    induction l with
    | nil => intro _; simp
    | cons s l ih =>
      intro hs
      have e : sizes (s :: l) = s.size + sizes l := by simp [sizes]
      rw [e] at hs ⊢
      rw [List.flatMap_cons, List.length_append, List.length_cons]
      have h3 := encBytes_len_le s (by omega)
      have h4 := ih (by omega)
      omega
  have := h2 l (by omega)
  omega
theorem encDigests_len_le {l : List (List UInt8)} (hg : ∀ d ∈ l, d.length = 16) (h : l.length ≤ 1152921504606846976) : (encDigests l).length ≤ 10 + 16 * l.length := by
  unfold encDigests
  rw [List.length_append, flatten_len hg]
  have h1 := (encInt_len (i64_nat (k := l.length) (by omega))).2
  omega
set_option maxHeartbeats 1000000 in
theorem few_any (l : List ByteArray) (v : Value) (w : World) (hl : Sl w v 1 l.length (l.map Value.string)) (hs : l.length + sizes l ≤ 1152921504606846976) :
    Calls Try.prog 11 #[v] w fun e w' => e = .returned (.bool (decide ((l.length : Int) + (sizes l : Int) ≤ 2000))) ∧ w = w' := by
  obtain ⟨A, c, rfl, hnc, hcm, hl0⟩ := hl.open_
  obtain ⟨_, _, he, _, _, hr⟩ := hl
  injection he with e1 e2 e3
  subst e1
  clear e2 e3 hl0
  go_enter Try.func11, Try.ntmps11
  go_wp2_with fail
  go_loop [3, 10] (fun t i => ∃ k : Nat, k ≤ l.length ∧ i = .int .i64 (k : Int) ∧ t = .int .i64 ((l.length : Int) + (sizes (l.take k) : Int))) (fun _ i => l.length - (intOf i).toNat)
  case atStart => exact ⟨0, Nat.zero_le _, rfl, by simp [sizes]⟩
  case round =>
    obtain ⟨k, hk, rfl, rfl⟩ := hrel
    by_cases hlt : k < l.length
    · obtain ⟨ad, x, rfl, hab, hx, hc⟩ := hr.elem hlt rfl
      have h1 := sizes_le l (k + 1)
      have h2 := sizes_take hx
      have H2 := Lib.hid h2
      have h3 : sizes (l.take k) + x.size ≤ 1152921504606846976 := by omega
      clear h2 h1 hx
      generalize sizes (l.take k) = S at *
      go_wp2_with fail
      go_round
      case rel => exact ⟨k + 1, hlt, by go_num, by rw [H2.out]; go_num⟩
      case measure => simp [intOf]; omega
    · obtain rfl : k = l.length := by omega
      rw [List.take_length]
      go_wp2_with fail
      go_ret
      exact ⟨rfl, rfl⟩
set_option maxHeartbeats 2000000 in
set_option maxRecDepth 100000 in
theorem encode_walk (n : Int) (s : ByteArray) (l : List Int) (x : List ByteArray) (d : List (List UInt8)) (vl vx vd : Value) (w : World) (hn : I64 n) (hg : ∀ n ∈ l, I64 n) (hd : ∀ e ∈ d, e.length = 16)
    (hl : Sl w vl 1 l.length (l.map iv)) (hx : Sl w vx 1 x.length (x.map Value.string)) (hdd : Sl w vd 16 d.length (flat d)) (b1 : s.size ≤ 140737488351232) (b2 : l.length ≤ 140737488351232) (b3 : x.length + sizes x ≤ 1099511627776) (b4 : d.length ≤ 140737488351232) :
    Calls Try.prog 3 #[.int .i64 n, .string s, vl, vx, vd] w (Says true w) := by
  obtain ⟨Al, cl, rfl, hncl, hcml, hl0⟩ := hl.open_
  obtain ⟨Ad, cd, rfl, hncd, hcmd, hd0⟩ := hdd.open_
  clear hl hdd
  have t1 := encBytes_len_le s (by omega)
  have t2 := encInts_len_le hg (by omega)
  have t3 := encStrings_len_le (l := x) (by omega)
  have t4 := encDigests_len_le hd (by omega)
  by_cases hlen : 2000 < s.size + l.length + d.length
  · go_enter Try.func3, Try.ntmps3
    go_wp2_with fail
    refine (sanity_true _).mono ?_
    rintro e w1 ⟨rfl, hb1⟩
    go_wp2_with fail
    go_ret
    exact ⟨rfl, hb1⟩
  · by_cases hfew : (x.length : Int) + (sizes x : Int) ≤ 2000
    · have HF := Lib.hid (decide_eq_true hfew)
      go_enter Try.func3, Try.ntmps3
      go_wp2_with fail
      refine (few_any x _ _ hx (by omega)).mono ?_
      rintro e w1 ⟨rfl, rfl⟩
      rw [HF.out]
      go_wp2_with fail
      refine (sanity_true _).mono ?_
      rintro e w1 ⟨rfl, hb1⟩
      replace hl0 := hl0.below hb1
      replace hd0 := hd0.below hb1
      replace hx := hx.below hb1
      go_wp2_with fail
      refine (wire_Int n _ hn.1 hn.2).mono ?_
      rintro e w2 ⟨v2, rfl, ho, hb2⟩
      replace ho := Sl.of_own ho
      replace hl0 := hl0.below hb2
      replace hx := hx.below hb2
      replace hd0 := hd0.below hb2
      replace hb2 := bl_next hb1 hb2
      clear hb1
      go_wp2_with fail
      refine (ref_Int n _ hn.1 hn.2).mono ?_
      rintro e w3 ⟨v3, rfl, ho2, hb3⟩
      replace ho2 := Sl.of_own ho2
      replace ho := ho.below hb3
      replace hl0 := hl0.below hb3
      replace hx := hx.below hb3
      replace hd0 := hd0.below hb3
      replace hb3 := bl_next hb2 hb3
      clear hb2
      go_wp2_with fail
      refine (Same_any _ _ _ _ _ ho ho2).mono ?_
      rintro e w4 ⟨rfl, hb4⟩
      rw [decide_eq_true rfl]
      replace hl0 := hl0.below hb4
      replace hx := hx.below hb4
      replace hd0 := hd0.below hb4
      replace hb4 := bl_next hb3 hb4
      clear hb3 ho ho2
      go_wp2_with fail
      refine (wire_Bytes s _ (by omega)).mono ?_
      rintro e w5 ⟨v5, rfl, ho, hb5⟩
      replace ho := Sl.of_own ho
      replace hl0 := hl0.below hb5
      replace hx := hx.below hb5
      replace hd0 := hd0.below hb5
      replace hb5 := bl_next hb4 hb5
      clear hb4
      go_wp2_with fail
      refine (ref_Bytes s _ (by omega)).mono ?_
      rintro e w6 ⟨v6, rfl, ho2, hb6⟩
      replace ho2 := Sl.of_own ho2
      replace ho := ho.below hb6
      replace hl0 := hl0.below hb6
      replace hx := hx.below hb6
      replace hd0 := hd0.below hb6
      replace hb6 := bl_next hb5 hb6
      clear hb5
      go_wp2_with fail
      refine (Same_any _ _ _ _ _ ho ho2).mono ?_
      rintro e w7 ⟨rfl, hb7⟩
      rw [decide_eq_true rfl]
      replace hl0 := hl0.below hb7
      replace hx := hx.below hb7
      replace hd0 := hd0.below hb7
      replace hb7 := bl_next hb6 hb7
      clear hb6 ho ho2
      go_wp2_with fail
      refine (wire_Ints l _ _ hl0 hg (by omega) (by omega)).mono ?_
      rintro e w8 ⟨v8, rfl, ho, hb8⟩
      replace ho := Sl.of_own ho
      replace hl0 := hl0.below hb8
      replace hx := hx.below hb8
      replace hd0 := hd0.below hb8
      replace hb8 := bl_next hb7 hb8
      clear hb7
      go_wp2_with fail
      refine (ref_Ints l _ _ hl0 hg (by omega) (by omega)).mono ?_
      rintro e w9 ⟨v9, rfl, ho2, hb9⟩
      replace ho2 := Sl.of_own ho2
      replace ho := ho.below hb9
      replace hl0 := hl0.below hb9
      replace hx := hx.below hb9
      replace hd0 := hd0.below hb9
      replace hb9 := bl_next hb8 hb9
      clear hb8
      go_wp2_with fail
      refine (Same_any _ _ _ _ _ ho ho2).mono ?_
      rintro e w10 ⟨rfl, hb10⟩
      rw [decide_eq_true rfl]
      replace hl0 := hl0.below hb10
      replace hx := hx.below hb10
      replace hd0 := hd0.below hb10
      replace hb10 := bl_next hb9 hb10
      clear hb9 ho ho2
      go_wp2_with fail
      refine (wire_Strings x _ _ hx (by omega) (by omega)).mono ?_
      rintro e w11 ⟨v11, rfl, ho, hb11⟩
      replace ho := Sl.of_own ho
      replace hx := hx.below hb11
      replace hd0 := hd0.below hb11
      replace hb11 := bl_next hb10 hb11
      clear hb10
      go_wp2_with fail
      refine (ref_Strings x _ _ hx (by omega) (by omega)).mono ?_
      rintro e w12 ⟨v12, rfl, ho2, hb12⟩
      replace ho2 := Sl.of_own ho2
      replace ho := ho.below hb12
      replace hx := hx.below hb12
      replace hd0 := hd0.below hb12
      replace hb12 := bl_next hb11 hb12
      clear hb11
      go_wp2_with fail
      refine (Same_any _ _ _ _ _ ho ho2).mono ?_
      rintro e w13 ⟨rfl, hb13⟩
      rw [decide_eq_true rfl]
      replace hx := hx.below hb13
      replace hd0 := hd0.below hb13
      replace hb13 := bl_next hb12 hb13
      clear hb12 ho ho2
      go_wp2_with fail
      refine (wire_Digests d _ _ hd0 hd (by omega) (by omega)).mono ?_
      rintro e w14 ⟨v14, rfl, ho, hb14⟩
      replace ho := Sl.of_own ho
      replace hd0 := hd0.below hb14
      replace hb14 := bl_next hb13 hb14
      clear hb13
      go_wp2_with fail
      refine (ref_Digests d _ _ hd0 hd (by omega) (by omega)).mono ?_
      rintro e w15 ⟨v15, rfl, ho2, hb15⟩
      replace ho2 := Sl.of_own ho2
      replace ho := ho.below hb15
      replace hd0 := hd0.below hb15
      replace hb15 := bl_next hb14 hb15
      clear hb14
      go_wp2_with fail
      refine (Same_any _ _ _ _ _ ho ho2).mono ?_
      rintro e w16 ⟨rfl, hb16⟩
      rw [decide_eq_true rfl]
      replace hd0 := hd0.below hb16
      replace hb16 := bl_next hb15 hb16
      clear hb15 ho ho2
      go_wp2_with fail
      go_ret
      exact ⟨rfl, hb16⟩
    · have HF := Lib.hid (decide_eq_false hfew)
      go_enter Try.func3, Try.ntmps3
      go_wp2_with fail
      refine (few_any x _ _ hx (by omega)).mono ?_
      rintro e w1 ⟨rfl, rfl⟩
      rw [HF.out]
      go_wp2_with fail
      refine (sanity_true _).mono ?_
      rintro e w1 ⟨rfl, hb1⟩
      go_wp2_with fail
      go_ret
      exact ⟨rfl, hb1⟩
end Go.Proofs.Ytjdoellkoofnmaa
