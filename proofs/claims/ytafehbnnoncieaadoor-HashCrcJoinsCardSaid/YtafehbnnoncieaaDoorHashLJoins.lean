/-
  Checks of concatenations and of exclusive ors: the walks of two statements. Conditions: none.
-/
import Derived.Test.YtafehbnnoncieaaDoorHashLCrc
namespace Go.Proofs.YtafehbnnoncieaaDoor
open Go.RowKit
theorem crc_int (l : List UInt8) : crcVal l = .int .i64 (Crc.crc l).toNat := rfl
theorem joinVal_of (u v : Crc.V) (n : Nat) : joinVal (u.toNat : Int) (v.toNat : Int) n = .int .i64 (Crc.join u v n).toNat := by
  unfold joinVal; rw [ofInt_toNat, ofInt_toNat]

set_option maxHeartbeats 1000000 in
set_option maxRecDepth 100000 in
theorem joins_walk (a b c : List UInt8) (x y z : Value) (w : World) (ha : Sl w x 1 a.length (a.map bv)) (hb : Sl w y 1 b.length (b.map bv)) (hc : Sl w z 1 c.length (c.map bv)) (hT : Nibs w ∧ Consts w) :
    Calls Tryd.prog 7 #[x, y, z] w fun e w' => e = .returned (.bool true) ∧ Below w.heap.size w w' := by
  obtain ⟨hN, hC⟩ := hT
  obtain ⟨A, ca, rfl, hna, hcma, _⟩ := id ha
  obtain ⟨B, cb, rfl, hnb, hcmb, _⟩ := id hb
  obtain ⟨D, cc, rfl, hnc, hcmc, _⟩ := id hc
  unfold maxLen at hcma hcmb hcmc
  by_cases h : a.length ≤ 400 ∧ b.length ≤ 400 ∧ c.length ≤ 400
  · obtain ⟨l1, l2, l3⟩ := h
    have j1 := joinVal_of (Crc.crc a) (Crc.crc b) b.length
    rw [← Crc.crc_append] at j1
    have j2 := joinVal_of (Crc.crc (a ++ b)) (Crc.crc c) c.length
    rw [← Crc.crc_append] at j2
    have j3 := joinVal_of (Crc.crc b) (Crc.crc c) c.length
    rw [← Crc.crc_append] at j3
    have j4 := joinVal_of (Crc.crc a) (Crc.crc (b ++ c)) (b.length + c.length)
    rw [← List.length_append, ← Crc.crc_append, ← List.append_assoc, List.length_append] at j4
    have k1 := crc_int a
    have k2 := crc_int b
    have k3 := crc_int c
    have k4 := crc_int (a ++ b ++ c)
    generalize (Crc.crc a).toNat = na at *
    generalize (Crc.crc b).toNat = nb at *
    generalize (Crc.crc c).toNat = nc at *
    generalize (Crc.crc (a ++ b)).toNat = nab at *
    generalize (Crc.crc (b ++ c)).toNat = nbc at *
    generalize (Crc.crc (a ++ b ++ c)).toNat = nabc at *
    have J1 := Lib.hid j1
    have J2 := Lib.hid j2
    have J3 := Lib.hid j3
    have J4 := Lib.hid j4
    have K1 := Lib.hid k1
    have K2 := Lib.hid k2
    have K3 := Lib.hid k3
    have K4 := Lib.hid k4
    clear j1 j2 j3 j4 k1 k2 k3 k4
    go_enter Tryd.func7, Tryd.ntmps7
    go_wp2_with fail
    refine (law_sanity _ hN hC).mono ?_
    rintro e w1 ⟨rfl, hb1⟩
    have hN1 := hN.below hb1
    have ha1 := ha.below hb1
    have hb1' := hb.below hb1
    have hc1 := hc.below hb1
    have hown0 := World.ownsRow_nil w1 w1.heap.size 5 1
    go_wp2_with (at_builtin; refine wpList_append_all _ rfl _ _ _ rfl elBytes w1.heap.size _ _ _ rfl hown0 _ _ _ rfl ha1 (bvs_one a) (by omega) (by omega) (Nat.le_refl _) w1 w1.heap.size (Below.refl _ _) (Nat.le_refl _) ?_)
    intro v2 w2 hown2 hb2
    have hbs2 := hb1'.below hb2
    clear hown0
    go_wp2_with (at_builtin; refine wpList_append_all _ rfl _ _ _ rfl elBytes w1.heap.size _ _ _ rfl hown2 _ _ _ rfl hbs2 (bvs_one b) (by omega) (by omega) hb2.size w1 w1.heap.size hb2 (Nat.le_refl _) ?_)
    intro v3 w3 hown3 hb3
    have hcs3 := hc1.below hb3
    clear hown2 hbs2
    go_wp2_with (at_builtin; refine wpList_append_all _ rfl _ _ _ rfl elBytes w1.heap.size _ _ _ rfl hown3 _ _ _ rfl hcs3 (bvs_one c) (by omega) (by omega) hb3.size w1 w1.heap.size hb3 (Nat.le_refl _) ?_)
    intro v4 w4 hown4 hb4
    have hsl4 : Sl w4 v4 1 (a ++ b ++ c).length ((a ++ b ++ c).map bv) := by
      have := Sl.of_own hown4
      simpa [List.length_append, Nat.add_assoc] using this
    have ha4 := ha1.below hb4
    have hb4' := hb1'.below hb4
    have hc4 := hc1.below hb4
    have hN4 := hN1.below hb4
    have hB4 := bl_on hb1 hb4
    clear hown3 hown4 hcs3 hb2 hb3 hb4 hb1
    go_wp2_with fail
    refine (hash_Crc40 a _ _ ha4 hN4 (by omega)).mono ?_
    rw [K1.out]
    rintro e w5 ⟨rfl, hb5⟩
    have hb5' := hb4'.below hb5
    have hc5 := hc4.below hb5
    have hN5 := hN4.below hb5
    have hs5 := hsl4.below hb5
    have hB5 := bl_on hB4 hb5
    go_wp2_with fail
    refine (hash_Crc40 b _ _ hb5' hN5 (by omega)).mono ?_
    rw [K2.out]
    rintro e w6 ⟨rfl, hb6⟩
    have hc6 := hc5.below hb6
    have hN6 := hN5.below hb6
    have hs6 := hs5.below hb6
    have hB6 := bl_on hB5 hb6
    go_wp2_with fail
    refine (hash_Crc40 c _ _ hc6 hN6 (by omega)).mono ?_
    rw [K3.out]
    rintro e w7 ⟨rfl, hb7⟩
    have hN7 := hN6.below hb7
    have hs7 := hs6.below hb7
    have hB7 := bl_on hB6 hb7
    go_wp2_with fail
    refine (hash_Join _ _ _ b.length rfl (by omega) _ hN7).mono ?_
    rw [J1.out]
    rintro e w' ⟨rfl, rfl⟩
    go_wp2_with fail
    refine (hash_Join _ _ _ c.length rfl (by omega) _ hN7).mono ?_
    rw [J2.out]
    rintro e w' ⟨rfl, rfl⟩
    go_wp2_with fail
    refine (hash_Join _ _ _ c.length rfl (by omega) _ hN7).mono ?_
    rw [J3.out]
    rintro e w' ⟨rfl, rfl⟩
    go_wp2_with fail
    refine (hash_Join _ _ _ (b.length + c.length) (by omega) (by omega) _ hN7).mono ?_
    rw [J4.out]
    rintro e w' ⟨rfl, rfl⟩
    go_wp2_with fail
    refine (hash_Crc40 (a ++ b ++ c) _ _ hs7 hN7 (by simp only [List.length_append]; omega)).mono ?_
    rw [K4.out]
    rintro e w8 ⟨rfl, hb8⟩
    go_wp2_with fail
    go_ret
    exact ⟨rfl, bl_on hB7 hb8⟩
  · have hcases : 400 < a.length ∨ (a.length ≤ 400 ∧ 400 < b.length) ∨ (a.length ≤ 400 ∧ b.length ≤ 400 ∧ 400 < c.length) := by omega
    clear h
    rcases hcases with h | ⟨h, h'⟩ | ⟨h, h', h''⟩
    all_goals
      go_enter Tryd.func7, Tryd.ntmps7
      go_wp2_with fail
      refine (law_sanity _ hN hC).mono ?_
      rintro e w1 ⟨rfl, hb1⟩
      go_wp2_with fail
      go_ret
      exact ⟨rfl, hb1⟩

/-- make([]byte, n). -/
theorem wpList_make_bytes {P : Program} {ops : Array Oper} {rest : List Oper} {o : Oper} {a : Act} {w : World} {Q : Exit → Act → World → Prop} (hgd : o.guard = none) (t : TypeId) (x y : Operand) (ho : o.op = .makeSlice t x y) {e : TypeId} (el : El P t e (.int .u8 0) 1 1) (n : Nat)
    (hx : a.eval x = .int .i64 n) (hy : a.eval y = .int .i64 n) (hn : n ≤ 1000000)
    (h : ∀ v w', Sl w' v 1 n ((List.replicate n (0 : UInt8)).map bv) → Below w.heap.size w w' → wpList P ops Q rest (a.put o.dst v) w') : wpList P ops Q (o :: rest) a w := by
  obtain ⟨i, hi, hz, hs, hb⟩ := el.info
  refine wpList_make_row (P := P) w hgd x y t ho e i (.int .u8 0) el.ht hi hz hs rfl .i64 .i64 n hx hy (by rw [hb]; omega) (by omega) (h _ _ ?_ ((Below.refl _ _).alloc (Nat.le_refl _) _))
  have hc : (madeCells #[Value.int .u8 0] n).toList = (List.replicate n (0 : UInt8)).map bv := by
    apply List.ext_getElem?
    intro j
    by_cases hj : j < n
    · simp [madeCells, hj, bv, Nat.mod_one]
    · simp [madeCells, hj]
  rw [← hc]
  exact Sl.built w (madeCells #[Value.int .u8 0] n) e n 1 (by simp [madeCells]) (Nat.le_trans hn (by decide))

set_option maxHeartbeats 1000000 in
set_option maxRecDepth 100000 in
theorem linear_walk (a b c : List UInt8) (x y z : Value) (w : World) (ha : Sl w x 1 a.length (a.map bv)) (hb : Sl w y 1 b.length (b.map bv)) (hc : Sl w z 1 c.length (c.map bv)) (hT : Nibs w ∧ Consts w) :
    Calls Tryd.prog 9 #[x, y, z] w fun e w' => e = .returned (.bool true) ∧ Below w.heap.size w w' := by
  obtain ⟨hN, hC⟩ := hT
  obtain ⟨A, ca, rfl, hna, hcma, _⟩ := id ha
  unfold maxLen at hcma
  by_cases h : a.length ≤ 400
  · obtain ⟨Z, hZ⟩ : ∃ Z : List UInt8, Z = List.replicate a.length 0 := ⟨_, rfl⟩
    have hZl : Z.length = a.length := by rw [hZ]; simp
    obtain ⟨u, hu⟩ : ∃ u, u = Crc.xorL Z b := ⟨_, rfl⟩
    obtain ⟨v, hv⟩ : ∃ v, v = Crc.xorL Z c := ⟨_, rfl⟩
    have hul : u.length = a.length := by rw [hu, Crc.xorL_length, hZl]
    have hvl : v.length = a.length := by rw [hv, Crc.xorL_length, hZl]
    have hx3 := Crc.crc_xor3 a u v hul.symm hvl.symm
    have hl1 := Crc.xorL_length a u
    have hl2 := Crc.xorL_length (Crc.xorL a u) v
    have e1 := i64_xor40 (Crc.crc a) (Crc.crc u)
    have e2 := i64_xor40 (Crc.crc a ^^^ Crc.crc u) (Crc.crc v)
    rw [← hx3] at e2
    have k1 := crc_int a
    have k2 := crc_int u
    have k3 := crc_int v
    have k4 := crc_int (Crc.xorL (Crc.xorL a u) v)
    generalize (Crc.crc (Crc.xorL (Crc.xorL a u) v)).toNat = n4 at *
    generalize (Crc.crc a ^^^ Crc.crc u).toNat = n5 at *
    generalize (Crc.crc a).toNat = n1 at *
    generalize (Crc.crc u).toNat = n2 at *
    generalize (Crc.crc v).toNat = n3 at *
    have K1 := Lib.hid k1
    have K2 := Lib.hid k2
    have K3 := Lib.hid k3
    have K4 := Lib.hid k4
    have HZ := Lib.hid hZ
    have HU := Lib.hid hu
    have HV := Lib.hid hv
    have HL := Lib.hid hZl
    have hle2 : (Crc.xorL a u).length ≤ 400 := by omega
    have hle3 : (Crc.xorL (Crc.xorL a u) v).length ≤ 400 := by omega
    have hule : u.length ≤ 400 := by omega
    have hvle : v.length ≤ 400 := by omega
    clear k1 k2 k3 k4 hx3 hl1 hl2 hul hvl hZ hu hv hZl
    go_enter Tryd.func9, Tryd.ntmps9
    go_wp2_with fail
    refine (law_sanity _ hN hC).mono ?_
    rintro e w1 ⟨rfl, hb1⟩
    have hN1 := hN.below hb1
    have ha1 := ha.below hb1
    have hb1' := hb.below hb1
    have hc1 := hc.below hb1
    go_wp2_with (refine wpList_make_bytes (o := ⟨some 19, _, _, _, _, _⟩) rfl _ _ _ rfl elBytes a.length rfl rfl (by omega) ?_; intro v2 w2 hz2 hb2)
    rw [← HZ.out] at hz2
    have hz2' : Sl w2 v2 1 Z.length (Z.map bv) := by rw [HL.out]; exact hz2
    have hB2 := bl_on hb1 hb2
    refine (ref_Xor Z b _ _ _ hz2' (hb1'.below hb2) (by rw [HL.out]; omega)).mono ?_
    rw [← HU.out]
    rintro e w3 ⟨v3, rfl, hown3, hb3⟩
    have hs3 := Sl.of_own hown3
    have hB3 := bl_on hB2 hb3
    go_wp2_with fail
    refine (ref_Xor Z c _ _ _ (hz2'.below hb3) ((hc1.below hb2).below hb3) (by rw [HL.out]; omega)).mono ?_
    rw [← HV.out]
    rintro e w4 ⟨v4, rfl, hown4, hb4⟩
    have hs4 := Sl.of_own hown4
    have hs34 := hs3.below hb4
    have hB4 := bl_on hB3 hb4
    have ha4 := ((ha1.below hb2).below hb3).below hb4
    have hN4 := hN.below hB4
    clear hz2 hz2' hown3 hown4 hs3 hb1' hc1 ha1
    go_wp2_with fail
    refine (ref_Xor a u _ _ _ ha4 hs34 (by omega)).mono ?_
    rintro e w5 ⟨v5, rfl, hown5, hb5⟩
    go_wp2_with fail
    refine (ref_Xor (Crc.xorL a u) v _ _ _ (Sl.of_own hown5) (hs4.below hb5) (by omega)).mono ?_
    rintro e w6 ⟨v6, rfl, hown6, hb6⟩
    have ha6 := (ha4.below hb5).below hb6
    have hu6 := (hs34.below hb5).below hb6
    have hv6 := (hs4.below hb5).below hb6
    have hN6 := (hN4.below hb5).below hb6
    have hB6 := bl_on (bl_on hB4 hb5) hb6
    have hs6 := Sl.of_own hown6
    clear hown5 hown6 hs4 hs34 ha4
    go_wp2_with fail
    refine (hash_Crc40 (Crc.xorL (Crc.xorL a u) v) _ _ hs6 hN6 (by omega)).mono ?_
    rw [K4.out]
    rintro e w7 ⟨rfl, hb7⟩
    go_wp2_with fail
    refine (hash_Crc40 a _ _ (ha6.below hb7) (hN6.below hb7) (by omega)).mono ?_
    rw [K1.out]
    rintro e w8 ⟨rfl, hb8⟩
    go_wp2_with fail
    refine (hash_Crc40 u _ _ ((hu6.below hb7).below hb8) ((hN6.below hb7).below hb8) (by omega)).mono ?_
    rw [K2.out]
    rintro e w9 ⟨rfl, hb9⟩
    go_wp2_with fail
    refine (hash_Crc40 v _ _ (((hv6.below hb7).below hb8).below hb9) (((hN6.below hb7).below hb8).below hb9) (by omega)).mono ?_
    rw [K3.out]
    rintro e w10 ⟨rfl, hb10⟩
    go_wp2_with fail
    go_ret
    exact ⟨rfl, bl_on (bl_on (bl_on (bl_on hB6 hb7) hb8) hb9) hb10⟩
  · go_enter Tryd.func9, Tryd.ntmps9
    go_wp2_with fail
    refine (law_sanity _ hN hC).mono ?_
    rintro e w1 ⟨rfl, hb1⟩
    go_wp2_with fail
    go_ret
    exact ⟨rfl, hb1⟩
end Go.Proofs.YtafehbnnoncieaaDoor
