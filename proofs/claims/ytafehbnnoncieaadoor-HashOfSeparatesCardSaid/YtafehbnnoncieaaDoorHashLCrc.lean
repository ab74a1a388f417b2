/-
  Shifts, words, checks and joins: the walks of four statements. Conditions: none.
-/
import Derived.Test.YtafehbnnoncieaaDoorHashT
namespace Go.Proofs.YtafehbnnoncieaaDoor
open Go.RowKit
theorem i64_xor40 (x y : BitVec 40) : bits .xor .i64 (x.toNat : Int) (y.toNat : Int) = ((x ^^^ y).toNat : Int) := by
  have h1 := x.isLt
  have h2 := y.isLt
  have e : ∀ k : Nat, k < 1099511627776 → (BitVec.ofInt 64 (k : Int)).toNat = k := fun k hk => by
    rw [BitVec.ofInt_natCast, BitVec.toNat_ofNat]; exact Nat.mod_eq_of_lt (by omega)
  show IntKind.i64.wrap ((BitVec.ofInt 64 (x.toNat : Int) ^^^ BitVec.ofInt 64 (y.toNat : Int)).toNat : Int) = _
  have h3 := (x ^^^ y).isLt
  rw [BitVec.toNat_xor, e _ h1, e _ h2, ← BitVec.toNat_xor, IntKind.wrap_i64]
  omega
theorem elInts02 : El Tryd.prog 36 3 (.int .i64 0) 1 8 := ⟨Tryd.underlying36, info_parts (by kernel_rfl), rfl, by decide⟩
theorem crcVal_lt (l : List UInt8) : ∃ z : Nat, crcVal l = .int .i64 z ∧ z < 1099511627776 := ⟨_, rfl, (Crc.crc l).isLt⟩
theorem Sl.of_stob (w : World) (s : ByteArray) (e : TypeId) (fr : Nat × Nat) (hs : s.size ≤ maxLen) :
    Sl (w.drew.alloc (.cells (bytesRow s (grownCap w s.size 0 e)) e fr)) (.slice (some ⟨w.heap.size, 0, none⟩) s.size (grownCap w s.size 0 e)) 1 s.size (s.data.toList.map bv) := by
  have hl : s.data.toList.length = s.size := by rw [Array.length_toList]; rfl
  refine ⟨_, _, rfl, grownCap_ge _ _ _ _, grownCap_le_maxLen _ _ _ _ hs, by rw [List.length_map, hl, Nat.mul_one], fun _ => ⟨_, rfl, by show w.heap.size < (w.heap.push _).size; simp, fun j u hu => ?_⟩⟩
  have hj : j < s.data.size := by
    rcases Nat.lt_or_ge j s.data.size with h | h
    · exact h
    · rw [List.getElem?_eq_none (by rw [List.length_map, hl]; exact h)] at hu; cases hu
  rw [Addr.add_lit]
  have hc := World.cell?_alloc_mark w.drew (bytesRow s (grownCap w s.size 0 e)) e fr j
  rw [Nat.zero_add]
  refine hc.trans ?_
  rw [bytesRow_at s _ j hj]
  have : s.data.toList[j]? = some s.data[j] := by rw [List.getElem?_eq_getElem (by rw [hl]; exact hj)]; simp
  rw [List.getElem?_map, this] at hu
  exact hu
/-- []byte(s). -/
theorem wp_stob {P : Program} {o : Oper} {a : Act} {w : World} {K : Act → World → Prop} {Q : Exit → Act → World → Prop} (src dst : TypeId) (x : Operand) (ho : o.op = .convert src dst x) {e : TypeId} (hs : P.underlying src = some .string) (hd : P.underlying dst = some (.slice e)) (he : P.underlying e = some (.int .u8))
    {s : ByteArray} (hx : a.eval x = .string s) (hsz : s.size ≤ maxLen) (h : ∀ v w', Sl w' v 1 s.size (s.data.toList.map bv) → Below w.heap.size w w' → K (a.put o.dst v) w') : o.wp P a w K Q := by
  have hr := run_bytes_of_string (P := P) w src dst e s hs hd he
  unfold Oper.wp execOp
  simp only [ho, hx, Sem.run_bind, Sem.run_pure, Result.andThen_ok, hr]
  exact h _ _ (Sl.of_stob w s e _ hsz) (((Below.refl _ _).drew).alloc (Nat.le_refl _) _)
theorem wpList_stob {P : Program} {ops : Array Oper} {rest : List Oper} {o : Oper} {a : Act} {w : World} {Q : Exit → Act → World → Prop} (hgd : Region.wanted o (yielded ops a.tmps) = true) (src dst : TypeId) (x : Operand) (ho : o.op = .convert src dst x)
    {e : TypeId} (hs : P.underlying src = some .string) (hd : P.underlying dst = some (.slice e)) (he : P.underlying e = some (.int .u8)) {s : ByteArray} (hx : a.eval x = .string s) (hsz : s.size ≤ maxLen)
    (h : ∀ v w', Sl w' v 1 s.size (s.data.toList.map bv) → Below w.heap.size w w' → wpList P ops Q rest (a.put o.dst v) w') : wpList P ops Q (o :: rest) a w := by
  refine wpList_step fun K hK => ?_
  rw [if_pos hgd]
  exact wp_stob src dst x ho hs hd he hx hsz fun v w' h1 h2 => hK _ _ (h v w' h1 h2)
/-- string(b), of an operation with a guard that holds. -/
theorem wpList_btos_g {P : Program} {ops : Array Oper} {rest : List Oper} {o : Oper} {a : Act} {w : World} {Q : Exit → Act → World → Prop} (hgd : Region.wanted o (yielded ops a.tmps) = true) (src dst e : TypeId) (x : Operand) (ho : o.op = .convert src dst x)
    (hs : P.underlying src = some (.slice e)) (he : P.underlying e = some (.int .u8)) (hd : P.underlying dst = some .string)
    {v : Value} (hx : a.eval x = v) (l : List UInt8) (h : Sl w v 1 l.length (l.map bv)) (hk : wpList P ops Q rest (a.put o.dst (.string ⟨l.toArray⟩)) w) : wpList P ops Q (o :: rest) a w := by
  refine wpList_step fun K hK => ?_
  rw [if_pos hgd]
  unfold Oper.wp execOp
  simp only [ho, hx, Sem.run_bind, Sem.run_pure, Result.andThen_ok, run_bytes_string w src dst e hs he hd h]
  exact hK _ _ hk
set_option maxHeartbeats 1000000 in
theorem crcSpec_walk (l : List UInt8) (x : Value) (w : World) (hl : Sl w x 1 l.length (l.map bv)) (hb : l.length ≤ 140737488351232) (hT : Nibs w ∧ Consts w) :
    Calls Tryd.prog 3 #[x] w fun e w' => e = .returned (.bool true) ∧ Below w.heap.size w w' := by
  obtain ⟨hN, hC⟩ := hT
  obtain ⟨A, c, rfl, hnc, hcm, _⟩ := id hl
  unfold maxLen at hcm
  by_cases h6 : l.length ≤ 600
  · obtain ⟨z, hz, hz40⟩ := crcVal_lt l
    have HZ := Lib.hid hz
    have HZ1 := Lib.hid hz40
    clear hz hz40
    go_enter Tryd.func3, Tryd.ntmps3
    go_wp2_with fail
    refine (law_sanity _ hN hC).mono ?_
    rintro e w1 ⟨rfl, hb1⟩
    have hN1 := hN.below hb1
    have hl1 := hl.below hb1
    go_wp2_with (refine wpList_bytes_string (o := ⟨some 12, _, _, _, _, _⟩) rfl _ _ _ _ rfl Tryd.underlying22 Tryd.underlying5 Tryd.underlying9 rfl l hl1 ?_)
    refine (hash_Crc40 l _ _ hl1 hN1 (Nat.le_trans hb (by decide))).mono ?_
    rw [HZ.out]
    rintro e w2 ⟨rfl, hb2⟩
    have hl2 := hl1.below hb2
    go_wp2_with (refine wpList_stob (o := ⟨some 19, _, _, _, _, _⟩) rfl _ _ _ rfl Tryd.underlying9 Tryd.underlying22 Tryd.underlying5 rfl (by rw [ba_size]; exact Nat.le_trans h6 (by decide)) ?_; intro v3 w3 hsl3 hb3)
    have hl3 := hl2.below hb3
    refine (ref_Crc40 l _ _ hsl3).mono ?_
    rw [HZ.out]
    rintro e w' ⟨rfl, rfl⟩
    have hd : decide ((z : Int) < 1099511627776) = true := decide_eq_true (by have := HZ1.out; omega)
    go_wp2_with (refine wpList_btos_g (o := ⟨some 33, _, _, _, _, _⟩) rfl _ _ _ _ rfl Tryd.underlying22 Tryd.underlying5 Tryd.underlying9 rfl l hl3 ?_)
    go_ret
    exact ⟨rfl, bl_on (bl_on hb1 hb2) hb3⟩
  · go_enter Tryd.func3, Tryd.ntmps3
    go_wp2_with fail
    refine (law_sanity _ hN hC).mono ?_
    rintro e w1 ⟨rfl, hb1⟩
    go_wp2_with fail
    go_ret
    exact ⟨rfl, hb1⟩

set_option maxHeartbeats 1000000 in
theorem shifts_walk (a b n m : Int) (w : World) (hT : Nibs w ∧ Consts w) :
    Calls Tryd.prog 8 #[.int .i64 a, .int .i64 b, .int .i64 n, .int .i64 m] w fun e w' => e = .returned (.bool true) ∧ Below w.heap.size w w' := by
  obtain ⟨hN, hC⟩ := hT
  have hn := i64_and_mask n 40 (by decide)
  have hm := i64_and_mask m 40 (by decide)
  have hbm := i64_and_mask b 40 (by decide)
  rw [show ((2 : Int) ^ 40 - 1) = 1099511627775 from rfl, show ((2 : Int) ^ 40) = 1099511627776 from rfl] at hn hm hbm
  obtain ⟨N, hN'⟩ : ∃ N : Nat, n % 1099511627776 = N := ⟨(n % 1099511627776).toNat, by omega⟩
  obtain ⟨M, hM'⟩ : ∃ M : Nat, m % 1099511627776 = M := ⟨(m % 1099511627776).toNat, by omega⟩
  have hNl : N < 1099511627776 := by omega
  have hMl : M < 1099511627776 := by omega
  rw [hN'] at hn
  rw [hM'] at hm
  have hbv : b % 1099511627776 = ((BitVec.ofInt 40 b).toNat : Int) := by rw [BitVec.toNat_ofInt]; omega
  rw [hbv] at hbm
  clear hN' hM' hbv
  -- the four values
  obtain ⟨x, hx⟩ : ∃ x : BitVec 40, x = Crc.join (BitVec.ofInt 40 a) 0#40 (N + M) := ⟨_, rfl⟩
  have h1 : joinVal a 0 (N + M) = .int .i64 x.toNat := by rw [hx]; rfl
  have h2 : joinVal ((Crc.join (BitVec.ofInt 40 a) 0#40 N).toNat : Int) 0 M = .int .i64 x.toNat := by
    rw [hx, Crc.join_add]
    unfold joinVal
    rw [ofInt_toNat]; rfl
  have h0 : joinVal a 0 N = .int .i64 (Crc.join (BitVec.ofInt 40 a) 0#40 N).toNat := rfl
  have h3 : joinVal a b (N + M) = .int .i64 (x ^^^ BitVec.ofInt 40 b).toNat := by
    rw [hx]; unfold joinVal Crc.join; rw [BitVec.xor_zero]
  have h4 : joinVal 0 b N = .int .i64 (BitVec.ofInt 40 b).toNat := by
    unfold joinVal Crc.join
    rw [show BitVec.ofInt 40 0 = 0#40 from rfl, Crc.it_S_zero, BitVec.zero_xor]
  have hxor : bits .xor .i64 (x.toNat : Int) ((BitVec.ofInt 40 b).toNat : Int) = ((x ^^^ BitVec.ofInt 40 b).toNat : Int) := i64_xor40 x _
  have hxl := x.isLt
  have hbl := (BitVec.ofInt 40 b).isLt
  generalize (Crc.join (BitVec.ofInt 40 a) 0#40 N).toNat = y at *
  generalize (x ^^^ BitVec.ofInt 40 b).toNat = z at *
  generalize x.toNat = x' at *
  generalize (BitVec.ofInt 40 b).toNat = b' at *
  have H0 := Lib.hid h0
  have H1 := Lib.hid h1
  have H2 := Lib.hid h2
  have H3 := Lib.hid h3
  have H4 := Lib.hid h4
  clear h0 h1 h2 h3 h4 hx
  go_enter Tryd.func8, Tryd.ntmps8
  go_wp2_with fail
  refine (law_sanity _ hN hC).mono ?_
  rintro e w1 ⟨rfl, hb1⟩
  have hN1 := hN.below hb1
  go_wp2_with fail
  refine (hash_Join a 0 _ (N + M) (by omega) (by omega) _ hN1).mono ?_
  rw [H1.out]
  rintro e w' ⟨rfl, rfl⟩
  go_wp2_with fail
  refine (hash_Join a 0 _ N rfl (by omega) _ hN1).mono ?_
  rw [H0.out]
  rintro e w' ⟨rfl, rfl⟩
  go_wp2_with fail
  refine (hash_Join _ 0 _ M rfl (by omega) _ hN1).mono ?_
  rw [H2.out]
  rintro e w' ⟨rfl, rfl⟩
  go_wp2_with fail
  refine (hash_Join a b _ (N + M) (by omega) (by omega) _ hN1).mono ?_
  rw [H3.out]
  rintro e w' ⟨rfl, rfl⟩
  go_wp2_with fail
  refine (hash_Join 0 b _ N rfl (by omega) _ hN1).mono ?_
  rw [H4.out]
  rintro e w' ⟨rfl, rfl⟩
  go_wp2_with fail
  go_ret
  exact ⟨rfl, hb1⟩
set_option maxHeartbeats 1000000 in
set_option maxRecDepth 100000 in
theorem words_walk (l : List Int) (x : Value) (w : World) (hl : Sl w x 1 l.length (l.map iv)) (hg : ∀ n ∈ l, I64 n) (hT : Nibs w ∧ Consts w) :
    Calls Tryd.prog 5 #[x] w fun e w' => e = .returned (.bool true) ∧ Below w.heap.size w w' := by
  obtain ⟨hN, hC⟩ := hT
  obtain ⟨A, c, rfl, hnc, hcm, _⟩ := id hl
  unfold maxLen at hcm
  by_cases h8 : l.length ≤ 80
  · go_enter Tryd.func5, Tryd.ntmps5
    go_wp2_with fail
    refine (law_sanity _ hN hC).mono ?_
    rintro e w1 ⟨rfl, hb1⟩
    have hN1 := hN.below hb1
    have hl1 := hl.below hb1
    obtain ⟨_, _, hv1, _, _, hr1⟩ := id hl1
    injection hv1 with e1 e2 e3
    subst e1; subst e3
    go_wp2_with fail
    go_loopw [4, 5] (fun u4 u5 wr => ∃ k : Nat, k ≤ l.length ∧ u5 = .int .i64 k ∧ wr.ownsRow w1.heap.size 3 1 u4 k (((l.take k).map (· % 1099511627776)).map iv) ∧ Below w1.heap.size w1 wr) (fun _ u5 _ => l.length - (intOf u5).toNat)
    case atStart => exact ⟨0, Nat.zero_le _, rfl, World.ownsRow_nil _ _ _ _, Below.refl _ _⟩
    case round =>
      obtain ⟨k, hk, rfl, hown, hB⟩ := hrel
      by_cases hlt : k < l.length
      · obtain ⟨ad, n, rfl, hab, hx, hc⟩ := (hr1.below hB).elem hlt rfl
        have hn := i64_and_mask n 40 (by decide)
        rw [show ((2 : Int) ^ 40 - 1) = 1099511627775 from rfl, show ((2 : Int) ^ 40) = 1099511627776 from rfl] at hn
        have HX := Lib.hid hx
        unfold iv at hc
        have HN' := Lib.hid hn
        clear hx hn
        go_wp2_with (at_builtin; refine wpList_append_one _ rfl _ _ _ rfl elInts02 w1.heap.size _ _ _ rfl hown _ rfl rfl (by omega) (by omega) hB.size w1 w1.heap.size hB (Nat.le_refl _) ?_)
        intro v' w' hown' hb'
        rw [HN'.out] at hown'
        have hown2 : w'.ownsRow w1.heap.size 3 1 v' (k + 1) (((l.take (k + 1)).map (· % 1099511627776)).map iv) := by
          rw [List.take_add_one, HX.out]; simpa [iv] using hown'
        clear hown' hown
        go_wp2_with fail
        go_roundw
        case rel => exact ⟨k + 1, hlt, by go_num, hown2, hb'⟩
        case measure => go_light; simp [intOf]; omega
      · obtain rfl : k = l.length := by omega
        rw [List.take_length] at hown
        have hsl := Sl.of_own hown
        have hlow := Lib.hid (Crc.words_low l)
        obtain ⟨z, hz, _⟩ := crcVal_lt (Crc.words l)
        have HZ := Lib.hid hz
        have hlr := hl1.below hB
        have hNr := hN1.below hB
        have hwl := Crc.words_length l
        clear hz hown
        go_wp2_with fail
        refine (hash_Words l _ _ hlr hg hNr).mono ?_
        rw [HZ.out]
        rintro e w2 ⟨rfl, hb2⟩
        have hl2 := hlr.below hb2
        have hs2 := hsl.below hb2
        have hN2 := hNr.below hb2
        go_wp2_with fail
        refine (ref_Words l _ _ hl2 hg (by omega)).mono ?_
        rw [HZ.out]
        rintro e w3 ⟨rfl, hb3⟩
        have hl3 := hl2.below hb3
        have hs3 := hs2.below hb3
        have hN3 := hN2.below hb3
        go_wp2_with fail
        refine (hash_Words (l.map (· % 1099511627776)) _ _ (by rw [List.length_map]; exact hs3) (fun n hn => by
          obtain ⟨m, _, rfl⟩ := List.mem_map.1 hn
          unfold I64; omega) hN3).mono ?_
        rw [hlow.out, HZ.out]
        rintro e w4 ⟨rfl, hb4⟩
        have hl4 := hl3.below hb4
        have hN4 := hN3.below hb4
        go_wp2_with fail
        refine (ref_WBytes l _ _ hl4 hg (by omega)).mono ?_
        rintro e w5 ⟨v5, rfl, hown5, hb5⟩
        go_wp2_with fail
        refine (hash_Crc40 (Crc.words l) _ _ (Sl.of_own hown5) (hN4.below hb5) (by omega)).mono ?_
        rw [HZ.out]
        rintro e w6 ⟨rfl, hb6⟩
        go_wp2_with fail
        go_ret
        exact ⟨rfl, bl_on (bl_on (bl_on (bl_on (bl_on (bl_on hb1 hB) hb2) hb3) hb4) hb5) hb6⟩
  · go_enter Tryd.func5, Tryd.ntmps5
    go_wp2_with fail
    refine (law_sanity _ hN hC).mono ?_
    rintro e w1 ⟨rfl, hb1⟩
    go_wp2_with fail
    go_ret
    exact ⟨rfl, hb1⟩
end Go.Proofs.YtafehbnnoncieaaDoor
