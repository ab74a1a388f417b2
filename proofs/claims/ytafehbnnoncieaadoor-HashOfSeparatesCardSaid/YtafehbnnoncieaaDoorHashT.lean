/-
  Hexadecimal digits; the examples that every statement of this chapter plays first. Conditions: none.
-/
import Derived.Test.YtafehbnnoncieaaDoorHashR
import Derived.Test.YtafehbnnoncieaaDoorHashS
import Derived.Test.YtafehbnnoncieaaDoorHashE
import Derived.Stop.BytesEq
import Derived.Lib.SlBytesConst
namespace Go.Proofs.YtafehbnnoncieaaDoor
open Go.RowKit
def digits : List UInt8 := [48, 49, 50, 51, 52, 53, 54, 55, 56, 57, 97, 98, 99, 100, 101, 102]
def hexL (l : List UInt8) : List UInt8 := l.flatMap fun b => [digits.getD (b.toNat / 16) 0, digits.getD (b.toNat % 16) 0]
theorem hexL_snoc (s : ByteArray) (k : Nat) (h : k < s.size) : hexL (s.data.toList.take (k + 1)) = hexL (s.data.toList.take k) ++ [digits.getD (s[k].toNat / 16) 0, digits.getD (s[k].toNat % 16) 0] := by
  unfold hexL
  rw [take_snoc s k h, List.flatMap_append]; simp
theorem hexL_length (l : List UInt8) : (hexL l).length = 2 * l.length := by
  induction l with
  | nil => rfl
  | cons b l ih => show ([_, _] ++ hexL l).length = _; rw [List.length_append, ih]; simp; omega
theorem dig_at (p : Nat) : ∀ h, (⟨#[48, 49, 50, 51, 52, 53, 54, 55, 56, 57, 97, 98, 99, 100, 101, 102]⟩ : ByteArray)[p]'h = digits.getD p 0 := by
  intro h
  have h2 : p < digits.length := h
  rw [List.getD_eq_getElem?_getD, List.getElem?_eq_getElem h2]
  rfl
set_option maxHeartbeats 1000000 in
set_option maxRecDepth 100000 in
theorem law_hex (s : ByteArray) (hs : s.size ≤ 1000) (w : World) :
    Calls Tryd.prog 37 #[.string s] w fun e w' => e = .returned (.string ⟨(hexL s.data.toList).toArray⟩) ∧ Below w.heap.size w w' := by
  go_enter Tryd.func37, Tryd.ntmps37
  go_wp2_with fail
  go_loopw [4, 5] (fun u4 u5 wr => ∃ k : Nat, k ≤ s.size ∧ u5 = .int .i64 k ∧ wr.ownsRow w.heap.size 5 1 u4 (2 * k) ((hexL (s.data.toList.take k)).map bv) ∧ Below w.heap.size w wr) (fun _ u5 _ => s.size - (intOf u5).toNat)
  case atStart => exact ⟨0, Nat.zero_le _, rfl, World.ownsRow_nil _ _ _ _, Below.refl _ _⟩
  case round =>
    obtain ⟨k, hk, rfl, hown, hB⟩ := hrel
    have hsz := hB.size
    by_cases hlt : k < s.size
    · have k0 : (0 : Int) ≤ (k : Int) := by omega
      have k1 : (k : Int) < s.size := by omega
      have HS := Lib.hid (hexL_snoc s k hlt)
      have hx := s[k].toNat_lt
      generalize hb : s[k].toNat = b at *
      have hb1 : b < 256 := hx
      have e1 : IntKind.u8.wrap ((b : Int) / 16) = ((b / 16 : Nat) : Int) := by rw [IntKind.wrap_u8]; omega
      have e2 : ((b : Int) % 16) = ((b % 16 : Nat) : Int) := by omega
      have e3 : (b : Int).tmod 16 = ((b % 16 : Nat) : Int) := by rw [Int.tmod_eq_emod_of_nonneg (by omega)]; omega
      have hd1 := dig_at (b / 16)
      have hd2 := dig_at (b % 16)
      have hp1 : b / 16 < 16 := by omega
      have hp2 : b % 16 < 16 := by omega
      generalize digits.getD (b / 16) 0 = d1 at *
      generalize digits.getD (b % 16) 0 = d2 at *
      generalize b / 16 = p1 at *
      generalize b % 16 = p2 at *
      have hp3 : (p1 : Int) < 16 := by omega
      have hp4 : (p2 : Int) < 16 := by omega
      have HB := Lib.hid hb
      clear hx
      go_wp2_with fail
      refine wp_region_lasts (fun w' => Below w.heap.size w w') (fun _ => false) (by kernel_rfl) hB.drew (fun hHeld => ?_)
      refine tk_0 (v := ?_) (by kernel_rfl) (by kernel_rfl) (by kernel_rfl) (by kernel_rfl) (fun _ _ _ h => h) (Or.inl ⟨by kernel_rfl, ?_⟩) (by assumption) ?_
      rotate_left
      · (intro wS hSw; (try dsimp only at hSw); (go_simp); (all_goals (with_reducible rfl)))
      try go_frame
      refine tk_1 (v := ?_) (by kernel_rfl) (by kernel_rfl) (by kernel_rfl) (by kernel_rfl) (fun _ _ _ h => h) (Or.inl ⟨by kernel_rfl, ?_⟩) (by assumption) ?_
      rotate_left
      · (intro wS hSw; (try dsimp only at hSw); (go_simp); (all_goals (with_reducible rfl)))
      try go_frame
      refine tk_2 (v := ?_) (by kernel_rfl) (by kernel_rfl) (by kernel_rfl) (by kernel_rfl) (fun _ _ _ h => h) (Or.inl ⟨by kernel_rfl, ?_⟩) (by assumption) ?_
      rotate_left
      · (intro wS hSw; (try dsimp only at hSw); (go_simp); (all_goals (with_reducible rfl)))
      try go_frame
      refine tk_3 (v := ?_) (by kernel_rfl) (by kernel_rfl) (by kernel_rfl) (by kernel_rfl) (fun _ _ _ h => h) (Or.inl ⟨by kernel_rfl, ?_⟩) (by assumption) ?_
      rotate_left
      · (intro wS hSw; (try dsimp only at hSw); (go_simp); (all_goals (with_reducible rfl)))
      try go_frame
      refine tk_4 (v := ?_) (by kernel_rfl) (by kernel_rfl) (by kernel_rfl) (by kernel_rfl) (fun _ _ _ h => h) (Or.inl ⟨by kernel_rfl, ?_⟩) (by assumption) ?_
      rotate_left
      · (intro wS hSw; (try dsimp only at hSw); (go_simp); (all_goals (with_reducible rfl)))
      try go_frame
      refine tk_5 (v := ?_) (by kernel_rfl) (by kernel_rfl) (by kernel_rfl) (by kernel_rfl) (fun _ _ _ h => h) (Or.inl ⟨by kernel_rfl, ?_⟩) (by assumption) ?_
      rotate_left
      · (intro wS hSw; (try dsimp only at hSw); (go_simp); (all_goals (with_reducible rfl)))
      try go_frame
      refine tk_6 (v := ?_) (by kernel_rfl) (by kernel_rfl) (by kernel_rfl) (by kernel_rfl) (fun _ _ _ h => h) (Or.inl ⟨by kernel_rfl, ?_⟩) (by assumption) ?_
      rotate_left
      · (intro wS hSw; (try dsimp only at hSw); (go_simp); (all_goals (with_reducible rfl)))
      try go_frame
      refine tk_7 (v := ?_) (by kernel_rfl) (by kernel_rfl) (by kernel_rfl) (by kernel_rfl) (fun _ _ _ h => h) (Or.inl ⟨by kernel_rfl, ?_⟩) (by assumption) ?_
      rotate_left
      · (intro wS hSw; (try dsimp only at hSw); (go_simp); (all_goals (with_reducible rfl)))
      try go_frame
      refine tk_8 (v := ?_) (by kernel_rfl) (by kernel_rfl) (by kernel_rfl) (by kernel_rfl) (fun _ _ _ h => h) (Or.inl ⟨by kernel_rfl, ?_⟩) (by assumption) ?_
      rotate_left
      · (intro wS hSw; (try dsimp only at hSw); (go_simp); (all_goals (with_reducible rfl)))
      try go_frame
      refine tk_9 (v := ?_) (by kernel_rfl) (by kernel_rfl) (by kernel_rfl) (by kernel_rfl) (fun _ _ _ h => h) (Or.inl ⟨by kernel_rfl, ?_⟩) (by assumption) ?_
      rotate_left
      · (intro wS hSw; (try dsimp only at hSw); (go_simp); (all_goals (with_reducible rfl)))
      try go_frame
      refine tk_10 (v := ?_) (by kernel_rfl) (by kernel_rfl) (by kernel_rfl) (by kernel_rfl) (fun _ _ _ h => h) (Or.inl ⟨by kernel_rfl, ?_⟩) (by assumption) ?_
      rotate_left
      · (intro wS hSw; (try dsimp only at hSw); (go_simp); (all_goals (with_reducible rfl)))
      try go_frame
      refine tk_11 (v := ?_) (by kernel_rfl) (by kernel_rfl) (by kernel_rfl) (by kernel_rfl) (fun _ _ _ h => h) (Or.inl ⟨by kernel_rfl, ?_⟩) (by assumption) ?_
      rotate_left
      · (intro wS hSw; (try dsimp only at hSw); (go_simp); (all_goals (with_reducible rfl)))
      try go_frame
      refine tk_12 (v := ?_) (by kernel_rfl) (by kernel_rfl) (by kernel_rfl) (by kernel_rfl) (fun _ _ _ h => h) (Or.inl ⟨by kernel_rfl, ?_⟩) (by assumption) ?_
      rotate_left
      · (intro wS hSw; (try dsimp only at hSw); (go_simp); (all_goals (with_reducible rfl)))
      try go_frame
      refine dn_13 (by kernel_rfl) (fun K hK => ?_)
      rw [if_pos (by kernel_rfl)]
      go_simp
      refine hK.out _ _ (fun _ => by (try dsimp only); exact (hB.alloc hsz _).drew) (fun hHeld => ?_)
      replace hHeld := hHeld rfl
      clear hK K
      try go_frame
      refine dn_14 (by kernel_rfl) (fun K hK => ?_)
      rw [if_pos (by kernel_rfl)]
      refine wp_append_any _ _ _ _ rfl elBytes w.heap.size _ _ _ rfl ((own_below hown (below_of_drewN wr.heap.size wr 1)).alloc _) _ 2 [bv d1, bv d2] rfl (Sl.built _ #[bv d1, bv d2] 5 2 1 rfl (by decide)) (by simp [bv_one]) (by omega) (by omega) (by simp; omega) ?_; intro v' w' hown' hgr hob
      refine hK.out _ _ (fun _ => by (try dsimp only); exact ((hB.alloc hsz _).drew).grown hgr (by simp; omega) (fun k hk => by have := (hown.lt k hk).1; omega)) (fun hHeld => ?_)
      replace hHeld := hHeld rfl
      clear hK K
      try go_frame
      refine tk_15 (v := ?_) (by kernel_rfl) (by kernel_rfl) (by kernel_rfl) (by kernel_rfl) (fun _ _ _ h => h) (Or.inl ⟨by kernel_rfl, ?_⟩) (by assumption) ?_
      rotate_left
      · (intro wS hSw; (try dsimp only at hSw); (go_simp); (all_goals (with_reducible rfl)))
      try go_frame
      refine wpAnyT_done (by kernel_rfl) ?_ _
      refine NoPanic.normal ?_
      have hown2 : w'.ownsRow w.heap.size 5 1 v' (2 * (k + 1)) ((hexL (s.data.toList.take (k + 1))).map bv) := by rw [HS.out, List.map_append]; exact hown'
      clear e1 e2 e3 hd1 hd2 hown' hown hgr hob
      go_wp2_with fail
      go_roundw
      case rel => exact ⟨k + 1, hlt, by go_num, hown2, hHeld⟩
      case measure => go_light; simp [intOf]; omega
    · obtain rfl : k = s.size := by omega
      have e : s.data.toList.take s.size = s.data.toList := List.take_of_length_le (by rw [Array.length_toList]; exact Nat.le_refl _)
      rw [e] at hown
      have hlen : 2 * s.size = (hexL s.data.toList).length := by rw [hexL_length, Array.length_toList]; rfl
      rw [hlen] at hown
      have hsl := Sl.of_own hown
      clear hlen e hown
      go_wp2_with (refine wpList_bytes_string (o := ⟨some 28, _, _, _, _, _⟩) rfl _ _ _ _ rfl Tryd.underlying22 Tryd.underlying5 Tryd.underlying9 rfl _ hsl ?_)
      go_ret
      exact ⟨rfl, hB⟩
theorem map_arr (n : Nat) (f : Nat → UInt8) : arr n (fun i => bv (f i)) = (((List.range n).map f).map Extern.Stop.cell).toArray := by
  unfold arr
  rw [List.map_map]; rfl
theorem run_eql_arr {P : Program} (w : World) (t e : TypeId) (n : Nat) (ht : P.underlying t = some (.array n e)) (he : P.underlying e = some (.int .u8)) (hsz : ∀ w, (sizeOf e).run P w = .ok 1 w) (f g : Nat → UInt8) :
    (binOp .eql t (.agg (arr n fun i => bv (f i))) (.agg (arr n fun i => bv (g i)))).run P w = .ok (.bool ((List.range n).map f == (List.range n).map g)) w := by
  have h := run_equalIn_bytes (P := P) w 9998 t e n ht he hsz ((List.range n).map f) ((List.range n).map g) (by simp) (by simp)
  rw [run_eql_struct, map_arr, map_arr]
  show ((Op.equalIn (9998 + 2) t _ _).run P w).andThen _ = _
  rw [h]
  rfl
theorem Sl.marked (w : World) (cs : Array Value) (e : TypeId) (fr : Nat × Nat) (n : Nat) (hl : cs.size = n) (hn : n ≤ maxLen) : Sl (w.alloc (.cells cs e fr)) (.slice (some ⟨w.heap.size, 0, none⟩) n n) 1 n cs.toList :=
  ⟨_, _, rfl, Nat.le_refl _, hn, by simpa using hl, fun _ => ⟨_, rfl, by simp, fun j u hu => by
    rw [Addr.add_lit, World.cell?_alloc_mark]
    simpa using hu⟩⟩
/-- x == y, arrays of bytes. -/
theorem wpList_eql_arr {P : Program} {ops : Array Oper} {rest : List Oper} {o : Oper} {a : Act} {w : World} {Q : Exit → Act → World → Prop} (hgd : Region.wanted o (yielded ops a.tmps) = true) (t tt : TypeId) (x y : Operand) (ho : o.op = .binOp .eql t x y tt)
    {n : Nat} (f g : Nat → UInt8) (hx : a.eval x = .agg (arr n fun i => bv (f i))) (hy : a.eval y = .agg (arr n fun i => bv (g i))) {e : TypeId} (ht : P.underlying t = some (.array n e)) (he : P.underlying e = some (.int .u8)) (hsz : ∀ w, (sizeOf e).run P w = .ok 1 w) (hm : P.eqGuardType P.depth t = false)
    (b : Bool) (hb : ((List.range n).map f == (List.range n).map g) = b) (h : wpList P ops Q rest (a.put o.dst (.bool b)) w) : wpList P ops Q (o :: rest) a w := by
  subst hb
  refine wpList_step fun K hK => ?_
  rw [if_pos hgd]
  have hr := run_eql_arr w t e n ht he hsz f g
  unfold Oper.wp execOp
  simp only [ho, hx, hy, Sem.run_bind, Sem.run_pure, run_eqGuard_agg _ _ _ _ _ _ _ hm, Result.andThen_ok, hr]
  exact hK _ _ h
/-- A whole array read, by an operation with a guard that holds. -/
theorem wpList_load_arr_g {P : Program} {ops : Array Oper} {rest : List Oper} {o : Oper} {a : Act} {w : World} {Q : Exit → Act → World → Prop} (hgd : Region.wanted o (yielded ops a.tmps) = true) (ty : TypeId) (x : Operand) (ho : o.op = .load ty x)
    {b : Nat} {t : TypeId} {n : Nat} {f : Nat → Value} (hr : w.rowIs b t n f) (hx : a.eval x = .pointer (some ⟨b, 0, none⟩)) (ag : Agg P ty n)
    (h : wpList P ops Q rest (a.put o.dst (.agg (arr n f))) w) : wpList P ops Q (o :: rest) a w := by
  refine wpList_step fun K hK => ?_
  rw [if_pos hgd]
  obtain ⟨⟨d, hu, hd⟩, hi⟩ := ag
  have hl := run_loadVar_row (P := P) w b t ty (arr n f) (0, 0) d (row_block hr) hu (by cases d <;> simp_all) (by rw [hi, arr_size])
  unfold Oper.wp execOp
  simp only [ho, hx, Instr.loadAt, Instr.sureAddr, Sem.run_bind, Sem.run_pure, Result.andThen_ok, hl]
  exact hK _ _ h

theorem hex_abc : (⟨(hexL (⟨((List.range 32).map fun i => (Sha.sha [97, 98, 99]).getD i 0).toArray⟩ : ByteArray).data.toList).toArray⟩ : ByteArray) = ⟨#[98, 97, 55, 56, 49, 54, 98, 102, 56, 102, 48, 49, 99, 102, 101, 97, 52, 49, 52, 49, 52, 48, 100, 101, 53, 100, 97, 101, 50, 50, 50, 51, 98, 48, 48, 51, 54, 49, 97, 51, 57, 54, 49, 55, 55, 97, 57, 99, 98, 52, 49, 48, 102, 102, 54, 49, 102, 50, 48, 48, 49, 53, 97, 100]⟩ := by
  rw [Sha.sha_abc]; rfl
theorem hex_1 : (⟨(hexL (⟨((List.range 16).map fun i => (Sha.sha [1]).getD i 0).toArray⟩ : ByteArray).data.toList).toArray⟩ : ByteArray) = ⟨#[52, 98, 102, 53, 49, 50, 50, 102, 51, 52, 52, 53, 53, 52, 99, 53, 51, 98, 100, 101, 50, 101, 98, 98, 56, 99, 100, 50, 98, 55, 101, 51]⟩ := by
  rw [Sha.sha_1]; rfl
theorem crc_254 : crcVal [254] = .int .i64 75628790 := by
  have h : (Crc.crc [254]).toNat = 75628790 := by decide +kernel
  unfold crcVal; rw [h]; rfl
theorem crc_255 : ((Crc.run (Crc.run Crc.ones (Crc.bitsOf [255])) (Crc.bitsOf [255]) ^^^ Crc.ones).toNat : Int) = 65535 := by
  have h : (Crc.run (Crc.run Crc.ones (Crc.bitsOf [255])) (Crc.bitsOf [255]) ^^^ Crc.ones).toNat = 65535 := by decide +kernel
  rw [h]; rfl
theorem crc_word : crcVal (Crc.words [1099511627774]) = .int .i64 1099435999222 := by
  have h : (Crc.crc (Crc.words [1099511627774])).toNat = 1099435999222 := by decide +kernel
  unfold crcVal; rw [h]; rfl
theorem join_1 : joinVal 255 255 1 = .int .i64 65535 := by
  have h : (Crc.join (BitVec.ofInt 40 255) (BitVec.ofInt 40 255) 1).toNat = 65535 := by decide +kernel
  unfold joinVal; rw [h]; rfl
theorem join_2 : joinVal 255 0 1 = .int .i64 65280 := by
  have h : (Crc.join (BitVec.ofInt 40 255) (BitVec.ofInt 40 0) 1).toNat = 65280 := by decide +kernel
  unfold joinVal; rw [h]; rfl
theorem join_3 : joinVal 7 9 0 = .int .i64 14 := by
  have h : (Crc.join (BitVec.ofInt 40 7) (BitVec.ofInt 40 9) 0).toNat = 14 := by decide +kernel
  unfold joinVal; rw [h]; rfl

set_option maxHeartbeats 2000000 in
set_option maxRecDepth 100000 in
theorem law_sanity (w : World) (hN : Nibs w) (hC : Consts w) :
    Calls Tryd.prog 15 #[] w fun e w' => e = .returned (.bool true) ∧ Below w.heap.size w w' := by
  obtain ⟨F1, hF1⟩ : ∃ F : Nat → UInt8, F = fun i => (Sha.sha [97, 98, 99]).getD i 0 := ⟨_, rfl⟩
  obtain ⟨F2, hF2⟩ : ∃ F : Nat → UInt8, F = fun i => (Sha.sha [1]).getD i 0 := ⟨_, rfl⟩
  have hx1 := hex_abc
  have hx2 := hex_1
  have hv1 : shaVal [97, 98, 99] = .agg (arr 32 fun i => bv (F1 i)) := by rw [hF1]; rfl
  have hv1' : Value.agg (arr 32 (fun i => bv ((Sha.sha [97, 98, 99]).getD i 0))) = .agg (arr 32 fun i => bv (F1 i)) := by rw [hF1]
  have hv2 : digVal (ofInput 1 []) = .agg (arr 16 fun i => bv (F2 i)) := by rw [hF2]; rfl
  rw [← hF1] at hx1
  rw [← hF2] at hx2
  have HX1 := Lib.hid hx1
  have HX2 := Lib.hid hx2
  have HV1 := Lib.hid hv1
  have HV1' := Lib.hid hv1'
  have HV2 := Lib.hid hv2
  clear hF1 hF2 hx1 hx2 hv1 hv1' hv2
  have kc := Lib.run_convert_bytes_const (P := Tryd.prog) w 22 5 #[.int .u8 97, .int .u8 98, .int .u8 99] 3 3 Tryd.underlying22 Tryd.underlying5
  go_enter Tryd.func15, Tryd.ntmps15
  go_wp2_with fail
  have hsl := Sl.marked w #[bv 97, bv 98, bv 99] 5 (3, 4) 3 rfl (by decide)
  have hB0 := (Below.refl w.heap.size w).alloc (Nat.le_refl _) (.cells #[bv 97, bv 98, bv 99] 5 (3, 4))
  clear kc
  refine (hash_Sum [97, 98, 99] _ _ (by exact hsl) (by decide) (hC.below hB0)).mono ?_
  rw [HV1.out]
  rintro e w1 ⟨rfl, hb1⟩
  have hB1 := bl_on hB0 hb1
  clear hsl hb1 hB0
  go_wp2_with (with_reducible refine wpList_store_fresh (o := ⟨none, _, _, _, _, _⟩) rfl _ _ _ rfl _ (arr 32 fun i => bv (F1 i)) rfl rfl aggSum rfl (arr_size _ _) (arr_ones (fun _ _ => rfl)) ?_)
  have hr1 := row_alloc w1 47 32 (fun i => bv (F1 i))
  have hB2 := hB1.alloc hB1.size (.cells (arr 32 fun i => bv (F1 i)) 47)
  generalize w1.alloc (.cells (arr 32 fun i => bv (F1 i)) 47) = w2 at *
  generalize w1.heap.size = g1 at *
  clear hB1
  refine (hash_Begin _).mono ?_
  rintro e w3 ⟨v3, rfl, hv3, hb3⟩
  replace hr1 := rowIs_below' hr1 hb3
  have hB3 := bl_on hB2 hb3
  clear hB2 hb3
  go_wp2_with fail
  refine (hash_StreamAdd v3 [] ⟨#[97]⟩ _ hv3 (by decide) (hC.below hB3)).mono ?_
  rintro e w4 ⟨v4, rfl, hv4, hb4⟩
  replace hr1 := rowIs_below' hr1 hb4
  have hB4 := bl_on hB3 hb4
  clear hB3 hb4
  go_wp2_with fail
  refine (hash_StreamAdd v4 [97] ⟨#[98, 99]⟩ _ hv4 (by decide) (hC.below hB4)).mono ?_
  rintro e w5 ⟨v5, rfl, hv5, hb5⟩
  replace hr1 := rowIs_below' hr1 hb5
  have hB5 := bl_on hB4 hb5
  clear hB4 hb5
  go_wp2_with fail
  refine (hash_StreamSum v5 [97, 98, 99] _ hv5 (by decide) (hC.below hB5)).mono ?_
  rw [HV1'.out]
  rintro e w6 ⟨rfl, hb6⟩
  replace hr1 := rowIs_below' hr1 hb6
  have hB6 := bl_on hB5 hb6
  clear hB5 hb6 hv3 hv4 hv5
  go_wp2_with (with_reducible refine wpList_store_fresh (o := ⟨none, _, _, _, _, _⟩) rfl _ _ _ rfl _ (arr 32 fun i => bv (F1 i)) rfl rfl aggSum rfl (arr_size _ _) (arr_ones (fun _ _ => rfl)) ?_)
  have hr2 := row_alloc w6 47 32 (fun i => bv (F1 i))
  replace hr1 := hr1.alloc (.cells (arr 32 fun i => bv (F1 i)) 47)
  have hB7 := hB6.alloc hB6.size (.cells (arr 32 fun i => bv (F1 i)) 47)
  generalize w6.alloc (.cells (arr 32 fun i => bv (F1 i)) 47) = w7 at *
  generalize w6.heap.size = g2 at *
  clear hB6
  refine (hash_Of 1 [] _ _ (by decide) (by decide) (Sl.nil_ _ 1) (by simp) (by simp) (hC.below hB7)).mono ?_
  rw [HV2.out]
  rintro e w8 ⟨rfl, hb8⟩
  replace hr1 := rowIs_below' hr1 hb8
  replace hr2 := rowIs_below' hr2 hb8
  have hB8 := bl_on hB7 hb8
  clear hB7 hb8
  go_wp2_with (with_reducible refine wpList_store_fresh (o := ⟨none, _, _, _, _, _⟩) rfl _ _ _ rfl _ (arr 16 fun i => bv (F2 i)) rfl rfl aggDig rfl (arr_size _ _) (arr_ones (fun _ _ => rfl)) ?_)
  have hr3 := row_alloc w8 58 16 (fun i => bv (F2 i))
  replace hr1 := hr1.alloc (.cells (arr 16 fun i => bv (F2 i)) 58)
  replace hr2 := hr2.alloc (.cells (arr 16 fun i => bv (F2 i)) 58)
  have hB9 := hB8.alloc hB8.size (.cells (arr 16 fun i => bv (F2 i)) 58)
  have hz9 : (w8.alloc (.cells (arr 16 fun i => bv (F2 i)) 58)).heap.size = w8.heap.size + 1 := by simp
  generalize w8.alloc (.cells (arr 16 fun i => bv (F2 i)) 58) = w9 at *
  generalize w8.heap.size = g3 at *
  clear hB8
  have hsl := Sl.built w9 #[bv 254] 5 1 1 rfl (by decide)
  rw [hz9] at hsl
  have hB10 := hB9.alloc hB9.size (.cells #[bv 254] 5)
  replace hr1 := hr1.alloc (.cells #[bv 254] 5)
  replace hr2 := hr2.alloc (.cells #[bv 254] 5)
  replace hr3 := hr3.alloc (.cells #[bv 254] 5)
  refine (hash_Crc40 [254] _ _ (by exact hsl) (hN.below hB10) (by decide)).mono ?_
  rw [crc_254]
  rintro e w11 ⟨rfl, hb11⟩
  replace hr1 := rowIs_below' hr1 hb11
  replace hr2 := rowIs_below' hr2 hb11
  replace hr3 := rowIs_below' hr3 hb11
  have hB11 := bl_on hB10 hb11
  clear hB10 hb11 hB9 hz9 hsl
  go_wp2_with fail
  refine (hash_BeginCrc _).mono ?_
  rintro e w12 ⟨rfl, hb12⟩
  replace hr1 := rowIs_below' hr1 hb12
  replace hr2 := rowIs_below' hr2 hb12
  replace hr3 := rowIs_below' hr3 hb12
  have hB12 := bl_on hB11 hb12
  clear hB11 hb12
  go_wp2_with fail
  refine (hash_Add Crc.ones ⟨#[255]⟩ (by decide) 1099511627775 (by decide) _ (hN.below hB12)).mono ?_
  rintro e w13 ⟨rfl, hb13⟩
  replace hr1 := rowIs_below' hr1 hb13
  replace hr2 := rowIs_below' hr2 hb13
  replace hr3 := rowIs_below' hr3 hb13
  have hB13 := bl_on hB12 hb13
  clear hB12 hb13
  go_wp2_with fail
  refine (hash_Add (Crc.run Crc.ones (Crc.bitsOf [255])) ⟨#[255]⟩ (by decide) _ rfl _ (hN.below hB13)).mono ?_
  rintro e w14 ⟨rfl, hb14⟩
  replace hr1 := rowIs_below' hr1 hb14
  replace hr2 := rowIs_below' hr2 hb14
  replace hr3 := rowIs_below' hr3 hb14
  have hB14 := bl_on hB13 hb14
  clear hB13 hb14
  go_wp2_with fail
  refine (hash_Value (Crc.run (Crc.run Crc.ones (Crc.bitsOf [255])) (Crc.bitsOf [255])) _).mono ?_
  rw [crc_255]
  rintro e w15 ⟨rfl, hb15⟩
  replace hr1 := rowIs_below' hr1 hb15
  replace hr2 := rowIs_below' hr2 hb15
  replace hr3 := rowIs_below' hr3 hb15
  have hB15 := bl_on hB14 hb15
  clear hB14 hb15
  go_wp2_with fail
  have hsl := Sl.built w15 #[iv 1099511627774] 3 1 1 rfl (by decide)
  have hB16 := hB15.alloc hB15.size (.cells #[iv 1099511627774] 3)
  replace hr1 := hr1.alloc (.cells #[iv 1099511627774] 3)
  replace hr2 := hr2.alloc (.cells #[iv 1099511627774] 3)
  replace hr3 := hr3.alloc (.cells #[iv 1099511627774] 3)
  refine (hash_Words [1099511627774] _ _ (by exact hsl) (fun n hn => by simp at hn; subst hn; exact ⟨by decide, by decide⟩) (hN.below hB16)).mono ?_
  rw [crc_word]
  rintro e w17 ⟨rfl, hb17⟩
  replace hr1 := rowIs_below' hr1 hb17
  replace hr2 := rowIs_below' hr2 hb17
  replace hr3 := rowIs_below' hr3 hb17
  have hB17 := bl_on hB16 hb17
  clear hB16 hb17 hB15 hsl
  have hN17 := hN.below hB17
  go_wp2_with fail
  refine (hash_Join 255 255 1 1 rfl (by decide) _ hN17).mono ?_
  rw [join_1]
  rintro e w' ⟨rfl, rfl⟩
  go_wp2_with fail
  refine (hash_Join 255 0 1 1 rfl (by decide) _ hN17).mono ?_
  rw [join_2]
  rintro e w' ⟨rfl, rfl⟩
  go_wp2_with fail
  refine (hash_Join 7 9 0 0 rfl (by decide) _ hN17).mono ?_
  rw [join_3]
  rintro e w' ⟨rfl, rfl⟩
  go_wp2_with fail
  refine (hash_Join_neg 1 1 (-1) (by decide) (by decide) _).mono ?_
  rintro e w' ⟨rfl, rfl⟩
  go_wp2_with (refine wpList_load_arr (o := ⟨some 38, _, _, _, _, _⟩) rfl _ _ rfl hr1 rfl aggSum ?_)
  refine (ref_Bytes32 F1 _ rfl _).mono ?_
  rintro e w18 ⟨rfl, hb18⟩
  replace hr1 := rowIs_below' hr1 hb18
  replace hr2 := rowIs_below' hr2 hb18
  replace hr3 := rowIs_below' hr3 hb18
  have hB18 := bl_on hB17 hb18
  clear hB17 hb18
  go_wp2_with fail
  refine (law_hex ⟨((List.range 32).map F1).toArray⟩ (by rw [ba_size]; simp) _).mono ?_
  rw [HX1.out]
  rintro e w19 ⟨rfl, hb19⟩
  replace hr1 := rowIs_below' hr1 hb19
  replace hr2 := rowIs_below' hr2 hb19
  replace hr3 := rowIs_below' hr3 hb19
  have hB19 := bl_on hB18 hb19
  clear hB18 hb19
  go_wp2_with (first | (refine wpList_load_arr_g (o := ⟨some 43, _, _, _, _, _⟩) rfl _ _ rfl hr1 rfl aggSum ?_) | (refine wpList_load_arr_g (o := ⟨some 44, _, _, _, _, _⟩) rfl _ _ rfl hr2 rfl aggSum ?_) |
    (refine wpList_load_arr_g (o := ⟨some 48, _, _, _, _, _⟩) rfl _ _ rfl hr3 rfl aggDig ?_) | (refine wpList_eql_arr (o := ⟨some 45, _, _, _, _, _⟩) rfl _ _ _ _ rfl F1 F1 rfl rfl Tryd.underlying47 Tryd.underlying5 (run_sizeOf_el elBytes) (by kernel_rfl) true (by simp) ?_))
  refine (ref_Text F2 _ rfl _).mono ?_
  rintro e w20 ⟨rfl, hb20⟩
  have hB20 := bl_on hB19 hb20
  clear hB19 hb20
  go_wp2_with fail
  refine (law_hex ⟨((List.range 16).map F2).toArray⟩ (by rw [ba_size]; simp) _).mono ?_
  rw [HX2.out]
  rintro e w21 ⟨rfl, hb21⟩
  have hB21 := bl_on hB20 hb21
  clear hB20 hb21
  go_wp2_with fail
  go_ret
  exact ⟨rfl, hB21⟩
end Go.Proofs.YtafehbnnoncieaaDoor
