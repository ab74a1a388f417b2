/-
  The examples that every law plays first. Conditions: none.
-/
import Derived.Test.YtjdoellkoofnmaaWireL
namespace Go.Proofs.Ytjdoellkoofnmaa
open Go.RowKit
theorem bl_next {w W W' : World} (h : Below w.heap.size w W) (h' : Below W.heap.size W W') : Below w.heap.size w W' := h.trans (h'.mono h.size)
theorem bl_alloc {w W : World} (h : Below w.heap.size w W) (o : Obj) : Below w.heap.size w (W.alloc o) := h.alloc h.size o
theorem Sl.lit {W : World} {cs : Array Value} {e : TypeId} {n size : Nat} {xs : List Value} (hx : cs.toList = xs) (hl : xs.length = n * size) (hn : n ≤ 1000) : Sl (W.alloc (.cells cs e)) (.slice (some ⟨W.heap.size, 0, none⟩) n n) size n xs := by
  subst hx
  exact Sl.built W cs e n size (by simpa using hl) (by unfold maxLen; omega)
theorem Sl.litg {W : World} {cs : Array Value} {e : TypeId} {n size g : Nat} {xs : List Value} (hg : g = W.heap.size) (hx : cs.toList = xs) (hl : xs.length = n * size) (hn : n ≤ 1000) : Sl (W.alloc (.cells cs e)) (.slice (some ⟨g, 0, none⟩) n n) size n xs := by
  subst hg
  exact Sl.lit hx hl hn
theorem getInt_1 : getInt [128, 1, 9] = (64, 2, 0) := by decide
theorem getInt_2 : getInt [128] = (0, 0, 10) := by decide
theorem getInt_3 : getInt [128, 0] = (0, 0, 11) := by decide
theorem getBytes_1 : getBytes [4, 97, 98, 7] = ([97, 98], 3, 0) := by decide
theorem getInts_1 : getList getInt 1 [4, 2, 1] = ([1, -1], 3, 0) := by decide
theorem getStrings_1 : getList getBytes 1 [4, 0, 2, 97, 5] = ([[], [97]], 4, 0) := by decide
theorem encInt_65 : encInt (-65) = [129, 1] := by
  unfold encInt; rw [show zig (-65) = 129 from by decide, enc_big (by omega), enc_small (by omega)]; rfl
theorem encInt_2 : encInt 2 = [4] := by unfold encInt; rw [show zig 2 = 4 from by decide, enc_small (by omega)]; rfl
theorem encInt_1 : encInt 1 = [2] := by unfold encInt; rw [show zig 1 = 2 from by decide, enc_small (by omega)]; rfl
theorem encInt_0 : encInt 0 = [0] := by unfold encInt; rw [show zig 0 = 0 from by decide, enc_small (by omega)]; rfl
theorem encInt_m1 : encInt (-1) = [1] := by unfold encInt; rw [show zig (-1) = 1 from by decide, enc_small (by omega)]; rfl
def ab : ByteArray := ⟨#[97, 98]⟩
theorem encBytes_ab : encBytes ⟨#[97, 98]⟩ = [4, 97, 98] := by
  unfold encBytes; rw [show ((ByteArray.size ⟨#[97, 98]⟩ : Nat) : Int) = 2 from rfl, encInt_2]; rfl
theorem encInts_1 : encInts [1, -1] = [4, 2, 1] := by
  unfold encInts; simp only [List.length_cons, List.length_nil, List.flatMap_cons, List.flatMap_nil, encInt_1, encInt_m1]
  rw [show (((0 + 1 + 1 : Nat)) : Int) = 2 from rfl, encInt_2]; rfl
theorem encStrings_1 : encStrings [⟨#[]⟩, ⟨#[97]⟩] = [4, 0, 2, 97] := by
  unfold encStrings; simp only [List.length_cons, List.length_nil, List.flatMap_cons, List.flatMap_nil, encBytes]
  rw [show (((0 + 1 + 1 : Nat)) : Int) = 2 from rfl, encInt_2, show ((ByteArray.size ⟨#[]⟩ : Nat) : Int) = 0 from rfl, show ((ByteArray.size ⟨#[97]⟩ : Nat) : Int) = 1 from rfl, encInt_0, encInt_1]; rfl
def dig12 : List UInt8 := [1, 2, 0, 0, 0, 0, 0, 0, 0, 0, 0, 0, 0, 0, 0, 0]
theorem encDigests_1 : encDigests [dig12] = 2 :: dig12 := by
  unfold encDigests; rw [show (([dig12].length : Nat) : Int) = 1 from rfl, encInt_1]; rfl
theorem getDigests_1 : getList oneD 16 (2 :: dig12) = ([dig12], 17, 0) := by decide

/-- As 'wpList_load_cells', of an operation with a guard that holds. -/
theorem wpList_load_guarded {P : Program} {ops : Array Oper} {rest : List Oper} {o : Oper} {a : Act} {w : World} {Q : Exit → Act → World → Prop} (hgd : Region.wanted o (yielded ops a.tmps) = true) (ty : TypeId) (x : Operand) (ho : o.op = .load ty x)
    (ad : Addr) (hx : a.eval x = .pointer (some ad)) (cs : List Value) {n : Nat} (ag : Agg P ty n) (hl : cs.length = n) (hc : ∀ j u, cs[j]? = some u → w.cell? (ad.add j) = some u)
    (h : wpList P ops Q rest (a.put o.dst (.agg cs.toArray)) w) : wpList P ops Q (o :: rest) a w := by
  refine wpList_step fun K hK => ?_
  rw [if_pos hgd]
  unfold Oper.wp execOp
  simp only [ho, hx, Sem.run_bind, Sem.run_pure, Result.andThen_ok, run_loadAt_cells w ty ad cs ag hl hc]
  exact hK _ _ h
theorem wpList_built_guarded {P : Program} {ops : Array Oper} {rest : List Oper} {o : Oper} {a : Act} {w : World} {Q : Exit → Act → World → Prop} (hgd : Region.wanted o (yielded ops a.tmps) = true) (t : TypeId) (x : Operand) (ho : o.op = .buildSlice t 1 #[(0, x)])
    {e : TypeId} {z : Value} {size bytes : Nat} (el : El P t e z size bytes) (hsm : size ≤ 10000) (cs : Array Value) (hx : a.eval x = .agg cs) (hl : cs.size = size)
    (h : wpList P ops Q rest (a.put o.dst (.slice (some ⟨w.heap.size, 0, none⟩) 1 1)) (w.alloc (.cells cs e))) : wpList P ops Q (o :: rest) a w := by
  obtain ⟨i, hi, hz, hs, _⟩ := el.info
  have hpos := el.hsz
  refine wpList_step fun K hK => ?_
  rw [if_pos hgd]
  refine wp_buildSlice t e 1 #[(0, x)] ho cs i z el.ht hi hz (by rw [hs]; omega) (by rw [hs]; omega) ?_ (hK _ _ h)
  simp only [List.map_toArray, List.map_cons, List.map_nil, hx, hs]
  exact fill_one size _ cs hl (by simp)
/-- The world behind a call that only reads, under a new name. -/
theorem opq {P : Program} {f : FuncId} {args : Array Value} {W : World} {x : Ending} (h : Calls P f args W fun e w' => e = x ∧ W = w') : Calls P f args W fun e w' => e = x ∧ Below W.heap.size W w' :=
  h.mono fun _ _ ⟨h1, h2⟩ => ⟨h1, h2 ▸ Below.refl _ _⟩

theorem got_eq {α : Type} {P : Program} {f : FuncId} {args : Array Value} {w W : World} {t : TypeId} {size : Nat} {cells : List α → List Value} {x r : List α × Int × Int} (e : x = r) (h : Calls P f args w (Got t size cells x W)) : Calls P f args w (Got t size cells r W) := e ▸ h
theorem made_eq {P : Program} {f : FuncId} {args : Array Value} {w W : World} {x r : List UInt8} (e : x = r) (h : Calls P f args w (Made x W)) : Calls P f args w (Made r W) := e ▸ h
set_option maxHeartbeats 1000000 in
set_option maxRecDepth 100000 in
theorem sanity_true (w : World) : Calls Try.prog 12 #[] w (Says true w) := by
  go_enter Try.func12, Try.ntmps12
  go_wp2_with fail
  refine (opq (wire_GetInt [128, 1, 9] _ _ (Sl.lit rfl rfl (by decide)))).mono ?_
  rintro e w1 ⟨rfl, hb1⟩
  replace hb1 := bl_next (bl_alloc (Below.refl _ _) _) hb1
  rw [getInt_1]; unfold trip
  go_wp2_with fail
  refine (opq (wire_GetInt [128] _ _ (Sl.lit rfl rfl (by decide)))).mono ?_
  rintro e w2 ⟨rfl, hb2⟩
  replace hb2 := bl_next (bl_alloc hb1 _) hb2; clear hb1
  rw [getInt_2]; unfold trip
  go_wp2_with fail
  refine (opq (wire_GetInt [128, 0] _ _ (Sl.lit rfl rfl (by decide)))).mono ?_
  rintro e w3 ⟨rfl, hb3⟩
  replace hb3 := bl_next (bl_alloc hb2 _) hb3; clear hb2
  rw [getInt_3]; unfold trip
  go_wp2_with fail
  refine (opq (wire_GetBytes [4, 97, 98, 7] _ _ (Sl.lit rfl rfl (by decide)))).mono ?_
  rintro e w4 ⟨rfl, hb4⟩
  replace hb4 := bl_next (bl_alloc hb3 _) hb4; clear hb3
  rw [getBytes_1]; unfold tripB str
  go_wp2_with fail
  refine (got_eq getInts_1 (wire_GetInts [4, 2, 1] _ _ (Sl.lit rfl rfl (by decide)) (by decide))).mono ?_
  rintro e w5 ⟨vI, rfl, hI, hb5⟩
  replace hb5 := bl_next (bl_alloc hb4 _) hb5; clear hb4
  replace hI := Sl.of_own hI
  go_wp2_with (first
    | (refine wpList_store_fresh (o := ⟨none, _, _, _, _, _⟩) rfl _ _ _ rfl _ (dig12.map bv).toArray rfl rfl aggDigest rfl rfl (bvs_one dig12) ?_)
    | (refine wpList_load_fresh (o := ⟨some 56, _, _, _, _, _⟩) rfl _ _ rfl (dig12.map bv).toArray _ rfl aggDigest rfl ?_)
    | (refine wpList_built_one (o := ⟨some 57, _, _, _, _, _⟩) rfl _ _ rfl elDigests (by omega) (dig12.map bv).toArray rfl rfl ?_))
  refine (made_eq encDigests_1 (wire_Digests [dig12] _ _ (Sl.litg (by simp) rfl rfl (by decide)) (by decide) (by rw [encDigests_1]; decide) (by decide))).mono ?_
  rintro e w6 ⟨vD, rfl, hD, hb6⟩
  have hP := (((Sl.lit (W := w5) (cs := (dig12.map bv).toArray) (e := 57) (n := 1) (size := 16) rfl rfl (by decide)).alloc _).below hb6)
  replace hI := ((hI.alloc _).alloc _).below hb6
  replace hb6 := bl_next (bl_alloc (bl_alloc hb5 _) _) hb6; clear hb5
  replace hD := Sl.of_own hD
  go_wp2_with fail
  refine (got_eq getDigests_1 (wire_GetDigests (2 :: dig12) _ _ hD (by decide))).mono ?_
  rintro e w7 ⟨vX, rfl, hX, hb7⟩
  replace hI := hI.below hb7; replace hP := hP.below hb7; clear hD
  replace hb7 := bl_next hb6 hb7; clear hb6
  replace hX := Sl.of_own hX
  go_wp2_with fail
  refine (got_eq getStrings_1 (wire_GetStrings [4, 0, 2, 97, 5] _ _ (Sl.lit rfl rfl (by decide)) (by decide))).mono ?_
  rintro e w8 ⟨vS, rfl, hS, hb8⟩
  replace hI := (hI.alloc _).below hb8; replace hP := (hP.alloc _).below hb8; replace hX := (hX.alloc _).below hb8
  replace hb8 := bl_next (bl_alloc hb7 _) hb8; clear hb7
  replace hS := Sl.of_own hS
  go_wp2_with fail
  refine (SameTexts_true [⟨#[]⟩, ⟨#[97]⟩] _ _ _ (hS.alloc _) (Sl.lit rfl rfl (by decide))).mono ?_
  rintro e w9 ⟨rfl, hb9⟩
  replace hI := (hI.alloc _).below hb9; replace hP := (hP.alloc _).below hb9; replace hX := (hX.alloc _).below hb9; clear hS
  replace hb9 := bl_next (bl_alloc hb8 _) hb9; clear hb8
  go_wp2_with fail
  refine (made_eq encStrings_1 (wire_Strings [⟨#[]⟩, ⟨#[97]⟩] _ _ (Sl.lit rfl rfl (by decide)) (by rw [encStrings_1]; decide) (by decide))).mono ?_
  rintro e w10 ⟨v10, rfl, h10, hb10⟩
  replace hI := (hI.alloc _).below hb10; replace hP := (hP.alloc _).below hb10; replace hX := (hX.alloc _).below hb10
  replace hb10 := bl_next (bl_alloc hb9 _) hb10; clear hb9
  replace h10 := Sl.of_own h10
  go_wp2_with fail
  refine (Same_any [4, 0, 2, 97] [4, 0, 2, 97] _ _ _ (h10.alloc _) (Sl.lit rfl rfl (by decide))).mono ?_
  rintro e w11 ⟨rfl, hb11⟩
  replace hI := (hI.alloc _).below hb11; replace hP := (hP.alloc _).below hb11; replace hX := (hX.alloc _).below hb11; clear h10
  replace hb11 := bl_next (bl_alloc hb10 _) hb11; clear hb10
  rw [show decide (([4, 0, 2, 97] : List UInt8) = [4, 0, 2, 97]) = true from rfl]
  go_wp2_with fail
  refine (made_eq encInt_65 (wire_Int (-65) _ (by decide) (by decide))).mono ?_
  rintro e w12 ⟨v12, rfl, h12, hb12⟩
  replace hI := hI.below hb12; replace hP := hP.below hb12; replace hX := hX.below hb12
  replace hb12 := bl_next hb11 hb12; clear hb11
  replace h12 := Sl.of_own h12
  go_wp2_with fail
  refine (Same_any [129, 1] [129, 1] _ _ _ (h12.alloc _) (Sl.lit rfl rfl (by decide))).mono ?_
  rintro e w13 ⟨rfl, hb13⟩
  replace hI := (hI.alloc _).below hb13; replace hP := (hP.alloc _).below hb13; replace hX := (hX.alloc _).below hb13; clear h12
  replace hb13 := bl_next (bl_alloc hb12 _) hb13; clear hb12
  rw [show decide (([129, 1] : List UInt8) = [129, 1]) = true from rfl]
  go_wp2_with fail
  refine (SameInts_true [1, -1] _ _ _ (hI.alloc _) (Sl.lit rfl rfl (by decide))).mono ?_
  rintro e w14 ⟨rfl, hb14⟩
  replace hP := (hP.alloc _).below hb14; replace hX := (hX.alloc _).below hb14; clear hI
  replace hb14 := bl_next (bl_alloc hb13 _) hb14; clear hb13
  go_wp2_with fail
  refine (made_eq encBytes_ab (wire_Bytes ⟨#[97, 98]⟩ _ (by decide))).mono ?_
  rintro e w15 ⟨v15, rfl, h15, hb15⟩
  replace hP := hP.below hb15; replace hX := hX.below hb15
  replace hb15 := bl_next hb14 hb15; clear hb14
  replace h15 := Sl.of_own h15
  go_wp2_with fail
  refine (Same_any [4, 97, 98] [4, 97, 98] _ _ _ (h15.alloc _) (Sl.lit rfl rfl (by decide))).mono ?_
  rintro e w16 ⟨rfl, hb16⟩
  replace hP := (hP.alloc _).below hb16; replace hX := (hX.alloc _).below hb16; clear h15
  replace hb16 := bl_next (bl_alloc hb15 _) hb16; clear hb15
  rw [show decide (([4, 97, 98] : List UInt8) = [4, 97, 98]) = true from rfl]
  go_wp2_with fail
  refine (made_eq encInts_1 (wire_Ints [1, -1] _ _ (Sl.lit rfl rfl (by decide)) (by unfold I64; decide) (by rw [encInts_1]; decide) (by decide))).mono ?_
  rintro e w17 ⟨v17, rfl, h17, hb17⟩
  replace hP := (hP.alloc _).below hb17; replace hX := (hX.alloc _).below hb17
  replace hb17 := bl_next (bl_alloc hb16 _) hb17; clear hb16
  replace h17 := Sl.of_own h17
  go_wp2_with fail
  refine (Same_any [4, 2, 1] [4, 2, 1] _ _ _ (h17.alloc _) (Sl.lit rfl rfl (by decide))).mono ?_
  rintro e w18 ⟨rfl, hb18⟩
  replace hP := (hP.alloc _).below hb18; replace hX := (hX.alloc _).below hb18; clear h17
  replace hb18 := bl_next (bl_alloc hb17 _) hb18; clear hb17
  rw [show decide (([4, 2, 1] : List UInt8) = [4, 2, 1]) = true from rfl]
  obtain ⟨ad, had, _, hc⟩ := hP.addr (by omega)
  have had' : (⟨w5.heap.size, 0, none⟩ : Addr) = ad := Option.some.inj had
  subst had'
  have HC := Lib.hid hc
  clear hc had hP
  go_wp2_with (first
    | (refine wpList_load_guarded (o := ⟨some 150, _, _, _, _, _⟩) rfl _ _ rfl _ rfl (dig12.map bv) aggDigest rfl HC.out ?_)
    | (refine wpList_built_guarded (o := ⟨some 151, _, _, _, _, _⟩) rfl _ _ rfl elDigests (by omega) (dig12.map bv).toArray rfl rfl ?_))
  refine (SameDigests_true [dig12] _ _ _ (hX.alloc _) (Sl.lit rfl rfl (by decide)) (by decide)).mono ?_
  rintro e w19 ⟨rfl, hb19⟩
  replace hb19 := bl_next (bl_alloc hb18 _) hb19
  go_wp2_with fail
  go_ret
  exact ⟨rfl, hb19⟩
end Go.Proofs.Ytjdoellkoofnmaa
