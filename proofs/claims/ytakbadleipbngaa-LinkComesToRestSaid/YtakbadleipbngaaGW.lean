/-
  layer 1: what the functions of the encoding compute, in plain terms. Conditions: none.
-/
import Derived.Test.YtakbadleipbngaaGC
import Derived.Test.YtakbadleipbngaaWP
set_option linter.all false
namespace Go.Proofs.Ytakbadleipbngaa
open Go.RowKit
/-- Bytes as numbers. -/
abbrev B8 (l : List UInt8) : List Int := l.map fun b => (b.toNat : Int)
theorem B8_get {l : List UInt8} {k : Nat} (h : k < l.length) : (B8 l)[((k : Int)).toNat]! = (l[k].toNat : Int) := by
  rw [Int.toNat_natCast, getElem!_pos (B8 l) k (by simpa using h), List.getElem_map]
theorem B8_app (a b : List UInt8) : B8 (a ++ b) = B8 a ++ B8 b := List.map_append
theorem B8_len (l : List UInt8) : (B8 l).length = l.length := List.length_map _
theorem B8_drop (l : List UInt8) (n : Nat) : subL (B8 l) (n : Int) (((B8 l).length : Nat) : Int) = B8 (l.drop n) := by
  rw [subL_from, Int.toNat_natCast]
  exact (List.map_drop ..).symm
theorem B8_sub (l : List UInt8) (a n : Nat) : subL (B8 l) (a : Int) ((a + n : Nat) : Int) = B8 ((l.drop a).take n) := by
  rw [subL_nat, show a + n - a = n by omega]
  show _ = ((l.drop a).take n).map _
  rw [List.map_take, List.map_drop]
theorem bStr_B8 (l : List UInt8) : bStr (B8 l) = ⟨l.toArray⟩ := by
  unfold bStr B8
  rw [List.map_map]
  congr 2
  conv => rhs; rw [← List.map_id l]
  exact List.map_congr_left fun b _ => by show UInt8.ofNat ((b.toNat : Int)).toNat = b; rw [Int.toNat_natCast, UInt8.ofNat_toNat]
theorem B8_of {b : List Int} (h : ∀ x ∈ b, 0 ≤ x ∧ x ≤ 255) : ∃ l, b = B8 l := by
  refine ⟨b.map fun x => UInt8.ofNat x.toNat, ?_⟩
  show b = List.map _ (List.map _ b)
  rw [List.map_map]
  conv => lhs; rw [← List.map_id b]
  refine List.map_congr_left fun x hx => ?_
  have := h x hx
  show x = ((UInt8.ofNat x.toNat).toNat : Int)
  rw [UInt8.toNat_ofNat', Nat.mod_eq_of_lt (by omega)]
  omega
theorem B8_inj {a b : List UInt8} (h : B8 a = B8 b) : a = b := by
  have := congrArg bStr h
  rw [bStr_B8, bStr_B8] at this
  injection this with this
  injection this
theorem u64w {z : Nat} (h : z < 18446744073709551616) : IntKind.u64.wrap (z : Int) = (z : Int) := by rw [IntKind.wrap_u64]; omega
theorem u8w (z : Nat) : IntKind.u8.wrap (z : Int) = ((z % 256 : Nat) : Int) := by
  show (z : Int) % 256 = _
  omega
/-! ### Encoding -/
theorem int_loop : ∀ (z : Nat) (out : List UInt8), z < 18446744073709551616 → out.length + (enc z).length ≤ 1000 → ∃ (z' : Nat) (out' : List UInt8), loopO g_wire_Int_l9 ((z : Int), B8 out) = some ((z' : Int), B8 out') ∧ out' ++ [UInt8.ofNat z'] = out ++ enc z ∧ z' < 128 := by
  intro z
  induction z using Nat.strongRecOn with
  | _ z ih =>
    intro out hz ho
    by_cases hs : z < 128
    · refine ⟨z, out, loopO_inr ?_, by rw [enc_small hs], hs⟩
      simp (disch := omega) only [g_wire_Int_l9, cnd_dec, if_neg]
    · rw [enc_big hs, List.length_cons] at ho
      obtain ⟨z', out', h1, h2, h3⟩ := ih (z / 128) (by omega) (out ++ [UInt8.ofNat (z % 128 + 128)]) (by omega) (by simp; omega)
      refine ⟨z', out', ?_, by rw [h2, enc_big hs]; simp, h3⟩
      rw [← h1]
      refine loopO_inl ?_
      have e1 : ior .u8 (IntKind.u8.wrap (z : Int)) 128 = ((z % 128 + 128 : Nat) : Int) := or128 z
      have e2 : ishr .u64 (z : Int) 7 = ((z / 128 : Nat) : Int) := by
        show (z : Int).fdiv 128 = _
        rw [Int.fdiv_eq_ediv_of_nonneg _ (by omega)]; omega
      have e3 : B8 (out ++ [UInt8.ofNat (z % 128 + 128)]) = B8 out ++ [((z % 128 + 128 : Nat) : Int)] := by
        rw [B8_app]; congr 1
        show [((UInt8.ofNat (z % 128 + 128)).toNat : Int)] = _
        rw [toNat_small (by omega)]
      simp only [g_wire_Int_l9]
      rw [cndT _ _ (by omega), e1, e2, e3, gd_pos (by simp [B8_len]; omega)]
theorem zig_bits (n : Int) (h : I64 n) : ixor .u64 (ishl .u64 (IntKind.u64.wrap n) 1) (IntKind.u64.wrap (ishr .i64 n 63)) = (zig n : Int) := by
  have e : ishr .i64 n 63 = n / 9223372036854775808 := Int.fdiv_eq_ediv_of_nonneg _ (by decide)
  rw [e]
  exact xor_zig n h.1 h.2
theorem G_Int {n : Int} (h : I64 n) : g_wire_Int n = some (B8 (encInt n)) := by
  have hz := zig_lt n h.1 h.2
  have hl := enc_length_10 _ hz
  obtain ⟨z', out', h1, h2, h3⟩ := int_loop (zig n) [] hz (by simp; omega)
  have h1' : loopO g_wire_Int_l9 ((zig n : Int), ([] : List Int)) = some ((z' : Int), B8 out') := h1
  unfold g_wire_Int
  rw [zig_bits n h, bnd_eq, h1', bnd_eq]
  have e : B8 out' ++ [IntKind.u8.wrap (z' : Int)] = B8 (encInt n) := by
    show _ = B8 (enc (zig n))
    rw [← List.nil_append (enc (zig n)), ← h2, B8_app, u8w]
    rw [Nat.mod_eq_of_lt (by omega)]
    show _ = _ ++ [((UInt8.ofNat z').toNat : Int)]
    rw [toNat_small (by omega)]
  dsimp only
  rw [e, gd_pos (by rw [B8_len]; unfold encInt; omega)]
theorem B8_bytes (s : ByteArray) : B8 (encInt (s.size : Int)) ++ strB s = B8 (encBytes s) := by
  unfold encBytes
  rw [B8_app]; rfl
theorem G_Bytes {s : ByteArray} (h : s.size ≤ 1000000000) : g_wire_Bytes s = some (B8 (encBytes s)) := by
  have hi : I64 (s.size : Int) := ⟨by omega, by omega⟩
  have := (encInt_len hi).2
  unfold g_wire_Bytes
  rw [G_Int hi, bnd_eq, B8_bytes, gd_pos (by rw [B8_len, encBytes_len]; omega)]
theorem take_flat {α β : Type} (f : α → List β) (l : List α) (k : Nat) (h : k < l.length) : (l.take (k + 1)).flatMap f = (l.take k).flatMap f ++ f l[k] := by
  rw [List.take_succ_eq_append_getElem h, List.flatMap_append]; simp
theorem flat_le {α : Type} (f : α → List UInt8) (l : List α) (k : Nat) : ((l.take k).flatMap f).length ≤ (l.flatMap f).length := by
  conv => rhs; rw [← List.take_append_drop k l, List.flatMap_append, List.length_append]
  omega
/-- A list, element by element. -/
theorem list_up {α : Type} [Inhabited α] {enc1 : α → List UInt8} {b : (List Int) × Int → Option (((List Int) × Int) ⊕ (List Int))} (l : List α) (out : List UInt8)
    (hr : ∀ (o : List UInt8) (i : Nat) (h : i < l.length), o.length + (enc1 l[i]).length ≤ out.length + (l.flatMap enc1).length → b (B8 o, (i : Int)) = some (.inl (B8 (o ++ enc1 l[i]), ((i + 1 : Nat) : Int))))
    (he : ∀ o : List UInt8, b (B8 o, (l.length : Int)) = some (.inr (B8 o))) : loopO b (B8 out, (0 : Int)) = some (B8 (out ++ l.flatMap enc1)) := by
  have := loopO_up (b := b) (fun i => (B8 (out ++ (l.take i).flatMap enc1), (i : Int))) 0 l.length (B8 (out ++ l.flatMap enc1)) (Nat.zero_le _) (fun i _ hi => by
    have h1 := flat_le enc1 l (i + 1)
    rw [take_flat _ _ _ hi, List.length_append] at h1
    rw [hr _ i hi (by simp only [List.length_append]; omega), take_flat _ _ _ hi, List.append_assoc]) (by
    rw [he, List.take_length])
  simpa using this
theorem G_Ints {l : List Int} (hi : ∀ n ∈ l, I64 n) (hs : (encInts l).length ≤ 1000000000) (hn : l.length ≤ 1000000000) : g_wire_Ints l = some (B8 (encInts l)) := by
  unfold encInts at hs
  rw [List.length_append] at hs
  unfold g_wire_Ints g_wire_list_int_wire_Int
  have := list_up (enc1 := encInt) (b := g_wire_list_int_wire_Int_l9 l) l (encInt l.length) (fun o i h ho => by
    simp only [g_wire_list_int_wire_Int_l9]
    rw [cndT _ _ (by omega), gd_pos (by omega), Int.toNat_natCast, getElem!_pos l i h, G_Int (hi _ (List.getElem_mem h)), bnd_eq, ← B8_app, gd_pos (by rw [B8_len, List.length_append]; omega), w_id (by omega)]
    rfl) (fun o => by
    simp only [g_wire_list_int_wire_Int_l9]
    rw [cndF _ _ (by omega)])
  rw [G_Int ⟨by omega, by omega⟩, bnd_eq, this]
  rfl
theorem G_Strings {l : List ByteArray} (hi : ∀ s ∈ l, s.size ≤ 1000000000) (hs : (encStrings l).length ≤ 1000000000) (hn : l.length ≤ 1000000000) : g_wire_Strings l = some (B8 (encStrings l)) := by
  unfold encStrings at hs
  rw [List.length_append] at hs
  unfold g_wire_Strings g_wire_list_string_wire_Bytes
  have := list_up (enc1 := encBytes) (b := g_wire_list_string_wire_Bytes_l9 l) l (encInt l.length) (fun o i h ho => by
    simp only [g_wire_list_string_wire_Bytes_l9]
    rw [cndT _ _ (by omega), gd_pos (by omega), Int.toNat_natCast, getElem!_pos l i h, G_Bytes (hi _ (List.getElem_mem h)), bnd_eq, ← B8_app, gd_pos (by rw [B8_len, List.length_append]; omega), w_id (by omega)]
    rfl) (fun o => by
    simp only [g_wire_list_string_wire_Bytes_l9]
    rw [cndF _ _ (by omega)])
  rw [G_Int ⟨by omega, by omega⟩, bnd_eq, this]
  rfl
/-! ### Decoding -/
theorem dec_loop (l : List UInt8) (hl : l.length ≤ 1000000000) : ∀ (m k z : Nat), m + k = l.length → k ≤ 9 → z < 128 ^ k →
    (∃ n u, dec (l.drop k) k z = (n, u, 0) ∧ loopO (g_wire_GetInt_l14 (B8 l)) ((z : Int), (k : Int)) = some (.inr ((n : Int), (u : Int)))) ∨
    (dec (l.drop k) k z = (0, 0, 11) ∧ loopO (g_wire_GetInt_l14 (B8 l)) ((z : Int), (k : Int)) = some (.inl (0, 0, 11))) ∨
    (dec (l.drop k) k z = (0, 0, 10) ∧ ∃ z', loopO (g_wire_GetInt_l14 (B8 l)) ((z : Int), (k : Int)) = some (.inr (z', 0))) := by
  intro m
  induction m with
  | zero =>
    intro k z hm hk hz
    refine .inr (.inr ⟨by rw [List.drop_of_length_le (by omega)]; rfl, (z : Int), loopO_inr ?_⟩)
    simp only [g_wire_GetInt_l14]
    rw [cndF _ _ (by rw [B8_len]; omega)]
  | succ m ih =>
    intro k z hm hk hz
    have hkl : k < l.length := by omega
    have hc := l[k].toNat_lt
    have hbad : (bnd (S := Bool) (bnd (S := Bool) (cnd (decide ((k : Int) = 9)) (some (decide ((1 : Int) < (l[k].toNat : Int)))) (some false)) fun a => cnd a (some a) (cnd (decide ((0 : Int) < (k : Int))) (some (decide ((l[k].toNat : Int) = 0))) (some false))) fun a => some a) = some (decide ((k = 9 ∧ 1 < l[k].toNat) ∨ (0 < k ∧ l[k].toNat = 0))) := by
      rw [cnd_and, cnd_and, bnd_eq, bnd_id]
      have : ∀ a b : Bool, cnd a (some a) (some b) = some (a || b) := by intro a b; cases a <;> rfl
      rw [this]
      congr 1
      rw [Bool.eq_iff_iff]
      simp only [Bool.or_eq_true, Bool.and_eq_true, decide_eq_true_eq]
      omega
    have hb2 : ∀ K : Bool → Option ((Int × Int) ⊕ ((Int × Int × Int) ⊕ (Int × Int))), bnd (S := Bool) (bnd (S := Bool) (cnd (decide ((k : Int) = 9)) (some (decide ((1 : Int) < (l[k].toNat : Int)))) (some false)) fun a => cnd a (some a) (cnd (decide ((0 : Int) < (k : Int))) (some (decide ((l[k].toNat : Int) = 0))) (some false))) K = K (decide ((k = 9 ∧ 1 < l[k].toNat) ∨ (0 < k ∧ l[k].toNat = 0))) := fun K => bnd_of ((bnd_id _).symm.trans hbad) K
    rw [List.drop_eq_getElem_cons hkl, dec]
    by_cases h1 : (k = 9 ∧ 1 < l[k].toNat) ∨ (0 < k ∧ l[k].toNat = 0)
    · refine .inr (.inl ⟨if_pos h1, loopO_inr ?_⟩)
      simp only [g_wire_GetInt_l14]
      rw [cndT _ _ (by rw [B8_len]; omega), gd_pos (by rw [B8_len]; omega), B8_get hkl, hb2, cndT _ _ h1]
    · have hacc : ior .u64 (z : Int) (ishl .u64 (IntKind.u64.wrap (iand .u8 (l[k].toNat : Int) 127)) ((7 * k : Nat) : Int)) = ((z + l[k].toNat % 128 * 128 ^ k : Nat) : Int) := by
        have e : ishl .u64 (IntKind.u64.wrap (iand .u8 (l[k].toNat : Int) 127)) ((7 * k : Nat) : Int) = IntKind.u64.wrap (IntKind.u64.wrap (bits BinOp.and IntKind.u8 (l[k].toNat : Int) 127) * 2 ^ (7 * k)) := by
          show IntKind.u64.wrap (_ * 2 ^ min ((7 * k : Nat) : Int).toNat 64) = _
          rw [Int.toNat_natCast, Nat.min_eq_left (by omega)]; rfl
        rw [e]
        by_cases h9 : k = 9
        · subst h9
          have : l[9].toNat ≤ 1 := by omega
          have h := acc_bits9 z l[9].toNat hz this
          rw [Nat.mod_eq_of_lt (by omega)]
          exact h
        · exact acc_bits z l[k].toNat k hz hc (by omega)
      have hstep : g_wire_GetInt_l14 (B8 l) ((z : Int), (k : Int)) = if l[k].toNat < 128 then some (.inr (.inr (((z + l[k].toNat % 128 * 128 ^ k : Nat) : Int), ((k + 1 : Nat) : Int)))) else some (.inl (((z + l[k].toNat % 128 * 128 ^ k : Nat) : Int), ((k + 1 : Nat) : Int))) := by
        simp only [g_wire_GetInt_l14]
        rw [cndT _ _ (by rw [B8_len]; omega), gd_pos (by rw [B8_len]; omega), B8_get hkl, hb2, cndF _ _ h1, w_id (show _ ≤ (7 : Int) * (k : Int) ∧ (7 : Int) * (k : Int) ≤ _ by omega), gd_pos (by omega), show (7 : Int) * (k : Int) = ((7 * k : Nat) : Int) by omega, hacc, bnd_eq, w_id (show _ ≤ (k : Int) + 1 ∧ (k : Int) + 1 ≤ _ by omega), cnd_dec]
        by_cases h2 : l[k].toNat < 128
        · rw [if_pos (by omega), if_pos h2]; rfl
        · rw [if_neg (by omega), if_neg h2]; rfl
      rw [if_neg h1]
      by_cases h2 : l[k].toNat < 128
      · rw [if_pos h2] at hstep ⊢
        rw [Nat.mod_eq_of_lt h2] at hstep
        exact .inl ⟨_, _, rfl, loopO_inr hstep⟩
      · rw [if_neg h2] at hstep ⊢
        rw [loopO_inl hstep]
        exact ih (k + 1) _ (by omega) (by omega) (acc_lt z _ k hz)
theorem G_GetInt (l : List UInt8) (hl : l.length ≤ 1000000000) : g_wire_GetInt (B8 l) = some (getInt l) := by
  unfold g_wire_GetInt getInt
  rcases dec_loop l hl l.length 0 0 rfl (by omega) (by simp) with ⟨n, u, h1, h2⟩ | ⟨h1, h2⟩ | ⟨h1, z', h2⟩
  all_goals
    rw [List.drop_zero] at h1
    rw [show ((0 : Int), (0 : Int)) = (((0 : Nat) : Int), ((0 : Nat) : Int)) from rfl, h2, bnd_eq, h1]
    dsimp only
  · have hn : 0 < u ∧ n < 18446744073709551616 := by
      rcases dec_cases l 0 0 (by simp) (by omega) with ⟨n', u', h, h3, h4, h5⟩ | h | h
      · rw [h1] at h
        simp only [Prod.mk.injEq] at h
        omega
      · rw [h1] at h; simp at h
      · rw [h1] at h; simp at h
    rw [cndF _ _ (by omega), if_pos rfl]
    congr 2
    have e1 : ishr .u64 (n : Int) 1 = (n : Int) / 2 := Int.fdiv_eq_ediv_of_nonneg _ (by decide)
    have e2 : iand .u64 (n : Int) 1 = bits BinOp.and IntKind.u64 (n : Int) 1 := rfl
    have := unzig_bits n hn.2
    rw [e1, e2, Int.zero_sub]
    have w : ∀ x, IntKind.i64.wrap x = wrap64 x := fun x => by unfold wrap64; rw [IntKind.wrap_i64]
    rw [w, w, w]
    exact this
  · rw [if_neg (by decide)]
  · rw [cndT _ _ rfl, if_neg (by decide)]
theorem G_length (l : List UInt8) (hl : l.length ≤ 1000000000) : g_wire_length (B8 l) 1 = some (getLen l 1) := by
  unfold g_wire_length
  rw [G_GetInt l hl, bnd_eq]
  rcases getInt_cases l with ⟨n, u, h, h1, h2, h3⟩ | h | h
  · have hn := h3.1
    have hn2 := h3.2
    have e : getLen l 1 = if n < 0 then (0, 0, 11) else if n > ((l.length : Int) - u) / 1 then (0, 0, 10) else (n, (u : Int), 0) := by
      unfold getLen; rw [h]; simp
    rw [e, h, cndF _ _ (fun h => h rfl), cnd_dec]
    dsimp only
    by_cases h0 : n < 0
    · rw [if_pos h0, if_pos h0]
    · rw [if_neg h0, if_neg h0, gd_pos (by decide), B8_len, Int.tdiv_one, w_id (z := (l.length : Int) - u) (by omega), w_id (by omega), Int.ediv_one, cnd_dec]
      by_cases h5 : (l.length : Int) - u < n
      · rw [if_pos h5, if_pos h5]
      · rw [if_neg h5, if_neg h5]
  · have e : getLen l 1 = (0, 0, 10) := by unfold getLen; rw [h]; simp
    rw [e, h, cndT _ _ (by decide)]
  · have e : getLen l 1 = (0, 0, 11) := by unfold getLen; rw [h]; simp
    rw [e, h, cndT _ _ (by decide)]
def ofB (x : List UInt8) : ByteArray := ⟨x.toArray⟩
theorem G_GetBytes (l : List UInt8) (hl : l.length ≤ 1000000000) : g_wire_GetBytes (B8 l) = some (ofB (getBytes l).1, (getBytes l).2.1, (getBytes l).2.2) := by
  unfold g_wire_GetBytes
  rw [G_length l hl, bnd_eq]
  rcases getLen_cases l 1 with ⟨n, u, h, h1, h2, h3⟩ | h | h
  · have e : getBytes l = ((l.drop u).take n, (u : Int) + (n : Int), 0) := by unfold getBytes; rw [h]; simp
    rw [e, h, cndF _ _ (fun h => h rfl)]
    dsimp only
    have : (n : Int) ≤ (l.length : Int) - u := by omega
    rw [w_id (by omega), gd_pos (by rw [B8_len]; omega), ← Int.natCast_add, B8_sub, bStr_B8]
    rfl
  · have e : getBytes l = ([], 0, 10) := by unfold getBytes; rw [h]; simp
    rw [e, h, cndT _ _ (by decide)]
    rfl
  · have e : getBytes l = ([], 0, 11) := by unfold getBytes; rw [h]; simp
    rw [e, h, cndT _ _ (by decide)]
    rfl
theorem go_loop {α β : Type} {f : α → List UInt8} {good : α → Prop} (one : List UInt8 → α × Int × Int) (C : Codec f one good) (cv : α → β) (b : Int × List β × Int → Option ((Int × List β × Int) ⊕ ((List β × Int × Int) ⊕ (Int × List β)))) (l : List UInt8) (n : Nat)
    (hend : ∀ (a : Int) (out : List β), b (a, out, (n : Int)) = some (.inr (.inr (a, out))))
    (hok : ∀ (a : Nat) (out : List β) (i : Nat) (x : α) (u : Nat), a ≤ l.length → i < n → out.length = i → one (l.drop a) = (x, (u : Int), 0) → u ≤ (l.drop a).length → b ((a : Int), out, (i : Int)) = some (.inl (((a + u : Nat) : Int), out ++ [cv x], ((i + 1 : Nat) : Int))))
    (herr : ∀ (a : Nat) (out : List β) (i : Nat), a ≤ l.length → i < n → (one (l.drop a)).2.2 ≠ 0 → b ((a : Int), out, (i : Int)) = some (.inr (.inl ([], 0, (one (l.drop a)).2.2)))) :
    ∀ (m a : Nat) (acc : List α), a ≤ l.length → m + acc.length = n → ∃ y, loopO b ((a : Int), acc.map cv, (acc.length : Int)) = some y ∧
      ((∃ (r : List α) (u : Int), getGo one l m a acc = (r, u, 0) ∧ y = .inr (u, r.map cv)) ∨ ∃ e, e ≠ 0 ∧ getGo one l m a acc = ([], 0, e) ∧ y = .inl ([], 0, e)) := by
  intro m
  induction m with
  | zero =>
    intro a acc ha hm
    refine ⟨_, loopO_inr (x := .inr ((a : Int), acc.map cv)) ?_, .inl ⟨acc, (a : Int), rfl, rfl⟩⟩
    rw [show acc.length = n by omega]
    exact hend _ _
  | succ m ih =>
    intro a acc ha hm
    rcases C.ok (l.drop a) with ⟨x, u, h1, h2⟩ | h1
    · rw [loopO_inl (hok a _ acc.length x u ha (by omega) (List.length_map _) h1 h2), getGo_ok h1]
      have := ih (a + u) (acc ++ [x]) (by rw [List.length_drop] at h2; omega) (by rw [List.length_append, List.length_singleton]; omega)
      rw [List.map_append, List.length_append, List.length_singleton] at this
      exact this
    · refine ⟨_, loopO_inr (herr a _ acc.length ha (by omega) h1), .inr ⟨_, h1, ?_, rfl⟩⟩
      rw [getGo, if_pos h1]
theorem G_GetInts (l : List UInt8) (hl : l.length ≤ 1000000000) : g_wire_GetInts (B8 l) = some (getList getInt 1 l) := by
  unfold g_wire_GetInts g_wire_get_int_wire_GetInt getList
  rw [G_length l hl, bnd_eq]
  rcases getLen_cases l 1 with ⟨n, u, h, h1, h2, h3⟩ | h | h
  · have hn : n ≤ l.length := by omega
    obtain ⟨y, hy, hc⟩ := go_loop getInt codecInt (fun x => x) (g_wire_get_int_wire_GetInt_l19 (B8 l) (getLen l 1)) l n (fun a out => by
        simp only [g_wire_get_int_wire_GetInt_l19]
        rw [h, cndF _ _ (by simp)]) (fun a out i x v ha hi ho hx hv => by
        simp only [g_wire_get_int_wire_GetInt_l19]
        rw [h, cndT _ _ (by show (i : Int) < (n : Int); omega), gd_pos (by rw [B8_len]; omega), B8_drop, G_GetInt _ (by rw [List.length_drop]; omega), bnd_eq, hx, cndF _ _ (fun h => h rfl)]
        rw [List.length_drop] at hv
        dsimp only
        rw [gd_pos (by rw [List.length_append, List.length_singleton]; omega), w_id (by omega), w_id (by omega)]
        rfl) (fun a out i ha hi he => by
        simp only [g_wire_get_int_wire_GetInt_l19]
        rw [h, cndT _ _ (by show (i : Int) < (n : Int); omega), gd_pos (by rw [B8_len]; omega), B8_drop, G_GetInt _ (by rw [List.length_drop]; omega), bnd_eq, cndT _ _ he]) n u [] (by omega) (by simp)
    rw [h, cndF _ _ (fun h => h rfl), if_neg (fun h => h rfl)]
    rw [h] at hy
    simp only [List.map_nil, List.length_nil, List.map_id', Int.toNat_natCast] at hy hc ⊢
    rw [show ((u : Int), ([] : List Int), (0 : Int)) = ((u : Int), ([] : List Int), ((0 : Nat) : Int)) from rfl, hy, bnd_eq]
    rcases hc with ⟨r, v, h4, h5⟩ | ⟨e, _, h4, h5⟩
    · rw [h4, h5]; rfl
    · rw [h4, h5]; rfl
  · rw [h, cndT _ _ (by decide), if_pos (by decide)]; rfl
  · rw [h, cndT _ _ (by decide), if_pos (by decide)]; rfl
theorem G_GetStrings (l : List UInt8) (hl : l.length ≤ 1000000000) : g_wire_GetStrings (B8 l) = some ((getList getBytes 1 l).1.map ofB, (getList getBytes 1 l).2.1, (getList getBytes 1 l).2.2) := by
  unfold g_wire_GetStrings g_wire_get_string_wire_GetBytes getList
  rw [G_length l hl, bnd_eq]
  rcases getLen_cases l 1 with ⟨n, u, h, h1, h2, h3⟩ | h | h
  · have hn : n ≤ l.length := by omega
    obtain ⟨y, hy, hc⟩ := go_loop getBytes codecBytes ofB (g_wire_get_string_wire_GetBytes_l19 (B8 l) (getLen l 1)) l n (fun a out => by
        simp only [g_wire_get_string_wire_GetBytes_l19]
        rw [h, cndF _ _ (by simp)]) (fun a out i x v ha hi ho hx hv => by
        simp only [g_wire_get_string_wire_GetBytes_l19]
        rw [h, cndT _ _ (by show (i : Int) < (n : Int); omega), gd_pos (by rw [B8_len]; omega), B8_drop, G_GetBytes _ (by rw [List.length_drop]; omega), bnd_eq, hx, cndF _ _ (fun h => h rfl)]
        rw [List.length_drop] at hv
        dsimp only
        rw [gd_pos (by rw [List.length_append, List.length_singleton]; omega), w_id (by omega), w_id (by omega)]
        rfl) (fun a out i ha hi he => by
        simp only [g_wire_get_string_wire_GetBytes_l19]
        rw [h, cndT _ _ (by show (i : Int) < (n : Int); omega), gd_pos (by rw [B8_len]; omega), B8_drop, G_GetBytes _ (by rw [List.length_drop]; omega), bnd_eq, cndT _ _ he]) n u [] (by omega) (by simp)
    rw [h, cndF _ _ (fun h => h rfl), if_neg (fun h => h rfl)]
    rw [h] at hy
    simp only [List.map_nil, List.length_nil, Int.toNat_natCast] at hy hc ⊢
    rw [show ((u : Int), ([] : List ByteArray), (0 : Int)) = ((u : Int), ([] : List ByteArray), ((0 : Nat) : Int)) from rfl, hy, bnd_eq]
    rcases hc with ⟨r, v, h4, h5⟩ | ⟨e, _, h4, h5⟩
    · rw [h4, h5]; rfl
    · rw [h4, h5]; rfl
  · rw [h, cndT _ _ (by decide), if_pos (by decide)]; rfl
  · rw [h, cndT _ _ (by decide), if_pos (by decide)]; rfl
end Go.Proofs.Ytakbadleipbngaa
