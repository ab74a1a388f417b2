/-
  Plain laws of the encoding of strings and lists. Conditions: none.
-/
import Derived.Test.YtjdoellkoofnmaaWireP
namespace Go.Proofs.Ytjdoellkoofnmaa
open Go.RowKit
def encB (x : List UInt8) : List UInt8 := encInt x.length ++ x
theorem encBytes_eq (s : ByteArray) : encBytes s = encB s.data.toList := by
  unfold encBytes encB; rw [Array.length_toList]; rfl

theorem getLen_enc {n : Nat} {lst : Int} (least : Nat) (hm : lst = (least : Int)) (hn : n ≤ 1152921504606846976) (hl : 1 ≤ least) {t : List UInt8} (ht : n * least ≤ t.length) : getLen (encInt n ++ t) lst = ((n : Int), ((encInt n).length : Int), 0) := by
  subst hm
  unfold getLen
  rw [getInt_enc (i64_nat (by omega))]
  simp only [ne_eq, not_true, if_false, List.length_append]
  rw [if_neg (by omega), if_neg]
  have h1 : (((encInt (n : Int)).length + t.length : Nat) : Int) - ((encInt (n : Int)).length : Int) = ((t.length : Nat) : Int) := by omega
  rw [h1, ← Int.natCast_ediv]
  have : n ≤ t.length / least := (Nat.le_div_iff_mul_le (by omega)).2 ht
  omega
theorem getLen_short {n : Nat} {lst : Int} (least : Nat) (hm : lst = (least : Int)) (hn : n ≤ 1152921504606846976) (hl : 1 ≤ least) {t : List UInt8} (ht : t.length < n * least) : getLen (encInt n ++ t) lst = (0, 0, 10) := by
  subst hm
  unfold getLen
  rw [getInt_enc (i64_nat (by omega))]
  simp only [ne_eq, not_true, if_false, List.length_append]
  rw [if_neg (by omega), if_pos]
  have h1 : (((encInt (n : Int)).length + t.length : Nat) : Int) - ((encInt (n : Int)).length : Int) = ((t.length : Nat) : Int) := by omega
  rw [h1, ← Int.natCast_ediv]
  have : t.length / least < n := (Nat.div_lt_iff_lt_mul (by omega)).2 ht
  omega
theorem getLen_trunc {n : Nat} {least : Int} (hn : n ≤ 1152921504606846976) {i : Nat} (hi : i < (encInt (n : Int)).length) : getLen ((encInt (n : Int)).take i) least = (0, 0, 10) := by
  unfold getLen
  rw [getInt_trunc (i64_nat (by omega)) hi]
  simp
theorem getLen_canon {l : List UInt8} {least : Int} {n u : Nat} (h : getLen l least = ((n : Int), (u : Int), 0)) : l.take u = encInt n ∧ (encInt (n : Int)).length = u := by
  unfold getLen at h
  rcases getInt_cases l with ⟨m, u', hg, _⟩ | hg | hg
  · rw [hg] at h
    simp only [ne_eq, not_true, if_false] at h
    split at h
    · simp at h
    · split at h
      · simp at h
      · simp only [Prod.mk.injEq, and_true] at h
        obtain ⟨rfl, h2⟩ := h
        obtain rfl : u' = u := by omega
        exact getInt_canon hg
  · rw [hg] at h; simp at h
  · rw [hg] at h; simp at h
theorem getBytes_enc {x : List UInt8} (hx : x.length ≤ 1152921504606846976) (t : List UInt8) : getBytes (encB x ++ t) = (x, ((encB x).length : Int), 0) := by
  unfold getBytes encB
  rw [List.append_assoc, getLen_enc (lst := 1) 1 rfl hx (by omega) (by simp)]
  simp
theorem getBytes_trunc {x : List UInt8} (hx : x.length ≤ 1152921504606846976) {i : Nat} (hi : i < (encB x).length) : (getBytes ((encB x).take i)).2.2 = 10 := by
  unfold getBytes encB at *
  rw [List.take_append]
  rcases Nat.lt_or_ge i (encInt (x.length : Int)).length with h | h
  · rw [Nat.sub_eq_zero_of_le (by omega), List.take_zero, List.append_nil, getLen_trunc hx h]
    simp
  · rw [List.take_of_length_le h, getLen_short (lst := 1) 1 rfl hx (by omega) (by simp at hi ⊢; omega)]
    simp
theorem getBytes_canon {l x : List UInt8} {u : Nat} (h : getBytes l = (x, (u : Int), 0)) : l.take u = encB x ∧ (encB x).length = u := by
  unfold getBytes at h
  rcases getLen_cases l 1 with ⟨n, u', hg, h1, h2, h3⟩ | hg | hg
  · have hc := getLen_canon hg
    rw [hg] at h
    rw [Int.ediv_one] at h3
    simp only [ne_eq, not_true, if_false, Int.toNat_natCast, Prod.mk.injEq, and_true] at h
    obtain ⟨rfl, h5⟩ := h
    have hlen : ((l.drop u').take n).length = n := by rw [List.length_take, List.length_drop]; omega
    unfold encB
    rw [hlen, List.length_append, hlen, hc.2]
    refine ⟨?_, by omega⟩
    rw [show u = u' + n from by omega, List.take_add, hc.1]
  · rw [hg] at h; simp at h
  · rw [hg] at h; simp at h

/-! ### Lists whose elements are decoded one after the other -/
structure Codec {α : Type} (f : α → List UInt8) (one : List UInt8 → α × Int × Int) (good : α → Prop) : Prop where
  dec_ : ∀ x t, good x → one (f x ++ t) = (x, ((f x).length : Int), 0)
  canon : ∀ l x (u : Nat), one l = (x, (u : Int), 0) → l.take u = f x ∧ (f x).length = u
  trunc : ∀ x i, good x → i < (f x).length → (one ((f x).take i)).2.2 = 10
  ok : ∀ l, (∃ x, ∃ u : Nat, one l = (x, (u : Int), 0) ∧ u ≤ l.length) ∨ (one l).2.2 ≠ 0
theorem codecInt : Codec encInt getInt I64 where
  dec_ x t h := getInt_enc h t
  canon l x u h := getInt_canon h
  trunc x i h hi := by rw [getInt_trunc h hi]
  ok l := by
    rcases getInt_cases l with ⟨n, u, h, h1, h2, _⟩ | h | h
    · exact .inl ⟨n, u, h, h2⟩
    · rw [h]; exact .inr (by simp)
    · rw [h]; exact .inr (by simp)
def Short (x : List UInt8) : Prop := x.length ≤ 1152921504606846976
theorem codecBytes : Codec encB getBytes Short where
  dec_ x t h := getBytes_enc h t
  canon l x u h := getBytes_canon h
  trunc x i h hi := getBytes_trunc h hi
  ok l := by
    rcases getBytes_cases l with ⟨n, u, h, h1, h2⟩ | h | h
    · exact .inl ⟨n, u, h, h2⟩
    · rw [h]; exact .inr (by simp)
    · rw [h]; exact .inr (by simp)
section
variable {α : Type} {f : α → List UInt8} {one : List UInt8 → α × Int × Int} {good : α → Prop}
theorem getGo_enc (C : Codec f one good) (l : List UInt8) : ∀ (xs : List α) (a : Nat) (acc : List α) (t : List UInt8), (∀ x ∈ xs, good x) → l.drop a = xs.flatMap f ++ t → getGo one l xs.length a acc = (acc ++ xs, ((a + (xs.flatMap f).length : Nat) : Int), 0) := by
  intro xs
  induction xs with
  | nil => intro a acc t _ _; simp [getGo]
  | cons x xs ih =>
    intro a acc t hg h
    rw [List.flatMap_cons, List.append_assoc] at h
    have h1 := C.dec_ x (xs.flatMap f ++ t) (hg x (by simp))
    rw [← h] at h1
    have h2 : l.drop (a + (f x).length) = xs.flatMap f ++ t := by rw [← List.drop_drop, h, List.drop_left]
    rw [List.length_cons, getGo_ok h1, ih _ _ t (fun y hy => hg y (by simp [hy])) h2, List.append_assoc, List.flatMap_cons, List.length_append, Nat.add_assoc]
    rfl
theorem getGo_trunc (C : Codec f one good) (l : List UInt8) : ∀ (xs : List α) (a : Nat) (acc : List α) (i : Nat), (∀ x ∈ xs, good x) → l.drop a = (xs.flatMap f).take i → i < (xs.flatMap f).length → (getGo one l xs.length a acc).2.2 = 10 := by
  intro xs
  induction xs with
  | nil => intro a acc i _ _ hi; simp at hi
  | cons x xs ih =>
    intro a acc i hg h hi
    rw [List.flatMap_cons, List.take_append] at h
    rw [List.flatMap_cons, List.length_append] at hi
    rcases Nat.lt_or_ge i (f x).length with hlt | hge
    · rw [Nat.sub_eq_zero_of_le (by omega), List.take_zero, List.append_nil] at h
      have h1 := C.trunc x i (hg x (by simp)) hlt
      rw [← h] at h1
      rw [List.length_cons, getGo, h1, if_pos (by decide)]
    · rw [List.take_of_length_le hge] at h
      have h1 := C.dec_ x ((xs.flatMap f).take (i - (f x).length)) (hg x (by simp))
      rw [← h] at h1
      rw [List.length_cons, getGo_ok h1]
      exact ih _ _ (i - (f x).length) (fun y hy => hg y (by simp [hy])) (by rw [← List.drop_drop, h, List.drop_left]) (by omega)
theorem getGo_canon (C : Codec f one good) (l : List UInt8) : ∀ (n a : Nat) (acc r : List α) (u : Nat), a ≤ l.length → getGo one l n a acc = (r, (u : Int), 0) → ∃ xs, r = acc ++ xs ∧ xs.length = n ∧ u = a + (xs.flatMap f).length ∧ (l.drop a).take (xs.flatMap f).length = xs.flatMap f ∧ u ≤ l.length := by
  intro n
  induction n with
  | zero =>
    intro a acc r u ha h
    simp only [getGo, Prod.mk.injEq, and_true] at h
    exact ⟨[], by simp [h.1], rfl, by simp; omega, by simp, by omega⟩
  | succ n ih =>
    intro a acc r u ha h
    rcases C.ok (l.drop a) with ⟨x, u1, h1, hu1⟩ | h1
    · rw [List.length_drop] at hu1
      rw [getGo_ok h1] at h
      obtain ⟨xs, e1, e2, e3, e4, e5⟩ := ih _ _ _ _ (by omega) h
      obtain ⟨c1, c2⟩ := C.canon _ _ _ h1
      refine ⟨x :: xs, by rw [e1]; simp, by simp [e2], ?_, ?_, e5⟩
      · rw [List.flatMap_cons, List.length_append]; omega
      · rw [List.flatMap_cons, List.length_append, List.take_add, c2, c1, List.drop_drop, e4]
    · rw [getGo, if_pos h1] at h
      simp only [Prod.mk.injEq] at h
      exact absurd h.2.2 h1
def encList (f : α → List UInt8) (xs : List α) : List UInt8 := encInt xs.length ++ xs.flatMap f
theorem flat_ge (hf : ∀ x, 1 ≤ (f x).length) (xs : List α) : xs.length * 1 ≤ (xs.flatMap f).length := by
  induction xs with
  | nil => simp
  | cons x xs ih => rw [List.flatMap_cons, List.length_append, List.length_cons]; have := hf x; omega
theorem getList_enc (C : Codec f one good) (hf : ∀ x, 1 ≤ (f x).length) {xs : List α} (hg : ∀ x ∈ xs, good x) (hn : xs.length ≤ 1152921504606846976) (t : List UInt8) : getList one 1 (encList f xs ++ t) = (xs, ((encList f xs).length : Int), 0) := by
  have h1 : getLen (encList f xs ++ t) 1 = ((xs.length : Int), ((encInt xs.length).length : Int), 0) := by
    unfold encList
    rw [List.append_assoc]
    exact getLen_enc (lst := 1) 1 rfl hn (by omega) (by have := flat_ge hf xs; rw [List.length_append]; omega)
  unfold getList
  rw [h1]
  simp only [ne_eq, not_true, if_false, Int.toNat_natCast]
  rw [getGo_enc C _ xs _ [] t hg (by unfold encList; rw [List.append_assoc, List.drop_left])]
  unfold encList
  rw [List.length_append]
  rfl
theorem getList_trunc (C : Codec f one good) {xs : List α} (hg : ∀ x ∈ xs, good x) (hn : xs.length ≤ 1152921504606846976) {i : Nat} (hi : i < (encList f xs).length) : (getList one 1 ((encList f xs).take i)).2.2 = 10 := by
  unfold encList at *
  rw [List.take_append]
  rcases Nat.lt_or_ge i (encInt (xs.length : Int)).length with h | h
  · rw [Nat.sub_eq_zero_of_le (by omega), List.take_zero, List.append_nil]
    unfold getList
    rw [getLen_trunc hn h]
    simp
  · rw [List.take_of_length_le h]
    by_cases hs : xs.length * 1 ≤ ((xs.flatMap f).take (i - (encInt (xs.length : Int)).length)).length
    · unfold getList
      rw [getLen_enc (lst := 1) 1 rfl hn (by omega) hs]
      simp only [ne_eq, not_true, if_false, Int.toNat_natCast]
      refine getGo_trunc C _ xs _ [] (i - (encInt (xs.length : Int)).length) hg (by rw [List.drop_left]) ?_
      rw [List.length_append] at hi
      omega
    · unfold getList
      rw [getLen_short (lst := 1) 1 rfl hn (by omega) (by omega)]
      simp
theorem getList_canon (C : Codec f one good) {l : List UInt8} {r : List α} {u : Nat} (h : getList one 1 l = (r, (u : Int), 0)) : l.take u = encList f r ∧ (encList f r).length = u ∧ u ≤ l.length := by
  unfold getList at h
  rcases getLen_cases l 1 with ⟨n, u', hg, h1, h2, h3⟩ | hg | hg
  · have hc := getLen_canon hg
    rw [hg] at h
    simp only [ne_eq, not_true, if_false, Int.toNat_natCast] at h
    obtain ⟨xs, e1, e2, e3, e4, e5⟩ := getGo_canon C l n u' [] r u h2 h
    simp only [List.nil_append] at e1
    subst e1
    unfold encList
    rw [e2, List.length_append, hc.2]
    refine ⟨?_, by omega, e5⟩
    rw [e3, List.take_add, hc.1, e4]
  · rw [hg] at h; simp at h
  · rw [hg] at h; simp at h
end
theorem encInts_eq (l : List Int) : encInts l = encList encInt l := rfl
theorem encStrings_eq (l : List ByteArray) : encStrings l = encList encB (l.map fun s => s.data.toList) := by
  unfold encStrings encList
  rw [List.length_map, List.flatMap_map]
  rfl
/-! ### Lists of digests -/
theorem flatten_len {l : List (List UInt8)} (h : ∀ d ∈ l, d.length = 16) : l.flatten.length = l.length * 16 := by
  induction l with
  | nil => rfl
  | cons d l ih => rw [List.flatten_cons, List.length_append, h d (by simp), ih (fun e he => h e (by simp [he])), List.length_cons]; omega
theorem getGoD_enc (l : List UInt8) : ∀ (xs : List (List UInt8)) (a : Nat) (acc : List (List UInt8)) (t : List UInt8), (∀ x ∈ xs, x.length = 16) → l.drop a = xs.flatten ++ t → getGo oneD l xs.length a acc = (acc ++ xs, ((a + xs.length * 16 : Nat) : Int), 0) := by
  intro xs
  induction xs with
  | nil => intro a acc t _ _; simp [getGo]
  | cons x xs ih =>
    intro a acc t hg h
    rw [List.flatten_cons, List.append_assoc] at h
    have hx := hg x (by simp)
    have h2 : l.drop (a + 16) = xs.flatten ++ t := by rw [← List.drop_drop, h, ← hx, List.drop_left]
    have h3 : (l.drop a).take 16 = x := by rw [h, ← hx, List.take_left]
    rw [List.length_cons, oneD_ok, h3, ih _ _ t (fun y hy => hg y (by simp [hy])) h2, List.append_assoc]
    simp only [List.singleton_append, Prod.mk.injEq, and_true, true_and]
    omega
theorem getDigests_enc {xs : List (List UInt8)} (hg : ∀ x ∈ xs, x.length = 16) (hn : xs.length ≤ 1152921504606846976) (t : List UInt8) : getList oneD 16 (encDigests xs ++ t) = (xs, ((encDigests xs).length : Int), 0) := by
  have h1 : getLen (encDigests xs ++ t) 16 = ((xs.length : Int), ((encInt xs.length).length : Int), 0) := by
    unfold encDigests
    rw [List.append_assoc]
    exact getLen_enc (lst := 16) 16 rfl hn (by omega) (by rw [List.length_append, flatten_len hg]; omega)
  unfold getList
  rw [h1]
  simp only [ne_eq, not_true, if_false, Int.toNat_natCast]
  rw [getGoD_enc _ xs _ [] t hg (by unfold encDigests; rw [List.append_assoc, List.drop_left])]
  unfold encDigests
  rw [List.length_append, flatten_len hg]
  rfl
theorem getDigests_trunc {xs : List (List UInt8)} (hg : ∀ x ∈ xs, x.length = 16) (hn : xs.length ≤ 1152921504606846976) {i : Nat} (hi : i < (encDigests xs).length) : (getList oneD 16 ((encDigests xs).take i)).2.2 = 10 := by
  unfold encDigests at *
  rw [List.take_append]
  rcases Nat.lt_or_ge i (encInt (xs.length : Int)).length with h | h
  · rw [Nat.sub_eq_zero_of_le (by omega), List.take_zero, List.append_nil]
    unfold getList
    rw [getLen_trunc hn h]
    simp
  · rw [List.take_of_length_le h]
    unfold getList
    rw [getLen_short (lst := 16) 16 rfl hn (by omega) (by rw [List.length_append, flatten_len hg] at hi; rw [List.length_take, flatten_len hg]; omega)]
    simp
theorem getGoD_canon (l : List UInt8) : ∀ (n a : Nat) (acc r : List (List UInt8)) (u : Nat), a + 16 * n ≤ l.length → getGo oneD l n a acc = (r, (u : Int), 0) → ∃ xs, r = acc ++ xs ∧ xs.length = n ∧ u = a + 16 * n ∧ (l.drop a).take (16 * n) = xs.flatten := by
  intro n
  induction n with
  | zero =>
    intro a acc r u ha h
    simp only [getGo, Prod.mk.injEq, and_true] at h
    exact ⟨[], by simp [h.1], rfl, by omega, by simp⟩
  | succ n ih =>
    intro a acc r u ha h
    rw [oneD_ok] at h
    obtain ⟨xs, e1, e2, e3, e4⟩ := ih _ _ _ _ (by omega) h
    refine ⟨(l.drop a).take 16 :: xs, by rw [e1]; simp, by simp [e2], by omega, ?_⟩
    rw [List.flatten_cons, ← e4, show 16 * (n + 1) = 16 + 16 * n from by omega, List.take_add, List.drop_drop]
theorem getDigests_canon {l : List UInt8} {r : List (List UInt8)} {u : Nat} (h : getList oneD 16 l = (r, (u : Int), 0)) : l.take u = encDigests r ∧ (encDigests r).length = u ∧ u ≤ l.length := by
  unfold getList at h
  rcases getLen_cases l 16 with ⟨n, u', hg, h1, h2, h3⟩ | hg | hg
  · have hc := getLen_canon hg
    rw [hg] at h
    simp only [ne_eq, not_true, if_false, Int.toNat_natCast] at h
    obtain ⟨xs, e1, e2, e3, e4⟩ := getGoD_canon l n u' [] r u (by omega) h
    simp only [List.nil_append] at e1
    subst e1
    have hfl : r.flatten.length = 16 * n := by rw [← e4, List.length_take, List.length_drop]; omega
    unfold encDigests
    rw [e2, List.length_append, hc.2, hfl]
    refine ⟨?_, by omega, by omega⟩
    rw [e3, List.take_add, hc.1, e4]
  · rw [hg] at h; simp at h
  · rw [hg] at h; simp at h
end Go.Proofs.Ytjdoellkoofnmaa
