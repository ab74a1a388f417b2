/-
  The check of 40 bits: exclusive or, bursts and words of 40 bits, in plain words. Conditions: none.
-/
import Derived.Test.YtafehbnnoncieaaDoorCrcP
namespace Go.Proofs.YtafehbnnoncieaaDoor
namespace Crc
/-- The bytewise exclusive or, as long as the first list (missing bytes are 0). -/
def xorL (a b : List UInt8) : List UInt8 := (List.range a.length).map fun i => a.getD i 0 ^^^ b.getD i 0
theorem xorL_length (a b : List UInt8) : (xorL a b).length = a.length := by simp [xorL]
theorem xorL_zip (a b : List UInt8) (h : a.length = b.length) : xorL a b = List.zipWith (· ^^^ ·) a b := by
  apply List.ext_getElem
  · simp [xorL, h]
  · intro i h1 h2
    simp only [List.length_zipWith] at h2
    simp [xorL, List.getElem?_eq_getElem (show i < a.length by omega), List.getElem?_eq_getElem (show i < b.length by omega)]
theorem bits8_xor (x y : UInt8) : bits8 (x ^^^ y).toNat = List.zipWith (· ^^ ·) (bits8 x.toNat) (bits8 y.toNat) := by
  simp only [bits8, UInt8.toNat_xor, Nat.testBit_xor, List.zipWith]
theorem bitsOf_cons (x : UInt8) (l : List UInt8) : bitsOf (x :: l) = bits8 x.toNat ++ bitsOf l := rfl
theorem bitsOf_zip : ∀ (a b : List UInt8), bitsOf (List.zipWith (· ^^^ ·) a b) = List.zipWith (· ^^ ·) (bitsOf a) (bitsOf b)
  | [], b => by simp [bitsOf]
  | x :: a, [] => by simp [bitsOf]
  | x :: a, y :: b => by
    rw [List.zipWith_cons_cons, bitsOf_cons, bitsOf_cons, bitsOf_cons, bitsOf_zip a b, List.zipWith_append (by rfl), bits8_xor]
theorem bitsOf_xor (a b : List UInt8) (h : a.length = b.length) : bitsOf (xorL a b) = List.zipWith (· ^^ ·) (bitsOf a) (bitsOf b) := by
  rw [xorL_zip a b h, bitsOf_zip]
theorem crc_xor3 (a y z : List UInt8) (h1 : a.length = y.length) (h2 : a.length = z.length) : crc (xorL (xorL a y) z) = crc a ^^^ crc y ^^^ crc z :=
  crc_linear a y z h1 h2 _ (by rw [bitsOf_xor _ _ (by rw [xorL_length]; exact h2), bitsOf_xor _ _ h1])

/-! ### Bursts -/
theorem bitsOf_get : ∀ (l : List UInt8) (q r : Nat), r < 8 → (bitsOf l)[8 * q + r]? = l[q]?.map fun u => u.toNat.testBit (7 - r)
  | [], q, r, _ => by simp [bitsOf]
  | x :: l, 0, r, hr => by
    rw [bitsOf_cons, List.getElem?_append_left (by show _ < 8; omega)]
    rcases r with _ | _ | _ | _ | _ | _ | _ | _ | r
    all_goals first | rfl | omega
  | x :: l, q + 1, r, hr => by
    rw [bitsOf_cons, List.getElem?_append_right (by show 8 ≤ _; omega), show 8 * (q + 1) + r - (bits8 x.toNat).length = 8 * q + r from by show _ - 8 = _; omega, bitsOf_get l q r hr]
    rfl
/-- The list in which bit n (counted from the highest bit of the first byte) is another one. -/
def flipB (l : List UInt8) (n : Nat) : List UInt8 := l.set (n / 8) (l.getD (n / 8) 0 ^^^ UInt8.ofNat (2 ^ (7 - n % 8)))
theorem flipB_length (l : List UInt8) (n : Nat) : (flipB l n).length = l.length := by simp [flipB]
theorem two_pow_8 (k : Nat) (h : k < 8) : (UInt8.ofNat (2 ^ k)).toNat = 2 ^ k := by
  rw [UInt8.toNat_ofNat', Nat.mod_eq_of_lt]
  exact Nat.pow_lt_pow_right (by omega) h
theorem flipB_bits (l : List UInt8) (n : Nat) (hn : n < 8 * l.length) (i : Nat) : (bitsOf (flipB l n))[i]? = (bitsOf l)[i]?.map fun b => b ^^ decide (i = n) := by
  have hi : i = 8 * (i / 8) + i % 8 := by omega
  have hq : n / 8 < l.length := by omega
  rw [hi, bitsOf_get _ _ _ (by omega), bitsOf_get _ _ _ (by omega), ← hi]
  unfold flipB
  rw [List.getElem?_set]
  by_cases h : n / 8 = i / 8
  · rw [if_pos h, if_pos hq, ← h, List.getElem?_eq_getElem hq]
    simp only [Option.map_some, UInt8.toNat_xor, Nat.testBit_xor, List.getD_eq_getElem?_getD, List.getElem?_eq_getElem hq, Option.getD_some]
    rw [two_pow_8 _ (by omega), Nat.testBit_two_pow]
    congr 2
    rw [decide_eq_decide]
    omega
  · rw [if_neg h]
    have : decide (i = n) = false := by rw [decide_eq_false_iff_not]; intro e; subst e; exact h rfl
    rw [this]
    simp only [Bool.xor_false, Option.map_map]
    rfl
/-- k bits from place first on: those that p names are flipped. -/
def flips (l : List UInt8) (first : Nat) (p : Nat → Bool) : Nat → List UInt8
  | 0 => l
  | k + 1 => if p k then flipB (flips l first p k) (first + k) else flips l first p k
theorem flips_length (l : List UInt8) (first : Nat) (p : Nat → Bool) : ∀ k, (flips l first p k).length = l.length
  | 0 => rfl
  | k + 1 => by
    simp only [flips]
    split
    · rw [flipB_length, flips_length l first p k]
    · exact flips_length l first p k
theorem flips_bits (l : List UInt8) (first : Nat) (p : Nat → Bool) : ∀ k, first + k ≤ 8 * l.length → ∀ i, (bitsOf (flips l first p k))[i]? = (bitsOf l)[i]?.map fun b => b ^^ (decide (first ≤ i) && decide (i < first + k) && p (i - first))
  | 0, _, i => by
    have : (decide (first ≤ i) && decide (i < first + 0)) = false := by
      rw [Bool.and_eq_false_iff, decide_eq_false_iff_not, decide_eq_false_iff_not]; omega
    rw [this]; simp [flips]
  | k + 1, h, i => by
    simp only [flips]
    have ih := flips_bits l first p k (by omega) i
    by_cases hp : p k = true
    · rw [if_pos hp, flipB_bits _ _ (by rw [flips_length]; omega), ih, Option.map_map]
      congr 1
      funext b
      simp only [Function.comp_def]
      by_cases he : i = first + k
      · subst he
        simp [hp, show first + k - first = k by omega]
      · have e1 : decide (i = first + k) = false := by simpa using he
        have e2 : decide (i < first + (k + 1)) = decide (i < first + k) := by rw [decide_eq_decide]; omega
        rw [e1, e2]; simp
    · rw [if_neg hp, ih]
      congr 1
      funext b
      by_cases he : i = first + k
      · subst he
        simp [hp, show first + k - first = k by omega]
      · have e2 : decide (i < first + (k + 1)) = decide (i < first + k) := by rw [decide_eq_decide]; omega
        rw [e2]
theorem flips_zip (l : List UInt8) (first : Nat) (p : Nat → Bool) (k : Nat) (h : first + k ≤ 8 * l.length) :
    bitsOf (flips l first p k) = List.zipWith (· ^^ ·) (bitsOf l) (List.replicate first false ++ (List.range k).map p ++ List.replicate (8 * l.length - first - k) false) := by
  apply List.ext_getElem?
  intro i
  rw [flips_bits l first p k h i, List.getElem?_zipWith]
  by_cases hi : i < 8 * l.length
  · have h1 : i < (bitsOf l).length := by rw [bitsOf_length]; exact hi
    rw [List.getElem?_eq_getElem h1]
    simp only [Option.map_some]
    by_cases ha : i < first
    · rw [List.getElem?_append_left (by simp; omega), List.getElem?_append_left (by simp; omega), List.getElem?_replicate, if_pos ha]
      simp [show ¬ first ≤ i by omega]
    · by_cases hb : i < first + k
      · rw [List.getElem?_append_left (by simp; omega), List.getElem?_append_right (by simp; omega), List.length_replicate, List.getElem?_map, List.getElem?_range (by omega)]
        simp [show first ≤ i by omega, hb]
      · rw [List.getElem?_append_right (by simp; omega), List.getElem?_replicate, if_pos (by simp; omega)]
        simp [hb]
  · rw [List.getElem?_eq_none (by rw [bitsOf_length]; omega)]
    rfl
theorem burst_crc (l : List UInt8) (first m : Nat) (p : Nat → Bool) (hm : m ≤ 40) (h : first + m ≤ 8 * l.length) : crc (flips l first p m) = crc l ↔ ∀ k, k < m → p k = false := by
  rw [crc_differ l (flips l first p m) _ (by simp; omega) (flips_zip l first p m h), burst _ _ _ (by simpa using hm)]
  simp

/-! ### Words of 40 bits -/
/-- The byte k of the lowest 40 bits of n. -/
def fiveAt (n : Int) (k : Nat) : UInt8 := UInt8.ofNat (n / 2 ^ (32 - 8 * k) % 256).toNat
def five (n : Int) : List UInt8 := (List.range 5).map (fiveAt n)
def words (l : List Int) : List UInt8 := l.flatMap five
theorem words_length (l : List Int) : (words l).length = 5 * l.length := by
  induction l with
  | nil => rfl
  | cons n l ih => 
    show (five n ++ words l).length = _
    rw [List.length_append, ih]
    simp [five]; omega
theorem five_low (n : Int) : five (n % 1099511627776) = five n := by
  simp only [five, fiveAt, List.range_succ, List.range_zero, List.map_append, List.map_cons, List.map_nil, List.nil_append]
  congr 1
  · congr 1
    · congr 1
      · congr 1
        · congr 3; show n % 1099511627776 / 4294967296 % 256 = n / 4294967296 % 256; omega
        · congr 3; show n % 1099511627776 / 16777216 % 256 = n / 16777216 % 256; omega
      · congr 3; show n % 1099511627776 / 65536 % 256 = n / 65536 % 256; omega
    · congr 3; show n % 1099511627776 / 256 % 256 = n / 256 % 256; omega
  · congr 3; show n % 1099511627776 / 1 % 256 = n / 1 % 256; omega
theorem words_low (l : List Int) : words (l.map (· % 1099511627776)) = words l := by
  unfold words
  rw [List.flatMap_map]
  exact congrArg (fun f => l.flatMap f) (funext five_low)
/-- The nibble j of the lowest 40 bits. -/
def nibAt (n : Int) (j : Nat) : Nat := (n / 2 ^ (36 - 4 * j) % 16).toNat
def nibs (n : Int) (j : Nat) : List Bool := (List.range j).flatMap fun i => bits4 (nibAt n i)
theorem nibs_succ (n : Int) (j : Nat) : nibs n (j + 1) = nibs n j ++ bits4 (nibAt n j) := by
  unfold nibs; rw [List.range_succ, List.flatMap_append]; simp
theorem bits8_split (x : Nat) : bits8 x = bits4 (x / 16) ++ bits4 (x % 16) := by
  have h1 : ∀ j, (x / 16).testBit j = x.testBit (4 + j) := fun j => by rw [show (16 : Nat) = 2 ^ 4 from rfl, Nat.testBit_div_two_pow, Nat.add_comm]
  have h2 : ∀ j, j < 4 → (x % 16).testBit j = x.testBit j := fun j hj => by rw [show (16 : Nat) = 2 ^ 4 from rfl, Nat.testBit_mod_two_pow]; simp [hj]
  simp only [bits8, bits4, h1, h2 3 (by omega), h2 2 (by omega), h2 1 (by omega), h2 0 (by omega), List.cons_append, List.nil_append]
theorem fiveAt_bits (n : Int) (k : Nat) (hk : k < 5) : bits8 (fiveAt n k).toNat = bits4 (nibAt n (2 * k)) ++ bits4 (nibAt n (2 * k + 1)) := by
  have h0 : (fiveAt n k).toNat = (n / 2 ^ (32 - 8 * k) % 256).toNat := by unfold fiveAt; rw [UInt8.toNat_ofNat', Nat.mod_eq_of_lt (by omega)]
  rw [h0, bits8_split]
  unfold nibAt
  rcases k with _ | _ | _ | _ | _ | k
  · congr 2
    · show (n / 4294967296 % 256).toNat / 16 = (n / 68719476736 % 16).toNat; omega
    · show (n / 4294967296 % 256).toNat % 16 = (n / 4294967296 % 16).toNat; omega
  · congr 2
    · show (n / 16777216 % 256).toNat / 16 = (n / 268435456 % 16).toNat; omega
    · show (n / 16777216 % 256).toNat % 16 = (n / 16777216 % 16).toNat; omega
  · congr 2
    · show (n / 65536 % 256).toNat / 16 = (n / 1048576 % 16).toNat; omega
    · show (n / 65536 % 256).toNat % 16 = (n / 65536 % 16).toNat; omega
  · congr 2
    · show (n / 256 % 256).toNat / 16 = (n / 4096 % 16).toNat; omega
    · show (n / 256 % 256).toNat % 16 = (n / 256 % 16).toNat; omega
  · congr 2
    · show (n / 1 % 256).toNat / 16 = (n / 16 % 16).toNat; omega
    · show (n / 1 % 256).toNat % 16 = (n / 1 % 16).toNat; omega
  · omega
theorem five_bits (n : Int) : bitsOf (five n) = nibs n 10 := by
  have h0 := fiveAt_bits n 0 (by omega)
  have h1 := fiveAt_bits n 1 (by omega)
  have h2 := fiveAt_bits n 2 (by omega)
  have h3 := fiveAt_bits n 3 (by omega)
  have h4 := fiveAt_bits n 4 (by omega)
  show bits8 (fiveAt n 0).toNat ++ (bits8 (fiveAt n 1).toNat ++ (bits8 (fiveAt n 2).toNat ++ (bits8 (fiveAt n 3).toNat ++ (bits8 (fiveAt n 4).toNat ++ [])))) = bits4 (nibAt n 0) ++ (bits4 (nibAt n 1) ++ (bits4 (nibAt n 2) ++ (bits4 (nibAt n 3) ++
    (bits4 (nibAt n 4) ++ (bits4 (nibAt n 5) ++ (bits4 (nibAt n 6) ++ (bits4 (nibAt n 7) ++ (bits4 (nibAt n 8) ++ (bits4 (nibAt n 9) ++ [])))))))))
  rw [h0, h1, h2, h3, h4]
  simp only [List.append_assoc]
theorem words_snoc (v : V) (l : List Int) (k : Nat) (n : Int) (h : l[k]? = some n) : run (run v (bitsOf (words (l.take k)))) (nibs n 10) = run v (bitsOf (words (l.take (k + 1)))) := by
  obtain ⟨hk, rfl⟩ := List.getElem?_eq_some_iff.1 h
  rw [List.take_succ_eq_append_getElem hk]
  unfold words
  rw [List.flatMap_append, bitsOf_append, run_append]
  simp only [List.flatMap_cons, List.flatMap_nil, List.append_nil, five_bits]
end Crc
end Go.Proofs.YtafehbnnoncieaaDoor
