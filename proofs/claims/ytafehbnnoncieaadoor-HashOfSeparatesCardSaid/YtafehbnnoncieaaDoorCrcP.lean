/-
  The check of 40 bits, in plain words: the register as a polynomial. Conditions: none.
-/
import Derived.Lib.Hide
namespace Go.Proofs.YtafehbnnoncieaaDoor
namespace Crc
abbrev V := BitVec 40
def poly : V := 0x0004820009#40
def S (v : V) : V := (v <<< 1) ^^^ (if v.getLsbD 39 then poly else 0#40)
def T (v : V) (b : Bool) : V := S v ^^^ (if b then poly else 0#40)
def ones : V := BitVec.allOnes 40

theorem S_xor (a b : V) : S (a ^^^ b) = S a ^^^ S b := by
  unfold S
  rw [BitVec.shiftLeft_xor_distrib, BitVec.getLsbD_xor]
  cases a.getLsbD 39 <;> cases b.getLsbD 39 <;> simp <;> ac_nf <;> simp [← BitVec.xor_assoc]
theorem S_zero : S 0#40 = 0#40 := by decide
theorem S_inj0 (a : V) (h : S a = 0#40) : a = 0#40 := by
  unfold S at h
  by_cases hm : a.getLsbD 39
  · rw [if_pos hm] at h
    have := congrArg (fun v => v.getLsbD 0) h
    simp [poly] at this
  · rw [if_neg hm] at h
    apply BitVec.eq_of_getLsbD_eq
    intro i hi
    by_cases h39 : i = 39
    · subst h39; simpa using hm
    · have := congrArg (fun v => v.getLsbD (i + 1)) h
      simp only [BitVec.xor_zero, BitVec.getLsbD_shiftLeft, BitVec.getLsbD_zero] at this
      simpa [show i + 1 < 40 by omega] using this
def it (f : V → V) : Nat → V → V
  | 0, v => v
  | n + 1, v => it f n (f v)
theorem it_add (f : V → V) (m n : Nat) (v : V) : it f (m + n) v = it f n (it f m v) := by
  induction m generalizing v with
  | zero => simp [it]
  | succ m ih => rw [Nat.succ_add]; simp only [it]; exact ih _
theorem it_S_xor (n : Nat) (a b : V) : it S n (a ^^^ b) = it S n a ^^^ it S n b := by
  induction n generalizing a b with
  | zero => rfl
  | succ n ih => simp only [it, S_xor, ih]
theorem it_S_zero (n : Nat) : it S n 0#40 = 0#40 := by
  induction n with
  | zero => rfl
  | succ n ih => simp only [it, S_zero, ih]
theorem it_S_inj0 (n : Nat) (a : V) (h : it S n a = 0#40) : a = 0#40 := by
  induction n generalizing a with
  | zero => exact h
  | succ n ih => exact S_inj0 _ (ih _ h)
theorem it_succ (f : V → V) (n : Nat) (v : V) : it f (n + 1) v = f (it f n v) := by
  rw [it_add]; rfl

/-- The register behind the bits l. -/
def run (v : V) (l : List Bool) : V := l.foldl T v
theorem run_append (v : V) (l m : List Bool) : run v (l ++ m) = run (run v l) m := List.foldl_append
theorem run_cons (v : V) (b : Bool) (l : List Bool) : run v (b :: l) = run (T v b) l := rfl
theorem T_xor (u v : V) (a b : Bool) : T (u ^^^ v) (a ^^ b) = T u a ^^^ T v b := by
  unfold T
  rw [S_xor]
  cases a <;> cases b <;> simp <;> ac_nf <;> simp [← BitVec.xor_assoc]
theorem run_xor (u v : V) : ∀ (l m : List Bool), l.length = m.length → run (u ^^^ v) (List.zipWith (· ^^ ·) l m) = run u l ^^^ run v m
  | [], [], _ => rfl
  | a :: l, b :: m, h => by
    simp only [List.zipWith_cons_cons, run_cons]
    rw [T_xor]
    exact run_xor _ _ l m (by simpa using h)
theorem run_false (v : V) (n : Nat) : run v (List.replicate n false) = it S n v := by
  induction n generalizing v with
  | zero => rfl
  | succ n ih =>
    rw [List.replicate_succ, run_cons, ih]
    simp [it, T]
theorem zip_false (l : List Bool) : List.zipWith (· ^^ ·) (List.replicate l.length false) l = l := by
  induction l with
  | nil => rfl
  | cons a l ih => simp [List.replicate_succ, ih]
theorem run_split (v : V) (l : List Bool) : run v l = it S l.length v ^^^ run 0#40 l := by
  have := run_xor v 0#40 (List.replicate l.length false) l (by simp)
  rw [zip_false, run_false, BitVec.xor_zero] at this
  exact this

def bits8 (n : Nat) : List Bool := [n.testBit 7, n.testBit 6, n.testBit 5, n.testBit 4, n.testBit 3, n.testBit 2, n.testBit 1, n.testBit 0]
def bits4 (n : Nat) : List Bool := [n.testBit 3, n.testBit 2, n.testBit 1, n.testBit 0]
def bitsOf (l : List UInt8) : List Bool := l.flatMap fun u => bits8 u.toNat
theorem bitsOf_append (l m : List UInt8) : bitsOf (l ++ m) = bitsOf l ++ bitsOf m := List.flatMap_append
theorem bitsOf_length (l : List UInt8) : (bitsOf l).length = 8 * l.length := by
  induction l with
  | nil => rfl
  | cons u l ih => 
    have : bitsOf (u :: l) = bits8 u.toNat ++ bitsOf l := rfl
    rw [this, List.length_append, ih, List.length_cons]
    have : (bits8 u.toNat).length = 8 := rfl
    omega
/-- The check of a message. -/
def crc (l : List UInt8) : V := run ones (bitsOf l) ^^^ ones
def join (a b : V) (n : Nat) : V := it S (8 * n) a ^^^ b
theorem crc_append (l m : List UInt8) : crc (l ++ m) = join (crc l) (crc m) m.length := by
  unfold crc join
  rw [bitsOf_append, run_append, run_split (run ones (bitsOf l)), run_split ones (bitsOf m), it_S_xor, bitsOf_length]
  ac_nf
  simp [← BitVec.xor_assoc]
theorem join_add (a b : V) (n m : Nat) : join a b (n + m) = join (join a 0#40 n) b m := by
  unfold join
  rw [Nat.mul_add, it_add, BitVec.xor_zero]
/-- Three messages of one length. -/
theorem crc_linear (a b c : List UInt8) (h1 : a.length = b.length) (h2 : a.length = c.length) (d : List UInt8) (hd : bitsOf d = List.zipWith (· ^^ ·) (List.zipWith (· ^^ ·) (bitsOf a) (bitsOf b)) (bitsOf c)) :
    crc d = crc a ^^^ crc b ^^^ crc c := by
  unfold crc
  have e : (ones : V) = (ones ^^^ ones) ^^^ ones := by simp
  rw [hd]
  conv => lhs; lhs; rw [e]
  rw [run_xor _ _ _ _ (by simp [bitsOf_length]; omega), run_xor _ _ _ _ (by simp [bitsOf_length]; omega)]
  generalize run ones (bitsOf a) = x
  generalize run ones (bitsOf b) = y
  generalize run ones (bitsOf c) = z
  apply BitVec.eq_of_getLsbD_eq
  intro i hi
  simp only [BitVec.getLsbD_xor]
  cases x.getLsbD i <;> cases y.getLsbD i <;> cases z.getLsbD i <;> cases ones.getLsbD i <;> rfl
/-- Messages that differ. -/
theorem crc_differ (a d : List UInt8) (l : List Bool) (hl : l.length = 8 * a.length) (hd : bitsOf d = List.zipWith (· ^^ ·) (bitsOf a) l) : crc d = crc a ↔ run 0#40 l = 0#40 := by
  unfold crc
  have e : (ones : V) = ones ^^^ 0#40 := by simp
  rw [hd]
  conv => lhs; lhs; lhs; rw [e]
  rw [run_xor _ _ _ _ (by simp [bitsOf_length]; omega)]
  constructor
  · intro h
    have h1 := congrArg (fun v => (v ^^^ ones) ^^^ run ones (bitsOf a)) h
    simp only [BitVec.xor_assoc, BitVec.xor_self, BitVec.xor_zero] at h1
    rw [← BitVec.xor_assoc, BitVec.xor_comm (run ones (bitsOf a)), BitVec.xor_assoc, BitVec.xor_self, BitVec.xor_zero] at h1
    exact h1
  · intro h; rw [h, BitVec.xor_zero]

def bit (k : Nat) : V := 1#40 <<< k
theorem bit_at (k i : Nat) (hk : k < 40) : (bit k).getLsbD i = decide (i = k) := by
  unfold bit
  rw [BitVec.getLsbD_shiftLeft, BitVec.getLsbD_one]
  by_cases h : i = k
  · subst h; simp [hk]
  · simp only [h, decide_false]
    by_cases h2 : i < k
    · simp [h2]
    · have : ¬ i - k = 0 := by omega
      simp [this]
theorem S_bit (k : Nat) (hk : k < 39) : S (bit k) = bit (k + 1) := by
  apply BitVec.eq_of_getLsbD_eq
  intro i hi
  unfold S
  rw [bit_at k 39 (by omega), bit_at (k + 1) i (by omega), show decide (39 = k) = false from by simp; omega]
  simp only [Bool.false_eq_true, if_false, BitVec.xor_zero, BitVec.getLsbD_shiftLeft]
  rw [bit_at k _ (by omega)]
  by_cases h : i = k + 1
  · subst h; simp [hi]
  · have h2 : decide (i = k + 1) = false := by simpa using h
    rw [h2]
    by_cases h3 : i = 0
    · subst h3; simp
    · have : ¬ (i - 1 = k) := by omega
      simp [this]
theorem S_top : S (bit 39) = poly := by decide
theorem T_hi (v : V) (b : Bool) : T v b = S (v ^^^ (if b then bit 39 else 0#40)) := by
  rw [S_xor, T]
  cases b
  · simp [S_zero]
  · simp only [if_true, S_top]
def pack : List Bool → Nat → V
  | [], _ => 0#40
  | b :: r, k => (if b then bit (39 - k) else 0#40) ^^^ pack r (k + 1)
theorem S_pack : ∀ (r : List Bool) (k : Nat), k + r.length < 40 → S (pack r (k + 1)) = pack r k
  | [], _, _ => S_zero
  | b :: r, k, h => by
    simp only [List.length_cons] at h
    simp only [pack]
    rw [S_xor, S_pack r (k + 1) (by omega)]
    congr 1
    cases b
    · simp [S_zero]
    · simp only [if_true]
      rw [S_bit _ (by omega)]
      congr 1
      omega
theorem run_pack : ∀ (l : List Bool) (v : V), l.length ≤ 40 → run v l = it S l.length (v ^^^ pack l 0)
  | [], v, _ => by simp [run, it, pack]
  | b :: r, v, h => by
    simp only [List.length_cons] at h
    rw [run_cons, run_pack r _ (by omega), List.length_cons]
    simp only [it, pack]
    congr 1
    rw [T_hi, ← S_pack r 0 (by omega), ← S_xor, BitVec.xor_assoc]
theorem pack_at : ∀ (l : List Bool) (k : Nat), k + l.length ≤ 40 → ∀ i, i < 40 → 39 - k < i → (pack l k).getLsbD i = false
  | [], _, _, i, _, _ => by simp [pack]
  | b :: r, k, h, i, hi, hk => by
    simp only [List.length_cons] at h
    simp only [pack]
    rw [BitVec.getLsbD_xor, pack_at r (k + 1) (by omega) i hi (by omega)]
    cases b
    · simp
    · simp only [if_true]
      rw [bit_at _ _ (by omega)]
      simp; omega
theorem pack_zero : ∀ (l : List Bool) (k : Nat), k + l.length ≤ 40 → pack l k = 0#40 → ∀ b ∈ l, b = false
  | [], _, _, _ => by simp
  | b :: r, k, h, hz => by
    simp only [List.length_cons] at h
    simp only [pack] at hz
    have hb : b = false := by
      have h1 := congrArg (fun v => v.getLsbD (39 - k)) hz
      simp only [BitVec.getLsbD_xor, BitVec.getLsbD_zero] at h1
      have h2 : (pack r (k + 1)).getLsbD (39 - k) = false := by
        rcases Nat.eq_zero_or_pos r.length with h0 | h0
        · have : r = [] := List.eq_nil_of_length_eq_zero h0
          subst this; simp [pack]
        · exact pack_at r (k + 1) (by omega) _ (by omega) (by omega)
      rw [h2] at h1
      cases b
      · rfl
      · simp only [if_true] at h1
        rw [bit_at _ _ (by omega)] at h1
        simp at h1
    subst hb
    simp only [Bool.false_eq_true, if_false, BitVec.zero_xor] at hz
    intro x hx
    rcases List.mem_cons.1 hx with h1 | h1
    · exact h1
    · exact pack_zero r (k + 1) (by omega) hz x h1
/-- A burst is seen. -/
theorem burst (k m : Nat) (p : List Bool) (hp : p.length ≤ 40) : run 0#40 (List.replicate k false ++ p ++ List.replicate m false) = 0#40 ↔ ∀ b ∈ p, b = false := by
  rw [run_append, run_append, run_false, run_false, it_S_zero, run_pack p _ hp, BitVec.zero_xor]
  constructor
  · intro h
    exact pack_zero p 0 (by omega) (it_S_inj0 _ _ (it_S_inj0 _ _ h))
  · intro h
    have : ∀ (l : List Bool) (k : Nat), (∀ b ∈ l, b = false) → pack l k = 0#40 := by
      intro l
      induction l with
      | nil => intro _ _; rfl
      | cons b r ih =>
        intro k h
        have hb := h b (by simp)
        subst hb
        simp only [pack]
        rw [ih (k + 1) (fun x hx => h x (by simp [hx]))]
        simp
    rw [this p 0 h, it_S_zero, it_S_zero]

/-! ### Multiplication -/
def hor (a b : V) : Nat → V
  | 0 => 0#40
  | n + 1 => S (hor a b n) ^^^ (if b.getLsbD (39 - n) then a else 0#40)
def mul (a b : V) : V := hor a b 40
theorem if_xor (p : Bool) (a c : V) : (if p then a ^^^ c else 0#40) = (if p then a else 0#40) ^^^ (if p then c else 0#40) := by cases p <;> simp
theorem if_xor' (p q : Bool) (a : V) : (if p ^^ q then a else 0#40) = (if p then a else 0#40) ^^^ (if q then a else 0#40) := by cases p <;> cases q <;> simp
theorem xor4 (a b c d : V) : (a ^^^ b) ^^^ (c ^^^ d) = (a ^^^ c) ^^^ (b ^^^ d) := by ac_nf
theorem hor_xor_l (a c b : V) (n : Nat) : hor (a ^^^ c) b n = hor a b n ^^^ hor c b n := by
  induction n with
  | zero => simp [hor]
  | succ n ih => simp only [hor]; rw [ih, S_xor, if_xor, xor4]
theorem hor_xor_r (a b d : V) (n : Nat) : hor a (b ^^^ d) n = hor a b n ^^^ hor a d n := by
  induction n with
  | zero => simp [hor]
  | succ n ih => simp only [hor]; rw [ih, S_xor, BitVec.getLsbD_xor, if_xor', xor4]
theorem if_S (p : Bool) (a : V) : S (if p then a else 0#40) = if p then S a else 0#40 := by cases p <;> simp [S_zero]
theorem hor_S (a b : V) (n : Nat) : hor (S a) b n = S (hor a b n) := by
  induction n with
  | zero => simp [hor, S_zero]
  | succ n ih => simp only [hor]; rw [ih, S_xor, if_S]
theorem hor_bit_lo (a : V) (k : Nat) (hk : k < 40) : ∀ n, n ≤ 39 - k → hor a (bit k) n = 0#40 := by
  intro n
  induction n with
  | zero => intro _; rfl
  | succ n ih =>
    intro h
    simp only [hor]
    rw [ih (by omega), bit_at k _ hk, show decide (39 - n = k) = false from by simp; omega]
    simp [S_zero]
theorem hor_bit_hi (a : V) (k : Nat) (hk : k < 40) : ∀ d, hor a (bit k) (40 - k + d) = it S d a ∨ 40 < 40 - k + d := by
  intro d
  induction d with
  | zero =>
    refine .inl ?_
    rw [show 40 - k + 0 = (39 - k) + 1 from by omega]
    simp only [hor]
    rw [hor_bit_lo a k hk _ (Nat.le_refl _), bit_at k _ hk, show decide (39 - (39 - k) = k) = true from by simp; omega]
    simp [S_zero, it]
  | succ d ih =>
    rcases ih with ih | ih
    · by_cases hd : 40 < 40 - k + (d + 1)
      · exact .inr hd
      · refine .inl ?_
        rw [← Nat.add_assoc]
        simp only [hor]
        rw [ih, bit_at k _ hk, show decide (39 - (40 - k + d) = k) = false from by simp; omega, it_succ]
        simp
    · exact .inr (by omega)
theorem mul_bit (a : V) (k : Nat) (hk : k < 40) : mul a (bit k) = it S k a := by
  rcases hor_bit_hi a k hk k with h | h
  · unfold mul; rw [← h]; congr 1; omega
  · omega
theorem mul_xor_l (a c b : V) : mul (a ^^^ c) b = mul a b ^^^ mul c b := hor_xor_l a c b 40
theorem mul_xor_r (a b d : V) : mul a (b ^^^ d) = mul a b ^^^ mul a d := hor_xor_r a b d 40
theorem mul_S (a b : V) : mul (S a) b = S (mul a b) := hor_S a b 40
theorem mul_itS (n : Nat) (a b : V) : mul (it S n a) b = it S n (mul a b) := by
  induction n generalizing a with
  | zero => rfl
  | succ n ih => simp only [it]; rw [ih, mul_S]
/-- Two linear functions that agree at the bits. -/
theorem lin_ext (f g : V → V) (hf : ∀ a b, f (a ^^^ b) = f a ^^^ f b) (hg : ∀ a b, g (a ^^^ b) = g a ^^^ g b) (h : ∀ k, k < 40 → f (bit k) = g (bit k)) : ∀ a, f a = g a := by
  have z : ∀ f : V → V, (∀ a b, f (a ^^^ b) = f a ^^^ f b) → f 0#40 = 0#40 := by
    intro f hf
    have h1 := hf 0#40 0#40
    simp only [BitVec.xor_self] at h1
    exact h1
  have key : ∀ n, n ≤ 40 → ∀ a : V, (∀ i, n ≤ i → a.getLsbD i = false) → f a = g a := by
    intro n
    induction n with
    | zero =>
      intro _ a ha
      have : a = 0#40 := by
        apply BitVec.eq_of_getLsbD_eq
        intro i hi
        rw [ha i (by omega)]; simp
      rw [this, z f hf, z g hg]
    | succ n ih =>
      intro hn a ha
      by_cases hb : a.getLsbD n
      · have e : a = (a ^^^ bit n) ^^^ bit n := by rw [BitVec.xor_assoc, BitVec.xor_self, BitVec.xor_zero]
        rw [e, hf, hg, h n (by omega), ih (by omega) (a ^^^ bit n) (fun i hi => ?_)]
        rw [BitVec.getLsbD_xor, bit_at n i (by omega)]
        by_cases hin : i = n
        · subst hin; simp [hb]
        · rw [ha i (by omega)]; simpa using hin
      · exact ih (by omega) a (fun i hi => by
          by_cases hin : i = n
          · subst hin; simpa using hb
          · exact ha i (by omega))
  intro a
  exact key 40 (Nat.le_refl _) a (fun i hi => BitVec.getLsbD_of_ge a i hi)
theorem it_S_bit : ∀ k, k < 40 → it S k (bit 0) = bit k
  | 0, _ => rfl
  | k + 1, h => by rw [it_succ, it_S_bit k (by omega), S_bit k (by omega)]
theorem one_mul (b : V) : mul (bit 0) b = b :=
  lin_ext (fun b => mul (bit 0) b) id (fun a b => mul_xor_r _ a b) (fun _ _ => rfl) (fun k hk => by show mul (bit 0) (bit k) = bit k; rw [mul_bit _ k hk, it_S_bit k hk]) b
theorem mul_poly (a : V) : mul a poly = it S 40 a :=
  lin_ext (fun a => mul a poly) (it S 40) (fun a b => mul_xor_l a b poly) (fun a b => it_S_xor 40 a b) (fun k hk => by
    show mul (bit k) poly = it S 40 (bit k)
    have h40 : it S (39 + 1) (bit 0) = poly := by rw [it_succ, it_S_bit 39 (by omega), S_top]
    rw [← it_S_bit k hk, mul_itS, one_mul, ← it_add, Nat.add_comm, it_add]
    exact congrArg (it S k) h40.symm) a
theorem mul_S_r (a b : V) : mul a (S b) = S (mul a b) :=
  lin_ext (fun b => mul a (S b)) (fun b => S (mul a b)) (fun x y => by simp only [S_xor, mul_xor_r]) (fun x y => by simp only [S_xor, mul_xor_r]) (fun k hk => by
    show mul a (S (bit k)) = S (mul a (bit k))
    by_cases h : k = 39
    · subst h
      rw [S_top, mul_poly, mul_bit a 39 (by omega)]
      exact it_succ S 39 a
    · rw [S_bit k (by omega), mul_bit a k hk, mul_bit a (k + 1) (by omega), it_succ]) b
theorem mul_itS_r (n : Nat) (a b : V) : mul a (it S n b) = it S n (mul a b) := by
  induction n generalizing b with
  | zero => rfl
  | succ n ih => simp only [it]; rw [ih, mul_S_r]
theorem mul_one (a : V) : mul a (bit 0) = a := mul_bit a 0 (by omega)
/-- x^n. -/
def X (n : Nat) : V := it S n (bit 0)
theorem mul_X (a : V) (n : Nat) : mul a (X n) = it S n a := by unfold X; rw [mul_itS_r, mul_one]
theorem X_X (n : Nat) : mul (X n) (X n) = X (2 * n) := by
  rw [mul_X]; unfold X; rw [← it_add]; congr 1; omega
theorem X_8 : X 8 = 256#40 := by unfold X; rw [it_S_bit 8 (by omega)]; rfl
end Crc
end Go.Proofs.YtafehbnnoncieaaDoor
