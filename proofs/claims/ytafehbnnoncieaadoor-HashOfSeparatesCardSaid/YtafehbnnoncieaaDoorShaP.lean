/-
  The hash of 256 bits, in plain words, and its values at two messages. Conditions: none.
-/
import Derived.Lib.Hide
namespace Go.Proofs.YtafehbnnoncieaaDoor
namespace Sha
abbrev W := BitVec 32
def rotr (x : W) (n : Nat) : W := (x >>> n) ||| (x <<< (32 - n))
def ks : List Nat := [
  0x428a2f98, 0x71374491, 0xb5c0fbcf, 0xe9b5dba5, 0x3956c25b, 0x59f111f1, 0x923f82a4, 0xab1c5ed5,
  0xd807aa98, 0x12835b01, 0x243185be, 0x550c7dc3, 0x72be5d74, 0x80deb1fe, 0x9bdc06a7, 0xc19bf174,
  0xe49b69c1, 0xefbe4786, 0x0fc19dc6, 0x240ca1cc, 0x2de92c6f, 0x4a7484aa, 0x5cb0a9dc, 0x76f988da,
  0x983e5152, 0xa831c66d, 0xb00327c8, 0xbf597fc7, 0xc6e00bf3, 0xd5a79147, 0x06ca6351, 0x14292967,
  0x27b70a85, 0x2e1b2138, 0x4d2c6dfc, 0x53380d13, 0x650a7354, 0x766a0abb, 0x81c2c92e, 0x92722c85,
  0xa2bfe8a1, 0xa81a664b, 0xc24b8b70, 0xc76c51a3, 0xd192e819, 0xd6990624, 0xf40e3585, 0x106aa070,
  0x19a4c116, 0x1e376c08, 0x2748774c, 0x34b0bcb5, 0x391c0cb3, 0x4ed8aa4a, 0x5b9cca4f, 0x682e6ff3,
  0x748f82ee, 0x78a5636f, 0x84c87814, 0x8cc70208, 0x90befffa, 0xa4506ceb, 0xbef9a3f7, 0xc67178f2]
structure St where
  a : W
  b : W
  c : W
  d : W
  e : W
  f : W
  g : W
  h : W
def St.add (s t : St) : St := ⟨s.a + t.a, s.b + t.b, s.c + t.c, s.d + t.d, s.e + t.e, s.f + t.f, s.g + t.g, s.h + t.h⟩
def St.toList (s : St) : List W := [s.a, s.b, s.c, s.d, s.e, s.f, s.g, s.h]
def init : St := ⟨0x6a09e667#32, 0xbb67ae85#32, 0x3c6ef372#32, 0xa54ff53a#32, 0x510e527f#32, 0x9b05688c#32, 0x1f83d9ab#32, 0x5be0cd19#32⟩
def mix (x : W) (i j k : Nat) : W := rotr x i ^^^ rotr x j ^^^ rotr x k
def round (s : St) (k w : W) : St :=
  let x := s.h + mix s.e 6 11 25 + ((s.e &&& s.f) ^^^ ((~~~ s.e) &&& s.g)) + k + w
  let y := mix s.a 2 13 22 + ((s.a &&& s.b) ^^^ (s.a &&& s.c) ^^^ (s.b &&& s.c))
  ⟨x + y, s.a, s.b, s.c, s.d + x, s.e, s.f, s.g⟩
def byteAt (b : List UInt8) (i : Nat) : W := BitVec.ofNat 32 (b.getD i 0).toNat
def word (b : List UInt8) (t : Nat) : W := ((((((byteAt b (4 * t)) <<< 8) ||| byteAt b (4 * t + 1)) <<< 8) ||| byteAt b (4 * t + 2)) <<< 8) ||| byteAt b (4 * t + 3)
def s0 (p : W) : W := rotr p 7 ^^^ rotr p 18 ^^^ (p >>> 3)
def s1 (q : W) : W := rotr q 17 ^^^ rotr q 19 ^^^ (q >>> 10)
/-- w(t), out of the list w(t-1), w(t-2), .. -/
def nextW (b : List UInt8) (t : Nat) (r : List W) : W :=
  if t < 16 then word b t else r.getD 15 0#32 + s0 (r.getD 14 0#32) + r.getD 6 0#32 + s1 (r.getD 1 0#32)
def revW (b : List UInt8) : Nat → List W
  | 0 => []
  | t + 1 => nextW b t (revW b t) :: revW b t
def wAt (b : List UInt8) (t : Nat) : W := nextW b t (revW b t)
def rounds (b : List UInt8) (s : St) : Nat → St
  | 0 => s
  | t + 1 => round (rounds b s t) (BitVec.ofNat 32 (ks.getD t 0)) (wAt b t)
def compress (s : St) (b : List UInt8) : St := s.add (rounds b s 64)
def feed : Nat → St → List UInt8 → St
  | 0, s, _ => s
  | n + 1, s, l => feed n (compress s (l.take 64)) (l.drop 64)
def len8 (n : Nat) : List UInt8 := (List.range 8).map fun i => UInt8.ofNat (n >>> (56 - 8 * i) % 256)
def zeros (n : Nat) : Nat := (119 - n % 64) % 64
def pad (l : List UInt8) : List UInt8 := l ++ 128 :: (List.replicate (zeros l.length) 0 ++ len8 (8 * l.length % 18446744073709551616))
def bytesOf (w : W) : List UInt8 := (List.range 4).map fun i => UInt8.ofNat ((w.toNat >>> (24 - 8 * i)) % 256)
def out (s : St) : List UInt8 := s.toList.flatMap bytesOf
def sha (l : List UInt8) : List UInt8 := out (feed ((pad l).length / 64) init (pad l))

/-! ### The same, each word reckoned as it comes -/
def frc {α : Type} (x : W) (f : W → α) : α := match x.toNat with
  | 0 => f 0#32
  | n + 1 => f (BitVec.ofNat 32 (n + 1))
theorem frc_eq {α : Type} (x : W) (f : W → α) : frc x f = f x := by
  have h : ∀ n, x.toNat = n → (match n with | 0 => f 0#32 | n + 1 => f (BitVec.ofNat 32 (n + 1))) = f x := by
    intro n hn
    have hx : x = BitVec.ofNat 32 n := by rw [← hn]; simp
    cases n with
    | zero => rw [hx]
    | succ n => rw [hx]
  exact h _ rfl
def loopW {α : Type} (b : List UInt8) : Nat → Nat → List W → (List W → α) → α
  | 0, _, r, k => k r
  | n + 1, t, r, k => frc (nextW b t r) fun x => loopW b n (t + 1) (x :: r) k
theorem loopW_eq {α : Type} (b : List UInt8) (k : List W → α) : ∀ n t, loopW b n t (revW b t) k = k (revW b (t + n))
  | 0, _ => rfl
  | n + 1, t => by
    simp only [loopW]
    rw [frc_eq, show nextW b t (revW b t) :: revW b t = revW b (t + 1) from rfl, loopW_eq b k n (t + 1), Nat.add_assoc, Nat.add_comm 1 n]
def loopR {α : Type} : List (Nat × W) → St → (St → α) → α
  | [], s, k => k s
  | (kk, w) :: l, s, k =>
    frc (s.h + mix s.e 6 11 25 + ((s.e &&& s.f) ^^^ ((~~~ s.e) &&& s.g)) + BitVec.ofNat 32 kk + w) fun x =>
    frc (x + (mix s.a 2 13 22 + ((s.a &&& s.b) ^^^ (s.a &&& s.c) ^^^ (s.b &&& s.c)))) fun a' => frc (s.d + x) fun e' => loopR l ⟨a', s.a, s.b, s.c, e', s.e, s.f, s.g⟩ k
theorem loopR_eq {α : Type} (k : St → α) : ∀ (l : List (Nat × W)) (s : St), loopR l s k = k (l.foldl (fun s p => round s (BitVec.ofNat 32 p.1) p.2) s)
  | [], _ => rfl
  | (kk, w) :: l, s => by
    simp only [loopR, frc_eq]
    rw [loopR_eq k l]
    rfl
theorem revW_length (b : List UInt8) : ∀ n, (revW b n).length = n
  | 0 => rfl
  | n + 1 => by simp [revW, revW_length b n]
theorem revW_rev (b : List UInt8) : ∀ n, (revW b n).reverse = (List.range n).map (wAt b)
  | 0 => rfl
  | n + 1 => by rw [List.range_succ, List.map_append, ← revW_rev b n]; simp [revW, wAt]
theorem rounds_fold (b : List UInt8) (s : St) : ∀ n, rounds b s n = ((List.range n).map fun t => (ks.getD t 0, wAt b t)).foldl (fun s p => round s (BitVec.ofNat 32 p.1) p.2) s
  | 0 => rfl
  | n + 1 => by rw [List.range_succ, List.map_append, List.foldl_append, ← rounds_fold b s n]; rfl
theorem zip_ks (l : List W) (h : l.length = 64) : ks.zip l = (List.range 64).map fun t => (ks.getD t 0, l.getD t 0#32) := by
  apply List.ext_getElem
  · simp [ks, h]
  · intro i h1 h2
    simp only [List.length_map, List.length_range] at h2
    have hk : ks.length = 64 := rfl
    simp [List.getElem?_eq_getElem (show i < ks.length by omega), List.getElem?_eq_getElem (show i < l.length by omega)]
def compressF {α : Type} (s : St) (b : List UInt8) (k : St → α) : α :=
  loopW b 64 0 [] fun r => loopR (ks.zip r.reverse) s fun t => frc (s.a + t.a) fun x0 => frc (s.b + t.b) fun x1 => frc (s.c + t.c) fun x2 => frc (s.d + t.d) fun x3 =>
    frc (s.e + t.e) fun x4 => frc (s.f + t.f) fun x5 => frc (s.g + t.g) fun x6 => frc (s.h + t.h) fun x7 => k ⟨x0, x1, x2, x3, x4, x5, x6, x7⟩
theorem compressF_eq {α : Type} (s : St) (b : List UInt8) (k : St → α) : compressF s b k = k (compress s b) := by
  unfold compressF
  have h0 := loopW_eq b (fun r => loopR (ks.zip r.reverse) s fun t => frc (s.a + t.a) fun x0 => frc (s.b + t.b) fun x1 => frc (s.c + t.c) fun x2 => frc (s.d + t.d) fun x3 =>
    frc (s.e + t.e) fun x4 => frc (s.f + t.f) fun x5 => frc (s.g + t.g) fun x6 => frc (s.h + t.h) fun x7 => k ⟨x0, x1, x2, x3, x4, x5, x6, x7⟩) 64 0
  rw [show revW b 0 = [] from rfl] at h0
  rw [h0, loopR_eq]
  simp only [frc_eq]
  have h1 : (ks.zip (revW b (0 + 64)).reverse).foldl (fun s p => round s (BitVec.ofNat 32 p.1) p.2) s = rounds b s 64 := by
    rw [rounds_fold, zip_ks _ (by simp [revW_length])]
    congr 1
  rw [h1]
  rfl
def feedF : Nat → St → List UInt8 → (St → Bool) → Bool
  | 0, s, _, k => k s
  | n + 1, s, l, k => compressF s (l.take 64) fun s' => feedF n s' (l.drop 64) k
theorem feedF_eq (k : St → Bool) : ∀ (n : Nat) (s : St) (l : List UInt8), feedF n s l k = k (feed n s l)
  | 0, _, _ => rfl
  | n + 1, s, l => by simp only [feedF, compressF_eq, feed]; exact feedF_eq k n _ _
theorem sha_of {l m : List UInt8} (n : Nat) (hn : (pad l).length / 64 = n) (h : feedF n init (pad l) (fun s => decide (out s = m)) = true) : sha l = m := by
  rw [feedF_eq] at h
  unfold sha
  rw [hn]
  exact of_decide_eq_true h
set_option maxRecDepth 100000
theorem sha_1 : sha [1] = [0x4b, 0xf5, 0x12, 0x2f, 0x34, 0x45, 0x54, 0xc5, 0x3b, 0xde, 0x2e, 0xbb, 0x8c, 0xd2, 0xb7, 0xe3, 0xd1, 0x60, 0x0a, 0xd6, 0x31, 0xc3, 0x85, 0xa5, 0xd7, 0xcc, 0xe2, 0x3c, 0x77, 0x85, 0x45, 0x9a] := sha_of 1 (by decide +kernel) (by decide +kernel)
theorem sha_abc : (sha [97, 98, 99]) = [0xba, 0x78, 0x16, 0xbf, 0x8f, 0x01, 0xcf, 0xea, 0x41, 0x41, 0x40, 0xde, 0x5d, 0xae, 0x22, 0x23, 0xb0, 0x03, 0x61, 0xa3, 0x96, 0x17, 0x7a, 0x9c, 0xb4, 0x10, 0xff, 0x61, 0xf2, 0x00, 0x15, 0xad] := sha_of 1 (by decide +kernel) (by decide +kernel)
end Sha
end Go.Proofs.YtafehbnnoncieaaDoor
