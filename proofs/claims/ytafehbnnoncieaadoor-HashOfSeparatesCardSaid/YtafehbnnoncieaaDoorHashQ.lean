/-
  The specification's small functions: words, lists of strings, exclusive or. Conditions: none.
-/
import Derived.Test.YtafehbnnoncieaaDoorHashC
import Derived.Test.YtafehbnnoncieaaDoorHashO
import Derived.Test.YtafehbnnoncieaaDoorCrcQ
namespace Go.Proofs.YtafehbnnoncieaaDoor
open Go.RowKit
theorem five_val (n : Int) (k : Nat) : Value.int .u8 (n / 2 ^ (32 - 8 * k) % 256) = bv (Crc.fiveAt n k) := by
  unfold Crc.fiveAt
  rw [bv_ofNat _ (by omega)]
  congr 1
  omega
theorem five_snoc (n : Int) (k : Nat) : (List.range (k + 1)).map (Crc.fiveAt n) = (List.range k).map (Crc.fiveAt n) ++ [Crc.fiveAt n k] := by
  rw [List.range_succ, List.map_append]; rfl
set_option maxHeartbeats 1000000 in
set_option maxRecDepth 100000 in
theorem ref_Five (n : Int) (w : World) :
    Calls Tryd.prog 42 #[.int .i64 n] w (Made (Crc.five n) w) := by
  go_enter Tryd.func42, Tryd.ntmps42
  go_wp2
  go_loopw [3, 4] (fun u3 u4 wr => ∃ k : Nat, k ≤ 5 ∧ u4 = .int .i64 k ∧ wr.ownsRow w.heap.size 5 1 u3 k (((List.range k).map (Crc.fiveAt n)).map bv) ∧ Below w.heap.size w wr) (fun _ u4 _ => 5 - (intOf u4).toNat)
  case atStart => exact ⟨0, by omega, rfl, World.ownsRow_nil _ _ _ _, Below.refl _ _⟩
  case round =>
    obtain ⟨k, hk, rfl, hown, hb⟩ := hrel
    by_cases hlt : k < 5
    · have hv := Lib.hid (five_val n k)
      have hs := Lib.hid (five_snoc n k)
      go_wp2_with (at_builtin; refine wpList_append_one _ rfl _ _ _ rfl elBytes w.heap.size _ _ _ rfl hown _ rfl rfl (by omega) (by omega) hb.size w w.heap.size hb (Nat.le_refl _) ?_)
      intro v' w' hown' hb'
      rw [hv.out] at hown'
      have hown2 : w'.ownsRow w.heap.size 5 1 v' (k + 1) (((List.range (k + 1)).map (Crc.fiveAt n)).map bv) := by rw [hs.out]; simpa using hown'
      clear hown' hown
      go_wp2_with fail
      go_roundw
      case rel => exact ⟨k + 1, by omega, by go_num, hown2, hb'⟩
      case measure => go_light; simp [intOf]; omega
    · obtain rfl : k = 5 := by omega
      go_wp2_with fail
      go_ret
      exact ⟨_, rfl, by simpa [Crc.five] using hown, hb⟩
theorem words_take (l : List Int) (k : Nat) (n : Int) (h : l[k]? = some n) : Crc.words (l.take (k + 1)) = Crc.words (l.take k) ++ Crc.five n := by
  unfold Crc.words
  rw [List.take_add_one, h]; simp
set_option maxHeartbeats 1000000 in
set_option maxRecDepth 100000 in
theorem ref_WBytes (l : List Int) (x : Value) (w : World) (hl : Sl w x 1 l.length (l.map iv)) (hg : ∀ n ∈ l, I64 n) (hn : l.length ≤ 1000000) :
    Calls Tryd.prog 25 #[x] w (Made (Crc.words l) w) := by
  obtain ⟨A, c, rfl, hnc, hcm, hr⟩ := hl
  unfold maxLen at hcm
  go_enter Tryd.func25, Tryd.ntmps25
  go_wp2_with fail
  go_loopw [3, 4] (fun u3 u4 wr => ∃ k : Nat, k ≤ l.length ∧ u4 = .int .i64 k ∧ wr.ownsRow w.heap.size 5 1 u3 (Crc.words (l.take k)).length ((Crc.words (l.take k)).map bv) ∧ Below w.heap.size w wr) (fun _ u4 _ => l.length - (intOf u4).toNat)
  case atStart => exact ⟨0, Nat.zero_le _, rfl, World.ownsRow_nil _ _ _ _, Below.refl _ _⟩
  case round =>
    obtain ⟨k, hk, rfl, hown, hb⟩ := hrel
    by_cases hlt : k < l.length
    · obtain ⟨ad, n, rfl, hab, hx, hc⟩ := (hr.below hb).elem hlt rfl
      obtain ⟨g1, g2⟩ := hg n (List.mem_of_getElem? hx)
      have HW := Lib.hid (words_take l k n hx)
      have hlen := Crc.words_length (l.take k)
      rw [List.length_take] at hlen
      have hlen2 : (Crc.words (l.take k)).length ≤ 5000000 := by omega
      unfold iv at hc
      clear hx hg hlen
      have hsz := hb.size
      go_wp2_with fail
      refine (ref_Five n _).mono ?_
      rintro e w1 ⟨v1, rfl, hown1, hb1⟩
      have hl5 : (Crc.five n).length = 5 := by simp [Crc.five]
      have hsl := Sl.of_own hown1
      go_wp2_with (at_builtin; refine wpList_append_all _ rfl _ _ _ rfl elBytes w.heap.size _ _ _ rfl (own_below hown hb1) _ _ _ rfl hsl (bvs_one _) (by omega) (by omega) (Nat.le_trans hsz hb1.size) w w.heap.size (hb.trans (hb1.mono hsz)) (Nat.le_refl _) ?_)
      intro v2 w2 hown2 hb2
      have hown3 : w2.ownsRow w.heap.size 5 1 v2 (Crc.words (l.take (k + 1))).length ((Crc.words (l.take (k + 1))).map bv) := by rw [HW.out, List.length_append, List.map_append]; exact hown2
      clear hown2 hown hown1 hsl hb hb1 hl5
      go_wp2_with fail
      go_roundw
      case rel => exact ⟨k + 1, hlt, by go_num, hown3, hb2⟩
      case measure => go_light; simp [intOf]; omega
    · obtain rfl : k = l.length := by omega
      rw [List.take_length] at hown
      go_wp2_with fail
      go_ret
      exact ⟨_, rfl, hown, hb⟩
set_option maxHeartbeats 400000 in
theorem ref_Words (l : List Int) (x : Value) (w : World) (hl : Sl w x 1 l.length (l.map iv)) (hg : ∀ n ∈ l, I64 n) (hn : l.length ≤ 1000000) :
    Calls Tryd.prog 24 #[x] w fun e w' => e = .returned (crcVal (Crc.words l)) ∧ Below w.heap.size w w' := by
  go_enter Tryd.func24, Tryd.ntmps24
  go_wp2_with fail
  refine (ref_WBytes l x _ hl hg hn).mono ?_
  rintro e w1 ⟨v1, rfl, hown1, hb1⟩
  go_wp2_with fail
  refine (ref_Crc40 _ _ _ (Sl.of_own hown1)).mono ?_
  rintro e w2 ⟨rfl, rfl⟩
  go_wp2_with fail
  go_ret
  exact ⟨rfl, hb1⟩

/-- At most 12 strings of at most 400 bytes. -/
def fewB (l : List ByteArray) : Bool := decide (l.length ≤ 12) && l.all fun s => decide (s.size ≤ 400)
theorem fewB_iff (l : List ByteArray) : fewB l = true ↔ l.length ≤ 12 ∧ ∀ s ∈ l, s.size ≤ 400 := by
  simp [fewB]
set_option maxHeartbeats 400000 in
set_option maxRecDepth 100000 in
theorem ref_Few (l : List ByteArray) (x : Value) (w : World) (hl : Sl w x 1 l.length (l.map Value.string)) :
    Calls Tryd.prog 18 #[x] w fun e w' => e = .returned (.bool (fewB l)) ∧ w = w' := by
  obtain ⟨A, c, rfl, hnc, hcm, hr⟩ := hl
  unfold maxLen at hcm
  by_cases h12 : l.length ≤ 12
  · go_enter Tryd.func18, Tryd.ntmps18
    go_wp2_with fail
    go_loop [3] (fun u3 => ∃ k : Nat, k ≤ l.length ∧ u3 = .int .i64 k ∧ ∀ s ∈ l.take k, s.size ≤ 400) (fun u3 => l.length - (intOf u3).toNat)
    case atStart => exact ⟨0, Nat.zero_le _, rfl, by simp⟩
    case round =>
      obtain ⟨k, hk, rfl, ha⟩ := hrel
      have HA := Lib.hid ha
      clear ha
      by_cases hlt : k < l.length
      · obtain ⟨ad, s, rfl, hab, hx, hc⟩ := hr.elem hlt rfl
        have HX := Lib.hid hx
        clear hx
        by_cases h4 : s.size ≤ 400
        · go_wp2_with fail
          go_round
          case rel =>
            refine ⟨k + 1, hlt, by go_num, fun t ht => ?_⟩
            rw [List.take_add_one, HX.out] at ht
            rcases List.mem_append.1 ht with ht | ht
            · exact HA.out t ht
            · obtain rfl : t = s := by simpa using ht
              exact h4
          case measure => go_light; simp [intOf]; omega
        · have hf : fewB l = false := by
            rw [← Bool.not_eq_true, fewB_iff]
            exact fun h => h4 (h.2 s (List.mem_of_getElem? HX.out))
          have HF := Lib.hid hf
          clear hf
          go_wp2_with fail
          go_ret
          exact ⟨by rw [HF.out]; rfl, rfl⟩
      · obtain rfl : k = l.length := by omega
        have hf : fewB l = true := by
          rw [fewB_iff]
          exact ⟨h12, fun s hs => HA.out s (by rw [List.take_length]; exact hs)⟩
        have HF := Lib.hid hf
        clear hf
        go_wp2_with fail
        go_ret
        exact ⟨by rw [HF.out]; rfl, rfl⟩
  · have hf : fewB l = false := by
      rw [← Bool.not_eq_true, fewB_iff]
      exact fun h => h12 h.1
    have HF := Lib.hid hf
    clear hf
    go_enter Tryd.func18, Tryd.ntmps18
    go_wp2_with fail
    go_ret
    exact ⟨by rw [HF.out]; rfl, rfl⟩

theorem ba_append (l : List UInt8) (s : ByteArray) : (⟨l.toArray⟩ ++ s : ByteArray) = ⟨(l ++ s.data.toList).toArray⟩ := by
  apply ByteArray.ext
  simp [ByteArray.data_append]
/-- The concatenation of strings. -/
def joined (l : List ByteArray) : List UInt8 := l.flatMap fun s => s.data.toList
theorem joined_snoc (l : List ByteArray) (k : Nat) (s : ByteArray) (h : l[k]? = some s) : joined (l.take (k + 1)) = joined (l.take k) ++ s.data.toList := by
  unfold joined
  rw [List.take_add_one, h]; simp
theorem joined_len (l : List ByteArray) (h : ∀ s ∈ l, s.size ≤ 400) : (joined l).length ≤ 400 * l.length := by
  induction l with
  | nil => simp [joined]
  | cons s l ih =>
    have h1 := ih (fun x hx => h x (List.mem_cons_of_mem _ hx))
    have h2 := h s (List.mem_cons_self ..)
    have h3 : s.data.toList.length = s.size := by rw [Array.length_toList]; rfl
    simp only [joined, List.flatMap_cons, List.length_append, List.length_cons] at h1 ⊢
    omega
set_option maxHeartbeats 400000 in
set_option maxRecDepth 100000 in
theorem ref_Joined (l : List ByteArray) (x : Value) (w : World) (hl : Sl w x 1 l.length (l.map Value.string)) (hn : l.length ≤ 12) (hb : ∀ s ∈ l, s.size ≤ 400) :
    Calls Tryd.prog 21 #[x] w fun e w' => e = .returned (.string ⟨(joined l).toArray⟩) ∧ w = w' := by
  obtain ⟨A, c, rfl, hnc, hcm, hr⟩ := hl
  unfold maxLen at hcm
  go_enter Tryd.func21, Tryd.ntmps21
  go_wp2_with fail
  go_loop [3, 4] (fun u3 u4 => ∃ k : Nat, k ≤ l.length ∧ u4 = .int .i64 k ∧ u3 = .string ⟨(joined (l.take k)).toArray⟩) (fun _ u4 => l.length - (intOf u4).toNat)
  case atStart => exact ⟨0, Nat.zero_le _, rfl, rfl⟩
  case round =>
    obtain ⟨k, hk, rfl, rfl⟩ := hrel
    by_cases hlt : k < l.length
    · obtain ⟨ad, s, rfl, hab, hx, hc⟩ := hr.elem hlt rfl
      have hs := hb s (List.mem_of_getElem? hx)
      have hj := joined_len (l.take k) (fun t ht => hb t (List.mem_of_mem_take ht))
      rw [List.length_take] at hj
      have HS := Lib.hid (joined_snoc l k s hx)
      have hlen : (⟨(joined (l.take k)).toArray⟩ : ByteArray).size ≤ 4800 := by rw [ba_size]; omega
      clear hj hx hb
      go_wp2_with fail
      go_round
      case rel => exact ⟨k + 1, hlt, by go_num, by rw [HS.out, ← ba_append]⟩
      case measure => go_light; simp [intOf]; omega
    · obtain rfl : k = l.length := by omega
      rw [List.take_length]
      go_wp2_with fail
      go_ret
      exact ⟨rfl, rfl⟩
end Go.Proofs.YtafehbnnoncieaaDoor
