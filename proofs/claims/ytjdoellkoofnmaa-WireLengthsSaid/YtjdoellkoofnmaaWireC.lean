/-
  The encoders of lists. Conditions: none.
-/
import Derived.Test.YtjdoellkoofnmaaWireB
namespace Go.Proofs.Ytjdoellkoofnmaa
open Go.RowKit
def iv (n : Int) : Value := .int .i64 n
def encInts (l : List Int) : List UInt8 := encInt l.length ++ l.flatMap encInt
def encStrings (l : List ByteArray) : List UInt8 := encInt l.length ++ l.flatMap encBytes
def I64 (n : Int) : Prop := -9223372036854775808 ≤ n ∧ n ≤ 9223372036854775807

theorem take_flat {α : Type} (f : α → List UInt8) (l : List α) (k : Nat) (x : α) (h : l[k]? = some x) : (l.take (k + 1)).flatMap f = (l.take k).flatMap f ++ f x := by
  rw [List.take_add_one, h]; simp
theorem flat_le {α : Type} (f : α → List UInt8) (l : List α) (k : Nat) : ((l.take k).flatMap f).length ≤ (l.flatMap f).length := by
  conv => rhs; rw [← List.take_append_drop k l]
  rw [List.flatMap_append]; simp

/-- The relation of the loops over a list: out is a row of the call's own with what has been encoded so far. -/
def ListRel {α : Type} (f : α → List UInt8) (l : List α) (w : World) (out i : Value) (wr : World) : Prop :=
  ∃ k : Nat, k ≤ l.length ∧ i = .int .i64 (k : Int) ∧
    wr.ownsRow w.heap.size 5 1 out (encInt l.length ++ (l.take k).flatMap f).length ((encInt l.length ++ (l.take k).flatMap f).map bv) ∧ Below w.heap.size w wr

theorem encBytes_len (s : ByteArray) : (encBytes s).length = (encInt s.size).length + s.size := by simp [encBytes]
set_option maxHeartbeats 400000 in
theorem list_int (l : List Int) (v : Value) (w : World) (hl : Sl w v 1 l.length (l.map iv)) (hi : ∀ n ∈ l, I64 n) (hs : (encInts l).length ≤ 140737488355000) (hn : l.length ≤ 140737488355328) :
    Calls Try.prog 38 #[v, .func (.func 14) #[] #[]] w (Made (encInts l) w) := by
  obtain ⟨A, c, rfl, hnc, hcm, hr⟩ := hl
  unfold maxLen at hcm
  go_enter Try.func38, Try.ntmps38
  go_wp2_with fail
  refine (wire_Int _ _ (by omega) (by omega)).mono ?_
  rintro e w1 ⟨v, rfl, hown, hb⟩
  go_wp2_with fail
  go_loopw [5, 13] (ListRel encInt l w) (fun _ i _ => l.length - (intOf i).toNat)
  case atStart => exact ⟨0, Nat.zero_le _, rfl, by simpa using hown, hb⟩
  case round =>
    obtain ⟨k, hk, rfl, hown, hb⟩ := hrel
    have hr1 := hr.below hb
    by_cases hlt : k < l.length
    · obtain ⟨ad, x, rfl, hab, hx, hc⟩ := hr1.elem hlt rfl
      unfold iv at hc
      have hle := flat_le encInt l (k + 1)
      have hst := take_flat encInt l k x hx
      have hsz : (encInt l.length ++ (l.take k).flatMap encInt).length + (encInt x).length ≤ 140737488355000 := by
        rw [hst] at hle
        simp only [encInts, List.length_append] at hs hle ⊢
        omega
      have hxm := hi x (List.mem_of_getElem? hx)
      have HX := Lib.hid hx
      clear hx hst hle
      go_wp2_with fail
      refine (wire_Int _ _ hxm.1 hxm.2).mono ?_
      rintro e w2 ⟨v2, rfl, hown2, hb2⟩
      go_wp2_with (at_builtin; refine wpList_append_all _ rfl _ _ _ rfl elBytes w.heap.size _ _ _ rfl (own_below hown hb2) _ _ _ rfl (Sl.of_own hown2) (bvs_one _) (by omega) (by omega) (hb.trans (hb2.mono hb.size)).size w w.heap.size (hb.trans (hb2.mono hb.size)) (Nat.le_refl _) ?_; intro v' w' hown' hb')
      go_roundw
      case rel => exact ⟨k + 1, hlt, by go_num, by rw [take_flat encInt l k x HX.out, ← List.append_assoc, List.length_append, List.map_append]; exact hown', hb'⟩
      case measure => simp [intOf]; omega
    · obtain rfl : k = l.length := by omega
      go_wp2
      go_ret
      rw [List.take_length] at hown
      exact ⟨_, rfl, hown, hb⟩

set_option maxHeartbeats 400000 in
theorem ref_Ints (l : List Int) (v : Value) (w : World) (hl : Sl w v 1 l.length (l.map iv)) (hi : ∀ n ∈ l, I64 n) (hs : (encInts l).length ≤ 140737488355000) (hn : l.length ≤ 140737488355328) :
    Calls Try.prog 19 #[v] w (Made (encInts l) w) := by
  obtain ⟨A, c, rfl, hnc, hcm, hr⟩ := hl
  unfold maxLen at hcm
  go_enter Try.func19, Try.ntmps19
  go_wp2_with fail
  refine (ref_Int _ _ (by omega) (by omega)).mono ?_
  rintro e w1 ⟨v, rfl, hown, hb⟩
  go_wp2_with fail
  go_loopw [3, 4] (ListRel encInt l w) (fun _ i _ => l.length - (intOf i).toNat)
  case atStart => exact ⟨0, Nat.zero_le _, rfl, by simpa using hown, hb⟩
  case round =>
    obtain ⟨k, hk, rfl, hown, hb⟩ := hrel
    have hr1 := hr.below hb
    by_cases hlt : k < l.length
    · obtain ⟨ad, x, rfl, hab, hx, hc⟩ := hr1.elem hlt rfl
      unfold iv at hc
      have hle := flat_le encInt l (k + 1)
      have hst := take_flat encInt l k x hx
      have hsz : (encInt l.length ++ (l.take k).flatMap encInt).length + (encInt x).length ≤ 140737488355000 := by
        rw [hst] at hle
        simp only [encInts, List.length_append] at hs hle ⊢
        omega
      have hxm := hi x (List.mem_of_getElem? hx)
      have HX := Lib.hid hx
      clear hx hst hle
      go_wp2_with fail
      refine (ref_Int _ _ hxm.1 hxm.2).mono ?_
      rintro e w2 ⟨v2, rfl, hown2, hb2⟩
      go_wp2_with (at_builtin; refine wpList_append_all _ rfl _ _ _ rfl elBytes w.heap.size _ _ _ rfl (own_below hown hb2) _ _ _ rfl (Sl.of_own hown2) (bvs_one _) (by omega) (by omega) (hb.trans (hb2.mono hb.size)).size w w.heap.size (hb.trans (hb2.mono hb.size)) (Nat.le_refl _) ?_; intro v' w' hown' hb')
      go_roundw
      case rel => exact ⟨k + 1, hlt, by go_num, by rw [take_flat encInt l k x HX.out, ← List.append_assoc, List.length_append, List.map_append]; exact hown', hb'⟩
      case measure => simp [intOf]; omega
    · obtain rfl : k = l.length := by omega
      go_wp2
      go_ret
      rw [List.take_length] at hown
      exact ⟨_, rfl, hown, hb⟩

set_option maxHeartbeats 400000 in
theorem list_string (l : List ByteArray) (v : Value) (w : World) (hl : Sl w v 1 l.length (l.map Value.string)) (hs : (encStrings l).length ≤ 140737488355000) (hn : l.length ≤ 140737488355328) :
    Calls Try.prog 39 #[v, .func (.func 16) #[] #[]] w (Made (encStrings l) w) := by
  obtain ⟨A, c, rfl, hnc, hcm, hr⟩ := hl
  unfold maxLen at hcm
  go_enter Try.func39, Try.ntmps39
  go_wp2_with fail
  refine (wire_Int _ _ (by omega) (by omega)).mono ?_
  rintro e w1 ⟨v, rfl, hown, hb⟩
  go_wp2_with fail
  go_loopw [5, 13] (ListRel encBytes l w) (fun _ i _ => l.length - (intOf i).toNat)
  case atStart => exact ⟨0, Nat.zero_le _, rfl, by simpa using hown, hb⟩
  case round =>
    obtain ⟨k, hk, rfl, hown, hb⟩ := hrel
    have hr1 := hr.below hb
    by_cases hlt : k < l.length
    · obtain ⟨ad, x, rfl, hab, hx, hc⟩ := hr1.elem hlt rfl
      have hsl := encBytes_len x
      have hle := flat_le encBytes l (k + 1)
      have hst := take_flat encBytes l k x hx
      have hsz : (encInt l.length ++ (l.take k).flatMap encBytes).length + (encBytes x).length ≤ 140737488355000 := by
        rw [hst] at hle
        simp only [encStrings, List.length_append] at hs hle ⊢
        omega
      have hxm : x.size ≤ 140737488355000 := by omega
      have HX := Lib.hid hx
      clear hx hst hle
      go_wp2_with fail
      refine (wire_Bytes _ _ hxm).mono ?_
      rintro e w2 ⟨v2, rfl, hown2, hb2⟩
      go_wp2_with (at_builtin; refine wpList_append_all _ rfl _ _ _ rfl elBytes w.heap.size _ _ _ rfl (own_below hown hb2) _ _ _ rfl (Sl.of_own hown2) (bvs_one _) (by omega) (by omega) (hb.trans (hb2.mono hb.size)).size w w.heap.size (hb.trans (hb2.mono hb.size)) (Nat.le_refl _) ?_; intro v' w' hown' hb')
      go_roundw
      case rel => exact ⟨k + 1, hlt, by go_num, by rw [take_flat encBytes l k x HX.out, ← List.append_assoc, List.length_append, List.map_append]; exact hown', hb'⟩
      case measure => simp [intOf]; omega
    · obtain rfl : k = l.length := by omega
      go_wp2
      go_ret
      rw [List.take_length] at hown
      exact ⟨_, rfl, hown, hb⟩

set_option maxHeartbeats 400000 in
theorem ref_Strings (l : List ByteArray) (v : Value) (w : World) (hl : Sl w v 1 l.length (l.map Value.string)) (hs : (encStrings l).length ≤ 140737488355000) (hn : l.length ≤ 140737488355328) :
    Calls Try.prog 21 #[v] w (Made (encStrings l) w) := by
  obtain ⟨A, c, rfl, hnc, hcm, hr⟩ := hl
  unfold maxLen at hcm
  go_enter Try.func21, Try.ntmps21
  go_wp2_with fail
  refine (ref_Int _ _ (by omega) (by omega)).mono ?_
  rintro e w1 ⟨v, rfl, hown, hb⟩
  go_wp2_with fail
  go_loopw [3, 4] (ListRel encBytes l w) (fun _ i _ => l.length - (intOf i).toNat)
  case atStart => exact ⟨0, Nat.zero_le _, rfl, by simpa using hown, hb⟩
  case round =>
    obtain ⟨k, hk, rfl, hown, hb⟩ := hrel
    have hr1 := hr.below hb
    by_cases hlt : k < l.length
    · obtain ⟨ad, x, rfl, hab, hx, hc⟩ := hr1.elem hlt rfl
      have hsl := encBytes_len x
      have hle := flat_le encBytes l (k + 1)
      have hst := take_flat encBytes l k x hx
      have hsz : (encInt l.length ++ (l.take k).flatMap encBytes).length + (encBytes x).length ≤ 140737488355000 := by
        rw [hst] at hle
        simp only [encStrings, List.length_append] at hs hle ⊢
        omega
      have hxm : x.size ≤ 140737488355000 := by omega
      have HX := Lib.hid hx
      clear hx hst hle
      go_wp2_with fail
      refine (ref_Bytes _ _ hxm).mono ?_
      rintro e w2 ⟨v2, rfl, hown2, hb2⟩
      go_wp2_with (at_builtin; refine wpList_append_all _ rfl _ _ _ rfl elBytes w.heap.size _ _ _ rfl (own_below hown hb2) _ _ _ rfl (Sl.of_own hown2) (bvs_one _) (by omega) (by omega) (hb.trans (hb2.mono hb.size)).size w w.heap.size (hb.trans (hb2.mono hb.size)) (Nat.le_refl _) ?_; intro v' w' hown' hb')
      go_roundw
      case rel => exact ⟨k + 1, hlt, by go_num, by rw [take_flat encBytes l k x HX.out, ← List.append_assoc, List.length_append, List.map_append]; exact hown', hb'⟩
      case measure => simp [intOf]; omega
    · obtain rfl : k = l.length := by omega
      go_wp2
      go_ret
      rw [List.take_length] at hown
      exact ⟨_, rfl, hown, hb⟩


set_option maxHeartbeats 400000 in
theorem wire_Ints (l : List Int) (v : Value) (w : World) (hl : Sl w v 1 l.length (l.map iv)) (hi : ∀ n ∈ l, I64 n) (hs : (encInts l).length ≤ 140737488355000) (hn : l.length ≤ 140737488355328) :
    Calls Try.prog 18 #[v] w (Made (encInts l) w) := by
  go_enter Try.func18, Try.ntmps18
  go_wp2_with fail
  refine (list_int l v _ hl hi hs hn).mono ?_
  rintro e w1 ⟨v, rfl, hown, hb⟩
  go_wp2
  go_ret
  exact ⟨_, rfl, hown, hb⟩
set_option maxHeartbeats 400000 in
theorem wire_Strings (l : List ByteArray) (v : Value) (w : World) (hl : Sl w v 1 l.length (l.map Value.string)) (hs : (encStrings l).length ≤ 140737488355000) (hn : l.length ≤ 140737488355328) :
    Calls Try.prog 20 #[v] w (Made (encStrings l) w) := by
  go_enter Try.func20, Try.ntmps20
  go_wp2_with fail
  refine (list_string l v _ hl hs hn).mono ?_
  rintro e w1 ⟨v, rfl, hown, hb⟩
  go_wp2
  go_ret
  exact ⟨_, rfl, hown, hb⟩
end Go.Proofs.Ytjdoellkoofnmaa
