/-
  The encoders. Conditions: none.
-/
import Derived.Test.YtafehbnnoncieaaDoorWireA
namespace Go.Proofs.YtafehbnnoncieaaDoor
open Go.RowKit
set_option maxHeartbeats 400000 in
set_option maxRecDepth 100000 in
theorem ref_Int (n : Int) (w : World) (h1 : -9223372036854775808 ≤ n) (h2 : n ≤ 9223372036854775807) :
    Calls Tryd.prog 54 #[.int .i64 n] w (Made (encInt n) w) := by
  by_cases hn : n < 0
  all_goals
    go_enter Tryd.func54, Tryd.ntmps54
    go_wp2
    go_loopw [3, 4] (EncRel n w) (fun u3 _ _ => (intOf u3).toNat)
    case atStart => exact ⟨zig n, [], by congr 1; unfold zig; split <;> omega, zig_lt n h1 h2, rfl, World.ownsRow_nil _ _ _ _, Below.refl _ _⟩
    case round =>
      obtain ⟨z, l, rfl, hz, hl, hown, hb⟩ := hrel
      have hsh := enc_short n h1 h2 hl
      have H := Lib.hid hl
      clear hl hn
      by_cases hlt : z < 128
      · go_wp2_with (at_builtin; refine wpList_append_one _ rfl _ _ _ rfl elBytes w.heap.size _ _ _ rfl hown _ rfl rfl (by omega) (by omega) hb.size w w.heap.size hb (Nat.le_refl _) ?_)
        intro v' w' hown' hb'
        go_wp2
        go_ret
        refine ⟨v', rfl, ?_, hb'⟩
        have := own_snoc (u := UInt8.ofNat z) (by rw [bv_ofNat z (by omega)]) hown'
        rw [← enc_last hlt n H.out]
        exact this
      · go_wp2_with (at_builtin; refine wpList_append_one _ rfl _ _ _ rfl elBytes w.heap.size _ _ _ rfl hown _ rfl rfl (by omega) (by omega) hb.size w w.heap.size hb (Nat.le_refl _) ?_)
        intro v' w' hown' hb'
        have hown2 := own_snoc (u := UInt8.ofNat (z % 128 + 128)) (by rw [bv_ofNat _ (by omega)]; go_num) hown'
        clear hown' hown
        go_wp2
        go_roundw
        case rel => exact ⟨z / 128, _, by go_num, by omega, enc_step hlt n H.out, hown2, hb'⟩
        case measure => simp [intOf]; omega

/-! ### Byte strings -/
def encBytes (s : ByteArray) : List UInt8 := encInt s.size ++ s.data.toList
set_option maxHeartbeats 400000 in
theorem wire_Bytes (s : ByteArray) (w : World) (hs : s.size ≤ 140737488355000) :
    Calls Tryd.prog 48 #[.string s] w (Made (encBytes s) w) := by
  go_enter Tryd.func48, Tryd.ntmps48
  go_wp2_with fail
  refine (wire_Int _ _ (by omega) (by omega)).mono ?_
  rintro e w1 ⟨v, rfl, hown, hb⟩
  have hlen := enc_length_10 _ (zig_lt (s.size : Int) (by omega) (by omega))
  have hlen' : (encInt (s.size : Int)).length ≤ 10 := hlen
  clear hlen
  go_wp2_with (at_builtin; refine wpList_append_str _ rfl _ _ _ _ rfl Tryd.underlying9 elBytes w.heap.size _ _ _ rfl hown _ rfl (by omega) hb.size w w.heap.size hb (Nat.le_refl _) ?_)
  intro v' w' hown' hb'
  go_wp2
  go_ret
  refine ⟨v', rfl, ?_, hb'⟩
  rw [strCells_bv] at hown'
  simpa [encBytes] using hown'

set_option maxHeartbeats 400000 in
theorem ref_Bytes (s : ByteArray) (w : World) (hs : s.size ≤ 140737488355000) :
    Calls Tryd.prog 50 #[.string s] w (Made (encBytes s) w) := by
  go_enter Tryd.func50, Tryd.ntmps50
  go_wp2_with fail
  refine (ref_Int _ _ (by omega) (by omega)).mono ?_
  rintro e w1 ⟨v, rfl, hown, hb⟩
  have hlen := enc_length_10 _ (zig_lt (s.size : Int) (by omega) (by omega))
  have hlen' : (encInt (s.size : Int)).length ≤ 10 := hlen
  clear hlen
  go_wp2_with (at_builtin; refine wpList_append_str _ rfl _ _ _ _ rfl Tryd.underlying9 elBytes w.heap.size _ _ _ rfl hown _ rfl (by omega) hb.size w w.heap.size hb (Nat.le_refl _) ?_)
  intro v' w' hown' hb'
  go_wp2
  go_ret
  refine ⟨v', rfl, ?_, hb'⟩
  rw [strCells_bv] at hown'
  simpa [encBytes] using hown'
end Go.Proofs.YtafehbnnoncieaaDoor
