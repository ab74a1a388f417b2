/-
  Joins and shifts: the walks of two statements. Conditions: none.
-/
import Derived.Test.YtafehbnnoncieaaDoorHashT
namespace Go.Proofs.YtafehbnnoncieaaDoor
open Go.RowKit
def Tabs (w : World) : Prop := Nibs w ∧ Consts w
theorem Tabs.below {w w' : World} (h : Tabs w) (hb : Below w.heap.size w w') : Tabs w' := ⟨h.1.below hb, h.2.below hb⟩
set_option maxHeartbeats 400000 in
theorem join_walk (a b n : Int) (h1 : -9223372036854775808 ≤ n) (h2 : n ≤ 9223372036854775807) (w : World) (hT : Nibs w ∧ Consts w) :
    Calls Tryd.prog 6 #[.int .i64 a, .int .i64 b, .int .i64 n] w fun e w' => e = .returned (.bool true) ∧ Below w.heap.size w w' := by
  obtain ⟨hN, hC⟩ := hT
  by_cases h300 : n ≤ 300
  · by_cases h0 : 0 ≤ n
    · obtain ⟨m, hm⟩ : ∃ m : Nat, n = m := ⟨n.toNat, by omega⟩
      have hm3 : m ≤ 300 := by omega
      have hJ : joinVal a b m = .int .i64 (Crc.join (BitVec.ofInt 40 a) (BitVec.ofInt 40 b) m).toNat := rfl
      generalize (Crc.join (BitVec.ofInt 40 a) (BitVec.ofInt 40 b) m).toNat = z at *
      have HJ := Lib.hid hJ
      have HM := Lib.hid hm
      clear hJ hm
      go_enter Tryd.func6, Tryd.ntmps6
      go_wp2_with fail
      refine (law_sanity _ hN hC).mono ?_
      rintro e w1 ⟨rfl, hb1⟩
      have hN1 := hN.below hb1
      go_wp2_with fail
      refine (hash_Join a b n m HM.out (by omega) _ hN1).mono ?_
      rw [HJ.out]
      rintro e w' ⟨rfl, rfl⟩
      go_wp2_with fail
      refine (ref_Join a b n m HM.out (by omega) _).mono ?_
      rw [HJ.out]
      rintro e w' ⟨rfl, rfl⟩
      go_wp2_with fail
      go_ret
      exact ⟨rfl, hb1⟩
    · go_enter Tryd.func6, Tryd.ntmps6
      go_wp2_with fail
      refine (law_sanity _ hN hC).mono ?_
      rintro e w1 ⟨rfl, hb1⟩
      go_wp2_with fail
      refine (hash_Join_neg a b n h1 (by omega) _).mono ?_
      rintro e w' ⟨rfl, rfl⟩
      go_wp2_with fail
      refine (ref_Join_neg a b n h1 (by omega) _).mono ?_
      rintro e w' ⟨rfl, rfl⟩
      go_wp2_with fail
      go_ret
      exact ⟨rfl, hb1⟩
  · go_enter Tryd.func6, Tryd.ntmps6
    go_wp2_with fail
    refine (law_sanity _ hN hC).mono ?_
    rintro e w1 ⟨rfl, hb1⟩
    go_wp2_with fail
    go_ret
    exact ⟨rfl, hb1⟩
end Go.Proofs.YtafehbnnoncieaaDoor
