/-
  The package-level tables of the hash: what a row's list of them gives; a world in which they lie. Conditions: none.
-/
import Derived.Test.YtafehbnnoncieaaDoorCards
import Derived.Test.YtafehbnnoncieaaDoorTie
import Derived.Test.YtafehbnnoncieaaDoorHashT
import Derived.Deep.DeepHandedRow
import Derived.Lib.LaidTab
import Derived.Stop.LaidErr
import Derived.MakeChecks
namespace Go.Proofs.YtafehbnnoncieaaDoor
open Go.RowKit
theorem own : ownKnob Tryd.prog.godebug = none := by kernel_rfl
theorem laid : laidOutB Tryd.prog = true := by kernel_rfl
def ksInt : List Int := Sha.ks.map fun k : Nat => (k : Int)
theorem ks_at : ∀ i : Nat, i < 64 → ksInt.getD i 0 = ((Sha.ks.getD i 0 : Nat) : Int) := by decide
theorem nibs_of_tab {W : World} (h : Lib.TabIs Tryd.prog W "skewback/hash.nibbles" .u64 nibTab) : Nibs W :=
  have hg : Tryd.prog.globalNamed "skewback/hash.nibbles" = some 1 := by kernel_rfl
  ⟨World.block_lt_of_cell? W _ (h.cell hg 0 (by decide)), fun i hi => h.cell hg i hi⟩
theorem consts_of_tab {W : World} (h : Lib.TabIs Tryd.prog W "skewback/hash.constants" .u32 ksInt) : Consts W :=
  have hg : Tryd.prog.globalNamed "skewback/hash.constants" = some 2 := by kernel_rfl
  ⟨World.block_lt_of_cell? W _ (h.cell hg 0 (by decide)), fun i hi => (h.cell hg i hi).trans (by rw [ks_at i hi])⟩
theorem rconsts_of_tab {W : World} (h : Lib.TabIs Tryd.prog W "skewback/skewbackref02.constants" .u32 ksInt) : RConsts W :=
  have hg : Tryd.prog.globalNamed "skewback/skewbackref02.constants" = some 0 := by kernel_rfl
  ⟨World.block_lt_of_cell? W _ (h.cell hg 0 (by decide)), fun i hi => (h.cell hg i hi).trans (by rw [ks_at i hi]; rfl)⟩
theorem tabs2 {W : World} (h : laidMetH Tryd.prog Rows.hashJoinMatchesSpecRow.laid W) : Nibs W ∧ Consts W := by
  have h : laidMet Tryd.prog Rows.hashJoinMatchesSpecRow.laid W := h
  refine ⟨nibs_of_tab ?_, consts_of_tab ?_⟩
  · exact Lib.tabIs_of_head (P := Tryd.prog) (zs := nibTab) (g := 1) (t := 79) (by kernel_rfl) (by kernel_rfl) Tryd.underlying79 Tryd.underlying28 (by kernel_rfl) (by kernel_rfl) h
  · exact Lib.tabIs_of_head (P := Tryd.prog) (zs := ksInt) (g := 2) (t := 73) (by kernel_rfl) (by kernel_rfl) Tryd.underlying73 Tryd.underlying49 (by kernel_rfl) (by kernel_rfl) h.tail
theorem tabs3 {W : World} (h : laidMetH Tryd.prog Rows.hashSumMatchesSpecRow.laid W) : Nibs W ∧ Consts W ∧ RConsts W := by
  have h : laidMet Tryd.prog Rows.hashSumMatchesSpecRow.laid W := h
  refine ⟨nibs_of_tab ?_, consts_of_tab ?_, rconsts_of_tab ?_⟩
  · exact Lib.tabIs_of_head (P := Tryd.prog) (zs := nibTab) (g := 1) (t := 79) (by kernel_rfl) (by kernel_rfl) Tryd.underlying79 Tryd.underlying28 (by kernel_rfl) (by kernel_rfl) h.tail
  · exact Lib.tabIs_of_head (P := Tryd.prog) (zs := ksInt) (g := 2) (t := 73) (by kernel_rfl) (by kernel_rfl) Tryd.underlying73 Tryd.underlying49 (by kernel_rfl) (by kernel_rfl) h.tail.tail
  · exact Lib.tabIs_of_head (P := Tryd.prog) (zs := ksInt) (g := 0) (t := 73) (by kernel_rfl) (by kernel_rfl) Tryd.underlying73 Tryd.underlying49 (by kernel_rfl) (by kernel_rfl) h
/-- Block g is given other cells. -/
def setTab (h : Array Obj) (g : Nat) (cs : Array Value) : Array Obj := h.modify g fun
  | .cells _ t frozen => .cells cs t frozen
  | o => o
/-- The settled world, the tables as the program's start lays them. -/
noncomputable def laidWorld (os : Os) : World :=
  { World.holding Tryd.prog os ⟨#[], #[], []⟩ with heap := setTab (setTab (setTab (World.holding Tryd.prog os ⟨#[], #[], []⟩).heap (1) (nibTab.map fun z => Value.int .u64 z).toArray) (2) (ksInt.map fun z => Value.int .u32 z).toArray) (0) (ksInt.map fun z => Value.int .u32 z).toArray }
end Go.Proofs.YtafehbnnoncieaaDoor
