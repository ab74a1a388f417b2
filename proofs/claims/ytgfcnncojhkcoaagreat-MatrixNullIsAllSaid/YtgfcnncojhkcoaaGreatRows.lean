/-
  No cell of these rows narrows 'for every input' (looked for: loops, veiled, ifaces, maps, wideKeys, modest, calm, conditions, laid).
  DERIVED. THE GIVEN ROWS OF THIS SEAT. 7 by the template 'for every input the law returns true; each argument reads behind the call as it read before'; 0 by the template 'total and deterministic' (their statements: YtgfcnncojhkcoaaGreatTotals.lean).
  GIVEN WITH THE SEED: the statements are not yours to turn. If you find one false, say at which input.
  Laid BY PROGRAM, IN A SANDBOX (cutbox-rows.mjs): the forced cells as the released guide's own fill.sh prints them over the translation 403985b139fbdf83… (all of the seat's roots in one cut). By AI agents, Wed Nov 11 2026. No macro, syntax, notation, axiom, sorry.
-/
import Derived.Test.YtgfcnncojhkcoaaGreatChecked
import GoSem.Claim
import GoSem.ClaimJoined
import GoSem.ClaimMapViews
import Derived.JoinedTies
import Derived.KernelRfl
namespace Go.Proofs.YtgfcnncojhkcoaaGreat
/- THE CELL 'sum', in the pinned program and in every row, IS THE sha256 OF THE DUMP (.gsa) THAT YtgfcnncojhkcoaaGreatProg.lean LOADS. Nothing in Lean hashes anything: it is a label: what it is worth is what the hold of that sum in a sandbox is worth. -/
noncomputable def Tryz.pinned : Pinned := { name := "ytgfcnncojhkcoaagreat", sum := "403985b139fbdf836f2ded0dc7667b21aae4442bef29c3fe064eac6c61475ce8", checked := Tryz.checked }
namespace Rows
def none {H : Type} : Left H := { results := [], args := [] }

/-- 'skewbacklaw07.MatrixForgetsRows': WHATEVER THE INPUT: true; the input reads as it did. -/
def matrixForgetsRowsSpec : ChangeSpec := { name := "matrixForgetsRows", fn := fun _ => fun
  | [d1, d2, d3] => { results := [.lit (.bool true)], args := [d1, d2, d3] }
  | _ => none }
def matrixForgetsRowsRow : OpenClaim := { program := "ytgfcnncojhkcoaagreat", sum := "403985b139fbdf836f2ded0dc7667b21aae4442bef29c3fe064eac6c61475ce8", func := "skewback/skewbacklaw07.MatrixForgetsRows", spec := "matrixForgetsRows", unfollowed := true, recurses := true, apart := false }
def MatrixForgetsRowsSaid : Prop := matrixForgetsRowsRow.holds Tryz.pinned (OpenSpec.ofChange matrixForgetsRowsSpec)

/-- ITS FALSE NEIGHBOUR: 'it returns false'. Refute it at one input. -/
def matrixForgetsRowsWrong : ChangeSpec := { name := "matrixForgetsRows", fn := fun _ => fun
  | [d1, d2, d3] => { results := [.lit (.bool false)], args := [d1, d2, d3] }
  | _ => none }
def MatrixForgetsRowsWrongFalsely : Prop := matrixForgetsRowsRow.holds Tryz.pinned (OpenSpec.ofChange matrixForgetsRowsWrong)

/-- 'skewbacklaw07.MatrixReducesAsSpecified': WHATEVER THE INPUT: true; the input reads as it did. -/
def matrixReducesAsSpecifiedSpec : ChangeSpec := { name := "matrixReducesAsSpecified", fn := fun _ => fun
  | [d] => { results := [.lit (.bool true)], args := [d] }
  | _ => none }
def matrixReducesAsSpecifiedRow : OpenClaim := { program := "ytgfcnncojhkcoaagreat", sum := "403985b139fbdf836f2ded0dc7667b21aae4442bef29c3fe064eac6c61475ce8", func := "skewback/skewbacklaw07.MatrixReducesAsSpecified", spec := "matrixReducesAsSpecified", unfollowed := true, recurses := true, apart := false }
def MatrixReducesAsSpecifiedSaid : Prop := matrixReducesAsSpecifiedRow.holds Tryz.pinned (OpenSpec.ofChange matrixReducesAsSpecifiedSpec)

/-- ITS FALSE NEIGHBOUR: 'it returns false'. Refute it at one input. -/
def matrixReducesAsSpecifiedWrong : ChangeSpec := { name := "matrixReducesAsSpecified", fn := fun _ => fun
  | [d] => { results := [.lit (.bool false)], args := [d] }
  | _ => none }
def MatrixReducesAsSpecifiedWrongFalsely : Prop := matrixReducesAsSpecifiedRow.holds Tryz.pinned (OpenSpec.ofChange matrixReducesAsSpecifiedWrong)

/-- 'skewbacklaw07.MatrixSolves': WHATEVER THE INPUT: true; the input reads as it did. -/
def matrixSolvesSpec : ChangeSpec := { name := "matrixSolves", fn := fun _ => fun
  | [d1, d2, d3] => { results := [.lit (.bool true)], args := [d1, d2, d3] }
  | _ => none }
def matrixSolvesRow : OpenClaim := { program := "ytgfcnncojhkcoaagreat", sum := "403985b139fbdf836f2ded0dc7667b21aae4442bef29c3fe064eac6c61475ce8", func := "skewback/skewbacklaw07.MatrixSolves", spec := "matrixSolves", unfollowed := true, recurses := true, apart := false }
def MatrixSolvesSaid : Prop := matrixSolvesRow.holds Tryz.pinned (OpenSpec.ofChange matrixSolvesSpec)

/-- ITS FALSE NEIGHBOUR: 'it returns false'. Refute it at one input. -/
def matrixSolvesWrong : ChangeSpec := { name := "matrixSolves", fn := fun _ => fun
  | [d1, d2, d3] => { results := [.lit (.bool false)], args := [d1, d2, d3] }
  | _ => none }
def MatrixSolvesWrongFalsely : Prop := matrixSolvesRow.holds Tryz.pinned (OpenSpec.ofChange matrixSolvesWrong)

/-- 'skewbacklaw07.MatrixNullIsAll': WHATEVER THE INPUT: true; the input reads as it did. -/
def matrixNullIsAllSpec : ChangeSpec := { name := "matrixNullIsAll", fn := fun _ => fun
  | [d1, d2] => { results := [.lit (.bool true)], args := [d1, d2] }
  | _ => none }
def matrixNullIsAllRow : OpenClaim := { program := "ytgfcnncojhkcoaagreat", sum := "403985b139fbdf836f2ded0dc7667b21aae4442bef29c3fe064eac6c61475ce8", func := "skewback/skewbacklaw07.MatrixNullIsAll", spec := "matrixNullIsAll", unfollowed := true, recurses := true, apart := false }
def MatrixNullIsAllSaid : Prop := matrixNullIsAllRow.holds Tryz.pinned (OpenSpec.ofChange matrixNullIsAllSpec)

/-- ITS FALSE NEIGHBOUR: 'it returns false'. Refute it at one input. -/
def matrixNullIsAllWrong : ChangeSpec := { name := "matrixNullIsAll", fn := fun _ => fun
  | [d1, d2] => { results := [.lit (.bool false)], args := [d1, d2] }
  | _ => none }
def MatrixNullIsAllWrongFalsely : Prop := matrixNullIsAllRow.holds Tryz.pinned (OpenSpec.ofChange matrixNullIsAllWrong)

/-- 'skewbacklaw07.MatrixMultiplies': WHATEVER THE INPUT: true; the input reads as it did. -/
def matrixMultipliesSpec : ChangeSpec := { name := "matrixMultiplies", fn := fun _ => fun
  | [d1, d2] => { results := [.lit (.bool true)], args := [d1, d2] }
  | _ => none }
def matrixMultipliesRow : OpenClaim := { program := "ytgfcnncojhkcoaagreat", sum := "403985b139fbdf836f2ded0dc7667b21aae4442bef29c3fe064eac6c61475ce8", func := "skewback/skewbacklaw07.MatrixMultiplies", spec := "matrixMultiplies", unfollowed := true, recurses := true, apart := false }
def MatrixMultipliesSaid : Prop := matrixMultipliesRow.holds Tryz.pinned (OpenSpec.ofChange matrixMultipliesSpec)

/-- ITS FALSE NEIGHBOUR: 'it returns false'. Refute it at one input. -/
def matrixMultipliesWrong : ChangeSpec := { name := "matrixMultiplies", fn := fun _ => fun
  | [d1, d2] => { results := [.lit (.bool false)], args := [d1, d2] }
  | _ => none }
def MatrixMultipliesWrongFalsely : Prop := matrixMultipliesRow.holds Tryz.pinned (OpenSpec.ofChange matrixMultipliesWrong)

/-- 'skewbacklaw07.MatrixPositiveIs': WHATEVER THE INPUT: true; the input reads as it did. -/
def matrixPositiveIsSpec : ChangeSpec := { name := "matrixPositiveIs", fn := fun _ => fun
  | [d1, d2] => { results := [.lit (.bool true)], args := [d1, d2] }
  | _ => none }
def matrixPositiveIsRow : OpenClaim := { program := "ytgfcnncojhkcoaagreat", sum := "403985b139fbdf836f2ded0dc7667b21aae4442bef29c3fe064eac6c61475ce8", func := "skewback/skewbacklaw07.MatrixPositiveIs", spec := "matrixPositiveIs", unfollowed := true, recurses := true, apart := false }
def MatrixPositiveIsSaid : Prop := matrixPositiveIsRow.holds Tryz.pinned (OpenSpec.ofChange matrixPositiveIsSpec)

/-- ITS FALSE NEIGHBOUR: 'it returns false'. Refute it at one input. -/
def matrixPositiveIsWrong : ChangeSpec := { name := "matrixPositiveIs", fn := fun _ => fun
  | [d1, d2] => { results := [.lit (.bool false)], args := [d1, d2] }
  | _ => none }
def MatrixPositiveIsWrongFalsely : Prop := matrixPositiveIsRow.holds Tryz.pinned (OpenSpec.ofChange matrixPositiveIsWrong)

/-- 'skewbacklaw07.MatrixMakesAsSpecified': WHATEVER THE INPUT: true; the input reads as it did. -/
def matrixMakesAsSpecifiedSpec : ChangeSpec := { name := "matrixMakesAsSpecified", fn := fun _ => fun
  | [d1, d2, d3, d4, d5] => { results := [.lit (.bool true)], args := [d1, d2, d3, d4, d5] }
  | _ => none }
def matrixMakesAsSpecifiedRow : OpenClaim := { program := "ytgfcnncojhkcoaagreat", sum := "403985b139fbdf836f2ded0dc7667b21aae4442bef29c3fe064eac6c61475ce8", func := "skewback/skewbacklaw07.MatrixMakesAsSpecified", spec := "matrixMakesAsSpecified", unfollowed := true, recurses := true, apart := false }
def MatrixMakesAsSpecifiedSaid : Prop := matrixMakesAsSpecifiedRow.holds Tryz.pinned (OpenSpec.ofChange matrixMakesAsSpecifiedSpec)

/-- ITS FALSE NEIGHBOUR: 'it returns false'. Refute it at one input. -/
def matrixMakesAsSpecifiedWrong : ChangeSpec := { name := "matrixMakesAsSpecified", fn := fun _ => fun
  | [d1, d2, d3, d4, d5] => { results := [.lit (.bool false)], args := [d1, d2, d3, d4, d5] }
  | _ => none }
def MatrixMakesAsSpecifiedWrongFalsely : Prop := matrixMakesAsSpecifiedRow.holds Tryz.pinned (OpenSpec.ofChange matrixMakesAsSpecifiedWrong)

/- THE SECOND FORM. 'bulk': how many values and letters a reading holds, each counted each time it is reached (what is shared counts as often as it is met; a slice's spare places count too). A statement '..UptoSaid' is the law's where the arguments, and the package variables that the reading takes, are together of bulk at most 1048576: NARROWER than '..Said'. Prove '..Said' where nothing that the law and all that it calls make is longer than what came in: it says more and counts as full. Else prove '..UptoSaid'. A law counts once. -/
mutual
def uptoBulk {H : Type} : DataW H → Nat
  | .lit (.string bytes) => bytes.length + 1
  | .lit _ => 1
  | .nil => 1
  | .ptr d => uptoBulk d + 1
  | .slice elems spare => uptoBulkAll elems + uptoBulkAll spare + 1
  | .agg parts => uptoBulkAll parts + 1
  | .iface _ d => uptoBulk d + 1
  | .map entries => uptoBulkEntries entries + 1
  | .held _ => 1
def uptoBulkAll {H : Type} : List (DataW H) → Nat
  | [] => 0
  | d :: r => uptoBulk d + uptoBulkAll r
def uptoBulkEntries {H : Type} : List (Lit × DataW H) → Nat
  | [] => 0
  | x :: r => uptoBulkEntry x + uptoBulkEntries r
def uptoBulkEntry {H : Type} : Lit × DataW H → Nat
  | (.string bytes, d) => bytes.length + uptoBulk d + 1
  | (_, d) => uptoBulk d + 1
 end
def uptoSmall : (H : Type) → List (DataW H) → Bool := fun _ ds => decide (uptoBulkAll ds ≤ 1048576)
def OpenSpec.upto (s : _root_.Go.ChangeSpec) : _root_.Go.OpenSpec := { _root_.Go.OpenSpec.ofChange s with cond := some uptoSmall }

/-- 'skewbacklaw07.MatrixForgetsRows', WHERE WHAT IT READS IS OF BULK AT MOST 1048576: true; the input reads as it did. -/
def matrixForgetsRowsUptoRow : OpenClaim := { program := "ytgfcnncojhkcoaagreat", sum := "403985b139fbdf836f2ded0dc7667b21aae4442bef29c3fe064eac6c61475ce8", func := "skewback/skewbacklaw07.MatrixForgetsRows", spec := "matrixForgetsRows", unfollowed := true, recurses := true, apart := false, narrowed := true }
def MatrixForgetsRowsUptoSaid : Prop := matrixForgetsRowsUptoRow.holds Tryz.pinned (OpenSpec.upto matrixForgetsRowsSpec)

/-- 'skewbacklaw07.MatrixReducesAsSpecified', WHERE WHAT IT READS IS OF BULK AT MOST 1048576: true; the input reads as it did. -/
def matrixReducesAsSpecifiedUptoRow : OpenClaim := { program := "ytgfcnncojhkcoaagreat", sum := "403985b139fbdf836f2ded0dc7667b21aae4442bef29c3fe064eac6c61475ce8", func := "skewback/skewbacklaw07.MatrixReducesAsSpecified", spec := "matrixReducesAsSpecified", unfollowed := true, recurses := true, apart := false, narrowed := true }
def MatrixReducesAsSpecifiedUptoSaid : Prop := matrixReducesAsSpecifiedUptoRow.holds Tryz.pinned (OpenSpec.upto matrixReducesAsSpecifiedSpec)

/-- 'skewbacklaw07.MatrixSolves', WHERE WHAT IT READS IS OF BULK AT MOST 1048576: true; the input reads as it did. -/
def matrixSolvesUptoRow : OpenClaim := { program := "ytgfcnncojhkcoaagreat", sum := "403985b139fbdf836f2ded0dc7667b21aae4442bef29c3fe064eac6c61475ce8", func := "skewback/skewbacklaw07.MatrixSolves", spec := "matrixSolves", unfollowed := true, recurses := true, apart := false, narrowed := true }
def MatrixSolvesUptoSaid : Prop := matrixSolvesUptoRow.holds Tryz.pinned (OpenSpec.upto matrixSolvesSpec)

/-- 'skewbacklaw07.MatrixNullIsAll', WHERE WHAT IT READS IS OF BULK AT MOST 1048576: true; the input reads as it did. -/
def matrixNullIsAllUptoRow : OpenClaim := { program := "ytgfcnncojhkcoaagreat", sum := "403985b139fbdf836f2ded0dc7667b21aae4442bef29c3fe064eac6c61475ce8", func := "skewback/skewbacklaw07.MatrixNullIsAll", spec := "matrixNullIsAll", unfollowed := true, recurses := true, apart := false, narrowed := true }
def MatrixNullIsAllUptoSaid : Prop := matrixNullIsAllUptoRow.holds Tryz.pinned (OpenSpec.upto matrixNullIsAllSpec)

/-- 'skewbacklaw07.MatrixMultiplies', WHERE WHAT IT READS IS OF BULK AT MOST 1048576: true; the input reads as it did. -/
def matrixMultipliesUptoRow : OpenClaim := { program := "ytgfcnncojhkcoaagreat", sum := "403985b139fbdf836f2ded0dc7667b21aae4442bef29c3fe064eac6c61475ce8", func := "skewback/skewbacklaw07.MatrixMultiplies", spec := "matrixMultiplies", unfollowed := true, recurses := true, apart := false, narrowed := true }
def MatrixMultipliesUptoSaid : Prop := matrixMultipliesUptoRow.holds Tryz.pinned (OpenSpec.upto matrixMultipliesSpec)

/-- 'skewbacklaw07.MatrixPositiveIs', WHERE WHAT IT READS IS OF BULK AT MOST 1048576: true; the input reads as it did. -/
def matrixPositiveIsUptoRow : OpenClaim := { program := "ytgfcnncojhkcoaagreat", sum := "403985b139fbdf836f2ded0dc7667b21aae4442bef29c3fe064eac6c61475ce8", func := "skewback/skewbacklaw07.MatrixPositiveIs", spec := "matrixPositiveIs", unfollowed := true, recurses := true, apart := false, narrowed := true }
def MatrixPositiveIsUptoSaid : Prop := matrixPositiveIsUptoRow.holds Tryz.pinned (OpenSpec.upto matrixPositiveIsSpec)

/-- 'skewbacklaw07.MatrixMakesAsSpecified', WHERE WHAT IT READS IS OF BULK AT MOST 1048576: true; the input reads as it did. -/
def matrixMakesAsSpecifiedUptoRow : OpenClaim := { program := "ytgfcnncojhkcoaagreat", sum := "403985b139fbdf836f2ded0dc7667b21aae4442bef29c3fe064eac6c61475ce8", func := "skewback/skewbacklaw07.MatrixMakesAsSpecified", spec := "matrixMakesAsSpecified", unfollowed := true, recurses := true, apart := false, narrowed := true }
def MatrixMakesAsSpecifiedUptoSaid : Prop := matrixMakesAsSpecifiedUptoRow.holds Tryz.pinned (OpenSpec.upto matrixMakesAsSpecifiedSpec)

end Rows
end Go.Proofs.YtgfcnncojhkcoaaGreat
