/-
  No cell of these rows narrows 'for every input' (looked for: loops, veiled, ifaces, maps, wideKeys, modest, calm, conditions, laid).
  DERIVED. THE GIVEN ROWS OF THIS SEAT. 5 by the template 'for every input the law returns true; each argument reads behind the call as it read before'; 0 by the template 'total and deterministic' (their statements: YtakbadleipbngaaTotals.lean).
  GIVEN WITH THE SEED: the statements are not yours to turn. If you find one false, say at which input.
  Laid BY PROGRAM, IN A SANDBOX (cutbox-rows.mjs): the forced cells as the released guide's own fill.sh prints them over the translation c0966b23e73a8c61… (all of the seat's roots in one cut). By AI agents, Wed Nov 11 2026. No macro, syntax, notation, axiom, sorry.
-/
import Derived.Test.YtakbadleipbngaaChecked
import GoSem.Claim
import GoSem.ClaimJoined
import GoSem.ClaimMapViews
import Derived.JoinedTies
import Derived.KernelRfl
namespace Go.Proofs.Ytakbadleipbngaa
/- THE CELL 'sum', in the pinned program and in every row, IS THE sha256 OF THE DUMP (.gsa) THAT YtakbadleipbngaaProg.lean LOADS. Nothing in Lean hashes anything: it is a label: what it is worth is what the hold of that sum in a sandbox is worth. -/
noncomputable def Try.pinned : Pinned := { name := "ytakbadleipbngaa", sum := "c0966b23e73a8c61b8e45f99cfc9570916d8497ad17cebcea74ad3ef33beea27", checked := Try.checked }
namespace Rows
def none {H : Type} : Left H := { results := [], args := [] }

/-- 'skewbacklaw42.LinkReceivesAsSpecified': WHATEVER THE INPUT: true; the input reads as it did. -/
def linkReceivesAsSpecifiedSpec : ChangeSpec := { name := "linkReceivesAsSpecified", fn := fun _ => fun
  | [d1, d2, d3] => { results := [.lit (.bool true)], args := [d1, d2, d3] }
  | _ => none }
def linkReceivesAsSpecifiedRow : OpenClaim := { program := "ytakbadleipbngaa", sum := "c0966b23e73a8c61b8e45f99cfc9570916d8497ad17cebcea74ad3ef33beea27", func := "skewback/skewbacklaw42.LinkReceivesAsSpecified", spec := "linkReceivesAsSpecified", unfollowed := true, recurses := true, apart := false }
def LinkReceivesAsSpecifiedSaid : Prop := linkReceivesAsSpecifiedRow.holds Try.pinned (OpenSpec.ofChange linkReceivesAsSpecifiedSpec)

/-- ITS FALSE NEIGHBOUR: 'it returns false'. Refute it at one input. -/
def linkReceivesAsSpecifiedWrong : ChangeSpec := { name := "linkReceivesAsSpecified", fn := fun _ => fun
  | [d1, d2, d3] => { results := [.lit (.bool false)], args := [d1, d2, d3] }
  | _ => none }
def LinkReceivesAsSpecifiedWrongFalsely : Prop := linkReceivesAsSpecifiedRow.holds Try.pinned (OpenSpec.ofChange linkReceivesAsSpecifiedWrong)

/-- 'skewbacklaw42.LinkRunsAsSpecified': WHATEVER THE INPUT: true; the input reads as it did. -/
def linkRunsAsSpecifiedSpec : ChangeSpec := { name := "linkRunsAsSpecified", fn := fun _ => fun
  | [d] => { results := [.lit (.bool true)], args := [d] }
  | _ => none }
def linkRunsAsSpecifiedRow : OpenClaim := { program := "ytakbadleipbngaa", sum := "c0966b23e73a8c61b8e45f99cfc9570916d8497ad17cebcea74ad3ef33beea27", func := "skewback/skewbacklaw42.LinkRunsAsSpecified", spec := "linkRunsAsSpecified", unfollowed := true, recurses := true, apart := false }
def LinkRunsAsSpecifiedSaid : Prop := linkRunsAsSpecifiedRow.holds Try.pinned (OpenSpec.ofChange linkRunsAsSpecifiedSpec)

/-- ITS FALSE NEIGHBOUR: 'it returns false'. Refute it at one input. -/
def linkRunsAsSpecifiedWrong : ChangeSpec := { name := "linkRunsAsSpecified", fn := fun _ => fun
  | [d] => { results := [.lit (.bool false)], args := [d] }
  | _ => none }
def LinkRunsAsSpecifiedWrongFalsely : Prop := linkRunsAsSpecifiedRow.holds Try.pinned (OpenSpec.ofChange linkRunsAsSpecifiedWrong)

/-- 'skewbacklaw42.LinkEndsArePacked': WHATEVER THE INPUT: true; the input reads as it did. -/
def linkEndsArePackedSpec : ChangeSpec := { name := "linkEndsArePacked", fn := fun _ => fun
  | [d1, d2] => { results := [.lit (.bool true)], args := [d1, d2] }
  | _ => none }
def linkEndsArePackedRow : OpenClaim := { program := "ytakbadleipbngaa", sum := "c0966b23e73a8c61b8e45f99cfc9570916d8497ad17cebcea74ad3ef33beea27", func := "skewback/skewbacklaw42.LinkEndsArePacked", spec := "linkEndsArePacked", unfollowed := true, recurses := true, apart := false }
def LinkEndsArePackedSaid : Prop := linkEndsArePackedRow.holds Try.pinned (OpenSpec.ofChange linkEndsArePackedSpec)

/-- ITS FALSE NEIGHBOUR: 'it returns false'. Refute it at one input. -/
def linkEndsArePackedWrong : ChangeSpec := { name := "linkEndsArePacked", fn := fun _ => fun
  | [d1, d2] => { results := [.lit (.bool false)], args := [d1, d2] }
  | _ => none }
def LinkEndsArePackedWrongFalsely : Prop := linkEndsArePackedRow.holds Try.pinned (OpenSpec.ofChange linkEndsArePackedWrong)

/-- 'skewbacklaw42.LinkKeepsOrder': WHATEVER THE INPUT: true; the input reads as it did. -/
def linkKeepsOrderSpec : ChangeSpec := { name := "linkKeepsOrder", fn := fun _ => fun
  | [d] => { results := [.lit (.bool true)], args := [d] }
  | _ => none }
def linkKeepsOrderRow : OpenClaim := { program := "ytakbadleipbngaa", sum := "c0966b23e73a8c61b8e45f99cfc9570916d8497ad17cebcea74ad3ef33beea27", func := "skewback/skewbacklaw42.LinkKeepsOrder", spec := "linkKeepsOrder", unfollowed := true, recurses := true, apart := false }
def LinkKeepsOrderSaid : Prop := linkKeepsOrderRow.holds Try.pinned (OpenSpec.ofChange linkKeepsOrderSpec)

/-- ITS FALSE NEIGHBOUR: 'it returns false'. Refute it at one input. -/
def linkKeepsOrderWrong : ChangeSpec := { name := "linkKeepsOrder", fn := fun _ => fun
  | [d] => { results := [.lit (.bool false)], args := [d] }
  | _ => none }
def LinkKeepsOrderWrongFalsely : Prop := linkKeepsOrderRow.holds Try.pinned (OpenSpec.ofChange linkKeepsOrderWrong)

/-- 'skewbacklaw42.LinkComesToRest': WHATEVER THE INPUT: true; the input reads as it did. -/
def linkComesToRestSpec : ChangeSpec := { name := "linkComesToRest", fn := fun _ => fun
  | [d] => { results := [.lit (.bool true)], args := [d] }
  | _ => none }
def linkComesToRestRow : OpenClaim := { program := "ytakbadleipbngaa", sum := "c0966b23e73a8c61b8e45f99cfc9570916d8497ad17cebcea74ad3ef33beea27", func := "skewback/skewbacklaw42.LinkComesToRest", spec := "linkComesToRest", unfollowed := true, recurses := true, apart := false }
def LinkComesToRestSaid : Prop := linkComesToRestRow.holds Try.pinned (OpenSpec.ofChange linkComesToRestSpec)

/-- ITS FALSE NEIGHBOUR: 'it returns false'. Refute it at one input. -/
def linkComesToRestWrong : ChangeSpec := { name := "linkComesToRest", fn := fun _ => fun
  | [d] => { results := [.lit (.bool false)], args := [d] }
  | _ => none }
def LinkComesToRestWrongFalsely : Prop := linkComesToRestRow.holds Try.pinned (OpenSpec.ofChange linkComesToRestWrong)

/- THE SECOND FORM. 'bulk': how many values and letters a reading holds, each counted each time it is reached (what is shared counts as often as it is met; a slice's spare places count too). A statement '..UptoSaid' is the law's where the arguments, and the package variables that the reading takes, are together of bulk at most 1048576: NARROWER than '..Said'. Prove '..Said' where nothing that the law and all that it calls make is longer than what came in: it says more and counts as full. Else prove '..UptoSaid'. A law counts once. -/
mutual
def uptoBulk {H : Type} : DataW H → Nat
  | .lit (.string bytes) => bytes.length + 1
  | .lit _ => 1
  | .nil => 1
  | .ptr d => uptoBulk d + 1
  | .slice elems spare => uptoBulkAll elems + uptoBulkAll spare + 1
  | .agg parts => uptoBulkAll parts + 1
  | .iface _ d => uptoBulk d + 1
  | .map entries => uptoBulkEntries entries + 1
  | .held _ => 1
def uptoBulkAll {H : Type} : List (DataW H) → Nat
  | [] => 0
  | d :: r => uptoBulk d + uptoBulkAll r
def uptoBulkEntries {H : Type} : List (Lit × DataW H) → Nat
  | [] => 0
  | x :: r => uptoBulkEntry x + uptoBulkEntries r
def uptoBulkEntry {H : Type} : Lit × DataW H → Nat
  | (.string bytes, d) => bytes.length + uptoBulk d + 1
  | (_, d) => uptoBulk d + 1
 end
def uptoSmall : (H : Type) → List (DataW H) → Bool := fun _ ds => decide (uptoBulkAll ds ≤ 1048576)
def OpenSpec.upto (s : _root_.Go.ChangeSpec) : _root_.Go.OpenSpec := { _root_.Go.OpenSpec.ofChange s with cond := some uptoSmall }

/-- 'skewbacklaw42.LinkReceivesAsSpecified', WHERE WHAT IT READS IS OF BULK AT MOST 1048576: true; the input reads as it did. -/
def linkReceivesAsSpecifiedUptoRow : OpenClaim := { program := "ytakbadleipbngaa", sum := "c0966b23e73a8c61b8e45f99cfc9570916d8497ad17cebcea74ad3ef33beea27", func := "skewback/skewbacklaw42.LinkReceivesAsSpecified", spec := "linkReceivesAsSpecified", unfollowed := true, recurses := true, apart := false, narrowed := true }
def LinkReceivesAsSpecifiedUptoSaid : Prop := linkReceivesAsSpecifiedUptoRow.holds Try.pinned (OpenSpec.upto linkReceivesAsSpecifiedSpec)

/-- 'skewbacklaw42.LinkRunsAsSpecified', WHERE WHAT IT READS IS OF BULK AT MOST 1048576: true; the input reads as it did. -/
def linkRunsAsSpecifiedUptoRow : OpenClaim := { program := "ytakbadleipbngaa", sum := "c0966b23e73a8c61b8e45f99cfc9570916d8497ad17cebcea74ad3ef33beea27", func := "skewback/skewbacklaw42.LinkRunsAsSpecified", spec := "linkRunsAsSpecified", unfollowed := true, recurses := true, apart := false, narrowed := true }
def LinkRunsAsSpecifiedUptoSaid : Prop := linkRunsAsSpecifiedUptoRow.holds Try.pinned (OpenSpec.upto linkRunsAsSpecifiedSpec)

/-- 'skewbacklaw42.LinkEndsArePacked', WHERE WHAT IT READS IS OF BULK AT MOST 1048576: true; the input reads as it did. -/
def linkEndsArePackedUptoRow : OpenClaim := { program := "ytakbadleipbngaa", sum := "c0966b23e73a8c61b8e45f99cfc9570916d8497ad17cebcea74ad3ef33beea27", func := "skewback/skewbacklaw42.LinkEndsArePacked", spec := "linkEndsArePacked", unfollowed := true, recurses := true, apart := false, narrowed := true }
def LinkEndsArePackedUptoSaid : Prop := linkEndsArePackedUptoRow.holds Try.pinned (OpenSpec.upto linkEndsArePackedSpec)

/-- 'skewbacklaw42.LinkKeepsOrder', WHERE WHAT IT READS IS OF BULK AT MOST 1048576: true; the input reads as it did. -/
def linkKeepsOrderUptoRow : OpenClaim := { program := "ytakbadleipbngaa", sum := "c0966b23e73a8c61b8e45f99cfc9570916d8497ad17cebcea74ad3ef33beea27", func := "skewback/skewbacklaw42.LinkKeepsOrder", spec := "linkKeepsOrder", unfollowed := true, recurses := true, apart := false, narrowed := true }
def LinkKeepsOrderUptoSaid : Prop := linkKeepsOrderUptoRow.holds Try.pinned (OpenSpec.upto linkKeepsOrderSpec)

/-- 'skewbacklaw42.LinkComesToRest', WHERE WHAT IT READS IS OF BULK AT MOST 1048576: true; the input reads as it did. -/
def linkComesToRestUptoRow : OpenClaim := { program := "ytakbadleipbngaa", sum := "c0966b23e73a8c61b8e45f99cfc9570916d8497ad17cebcea74ad3ef33beea27", func := "skewback/skewbacklaw42.LinkComesToRest", spec := "linkComesToRest", unfollowed := true, recurses := true, apart := false, narrowed := true }
def LinkComesToRestUptoSaid : Prop := linkComesToRestUptoRow.holds Try.pinned (OpenSpec.upto linkComesToRestSpec)

end Rows
end Go.Proofs.Ytakbadleipbngaa
