/-
  No cell of these rows narrows 'for every input' (looked for: loops, veiled, ifaces, maps, wideKeys, modest, calm, conditions, laid).
  DERIVED. THE GIVEN ROWS OF THIS SEAT. 8 by the template 'for every input the law returns true; each argument reads behind the call as it read before'; 0 by the template 'total and deterministic' (their statements: YtaedcknhkjpmlaaGreatTotals.lean).
  GIVEN WITH THE SEED: the statements are not yours to turn. If you find one false, say at which input.
  Laid BY PROGRAM, IN A SANDBOX (cutbox-rows.mjs): the forced cells as the released guide's own fill.sh prints them over the translation 17bd0ccf8e1de54a… (all of the seat's roots in one cut). By AI agents, Wed Nov 11 2026. No macro, syntax, notation, axiom, sorry.
-/
import Derived.Test.YtaedcknhkjpmlaaGreatChecked
import GoSem.Claim
import GoSem.ClaimJoined
import GoSem.ClaimMapViews
import Derived.JoinedTies
import Derived.KernelRfl
namespace Go.Proofs.YtaedcknhkjpmlaaGreat
/- THE CELL 'sum', in the pinned program and in every row, IS THE sha256 OF THE DUMP (.gsa) THAT YtaedcknhkjpmlaaGreatProg.lean LOADS. Nothing in Lean hashes anything: it is a label: what it is worth is what the hold of that sum in a sandbox is worth. -/
noncomputable def Tryz.pinned : Pinned := { name := "ytaedcknhkjpmlaagreat", sum := "17bd0ccf8e1de54ab567a77c8b4bcc1517706b3210d11d00ab2c561acf5479a4", checked := Tryz.checked }
namespace Rows
def none {H : Type} : Left H := { results := [], args := [] }

/-- 'skewbacklaw20.SimplexSolvesAsSpecified': WHATEVER THE INPUT: true; the input reads as it did. -/
def simplexSolvesAsSpecifiedSpec : ChangeSpec := { name := "simplexSolvesAsSpecified", fn := fun _ => fun
  | [d1, d2] => { results := [.lit (.bool true)], args := [d1, d2] }
  | _ => none }
def simplexSolvesAsSpecifiedRow : OpenClaim := { program := "ytaedcknhkjpmlaagreat", sum := "17bd0ccf8e1de54ab567a77c8b4bcc1517706b3210d11d00ab2c561acf5479a4", func := "skewback/skewbacklaw20.SimplexSolvesAsSpecified", spec := "simplexSolvesAsSpecified", unfollowed := true, recurses := true, apart := false }
def SimplexSolvesAsSpecifiedSaid : Prop := simplexSolvesAsSpecifiedRow.holds Tryz.pinned (OpenSpec.ofChange simplexSolvesAsSpecifiedSpec)

/-- ITS FALSE NEIGHBOUR: 'it returns false'. Refute it at one input. -/
def simplexSolvesAsSpecifiedWrong : ChangeSpec := { name := "simplexSolvesAsSpecified", fn := fun _ => fun
  | [d1, d2] => { results := [.lit (.bool false)], args := [d1, d2] }
  | _ => none }
def SimplexSolvesAsSpecifiedWrongFalsely : Prop := simplexSolvesAsSpecifiedRow.holds Tryz.pinned (OpenSpec.ofChange simplexSolvesAsSpecifiedWrong)

/-- 'skewbacklaw20.SimplexChecksAsSpecified': WHATEVER THE INPUT: true; the input reads as it did. -/
def simplexChecksAsSpecifiedSpec : ChangeSpec := { name := "simplexChecksAsSpecified", fn := fun _ => fun
  | [d1, d2] => { results := [.lit (.bool true)], args := [d1, d2] }
  | _ => none }
def simplexChecksAsSpecifiedRow : OpenClaim := { program := "ytaedcknhkjpmlaagreat", sum := "17bd0ccf8e1de54ab567a77c8b4bcc1517706b3210d11d00ab2c561acf5479a4", func := "skewback/skewbacklaw20.SimplexChecksAsSpecified", spec := "simplexChecksAsSpecified", unfollowed := true, recurses := true, apart := false }
def SimplexChecksAsSpecifiedSaid : Prop := simplexChecksAsSpecifiedRow.holds Tryz.pinned (OpenSpec.ofChange simplexChecksAsSpecifiedSpec)

/-- ITS FALSE NEIGHBOUR: 'it returns false'. Refute it at one input. -/
def simplexChecksAsSpecifiedWrong : ChangeSpec := { name := "simplexChecksAsSpecified", fn := fun _ => fun
  | [d1, d2] => { results := [.lit (.bool false)], args := [d1, d2] }
  | _ => none }
def SimplexChecksAsSpecifiedWrongFalsely : Prop := simplexChecksAsSpecifiedRow.holds Tryz.pinned (OpenSpec.ofChange simplexChecksAsSpecifiedWrong)

/-- 'skewbacklaw20.SimplexEqualsAsSpecified': WHATEVER THE INPUT: true; the input reads as it did. -/
def simplexEqualsAsSpecifiedSpec : ChangeSpec := { name := "simplexEqualsAsSpecified", fn := fun _ => fun
  | [d1, d2, d3, d4] => { results := [.lit (.bool true)], args := [d1, d2, d3, d4] }
  | _ => none }
def simplexEqualsAsSpecifiedRow : OpenClaim := { program := "ytaedcknhkjpmlaagreat", sum := "17bd0ccf8e1de54ab567a77c8b4bcc1517706b3210d11d00ab2c561acf5479a4", func := "skewback/skewbacklaw20.SimplexEqualsAsSpecified", spec := "simplexEqualsAsSpecified", unfollowed := true, recurses := true, apart := false }
def SimplexEqualsAsSpecifiedSaid : Prop := simplexEqualsAsSpecifiedRow.holds Tryz.pinned (OpenSpec.ofChange simplexEqualsAsSpecifiedSpec)

/-- ITS FALSE NEIGHBOUR: 'it returns false'. Refute it at one input. -/
def simplexEqualsAsSpecifiedWrong : ChangeSpec := { name := "simplexEqualsAsSpecified", fn := fun _ => fun
  | [d1, d2, d3, d4] => { results := [.lit (.bool false)], args := [d1, d2, d3, d4] }
  | _ => none }
def SimplexEqualsAsSpecifiedWrongFalsely : Prop := simplexEqualsAsSpecifiedRow.holds Tryz.pinned (OpenSpec.ofChange simplexEqualsAsSpecifiedWrong)

/-- 'skewbacklaw20.SimplexProves': WHATEVER THE INPUT: true; the input reads as it did. -/
def simplexProvesSpec : ChangeSpec := { name := "simplexProves", fn := fun _ => fun
  | [d] => { results := [.lit (.bool true)], args := [d] }
  | _ => none }
def simplexProvesRow : OpenClaim := { program := "ytaedcknhkjpmlaagreat", sum := "17bd0ccf8e1de54ab567a77c8b4bcc1517706b3210d11d00ab2c561acf5479a4", func := "skewback/skewbacklaw20.SimplexProves", spec := "simplexProves", unfollowed := true, recurses := true, apart := false }
def SimplexProvesSaid : Prop := simplexProvesRow.holds Tryz.pinned (OpenSpec.ofChange simplexProvesSpec)

/-- ITS FALSE NEIGHBOUR: 'it returns false'. Refute it at one input. -/
def simplexProvesWrong : ChangeSpec := { name := "simplexProves", fn := fun _ => fun
  | [d] => { results := [.lit (.bool false)], args := [d] }
  | _ => none }
def SimplexProvesWrongFalsely : Prop := simplexProvesRow.holds Tryz.pinned (OpenSpec.ofChange simplexProvesWrong)

/-- 'skewbacklaw20.SimplexAnswersAgree': WHATEVER THE INPUT: true; the input reads as it did. -/
def simplexAnswersAgreeSpec : ChangeSpec := { name := "simplexAnswersAgree", fn := fun _ => fun
  | [d1, d2, d3] => { results := [.lit (.bool true)], args := [d1, d2, d3] }
  | _ => none }
def simplexAnswersAgreeRow : OpenClaim := { program := "ytaedcknhkjpmlaagreat", sum := "17bd0ccf8e1de54ab567a77c8b4bcc1517706b3210d11d00ab2c561acf5479a4", func := "skewback/skewbacklaw20.SimplexAnswersAgree", spec := "simplexAnswersAgree", unfollowed := true, recurses := true, apart := false }
def SimplexAnswersAgreeSaid : Prop := simplexAnswersAgreeRow.holds Tryz.pinned (OpenSpec.ofChange simplexAnswersAgreeSpec)

/-- ITS FALSE NEIGHBOUR: 'it returns false'. Refute it at one input. -/
def simplexAnswersAgreeWrong : ChangeSpec := { name := "simplexAnswersAgree", fn := fun _ => fun
  | [d1, d2, d3] => { results := [.lit (.bool false)], args := [d1, d2, d3] }
  | _ => none }
def SimplexAnswersAgreeWrongFalsely : Prop := simplexAnswersAgreeRow.holds Tryz.pinned (OpenSpec.ofChange simplexAnswersAgreeWrong)

/-- 'skewbacklaw20.SimplexIsSymmetric': WHATEVER THE INPUT: true; the input reads as it did. -/
def simplexIsSymmetricSpec : ChangeSpec := { name := "simplexIsSymmetric", fn := fun _ => fun
  | [d1, d2] => { results := [.lit (.bool true)], args := [d1, d2] }
  | _ => none }
def simplexIsSymmetricRow : OpenClaim := { program := "ytaedcknhkjpmlaagreat", sum := "17bd0ccf8e1de54ab567a77c8b4bcc1517706b3210d11d00ab2c561acf5479a4", func := "skewback/skewbacklaw20.SimplexIsSymmetric", spec := "simplexIsSymmetric", unfollowed := true, recurses := true, apart := false }
def SimplexIsSymmetricSaid : Prop := simplexIsSymmetricRow.holds Tryz.pinned (OpenSpec.ofChange simplexIsSymmetricSpec)

/-- ITS FALSE NEIGHBOUR: 'it returns false'. Refute it at one input. -/
def simplexIsSymmetricWrong : ChangeSpec := { name := "simplexIsSymmetric", fn := fun _ => fun
  | [d1, d2] => { results := [.lit (.bool false)], args := [d1, d2] }
  | _ => none }
def SimplexIsSymmetricWrongFalsely : Prop := simplexIsSymmetricRow.holds Tryz.pinned (OpenSpec.ofChange simplexIsSymmetricWrong)

/-- 'skewbacklaw20.SimplexBalances': WHATEVER THE INPUT: true; the input reads as it did. -/
def simplexBalancesSpec : ChangeSpec := { name := "simplexBalances", fn := fun _ => fun
  | [d1, d2, d3, d4] => { results := [.lit (.bool true)], args := [d1, d2, d3, d4] }
  | _ => none }
def simplexBalancesRow : OpenClaim := { program := "ytaedcknhkjpmlaagreat", sum := "17bd0ccf8e1de54ab567a77c8b4bcc1517706b3210d11d00ab2c561acf5479a4", func := "skewback/skewbacklaw20.SimplexBalances", spec := "simplexBalances", unfollowed := true, recurses := true, apart := false }
def SimplexBalancesSaid : Prop := simplexBalancesRow.holds Tryz.pinned (OpenSpec.ofChange simplexBalancesSpec)

/-- ITS FALSE NEIGHBOUR: 'it returns false'. Refute it at one input. -/
def simplexBalancesWrong : ChangeSpec := { name := "simplexBalances", fn := fun _ => fun
  | [d1, d2, d3, d4] => { results := [.lit (.bool false)], args := [d1, d2, d3, d4] }
  | _ => none }
def SimplexBalancesWrongFalsely : Prop := simplexBalancesRow.holds Tryz.pinned (OpenSpec.ofChange simplexBalancesWrong)

/-- 'skewbacklaw20.SimplexIsBest': WHATEVER THE INPUT: true; the input reads as it did. -/
def simplexIsBestSpec : ChangeSpec := { name := "simplexIsBest", fn := fun _ => fun
  | [d1, d2] => { results := [.lit (.bool true)], args := [d1, d2] }
  | _ => none }
def simplexIsBestRow : OpenClaim := { program := "ytaedcknhkjpmlaagreat", sum := "17bd0ccf8e1de54ab567a77c8b4bcc1517706b3210d11d00ab2c561acf5479a4", func := "skewback/skewbacklaw20.SimplexIsBest", spec := "simplexIsBest", unfollowed := true, recurses := true, apart := false }
def SimplexIsBestSaid : Prop := simplexIsBestRow.holds Tryz.pinned (OpenSpec.ofChange simplexIsBestSpec)

/-- ITS FALSE NEIGHBOUR: 'it returns false'. Refute it at one input. -/
def simplexIsBestWrong : ChangeSpec := { name := "simplexIsBest", fn := fun _ => fun
  | [d1, d2] => { results := [.lit (.bool false)], args := [d1, d2] }
  | _ => none }
def SimplexIsBestWrongFalsely : Prop := simplexIsBestRow.holds Tryz.pinned (OpenSpec.ofChange simplexIsBestWrong)

/- THE SECOND FORM. 'bulk': how many values and letters a reading holds, each counted each time it is reached (what is shared counts as often as it is met; a slice's spare places count too). A statement '..UptoSaid' is the law's where the arguments, and the package variables that the reading takes, are together of bulk at most 1048576: NARROWER than '..Said'. Prove '..Said' where nothing that the law and all that it calls make is longer than what came in: it says more and counts as full. Else prove '..UptoSaid'. A law counts once. -/
mutual
def uptoBulk {H : Type} : DataW H → Nat
  | .lit (.string bytes) => bytes.length + 1
  | .lit _ => 1
  | .nil => 1
  | .ptr d => uptoBulk d + 1
  | .slice elems spare => uptoBulkAll elems + uptoBulkAll spare + 1
  | .agg parts => uptoBulkAll parts + 1
  | .iface _ d => uptoBulk d + 1
  | .map entries => uptoBulkEntries entries + 1
  | .held _ => 1
def uptoBulkAll {H : Type} : List (DataW H) → Nat
  | [] => 0
  | d :: r => uptoBulk d + uptoBulkAll r
def uptoBulkEntries {H : Type} : List (Lit × DataW H) → Nat
  | [] => 0
  | x :: r => uptoBulkEntry x + uptoBulkEntries r
def uptoBulkEntry {H : Type} : Lit × DataW H → Nat
  | (.string bytes, d) => bytes.length + uptoBulk d + 1
  | (_, d) => uptoBulk d + 1
 end
def uptoSmall : (H : Type) → List (DataW H) → Bool := fun _ ds => decide (uptoBulkAll ds ≤ 1048576)
def OpenSpec.upto (s : _root_.Go.ChangeSpec) : _root_.Go.OpenSpec := { _root_.Go.OpenSpec.ofChange s with cond := some uptoSmall }

/-- 'skewbacklaw20.SimplexSolvesAsSpecified', WHERE WHAT IT READS IS OF BULK AT MOST 1048576: true; the input reads as it did. -/
def simplexSolvesAsSpecifiedUptoRow : OpenClaim := { program := "ytaedcknhkjpmlaagreat", sum := "17bd0ccf8e1de54ab567a77c8b4bcc1517706b3210d11d00ab2c561acf5479a4", func := "skewback/skewbacklaw20.SimplexSolvesAsSpecified", spec := "simplexSolvesAsSpecified", unfollowed := true, recurses := true, apart := false, narrowed := true }
def SimplexSolvesAsSpecifiedUptoSaid : Prop := simplexSolvesAsSpecifiedUptoRow.holds Tryz.pinned (OpenSpec.upto simplexSolvesAsSpecifiedSpec)

/-- 'skewbacklaw20.SimplexChecksAsSpecified', WHERE WHAT IT READS IS OF BULK AT MOST 1048576: true; the input reads as it did. -/
def simplexChecksAsSpecifiedUptoRow : OpenClaim := { program := "ytaedcknhkjpmlaagreat", sum := "17bd0ccf8e1de54ab567a77c8b4bcc1517706b3210d11d00ab2c561acf5479a4", func := "skewback/skewbacklaw20.SimplexChecksAsSpecified", spec := "simplexChecksAsSpecified", unfollowed := true, recurses := true, apart := false, narrowed := true }
def SimplexChecksAsSpecifiedUptoSaid : Prop := simplexChecksAsSpecifiedUptoRow.holds Tryz.pinned (OpenSpec.upto simplexChecksAsSpecifiedSpec)

/-- 'skewbacklaw20.SimplexEqualsAsSpecified', WHERE WHAT IT READS IS OF BULK AT MOST 1048576: true; the input reads as it did. -/
def simplexEqualsAsSpecifiedUptoRow : OpenClaim := { program := "ytaedcknhkjpmlaagreat", sum := "17bd0ccf8e1de54ab567a77c8b4bcc1517706b3210d11d00ab2c561acf5479a4", func := "skewback/skewbacklaw20.SimplexEqualsAsSpecified", spec := "simplexEqualsAsSpecified", unfollowed := true, recurses := true, apart := false, narrowed := true }
def SimplexEqualsAsSpecifiedUptoSaid : Prop := simplexEqualsAsSpecifiedUptoRow.holds Tryz.pinned (OpenSpec.upto simplexEqualsAsSpecifiedSpec)

/-- 'skewbacklaw20.SimplexProves', WHERE WHAT IT READS IS OF BULK AT MOST 1048576: true; the input reads as it did. -/
def simplexProvesUptoRow : OpenClaim := { program := "ytaedcknhkjpmlaagreat", sum := "17bd0ccf8e1de54ab567a77c8b4bcc1517706b3210d11d00ab2c561acf5479a4", func := "skewback/skewbacklaw20.SimplexProves", spec := "simplexProves", unfollowed := true, recurses := true, apart := false, narrowed := true }
def SimplexProvesUptoSaid : Prop := simplexProvesUptoRow.holds Tryz.pinned (OpenSpec.upto simplexProvesSpec)

/-- 'skewbacklaw20.SimplexAnswersAgree', WHERE WHAT IT READS IS OF BULK AT MOST 1048576: true; the input reads as it did. -/
def simplexAnswersAgreeUptoRow : OpenClaim := { program := "ytaedcknhkjpmlaagreat", sum := "17bd0ccf8e1de54ab567a77c8b4bcc1517706b3210d11d00ab2c561acf5479a4", func := "skewback/skewbacklaw20.SimplexAnswersAgree", spec := "simplexAnswersAgree", unfollowed := true, recurses := true, apart := false, narrowed := true }
def SimplexAnswersAgreeUptoSaid : Prop := simplexAnswersAgreeUptoRow.holds Tryz.pinned (OpenSpec.upto simplexAnswersAgreeSpec)

/-- 'skewbacklaw20.SimplexIsSymmetric', WHERE WHAT IT READS IS OF BULK AT MOST 1048576: true; the input reads as it did. -/
def simplexIsSymmetricUptoRow : OpenClaim := { program := "ytaedcknhkjpmlaagreat", sum := "17bd0ccf8e1de54ab567a77c8b4bcc1517706b3210d11d00ab2c561acf5479a4", func := "skewback/skewbacklaw20.SimplexIsSymmetric", spec := "simplexIsSymmetric", unfollowed := true, recurses := true, apart := false, narrowed := true }
def SimplexIsSymmetricUptoSaid : Prop := simplexIsSymmetricUptoRow.holds Tryz.pinned (OpenSpec.upto simplexIsSymmetricSpec)

/-- 'skewbacklaw20.SimplexBalances', WHERE WHAT IT READS IS OF BULK AT MOST 1048576: true; the input reads as it did. -/
def simplexBalancesUptoRow : OpenClaim := { program := "ytaedcknhkjpmlaagreat", sum := "17bd0ccf8e1de54ab567a77c8b4bcc1517706b3210d11d00ab2c561acf5479a4", func := "skewback/skewbacklaw20.SimplexBalances", spec := "simplexBalances", unfollowed := true, recurses := true, apart := false, narrowed := true }
def SimplexBalancesUptoSaid : Prop := simplexBalancesUptoRow.holds Tryz.pinned (OpenSpec.upto simplexBalancesSpec)

/-- 'skewbacklaw20.SimplexIsBest', WHERE WHAT IT READS IS OF BULK AT MOST 1048576: true; the input reads as it did. -/
def simplexIsBestUptoRow : OpenClaim := { program := "ytaedcknhkjpmlaagreat", sum := "17bd0ccf8e1de54ab567a77c8b4bcc1517706b3210d11d00ab2c561acf5479a4", func := "skewback/skewbacklaw20.SimplexIsBest", spec := "simplexIsBest", unfollowed := true, recurses := true, apart := false, narrowed := true }
def SimplexIsBestUptoSaid : Prop := simplexIsBestUptoRow.holds Tryz.pinned (OpenSpec.upto simplexIsBestSpec)

end Rows
end Go.Proofs.YtaedcknhkjpmlaaGreat
