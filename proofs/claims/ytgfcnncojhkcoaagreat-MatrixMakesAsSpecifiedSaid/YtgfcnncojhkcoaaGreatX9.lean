/-
  Lemmas, part 9. Conditions: none.
-/
import Derived.Test.YtgfcnncojhkcoaaGreatX8
import Derived.Test.YtgfcnncojhkcoaaGreatRows
set_option linter.all false
set_option maxRecDepth 100000
namespace Go.Proofs.YtgfcnncojhkcoaaGreat
open Go.RowKit Go.IntKind Tryz Go.Proofs.Tryz
noncomputable section
section
open Go.ChangeShapes Go.WideShapes Go.ChangeAt Go.RowKit Go.ChangeMaps
namespace matrixMakes
theorem k0:(Rows.matrixMakesAsSpecifiedRow.wf (OpenSpec.ofChange Rows.matrixMakesAsSpecifiedSpec))=true:=by kernel_rfl
theorem k1:(laidOutB prog)=true:=by kernel_rfl
theorem k2:(mapsRowed prog)=true:=by kernel_rfl
theorem k3:(f9.params.all (prog.readableRec ·))=true:=by kernel_rfl
theorem k4:(namedTie prog Rows.matrixMakesAsSpecifiedRow.named Rows.matrixMakesAsSpecifiedSpec.vars)=true:=by kernel_rfl
theorem k5:((Rows.matrixMakesAsSpecifiedRow.stops == []))=true:=by kernel_rfl
theorem k6:((prog.stops == []))=true:=by kernel_rfl
theorem k7:((Rows.matrixMakesAsSpecifiedRow.knobs == []))=true:=by kernel_rfl
theorem k8:((prog.stopKnobs == []))=true:=by kernel_rfl
theorem k9:((Rows.matrixMakesAsSpecifiedRow.inPlace == prog.inPlace 9))=true:=by kernel_rfl
theorem k10:((Rows.matrixMakesAsSpecifiedRow.unfollowed == prog.unfollowed 9))=true:=by kernel_rfl
theorem k11:((Rows.matrixMakesAsSpecifiedRow.recurses == prog.recurses 9))=true:=by kernel_rfl
theorem k12:((Rows.matrixMakesAsSpecifiedRow.named == prog.varsNamed 9))=true:=by kernel_rfl
theorem k13:((Rows.matrixMakesAsSpecifiedRow.maps == (f9.params.toList++Rows.matrixMakesAsSpecifiedSpec.plain.varTypes prog).any (prog.mapsRec ·)))=true:=by kernel_rfl
theorem k14:((Rows.matrixMakesAsSpecifiedRow.ifaces == (f9.params.toList++Rows.matrixMakesAsSpecifiedSpec.plain.varTypes prog).any (prog.ifacesRec ·)))=true:=by kernel_rfl
theorem k15:((Rows.matrixMakesAsSpecifiedRow.mapsOut == prog.mapsAmong f9.resultTypes.toList))=true:=by kernel_rfl
theorem k16:((Rows.matrixMakesAsSpecifiedRow.loops == (f9.params.toList++Rows.matrixMakesAsSpecifiedSpec.plain.varTypes prog).any (prog.loopsFrom ·)))=true:=by kernel_rfl
theorem k17:((Rows.matrixMakesAsSpecifiedRow.wideKeys == (f9.params.toList++Rows.matrixMakesAsSpecifiedSpec.plain.varTypes prog++f9.resultTypes.toList).any (prog.wideKeysFrom ·)))=true:=by kernel_rfl
theorem k18:(Rows.matrixMakesAsSpecifiedSpec.vars.all (prog.varReadable ·))=true:=by kernel_rfl
theorem k19:(f9.resultTypes.all (fun t=>prog.readableRec t&&decide (t<prog.types.size)))=true:=by kernel_rfl
theorem k20:((Rows.matrixMakesAsSpecifiedRow.ifacesOut == f9.resultTypes.toList.any (prog.ifacesRec ·)))=true:=by kernel_rfl
theorem k21:((Rows.matrixMakesAsSpecifiedRow.loopsOut == f9.resultTypes.toList.any (prog.loopsFrom ·)))=true:=by kernel_rfl
theorem k22:((Rows.matrixMakesAsSpecifiedRow.plainKeys == prog.plainKeys))=true:=by kernel_rfl
theorem k23:(Rows.matrixMakesAsSpecifiedRow.shortTexts.isNone)=true:=by kernel_rfl
theorem k24:(prog.stopsHeard)=true:=by kernel_rfl
theorem k25:(prog.mayEnter)=true:=by kernel_rfl
theorem k26:((Rows.matrixMakesAsSpecifiedRow.lifted == prog.liftsFinal))=true:=by kernel_rfl
theorem k27:((prog.make == some Rows.matrixMakesAsSpecifiedRow.make))=true:=by kernel_rfl
theorem k28:((Rows.matrixMakesAsSpecifiedRow.kinds == (if Rows.matrixMakesAsSpecifiedRow.domain.isEmpty then [] else f9.params.toList.map fun t=>match prog.underlying t with|some (.int k)=>some k|_=>none)))=true:=by kernel_rfl
theorem k29:((Rows.matrixMakesAsSpecifiedRow.pinned == Rows.matrixMakesAsSpecifiedRow.pinnedBy))=true:=by kernel_rfl
theorem k30:((Rows.matrixMakesAsSpecifiedRow.veiled == (f9.params.toList++Rows.matrixMakesAsSpecifiedSpec.plain.varTypes prog++f9.resultTypes.toList).any (prog.veiledRec ·)))=true:=by kernel_rfl
theorem k31:(Rows.matrixMakesAsSpecifiedRow.veiledFits prog f9.params.toList (f9.params.toList++Rows.matrixMakesAsSpecifiedSpec.plain.varTypes prog++f9.resultTypes.toList))=true:=by kernel_rfl
theorem nW {a b:Bool}(h:a=true)(h2:b=true):(a&&b)=true:=by rw[h,h2];rfl
theorem closed:joinedFacts prog 9 f9 Rows.matrixMakesAsSpecifiedSpec Rows.matrixMakesAsSpecifiedRow=true:=by
 delta joinedFacts
 exact nW (nW (nW (nW (nW (nW (nW (nW (nW (nW (nW (nW (nW (nW (nW (nW (nW (nW (nW (nW (nW (nW (nW (nW (nW (nW (nW (nW (nW (nW (nW k0 k1) k2) k3) k4) k5) k6) k7) k8) k9) k10) k11) k12) k13) k14) k15) k16) k17) k18) k19) k20) k21) k22) k23) k24) k25) k26) k27) k28) k29) k30) k31
end matrixMakes
end
end
end Go.Proofs.YtgfcnncojhkcoaaGreat
