/-
  layer 42: Receive as a function on data. Conditions: none.
-/
import Derived.Test.YtakbadleipbngaaLinkL2
set_option linter.all false
namespace Go.Proofs.Ytakbadleipbngaa
open Go.RowKit
noncomputable def g_link_Receive (x : S_End) (f : S_Frame) : Option (S_End × List ByteArray) := gd ((toL x).okB = true) (some (ofL ((toL x).receive (toF f)).1, ((toL x).receive (toF f)).2))
theorem w_link_Receive {x : S_End} {f : S_Frame} {r : S_End × List ByteArray} (h : g_link_Receive x f = some r) : PCalls Try.prog 14 [dG c_End x, dG c_Frame f] (.tu [dG c_End r.1, dL cS r.2]) := by
  obtain ⟨hok, h⟩ := gd_some h
  obtain rfl := Option.some.inj h
  have := a_Receive (toL x) (toF f) ((LEnd.okB_iff _).1 hok)
  rw [← endD_of, ← endD_of, ofL_toL] at this
  dsimp only [dL, slE]
  rw [sE_of]
  exact this
theorem G_Receive {x : LEnd} (h : x.Ok) (f : LFrame) : g_link_Receive (ofL x) (ofF f) = some (ofL (x.receive f).1, (x.receive f).2) := by
  unfold g_link_Receive
  rw [toL_ofL, toF_ofF, gd_pos ((LEnd.okB_iff _).2 h)]
end Go.Proofs.Ytakbadleipbngaa
