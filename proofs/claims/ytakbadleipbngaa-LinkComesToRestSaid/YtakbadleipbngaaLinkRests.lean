/-
  LinkComesToRest: after at most 300 operations, if both ends in turn receive all frames of the other one often enough, all texts that were sent are delivered, and both are idle. Conditions: none.
-/
import Derived.Test.YtakbadleipbngaaLinkRestP
import Derived.Test.YtakbadleipbngaaLiftG
import Derived.Test.YtakbadleipbngaaRows
set_option linter.all false
namespace Go.Proofs.Ytakbadleipbngaa
open Go.ChangeShapes Go.WideShapes Go.ChangeAt Go.RowKit Go.ChangeMaps
def W_Op (x : S_Op) : Prop := (Wi .u8 x.vKind) ∧ (Wi .u8 x.vSide) ∧ (Wi .u16 x.vN)
theorem rd_Op : Rd tbl 55 2 c_Op W_Op := by
  intro k xs h
  obtain ⟨i, hi, hl, h⟩ := h
  rw [tb_55] at hi; cases hi
  obtain ⟨j0, e0, l0, f0, j1, e1, l1, f1, j2, e2, l2, f2, h⟩ := h
  rw [tb_5] at e0; cases e0
  obtain ⟨a0, h0, w0⟩ := (rd_I tb_5 rfl) _ _ f0
  rw [tb_5] at e1; cases e1
  obtain ⟨a1, h1, w1⟩ := (rd_I tb_5 rfl) _ _ f1
  rw [tb_53] at e2; cases e2
  obtain ⟨a2, h2, w2⟩ := (rd_I tb_53 rfl) _ _ f2
  refine ⟨⟨a0, a1, a2⟩, (take_parts h0 (take_parts h1 (take_parts h2 h))).trans ?_, ⟨w0, w1, w2⟩⟩
  first | rfl | simp [c_Op]
namespace linkRests
theorem own : ownKnob Try.prog.godebug = none := by kernel_rfl
theorem laid : laidOutB Try.prog = true := by kernel_rfl
set_option maxRecDepth 100000 in
theorem contract (H : Type) (enc : TypeId × Value → H) (W : World) (args : Array Value) (ds gs : List (DataW H)) (before : List MemPlace)
    (hval : ∀ (j : Nat) t v, Try.f7.params[j]? = some t → args[j]? = some v → Value.okWide Try.prog W .any 0 t v ∨ ∃ base, Value.okWide Try.prog W .any base t v)
    (hW : DataW.Whole enc Try.prog Try.f7.params.toList Rows.linkComesToRestSpec.vars false W args.toList ds gs before) :
    Calls Try.prog 7 args W fun e W' => ∃ v, e = .returned v ∧ Rows.linkComesToRestSpec.post enc Try.prog Try.f7 false true false false W args v W' := by
  have hW' := hW
  obtain ⟨p, q, hA0, hV, rfl, hfz, hnd⟩ := hW
  have hA : DataW.TrodAll enc Try.prog W 0 (fun _ => true) true Try.f7.params.toList args.toList ds p := hA0
  rw [Try.params7] at hA hval
  obtain ⟨v0, vs0, d0, ds0, p0, q0, hargs, rfl, rfl, h0, r0⟩ := trodAll_cons hA
  obtain ⟨rfl, rfl, rfl⟩ := trodAll_nil r0
  obtain rfl : args = #[v0] := by cases args; simp_all
  obtain ⟨rfl, rfl⟩ := trodVars_none hV
  obtain ⟨a0, b0, w0⟩ := arg_of (k := 0) (t := 48) tok (by kernel_rfl) tb_48 (rd_L tb_48 tb_55 (rd_Op)) (Classical.choose_spec (hv_of hval 0 rfl rfl)) h0
  refine (says_of (w_law42_LinkComesToRest (G_rests a0 fun o ho => w0.2 o ho)) rfl fun j d u hd hu => ?_).mono fun e W' hs => ?_
  · match j, hd, hu with
    | 0, hd, hu => cases hd; cases hu; exact b0
  · obtain ⟨rfl, hb⟩ := hs
    exact ⟨_, rfl, law_post laid rfl (by kernel_rfl) (by kernel_rfl) Try.underlying4 hW' rfl hb⟩
set_option maxRecDepth 100000 in
theorem lifted (os : Os) (started : os.Started) (H : Type) (enc : TypeId × Value → H) :
    ReturnsInHanded {} Try.checked os 7 .any (Rows.linkComesToRestSpec.pre6 enc Try.prog Try.f7 Rows.linkComesToRestRow.domain false) (Rows.linkComesToRestSpec.post enc Try.prog Try.f7 false true false false) := by
  refine returnsInHanded_of_change_sized (C := Try.checked) own started (by kernel_rfl) Try.func7
    (ChangeSpec.witness6 (enc := enc) (C := Try.checked) false ⟨#[], #[.slice none 0 0], []⟩ 8 (by kernel_rfl) (by kernel_rfl) (by kernel_rfl) (by kernel_rfl)) ?_
  intro W base args ds gs before hval hW _ _ _
  exact contract H enc W args ds gs before (fun j t v h1 h2 => .inr ⟨base, hval j t v h1 h2⟩) hW
theorem proved : Rows.LinkComesToRestSaid :=
  OpenClaim.holds_of_wide 7 Try.f7 rfl rfl rfl rfl rfl rfl rfl ⟨rfl, rfl, rfl, rfl, rfl⟩ rfl rfl rfl rfl rfl (by kernel_rfl) Try.func7 (by kernel_rfl)
    (of_decide_eq_true (by kernel_rfl)) (by unfold Func.isWrapper; first | (rw [if_pos (by decide +kernel)]; kernel_rfl) | (rw [if_neg (by decide +kernel)]; exact ⟨rfl, rfl⟩))
    (fun os started H enc _ => lifted os started H enc)
end linkRests
#print axioms linkRests.proved
end Go.Proofs.Ytakbadleipbngaa
