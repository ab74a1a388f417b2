/-
  LinkReceivesAsSpecified: for every end with texts of at most 200 bytes, every text, and every frame: Check, Idle, Frames, Send and Receive return what the specification defines. Conditions: none.
-/
import Derived.Test.YtakbadleipbngaaLinkR
import Derived.Test.YtakbadleipbngaaLinkS
set_option linter.all false
namespace Go.Proofs.Ytakbadleipbngaa
open Go.ChangeShapes Go.WideShapes Go.ChangeAt Go.RowKit Go.ChangeMaps
namespace linkReceives
theorem own : ownKnob Try.prog.godebug = none := by kernel_rfl
theorem laid : laidOutB Try.prog = true := by kernel_rfl
set_option maxRecDepth 100000 in
theorem contract (H : Type) (enc : TypeId × Value → H) (W : World) (args : Array Value) (ds gs : List (DataW H)) (before : List MemPlace)
    (hval : ∀ (j : Nat) t v, Try.f3.params[j]? = some t → args[j]? = some v → Value.okWide Try.prog W .any 0 t v ∨ ∃ base, Value.okWide Try.prog W .any base t v)
    (hW : DataW.Whole enc Try.prog Try.f3.params.toList Rows.linkReceivesAsSpecifiedSpec.vars false W args.toList ds gs before) :
    Calls Try.prog 3 args W fun e W' => ∃ v, e = .returned v ∧ Rows.linkReceivesAsSpecifiedSpec.post enc Try.prog Try.f3 false true false false W args v W' := by
  have hW' := hW
  obtain ⟨p, q, hA0, hV, rfl, hfz, hnd⟩ := hW
  have hA : DataW.TrodAll enc Try.prog W 0 (fun _ => true) true Try.f3.params.toList args.toList ds p := hA0
  rw [Try.params3] at hA hval
  obtain ⟨v0, vs0, d0, ds0, p0, q0, hargs, rfl, rfl, h0, r0⟩ := trodAll_cons hA
  obtain ⟨v1, vs1, d1, ds1, p1, q1, rfl, rfl, rfl, h1, r1⟩ := trodAll_cons r0
  obtain ⟨v2, vs2, d2, ds2, p2, q2, rfl, rfl, rfl, h2, r2⟩ := trodAll_cons r1
  obtain ⟨rfl, rfl, rfl⟩ := trodAll_nil r2
  obtain rfl : args = #[v0, v1, v2] := by cases args; simp_all
  obtain ⟨rfl, rfl⟩ := trodVars_none hV
  obtain ⟨x0, w0, a0⟩ := arg_rep (k := 4) (t := 25) tok (by kernel_rfl) tb_25 (Classical.choose_spec (hv_of hval 0 rfl rfl)) h0
  obtain ⟨x1, w1, a1⟩ := arg_rep (k := 1) (t := 9) tok (by kernel_rfl) tb_9 (Classical.choose_spec (hv_of hval 1 rfl rfl)) h1
  obtain ⟨x2, w2, a2⟩ := arg_rep (k := 2) (t := 27) tok (by kernel_rfl) tb_27 (Classical.choose_spec (hv_of hval 2 rfl rfl)) h2
  obtain ⟨x, ex, h64⟩ := end_of_wt (k := 0) w0
  obtain ⟨t, rfl, _⟩ := str_of_wt (k := 0) w1
  obtain ⟨f, ef⟩ := frame_of_wt (k := 0) w2
  have a0' : PRep W F0 (endD x) v0 := by rw [← ex]; exact a0
  have a2' : PRep W F0 (frD f) v2 := by rw [← ef]; exact a2
  refine (says_of (l_receives x t f h64) rfl fun j d u hd hu => ?_).mono fun e W' hs => ?_
  · match j, hd, hu with
    | 0, hd, hu => cases hd; cases hu; exact a0'
    | 1, hd, hu => cases hd; cases hu; exact a1
    | 2, hd, hu => cases hd; cases hu; exact a2'
  · obtain ⟨rfl, hb⟩ := hs
    exact ⟨_, rfl, law_post laid rfl (by kernel_rfl) (by kernel_rfl) Try.underlying4 hW' rfl hb⟩
set_option maxRecDepth 100000 in
theorem lifted (os : Os) (started : os.Started) (H : Type) (enc : TypeId × Value → H) :
    ReturnsInHanded {} Try.checked os 3 .any (Rows.linkReceivesAsSpecifiedSpec.pre6 enc Try.prog Try.f3 Rows.linkReceivesAsSpecifiedRow.domain false) (Rows.linkReceivesAsSpecifiedSpec.post enc Try.prog Try.f3 false true false false) := by
  refine returnsInHanded_of_change_sized (C := Try.checked) own started (by kernel_rfl) Try.func3
    (ChangeSpec.witness6 (enc := enc) (C := Try.checked) false ⟨#[], #[.agg #[.int .i64 0, .slice none 0 0, .int .i64 0, .slice none 0 0], .string ⟨#[]⟩, .agg #[.int .i64 0, .int .i64 0, .string ⟨#[]⟩]], []⟩ 8 (by kernel_rfl) (by kernel_rfl) (by kernel_rfl) (by kernel_rfl)) ?_
  intro W base args ds gs before hval hW _ _ _
  exact contract H enc W args ds gs before (fun j t v h1 h2 => .inr ⟨base, hval j t v h1 h2⟩) hW
theorem proved : Rows.LinkReceivesAsSpecifiedSaid :=
  OpenClaim.holds_of_wide 3 Try.f3 rfl rfl rfl rfl rfl rfl rfl ⟨rfl, rfl, rfl, rfl, rfl⟩ rfl rfl rfl rfl rfl (by kernel_rfl) Try.func3 (by kernel_rfl)
    (of_decide_eq_true (by kernel_rfl)) (by unfold Func.isWrapper; first | (rw [if_pos (by decide +kernel)]; kernel_rfl) | (rw [if_neg (by decide +kernel)]; exact ⟨rfl, rfl⟩))
    (fun os started H enc _ => lifted os started H enc)
end linkReceives
#print axioms linkReceives.proved
end Go.Proofs.Ytakbadleipbngaa
