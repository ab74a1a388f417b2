/-
  LinkEndsArePacked: for every end with short texts, or one that is not valid, and all bytes, Pack returns what the specification defines, Unpack of it the end, and what Unpack accepts is the encoding of its result. Conditions: none.
-/
import Derived.Test.YtakbadleipbngaaLinkEndsP
import Derived.Test.YtakbadleipbngaaLiftG
import Derived.Test.YtakbadleipbngaaRows
set_option linter.all false
namespace Go.Proofs.Ytakbadleipbngaa
open Go.ChangeShapes Go.WideShapes Go.ChangeAt Go.RowKit Go.ChangeMaps
def W_Held (x : S_Held) : Prop := (Wi .i64 x.vSeq) ∧ (x.vData.size ≤ maxLen)
theorem rd_Held : Rd tbl 74 2 c_Held W_Held := by
  intro k xs h
  obtain ⟨i, hi, hl, h⟩ := h
  rw [tb_74] at hi; cases hi
  obtain ⟨j0, e0, l0, f0, j1, e1, l1, f1, h⟩ := h
  rw [tb_3] at e0; cases e0
  obtain ⟨a0, h0, w0⟩ := (rd_I tb_3 rfl) _ _ f0
  rw [tb_9] at e1; cases e1
  obtain ⟨a1, h1, w1⟩ := (rd_S tb_9 rfl) _ _ f1
  refine ⟨⟨a0, a1⟩, (take_parts h0 (take_parts h1 h)).trans ?_, ⟨w0, w1⟩⟩
  first | rfl | simp [c_Held]
def W_End (x : S_End) : Prop := (Wi .i64 x.vBase) ∧ (x.vQueue.length ≤ maxLen ∧ ∀ a ∈ x.vQueue, a.size ≤ maxLen) ∧ (Wi .i64 x.vWant) ∧ (x.vHeld.length ≤ maxLen ∧ ∀ a ∈ x.vHeld, W_Held a)
theorem rd_End : Rd tbl 25 4 c_End W_End := by
  intro k xs h
  obtain ⟨i, hi, hl, h⟩ := h
  rw [tb_25] at hi; cases hi
  obtain ⟨j0, e0, l0, f0, j1, e1, l1, f1, j2, e2, l2, f2, j3, e3, l3, f3, h⟩ := h
  rw [tb_3] at e0; cases e0
  obtain ⟨a0, h0, w0⟩ := (Rd.up (rd_I tb_3 rfl) 2) _ _ f0
  rw [tb_22] at e1; cases e1
  obtain ⟨a1, h1, w1⟩ := (Rd.up (rd_L tb_22 tb_9 (rd_S tb_9 rfl)) 1) _ _ f1
  rw [tb_3] at e2; cases e2
  obtain ⟨a2, h2, w2⟩ := (Rd.up (rd_I tb_3 rfl) 2) _ _ f2
  rw [tb_23] at e3; cases e3
  obtain ⟨a3, h3, w3⟩ := (rd_L tb_23 tb_74 (rd_Held)) _ _ f3
  refine ⟨⟨a0, a1, a2, a3⟩, (take_parts h0 (take_parts h1 (take_parts h2 (take_parts h3 h)))).trans ?_, ⟨w0, w1, w2, w3⟩⟩
  first | rfl | simp [c_End]
namespace linkEnds
theorem own : ownKnob Try.prog.godebug = none := by kernel_rfl
theorem laid : laidOutB Try.prog = true := by kernel_rfl
set_option maxRecDepth 100000 in
theorem contract (H : Type) (enc : TypeId × Value → H) (W : World) (args : Array Value) (ds gs : List (DataW H)) (before : List MemPlace)
    (hval : ∀ (j : Nat) t v, Try.f5.params[j]? = some t → args[j]? = some v → Value.okWide Try.prog W .any 0 t v ∨ ∃ base, Value.okWide Try.prog W .any base t v)
    (hW : DataW.Whole enc Try.prog Try.f5.params.toList Rows.linkEndsArePackedSpec.vars false W args.toList ds gs before) :
    Calls Try.prog 5 args W fun e W' => ∃ v, e = .returned v ∧ Rows.linkEndsArePackedSpec.post enc Try.prog Try.f5 false true false false W args v W' := by
  have hW' := hW
  obtain ⟨p, q, hA0, hV, rfl, hfz, hnd⟩ := hW
  have hA : DataW.TrodAll enc Try.prog W 0 (fun _ => true) true Try.f5.params.toList args.toList ds p := hA0
  rw [Try.params5] at hA hval
  obtain ⟨v0, vs0, d0, ds0, p0, q0, hargs, rfl, rfl, h0, r0⟩ := trodAll_cons hA
  obtain ⟨v1, vs1, d1, ds1, p1, q1, rfl, rfl, rfl, h1, r1⟩ := trodAll_cons r0
  obtain ⟨rfl, rfl, rfl⟩ := trodAll_nil r1
  obtain rfl : args = #[v0, v1] := by cases args; simp_all
  obtain ⟨rfl, rfl⟩ := trodVars_none hV
  obtain ⟨a0, b0, w0⟩ := arg_of (k := 0) (t := 25) tok (by kernel_rfl) tb_25 (rd_End) (Classical.choose_spec (hv_of hval 0 rfl rfl)) h0
  obtain ⟨a1, b1, w1⟩ := arg_of (k := 0) (t := 58) tok (by kernel_rfl) tb_58 (rd_L tb_58 tb_5 (rd_I tb_5 rfl)) (Classical.choose_spec (hv_of hval 1 rfl rfl)) h1
  refine (says_of (w_law42_LinkEndsArePacked (G_ends a0 a1 ⟨w0.2.1.1, by show (a0.vHeld.map _).length ≤ _; rw [List.length_map]; exact w0.2.2.2.1, fun g hg => by obtain ⟨q, hq, rfl⟩ := List.mem_map.1 hg; exact (w0.2.2.2.2 q hq).1.2⟩ fun n hn => w1.2 n hn)) rfl fun j d u hd hu => ?_).mono fun e W' hs => ?_
  · match j, hd, hu with
    | 0, hd, hu => cases hd; cases hu; exact b0
    | 1, hd, hu => cases hd; cases hu; exact b1
  · obtain ⟨rfl, hb⟩ := hs
    exact ⟨_, rfl, law_post laid rfl (by kernel_rfl) (by kernel_rfl) Try.underlying4 hW' rfl hb⟩
set_option maxRecDepth 100000 in
theorem lifted (os : Os) (started : os.Started) (H : Type) (enc : TypeId × Value → H) :
    ReturnsInHanded {} Try.checked os 5 .any (Rows.linkEndsArePackedSpec.pre6 enc Try.prog Try.f5 Rows.linkEndsArePackedRow.domain false) (Rows.linkEndsArePackedSpec.post enc Try.prog Try.f5 false true false false) := by
  refine returnsInHanded_of_change_sized (C := Try.checked) own started (by kernel_rfl) Try.func5
    (ChangeSpec.witness6 (enc := enc) (C := Try.checked) false ⟨#[], #[.agg #[.int .i64 (0), .slice none 0 0, .int .i64 (0), .slice none 0 0], .slice none 0 0], []⟩ 8 (by kernel_rfl) (by kernel_rfl) (by kernel_rfl) (by kernel_rfl)) ?_
  intro W base args ds gs before hval hW _ _ _
  exact contract H enc W args ds gs before (fun j t v h1 h2 => .inr ⟨base, hval j t v h1 h2⟩) hW
theorem proved : Rows.LinkEndsArePackedSaid :=
  OpenClaim.holds_of_wide 5 Try.f5 rfl rfl rfl rfl rfl rfl rfl ⟨rfl, rfl, rfl, rfl, rfl⟩ rfl rfl rfl rfl rfl (by kernel_rfl) Try.func5 (by kernel_rfl)
    (of_decide_eq_true (by kernel_rfl)) (by unfold Func.isWrapper; first | (rw [if_pos (by decide +kernel)]; kernel_rfl) | (rw [if_neg (by decide +kernel)]; exact ⟨rfl, rfl⟩))
    (fun os started H enc _ => lifted os started H enc)
end linkEnds
#print axioms linkEnds.proved
end Go.Proofs.Ytakbadleipbngaa
