/-
  WireDecodeMatchesSpec: for every byte sequence, decoding returns the results and the errors of the specification. Conditions: none.
-/
import Derived.Test.YtjdoellkoofnmaaWireN
namespace Go.Proofs.Ytjdoellkoofnmaa
open Go.ChangeShapes Go.WideShapes Go.ChangeAt Go.RowKit
namespace decode
theorem own : ownKnob Try.prog.godebug = none := by kernel_rfl
theorem laid : laidOutB Try.prog = true := by kernel_rfl
set_option maxRecDepth 100000 in
theorem lifted (os : Os) (started : os.Started) (H : Type) (enc : TypeId × Value → H) :
    ReturnsInHanded {} Try.checked os 4 .any (Rows.wireDecodeMatchesSpecSpec.pre6 enc Try.prog Try.f4 Rows.wireDecodeMatchesSpecRow.domain false) (Rows.wireDecodeMatchesSpecSpec.post enc Try.prog Try.f4 false true false false) := by
  refine returnsInHanded_of_change_sized (C := Try.checked) own started (by kernel_rfl) Try.func4
    (ChangeSpec.witness6 (enc := enc) (C := Try.checked) false ⟨#[], #[.slice none 0 0], []⟩ 8 (by kernel_rfl) (by kernel_rfl) (by kernel_rfl) (by kernel_rfl)) ?_
  intro W base args ds gs before hval0 hW _ hz0 _
  have hval : ∀ (j : Nat) t v, Try.f4.params[j]? = some t → args[j]? = some v → Value.okWide Try.prog W .any base t v := hval0
  have hz : (DataW.weightsEach Try.prog (Try.f4.params.toList ++ Rows.wireDecodeMatchesSpecSpec.plain.varTypes Try.prog) (ds ++ gs)).all (· ≤ reachBytes) = true := hz0
  have hW' := hW
  obtain ⟨p, q, hA0, hV, rfl, hfz, hnd⟩ := hW
  have hA : DataW.TrodAll enc Try.prog W 0 (fun _ => true) true Try.f4.params.toList args.toList ds p := hA0
  rw [Try.params4] at hA hval hz
  obtain ⟨v0, vs0, d0, ds0, p0, q0, hargs, rfl, rfl, h0, r0⟩ := trodAll_cons hA
  obtain ⟨rfl, rfl, rfl⟩ := trodAll_nil r0
  obtain rfl : args = #[v0] := by cases args; simp_all
  obtain ⟨rfl, rfl⟩ := trodVars_none hV
  obtain ⟨l, hl, hd⟩ := bytes_of_trod Try.underlying28 Try.underlying5 (by kernel_rfl) (hval 0 _ v0 rfl rfl) h0
  have hlen : l.length ≤ 140737488351232 := reach_le hz (j := 0) (n := l.length) rfl Try.underlying28 (m := 1) (by kernel_rfl) (by omega) (by
    rcases hd with ⟨rfl, rfl⟩ | ⟨spare, rfl⟩
    · exact .inl ⟨rfl, rfl⟩
    · exact .inr ⟨_, _, rfl, by simp⟩)
  refine (decode_walk l v0 W hl (by omega)).mono fun e W' hs => ?_
  obtain ⟨rfl, hb⟩ := hs
  exact ⟨_, rfl, law_post laid rfl (by kernel_rfl) (by kernel_rfl) Try.underlying4 hW' rfl hb⟩
theorem proved : Rows.WireDecodeMatchesSpecSaid :=
  OpenClaim.holds_of_wide 4 Try.f4 rfl rfl rfl rfl rfl rfl rfl ⟨rfl, rfl, rfl, rfl, rfl⟩ rfl rfl rfl rfl rfl (by kernel_rfl) Try.func4 (by kernel_rfl)
    (of_decide_eq_true (by kernel_rfl)) (by unfold Func.isWrapper; first | (rw [if_pos (by decide +kernel)]; kernel_rfl) | (rw [if_neg (by decide +kernel)]; exact ⟨rfl, rfl⟩))
    (fun os started H enc _ => lifted os started H enc)
end decode
#print axioms decode.proved
end Go.Proofs.Ytjdoellkoofnmaa
