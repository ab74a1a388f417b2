/-
  WireListRoundTrip: for every string, and every list, decoding the encoding returns the value and the length of the encoding, whatever follows it. Conditions: the arguments' bulk is at most 1048576 (the second form).
-/
import Derived.Test.YtjdoellkoofnmaaWireW
import Derived.Test.YtjdoellkoofnmaaLift
import Derived.Test.YtjdoellkoofnmaaLiftD
namespace Go.Proofs.Ytjdoellkoofnmaa
open Go.ChangeShapes Go.WideShapes Go.ChangeAt Go.RowKit Go.ChangeMaps
namespace listRoundTrip
theorem own : ownKnob Try.prog.godebug = none := by kernel_rfl
theorem laid : laidOutB Try.prog = true := by kernel_rfl
theorem contract (H : Type) (enc : TypeId × Value → H) (W : World) (args : Array Value) (ds gs : List (DataW H)) (before : List MemPlace)
    (hval : ∀ (j : Nat) t v, Try.f8.params[j]? = some t → args[j]? = some v → Value.okWide Try.prog W .any 0 t v ∨ ∃ base, Value.okWide Try.prog W .any base t v)
    (hW : DataW.Whole enc Try.prog Try.f8.params.toList Rows.wireListRoundTripSpec.vars false W args.toList ds gs before)
    (hz : (DataW.weightsEach Try.prog (Try.f8.params.toList ++ Rows.wireListRoundTripSpec.plain.varTypes Try.prog) (ds ++ gs)).all (· ≤ reachBytes) = true) (hk : Rows.uptoSmall H (ds ++ gs) = true) :
    Calls Try.prog 8 args W fun e W' => ∃ v, e = .returned v ∧ Rows.wireListRoundTripSpec.post enc Try.prog Try.f8 false true false false W args v W' := by
  have hW' := hW
  obtain ⟨p, q, hA0, hV, rfl, hfz, hnd⟩ := hW
  have hA : DataW.TrodAll enc Try.prog W 0 (fun _ => true) true Try.f8.params.toList args.toList ds p := hA0
  rw [Try.params8] at hA hval hz
  obtain ⟨v0, vs0, d0, ds0, p0, q0, hargs, rfl, rfl, h0, r0⟩ := trodAll_cons hA
  obtain ⟨v1, vs1, d1, ds1, p1, q1, rfl, rfl, rfl, h1, r1⟩ := trodAll_cons r0
  obtain ⟨v2, vs2, d2, ds2, p2, q2, rfl, rfl, rfl, h2, r2⟩ := trodAll_cons r1
  obtain ⟨v3, vs3, d3, ds3, p3, q3, rfl, rfl, rfl, h3, r3⟩ := trodAll_cons r2
  obtain ⟨v4, vs4, d4, ds4, p4, q4, rfl, rfl, rfl, h4, r4⟩ := trodAll_cons r3
  obtain ⟨rfl, rfl, rfl⟩ := trodAll_nil r4
  obtain rfl : args = #[v0, v1, v2, v3, v4] := by cases args; simp_all
  obtain ⟨rfl, rfl⟩ := trodVars_none hV
  have hbulk := of_decide_eq_true hk
  simp only [List.append_nil, Rows.uptoBulkAll] at hbulk
  obtain ⟨s, rfl, rfl, rfl, w0⟩ := open_string Try.underlying9 (Classical.choose_spec (hv_of hval 0 rfl rfl)) h0
  have b0 : s.size ≤ 140737488351232 := by
    have h1 := sized_string hz (j := 0) rfl rfl
    have h2 : reachBytes = 140737488351232 := by decide
    rw [Array.length_toList] at h1
    have h3 : s.data.size = s.size := rfl
    omega
  obtain ⟨l, s1, g1, k1⟩ := ints_of_trod Try.underlying22 Try.underlying3 (by kernel_rfl) (Classical.choose_spec (hv_of hval 1 rfl rfl)) h1
  have b1 : l.length ≤ 140737488351232 := reach_le hz (j := 1) (n := l.length) rfl Try.underlying22 (m := 8) (by kernel_rfl) (by omega) (by
    rcases k1 with ⟨rfl, rfl⟩ | ⟨spare, rfl⟩
    · exact .inl ⟨rfl, rfl⟩
    · exact .inr ⟨_, _, rfl, by simp⟩)
  obtain ⟨x, s2, g2, k2⟩ := strings_of_trod Try.underlying23 Try.underlying9 (by kernel_rfl) (Classical.choose_spec (hv_of hval 2 rfl rfl)) h2
  have b2 : x.length ≤ 140737488351232 := reach_le hz (j := 2) (n := x.length) rfl Try.underlying23 (m := 16) (by kernel_rfl) (by omega) (by
    rcases k2 with ⟨rfl, rfl⟩ | ⟨spare, rfl⟩
    · exact .inl ⟨rfl, rfl⟩
    · exact .inr ⟨_, _, rfl, by simp⟩)
  obtain ⟨d, s3, g3, k3⟩ := digests_of_trod (Classical.choose_spec (hv_of hval 3 rfl rfl)) h3
  have b3 : d.length ≤ 140737488351232 := reach_le hz (j := 3) (n := d.length) rfl Try.underlying24 (m := 16) (by kernel_rfl) (by omega) (by
    rcases k3 with ⟨rfl, rfl⟩ | ⟨spare, rfl⟩
    · exact .inl ⟨rfl, rfl⟩
    · exact .inr ⟨_, _, rfl, by simp⟩)
  obtain ⟨q, s4, k4⟩ := bytes_of_trod Try.underlying28 Try.underlying5 (by kernel_rfl) (Classical.choose_spec (hv_of hval 4 rfl rfl)) h4
  have b4 : q.length ≤ 140737488351232 := reach_le hz (j := 4) (n := q.length) rfl Try.underlying28 (m := 1) (by kernel_rfl) (by omega) (by
    rcases k4 with ⟨rfl, rfl⟩ | ⟨spare, rfl⟩
    · exact .inl ⟨rfl, rfl⟩
    · exact .inr ⟨_, _, rfl, by simp⟩)
  refine (listRoundTrip_walk s l x d q v1 v2 v3 v4 W g1 g3 s1 s2 s3 s4 b0 b1 (by have := bulk_strs k2 (n := 1048576) (by omega); unfold sizes; omega) b3 b4).mono fun e W' hs => ?_
  obtain ⟨rfl, hb⟩ := hs
  exact ⟨_, rfl, law_post laid rfl (by kernel_rfl) (by kernel_rfl) Try.underlying4 hW' rfl hb⟩
set_option maxRecDepth 100000 in
theorem lifted (os : Os) (started : os.Started) (H : Type) (enc : TypeId × Value → H) (F : Stop.Interp) :
    ReturnsInHanded {} Try.checked os 8 .any ((Rows.OpenSpec.upto Rows.wireListRoundTripSpec).pre6 enc Try.prog Try.f8 Rows.wireListRoundTripUptoRow.domain false) (((Rows.OpenSpec.upto Rows.wireListRoundTripSpec).at F).post enc Try.prog Try.f8 false true false false) := by
  refine returnsInHanded_of_cond_sized (C := Try.checked) (s := Rows.OpenSpec.upto Rows.wireListRoundTripSpec) (k := Rows.uptoSmall) rfl own started (by kernel_rfl) Try.func8
    (OpenSpec.witness (enc := enc) (C := Try.checked) (s := Rows.OpenSpec.upto Rows.wireListRoundTripSpec) (k := Rows.uptoSmall) rfl false ⟨#[], #[.string ⟨#[]⟩, .slice none 0 0, .slice none 0 0, .slice none 0 0, .slice none 0 0], []⟩ 8 (by kernel_rfl) (by kernel_rfl) (by kernel_rfl)
      (x := ([.lit (.string []), .nil, .nil, .nil, .nil], [], [])) (by kernel_rfl) rfl (by kernel_rfl)) ?_
  intro W base args ds gs before hval hW _ hk hz _
  exact contract H enc W args ds gs before (fun j t v h1 h2 => .inr ⟨base, hval j t v h1 h2⟩) hW hz hk
theorem proved : Rows.WireListRoundTripUptoSaid :=
  OpenClaim.holds_of_cond 8 Try.f8 rfl rfl rfl rfl rfl rfl rfl ⟨rfl, rfl, rfl, rfl, rfl⟩ rfl rfl rfl rfl rfl (by kernel_rfl) Try.func8 (by kernel_rfl)
    (of_decide_eq_true (by kernel_rfl)) (by unfold Func.isWrapper; first | (rw [if_pos (by decide +kernel)]; kernel_rfl) | (rw [if_neg (by decide +kernel)]; exact ⟨rfl, rfl⟩))
    (fun os started H enc _ F => lifted os started H enc F)
end listRoundTrip
#print axioms listRoundTrip.proved
end Go.Proofs.Ytjdoellkoofnmaa
