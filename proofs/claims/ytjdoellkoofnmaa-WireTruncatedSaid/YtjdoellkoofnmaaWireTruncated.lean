/-
  WireTruncated: no proper beginning of an encoding decodes. Conditions: none.
-/
import Derived.Test.YtjdoellkoofnmaaWireX
import Derived.Test.YtjdoellkoofnmaaLift
import Derived.Test.YtjdoellkoofnmaaLiftD
namespace Go.Proofs.Ytjdoellkoofnmaa
theorem sizes_few {x : List ByteArray} (h : ∀ s ∈ x, s.size ≤ 140737488351232) (hx : x.length ≤ 40) : sizes x ≤ 1000000000000000000 := by
  have : ∀ l : List ByteArray, (∀ s ∈ l, s.size ≤ 140737488351232) → sizes l ≤ l.length * 140737488351232 := by
    intro l
    induction l with
    | nil => intro _; simp [sizes]
    | cons a l ih =>
      intro h
      have h1 := ih (fun s hs => h s (List.mem_cons_of_mem _ hs))
      have h2 := h a (List.mem_cons_self ..)
      have h3 : sizes (a :: l) = a.size + sizes l := by simp [sizes]
      rw [List.length_cons, h3]
      omega
  have := this x h
  omega
open Go.ChangeShapes Go.WideShapes Go.ChangeAt Go.RowKit Go.ChangeMaps
namespace truncated
theorem own : ownKnob Try.prog.godebug = none := by kernel_rfl
theorem laid : laidOutB Try.prog = true := by kernel_rfl
theorem contract (H : Type) (enc : TypeId × Value → H) (W : World) (args : Array Value) (ds gs : List (DataW H)) (before : List MemPlace)
    (hval : ∀ (j : Nat) t v, Try.f9.params[j]? = some t → args[j]? = some v → Value.okWide Try.prog W .any 0 t v ∨ ∃ base, Value.okWide Try.prog W .any base t v)
    (hW : DataW.Whole enc Try.prog Try.f9.params.toList Rows.wireTruncatedSpec.vars false W args.toList ds gs before)
    (hz : (DataW.weightsEach Try.prog (Try.f9.params.toList ++ Rows.wireTruncatedSpec.plain.varTypes Try.prog) (ds ++ gs)).all (· ≤ reachBytes) = true) :
    Calls Try.prog 9 args W fun e W' => ∃ v, e = .returned v ∧ Rows.wireTruncatedSpec.post enc Try.prog Try.f9 false true false false W args v W' := by
  have hW' := hW
  obtain ⟨p, q, hA0, hV, rfl, hfz, hnd⟩ := hW
  have hA : DataW.TrodAll enc Try.prog W 0 (fun _ => true) true Try.f9.params.toList args.toList ds p := hA0
  rw [Try.params9] at hA hval hz
  obtain ⟨v0, vs0, d0, ds0, p0, q0, hargs, rfl, rfl, h0, r0⟩ := trodAll_cons hA
  obtain ⟨v1, vs1, d1, ds1, p1, q1, rfl, rfl, rfl, h1, r1⟩ := trodAll_cons r0
  obtain ⟨v2, vs2, d2, ds2, p2, q2, rfl, rfl, rfl, h2, r2⟩ := trodAll_cons r1
  obtain ⟨v3, vs3, d3, ds3, p3, q3, rfl, rfl, rfl, h3, r3⟩ := trodAll_cons r2
  obtain ⟨v4, vs4, d4, ds4, p4, q4, rfl, rfl, rfl, h4, r4⟩ := trodAll_cons r3
  obtain ⟨rfl, rfl, rfl⟩ := trodAll_nil r4
  obtain rfl : args = #[v0, v1, v2, v3, v4] := by cases args; simp_all
  obtain ⟨rfl, rfl⟩ := trodVars_none hV
  obtain ⟨n, rfl, rfl, rfl, w0⟩ := open_int Try.underlying3 (Classical.choose_spec (hv_of hval 0 rfl rfl)) h0
  have b0 : -9223372036854775808 ≤ n ∧ n ≤ 9223372036854775807 := by simpa [Lit.wf, IntKind.min, IntKind.max, IntKind.signed, IntKind.bits] using w0
  obtain ⟨s, rfl, rfl, rfl, w1⟩ := open_string Try.underlying9 (Classical.choose_spec (hv_of hval 1 rfl rfl)) h1
  have b1 : s.size ≤ 140737488351232 := by
    have h1 := sized_string hz (j := 1) rfl rfl
    have h2 : reachBytes = 140737488351232 := by decide
    rw [Array.length_toList] at h1
    have h3 : s.data.size = s.size := rfl
    omega
  obtain ⟨l, s2, g2, k2⟩ := ints_of_trod Try.underlying22 Try.underlying3 (by kernel_rfl) (Classical.choose_spec (hv_of hval 2 rfl rfl)) h2
  have b2 : l.length ≤ 140737488351232 := reach_le hz (j := 2) (n := l.length) rfl Try.underlying22 (m := 8) (by kernel_rfl) (by omega) (by
    rcases k2 with ⟨rfl, rfl⟩ | ⟨spare, rfl⟩
    · exact .inl ⟨rfl, rfl⟩
    · exact .inr ⟨_, _, rfl, by simp⟩)
  obtain ⟨x, s3, g3, k3⟩ := strings_of_trod Try.underlying23 Try.underlying9 (by kernel_rfl) (Classical.choose_spec (hv_of hval 3 rfl rfl)) h3
  have b3 : x.length ≤ 140737488351232 := reach_le hz (j := 3) (n := x.length) rfl Try.underlying23 (m := 16) (by kernel_rfl) (by omega) (by
    rcases k3 with ⟨rfl, rfl⟩ | ⟨spare, rfl⟩
    · exact .inl ⟨rfl, rfl⟩
    · exact .inr ⟨_, _, rfl, by simp⟩)
  obtain ⟨d, s4, g4, k4⟩ := digests_of_trod (Classical.choose_spec (hv_of hval 4 rfl rfl)) h4
  have b4 : d.length ≤ 140737488351232 := reach_le hz (j := 4) (n := d.length) rfl Try.underlying24 (m := 16) (by kernel_rfl) (by omega) (by
    rcases k4 with ⟨rfl, rfl⟩ | ⟨spare, rfl⟩
    · exact .inl ⟨rfl, rfl⟩
    · exact .inr ⟨_, _, rfl, by simp⟩)
  refine (truncated_walk n s l x d v2 v3 v4 W b0 g2 g4 s2 s3 s4 b1 b2 (sizes_few (strs_reach hz (j := 3) rfl Try.underlying23 (by rcases k3 with ⟨rfl, rfl⟩ | ⟨spare, rfl⟩; exact .inl rfl; exact .inr ⟨_, rfl⟩))) b4).mono fun e W' hs => ?_
  obtain ⟨rfl, hb⟩ := hs
  exact ⟨_, rfl, law_post laid rfl (by kernel_rfl) (by kernel_rfl) Try.underlying4 hW' rfl hb⟩
set_option maxRecDepth 100000 in
theorem lifted (os : Os) (started : os.Started) (H : Type) (enc : TypeId × Value → H) :
    ReturnsInHanded {} Try.checked os 9 .any (Rows.wireTruncatedSpec.pre6 enc Try.prog Try.f9 Rows.wireTruncatedRow.domain false) (Rows.wireTruncatedSpec.post enc Try.prog Try.f9 false true false false) := by
  refine returnsInHanded_of_change_sized (C := Try.checked) own started (by kernel_rfl) Try.func9
    (ChangeSpec.witness6 (enc := enc) (C := Try.checked) false ⟨#[], #[.int .i64 0, .string ⟨#[]⟩, .slice none 0 0, .slice none 0 0, .slice none 0 0], []⟩ 8 (by kernel_rfl) (by kernel_rfl) (by kernel_rfl) (by kernel_rfl)) ?_
  intro W base args ds gs before hval hW _ hz _
  exact contract H enc W args ds gs before (fun j t v h1 h2 => .inr ⟨base, hval j t v h1 h2⟩) hW hz
theorem proved : Rows.WireTruncatedSaid :=
  OpenClaim.holds_of_wide 9 Try.f9 rfl rfl rfl rfl rfl rfl rfl ⟨rfl, rfl, rfl, rfl, rfl⟩ rfl rfl rfl rfl rfl (by kernel_rfl) Try.func9 (by kernel_rfl)
    (of_decide_eq_true (by kernel_rfl)) (by unfold Func.isWrapper; first | (rw [if_pos (by decide +kernel)]; kernel_rfl) | (rw [if_neg (by decide +kernel)]; exact ⟨rfl, rfl⟩))
    (fun os started H enc _ => lifted os started H enc)
end truncated
#print axioms truncated.proved
end Go.Proofs.Ytjdoellkoofnmaa
