/-
  HashOfSeparates: two digests that are equal though tags or parts differ are a collision of the first 16 bytes of two Sums. Conditions: the package-level tables hold what the program's text lays (the card ties them).
-/
import Derived.Test.YtafehbnnoncieaaDoorHashLSeparates
import Derived.Test.YtafehbnnoncieaaDoorTables
import Derived.Test.YtafehbnnoncieaaDoorLiftA
namespace Go.Proofs.YtafehbnnoncieaaDoor
open Go.ChangeShapes Go.WideShapes Go.ChangeAt Go.RowKit Go.ChangeMaps
namespace separatesLaw
theorem contract (H : Type) (enc : TypeId × Value → H) (W : World) (args : Array Value) (ds gs : List (DataW H)) (before : List MemPlace)
    (hval : ∀ (j : Nat) t v, Tryd.f14.params[j]? = some t → args[j]? = some v → Value.okWide Tryd.prog W .any 0 t v ∨ ∃ base, Value.okWide Tryd.prog W .any base t v)
    (hW : DataW.Whole enc Tryd.prog Tryd.f14.params.toList Rows.hashOfSeparatesSpec.vars false W args.toList ds gs before)
    (hz : (DataW.weightsEach Tryd.prog (Tryd.f14.params.toList ++ Rows.hashOfSeparatesSpec.plain.varTypes Tryd.prog) (ds ++ gs)).all (· ≤ reachBytes) = true) (hL : laidMetH Tryd.prog Rows.hashOfSeparatesRow.laid W) :
    Calls Tryd.prog 14 args W fun e W' => ∃ v, e = .returned v ∧ Rows.hashOfSeparatesSpec.post enc Tryd.prog Tryd.f14 false true false false W args v W' := by
  have hT := tabs2 hL
  have hW' := hW
  obtain ⟨p, q, hA0, hV, rfl, hfz, hnd⟩ := hW
  have hA : DataW.TrodAll enc Tryd.prog W 0 (fun _ => true) true Tryd.f14.params.toList args.toList ds p := hA0
  rw [Tryd.params14] at hA hval hz
  obtain ⟨v0, vs0, d0, ds0, p0, q0, hargs, rfl, rfl, h0, r0⟩ := trodAll_cons hA
  obtain ⟨v1, vs1, d1, ds1, p1, q1, rfl, rfl, rfl, h1, r1⟩ := trodAll_cons r0
  obtain ⟨v2, vs2, d2, ds2, p2, q2, rfl, rfl, rfl, h2, r2⟩ := trodAll_cons r1
  obtain ⟨rfl, rfl, rfl⟩ := trodAll_nil r2
  obtain rfl : args = #[v0, v1, v2] := by cases args; simp_all
  obtain ⟨rfl, rfl⟩ := trodVars_none hV
  obtain ⟨t, rfl, l0⟩ := bytes_arr_of_trod Tryd.underlying62 Tryd.underlying5 (by kernel_rfl) (by kernel_rfl) (Classical.choose_spec (hv_of hval 0 rfl rfl)) h0
  obtain ⟨l, s1, g1, k1⟩ := strings_of_trod Tryd.underlying26 Tryd.underlying9 (by kernel_rfl) (Classical.choose_spec (hv_of hval 1 rfl rfl)) h1
  have b1 : l.length ≤ 140737488351232 := reach_le hz (j := 1) (n := l.length) rfl Tryd.underlying26 (m := 16) (by kernel_rfl) (by omega) (by
    rcases k1 with ⟨rfl, rfl⟩ | ⟨spare, rfl⟩
    · exact .inl ⟨rfl, rfl⟩
    · exact .inr ⟨_, _, rfl, by simp⟩)
  obtain ⟨m, s2, g2, k2⟩ := strings_of_trod Tryd.underlying26 Tryd.underlying9 (by kernel_rfl) (Classical.choose_spec (hv_of hval 2 rfl rfl)) h2
  have b2 : m.length ≤ 140737488351232 := reach_le hz (j := 2) (n := m.length) rfl Tryd.underlying26 (m := 16) (by kernel_rfl) (by omega) (by
    rcases k2 with ⟨rfl, rfl⟩ | ⟨spare, rfl⟩
    · exact .inl ⟨rfl, rfl⟩
    · exact .inr ⟨_, _, rfl, by simp⟩)
  refine (separates_walk t l0 l m v1 v2 W s1 s2 hT).mono fun e W' hs => ?_
  obtain ⟨rfl, hb⟩ := hs
  exact ⟨_, rfl, law_post laid rfl (by kernel_rfl) (by kernel_rfl) Tryd.underlying4 hW' rfl hb⟩
theorem laid_met (os : Os) : laidMet Tryd.prog Rows.hashOfSeparatesRow.laid ((laidWorld os).forCall (fun _ _ => 0) ⟨#[], #[.agg #[.int .u8 0, .int .u8 0], .slice none 0 0, .slice none 0 0], []⟩).memory :=
  laidMet_of_run' 8 (by kernel_rfl) (by kernel_rfl)
theorem reads (os : Os) {H : Type} (enc : TypeId × Value → H) : ∃ places, DataW.whole enc Tryd.prog ((laidWorld os).forCall (fun _ _ => 0) ⟨#[], #[.agg #[.int .u8 0, .int .u8 0], .slice none 0 0, .slice none 0 0], []⟩).memory Tryd.f14.params.toList Rows.hashOfSeparatesSpec.vars false (#[.agg #[.int .u8 0, .int .u8 0], .slice none 0 0, .slice none 0 0] : Array Value).toList 8 = some ([.agg [.lit (.int .u8 0), .lit (.int .u8 0)], .nil, .nil], [], places) :=
  ⟨[], by kernel_rfl⟩
set_option maxRecDepth 100000 in
theorem lifted (os : Os) (started : os.Started) (H : Type) (enc : TypeId × Value → H) (F : Stop.Interp) :
    ReturnsInHanded {} Tryd.checked os 14 .any ((OpenSpec.ofChange Rows.hashOfSeparatesSpec).preRow enc Tryd.prog Tryd.f14 Rows.hashOfSeparatesRow.domain false Rows.hashOfSeparatesRow.laid) (((OpenSpec.ofChange Rows.hashOfSeparatesSpec).at F).post enc Tryd.prog Tryd.f14 false true false false) := by
  obtain ⟨places, hx⟩ := reads os enc
  refine returnsInHanded_of_row (C := Tryd.checked) (s := OpenSpec.ofChange Rows.hashOfSeparatesSpec) own started (by kernel_rfl) Tryd.func14
    (witness_row_at (enc := enc) (C := Tryd.checked) false (laidWorld os) #[.agg #[.int .u8 0, .int .u8 0], .slice none 0 0, .slice none 0 0] rfl (by kernel_rfl) (by kernel_rfl) (by kernel_rfl)
      (OpenSpec.preRow_of_cond 8 hx (by kernel_rfl) (fun k hk => by cases hk) (by kernel_rfl) (laid_met os))) ?_
  intro W base args ds gs before hval hW _ _ hz hL _ _
  exact contract H enc W args ds gs before (fun j t v h1 h2 => .inr ⟨base, hval j t v h1 h2⟩) hW hz hL
theorem said : Rows.HashOfSeparatesSaid :=
  OpenClaim.holds_of_cond 14 Tryd.f14 rfl rfl rfl rfl rfl rfl rfl ⟨rfl, rfl, rfl, rfl, rfl⟩ rfl rfl rfl rfl rfl (by kernel_rfl) Tryd.func14 (by kernel_rfl)
    (of_decide_eq_true (by kernel_rfl)) (by unfold Func.isWrapper; first | (rw [if_pos (by decide +kernel)]; kernel_rfl) | (rw [if_neg (by decide +kernel)]; exact ⟨rfl, rfl⟩))
    (fun os started H enc _ F => by rw [OpenClaim.pre_eq_preRow]; exact lifted os started H enc F)
theorem plain (f : FuncId) (fn : Func) (hf : Tryd.pinned.checked.prog.funcNamed "skewback/skewbacklaw02.HashOfSeparates" = some f) (hfn : Tryd.pinned.checked.prog.funcs[f]? = some fn) :
    false = Tryd.pinned.checked.prog.looks [] ∧ ∀ (j : Nat) t, fn.params[j]? = some t → Tryd.pinned.checked.prog.wantsStandIn t = false := by
  obtain rfl : f = 14 := Option.some.inj ((show Tryd.prog.funcNamed "skewback/skewbacklaw02.HashOfSeparates" = some 14 by kernel_rfl).symm.trans hf) |>.symm
  obtain rfl : fn = Tryd.f14 := (Option.some.inj (Tryd.func14.symm.trans hfn)).symm
  refine ⟨by kernel_rfl, fun j t ht => ?_⟩
  rw [Tryd.params14] at ht
  have hall : ∀ t ∈ [62, 26, 26], Tryd.prog.wantsStandIn t = false := by
    intro t ht
    simp only [List.mem_cons, List.not_mem_nil, or_false] at ht
    rcases ht with rfl | rfl | rfl
    all_goals kernel_rfl
  exact hall t (by simpa using Array.mem_of_getElem? ht)
theorem proved : Rows.HashOfSeparatesCardSaid :=
  Claim7.holds_tied_plain_at .later [] _ _ _ _ said (fun _ h => by cases h) (by kernel_rfl) (fun _ h => by cases h) hashOfSeparates_row_tie rfl ⟨rfl, rfl⟩ (by kernel_rfl) rfl plain (by kernel_rfl)
end separatesLaw
#print axioms separatesLaw.proved
end Go.Proofs.YtafehbnnoncieaaDoor
