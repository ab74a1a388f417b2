/-
  layer 42: slices.Clone of the texts that came too early; Send and the specification's Send. Conditions: none.
-/
import Derived.Test.YtakbadleipbngaaLinkD
set_option linter.all false
namespace Go.Proofs.Ytakbadleipbngaa
open Go.RowKit
theorem elHeld : El Try.prog 23 74 (.agg #[.int .i64 0, .string ⟨#[]⟩]) 2 24 := ⟨Try.underlying23, info_parts (by kernel_rfl), rfl, by decide⟩
set_option maxHeartbeats 1000000 in
set_option maxRecDepth 100000 in
theorem clone_held (l : List LHeld) (v : Value) (w : World) (hl : Sl w v 2 l.length (heldV l)) (hn : l.length ≤ 1000) :
    Calls Try.prog 34 #[v] w fun e w' => ∃ q, e = .returned q ∧ w'.ownsRow w.heap.size 74 2 q l.length (heldV l) ∧ Below w.heap.size w w' := by
  obtain ⟨A, c, rfl, hnc, hcm, hr⟩ := id hl
  cases A with
  | none =>
    obtain rfl : l = [] := by
      rcases Nat.eq_zero_or_pos l.length with h | h
      · exact List.eq_nil_of_length_eq_zero h
      · obtain ⟨_, h, _⟩ := hr.2 h; cases h
    have he : (binOp .eql 23 (.slice none 0 c) (.slice none 0 0)).run Try.prog w = .ok (.bool true) w := by kernel_rfl
    go_enter Try.func34, Try.ntmps34
    go_wp2_with fail
    go_ret
    exact ⟨_, rfl, ⟨rfl, .inl ⟨rfl, rfl⟩⟩, Below.refl _ _⟩
  | some ad =>
    obtain ⟨N, hN⟩ : ∃ N, N = l.length := ⟨_, rfl⟩
    have he : (binOp .eql 23 (.slice (some ad) l.length c) (.slice none 0 0)).run Try.prog w = .ok (.bool false) w := by kernel_rfl
    go_enter Try.func34, Try.ntmps34
    have hown0 := own_mt w 74 w.heap.size 2 (Nat.le_refl _)
    have hB0 := (Below.refl w.heap.size w).alloc (Nat.le_refl _) (.cells #[] 74)
    have hl2 := hl.below hB0
    have hone : ∀ u ∈ heldV l, u.oneCell' = true := by
      intro u hu
      obtain ⟨g, _, h⟩ := List.mem_flatMap.1 hu
      simp only [List.mem_cons, List.not_mem_nil, or_false] at h
      rcases h with rfl | rfl <;> rfl
    have HL := Lib.hid hl2
    clear hl hr hl2 hN
    go_wp2_with (at_builtin; refine wpList_append_all _ rfl _ _ _ rfl elHeld w.heap.size _ _ _ rfl hown0 _ _ _ rfl HL.out hone (by omega) (by omega) (by simp) w w.heap.size hB0 (Nat.le_refl _) ?_)
    intro v' w' hown hb
    go_wp2_with fail
    go_ret
    refine ⟨_, rfl, ?_, hb⟩
    simpa using hown
end Go.Proofs.Ytakbadleipbngaa
