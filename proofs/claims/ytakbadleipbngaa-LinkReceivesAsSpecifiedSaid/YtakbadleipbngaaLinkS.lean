/-
  layer 42: ends and frames that came in as arguments. Conditions: none.
-/
import Derived.Test.YtakbadleipbngaaLinkO
import Derived.Test.YtakbadleipbngaaLiftE
set_option linter.all false
namespace Go.Proofs.Ytakbadleipbngaa
open Go.RowKit
theorem flat_one {α : Type} (f : α → E) (l : List α) : l.flatMap (fun s => [f s]) = l.map f := by
  induction l with
  | nil => rfl
  | cons a l ih => rw [List.flatMap_cons, List.map_cons, ← ih]; rfl
theorem int_of_wt {k : Nat} {xs : List E} (h : wtE tbl (k + 1) 3 xs) : ∃ n, xs = [.lit (.int .i64 n)] ∧ I64 n := by
  obtain ⟨i, hi, _, h⟩ := h
  cases hi
  obtain ⟨n, h1, h2⟩ := h
  exact ⟨n, h1, by unfold I64; simpa [Lit.wf, IntKind.min, IntKind.max, IntKind.signed, IntKind.bits] using h2⟩
theorem str_of_wt {k : Nat} {xs : List E} (h : wtE tbl (k + 1) 9 xs) : ∃ s : ByteArray, xs = [.lit (.string s)] ∧ s.size ≤ maxLen := by
  obtain ⟨i, hi, _, h⟩ := h
  cases hi
  exact h
theorem held_of_wt {k : Nat} {xs : List E} (h : wtE tbl (k + 2) 74 xs) : ∃ g : LHeld, xs = [.lit (.int .i64 g.1), .lit (.string g.2)] ∧ I64 g.1 := by
  obtain ⟨i, hi, hl, h⟩ := h
  cases hi
  match xs, hl with
  | [a, b], _ =>
    obtain ⟨j1, e1, _, f1, j2, e2, _, f2, _⟩ := h
    cases e1; cases e2
    obtain ⟨n, h1, h2⟩ := int_of_wt f1
    obtain ⟨s, h3, _⟩ := str_of_wt f2
    cases h1; cases h3
    exact ⟨(n, s), rfl, h2⟩
theorem frame_of_wt {k : Nat} {xs : List E} (h : wtE tbl (k + 2) 27 xs) : ∃ f : LFrame, argD true xs = frD f := by
  obtain ⟨i, hi, hl, h⟩ := h
  cases hi
  match xs, hl with
  | [a, b, c], _ =>
    obtain ⟨j1, e1, _, f1, j2, e2, _, f2, j3, e3, _, f3, _⟩ := h
    cases e1; cases e2; cases e3
    obtain ⟨n, h1, _⟩ := int_of_wt f1
    obtain ⟨m, h2, _⟩ := int_of_wt f2
    obtain ⟨s, h3, _⟩ := str_of_wt f3
    cases h1; cases h2; cases h3
    exact ⟨⟨n, m, s⟩, rfl⟩
theorem end_of_wt {k : Nat} {xs : List E} (h : wtE tbl (k + 4) 25 xs) : ∃ x : LEnd, argD true xs = endD x ∧ ∀ g ∈ x.held, I64 g.1 := by
  obtain ⟨i, hi, hl, h⟩ := h
  cases hi
  match xs, hl with
  | [a, b, c, d], _ =>
    obtain ⟨j1, e1, _, f1, j2, e2, _, f2, j3, e3, _, f3, j4, e4, _, f4, _⟩ := h
    cases e1; cases e2; cases e3; cases e4
    obtain ⟨n, h1, _⟩ := int_of_wt f1
    obtain ⟨m, h3, _⟩ := int_of_wt f3
    obtain ⟨i2, hi2, _, f2⟩ := f2
    cases hi2
    obtain ⟨q, n2, ys, hq, hb, hyl, _, hys⟩ := f2
    cases hq
    obtain ⟨i4, hi4, _, f4⟩ := f4
    cases hi4
    obtain ⟨q4, n4, zs, hq4, hd, hzl, _, hzs⟩ := f4
    cases hq4
    obtain ⟨l, hl1, hl2, _⟩ := chunks_typed (fun s : ByteArray => [sE s]) 1 (fun _ => True) n2 ys hyl fun i hi => by
      obtain ⟨s, hs, _⟩ := str_of_wt (hys i hi)
      exact ⟨s, hs, trivial⟩
    obtain ⟨hs, hs1, hs2, hs3⟩ := chunks_typed (fun g : LHeld => [.lit (.int .i64 g.1), .lit (.string g.2)]) 2 (fun g => I64 g.1) n4 zs hzl fun i hi => by
      obtain ⟨g, hg, hg2⟩ := held_of_wt (hzs i hi)
      exact ⟨g, hg, hg2⟩
    cases h1; cases h3; cases hb; cases hd
    refine ⟨⟨n, l, m, hs⟩, ?_, hs3⟩
    have e := flat_one sE l
    subst hl1; subst hs1
    rw [hl2, hs2, e]
    rfl
end Go.Proofs.Ytakbadleipbngaa
