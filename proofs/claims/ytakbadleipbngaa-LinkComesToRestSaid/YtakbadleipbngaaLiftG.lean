/-
  Arguments as values of generated types. Conditions: none.
-/
import Derived.Test.YtakbadleipbngaaLiftE
import Derived.Test.YtakbadleipbngaaG1
set_option linter.all false
namespace Go.Proofs.Ytakbadleipbngaa
open Go.RowKit
/-- Whatever is well typed is a value of the type, in range. -/
def Rd (tb : TypeId → Option TyE) (t : TypeId) (d : Nat) {α : Type} (c : Cd α) (W : α → Prop) : Prop := ∀ k xs, wtE tb (k + d) t xs → ∃ a, xs = c.f a ∧ W a
theorem Rd.up {tb : TypeId → Option TyE} {t : TypeId} {d : Nat} {α : Type} {c : Cd α} {W : α → Prop} (h : Rd tb t d c W) (m : Nat) : Rd tb t (d + m) c W := fun k xs h' => h (k + m) xs (by rw [Nat.add_assoc, Nat.add_comm m d]; exact h')
def Wi (k : IntKind) (n : Int) : Prop := k.min ≤ n ∧ n ≤ k.max
section
variable {tb : TypeId → Option TyE} {t e : TypeId} {i j : TyE} {d : Nat} {α : Type} {c : Cd α} {W : α → Prop}
theorem rd_I {k : IntKind} (ht : tb t = some i) (hi : i.ty = .int k) : Rd tb t 1 (cI k) (Wi k) := by
  intro n xs h
  obtain ⟨i', h1, _, h⟩ := h
  rw [ht] at h1; cases h1
  rw [hi] at h
  obtain ⟨m, h1, h2⟩ := h
  exact ⟨m, h1, by unfold Wi; simpa [Lit.wf] using h2⟩
theorem rd_B (ht : tb t = some i) (hi : i.ty = .bool) : Rd tb t 1 cB (fun _ => True) := by
  intro n xs h
  obtain ⟨i', h1, _, h⟩ := h
  rw [ht] at h1; cases h1
  rw [hi] at h
  obtain ⟨m, h1⟩ := h
  exact ⟨m, h1, trivial⟩
theorem rd_S (ht : tb t = some i) (hi : i.ty = .str) : Rd tb t 1 cS (fun s => s.size ≤ maxLen) := by
  intro n xs h
  obtain ⟨i', h1, _, h⟩ := h
  rw [ht] at h1; cases h1
  rw [hi] at h
  obtain ⟨m, h1, h2⟩ := h
  exact ⟨m, h1, h2⟩
theorem rd_L (ht : tb t = some i) (he : tb e = some j) (hc : Rd tb e d c W) (hi : i.ty = .slice e := by exact rfl) (hz : c.sz = j.size := by exact rfl) : Rd tb t (d + 1) (cL c) (fun l => l.length ≤ maxLen ∧ ∀ a ∈ l, W a) := by
  intro n xs h
  obtain ⟨i', h1, _, h⟩ := h
  rw [ht] at h1; cases h1
  rw [hi] at h
  obtain ⟨j', m, ys, h1, h2, h3, h4, h5⟩ := h
  rw [he] at h1; cases h1
  obtain ⟨l, h6, h7, h8⟩ := chunks_typed c.f j.size W m ys h3 fun i hi => hc n _ (h5 i hi)
  refine ⟨l, ?_, by omega, h8⟩
  rw [h2, h7, ← h6, ← hz]; rfl
theorem take_parts {xs : List E} {n : Nat} {ys zs : List E} (h1 : xs.take n = ys) (h2 : xs.drop n = zs) : xs = ys ++ zs := by
  rw [← h1, ← h2, List.take_append_drop]
theorem arg_of {P : Program} {H : Type} {enc : TypeId × Value → H} {Wd : World} {sp : Nat → Bool} {hd : Bool} {base k : Nat} {v : Value} {dw : DataW H} {p : List MemPlace} {r : Reach} {b0 : Nat} (tok : TOk P tb) (hok : okTy tb (k + d) t = true) (ht : tb t = some i) (hc : Rd tb t d c W) (hval : Value.okWide P Wd r b0 t v) (h : DataW.Trod enc P Wd base sp hd t v dw p) :
    ∃ a, PRep Wd F0 (argD i.ty.agg (c.f a)) v ∧ W a := by
  obtain ⟨xs, h1, h2⟩ := arg_rep tok hok ht hval h
  obtain ⟨a, rfl, h3⟩ := hc k xs h1
  exact ⟨a, h2, h3⟩
end
end Go.Proofs.Ytakbadleipbngaa
