/-
  The abstract layer: contracts of the elder kind made into contracts of the layer. Conditions: none.
-/
import Derived.Test.YtakbadleipbngaaAbD
set_option linter.all false
namespace Go.Proofs.Ytakbadleipbngaa
open Go.RowKit
section
variable {w : World} {F : Addr → Prop}
/-- Slices of data whose cells are known. -/
theorem sl_of_rep {z n : Nat} {xs : List E} {us : List Value} {v : Value} (h : RepE w F (.sl z n xs) v) (hx : Pw (fun x u => x = .lit u) xs us) : Sl w v z n us := by
  cases h with
  | sl _ _ _ A c us' hl hz hnc hcm hA hc hr =>
    refine ⟨A, c, rfl, hnc, hcm, by rw [← hx.1, hl], fun hn => ?_⟩
    obtain ⟨ad, rfl, hb⟩ := hA hn
    refine ⟨ad, rfl, hb, fun j u hu => ?_⟩
    have hj : j < xs.length := by
      rw [hx.1]
      rcases Nat.lt_or_ge j us.length with h | h
      · exact h
      · rw [List.getElem?_eq_none h] at hu; cases hu
    have hxj : xs[j]? = some xs[j] := List.getElem?_eq_getElem hj
    obtain ⟨h1, _⟩ := hc ad rfl j _ hxj
    have h2 := hr j _ hxj
    rw [hx.2 j _ u hxj hu] at h2
    rw [h1]
    cases h2
    rfl
theorem PRep.e_inv {x : E} {v : Value} (h : PRep w F (.e x) v) : RepE w F x v := by
  unfold PRep at h
  cases h with
  | e _ _ h => exact h
theorem PRep.ag_inv {ds : List D} {v : Value} (h : PRep w F (.ag ds) v) : ∃ cs : List Value, v = .agg cs.toArray ∧ Pw (PRep w F) ds cs := by
  obtain ⟨cs, rfl, hc⟩ := agg_cells h
  exact ⟨cs.toList, rfl, hc.1⟩
theorem Pw.cons_inv {α β : Type} {R : α → β → Prop} {x : α} {xs : List α} {ys : List β} (h : Pw R (x :: xs) ys) : ∃ y ys', ys = y :: ys' ∧ R x y ∧ Pw R xs ys' := by
  cases ys with
  | nil => have := h.1; simp at this
  | cons y ys => exact ⟨y, ys, rfl, h.2 0 x y rfl rfl, by have := h.1; simpa using this, fun j a b ha hb => h.2 (j + 1) a b ha hb⟩
theorem Pw.nil_inv {α β : Type} {R : α → β → Prop} {ys : List β} (h : Pw R [] ys) : ys = [] := List.eq_nil_of_length_eq_zero h.1.symm
theorem Pw.lits {α : Type} (f : α → Value) (l : List α) : Pw (fun (x : E) u => x = .lit u) (l.map fun a => .lit (f a)) (l.map f) :=
  ⟨by simp, fun j x u hx hu => by
    rw [List.getElem?_map] at hx hu
    cases hl : l[j]? with
    | none => simp [hl] at hx
    | some a =>
      simp only [hl, Option.map_some, Option.some.injEq] at hx hu
      rw [← hx, hu]⟩
theorem RepE.lit_inv {u v : Value} (h : RepE w F (.lit u) v) : v = u := by cases h; rfl
/-- One argument. -/
theorem PCalls.of1 {P : Program} {f : FuncId} {d r : D} (hf : FnOk P f) (h : ∀ (w : World) (F : Addr → Prop) (v : Value), (∀ p : Addr, F p → p.block < w.heap.size) → PRep w F d v → Calls P f #[v] w fun e w' => ∃ u, e = .returned u ∧ PRes w.heap.size F w' r u ∧ Below w.heap.size w w') : PCalls P f [d] r := by
  refine ⟨hf, fun w F vs hF hsz hvs => ?_⟩
  obtain ⟨v, rfl⟩ : ∃ v, vs = #[v] := by
    rcases vs with ⟨_ | ⟨v, _ | ⟨u, l⟩⟩⟩ <;> simp at hsz
    exact ⟨v, rfl⟩
  exact h w F v hF (hvs 0 d v rfl rfl)
theorem PCalls.of0 {P : Program} {f : FuncId} {r : D} (hf : FnOk P f) (h : ∀ (w : World) (F : Addr → Prop), Calls P f #[] w fun e w' => ∃ u, e = .returned u ∧ PRes w.heap.size F w' r u ∧ Below w.heap.size w w') : PCalls P f [] r := by
  refine ⟨hf, fun w F vs _ hsz _ => ?_⟩
  obtain rfl := Array.eq_empty_of_size_eq_zero hsz
  exact h w F
/-- A slice of data, and the values of its cells. -/
theorem sl_rep {z n : Nat} {xs : List E} {v : Value} (h : RepE w F (.sl z n xs) v) : ∃ us, Sl w v z n us ∧ Pw (RepE w F) xs us := by
  cases h with
  | sl _ _ _ A c us' hl hz hnc hcm hA hc hr =>
    have h' : RepE w F (.sl z n xs) (.slice A n c) := .sl z n xs A c us' hl hz hnc hcm hA hc hr
    obtain ⟨h1, h2, h3, h4, h5, us, h6, h7, h8⟩ := h'.reads
    refine ⟨us, ⟨A, c, rfl, hnc, hcm, h6, fun hn => ?_⟩, h8⟩
    obtain ⟨ad, rfl, hb⟩ := h5 hn
    exact ⟨ad, rfl, hb, fun j u hu => (h7 ad rfl j u hu).1⟩
/-- A new row, as a result. -/
theorem own_rep (hfits : ∀ p : Addr, F p → p.block < w.heap.size) {w' : World} {e : TypeId} {z n : Nat} {xs : List E} {us : List Value} {q : Value} (hz : 0 < z) (ho : w'.ownsRow w.heap.size e z q n us) (hb : Below w.heap.size w w') (hpw : Pw (RepE w F) xs us) : RepE w' (fun p => F p ∨ Value.tail q (n * z) p) (.sl z n xs) q := by
  have hF : ∀ p : Addr, p.block < w.heap.size → (F p ∨ Value.tail q (n * z) p) → F p := by
    rintro p hp (h | ⟨b, h1, h2, _⟩)
    · exact h
    · have := (ho.lt b h1).1; omega
  have hpw' := hpw.imp (fun _ _ h => h.mono (F' := fun p => F p ∨ Value.tail q (n * z) p) hb.size (fun p hp _ => hb.cell hp) hF)
  have hown : w'.ownsRow w.heap.size e z q (0 + n) ([] ++ us) := by simpa using ho
  -- no cell of the row is forbidden: its block is new
  have := RepE.appended (n := 0) (m := n) (xs := []) (us := []) hz hown Pw.nil hpw' (fun b j hbq hj => by
    rintro (hf | ⟨b', h1, h2, h3⟩)
    · have h4 := (ho.lt b hbq).1
      have h5 : b < w.heap.size := hfits _ hf
      omega
    · have h4 : n * z ≤ j := h3
      rw [Nat.zero_add] at hj
      omega)
  simpa using this
end
end Go.Proofs.Ytakbadleipbngaa
