/-
  Parts of arrays in blocks of the call's own: written, copied into, read. Conditions: none.
-/
import Derived.Test.YtakbadleipbngaaArr
import Derived.Laws.CopyRow
import Derived.Lib.AppendStr
set_option linter.all false
namespace Go.Proofs.Ytakbadleipbngaa
open Go.RowKit
/-- f, with g 0 .. g (m - 1) laid over it from place o on. -/
def over (f : Nat → Value) (o m : Nat) (g : Nat → Value) (j : Nat) : Value := if o ≤ j ∧ j < o + m then g (j - o) else f j
theorem arr_over (n : Nat) (f : Nat → Value) (o m : Nat) (g : Nat → Value) (h : o + m ≤ n) :
    ((arr n f).toList.take o ++ (List.range m).map g ++ (arr n f).toList.drop (o + m)).toArray = arr n (over f o m g) := by
  apply Array.toList_inj.1
  unfold arr
  apply List.ext_getElem?
  intro j
  simp only [List.getElem?_append, List.length_append, List.length_take, List.length_map, List.length_range, List.getElem?_take, List.getElem?_drop, List.getElem?_map]
  by_cases h1 : j < o
  · have : ¬ (o ≤ j ∧ j < o + m) := by omega
    simp [h1, over, show j < n by omega, this, show j < min o n + m by omega, show j < min o n by omega]
  · by_cases h2 : j < o + m
    · simp [over, show j < n by omega, show min o n = o by omega, show j - o < m by omega, show o ≤ j by omega, h2]
      intro hh; omega
    · have h3 : ¬ (o ≤ j ∧ j < o + m) := by omega
      by_cases h4 : j < n
      · simp [over, show min o n = o by omega, h3, h4, show o + m + (j - (o + m)) = j by omega]
        intro hh; omega
      · simp [show min o n = o by omega, h4, show o + m + (j - (o + m)) = j by omega]
        intro hh; omega
section
variable {P : Program} {w : World} {b : Nat} {t : TypeId} {n : Nat} {f : Nat → Value}
theorem run_store_over (h : w.rowIs b t n f) (o m : Nat) (g : Nat → Value) (hom : o + m ≤ n) (h1 : ∀ i, i < m → (g i).oneCell' = true) :
    (storeCells ⟨b, o, none⟩ ((List.range m).map g) 0).run P w = .ok () (w.setRow b (arr n (over f o m g))) := by
  have hs := run_storeCells_at P b o t ((List.range m).map g) 0 (arr n f) w (row_block h) (by rw [arr_size]; simpa using hom) (fun v hv => by
    obtain ⟨i, hi, rfl⟩ := List.mem_map.1 hv
    exact h1 i (by simpa using hi))
  rw [hs]
  congr 2
  rw [← arr_over n f o m g hom]
  simp
/-- A struct or an array stored into the midst of a block. -/
theorem wp_store_over {o : Oper} {a : Act} {K : Act → World → Prop} {Q : Exit → Act → World → Prop} (ty : TypeId) (x y : Operand) (ho : o.op = .store ty x y)
    (h : w.rowIs b t n f) {off m : Nat} {g : Nat → Value} (hx : a.eval x = .pointer (some ⟨b, off, none⟩)) (hy : a.eval y = .agg (arr m g)) (hom : off + m ≤ n) (ag : Agg P ty m) (h1 : ∀ i, i < m → (g i).oneCell' = true)
    (hk : K (a.put o.dst undef) (w.setRow b (arr n (over f off m g)))) : o.wp P a w K Q := by
  have hrun := run_store_over (P := P) h off m g hom h1
  obtain ⟨⟨d, hu, hd⟩, hi⟩ := ag
  have hst : (storeVar ty ⟨b, off, none⟩ (.agg (arr m g))).run P w = .ok () (w.setRow b (arr n (over f off m g))) := by
    cases hq : P.info? ty with
    | none => simp [hq] at hi
    | some i =>
      have hs : m = i.size := by simp [hq] at hi; omega
      have hc : (Value.agg (arr m g)).cells.size = m := arr_size m g
      have hl : (Value.agg (arr m g)).cells.toList = (List.range m).map g := by show (arr m g).toList = _; simp [arr]
      simp [storeVar, sizeOf, typeInfo, hq, hc, hl, ← hs, hrun]
  unfold Oper.wp execOp
  simp only [ho, hx, hy, Instr.storeAt, Instr.sureAddr, Sem.run_bind, Sem.run_pure, Result.andThen_ok, hst]
  exact hk
/-- copy(x, s), x a part of a block of the call's own, s a string. -/
theorem wpList_copy_over {ops : Array Oper} {rest : List Oper} {o : Oper} {a : Act} {Q : Exit → Act → World → Prop} (hgd : o.guard = none) (d s : Operand) (dT sT : TypeId)
    (ho : o.op = .call { callee := .builtin .copy, args := #[d, s], argTypes := #[dT, sT] }) {elem : TypeId} (hu : P.underlying dT = some (.slice elem)) (hsz : (P.info? elem).map (·.size) = some 1)
    (h : w.rowIs b t n f) {off dLen dCap : Nat} {str : ByteArray} (hd : a.eval d = .slice (some ⟨b, off, none⟩) dLen dCap) (hs : a.eval s = .string str) (hom : off + dLen ≤ n) {k : Nat} (hkm : k = min str.size dLen)
    (hk : ∀ w', w' = w.setRow b (arr n (over f off k (fun i => bv (str.data.toList.getD i 0)))) → wpList P ops Q rest (a.put o.dst (goInt (k : Nat))) w') : wpList P ops Q (o :: rest) a w := by
  subst hkm
  refine wpList_plain hgd fun K hK => ?_
  have hrun := run_store_over (P := P) h off (min str.size dLen) (fun i => bv (str.data.toList.getD i 0)) (by omega) (fun _ _ => rfl)
  have hcells : List.take (Nat.min str.size dLen) (List.map (fun b => Value.int IntKind.u8 b.toNat) str.data.toList) = (List.range (min str.size dLen)).map (fun i => bv (str.data.toList.getD i 0)) := by
    apply List.ext_getElem?
    intro j
    have hl : str.data.toList.length = str.size := by rw [Array.length_toList]; rfl
    show (List.take (min str.size dLen) _)[j]? = _
    rw [List.getElem?_take]
    by_cases hj : j < min str.size dLen
    · have h2 : j < str.data.toList.length := by omega
      rw [if_pos hj, List.getElem?_map, List.getElem?_map, List.getElem?_eq_getElem h2, List.getElem?_range hj]
      simp only [Option.map_some, bv, List.getD, List.getElem?_eq_getElem h2, Option.getD_some]
    · rw [if_neg hj, List.getElem?_eq_none (by simpa using hj)]
  have hcp : (Builtin.copy_ #[dT, sT] o.type #[.slice (some ⟨b, off, none⟩) dLen dCap, .string str]).run P w = .ok (goInt (min str.size dLen : Nat)) (w.setRow b (arr n (over f off (min str.size dLen) (fun i => bv (str.data.toList.getD i 0))))) := by
    generalize w.setRow b (arr n (over f off (min str.size dLen) (fun i => bv (str.data.toList.getD i 0)))) = w2 at *
    cases hq : P.info? elem with
    | none => simp [hq] at hsz
    | some i =>
      simp only [← hcells] at hrun
      simp [Builtin.copy_, run_underlying hu, Builtin.lenOf, Builtin.firstCells, sizeOf, typeInfo, hq, hrun]
  unfold Oper.wp execOp
  simp only [ho, resolve, invoke, builtin, Sem.run_bind, Sem.run_pure, Result.andThen_ok, List.map_toArray, List.map_cons, List.map_nil, hd, hs, hcp]
  exact hK _ _ (hk _ rfl)
/-- x[l:], x an array in a block of the call's own. -/
theorem run_sliceAt_arr {P : Program} (t e : TypeId) (n : Nat) (ht : P.underlying t = some (.array n e)) (hi : (P.info? e).map (·.size) = some 1) (b off l : Nat) (hl : l < n) (w : World) :
    (Instr.sliceAt t (.pointer (some ⟨b, off, none⟩)) (some (.int .i64 (l : Int))) none none).run P w = .ok (.slice (some ⟨b, off + l, none⟩) (n - l) (n - l)) w := by
  cases hq : P.info? e with
  | none => simp [hq] at hi
  | some i =>
    have hs : i.size = 1 := by simpa [hq] using hi
    have h1 : ¬ n = l := by omega
    have h2 : l ≤ n := by omega
    simp [Instr.sliceAt, run_underlying ht, Instr.sureAddr, Instr.sliceBounds, run_sliceBound, sizeOf, typeInfo, hq, hs, h1, h2, Addr.add]
/-- A whole array read inside a region that draws its order. -/
theorem exec_load_arr {P : Program} {ρ : Operand → Value} {o : Oper} (ty : TypeId) (x : Operand) (ho : o.op = .load ty x) {w : World} {b : Nat} {t : TypeId} {n : Nat} {f : Nat → Value} (hr : w.rowIs b t n f) (hx : ρ x = .pointer (some ⟨b, 0, none⟩)) (ag : Agg P ty n) :
    (execOp ρ o).run P w = .ok (.value (.agg (arr n f))) w := by
  obtain ⟨⟨d, hu, hd⟩, hi⟩ := ag
  have hl := run_loadVar_row (P := P) w b t ty (arr n f) (0, 0) d (row_block hr) hu (by cases d <;> simp_all) (by rw [hi, arr_size])
  unfold execOp
  simp only [ho, hx, Instr.loadAt, Instr.sureAddr, Sem.run_bind, Sem.run_pure, Result.andThen_ok, hl]
/-- A new variable that holds an array or a struct: the world behind it a letter. -/
theorem wp_alloc_arr {P : Program} {o : Oper} {a : Act} {w : World} {K : Act → World → Prop} {Q : Exit → Act → World → Prop} {t : TypeId} (ho : o.op = .alloc t) {n : Nat} {f : Nat → Value} (hz : ∀ w, (zeroValue t).run P w = .ok (.agg (arr n f)) w)
    (h : ∀ g w', w.heap.size ≤ g → w'.rowIs g t n f → Below w.heap.size w w' → K (a.put o.dst (.pointer (some ⟨g, 0, none⟩))) w') : o.wp P a w K Q := by
  unfold Oper.wp execOp
  simp only [ho, Instr.alloc, Sem.run_bind, Sem.run_pure, Result.andThen_ok, hz]
  exact h _ _ (Nat.le_refl _) (row_alloc w t n f) ((Below.refl _ _).alloc (Nat.le_refl _) _)
theorem range_one (f : Nat → Value) (v : Value) : (Array.map f (Array.range 1)).setIfInBounds 0 v = #[v] := by
  apply Array.ext
  · simp
  · intro i h1 h2
    have : i = 0 := by simp at h2; omega
    subst this
    simp
/-- A new slice of one byte: the world behind it a letter. -/
theorem wp_built_byte {P : Program} {o : Oper} {a : Act} {w : World} {K : Act → World → Prop} {Q : Exit → Act → World → Prop} (t : TypeId) (x : Operand) (ho : o.op = .buildSlice t 1 #[(0, x)])
    {e : TypeId} (el : El P t e (.int .u8 0) 1 1) {z : Int} (hx : a.eval x = .int .u8 z)
    (h : ∀ g w', w.heap.size ≤ g → Sl w' (.slice (some ⟨g, 0, none⟩) 1 1) 1 1 [.int .u8 z] → Below w.heap.size w w' → K (a.put o.dst (.slice (some ⟨g, 0, none⟩) 1 1)) w') : o.wp P a w K Q := by
  obtain ⟨i, hi, hz, hs, _⟩ := el.info
  have hsl := Sl.built w #[.int .u8 z] e 1 1 rfl (by decide)
  unfold Oper.wp
  simp [execOp, ho, Instr.buildSlice, run_underlying el.ht, sizeOf, zeroValue, typeInfo, hi, hz, hs, Instr.fill, hx, Value.cells]
  have h2 := h w.heap.size (w.alloc (.cells #[.int .u8 z] e)) (Nat.le_refl _) hsl ((Below.refl _ _).alloc (Nat.le_refl _) _)
  have hcs := range_one (fun x => [Value.int .u8 0][x % 1]?.getD default) (Value.int .u8 z)
  rw [hcs]
  exact h2
end
end Go.Proofs.Ytakbadleipbngaa
