/-
  Whole arrays in blocks of the call's own, over any program. Conditions: none.
-/
import Derived.Test.YtakbadleipbngaaBase3
import Derived.Deep.OwnRows
import Derived.Laws.Rows
set_option linter.all false
namespace Go.Proofs.Ytakbadleipbngaa
open Go.RowKit
/-- The array f 0, .., f (n - 1). -/
def arr (n : Nat) (f : Nat → Value) : Array Value := ((List.range n).map f).toArray
theorem arr_size (n : Nat) (f : Nat → Value) : (arr n f).size = n := by simp [arr]
theorem arr_at (n : Nat) (f : Nat → Value) (i : Nat) (hi : i < n) : (arr n f)[i]? = some (f i) := by simp [arr, hi]
theorem arr_congr {n : Nat} {f g : Nat → Value} (h : ∀ i, i < n → f i = g i) : arr n f = arr n g := by
  unfold arr
  congr 1
  exact List.map_congr_left fun i hi => h i (by simpa using hi)
theorem arr_one {n : Nat} {f : Nat → Value} (h : ∀ i, i < n → (f i).oneCell' = true) : (arr n f).all (·.oneCell') = true := by
  rw [Array.all_eq_true]
  intro i hi
  have h1 : i < n := by simpa [arr] using hi
  simpa [arr] using h i h1
theorem arr_ones {n : Nat} {f : Nat → Value} (h : ∀ i, i < n → (f i).oneCell' = true) : ∀ u ∈ (arr n f).toList, u.oneCell' = true := by
  intro u hu
  obtain ⟨i, hi, rfl⟩ := List.mem_map.1 (by simpa [arr] using hu : u ∈ (List.range n).map f)
  exact h i (by simpa using hi)
theorem arr_of {n : Nat} {f : Nat → Value} {c : Array Value} (hn : c.size = n) (hc : ∀ i, i < n → c[i]? = some (f i)) : c = arr n f := by
  apply Array.ext_getElem?
  intro i
  by_cases hi : i < n
  · rw [hc i hi, arr_at n f i hi]
  · rw [Array.getElem?_eq_none (by omega), Array.getElem?_eq_none (by rw [arr_size]; omega)]
section
variable {w w' : World} {b : Nat} {t : TypeId} {n : Nat} {f g : Nat → Value}
theorem row_block (h : w.rowIs b t n f) : w.heap[b]? = some (.cells (arr n f) t (0, 0)) := by
  obtain ⟨c, hb, hn, hc⟩ := h
  rw [hb, arr_of hn hc]
theorem row_of_block (h : w.heap[b]? = some (.cells (arr n f) t (0, 0))) : w.rowIs b t n f := ⟨_, h, arr_size _ _, fun i hi => arr_at _ _ i hi⟩
theorem row_alloc (w : World) (t : TypeId) (n : Nat) (f : Nat → Value) : (w.alloc (.cells (arr n f) t)).rowIs w.heap.size t n f := row_of_block (heap_alloc_new w _)
theorem row_new (w : World) (c : Array Value) (t : TypeId) (n : Nat) (f : Nat → Value) (hn : c.size = n) (hc : ∀ i, i < n → c[i]? = some (f i)) : (w.alloc (.cells c t)).rowIs w.heap.size t n f := by
  rw [arr_of hn hc]; exact row_alloc w t n f
theorem row_below {B : Nat} (h : w.rowIs b t n f) (hb : Below B w w') (hB : b < B) : w'.rowIs b t n f := h.of_block (hb.block b hB)
theorem row_setRow (h : w.rowIs b t n f) (g : Nat → Value) : (w.setRow b (arr n g)).rowIs b t n g := row_of_block (setRow_heap w b _ _ t _ (row_block h))
theorem row_setRow_other {b' : Nat} (h : w.rowIs b t n f) (hne : b ≠ b') (cs : Array Value) : (w.setRow b' cs).rowIs b t n f := h.of_block (setRow_other w b' b cs hne)
theorem row_setCells {P : Program} (h : w.rowIs b t n f) {i : Nat} (hi : i < n) (v : Value) (hv : v.oneCell' = true) : (store ⟨b, i, none⟩ v).run P w = .ok () (w.setCell ⟨b, i, none⟩ v) := by
  rw [run_store P w _ v _ hv, h.cell hi]
  simp [h.frozen i]
end
theorem below_setRow' {B : Nat} {w0 w : World} (hb : Below B w0 w) {g : Nat} (hg : B ≤ g) (cs : Array Value) : Below B w0 (w.setRow g cs) :=
  hb.trans ⟨rfl, rfl, rfl, by simp [World.setRow], fun k hk => setRow_other w g k cs (by omega)⟩
section
variable {P : Program}
theorem wpList_load_arr {ops : Array Oper} {rest : List Oper} {o : Oper} {a : Act} {w : World} {Q : Exit → Act → World → Prop} (hgd : o.guard = none) (ty : TypeId) (x : Operand) (ho : o.op = .load ty x)
    {b : Nat} {t : TypeId} {n : Nat} {f : Nat → Value} (hr : w.rowIs b t n f) (hx : a.eval x = .pointer (some ⟨b, 0, none⟩)) (ag : Agg P ty n)
    (h : wpList P ops Q rest (a.put o.dst (.agg (arr n f))) w) : wpList P ops Q (o :: rest) a w := by
  obtain ⟨⟨d, hu, hd⟩, hi⟩ := ag
  exact wpList_load_row hgd ty x ho b hx t _ (0, 0) d (row_block hr) hu (by cases d <;> simp_all) (by rw [hi, arr_size]) h
theorem wpList_store_arr {ops : Array Oper} {rest : List Oper} {o : Oper} {a : Act} {w : World} {Q : Exit → Act → World → Prop} (hgd : o.guard = none) (ty : TypeId) (x y : Operand) (ho : o.op = .store ty x y)
    {b : Nat} {t : TypeId} {n : Nat} {f g : Nat → Value} (hr : w.rowIs b t n f) (hx : a.eval x = .pointer (some ⟨b, 0, none⟩)) (hy : a.eval y = .agg (arr n g)) (ag : Agg P ty n) (h1 : ∀ i, i < n → (g i).oneCell' = true)
    (h : (w.setRow b (arr n g)).rowIs b t n g → wpList P ops Q rest (a.put o.dst undef) (w.setRow b (arr n g))) : wpList P ops Q (o :: rest) a w :=
  wpList_store_row hgd ty x y ho b _ hx hy t _ (row_block hr) (by rw [ag.2, arr_size]) (by rw [arr_size, arr_size]) (arr_one h1) (h (row_setRow hr g))
/-- A function that returns an array out of its result's variable. -/
theorem bodyPost_arr {fn : Func} {R : Ending → World → Prop} {a : Act} {w : World} {p : Tmp} {ty : TypeId} (h : fn.results = #[.cell p ty]) {b : Nat} {t : TypeId} {n : Nat} {f : Nat → Value} (hr : w.rowIs b t n f)
    (hp : a.tmps.getD p undef = .pointer (some ⟨b, 0, none⟩)) (ag : Agg P ty n) (hd : a.defers = []) (hR : R (.returned (.agg (arr n f))) w) : bodyPost P fn R .ret a w := by
  obtain ⟨⟨d, hu, hd'⟩, hi⟩ := ag
  exact bodyPost_ret (v := .agg (arr n f)) (results_cell_row h _ w b t _ (0, 0) d hp (row_block hr) hu (by cases d <;> simp_all) (by rw [hi, arr_size])) hd hR
/-- A whole array out of a variable that is known cell by cell. -/
theorem wpList_load_far {ops : Array Oper} {rest : List Oper} {o : Oper} {a : Act} {w : World} {Q : Exit → Act → World → Prop} (hgd : o.guard = none) (ty : TypeId) (x : Operand) (ho : o.op = .load ty x)
    {ad : Addr} {n : Nat} {f : Nat → Value} (hc : ∀ i, i < n → w.cell? (ad.add i) = some (f i)) (hx : a.eval x = .pointer (some ad)) (ag : Agg P ty n)
    (h : wpList P ops Q rest (a.put o.dst (.agg (arr n f))) w) : wpList P ops Q (o :: rest) a w :=
  wpList_load_cells hgd ty x ho ad hx ((List.range n).map f) ag (by simp) (fun j u hu => by
    have hj : j < n := by
      rcases Nat.lt_or_ge j n with h | h
      · exact h
      · rw [List.getElem?_eq_none (by simpa using h)] at hu; cases hu
    have : u = f j := by simpa [hj, eq_comm] using hu
    rw [this]; exact hc j hj) h
/-- An element of an array that lies in a temporary. -/
theorem run_index_arr (t e : TypeId) (n : Nat) (f : Nat → Value) {z : Value} {bytes : Nat} (ht : P.underlying t = some (.array n e)) (hi : ∃ i, P.info? e = some i ∧ i.zero = some z ∧ i.size = 1 ∧ i.bytes = bytes)
    {kd : IntKind} (he : P.underlying e = some (.int kd)) (k : Nat) (hk : k < n) (w : World) : (Instr.index t (.agg (arr n f)) (.int .i64 (k : Int))).run P w = .ok (f k) w := by
  obtain ⟨i, h1, _, h3, _⟩ := hi
  have h4 := arr_at n f k hk
  simp [Instr.index, asIntOf, run_underlying ht, hk, sizeOf, typeInfo, h1, h3, Go.part, isAgg, run_underlying he, h4]
end
end Go.Proofs.Ytakbadleipbngaa
