/-
  More laws of the walk, over any program: append onto a slice that is full; slices with three indexes. Conditions: none.
-/
import Derived.Test.YtakbadleipbngaaBase2
set_option linter.all false
namespace Go.Proofs.Ytakbadleipbngaa
open Go.RowKit
section
variable {P : Program} {w : World}
theorem run_append_zero (t ty e : TypeId) {z : Value} {size bytes : Nat} (el : El P t e z size bytes) (A A' : Option Addr) (n c c' : Nat) (hnc : n ≤ c) : (Builtin.append_ #[t, t] ty #[.slice A n c, .slice A' 0 c']).run P w = .ok (.slice A n c) w := by
  obtain ⟨i, hi, _⟩ := el.info
  cases A <;> cases A' <;> simp [Builtin.append_, run_underlying el.ht, sizeOf, typeInfo, hi, Builtin.lenOf, Builtin.firstCells, hnc, storeCells, loadCells, loadCellsFrom]
/-- append(s, x...), s full (its length is its capacity) and not empty. -/
theorem wpList_append_full {ops : Array Oper} {rest : List Oper} {o : Oper} {a : Act} {Q : Exit → Act → World → Prop} (hgd : o.guard = none) (s x : Operand) (t : TypeId)
    (ho : o.op = .call { callee := .builtin .append, args := #[s, x], argTypes := #[t, t] })
    {e : TypeId} {z : Value} {size bytes : Nat} (el : El P t e z size bytes) {A : Option Addr} {n : Nat} {xs : List Value} (hs : a.eval s = .slice A n n) (hsl : Sl w (.slice A n n) size n xs) (hn : 0 < n)
    (vx : Value) (m : Nat) (news : List Value) (hx : a.eval x = vx) (hr : Sl w vx size m news)
    (hbytes : (n + m) * bytes ≤ 140737488355328) (h63 : n + m ≤ 140737488355328)
    (h : ∀ v' w', Sl w' v' size (n + m) (xs ++ news) → Below w.heap.size w w' → wpList P ops Q rest (a.put o.dst v') w') : wpList P ops Q (o :: rest) a w := by
  obtain ⟨i, hi, hz, hsize, hby⟩ := el.info
  obtain ⟨ad, rfl, hab, hc⟩ := (show ∃ ad, A = some ad ∧ ad.block < w.heap.size ∧ ∀ j u, xs[j]? = some u → w.cell? (ad.add j) = some u by
    obtain ⟨A', c', he, _, _, hr⟩ := hsl
    injection he with e1 e2 e3
    subst e1
    exact hr.2 hn)
  obtain ⟨A', c', rfl, hmc, hcm, hr'⟩ := id hr
  refine wpList_plain hgd fun K hK => ?_
  rcases Nat.eq_zero_or_pos m with h0 | h0
  · subst h0
    have hnil : news = [] := List.eq_nil_of_length_eq_zero (by simpa using hr'.1)
    subst hnil
    unfold Oper.wp execOp
    simp only [ho, resolve, invoke, builtin, Sem.run_bind, Sem.run_pure, Result.andThen_ok, List.map_toArray, List.map_cons, List.map_nil, hs, hx, run_append_zero t o.type e el _ A' n n c' (Nat.le_refl _)]
    exact hK _ _ (h _ _ (by simpa using hsl) (Below.refl _ _))
  · obtain ⟨ad', rfl, hab', hc'⟩ := hr'.2 h0
    have hgr := run_append_grow (P := P) (w := w) t o.type e i z el.ht hi hz ad n n xs (by rw [hsl.len, hsize]) hc ad' m c' news (by rw [hr'.1, hsize]) hc' (by omega) (by omega) (by rw [hby]; exact growslice_fits (by omega) hbytes)
    unfold Oper.wp execOp
    simp only [ho, resolve, invoke, builtin, Sem.run_bind, Sem.run_pure, Result.andThen_ok, List.map_toArray, List.map_cons, List.map_nil, hs, hx, hgr]
    refine hK _ _ (h _ _ ?_ ((Below.refl _ _).drew.alloc (by simp) _))
    have hcap := grownCap_ge w (n + m) n e
    have hcap2 := grownCap_le_maxLen w (n + m) n e (by unfold maxLen; omega)
    have hl1 := hsl.len
    have hl2 := hr'.1
    refine ⟨_, _, rfl, hcap, hcap2, by rw [List.length_append, hl1, hl2, Nat.add_mul], fun _ => ⟨_, rfl, by simp, fun j u hu => ?_⟩⟩
    have hjl : j < (xs ++ news).length := by
      rcases Nat.lt_or_ge j (xs ++ news).length with hj | hj
      · exact hj
      · rw [List.getElem?_eq_none hj] at hu; cases hu
    rw [Addr.add_lit, Nat.zero_add, World.cell?_alloc_at _ _ _ _ (by simp)]
    rw [Array.getElem?_append_left (by simpa using hjl)]
    simpa using hu
/-- s[:hi:max]. -/
theorem wpList_slice_hm {ops : Array Oper} {rest : List Oper} {o : Oper} {a : Act} {Q : Exit → Act → World → Prop} (hgd : o.guard = none) (t : TypeId) (x h mo : Operand) (ho : o.op = .slice t x none (some h) (some mo))
    {e : TypeId} {z : Value} {size bytes : Nat} (el : El P t e z size bytes) {A : Option Addr} {n c : Nat} {xs : List Value} (hx : a.eval x = .slice A n c) (hr : Sl w (.slice A n c) size n xs)
    (kh km : IntKind) (hi : Nat) {ih im : Int} (hh : a.eval h = .int kh ih) (hm : a.eval mo = .int km im) (eh1 : ih = (hi : Int)) (em1 : im = (hi : Int)) (h2 : hi ≤ n) (hpos : 0 < hi)
    (hk : Sl w (.slice A hi hi) size hi (xs.take (hi * size)) → wpList P ops Q rest (a.put o.dst (.slice A hi hi)) w) : wpList P ops Q (o :: rest) a w := by
  refine wpList_plain hgd fun K hK => ?_
  have hle := hr.le_cap
  subst eh1
  subst em1
  have hrun : (Instr.slice t (.slice A n c) none (some (.int kh (hi : Int))) (some (.int km (hi : Int)))).run P w = .ok (.slice A hi hi) w := by
    have : ¬ hi = 0 := by omega
    simp [Instr.slice, run_underlying el.ht, Instr.sliceBounds, run_sliceBound, run_sizeOf_el el, (by omega : hi ≤ c), Addr.add]
  have hrun' : (Instr.sliceAt t (.slice A n c) none (some (.int kh (hi : Int))) (some (.int km (hi : Int)))).run P w = .ok (.slice A hi hi) w := by
    rw [← hrun]
    simp [Instr.sliceAt, run_underlying el.ht]
  unfold Oper.wp execOp
  simp only [ho, Option.map_some, Option.map_none, hx, hh, hm, Sem.run_bind, Sem.run_pure, Result.andThen_ok, hrun']
  refine hK _ _ (hk ?_)
  obtain ⟨A', c', he, _, _, hrr⟩ := hr
  injection he with e1 e2 e3
  subst e1
  exact ⟨_, _, rfl, Nat.le_refl _, by omega, hrr.first h2⟩
end
end Go.Proofs.Ytakbadleipbngaa
