/-
  More laws of the walk, over any program: parts of slices. Conditions: none.
-/
import Derived.Test.YtakbadleipbngaaBase
import Derived.Great.BuildSlice
set_option linter.all false
namespace Go.Proofs.Ytakbadleipbngaa
open Go.RowKit
section
variable {P : Program} {w : World}
theorem Sl.sub {A : Option Addr} {c size n : Nat} {xs : List Value} (h : Sl w (.slice A n c) size n xs) (lo hi : Nat) (h1 : lo ≤ hi) (h2 : hi ≤ n) :
    Sl w (.slice (if c = lo then A else A.map (·.add (lo * size))) (hi - lo) (c - lo)) size (hi - lo) ((xs.drop (lo * size)).take ((hi - lo) * size)) := by
  obtain ⟨A', c', he, hnc, hcm, hr⟩ := h
  injection he with e1 e2 e3
  subst e1; subst e3
  have h := (hr.cut (k := lo) (cap := c) (by omega) hnc).first (k := hi - lo) (by omega)
  exact ⟨_, _, rfl, by omega, by omega, h⟩
theorem Sl.len_eq {A : Option Addr} {c size n m : Nat} {xs : List Value} (h : Sl w (.slice A n c) size m xs) : n = m := by
  obtain ⟨A', c', he, _⟩ := h
  injection he
theorem Sl.le_cap {A : Option Addr} {c size n m : Nat} {xs : List Value} (h : Sl w (.slice A n c) size m xs) : n ≤ c ∧ c ≤ maxLen := by
  obtain ⟨A', c', he, h1, h2, _⟩ := h
  injection he with e1 e2 e3
  omega
theorem run_sizeOf_el {t e : TypeId} {z : Value} {size bytes : Nat} (el : El P t e z size bytes) (w : World) : (sizeOf e).run P w = .ok size w := by
  obtain ⟨i, hi, _, hs, _⟩ := el.info
  simp [sizeOf, typeInfo, hi, hs]
/-- s[lo:hi]. -/
theorem wpList_slice_lh {ops : Array Oper} {rest : List Oper} {o : Oper} {a : Act} {Q : Exit → Act → World → Prop} (hgd : o.guard = none) (t : TypeId) (x l h : Operand) (ho : o.op = .slice t x (some l) (some h) none)
    {e : TypeId} {z : Value} {size bytes : Nat} (el : El P t e z size bytes) {A : Option Addr} {n c : Nat} {xs : List Value} (hx : a.eval x = .slice A n c) (hr : Sl w (.slice A n c) size n xs)
    (kl kh : IntKind) (lo hi : Nat) {il ih : Int} (hl : a.eval l = .int kl il) (hh : a.eval h = .int kh ih) (el1 : il = (lo : Int)) (eh1 : ih = (hi : Int)) (h1 : lo ≤ hi) (h2 : hi ≤ n)
    (hk : ∀ X d m, m = hi - lo → Sl w (.slice X m d) size m ((xs.drop (lo * size)).take (m * size)) → wpList P ops Q rest (a.put o.dst (.slice X m d)) w) : wpList P ops Q (o :: rest) a w := by
  refine wpList_plain hgd fun K hK => ?_
  have hle := hr.le_cap
  subst el1; subst eh1
  have hrun : (Instr.slice t (.slice A n c) (some (.int kl (lo : Int))) (some (.int kh (hi : Int))) none).run P w = .ok (.slice (if c = lo then A else A.map (·.add (lo * size))) (hi - lo) (c - lo)) w := by
    simp [Instr.slice, run_underlying el.ht, Instr.sliceBounds, run_sliceBound, run_sizeOf_el el, (by omega : hi ≤ c), h1]
  have hrun' : (Instr.sliceAt t (.slice A n c) (some (.int kl (lo : Int))) (some (.int kh (hi : Int))) none).run P w = .ok (.slice (if c = lo then A else A.map (·.add (lo * size))) (hi - lo) (c - lo)) w := by
    rw [← hrun]
    simp [Instr.sliceAt, run_underlying el.ht]
  unfold Oper.wp execOp
  simp only [ho, Option.map_some, Option.map_none, hx, hl, hh, Sem.run_bind, Sem.run_pure, Result.andThen_ok, hrun']
  exact hK _ _ (hk _ _ _ rfl (hr.sub lo hi h1 h2))
/-- s[lo:]. -/
theorem wpList_slice_l {ops : Array Oper} {rest : List Oper} {o : Oper} {a : Act} {Q : Exit → Act → World → Prop} (hgd : o.guard = none) (t : TypeId) (x l : Operand) (ho : o.op = .slice t x (some l) none none)
    {e : TypeId} {z : Value} {size bytes : Nat} (el : El P t e z size bytes) {A : Option Addr} {n c : Nat} {xs : List Value} (hx : a.eval x = .slice A n c) (hr : Sl w (.slice A n c) size n xs)
    (kl : IntKind) (lo : Nat) {il : Int} (hl : a.eval l = .int kl il) (el1 : il = (lo : Int)) (h1 : lo ≤ n)
    (hk : ∀ X d m, m = n - lo → Sl w (.slice X m d) size m (xs.drop (lo * size)) → wpList P ops Q rest (a.put o.dst (.slice X m d)) w) : wpList P ops Q (o :: rest) a w := by
  refine wpList_plain hgd fun K hK => ?_
  subst el1
  have hrun : (Instr.slice t (.slice A n c) (some (.int kl (lo : Int))) none none).run P w = .ok (.slice (if c = lo then A else A.map (·.add (lo * size))) (n - lo) (c - lo)) w := by
    simp [Instr.slice, run_underlying el.ht, Instr.sliceBounds, run_sliceBound, run_sizeOf_el el, h1]
  have hrun' : (Instr.sliceAt t (.slice A n c) (some (.int kl (lo : Int))) none none).run P w = .ok (.slice (if c = lo then A else A.map (·.add (lo * size))) (n - lo) (c - lo)) w := by
    rw [← hrun]
    simp [Instr.sliceAt, run_underlying el.ht]
  unfold Oper.wp execOp
  simp only [ho, Option.map_some, Option.map_none, hx, hl, Sem.run_bind, Sem.run_pure, Result.andThen_ok, hrun']
  refine hK _ _ (hk _ _ _ rfl ?_)
  have := hr.sub lo n h1 (Nat.le_refl _)
  rwa [List.take_of_length_le (by rw [List.length_drop, hr.len, Nat.sub_mul]; omega)] at this
/-- s[:hi]. -/
theorem wpList_slice_h {ops : Array Oper} {rest : List Oper} {o : Oper} {a : Act} {Q : Exit → Act → World → Prop} (hgd : o.guard = none) (t : TypeId) (x h : Operand) (ho : o.op = .slice t x none (some h) none)
    {e : TypeId} {z : Value} {size bytes : Nat} (el : El P t e z size bytes) {A : Option Addr} {n c : Nat} {xs : List Value} (hx : a.eval x = .slice A n c) (hr : Sl w (.slice A n c) size n xs)
    (kh : IntKind) (hi : Nat) {ih : Int} (hh : a.eval h = .int kh ih) (eh1 : ih = (hi : Int)) (h2 : hi ≤ n)
    (hk : ∀ X d m, m = hi → Sl w (.slice X m d) size m (xs.take (m * size)) → wpList P ops Q rest (a.put o.dst (.slice X m d)) w) : wpList P ops Q (o :: rest) a w := by
  refine wpList_plain hgd fun K hK => ?_
  have hle := hr.le_cap
  subst eh1
  have hrun : (Instr.slice t (.slice A n c) none (some (.int kh (hi : Int))) none).run P w = .ok (.slice (if c = 0 then A else A.map (·.add (0 * size))) (hi - 0) (c - 0)) w := by
    simp [Instr.slice, run_underlying el.ht, Instr.sliceBounds, run_sliceBound, run_sizeOf_el el, (by omega : hi ≤ c)]
  have hrun' : (Instr.sliceAt t (.slice A n c) none (some (.int kh (hi : Int))) none).run P w = .ok (.slice (if c = 0 then A else A.map (·.add (0 * size))) (hi - 0) (c - 0)) w := by
    rw [← hrun]
    simp [Instr.sliceAt, run_underlying el.ht]
  unfold Oper.wp execOp
  simp only [ho, Option.map_some, Option.map_none, hx, hh, Sem.run_bind, Sem.run_pure, Result.andThen_ok, hrun']
  refine hK _ _ (hk _ _ _ (by omega) ?_)
  have := hr.sub 0 hi (by omega) h2
  simpa using this
end

/-! ### A literal slice of one element -/
theorem fold_set (l : List Value) : ∀ (k : Nat) (arr : Array Value), arr.size = k + l.length →
    ((l.zipIdx k).foldl (fun (cs : Array Value) (x : Value × Nat) => cs.setIfInBounds (0 + x.2) x.1) arr).toList = arr.toList.take k ++ l := by
  induction l with
  | nil => intro k arr h; simp at h ⊢; rw [List.take_of_length_le (by simp; omega)]
  | cons c l ih =>
    intro k arr h
    simp only [List.zipIdx_cons, List.foldl_cons, Nat.zero_add]
    have := ih (k + 1) (arr.setIfInBounds k c) (by simp at h ⊢; omega)
    simp only [Nat.zero_add] at this
    rw [this]
    simp only [List.length_cons] at h
    have hk : k < arr.toList.length := by simp; omega
    rw [Array.toList_setIfInBounds, List.take_add_one, List.take_set_of_le (by omega), List.getElem?_set_self hk]
    simp
theorem fold_all (cs arr : Array Value) (h : arr.size = cs.size) : cs.zipIdx.foldl (fun (a : Array Value) (x : Value × Nat) => a.setIfInBounds (0 + x.2) x.1) arr = cs := by
  apply Array.toList_inj.1
  rw [← Array.foldl_toList, Array.toList_zipIdx]
  have := fold_set cs.toList 0 arr (by simpa using h)
  simpa using this
theorem fill_one (size : Nat) (arr cs : Array Value) (hl : cs.size = size) (ha : arr.size = size) : Instr.fill (fun i => some (i * size, size)) arr [(0, .agg cs)] = some cs := by
  have hc : (Value.agg cs).cells = cs := rfl
  simp only [Instr.fill, hc, Nat.zero_mul]
  rw [if_neg (by simp [hl, ha]), fold_all cs arr (by omega)]
section
variable {P : Program}
/-- The slice of the one element x. -/
theorem wpList_built_one {ops : Array Oper} {rest : List Oper} {o : Oper} {a : Act} {w : World} {Q : Exit → Act → World → Prop} (hg : o.guard = none) (t : TypeId) (x : Operand) (ho : o.op = .buildSlice t 1 #[(0, x)])
    {e : TypeId} {z : Value} {size bytes : Nat} (el : El P t e z size bytes) (hsm : size ≤ 10000) (cs : Array Value) (hx : a.eval x = .agg cs) (hl : cs.size = size)
    (h : wpList P ops Q rest (a.put o.dst (.slice (some ⟨w.heap.size, 0, none⟩) 1 1)) (w.alloc (.cells cs e))) : wpList P ops Q (o :: rest) a w := by
  obtain ⟨i, hi, hz, hs, _⟩ := el.info
  have hpos := el.hsz
  refine wpList_buildSlice hg t e 1 #[(0, x)] ho cs i z el.ht hi hz (by rw [hs]; omega) (by rw [hs]; omega) ?_ h
  simp only [List.map_toArray, List.map_cons, List.map_nil, hx, hs]
  exact fill_one size _ cs hl (by simp)
/-- append(s, x): the one element x, of several cells, was just stored in a block of its own. -/
theorem wpList_append_elem {ops : Array Oper} {rest : List Oper} {o : Oper} {a : Act} {w : World} {Q : Exit → Act → World → Prop} (hgd : o.guard = none) (s x : Operand) (t : TypeId)
    (ho : o.op = .call { callee := .builtin .append, args := #[s, x], argTypes := #[t, t] })
    {e : TypeId} {z : Value} {size bytes : Nat} (el : El P t e z size bytes) (base : Nat) 
    (v : Value) (n : Nat) (xs : List Value) (hs : a.eval s = v) (hown : w.ownsRow base e size v n xs)
    (cs : List Value) (hx : a.eval x = .slice (some ⟨w.heap.size, 0, none⟩) 1 1) (hl : cs.length = size) (h1 : ∀ u ∈ cs, u.oneCell' = true)
    (hbytes : (n + 1) * bytes ≤ 140737488355328) (h63 : n + 1 ≤ 140737488355328) (hbase : base ≤ w.heap.size) (w0 : World) (B : Nat) (hB : Below B w0 w) (hBb : B ≤ base)
    (h : ∀ v' w', w'.ownsRow base e size v' (n + 1) (xs ++ cs) → Below B w0 w' → wpList P ops Q rest (a.put o.dst v') w') : wpList P ops Q (o :: rest) a (w.alloc (.cells cs.toArray e)) :=
  wpList_append_any _ hgd s x t ho el base v n xs hs (hown.alloc _) _ 1 cs hx (by have := Sl.built w cs.toArray e 1 size (by simpa using hl) (by simp [maxLen]); simpa using this) h1 hbytes h63 (by simp; omega) fun v' w' h2 h3 _ =>
    h v' w' h2 ((hB.alloc (by omega) _).grown h3 (by simp; omega) (fun k hk => by have := (hown.lt k hk).1; omega))
end
end Go.Proofs.Ytakbadleipbngaa
