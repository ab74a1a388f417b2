/-
  An abstract layer, over any program: values as plain data, and what they stand for in memory. Conditions: none.
-/
import Derived.Test.YtakbadleipbngaaBase3
set_option linter.all false
namespace Go.Proofs.Ytakbadleipbngaa
open Go.RowKit

/-! ### Data that nobody writes any more -/
/-- One cell's content: a value as it is; a slice of n elements of z cells each, with their contents; anything. -/
inductive E where
  | lit (v : Value)
  | sl (z n : Nat) (xs : List E)
  | any
  deriving Inhabited
/-- v reads as x in w, without looking at a cell that F names. -/
inductive RepE (w : World) (F : Addr → Prop) : E → Value → Prop
  | lit (u : Value) (h : u.oneCell' = true) : RepE w F (.lit u) u
  | any (v : Value) (h : v.oneCell' = true) : RepE w F .any v
  | sl (z n : Nat) (xs : List E) (A : Option Addr) (c : Nat) (us : Nat → Value) (hl : xs.length = n * z) (hz : 0 < z) (hnc : n ≤ c) (hcm : c ≤ maxLen)
      (hA : 0 < n → ∃ ad, A = some ad ∧ ad.block < w.heap.size)
      (hc : ∀ ad, A = some ad → ∀ j x, xs[j]? = some x → w.cell? (ad.add j) = some (us j) ∧ ¬ F (ad.add j))
      (hr : ∀ j x, xs[j]? = some x → RepE w F x (us j)) : RepE w F (.sl z n xs) (.slice A n c)
theorem RepE.one {w : World} {F : Addr → Prop} {x : E} {v : Value} (h : RepE w F x v) : v.oneCell' = true := by
  cases h <;> first | assumption | rfl
theorem RepE.mono {w w' : World} {F F' : Addr → Prop} {x : E} {v : Value} (h : RepE w F x v) (hs : w.heap.size ≤ w'.heap.size)
    (hc : ∀ p : Addr, p.block < w.heap.size → ¬ F p → w'.cell? p = w.cell? p) (hF : ∀ p : Addr, p.block < w.heap.size → F' p → F p) : RepE w' F' x v := by
  induction h with
  | lit u h => exact .lit u h
  | any v h => exact .any v h
  | sl z n xs A c us hl hz hnc hcm hA hcc hr ih =>
    refine .sl z n xs A c us hl hz hnc hcm (fun hn => ?_) (fun ad ha j x hx => ?_) ih
    · obtain ⟨ad, e, hb⟩ := hA hn
      exact ⟨ad, e, by omega⟩
    · obtain ⟨h1, h2⟩ := hcc ad ha j x hx
      have hn : 0 < n := by
        have : j < xs.length := by
          rcases Nat.lt_or_ge j xs.length with h | h
          · exact h
          · rw [List.getElem?_eq_none h] at hx; cases hx
        rcases Nat.eq_zero_or_pos n with h0 | h0
        · subst h0; omega
        · exact h0
      obtain ⟨ad', e, hb⟩ := hA hn
      rw [ha] at e
      injection e with e
      subst e
      have hb' : (ad.add j).block < w.heap.size := by rw [block_of_add]; exact hb
      exact ⟨(hc _ hb' h2).trans h1, fun hf => h2 (hF _ hb' hf)⟩

/-! ### Values of a function's temporaries -/
/-- e: data; own: a slice of the call's own that may still grow; fu: a slice whose capacity is its length; ag: a struct or an array, a cell each; tu: several results; fp: the address of a cell of data; pt: the address of a cell of a variable; ow: a slice over a variable; fn: a function value that has captured variables; opt b d: d, if b holds; top: unknown. -/
inductive D where
  | e (x : E)
  | own (id z n : Nat) (xs : List E)
  | fu (z n : Nat) (xs : List E)
  | ag (ds : List D)
  | tu (ds : List D)
  | fp (xs : List E) (off : Nat)
  | pt (k off : Nat)
  | ow (k off z n : Nat)
  | fn (f : FuncId) (ks : List Nat)
  | opt (b : Bool) (d : D)
  | top
  deriving Inhabited
def D.isE : D → Bool
  | .e _ => true
  | .fu _ _ _ => true
  | .fp _ _ => true
  | _ => false
/-- The numbers that it names are below m. -/
def D.idsC (m : Nat) : D → Bool
  | .e _ => true
  | .fu _ _ _ => true
  | .fp _ _ => true
  | .own id _ _ _ => decide (id < m)
  | .pt k _ => decide (k < m)
  | .ow k _ _ _ => decide (k < m)
  | .fn _ ks => ks.all fun k => decide (k < m)
  | .top => true
  | .opt _ (.ag ds) => ds.all D.isE
  | .opt _ d => d.idsC m
  | _ => false
theorem D.idsC_le {m m' : Nat} (h : m ≤ m') : ∀ {d : D}, d.idsC m = true → d.idsC m' = true
  | .e _, _ => rfl
  | .fu _ _ _, _ => rfl
  | .fp _ _, _ => rfl
  | .top, _ => rfl
  | .own id _ _ _, h' => by simp only [D.idsC, decide_eq_true_eq] at h' ⊢; omega
  | .pt k _, h' => by simp only [D.idsC, decide_eq_true_eq] at h' ⊢; omega
  | .ow k _ _ _, h' => by simp only [D.idsC, decide_eq_true_eq] at h' ⊢; omega
  | .fn _ ks, h' => by simp only [D.idsC, List.all_eq_true, decide_eq_true_eq] at h' ⊢; exact fun k hk => Nat.lt_of_lt_of_le (h' k hk) h
  | .opt _ (.ag ds), h' => h'
  | .opt _ (.e _), _ => rfl
  | .opt _ (.fu _ _ _), _ => rfl
  | .opt _ (.fp _ _), _ => rfl
  | .opt _ .top, _ => rfl
  | .opt _ (.own id z n xs), h' => D.idsC_le (d := .own id z n xs) h h'
  | .opt _ (.pt k o), h' => D.idsC_le (d := .pt k o) h h'
  | .opt _ (.ow k o z n), h' => D.idsC_le (d := .ow k o z n) h h'
  | .opt _ (.fn f ks), h' => D.idsC_le (d := .fn f ks) h h'
  | .opt _ (.opt b d), h' => D.idsC_le (d := .opt b d) h h'
  | .opt _ (.tu _), h' => by cases h'
  | .ag _, h' => by cases h'
  | .tu _, h' => by cases h'
/-- The variables (each with its cells), the slices that may still grow (each with its length and its element's type), and the next number for either. -/
structure Hp where
  vars : List (Nat × List D)
  live : List (Nat × Nat × Nat × TypeId)
  next : Nat
/-- Where they lie: the blocks of the variables, the headers of the slices, and the cells that data may not look at. -/
structure Gh where
  μ : Nat → Nat
  τ : Nat → Value
  F : Addr → Prop

inductive RepD (hp : Hp) (g : Gh) (w : World) : D → Value → Prop
  | e (x : E) (v : Value) (h : RepE w g.F x v) : RepD hp g w (.e x) v
  | own (id z n : Nat) (xs : List E) (v : Value) (h : RepE w g.F (.sl z n xs) v) (hid : id < hp.next)
      (ht : ∀ m e, hp.live.lookup id = some (m, e) → n ≤ m ∧ e.1 = z ∧ (n = m → v = g.τ id)) : RepD hp g w (.own id z n xs) v
  | fu (z n : Nat) (xs : List E) (A : Option Addr) (h : RepE w g.F (.sl z n xs) (.slice A n n)) : RepD hp g w (.fu z n xs) (.slice A n n)
  | ag (ds : List D) (cs : Array Value) (hl : cs.size = ds.length) (h1 : ∀ (j : Nat) (u : Value), cs[j]? = some u → u.oneCell' = true)
      (hr : ∀ (j : Nat) (d : D) (u : Value), ds[j]? = some d → cs[j]? = some u → RepD hp g w d u) : RepD hp g w (.ag ds) (.agg cs)
  | tu (ds : List D) (cs : Array Value) (hl : cs.size = ds.length)
      (hr : ∀ (j : Nat) (d : D) (u : Value), ds[j]? = some d → cs[j]? = some u → RepD hp g w d u) : RepD hp g w (.tu ds) (.tuple cs)
  | fp (xs : List E) (off : Nat) (ad : Addr) (hb : ad.block < w.heap.size) (hc : ∀ j x, xs[j]? = some x → ∃ u, w.cell? (ad.add j) = some u ∧ ¬ g.F (ad.add j) ∧ RepE w g.F x u) :
      RepD hp g w (.fp xs off) (.pointer (some (ad.add off)))
  | pt (k off : Nat) (hk : k < hp.next) : RepD hp g w (.pt k off) (.pointer (some ⟨g.μ k, off, none⟩))
  | ow (k off z n c : Nat) (hk : k < hp.next) (hnc : n ≤ c) (hcm : c ≤ maxLen) : RepD hp g w (.ow k off z n) (.slice (some ⟨g.μ k, off, none⟩) n c)
  | fn (f : FuncId) (ks : List Nat) (hk : ∀ k ∈ ks, k < hp.next) : RepD hp g w (.fn f ks) (.func (.func f) #[] (ks.map fun k => Value.pointer (some ⟨g.μ k, 0, none⟩)).toArray)
  | opt (b : Bool) (d : D) (v : Value) (hi : (D.opt b d).idsC hp.next = true) (h : b = true → RepD hp g w d v) : RepD hp g w (.opt b d) v
  | top (v : Value) : RepD hp g w .top v

/-- No variable and no growing slice lies in block b. -/
def Free (hp : Hp) (g : Gh) (b : Nat) : Prop := (∀ k ds, hp.vars.lookup k = some ds → g.μ k ≠ b) ∧ ∀ id t, hp.live.lookup id = some t → (g.τ id).ownBlock ≠ some b
/-- From one state of memory to a later one, all that was said stays said. -/
structure Mono (hp : Hp) (g : Gh) (w : World) (hp' : Hp) (g' : Gh) (w' : World) : Prop where
  size : w.heap.size ≤ w'.heap.size
  cell : ∀ p : Addr, p.block < w.heap.size → ¬ g.F p → w'.cell? p = w.cell? p
  forb : ∀ p : Addr, p.block < w.heap.size → g'.F p → g.F p
  next : hp.next ≤ hp'.next
  μ : ∀ k, k < hp.next → g'.μ k = g.μ k
  live : ∀ id, id < hp.next → ∀ m e, hp'.live.lookup id = some (m, e) → ∃ m0, hp.live.lookup id = some (m0, e) ∧ m0 ≤ m ∧ (m0 = m → g'.τ id = g.τ id)
  fr : ∀ b, b < w.heap.size → Free hp g b → w'.heap[b]? = w.heap[b]? ∧ (∀ p : Addr, p.block = b → g.F p → g'.F p) ∧ Free hp' g' b
theorem Mono.refl (hp : Hp) (g : Gh) (w : World) : Mono hp g w hp g w :=
  ⟨Nat.le_refl _, fun _ _ _ => rfl, fun _ _ h => h, Nat.le_refl _, fun _ _ => rfl, fun _ _ m _ h => ⟨m, h, Nat.le_refl _, fun _ => rfl⟩, fun _ _ h => ⟨rfl, fun _ _ h => h, h⟩⟩
theorem Mono.trans {hp hp' hp'' : Hp} {g g' g'' : Gh} {w w' w'' : World} (h : Mono hp g w hp' g' w') (h' : Mono hp' g' w' hp'' g'' w'') : Mono hp g w hp'' g'' w'' :=
  ⟨Nat.le_trans h.size h'.size, fun p hb hf => (h'.cell p (Nat.lt_of_lt_of_le hb h.size) (fun hf' => hf (h.forb p hb hf'))).trans (h.cell p hb hf),
    fun p hb hf => h.forb p hb (h'.forb p (Nat.lt_of_lt_of_le hb h.size) hf), Nat.le_trans h.next h'.next,
    fun k hk => (h'.μ k (Nat.lt_of_lt_of_le hk h.next)).trans (h.μ k hk),
    fun id hid m e hm => by
      obtain ⟨m1, h1, h2, h3⟩ := h'.live id (Nat.lt_of_lt_of_le hid h.next) m e hm
      obtain ⟨m0, h4, h5, h6⟩ := h.live id hid m1 e h1
      exact ⟨m0, h4, Nat.le_trans h5 h2, fun hh => (h3 (by omega)).trans (h6 (by omega))⟩,
    fun b hb hf => by
      obtain ⟨h1, h2, h3⟩ := h.fr b hb hf
      obtain ⟨h4, h5, h6⟩ := h'.fr b (Nat.lt_of_lt_of_le hb h.size) h3
      exact ⟨h4.trans h1, fun p hp hq => h5 p hp (h2 p hp hq), h6⟩⟩
section
variable {hp hp' : Hp} {g g' : Gh} {w w' : World} {d : D} {v : Value} {x : E}
theorem Mono.repE (m : Mono hp g w hp' g' w') (h : RepE w g.F x v) : RepE w' g'.F x v := h.mono m.size m.cell m.forb
theorem RepD.mono (h : RepD hp g w d v) (m : Mono hp g w hp' g' w') : RepD hp' g' w' d v := by
  induction h with
  | e x v h => exact .e x v (m.repE h)
  | own id z n xs v h hid ht =>
    refine .own id z n xs v (m.repE h) (Nat.lt_of_lt_of_le hid m.next) (fun m' e hm => ?_)
    obtain ⟨m0, h1, h2, h3⟩ := m.live id hid m' e hm
    obtain ⟨h4, h6, h5⟩ := ht m0 e h1
    exact ⟨Nat.le_trans h4 h2, h6, fun hh => (h5 (by omega)).trans (h3 (by omega)).symm⟩
  | fu z n xs A h => exact .fu z n xs A (m.repE h)
  | ag ds cs hl h1 _ ih => exact .ag ds cs hl h1 ih
  | tu ds cs hl _ ih => exact .tu ds cs hl ih
  | fp xs off ad hb hc =>
    refine .fp xs off ad (Nat.lt_of_lt_of_le hb m.size) (fun j x hx => ?_)
    obtain ⟨u, h1, h2, h3⟩ := hc j x hx
    have hb' : (ad.add j).block < w.heap.size := by rw [block_of_add]; exact hb
    exact ⟨u, (m.cell _ hb' h2).trans h1, fun hf => h2 (m.forb _ hb' hf), m.repE h3⟩
  | pt k off hk => rw [← m.μ k hk]; exact .pt k off (Nat.lt_of_lt_of_le hk m.next)
  | ow k off z n c hk h1 h2 => rw [← m.μ k hk]; exact .ow k off z n c (Nat.lt_of_lt_of_le hk m.next) h1 h2
  | fn f ks hk =>
    have : (ks.map fun k => Value.pointer (some ⟨g.μ k, 0, none⟩)) = ks.map fun k => Value.pointer (some ⟨g'.μ k, 0, none⟩) :=
      List.map_congr_left fun k h => by rw [m.μ k (hk k h)]
    rw [this]
    exact .fn f ks (fun k h => Nat.lt_of_lt_of_le (hk k h) m.next)
  | opt b d v hi _ ih => exact .opt b d v (D.idsC_le m.next hi) ih
  | top v => exact .top v
end

/-! ### The variables and the growing slices in memory -/
structure HR (B : Nat) (hp : Hp) (g : Gh) (w : World) : Prop where
  var : ∀ k ds, hp.vars.lookup k = some ds → k < hp.next ∧ B ≤ g.μ k ∧ (∀ p : Addr, p.block = g.μ k → g.F p) ∧
    ∃ cs ty, w.heap[g.μ k]? = some (.cells cs ty (0, 0)) ∧ cs.size = ds.length ∧ ∀ (j : Nat) (u : Value), cs[j]? = some u → u.oneCell' = true ∧ ∀ d, ds[j]? = some d → RepD hp g w d u
  inj : ∀ k k' ds ds', hp.vars.lookup k = some ds → hp.vars.lookup k' = some ds' → g.μ k = g.μ k' → k = k'
  tok : ∀ id n e, hp.live.lookup id = some (n, e) → id < hp.next ∧ ∃ us, 0 < e.1 ∧ w.ownsRow B e.2 e.1 (g.τ id) n us ∧
    ∀ b, (g.τ id).ownBlock = some b → (∀ p : Addr, p.block = b → n * e.1 ≤ p.off → g.F p) ∧ ∀ k ds, hp.vars.lookup k = some ds → g.μ k ≠ b
  tinj : ∀ id id' t t' b, hp.live.lookup id = some t → hp.live.lookup id' = some t' → (g.τ id).ownBlock = some b → (g.τ id').ownBlock = some b → id = id'
  base : B ≤ w.heap.size
  fits : ∀ p : Addr, g.F p → p.block < w.heap.size
section
variable {B : Nat} {hp hp' : Hp} {g g' : Gh} {w w' : World}
theorem HR.var_lt (h : HR B hp g w) {k : Nat} {ds : List D} (hk : hp.vars.lookup k = some ds) : g.μ k < w.heap.size := by
  obtain ⟨_, _, _, cs, ty, hh, _⟩ := h.var k ds hk
  exact (Array.getElem?_eq_some_iff.1 hh).1
/-- Blocks below the old end are as they were; the headers, the variables are the same. -/
theorem HR.keep (h : HR B hp g w) (hs : w.heap.size ≤ w'.heap.size) (hb : ∀ b, b < w.heap.size → w'.heap[b]? = w.heap[b]?) : HR B hp g w' := by
  have m : Mono hp g w hp g w' := ⟨hs, fun _ hq _ => World.cell?_of_block (hb _ hq), fun _ _ h => h, Nat.le_refl _, fun _ _ => rfl, fun _ _ m _ h => ⟨m, h, Nat.le_refl _, fun _ => rfl⟩, fun b hq h => ⟨hb b hq, fun _ _ h => h, h⟩⟩
  refine ⟨fun k ds hk => ?_, h.inj, fun id n e hi => ?_, h.tinj, Nat.le_trans h.base hs, fun p hf => Nat.lt_of_lt_of_le (h.fits p hf) hs⟩
  · have hlt := h.var_lt hk
    obtain ⟨h1, h2, h3, cs, ty, h4, h5, h6⟩ := h.var k ds hk
    exact ⟨h1, h2, h3, cs, ty, (hb _ hlt).trans h4, h5, fun j u hu => ⟨(h6 j u hu).1, fun d hd => ((h6 j u hu).2 d hd).mono m⟩⟩
  · obtain ⟨h1, us, hz, h2, h3⟩ := h.tok id n e hi
    refine ⟨h1, us, hz, ⟨h2.1, ?_⟩, h3⟩
    rcases h2.2 with h0 | ⟨b, cap, cur, hv, hB, hh, r⟩
    · exact .inl h0
    · exact .inr ⟨b, cap, cur, hv, hB, (hb b (Array.getElem?_eq_some_iff.1 hh).1).trans hh, r⟩
theorem Mono.keep (hp : Hp) (g : Gh) (hs : w.heap.size ≤ w'.heap.size) (hb : ∀ b, b < w.heap.size → w'.heap[b]? = w.heap[b]?) : Mono hp g w hp g w' :=
  ⟨hs, fun _ hq _ => World.cell?_of_block (hb _ hq), fun _ _ h => h, Nat.le_refl _, fun _ _ => rfl, fun _ _ m _ h => ⟨m, h, Nat.le_refl _, fun _ => rfl⟩, fun b hq h => ⟨hb b hq, fun _ _ h => h, h⟩⟩
theorem lookup_cons_ne {α : Type} {k j : Nat} {x : α} {l : List (Nat × α)} (h : j ≠ k) : ((k, x) :: l).lookup j = l.lookup j := by
  rw [List.lookup_cons, beq_eq_false_iff_ne.2 h]
theorem lookup_cons_eq {α : Type} {k : Nat} {x : α} {l : List (Nat × α)} : ((k, x) :: l).lookup k = some x := by
  rw [List.lookup_cons, beq_self_eq_true]
/-- A new variable. -/
def Hp.var (hp : Hp) (ds : List D) : Hp := ⟨(hp.next, ds) :: hp.vars, hp.live, hp.next + 1⟩
def Gh.var (g : Gh) (k b : Nat) : Gh := ⟨fun j => if j = k then b else g.μ j, g.τ, fun p => g.F p ∨ p.block = b⟩
theorem Mono.var (hp : Hp) (g : Gh) (w : World) (ds : List D) (o : Obj) : Mono hp g w (hp.var ds) (g.var hp.next w.heap.size) (w.alloc o) := by
  refine ⟨by simp, fun p hp1 _ => World.cell?_alloc_lt w o p hp1, fun p hb hf => ?_, Nat.le_succ _, fun k hk => ?_, fun _ _ m _ hm => ⟨m, hm, Nat.le_refl _, fun _ => rfl⟩, fun b hb hf => ⟨heap_alloc_old w _ hb, fun _ _ h => .inl h, fun k ds' hk => ?_, hf.2⟩⟩
  · rcases hf with hf | hf
    · exact hf
    · omega
  · show (if k = hp.next then _ else _) = _
    rw [if_neg (by omega)]
  · show (if k = hp.next then _ else _) ≠ _
    by_cases hkn : k = hp.next
    · rw [if_pos hkn]; omega
    · rw [if_neg hkn]
      exact hf.1 k ds' (by rw [← hk]; exact (lookup_cons_ne hkn).symm)
theorem HR.newVar (hr : HR B hp g w) (ds : List D) (cs : Array Value) (ty : TypeId) (hl : cs.size = ds.length)
    (hc : ∀ (j : Nat) (u : Value), cs[j]? = some u → u.oneCell' = true ∧ ∀ d, ds[j]? = some d → RepD hp g w d u) : HR B (hp.var ds) (g.var hp.next w.heap.size) (w.alloc (.cells cs ty)) := by
  have m := Mono.var hp g w ds (.cells cs ty)
  have hall : ∀ b, b < w.heap.size → (w.alloc (.cells cs ty)).heap[b]? = w.heap[b]? := fun b hb => heap_alloc_old w _ hb
  have hμ : ∀ k, k < hp.next → (g.var hp.next w.heap.size).μ k = g.μ k := m.μ
  refine ⟨fun k ds' hk => ?_, fun k k' a b hk hk' he => ?_, fun id n e hi => ?_, fun id id' t t' b hi hi' he he' => hr.tinj id id' t t' b hi hi' he he', by simp; have := hr.base; omega, fun p hf => ?_⟩
  · by_cases hkn : k = hp.next
    · subst hkn
      have : some ds = some ds' := by rw [← hk]; exact lookup_cons_eq.symm
      injection this with this
      subst this
      refine ⟨Nat.lt_succ_self _, by show B ≤ (if _ then _ else _); rw [if_pos rfl]; exact hr.base, fun p hp' => .inr ?_, cs, ty, ?_, hl, fun j u hu => ⟨(hc j u hu).1, fun d hd => ((hc j u hu).2 d hd).mono m⟩⟩
      · rw [hp']; show (if _ then _ else _) = _; rw [if_pos rfl]
      · show (w.alloc _).heap[(if _ then _ else _)]? = _
        rw [if_pos rfl]
        exact heap_alloc_new w _
    · have hk0 : hp.vars.lookup k = some ds' := by rw [← hk]; exact (lookup_cons_ne hkn).symm
      have hlt := hr.var_lt hk0
      obtain ⟨h1, h2, h3, cs', ty', h4, h5, h6⟩ := hr.var k ds' hk0
      rw [hμ k h1]
      exact ⟨Nat.lt_succ_of_lt h1, h2, fun p hp' => .inl (h3 p hp'), cs', ty', (hall _ hlt).trans h4, h5, fun j u hu => ⟨(h6 j u hu).1, fun d hd => ((h6 j u hu).2 d hd).mono m⟩⟩
  · have look : ∀ {j : Nat} {a : List D}, (hp.var ds).vars.lookup j = some a → j = hp.next ∨ (j ≠ hp.next ∧ hp.vars.lookup j = some a) := by
      intro j a hj
      by_cases hjn : j = hp.next
      · exact .inl hjn
      · exact .inr ⟨hjn, by rw [← hj]; exact (lookup_cons_ne hjn).symm⟩
    rcases look hk with h1 | ⟨h1, h1'⟩ <;> rcases look hk' with h2 | ⟨h2, h2'⟩
    · omega
    · have hlt := hr.var_lt h2'
      have hn := (hr.var k' b h2').1
      rw [hμ k' hn, h1] at he
      have : (g.var hp.next w.heap.size).μ hp.next = w.heap.size := if_pos rfl
      omega
    · have hlt := hr.var_lt h1'
      have hn := (hr.var k a h1').1
      rw [hμ k hn, h2] at he
      have : (g.var hp.next w.heap.size).μ hp.next = w.heap.size := if_pos rfl
      omega
    · rw [hμ k (hr.var k a h1').1, hμ k' (hr.var k' b h2').1] at he
      exact hr.inj k k' a b h1' h2' he
  · obtain ⟨h1, us, hz, h2, h3⟩ := hr.tok id n e hi
    refine ⟨Nat.lt_succ_of_lt h1, us, hz, own_below h2 ((Below.refl w.heap.size w).alloc (Nat.le_refl _) _), fun b hb => ⟨fun p h4 h5 => .inl ((h3 b hb).1 p h4 h5), fun k ds' hk => ?_⟩⟩
    by_cases hkn : k = hp.next
    · subst hkn
      show (if _ then _ else _) ≠ b
      rw [if_pos rfl]
      have := (h2.lt b hb).2
      omega
    · have hk0 : hp.vars.lookup k = some ds' := by rw [← hk]; exact (lookup_cons_ne hkn).symm
      rw [hμ k (hr.var k ds' hk0).1]
      exact (h3 b hb).2 k ds' hk0
  · simp only [World.size_alloc]
    rcases hf with hf | hf
    · have := hr.fits p hf; omega
    · omega
/-- A variable is written. -/
def Hp.set (hp : Hp) (k : Nat) (ds : List D) : Hp := ⟨(k, ds) :: hp.vars, hp.live, hp.next⟩
theorem Mono.setVar (hr : HR B hp g w) {k : Nat} {ds : List D} (hk : hp.vars.lookup k = some ds) (ds' : List D) (hs : w'.heap.size = w.heap.size) (ho : ∀ b, b ≠ g.μ k → w'.heap[b]? = w.heap[b]?) : Mono hp g w (hp.set k ds') g w' := by
  refine ⟨by omega, fun p hp' hf => World.cell?_of_block (ho _ fun e => hf ((hr.var k ds hk).2.2.1 p e)), fun _ _ h => h, Nat.le_refl _, fun _ _ => rfl, fun _ _ m _ h => ⟨m, h, Nat.le_refl _, fun _ => rfl⟩, fun b hb hf => ⟨ho b fun e => hf.1 k ds hk e.symm, fun _ _ h => h, fun j a hj => ?_, hf.2⟩⟩
  by_cases hjn : j = k
  · subst hjn; exact hf.1 j ds hk
  · exact hf.1 j a (by rw [← hj]; exact (lookup_cons_ne hjn).symm)
theorem HR.setVar (hr : HR B hp g w) {k : Nat} {ds : List D} (hk : hp.vars.lookup k = some ds) (ds' : List D) (cs : Array Value) (ty : TypeId) (hs : w'.heap.size = w.heap.size) (ho : ∀ b, b ≠ g.μ k → w'.heap[b]? = w.heap[b]?)
    (hn : w'.heap[g.μ k]? = some (.cells cs ty (0, 0))) (hl : cs.size = ds'.length) (hc : ∀ (j : Nat) (u : Value), cs[j]? = some u → u.oneCell' = true ∧ ∀ d, ds'[j]? = some d → RepD hp g w d u) : HR B (hp.set k ds') g w' := by
  have m := Mono.setVar hr hk ds' hs ho
  have look : ∀ {j : Nat} {a : List D}, (hp.set k ds').vars.lookup j = some a → (j = k ∧ a = ds') ∨ (j ≠ k ∧ hp.vars.lookup j = some a) := by
    intro j a hj
    by_cases hjn : j = k
    · subst hjn
      have : some ds' = some a := by rw [← hj]; exact lookup_cons_eq.symm
      injection this with this
      exact .inl ⟨rfl, this.symm⟩
    · exact .inr ⟨hjn, by rw [← hj]; exact (lookup_cons_ne hjn).symm⟩
  have some_of : ∀ {j : Nat} {a : List D}, (hp.set k ds').vars.lookup j = some a → ∃ a', hp.vars.lookup j = some a' := by
    intro j a hj
    rcases look hj with ⟨rfl, _⟩ | ⟨_, h⟩
    · exact ⟨_, hk⟩
    · exact ⟨_, h⟩
  refine ⟨fun j a hj => ?_, fun j j' a b hj hj' he => ?_, fun id n e hi => ?_, hr.tinj, by have := hr.base; omega, fun p hf => by have := hr.fits p hf; omega⟩
  · rcases look hj with ⟨rfl, rfl⟩ | ⟨hne, h0⟩
    · obtain ⟨h1, h2, h3, _⟩ := hr.var j ds hk
      exact ⟨h1, h2, h3, cs, ty, hn, hl, fun i u hu => ⟨(hc i u hu).1, fun d hd => ((hc i u hu).2 d hd).mono m⟩⟩
    · obtain ⟨h1, h2, h3, cs', ty', h4, h5, h6⟩ := hr.var j a h0
      exact ⟨h1, h2, h3, cs', ty', (ho _ fun e => hne (hr.inj j k a ds h0 hk e)).trans h4, h5, fun i u hu => ⟨(h6 i u hu).1, fun d hd => ((h6 i u hu).2 d hd).mono m⟩⟩
  · obtain ⟨a', ha'⟩ := some_of hj
    obtain ⟨b', hb'⟩ := some_of hj'
    exact hr.inj j j' a' b' ha' hb' he
  · obtain ⟨h1, us, hz, h2, h3⟩ := hr.tok id n e hi
    refine ⟨h1, us, hz, ⟨h2.1, ?_⟩, fun b hb => ⟨(h3 b hb).1, fun j a hj => ?_⟩⟩
    · rcases h2.2 with h0 | ⟨b, cap, cur, hv, hB, hh, r⟩
      · exact .inl h0
      · refine .inr ⟨b, cap, cur, hv, hB, (ho b fun e => ?_).trans hh, r⟩
        exact (h3 b (by rw [hv]; rfl)).2 k ds hk e.symm
    · obtain ⟨a', ha'⟩ := some_of hj
      exact (h3 b hb).2 j a' ha'
/-- A slice of the call's own that may grow. -/
def Hp.tok (hp : Hp) (n : Nat) (e : Nat × TypeId) : Hp := ⟨hp.vars, (hp.next, n, e) :: hp.live, hp.next + 1⟩
def Value.tail (v : Value) (n : Nat) (p : Addr) : Prop := ∃ b, v.ownBlock = some b ∧ p.block = b ∧ n ≤ p.off
def Gh.tok (g : Gh) (id : Nat) (v : Value) (n : Nat) : Gh := ⟨g.μ, fun j => if j = id then v else g.τ j, fun p => (g.F p ∧ ¬ (v.ownBlock = some p.block ∧ p.off < n)) ∨ Value.tail v n p⟩
theorem Mono.tok (hp : Hp) (g : Gh) {v : Value} {n m : Nat} {e : Nat × TypeId} (hs : w.heap.size ≤ w'.heap.size) (hb : ∀ b, b < w.heap.size → w'.heap[b]? = w.heap[b]?) (hv : ∀ b, v.ownBlock = some b → w.heap.size ≤ b) :
    Mono hp g w (hp.tok n e) (g.tok hp.next v m) w' := by
  refine ⟨hs, fun p hp' _ => World.cell?_of_block (hb _ hp'), fun p hpb hf => ?_, Nat.le_succ _, fun _ _ => rfl, fun id hid k e' hm => ?_, fun b hq hf => ⟨hb b hq, fun p h1 h2 => .inl ⟨h2, fun h => by have := hv _ h.1; omega⟩, hf.1, fun id t hi => ?_⟩⟩
  · rcases hf with hf | ⟨b, h1, h2, _⟩
    · exact hf.1
    · have := hv b h1; omega
  · refine ⟨k, ?_, Nat.le_refl _, fun _ => ?_⟩
    · rw [← hm]
      exact (lookup_cons_ne (show id ≠ hp.next by omega)).symm
    · show (if id = hp.next then v else g.τ id) = _
      rw [if_neg (by omega)]
  · show (if id = hp.next then v else g.τ id).ownBlock ≠ _
    by_cases hin : id = hp.next
    · rw [if_pos hin]; intro he; have := hv _ he; omega
    · rw [if_neg hin]
      exact hf.2 id t (by rw [← hi]; exact (lookup_cons_ne hin).symm)
theorem HR.newTok (hr : HR B hp g w) {v : Value} {n : Nat} {e : Nat × TypeId} {us : List Value} (hz : 0 < e.1) (hs : w.heap.size ≤ w'.heap.size) (hb : ∀ b, b < w.heap.size → w'.heap[b]? = w.heap[b]?) (hv : ∀ b, v.ownBlock = some b → w.heap.size ≤ b)
    (ho : w'.ownsRow B e.2 e.1 v n us) : HR B (hp.tok n e) (g.tok hp.next v (n * e.1)) w' := by
  have m : Mono hp g w (hp.tok n e) (g.tok hp.next v (n * e.1)) w' := Mono.tok hp g hs hb hv
  have look : ∀ {j : Nat} {a : Nat × Nat × TypeId}, (hp.tok n e).live.lookup j = some a → (j = hp.next ∧ a = (n, e)) ∨ (j ≠ hp.next ∧ hp.live.lookup j = some a) := by
    intro j a hj
    by_cases hjn : j = hp.next
    · subst hjn
      have : some (n, e) = some a := by rw [← hj]; exact lookup_cons_eq.symm
      injection this with this
      exact .inl ⟨rfl, this.symm⟩
    · exact .inr ⟨hjn, by rw [← hj]; exact (lookup_cons_ne hjn).symm⟩
  have hτ : ∀ j, j ≠ hp.next → (g.tok hp.next v (n * e.1)).τ j = g.τ j := fun j hj => if_neg hj
  have hτn : (g.tok hp.next v (n * e.1)).τ hp.next = v := if_pos rfl
  have old : ∀ {j : Nat} {a : Nat × Nat × TypeId} {b : Nat}, hp.live.lookup j = some a → (g.τ j).ownBlock = some b → b < w.heap.size := by
    intro j a b hj hb'
    obtain ⟨_, _, _, h2, _⟩ := hr.tok j a.1 a.2 hj
    exact (h2.lt b hb').2
  have stay : ∀ p : Addr, p.block < w.heap.size → g.F p → (g.tok hp.next v (n * e.1)).F p := fun p hp' hf => .inl ⟨hf, fun h => by have := hv _ h.1; omega⟩
  refine ⟨fun k ds hk => ?_, hr.inj, fun id n' e' hi => ?_, fun id id' t t' b hi hi' he he' => ?_, Nat.le_trans hr.base hs, fun p hf => ?_⟩
  · have hlt := hr.var_lt (k := k) (ds := ds) hk
    obtain ⟨h1, h2, h3, cs', ty', h4, h5, h6⟩ := hr.var k ds hk
    exact ⟨Nat.lt_succ_of_lt h1, h2, fun p hp' => stay p (by rw [hp']; exact hlt) (h3 p hp'), cs', ty', (hb _ hlt).trans h4, h5, fun j u hu => ⟨(h6 j u hu).1, fun d hd => ((h6 j u hu).2 d hd).mono m⟩⟩
  · rcases look hi with ⟨rfl, h⟩ | ⟨hne, h0⟩
    · injection h with ha hb'
      subst ha; subst hb'
      rw [hτn]
      exact ⟨Nat.lt_succ_self _, us, hz, ho, fun b hb' => ⟨fun p h4 h5 => .inr ⟨b, hb', h4, h5⟩, fun k ds hk => by
        have h6 := hr.var_lt (k := k) (ds := ds) hk
        have h7 := hv b hb'
        show g.μ k ≠ b
        omega⟩⟩
    · obtain ⟨h1, us', hz', h2, h3⟩ := hr.tok id n' e' h0
      rw [hτ id hne]
      refine ⟨Nat.lt_succ_of_lt h1, us', hz', ⟨h2.1, ?_⟩, fun b hb' => ⟨fun p h4 h5 => stay p (by have := old h0 hb'; omega) ((h3 b hb').1 p h4 h5), (h3 b hb').2⟩⟩
      rcases h2.2 with h0 | ⟨b, cap, cur, hv', hB, hh, r⟩
      · exact .inl h0
      · exact .inr ⟨b, cap, cur, hv', hB, (hb b (Array.getElem?_eq_some_iff.1 hh).1).trans hh, r⟩
  · rcases look hi with ⟨rfl, _⟩ | ⟨hne, h0⟩ <;> rcases look hi' with ⟨rfl, _⟩ | ⟨hne', h0'⟩
    · rfl
    · rw [hτn] at he
      rw [hτ _ hne'] at he'
      have h1 := old h0' he'
      have h2 := hv b he
      omega
    · rw [hτn] at he'
      rw [hτ _ hne] at he
      have h1 := old h0 he
      have h2 := hv b he'
      omega
    · rw [hτ _ hne] at he
      rw [hτ _ hne'] at he'
      exact hr.tinj id id' t t' b h0 h0' he he'
  · rcases hf with hf | ⟨b, h1, h2, _⟩
    · exact Nat.lt_of_lt_of_le (hr.fits p hf.1) hs
    · rw [h2]
      exact (ho.lt b h1).2
theorem Gh.tok_keep (g : Gh) (id : Nat) {v : Value} {n : Nat} (hv : ∀ b, v.ownBlock = some b → B ≤ b) (p : Addr) (hp : p.block < B) (hf : g.F p) : (g.tok id v n).F p := .inl ⟨hf, fun h => by have := hv _ h.1; omega⟩
end
end Go.Proofs.Ytakbadleipbngaa
