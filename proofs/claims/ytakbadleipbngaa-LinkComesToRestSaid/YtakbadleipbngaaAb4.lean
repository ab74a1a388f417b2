/-
  The abstract layer: each operation does to memory what it does to data (first part). Conditions: none.
-/
import Derived.Test.YtakbadleipbngaaAb3
set_option linter.all false
namespace Go.Proofs.Ytakbadleipbngaa
open Go.RowKit

/-! ### Lists that agree place by place -/
def Pw {α β : Type} (R : α → β → Prop) (xs : List α) (ys : List β) : Prop := xs.length = ys.length ∧ ∀ (j : Nat) (x : α) (y : β), xs[j]? = some x → ys[j]? = some y → R x y
section
variable {α β : Type} {R : α → β → Prop} {xs xs' : List α} {ys ys' : List β}
theorem Pw.append (h : Pw R xs ys) (h' : Pw R xs' ys') : Pw R (xs ++ xs') (ys ++ ys') := by
  refine ⟨by rw [List.length_append, List.length_append, h.1, h'.1], fun j x y hx hy => ?_⟩
  rw [List.getElem?_append] at hx hy
  rw [h.1] at hx
  split at hx
  · rename_i hlt
    rw [if_pos hlt] at hy
    exact h.2 j x y hx hy
  · rename_i hlt
    rw [if_neg hlt] at hy
    exact h'.2 _ x y hx hy
theorem Pw.take (h : Pw R xs ys) (n : Nat) : Pw R (xs.take n) (ys.take n) := by
  refine ⟨by rw [List.length_take, List.length_take, h.1], fun j x y hx hy => ?_⟩
  rw [List.getElem?_take] at hx hy
  split at hx
  · rename_i hlt
    rw [if_pos hlt] at hy
    exact h.2 j x y hx hy
  · cases hx
theorem Pw.drop (h : Pw R xs ys) (n : Nat) : Pw R (xs.drop n) (ys.drop n) := by
  refine ⟨by rw [List.length_drop, List.length_drop, h.1], fun j x y hx hy => ?_⟩
  rw [List.getElem?_drop] at hx hy
  exact h.2 _ x y hx hy
theorem Pw.get (h : Pw R xs ys) {j : Nat} {x : α} (hx : xs[j]? = some x) : ∃ y, ys[j]? = some y ∧ R x y := by
  have hj : j < ys.length := by
    rw [← h.1]
    rcases Nat.lt_or_ge j xs.length with hh | hh
    · exact hh
    · rw [List.getElem?_eq_none hh] at hx; cases hx
  exact ⟨ys[j], List.getElem?_eq_getElem hj, h.2 j x _ hx (List.getElem?_eq_getElem hj)⟩
theorem Pw.nil : Pw R [] [] := ⟨rfl, fun j _ _ h _ => by simp at h⟩
theorem Pw.cons {x : α} {y : β} (h : R x y) (h' : Pw R xs ys) : Pw R (x :: xs) (y :: ys) := by
  refine ⟨by simp [h'.1], fun j a b ha hb => ?_⟩
  cases j with
  | zero =>
    simp at ha hb
    subst ha; subst hb
    exact h
  | succ j => exact h'.2 j a b (by simpa using ha) (by simpa using hb)
theorem Pw.imp {R' : α → β → Prop} (h : Pw R xs ys) (hi : ∀ x y, R x y → R' x y) : Pw R' xs ys := ⟨h.1, fun j x y hx hy => hi x y (h.2 j x y hx hy)⟩
end

theorem oneCell_cells {v : Value} (h : v.oneCell' = true) : v.cells = #[v] := by cases v <;> first | rfl | cases h
section
variable {hp : Hp} {g : Gh} {w : World} {d : D} {v : Value}
/-- What a value's cells stand for. -/
def Cells (hp : Hp) (g : Gh) (w : World) (cs : List D) (us : List Value) : Prop := Pw (RepD hp g w) cs us ∧ ∀ u ∈ us, u.oneCell' = true
theorem Cells.one (h : RepD hp g w d v) (h1 : v.oneCell' = true) : Cells hp g w [d] v.cells.toList := by
  rw [oneCell_cells h1]
  exact ⟨Pw.cons h Pw.nil, fun u hu => by simp at hu; subst hu; exact h1⟩
theorem RepD.cells {cs : List D} (h : RepD hp g w d v) (hc : d.cells = some cs) : Cells hp g w cs v.cells.toList := by
  cases h with
  | ag ds cs' hl h1 hr =>
    obtain rfl : ds = cs := by simpa [D.cells] using hc
    refine ⟨⟨hl.symm.trans (Array.length_toList (xs := cs')).symm, fun j x y hx hy => hr j x y hx (by simpa [Value.cells] using hy)⟩, fun u hu => ?_⟩
    obtain ⟨j, hj⟩ := List.getElem?_of_mem hu
    exact h1 j u (by simpa [Value.cells] using hj)
  | tu ds cs' hl hr => simp [D.cells] at hc
  | top v => simp [D.cells] at hc
  | opt b d v hi h => simp [D.cells] at hc
  | e x v h =>
    obtain rfl : [D.e x] = cs := by simpa [D.cells] using hc
    exact Cells.one (.e x v h) h.one
  | own id z n xs v h hid ht =>
    obtain rfl : [D.own id z n xs] = cs := by simpa [D.cells] using hc
    exact Cells.one (.own id z n xs v h hid ht) h.one
  | fu z n xs A h =>
    obtain rfl : [D.fu z n xs] = cs := by simpa [D.cells] using hc
    exact Cells.one (.fu z n xs A h) rfl
  | fp xs off ad hb hc' =>
    obtain rfl : [D.fp xs off] = cs := by simpa [D.cells] using hc
    exact Cells.one (.fp xs off ad hb hc') rfl
  | pt k off hk =>
    obtain rfl : [D.pt k off] = cs := by simpa [D.cells] using hc
    exact Cells.one (.pt k off hk) rfl
  | ow k off z n c hk h1 h2 =>
    obtain rfl : [D.ow k off z n] = cs := by simpa [D.cells] using hc
    exact Cells.one (.ow k off z n c hk h1 h2) rfl
  | fn f ks hk =>
    obtain rfl : [D.fn f ks] = cs := by simpa [D.cells] using hc
    exact Cells.one (.fn f ks hk) rfl
theorem Cells.append {cs cs' : List D} {us us' : List Value} (h : Cells hp g w cs us) (h' : Cells hp g w cs' us') : Cells hp g w (cs ++ cs') (us ++ us') :=
  ⟨h.1.append h'.1, fun u hu => (List.mem_append.1 hu).elim (h.2 u) (h'.2 u)⟩
theorem Cells.take {cs : List D} {us : List Value} (h : Cells hp g w cs us) (n : Nat) : Cells hp g w (cs.take n) (us.take n) := ⟨h.1.take n, fun u hu => h.2 u (List.mem_of_mem_take hu)⟩
theorem Cells.drop {cs : List D} {us : List Value} (h : Cells hp g w cs us) (n : Nat) : Cells hp g w (cs.drop n) (us.drop n) := ⟨h.1.drop n, fun u hu => h.2 u (List.mem_of_mem_drop hu)⟩
theorem Cells.ag {cs : List D} {us : List Value} (h : Cells hp g w cs us) : RepD hp g w (.ag cs) (.agg us.toArray) :=
  .ag cs us.toArray (by simpa using h.1.1.symm) (fun j u hu => h.2 u (List.mem_of_getElem? (by simpa using hu))) (fun j d u hd hu => h.1.2 j d u hd (by simpa using hu))
theorem Cells.lits (l : List Value) (h : l.all Value.oneCell' = true) : Cells hp g w (l.map fun v => .e (.lit v)) l := by
  have h1 : ∀ u ∈ l, u.oneCell' = true := by simpa using h
  refine ⟨⟨by simp, fun j x y hx hy => ?_⟩, h1⟩
  rw [List.getElem?_map, hy] at hx
  injection hx with hx
  subst hx
  exact .e _ _ (.lit y (h1 y (List.mem_of_getElem? hy)))
theorem cellE_rep {x : E} (h : RepD hp g w d v) (hx : d.cellE = some x) : RepE w g.F x v := by
  cases h <;> simp [D.cellE] at hx <;> (subst hx; assumption)
theorem cellsE_rep : ∀ {cs : List D} {us : List Value} {xs : List E}, Cells hp g w cs us → cellsE cs = some xs → Pw (RepE w g.F) xs us
  | [], us, xs, h, hx => by
    obtain rfl : [] = xs := by simpa [cellsE] using hx
    have : us = [] := List.eq_nil_of_length_eq_zero h.1.1.symm
    subst this
    exact Pw.nil
  | d :: ds, us, xs, h, hx => by
    cases us with
    | nil => have := h.1.1; simp at this
    | cons u us =>
      unfold cellsE at hx
      split at hx
      · rename_i x xs' h1 h2
        injection hx with hx
        subst hx
        refine Pw.cons (cellE_rep (h.1.2 0 d u rfl rfl) h1) (cellsE_rep ⟨⟨by simpa using h.1.1, fun j a b ha hb => h.1.2 (j + 1) a b ha hb⟩, fun u hu => h.2 u (List.mem_cons_of_mem _ hu)⟩ h2)
      · cases hx
end

/-! ### Parts laid over cells -/
theorem foldl_set (off : Nat) : ∀ (l : List Value) (k : Nat) (arr : Array Value), off + k + l.length ≤ arr.size →
    ((l.zipIdx k).foldl (fun (cs : Array Value) (x : Value × Nat) => cs.setIfInBounds (off + x.2) x.1) arr).toList = arr.toList.take (off + k) ++ l ++ arr.toList.drop (off + k + l.length)
  | [], k, arr, h => by simp
  | c :: l, k, arr, h => by
    simp only [List.length_cons] at h
    simp only [List.zipIdx_cons, List.foldl_cons]
    rw [foldl_set off l (k + 1) (arr.setIfInBounds (off + k) c) (by simp; omega), Array.toList_setIfInBounds]
    have hk : off + k < arr.toList.length := by simp; omega
    rw [show off + (k + 1) = off + k + 1 by omega, List.take_add_one, List.take_set_of_le (Nat.le_refl _), List.getElem?_set_self hk, List.drop_set_of_lt (by omega)]
    simp [Nat.add_assoc, Nat.add_comm, Nat.add_left_comm]
theorem fill_run (place : Nat → Option (Nat × Nat)) : ∀ (parts : List (Nat × Value)) (cells : Array Value),
    Instr.fill place cells parts = (match fillL place cells.toList (parts.map fun p => (p.1, p.2.cells.toList)) with | some l => some l.toArray | none => none) ∨ fillL place cells.toList (parts.map fun p => (p.1, p.2.cells.toList)) = none
  | [], cells => by simp [Instr.fill, fillL]
  | (i, v) :: rest, cells => by
    simp only [Instr.fill, fillL, List.map_cons]
    cases hp : place i with
    | none => exact .inr rfl
    | some q =>
      obtain ⟨off, size⟩ := q
      simp only [Array.length_toList]
      by_cases hc : v.cells.size ≠ size ∨ off + v.cells.size > cells.size
      · right
        rw [if_pos hc]
      · rw [if_neg hc]
        have e1 : (v.cells.zipIdx.foldl (fun cs (x : Value × Nat) => match x with | (c, j) => cs.setIfInBounds (off + j) c) cells).toList = cells.toList.take off ++ v.cells.toList ++ cells.toList.drop (off + v.cells.size) := by
          rw [← Array.foldl_toList, Array.toList_zipIdx]
          have := foldl_set off v.cells.toList 0 cells (by simp; omega)
          simpa using this
        have h3 : ¬ (decide (v.cells.size ≠ size) || decide (off + v.cells.size > cells.size)) = true := by simpa using hc
        rw [← e1]
        have h2 := fill_run place rest (v.cells.zipIdx.foldl (fun cs (x : Value × Nat) => match x with | (c, j) => cs.setIfInBounds (off + j) c) cells)
        rcases h2 with h2 | h2
        · left
          rw [← h2, if_neg h3]
        · exact .inr h2
theorem fillL_rel {α β : Type} {R : α → β → Prop} (place : Nat → Option (Nat × Nat)) : ∀ {qs : List (Nat × List α)} {ps : List (Nat × List β)} {ds ds' : List α} {vs : List β}, fillL place ds qs = some ds' → Pw R ds vs → Pw (fun (q : Nat × List α) (p : Nat × List β) => q.1 = p.1 ∧ Pw R q.2 p.2) qs ps →
    ∃ vs', fillL place vs ps = some vs' ∧ Pw R ds' vs'
  | [], ps, ds, ds', vs, h, hd, hq => by
    have : ps = [] := List.eq_nil_of_length_eq_zero hq.1.symm
    subst this
    obtain rfl : ds = ds' := by simpa [fillL] using h
    exact ⟨vs, rfl, hd⟩
  | (i, cs) :: rest, ps, ds, ds', vs, h, hd, hq => by
    cases ps with
    | nil => have := hq.1; simp at this
    | cons p ps =>
      obtain ⟨i', us⟩ := p
      obtain ⟨e1, hcu⟩ := hq.2 0 _ _ rfl rfl
      dsimp only at e1 hcu
      subst e1
      have hrest : Pw (fun (q : Nat × List α) (p : Nat × List β) => q.1 = p.1 ∧ Pw R q.2 p.2) rest ps := ⟨by have := hq.1; simpa using this, fun j a b ha hb => hq.2 (j + 1) a b ha hb⟩
      unfold fillL at h ⊢
      cases hp : place i with
      | none => simp [hp] at h
      | some q =>
        obtain ⟨off, size⟩ := q
        simp only [hp] at h ⊢
        rw [← hcu.1, ← hd.1]
        split at h
        · cases h
        · rename_i hc
          rw [if_neg hc]
          refine fillL_rel place h ?_ hrest
          exact ((hd.take off).append hcu).append (hd.drop _)
theorem fillL_rel_one {place : Nat → Option (Nat × Nat)} : ∀ {ps : List (Nat × List Value)} {vs vs' : List Value}, fillL place vs ps = some vs' → (∀ u ∈ vs, u.oneCell' = true) → (∀ p ∈ ps, ∀ u ∈ p.2, u.oneCell' = true) → ∀ u ∈ vs', u.oneCell' = true
  | [], vs, vs', h, h1, _ => by
    obtain rfl : vs = vs' := by simpa [fillL] using h
    exact h1
  | (i, cs) :: rest, vs, vs', h, h1, h2 => by
    unfold fillL at h
    split at h
    · cases h
    · split at h
      · cases h
      · refine fillL_rel_one h (fun u hu => ?_) (fun p hp => h2 p (List.mem_cons_of_mem _ hp))
        rcases List.mem_append.1 hu with hu | hu
        · rcases List.mem_append.1 hu with hu | hu
          · exact h1 u (List.mem_of_mem_take hu)
          · exact h2 _ (List.mem_cons_self ..) u hu
        · exact h1 u (List.mem_of_mem_drop hu)
/-- The parts of a value, on either side. -/
theorem partsD_rep {hp : Hp} {g : Gh} {w : World} {ev : Operand → D} {ρ : Operand → Value} : ∀ {ps : List (Nat × Operand)} {qs : List (Nat × List D)}, (∀ p ∈ ps, RepD hp g w (ev p.2) (ρ p.2)) → partsD (ps.map fun p => (p.1, ev p.2)) = some qs →
    Pw (fun (q : Nat × List D) (p : Nat × List Value) => q.1 = p.1 ∧ Pw (RepD hp g w) q.2 p.2) qs ((ps.map fun p => (p.1, ρ p.2)).map fun p => (p.1, p.2.cells.toList)) ∧ ∀ p ∈ ((ps.map fun p => (p.1, ρ p.2)).map fun p => (p.1, p.2.cells.toList)), ∀ u ∈ p.2, u.oneCell' = true
  | [], qs, _, h => by
    obtain rfl : [] = qs := by simpa [partsD] using h
    exact ⟨Pw.nil, by simp⟩
  | (i, x) :: ps, qs, hr, h => by
    simp only [List.map_cons, partsD] at h
    split at h
    · rename_i cs r h1 h2
      injection h with h
      subst h
      have hx := (hr _ (List.mem_cons_self ..)).cells h1
      obtain ⟨h3, h4⟩ := partsD_rep (fun p hp => hr p (List.mem_cons_of_mem _ hp)) h2
      refine ⟨Pw.cons ⟨rfl, hx.1⟩ h3, fun p hp u hu => ?_⟩
      simp only [List.map_cons, List.mem_cons] at hp
      rcases hp with rfl | hp
      · exact hx.2 u hu
      · exact h4 p hp u hu
    · cases h

/-! ### Loads and stores -/
section
variable {P : Program} {tb : TypeId → Option TyE}
theorem run_loadVar_agg (tok : TOk P tb) {t : TypeId} {i : TyE} (ht : tb t = some i) (ha : i.ty.agg = true) (w : World) (ad : Addr) (us : List Value) (hl : us.length = i.size) (hc : ∀ j u, us[j]? = some u → w.cell? (ad.add j) = some u) :
    (loadVar t ad).run P w = .ok (.agg us.toArray) w := by
  have hr := run_loadCells_list (P := P) w ad us hc
  have h1 := tok.run_isAgg ht w
  have h2 := tok.run_sizeOf ht w
  rw [ha] at h1
  rw [hl] at hr
  simp [loadVar, Sem.run_bind, h1, h2, hr]
theorem run_loadVar_one (tok : TOk P tb) {t : TypeId} {i : TyE} (ht : tb t = some i) (ha : i.ty.agg = false) (w : World) (ad : Addr) (u : Value) (hc : w.cell? ad = some u) : (loadVar t ad).run P w = .ok u w := by
  have h1 := tok.run_isAgg ht w
  rw [ha] at h1
  simp [loadVar, Sem.run_bind, h1, load, Sem.run, hc]
/-- The cells of a variable. -/
theorem HR.cells {B : Nat} {hp : Hp} {g : Gh} {w : World} (h : HR B hp g w) {k : Nat} {ds : List D} (hk : hp.vars.lookup k = some ds) : ∃ cs ty, w.heap[g.μ k]? = some (.cells cs ty (0, 0)) ∧ Cells hp g w ds cs.toList := by
  obtain ⟨_, _, _, cs, ty, h1, h2, h3⟩ := h.var k ds hk
  refine ⟨cs, ty, h1, ⟨by simpa using h2.symm, fun j x y hx hy => (h3 j y (by simpa using hy)).2 x hx⟩, fun u hu => ?_⟩
  obtain ⟨j, hj⟩ := List.getElem?_of_mem hu
  exact (h3 j u (by simpa using hj)).1
theorem loadV_sound (tok : TOk P tb) {t : TypeId} {d : D} {hp : Hp} {k : D → Prop} (h : loadV tb t d hp k) :
    ∃ d', k d' ∧ (∀ j off, d = .pt j off → j < hp.next) ∧ ∀ (hp2 : Hp) (B : Nat) (g : Gh) (w : World) (u : Value), (∀ j off, d = .pt j off → hp2.vars.lookup j = hp.vars.lookup j) → HR B hp2 g w → RepD hp2 g w d u → ∃ v, (Instr.loadAt t u).run P w = .ok v w ∧ RepD hp2 g w d' v := by
  unfold loadV at h
  split at h
  · rename_i j off
    split at h
    · rename_i i ds ht hv
      obtain ⟨hjn, h⟩ := h
      split at h
      · rename_i ha
        obtain ⟨hle, hk⟩ := h
        refine ⟨_, hk, (fun j' off' e => by cases e; exact hjn), fun hp2 B g w u hvv hr hu => ?_⟩
        cases hu
        obtain ⟨cs, ty, hh, hcs⟩ := hr.cells (by rw [hvv _ _ rfl]; exact hv)
        have hlen : cs.toList.length = ds.length := hcs.1.1.symm
        refine ⟨_, ?_, ((hcs.drop off).take i.size).ag⟩
        have := run_loadVar_agg tok ht ha w ⟨g.μ j, off, none⟩ ((cs.toList.drop off).take i.size) (by rw [List.length_take, List.length_drop, hlen]; omega) (fun n u hu => by
          rw [Addr.add_lit]
          rw [List.getElem?_take] at hu
          split at hu
          · rw [List.getElem?_drop] at hu
            simp only [World.cell?, hh]
            simpa using hu
          · cases hu)
        simpa [Instr.loadAt, Instr.sureAddr] using this
      · rename_i ha
        obtain ⟨d', hd', hk⟩ := h
        refine ⟨d', hk, (fun j' off' e => by cases e; exact hjn), fun hp2 B g w u hvv hr hu => ?_⟩
        cases hu
        obtain ⟨cs, ty, hh, hcs⟩ := hr.cells (by rw [hvv _ _ rfl]; exact hv)
        obtain ⟨y, hy, hrep⟩ := hcs.1.get hd'
        refine ⟨y, ?_, hrep⟩
        have := run_loadVar_one tok ht ha w ⟨g.μ j, off, none⟩ y (by simp only [World.cell?, hh]; simpa using hy)
        simpa [Instr.loadAt, Instr.sureAddr] using this
    · cases h
  · rename_i xs off
    split at h
    · rename_i i ht
      split at h
      · rename_i ha
        obtain ⟨hle, hk⟩ := h
        refine ⟨_, hk, (fun _ _ e => by cases e), fun hp2 B g w u hvv hr hu => ?_⟩
        cases hu with
        | fp _ _ ad hb hc =>
          have hall : ∀ m : Nat, ∃ us : List Value, m ≤ i.size → us.length = m ∧ (∀ j u, us[j]? = some u → w.cell? ((ad.add off).add j) = some u) ∧ Cells hp2 g w ((List.range m).map fun j => .e (xs.getD (off + j) .any)) us := by
            intro m
            induction m with
            | zero => exact ⟨[], fun _ => ⟨rfl, by simp, Pw.nil, by simp⟩⟩
            | succ m ih =>
              obtain ⟨us, hus⟩ := ih
              by_cases hm : m + 1 ≤ i.size
              · obtain ⟨h1, h2, h3⟩ := hus (by omega)
                have hx : xs[off + m]? = some xs[off + m] := List.getElem?_eq_getElem (by omega)
                obtain ⟨u, hu1, _, hu3⟩ := hc _ _ hx
                refine ⟨us ++ [u], fun _ => ⟨by simp [h1], fun j v hv => ?_, ?_⟩⟩
                · rw [List.getElem?_append] at hv
                  split at hv
                  · exact h2 j v hv
                  · have : j = m := by
                      rcases Nat.lt_or_ge j (m + 1) with hh | hh
                      · omega
                      · rw [List.getElem?_eq_none (by simp; omega)] at hv; cases hv
                    subst this
                    have : u = v := by simpa [h1] using hv
                    subst this
                    rw [add_of_add]
                    exact hu1
                · rw [List.range_succ, List.map_append]
                  refine h3.append ?_
                  have := Cells.one (hp := hp2) (g := g) (w := w) (d := .e (xs.getD (off + m) .any)) (v := u) (.e _ _ (by rw [List.getD, hx]; exact hu3)) hu3.one
                  rwa [oneCell_cells hu3.one] at this
              · exact ⟨[], fun h => absurd h hm⟩
          obtain ⟨us, hus⟩ := hall i.size
          obtain ⟨h1, h2, h3⟩ := hus (Nat.le_refl _)
          refine ⟨_, ?_, h3.ag⟩
          have := run_loadVar_agg tok ht ha w (ad.add off) us h1 h2
          simpa [Instr.loadAt, Instr.sureAddr] using this
      · rename_i ha
        obtain ⟨hle, hk⟩ := h
        refine ⟨_, hk, (fun _ _ e => by cases e), fun hp2 B g w u hvv hr hu => ?_⟩
        cases hu with
        | fp _ _ ad hb hc =>
          have hx : xs[off]? = some xs[off] := List.getElem?_eq_getElem hle
          obtain ⟨u, hu1, _, hu3⟩ := hc _ _ hx
          refine ⟨u, ?_, .e _ _ (by rw [List.getD, hx]; exact hu3)⟩
          have := run_loadVar_one tok ht ha w (ad.add off) u hu1
          simpa [Instr.loadAt, Instr.sureAddr] using this
    · cases h
  · cases h
theorem below_setRow2 {B : Nat} (w : World) {b : Nat} (hb : B ≤ b) (cs : Array Value) : Below B w (w.setRow b cs) :=
  ⟨rfl, rfl, rfl, by simp [World.setRow], fun k hk => setRow_other w b k cs (by omega)⟩
theorem storeV_sound (tok : TOk P tb) {t : TypeId} {d x : D} {hp : Hp} {k : D → Hp → Prop} (h : storeV tb t d x hp k) :
    ∃ hp', k .top hp' ∧ ∀ (B : Nat) (g : Gh) (w : World) (u v : Value), HR B hp g w → RepD hp g w d u → RepD hp g w x v →
      ∃ w', (Instr.storeAt t u v).run P w = .ok () w' ∧ HR B hp' g w' ∧ Mono hp g w hp' g w' ∧ Below B w w' := by
  unfold storeV at h
  split at h
  · rename_i j off
    split at h
    · rename_i i ds cs ht hv hx
      obtain ⟨hl, hle, hk⟩ := h
      refine ⟨_, hk, fun B g w u v hr hu hxv => ?_⟩
      cases hu
      obtain ⟨cur, ty, hh, hcur⟩ := hr.cells hv
      have hcs := hxv.cells hx
      have hsz : v.cells.size = i.size := by rw [← hl, hcs.1.1]; simp
      have hcl : cur.size = ds.length := by have := hcur.1.1; simpa using this.symm
      have hst := run_storeCells_at P (g.μ j) off ty v.cells.toList 0 cur w hh (by simp; omega) hcs.2
      have hlt := hr.var_lt hv
      have hB := (hr.var j ds hv).2.1
      have hnew : Cells hp g w (ds.take off ++ cs ++ ds.drop (off + cs.length)) (cur.toList.take (off + 0) ++ v.cells.toList ++ cur.toList.drop (off + 0 + v.cells.toList.length)) := by
        have := ((hcur.take off).append hcs).append (hcur.drop (off + cs.length))
        rw [hcs.1.1] at this ⊢
        simpa using this
      have hheap := setRow_heap w (g.μ j) cur (cur.toList.take (off + 0) ++ v.cells.toList ++ cur.toList.drop (off + 0 + v.cells.toList.length)).toArray ty (0, 0) hh
      refine ⟨_, ?_, hr.setVar hv _ _ ty (by simp [World.setRow]) (fun b hb => setRow_other w _ b _ hb) hheap (by simpa using hnew.1.1.symm) (fun n u hu => ?_), Mono.setVar hr hv _ (by simp [World.setRow]) (fun b hb => setRow_other w _ b _ hb), below_setRow2 w hB _⟩
      · have h2 := tok.run_sizeOf ht w
        simp [Instr.storeAt, Instr.sureAddr, storeVar, Sem.run_bind, h2, hsz, hst]
      · have hu' : (cur.toList.take (off + 0) ++ v.cells.toList ++ cur.toList.drop (off + 0 + v.cells.toList.length))[n]? = some u := by simpa using hu
        exact ⟨hnew.2 u (List.mem_of_getElem? hu'), fun d hd => hnew.1.2 n d u hd hu'⟩
    · cases h
  · cases h
end
end Go.Proofs.Ytakbadleipbngaa
