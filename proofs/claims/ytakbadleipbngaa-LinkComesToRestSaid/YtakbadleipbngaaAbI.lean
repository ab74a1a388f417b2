/-
  The abstract layer: a function that was walked from variables of its own, called where there are more. Conditions: none.
-/
import Derived.Test.YtakbadleipbngaaAbH
set_option linter.all false
namespace Go.Proofs.Ytakbadleipbngaa
open Go.RowKit
/-- The caller's numbers: those of the variables in hand, and new ones. -/
def rn (os : List Nat) (m N : Nat) (i : Nat) : Nat := bif decide (i < m) then os.getD i 0 else N + (i - m)
def frV (ρ : Nat → Nat) (os : List Nat) (vs' vs : List (Nat × List D)) : List (Nat × List D) := vs'.map (fun p => (ρ p.1, p.2.map (D.renC ρ))) ++ vs.filter fun p => !os.contains p.1
def frL (ρ : Nat → Nat) (os : List Nat) (lv' lv : List (Nat × Nat × Nat × TypeId)) : List (Nat × Nat × Nat × TypeId) := lv'.map (fun p => (ρ p.1, p.2)) ++ lv.filter fun p => !os.contains p.1
theorem lookup_map_fst {α β : Type} (ρ : Nat → Nat) (F : α → β) : ∀ {l : List (Nat × α)} {k : Nat} {y : β}, (l.map fun p => (ρ p.1, F p.2)).lookup k = some y → ∃ i a, ρ i = k ∧ l.lookup i = some a ∧ F a = y
  | [], _, _, h => by simp at h
  | (j, a) :: l, k, y, h => by
    by_cases hk : k = ρ j
    · subst hk
      have : some (F a) = some y := by rw [← h]; exact lookup_cons_eq.symm
      exact ⟨j, a, rfl, lookup_cons_eq, Option.some.inj this⟩
    · obtain ⟨i, b, h1, h2, h3⟩ := lookup_map_fst ρ F (l := l) (k := k) (y := y) (by rw [← h]; exact (lookup_cons_ne hk).symm)
      exact ⟨i, b, h1, (lookup_cons_ne fun e => hk (by rw [← h1, e])).trans h2, h3⟩
theorem lookup_app {α : Type} {l2 : List (Nat × α)} {k : Nat} {y : α} : ∀ {l : List (Nat × α)}, (l ++ l2).lookup k = some y → l.lookup k = some y ∨ l2.lookup k = some y
  | [], h => .inr h
  | (j, a) :: l, h => by
    by_cases hk : k = j
    · subst hk
      have : some a = some y := by rw [← h]; exact lookup_cons_eq.symm
      exact .inl (by rw [← this]; exact lookup_cons_eq)
    · rcases lookup_app (l := l) (by rw [← h]; exact (lookup_cons_ne hk).symm) with h1 | h1
      · exact .inl ((lookup_cons_ne hk).trans h1)
      · exact .inr h1
theorem lookup_filt {α : Type} {os : List Nat} {k : Nat} {y : α} : ∀ {l : List (Nat × α)}, (l.filter fun p => !os.contains p.1).lookup k = some y → k ∉ os ∧ l.lookup k = some y
  | [], h => by simp at h
  | (j, a) :: l, h => by
    by_cases hj : j ∈ os
    · rw [List.filter_cons_of_neg (by simpa using hj)] at h
      obtain ⟨h1, h2⟩ := lookup_filt h
      exact ⟨h1, (lookup_cons_ne fun e => h1 (by rw [e]; exact hj)).trans h2⟩
    · rw [List.filter_cons_of_pos (by simpa using hj)] at h
      by_cases hk : k = j
      · subst hk
        exact ⟨hj, by rw [← h, lookup_cons_eq, lookup_cons_eq]⟩
      · obtain ⟨h1, h2⟩ := lookup_filt (l := l) (by rw [← h]; exact (lookup_cons_ne hk).symm)
        exact ⟨h1, (lookup_cons_ne hk).trans h2⟩
def D.okC : D → Bool
  | .ag ds => ds.all D.pureC
  | .tu _ => false
  | .opt _ _ => false
  | _ => true
def D.okF : D → Bool
  | .ag ds => ds.all D.okC
  | .tu ds => ds.all D.okC
  | d => d.okC
section
variable {hp hp2 : Hp} {g g2 : Gh} {w : World} {ρ : Nat → Nat}
theorem fwdC {d : D} {v : Value} (h : RepD hp g w d v) (hn : d.okC = true) (hnx : ∀ i, i < hp.next → ρ i < hp2.next) (hμ : ∀ i, i < hp.next → g2.μ (ρ i) = g.μ i) (hτ : ∀ i, i < hp.next → g2.τ (ρ i) = g.τ i) (hF : g2.F = g.F)
    (hl : ∀ id, id < hp.next → ∀ y, hp2.live.lookup (ρ id) = some y → hp.live.lookup id = some y) : RepD hp2 g2 w (d.renC ρ) v := by
  cases h with
  | e y v h => exact .e y v (by rw [hF]; exact h)
  | own id z n xs v h hid ht => exact .own _ z n xs v (by rw [hF]; exact h) (hnx id hid) (fun m e hm => by rw [hτ id hid]; exact ht m e (hl id hid _ hm))
  | fu z n xs A h => exact .fu z n xs A (by rw [hF]; exact h)
  | ag ds cs hlen h1 hr =>
    refine .ag ds cs hlen h1 fun j d u h2 h3 => ?_
    have h4 := hr j d u h2 h3
    have h5 := List.all_eq_true.1 hn d (List.mem_of_getElem? h2)
    cases d with
    | e y => cases h4 with
      | e _ _ h6 => exact .e y _ (by rw [hF]; exact h6)
    | _ => cases h5
  | tu ds cs hl hr => cases hn
  | fp xs off ad hb hc => exact .fp xs off ad hb (by rw [hF]; exact hc)
  | pt k off hk => rw [← hμ k hk]; exact .pt _ off (hnx k hk)
  | ow k off z n c hk h1 h2 => rw [← hμ k hk]; exact .ow _ off z n c (hnx k hk) h1 h2
  | fn f ks hk =>
    have : (ks.map fun k => Value.pointer (some ⟨g.μ k, 0, none⟩)) = (ks.map ρ).map fun k => Value.pointer (some ⟨g2.μ k, 0, none⟩) := by
      rw [List.map_map]
      exact List.map_congr_left fun k h => by simp only [Function.comp, hμ k (hk k h)]
    rw [this]
    refine .fn f (ks.map ρ) fun k h => ?_
    obtain ⟨i, h1, rfl⟩ := List.mem_map.1 h
    exact hnx i (hk i h1)
  | opt b d v hi h => cases hn
  | top v => exact .top v
theorem fwdF {d : D} {v : Value} (h : RepD hp g w d v) (hn : d.okF = true) (hnx : ∀ i, i < hp.next → ρ i < hp2.next) (hμ : ∀ i, i < hp.next → g2.μ (ρ i) = g.μ i) (hτ : ∀ i, i < hp.next → g2.τ (ρ i) = g.τ i) (hF : g2.F = g.F)
    (hl : ∀ id, id < hp.next → ∀ y, hp2.live.lookup (ρ id) = some y → hp.live.lookup id = some y) : RepD hp2 g2 w (d.ren ρ) v := by
  cases d with
  | ag ds => cases h with
    | ag _ cs hlen h1 hr =>
      refine .ag _ cs (by simpa using hlen) h1 fun j d u h2 h3 => ?_
      rw [List.getElem?_map] at h2
      obtain ⟨d0, h4, rfl⟩ := Option.map_eq_some_iff.1 h2
      exact fwdC (hr j d0 u h4 h3) (List.all_eq_true.1 hn d0 (List.mem_of_getElem? h4)) hnx hμ hτ hF hl
  | tu ds => cases h with
    | tu _ cs hlen hr =>
      refine .tu _ cs (by simpa using hlen) fun j d u h2 h3 => ?_
      rw [List.getElem?_map] at h2
      obtain ⟨d0, h4, rfl⟩ := Option.map_eq_some_iff.1 h2
      exact fwdC (hr j d0 u h4 h3) (List.all_eq_true.1 hn d0 (List.mem_of_getElem? h4)) hnx hμ hτ hF hl
  | e y => exact fwdC h hn hnx hμ hτ hF hl
  | own id z n xs => exact fwdC h hn hnx hμ hτ hF hl
  | fu z n xs => exact fwdC h hn hnx hμ hτ hF hl
  | fp xs off => exact fwdC h hn hnx hμ hτ hF hl
  | pt k off => exact fwdC h hn hnx hμ hτ hF hl
  | ow k off z n => exact fwdC h hn hnx hμ hτ hF hl
  | fn f ks => exact fwdC h hn hnx hμ hτ hF hl
  | opt b d => cases hn
  | top => exact .top v
end
theorem HR.ren {B : Nat} {hp hpS : Hp} {g : Gh} {w : World} (hr : HR B hp g w) (σ : Nat → Nat) (hinj : ∀ i j, i < hpS.next → j < hpS.next → σ i = σ j → i = j)
    (hv : ∀ k ds, hpS.vars.lookup k = some ds → k < hpS.next ∧ (∃ ds0, hp.vars.lookup (σ k) = some ds0 ∧ wksL ds0 (ds.map (D.renC σ))) ∧ ds.all (D.idsC hpS.next) = true ∧ ds.all D.noO = true)
    (hl : ∀ id y, hpS.live.lookup id = some y → id < hpS.next ∧ hp.live.lookup (σ id) = some y) : HR B hpS ⟨fun i => g.μ (σ i), fun i => g.τ (σ i), g.F⟩ w := by
  have hlive : ∀ id y, hpS.live.lookup id = some y → hp.live.lookup (σ id) = some y := fun id y h => (hl _ _ h).2
  refine ⟨fun k ds hk => ?_, fun k k' ds ds' hk hk' he => ?_, fun id n e hi => ?_, fun id id' t t' b hi hi' hb hb' => ?_, hr.base, hr.fits⟩
  · obtain ⟨h1, ⟨ds0, h2, h2'⟩, h3, h4⟩ := hv _ _ hk
    obtain ⟨_, h5, h6, cs, ty, h7, h8, h9⟩ := hr.var _ _ h2
    have h3' : ∀ d ∈ ds, D.idsC hpS.next d = true := by simpa using h3
    have h4' : ∀ d ∈ ds, D.noO d = true := by simpa using h4
    have h10 := wksL_len h2'
    refine ⟨h1, h5, h6, cs, ty, h7, by rw [List.length_map] at h10; rw [h8, h10], fun j u hu => ⟨(h9 j u hu).1, fun d hd => ?_⟩⟩
    obtain ⟨d0, hd0, hle⟩ := wksL_get h2' (j := j) (d' := d.renC σ) (by rw [List.getElem?_map, hd]; rfl)
    exact renC_rep (((h9 j u hu).2 d0 hd0).leC hle) (h3' d (List.mem_of_getElem? hd)) (h4' d (List.mem_of_getElem? hd)) rfl (fun _ => rfl) (fun _ => rfl) rfl hlive
  · obtain ⟨h1, ⟨_, h2, _⟩, _⟩ := hv _ _ hk
    obtain ⟨h1', ⟨_, h2', _⟩, _⟩ := hv _ _ hk'
    exact hinj _ _ h1 h1' (hr.inj _ _ _ _ h2 h2' he)
  · obtain ⟨h1, h2⟩ := hl _ _ hi
    obtain ⟨_, us, h3, h4, h5⟩ := hr.tok _ n e h2
    exact ⟨h1, us, h3, h4, fun b hb => ⟨(h5 b hb).1, fun k ds hk => by
      obtain ⟨_, ⟨_, h6, _⟩, _⟩ := hv _ _ hk
      exact (h5 b hb).2 _ _ h6⟩⟩
  · obtain ⟨h1, h2⟩ := hl _ _ hi
    obtain ⟨h1', h2'⟩ := hl _ _ hi'
    exact hinj _ _ h1 h1' (hr.tinj _ _ _ _ b h2 h2' hb hb')
def frA (σ : Nat → Nat) (m : Nat) : List D → List D → Prop
  | [], [] => True
  | d :: ds, e :: es => (d.le (e.ren σ) ∧ e.idsB m = true ∧ e.noOs = true) ∧ frA σ m ds es
  | _, _ => False
theorem frA_len {σ : Nat → Nat} {m : Nat} : ∀ {ds es : List D}, frA σ m ds es → ds.length = es.length
  | [], [], _ => rfl
  | _ :: _, _ :: _, h => by simp [frA_len h.2]
  | [], _ :: _, h => h.elim
  | _ :: _, [], h => h.elim
theorem frA_get {σ : Nat → Nat} {m : Nat} : ∀ {ds es : List D} {j : Nat} {e : D}, frA σ m ds es → es[j]? = some e → ∃ d, ds[j]? = some d ∧ d.le (e.ren σ) ∧ e.idsB m = true ∧ e.noOs = true
  | [], [], j, e, _, h => by simp at h
  | d :: ds, e' :: es, 0, e, h, he => by
    simp only [List.getElem?_cons_zero, Option.some.injEq] at he
    subst he
    exact ⟨d, rfl, h.1⟩
  | d :: ds, e' :: es, j + 1, e, h, he => by
    simp only [List.getElem?_cons_succ] at he ⊢
    exact frA_get h.2 he
  | [], _ :: _, _, _, h, _ => h.elim
  | _ :: _, [], _, _, h, _ => h.elim
theorem HC.frame {P : Program} {f : FuncId} {dsS ds : List D} {r : D} {vsS vsS' vs : List (Nat × List D)} {lvS lvS' lv : List (Nat × Nat × Nat × TypeId)} {m n' N : Nat} (h : HC P f dsS ⟨vsS, lvS, m⟩ r ⟨vsS', lvS', n'⟩)
    (os : List Nat) (hos : os.length = m) (hnd : os.Nodup) (hlt : ∀ o ∈ os, o < N) (ha : frA (fun i => os.getD i 0) m ds dsS)
    (hv : ∀ k ds, vsS.lookup k = some ds → k < m ∧ (∃ ds0, vs.lookup (os.getD k 0) = some ds0 ∧ wksL ds0 (ds.map (D.renC fun i => os.getD i 0))) ∧ ds.all (D.idsC m) = true ∧ ds.all D.noO = true)
    (hl : ∀ id y, lvS.lookup id = some y → id < m ∧ lv.lookup (os.getD id 0) = some y)
    (hr : r.okF = true) (hvo : ∀ p ∈ vsS', p.2.all D.okC = true) :
    HC P f ds ⟨vs, lv, N⟩ (r.ren (rn os m N)) ⟨frV (rn os m N) os vsS' vs, frL (rn os m N) os lvS' lv, N + (n' - m)⟩ := by
  subst hos
  refine ⟨h.1, fun B g w us hR hsz hrep => ?_⟩
  have hget : ∀ i, i < os.length → os.getD i 0 ∈ os := fun i hi => by
    rw [List.getD_eq_getElem?_getD, List.getElem?_eq_getElem hi]; exact List.getElem_mem hi
  have hinj : ∀ i j, i < os.length → j < os.length → os.getD i 0 = os.getD j 0 → i = j := fun i j hi hj he => by
    rw [List.getD_eq_getElem?_getD, List.getD_eq_getElem?_getD, List.getElem?_eq_getElem hi, List.getElem?_eq_getElem hj] at he
    have hp := List.pairwise_iff_getElem.1 hnd
    simp only [Option.getD_some] at he
    rcases Nat.lt_trichotomy i j with h3 | h3 | h3
    · exact absurd he (hp _ _ hi hj h3)
    · exact h3
    · exact absurd he.symm (hp _ _ hj hi h3)
  have hS := HR.ren (hpS := ⟨vsS, lvS, os.length⟩) hR (fun i => os.getD i 0) (fun i j hi hj he => hinj i j hi hj he) hv hl
  have hlive : ∀ id y, (⟨vsS, lvS, os.length⟩ : Hp).live.lookup id = some y → (⟨vs, lv, N⟩ : Hp).live.lookup (os.getD id 0) = some y := fun id y h => (hl _ _ h).2
  refine (h.2 B _ w us hS (by rw [hsz, frA_len ha]) (fun j e u he hu => ?_)).mono ?_
  · obtain ⟨d, h1, h2, h3, h4⟩ := frA_get ha he
    exact ren_rep ((hrep j d u h1 hu).le h2) h3 h4 rfl (fun _ => rfl) (fun _ => rfl) rfl hlive
  rintro en w' ⟨v, g', rfl, hR', hM, hres, hB, hF⟩
  -- the caller's ghosts
  let ρ := rn os os.length N
  have hρlt : ∀ i, i < os.length → ρ i = os.getD i 0 := fun i hi => by show rn os os.length N i = _; unfold rn; simp [hi]
  have hρge : ∀ i, os.length ≤ i → ρ i = N + (i - os.length) := fun i hi => by show rn os os.length N i = _; unfold rn; rw [decide_eq_false (by omega)]; rfl
  have hoN : ∀ i, i < os.length → os.getD i 0 < N := fun i hi => hlt _ (hget i hi)
  have hmn : os.length ≤ n' := hM.next
  have hρn : ∀ i, i < n' → ρ i < N + (n' - os.length) := fun i hi => by
    by_cases h1 : i < os.length
    · rw [hρlt i h1]; have := hoN i h1; omega
    · rw [hρge i (by omega)]; omega
  have hρinj : ∀ i j, i < n' → j < n' → ρ i = ρ j → i = j := fun i j hi hj he => by
    by_cases h1 : i < os.length <;> by_cases h2 : j < os.length
    · rw [hρlt i h1, hρlt j h2] at he; exact hinj i j h1 h2 he
    · rw [hρlt i h1, hρge j (by omega)] at he; have := hoN i h1; omega
    · rw [hρlt j h2, hρge i (by omega)] at he; have := hoN j h2; omega
    · rw [hρge i (by omega), hρge j (by omega)] at he; omega
  let g2 : Gh := ⟨fun j => if j < N then g.μ j else g'.μ (os.length + (j - N)), fun j => if j < N then (if j ∈ os then g'.τ (os.idxOf j) else g.τ j) else g'.τ (os.length + (j - N)), g'.F⟩
  let hp2 : Hp := ⟨frV ρ os vsS' vs, frL ρ os lvS' lv, N + (n' - os.length)⟩
  have hμ2 : ∀ j, j < N → g2.μ j = g.μ j := fun j hj => if_pos hj
  have hτ2 : ∀ j, j < N → j ∉ os → g2.τ j = g.τ j := fun j hj ho => by
    show (if j < N then _ else _) = _
    rw [if_pos hj, if_neg ho]
  have hμρ : ∀ i, i < n' → g2.μ (ρ i) = g'.μ i := fun i hi => by
    by_cases h1 : i < os.length
    · rw [hρlt i h1, hμ2 _ (hoN i h1)]; exact (hM.μ i h1).symm
    · rw [hρge i (by omega)]
      show (if _ then _ else _) = _
      rw [if_neg (by omega), show os.length + (N + (i - os.length) - N) = i by omega]
  have hτρ : ∀ i, i < n' → g2.τ (ρ i) = g'.τ i := fun i hi => by
    by_cases h1 : i < os.length
    · rw [hρlt i h1]
      show (if _ then (if _ then _ else _) else _) = _
      rw [if_pos (hoN i h1), if_pos (hget i h1)]
      have : os.idxOf (os.getD i 0) = i := by
        have h2 : os.idxOf (os.getD i 0) < os.length := List.idxOf_lt_length_of_mem (hget i h1)
        refine hinj _ _ h2 h1 ?_
        rw [List.getD_eq_getElem?_getD (i := os.idxOf _), List.getElem?_eq_getElem h2]
        exact List.getElem_idxOf h2
      rw [this]
    · rw [hρge i (by omega)]
      show (if _ then _ else _) = _
      rw [if_neg (by omega), show os.length + (N + (i - os.length) - N) = i by omega]
  have lookV : ∀ k ds, hp2.vars.lookup k = some ds → (∃ i ds0, ρ i = k ∧ i < n' ∧ vsS'.lookup i = some ds0 ∧ ds0.map (D.renC ρ) = ds) ∨ (k ∉ os ∧ k < N ∧ vs.lookup k = some ds) := fun k ds hk => by
    rcases lookup_app hk with h1 | h1
    · obtain ⟨i, a, h2, h3, h4⟩ := lookup_map_fst ρ (fun a : List D => a.map (D.renC ρ)) h1
      exact .inl ⟨i, a, h2, (hR'.var i a h3).1, h3, h4⟩
    · obtain ⟨h2, h3⟩ := lookup_filt h1
      exact .inr ⟨h2, (hR.var k ds h3).1, h3⟩
  have lookL : ∀ k y, hp2.live.lookup k = some y → (∃ i, ρ i = k ∧ i < n' ∧ lvS'.lookup i = some y) ∨ (k ∉ os ∧ k < N ∧ lv.lookup k = some y) := fun k y hk => by
    rcases lookup_app hk with h1 | h1
    · obtain ⟨i, a, h2, h3, h4⟩ := lookup_map_fst ρ (fun a : Nat × Nat × TypeId => a) h1
      subst h4
      exact .inl ⟨i, h2, (hR'.tok i a.1 a.2 h3).1, h3⟩
    · obtain ⟨h2, h3⟩ := lookup_filt h1
      exact .inr ⟨h2, (hR.tok k y.1 y.2 h3).1, h3⟩
  have hlρ : ∀ id, id < n' → ∀ y, hp2.live.lookup (ρ id) = some y → lvS'.lookup id = some y := fun id hid y hy => by
    rcases lookL _ _ hy with ⟨i, h1, h2, h3⟩ | ⟨h1, h2, _⟩
    · rw [← hρinj i id h2 hid h1]; exact h3
    · exfalso
      by_cases h4 : id < os.length
      · rw [hρlt id h4] at h1; exact h1 (hget id h4)
      · rw [hρge id (by omega)] at h2; omega
  -- blocks of what was not in hand are free for the callee
  have freeV : ∀ k ds, k ∉ os → vs.lookup k = some ds → g.μ k < w.heap.size ∧ Free ⟨vsS, lvS, os.length⟩ ⟨fun i => g.μ (os.getD i 0), fun i => g.τ (os.getD i 0), g.F⟩ (g.μ k) := fun k ds ho hk => by
    refine ⟨hR.var_lt (k := k) (ds := ds) hk, fun i di hi => ?_, fun i t hi => ?_⟩
    · obtain ⟨h1, ⟨_, h2, _⟩, _⟩ := hv i di hi
      exact fun e => ho (by rw [← hR.inj _ _ _ _ h2 hk e]; exact hget i h1)
    · obtain ⟨h1, h2⟩ := hl i t hi
      obtain ⟨_, _, _, _, h3⟩ := hR.tok _ t.1 t.2 h2
      exact fun e => (h3 _ e).2 k ds hk rfl
  have freeT : ∀ k t b, k ∉ os → lv.lookup k = some t → (g.τ k).ownBlock = some b → b < w.heap.size ∧ Free ⟨vsS, lvS, os.length⟩ ⟨fun i => g.μ (os.getD i 0), fun i => g.τ (os.getD i 0), g.F⟩ b := fun k t b ho hk hb => by
    obtain ⟨_, _, _, h1, h2⟩ := hR.tok k t.1 t.2 hk
    refine ⟨(h1.lt b hb).2, fun i di hi => ?_, fun i t' hi => ?_⟩
    · obtain ⟨h1, ⟨_, h3, _⟩, _⟩ := hv i di hi
      exact (h2 b hb).2 _ _ h3
    · obtain ⟨h1, h3⟩ := hl i t' hi
      exact fun e => ho (by rw [← hR.tinj _ _ _ _ b h3 hk e hb]; exact hget i h1)
  have mo : Mono ⟨vs, lv, N⟩ g w hp2 g2 w' := by
    refine ⟨hM.size, hM.cell, hM.forb, Nat.le_add_right _ _, fun k hk => hμ2 k hk, fun id hid n e hy => ?_, fun b hb hf => ?_⟩
    · rcases lookL _ _ hy with ⟨i, h1, h2, h3⟩ | ⟨h1, h2, h3⟩
      · by_cases h4 : i < os.length
        · obtain ⟨m0, h5, h6, h7⟩ := hM.live i h4 n e h3
          refine ⟨m0, ?_, h6, fun h => ?_⟩
          · rw [← h1, hρlt i h4]; exact hlive i _ h5
          · rw [← h1, hτρ i h2, h7 h, hρlt i h4]
        · rw [← h1, hρge i (by omega)] at hid
          have hid : N + (i - os.length) < N := hid
          omega
      · exact ⟨n, h3, Nat.le_refl _, fun _ => hτ2 id h2 h1⟩
    · obtain ⟨h1, h2, h3⟩ := hM.fr b hb ⟨fun k ds hk => by
        obtain ⟨_, ⟨_, h5, _⟩, _⟩ := hv k ds hk
        exact hf.1 _ _ h5, fun id t hi => hf.2 _ _ (hlive id t hi)⟩
      refine ⟨h1, h2, fun k ds hk => ?_, fun id t hi => ?_⟩
      · rcases lookV _ _ hk with ⟨i, _, rfl, h5, h6, _⟩ | ⟨_, h5, h6⟩
        · rw [hμρ i h5]; exact h3.1 _ _ h6
        · rw [hμ2 k h5]; exact hf.1 _ _ h6
      · rcases lookL _ _ hi with ⟨i, rfl, h5, h6⟩ | ⟨h4, h5, h6⟩
        · rw [hτρ i h5]; exact h3.2 _ _ h6
        · rw [hτ2 id h5 h4]; exact hf.2 _ _ h6
  have fw : ∀ {d : D} {u : Value}, d.okC = true → RepD ⟨vsS', lvS', n'⟩ g' w' d u → RepD hp2 g2 w' (d.renC ρ) u := fun hd h => fwdC h hd hρn hμρ hτρ rfl hlρ
  refine ⟨v, g2, rfl, ⟨fun k ds hk => ?_, fun k k' ds ds' hk hk' he => ?_, fun id n e hi => ?_, fun id id' t t' b hi hi' hb hb' => ?_, hR'.base, hR'.fits⟩, mo, fwdF hres hr hρn hμρ hτρ rfl hlρ, hB, hF⟩
  · rcases lookV _ _ hk with ⟨i, ds0, rfl, h1, h2, rfl⟩ | ⟨h1, h2, h3⟩
    · obtain ⟨_, h4, h5, cs, ty, h6, h7, h8⟩ := hR'.var i ds0 h2
      rw [hμρ i h1]
      refine ⟨hρn i h1, h4, h5, cs, ty, h6, by simpa using h7, fun j u hu => ⟨(h8 j u hu).1, fun d hd => ?_⟩⟩
      rw [List.getElem?_map] at hd
      obtain ⟨d0, hd0, rfl⟩ := Option.map_eq_some_iff.1 hd
      exact fw (List.all_eq_true.1 (hvo _ (mem_of_lookup h2)) d0 (List.mem_of_getElem? hd0)) ((h8 j u hu).2 d0 hd0)
    · obtain ⟨h4, h5⟩ := freeV k ds h1 h3
      obtain ⟨h6, h7, _⟩ := hM.fr _ h4 h5
      obtain ⟨_, h8, h9, cs, ty, h10, h11, h12⟩ := hR.var k ds h3
      rw [hμ2 k h2]
      exact ⟨Nat.lt_of_lt_of_le h2 (Nat.le_add_right _ _), h8, fun p hp => h7 p hp (h9 p hp), cs, ty, h6.trans h10, h11, fun j u hu => ⟨(h12 j u hu).1, fun d hd => ((h12 j u hu).2 d hd).mono mo⟩⟩
  · rcases lookV _ _ hk with ⟨i, ds0, rfl, h1, h2, _⟩ | ⟨h1, h2, h3⟩ <;> rcases lookV _ _ hk' with ⟨i', ds0', rfl, h1', h2', _⟩ | ⟨h1', h2', h3'⟩
    · rw [hμρ i h1, hμρ i' h1'] at he
      rw [hR'.inj _ _ _ _ h2 h2' he]
    · rw [hμρ i h1, hμ2 _ h2'] at he
      obtain ⟨h4, h5⟩ := freeV _ _ h1' h3'
      exact absurd he ((hM.fr _ h4 h5).2.2.1 _ _ h2)
    · rw [hμρ i' h1', hμ2 _ h2] at he
      obtain ⟨h4, h5⟩ := freeV _ _ h1 h3
      exact absurd he.symm ((hM.fr _ h4 h5).2.2.1 _ _ h2')
    · rw [hμ2 _ h2, hμ2 _ h2'] at he
      exact hR.inj _ _ _ _ h3 h3' he
  · rcases lookL _ _ hi with ⟨i, rfl, h1, h2⟩ | ⟨h1, h2, h3⟩
    · obtain ⟨_, us', h4, h5, h6⟩ := hR'.tok i n e h2
      rw [hτρ i h1]
      refine ⟨hρn i h1, us', h4, h5, fun b hb => ⟨(h6 b hb).1, fun k ds hk => ?_⟩⟩
      rcases lookV _ _ hk with ⟨i', _, rfl, h7, h8, _⟩ | ⟨h7, h8, h9⟩
      · rw [hμρ i' h7]; exact (h6 b hb).2 _ _ h8
      · rw [hμ2 k h8]
        obtain ⟨h10, h11⟩ := freeV _ _ h7 h9
        intro e
        exact (hM.fr _ h10 h11).2.2.2 _ _ h2 (by rw [e]; exact hb)
    · obtain ⟨_, us', h4, h5, h6⟩ := hR.tok id n e h3
      rw [hτ2 id h2 h1]
      refine ⟨Nat.lt_of_lt_of_le h2 (Nat.le_add_right _ _), us', h4, ⟨h5.1, ?_⟩, fun b hb => ?_⟩
      · rcases h5.2 with h0 | ⟨b, cap, cur, hv', hB', hh, r⟩
        · exact .inl h0
        · obtain ⟨h10, h11⟩ := freeT id _ b h1 h3 (by rw [hv']; rfl)
          exact .inr ⟨b, cap, cur, hv', hB', (hM.fr _ h10 h11).1.trans hh, r⟩
      · obtain ⟨h10, h11⟩ := freeT id _ b h1 h3 hb
        obtain ⟨h12, h13, h14⟩ := hM.fr _ h10 h11
        refine ⟨fun p h7 h8 => h13 p h7 ((h6 b hb).1 p h7 h8), fun k ds hk => ?_⟩
        rcases lookV _ _ hk with ⟨i', _, rfl, h7, h8, _⟩ | ⟨h7, h8, h9⟩
        · rw [hμρ i' h7]; exact h14.1 _ _ h8
        · rw [hμ2 k h8]; exact (h6 b hb).2 _ _ h9
  · rcases lookL _ _ hi with ⟨i, rfl, h1, h2⟩ | ⟨h1, h2, h3⟩ <;> rcases lookL _ _ hi' with ⟨i', rfl, h1', h2'⟩ | ⟨h1', h2', h3'⟩
    · rw [hτρ i h1] at hb
      rw [hτρ i' h1'] at hb'
      rw [hR'.tinj _ _ _ _ b h2 h2' hb hb']
    · rw [hτρ i h1] at hb
      rw [hτ2 _ h2' h1'] at hb'
      obtain ⟨h10, h11⟩ := freeT _ _ b h1' h3' hb'
      exact absurd hb ((hM.fr _ h10 h11).2.2.2 _ _ h2)
    · rw [hτρ i' h1'] at hb'
      rw [hτ2 _ h2 h1] at hb
      obtain ⟨h10, h11⟩ := freeT _ _ b h1 h3 hb
      exact absurd hb' ((hM.fr _ h10 h11).2.2.2 _ _ h2')
    · rw [hτ2 _ h2 h1] at hb
      rw [hτ2 _ h2' h1'] at hb'
      exact hR.tinj _ _ _ _ b h3 h3' hb hb'
end Go.Proofs.Ytakbadleipbngaa
