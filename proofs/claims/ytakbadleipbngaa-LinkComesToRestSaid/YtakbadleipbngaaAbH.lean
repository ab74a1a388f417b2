/-
  The abstract layer: numbers of variables and growing slices given anew; a nil slice in a variable becomes one that may grow. Conditions: none.
-/
import Derived.Test.YtakbadleipbngaaAbE
set_option linter.all false
namespace Go.Proofs.Ytakbadleipbngaa
open Go.RowKit
/-- New numbers to old ones: those below N0 stay. -/
def sg (N0 : Nat) (os : List Nat) (i : Nat) : Nat := bif decide (i < N0) then i else os.getD (i - N0) 0
def D.renC (σ : Nat → Nat) : D → D
  | .own id z n xs => .own (σ id) z n xs
  | .pt k o => .pt (σ k) o
  | .ow k o z n => .ow (σ k) o z n
  | .fn f ks => .fn f (ks.map σ)
  | d => d
def D.ren (σ : Nat → Nat) : D → D
  | .ag ds => .ag (ds.map (D.renC σ))
  | .tu ds => .tu (ds.map (D.renC σ))
  | d => d.renC σ
def D.noO : D → Bool
  | .opt _ _ => false
  | _ => true
def D.noOs : D → Bool
  | .ag ds => ds.all D.noO
  | .tu ds => ds.all D.noO
  | d => d.noO
theorem renC_rep {σ : Nat → Nat} {hp hp2 : Hp} {g g2 : Gh} {w : World} {m : Nat} {d : D} {v : Value} (h : RepD hp g w (d.renC σ) v) (hd : d.idsC m = true) (hn : d.noO = true) (hm : hp2.next = m)
    (hμ : ∀ i, g2.μ i = g.μ (σ i)) (hτ : ∀ i, g2.τ i = g.τ (σ i)) (hF : g2.F = g.F) (hl : ∀ id y, hp2.live.lookup id = some y → hp.live.lookup (σ id) = some y) : RepD hp2 g2 w d v := by
  subst hm
  cases d with
  | e y => cases h with
    | e _ v h => exact .e y v (by rw [hF]; exact h)
  | own id z n xs => cases h with
    | own _ _ _ _ v h hid ht => exact .own id z n xs v (by rw [hF]; exact h) (by simpa [D.idsC] using hd) (fun m e hm => by rw [hτ]; exact ht m e (hl _ _ hm))
  | fu z n xs => cases h with
    | fu _ _ _ A h => exact .fu z n xs A (by rw [hF]; exact h)
  | ag ds => cases hd
  | tu ds => cases hd
  | fp xs off => cases h with
    | fp _ _ ad hb hc => exact .fp xs off ad hb (by rw [hF]; exact hc)
  | pt k off => cases h with
    | pt _ _ hk => rw [← hμ]; exact .pt k off (by simpa [D.idsC] using hd)
  | ow k off z n => cases h with
    | ow _ _ _ _ c hk h1 h2 => rw [← hμ]; exact .ow k off z n c (by simpa [D.idsC] using hd) h1 h2
  | fn f ks => cases h with
    | fn _ _ hk =>
      have : ((ks.map σ).map fun k => Value.pointer (some ⟨g.μ k, 0, none⟩)) = ks.map fun k => Value.pointer (some ⟨g2.μ k, 0, none⟩) := by
        rw [List.map_map]
        exact List.map_congr_left fun k _ => by simp only [Function.comp, hμ]
      rw [this]
      exact .fn f ks (by simpa [D.idsC] using hd)
  | opt b d => cases hn
  | top => exact .top v
theorem ren_rep {σ : Nat → Nat} {hp hp2 : Hp} {g g2 : Gh} {w : World} {m : Nat} {d : D} {v : Value} (h : RepD hp g w (d.ren σ) v) (hd : d.idsB m = true) (hn : d.noOs = true) (hm : hp2.next = m)
    (hμ : ∀ i, g2.μ i = g.μ (σ i)) (hτ : ∀ i, g2.τ i = g.τ (σ i)) (hF : g2.F = g.F) (hl : ∀ id y, hp2.live.lookup id = some y → hp.live.lookup (σ id) = some y) : RepD hp2 g2 w d v := by
  cases d with
  | ag ds =>
    have hall : ∀ d ∈ ds, D.idsC m d = true := by simpa [D.idsB] using hd
    have hno : ∀ d ∈ ds, D.noO d = true := by simpa [D.noOs] using hn
    cases h with
    | ag _ cs hlen h1 hr =>
      refine .ag ds cs (by simpa using hlen) h1 fun j d u h2 h3 => ?_
      have := hr j (d.renC σ) u (by rw [List.getElem?_map, h2]; rfl) h3
      exact renC_rep this (hall d (List.mem_of_getElem? h2)) (hno d (List.mem_of_getElem? h2)) hm hμ hτ hF hl
  | tu ds =>
    have hall : ∀ d ∈ ds, D.idsC m d = true := by simpa [D.idsB] using hd
    have hno : ∀ d ∈ ds, D.noO d = true := by simpa [D.noOs] using hn
    cases h with
    | tu _ cs hlen hr =>
      refine .tu ds cs (by simpa using hlen) fun j d u h2 h3 => ?_
      have := hr j (d.renC σ) u (by rw [List.getElem?_map, h2]; rfl) h3
      exact renC_rep this (hall d (List.mem_of_getElem? h2)) (hno d (List.mem_of_getElem? h2)) hm hμ hτ hF hl
  | e y => exact renC_rep h hd hn hm hμ hτ hF hl
  | own id z n xs => exact renC_rep h hd hn hm hμ hτ hF hl
  | fu z n xs => exact renC_rep h hd hn hm hμ hτ hF hl
  | fp xs off => exact renC_rep h hd hn hm hμ hτ hF hl
  | pt k off => exact renC_rep h hd hn hm hμ hτ hF hl
  | ow k off z n => exact renC_rep h hd hn hm hμ hτ hF hl
  | fn f ks => exact renC_rep h hd hn hm hμ hτ hF hl
  | opt b d => cases hn
  | top => exact .top v
theorem sg_inj {N0 : Nat} {os : List Nat} (hs : ∀ o ∈ os, N0 ≤ o) (hn : os.Nodup) {i j : Nat} (hi : i < N0 + os.length) (hj : j < N0 + os.length) (h : sg N0 os i = sg N0 os j) : i = j := by
  unfold sg at h
  have get : ∀ k, ¬ k < N0 → k < N0 + os.length → ∃ hk : k - N0 < os.length, os.getD (k - N0) 0 = os[k - N0] := fun k h1 h2 => ⟨by omega, by simp [List.getD, List.getElem?_eq_getElem (show k - N0 < os.length by omega)]⟩
  by_cases h1 : i < N0 <;> by_cases h2 : j < N0
  · simpa [h1, h2] using h
  · obtain ⟨hk, e⟩ := get j h2 hj
    simp only [h1, h2, decide_true, decide_false, cond_true, cond_false] at h
    rw [e] at h
    have := hs _ (List.getElem_mem hk)
    omega
  · obtain ⟨hk, e⟩ := get i h1 hi
    simp only [h1, h2, decide_true, decide_false, cond_true, cond_false] at h
    rw [e] at h
    have := hs _ (List.getElem_mem hk)
    omega
  · obtain ⟨hk, e⟩ := get i h1 hi
    obtain ⟨hk', e'⟩ := get j h2 hj
    simp only [h1, h2, decide_false, cond_false] at h
    rw [e, e'] at h
    have hp := List.pairwise_iff_getElem.1 hn
    rcases Nat.lt_trichotomy (i - N0) (j - N0) with h3 | h3 | h3
    · exact absurd h (hp _ _ hk hk' h3)
    · omega
    · exact absurd h.symm (hp _ _ hk' hk h3)
section
variable {P : Program} {tb : TypeId → Option TyE} {x : Cx} {tm tm' : List (Nat × D)} {hp hp' : Hp} {Q : Exit → List (Nat × D) → Hp → Prop}
theorem Wk.ren {vars' : List (Nat × List D)} {live' : List (Nat × Nat × Nat × TypeId)} {m : Nat} (N0 : Nat) (os : List Nat) (h0 : x.hp0.next = N0) (hs : ∀ o ∈ os, N0 ≤ o) (hnd : os.Nodup) (hm : m = N0 + os.length)
    (ht : ∀ p ∈ tm', tm.lookup p.1 = some (p.2.ren (sg N0 os)) ∧ p.2.idsB m = true ∧ p.2.noOs = true)
    (hv : ∀ p ∈ vars', p.1 < m ∧ hp.vars.lookup (sg N0 os p.1) = some (p.2.map (D.renC (sg N0 os))) ∧ p.2.all (D.idsC m) = true ∧ p.2.all D.noO = true)
    (hl : ∀ p ∈ live', p.1 < m ∧ hp.live.lookup (sg N0 os p.1) = some p.2) : Wk x tm hp tm' ⟨vars', live', m⟩ := by
  intro a w ⟨g, hr, htm, hsz, hdf, hB, hF, hM⟩
  subst h0 hm
  have hlive : ∀ id y, (⟨vars', live', x.hp0.next + os.length⟩ : Hp).live.lookup id = some y → hp.live.lookup (sg x.hp0.next os id) = some y := fun id y h => (hl _ (mem_of_lookup h)).2
  have hlt : ∀ i, i < x.hp0.next → sg x.hp0.next os i = i := fun i hi => by unfold sg; simp [hi]
  refine ⟨⟨fun i => g.μ (sg x.hp0.next os i), fun i => g.τ (sg x.hp0.next os i), g.F⟩, ⟨fun k ds hk => ?_, fun k k' ds ds' hk hk' he => ?_, fun id n e hi => ?_, fun id id' t t' b hi hi' hb hb' => ?_, hr.base, hr.fits⟩, fun t d h => ?_, hsz, hdf, hB, hF,
    ⟨hM.size, hM.cell, hM.forb, Nat.le_add_right _ _, fun k hk => by show g.μ _ = _; rw [hlt k hk]; exact hM.μ k hk, fun id hid n e hl' => ?_, fun b hb hf => ⟨(hM.fr b hb hf).1, (hM.fr b hb hf).2.1, fun k ds hk => (hM.fr b hb hf).2.2.1 _ _ (hv _ (mem_of_lookup hk)).2.1, fun id t hi => (hM.fr b hb hf).2.2.2 _ t (hlive id _ hi)⟩⟩⟩
  · obtain ⟨h1, h2, h3, h4⟩ := hv _ (mem_of_lookup hk)
    obtain ⟨_, h5, h6, cs, ty, h7, h8, h9⟩ := hr.var _ _ h2
    have h3' : ∀ d ∈ ds, D.idsC (x.hp0.next + os.length) d = true := by simpa using h3
    have h4' : ∀ d ∈ ds, D.noO d = true := by simpa using h4
    refine ⟨h1, h5, h6, cs, ty, h7, by simpa using h8, fun j u hu => ⟨(h9 j u hu).1, fun d hd => ?_⟩⟩
    exact renC_rep ((h9 j u hu).2 (d.renC _) (by rw [List.getElem?_map, hd]; rfl)) (h3' d (List.mem_of_getElem? hd)) (h4' d (List.mem_of_getElem? hd)) rfl (fun _ => rfl) (fun _ => rfl) rfl hlive
  · obtain ⟨h1, h2, _⟩ := hv _ (mem_of_lookup hk)
    obtain ⟨h1', h2', _⟩ := hv _ (mem_of_lookup hk')
    exact sg_inj hs hnd h1 h1' (hr.inj _ _ _ _ h2 h2' he)
  · obtain ⟨h1, h2⟩ := hl _ (mem_of_lookup hi)
    obtain ⟨_, us, h3, h4, h5⟩ := hr.tok _ n e h2
    exact ⟨h1, us, h3, h4, fun b hb => ⟨(h5 b hb).1, fun k ds hk => (h5 b hb).2 _ _ (hv _ (mem_of_lookup hk)).2.1⟩⟩
  · obtain ⟨h1, h2⟩ := hl _ (mem_of_lookup hi)
    obtain ⟨h1', h2'⟩ := hl _ (mem_of_lookup hi')
    exact sg_inj hs hnd h1 h1' (hr.tinj _ _ _ _ b h2 h2' hb hb')
  · obtain ⟨h1, h2, h3⟩ := ht _ (mem_of_lookup h)
    exact ren_rep (htm t _ h1) h2 h3 rfl (fun _ => rfl) (fun _ => rfl) rfl hlive
  · obtain ⟨m0, h1, h2, h3⟩ := hM.live id hid n e (by rw [← hlt id hid]; exact hlive id _ hl')
    exact ⟨m0, h1, h2, fun h => by show g.τ _ = _; rw [hlt id hid]; exact h3 h⟩
/-- A nil slice in a variable becomes one that may grow. -/
theorem Wk.nilOwn0 (k j : Nat) (e : TypeId) (z : Nat) (hz : 0 < z) {ds : List D} (hk : hp.vars.lookup k = some ds) (hj : ds[j]? = some (.e (.lit (.slice none 0 0))))
 : Wk x tm hp tm ((hp.tok 0 (z, e)).set k (ds.set j (.own hp.next z 0 []))) := by
  intro a w hr
  obtain ⟨g, hr, htm, hsz, hdf, hB, hF, hM⟩ := hr
  have ho := World.ownsRow_nil w x.B e z
  have hnb : ∀ b, (Value.slice none 0 0).ownBlock = some b → w.heap.size ≤ b := fun b hb => by cases hb
  have hr1 := hr.newTok (e := (z, e)) hz (Nat.le_refl _) (fun _ _ => rfl) hnb ho
  have m1 : Mono hp g w (hp.tok 0 (z, e)) (g.tok hp.next (.slice none 0 0) (0 * z)) w := Mono.tok hp g (Nat.le_refl _) (fun _ _ => rfl) hnb
  obtain ⟨_, _, _, cs, ty, h1, h2, h3⟩ := hr1.var k ds hk
  have hr2 := hr1.setVar hk (ds.set j (.own hp.next z 0 [])) cs ty rfl (fun _ _ => rfl) h1 (by simpa using h2) (fun i u hu => ⟨(h3 i u hu).1, fun d hd => by
    by_cases hij : j = i
    · subst hij
      rw [List.getElem?_set_self (by rcases Nat.lt_or_ge j ds.length with h | h; exact h; rw [List.getElem?_eq_none h] at hj; cases hj)] at hd
      injection hd with hd
      subst hd
      have hv := ((h3 j u hu).2 _ hj).lit
      subst hv
      refine .own _ _ _ _ _ (.sl _ 0 [] none 0 (fun _ => undef) (by simp) hz (Nat.le_refl _) (by decide) (fun h => absurd h (by omega)) (fun _ h => by cases h) (fun _ _ h => by simp at h)) (Nat.lt_succ_self _) (fun m e' hm => ?_)
      rw [show (Hp.tok hp _ _).live.lookup _ = _ from lookup_cons_eq] at hm
      injection hm with hm
      injection hm with h1 h2
      subst h1; subst h2
      exact ⟨Nat.le_refl _, rfl, fun _ => (if_pos rfl).symm⟩
    · rw [List.getElem?_set_ne hij] at hd
      exact (h3 i u hu).2 d hd⟩)
  have m2 := Mono.setVar (w' := w) hr1 hk (ds.set j (.own hp.next z 0 [])) rfl (fun _ _ => rfl)
  exact ⟨_, hr2, fun t d h => ((htm t d h).mono m1).mono m2, hsz, hdf, hB, fun p h1 h2 => Gh.tok_keep g _ (fun b hb => by cases hb) p h1 (hF p h1 h2), (hM.trans m1).trans m2⟩
theorem AW.nilOwn {c : Code} (k j : Nat) (e : TypeId) (z : Nat) (hz : 0 < z) {ds : List D} (hk : hp.vars.lookup k = some ds) (hj : ds[j]? = some (.e (.lit (.slice none 0 0))))
    (h : AW P x c tm ((hp.tok 0 (z, e)).set k (ds.set j (.own hp.next z 0 []))) Q) : AW P x c tm hp Q := AW.weak (Wk.nilOwn0 k j e z hz hk hj) h
end
end Go.Proofs.Ytakbadleipbngaa
