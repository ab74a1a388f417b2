/-
  The abstract layer: functions that are given variables. Conditions: none.
-/
import Derived.Test.YtakbadleipbngaaAbB
set_option linter.all false
namespace Go.Proofs.Ytakbadleipbngaa
open Go.RowKit
section
variable {P : Program} {tb : TypeId → Option TyE} {x : Cx} {tm tm' : List (Nat × D)} {hp hp' : Hp}
theorem Wk.look (h0 : x.hp0.next ≤ hp'.next) (hm : hp'.next ≤ hp.next)
    (ht : ∀ p ∈ tm', (∃ d, tm.lookup p.1 = some d ∧ (p.2 = d ∨ p.2 = d.ex)) ∧ p.2.idsB hp'.next = true)
    (hv : ∀ k ds', hp'.vars.lookup k = some ds' → k < hp'.next ∧ ∃ ds, hp.vars.lookup k = some ds ∧ wksL ds ds' ∧ ds'.all (D.idsC hp'.next) = true)
    (hl : ∀ id y, hp'.live.lookup id = some y → id < hp'.next ∧ hp.live.lookup id = some y) : Wk x tm hp tm' hp' := by
  intro a w ⟨g, hr, htm, hsz, hdf, hB, hF, hM⟩
  have hlive : ∀ id y, hp'.live.lookup id = some y → hp.live.lookup id = some y := fun id y h => (hl _ _ h).2
  refine ⟨g, ⟨fun k ds hk => ?_, fun k k' ds ds' hk hk' he => ?_, fun id n e hi => ?_, fun id id' t t' b hi hi' => hr.tinj id id' t t' b (hlive _ _ hi) (hlive _ _ hi'), hr.base, hr.fits⟩, fun t d h => ?_, hsz, hdf, hB, hF, ⟨hM.size, hM.cell, hM.forb, h0, hM.μ, fun id hid n e hl' => hM.live id hid n e (hlive id _ hl'), fun b hb hf => ⟨(hM.fr b hb hf).1, (hM.fr b hb hf).2.1, fun k ds hk => by obtain ⟨_, _, h, _⟩ := hv k ds hk; exact (hM.fr b hb hf).2.2.1 k _ h, fun id t hi => (hM.fr b hb hf).2.2.2 id t (hlive id _ hi)⟩⟩⟩
  · obtain ⟨h0, ds0, h1, hw, h2⟩ := hv _ _ hk
    obtain ⟨_, h3, h4, cs, ty, h5, h6, h7⟩ := hr.var k ds0 h1
    refine ⟨h0, h3, h4, cs, ty, h5, by rw [h6, wksL_len hw], fun j u hu => ⟨(h7 j u hu).1, fun d hd => ?_⟩⟩
    obtain ⟨d0, hd0, hdd⟩ := wksL_get hw hd
    have hrep := (h7 j u hu).2 d0 hd0
    have hrep' : RepD hp g w d u := hrep.leC hdd
    exact idsC_rep hrep' (List.all_eq_true.1 h2 d (List.mem_of_getElem? hd)) rfl hlive
  · obtain ⟨_, _, h1, _⟩ := hv _ _ hk
    obtain ⟨_, _, h2, _⟩ := hv _ _ hk'
    exact hr.inj k k' _ _ h1 h2 he
  · obtain ⟨h0, h1⟩ := hl _ _ hi
    obtain ⟨_, us, h2, h3, h4⟩ := hr.tok id n e h1
    refine ⟨h0, us, h2, h3, fun b hb => ⟨(h4 b hb).1, fun k ds hk => ?_⟩⟩
    obtain ⟨_, _, h5, _⟩ := hv _ _ hk
    exact (h4 b hb).2 k _ h5
  · obtain ⟨⟨d0, h1, h3⟩, h2⟩ := ht _ (mem_of_lookup h)
    have hrep := htm t d0 h1
    have hrep' : RepD hp g w d (a.tmps.getD t undef) := by
      rcases h3 with h3 | h3
      · dsimp only at h3; rw [h3]; exact hrep
      · dsimp only at h3; rw [h3]; exact hrep.exD
    exact idsB_rep hrep' h2 rfl hlive
/-- Entries laid before the old ones: their numbers are new, or listed. -/
inductive Cov {α : Type} (N : Nat) (ks : List Nat) (vs : List (Nat × α)) : List (Nat × α) → Prop
  | base : Cov N ks vs vs
  | cons {k : Nat} {y : α} {l : List (Nat × α)} (h : N ≤ k ∨ k ∈ ks) (hl : Cov N ks vs l) : Cov N ks vs ((k, y) :: l)
theorem Cov.look {α : Type} {N : Nat} {ks : List Nat} {vs l : List (Nat × α)} (h : Cov N ks vs l) {k : Nat} (h1 : k < N) (h2 : k ∉ ks) : l.lookup k = vs.lookup k := by
  induction h with
  | base => rfl
  | cons h hl ih =>
    rename_i j y l
    rw [← ih]
    exact lookup_cons_ne fun e => by subst e; rcases h with h | h; omega; exact h2 h
inductive TgtV (m : Nat) (l2 vs : List (Nat × List D)) : List Nat → List (Nat × List D) → Prop
  | base : TgtV m l2 vs [] vs
  | cons {k : Nat} {ds' : List D} {ks : List Nat} {l : List (Nat × List D)} (h : k < m ∧ (∃ ds, l2.lookup k = some ds ∧ wksL ds ds') ∧ ds'.all (D.idsC m) = true) (hl : TgtV m l2 vs ks l) : TgtV m l2 vs (k :: ks) ((k, ds') :: l)
theorem TgtV.look {m : Nat} {l2 vs : List (Nat × List D)} {ks : List Nat} {l : List (Nat × List D)} (h : TgtV m l2 vs ks l) {k : Nat} {ds' : List D} (hk : l.lookup k = some ds') :
    (k ∈ ks ∧ k < m ∧ (∃ ds, l2.lookup k = some ds ∧ wksL ds ds') ∧ ds'.all (D.idsC m) = true) ∨ (k ∉ ks ∧ vs.lookup k = some ds') := by
  induction h with
  | base => exact .inr ⟨by simp, hk⟩
  | cons h hl ih =>
    rename_i j es ks l
    by_cases hj : k = j
    · subst hj
      have : some es = some ds' := by rw [← hk]; exact lookup_cons_eq.symm
      injection this with this
      subst this
      exact .inl ⟨List.mem_cons_self .., h⟩
    · rcases ih (by rw [← hk]; exact (lookup_cons_ne hj).symm) with ⟨h1, h2⟩ | ⟨h1, h2⟩
      · exact .inl ⟨List.mem_cons_of_mem _ h1, h2⟩
      · exact .inr ⟨by simp [hj, h1], h2⟩
inductive TgtL (m : Nat) (l2 vs : List (Nat × Nat × Nat × TypeId)) : List Nat → List (Nat × Nat × Nat × TypeId) → Prop
  | base : TgtL m l2 vs [] vs
  | cons {k : Nat} {y : Nat × Nat × TypeId} {ks : List Nat} {l : List (Nat × Nat × Nat × TypeId)} (h : k < m ∧ l2.lookup k = some y) (hl : TgtL m l2 vs ks l) : TgtL m l2 vs (k :: ks) ((k, y) :: l)
theorem TgtL.look {m : Nat} {l2 vs : List (Nat × Nat × Nat × TypeId)} {ks : List Nat} {l : List (Nat × Nat × Nat × TypeId)} (h : TgtL m l2 vs ks l) {k : Nat} {y : Nat × Nat × TypeId} (hk : l.lookup k = some y) :
    (k ∈ ks ∧ k < m ∧ l2.lookup k = some y) ∨ (k ∉ ks ∧ vs.lookup k = some y) := by
  induction h with
  | base => exact .inr ⟨by simp, hk⟩
  | cons h hl ih =>
    rename_i j es ks l
    by_cases hj : k = j
    · subst hj
      have : some es = some y := by rw [← hk]; exact lookup_cons_eq.symm
      injection this with this
      subst this
      exact .inl ⟨List.mem_cons_self .., h⟩
    · rcases ih (by rw [← hk]; exact (lookup_cons_ne hj).symm) with ⟨h1, h2⟩ | ⟨h1, h2⟩
      · exact .inl ⟨List.mem_cons_of_mem _ h1, h2⟩
      · exact .inr ⟨by simp [hj, h1], h2⟩
/-- What is kept, over a state that is not named: new entries are forgotten or listed anew. -/
theorem Wk.fin {vs vars' vars2 : List (Nat × List D)} {lv live' live2 : List (Nat × Nat × Nat × TypeId)} {N m n2 : Nat} {ks kl : List Nat} (h0 : x.hp0 = ⟨vs, lv, N⟩) (hok : HpOk ⟨vs, lv, N⟩) (hN : N ≤ m) (hm : m ≤ n2)
    (hv : TgtV m vars2 vs ks vars') (hc : Cov N ks vs vars2) (hl : TgtL m live2 lv kl live') (hcl : Cov N kl lv live2)
    (ht : ∀ p ∈ tm', (∃ d, tm.lookup p.1 = some d ∧ (p.2 = d ∨ p.2 = d.ex)) ∧ p.2.idsB m = true) : Wk x tm ⟨vars2, live2, n2⟩ tm' ⟨vars', live', m⟩ := by
  refine Wk.look (by rw [h0]; exact hN) hm ht (fun k ds' hk => ?_) (fun id y hy => ?_)
  · rcases hv.look hk with ⟨_, h1, ⟨ds, h2, h3⟩, h4⟩ | ⟨h1, h2⟩
    · exact ⟨h1, ds, h2, h3, h4⟩
    · obtain ⟨h3, h4⟩ := hok.var k ds' h2
      have h3' : k < N := h3
      refine ⟨Nat.lt_of_lt_of_le h3' hN, ds', (hc.look h3' h1).trans h2, wksL_refl _, List.all_eq_true.2 fun d hd => ?_⟩
      have h5 := List.all_eq_true.1 h4 d hd
      show D.idsC m d = true
      exact D.idsC_le hN h5
  · rcases hl.look hy with ⟨_, h1, h2⟩ | ⟨h1, h2⟩
    · exact ⟨h1, h2⟩
    · have h3 : id < N := hok.tok id y h2
      exact ⟨Nat.lt_of_lt_of_le h3 hN, (hcl.look h3 h1).trans h2⟩
/-- A variable's growing slices are seen as finished. -/
theorem Wk.exVar {vs : List (Nat × List D)} {lv : List (Nat × Nat × Nat × TypeId)} {N k : Nat} {ds ds' : List D} (hk : vs.lookup k = some ds) (hw : wksL ds ds') : Wk x tm ⟨vs, lv, N⟩ tm ⟨(k, ds') :: vs, lv, N⟩ := by
  intro a w ⟨g, hr, htm, hsz, hdf, hB, hF, hM⟩
  have look : ∀ {j : Nat} {es : List D}, ((k, ds') :: vs).lookup j = some es → (j = k ∧ es = ds') ∨ (j ≠ k ∧ vs.lookup j = some es) := by
    intro j es h
    by_cases hj : j = k
    · subst hj
      have : some ds' = some es := by rw [← h]; exact lookup_cons_eq.symm
      injection this with this
      exact .inl ⟨rfl, this.symm⟩
    · exact .inr ⟨hj, by rw [← h]; exact (lookup_cons_ne hj).symm⟩
  have old : ∀ {j : Nat} {es : List D}, ((k, ds') :: vs).lookup j = some es → ∃ es0, vs.lookup j = some es0 ∧ wksL es0 es := by
    intro j es h
    rcases look h with ⟨rfl, rfl⟩ | ⟨_, h⟩
    · exact ⟨ds, hk, hw⟩
    · exact ⟨es, h, wksL_refl _⟩
  have hrd : ∀ {d : D} {v : Value}, RepD ⟨vs, lv, N⟩ g w d v → RepD ⟨(k, ds') :: vs, lv, N⟩ g w d v := fun h => h.mono ⟨Nat.le_refl _, fun _ _ _ => rfl, fun _ _ h => h, Nat.le_refl _, fun _ _ => rfl, fun _ _ m _ h => ⟨m, h, Nat.le_refl _, fun _ => rfl⟩, fun b hb hf => ⟨rfl, fun _ _ h => h, fun j es hj => by obtain ⟨_, h, _⟩ := old hj; exact hf.1 j _ h, hf.2⟩⟩
  refine ⟨g, ⟨fun j es hj => ?_, fun j j' es es' hj hj' he => ?_, fun id n e hi => ?_, hr.tinj, hr.base, hr.fits⟩, fun t d h => hrd (htm t d h), hsz, hdf, hB, hF, ⟨hM.size, hM.cell, hM.forb, hM.next, hM.μ, hM.live, fun b hb hf => ⟨(hM.fr b hb hf).1, (hM.fr b hb hf).2.1, fun j es hj => by obtain ⟨_, h, _⟩ := old hj; exact (hM.fr b hb hf).2.2.1 j _ h, (hM.fr b hb hf).2.2.2⟩⟩⟩
  · obtain ⟨es0, h1, h2⟩ := old hj
    obtain ⟨h3, h4, h5, cs, ty, h6, h7, h8⟩ := hr.var j es0 h1
    refine ⟨h3, h4, h5, cs, ty, h6, by rw [h7, wksL_len h2], fun i u hu => ⟨(h8 i u hu).1, fun d hd => ?_⟩⟩
    obtain ⟨d0, hd0, hdd⟩ := wksL_get h2 hd
    exact hrd (((h8 i u hu).2 d0 hd0).leC hdd)
  · obtain ⟨_, h1, _⟩ := old hj
    obtain ⟨_, h2, _⟩ := old hj'
    exact hr.inj j j' _ _ h1 h2 he
  · obtain ⟨h1, us, h2, h3, h4⟩ := hr.tok id n e hi
    refine ⟨h1, us, h2, h3, fun b hb => ⟨(h4 b hb).1, fun j es hj => ?_⟩⟩
    obtain ⟨_, h5, _⟩ := old hj
    exact (h4 b hb).2 j _ h5
theorem rg_1 : List.range 1 = [0] := rfl
theorem rg_2 : List.range 2 = [0, 1] := rfl
theorem rg_3 : List.range 3 = [0, 1, 2] := rfl
theorem rg_4 : List.range 4 = [0, 1, 2, 3] := rfl
theorem rg_5 : List.range 5 = [0, 1, 2, 3, 4] := rfl
theorem rg_6 : List.range 6 = [0, 1, 2, 3, 4, 5] := rfl
theorem rg_7 : List.range 7 = [0, 1, 2, 3, 4, 5, 6] := rfl
theorem rg_8 : List.range 8 = [0, 1, 2, 3, 4, 5, 6, 7] := rfl
/-- Numbers beside a letter. -/
theorem beq_add_add (n a b : Nat) : (n + a == n + b) = (a == b) := by
  rw [Bool.eq_iff_iff]; simp
theorem beq_add_r (n b : Nat) : (n == n + b) = (0 == b) := by
  rw [Bool.eq_iff_iff]; simp; omega
theorem beq_add_l (n a : Nat) : (n + a == n) = (a == 0) := by
  rw [Bool.eq_iff_iff]; simp
theorem beq_lt0 {k N : Nat} (h : k < N) : (k == N) = false := by
  rw [Bool.eq_false_iff]; simp; omega
theorem beq_lt {k N : Nat} (h : k < N) (a : Nat) : (k == N + a) = false := by
  rw [Bool.eq_false_iff]; simp; omega
theorem beq_gt0 {k N : Nat} (h : k < N) : (N == k) = false := by
  rw [Bool.eq_false_iff]; simp; omega
theorem beq_gt {k N : Nat} (h : k < N) (a : Nat) : (N + a == k) = false := by
  rw [Bool.eq_false_iff]; simp; omega
end
end Go.Proofs.Ytakbadleipbngaa
