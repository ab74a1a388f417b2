/-
  The abstract layer: each operation does to memory what it does to data (second part). Conditions: none.
-/
import Derived.Test.YtakbadleipbngaaAb4
set_option linter.all false
namespace Go.Proofs.Ytakbadleipbngaa
open Go.RowKit
section
variable {P : Program} {tb : TypeId → Option TyE} {hp : Hp} {g : Gh} {w : World} {B : Nat}
/-! ### Making values -/
theorem run_places (tok : TOk P tb) : ∀ (fields : List Field) (_ : ∀ f ∈ fields.map (fun f => (f.offset, f.type)), (tb f.2).isSome = true) (w : World),
    (fields.mapM fun f => do pure (f.offset, ← sizeOf f.type) : Sem (List (Nat × Nat))).run P w = .ok (fields.map fun f => (f.offset, ((tb f.type).map TyE.size).getD 0)) w
  | [], _, w => by simp
  | f :: fs, h, w => by
    have h1 := h (f.offset, f.type) (by simp)
    cases ht : tb f.type with
    | none => simp [ht] at h1
    | some i =>
      have h2 := tok.run_sizeOf ht w
      have ih := run_places tok fs (fun x hx => h x (by simp only [List.map_cons, List.mem_cons]; exact .inr hx)) w
      simp only [List.mapM_cons, Sem.run_bind, h2, Result.andThen_ok, Sem.run_pure, ih, List.map_cons, ht, Option.map_some, Option.getD_some]
theorem placeS_fields (fields : List Field) (h : ∀ f ∈ fields.map (fun f => (f.offset, f.type)), (tb f.2).isSome = true) (i : Nat) :
    (fields.map fun f => (f.offset, ((tb f.type).map TyE.size).getD 0))[i]? = placeS tb (fields.map fun f => (f.offset, f.type)) i := by
  unfold placeS
  rw [List.getElem?_map, List.getElem?_map]
  cases hf : fields[i]? with
  | none => rfl
  | some f =>
    have h1 := h (f.offset, f.type) (by
      refine List.mem_map.2 ⟨f, List.mem_of_getElem? hf, rfl⟩)
    cases ht : tb f.type with
    | none => simp [ht] at h1
    | some i => simp [ht]
theorem fill_of {place : Nat → Option (Nat × Nat)} {cells : Array Value} {parts : List (Nat × Value)} {l : List Value} (h : fillL place cells.toList (parts.map fun p => (p.1, p.2.cells.toList)) = some l) : Instr.fill place cells parts = some l.toArray := by
  rcases fill_run place parts cells with h2 | h2
  · rw [h2, h]
  · rw [h] at h2; cases h2
theorem buildV_sound (tok : TOk P tb) {t : TypeId} {ps : List (Nat × Operand)} {ev : Operand → D} {k : D → Prop} (h : buildV tb t (ps.map fun p => (p.1, ev p.2)) k) :
    ∃ d', k d' ∧ ∀ (hp : Hp) (g : Gh) (w : World) (ρ : Operand → Value), (∀ p ∈ ps, RepD hp g w (ev p.2) (ρ p.2)) → ∃ v, (Instr.build t (ps.map fun p => (p.1, ρ p.2)).toArray).run P w = .ok v w ∧ RepD hp g w d' v := by
  unfold buildV at h
  split at h
  · rename_i i qs ht hq
    split at h
    · rename_i fs hty
      obtain ⟨hsz, h⟩ := h
      split at h
      · rename_i ds hds
        refine ⟨_, h, fun hp g w ρ hρ => ?_⟩
        obtain ⟨fields, hu, hfs⟩ := tok.struct ht hty
        obtain ⟨z, hz, hzc⟩ := tok.run_zero ht w
        obtain ⟨h1, h2⟩ := partsD_rep hρ hq
        have h0 := Cells.lits (hp := hp) (g := g) (w := w) i.zero (tok t i ht).2.2.2
        obtain ⟨vs, h3, h4⟩ := fillL_rel _ hds h0.1 h1
        have h5 := fillL_rel_one h3 h0.2 h2
        subst hfs
        have hpl := run_places tok fields.toList hsz w
        have hfun : (fun x => (fields.toList.map fun f => (f.offset, ((tb f.type).map TyE.size).getD 0)).toArray[x]?) = placeS tb (fields.toList.map fun f => (f.offset, f.type)) := by
          funext n
          rw [← placeS_fields _ hsz n]
          simp
        rw [← hzc] at h3
        have hfill := fill_of (parts := ps.map fun p => (p.1, ρ p.2)) h3
        refine ⟨_, ?_, (Cells.ag ⟨h4, h5⟩)⟩
        rw [← hfun] at hfill
        simp only [Instr.build, Sem.run_bind, hz, Result.andThen_ok, run_underlying hu, Array.mapM_eq_mapM_toList, Sem.run_map, hpl]
        simp only [hfill, Sem.run_pure]
      · cases h
    · rename_i n e hty
      split at h
      · rename_i j he
        split at h
        · rename_i ds hds
          refine ⟨_, h, fun hp g w ρ hρ => ?_⟩
          have hu := tok.arr ht hty
          obtain ⟨z, hz, hzc⟩ := tok.run_zero ht w
          obtain ⟨h1, h2⟩ := partsD_rep hρ hq
          have h0 := Cells.lits (hp := hp) (g := g) (w := w) i.zero (tok t i ht).2.2.2
          obtain ⟨vs, h3, h4⟩ := fillL_rel _ hds h0.1 h1
          have h5 := fillL_rel_one h3 h0.2 h2
          rw [← hzc] at h3
          have hfill := fill_of (parts := ps.map fun p => (p.1, ρ p.2)) h3
          refine ⟨_, ?_, (Cells.ag ⟨h4, h5⟩)⟩
          have hs := tok.run_sizeOf he w
          simp only [Instr.build, Sem.run_bind, hz, Result.andThen_ok, run_underlying hu, hs]
          simp only [hfill, Sem.run_pure]
        · cases h
      · cases h
    · cases h
  · cases h
/-- A new block of cells that nobody writes any more reads as a slice. -/
theorem RepE.new {F : Addr → Prop} {z n : Nat} {xs : List E} (us : List Value) (e : TypeId) (hz : 0 < z) (hl : xs.length = n * z) (hn : n ≤ maxLen) (hF : ∀ p : Addr, p.block = w.heap.size → ¬ F p) (h : Pw (RepE w F) xs us) :
    RepE (w.alloc (.cells us.toArray e)) F (.sl z n xs) (.slice (some ⟨w.heap.size, 0, none⟩) n n) := by
  refine .sl z n xs _ n (fun j => us.getD j undef) hl hz (Nat.le_refl _) hn (fun _ => ⟨_, rfl, by simp⟩) (fun ad ha j x hx => ?_) (fun j x hx => ?_)
  · injection ha with ha
    subst ha
    obtain ⟨u, hu, _⟩ := h.get hx
    refine ⟨?_, hF _ (by rw [block_of_add])⟩
    rw [Addr.add_lit, World.cell?_alloc_at _ _ _ _ rfl]
    simp [List.getD, hu]
  · obtain ⟨u, hu, hr⟩ := h.get hx
    have : us.getD j undef = u := by simp [List.getD, hu]
    rw [this]
    exact hr.mono (by simp) (fun p hp _ => World.cell?_alloc_lt w _ p hp) (fun _ _ h => h)

/-! ### Slices -/
theorem asSl_rep {d : D} {v : Value} {z n : Nat} {xs : List E} (h : RepD hp g w d v) (ha : d.asSl z = some (n, xs)) : ∃ A c, v = .slice A n c ∧ RepE w g.F (.sl z n xs) (.slice A n c) := by
  have gen : ∀ {z' n' : Nat} {xs' : List E} {v : Value}, RepE w g.F (.sl z' n' xs') v → (if z' = z then some (n', xs') else none) = some (n, xs) → ∃ A c, v = .slice A n c ∧ RepE w g.F (.sl z n xs) (.slice A n c) := by
    intro z' n' xs' v h hq
    split at hq
    · rename_i hz
      subst hz
      injection hq with hq
      injection hq with h1 h2
      subst h1; subst h2
      cases h with
      | sl _ _ _ A c us hl hz hnc hcm hA hc hr => exact ⟨A, c, rfl, .sl _ _ _ A c us hl hz hnc hcm hA hc hr⟩
    · cases hq
  cases h with
  | e x v h =>
    cases h with
    | lit u h1 =>
      unfold D.asSl at ha
      split at ha
      · rename_i heq; cases heq
      · rename_i heq; cases heq
      · rename_i heq; cases heq
      · rename_i heq
        injection heq with heq
        injection heq with heq
        subst heq
        split at ha
        · cases ha
        · rename_i hz
          injection ha with ha
          injection ha with h1 h2
          subst h1; subst h2
          exact ⟨none, 0, rfl, .sl z 0 [] none 0 (fun _ => undef) (by simp) (by omega) (Nat.le_refl _) (by decide) (fun h => absurd h (by omega)) (fun _ h => by cases h) (fun _ _ h => by simp at h)⟩
      · cases ha
    | any v h1 => simp [D.asSl] at ha
    | sl z' n' xs' A c us hl hz hnc hcm hA hc hr => exact gen (.sl z' n' xs' A c us hl hz hnc hcm hA hc hr) ha
  | own id z' n' xs' v h hid ht => exact gen h ha
  | fu z' n' xs' A h => exact gen h ha
  | _ => simp [D.asSl] at ha
/-- What a slice's representation says of its cells. -/
theorem RepE.reads {F : Addr → Prop} {z n : Nat} {xs : List E} {A : Option Addr} {c : Nat} (h : RepE w F (.sl z n xs) (.slice A n c)) :
    xs.length = n * z ∧ 0 < z ∧ n ≤ c ∧ c ≤ maxLen ∧ (0 < n → ∃ ad, A = some ad ∧ ad.block < w.heap.size) ∧ ∃ us : List Value, us.length = n * z ∧ (∀ ad, A = some ad → ∀ j u, us[j]? = some u → w.cell? (ad.add j) = some u ∧ ¬ F (ad.add j)) ∧ Pw (RepE w F) xs us := by
  cases h with
  | sl _ _ _ _ _ us hl hz hnc hcm hA hc hr =>
    refine ⟨hl, hz, hnc, hcm, hA, (List.range (n * z)).map us, by simp, fun ad ha j u hu => ?_, ⟨by simp [hl], fun j x y hx hy => ?_⟩⟩
    · have hj : j < n * z := by
        rcases Nat.lt_or_ge j (n * z) with hh | hh
        · exact hh
        · rw [List.getElem?_eq_none (by simpa using hh)] at hu; cases hu
      have : us j = u := by simpa [hj] using hu
      subst this
      exact hc ad ha j _ (List.getElem?_eq_getElem (by omega))
    · have hj : j < n * z := by
        rcases Nat.lt_or_ge j (n * z) with hh | hh
        · exact hh
        · rw [List.getElem?_eq_none (by simpa using hh)] at hy; cases hy
      have : us j = y := by simpa [hj] using hy
      subst this
      exact hr j x hx
theorem RepE.fp {z n : Nat} {xs : List E} {A : Option Addr} {c : Nat} (h : RepE w g.F (.sl z n xs) (.slice A n c)) (hn : 0 < n) : ∃ ad, A = some ad ∧ ∀ off, RepD hp g w (.fp xs off) (.pointer (some (ad.add off))) := by
  obtain ⟨_, _, _, _, hA, us, _, hc, hp⟩ := h.reads
  obtain ⟨ad, rfl, hb⟩ := hA hn
  refine ⟨ad, rfl, fun off => .fp xs off ad hb (fun j x hx => ?_)⟩
  obtain ⟨u, hu, hr⟩ := hp.get hx
  obtain ⟨h1, h2⟩ := hc ad rfl j u hu
  exact ⟨u, h1, h2, hr⟩
/-- A part of a slice. -/
theorem RepE.cut {F : Addr → Prop} {z n : Nat} {xs : List E} {A : Option Addr} {c : Nat} (h : RepE w F (.sl z n xs) (.slice A n c)) (l m c' : Nat) (hle : l + m ≤ n) (hmc : m ≤ c') (hc' : c' ≤ maxLen) (A' : Option Addr) (hA' : 0 < m → A' = A.map (·.add (l * z))) :
    RepE w F (.sl z m ((xs.drop (l * z)).take (m * z))) (.slice A' m c') := by
  obtain ⟨hl, hz, hnc, hcm, hA, us, hul, hc, hp⟩ := h.reads
  have hlm : (l + m) * z ≤ n * z := Nat.mul_le_mul_right _ hle
  rw [Nat.add_mul] at hlm
  refine .sl z m _ A' c' (fun j => us.getD (l * z + j) undef) (by rw [List.length_take, List.length_drop, hl]; omega) hz hmc hc' (fun hm => ?_) (fun ad ha j x hx => ?_) (fun j x hx => ?_)
  · obtain ⟨ad, rfl, hb⟩ := hA (by omega)
    exact ⟨ad.add (l * z), by rw [hA' hm]; rfl, by rw [block_of_add]; exact hb⟩
  · rw [List.getElem?_take] at hx
    split at hx
    · rename_i hj
      rw [List.getElem?_drop] at hx
      have hm : 0 < m := by
        rcases Nat.eq_zero_or_pos m with h0 | h0
        · subst h0; omega
        · exact h0
      obtain ⟨ad0, rfl, _⟩ := hA (by omega)
      rw [hA' hm] at ha
      have : ad0.add (l * z) = ad := by simpa using ha
      subst this
      obtain ⟨u, hu, hr⟩ := hp.get hx
      obtain ⟨h1, h2⟩ := hc ad0 rfl _ u hu
      rw [add_of_add]
      refine ⟨?_, h2⟩
      simp only [List.getD, hu, Option.getD_some]
      exact h1
    · cases hx
  · rw [List.getElem?_take] at hx
    split at hx
    · rw [List.getElem?_drop] at hx
      obtain ⟨u, hu, hr⟩ := hp.get hx
      simpa only [List.getD, hu, Option.getD_some] using hr
    · cases hx
theorem boundV_sound {b : Option Operand} {ev : Operand → D} {dflt : Int} {k : Int → Prop} (h : boundV (b.map ev) dflt k) :
    (b = none ∧ k dflt) ∨ ∃ x i, b = some x ∧ k i ∧ ∀ (hp : Hp) (g : Gh) (w : World) (v : Value), RepD hp g w (ev x) v → ∃ kd, v = .int kd i := by
  cases b with
  | none => exact .inl ⟨rfl, h⟩
  | some x =>
    simp only [Option.map_some, boundV] at h
    split at h
    · rename_i heq; cases heq
    · rename_i kd i heq
      injection heq with heq
      refine .inr ⟨x, i, rfl, h, fun hp g w v hv => ?_⟩
      rw [heq] at hv
      cases hv with
      | e _ _ h => cases h; exact ⟨kd, rfl⟩
    · cases h
theorem RepD.lit {u v : Value} (h : RepD hp g w (.e (.lit u)) v) : v = u := by
  cases h with
  | e _ _ h => cases h; rfl
theorem run_sliceBounds_ok (b : Bool) (len cap : Nat) (lo hi : Option Value) (l h : Nat) (hl : lo = none ∧ l = 0 ∨ ∃ kd, lo = some (.int kd (l : Int))) (hh : hi = none ∧ h = len ∨ ∃ kd, hi = some (.int kd (h : Int))) (h1 : l ≤ h) (h2 : h ≤ cap) :
    (Instr.sliceBounds b len cap lo hi none).run P w = .ok (l, h, cap) w := by
  have n1 : ¬ (l : Int) < 0 := by omega
  rcases hl with ⟨rfl, rfl⟩ | ⟨kd, rfl⟩ <;> rcases hh with ⟨rfl, rfl⟩ | ⟨kd', rfl⟩ <;>
    simp [Instr.sliceBounds, run_sliceBound, h1, h2]
theorem sliceV_sound (tok : TOk P tb) {t : TypeId} {x : Operand} {lo hi mx : Option Operand} {ev : Operand → D} {k : D → Prop} (h : sliceV tb t (ev x) (lo.map ev) (hi.map ev) (mx.map ev) k) :
    ∃ d', k d' ∧ ∀ (hp : Hp) (g : Gh) (w : World) (ρ : Operand → Value), RepD hp g w (ev x) (ρ x) → (∀ y, lo = some y ∨ hi = some y ∨ mx = some y → RepD hp g w (ev y) (ρ y)) →
      ∃ v, (Instr.sliceAt t (ρ x) (lo.map ρ) (hi.map ρ) (mx.map ρ)).run P w = .ok v w ∧ RepD hp g w d' v := by
  unfold sliceV at h
  split at h
  · rename_i ti ht
    split at h
    · rename_i e hty
      have hu := tok.slice ht hty
      split at h
      · rename_i j he
        split at h
        · rename_i n xs ha
          obtain ⟨l, hlo, h⟩ : ∃ l : Int, (lo = none ∧ l = 0 ∨ ∃ y, lo = some y ∧ ∀ (hp : Hp) (g : Gh) (w : World) (v : Value), RepD hp g w (ev y) v → ∃ kd, v = .int kd l) ∧ boundV (hi.map ev) n fun h => (0 ≤ l ∧ l ≤ h ∧ h ≤ (n : Int)) ∧ match mx.map ev with
              | none => k (.e (.sl j.size (h - l).toNat ((xs.drop (l.toNat * j.size)).take ((h - l).toNat * j.size))))
              | some m => boundV (some m) 0 fun m => (hi.map ev).isSome = true ∧ m = h ∧ k (.fu j.size (h - l).toNat ((xs.drop (l.toNat * j.size)).take ((h - l).toNat * j.size))) := by
            rcases boundV_sound h with ⟨h1, h2⟩ | ⟨y, i, h1, h2, h3⟩
            · exact ⟨0, .inl ⟨h1, rfl⟩, h2⟩
            · exact ⟨i, .inr ⟨y, h1, h3⟩, h2⟩
          obtain ⟨hh, hhi, ⟨h0, hlh, hhn⟩, h⟩ : ∃ hh : Int, (hi = none ∧ hh = n ∨ ∃ y, hi = some y ∧ ∀ (hp : Hp) (g : Gh) (w : World) (v : Value), RepD hp g w (ev y) v → ∃ kd, v = .int kd hh) ∧ (0 ≤ l ∧ l ≤ hh ∧ hh ≤ (n : Int)) ∧ match mx.map ev with
              | none => k (.e (.sl j.size (hh - l).toNat ((xs.drop (l.toNat * j.size)).take ((hh - l).toNat * j.size))))
              | some m => boundV (some m) 0 fun m => (hi.map ev).isSome = true ∧ m = hh ∧ k (.fu j.size (hh - l).toNat ((xs.drop (l.toNat * j.size)).take ((hh - l).toNat * j.size))) := by
            rcases boundV_sound h with ⟨h1, h2⟩ | ⟨y, i, h1, h2, h3⟩
            · exact ⟨n, .inl ⟨h1, rfl⟩, h2⟩
            · exact ⟨i, .inr ⟨y, h1, h3⟩, h2⟩
          obtain ⟨L, rfl⟩ : ∃ L : Nat, l = L := ⟨l.toNat, by omega⟩
          obtain ⟨H, rfl⟩ : ∃ H : Nat, hh = H := ⟨hh.toNat, by omega⟩
          have e1 : ((H : Int) - L).toNat = H - L := by omega
          rw [e1, Int.toNat_natCast] at h
          cases mx with
          | none =>
            refine ⟨_, h, fun hp g w ρ hx hy => ?_⟩
            obtain ⟨A, c, hv, hrep⟩ := asSl_rep hx ha
            obtain ⟨_, hz, hnc, hcm, _⟩ := hrep.reads
            have hb := run_sliceBounds_ok (P := P) (w := w) true n c (lo.map ρ) (hi.map ρ) L H (by
              rcases hlo with ⟨rfl, h9⟩ | ⟨y, rfl, h9⟩
              · exact .inl ⟨rfl, by omega⟩
              · obtain ⟨kd, hk⟩ := h9 hp g w _ (hy y (.inl rfl)); exact .inr ⟨kd, by simp [hk]⟩) (by
              rcases hhi with ⟨rfl, h9⟩ | ⟨y, rfl, h9⟩
              · exact .inl ⟨rfl, by omega⟩
              · obtain ⟨kd, hk⟩ := h9 hp g w _ (hy y (.inr (.inl rfl))); exact .inr ⟨kd, by simp [hk]⟩) (by omega) (by omega)
            have hs := tok.run_sizeOf he w
            refine ⟨.slice (if c = L then A else A.map (·.add (L * j.size))) (H - L) (c - L), ?_, .e _ _ (hrep.cut L (H - L) (c - L) (by omega) (by omega) (by omega) _ (fun hm => by rw [if_neg (by omega)]))⟩
            simp [Instr.sliceAt, Instr.slice, run_underlying hu, hv, hb, hs]
          | some m =>
            rcases boundV_sound (b := some m) h with ⟨h1, _⟩ | ⟨y, i, h1, ⟨h2, h2', h3⟩, h4⟩
            · cases h1
            injection h1 with h1
            subst h1; subst h2'
            refine ⟨_, h3, fun hp g w ρ hx hy => ?_⟩
            obtain ⟨A, c, hv, hrep⟩ := asSl_rep hx ha
            have hnc := hrep.reads.2.2.1
            have hcm := hrep.reads.2.2.2.1
            have q1 : L + (H - L) ≤ n := by omega
            have q2 : H - L ≤ maxLen := by omega
            have q3 : 0 < H - L → ¬ H = L := by omega
            obtain ⟨km, hm⟩ := h4 hp g w _ (hy m (.inr (.inr rfl)))
            have hs := tok.run_sizeOf he w
            obtain ⟨y, rfl⟩ : ∃ y, hi = some y := by cases hi with | none => simp at h2 | some y => exact ⟨y, rfl⟩
            obtain ⟨kh, hk⟩ : ∃ kh, ρ y = .int kh (H : Int) := by
              rcases hhi with ⟨h, _⟩ | ⟨y', h, h'⟩
              · cases h
              · injection h with h; subst h
                exact h' hp g w _ (hy y (.inr (.inl rfl)))
            have hHc : H ≤ c := by omega
            have hb : (Instr.sliceBounds true n c (lo.map ρ) (some (.int kh (H : Int))) (some (.int km (H : Int)))).run P w = .ok (L, H, H) w := by
              have hLH : L ≤ H := by omega
              rcases hlo with ⟨rfl, h9⟩ | ⟨y', rfl, h9⟩
              · obtain rfl : L = 0 := by omega
                simp [Instr.sliceBounds, run_sliceBound, hHc]
              · obtain ⟨kd, hk'⟩ := h9 hp g w _ (hy y' (.inl rfl))
                simp [Instr.sliceBounds, run_sliceBound, hHc, hk', hLH]
            have hcut := hrep.cut L (H - L) (H - L) q1 (Nat.le_refl _) q2 (if H = L then A else A.map (·.add (L * j.size))) (fun hm => by rw [if_neg (q3 hm)])
            refine ⟨.slice (if H = L then A else A.map (·.add (L * j.size))) (H - L) (H - L), ?_, .fu _ _ _ _ hcut⟩
            simp [Instr.sliceAt, Instr.slice, run_underlying hu, hv, hb, hs, hk, hm]
        · cases h
      · cases h
    · rename_i hty
      have hu := tok.str ht hty
      split at h
      · rename_i s hx0 hmx
        obtain ⟨l, hlo, h⟩ : ∃ l : Int, (lo = none ∧ l = 0 ∨ ∃ y, lo = some y ∧ ∀ (hp : Hp) (g : Gh) (w : World) (v : Value), RepD hp g w (ev y) v → ∃ kd, v = .int kd l) ∧ boundV (hi.map ev) s.size fun h => (0 ≤ l ∧ l ≤ h ∧ h ≤ (s.size : Int)) ∧ k (.e (.lit (.string (s.extract l.toNat h.toNat)))) := by
          rcases boundV_sound h with ⟨h1, h2⟩ | ⟨y, i, h1, h2, h3⟩
          · exact ⟨0, .inl ⟨h1, rfl⟩, h2⟩
          · exact ⟨i, .inr ⟨y, h1, h3⟩, h2⟩
        obtain ⟨hh, hhi, ⟨h0, hlh, hhn⟩, h⟩ : ∃ hh : Int, (hi = none ∧ hh = s.size ∨ ∃ y, hi = some y ∧ ∀ (hp : Hp) (g : Gh) (w : World) (v : Value), RepD hp g w (ev y) v → ∃ kd, v = .int kd hh) ∧ (0 ≤ l ∧ l ≤ hh ∧ hh ≤ (s.size : Int)) ∧ k (.e (.lit (.string (s.extract l.toNat hh.toNat)))) := by
          rcases boundV_sound h with ⟨h1, h2⟩ | ⟨y, i, h1, h2, h3⟩
          · exact ⟨s.size, .inl ⟨h1, rfl⟩, h2⟩
          · exact ⟨i, .inr ⟨y, h1, h3⟩, h2⟩
        obtain ⟨L, rfl⟩ : ∃ L : Nat, l = L := ⟨l.toNat, by omega⟩
        obtain ⟨H, rfl⟩ : ∃ H : Nat, hh = H := ⟨hh.toNat, by omega⟩
        obtain rfl : mx = none := by cases mx with | none => rfl | some _ => cases hmx
        refine ⟨_, h, fun hp g w ρ hx hy => ?_⟩
        rw [hx0] at hx
        have hv := hx.lit
        have hb := run_sliceBounds_ok (P := P) (w := w) false s.size s.size (lo.map ρ) (hi.map ρ) L H (by
          rcases hlo with ⟨rfl, h9⟩ | ⟨y, rfl, h9⟩
          · exact .inl ⟨rfl, by omega⟩
          · obtain ⟨kd, hk⟩ := h9 hp g w _ (hy y (.inl rfl)); exact .inr ⟨kd, by simp [hk]⟩) (by
          rcases hhi with ⟨rfl, h9⟩ | ⟨y, rfl, h9⟩
          · exact .inl ⟨rfl, by omega⟩
          · obtain ⟨kd, hk⟩ := h9 hp g w _ (hy y (.inr (.inl rfl))); exact .inr ⟨kd, by simp [hk]⟩) (by omega) (by omega)
        refine ⟨.string (s.extract L H), ?_, .e _ _ (.lit _ rfl)⟩
        simp [Instr.sliceAt, Instr.slice, run_underlying hu, hv, hb]
      · cases h
    · cases h
  · cases h
end
end Go.Proofs.Ytakbadleipbngaa
