/-
  The abstract layer: structs and arrays compared. Conditions: none.
-/
import Derived.Test.YtakbadleipbngaaAbG
import Derived.Laws.StructEq
set_option linter.all false
namespace Go.Proofs.Ytakbadleipbngaa
open Go.RowKit
/-- The cells of a struct, field by field. -/
def fitFs (tb : TypeId → Option TyE) (f : TypeId → List Value → Prop) : List (Nat × TypeId) → Nat → List Value → Prop
  | [], _, us => us = []
  | (o, t) :: fs, off, us => o = off ∧ match tb t with
    | some j => f t (us.take j.size) ∧ j.size ≤ us.length ∧ fitFs tb f fs (off + j.size) (us.drop j.size)
    | none => False
/-- Cells that fit a type whose values are compared cell by cell. -/
def fitT (tb : TypeId → Option TyE) : Nat → TypeId → List Value → Prop
  | 0, _, _ => False
  | d + 1, t, us => match tb t with
    | some i => match i.ty with
      | .int k => ∃ n, us = [.int k n]
      | .bool => ∃ b, us = [.bool b]
      | .str => ∃ s, us = [.string s]
      | .struct fs => fitFs tb (fitT tb d) fs 0 us
      | .arr n e => match tb e with
        | some j => us.length = n * j.size ∧ ∀ i, i < n → fitT tb d e ((us.drop (i * j.size)).take j.size)
        | none => False
      | _ => False
    | none => False
def namesOk (P : Program) : Nat → TypeId → Bool
  | 0, _ => true
  | d + 1, t => match P.underlying t with
    | some (.struct fs) => !P.stoodInHeld t && fs.toList.all fun f => f.name != "_" && namesOk P d f.type
    | some (.array _ e) => namesOk P d e
    | _ => true
def valT (g : Bool) (us : List Value) : Value := if g then .agg us.toArray else us.getD 0 undef
section
variable {P : Program} {tb : TypeId → Option TyE}
theorem part_valT (tok : TOk P tb) {t : TypeId} {j : TyE} (ht : tb t = some j) (us : List Value) (off : Nat) (w : World) (hl : off + j.size ≤ us.length) (h1 : j.ty.agg = false → j.size = 1) : (part t us.toArray off).run P w = .ok (valT j.ty.agg ((us.drop off).take j.size)) w := by
  unfold valT
  cases hg : j.ty.agg with
  | true =>
    rw [run_part_agg tok ht hg, if_pos rfl]
    congr 2
    apply Array.toList_inj.1
    simp
  | false =>
    have hz := h1 hg
    rw [hz] at hl
    have hlt : off < us.length := by omega
    rw [run_part_one tok ht hg us.toArray off us[off] (by simp [hlt]), if_neg (by simp), hz, List.drop_eq_getElem_cons hlt]
    rfl
theorem fit_len1 {d : Nat} {t : TypeId} {i : TyE} {us : List Value} (ht : tb t = some i) (hg : i.ty.agg = false) (h : fitT tb d t us) : ∃ u, us = [u] := by
  cases d with
  | zero => cases h
  | succ d =>
    unfold fitT at h
    rw [ht] at h
    dsimp only at h
    split at h
    · obtain ⟨n, h⟩ := h; exact ⟨_, h⟩
    · obtain ⟨n, h⟩ := h; exact ⟨_, h⟩
    · obtain ⟨n, h⟩ := h; exact ⟨_, h⟩
    · rename_i he; rw [he] at hg; cases hg
    · rename_i he; rw [he] at hg; cases hg
    · cases h
theorem chunks_eq {α : Type} : ∀ (n z : Nat) (us vs : List α), us.length = n * z → vs.length = n * z → (∀ i, i < n → (us.drop (i * z)).take z = (vs.drop (i * z)).take z) → us = vs
  | 0, z, us, vs, h1, h2, _ => by
    rw [Nat.zero_mul] at h1 h2
    rw [List.eq_nil_of_length_eq_zero h1, List.eq_nil_of_length_eq_zero h2]
  | n + 1, z, us, vs, h1, h2, h => by
    rw [Nat.succ_mul] at h1 h2
    have h0 := h 0 (Nat.succ_pos n)
    simp only [Nat.zero_mul, List.drop_zero] at h0
    have hd := chunks_eq n z (us.drop z) (vs.drop z) (by rw [List.length_drop]; omega) (by rw [List.length_drop]; omega) fun i hi => by
      have := h (i + 1) (by omega)
      rw [List.drop_drop, List.drop_drop, show z + i * z = (i + 1) * z by rw [Nat.succ_mul]; omega]
      exact this
    rw [← List.take_append_drop z us, ← List.take_append_drop z vs, h0, hd]
theorem eqT_run (tok : TOk P tb) : ∀ (d D : Nat) (t : TypeId) (i : TyE) (us vs : List Value) (w : World), d ≤ D → tb t = some i → fitT tb d t us → fitT tb d t vs → namesOk P d t = true →
    ∃ r, (Op.equalIn D t (valT i.ty.agg us) (valT i.ty.agg vs)).run P w = .ok r w ∧ (r = true ↔ us = vs)
  | 0, _, _, _, _, _, _, _, _, h, _, _ => h.elim
  | d + 1, 0, _, _, _, _, _, h, _, _, _, _ => absurd h (by omega)
  | d + 1, D + 1, t, i, us, vs, w, hD, ht, hu, hv, hn => by
    unfold fitT at hu hv
    rw [ht] at hu hv
    dsimp only at hu hv
    cases hty : i.ty with
    | int k =>
      rw [hty] at hu hv
      obtain ⟨a, rfl⟩ := hu
      obtain ⟨b, rfl⟩ := hv
      exact ⟨a == b, run_equalIn_int w D t k k a b (tok.int ht hty), by simp⟩
    | bool =>
      rw [hty] at hu hv
      obtain ⟨a, rfl⟩ := hu
      obtain ⟨b, rfl⟩ := hv
      obtain ⟨dd, hd1, hd2⟩ := tok.und ht
      rw [hty] at hd2
      have hb : P.underlying t = some .bool := by cases dd <;> simp [Ty.of] at hd2; exact hd1
      exact ⟨a == b, run_equalIn_bool' w D t a b hb, by simp⟩
    | str =>
      rw [hty] at hu hv
      obtain ⟨a, rfl⟩ := hu
      obtain ⟨b, rfl⟩ := hv
      exact ⟨_, run_equalIn_string w D t a b (tok.str ht hty), by rw [str_beq]; simp⟩
    | slice e => rw [hty] at hu; cases hu
    | other => rw [hty] at hu; cases hu
    | struct fs =>
      rw [hty] at hu hv
      dsimp only at hu hv
      obtain ⟨fields, hf, hfs⟩ := tok.struct ht hty
      have hfo : P.fieldsOf t = fields := by unfold Program.fieldsOf; rw [hf]
      unfold namesOk at hn
      rw [hf] at hn
      simp only [Bool.and_eq_true, Bool.not_eq_true', List.all_eq_true, bne_iff_ne, ne_eq] at hn
      have key : ∀ (l : List Field) (off : Nat) (us' vs' : List Value), (∀ f ∈ l, f.name ≠ "_" ∧ namesOk P d f.type = true) → off ≤ us.length → off ≤ vs.length → us.drop off = us' → vs.drop off = vs' → fitFs tb (fitT tb d) (l.map fun f => (f.offset, f.type)) off us' → fitFs tb (fitT tb d) (l.map fun f => (f.offset, f.type)) off vs' →
          ∃ r, (Op.eqFields D us.toArray vs.toArray l).run P w = .ok r w ∧ (r = true ↔ us' = vs') := by
        intro l
        induction l with
        | nil =>
          intro off us' vs' _ _ _ _ _ h1 h2
          have e1 : us' = [] := h1
          have e2 : vs' = [] := h2
          subst e1; subst e2
          exact ⟨true, by simp [Op.eqFields], by simp⟩
        | cons f l ih =>
          intro off us' vs' hl ou ov h1 h2 h3 h4
          obtain ⟨hname, hnf⟩ := hl f (List.mem_cons_self ..)
          simp only [List.map_cons, fitFs] at h3 h4
          obtain ⟨ho, h3⟩ := h3
          obtain ⟨_, h4⟩ := h4
          cases hj : tb f.type with
          | none => rw [hj] at h3; cases h3
          | some j =>
            rw [hj] at h3 h4
            obtain ⟨f1, l1, r1⟩ := h3
            obtain ⟨f2, l2, r2⟩ := h4
            have lu : off + j.size ≤ us.length := by rw [← h1, List.length_drop] at l1; omega
            have lv : off + j.size ≤ vs.length := by rw [← h2, List.length_drop] at l2; omega
            have hz : j.ty.agg = false → j.size = 1 := by
              intro hg
              obtain ⟨u, hu⟩ := fit_len1 hj hg f1
              have := congrArg List.length hu
              simp at this
              omega
            obtain ⟨ra, ha1, ha2⟩ := eqT_run tok d D f.type j _ _ w (by omega) hj f1 f2 hnf
            obtain ⟨rb, hb1, hb2⟩ := ih (off + j.size) (us'.drop j.size) (vs'.drop j.size) (fun g hg => hl g (List.mem_cons_of_mem _ hg)) lu lv (by rw [← h1, List.drop_drop]) (by rw [← h2, List.drop_drop]) r1 r2
            have pu := part_valT tok hj us off w lu hz
            have pv := part_valT tok hj vs off w lv hz
            rw [h1] at pu
            rw [h2] at pv
            have happ : us' = vs' ↔ us'.take j.size = vs'.take j.size ∧ us'.drop j.size = vs'.drop j.size :=
              ⟨fun h => by rw [h]; exact ⟨rfl, rfl⟩, fun h => by rw [← List.take_append_drop j.size us', h.1, h.2, List.take_append_drop]⟩
            refine ⟨if ra = true then rb else false, ?_, ?_⟩
            · unfold Op.eqFields
              rw [if_pos hname, ho]
              simp only [Sem.run_bind, pu, pv, ha1, Result.andThen_ok]
              cases ra
              · simp
              · simpa using hb1
            · rw [happ, ← ha2, ← hb2]
              cases ra <;> simp
      obtain ⟨r, hr1, hr2⟩ := key fields.toList 0 us vs (fun f hfm => hn.2 f hfm) (Nat.zero_le _) (Nat.zero_le _) rfl rfl (by rw [hfs]; exact hu) (by rw [hfs]; exact hv)
      refine ⟨r, ?_, hr2⟩
      show (Op.equalIn (D + 1) t (.agg us.toArray) (.agg vs.toArray)).run P w = _
      rw [run_equalIn_struct w D t _ _ (by rw [hfo]; exact hf) hn.1, hfo]
      exact hr1
    | arr n e =>
      rw [hty] at hu hv
      dsimp only at hu hv
      cases hj : tb e with
      | none => rw [hj] at hu; cases hu
      | some j =>
        rw [hj] at hu hv
        obtain ⟨lu, fu⟩ := hu
        obtain ⟨lv, fv⟩ := hv
        have hf := tok.arr ht hty
        unfold namesOk at hn
        rw [hf] at hn
        dsimp only at hn
        have hz : 0 < n → j.ty.agg = false → j.size = 1 := by
          intro h0 hg
          obtain ⟨u, hu⟩ := fit_len1 hj hg (fu 0 h0)
          have := congrArg List.length hu
          have h2 : j.size ≤ us.length := by rw [lu]; exact Nat.le_mul_of_pos_left _ h0
          simp at this
          omega
        have hall : us = vs ↔ ∀ i ∈ List.range' 0 n 1, (us.drop (i * j.size)).take j.size = (vs.drop (i * j.size)).take j.size :=
          ⟨fun h i _ => by rw [h], fun h => chunks_eq n j.size us vs lu lv fun i hi => h i (by simp [List.mem_range'_1, hi])⟩
        have hl : ∀ i ∈ List.range' 0 n 1, i < n := fun i hi => by simpa using (List.mem_range'_1.1 hi).2
        show ∃ r, (Op.equalIn (D + 1) t (.agg us.toArray) (.agg vs.toArray)).run P w = .ok r w ∧ _
        rw [Op.equalIn, hall]
        simp only [Sem.run_bind, run_underlying hf, Result.andThen_ok, tok.run_sizeOf hj, Std.Legacy.Range.forIn_eq_forIn_range', Std.Legacy.Range.size, Nat.sub_zero, Nat.add_sub_cancel, Nat.div_one]
        clear hall
        generalize List.range' 0 n 1 = l at hl ⊢
        induction l with
        | nil => exact ⟨true, by simp, by simp⟩
        | cons i l ih =>
          have hi : i < n := hl i (List.mem_cons_self ..)
          have hm : i * j.size + j.size ≤ n * j.size := by rw [← Nat.succ_mul]; exact Nat.mul_le_mul_right _ hi
          have pu := part_valT tok hj us (i * j.size) w (by omega) (hz (by omega))
          have pv := part_valT tok hj vs (i * j.size) w (by omega) (hz (by omega))
          obtain ⟨ra, ha1, ha2⟩ := eqT_run tok d D e j _ _ w (by omega) hj (fu i hi) (fv i hi) hn
          obtain ⟨rb, hb1, hb2⟩ := ih fun i hi => hl i (List.mem_cons_of_mem _ hi)
          refine ⟨if ra = true then rb else false, ?_, ?_⟩
          · simp only [List.forIn_cons, Sem.run_bind, pu, pv, ha1, Result.andThen_ok]
            cases ra
            · simp
            · simp only [Bool.not_true, Bool.false_eq_true, if_false, Sem.run_pure, Result.andThen_ok, if_true]
              exact hb1
          · rw [List.forall_mem_cons, ← ha2, ← hb2]
            cases ra <;> simp
/-- Two structs or arrays are compared. -/
theorem ag_eql (tok : TOk P tb) {t : TypeId} {i : TyE} {us vs : List Value} {p : Prop} [Decidable p] {k : Value → Prop} (d : Nat) (hd : d ≤ 10000) (ht : tb t = some i) (hg : i.ty.agg = true) (hm : P.eqGuardType P.depth t = false) (hn : namesOk P d t = true) (hu : fitT tb d t us) (hv : fitT tb d t vs) (hp : us = vs ↔ p) (hk : k (.bool (decide p))) :
    ∃ r, (∀ w, (do eqGuard .eql t (.tmp 0) (.tmp 0) (.agg us.toArray) (.agg vs.toArray); binOp .eql t (.agg us.toArray) (.agg vs.toArray) : Sem Value).run P w = .ok r w) ∧ r.oneCell' = true ∧ k r := by
  refine ⟨_, fun w => ?_, rfl, hk⟩
  obtain ⟨r, h1, h2⟩ := eqT_run tok d 10000 t i us vs w hd ht hu hv hn
  rw [hg] at h1
  have h1' : (Op.equalIn 10000 t (.agg us.toArray) (.agg vs.toArray)).run P w = .ok r w := h1
  rw [Sem.run_bind, run_eqGuard_agg w .eql t _ _ _ _ hm]
  simp only [Result.andThen_ok]
  rw [run_eql_struct, h1']
  simp only [Result.andThen_ok]
  congr 2
  rw [Bool.eq_iff_iff, h2, hp]
  simp
theorem ag_neq (tok : TOk P tb) {t : TypeId} {i : TyE} {us vs : List Value} {p : Prop} [Decidable p] {k : Value → Prop} (d : Nat) (hd : d ≤ 10000) (ht : tb t = some i) (hg : i.ty.agg = true) (hm : P.eqGuardType P.depth t = false) (hn : namesOk P d t = true) (hu : fitT tb d t us) (hv : fitT tb d t vs) (hp : us = vs ↔ p) (hk : k (.bool (decide (¬ p)))) :
    ∃ r, (∀ w, (do eqGuard .neq t (.tmp 0) (.tmp 0) (.agg us.toArray) (.agg vs.toArray); binOp .neq t (.agg us.toArray) (.agg vs.toArray) : Sem Value).run P w = .ok r w) ∧ r.oneCell' = true ∧ k r := by
  refine ⟨_, fun w => ?_, rfl, hk⟩
  obtain ⟨r, h1, h2⟩ := eqT_run tok d 10000 t i us vs w hd ht hu hv hn
  rw [hg] at h1
  have h1' : (Op.equalIn 10000 t (.agg us.toArray) (.agg vs.toArray)).run P w = .ok r w := h1
  rw [Sem.run_bind, run_eqGuard_agg w .neq t _ _ _ _ hm]
  simp only [Result.andThen_ok]
  rw [run_neq_struct, h1']
  simp only [Result.andThen_ok]
  congr 2
  rw [Bool.eq_iff_iff, decide_eq_true_iff, ← hp, ← h2]
  cases r <;> simp
theorem binV_agE (tok : TOk P tb) (d : Nat) (hd : d ≤ 10000) {t : TypeId} {i : TyE} {xs ys : List D} {us vs : List Value} {p : Prop} {k : Value → Prop} (ht : tb t = some i) (hg : i.ty.agg = true) (hm : P.eqGuardType P.depth t = false) (hn : namesOk P d t = true) (hx : litsOf xs = some us) (hy : litsOf ys = some vs) (hu : fitT tb d t us) (hv : fitT tb d t vs) (hp : us = vs ↔ p) (_inst : Decidable p) (hk : k (.bool (decide p))) : binV P .eql t (.ag xs) (.ag ys) k := by
  simp only [binV, hx, hy]

  exact ag_eql tok d hd ht hg hm hn hu hv hp hk
theorem binV_agN (tok : TOk P tb) (d : Nat) (hd : d ≤ 10000) {t : TypeId} {i : TyE} {xs ys : List D} {us vs : List Value} {p : Prop} {k : Value → Prop} (ht : tb t = some i) (hg : i.ty.agg = true) (hm : P.eqGuardType P.depth t = false) (hn : namesOk P d t = true) (hx : litsOf xs = some us) (hy : litsOf ys = some vs) (hu : fitT tb d t us) (hv : fitT tb d t vs) (hp : us = vs ↔ p) (_inst : Decidable p) (hk : k (.bool (decide (¬ p)))) : binV P .neq t (.ag xs) (.ag ys) k := by
  simp only [binV, hx, hy]

  exact ag_neq tok d hd ht hg hm hn hu hv hp hk
end
end Go.Proofs.Ytakbadleipbngaa
