/-
  The abstract layer: each operation does to memory what it does to data (third part). Conditions: none.
-/
import Derived.Test.YtakbadleipbngaaAb5
import Derived.Laws.Small
import Derived.Laws.BytesArg
set_option linter.all false
namespace Go.Proofs.Ytakbadleipbngaa
open Go.RowKit
section
variable {P : Program} {tb : TypeId → Option TyE} {hp : Hp} {g : Gh} {w : World} {B : Nat}
theorem Pw.of_any (us : List Value) (h : ∀ u ∈ us, u.oneCell' = true) : Cells hp g w (List.replicate us.length (D.e .any)) us := by
  refine ⟨⟨by simp, fun j x y hx hy => ?_⟩, h⟩
  have : x = D.e .any := (List.mem_replicate.1 (List.mem_of_getElem? hx)).2
  subst this
  exact .e _ _ (.any y (h y (List.mem_of_getElem? hy)))
/-- The same, where some cells beyond are not to be looked at. -/
theorem RepE.new' {F' : Addr → Prop} {z n : Nat} {xs : List E} (us : List Value) (e : TypeId) (hz : 0 < z) (hl : xs.length = n * z) (hn : n ≤ maxLen) (hF : ∀ j, j < n * z → ¬ F' ⟨w.heap.size, j, none⟩) (h : Pw (RepE (w.alloc (.cells us.toArray e)) F') xs us) :
    RepE (w.alloc (.cells us.toArray e)) F' (.sl z n xs) (.slice (some ⟨w.heap.size, 0, none⟩) n n) := by
  refine .sl z n xs _ n (fun j => us.getD j undef) hl hz (Nat.le_refl _) hn (fun _ => ⟨_, rfl, by simp⟩) (fun ad ha j x hx => ?_) (fun j x hx => ?_)
  · injection ha with ha
    subst ha
    obtain ⟨u, hu, _⟩ := h.get hx
    rw [Addr.add_lit, Nat.zero_add]
    refine ⟨?_, hF j ?_⟩
    · rw [World.cell?_alloc_at _ _ _ _ rfl]
      simp [List.getD, hu]
    · rw [← hl]
      rcases Nat.lt_or_ge j xs.length with hh | hh
      · exact hh
      · rw [List.getElem?_eq_none hh] at hx; cases hx
  · obtain ⟨u, hu, hr⟩ := h.get hx
    simpa only [List.getD, hu, Option.getD_some] using hr
theorem tok_free' (g : Gh) (id : Nat) (v : Value) (n b j : Nat) (hb : v.ownBlock = some b) (hj : j < n) : ¬ (g.tok id v n).F ⟨b, j, none⟩ := by
  rintro (⟨_, h⟩ | ⟨b', h1, h2, h3⟩)
  · exact h ⟨hb, hj⟩
  · have : n ≤ j := h3
    omega
theorem buildSliceV_sound (tok : TOk P tb) {own : Bool} {t : TypeId} {n : Nat} {ps : List (Nat × Operand)} {ev : Operand → D} {k : D → Hp → Prop} (h : buildSliceV tb own t n (ps.map fun p => (p.1, ev p.2)) hp k) :
    ∃ d' hp', k d' hp' ∧ ∀ (B : Nat) (g : Gh) (w : World) (ρ : Operand → Value), HR B hp g w → (∀ p ∈ ps, RepD hp g w (ev p.2) (ρ p.2)) →
      ∃ v g' w', (Instr.buildSlice t n (ps.map fun p => (p.1, ρ p.2)).toArray).run P w = .ok v w' ∧ HR B hp' g' w' ∧ Mono hp g w hp' g' w' ∧ RepD hp' g' w' d' v ∧ Below B w w' ∧ ∀ p : Addr, p.block < B → g.F p → g'.F p := by
  unfold buildSliceV at h
  split at h
  · rename_i i qs ht hq
    split at h
    · rename_i e hty
      have hu := tok.slice ht hty
      split at h
      · rename_i j he
        obtain ⟨hz, hsm, h⟩ := h
        split at h
        · obtain ⟨rfl, hk⟩ := h
          refine ⟨_, _, hk, fun B g w ρ hr hρ => ?_⟩
          have hps : ps = [] := by
            cases ps with
            | nil => rfl
            | cons p ps =>
              simp only [List.map_cons, partsD] at hq
              split at hq <;> simp at hq
          subst hps
          have ho : (w.alloc (.cells #[] e)).ownsRow B e j.size (.slice (some ⟨w.heap.size, 0, none⟩) 0 0) 0 [] := World.ownsRow_made w #[] 0 hr.base (by decide) (by simp)
          have hv : ∀ b, (Value.slice (some ⟨w.heap.size, 0, none⟩) 0 0).ownBlock = some b → w.heap.size ≤ b := fun b hb => by
            simp [Value.ownBlock] at hb; omega
          have hsz : w.heap.size ≤ (w.alloc (.cells #[] e)).heap.size := by simp
          refine ⟨.slice (some ⟨w.heap.size, 0, none⟩) 0 0, _, w.alloc (.cells #[] e), ?_, hr.newTok (e := (j.size, e)) hz hsz (fun b hb => heap_alloc_old w _ hb) hv ho, Mono.tok hp g hsz (fun b hb => heap_alloc_old w _ hb) hv, ?_, (Below.refl _ _).alloc hr.base _, fun p hp1 hp2 => Gh.tok_keep g _ (fun b hb => Nat.le_trans hr.base (hv b hb)) p hp1 hp2⟩
          · have hs := tok.run_sizeOf he w
            have h00 : ∀ f : Nat → Value, Array.map f (Array.range 0) = #[] := fun f => Array.eq_empty_of_size_eq_zero (by simp)
            simp only [Instr.buildSlice, Sem.run_bind, run_underlying hu, Result.andThen_ok, hs, Nat.zero_mul, List.map_nil, Instr.fill, h00]
            rfl
          · refine .own _ _ _ _ _ (.sl _ 0 [] _ 0 (fun _ => undef) (by simp) hz (Nat.le_refl _) (by decide) (fun h => absurd h (by omega)) (fun _ _ _ _ h => by simp at h) (fun _ _ h => by simp at h)) (Nat.lt_succ_self _) (fun m e' hm => ?_)
            have : some (0, (j.size, e)) = some (m, e') := by rw [← hm]; exact lookup_cons_eq.symm
            injection this with this
            injection this with h1 h2
            subst h1; subst h2
            exact ⟨Nat.le_refl _, rfl, fun _ => (if_pos rfl).symm⟩
        · rename_i hn0
          split at h
          · rename_i ds hds
            split at h
            · rename_i xs hxs
              have main : ∀ (hp : Hp) (g : Gh) (w : World) (ρ : Operand → Value), (∀ p : Addr, g.F p → p.block < w.heap.size) → (∀ p ∈ ps, RepD hp g w (ev p.2) (ρ p.2)) → ∃ vs : List Value, (Instr.buildSlice t n (ps.map fun p => (p.1, ρ p.2)).toArray).run P w = .ok (.slice (some ⟨w.heap.size, 0, none⟩) n n) (w.alloc (.cells vs.toArray e)) ∧
                  Pw (RepE w g.F) xs vs ∧ xs.length = n * j.size ∧ n ≤ maxLen := by
                intro hp g w ρ hfits hρ
                have hnp : 0 < n := by
                  rcases Nat.eq_zero_or_pos n with h0 | h0
                  · exact absurd h0 hn0
                  · exact h0
                obtain ⟨zv, hzv, hzc⟩ := tok.run_zero he w
                obtain ⟨_, _, hzl, hz1⟩ := tok e j he
                have hzb : ∀ u ∈ zv.cells, u.oneCell' = true := fun u hu => (by simpa using hz1 : ∀ u ∈ j.zero, u.oneCell' = true) u (by rw [← hzc]; simpa using hu)
                have hzs : zv.cells.size = j.size := by rw [← hzl, ← hzc]; simp
                obtain ⟨h1, h2⟩ := partsD_rep hρ hq
                obtain ⟨zl, hzl'⟩ : ∃ zl, zl = ((Array.range (n * j.size)).map (zv.cells[· % zv.cells.size]!)).toList := ⟨_, rfl⟩
                have hlen : zl.length = n * j.size := by rw [hzl']; simp
                have hone : ∀ u ∈ zl, u.oneCell' = true := by
                  intro u hu
                  rw [hzl'] at hu
                  simp only [Array.toList_map, List.mem_map] at hu
                  obtain ⟨m, _, rfl⟩ := hu
                  have hlt : m % zv.cells.size < zv.cells.size := Nat.mod_lt _ (by omega)
                  rw [getElem!_pos zv.cells _ hlt]
                  exact hzb _ (Array.getElem_mem _)
                have h0 := Pw.of_any (hp := hp) (g := g) (w := w) zl hone
                rw [hlen] at h0
                obtain ⟨vs, h3, h4⟩ := fillL_rel _ hds h0.1 h1
                have h5 := fillL_rel_one h3 h0.2 h2
                rw [hzl'] at h3
                have hfill := fill_of (parts := ps.map fun p => (p.1, ρ p.2)) h3
                have hpw := cellsE_rep ⟨h4, h5⟩ hxs
                have fl : ∀ {α : Type} {place : Nat → Option (Nat × Nat)} {qs : List (Nat × List α)} {ds ds' : List α}, fillL place ds qs = some ds' → ds'.length = ds.length := by
                  intro α place qs
                  induction qs with
                  | nil => intro ds ds' h; simp only [fillL, Option.some.injEq] at h; rw [h]
                  | cons q qs ih =>
                    obtain ⟨q1, q2⟩ := q
                    intro ds ds' h
                    unfold fillL at h
                    split at h
                    · cases h
                    · split at h
                      · cases h
                      · rw [ih h]
                        simp only [List.length_append, List.length_take, List.length_drop]
                        omega
                have hxl : xs.length = n * j.size := by
                  rw [hpw.1, ← h4.1, fl hds]; simp
                have hsm2 : ¬ n * j.size > 2 ^ 24 := by omega
                have hne : ¬ n * j.size = 0 := by
                  have := Nat.mul_pos hnp hz
                  omega
                have hnm : n ≤ maxLen := by
                  have : n * 1 ≤ n * j.size := Nat.mul_le_mul_left _ hz
                  unfold maxLen; omega
                refine ⟨vs, ?_, hpw, hxl, hnm⟩
                have hs := tok.run_sizeOf he w
                simp only [Instr.buildSlice, Sem.run_bind, run_underlying hu, Result.andThen_ok, hs, if_neg hsm2, if_neg hne, hzv, Sem.run_pure]
                simp only [hfill]
                rfl
              split at h
              · refine ⟨_, _, h, fun B g w ρ hr hρ => ?_⟩
                obtain ⟨vs, hrun, hpw, hxl, hnm⟩ := main hp g w ρ hr.fits hρ
                have hvl : vs.length = n * j.size := by rw [← hpw.1, hxl]
                have hnb : ∀ b, (Value.slice (some ⟨w.heap.size, 0, none⟩) n n).ownBlock = some b → w.heap.size ≤ b := fun b hb => by
                  simp [Value.ownBlock] at hb; omega
                have hsz : w.heap.size ≤ (w.alloc (.cells vs.toArray e)).heap.size := by simp
                have ho : (w.alloc (.cells vs.toArray e)).ownsRow B e j.size (.slice (some ⟨w.heap.size, 0, none⟩) n n) n vs :=
                  ⟨hvl, .inr ⟨w.heap.size, n, vs.toArray, rfl, hr.base, heap_alloc_new w _, Nat.le_refl _, hnm, by simpa using hvl, by simp [← hvl]⟩⟩
                have mo : Mono hp g w (hp.tok n (j.size, e)) (g.tok hp.next (.slice (some ⟨w.heap.size, 0, none⟩) n n) (n * j.size)) (w.alloc (.cells vs.toArray e)) := Mono.tok hp g hsz (fun b hb => heap_alloc_old w _ hb) hnb
                refine ⟨_, _, _, hrun, hr.newTok (e := (j.size, e)) hz hsz (fun b hb => heap_alloc_old w _ hb) hnb ho, mo, ?_, (Below.refl _ _).alloc hr.base _, fun p hp1 hp2 => Gh.tok_keep g _ (fun b hb => Nat.le_trans hr.base (hnb b hb)) p hp1 hp2⟩
                refine .own _ _ _ _ _ (RepE.new' vs e hz hxl hnm (fun i hi => tok_free' g _ _ _ _ _ rfl hi) (hpw.imp fun _ _ h => mo.repE h)) (Nat.lt_succ_self _) (fun m e' hm => ?_)
                rw [show (Hp.tok hp _ _).live.lookup _ = _ from lookup_cons_eq] at hm
                injection hm with hm
                injection hm with h1 h2
                subst h1; subst h2
                exact ⟨Nat.le_refl _, rfl, fun _ => (if_pos rfl).symm⟩
              · refine ⟨_, _, h, fun B g w ρ hr hρ => ?_⟩
                obtain ⟨vs, hrun, hpw, hxl, hnm⟩ := main hp g w ρ hr.fits hρ
                exact ⟨_, g, _, hrun, hr.keep (by simp) (fun b hb => heap_alloc_old w _ hb), Mono.keep hp g (by simp) (fun b hb => heap_alloc_old w _ hb), .fu _ _ _ _ (RepE.new vs e hz hxl hnm (fun p hp hf => by have := hr.fits p hf; omega) hpw), (Below.refl _ _).alloc hr.base _, fun _ _ hp => hp⟩
            · cases h
          · cases h
      · cases h
    · cases h
  · cases h
/-- A slice that is not empty does not hang on the state. -/
theorem buildSliceV_indep {t : TypeId} {n : Nat} {ps : List (Nat × D)} {k : D → Hp → Prop} (hn : n ≠ 0) (h : buildSliceV tb false t n ps hp k) : ∃ d, k d hp ∧ ∀ hp2, buildSliceV tb false t n ps hp2 fun d' h' => d' = d ∧ h' = hp2 := by
  unfold buildSliceV at h ⊢
  split at h
  · split at h
    · split at h
      · obtain ⟨hz, hsm, h⟩ := h
        split at h
        · exact absurd rfl hn
        · split at h
          · split at h
            · dsimp only at h
              exact ⟨_, h, fun hp2 => by simp only [*, and_self]⟩
            · cases h
          · cases h
      · cases h
    · cases h
  · cases h
theorem buildSliceV_vars {own : Bool} {t : TypeId} {n : Nat} {ps : List (Nat × D)} {k : D → Hp → Prop} (h : buildSliceV tb own t n ps hp k) : buildSliceV tb own t n ps hp fun d' h' => k d' h' ∧ h'.vars = hp.vars ∧ hp.next ≤ h'.next := by
  have h3 : ∀ n e, (hp.tok n e).vars = hp.vars := fun _ _ => rfl
  have h4 : ∀ n e, hp.next ≤ (hp.tok n e).next := fun _ _ => Nat.le_succ _
  have h5 := Nat.le_refl hp.next
  unfold buildSliceV at h ⊢
  split at h
  · split at h
    · split at h
      · obtain ⟨hz, hsm, h⟩ := h
        split at h
        · obtain ⟨h1, h2⟩ := h
          simp only [*, and_self]
        · split at h
          · split at h
            · cases own
              · dsimp only at h
                simp only [*, and_self]
              · dsimp only at h
                simp only [*, and_self]
            · cases h
          · cases h
      · cases h
    · cases h
  · cases h
/-! ### Fields and places -/
theorem fieldOff_spec (tok : TOk P tb) {s : TypeId} {f : Nat} {k : Nat → Nat → Bool → Prop} (h : fieldOff tb s f k) :
    ∃ (fields : Array Field) (fd : Field) (j : TyE), P.underlying s = some (.struct fields) ∧ fields[f]? = some fd ∧ tb fd.type = some j ∧ k fd.offset j.size j.ty.agg := by
  unfold fieldOff at h
  split at h
  · rename_i i ht
    split at h
    · rename_i fs hty
      obtain ⟨fields, hu, hfs⟩ := tok.struct ht hty
      split at h
      · rename_i off t hf
        split at h
        · rename_i j hj
          rw [← hfs, List.getElem?_map] at hf
          cases hfd : fields.toList[f]? with
          | none => simp [hfd] at hf
          | some fd =>
            simp only [hfd, Option.map_some, Option.some.injEq, Prod.mk.injEq] at hf
            obtain ⟨h1, h2⟩ := hf
            subst h1; subst h2
            exact ⟨fields, fd, j, hu, by simpa using hfd, hj, h⟩
        · cases h
      · cases h
    · cases h
  · cases h
theorem fieldAddrV_sound (tok : TOk P tb) {s : TypeId} {f : Nat} {d : D} {k : D → Prop} (h : fieldAddrV tb s f d k) :
    ∃ d', k d' ∧ ∀ (hp : Hp) (g : Gh) (w : World) (u : Value), RepD hp g w d u → ∃ v, (Instr.fieldAt s u f).run P w = .ok v w ∧ RepD hp g w d' v := by
  unfold fieldAddrV at h
  obtain ⟨fields, fd, j, hu, hf, hj, hz, h⟩ := fieldOff_spec tok h
  have hrun : ∀ (w : World) (ad : Addr), (Instr.fieldAt s (.pointer (some ad)) f).run P w = .ok (.pointer (some (ad.add fd.offset))) w := by
    intro w ad
    have hs := tok.run_sizeOf hj w
    simp [Instr.fieldAt, run_underlying hu, hf, Instr.sureAddr, fieldPlace, hs, hz]
  split at h
  · rename_i v off
    refine ⟨_, h, fun hp g w u hr => ?_⟩
    cases hr with
    | pt _ _ hk =>
      refine ⟨_, hrun w _, ?_⟩
      rw [Addr.add_lit]
      exact .pt _ _ hk
  · rename_i xs off
    refine ⟨_, h, fun hp g w u hr => ?_⟩
    cases hr with
    | fp _ _ ad hb hc =>
      refine ⟨_, hrun w _, ?_⟩
      rw [add_of_add]
      exact .fp _ _ ad hb hc
  · cases h
theorem run_part_agg (tok : TOk P tb) {t : TypeId} {j : TyE} (hj : tb t = some j) (ha : j.ty.agg = true) (cs : Array Value) (off : Nat) (w : World) : (part t cs off).run P w = .ok (.agg (cs.extract off (off + j.size))) w := by
  have h1 := tok.run_isAgg hj w
  have h2 := tok.run_sizeOf hj w
  rw [ha] at h1
  simp [part, h1, h2]
theorem run_part_one (tok : TOk P tb) {t : TypeId} {j : TyE} (hj : tb t = some j) (ha : j.ty.agg = false) (cs : Array Value) (off : Nat) (v : Value) (hv : cs[off]? = some v) (w : World) : (part t cs off).run P w = .ok v w := by
  have h1 := tok.run_isAgg hj w
  rw [ha] at h1
  simp [part, h1, hv]
theorem agg_cells {ds : List D} {u : Value} (h : RepD hp g w (.ag ds) u) : ∃ cs : Array Value, u = .agg cs ∧ Cells hp g w ds cs.toList := by
  have hc := h.cells (cs := ds) rfl
  cases h with
  | ag _ cs hl h1 hr => exact ⟨cs, rfl, hc⟩
theorem extract_cells {cs : Array Value} (off n : Nat) : (cs.toList.drop off).take n = (cs.extract off (off + n)).toList := by
  rw [Array.toList_extract, List.extract_eq_take_drop, Nat.add_sub_cancel_left]
theorem fieldV_sound (tok : TOk P tb) {s : TypeId} {f : Nat} {d : D} {k : D → Prop} (h : fieldV tb s f d k) :
    ∃ d', k d' ∧ ∀ (hp : Hp) (g : Gh) (w : World) (u : Value), RepD hp g w d u → ∃ v, (Instr.field s u f).run P w = .ok v w ∧ RepD hp g w d' v := by
  unfold fieldV at h
  obtain ⟨fields, fd, j, hu, hf, hj, h⟩ := fieldOff_spec tok h
  split at h
  · rename_i ds
    split at h
    · rename_i ha
      obtain ⟨hle, hk⟩ := h
      refine ⟨_, hk, fun hp g w u hr => ?_⟩
      obtain ⟨cs, rfl, hcs⟩ := agg_cells hr
      refine ⟨_, ?_, ((hcs.drop fd.offset).take j.size).ag⟩
      have h1 := run_part_agg tok hj ha cs fd.offset w
      simp only [Instr.field, Sem.run_bind, run_underlying hu, Result.andThen_ok, hf, asAgg, Sem.run_pure, h1, extract_cells]
    · rename_i ha
      obtain ⟨d', hd', hk⟩ := h
      refine ⟨_, hk, fun hp g w u hr => ?_⟩
      obtain ⟨cs, rfl, hcs⟩ := agg_cells hr
      obtain ⟨y, hy, hrep⟩ := hcs.1.get hd'
      refine ⟨y, ?_, hrep⟩
      have h1 := run_part_one tok hj ha cs fd.offset y (by simpa using hy) w
      simp only [Instr.field, Sem.run_bind, run_underlying hu, Result.andThen_ok, hf, asAgg, Sem.run_pure, h1]
  · cases h
theorem indexAddrV_sound (tok : TOk P tb) {t : TypeId} {d i : D} {k : D → Prop} (h : indexAddrV tb t d i k) :
    ∃ d', k d' ∧ ∀ (hp : Hp) (g : Gh) (w : World) (u v : Value), RepD hp g w d u → RepD hp g w i v → ∃ r, (Instr.indexAt t u v).run P w = .ok r w ∧ RepD hp g w d' r := by
  unfold indexAddrV at h
  split at h
  · rename_i ti kd x ht
    split at h
    · rename_i e hty
      have hu := tok.slice ht hty
      split at h
      · rename_i j he
        split at h
        · rename_i n xs ha
          obtain ⟨⟨h0, h1⟩, hk⟩ := h
          refine ⟨_, hk, fun hp g w u v hr hi => ?_⟩
          obtain rfl := hi.lit
          obtain ⟨A, c, rfl, hrep⟩ := asSl_rep hr ha
          obtain ⟨ad, rfl, hfp⟩ := hrep.fp (hp := hp) (show 0 < n by omega)
          have hs := tok.run_sizeOf he w
          exact ⟨_, by simp [Instr.indexAt, asIntOf, run_underlying hu, hs, h0, h1], hfp _⟩
        · split at h
          · rename_i vv off z n
            obtain ⟨rfl, ⟨h0, h1⟩, hk⟩ := h
            refine ⟨_, hk, fun hp g w u v hr hi => ?_⟩
            obtain rfl := hi.lit
            cases hr with
            | ow _ _ _ _ c hkk hnc hcm =>
              have hs := tok.run_sizeOf he w
              refine ⟨.pointer (some ((⟨_, _, none⟩ : Addr).add (x.toNat * j.size))), ?_, by rw [Addr.add_lit]; exact .pt _ _ hkk⟩
              simp [Instr.indexAt, asIntOf, run_underlying hu, hs, h0, h1]
          · cases h
      · cases h
    · rename_i n e hty
      have hu := tok.arr ht hty
      split at h
      · rename_i j vv off he
        obtain ⟨⟨h0, h1⟩, hk⟩ := h
        refine ⟨_, hk, fun hp g w u v hr hi => ?_⟩
        obtain rfl := hi.lit
        cases hr with
        | pt _ _ hkk =>
          have hs := tok.run_sizeOf he w
          refine ⟨.pointer (some ((⟨_, _, none⟩ : Addr).add (x.toNat * j.size))), ?_, by rw [Addr.add_lit]; exact .pt _ _ hkk⟩
          simp [Instr.indexAt, asIntOf, run_underlying hu, Instr.sureAddr, hs, h0, h1]
      · rename_i j xs off he
        obtain ⟨⟨h0, h1⟩, hk⟩ := h
        refine ⟨_, hk, fun hp g w u v hr hi => ?_⟩
        obtain rfl := hi.lit
        cases hr with
        | fp _ _ ad hb hc =>
          have hs := tok.run_sizeOf he w
          refine ⟨.pointer (some ((ad.add off).add (x.toNat * j.size))), ?_, ?_⟩
          · simp [Instr.indexAt, asIntOf, run_underlying hu, Instr.sureAddr, hs, h0, h1]
          · rw [add_of_add]
            exact .fp _ _ ad hb hc
      · cases h
    · cases h
  · cases h
theorem indexV_sound (tok : TOk P tb) {t : TypeId} {d i : D} {k : D → Prop} (h : indexV tb t d i k) :
    ∃ d', k d' ∧ ∀ (hp : Hp) (g : Gh) (w : World) (u v : Value), RepD hp g w d u → RepD hp g w i v → ∃ r, (Instr.index t u v).run P w = .ok r w ∧ RepD hp g w d' r := by
  unfold indexV at h
  split at h
  · rename_i ti kd x ht
    split at h
    · rename_i s hty
      have hu := tok.str ht hty
      obtain ⟨⟨h0, h1⟩, hk⟩ := h
      refine ⟨_, hk, fun hp g w u v hr hi => ?_⟩
      obtain rfl := hi.lit
      obtain rfl := hr.lit
      refine ⟨.int .u8 ((s.data.toList.getD x.toNat 0).toNat : Int), ?_, .e _ _ (.lit _ rfl)⟩
      have hlt : x.toNat < s.size := by omega
      have hget : s[x.toNat]? = some s[x.toNat] := getElem?_pos s x.toNat hlt
      have hge : s.data.toList.getD x.toNat 0 = s[x.toNat] := by
        have hlt' : x.toNat < s.data.size := hlt
        rw [List.getD, Array.getElem?_toList, Array.getElem?_eq_getElem hlt']
        rfl
      simp only [Instr.index, Sem.run_bind, asIntOf, Sem.run_pure, Result.andThen_ok, run_underlying hu, if_pos h0, hget, hge]
    · rename_i n e ds hty
      have hu := tok.arr ht hty
      split at h
      · rename_i j he
        obtain ⟨⟨h0, h1⟩, h⟩ := h
        have hs := fun w => tok.run_sizeOf he w
        split at h
        · rename_i ha
          obtain ⟨hle, hk⟩ := h
          refine ⟨_, hk, fun hp g w u v hr hi => ?_⟩
          obtain rfl := hi.lit
          obtain ⟨cs, rfl, hcs⟩ := agg_cells hr
          refine ⟨_, ?_, ((hcs.drop (x.toNat * j.size)).take j.size).ag⟩
          have h2 := run_part_agg tok he ha cs (x.toNat * j.size) w
          have hcond : 0 ≤ x ∧ x < (n : Int) := ⟨h0, h1⟩
          simp only [Instr.index, asIntOf, Sem.run_bind, Sem.run_pure, run_underlying hu, Result.andThen_ok, if_pos hcond, hs, h2, extract_cells]
        · rename_i ha
          obtain ⟨d', hd', hk⟩ := h
          refine ⟨_, hk, fun hp g w u v hr hi => ?_⟩
          obtain rfl := hi.lit
          obtain ⟨cs, rfl, hcs⟩ := agg_cells hr
          obtain ⟨y, hy, hrep⟩ := hcs.1.get hd'
          refine ⟨y, ?_, hrep⟩
          have h2 := run_part_one tok he ha cs (x.toNat * j.size) y (by simpa using hy) w
          have hcond : 0 ≤ x ∧ x < (n : Int) := ⟨h0, h1⟩
          simp only [Instr.index, asIntOf, Sem.run_bind, Sem.run_pure, run_underlying hu, Result.andThen_ok, if_pos hcond, hs, h2]
      · cases h
    · cases h
  · cases h

/-! ### Arithmetic -/
theorem str_beq (a b : ByteArray) : (a.toList == b.toList) = decide (a = b) := by
  rw [Bool.eq_iff_iff, beq_iff_eq, decide_eq_true_eq, ByteArray.toList_eq, ByteArray.toList_eq]
  constructor
  · intro h
    cases a; cases b
    congr 1
    exact Array.toList_inj.1 h
  · intro h; rw [h]
theorem binIntV_sound {op : BinOp} {j : IntKind} {a b : Int} {t : TypeId} {k : Value → Prop} (h : binIntV op j a b k) (hs : op ≠ .shl ∧ op ≠ .shr) : ∃ r, k r ∧ r.oneCell' = true ∧ ∀ w, (binOp op t (.int j a) (.int j b)).run P w = .ok r w := by
  unfold binIntV at h
  split at h
  all_goals first
    | (refine ⟨_, h, rfl, fun w => ?_⟩; simp [binOp, Op.intArith, Op.intCmp, Op.intBits]; done)
    | (obtain ⟨hb, h⟩ := h; refine ⟨_, h, rfl, fun w => ?_⟩; simp [binOp, Op.intDiv, hb]; done)
    | (refine ⟨_, h, rfl, fun w => ?_⟩; simp only [binOp, Op.intCmp, ne_eq, not_true_eq_false, if_false, Sem.run_pure]; congr 2; first | rfl | (rw [Bool.eq_iff_iff]; simp; done))
    | (refine ⟨_, h, rfl, fun w => ?_⟩; simp only [binOp, Op.intCmp, ne_eq, not_true_eq_false, if_false, Sem.run_pure]; rfl)
    | (refine ⟨_, h, rfl, fun w => ?_⟩; simp only [binOp, Op.intCmp, ne_eq, not_true_eq_false, if_false, Sem.run_pure, decide_not]; rfl)
    | (cases h; done)
theorem binV_sound {op : BinOp} {t : TypeId} {x y : Operand} {ev : Operand → D} {k : Value → Prop} (h : binV P op t (ev x) (ev y) k) :
    ∃ r, k r ∧ r.oneCell' = true ∧ ∀ (hp : Hp) (g : Gh) (w : World) (ρ : Operand → Value), RepD hp g w (ev x) (ρ x) → RepD hp g w (ev y) (ρ y) → (do eqGuard op t x y (ρ x) (ρ y); binOp op t (ρ x) (ρ y) : Sem Value).run P w = .ok r w := by
  have guard : ∀ (a b : Value) (w : World), (match a, b with | .nilIface, .nilIface => False | .agg _, .agg _ => False | _, _ => True) → (eqGuard op t x y a b).run P w = .ok () w := by
    intro a b w hab
    unfold eqGuard
    cases op <;> first | rfl | (cases a <;> cases b <;> first | rfl | exact hab.elim)
  unfold binV at h
  split at h
  · rename_i j a kd b hx hy
    obtain ⟨h0, h⟩ := h
    refine ⟨_, h, rfl, fun hp g w ρ h1 h2 => ?_⟩
    rw [hx] at h1
    rw [hy] at h2
    rw [Sem.run_bind, h1.lit, h2.lit, guard _ _ _ trivial]
    have : ¬ b < 0 := by omega
    simp [binOp, Op.shift, this]
  · rename_i j a kd b hx hy
    obtain ⟨h0, h⟩ := h
    refine ⟨_, h, rfl, fun hp g w ρ h1 h2 => ?_⟩
    rw [hx] at h1
    rw [hy] at h2
    rw [Sem.run_bind, h1.lit, h2.lit, guard _ _ _ trivial]
    have : ¬ b < 0 := by omega
    simp [binOp, Op.shift, this]
  · rename_i j a j' b hs1 hs2 hx hy
    obtain ⟨rfl, h⟩ := h
    obtain ⟨r, hk, h1, hrun⟩ := binIntV_sound (P := P) (t := t) h (by constructor <;> (intro e; subst e; simp_all))
    refine ⟨r, hk, h1, fun hp g w ρ h1 h2 => ?_⟩
    rw [hx] at h1
    rw [hy] at h2
    rw [Sem.run_bind, h1.lit, h2.lit, guard _ _ _ trivial]
    exact hrun w
  · rename_i a b hx hy
    unfold binStrV at h
    split at h
    · obtain ⟨hl, h⟩ := h
      refine ⟨_, h, rfl, fun hp g w ρ h1 h2 => ?_⟩
      rw [hx] at h1
      rw [hy] at h2
      rw [Sem.run_bind, h1.lit, h2.lit, guard _ _ _ trivial]
      have hm : ¬ ((a.size + b.size : Nat) : Int) > IntKind.i64.max := by
        have : IntKind.i64.max = 9223372036854775807 := by decide
        omega
      simp only [Result.andThen_ok, binOp, Op.stringOp, if_neg hm, Sem.run_pure]
    · refine ⟨_, h, rfl, fun hp g w ρ h1 h2 => ?_⟩
      rw [hx] at h1
      rw [hy] at h2
      rw [Sem.run_bind, h1.lit, h2.lit, guard _ _ _ trivial]
      simp only [Result.andThen_ok, binOp, Op.stringOp, Sem.run_pure, str_beq]
    · refine ⟨_, h, rfl, fun hp g w ρ h1 h2 => ?_⟩
      rw [hx] at h1
      rw [hy] at h2
      rw [Sem.run_bind, h1.lit, h2.lit, guard _ _ _ trivial]
      simp only [Result.andThen_ok, binOp, Op.stringOp, Sem.run_pure, str_beq, decide_not]
    · cases h
  · rename_i a b hx hy
    obtain ⟨hub, h⟩ := h
    unfold binBoolV at h
    split at h
    · refine ⟨_, h, rfl, fun hp g w ρ h1 h2 => ?_⟩
      rw [hx] at h1
      rw [hy] at h2
      rw [Sem.run_bind, h1.lit, h2.lit, guard _ _ _ trivial]
      simp only [Result.andThen_ok]
      exact run_eql_bool w t a b hub
    · refine ⟨_, h, rfl, fun hp g w ρ h1 h2 => ?_⟩
      rw [hx] at h1
      rw [hy] at h2
      rw [Sem.run_bind, h1.lit, h2.lit, guard _ _ _ trivial]
      simp only [Result.andThen_ok]
      exact run_neq_bool w t a b hub
    · cases h
  · rename_i xs ys hx hy
    split at h
    · rename_i us vs h3 h4
      obtain ⟨r, hrun, h1, hk⟩ := h
      refine ⟨r, hk, h1, fun hp g w ρ h5 h6 => ?_⟩
      have lits : ∀ {l : List D} {us : List Value} {v : Value}, litsOf l = some us → RepD hp g w (.ag l) v → v = .agg us.toArray := by
        intro l us v hl hv
        obtain ⟨cs, rfl, hcs⟩ := agg_cells hv
        have : ∀ (l : List D) (us cs : List Value), litsOf l = some us → Pw (RepD hp g w) l cs → cs = us := by
          intro l
          induction l with
          | nil =>
            intro us cs h1 h2
            simp only [litsOf, Option.some.injEq] at h1
            rw [← h1]
            exact List.eq_nil_of_length_eq_zero h2.1.symm
          | cons d l ih =>
            intro us cs h1 h2
            cases cs with
            | nil => have := h2.1; simp at this
            | cons c cs =>
              unfold litsOf at h1
              split at h1
              · rename_i heq; cases heq
              · rename_i v ds heq
                injection heq with e1 e2
                subst e1; subst e2
                cases hl : litsOf l with
                | none => simp [hl] at h1
                | some us' =>
                  simp only [hl, Option.map_some, Option.some.injEq] at h1
                  subst h1
                  have hc := (h2.2 0 _ _ rfl rfl : RepD hp g w (.e (.lit v)) c).lit
                  subst hc
                  rw [ih us' cs hl ⟨by have := h2.1; simpa using this, fun j a b ha hb => h2.2 (j + 1) a b ha hb⟩]
              · cases h1
        have := this l us cs.toList hl hcs.1
        rw [← this]
      rw [hx] at h5
      rw [hy] at h6
      rw [lits h3 h5, lits h4 h6]
      exact hrun w
    · cases h
  · cases h
theorem unV_sound {op : UnOp} {d : D} {k : Value → Prop} (h : unV op d k) : ∃ r, k r ∧ r.oneCell' = true ∧ ∀ (hp : Hp) (g : Gh) (w : World) (u : Value), RepD hp g w d u → (Op.unary op u).run P w = .ok r w := by
  unfold unV at h
  split at h
  · refine ⟨_, h, rfl, fun hp g w u hu => ?_⟩
    rw [hu.lit]
    rfl
  · refine ⟨_, h, rfl, fun hp g w u hu => ?_⟩
    rw [hu.lit]
    rfl
  · cases h
theorem bytesOf_at : ∀ {xs : List E} {bs : List UInt8}, bytesOf xs = some bs → xs.length = bs.length ∧ ∀ (j : Nat) (b : UInt8), bs[j]? = some b → ∃ n : Int, xs[j]? = some (E.lit (.int .u8 n)) ∧ b = UInt8.ofNat n.toNat
  | [], bs, h => by
    simp only [bytesOf, Option.some.injEq] at h
    subst h
    exact ⟨rfl, fun j b h => by simp at h⟩
  | x :: xs, bs, h => by
    unfold bytesOf at h
    split at h
    · rename_i b bs' h1 h2
      injection h with h
      subst h
      obtain ⟨hl, hj⟩ := bytesOf_at h2
      refine ⟨by simp [hl], fun j c hc => ?_⟩
      cases j with
      | zero =>
        simp only [List.getElem?_cons_zero, Option.some.injEq] at hc
        subst hc
        unfold byteOf at h1
        split at h1
        · injection h1 with h1
          exact ⟨_, by simp, h1.symm⟩
        · cases h1
      | succ j => simpa using hj j c (by simpa using hc)
    · cases h
theorem convV_sound (tok : TOk P tb) {s t : TypeId} {d : D} {k : D → Prop} (h : convV tb s t d k) : ∃ r, k r ∧ ∀ (hp : Hp) (g : Gh) (w : World) (u : Value), RepD hp g w d u → ∃ v, (convert s t u).run P w = .ok v w ∧ RepD hp g w r v := by
  unfold convV at h
  split at h
  · rename_i i j hi hj
    obtain ⟨ds, hs, _⟩ := tok.und hi
    split at h
    · rename_i jk _ n hty
      refine ⟨_, h, fun hp g w u hu => ⟨_, ?_, .e _ _ (.lit _ rfl)⟩⟩
      rw [hu.lit]
      simp [convert, run_underlying hs, run_underlying (tok.int hj hty), Conv.intToInt]
    · rename_i str hty
      refine ⟨_, h, fun hp g w u hu => ⟨_, ?_, .e _ _ (.lit _ rfl)⟩⟩
      rw [hu.lit]
      simp [convert, run_underlying hs, run_underlying (tok.str hj hty)]
    · rename_i hty _
      split at h
      · rename_i e hsl
        split at h
        · rename_i l he
          obtain ⟨hl, h⟩ := h
          split at h
          · rename_i n xs ha
            split at h
            · rename_i bs hb
              refine ⟨_, h, fun hp g w u hu => ?_⟩
              obtain ⟨A, c, hv, hrep⟩ := asSl_rep hu ha
              subst hv
              obtain ⟨hlen, hat⟩ := bytesOf_at hb
              refine ⟨_, ?_, .e _ _ (.lit _ rfl)⟩
              rw [run_convert_bytes_string w s t e A n c (tok.slice hi hsl) (tok.int he hl) (tok.str hj hty)]
              cases hrep with
              | sl _ _ _ _ _ us hxl hz hnc hcm hA hc hr =>
                cases A with
                | none =>
                  have hn : n = 0 := by
                    rcases Nat.eq_zero_or_pos n with h0 | h0
                    · exact h0
                    · obtain ⟨ad, e, _⟩ := hA h0
                      cases e
                  subst hn
                  have : bs = [] := List.eq_nil_of_length_eq_zero (by omega)
                  subst this
                  rfl
                | some a =>
                  let ns : List Int := xs.map fun x => match x with
                    | .lit (.int _ n) => n
                    | _ => 0
                  have hnl : ns.length = n := by simp only [ns, List.length_map]; omega
                  have hload : (loadCells a n).run P w = .ok (ns.map (Value.int .u8)).toArray w := by
                    have := run_loadCells_list (P := P) w a (ns.map (Value.int .u8)) (fun j v hj => by
                      simp only [ns, List.map_map, List.getElem?_map, Option.map_eq_some_iff] at hj
                      obtain ⟨x, hx, hv⟩ := hj
                      have hjl : j < bs.length := by
                        rw [← hlen]
                        rcases Nat.lt_or_ge j xs.length with h | h
                        · exact h
                        · rw [List.getElem?_eq_none h] at hx; cases hx
                      obtain ⟨m, hm, _⟩ := hat j _ (List.getElem?_eq_getElem hjl)
                      rw [hx] at hm
                      injection hm with hm
                      subst hm
                      obtain ⟨h1, _⟩ := hc a rfl j _ hx
                      rw [h1]
                      have h2 := hr j _ hx
                      generalize us j = y at h2
                      cases h2
                      rw [← hv]
                      rfl)
                    simpa [hnl] using this
                  rw [run_bytesToString w a n c ns hload, foldl_push_bytes]
                  have : (ns.map fun n => UInt8.ofNat n.toNat) = bs := by
                    apply List.ext_getElem?
                    intro j
                    rcases Nat.lt_or_ge j bs.length with h | h
                    · obtain ⟨m, hm, hb⟩ := hat j _ (List.getElem?_eq_getElem h)
                      rw [List.getElem?_eq_getElem h, hb]
                      simp only [ns, List.map_map, List.getElem?_map, hm, Option.map_some, Function.comp]
                    · rw [List.getElem?_eq_none h, List.getElem?_eq_none (by simp only [ns, List.length_map]; omega)]
                  rw [this]
                  simp [ByteArray.empty, ByteArray.emptyWithCapacity]
                  rfl
            · cases h
          · cases h
        · cases h
      · cases h
    · cases h
  · cases h
end
end Go.Proofs.Ytakbadleipbngaa
