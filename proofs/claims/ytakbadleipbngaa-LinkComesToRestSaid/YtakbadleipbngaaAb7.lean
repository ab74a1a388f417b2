/-
  The abstract layer: calls; every operation does to memory what it does to data. Conditions: none.
-/
import Derived.Test.YtakbadleipbngaaAb6
set_option linter.all false
namespace Go.Proofs.Ytakbadleipbngaa
open Go.RowKit
section
variable {P : Program} {tb : TypeId → Option TyE} {hp : Hp} {g : Gh} {w : World} {B : Nat}
theorem lenV_sound (tok : TOk P tb) {t : TypeId} {d : D} {k : Int → Prop} (h : lenV tb t d k) : ∃ n, k n ∧ ∀ (hp : Hp) (g : Gh) (w : World) (ty : TypeId) (u : Value), RepD hp g w d u → (Builtin.len_ #[t] ty #[u]).run P w = .ok (.int .i64 n) w := by
  unfold lenV at h
  split at h
  · rename_i ti ht
    split at h
    · rename_i e hty
      have hu := tok.slice ht hty
      split at h
      · rename_i j he
        split at h
        · rename_i n xs ha
          refine ⟨_, h, fun hp g w ty u hr => ?_⟩
          obtain ⟨A, c, rfl, _⟩ := asSl_rep hr ha
          simp [Builtin.len_, run_underlying hu, goInt]
        · split at h
          · refine ⟨_, h, fun hp g w ty u hr => ?_⟩
            cases hr with
            | ow _ _ _ _ c hkk hnc hcm => simp [Builtin.len_, run_underlying hu, goInt]
          · cases h
      · cases h
    · rename_i hty
      have hu := tok.str ht hty
      split at h
      · refine ⟨_, h, fun hp g w ty u hr => ?_⟩
        rw [hr.lit]
        simp [Builtin.len_, run_underlying hu, goInt]
      · cases h
    · rename_i n e hty
      have hu := tok.arr ht hty
      refine ⟨_, h, fun hp g w ty u hr => ?_⟩
      simp [Builtin.len_, run_underlying hu, goInt]
    · cases h
  · cases h
/-- What is appended. -/
inductive News (P : Program) (t t' : TypeId) (F : Addr → Prop) (w : World) (z : Nat) : Option ByteArray → Value → Nat → List E → Prop
  | sl (A : Option Addr) (m c : Nat) (ys : List E) (h : RepE w F (.sl z m ys) (.slice A m c)) (hd : t' = t) : News P t t' F w z none (.slice A m c) m ys
  | str (s : ByteArray) (hu : P.underlying t' = some .string) (hz : z = 1) : News P t t' F w z (some s) (.string s) s.size (s.data.toList.map fun b => .lit (bv b))
theorem strOf_eq {x : D} {s : ByteArray} (h : x.strOf = some s) : x = .e (.lit (.string s)) := by
  unfold D.strOf at h
  split at h
  · injection h with h; rw [h]
  · cases h
theorem newsV_sound (tok : TOk P tb) {t t' : TypeId} {z : Nat} {x : D} {k : Nat → List E → Prop} (h : newsV tb t' z x k) (hx : x.strOf = none → t' = t) :
    ∃ m ys, k m ys ∧ ∀ (hp : Hp) (g : Gh) (w : World) (u : Value), RepD hp g w x u → News P t t' g.F w z x.strOf u m ys := by
  unfold newsV at h
  split at h
  · rename_i i ht
    split at h
    · rename_i s hty hs
      obtain ⟨hz, h⟩ := h
      refine ⟨_, _, h, fun hp g w u hr => ?_⟩
      rw [hs]
      rw [strOf_eq hs] at hr
      rw [hr.lit]
      exact .str s (tok.str ht hty) hz
    · rename_i e hty hs
      split at h
      · rename_i m ys ha
        refine ⟨_, _, h, fun hp g w u hr => ?_⟩
        rw [hs]
        obtain ⟨A, c, rfl, hrep⟩ := asSl_rep hr ha
        exact .sl A m c ys hrep (hx hs)
      · cases h
    · cases h
  · cases h
/-- append does what it says, onto a row of the call's own. -/
theorem append_run (tok : TOk P tb) {t t' e : TypeId} {ti j : TyE} (ht : tb t = some ti) (hty : ti.ty = .slice e) (he : tb e = some j) (hjz : 0 < j.size) {so : Option ByteArray} {u : Value} {m : Nat} {ys : List E} (hn : News P t t' g.F w j.size so u m ys)
    (hstr : so ≠ none → j.bytes = 1 ∧ j.zero = [.int .u8 0] ∧ j.ty.agg = false) (ty : TypeId) (v : Value) (n : Nat) (xs : List Value) (hown : w.ownsRow B e j.size v n xs) (hbytes : (n + m) * max 1 j.bytes ≤ 140737488355328) (hB : B ≤ w.heap.size) :
    ∃ v' w' news, (Builtin.append_ #[t, t'] ty #[v, u]).run P w = .ok v' w' ∧ w'.ownsRow B e j.size v' (n + m) (xs ++ news) ∧ Appd w v m w' v' ∧ Pw (RepE w g.F) ys news ∧ ys.length = m * j.size := by
  have hu := tok.slice ht hty
  obtain ⟨f, z, hi, hfs, hfb, hfz, hzc, hza⟩ := tok.inf he
  have h1 : n + m ≤ 140737488355328 := Nat.le_trans (Nat.le_mul_of_pos_right _ (by omega)) hbytes
  have h2 : (n + m) * j.bytes ≤ 140737488355328 := Nat.le_trans (Nat.mul_le_mul_left _ (Nat.le_max_right _ _)) hbytes
  have h3 : n + m ≤ maxLen := by unfold maxLen; omega
  cases hn with
  | sl A _ c _ hrep hd =>
    subst hd
    obtain ⟨hl, hz, hnc, hcm, hA, us, hul, hc, hp⟩ := hrep.reads
    obtain ⟨v', w', hrun, ho, ha⟩ := run_append_law (P := P) w B t' ty e f z j.size j.bytes hu hi hfz hfs hfb (by rw [← (tok e j he).2.2.1, ← hzc]; simp) hjz v n xs hown A m c us hul (fun hm => by obtain ⟨ad, e, _⟩ := hA hm; exact ⟨ad, e⟩)
      (fun a ha j' u hu => (hc a ha j' u hu).1) (fun u hu => by
        obtain ⟨i, hi⟩ := List.getElem?_of_mem hu
        have hlt : i < ys.length := by
          rw [hp.1]
          rcases Nat.lt_or_ge i us.length with hh | hh
          · exact hh
          · rw [List.getElem?_eq_none hh] at hi; cases hi
        exact (hp.2 i _ u (List.getElem?_eq_getElem hlt) hi).one) h3 h2 hB
    exact ⟨v', w', us, hrun, ho, ha, hp, hl⟩
  | str s hus hz =>
    obtain ⟨hb1, hz1, hag⟩ := hstr (by simp)
    have hz0 : f.zero = some (.int .u8 0) := by
      rw [hfz]
      congr 1
      rw [hz1] at hzc
      rw [hag] at hza
      cases z <;> simp_all [Value.cells, Value.isAggV]
    rw [hz] at hown ⊢
    obtain ⟨v', w', hrun, ho, ha⟩ := run_append_str_law (P := P) w B t t' ty e f hu hus hi hz0 (by rw [hfs, hz]) (by rw [hfb, hb1]) v n xs hown s h3 h1 hB
    have hlen : s.data.toList.length = s.size := by rw [Array.length_toList]; rfl
    refine ⟨v', w', _, hrun, ho, ha, ⟨by simp [Lib.strCells], fun i a b hia hib => ?_⟩, by rw [List.length_map, hlen, Nat.mul_one]⟩
    rw [strCells_bv, List.getElem?_map] at hib
    rw [List.getElem?_map] at hia
    cases hc : s.data.toList[i]? with
    | none => simp [hc] at hia
    | some c =>
      simp only [hc, Option.map_some, Option.some.injEq] at hia hib
      subst hia; subst hib
      exact .lit _ rfl
/-- The contents of a row that has grown. -/
theorem RepE.appended {F' : Addr → Prop} {w' : World} {e : TypeId} {z n m : Nat} {v' : Value} {xs ys : List E} {us news : List Value} (hz : 0 < z) (ho' : w'.ownsRow B e z v' (n + m) (us ++ news)) (hx : Pw (RepE w' F') xs us) (hy : Pw (RepE w' F') ys news)
    (hF : ∀ b j, v'.ownBlock = some b → j < (n + m) * z → ¬ F' ⟨b, j, none⟩) : RepE w' F' (.sl z (n + m) (xs ++ ys)) v' := by
  have hp := hx.append hy
  have hl := ho'.1
  rcases ho'.2 with ⟨rfl, h0⟩ | ⟨b, cap, cur, rfl, _, hh, hnc, hcm, hcs, ht⟩
  · rw [h0] at hl ⊢
    have : xs ++ ys = [] := List.eq_nil_of_length_eq_zero (by rw [hp.1, hl]; simp)
    rw [this]
    exact .sl z 0 [] none 0 (fun _ => undef) (by simp) hz (Nat.le_refl _) (by decide) (fun h => absurd h (by omega)) (fun _ h => by cases h) (fun _ _ h => by simp at h)
  · have hlt : b < w'.heap.size := (Array.getElem?_eq_some_iff.1 hh).1
    refine .sl z (n + m) _ _ cap (fun j => (us ++ news).getD j undef) (by rw [hp.1, hl]) hz hnc hcm (fun _ => ⟨_, rfl, hlt⟩) (fun ad ha j x hxj => ?_) (fun j x hxj => ?_)
    · injection ha with ha
      subst ha
      obtain ⟨u, hu, _⟩ := hp.get hxj
      have hj : j < (n + m) * z := by
        rw [← hl]
        rcases Nat.lt_or_ge j (us ++ news).length with h | h
        · exact h
        · rw [List.getElem?_eq_none h] at hu; cases hu
      rw [Addr.add_lit, Nat.zero_add]
      refine ⟨?_, hF b j rfl hj⟩
      simp only [List.getD, hu, Option.getD_some, World.cell?, hh]
      rw [← ht, List.getElem?_take, if_pos hj] at hu
      simpa using hu
    · obtain ⟨u, hu, hr⟩ := hp.get hxj
      simpa only [List.getD, hu, Option.getD_some] using hr
theorem own_reads {e : TypeId} {z n : Nat} {v : Value} {xs : List E} {us : List Value} {F : Addr → Prop} (ho : w.ownsRow B e z v n us) (h : RepE w F (.sl z n xs) v) : Pw (RepE w F) xs us := by
  rcases ho.2 with ⟨rfl, h0⟩ | ⟨b, cap, cur, rfl, _, hh, hnc, hcm, hcs, ht⟩
  · subst h0
    obtain ⟨hl, _⟩ := h.reads
    have h1 : xs = [] := List.eq_nil_of_length_eq_zero (by simpa using hl)
    have h2 : us = [] := List.eq_nil_of_length_eq_zero (by simpa using ho.1)
    subst h1; subst h2
    exact Pw.nil
  · obtain ⟨hl, hz, _, _, hA, us', hl', hc, hp⟩ := h.reads
    have : us' = us := by
      apply List.ext_getElem?
      intro j
      rcases Nat.lt_or_ge j (n * z) with hj | hj
      · have h1 : us'[j]? = some us'[j] := List.getElem?_eq_getElem (by omega)
        obtain ⟨h2, _⟩ := hc _ rfl j _ h1
        rw [h1, ← ht, List.getElem?_take, if_pos hj]
        rw [Addr.add_lit, Nat.zero_add] at h2
        simp only [World.cell?, hh] at h2
        simpa using h2.symm
      · rw [List.getElem?_eq_none (by omega), List.getElem?_eq_none (by rw [ho.1]; omega)]
    rw [← this]
    exact hp
theorem Appd.below {v v' : Value} {m : Nat} {w' : World} (h : Appd w v m w' v') (hB : B ≤ w.heap.size) (hv : ∀ b, v.ownBlock = some b → B ≤ b) : Below B w w' := by
  cases h with
  | same _ hw _ => rw [hw]; exact Below.refl _ _
  | place b _ hb _ hg _ => exact (Below.refl _ _).grown hg hB (fun k hk => by injection hk with hk; subst hk; exact hv _ hb)
  | fresh _ hg _ => exact (Below.refl _ _).grown hg hB (fun k hk => by cases hk)
theorem Appd.block {v v' : Value} {m : Nat} {w' : World} (h : Appd w v m w' v') : ∀ b, v'.ownBlock = some b → v.ownBlock = some b ∨ w.heap.size ≤ b := by
  intro b hb
  cases h with
  | same _ _ hv => rw [hv] at hb; exact .inl hb
  | place b' _ hv hv' _ _ => rw [hv'] at hb; rw [hv]; exact .inl hb
  | fresh _ _ hv' => rw [hv'] at hb; injection hb with hb; exact .inr (by omega)
theorem tok_free (g : Gh) (id : Nat) (v : Value) (n b j : Nat) (hb : v.ownBlock = some b) (hj : j < n) : ¬ (g.tok id v n).F ⟨b, j, none⟩ := by
  rintro (⟨_, h⟩ | ⟨b', h1, h2, h3⟩)
  · exact h ⟨hb, hj⟩
  · have : n ≤ j := h3
    omega
/-- append onto a full slice, of at least one element: a new row. -/
theorem append_full (tok : TOk P tb) {t t' e : TypeId} {ti j : TyE} (ht : tb t = some ti) (hty : ti.ty = .slice e) (he : tb e = some j) (hjz : 0 < j.size) {so : Option ByteArray} {u : Value} {m : Nat} {ys : List E} (hn : News P t t' g.F w j.size so u m ys)
    (hstr : so ≠ none → j.bytes = 1 ∧ j.zero = [.int .u8 0] ∧ j.ty.agg = false) (ty : TypeId) {A : Option Addr} {n : Nat} {xs : List E} (hrep : RepE w g.F (.sl j.size n xs) (.slice A n n)) (hm : 0 < m) (hbytes : (n + m) * max 1 j.bytes ≤ 140737488355328) (hB : B ≤ w.heap.size) :
    ∃ r w' us news, (Builtin.append_ #[t, t'] ty #[.slice A n n, u]).run P w = .ok r w' ∧ w'.ownsRow B e j.size r (n + m) (us ++ news) ∧ w.grownBy w' none ∧ r.ownBlock = some w.heap.size ∧ Pw (RepE w g.F) xs us ∧ Pw (RepE w g.F) ys news := by
  cases A with
  | none =>
    obtain ⟨hl, _, _, _, hA, _⟩ := hrep.reads
    have h0 : n = 0 := by
      rcases Nat.eq_zero_or_pos n with h | h
      · exact h
      · obtain ⟨_, h1, _⟩ := hA h; cases h1
    subst h0
    have hx : xs = [] := List.eq_nil_of_length_eq_zero (by simpa using hl)
    subst hx
    obtain ⟨r, w', news, hrun, ho, ha, hpw, _⟩ := append_run tok ht hty he hjz hn hstr ty _ _ _ (World.ownsRow_nil w B e j.size) hbytes hB
    cases ha with
    | same h _ _ => omega
    | place b _ hv _ _ _ => cases hv
    | fresh _ hg hv => exact ⟨r, w', [], news, hrun, ho, hg, hv, Pw.nil, hpw⟩
  | some ad =>
    have hu := tok.slice ht hty
    obtain ⟨f, z, hi, hfs, hfb, hfz, hzc, hza⟩ := tok.inf he
    have hzs : z.cells.size = j.size := by rw [← (tok e j he).2.2.1, ← hzc]; simp
    have h1 : n + m ≤ 140737488355328 := Nat.le_trans (Nat.le_mul_of_pos_right _ (by omega)) hbytes
    have h2 : (n + m) * j.bytes ≤ 140737488355328 := Nat.le_trans (Nat.mul_le_mul_left _ (Nat.le_max_right _ _)) hbytes
    have h3 : n + m ≤ maxLen := by unfold maxLen; omega
    obtain ⟨hl, _, _, _, _, us, hul, hc, hpx⟩ := hrep.reads
    have holds : ∀ i u, us[i]? = some u → w.cell? (ad.add i) = some u := fun i u hu => (hc ad rfl i u hu).1
    have grown : ∀ (news : List Value), news.length = m * j.size →
        (w.drew.alloc (.cells (us.toArray ++ news.toArray ++ Builtin.zeroCells z.cells (grownCap w (n + m) n e - (n + m))) e)).ownsRow B e j.size
          (.slice (some ⟨w.heap.size, 0, none⟩) (n + m) (grownCap w (n + m) n e)) (n + m) (us ++ news) ∧
        w.grownBy (w.drew.alloc (.cells (us.toArray ++ news.toArray ++ Builtin.zeroCells z.cells (grownCap w (n + m) n e - (n + m))) e)) none := by
      intro news hnl
      have hge := grownCap_ge w (n + m) n e
      have hcm : grownCap w (n + m) n e ≤ maxLen := grownCap_le_maxLen w (n + m) n e h3
      have hlen : (us ++ news).length = (n + m) * j.size := by rw [List.length_append, hul, hnl, Nat.add_mul]
      refine ⟨⟨hlen, .inr ⟨w.heap.size, _, _, rfl, hB, heap_alloc_new w.drew _, hge, hcm, ?_, ?_⟩⟩, ⟨rfl, rfl, rfl, by simp, fun k hk _ => heap_alloc_old w.drew _ hk⟩⟩
      · simp only [Array.size_append, List.size_toArray, size_zeroCells, hzs, hul, hnl, ← Nat.add_mul]
        congr 1
        omega
      · simp only [Array.toList_append, List.append_assoc]
        rw [← List.append_assoc, ← hlen]
        exact List.take_left
    cases hn with
    | sl A' _ c _ hrep' hd =>
      subst hd
      obtain ⟨hl', hz', hnc', hcm', hA', us', hul', hc', hpy⟩ := hrep'.reads
      obtain ⟨ad', rfl, _⟩ := hA' hm
      have hr := run_append_grow (P := P) w t' ty e f z hu hi hfz ad n n us (by rw [hul, hfs]) holds ad' m c us' (by rw [hul', hfs]) (fun i u hu => (hc' ad' rfl i u hu).1) (by omega) (by omega) (by rw [hfb]; exact growslice_fits (by omega) h2)
      have hgr := grown us' hul'
      exact ⟨_, _, us, us', hr, hgr.1, hgr.2, rfl, hpx, hpy⟩
    | str s hus hz =>
      obtain ⟨hb1, hz1, hag⟩ := hstr (by simp)
      have hz0 : f.zero = some (.int .u8 0) := by
        rw [hfz]
        congr 1
        rw [hz1] at hzc
        rw [hag] at hza
        cases z <;> simp_all [Value.cells, Value.isAggV]
      have hzz : z = .int .u8 0 := by rw [hfz] at hz0; injection hz0
      have hlen : s.data.toList.length = s.size := by rw [Array.length_toList]; rfl
      have hr := Lib.run_append_grow_string (P := P) w t t' ty e f (.int .u8 0) hu hus hi hz0 ad n n us (by rw [hul, hfs]) holds s (by omega) (by omega) (by rw [hfb]; exact growslice_fits (by omega) h2)
      have hgr := grown (Lib.strCells s) (by rw [Lib.strCells_length, hz, Nat.mul_one])
      rw [hzz] at hgr
      refine ⟨_, _, us, Lib.strCells s, hr, hgr.1, hgr.2, rfl, hpx, ⟨by simp [Lib.strCells], fun i a b hia hib => ?_⟩⟩
      rw [strCells_bv, List.getElem?_map] at hib
      rw [List.getElem?_map] at hia
      cases hc : s.data.toList[i]? with
      | none => simp [hc] at hia
      | some c =>
        simp only [hc, Option.map_some, Option.some.injEq] at hia hib
        subst hia; subst hib
        exact .lit _ rfl
/-- What append leaves, for the layer. -/
theorem appendV_sound (tok : TOk P tb) {t t' : TypeId} {s x : D} {k : D → Hp → Prop} (h : appendV tb t t' s x hp k) :
    ∃ d' hp', k d' hp' ∧ ∀ (B : Nat) (g : Gh) (w : World) (ty : TypeId) (u v : Value), HR B hp g w → RepD hp g w s u → RepD hp g w x v →
      ∃ r g' w', (Builtin.append_ #[t, t'] ty #[u, v]).run P w = .ok r w' ∧ HR B hp' g' w' ∧ Mono hp g w hp' g' w' ∧ RepD hp' g' w' d' r ∧ Below B w w' ∧ ∀ p : Addr, p.block < B → g.F p → g'.F p := by
  unfold appendV at h
  split at h
  · rename_i ti ht
    split at h
    · rename_i e hty
      split at h
      · rename_i j he
        obtain ⟨hjz, htt, hstr, h⟩ := h
        obtain ⟨m, ys, h, hnews⟩ := newsV_sound tok h htt
        split at h
        · rename_i id z n xs
          obtain ⟨rfl, hlive, hbytes, hk⟩ := h
          refine ⟨_, _, hk, fun B g w ty u v hr hu hv => ?_⟩
          cases hu with
          | own _ _ _ _ _ hrep hid htok =>
            have huτ := (htok _ _ hlive).2.2 rfl
            obtain ⟨_, us, _, ho, hF⟩ := hr.tok _ _ _ hlive
            subst huτ
            obtain ⟨r, w', news, hrun, ho', ha, hpw, hyl⟩ := append_run tok ht hty he hjz (hnews hp g w v hv) hstr ty _ _ us ho hbytes hr.base
            have hF1 := fun b hb => (hF b hb).1
            have mo := Mono.app (hp := hp) (g := g) hlive ho hF1 ho' ha
            have hr' := hr.app hjz hlive ho hF1 ho' ha
            have hown : ∀ b, (g.τ _).ownBlock = some b → B ≤ b := fun b hb => (ho.lt b hb).1
            refine ⟨r, _, w', hrun, hr', mo, ?_, ha.below hr.base hown, fun p hp1 hp2 => Gh.tok_keep g _ (fun b hb => ?_) p hp1 hp2⟩
            · have hx := (own_reads ho hrep).imp (fun _ _ h => mo.repE h)
              have hy := hpw.imp (fun _ _ h => mo.repE h)
              refine .own _ _ _ _ _ (RepE.appended hjz ho' hx hy (fun b j' hb hj => tok_free g _ r _ b j' hb hj)) hid (fun m' e' hm => ?_)
              rw [show (Hp.app hp _ _ _).live.lookup _ = _ from lookup_cons_eq] at hm
              injection hm with hm
              injection hm with h1 h2
              subst h1; subst h2
              exact ⟨Nat.le_refl _, rfl, fun _ => (if_pos rfl).symm⟩
            · rcases ha.block b hb with h | h
              · exact hown b h
              · exact Nat.le_trans hr.base h
        · obtain ⟨hbytes, hk⟩ := h
          refine ⟨_, _, hk, fun B g w ty u v hr hu hv => ?_⟩
          rw [hu.lit]
          obtain ⟨r, w', news, hrun, ho', ha, hpw, hyl⟩ := append_run tok ht hty he hjz (hnews hp g w v hv) hstr ty _ _ _ (World.ownsRow_nil w B e j.size) (by simpa using hbytes) hr.base
          simp only [Nat.zero_add, List.nil_append] at ho'
          have hsz := ha.size
          have hold : ∀ b, b < w.heap.size → w'.heap[b]? = w.heap[b]? := by
            intro b hb
            cases ha with
            | same _ hw _ => rw [hw]
            | place b' _ hv' _ _ _ => cases hv'
            | fresh _ hg _ => exact hg.block b hb (by simp)
          have hnb : ∀ b, r.ownBlock = some b → w.heap.size ≤ b := fun b hb => by
            rcases ha.block b hb with h | h
            · cases h
            · exact h
          have mo : Mono hp g w (hp.tok m (j.size, e)) (g.tok hp.next r (m * j.size)) w' := Mono.tok hp g hsz hold hnb
          have hr' := hr.newTok (e := (j.size, e)) hjz hsz hold hnb ho'
          refine ⟨r, _, w', hrun, hr', mo, ?_, ha.below hr.base (fun b hb => by cases hb), fun p hp1 hp2 => Gh.tok_keep g _ (fun b hb => Nat.le_trans hr.base (hnb b hb)) p hp1 hp2⟩
          have hy := hpw.imp (fun _ _ h => mo.repE h)
          have happ := RepE.appended (F' := (g.tok hp.next r (m * j.size)).F) (n := 0) (m := m) (xs := []) (us := []) hjz (by simpa using ho') Pw.nil hy (fun b j' hb hj => tok_free g _ r _ b j' hb (by simpa using hj))
          simp only [Nat.zero_add, List.nil_append] at happ
          refine .own _ _ _ _ _ happ (Nat.lt_succ_self _) (fun m' e' hm => ?_)
          rw [show (Hp.tok hp _ _).live.lookup _ = _ from lookup_cons_eq] at hm
          injection hm with hm
          injection hm with h1 h2
          subst h1; subst h2
          exact ⟨Nat.le_refl _, rfl, fun _ => (if_pos rfl).symm⟩
        · rename_i z n xs _
          obtain ⟨hzz, hm, hbytes, hk⟩ := h
          refine ⟨_, _, hk, fun B g w ty u v hr hu hv => ?_⟩
          cases hu with
          | fu _ _ _ A hrep =>
            subst hzz
            obtain ⟨r, w', us, news, hrun, ho', hg, hrb, hpx, hpy⟩ := append_full tok ht hty he hjz (hnews hp g w v hv) hstr ty hrep hm hbytes hr.base
            have hold : ∀ b, b < w.heap.size → w'.heap[b]? = w.heap[b]? := fun b hb => hg.block b hb (by simp)
            have hnb : ∀ b, r.ownBlock = some b → w.heap.size ≤ b := fun b hb => by rw [hrb] at hb; injection hb with hb; omega
            have mo : Mono hp g w (hp.tok (n + m) (j.size, e)) (g.tok hp.next r ((n + m) * j.size)) w' := Mono.tok hp g hg.size hold hnb
            have hr' := hr.newTok (e := (j.size, e)) hjz hg.size hold hnb ho'
            refine ⟨r, _, w', hrun, hr', mo, ?_, (Below.refl _ _).grown hg hr.base (fun k hk => by cases hk), fun p hp1 hp2 => Gh.tok_keep g _ (fun b hb => Nat.le_trans hr.base (hnb b hb)) p hp1 hp2⟩
            have happ := RepE.appended (F' := (g.tok hp.next r ((n + m) * j.size)).F) hjz ho' (hpx.imp fun _ _ h => mo.repE h) (hpy.imp fun _ _ h => mo.repE h) (fun b j' hb hj => tok_free g _ r _ b j' hb hj)
            refine .own _ _ _ _ _ happ (Nat.lt_succ_self _) (fun m' e' hm => ?_)
            rw [show (Hp.tok hp _ _).live.lookup _ = _ from lookup_cons_eq] at hm
            injection hm with hm
            injection hm with h1 h2
            subst h1; subst h2
            exact ⟨Nat.le_refl _, rfl, fun _ => (if_pos rfl).symm⟩
        · cases h
      · cases h
    · cases h
  · cases h
end
end Go.Proofs.Ytakbadleipbngaa
