/-
  Lemmas, part 1. Conditions: none.
-/
import Derived.Test.YtakbadleipbngaaDoorP0
import Derived.OrdersHeld
import Derived.Laws.StructEq
set_option linter.all false
set_option maxRecDepth 100000
namespace Go.Proofs.YtakbadleipbngaaDoor
open Go.RowKit
section
structure Cx where
  B : Nat
  w0 : World
  F0 : Addr → Prop
  N : Nat
  hp0 : Hp
  g0 : Gh
  df : List Deferred
  ht : TT B w0
def RS (x : Cx) (tm : List (Nat × D)) (hp : Hp) (a : Act) (w : World) : Prop :=
  ∃ g, HR x.B hp g w ∧ (∀ t d, tm.lookup t = some d → RepD hp g w d (a.tmps.getD t undef)) ∧ a.tmps.size = x.N ∧ a.defers = x.df ∧ Below x.B x.w0 w ∧ (∀ p : Addr, p.block < x.B → x.F0 p → g.F p) ∧ Mono x.hp0 x.g0 x.w0 hp g w
section
variable {P : Program} {tb : TypeId → Option TyE} {x : Cx} {tm tm' : List (Nat × D)} {hp hp' : Hp} {a : Act} {w w' : World}
theorem constD_rep (g : Gh) (v : Value) : RepD hp g w (constD v) v := by
  unfold constD
  split
  · rename_i cs
    split
    · rename_i h1
      have := (Cells.lits (hp := hp) (g := g) (w := w) cs.toList h1).ag
      simpa using this
    · exact .top _
  · exact .top _
  · rename_i h1 h2
    refine .e _ _ (.lit v ?_)
    cases v <;> first | rfl | exact absurd rfl (h1 _) | exact absurd rfl (h2 _)
theorem evD_rep {g : Gh} (h : ∀ t d, tm.lookup t = some d → RepD hp g w d (a.tmps.getD t undef)) (o : Operand) : RepD hp g w (evD tm o) (a.eval o) := by
  cases o with
  | tmp t =>
    show RepD hp g w ((tm.lookup t).getD .top) _
    cases hl : tm.lookup t with
    | none => exact .top _
    | some d => exact h t d hl
  | const v => exact constD_rep g v
  | global g' => exact .top _
  | func f => exact .e _ _ (.lit _ rfl)
theorem put_size (a : Act) (dst : Option Tmp) (v : Value) : (a.put dst v).tmps.size = a.tmps.size := by cases dst <;> simp [Act.put]
theorem put_defers (a : Act) (dst : Option Tmp) (v : Value) : (a.put dst v).defers = a.defers := by cases dst <;> rfl
theorem put_same {a : Act} {t : Tmp} {v : Value} (h : t < a.tmps.size) : (a.put (some t) v).tmps.getD t undef = v := by
  simp [Act.put, h]
theorem put_other {a : Act} {dst : Option Tmp} {t : Tmp} {v : Value} (h : dst ≠ some t) : (a.put dst v).tmps.getD t undef = a.tmps.getD t undef := by
  cases dst with
  | none => rfl
  | some s =>
    have : s ≠ t := fun e => h (by rw [e])
    simp [Act.put, Array.getD_eq_getD_getElem?, Array.getElem?_setIfInBounds_ne this]
theorem put_rep {g : Gh} {dst : Option Tmp} {d : D} {v : Value} (h : ∀ t d, tm.lookup t = some d → RepD hp g w d (a.tmps.getD t undef)) (hd : RepD hp g w d v) (hN : ∀ t, dst = some t → t < a.tmps.size) :
    ∀ t d', (putD dst d tm).lookup t = some d' → RepD hp g w d' ((a.put dst v).tmps.getD t undef) := by
  intro t d' hl
  cases dst with
  | none => exact h t d' hl
  | some s =>
    by_cases hst : t = s
    · subst hst
      have : some d = some d' := by rw [← hl]; exact lookup_cons_eq.symm
      injection this with this
      subst this
      rw [put_same (hN t rfl)]
      exact hd
    · rw [put_other (fun e => hst (by injection e with e; exact e.symm))]
      exact h t d' (by rw [← hl]; exact (lookup_cons_ne hst).symm)
def gdV (d : Option D) (want : Bool) (A B : Prop) : Prop :=
  match d with
  | some (.e (.lit (.bool c))) => match c, want with
    | true, true => A
    | false, false => A
    | true, false => B
    | false, true => B
  | _ => False
def aops (P : Program) (tb : TypeId → Option TyE) (dr : Bool) (ops : Array Oper) : List Oper → List (Nat × D) → Hp → (List (Nat × D) → Hp → Prop) → Prop
  | [], tm, hp, K => K tm hp
  | o :: os, tm, hp, K => match o.guard with
    | none => AVC P tb dr o.op o.type (evD tm) hp fun d hp' => aops P tb dr ops os (putD o.dst d tm) hp' K
    | some (j, want) => match (ops[j]?).bind (·.dst) with
      | some t => gdV (tm.lookup t) want (AVC P tb dr o.op o.type (evD tm) hp fun d hp' => aops P tb dr ops os (putD o.dst d tm) hp' K) (aops P tb dr ops os (putD o.dst .top tm) hp K)
      | none => False
def Gd (ops : Array Oper) (o : Oper) (tm : List (Nat × D)) (b : Bool) : Prop :=
  match o.guard with
  | none => b = true
  | some (j, want) => (∃ t c, (ops[j]?).bind (·.dst) = some t ∧ tm.lookup t = some (.e (.lit (.bool c))) ∧ (c == want) = b) ∨ ∃ t, (ops[j]?).bind (·.dst) = some t ∧ tm.lookup t = some (.tu []) ∧ b = false
theorem Gd.wanted {ops : Array Oper} {o : Oper} {b : Bool} {g : Gh} (h : Gd ops o tm b) (hr : ∀ t d, tm.lookup t = some d → RepD hp g w d (a.tmps.getD t undef)) : Region.wanted o (yielded ops a.tmps) = b := by
  unfold Gd at h
  unfold Region.wanted
  split at h
  · rename_i hg
    rw [hg, h]
  · rename_i j want hg
    rw [hg]
    dsimp only
    rcases h with ⟨t, c, h1, h2, h3⟩ | ⟨t, h1, h2, rfl⟩
    rotate_left
    · have hv := hr t _ h2
      have hy : yielded ops a.tmps j = none := by
        unfold yielded
        rw [h1]
        simp only [Option.bind_some]
        cases ht : a.tmps[t]? with
        | none => rfl
        | some u =>
          have hu : a.tmps.getD t undef = u := by simp [Array.getD_eq_getD_getElem?, ht]
          rw [hu] at hv
          cases hv with
          | tu _ cs hl hr => rfl
      rw [hy]; rfl
    have hv := (hr t _ h2).lit
    have hy : yielded ops a.tmps j = some c := by
      unfold yielded
      rw [h1]
      simp only [Option.bind_some]
      cases ht : a.tmps[t]? with
      | none => simp [Array.getD_eq_getD_getElem?, ht, undef] at hv
      | some u =>
        have : u = .bool c := by simpa [Array.getD_eq_getD_getElem?, ht] using hv
        rw [this]
    rw [hy, ← h3]
    rfl
theorem aops_cons {dr : Bool} {ops : Array Oper} {o : Oper} {os : List Oper} {K : List (Nat × D) → Hp → Prop} (tok : TOk P tb) (h : aops P tb dr ops (o :: os) tm hp K) :
    (Gd ops o tm true ∧ ∃ d hp', aops P tb dr ops os (putD o.dst d tm) hp' K ∧ Snd P tb dr o (evD tm) hp d hp') ∨ (Gd ops o tm false ∧ aops P tb dr ops os (putD o.dst .top tm) hp K) := by
  unfold aops at h
  unfold Gd
  split at h
  · exact .inl ⟨rfl, AVC.sound tok h⟩
  · rename_i j want hg
    split at h
    · rename_i t ht
      unfold gdV at h
      split at h
      · rename_i c hc
        split at h
        · exact .inl ⟨.inl ⟨t, _, ht, hc, rfl⟩, AVC.sound tok h⟩
        · exact .inl ⟨.inl ⟨t, _, ht, hc, rfl⟩, AVC.sound tok h⟩
        · exact .inr ⟨.inl ⟨t, _, ht, hc, rfl⟩, h⟩
        · exact .inr ⟨.inl ⟨t, _, ht, hc, rfl⟩, h⟩
      · cases h
    · cases h
def Offs (o : Oper) (ev : Operand → D) (d : D) : Prop := ∀ (hp : Hp) (g : Gh) (w : World) (a : Act), (∀ x ∈ o.op.operands, RepD hp g w (ev x) (a.eval x)) → RepD hp g w d undef
def WkS (tm : List (Nat × D)) (hp : Hp) (tm' : List (Nat × D)) (hp' : Hp) : Prop := ∀ (B : Nat) (g : Gh) (w : World) (ρ : Nat → Value), HR B hp g w → (∀ t d, tm.lookup t = some d → RepD hp g w d (ρ t)) →
  ∃ g', HR B hp' g' w ∧ Mono hp g w hp' g' w ∧ (∀ t d, tm'.lookup t = some d → RepD hp' g' w d (ρ t)) ∧ ∀ p : Addr, p.block < B → g.F p → g'.F p
theorem WkS.rs (h : WkS tm hp tm' hp') (hr : RS x tm hp a w) : RS x tm' hp' a w := by
  obtain ⟨g, hr, htm, hsz, hdf, hB, hF, hM⟩ := hr
  obtain ⟨g', h1, h2, h3, h4⟩ := h x.B g w (fun t => a.tmps.getD t undef) hr htm
  exact ⟨g', h1, h3, hsz, hdf, hB, fun p hp hq => h4 p hp (hF p hp hq), hM.trans h2⟩
inductive SOps (P : Program) (tb : TypeId → Option TyE) (md : Md) (ops : Array Oper) (K : List (Nat × D) → Hp → Prop) : List Oper → List (Nat × D) → Hp → Prop
  | nil {tm : List (Nat × D)} {hp : Hp} (h : K tm hp) : SOps P tb md ops K [] tm hp
  | on {o : Oper} {os : List Oper} {tm : List (Nat × D)} {hp : Hp} (d : D) (hp' : Hp) (hg : Gd ops o tm true) (hs : SndQ P tb md o (evD tm) hp d hp') (h : SOps P tb md ops K os (putD o.dst d tm) hp') : SOps P tb md ops K (o :: os) tm hp
  | off {o : Oper} {os : List Oper} {tm : List (Nat × D)} {hp : Hp} (d : D) (hg : Gd ops o tm false) (hs : Offs o (evD tm) d) (h : SOps P tb md ops K os (putD o.dst d tm) hp) : SOps P tb md ops K (o :: os) tm hp
  | sq (hmd : md = .seq) {o : Oper} {os : List Oper} {tm : List (Nat × D)} {hp : Hp} (d : D) (hp' : Hp) (hg : Gd ops o tm true) (hs : OpOk P o (evD tm) hp d hp') (h : SOps P tb md ops K os (putD o.dst d tm) hp') : SOps P tb md ops K (o :: os) tm hp
  | wk (hmd : md = .seq) {os : List Oper} {tm tm' : List (Nat × D)} {hp hp' : Hp} (hw : WkS tm hp tm' hp') (h : SOps P tb md ops K os tm' hp') : SOps P tb md ops K os tm hp
theorem SOps.of_aops {md : Md} (hn : ∀ op, md.nc tb op = true) {ops : Array Oper} {K : List (Nat × D) → Hp → Prop} (tok : TOk P tb) : ∀ {os : List Oper} {tm : List (Nat × D)} {hp : Hp}, aops P tb md.dr ops os tm hp K → SOps P tb md ops K os tm hp
  | [], _, _, h => .nil h
  | _ :: _, _, _, h => by
    rcases aops_cons tok h with ⟨hg, d, hp', h1, h2⟩ | ⟨hg, h1⟩
    · exact .on d hp' hg (h2.q (hn _)) (SOps.of_aops hn tok h1)
    · exact .off .top hg (fun _ _ _ _ _ => .top _) (SOps.of_aops hn tok h1)
theorem nc_seq (op : Op) : Md.seq.nc tb op = true := rfl
theorem nc_any (op : Op) : (Md.any []).nc tb op = true := by
  show (!inL [] op) = true
  cases op with
  | call c => obtain ⟨callee, az, ts⟩ := c; cases callee with
    | value x => cases x <;> simp [inL]
    | _ => rfl
  | _ => rfl
def dstOK (N : Nat) (ops : Array Oper) : Bool := ops.all fun o => match o.dst with
  | some t => decide (t < N)
  | none => true
theorem dstOK_spec {N : Nat} {ops : Array Oper} (h : dstOK N ops = true) {i : Nat} {o : Oper} (hi : ops[i]? = some o) {t : Tmp} (ht : o.dst = some t) : t < N := by
  unfold dstOK at h
  rw [Array.all_eq_true'] at h
  have := h o (Array.mem_of_getElem? hi)
  rw [ht] at this
  simpa using this
theorem RS.op {o : Oper} {d : D} {Kn : Act → World → Prop} {Q : Exit → Act → World → Prop} (h : RS x tm hp a w) (hs : OpOk P o (evD tm) hp d hp') (hN : ∀ t, o.dst = some t → t < x.N)
    (hk : ∀ a' w', RS x (putD o.dst d tm) hp' a' w' → Kn a' w') : o.wp P a w Kn Q := by
  obtain ⟨g, hr, htm, hsz, hdf, hB, hF, hM⟩ := h
  refine hs x.B g w a Kn Q (x.ht.below hB) hr (fun y _ => evD_rep htm y) (fun v g' w' hr' mo hd hb hF' => hk _ _ ⟨g', hr', put_rep (fun t d ht => (htm t d ht).mono mo) hd (fun t ht => by rw [hsz]; exact hN t ht), by rw [put_size, hsz], by rw [put_defers, hdf], hB.trans hb, fun p h1 h2 => hF' p h1 (hF p h1 h2), hM.trans mo⟩)
theorem RS.skip {o : Oper} {d : D} (h : RS x tm hp a w) (hs : Offs o (evD tm) d) (hN : ∀ t, o.dst = some t → t < x.N) : RS x (putD o.dst d tm) hp (a.put o.dst undef) w := by
  obtain ⟨g, hr, htm, hsz, hdf, hB, hF, hM⟩ := h
  exact ⟨g, hr, put_rep htm (hs hp g w a fun y _ => evD_rep htm y) (fun t ht => by rw [hsz]; exact hN t ht), by rw [put_size, hsz], by rw [put_defers, hdf], hB, hF, hM⟩
theorem wpOps_of {ops : Array Oper} {K : List (Nat × D) → Hp → Prop} {Q : Exit → Act → World → Prop} (hN : dstOK x.N ops = true) (hk : ∀ tm hp a w, K tm hp → RS x tm hp a w → Q .normal a w)
    (rest : List Oper) (i : Nat) (tm : List (Nat × D)) (hp : Hp) (a : Act) (w : World) (hd : ops.toList.drop i = rest) (h : SOps P tb .seq ops K rest tm hp) (hr : RS x tm hp a w) : wpOps P ops Q (List.range' i rest.length) a w := by
  have step : ∀ {o : Oper} {os : List Oper} {i : Nat}, ops.toList.drop i = o :: os → ops[i]? = some o ∧ ops.toList.drop (i + 1) = os := by
    intro o os i hd
    refine ⟨?_, by rw [← List.drop_drop, hd]; rfl⟩
    have : (ops.toList.drop i)[0]? = some o := by rw [hd]; rfl
    rw [List.getElem?_drop] at this
    simpa using this
  induction h generalizing i a w with
  | nil h => exact hk _ _ _ _ h hr
  | on d hp' hg h2 h1 ih =>
    obtain ⟨ho, hd'⟩ := step hd
    have hno := fun t ht => dstOK_spec hN ho (t := t) ht
    simp only [List.length_cons, List.range'_succ]
    rw [wpOps_cons]
    unfold wpOp
    rw [ho]
    dsimp only
    obtain ⟨g, _, htm, _⟩ := id hr
    rw [hg.wanted htm, if_pos rfl]
    exact .inl (hr.op h2.ok hno fun a' w' hr' => ih (i + 1) a' w' hd' hr')
  | off d hg hs h1 ih =>
    obtain ⟨ho, hd'⟩ := step hd
    have hno := fun t ht => dstOK_spec hN ho (t := t) ht
    simp only [List.length_cons, List.range'_succ]
    rw [wpOps_cons]
    unfold wpOp
    rw [ho]
    dsimp only
    obtain ⟨g, _, htm, _⟩ := id hr
    rw [hg.wanted htm, if_neg (by simp)]
    exact ih (i + 1) _ _ hd' (hr.skip hs hno)
  | sq _ d hp' hg h2 h1 ih =>
    obtain ⟨ho, hd'⟩ := step hd
    have hno := fun t ht => dstOK_spec hN ho (t := t) ht
    simp only [List.length_cons, List.range'_succ]
    rw [wpOps_cons]
    unfold wpOp
    rw [ho]
    dsimp only
    obtain ⟨g, _, htm, _⟩ := id hr
    rw [hg.wanted htm, if_pos rfl]
    exact .inl (hr.op h2 hno fun a' w' hr' => ih (i + 1) a' w' hd' hr')
  | wk _ hw h ih => exact ih i a w hd (hw.rs hr)
def AW (P : Program) (x : Cx) (c : Code) (tm : List (Nat × D)) (hp : Hp) (Q : Exit → List (Nat × D) → Hp → Prop) : Prop :=
  ∀ a w, RS x tm hp a w → c.wp P (fun ex a' w' => ∃ tm' hp', RS x tm' hp' a' w' ∧ Q ex tm' hp') a w
variable {Q : Exit → List (Nat × D) → Hp → Prop}
theorem AW.mono {c : Code} {Q' : Exit → List (Nat × D) → Hp → Prop} (h : AW P x c tm hp Q) (hq : ∀ ex tm hp, Q ex tm hp → Q' ex tm hp) : AW P x c tm hp Q' :=
  fun a w hr => wp_mono (h a w hr) fun ex _ _ ⟨tm', hp', h1, h2⟩ => ⟨tm', hp', h1, hq ex _ _ h2⟩
theorem AW.regionS {id : Nat} {ops : Array Oper} (hN : dstOK x.N ops = true) (h : ∀ K : List (Nat × D) → Hp → Prop, (∀ tm hp, Q .normal tm hp → K tm hp) → SOps P tb .seq ops K ops.toList tm hp) : AW P x (.region id ops false) tm hp Q := by
  intro a w hr
  refine wp_region ?_
  have := wpOps_of (Q := fun ex a' w' => ∃ tm' hp', RS x tm' hp' a' w' ∧ Q ex tm' hp') hN (fun tm hp a w hk hr => ⟨tm, hp, hr, hk⟩) ops.toList 0 tm hp a w rfl (h _ fun _ _ h => h) hr
  rwa [Array.length_toList, ← List.range_eq_range'] at this
theorem AW.region (tok : TOk P tb) {id : Nat} {ops : Array Oper} (hN : dstOK x.N ops = true) (h : ∀ K : List (Nat × D) → Hp → Prop, (∀ tm hp, Q .normal tm hp → K tm hp) → aops P tb false ops ops.toList tm hp K) : AW P x (.region id ops false) tm hp Q :=
  AW.regionS hN fun K hK => SOps.of_aops nc_seq tok (h K hK)
theorem AW.seq {c c' : Code} (h : AW P x c tm hp fun ex tm' hp' => match ex with | .normal => AW P x c' tm' hp' Q | ex => Q ex tm' hp') : AW P x (.seq c c') tm hp Q := by
  intro a w hr
  refine wp_seq (wp_mono (h a w hr) ?_)
  rintro ex a' w' ⟨tm', hp', h1, h2⟩
  cases ex with
  | normal => exact h2 a' w' h1
  | _ => exact ⟨tm', hp', h1, h2⟩
theorem AW.cond {c : Operand} {c1 c2 : Code} {b : Bool} (hc : evD tm c = .e (.lit (.bool b))) (h : AW P x (match b with | true => c1 | false => c2) tm hp Q) : AW P x (.cond c c1 c2) tm hp Q := by
  intro a w hr
  obtain ⟨g, _, htm, _⟩ := id hr
  have hv := evD_rep htm c
  rw [hc] at hv
  refine wp_cond (t := b) hv.lit ?_
  have := h a w hr
  cases b <;> exact this
theorem AW.block {id : Nat} {c : Code} (h : AW P x c tm hp fun ex tm' hp' => match ex with | .exit id' => (if id' = id then Q .normal tm' hp' else Q (.exit id') tm' hp') | ex => Q ex tm' hp') : AW P x (.block id c) tm hp Q := by
  intro a w hr
  refine wp_block (wp_mono (h a w hr) ?_)
  rintro ex a' w' ⟨tm', hp', h1, h2⟩
  cases ex with
  | exit id' =>
    unfold Exit.inBlock
    dsimp only at h2 ⊢
    split
    · rename_i he
      rw [if_pos he] at h2
      exact ⟨tm', hp', h1, h2⟩
    · rename_i he
      rw [if_neg he] at h2
      exact ⟨tm', hp', h1, h2⟩
  | _ => exact ⟨tm', hp', h1, h2⟩
theorem AW.exit {id : Nat} (h : Q (.exit id) tm hp) : AW P x (.exit id) tm hp Q := fun _ _ hr => wp_exit ⟨tm, hp, hr, h⟩
theorem AW.ret (h : Q .ret tm hp) : AW P x .ret tm hp Q := fun _ _ hr => wp_ret ⟨tm, hp, hr, h⟩
theorem AW.skip (h : Q .normal tm hp) : AW P x .skip tm hp Q := fun _ _ hr => wp_skip ⟨tm, hp, hr, h⟩
theorem wp_loop_ghost {Q : Exit → Act → World → Prop} {c : Code} (I : Nat → Act → World → Prop) {n : Nat} (h₀ : I n a w)
    (round : ∀ n a w, I n a w → c.wp P (Exit.then (fun a' w' => ∃ m, m < n ∧ I m a' w') Q) a w) : (Code.loop c).wp P Q a w := by
  intro b k cs
  have key : ∀ n a w, I n a w → ∃ e a' w', Q e a' w' ∧ Arrives P (lone (b.at a (.code c :: .inLoop c :: k)) cs w) b k cs e a' w' := by
    intro n
    induction n using Nat.strongRecOn with
    | _ n ih =>
      intro a w hI
      obtain ⟨e, a₁, w₁, hq, harr⟩ := round n a w hI b (.inLoop c :: k) cs
      cases e with
      | normal =>
        obtain ⟨m, hlt, hI₁⟩ := hq
        obtain ⟨e₂, a₂, w₂, hq₂, harr₂⟩ := ih m hlt a₁ w₁ hI₁
        exact ⟨e₂, a₂, w₂, hq₂, .of_steps (Steps.trans harr (.one step_inLoop)) harr₂⟩
      | exit id => exact ⟨_, a₁, w₁, hq, .pass (x := .inLoop c) rfl (fun _ _ => .inl (by simp)) harr⟩
      | goto l => exact ⟨_, a₁, w₁, hq, .pass (x := .inLoop c) rfl (fun _ _ => .inl (by simp)) harr⟩
      | ret => exact ⟨_, a₁, w₁, hq, .pass (x := .inLoop c) rfl (fun _ _ => .inl (by simp)) harr⟩
      | panic ch => exact ⟨_, a₁, w₁, hq, .pass (x := .inLoop c) rfl (fun _ _ => .inl (by simp)) harr⟩
      | outgrown => exact ⟨_, a₁, w₁, hq, .pass (x := .inLoop c) rfl (fun _ _ => .inl (by simp)) harr⟩
  obtain ⟨e, a', w', hq, harr⟩ := key n a w h₀
  exact ⟨e, a', w', hq, .of_steps (.one step_loop) harr⟩
def Wk (x : Cx) (tm : List (Nat × D)) (hp : Hp) (tm' : List (Nat × D)) (hp' : Hp) : Prop := ∀ a w, RS x tm hp a w → RS x tm' hp' a w
theorem AW.weak {c : Code} (hw : Wk x tm hp tm' hp') (h : AW P x c tm' hp' Q) : AW P x c tm hp Q := fun a w hr => h a w (hw a w hr)
theorem AW.loop {c : Code} (I : Nat → List (Nat × D) → Hp → Prop) {n : Nat} {tm0 : List (Nat × D)} {hp0 : Hp} (hw : Wk x tm hp tm0 hp0) (h0 : I n tm0 hp0)
    (round : ∀ n tm hp, I n tm hp → AW P x c tm hp fun ex tm' hp' => match ex with | .normal => ∃ m tm2 hp2, m < n ∧ Wk x tm' hp' tm2 hp2 ∧ I m tm2 hp2 | ex => Q ex tm' hp') : AW P x (.loop c) tm hp Q := by
  intro a w hr
  refine wp_loop_ghost (fun n a w => ∃ tm hp, RS x tm hp a w ∧ I n tm hp) (n := n) ⟨tm0, hp0, hw a w hr, h0⟩ (fun n a w ⟨tm, hp, hr, hI⟩ => wp_mono (round n tm hp hI a w hr) ?_)
  rintro ex a' w' ⟨tm', hp', h1, h2⟩
  cases ex with
  | normal =>
    obtain ⟨m, tm2, hp2, hlt, hwk, hI2⟩ := h2
    exact ⟨m, hlt, tm2, hp2, hwk a' w' h1, hI2⟩
  | _ => exact ⟨tm', hp', h1, h2⟩
def D.idsB (m : Nat) : D → Bool
  | .ag ds => ds.all (D.idsC m)
  | .tu ds => ds.all (D.idsC m)
  | d => d.idsC m
theorem idsC_rep {m : Nat} {hp2 : Hp} {g : Gh} {d : D} {v : Value} (h : RepD hp g w d v) (hd : d.idsC m = true) (hm : hp2.next = m) (hl : ∀ id y, hp2.live.lookup id = some y → hp.live.lookup id = some y) : RepD hp2 g w d v := by
  subst hm
  cases h with
  | e y v h => exact .e y v h
  | own id z n xs v h hid ht => exact .own id z n xs v h (by simpa [D.idsC] using hd) (fun m e h => ht m e (hl _ _ h))
  | fu z n xs A h => exact .fu z n xs A h
  | ag ds cs hl h1 hr => cases hd
  | tu ds cs hl hr => cases hd
  | fp xs off ad hb hc => exact .fp xs off ad hb hc
  | pt k off hk => exact .pt k off (by simpa [D.idsC] using hd)
  | ow k off z n c hk h1 h2 => exact .ow k off z n c (by simpa [D.idsC] using hd) h1 h2
  | gw k z n c hk h1 h2 hs => exact .gw k z n c (by simpa [D.idsC] using hd) h1 h2 hs
  | fn f ks hk => exact .fn f ks (by simpa [D.idsC] using hd)
  | opt b d v hi h =>
    refine .opt b d v hd fun hb => ?_
    cases d with
    | ag ds =>
      have hall : ∀ d ∈ ds, D.isE d = true := by
        have : ds.all D.isE = true := hd
        simpa only [List.all_eq_true] using this
      have h' := h hb
      cases h' with
      | ag _ cs hlen h1 hr =>
        refine .ag _ cs hlen h1 fun j d u h2 h3 => ?_
        have h4 := hr j d u h2 h3
        have h5 := hall d (List.mem_of_getElem? h2)
        cases d with
        | e y =>
          cases h4 with
          | e _ _ h6 => exact .e y _ h6
        | fu z n xs =>
          cases h4 with
          | fu _ _ _ A h6 => exact .fu z n xs A h6
        | fp xs off =>
          cases h4 with
          | fp _ _ ad hb hc => exact .fp xs off ad hb hc
        | _ => cases h5
    | _ => exact idsC_rep (h hb) hd rfl hl
  | top v => exact .top v
theorem idsB_rep {m : Nat} {hp2 : Hp} {g : Gh} {d : D} {v : Value} (h : RepD hp g w d v) (hd : d.idsB m = true) (hm : hp2.next = m) (hl : ∀ id y, hp2.live.lookup id = some y → hp.live.lookup id = some y) : RepD hp2 g w d v := by
  cases h with
  | ag ds cs hlen h1 hr =>
    have hall : ∀ d ∈ ds, D.idsC m d = true := by simpa [D.idsB] using hd
    exact .ag ds cs hlen h1 fun j d u h2 h3 => idsC_rep (hr j d u h2 h3) (hall d (List.mem_of_getElem? h2)) hm hl
  | tu ds cs hlen hr =>
    have hall : ∀ d ∈ ds, D.idsC m d = true := by simpa [D.idsB] using hd
    exact .tu ds cs hlen fun j d u h2 h3 => idsC_rep (hr j d u h2 h3) (hall d (List.mem_of_getElem? h2)) hm hl
  | e y v h => exact idsC_rep (.e y v h) hd hm hl
  | own id z n xs v h hid ht => exact idsC_rep (.own id z n xs v h hid ht) hd hm hl
  | fu z n xs A h => exact idsC_rep (.fu z n xs A h) hd hm hl
  | fp xs off ad hb hc => exact idsC_rep (.fp xs off ad hb hc) hd hm hl
  | pt k off hk => exact idsC_rep (.pt k off hk) hd hm hl
  | ow k off z n c hk h1 h2 => exact idsC_rep (.ow k off z n c hk h1 h2) hd hm hl
  | gw k z n c hk h1 h2 hs => exact idsC_rep (.gw k z n c hk h1 h2 hs) hd hm hl
  | fn f ks hk => exact idsC_rep (.fn f ks hk) hd hm hl
  | opt b d v hi h => exact idsC_rep (.opt b d v hi h) hd hm hl
  | top v => exact .top v
theorem mem_of_lookup {α : Type} : ∀ {l : List (Nat × α)} {k : Nat} {y : α}, l.lookup k = some y → (k, y) ∈ l
  | [], k, y, h => by simp at h
  | (j, z) :: l, k, y, h => by
    by_cases hj : k = j
    · subst hj
      have : some z = some y := by rw [← h]; exact lookup_cons_eq.symm
      injection this with this
      subst this
      exact List.mem_cons_self ..
    · exact List.mem_cons_of_mem _ (mem_of_lookup (by rw [← h]; exact (lookup_cons_ne hj).symm))
def argsT : Nat → List D → List (Nat × D)
  | _, [] => []
  | i, d :: ds => (i, d) :: argsT (i + 1) ds
theorem argsT_lookup : ∀ {ds : List D} {i t : Nat} {d : D}, (argsT i ds).lookup t = some d → i ≤ t ∧ ds[t - i]? = some d
  | [], i, t, d, h => by simp [argsT] at h
  | d0 :: ds, i, t, d, h => by
    by_cases hti : t = i
    · subst hti
      have : some d0 = some d := by rw [← h]; exact lookup_cons_eq.symm
      injection this with this
      subst this
      exact ⟨Nat.le_refl _, by simp⟩
    · have h1 : (argsT (i + 1) ds).lookup t = some d := by rw [← h]; exact (lookup_cons_ne hti).symm
      obtain ⟨h2, h3⟩ := argsT_lookup h1
      refine ⟨by omega, ?_⟩
      rw [show t - i = (t - (i + 1)) + 1 by omega]
      exact h3
def resD (tb : TypeId → Option TyE) (tm : List (Nat × D)) (hp : Hp) (r : ResultVar) (k : D → Prop) : Prop :=
  match r with
  | .tmp t => ∃ d, tm.lookup t = some d ∧ k d
  | .cell p ty => ∃ d, tm.lookup p = some d ∧ (∃ j, tb ty = some j) ∧ loadV tb ty d hp k
theorem RepD.exC {g : Gh} {w : World} {d : D} {v : Value} (h : RepD hp g w d v) : RepD hp g w d.exC v := by
  cases h with
  | e x v h => exact .e x v h
  | own id z n xs v h hid ht => exact .e _ _ h
  | fu z n xs A h => exact .e _ _ h
  | ag ds cs hl h1 hr => exact .ag ds cs hl h1 hr
  | tu ds cs hl hr => exact .tu ds cs hl hr
  | fp xs off ad hb hc => exact .fp xs off ad hb hc
  | pt k off hk => exact .pt k off hk
  | ow k off z n c hk h1 h2 => exact .ow k off z n c hk h1 h2
  | gw k z n c hk h1 h2 hs => exact .gw k z n c hk h1 h2 hs
  | fn f ks hk => exact .fn f ks hk
  | opt b d v hi h => exact .opt b d v hi h
  | top v => exact .top v
theorem RepD.exD {g : Gh} {w : World} {d : D} {v : Value} (h : RepD hp g w d v) : RepD hp g w d.ex v := by
  cases h with
  | ag ds cs hl h1 hr =>
    refine .ag _ cs (by simpa using hl) h1 fun j d u hd hu => ?_
    rw [List.getElem?_map] at hd
    cases hdj : ds[j]? with
    | none => simp [hdj] at hd
    | some d0 =>
      simp only [hdj, Option.map_some, Option.some.injEq] at hd
      subst hd
      exact (hr j d0 u hdj hu).exC
  | e x v h => exact .e x v h
  | own id z n xs v h hid ht => exact .e _ _ h
  | fu z n xs A h => exact .e _ _ h
  | tu ds cs hl hr => exact .tu ds cs hl hr
  | fp xs off ad hb hc => exact .fp xs off ad hb hc
  | pt k off hk => exact .pt k off hk
  | ow k off z n c hk h1 h2 => exact .ow k off z n c hk h1 h2
  | gw k z n c hk h1 h2 hs => exact .gw k z n c hk h1 h2 hs
  | fn f ks hk => exact .fn f ks hk
  | opt b d v hi h => exact .opt b d v hi h
  | top v => exact .top v
def D.leC (d d' : D) : Prop := d' = d ∨ d' = d.exC ∨ (d = .e (.lit (.slice none 0 0)) ∧ ∃ z, 0 < z ∧ d' = .e (.sl z 0 []))
theorem RepD.leC {g : Gh} {w : World} {d d' : D} {v : Value} (h : RepD hp g w d v) (hl : d.leC d') : RepD hp g w d' v := by
  rcases hl with rfl | rfl | ⟨rfl, z, hz, rfl⟩
  · exact h
  · exact h.exC
  · cases h with
    | e _ _ h =>
      cases h with
      | lit _ _ => exact .e _ _ (.sl z 0 [] none 0 (fun _ => undef) (by simp) hz (Nat.le_refl _) (Nat.zero_le _) (fun h => absurd h (Nat.lt_irrefl _)) (fun _ h => by cases h) (fun j x h => by simp at h))
def wksL : List D → List D → Prop
  | [], [] => True
  | d :: ds, d' :: ds' => d.leC d' ∧ wksL ds ds'
  | _, _ => False
theorem wksL_refl : ∀ ds : List D, wksL ds ds
  | [] => trivial
  | _ :: ds => ⟨.inl rfl, wksL_refl ds⟩
theorem wksL_len : ∀ {ds ds' : List D}, wksL ds ds' → ds'.length = ds.length
  | [], [], _ => rfl
  | _ :: ds, _ :: ds', h => by simp [wksL_len h.2]
  | [], _ :: _, h => h.elim
  | _ :: _, [], h => h.elim
theorem wksL_get : ∀ {ds ds' : List D}, wksL ds ds' → ∀ {j : Nat} {d' : D}, ds'[j]? = some d' → ∃ d, ds[j]? = some d ∧ d.leC d'
  | d :: ds, d' :: ds', h, 0, e, he => ⟨d, rfl, by
    have : d' = e := by simpa using he
    rw [← this]; exact h.1⟩
  | d :: ds, d' :: ds', h, j + 1, e, he => wksL_get h.2 (by simpa using he)
  | [], [], h, j, e, he => by simp at he
  | [], _ :: _, h, _, _, _ => h.elim
  | _ :: _, [], h, _, _, _ => h.elim
def D.le (d d' : D) : Prop := d.leC d' ∨ d' = d.ex ∨ ∃ ds ds', d = .ag ds ∧ d' = .ag ds' ∧ wksL ds ds'
theorem RepD.le {g : Gh} {w : World} {d d' : D} {v : Value} (h : RepD hp g w d v) (hl : d.le d') : RepD hp g w d' v := by
  rcases hl with hl | rfl | ⟨ds, ds', rfl, rfl, hl⟩
  · exact h.leC hl
  · exact h.exD
  · cases h with
    | ag _ cs hlen h1 hr =>
      refine .ag _ cs (by rw [hlen, wksL_len hl]) h1 fun j d u hd hu => ?_
      obtain ⟨d0, hd0, hle⟩ := wksL_get hl hd
      exact (hr j d0 u hd0 hu).leC hle
theorem pure_ex {d : D} (h : d.pure = true) : d.ex = d := by
  cases d with
  | ag ds =>
    have hall : ∀ x ∈ ds, D.pureC x = true := by simpa [D.pure] using h
    show D.ag (ds.map D.exC) = .ag ds
    have : ds.map D.exC = ds := by
      conv => rhs; rw [← List.map_id ds]
      refine List.map_congr_left fun x hx => ?_
      have := hall x hx
      cases x <;> first | rfl | cases this
    rw [this]
  | e x => rfl
  | fp xs off => rfl
  | _ => cases h
theorem RepD.exportP {g : Gh} {w : World} {d : D} {v : Value} (h : RepD hp g w d v) (hp' : d.pure = true) : PRep w g.F d v := by
  have := h.xport (by rw [pure_ex hp']; exact hp')
  rwa [pure_ex hp'] at this
def RetV (tb : TypeId → Option TyE) (rs : List ResultVar) (tm : List (Nat × D)) (hp : Hp) (r : D) : Prop :=
  match rs with
  | [q] => resD tb tm hp q fun d => (d.ex.pure = true ∧ r = d.ex) ∨ (∃ id e z n xs, d = .own id z n xs ∧ hp.live.lookup id = some (n, z, e) ∧ r = .own e z n xs) ∨ ∃ d2, d.le d2 ∧ d2.pure = true ∧ r = d2
  | [q, q'] => resD tb tm hp q fun d => resD tb tm hp q' fun d' => ((d.ex.pure = true ∧ d'.ex.pure = true) ∧ r = .tu [d.ex, d'.ex]) ∨ ∃ e e', d.le e ∧ d'.le e' ∧ (e.pure = true ∧ e'.pure = true) ∧ r = .tu [e, e']
  | [q, q', q''] => resD tb tm hp q fun d => resD tb tm hp q' fun d' => resD tb tm hp q'' fun d'' => ((d.ex.pure = true ∧ d'.ex.pure = true ∧ d''.ex.pure = true) ∧ r = .tu [d.ex, d'.ex, d''.ex]) ∨ ∃ e e' e'', d.le e ∧ d'.le e' ∧ d''.le e'' ∧ (e.pure = true ∧ e'.pure = true ∧ e''.pure = true) ∧ r = .tu [e, e', e'']
  | [] => r = .tu []
  | _ => False
theorem resD_sound (tok : TOk P tb) {q : ResultVar} {k : D → Prop} (h : resD tb tm hp q k) : ∃ d, k d ∧ ∀ (B : Nat) (g : Gh) (w : World) (tmps : Array Value), HR B hp g w → (∀ t d, tm.lookup t = some d → RepD hp g w d (tmps.getD t undef)) →
    ∃ v, ((match q with | .tmp t => pure (tmps.getD t undef) | .cell a t => do loadVar t (← asAddr (tmps.getD a undef)) : Sem Value)).run P w = .ok v w ∧ RepD hp g w d v := by
  unfold resD at h
  split at h
  · rename_i t
    obtain ⟨d, hd, hk⟩ := h
    exact ⟨d, hk, fun B g w tmps hr htm => ⟨_, rfl, htm t d hd⟩⟩
  · rename_i p ty
    obtain ⟨d, hd, _, h⟩ := h
    obtain ⟨d', hk, _, hs⟩ := loadV_sound tok h
    refine ⟨d', hk, fun B g w tmps hr htm => ?_⟩
    obtain ⟨v, hrun, hrep⟩ := hs hp B g w _ (fun _ _ _ => rfl) hr (htm p d hd)
    refine ⟨v, ?_, hrep⟩
    have hp := htm p d hd
    generalize tmps.getD p undef = u at *
    cases u with
    | pointer o =>
      cases o with
      | some ad => simpa [Instr.loadAt, Instr.sureAddr, asAddr] using hrun
      | none => simp [Instr.loadAt, Instr.sureAddr, stuck, Sem.run] at hrun
    | _ => simp [Instr.loadAt, Instr.sureAddr, stuck, Sem.run] at hrun
theorem Array.mapM_one {α β : Type} (f : α → Sem β) (q : α) (w : World) {v : β} (h : (f q).run P w = .ok v w) : ((#[q] : Array α).mapM f).run P w = .ok #[v] w := by
  rw [Array.mapM_eq_mapM_toList]
  simp [h]
theorem Array.mapM_two {α β : Type} (f : α → Sem β) (q q' : α) (w : World) {v v' : β} (h : (f q).run P w = .ok v w) (h' : (f q').run P w = .ok v' w) : ((#[q, q'] : Array α).mapM f).run P w = .ok #[v, v'] w := by
  rw [Array.mapM_eq_mapM_toList]
  simp [h, h']
theorem Array.mapM_three {α β : Type} (f : α → Sem β) (q q' q'' : α) (w : World) {v v' v'' : β} (h : (f q).run P w = .ok v w) (h' : (f q').run P w = .ok v' w) (h'' : (f q'').run P w = .ok v'' w) : ((#[q, q', q''] : Array α).mapM f).run P w = .ok #[v, v', v''] w := by
  rw [Array.mapM_eq_mapM_toList]
  simp [h, h', h'']
theorem PRep.tu {F : Addr → Prop} {ds : List D} {vs : List Value} (h : Pw (PRep w F) ds vs) : PRep w F (.tu ds) (.tuple vs.toArray) :=
  RepD.tu ds vs.toArray (by simpa using h.1.symm) fun j d u hd hu => h.2 j d u hd (by simpa using hu)
theorem pure_not_own {d : D} {e z n : Nat} {xs : List E} (h : d.ex.pure = true) : d.ex ≠ .own e z n xs := by
  intro e
  rw [e] at h
  cases h
theorem PRes.of {B : Nat} {F : Addr → Prop} {r : D} {v : Value} (h : PRep w F r v) (hn : ∀ e z n xs, r ≠ .own e z n xs) : PRes B F w r v := by
  unfold PRes
  split
  · exact absurd rfl (hn _ _ _ _)
  · exact h
theorem RepE.less {F F' : Addr → Prop} {y : E} {v : Value} (h : RepE w F y v) (hF : ∀ p, F' p → F p) : RepE w F' y v := h.mono (Nat.le_refl _) (fun _ _ _ => rfl) fun p _ hf => hF p hf
theorem PRep.less {F F' : Addr → Prop} {d : D} {v : Value} (h : PRep w F d v) (hF : ∀ p, F' p → F p) : PRep w F' d v := by
  unfold PRep at h
  generalize hh : (⟨[], [], 0⟩ : Hp) = h0 at h
  generalize hgg : (⟨fun _ => 0, fun _ => default, F⟩ : Gh) = g0 at h
  have hF0 : g0.F = F := by rw [← hgg]
  have hn : h0.next = 0 := by rw [← hh]
  unfold PRep
  induction h with
  | e y v h => exact .e y v (RepE.less h fun p hp => by rw [hF0]; exact hF p hp)
  | own id z n xs v h hid ht => omega
  | fu z n xs A h => exact .fu z n xs A (RepE.less h fun p hp => by rw [hF0]; exact hF p hp)
  | ag ds cs hl h1 hr ih => exact .ag ds cs hl h1 ih
  | tu ds cs hl hr ih => exact .tu ds cs hl ih
  | fp xs off ad hb hc =>
    refine .fp xs off ad hb fun j y hy => ?_
    obtain ⟨u, h1, h2, h3⟩ := hc j y hy
    exact ⟨u, h1, fun hf => h2 (by rw [hF0]; exact hF _ hf), RepE.less h3 fun p hp => by rw [hF0]; exact hF p hp⟩
  | pt k off hk => omega
  | ow k off z n c hk h1 h2 => omega
  | gw k z n c hk h1 h2 hs => omega
  | fn f ks hk =>
    cases ks with
    | nil => exact .fn f [] (by simp)
    | cons k ks => have := hk k (by simp); omega
  | opt b d v hi h ih => exact .opt b d v (by rw [hn] at hi; exact hi) ih
  | top v => exact .top v
theorem RetV_sound (tok : TOk P tb) {fn : Func} {rs : List ResultVar} {r : D} (hrs : fn.results.toList = rs) (h : RetV tb rs tm hp r) (hr : RS x tm hp a w) (hF0 : ∀ p, x.F0 p → p.block < x.B) :
    ∃ v, (results fn a.tmps).run P w = .ok v w ∧ PRes x.B x.F0 w r v := by
  obtain ⟨g, hh, htm, hsz, hdf, hB, hF, _⟩ := hr
  have hF1 : ∀ p, x.F0 p → g.F p := fun p hp => hF p (hF0 p hp) hp
  unfold RetV at h
  split at h
  · rename_i q
    have hq : fn.results = #[q] := by apply Array.toList_inj.1; simpa using hrs
    obtain ⟨d, hk, hs⟩ := resD_sound tok h
    obtain ⟨v, hrun, hrep⟩ := hs x.B g w a.tmps hh htm
    refine ⟨v, ?_, ?_⟩
    · unfold results
      rw [hq, Sem.run_bind, Array.mapM_one _ q w hrun]
      simp
    · rcases hk with ⟨hp1, rfl⟩ | ⟨id, e, z, n, xs, rfl, hlive, rfl⟩ | ⟨d2, hle, hp1, rfl⟩
      · exact PRes.of ((hrep.xport hp1).less hF1) fun _ _ _ _ => pure_not_own hp1
      · obtain ⟨_, us, hz, ho, htail⟩ := hh.tok id n (z, e) hlive
        cases hrep with
        | own _ _ _ _ _ hrepE hid ht =>
          have hv := (ht n (z, e) hlive).2.2 rfl
          subst hv
          refine ⟨hz, ⟨us, ho⟩, hrepE.less fun p hp => ?_⟩
          rcases hp with hp | ⟨b, h1, h2, h3⟩
          · exact hF1 p hp
          · exact (htail b h1).1 p h2 h3
      · exact PRes.of (((hrep.le hle).exportP hp1).less hF1) fun _ _ _ _ e => by rw [e] at hp1; cases hp1
  · rename_i q q'
    have hq : fn.results = #[q, q'] := by apply Array.toList_inj.1; simpa using hrs
    obtain ⟨d, hk, hs⟩ := resD_sound tok h
    obtain ⟨v, hrun, hrep⟩ := hs x.B g w a.tmps hh htm
    obtain ⟨d', hk2, hs'⟩ := resD_sound tok hk
    obtain ⟨v', hrun', hrep'⟩ := hs' x.B g w a.tmps hh htm
    refine ⟨.tuple #[v, v'], ?_, ?_⟩
    · unfold results
      rw [hq, Sem.run_bind, Array.mapM_two _ q q' w hrun hrun']
      simp
    · rcases hk2 with ⟨⟨hp1, hp2⟩, rfl⟩ | ⟨e, e', hl1, hl2, ⟨hp1, hp2⟩, rfl⟩
      · exact PRes.of (PRep.tu (vs := [v, v']) (Pw.cons ((hrep.xport hp1).less hF1) (Pw.cons ((hrep'.xport hp2).less hF1) Pw.nil))) (fun _ _ _ _ h => by cases h)
      · exact PRes.of (PRep.tu (vs := [v, v']) (Pw.cons (((hrep.le hl1).exportP hp1).less hF1) (Pw.cons (((hrep'.le hl2).exportP hp2).less hF1) Pw.nil))) (fun _ _ _ _ h => by cases h)
  · rename_i q q' q''
    have hq : fn.results = #[q, q', q''] := by apply Array.toList_inj.1; simpa using hrs
    obtain ⟨d, hk, hs⟩ := resD_sound tok h
    obtain ⟨v, hrun, hrep⟩ := hs x.B g w a.tmps hh htm
    obtain ⟨d', hk', hs'⟩ := resD_sound tok hk
    obtain ⟨v', hrun', hrep'⟩ := hs' x.B g w a.tmps hh htm
    obtain ⟨d'', hk2, hs''⟩ := resD_sound tok hk'
    obtain ⟨v'', hrun'', hrep''⟩ := hs'' x.B g w a.tmps hh htm
    refine ⟨.tuple #[v, v', v''], ?_, ?_⟩
    · unfold results
      rw [hq, Sem.run_bind, Array.mapM_three _ q q' q'' w hrun hrun' hrun'']
      simp
    · rcases hk2 with ⟨⟨hp1, hp2, hp3⟩, rfl⟩ | ⟨e, e', e'', hl1, hl2, hl3, ⟨hp1, hp2, hp3⟩, rfl⟩
      · exact PRes.of (PRep.tu (vs := [v, v', v'']) (Pw.cons ((hrep.xport hp1).less hF1) (Pw.cons ((hrep'.xport hp2).less hF1) (Pw.cons ((hrep''.xport hp3).less hF1) Pw.nil)))) (fun _ _ _ _ h => by cases h)
      · exact PRes.of (PRep.tu (vs := [v, v', v'']) (Pw.cons (((hrep.le hl1).exportP hp1).less hF1) (Pw.cons (((hrep'.le hl2).exportP hp2).less hF1) (Pw.cons (((hrep''.le hl3).exportP hp3).less hF1) Pw.nil)))) (fun _ _ _ _ h => by cases h)
  · have hq : fn.results = #[] := by apply Array.toList_inj.1; simpa using hrs
    subst h
    refine ⟨.tuple #[], ?_, PRes.of (PRep.tu (vs := []) Pw.nil) (fun _ _ _ _ h => by cases h)⟩
    unfold results
    rw [hq, Sem.run_bind]
    simp
  · cases h
theorem PCalls.of (tok : TOk P tb) {f : FuncId} {fn : Func} {c : Code} {ds : List D} {r : D} {rs : List ResultVar} (hf : P.funcs[f]? = some fn) (hb : fn.body = some c) (hname : (fn.name == "runtime.NumGoroutine") = false) (hN : ds.length ≤ fn.ntmps) (hrs : fn.results.toList = rs)
    (h : ∀ x : Cx, x.N = fn.ntmps → x.hp0 = ⟨[], [], 0⟩ → AW P x c (argsT 0 ds) ⟨[], [], 0⟩ fun ex tm hp => match ex with | .normal | .ret => RetV tb rs tm hp r | _ => False) : PCalls P f ds r := by
  subst hrs
  refine ⟨⟨fn, hf, hname, by rw [hb]; rfl⟩, fun w F vs hTT hF hsz hvs => ?_⟩
  refine calls_of_wp hf hb ?_
  have hrs : RS ⟨w.heap.size, w, F, fn.ntmps, ⟨[], [], 0⟩, ⟨fun _ => 0, fun _ => default, F⟩, [], hTT⟩ (argsT 0 ds) ⟨[], [], 0⟩ { tmps := vs ++ Array.replicate (fn.ntmps - vs.size) undef, defers := [] } w := by
    refine ⟨⟨fun _ => 0, fun _ => default, F⟩, ⟨fun k ds h => by simp at h, fun _ _ _ _ h => by simp at h, fun _ _ _ h => by simp at h, fun _ _ _ _ _ h => by simp at h, Nat.le_refl _, hF⟩, fun t d ht => ?_, by simp; omega, rfl, Below.refl _ _, fun _ _ h => h, Mono.refl _ _ _⟩
    obtain ⟨_, h2⟩ := argsT_lookup ht
    have hlt : t < ds.length := by
      rw [Nat.sub_zero] at h2
      rcases Nat.lt_or_ge t ds.length with hh | hh
      · exact hh
      · rw [List.getElem?_eq_none hh] at h2; cases h2
    have hv : vs[t]? = some vs[t] := Array.getElem?_eq_getElem (by omega)
    have := hvs t d vs[t] (by simpa using h2) hv
    have he : (vs ++ Array.replicate (fn.ntmps - vs.size) undef).getD t undef = vs[t] := by
      rw [Array.getD_eq_getD_getElem?, Array.getElem?_append_left (by omega), hv]; rfl
    rw [he]
    exact this
  refine wp_mono (h ⟨w.heap.size, w, F, fn.ntmps, ⟨[], [], 0⟩, ⟨fun _ => 0, fun _ => default, F⟩, [], hTT⟩ rfl rfl _ _ hrs) ?_
  rintro ex a' w' ⟨tm', hp', h1, h2⟩
  have fin : RetV tb fn.results.toList tm' hp' r → a'.defers = [] ∧ ∃ v, (results fn a'.tmps).run P w' = .ok v w' ∧ ∃ v', Ending.returned v = .returned v' ∧ PRes w.heap.size F w' r v' ∧ Below w.heap.size w w' := by
    intro h2
    obtain ⟨v, hrun, hres⟩ := RetV_sound tok rfl h2 h1 hF
    obtain ⟨g, _, _, _, hdf, hB, _⟩ := h1
    exact ⟨hdf, v, hrun, v, rfl, hres, hB⟩
  cases ex with
  | normal => exact fin h2
  | ret => exact fin h2
  | _ => cases h2
def RetH (tb : TypeId → Option TyE) (rs : List ResultVar) (tm : List (Nat × D)) (hp : Hp) (r : D) : Prop :=
  match rs with
  | [q] => resD tb tm hp q fun d => r = d
  | [q, q'] => resD tb tm hp q fun d => resD tb tm hp q' fun d' => r = .tu [d, d']
  | [q, q', q''] => resD tb tm hp q fun d => resD tb tm hp q' fun d' => resD tb tm hp q'' fun d'' => r = .tu [d, d', d'']
  | [] => r = .tu []
  | _ => False
theorem RetH_sound (tok : TOk P tb) {fn : Func} {rs : List ResultVar} {r : D} (hrs : fn.results.toList = rs) (h : RetH tb rs tm hp r) {g : Gh} (hh : HR x.B hp g w) (htm : ∀ t d, tm.lookup t = some d → RepD hp g w d (a.tmps.getD t undef)) :
    ∃ v, (results fn a.tmps).run P w = .ok v w ∧ RepD hp g w r v := by
  unfold RetH at h
  split at h
  · rename_i q
    have hq : fn.results = #[q] := by apply Array.toList_inj.1; simpa using hrs
    obtain ⟨d, rfl, hs⟩ := resD_sound tok h
    obtain ⟨v, hrun, hrep⟩ := hs x.B g w a.tmps hh htm
    refine ⟨v, ?_, hrep⟩
    unfold results
    rw [hq, Sem.run_bind, Array.mapM_one _ q w hrun]
    simp
  · rename_i q q'
    have hq : fn.results = #[q, q'] := by apply Array.toList_inj.1; simpa using hrs
    obtain ⟨d, hk, hs⟩ := resD_sound tok h
    obtain ⟨v, hrun, hrep⟩ := hs x.B g w a.tmps hh htm
    obtain ⟨d', rfl, hs'⟩ := resD_sound tok hk
    obtain ⟨v', hrun', hrep'⟩ := hs' x.B g w a.tmps hh htm
    have hpw : Pw (RepD hp g w) [d, d'] [v, v'] := Pw.cons hrep (Pw.cons hrep' Pw.nil)
    refine ⟨.tuple #[v, v'], ?_, .tu _ _ rfl fun j d u hd hu => hpw.2 j d u hd (by simpa using hu)⟩
    unfold results
    rw [hq, Sem.run_bind, Array.mapM_two _ q q' w hrun hrun']
    simp
  · rename_i q q' q''
    have hq : fn.results = #[q, q', q''] := by apply Array.toList_inj.1; simpa using hrs
    obtain ⟨d, hk, hs⟩ := resD_sound tok h
    obtain ⟨v, hrun, hrep⟩ := hs x.B g w a.tmps hh htm
    obtain ⟨d', hk', hs'⟩ := resD_sound tok hk
    obtain ⟨v', hrun', hrep'⟩ := hs' x.B g w a.tmps hh htm
    obtain ⟨d'', rfl, hs''⟩ := resD_sound tok hk'
    obtain ⟨v'', hrun'', hrep''⟩ := hs'' x.B g w a.tmps hh htm
    have hpw : Pw (RepD hp g w) [d, d', d''] [v, v', v''] := Pw.cons hrep (Pw.cons hrep' (Pw.cons hrep'' Pw.nil))
    refine ⟨.tuple #[v, v', v''], ?_, .tu _ _ rfl fun j d u hd hu => hpw.2 j d u hd (by simpa using hu)⟩
    unfold results
    rw [hq, Sem.run_bind, Array.mapM_three _ q q' q'' w hrun hrun' hrun'']
    simp
  · have hq : fn.results = #[] := by apply Array.toList_inj.1; simpa using hrs
    subst h
    refine ⟨.tuple #[], ?_, .tu _ _ rfl fun j d u hd hu => by simp at hd⟩
    unfold results
    rw [hq, Sem.run_bind]
    simp
  · cases h
structure HpOk (hp : Hp) : Prop where
  var : ∀ k ds, hp.vars.lookup k = some ds → k < hp.next ∧ ds.all (D.idsC hp.next) = true
  tok : ∀ id e, hp.live.lookup id = some e → id < hp.next
theorem RepD.cell_ids {d : D} {v : Value} {hp : Hp} {g : Gh} (h : RepD hp g w d v) (hv : v.oneCell' = true) : d.idsC hp.next = true := by
  cases h with
  | e x v h => rfl
  | own id z n xs v h hid ht => exact decide_eq_true hid
  | fu z n xs A h => rfl
  | ag ds cs hl h1 hr => cases hv
  | tu ds cs hl hr => cases hv
  | fp xs off ad hb hc => rfl
  | pt k off hk => exact decide_eq_true hk
  | ow k off z n c hk h1 h2 => exact decide_eq_true hk
  | gw k z n c hk h1 h2 hs => exact decide_eq_true hk
  | fn f ks hk => exact List.all_eq_true.2 fun k h => decide_eq_true (hk k h)
  | opt b d v hi h => exact hi
  | top v => rfl
theorem HR.ok {B : Nat} {hp : Hp} {g : Gh} (h : HR B hp g w) : HpOk hp := by
  refine ⟨fun k ds hk => ?_, fun id e he => (h.tok id e.1 e.2 he).1⟩
  obtain ⟨h1, _, _, cs, ty, _, h2, h3⟩ := h.var k ds hk
  refine ⟨h1, List.all_eq_true.2 fun d hd => ?_⟩
  obtain ⟨j, hj⟩ := List.getElem?_of_mem hd
  have hlt : j < cs.size := by
    have := (List.getElem?_eq_some_iff.1 hj).1
    omega
  obtain ⟨h4, h5⟩ := h3 j cs[j] (Array.getElem?_eq_getElem hlt)
  exact (h5 d hj).cell_ids (h4 (List.getElem?_eq_some_iff.1 hj).1)
theorem HC.of (tok : TOk P tb) {f : FuncId} {fn : Func} {c : Code} {ds : List D} {hp hp' : Hp} {r : D} {rs : List ResultVar} (hf : P.funcs[f]? = some fn) (hb : fn.body = some c) (hname : (fn.name == "runtime.NumGoroutine") = false) (hN : ds.length ≤ fn.ntmps) (hrs : fn.results.toList = rs)
    (h : ∀ x : Cx, x.N = fn.ntmps → x.hp0 = hp → HpOk hp → AW P x c (argsT 0 ds) hp fun ex tm hp2 => match ex with | .normal | .ret => ∃ tm', Wk x tm hp2 tm' hp' ∧ RetH tb rs tm' hp' r | _ => False) : HC P f ds hp r hp' := by
  subst hrs
  refine ⟨⟨fn, hf, hname, by rw [hb]; rfl⟩, fun B g w vs hTT hr hsz hvs => ?_⟩
  refine calls_of_wp hf hb ?_
  have hstart : RS ⟨B, w, g.F, fn.ntmps, hp, g, [], hTT⟩ (argsT 0 ds) hp { tmps := vs ++ Array.replicate (fn.ntmps - vs.size) undef, defers := [] } w := by
    refine ⟨g, hr, fun t d ht => ?_, by simp; omega, rfl, Below.refl _ _, fun _ _ h => h, Mono.refl _ _ _⟩
    obtain ⟨_, h2⟩ := argsT_lookup ht
    have hlt : t < ds.length := by
      rw [Nat.sub_zero] at h2
      rcases Nat.lt_or_ge t ds.length with hh | hh
      · exact hh
      · rw [List.getElem?_eq_none hh] at h2; cases h2
    have hv : vs[t]? = some vs[t] := Array.getElem?_eq_getElem (by omega)
    have := hvs t d vs[t] (by simpa using h2) hv
    have he : (vs ++ Array.replicate (fn.ntmps - vs.size) undef).getD t undef = vs[t] := by
      rw [Array.getD_eq_getD_getElem?, Array.getElem?_append_left (by omega), hv]; rfl
    rw [he]
    exact this
  refine wp_mono (h ⟨B, w, g.F, fn.ntmps, hp, g, [], hTT⟩ rfl rfl hr.ok _ _ hstart) ?_
  rintro ex a' w' ⟨tm', hp2, h1, h2⟩
  have fin : (∃ tm2, Wk ⟨B, w, g.F, fn.ntmps, hp, g, [], hTT⟩ tm' hp2 tm2 hp' ∧ RetH tb fn.results.toList tm2 hp' r) → a'.defers = [] ∧ ∃ v, (results fn a'.tmps).run P w' = .ok v w' ∧ ∃ v' g', Ending.returned v = .returned v' ∧ HR B hp' g' w' ∧ Mono hp g w hp' g' w' ∧ RepD hp' g' w' r v' ∧ Below B w w' ∧ ∀ p : Addr, p.block < B → g.F p → g'.F p := by
    rintro ⟨tm2, hwk, hret⟩
    obtain ⟨g', hr', htm, _, hdf, hB, hF, hM⟩ := hwk a' w' h1
    obtain ⟨v, hrun, hres⟩ := RetH_sound (x := ⟨B, w, g.F, fn.ntmps, hp, g, [], hTT⟩) tok rfl hret hr' htm
    exact ⟨hdf, v, hrun, v, g', rfl, hr', hM, hres, hB, hF⟩
  cases ex with
  | normal => exact fin h2
  | ret => exact fin h2
  | _ => cases h2
end
end
section
def kont (P : Program) (tb : TypeId → Option TyE) (dr : Bool) (ops : Array Oper) (dst : Option Tmp) (os : List Oper) (tm : List (Nat × D)) (K : List (Nat × D) → Hp → Prop) (d : D) (hp : Hp) : Prop := aops P tb dr ops os (putD dst d tm) hp K
def atHp (k : D → Hp → Prop) (hp : Hp) (d : D) : Prop := k d hp
def atLit (k : D → Hp → Prop) (hp : Hp) (v : Value) : Prop := k (.e (.lit v)) hp
def atInt (k : D → Hp → Prop) (hp : Hp) (n : Int) : Prop := k (.e (.lit (.int .i64 n))) hp
def exO (o : Option D) (k : D → Prop) : Prop := ∃ d, o = some d ∧ k d
@[congr] theorem exO_congr {o o' : Option D} {k : D → Prop} (h : o = o') : exO o k = exO o' k := by rw [h]
theorem exO_some (d : D) (k : D → Prop) : exO (some d) k = k d := by
  unfold exO; exact propext ⟨fun ⟨_, h, hk⟩ => by injection h with h; rw [h]; exact hk, fun h => ⟨d, rfl, h⟩⟩
def gdO (o : Option Tmp) (tm : List (Nat × D)) (want : Bool) (A B : Prop) : Prop := match o with
  | some t => gdV (tm.lookup t) want A B
  | none => False
theorem gdO_some (t : Tmp) (tm : List (Nat × D)) (want : Bool) (A B : Prop) : gdO (some t) tm want A B = gdV (tm.lookup t) want A B := Eq.trans rfl rfl
section
variable {P : Program} {tb : TypeId → Option TyE} {dr : Bool} {ops : Array Oper} {os : List Oper} {tm : List (Nat × D)} {hp : Hp} {K : List (Nat × D) → Hp → Prop} {dst : Option Tmp} {ty : TypeId} {pos : String} {af : Array Edge}
theorem kont_ap (d : D) : kont P tb dr ops dst os tm K d hp = aops P tb dr ops os (putD dst d tm) hp K := rfl
theorem atHp_ap (k : D → Hp → Prop) (d : D) : atHp k hp d = k d hp := rfl
theorem atLit_ap (k : D → Hp → Prop) (v : Value) : atLit k hp v = k (.e (.lit v)) hp := rfl
theorem atInt_ap (k : D → Hp → Prop) (n : Int) : atInt k hp n = k (.e (.lit (.int .i64 n))) hp := rfl
theorem ao_nil : aops P tb dr ops [] tm hp K = K tm hp := Eq.trans rfl rfl
theorem ao_move (x : Operand) : aops P tb dr ops (⟨dst, .move x, ty, pos, af, none⟩ :: os) tm hp K = aops P tb dr ops os (putD dst (evD tm x) tm) hp K := Eq.trans rfl rfl
theorem ao_assign (x : Operand) : aops P tb dr ops (⟨dst, .assign x, ty, pos, af, none⟩ :: os) tm hp K = asgV tb ty (evD tm x) hp (kont P tb dr ops dst os tm K) := Eq.trans rfl rfl
theorem ao_pick (c x y : Operand) : aops P tb dr ops (⟨dst, .pick c x y, ty, pos, af, none⟩ :: os) tm hp K = pickV (evD tm c) (evD tm x) (evD tm y) (atHp (kont P tb dr ops dst os tm K) hp) := Eq.trans rfl rfl
def allocV (tb : TypeId → Option TyE) (t : TypeId) (hp : Hp) (k : D → Hp → Prop) : Prop := match tb t with | some i => k (.pt hp.next 0) (hp.var (i.zero.map fun v => .e (.lit v))) | none => False
def boxV (d : D) (hp : Hp) (k : D → Hp → Prop) : Prop := match d.cells with | some cs => k (.pt hp.next 0) (hp.var cs) | none => False
def extractV (d : D) (i : Nat) (k : D → Prop) : Prop := match d with | .tu ds => exO (ds[i]?) k | _ => False
theorem ao_alloc (t : TypeId) : aops P tb dr ops (⟨dst, .alloc t, ty, pos, af, none⟩ :: os) tm hp K = allocV tb t hp (kont P tb dr ops dst os tm K) := Eq.trans rfl rfl
theorem ao_box (t : TypeId) (x : Operand) : aops P tb dr ops (⟨dst, .box t x, ty, pos, af, none⟩ :: os) tm hp K = boxV (evD tm x) hp (kont P tb dr ops dst os tm K) := Eq.trans rfl rfl
theorem ao_build (t : TypeId) (ps : List (Nat × Operand)) : aops P tb dr ops (⟨dst, .build t ps.toArray, ty, pos, af, none⟩ :: os) tm hp K = buildV tb t (ps.map fun p => (p.1, evD tm p.2)) (atHp (kont P tb dr ops dst os tm K) hp) := Eq.trans rfl rfl
theorem ao_buildSlice (t : TypeId) (n : Nat) (ps : List (Nat × Operand)) : aops P tb dr ops (⟨dst, .buildSlice t n ps.toArray, ty, pos, af, none⟩ :: os) tm hp K = buildSliceV tb (!dr) t n (ps.map fun p => (p.1, evD tm p.2)) hp (kont P tb dr ops dst os tm K) := Eq.trans rfl rfl
theorem ao_load (t : TypeId) (x : Operand) : aops P tb dr ops (⟨dst, .load t x, ty, pos, af, none⟩ :: os) tm hp K = loadV tb t (evD tm x) hp (atHp (kont P tb dr ops dst os tm K) hp) := Eq.trans rfl rfl
theorem ao_store (t : TypeId) (x y : Operand) : aops P tb dr ops (⟨dst, .store t x y, ty, pos, af, none⟩ :: os) tm hp K = storeV tb t (evD tm x) (evD tm y) hp (kont P tb dr ops dst os tm K) := Eq.trans rfl rfl
theorem ao_binOp (o : BinOp) (t t' : TypeId) (x y : Operand) : aops P tb dr ops (⟨dst, .binOp o t x y t', ty, pos, af, none⟩ :: os) tm hp K = binV P o t (evD tm x) (evD tm y) (atLit (kont P tb dr ops dst os tm K) hp) := Eq.trans rfl rfl
theorem ao_unOp (o : UnOp) (t : TypeId) (x : Operand) : aops P tb dr ops (⟨dst, .unOp o t x, ty, pos, af, none⟩ :: os) tm hp K = unV o (evD tm x) (atLit (kont P tb dr ops dst os tm K) hp) := Eq.trans rfl rfl
theorem ao_slice (t : TypeId) (x : Operand) (lo hi mx : Option Operand) : aops P tb dr ops (⟨dst, .slice t x lo hi mx, ty, pos, af, none⟩ :: os) tm hp K = sliceV tb t (evD tm x) (lo.map (evD tm)) (hi.map (evD tm)) (mx.map (evD tm)) (atHp (kont P tb dr ops dst os tm K) hp) := Eq.trans rfl rfl
theorem ao_fieldAddr (t : TypeId) (x : Operand) (f : Nat) : aops P tb dr ops (⟨dst, .fieldAddr t x f, ty, pos, af, none⟩ :: os) tm hp K = fieldAddrV tb t f (evD tm x) (atHp (kont P tb dr ops dst os tm K) hp) := Eq.trans rfl rfl
theorem ao_field (t : TypeId) (x : Operand) (f : Nat) : aops P tb dr ops (⟨dst, .field t x f, ty, pos, af, none⟩ :: os) tm hp K = fieldV tb t f (evD tm x) (atHp (kont P tb dr ops dst os tm K) hp) := Eq.trans rfl rfl
theorem ao_indexAddr (t : TypeId) (x i : Operand) : aops P tb dr ops (⟨dst, .indexAddr t x i, ty, pos, af, none⟩ :: os) tm hp K = indexAddrV tb t (evD tm x) (evD tm i) (atHp (kont P tb dr ops dst os tm K) hp) := Eq.trans rfl rfl
theorem ao_index (t : TypeId) (x i : Operand) : aops P tb dr ops (⟨dst, .index t x i, ty, pos, af, none⟩ :: os) tm hp K = indexV tb t (evD tm x) (evD tm i) (atHp (kont P tb dr ops dst os tm K) hp) := Eq.trans rfl rfl
theorem ao_extract (x : Operand) (i : Nat) : aops P tb dr ops (⟨dst, .extract x i, ty, pos, af, none⟩ :: os) tm hp K = extractV (evD tm x) i (atHp (kont P tb dr ops dst os tm K) hp) := Eq.trans rfl rfl
theorem ao_len (x : List Operand) (ts : List TypeId) : aops P tb dr ops (⟨dst, .call ⟨.builtin .len, x.toArray, ts.toArray⟩, ty, pos, af, none⟩ :: os) tm hp K = builtinV tb .len ts (x.map (evD tm)) hp (kont P tb dr ops dst os tm K) := Eq.trans rfl rfl
theorem ao_builtin (b : Builtin) (az : List Operand) (ts : List TypeId) : aops P tb dr ops (⟨dst, .call ⟨.builtin b, az.toArray, ts.toArray⟩, ty, pos, af, none⟩ :: os) tm hp K = builtinV tb b ts (az.map (evD tm)) hp (kont P tb dr ops dst os tm K) := Eq.trans rfl rfl
theorem ao_call (f : FuncId) (az : List Operand) (ts : Array TypeId) : aops P tb dr ops (⟨dst, .call ⟨.value (.func f), az.toArray, ts⟩, ty, pos, af, none⟩ :: os) tm hp K = (0 = 0 ∧ 0 = 0 ∧ callV P (hvB tb ⟨.value (.func f), az.toArray, ts⟩) f (az.map (evD tm)) hp (kont P tb dr ops dst os tm K)) := Eq.trans rfl rfl
theorem ao_calltmp (t : Tmp) (az : List Operand) (ts : Array TypeId) : aops P tb dr ops (⟨dst, .call ⟨.value (.tmp t), az.toArray, ts⟩, ty, pos, af, none⟩ :: os) tm hp K = calleeV P true (evD tm (.tmp t)) (az.map (evD tm)) hp (kont P tb dr ops dst os tm K) := Eq.trans rfl rfl
theorem ao_nilCheck (x : Operand) : aops P tb dr ops (⟨dst, .nilCheck x, ty, pos, af, none⟩ :: os) tm hp K = nilV (evD tm x) (atHp (kont P tb dr ops dst os tm K) hp) := Eq.trans rfl rfl
theorem ao_makeFunc (fn : Fn) (first cs : List Operand) : aops P tb dr ops (⟨dst, .makeFunc fn first.toArray cs.toArray, ty, pos, af, none⟩ :: os) tm hp K = makeFuncV fn first.length (cs.map (evD tm)) (atHp (kont P tb dr ops dst os tm K) hp) := Eq.trans rfl rfl
theorem ao_guard (op : Op) (j : Nat) (want : Bool) : aops P tb dr ops (⟨dst, op, ty, pos, af, some (j, want)⟩ :: os) tm hp K = gdO ((ops[j]?).bind (·.dst)) tm want (aops P tb dr ops (⟨dst, op, ty, pos, af, none⟩ :: os) tm hp K) (aops P tb dr ops os (putD dst .top tm) hp K) := Eq.trans rfl rfl
end
theorem gd_tt (A B : Prop) : gdV (some (.e (.lit (.bool true)))) true A B = A := Eq.trans rfl rfl
theorem gd_ff (A B : Prop) : gdV (some (.e (.lit (.bool false)))) false A B = A := Eq.trans rfl rfl
theorem gd_tf (A B : Prop) : gdV (some (.e (.lit (.bool true)))) false A B = B := Eq.trans rfl rfl
theorem gd_ft (A B : Prop) : gdV (some (.e (.lit (.bool false)))) true A B = B := Eq.trans rfl rfl
theorem ev_tmp (tm : List (Nat × D)) (t : Tmp) : evD tm (.tmp t) = (tm.lookup t).getD .top := rfl
theorem ev_const (tm : List (Nat × D)) (v : Value) : evD tm (.const v) = constD v := rfl
theorem co_int (k : IntKind) (n : Int) : constD (.int k n) = .e (.lit (.int k n)) := rfl
theorem co_bool (b : Bool) : constD (.bool b) = .e (.lit (.bool b)) := rfl
theorem co_str (s : ByteArray) : constD (.string s) = .e (.lit (.string s)) := rfl
theorem co_slice (a : Option Addr) (n c : Nat) : constD (.slice a n c) = .e (.lit (.slice a n c)) := rfl
theorem co_agg (l : List Value) : constD (.agg l.toArray) = if l.all Value.oneCell' then .ag (l.map fun u => .e (.lit u)) else .top := rfl
theorem put_some (t : Tmp) (d : D) (tm : List (Nat × D)) : putD (some t) d tm = (t, d) :: tm := rfl
theorem put_none (d : D) (tm : List (Nat × D)) : putD none d tm = tm := rfl
theorem lk_nil {α : Type} (k : Nat) : ([] : List (Nat × α)).lookup k = none := Eq.trans rfl rfl
theorem lk_cons {α : Type} (k j : Nat) (x : α) (l : List (Nat × α)) : ((j, x) :: l).lookup k = bif k == j then some x else l.lookup k := by
  rw [List.lookup_cons]
  cases k == j <;> rfl
theorem hp_var (vs : List (Nat × List D)) (lv : List (Nat × Nat × Nat × TypeId)) (n : Nat) (ds : List D) : (⟨vs, lv, n⟩ : Hp).var ds = ⟨(n, ds) :: vs, lv, n + 1⟩ := rfl
theorem hp_set (vs : List (Nat × List D)) (lv : List (Nat × Nat × Nat × TypeId)) (n k : Nat) (ds : List D) : (⟨vs, lv, n⟩ : Hp).set k ds = ⟨(k, ds) :: vs, lv, n⟩ := rfl
theorem hp_tok (vs : List (Nat × List D)) (lv : List (Nat × Nat × Nat × TypeId)) (n m : Nat) (e : Nat × TypeId) : (⟨vs, lv, n⟩ : Hp).tok m e = ⟨vs, (n, m, e) :: lv, n + 1⟩ := rfl
theorem hp_app (vs : List (Nat × List D)) (lv : List (Nat × Nat × Nat × TypeId)) (n id m : Nat) (e : Nat × TypeId) : (⟨vs, lv, n⟩ : Hp).app id m e = ⟨vs, (id, m, e) :: lv, n⟩ := rfl
theorem wrap_id {z : Int} (h1 : -9223372036854775808 ≤ z) (h2 : z ≤ 9223372036854775807) : IntKind.i64.wrap z = z := by
  rw [IntKind.wrap_i64]; omega
section
variable {P : Program} {tb : TypeId → Option TyE} {hp : Hp} {k : D → Hp → Prop} {kd : D → Prop} {kv : Value → Prop} {ki : Int → Prop}
theorem loadV_pt (t : TypeId) (j off : Nat) : loadV tb t (.pt j off) hp kd = (match tb t, hp.vars.lookup j with
    | some i, some ds => j < hp.next ∧ match i.ty.agg with
      | true => off + i.size ≤ ds.length ∧ kd (.ag ((ds.drop off).take i.size))
      | false => exO (ds[off]?) kd
    | _, _ => False) := Eq.trans rfl rfl
theorem loadV_fp (t : TypeId) (xs : List E) (off : Nat) : loadV tb t (.fp xs off) hp kd = (match tb t with
    | some i => match i.ty.agg with
      | true => off + i.size ≤ xs.length ∧ kd (.ag ((List.range i.size).map fun j => .e (xs.getD (off + j) .any)))
      | false => off < xs.length ∧ kd (.e (xs.getD off .any))
    | _ => False) := Eq.trans rfl rfl
theorem storeV_pt (t : TypeId) (j off : Nat) (x : D) : storeV tb t (.pt j off) x hp k = (match tb t, hp.vars.lookup j, x.cells with
    | some i, some ds, some cs => cs.length = i.size ∧ off + i.size ≤ ds.length ∧ k .top (hp.set j (ds.take off ++ cs ++ ds.drop (off + cs.length)))
    | _, _, _ => False) := Eq.trans rfl rfl
theorem asgV_nil (t : TypeId) : asgV tb t (.e (.lit (.slice none 0 0))) hp k = (match tb t with
    | some i => match i.ty with
      | .slice e => match tb e with
        | some j => 0 < j.size ∧ k (.own hp.next j.size 0 []) (hp.tok 0 (j.size, e))
        | none => k (.e (.lit (.slice none 0 0))) hp
      | _ => k (.e (.lit (.slice none 0 0))) hp
    | none => k (.e (.lit (.slice none 0 0))) hp) := Eq.trans rfl rfl
theorem asgV_int (t : TypeId) (j : IntKind) (n : Int) : asgV tb t (.e (.lit (.int j n))) hp k = k (.e (.lit (.int j n))) hp := Eq.trans rfl rfl
theorem asgV_bool (t : TypeId) (b : Bool) : asgV tb t (.e (.lit (.bool b))) hp k = k (.e (.lit (.bool b))) hp := Eq.trans rfl rfl
theorem asgV_str (t : TypeId) (b : ByteArray) : asgV tb t (.e (.lit (.string b))) hp k = k (.e (.lit (.string b))) hp := Eq.trans rfl rfl
theorem asgV_sl (t : TypeId) (z n : Nat) (xs : List E) : asgV tb t (.e (.sl z n xs)) hp k = k (.e (.sl z n xs)) hp := Eq.trans rfl rfl
theorem asgV_own (t : TypeId) (id z n : Nat) (xs : List E) : asgV tb t (.own id z n xs) hp k = k (.own id z n xs) hp := Eq.trans rfl rfl
theorem asgV_fu (t : TypeId) (z n : Nat) (xs : List E) : asgV tb t (.fu z n xs) hp k = k (.fu z n xs) hp := Eq.trans rfl rfl
theorem asgV_ag (t : TypeId) (ds : List D) : asgV tb t (.ag ds) hp k = k (.ag ds) hp := Eq.trans rfl rfl
theorem asgV_pt (t : TypeId) (j off : Nat) : asgV tb t (.pt j off) hp k = k (.pt j off) hp := Eq.trans rfl rfl
theorem asgV_fp (t : TypeId) (xs : List E) (off : Nat) : asgV tb t (.fp xs off) hp k = k (.fp xs off) hp := Eq.trans rfl rfl
theorem pickV_t (a b : D) : pickV (.e (.lit (.bool true))) a b kd = kd a := Eq.trans rfl rfl
theorem pickV_f (a b : D) : pickV (.e (.lit (.bool false))) a b kd = kd b := Eq.trans rfl rfl
theorem allocV_eq (t : TypeId) : allocV tb t hp k = (match tb t with | some i => k (.pt hp.next 0) (hp.var (i.zero.map fun v => .e (.lit v))) | none => False) := Eq.trans rfl rfl
theorem boxV_eq (d : D) : boxV d hp k = (match d.cells with | some cs => k (.pt hp.next 0) (hp.var cs) | none => False) := Eq.trans rfl rfl
theorem extractV_tu (ds : List D) (i : Nat) : extractV (.tu ds) i kd = exO (ds[i]?) kd := Eq.trans rfl rfl
theorem cells_e (x : E) : (D.e x).cells = some [.e x] := rfl
theorem cells_own (id z n : Nat) (xs : List E) : (D.own id z n xs).cells = some [.own id z n xs] := rfl
theorem cells_fu (z n : Nat) (xs : List E) : (D.fu z n xs).cells = some [.fu z n xs] := rfl
theorem cells_ag (ds : List D) : (D.ag ds).cells = some ds := rfl
theorem cells_pt (j off : Nat) : (D.pt j off).cells = some [.pt j off] := rfl
theorem cells_fp (xs : List E) (off : Nat) : (D.fp xs off).cells = some [.fp xs off] := rfl
theorem cellE_e (x : E) : (D.e x).cellE = some x := rfl
theorem cellE_own (id z n : Nat) (xs : List E) : (D.own id z n xs).cellE = some (.sl z n xs) := rfl
theorem cellE_fu (z n : Nat) (xs : List E) : (D.fu z n xs).cellE = some (.sl z n xs) := rfl
theorem asSl_sl (z z' n : Nat) (xs : List E) : (D.e (.sl z' n xs)).asSl z = if z' = z then some (n, xs) else none := rfl
theorem asSl_own (id z z' n : Nat) (xs : List E) : (D.own id z' n xs).asSl z = if z' = z then some (n, xs) else none := rfl
theorem asSl_fu (z z' n : Nat) (xs : List E) : (D.fu z' n xs).asSl z = if z' = z then some (n, xs) else none := rfl
theorem asSl_nil (z : Nat) : (D.e (.lit (.slice none 0 0))).asSl z = if z = 0 then none else some (0, []) := rfl
theorem strOf_str (s : ByteArray) : (D.e (.lit (.string s))).strOf = some s := rfl
theorem strOf_sl (z n : Nat) (xs : List E) : (D.e (.sl z n xs)).strOf = none := rfl
theorem strOf_own (id z n : Nat) (xs : List E) : (D.own id z n xs).strOf = none := rfl
theorem strOf_fu (z n : Nat) (xs : List E) : (D.fu z n xs).strOf = none := rfl
theorem strOf_nil (a : Option Addr) (n c : Nat) : (D.e (.lit (.slice a n c))).strOf = none := rfl
theorem ex_e (x : E) : (D.e x).ex = .e x := rfl
theorem ex_own (id z n : Nat) (xs : List E) : (D.own id z n xs).ex = .e (.sl z n xs) := rfl
theorem ex_fu (z n : Nat) (xs : List E) : (D.fu z n xs).ex = .e (.sl z n xs) := rfl
theorem ex_ag (ds : List D) : (D.ag ds).ex = .ag (ds.map D.exC) := rfl
theorem ex_tu (ds : List D) : (D.tu ds).ex = .tu ds := rfl
theorem ex_fp (xs : List E) (off : Nat) : (D.fp xs off).ex = .fp xs off := rfl
theorem exC_e (x : E) : (D.e x).exC = .e x := rfl
theorem exC_own (id z n : Nat) (xs : List E) : (D.own id z n xs).exC = .e (.sl z n xs) := rfl
theorem exC_fu (z n : Nat) (xs : List E) : (D.fu z n xs).exC = .e (.sl z n xs) := rfl
theorem pure_e (x : E) : (D.e x).pure = true := rfl
theorem pure_ag (ds : List D) : (D.ag ds).pure = ds.all D.pureC := rfl
theorem pure_fp (xs : List E) (off : Nat) : (D.fp xs off).pure = true := rfl
theorem pureC_e (x : E) : (D.e x).pureC = true := rfl
theorem bin_shl (t : TypeId) (j j' : IntKind) (a b : Int) : binV P .shl t (.e (.lit (.int j a))) (.e (.lit (.int j' b))) kv = (0 ≤ b ∧ kv (.int j (j.wrap (a * 2 ^ min b.toNat j.bits)))) := Eq.trans rfl rfl
theorem bin_shr (t : TypeId) (j j' : IntKind) (a b : Int) : binV P .shr t (.e (.lit (.int j a))) (.e (.lit (.int j' b))) kv = (0 ≤ b ∧ kv (.int j (a.fdiv (2 ^ min b.toNat j.bits)))) := Eq.trans rfl rfl
theorem bin_add (t : TypeId) (j j' : IntKind) (a b : Int) : binV P .add t (.e (.lit (.int j a))) (.e (.lit (.int j' b))) kv = (j = j' ∧ kv (.int j (j.wrap (a + b)))) := Eq.trans rfl rfl
theorem bin_sub (t : TypeId) (j j' : IntKind) (a b : Int) : binV P .sub t (.e (.lit (.int j a))) (.e (.lit (.int j' b))) kv = (j = j' ∧ kv (.int j (j.wrap (a - b)))) := Eq.trans rfl rfl
theorem bin_mul (t : TypeId) (j j' : IntKind) (a b : Int) : binV P .mul t (.e (.lit (.int j a))) (.e (.lit (.int j' b))) kv = (j = j' ∧ kv (.int j (j.wrap (a * b)))) := Eq.trans rfl rfl
theorem bin_quo (t : TypeId) (j j' : IntKind) (a b : Int) : binV P .quo t (.e (.lit (.int j a))) (.e (.lit (.int j' b))) kv = (j = j' ∧ b ≠ 0 ∧ kv (.int j (j.wrap (a.tdiv b)))) := Eq.trans rfl rfl
theorem bin_rem (t : TypeId) (j j' : IntKind) (a b : Int) : binV P .rem t (.e (.lit (.int j a))) (.e (.lit (.int j' b))) kv = (j = j' ∧ b ≠ 0 ∧ kv (.int j (a.tmod b))) := Eq.trans rfl rfl
theorem bin_and (t : TypeId) (j j' : IntKind) (a b : Int) : binV P .and t (.e (.lit (.int j a))) (.e (.lit (.int j' b))) kv = (j = j' ∧ kv (.int j (j.wrap (BitVec.ofInt j.bits a &&& BitVec.ofInt j.bits b).toNat))) := Eq.trans rfl rfl
theorem bin_or (t : TypeId) (j j' : IntKind) (a b : Int) : binV P .or t (.e (.lit (.int j a))) (.e (.lit (.int j' b))) kv = (j = j' ∧ kv (.int j (j.wrap (BitVec.ofInt j.bits a ||| BitVec.ofInt j.bits b).toNat))) := Eq.trans rfl rfl
theorem bin_xor (t : TypeId) (j j' : IntKind) (a b : Int) : binV P .xor t (.e (.lit (.int j a))) (.e (.lit (.int j' b))) kv = (j = j' ∧ kv (.int j (j.wrap (BitVec.ofInt j.bits a ^^^ BitVec.ofInt j.bits b).toNat))) := Eq.trans rfl rfl
theorem bin_eql (t : TypeId) (j j' : IntKind) (a b : Int) : binV P .eql t (.e (.lit (.int j a))) (.e (.lit (.int j' b))) kv = (j = j' ∧ kv (.bool (decide (a = b)))) := Eq.trans rfl rfl
theorem bin_neq (t : TypeId) (j j' : IntKind) (a b : Int) : binV P .neq t (.e (.lit (.int j a))) (.e (.lit (.int j' b))) kv = (j = j' ∧ kv (.bool (decide (a ≠ b)))) := Eq.trans rfl rfl
theorem bin_lss (t : TypeId) (j j' : IntKind) (a b : Int) : binV P .lss t (.e (.lit (.int j a))) (.e (.lit (.int j' b))) kv = (j = j' ∧ kv (.bool (decide (a < b)))) := Eq.trans rfl rfl
theorem bin_leq (t : TypeId) (j j' : IntKind) (a b : Int) : binV P .leq t (.e (.lit (.int j a))) (.e (.lit (.int j' b))) kv = (j = j' ∧ kv (.bool (decide (a ≤ b)))) := Eq.trans rfl rfl
theorem bin_gtr (t : TypeId) (j j' : IntKind) (a b : Int) : binV P .gtr t (.e (.lit (.int j a))) (.e (.lit (.int j' b))) kv = (j = j' ∧ kv (.bool (decide (b < a)))) := Eq.trans rfl rfl
theorem bin_geq (t : TypeId) (j j' : IntKind) (a b : Int) : binV P .geq t (.e (.lit (.int j a))) (.e (.lit (.int j' b))) kv = (j = j' ∧ kv (.bool (decide (b ≤ a)))) := Eq.trans rfl rfl
theorem bin_sadd (t : TypeId) (a b : ByteArray) : binV P .add t (.e (.lit (.string a))) (.e (.lit (.string b))) kv = (a.size + b.size ≤ 9223372036854775807 ∧ kv (.string (a ++ b))) := Eq.trans rfl rfl
theorem bin_beql (t : TypeId) (a b : Bool) : binV P .eql t (.e (.lit (.bool a))) (.e (.lit (.bool b))) kv = (P.underlying t = some .bool ∧ kv (.bool (a == b))) := Eq.trans rfl rfl
theorem bin_bneq (t : TypeId) (a b : Bool) : binV P .neq t (.e (.lit (.bool a))) (.e (.lit (.bool b))) kv = (P.underlying t = some .bool ∧ kv (.bool (!(a == b)))) := Eq.trans rfl rfl
theorem bin_seql (t : TypeId) (a b : ByteArray) : binV P .eql t (.e (.lit (.string a))) (.e (.lit (.string b))) kv = kv (.bool (decide (a = b))) := Eq.trans rfl rfl
theorem bin_sneq (t : TypeId) (a b : ByteArray) : binV P .neq t (.e (.lit (.string a))) (.e (.lit (.string b))) kv = kv (.bool (decide (a ≠ b))) := Eq.trans rfl rfl
theorem nilV_pt (j off : Nat) : nilV (.pt j off) kd = kd (.pt j off) := Eq.trans rfl rfl
theorem nilV_fp (xs : List E) (off : Nat) : nilV (.fp xs off) kd = kd (.fp xs off) := Eq.trans rfl rfl
theorem makeFuncV_0 (f : FuncId) (n : Nat) : makeFuncV (.func f) n [] kd = (n = 0 ∧ kd (.e (.lit (.func (.func f) #[] #[])))) := Eq.trans rfl rfl
theorem makeFuncV_1 (f : FuncId) (n : Nat) (d : D) (ds : List D) : makeFuncV (.func f) n (d :: ds) kd = (n = 0 ∧ match capsV (d :: ds) with
      | some ks => kd (.fn f ks)
      | none => False) := Eq.trans rfl rfl
theorem caps_nil : capsV [] = some [] := rfl
theorem caps_cons (j : Nat) (ds : List D) : capsV (.pt j 0 :: ds) = (capsV ds).map (j :: ·) := rfl
theorem calleeV_lit (hv : Bool) (f : FuncId) (ds : List D) : calleeV P hv (.e (.lit (.func (.func f) #[] #[]))) ds hp k = (0 = 0 ∧ 0 = 0 ∧ callV P hv f ds hp k) := Eq.trans rfl rfl
theorem calleeV_fn (hv : Bool) (f : FuncId) (ks : List Nat) (ds : List D) : calleeV P hv (.fn f ks) ds hp k = callV P hv f (ds ++ ks.map fun k => .pt k 0) hp k := Eq.trans rfl rfl
theorem un_not (t : Bool) : unV .not (.e (.lit (.bool t))) kv = kv (.bool !t) := Eq.trans rfl rfl
theorem un_neg (j : IntKind) (n : Int) : unV .neg (.e (.lit (.int j n))) kv = kv (.int j (j.wrap (0 - n))) := rfl
theorem fieldOff_eq (s : TypeId) (f : Nat) (kf : Nat → Nat → Bool → Prop) : fieldOff tb s f kf = (match tb s with
    | some i => match i.ty with
      | .struct fs => match fs[f]? with
        | some (off, t) => match tb t with
          | some j => kf off j.size j.ty.agg
          | none => False
        | none => False
      | _ => False
    | none => False) := Eq.trans rfl rfl
theorem fieldAddrV_pt (s : TypeId) (f j off : Nat) : fieldAddrV tb s f (.pt j off) kd = fieldOff tb s f fun o z _ => z ≠ 0 ∧ kd (.pt j (off + o)) := Eq.trans rfl rfl
theorem fieldAddrV_fp (s : TypeId) (f : Nat) (xs : List E) (off : Nat) : fieldAddrV tb s f (.fp xs off) kd = fieldOff tb s f fun o z _ => z ≠ 0 ∧ kd (.fp xs (off + o)) := Eq.trans rfl rfl
theorem fieldV_ag (s : TypeId) (f : Nat) (ds : List D) : fieldV tb s f (.ag ds) kd = fieldOff tb s f fun o z g => match g with
      | true => o + z ≤ ds.length ∧ kd (.ag ((ds.drop o).take z))
      | false => exO (ds[o]?) kd := Eq.trans rfl rfl
theorem indexAddrV_eq (t : TypeId) (d : D) (j : IntKind) (x : Int) : indexAddrV tb t d (.e (.lit (.int j x))) kd = (match tb t with
    | some ti => match ti.ty with
      | .slice e => match tb e with
        | some j => match d.asSl j.size with
          | some (n, xs) => (0 ≤ x ∧ x < (n : Int)) ∧ kd (.fp xs (x.toNat * j.size))
          | none => match d with
            | .ow v off z n => z = j.size ∧ (0 ≤ x ∧ x < (n : Int)) ∧ kd (.pt v (off + x.toNat * j.size))
            | _ => False
        | none => False
      | .arr n e => match tb e, d with
        | some j, .pt v off => (0 ≤ x ∧ x < (n : Int)) ∧ kd (.pt v (off + x.toNat * j.size))
        | some j, .fp xs off => (0 ≤ x ∧ x < (n : Int)) ∧ kd (.fp xs (off + x.toNat * j.size))
        | _, _ => False
      | _ => False
    | none => False) := by
  unfold indexAddrV
  cases tb t <;> rfl
theorem indexV_eq (t : TypeId) (d : D) (j : IntKind) (x : Int) : indexV tb t d (.e (.lit (.int j x))) kd = (match tb t with
    | some ti => match ti.ty, d with
      | .str, .e (.lit (.string s)) => (0 ≤ x ∧ x < (s.size : Int)) ∧ kd (.e (.lit (.int .u8 ((s.data.toList.getD x.toNat 0).toNat : Int))))
      | .arr n e, .ag ds => match tb e with
        | some j => (0 ≤ x ∧ x < (n : Int)) ∧ match j.ty.agg with
          | true => x.toNat * j.size + j.size ≤ ds.length ∧ kd (.ag ((ds.drop (x.toNat * j.size)).take j.size))
          | false => ∃ d, ds[x.toNat * j.size]? = some d ∧ kd d
        | none => False
      | _, _ => False
    | none => False) := by
  unfold indexV
  cases tb t <;> rfl
@[congr] theorem boundV_congr {b b' : Option D} {n n' : Int} {k : Int → Prop} (h : b = b') (h' : n = n') : boundV b n k = boundV b' n' k := by rw [h, h']
theorem boundV_none (i : Int) : boundV none i ki = ki i := Eq.trans rfl rfl
theorem boundV_some (j : IntKind) (x i : Int) : boundV (some (.e (.lit (.int j x)))) i ki = ki x := Eq.trans rfl rfl
theorem builtin_len (t : TypeId) (d : D) : builtinV tb .len [t] [d] hp k = lenV tb t d (atInt k hp) := Eq.trans rfl rfl
theorem builtin_min (ts : List TypeId) (j j' : IntKind) (x y : Int) : builtinV tb .min ts [.e (.lit (.int j x)), .e (.lit (.int j' y))] hp k = k (.e (.lit (.int j (min x y)))) hp := by
  unfold builtinV
  split <;> first | rfl | simp_all
theorem builtin_max (ts : List TypeId) (j j' : IntKind) (x y : Int) : builtinV tb .max ts [.e (.lit (.int j x)), .e (.lit (.int j' y))] hp k = k (.e (.lit (.int j (max x y)))) hp := by
  unfold builtinV
  split <;> first | rfl | simp_all
theorem builtin_append (t t' : TypeId) (s x : D) : builtinV tb .append [t, t'] [s, x] hp k = appendV tb t t' s x hp k := Eq.trans rfl rfl
def appOwn (j : TyE) (e : TypeId) (id z n : Nat) (xs : List E) (hp : Hp) (k : D → Hp → Prop) (m : Nat) (ys : List E) : Prop := z = j.size ∧ hp.live.lookup id = some (n, j.size, e) ∧ (n + m) * max 1 j.bytes ≤ 140737488355328 ∧ k (.own id j.size (n + m) (xs ++ ys)) (hp.app id (n + m) (j.size, e))
def appNil (j : TyE) (e : TypeId) (hp : Hp) (k : D → Hp → Prop) (m : Nat) (ys : List E) : Prop := m * max 1 j.bytes ≤ 140737488355328 ∧ k (.own hp.next j.size m ys) (hp.tok m (j.size, e))
theorem appOwn_ap (j : TyE) (e : TypeId) (id z n : Nat) (xs : List E) (m : Nat) (ys : List E) : appOwn j e id z n xs hp k m ys = (z = j.size ∧ hp.live.lookup id = some (n, j.size, e) ∧ (n + m) * max 1 j.bytes ≤ 140737488355328 ∧ k (.own id j.size (n + m) (xs ++ ys)) (hp.app id (n + m) (j.size, e))) := rfl
theorem appNil_ap (j : TyE) (e : TypeId) (m : Nat) (ys : List E) : appNil j e hp k m ys = (m * max 1 j.bytes ≤ 140737488355328 ∧ k (.own hp.next j.size m ys) (hp.tok m (j.size, e))) := rfl
theorem appendV_own (t t' : TypeId) (id z n : Nat) (xs : List E) (x : D) : appendV tb t t' (.own id z n xs) x hp k = (match tb t with
    | some ti => match ti.ty with
      | .slice e => match tb e with
        | some j => 0 < j.size ∧ (x.strOf = none → t' = t) ∧ (x.strOf ≠ none → j.bytes = 1 ∧ j.zero = [.int .u8 0] ∧ j.ty.agg = false) ∧ newsV tb t' j.size x (appOwn j e id z n xs hp k)
        | none => False
      | _ => False
    | none => False) := Eq.trans rfl rfl
def appFu (j : TyE) (e : TypeId) (z n : Nat) (xs : List E) (hp : Hp) (k : D → Hp → Prop) (m : Nat) (ys : List E) : Prop := z = j.size ∧ 0 < m ∧ (n + m) * max 1 j.bytes ≤ 140737488355328 ∧ k (.own hp.next j.size (n + m) (xs ++ ys)) (hp.tok (n + m) (j.size, e))
theorem appFu_ap (j : TyE) (e : TypeId) (z n : Nat) (xs : List E) (m : Nat) (ys : List E) : appFu j e z n xs hp k m ys = (z = j.size ∧ 0 < m ∧ (n + m) * max 1 j.bytes ≤ 140737488355328 ∧ k (.own hp.next j.size (n + m) (xs ++ ys)) (hp.tok (n + m) (j.size, e))) := rfl
theorem appendV_fu (t t' : TypeId) (z n : Nat) (xs : List E) (x : D) : appendV tb t t' (.fu z n xs) x hp k = (match tb t with
    | some ti => match ti.ty with
      | .slice e => match tb e with
        | some j => 0 < j.size ∧ (x.strOf = none → t' = t) ∧ (x.strOf ≠ none → j.bytes = 1 ∧ j.zero = [.int .u8 0] ∧ j.ty.agg = false) ∧ newsV tb t' j.size x (appFu j e z n xs hp k)
        | none => False
      | _ => False
    | none => False) := Eq.trans rfl rfl
theorem appendV_nil (t t' : TypeId) (x : D) : appendV tb t t' (.e (.lit (.slice none 0 0))) x hp k = (match tb t with
    | some ti => match ti.ty with
      | .slice e => match tb e with
        | some j => 0 < j.size ∧ (x.strOf = none → t' = t) ∧ (x.strOf ≠ none → j.bytes = 1 ∧ j.zero = [.int .u8 0] ∧ j.ty.agg = false) ∧ newsV tb t' j.size x (appNil j e hp k)
        | none => False
      | _ => False
    | none => False) := Eq.trans rfl rfl
theorem newsV_eq (t : TypeId) (z : Nat) (x : D) (kn : Nat → List E → Prop) : newsV tb t z x kn = (match tb t with
    | some i => match i.ty, x.strOf with
      | .str, some s => z = 1 ∧ kn s.size (s.data.toList.map fun b => .lit (bv b))
      | .slice _, none => match x.asSl z with
        | some (m, ys) => kn m ys
        | none => False
      | _, _ => False
    | none => False) := rfl
def slH (z n : Nat) (xs : List E) (hi mx : Option D) (kd : D → Prop) (l : Int) : Prop := boundV hi n fun h => (0 ≤ l ∧ l ≤ h ∧ h ≤ (n : Int)) ∧ match mx with
  | none => kd (.e (.sl z (h - l).toNat ((xs.drop (l.toNat * z)).take ((h - l).toNat * z))))
  | some m => boundV (some m) 0 fun m => hi.isSome = true ∧ m = h ∧ kd (.fu z (h - l).toNat ((xs.drop (l.toNat * z)).take ((h - l).toNat * z)))
def slS (s : ByteArray) (hi : Option D) (kd : D → Prop) (l : Int) : Prop := boundV hi s.size fun h => (0 ≤ l ∧ l ≤ h ∧ h ≤ (s.size : Int)) ∧ kd (.e (.lit (.string (s.extract l.toNat h.toNat))))
theorem sliceV_eq (t : TypeId) (d : D) (lo hi mx : Option D) : sliceV tb t d lo hi mx kd = (match tb t with
    | some ti => match ti.ty with
      | .slice e => match tb e with
        | some j => match d.asSl j.size with
          | some (n, xs) => boundV lo 0 (slH j.size n xs hi mx kd)
          | none => False
        | none => False
      | .str => match d, mx with
        | .e (.lit (.string s)), none => boundV lo 0 (slS s hi kd)
        | _, _ => False
      | _ => False
    | none => False) := Eq.trans rfl rfl
theorem slH_none (z n : Nat) (xs : List E) (l : Int) : slH z n xs none none kd l = ((0 ≤ l ∧ l ≤ (n : Int) ∧ (n : Int) ≤ (n : Int)) ∧ kd (.e (.sl z ((n : Int) - l).toNat ((xs.drop (l.toNat * z)).take (((n : Int) - l).toNat * z))))) := rfl
theorem slH_some (z n : Nat) (xs : List E) (j : IntKind) (h l : Int) : slH z n xs (some (.e (.lit (.int j h)))) none kd l = ((0 ≤ l ∧ l ≤ h ∧ h ≤ (n : Int)) ∧ kd (.e (.sl z (h - l).toNat ((xs.drop (l.toNat * z)).take ((h - l).toNat * z))))) := rfl
theorem slH_max (z n : Nat) (xs : List E) (j j' : IntKind) (h m l : Int) : slH z n xs (some (.e (.lit (.int j h)))) (some (.e (.lit (.int j' m)))) kd l = ((0 ≤ l ∧ l ≤ h ∧ h ≤ (n : Int)) ∧ true = true ∧ m = h ∧ kd (.fu z (h - l).toNat ((xs.drop (l.toNat * z)).take ((h - l).toNat * z)))) := rfl
theorem slS_none (s : ByteArray) (l : Int) : slS s none kd l = ((0 ≤ l ∧ l ≤ (s.size : Int) ∧ (s.size : Int) ≤ (s.size : Int)) ∧ kd (.e (.lit (.string (s.extract l.toNat (s.size : Int).toNat))))) := rfl
theorem slS_some (s : ByteArray) (j : IntKind) (h l : Int) : slS s (some (.e (.lit (.int j h)))) kd l = ((0 ≤ l ∧ l ≤ h ∧ h ≤ (s.size : Int)) ∧ kd (.e (.lit (.string (s.extract l.toNat h.toNat))))) := rfl
theorem lenV_eq (t : TypeId) (d : D) : lenV tb t d ki = (match tb t with
    | some ti => match ti.ty with
      | .slice e => match tb e with
        | some j => match d.asSl j.size with
          | some (n, _) => ki n
          | none => match d with
            | .ow _ _ _ n => ki n
            | _ => False
        | none => False
      | .str => match d with
        | .e (.lit (.string s)) => ki s.size
        | _ => False
      | .arr n _ => ki n
      | _ => False
    | none => False) := Eq.trans rfl rfl
theorem partsD_nil : partsD [] = some [] := rfl
theorem partsD_cons (i : Nat) (d : D) (r : List (Nat × D)) : partsD ((i, d) :: r) = (match d.cells, partsD r with
    | some cs, some r => some ((i, cs) :: r)
    | _, _ => none) := rfl
theorem cellsE_nil : cellsE [] = some [] := rfl
theorem cellsE_cons (d : D) (ds : List D) : cellsE (d :: ds) = (match d.cellE, cellsE ds with
    | some x, some xs => some (x :: xs)
    | _, _ => none) := rfl
theorem fillL_nil {α : Type} (place : Nat → Option (Nat × Nat)) (cells : List α) : fillL place cells [] = some cells := rfl
theorem fillL_cons {α : Type} (place : Nat → Option (Nat × Nat)) (cells : List α) (i : Nat) (cs : List α) (r : List (Nat × List α)) : fillL place cells ((i, cs) :: r) = (match place i with
    | none => none
    | some (off, size) => if cs.length ≠ size ∨ off + cs.length > cells.length then none else fillL place (cells.take off ++ cs ++ cells.drop (off + cs.length)) r) := rfl
theorem placeS_eq (fs : List (Nat × TypeId)) (i : Nat) : placeS tb fs i = (match fs[i]? with
    | some (off, t) => (tb t).map fun j => (off, j.size)
    | none => none) := rfl
theorem buildV_eq (t : TypeId) (ps : List (Nat × D)) : buildV tb t ps kd = (match tb t, partsD ps with
    | some i, some qs => match i.ty with
      | .struct fs => (∀ f ∈ fs, (tb f.2).isSome = true) ∧ match fillL (placeS tb fs) (i.zero.map fun v => D.e (.lit v)) qs with
        | some ds => kd (.ag ds)
        | none => False
      | .arr _ e => match tb e with
        | some j => match fillL (fun n => some (n * j.size, j.size)) (i.zero.map fun v => D.e (.lit v)) qs with
          | some ds => kd (.ag ds)
          | none => False
        | none => False
      | _ => False
    | _, _ => False) := Eq.trans rfl rfl
theorem buildSliceV_mt (own : Bool) (t : TypeId) : buildSliceV tb own t 0 [] hp k = (match tb t with
    | some i => match i.ty with
      | .slice e => match tb e with
        | some j => 0 < j.size ∧ 0 * j.size ≤ 16777216 ∧ ([] : List (Nat × List D)) = [] ∧ k (.own hp.next j.size 0 []) (hp.tok 0 (j.size, e))
        | none => False
      | _ => False
    | none => False) := by
  unfold buildSliceV
  cases tb t <;> rfl
theorem buildSliceV_1 (own : Bool) (t : TypeId) (ps : List (Nat × D)) : buildSliceV tb own t 1 ps hp k = (match tb t, partsD ps with
    | some i, some qs => match i.ty with
      | .slice e => match tb e with
        | some j => 0 < j.size ∧ 1 * j.size ≤ 16777216 ∧ match fillL (fun m => some (m * j.size, j.size)) (List.replicate (1 * j.size) (D.e .any)) qs with
            | some ds => match cellsE ds with
              | some xs => match own with
                | true => k (.own hp.next j.size 1 xs) (hp.tok 1 (j.size, e))
                | false => k (.fu j.size 1 xs) hp
              | none => False
            | none => False
        | none => False
      | _ => False
    | _, _ => False) := Eq.trans rfl rfl
theorem buildSliceV_2 (own : Bool) (t : TypeId) (ps : List (Nat × D)) : buildSliceV tb own t 2 ps hp k = (match tb t, partsD ps with
    | some i, some qs => match i.ty with
      | .slice e => match tb e with
        | some j => 0 < j.size ∧ 2 * j.size ≤ 16777216 ∧ match fillL (fun m => some (m * j.size, j.size)) (List.replicate (2 * j.size) (D.e .any)) qs with
            | some ds => match cellsE ds with
              | some xs => match own with
                | true => k (.own hp.next j.size 2 xs) (hp.tok 2 (j.size, e))
                | false => k (.fu j.size 2 xs) hp
              | none => False
            | none => False
        | none => False
      | _ => False
    | _, _ => False) := Eq.trans rfl rfl
theorem buildSliceV_3 (own : Bool) (t : TypeId) (ps : List (Nat × D)) : buildSliceV tb own t 3 ps hp k = (match tb t, partsD ps with
    | some i, some qs => match i.ty with
      | .slice e => match tb e with
        | some j => 0 < j.size ∧ 3 * j.size ≤ 16777216 ∧ match fillL (fun m => some (m * j.size, j.size)) (List.replicate (3 * j.size) (D.e .any)) qs with
            | some ds => match cellsE ds with
              | some xs => match own with
                | true => k (.own hp.next j.size 3 xs) (hp.tok 3 (j.size, e))
                | false => k (.fu j.size 3 xs) hp
              | none => False
            | none => False
        | none => False
      | _ => False
    | _, _ => False) := Eq.trans rfl rfl
theorem buildSliceV_4 (own : Bool) (t : TypeId) (ps : List (Nat × D)) : buildSliceV tb own t 4 ps hp k = (match tb t, partsD ps with
    | some i, some qs => match i.ty with
      | .slice e => match tb e with
        | some j => 0 < j.size ∧ 4 * j.size ≤ 16777216 ∧ match fillL (fun m => some (m * j.size, j.size)) (List.replicate (4 * j.size) (D.e .any)) qs with
            | some ds => match cellsE ds with
              | some xs => match own with
                | true => k (.own hp.next j.size 4 xs) (hp.tok 4 (j.size, e))
                | false => k (.fu j.size 4 xs) hp
              | none => False
            | none => False
        | none => False
      | _ => False
    | _, _ => False) := Eq.trans rfl rfl
theorem buildSliceV_5 (own : Bool) (t : TypeId) (ps : List (Nat × D)) : buildSliceV tb own t 5 ps hp k = (match tb t, partsD ps with
    | some i, some qs => match i.ty with
      | .slice e => match tb e with
        | some j => 0 < j.size ∧ 5 * j.size ≤ 16777216 ∧ match fillL (fun m => some (m * j.size, j.size)) (List.replicate (5 * j.size) (D.e .any)) qs with
            | some ds => match cellsE ds with
              | some xs => match own with
                | true => k (.own hp.next j.size 5 xs) (hp.tok 5 (j.size, e))
                | false => k (.fu j.size 5 xs) hp
              | none => False
            | none => False
        | none => False
      | _ => False
    | _, _ => False) := Eq.trans rfl rfl
theorem buildSliceV_6 (own : Bool) (t : TypeId) (ps : List (Nat × D)) : buildSliceV tb own t 6 ps hp k = (match tb t, partsD ps with
    | some i, some qs => match i.ty with
      | .slice e => match tb e with
        | some j => 0 < j.size ∧ 6 * j.size ≤ 16777216 ∧ match fillL (fun m => some (m * j.size, j.size)) (List.replicate (6 * j.size) (D.e .any)) qs with
            | some ds => match cellsE ds with
              | some xs => match own with
                | true => k (.own hp.next j.size 6 xs) (hp.tok 6 (j.size, e))
                | false => k (.fu j.size 6 xs) hp
              | none => False
            | none => False
        | none => False
      | _ => False
    | _, _ => False) := Eq.trans rfl rfl
theorem call_of {f : FuncId} {az ds : List D} {r : D} (hc : PCalls P f ds r) (ha : az.map D.ex = ds) (hp1 : ds.all D.pure = true) (h : adoptV r hp k) {hv : Bool} : callV P hv f az hp k := by
  subst ha
  exact .inl ⟨hp1, r, hc, h⟩
theorem callH_of {f : FuncId} {az : List D} {d : D} {hp' : Hp} {hv : Bool} (hc : HC P f az hp d hp') (hh : hv = true) (h : k d hp') : callV P hv f az hp k := .inr ⟨hh, d, hp', hc, h⟩
theorem adopt_own (e z n : Nat) (xs : List E) : adoptV (.own e z n xs) hp k = k (.own hp.next z n xs) (hp.tok n (z, e)) := Eq.trans rfl rfl
theorem adopt_e (x : E) : adoptV (.e x) hp k = k (.e x) hp := Eq.trans rfl rfl
theorem adopt_ag (ds : List D) : adoptV (.ag ds) hp k = k (.ag ds) hp := Eq.trans rfl rfl
theorem adopt_tu (ds : List D) : adoptV (.tu ds) hp k = k (.tu ds) hp := Eq.trans rfl rfl
theorem lits_nil : litsOf [] = some [] := rfl
theorem lits_cons (v : Value) (ds : List D) : litsOf (.e (.lit v) :: ds) = (litsOf ds).map (v :: ·) := rfl
theorem AW.condS {x : Cx} {Q : Exit → List (Nat × D) → Hp → Prop} {tm : List (Nat × D)} {c : Operand} {c1 c2 : Code} {b : Bool} (hc : evD tm c = .e (.lit (.bool b))) (ht : b = true → AW P x c1 tm hp Q) (hf : b = false → AW P x c2 tm hp Q) : AW P x (.cond c c1 c2) tm hp Q := by
  refine AW.cond hc ?_
  cases b
  · exact hf rfl
  · exact ht rfl
end
end
section
inductive Bef (ops : Array Oper) : Nat → Nat → Prop
  | edge (i : Nat) (o : Oper) (e : Edge) (hi : ops[i]? = some o) (he : e ∈ o.after) (hb : Region.binds .any e = true) : Bef ops e.on i
  | trans (j i : Nat) (o : Oper) (e : Edge) (hi : ops[i]? = some o) (he : e ∈ o.after) (hb : Region.binds .any e = true) (h : Bef ops j e.on) : Bef ops j i
def fz {α : Type} (n : Nat) (k : Nat → α) : α := match n with
  | 0 => k 0
  | m + 1 => k (m + 1)
theorem fz_eq {α : Type} {n : Nat} {k : Nat → α} : fz n k = k n := by cases n <;> rfl
def look : List (Nat × Nat) → Nat → Nat
  | [], _ => 0
  | (j, b) :: m, k => if Nat.beq j k then b else look m k
def maskOf (m : List (Nat × Nat)) (l : List Edge) (s : Nat) : Nat := match l with
  | [] => s
  | e :: l => if Region.binds .any e then fz (s ||| 2 ^ e.on ||| look m e.on) fun s => maskOf m l s else maskOf m l s
theorem mask_spec (m : List (Nat × Nat)) : ∀ (l : List Edge) (s j : Nat), (maskOf m l s).testBit j = true →
    s.testBit j = true ∨ ∃ e ∈ l, Region.binds .any e = true ∧ (e.on = j ∨ (look m e.on).testBit j = true)
  | [], s, j, h => .inl h
  | e :: l, s, j, h => by
    unfold maskOf at h
    split at h
    · rename_i hb
      rw [fz_eq] at h
      rcases mask_spec m l _ j h with h1 | ⟨e', h1, h2⟩
      · rw [Nat.testBit_or, Nat.testBit_or] at h1
        simp only [Bool.or_eq_true] at h1
        rcases h1 with (h1 | h1) | h1
        · exact .inl h1
        · rw [Nat.testBit_two_pow] at h1
          exact .inr ⟨e, List.mem_cons_self .., hb, .inl (by simpa using h1)⟩
        · exact .inr ⟨e, List.mem_cons_self .., hb, .inr h1⟩
      · exact .inr ⟨e', List.mem_cons_of_mem _ h1, h2⟩
    · rcases mask_spec m l _ j h with h1 | ⟨e', h1, h2⟩
      · exact .inl h1
      · exact .inr ⟨e', List.mem_cons_of_mem _ h1, h2⟩
theorem look_spec {ops : Array Oper} : ∀ {m : List (Nat × Nat)}, (∀ p ∈ m, ∀ j, p.2.testBit j = true → Bef ops j p.1) → ∀ k j, (look m k).testBit j = true → Bef ops j k
  | [], _, k, j, h => by simp [look] at h
  | (i, b) :: m, hm, k, j, h => by
    unfold look at h
    split at h
    · rename_i he
      obtain rfl : i = k := Nat.eq_of_beq_eq_true he
      exact hm _ (List.mem_cons_self ..) j h
    · exact look_spec (fun p hp => hm p (List.mem_cons_of_mem _ hp)) k j h
def tmpsOf (ops : Array Oper) (o : Oper) : List Tmp :=
  (o.op.operands.toList.filterMap fun | .tmp t => some t | _ => none) ++ (match o.guard with
    | some (j, _) => ((ops[j]?).bind (·.dst)).toList
    | none => [])
def subB (a b : Nat) : Bool := Nat.beq (a &&& b) a
theorem subB_spec {a b j : Nat} (h : subB a b = true) (hj : a.testBit j = true) : b.testBit j = true := by
  have h := Nat.eq_of_beq_eq_true h
  rw [← h, Nat.testBit_and] at hj
  simp only [Bool.and_eq_true] at hj
  exact hj.2
def markB (c : Bool) (s i : Nat) : Nat := if c then s ||| 2 ^ i else s
theorem markB_old {c : Bool} {s i j : Nat} (h : s.testBit j = true) : (markB c s i).testBit j = true := by
  unfold markB; split
  · rw [Nat.testBit_or, h]; rfl
  · exact h
theorem markB_new {s i : Nat} : (markB true s i).testBit i = true := by
  unfold markB; rw [if_pos rfl, Nat.testBit_or, Nat.testBit_two_pow]; simp
def usedT (s : List (Tmp × Nat)) (i : Nat) : List Tmp → List (Tmp × Nat)
  | [] => s
  | t :: ts => usedT ((t, i) :: s) i ts
theorem usedT_old {i : Nat} : ∀ {ts : List Tmp} {s : List (Tmp × Nat)} {p : Tmp × Nat}, p ∈ s → p ∈ usedT s i ts
  | [], _, _, h => h
  | _ :: ts, _, _, h => usedT_old (ts := ts) (List.mem_cons_of_mem _ h)
theorem usedT_new {i : Nat} : ∀ {ts : List Tmp} {s : List (Tmp × Nat)} {t : Nat}, t ∈ ts → (t, i) ∈ usedT s i ts
  | t' :: ts, s, t, h => by
    show (t, i) ∈ usedT ((t', i) :: s) i ts
    rcases List.mem_cons.1 h with rfl | h
    · exact usedT_old (List.mem_cons_self ..)
    · exact usedT_new h
def freshB (d : Option Tmp) (b : Nat) (u pr : List (Tmp × Nat)) : Bool := match d with
  | none => true
  | some t => (u.all fun p => !Nat.beq p.1 t || b.testBit p.2) && pr.all fun p => !Nat.beq p.1 t
def consD (d : Option Tmp) (i : Nat) (pr : List (Tmp × Nat)) : List (Tmp × Nat) := match d with
  | none => pr
  | some t => (t, i) :: pr
def fzl {α : Type} : List Nat → (List Nat → α) → α
  | [], k => k []
  | t :: ts, k => fz t fun t => fzl ts fun ts => k (t :: ts)
theorem fzl_eq {α : Type} : ∀ {l : List Nat} {k : List Nat → α}, fzl l k = k l
  | [], _ => rfl
  | _ :: _, _ => by rw [fzl, fz_eq, fzl_eq]
def usedK {α : Type} (u : List (Tmp × Nat)) (i : Nat) : List Tmp → (List (Tmp × Nat) → α) → α
  | [], k => k u
  | t :: ts, k => usedK ((t, i) :: u) i ts k
theorem usedK_eq {α : Type} {i : Nat} : ∀ {ts : List Tmp} {u : List (Tmp × Nat)} {k : List (Tmp × Nat) → α}, usedK u i ts k = k (usedT u i ts)
  | [], _, _ => rfl
  | _ :: ts, _, _ => usedK_eq (ts := ts)
def consK {α : Type} (d : Option Tmp) (i : Nat) (pr : List (Tmp × Nat)) (k : List (Tmp × Nat) → α) : α := match d with
  | none => k pr
  | some t => fz t fun t => k ((t, i) :: pr)
theorem consK_eq {α : Type} {d : Option Tmp} {i : Nat} {pr : List (Tmp × Nat)} {k : List (Tmp × Nat) → α} : consK d i pr k = k (consD d i pr) := by
  cases d with
  | none => rfl
  | some t => rw [consK, fz_eq]; rfl
def ordG (tb : TypeId → Option TyE) (L : List FuncId) (ops : Array Oper) : List Oper → Nat → List (Nat × Nat) → Nat → Nat → Nat → List (Tmp × Nat) → List (Tmp × Nat) → Bool
  | [], _, _, _, _, _, _, _ => true
  | o :: os, i, m, lo, ld, vs, u, pr =>
    fz (maskOf m o.after.toList 0) fun b => fzl (tmpsOf ops o) fun ts =>
    o.after.toList.all (fun e => !Region.binds .any e || Nat.blt e.on i) &&
    (quietL tb L o.op || subB lo b) &&
    (!loadB o.op || subB vs b) &&
    (!varL tb L o.op || subB ld b) &&
    freshB o.dst b u pr &&
    ts.all (fun t => pr.all fun p => !Nat.beq p.1 t || b.testBit p.2) &&
    fz (markB (!quietL tb L o.op) lo i) fun lo => fz (markB (loadB o.op) ld i) fun ld => fz (markB (varL tb L o.op) vs i) fun vs => fz (i + 1) fun i' =>
    usedK u i ts fun u => consK o.dst i pr fun pr => ordG tb L ops os i' ((i, b) :: m) lo ld vs u pr
def ordOK (tb : TypeId → Option TyE) (L : List FuncId) (ops : Array Oper) : Bool := ordG tb L ops ops.toList 0 [] 0 0 0 [] []
structure OrdT (tb : TypeId → Option TyE) (L : List FuncId) (ops : Array Oper) : Prop where
  low : ∀ (i : Nat) (o : Oper) (e : Edge), ops[i]? = some o → e ∈ o.after → Region.binds .any e = true → e.on < i
  dst : ∀ (i j : Nat) (o o' : Oper) (t : Tmp), ops[i]? = some o → ops[j]? = some o' → o.dst = some t → o'.dst = some t → i = j
  data : ∀ (i j : Nat) (o o' : Oper) (t : Tmp), ops[i]? = some o → ops[j]? = some o' → i ≠ j → t ∈ tmpsOf ops o → o'.dst = some t → (j < i ∧ Bef ops j i) ∨ (i < j ∧ Bef ops i j)
  loud : ∀ (i j : Nat) (o o' : Oper), ops[i]? = some o → ops[j]? = some o' → i < j → quietL tb L o.op = false → quietL tb L o'.op = false → Bef ops i j
  vars : ∀ (i j : Nat) (o o' : Oper), ops[i]? = some o → ops[j]? = some o' → i ≠ j → loadB o.op = true → varL tb L o'.op = true → (j < i ∧ Bef ops j i) ∨ (i < j ∧ Bef ops i j)
structure OrdP (tb : TypeId → Option TyE) (L : List FuncId) (ops : Array Oper) (j i : Nat) (o' o : Oper) : Prop where
  dst : ∀ t, o'.dst = some t → o.dst ≠ some t
  fwd : ∀ t, t ∈ tmpsOf ops o → o'.dst = some t → Bef ops j i
  bwd : ∀ t, t ∈ tmpsOf ops o' → o.dst = some t → Bef ops j i
  loud : quietL tb L o.op = false → quietL tb L o'.op = false → Bef ops j i
  v1 : loadB o.op = true → varL tb L o'.op = true → Bef ops j i
  v2 : varL tb L o.op = true → loadB o'.op = true → Bef ops j i
structure OrdI (tb : TypeId → Option TyE) (L : List FuncId) (ops : Array Oper) (i : Nat) (m : List (Nat × Nat)) (lo ld vs : Nat) (u pr : List (Tmp × Nat)) : Prop where
  m : ∀ p ∈ m, ∀ j, p.2.testBit j = true → Bef ops j p.1
  lo : ∀ j o, j < i → ops[j]? = some o → quietL tb L o.op = false → lo.testBit j = true
  ld : ∀ j o, j < i → ops[j]? = some o → loadB o.op = true → ld.testBit j = true
  vs : ∀ j o, j < i → ops[j]? = some o → varL tb L o.op = true → vs.testBit j = true
  u : ∀ j o t, j < i → ops[j]? = some o → t ∈ tmpsOf ops o → (t, j) ∈ u
  pr : ∀ j o t, j < i → ops[j]? = some o → o.dst = some t → (t, j) ∈ pr
theorem ordG_spec {tb : TypeId → Option TyE} {L : List FuncId} {ops : Array Oper} : ∀ (os : List Oper) (i : Nat) (m : List (Nat × Nat)) (lo ld vs : Nat) (u pr : List (Tmp × Nat)), ops.toList.drop i = os → OrdI tb L ops i m lo ld vs u pr → ordG tb L ops os i m lo ld vs u pr = true →
    ∀ k o, i ≤ k → ops[k]? = some o → (∀ e ∈ o.after, Region.binds .any e = true → e.on < k) ∧ ∀ j o', j < k → ops[j]? = some o' → OrdP tb L ops j k o' o
  | [], i, m, lo, ld, vs, u, pr, hd, _, _, k, o, hk, hok => by
    have : ops.toList.length ≤ i := List.drop_eq_nil_iff.1 hd
    have h2 : k < ops.size := (Array.getElem?_eq_some_iff.1 hok).1
    simp at this
    omega
  | o :: os, i, m, lo, ld, vs, u, pr, hd, hI, h, k, ok, hk, hok => by
    have ho : ops[i]? = some o := by
      have : (ops.toList.drop i)[0]? = some o := by rw [hd]; rfl
      rw [List.getElem?_drop] at this
      simpa using this
    have hd' : ops.toList.drop (i + 1) = os := by
      rw [← List.drop_drop, hd]; rfl
    unfold ordG at h
    simp only [fz_eq, fzl_eq, usedK_eq, consK_eq, Bool.and_eq_true] at h
    obtain ⟨⟨⟨⟨⟨⟨h1, h2⟩, h3⟩, h4⟩, h5⟩, h6⟩, h7⟩ := h
    have hb : ∀ j, (maskOf m o.after.toList 0).testBit j = true → Bef ops j i := by
      intro j hj
      rcases mask_spec m _ _ _ hj with h | ⟨e, he, hbi, h⟩
      · simp at h
      · rcases h with rfl | h
        · exact .edge _ o e ho (by simpa using he) hbi
        · exact .trans j _ o e ho (by simpa using he) hbi (look_spec hI.m _ _ h)
    rcases Nat.lt_or_ge i k with hik | hik
    · refine ordG_spec os (i + 1) _ _ _ _ _ _ hd' ?_ h7 k ok hik hok
      have split : ∀ {j : Nat} {oj : Oper} {Q : Nat → Oper → Prop}, j < i + 1 → ops[j]? = some oj → (j < i → ops[j]? = some oj → Q j oj) → Q i o → Q j oj := by
        intro j oj Q hj hoj hold hnew
        rcases Nat.lt_or_ge j i with h | h
        · exact hold h hoj
        · obtain rfl : j = i := by omega
          obtain rfl : o = oj := by rw [ho] at hoj; injection hoj
          exact hnew
      refine ⟨fun p hp => ?_, fun j oj hj hoj => ?_, fun j oj hj hoj => ?_, fun j oj hj hoj => ?_, fun j oj t hj hoj => ?_, fun j oj t hj hoj => ?_⟩
      · rcases List.mem_cons.1 hp with rfl | hp
        · exact hb
        · exact hI.m p hp
      · refine split (Q := fun j oj => quietL tb L oj.op = false → (markB (!quietL tb L o.op) lo i).testBit j = true) hj hoj (fun hj hoj hq => markB_old (hI.lo j oj hj hoj hq)) fun hq => ?_
        rw [hq]; exact markB_new
      · refine split (Q := fun j oj => loadB oj.op = true → (markB (loadB o.op) ld i).testBit j = true) hj hoj (fun hj hoj hq => markB_old (hI.ld j oj hj hoj hq)) fun hq => ?_
        rw [hq]; exact markB_new
      · refine split (Q := fun j oj => varL tb L oj.op = true → (markB (varL tb L o.op) vs i).testBit j = true) hj hoj (fun hj hoj hq => markB_old (hI.vs j oj hj hoj hq)) fun hq => ?_
        rw [hq]; exact markB_new
      · exact split (Q := fun j oj => t ∈ tmpsOf ops oj → (t, j) ∈ usedT u i (tmpsOf ops o)) hj hoj (fun hj hoj hq => usedT_old (hI.u j oj t hj hoj hq)) fun hq => usedT_new hq
      · refine split (Q := fun j oj => oj.dst = some t → (t, j) ∈ consD o.dst i pr) hj hoj (fun hj hoj hq => ?_) fun hq => ?_
        · have := hI.pr j oj t hj hoj hq
          unfold consD
          split
          · exact this
          · exact List.mem_cons_of_mem _ this
        · rw [hq]; exact List.mem_cons_self ..
    · obtain rfl : i = k := by omega
      obtain rfl : o = ok := by rw [ho] at hok; injection hok
      have fresh : ∀ t, o.dst = some t → (∀ j, (t, j) ∈ u → Bef ops j i) ∧ ∀ p ∈ pr, p.1 ≠ t := by
        intro t ht
        rw [ht] at h5
        simp only [freshB, Bool.and_eq_true, Bool.not_eq_true', List.all_eq_true] at h5
        refine ⟨fun j hj => ?_, fun p hp e => ?_⟩
        · have := h5.1 _ hj
          simp only [Nat.beq_refl, Bool.not_true, Bool.false_or] at this
          exact hb j this
        have := h5.2 p hp
        rw [e, Nat.beq_refl] at this
        cases this
      refine ⟨fun e he hbe => ?_, fun j o' hj hoj => ⟨fun t ht ht' => ?_, fun t ht ht' => ?_, fun t ht ht' => ?_, fun hq hq' => ?_, fun hl hv => ?_, fun hv hl => ?_⟩⟩
      · have := List.all_eq_true.1 h1 e (by simpa using he)
        rw [hbe] at this
        simpa [Nat.blt_eq] using this
      · exact (fresh t ht').2 _ (hI.pr j o' t hj hoj ht) rfl
      · have := List.all_eq_true.1 (List.all_eq_true.1 h6 t ht) _ (hI.pr j o' t hj hoj ht')
        simp only [Nat.beq_refl, Bool.not_true, Bool.false_or] at this
        exact hb j this
      · exact (fresh t ht').1 j (hI.u j o' t hj hoj ht)
      · rw [hq] at h2
        exact hb j (subB_spec (by simpa using h2) (hI.lo j o' hj hoj hq'))
      · rw [hl] at h3
        exact hb j (subB_spec (by simpa using h3) (hI.vs j o' hj hoj hv))
      · rw [hv] at h4
        exact hb j (subB_spec (by simpa using h4) (hI.ld j o' hj hoj hl))
theorem ordOK_spec {tb : TypeId → Option TyE} {L : List FuncId} {ops : Array Oper} (h : ordOK tb L ops = true) : OrdT tb L ops := by
  have key := ordG_spec (tb := tb) (L := L) (ops := ops) ops.toList 0 [] 0 0 0 [] [] rfl
    ⟨fun p hp => (by cases hp), fun j o hj => absurd hj (Nat.not_lt_zero _), fun j o hj => absurd hj (Nat.not_lt_zero _), fun j o hj => absurd hj (Nat.not_lt_zero _), fun j o t hj => absurd hj (Nat.not_lt_zero _), fun j o t hj => absurd hj (Nat.not_lt_zero _)⟩ h
  refine ⟨fun i o e hi he hbe => (key i o (Nat.zero_le _) hi).1 e he hbe, fun i j o o' t hi hj ht ht' => ?_, fun i j o o' t hi hj hne ht ht' => ?_, fun i j o o' hi hj hlt hq hq' => ?_, fun i j o o' hi hj hne hq hv => ?_⟩
  · rcases Nat.lt_trichotomy i j with h1 | h1 | h1
    · exact absurd ht' (((key j o' (Nat.zero_le _) hj).2 i o h1 hi).dst t ht)
    · exact h1
    · exact absurd ht (((key i o (Nat.zero_le _) hi).2 j o' h1 hj).dst t ht')
  · rcases Nat.lt_or_ge i j with h1 | h1
    · exact .inr ⟨h1, ((key j o' (Nat.zero_le _) hj).2 i o h1 hi).bwd t ht ht'⟩
    · exact .inl ⟨by omega, ((key i o (Nat.zero_le _) hi).2 j o' (by omega) hj).fwd t ht ht'⟩
  · exact ((key j o' (Nat.zero_le _) hj).2 i o hlt hi).loud hq' hq
  · rcases Nat.lt_or_ge i j with h1 | h1
    · exact .inr ⟨h1, ((key j o' (Nat.zero_le _) hj).2 i o h1 hi).v2 hv hq⟩
    · exact .inl ⟨by omega, ((key i o (Nat.zero_le _) hi).2 j o' (by omega) hj).v1 hq hv⟩
section
variable {P : Program} {tb : TypeId → Option TyE} {L : List FuncId}
structure Run (P : Program) (tb : TypeId → Option TyE) (L : List FuncId) (ops : Array Oper) (n : Nat) (dd : Nat → D) (hh : Nat → Hp) (ac : Nat → Bool) (tms : Nat → List (Nat × D)) : Prop where
  ts : ∀ (i : Nat) (o : Oper), i < n → ops[i]? = some o → tms (i + 1) = putD o.dst (dd i) (tms i)
  on : ∀ (i : Nat) (o : Oper), i < n → ops[i]? = some o → ac i = true → Gd ops o (tms i) true ∧ SndQ P tb (.any L) o (evD (tms i)) (hh i) (dd i) (hh (i + 1))
  off : ∀ (i : Nat) (o : Oper), i < n → ops[i]? = some o → ac i = false → Gd ops o (tms i) false ∧ Offs o (evD (tms i)) (dd i) ∧ hh (i + 1) = hh i
theorem run_of {ops : Array Oper} {K : List (Nat × D) → Hp → Prop} : ∀ (rest : List Oper) (i : Nat) (dd : Nat → D) (hh : Nat → Hp) (ac : Nat → Bool) (tms : Nat → List (Nat × D)), Run P tb L ops i dd hh ac tms → ops.toList.drop i = rest → SOps P tb (.any L) ops K rest (tms i) (hh i) →
    ∃ dd' hh' ac' tms', Run P tb L ops (i + rest.length) dd' hh' ac' tms' ∧ K (tms' (i + rest.length)) (hh' (i + rest.length)) ∧ tms' 0 = tms 0 ∧ hh' 0 = hh 0
  | [], i, dd, hh, ac, tms, hr, _, h => by
    cases h with
    | nil h => exact ⟨dd, hh, ac, tms, hr, h, rfl, rfl⟩
    | wk hmd => cases hmd
  | o :: rest, i, dd, hh, ac, tms, hr, hd, h => by
    have ho : ops[i]? = some o := by
      have : (ops.toList.drop i)[0]? = some o := by rw [hd]; rfl
      rw [List.getElem?_drop] at this
      simpa using this
    have hd' : ops.toList.drop (i + 1) = rest := by
      rw [← List.drop_drop, hd]; rfl
    have ext : ∀ (d : D) (hp' : Hp) (b : Bool), ((b = true → Gd ops o (tms i) true ∧ SndQ P tb (.any L) o (evD (tms i)) (hh i) d hp') ∧ (b = false → Gd ops o (tms i) false ∧ Offs o (evD (tms i)) d ∧ hp' = hh i)) → SOps P tb (.any L) ops K rest (putD o.dst d (tms i)) hp' →
        ∃ dd' hh' ac' tms', Run P tb L ops (i + (o :: rest).length) dd' hh' ac' tms' ∧ K (tms' (i + (o :: rest).length)) (hh' (i + (o :: rest).length)) ∧ tms' 0 = tms 0 ∧ hh' 0 = hh 0 := by
      intro d hp' b hb hrest
      have hrun : Run P tb L ops (i + 1) (fun j => if j = i then d else dd j) (fun j => if j = i + 1 then hp' else hh j) (fun j => if j = i then b else ac j) (fun j => if j = i + 1 then putD o.dst d (tms i) else tms j) := by
        refine ⟨fun j oj hj hoj => ?_, fun j oj hj hoj hac => ?_, fun j oj hj hoj hac => ?_⟩
        · by_cases hji : j = i
          · subst hji
            obtain rfl : o = oj := by rw [ho] at hoj; injection hoj
            simp
          · have h5 := hr.ts j oj (by omega) hoj
            have h6 : j + 1 ≠ i + 1 := by omega
            have h7 : j ≠ i + 1 := by omega
            simp only [h6, h7, hji, if_false]
            exact h5
        · by_cases hji : j = i
          · subst hji
            obtain rfl : o = oj := by rw [ho] at hoj; injection hoj
            have : b = true := by simpa using hac
            simpa using hb.1 this
          · have h5 : ac j = true := by simpa [hji] using hac
            have h6 : j + 1 ≠ i + 1 := by omega
            have h7 : j ≠ i + 1 := by omega
            simp only [h6, h7, hji, if_false]
            exact hr.on j oj (by omega) hoj h5
        · by_cases hji : j = i
          · subst hji
            obtain rfl : o = oj := by rw [ho] at hoj; injection hoj
            have : b = false := by simpa using hac
            simpa using hb.2 this
          · have h5 : ac j = false := by simpa [hji] using hac
            have h6 : j + 1 ≠ i + 1 := by omega
            have h7 : j ≠ i + 1 := by omega
            simp only [h6, h7, hji, if_false]
            exact hr.off j oj (by omega) hoj h5
      obtain ⟨dd', hh', ac', tms', h1, h2, h3, h4⟩ := run_of (ops := ops) (K := K) rest (i + 1) _ _ _ _ hrun hd' (by rw [if_pos rfl, if_pos rfl]; exact hrest)
      refine ⟨dd', hh', ac', tms', ?_, ?_, ?_, ?_⟩
      · rw [List.length_cons, show i + (rest.length + 1) = i + 1 + rest.length by omega]; exact h1
      · rw [List.length_cons, show i + (rest.length + 1) = i + 1 + rest.length by omega]; exact h2
      · rw [h3]; exact if_neg (by omega)
      · rw [h4]; exact if_neg (by omega)
    cases h with
    | on d hp' hg h2 h1 => exact ext d hp' true ⟨fun _ => ⟨hg, h2⟩, fun h => by cases h⟩ h1
    | off d hg hs h1 => exact ext d (hh i) false ⟨fun h => (by cases h), fun _ => ⟨hg, hs, rfl⟩⟩ h1
    | sq hmd => cases hmd
    | wk hmd => cases hmd
theorem Run.quiet_step {ops : Array Oper} {n : Nat} {dd : Nat → D} {hh : Nat → Hp} {ac : Nat → Bool} {tms : Nat → List (Nat × D)} (hr : Run P tb L ops n dd hh ac tms) {j : Nat} {o : Oper} (hj : j < n) (ho : ops[j]? = some o) (hq : quietL tb L o.op = true) : hh (j + 1) = hh j := by
  cases hac : ac j with
  | true => exact ((hr.on j o hj ho hac).2.quiet hq).1
  | false => exact (hr.off j o hj ho hac).2.2
theorem Run.fr_step {ops : Array Oper} {n : Nat} {dd : Nat → D} {hh : Nat → Hp} {ac : Nat → Bool} {tms : Nat → List (Nat × D)} (hr : Run P tb L ops n dd hh ac tms) {j : Nat} {o : Oper} (hj : j < n) (ho : ops[j]? = some o) (hq : varL tb L o.op = false) : Fr (hh j) (hh (j + 1)) := by
  cases hac : ac j with
  | true => exact (hr.on j o hj ho hac).2.fr hq
  | false => rw [(hr.off j o hj ho hac).2.2]; exact Fr.refl _
theorem Fr.trans {a b c : Hp} (h : Fr a b) (h' : Fr b c) : Fr a c := ⟨Nat.le_trans h.1 h'.1, fun j hj => (h'.2 j (Nat.lt_of_lt_of_le hj h.1)).trans (h.2 j hj)⟩
theorem Run.frs {ops : Array Oper} (hh : Nat → Hp) {a b : Nat} (hab : a ≤ b) (hb : b ≤ ops.size) (h : ∀ j o, a ≤ j → j < b → ops[j]? = some o → Fr (hh j) (hh (j + 1))) : Fr (hh a) (hh b) := by
  induction b with
  | zero => obtain rfl : a = 0 := by omega
            exact Fr.refl _
  | succ b ih =>
    rcases Nat.lt_or_ge a (b + 1) with h1 | h1
    · have hlt : b < ops.size := by omega
      exact (ih (by omega) (by omega) fun j o h2 h3 h4 => h j o h2 (by omega) h4).trans (h b ops[b] (by omega) (by omega) (Array.getElem?_eq_getElem hlt))
    · obtain rfl : a = b + 1 := by omega
      exact Fr.refl _
theorem Run.same {α : Type} {ops : Array Oper} (f : Nat → α) {a b : Nat} (hab : a ≤ b) (hb : b ≤ ops.size) (h : ∀ j o, a ≤ j → j < b → ops[j]? = some o → f (j + 1) = f j) : f b = f a := by
  induction b with
  | zero => obtain rfl : a = 0 := by omega
            rfl
  | succ b ih =>
    rcases Nat.lt_or_ge a (b + 1) with h1 | h1
    · have hlt : b < ops.size := by omega
      rw [h b ops[b] (by omega) (by omega) (Array.getElem?_eq_getElem hlt)]
      exact ih (by omega) (by omega) fun j o h2 h3 h4 => h j o h2 (by omega) h4
    · obtain rfl : a = b + 1 := by omega
      rfl
theorem Run.lookup {ops : Array Oper} {n : Nat} {dd : Nat → D} {hh : Nat → Hp} {ac : Nat → Bool} {tms : Nat → List (Nat × D)} (hr : Run P tb L ops n dd hh ac tms) (hn : n ≤ ops.size) : ∀ {i : Nat} {t : Nat} {d : D}, i ≤ n → (tms i).lookup t = some d →
    (∃ j o, j < i ∧ ops[j]? = some o ∧ o.dst = some t ∧ d = dd j) ∨ ((∀ j o, j < i → ops[j]? = some o → o.dst ≠ some t) ∧ (tms 0).lookup t = some d)
  | 0, t, d, _, h => .inr ⟨fun j _ hj => by omega, h⟩
  | i + 1, t, d, hi, h => by
    have hlt : i < ops.size := by omega
    have ho : ops[i]? = some ops[i] := Array.getElem?_eq_getElem hlt
    rw [hr.ts i _ (by omega) ho] at h
    by_cases hd : (ops[i]).dst = some t
    · rw [hd] at h
      rw [show (putD (some t) (dd i) (tms i)).lookup t = some (dd i) from lookup_cons_eq] at h
      injection h with h
      exact .inl ⟨i, _, Nat.lt_succ_self _, ho, hd, h.symm⟩
    · have h' : (tms i).lookup t = some d := by
        rw [← h]
        cases hdd : (ops[i]).dst with
        | none => rfl
        | some s => exact (lookup_cons_ne (fun e => hd (by rw [hdd, e]))).symm
      rcases hr.lookup hn (show i ≤ n by omega) h' with ⟨j, o, h1, h2, h3, h4⟩ | ⟨h1, h2⟩
      · exact .inl ⟨j, o, by omega, h2, h3, h4⟩
      · refine .inr ⟨fun j o hj hoj => ?_, h2⟩
        rcases Nat.lt_or_ge j i with h3 | h3
        · exact h1 j o h3 hoj
        · obtain rfl : j = i := by omega
          obtain rfl : ops[j] = o := by rw [ho] at hoj; injection hoj
          exact hd
def LookL (ops : Array Oper) (dd : Nat → D) (tm0 : List (Nat × D)) (listed : Array Bool) (t : Nat) (d : D) : Prop :=
  (∃ i o, ops[i]? = some o ∧ listed.getD i false = true ∧ o.dst = some t ∧ d = dd i) ∨ ((∀ i o, ops[i]? = some o → listed.getD i false = true → o.dst ≠ some t) ∧ tm0.lookup t = some d)
structure InvA (tb : TypeId → Option TyE) (L : List FuncId) (x : Cx) (ops : Array Oper) (dd : Nat → D) (hh : Nat → Hp) (tm0 : List (Nat × D)) (listed : Array Bool) (a : Act) (w : World) (m : Nat) (g : Gh) : Prop where
  size : listed.size = ops.size
  closed : ∀ (i : Nat) (o : Oper) (e : Edge), ops[i]? = some o → listed.getD i false = true → e ∈ o.after → Region.binds .any e = true → listed.getD e.on false = true
  le : m ≤ ops.size
  loud : ∀ (j : Nat) (o : Oper), ops[j]? = some o → quietL tb L o.op = false → (listed.getD j false = true ↔ j < m)
  hr : HR x.B (hh m) g w
  look : ∀ t d, LookL ops dd tm0 listed t d → RepD (hh m) g w d (a.tmps.getD t undef)
  tsz : a.tmps.size = x.N
  df : a.defers = x.df
  bl : Below x.B x.w0 w
  fr : ∀ p : Addr, p.block < x.B → x.F0 p → g.F p
  mo : Mono x.hp0 x.g0 x.w0 (hh m) g w
theorem Bef.listed {ops : Array Oper} {listed : Array Bool} (hcl : ∀ (i : Nat) (o : Oper) (e : Edge), ops[i]? = some o → listed.getD i false = true → e ∈ o.after → Region.binds .any e = true → listed.getD e.on false = true) {j i : Nat} (h : Bef ops j i) : listed.getD i false = true → listed.getD j false = true := by
  induction h with
  | edge i o e hi he hb => exact fun hl => hcl i o e hi hl he hb
  | trans j i o e hi he hb _ ih => exact fun hl => ih (hcl i o e hi hl he hb)
theorem Bef.ready {ops : Array Oper} {listed : Array Bool} (hcl : ∀ (i : Nat) (o : Oper) (e : Edge), ops[i]? = some o → listed.getD i false = true → e ∈ o.after → Region.binds .any e = true → listed.getD e.on false = true) {j i : Nat} (h : Bef ops j i) (hall : ∀ o, ops[i]? = some o → ∀ e ∈ o.after, Region.binds .any e = true → listed.getD e.on false = true) : listed.getD j false = true := by
  cases h with
  | edge _ o e hi he hb => exact hall o hi e he hb
  | trans _ _ o e hi he hb h => exact h.listed hcl (hall o hi e he hb)
theorem Gd.wanted' {ops : Array Oper} {o : Oper} {tm : List (Nat × D)} {hp : Hp} {w : World} {a : Act} {b : Bool} {g : Gh} (h : Gd ops o tm b) (hr : ∀ t d, t ∈ tmpsOf ops o → tm.lookup t = some d → RepD hp g w d (a.tmps.getD t undef)) : Region.wanted o (yielded ops a.tmps) = b := by
  unfold Gd at h
  unfold Region.wanted
  split at h
  · rename_i hg
    rw [hg, h]
  · rename_i j want hg
    rw [hg]
    dsimp only
    rcases h with ⟨t, c, h1, h2, h3⟩ | ⟨t, h1, h2, rfl⟩
    rotate_left
    · have hm : t ∈ tmpsOf ops o := by
        unfold tmpsOf
        rw [hg]
        dsimp only
        rw [h1]
        exact List.mem_append.2 (.inr (by simp))
      have hv := hr t _ hm h2
      have hy : yielded ops a.tmps j = none := by
        unfold yielded
        rw [h1]
        simp only [Option.bind_some]
        cases ht : a.tmps[t]? with
        | none => rfl
        | some u =>
          have hu : a.tmps.getD t undef = u := by simp [Array.getD_eq_getD_getElem?, ht]
          rw [hu] at hv
          cases hv with
          | tu _ cs hl hr => rfl
      rw [hy]; rfl
    have hm : t ∈ tmpsOf ops o := by
      unfold tmpsOf
      rw [hg]
      dsimp only
      rw [h1]
      exact List.mem_append.2 (.inr (by simp))
    have hv := (hr t _ hm h2).lit
    have hy : yielded ops a.tmps j = some c := by
      unfold yielded
      rw [h1]
      simp only [Option.bind_some]
      cases ht : a.tmps[t]? with
      | none => simp [Array.getD_eq_getD_getElem?, ht, undef] at hv
      | some u =>
        have : u = .bool c := by simpa [Array.getD_eq_getD_getElem?, ht] using hv
        rw [this]
    rw [hy, ← h3]
    rfl
theorem listed_set {listed : Array Bool} {i : Nat} (hi : i < listed.size) (j : Nat) : (listed.setIfInBounds i true).getD j false = true ↔ j = i ∨ listed.getD j false = true := by
  by_cases hji : j = i
  · subst hji
    simp [hi]
  · simp [Array.getD_eq_getD_getElem?, Array.getElem?_setIfInBounds_ne (Ne.symm hji), hji]
def unl (listed : Array Bool) (n : Nat) : Nat := ((List.range n).filter fun j => !listed.getD j false).length
theorem unl_set {listed : Array Bool} {n i : Nat} (hi : i < n) (hs : i < listed.size) (hf : listed.getD i false = false) : unl (listed.setIfInBounds i true) n < unl listed n := by
  unfold unl
  have hsub : ∀ l : List Nat, ((l.filter fun j => !(listed.setIfInBounds i true).getD j false).length ≤ (l.filter fun j => !listed.getD j false).length) ∧ (i ∈ l → (l.filter fun j => !(listed.setIfInBounds i true).getD j false).length < (l.filter fun j => !listed.getD j false).length) := by
    intro l
    induction l with
    | nil => exact ⟨Nat.le_refl _, fun h => by cases h⟩
    | cons k l ih =>
      by_cases hki : k = i
      · subst hki
        have e1 : (listed.setIfInBounds k true).getD k false = true := (listed_set hs k).2 (.inl rfl)
        simp only [List.filter_cons, e1, hf, Bool.not_true, Bool.not_false, if_true, List.length_cons]
        exact ⟨by have := ih.1; simp at this ⊢; omega, fun _ => by have := ih.1; simp at this ⊢; omega⟩
      · have e1 : (listed.setIfInBounds i true).getD k false = listed.getD k false := by
          simp [Array.getD_eq_getD_getElem?, Array.getElem?_setIfInBounds_ne (Ne.symm hki)]
        simp only [List.filter_cons, e1]
        cases listed.getD k false with
        | true => exact ⟨ih.1, fun h => ih.2 (by rcases List.mem_cons.1 h with h | h; exact absurd h.symm hki; exact h)⟩
        | false =>
          simp only [Bool.not_false, if_true, List.length_cons]
          exact ⟨by have := ih.1; omega, fun h => by have := ih.2 (by rcases List.mem_cons.1 h with h | h; exact absurd h.symm hki; exact h); omega⟩
  exact (hsub (List.range n)).2 (by simpa using hi)
theorem varB_of_C {op : Op} (h : varL tb L op = true) : varB tb op = true := by have h := varL_C h; cases op <;> first | rfl | exact h | cases h
theorem loud_of_var {op : Op} (hv : varB tb op = true) : quietL tb L op = false := by
  have h1 : quietB op = false := by
    cases op <;> first | rfl | cases hv | skip
    rename_i c
    obtain ⟨callee, az, ts⟩ := c
    cases callee with
    | builtin b => cases b <;> first | rfl | cases hv
    | _ => first | rfl | cases hv
  have h2 : callIn tb L op = false := by
    cases op <;> first | rfl | skip
    rename_i c
    show ((match c.callee with | .value (.func f) => L.elem f | _ => false) && !hvB tb c) = false
    have hv' : (hvB tb c || cpB tb c) = true := hv
    obtain ⟨callee, az, ts⟩ := c
    cases callee with
    | value x =>
      have hv2 : hvB tb ⟨.value x, az, ts⟩ = true := by simpa [cpB] using hv'
      rw [hv2]; simp
    | _ => rfl
  unfold quietL
  rw [h1, h2]; rfl
theorem wpAny_of {x : Cx} {ops : Array Oper} {dd : Nat → D} {hh : Nat → Hp} {ac : Nat → Bool} {tms : Nat → List (Nat × D)} {Q : Exit → Act → World → Prop} (hN : dstOK x.N ops = true) (hord : OrdT tb L ops) (hrun : Run P tb L ops ops.size dd hh ac tms)
    (hQ : ∀ a w, RS x (tms ops.size) (hh ops.size) a w → Q .normal a w) : ∀ (fuel : Nat) (listed : Array Bool) (a : Act) (w : World) (m : Nat) (g : Gh), InvA tb L x ops dd hh (tms 0) listed a w m g → unl listed ops.size ≤ fuel → wpAny P .any ops Q fuel listed a w := by
  -- when all are listed
  have fin : ∀ (listed : Array Bool) (a : Act) (w : World) (m : Nat) (g : Gh), InvA tb L x ops dd hh (tms 0) listed a w m g → Region.ready .any ops listed = [] → Q .normal a w := by
    intro listed a w m g hI hready
    have hall : ∀ i, i < ops.size → listed.getD i false = true := by
      intro i
      induction i using Nat.strongRecOn with
      | _ i ih =>
        intro hi
        cases hl : listed.getD i false with
        | true => rfl
        | false =>
          exfalso
          have hmem : i ∈ Region.ready .any ops listed := by
            refine mem_ready.2 ⟨?_, ops[i], Array.getElem?_eq_getElem hi, fun e he hb => ?_⟩
            · have hsz := hI.size
              have hlt : i < listed.size := by omega
              simpa [Array.getD_eq_getD_getElem?, hlt] using hl
            · have := hord.low i _ e (Array.getElem?_eq_getElem hi) he hb
              exact ih _ this (by omega)
          rw [hready] at hmem
          cases hmem
    have hhm : hh ops.size = hh m := Run.same (ops := ops) hh hI.le (Nat.le_refl _) fun j o h1 h2 h3 => by
      cases hq : quietL tb L o.op with
      | true => exact hrun.quiet_step h2 h3 hq
      | false =>
        have := (hI.loud j o h3 hq).1 (hall j h2)
        omega
    refine hQ a w ⟨g, ?_, fun t d h => ?_, hI.tsz, hI.df, hI.bl, hI.fr, ?_⟩
    rotate_right
    · rw [hhm]; exact hI.mo
    · rw [hhm]; exact hI.hr
    · rw [hhm]
      refine hI.look t d ?_
      rcases hrun.lookup (Nat.le_refl _) (Nat.le_refl _) h with ⟨j, o, h1, h2, h3, h4⟩ | ⟨h1, h2⟩
      · exact .inl ⟨j, o, h2, hall j h1, h3, h4⟩
      · exact .inr ⟨fun j o hj _ => h1 j o (by
          rcases Nat.lt_or_ge j ops.size with h | h
          · exact h
          · rw [Array.getElem?_eq_none h] at hj; cases hj) hj, h2⟩
  intro fuel
  induction fuel with
  | zero =>
    intro listed a w m g hI hu
    have hnone : Region.ready .any ops listed = [] := by
      cases hr : Region.ready .any ops listed with
      | nil => rfl
      | cons i l =>
        exfalso
        have hi : i ∈ Region.ready .any ops listed := by rw [hr]; exact List.mem_cons_self ..
        obtain ⟨h1, o, ho, _⟩ := mem_ready.1 hi
        have hlt : i < ops.size := (Array.getElem?_eq_some_iff.1 ho).1
        have hs : i < listed.size := by rw [hI.size]; exact hlt
        have hf : listed.getD i false = false := by simpa [Array.getD_eq_getD_getElem?, hs] using h1
        have := unl_set hlt hs hf
        omega
    exact ⟨hnone, fin listed a w m g hI hnone⟩
  | succ fuel ih =>
    intro listed a w m g hI hu
    refine ⟨fun h => fin listed a w m g hI h, fun i hi => ?_⟩
    obtain ⟨h1, o, ho, hall⟩ := mem_ready.1 hi
    have hlt : i < ops.size := (Array.getElem?_eq_some_iff.1 ho).1
    have hs : i < listed.size := by rw [hI.size]; exact hlt
    have hf : listed.getD i false = false := by simpa [Array.getD_eq_getD_getElem?, hs] using h1
    have hnl : ¬ listed.getD i false = true := by rw [hf]; simp
    have hbef : ∀ j, Bef ops j i → listed.getD j false = true := fun j h => h.ready hI.closed fun o' ho' => by
      obtain rfl : o = o' := by rw [ho] at ho'; injection ho'
      exact hall
    have hnot : ∀ j, Bef ops i j → listed.getD j false ≠ true := fun j h hj => hnl (h.listed hI.closed hj)
    have hset := listed_set hs
    have hu' : unl (listed.setIfInBounds i true) ops.size ≤ fuel := by have := unl_set hlt hs hf; omega
    have hdn : ∀ t, o.dst = some t → t < x.N := fun t ht => dstOK_spec hN ho ht
    have hclosed' : ∀ (j : Nat) (o' : Oper) (e : Edge), ops[j]? = some o' → (listed.setIfInBounds i true).getD j false = true → e ∈ o'.after → Region.binds .any e = true → (listed.setIfInBounds i true).getD e.on false = true := by
      intro j o' e hj hl he hb
      refine (hset _).2 (.inr ?_)
      rcases (hset j).1 hl with rfl | hl
      · obtain rfl : o = o' := by rw [ho] at hj; injection hj
        exact hall e he hb
      · exact hI.closed j o' e hj hl he hb
    -- what the operation reads
    have hread : ∀ t d, t ∈ tmpsOf ops o → (tms i).lookup t = some d → LookL ops dd (tms 0) listed t d := by
      intro t d ht hl
      rcases hrun.lookup (Nat.le_refl _) (Nat.le_of_lt hlt) hl with ⟨j, oj, h2, h3, h4, h5⟩ | ⟨h2, h3⟩
      · refine .inl ⟨j, oj, h3, ?_, h4, h5⟩
        rcases hord.data i j o oj t ho h3 (by omega) ht h4 with ⟨_, h⟩ | ⟨h, _⟩
        · exact hbef j h
        · omega
      · refine .inr ⟨fun j oj hj hlj hd => ?_, h3⟩
        by_cases hji : j = i
        · subst hji; exact hnl hlj
        · rcases hord.data i j o oj t ho hj (Ne.symm hji) ht hd with ⟨h, _⟩ | ⟨_, h⟩
          · exact h2 j oj h hj hd
          · exact hnot j h hlj
    have htm : ∀ t d, t ∈ tmpsOf ops o → (tms i).lookup t = some d → RepD (hh m) g w d (a.tmps.getD t undef) := fun t d ht hl => hI.look t d (hread t d ht hl)
    have hopd : ∀ y ∈ o.op.operands, RepD (hh m) g w (evD (tms i) y) (a.eval y) := by
      intro y hy
      cases y with
      | tmp t =>
        show RepD (hh m) g w (((tms i).lookup t).getD .top) _
        cases hl : (tms i).lookup t with
        | none => exact .top _
        | some d =>
          refine htm t d ?_ hl
          unfold tmpsOf
          refine List.mem_append.2 (.inl (List.mem_filterMap.2 ⟨.tmp t, by simpa using hy, rfl⟩))
      | const v => exact constD_rep g v
      | global g' => exact .top _
      | func f => exact .e _ _ (.lit _ rfl)
    -- the invariant behind the operation
    have next : ∀ (a' : Act) (w' : World) (m' : Nat) (g' : Gh) (v : Value), a' = a.put o.dst v → m' ≤ ops.size → (∀ (j : Nat) (o' : Oper), ops[j]? = some o' → quietL tb L o'.op = false → ((listed.setIfInBounds i true).getD j false = true ↔ j < m')) →
        HR x.B (hh m') g' w' → Mono (hh m) g w (hh m') g' w' → RepD (hh m') g' w' (dd i) v → Below x.B w w' → (∀ p : Addr, p.block < x.B → g.F p → g'.F p) → wpAny P .any ops Q fuel (listed.setIfInBounds i true) a' w' := by
      intro a' w' m' g' v ha hm' hloud hr' hmo hd hb hF
      have hmono : ∀ d u, RepD (hh m) g w d u → RepD (hh m') g' w' d u := fun d u h => h.mono hmo
      subst ha
      refine ih _ _ _ m' g' ⟨by simp [hI.size], hclosed', hm', hloud, hr', fun t d hl => ?_, by rw [put_size]; exact hI.tsz, by rw [put_defers]; exact hI.df, hI.bl.trans hb, fun p h1 h2 => hF p h1 (hI.fr p h1 h2), hI.mo.trans hmo⟩ hu'
      by_cases hdt : o.dst = some t
      · have hdd : d = dd i := by
          rcases hl with ⟨j, oj, h2, _, h4, h5⟩ | ⟨h2, _⟩
          · obtain rfl := hord.dst j i oj o t h2 ho h4 hdt
            exact h5
          · exact absurd hdt (h2 i o ho ((hset i).2 (.inl rfl)))
        subst hdd
        rw [hdt, put_same (by rw [hI.tsz]; exact hdn t hdt)]
        exact hd
      · rw [put_other hdt]
        refine hmono _ _ (hI.look t d ?_)
        rcases hl with ⟨j, oj, h2, h3, h4, h5⟩ | ⟨h2, h3⟩
        · refine .inl ⟨j, oj, h2, ?_, h4, h5⟩
          rcases (hset j).1 h3 with rfl | h3
          · obtain rfl : o = oj := by rw [ho] at h2; injection h2
            exact absurd h4 hdt
          · exact h3
        · exact .inr ⟨fun j oj hj hlj => h2 j oj hj ((hset j).2 (.inr hlj)), h3⟩
    -- a loud operation comes up in the order of the text
    have hloud_eq : quietL tb L o.op = false → hh i = hh m ∧ m ≤ i := by
      intro hq
      have hmi : m ≤ i := by
        rcases Nat.lt_or_ge i m with h | h
        · exact absurd ((hI.loud i o ho hq).2 h) hnl
        · exact h
      refine ⟨Run.same (ops := ops) hh hmi (Nat.le_of_lt hlt) fun j oj h2 h3 h4 => ?_, hmi⟩
      cases hqj : quietL tb L oj.op with
      | true => exact hrun.quiet_step (by omega) h4 hqj
      | false =>
        have := (hI.loud j oj h4 hqj).1 (hbef j (hord.loud j i oj o h4 ho h3 hqj hq))
        omega
    have hloud_next : quietL tb L o.op = false → ∀ (j : Nat) (o' : Oper), ops[j]? = some o' → quietL tb L o'.op = false → ((listed.setIfInBounds i true).getD j false = true ↔ j < i + 1) := by
      intro hq j o' hj hqj
      obtain ⟨_, hmi⟩ := hloud_eq hq
      rw [hset, hI.loud j o' hj hqj]
      constructor
      · rintro (rfl | h) <;> omega
      · intro h
        by_cases hji : j = i
        · exact .inl hji
        · exact .inr ((hI.loud j o' hj hqj).1 (hbef j (hord.loud j i o' o hj ho (by omega) hqj hq)))
    have hquiet_next : quietL tb L o.op = true → ∀ (j : Nat) (o' : Oper), ops[j]? = some o' → quietL tb L o'.op = false → ((listed.setIfInBounds i true).getD j false = true ↔ j < m) := by
      intro hq j o' hj hqj
      rw [hset, ← hI.loud j o' hj hqj]
      constructor
      · rintro (rfl | h)
        · obtain rfl : o = o' := by rw [ho] at hj; injection hj
          rw [hq] at hqj; cases hqj
        · exact h
      · exact .inr
    unfold wpOp
    rw [ho]
    dsimp only
    cases hac : ac i with
    | true =>
      obtain ⟨hg, hsnd⟩ := hrun.on i o hlt ho hac
      rw [hg.wanted' htm, if_pos rfl]
      left
      cases hq : quietL tb L o.op with
      | false =>
        obtain ⟨he, _⟩ := hloud_eq hq
        have hok := hsnd.ok
        rw [he] at hok
        refine hok x.B g w a _ _ (x.ht.below hI.bl) hI.hr hopd fun v g' w' hr' mo hd hb hF => ?_
        exact next _ w' (i + 1) g' v rfl hlt (hloud_next hq) hr' mo hd hb hF
      | true =>
        have hv : loadB o.op = true → LdEq o (evD (tms i)) (hh i) (hh m) := by
          intro hld
          have noV : ∀ j oj, ops[j]? = some oj → (m ≤ j ∧ j < i ∨ i ≤ j ∧ j < m) → varL tb L oj.op = false := by
            intro j oj hj hr
            cases hv : varL tb L oj.op with
            | false => rfl
            | true =>
              exfalso
              have hlo : quietL tb L oj.op = false := loud_of_var (varB_of_C hv)
              have hne : i ≠ j := fun e => by
                subst e
                obtain rfl : o = oj := by rw [ho] at hj; injection hj
                rw [hq] at hlo; cases hlo
              rcases hord.vars i j o oj ho hj hne hld hv with ⟨h2, h3⟩ | ⟨h2, h3⟩
              · have := (hI.loud j oj hj hlo).1 (hbef j h3)
                omega
              · have := hnot j h3
                have : ¬ j < m := fun h => this ((hI.loud j oj hj hlo).2 h)
                omega
          intro x hx j off hxe
          have hjm : j < (hh m).next := by
            have h3 := (hopd x hx).un
            rw [hxe] at h3
            generalize a.eval x = u at h3
            cases h3 with
            | pt _ _ hk => exact hk
          have hji : j < (hh i).next := hsnd.lk hld x hx j off hxe
          rcases Nat.le_total m i with hmi | hmi
          · exact ((Run.frs (ops := ops) hh hmi (Nat.le_of_lt hlt) fun j oj h2 h3 h4 => hrun.fr_step (by omega) h4 (noV j oj h4 (.inl ⟨h2, h3⟩))).2 j hjm).symm
          · exact (Run.frs (ops := ops) hh hmi hI.le fun j oj h2 h3 h4 => hrun.fr_step (by have := hI.le; omega) h4 (noV j oj h4 (.inr ⟨h2, h3⟩))).2 j hji
        have hok := (hsnd.quiet hq).2 (hh m) hv
        refine hok x.B g w a _ _ (x.ht.below hI.bl) hI.hr hopd fun v g' w' hr' mo hd hb hF => ?_
        exact next _ w' m g' v rfl hI.le (hquiet_next hq) hr' mo hd hb hF
    | false =>
      obtain ⟨hg, hd, he⟩ := hrun.off i o hlt ho hac
      rw [hg.wanted' htm, if_neg (by simp)]
      cases hq : quietL tb L o.op with
      | false =>
        obtain ⟨he2, _⟩ := hloud_eq hq
        have e3 : hh (i + 1) = hh m := by rw [he, he2]
        exact next _ w (i + 1) g undef rfl hlt (hloud_next hq) (by rw [e3]; exact hI.hr) (by rw [e3]; exact Mono.refl _ _ _) (by rw [e3]; exact hd _ g w a hopd) (Below.refl _ _) fun _ _ h => h
      | true =>
        exact next _ w m g undef rfl hI.le (hquiet_next hq) hI.hr (Mono.refl _ _ _) (hd _ g w a hopd) (Below.refl _ _) fun _ _ h => h
theorem AW.drawS {x : Cx} {tm : List (Nat × D)} {hp : Hp} {Q : Exit → List (Nat × D) → Hp → Prop} {id : Nat} {ops : Array Oper} (hm : P.follows .mixedOrders = true) (hN : dstOK x.N ops = true) (hord : ordOK tb L ops = true)
    (h : ∀ K : List (Nat × D) → Hp → Prop, (∀ tm hp, Q .normal tm hp → K tm hp) → SOps P tb (.any L) ops K ops.toList tm hp) : AW P x (.region id ops true) tm hp Q := by
  intro a w hr
  refine wp_region_any hm ?_
  obtain ⟨dd, hh, ac, tms, hrun, hK, h1, h2⟩ := run_of (ops := ops) ops.toList 0 (fun _ => .top) (fun _ => hp) (fun _ => false) (fun _ => tm) ⟨fun _ _ h => absurd h (by omega), fun _ _ h => absurd h (by omega), fun _ _ h => absurd h (by omega)⟩ rfl (h _ fun _ _ h => h)
  simp only [Nat.zero_add, Array.length_toList] at hrun hK h1 h2
  obtain ⟨g, hr1, htm, hsz, hdf, hB, hF, hM⟩ := hr
  refine wpAny_of hN (ordOK_spec hord) hrun (fun a w hr => ⟨_, _, hr, hK⟩) ops.size _ a _ 0 g ?_ ?_
  · have hnl : ∀ j, ¬ (Array.replicate ops.size false).getD j false = true := by
      intro j
      simp [Array.getD_eq_getD_getElem?, Array.getElem?_replicate]
      split <;> simp
    refine ⟨by simp, fun i _ _ _ hl => absurd hl (hnl i), Nat.zero_le _, fun j _ _ _ => ⟨fun hl => absurd hl (hnl j), fun h => absurd h (by omega)⟩, ?_, fun t d hl => ?_, hsz, hdf, hB.drew, hF, ?_⟩
    rotate_right
    · rw [h2]; exact hM.trans (Mono.keep hp g (Nat.le_refl _) (fun _ _ => rfl))
    · rw [h2]; exact hr1.keep (Nat.le_refl _) (fun _ _ => rfl)
    · rw [h2]
      rcases hl with ⟨i, _, _, hl, _⟩ | ⟨_, hl⟩
      · exact absurd hl (hnl i)
      · rw [h1] at hl
        exact (htm t d hl).mono (Mono.keep hp g (Nat.le_refl _) (fun _ _ => rfl))
  · unfold unl
    exact Nat.le_trans (List.length_filter_le _ _) (by simp)
theorem AW.draw {x : Cx} {tm : List (Nat × D)} {hp : Hp} {Q : Exit → List (Nat × D) → Hp → Prop} (tok : TOk P tb) {id : Nat} {ops : Array Oper} (hm : P.follows .mixedOrders = true) (hN : dstOK x.N ops = true) (hord : ordOK tb [] ops = true)
    (h : ∀ K : List (Nat × D) → Hp → Prop, (∀ tm hp, Q .normal tm hp → K tm hp) → aops P tb true ops ops.toList tm hp K) : AW P x (.region id ops true) tm hp Q :=
  AW.drawS (L := []) hm hN hord fun K hK => SOps.of_aops (md := .any []) nc_any tok (h K hK)
theorem AW.loopW {x : Cx} {tm : List (Nat × D)} {hp : Hp} {Q : Exit → List (Nat × D) → Hp → Prop} {c : Code} {α : Type} (T : α → List (Nat × D)) (H : α → Hp) (Inv : α → Prop) (μ : α → Nat) (s0 : α) (hw : Wk x tm hp (T s0) (H s0)) (h0 : Inv s0)
    (round : ∀ s, Inv s → AW P x c (T s) (H s) fun ex tm' hp' => match ex with | .normal => ∃ s', Wk x tm' hp' (T s') (H s') ∧ Inv s' ∧ μ s' < μ s | ex => Q ex tm' hp') : AW P x (.loop c) tm hp Q := by
  refine AW.loop (fun n tm hp => ∃ s, n = μ s ∧ tm = T s ∧ hp = H s ∧ Inv s) (n := μ s0) hw ⟨s0, rfl, rfl, rfl, h0⟩ ?_
  rintro n tm hp ⟨s, rfl, rfl, rfl, hI⟩
  refine AW.mono (round s hI) ?_
  intro ex tm' hp' h
  cases ex with
  | normal =>
    obtain ⟨s', h1, h2, h3⟩ := h
    exact ⟨_, _, _, h3, h1, s', rfl, rfl, rfl, h2⟩
  | _ => exact h
end
end
section
section
variable {P : Program} {tb : TypeId → Option TyE} {x : Cx} {tm tm' : List (Nat × D)} {hp hp' : Hp}
theorem Wk.look (h0 : x.hp0.next ≤ hp'.next) (hm : hp'.next ≤ hp.next)
    (ht : ∀ p ∈ tm', (∃ d, tm.lookup p.1 = some d ∧ (p.2 = d ∨ p.2 = d.ex)) ∧ p.2.idsB hp'.next = true)
    (hv : ∀ k ds', hp'.vars.lookup k = some ds' → k < hp'.next ∧ ∃ ds, hp.vars.lookup k = some ds ∧ wksL ds ds' ∧ ds'.all (D.idsC hp'.next) = true)
    (hl : ∀ id y, hp'.live.lookup id = some y → id < hp'.next ∧ hp.live.lookup id = some y) : Wk x tm hp tm' hp' := by
  intro a w ⟨g, hr, htm, hsz, hdf, hB, hF, hM⟩
  have hlive : ∀ id y, hp'.live.lookup id = some y → hp.live.lookup id = some y := fun id y h => (hl _ _ h).2
  refine ⟨g, ⟨fun k ds hk => ?_, fun k k' ds ds' hk hk' he => ?_, fun id n e hi => ?_, fun id id' t t' b hi hi' => hr.tinj id id' t t' b (hlive _ _ hi) (hlive _ _ hi'), hr.base, hr.fits⟩, fun t d h => ?_, hsz, hdf, hB, hF, ⟨hM.size, hM.cell, hM.forb, h0, hM.μ, fun id hid n e hl' => hM.live id hid n e (hlive id _ hl'), fun b hb hf => ⟨(hM.fr b hb hf).1, (hM.fr b hb hf).2.1, fun k ds hk => by obtain ⟨_, _, h, _⟩ := hv k ds hk; exact (hM.fr b hb hf).2.2.1 k _ h, fun id t hi => (hM.fr b hb hf).2.2.2 id t (hlive id _ hi)⟩, hM.szs⟩⟩
  · obtain ⟨h0, ds0, h1, hw, h2⟩ := hv _ _ hk
    obtain ⟨_, h3, h4, cs, ty, h5, h6, h7⟩ := hr.var k ds0 h1
    refine ⟨h0, h3, h4, cs, ty, h5, by rw [wksL_len hw]; exact h6, fun j u hu => ⟨fun h => (h7 j u hu).1 (by rw [← wksL_len hw]; exact h), fun d hd => ?_⟩⟩
    obtain ⟨d0, hd0, hdd⟩ := wksL_get hw hd
    have hrep := (h7 j u hu).2 d0 hd0
    have hrep' : RepD hp g w d u := hrep.leC hdd
    exact idsC_rep hrep' (List.all_eq_true.1 h2 d (List.mem_of_getElem? hd)) rfl hlive
  · obtain ⟨_, _, h1, _⟩ := hv _ _ hk
    obtain ⟨_, _, h2, _⟩ := hv _ _ hk'
    exact hr.inj k k' _ _ h1 h2 he
  · obtain ⟨h0, h1⟩ := hl _ _ hi
    obtain ⟨_, us, h2, h3, h4⟩ := hr.tok id n e h1
    refine ⟨h0, us, h2, h3, fun b hb => ⟨(h4 b hb).1, fun k ds hk => ?_⟩⟩
    obtain ⟨_, _, h5, _⟩ := hv _ _ hk
    exact (h4 b hb).2 k _ h5
  · obtain ⟨⟨d0, h1, h3⟩, h2⟩ := ht _ (mem_of_lookup h)
    have hrep := htm t d0 h1
    have hrep' : RepD hp g w d (a.tmps.getD t undef) := by
      rcases h3 with h3 | h3
      · dsimp only at h3; rw [h3]; exact hrep
      · dsimp only at h3; rw [h3]; exact hrep.exD
    exact idsB_rep hrep' h2 rfl hlive
inductive Cov {α : Type} (N : Nat) (ks : List Nat) (vs : List (Nat × α)) : List (Nat × α) → Prop
  | base : Cov N ks vs vs
  | cons {k : Nat} {y : α} {l : List (Nat × α)} (h : N ≤ k ∨ k ∈ ks) (hl : Cov N ks vs l) : Cov N ks vs ((k, y) :: l)
theorem Cov.look {α : Type} {N : Nat} {ks : List Nat} {vs l : List (Nat × α)} (h : Cov N ks vs l) {k : Nat} (h1 : k < N) (h2 : k ∉ ks) : l.lookup k = vs.lookup k := by
  induction h with
  | base => rfl
  | cons h hl ih =>
    rename_i j y l
    rw [← ih]
    exact lookup_cons_ne fun e => by subst e; rcases h with h | h; omega; exact h2 h
inductive TgtV (m : Nat) (l2 vs : List (Nat × List D)) : List Nat → List (Nat × List D) → Prop
  | base : TgtV m l2 vs [] vs
  | cons {k : Nat} {ds' : List D} {ks : List Nat} {l : List (Nat × List D)} (h : k < m ∧ (∃ ds, l2.lookup k = some ds ∧ wksL ds ds') ∧ ds'.all (D.idsC m) = true) (hl : TgtV m l2 vs ks l) : TgtV m l2 vs (k :: ks) ((k, ds') :: l)
theorem TgtV.look {m : Nat} {l2 vs : List (Nat × List D)} {ks : List Nat} {l : List (Nat × List D)} (h : TgtV m l2 vs ks l) {k : Nat} {ds' : List D} (hk : l.lookup k = some ds') :
    (k ∈ ks ∧ k < m ∧ (∃ ds, l2.lookup k = some ds ∧ wksL ds ds') ∧ ds'.all (D.idsC m) = true) ∨ (k ∉ ks ∧ vs.lookup k = some ds') := by
  induction h with
  | base => exact .inr ⟨by simp, hk⟩
  | cons h hl ih =>
    rename_i j es ks l
    by_cases hj : k = j
    · subst hj
      have : some es = some ds' := by rw [← hk]; exact lookup_cons_eq.symm
      injection this with this
      subst this
      exact .inl ⟨List.mem_cons_self .., h⟩
    · rcases ih (by rw [← hk]; exact (lookup_cons_ne hj).symm) with ⟨h1, h2⟩ | ⟨h1, h2⟩
      · exact .inl ⟨List.mem_cons_of_mem _ h1, h2⟩
      · exact .inr ⟨by simp [hj, h1], h2⟩
inductive TgtL (m : Nat) (l2 vs : List (Nat × Nat × Nat × TypeId)) : List Nat → List (Nat × Nat × Nat × TypeId) → Prop
  | base : TgtL m l2 vs [] vs
  | cons {k : Nat} {y : Nat × Nat × TypeId} {ks : List Nat} {l : List (Nat × Nat × Nat × TypeId)} (h : k < m ∧ l2.lookup k = some y) (hl : TgtL m l2 vs ks l) : TgtL m l2 vs (k :: ks) ((k, y) :: l)
theorem TgtL.look {m : Nat} {l2 vs : List (Nat × Nat × Nat × TypeId)} {ks : List Nat} {l : List (Nat × Nat × Nat × TypeId)} (h : TgtL m l2 vs ks l) {k : Nat} {y : Nat × Nat × TypeId} (hk : l.lookup k = some y) :
    (k ∈ ks ∧ k < m ∧ l2.lookup k = some y) ∨ (k ∉ ks ∧ vs.lookup k = some y) := by
  induction h with
  | base => exact .inr ⟨by simp, hk⟩
  | cons h hl ih =>
    rename_i j es ks l
    by_cases hj : k = j
    · subst hj
      have : some es = some y := by rw [← hk]; exact lookup_cons_eq.symm
      injection this with this
      subst this
      exact .inl ⟨List.mem_cons_self .., h⟩
    · rcases ih (by rw [← hk]; exact (lookup_cons_ne hj).symm) with ⟨h1, h2⟩ | ⟨h1, h2⟩
      · exact .inl ⟨List.mem_cons_of_mem _ h1, h2⟩
      · exact .inr ⟨by simp [hj, h1], h2⟩
theorem Wk.fin {vs vars' vars2 : List (Nat × List D)} {lv live' live2 : List (Nat × Nat × Nat × TypeId)} {N m n2 : Nat} {ks kl : List Nat} (h0 : x.hp0 = ⟨vs, lv, N⟩) (hok : HpOk ⟨vs, lv, N⟩) (hN : N ≤ m) (hm : m ≤ n2)
    (hv : TgtV m vars2 vs ks vars') (hc : Cov N ks vs vars2) (hl : TgtL m live2 lv kl live') (hcl : Cov N kl lv live2)
    (ht : ∀ p ∈ tm', (∃ d, tm.lookup p.1 = some d ∧ (p.2 = d ∨ p.2 = d.ex)) ∧ p.2.idsB m = true) : Wk x tm ⟨vars2, live2, n2⟩ tm' ⟨vars', live', m⟩ := by
  refine Wk.look (by rw [h0]; exact hN) hm ht (fun k ds' hk => ?_) (fun id y hy => ?_)
  · rcases hv.look hk with ⟨_, h1, ⟨ds, h2, h3⟩, h4⟩ | ⟨h1, h2⟩
    · exact ⟨h1, ds, h2, h3, h4⟩
    · obtain ⟨h3, h4⟩ := hok.var k ds' h2
      have h3' : k < N := h3
      refine ⟨Nat.lt_of_lt_of_le h3' hN, ds', (hc.look h3' h1).trans h2, wksL_refl _, List.all_eq_true.2 fun d hd => ?_⟩
      have h5 := List.all_eq_true.1 h4 d hd
      show D.idsC m d = true
      exact D.idsC_le hN h5
  · rcases hl.look hy with ⟨_, h1, h2⟩ | ⟨h1, h2⟩
    · exact ⟨h1, h2⟩
    · have h3 : id < N := hok.tok id y h2
      exact ⟨Nat.lt_of_lt_of_le h3 hN, (hcl.look h3 h1).trans h2⟩
theorem rg_1 : List.range 1 = [0] := rfl
theorem rg_2 : List.range 2 = [0, 1] := rfl
theorem rg_3 : List.range 3 = [0, 1, 2] := rfl
theorem rg_4 : List.range 4 = [0, 1, 2, 3] := rfl
theorem rg_5 : List.range 5 = [0, 1, 2, 3, 4] := rfl
theorem rg_6 : List.range 6 = [0, 1, 2, 3, 4, 5] := rfl
theorem rg_7 : List.range 7 = [0, 1, 2, 3, 4, 5, 6] := rfl
theorem rg_8 : List.range 8 = [0, 1, 2, 3, 4, 5, 6, 7] := rfl
theorem beq_add_add (n a b : Nat) : (n + a == n + b) = (a == b) := by
  rw [Bool.eq_iff_iff]; simp
theorem beq_add_r (n b : Nat) : (n == n + b) = (0 == b) := by
  rw [Bool.eq_iff_iff]; simp; omega
theorem beq_add_l (n a : Nat) : (n + a == n) = (a == 0) := by
  rw [Bool.eq_iff_iff]; simp
theorem beq_lt0 {k N : Nat} (h : k < N) : (k == N) = false := by
  rw [Bool.eq_false_iff]; simp; omega
theorem beq_lt {k N : Nat} (h : k < N) (a : Nat) : (k == N + a) = false := by
  rw [Bool.eq_false_iff]; simp; omega
theorem beq_gt0 {k N : Nat} (h : k < N) : (N == k) = false := by
  rw [Bool.eq_false_iff]; simp; omega
theorem beq_gt {k N : Nat} (h : k < N) (a : Nat) : (N + a == k) = false := by
  rw [Bool.eq_false_iff]; simp; omega
end
end
section
structure Kq (d : D) (hp : Hp) (d2 : D) (hp2 : Hp) : Prop where
  d : d2 = d
  hp : hp2 = hp
theorem Kq.here (d : D) (hp : Hp) : Kq d hp d hp := ⟨rfl, rfl⟩
theorem bq_t (c : Bool) : (c == true) = c := by cases c <;> rfl
theorem un_opt (b : Bool) (d : D) : (D.opt b d).un = bif b then d.un else .top := rfl
theorem un_e (x : E) : (D.e x).un = .e x := rfl
theorem un_own (id z n : Nat) (xs : List E) : (D.own id z n xs).un = .own id z n xs := rfl
theorem un_fu (z n : Nat) (xs : List E) : (D.fu z n xs).un = .fu z n xs := rfl
theorem un_ag (ds : List D) : (D.ag ds).un = .ag ds := rfl
theorem un_tu (ds : List D) : (D.tu ds).un = .tu ds := rfl
theorem un_fp (xs : List E) (off : Nat) : (D.fp xs off).un = .fp xs off := rfl
theorem un_pt (k off : Nat) : (D.pt k off).un = .pt k off := rfl
theorem un_ow (k off z n : Nat) : (D.ow k off z n).un = .ow k off z n := rfl
theorem un_fn (f : FuncId) (ks : List Nat) : (D.fn f ks).un = .fn f ks := rfl
def evU (tm : List (Nat × D)) (x : Operand) : D := (evD tm x).un
theorem eu_tmp (tm : List (Nat × D)) (t : Tmp) : evU tm (.tmp t) = ((tm.lookup t).getD .top).un := rfl
theorem ev_func (tm : List (Nat × D)) (f : FuncId) : evD tm (.func f) = .e (.lit (.func (.func f) #[] #[])) := rfl
theorem eu_func (tm : List (Nat × D)) (f : FuncId) : evU tm (.func f) = .e (.lit (.func (.func f) #[] #[])) := rfl
theorem eu_const (tm : List (Nat × D)) (v : Value) : evU tm (.const v) = (constD v).un := rfl
section
variable {P : Program} {tb : TypeId → Option TyE} {dr : Bool} {md : Md}
theorem OpOk.un {o : Oper} {ev : Operand → D} {hp hp' : Hp} {d : D} (h : OpOk P o (fun x => (ev x).un) hp d hp') : OpOk P o ev hp d hp' :=
  fun B g w a Kn Q hTT hr hx hk => h B g w a Kn Q hTT hr (fun x hxx => (hx x hxx).un) hk
theorem SndQ.un {o : Oper} {ev : Operand → D} {hp hp' : Hp} {d : D} (h : SndQ P tb md o (fun x => (ev x).un) hp d hp') : SndQ P tb md o ev hp d hp' :=
  ⟨h.ok.un, fun h1 => ⟨(h.quiet h1).1, fun hp2 h3 => ((h.quiet h1).2 hp2 fun hl x hx j off e => h3 hl x hx j off (by dsimp only at e; rw [un_un] at e; exact e)).un⟩, h.fr, fun hl x hx j off e => h.lk hl x hx j off (by dsimp only; rw [un_un]; exact e)⟩
def OptIds (op : Op) (ev : Operand → D) (d : D) : Prop := (D.opt true d).idsC 0 = true ∨ ∃ (k off off' : Nat) (x : Operand), d = .pt k off ∧ x ∈ op.operands ∧ (ev x = .pt k off' ∨ ∃ b, ev x = .opt b (.pt k off'))
theorem OptIds.ids {op : Op} {ev : Operand → D} {d : D} (h : OptIds op ev d) {hp : Hp} {g : Gh} {w : World} {a : Act} (hx : ∀ x ∈ op.operands, RepD hp g w (ev x) (a.eval x)) (b : Bool) : (D.opt b d).idsC hp.next = true := by
  rcases h with h | ⟨k, off, off', x, rfl, h1, h2⟩
  · have : (D.opt b d).idsC 0 = true := by cases d <;> exact h
    exact D.idsC_le (Nat.zero_le _) this
  · have h3 := hx x h1
    rcases h2 with h2 | ⟨b, h2⟩
    · rw [h2] at h3
      generalize a.eval x = u at h3
      cases h3 with
      | pt _ _ hk => exact (decide_eq_true hk : decide (k < hp.next) = true)
    · rw [h2] at h3
      generalize a.eval x = u at h3
      cases h3 with
      | opt _ _ _ hi _ => exact hi
theorem OpOk.opt {o : Oper} {ev : Operand → D} {hp : Hp} {d : D} (h : OpOk P o ev hp d hp) (hi : OptIds o.op ev d) : OpOk P o ev hp (.opt true d) hp :=
  fun B g w a Kn Q hTT hr hx hk => h B g w a Kn Q hTT hr hx fun v g' w' h1 h2 h3 h4 h5 => hk v g' w' h1 h2 (.opt _ _ _ (hi.ids hx _) fun _ => h3) h4 h5
theorem SndQ.opt {o : Oper} {ev : Operand → D} {hp : Hp} {d : D} (h : SndQ P tb md o ev hp d hp) (hi : OptIds o.op ev d) : SndQ P tb md o ev hp (.opt true d) hp :=
  ⟨h.ok.opt hi, fun h1 => ⟨rfl, fun hp2 h3 => ((h.quiet h1).2 hp2 h3).opt hi⟩, fun _ => Fr.refl _, h.lk⟩
variable {ops : Array Oper} {K : List (Nat × D) → Hp → Prop} {os : List Oper} {tm : List (Nat × D)} {hp hp' : Hp} {t : Tmp} {dst : Option Tmp} {op : Op} {ty : TypeId} {pos : String} {af : Array Edge} {d : D}
theorem AVC.snd (tok : TOk P tb) {o : Oper} {ev : Operand → D} (h : AVC P tb dr o.op o.type ev hp (Kq d hp')) : Snd P tb dr o ev hp d hp' := by
  obtain ⟨d2, hp2, ⟨rfl, rfl⟩, hs⟩ := AVC.sound tok h
  exact hs
theorem st_Q {g : Option (Nat × Bool)} (hg : g = none) (h : SndQ P tb md ⟨dst, op, ty, pos, af, g⟩ (evD tm) hp d hp') (h2 : SOps P tb md ops K os (putD dst d tm) hp') : SOps P tb md ops K (⟨dst, op, ty, pos, af, g⟩ :: os) tm hp := by
  subst hg
  exact .on d hp' rfl h h2
theorem st (tok : TOk P tb) (hn : md.nc tb op = true) (h : AVC P tb md.dr op ty (evD tm) hp (Kq d hp')) (h2 : SOps P tb md ops K os ((t, d) :: tm) hp') : SOps P tb md ops K (⟨some t, op, ty, pos, af, none⟩ :: os) tm hp :=
  st_Q rfl ((AVC.snd tok (o := ⟨some t, op, ty, pos, af, none⟩) h).q hn) h2
theorem st_n (tok : TOk P tb) (hn : md.nc tb op = true) (h : AVC P tb md.dr op ty (evD tm) hp (Kq d hp')) (h2 : SOps P tb md ops K os tm hp') : SOps P tb md ops K (⟨none, op, ty, pos, af, none⟩ :: os) tm hp :=
  st_Q rfl ((AVC.snd tok (o := ⟨none, op, ty, pos, af, none⟩) h).q hn) h2
theorem q_call (tok : TOk P tb) {g : Option (Nat × Bool)} {f : FuncId} {az : List Operand} {ts : Array TypeId} {ev : Operand → D} {r : D} (hev : ev (.func f) = .e (.lit (.func (.func f) #[] #[]))) (hc : PCalls P f ((az.map ev).map D.ex) r) (hp1 : ((az.map ev).map D.ex).all D.pure = true) (hr : r.pure = true ∨ ∃ ds, r = .tu ds) :
    SndQ P tb md ⟨dst, .call ⟨.value (.func f), az.toArray, ts⟩, ty, pos, af, g⟩ ev hp r hp := by
  have key : ∀ hp2 : Hp, OpOk P ⟨dst, .call ⟨.value (.func f), az.toArray, ts⟩, ty, pos, af, g⟩ ev hp2 r hp2 := fun hp2 =>
    (AVC.snd (dr := true) tok (o := ⟨dst, .call ⟨.value (.func f), az.toArray, ts⟩, ty, pos, af, g⟩) (ev := ev) (hp := hp2) (d := r) (hp' := hp2) (by
      show calleeV P (hvB tb ⟨.value (.func f), az.toArray, ts⟩) (ev (.func f)) (az.toArray.toList.map ev) hp2 (Kq r hp2)
      rw [hev]
      refine ⟨rfl, rfl, .inl ⟨hp1, r, hc, ?_⟩⟩
      unfold adoptV
      split
      · rcases hr with hr | ⟨_, hr⟩ <;> cases hr
      · rcases hr with hr | ⟨_, hr⟩ <;> cases hr
      · exact Kq.here _ _)).ok
  exact ⟨key hp, fun _ => ⟨rfl, fun hp2 _ => key hp2⟩, fun _ => Fr.refl _, fun h => by cases h⟩
variable {j : Nat} {want c : Bool} {s : Tmp}
theorem st_on (hj : (ops[j]?).bind (·.dst) = some s) (hc : tm.lookup s = some (.e (.lit (.bool c)))) (hw : (c == want) = true) (h : SndQ P tb md ⟨dst, op, ty, pos, af, some (j, want)⟩ (evD tm) hp d hp') (h2 : SOps P tb md ops K os (putD dst d tm) hp') : SOps P tb md ops K (⟨dst, op, ty, pos, af, some (j, want)⟩ :: os) tm hp :=
  .on d hp' (.inl ⟨s, c, hj, hc, hw⟩) h h2
theorem st_optQ (hj : (ops[j]?).bind (·.dst) = some s) (hc : tm.lookup s = some (.e (.lit (.bool c)))) {b : Bool} (hb : (c == want) = b) (h : b = true → SndQ P tb md ⟨some t, op, ty, pos, af, some (j, want)⟩ (evU tm) hp d hp) (hi : OptIds op (evD tm) d)
    (h2 : SOps P tb md ops K os ((t, .opt b d) :: tm) hp) : SOps P tb md ops K (⟨some t, op, ty, pos, af, some (j, want)⟩ :: os) tm hp := by
  cases b with
  | true => exact .on _ _ (.inl ⟨s, c, hj, hc, hb⟩) (((h rfl).un).opt hi) h2
  | false =>
    exact .off (.opt false d) (.inl ⟨s, c, hj, hc, hb⟩) (fun hp g w a hx => .opt _ _ _ (hi.ids hx _) fun h => by cases h) h2
theorem Snd.q1 {o : Oper} {ev : Operand → D} {hp hp' : Hp} {d : D} (h : Snd P tb true o ev hp d hp') (hn : md.nc tb o.op = true) : SndQ P tb md o ev hp d hp' := by
  cases md with
  | seq => exact ⟨h.ok, fun hq => (by cases hq), h.fr, h.lk⟩
  | any L => exact Snd.q (md := .any L) h hn
theorem st_opt (tok : TOk P tb) (hn : md.nc tb op = true) (hj : (ops[j]?).bind (·.dst) = some s) (hc : tm.lookup s = some (.e (.lit (.bool c)))) {b : Bool} (hb : (c == want) = b) (h : b = true → AVC P tb true op ty (evU tm) hp (Kq d hp)) (hi : OptIds op (evD tm) d)
    (h2 : SOps P tb md ops K os ((t, .opt b d) :: tm) hp) : SOps P tb md ops K (⟨some t, op, ty, pos, af, some (j, want)⟩ :: os) tm hp :=
  st_optQ hj hc hb (fun h' => (AVC.snd tok (dr := true) (o := ⟨some t, op, ty, pos, af, some (j, want)⟩) (h h')).q1 hn) hi h2
theorem st_pickB (tok : TOk P tb) {cn x y : Operand} {b : Bool} {r : Value} (hc : evD tm cn = .e (.lit (.bool b))) (h1 : b = true → (evD tm x).un = .e (.lit r)) (h0 : b = false → (evD tm y).un = .e (.lit r)) (h2 : SOps P tb md ops K os ((t, .e (.lit r)) :: tm) hp) :
    SOps P tb md ops K (⟨some t, .pick cn x y, ty, pos, af, none⟩ :: os) tm hp := by
  refine .on _ _ rfl (SndQ.un ((AVC.snd (dr := md.dr) tok (o := ⟨some t, .pick cn x y, ty, pos, af, none⟩) (d := .e (.lit r)) (hp' := hp) ?_).q (by cases md <;> rfl))) h2
  show pickV ((evD tm cn).un) ((evD tm x).un) ((evD tm y).un) (fun d => Kq _ _ d hp)
  rw [hc]
  cases b with
  | true => rw [h1 rfl]; exact Kq.here _ _
  | false => rw [h0 rfl]; exact Kq.here _ _
theorem st_and (tok : TOk P tb) {cn x : Operand} {b q : Bool} (hc : evD tm cn = .e (.lit (.bool b))) (h1 : b = true → (evD tm x).un = .e (.lit (.bool q))) (h2 : SOps P tb md ops K os ((t, .e (.lit (.bool (b && q)))) :: tm) hp) :
    SOps P tb md ops K (⟨some t, .pick cn x (.const (.bool false)), ty, pos, af, none⟩ :: os) tm hp :=
  st_pickB tok hc (fun h => by rw [h1 h, h]; rfl) (fun h => by rw [h]; rfl) h2
variable {ev : Operand → D} {k : D → Hp → Prop}
theorem av_move (x : Operand) : AVC P tb dr (.move x) ty ev hp k = k (ev x) hp := Eq.trans rfl rfl
theorem av_assign (x : Operand) : AVC P tb dr (.assign x) ty ev hp k = asgV tb ty (ev x) hp k := Eq.trans rfl rfl
theorem av_pick (c x y : Operand) : AVC P tb dr (.pick c x y) ty ev hp k = pickV (ev c) (ev x) (ev y) (atHp k hp) := Eq.trans rfl rfl
theorem av_alloc (t : TypeId) : AVC P tb dr (.alloc t) ty ev hp k = allocV tb t hp k := Eq.trans rfl rfl
theorem av_box (t : TypeId) (x : Operand) : AVC P tb dr (.box t x) ty ev hp k = boxV (ev x) hp k := Eq.trans rfl rfl
theorem av_build (t : TypeId) (ps : List (Nat × Operand)) : AVC P tb dr (.build t ps.toArray) ty ev hp k = buildV tb t (ps.map fun p => (p.1, ev p.2)) (atHp k hp) := Eq.trans rfl rfl
theorem av_buildSlice (t : TypeId) (n : Nat) (ps : List (Nat × Operand)) : AVC P tb dr (.buildSlice t n ps.toArray) ty ev hp k = buildSliceV tb (!dr) t n (ps.map fun p => (p.1, ev p.2)) hp k := Eq.trans rfl rfl
theorem av_load (t : TypeId) (x : Operand) : AVC P tb dr (.load t x) ty ev hp k = loadV tb t (ev x) hp (atHp k hp) := Eq.trans rfl rfl
theorem av_store (t : TypeId) (x y : Operand) : AVC P tb dr (.store t x y) ty ev hp k = storeV tb t (ev x) (ev y) hp k := Eq.trans rfl rfl
theorem av_binOp (o : BinOp) (t t' : TypeId) (x y : Operand) : AVC P tb dr (.binOp o t x y t') ty ev hp k = binV P o t (ev x) (ev y) (atLit k hp) := Eq.trans rfl rfl
theorem av_unOp (o : UnOp) (t : TypeId) (x : Operand) : AVC P tb dr (.unOp o t x) ty ev hp k = unV o (ev x) (atLit k hp) := Eq.trans rfl rfl
theorem av_convert (s t : TypeId) (x : Operand) : AVC P tb dr (.convert s t x) ty ev hp k = convV tb s t (ev x) (atHp k hp) := Eq.trans rfl rfl
theorem conv_eq (s t : TypeId) (d : D) (kf : D → Prop) : convV tb s t d kf = (match tb s, tb t with
  | some i, some j => match j.ty, d with
    | .int jk, .e (.lit (.int _ n)) => kf (.e (.lit (.int jk (jk.wrap n))))
    | .str, .e (.lit (.string s)) => kf (.e (.lit (.string s)))
    | .str, d => match i.ty with
      | .slice e => match tb e with
        | some l => l.ty = .int .u8 ∧ match d.asSl 1 with
          | some (_, xs) => match bytesOf xs with
            | some bs => kf (.e (.lit (.string ⟨bs.toArray⟩)))
            | none => False
          | none => False
        | none => False
      | _ => False
    | _, _ => False
  | _, _ => False) := Eq.trans rfl rfl
theorem bytesOf_nil : bytesOf [] = some [] := rfl
theorem bytesOf_cons (n : Int) (xs : List E) : bytesOf (.lit (.int .u8 n) :: xs) = (bytesOf xs).map (UInt8.ofNat n.toNat :: ·) := by
  simp only [bytesOf, byteOf]
  cases bytesOf xs <;> rfl
theorem bytesOf_map : ∀ (l : List UInt8), bytesOf (l.map fun b => .lit (bv b)) = some l
  | [] => rfl
  | b :: l => by
    rw [List.map_cons, bv, bytesOf_cons, bytesOf_map l]
    simp
theorem av_slice (t : TypeId) (x : Operand) (lo hi mx : Option Operand) : AVC P tb dr (.slice t x lo hi mx) ty ev hp k = sliceV tb t (ev x) (lo.map ev) (hi.map ev) (mx.map ev) (atHp k hp) := Eq.trans rfl rfl
theorem av_fieldAddr (t : TypeId) (x : Operand) (f : Nat) : AVC P tb dr (.fieldAddr t x f) ty ev hp k = fieldAddrV tb t f (ev x) (atHp k hp) := Eq.trans rfl rfl
theorem av_indexAddr (t : TypeId) (x i : Operand) : AVC P tb dr (.indexAddr t x i) ty ev hp k = indexAddrV tb t (ev x) (ev i) (atHp k hp) := Eq.trans rfl rfl
theorem av_extract (x : Operand) (i : Nat) : AVC P tb dr (.extract x i) ty ev hp k = extractV (ev x) i (atHp k hp) := Eq.trans rfl rfl
theorem av_len (x : List Operand) (ts : List TypeId) : AVC P tb dr (.call ⟨.builtin .len, x.toArray, ts.toArray⟩) ty ev hp k = builtinV tb .len ts (x.map ev) hp k := Eq.trans rfl rfl
theorem av_builtin (b : Builtin) (az : List Operand) (ts : List TypeId) : AVC P tb dr (.call ⟨.builtin b, az.toArray, ts.toArray⟩) ty ev hp k = builtinV tb b ts (az.map ev) hp k := Eq.trans rfl rfl
theorem av_call (f : FuncId) (az : List Operand) (ts : Array TypeId) : AVC P tb dr (.call ⟨.value (.func f), az.toArray, ts⟩) ty (evD tm) hp k = (0 = 0 ∧ 0 = 0 ∧ callV P (hvB tb ⟨.value (.func f), az.toArray, ts⟩) f (az.map (evD tm)) hp k) := Eq.trans rfl rfl
theorem av_callU (f : FuncId) (az : List Operand) (ts : Array TypeId) : AVC P tb dr (.call ⟨.value (.func f), az.toArray, ts⟩) ty (evU tm) hp k = (0 = 0 ∧ 0 = 0 ∧ callV P (hvB tb ⟨.value (.func f), az.toArray, ts⟩) f (az.map (evU tm)) hp k) := Eq.trans rfl rfl
theorem av_calltmp (t : Tmp) (az : List Operand) (ts : Array TypeId) : AVC P tb dr (.call ⟨.value (.tmp t), az.toArray, ts⟩) ty ev hp k = calleeV P true (ev (.tmp t)) (az.map ev) hp k := Eq.trans rfl rfl
theorem av_nilCheck (x : Operand) : AVC P tb dr (.nilCheck x) ty ev hp k = nilV (ev x) (atHp k hp) := Eq.trans rfl rfl
end
theorem HpOk.nil : HpOk ⟨[], [], 0⟩ := ⟨fun _ _ h => by simp at h, fun _ _ h => by simp at h⟩
def leL : List D → List D → Prop
  | [], [] => True
  | d :: ds, d' :: ds' => d.le d' ∧ leL ds ds'
  | _, _ => False
theorem leL_get : ∀ {ds ds' : List D}, leL ds ds' → ds'.length = ds.length ∧ ∀ {j : Nat} {d' : D}, ds'[j]? = some d' → ∃ d, ds[j]? = some d ∧ d.le d'
  | [], [], _ => ⟨rfl, fun h => by simp at h⟩
  | d :: ds, d' :: ds', h => ⟨by simp [(leL_get h.2).1], fun {j} {e} he => by
    cases j with
    | zero => exact ⟨d, rfl, by have : d' = e := by simpa using he
                                rw [← this]; exact h.1⟩
    | succ j => exact (leL_get h.2).2 (by simpa using he)⟩
  | [], _ :: _, h => h.elim
  | _ :: _, [], h => h.elim
theorem PCalls.le {P : Program} {f : FuncId} {ds ds' : List D} {r : D} (hc : PCalls P f ds' r) (h : leL ds ds') : PCalls P f ds r := by
  obtain ⟨hlen, hget⟩ := leL_get h
  refine ⟨hc.1, fun w F vs hTT hF hsz hvs => hc.2 w F vs hTT hF (by rw [hsz, hlen]) fun j d' u hd hu => ?_⟩
  obtain ⟨d, hd0, hle⟩ := hget hd
  exact RepD.le (hvs j d u hd0 hu) hle
theorem retH1 {x : Cx} {tb : TypeId → Option TyE} {tm : List (Nat × D)} {hp hp' : Hp} {t : Tmp} {d r : D} (_ht : tm.lookup t = some d) (he : r = d.ex) (hw : Wk x tm hp [(t, d.ex)] hp') : ∃ tm', Wk x tm hp tm' hp' ∧ RetH tb [.tmp t] tm' hp' r :=
  ⟨_, hw, _, lookup_cons_eq, he⟩
def keepO (o : Option D) (t : Nat) (r : List (Nat × D)) : List (Nat × D) := match o with
  | some d => (t, d) :: r
  | none => r
def keepT (tm : List (Nat × D)) : List Nat → List (Nat × D)
  | [] => []
  | t :: l => keepO (tm.lookup t) t (keepT tm l)
theorem keepT_nil (tm : List (Nat × D)) : keepT tm [] = [] := rfl
theorem keepT_cons (tm : List (Nat × D)) (t : Nat) (l : List Nat) : keepT tm (t :: l) = keepO (tm.lookup t) t (keepT tm l) := rfl
theorem keepO_some (d : D) (t : Nat) (r : List (Nat × D)) : keepO (some d) t r = (t, d) :: r := rfl
theorem keepO_none (t : Nat) (r : List (Nat × D)) : keepO none t r = r := rfl
theorem keepT_look {tm : List (Nat × D)} : ∀ {l : List Nat} {t : Nat} {d : D}, (keepT tm l).lookup t = some d → tm.lookup t = some d
  | [], t, d, h => by simp [keepT] at h
  | s :: l, t, d, h => by
    unfold keepT keepO at h
    split at h
    · rename_i e hs
      by_cases hts : t = s
      · subst hts
        have : some e = some d := by rw [← h]; exact lookup_cons_eq.symm
        rw [hs, this]
      · exact keepT_look (l := l) (by rw [← h]; exact (lookup_cons_ne hts).symm)
    · exact keepT_look h
theorem AW.keep {P : Program} {x : Cx} {c : Code} {tm : List (Nat × D)} {hp : Hp} {Q : Exit → List (Nat × D) → Hp → Prop} (l : List Nat) (h : AW P x c (keepT tm l) hp Q) : AW P x c tm hp Q :=
  AW.weak (fun _ _ ⟨g, h1, h2, h3⟩ => ⟨g, h1, fun t d ht => h2 t d (keepT_look ht), h3⟩) h
theorem AW.regS {P : Program} {x : Cx} {tm : List (Nat × D)} {hp : Hp} {Q : Exit → List (Nat × D) → Hp → Prop} (tb : TypeId → Option TyE) {id : Nat} {l : List Oper} (hN : dstOK x.N l.toArray = true) (h : ∀ K : List (Nat × D) → Hp → Prop, (∀ tm hp, Q .normal tm hp → K tm hp) → SOps P tb .seq l.toArray K l tm hp) : AW P x (.region id l.toArray false) tm hp Q := AW.regionS hN h
theorem AW.drwS {P : Program} {x : Cx} {tm : List (Nat × D)} {hp : Hp} {Q : Exit → List (Nat × D) → Hp → Prop} (tb : TypeId → Option TyE) (L : List FuncId) {id : Nat} {l : List Oper} (hm : P.follows .mixedOrders = true) (hN : dstOK x.N l.toArray = true) (hord : ordOK tb L l.toArray = true) (h : ∀ K : List (Nat × D) → Hp → Prop, (∀ tm hp, Q .normal tm hp → K tm hp) → SOps P tb (.any L) l.toArray K l tm hp) : AW P x (.region id l.toArray true) tm hp Q := AW.drawS hm hN hord h
end
def sg (N0 : Nat) (os : List Nat) (i : Nat) : Nat := bif decide (i < N0) then i else os.getD (i - N0) 0
def D.renC (σ : Nat → Nat) : D → D
  | .own id z n xs => .own (σ id) z n xs
  | .pt k o => .pt (σ k) o
  | .ow k o z n => .ow (σ k) o z n
  | .gw k z n => .gw (σ k) z n
  | .fn f ks => .fn f (ks.map σ)
  | d => d
def D.ren (σ : Nat → Nat) : D → D
  | .ag ds => .ag (ds.map (D.renC σ))
  | .tu ds => .tu (ds.map (D.renC σ))
  | d => d.renC σ
def D.noO : D → Bool
  | .opt _ _ => false
  | _ => true
def D.noOs : D → Bool
  | .ag ds => ds.all D.noO
  | .tu ds => ds.all D.noO
  | d => d.noO
theorem renC_rep {σ : Nat → Nat} {hp hp2 : Hp} {g g2 : Gh} {w : World} {m : Nat} {d : D} {v : Value} (h : RepD hp g w (d.renC σ) v) (hd : d.idsC m = true) (hn : d.noO = true) (hm : hp2.next = m)
    (hμ : ∀ i, g2.μ i = g.μ (σ i)) (hτ : ∀ i, g2.τ i = g.τ (σ i)) (hF : g2.F = g.F) (hl : ∀ id y, hp2.live.lookup id = some y → hp.live.lookup (σ id) = some y) : RepD hp2 g2 w d v := by
  subst hm
  cases d with
  | e y => cases h with
    | e _ v h => exact .e y v (by rw [hF]; exact h)
  | own id z n xs => cases h with
    | own _ _ _ _ v h hid ht => exact .own id z n xs v (by rw [hF]; exact h) (by simpa [D.idsC] using hd) (fun m e hm => by rw [hτ]; exact ht m e (hl _ _ hm))
  | fu z n xs => cases h with
    | fu _ _ _ A h => exact .fu z n xs A (by rw [hF]; exact h)
  | ag ds => cases hd
  | tu ds => cases hd
  | fp xs off => cases h with
    | fp _ _ ad hb hc => exact .fp xs off ad hb (by rw [hF]; exact hc)
  | pt k off => cases h with
    | pt _ _ hk => rw [← hμ]; exact .pt k off (by simpa [D.idsC] using hd)
  | ow k off z n => cases h with
    | ow _ _ _ _ c hk h1 h2 => rw [← hμ]; exact .ow k off z n c (by simpa [D.idsC] using hd) h1 h2
  | gw k z n => cases h with
    | gw _ _ _ c hk h1 h2 hs => rw [← hμ] at hs ⊢; exact .gw k z n c (by simpa [D.idsC] using hd) h1 h2 hs
  | fn f ks => cases h with
    | fn _ _ hk =>
      have : ((ks.map σ).map fun k => Value.pointer (some ⟨g.μ k, 0, none⟩)) = ks.map fun k => Value.pointer (some ⟨g2.μ k, 0, none⟩) := by
        rw [List.map_map]
        exact List.map_congr_left fun k _ => by simp only [Function.comp, hμ]
      rw [this]
      exact .fn f ks (by simpa [D.idsC] using hd)
  | opt b d => cases hn
  | top => exact .top v
theorem ren_rep {σ : Nat → Nat} {hp hp2 : Hp} {g g2 : Gh} {w : World} {m : Nat} {d : D} {v : Value} (h : RepD hp g w (d.ren σ) v) (hd : d.idsB m = true) (hn : d.noOs = true) (hm : hp2.next = m)
    (hμ : ∀ i, g2.μ i = g.μ (σ i)) (hτ : ∀ i, g2.τ i = g.τ (σ i)) (hF : g2.F = g.F) (hl : ∀ id y, hp2.live.lookup id = some y → hp.live.lookup (σ id) = some y) : RepD hp2 g2 w d v := by
  cases d with
  | ag ds =>
    have hall : ∀ d ∈ ds, D.idsC m d = true := by simpa [D.idsB] using hd
    have hno : ∀ d ∈ ds, D.noO d = true := by simpa [D.noOs] using hn
    cases h with
    | ag _ cs hlen h1 hr =>
      refine .ag ds cs (by simpa using hlen) h1 fun j d u h2 h3 => ?_
      have := hr j (d.renC σ) u (by rw [List.getElem?_map, h2]; rfl) h3
      exact renC_rep this (hall d (List.mem_of_getElem? h2)) (hno d (List.mem_of_getElem? h2)) hm hμ hτ hF hl
  | tu ds =>
    have hall : ∀ d ∈ ds, D.idsC m d = true := by simpa [D.idsB] using hd
    have hno : ∀ d ∈ ds, D.noO d = true := by simpa [D.noOs] using hn
    cases h with
    | tu _ cs hlen hr =>
      refine .tu ds cs (by simpa using hlen) fun j d u h2 h3 => ?_
      have := hr j (d.renC σ) u (by rw [List.getElem?_map, h2]; rfl) h3
      exact renC_rep this (hall d (List.mem_of_getElem? h2)) (hno d (List.mem_of_getElem? h2)) hm hμ hτ hF hl
  | e y => exact renC_rep h hd hn hm hμ hτ hF hl
  | own id z n xs => exact renC_rep h hd hn hm hμ hτ hF hl
  | fu z n xs => exact renC_rep h hd hn hm hμ hτ hF hl
  | fp xs off => exact renC_rep h hd hn hm hμ hτ hF hl
  | pt k off => exact renC_rep h hd hn hm hμ hτ hF hl
  | ow k off z n => exact renC_rep h hd hn hm hμ hτ hF hl
  | gw k z n => exact renC_rep h hd hn hm hμ hτ hF hl
  | fn f ks => exact renC_rep h hd hn hm hμ hτ hF hl
  | opt b d => cases hn
  | top => exact .top v
theorem sg_inj {N0 : Nat} {os : List Nat} (hs : ∀ o ∈ os, N0 ≤ o) (hn : os.Nodup) {i j : Nat} (hi : i < N0 + os.length) (hj : j < N0 + os.length) (h : sg N0 os i = sg N0 os j) : i = j := by
  unfold sg at h
  have get : ∀ k, ¬ k < N0 → k < N0 + os.length → ∃ hk : k - N0 < os.length, os.getD (k - N0) 0 = os[k - N0] := fun k h1 h2 => ⟨by omega, by simp [List.getD, List.getElem?_eq_getElem (show k - N0 < os.length by omega)]⟩
  by_cases h1 : i < N0 <;> by_cases h2 : j < N0
  · simpa [h1, h2] using h
  · obtain ⟨hk, e⟩ := get j h2 hj
    simp only [h1, h2, decide_true, decide_false, cond_true, cond_false] at h
    rw [e] at h
    have := hs _ (List.getElem_mem hk)
    omega
  · obtain ⟨hk, e⟩ := get i h1 hi
    simp only [h1, h2, decide_true, decide_false, cond_true, cond_false] at h
    rw [e] at h
    have := hs _ (List.getElem_mem hk)
    omega
  · obtain ⟨hk, e⟩ := get i h1 hi
    obtain ⟨hk', e'⟩ := get j h2 hj
    simp only [h1, h2, decide_false, cond_false] at h
    rw [e, e'] at h
    have hp := List.pairwise_iff_getElem.1 hn
    rcases Nat.lt_trichotomy (i - N0) (j - N0) with h3 | h3 | h3
    · exact absurd h (hp _ _ hk hk' h3)
    · omega
    · exact absurd h.symm (hp _ _ hk' hk h3)
def sim_all := (And.intro (And.intro (And.intro (And.intro (And.intro (And.intro (And.intro (And.intro @kont_ap @atHp_ap) (And.intro @atLit_ap @atInt_ap)) (And.intro (And.intro @ao_nil @ao_move) (And.intro @ao_assign @ao_pick))) (And.intro (And.intro (And.intro @ao_alloc @ao_box) (And.intro @ao_build @ao_buildSlice)) (And.intro (And.intro @ao_load @ao_store) (And.intro @ao_binOp @ao_unOp)))) (And.intro (And.intro (And.intro (And.intro @ao_slice @ao_fieldAddr) (And.intro @ao_field @ao_indexAddr)) (And.intro (And.intro @ao_index @ao_extract) (And.intro @ao_len @ao_builtin))) (And.intro (And.intro (And.intro @ao_call @ao_calltmp) (And.intro @ao_nilCheck @ao_makeFunc)) (And.intro (And.intro @ao_guard @ev_tmp) (And.intro @ev_const @co_int))))) (And.intro (And.intro (And.intro (And.intro (And.intro @co_bool @co_str) (And.intro @co_slice @co_agg)) (And.intro (And.intro @put_some @put_none) (And.intro @lk_nil @lk_cons))) (And.intro (And.intro (And.intro @hp_var @hp_set) (And.intro @hp_tok @hp_app)) (And.intro (And.intro @loadV_pt @loadV_fp) (And.intro @storeV_pt @asgV_nil)))) (And.intro (And.intro (And.intro (And.intro @asgV_int @asgV_bool) (And.intro @asgV_str @asgV_sl)) (And.intro (And.intro @asgV_own @asgV_fu) (And.intro @asgV_ag @asgV_pt))) (And.intro (And.intro (And.intro @asgV_fp @pickV_t) (And.intro @pickV_f @allocV_eq)) (And.intro (And.intro @boxV_eq @extractV_tu) (And.intro @cells_e @cells_own)))))) (And.intro (And.intro (And.intro (And.intro (And.intro (And.intro @cells_fu @cells_ag) (And.intro @cells_pt @cells_fp)) (And.intro (And.intro @cellE_e @cellE_own) (And.intro @cellE_fu @asSl_sl))) (And.intro (And.intro (And.intro @asSl_own @asSl_fu) (And.intro @asSl_nil @strOf_str)) (And.intro (And.intro @strOf_sl @strOf_own) (And.intro @strOf_fu @strOf_nil)))) (And.intro (And.intro (And.intro (And.intro @ex_e @ex_own) (And.intro @ex_fu @ex_ag)) (And.intro (And.intro @ex_tu @ex_fp) (And.intro @exC_e @exC_own))) (And.intro (And.intro (And.intro @exC_fu @pure_e) (And.intro @pure_ag @pure_fp)) (And.intro (And.intro @pureC_e @bin_shl) (And.intro @bin_shr @bin_add))))) (And.intro (And.intro (And.intro (And.intro (And.intro @bin_sub @bin_mul) (And.intro @bin_quo @bin_rem)) (And.intro (And.intro @bin_and @bin_or) (And.intro @bin_xor @bin_eql))) (And.intro (And.intro (And.intro @bin_neq @bin_lss) (And.intro @bin_leq @bin_gtr)) (And.intro (And.intro @bin_geq @bin_sadd) (And.intro @bin_seql @bin_sneq)))) (And.intro (And.intro (And.intro (And.intro @nilV_pt @nilV_fp) (And.intro @makeFuncV_0 @makeFuncV_1)) (And.intro (And.intro @caps_nil @caps_cons) (And.intro @calleeV_lit @calleeV_fn))) (And.intro (And.intro (And.intro @un_not @un_neg) (And.intro @fieldAddrV_pt @fieldAddrV_fp)) (And.intro (And.intro @fieldV_ag @indexAddrV_eq) (And.intro @indexV_eq (And.intro @boundV_none @boundV_some)))))))) (And.intro (And.intro (And.intro (And.intro (And.intro (And.intro (And.intro @builtin_len @builtin_min) (And.intro @builtin_max @builtin_append)) (And.intro (And.intro @appOwn_ap @appNil_ap) (And.intro @appendV_own @appFu_ap))) (And.intro (And.intro (And.intro @appendV_fu @appendV_nil) (And.intro @slH_none @slH_some)) (And.intro (And.intro @slH_max @slS_none) (And.intro @slS_some @partsD_nil)))) (And.intro (And.intro (And.intro (And.intro @partsD_cons @cellsE_nil) (And.intro @cellsE_cons @fillL_nil)) (And.intro (And.intro @fillL_cons @placeS_eq) (And.intro @buildV_eq @buildSliceV_mt))) (And.intro (And.intro (And.intro @buildSliceV_1 @buildSliceV_2) (And.intro @buildSliceV_3 @buildSliceV_4)) (And.intro (And.intro @buildSliceV_5 @buildSliceV_6) (And.intro @adopt_own @adopt_e))))) (And.intro (And.intro (And.intro (And.intro (And.intro @adopt_ag @adopt_tu) (And.intro @lits_nil @lits_cons)) (And.intro (And.intro @cond_true.{1} @cond_false.{1}) (And.intro @List.map_cons.{0,0} @List.map_nil.{0,0}))) (And.intro (And.intro (And.intro @Option.getD_some.{0} @Option.getD_none.{0}) (And.intro @Option.map_some.{0,0} @Option.map_none.{0,0})) (And.intro (And.intro @Option.isSome_some.{0} @Option.bind_some.{0,0}) (And.intro @true_and @and_true)))) (And.intro (And.intro (And.intro (And.intro @and_self @List.getElem?_cons_zero.{0}) (And.intro @List.getElem?_cons_succ.{0} @List.getElem?_toArray.{0})) (And.intro (And.intro @Option.some.injEq.{0} @Prod.mk.injEq.{0,0}) (And.intro @exists_eq_left'.{1} @List.length_cons.{0}))) (And.intro (And.intro (And.intro @List.length_nil.{0} @List.take_succ_cons.{0}) (And.intro @List.take_zero.{0} @List.drop_zero.{0})) (And.intro (And.intro @List.drop_succ_cons.{0} @List.cons_append.{0}) (And.intro @List.nil_append.{0} @List.append_nil.{0})))))) (And.intro (And.intro (And.intro (And.intro (And.intro (And.intro @List.forall_mem_cons.{0} @List.not_mem_nil.{0}) (And.intro @List.replicate_succ.{0} @List.replicate_zero.{0})) (And.intro (And.intro @List.all_cons.{0} @List.all_nil.{0}) (And.intro @Bool.and_true @Bool.not_false))) (And.intro (And.intro (And.intro @Bool.not_true @Nat.max_def) (And.intro @Nat.zero_add @Nat.zero_mul)) (And.intro (And.intro @Nat.mul_one @Nat.one_mul) (And.intro @if_true.{1} @if_false.{1})))) (And.intro (And.intro (And.intro (And.intro @ne_eq.{1} @not_true_eq_false) (And.intro @not_false_eq_true @false_implies)) (And.intro (And.intro @forall_const.{0} @forall_const.{1}) (And.intro @implies_true.{0} @implies_true.{1}))) (And.intro (And.intro (And.intro @gt_iff_lt.{0} @or_self) (And.intro @or_false @Nat.lt_irrefl)) (And.intro (And.intro @Nat.not_lt_zero @Nat.lt_add_one) (And.intro @eq_self.{1} @gd_tt))))) (And.intro (And.intro (And.intro (And.intro (And.intro @gd_ff @gd_tf) (And.intro @gd_ft @Int.toNat_natCast)) (And.intro (And.intro @Int.sub_zero @Int.toNat_zero) (And.intro @beq_self_eq_true.{0} @decide_true))) (And.intro (And.intro (And.intro @decide_false @beq_add_add) (And.intro @beq_add_r @beq_add_l)) (And.intro (And.intro @rg_1 @rg_2) (And.intro @rg_3 @rg_4)))) (And.intro (And.intro (And.intro (And.intro @rg_5 @rg_6) (And.intro @rg_7 @rg_8)) (And.intro (And.intro @Nat.add_zero @exO_some) (And.intro @gdO_some @Int.cast_ofNat_Int))) (And.intro (And.intro (And.intro @List.getD_cons_zero.{0} @List.getD_cons_succ.{0}) (And.intro @wrap_id @bin_beql)) (And.intro (And.intro @bin_bneq @conv_eq) (And.intro @bytesOf_nil (And.intro @bytesOf_cons @bytesOf_map)))))))))
def sim_move := (And.intro (And.intro (And.intro (And.intro (And.intro (And.intro @av_move (And.intro @ev_func @eu_func)) (And.intro @atHp_ap (And.intro @atLit_ap @atInt_ap))) (And.intro (And.intro @ev_tmp (And.intro @ev_const @co_int)) (And.intro @co_bool (And.intro @co_str @co_slice)))) (And.intro (And.intro (And.intro @co_agg (And.intro @put_some @put_none)) (And.intro @lk_nil (And.intro @lk_cons @hp_var))) (And.intro (And.intro @hp_set (And.intro @hp_tok @hp_app)) (And.intro (And.intro @cond_true.{1} @cond_false.{1}) (And.intro @List.map_cons.{0,0} @List.map_nil.{0,0}))))) (And.intro (And.intro (And.intro (And.intro @Option.getD_some.{0} (And.intro @Option.getD_none.{0} @Option.map_some.{0,0})) (And.intro @Option.map_none.{0,0} (And.intro @Option.isSome_some.{0} @Option.bind_some.{0,0}))) (And.intro (And.intro @true_and (And.intro @and_true @and_self)) (And.intro @List.getElem?_cons_zero.{0} (And.intro @List.getElem?_cons_succ.{0} @List.getElem?_toArray.{0})))) (And.intro (And.intro (And.intro @Option.some.injEq.{0} (And.intro @Prod.mk.injEq.{0,0} @exists_eq_left'.{1})) (And.intro @List.length_cons.{0} (And.intro @List.length_nil.{0} @List.take_succ_cons.{0}))) (And.intro (And.intro @List.take_zero.{0} (And.intro @List.drop_zero.{0} @List.drop_succ_cons.{0})) (And.intro (And.intro @List.cons_append.{0} @List.nil_append.{0}) (And.intro @List.append_nil.{0} @List.forall_mem_cons.{0})))))) (And.intro (And.intro (And.intro (And.intro (And.intro @List.not_mem_nil.{0} (And.intro @List.replicate_succ.{0} @List.replicate_zero.{0})) (And.intro @List.all_cons.{0} (And.intro @List.all_nil.{0} @Bool.and_true))) (And.intro (And.intro @Bool.not_false (And.intro @Bool.not_true @Nat.max_def)) (And.intro @Nat.zero_add (And.intro @Nat.zero_mul @Nat.mul_one)))) (And.intro (And.intro (And.intro @Nat.one_mul (And.intro @if_true.{1} @if_false.{1})) (And.intro @ne_eq.{1} (And.intro @not_true_eq_false @not_false_eq_true))) (And.intro (And.intro @false_implies (And.intro @forall_const.{0} @forall_const.{1})) (And.intro (And.intro @implies_true.{0} @implies_true.{1}) (And.intro @gt_iff_lt.{0} @or_self))))) (And.intro (And.intro (And.intro (And.intro @or_false (And.intro @Nat.lt_irrefl @Nat.not_lt_zero)) (And.intro @Nat.lt_add_one (And.intro @eq_self.{1} @gd_tt))) (And.intro (And.intro @gd_ff (And.intro @gd_tf @gd_ft)) (And.intro @Int.toNat_natCast (And.intro @Int.sub_zero @Int.toNat_zero)))) (And.intro (And.intro (And.intro @beq_self_eq_true.{0} (And.intro @decide_true @decide_false)) (And.intro @beq_add_add (And.intro @beq_add_r @beq_add_l))) (And.intro (And.intro @Nat.add_zero (And.intro @exO_some @gdO_some)) (And.intro (And.intro @Int.cast_ofNat_Int @List.getD_cons_zero.{0}) (And.intro @List.getD_cons_succ.{0} @wrap_id)))))))
def sim_assign := (And.intro (And.intro (And.intro (And.intro (And.intro (And.intro @av_assign (And.intro @ev_func @eu_func)) (And.intro @atHp_ap (And.intro @atLit_ap @atInt_ap))) (And.intro (And.intro @ev_tmp (And.intro @ev_const @co_int)) (And.intro (And.intro @co_bool @co_str) (And.intro @co_slice @co_agg)))) (And.intro (And.intro (And.intro @put_some (And.intro @put_none @lk_nil)) (And.intro (And.intro @lk_cons @hp_var) (And.intro @hp_set @hp_tok))) (And.intro (And.intro @hp_app (And.intro @asgV_nil @asgV_int)) (And.intro (And.intro @asgV_bool @asgV_str) (And.intro @asgV_sl @asgV_own))))) (And.intro (And.intro (And.intro (And.intro @asgV_fu (And.intro @asgV_ag @asgV_pt)) (And.intro (And.intro @asgV_fp @cond_true.{1}) (And.intro @cond_false.{1} @List.map_cons.{0,0}))) (And.intro (And.intro @List.map_nil.{0,0} (And.intro @Option.getD_some.{0} @Option.getD_none.{0})) (And.intro (And.intro @Option.map_some.{0,0} @Option.map_none.{0,0}) (And.intro @Option.isSome_some.{0} @Option.bind_some.{0,0})))) (And.intro (And.intro (And.intro @true_and (And.intro @and_true @and_self)) (And.intro (And.intro @List.getElem?_cons_zero.{0} @List.getElem?_cons_succ.{0}) (And.intro @List.getElem?_toArray.{0} @Option.some.injEq.{0}))) (And.intro (And.intro @Prod.mk.injEq.{0,0} (And.intro @exists_eq_left'.{1} @List.length_cons.{0})) (And.intro (And.intro @List.length_nil.{0} @List.take_succ_cons.{0}) (And.intro @List.take_zero.{0} @List.drop_zero.{0})))))) (And.intro (And.intro (And.intro (And.intro (And.intro @List.drop_succ_cons.{0} (And.intro @List.cons_append.{0} @List.nil_append.{0})) (And.intro @List.append_nil.{0} (And.intro @List.forall_mem_cons.{0} @List.not_mem_nil.{0}))) (And.intro (And.intro @List.replicate_succ.{0} (And.intro @List.replicate_zero.{0} @List.all_cons.{0})) (And.intro (And.intro @List.all_nil.{0} @Bool.and_true) (And.intro @Bool.not_false @Bool.not_true)))) (And.intro (And.intro (And.intro @Nat.max_def (And.intro @Nat.zero_add @Nat.zero_mul)) (And.intro (And.intro @Nat.mul_one @Nat.one_mul) (And.intro @if_true.{1} @if_false.{1}))) (And.intro (And.intro @ne_eq.{1} (And.intro @not_true_eq_false @not_false_eq_true)) (And.intro (And.intro @false_implies @forall_const.{0}) (And.intro @forall_const.{1} @implies_true.{0}))))) (And.intro (And.intro (And.intro (And.intro @implies_true.{1} (And.intro @gt_iff_lt.{0} @or_self)) (And.intro (And.intro @or_false @Nat.lt_irrefl) (And.intro @Nat.not_lt_zero @Nat.lt_add_one))) (And.intro (And.intro @eq_self.{1} (And.intro @gd_tt @gd_ff)) (And.intro (And.intro @gd_tf @gd_ft) (And.intro @Int.toNat_natCast @Int.sub_zero)))) (And.intro (And.intro (And.intro @Int.toNat_zero (And.intro @beq_self_eq_true.{0} @decide_true)) (And.intro (And.intro @decide_false @beq_add_add) (And.intro @beq_add_r @beq_add_l))) (And.intro (And.intro @Nat.add_zero (And.intro @exO_some @gdO_some)) (And.intro (And.intro @Int.cast_ofNat_Int @List.getD_cons_zero.{0}) (And.intro @List.getD_cons_succ.{0} @wrap_id)))))))
def sim_alloc := (And.intro (And.intro (And.intro (And.intro (And.intro (And.intro @av_alloc (And.intro @ev_func @eu_func)) (And.intro @atHp_ap (And.intro @atLit_ap @atInt_ap))) (And.intro (And.intro @ev_tmp (And.intro @ev_const @co_int)) (And.intro @co_bool (And.intro @co_str @co_slice)))) (And.intro (And.intro (And.intro @co_agg (And.intro @put_some @put_none)) (And.intro @lk_nil (And.intro @lk_cons @hp_var))) (And.intro (And.intro @hp_set (And.intro @hp_tok @hp_app)) (And.intro (And.intro @allocV_eq @cond_true.{1}) (And.intro @cond_false.{1} @List.map_cons.{0,0}))))) (And.intro (And.intro (And.intro (And.intro @List.map_nil.{0,0} (And.intro @Option.getD_some.{0} @Option.getD_none.{0})) (And.intro @Option.map_some.{0,0} (And.intro @Option.map_none.{0,0} @Option.isSome_some.{0}))) (And.intro (And.intro @Option.bind_some.{0,0} (And.intro @true_and @and_true)) (And.intro @and_self (And.intro @List.getElem?_cons_zero.{0} @List.getElem?_cons_succ.{0})))) (And.intro (And.intro (And.intro @List.getElem?_toArray.{0} (And.intro @Option.some.injEq.{0} @Prod.mk.injEq.{0,0})) (And.intro @exists_eq_left'.{1} (And.intro @List.length_cons.{0} @List.length_nil.{0}))) (And.intro (And.intro @List.take_succ_cons.{0} (And.intro @List.take_zero.{0} @List.drop_zero.{0})) (And.intro (And.intro @List.drop_succ_cons.{0} @List.cons_append.{0}) (And.intro @List.nil_append.{0} @List.append_nil.{0})))))) (And.intro (And.intro (And.intro (And.intro (And.intro @List.forall_mem_cons.{0} (And.intro @List.not_mem_nil.{0} @List.replicate_succ.{0})) (And.intro @List.replicate_zero.{0} (And.intro @List.all_cons.{0} @List.all_nil.{0}))) (And.intro (And.intro @Bool.and_true (And.intro @Bool.not_false @Bool.not_true)) (And.intro @Nat.max_def (And.intro @Nat.zero_add @Nat.zero_mul)))) (And.intro (And.intro (And.intro @Nat.mul_one (And.intro @Nat.one_mul @if_true.{1})) (And.intro @if_false.{1} (And.intro @ne_eq.{1} @not_true_eq_false))) (And.intro (And.intro @not_false_eq_true (And.intro @false_implies @forall_const.{0})) (And.intro (And.intro @forall_const.{1} @implies_true.{0}) (And.intro @implies_true.{1} @gt_iff_lt.{0}))))) (And.intro (And.intro (And.intro (And.intro @or_self (And.intro @or_false @Nat.lt_irrefl)) (And.intro @Nat.not_lt_zero (And.intro @Nat.lt_add_one @eq_self.{1}))) (And.intro (And.intro @gd_tt (And.intro @gd_ff @gd_tf)) (And.intro (And.intro @gd_ft @Int.toNat_natCast) (And.intro @Int.sub_zero @Int.toNat_zero)))) (And.intro (And.intro (And.intro @beq_self_eq_true.{0} (And.intro @decide_true @decide_false)) (And.intro @beq_add_add (And.intro @beq_add_r @beq_add_l))) (And.intro (And.intro @Nat.add_zero (And.intro @exO_some @gdO_some)) (And.intro (And.intro @Int.cast_ofNat_Int @List.getD_cons_zero.{0}) (And.intro @List.getD_cons_succ.{0} @wrap_id)))))))
def sim_box := (And.intro (And.intro (And.intro (And.intro (And.intro (And.intro @av_box (And.intro @ev_func @eu_func)) (And.intro @atHp_ap (And.intro @atLit_ap @atInt_ap))) (And.intro (And.intro @ev_tmp (And.intro @ev_const @co_int)) (And.intro (And.intro @co_bool @co_str) (And.intro @co_slice @co_agg)))) (And.intro (And.intro (And.intro @put_some (And.intro @put_none @lk_nil)) (And.intro @lk_cons (And.intro @hp_var @hp_set))) (And.intro (And.intro @hp_tok (And.intro @hp_app @boxV_eq)) (And.intro (And.intro @cells_e @cells_own) (And.intro @cells_fu @cells_ag))))) (And.intro (And.intro (And.intro (And.intro @cells_pt (And.intro @cells_fp @cond_true.{1})) (And.intro @cond_false.{1} (And.intro @List.map_cons.{0,0} @List.map_nil.{0,0}))) (And.intro (And.intro @Option.getD_some.{0} (And.intro @Option.getD_none.{0} @Option.map_some.{0,0})) (And.intro (And.intro @Option.map_none.{0,0} @Option.isSome_some.{0}) (And.intro @Option.bind_some.{0,0} @true_and)))) (And.intro (And.intro (And.intro @and_true (And.intro @and_self @List.getElem?_cons_zero.{0})) (And.intro (And.intro @List.getElem?_cons_succ.{0} @List.getElem?_toArray.{0}) (And.intro @Option.some.injEq.{0} @Prod.mk.injEq.{0,0}))) (And.intro (And.intro @exists_eq_left'.{1} (And.intro @List.length_cons.{0} @List.length_nil.{0})) (And.intro (And.intro @List.take_succ_cons.{0} @List.take_zero.{0}) (And.intro @List.drop_zero.{0} @List.drop_succ_cons.{0})))))) (And.intro (And.intro (And.intro (And.intro (And.intro @List.cons_append.{0} (And.intro @List.nil_append.{0} @List.append_nil.{0})) (And.intro @List.forall_mem_cons.{0} (And.intro @List.not_mem_nil.{0} @List.replicate_succ.{0}))) (And.intro (And.intro @List.replicate_zero.{0} (And.intro @List.all_cons.{0} @List.all_nil.{0})) (And.intro (And.intro @Bool.and_true @Bool.not_false) (And.intro @Bool.not_true @Nat.max_def)))) (And.intro (And.intro (And.intro @Nat.zero_add (And.intro @Nat.zero_mul @Nat.mul_one)) (And.intro (And.intro @Nat.one_mul @if_true.{1}) (And.intro @if_false.{1} @ne_eq.{1}))) (And.intro (And.intro @not_true_eq_false (And.intro @not_false_eq_true @false_implies)) (And.intro (And.intro @forall_const.{0} @forall_const.{1}) (And.intro @implies_true.{0} @implies_true.{1}))))) (And.intro (And.intro (And.intro (And.intro @gt_iff_lt.{0} (And.intro @or_self @or_false)) (And.intro @Nat.lt_irrefl (And.intro @Nat.not_lt_zero @Nat.lt_add_one))) (And.intro (And.intro @eq_self.{1} (And.intro @gd_tt @gd_ff)) (And.intro (And.intro @gd_tf @gd_ft) (And.intro @Int.toNat_natCast @Int.sub_zero)))) (And.intro (And.intro (And.intro @Int.toNat_zero (And.intro @beq_self_eq_true.{0} @decide_true)) (And.intro (And.intro @decide_false @beq_add_add) (And.intro @beq_add_r @beq_add_l))) (And.intro (And.intro @Nat.add_zero (And.intro @exO_some @gdO_some)) (And.intro (And.intro @Int.cast_ofNat_Int @List.getD_cons_zero.{0}) (And.intro @List.getD_cons_succ.{0} @wrap_id)))))))
def sim_build := (And.intro (And.intro (And.intro (And.intro (And.intro (And.intro @av_build (And.intro @ev_func @eu_func)) (And.intro (And.intro @atHp_ap @atLit_ap) (And.intro @atInt_ap @ev_tmp))) (And.intro (And.intro @ev_const (And.intro @co_int @co_bool)) (And.intro (And.intro @co_str @co_slice) (And.intro @co_agg @put_some)))) (And.intro (And.intro (And.intro @put_none (And.intro @lk_nil @lk_cons)) (And.intro (And.intro @hp_var @hp_set) (And.intro @hp_tok @hp_app))) (And.intro (And.intro @cells_e (And.intro @cells_own @cells_fu)) (And.intro (And.intro @cells_ag @cells_pt) (And.intro @cells_fp @partsD_nil))))) (And.intro (And.intro (And.intro (And.intro @partsD_cons (And.intro @fillL_nil @fillL_cons)) (And.intro (And.intro @placeS_eq @buildV_eq) (And.intro @cond_true.{1} @cond_false.{1}))) (And.intro (And.intro @List.map_cons.{0,0} (And.intro @List.map_nil.{0,0} @Option.getD_some.{0})) (And.intro (And.intro @Option.getD_none.{0} @Option.map_some.{0,0}) (And.intro @Option.map_none.{0,0} @Option.isSome_some.{0})))) (And.intro (And.intro (And.intro @Option.bind_some.{0,0} (And.intro @true_and @and_true)) (And.intro (And.intro @and_self @List.getElem?_cons_zero.{0}) (And.intro @List.getElem?_cons_succ.{0} @List.getElem?_toArray.{0}))) (And.intro (And.intro @Option.some.injEq.{0} (And.intro @Prod.mk.injEq.{0,0} @exists_eq_left'.{1})) (And.intro (And.intro @List.length_cons.{0} @List.length_nil.{0}) (And.intro @List.take_succ_cons.{0} @List.take_zero.{0})))))) (And.intro (And.intro (And.intro (And.intro (And.intro @List.drop_zero.{0} (And.intro @List.drop_succ_cons.{0} @List.cons_append.{0})) (And.intro (And.intro @List.nil_append.{0} @List.append_nil.{0}) (And.intro @List.forall_mem_cons.{0} @List.not_mem_nil.{0}))) (And.intro (And.intro @List.replicate_succ.{0} (And.intro @List.replicate_zero.{0} @List.all_cons.{0})) (And.intro (And.intro @List.all_nil.{0} @Bool.and_true) (And.intro @Bool.not_false @Bool.not_true)))) (And.intro (And.intro (And.intro @Nat.max_def (And.intro @Nat.zero_add @Nat.zero_mul)) (And.intro (And.intro @Nat.mul_one @Nat.one_mul) (And.intro @if_true.{1} @if_false.{1}))) (And.intro (And.intro @ne_eq.{1} (And.intro @not_true_eq_false @not_false_eq_true)) (And.intro (And.intro @false_implies @forall_const.{0}) (And.intro @forall_const.{1} @implies_true.{0}))))) (And.intro (And.intro (And.intro (And.intro @implies_true.{1} (And.intro @gt_iff_lt.{0} @or_self)) (And.intro (And.intro @or_false @Nat.lt_irrefl) (And.intro @Nat.not_lt_zero @Nat.lt_add_one))) (And.intro (And.intro @eq_self.{1} (And.intro @gd_tt @gd_ff)) (And.intro (And.intro @gd_tf @gd_ft) (And.intro @Int.toNat_natCast @Int.sub_zero)))) (And.intro (And.intro (And.intro @Int.toNat_zero (And.intro @beq_self_eq_true.{0} @decide_true)) (And.intro (And.intro @decide_false @beq_add_add) (And.intro @beq_add_r @beq_add_l))) (And.intro (And.intro @Nat.add_zero (And.intro @exO_some @gdO_some)) (And.intro (And.intro @Int.cast_ofNat_Int @List.getD_cons_zero.{0}) (And.intro @List.getD_cons_succ.{0} @wrap_id)))))))
def sim_buildSlice := (And.intro (And.intro (And.intro (And.intro (And.intro (And.intro @av_buildSlice (And.intro @ev_func @eu_func)) (And.intro (And.intro @atHp_ap @atLit_ap) (And.intro @atInt_ap @ev_tmp))) (And.intro (And.intro (And.intro @ev_const @co_int) (And.intro @co_bool @co_str)) (And.intro (And.intro @co_slice @co_agg) (And.intro @put_some @put_none)))) (And.intro (And.intro (And.intro @lk_nil (And.intro @lk_cons @hp_var)) (And.intro (And.intro @hp_set @hp_tok) (And.intro @hp_app @cells_e))) (And.intro (And.intro (And.intro @cells_own @cells_fu) (And.intro @cells_ag @cells_pt)) (And.intro (And.intro @cells_fp @cellE_e) (And.intro @cellE_own @cellE_fu))))) (And.intro (And.intro (And.intro (And.intro @partsD_nil (And.intro @partsD_cons @cellsE_nil)) (And.intro (And.intro @cellsE_cons @fillL_nil) (And.intro @fillL_cons @buildSliceV_mt))) (And.intro (And.intro (And.intro @buildSliceV_1 @buildSliceV_2) (And.intro @buildSliceV_3 @buildSliceV_4)) (And.intro (And.intro @buildSliceV_5 @buildSliceV_6) (And.intro @cond_true.{1} @cond_false.{1})))) (And.intro (And.intro (And.intro (And.intro @List.map_cons.{0,0} @List.map_nil.{0,0}) (And.intro @Option.getD_some.{0} @Option.getD_none.{0})) (And.intro (And.intro @Option.map_some.{0,0} @Option.map_none.{0,0}) (And.intro @Option.isSome_some.{0} @Option.bind_some.{0,0}))) (And.intro (And.intro (And.intro @true_and @and_true) (And.intro @and_self @List.getElem?_cons_zero.{0})) (And.intro (And.intro @List.getElem?_cons_succ.{0} @List.getElem?_toArray.{0}) (And.intro @Option.some.injEq.{0} @Prod.mk.injEq.{0,0})))))) (And.intro (And.intro (And.intro (And.intro (And.intro @exists_eq_left'.{1} (And.intro @List.length_cons.{0} @List.length_nil.{0})) (And.intro (And.intro @List.take_succ_cons.{0} @List.take_zero.{0}) (And.intro @List.drop_zero.{0} @List.drop_succ_cons.{0}))) (And.intro (And.intro (And.intro @List.cons_append.{0} @List.nil_append.{0}) (And.intro @List.append_nil.{0} @List.forall_mem_cons.{0})) (And.intro (And.intro @List.not_mem_nil.{0} @List.replicate_succ.{0}) (And.intro @List.replicate_zero.{0} @List.all_cons.{0})))) (And.intro (And.intro (And.intro @List.all_nil.{0} (And.intro @Bool.and_true @Bool.not_false)) (And.intro (And.intro @Bool.not_true @Nat.max_def) (And.intro @Nat.zero_add @Nat.zero_mul))) (And.intro (And.intro (And.intro @Nat.mul_one @Nat.one_mul) (And.intro @if_true.{1} @if_false.{1})) (And.intro (And.intro @ne_eq.{1} @not_true_eq_false) (And.intro @not_false_eq_true @false_implies))))) (And.intro (And.intro (And.intro (And.intro @forall_const.{0} (And.intro @forall_const.{1} @implies_true.{0})) (And.intro (And.intro @implies_true.{1} @gt_iff_lt.{0}) (And.intro @or_self @or_false))) (And.intro (And.intro (And.intro @Nat.lt_irrefl @Nat.not_lt_zero) (And.intro @Nat.lt_add_one @eq_self.{1})) (And.intro (And.intro @gd_tt @gd_ff) (And.intro @gd_tf @gd_ft)))) (And.intro (And.intro (And.intro (And.intro @Int.toNat_natCast @Int.sub_zero) (And.intro @Int.toNat_zero @beq_self_eq_true.{0})) (And.intro (And.intro @decide_true @decide_false) (And.intro @beq_add_add @beq_add_r))) (And.intro (And.intro (And.intro @beq_add_l @Nat.add_zero) (And.intro @exO_some @gdO_some)) (And.intro (And.intro @Int.cast_ofNat_Int @List.getD_cons_zero.{0}) (And.intro @List.getD_cons_succ.{0} @wrap_id)))))))
def sim_load := (And.intro (And.intro (And.intro (And.intro (And.intro (And.intro @av_load (And.intro @ev_func @eu_func)) (And.intro @atHp_ap (And.intro @atLit_ap @atInt_ap))) (And.intro (And.intro @ev_tmp (And.intro @ev_const @co_int)) (And.intro (And.intro @co_bool @co_str) (And.intro @co_slice @co_agg)))) (And.intro (And.intro (And.intro @put_some (And.intro @put_none @lk_nil)) (And.intro (And.intro @lk_cons @hp_var) (And.intro @hp_set @hp_tok))) (And.intro (And.intro @hp_app (And.intro @loadV_pt @loadV_fp)) (And.intro (And.intro @cond_true.{1} @cond_false.{1}) (And.intro @List.map_cons.{0,0} @List.map_nil.{0,0}))))) (And.intro (And.intro (And.intro (And.intro @Option.getD_some.{0} (And.intro @Option.getD_none.{0} @Option.map_some.{0,0})) (And.intro (And.intro @Option.map_none.{0,0} @Option.isSome_some.{0}) (And.intro @Option.bind_some.{0,0} @true_and))) (And.intro (And.intro @and_true (And.intro @and_self @List.getElem?_cons_zero.{0})) (And.intro (And.intro @List.getElem?_cons_succ.{0} @List.getElem?_toArray.{0}) (And.intro @Option.some.injEq.{0} @Prod.mk.injEq.{0,0})))) (And.intro (And.intro (And.intro @exists_eq_left'.{1} (And.intro @List.length_cons.{0} @List.length_nil.{0})) (And.intro (And.intro @List.take_succ_cons.{0} @List.take_zero.{0}) (And.intro @List.drop_zero.{0} @List.drop_succ_cons.{0}))) (And.intro (And.intro @List.cons_append.{0} (And.intro @List.nil_append.{0} @List.append_nil.{0})) (And.intro (And.intro @List.forall_mem_cons.{0} @List.not_mem_nil.{0}) (And.intro @List.replicate_succ.{0} @List.replicate_zero.{0})))))) (And.intro (And.intro (And.intro (And.intro (And.intro @List.all_cons.{0} (And.intro @List.all_nil.{0} @Bool.and_true)) (And.intro @Bool.not_false (And.intro @Bool.not_true @Nat.max_def))) (And.intro (And.intro @Nat.zero_add (And.intro @Nat.zero_mul @Nat.mul_one)) (And.intro (And.intro @Nat.one_mul @if_true.{1}) (And.intro @if_false.{1} @ne_eq.{1})))) (And.intro (And.intro (And.intro @not_true_eq_false (And.intro @not_false_eq_true @false_implies)) (And.intro (And.intro @forall_const.{0} @forall_const.{1}) (And.intro @implies_true.{0} @implies_true.{1}))) (And.intro (And.intro @gt_iff_lt.{0} (And.intro @or_self @or_false)) (And.intro (And.intro @Nat.lt_irrefl @Nat.not_lt_zero) (And.intro @Nat.lt_add_one @eq_self.{1}))))) (And.intro (And.intro (And.intro (And.intro @gd_tt (And.intro @gd_ff @gd_tf)) (And.intro (And.intro @gd_ft @Int.toNat_natCast) (And.intro @Int.sub_zero @Int.toNat_zero))) (And.intro (And.intro @beq_self_eq_true.{0} (And.intro @decide_true @decide_false)) (And.intro (And.intro @beq_add_add @beq_add_r) (And.intro @beq_add_l @rg_1)))) (And.intro (And.intro (And.intro @rg_2 (And.intro @rg_3 @rg_4)) (And.intro (And.intro @rg_5 @rg_6) (And.intro @rg_7 @rg_8))) (And.intro (And.intro @Nat.add_zero (And.intro @exO_some @gdO_some)) (And.intro (And.intro @Int.cast_ofNat_Int @List.getD_cons_zero.{0}) (And.intro @List.getD_cons_succ.{0} @wrap_id)))))))
def sim_store := (And.intro (And.intro (And.intro (And.intro (And.intro (And.intro @av_store (And.intro @ev_func @eu_func)) (And.intro @atHp_ap (And.intro @atLit_ap @atInt_ap))) (And.intro (And.intro @ev_tmp (And.intro @ev_const @co_int)) (And.intro (And.intro @co_bool @co_str) (And.intro @co_slice @co_agg)))) (And.intro (And.intro (And.intro @put_some (And.intro @put_none @lk_nil)) (And.intro @lk_cons (And.intro @hp_var @hp_set))) (And.intro (And.intro @hp_tok (And.intro @hp_app @storeV_pt)) (And.intro (And.intro @cells_e @cells_own) (And.intro @cells_fu @cells_ag))))) (And.intro (And.intro (And.intro (And.intro @cells_pt (And.intro @cells_fp @cond_true.{1})) (And.intro @cond_false.{1} (And.intro @List.map_cons.{0,0} @List.map_nil.{0,0}))) (And.intro (And.intro @Option.getD_some.{0} (And.intro @Option.getD_none.{0} @Option.map_some.{0,0})) (And.intro (And.intro @Option.map_none.{0,0} @Option.isSome_some.{0}) (And.intro @Option.bind_some.{0,0} @true_and)))) (And.intro (And.intro (And.intro @and_true (And.intro @and_self @List.getElem?_cons_zero.{0})) (And.intro (And.intro @List.getElem?_cons_succ.{0} @List.getElem?_toArray.{0}) (And.intro @Option.some.injEq.{0} @Prod.mk.injEq.{0,0}))) (And.intro (And.intro @exists_eq_left'.{1} (And.intro @List.length_cons.{0} @List.length_nil.{0})) (And.intro (And.intro @List.take_succ_cons.{0} @List.take_zero.{0}) (And.intro @List.drop_zero.{0} @List.drop_succ_cons.{0})))))) (And.intro (And.intro (And.intro (And.intro (And.intro @List.cons_append.{0} (And.intro @List.nil_append.{0} @List.append_nil.{0})) (And.intro @List.forall_mem_cons.{0} (And.intro @List.not_mem_nil.{0} @List.replicate_succ.{0}))) (And.intro (And.intro @List.replicate_zero.{0} (And.intro @List.all_cons.{0} @List.all_nil.{0})) (And.intro (And.intro @Bool.and_true @Bool.not_false) (And.intro @Bool.not_true @Nat.max_def)))) (And.intro (And.intro (And.intro @Nat.zero_add (And.intro @Nat.zero_mul @Nat.mul_one)) (And.intro (And.intro @Nat.one_mul @if_true.{1}) (And.intro @if_false.{1} @ne_eq.{1}))) (And.intro (And.intro @not_true_eq_false (And.intro @not_false_eq_true @false_implies)) (And.intro (And.intro @forall_const.{0} @forall_const.{1}) (And.intro @implies_true.{0} @implies_true.{1}))))) (And.intro (And.intro (And.intro (And.intro @gt_iff_lt.{0} (And.intro @or_self @or_false)) (And.intro @Nat.lt_irrefl (And.intro @Nat.not_lt_zero @Nat.lt_add_one))) (And.intro (And.intro @eq_self.{1} (And.intro @gd_tt @gd_ff)) (And.intro (And.intro @gd_tf @gd_ft) (And.intro @Int.toNat_natCast @Int.sub_zero)))) (And.intro (And.intro (And.intro @Int.toNat_zero (And.intro @beq_self_eq_true.{0} @decide_true)) (And.intro (And.intro @decide_false @beq_add_add) (And.intro @beq_add_r @beq_add_l))) (And.intro (And.intro @Nat.add_zero (And.intro @exO_some @gdO_some)) (And.intro (And.intro @Int.cast_ofNat_Int @List.getD_cons_zero.{0}) (And.intro @List.getD_cons_succ.{0} @wrap_id)))))))
def sim_binOp := (And.intro (And.intro (And.intro (And.intro (And.intro (And.intro @av_binOp (And.intro @ev_func @eu_func)) (And.intro (And.intro @atHp_ap @atLit_ap) (And.intro @atInt_ap @ev_tmp))) (And.intro (And.intro (And.intro @ev_const @co_int) (And.intro @co_bool @co_str)) (And.intro (And.intro @co_slice @co_agg) (And.intro @put_some @put_none)))) (And.intro (And.intro (And.intro @lk_nil (And.intro @lk_cons @hp_var)) (And.intro (And.intro @hp_set @hp_tok) (And.intro @hp_app @bin_shl))) (And.intro (And.intro (And.intro @bin_shr @bin_add) (And.intro @bin_sub @bin_mul)) (And.intro (And.intro @bin_quo @bin_rem) (And.intro @bin_and @bin_or))))) (And.intro (And.intro (And.intro (And.intro @bin_xor (And.intro @bin_eql @bin_neq)) (And.intro (And.intro @bin_lss @bin_leq) (And.intro @bin_gtr @bin_geq))) (And.intro (And.intro (And.intro @bin_sadd @bin_seql) (And.intro @bin_sneq @lits_nil)) (And.intro (And.intro @lits_cons @cond_true.{1}) (And.intro @cond_false.{1} @List.map_cons.{0,0})))) (And.intro (And.intro (And.intro (And.intro @List.map_nil.{0,0} @Option.getD_some.{0}) (And.intro @Option.getD_none.{0} @Option.map_some.{0,0})) (And.intro (And.intro @Option.map_none.{0,0} @Option.isSome_some.{0}) (And.intro @Option.bind_some.{0,0} @true_and))) (And.intro (And.intro (And.intro @and_true @and_self) (And.intro @List.getElem?_cons_zero.{0} @List.getElem?_cons_succ.{0})) (And.intro (And.intro @List.getElem?_toArray.{0} @Option.some.injEq.{0}) (And.intro @Prod.mk.injEq.{0,0} @exists_eq_left'.{1})))))) (And.intro (And.intro (And.intro (And.intro (And.intro @List.length_cons.{0} (And.intro @List.length_nil.{0} @List.take_succ_cons.{0})) (And.intro (And.intro @List.take_zero.{0} @List.drop_zero.{0}) (And.intro @List.drop_succ_cons.{0} @List.cons_append.{0}))) (And.intro (And.intro (And.intro @List.nil_append.{0} @List.append_nil.{0}) (And.intro @List.forall_mem_cons.{0} @List.not_mem_nil.{0})) (And.intro (And.intro @List.replicate_succ.{0} @List.replicate_zero.{0}) (And.intro @List.all_cons.{0} @List.all_nil.{0})))) (And.intro (And.intro (And.intro (And.intro @Bool.and_true @Bool.not_false) (And.intro @Bool.not_true @Nat.max_def)) (And.intro (And.intro @Nat.zero_add @Nat.zero_mul) (And.intro @Nat.mul_one @Nat.one_mul))) (And.intro (And.intro (And.intro @if_true.{1} @if_false.{1}) (And.intro @ne_eq.{1} @not_true_eq_false)) (And.intro (And.intro @not_false_eq_true @false_implies) (And.intro @forall_const.{0} @forall_const.{1}))))) (And.intro (And.intro (And.intro (And.intro @implies_true.{0} (And.intro @implies_true.{1} @gt_iff_lt.{0})) (And.intro (And.intro @or_self @or_false) (And.intro @Nat.lt_irrefl @Nat.not_lt_zero))) (And.intro (And.intro (And.intro @Nat.lt_add_one @eq_self.{1}) (And.intro @gd_tt @gd_ff)) (And.intro (And.intro @gd_tf @gd_ft) (And.intro @Int.toNat_natCast @Int.sub_zero)))) (And.intro (And.intro (And.intro (And.intro @Int.toNat_zero @beq_self_eq_true.{0}) (And.intro @decide_true @decide_false)) (And.intro (And.intro @beq_add_add @beq_add_r) (And.intro @beq_add_l @Nat.add_zero))) (And.intro (And.intro (And.intro @exO_some @gdO_some) (And.intro @Int.cast_ofNat_Int @List.getD_cons_zero.{0})) (And.intro (And.intro @List.getD_cons_succ.{0} @wrap_id) (And.intro @bin_beql @bin_bneq)))))))
def sim_unOp := (And.intro (And.intro (And.intro (And.intro (And.intro (And.intro @av_unOp (And.intro @ev_func @eu_func)) (And.intro @atHp_ap (And.intro @atLit_ap @atInt_ap))) (And.intro (And.intro @ev_tmp (And.intro @ev_const @co_int)) (And.intro @co_bool (And.intro @co_str @co_slice)))) (And.intro (And.intro (And.intro @co_agg (And.intro @put_some @put_none)) (And.intro @lk_nil (And.intro @lk_cons @hp_var))) (And.intro (And.intro @hp_set (And.intro @hp_tok @hp_app)) (And.intro (And.intro @un_not @un_neg) (And.intro @cond_true.{1} @cond_false.{1}))))) (And.intro (And.intro (And.intro (And.intro @List.map_cons.{0,0} (And.intro @List.map_nil.{0,0} @Option.getD_some.{0})) (And.intro @Option.getD_none.{0} (And.intro @Option.map_some.{0,0} @Option.map_none.{0,0}))) (And.intro (And.intro @Option.isSome_some.{0} (And.intro @Option.bind_some.{0,0} @true_and)) (And.intro (And.intro @and_true @and_self) (And.intro @List.getElem?_cons_zero.{0} @List.getElem?_cons_succ.{0})))) (And.intro (And.intro (And.intro @List.getElem?_toArray.{0} (And.intro @Option.some.injEq.{0} @Prod.mk.injEq.{0,0})) (And.intro @exists_eq_left'.{1} (And.intro @List.length_cons.{0} @List.length_nil.{0}))) (And.intro (And.intro @List.take_succ_cons.{0} (And.intro @List.take_zero.{0} @List.drop_zero.{0})) (And.intro (And.intro @List.drop_succ_cons.{0} @List.cons_append.{0}) (And.intro @List.nil_append.{0} @List.append_nil.{0})))))) (And.intro (And.intro (And.intro (And.intro (And.intro @List.forall_mem_cons.{0} (And.intro @List.not_mem_nil.{0} @List.replicate_succ.{0})) (And.intro @List.replicate_zero.{0} (And.intro @List.all_cons.{0} @List.all_nil.{0}))) (And.intro (And.intro @Bool.and_true (And.intro @Bool.not_false @Bool.not_true)) (And.intro @Nat.max_def (And.intro @Nat.zero_add @Nat.zero_mul)))) (And.intro (And.intro (And.intro @Nat.mul_one (And.intro @Nat.one_mul @if_true.{1})) (And.intro @if_false.{1} (And.intro @ne_eq.{1} @not_true_eq_false))) (And.intro (And.intro @not_false_eq_true (And.intro @false_implies @forall_const.{0})) (And.intro (And.intro @forall_const.{1} @implies_true.{0}) (And.intro @implies_true.{1} @gt_iff_lt.{0}))))) (And.intro (And.intro (And.intro (And.intro @or_self (And.intro @or_false @Nat.lt_irrefl)) (And.intro @Nat.not_lt_zero (And.intro @Nat.lt_add_one @eq_self.{1}))) (And.intro (And.intro @gd_tt (And.intro @gd_ff @gd_tf)) (And.intro (And.intro @gd_ft @Int.toNat_natCast) (And.intro @Int.sub_zero @Int.toNat_zero)))) (And.intro (And.intro (And.intro @beq_self_eq_true.{0} (And.intro @decide_true @decide_false)) (And.intro @beq_add_add (And.intro @beq_add_r @beq_add_l))) (And.intro (And.intro @Nat.add_zero (And.intro @exO_some @gdO_some)) (And.intro (And.intro @Int.cast_ofNat_Int @List.getD_cons_zero.{0}) (And.intro @List.getD_cons_succ.{0} @wrap_id)))))))
def sim_slice := (And.intro (And.intro (And.intro (And.intro (And.intro (And.intro @av_slice (And.intro @ev_func @eu_func)) (And.intro @atHp_ap (And.intro @atLit_ap @atInt_ap))) (And.intro (And.intro @ev_tmp (And.intro @ev_const @co_int)) (And.intro (And.intro @co_bool @co_str) (And.intro @co_slice @co_agg)))) (And.intro (And.intro (And.intro @put_some (And.intro @put_none @lk_nil)) (And.intro (And.intro @lk_cons @hp_var) (And.intro @hp_set @hp_tok))) (And.intro (And.intro @hp_app (And.intro @asSl_sl @asSl_own)) (And.intro (And.intro @asSl_fu @asSl_nil) (And.intro @boundV_none @boundV_some))))) (And.intro (And.intro (And.intro (And.intro @slH_none (And.intro @slH_some @slH_max)) (And.intro (And.intro @slS_none @slS_some) (And.intro @cond_true.{1} @cond_false.{1}))) (And.intro (And.intro @List.map_cons.{0,0} (And.intro @List.map_nil.{0,0} @Option.getD_some.{0})) (And.intro (And.intro @Option.getD_none.{0} @Option.map_some.{0,0}) (And.intro @Option.map_none.{0,0} @Option.isSome_some.{0})))) (And.intro (And.intro (And.intro @Option.bind_some.{0,0} (And.intro @true_and @and_true)) (And.intro (And.intro @and_self @List.getElem?_cons_zero.{0}) (And.intro @List.getElem?_cons_succ.{0} @List.getElem?_toArray.{0}))) (And.intro (And.intro @Option.some.injEq.{0} (And.intro @Prod.mk.injEq.{0,0} @exists_eq_left'.{1})) (And.intro (And.intro @List.length_cons.{0} @List.length_nil.{0}) (And.intro @List.take_succ_cons.{0} @List.take_zero.{0})))))) (And.intro (And.intro (And.intro (And.intro (And.intro @List.drop_zero.{0} (And.intro @List.drop_succ_cons.{0} @List.cons_append.{0})) (And.intro (And.intro @List.nil_append.{0} @List.append_nil.{0}) (And.intro @List.forall_mem_cons.{0} @List.not_mem_nil.{0}))) (And.intro (And.intro @List.replicate_succ.{0} (And.intro @List.replicate_zero.{0} @List.all_cons.{0})) (And.intro (And.intro @List.all_nil.{0} @Bool.and_true) (And.intro @Bool.not_false @Bool.not_true)))) (And.intro (And.intro (And.intro @Nat.max_def (And.intro @Nat.zero_add @Nat.zero_mul)) (And.intro (And.intro @Nat.mul_one @Nat.one_mul) (And.intro @if_true.{1} @if_false.{1}))) (And.intro (And.intro @ne_eq.{1} (And.intro @not_true_eq_false @not_false_eq_true)) (And.intro (And.intro @false_implies @forall_const.{0}) (And.intro @forall_const.{1} @implies_true.{0}))))) (And.intro (And.intro (And.intro (And.intro @implies_true.{1} (And.intro @gt_iff_lt.{0} @or_self)) (And.intro (And.intro @or_false @Nat.lt_irrefl) (And.intro @Nat.not_lt_zero @Nat.lt_add_one))) (And.intro (And.intro @eq_self.{1} (And.intro @gd_tt @gd_ff)) (And.intro (And.intro @gd_tf @gd_ft) (And.intro @Int.toNat_natCast @Int.sub_zero)))) (And.intro (And.intro (And.intro @Int.toNat_zero (And.intro @beq_self_eq_true.{0} @decide_true)) (And.intro (And.intro @decide_false @beq_add_add) (And.intro @beq_add_r @beq_add_l))) (And.intro (And.intro @Nat.add_zero (And.intro @exO_some @gdO_some)) (And.intro (And.intro @Int.cast_ofNat_Int @List.getD_cons_zero.{0}) (And.intro @List.getD_cons_succ.{0} @wrap_id)))))))
def sim_fieldAddr := (And.intro (And.intro (And.intro (And.intro (And.intro (And.intro @av_fieldAddr (And.intro @ev_func @eu_func)) (And.intro @atHp_ap (And.intro @atLit_ap @atInt_ap))) (And.intro (And.intro @ev_tmp (And.intro @ev_const @co_int)) (And.intro @co_bool (And.intro @co_str @co_slice)))) (And.intro (And.intro (And.intro @co_agg (And.intro @put_some @put_none)) (And.intro @lk_nil (And.intro @lk_cons @hp_var))) (And.intro (And.intro @hp_set (And.intro @hp_tok @hp_app)) (And.intro (And.intro @fieldAddrV_pt @fieldAddrV_fp) (And.intro @cond_true.{1} @cond_false.{1}))))) (And.intro (And.intro (And.intro (And.intro @List.map_cons.{0,0} (And.intro @List.map_nil.{0,0} @Option.getD_some.{0})) (And.intro @Option.getD_none.{0} (And.intro @Option.map_some.{0,0} @Option.map_none.{0,0}))) (And.intro (And.intro @Option.isSome_some.{0} (And.intro @Option.bind_some.{0,0} @true_and)) (And.intro (And.intro @and_true @and_self) (And.intro @List.getElem?_cons_zero.{0} @List.getElem?_cons_succ.{0})))) (And.intro (And.intro (And.intro @List.getElem?_toArray.{0} (And.intro @Option.some.injEq.{0} @Prod.mk.injEq.{0,0})) (And.intro @exists_eq_left'.{1} (And.intro @List.length_cons.{0} @List.length_nil.{0}))) (And.intro (And.intro @List.take_succ_cons.{0} (And.intro @List.take_zero.{0} @List.drop_zero.{0})) (And.intro (And.intro @List.drop_succ_cons.{0} @List.cons_append.{0}) (And.intro @List.nil_append.{0} @List.append_nil.{0})))))) (And.intro (And.intro (And.intro (And.intro (And.intro @List.forall_mem_cons.{0} (And.intro @List.not_mem_nil.{0} @List.replicate_succ.{0})) (And.intro @List.replicate_zero.{0} (And.intro @List.all_cons.{0} @List.all_nil.{0}))) (And.intro (And.intro @Bool.and_true (And.intro @Bool.not_false @Bool.not_true)) (And.intro @Nat.max_def (And.intro @Nat.zero_add @Nat.zero_mul)))) (And.intro (And.intro (And.intro @Nat.mul_one (And.intro @Nat.one_mul @if_true.{1})) (And.intro @if_false.{1} (And.intro @ne_eq.{1} @not_true_eq_false))) (And.intro (And.intro @not_false_eq_true (And.intro @false_implies @forall_const.{0})) (And.intro (And.intro @forall_const.{1} @implies_true.{0}) (And.intro @implies_true.{1} @gt_iff_lt.{0}))))) (And.intro (And.intro (And.intro (And.intro @or_self (And.intro @or_false @Nat.lt_irrefl)) (And.intro @Nat.not_lt_zero (And.intro @Nat.lt_add_one @eq_self.{1}))) (And.intro (And.intro @gd_tt (And.intro @gd_ff @gd_tf)) (And.intro (And.intro @gd_ft @Int.toNat_natCast) (And.intro @Int.sub_zero @Int.toNat_zero)))) (And.intro (And.intro (And.intro @beq_self_eq_true.{0} (And.intro @decide_true @decide_false)) (And.intro @beq_add_add (And.intro @beq_add_r @beq_add_l))) (And.intro (And.intro @Nat.add_zero (And.intro @exO_some @gdO_some)) (And.intro (And.intro @Int.cast_ofNat_Int @List.getD_cons_zero.{0}) (And.intro @List.getD_cons_succ.{0} @wrap_id)))))))
def sim_indexAddr := (And.intro (And.intro (And.intro (And.intro (And.intro (And.intro @av_indexAddr (And.intro @ev_func @eu_func)) (And.intro @atHp_ap (And.intro @atLit_ap @atInt_ap))) (And.intro (And.intro @ev_tmp (And.intro @ev_const @co_int)) (And.intro (And.intro @co_bool @co_str) (And.intro @co_slice @co_agg)))) (And.intro (And.intro (And.intro @put_some (And.intro @put_none @lk_nil)) (And.intro @lk_cons (And.intro @hp_var @hp_set))) (And.intro (And.intro @hp_tok (And.intro @hp_app @asSl_sl)) (And.intro (And.intro @asSl_own @asSl_fu) (And.intro @asSl_nil @indexAddrV_eq))))) (And.intro (And.intro (And.intro (And.intro @cond_true.{1} (And.intro @cond_false.{1} @List.map_cons.{0,0})) (And.intro @List.map_nil.{0,0} (And.intro @Option.getD_some.{0} @Option.getD_none.{0}))) (And.intro (And.intro @Option.map_some.{0,0} (And.intro @Option.map_none.{0,0} @Option.isSome_some.{0})) (And.intro (And.intro @Option.bind_some.{0,0} @true_and) (And.intro @and_true @and_self)))) (And.intro (And.intro (And.intro @List.getElem?_cons_zero.{0} (And.intro @List.getElem?_cons_succ.{0} @List.getElem?_toArray.{0})) (And.intro @Option.some.injEq.{0} (And.intro @Prod.mk.injEq.{0,0} @exists_eq_left'.{1}))) (And.intro (And.intro @List.length_cons.{0} (And.intro @List.length_nil.{0} @List.take_succ_cons.{0})) (And.intro (And.intro @List.take_zero.{0} @List.drop_zero.{0}) (And.intro @List.drop_succ_cons.{0} @List.cons_append.{0})))))) (And.intro (And.intro (And.intro (And.intro (And.intro @List.nil_append.{0} (And.intro @List.append_nil.{0} @List.forall_mem_cons.{0})) (And.intro @List.not_mem_nil.{0} (And.intro @List.replicate_succ.{0} @List.replicate_zero.{0}))) (And.intro (And.intro @List.all_cons.{0} (And.intro @List.all_nil.{0} @Bool.and_true)) (And.intro (And.intro @Bool.not_false @Bool.not_true) (And.intro @Nat.max_def @Nat.zero_add)))) (And.intro (And.intro (And.intro @Nat.zero_mul (And.intro @Nat.mul_one @Nat.one_mul)) (And.intro @if_true.{1} (And.intro @if_false.{1} @ne_eq.{1}))) (And.intro (And.intro @not_true_eq_false (And.intro @not_false_eq_true @false_implies)) (And.intro (And.intro @forall_const.{0} @forall_const.{1}) (And.intro @implies_true.{0} @implies_true.{1}))))) (And.intro (And.intro (And.intro (And.intro @gt_iff_lt.{0} (And.intro @or_self @or_false)) (And.intro @Nat.lt_irrefl (And.intro @Nat.not_lt_zero @Nat.lt_add_one))) (And.intro (And.intro @eq_self.{1} (And.intro @gd_tt @gd_ff)) (And.intro (And.intro @gd_tf @gd_ft) (And.intro @Int.toNat_natCast @Int.sub_zero)))) (And.intro (And.intro (And.intro @Int.toNat_zero (And.intro @beq_self_eq_true.{0} @decide_true)) (And.intro (And.intro @decide_false @beq_add_add) (And.intro @beq_add_r @beq_add_l))) (And.intro (And.intro @Nat.add_zero (And.intro @exO_some @gdO_some)) (And.intro (And.intro @Int.cast_ofNat_Int @List.getD_cons_zero.{0}) (And.intro @List.getD_cons_succ.{0} @wrap_id)))))))
def sim_call := (And.intro (And.intro (And.intro (And.intro (And.intro (And.intro (And.intro @av_len @av_builtin) (And.intro @av_call @av_callU)) (And.intro (And.intro @av_calltmp @ev_func) (And.intro @eu_func @atHp_ap))) (And.intro (And.intro (And.intro @atLit_ap @atInt_ap) (And.intro @ev_tmp @ev_const)) (And.intro (And.intro @co_int @co_bool) (And.intro @co_str (And.intro @co_slice @co_agg))))) (And.intro (And.intro (And.intro (And.intro @put_some @put_none) (And.intro @lk_nil @lk_cons)) (And.intro (And.intro @hp_var @hp_set) (And.intro @hp_tok (And.intro @hp_app @asSl_sl)))) (And.intro (And.intro (And.intro @asSl_own @asSl_fu) (And.intro @asSl_nil @strOf_str)) (And.intro (And.intro @strOf_sl @strOf_own) (And.intro @strOf_fu (And.intro @strOf_nil @ex_e)))))) (And.intro (And.intro (And.intro (And.intro (And.intro @ex_own @ex_fu) (And.intro @ex_ag @ex_tu)) (And.intro (And.intro @ex_fp @exC_e) (And.intro @exC_own (And.intro @exC_fu @pure_e)))) (And.intro (And.intro (And.intro @pure_ag @pure_fp) (And.intro @pureC_e @calleeV_lit)) (And.intro (And.intro @calleeV_fn @builtin_len) (And.intro @builtin_min (And.intro @builtin_max @builtin_append))))) (And.intro (And.intro (And.intro (And.intro @appOwn_ap @appNil_ap) (And.intro @appendV_own @appFu_ap)) (And.intro (And.intro @appendV_fu @appendV_nil) (And.intro @adopt_own (And.intro @adopt_e @adopt_ag)))) (And.intro (And.intro (And.intro @adopt_tu @cond_true.{1}) (And.intro @cond_false.{1} @List.map_cons.{0,0})) (And.intro (And.intro @List.map_nil.{0,0} @Option.getD_some.{0}) (And.intro @Option.getD_none.{0} (And.intro @Option.map_some.{0,0} @Option.map_none.{0,0}))))))) (And.intro (And.intro (And.intro (And.intro (And.intro (And.intro @Option.isSome_some.{0} @Option.bind_some.{0,0}) (And.intro @true_and @and_true)) (And.intro (And.intro @and_self @List.getElem?_cons_zero.{0}) (And.intro @List.getElem?_cons_succ.{0} @List.getElem?_toArray.{0}))) (And.intro (And.intro (And.intro @Option.some.injEq.{0} @Prod.mk.injEq.{0,0}) (And.intro @exists_eq_left'.{1} @List.length_cons.{0})) (And.intro (And.intro @List.length_nil.{0} @List.take_succ_cons.{0}) (And.intro @List.take_zero.{0} (And.intro @List.drop_zero.{0} @List.drop_succ_cons.{0}))))) (And.intro (And.intro (And.intro (And.intro @List.cons_append.{0} @List.nil_append.{0}) (And.intro @List.append_nil.{0} @List.forall_mem_cons.{0})) (And.intro (And.intro @List.not_mem_nil.{0} @List.replicate_succ.{0}) (And.intro @List.replicate_zero.{0} (And.intro @List.all_cons.{0} @List.all_nil.{0})))) (And.intro (And.intro (And.intro @Bool.and_true @Bool.not_false) (And.intro @Bool.not_true @Nat.max_def)) (And.intro (And.intro @Nat.zero_add @Nat.zero_mul) (And.intro @Nat.mul_one (And.intro @Nat.one_mul @if_true.{1})))))) (And.intro (And.intro (And.intro (And.intro (And.intro @if_false.{1} @ne_eq.{1}) (And.intro @not_true_eq_false @not_false_eq_true)) (And.intro (And.intro @false_implies @forall_const.{0}) (And.intro @forall_const.{1} (And.intro @implies_true.{0} @implies_true.{1})))) (And.intro (And.intro (And.intro @gt_iff_lt.{0} @or_self) (And.intro @or_false @Nat.lt_irrefl)) (And.intro (And.intro @Nat.not_lt_zero @Nat.lt_add_one) (And.intro @eq_self.{1} (And.intro @gd_tt @gd_ff))))) (And.intro (And.intro (And.intro (And.intro @gd_tf @gd_ft) (And.intro @Int.toNat_natCast @Int.sub_zero)) (And.intro (And.intro @Int.toNat_zero @beq_self_eq_true.{0}) (And.intro @decide_true (And.intro @decide_false @beq_add_add)))) (And.intro (And.intro (And.intro @beq_add_r @beq_add_l) (And.intro @Nat.add_zero @exO_some)) (And.intro (And.intro @gdO_some @Int.cast_ofNat_Int) (And.intro @List.getD_cons_zero.{0} (And.intro @List.getD_cons_succ.{0} @wrap_id))))))))
def sim_nilCheck := (And.intro (And.intro (And.intro (And.intro (And.intro (And.intro @av_nilCheck (And.intro @ev_func @eu_func)) (And.intro @atHp_ap (And.intro @atLit_ap @atInt_ap))) (And.intro (And.intro @ev_tmp (And.intro @ev_const @co_int)) (And.intro @co_bool (And.intro @co_str @co_slice)))) (And.intro (And.intro (And.intro @co_agg (And.intro @put_some @put_none)) (And.intro @lk_nil (And.intro @lk_cons @hp_var))) (And.intro (And.intro @hp_set (And.intro @hp_tok @hp_app)) (And.intro (And.intro @nilV_pt @nilV_fp) (And.intro @cond_true.{1} @cond_false.{1}))))) (And.intro (And.intro (And.intro (And.intro @List.map_cons.{0,0} (And.intro @List.map_nil.{0,0} @Option.getD_some.{0})) (And.intro @Option.getD_none.{0} (And.intro @Option.map_some.{0,0} @Option.map_none.{0,0}))) (And.intro (And.intro @Option.isSome_some.{0} (And.intro @Option.bind_some.{0,0} @true_and)) (And.intro (And.intro @and_true @and_self) (And.intro @List.getElem?_cons_zero.{0} @List.getElem?_cons_succ.{0})))) (And.intro (And.intro (And.intro @List.getElem?_toArray.{0} (And.intro @Option.some.injEq.{0} @Prod.mk.injEq.{0,0})) (And.intro @exists_eq_left'.{1} (And.intro @List.length_cons.{0} @List.length_nil.{0}))) (And.intro (And.intro @List.take_succ_cons.{0} (And.intro @List.take_zero.{0} @List.drop_zero.{0})) (And.intro (And.intro @List.drop_succ_cons.{0} @List.cons_append.{0}) (And.intro @List.nil_append.{0} @List.append_nil.{0})))))) (And.intro (And.intro (And.intro (And.intro (And.intro @List.forall_mem_cons.{0} (And.intro @List.not_mem_nil.{0} @List.replicate_succ.{0})) (And.intro @List.replicate_zero.{0} (And.intro @List.all_cons.{0} @List.all_nil.{0}))) (And.intro (And.intro @Bool.and_true (And.intro @Bool.not_false @Bool.not_true)) (And.intro @Nat.max_def (And.intro @Nat.zero_add @Nat.zero_mul)))) (And.intro (And.intro (And.intro @Nat.mul_one (And.intro @Nat.one_mul @if_true.{1})) (And.intro @if_false.{1} (And.intro @ne_eq.{1} @not_true_eq_false))) (And.intro (And.intro @not_false_eq_true (And.intro @false_implies @forall_const.{0})) (And.intro (And.intro @forall_const.{1} @implies_true.{0}) (And.intro @implies_true.{1} @gt_iff_lt.{0}))))) (And.intro (And.intro (And.intro (And.intro @or_self (And.intro @or_false @Nat.lt_irrefl)) (And.intro @Nat.not_lt_zero (And.intro @Nat.lt_add_one @eq_self.{1}))) (And.intro (And.intro @gd_tt (And.intro @gd_ff @gd_tf)) (And.intro (And.intro @gd_ft @Int.toNat_natCast) (And.intro @Int.sub_zero @Int.toNat_zero)))) (And.intro (And.intro (And.intro @beq_self_eq_true.{0} (And.intro @decide_true @decide_false)) (And.intro @beq_add_add (And.intro @beq_add_r @beq_add_l))) (And.intro (And.intro @Nat.add_zero (And.intro @exO_some @gdO_some)) (And.intro (And.intro @Int.cast_ofNat_Int @List.getD_cons_zero.{0}) (And.intro @List.getD_cons_succ.{0} @wrap_id)))))))
def sim_ev := (And.intro (And.intro (And.intro @ev_tmp (And.intro @ev_const @co_int)) (And.intro (And.intro @co_bool @co_str) (And.intro @co_slice @lk_cons))) (And.intro (And.intro @lk_nil (And.intro @cond_true.{1} @cond_false.{1})) (And.intro (And.intro @Option.getD_some.{0} @Option.getD_none.{0}) (And.intro @ev_func @eu_func))))
def sim_un := (And.intro (And.intro (And.intro @eu_tmp (And.intro @eu_const @un_opt)) (And.intro @un_e (And.intro @un_own @un_fu))) (And.intro (And.intro @un_ag (And.intro @un_fp @un_pt)) (And.intro @un_fn (And.intro @un_tu @un_ow))))
def sim_ex := (And.intro (And.intro (And.intro @ex_e @ex_own) (And.intro @ex_fu (And.intro @ex_ag @ex_tu))) (And.intro (And.intro @ex_fp (And.intro @exC_e @exC_own)) (And.intro @exC_fu (And.intro @List.map_cons.{0,0} @List.map_nil.{0,0}))))
def sim_bool := (And.intro (And.intro (And.intro @decide_eq_true_eq (And.intro @Bool.and_eq_true @Bool.or_eq_true)) (And.intro (And.intro @Bool.not_eq_true' @Bool.and_eq_false_imp) (And.intro @Bool.or_eq_false_iff @decide_eq_false_iff_not))) (And.intro (And.intro @Bool.not_eq_eq_eq_not (And.intro @Bool.not_true @Bool.not_false)) (And.intro (And.intro @not_and @not_or) (And.intro @Int.not_lt @Int.not_le))))
section
def fitFs (tb : TypeId → Option TyE) (f : TypeId → List Value → Prop) : List (Nat × TypeId) → Nat → List Value → Prop
  | [], _, us => us = []
  | (o, t) :: fs, off, us => o = off ∧ match tb t with
    | some j => f t (us.take j.size) ∧ j.size ≤ us.length ∧ fitFs tb f fs (off + j.size) (us.drop j.size)
    | none => False
def fitT (tb : TypeId → Option TyE) : Nat → TypeId → List Value → Prop
  | 0, _, _ => False
  | d + 1, t, us => match tb t with
    | some i => match i.ty with
      | .int k => ∃ n, us = [.int k n]
      | .bool => ∃ b, us = [.bool b]
      | .str => ∃ s, us = [.string s]
      | .struct fs => fitFs tb (fitT tb d) fs 0 us
      | .arr n e => match tb e with
        | some j => us.length = n * j.size ∧ ∀ i, i < n → fitT tb d e ((us.drop (i * j.size)).take j.size)
        | none => False
      | _ => False
    | none => False
def namesOk (P : Program) : Nat → TypeId → Bool
  | 0, _ => true
  | d + 1, t => match P.underlying t with
    | some (.struct fs) => !P.stoodInHeld t && fs.toList.all fun f => f.name != "_" && namesOk P d f.type
    | some (.array _ e) => namesOk P d e
    | _ => true
def valT (g : Bool) (us : List Value) : Value := if g then .agg us.toArray else us.getD 0 undef
section
variable {P : Program} {tb : TypeId → Option TyE}
theorem part_valT (tok : TOk P tb) {t : TypeId} {j : TyE} (ht : tb t = some j) (us : List Value) (off : Nat) (w : World) (hl : off + j.size ≤ us.length) (h1 : j.ty.agg = false → j.size = 1) : (part t us.toArray off).run P w = .ok (valT j.ty.agg ((us.drop off).take j.size)) w := by
  unfold valT
  cases hg : j.ty.agg with
  | true =>
    rw [run_part_agg tok ht hg, if_pos rfl]
    congr 2
    apply Array.toList_inj.1
    simp
  | false =>
    have hz := h1 hg
    rw [hz] at hl
    have hlt : off < us.length := by omega
    rw [run_part_one tok ht hg us.toArray off us[off] (by simp [hlt]), if_neg (by simp), hz, List.drop_eq_getElem_cons hlt]
    rfl
theorem fit_len1 {d : Nat} {t : TypeId} {i : TyE} {us : List Value} (ht : tb t = some i) (hg : i.ty.agg = false) (h : fitT tb d t us) : ∃ u, us = [u] := by
  cases d with
  | zero => cases h
  | succ d =>
    unfold fitT at h
    rw [ht] at h
    dsimp only at h
    split at h
    · obtain ⟨n, h⟩ := h; exact ⟨_, h⟩
    · obtain ⟨n, h⟩ := h; exact ⟨_, h⟩
    · obtain ⟨n, h⟩ := h; exact ⟨_, h⟩
    · rename_i he; rw [he] at hg; cases hg
    · rename_i he; rw [he] at hg; cases hg
    · cases h
theorem chunks_eq {α : Type} : ∀ (n z : Nat) (us vs : List α), us.length = n * z → vs.length = n * z → (∀ i, i < n → (us.drop (i * z)).take z = (vs.drop (i * z)).take z) → us = vs
  | 0, z, us, vs, h1, h2, _ => by
    rw [Nat.zero_mul] at h1 h2
    rw [List.eq_nil_of_length_eq_zero h1, List.eq_nil_of_length_eq_zero h2]
  | n + 1, z, us, vs, h1, h2, h => by
    rw [Nat.succ_mul] at h1 h2
    have h0 := h 0 (Nat.succ_pos n)
    simp only [Nat.zero_mul, List.drop_zero] at h0
    have hd := chunks_eq n z (us.drop z) (vs.drop z) (by rw [List.length_drop]; omega) (by rw [List.length_drop]; omega) fun i hi => by
      have := h (i + 1) (by omega)
      rw [List.drop_drop, List.drop_drop, show z + i * z = (i + 1) * z by rw [Nat.succ_mul]; omega]
      exact this
    rw [← List.take_append_drop z us, ← List.take_append_drop z vs, h0, hd]
theorem eqT_run (tok : TOk P tb) : ∀ (d D : Nat) (t : TypeId) (i : TyE) (us vs : List Value) (w : World), d ≤ D → tb t = some i → fitT tb d t us → fitT tb d t vs → namesOk P d t = true →
    ∃ r, (Op.equalIn D t (valT i.ty.agg us) (valT i.ty.agg vs)).run P w = .ok r w ∧ (r = true ↔ us = vs)
  | 0, _, _, _, _, _, _, _, _, h, _, _ => h.elim
  | d + 1, 0, _, _, _, _, _, h, _, _, _, _ => absurd h (by omega)
  | d + 1, D + 1, t, i, us, vs, w, hD, ht, hu, hv, hn => by
    unfold fitT at hu hv
    rw [ht] at hu hv
    dsimp only at hu hv
    cases hty : i.ty with
    | int k =>
      rw [hty] at hu hv
      obtain ⟨a, rfl⟩ := hu
      obtain ⟨b, rfl⟩ := hv
      exact ⟨a == b, run_equalIn_int w D t k k a b (tok.int ht hty), by simp⟩
    | bool =>
      rw [hty] at hu hv
      obtain ⟨a, rfl⟩ := hu
      obtain ⟨b, rfl⟩ := hv
      obtain ⟨dd, hd1, hd2⟩ := tok.und ht
      rw [hty] at hd2
      have hb : P.underlying t = some .bool := by cases dd <;> simp [Ty.of] at hd2; exact hd1
      exact ⟨a == b, run_equalIn_bool' w D t a b hb, by simp⟩
    | str =>
      rw [hty] at hu hv
      obtain ⟨a, rfl⟩ := hu
      obtain ⟨b, rfl⟩ := hv
      exact ⟨_, run_equalIn_string w D t a b (tok.str ht hty), by rw [str_beq]; simp⟩
    | slice e => rw [hty] at hu; cases hu
    | other => rw [hty] at hu; cases hu
    | struct fs =>
      rw [hty] at hu hv
      dsimp only at hu hv
      obtain ⟨fields, hf, hfs⟩ := tok.struct ht hty
      have hfo : P.fieldsOf t = fields := by unfold Program.fieldsOf; rw [hf]
      unfold namesOk at hn
      rw [hf] at hn
      simp only [Bool.and_eq_true, Bool.not_eq_true', List.all_eq_true, bne_iff_ne, ne_eq] at hn
      have key : ∀ (l : List Field) (off : Nat) (us' vs' : List Value), (∀ f ∈ l, f.name ≠ "_" ∧ namesOk P d f.type = true) → off ≤ us.length → off ≤ vs.length → us.drop off = us' → vs.drop off = vs' → fitFs tb (fitT tb d) (l.map fun f => (f.offset, f.type)) off us' → fitFs tb (fitT tb d) (l.map fun f => (f.offset, f.type)) off vs' →
          ∃ r, (Op.eqFields D us.toArray vs.toArray l).run P w = .ok r w ∧ (r = true ↔ us' = vs') := by
        intro l
        induction l with
        | nil =>
          intro off us' vs' _ _ _ _ _ h1 h2
          have e1 : us' = [] := h1
          have e2 : vs' = [] := h2
          subst e1; subst e2
          exact ⟨true, by simp [Op.eqFields], by simp⟩
        | cons f l ih =>
          intro off us' vs' hl ou ov h1 h2 h3 h4
          obtain ⟨hname, hnf⟩ := hl f (List.mem_cons_self ..)
          simp only [List.map_cons, fitFs] at h3 h4
          obtain ⟨ho, h3⟩ := h3
          obtain ⟨_, h4⟩ := h4
          cases hj : tb f.type with
          | none => rw [hj] at h3; cases h3
          | some j =>
            rw [hj] at h3 h4
            obtain ⟨f1, l1, r1⟩ := h3
            obtain ⟨f2, l2, r2⟩ := h4
            have lu : off + j.size ≤ us.length := by rw [← h1, List.length_drop] at l1; omega
            have lv : off + j.size ≤ vs.length := by rw [← h2, List.length_drop] at l2; omega
            have hz : j.ty.agg = false → j.size = 1 := by
              intro hg
              obtain ⟨u, hu⟩ := fit_len1 hj hg f1
              have := congrArg List.length hu
              simp at this
              omega
            obtain ⟨ra, ha1, ha2⟩ := eqT_run tok d D f.type j _ _ w (by omega) hj f1 f2 hnf
            obtain ⟨rb, hb1, hb2⟩ := ih (off + j.size) (us'.drop j.size) (vs'.drop j.size) (fun g hg => hl g (List.mem_cons_of_mem _ hg)) lu lv (by rw [← h1, List.drop_drop]) (by rw [← h2, List.drop_drop]) r1 r2
            have pu := part_valT tok hj us off w lu hz
            have pv := part_valT tok hj vs off w lv hz
            rw [h1] at pu
            rw [h2] at pv
            have happ : us' = vs' ↔ us'.take j.size = vs'.take j.size ∧ us'.drop j.size = vs'.drop j.size :=
              ⟨fun h => by rw [h]; exact ⟨rfl, rfl⟩, fun h => by rw [← List.take_append_drop j.size us', h.1, h.2, List.take_append_drop]⟩
            refine ⟨if ra = true then rb else false, ?_, ?_⟩
            · unfold Op.eqFields
              rw [if_pos hname, ho]
              simp only [Sem.run_bind, pu, pv, ha1, Result.andThen_ok]
              cases ra
              · simp
              · simpa using hb1
            · rw [happ, ← ha2, ← hb2]
              cases ra <;> simp
      obtain ⟨r, hr1, hr2⟩ := key fields.toList 0 us vs (fun f hfm => hn.2 f hfm) (Nat.zero_le _) (Nat.zero_le _) rfl rfl (by rw [hfs]; exact hu) (by rw [hfs]; exact hv)
      refine ⟨r, ?_, hr2⟩
      show (Op.equalIn (D + 1) t (.agg us.toArray) (.agg vs.toArray)).run P w = _
      rw [run_equalIn_struct w D t _ _ (by rw [hfo]; exact hf) hn.1, hfo]
      exact hr1
    | arr n e =>
      rw [hty] at hu hv
      dsimp only at hu hv
      cases hj : tb e with
      | none => rw [hj] at hu; cases hu
      | some j =>
        rw [hj] at hu hv
        obtain ⟨lu, fu⟩ := hu
        obtain ⟨lv, fv⟩ := hv
        have hf := tok.arr ht hty
        unfold namesOk at hn
        rw [hf] at hn
        dsimp only at hn
        have hz : 0 < n → j.ty.agg = false → j.size = 1 := by
          intro h0 hg
          obtain ⟨u, hu⟩ := fit_len1 hj hg (fu 0 h0)
          have := congrArg List.length hu
          have h2 : j.size ≤ us.length := by rw [lu]; exact Nat.le_mul_of_pos_left _ h0
          simp at this
          omega
        have hall : us = vs ↔ ∀ i ∈ List.range' 0 n 1, (us.drop (i * j.size)).take j.size = (vs.drop (i * j.size)).take j.size :=
          ⟨fun h i _ => by rw [h], fun h => chunks_eq n j.size us vs lu lv fun i hi => h i (by simp [List.mem_range'_1, hi])⟩
        have hl : ∀ i ∈ List.range' 0 n 1, i < n := fun i hi => by simpa using (List.mem_range'_1.1 hi).2
        show ∃ r, (Op.equalIn (D + 1) t (.agg us.toArray) (.agg vs.toArray)).run P w = .ok r w ∧ _
        rw [Op.equalIn, hall]
        simp only [Sem.run_bind, run_underlying hf, Result.andThen_ok, tok.run_sizeOf hj, Std.Legacy.Range.forIn_eq_forIn_range', Std.Legacy.Range.size, Nat.sub_zero, Nat.add_sub_cancel, Nat.div_one]
        clear hall
        generalize List.range' 0 n 1 = l at hl ⊢
        induction l with
        | nil => exact ⟨true, by simp, by simp⟩
        | cons i l ih =>
          have hi : i < n := hl i (List.mem_cons_self ..)
          have hm : i * j.size + j.size ≤ n * j.size := by rw [← Nat.succ_mul]; exact Nat.mul_le_mul_right _ hi
          have pu := part_valT tok hj us (i * j.size) w (by omega) (hz (by omega))
          have pv := part_valT tok hj vs (i * j.size) w (by omega) (hz (by omega))
          obtain ⟨ra, ha1, ha2⟩ := eqT_run tok d D e j _ _ w (by omega) hj (fu i hi) (fv i hi) hn
          obtain ⟨rb, hb1, hb2⟩ := ih fun i hi => hl i (List.mem_cons_of_mem _ hi)
          refine ⟨if ra = true then rb else false, ?_, ?_⟩
          · simp only [List.forIn_cons, Sem.run_bind, pu, pv, ha1, Result.andThen_ok]
            cases ra
            · simp
            · simp only [Bool.not_true, Bool.false_eq_true, if_false, Sem.run_pure, Result.andThen_ok, if_true]
              exact hb1
          · rw [List.forall_mem_cons, ← ha2, ← hb2]
            cases ra <;> simp
theorem ag_eql (tok : TOk P tb) {t : TypeId} {i : TyE} {us vs : List Value} {p : Prop} [Decidable p] {k : Value → Prop} (d : Nat) (hd : d ≤ 10000) (ht : tb t = some i) (hg : i.ty.agg = true) (hm : P.eqGuardType P.depth t = false) (hn : namesOk P d t = true) (hu : fitT tb d t us) (hv : fitT tb d t vs) (hp : us = vs ↔ p) (hk : k (.bool (decide p))) :
    ∃ r, (∀ w, (do eqGuard .eql t (.tmp 0) (.tmp 0) (.agg us.toArray) (.agg vs.toArray); binOp .eql t (.agg us.toArray) (.agg vs.toArray) : Sem Value).run P w = .ok r w) ∧ r.oneCell' = true ∧ k r := by
  refine ⟨_, fun w => ?_, rfl, hk⟩
  obtain ⟨r, h1, h2⟩ := eqT_run tok d 10000 t i us vs w hd ht hu hv hn
  rw [hg] at h1
  have h1' : (Op.equalIn 10000 t (.agg us.toArray) (.agg vs.toArray)).run P w = .ok r w := h1
  rw [Sem.run_bind, run_eqGuard_agg w .eql t _ _ _ _ hm]
  simp only [Result.andThen_ok]
  rw [run_eql_struct, h1']
  simp only [Result.andThen_ok]
  congr 2
  rw [Bool.eq_iff_iff, h2, hp]
  simp
theorem ag_neq (tok : TOk P tb) {t : TypeId} {i : TyE} {us vs : List Value} {p : Prop} [Decidable p] {k : Value → Prop} (d : Nat) (hd : d ≤ 10000) (ht : tb t = some i) (hg : i.ty.agg = true) (hm : P.eqGuardType P.depth t = false) (hn : namesOk P d t = true) (hu : fitT tb d t us) (hv : fitT tb d t vs) (hp : us = vs ↔ p) (hk : k (.bool (decide (¬ p)))) :
    ∃ r, (∀ w, (do eqGuard .neq t (.tmp 0) (.tmp 0) (.agg us.toArray) (.agg vs.toArray); binOp .neq t (.agg us.toArray) (.agg vs.toArray) : Sem Value).run P w = .ok r w) ∧ r.oneCell' = true ∧ k r := by
  refine ⟨_, fun w => ?_, rfl, hk⟩
  obtain ⟨r, h1, h2⟩ := eqT_run tok d 10000 t i us vs w hd ht hu hv hn
  rw [hg] at h1
  have h1' : (Op.equalIn 10000 t (.agg us.toArray) (.agg vs.toArray)).run P w = .ok r w := h1
  rw [Sem.run_bind, run_eqGuard_agg w .neq t _ _ _ _ hm]
  simp only [Result.andThen_ok]
  rw [run_neq_struct, h1']
  simp only [Result.andThen_ok]
  congr 2
  rw [Bool.eq_iff_iff, decide_eq_true_iff, ← hp, ← h2]
  cases r <;> simp
theorem binV_agE (tok : TOk P tb) (d : Nat) (hd : d ≤ 10000) {t : TypeId} {i : TyE} {xs ys : List D} {us vs : List Value} {p : Prop} {k : Value → Prop} (ht : tb t = some i) (hg : i.ty.agg = true) (hm : P.eqGuardType P.depth t = false) (hn : namesOk P d t = true) (hx : litsOf xs = some us) (hy : litsOf ys = some vs) (hu : fitT tb d t us) (hv : fitT tb d t vs) (hp : us = vs ↔ p) (_inst : Decidable p) (hk : k (.bool (decide p))) : binV P .eql t (.ag xs) (.ag ys) k := by
  simp only [binV, hx, hy]
  exact ag_eql tok d hd ht hg hm hn hu hv hp hk
theorem binV_agN (tok : TOk P tb) (d : Nat) (hd : d ≤ 10000) {t : TypeId} {i : TyE} {xs ys : List D} {us vs : List Value} {p : Prop} {k : Value → Prop} (ht : tb t = some i) (hg : i.ty.agg = true) (hm : P.eqGuardType P.depth t = false) (hn : namesOk P d t = true) (hx : litsOf xs = some us) (hy : litsOf ys = some vs) (hu : fitT tb d t us) (hv : fitT tb d t vs) (hp : us = vs ↔ p) (_inst : Decidable p) (hk : k (.bool (decide (¬ p)))) : binV P .neq t (.ag xs) (.ag ys) k := by
  simp only [binV, hx, hy]
  exact ag_neq tok d hd ht hg hm hn hu hv hp hk
end
end
section
section
variable {w : World} {F : Addr → Prop}
theorem PRep.e_inv {x : E} {v : Value} (h : PRep w F (.e x) v) : RepE w F x v := by
  unfold PRep at h
  cases h with
  | e _ _ h => exact h
theorem RepE.lit_inv {u v : Value} (h : RepE w F (.lit u) v) : v = u := by cases h; rfl
theorem PCalls.of1 {P : Program} {f : FuncId} {d r : D} (hf : FnOk P f) (h : ∀ (w : World) (F : Addr → Prop) (v : Value), (∀ p : Addr, F p → p.block < w.heap.size) → PRep w F d v → Calls P f #[v] w fun e w' => ∃ u, e = .returned u ∧ PRes w.heap.size F w' r u ∧ Below w.heap.size w w') : PCalls P f [d] r := by
  refine ⟨hf, fun w F vs hTT hF hsz hvs => ?_⟩
  obtain ⟨v, rfl⟩ : ∃ v, vs = #[v] := by
    rcases vs with ⟨_ | ⟨v, _ | ⟨u, l⟩⟩⟩ <;> simp at hsz
    exact ⟨v, rfl⟩
  exact h w F v hF (hvs 0 d v rfl rfl)
theorem sl_rep {z n : Nat} {xs : List E} {v : Value} (h : RepE w F (.sl z n xs) v) : ∃ us, Sl w v z n us ∧ Pw (RepE w F) xs us := by
  cases h with
  | sl _ _ _ A c us' hl hz hnc hcm hA hc hr =>
    have h' : RepE w F (.sl z n xs) (.slice A n c) := .sl z n xs A c us' hl hz hnc hcm hA hc hr
    obtain ⟨h1, h2, h3, h4, h5, us, h6, h7, h8⟩ := h'.reads
    refine ⟨us, ⟨A, c, rfl, hnc, hcm, h6, fun hn => ?_⟩, h8⟩
    obtain ⟨ad, rfl, hb⟩ := h5 hn
    exact ⟨ad, rfl, hb, fun j u hu => (h7 ad rfl j u hu).1⟩
theorem own_rep (hfits : ∀ p : Addr, F p → p.block < w.heap.size) {w' : World} {e : TypeId} {z n : Nat} {xs : List E} {us : List Value} {q : Value} (hz : 0 < z) (ho : w'.ownsRow w.heap.size e z q n us) (hb : Below w.heap.size w w') (hpw : Pw (RepE w F) xs us) : RepE w' (fun p => F p ∨ Value.tail q (n * z) p) (.sl z n xs) q := by
  have hF : ∀ p : Addr, p.block < w.heap.size → (F p ∨ Value.tail q (n * z) p) → F p := by
    rintro p hp (h | ⟨b, h1, h2, _⟩)
    · exact h
    · have := (ho.lt b h1).1; omega
  have hpw' := hpw.imp (fun _ _ h => h.mono (F' := fun p => F p ∨ Value.tail q (n * z) p) hb.size (fun p hp _ => hb.cell hp) hF)
  have hown : w'.ownsRow w.heap.size e z q (0 + n) ([] ++ us) := by simpa using ho
  -- no cell of the row is forbidden: its block is new
  have := RepE.appended (n := 0) (m := n) (xs := []) (us := []) hz hown Pw.nil hpw' (fun b j hbq hj => by
    rintro (hf | ⟨b', h1, h2, h3⟩)
    · have h4 := (ho.lt b hbq).1
      have h5 : b < w.heap.size := hfits _ hf
      omega
    · have h4 : n * z ≤ j := h3
      rw [Nat.zero_add] at hj
      omega)
  simpa using this
end
end
theorem flat_length {α : Type} (f : α → List E) {z : Nat} (hz : ∀ a, (f a).length = z) (l : List α) : (l.flatMap f).length = l.length * z := by
  induction l with
  | nil => simp
  | cons a l ih => rw [List.flatMap_cons, List.length_append, hz, ih, List.length_cons, Nat.add_mul, Nat.one_mul, Nat.add_comm]
theorem flat_getD {α : Type} [Inhabited α] (f : α → List E) {z : Nat} (hz : ∀ a, (f a).length = z) {l : List α} {i : Nat} (h : i < l.length) {c : Nat} (hc : c < z) : (l.flatMap f).getD (i * z + c) .any = (f l[i]!).getD c .any := by
  induction l generalizing i with
  | nil => simp at h
  | cons a l ih =>
    cases i with
    | zero =>
      simp only [List.flatMap_cons, Nat.zero_mul, Nat.zero_add, List.getD, List.getElem!_cons_zero]
      rw [List.getElem?_append_left (by rw [hz]; exact hc)]
    | succ i =>
      have := ih (i := i) (by simpa using h)
      rw [List.getElem!_cons_succ, ← this]
      simp only [List.flatMap_cons, List.getD]
      rw [List.getElem?_append_right (by rw [hz, Nat.add_mul]; omega), hz]
      congr 2
      rw [Nat.add_mul]
      omega
theorem flat_take {α : Type} (f : α → List E) {z : Nat} (hz : ∀ a, (f a).length = z) : ∀ (l : List α) (i : Nat), (l.flatMap f).take (i * z) = (l.take i).flatMap f
  | [], i => by simp
  | a :: l, 0 => by simp
  | a :: l, i + 1 => by
    rw [List.flatMap_cons, List.take_succ_cons, List.flatMap_cons, ← flat_take f hz l i, List.take_append, hz, List.take_of_length_le (by rw [hz, Nat.add_mul]; omega), Nat.add_mul]
    congr 2
    omega
theorem flat_drop {α : Type} (f : α → List E) {z : Nat} (hz : ∀ a, (f a).length = z) : ∀ (l : List α) (i : Nat), (l.flatMap f).drop (i * z) = (l.drop i).flatMap f
  | [], i => by simp
  | a :: l, 0 => by simp
  | a :: l, i + 1 => by
    rw [List.flatMap_cons, List.drop_succ_cons, ← flat_drop f hz l i, List.drop_append, hz, List.drop_eq_nil_of_le (by rw [hz, Nat.add_mul]; omega), Nat.add_mul, List.nil_append]
    congr 2
    omega
end Go.Proofs.YtakbadleipbngaaDoor
