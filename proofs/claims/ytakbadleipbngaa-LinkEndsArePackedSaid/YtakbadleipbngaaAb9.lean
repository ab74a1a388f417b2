/-
  The abstract layer: states, regions in order, code, functions. Conditions: none.
-/
import Derived.Test.YtakbadleipbngaaAb8
set_option linter.all false
namespace Go.Proofs.Ytakbadleipbngaa
open Go.RowKit

/-! ### States -/
/-- What stays the same while a function runs: where its own blocks begin, the world at its beginning, the cells it may not look at, how many temporaries it has. -/
structure Cx where
  B : Nat
  w0 : World
  F0 : Addr → Prop
  N : Nat
  hp0 : Hp
  g0 : Gh
/-- tm: what is known of the temporaries. -/
def RS (x : Cx) (tm : List (Nat × D)) (hp : Hp) (a : Act) (w : World) : Prop :=
  ∃ g, HR x.B hp g w ∧ (∀ t d, tm.lookup t = some d → RepD hp g w d (a.tmps.getD t undef)) ∧ a.tmps.size = x.N ∧ a.defers = [] ∧ Below x.B x.w0 w ∧ (∀ p : Addr, p.block < x.B → x.F0 p → g.F p) ∧ Mono x.hp0 x.g0 x.w0 hp g w
section
variable {P : Program} {tb : TypeId → Option TyE} {x : Cx} {tm tm' : List (Nat × D)} {hp hp' : Hp} {a : Act} {w w' : World}
theorem constD_rep (g : Gh) (v : Value) : RepD hp g w (constD v) v := by
  unfold constD
  split
  · rename_i cs
    split
    · rename_i h1
      have := (Cells.lits (hp := hp) (g := g) (w := w) cs.toList h1).ag
      simpa using this
    · exact .top _
  · exact .top _
  · rename_i h1 h2
    refine .e _ _ (.lit v ?_)
    cases v <;> first | rfl | exact absurd rfl (h1 _) | exact absurd rfl (h2 _)
theorem evD_rep {g : Gh} (h : ∀ t d, tm.lookup t = some d → RepD hp g w d (a.tmps.getD t undef)) (o : Operand) : RepD hp g w (evD tm o) (a.eval o) := by
  cases o with
  | tmp t =>
    show RepD hp g w ((tm.lookup t).getD .top) _
    cases hl : tm.lookup t with
    | none => exact .top _
    | some d => exact h t d hl
  | const v => exact constD_rep g v
  | global g' => exact .top _
  | func f => exact .e _ _ (.lit _ rfl)
theorem put_size (a : Act) (dst : Option Tmp) (v : Value) : (a.put dst v).tmps.size = a.tmps.size := by cases dst <;> simp [Act.put]
theorem put_defers (a : Act) (dst : Option Tmp) (v : Value) : (a.put dst v).defers = a.defers := by cases dst <;> rfl
theorem put_same {a : Act} {t : Tmp} {v : Value} (h : t < a.tmps.size) : (a.put (some t) v).tmps.getD t undef = v := by
  simp [Act.put, h]
theorem put_other {a : Act} {dst : Option Tmp} {t : Tmp} {v : Value} (h : dst ≠ some t) : (a.put dst v).tmps.getD t undef = a.tmps.getD t undef := by
  cases dst with
  | none => rfl
  | some s =>
    have : s ≠ t := fun e => h (by rw [e])
    simp [Act.put, Array.getD_eq_getD_getElem?, Array.getElem?_setIfInBounds_ne this]
theorem put_rep {g : Gh} {dst : Option Tmp} {d : D} {v : Value} (h : ∀ t d, tm.lookup t = some d → RepD hp g w d (a.tmps.getD t undef)) (hd : RepD hp g w d v) (hN : ∀ t, dst = some t → t < a.tmps.size) :
    ∀ t d', (putD dst d tm).lookup t = some d' → RepD hp g w d' ((a.put dst v).tmps.getD t undef) := by
  intro t d' hl
  cases dst with
  | none => exact h t d' hl
  | some s =>
    by_cases hst : t = s
    · subst hst
      have : some d = some d' := by rw [← hl]; exact lookup_cons_eq.symm
      injection this with this
      subst this
      rw [put_same (hN t rfl)]
      exact hd
    · rw [put_other (fun e => hst (by injection e with e; exact e.symm))]
      exact h t d' (by rw [← hl]; exact (lookup_cons_ne hst).symm)

/-! ### Operations one after the other -/
def gdV (d : Option D) (want : Bool) (A B : Prop) : Prop :=
  match d with
  | some (.e (.lit (.bool c))) => match c, want with
    | true, true => A
    | false, false => A
    | true, false => B
    | false, true => B
  | _ => False
def aops (P : Program) (tb : TypeId → Option TyE) (dr : Bool) (ops : Array Oper) : List Oper → List (Nat × D) → Hp → (List (Nat × D) → Hp → Prop) → Prop
  | [], tm, hp, K => K tm hp
  | o :: os, tm, hp, K => match o.guard with
    | none => AVC P tb dr o.op o.type (evD tm) hp fun d hp' => aops P tb dr ops os (putD o.dst d tm) hp' K
    | some (j, want) => match (ops[j]?).bind (·.dst) with
      | some t => gdV (tm.lookup t) want (AVC P tb dr o.op o.type (evD tm) hp fun d hp' => aops P tb dr ops os (putD o.dst d tm) hp' K) (aops P tb dr ops os (putD o.dst .top tm) hp K)
      | none => False
/-- Whether an operation's guard holds. -/
def Gd (ops : Array Oper) (o : Oper) (tm : List (Nat × D)) (b : Bool) : Prop :=
  match o.guard with
  | none => b = true
  | some (j, want) => (∃ t c, (ops[j]?).bind (·.dst) = some t ∧ tm.lookup t = some (.e (.lit (.bool c))) ∧ (c == want) = b) ∨ ∃ t, (ops[j]?).bind (·.dst) = some t ∧ tm.lookup t = some (.tu []) ∧ b = false
theorem Gd.wanted {ops : Array Oper} {o : Oper} {b : Bool} {g : Gh} (h : Gd ops o tm b) (hr : ∀ t d, tm.lookup t = some d → RepD hp g w d (a.tmps.getD t undef)) : Region.wanted o (yielded ops a.tmps) = b := by
  unfold Gd at h
  unfold Region.wanted
  split at h
  · rename_i hg
    rw [hg, h]
  · rename_i j want hg
    rw [hg]
    dsimp only
    rcases h with ⟨t, c, h1, h2, h3⟩ | ⟨t, h1, h2, rfl⟩
    rotate_left
    · have hv := hr t _ h2
      have hy : yielded ops a.tmps j = none := by
        unfold yielded
        rw [h1]
        simp only [Option.bind_some]
        cases ht : a.tmps[t]? with
        | none => rfl
        | some u =>
          have hu : a.tmps.getD t undef = u := by simp [Array.getD_eq_getD_getElem?, ht]
          rw [hu] at hv
          cases hv with
          | tu _ cs hl hr => rfl
      rw [hy]; rfl
    have hv := (hr t _ h2).lit
    have hy : yielded ops a.tmps j = some c := by
      unfold yielded
      rw [h1]
      simp only [Option.bind_some]
      cases ht : a.tmps[t]? with
      | none => simp [Array.getD_eq_getD_getElem?, ht, undef] at hv
      | some u =>
        have : u = .bool c := by simpa [Array.getD_eq_getD_getElem?, ht] using hv
        rw [this]
    rw [hy, ← h3]
    rfl
/-- One step of a row of operations: taken or left out. -/
theorem aops_cons {dr : Bool} {ops : Array Oper} {o : Oper} {os : List Oper} {K : List (Nat × D) → Hp → Prop} (tok : TOk P tb) (h : aops P tb dr ops (o :: os) tm hp K) :
    (Gd ops o tm true ∧ ∃ d hp', aops P tb dr ops os (putD o.dst d tm) hp' K ∧ Snd P tb dr o (evD tm) hp d hp') ∨ (Gd ops o tm false ∧ aops P tb dr ops os (putD o.dst .top tm) hp K) := by
  unfold aops at h
  unfold Gd
  split at h
  · exact .inl ⟨rfl, AVC.sound tok h⟩
  · rename_i j want hg
    split at h
    · rename_i t ht
      unfold gdV at h
      split at h
      · rename_i c hc
        split at h
        · exact .inl ⟨.inl ⟨t, _, ht, hc, rfl⟩, AVC.sound tok h⟩
        · exact .inl ⟨.inl ⟨t, _, ht, hc, rfl⟩, AVC.sound tok h⟩
        · exact .inr ⟨.inl ⟨t, _, ht, hc, rfl⟩, h⟩
        · exact .inr ⟨.inl ⟨t, _, ht, hc, rfl⟩, h⟩
      · cases h
    · cases h
/-- Where an operation is left out, d stands for what it would have yielded. -/
def Offs (o : Oper) (ev : Operand → D) (d : D) : Prop := ∀ (hp : Hp) (g : Gh) (w : World) (a : Act), (∀ x ∈ o.op.operands, RepD hp g w (ev x) (a.eval x)) → RepD hp g w d undef
/-- A row of operations, one after the other. -/
inductive SOps (P : Program) (tb : TypeId → Option TyE) (md : Md) (ops : Array Oper) (K : List (Nat × D) → Hp → Prop) : List Oper → List (Nat × D) → Hp → Prop
  | nil {tm : List (Nat × D)} {hp : Hp} (h : K tm hp) : SOps P tb md ops K [] tm hp
  | on {o : Oper} {os : List Oper} {tm : List (Nat × D)} {hp : Hp} (d : D) (hp' : Hp) (hg : Gd ops o tm true) (hs : SndQ P tb md o (evD tm) hp d hp') (h : SOps P tb md ops K os (putD o.dst d tm) hp') : SOps P tb md ops K (o :: os) tm hp
  | off {o : Oper} {os : List Oper} {tm : List (Nat × D)} {hp : Hp} (d : D) (hg : Gd ops o tm false) (hs : Offs o (evD tm) d) (h : SOps P tb md ops K os (putD o.dst d tm) hp) : SOps P tb md ops K (o :: os) tm hp
theorem SOps.of_aops {md : Md} (hn : ∀ op, md.nc tb op = true) {ops : Array Oper} {K : List (Nat × D) → Hp → Prop} (tok : TOk P tb) : ∀ {os : List Oper} {tm : List (Nat × D)} {hp : Hp}, aops P tb md.dr ops os tm hp K → SOps P tb md ops K os tm hp
  | [], _, _, h => .nil h
  | _ :: _, _, _, h => by
    rcases aops_cons tok h with ⟨hg, d, hp', h1, h2⟩ | ⟨hg, h1⟩
    · exact .on d hp' hg (h2.q (hn _)) (SOps.of_aops hn tok h1)
    · exact .off .top hg (fun _ _ _ _ _ => .top _) (SOps.of_aops hn tok h1)
theorem nc_seq (op : Op) : Md.seq.nc tb op = true := rfl
theorem nc_any (op : Op) : (Md.any []).nc tb op = true := by
  show (!callIn tb [] op) = true
  cases op with
  | call c => obtain ⟨callee, as, ts⟩ := c; cases callee with
    | value x => cases x <;> simp [callIn]
    | _ => rfl
  | _ => rfl
def dstOK (N : Nat) (ops : Array Oper) : Bool := ops.all fun o => match o.dst with
  | some t => decide (t < N)
  | none => true
theorem dstOK_spec {N : Nat} {ops : Array Oper} (h : dstOK N ops = true) {i : Nat} {o : Oper} (hi : ops[i]? = some o) {t : Tmp} (ht : o.dst = some t) : t < N := by
  unfold dstOK at h
  rw [Array.all_eq_true'] at h
  have := h o (Array.mem_of_getElem? hi)
  rw [ht] at this
  simpa using this
theorem RS.op {o : Oper} {d : D} {Kn : Act → World → Prop} {Q : Exit → Act → World → Prop} (h : RS x tm hp a w) (hs : OpOk P o (evD tm) hp d hp') (hN : ∀ t, o.dst = some t → t < x.N)
    (hk : ∀ a' w', RS x (putD o.dst d tm) hp' a' w' → Kn a' w') : o.wp P a w Kn Q := by
  obtain ⟨g, hr, htm, hsz, hdf, hB, hF, hM⟩ := h
  refine hs x.B g w a Kn Q hr (fun y _ => evD_rep htm y) (fun v g' w' hr' mo hd hb hF' => hk _ _ ⟨g', hr', put_rep (fun t d ht => (htm t d ht).mono mo) hd (fun t ht => by rw [hsz]; exact hN t ht), by rw [put_size, hsz], by rw [put_defers, hdf], hB.trans hb, fun p h1 h2 => hF' p h1 (hF p h1 h2), hM.trans mo⟩)
theorem RS.skip {o : Oper} {d : D} (h : RS x tm hp a w) (hs : Offs o (evD tm) d) (hN : ∀ t, o.dst = some t → t < x.N) : RS x (putD o.dst d tm) hp (a.put o.dst undef) w := by
  obtain ⟨g, hr, htm, hsz, hdf, hB, hF, hM⟩ := h
  exact ⟨g, hr, put_rep htm (hs hp g w a fun y _ => evD_rep htm y) (fun t ht => by rw [hsz]; exact hN t ht), by rw [put_size, hsz], by rw [put_defers, hdf], hB, hF, hM⟩
theorem wpOps_of {ops : Array Oper} {K : List (Nat × D) → Hp → Prop} {Q : Exit → Act → World → Prop} (hN : dstOK x.N ops = true) (hk : ∀ tm hp a w, K tm hp → RS x tm hp a w → Q .normal a w) :
    ∀ (rest : List Oper) (i : Nat) (tm : List (Nat × D)) (hp : Hp) (a : Act) (w : World), ops.toList.drop i = rest → SOps P tb .seq ops K rest tm hp → RS x tm hp a w → wpOps P ops Q (List.range' i rest.length) a w
  | [], i, tm, hp, a, w, _, h, hr => by cases h with | nil h => exact hk _ _ _ _ h hr
  | o :: rest, i, tm, hp, a, w, hd, h, hr => by
    have ho : ops[i]? = some o := by
      have : (ops.toList.drop i)[0]? = some o := by rw [hd]; rfl
      rw [List.getElem?_drop] at this
      simpa using this
    have hd' : ops.toList.drop (i + 1) = rest := by
      rw [← List.drop_drop, hd]; rfl
    have hno : ∀ t, o.dst = some t → t < x.N := fun t ht => dstOK_spec hN ho ht
    simp only [List.length_cons, List.range'_succ]
    rw [wpOps_cons]
    unfold wpOp
    rw [ho]
    dsimp only
    obtain ⟨g, _, htm, _⟩ := id hr
    cases h with
    | on d hp' hg h2 h1 =>
      rw [hg.wanted htm, if_pos rfl]
      exact .inl (hr.op h2.ok hno fun a' w' hr' => wpOps_of hN hk rest (i + 1) _ _ a' w' hd' h1 hr')
    | off d hg hs h1 =>
      rw [hg.wanted htm, if_neg (by simp)]
      exact wpOps_of hN hk rest (i + 1) _ _ _ _ hd' h1 (hr.skip hs hno)

/-! ### Code -/
def AW (P : Program) (x : Cx) (c : Code) (tm : List (Nat × D)) (hp : Hp) (Q : Exit → List (Nat × D) → Hp → Prop) : Prop :=
  ∀ a w, RS x tm hp a w → c.wp P (fun ex a' w' => ∃ tm' hp', RS x tm' hp' a' w' ∧ Q ex tm' hp') a w
variable {Q : Exit → List (Nat × D) → Hp → Prop}
theorem AW.mono {c : Code} {Q' : Exit → List (Nat × D) → Hp → Prop} (h : AW P x c tm hp Q) (hq : ∀ ex tm hp, Q ex tm hp → Q' ex tm hp) : AW P x c tm hp Q' :=
  fun a w hr => wp_mono (h a w hr) fun ex _ _ ⟨tm', hp', h1, h2⟩ => ⟨tm', hp', h1, hq ex _ _ h2⟩
theorem AW.regionS {id : Nat} {ops : Array Oper} (hN : dstOK x.N ops = true) (h : ∀ K : List (Nat × D) → Hp → Prop, (∀ tm hp, Q .normal tm hp → K tm hp) → SOps P tb .seq ops K ops.toList tm hp) : AW P x (.region id ops false) tm hp Q := by
  intro a w hr
  refine wp_region ?_
  have := wpOps_of (Q := fun ex a' w' => ∃ tm' hp', RS x tm' hp' a' w' ∧ Q ex tm' hp') hN (fun tm hp a w hk hr => ⟨tm, hp, hr, hk⟩) ops.toList 0 tm hp a w rfl (h _ fun _ _ h => h) hr
  rwa [Array.length_toList, ← List.range_eq_range'] at this
theorem AW.region (tok : TOk P tb) {id : Nat} {ops : Array Oper} (hN : dstOK x.N ops = true) (h : ∀ K : List (Nat × D) → Hp → Prop, (∀ tm hp, Q .normal tm hp → K tm hp) → aops P tb false ops ops.toList tm hp K) : AW P x (.region id ops false) tm hp Q :=
  AW.regionS hN fun K hK => SOps.of_aops nc_seq tok (h K hK)
theorem AW.seq {c c' : Code} (h : AW P x c tm hp fun ex tm' hp' => match ex with | .normal => AW P x c' tm' hp' Q | ex => Q ex tm' hp') : AW P x (.seq c c') tm hp Q := by
  intro a w hr
  refine wp_seq (wp_mono (h a w hr) ?_)
  rintro ex a' w' ⟨tm', hp', h1, h2⟩
  cases ex with
  | normal => exact h2 a' w' h1
  | _ => exact ⟨tm', hp', h1, h2⟩
theorem AW.cond {c : Operand} {c1 c2 : Code} {b : Bool} (hc : evD tm c = .e (.lit (.bool b))) (h : AW P x (match b with | true => c1 | false => c2) tm hp Q) : AW P x (.cond c c1 c2) tm hp Q := by
  intro a w hr
  obtain ⟨g, _, htm, _⟩ := id hr
  have hv := evD_rep htm c
  rw [hc] at hv
  refine wp_cond (t := b) hv.lit ?_
  have := h a w hr
  cases b <;> exact this
theorem AW.block {id : Nat} {c : Code} (h : AW P x c tm hp fun ex tm' hp' => match ex with | .exit id' => (if id' = id then Q .normal tm' hp' else Q (.exit id') tm' hp') | ex => Q ex tm' hp') : AW P x (.block id c) tm hp Q := by
  intro a w hr
  refine wp_block (wp_mono (h a w hr) ?_)
  rintro ex a' w' ⟨tm', hp', h1, h2⟩
  cases ex with
  | exit id' =>
    unfold Exit.inBlock
    dsimp only at h2 ⊢
    split
    · rename_i he
      rw [if_pos he] at h2
      exact ⟨tm', hp', h1, h2⟩
    · rename_i he
      rw [if_neg he] at h2
      exact ⟨tm', hp', h1, h2⟩
  | _ => exact ⟨tm', hp', h1, h2⟩
theorem AW.exit {id : Nat} (h : Q (.exit id) tm hp) : AW P x (.exit id) tm hp Q := fun _ _ hr => wp_exit ⟨tm, hp, hr, h⟩
theorem AW.ret (h : Q .ret tm hp) : AW P x .ret tm hp Q := fun _ _ hr => wp_ret ⟨tm, hp, hr, h⟩
theorem AW.skip (h : Q .normal tm hp) : AW P x .skip tm hp Q := fun _ _ hr => wp_skip ⟨tm, hp, hr, h⟩
theorem wp_loop_ghost {Q : Exit → Act → World → Prop} {c : Code} (I : Nat → Act → World → Prop) {n : Nat} (h₀ : I n a w)
    (round : ∀ n a w, I n a w → c.wp P (Exit.then (fun a' w' => ∃ m, m < n ∧ I m a' w') Q) a w) : (Code.loop c).wp P Q a w := by
  intro b k cs
  have key : ∀ n a w, I n a w → ∃ e a' w', Q e a' w' ∧ Arrives P (lone (b.at a (.code c :: .inLoop c :: k)) cs w) b k cs e a' w' := by
    intro n
    induction n using Nat.strongRecOn with
    | _ n ih =>
      intro a w hI
      obtain ⟨e, a₁, w₁, hq, harr⟩ := round n a w hI b (.inLoop c :: k) cs
      cases e with
      | normal =>
        obtain ⟨m, hlt, hI₁⟩ := hq
        obtain ⟨e₂, a₂, w₂, hq₂, harr₂⟩ := ih m hlt a₁ w₁ hI₁
        exact ⟨e₂, a₂, w₂, hq₂, .of_steps (Steps.trans harr (.one step_inLoop)) harr₂⟩
      | exit id => exact ⟨_, a₁, w₁, hq, .pass (x := .inLoop c) rfl (fun _ _ => .inl (by simp)) harr⟩
      | goto l => exact ⟨_, a₁, w₁, hq, .pass (x := .inLoop c) rfl (fun _ _ => .inl (by simp)) harr⟩
      | ret => exact ⟨_, a₁, w₁, hq, .pass (x := .inLoop c) rfl (fun _ _ => .inl (by simp)) harr⟩
      | panic ch => exact ⟨_, a₁, w₁, hq, .pass (x := .inLoop c) rfl (fun _ _ => .inl (by simp)) harr⟩
      | outgrown => exact ⟨_, a₁, w₁, hq, .pass (x := .inLoop c) rfl (fun _ _ => .inl (by simp)) harr⟩
  obtain ⟨e, a', w', hq, harr⟩ := key n a w h₀
  exact ⟨e, a', w', hq, .of_steps (.one step_loop) harr⟩
/-- Less is known. -/
def Wk (x : Cx) (tm : List (Nat × D)) (hp : Hp) (tm' : List (Nat × D)) (hp' : Hp) : Prop := ∀ a w, RS x tm hp a w → RS x tm' hp' a w
theorem AW.weak {c : Code} (hw : Wk x tm hp tm' hp') (h : AW P x c tm' hp' Q) : AW P x c tm hp Q := fun a w hr => h a w (hw a w hr)
/-- I: what holds at the head of each round, with how much is left. -/
theorem AW.loop {c : Code} (I : Nat → List (Nat × D) → Hp → Prop) {n : Nat} {tm0 : List (Nat × D)} {hp0 : Hp} (hw : Wk x tm hp tm0 hp0) (h0 : I n tm0 hp0)
    (round : ∀ n tm hp, I n tm hp → AW P x c tm hp fun ex tm' hp' => match ex with | .normal => ∃ m tm2 hp2, m < n ∧ Wk x tm' hp' tm2 hp2 ∧ I m tm2 hp2 | ex => Q ex tm' hp') : AW P x (.loop c) tm hp Q := by
  intro a w hr
  refine wp_loop_ghost (fun n a w => ∃ tm hp, RS x tm hp a w ∧ I n tm hp) (n := n) ⟨tm0, hp0, hw a w hr, h0⟩ (fun n a w ⟨tm, hp, hr, hI⟩ => wp_mono (round n tm hp hI a w hr) ?_)
  rintro ex a' w' ⟨tm', hp', h1, h2⟩
  cases ex with
  | normal =>
    obtain ⟨m, tm2, hp2, hlt, hwk, hI2⟩ := h2
    exact ⟨m, hlt, tm2, hp2, hwk a' w' h1, hI2⟩
  | _ => exact ⟨tm', hp', h1, h2⟩

/-! ### Knowing less -/
def D.idsB (m : Nat) : D → Bool
  | .ag ds => ds.all (D.idsC m)
  | .tu ds => ds.all (D.idsC m)
  | d => d.idsC m
theorem idsC_rep {m : Nat} {hp2 : Hp} {g : Gh} {d : D} {v : Value} (h : RepD hp g w d v) (hd : d.idsC m = true) (hm : hp2.next = m) (hl : ∀ id y, hp2.live.lookup id = some y → hp.live.lookup id = some y) : RepD hp2 g w d v := by
  subst hm
  cases h with
  | e y v h => exact .e y v h
  | own id z n xs v h hid ht => exact .own id z n xs v h (by simpa [D.idsC] using hd) (fun m e h => ht m e (hl _ _ h))
  | fu z n xs A h => exact .fu z n xs A h
  | ag ds cs hl h1 hr => cases hd
  | tu ds cs hl hr => cases hd
  | fp xs off ad hb hc => exact .fp xs off ad hb hc
  | pt k off hk => exact .pt k off (by simpa [D.idsC] using hd)
  | ow k off z n c hk h1 h2 => exact .ow k off z n c (by simpa [D.idsC] using hd) h1 h2
  | fn f ks hk => exact .fn f ks (by simpa [D.idsC] using hd)
  | opt b d v hi h =>
    refine .opt b d v hd fun hb => ?_
    cases d with
    | ag ds =>
      have hall : ∀ d ∈ ds, D.isE d = true := by
        have : ds.all D.isE = true := hd
        simpa only [List.all_eq_true] using this
      have h' := h hb
      cases h' with
      | ag _ cs hlen h1 hr =>
        refine .ag _ cs hlen h1 fun j d u h2 h3 => ?_
        have h4 := hr j d u h2 h3
        have h5 := hall d (List.mem_of_getElem? h2)
        cases d with
        | e y =>
          cases h4 with
          | e _ _ h6 => exact .e y _ h6
        | fu z n xs =>
          cases h4 with
          | fu _ _ _ A h6 => exact .fu z n xs A h6
        | fp xs off =>
          cases h4 with
          | fp _ _ ad hb hc => exact .fp xs off ad hb hc
        | _ => cases h5
    | _ => exact idsC_rep (h hb) hd rfl hl
  | top v => exact .top v
theorem idsB_rep {m : Nat} {hp2 : Hp} {g : Gh} {d : D} {v : Value} (h : RepD hp g w d v) (hd : d.idsB m = true) (hm : hp2.next = m) (hl : ∀ id y, hp2.live.lookup id = some y → hp.live.lookup id = some y) : RepD hp2 g w d v := by
  cases h with
  | ag ds cs hlen h1 hr =>
    have hall : ∀ d ∈ ds, D.idsC m d = true := by simpa [D.idsB] using hd
    exact .ag ds cs hlen h1 fun j d u h2 h3 => idsC_rep (hr j d u h2 h3) (hall d (List.mem_of_getElem? h2)) hm hl
  | tu ds cs hlen hr =>
    have hall : ∀ d ∈ ds, D.idsC m d = true := by simpa [D.idsB] using hd
    exact .tu ds cs hlen fun j d u h2 h3 => idsC_rep (hr j d u h2 h3) (hall d (List.mem_of_getElem? h2)) hm hl
  | e y v h => exact idsC_rep (.e y v h) hd hm hl
  | own id z n xs v h hid ht => exact idsC_rep (.own id z n xs v h hid ht) hd hm hl
  | fu z n xs A h => exact idsC_rep (.fu z n xs A h) hd hm hl
  | fp xs off ad hb hc => exact idsC_rep (.fp xs off ad hb hc) hd hm hl
  | pt k off hk => exact idsC_rep (.pt k off hk) hd hm hl
  | ow k off z n c hk h1 h2 => exact idsC_rep (.ow k off z n c hk h1 h2) hd hm hl
  | fn f ks hk => exact idsC_rep (.fn f ks hk) hd hm hl
  | opt b d v hi h => exact idsC_rep (.opt b d v hi h) hd hm hl
  | top v => exact .top v
theorem mem_of_lookup {α : Type} : ∀ {l : List (Nat × α)} {k : Nat} {y : α}, l.lookup k = some y → (k, y) ∈ l
  | [], k, y, h => by simp at h
  | (j, z) :: l, k, y, h => by
    by_cases hj : k = j
    · subst hj
      have : some z = some y := by rw [← h]; exact lookup_cons_eq.symm
      injection this with this
      subst this
      exact List.mem_cons_self ..
    · exact List.mem_cons_of_mem _ (mem_of_lookup (by rw [← h]; exact (lookup_cons_ne hj).symm))
/-- What is kept: entries of tm, of the variables and of the growing slices whose numbers are below m. -/
theorem Wk.mk {vars' : List (Nat × List D)} {live' : List (Nat × Nat × Nat × TypeId)} {m : Nat} (h0 : x.hp0.next ≤ m) (hm : m ≤ hp.next) (ht : ∀ p ∈ tm', tm.lookup p.1 = some p.2 ∧ p.2.idsB m = true)
    (hv : ∀ p ∈ vars', (decide (p.1 < m) = true ∧ hp.vars.lookup p.1 = some p.2) ∧ p.2.all (D.idsC m) = true) (hl : ∀ p ∈ live', decide (p.1 < m) = true ∧ hp.live.lookup p.1 = some p.2) : Wk x tm hp tm' ⟨vars', live', m⟩ := by
  intro a w ⟨g, hr, htm, hsz, hdf, hB, hF, hM⟩
  have hlive : ∀ id y, (⟨vars', live', m⟩ : Hp).live.lookup id = some y → hp.live.lookup id = some y := fun id y h => (hl _ (mem_of_lookup h)).2
  refine ⟨g, ⟨fun k ds hk => ?_, fun k k' ds ds' hk hk' he => ?_, fun id n e hi => ?_, fun id id' t t' b hi hi' => hr.tinj id id' t t' b (hlive _ _ hi) (hlive _ _ hi'), hr.base, hr.fits⟩, fun t d h => ?_, hsz, hdf, hB, hF, ⟨hM.size, hM.cell, hM.forb, h0, hM.μ, fun id hid n e hl' => hM.live id hid n e (hlive id _ hl'), fun b hb hf => ⟨(hM.fr b hb hf).1, (hM.fr b hb hf).2.1, fun k ds hk => (hM.fr b hb hf).2.2.1 k ds (hv _ (mem_of_lookup hk)).1.2, fun id t hi => (hM.fr b hb hf).2.2.2 id t (hlive id _ hi)⟩⟩⟩
  · obtain ⟨⟨h0, h1⟩, h2⟩ := hv _ (mem_of_lookup hk)
    obtain ⟨_, h3, h4, cs, ty, h5, h6, h7⟩ := hr.var k ds h1
    have h2' : ∀ d ∈ ds, D.idsC m d = true := by simpa using h2
    exact ⟨by simpa using h0, h3, h4, cs, ty, h5, h6, fun j u hu => ⟨(h7 j u hu).1, fun d hd => idsC_rep ((h7 j u hu).2 d hd) (h2' d (List.mem_of_getElem? hd)) rfl hlive⟩⟩
  · exact hr.inj k k' _ _ (hv _ (mem_of_lookup hk)).1.2 (hv _ (mem_of_lookup hk')).1.2 he
  · obtain ⟨h0, h1⟩ := hl _ (mem_of_lookup hi)
    obtain ⟨_, us, h2, h3, h4⟩ := hr.tok id n e h1
    exact ⟨by simpa using h0, us, h2, h3, fun b hb => ⟨(h4 b hb).1, fun k ds hk => (h4 b hb).2 k ds (hv _ (mem_of_lookup hk)).1.2⟩⟩
  · obtain ⟨h1, h2⟩ := ht _ (mem_of_lookup h)
    exact idsB_rep (htm t d h1) h2 rfl hlive
theorem Wk.refl (x : Cx) (tm : List (Nat × D)) (hp : Hp) : Wk x tm hp tm hp := fun _ _ h => h

/-! ### Functions -/
def argsT : Nat → List D → List (Nat × D)
  | _, [] => []
  | i, d :: ds => (i, d) :: argsT (i + 1) ds
theorem argsT_lookup : ∀ {ds : List D} {i t : Nat} {d : D}, (argsT i ds).lookup t = some d → i ≤ t ∧ ds[t - i]? = some d
  | [], i, t, d, h => by simp [argsT] at h
  | d0 :: ds, i, t, d, h => by
    by_cases hti : t = i
    · subst hti
      have : some d0 = some d := by rw [← h]; exact lookup_cons_eq.symm
      injection this with this
      subst this
      exact ⟨Nat.le_refl _, by simp⟩
    · have h1 : (argsT (i + 1) ds).lookup t = some d := by rw [← h]; exact (lookup_cons_ne hti).symm
      obtain ⟨h2, h3⟩ := argsT_lookup h1
      refine ⟨by omega, ?_⟩
      rw [show t - i = (t - (i + 1)) + 1 by omega]
      exact h3
def resD (tb : TypeId → Option TyE) (tm : List (Nat × D)) (hp : Hp) (r : ResultVar) (k : D → Prop) : Prop :=
  match r with
  | .tmp t => ∃ d, tm.lookup t = some d ∧ k d
  | .cell p ty => ∃ d, tm.lookup p = some d ∧ (∃ j, tb ty = some j) ∧ loadV tb ty d hp k
theorem RepD.exC {g : Gh} {w : World} {d : D} {v : Value} (h : RepD hp g w d v) : RepD hp g w d.exC v := by
  cases h with
  | e x v h => exact .e x v h
  | own id z n xs v h hid ht => exact .e _ _ h
  | fu z n xs A h => exact .e _ _ h
  | ag ds cs hl h1 hr => exact .ag ds cs hl h1 hr
  | tu ds cs hl hr => exact .tu ds cs hl hr
  | fp xs off ad hb hc => exact .fp xs off ad hb hc
  | pt k off hk => exact .pt k off hk
  | ow k off z n c hk h1 h2 => exact .ow k off z n c hk h1 h2
  | fn f ks hk => exact .fn f ks hk
  | opt b d v hi h => exact .opt b d v hi h
  | top v => exact .top v
theorem RepD.exD {g : Gh} {w : World} {d : D} {v : Value} (h : RepD hp g w d v) : RepD hp g w d.ex v := by
  cases h with
  | ag ds cs hl h1 hr =>
    refine .ag _ cs (by simpa using hl) h1 fun j d u hd hu => ?_
    rw [List.getElem?_map] at hd
    cases hdj : ds[j]? with
    | none => simp [hdj] at hd
    | some d0 =>
      simp only [hdj, Option.map_some, Option.some.injEq] at hd
      subst hd
      exact (hr j d0 u hdj hu).exC
  | e x v h => exact .e x v h
  | own id z n xs v h hid ht => exact .e _ _ h
  | fu z n xs A h => exact .e _ _ h
  | tu ds cs hl hr => exact .tu ds cs hl hr
  | fp xs off ad hb hc => exact .fp xs off ad hb hc
  | pt k off hk => exact .pt k off hk
  | ow k off z n c hk h1 h2 => exact .ow k off z n c hk h1 h2
  | fn f ks hk => exact .fn f ks hk
  | opt b d v hi h => exact .opt b d v hi h
  | top v => exact .top v
/-- d' knows no more than d: a cell. -/
def D.leC (d d' : D) : Prop := d' = d ∨ d' = d.exC ∨ (d = .e (.lit (.slice none 0 0)) ∧ ∃ z, 0 < z ∧ d' = .e (.sl z 0 []))
theorem RepD.leC {g : Gh} {w : World} {d d' : D} {v : Value} (h : RepD hp g w d v) (hl : d.leC d') : RepD hp g w d' v := by
  rcases hl with rfl | rfl | ⟨rfl, z, hz, rfl⟩
  · exact h
  · exact h.exC
  · cases h with
    | e _ _ h =>
      cases h with
      | lit _ _ => exact .e _ _ (.sl z 0 [] none 0 (fun _ => undef) (by simp) hz (Nat.le_refl _) (Nat.zero_le _) (fun h => absurd h (Nat.lt_irrefl _)) (fun _ h => by cases h) (fun j x h => by simp at h))
/-- The second list knows no more than the first. -/
def wksL : List D → List D → Prop
  | [], [] => True
  | d :: ds, d' :: ds' => d.leC d' ∧ wksL ds ds'
  | _, _ => False
theorem wksL_refl : ∀ ds : List D, wksL ds ds
  | [] => trivial
  | _ :: ds => ⟨.inl rfl, wksL_refl ds⟩
theorem wksL_len : ∀ {ds ds' : List D}, wksL ds ds' → ds'.length = ds.length
  | [], [], _ => rfl
  | _ :: ds, _ :: ds', h => by simp [wksL_len h.2]
  | [], _ :: _, h => h.elim
  | _ :: _, [], h => h.elim
theorem wksL_get : ∀ {ds ds' : List D}, wksL ds ds' → ∀ {j : Nat} {d' : D}, ds'[j]? = some d' → ∃ d, ds[j]? = some d ∧ d.leC d'
  | d :: ds, d' :: ds', h, 0, e, he => ⟨d, rfl, by
    have : d' = e := by simpa using he
    rw [← this]; exact h.1⟩
  | d :: ds, d' :: ds', h, j + 1, e, he => wksL_get h.2 (by simpa using he)
  | [], [], h, j, e, he => by simp at he
  | [], _ :: _, h, _, _, _ => h.elim
  | _ :: _, [], h, _, _, _ => h.elim
/-- d' knows no more than d. -/
def D.le (d d' : D) : Prop := d.leC d' ∨ d' = d.ex ∨ ∃ ds ds', d = .ag ds ∧ d' = .ag ds' ∧ wksL ds ds'
theorem RepD.le {g : Gh} {w : World} {d d' : D} {v : Value} (h : RepD hp g w d v) (hl : d.le d') : RepD hp g w d' v := by
  rcases hl with hl | rfl | ⟨ds, ds', rfl, rfl, hl⟩
  · exact h.leC hl
  · exact h.exD
  · cases h with
    | ag _ cs hlen h1 hr =>
      refine .ag _ cs (by rw [hlen, wksL_len hl]) h1 fun j d u hd hu => ?_
      obtain ⟨d0, hd0, hle⟩ := wksL_get hl hd
      exact (hr j d0 u hd0 hu).leC hle
theorem pure_ex {d : D} (h : d.pure = true) : d.ex = d := by
  cases d with
  | ag ds =>
    have hall : ∀ x ∈ ds, D.pureC x = true := by simpa [D.pure] using h
    show D.ag (ds.map D.exC) = .ag ds
    have : ds.map D.exC = ds := by
      conv => rhs; rw [← List.map_id ds]
      refine List.map_congr_left fun x hx => ?_
      have := hall x hx
      cases x <;> first | rfl | cases this
    rw [this]
  | e x => rfl
  | fp xs off => rfl
  | _ => cases h
theorem RepD.exportP {g : Gh} {w : World} {d : D} {v : Value} (h : RepD hp g w d v) (hp' : d.pure = true) : PRep w g.F d v := by
  have := h.xport (by rw [pure_ex hp']; exact hp')
  rwa [pure_ex hp'] at this
/-- What a function returns. -/
def RetV (tb : TypeId → Option TyE) (rs : List ResultVar) (tm : List (Nat × D)) (hp : Hp) (r : D) : Prop :=
  match rs with
  | [q] => resD tb tm hp q fun d => (d.ex.pure = true ∧ r = d.ex) ∨ (∃ id e z n xs, d = .own id z n xs ∧ hp.live.lookup id = some (n, z, e) ∧ r = .own e z n xs) ∨ ∃ d2, d.le d2 ∧ d2.pure = true ∧ r = d2
  | [q, q'] => resD tb tm hp q fun d => resD tb tm hp q' fun d' => ((d.ex.pure = true ∧ d'.ex.pure = true) ∧ r = .tu [d.ex, d'.ex]) ∨ ∃ e e', d.le e ∧ d'.le e' ∧ (e.pure = true ∧ e'.pure = true) ∧ r = .tu [e, e']
  | [q, q', q''] => resD tb tm hp q fun d => resD tb tm hp q' fun d' => resD tb tm hp q'' fun d'' => ((d.ex.pure = true ∧ d'.ex.pure = true ∧ d''.ex.pure = true) ∧ r = .tu [d.ex, d'.ex, d''.ex]) ∨ ∃ e e' e'', d.le e ∧ d'.le e' ∧ d''.le e'' ∧ (e.pure = true ∧ e'.pure = true ∧ e''.pure = true) ∧ r = .tu [e, e', e'']
  | [] => r = .tu []
  | _ => False
theorem resD_sound (tok : TOk P tb) {q : ResultVar} {k : D → Prop} (h : resD tb tm hp q k) : ∃ d, k d ∧ ∀ (B : Nat) (g : Gh) (w : World) (tmps : Array Value), HR B hp g w → (∀ t d, tm.lookup t = some d → RepD hp g w d (tmps.getD t undef)) →
    ∃ v, ((match q with | .tmp t => pure (tmps.getD t undef) | .cell a t => do loadVar t (← asAddr (tmps.getD a undef)) : Sem Value)).run P w = .ok v w ∧ RepD hp g w d v := by
  unfold resD at h
  split at h
  · rename_i t
    obtain ⟨d, hd, hk⟩ := h
    exact ⟨d, hk, fun B g w tmps hr htm => ⟨_, rfl, htm t d hd⟩⟩
  · rename_i p ty
    obtain ⟨d, hd, _, h⟩ := h
    obtain ⟨d', hk, _, hs⟩ := loadV_sound tok h
    refine ⟨d', hk, fun B g w tmps hr htm => ?_⟩
    obtain ⟨v, hrun, hrep⟩ := hs hp B g w _ (fun _ _ _ => rfl) hr (htm p d hd)
    refine ⟨v, ?_, hrep⟩
    have hp := htm p d hd
    generalize tmps.getD p undef = u at *
    cases u with
    | pointer o =>
      cases o with
      | some ad => simpa [Instr.loadAt, Instr.sureAddr, asAddr] using hrun
      | none => simp [Instr.loadAt, Instr.sureAddr, stuck, Sem.run] at hrun
    | _ => simp [Instr.loadAt, Instr.sureAddr, stuck, Sem.run] at hrun
theorem Array.mapM_one {α β : Type} (f : α → Sem β) (q : α) (w : World) {v : β} (h : (f q).run P w = .ok v w) : ((#[q] : Array α).mapM f).run P w = .ok #[v] w := by
  rw [Array.mapM_eq_mapM_toList]
  simp [h]
theorem Array.mapM_two {α β : Type} (f : α → Sem β) (q q' : α) (w : World) {v v' : β} (h : (f q).run P w = .ok v w) (h' : (f q').run P w = .ok v' w) : ((#[q, q'] : Array α).mapM f).run P w = .ok #[v, v'] w := by
  rw [Array.mapM_eq_mapM_toList]
  simp [h, h']
theorem Array.mapM_three {α β : Type} (f : α → Sem β) (q q' q'' : α) (w : World) {v v' v'' : β} (h : (f q).run P w = .ok v w) (h' : (f q').run P w = .ok v' w) (h'' : (f q'').run P w = .ok v'' w) : ((#[q, q', q''] : Array α).mapM f).run P w = .ok #[v, v', v''] w := by
  rw [Array.mapM_eq_mapM_toList]
  simp [h, h', h'']
theorem PRep.tu {F : Addr → Prop} {ds : List D} {vs : List Value} (h : Pw (PRep w F) ds vs) : PRep w F (.tu ds) (.tuple vs.toArray) :=
  RepD.tu ds vs.toArray (by simpa using h.1.symm) fun j d u hd hu => h.2 j d u hd (by simpa using hu)
theorem pure_not_own {d : D} {e z n : Nat} {xs : List E} (h : d.ex.pure = true) : d.ex ≠ .own e z n xs := by
  intro e
  rw [e] at h
  cases h
theorem PRes.of {B : Nat} {F : Addr → Prop} {r : D} {v : Value} (h : PRep w F r v) (hn : ∀ e z n xs, r ≠ .own e z n xs) : PRes B F w r v := by
  unfold PRes
  split
  · exact absurd rfl (hn _ _ _ _)
  · exact h
theorem RepE.less {F F' : Addr → Prop} {y : E} {v : Value} (h : RepE w F y v) (hF : ∀ p, F' p → F p) : RepE w F' y v := h.mono (Nat.le_refl _) (fun _ _ _ => rfl) fun p _ hf => hF p hf
theorem PRep.less {F F' : Addr → Prop} {d : D} {v : Value} (h : PRep w F d v) (hF : ∀ p, F' p → F p) : PRep w F' d v := by
  unfold PRep at h
  generalize hh : (⟨[], [], 0⟩ : Hp) = h0 at h
  generalize hgg : (⟨fun _ => 0, fun _ => default, F⟩ : Gh) = g0 at h
  have hF0 : g0.F = F := by rw [← hgg]
  have hn : h0.next = 0 := by rw [← hh]
  unfold PRep
  induction h with
  | e y v h => exact .e y v (RepE.less h fun p hp => by rw [hF0]; exact hF p hp)
  | own id z n xs v h hid ht => omega
  | fu z n xs A h => exact .fu z n xs A (RepE.less h fun p hp => by rw [hF0]; exact hF p hp)
  | ag ds cs hl h1 hr ih => exact .ag ds cs hl h1 ih
  | tu ds cs hl hr ih => exact .tu ds cs hl ih
  | fp xs off ad hb hc =>
    refine .fp xs off ad hb fun j y hy => ?_
    obtain ⟨u, h1, h2, h3⟩ := hc j y hy
    exact ⟨u, h1, fun hf => h2 (by rw [hF0]; exact hF _ hf), RepE.less h3 fun p hp => by rw [hF0]; exact hF p hp⟩
  | pt k off hk => omega
  | ow k off z n c hk h1 h2 => omega
  | fn f ks hk =>
    cases ks with
    | nil => exact .fn f [] (by simp)
    | cons k ks => have := hk k (by simp); omega
  | opt b d v hi h ih => exact .opt b d v (by rw [hn] at hi; exact hi) ih
  | top v => exact .top v
theorem RetV_sound (tok : TOk P tb) {fn : Func} {rs : List ResultVar} {r : D} (hrs : fn.results.toList = rs) (h : RetV tb rs tm hp r) (hr : RS x tm hp a w) (hF0 : ∀ p, x.F0 p → p.block < x.B) :
    ∃ v, (results fn a.tmps).run P w = .ok v w ∧ PRes x.B x.F0 w r v := by
  obtain ⟨g, hh, htm, hsz, hdf, hB, hF, _⟩ := hr
  have hF1 : ∀ p, x.F0 p → g.F p := fun p hp => hF p (hF0 p hp) hp
  unfold RetV at h
  split at h
  · rename_i q
    have hq : fn.results = #[q] := by apply Array.toList_inj.1; simpa using hrs
    obtain ⟨d, hk, hs⟩ := resD_sound tok h
    obtain ⟨v, hrun, hrep⟩ := hs x.B g w a.tmps hh htm
    refine ⟨v, ?_, ?_⟩
    · unfold results
      rw [hq, Sem.run_bind, Array.mapM_one _ q w hrun]
      simp
    · rcases hk with ⟨hp1, rfl⟩ | ⟨id, e, z, n, xs, rfl, hlive, rfl⟩ | ⟨d2, hle, hp1, rfl⟩
      · exact PRes.of ((hrep.xport hp1).less hF1) fun _ _ _ _ => pure_not_own hp1
      · obtain ⟨_, us, hz, ho, htail⟩ := hh.tok id n (z, e) hlive
        cases hrep with
        | own _ _ _ _ _ hrepE hid ht =>
          have hv := (ht n (z, e) hlive).2.2 rfl
          subst hv
          refine ⟨hz, ⟨us, ho⟩, hrepE.less fun p hp => ?_⟩
          rcases hp with hp | ⟨b, h1, h2, h3⟩
          · exact hF1 p hp
          · exact (htail b h1).1 p h2 h3
      · exact PRes.of (((hrep.le hle).exportP hp1).less hF1) fun _ _ _ _ e => by rw [e] at hp1; cases hp1
  · rename_i q q'
    have hq : fn.results = #[q, q'] := by apply Array.toList_inj.1; simpa using hrs
    obtain ⟨d, hk, hs⟩ := resD_sound tok h
    obtain ⟨v, hrun, hrep⟩ := hs x.B g w a.tmps hh htm
    obtain ⟨d', hk2, hs'⟩ := resD_sound tok hk
    obtain ⟨v', hrun', hrep'⟩ := hs' x.B g w a.tmps hh htm
    refine ⟨.tuple #[v, v'], ?_, ?_⟩
    · unfold results
      rw [hq, Sem.run_bind, Array.mapM_two _ q q' w hrun hrun']
      simp
    · rcases hk2 with ⟨⟨hp1, hp2⟩, rfl⟩ | ⟨e, e', hl1, hl2, ⟨hp1, hp2⟩, rfl⟩
      · exact PRes.of (PRep.tu (vs := [v, v']) (Pw.cons ((hrep.xport hp1).less hF1) (Pw.cons ((hrep'.xport hp2).less hF1) Pw.nil))) (fun _ _ _ _ h => by cases h)
      · exact PRes.of (PRep.tu (vs := [v, v']) (Pw.cons (((hrep.le hl1).exportP hp1).less hF1) (Pw.cons (((hrep'.le hl2).exportP hp2).less hF1) Pw.nil))) (fun _ _ _ _ h => by cases h)
  · rename_i q q' q''
    have hq : fn.results = #[q, q', q''] := by apply Array.toList_inj.1; simpa using hrs
    obtain ⟨d, hk, hs⟩ := resD_sound tok h
    obtain ⟨v, hrun, hrep⟩ := hs x.B g w a.tmps hh htm
    obtain ⟨d', hk', hs'⟩ := resD_sound tok hk
    obtain ⟨v', hrun', hrep'⟩ := hs' x.B g w a.tmps hh htm
    obtain ⟨d'', hk2, hs''⟩ := resD_sound tok hk'
    obtain ⟨v'', hrun'', hrep''⟩ := hs'' x.B g w a.tmps hh htm
    refine ⟨.tuple #[v, v', v''], ?_, ?_⟩
    · unfold results
      rw [hq, Sem.run_bind, Array.mapM_three _ q q' q'' w hrun hrun' hrun'']
      simp
    · rcases hk2 with ⟨⟨hp1, hp2, hp3⟩, rfl⟩ | ⟨e, e', e'', hl1, hl2, hl3, ⟨hp1, hp2, hp3⟩, rfl⟩
      · exact PRes.of (PRep.tu (vs := [v, v', v'']) (Pw.cons ((hrep.xport hp1).less hF1) (Pw.cons ((hrep'.xport hp2).less hF1) (Pw.cons ((hrep''.xport hp3).less hF1) Pw.nil)))) (fun _ _ _ _ h => by cases h)
      · exact PRes.of (PRep.tu (vs := [v, v', v'']) (Pw.cons (((hrep.le hl1).exportP hp1).less hF1) (Pw.cons (((hrep'.le hl2).exportP hp2).less hF1) (Pw.cons (((hrep''.le hl3).exportP hp3).less hF1) Pw.nil)))) (fun _ _ _ _ h => by cases h)
  · have hq : fn.results = #[] := by apply Array.toList_inj.1; simpa using hrs
    subst h
    refine ⟨.tuple #[], ?_, PRes.of (PRep.tu (vs := []) Pw.nil) (fun _ _ _ _ h => by cases h)⟩
    unfold results
    rw [hq, Sem.run_bind]
    simp
  · cases h
/-- A function, walked. -/
theorem PCalls.of (tok : TOk P tb) {f : FuncId} {fn : Func} {c : Code} {ds : List D} {r : D} {rs : List ResultVar} (hf : P.funcs[f]? = some fn) (hb : fn.body = some c) (hname : (fn.name == "runtime.NumGoroutine") = false) (hN : ds.length ≤ fn.ntmps) (hrs : fn.results.toList = rs)
    (h : ∀ x : Cx, x.N = fn.ntmps → x.hp0 = ⟨[], [], 0⟩ → AW P x c (argsT 0 ds) ⟨[], [], 0⟩ fun ex tm hp => match ex with | .normal | .ret => RetV tb rs tm hp r | _ => False) : PCalls P f ds r := by
  subst hrs
  refine ⟨⟨fn, hf, hname, by rw [hb]; rfl⟩, fun w F vs hF hsz hvs => ?_⟩
  refine calls_of_wp hf hb ?_
  have hrs : RS ⟨w.heap.size, w, F, fn.ntmps, ⟨[], [], 0⟩, ⟨fun _ => 0, fun _ => default, F⟩⟩ (argsT 0 ds) ⟨[], [], 0⟩ { tmps := vs ++ Array.replicate (fn.ntmps - vs.size) undef, defers := [] } w := by
    refine ⟨⟨fun _ => 0, fun _ => default, F⟩, ⟨fun k ds h => by simp at h, fun _ _ _ _ h => by simp at h, fun _ _ _ h => by simp at h, fun _ _ _ _ _ h => by simp at h, Nat.le_refl _, hF⟩, fun t d ht => ?_, by simp; omega, rfl, Below.refl _ _, fun _ _ h => h, Mono.refl _ _ _⟩
    obtain ⟨_, h2⟩ := argsT_lookup ht
    have hlt : t < ds.length := by
      rw [Nat.sub_zero] at h2
      rcases Nat.lt_or_ge t ds.length with hh | hh
      · exact hh
      · rw [List.getElem?_eq_none hh] at h2; cases h2
    have hv : vs[t]? = some vs[t] := Array.getElem?_eq_getElem (by omega)
    have := hvs t d vs[t] (by simpa using h2) hv
    have he : (vs ++ Array.replicate (fn.ntmps - vs.size) undef).getD t undef = vs[t] := by
      rw [Array.getD_eq_getD_getElem?, Array.getElem?_append_left (by omega), hv]; rfl
    rw [he]
    exact this
  refine wp_mono (h ⟨w.heap.size, w, F, fn.ntmps, ⟨[], [], 0⟩, ⟨fun _ => 0, fun _ => default, F⟩⟩ rfl rfl _ _ hrs) ?_
  rintro ex a' w' ⟨tm', hp', h1, h2⟩
  have fin : RetV tb fn.results.toList tm' hp' r → a'.defers = [] ∧ ∃ v, (results fn a'.tmps).run P w' = .ok v w' ∧ ∃ v', Ending.returned v = .returned v' ∧ PRes w.heap.size F w' r v' ∧ Below w.heap.size w w' := by
    intro h2
    obtain ⟨v, hrun, hres⟩ := RetV_sound tok rfl h2 h1 hF
    obtain ⟨g, _, _, _, hdf, hB, _⟩ := h1
    exact ⟨hdf, v, hrun, v, rfl, hres, hB⟩
  cases ex with
  | normal => exact fin h2
  | ret => exact fin h2
  | _ => cases h2
/-- What a function that was given variables returns. -/
def RetH (tb : TypeId → Option TyE) (rs : List ResultVar) (tm : List (Nat × D)) (hp : Hp) (r : D) : Prop :=
  match rs with
  | [q] => resD tb tm hp q fun d => r = d
  | [q, q'] => resD tb tm hp q fun d => resD tb tm hp q' fun d' => r = .tu [d, d']
  | [q, q', q''] => resD tb tm hp q fun d => resD tb tm hp q' fun d' => resD tb tm hp q'' fun d'' => r = .tu [d, d', d'']
  | [] => r = .tu []
  | _ => False
theorem RetH_sound (tok : TOk P tb) {fn : Func} {rs : List ResultVar} {r : D} (hrs : fn.results.toList = rs) (h : RetH tb rs tm hp r) {g : Gh} (hh : HR x.B hp g w) (htm : ∀ t d, tm.lookup t = some d → RepD hp g w d (a.tmps.getD t undef)) :
    ∃ v, (results fn a.tmps).run P w = .ok v w ∧ RepD hp g w r v := by
  unfold RetH at h
  split at h
  · rename_i q
    have hq : fn.results = #[q] := by apply Array.toList_inj.1; simpa using hrs
    obtain ⟨d, rfl, hs⟩ := resD_sound tok h
    obtain ⟨v, hrun, hrep⟩ := hs x.B g w a.tmps hh htm
    refine ⟨v, ?_, hrep⟩
    unfold results
    rw [hq, Sem.run_bind, Array.mapM_one _ q w hrun]
    simp
  · rename_i q q'
    have hq : fn.results = #[q, q'] := by apply Array.toList_inj.1; simpa using hrs
    obtain ⟨d, hk, hs⟩ := resD_sound tok h
    obtain ⟨v, hrun, hrep⟩ := hs x.B g w a.tmps hh htm
    obtain ⟨d', rfl, hs'⟩ := resD_sound tok hk
    obtain ⟨v', hrun', hrep'⟩ := hs' x.B g w a.tmps hh htm
    have hpw : Pw (RepD hp g w) [d, d'] [v, v'] := Pw.cons hrep (Pw.cons hrep' Pw.nil)
    refine ⟨.tuple #[v, v'], ?_, .tu _ _ rfl fun j d u hd hu => hpw.2 j d u hd (by simpa using hu)⟩
    unfold results
    rw [hq, Sem.run_bind, Array.mapM_two _ q q' w hrun hrun']
    simp
  · rename_i q q' q''
    have hq : fn.results = #[q, q', q''] := by apply Array.toList_inj.1; simpa using hrs
    obtain ⟨d, hk, hs⟩ := resD_sound tok h
    obtain ⟨v, hrun, hrep⟩ := hs x.B g w a.tmps hh htm
    obtain ⟨d', hk', hs'⟩ := resD_sound tok hk
    obtain ⟨v', hrun', hrep'⟩ := hs' x.B g w a.tmps hh htm
    obtain ⟨d'', rfl, hs''⟩ := resD_sound tok hk'
    obtain ⟨v'', hrun'', hrep''⟩ := hs'' x.B g w a.tmps hh htm
    have hpw : Pw (RepD hp g w) [d, d', d''] [v, v', v''] := Pw.cons hrep (Pw.cons hrep' (Pw.cons hrep'' Pw.nil))
    refine ⟨.tuple #[v, v', v''], ?_, .tu _ _ rfl fun j d u hd hu => hpw.2 j d u hd (by simpa using hu)⟩
    unfold results
    rw [hq, Sem.run_bind, Array.mapM_three _ q q' q'' w hrun hrun' hrun'']
    simp
  · have hq : fn.results = #[] := by apply Array.toList_inj.1; simpa using hrs
    subst h
    refine ⟨.tuple #[], ?_, .tu _ _ rfl fun j d u hd hu => by simp at hd⟩
    unfold results
    rw [hq, Sem.run_bind]
    simp
  · cases h
/-- All numbers that the state names are below its next. -/
structure HpOk (hp : Hp) : Prop where
  var : ∀ k ds, hp.vars.lookup k = some ds → k < hp.next ∧ ds.all (D.idsC hp.next) = true
  tok : ∀ id e, hp.live.lookup id = some e → id < hp.next
theorem RepD.cell_ids {d : D} {v : Value} {hp : Hp} {g : Gh} (h : RepD hp g w d v) (hv : v.oneCell' = true) : d.idsC hp.next = true := by
  cases h with
  | e x v h => rfl
  | own id z n xs v h hid ht => exact decide_eq_true hid
  | fu z n xs A h => rfl
  | ag ds cs hl h1 hr => cases hv
  | tu ds cs hl hr => cases hv
  | fp xs off ad hb hc => rfl
  | pt k off hk => exact decide_eq_true hk
  | ow k off z n c hk h1 h2 => exact decide_eq_true hk
  | fn f ks hk => exact List.all_eq_true.2 fun k h => decide_eq_true (hk k h)
  | opt b d v hi h => exact hi
  | top v => rfl
theorem HR.ok {B : Nat} {hp : Hp} {g : Gh} (h : HR B hp g w) : HpOk hp := by
  refine ⟨fun k ds hk => ?_, fun id e he => (h.tok id e.1 e.2 he).1⟩
  obtain ⟨h1, _, _, cs, ty, _, h2, h3⟩ := h.var k ds hk
  refine ⟨h1, List.all_eq_true.2 fun d hd => ?_⟩
  obtain ⟨j, hj⟩ := List.getElem?_of_mem hd
  have hlt : j < cs.size := by
    have := (List.getElem?_eq_some_iff.1 hj).1
    omega
  obtain ⟨h4, h5⟩ := h3 j cs[j] (Array.getElem?_eq_getElem hlt)
  exact (h5 d hj).cell_ids h4
/-- A function that is given variables, walked. -/
theorem HC.of (tok : TOk P tb) {f : FuncId} {fn : Func} {c : Code} {ds : List D} {hp hp' : Hp} {r : D} {rs : List ResultVar} (hf : P.funcs[f]? = some fn) (hb : fn.body = some c) (hname : (fn.name == "runtime.NumGoroutine") = false) (hN : ds.length ≤ fn.ntmps) (hrs : fn.results.toList = rs)
    (h : ∀ x : Cx, x.N = fn.ntmps → x.hp0 = hp → HpOk hp → AW P x c (argsT 0 ds) hp fun ex tm hp2 => match ex with | .normal | .ret => ∃ tm', Wk x tm hp2 tm' hp' ∧ RetH tb rs tm' hp' r | _ => False) : HC P f ds hp r hp' := by
  subst hrs
  refine ⟨⟨fn, hf, hname, by rw [hb]; rfl⟩, fun B g w vs hr hsz hvs => ?_⟩
  refine calls_of_wp hf hb ?_
  have hstart : RS ⟨B, w, g.F, fn.ntmps, hp, g⟩ (argsT 0 ds) hp { tmps := vs ++ Array.replicate (fn.ntmps - vs.size) undef, defers := [] } w := by
    refine ⟨g, hr, fun t d ht => ?_, by simp; omega, rfl, Below.refl _ _, fun _ _ h => h, Mono.refl _ _ _⟩
    obtain ⟨_, h2⟩ := argsT_lookup ht
    have hlt : t < ds.length := by
      rw [Nat.sub_zero] at h2
      rcases Nat.lt_or_ge t ds.length with hh | hh
      · exact hh
      · rw [List.getElem?_eq_none hh] at h2; cases h2
    have hv : vs[t]? = some vs[t] := Array.getElem?_eq_getElem (by omega)
    have := hvs t d vs[t] (by simpa using h2) hv
    have he : (vs ++ Array.replicate (fn.ntmps - vs.size) undef).getD t undef = vs[t] := by
      rw [Array.getD_eq_getD_getElem?, Array.getElem?_append_left (by omega), hv]; rfl
    rw [he]
    exact this
  refine wp_mono (h ⟨B, w, g.F, fn.ntmps, hp, g⟩ rfl rfl hr.ok _ _ hstart) ?_
  rintro ex a' w' ⟨tm', hp2, h1, h2⟩
  have fin : (∃ tm2, Wk ⟨B, w, g.F, fn.ntmps, hp, g⟩ tm' hp2 tm2 hp' ∧ RetH tb fn.results.toList tm2 hp' r) → a'.defers = [] ∧ ∃ v, (results fn a'.tmps).run P w' = .ok v w' ∧ ∃ v' g', Ending.returned v = .returned v' ∧ HR B hp' g' w' ∧ Mono hp g w hp' g' w' ∧ RepD hp' g' w' r v' ∧ Below B w w' ∧ ∀ p : Addr, p.block < B → g.F p → g'.F p := by
    rintro ⟨tm2, hwk, hret⟩
    obtain ⟨g', hr', htm, _, hdf, hB, hF, hM⟩ := hwk a' w' h1
    obtain ⟨v, hrun, hres⟩ := RetH_sound (x := ⟨B, w, g.F, fn.ntmps, hp, g⟩) tok rfl hret hr' htm
    exact ⟨hdf, v, hrun, v, g', rfl, hr', hM, hres, hB, hF⟩
  cases ex with
  | normal => exact fin h2
  | ret => exact fin h2
  | _ => cases h2
end
end Go.Proofs.Ytakbadleipbngaa
