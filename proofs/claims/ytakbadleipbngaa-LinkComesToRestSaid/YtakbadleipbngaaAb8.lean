/-
  The abstract layer: every operation does to memory what it does to data. Conditions: none.
-/
import Derived.Test.YtakbadleipbngaaAb7
set_option linter.all false
namespace Go.Proofs.Ytakbadleipbngaa
open Go.RowKit
section
variable {P : Program} {tb : TypeId → Option TyE}
/-- From states that stand for ev and hp, the operation comes to a state that stands for d and hp'. -/
def OpOk (P : Program) (o : Oper) (ev : Operand → D) (hp : Hp) (d : D) (hp' : Hp) : Prop :=
  ∀ (B : Nat) (g : Gh) (w : World) (a : Act) (Kn : Act → World → Prop) (Q : Exit → Act → World → Prop), HR B hp g w → (∀ x ∈ o.op.operands, RepD hp g w (ev x) (a.eval x)) →
    (∀ v g' w', HR B hp' g' w' → Mono hp g w hp' g' w' → RepD hp' g' w' d v → Below B w w' → (∀ p : Addr, p.block < B → g.F p → g'.F p) → Kn (a.put o.dst v) w') → o.wp P a w Kn Q
/-- Operations that leave the variables and the growing slices alone. -/
def quietB : Op → Bool
  | .move _ | .nilCheck _ | .makeFunc .. | .pick .. | .build .. | .load .. | .binOp .. | .unOp .. | .convert .. | .slice .. | .fieldAddr .. | .field .. | .indexAddr .. | .index .. | .extract .. => true
  | .buildSlice _ n _ => n != 0
  | .call c => match c.callee with
    | .builtin .append => false
    | .builtin _ => true
    | _ => false
  | _ => false
/-- Operations that make or write variables. -/
def varB (tb : TypeId → Option TyE) : Op → Bool
  | .alloc _ | .box .. | .store .. => true
  | .call c => hvB tb c
  | _ => false
/-- Operations that write variables. -/
def varC (tb : TypeId → Option TyE) : Op → Bool
  | .box .. | .store .. => true
  | .call c => hvB tb c
  | _ => false
def loadB : Op → Bool
  | .load .. => true
  | _ => false
/-- Under its guard. -/
def D.un : D → D
  | .opt b d => bif b then d.un else .top
  | d => d
theorem un_un : ∀ d : D, d.un.un = d.un
  | .opt b d => by
    cases b
    · rfl
    · exact un_un d
  | .e _ | .own .. | .fu .. | .ag _ | .tu _ | .fp .. | .pt .. | .ow .. | .fn .. | .top => rfl
theorem RepD.un {hp : Hp} {g : Gh} {w : World} {d : D} {v : Value} (h : RepD hp g w d v) : RepD hp g w d.un v := by
  induction h with
  | opt b d v hi h ih =>
    unfold D.un
    cases b
    · exact .top _
    · exact ih rfl
  | e x v h => exact .e x v h
  | own id z n xs v h hid ht => exact .own id z n xs v h hid ht
  | fu z n xs A h => exact .fu z n xs A h
  | ag ds cs hl h1 hr ih => exact .ag ds cs hl h1 hr
  | tu ds cs hl hr ih => exact .tu ds cs hl hr
  | fp xs off ad hb hc => exact .fp xs off ad hb hc
  | pt k off hk => exact .pt k off hk
  | ow k off z n c hk h1 h2 => exact .ow k off z n c hk h1 h2
  | fn f ks hk => exact .fn f ks hk
  | top v => exact .top v
/-- The variables whose addresses are read are the same. -/
def LdEq (o : Oper) (ev : Operand → D) (hp hp2 : Hp) : Prop := ∀ x ∈ o.op.operands, ∀ j off, (ev x).un = .pt j off → hp2.vars.lookup j = hp.vars.lookup j
def LdLt (o : Oper) (ev : Operand → D) (hp : Hp) : Prop := ∀ x ∈ o.op.operands, ∀ j off, (ev x).un = .pt j off → j < hp.next
/-- What stood in variables stands there. -/
def Fr (hp hp' : Hp) : Prop := hp.next ≤ hp'.next ∧ ∀ j, j < hp.next → hp'.vars.lookup j = hp.vars.lookup j
theorem Fr.refl (hp : Hp) : Fr hp hp := ⟨Nat.le_refl _, fun _ _ => rfl⟩
theorem Fr.of {hp hp' : Hp} (h : hp'.vars = hp.vars ∧ hp.next ≤ hp'.next) : Fr hp hp' := ⟨h.2, fun _ _ => by rw [h.1]⟩
structure Snd (P : Program) (tb : TypeId → Option TyE) (dr : Bool) (o : Oper) (ev : Operand → D) (hp : Hp) (d : D) (hp' : Hp) : Prop where
  ok : OpOk P o ev hp d hp'
  quiet : dr = true → quietB o.op = true → hp' = hp ∧ ∀ hp2 : Hp, (loadB o.op = true → LdEq o ev hp hp2) → OpOk P o ev hp2 d hp2
  fr : varC tb o.op = false → Fr hp hp'
  lk : loadB o.op = true → LdLt o ev hp
/-- Operations that leave the state alone: also calls of functions that are listed (they are given data, and yield data). -/
def callIn (tb : TypeId → Option TyE) (L : List FuncId) : Op → Bool
  | .call c => (match c.callee with
    | .value (.func f) => L.elem f
    | _ => false) && !hvB tb c
  | _ => false
def quietL (tb : TypeId → Option TyE) (L : List FuncId) (op : Op) : Bool := quietB op || callIn tb L op
/-- How a region is walked: in order, or in any order with the listed functions quiet. -/
inductive Md where
  | seq
  | any (L : List FuncId)
def Md.dr : Md → Bool
  | .seq => false
  | .any _ => true
def Md.qt (tb : TypeId → Option TyE) : Md → Op → Bool
  | .seq, _ => false
  | .any L, op => quietL tb L op
def Md.nc (tb : TypeId → Option TyE) : Md → Op → Bool
  | .seq, _ => true
  | .any L, op => !callIn tb L op
structure SndQ (P : Program) (tb : TypeId → Option TyE) (md : Md) (o : Oper) (ev : Operand → D) (hp : Hp) (d : D) (hp' : Hp) : Prop where
  ok : OpOk P o ev hp d hp'
  quiet : md.qt tb o.op = true → hp' = hp ∧ ∀ hp2 : Hp, (loadB o.op = true → LdEq o ev hp hp2) → OpOk P o ev hp2 d hp2
  fr : varC tb o.op = false → Fr hp hp'
  lk : loadB o.op = true → LdLt o ev hp
theorem Snd.q {md : Md} {o : Oper} {ev : Operand → D} {hp hp' : Hp} {d : D} (h : Snd P tb md.dr o ev hp d hp') (hn : md.nc tb o.op = true) : SndQ P tb md o ev hp d hp' := by
  refine ⟨h.ok, fun hq => ?_, h.fr, h.lk⟩
  cases md with
  | seq => cases hq
  | any L =>
    have h1 : (quietB o.op || callIn tb L o.op) = true := hq
    have h2 : (!callIn tb L o.op) = true := hn
    refine h.quiet rfl ?_
    cases hc : callIn tb L o.op with
    | true => rw [hc] at h2; cases h2
    | false => rw [hc, Bool.or_false] at h1; exact h1
theorem Snd.calmL {dr : Bool} {o : Oper} {ev : Operand → D} {hp : Hp} {d : D} (hl : loadB o.op = true → LdLt o ev hp) (h : ∀ hp2 : Hp, (loadB o.op = true → LdEq o ev hp hp2) → OpOk P o ev hp2 d hp2) : Snd P tb dr o ev hp d hp := ⟨h hp fun _ _ _ _ _ _ => rfl, fun _ _ => ⟨rfl, h⟩, fun _ => Fr.refl _, hl⟩
theorem Snd.calm {dr : Bool} {o : Oper} {ev : Operand → D} {hp : Hp} {d : D} (h : ∀ hp2 : Hp, (loadB o.op = true → LdEq o ev hp hp2) → OpOk P o ev hp2 d hp2) (hl : loadB o.op = false := by rfl) : Snd P tb dr o ev hp d hp := Snd.calmL (fun h => by rw [hl] at h; cases h) h
theorem Snd.loud {dr : Bool} {o : Oper} {ev : Operand → D} {hp hp' : Hp} {d : D} (h : OpOk P o ev hp d hp') (hq : dr = true → quietB o.op = false) (hv : varC tb o.op = false → Fr hp hp') (hl : loadB o.op = false := by rfl) : Snd P tb dr o ev hp d hp' := ⟨h, fun hd h => (by rw [hq hd] at h; cases h), hv, fun h => by rw [hl] at h; cases h⟩
theorem OpOk.pure {o : Oper} {ev : Operand → D} {hp : Hp} {d : D} (h : ∀ (B : Nat) (g : Gh) (w : World) (a : Act), HR B hp g w → (∀ x ∈ o.op.operands, RepD hp g w (ev x) (a.eval x)) → ∃ v, (execOp a.eval o).run P w = .ok (.value v) w ∧ RepD hp g w d v) : OpOk P o ev hp d hp := by
  intro B g w a Kn Q hr hx hk
  obtain ⟨v, hrun, hd⟩ := h B g w a hr hx
  unfold Oper.wp
  rw [hrun]
  exact hk v g w hr (Mono.refl _ _ _) hd (Below.refl _ _) fun _ _ h => h
theorem OpOk.step {o : Oper} {ev : Operand → D} {hp hp' : Hp} {d : D} (h : ∀ (B : Nat) (g : Gh) (w : World) (a : Act), HR B hp g w → (∀ x ∈ o.op.operands, RepD hp g w (ev x) (a.eval x)) → ∃ v g' w', (execOp a.eval o).run P w = .ok (.value v) w' ∧ HR B hp' g' w' ∧ Mono hp g w hp' g' w' ∧ RepD hp' g' w' d v ∧ Below B w w' ∧ ∀ p : Addr, p.block < B → g.F p → g'.F p) : OpOk P o ev hp d hp' := by
  intro B g w a Kn Q hr hx hk
  obtain ⟨v, g', w', hrun, h1, h2, h3, h4, h5⟩ := h B g w a hr hx
  unfold Oper.wp
  rw [hrun]
  exact hk v g' w' h1 h2 h3 h4 h5
theorem pureC_ex {d : D} (h : d.exC.pureC = true) : ∃ x, d.exC = D.e x ∧ ∀ (hp : Hp) (g : Gh) (w : World) (v : Value), RepD hp g w d v → RepE w g.F x v := by
  cases d with
  | e x => exact ⟨x, rfl, fun hp g w v hv => by cases hv; assumption⟩
  | own id z n xs => exact ⟨_, rfl, fun hp g w v hv => by cases hv; assumption⟩
  | fu z n xs => exact ⟨_, rfl, fun hp g w v hv => by cases hv; assumption⟩
  | _ => cases h
theorem RepD.xport {hp : Hp} {g : Gh} {w : World} {d : D} {v : Value} (h : RepD hp g w d v) (hp' : d.ex.pure = true) : PRep w g.F d.ex v := by
  cases h with
  | e x v h => exact .e x v h
  | own id z n xs v h hid ht => exact .e _ _ h
  | fu z n xs A h => exact .e _ _ h
  | ag ds cs hl h1 hr =>
    refine .ag _ cs (by simpa using hl) h1 (fun j d u hd hu => ?_)
    have hall : ∀ x ∈ ds.map D.exC, D.pureC x = true := by
      have : (ds.map D.exC).all D.pureC = true := hp'
      simpa only [List.all_eq_true] using this
    have hm := hall d (List.mem_of_getElem? hd)
    rw [List.getElem?_map] at hd
    cases hdj : ds[j]? with
    | none => simp [hdj] at hd
    | some d0 =>
      simp only [hdj, Option.map_some, Option.some.injEq] at hd
      subst hd
      obtain ⟨x, hx, hrep⟩ := pureC_ex hm
      rw [hx]
      exact .e x u (show RepE w g.F x u from hrep hp g w u (hr j d0 u hdj hu))
  | fp xs off ad hb hc => exact .fp xs off ad hb hc
  | tu ds cs hl hr => cases hp'
  | pt k off hk => cases hp'
  | ow k off z n c hk h1 h2 => cases hp'
  | fn f ks hk => cases hp'
  | opt b d v hi h => cases hp'
  | top v => cases hp'
/-- Pure data stand in every state. -/
theorem PRep.to {w : World} {F : Addr → Prop} {d : D} {v : Value} (h : PRep w F d v) (hp : Hp) (g : Gh) (hg : g.F = F) : RepD hp g w d v := by
  subst hg
  unfold PRep at h
  generalize hh : (⟨[], [], 0⟩ : Hp) = h0 at h
  generalize hgg : (⟨fun _ => 0, fun _ => default, g.F⟩ : Gh) = g0 at h
  have hF : g0.F = g.F := by rw [← hgg]
  have hn : h0.next = 0 := by rw [← hh]
  induction h with
  | e x v h => exact .e x v (by rw [← hF]; exact h)
  | own id z n xs v h hid ht => omega
  | fu z n xs A h => exact .fu z n xs A (by rw [← hF]; exact h)
  | ag ds cs hl h1 hr ih => exact .ag ds cs hl h1 ih
  | tu ds cs hl hr ih => exact .tu ds cs hl ih
  | fp xs off ad hb hc => exact .fp xs off ad hb (by rw [← hF]; exact hc)
  | pt k off hk => omega
  | ow k off z n c hk h1 h2 => omega
  | fn f ks hk =>
    cases ks with
    | nil => exact .fn f [] (by simp)
    | cons k ks => have := hk k (by simp); omega
  | opt b d v hi h ih => exact .opt b d v (D.idsC_le (Nat.zero_le _) (by rw [← hn]; exact hi)) ih
  | top v => exact .top v
theorem callV_sound {hv : Bool} {f : FuncId} {args : List Operand} {ev : Operand → D} {hp : Hp} {k : D → Hp → Prop} {caps : List D} {cvs : Gh → List Value} (hcaps : ∀ (g : Gh) (w : World), Pw (RepD hp g w) caps (cvs g)) (h : callV P hv f (args.map ev ++ caps) hp k) :
    ∃ d hp', k d hp' ∧ (hv = false → Fr hp hp') ∧ FnOk P f ∧ ∀ (B : Nat) (g : Gh) (w : World) (ρ : Operand → Value), HR B hp g w → (∀ x ∈ args, RepD hp g w (ev x) (ρ x)) →
      Calls P f (args.map ρ ++ cvs g).toArray w fun e w' => ∃ v g', e = .returned v ∧ HR B hp' g' w' ∧ Mono hp g w hp' g' w' ∧ RepD hp' g' w' d v ∧ Below B w w' ∧ ∀ p : Addr, p.block < B → g.F p → g'.F p := by
  have reps : ∀ (g : Gh) (w : World) (ρ : Operand → Value), (∀ x ∈ args, RepD hp g w (ev x) (ρ x)) → Pw (RepD hp g w) (args.map ev ++ caps) (args.map ρ ++ cvs g) := fun g w ρ hx => Pw.append ⟨by simp, fun j d u hd hu => by
    rw [List.getElem?_map] at hd hu
    cases ha : args[j]? with
    | none => simp [ha] at hd
    | some x =>
      simp only [ha, Option.map_some, Option.some.injEq] at hd hu
      subst hd; subst hu
      exact hx x (List.mem_of_getElem? ha)⟩ (hcaps g w)
  rcases h with h | ⟨rfl, d, hp', ⟨hfn, hcall⟩, hk⟩
  rotate_left
  · refine ⟨d, hp', hk, (fun h => by cases h), hfn, fun B g w ρ hr hx => ?_⟩
    have hpw := reps g w ρ hx
    exact hcall B g w _ hr (by simpa using hpw.1.symm) (fun j d u hd hu => hpw.2 j d u hd (by simpa using hu))
  obtain ⟨hpure, r, ⟨hfn, hcall⟩, hk⟩ := h
  have hargs : ∀ (B : Nat) (g : Gh) (w : World) (ρ : Operand → Value), HR B hp g w → (∀ x ∈ args, RepD hp g w (ev x) (ρ x)) →
      Calls P f (args.map ρ ++ cvs g).toArray w fun e w' => ∃ v, e = .returned v ∧ PRes w.heap.size g.F w' r v ∧ Below w.heap.size w w' := by
    intro B g w ρ hr hx
    have hpw := reps g w ρ hx
    refine hcall w g.F _ hr.fits (by have := hpw.1; simpa using this.symm) (fun j d u hd hu => ?_)
    rw [List.getElem?_map] at hd
    cases ha : (args.map ev ++ caps)[j]? with
    | none => rw [ha] at hd; cases hd
    | some d0 =>
      rw [ha] at hd
      simp only [Option.map_some, Option.some.injEq] at hd
      subst hd
      refine (hpw.2 j d0 u ha (by simpa using hu)).xport ?_
      simp only [List.all_eq_true, List.mem_map] at hpure
      exact hpure _ ⟨d0, List.mem_of_getElem? ha, rfl⟩
  have plain : (∀ e z n xs, r ≠ .own e z n xs) → k r hp → ∃ d hp', k d hp' ∧ (hv = false → Fr hp hp') ∧ FnOk P f ∧ ∀ (B : Nat) (g : Gh) (w : World) (ρ : Operand → Value), HR B hp g w → (∀ x ∈ args, RepD hp g w (ev x) (ρ x)) →
      Calls P f (args.map ρ ++ cvs g).toArray w fun e w' => ∃ v g', e = .returned v ∧ HR B hp' g' w' ∧ Mono hp g w hp' g' w' ∧ RepD hp' g' w' d v ∧ Below B w w' ∧ ∀ p : Addr, p.block < B → g.F p → g'.F p := by
    intro hno hk
    refine ⟨r, hp, hk, fun _ => Fr.refl _, hfn, fun B g w ρ hr hx => (hargs B g w ρ hr hx).mono ?_⟩
    rintro e w' ⟨v, rfl, hres, hb⟩
    have hres' : PRep w' g.F r v := by
      unfold PRes at hres
      split at hres
      · exact absurd rfl (hno _ _ _ _)
      · exact hres
    exact ⟨v, g, rfl, hr.keep hb.size hb.block, Mono.keep hp g hb.size hb.block, hres'.to hp g rfl, hb.mono hr.base, fun _ _ h => h⟩
  unfold adoptV at hk
  split at hk
  · rename_i e z n xs
    refine ⟨_, _, hk, fun _ => Fr.of ⟨rfl, Nat.le_succ _⟩, hfn, fun B g w ρ hr hx => (hargs B g w ρ hr hx).mono ?_⟩
    rintro e' w' ⟨v, rfl, ⟨hz, ⟨us, ho⟩, hrep⟩, hb⟩
    have hv : ∀ b, v.ownBlock = some b → w.heap.size ≤ b := fun b hb => (ho.lt b hb).1
    refine ⟨v, _, rfl, hr.newTok (e := (z, e)) hz hb.size hb.block hv (own_mono ho hr.base), Mono.tok hp g hb.size hb.block hv, ?_, hb.mono hr.base, fun p h1 h2 => Gh.tok_keep g _ (fun b hb => Nat.le_trans hr.base (hv b hb)) p h1 h2⟩
    refine .own _ _ _ _ _ (hrep.mono (Nat.le_refl _) (fun _ _ _ => rfl) (fun p _ hf => ?_)) (Nat.lt_succ_self _) (fun m e' hm => ?_)
    · rcases hf with hf | hf
      · exact .inl hf.1
      · exact .inr hf
    · rw [show (Hp.tok hp _ _).live.lookup _ = _ from lookup_cons_eq] at hm
      injection hm with hm
      injection hm with h1 h2
      subst h1; subst h2
      exact ⟨Nat.le_refl _, rfl, fun _ => (if_pos rfl).symm⟩
  · cases hk
  · rename_i h1 h2
    exact plain (fun e z n xs he => h1 e z n xs he) hk
theorem mem_ops_call {b : Callee} {args : Array Operand} {ts : Array TypeId} {x : Operand} (h : x ∈ args) : x ∈ (Op.call ⟨b, args, ts⟩).operands := by
  simp only [Op.operands, Call.operands]
  exact Array.mem_append.2 (.inr h)
theorem enter_wp {o : Oper} {a : Act} {w : World} {Kn : Act → World → Prop} {Q : Exit → Act → World → Prop} {f : FuncId} {args : Array Value} {R : Value → World → Prop} (h : (execOp a.eval o).run P w = .ok (.enter f args) w) (hc : Calls P f args w fun e w' => ∃ v, e = .returned v ∧ R v w')
    (hk : ∀ v w', R v w' → Kn (a.put o.dst v) w') : o.wp P a w Kn Q := by
  unfold Oper.wp
  rw [h, Oper.upon_enter]
  refine hc.mono ?_
  rintro e w' ⟨v, rfl, hr⟩
  exact hk v w' hr
theorem newsV_imp {t : TypeId} {z : Nat} {x : D} {k k' : Nat → List E → Prop} (h : newsV tb t z x k) (hi : ∀ m ys, k m ys → k' m ys) : newsV tb t z x k' := by
  unfold newsV at h ⊢
  split at h
  · split at h
    · exact ⟨h.1, hi _ _ h.2⟩
    · split at h
      · exact hi _ _ h
      · cases h
    · cases h
  · cases h
theorem appendV_vars {t t' : TypeId} {s x : D} {hp : Hp} {k : D → Hp → Prop} (h : appendV tb t t' s x hp k) : appendV tb t t' s x hp fun d h' => k d h' ∧ h'.vars = hp.vars ∧ hp.next ≤ h'.next := by
  unfold appendV at h ⊢
  split at h
  · split at h
    · split at h
      · obtain ⟨h1, h2, h3, h4⟩ := h
        refine ⟨h1, h2, h3, newsV_imp h4 fun m ys h => ?_⟩
        split at h
        · obtain ⟨h5, h6, h7, h8⟩ := h
          exact ⟨h5, h6, h7, h8, rfl, by first | exact Nat.le_refl _ | exact Nat.le_succ _⟩
        · obtain ⟨h5, h6⟩ := h
          exact ⟨h5, h6, rfl, by first | exact Nat.le_refl _ | exact Nat.le_succ _⟩
        · obtain ⟨h5, h6, h7, h8⟩ := h
          exact ⟨h5, h6, h7, h8, rfl, by first | exact Nat.le_refl _ | exact Nat.le_succ _⟩
        · cases h
      · cases h
    · cases h
  · cases h
theorem AVC.sound (tok : TOk P tb) {dr : Bool} {o : Oper} {ev : Operand → D} {hp : Hp} {k : D → Hp → Prop} (h : AVC P tb dr o.op o.type ev hp k) : ∃ d hp', k d hp' ∧ Snd P tb dr o ev hp d hp' := by
  obtain ⟨dst, op, ty, pos, af, gd⟩ := o
  unfold AVC at h
  dsimp only at h
  split at h
  · -- move
    rename_i x
    exact ⟨_, _, h, .calm fun hp2 _ => .pure fun B g w a hr hx => ⟨a.eval x, by simp [execOp], hx x (by simp [Op.operands])⟩⟩
  · -- assign
    rename_i x
    have gen : k (ev x) hp → ∃ d hp', k d hp' ∧ Snd P tb dr ⟨dst, .assign x, ty, pos, af, gd⟩ ev hp d hp' := fun h => ⟨_, _, h, .loud (.pure fun B g w a hr hx => ⟨a.eval x, by simp [execOp], hx x (by simp [Op.operands])⟩) (fun _ => rfl) fun _ => Fr.refl _⟩
    unfold asgV at h
    split at h
    · rename_i hd
      split at h
      · split at h
        · rename_i e hty
          split at h
          · rename_i j he
            obtain ⟨hz, h⟩ := h
            refine ⟨_, _, h, .loud (.step fun B g w a hr hx => ?_) (fun _ => rfl) fun _ => Fr.of ⟨rfl, Nat.le_succ _⟩⟩
            have hv := hx x (by simp [Op.operands])
            rw [hd] at hv
            have hv := hv.lit
            have ho := World.ownsRow_nil w B e j.size
            have hnb : ∀ b, (Value.slice none 0 0).ownBlock = some b → w.heap.size ≤ b := fun b hb => by cases hb
            refine ⟨.slice none 0 0, _, w, by simp [execOp, hv], hr.newTok (e := (j.size, e)) hz (Nat.le_refl _) (fun _ _ => rfl) hnb ho, Mono.tok hp g (Nat.le_refl _) (fun _ _ => rfl) hnb, ?_, Below.refl _ _, fun p h1 h2 => Gh.tok_keep g _ (fun b hb => by cases hb) p h1 h2⟩
            refine .own _ _ _ _ _ (.sl _ 0 [] none 0 (fun _ => undef) (by simp) hz (Nat.le_refl _) (by decide) (fun h => absurd h (by omega)) (fun _ h => by cases h) (fun _ _ h => by simp at h)) (Nat.lt_succ_self _) (fun m e' hm => ?_)
            rw [show (Hp.tok hp _ _).live.lookup _ = _ from lookup_cons_eq] at hm
            injection hm with hm
            injection hm with h1 h2
            subst h1; subst h2
            exact ⟨Nat.le_refl _, rfl, fun _ => (if_pos rfl).symm⟩
          · exact gen h
        · exact gen h
      · exact gen h
    · exact gen h
  · -- pick
    rename_i c x y
    unfold pickV at h
    split at h
    · rename_i hc
      refine ⟨_, _, h, .calm fun hp2 _ => .pure fun B g w a hr hx => ⟨a.eval x, ?_, hx x (by simp [Op.operands])⟩⟩
      have := hx c (by simp [Op.operands])
      rw [hc] at this
      simp [execOp, this.lit, asBool]
    · rename_i hc
      refine ⟨_, _, h, .calm fun hp2 _ => .pure fun B g w a hr hx => ⟨a.eval y, ?_, hx y (by simp [Op.operands])⟩⟩
      have := hx c (by simp [Op.operands])
      rw [hc] at this
      simp [execOp, this.lit, asBool]
    · cases h
  · -- alloc
    rename_i t
    split at h
    · rename_i i ht
      refine ⟨_, _, h, .loud (.step fun B g w a hr hx => ?_) (fun _ => rfl) fun _ => ⟨Nat.le_succ _, fun j hj => lookup_cons_ne (by omega)⟩⟩
      obtain ⟨z, hz, hzc⟩ := tok.run_zero ht w
      have hcs := Cells.lits (hp := hp) (g := g) (w := w) i.zero (tok t i ht).2.2.2
      refine ⟨.pointer (some ⟨w.heap.size, 0, none⟩), _, w.alloc (.cells z.cells t), ?_, hr.newVar _ z.cells t (by rw [← Array.length_toList, hzc]; simp) (fun j u hu => ?_), Mono.var hp g w _ _, ?_, (Below.refl _ _).alloc hr.base _, fun p _ h => .inl h⟩
      · simp only [execOp, Instr.alloc, Sem.run_bind, hz, Result.andThen_ok]
        rfl
      · have hu' : i.zero[j]? = some u := by rw [← hzc]; simpa using hu
        exact ⟨hcs.2 u (List.mem_of_getElem? hu'), fun d hd => hcs.1.2 j d u hd hu'⟩
      · have := RepD.pt (hp := hp.var (i.zero.map fun v => .e (.lit v))) (g := g.var hp.next w.heap.size) (w := w.alloc (.cells z.cells t)) hp.next 0 (Nat.lt_succ_self _)
        rwa [show (g.var hp.next w.heap.size).μ hp.next = w.heap.size from if_pos rfl] at this
    · cases h
  · -- box
    rename_i t x
    split at h
    · rename_i cs hc
      refine ⟨_, _, h, .loud (.step fun B g w a hr hx => ?_) (fun _ => rfl) fun h => by cases h⟩
      have hcs := (hx x (by simp [Op.operands])).cells hc
      refine ⟨.pointer (some ⟨w.heap.size, 0, none⟩), _, w.alloc (.cells (a.eval x).cells t), ?_, hr.newVar _ _ t (by rw [← Array.length_toList, hcs.1.1]) (fun j u hu => ?_), Mono.var hp g w _ _, ?_, (Below.refl _ _).alloc hr.base _, fun p _ h => .inl h⟩
      · rfl
      · have hu' : (a.eval x).cells.toList[j]? = some u := by simpa using hu
        exact ⟨hcs.2 u (List.mem_of_getElem? hu'), fun d hd => hcs.1.2 j d u hd hu'⟩
      · have := RepD.pt (hp := hp.var cs) (g := g.var hp.next w.heap.size) (w := w.alloc (.cells (a.eval x).cells t)) hp.next 0 (Nat.lt_succ_self _)
        rwa [show (g.var hp.next w.heap.size).μ hp.next = w.heap.size from if_pos rfl] at this
    · cases h
  · -- build
    rename_i t ps
    obtain ⟨d', hk, hs⟩ := buildV_sound tok h
    refine ⟨_, _, hk, .calm fun hp2 hvv => .pure fun B g w a hr hx => ?_⟩
    obtain ⟨v, hrun, hd⟩ := hs hp2 g w a.eval (fun p hp => hx _ (by simp only [Op.operands, List.mem_toArray, List.mem_map]; exact ⟨p, hp, rfl⟩))
    refine ⟨v, ?_, hd⟩
    have hps : (ps.map fun (x : Nat × Operand) => (x.1, a.eval x.2)) = (ps.toList.map fun p => (p.1, a.eval p.2)).toArray := by
      apply Array.toList_inj.1; simp
    simp only [execOp, Sem.run_bind]
    rw [hps, hrun]
    rfl
  · -- buildSlice
    rename_i t n ps
    have hps : (ps.map fun (x : Nat × Operand) => (x.1, ev x.2)) = (ps.toList.map fun p => (p.1, ev p.2)).toArray := by
      apply Array.toList_inj.1; simp
    have step : ∀ {hp1 hp1' : Hp} {d' : D}, (∀ (B : Nat) (g : Gh) (w : World) (ρ : Operand → Value), HR B hp1 g w → (∀ p ∈ ps.toList, RepD hp1 g w (ev p.2) (ρ p.2)) →
        ∃ v g' w', (Instr.buildSlice t n (ps.toList.map fun p => (p.1, ρ p.2)).toArray).run P w = .ok v w' ∧ HR B hp1' g' w' ∧ Mono hp1 g w hp1' g' w' ∧ RepD hp1' g' w' d' v ∧ Below B w w' ∧ ∀ p : Addr, p.block < B → g.F p → g'.F p) →
        OpOk P ⟨dst, .buildSlice t n ps, ty, pos, af, gd⟩ ev hp1 d' hp1' := by
      intro hp1 hp1' d' hs
      refine .step fun B g w a hr hx => ?_
      obtain ⟨v, g', w', hrun, h1⟩ := hs B g w a.eval hr (fun p hp => hx _ (by simp only [Op.operands, List.mem_toArray, List.mem_map]; exact ⟨p, hp, rfl⟩))
      refine ⟨v, g', w', ?_, h1⟩
      have hps : (ps.map fun (x : Nat × Operand) => (x.1, a.eval x.2)) = (ps.toList.map fun p => (p.1, a.eval p.2)).toArray := by
        apply Array.toList_inj.1; simp
      simp only [execOp, Sem.run_bind]
      rw [hps, hrun]
      rfl
    by_cases hn : n = 0
    · subst hn
      obtain ⟨d', hp', hk, hs⟩ := buildSliceV_sound tok (buildSliceV_vars h)
      exact ⟨_, _, hk.1, .loud (step hs) (fun _ => rfl) fun _ => Fr.of hk.2⟩
    · cases dr with
      | false =>
        obtain ⟨d', hp', hk, hs⟩ := buildSliceV_sound tok (buildSliceV_vars h)
        exact ⟨_, _, hk.1, .loud (step hs) (fun h => by cases h) fun _ => Fr.of hk.2⟩
      | true =>
      obtain ⟨d, hk, hall⟩ := buildSliceV_indep hn h
      refine ⟨_, _, hk, .calm fun hp2 _ => ?_⟩
      obtain ⟨d', hp', ⟨rfl, rfl⟩, hs⟩ := buildSliceV_sound tok (hall hp2)
      exact step hs
  · -- load
    rename_i t x
    obtain ⟨d', hk, hlt, hs⟩ := loadV_sound tok h
    have hun : ∀ j off, (ev x).un = .pt j off → ev x = .pt j off := by
      intro j off e
      cases hd : ev x with
      | opt b d => rw [hd] at h; cases h
      | _ => rw [hd] at e; first | exact e | cases e
    refine ⟨_, _, hk, .calmL (fun _ y hy j off e => hlt j off (hun j off (by rw [show y = x by simpa [Op.operands] using hy] at e; exact e))) fun hp2 hvv => .pure fun B g w a hr hx => ?_⟩
    obtain ⟨v, hrun, hd⟩ := hs hp2 B g w _ (fun j off e => hvv rfl x (by simp [Op.operands]) j off (by rw [e]; rfl)) hr (hx x (by simp [Op.operands]))
    exact ⟨v, by simp [execOp, hrun], hd⟩
  · -- store
    rename_i t x y
    obtain ⟨hp', hk, hs⟩ := storeV_sound tok h
    refine ⟨_, _, hk, .loud (fun B g w a Kn Q hr hx hkn => ?_) (fun _ => rfl) fun h => by cases h⟩
    obtain ⟨w', hrun, h1, h2, h3⟩ := hs B g w _ _ hr (hx x (by simp [Op.operands])) (hx y (by simp [Op.operands]))
    unfold Oper.wp
    have : (execOp a.eval ⟨dst, .store t x y, ty, pos, af, gd⟩).run P w = .ok .skip w' := by simp [execOp, hrun]
    rw [this]
    exact hkn undef g w' h1 h2 (.top _) h3 fun _ _ h => h
  · -- binOp
    rename_i op t x y yt
    obtain ⟨r, hk, h1, hs⟩ := binV_sound h
    refine ⟨_, _, hk, .calm fun hp2 hvv => .pure fun B g w a hr hx => ⟨r, ?_, .e _ _ (.lit r h1)⟩⟩
    have := hs hp2 g w a.eval (hx x (by simp [Op.operands])) (hx y (by simp [Op.operands]))
    simp only [execOp, Sem.run_bind] at this ⊢
    rw [this]
    rfl
  · -- unOp
    rename_i op t x
    obtain ⟨r, hk, h1, hs⟩ := unV_sound (P := P) h
    refine ⟨_, _, hk, .calm fun hp2 hvv => .pure fun B g w a hr hx => ⟨r, ?_, .e _ _ (.lit r h1)⟩⟩
    have := hs hp2 g w _ (hx x (by simp [Op.operands]))
    simp [execOp, this]
  · -- convert
    rename_i s t x
    obtain ⟨d', hk, hs⟩ := convV_sound tok h
    refine ⟨_, _, hk, .calm fun hp2 hvv => .pure fun B g w a hr hx => ?_⟩
    obtain ⟨v, hrun, hd⟩ := hs hp2 g w _ (hx x (by simp [Op.operands]))
    exact ⟨v, by simp [execOp, hrun], hd⟩
  · -- slice
    rename_i t x lo hi mx
    obtain ⟨d', hk, hs⟩ := sliceV_sound tok h
    refine ⟨_, _, hk, .calm fun hp2 hvv => .pure fun B g w a hr hx => ?_⟩
    obtain ⟨v, hrun, hd⟩ := hs hp2 g w a.eval (hx x (by simp [Op.operands])) (fun y hy => hx y (by
      simp only [Op.operands, Array.mem_append]
      rcases hy with rfl | rfl | rfl
      · exact .inl (.inl (.inr (by simp)))
      · exact .inl (.inr (by simp))
      · exact .inr (by simp)))
    exact ⟨v, by simp [execOp, hrun], hd⟩
  · -- fieldAddr
    rename_i s x f
    obtain ⟨d', hk, hs⟩ := fieldAddrV_sound tok h
    refine ⟨_, _, hk, .calm fun hp2 hvv => .pure fun B g w a hr hx => ?_⟩
    obtain ⟨v, hrun, hd⟩ := hs hp2 g w _ (hx x (by simp [Op.operands]))
    exact ⟨v, by simp [execOp, hrun], hd⟩
  · -- field
    rename_i s x f
    obtain ⟨d', hk, hs⟩ := fieldV_sound tok h
    refine ⟨_, _, hk, .calm fun hp2 hvv => .pure fun B g w a hr hx => ?_⟩
    obtain ⟨v, hrun, hd⟩ := hs hp2 g w _ (hx x (by simp [Op.operands]))
    exact ⟨v, by simp [execOp, hrun], hd⟩
  · -- indexAddr
    rename_i t x i
    obtain ⟨d', hk, hs⟩ := indexAddrV_sound tok h
    refine ⟨_, _, hk, .calm fun hp2 hvv => .pure fun B g w a hr hx => ?_⟩
    obtain ⟨v, hrun, hd⟩ := hs hp2 g w _ _ (hx x (by simp [Op.operands])) (hx i (by simp [Op.operands]))
    exact ⟨v, by simp [execOp, hrun], hd⟩
  · -- index
    rename_i t x i
    obtain ⟨d', hk, hs⟩ := indexV_sound tok h
    refine ⟨_, _, hk, .calm fun hp2 hvv => .pure fun B g w a hr hx => ?_⟩
    obtain ⟨v, hrun, hd⟩ := hs hp2 g w _ _ (hx x (by simp [Op.operands])) (hx i (by simp [Op.operands]))
    exact ⟨v, by simp [execOp, hrun], hd⟩
  · -- extract
    rename_i x i
    split at h
    · rename_i ds hd
      obtain ⟨d', hdi, hk⟩ := h
      refine ⟨_, _, hk, .calm fun hp2 hvv => .pure fun B g w a hr hx => ?_⟩
      have hv := hx x (by simp [Op.operands])
      rw [hd] at hv
      generalize hu : a.eval x = u at hv
      cases hv with
      | tu _ cs hl hrr =>
        have hlt : i < cs.size := by
          rw [hl]
          rcases Nat.lt_or_ge i ds.length with hh | hh
          · exact hh
          · rw [List.getElem?_eq_none hh] at hdi; cases hdi
        refine ⟨cs[i], by simp [execOp, hu, Instr.extract, hlt], hrr i d' _ hdi (Array.getElem?_eq_getElem hlt)⟩
    · cases h
  · -- call
    rename_i c
    obtain ⟨callee, args, ts⟩ := c
    dsimp only at h
    split at h
    · rename_i b
      unfold builtinV at h
      split at h
      · -- len
        rename_i t d hts hds
        obtain ⟨n, hk, hs⟩ := lenV_sound (P := P) tok h
        refine ⟨_, _, hk, .calm fun hp2 hvv => .pure fun B g w a hr hx => ?_⟩
        obtain ⟨x, rfl, rfl⟩ : ∃ x, args = #[x] ∧ ev x = d := by
          rcases args with ⟨_ | ⟨x, _ | ⟨y, l⟩⟩⟩ <;> simp at hds
          exact ⟨x, rfl, hds⟩
        obtain rfl : ts = #[t] := by
          apply Array.toList_inj.1; simpa using hts
        have := hs hp2 g w ty _ (hx x (mem_ops_call (by simp)))
        refine ⟨.int .i64 n, ?_, .e _ _ (.lit _ rfl)⟩
        simp [execOp, resolve, invoke, builtin, this]
      · -- min
        rename_i j m j' m' hds
        obtain ⟨x, y, rfl, h1, h2⟩ : ∃ x y, args = #[x, y] ∧ ev x = .e (.lit (.int j m)) ∧ ev y = .e (.lit (.int j' m')) := by
          rcases args with ⟨_ | ⟨x, _ | ⟨y, _ | ⟨z, l⟩⟩⟩⟩ <;> simp at hds
          exact ⟨x, y, rfl, hds⟩
        refine ⟨_, _, h, .calm fun hp2 _ => .pure fun B g w a hr hx => ?_⟩
        have e1 := hx x (mem_ops_call (by simp))
        have e2 := hx y (mem_ops_call (by simp))
        rw [h1] at e1
        rw [h2] at e2
        refine ⟨.int j (min m m'), ?_, .e _ _ (.lit _ rfl)⟩
        have hmin : (if m' < m then m' else m) = min m m' := by
          rw [Int.min_def]; split <;> split <;> omega
        simp [execOp, resolve, invoke, builtin, e1.lit, e2.lit, Builtin.min_, Builtin.min2, hmin]
      · -- max
        rename_i j m j' m' hds
        obtain ⟨x, y, rfl, h1, h2⟩ : ∃ x y, args = #[x, y] ∧ ev x = .e (.lit (.int j m)) ∧ ev y = .e (.lit (.int j' m')) := by
          rcases args with ⟨_ | ⟨x, _ | ⟨y, _ | ⟨z, l⟩⟩⟩⟩ <;> simp at hds
          exact ⟨x, y, rfl, hds⟩
        refine ⟨_, _, h, .calm fun hp2 _ => .pure fun B g w a hr hx => ?_⟩
        have e1 := hx x (mem_ops_call (by simp))
        have e2 := hx y (mem_ops_call (by simp))
        rw [h1] at e1
        rw [h2] at e2
        refine ⟨.int j (max m m'), ?_, .e _ _ (.lit _ rfl)⟩
        have hmax : (if m < m' then m' else m) = max m m' := by
          rw [Int.max_def]; split <;> split <;> omega
        simp [execOp, resolve, invoke, builtin, e1.lit, e2.lit, Builtin.max_, Builtin.max2, hmax]
      · -- append
        rename_i t t' s x hts hds
        have h := appendV_vars h
        obtain ⟨d', hp', hk, hs⟩ := appendV_sound tok h
        refine ⟨_, _, hk.1, .loud (.step fun B g w a hr hx => ?_) (fun _ => rfl) fun _ => Fr.of hk.2⟩
        obtain ⟨o1, o2, rfl, rfl, rfl⟩ : ∃ o1 o2, args = #[o1, o2] ∧ ev o1 = s ∧ ev o2 = x := by
          rcases args with ⟨_ | ⟨x, _ | ⟨y, _ | ⟨z, l⟩⟩⟩⟩ <;> simp at hds
          exact ⟨x, y, rfl, hds⟩
        obtain rfl : ts = #[t, t'] := by
          apply Array.toList_inj.1; simpa using hts
        obtain ⟨r, g', w', hrun, h1⟩ := hs B g w ty _ _ hr (hx o1 (mem_ops_call (by simp))) (hx o2 (mem_ops_call (by simp)))
        refine ⟨r, g', w', ?_, h1⟩
        simp [execOp, resolve, invoke, builtin, hrun]
      · cases h
    · rename_i x
      -- what is called, with what it has captured
      have enter : ∀ {f : FuncId} {caps : List D} {cvs : Gh → List Value}, (∀ (g : Gh) (w : World), Pw (RepD hp g w) caps (cvs g)) → callV P (hvB tb ⟨.value x, args, ts⟩) f (args.toList.map ev ++ caps) hp k →
          (∀ (g : Gh) (w : World) (u : Value), RepD hp g w (ev x) u → u = .func (.func f) #[] (cvs g).toArray) → ∃ d hp', k d hp' ∧ Snd P tb dr ⟨dst, .call ⟨.value x, args, ts⟩, ty, pos, af, gd⟩ ev hp d hp' := by
        intro f caps cvs hcaps h hfv
        obtain ⟨d, hp', hk, hvars, ⟨fn, hf, hn, hbody⟩, hc⟩ := callV_sound hcaps h
        refine ⟨_, _, hk, .loud (fun B g w a Kn Q hr hx hkn => ?_) (fun _ => rfl) fun h => hvars h⟩
        have hv := hfv g w _ (hx x (by simp [Op.operands, Call.operands]))
        have hcall := hc B g w a.eval hr (fun y hy => hx y (mem_ops_call (by simpa using hy)))
        have hargs : (args.map a.eval ++ (cvs g).toArray) = (args.toList.map a.eval ++ cvs g).toArray := by apply Array.toList_inj.1; simp
        refine enter_wp (R := fun v w' => ∃ g', HR B hp' g' w' ∧ Mono hp g w hp' g' w' ∧ RepD hp' g' w' d v ∧ Below B w w' ∧ ∀ p : Addr, p.block < B → g.F p → g'.F p) ?_ (hcall.mono ?_) ?_
        · have hn' : fn.name ≠ "runtime.NumGoroutine" := by simpa using hn
          have hb' : ¬ fn.body = none := fun e => by rw [e] at hbody; cases hbody
          have hcf : (callFunc f (args.toList.map a.eval ++ cvs g).toArray).run P w = .ok (.enter f (args.toList.map a.eval ++ cvs g).toArray) w := by
            simp [callFunc, hf, hn', hb']
          rw [← hcf, ← hargs]
          simp [execOp, resolve, invoke, Deferred.ofValue, hv]
        · rintro e w' ⟨v, g', rfl, h1⟩
          exact ⟨v, rfl, g', h1⟩
        · rintro v w' ⟨g', h1, h2, h3, h4, h5⟩
          exact hkn v g' w' h1 h2 h3 h4 h5
      unfold calleeV at h
      split at h
      · rename_i f fi ca hx0
        obtain ⟨hfi, hca, h⟩ := h
        obtain rfl := Array.eq_empty_of_size_eq_zero hfi
        obtain rfl := Array.eq_empty_of_size_eq_zero hca
        refine enter (caps := []) (cvs := fun _ => []) (fun _ _ => Pw.nil) (by simpa using h) (fun g w u hu => ?_)
        rw [hx0] at hu
        exact hu.lit
      · rename_i f ks hx0
        have hks : ∀ (g : Gh) (w : World) (u : Value), RepD hp g w (.fn f ks) u → (∀ k ∈ ks, k < hp.next) ∧ u = .func (.func f) #[] (ks.map fun k => Value.pointer (some ⟨g.μ k, 0, none⟩)).toArray := by
          intro g w u hu
          cases hu with
          | fn _ _ hk => exact ⟨hk, rfl⟩
        by_cases hk : ∀ k ∈ ks, k < hp.next
        · refine enter (caps := ks.map fun k => .pt k 0) (cvs := fun g => ks.map fun k => Value.pointer (some ⟨g.μ k, 0, none⟩)) (fun g w => ⟨by simp, fun j d u hd hu => ?_⟩) h (fun g w u hu => ?_)
          · rw [List.getElem?_map] at hd hu
            cases hj : ks[j]? with
            | none => simp [hj] at hd
            | some kk =>
              simp only [hj, Option.map_some, Option.some.injEq] at hd hu
              subst hd; subst hu
              exact .pt kk 0 (hk kk (List.mem_of_getElem? hj))
          · rw [hx0] at hu
            exact (hks g w u hu).2
        · -- such a value stands for nothing
          rcases h with ⟨hpure, _⟩ | ⟨hvt, d, hp', _, hkk⟩
          · exfalso
            apply hk
            intro k hkm
            rw [List.map_append, List.all_append, Bool.and_eq_true] at hpure
            have := hpure.2
            simp only [List.all_eq_true, List.mem_map] at this
            have := this (D.pt k 0).ex ⟨.pt k 0, ⟨k, hkm, rfl⟩, rfl⟩
            cases this
          refine ⟨d, hp', hkk, .loud (fun B g w a Kn Q hr hx hkn => ?_) (fun _ => rfl) fun h => ?_⟩
          rotate_left
          · have h' : hvB tb ⟨.value x, args, ts⟩ = false := h
            rw [hvt] at h'; cases h'
          have := hx x (by simp [Op.operands, Call.operands])
          rw [hx0] at this
          exact absurd (hks g w _ this).1 hk
      · cases h
    · cases h
  · -- nilCheck
    rename_i x
    unfold nilV at h
    split at h
    · rename_i j off hx0
      refine ⟨_, _, h, .calm fun hp2 _ => .pure fun B g w a hr hx => ⟨a.eval x, ?_, ?_⟩⟩
      · have hv := hx x (by simp [Op.operands])
        rw [hx0] at hv
        generalize hu : a.eval x = u at hv
        cases hv
        simp [execOp, hu]
      · have hv := hx x (by simp [Op.operands])
        rwa [hx0] at hv
    · rename_i xs off hx0
      refine ⟨_, _, h, .calm fun hp2 _ => .pure fun B g w a hr hx => ⟨a.eval x, ?_, ?_⟩⟩
      · have hv := hx x (by simp [Op.operands])
        rw [hx0] at hv
        generalize hu : a.eval x = u at hv
        cases hv
        simp [execOp, hu]
      · have hv := hx x (by simp [Op.operands])
        rwa [hx0] at hv
    · cases h
  · -- makeFunc
    rename_i fn first cs
    unfold makeFuncV at h
    split at h
    · rename_i f
      obtain ⟨hfirst, h⟩ := h
      obtain rfl := Array.eq_empty_of_size_eq_zero hfirst
      split at h
      · rename_i hcs
        have hce : cs = #[] := by
          apply Array.toList_inj.1
          simpa using hcs
        subst hce
        exact ⟨_, _, h, .calm fun hp2 _ => .pure fun B g w a hr hx => ⟨_, by simp [execOp, Instr.makeFunc], .e _ _ (.lit _ rfl)⟩⟩
      · split at h
        · rename_i ks hks
          refine ⟨_, _, h, .calm fun hp2 _ => .pure fun B g w a hr hx => ?_⟩
          have caps : ∀ (l : List Operand) (ks : List Nat), capsV (l.map ev) = some ks → (∀ y ∈ l, RepD hp2 g w (ev y) (a.eval y)) → l.map a.eval = (ks.map fun k => Value.pointer (some ⟨g.μ k, 0, none⟩)) ∧ ∀ k ∈ ks, k < hp2.next := by
            intro l
            induction l with
            | nil =>
              intro ks h _
              simp only [List.map_nil, capsV, Option.some.injEq] at h
              subst h
              exact ⟨rfl, by simp⟩
            | cons y l ih =>
              intro ks h hy
              simp only [List.map_cons] at h
              unfold capsV at h
              split at h
              · rename_i heq; cases heq
              · rename_i k ds heq
                injection heq with e1 e2
                subst e2
                cases hl : capsV (l.map ev) with
                | none => simp [hl] at h
                | some ks' =>
                  simp only [hl, Option.map_some, Option.some.injEq] at h
                  subst h
                  obtain ⟨h1, h2⟩ := ih ks' hl (fun z hz => hy z (List.mem_cons_of_mem _ hz))
                  have hv := hy y (List.mem_cons_self ..)
                  rw [e1] at hv
                  generalize hu : a.eval y = u at hv
                  cases hv with
                  | pt _ _ hk =>
                    refine ⟨by simp [hu, h1], fun k' hk' => ?_⟩
                    rcases List.mem_cons.1 hk' with rfl | hk'
                    · exact hk
                    · exact h2 k' hk'
              · cases h
          obtain ⟨h1, h2⟩ := caps cs.toList ks hks (fun y hy => hx y (by
            simp only [Op.operands]
            exact Array.mem_append.2 (.inr (by simpa using hy))))
          refine ⟨_, ?_, .fn f ks h2⟩
          have : cs.map a.eval = (ks.map fun k => Value.pointer (some ⟨g.μ k, 0, none⟩)).toArray := by
            apply Array.toList_inj.1
            simpa using h1
          simp [execOp, Instr.makeFunc, this]
        · cases h
    · cases h
  · cases h
end
end Go.Proofs.Ytakbadleipbngaa
