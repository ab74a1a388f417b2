/-
  The abstract layer: a region walked operation by operation. Conditions: none.
-/
import Derived.Test.YtakbadleipbngaaAbD
set_option linter.all false
namespace Go.Proofs.Ytakbadleipbngaa
open Go.RowKit
/-- What an operation yields, and the state behind it. -/
structure Kq (d : D) (hp : Hp) (d2 : D) (hp2 : Hp) : Prop where
  d : d2 = d
  hp : hp2 = hp
theorem Kq.here (d : D) (hp : Hp) : Kq d hp d hp := ⟨rfl, rfl⟩
theorem bq_t (c : Bool) : (c == true) = c := by cases c <;> rfl
theorem bq_f (c : Bool) : (c == false) = !c := by cases c <;> rfl
theorem un_opt (b : Bool) (d : D) : (D.opt b d).un = bif b then d.un else .top := rfl
theorem un_e (x : E) : (D.e x).un = .e x := rfl
theorem un_own (id z n : Nat) (xs : List E) : (D.own id z n xs).un = .own id z n xs := rfl
theorem un_fu (z n : Nat) (xs : List E) : (D.fu z n xs).un = .fu z n xs := rfl
theorem un_ag (ds : List D) : (D.ag ds).un = .ag ds := rfl
theorem un_tu (ds : List D) : (D.tu ds).un = .tu ds := rfl
theorem un_fp (xs : List E) (off : Nat) : (D.fp xs off).un = .fp xs off := rfl
theorem un_pt (k off : Nat) : (D.pt k off).un = .pt k off := rfl
theorem un_ow (k off z n : Nat) : (D.ow k off z n).un = .ow k off z n := rfl
theorem un_fn (f : FuncId) (ks : List Nat) : (D.fn f ks).un = .fn f ks := rfl
def evU (tm : List (Nat × D)) (x : Operand) : D := (evD tm x).un
theorem eu_tmp (tm : List (Nat × D)) (t : Tmp) : evU tm (.tmp t) = ((tm.lookup t).getD .top).un := rfl
theorem ev_func (tm : List (Nat × D)) (f : FuncId) : evD tm (.func f) = .e (.lit (.func (.func f) #[] #[])) := rfl
theorem eu_func (tm : List (Nat × D)) (f : FuncId) : evU tm (.func f) = .e (.lit (.func (.func f) #[] #[])) := rfl
theorem eu_const (tm : List (Nat × D)) (v : Value) : evU tm (.const v) = (constD v).un := rfl
section
variable {P : Program} {tb : TypeId → Option TyE} {dr : Bool} {md : Md}
theorem OpOk.un {o : Oper} {ev : Operand → D} {hp hp' : Hp} {d : D} (h : OpOk P o (fun x => (ev x).un) hp d hp') : OpOk P o ev hp d hp' :=
  fun B g w a Kn Q hr hx hk => h B g w a Kn Q hr (fun x hxx => (hx x hxx).un) hk
theorem SndQ.un {o : Oper} {ev : Operand → D} {hp hp' : Hp} {d : D} (h : SndQ P tb md o (fun x => (ev x).un) hp d hp') : SndQ P tb md o ev hp d hp' :=
  ⟨h.ok.un, fun h1 => ⟨(h.quiet h1).1, fun hp2 h3 => ((h.quiet h1).2 hp2 fun hl x hx j off e => h3 hl x hx j off (by dsimp only at e; rw [un_un] at e; exact e)).un⟩, h.fr, fun hl x hx j off e => h.lk hl x hx j off (by dsimp only; rw [un_un]; exact e)⟩
/-- What stands under a guard: data, or the address of a variable that an operand names. -/
def OptIds (op : Op) (ev : Operand → D) (d : D) : Prop := (D.opt true d).idsC 0 = true ∨ ∃ (k off off' : Nat) (x : Operand), d = .pt k off ∧ x ∈ op.operands ∧ (ev x = .pt k off' ∨ ∃ b, ev x = .opt b (.pt k off'))
theorem OptIds.ids {op : Op} {ev : Operand → D} {d : D} (h : OptIds op ev d) {hp : Hp} {g : Gh} {w : World} {a : Act} (hx : ∀ x ∈ op.operands, RepD hp g w (ev x) (a.eval x)) (b : Bool) : (D.opt b d).idsC hp.next = true := by
  rcases h with h | ⟨k, off, off', x, rfl, h1, h2⟩
  · have : (D.opt b d).idsC 0 = true := by cases d <;> exact h
    exact D.idsC_le (Nat.zero_le _) this
  · have h3 := hx x h1
    rcases h2 with h2 | ⟨b, h2⟩
    · rw [h2] at h3
      generalize a.eval x = u at h3
      cases h3 with
      | pt _ _ hk => exact (decide_eq_true hk : decide (k < hp.next) = true)
    · rw [h2] at h3
      generalize a.eval x = u at h3
      cases h3 with
      | opt _ _ _ hi _ => exact hi
theorem OpOk.opt {o : Oper} {ev : Operand → D} {hp : Hp} {d : D} (h : OpOk P o ev hp d hp) (hi : OptIds o.op ev d) : OpOk P o ev hp (.opt true d) hp :=
  fun B g w a Kn Q hr hx hk => h B g w a Kn Q hr hx fun v g' w' h1 h2 h3 h4 h5 => hk v g' w' h1 h2 (.opt _ _ _ (hi.ids hx _) fun _ => h3) h4 h5
theorem SndQ.opt {o : Oper} {ev : Operand → D} {hp : Hp} {d : D} (h : SndQ P tb md o ev hp d hp) (hi : OptIds o.op ev d) : SndQ P tb md o ev hp (.opt true d) hp :=
  ⟨h.ok.opt hi, fun h1 => ⟨rfl, fun hp2 h3 => ((h.quiet h1).2 hp2 h3).opt hi⟩, fun _ => Fr.refl _, h.lk⟩
variable {ops : Array Oper} {K : List (Nat × D) → Hp → Prop} {os : List Oper} {tm : List (Nat × D)} {hp hp' : Hp} {t : Tmp} {dst : Option Tmp} {op : Op} {ty : TypeId} {pos : String} {af : Array Edge} {d : D}
theorem AVC.snd (tok : TOk P tb) {o : Oper} {ev : Operand → D} (h : AVC P tb dr o.op o.type ev hp (Kq d hp')) : Snd P tb dr o ev hp d hp' := by
  obtain ⟨d2, hp2, ⟨rfl, rfl⟩, hs⟩ := AVC.sound tok h
  exact hs
theorem st_Q {g : Option (Nat × Bool)} (hg : g = none) (h : SndQ P tb md ⟨dst, op, ty, pos, af, g⟩ (evD tm) hp d hp') (h2 : SOps P tb md ops K os (putD dst d tm) hp') : SOps P tb md ops K (⟨dst, op, ty, pos, af, g⟩ :: os) tm hp := by
  subst hg
  exact .on d hp' rfl h h2
theorem st (tok : TOk P tb) (hn : md.nc tb op = true) (h : AVC P tb md.dr op ty (evD tm) hp (Kq d hp')) (h2 : SOps P tb md ops K os ((t, d) :: tm) hp') : SOps P tb md ops K (⟨some t, op, ty, pos, af, none⟩ :: os) tm hp :=
  st_Q rfl ((AVC.snd tok (o := ⟨some t, op, ty, pos, af, none⟩) h).q hn) h2
theorem st_n (tok : TOk P tb) (hn : md.nc tb op = true) (h : AVC P tb md.dr op ty (evD tm) hp (Kq d hp')) (h2 : SOps P tb md ops K os tm hp') : SOps P tb md ops K (⟨none, op, ty, pos, af, none⟩ :: os) tm hp :=
  st_Q rfl ((AVC.snd tok (o := ⟨none, op, ty, pos, af, none⟩) h).q hn) h2
/-- A listed function, called with data: its result is data. -/
theorem q_call (tok : TOk P tb) {g : Option (Nat × Bool)} {f : FuncId} {as : List Operand} {ts : Array TypeId} {ev : Operand → D} {r : D} (hev : ev (.func f) = .e (.lit (.func (.func f) #[] #[]))) (hc : PCalls P f ((as.map ev).map D.ex) r) (hp1 : ((as.map ev).map D.ex).all D.pure = true) (hr : r.pure = true ∨ ∃ ds, r = .tu ds) :
    SndQ P tb md ⟨dst, .call ⟨.value (.func f), as.toArray, ts⟩, ty, pos, af, g⟩ ev hp r hp := by
  have key : ∀ hp2 : Hp, OpOk P ⟨dst, .call ⟨.value (.func f), as.toArray, ts⟩, ty, pos, af, g⟩ ev hp2 r hp2 := fun hp2 =>
    (AVC.snd (dr := true) tok (o := ⟨dst, .call ⟨.value (.func f), as.toArray, ts⟩, ty, pos, af, g⟩) (ev := ev) (hp := hp2) (d := r) (hp' := hp2) (by
      show calleeV P (hvB tb ⟨.value (.func f), as.toArray, ts⟩) (ev (.func f)) (as.toArray.toList.map ev) hp2 (Kq r hp2)
      rw [hev]
      refine ⟨rfl, rfl, .inl ⟨hp1, r, hc, ?_⟩⟩
      unfold adoptV
      split
      · rcases hr with hr | ⟨_, hr⟩ <;> cases hr
      · rcases hr with hr | ⟨_, hr⟩ <;> cases hr
      · exact Kq.here _ _)).ok
  exact ⟨key hp, fun _ => ⟨rfl, fun hp2 _ => key hp2⟩, fun _ => Fr.refl _, fun h => by cases h⟩
variable {j : Nat} {want c : Bool} {s : Tmp}
/-- A guard that holds. -/
theorem st_on (hj : (ops[j]?).bind (·.dst) = some s) (hc : tm.lookup s = some (.e (.lit (.bool c)))) (hw : (c == want) = true) (h : SndQ P tb md ⟨dst, op, ty, pos, af, some (j, want)⟩ (evD tm) hp d hp') (h2 : SOps P tb md ops K os (putD dst d tm) hp') : SOps P tb md ops K (⟨dst, op, ty, pos, af, some (j, want)⟩ :: os) tm hp :=
  .on d hp' (.inl ⟨s, c, hj, hc, hw⟩) h h2
theorem st_off (hj : (ops[j]?).bind (·.dst) = some s) (hc : tm.lookup s = some (.e (.lit (.bool c)))) (hw : (c == want) = false) (h2 : SOps P tb md ops K os (putD dst .top tm) hp) : SOps P tb md ops K (⟨dst, op, ty, pos, af, some (j, want)⟩ :: os) tm hp :=
  .off .top (.inl ⟨s, c, hj, hc, hw⟩) (fun _ _ _ _ _ => .top _) h2
/-- A guard that may hold or not. -/
theorem st_optQ (hj : (ops[j]?).bind (·.dst) = some s) (hc : tm.lookup s = some (.e (.lit (.bool c)))) {b : Bool} (hb : (c == want) = b) (h : b = true → SndQ P tb md ⟨some t, op, ty, pos, af, some (j, want)⟩ (evU tm) hp d hp) (hi : OptIds op (evD tm) d)
    (h2 : SOps P tb md ops K os ((t, .opt b d) :: tm) hp) : SOps P tb md ops K (⟨some t, op, ty, pos, af, some (j, want)⟩ :: os) tm hp := by
  cases b with
  | true => exact .on _ _ (.inl ⟨s, c, hj, hc, hb⟩) (((h rfl).un).opt hi) h2
  | false =>
    exact .off (.opt false d) (.inl ⟨s, c, hj, hc, hb⟩) (fun hp g w a hx => .opt _ _ _ (hi.ids hx _) fun h => by cases h) h2
theorem Snd.q1 {o : Oper} {ev : Operand → D} {hp hp' : Hp} {d : D} (h : Snd P tb true o ev hp d hp') (hn : md.nc tb o.op = true) : SndQ P tb md o ev hp d hp' := by
  cases md with
  | seq => exact ⟨h.ok, fun hq => (by cases hq), h.fr, h.lk⟩
  | any L => exact Snd.q (md := .any L) h hn
theorem st_opt (tok : TOk P tb) (hn : md.nc tb op = true) (hj : (ops[j]?).bind (·.dst) = some s) (hc : tm.lookup s = some (.e (.lit (.bool c)))) {b : Bool} (hb : (c == want) = b) (h : b = true → AVC P tb true op ty (evU tm) hp (Kq d hp)) (hi : OptIds op (evD tm) d)
    (h2 : SOps P tb md ops K os ((t, .opt b d) :: tm) hp) : SOps P tb md ops K (⟨some t, op, ty, pos, af, some (j, want)⟩ :: os) tm hp :=
  st_optQ hj hc hb (fun h' => (AVC.snd tok (dr := true) (o := ⟨some t, op, ty, pos, af, some (j, want)⟩) (h h')).q1 hn) hi h2
theorem st_pickB (tok : TOk P tb) {cn x y : Operand} {b : Bool} {r : Value} (hc : evD tm cn = .e (.lit (.bool b))) (h1 : b = true → (evD tm x).un = .e (.lit r)) (h0 : b = false → (evD tm y).un = .e (.lit r)) (h2 : SOps P tb md ops K os ((t, .e (.lit r)) :: tm) hp) :
    SOps P tb md ops K (⟨some t, .pick cn x y, ty, pos, af, none⟩ :: os) tm hp := by
  refine .on _ _ rfl (SndQ.un ((AVC.snd (dr := md.dr) tok (o := ⟨some t, .pick cn x y, ty, pos, af, none⟩) (d := .e (.lit r)) (hp' := hp) ?_).q (by cases md <;> rfl))) h2
  show pickV ((evD tm cn).un) ((evD tm x).un) ((evD tm y).un) (fun d => Kq _ _ d hp)
  rw [hc]
  cases b with
  | true => rw [h1 rfl]; exact Kq.here _ _
  | false => rw [h0 rfl]; exact Kq.here _ _
theorem st_and (tok : TOk P tb) {cn x : Operand} {b q : Bool} (hc : evD tm cn = .e (.lit (.bool b))) (h1 : b = true → (evD tm x).un = .e (.lit (.bool q))) (h2 : SOps P tb md ops K os ((t, .e (.lit (.bool (b && q)))) :: tm) hp) :
    SOps P tb md ops K (⟨some t, .pick cn x (.const (.bool false)), ty, pos, af, none⟩ :: os) tm hp :=
  st_pickB tok hc (fun h => by rw [h1 h, h]; rfl) (fun h => by rw [h]; rfl) h2
theorem st_or (tok : TOk P tb) {cn y : Operand} {b q : Bool} (hc : evD tm cn = .e (.lit (.bool b))) (h1 : b = false → (evD tm y).un = .e (.lit (.bool q))) (h2 : SOps P tb md ops K os ((t, .e (.lit (.bool (b || q)))) :: tm) hp) :
    SOps P tb md ops K (⟨some t, .pick cn (.const (.bool true)) y, ty, pos, af, none⟩ :: os) tm hp :=
  st_pickB tok hc (fun h => by rw [h]; rfl) (fun h => by rw [h1 h, h]; rfl) h2
/-! ### What an operation does, as equations -/
variable {ev : Operand → D} {k : D → Hp → Prop}
theorem av_move (x : Operand) : AVC P tb dr (.move x) ty ev hp k = k (ev x) hp := Eq.trans rfl rfl
theorem av_assign (x : Operand) : AVC P tb dr (.assign x) ty ev hp k = asgV tb ty (ev x) hp k := Eq.trans rfl rfl
theorem av_pick (c x y : Operand) : AVC P tb dr (.pick c x y) ty ev hp k = pickV (ev c) (ev x) (ev y) (atHp k hp) := Eq.trans rfl rfl
theorem av_alloc (t : TypeId) : AVC P tb dr (.alloc t) ty ev hp k = allocV tb t hp k := Eq.trans rfl rfl
theorem av_box (t : TypeId) (x : Operand) : AVC P tb dr (.box t x) ty ev hp k = boxV (ev x) hp k := Eq.trans rfl rfl
theorem av_build (t : TypeId) (ps : List (Nat × Operand)) : AVC P tb dr (.build t ps.toArray) ty ev hp k = buildV tb t (ps.map fun p => (p.1, ev p.2)) (atHp k hp) := Eq.trans rfl rfl
theorem av_buildSlice (t : TypeId) (n : Nat) (ps : List (Nat × Operand)) : AVC P tb dr (.buildSlice t n ps.toArray) ty ev hp k = buildSliceV tb (!dr) t n (ps.map fun p => (p.1, ev p.2)) hp k := Eq.trans rfl rfl
theorem av_load (t : TypeId) (x : Operand) : AVC P tb dr (.load t x) ty ev hp k = loadV tb t (ev x) hp (atHp k hp) := Eq.trans rfl rfl
theorem av_store (t : TypeId) (x y : Operand) : AVC P tb dr (.store t x y) ty ev hp k = storeV tb t (ev x) (ev y) hp k := Eq.trans rfl rfl
theorem av_binOp (o : BinOp) (t t' : TypeId) (x y : Operand) : AVC P tb dr (.binOp o t x y t') ty ev hp k = binV P o t (ev x) (ev y) (atLit k hp) := Eq.trans rfl rfl
theorem av_unOp (o : UnOp) (t : TypeId) (x : Operand) : AVC P tb dr (.unOp o t x) ty ev hp k = unV o (ev x) (atLit k hp) := Eq.trans rfl rfl
theorem av_convert (s t : TypeId) (x : Operand) : AVC P tb dr (.convert s t x) ty ev hp k = convV tb s t (ev x) (atHp k hp) := Eq.trans rfl rfl
theorem conv_eq (s t : TypeId) (d : D) (kf : D → Prop) : convV tb s t d kf = (match tb s, tb t with
  | some i, some j => match j.ty, d with
    | .int jk, .e (.lit (.int _ n)) => kf (.e (.lit (.int jk (jk.wrap n))))
    | .str, .e (.lit (.string s)) => kf (.e (.lit (.string s)))
    | .str, d => match i.ty with
      | .slice e => match tb e with
        | some l => l.ty = .int .u8 ∧ match d.asSl 1 with
          | some (_, xs) => match bytesOf xs with
            | some bs => kf (.e (.lit (.string ⟨bs.toArray⟩)))
            | none => False
          | none => False
        | none => False
      | _ => False
    | _, _ => False
  | _, _ => False) := Eq.trans rfl rfl
theorem bytesOf_nil : bytesOf [] = some [] := rfl
theorem bytesOf_cons (n : Int) (xs : List E) : bytesOf (.lit (.int .u8 n) :: xs) = (bytesOf xs).map (UInt8.ofNat n.toNat :: ·) := by
  simp only [bytesOf, byteOf]
  cases bytesOf xs <;> rfl
theorem bytesOf_map : ∀ (l : List UInt8), bytesOf (l.map fun b => .lit (bv b)) = some l
  | [] => rfl
  | b :: l => by
    rw [List.map_cons, bv, bytesOf_cons, bytesOf_map l]
    simp
theorem av_slice (t : TypeId) (x : Operand) (lo hi mx : Option Operand) : AVC P tb dr (.slice t x lo hi mx) ty ev hp k = sliceV tb t (ev x) (lo.map ev) (hi.map ev) (mx.map ev) (atHp k hp) := Eq.trans rfl rfl
theorem av_fieldAddr (t : TypeId) (x : Operand) (f : Nat) : AVC P tb dr (.fieldAddr t x f) ty ev hp k = fieldAddrV tb t f (ev x) (atHp k hp) := Eq.trans rfl rfl
theorem av_field (t : TypeId) (x : Operand) (f : Nat) : AVC P tb dr (.field t x f) ty ev hp k = fieldV tb t f (ev x) (atHp k hp) := Eq.trans rfl rfl
theorem av_indexAddr (t : TypeId) (x i : Operand) : AVC P tb dr (.indexAddr t x i) ty ev hp k = indexAddrV tb t (ev x) (ev i) (atHp k hp) := Eq.trans rfl rfl
theorem av_index (t : TypeId) (x i : Operand) : AVC P tb dr (.index t x i) ty ev hp k = indexV tb t (ev x) (ev i) (atHp k hp) := Eq.trans rfl rfl
theorem av_extract (x : Operand) (i : Nat) : AVC P tb dr (.extract x i) ty ev hp k = extractV (ev x) i (atHp k hp) := Eq.trans rfl rfl
theorem av_len (x : List Operand) (ts : List TypeId) : AVC P tb dr (.call ⟨.builtin .len, x.toArray, ts.toArray⟩) ty ev hp k = builtinV tb .len ts (x.map ev) hp k := Eq.trans rfl rfl
theorem av_builtin (b : Builtin) (as : List Operand) (ts : List TypeId) : AVC P tb dr (.call ⟨.builtin b, as.toArray, ts.toArray⟩) ty ev hp k = builtinV tb b ts (as.map ev) hp k := Eq.trans rfl rfl
theorem av_call (f : FuncId) (as : List Operand) (ts : Array TypeId) : AVC P tb dr (.call ⟨.value (.func f), as.toArray, ts⟩) ty (evD tm) hp k = (0 = 0 ∧ 0 = 0 ∧ callV P (hvB tb ⟨.value (.func f), as.toArray, ts⟩) f (as.map (evD tm)) hp k) := Eq.trans rfl rfl
theorem av_callU (f : FuncId) (as : List Operand) (ts : Array TypeId) : AVC P tb dr (.call ⟨.value (.func f), as.toArray, ts⟩) ty (evU tm) hp k = (0 = 0 ∧ 0 = 0 ∧ callV P (hvB tb ⟨.value (.func f), as.toArray, ts⟩) f (as.map (evU tm)) hp k) := Eq.trans rfl rfl
theorem av_calltmp (t : Tmp) (as : List Operand) (ts : Array TypeId) : AVC P tb dr (.call ⟨.value (.tmp t), as.toArray, ts⟩) ty ev hp k = calleeV P true (ev (.tmp t)) (as.map ev) hp k := Eq.trans rfl rfl
theorem av_nilCheck (x : Operand) : AVC P tb dr (.nilCheck x) ty ev hp k = nilV (ev x) (atHp k hp) := Eq.trans rfl rfl
theorem av_makeFunc (fn : Fn) (first cs : List Operand) : AVC P tb dr (.makeFunc fn first.toArray cs.toArray) ty ev hp k = makeFuncV fn first.length (cs.map ev) (atHp k hp) := Eq.trans rfl rfl
end
theorem HpOk.nil : HpOk ⟨[], [], 0⟩ := ⟨fun _ _ h => by simp at h, fun _ _ h => by simp at h⟩
/-- Arguments that know no less. -/
def leL : List D → List D → Prop
  | [], [] => True
  | d :: ds, d' :: ds' => d.le d' ∧ leL ds ds'
  | _, _ => False
theorem leL_get : ∀ {ds ds' : List D}, leL ds ds' → ds'.length = ds.length ∧ ∀ {j : Nat} {d' : D}, ds'[j]? = some d' → ∃ d, ds[j]? = some d ∧ d.le d'
  | [], [], _ => ⟨rfl, fun h => by simp at h⟩
  | d :: ds, d' :: ds', h => ⟨by simp [(leL_get h.2).1], fun {j} {e} he => by
    cases j with
    | zero => exact ⟨d, rfl, by have : d' = e := by simpa using he
                                rw [← this]; exact h.1⟩
    | succ j => exact (leL_get h.2).2 (by simpa using he)⟩
  | [], _ :: _, h => h.elim
  | _ :: _, [], h => h.elim
theorem PCalls.le {P : Program} {f : FuncId} {ds ds' : List D} {r : D} (hc : PCalls P f ds' r) (h : leL ds ds') : PCalls P f ds r := by
  obtain ⟨hlen, hget⟩ := leL_get h
  refine ⟨hc.1, fun w F vs hF hsz hvs => hc.2 w F vs hF (by rw [hsz, hlen]) fun j d' u hd hu => ?_⟩
  obtain ⟨d, hd0, hle⟩ := hget hd
  exact RepD.le (hvs j d u hd0 hu) hle
/-- A function that was given variables comes to its end. -/
theorem retH1 {x : Cx} {tb : TypeId → Option TyE} {tm : List (Nat × D)} {hp hp' : Hp} {t : Tmp} {d r : D} (_ht : tm.lookup t = some d) (he : r = d.ex) (hw : Wk x tm hp [(t, d.ex)] hp') : ∃ tm', Wk x tm hp tm' hp' ∧ RetH tb [.tmp t] tm' hp' r :=
  ⟨_, hw, _, lookup_cons_eq, he⟩
theorem retH2 {x : Cx} {tb : TypeId → Option TyE} {tm : List (Nat × D)} {hp hp' : Hp} {t t' : Tmp} {d d' r : D} (_ht : tm.lookup t = some d) (_ht' : tm.lookup t' = some d') (hne : t' ≠ t) (he : r = .tu [d.ex, d'.ex]) (hw : Wk x tm hp [(t, d.ex), (t', d'.ex)] hp') : ∃ tm', Wk x tm hp tm' hp' ∧ RetH tb [.tmp t, .tmp t'] tm' hp' r :=
  ⟨_, hw, _, lookup_cons_eq, _, (lookup_cons_ne hne).trans lookup_cons_eq, he⟩
/-- Only these temporaries are kept. -/
def keepO (o : Option D) (t : Nat) (r : List (Nat × D)) : List (Nat × D) := match o with
  | some d => (t, d) :: r
  | none => r
def keepT (tm : List (Nat × D)) : List Nat → List (Nat × D)
  | [] => []
  | t :: l => keepO (tm.lookup t) t (keepT tm l)
theorem keepT_nil (tm : List (Nat × D)) : keepT tm [] = [] := rfl
theorem keepT_cons (tm : List (Nat × D)) (t : Nat) (l : List Nat) : keepT tm (t :: l) = keepO (tm.lookup t) t (keepT tm l) := rfl
theorem keepO_some (d : D) (t : Nat) (r : List (Nat × D)) : keepO (some d) t r = (t, d) :: r := rfl
theorem keepO_none (t : Nat) (r : List (Nat × D)) : keepO none t r = r := rfl
theorem keepT_look {tm : List (Nat × D)} : ∀ {l : List Nat} {t : Nat} {d : D}, (keepT tm l).lookup t = some d → tm.lookup t = some d
  | [], t, d, h => by simp [keepT] at h
  | s :: l, t, d, h => by
    unfold keepT keepO at h
    split at h
    · rename_i e hs
      by_cases hts : t = s
      · subst hts
        have : some e = some d := by rw [← h]; exact lookup_cons_eq.symm
        rw [hs, this]
      · exact keepT_look (l := l) (by rw [← h]; exact (lookup_cons_ne hts).symm)
    · exact keepT_look h
theorem AW.keep {P : Program} {x : Cx} {c : Code} {tm : List (Nat × D)} {hp : Hp} {Q : Exit → List (Nat × D) → Hp → Prop} (l : List Nat) (h : AW P x c (keepT tm l) hp Q) : AW P x c tm hp Q :=
  AW.weak (fun _ _ ⟨g, h1, h2, h3⟩ => ⟨g, h1, fun t d ht => h2 t d (keepT_look ht), h3⟩) h
/-- Ways that come together again. -/
theorem AW.join {P : Program} {x : Cx} {c c' : Code} {tm : List (Nat × D)} {hp : Hp} {Q : Exit → List (Nat × D) → Hp → Prop} (tmJ : List (Nat × D)) (hpJ : Hp) (h1 : AW P x c tm hp fun ex tm' hp' => match ex with | .normal => Wk x tm' hp' tmJ hpJ | ex => Q ex tm' hp') (h2 : AW P x c' tmJ hpJ Q) :
    AW P x c tm hp fun ex tm' hp' => match ex with | .normal => AW P x c' tm' hp' Q | ex => Q ex tm' hp' := by
  refine AW.mono h1 ?_
  intro ex tm2 hp2 h
  cases ex with
  | normal => exact AW.weak h h2
  | _ => exact h
/-- A region whose operations stand as a list. -/
theorem AW.regS {P : Program} {x : Cx} {tm : List (Nat × D)} {hp : Hp} {Q : Exit → List (Nat × D) → Hp → Prop} (tb : TypeId → Option TyE) {id : Nat} {l : List Oper} (hN : dstOK x.N l.toArray = true) (h : ∀ K : List (Nat × D) → Hp → Prop, (∀ tm hp, Q .normal tm hp → K tm hp) → SOps P tb .seq l.toArray K l tm hp) : AW P x (.region id l.toArray false) tm hp Q := AW.regionS hN h
theorem AW.drwS {P : Program} {x : Cx} {tm : List (Nat × D)} {hp : Hp} {Q : Exit → List (Nat × D) → Hp → Prop} (tb : TypeId → Option TyE) (L : List FuncId) {id : Nat} {l : List Oper} (hm : P.follows .mixedOrders = true) (hN : dstOK x.N l.toArray = true) (hord : ordOK tb L l.toArray = true) (h : ∀ K : List (Nat × D) → Hp → Prop, (∀ tm hp, Q .normal tm hp → K tm hp) → SOps P tb (.any L) l.toArray K l tm hp) : AW P x (.region id l.toArray true) tm hp Q := AW.drawS hm hN hord h
end Go.Proofs.Ytakbadleipbngaa
