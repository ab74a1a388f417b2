/-
  Functions read off the program's code: codecs of types, one law for each operation, loops and joins. Conditions: none.
-/
import Derived.Test.YtakbadleipbngaaAbH
import Derived.Test.YtakbadleipbngaaAbF
import Derived.Test.YtakbadleipbngaaAbC
import Derived.Test.YtakbadleipbngaaEnc
import Derived.Scope
import Derived.LoopN
set_option linter.all false
namespace Go.Proofs.Ytakbadleipbngaa
open Go.RowKit
/-- How values of a type lie in cells. -/
structure Cd (α : Type) where
  sz : Nat
  f : α → List E
  h : ∀ a, (f a).length = sz
def cI (k : IntKind) : Cd Int := ⟨1, fun n => [.lit (.int k n)], fun _ => rfl⟩
def cS : Cd ByteArray := ⟨1, fun s => [.lit (.string s)], fun _ => rfl⟩
def cB : Cd Bool := ⟨1, fun b => [.lit (.bool b)], fun _ => rfl⟩
def slE {α : Type} (c : Cd α) (l : List α) : E := .sl c.sz l.length (l.flatMap c.f)
def cL {α : Type} (c : Cd α) : Cd (List α) := ⟨1, fun l => [slE c l], fun _ => rfl⟩
def cA {α : Type} (n : Nat) (c : Cd α) : Cd (Vector α n) := ⟨n * c.sz, fun v => v.toList.flatMap c.f, fun v => by rw [flat_length c.f c.h, Vector.length_toList]⟩
abbrev dI (k : IntKind) (n : Int) : D := .e (.lit (.int k n))
abbrev dS (s : ByteArray) : D := .e (.lit (.string s))
abbrev dB (b : Bool) : D := .e (.lit (.bool b))
abbrev dN : D := .e (.lit (.slice none 0 0))
abbrev dL {α : Type} (c : Cd α) (l : List α) : D := .e (slE c l)
abbrev dO {α : Type} (id : Nat) (c : Cd α) (l : List α) : D := .own id c.sz l.length (l.flatMap c.f)
abbrev dF {α : Type} (c : Cd α) (l : List α) : D := .fu c.sz l.length (l.flatMap c.f)
abbrev dG {α : Type} (c : Cd α) (a : α) : D := .ag ((c.f a).map .e)
theorem ltb {a b : Nat} (h : Nat.ble (a + 1) b = true) : a < b := Nat.le_of_ble_eq_true h
theorem leb {a b : Nat} (h : Nat.ble a b = true) : a ≤ b := Nat.le_of_ble_eq_true h
/-! ### What a function computes -/
def gd {R : Type} (c : Prop) [Decidable c] (k : Option R) : Option R := if c then k else none
def cnd {R : Type} (b : Bool) (x y : Option R) : Option R := match b with | true => x | false => y
def bnd {S R : Type} (x : Option S) (k : S → Option R) : Option R := match x with | some s => k s | none => none
theorem gd_some {R : Type} {c : Prop} [Decidable c] {k : Option R} {r : R} (h : gd c k = some r) : c ∧ k = some r := by
  unfold gd at h
  split at h
  · exact ⟨by assumption, h⟩
  · cases h
theorem gd_pos {R : Type} {c : Prop} [Decidable c] {k : Option R} (h : c) : gd c k = k := if_pos h
theorem cnd_t {R : Type} {b : Bool} {x y : Option R} {r : R} (hb : b = true) (h : cnd b x y = some r) : x = some r := by subst hb; exact h
theorem cnd_f {R : Type} {b : Bool} {x y : Option R} {r : R} (hb : b = false) (h : cnd b x y = some r) : y = some r := by subst hb; exact h
theorem bnd_some {S R : Type} {x : Option S} {k : S → Option R} {r : R} (h : bnd x k = some r) : ∃ s, x = some s ∧ k s = some r := by
  unfold bnd at h
  split at h
  · exact ⟨_, rfl, h⟩
  · cases h
theorem bnd_eq {S R : Type} (s : S) (k : S → Option R) : bnd (some s) k = k s := rfl
theorem bnd_of {S R : Type} {x : Option S} {s : S} (h : x = some s) (k : S → Option R) : bnd x k = k s := by rw [h]; rfl
/-- A loop: rounds until one says how it ends. -/
def loopN {S X : Type} (b : S → Option (S ⊕ X)) : Nat → S → Option X
  | 0, _ => none
  | n + 1, s => match b s with
    | some (.inl s') => loopN b n s'
    | some (.inr x) => some x
    | none => none
theorem loopN_up {S X : Type} {b : S → Option (S ⊕ X)} : ∀ {n : Nat} {s : S} {x : X}, loopN b n s = some x → ∀ m, n ≤ m → loopN b m s = some x
  | 0, _, _, h, _, _ => by cases h
  | n + 1, s, x, h, m, hm => by
    obtain ⟨m, rfl⟩ : ∃ k, m = k + 1 := ⟨m - 1, by omega⟩
    unfold loopN at h ⊢
    split at h
    · exact loopN_up h m (by omega)
    · exact h
    · cases h
noncomputable def loopO {S X : Type} (b : S → Option (S ⊕ X)) (s : S) : Option X := open Classical in if h : ∃ n x, loopN b n s = some x then loopN b (Classical.choose h) s else none
theorem loopO_some {S X : Type} {b : S → Option (S ⊕ X)} {s : S} {x : X} : loopO b s = some x ↔ ∃ n, loopN b n s = some x := by
  unfold loopO
  constructor
  · intro h
    split at h
    · exact ⟨_, h⟩
    · cases h
  · rintro ⟨n, hn⟩
    have h : ∃ n x, loopN b n s = some x := ⟨n, x, hn⟩
    rw [dif_pos h]
    obtain ⟨y, hy⟩ := Classical.choose_spec h
    rw [hy]
    have h1 := loopN_up hn (max n (Classical.choose h)) (Nat.le_max_left ..)
    have h2 := loopN_up hy (max n (Classical.choose h)) (Nat.le_max_right ..)
    rw [h1] at h2
    exact h2.symm
theorem loopO_inl {S X : Type} {b : S → Option (S ⊕ X)} {s s' : S} (h : b s = some (.inl s')) : loopO b s = loopO b s' := by
  have key : ∀ x, loopO b s = some x ↔ loopO b s' = some x := fun x => by
    rw [loopO_some, loopO_some]
    constructor
    · rintro ⟨n, hn⟩
      cases n with
      | zero => cases hn
      | succ n => exact ⟨n, by simpa [loopN, h] using hn⟩
    · rintro ⟨n, hn⟩
      exact ⟨n + 1, by simpa [loopN, h] using hn⟩
  cases h1 : loopO b s with
  | some x => exact ((key x).1 h1).symm
  | none =>
    cases h2 : loopO b s' with
    | none => rfl
    | some x => rw [(key x).2 h2] at h1; cases h1
theorem loopO_inr {S X : Type} {b : S → Option (S ⊕ X)} {s : S} {x : X} (h : b s = some (.inr x)) : loopO b s = some x :=
  loopO_some.2 ⟨1, by simp [loopN, h]⟩
/-- A loop that counts up, round by round: G says what the state is. -/
theorem loopO_up {S X : Type} {b : S → Option (S ⊕ X)} (G : Nat → S) (n m : Nat) (x : X) (hnm : n ≤ m) (hr : ∀ i, n ≤ i → i < m → b (G i) = some (.inl (G (i + 1)))) (he : b (G m) = some (.inr x)) : loopO b (G n) = some x := by
  obtain ⟨k, rfl⟩ : ∃ k, m = n + k := ⟨m - n, by omega⟩
  induction k generalizing n with
  | zero => exact loopO_inr he
  | succ k ih =>
    rw [loopO_inl (hr n (Nat.le_refl _) (by omega))]
    exact ih (n + 1) (by omega) (fun i h1 h2 => hr i (by omega) (by omega)) (by rw [show n + 1 + k = n + (k + 1) by omega]; exact he)
section
variable {P : Program} {tb : TypeId → Option TyE} {dr : Bool} {md : Md}
theorem OpOk.le {o : Oper} {ev : Operand → D} {hp hp' : Hp} {d d2 : D} (h : OpOk P o ev hp d hp') (hl : d.le d2) : OpOk P o ev hp d2 hp' :=
  fun B g w a Kn Q hr hx hk => h B g w a Kn Q hr hx fun v g' w' h1 h2 h3 h4 h5 => hk v g' w' h1 h2 (h3.le hl) h4 h5
theorem SndQ.le {o : Oper} {ev : Operand → D} {hp hp' : Hp} {d d2 : D} (h : SndQ P tb md o ev hp d hp') (hl : d.le d2) : SndQ P tb md o ev hp d2 hp' :=
  ⟨h.ok.le hl, fun h1 => ⟨(h.quiet h1).1, fun hp2 h3 => ((h.quiet h1).2 hp2 h3).le hl⟩, h.fr, h.lk⟩
variable {ops : Array Oper} {K : List (Nat × D) → Hp → Prop} {os : List Oper} {tm : List (Nat × D)} {hp hp' : Hp} {t : Tmp} {dst : Option Tmp} {op : Op} {ty : TypeId} {pos : String} {af : Array Edge} {d d2 : D}
theorem st_le (tok : TOk P tb) (hn : md.nc tb op = true) (h : AVC P tb md.dr op ty (evD tm) hp (Kq d hp')) (hl : d.le d2) (h2 : SOps P tb md ops K os ((t, d2) :: tm) hp') : SOps P tb md ops K (⟨some t, op, ty, pos, af, none⟩ :: os) tm hp :=
  st_Q rfl (((AVC.snd tok (o := ⟨some t, op, ty, pos, af, none⟩) h).q hn).le hl) h2
variable {j : Nat} {want c : Bool} {s : Tmp}
/-- Under a guard that holds; one that does not. -/
theorem go_n (tok : TOk P tb) (hn : md.nc tb op = true) (hj : (ops[j]?).bind (·.dst) = some s) (hc : tm.lookup s = some (.e (.lit (.bool c)))) (hw : c = want) (h : AVC P tb md.dr op ty (evD tm) hp (Kq d hp')) (h2 : SOps P tb md ops K os tm hp') : SOps P tb md ops K (⟨none, op, ty, pos, af, some (j, want)⟩ :: os) tm hp :=
  st_on hj hc (by subst hw; cases c <;> rfl) ((AVC.snd tok (o := ⟨none, op, ty, pos, af, some (j, want)⟩) h).q hn) h2
theorem go_t (tok : TOk P tb) (hn : md.nc tb op = true) (hj : (ops[j]?).bind (·.dst) = some s) (hc : tm.lookup s = some (.e (.lit (.bool c)))) (hw : c = want) (h : AVC P tb md.dr op ty (evD tm) hp (Kq d hp')) (h2 : SOps P tb md ops K os ((t, d) :: tm) hp') : SOps P tb md ops K (⟨some t, op, ty, pos, af, some (j, want)⟩ :: os) tm hp :=
  st_on hj hc (by subst hw; cases c <;> rfl) ((AVC.snd tok (o := ⟨some t, op, ty, pos, af, some (j, want)⟩) h).q hn) h2
theorem go_le (tok : TOk P tb) (hn : md.nc tb op = true) (hj : (ops[j]?).bind (·.dst) = some s) (hc : tm.lookup s = some (.e (.lit (.bool c)))) (hw : c = want) (h : AVC P tb md.dr op ty (evD tm) hp (Kq d hp')) (hl : d.le d2) (h2 : SOps P tb md ops K os ((t, d2) :: tm) hp') : SOps P tb md ops K (⟨some t, op, ty, pos, af, some (j, want)⟩ :: os) tm hp :=
  st_on hj hc (by subst hw; cases c <;> rfl) (((AVC.snd tok (o := ⟨some t, op, ty, pos, af, some (j, want)⟩) h).q hn).le hl) h2
theorem no_n {dst : Option Tmp} (hj : (ops[j]?).bind (·.dst) = some s) (hc : tm.lookup s = some (.e (.lit (.bool c)))) (hw : c = !want) (h2 : SOps P tb md ops K os tm hp) (hd : dst = none := by rfl) : SOps P tb md ops K (⟨dst, op, ty, pos, af, some (j, want)⟩ :: os) tm hp := by
  subst hd
  exact st_off hj hc (by subst hw; cases want <;> rfl) h2
theorem rep_tu0 (hp : Hp) (g : Gh) (w : World) : RepD hp g w (.tu []) undef := .tu [] #[] rfl fun j d u h => by simp at h
theorem no_t (hj : (ops[j]?).bind (·.dst) = some s) (hc : tm.lookup s = some (.e (.lit (.bool c)))) (hw : c = !want) (h2 : SOps P tb md ops K os ((t, .tu []) :: tm) hp) : SOps P tb md ops K (⟨some t, op, ty, pos, af, some (j, want)⟩ :: os) tm hp :=
  .off (.tu []) (.inl ⟨s, c, hj, hc, by subst hw; cases want <;> rfl⟩) (fun _ _ _ _ _ => rep_tu0 _ _ _) h2
/-- The guard's own operation was left out. -/
theorem nn_n {dst : Option Tmp} (hj : (ops[j]?).bind (·.dst) = some s) (hc : tm.lookup s = some (.tu [])) (h2 : SOps P tb md ops K os tm hp) (hd : dst = none := by rfl) : SOps P tb md ops K (⟨dst, op, ty, pos, af, some (j, want)⟩ :: os) tm hp := by
  subst hd
  exact .off (.tu []) (.inr ⟨s, hj, hc, rfl⟩) (fun _ _ _ _ _ => rep_tu0 _ _ _) h2
theorem nn_t (hj : (ops[j]?).bind (·.dst) = some s) (hc : tm.lookup s = some (.tu [])) (h2 : SOps P tb md ops K os ((t, .tu []) :: tm) hp) : SOps P tb md ops K (⟨some t, op, ty, pos, af, some (j, want)⟩ :: os) tm hp :=
  .off (.tu []) (.inr ⟨s, hj, hc, rfl⟩) (fun _ _ _ _ _ => rep_tu0 _ _ _) h2
/-- A listed function, called in a drawn region. -/
theorem sq (tok : TOk P tb) {f : FuncId} {as : List Operand} {ts : Array TypeId} {ds : List D} {r : D} (hc : PCalls P f ds r) (hp1 : ((as.map (evD tm)).map D.ex).all D.pure = true) (hl : leL ((as.map (evD tm)).map D.ex) ds) (hr : r.pure = true ∨ ∃ ds, r = .tu ds) (h2 : SOps P tb md ops K os ((t, r) :: tm) hp) :
    SOps P tb md ops K (⟨some t, .call ⟨.value (.func f), as.toArray, ts⟩, ty, pos, af, none⟩ :: os) tm hp :=
  st_Q rfl (q_call tok rfl (PCalls.le hc hl) hp1 hr) h2
theorem sqg (tok : TOk P tb) {f : FuncId} {as : List Operand} {ts : Array TypeId} {ds : List D} {r : D} (hj : (ops[j]?).bind (·.dst) = some s) (hg : tm.lookup s = some (.e (.lit (.bool c)))) (hw : c = want) (hc : PCalls P f ds r) (hp1 : ((as.map (evD tm)).map D.ex).all D.pure = true) (hl : leL ((as.map (evD tm)).map D.ex) ds) (hr : r.pure = true ∨ ∃ ds, r = .tu ds) (h2 : SOps P tb md ops K os ((t, r) :: tm) hp) :
    SOps P tb md ops K (⟨some t, .call ⟨.value (.func f), as.toArray, ts⟩, ty, pos, af, some (j, want)⟩ :: os) tm hp :=
  st_on hj hg (by subst hw; cases c <;> rfl) (q_call tok rfl (PCalls.le hc hl) hp1 hr) h2
/-! ### One law for each operation -/
variable {ev : Operand → D} {x y : Operand}
theorem T_move (h : ev x = d := by exact rfl) : AVC P tb dr (.move x) ty ev hp (Kq d hp) := by rw [av_move, h]; exact Kq.here _ _
theorem T_mv {t : Tmp} (h : tm.lookup t = some d := by exact rfl) : AVC P tb dr (.move (.tmp t)) ty (evD tm) hp (Kq d hp) := T_move (h := by show (tm.lookup t).getD .top = d; rw [h]; rfl)
theorem T_as {t : Tmp} (h : tm.lookup t = some d := by exact rfl) (hk : asgV tb ty d hp (Kq d hp) = Kq d hp d hp := by exact rfl) : AVC P tb dr (.assign (.tmp t)) ty (evD tm) hp (Kq d hp) := by
  rw [av_assign, show evD tm (.tmp t) = d by show (tm.lookup t).getD .top = d; rw [h]; rfl, hk]; exact Kq.here _ _
theorem T_asg (h : ev x = d := by exact rfl) (hk : asgV tb ty d hp (Kq d hp) = Kq d hp d hp := by exact rfl) : AVC P tb dr (.assign x) ty ev hp (Kq d hp) := by rw [av_assign, h, hk]; exact Kq.here _ _
theorem T_asgN {vs : List (Nat × List D)} {lv : List (Nat × Nat × Nat × TypeId)} {N0 : Nat} {e : TypeId} {i j : TyE} (ht : tb ty = some i) (he : tb e = some j) (h : ev x = dN := by exact rfl) (hi : i.ty = .slice e := by exact rfl) (hz : Nat.ble (0 + 1) (j.size) = true := by exact rfl) : AVC P tb dr (.assign x) ty ev ⟨vs, lv, N0⟩ (Kq (.own N0 j.size 0 []) ⟨vs, (N0, 0, j.size, e) :: lv, N0 + 1⟩) := by
  replace hz := Nat.le_of_ble_eq_true hz
  rw [av_assign, h, asgV_nil, ht]
  simp only [hi, he]
  exact ⟨hz, Kq.here _ _⟩
theorem T_pickT {cn : Operand} {b : Bool} (hb : b = true) (hc : ev cn = dB b := by exact rfl) (h : ev x = d := by exact rfl) : AVC P tb dr (.pick cn x y) ty ev hp (Kq d hp) := by
  subst hb; rw [av_pick, hc, pickV_t, h]; exact Kq.here _ _
theorem T_pickF {cn : Operand} {b : Bool} (hb : b = false) (hc : ev cn = dB b := by exact rfl) (h : ev y = d := by exact rfl) : AVC P tb dr (.pick cn x y) ty ev hp (Kq d hp) := by
  subst hb; rw [av_pick, hc, pickV_f, h]; exact Kq.here _ _
theorem T_alloc {vs : List (Nat × List D)} {lv : List (Nat × Nat × Nat × TypeId)} {N0 : Nat} {t : TypeId} {i : TyE} (ht : tb t = some i) : AVC P tb dr (.alloc t) ty ev ⟨vs, lv, N0⟩ (Kq (.pt N0 0) ⟨(N0, (i.zero.map fun v => .e (.lit v))) :: vs, lv, N0 + 1⟩) := by
  rw [av_alloc, allocV_eq, ht]; exact Kq.here _ _
theorem T_box {vs : List (Nat × List D)} {lv : List (Nat × Nat × Nat × TypeId)} {N0 : Nat} {t : TypeId} {cs : List D} (h : (ev x).cells = some cs := by exact rfl) : AVC P tb dr (.box t x) ty ev ⟨vs, lv, N0⟩ (Kq (.pt N0 0) ⟨(N0, cs) :: vs, lv, N0 + 1⟩) := by
  rw [av_box, boxV_eq, h]; exact Kq.here _ _
theorem T_build {t : TypeId} {i : TyE} {fs : List (Nat × TypeId)} {ps : List (Nat × Operand)} {qs : List (Nat × List D)} {es : List D} (ht : tb t = some i) (hi : i.ty = .struct fs := by exact rfl) (ha : (fs.all fun f => (tb f.2).isSome) = true := by exact rfl) (hp1 : partsD (ps.map fun p => (p.1, ev p.2)) = some qs := by exact rfl) (hf : fillL (placeS tb fs) (i.zero.map fun v => D.e (.lit v)) qs = some es := by exact rfl) :
    AVC P tb dr (.build t ps.toArray) ty ev hp (Kq (.ag es) hp) := by
  rw [av_build, buildV_eq, ht, hp1]
  simp only [hi, hf]
  exact ⟨fun f hf => (List.all_eq_true.1 ha) f hf, Kq.here _ _⟩
theorem T_buildA {t e : TypeId} {n : Nat} {i j : TyE} {ps : List (Nat × Operand)} {qs : List (Nat × List D)} {es : List D} (ht : tb t = some i) (he : tb e = some j) (hi : i.ty = .arr n e := by exact rfl) (hp1 : partsD (ps.map fun p => (p.1, ev p.2)) = some qs := by exact rfl) (hf : fillL (fun n => some (n * j.size, j.size)) (i.zero.map fun v => D.e (.lit v)) qs = some es := by exact rfl) :
    AVC P tb dr (.build t ps.toArray) ty ev hp (Kq (.ag es) hp) := by
  rw [av_build, buildV_eq, ht, hp1]
  simp only [hi, he, hf]
  exact Kq.here _ _
theorem T_bsl {vs : List (Nat × List D)} {lv : List (Nat × Nat × Nat × TypeId)} {N0 : Nat} {t e : TypeId} {i j : TyE} {n : Nat} {ps : List (Nat × Operand)} {qs : List (Nat × List D)} {es : List D} {xs : List E} (ht : tb t = some i) (he : tb e = some j) (hi : i.ty = .slice e := by exact rfl) (hz : Nat.ble (0 + 1) (j.size) = true := by exact rfl) (hn : Nat.ble ((n + 1) * j.size) (16777216) = true := by exact rfl) (hp1 : partsD (ps.map fun p => (p.1, ev p.2)) = some qs := by exact rfl) (hf : fillL (fun m => some (m * j.size, j.size)) (List.replicate ((n + 1) * j.size) (D.e .any)) qs = some es := by exact rfl) (hc : cellsE es = some xs := by exact rfl) (hd : dr = false := by exact rfl) : AVC P tb dr (.buildSlice t (n + 1) ps.toArray) ty ev ⟨vs, lv, N0⟩ (Kq (.own N0 j.size (n + 1) xs) ⟨vs, (N0, (n + 1), j.size, e) :: lv, N0 + 1⟩) := by
  replace hz := Nat.le_of_ble_eq_true hz
  replace hn := Nat.le_of_ble_eq_true hn
  subst hd
  rw [av_buildSlice]
  unfold buildSliceV
  rw [ht, hp1]
  simp only [hi, he, hf, hc]
  exact ⟨hz, hn, Kq.here _ _⟩
theorem T_bslD {t e : TypeId} {i j : TyE} {n : Nat} {ps : List (Nat × Operand)} {qs : List (Nat × List D)} {es : List D} {xs : List E} (ht : tb t = some i) (he : tb e = some j) (hi : i.ty = .slice e := by exact rfl) (hz : Nat.ble (0 + 1) (j.size) = true := by exact rfl) (hn : Nat.ble ((n + 1) * j.size) (16777216) = true := by exact rfl) (hp1 : partsD (ps.map fun p => (p.1, ev p.2)) = some qs := by exact rfl) (hf : fillL (fun m => some (m * j.size, j.size)) (List.replicate ((n + 1) * j.size) (D.e .any)) qs = some es := by exact rfl) (hc : cellsE es = some xs := by exact rfl) (hd : dr = true := by exact rfl) : AVC P tb dr (.buildSlice t (n + 1) ps.toArray) ty ev hp (Kq (.fu j.size (n + 1) xs) hp) := by
  replace hz := Nat.le_of_ble_eq_true hz
  replace hn := Nat.le_of_ble_eq_true hn
  subst hd
  rw [av_buildSlice]
  unfold buildSliceV
  rw [ht, hp1]
  simp only [hi, he, hf, hc]
  exact ⟨hz, hn, Kq.here _ _⟩
theorem T_bsl0 {vs : List (Nat × List D)} {lv : List (Nat × Nat × Nat × TypeId)} {N0 : Nat} {t e : TypeId} {i j : TyE} (ht : tb t = some i) (he : tb e = some j) (hi : i.ty = .slice e := by exact rfl) (hz : Nat.ble (0 + 1) (j.size) = true := by exact rfl) : AVC P tb dr (.buildSlice t 0 #[]) ty ev ⟨vs, lv, N0⟩ (Kq (.own N0 j.size 0 []) ⟨vs, (N0, 0, j.size, e) :: lv, N0 + 1⟩) := by
  replace hz := Nat.le_of_ble_eq_true hz
  show buildSliceV tb (!dr) t 0 [] _ _
  unfold buildSliceV
  rw [ht]
  simp only [partsD, hi, he]
  exact ⟨hz, by omega, trivial, Kq.here _ _⟩
theorem T_ldC {t : TypeId} {i : TyE} {j off : Nat} {ds : List D} (ht : tb t = some i) (hg : i.ty.agg = false := by exact rfl) (hx : ev x = .pt j off := by exact rfl) (hv : hp.vars.lookup j = some ds := by exact rfl) (hn : Nat.ble (j + 1) (hp.next) = true := by exact rfl) (hd : ds[off]? = some d := by exact rfl) : AVC P tb dr (.load t x) ty ev hp (Kq d hp) := by
  replace hn := Nat.le_of_ble_eq_true hn
  rw [av_load, hx, loadV_pt, ht, hv]
  simp only [hg]
  exact ⟨hn, d, hd, Kq.here _ _⟩
theorem T_ldA {t : TypeId} {i : TyE} {j off : Nat} {ds es : List D} (ht : tb t = some i) (hg : i.ty.agg = true := by exact rfl) (hx : ev x = .pt j off := by exact rfl) (hv : hp.vars.lookup j = some ds := by exact rfl) (hn : Nat.ble (j + 1) (hp.next) = true := by exact rfl) (hl : Nat.ble (off + i.size) (ds.length) = true := by exact rfl) (hd : (ds.drop off).take i.size = es := by exact rfl) : AVC P tb dr (.load t x) ty ev hp (Kq (.ag es) hp) := by
  replace hn := Nat.le_of_ble_eq_true hn
  replace hl := Nat.le_of_ble_eq_true hl
  rw [av_load, hx, loadV_pt, ht, hv]
  simp only [hg]
  exact ⟨hn, hl, by rw [hd]; exact Kq.here _ _⟩
theorem getD_at {α : Type} [Inhabited α] {c : Cd α} {l : List α} {n o : Nat} {e : E} (hn : n < l.length) (ho : (c.f l[n]!)[o]? = some e) : n * c.sz + o < (l.flatMap c.f).length ∧ (l.flatMap c.f).getD (n * c.sz + o) .any = e := by
  have hoz : o < c.sz := by
    rw [← c.h l[n]!]
    exact (List.getElem?_eq_some_iff.1 ho).1
  refine ⟨?_, ?_⟩
  · rw [flat_length c.f c.h]
    have : (n + 1) * c.sz ≤ l.length * c.sz := Nat.mul_le_mul_right _ hn
    rw [Nat.add_mul] at this
    omega
  · rw [flat_getD c.f c.h hn hoz, List.getD, ho]; rfl
theorem T_ldF {α : Type} [Inhabited α] {t : TypeId} {i : TyE} {c : Cd α} {l : List α} {n o : Nat} {e : E} (ht : tb t = some i) (hn : n < l.length) (hg : i.ty.agg = false := by exact rfl) (hx : ev x = .fp (l.flatMap c.f) (n * c.sz + o) := by exact rfl) (ho : (c.f l[n]!)[o]? = some e := by exact rfl) : AVC P tb dr (.load t x) ty ev hp (Kq (.e e) hp) := by
  obtain ⟨h1, h2⟩ := getD_at hn ho
  rw [av_load, hx, loadV_fp, ht]
  simp only [hg]
  refine ⟨h1, ?_⟩
  rw [h2]
  exact Kq.here _ _
theorem T_ldG {α : Type} [Inhabited α] {t : TypeId} {i : TyE} {c : Cd α} {l : List α} {n o : Nat} {es : List E} (ht : tb t = some i) (hn : n < l.length) (ho : ((c.f l[n]!).drop o).take i.size = es) (hg : i.ty.agg = true := by exact rfl) (hx : ev x = .fp (l.flatMap c.f) (n * c.sz + o) := by exact rfl) (hoz : Nat.ble (o + i.size) (c.sz) = true := by exact rfl) : AVC P tb dr (.load t x) ty ev hp (Kq (.ag (es.map .e)) hp) := by
  replace hoz := Nat.le_of_ble_eq_true hoz
  have hlen : (c.f l[n]!).length = c.sz := c.h _
  have hle : (es.map D.e) = (List.range i.size).map fun j => D.e ((l.flatMap c.f).getD (n * c.sz + o + j) .any) := by
    subst ho
    refine List.ext_getElem? fun j => ?_
    by_cases hj : j < i.size
    · have hoj : o + j < (c.f l[n]!).length := by omega
      have h3 := getD_at (o := o + j) hn (List.getElem?_eq_getElem hoj)
      rw [List.getElem?_map, List.getElem?_map, List.getElem?_take, if_pos hj, List.getElem?_drop, List.getElem?_eq_getElem hoj, List.getElem?_range hj]
      simp only [Option.map_some, Nat.add_assoc]
      rw [h3.2]
    · rw [List.getElem?_eq_none (by simp; omega), List.getElem?_eq_none (by simp; omega)]
  rw [av_load, hx, loadV_fp, ht]
  simp only [hg]
  refine ⟨?_, ?_⟩
  · rw [flat_length c.f c.h]
    have : (n + 1) * c.sz ≤ l.length * c.sz := Nat.mul_le_mul_right _ hn
    rw [Nat.add_mul] at this
    omega
  · rw [hle]
    exact Kq.here _ _
theorem T_st {vs : List (Nat × List D)} {lv : List (Nat × Nat × Nat × TypeId)} {N0 : Nat} {t : TypeId} {i : TyE} {j off : Nat} {ds cs ds' : List D} (ht : tb t = some i) (hx : ev x = .pt j off := by exact rfl) (hv : vs.lookup j = some ds := by exact rfl) (hc : (ev y).cells = some cs := by exact rfl) (hl : cs.length = i.size := by exact rfl) (ho : Nat.ble (off + i.size) (ds.length) = true := by exact rfl) (he : ds.take off ++ cs ++ ds.drop (off + cs.length) = ds' := by exact rfl) : AVC P tb dr (.store t x y) ty ev ⟨vs, lv, N0⟩ (Kq .top ⟨(j, ds') :: vs, lv, N0⟩) := by
  replace ho := Nat.le_of_ble_eq_true ho
  rw [av_store, hx, storeV_pt, ht, hv, hc]
  exact ⟨hl, ho, by rw [he]; exact Kq.here _ _⟩
theorem T_bin {o : BinOp} {t t' : TypeId} {k k' : IntKind} {a b : Int} {v : Value} (hx : ev x = dI k a) (hy : ev y = dI k' b) (h : binV P o t (dI k a) (dI k' b) fun u => Kq (.e (.lit v)) hp (.e (.lit u)) hp) : AVC P tb dr (.binOp o t x y t') ty ev hp (Kq (.e (.lit v)) hp) := by
  rw [av_binOp, hx, hy]; exact h
theorem T_add {t t' : TypeId} {k : IntKind} {a b : Int} (hx : ev x = dI k a := by exact rfl) (hy : ev y = dI k b := by exact rfl) : AVC P tb dr (.binOp .add t x y t') ty ev hp (Kq (dI k (k.wrap (a + b))) hp) := T_bin hx hy (by rw [bin_add]; exact ⟨rfl, Kq.here _ _⟩)
theorem T_sub {t t' : TypeId} {k : IntKind} {a b : Int} (hx : ev x = dI k a := by exact rfl) (hy : ev y = dI k b := by exact rfl) : AVC P tb dr (.binOp .sub t x y t') ty ev hp (Kq (dI k (k.wrap (a - b))) hp) := T_bin hx hy (by rw [bin_sub]; exact ⟨rfl, Kq.here _ _⟩)
theorem T_mul {t t' : TypeId} {k : IntKind} {a b : Int} (hx : ev x = dI k a := by exact rfl) (hy : ev y = dI k b := by exact rfl) : AVC P tb dr (.binOp .mul t x y t') ty ev hp (Kq (dI k (k.wrap (a * b))) hp) := T_bin hx hy (by rw [bin_mul]; exact ⟨rfl, Kq.here _ _⟩)
theorem T_quo {t t' : TypeId} {k : IntKind} {a b : Int} (hb : b ≠ 0) (hx : ev x = dI k a := by exact rfl) (hy : ev y = dI k b := by exact rfl) : AVC P tb dr (.binOp .quo t x y t') ty ev hp (Kq (dI k (k.wrap (a.tdiv b))) hp) := T_bin hx hy (by rw [bin_quo]; exact ⟨rfl, hb, Kq.here _ _⟩)
theorem T_rem {t t' : TypeId} {k : IntKind} {a b : Int} (hb : b ≠ 0) (hx : ev x = dI k a := by exact rfl) (hy : ev y = dI k b := by exact rfl) : AVC P tb dr (.binOp .rem t x y t') ty ev hp (Kq (dI k (a.tmod b)) hp) := T_bin hx hy (by rw [bin_rem]; exact ⟨rfl, hb, Kq.here _ _⟩)
def iand (k : IntKind) (a b : Int) : Int := k.wrap (BitVec.ofInt k.bits a &&& BitVec.ofInt k.bits b).toNat
def ior (k : IntKind) (a b : Int) : Int := k.wrap (BitVec.ofInt k.bits a ||| BitVec.ofInt k.bits b).toNat
def ixor (k : IntKind) (a b : Int) : Int := k.wrap (BitVec.ofInt k.bits a ^^^ BitVec.ofInt k.bits b).toNat
def ishl (k : IntKind) (a b : Int) : Int := k.wrap (a * 2 ^ min b.toNat k.bits)
def ishr (k : IntKind) (a b : Int) : Int := a.fdiv (2 ^ min b.toNat k.bits)
theorem T_and {t t' : TypeId} {k : IntKind} {a b : Int} (hx : ev x = dI k a := by exact rfl) (hy : ev y = dI k b := by exact rfl) : AVC P tb dr (.binOp .and t x y t') ty ev hp (Kq (dI k (iand k a b)) hp) := T_bin hx hy (by rw [bin_and]; exact ⟨rfl, Kq.here _ _⟩)
theorem T_or {t t' : TypeId} {k : IntKind} {a b : Int} (hx : ev x = dI k a := by exact rfl) (hy : ev y = dI k b := by exact rfl) : AVC P tb dr (.binOp .or t x y t') ty ev hp (Kq (dI k (ior k a b)) hp) := T_bin hx hy (by rw [bin_or]; exact ⟨rfl, Kq.here _ _⟩)
theorem T_xor {t t' : TypeId} {k : IntKind} {a b : Int} (hx : ev x = dI k a := by exact rfl) (hy : ev y = dI k b := by exact rfl) : AVC P tb dr (.binOp .xor t x y t') ty ev hp (Kq (dI k (ixor k a b)) hp) := T_bin hx hy (by rw [bin_xor]; exact ⟨rfl, Kq.here _ _⟩)
theorem T_shl {t t' : TypeId} {k k' : IntKind} {a b : Int} (hb : 0 ≤ b) (hx : ev x = dI k a := by exact rfl) (hy : ev y = dI k' b := by exact rfl) : AVC P tb dr (.binOp .shl t x y t') ty ev hp (Kq (dI k (ishl k a b)) hp) := T_bin hx hy (by rw [bin_shl]; exact ⟨hb, Kq.here _ _⟩)
theorem T_shr {t t' : TypeId} {k k' : IntKind} {a b : Int} (hb : 0 ≤ b) (hx : ev x = dI k a := by exact rfl) (hy : ev y = dI k' b := by exact rfl) : AVC P tb dr (.binOp .shr t x y t') ty ev hp (Kq (dI k (ishr k a b)) hp) := T_bin hx hy (by rw [bin_shr]; exact ⟨hb, Kq.here _ _⟩)
theorem T_eql {t t' : TypeId} {k : IntKind} {a b : Int} (hx : ev x = dI k a := by exact rfl) (hy : ev y = dI k b := by exact rfl) : AVC P tb dr (.binOp .eql t x y t') ty ev hp (Kq (dB (decide (a = b))) hp) := T_bin hx hy (by rw [bin_eql]; exact ⟨rfl, Kq.here _ _⟩)
theorem T_neq {t t' : TypeId} {k : IntKind} {a b : Int} (hx : ev x = dI k a := by exact rfl) (hy : ev y = dI k b := by exact rfl) : AVC P tb dr (.binOp .neq t x y t') ty ev hp (Kq (dB (decide (a ≠ b))) hp) := T_bin hx hy (by rw [bin_neq]; exact ⟨rfl, Kq.here _ _⟩)
theorem T_lss {t t' : TypeId} {k : IntKind} {a b : Int} (hx : ev x = dI k a := by exact rfl) (hy : ev y = dI k b := by exact rfl) : AVC P tb dr (.binOp .lss t x y t') ty ev hp (Kq (dB (decide (a < b))) hp) := T_bin hx hy (by rw [bin_lss]; exact ⟨rfl, Kq.here _ _⟩)
theorem T_leq {t t' : TypeId} {k : IntKind} {a b : Int} (hx : ev x = dI k a := by exact rfl) (hy : ev y = dI k b := by exact rfl) : AVC P tb dr (.binOp .leq t x y t') ty ev hp (Kq (dB (decide (a ≤ b))) hp) := T_bin hx hy (by rw [bin_leq]; exact ⟨rfl, Kq.here _ _⟩)
theorem T_gtr {t t' : TypeId} {k : IntKind} {a b : Int} (hx : ev x = dI k a := by exact rfl) (hy : ev y = dI k b := by exact rfl) : AVC P tb dr (.binOp .gtr t x y t') ty ev hp (Kq (dB (decide (b < a))) hp) := T_bin hx hy (by rw [bin_gtr]; exact ⟨rfl, Kq.here _ _⟩)
theorem T_geq {t t' : TypeId} {k : IntKind} {a b : Int} (hx : ev x = dI k a := by exact rfl) (hy : ev y = dI k b := by exact rfl) : AVC P tb dr (.binOp .geq t x y t') ty ev hp (Kq (dB (decide (b ≤ a))) hp) := T_bin hx hy (by rw [bin_geq]; exact ⟨rfl, Kq.here _ _⟩)
theorem T_sadd {t t' : TypeId} {a b : ByteArray} (hs : a.size + b.size ≤ 9223372036854775807) (hx : ev x = dS a := by exact rfl) (hy : ev y = dS b := by exact rfl) : AVC P tb dr (.binOp .add t x y t') ty ev hp (Kq (dS (a ++ b)) hp) := by
  rw [av_binOp, hx, hy, bin_sadd]; exact ⟨hs, Kq.here _ _⟩
theorem T_seql {t t' : TypeId} {a b : ByteArray} (hx : ev x = dS a := by exact rfl) (hy : ev y = dS b := by exact rfl) : AVC P tb dr (.binOp .eql t x y t') ty ev hp (Kq (dB (decide (a = b))) hp) := by
  rw [av_binOp, hx, hy, bin_seql]; exact Kq.here _ _
theorem T_sneq {t t' : TypeId} {a b : ByteArray} (hx : ev x = dS a := by exact rfl) (hy : ev y = dS b := by exact rfl) : AVC P tb dr (.binOp .neq t x y t') ty ev hp (Kq (dB (decide (a ≠ b))) hp) := by
  rw [av_binOp, hx, hy, bin_sneq]; exact Kq.here _ _
theorem T_beql {t t' : TypeId} {a b : Bool} (hu : P.underlying t = some .bool) (hx : ev x = dB a := by exact rfl) (hy : ev y = dB b := by exact rfl) : AVC P tb dr (.binOp .eql t x y t') ty ev hp (Kq (dB (a == b)) hp) := by
  rw [av_binOp, hx, hy, bin_beql]; exact ⟨hu, Kq.here _ _⟩
theorem T_bneq {t t' : TypeId} {a b : Bool} (hu : P.underlying t = some .bool) (hx : ev x = dB a := by exact rfl) (hy : ev y = dB b := by exact rfl) : AVC P tb dr (.binOp .neq t x y t') ty ev hp (Kq (dB (!(a == b))) hp) := by
  rw [av_binOp, hx, hy, bin_bneq]; exact ⟨hu, Kq.here _ _⟩
theorem T_geql (tok : TOk P tb) (n : Nat) (hd : n ≤ 10000) {t t' : TypeId} {i : TyE} {xs ys : List D} {us vs : List Value} {p : Prop} (ht : tb t = some i) (hg : i.ty.agg = true) (hm : P.eqGuardType P.depth t = false) (hn : namesOk P n t = true) (hx : ev x = .ag xs) (hy : ev y = .ag ys) (hx2 : litsOf xs = some us) (hy2 : litsOf ys = some vs) (hu : fitT tb n t us) (hv : fitT tb n t vs) (hp1 : us = vs ↔ p) [inst : Decidable p] : AVC P tb dr (.binOp .eql t x y t') ty ev hp (Kq (dB (decide p)) hp) := by
  rw [av_binOp, hx, hy]; exact binV_agE tok n hd ht hg hm hn hx2 hy2 hu hv hp1 inst (Kq.here _ _)
theorem T_gneq (tok : TOk P tb) (n : Nat) (hd : n ≤ 10000) {t t' : TypeId} {i : TyE} {xs ys : List D} {us vs : List Value} {p : Prop} (ht : tb t = some i) (hg : i.ty.agg = true) (hm : P.eqGuardType P.depth t = false) (hn : namesOk P n t = true) (hx : ev x = .ag xs) (hy : ev y = .ag ys) (hx2 : litsOf xs = some us) (hy2 : litsOf ys = some vs) (hu : fitT tb n t us) (hv : fitT tb n t vs) (hp1 : us = vs ↔ p) [inst : Decidable p] : AVC P tb dr (.binOp .neq t x y t') ty ev hp (Kq (dB (decide (¬ p))) hp) := by
  rw [av_binOp, hx, hy]; exact binV_agN tok n hd ht hg hm hn hx2 hy2 hu hv hp1 inst (Kq.here _ _)
theorem T_not {t : TypeId} {a : Bool} (hx : ev x = dB a := by exact rfl) : AVC P tb dr (.unOp .not t x) ty ev hp (Kq (dB (!a)) hp) := by rw [av_unOp, hx, un_not]; exact Kq.here _ _
theorem T_neg {t : TypeId} {k : IntKind} {a : Int} (hx : ev x = dI k a := by exact rfl) : AVC P tb dr (.unOp .neg t x) ty ev hp (Kq (dI k (k.wrap (0 - a))) hp) := by rw [av_unOp, hx, un_neg]; exact Kq.here _ _
theorem T_cvI {s t : TypeId} {i j : TyE} {k jk : IntKind} {n : Int} (hs : tb s = some i) (ht : tb t = some j) (hj : j.ty = .int jk := by exact rfl) (hx : ev x = dI k n := by exact rfl) : AVC P tb dr (.convert s t x) ty ev hp (Kq (dI jk (jk.wrap n)) hp) := by
  rw [av_convert, hx, conv_eq, hs, ht]; simp only [hj]; exact Kq.here _ _
theorem T_cvS {s t : TypeId} {i j : TyE} {b : ByteArray} (hs : tb s = some i) (ht : tb t = some j) (hj : j.ty = .str := by exact rfl) (hx : ev x = dS b := by exact rfl) : AVC P tb dr (.convert s t x) ty ev hp (Kq (dS b) hp) := by
  rw [av_convert, hx, conv_eq, hs, ht]; simp only [hj]; exact Kq.here _ _
/-- The text that bytes are. -/
def bStr (l : List Int) : ByteArray := ⟨(l.map fun n => UInt8.ofNat n.toNat).toArray⟩
theorem bytesOf_ints : ∀ l : List Int, bytesOf (l.flatMap (cI .u8).f) = some (l.map fun n => UInt8.ofNat n.toNat)
  | [] => rfl
  | n :: l => by
    show bytesOf (.lit (.int .u8 n) :: l.flatMap (cI .u8).f) = _
    rw [bytesOf_cons, bytesOf_ints l]; rfl
theorem T_cvB {s t e : TypeId} {i j m : TyE} {n : Nat} {l : List Int} (hs : tb s = some i) (ht : tb t = some j) (he : tb e = some m) (hno : ∀ b, ev x ≠ dS b) (hj : j.ty = .str := by exact rfl) (hi : i.ty = .slice e := by exact rfl) (hm : m.ty = .int .u8 := by exact rfl) (hx : (ev x).asSl 1 = some (n, l.flatMap (cI .u8).f) := by exact rfl) : AVC P tb dr (.convert s t x) ty ev hp (Kq (dS (bStr l)) hp) := by
  rw [av_convert, conv_eq, hs, ht]
  simp only [hj, hi, he, hm, hx, bytesOf_ints]
  exact ⟨trivial, Kq.here _ _⟩
theorem T_fldC {s tt : TypeId} {i j : TyE} {f o : Nat} {fs : List (Nat × TypeId)} {ds : List D} (hs : tb s = some i) (ht : tb tt = some j) (hi : i.ty = .struct fs := by exact rfl) (hf : fs[f]? = some (o, tt) := by exact rfl) (hg : j.ty.agg = false := by exact rfl) (hx : ev x = .ag ds := by exact rfl) (hd : ds[o]? = some d := by exact rfl) : AVC P tb dr (.field s x f) ty ev hp (Kq d hp) := by
  rw [av_field, hx, fieldV_ag, fieldOff_eq, hs]
  simp only [hi, hf, ht, hg]
  exact ⟨d, hd, Kq.here _ _⟩
theorem T_fldA {s tt : TypeId} {i j : TyE} {f o : Nat} {fs : List (Nat × TypeId)} {ds es : List D} (hs : tb s = some i) (ht : tb tt = some j) (hi : i.ty = .struct fs := by exact rfl) (hf : fs[f]? = some (o, tt) := by exact rfl) (hg : j.ty.agg = true := by exact rfl) (hx : ev x = .ag ds := by exact rfl) (hl : Nat.ble (o + j.size) (ds.length) = true := by exact rfl) (hd : (ds.drop o).take j.size = es := by exact rfl) : AVC P tb dr (.field s x f) ty ev hp (Kq (.ag es) hp) := by
  replace hl := Nat.le_of_ble_eq_true hl
  rw [av_field, hx, fieldV_ag, fieldOff_eq, hs]
  simp only [hi, hf, ht, hg]
  exact ⟨hl, by rw [hd]; exact Kq.here _ _⟩
theorem T_faP {s tt : TypeId} {i j : TyE} {f o k off : Nat} {fs : List (Nat × TypeId)} (hs : tb s = some i) (ht : tb tt = some j) (hi : i.ty = .struct fs := by exact rfl) (hf : fs[f]? = some (o, tt) := by exact rfl) (hz : Nat.ble 1 j.size = true := by exact rfl) (hx : ev x = .pt k off := by exact rfl) : AVC P tb dr (.fieldAddr s x f) ty ev hp (Kq (.pt k (off + o)) hp) := by
  replace hz : j.size ≠ 0 := by have := Nat.le_of_ble_eq_true hz; omega
  rw [av_fieldAddr, hx, fieldAddrV_pt, fieldOff_eq, hs]
  simp only [hi, hf, ht]
  exact ⟨hz, Kq.here _ _⟩
theorem T_faF {s tt : TypeId} {i j : TyE} {f o off : Nat} {xs : List E} {fs : List (Nat × TypeId)} (hs : tb s = some i) (ht : tb tt = some j) (hi : i.ty = .struct fs := by exact rfl) (hf : fs[f]? = some (o, tt) := by exact rfl) (hz : Nat.ble 1 j.size = true := by exact rfl) (hx : ev x = .fp xs off := by exact rfl) : AVC P tb dr (.fieldAddr s x f) ty ev hp (Kq (.fp xs (off + o)) hp) := by
  replace hz : j.size ≠ 0 := by have := Nat.le_of_ble_eq_true hz; omega
  rw [av_fieldAddr, hx, fieldAddrV_fp, fieldOff_eq, hs]
  simp only [hi, hf, ht]
  exact ⟨hz, Kq.here _ _⟩
theorem T_iaS {t e : TypeId} {i j : TyE} {n : Nat} {xs : List E} {k : IntKind} {v : Int} (hb : 0 ≤ v ∧ v < (n : Int)) (ht : tb t = some i) (he : tb e = some j) (hi : i.ty = .slice e := by exact rfl) (hx : (ev x).asSl j.size = some (n, xs) := by exact rfl) (hy : ev y = dI k v := by exact rfl) : AVC P tb dr (.indexAddr t x y) ty ev hp (Kq (.fp xs (v.toNat * j.size)) hp) := by
  rw [av_indexAddr, hy, indexAddrV_eq, ht]
  simp only [hi, he, hx]
  exact ⟨hb, Kq.here _ _⟩
theorem T_iaA {t e : TypeId} {i j : TyE} {n m off : Nat} {k : IntKind} {v : Int} (hb : 0 ≤ v ∧ v < (n : Int)) (ht : tb t = some i) (he : tb e = some j) (hi : i.ty = .arr n e := by exact rfl) (hx : ev x = .pt m off := by exact rfl) (hy : ev y = dI k v := by exact rfl) : AVC P tb dr (.indexAddr t x y) ty ev hp (Kq (.pt m (off + v.toNat * j.size)) hp) := by
  rw [av_indexAddr, hx, hy, indexAddrV_eq, ht]
  simp only [hi, he]
  exact ⟨hb, Kq.here _ _⟩
def sAt (s : ByteArray) (n : Nat) : Int := ((s.data.toList.getD n 0).toNat : Int)
theorem T_ixS {t : TypeId} {i : TyE} {s : ByteArray} {k : IntKind} {v : Int} (hb : 0 ≤ v ∧ v < (s.size : Int)) (ht : tb t = some i) (hi : i.ty = .str := by exact rfl) (hx : ev x = dS s := by exact rfl) (hy : ev y = dI k v := by exact rfl) : AVC P tb dr (.index t x y) ty ev hp (Kq (dI .u8 (sAt s v.toNat)) hp) := by
  rw [av_index, hx, hy, indexV_eq, ht]
  simp only [hi]
  exact ⟨hb, Kq.here _ _⟩
theorem T_ext {ds : List D} {i : Nat} (hx : ev x = .tu ds := by exact rfl) (hd : ds[i]? = some d := by exact rfl) : AVC P tb dr (.extract x i) ty ev hp (Kq d hp) := by
  rw [av_extract, hx, extractV_tu, hd, exO_some]; exact Kq.here _ _
theorem T_len {t e : TypeId} {i j : TyE} {n : Nat} {xs : List E} (ht : tb t = some i) (he : tb e = some j) (hi : i.ty = .slice e := by exact rfl) (hx : (ev x).asSl j.size = some (n, xs) := by exact rfl) : AVC P tb dr (.call ⟨.builtin .len, #[x], #[t]⟩) ty ev hp (Kq (dI .i64 n) hp) := by
  show builtinV tb .len [t] [ev x] hp _
  rw [builtin_len, lenV_eq, ht]
  simp only [hi, he, hx]
  exact Kq.here _ _
theorem T_lenS {t : TypeId} {i : TyE} {s : ByteArray} (ht : tb t = some i) (hi : i.ty = .str := by exact rfl) (hx : ev x = dS s := by exact rfl) : AVC P tb dr (.call ⟨.builtin .len, #[x], #[t]⟩) ty ev hp (Kq (dI .i64 s.size) hp) := by
  show builtinV tb .len [t] [ev x] hp _
  rw [hx, builtin_len, lenV_eq, ht]
  simp only [hi]
  exact Kq.here _ _
theorem T_lenA {t e : TypeId} {i : TyE} {n : Nat} (ht : tb t = some i) (hi : i.ty = .arr n e := by exact rfl) : AVC P tb dr (.call ⟨.builtin .len, #[x], #[t]⟩) ty ev hp (Kq (dI .i64 n) hp) := by
  show builtinV tb .len [t] [ev x] hp _
  rw [builtin_len, lenV_eq, ht]
  simp only [hi]
  exact Kq.here _ _
theorem T_min {ts : Array TypeId} {k k' : IntKind} {a b : Int} (hx : ev x = dI k a := by exact rfl) (hy : ev y = dI k' b := by exact rfl) : AVC P tb dr (.call ⟨.builtin .min, #[x, y], ts⟩) ty ev hp (Kq (dI k (min a b)) hp) := by
  show builtinV tb .min ts.toList [ev x, ev y] hp _
  rw [hx, hy, builtin_min]; exact Kq.here _ _
theorem T_max {ts : Array TypeId} {k k' : IntKind} {a b : Int} (hx : ev x = dI k a := by exact rfl) (hy : ev y = dI k' b := by exact rfl) : AVC P tb dr (.call ⟨.builtin .max, #[x, y], ts⟩) ty ev hp (Kq (dI k (max a b)) hp) := by
  show builtinV tb .max ts.toList [ev x, ev y] hp _
  rw [hx, hy, builtin_max]; exact Kq.here _ _
theorem news_sl {t e : TypeId} {z m : Nat} {ys : List E} {i : TyE} {xd : D} {kn : Nat → List E → Prop} (ht : tb t = some i) (hi : i.ty = .slice e) (hs : xd.strOf = none) (hx : xd.asSl z = some (m, ys)) (h : kn m ys) : newsV tb t z xd kn := by
  rw [newsV_eq, ht]; simp only [hi, hs, hx]; exact h
theorem T_appO {vs : List (Nat × List D)} {lv : List (Nat × Nat × Nat × TypeId)} {N0 : Nat} {α : Type} {t e : TypeId} {i j : TyE} {id m : Nat} {c : Cd α} {l l' : List α} (ht : tb t = some i) (he : tb e = some j) (hf : (l ++ l').length * max 1 j.bytes ≤ 140737488355328) (hi : i.ty = .slice e := by exact rfl) (hz : Nat.ble (0 + 1) (j.size) = true := by exact rfl) (hx : ev x = dO id c l := by exact rfl) (hc : c.sz = j.size := by exact rfl) (hl : lv.lookup id = some (l.length, j.size, e) := by exact rfl) (hs : (ev y).strOf = none := by exact rfl) (hy : (ev y).asSl j.size = some (m, l'.flatMap c.f) := by exact rfl) (hm : m = l'.length := by exact rfl) :
    AVC P tb dr (.call ⟨.builtin .append, #[x, y], #[t, t]⟩) ty ev ⟨vs, lv, N0⟩ (Kq (dO id c (l ++ l')) ⟨vs, (id, (l ++ l').length, j.size, e) :: lv, N0⟩) := by
  replace hz := Nat.le_of_ble_eq_true hz
  subst hm
  show builtinV tb .append [t, t] [ev x, ev y] _ _
  rw [hx, builtin_append, appendV_own, ht]
  simp only [hi, he]
  refine ⟨hz, fun _ => trivial, fun h => absurd hs h, news_sl ht hi hs hy ?_⟩
  refine ⟨hc, hl, by rw [← List.length_append]; exact hf, ?_⟩
  dsimp only [dO]
  rw [List.length_append, List.flatMap_append, hc]
  exact Kq.here _ _
theorem T_appN {vs : List (Nat × List D)} {lv : List (Nat × Nat × Nat × TypeId)} {N0 : Nat} {α : Type} {t e : TypeId} {i j : TyE} {m : Nat} {c : Cd α} {l' : List α} (ht : tb t = some i) (he : tb e = some j) (hf : l'.length * max 1 j.bytes ≤ 140737488355328) (hi : i.ty = .slice e := by exact rfl) (hz : Nat.ble (0 + 1) (j.size) = true := by exact rfl) (hx : ev x = dN := by exact rfl) (hc : c.sz = j.size := by exact rfl) (hs : (ev y).strOf = none := by exact rfl) (hy : (ev y).asSl j.size = some (m, l'.flatMap c.f) := by exact rfl) (hm : m = l'.length := by exact rfl) :
    AVC P tb dr (.call ⟨.builtin .append, #[x, y], #[t, t]⟩) ty ev ⟨vs, lv, N0⟩ (Kq (dO N0 c l') ⟨vs, (N0, l'.length, j.size, e) :: lv, N0 + 1⟩) := by
  replace hz := Nat.le_of_ble_eq_true hz
  subst hm
  show builtinV tb .append [t, t] [ev x, ev y] _ _
  rw [hx, builtin_append, appendV_nil, ht]
  simp only [hi, he]
  refine ⟨hz, fun _ => trivial, fun h => absurd hs h, news_sl ht hi hs hy ?_⟩
  refine ⟨hf, ?_⟩
  dsimp only [dO]
  rw [hc]
  exact Kq.here _ _
theorem T_appF {vs : List (Nat × List D)} {lv : List (Nat × Nat × Nat × TypeId)} {N0 : Nat} {α : Type} {t e : TypeId} {i j : TyE} {m : Nat} {c : Cd α} {l l' : List α} (ht : tb t = some i) (he : tb e = some j) (hf : (l ++ l').length * max 1 j.bytes ≤ 140737488355328) (hm0 : 0 < l'.length) (hi : i.ty = .slice e := by exact rfl) (hz : Nat.ble (0 + 1) (j.size) = true := by exact rfl) (hx : ev x = dF c l := by exact rfl) (hc : c.sz = j.size := by exact rfl) (hs : (ev y).strOf = none := by exact rfl) (hy : (ev y).asSl j.size = some (m, l'.flatMap c.f) := by exact rfl) (hm : m = l'.length := by exact rfl) :
    AVC P tb dr (.call ⟨.builtin .append, #[x, y], #[t, t]⟩) ty ev ⟨vs, lv, N0⟩ (Kq (dO N0 c (l ++ l')) ⟨vs, (N0, (l ++ l').length, j.size, e) :: lv, N0 + 1⟩) := by
  replace hz := Nat.le_of_ble_eq_true hz
  subst hm
  show builtinV tb .append [t, t] [ev x, ev y] _ _
  rw [hx, builtin_append, appendV_fu, ht]
  simp only [hi, he]
  refine ⟨hz, fun _ => trivial, fun h => absurd hs h, news_sl ht hi hs hy ?_⟩
  refine ⟨hc, hm0, by rw [← List.length_append]; exact hf, ?_⟩
  dsimp only [dO]
  rw [List.length_append, List.flatMap_append, hc]
  exact Kq.here _ _
/-- The bytes of a text. -/
def strB (s : ByteArray) : List Int := s.data.toList.map fun b => (b.toNat : Int)
theorem strB_length (s : ByteArray) : (strB s).length = s.size := by simp [strB]
theorem str_cells (s : ByteArray) : (s.data.toList.map fun b => E.lit (bv b)) = (strB s).flatMap (cI .u8).f := by
  unfold strB
  generalize s.data.toList = l
  induction l with
  | nil => rfl
  | cons b l ih => rw [List.map_cons, List.map_cons, List.flatMap_cons, ih]; rfl
theorem news_str {t : TypeId} {i : TyE} {s : ByteArray} {kn : Nat → List E → Prop} (ht : tb t = some i) (hi : i.ty = .str) (h : kn (strB s).length ((strB s).flatMap (cI .u8).f)) : newsV tb t 1 (dS s) kn := by
  rw [newsV_eq, ht]
  simp only [hi, strOf_str]
  refine ⟨trivial, ?_⟩
  rw [strB_length, ← str_cells] at h
  exact h
theorem T_appSO {vs : List (Nat × List D)} {lv : List (Nat × Nat × Nat × TypeId)} {N0 : Nat} {t t' e : TypeId} {i i' j : TyE} {id : Nat} {l : List Int} {s : ByteArray} (ht : tb t = some i) (he : tb e = some j) (ht' : tb t' = some i') (hf : (l ++ strB s).length * max 1 j.bytes ≤ 140737488355328) (hi : i.ty = .slice e := by exact rfl) (hi' : i'.ty = .str := by exact rfl) (hj : j.size = 1 := by exact rfl) (hjb : j.bytes = 1 ∧ j.zero = [.int .u8 0] ∧ j.ty.agg = false := by exact ⟨rfl, rfl, rfl⟩) (hx : ev x = dO id (cI .u8) l := by exact rfl) (hl : lv.lookup id = some (l.length, j.size, e) := by exact rfl) (hy : ev y = dS s := by exact rfl) :
    AVC P tb dr (.call ⟨.builtin .append, #[x, y], #[t, t']⟩) ty ev ⟨vs, lv, N0⟩ (Kq (dO id (cI .u8) (l ++ strB s)) ⟨vs, (id, (l ++ strB s).length, j.size, e) :: lv, N0⟩) := by
  show builtinV tb .append [t, t'] [ev x, ev y] _ _
  rw [hx, hy, builtin_append, appendV_own, ht]
  simp only [hi, he]
  refine ⟨by omega, (fun h => by cases h), fun _ => hjb, ?_⟩
  rw [hj]
  refine news_str ht' hi' ?_
  unfold appOwn
  refine ⟨by rw [hj]; rfl, hl, by rw [← List.length_append]; exact hf, ?_⟩
  dsimp only [dO]
  rw [List.length_append, List.flatMap_append, hj]
  exact Kq.here _ _
theorem T_appSN {vs : List (Nat × List D)} {lv : List (Nat × Nat × Nat × TypeId)} {N0 : Nat} {t t' e : TypeId} {i i' j : TyE} {s : ByteArray} (ht : tb t = some i) (he : tb e = some j) (ht' : tb t' = some i') (hf : (strB s).length * max 1 j.bytes ≤ 140737488355328) (hi : i.ty = .slice e := by exact rfl) (hi' : i'.ty = .str := by exact rfl) (hj : j.size = 1 := by exact rfl) (hjb : j.bytes = 1 ∧ j.zero = [.int .u8 0] ∧ j.ty.agg = false := by exact ⟨rfl, rfl, rfl⟩) (hx : ev x = dN := by exact rfl) (hy : ev y = dS s := by exact rfl) :
    AVC P tb dr (.call ⟨.builtin .append, #[x, y], #[t, t']⟩) ty ev ⟨vs, lv, N0⟩ (Kq (dO N0 (cI .u8) (strB s)) ⟨vs, (N0, (strB s).length, j.size, e) :: lv, N0 + 1⟩) := by
  show builtinV tb .append [t, t'] [ev x, ev y] _ _
  rw [hx, hy, builtin_append, appendV_nil, ht]
  simp only [hi, he]
  refine ⟨by omega, (fun h => by cases h), fun _ => hjb, ?_⟩
  rw [hj]
  refine news_str ht' hi' ?_
  unfold appNil
  refine ⟨hf, ?_⟩
  dsimp only [dO]
  rw [hj]
  exact Kq.here _ _
def subL {α : Type} (l : List α) (a b : Int) : List α := (l.drop a.toNat).take (b - a).toNat
theorem subL_length {α : Type} {l : List α} {a b : Int} (h : 0 ≤ a ∧ a ≤ b ∧ b ≤ (l.length : Int)) : (subL l a b).length = (b - a).toNat := by
  simp only [subL, List.length_take, List.length_drop]; omega
theorem slE_sub {α : Type} {c : Cd α} {l : List α} {a b : Int} (h : 0 ≤ a ∧ a ≤ b ∧ b ≤ (l.length : Int)) : E.sl c.sz (b - a).toNat (((l.flatMap c.f).drop (a.toNat * c.sz)).take ((b - a).toNat * c.sz)) = slE c (subL l a b) := by
  unfold slE
  rw [subL_length h, flat_drop c.f c.h, flat_take c.f c.h]; rfl
theorem T_sl {α : Type} {t e : TypeId} {i j : TyE} {c : Cd α} {l : List α} {n : Nat} {lo hi : Option Operand} {a b : Int} (hb : 0 ≤ a ∧ a ≤ b ∧ b ≤ (l.length : Int)) (ht : tb t = some i) (he : tb e = some j) (hi1 : i.ty = .slice e := by exact rfl) (hc : c.sz = j.size := by exact rfl) (hx : (ev x).asSl j.size = some (n, l.flatMap c.f) := by exact rfl) (hn : n = l.length := by exact rfl) (hlo : boundV (lo.map ev) 0 = fun k => k a := by exact rfl) (hhi : boundV (hi.map ev) n = fun k => k b := by exact rfl) : AVC P tb dr (.slice t x lo hi none) ty ev hp (Kq (dL c (subL l a b)) hp) := by
  subst hn
  rw [av_slice]
  unfold sliceV
  rw [ht]
  simp only [hi1, he, hx, hlo, hhi, Option.map_none]
  refine ⟨hb, ?_⟩
  rw [← hc, slE_sub hb]
  exact Kq.here _ _
theorem T_slF {α : Type} {t e : TypeId} {i j : TyE} {c : Cd α} {l : List α} {n : Nat} {lo : Option Operand} {h1 m1 : Operand} {k1 k2 : IntKind} {a b : Int} (hb : 0 ≤ a ∧ a ≤ b ∧ b ≤ (l.length : Int)) (ht : tb t = some i) (he : tb e = some j) (hi1 : i.ty = .slice e := by exact rfl) (hc : c.sz = j.size := by exact rfl) (hx : (ev x).asSl j.size = some (n, l.flatMap c.f) := by exact rfl) (hn : n = l.length := by exact rfl) (hlo : boundV (lo.map ev) 0 = fun k => k a := by exact rfl) (hh : ev h1 = dI k1 b := by exact rfl) (hm : ev m1 = dI k2 b := by exact rfl) : AVC P tb dr (.slice t x lo (some h1) (some m1)) ty ev hp (Kq (dF c (subL l a b)) hp) := by
  subst hn
  rw [av_slice]
  unfold sliceV
  rw [ht]
  simp only [hi1, he, hx, hlo, Option.map_some, Option.map_none, hh, hm, boundV_some]
  refine ⟨hb, rfl, trivial, ?_⟩
  rw [← hc]
  have := slE_sub (c := c) hb
  unfold slE at this
  injection this with _ h2 h3
  show Kq (dF c (subL l a b)) hp _ _
  unfold dF
  rw [← h2, ← h3]
  exact Kq.here _ _
theorem T_slS {t : TypeId} {i : TyE} {s : ByteArray} {lo hi : Option Operand} {a b : Int} (hb : 0 ≤ a ∧ a ≤ b ∧ b ≤ (s.size : Int)) (ht : tb t = some i) (hi1 : i.ty = .str := by exact rfl) (hx : ev x = dS s := by exact rfl) (hlo : boundV (lo.map ev) 0 = fun k => k a := by exact rfl) (hhi : boundV (hi.map ev) s.size = fun k => k b := by exact rfl) : AVC P tb dr (.slice t x lo hi none) ty ev hp (Kq (dS (s.extract a.toNat b.toNat)) hp) := by
  rw [av_slice]
  unfold sliceV
  rw [ht, hx]
  simp only [hi1, hlo, hhi, Option.map_none]
  exact ⟨hb, Kq.here _ _⟩
theorem T_call {x : Operand} {f : FuncId} {as : List Operand} {ts : Array TypeId} {ds : List D} {r : D} (hev : ev x = .e (.lit (.func (.func f) #[] #[]))) (hc : PCalls P f ds r) (hp1 : ((as.map ev).map D.ex).all D.pure = true) (hl : leL ((as.map ev).map D.ex) ds) (hr : r.pure = true ∨ ∃ ds, r = .tu ds) : AVC P tb dr (.call ⟨.value x, as.toArray, ts⟩) ty ev hp (Kq r hp) := by
  show calleeV P (hvB tb ⟨.value x, as.toArray, ts⟩) (ev x) (as.toArray.toList.map ev) hp (Kq r hp)
  rw [hev]
  refine ⟨rfl, rfl, .inl ⟨hp1, r, PCalls.le hc hl, ?_⟩⟩
  unfold adoptV
  split
  · rcases hr with hr | ⟨_, hr⟩ <;> cases hr
  · rcases hr with hr | ⟨_, hr⟩ <;> cases hr
  · exact Kq.here _ _
theorem T_callO {vs : List (Nat × List D)} {lv : List (Nat × Nat × Nat × TypeId)} {N0 : Nat} {x : Operand} {f : FuncId} {as : List Operand} {ts : Array TypeId} {ds : List D} {e z n : Nat} {xs : List E} (hev : ev x = .e (.lit (.func (.func f) #[] #[]))) (hc : PCalls P f ds (.own e z n xs)) (hp1 : ((as.map ev).map D.ex).all D.pure = true) (hl : leL ((as.map ev).map D.ex) ds) : AVC P tb dr (.call ⟨.value x, as.toArray, ts⟩) ty ev ⟨vs, lv, N0⟩ (Kq (.own N0 z n xs) ⟨vs, (N0, n, z, e) :: lv, N0 + 1⟩) := by
  show calleeV P (hvB tb ⟨.value x, as.toArray, ts⟩) (ev x) (as.toArray.toList.map ev) _ _
  rw [hev]
  exact ⟨rfl, rfl, .inl ⟨hp1, _, PCalls.le hc hl, Kq.here _ _⟩⟩
theorem T_mkf {f : FuncId} {first : List Operand} (h : first.length = 0 := by exact rfl) : AVC P tb dr (.makeFunc (.func f) first.toArray ([] : List Operand).toArray) ty ev hp (Kq (.e (.lit (.func (.func f) #[] #[]))) hp) := by
  rw [av_makeFunc]
  show makeFuncV (.func f) first.length [] _
  rw [makeFuncV_0]
  exact ⟨h, Kq.here _ _⟩
theorem T_callH {x : Operand} {f : FuncId} {as : List Operand} {ts : Array TypeId} {ds : List D} (hev : ev x = .e (.lit (.func (.func f) #[] #[]))) (hc : HC P f ds hp d hp') (hd : as.map ev = ds := by exact rfl) (hh : hvB tb ⟨.value x, as.toArray, ts⟩ = true := by exact rfl) : AVC P tb dr (.call ⟨.value x, as.toArray, ts⟩) ty ev hp (Kq d hp') := by
  show calleeV P (hvB tb ⟨.value x, as.toArray, ts⟩) (ev x) (as.toArray.toList.map ev) hp _
  rw [hev]
  refine ⟨rfl, rfl, .inr ⟨hh, d, hp', ?_, Kq.here _ _⟩⟩
  show HC P f (as.map ev) hp d hp'
  rw [hd]; exact hc
theorem T_callF {x : Operand} {f : FuncId} {ks : List Nat} {as : List Operand} {ts : Array TypeId} {ds : List D} (hev : ev x = .fn f ks) (hc : HC P f ds hp d hp') (hd : as.map ev ++ ks.map (fun k => D.pt k 0) = ds := by exact rfl) (hh : hvB tb ⟨.value x, as.toArray, ts⟩ = true := by exact rfl) : AVC P tb dr (.call ⟨.value x, as.toArray, ts⟩) ty ev hp (Kq d hp') := by
  show calleeV P (hvB tb ⟨.value x, as.toArray, ts⟩) (ev x) (as.toArray.toList.map ev) hp _
  rw [hev]
  refine .inr ⟨hh, d, hp', ?_, Kq.here _ _⟩
  show HC P f (as.map ev ++ ks.map fun k => .pt k 0) hp d hp'
  rw [hd]; exact hc
theorem T_mkc {f : FuncId} {first cs : List Operand} {ks : List Nat} (h : first.length = 0 := by exact rfl) (hc : capsV (cs.map ev) = some ks := by exact rfl) (hn : cs.length ≠ 0 := by decide) : AVC P tb dr (.makeFunc (.func f) first.toArray cs.toArray) ty ev hp (Kq (.fn f ks) hp) := by
  rw [av_makeFunc]
  show first.length = 0 ∧ _
  refine ⟨h, ?_⟩
  cases cs with
  | nil => exact absurd rfl hn
  | cons c cs =>
    show (match capsV ((c :: cs).map ev) with | some ks => atHp (Kq (.fn f _) hp) hp (.fn f ks) | none => False)
    rw [hc]
    exact Kq.here _ _
theorem T_nilP {k off : Nat} (hx : ev x = .pt k off := by exact rfl) : AVC P tb dr (.nilCheck x) ty ev hp (Kq (.pt k off) hp) := by rw [av_nilCheck, hx, nilV_pt]; exact Kq.here _ _
theorem T_nilF {xs : List E} {off : Nat} (hx : ev x = .fp xs off := by exact rfl) : AVC P tb dr (.nilCheck x) ty ev hp (Kq (.fp xs off) hp) := by rw [av_nilCheck, hx, nilV_fp]; exact Kq.here _ _
end
section
variable {P : Program} {tb : TypeId → Option TyE} {x : Cx} {tm tm' : List (Nat × D)} {hp hp' : Hp} {Q : Exit → List (Nat × D) → Hp → Prop}
theorem own_mtG (w : World) (e : TypeId) (base size : Nat) (hb : base ≤ w.heap.size) : (w.alloc (.cells #[] e)).ownsRow base e size (.slice (some ⟨w.heap.size, 0, none⟩) 0 0) 0 [] :=
  ⟨by simp, .inr ⟨w.heap.size, 0, #[], rfl, hb, heap_alloc_new w _, Nat.le_refl _, by decide, by simp, by simp⟩⟩
theorem clone_of {f : FuncId} {e z n : Nat} {xs : List E} (hz : 0 < z) (hf : FnOk P f) (h : ∀ (us : List Value) (v : Value) (w : World), Sl w v z n us → (∀ u ∈ us, u.oneCell' = true) → Calls P f #[v] w fun en w' => ∃ q, en = .returned q ∧ w'.ownsRow w.heap.size e z q n us ∧ Below w.heap.size w w') : PCalls P f [.e (.sl z n xs)] (.own e z n xs) :=
  PCalls.of1 hf fun w F v hF hv => by
    have hv := hv.e_inv
    obtain ⟨us, hsl, hpw⟩ := sl_rep hv
    refine (h us v w hsl (fun u hu => by
      obtain ⟨j, hj⟩ := List.getElem?_of_mem hu
      have hlt : j < xs.length := by
        rw [hpw.1]
        rcases Nat.lt_or_ge j us.length with h | h
        · exact h
        · rw [List.getElem?_eq_none h] at hj; cases hj
      exact (hpw.2 j _ u (List.getElem?_eq_getElem hlt) hj).one)).mono ?_
    rintro en w' ⟨q, rfl, ho, hb⟩
    exact ⟨q, rfl, ⟨hz, ⟨us, ho⟩, own_rep hF hz ho hb hpw⟩, hb⟩
/-! ### Loops, joins, ends -/
theorem AW.loopO {c : Code} {S X : Type} {b : S → Option (S ⊕ X)} (T : S → List (Nat × D)) (H : S → Hp) (QX : X → Exit → List (Nat × D) → Hp → Prop)
    (round : ∀ s y, b s = some y → AW P x c (T s) (H s) fun ex tm' hp' => match y with | .inl s' => ex = .normal ∧ Wk x tm' hp' (T s') (H s') | .inr e => ex ≠ .normal ∧ QX e ex tm' hp')
    {s : S} {e : X} (h : loopO b s = some e) (hw : Wk x tm hp (T s) (H s)) : AW P x (.loop c) tm hp (QX e) := by
  obtain ⟨n, hn⟩ := loopO_some.1 h
  refine AW.loop (fun n tm hp => ∃ s, tm = T s ∧ hp = H s ∧ loopN b n s = some e) (n := n) hw ⟨s, rfl, rfl, hn⟩ ?_
  rintro n tm hp ⟨s, rfl, rfl, hs⟩
  cases n with
  | zero => cases hs
  | succ n =>
    unfold loopN at hs
    split at hs
    · rename_i s' hb
      refine AW.mono (round s _ hb) ?_
      rintro ex tm' hp' ⟨rfl, hwk⟩
      exact ⟨n, _, _, Nat.lt_succ_self _, hwk, s', rfl, rfl, hs⟩
    · rename_i e' hb
      injection hs with hs
      subst hs
      refine AW.mono (round s _ hb) ?_
      rintro ex tm' hp' ⟨h1, h2⟩
      cases ex with
      | normal => exact absurd rfl h1
      | _ => exact h2
    · cases hs
/-- What is kept at a join: entries under their old numbers, as much as is known. -/
def wkT (σ : Nat → Nat) (m : Nat) (tm : List (Nat × D)) : List (Nat × D) → Prop
  | [] => True
  | (t, d) :: l => ((∃ d0, tm.lookup t = some d0 ∧ d0.le (d.ren σ)) ∧ d.idsB m = true ∧ d.noOs = true) ∧ wkT σ m tm l
def wkV (σ : Nat → Nat) (m : Nat) (vs : List (Nat × List D)) : List (Nat × List D) → Prop
  | [] => True
  | (k, ds) :: l => (k < m ∧ (∃ ds0, vs.lookup (σ k) = some ds0 ∧ wksL ds0 (ds.map (D.renC σ))) ∧ ds.all (D.idsC m) = true ∧ ds.all D.noO = true) ∧ wkV σ m vs l
def wkL (σ : Nat → Nat) (m : Nat) (lv : List (Nat × Nat × Nat × TypeId)) : List (Nat × Nat × Nat × TypeId) → Prop
  | [] => True
  | (k, y) :: l => (k < m ∧ lv.lookup (σ k) = some y) ∧ wkL σ m lv l
theorem wkT_mem {σ : Nat → Nat} {m : Nat} : ∀ {l : List (Nat × D)}, wkT σ m tm l → ∀ p ∈ l, (∃ d0, tm.lookup p.1 = some d0 ∧ d0.le (p.2.ren σ)) ∧ p.2.idsB m = true ∧ p.2.noOs = true
  | _ :: _, h, _, .head _ => h.1
  | _ :: _, h, p, .tail _ hp => wkT_mem h.2 p hp
theorem wkV_mem {σ : Nat → Nat} {m : Nat} {vs : List (Nat × List D)} : ∀ {l : List (Nat × List D)}, wkV σ m vs l → ∀ p ∈ l, p.1 < m ∧ (∃ ds0, vs.lookup (σ p.1) = some ds0 ∧ wksL ds0 (p.2.map (D.renC σ))) ∧ p.2.all (D.idsC m) = true ∧ p.2.all D.noO = true
  | _ :: _, h, _, .head _ => h.1
  | _ :: _, h, p, .tail _ hp => wkV_mem h.2 p hp
theorem wkL_mem {σ : Nat → Nat} {m : Nat} {lv : List (Nat × Nat × Nat × TypeId)} : ∀ {l : List (Nat × Nat × Nat × TypeId)}, wkL σ m lv l → ∀ p ∈ l, p.1 < m ∧ lv.lookup (σ p.1) = some p.2
  | _ :: _, h, _, .head _ => h.1
  | _ :: _, h, p, .tail _ hp => wkL_mem h.2 p hp
theorem Wk.to {vars' : List (Nat × List D)} {live' : List (Nat × Nat × Nat × TypeId)} {m : Nat} (N0 : Nat) (os : List Nat) (h0 : x.hp0.next = N0) (hs : (os.all fun o => decide (N0 ≤ o)) = true) (hnd : os.Nodup) (hm : m = N0 + os.length)
    (ht : wkT (sg N0 os) m tm tm') (hv : wkV (sg N0 os) m hp.vars vars') (hl : wkL (sg N0 os) m hp.live live') : Wk x tm hp tm' ⟨vars', live', m⟩ := by
  have hs : ∀ o ∈ os, N0 ≤ o := by simpa using hs
  intro a w ⟨g, hr, htm, hsz, hdf, hB, hF, hM⟩
  subst h0 hm
  have hlive : ∀ id y, (⟨vars', live', x.hp0.next + os.length⟩ : Hp).live.lookup id = some y → hp.live.lookup (sg x.hp0.next os id) = some y := fun id y h => (wkL_mem hl _ (mem_of_lookup h)).2
  have hlt : ∀ i, i < x.hp0.next → sg x.hp0.next os i = i := fun i hi => by unfold sg; simp [hi]
  refine ⟨⟨fun i => g.μ (sg x.hp0.next os i), fun i => g.τ (sg x.hp0.next os i), g.F⟩, ⟨fun k ds hk => ?_, fun k k' ds ds' hk hk' he => ?_, fun id n e hi => ?_, fun id id' t t' b hi hi' hb hb' => ?_, hr.base, hr.fits⟩, fun t d h => ?_, hsz, hdf, hB, hF,
    ⟨hM.size, hM.cell, hM.forb, Nat.le_add_right _ _, fun k hk => by show g.μ _ = _; rw [hlt k hk]; exact hM.μ k hk, fun id hid n e hl' => ?_, fun b hb hf => ⟨(hM.fr b hb hf).1, (hM.fr b hb hf).2.1, fun k ds hk => by obtain ⟨_, ⟨_, h, _⟩, _⟩ := wkV_mem hv _ (mem_of_lookup hk); exact (hM.fr b hb hf).2.2.1 _ _ h, fun id t hi => (hM.fr b hb hf).2.2.2 _ t (hlive id _ hi)⟩⟩⟩
  · obtain ⟨h1, ⟨ds0, h2, h2'⟩, h3, h4⟩ := wkV_mem hv _ (mem_of_lookup hk)
    obtain ⟨_, h5, h6, cs, ty, h7, h8, h9⟩ := hr.var _ _ h2
    have h3' : ∀ d ∈ ds, D.idsC (x.hp0.next + os.length) d = true := by simpa using h3
    have h4' : ∀ d ∈ ds, D.noO d = true := by simpa using h4
    have h10 := wksL_len h2'
    refine ⟨h1, h5, h6, cs, ty, h7, by rw [List.length_map] at h10; rw [h8, h10], fun j u hu => ⟨(h9 j u hu).1, fun d hd => ?_⟩⟩
    obtain ⟨d0, hd0, hle⟩ := wksL_get h2' (j := j) (d' := d.renC (sg x.hp0.next os)) (by rw [List.getElem?_map, hd]; rfl)
    exact renC_rep (((h9 j u hu).2 d0 hd0).leC hle) (h3' d (List.mem_of_getElem? hd)) (h4' d (List.mem_of_getElem? hd)) rfl (fun _ => rfl) (fun _ => rfl) rfl hlive
  · obtain ⟨h1, ⟨_, h2, _⟩, _⟩ := wkV_mem hv _ (mem_of_lookup hk)
    obtain ⟨h1', ⟨_, h2', _⟩, _⟩ := wkV_mem hv _ (mem_of_lookup hk')
    exact sg_inj hs hnd h1 h1' (hr.inj _ _ _ _ h2 h2' he)
  · obtain ⟨h1, h2⟩ := wkL_mem hl _ (mem_of_lookup hi)
    obtain ⟨_, us, h3, h4, h5⟩ := hr.tok _ n e h2
    exact ⟨h1, us, h3, h4, fun b hb => ⟨(h5 b hb).1, fun k ds hk => by
      obtain ⟨_, ⟨_, h6, _⟩, _⟩ := wkV_mem hv _ (mem_of_lookup hk)
      exact (h5 b hb).2 _ _ h6⟩⟩
  · obtain ⟨h1, h2⟩ := wkL_mem hl _ (mem_of_lookup hi)
    obtain ⟨h1', h2'⟩ := wkL_mem hl _ (mem_of_lookup hi')
    exact sg_inj hs hnd h1 h1' (hr.tinj _ _ _ _ b h2 h2' hb hb')
  · obtain ⟨⟨d0, h1, hle⟩, h2, h3⟩ := wkT_mem ht _ (mem_of_lookup h)
    exact ren_rep ((htm t _ h1).le hle) h2 h3 rfl (fun _ => rfl) (fun _ => rfl) rfl hlive
  · obtain ⟨m0, h1, h2, h3⟩ := hM.live id hid n e (by rw [← hlt id hid]; exact hlive id _ hl')
    exact ⟨m0, h1, h2, fun h => by show g.τ _ = _; rw [hlt id hid]; exact h3 h⟩
/-- Seen as data. -/
theorem le_refl' (d : D) : d.le d := .inl (.inl rfl)
theorem le_eq {d d' : D} (h : d = d') : d.le d' := h ▸ le_refl' d
theorem le_ex (d : D) : d.le d.ex := .inr (.inl rfl)
theorem le_nil {z : Nat} (hz : 0 < z) : D.le dN (.e (.sl z 0 [])) := .inl (.inr (.inr ⟨rfl, z, hz, rfl⟩))
theorem le_ag {ds ds' : List D} (h : wksL ds ds') : D.le (.ag ds) (.ag ds') := .inr (.inr ⟨ds, ds', rfl, rfl, h⟩)
theorem resD_t {t : Tmp} {d : D} {k : D → Prop} (h : tm.lookup t = some d) (hk : k d) : resD tb tm hp (.tmp t) k := ⟨d, h, hk⟩
theorem resD_c {p : Tmp} {ty : TypeId} {j off : Nat} {i : TyE} {ds : List D} {d : D} {k : D → Prop} (h : tm.lookup p = some (.pt j off)) (ht : tb ty = some i) (hg : i.ty.agg = false) (hv : hp.vars.lookup j = some ds) (hn : j < hp.next) (hd : ds[off]? = some d) (hk : k d) : resD tb tm hp (.cell p ty) k := by
  refine ⟨_, h, ⟨i, ht⟩, ?_⟩
  rw [loadV_pt, ht, hv]
  simp only [hg]
  exact ⟨hn, d, hd, hk⟩
theorem resD_a {p : Tmp} {ty : TypeId} {j off : Nat} {i : TyE} {ds es : List D} {k : D → Prop} (h : tm.lookup p = some (.pt j off)) (ht : tb ty = some i) (hg : i.ty.agg = true) (hv : hp.vars.lookup j = some ds) (hn : j < hp.next) (hl : off + i.size ≤ ds.length) (hd : (ds.drop off).take i.size = es) (hk : k (.ag es)) : resD tb tm hp (.cell p ty) k := by
  refine ⟨_, h, ⟨i, ht⟩, ?_⟩
  rw [loadV_pt, ht, hv]
  simp only [hg]
  exact ⟨hn, hl, by rw [hd]; exact hk⟩
theorem RetV.one {t : Tmp} {d r : D} (h : tm.lookup t = some d) (hl : d.le r) (hp1 : r.pure = true) : RetV tb [.tmp t] tm hp r := ⟨d, h, .inr (.inr ⟨r, hl, hp1, rfl⟩)⟩
theorem RetV.own {t : Tmp} {id e z n : Nat} {xs : List E} (h : tm.lookup t = some (.own id z n xs)) (hl : hp.live.lookup id = some (n, z, e)) : RetV tb [.tmp t] tm hp (.own e z n xs) := ⟨_, h, .inr (.inl ⟨id, e, z, n, xs, rfl, hl, rfl⟩)⟩
theorem RetV.two {t t' : Tmp} {d d' r r' : D} (h : tm.lookup t = some d) (h' : tm.lookup t' = some d') (hl : d.le r) (hl' : d'.le r') (hp1 : r.pure = true) (hp1' : r'.pure = true) : RetV tb [.tmp t, .tmp t'] tm hp (.tu [r, r']) :=
  ⟨d, h, d', h', .inr ⟨r, r', hl, hl', ⟨hp1, hp1'⟩, rfl⟩⟩
theorem RetV.three {t t' t'' : Tmp} {d d' d'' r r' r'' : D} (h : tm.lookup t = some d) (h' : tm.lookup t' = some d') (h'' : tm.lookup t'' = some d'') (hl : d.le r) (hl' : d'.le r') (hl'' : d''.le r'') (hp1 : r.pure = true) (hp1' : r'.pure = true) (hp1'' : r''.pure = true) : RetV tb [.tmp t, .tmp t', .tmp t''] tm hp (.tu [r, r', r'']) :=
  ⟨d, h, d', h', d'', h'', .inr ⟨r, r', r'', hl, hl', hl'', ⟨hp1, hp1', hp1''⟩, rfl⟩⟩
/-- A result that may grow is data, too. -/
theorem PCalls.toE {f : FuncId} {ds : List D} {e z n : Nat} {xs : List E} (h : PCalls P f ds (.own e z n xs)) : PCalls P f ds (.e (.sl z n xs)) := by
  refine ⟨h.1, fun w F vs hF hs hv => (h.2 w F vs hF hs hv).mono ?_⟩
  rintro e w' ⟨v, rfl, hr, hb⟩
  obtain ⟨_, _, h3⟩ := hr
  exact ⟨v, rfl, RepD.e _ _ (h3.less fun p hp => .inl hp), hb⟩
end
theorem dG_noC {α : Type} (c : Cd α) (a : α) (σ : Nat → Nat) : ((c.f a).map D.e).map (D.renC σ) = (c.f a).map D.e := by
  rw [List.map_map]; exact List.map_congr_left fun _ _ => rfl
theorem dG_ren {α : Type} (c : Cd α) (a : α) (σ : Nat → Nat) : (dG c a).ren σ = dG c a := by
  show D.ag (((c.f a).map D.e).map (D.renC σ)) = _
  rw [dG_noC]
theorem le_G {α : Type} {c : Cd α} {a : α} {σ : Nat → Nat} {d : D} (h : d.le (dG c a)) : d.le ((dG c a).ren σ) := by rw [dG_ren]; exact h
theorem ids_G {α : Type} (c : Cd α) (a : α) (m : Nat) : (dG c a).idsB m = true := by
  show ((c.f a).map D.e).all (D.idsC m) = true
  rw [List.all_map]; exact List.all_eq_true.2 fun _ _ => rfl
theorem noO_G {α : Type} (c : Cd α) (a : α) : (dG c a).noOs = true := by
  show ((c.f a).map D.e).all D.noO = true
  rw [List.all_map]; exact List.all_eq_true.2 fun _ _ => rfl
theorem pure_G {α : Type} (c : Cd α) (a : α) : (dG c a).pure = true := by
  show ((c.f a).map D.e).all D.pureC = true
  rw [List.all_map]; exact List.all_eq_true.2 fun _ _ => rfl
theorem whole_G {α : Type} (c : Cd α) (a : α) {z : Nat} (h : c.sz = z) : ((c.f a).drop 0).take z = c.f a := by
  rw [List.drop_zero, List.take_of_length_le (by rw [c.h, h]; exact Nat.le_refl _)]
theorem AW.scope {P : Program} {x : Cx} {Q : Exit → List (Nat × D) → Hp → Prop} {tm : List (Nat × D)} {hp : Hp} {c : Code} (h : AW P x c tm hp fun ex tm' hp' => match ex with | .goto _ => False | ex => Q ex tm' hp') : AW P x (.scope c) tm hp Q := by
  intro a w hr
  refine wp_scope_straight (wp_mono (h a w hr) ?_)
  rintro ex a' w' ⟨tm', hp', h1, h2⟩
  cases ex with
  | goto l => exact h2.elim
  | _ => exact ⟨tm', hp', h1, h2⟩
theorem AW.label {P : Program} {x : Cx} {Q : Exit → List (Nat × D) → Hp → Prop} {tm : List (Nat × D)} {hp : Hp} {l : Nat} (h : Q .normal tm hp) : AW P x (.label l) tm hp Q := fun _ _ hr => wp_label ⟨tm, hp, hr, h⟩
/-- At most n rounds of a loop. -/
def AL (P : Program) (x : Cx) (c : Code) (Q : Exit → List (Nat × D) → Hp → Prop) (n : Nat) (tm : List (Nat × D)) (hp : Hp) : Prop := ∀ a w, RS x tm hp a w → Code.rounds P c (fun ex a' w' => ∃ tm' hp', RS x tm' hp' a' w' ∧ Q ex tm' hp') n a w
theorem AL.s {P : Program} {x : Cx} {Q : Exit → List (Nat × D) → Hp → Prop} {tm : List (Nat × D)} {hp : Hp} {c : Code} {n : Nat} (h : AW P x c tm hp fun ex tm' hp' => match ex with | .normal => AL P x c Q n tm' hp' | ex => Q ex tm' hp') : AL P x c Q (n + 1) tm hp := by
  intro a w hr
  refine wp_mono (h a w hr) ?_
  rintro ex a' w' ⟨tm', hp', h1, h2⟩
  cases ex with
  | normal => exact h2 a' w' h1
  | _ => exact ⟨tm', hp', h1, h2⟩
theorem AW.rounds {P : Program} {x : Cx} {Q : Exit → List (Nat × D) → Hp → Prop} {tm : List (Nat × D)} {hp : Hp} {c : Code} (n : Nat) (h : AL P x c Q n tm hp) : AW P x (.loop c) tm hp Q := fun a w hr => wp_loop_rounds n (h a w hr)
theorem AW.condT {P : Program} {x : Cx} {Q : Exit → List (Nat × D) → Hp → Prop} {tm : List (Nat × D)} {hp : Hp} {c : Operand} {c1 c2 : Code} {b : Bool} (hc : evD tm c = .e (.lit (.bool b))) (hb : b = true) (h : AW P x c1 tm hp Q) : AW P x (.cond c c1 c2) tm hp Q :=
  AW.condS hc (fun _ => h) fun hf => by rw [hb] at hf; cases hf
theorem AW.condF {P : Program} {x : Cx} {Q : Exit → List (Nat × D) → Hp → Prop} {tm : List (Nat × D)} {hp : Hp} {c : Operand} {c1 c2 : Code} {b : Bool} (hc : evD tm c = .e (.lit (.bool b))) (hb : b = false) (h : AW P x c2 tm hp Q) : AW P x (.cond c c1 c2) tm hp Q :=
  AW.condS hc (fun hf => by rw [hb] at hf; cases hf) fun _ => h
theorem T_iaK {P : Program} {tb : TypeId → Option TyE} {dr : Bool} {ty : TypeId} {ev : Operand → D} {x y : Operand} {hp : Hp} {t e : TypeId} {i j : TyE} {n m off n0 : Nat} {k : IntKind} {v : Int} (hv : v = (n0 : Int)) (hb : 0 ≤ v ∧ v < (n : Int)) (ht : tb t = some i) (he : tb e = some j) (hi : i.ty = .arr n e := by exact rfl) (hx : ev x = .pt m off := by exact rfl) (hy : ev y = dI k v := by exact rfl) : AVC P tb dr (.indexAddr t x y) ty ev hp (Kq (.pt m (off + n0 * j.size)) hp) := by
  have := T_iaA (P := P) (dr := dr) (ty := ty) (hp := hp) hb ht he hi hx hy
  rw [hv, Int.toNat_natCast] at this
  exact this
theorem wk {x : Cx} {tm tm' : List (Nat × D)} {hp : Hp} {vars' : List (Nat × List D)} {live' : List (Nat × Nat × Nat × TypeId)} {m : Nat} (h0 : x.hp0 = ⟨[], [], 0⟩) (os : List Nat) (ht : wkT (sg 0 os) m tm tm') (hv : wkV (sg 0 os) m hp.vars vars') (hl : wkL (sg 0 os) m hp.live live') (hnd : os.Nodup := by decide) (hm : m = 0 + os.length := by exact rfl) : Wk x tm hp tm' ⟨vars', live', m⟩ :=
  Wk.to 0 os (by rw [h0]) (by simp) hnd hm ht hv hl
theorem wkN {x : Cx} {tm tm' : List (Nat × D)} {hp : Hp} {vars' : List (Nat × List D)} {live' : List (Nat × Nat × Nat × TypeId)} {m N0 : Nat} (h0 : x.hp0.next = N0) (os : List Nat) (ht : wkT (sg N0 os) m tm tm') (hv : wkV (sg N0 os) m hp.vars vars') (hl : wkL (sg N0 os) m hp.live live') (hs : (os.all fun o => decide (N0 ≤ o)) = true := by decide) (hnd : os.Nodup := by decide) (hm : m = N0 + os.length := by exact rfl) : Wk x tm hp tm' ⟨vars', live', m⟩ :=
  Wk.to N0 os h0 hs hnd hm ht hv hl
/-- A nil slice in a variable is one that may grow. -/
theorem Wk.nilOwn {x : Cx} {tm : List (Nat × D)} {vs : List (Nat × List D)} {lv : List (Nat × Nat × Nat × TypeId)} {N0 : Nat} (k j : Nat) (e : TypeId) (z : Nat) {ds ds' : List D} (hz : Nat.ble 1 z = true := by exact rfl) (hk : vs.lookup k = some ds := by exact rfl) (hj : ds[j]? = some dN := by exact rfl) (hd : ds.set j (.own N0 z 0 []) = ds' := by exact rfl) : Wk x tm ⟨vs, lv, N0⟩ tm ⟨(k, ds') :: vs, (N0, 0, z, e) :: lv, N0 + 1⟩ := by
  subst hd
  exact Wk.nilOwn0 (hp := ⟨vs, lv, N0⟩) k j e z (leb hz) hk hj
theorem Wk.trans {x : Cx} {tm tm' tm'' : List (Nat × D)} {hp hp' hp'' : Hp} (h : Wk x tm hp tm' hp') (h' : Wk x tm' hp' tm'' hp'') : Wk x tm hp tm'' hp'' := fun a w hr => h' a w (h a w hr)
theorem pure_ex_G {α : Type} (c : Cd α) (a : α) : (D.ex (dG c a)).pure = true := by
  have : D.ex (dG c a) = dG c a := by
    show D.ag (((c.f a).map D.e).map D.exC) = _
    rw [List.map_map]; rfl
  rw [this]; exact pure_G c a
section
variable {σ : Nat → Nat} {m k t : Nat} {tm l : List (Nat × D)} {d d0 d' : D} {ds ds0 ds' : List D} {vs lv : List (Nat × List D)} {ll l2 : List (Nat × Nat × Nat × TypeId)} {y : Nat × Nat × TypeId}
theorem wT (h1 : tm.lookup t = some d0) (h2 : d0.le (d.ren σ)) (h3 : d.idsB m = true) (h4 : d.noOs = true) (hl : wkT σ m tm l) : wkT σ m tm ((t, d) :: l) := ⟨⟨⟨_, h1, h2⟩, h3, h4⟩, hl⟩
theorem wR (h1 : tm.lookup t = some (d.ren σ)) (hl : wkT σ m tm l) (h3 : d.idsB m = true := by exact rfl) (h4 : d.noOs = true := by exact rfl) : wkT σ m tm ((t, d) :: l) := ⟨⟨⟨_, h1, le_refl' _⟩, h3, h4⟩, hl⟩
theorem vR (h1 : vs.lookup (σ k) = some (ds.map (D.renC σ))) (hl : wkV σ m vs lv) (h0 : Nat.ble (k + 1) m = true := by exact rfl) (h3 : ds.all (D.idsC m) = true := by exact rfl) (h4 : ds.all D.noO = true := by exact rfl) : wkV σ m vs ((k, ds) :: lv) := ⟨⟨ltb h0, ⟨_, h1, wksL_refl _⟩, h3, h4⟩, hl⟩
theorem wG {α : Type} {c : Cd α} {a : α} (h1 : tm.lookup t = some d0) (h2 : d0.le (dG c a)) (hl : wkT σ m tm l) : wkT σ m tm ((t, dG c a) :: l) := ⟨⟨⟨_, h1, le_G h2⟩, ids_G _ _ _, noO_G _ _⟩, hl⟩
theorem wV (h0 : Nat.ble (k + 1) m = true) (h1 : vs.lookup (σ k) = some ds0) (h2 : wksL ds0 (ds.map (D.renC σ))) (h3 : ds.all (D.idsC m) = true) (h4 : ds.all D.noO = true) (hl : wkV σ m vs lv) : wkV σ m vs ((k, ds) :: lv) := ⟨⟨ltb h0, ⟨_, h1, h2⟩, h3, h4⟩, hl⟩
theorem wL (h0 : Nat.ble (k + 1) m = true) (h1 : ll.lookup (σ k) = some y) (hl : wkL σ m ll l2) : wkL σ m ll ((k, y) :: l2) := ⟨⟨ltb h0, h1⟩, hl⟩
theorem wc (h : d.leC d') (hl : wksL ds ds') : wksL (d :: ds) (d' :: ds') := ⟨h, hl⟩
theorem lc_r (d : D) : d.leC d := .inl rfl
theorem lc_x (d : D) : d.leC d.exC := .inr (.inl rfl)
theorem lc_n {z : Nat} (h : Nat.ble 1 z = true) : D.leC dN (.e (.sl z 0 [])) := .inr (.inr ⟨rfl, z, leb h, rfl⟩)
theorem wTn : wkT σ m tm [] := trivial
theorem wVn : wkV σ m vs [] := trivial
theorem wLn : wkL σ m ll [] := trivial
theorem wcn : wksL [] [] := trivial
theorem lAn : leL [] [] := trivial
theorem lA (h : d.le d') (hl : leL ds ds') : leL (d :: ds) (d' :: ds') := ⟨h, hl⟩
end
theorem rH0 {x : Cx} {tb : TypeId → Option TyE} {tm : List (Nat × D)} {hp hp' : Hp} (hw : Wk x tm hp [] hp') : ∃ tm', Wk x tm hp tm' hp' ∧ RetH tb [] tm' hp' (.tu []) := ⟨_, hw, rfl⟩
theorem rH1 {x : Cx} {tb : TypeId → Option TyE} {tm : List (Nat × D)} {hp hp' : Hp} {t : Tmp} {d : D} (hw : Wk x tm hp [(t, d)] hp') : ∃ tm', Wk x tm hp tm' hp' ∧ RetH tb [.tmp t] tm' hp' d := ⟨_, hw, _, lookup_cons_eq, rfl⟩
theorem rH2 {x : Cx} {tb : TypeId → Option TyE} {tm : List (Nat × D)} {hp hp' : Hp} {t t' : Tmp} {d d' : D} (hw : Wk x tm hp [(t, d), (t', d')] hp') (hne : t' ≠ t := by decide) : ∃ tm', Wk x tm hp tm' hp' ∧ RetH tb [.tmp t, .tmp t'] tm' hp' (.tu [d, d']) := ⟨_, hw, _, lookup_cons_eq, _, (lookup_cons_ne hne).trans lookup_cons_eq, rfl⟩
theorem rH3 {x : Cx} {tb : TypeId → Option TyE} {tm : List (Nat × D)} {hp hp' : Hp} {t t' t'' : Tmp} {d d' d'' : D} (hw : Wk x tm hp [(t, d), (t', d'), (t'', d'')] hp') (hne : t' ≠ t := by decide) (hne2 : t'' ≠ t := by decide) (hne3 : t'' ≠ t' := by decide) : ∃ tm', Wk x tm hp tm' hp' ∧ RetH tb [.tmp t, .tmp t', .tmp t''] tm' hp' (.tu [d, d', d'']) :=
  ⟨_, hw, _, lookup_cons_eq, _, (lookup_cons_ne hne).trans lookup_cons_eq, _, (lookup_cons_ne hne2).trans ((lookup_cons_ne hne3).trans lookup_cons_eq), rfl⟩
theorem RetV.mk1 {tb : TypeId → Option TyE} {tm : List (Nat × D)} {hp : Hp} {q : ResultVar} {r : D} (h : resD tb tm hp q fun d => (d.ex.pure = true ∧ r = d.ex) ∨ (∃ id e z n xs, d = .own id z n xs ∧ hp.live.lookup id = some (n, z, e) ∧ r = .own e z n xs) ∨ ∃ d2, d.le d2 ∧ d2.pure = true ∧ r = d2) : RetV tb [q] tm hp r := h
theorem RetV.mk2 {tb : TypeId → Option TyE} {tm : List (Nat × D)} {hp : Hp} {q q' : ResultVar} {r : D} (h : resD tb tm hp q fun d => resD tb tm hp q' fun d' => ((d.ex.pure = true ∧ d'.ex.pure = true) ∧ r = .tu [d.ex, d'.ex]) ∨ ∃ e e', d.le e ∧ d'.le e' ∧ (e.pure = true ∧ e'.pure = true) ∧ r = .tu [e, e']) : RetV tb [q, q'] tm hp r := h
theorem RetV.mk3 {tb : TypeId → Option TyE} {tm : List (Nat × D)} {hp : Hp} {q q' q'' : ResultVar} {r : D} (h : resD tb tm hp q fun d => resD tb tm hp q' fun d' => resD tb tm hp q'' fun d'' => ((d.ex.pure = true ∧ d'.ex.pure = true ∧ d''.ex.pure = true) ∧ r = .tu [d.ex, d'.ex, d''.ex]) ∨ ∃ e e' e'', d.le e ∧ d'.le e' ∧ d''.le e'' ∧ (e.pure = true ∧ e'.pure = true ∧ e''.pure = true) ∧ r = .tu [e, e', e'']) : RetV tb [q, q', q''] tm hp r := h
end Go.Proofs.Ytakbadleipbngaa
